/- RatchetStarts: part 45 of 50 of its proof. -/
import Derived.Test.YtmkefajojokkfaaGreatC37
import Derived.Test.YtmkefajojokkfaaGreatC38
set_option linter.unusedVariables false
set_option linter.unusedSimpArgs false
namespace Go.Am
set_option linter.unusedSimpArgs false
set_option maxRecDepth 100000
def sD1 : ByteArray := ⟨#[51, 50, 53, 54, 48, 54, 50, 53, 48, 57, 49, 54, 53, 53, 55, 52, 51, 49, 55, 57, 53, 57, 56, 51, 54, 50, 54, 51, 53, 54, 49, 49, 48, 54, 51, 49, 50, 57, 52, 48, 48, 56, 49, 49, 53, 55, 50, 55, 56, 52, 56, 56, 48, 53, 53, 54, 48, 48, 50, 51, 51, 56, 55, 49, 54, 55, 57, 50, 55, 50, 51, 51, 53, 48, 52]⟩
def sD2 : ByteArray := ⟨#[51, 57, 51, 56, 50, 51, 53, 55, 50, 51, 53, 52, 56, 57, 54, 49, 52, 53, 56, 49, 55, 50, 51, 48, 54, 48, 55, 56, 49, 53, 53, 51, 48, 50, 49, 49, 49, 50, 53, 50, 57, 57, 49, 49, 55, 49, 57, 52, 52, 48, 54, 57, 56, 49, 55, 54, 56, 56, 50, 56, 56, 53, 56, 53, 51, 57, 54, 51, 52, 52, 53, 55, 48, 53, 56, 50, 51]⟩
def dD1 : List Int := [60384, 31866, 16699, 44728, 22038, 64227, 40945, 27332, 2522, 60301, 12956, 64945, 25222, 5637, 18783, 184]
def dD2 : List Int := [40031, 48277, 20643, 9356, 53425, 21937, 33692, 23535, 17412, 50268, 7256, 34446, 8920, 56654, 40912, 22289]
def RxD : Env := envAdd id_hollowtreeref03_Num_carry (.pure (num1V carL)) (envAdd id_hollowtreeref03_Num_Small (.pure (numSV (smF carL))) G10)
theorem dig_1 : evFn RxD af_hollowtreeref03_digits [.str sD1] ⟨16, []⟩ kV = some (n16 dD1, ⟨0, []⟩) := by kernel_rfl
theorem dig_2 : evFn RxD af_hollowtreeref03_digits [.str sD2] ⟨16, []⟩ kV = some (n16 dD2, ⟨0, []⟩) := by kernel_rfl
def digT (d1 d2 : List Int) : OrcP := tabO [.str sD1] (n16 d1) (tabO [.str sD2] (n16 d2) noneO)
theorem dig_pure {P : Program} {f : FuncId} (F : Fn P f RxD af_hollowtreeref03_digits) : PureOk P f (digT dD1 dD2) := F.tab rfl rfl dig_1 (F.tab rfl rfl dig_2 noneO_ok)
def RxLV (Fr B : M1) (Sb : M2) (d1 d2 : List Int) : Env := envAdd id_hollowtreeref03_digits (.pure (digT d1 d2)) (envAdd id_hollowtreeref03_From (.pure (numKV Fr)) (envAdd id_hollowtreeref03_Num_Sub (.pure (num2V Sb)) (envAdd id_hollowtreeref03_Num_Bytes (.pure (bytV B)) G10)))
def opsOf : ACode → List AOper
  | .draw o => o
  | _ => []
def lwTop : ACode := af_hollowtreeref03_Low.code
def lwOps : List AOper := opsOf lwTop.r.r.l
def lwSt (F1 u X : List Int) : St := ⟨[key u, pt 16, .bool false, pt 17, key u, n16 F1, key X] ++ List.replicate 34 .undef, ⟨18, [cel 16 [.ints .u8 32 u], cel 17 [.ints .u8 32 X]]⟩⟩
def k1M : List Int := 1 :: List.replicate 31 0
section
variable (Fr B : M1) (Sb : M2) (d1 d2 : List Int)
def lwK (u : List Int) : List Int := fixL 32 (B (fixL 16 (Fr u)))
def lw2 : List Int := fixL 32 (B (fixL 16 (Sb (fixL 16 (Fr (List.replicate 32 0))) (fixL 16 (Fr k1M)))))
theorem low_pre (o : List AOper) (R : ACode) (K : Kont) (u : List Int) : ev (RxLV Fr B Sb d1 d2) (.seq none lwTop.l (.seq none lwTop.r.l (.seq none (.draw o) R))) ⟨[key u] ++ List.replicate 40 .undef, ⟨16, []⟩⟩ K =
    ev (RxLV Fr B Sb d1 d2) (.draw o) (lwSt (fixL 16 (Fr u)) u (lwK Fr B u)) (kSeq (RxLV Fr B Sb d1 d2) none R K) := by kernel_rfl
def lowFiveR (X a b c d e : List Int) : Option Res :=
  bif (X == a && true) then yes true else bif (X == b && true) then yes true else bif (X == c && true) then yes true else bif (X == d && true) then yes true else yes (X == e && true)
theorem low_draw (F1 u X : List Int) : (if okDraw (RxLV Fr B Sb d1 d2) (befsD lwOps []) 0 lwOps then evDraw (RxLV Fr B Sb d1 d2) 18 (befsD lwOps []) 0 lwOps (lwSt F1 u X).t (lwSt F1 u X).h []
      (fun t h => kSeq (RxLV Fr B Sb d1 d2) none .ret (kFn [.t 2] kV) .normal ⟨t, { h with next := 18 + stride * lwOps.length }⟩) else none) =
    lowFiveR X (lwK Fr B (List.replicate 32 0)) (lwK Fr B k1M) (lw2 Fr B Sb) (fixL 32 (B d1)) (fixL 32 (B d2)) := by kernel_rfl
theorem lowR_run (u : List Int) : evFn (RxLV Fr B Sb d1 d2) af_hollowtreeref03_Low [key u] ⟨16, []⟩ kV =
    lowFiveR (lwK Fr B u) (lwK Fr B (List.replicate 32 0)) (lwK Fr B k1M) (lw2 Fr B Sb) (fixL 32 (B d1)) (fixL 32 (B d2)) := by
  rw [evFn_eq]
  refine Eq.trans ?_ ((low_pre Fr B Sb d1 d2 lwOps .ret (kFn [.t 2] kV) u).trans ?_)
  · rfl
  rw [ev_drawD]
  exact low_draw ..
end
def low3R (u : List Int) : Bool :=
  (lwK fromF (bytF carL) u == lwK fromF (bytF carL) (List.replicate 32 0)) || ((lwK fromF (bytF carL) u == lwK fromF (bytF carL) k1M) || ((lwK fromF (bytF carL) u == lw2 fromF (bytF carL) (subF carL)) || ((lwK fromF (bytF carL) u == fixL 32 (bytF carL dD1)) || (lwK fromF (bytF carL) u == fixL 32 (bytF carL dD2)))))
theorem five_eq (X a b c d e : List Int) : lowFiveR X a b c d e = yes ((X == a) || ((X == b) || ((X == c) || ((X == d) || (X == e))))) := by
  unfold lowFiveR
  cases X == a <;> cases X == b <;> cases X == c <;> cases X == d <;> cases X == e <;> rfl
theorem rep_D1 : Rep16 dD1 325606250916557431795983626356110631294008115727848805560023387167927233504 := ⟨rfl, by unfold DigL; decide, 0, by decide⟩
theorem rep_D2 : Rep16 dD2 39382357235489614581723060781553021112529911719440698176882885853963445705823 := ⟨rfl, by unfold DigL; decide, 0, by decide⟩
theorem byt_of {a : List Int} {n : Nat} (h : Rep16 a n) : fixL 32 (bytF carL a) = leB (n % pN) 32 := by rw [h.bytes, fixL_eq (leB_len _ _)]
def uN (u : List Int) : Nat := leN u % 57896044618658097711785492504343953926634992332820282019728792003956564819968
theorem lwK_of {u : List Int} (hl : u.length = 32) (hb : Bytes u) : lwK fromF (bytF carL) u = leB (uN u % pN) 32 := byt_of (fromF_rep hl hb).fix
theorem key_of {u : List Int} (hl : u.length = 32) (hb : Bytes u) : bytesL (fromL u) = leB (uN u % pN) 32 := bytesL_repr (fromL_repr hl hb)
theorem bytes_dec {l : List Int} (h : l.all (fun x => decide (0 ≤ x) && decide (x < 256)) = true) : Bytes l := fun x hx => by
  have := List.all_eq_true.1 h x hx
  simp only [Bool.and_eq_true, decide_eq_true_eq] at this
  omega
theorem low_law {u : List Int} (hl : u.length = 32) (hb : Bytes u) : low3R u = lowB u := by
  have e0 : lwK fromF (bytF carL) (List.replicate 32 0) = bytesL (fromL lowK0) := (lwK_of rfl (bytes_dec (by decide))).trans (key_of rfl (bytes_dec (by decide))).symm
  have e1 : lwK fromF (bytF carL) k1M = bytesL (fromL lowK1) := (lwK_of rfl (bytes_dec (by decide))).trans (key_of rfl (bytes_dec (by decide))).symm
  have e2 : lw2 fromF (bytF carL) (subF carL) = bytesL (fromL lowK2) := by
    refine (byt_of (k0_rep.fix.sub k1_rep.fix).fix).trans ?_
    rw [key_of (u := lowK2) rfl (bytes_dec (by decide))]
    congr 1
  have e3 : fixL 32 (bytF carL dD1) = bytesL (fromL lowK3) := by
    rw [byt_of rep_D1, key_of (u := lowK3) rfl (bytes_dec (by decide))]
    congr 1
  have e4 : fixL 32 (bytF carL dD2) = bytesL (fromL lowK4) := by
    rw [byt_of rep_D2, key_of (u := lowK4) rfl (bytes_dec (by decide))]
    congr 1
  have ex : lwK fromF (bytF carL) u = bytesL (fromL u) := (lwK_of hl hb).trans (key_of hl hb).symm
  unfold low3R lowB sameE
  rw [e0, e1, e2, e3, e4, ex]
  generalize bytesL (fromL u) = X
  have sw : ∀ a : List Int, (X == a) = (a == X && true) := fun a => by
    rw [Bool.and_true, Bool.eq_iff_iff, beq_iff_eq, beq_iff_eq]
    exact eq_comm
  simp only [sw]
  cases bytesL (fromL lowK0) == X && true <;> cases bytesL (fromL lowK1) == X && true <;> cases bytesL (fromL lowK2) == X && true <;> cases bytesL (fromL lowK3) == X && true <;> rfl
def RxL : Env := RxLV fromF (bytF carL) (subF carL) dD1 dD2
theorem rlow3_pure {P : Program} {f : FuncId} (F : Fn P f RxL af_hollowtreeref03_Low) : PureOk P f lowO := by
  refine F.plain fun nid args hp r ha hr => ?_
  unfold lowO at hr
  split at hr
  · rename_i u
    cases hr
    obtain ⟨⟨⟨hl, hr⟩, _⟩, _⟩ := ha
    have hb : Bytes u := fun x hx => by
      have := hr x hx rfl
      simp only [IntKind.bits] at this
      omega
    refine ⟨rfl, rfl, rfl, (lowR_run ..).trans ?_⟩
    rw [five_eq, ← low_law hl hb]
    rfl
  · cases hr
end Go.Am
