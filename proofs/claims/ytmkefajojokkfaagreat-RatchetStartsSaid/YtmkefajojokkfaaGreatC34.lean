/- RatchetStarts: part 35 of 50 of its proof. -/
import Derived.Test.YtmkefajojokkfaaGreatC33
set_option linter.unusedVariables false
set_option linter.unusedSimpArgs false
namespace Go.Am
set_option linter.unusedSimpArgs false
set_option maxRecDepth 100000
def padR (L N : Nat) : List Int := 128 :: (List.replicate (N - L - 9) 0 ++ [0, 0, 0, 0, 0, 0, ((8 * L / 256 : Nat) : Int), ((8 * L % 256 : Nat) : Int)])
def nOf (L : Nat) : Nat := if L ≤ 119 then 128 else 192
def sumRB (xs : List Int) : List Int := ser8 (blocksR (nOf xs.length / 64) (xs ++ padR xs.length (nOf xs.length)) (toW8 shaH))
def preL (F : Nat) (C R : ACode) (K : Kont) (L : Nat) (f : Nat → Int) : Option Res := ev Rs0 (.seq none uT0 (.seq none uT1 (.seq none uT2 (.seq none uT3 (.seq none (.block 0 none (.loop F uCn C)) R))))) ⟨[slB 0 L] ++ List.replicate 226 .undef, ⟨16, [roC 0 (.segs [.ints .u8 L (tab L f)])]⟩⟩ K
def preR (F : Nat) (C R : ACode) (K : Kont) (L : Nat) (f : Nat → Int) : Option Res := loopK uCn (ev Rs0 C) F (uSt ⟨L, tab L f, nOf L, tab L f ++ padR L (nOf L)⟩ 0 (nOf L) (toW8 shaH)) (kBlock 0 none (kSeq Rs0 none R K))
section
variable (F : Nat) (C R : ACode) (K : Kont) (f : Nat → Int)
theorem pre_65 : preL F C R K 65 f = preR F C R K 65 f := by kernel_rfl
theorem pre_75 : preL F C R K 75 f = preR F C R K 75 f := by kernel_rfl
theorem pre_76 : preL F C R K 76 f = preR F C R K 76 f := by kernel_rfl
theorem pre_96 : preL F C R K 96 f = preR F C R K 96 f := by kernel_rfl
theorem pre_107 : preL F C R K 107 f = preR F C R K 107 f := by kernel_rfl
theorem pre_108 : preL F C R K 108 f = preR F C R K 108 f := by kernel_rfl
theorem pre_109 : preL F C R K 109 f = preR F C R K 109 f := by kernel_rfl
theorem pre_141 : preL F C R K 141 f = preR F C R K 141 f := by kernel_rfl
end
def sumLen (n : Nat) : Bool := n == 65 || n == 75 || n == 76 || n == 96 || n == 107 || n == 108 || n == 109 || n == 141
theorem pre_all (F : Nat) (C R : ACode) (K : Kont) {L : Nat} (f : Nat → Int) (h : sumLen L = true) : preL F C R K L f = preR F C R K L f := by
  simp only [sumLen, Bool.or_eq_true, beq_iff_eq] at h
  rcases h with ((((((h | h) | h) | h) | h) | h) | h) | h <;> subst h
  · exact pre_65 F C R K f
  · exact pre_75 F C R K f
  · exact pre_76 F C R K f
  · exact pre_96 F C R K f
  · exact pre_107 F C R K f
  · exact pre_108 F C R K f
  · exact pre_109 F C R K f
  · exact pre_141 F C R K f
theorem sumLen_pad {L : Nat} (h : sumLen L = true) : L + (padR L (nOf L)).length = nOf L ∧ 64 * (nOf L / 64) = nOf L ∧ nOf L / 64 < 1000 := by
  simp only [sumLen, Bool.or_eq_true, beq_iff_eq] at h
  rcases h with ((((((h | h) | h) | h) | h) | h) | h) | h <;> subst h <;> decide
theorem sum_run {L : Nat} (f : Nat → Int) (h : sumLen L = true) : evFn Rs0 afSum [slB 0 L] ⟨16, [roC 0 (.segs [.ints .u8 L (tab L f)])]⟩ kV = some (key (sumRB (tab L f)), ⟨0, []⟩) := by
  rw [evFn_eq]
  refine Eq.trans ?_ ((pre_all 1000 uBody uEnd uKf f h).trans ?_)
  · rfl
  unfold preR sumRB
  obtain ⟨h1, h2, h3⟩ := sumLen_pad h
  have e := u_loop ⟨L, tab L f, nOf L, tab L f ++ padR L (nOf L)⟩ (nOf L / 64) 0 1000 (toW8 shaH) h3 (by
    show 0 + 64 * (nOf L / 64) ≤ (tab L f ++ padR L (nOf L)).length
    rw [List.length_append, tab_len]; omega)
  rw [h2, List.drop_zero] at e
  rw [tab_len]
  exact e
def sumV (S : List Int → List Int) : OrcP := fun _ args h => match args with
  | [s] => withBs h s fun xs => if sumLen xs.length = true then some (key (fixL 32 (S xs)), none) else none
  | _ => none
theorem ser8_len (s : W8) : (ser8 s).length = 32 := rfl
theorem sum_pure {P : Program} {f : FuncId} (F : Fn P f Rs0 afSum) : PureOk P f (sumV sumRB) := by
  refine F.lit [.sl (.ints .u8)] none fun nid args hp r ha hr => ?_
  unfold sumV at hr
  split at hr <;> try (cases hr; done)
  rename_i s
  obtain ⟨xs, hc, hl, hr1⟩ := withBs_eq hr
  split at hr1 <;> try (cases hr1; done)
  rename_i hL
  cases hr1
  refine ⟨_, _, by simp only [viewArgs, contI_isSl hc, if_true, viewS_ints hc, Option.bind_some, Option.map_some]; rfl, by simp, ?_⟩
  have hf : fixL 32 (sumRB xs) = sumRB xs := fixL_eq (ser8_len _)
  rw [hf]
  obtain ⟨g, hg⟩ := tab_of (xs := xs) rfl
  have e := sum_run (L := xs.length) g hL
  rw [← hg] at e
  have hF := F.factor [slB 0 xs.length] ⟨16, [roC 0 (.segs [.ints .u8 xs.length xs])]⟩
  have e1 := hF kV
  simp only at e1
  rw [e1] at e
  have e2 := hF (kOut none nid)
  simp only at e2
  show evFn Rs0 afSum [slB 0 xs.length] ⟨16, [roC 0 (.segs [.ints .u8 xs.length xs])]⟩ (kOut none nid) = _
  rw [e2]
  cases hk : evFn Rs0 afSum [slB 0 xs.length] ⟨16, [roC 0 (.segs [.ints .u8 xs.length xs])]⟩ kH with
  | none => rw [hk] at e; cases e
  | some q =>
    rw [hk] at e
    simp only [Option.bind_some, kV, Option.some.injEq, Prod.mk.injEq, and_true] at e
    obtain ⟨v, h'⟩ := q
    simp only at e
    subst e
    rfl
set_option maxRecDepth 100000
abbrev H1 := List Int → List Int
abbrev H2 := List Int → List Int → List Int
def keyXV (X : H2) : OrcP := fun _ args _ => match args with
  | [.agg [.ints .u8 32 xs], .agg [.ints .u8 32 ys]] => some (key (fixL 32 (X xs ys)), none)
  | _ => none
def xp (c : Int) (k : List Int) : List Int := tab 64 fun i => bw .xor .u8 (g0 k i) c
def hmF (S : H1) (k t : List Int) : List Int := fixL 32 (S (xp 92 k ++ fixL 32 (S (xp 54 k ++ t))))
def e1V (M : H2) (k i : List Int) : List Int := fixL 32 (M k (i ++ [1]))
def e2V (M : H2) (k i : List Int) : List Int := fixL 32 (M k (e1V M k i ++ i ++ [2]))
def lRat : List Int := [114, 97, 116, 99, 104, 101, 116]
def lSec : List Int := [115, 101, 99, 111, 110, 100]
def iRat : List Int := [7, 0, 0, 0] ++ lRat
def iSec : List Int := [6, 0, 0, 0] ++ lSec
def iTurn (s : List Int) : List Int := [4, 0, 0, 0, 116, 117, 114, 110, 32, 0, 0, 0] ++ s
def sRat : ByteArray := ⟨#[114, 97, 116, 99, 104, 101, 116]⟩
def sSec : ByteArray := ⟨#[115, 101, 99, 111, 110, 100]⟩
def foldB (St : H2) : Nat → List Int → List Int → List Int
  | 0, _, st => st
  | m + 1, xs, st => foldB St m (xs.drop 64) (fixL 8 (St st (fixL 64 xs)))
def seI (x : Int) : List Int := [w8 (x.fdiv (2 ^ 24)), w8 (x.fdiv (2 ^ 16)), w8 (x.fdiv (2 ^ 8)), w8 x]
def serI (st : List Int) : List Int := seI (g0 st 0) ++ seI (g0 st 1) ++ seI (g0 st 2) ++ seI (g0 st 3) ++ seI (g0 st 4) ++ seI (g0 st 5) ++ seI (g0 st 6) ++ seI (g0 st 7)
def hsF (St : H2) (xs : List Int) : List Int := serI (foldB St (nOf xs.length / 64) (xs ++ padR xs.length (nOf xs.length)) shaH)
def hmLen (n : Nat) : Bool := n == 1 || n == 11 || n == 12 || n == 43 || n == 44 || n == 45 || n == 77
def hmV (M : H2) : OrcP := fun _ args h => match args with
  | [s, t] => withBs h s fun k => withBs h t fun x => if k.length = 32 ∧ hmLen x.length = true then some (key (fixL 32 (M k x)), none) else none
  | _ => none
def RkB : Env := envAdd id_hollowtreeref01_Low (pin G10 af_hollowtreeref01_Low) (envAdd id_hollowtreeref01_Both (pin G10 af_hollowtreeref01_Both) G10)
def RkS (S : H1) : Env := envAdd id_hollowtreeref04_Sum (.pure (sumV S)) RkB
def RkM (M : H2) : Env := envAdd id_hollowtreeref05_Hmac (.pure (hmV M)) RkB
def RkE (M : H2) : Env := envAdd id_hollowtreeref05_Info (pin RkB af_hollowtreeref05_Info) (envAdd id_hollowtreeref05_Expand (pin (RkM M) af_hollowtreeref05_Expand) (RkM M))
def RkT (M : H2) : Env := envAdd id_hollowtreeref05_Two (pin (RkE M) af_hollowtreeref05_Two) (RkE M)
def RkX (M X : H2) : Env := envAdd id_hollowtreeref03_X (.pure (keyXV X)) (RkT M)
def hmRun (S : H1) (n : Nat) (f g : Nat → Int) : Prop := evFn (RkS S) af_hollowtreeref05_Hmac [slB 0 32, slB 1 n] ⟨16, [roC 0 (.segs [.ints .u8 32 (tab 32 f)]), roC 1 (.segs [.ints .u8 n (tab n g)])]⟩ kV = some (key (hmF S (tab 32 f) (tab n g)), ⟨0, []⟩)
def asB : Nat → List Cell → Option (List Blk)
  | _, [] => some []
  | k, c :: r => if c.id = k ∧ c.ro = true then (asB (k + 1) r).map (c.blk :: ·) else none
def toC : Nat → List Blk → List Cell
  | _, [] => []
  | k, b :: r => ⟨k, true, b⟩ :: toC (k + 1) r
theorem asB_eq : ∀ {k : Nat} {l : List Cell} {bs : List Blk}, asB k l = some bs → l = toC k bs
  | _, [], bs, h => by cases h; rfl
  | k, ⟨i, ro, b⟩ :: r, bs, h => by
    simp only [asB] at h
    split at h <;> try (cases h; done)
    rename_i hc
    obtain ⟨rfl, rfl⟩ := hc
    cases hr : asB (i + 1) r with
    | none => rw [hr] at h; cases h
    | some q =>
      rw [hr] at h
      cases h
      simp only [toC, asB_eq hr]
def pinO (g : List AV → List Blk → Option AV) : OrcP := fun _ args h =>
  let ids := idsOf h args
  if (avIds.avIdsL args).all ids.contains && closed h ids && decide (ids.length ≤ 16) then (asB 0 (litBlks h (posN ids) ids 0)).bind fun bs => (g (rnL (posN ids) args) bs).map fun v => (v, none) else none
theorem Fn.pinned {P : Program} {f : FuncId} {Γ : Env} {af : AFn} (F : Fn P f Γ af) {g : List AV → List Blk → Option AV}
    (h : ∀ args bs v, g args bs = some v → avIds v = [] ∧ evFn Γ af args ⟨16, toC 0 bs⟩ kV = some (v, ⟨0, []⟩)) : PureOk P f (pinO g) := by
  refine F.ok.pure fun nid args hp r ha hr => ?_
  unfold pinO at hr
  simp only at hr
  split at hr <;> try (cases hr; done)
  rename_i hc
  cases hb : asB 0 (litBlks hp (posN (idsOf hp args)) (idsOf hp args) 0) with
  | none => rw [hb] at hr; cases hr
  | some bs =>
    rw [hb] at hr
    simp only [Option.bind_some] at hr
    cases hg : g (rnL (posN (idsOf hp args)) args) bs with
    | none => rw [hg] at hr; cases hr
    | some v =>
      rw [hg] at hr
      cases hr
      obtain ⟨h1, h2⟩ := h _ _ _ hg
      rw [← asB_eq hb] at h2
      have h3 := F.factor (rnL (posN (idsOf hp args)) args) ⟨16, litBlks hp (posN (idsOf hp args)) (idsOf hp args) 0⟩ kV
      simp only at h3
      rw [h3] at h2
      unfold pureOf
      simp only
      rw [if_pos hc]
      cases hk : evFn Γ af (rnL (posN (idsOf hp args)) args) ⟨16, litBlks hp (posN (idsOf hp args)) (idsOf hp args) 0⟩ kH with
      | none => rw [hk] at h2; cases h2
      | some q =>
        obtain ⟨v', h'⟩ := q
        rw [hk] at h2
        simp only [Option.bind_some, kV, Option.some.injEq, Prod.mk.injEq, and_true] at h2
        subst h2
        simp only [Option.bind_some, h1, newOf, List.filter_nil, dedupN, rnAV_id _ h1]
def isS (v : AV) (id len e : Nat) (cap : Option Nat) : Bool := match v with
  | .slice i o j l e' c => (i == id) && ((o == 0) && ((j == 0) && ((l == len) && ((e' == e) && (c == cap)))))
  | _ => false
theorem isS_eq {v : AV} {id len e : Nat} {cap : Option Nat} (h : isS v id len e cap = true) : v = .slice id 0 0 len e cap := by
  unfold isS at h
  split at h
  · simp only [Bool.and_eq_true, beq_iff_eq] at h
    obtain ⟨rfl, rfl, rfl, rfl, rfl, rfl⟩ := h
    rfl
  · cases h
end Go.Am
