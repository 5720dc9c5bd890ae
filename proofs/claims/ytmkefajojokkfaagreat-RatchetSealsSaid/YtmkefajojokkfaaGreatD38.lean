/- RatchetSeals: part 39 of 50 of its proof. -/
import Derived.Test.YtmkefajojokkfaaGreatD33
import Derived.Test.YtmkefajojokkfaaGreatD34
import Derived.Test.YtmkefajojokkfaaGreatD37
set_option linter.unusedVariables false
set_option linter.unusedSimpArgs false
namespace Go.Am
set_option linter.unusedSimpArgs false
set_option maxRecDepth 100000
def padR (L N : Nat) : List Int := 128 :: (List.replicate (N - L - 9) 0 ++ [0,0,0,0,0,0, ((8 * L / 256 : Nat) : Int), ((8 * L % 256 : Nat) : Int)])
def nOf (L : Nat) : Nat := if L ≤ 119 then 128 else 192
def sumRB (xs : List Int) : List Int := ser8 (blocksR (nOf xs.length / 64) (xs ++ padR xs.length (nOf xs.length)) (toW8 shaH))
def preL (F : Nat) (C R : ACode) (K : Kont) (L : Nat) (f : Nat → Int) : Option Res := ev Rs0 (.seq none uT0 (.seq none uT1 (.seq none uT2 (.seq none uT3 (.seq none (.block 0 none (.loop F uCn C)) R))))) ⟨[slB 0 L] ++ List.replicate 226 .undef, ⟨16, [roC 0 (.segs [.ints .u8 L (tab L f)])]⟩⟩ K
def preR (F : Nat) (C R : ACode) (K : Kont) (L : Nat) (f : Nat → Int) : Option Res := loopK uCn (ev Rs0 C) F (uSt ⟨L, tab L f, nOf L, tab L f ++ padR L (nOf L)⟩ 0 (nOf L) (toW8 shaH)) (kBlock 0 none (kSeq Rs0 none R K))
section
variable (F : Nat) (C R : ACode) (K : Kont) (f : Nat → Int)
theorem pre_65 : preL F C R K 65 f = preR F C R K 65 f := by kernel_rfl
theorem pre_75 : preL F C R K 75 f = preR F C R K 75 f := by kernel_rfl
theorem pre_76 : preL F C R K 76 f = preR F C R K 76 f := by kernel_rfl
theorem pre_96 : preL F C R K 96 f = preR F C R K 96 f := by kernel_rfl
theorem pre_107 : preL F C R K 107 f = preR F C R K 107 f := by kernel_rfl
theorem pre_108 : preL F C R K 108 f = preR F C R K 108 f := by kernel_rfl
theorem pre_109 : preL F C R K 109 f = preR F C R K 109 f := by kernel_rfl
theorem pre_141 : preL F C R K 141 f = preR F C R K 141 f := by kernel_rfl
end
def sumLen (n : Nat) : Bool := n == 65 || n == 75 || n == 76 || n == 96 || n == 107 || n == 108 || n == 109 || n == 141
theorem pre_all (F : Nat) (C R : ACode) (K : Kont) {L : Nat} (f : Nat → Int) (h : sumLen L = true) : preL F C R K L f = preR F C R K L f := by
  simp only [sumLen, Bool.or_eq_true, beq_iff_eq] at h
  rcases h with ((((((h | h) | h) | h) | h) | h) | h) | h <;> subst h
  · exact pre_65 F C R K f
  · exact pre_75 F C R K f
  · exact pre_76 F C R K f
  · exact pre_96 F C R K f
  · exact pre_107 F C R K f
  · exact pre_108 F C R K f
  · exact pre_109 F C R K f
  · exact pre_141 F C R K f
theorem sumLen_pad {L : Nat} (h : sumLen L = true) : L + (padR L (nOf L)).length = nOf L ∧ 64 * (nOf L / 64) = nOf L ∧ nOf L / 64 < 1000 := by
  simp only [sumLen, Bool.or_eq_true, beq_iff_eq] at h
  rcases h with ((((((h | h) | h) | h) | h) | h) | h) | h <;> subst h <;> decide
theorem sum_run {L : Nat} (f : Nat → Int) (h : sumLen L = true) : evFn Rs0 afSum [slB 0 L] ⟨16, [roC 0 (.segs [.ints .u8 L (tab L f)])]⟩ kV = some (key (sumRB (tab L f)), ⟨0, []⟩) := by
  rw [evFn_eq]
  refine Eq.trans ?_ ((pre_all 1000 uBody uEnd uKf f h).trans ?_)
  · rfl
  unfold preR sumRB
  obtain ⟨h1, h2, h3⟩ := sumLen_pad h
  have e := u_loop ⟨L, tab L f, nOf L, tab L f ++ padR L (nOf L)⟩ (nOf L / 64) 0 1000 (toW8 shaH) h3 (by
    show 0 + 64 * (nOf L / 64) ≤ (tab L f ++ padR L (nOf L)).length
    rw [List.length_append, tab_len]; omega)
  rw [h2, List.drop_zero] at e
  rw [tab_len]
  exact e
def sumV (S : List Int → List Int) : OrcP := fun _ args h => match args with
  | [s] => withBs h s fun xs => if sumLen xs.length = true then some (key (fixL 32 (S xs)), none) else none
  | _ => none
theorem ser8_len (s : W8) : (ser8 s).length = 32 := rfl
theorem sum_pure {P : Program} {f : FuncId} (F : Fn P f Rs0 afSum) : PureOk P f (sumV sumRB) := by
  refine F.lit [.sl (.ints .u8)] none fun nid args hp r ha hr => ?_
  unfold sumV at hr
  split at hr <;> try (cases hr; done)
  rename_i s
  obtain ⟨xs, hc, hl, hr1⟩ := withBs_eq hr
  split at hr1 <;> try (cases hr1; done)
  rename_i hL
  cases hr1
  refine ⟨_, _, by simp only [viewArgs, contI_isSl hc, if_true, viewS_ints hc, Option.bind_some, Option.map_some]; rfl, by simp, ?_⟩
  have hf : fixL 32 (sumRB xs) = sumRB xs := fixL_eq (ser8_len _)
  rw [hf]
  obtain ⟨g, hg⟩ := tab_of (xs := xs) rfl
  have e := sum_run (L := xs.length) g hL
  rw [← hg] at e
  have hF := F.factor [slB 0 xs.length] ⟨16, [roC 0 (.segs [.ints .u8 xs.length xs])]⟩
  have e1 := hF kV
  simp only at e1
  rw [e1] at e
  have e2 := hF (kOut none nid)
  simp only at e2
  show evFn Rs0 afSum [slB 0 xs.length] ⟨16, [roC 0 (.segs [.ints .u8 xs.length xs])]⟩ (kOut none nid) = _
  rw [e2]
  cases hk : evFn Rs0 afSum [slB 0 xs.length] ⟨16, [roC 0 (.segs [.ints .u8 xs.length xs])]⟩ kH with
  | none => rw [hk] at e; cases e
  | some q =>
    rw [hk] at e
    simp only [Option.bind_some, kV, Option.some.injEq, Prod.mk.injEq, and_true] at e
    obtain ⟨v, h'⟩ := q
    simp only at e
    subst e
    rfl
set_option maxRecDepth 100000
abbrev H1 := List Int → List Int
abbrev H2 := List Int → List Int → List Int
def keyXV (X : H2) : OrcP := fun _ args _ => match args with
  | [.agg [.ints .u8 32 xs], .agg [.ints .u8 32 ys]] => some (key (fixL 32 (X xs ys)), none)
  | _ => none
def xp (c : Int) (k : List Int) : List Int := tab 64 fun i => bw .xor .u8 (g0 k i) c
def hmF (S : H1) (k t : List Int) : List Int := fixL 32 (S (xp 92 k ++ fixL 32 (S (xp 54 k ++ t))))
def foldB (St : H2) : Nat → List Int → List Int → List Int
  | 0, _, st => st
  | m + 1, xs, st => foldB St m (xs.drop 64) (fixL 8 (St st (fixL 64 xs)))
def seI (x : Int) : List Int := [w8 (x.fdiv (2 ^ 24)), w8 (x.fdiv (2 ^ 16)), w8 (x.fdiv (2 ^ 8)), w8 x]
def serI (st : List Int) : List Int := seI (g0 st 0) ++ seI (g0 st 1) ++ seI (g0 st 2) ++ seI (g0 st 3) ++ seI (g0 st 4) ++ seI (g0 st 5) ++ seI (g0 st 6) ++ seI (g0 st 7)
def hsF (St : H2) (xs : List Int) : List Int := serI (foldB St (nOf xs.length / 64) (xs ++ padR xs.length (nOf xs.length)) shaH)
def hmLen (n : Nat) : Bool := n == 1 || n == 11 || n == 12 || n == 43 || n == 44 || n == 45 || n == 77
def hmV (M : H2) : OrcP := fun _ args h => match args with
  | [s, t] => withBs h s fun k => withBs h t fun x => if k.length = 32 ∧ hmLen x.length = true then some (key (fixL 32 (M k x)), none) else none
  | _ => none
def RkB : Env := envAdd id_hollowtreeref01_Low (pin G10 af_hollowtreeref01_Low) (envAdd id_hollowtreeref01_Both (pin G10 af_hollowtreeref01_Both) G10)
def RkS (S : H1) : Env := envAdd id_hollowtreeref04_Sum (.pure (sumV S)) RkB
def RkM (M : H2) : Env := envAdd id_hollowtreeref05_Hmac (.pure (hmV M)) RkB
def hmRun (S : H1) (n : Nat) (f g : Nat → Int) : Prop := evFn (RkS S) af_hollowtreeref05_Hmac [slB 0 32, slB 1 n] ⟨16, [roC 0 (.segs [.ints .u8 32 (tab 32 f)]), roC 1 (.segs [.ints .u8 n (tab n g)])]⟩ kV = some (key (hmF S (tab 32 f) (tab n g)), ⟨0, []⟩)
end Go.Am
