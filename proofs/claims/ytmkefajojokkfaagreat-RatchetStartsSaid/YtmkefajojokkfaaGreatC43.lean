/- RatchetStarts: part 44 of 50 of its proof. -/
import Derived.Test.YtmkefajojokkfaaGreatC39
import Derived.Test.YtmkefajojokkfaaGreatC40
import Derived.Test.YtmkefajojokkfaaGreatC41
import Derived.Test.YtmkefajojokkfaaGreatC42
import Derived.Test.YtmkefajojokkfaaGreatC38
set_option linter.unusedVariables false
set_option linter.unusedSimpArgs false
namespace Go.Am
set_option linter.unusedSimpArgs false
set_option maxRecDepth 100000
theorem hm_all (S : H1) {n : Nat} (h : hmLen n = true) (f g : Nat → Int) : hmRun S n f g := by
  simp only [hmLen, Bool.or_eq_true, beq_iff_eq] at h
  rcases h with (((((h | h) | h) | h) | h) | h) | h <;> subst h
  · exact hm_1 S f g
  · exact hm_11 S f g
  · exact hm_12 S f g
  · exact hm_43 S f g
  · exact hm_44 S f g
  · exact hm_45 S f g
  · exact hm_77 S f g
theorem hm_pure {P : Program} {f : FuncId} {S : H1} (F : Fn P f (RkS S) af_hollowtreeref05_Hmac) : PureOk P f (hmV (hmF S)) := by
  refine F.lit [.sl (.ints .u8), .sl (.ints .u8)] none fun nid args hp r ha hr => ?_
  unfold hmV at hr
  split at hr <;> try (cases hr; done)
  rename_i s t
  obtain ⟨xs, hc, hl, hr1⟩ := withBs_eq hr
  obtain ⟨ys, hd, hm, hr2⟩ := withBs_eq hr1
  split at hr2 <;> try (cases hr2; done)
  rename_i hL
  cases hr2
  refine ⟨_, _, by simp only [viewArgs, contI_isSl hc, contI_isSl hd, if_true, viewS_ints hc, viewS_ints hd, Option.bind_some, Option.map_some]; rfl, by simp, ?_⟩
  have hf : fixL 32 (hmF S xs ys) = hmF S xs ys := fixL_eq (fixL_len ..)
  rw [hf]
  obtain ⟨g, hg⟩ := tab_of (xs := ys) rfl
  obtain ⟨k, hk⟩ := tab_of (xs := xs) hL.1
  have e : evFn (RkS S) af_hollowtreeref05_Hmac [slB 0 32, slB 1 ys.length] ⟨16, [roC 0 (.segs [.ints .u8 32 (tab 32 k)]), roC 1 (.segs [.ints .u8 ys.length (tab ys.length g)])]⟩ kV = some (key (hmF S (tab 32 k) (tab ys.length g)), ⟨0, []⟩) := hm_all S hL.2 k g
  rw [← hg, ← hk] at e
  rw [hL.1]
  have hF := F.factor [slB 0 32, slB 1 ys.length] ⟨16, [roC 0 (.segs [.ints .u8 32 xs]), roC 1 (.segs [.ints .u8 ys.length ys])]⟩
  have e1 := hF kV
  simp only at e1
  rw [e1] at e
  have e2 := hF (kOut none nid)
  simp only at e2
  show evFn (RkS S) af_hollowtreeref05_Hmac [slB 0 32, slB 1 ys.length] ⟨16, [roC 0 (.segs [.ints .u8 32 xs]), roC 1 (.segs [.ints .u8 ys.length ys])]⟩ (kOut none nid) = _
  rw [e2]
  cases hk : evFn (RkS S) af_hollowtreeref05_Hmac [slB 0 32, slB 1 ys.length] ⟨16, [roC 0 (.segs [.ints .u8 32 xs]), roC 1 (.segs [.ints .u8 ys.length ys])]⟩ kH with
  | none => rw [hk] at e; cases e
  | some q =>
    rw [hk] at e
    simp only [Option.bind_some, kV, Option.some.injEq, Prod.mk.injEq, and_true] at e
    obtain ⟨v, h'⟩ := q
    simp only at e
    subst e
    rfl
set_option maxRecDepth 100000
theorem bytes_of {l : List Int} (h : ∀ x ∈ l, rng .u8 x) : Bytes l := fun x hx => by
  have := h x hx rfl
  simp only [IntKind.bits] at this
  omega
theorem clamp_bytes {k : List Int} (hk : Bytes k) (hkl : k.length = 32) : Bytes (fixL 32 (XT.cl k)) := by
  have hc : fixL 32 (XT.cl k) = clampL k := by
    show fixL 32 (clF k) = _
    rw [cl_eq hk, fixL_eq]
    simp [clampL, hkl]
  rw [hc]
  exact clampL_bytes hk
theorem xI_len (k u : List Int) : (xI k u).length = 32 := leB_len _ _
theorem rx_pure {P : Program} {f : FuncId} (F : Fn P f (RxX XT) afX03) : PureOk P f (keyXV xI) := by
  refine F.plain fun nid args hp r ha hr => ?_
  unfold keyXV at hr
  split at hr <;> try (cases hr; done)
  rename_i k u
  cases hr
  obtain ⟨⟨⟨h1, h2⟩, _⟩, ⟨⟨h3, h4⟩, _⟩, _⟩ := ha
  refine ⟨rfl, rfl, rfl, ?_⟩
  rw [fixL_eq (xI_len k u), ← xV_law (bytes_of h2) h1 h3 (bytes_of h4)]
  exact x03_run XT k u (clamp_bytes (bytes_of h2) h1)
theorem ix_pure {P : Program} {f : FuncId} (F : Fn P f G8 afX) : PureOk P f (keyXV xI) := by
  refine pure_mono (x_pureI F) fun nid args hp r _ h => ?_
  unfold keyXV at h
  split at h <;> try (cases h; done)
  cases h
  rw [fixL_eq (xI_len _ _)]
  rfl
def hsI : H1 := hsF stepI
theorem sum_pureI {P : Program} {f : FuncId} (F : Fn P f Rs0 afSum) : PureOk P f (sumV hsI) := by
  refine pure_mono (sum_pure F) fun nid args hp r hok h => ?_
  unfold sumV at h ⊢
  split at h <;> try (cases h; done)
  rename_i s
  obtain ⟨xs, hc, hl, hr1⟩ := withBs_eq h
  split at hr1 <;> try (cases hr1; done)
  rename_i hL
  cases hr1
  have hx := hok.ints s (by simp) .u8 xs hc
  simp only [withBs, hc, Option.bind_some, if_pos hl, hL, if_true, sum_eq hL hx]
  rfl
end Go.Am
