/- RatchetStarts: part 48 of 50 of its proof. -/
import Derived.Test.YtmkefajojokkfaaGreatC45
import Derived.Test.YtmkefajojokkfaaGreatC38
import Derived.Test.YtmkefajojokkfaaGreatC46
import Derived.Test.YtmkefajojokkfaaGreatC37
import Derived.Test.YtmkefajojokkfaaGreatC43
import Derived.Test.YtmkefajojokkfaaGreatC44
import Derived.Laws.Externs
import Derived.Test.YtmkefajojokkfaaGreatChecked
import Derived.Test.YtmkefajojokkfaaGreatC33
set_option linter.unusedVariables false
set_option linter.unusedSimpArgs false
namespace Go.Am
set_option linter.unusedSimpArgs false
set_option maxRecDepth 100000
theorem ih2_10 (St : H2) (f i g : Nat → Int) : ihRun2 St 10 f i g := by
  unfold ihRun2
  kernel_rfl
set_option maxRecDepth 100000
theorem ih2_11 (St : H2) (f i g : Nat → Int) : ihRun2 St 11 f i g := by
  unfold ihRun2
  kernel_rfl
set_option maxRecDepth 100000
theorem ih2_44 (St : H2) (f i g : Nat → Int) : ihRun2 St 44 f i g := by
  unfold ihRun2
  kernel_rfl
set_option maxRecDepth 100000
theorem ih3_10 (St : H2) (f l i g : Nat → Int) : ihRun3 St 10 f l i g := by
  unfold ihRun3
  kernel_rfl
set_option maxRecDepth 100000
theorem ih3_11 (St : H2) (f l i g : Nat → Int) : ihRun3 St 11 f l i g := by
  unfold ihRun3
  kernel_rfl
set_option maxRecDepth 100000
theorem ih3_44 (St : H2) (f l i g : Nat → Int) : ihRun3 St 44 f l i g := by
  unfold ihRun3
  kernel_rfl
set_option maxRecDepth 100000
theorem bif_some {α : Type} {c : Bool} {x v : α} (h : (bif c then some x else none) = some v) : c = true ∧ x = v := by
  cases c
  · cases h
  · exact ⟨rfl, Option.some.inj h⟩
theorem ih2_all (St : H2) {n : Nat} (h : infLen n = true) (f i g : Nat → Int) : ihRun2 St n f i g := by
  simp only [infLen, Bool.or_eq_true, beq_iff_eq] at h
  rcases h with (h | h) | h <;> subst h
  · exact ih2_10 St f i g
  · exact ih2_11 St f i g
  · exact ih2_44 St f i g
theorem ih3_all (St : H2) {n : Nat} (h : infLen n = true) (f l i g : Nat → Int) : ihRun3 St n f l i g := by
  simp only [infLen, Bool.or_eq_true, beq_iff_eq] at h
  rcases h with (h | h) | h <;> subst h
  · exact ih3_10 St f l i g
  · exact ih3_11 St f l i g
  · exact ih3_44 St f l i g
theorem hmF_fix (S : H1) (k t : List Int) : fixL 32 (hmF S k t) = hmF S k t := fixL_eq (fixL_len ..)
theorem ihm_pure {P : Program} {f : FuncId} {St : H2} (F : Fn P f (IkGV St) af_kdf_Hmac) : PureOk P f (pinO (hmG (hmF (hsF St)))) := by
  refine F.pinned fun args bs v h => ?_
  unfold hmG at h
  split at h
  · rename_i s p n0 k a n2 o
    obtain ⟨hc, rfl⟩ := bif_some h
    simp only [Bool.and_eq_true, beq_iff_eq] at hc
    obtain ⟨h1, h2, h3, rfl, rfl, hk, ho⟩ := hc
    rw [isS_eq h1, isS_eq h2, isS_eq h3, hmF_fix]
    obtain ⟨f, rfl⟩ := tab_of hk
    obtain ⟨g, rfl⟩ := tab_of ho
    exact ⟨rfl, ih_1 St f g⟩
  · rename_i s p n0 k b c n2 i n3 o
    obtain ⟨hc, rfl⟩ := bif_some h
    simp only [Bool.and_eq_true, beq_iff_eq] at hc
    obtain ⟨h1, h2, h3, h4, rfl, rfl, hk, ho, hi, hn⟩ := hc
    rw [isS_eq h1, isS_eq h2, isS_eq h3, isS_eq h4, hmF_fix]
    obtain ⟨f, rfl⟩ := tab_of hk
    obtain ⟨g, rfl⟩ := tab_of ho
    obtain ⟨j, rfl⟩ := tab_of hi
    exact ⟨rfl, ih2_all St hn f j g⟩
  · rename_i s p n0 k a b c n1 l n2 i n3 o hx
    obtain ⟨hc, rfl⟩ := bif_some h
    simp only [Bool.and_eq_true, beq_iff_eq] at hc
    obtain ⟨h1, h2, h3, h4, h5, rfl, rfl, rfl, hk, hl, ho, hi, hn⟩ := hc
    rw [isS_eq h1, isS_eq h2, isS_eq h3, isS_eq h4, isS_eq h5, hmF_fix]
    obtain ⟨f, rfl⟩ := tab_of hk
    obtain ⟨g, rfl⟩ := tab_of ho
    obtain ⟨j, rfl⟩ := tab_of hi
    obtain ⟨q, rfl⟩ := tab_of hl
    exact ⟨rfl, ih3_all St hn f q j g⟩
  · cases h
theorem stepL_len {st : List Int} (xs : List Int) (h : st.length = 8) : (stepL st xs).length = 8 := (addW_len ..).trans h
theorem stepI_full {P : Program} {f : FuncId} (h : FullOk P f (objO stepP)) : FullOk P f (objO (stepV stepI)) := by
  refine objO_mono h fun id l rest hp r hok wf ao h => ?_
  unfold stepV at h
  split at h <;> try (cases h; done)
  rename_i st ks re n v
  split at h <;> try (cases h; done)
  rename_i hks
  have hs8 : st.length = 8 := wf _ (.head _)
  rw [AOkL_iff] at ao
  have hst := (ao _ (.head _)).2
  have hre := (ao _ (.tail _ (.tail _ (.head _)))).2
  have fx : ∀ xs : List Int, (∀ x ∈ xs, rng .u8 x) → fixL 8 (stepI st (fixL 64 xs)) = stepI st xs := fun xs hx => by
    have e : stepI st (fixL 64 xs) = stepI st xs := by rw [← stepL_eq hst (fix_rng hx), stepL_fix, stepL_eq hst hx]
    rw [e, fixL_eq (by rw [← stepL_eq hst hx]; exact stepL_len _ hs8)]
  have fin : ∀ u : AV, v = u → ((contI .u8 hp u).bind fun xs => if 64 ≤ xs.length then some (AV.tuple [], hashB (fixL 8 (stepI st (fixL 64 xs))) re n) else none) = (contI .u8 hp u).bind fun xs => if 64 ≤ xs.length then some (AV.tuple [], hashB (stepI st xs) re n) else none := fun u hu => by
    cases hc : contI .u8 hp u with
    | none => rfl
    | some xs =>
      simp only [Option.bind_some]
      rw [fx xs (hok.ints u (by rw [hu]; exact .head _) _ _ hc)]
  have key : stepP id [.ints .u32 8 st, .isl .u32 ks, .ints .u8 64 re, .int .i64 n] [v] hp = stepV stepI id [.ints .u32 8 st, .isl .u32 ks, .ints .u8 64 re, .int .i64 n] [v] hp := by
    unfold stepP stepV
    simp only [if_pos hks]
    split
    · simp only [fin _ rfl, fx re hre]
    · simp only [fin _ rfl]
  rw [key]
  unfold stepV
  simp only [if_pos hks]
  exact h
set_option maxRecDepth 100000
theorem same_nil (r : Rat) : sameB r r [] [] = true := by simp [sameB, ratEq, eqSks]
theorem starts_run (C : StC) (p s u x : List Int) (f : Bool) : evFn (LsEV C.low (beginR C)) af_hollowtreelaw17_RatchetStarts [sideV p f s u x] ⟨16, []⟩ kV = yes true := by
  refine (starts_run1 ..).trans ?_
  have e : checkI (beginR C p f s u x) [] = 0 := by cases f <;> rfl
  rw [same_nil, same_nil, e]
  cases C.low u <;> rfl
def stCM (M X : H2) : StC := ⟨lowB, fun k => e1V M k iRat, fun k => e2V M k iRat, fun k => e1V M k iSec, fun a b c => e1V M a (iTurn (fixL 32 (X b c))), fun a b c => e2V M a (iTurn (fixL 32 (X b c)))⟩
section
variable {P : Program} {f : FuncId} {Γ : Env} {af : AFn}
theorem twoQ_of (F : Fn P f Γ af) {A B : L1} (h : ∀ g : Nat → Int, evFn Γ af [key (tab 32 g), .str sRat, .nils] ⟨16, []⟩ kV = some (.tuple [key (A (tab 32 g)), key (B (tab 32 g))], ⟨0, []⟩)) : PureOk P f (twoQ A B) := by
  refine F.plain fun nid args hp r ha hr => ?_
  unfold twoQ at hr
  split at hr <;> try (cases hr; done)
  rename_i k s
  split at hr <;> try (cases hr; done)
  rename_i hs
  cases hr
  obtain ⟨s⟩ := s
  simp only at hs
  subst hs
  obtain ⟨⟨⟨hl, _⟩, _⟩, _⟩ := ha
  obtain ⟨g, rfl⟩ := tab_of hl
  exact ⟨rfl, rfl, rfl, h g⟩
theorem derQ_of (F : Fn P f Γ af) {D : L1} (h : ∀ g : Nat → Int, evFn Γ af [key (tab 32 g), .str sSec, .nils] ⟨16, []⟩ kV = some (key (D (tab 32 g)), ⟨0, []⟩)) : PureOk P f (derQ D) := by
  refine F.plain fun nid args hp r ha hr => ?_
  unfold derQ at hr
  split at hr <;> try (cases hr; done)
  rename_i k s
  split at hr <;> try (cases hr; done)
  rename_i hs
  cases hr
  obtain ⟨s⟩ := s
  simp only at hs
  subst hs
  obtain ⟨⟨⟨hl, _⟩, _⟩, _⟩ := ha
  obtain ⟨g, rfl⟩ := tab_of hl
  exact ⟨rfl, rfl, rfl, h g⟩
theorem turnQ_of (F : Fn P f Γ af) {A B : L3} (h : ∀ g i j : Nat → Int, evFn Γ af [key (tab 32 g), key (tab 32 i), key (tab 32 j)] ⟨16, []⟩ kV = some (.tuple [key (A (tab 32 g) (tab 32 i) (tab 32 j)), key (B (tab 32 g) (tab 32 i) (tab 32 j))], ⟨0, []⟩)) : PureOk P f (turnQ A B) := by
  refine F.plain fun nid args hp r ha hr => ?_
  unfold turnQ at hr
  split at hr <;> try (cases hr; done)
  rename_i a b c
  cases hr
  obtain ⟨⟨⟨h1, _⟩, _⟩, ⟨⟨h2, _⟩, _⟩, ⟨⟨h3, _⟩, _⟩, _⟩ := ha
  obtain ⟨g, rfl⟩ := tab_of h1
  obtain ⟨i, rfl⟩ := tab_of h2
  obtain ⟨j, rfl⟩ := tab_of h3
  exact ⟨rfl, rfl, rfl, h g i j⟩
end
section
variable {P : Program} {f : FuncId} {M X : H2}
theorem itwo_pure (F : Fn P f (IkE M) af_kdf_Two) : PureOk P f (twoQ (stCM M X).a (stCM M X).b) := twoQ_of F fun g => itwo_run M g
theorem ider_pure (F : Fn P f (IkT M) af_kdf_Derive) : PureOk P f (derQ (stCM M X).d) := derQ_of F fun g => ider_run M g
theorem iturn_pure (F : Fn P f (IkX M X) af_ratchet_turn) : PureOk P f (turnQ (stCM M X).t (stCM M X).u) := turnQ_of F fun g i j => iturn_run M X g i j
theorem rtwo_pure (F : Fn P f (RkE M) af_hollowtreeref05_Two) : PureOk P f (twoQ (stCM M X).a (stCM M X).b) := twoQ_of F fun g => rtwo_run M g
theorem rder_pure (F : Fn P f (RkT M) af_hollowtreeref05_Derive) : PureOk P f (derQ (stCM M X).d) := derQ_of F fun g => rder_run M g
theorem rturn_pure (F : Fn P f (RkX M X) af_hollowtreeref17_Turn) : PureOk P f (turnQ (stCM M X).t (stCM M X).u) := turnQ_of F fun g i j => rturn_run M X g i j
theorem lowQ_of (h : PureOk P f lowO) : PureOk P f (lowQ (stCM M X).low) := h
end
def hmI : H2 := hmF hsI
def stCI : StC := stCM hmI xI
def iSe : Env := envAdd id_sha_Hash_step (.full (objO (stepV stepI))) E_sha_New
def iWe : Env := envAdd id_sha_Hash_write (inl iSe af_sha_Hash_write) iSe
def iCe : Env := envAdd id_sha_Hash_Copy (inl iWe af_sha_Hash_Copy) iWe
def iPe : Env := envAdd id_sha_Pad (pin iCe af_sha_Pad) iCe
def iUe : Env := envAdd id_sha_Hash_Sum (inl iPe af_sha_Hash_Sum) iPe
def iVe : Env := envAdd id_sha_Hash_Write (inl iUe af_sha_Hash_Write) iUe
def iGe : Env := envAdd id_kdf_Hmac_1 (inl iVe af_kdf_Hmac_1) iVe
def iMe : Env := envAdd id_kdf_Hmac (.pure (pinO (hmG hmI))) E_kdf_info
def iEe : Env := envAdd id_kdf_Expand (pin iMe af_kdf_Expand) iMe
def iTe : Env := envAdd id_kdf_Two (pin iEe af_kdf_Two) iEe
def iXe : Env := envAdd id_curve_X (.pure (keyXV xI)) iTe
def rSe : Env := envAdd id_hollowtreeref04_Sum (.pure (sumV hsI)) RkB
def rMe : Env := envAdd id_hollowtreeref05_Hmac (.pure (hmV hmI)) RkB
def rEe : Env := envAdd id_hollowtreeref05_Info (pin RkB af_hollowtreeref05_Info) (envAdd id_hollowtreeref05_Expand (pin rMe af_hollowtreeref05_Expand) rMe)
def rTe : Env := envAdd id_hollowtreeref05_Two (pin rEe af_hollowtreeref05_Two) rEe
def rXe : Env := envAdd id_hollowtreeref03_X (.pure (keyXV xI)) rTe
def iZe : Env := envAdd id_curve_Low (.pure (lowQ stCI.low)) (envAdd id_kdf_Two (.pure (twoQ stCI.a stCI.b)) (envAdd id_kdf_Derive (.pure (derQ stCI.d)) (envAdd id_ratchet_turn (.pure (turnQ stCI.t stCI.u)) G10)))
def rZe : Env := envAdd id_hollowtreeref05_Two (.pure (twoQ stCI.a stCI.b)) (envAdd id_hollowtreeref05_Derive (.pure (derQ stCI.d)) (envAdd id_hollowtreeref17_Turn (.pure (turnQ stCI.t stCI.u)) G10))
def LsE : Env := envAdd id_hollowtreelaw17_wakes (.full wakesSC) (envAdd id_ratchet_Start (.full (startC stCI.low (beginR stCI))) (envAdd id_hollowtreeref03_Low (.pure (lowQ stCI.low)) (envAdd id_ratchet_Same (.pure rsameO) (envAdd id_hollowtreeref17_Start (.pure (startRO (beginR stCI))) (envAdd id_hollowtreeref17_Same (.pure rsameO) (envAdd id_ratchet_Check (.pure checkO) G10))))))
def RxLe : Env := envAdd id_hollowtreeref03_digits (.pure (digT dD1 dD2)) (envAdd id_hollowtreeref03_From (.pure (numKV fromF)) (envAdd id_hollowtreeref03_Num_Sub (.pure (num2V (subF carL))) (envAdd id_hollowtreeref03_Num_Bytes (.pure (bytV (bytF carL))) G10)))
def inv255 : M1 := fun n => invF fromF (mulF (foldF carL)) n 255
def RxIe : Env := envAdd id_hollowtreeref03_From (.pure (numKV fromF)) (envAdd id_hollowtreeref03_Num_Mul (.pure (num2V (mulF (foldF carL)))) G10)
def RxXe : Env := envAdd id_hollowtreeref03_Clamp (.pure (clampV clF)) (envAdd id_hollowtreeref03_From (.pure (numKV fromF)) (envAdd id_hollowtreeref03_Num_Add (.pure (num2V (addF carL))) (envAdd id_hollowtreeref03_Num_Sub (.pure (num2V (subF carL))) (envAdd id_hollowtreeref03_Num_Mul (.pure (num2V (mulF (foldF carL)))) (envAdd id_hollowtreeref03_Num_Small (.pure (numSV (smF carL))) (envAdd id_hollowtreeref03_Num_Inv (.pure (num1V inv255)) (envAdd id_hollowtreeref03_Num_Bytes (.pure (bytV (bytF carL))) G10)))))))
section
variable {P : Program} {f : FuncId}
theorem rinv_ok (F : Fn P f RxIe afInv) : PureOk P f (num1V inv255) := rinv_pure F
theorem rx_ok (F : Fn P f RxXe afX03) : PureOk P f (keyXV xI) := rx_pure F
theorem rlow3_ok (F : Fn P f RxLe af_hollowtreeref03_Low) : PureOk P f (lowQ stCI.low) := lowQ_of (M := hmI) (X := xI) (rlow3_pure F)
theorem ilow_ok (F : Fn P f G10 af_curve_Low) : PureOk P f (lowQ stCI.low) := lowQ_of (M := hmI) (X := xI) (low_pure F)
theorem ihm_ok (F : Fn P f iGe af_kdf_Hmac) : PureOk P f (pinO (hmG hmI)) := ihm_pure (St := stepI) F
theorem rhm_ok (F : Fn P f rSe af_hollowtreeref05_Hmac) : PureOk P f (hmV hmI) := hm_pure (S := hsI) F
theorem itwo_ok (F : Fn P f iEe af_kdf_Two) : PureOk P f (twoQ stCI.a stCI.b) := itwo_pure (M := hmI) (X := xI) F
theorem ider_ok (F : Fn P f iTe af_kdf_Derive) : PureOk P f (derQ stCI.d) := ider_pure (M := hmI) (X := xI) F
theorem iturn_ok (F : Fn P f iXe af_ratchet_turn) : PureOk P f (turnQ stCI.t stCI.u) := iturn_pure (M := hmI) (X := xI) F
theorem rtwo_ok (F : Fn P f rEe af_hollowtreeref05_Two) : PureOk P f (twoQ stCI.a stCI.b) := rtwo_pure (M := hmI) (X := xI) F
theorem rder_ok (F : Fn P f rTe af_hollowtreeref05_Derive) : PureOk P f (derQ stCI.d) := rder_pure (M := hmI) (X := xI) F
theorem rturn_ok (F : Fn P f rXe af_hollowtreeref17_Turn) : PureOk P f (turnQ stCI.t stCI.u) := rturn_pure (M := hmI) (X := xI) F
theorem istart_ok (F : Fn P f iZe af_ratchet_Start) : PureOk P f (startO stCI.low (beginR stCI)) := start_pure (C := stCI) F
theorem rstart_ok (F : Fn P f rZe af_hollowtreeref17_Start) : PureOk P f (startRO (beginR stCI)) := startR_pure (C := stCI) F
end
theorem starts_run2 (p s u x : List Int) (f : Bool) : evFn LsE af_hollowtreelaw17_RatchetStarts [sideV p f s u x] ⟨16, []⟩ kV = yes true := starts_run stCI p s u x f
open Go.Proofs
set_option maxRecDepth 100000
theorem moZ : Tryz.prog.follows .mixedOrders = true := by kernel_rfl
theorem VAL.one {ι : Inj} {v : AV} {x : Value} (h : VA ι v x) : VAL ι [v] [x] := ⟨rfl, fun i u hu => by
  cases i with
  | zero => simp only [List.getElem?_cons_zero, Option.some.injEq] at hu; subst hu; exact ⟨x, rfl, h⟩
  | succ i => simp at hu⟩
theorem VAL.cons {ι : Inj} {v : AV} {x : Value} {l : List AV} {r : List Value} (h : VA ι v x) (k : VAL ι l r) : VAL ι (v :: l) (x :: r) := ⟨by simp [k.1], fun i u hu => by
  cases i with
  | zero => simp only [List.getElem?_cons_zero, Option.some.injEq] at hu; subst hu; exact ⟨x, rfl, h⟩
  | succ i => exact k.2 i u (by simpa using hu)⟩
theorem add64_full : FullOk Tryz.prog id_math_bits_Add64 add64o where
  factor := fun args h κ => by
    unfold add64o
    split
    · split <;> rfl
    · rfl
  sound := fun args h v h' ι w vs hk R hf ha => by
    unfold add64o at hk
    split at hk <;> try (cases hk; done)
    rename_i x y c
    split at hk <;> try (cases hk; done)
    rename_i hc
    simp only [kH, Option.some.injEq, Prod.mk.injEq] at hk
    obtain ⟨rfl, rfl⟩ := hk
    obtain ⟨v1, r1, e1, h1, k1⟩ := ha.uncons
    obtain ⟨v2, r2, rfl, h2, k2⟩ := k1.uncons
    obtain ⟨v3, r3, rfl, h3, k3⟩ := k2.uncons
    have : r3 = [] := List.eq_nil_of_length_eq_zero k3.1.symm
    subst this
    obtain ⟨rfl, g1⟩ := (show v1 = .int .u64 x ∧ rng .u64 x from h1)
    obtain ⟨rfl, g2⟩ := (show v2 = .int .u64 y ∧ rng .u64 y from h2)
    obtain ⟨rfl, g3⟩ := (show v3 = .int .u64 c ∧ rng .u64 c from h3)
    have hv : vs = #[.int .u64 x, .int .u64 y, .int .u64 c] := by
      cases vs; simp only at e1; rw [e1]
    subst hv
    have b1 := g1 rfl
    have b2 := g2 rfl
    have b3 := g3 rfl
    simp only [IntKind.bits] at b1 b2 b3
    have q1 : rng .u64 ((x + y + c) % 18446744073709551616) := fun _ => by simp only [IntKind.bits]; omega
    have q2 : rng .u64 ((x + y + c) / 18446744073709551616) := fun _ => by simp only [IntKind.bits]; omega
    refine .inl ⟨_, w, (run_callFunc_extern (P := Tryz.prog) (f := id_math_bits_Add64) (e := add64Entry) Tryz.func157 (by kernel_rfl) (by kernel_rfl) (by kernel_rfl) (by kernel_rfl) _ w).trans (by rw [run_add64 x y c b1.1 b2.1 b3.1 hc]; rfl), ι, ⟨_, rfl, VAL.cons (show VA ι (.int .u64 _) _ from ⟨rfl, q1⟩) (.one (show VA ι (.int .u64 _) _ from ⟨rfl, q2⟩))⟩, R, .refl _ _ _, .refl _ _⟩
open Go.Proofs
set_option maxRecDepth 100000
theorem fz_aead_Count {Γ : Env} (h : EnvOk Tryz.prog Γ) : Fn Tryz.prog id_aead_Count Γ af_aead_Count := Fn.of h moZ Tryz.func30 (by kernel_rfl)
theorem fz_aead_Open {Γ : Env} (h : EnvOk Tryz.prog Γ) : Fn Tryz.prog id_aead_Open Γ af_aead_Open := Fn.of h moZ Tryz.func95 (by kernel_rfl)
theorem fz_aead_Seal {Γ : Env} (h : EnvOk Tryz.prog Γ) : Fn Tryz.prog id_aead_Seal Γ af_aead_Seal := Fn.of h moZ Tryz.func29 (by kernel_rfl)
theorem fz_aead_Tag {Γ : Env} (h : EnvOk Tryz.prog Γ) : Fn Tryz.prog id_aead_Tag Γ af_aead_Tag := Fn.of h moZ Tryz.func70 (by kernel_rfl)
theorem fz_chacha_Quarter {Γ : Env} (h : EnvOk Tryz.prog Γ) : Fn Tryz.prog id_chacha_Quarter Γ af_chacha_Quarter := Fn.of h moZ Tryz.func139 (by kernel_rfl)
theorem fz_chacha_Xor {Γ : Env} (h : EnvOk Tryz.prog Γ) : Fn Tryz.prog id_chacha_Xor Γ af_chacha_Xor := Fn.of h moZ Tryz.func69 (by kernel_rfl)
theorem fz_chacha_state {Γ : Env} (h : EnvOk Tryz.prog Γ) : Fn Tryz.prog id_chacha_state Γ af_chacha_state := Fn.of h moZ Tryz.func137 (by kernel_rfl)
theorem fz_curve_Agree {Γ : Env} (h : EnvOk Tryz.prog Γ) : Fn Tryz.prog id_curve_Agree Γ af_curve_Agree := Fn.of h moZ Tryz.func93 (by kernel_rfl)
theorem fz_curve_Clamp {Γ : Env} (h : EnvOk Tryz.prog Γ) : Fn Tryz.prog id_curve_Clamp Γ af_curve_Clamp := Fn.of h moZ Tryz.func97 (by kernel_rfl)
theorem fz_curve_Low {Γ : Env} (h : EnvOk Tryz.prog Γ) : Fn Tryz.prog id_curve_Low Γ af_curve_Low := Fn.of h moZ Tryz.func40 (by kernel_rfl)
theorem fz_curve_Public {Γ : Env} (h : EnvOk Tryz.prog Γ) : Fn Tryz.prog id_curve_Public Γ af_curve_Public := Fn.of h moZ Tryz.func27 (by kernel_rfl)
theorem fz_field_Elem_Add {Γ : Env} (h : EnvOk Tryz.prog Γ) : Fn Tryz.prog id_field_Elem_Add Γ af_field_Elem_Add := Fn.of h moZ Tryz.func126 (by kernel_rfl)
theorem fz_field_Elem_Bytes {Γ : Env} (h : EnvOk Tryz.prog Γ) : Fn Tryz.prog id_field_Elem_Bytes Γ af_field_Elem_Bytes := Fn.of h moZ Tryz.func103 (by kernel_rfl)
theorem fz_field_Elem_Inv {Γ : Env} (h : EnvOk Tryz.prog Γ) : Fn Tryz.prog id_field_Elem_Inv Γ af_field_Elem_Inv := Fn.of h moZ Tryz.func102 (by kernel_rfl)
theorem fz_field_Elem_Mul {Γ : Env} (h : EnvOk Tryz.prog Γ) : Fn Tryz.prog id_field_Elem_Mul Γ af_field_Elem_Mul := Fn.of h moZ Tryz.func101 (by kernel_rfl)
theorem fz_field_Elem_Neg {Γ : Env} (h : EnvOk Tryz.prog Γ) : Fn Tryz.prog id_field_Elem_Neg Γ af_field_Elem_Neg := Fn.of h moZ Tryz.func130 (by kernel_rfl)
theorem fz_field_Elem_Power {Γ : Env} (h : EnvOk Tryz.prog Γ) : Fn Tryz.prog id_field_Elem_Power Γ af_field_Elem_Power := Fn.of h moZ Tryz.func131 (by kernel_rfl)
theorem fz_field_Elem_Same {Γ : Env} (h : EnvOk Tryz.prog Γ) : Fn Tryz.prog id_field_Elem_Same Γ af_field_Elem_Same := Fn.of h moZ Tryz.func81 (by kernel_rfl)
theorem fz_field_Elem_Square {Γ : Env} (h : EnvOk Tryz.prog Γ) : Fn Tryz.prog id_field_Elem_Square Γ af_field_Elem_Square := Fn.of h moZ Tryz.func124 (by kernel_rfl)
theorem fz_field_Elem_Sub {Γ : Env} (h : EnvOk Tryz.prog Γ) : Fn Tryz.prog id_field_Elem_Sub Γ af_field_Elem_Sub := Fn.of h moZ Tryz.func125 (by kernel_rfl)
theorem fz_field_Elem_Times {Γ : Env} (h : EnvOk Tryz.prog Γ) : Fn Tryz.prog id_field_Elem_Times Γ af_field_Elem_Times := Fn.of h moZ Tryz.func127 (by kernel_rfl)
theorem fz_field_Elem_carry {Γ : Env} (h : EnvOk Tryz.prog Γ) : Fn Tryz.prog id_field_Elem_carry Γ af_field_Elem_carry := Fn.of h moZ Tryz.func132 (by kernel_rfl)
theorem fz_field_From {Γ : Env} (h : EnvOk Tryz.prog Γ) : Fn Tryz.prog id_field_From Γ af_field_From := Fn.of h moZ Tryz.func80 (by kernel_rfl)
theorem fz_field_Of {Γ : Env} (h : EnvOk Tryz.prog Γ) : Fn Tryz.prog id_field_Of Γ af_field_Of := Fn.of h moZ Tryz.func98 (by kernel_rfl)
theorem fz_field_Swap {Γ : Env} (h : EnvOk Tryz.prog Γ) : Fn Tryz.prog id_field_Swap Γ af_field_Swap := Fn.of h moZ Tryz.func122 (by kernel_rfl)
theorem fz_field_folded {Γ : Env} (h : EnvOk Tryz.prog Γ) : Fn Tryz.prog id_field_folded Γ af_field_folded := Fn.of h moZ Tryz.func128 (by kernel_rfl)
theorem fz_field_wide_plus {Γ : Env} (h : EnvOk Tryz.prog Γ) : Fn Tryz.prog id_field_wide_plus Γ af_field_wide_plus := Fn.of h moZ Tryz.func129 (by kernel_rfl)
theorem fz_field_word {Γ : Env} (h : EnvOk Tryz.prog Γ) : Fn Tryz.prog id_field_word Γ af_field_word := Fn.of h moZ Tryz.func120 (by kernel_rfl)
theorem fz_frame_PutHeader {Γ : Env} (h : EnvOk Tryz.prog Γ) : Fn Tryz.prog id_frame_PutHeader Γ af_frame_PutHeader := Fn.of h moZ Tryz.func31 (by kernel_rfl)
theorem fz_hollowtreelaw17_begun {Γ : Env} (h : EnvOk Tryz.prog Γ) : Fn Tryz.prog id_hollowtreelaw17_begun Γ af_hollowtreelaw17_begun := Fn.of h moZ Tryz.func24 (by kernel_rfl)
theorem fz_hollowtreelaw17_wakes {Γ : Env} (h : EnvOk Tryz.prog Γ) : Fn Tryz.prog id_hollowtreelaw17_wakes Γ af_hollowtreelaw17_wakes := Fn.of h moZ Tryz.func7 (by kernel_rfl)
theorem fz_hollowtreeref01_Both {Γ : Env} (h : EnvOk Tryz.prog Γ) : Fn Tryz.prog id_hollowtreeref01_Both Γ af_hollowtreeref01_Both := Fn.of h moZ Tryz.func54 (by kernel_rfl)
theorem fz_hollowtreeref01_Low {Γ : Env} (h : EnvOk Tryz.prog Γ) : Fn Tryz.prog id_hollowtreeref01_Low Γ af_hollowtreeref01_Low := Fn.of h moZ Tryz.func55 (by kernel_rfl)
theorem fz_hollowtreeref03_Clamp {Γ : Env} (h : EnvOk Tryz.prog Γ) : Fn Tryz.prog id_hollowtreeref03_Clamp Γ af_hollowtreeref03_Clamp := Fn.of h moZ Tryz.func72 (by kernel_rfl)
theorem fz_hollowtreeref03_From {Γ : Env} (h : EnvOk Tryz.prog Γ) : Fn Tryz.prog id_hollowtreeref03_From Γ af_hollowtreeref03_From := Fn.of h moZ Tryz.func44 (by kernel_rfl)
theorem fz_hollowtreeref03_Low {Γ : Env} (h : EnvOk Tryz.prog Γ) : Fn Tryz.prog id_hollowtreeref03_Low Γ af_hollowtreeref03_Low := Fn.of h moZ Tryz.func14 (by kernel_rfl)
theorem fz_hollowtreeref03_Num_Add {Γ : Env} (h : EnvOk Tryz.prog Γ) : Fn Tryz.prog id_hollowtreeref03_Num_Add Γ af_hollowtreeref03_Num_Add := Fn.of h moZ Tryz.func73 (by kernel_rfl)
theorem fz_hollowtreeref03_Num_Small {Γ : Env} (h : EnvOk Tryz.prog Γ) : Fn Tryz.prog id_hollowtreeref03_Num_Small Γ af_hollowtreeref03_Num_Small := Fn.of h moZ Tryz.func75 (by kernel_rfl)
theorem fz_hollowtreeref03_Num_Sub {Γ : Env} (h : EnvOk Tryz.prog Γ) : Fn Tryz.prog id_hollowtreeref03_Num_Sub Γ af_hollowtreeref03_Num_Sub := Fn.of h moZ Tryz.func46 (by kernel_rfl)
theorem fz_hollowtreeref03_digits {Γ : Env} (h : EnvOk Tryz.prog Γ) : Fn Tryz.prog id_hollowtreeref03_digits Γ af_hollowtreeref03_digits := Fn.of h moZ Tryz.func47 (by kernel_rfl)
theorem fz_hollowtreeref03_fold {Γ : Env} (h : EnvOk Tryz.prog Γ) : Fn Tryz.prog id_hollowtreeref03_fold Γ af_hollowtreeref03_fold := Fn.of h moZ Tryz.func114 (by kernel_rfl)
theorem fz_hollowtreeref04_Pad {Γ : Env} (h : EnvOk Tryz.prog Γ) : Fn Tryz.prog id_hollowtreeref04_Pad Γ af_hollowtreeref04_Pad := Fn.of h moZ Tryz.func145 (by kernel_rfl)
theorem fz_hollowtreeref04_begin {Γ : Env} (h : EnvOk Tryz.prog Γ) : Fn Tryz.prog id_hollowtreeref04_begin Γ af_hollowtreeref04_begin := Fn.of h moZ Tryz.func146 (by kernel_rfl)
theorem fz_hollowtreeref04_constants {Γ : Env} (h : EnvOk Tryz.prog Γ) : Fn Tryz.prog id_hollowtreeref04_constants Γ af_hollowtreeref04_constants := Fn.of h moZ Tryz.func144 (by kernel_rfl)
theorem fz_hollowtreeref04_right {Γ : Env} (h : EnvOk Tryz.prog Γ) : Fn Tryz.prog id_hollowtreeref04_right Γ af_hollowtreeref04_right := Fn.of h moZ Tryz.func147 (by kernel_rfl)
theorem fz_hollowtreeref05_Derive {Γ : Env} (h : EnvOk Tryz.prog Γ) : Fn Tryz.prog id_hollowtreeref05_Derive Γ af_hollowtreeref05_Derive := Fn.of h moZ Tryz.func50 (by kernel_rfl)
theorem fz_hollowtreeref05_Expand {Γ : Env} (h : EnvOk Tryz.prog Γ) : Fn Tryz.prog id_hollowtreeref05_Expand Γ af_hollowtreeref05_Expand := Fn.of h moZ Tryz.func85 (by kernel_rfl)
theorem fz_hollowtreeref05_Hmac {Γ : Env} (h : EnvOk Tryz.prog Γ) : Fn Tryz.prog id_hollowtreeref05_Hmac Γ af_hollowtreeref05_Hmac := Fn.of h moZ Tryz.func77 (by kernel_rfl)
theorem fz_hollowtreeref05_Info {Γ : Env} (h : EnvOk Tryz.prog Γ) : Fn Tryz.prog id_hollowtreeref05_Info Γ af_hollowtreeref05_Info := Fn.of h moZ Tryz.func86 (by kernel_rfl)
theorem fz_hollowtreeref05_Two {Γ : Env} (h : EnvOk Tryz.prog Γ) : Fn Tryz.prog id_hollowtreeref05_Two Γ af_hollowtreeref05_Two := Fn.of h moZ Tryz.func49 (by kernel_rfl)
theorem fz_hollowtreeref17_Start {Γ : Env} (h : EnvOk Tryz.prog Γ) : Fn Tryz.prog id_hollowtreeref17_Start Γ af_hollowtreeref17_Start := Fn.of h moZ Tryz.func16 (by kernel_rfl)
theorem fz_hollowtreeref17_Turn {Γ : Env} (h : EnvOk Tryz.prog Γ) : Fn Tryz.prog id_hollowtreeref17_Turn Γ af_hollowtreeref17_Turn := Fn.of h moZ Tryz.func51 (by kernel_rfl)
theorem fz_ident_Less {Γ : Env} (h : EnvOk Tryz.prog Γ) : Fn Tryz.prog id_ident_Less Γ af_ident_Less := Fn.of h moZ Tryz.func94 (by kernel_rfl)
theorem fz_ident_Pair {Γ : Env} (h : EnvOk Tryz.prog Γ) : Fn Tryz.prog id_ident_Pair Γ af_ident_Pair := Fn.of h moZ Tryz.func61 (by kernel_rfl)
theorem fz_kdf_Derive {Γ : Env} (h : EnvOk Tryz.prog Γ) : Fn Tryz.prog id_kdf_Derive Γ af_kdf_Derive := Fn.of h moZ Tryz.func42 (by kernel_rfl)
theorem fz_kdf_Expand {Γ : Env} (h : EnvOk Tryz.prog Γ) : Fn Tryz.prog id_kdf_Expand Γ af_kdf_Expand := Fn.of h moZ Tryz.func82 (by kernel_rfl)
theorem fz_kdf_Hmac {Γ : Env} (h : EnvOk Tryz.prog Γ) : Fn Tryz.prog id_kdf_Hmac Γ af_kdf_Hmac := Fn.of h moZ Tryz.func68 (by kernel_rfl)
theorem fz_kdf_Step {Γ : Env} (h : EnvOk Tryz.prog Γ) : Fn Tryz.prog id_kdf_Step Γ af_kdf_Step := Fn.of h moZ Tryz.func28 (by kernel_rfl)
theorem fz_kdf_Two {Γ : Env} (h : EnvOk Tryz.prog Γ) : Fn Tryz.prog id_kdf_Two Γ af_kdf_Two := Fn.of h moZ Tryz.func41 (by kernel_rfl)
theorem fz_kdf_info {Γ : Env} (h : EnvOk Tryz.prog Γ) : Fn Tryz.prog id_kdf_info Γ af_kdf_info := Fn.of h moZ Tryz.func83 (by kernel_rfl)
theorem fz_math_bits_Mul64 {Γ : Env} (h : EnvOk Tryz.prog Γ) : Fn Tryz.prog id_math_bits_Mul64 Γ af_math_bits_Mul64 := Fn.of h moZ Tryz.func158 (by kernel_rfl)
theorem fz_octet_Equal {Γ : Env} (h : EnvOk Tryz.prog Γ) : Fn Tryz.prog id_octet_Equal Γ af_octet_Equal := Fn.of h moZ Tryz.func23 (by kernel_rfl)
theorem fz_octet_Get64 {Γ : Env} (h : EnvOk Tryz.prog Γ) : Fn Tryz.prog id_octet_Get64 Γ af_octet_Get64 := Fn.of h moZ Tryz.func91 (by kernel_rfl)
theorem fz_octet_Put32 {Γ : Env} (h : EnvOk Tryz.prog Γ) : Fn Tryz.prog id_octet_Put32 Γ af_octet_Put32 := Fn.of h moZ Tryz.func53 (by kernel_rfl)
theorem fz_octet_Put64 {Γ : Env} (h : EnvOk Tryz.prog Γ) : Fn Tryz.prog id_octet_Put64 Γ af_octet_Put64 := Fn.of h moZ Tryz.func71 (by kernel_rfl)
theorem fz_octet_Zero {Γ : Env} (h : EnvOk Tryz.prog Γ) : Fn Tryz.prog id_octet_Zero Γ af_octet_Zero := Fn.of h moZ Tryz.func121 (by kernel_rfl)
theorem fz_octet_put {Γ : Env} (h : EnvOk Tryz.prog Γ) : Fn Tryz.prog id_octet_put Γ af_octet_put := Fn.of h moZ Tryz.func89 (by kernel_rfl)
theorem fz_poly_Clamp {Γ : Env} (h : EnvOk Tryz.prog Γ) : Fn Tryz.prog id_poly_Clamp Γ af_poly_Clamp := Fn.of h moZ Tryz.func140 (by kernel_rfl)
theorem fz_poly_Code_Write {Γ : Env} (h : EnvOk Tryz.prog Γ) : Fn Tryz.prog id_poly_Code_Write Γ af_poly_Code_Write := Fn.of h moZ Tryz.func112 (by kernel_rfl)
theorem fz_poly_limbs_carry {Γ : Env} (h : EnvOk Tryz.prog Γ) : Fn Tryz.prog id_poly_limbs_carry Γ af_poly_limbs_carry := Fn.of h moZ Tryz.func161 (by kernel_rfl)
theorem fz_poly_limbs_step {Γ : Env} (h : EnvOk Tryz.prog Γ) : Fn Tryz.prog id_poly_limbs_step Γ af_poly_limbs_step := Fn.of h moZ Tryz.func142 (by kernel_rfl)
theorem fz_poly_limbs_whole {Γ : Env} (h : EnvOk Tryz.prog Γ) : Fn Tryz.prog id_poly_limbs_whole Γ af_poly_limbs_whole := Fn.of h moZ Tryz.func143 (by kernel_rfl)
theorem fz_poly_of {Γ : Env} (h : EnvOk Tryz.prog Γ) : Fn Tryz.prog id_poly_of Γ af_poly_of := Fn.of h moZ Tryz.func141 (by kernel_rfl)
theorem fz_ratchet_Check {Γ : Env} (h : EnvOk Tryz.prog Γ) : Fn Tryz.prog id_ratchet_Check Γ af_ratchet_Check := Fn.of h moZ Tryz.func17 (by kernel_rfl)
theorem fz_ratchet_Open {Γ : Env} (h : EnvOk Tryz.prog Γ) : Fn Tryz.prog id_ratchet_Open Γ af_ratchet_Open := Fn.of h moZ Tryz.func25 (by kernel_rfl)
theorem fz_ratchet_Same {Γ : Env} (h : EnvOk Tryz.prog Γ) : Fn Tryz.prog id_ratchet_Same Γ af_ratchet_Same := Fn.of h moZ Tryz.func15 (by kernel_rfl)
theorem fz_ratchet_Seal {Γ : Env} (h : EnvOk Tryz.prog Γ) : Fn Tryz.prog id_ratchet_Seal Γ af_ratchet_Seal := Fn.of h moZ Tryz.func8 (by kernel_rfl)
theorem fz_ratchet_Start {Γ : Env} (h : EnvOk Tryz.prog Γ) : Fn Tryz.prog id_ratchet_Start Γ af_ratchet_Start := Fn.of h moZ Tryz.func13 (by kernel_rfl)
theorem fz_ratchet_find {Γ : Env} (h : EnvOk Tryz.prog Γ) : Fn Tryz.prog id_ratchet_find Γ af_ratchet_find := Fn.of h moZ Tryz.func52 (by kernel_rfl)
theorem fz_ratchet_none {Γ : Env} (h : EnvOk Tryz.prog Γ) : Fn Tryz.prog id_ratchet_none Γ af_ratchet_none := Fn.of h moZ Tryz.func26 (by kernel_rfl)
theorem fz_ratchet_open {Γ : Env} (h : EnvOk Tryz.prog Γ) : Fn Tryz.prog id_ratchet_open Γ af_ratchet_open := Fn.of h moZ Tryz.func63 (by kernel_rfl)
theorem fz_ratchet_read {Γ : Env} (h : EnvOk Tryz.prog Γ) : Fn Tryz.prog id_ratchet_read Γ af_ratchet_read := Fn.of h moZ Tryz.func96 (by kernel_rfl)
theorem fz_ratchet_text {Γ : Env} (h : EnvOk Tryz.prog Γ) : Fn Tryz.prog id_ratchet_text Γ af_ratchet_text := Fn.of h moZ Tryz.func32 (by kernel_rfl)
theorem fz_ratchet_turn {Γ : Env} (h : EnvOk Tryz.prog Γ) : Fn Tryz.prog id_ratchet_turn Γ af_ratchet_turn := Fn.of h moZ Tryz.func43 (by kernel_rfl)
theorem fz_sha_New {Γ : Env} (h : EnvOk Tryz.prog Γ) : Fn Tryz.prog id_sha_New Γ af_sha_New := Fn.of h moZ Tryz.func106 (by kernel_rfl)
theorem fz_sha_Pad {Γ : Env} (h : EnvOk Tryz.prog Γ) : Fn Tryz.prog id_sha_Pad Γ af_sha_Pad := Fn.of h moZ Tryz.func136 (by kernel_rfl)
theorem fz_sha_turn {Γ : Env} (h : EnvOk Tryz.prog Γ) : Fn Tryz.prog id_sha_turn Γ af_sha_turn := Fn.of h moZ Tryz.func165 (by kernel_rfl)
theorem fz_slices_Clone_byte {Γ : Env} (h : EnvOk Tryz.prog Γ) : Fn Tryz.prog id_slices_Clone_byte Γ af_slices_Clone_byte := Fn.of h moZ Tryz.func90 (by kernel_rfl)
theorem fzA_chacha_Block_afBlock {Γ : Env} (h : EnvOk Tryz.prog Γ) : Fn Tryz.prog id_chacha_Block Γ afBlock := Fn.of h moZ Tryz.func109 (by kernel_rfl)
theorem fzA_curve_X_afX {Γ : Env} (h : EnvOk Tryz.prog Γ) : Fn Tryz.prog id_curve_X Γ afX := Fn.of h moZ Tryz.func67 (by kernel_rfl)
theorem fzA_hollowtreeref03_Num_Bytes_afBytes3 {Γ : Env} (h : EnvOk Tryz.prog Γ) : Fn Tryz.prog id_hollowtreeref03_Num_Bytes Γ afBytes3 := Fn.of h moZ Tryz.func45 (by kernel_rfl)
theorem fzA_hollowtreeref03_Num_Inv_afInv {Γ : Env} (h : EnvOk Tryz.prog Γ) : Fn Tryz.prog id_hollowtreeref03_Num_Inv Γ afInv := Fn.of h moZ Tryz.func76 (by kernel_rfl)
theorem fzA_hollowtreeref03_Num_Mul_afMul {Γ : Env} (h : EnvOk Tryz.prog Γ) : Fn Tryz.prog id_hollowtreeref03_Num_Mul Γ afMul := Fn.of h moZ Tryz.func74 (by kernel_rfl)
theorem fzA_hollowtreeref03_Num_carry_afCarry {Γ : Env} (h : EnvOk Tryz.prog Γ) : Fn Tryz.prog id_hollowtreeref03_Num_carry Γ afCarry := Fn.of h moZ Tryz.func84 (by kernel_rfl)
theorem fzA_hollowtreeref03_X_afX03 {Γ : Env} (h : EnvOk Tryz.prog Γ) : Fn Tryz.prog id_hollowtreeref03_X Γ afX03 := Fn.of h moZ Tryz.func35 (by kernel_rfl)
theorem fzA_hollowtreeref04_Sum_afSum {Γ : Env} (h : EnvOk Tryz.prog Γ) : Fn Tryz.prog id_hollowtreeref04_Sum Γ afSum := Fn.of h moZ Tryz.func115 (by kernel_rfl)
theorem fzA_hollowtreeref17_Same_afRq {Γ : Env} (h : EnvOk Tryz.prog Γ) : Fn Tryz.prog id_hollowtreeref17_Same Γ afRq := Fn.of h moZ Tryz.func9 (by kernel_rfl)
theorem fzA_ratchet_Check_afCheck {Γ : Env} (h : EnvOk Tryz.prog Γ) : Fn Tryz.prog id_ratchet_Check Γ afCheck := Fn.of h moZ Tryz.func17 (by kernel_rfl)
theorem fzA_sha_Hash_step_afStepOf_a {Γ : Env} (h : EnvOk Tryz.prog Γ) : Fn Tryz.prog id_sha_Hash_step Γ (afStepOf sCn1a) := Fn.of h moZ Tryz.func159 (by kernel_rfl)
theorem fzA_sha_Hash_step_afStepOf_b {Γ : Env} (h : EnvOk Tryz.prog Γ) : Fn Tryz.prog id_sha_Hash_step Γ (afStepOf sCn1b) := Fn.of h moZ Tryz.func159 (by kernel_rfl)
theorem fzA_sha_words_afWords {Γ : Env} (h : EnvOk Tryz.prog Γ) : Fn Tryz.prog id_sha_words Γ afWords := Fn.of h moZ Tryz.func134 (by kernel_rfl)
theorem fzA_slices_Equal_api_Skip_afSEq {Γ : Env} (h : EnvOk Tryz.prog Γ) : Fn Tryz.prog id_slices_Equal_api_Skip Γ afSEq := Fn.of h moZ Tryz.func48 (by kernel_rfl)
theorem fzA_slices_IndexFunc_api_Skip_afIdx {Γ : Env} (h : EnvOk Tryz.prog Γ) : Fn Tryz.prog id_slices_IndexFunc_api_Skip Γ afIdx := Fn.of h moZ Tryz.func87 (by kernel_rfl)
theorem iz_aead_Tag_1 {Γ : Env} (h : EnvOk Tryz.prog Γ) : FullOk Tryz.prog id_aead_Tag_1 fun args h κ => evFn Γ af_aead_Tag_1 args h κ := evFn_full h moZ Tryz.func111 (by kernel_rfl) (by kernel_rfl)
theorem iz_chacha_Block_1 {Γ : Env} (h : EnvOk Tryz.prog Γ) : FullOk Tryz.prog id_chacha_Block_1 fun args h κ => evFn Γ af_chacha_Block_1 args h κ := evFn_full h moZ Tryz.func138 (by kernel_rfl) (by kernel_rfl)
theorem iz_chacha_read {Γ : Env} (h : EnvOk Tryz.prog Γ) : FullOk Tryz.prog id_chacha_read fun args h κ => evFn Γ af_chacha_read args h κ := evFn_full h moZ Tryz.func160 (by kernel_rfl) (by kernel_rfl)
theorem iz_curve_ladder_step {Γ : Env} (h : EnvOk Tryz.prog Γ) : FullOk Tryz.prog id_curve_ladder_step fun args h κ => evFn Γ af_curve_ladder_step args h κ := evFn_full h moZ Tryz.func100 (by kernel_rfl) (by kernel_rfl)
theorem iz_curve_ladder_sums {Γ : Env} (h : EnvOk Tryz.prog Γ) : FullOk Tryz.prog id_curve_ladder_sums fun args h κ => evFn Γ af_curve_ladder_sums args h κ := evFn_full h moZ Tryz.func123 (by kernel_rfl) (by kernel_rfl)
theorem iz_curve_ladder_swap {Γ : Env} (h : EnvOk Tryz.prog Γ) : FullOk Tryz.prog id_curve_ladder_swap fun args h κ => evFn Γ af_curve_ladder_swap args h κ := evFn_full h moZ Tryz.func99 (by kernel_rfl) (by kernel_rfl)
theorem iz_kdf_Hmac_1 {Γ : Env} (h : EnvOk Tryz.prog Γ) : FullOk Tryz.prog id_kdf_Hmac_1 fun args h κ => evFn Γ af_kdf_Hmac_1 args h κ := evFn_full h moZ Tryz.func105 (by kernel_rfl) (by kernel_rfl)
theorem iz_poly_Code_Tag {Γ : Env} (h : EnvOk Tryz.prog Γ) : FullOk Tryz.prog id_poly_Code_Tag fun args h κ => evFn Γ af_poly_Code_Tag args h κ := evFn_full h moZ Tryz.func113 (by kernel_rfl) (by kernel_rfl)
theorem iz_poly_New {Γ : Env} (h : EnvOk Tryz.prog Γ) : FullOk Tryz.prog id_poly_New fun args h κ => evFn Γ af_poly_New args h κ := evFn_full h moZ Tryz.func110 (by kernel_rfl) (by kernel_rfl)
theorem iz_ratchet_Open_1 {Γ : Env} (h : EnvOk Tryz.prog Γ) : FullOk Tryz.prog id_ratchet_Open_1 fun args h κ => evFn Γ af_ratchet_Open_1 args h κ := evFn_full h moZ Tryz.func62 (by kernel_rfl) (by kernel_rfl)
theorem iz_ratchet_find_1 {Γ : Env} (h : EnvOk Tryz.prog Γ) : FullOk Tryz.prog id_ratchet_find_1 fun args h κ => evFn Γ af_ratchet_find_1 args h κ := evFn_full h moZ Tryz.func88 (by kernel_rfl) (by kernel_rfl)
theorem iz_ratchet_over {Γ : Env} (h : EnvOk Tryz.prog Γ) : FullOk Tryz.prog id_ratchet_over fun args h κ => evFn Γ af_ratchet_over args h κ := evFn_full h moZ Tryz.func65 (by kernel_rfl) (by kernel_rfl)
theorem iz_ratchet_pass {Γ : Env} (h : EnvOk Tryz.prog Γ) : FullOk Tryz.prog id_ratchet_pass fun args h κ => evFn Γ af_ratchet_pass args h κ := evFn_full h moZ Tryz.func66 (by kernel_rfl) (by kernel_rfl)
theorem iz_sha_Hash_Copy {Γ : Env} (h : EnvOk Tryz.prog Γ) : FullOk Tryz.prog id_sha_Hash_Copy fun args h κ => evFn Γ af_sha_Hash_Copy args h κ := evFn_full h moZ Tryz.func135 (by kernel_rfl) (by kernel_rfl)
theorem iz_sha_Hash_Sum {Γ : Env} (h : EnvOk Tryz.prog Γ) : FullOk Tryz.prog id_sha_Hash_Sum fun args h κ => evFn Γ af_sha_Hash_Sum args h κ := evFn_full h moZ Tryz.func108 (by kernel_rfl) (by kernel_rfl)
theorem iz_sha_Hash_Write {Γ : Env} (h : EnvOk Tryz.prog Γ) : FullOk Tryz.prog id_sha_Hash_Write fun args h κ => evFn Γ af_sha_Hash_Write args h κ := evFn_full h moZ Tryz.func107 (by kernel_rfl) (by kernel_rfl)
theorem iz_sha_Hash_write {Γ : Env} (h : EnvOk Tryz.prog Γ) : FullOk Tryz.prog id_sha_Hash_write fun args h κ => evFn Γ af_sha_Hash_write args h κ := evFn_full h moZ Tryz.func133 (by kernel_rfl) (by kernel_rfl)
theorem iz_sha_Sum {Γ : Env} (h : EnvOk Tryz.prog Γ) : FullOk Tryz.prog id_sha_Sum fun args h κ => evFn Γ af_sha_Sum args h κ := evFn_full h moZ Tryz.func104 (by kernel_rfl) (by kernel_rfl)
theorem iz_slices_Clone_api_Skip {Γ : Env} (h : EnvOk Tryz.prog Γ) : FullOk Tryz.prog id_slices_Clone_api_Skip fun args h κ => evFn Γ af_slices_Clone_api_Skip args h κ := evFn_full h moZ Tryz.func33 (by kernel_rfl) (by kernel_rfl)
theorem iz_slices_IndexFunc_api_Skip {Γ : Env} (h : EnvOk Tryz.prog Γ) : FullOk Tryz.prog id_slices_IndexFunc_api_Skip fun args h κ => evFn Γ af_slices_IndexFunc_api_Skip args h κ := evFn_full h moZ Tryz.func87 (by kernel_rfl) (by kernel_rfl)
end Go.Am
