/- RatchetSeals: part 36 of 50 of its proof. -/
import Derived.Test.YtmkefajojokkfaaGreatD19
import Derived.Test.YtmkefajojokkfaaGreatD34
set_option linter.unusedVariables false
set_option linter.unusedSimpArgs false
namespace Go.Am
set_option linter.unusedSimpArgs false
set_option maxRecDepth 100000
def carN (l : List Int) : List Int := match (passD l 0).1 with
  | y :: t => w63 (y + w63 (38 * (passD l 0).2)) :: t
  | [] => []
def carF : Nat → List Int → Int → List Int
  | 0, l, _ => l
  | k + 1, l, c => if c = 0 then l else carF k (carN l) (passD l 0).2
def carD : Nat → List Int → Int → Prop
  | 0, _, c => c = 0
  | k + 1, l, c => c = 0 ∨ carD k (carN l) (passD l 0).2
theorem passD_len : ∀ (l : List Int) (c : Int), (passD l c).1.length = l.length
  | [], _ => rfl
  | x :: r, c => by simp only [passD, List.length_cons, passD_len r]
theorem carN_len (l : List Int) : (carN l).length = l.length := by
  have := passD_len l 0
  unfold carN
  split
  · rename_i h; rw [h] at this; simpa using this
  · rename_i h; rw [h] at this; simpa using this
theorem c_body (L : St → Option Res) (κ : Kont) (l : List Int) (c : Int) (hl : l.length = 16) (hc : c ≠ 0) : ev G10 cBody (cS1 l c) (kLoop cCn1 L κ) = L (cS1 (carN l) (passD l 0).2) := by
  refine (c_p1 1000 cL2 cB9 L κ l c).trans ?_
  rw [show (c != 0) = true by simpa using hc, cond_true]
  have h2 := c_loop2 (kBlock 2 none (kSeq G10 none cB9 (kBlock 1 none (kLoop cCn1 L κ)))) l [] 0 1000 (by simpa using hl) (by omega)
  simp only [List.nil_append, List.length_nil] at h2
  refine (show _ = _ from h2).trans ?_
  rw [kBlock_exit]
  unfold carN
  have hp := passD_len l 0
  cases hd : (passD l 0).1 with
  | nil => rw [hd] at hp; simp [hl] at hp
  | cons y t => exact c_p2 L κ y t _
theorem c_loop1 (κ : Kont) : ∀ (k : Nat) (l : List Int) (c : Int) (F : Nat), l.length = 16 → carD k l c → k < F → loopK cCn1 (ev G10 cBody) F (cS1 l c) κ = κ (.exit 0) (withT 7 (.bool false) (withT 6 (.int .i64 0) (cS1 (carF k l c) 0)))
  | 0, l, c, F + 1, hl, hd, _ => by
    obtain rfl : c = 0 := hd
    exact c_p1 1000 cL2 cB9 _ κ l 0
  | k + 1, l, c, F + 1, hl, hd, hF => by
    by_cases hc : c = 0
    · subst hc
      refine (c_p1 1000 cL2 cB9 _ κ l 0).trans ?_
      simp only [carF, if_true]
      rfl
    · refine (c_body _ κ l c hl hc).trans ?_
      simp only [carF]
      rw [if_neg hc]
      exact c_loop1 κ k (carN l) _ F (by rw [carN_len, hl]) (hd.resolve_left hc) (by omega)
  | _, _, _, 0, _, _, h => by omega
theorem carF_len : ∀ (k : Nat) (l : List Int) (c : Int), (carF k l c).length = l.length
  | 0, _, _ => rfl
  | k + 1, l, c => by
    simp only [carF]
    split
    · rfl
    · rw [carF_len k, carN_len]
def vL : List Int → Int
  | [] => 0
  | x :: r => x + 65536 * vL r
def DigL (l : List Int) : Prop := ∀ x ∈ l, 0 ≤ x ∧ x < 65536
def BndL (b : Int) (l : List Int) : Prop := ∀ x ∈ l, -b ≤ x ∧ x ≤ b
theorem passD_dig : ∀ (l : List Int) (c : Int), DigL (passD l c).1
  | [], _ => fun x hx => by simp [passD] at hx
  | x :: r, c => fun y hy => by
    simp only [passD, List.mem_cons] at hy
    rcases hy with rfl | hy
    · omega
    · exact passD_dig r _ y hy
theorem passD_c : ∀ (l : List Int) (c : Int), (-140737488355328 ≤ c ∧ c ≤ 140737488355328) → -140737488355328 ≤ (passD l c).2 ∧ (passD l c).2 ≤ 140737488355328
  | [], c, h => h
  | x :: r, c, _ => by
    simp only [passD]
    have := w63_rng (x + c)
    exact passD_c r _ (by omega)
theorem passD_val : ∀ (l : List Int) (c : Int), BndL 4611686018427387904 l → (-140737488355328 ≤ c ∧ c ≤ 140737488355328) → vL (passD l c).1 + (passD l c).2 * 65536 ^ l.length = vL l + c
  | [], c, _, _ => by simp [passD, vL]
  | x :: r, c, h, hc => by
    have hx := h x (List.mem_cons_self ..)
    have e : w63 (x + c) = x + c := w63_id (by omega) (by omega)
    simp only [passD, vL, List.length_cons]
    rw [e]
    have ih := passD_val r ((x + c) / 65536) (fun y hy => h y (List.mem_cons_of_mem _ hy)) (by omega)
    have e2 : (passD r ((x + c) / 65536)).2 * 65536 ^ (r.length + 1) = 65536 * ((passD r ((x + c) / 65536)).2 * 65536 ^ r.length) := by
      rw [Int.pow_succ]; grind
    rw [e2]
    generalize (passD r ((x + c) / 65536)).2 * 65536 ^ r.length = T at ih
    omega
theorem dig_val : ∀ {l : List Int}, DigL l → 0 ≤ vL l ∧ vL l < 65536 ^ l.length
  | [], _ => by simp [vL]
  | x :: r, h => by
    have hx := h x (List.mem_cons_self ..)
    obtain ⟨h0, h1⟩ := dig_val fun y hy => h y (List.mem_cons_of_mem x hy)
    simp only [vL, List.length_cons, Int.pow_succ]
    generalize (65536 : Int) ^ r.length = T at h1
    omega
def wI : Int := 115792089237316195423570985008687907853269984665640564039457584007913129639936
theorem w16 : (65536 : Int) ^ 16 = wI := by decide
theorem carN_val {l : List Int} (hl : l.length = 16) (hb : BndL 4611686018427387904 l) : 0 ≤ vL (passD l 0).1 ∧ vL (passD l 0).1 < wI ∧ vL (passD l 0).1 + (passD l 0).2 * wI = vL l ∧ vL (carN l) = vL (passD l 0).1 + 38 * (passD l 0).2 := by
  have hv := passD_val l 0 hb (by omega)
  have hd := dig_val (passD_dig l 0)
  rw [passD_len, hl, w16] at hd
  rw [hl, w16] at hv
  refine ⟨hd.1, hd.2, by omega, ?_⟩
  have hc := passD_c l 0 (by omega)
  have hp := passD_len l 0
  have hdg := passD_dig l 0
  unfold carN
  cases he : (passD l 0).1 with
  | nil => rw [he] at hp; simp [hl] at hp
  | cons y t =>
    rw [he] at hdg
    have hy := hdg y (List.mem_cons_self ..)
    simp only [vL]
    rw [w63_id (n := 38 * (passD l 0).2) (by omega) (by omega), w63_id (by omega) (by omega)]
    omega
theorem carN_bnd (l : List Int) : BndL 4611686018427387904 (carN l) ∧ ∃ y t, (l ≠ [] → carN l = y :: t) ∧ DigL t ∧ (-5348024557502464 ≤ y ∧ y ≤ 5348024557568000) := by
  have hc := passD_c l 0 (by omega)
  have hp := passD_len l 0
  have hdg := passD_dig l 0
  unfold carN
  cases he : (passD l 0).1 with
  | nil =>
    rw [he] at hp
    have : l = [] := List.eq_nil_of_length_eq_zero (by simpa using hp.symm)
    exact ⟨fun x hx => by simp at hx, 0, [], fun h => absurd this h, fun x hx => by simp at hx, by omega⟩
  | cons y t =>
    rw [he] at hdg
    have hy := hdg y (List.mem_cons_self ..)
    have e : w63 (y + w63 (38 * (passD l 0).2)) = y + 38 * (passD l 0).2 := by
      rw [w63_id (n := 38 * (passD l 0).2) (by omega) (by omega), w63_id (by omega) (by omega)]
    dsimp only
    rw [e]
    refine ⟨fun x hx => ?_, _, t, fun _ => rfl, fun x hx => hdg x (List.mem_cons_of_mem _ hx), by omega⟩
    rcases List.mem_cons.1 hx with rfl | hx
    · omega
    · have := hdg x (List.mem_cons_of_mem _ hx); omega
theorem car_val (l : List Int) (hl : l.length = 16) : -5348024557502464 ≤ vL (carN l) ∧ vL (carN l) < wI + 5348024557568000 := by
  obtain ⟨_, y, t, h1, h2, h3⟩ := carN_bnd l
  have e := h1 (by intro h; rw [h] at hl; simp at hl)
  have hlen := carN_len l
  rw [e] at hlen
  have ht : t.length = 15 := by simp at hlen; omega
  have hd := dig_val h2
  rw [ht] at hd
  rw [e]
  simp only [vL]
  have w15 : (65536 : Int) ^ 15 * 65536 = wI := by decide
  generalize (65536 : Int) ^ 15 = T at hd w15
  omega
theorem car_ends (l : List Int) (hl : l.length = 16) : carD 3 l 1 := by
  right
  have hl1 := (carN_len l).trans hl
  by_cases c1 : (passD l 0).2 = 0
  · exact .inl c1
  right
  obtain ⟨a1, a2, a3, a4⟩ := carN_val hl1 (carN_bnd l).1
  have hv := car_val l hl
  by_cases c2 : (passD (carN l) 0).2 = 0
  · exact .inl c2
  right
  obtain ⟨b1, b2, b3, b4⟩ := carN_val ((carN_len _).trans hl1) (carN_bnd (carN l)).1
  show (passD (carN (carN l)) 0).2 = 0
  simp only [wI] at *
  generalize (passD (carN l) 0).2 = C2 at *
  generalize (passD (carN (carN l)) 0).2 = C3 at *
  generalize vL (passD (carN l) 0).1 = V2 at *
  generalize vL (passD (carN (carN l)) 0).1 = V3 at *
  generalize vL (carN (carN l)) = U2 at *
  generalize vL (carN l) = U1 at *
  omega
set_option maxRecDepth 100000
abbrev M1 := List Int → List Int
abbrev M2 := List Int → List Int → List Int
def carL (l : List Int) : List Int := carF 3 l 1
theorem carL_len (l : List Int) : (carL l).length = l.length := carF_len 3 l 1
theorem carN_dig (l : List Int) (h : (passD l 0).2 = 0) : DigL (carN l) := by
  have hdg := passD_dig l 0
  unfold carN
  cases he : (passD l 0).1 with
  | nil => intro x hx; simp at hx
  | cons y t =>
    rw [he] at hdg
    have hy := hdg y (List.mem_cons_self ..)
    simp only [h]
    have e : w63 (y + w63 (38 * 0)) = y := by
      rw [w63_id (n := 38 * 0) (by omega) (by omega), w63_id (by omega) (by omega)]; omega
    rw [e]
    exact hdg
theorem carF_dig : ∀ (k : Nat) (l : List Int) (c : Int), carD k l c → (c = 0 → DigL l) → DigL (carF k l c)
  | 0, l, c, hd, h => h hd
  | k + 1, l, c, hd, h => by
    simp only [carF]
    split
    · rename_i hc; exact h hc
    · rename_i hc
      exact carF_dig k (carN l) _ (hd.resolve_left hc) fun h0 => carN_dig l h0
theorem carL_dig {l : List Int} (hl : l.length = 16) : DigL (carL l) := carF_dig 3 l 1 (car_ends l hl) fun h => by cases h
theorem carF_val : ∀ (k : Nat) (l : List Int) (c : Int), l.length = 16 → BndL 4611686018427387904 l → ∃ m, vL (carF k l c) = vL l - m * pI
  | 0, l, c, _, _ => ⟨0, by simp [carF]⟩
  | k + 1, l, c, hl, hb => by
    simp only [carF]
    split
    · exact ⟨0, by omega⟩
    · obtain ⟨m, hm⟩ := carF_val k (carN l) (passD l 0).2 ((carN_len l).trans hl) (carN_bnd l).1
      obtain ⟨a1, a2, a3, a4⟩ := carN_val hl hb
      refine ⟨m + 2 * (passD l 0).2, ?_⟩
      rw [hm, a4]
      simp only [wI, pI] at *
      generalize (passD l 0).2 = C at *
      generalize vL (passD l 0).1 = V at *
      rw [← a3]
      grind
theorem carL_val {l : List Int} (hl : l.length = 16) (hb : BndL 4611686018427387904 l) : ∃ m, vL (carL l) = vL l - m * pI := carF_val 3 l 1 hl hb
def n16 (l : List Int) : AV := .agg [.ints .i64 16 l]
theorem c_start (F : Nat) (C R : ACode) (K : Kont) (l : List Int) : ev G10 (.seq none cA (.seq none (.seq none cI1 (.block 0 none (.loop F cCn1 C))) R)) ⟨[n16 l] ++ List.replicate 36 .undef, ⟨16, []⟩⟩ K =
    loopK cCn1 (ev G10 C) F (cS1 l 1) (kBlock 0 none (kSeq G10 none R K)) := by kernel_rfl
theorem car_run {l : List Int} (hl : l.length = 16) : evFn G10 afCarry [n16 l] ⟨16, []⟩ kV = some (n16 (carL l), ⟨0, []⟩) := by
  rw [evFn_eq]
  refine Eq.trans ?_ ((c_start 1000 cBody cEnd (kFn [.cell 2 true 16] kV) l).trans ?_)
  · rfl
  rw [c_loop1 _ 3 l 1 1000 hl (car_ends l hl) (by omega), kBlock_exit, c_end]
  rfl
def num1V (A : M1) : OrcP := fun _ args _ => match args with
  | [.agg [.ints .i64 16 l]] => some (n16 (fixL 16 (A l)), none)
  | _ => none
theorem car_pure {P : Program} {f : FuncId} (F : Fn P f G10 afCarry) : PureOk P f (num1V carL) := by
  refine F.plain fun nid args hp r ha hr => ?_
  unfold num1V at hr
  split at hr <;> try (cases hr; done)
  rename_i l
  cases hr
  obtain ⟨⟨⟨hl, _⟩, _⟩, _⟩ := ha
  refine ⟨rfl, rfl, rfl, ?_⟩
  rw [fixL_eq ((carL_len l).trans hl)]
  exact car_run hl
def Rx0 : Env := envAdd id_hollowtreeref03_Num_carry (.pure (num1V carL)) G10
def Rx0V (C : M1) : Env := envAdd id_hollowtreeref03_Num_carry (.pure (num1V C)) G10
def zipI (g : Int → Int → Int) (a b : List Int) : List Int := tab 16 fun i => g (g0 a i) (g0 b i)
def addF (C : M1) (a b : List Int) : List Int := fixL 16 (C (zipI (fun x y => w63 (x + y)) a b))
def subF (C : M1) (a b : List Int) : List Int := fixL 16 (C (zipI (fun x y => w63 (x - y)) a b))
def smF (C : M1) (a : List Int) (m : Int) : List Int := fixL 16 (C (tab 16 fun i => w63 (g0 a i * m)))
def fromF (k : List Int) : List Int := (tab 15 fun i => w63 (w63 (g0 k (2 * i)) + w63 (256 * w63 (g0 k (2 * i + 1))))) ++ [(w63 (w63 (g0 k 30) + w63 (256 * w63 (g0 k 31)))).tmod 32768]
def foldF (C : M1) (l : List Int) : List Int := fixL 16 (C (tab 16 fun i => w63 (w63 (0 + g0 l i) + w63 (38 * g0 l (16 + i)))))
theorem add_run (C : M1) (f g : Nat → Int) : evFn (Rx0V C) af_hollowtreeref03_Num_Add [n16 (tab 16 f), n16 (tab 16 g)] ⟨16, []⟩ kV = some (n16 (addF C (tab 16 f) (tab 16 g)), ⟨0, []⟩) := by kernel_rfl
theorem sub_run (C : M1) (f g : Nat → Int) : evFn (Rx0V C) af_hollowtreeref03_Num_Sub [n16 (tab 16 f), n16 (tab 16 g)] ⟨16, []⟩ kV = some (n16 (subF C (tab 16 f) (tab 16 g)), ⟨0, []⟩) := by kernel_rfl
theorem sm_run (C : M1) (f : Nat → Int) (m : Int) : evFn (Rx0V C) af_hollowtreeref03_Num_Small [n16 (tab 16 f), .int .i64 m] ⟨16, []⟩ kV = some (n16 (smF C (tab 16 f) m), ⟨0, []⟩) := by kernel_rfl
theorem rfrom_run (f : Nat → Int) : evFn G10 af_hollowtreeref03_From [key (tab 32 f)] ⟨16, []⟩ kV = some (n16 (fromF (tab 32 f)), ⟨0, []⟩) := by kernel_rfl
theorem fold_run (C : M1) (nid : Nat) (f : Nat → Int) : evFn (Rx0V C) af_hollowtreeref03_fold [.slice 0 0 0 32 0 none] ⟨16, [roC 0 (.segs [.ints .i64 32 (tab 32 f)])]⟩ (kOut none nid) = some (n16 (foldF C (tab 32 f)), ⟨0, []⟩) := by kernel_rfl
def num2V (A : M2) : OrcP := fun _ args _ => match args with
  | [.agg [.ints .i64 16 a], .agg [.ints .i64 16 b]] => some (n16 (fixL 16 (A a b)), none)
  | _ => none
def numSV (A : List Int → Int → List Int) : OrcP := fun _ args _ => match args with
  | [.agg [.ints .i64 16 a], .int .i64 m] => some (n16 (fixL 16 (A a m)), none)
  | _ => none
def numKV (A : M1) : OrcP := fun _ args _ => match args with
  | [.agg [.ints .u8 32 k]] => some (n16 (fixL 16 (A k)), none)
  | _ => none
theorem num2_pure {P : Program} {f : FuncId} {Γ : Env} {af : AFn} (F : Fn P f Γ af) {A : M2} (h : ∀ f g : Nat → Int, evFn Γ af [n16 (tab 16 f), n16 (tab 16 g)] ⟨16, []⟩ kV = some (n16 (A (tab 16 f) (tab 16 g)), ⟨0, []⟩)) (hA : ∀ a b, (A a b).length = 16) : PureOk P f (num2V A) := by
  refine F.plain fun nid args hp r ha hr => ?_
  unfold num2V at hr
  split at hr <;> try (cases hr; done)
  rename_i a b
  cases hr
  obtain ⟨⟨⟨h1, _⟩, _⟩, ⟨⟨h2, _⟩, _⟩, _⟩ := ha
  obtain ⟨a, rfl⟩ := tab_of h1
  obtain ⟨b, rfl⟩ := tab_of h2
  refine ⟨rfl, rfl, rfl, ?_⟩
  rw [fixL_eq (hA _ _)]
  exact h a b
theorem radd_pure {P : Program} {f : FuncId} (F : Fn P f (Rx0V carL) af_hollowtreeref03_Num_Add) : PureOk P f (num2V (addF carL)) := num2_pure F (add_run carL) fun _ _ => fixL_len ..
theorem rsub_pure {P : Program} {f : FuncId} (F : Fn P f (Rx0V carL) af_hollowtreeref03_Num_Sub) : PureOk P f (num2V (subF carL)) := num2_pure F (sub_run carL) fun _ _ => fixL_len ..
theorem rsm_pure {P : Program} {f : FuncId} (F : Fn P f (Rx0V carL) af_hollowtreeref03_Num_Small) : PureOk P f (numSV (smF carL)) := by
  refine F.plain fun nid args hp r ha hr => ?_
  unfold numSV at hr
  split at hr <;> try (cases hr; done)
  rename_i a m
  cases hr
  obtain ⟨⟨⟨h1, _⟩, _⟩, _⟩ := ha
  obtain ⟨a, rfl⟩ := tab_of h1
  refine ⟨rfl, rfl, rfl, ?_⟩
  rw [fixL_eq (l := smF carL _ _) (fixL_len ..)]
  exact sm_run carL a m
theorem rfrom_pure {P : Program} {f : FuncId} (F : Fn P f G10 af_hollowtreeref03_From) : PureOk P f (numKV fromF) := by
  refine F.plain fun nid args hp r ha hr => ?_
  unfold numKV at hr
  split at hr <;> try (cases hr; done)
  rename_i a
  cases hr
  obtain ⟨⟨⟨h1, _⟩, _⟩, _⟩ := ha
  obtain ⟨a, rfl⟩ := tab_of h1
  refine ⟨rfl, rfl, rfl, ?_⟩
  rw [fixL_eq (l := fromF _) (by simp [fromF, tab_len])]
  exact rfrom_run a
set_option maxRecDepth 100000
theorem rfold_run {P : Program} {f : FuncId} (F : Fn P f (Rx0V carL) af_hollowtreeref03_fold) : PureOk P f (fun _ args h => match args with
    | [s] => (contI .i64 h s).bind fun xs => if xs.length = 32 then some (n16 (foldF carL xs), none) else none
    | _ => none) := by
  refine F.lit [.sl (.ints .i64)] none fun nid args hp r ha hr => ?_
  split at hr <;> try (cases hr; done)
  rename_i s
  cases hc : contI .i64 hp s with
  | none => rw [hc] at hr; cases hr
  | some xs =>
    rw [hc] at hr
    simp only [Option.bind_some] at hr
    split at hr <;> try (cases hr; done)
    rename_i h32
    cases hr
    refine ⟨_, _, by simp only [viewArgs, contI_isSl hc, if_true, viewS_ints hc, Option.bind_some, Option.map_some]; rfl, by simp, ?_⟩
    rw [h32]
    obtain ⟨g, rfl⟩ := tab_of h32
    exact fold_run carL nid g
def foldV (A : M1) : OrcP := fun _ args h => match args with
  | [s] => (contI .i64 h s).bind fun xs => if xs.length = 32 then some (n16 (fixL 16 (A xs)), none) else none
  | _ => none
theorem rfold_pure {P : Program} {f : FuncId} (F : Fn P f (Rx0V carL) af_hollowtreeref03_fold) : PureOk P f (foldV (foldF carL)) := by
  intro nid args hp v ob ι w vs hk R hn ha
  refine rfold_run F nid args hp v ob ι w vs ?_ R hn ha
  unfold foldV at hk
  simp only
  split at hk <;> try (cases hk; done)
  rename_i s
  cases hc : contI .i64 hp s with
  | none => rw [hc] at hk; cases hk
  | some xs =>
    rw [hc] at hk
    simp only [Option.bind_some] at hk ⊢
    split at hk <;> try (cases hk; done)
    rename_i h32
    rw [if_pos h32, ← hk, fixL_eq (l := foldF carL xs) (fixL_len ..)]
def mTop : ACode := af_hollowtreeref03_Num_Mul.code
def mA : ACode := mTop.l
def mB : ACode := mTop.r.l
def mI0 : ACode := mTop.r.r.l.l
def mL0 : ACode := mTop.r.r.l.r.b.b
def mEnd : ACode := mTop.r.r.r
def mH0 : ACode := mL0.l
def mJ : ACode := mL0.r.l.b.l
def mL1 : ACode := mL0.r.l.b.r.b.b
def mT0 : ACode := mL0.r.r
def mCn0 : Option Canon := some ⟨[], [2,3,4,5,6], [], [16,17,18,19], 20⟩
def mCn1 : Option Canon := some ⟨[], [2,3,4,5,6,7], [], [16,17,18,19], 20⟩
def mBody : ACode := .seq none mH0 (.seq none (.block 1 none (.seq none mJ (.block 2 none (.loop 1000 mCn1 mL1)))) mT0)
def afMul : AFn := ⟨38, [.cell 4 true 16], .seq none mA (.seq none mB (.seq none (.seq none mI0 (.block 0 none (.loop 1000 mCn0 mBody))) mEnd))⟩
def Rm0 : Env := envAdd id_hollowtreeref03_fold (.pure (foldV (foldF carL))) G10
def Rm0V (A : M1) : Env := envAdd id_hollowtreeref03_fold (.pure (foldV A)) G10
def mHp (a b s : List Int) : Am.Heap := ⟨20, [cel 16 [.ints .i64 16 a], cel 17 [.ints .i64 16 b], cel 18 [.ints .i64 16 z16], cel 19 [.ints .i64 32 s]]⟩
def mS0 (a b s : List Int) (i : Int) : St := ⟨mkT 38 [(2, pt 16), (3, pt 17), (4, pt 18), (5, .slice 19 0 0 32 0 (some 32)), (6, .int .i64 i)], mHp a b s⟩
def mS1 (a b s : List Int) (i k : Int) : St := ⟨mkT 38 [(2, pt 16), (3, pt 17), (4, pt 18), (5, .slice 19 0 0 32 0 (some 32)), (6, .int .i64 i), (7, .int .i64 k)], mHp a b s⟩
def setO? {β : Type} (q : Int) (n : Nat) (k : Option β) : Option β := if 0 ≤ q ∧ q < (n : Int) then (if 0 + q.toNat < n then k else none) else none
theorem m_round1 (A : M1) (L : St → Option Res) (κ : Kont) (a b s : List Int) (i k : Int) : ev (Rm0V A) mL1 (mS1 a b s i k) (kLoop mCn1 L κ) =
    bif decide (k < 16) then atO? (w63 (i + k)) 32 0 s fun x => at? i 16 a fun y => at? k 16 b fun z => setO? (w63 (i + k)) 32 (L (mS1 a b (s.set (0 + (w63 (i + k)).toNat) (w63 (x + w63 (y * z)))) i (w63 (k + 1))))
    else κ (.exit 2) (withT 14 (.bool false) (withT 13 (.int .i64 k) (mS1 a b s i k))) := by kernel_rfl
theorem m_p1 (A : M1) (F : Nat) (C : ACode) (L : St → Option Res) (κ : Kont) (a b s : List Int) (i : Int) : ev (Rm0V A) (.seq none mH0 (.seq none (.block 1 none (.seq none mJ (.block 2 none (.loop F mCn1 C)))) mT0)) (mS0 a b s i) (kLoop mCn0 L κ) =
    bif decide (i < 16) then loopK mCn1 (ev (Rm0V A) C) F (mS1 a b s i 0) (kBlock 2 none (kBlock 1 none (kSeq (Rm0V A) none mT0 (kLoop mCn0 L κ)))) else κ (.exit 0) (withT 10 (.bool false) (withT 9 (.int .i64 i) (mS0 a b s i))) := by kernel_rfl
theorem m_p2 (A : M1) (L : St → Option Res) (κ : Kont) (a b s : List Int) (i : Int) : kBlock 2 none (kBlock 1 none (kSeq (Rm0V A) none mT0 (kLoop mCn0 L κ))) (.exit 2) (withT 14 (.bool false) (withT 13 (.int .i64 16) (mS1 a b s i 16))) = L (mS0 a b s (w63 (i + 1))) := by kernel_rfl
theorem m_end (A : M1) (a b : List Int) (f : Nat → Int) : ev (Rm0V A) mEnd (withT 10 (.bool false) (withT 9 (.int .i64 16) (mS0 a b (tab 32 f) 16))) (kFn [.cell 4 true 16] kV) = some (n16 (fixL 16 (A (tab 32 f))), ⟨0, []⟩) := by kernel_rfl
theorem m_start (A : M1) (F : Nat) (C R : ACode) (K : Kont) (a b : List Int) : ev (Rm0V A) (.seq none mA (.seq none mB (.seq none (.seq none mI0 (.block 0 none (.loop F mCn0 C))) R))) ⟨[n16 a, n16 b] ++ List.replicate 36 .undef, ⟨16, []⟩⟩ K =
    loopK mCn0 (ev (Rm0V A) C) F (mS0 a b (List.replicate 32 0) 0) (kBlock 0 none (kSeq (Rm0V A) none R K)) := by kernel_rfl
def rowM (s : List Int) (j : Nat) (a : Int) : List Int → List Int
  | [] => s
  | b :: r => rowM (s.set j (w63 (g0 s j + w63 (a * b)))) (j + 1) a r
def mulT (b s : List Int) (i : Nat) : List Int → List Int
  | [] => s
  | a :: r => mulT b (rowM s i a b) (i + 1) r
theorem rowM_len : ∀ (r s : List Int) (j : Nat) (a : Int), (rowM s j a r).length = s.length
  | [], _, _, _ => rfl
  | b :: r, s, j, a => by simp only [rowM]; rw [rowM_len r, List.length_set]
theorem mulT_len (b : List Int) : ∀ (r s : List Int) (i : Nat), (mulT b s i r).length = s.length
  | [], _, _ => rfl
  | a :: r, s, i => by simp only [mulT]; rw [mulT_len b r, rowM_len]
theorem wAdd (i k : Nat) (h : i + k < 1000) : w63 ((i : Int) + (k : Int)) = ((i + k : Nat) : Int) := by
  rw [← Int.natCast_add, w63_nat (by omega)]
theorem setO?_eq {β : Type} {q : Int} {n : Nat} {k : Option β} (j : Nat) (h : q = (j : Int)) (h1 : j < n) : setO? q n k = k := by
  subst h
  unfold setO?
  rw [if_pos ⟨by omega, by omega⟩, Int.toNat_natCast, if_pos (by omega)]
theorem m_loop1 (A : M1) (κ : Kont) (a b : List Int) (i : Nat) (hi : i < 16) (ha : a.length = 16) (hb : b.length = 16) : ∀ (r pre s : List Int) (F : Nat), b = pre ++ r → s.length = 32 → r.length < F →
    loopK mCn1 (ev (Rm0V A) mL1) F (mS1 a b s i (pre.length : Int)) κ = κ (.exit 2) (withT 14 (.bool false) (withT 13 (.int .i64 16) (mS1 a b (rowM s (i + pre.length) (g0 a i) r) i 16)))
  | [], pre, s, F + 1, he, _, _ => by
    refine (m_round1 A _ κ a b s i _).trans ?_
    have e : pre.length = 16 := by rw [he] at hb; simpa using hb
    rw [e]
    rfl
  | x :: r, pre, s, F + 1, he, hs, hF => by
    refine (m_round1 A _ κ a b s i _).trans ?_
    have hp : pre.length < 16 := by rw [he] at hb; simp at hb; omega
    have e1 : g0 b pre.length = x := by rw [he]; simp [g0, List.getD_eq_getElem?_getD]
    rw [decide_eq_true (by omega), cond_true, wAdd i pre.length (by omega), atO?_eq (i + pre.length) rfl (by omega) (by omega), at?_eq i rfl (by omega) (by omega), at?_eq pre.length rfl (by omega) (by omega), setO?_eq (i + pre.length) rfl (by omega), wS _ (by omega), Int.toNat_natCast, e1, Nat.zero_add]
    have ih := m_loop1 A κ a b i hi ha hb r (pre ++ [x]) (s.set (i + pre.length) (w63 (g0 s (i + pre.length) + w63 (g0 a i * x)))) F (by rw [he]; simp) (by simpa using hs) (by simp at hF; omega)
    have hln : (((pre ++ [x]).length : Nat) : Int) = ((pre.length + 1 : Nat) : Int) := by simp
    rw [hln] at ih
    refine ih.trans ?_
    simp only [rowM, List.length_append, List.length_cons, List.length_nil, Nat.zero_add, Nat.add_assoc]
  | _ :: _, _, _, 0, _, _, h => by omega
theorem m_loop0 (A : M1) (κ : Kont) (a b : List Int) (ha : a.length = 16) (hb : b.length = 16) : ∀ (r pre s : List Int) (F : Nat), a = pre ++ r → s.length = 32 → r.length < F →
    loopK mCn0 (ev (Rm0V A) mBody) F (mS0 a b s (pre.length : Int)) κ = κ (.exit 0) (withT 10 (.bool false) (withT 9 (.int .i64 16) (mS0 a b (mulT b s pre.length r) 16)))
  | [], pre, s, F + 1, he, _, _ => by
    refine (m_p1 A 1000 mL1 _ κ a b s _).trans ?_
    have e : pre.length = 16 := by rw [he] at ha; simpa using ha
    rw [e]
    rfl
  | x :: r, pre, s, F + 1, he, hs, hF => by
    refine (m_p1 A 1000 mL1 _ κ a b s _).trans ?_
    have hp : pre.length < 16 := by rw [he] at ha; simp at ha; omega
    have e1 : g0 a pre.length = x := by rw [he]; simp [g0, List.getD_eq_getElem?_getD]
    rw [decide_eq_true (by omega), cond_true]
    have h1 := m_loop1 A (kBlock 2 none (kBlock 1 none (kSeq (Rm0V A) none mT0 (kLoop mCn0 (fun s => loopK mCn0 (ev (Rm0V A) mBody) F s κ) κ)))) a b pre.length hp ha hb b [] s 1000 rfl hs (by omega)
    refine (show _ = _ from h1).trans ?_
    rw [m_p2, wS _ (by omega), e1]
    have ih := m_loop0 A κ a b ha hb r (pre ++ [x]) (rowM s (pre.length + 0) x b) F (by rw [he]; simp) (by rw [rowM_len]; exact hs) (by simp at hF; omega)
    have hln : (((pre ++ [x]).length : Nat) : Int) = ((pre.length + 1 : Nat) : Int) := by simp
    rw [hln] at ih
    refine ih.trans ?_
    simp only [mulT, List.length_append, List.length_cons, List.length_nil, Nat.zero_add, Nat.add_zero]
  | _ :: _, _, _, 0, _, _, h => by omega
def mulF (A : M1) (a b : List Int) : List Int := fixL 16 (A (mulT b (List.replicate 32 0) 0 a))
theorem mul_runR (A : M1) {a b : List Int} (ha : a.length = 16) (hb : b.length = 16) : evFn (Rm0V A) afMul [n16 a, n16 b] ⟨16, []⟩ kV = some (n16 (mulF A a b), ⟨0, []⟩) := by
  rw [evFn_eq]
  refine Eq.trans ?_ ((m_start A 1000 mBody mEnd (kFn [.cell 4 true 16] kV) a b).trans ?_)
  · rfl
  have h0 := m_loop0 A (kBlock 0 none (kSeq (Rm0V A) none mEnd (kFn [.cell 4 true 16] kV))) a b ha hb a [] (List.replicate 32 0) 1000 rfl (by simp) (by omega)
  refine (show _ = _ from h0).trans ?_
  rw [kBlock_exit]
  obtain ⟨g, hg⟩ := tab_of (xs := mulT b (List.replicate 32 0) 0 a) (n := 32) (by rw [mulT_len]; simp)
  unfold mulF
  rw [show ([] : List Int).length = 0 from rfl, hg]
  exact m_end A a b g
theorem rmul_pure {P : Program} {f : FuncId} (F : Fn P f (Rm0V (foldF carL)) afMul) : PureOk P f (num2V (mulF (foldF carL))) := by
  refine F.plain fun nid args hp r ha hr => ?_
  unfold num2V at hr
  split at hr <;> try (cases hr; done)
  rename_i a b
  cases hr
  obtain ⟨⟨⟨h1, _⟩, _⟩, ⟨⟨h2, _⟩, _⟩, _⟩ := ha
  refine ⟨rfl, rfl, rfl, ?_⟩
  rw [fixL_eq (l := mulF _ _ _) (fixL_len ..)]
  exact mul_runR (foldF carL) h1 h2
set_option maxRecDepth 100000
def yTop : ACode := af_hollowtreeref03_Num_Bytes.code
def yA : ACode := yTop.l
def yB : ACode := yTop.r.l
def yI3 : ACode := yTop.r.r.l.l
def yL3 : ACode := yTop.r.r.l.r.b.b
def yEnd : ACode := yTop.r.r.r
def yH3 : ACode := yL3.l
def yBd : ACode := yL3.r.l.b
def yT3 : ACode := yL3.r.r
def yR1 : ACode := yBd.l
def yR2 : ACode := yBd.r.l
def yL5 : ACode := yBd.r.r.l
def yR3 : ACode := yBd.r.r.r.l
def yR4 : ACode := yBd.r.r.r.r.l
def yI7 : ACode := yBd.r.r.r.r.r.l.l
def yL7 : ACode := yBd.r.r.r.r.r.l.r.b.b
def yRE : ACode := yBd.r.r.r.r.r.r
def yH7 : ACode := yL7.l
def yX5 : ACode := yL7.r.l.b
def yT7 : ACode := yL7.r.r
def yRx : ACode := yX5.l
def yRc : ACode := yX5.r.l
def yLw : ACode := yX5.r.r.l.b.b
def yRst : ACode := yX5.r.r.r
def yCn3 : Option Canon := some ⟨[], [1,2,3], [], [16,17], 18⟩
def yCn7 : Option Canon := some ⟨[], [1,2,3,4,6,7], [], [16,17,18], 19⟩
def yCnw : Option Canon := some ⟨[], [1,2,3,4,6,7,8], [], [16,17,18], 19⟩
def yB7 : ACode := .seq none yH7 (.seq none (.block 5 none (.seq none yRx (.seq none yRc (.seq none (.block 6 none (.loop 1000 yCnw yLw)) yRst)))) yT7)
def yB3 : ACode := .seq none yH3 (.seq none (.block 1 none (.seq none yR1 (.seq none yR2 (.seq none yL5 (.seq none yR3 (.seq none yR4 (.seq none (.seq none yI7 (.block 4 none (.loop 1000 yCn7 yB7))) yRE))))))) yT3)
def afBytes3 : AFn := ⟨79, [.cell 2 true 32], .seq none yA (.seq none yB (.seq none (.seq none yI3 (.block 0 none (.loop 1000 yCn3 yB3))) yEnd))⟩
def z32R : List Int := List.replicate 32 0
def yS3 (l : List Int) (rd : Int) : St := ⟨mkT 79 [(1, pt 16), (2, pt 17), (3, .int .i64 rd)], ⟨18, [cel 16 [.ints .i64 16 l], cel 17 [.ints .u8 32 z32R]]⟩⟩
def yS7 (l m : List Int) (rd c i : Int) : St := ⟨mkT 79 [(1, pt 16), (2, pt 17), (3, .int .i64 rd), (4, pt 18), (6, .int .i64 c), (7, .int .i64 i)], ⟨19, [cel 16 [.ints .i64 16 l], cel 17 [.ints .u8 32 z32R], cel 18 [.ints .i64 16 m]]⟩⟩
def ySw (l m : List Int) (rd c i x : Int) : St := ⟨mkT 79 [(1, pt 16), (2, pt 17), (3, .int .i64 rd), (4, pt 18), (6, .int .i64 c), (7, .int .i64 i), (8, .int .i64 x)], ⟨19, [cel 16 [.ints .i64 16 l], cel 17 [.ints .u8 32 z32R], cel 18 [.ints .i64 16 m]]⟩⟩
def mP (l : List Int) : List Int := w63 (g0 l 0 - 65517) :: ((tab 14 fun i => w63 (g0 l (i + 1) - 65535)) ++ [w63 (g0 l 15 - 32767)])
theorem y_p1 (A : M1) (F : Nat) (C R T : ACode) (L : St → Option Res) (κ : Kont) (f : Nat → Int) (rd : Int) : ev (Rx0V A) (.seq none yH3 (.seq none (.block 1 none (.seq none yR1 (.seq none yR2 (.seq none yL5 (.seq none yR3 (.seq none yR4 (.seq none (.seq none yI7 (.block 4 none (.loop F yCn7 C))) R))))))) T)) (yS3 (tab 16 f) rd) (kLoop yCn3 L κ) =
    bif decide (rd < 3) then loopK yCn7 (ev (Rx0V A) C) F (yS7 (tab 16 f) (mP (tab 16 f)) rd 0 0) (kBlock 4 none (kSeq (Rx0V A) none R (kBlock 1 none (kSeq (Rx0V A) none T (kLoop yCn3 L κ)))))
    else κ (.exit 0) (withT 14 (.bool false) (withT 13 (.int .i64 rd) (yS3 (tab 16 f) rd))) := by kernel_rfl
theorem y_p7 (A : M1) (F : Nat) (C R T : ACode) (L : St → Option Res) (κ : Kont) (l m : List Int) (rd c i : Int) : ev (Rx0V A) (.seq none yH7 (.seq none (.block 5 none (.seq none yRx (.seq none yRc (.seq none (.block 6 none (.loop F yCnw C)) R)))) T)) (yS7 l m rd c i) (kLoop yCn7 L κ) =
    bif decide (i < 16) then at? i 16 m fun x => loopK yCnw (ev (Rx0V A) C) F (ySw l m rd 0 i (w63 (x + c))) (kBlock 6 none (kSeq (Rx0V A) none R (kBlock 5 none (kSeq (Rx0V A) none T (kLoop yCn7 L κ)))))
    else κ (.exit 4) (withT 37 (.bool false) (withT 36 (.int .i64 i) (yS7 l m rd c i))) := by kernel_rfl
theorem y_pw (A : M1) (L : St → Option Res) (κ : Kont) (l m : List Int) (rd c i x : Int) : ev (Rx0V A) yLw (ySw l m rd c i x) (kLoop yCnw L κ) =
    bif decide (x < 0) then L (ySw l m rd (w63 (c - 1)) i (w63 (x + 65536))) else κ (.exit 6) (withT 46 (.bool false) (withT 45 (.int .i64 x) (ySw l m rd c i x))) := by kernel_rfl
theorem y_pe (A : M1) (L : St → Option Res) (κ : Kont) (l m : List Int) (rd c i x : Int) : kBlock 6 none (kSeq (Rx0V A) none yRst (kBlock 5 none (kSeq (Rx0V A) none yT7 (kLoop yCn7 L κ)))) (.exit 6) (withT 46 (.bool false) (withT 45 (.int .i64 x) (ySw l m rd c i x))) =
    set? i 16 (L (yS7 l (m.set i.toNat x) rd c (w63 (i + 1)))) := by kernel_rfl
theorem y_p9 (A : M1) (L : St → Option Res) (κ : Kont) (l m : List Int) (rd c : Int) : kBlock 4 none (kSeq (Rx0V A) none yRE (kBlock 1 none (kSeq (Rx0V A) none yT3 (kLoop yCn3 L κ)))) (.exit 4) (withT 37 (.bool false) (withT 36 (.int .i64 16) (yS7 l m rd c 16))) =
    bif c == 0 then L (yS3 m (w63 (rd + 1))) else L (yS3 l (w63 (rd + 1))) := by kernel_rfl
def bytD : List Int → List Int
  | [] => []
  | x :: r => w8 (x.tmod 256) :: w8 (w63 (x.tdiv 256)) :: bytD r
theorem y_end (A : M1) (f : Nat → Int) : ev (Rx0V A) yEnd (withT 14 (.bool false) (withT 13 (.int .i64 3) (yS3 (tab 16 f) 3))) (kFn [.cell 2 true 32] kV) = some (key (bytD (tab 16 f)), ⟨0, []⟩) := by kernel_rfl
theorem y_start (A : M1) (F : Nat) (C R : ACode) (K : Kont) (l : List Int) : ev (Rx0V A) (.seq none yA (.seq none yB (.seq none (.seq none yI3 (.block 0 none (.loop F yCn3 C))) R))) ⟨[n16 l] ++ List.replicate 78 .undef, ⟨16, []⟩⟩ K =
    loopK yCn3 (ev (Rx0V A) C) F (yS3 (fixL 16 (A l)) 0) (kBlock 0 none (kSeq (Rx0V A) none R K)) := by kernel_rfl
set_option maxRecDepth 100000
def bytV (B : M1) : OrcP := fun _ args _ => match args with
  | [.agg [.ints .i64 16 l]] => some (key (fixL 32 (B l)), none)
  | _ => none
def clampV (B : M1) : OrcP := fun _ args _ => match args with
  | [.agg [.ints .u8 32 l]] => some (key (fixL 32 (B l)), none)
  | _ => none
structure XV where
  cl : M1
  fr : M1
  ad : M2
  sb : M2
  mu : M2
  sm : List Int → Int → List Int
  iv : M1
  byt : M1
def RxX (V : XV) : Env := envAdd id_hollowtreeref03_Clamp (.pure (clampV V.cl)) (envAdd id_hollowtreeref03_From (.pure (numKV V.fr)) (envAdd id_hollowtreeref03_Num_Add (.pure (num2V V.ad)) (envAdd id_hollowtreeref03_Num_Sub (.pure (num2V V.sb))
  (envAdd id_hollowtreeref03_Num_Mul (.pure (num2V V.mu)) (envAdd id_hollowtreeref03_Num_Small (.pure (numSV V.sm)) (envAdd id_hollowtreeref03_Num_Inv (.pure (num1V V.iv)) (envAdd id_hollowtreeref03_Num_Bytes (.pure (bytV V.byt)) G10)))))))
def vTop : ACode := af_hollowtreeref03_X.code
def vA : ACode := vTop.l
def vB : ACode := vTop.r.l
def vC : ACode := vTop.r.r.l
def vD : ACode := vTop.r.r.r.l
def vI : ACode := vTop.r.r.r.r.l.l
def vL0 : ACode := vTop.r.r.r.r.l.r.b.b
def vEnd : ACode := vTop.r.r.r.r.r
def vH : ACode := vL0.l
def vBd : ACode := vL0.r.l.b
def vT : ACode := vL0.r.r
def vR1 : ACode := vBd.l
def vI2 : ACode := vBd.r.l.l
def vL2 : ACode := vBd.r.l.r.b.b
def vRm : ACode := vBd.r.r.l
def vC1 : ACode := vBd.r.r.r.l
def vRest : ACode := vBd.r.r.r.r
def vBl : List Nat := [18,19,20,469,533,597,661]
def vCn0 : Option Canon := some ⟨[], [4,5,6,7,8,9,10,11], [], vBl, 700⟩
def vCn2 : Option Canon := some ⟨[], [4,5,6,7,8,9,10,11,12,13], [], vBl, 700⟩
def vCnM : Option Canon := some ⟨[], [4,5,6,7,8,9,10,11,12], [], vBl, 700⟩
def vBody : ACode := .seq none vH (.seq none (.block 1 none (.seq none vR1 (.seq none (.seq none vI2 (.block 2 none (.loop 1000 vCn2 vL2))) (.seq none vRm (.seq vCnM vC1 vRest))))) vT)
def afX03 : AFn := ⟨122, [.cell 4 true 32], .seq none vA (.seq none vB (.seq none vC (.seq none vD (.seq none (.seq none vI (.block 0 none (.loop 1000 vCn0 vBody))) vEnd))))⟩
structure X4 where
  a : List Int
  b : List Int
  c : List Int
  d : List Int
def X4.sw (s : X4) : X4 := ⟨s.c, s.d, s.a, s.b⟩
def vHp (k x1 : List Int) (s : X4) : Am.Heap := ⟨700, [cel 18 [.ints .u8 32 (List.replicate 32 0)], cel 19 [.ints .u8 32 k], cel 20 [.ints .i64 16 x1], cel 469 [.ints .i64 16 s.a], cel 533 [.ints .i64 16 s.b], cel 597 [.ints .i64 16 s.c], cel 661 [.ints .i64 16 s.d]]⟩
def vSt (k x1 : List Int) (s : X4) (ex : List (Nat × AV)) : St := ⟨mkT 122 ([(4, pt 18), (5, pt 19), (6, pt 20), (7, pt 469), (8, pt 533), (9, pt 597), (10, pt 661)] ++ ex), vHp k x1 s⟩
def vS0 (k x1 : List Int) (s : X4) (at' : Int) : St := vSt k x1 s [(11, .int .i64 at')]
def vS2 (k x1 : List Int) (s : X4) (at' o i : Int) : St := vSt k x1 s [(11, .int .i64 at'), (12, .int .i64 o), (13, .int .i64 i)]
def vSm (k x1 : List Int) (s : X4) (at' o : Int) : St := vSt k x1 s [(11, .int .i64 at'), (12, .int .i64 o)]
def vSx (k x1 : List Int) (s : X4) (at' o i : Int) : St := withT 48 (.bool false) (withT 47 (.int .i64 (at'.tmod 8)) (withT 46 (.int .i64 at') (withT 45 (.int .i64 i) (vS2 k x1 s at' o i))))
theorem v_p1 (V : XV) (F : Nat) (C R T : ACode) (L : St → Option Res) (κ : Kont) (k x1 : List Int) (s : X4) (at' : Int) : ev (RxX V) (.seq none vH (.seq none (.block 1 none (.seq none vR1 (.seq none (.seq none vI2 (.block 2 none (.loop F vCn2 C))) R))) T)) (vS0 k x1 s at') (kLoop vCn0 L κ) =
    bif decide (at' ≥ 0) then at? (w63 (at'.tdiv 8)) 32 k fun o => loopK vCn2 (ev (RxX V) C) F (vS2 k x1 s at' (w63 o) 0) (kBlock 2 none (kSeq (RxX V) none R (kBlock 1 none (kSeq (RxX V) none T (kLoop vCn0 L κ)))))
    else κ (.exit 0) (withT 37 (.bool false) (withT 36 (.int .i64 at') (vS0 k x1 s at'))) := by kernel_rfl
theorem v_p2 (V : XV) (L : St → Option Res) (κ : Kont) (k x1 : List Int) (s : X4) (at' o i : Int) : ev (RxX V) vL2 (vS2 k x1 s at' o i) (kLoop vCn2 L κ) =
    bif decide (i < at'.tmod 8) then L (vS2 k x1 s at' (w63 (o.tdiv 2)) (w63 (i + 1))) else κ (.exit 2) (vSx k x1 s at' o i) := by kernel_rfl
theorem v_p3 (V : XV) (R : ACode) (K : Kont) (k x1 : List Int) (s : X4) (at' o i : Int) : kBlock 2 none (kSeq (RxX V) none (.seq none vRm (.seq vCnM vC1 R)) K) (.exit 2) (vSx k x1 s at' o i) =
    bif o.tmod 2 == 1 then ev (RxX V) R (vSm k x1 s.sw at' (o.tmod 2)) K else ev (RxX V) R (vSm k x1 s at' (o.tmod 2)) K := by kernel_rfl
section
variable (V : XV) (x1 : List Int) (s : X4)
def vgA : List Int := fixL 16 (V.ad s.a s.b)
def vgB : List Int := fixL 16 (V.sb s.a s.b)
def vgC : List Int := fixL 16 (V.ad s.c s.d)
def vgD : List Int := fixL 16 (V.sb s.c s.d)
def vgAA : List Int := fixL 16 (V.mu (vgA V s) (vgA V s))
def vgBB : List Int := fixL 16 (V.mu (vgB V s) (vgB V s))
def vgE : List Int := fixL 16 (V.sb (vgAA V s) (vgBB V s))
def vgDA : List Int := fixL 16 (V.mu (vgD V s) (vgA V s))
def vgCB : List Int := fixL 16 (V.mu (vgC V s) (vgB V s))
def vgS : List Int := fixL 16 (V.ad (vgDA V s) (vgCB V s))
def vgT : List Int := fixL 16 (V.sb (vgDA V s) (vgCB V s))
def vGo : X4 := ⟨fixL 16 (V.mu (vgAA V s) (vgBB V s)), fixL 16 (V.mu (vgE V s) (fixL 16 (V.ad (vgAA V s) (fixL 16 (V.sm (vgE V s) 121665))))), fixL 16 (V.mu (vgS V s) (vgS V s)), fixL 16 (V.mu x1 (fixL 16 (V.mu (vgT V s) (vgT V s))))⟩
end
theorem v_p4 (V : XV) (L : St → Option Res) (κ : Kont) (k x1 : List Int) (s : X4) (at' o : Int) : ev (RxX V) vRest (vSm k x1 s at' o) (kBlock 1 none (kSeq (RxX V) none vT (kLoop vCn0 L κ))) =
    bif o == 1 then L (vS0 k x1 (vGo V x1 s).sw (w63 (at' - 1))) else L (vS0 k x1 (vGo V x1 s) (w63 (at' - 1))) := by kernel_rfl
theorem v_start (V : XV) (F : Nat) (C R : ACode) (K : Kont) (k u : List Int) : ev (RxX V) (.seq none vA (.seq none vB (.seq none vC (.seq none vD (.seq none (.seq none vI (.block 0 none (.loop F vCn0 C))) R))))) ⟨[key k, key u] ++ List.replicate 120 .undef, ⟨16, []⟩⟩ K =
    loopK vCn0 (ev (RxX V) C) F (vS0 (fixL 32 (V.cl k)) (fixL 16 (V.fr u)) ⟨fixL 16 (V.fr (1 :: List.replicate 31 0)), fixL 16 (V.fr (List.replicate 32 0)), fixL 16 (V.fr u), fixL 16 (V.fr (1 :: List.replicate 31 0))⟩ 254) (kBlock 0 none (kSeq (RxX V) none R K)) := by kernel_rfl
theorem v_endX (V : XV) (k x1 : List Int) (s : X4) (at' : Int) : ev (RxX V) vEnd (withT 37 (.bool false) (withT 36 (.int .i64 at') (vS0 k x1 s at'))) (kFn [.cell 4 true 32] kV) =
    some (key (fixL 32 (V.byt (fixL 16 (V.mu s.a (fixL 16 (V.iv s.b)))))), ⟨0, []⟩) := by kernel_rfl
set_option maxRecDepth 100000
structure Rep16 (l : List Int) (n : Nat) : Prop where
  len : l.length = 16
  dig : DigL l
  val : ∃ k, vL l = (n : Int) - k * pI
theorem zipI_eq {g : Int → Int → Int} {a b : List Int} (ha : a.length = 16) (hb : b.length = 16) : zipI g a b = List.zipWith g a b := by
  obtain ⟨f, rfl⟩ := tab_of ha
  obtain ⟨h, rfl⟩ := tab_of hb
  rfl
theorem dig_bnd {l : List Int} (h : DigL l) : BndL 65536 l := fun x hx => by have := h x hx; omega
theorem bnd_mono {l : List Int} {a b : Int} (h : BndL a l) (hab : a ≤ b) : BndL b l := fun x hx => by have := h x hx; omega
theorem car_rep {l : List Int} {n : Nat} (hl : l.length = 16) (hb : BndL 4611686018427387904 l) (h : ∃ k, vL l = (n : Int) - k * pI) : Rep16 (carL l) n := by
  obtain ⟨k, hk⟩ := h
  obtain ⟨m, hm⟩ := carL_val hl hb
  refine ⟨(carL_len l).trans hl, carL_dig hl, k + m, ?_⟩
  rw [hm, hk]
  generalize pI = q
  grind
theorem zip_add : ∀ {a b : List Int}, a.length = b.length → DigL a → DigL b → vL (List.zipWith (fun x y => w63 (x + y)) a b) = vL a + vL b ∧ BndL 131072 (List.zipWith (fun x y => w63 (x + y)) a b)
  | [], [], _, _, _ => ⟨rfl, fun x hx => by simp at hx⟩
  | x :: r, y :: u, h, ha, hb => by
    have hx := ha x (List.mem_cons_self ..)
    have hy := hb y (List.mem_cons_self ..)
    obtain ⟨e1, e2⟩ := zip_add (a := r) (b := u) (by simpa using h) (fun z hz => ha z (List.mem_cons_of_mem _ hz)) fun z hz => hb z (List.mem_cons_of_mem _ hz)
    have e : w63 (x + y) = x + y := w63_id (by omega) (by omega)
    refine ⟨?_, fun z hz => ?_⟩
    · simp only [List.zipWith_cons_cons, vL, e, e1]; omega
    · simp only [List.zipWith_cons_cons, List.mem_cons] at hz
      rcases hz with rfl | hz
      · rw [e]; omega
      · exact e2 z hz
  | [], _ :: _, h, _, _ => by simp at h
  | _ :: _, [], h, _, _ => by simp at h
theorem zip_sub : ∀ {a b : List Int}, a.length = b.length → DigL a → DigL b → vL (List.zipWith (fun x y => w63 (x - y)) a b) = vL a - vL b ∧ BndL 131072 (List.zipWith (fun x y => w63 (x - y)) a b)
  | [], [], _, _, _ => ⟨rfl, fun x hx => by simp at hx⟩
  | x :: r, y :: u, h, ha, hb => by
    have hx := ha x (List.mem_cons_self ..)
    have hy := hb y (List.mem_cons_self ..)
    obtain ⟨e1, e2⟩ := zip_sub (a := r) (b := u) (by simpa using h) (fun z hz => ha z (List.mem_cons_of_mem _ hz)) fun z hz => hb z (List.mem_cons_of_mem _ hz)
    have e : w63 (x - y) = x - y := w63_id (by omega) (by omega)
    refine ⟨?_, fun z hz => ?_⟩
    · simp only [List.zipWith_cons_cons, vL, e, e1]; omega
    · simp only [List.zipWith_cons_cons, List.mem_cons] at hz
      rcases hz with rfl | hz
      · rw [e]; omega
      · exact e2 z hz
  | [], _ :: _, h, _, _ => by simp at h
  | _ :: _, [], h, _, _ => by simp at h
theorem Rep16.add {a b : List Int} {m n : Nat} (ha : Rep16 a m) (hb : Rep16 b n) : Rep16 (addF carL a b) (m + n) := by
  obtain ⟨i, hi⟩ := ha.val
  obtain ⟨j, hj⟩ := hb.val
  obtain ⟨e1, e2⟩ := zip_add (ha.len.trans hb.len.symm) ha.dig hb.dig
  have hlen : (List.zipWith (fun x y => w63 (x + y)) a b).length = 16 := by simp [ha.len, hb.len]
  unfold addF
  rw [zipI_eq ha.len hb.len, fixL_eq ((carL_len _).trans hlen)]
  refine car_rep hlen (bnd_mono e2 (by omega)) ⟨i + j, ?_⟩
  rw [e1, hi, hj, Int.natCast_add]
  generalize pI = q
  grind
theorem Rep16.sub {a b : List Int} {m n : Nat} (ha : Rep16 a m) (hb : Rep16 b n) : Rep16 (subF carL a b) (m + (pN - n % pN)) := by
  obtain ⟨i, hi⟩ := ha.val
  obtain ⟨j, hj⟩ := hb.val
  obtain ⟨e1, e2⟩ := zip_sub (ha.len.trans hb.len.symm) ha.dig hb.dig
  have hlen : (List.zipWith (fun x y => w63 (x - y)) a b).length = 16 := by simp [ha.len, hb.len]
  unfold subF
  rw [zipI_eq ha.len hb.len, fixL_eq ((carL_len _).trans hlen)]
  refine car_rep hlen (bnd_mono e2 (by omega)) ⟨i - j + 1 + (n / pN : Nat), ?_⟩
  have h1 : ((pN - n % pN : Nat) : Int) = pI - n + (n / pN : Nat) * pI := by
    have := Nat.div_add_mod n pN
    simp only [pN, pI] at *
    omega
  rw [e1, hi, hj, Int.natCast_add, h1]
  generalize pI = q
  generalize ((n / pN : Nat) : Int) = r
  grind
theorem Rep16.mod {a : List Int} {m : Nat} (ha : Rep16 a m) : Rep16 a (m % pN) := by
  obtain ⟨i, hi⟩ := ha.val
  refine ⟨ha.len, ha.dig, i - (m / pN : Nat), ?_⟩
  rw [hi]
  have := Nat.div_add_mod m pN
  simp only [pN, pI] at *
  omega
def B0 (b : Int) (l : List Int) : Prop := ∀ x ∈ l, 0 ≤ x ∧ x ≤ b
theorem g0_mem {l : List Int} {j : Nat} (h : j < l.length) : g0 l j ∈ l := by
  rw [g0, List.getD_eq_getElem?_getD, List.getElem?_eq_getElem h]
  exact List.getElem_mem h
theorem vL_set : ∀ (l : List Int) (j : Nat) (x : Int), j < l.length → vL (l.set j x) = vL l + (x - g0 l j) * 65536 ^ j
  | y :: r, 0, x, _ => by simp only [List.set_cons_zero, vL, g0, List.getD_cons_zero, Int.pow_zero]; omega
  | y :: r, j + 1, x, h => by
    have ih := vL_set r j x (by simpa using h)
    have e : g0 (y :: r) (j + 1) = g0 r j := rfl
    simp only [List.set_cons_succ, vL, ih, e, Int.pow_succ]
    generalize (65536 : Int) ^ j = T
    grind
theorem rowM_val (a : Int) (ha : 0 ≤ a ∧ a < 65536) : ∀ (r s : List Int) (j : Nat) (b : Int), DigL r → B0 b s → 0 ≤ b → b + 4294967296 * (r.length : Int) ≤ 1099511627776 → j + r.length ≤ s.length →
    vL (rowM s j a r) = vL s + a * vL r * 65536 ^ j ∧ B0 (b + 4294967296 * (r.length : Int)) (rowM s j a r)
  | [], s, j, b, _, hs, _, _, _ => by simp only [rowM, vL, List.length_nil]; exact ⟨by simp, fun x hx => by have := hs x hx; omega⟩
  | y :: r, s, j, b, hr, hs, hb0, hb, hl => by
    have hy := hr y (List.mem_cons_self ..)
    simp only [List.length_cons] at hb hl
    have hj : j < s.length := by omega
    have hg := hs _ (g0_mem hj)
    have hp : 0 ≤ a * y ∧ a * y ≤ 65535 * 65535 := mulB ⟨ha.1, by omega⟩ ⟨hy.1, by omega⟩
    have e1 : w63 (a * y) = a * y := w63_id (by omega) (by omega)
    have e2 : w63 (g0 s j + a * y) = g0 s j + a * y := w63_id (by omega) (by omega)
    simp only [rowM, e1, e2]
    have hB : B0 (b + 4294967296) (s.set j (g0 s j + a * y)) := fun z hz => by
      rcases List.mem_or_eq_of_mem_set hz with hz | rfl
      · have := hs z hz; omega
      · omega
    obtain ⟨i1, i2⟩ := rowM_val a ha r (s.set j (g0 s j + a * y)) (j + 1) (b + 4294967296) (fun z hz => hr z (List.mem_cons_of_mem _ hz)) hB (by omega) (by omega) (by rw [List.length_set]; omega)
    refine ⟨?_, fun z hz => by have := i2 z hz; simp only [List.length_cons]; omega⟩
    rw [i1, vL_set s j _ hj]
    simp only [vL, Int.pow_succ]
    generalize (65536 : Int) ^ j = T
    grind
theorem mulT_val (b : List Int) (hb : DigL b) (hb16 : b.length = 16) : ∀ (r s : List Int) (i : Nat) (m : Int), DigL r → B0 m s → 0 ≤ m → m + 68719476736 * (r.length : Int) ≤ 1099511627776 → i + r.length ≤ 16 → s.length = 32 →
    vL (mulT b s i r) = vL s + vL r * vL b * 65536 ^ i ∧ B0 1099511627776 (mulT b s i r)
  | [], s, i, m, _, hs, _, hm, _, _ => by simp only [mulT, vL]; exact ⟨by simp, fun x hx => by have := hs x hx; simp at hm; omega⟩
  | x :: r, s, i, m, hr, hs, hm0, hm, hi, h32 => by
    have hx := hr x (List.mem_cons_self ..)
    simp only [List.length_cons] at hm hi
    obtain ⟨e1, e2⟩ := rowM_val x hx b s i m hb hs hm0 (by rw [hb16]; omega) (by omega)
    rw [hb16] at e2
    obtain ⟨i1, i2⟩ := mulT_val b hb hb16 r (rowM s i x b) (i + 1) (m + 68719476736) (fun z hz => hr z (List.mem_cons_of_mem _ hz)) (fun z hz => by have := e2 z hz; omega) (by omega) (by omega) (by omega) (by rw [rowM_len, h32])
    refine ⟨?_, i2⟩
    simp only [mulT]
    rw [i1, e1]
    simp only [vL, Int.pow_succ]
    generalize (65536 : Int) ^ i = T
    grind
theorem vL_append : ∀ (a b : List Int), vL (a ++ b) = vL a + vL b * 65536 ^ a.length
  | [], b => by simp [vL]
  | x :: r, b => by
    simp only [List.cons_append, vL, vL_append r b, List.length_cons, Int.pow_succ]
    generalize (65536 : Int) ^ r.length = T
    grind
theorem zip_fold : ∀ {a b : List Int}, a.length = b.length → B0 1099511627776 a → B0 1099511627776 b → vL (List.zipWith (fun x y => w63 (w63 (0 + x) + w63 (38 * y))) a b) = vL a + 38 * vL b ∧ BndL 43980465111040 (List.zipWith (fun x y => w63 (w63 (0 + x) + w63 (38 * y))) a b)
  | [], [], _, _, _ => ⟨rfl, fun x hx => by simp at hx⟩
  | x :: r, y :: u, h, ha, hb => by
    have hx := ha x (List.mem_cons_self ..)
    have hy := hb y (List.mem_cons_self ..)
    obtain ⟨e1, e2⟩ := zip_fold (a := r) (b := u) (by simpa using h) (fun z hz => ha z (List.mem_cons_of_mem _ hz)) fun z hz => hb z (List.mem_cons_of_mem _ hz)
    have e : w63 (w63 (0 + x) + w63 (38 * y)) = x + 38 * y := by
      rw [w63_id (n := 0 + x) (by omega) (by omega), w63_id (n := 38 * y) (by omega) (by omega), w63_id (by omega) (by omega)]; omega
    refine ⟨?_, fun z hz => ?_⟩
    · simp only [List.zipWith_cons_cons, vL, e, e1]; omega
    · simp only [List.zipWith_cons_cons, List.mem_cons] at hz
      rcases hz with rfl | hz
      · rw [e]; omega
      · exact e2 z hz
  | [], _ :: _, h, _, _ => by simp at h
  | _ :: _, [], h, _, _ => by simp at h
theorem foldF_eq {l : List Int} (hl : l.length = 32) : foldF carL l = fixL 16 (carL (List.zipWith (fun x y => w63 (w63 (0 + x) + w63 (38 * y))) (l.take 16) (l.drop 16))) := by
  obtain ⟨f, rfl⟩ := tab_of hl
  rfl
theorem Rep16.mul {a b : List Int} {m n : Nat} (ha : Rep16 a m) (hb : Rep16 b n) : Rep16 (mulF (foldF carL) a b) (m * n) := by
  obtain ⟨i, hi⟩ := ha.val
  obtain ⟨j, hj⟩ := hb.val
  obtain ⟨e1, e2⟩ := mulT_val b hb.dig hb.len a (List.replicate 32 0) 0 0 ha.dig (fun x hx => by simp [List.mem_replicate] at hx; omega) (by omega) (by rw [ha.len]; omega) (by rw [ha.len]; omega) (by simp)
  have h32 : (mulT b (List.replicate 32 0) 0 a).length = 32 := by rw [mulT_len]; simp
  have z0 : vL (List.replicate 32 0) = 0 := by decide
  rw [z0] at e1
  simp only [Int.pow_zero, Int.mul_one, Int.zero_add] at e1
  unfold mulF
  rw [fixL_eq (l := foldF carL _) (fixL_len ..), foldF_eq h32]
  generalize mulT b (List.replicate 32 0) 0 a = s at *
  have hsp : vL s = vL (s.take 16) + vL (s.drop 16) * 65536 ^ 16 := by
    have := vL_append (s.take 16) (s.drop 16)
    rw [List.take_append_drop] at this
    rw [this]; simp [h32]
  obtain ⟨f1, f2⟩ := zip_fold (a := s.take 16) (b := s.drop 16) (by simp [h32]) (fun x hx => e2 x (List.mem_of_mem_take hx)) fun x hx => e2 x (List.mem_of_mem_drop hx)
  have hlen : (List.zipWith (fun x y => w63 (w63 (0 + x) + w63 (38 * y))) (s.take 16) (s.drop 16)).length = 16 := by simp [h32]
  rw [fixL_eq ((carL_len _).trans hlen)]
  refine car_rep hlen (bnd_mono f2 (by omega)) ⟨2 * vL (s.drop 16) + i * n + j * m - i * j * pI, ?_⟩
  rw [f1, Int.natCast_mul]
  rw [hsp, w16] at e1
  have hw : wI = 2 * pI + 38 := by decide
  rw [hw] at e1
  rw [hi, hj] at e1
  generalize pI = q at *
  generalize vL (s.take 16) = u at *
  generalize vL (s.drop 16) = v at *
  grind
set_option maxRecDepth 100000
theorem y_loopw (A : M1) (κ : Kont) (l m : List Int) (rd i X : Int) (h0 : -65536 ≤ X) (h1 : X < 65536) (F : Nat) :
    loopK yCnw (ev (Rx0V A) yLw) (F + 2) (ySw l m rd 0 i X) κ = κ (.exit 6) (withT 46 (.bool false) (withT 45 (.int .i64 (X % 65536)) (ySw l m rd (X / 65536) i (X % 65536)))) := by
  refine (y_pw A _ κ l m rd 0 i X).trans ?_
  by_cases h : X < 0
  · rw [decide_eq_true h, cond_true, w63_id (n := X + 65536) (by omega) (by omega), w63_id (n := 0 - 1) (by omega) (by omega)]
    refine (y_pw A _ κ l m rd (0 - 1) i (X + 65536)).trans ?_
    rw [decide_eq_false (by omega), cond_false, show X % 65536 = X + 65536 by omega, show X / 65536 = 0 - 1 by omega]
  · rw [decide_eq_false h, cond_false, show X % 65536 = X by omega, show X / 65536 = 0 by omega]
theorem y_loop7 (A : M1) (κ : Kont) (l : List Int) (rd : Int) : ∀ (r pre : List Int) (c : Int) (F : Nat), pre.length + r.length = 16 → BndL 65535 r → (-1 ≤ c ∧ c ≤ 0) → r.length < F →
    loopK yCn7 (ev (Rx0V A) yB7) F (yS7 l (pre ++ r) rd c (pre.length : Int)) κ = κ (.exit 4) (withT 37 (.bool false) (withT 36 (.int .i64 16) (yS7 l (pre ++ (passD r c).1) rd (passD r c).2 16)))
  | [], pre, c, F + 1, hl, _, _, _ => by
    refine (y_p7 A 1000 yLw yRst yT7 _ κ l _ rd c _).trans ?_
    have e : pre.length = 16 := by simpa using hl
    rw [e]
    rfl
  | x :: r, pre, c, F + 1, hl, hb, hc, hF => by
    refine (y_p7 A 1000 yLw yRst yT7 _ κ l _ rd c _).trans ?_
    have hp : pre.length < 16 := by simp at hl; omega
    have hx := hb x (List.mem_cons_self ..)
    rw [decide_eq_true (by omega), cond_true, at?_eq pre.length rfl (by omega) (by simp)]
    have e1 : g0 (pre ++ x :: r) pre.length = x := by simp [g0, List.getD_eq_getElem?_getD]
    have e : w63 (x + c) = x + c := w63_id (by omega) (by omega)
    rw [e1, e, y_loopw A _ l _ rd _ (x + c) (by omega) (by omega) 998]
    refine (y_pe A _ κ l _ rd _ _ _).trans ?_
    rw [set?_eq pre.length rfl hp, wS _ (by omega), Int.toNat_natCast]
    have e2 : ∀ y, (pre ++ x :: r).set pre.length y = (pre ++ [y]) ++ r := fun y => by simp
    rw [e2]
    have ih := y_loop7 A κ l rd r (pre ++ [(x + c) % 65536]) ((x + c) / 65536) F (by simp at hl ⊢; omega) (fun y hy => hb y (List.mem_cons_of_mem _ hy)) (by omega) (by simp at hF; omega)
    have hln : (((pre ++ [(x + c) % 65536]).length : Nat) : Int) = ((pre.length + 1 : Nat) : Int) := by simp
    rw [← hln]
    refine ih.trans ?_
    simp only [passD, e, List.append_assoc, List.singleton_append]
  | _ :: _, _, _, 0, _, _, _, h => by omega
def subP (l : List Int) : List Int := if (passD (mP l) 0).2 = 0 then (passD (mP l) 0).1 else l
theorem mP_eq {l : List Int} (hl : l.length = 16) (hd : DigL l) : (mP l).length = 16 ∧ BndL 65535 (mP l) ∧ vL (mP l) = vL l - pI := by
  obtain ⟨f, rfl⟩ := tab_of hl
  have b : ∀ i, i < 16 → 0 ≤ g0 (tab 16 f) i ∧ g0 (tab 16 f) i < 65536 := fun i hi => hd _ (g0_mem (by rw [tab_len]; exact hi))
  have e : ∀ i (k : Int), i < 16 → 0 ≤ k → k < 65536 → w63 (g0 (tab 16 f) i - k) = g0 (tab 16 f) i - k := fun i k hi h0 h1 => by
    have := b i hi
    exact w63_id (by omega) (by omega)
  refine ⟨rfl, ?_, ?_⟩
  · intro x hx
    simp only [mP, List.mem_cons, List.mem_append, List.not_mem_nil, or_false] at hx
    rcases hx with rfl | hx | rfl
    · rw [e 0 _ (by omega) (by omega) (by omega)]
      have := b 0 (by omega); omega
    · obtain ⟨j, hj⟩ := List.mem_iff_getElem?.1 hx
      have hjl : j < 14 := by have := (List.getElem?_eq_some_iff.1 hj).1; rwa [tab_len] at this
      have e0 : (tab 14 fun i => w63 (g0 (tab 16 f) (i + 1) - 65535)) = fixL 14 (tab 14 fun i => w63 (g0 (tab 16 f) (i + 1) - 65535)) := (fixL_eq (tab_len _ _)).symm
      have e3 : x = w63 (g0 (tab 16 f) (j + 1) - 65535) := by
        clear e0 hx e b hd hl
        have : (tab 14 fun i => w63 (g0 (tab 16 f) (i + 1) - 65535))[j]? = some (w63 (g0 (tab 16 f) (j + 1) - 65535)) := by
          rcases (by omega : j = 0 ∨ j = 1 ∨ j = 2 ∨ j = 3 ∨ j = 4 ∨ j = 5 ∨ j = 6 ∨ j = 7 ∨ j = 8 ∨ j = 9 ∨ j = 10 ∨ j = 11 ∨ j = 12 ∨ j = 13) with rfl | rfl | rfl | rfl | rfl | rfl | rfl | rfl | rfl | rfl | rfl | rfl | rfl | rfl <;> rfl
        rw [this] at hj
        exact (Option.some.inj hj).symm
      rw [e3, e _ _ (by omega) (by omega) (by omega)]
      have := b (j + 1) (by omega); omega
    · rw [e 15 _ (by omega) (by omega) (by omega)]
      have := b 15 (by omega); omega
  · have e' : ∀ i, i < 14 → w63 (g0 (tab 16 f) (i + 1) - 65535) = g0 (tab 16 f) (i + 1) - 65535 := fun i hi => e (i + 1) _ (by omega) (by omega) (by omega)
    have h14 : (tab 14 fun i => w63 (g0 (tab 16 f) (i + 1) - 65535)) = [g0 (tab 16 f) 1 - 65535, g0 (tab 16 f) 2 - 65535, g0 (tab 16 f) 3 - 65535, g0 (tab 16 f) 4 - 65535, g0 (tab 16 f) 5 - 65535, g0 (tab 16 f) 6 - 65535, g0 (tab 16 f) 7 - 65535, g0 (tab 16 f) 8 - 65535, g0 (tab 16 f) 9 - 65535, g0 (tab 16 f) 10 - 65535, g0 (tab 16 f) 11 - 65535, g0 (tab 16 f) 12 - 65535, g0 (tab 16 f) 13 - 65535, g0 (tab 16 f) 14 - 65535] := by
      rw [← e' 0 (by omega), ← e' 1 (by omega), ← e' 2 (by omega), ← e' 3 (by omega), ← e' 4 (by omega), ← e' 5 (by omega), ← e' 6 (by omega), ← e' 7 (by omega), ← e' 8 (by omega), ← e' 9 (by omega), ← e' 10 (by omega), ← e' 11 (by omega), ← e' 12 (by omega), ← e' 13 (by omega)]
      rfl
    unfold mP
    rw [h14, e 0 _ (by omega) (by omega) (by omega), e 15 _ (by omega) (by omega) (by omega)]
    have hv : vL (tab 16 f) = vL [g0 (tab 16 f) 0, g0 (tab 16 f) 1, g0 (tab 16 f) 2, g0 (tab 16 f) 3, g0 (tab 16 f) 4, g0 (tab 16 f) 5, g0 (tab 16 f) 6, g0 (tab 16 f) 7, g0 (tab 16 f) 8, g0 (tab 16 f) 9, g0 (tab 16 f) 10, g0 (tab 16 f) 11, g0 (tab 16 f) 12, g0 (tab 16 f) 13, g0 (tab 16 f) 14, g0 (tab 16 f) 15] := rfl
    rw [hv]
    simp only [vL, List.cons_append, List.nil_append, pI]
    omega
theorem subP_val {l : List Int} (hl : l.length = 16) (hd : DigL l) : (subP l).length = 16 ∧ DigL (subP l) ∧ vL (subP l) = if pI ≤ vL l then vL l - pI else vL l := by
  obtain ⟨h1, h2, h3⟩ := mP_eq hl hd
  have hv := passD_val (mP l) 0 (fun x hx => by have := h2 x hx; omega) (by omega)
  have hdg := passD_dig (mP l) 0
  have hln := passD_len (mP l) 0
  have hb := dig_val hdg
  rw [hln, h1, w16] at hb
  rw [h1, w16, h3] at hv
  have hb2 := dig_val hd
  rw [hl, w16] at hb2
  unfold subP
  generalize (passD (mP l) 0).2 = C at *
  by_cases hC : C = 0
  · rw [if_pos hC]
    refine ⟨hln.trans h1, hdg, ?_⟩
    subst hC
    rw [if_pos (by omega)]
    omega
  · rw [if_neg hC]
    refine ⟨hl, hd, ?_⟩
    rw [if_neg]
    simp only [wI, pI] at *
    omega
theorem y_body (A : M1) (L : St → Option Res) (κ : Kont) (l : List Int) (rd : Int) (hl : l.length = 16) (hd : DigL l) (hr : rd < 3) : ev (Rx0V A) yB3 (yS3 l rd) (kLoop yCn3 L κ) = L (yS3 (subP l) (w63 (rd + 1))) := by
  obtain ⟨f, hf⟩ := tab_of hl
  obtain ⟨h1, h2, _⟩ := mP_eq hl hd
  have e := y_p1 A 1000 yB7 yRE yT3 L κ f rd
  rw [← hf, decide_eq_true hr, cond_true] at e
  refine (show _ = _ from e).trans ?_
  have h7 := y_loop7 A (kBlock 4 none (kSeq (Rx0V A) none yRE (kBlock 1 none (kSeq (Rx0V A) none yT3 (kLoop yCn3 L κ))))) l rd (mP l) [] 0 1000 (by simpa using h1) h2 (by omega) (by omega)
  simp only [List.nil_append, List.length_nil] at h7
  refine (show _ = _ from h7).trans ?_
  refine (y_p9 A L κ l _ rd _).trans ?_
  unfold subP
  by_cases hC : (passD (mP l) 0).2 = 0
  · rw [if_pos hC, hC]; rfl
  · rw [if_neg hC, show ((passD (mP l) 0).2 == 0) = false by simpa using hC, cond_false]
def bytF (A : M1) (l : List Int) : List Int := bytD (subP (subP (subP (fixL 16 (A l)))))
theorem byt_run {A : M1} (l : List Int) (hd : DigL (fixL 16 (A l))) : evFn (Rx0V A) afBytes3 [n16 l] ⟨16, []⟩ kV = some (key (bytF A l), ⟨0, []⟩) := by
  rw [evFn_eq]
  refine Eq.trans ?_ ((y_start A 1000 yB3 yEnd (kFn [.cell 2 true 32] kV) l).trans ?_)
  · rfl
  have h0 : (fixL 16 (A l)).length = 16 := fixL_len ..
  unfold bytF
  generalize fixL 16 (A l) = q at *
  obtain ⟨a1, a2, _⟩ := subP_val h0 hd
  obtain ⟨b1, b2, _⟩ := subP_val a1 a2
  obtain ⟨c1, c2, _⟩ := subP_val b1 b2
  refine (y_body A _ _ q 0 h0 hd (by omega)).trans ?_
  refine (y_body A _ _ _ _ a1 a2 (by decide)).trans ?_
  refine (y_body A _ _ _ _ b1 b2 (by decide)).trans ?_
  obtain ⟨g, hg⟩ := tab_of c1
  rw [hg]
  have e3 : w63 (w63 (w63 (0 + 1) + 1) + 1) = 3 := by decide
  rw [e3]
  refine (y_p1 A 1000 yB7 yRE yT3 _ _ g 3).trans ?_
  rw [decide_eq_false (by decide), cond_false, kBlock_exit]
  exact y_end A g
theorem bytD_len : ∀ l : List Int, (bytD l).length = 2 * l.length
  | [] => rfl
  | x :: r => by simp only [bytD, List.length_cons, bytD_len r]; omega
theorem bytF_len (l : List Int) (hl : l.length = 16) : (bytF carL l).length = 32 := by
  have h0 : (fixL 16 (carL l)).length = 16 := fixL_len ..
  have hd : DigL (fixL 16 (carL l)) := by rw [fixL_eq ((carL_len l).trans hl)]; exact carL_dig hl
  unfold bytF
  generalize fixL 16 (carL l) = q at *
  obtain ⟨a1, a2, _⟩ := subP_val h0 hd
  obtain ⟨b1, b2, _⟩ := subP_val a1 a2
  obtain ⟨c1, c2, _⟩ := subP_val b1 b2
  rw [bytD_len, c1]
theorem rbyt_pure {P : Program} {f : FuncId} (F : Fn P f (Rx0V carL) afBytes3) : PureOk P f (bytV (bytF carL)) := by
  refine F.plain fun nid args hp r ha hr => ?_
  unfold bytV at hr
  split at hr <;> try (cases hr; done)
  rename_i l
  cases hr
  obtain ⟨⟨⟨hl, _⟩, _⟩, _⟩ := ha
  refine ⟨rfl, rfl, rfl, ?_⟩
  rw [fixL_eq (bytF_len l hl)]
  exact byt_run l (by rw [fixL_eq ((carL_len l).trans hl)]; exact carL_dig hl)
theorem bytD_val : ∀ (l : List Int), DigL l → bytD l = leB (vL l).toNat (2 * l.length)
  | [], _ => rfl
  | x :: r, h => by
    have hx := h x (List.mem_cons_self ..)
    have hr := dig_val fun y hy => h y (List.mem_cons_of_mem x hy)
    have ih := bytD_val r fun y hy => h y (List.mem_cons_of_mem x hy)
    rw [show 2 * (x :: r).length = 2 * r.length + 1 + 1 by simp only [List.length_cons]; omega]
    simp only [bytD, leB, vL]
    have e1 : w8 (x.tmod 256) = (((x + 65536 * vL r).toNat % 256 : Nat) : Int) := by
      rw [Int.tmod_eq_emod_of_nonneg hx.1]
      simp only [w8, wrap_u8]
      omega
    have e2 : w8 (w63 (x.tdiv 256)) = (((x + 65536 * vL r).toNat / 256 % 256 : Nat) : Int) := by
      rw [Int.tdiv_eq_ediv_of_nonneg hx.1, w63_id (by omega) (by omega)]
      simp only [w8, wrap_u8]
      omega
    have e3 : (x + 65536 * vL r).toNat / 256 / 256 = (vL r).toNat := by omega
    rw [e1, e2, e3, ih]
theorem Rep16.bytes {a : List Int} {n : Nat} (h : Rep16 a n) : bytF carL a = leB (n % pN) 32 := by
  obtain ⟨k, hk⟩ := h.val
  obtain ⟨h0, hd, k', hk'⟩ := car_rep h.len (bnd_mono (dig_bnd h.dig) (by omega)) ⟨k, hk⟩
  unfold bytF
  rw [fixL_eq h0]
  generalize carL a = q at *
  have hq := dig_val hd
  rw [h0, w16] at hq
  obtain ⟨a1, a2, a3⟩ := subP_val h0 hd
  obtain ⟨b1, b2, b3⟩ := subP_val a1 a2
  obtain ⟨c1, c2, c3⟩ := subP_val b1 b2
  rw [bytD_val _ c2, c1]
  congr 1
  have hp : ((n % pN : Nat) : Int) = vL q % pI := by
    rw [emod_add_mul', hk']
    rw [Int.sub_mul_emod_self_right]
  have h3 : 0 ≤ vL (subP (subP (subP q))) ∧ vL (subP (subP (subP q))) = vL q % pI := by
    rw [c3, b3, a3]
    simp only [pI, wI] at *
    clear hk hk' hp a3 b3 c3
    generalize vL q = V at *
    repeat' split
    all_goals omega
  omega
end Go.Am
