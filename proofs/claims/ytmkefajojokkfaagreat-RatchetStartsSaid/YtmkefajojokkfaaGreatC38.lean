/- RatchetStarts: part 39 of 50 of its proof. -/
import Derived.Test.YtmkefajojokkfaaGreatC37
import Derived.Test.YtmkefajojokkfaaGreatC19
import Derived.Test.YtmkefajojokkfaaGreatC34
set_option linter.unusedVariables false
set_option linter.unusedSimpArgs false
namespace Go.Am
set_option linter.unusedSimpArgs false
set_option maxRecDepth 100000
structure Rep16 (l : List Int) (n : Nat) : Prop where
  len : l.length = 16
  dig : DigL l
  val : ∃ k, vL l = (n : Int) - k * pI
theorem zipI_eq {g : Int → Int → Int} {a b : List Int} (ha : a.length = 16) (hb : b.length = 16) : zipI g a b = List.zipWith g a b := by
  obtain ⟨f, rfl⟩ := tab_of ha
  obtain ⟨h, rfl⟩ := tab_of hb
  rfl
theorem dig_bnd {l : List Int} (h : DigL l) : BndL 65536 l := fun x hx => by have := h x hx; omega
theorem bnd_mono {l : List Int} {a b : Int} (h : BndL a l) (hab : a ≤ b) : BndL b l := fun x hx => by have := h x hx; omega
theorem car_rep {l : List Int} {n : Nat} (hl : l.length = 16) (hb : BndL 4611686018427387904 l) (h : ∃ k, vL l = (n : Int) - k * pI) : Rep16 (carL l) n := by
  obtain ⟨k, hk⟩ := h
  obtain ⟨m, hm⟩ := carL_val hl hb
  refine ⟨(carL_len l).trans hl, carL_dig hl, k + m, ?_⟩
  rw [hm, hk]
  generalize pI = q
  grind
theorem zip_add : ∀ {a b : List Int}, a.length = b.length → DigL a → DigL b → vL (List.zipWith (fun x y => w63 (x + y)) a b) = vL a + vL b ∧ BndL 131072 (List.zipWith (fun x y => w63 (x + y)) a b)
  | [], [], _, _, _ => ⟨rfl, fun x hx => by simp at hx⟩
  | x :: r, y :: u, h, ha, hb => by
    have hx := ha x (List.mem_cons_self ..)
    have hy := hb y (List.mem_cons_self ..)
    obtain ⟨e1, e2⟩ := zip_add (a := r) (b := u) (by simpa using h) (fun z hz => ha z (List.mem_cons_of_mem _ hz)) fun z hz => hb z (List.mem_cons_of_mem _ hz)
    have e : w63 (x + y) = x + y := w63_id (by omega) (by omega)
    refine ⟨?_, fun z hz => ?_⟩
    · simp only [List.zipWith_cons_cons, vL, e, e1]; omega
    · simp only [List.zipWith_cons_cons, List.mem_cons] at hz
      rcases hz with rfl | hz
      · rw [e]; omega
      · exact e2 z hz
  | [], _ :: _, h, _, _ => by simp at h
  | _ :: _, [], h, _, _ => by simp at h
theorem zip_sub : ∀ {a b : List Int}, a.length = b.length → DigL a → DigL b → vL (List.zipWith (fun x y => w63 (x - y)) a b) = vL a - vL b ∧ BndL 131072 (List.zipWith (fun x y => w63 (x - y)) a b)
  | [], [], _, _, _ => ⟨rfl, fun x hx => by simp at hx⟩
  | x :: r, y :: u, h, ha, hb => by
    have hx := ha x (List.mem_cons_self ..)
    have hy := hb y (List.mem_cons_self ..)
    obtain ⟨e1, e2⟩ := zip_sub (a := r) (b := u) (by simpa using h) (fun z hz => ha z (List.mem_cons_of_mem _ hz)) fun z hz => hb z (List.mem_cons_of_mem _ hz)
    have e : w63 (x - y) = x - y := w63_id (by omega) (by omega)
    refine ⟨?_, fun z hz => ?_⟩
    · simp only [List.zipWith_cons_cons, vL, e, e1]; omega
    · simp only [List.zipWith_cons_cons, List.mem_cons] at hz
      rcases hz with rfl | hz
      · rw [e]; omega
      · exact e2 z hz
  | [], _ :: _, h, _, _ => by simp at h
  | _ :: _, [], h, _, _ => by simp at h
theorem Rep16.add {a b : List Int} {m n : Nat} (ha : Rep16 a m) (hb : Rep16 b n) : Rep16 (addF carL a b) (m + n) := by
  obtain ⟨i, hi⟩ := ha.val
  obtain ⟨j, hj⟩ := hb.val
  obtain ⟨e1, e2⟩ := zip_add (ha.len.trans hb.len.symm) ha.dig hb.dig
  have hlen : (List.zipWith (fun x y => w63 (x + y)) a b).length = 16 := by simp [ha.len, hb.len]
  unfold addF
  rw [zipI_eq ha.len hb.len, fixL_eq ((carL_len _).trans hlen)]
  refine car_rep hlen (bnd_mono e2 (by omega)) ⟨i + j, ?_⟩
  rw [e1, hi, hj, Int.natCast_add]
  generalize pI = q
  grind
theorem Rep16.sub {a b : List Int} {m n : Nat} (ha : Rep16 a m) (hb : Rep16 b n) : Rep16 (subF carL a b) (m + (pN - n % pN)) := by
  obtain ⟨i, hi⟩ := ha.val
  obtain ⟨j, hj⟩ := hb.val
  obtain ⟨e1, e2⟩ := zip_sub (ha.len.trans hb.len.symm) ha.dig hb.dig
  have hlen : (List.zipWith (fun x y => w63 (x - y)) a b).length = 16 := by simp [ha.len, hb.len]
  unfold subF
  rw [zipI_eq ha.len hb.len, fixL_eq ((carL_len _).trans hlen)]
  refine car_rep hlen (bnd_mono e2 (by omega)) ⟨i - j + 1 + (n / pN : Nat), ?_⟩
  have h1 : ((pN - n % pN : Nat) : Int) = pI - n + (n / pN : Nat) * pI := by
    have := Nat.div_add_mod n pN
    simp only [pN, pI] at *
    omega
  rw [e1, hi, hj, Int.natCast_add, h1]
  generalize pI = q
  generalize ((n / pN : Nat) : Int) = r
  grind
theorem Rep16.mod {a : List Int} {m : Nat} (ha : Rep16 a m) : Rep16 a (m % pN) := by
  obtain ⟨i, hi⟩ := ha.val
  refine ⟨ha.len, ha.dig, i - (m / pN : Nat), ?_⟩
  rw [hi]
  have := Nat.div_add_mod m pN
  simp only [pN, pI] at *
  omega
def B0 (b : Int) (l : List Int) : Prop := ∀ x ∈ l, 0 ≤ x ∧ x ≤ b
theorem g0_mem {l : List Int} {j : Nat} (h : j < l.length) : g0 l j ∈ l := by
  rw [g0, List.getD_eq_getElem?_getD, List.getElem?_eq_getElem h]
  exact List.getElem_mem h
theorem vL_set : ∀ (l : List Int) (j : Nat) (x : Int), j < l.length → vL (l.set j x) = vL l + (x - g0 l j) * 65536 ^ j
  | y :: r, 0, x, _ => by simp only [List.set_cons_zero, vL, g0, List.getD_cons_zero, Int.pow_zero]; omega
  | y :: r, j + 1, x, h => by
    have ih := vL_set r j x (by simpa using h)
    have e : g0 (y :: r) (j + 1) = g0 r j := rfl
    simp only [List.set_cons_succ, vL, ih, e, Int.pow_succ]
    generalize (65536 : Int) ^ j = T
    grind
theorem rowM_val (a : Int) (ha : 0 ≤ a ∧ a < 65536) : ∀ (r s : List Int) (j : Nat) (b : Int), DigL r → B0 b s → 0 ≤ b → b + 4294967296 * (r.length : Int) ≤ 1099511627776 → j + r.length ≤ s.length →
    vL (rowM s j a r) = vL s + a * vL r * 65536 ^ j ∧ B0 (b + 4294967296 * (r.length : Int)) (rowM s j a r)
  | [], s, j, b, _, hs, _, _, _ => by simp only [rowM, vL, List.length_nil]; exact ⟨by simp, fun x hx => by have := hs x hx; omega⟩
  | y :: r, s, j, b, hr, hs, hb0, hb, hl => by
    have hy := hr y (List.mem_cons_self ..)
    simp only [List.length_cons] at hb hl
    have hj : j < s.length := by omega
    have hg := hs _ (g0_mem hj)
    have hp : 0 ≤ a * y ∧ a * y ≤ 65535 * 65535 := mulB ⟨ha.1, by omega⟩ ⟨hy.1, by omega⟩
    have e1 : w63 (a * y) = a * y := w63_id (by omega) (by omega)
    have e2 : w63 (g0 s j + a * y) = g0 s j + a * y := w63_id (by omega) (by omega)
    simp only [rowM, e1, e2]
    have hB : B0 (b + 4294967296) (s.set j (g0 s j + a * y)) := fun z hz => by
      rcases List.mem_or_eq_of_mem_set hz with hz | rfl
      · have := hs z hz; omega
      · omega
    obtain ⟨i1, i2⟩ := rowM_val a ha r (s.set j (g0 s j + a * y)) (j + 1) (b + 4294967296) (fun z hz => hr z (List.mem_cons_of_mem _ hz)) hB (by omega) (by omega) (by rw [List.length_set]; omega)
    refine ⟨?_, fun z hz => by have := i2 z hz; simp only [List.length_cons]; omega⟩
    rw [i1, vL_set s j _ hj]
    simp only [vL, Int.pow_succ]
    generalize (65536 : Int) ^ j = T
    grind
theorem mulT_val (b : List Int) (hb : DigL b) (hb16 : b.length = 16) : ∀ (r s : List Int) (i : Nat) (m : Int), DigL r → B0 m s → 0 ≤ m → m + 68719476736 * (r.length : Int) ≤ 1099511627776 → i + r.length ≤ 16 → s.length = 32 →
    vL (mulT b s i r) = vL s + vL r * vL b * 65536 ^ i ∧ B0 1099511627776 (mulT b s i r)
  | [], s, i, m, _, hs, _, hm, _, _ => by simp only [mulT, vL]; exact ⟨by simp, fun x hx => by have := hs x hx; simp at hm; omega⟩
  | x :: r, s, i, m, hr, hs, hm0, hm, hi, h32 => by
    have hx := hr x (List.mem_cons_self ..)
    simp only [List.length_cons] at hm hi
    obtain ⟨e1, e2⟩ := rowM_val x hx b s i m hb hs hm0 (by rw [hb16]; omega) (by omega)
    rw [hb16] at e2
    obtain ⟨i1, i2⟩ := mulT_val b hb hb16 r (rowM s i x b) (i + 1) (m + 68719476736) (fun z hz => hr z (List.mem_cons_of_mem _ hz)) (fun z hz => by have := e2 z hz; omega) (by omega) (by omega) (by omega) (by rw [rowM_len, h32])
    refine ⟨?_, i2⟩
    simp only [mulT]
    rw [i1, e1]
    simp only [vL, Int.pow_succ]
    generalize (65536 : Int) ^ i = T
    grind
theorem vL_append : ∀ (a b : List Int), vL (a ++ b) = vL a + vL b * 65536 ^ a.length
  | [], b => by simp [vL]
  | x :: r, b => by
    simp only [List.cons_append, vL, vL_append r b, List.length_cons, Int.pow_succ]
    generalize (65536 : Int) ^ r.length = T
    grind
theorem zip_fold : ∀ {a b : List Int}, a.length = b.length → B0 1099511627776 a → B0 1099511627776 b → vL (List.zipWith (fun x y => w63 (w63 (0 + x) + w63 (38 * y))) a b) = vL a + 38 * vL b ∧ BndL 43980465111040 (List.zipWith (fun x y => w63 (w63 (0 + x) + w63 (38 * y))) a b)
  | [], [], _, _, _ => ⟨rfl, fun x hx => by simp at hx⟩
  | x :: r, y :: u, h, ha, hb => by
    have hx := ha x (List.mem_cons_self ..)
    have hy := hb y (List.mem_cons_self ..)
    obtain ⟨e1, e2⟩ := zip_fold (a := r) (b := u) (by simpa using h) (fun z hz => ha z (List.mem_cons_of_mem _ hz)) fun z hz => hb z (List.mem_cons_of_mem _ hz)
    have e : w63 (w63 (0 + x) + w63 (38 * y)) = x + 38 * y := by
      rw [w63_id (n := 0 + x) (by omega) (by omega), w63_id (n := 38 * y) (by omega) (by omega), w63_id (by omega) (by omega)]; omega
    refine ⟨?_, fun z hz => ?_⟩
    · simp only [List.zipWith_cons_cons, vL, e, e1]; omega
    · simp only [List.zipWith_cons_cons, List.mem_cons] at hz
      rcases hz with rfl | hz
      · rw [e]; omega
      · exact e2 z hz
  | [], _ :: _, h, _, _ => by simp at h
  | _ :: _, [], h, _, _ => by simp at h
theorem foldF_eq {l : List Int} (hl : l.length = 32) : foldF carL l = fixL 16 (carL (List.zipWith (fun x y => w63 (w63 (0 + x) + w63 (38 * y))) (l.take 16) (l.drop 16))) := by
  obtain ⟨f, rfl⟩ := tab_of hl
  rfl
theorem Rep16.mul {a b : List Int} {m n : Nat} (ha : Rep16 a m) (hb : Rep16 b n) : Rep16 (mulF (foldF carL) a b) (m * n) := by
  obtain ⟨i, hi⟩ := ha.val
  obtain ⟨j, hj⟩ := hb.val
  obtain ⟨e1, e2⟩ := mulT_val b hb.dig hb.len a (List.replicate 32 0) 0 0 ha.dig (fun x hx => by simp [List.mem_replicate] at hx; omega) (by omega) (by rw [ha.len]; omega) (by rw [ha.len]; omega) (by simp)
  have h32 : (mulT b (List.replicate 32 0) 0 a).length = 32 := by rw [mulT_len]; simp
  have z0 : vL (List.replicate 32 0) = 0 := by decide
  rw [z0] at e1
  simp only [Int.pow_zero, Int.mul_one, Int.zero_add] at e1
  unfold mulF
  rw [fixL_eq (l := foldF carL _) (fixL_len ..), foldF_eq h32]
  generalize mulT b (List.replicate 32 0) 0 a = s at *
  have hsp : vL s = vL (s.take 16) + vL (s.drop 16) * 65536 ^ 16 := by
    have := vL_append (s.take 16) (s.drop 16)
    rw [List.take_append_drop] at this
    rw [this]; simp [h32]
  obtain ⟨f1, f2⟩ := zip_fold (a := s.take 16) (b := s.drop 16) (by simp [h32]) (fun x hx => e2 x (List.mem_of_mem_take hx)) fun x hx => e2 x (List.mem_of_mem_drop hx)
  have hlen : (List.zipWith (fun x y => w63 (w63 (0 + x) + w63 (38 * y))) (s.take 16) (s.drop 16)).length = 16 := by simp [h32]
  rw [fixL_eq ((carL_len _).trans hlen)]
  refine car_rep hlen (bnd_mono f2 (by omega)) ⟨2 * vL (s.drop 16) + i * n + j * m - i * j * pI, ?_⟩
  rw [f1, Int.natCast_mul]
  rw [hsp, w16] at e1
  have hw : wI = 2 * pI + 38 := by decide
  rw [hw] at e1
  rw [hi, hj] at e1
  generalize pI = q at *
  generalize vL (s.take 16) = u at *
  generalize vL (s.drop 16) = v at *
  grind
set_option maxRecDepth 100000
theorem y_loopw (A : M1) (κ : Kont) (l m : List Int) (rd i X : Int) (h0 : -65536 ≤ X) (h1 : X < 65536) (F : Nat) :
    loopK yCnw (ev (Rx0V A) yLw) (F + 2) (ySw l m rd 0 i X) κ = κ (.exit 6) (withT 46 (.bool false) (withT 45 (.int .i64 (X % 65536)) (ySw l m rd (X / 65536) i (X % 65536)))) := by
  refine (y_pw A _ κ l m rd 0 i X).trans ?_
  by_cases h : X < 0
  · rw [decide_eq_true h, cond_true, w63_id (n := X + 65536) (by omega) (by omega), w63_id (n := 0 - 1) (by omega) (by omega)]
    refine (y_pw A _ κ l m rd (0 - 1) i (X + 65536)).trans ?_
    rw [decide_eq_false (by omega), cond_false, show X % 65536 = X + 65536 by omega, show X / 65536 = 0 - 1 by omega]
  · rw [decide_eq_false h, cond_false, show X % 65536 = X by omega, show X / 65536 = 0 by omega]
theorem y_loop7 (A : M1) (κ : Kont) (l : List Int) (rd : Int) : ∀ (r pre : List Int) (c : Int) (F : Nat), pre.length + r.length = 16 → BndL 65535 r → (-1 ≤ c ∧ c ≤ 0) → r.length < F →
    loopK yCn7 (ev (Rx0V A) yB7) F (yS7 l (pre ++ r) rd c (pre.length : Int)) κ = κ (.exit 4) (withT 37 (.bool false) (withT 36 (.int .i64 16) (yS7 l (pre ++ (passD r c).1) rd (passD r c).2 16)))
  | [], pre, c, F + 1, hl, _, _, _ => by
    refine (y_p7 A 1000 yLw yRst yT7 _ κ l _ rd c _).trans ?_
    have e : pre.length = 16 := by simpa using hl
    rw [e]
    rfl
  | x :: r, pre, c, F + 1, hl, hb, hc, hF => by
    refine (y_p7 A 1000 yLw yRst yT7 _ κ l _ rd c _).trans ?_
    have hp : pre.length < 16 := by simp at hl; omega
    have hx := hb x (List.mem_cons_self ..)
    rw [decide_eq_true (by omega), cond_true, at?_eq pre.length rfl (by omega) (by simp)]
    have e1 : g0 (pre ++ x :: r) pre.length = x := by simp [g0, List.getD_eq_getElem?_getD]
    have e : w63 (x + c) = x + c := w63_id (by omega) (by omega)
    rw [e1, e, y_loopw A _ l _ rd _ (x + c) (by omega) (by omega) 998]
    refine (y_pe A _ κ l _ rd _ _ _).trans ?_
    rw [set?_eq pre.length rfl hp, wS _ (by omega), Int.toNat_natCast]
    have e2 : ∀ y, (pre ++ x :: r).set pre.length y = (pre ++ [y]) ++ r := fun y => by simp
    rw [e2]
    have ih := y_loop7 A κ l rd r (pre ++ [(x + c) % 65536]) ((x + c) / 65536) F (by simp at hl ⊢; omega) (fun y hy => hb y (List.mem_cons_of_mem _ hy)) (by omega) (by simp at hF; omega)
    have hln : (((pre ++ [(x + c) % 65536]).length : Nat) : Int) = ((pre.length + 1 : Nat) : Int) := by simp
    rw [← hln]
    refine ih.trans ?_
    simp only [passD, e, List.append_assoc, List.singleton_append]
  | _ :: _, _, _, 0, _, _, _, h => by omega
def subP (l : List Int) : List Int := if (passD (mP l) 0).2 = 0 then (passD (mP l) 0).1 else l
theorem mP_eq {l : List Int} (hl : l.length = 16) (hd : DigL l) : (mP l).length = 16 ∧ BndL 65535 (mP l) ∧ vL (mP l) = vL l - pI := by
  obtain ⟨f, rfl⟩ := tab_of hl
  have b : ∀ i, i < 16 → 0 ≤ g0 (tab 16 f) i ∧ g0 (tab 16 f) i < 65536 := fun i hi => hd _ (g0_mem (by rw [tab_len]; exact hi))
  have e : ∀ i (k : Int), i < 16 → 0 ≤ k → k < 65536 → w63 (g0 (tab 16 f) i - k) = g0 (tab 16 f) i - k := fun i k hi h0 h1 => by
    have := b i hi
    exact w63_id (by omega) (by omega)
  refine ⟨rfl, ?_, ?_⟩
  · intro x hx
    simp only [mP, List.mem_cons, List.mem_append, List.not_mem_nil, or_false] at hx
    rcases hx with rfl | hx | rfl
    · rw [e 0 _ (by omega) (by omega) (by omega)]
      have := b 0 (by omega); omega
    · obtain ⟨j, hj⟩ := List.mem_iff_getElem?.1 hx
      have hjl : j < 14 := by have := (List.getElem?_eq_some_iff.1 hj).1; rwa [tab_len] at this
      have e0 : (tab 14 fun i => w63 (g0 (tab 16 f) (i + 1) - 65535)) = fixL 14 (tab 14 fun i => w63 (g0 (tab 16 f) (i + 1) - 65535)) := (fixL_eq (tab_len _ _)).symm
      have e3 : x = w63 (g0 (tab 16 f) (j + 1) - 65535) := by
        clear e0 hx e b hd hl
        have : (tab 14 fun i => w63 (g0 (tab 16 f) (i + 1) - 65535))[j]? = some (w63 (g0 (tab 16 f) (j + 1) - 65535)) := by
          rcases (by omega : j = 0 ∨ j = 1 ∨ j = 2 ∨ j = 3 ∨ j = 4 ∨ j = 5 ∨ j = 6 ∨ j = 7 ∨ j = 8 ∨ j = 9 ∨ j = 10 ∨ j = 11 ∨ j = 12 ∨ j = 13) with rfl | rfl | rfl | rfl | rfl | rfl | rfl | rfl | rfl | rfl | rfl | rfl | rfl | rfl <;> rfl
        rw [this] at hj
        exact (Option.some.inj hj).symm
      rw [e3, e _ _ (by omega) (by omega) (by omega)]
      have := b (j + 1) (by omega); omega
    · rw [e 15 _ (by omega) (by omega) (by omega)]
      have := b 15 (by omega); omega
  · have e' : ∀ i, i < 14 → w63 (g0 (tab 16 f) (i + 1) - 65535) = g0 (tab 16 f) (i + 1) - 65535 := fun i hi => e (i + 1) _ (by omega) (by omega) (by omega)
    have h14 : (tab 14 fun i => w63 (g0 (tab 16 f) (i + 1) - 65535)) = [g0 (tab 16 f) 1 - 65535, g0 (tab 16 f) 2 - 65535, g0 (tab 16 f) 3 - 65535, g0 (tab 16 f) 4 - 65535, g0 (tab 16 f) 5 - 65535, g0 (tab 16 f) 6 - 65535, g0 (tab 16 f) 7 - 65535, g0 (tab 16 f) 8 - 65535, g0 (tab 16 f) 9 - 65535, g0 (tab 16 f) 10 - 65535, g0 (tab 16 f) 11 - 65535, g0 (tab 16 f) 12 - 65535, g0 (tab 16 f) 13 - 65535, g0 (tab 16 f) 14 - 65535] := by
      rw [← e' 0 (by omega), ← e' 1 (by omega), ← e' 2 (by omega), ← e' 3 (by omega), ← e' 4 (by omega), ← e' 5 (by omega), ← e' 6 (by omega), ← e' 7 (by omega), ← e' 8 (by omega), ← e' 9 (by omega), ← e' 10 (by omega), ← e' 11 (by omega), ← e' 12 (by omega), ← e' 13 (by omega)]
      rfl
    unfold mP
    rw [h14, e 0 _ (by omega) (by omega) (by omega), e 15 _ (by omega) (by omega) (by omega)]
    have hv : vL (tab 16 f) = vL [g0 (tab 16 f) 0, g0 (tab 16 f) 1, g0 (tab 16 f) 2, g0 (tab 16 f) 3, g0 (tab 16 f) 4, g0 (tab 16 f) 5, g0 (tab 16 f) 6, g0 (tab 16 f) 7, g0 (tab 16 f) 8, g0 (tab 16 f) 9, g0 (tab 16 f) 10, g0 (tab 16 f) 11, g0 (tab 16 f) 12, g0 (tab 16 f) 13, g0 (tab 16 f) 14, g0 (tab 16 f) 15] := rfl
    rw [hv]
    simp only [vL, List.cons_append, List.nil_append, pI]
    omega
theorem subP_val {l : List Int} (hl : l.length = 16) (hd : DigL l) : (subP l).length = 16 ∧ DigL (subP l) ∧ vL (subP l) = if pI ≤ vL l then vL l - pI else vL l := by
  obtain ⟨h1, h2, h3⟩ := mP_eq hl hd
  have hv := passD_val (mP l) 0 (fun x hx => by have := h2 x hx; omega) (by omega)
  have hdg := passD_dig (mP l) 0
  have hln := passD_len (mP l) 0
  have hb := dig_val hdg
  rw [hln, h1, w16] at hb
  rw [h1, w16, h3] at hv
  have hb2 := dig_val hd
  rw [hl, w16] at hb2
  unfold subP
  generalize (passD (mP l) 0).2 = C at *
  by_cases hC : C = 0
  · rw [if_pos hC]
    refine ⟨hln.trans h1, hdg, ?_⟩
    subst hC
    rw [if_pos (by omega)]
    omega
  · rw [if_neg hC]
    refine ⟨hl, hd, ?_⟩
    rw [if_neg]
    simp only [wI, pI] at *
    omega
theorem y_body (A : M1) (L : St → Option Res) (κ : Kont) (l : List Int) (rd : Int) (hl : l.length = 16) (hd : DigL l) (hr : rd < 3) : ev (Rx0V A) yB3 (yS3 l rd) (kLoop yCn3 L κ) = L (yS3 (subP l) (w63 (rd + 1))) := by
  obtain ⟨f, hf⟩ := tab_of hl
  obtain ⟨h1, h2, _⟩ := mP_eq hl hd
  have e := y_p1 A 1000 yB7 yRE yT3 L κ f rd
  rw [← hf, decide_eq_true hr, cond_true] at e
  refine (show _ = _ from e).trans ?_
  have h7 := y_loop7 A (kBlock 4 none (kSeq (Rx0V A) none yRE (kBlock 1 none (kSeq (Rx0V A) none yT3 (kLoop yCn3 L κ))))) l rd (mP l) [] 0 1000 (by simpa using h1) h2 (by omega) (by omega)
  simp only [List.nil_append, List.length_nil] at h7
  refine (show _ = _ from h7).trans ?_
  refine (y_p9 A L κ l _ rd _).trans ?_
  unfold subP
  by_cases hC : (passD (mP l) 0).2 = 0
  · rw [if_pos hC, hC]; rfl
  · rw [if_neg hC, show ((passD (mP l) 0).2 == 0) = false by simpa using hC, cond_false]
def bytF (A : M1) (l : List Int) : List Int := bytD (subP (subP (subP (fixL 16 (A l)))))
theorem byt_run {A : M1} (l : List Int) (hd : DigL (fixL 16 (A l))) : evFn (Rx0V A) afBytes3 [n16 l] ⟨16, []⟩ kV = some (key (bytF A l), ⟨0, []⟩) := by
  rw [evFn_eq]
  refine Eq.trans ?_ ((y_start A 1000 yB3 yEnd (kFn [.cell 2 true 32] kV) l).trans ?_)
  · rfl
  have h0 : (fixL 16 (A l)).length = 16 := fixL_len ..
  unfold bytF
  generalize fixL 16 (A l) = q at *
  obtain ⟨a1, a2, _⟩ := subP_val h0 hd
  obtain ⟨b1, b2, _⟩ := subP_val a1 a2
  obtain ⟨c1, c2, _⟩ := subP_val b1 b2
  refine (y_body A _ _ q 0 h0 hd (by omega)).trans ?_
  refine (y_body A _ _ _ _ a1 a2 (by decide)).trans ?_
  refine (y_body A _ _ _ _ b1 b2 (by decide)).trans ?_
  obtain ⟨g, hg⟩ := tab_of c1
  rw [hg]
  have e3 : w63 (w63 (w63 (0 + 1) + 1) + 1) = 3 := by decide
  rw [e3]
  refine (y_p1 A 1000 yB7 yRE yT3 _ _ g 3).trans ?_
  rw [decide_eq_false (by decide), cond_false, kBlock_exit]
  exact y_end A g
theorem bytD_len : ∀ l : List Int, (bytD l).length = 2 * l.length
  | [] => rfl
  | x :: r => by simp only [bytD, List.length_cons, bytD_len r]; omega
theorem bytF_len (l : List Int) (hl : l.length = 16) : (bytF carL l).length = 32 := by
  have h0 : (fixL 16 (carL l)).length = 16 := fixL_len ..
  have hd : DigL (fixL 16 (carL l)) := by rw [fixL_eq ((carL_len l).trans hl)]; exact carL_dig hl
  unfold bytF
  generalize fixL 16 (carL l) = q at *
  obtain ⟨a1, a2, _⟩ := subP_val h0 hd
  obtain ⟨b1, b2, _⟩ := subP_val a1 a2
  obtain ⟨c1, c2, _⟩ := subP_val b1 b2
  rw [bytD_len, c1]
theorem rbyt_pure {P : Program} {f : FuncId} (F : Fn P f (Rx0V carL) afBytes3) : PureOk P f (bytV (bytF carL)) := by
  refine F.plain fun nid args hp r ha hr => ?_
  unfold bytV at hr
  split at hr <;> try (cases hr; done)
  rename_i l
  cases hr
  obtain ⟨⟨⟨hl, _⟩, _⟩, _⟩ := ha
  refine ⟨rfl, rfl, rfl, ?_⟩
  rw [fixL_eq (bytF_len l hl)]
  exact byt_run l (by rw [fixL_eq ((carL_len l).trans hl)]; exact carL_dig hl)
theorem bytD_val : ∀ (l : List Int), DigL l → bytD l = leB (vL l).toNat (2 * l.length)
  | [], _ => rfl
  | x :: r, h => by
    have hx := h x (List.mem_cons_self ..)
    have hr := dig_val fun y hy => h y (List.mem_cons_of_mem x hy)
    have ih := bytD_val r fun y hy => h y (List.mem_cons_of_mem x hy)
    rw [show 2 * (x :: r).length = 2 * r.length + 1 + 1 by simp only [List.length_cons]; omega]
    simp only [bytD, leB, vL]
    have e1 : w8 (x.tmod 256) = (((x + 65536 * vL r).toNat % 256 : Nat) : Int) := by
      rw [Int.tmod_eq_emod_of_nonneg hx.1]
      simp only [w8, wrap_u8]
      omega
    have e2 : w8 (w63 (x.tdiv 256)) = (((x + 65536 * vL r).toNat / 256 % 256 : Nat) : Int) := by
      rw [Int.tdiv_eq_ediv_of_nonneg hx.1, w63_id (by omega) (by omega)]
      simp only [w8, wrap_u8]
      omega
    have e3 : (x + 65536 * vL r).toNat / 256 / 256 = (vL r).toNat := by omega
    rw [e1, e2, e3, ih]
theorem Rep16.bytes {a : List Int} {n : Nat} (h : Rep16 a n) : bytF carL a = leB (n % pN) 32 := by
  obtain ⟨k, hk⟩ := h.val
  obtain ⟨h0, hd, k', hk'⟩ := car_rep h.len (bnd_mono (dig_bnd h.dig) (by omega)) ⟨k, hk⟩
  unfold bytF
  rw [fixL_eq h0]
  generalize carL a = q at *
  have hq := dig_val hd
  rw [h0, w16] at hq
  obtain ⟨a1, a2, a3⟩ := subP_val h0 hd
  obtain ⟨b1, b2, b3⟩ := subP_val a1 a2
  obtain ⟨c1, c2, c3⟩ := subP_val b1 b2
  rw [bytD_val _ c2, c1]
  congr 1
  have hp : ((n % pN : Nat) : Int) = vL q % pI := by
    rw [emod_add_mul', hk']
    rw [Int.sub_mul_emod_self_right]
  have h3 : 0 ≤ vL (subP (subP (subP q))) ∧ vL (subP (subP (subP q))) = vL q % pI := by
    rw [c3, b3, a3]
    simp only [pI, wI] at *
    clear hk hk' hp a3 b3 c3
    generalize vL q = V at *
    repeat' split
    all_goals omega
  omega
set_option maxRecDepth 100000
def iTop : ACode := af_hollowtreeref03_Num_Inv.code
def iA : ACode := iTop.l
def iB : ACode := iTop.r.l
def iI0 : ACode := iTop.r.r.l.l
def iL0 : ACode := iTop.r.r.l.r.b.b
def iEnd : ACode := iTop.r.r.r
def iCn : Option Canon := some ⟨[], [1, 2, 3, 4], [], [16, 17, 18], 19⟩
def afInv : AFn := ⟨24, [.cell 2 true 16], .seq none iA (.seq none iB (.seq none (.seq none iI0 (.block 0 none (.loop 1000 iCn iL0))) iEnd))⟩
def iS (n o : List Int) (i : Int) : St := ⟨mkT 24 [(1, pt 16), (2, pt 17), (3, pt 18), (4, .int .i64 i)], ⟨19, [cel 16 [.ints .i64 16 n], cel 17 [.ints .i64 16 z16], cel 18 [.ints .i64 16 o]]⟩⟩
def RxI (Fr : M1) (Mu : M2) : Env := envAdd id_hollowtreeref03_From (.pure (numKV Fr)) (envAdd id_hollowtreeref03_Num_Mul (.pure (num2V Mu)) G10)
def k1L : List Int := 1 :: List.replicate 31 0
theorem i_round (Fr : M1) (Mu : M2) (L : St → Option Res) (κ : Kont) (n o : List Int) (i : Int) : ev (RxI Fr Mu) iL0 (iS n o i) (kLoop iCn L κ) =
    bif decide (i ≥ 0) then (bif i != 2 then (bif i != 4 then L (iS n (fixL 16 (Mu (fixL 16 (Mu o o)) n)) (w63 (i - 1))) else L (iS n (fixL 16 (Mu o o)) (w63 (i - 1)))) else L (iS n (fixL 16 (Mu o o)) (w63 (i - 1))))
    else κ (.exit 0) (withT 8 (.bool false) (withT 7 (.int .i64 i) (iS n o i))) := by kernel_rfl
theorem i_start (Fr : M1) (Mu : M2) (F : Nat) (C R : ACode) (K : Kont) (n : List Int) : ev (RxI Fr Mu) (.seq none iA (.seq none iB (.seq none (.seq none iI0 (.block 0 none (.loop F iCn C))) R))) ⟨[n16 n] ++ List.replicate 23 .undef, ⟨16, []⟩⟩ K =
    loopK iCn (ev (RxI Fr Mu) C) F (iS n (fixL 16 (Fr k1L)) 254) (kBlock 0 none (kSeq (RxI Fr Mu) none R K)) := by kernel_rfl
theorem i_end (Fr : M1) (Mu : M2) (n o : List Int) (i : Int) : ev (RxI Fr Mu) iEnd (withT 8 (.bool false) (withT 7 (.int .i64 i) (iS n o i))) (kFn [.cell 2 true 16] kV) = some (n16 o, ⟨0, []⟩) := by kernel_rfl
def invF (Fr : M1) (Mu : M2) (n : List Int) : Nat → List Int
  | 0 => fixL 16 (Fr k1L)
  | k + 1 => if 254 - k = 2 ∨ 254 - k = 4 then fixL 16 (Mu (invF Fr Mu n k) (invF Fr Mu n k)) else fixL 16 (Mu (fixL 16 (Mu (invF Fr Mu n k) (invF Fr Mu n k))) n)
theorem i_loop (Fr : M1) (Mu : M2) (κ : Kont) (n : List Int) : ∀ (m k F : Nat), k + m = 255 → m < F →
    loopK iCn (ev (RxI Fr Mu) iL0) F (iS n (invF Fr Mu n k) ((m : Int) - 1)) κ = κ (.exit 0) (withT 8 (.bool false) (withT 7 (.int .i64 (-1)) (iS n (invF Fr Mu n (k + m)) (-1))))
  | 0, k, F + 1, hk, _ => by
    refine (i_round Fr Mu _ κ n _ _).trans ?_
    rw [Nat.add_zero]
    generalize invF Fr Mu n k = o
    rfl
  | m + 1, k, F + 1, hk, hF => by
    refine (i_round Fr Mu _ κ n _ _).trans ?_
    have e0 : ((m + 1 : Nat) : Int) - 1 = (m : Int) := by omega
    have e1 : w63 ((m : Int) - 1) = (m : Int) - 1 := w63_id (by omega) (by omega)
    have ih := i_loop Fr Mu κ n m (k + 1) F (by omega) (by omega)
    rw [e0, decide_eq_true (by omega), cond_true, e1, show k + (m + 1) = k + 1 + m by omega, ← ih]
    have eI : invF Fr Mu n (k + 1) = if 254 - k = 2 ∨ 254 - k = 4 then fixL 16 (Mu (invF Fr Mu n k) (invF Fr Mu n k)) else fixL 16 (Mu (fixL 16 (Mu (invF Fr Mu n k) (invF Fr Mu n k))) n) := rfl
    rw [eI]
    clear ih eI
    generalize invF Fr Mu n k = o
    by_cases h2 : m = 2
    · rw [if_pos (by omega), show ((m : Int) != 2) = false by subst h2; rfl, cond_false]
    · rw [show ((m : Int) != 2) = true by simp only [bne_iff_ne, ne_eq]; omega, cond_true]
      by_cases h4 : m = 4
      · rw [if_pos (by omega), show ((m : Int) != 4) = false by subst h4; rfl, cond_false]
      · rw [if_neg (by omega), show ((m : Int) != 4) = true by simp only [bne_iff_ne, ne_eq]; omega, cond_true]
  | _, _, 0, _, h => by omega
theorem inv_run (Fr : M1) (Mu : M2) (n : List Int) : evFn (RxI Fr Mu) afInv [n16 n] ⟨16, []⟩ kV = some (n16 (invF Fr Mu n 255), ⟨0, []⟩) := by
  rw [evFn_eq]
  refine Eq.trans ?_ ((i_start Fr Mu 1000 iL0 iEnd (kFn [.cell 2 true 16] kV) n).trans ?_)
  · rfl
  have h := i_loop Fr Mu (kBlock 0 none (kSeq (RxI Fr Mu) none iEnd (kFn [.cell 2 true 16] kV))) n 255 0 1000 (by omega) (by omega)
  refine (show _ = _ from h).trans ?_
  rw [kBlock_exit]
  exact i_end Fr Mu n _ _
theorem invF_len (Fr : M1) (Mu : M2) (n : List Int) (k : Nat) : (invF Fr Mu n k).length = 16 := by
  cases k with
  | zero => exact fixL_len ..
  | succ k => simp only [invF]; split <;> exact fixL_len ..
theorem rinv_pure {P : Program} {f : FuncId} {Fr : M1} {Mu : M2} (F : Fn P f (RxI Fr Mu) afInv) : PureOk P f (num1V fun n => invF Fr Mu n 255) := by
  refine F.plain fun nid args hp r ha hr => ?_
  unfold num1V at hr
  split at hr <;> try (cases hr; done)
  cases hr
  refine ⟨rfl, rfl, rfl, ?_⟩
  rw [fixL_eq (invF_len ..)]
  exact inv_run Fr Mu _
def clF (k : List Int) : List Int := (k.set 0 (w8 (w8 ((g0 k 0).tdiv 8) * 8))).set 31 (w8 ((g0 k 31).tmod 64 + 64))
theorem cl_run (f : Nat → Int) : evFn G10 af_hollowtreeref03_Clamp [key (tab 32 f)] ⟨16, []⟩ kV = some (key (clF (tab 32 f)), ⟨0, []⟩) := by kernel_rfl
theorem rcl_pure {P : Program} {f : FuncId} (F : Fn P f G10 af_hollowtreeref03_Clamp) : PureOk P f (clampV clF) := by
  refine F.plain fun nid args hp r ha hr => ?_
  unfold clampV at hr
  split at hr <;> try (cases hr; done)
  rename_i l
  cases hr
  obtain ⟨⟨⟨hl, _⟩, _⟩, _⟩ := ha
  refine ⟨rfl, rfl, rfl, ?_⟩
  rw [fixL_eq (l := clF l) (by simp [clF, hl])]
  obtain ⟨g, rfl⟩ := tab_of hl
  exact cl_run g
theorem map_small (m : Int) (hm : 0 ≤ m ∧ m < 1048576) : ∀ {l : List Int}, DigL l → vL (l.map fun x => w63 (x * m)) = vL l * m ∧ BndL 68719476736 (l.map fun x => w63 (x * m))
  | [], _ => ⟨by simp [vL], fun x hx => by simp at hx⟩
  | x :: r, h => by
    have hx := h x (List.mem_cons_self ..)
    obtain ⟨e1, e2⟩ := map_small m hm (l := r) fun y hy => h y (List.mem_cons_of_mem _ hy)
    have hp : 0 ≤ x * m ∧ x * m ≤ 65535 * 1048575 := mulB ⟨hx.1, by omega⟩ ⟨hm.1, by omega⟩
    have e : w63 (x * m) = x * m := w63_id (by omega) (by omega)
    refine ⟨?_, fun z hz => ?_⟩
    · simp only [List.map_cons, vL, e, e1]; grind
    · simp only [List.map_cons, List.mem_cons] at hz
      rcases hz with rfl | hz
      · rw [e]; omega
      · exact e2 z hz
theorem Rep16.small {a : List Int} {n : Nat} (h : Rep16 a n) {m : Nat} (hm : m < 1048576) : Rep16 (smF carL a m) (n * m) := by
  obtain ⟨k, hk⟩ := h.val
  have e : (tab 16 fun i => w63 (g0 a i * (m : Int))) = a.map fun x => w63 (x * (m : Int)) := by
    obtain ⟨f, rfl⟩ := tab_of h.len
    rfl
  obtain ⟨e1, e2⟩ := map_small (m : Int) ⟨by omega, by omega⟩ h.dig
  have hlen : (a.map fun x => w63 (x * (m : Int))).length = 16 := by simp [h.len]
  unfold smF
  rw [e, fixL_eq ((carL_len _).trans hlen)]
  refine car_rep hlen (bnd_mono e2 (by omega)) ⟨k * m, ?_⟩
  rw [e1, hk, Int.natCast_mul]
  generalize pI = q
  grind
def pairD : List Int → List Int
  | x :: y :: r => (x + 256 * y) :: pairD r
  | _ => []
theorem pairD_val : ∀ (n : Nat) (l : List Int), l.length = 2 * n → Bytes l → vL (pairD l) = (leN l : Int)
  | 0, l, h, _ => by obtain rfl : l = [] := List.eq_nil_of_length_eq_zero (by omega); rfl
  | n + 1, x :: y :: r, h, hb => by
    have hx := hb x (List.mem_cons_self ..)
    have hy := hb y (List.mem_cons_of_mem _ (List.mem_cons_self ..))
    have ih := pairD_val n r (by simp at h; omega) fun z hz => hb z (List.mem_cons_of_mem _ (List.mem_cons_of_mem _ hz))
    simp only [pairD, vL, leN, ih]
    omega
  | n + 1, [], h, _ => by simp at h
  | n + 1, [_], h, _ => by simp at h; omega
theorem fromF_rep {k : List Int} (hl : k.length = 32) (hb : Bytes k) : Rep16 (fromF k) (leN k % 57896044618658097711785492504343953926634992332820282019728792003956564819968) := by
  obtain ⟨f, hf⟩ := tab_of hl
  have b : ∀ i, 0 ≤ g0 k i ∧ g0 k i < 256 := fun i => hb.getD i
  have e : ∀ i, w63 (w63 (g0 k (2 * i)) + w63 (256 * w63 (g0 k (2 * i + 1)))) = g0 k (2 * i) + 256 * g0 k (2 * i + 1) := fun i => by
    have h1 := b (2 * i)
    have h2 := b (2 * i + 1)
    rw [w63_id (n := g0 k (2 * i)) (by omega) (by omega), w63_id (n := g0 k (2 * i + 1)) (by omega) (by omega), w63_id (n := 256 * _) (by omega) (by omega), w63_id (by omega) (by omega)]
  have e15 : w63 (w63 (g0 k 30) + w63 (256 * w63 (g0 k 31))) = g0 k 30 + 256 * g0 k 31 := e 15
  have hd : fromF k = [g0 k 0 + 256 * g0 k 1, g0 k 2 + 256 * g0 k 3, g0 k 4 + 256 * g0 k 5, g0 k 6 + 256 * g0 k 7, g0 k 8 + 256 * g0 k 9, g0 k 10 + 256 * g0 k 11, g0 k 12 + 256 * g0 k 13, g0 k 14 + 256 * g0 k 15, g0 k 16 + 256 * g0 k 17, g0 k 18 + 256 * g0 k 19, g0 k 20 + 256 * g0 k 21, g0 k 22 + 256 * g0 k 23, g0 k 24 + 256 * g0 k 25, g0 k 26 + 256 * g0 k 27, g0 k 28 + 256 * g0 k 29, (g0 k 30 + 256 * g0 k 31) % 32768] := by
    unfold fromF
    rw [e15, Int.tmod_eq_emod_of_nonneg (by have := b 30; have := b 31; omega)]
    simp only [e]
    rfl
  have hp : leN k = (vL (pairD k)).toNat ∧ 0 ≤ vL (pairD k) := by
    have := pairD_val 16 k (by omega) hb
    omega
  have hpd : pairD k = [g0 k 0 + 256 * g0 k 1, g0 k 2 + 256 * g0 k 3, g0 k 4 + 256 * g0 k 5, g0 k 6 + 256 * g0 k 7, g0 k 8 + 256 * g0 k 9, g0 k 10 + 256 * g0 k 11, g0 k 12 + 256 * g0 k 13, g0 k 14 + 256 * g0 k 15, g0 k 16 + 256 * g0 k 17, g0 k 18 + 256 * g0 k 19, g0 k 20 + 256 * g0 k 21, g0 k 22 + 256 * g0 k 23, g0 k 24 + 256 * g0 k 25, g0 k 26 + 256 * g0 k 27, g0 k 28 + 256 * g0 k 29] ++ [g0 k 30 + 256 * g0 k 31] := by
    rw [hf]; rfl
  have hd2 : fromF k = [g0 k 0 + 256 * g0 k 1, g0 k 2 + 256 * g0 k 3, g0 k 4 + 256 * g0 k 5, g0 k 6 + 256 * g0 k 7, g0 k 8 + 256 * g0 k 9, g0 k 10 + 256 * g0 k 11, g0 k 12 + 256 * g0 k 13, g0 k 14 + 256 * g0 k 15, g0 k 16 + 256 * g0 k 17, g0 k 18 + 256 * g0 k 19, g0 k 20 + 256 * g0 k 21, g0 k 22 + 256 * g0 k 23, g0 k 24 + 256 * g0 k 25, g0 k 26 + 256 * g0 k 27, g0 k 28 + 256 * g0 k 29] ++ [(g0 k 30 + 256 * g0 k 31) % 32768] := hd
  clear hd e e15 hf
  have hz : 0 ≤ g0 k 30 + 256 * g0 k 31 := by have := b 30; have := b 31; omega
  generalize g0 k 30 + 256 * g0 k 31 = z at *
  have hA : DigL [g0 k 0 + 256 * g0 k 1, g0 k 2 + 256 * g0 k 3, g0 k 4 + 256 * g0 k 5, g0 k 6 + 256 * g0 k 7, g0 k 8 + 256 * g0 k 9, g0 k 10 + 256 * g0 k 11, g0 k 12 + 256 * g0 k 13, g0 k 14 + 256 * g0 k 15, g0 k 16 + 256 * g0 k 17, g0 k 18 + 256 * g0 k 19, g0 k 20 + 256 * g0 k 21, g0 k 22 + 256 * g0 k 23, g0 k 24 + 256 * g0 k 25, g0 k 26 + 256 * g0 k 27, g0 k 28 + 256 * g0 k 29] := by
    intro x hx
    simp only [List.mem_cons, List.not_mem_nil, or_false] at hx
    have q : ∀ i j, 0 ≤ g0 k i + 256 * g0 k j ∧ g0 k i + 256 * g0 k j < 65536 := fun i j => by have := b i; have := b j; omega
    rcases hx with rfl | rfl | rfl | rfl | rfl | rfl | rfl | rfl | rfl | rfl | rfl | rfl | rfl | rfl | rfl <;> exact q _ _
  generalize hAe : [g0 k 0 + 256 * g0 k 1, g0 k 2 + 256 * g0 k 3, g0 k 4 + 256 * g0 k 5, g0 k 6 + 256 * g0 k 7, g0 k 8 + 256 * g0 k 9, g0 k 10 + 256 * g0 k 11, g0 k 12 + 256 * g0 k 13, g0 k 14 + 256 * g0 k 15, g0 k 16 + 256 * g0 k 17, g0 k 18 + 256 * g0 k 19, g0 k 20 + 256 * g0 k 21, g0 k 22 + 256 * g0 k 23, g0 k 24 + 256 * g0 k 25, g0 k 26 + 256 * g0 k 27, g0 k 28 + 256 * g0 k 29] = A at *
  have hA15 : A.length = 15 := by rw [← hAe]; rfl
  have hv := dig_val hA
  have w15 : (65536 : Int) ^ 15 = 1766847064778384329583297500742918515827483896875618958121606201292619776 := by decide
  rw [hA15, w15] at hv
  refine ⟨by rw [hd2]; simp [hA15], ?_, 0, ?_⟩
  · rw [hd2]
    intro x hx
    rcases List.mem_append.1 hx with hx | hx
    · exact hA x hx
    · simp only [List.mem_singleton] at hx; omega
  · rw [hp.1, hpd, hd2, vL_append, vL_append, hA15, w15]
    simp only [vL]
    generalize vL A = V at *
    omega
theorem k1_rep : Rep16 (fromF k1L) 1 := by
  have := fromF_rep (k := k1L) rfl (by intro x hx; simp only [k1L, List.mem_cons, List.mem_replicate] at hx; omega)
  exact this
theorem k0_rep : Rep16 (fromF (List.replicate 32 0)) 0 := by
  have := fromF_rep (k := List.replicate 32 0) rfl (by intro x hx; simp only [List.mem_replicate] at hx; omega)
  exact this
theorem Rep16.fix {a : List Int} {n : Nat} (h : Rep16 a n) : Rep16 (fixL 16 a) n := by rw [fixL_eq h.len]; exact h
theorem inv_rep {n : List Int} {m : Nat} (h : Rep16 n m) : ∀ k, k ≤ 255 → Rep16 (invF fromF (mulF (foldF carL)) n k) (powN m (k + 1))
  | 0, _ => k1_rep.fix
  | k + 1, hk => by
    have ih := inv_rep h k (by omega)
    rw [powN]
    simp only [invF]
    by_cases hc : 254 - k = 2 ∨ 254 - k = 4
    · rw [if_pos hc, if_pos (by omega)]
      exact (ih.mul ih).mod.fix
    · rw [if_neg hc, if_neg (by omega)]
      exact ((ih.mul ih).mod.fix.mul h).mod.fix
set_option maxRecDepth 100000
def swX (b : Nat) (s : X4) : X4 := if b = 1 then s.sw else s
def stepX (V : XV) (x1 : List Int) (b : Nat) (s : X4) : X4 := swX b (vGo V x1 (swX b s))
def ladX (V : XV) (k x1 : List Int) (s : X4) : Nat → X4
  | 0 => s
  | n + 1 => stepX V x1 (bitN k (254 - n)) (ladX V k x1 s n)
theorem v_loop2 (V : XV) (κ : Kont) (k x1 : List Int) (s : X4) (a o : Nat) (ha : a < 256) (ho : o < 256) :
    loopK vCn2 (ev (RxX V) vL2) 1000 (vS2 k x1 s (a : Int) (o : Int) 0) κ = κ (.exit 2) (vSx k x1 s (a : Int) ((o / 2 ^ (a % 8) : Nat) : Int) ((a % 8 : Nat) : Int)) := by
  have hm : (a : Int).tmod 8 = ((a % 8 : Nat) : Int) := by rw [Int.tmod_eq_emod_of_nonneg (by omega)]; omega
  have e0 : (o : Int) = ((o / 2 ^ 0 : Nat) : Int) := by simp
  rw [e0]
  refine loopK_for (fun i => vS2 k x1 s (a : Int) ((o / 2 ^ i : Nat) : Int) (i : Int)) (a % 8) _ (fun i hi L => ?_) (fun L => ?_) 1000 (by omega)
  · refine (v_p2 V L κ k x1 s _ _ _).trans ?_
    have hl : o / 2 ^ i < 256 := Nat.lt_of_le_of_lt (Nat.div_le_self _ _) ho
    have e : o / 2 ^ (i + 1) = o / 2 ^ i / 2 := by rw [Nat.pow_succ, ← Nat.div_div_eq_div_mul]
    rw [e]
    generalize o / 2 ^ i = q at *
    rw [hm, decide_eq_true (by omega), cond_true, wS i (by omega), Int.tdiv_eq_ediv_of_nonneg (by omega), w63_id (by omega) (by omega)]
    rw [show (q : Int) / 2 = ((q / 2 : Nat) : Int) by omega]
  · refine (v_p2 V L κ k x1 s _ _ _).trans ?_
    rw [hm, decide_eq_false (by omega), cond_false]
theorem v_round (V : XV) (L : St → Option Res) (κ : Kont) (k x1 : List Int) (s : X4) (a : Nat) (ha : a < 255) (hk : k.length = 32) (hb : Bytes k) :
    ev (RxX V) vBody (vS0 k x1 s (a : Int)) (kLoop vCn0 L κ) = L (vS0 k x1 (stepX V x1 (bitN k a) s) ((a : Int) - 1)) := by
  refine (v_p1 V 1000 vL2 _ vT L κ k x1 s _).trans ?_
  have hq : w63 ((a : Int).tdiv 8) = ((a / 8 : Nat) : Int) := by
    rw [Int.tdiv_eq_ediv_of_nonneg (by omega), w63_id (by omega) (by omega)]; omega
  obtain ⟨g1, g2⟩ : 0 ≤ g0 k (a / 8) ∧ g0 k (a / 8) < 256 := hb.getD (a / 8)
  rw [decide_eq_true (by omega), cond_true, at?_eq (a / 8) hq (by omega) (by omega)]
  have hbit : bitN k a = (g0 k (a / 8)).toNat / 2 ^ (a % 8) % 2 := rfl
  rw [hbit]
  obtain ⟨o, ho⟩ := Int.eq_ofNat_of_zero_le g1
  rw [ho] at g2 ⊢
  rw [w63_id (n := (o : Int)) (by omega) (by omega), Int.toNat_natCast]
  have hl2 := v_loop2 V (kBlock 2 none (kSeq (RxX V) none (.seq none vRm (.seq vCnM vC1 vRest)) (kBlock 1 none (kSeq (RxX V) none vT (kLoop vCn0 L κ))))) k x1 s a o (by omega) (by omega)
  refine Eq.trans hl2 ?_
  refine (v_p3 V vRest (kBlock 1 none (kSeq (RxX V) none vT (kLoop vCn0 L κ))) k x1 s _ _ _).trans ?_
  generalize o / 2 ^ (a % 8) = q
  have hm : ((q : Nat) : Int).tmod 2 = ((q % 2 : Nat) : Int) := by rw [Int.tmod_eq_emod_of_nonneg (by omega)]; omega
  have hw : w63 ((a : Int) - 1) = (a : Int) - 1 := w63_id (by omega) (by omega)
  rw [hm]
  unfold stepX swX
  by_cases h1 : q % 2 = 1
  · rw [h1, if_pos rfl, if_pos rfl, show (((1 : Nat) : Int) == 1) = true from rfl, cond_true, v_p4, hw, show (((1 : Nat) : Int) == 1) = true from rfl, cond_true]
  · have h0 : q % 2 = 0 := by omega
    rw [h0, if_neg (by decide), if_neg (by decide), show (((0 : Nat) : Int) == 1) = false from rfl, cond_false, v_p4, hw, show (((0 : Nat) : Int) == 1) = false from rfl, cond_false]
theorem v_loop0 (V : XV) (κ : Kont) (k x1 : List Int) (s : X4) (hk : k.length = 32) (hb : Bytes k) : ∀ (m n F : Nat), n + m = 255 → m < F →
    loopK vCn0 (ev (RxX V) vBody) F (vS0 k x1 (ladX V k x1 s n) ((m : Int) - 1)) κ = κ (.exit 0) (withT 37 (.bool false) (withT 36 (.int .i64 (-1)) (vS0 k x1 (ladX V k x1 s (n + m)) (-1))))
  | 0, n, F + 1, hn, _ => by
    refine (v_p1 V 1000 vL2 _ vT _ κ k x1 _ _).trans ?_
    rw [Nat.add_zero]
    generalize ladX V k x1 s n = o
    rfl
  | m + 1, n, F + 1, hn, hF => by
    have e0 : ((m + 1 : Nat) : Int) - 1 = (m : Int) := by omega
    rw [e0]
    refine (v_round V _ κ k x1 _ m (by omega) hk hb).trans ?_
    have ih := v_loop0 V κ k x1 s hk hb m (n + 1) F (by omega) (by omega)
    have e1 : ladX V k x1 s (n + 1) = stepX V x1 (bitN k (254 - n)) (ladX V k x1 s n) := rfl
    rw [e1, show 254 - n = m by omega] at ih
    rw [show n + (m + 1) = n + 1 + m by omega]
    exact ih
  | _, _, 0, _, h => by omega
def xIni (V : XV) (x1 : List Int) : X4 := ⟨fixL 16 (V.fr (1 :: List.replicate 31 0)), fixL 16 (V.fr (List.replicate 32 0)), x1, fixL 16 (V.fr (1 :: List.replicate 31 0))⟩
def xV (V : XV) (k u : List Int) : List Int :=
  let s := ladX V (fixL 32 (V.cl k)) (fixL 16 (V.fr u)) (xIni V (fixL 16 (V.fr u))) 255
  fixL 32 (V.byt (fixL 16 (V.mu s.a (fixL 16 (V.iv s.b)))))
theorem x03_run (V : XV) (k u : List Int) (hb : Bytes (fixL 32 (V.cl k))) : evFn (RxX V) afX03 [key k, key u] ⟨16, []⟩ kV = some (key (xV V k u), ⟨0, []⟩) := by
  rw [evFn_eq]
  refine Eq.trans ?_ ((v_start V 1000 vBody vEnd (kFn [.cell 4 true 32] kV) k u).trans ?_)
  · rfl
  have h := v_loop0 V (kBlock 0 none (kSeq (RxX V) none vEnd (kFn [.cell 4 true 32] kV))) (fixL 32 (V.cl k)) (fixL 16 (V.fr u)) (xIni V (fixL 16 (V.fr u))) (fixL_len ..) hb 255 0 1000 (by omega) (by omega)
  refine (show _ = _ from h).trans ?_
  rw [kBlock_exit]
  exact v_endX V _ _ _ _
def XT : XV := ⟨clF, fromF, addF carL, subF carL, mulF (foldF carL), smF carL, fun n => invF fromF (mulF (foldF carL)) n 255, bytF carL⟩
def RepX (s : X4) (n : N4) : Prop := Rep16 s.a n.x2 ∧ Rep16 s.b n.z2 ∧ Rep16 s.c n.x3 ∧ Rep16 s.d n.z3
theorem RepX.swap {s : X4} {n : N4} {b : Nat} (h : RepX s n) (hb : b < 2) : RepX (swX b s) (swN b n) := by
  obtain ⟨h1, h2, h3, h4⟩ := h
  rcases (by omega : b = 0 ∨ b = 1) with rfl | rfl
  · exact ⟨h1, h2, h3, h4⟩
  · exact ⟨h3, h4, h1, h2⟩
theorem RepX.go {s : X4} {n : N4} {x1 : List Int} {m : Nat} (hx : Rep16 x1 m) (h : RepX s n) : RepX (vGo XT x1 s) (goN m n) := by
  obtain ⟨h1, h2, h3, h4⟩ := h
  have a := (h1.add h2).mod.fix
  have b := (h1.sub h2).mod.fix
  have c := (h3.add h4).mod.fix
  have d := (h3.sub h4).mod.fix
  have aa := (a.mul a).mod.fix
  have bb := (b.mul b).mod.fix
  have e := (aa.sub bb).mod.fix
  have da := (d.mul a).mod.fix
  have cb := (c.mul b).mod.fix
  have s' := (da.add cb).mod.fix
  have t' := (da.sub cb).mod.fix
  exact ⟨(aa.mul bb).mod.fix, (e.mul (aa.add (e.small (m := 121665) (by decide)).mod.fix).mod.fix).mod.fix, (s'.mul s').mod.fix, (hx.mul (t'.mul t').mod.fix).mod.fix⟩
theorem RepX.step {s : X4} {n : N4} {x1 : List Int} {m : Nat} {b : Nat} (hx : Rep16 x1 m) (h : RepX s n) (hb : b < 2) : RepX (stepX XT x1 b s) (stepN m b n) := ((h.swap hb).go hx).swap hb
theorem ladX_rep {k x1 : List Int} {m : Nat} (hx : Rep16 x1 m) {s : X4} (h : RepX s ⟨1, 0, m, 1⟩) : ∀ n, RepX (ladX XT k x1 s n) (ladN k m n)
  | 0 => h
  | n + 1 => (ladX_rep hx h n).step hx (by unfold bitN; omega)
theorem cl_tab : ((List.range 256).all fun n => bw .and .u8 ((n : Nat) : Int) 248 == w8 (w8 (((n : Nat) : Int).tdiv 8) * 8) && bw .or .u8 (bw .and .u8 ((n : Nat) : Int) 127) 64 == w8 (((n : Nat) : Int).tmod 64 + 64)) = true := by kernel_rfl
theorem cl_eq {k : List Int} (hb : Bytes k) : clF k = clampL k := by
  have key : ∀ x : Int, 0 ≤ x → x < 256 → bw .and .u8 x 248 = w8 (w8 (x.tdiv 8) * 8) ∧ bw .or .u8 (bw .and .u8 x 127) 64 = w8 (x.tmod 64 + 64) := fun x h0 h1 => by
    obtain ⟨n, rfl⟩ := Int.eq_ofNat_of_zero_le h0
    have := List.all_eq_true.1 cl_tab n (List.mem_range.2 (by omega))
    simp only [Bool.and_eq_true, beq_iff_eq] at this
    exact this
  unfold clF clampL
  have e1 := (key (g0 k 0) (hb.getD 0).1 (hb.getD 0).2).1
  have e2 := (key (g0 k 31) (hb.getD 31).1 (hb.getD 31).2).2
  rw [← e1, ← e2]
  rfl
theorem leB_len (n : Nat) : ∀ k, (leB n k).length = k
  | 0 => rfl
  | k + 1 => by simp only [leB, List.length_cons, leB_len]
theorem fin_law {s : X4} {n : N4} (h : RepX s n) : fixL 32 (bytF carL (fixL 16 (mulF (foldF carL) s.a (fixL 16 (invF fromF (mulF (foldF carL)) s.b 255))))) = leB (quoN n) 32 := by
  obtain ⟨r1, r2, _, _⟩ := h
  have hi := (inv_rep r2 255 (Nat.le_refl _)).fix
  generalize invF fromF (mulF (foldF carL)) s.b 255 = v at *
  have hq := ((r1.mul hi).mod.fix).bytes
  rw [hq, fixL_eq (leB_len _ _)]
  unfold quoN
  rw [Nat.mod_mod]
theorem xV_law {k u : List Int} (hk : Bytes k) (hkl : k.length = 32) (hul : u.length = 32) (hu : Bytes u) : xV XT k u = xI k u := by
  have hc : fixL 32 (XT.cl k) = clampL k := by
    show fixL 32 (clF k) = _
    rw [cl_eq hk, fixL_eq]
    simp [clampL, hkl]
  have hx := (fromF_rep hul hu).fix
  have h0 : RepX (xIni XT (fixL 16 (fromF u))) ⟨1, 0, leN u % 57896044618658097711785492504343953926634992332820282019728792003956564819968, 1⟩ := ⟨k1_rep.fix, k0_rep.fix, hx, k1_rep.fix⟩
  have hr := ladX_rep (k := clampL k) hx h0 255
  unfold xV xI xN
  rw [hc]
  generalize ladN (clampL k) (leN u % 57896044618658097711785492504343953926634992332820282019728792003956564819968) 255 = N at *
  have e : XT.fr u = fromF u := rfl
  rw [e]
  generalize ladX XT (clampL k) (fixL 16 (fromF u)) (xIni XT (fixL 16 (fromF u))) 255 = S at *
  exact fin_law hr
set_option maxRecDepth 100000
theorem w32_mod (n : Int) : w32 n = n % 4294967296 := by simp only [w32, IntKind.wrap, IntKind.bits, IntKind.signed, Bool.false_and, Bool.false_eq_true, if_false]; rfl
theorem schedR_eq (p q r s : Int) : schedR p q r s = sched p q r s := by
  unfold schedR sched
  generalize bw .xor .u32 (bw .xor .u32 (turnS p 7) (turnS p 18)) (p.fdiv (2 ^ 3)) = A
  generalize bw .xor .u32 (bw .xor .u32 (turnS q 17) (turnS q 19)) (q.fdiv (2 ^ 10)) = B
  simp only [w32_mod]
  omega
theorem wsR_load (xs : List Int) : ∀ i, i ≤ 16 → wsR xs i = loadL xs i
  | 0, _ => rfl
  | i + 1, h => by
    simp only [wsR, loadL]
    rw [if_pos (by omega), wsR_load xs i (by omega)]
theorem wsR_sched (xs : List Int) : ∀ k, wsR xs (16 + k) = schedL xs k
  | 0 => wsR_load xs 16 (Nat.le_refl _)
  | k + 1 => by
    rw [show 16 + (k + 1) = (16 + k) + 1 by omega]
    simp only [wsR, schedL]
    rw [if_neg (by omega), wsR_sched xs k, schedR_eq]
    rw [show 16 + k - 15 = 1 + k by omega, show 16 + k - 2 = 14 + k by omega, show 16 + k - 16 = k by omega, show 16 + k - 7 = 9 + k by omega]
theorem not32_nat {x : Nat} (hx : B32 x) : not32 (x : Int) = ((4294967295 ^^^ x : Nat) : Int) ∧ B32 (4294967295 ^^^ x) := by
  have := xor32_nat (x := 4294967295) (y := x) (by decide) hx
  exact this
theorem ones_bit {n i : Nat} (h : n < 4294967296) : (4294967295 : Nat).testBit i = true ∨ n.testBit i = false := by
  by_cases hi : i < 32
  · left
    have : (4294967295 : Nat) = 2 ^ 32 - 1 := by decide
    rw [this, Nat.testBit_two_pow_sub_one]
    simpa using hi
  · right
    exact Nat.testBit_lt_two_pow (Nat.lt_of_lt_of_le h (Nat.le_trans (by decide : 4294967296 ≤ 2 ^ 32) (Nat.pow_le_pow_right (by decide) (by omega))))
theorem ch_nat (e f g : Nat) (he : e < 4294967296) (hg : g < 4294967296) : (e &&& f) ^^^ ((4294967295 ^^^ e) &&& g) = g ^^^ (e &&& (f ^^^ g)) := by
  apply Nat.eq_of_testBit_eq
  intro i
  simp only [Nat.testBit_xor, Nat.testBit_and]
  rcases ones_bit (i := i) hg with h | h
  · rw [h]
    cases e.testBit i <;> cases f.testBit i <;> cases g.testBit i <;> rfl
  · rw [h]
    cases e.testBit i <;> cases f.testBit i <;> simp
theorem maj_nat (a b c : Nat) : ((a &&& b) ^^^ (a &&& c)) ^^^ (b &&& c) = (a &&& b) ||| (c &&& (a ||| b)) := by
  apply Nat.eq_of_testBit_eq
  intro i
  simp only [Nat.testBit_xor, Nat.testBit_and, Nat.testBit_or]
  cases a.testBit i <;> cases b.testBit i <;> cases c.testBit i <;> rfl
theorem rTR_eq {s : V8} (h : s.ok) (k x : Int) : rTR s.w k x = roundT s.w k x := by
  obtain ⟨_, _, _, _, he, hf, hg, _⟩ := h
  have e1 : xor32 (and32 s.w.e s.w.f) (and32 (not32 s.w.e) s.w.g) = xor32 s.w.g (and32 s.w.e (xor32 s.w.f s.w.g)) := by
    show bw .xor .u32 (bw .and .u32 (s.e : Int) (s.f : Int)) (bw .and .u32 (not32 (s.e : Int)) (s.g : Int)) = bw .xor .u32 (s.g : Int) (bw .and .u32 (s.e : Int) (bw .xor .u32 (s.f : Int) (s.g : Int)))
    have n1 := not32_nat he
    have a1 := and32_nat he hf
    have a2 := and32_nat n1.2 hg
    have x1 := xor32_nat hf hg
    have a3 := and32_nat he x1.2
    rw [n1.1, a1.1, a2.1, (xor32_nat a1.2 a2.2).1, x1.1, a3.1, (xor32_nat hg a3.2).1, ch_nat s.e s.f s.g he hg]
  unfold rTR roundT
  rw [e1]
theorem rUR_eq {s : V8} (h : s.ok) : rUR s.w = roundU s.w := by
  obtain ⟨ha, hb, hc, _⟩ := h
  have e1 : xor32 (xor32 (and32 s.w.a s.w.b) (and32 s.w.a s.w.c)) (and32 s.w.b s.w.c) = or32 (and32 s.w.a s.w.b) (and32 s.w.c (or32 s.w.a s.w.b)) := by
    show bw .xor .u32 (bw .xor .u32 (bw .and .u32 (s.a : Int) (s.b : Int)) (bw .and .u32 (s.a : Int) (s.c : Int))) (bw .and .u32 (s.b : Int) (s.c : Int)) = bw .or .u32 (bw .and .u32 (s.a : Int) (s.b : Int)) (bw .and .u32 (s.c : Int) (bw .or .u32 (s.a : Int) (s.b : Int)))
    have a1 := and32_nat ha hb
    have a2 := and32_nat ha hc
    have a3 := and32_nat hb hc
    have x1 := xor32_nat a1.2 a2.2
    have o1 := or32_nat ha hb
    have a4 := and32_nat hc o1.2
    rw [a1.1, a2.1, a3.1, x1.1, (xor32_nat x1.2 a3.2).1, o1.1, a4.1, (or32_nat a1.2 a4.2).1, maj_nat]
  unfold rUR roundU
  rw [e1]
theorem roundR_eq {s : V8} (h : s.ok) (k x : Int) : roundR s.w k x = roundS s.w k x := by
  unfold roundR roundS
  rw [rTR_eq h, rUR_eq h]
theorem roundsR_eq {ws : List Nat} {s : V8} (h : s.ok) : ∀ i, roundsR (castL ws) s.w i = roundsL (castL ws) s.w i
  | 0 => rfl
  | i + 1 => by
    obtain ⟨e, hok⟩ := roundsL_nat (ws := ws) h i
    simp only [roundsR, roundsL]
    rw [roundsR_eq h i, e]
    exact roundR_eq hok _ _
theorem toW8_of (s : W8) : toW8 (ofW8 s) = s := rfl
theorem add8_eq (s t : W8) : ofW8 (add8 s t) = addW (ofW8 s) (ofW8 t) 8 := rfl
theorem v8_of {s : W8} (h : ∀ x ∈ ofW8 s, rng .u32 x) : ∃ v : V8, v.ok ∧ s = v.w := by
  have k : ∀ x ∈ ofW8 s, ∃ n : Nat, B32 n ∧ x = (n : Int) := fun x hx => by
    have := h x hx rfl
    simp only [IntKind.bits] at this
    exact ⟨x.toNat, by show x.toNat < 4294967296; omega, by omega⟩
  obtain ⟨a, ha, ea⟩ := k s.a (by simp [ofW8])
  obtain ⟨b, hb, eb⟩ := k s.b (by simp [ofW8])
  obtain ⟨c, hc, ec⟩ := k s.c (by simp [ofW8])
  obtain ⟨d, hd, ed⟩ := k s.d (by simp [ofW8])
  obtain ⟨e, he, ee⟩ := k s.e (by simp [ofW8])
  obtain ⟨f, hf, ef⟩ := k s.f (by simp [ofW8])
  obtain ⟨g, hg, eg⟩ := k s.g (by simp [ofW8])
  obtain ⟨i, hi, ei⟩ := k s.h (by simp [ofW8])
  refine ⟨⟨a, b, c, d, e, f, g, i⟩, ⟨ha, hb, hc, hd, he, hf, hg, hi⟩, ?_⟩
  cases s
  simp only at ea eb ec ed ee ef eg ei
  subst ea eb ec ed ee ef eg ei
  rfl
theorem blkR_eq {s : W8} {xs : List Int} (hs : ∀ x ∈ ofW8 s, rng .u32 x) (hx : ∀ x ∈ xs, rng .u8 x) : ofW8 (blkR s xs) = stepL (ofW8 s) xs := by
  obtain ⟨v, hv, rfl⟩ := v8_of hs
  unfold blkR stepL
  rw [add8_eq, toW8_of, show (64 : Nat) = 16 + 48 from rfl, wsR_sched]
  have h8 := natL_8 hx
  have hw := schedL_nat h8.2 48
  rw [h8.1] at hw
  rw [hw.1, roundsR_eq hv]
theorem g0_fix {n j : Nat} (xs : List Int) (h : j < n) : g0 (fixL n xs) j = g0 xs j := by
  have key : ∀ (f : Nat → Int) (n i j : Nat), j < n → (tabFrom f i n).getD j 0 = f (i + j) := by
    intro f n
    induction n with
    | zero => intro i j h; omega
    | succ n ih =>
      intro i j h
      cases j with
      | zero => rfl
      | succ j =>
        simp only [tabFrom, List.getD_cons_succ]
        rw [ih (i + 1) j (by omega)]
        congr 1; omega
  have := key (fun i => xs.getD i 0) n 0 j h
  rw [Nat.zero_add] at this
  exact this
theorem loadL_fix (xs : List Int) : ∀ i, i ≤ 16 → loadL (fixL 64 xs) i = loadL xs i
  | 0, _ => rfl
  | i + 1, h => by
    simp only [loadL]
    rw [loadL_fix xs i (by omega), g0_fix _ (by omega), g0_fix _ (by omega), g0_fix _ (by omega), g0_fix _ (by omega)]
theorem schedL_fix (xs : List Int) : ∀ k, schedL (fixL 64 xs) k = schedL xs k
  | 0 => loadL_fix xs 16 (Nat.le_refl _)
  | k + 1 => by simp only [schedL]; rw [schedL_fix xs k]
theorem stepL_fix (st xs : List Int) : stepL st (fixL 64 xs) = stepL st xs := by
  unfold stepL
  rw [schedL_fix]
theorem fix_rng {n : Nat} {xs : List Int} (h : ∀ x ∈ xs, rng .u8 x) : ∀ x ∈ fixL n xs, rng .u8 x := by
  intro x hx
  obtain ⟨j, hj⟩ := List.mem_iff_getElem?.1 hx
  have hjl : j < n := by have := (List.getElem?_eq_some_iff.1 hj).1; rwa [fixL_len] at this
  have e : g0 (fixL n xs) j = x := by simp [g0, List.getD_eq_getElem?_getD, hj]
  rw [g0_fix xs hjl] at e
  rw [← e, g0, List.getD_eq_getElem?_getD]
  cases hq : xs[j]? with
  | none => exact rng_zero _
  | some y => exact h y (List.mem_of_getElem? hq)
theorem stepL_rng {st xs : List Int} (hs : ∀ x ∈ st, rng .u32 x) (hx : ∀ x ∈ xs, rng .u8 x) : ∀ x ∈ stepL st xs, rng .u32 x := by
  have h := stepL_nat (natL_32 hs).2 (natL_8 hx).2
  rw [(natL_32 hs).1, (natL_8 hx).1] at h
  rw [h.1]
  intro x hx
  simp only [castL, List.mem_map] at hx
  obtain ⟨n, hn, rfl⟩ := hx
  have := h.2 n hn
  intro _
  simp only [IntKind.bits]
  have h2 : n < 4294967296 := this
  omega
theorem blocks_eq : ∀ (m : Nat) (xs : List Int) (s : W8), (∀ x ∈ ofW8 s, rng .u32 x) → (∀ x ∈ xs, rng .u8 x) → ofW8 (blocksR m xs s) = foldB stepI m xs (ofW8 s)
  | 0, _, _, _, _ => rfl
  | m + 1, xs, s, hs, hx => by
    simp only [blocksR, foldB]
    have e1 := blkR_eq hs hx
    have e2 : stepI (ofW8 s) (fixL 64 xs) = ofW8 (blkR s xs) := by
      rw [← stepL_eq hs (fix_rng hx), stepL_fix, e1]
    rw [e2, fixL_eq (show (ofW8 (blkR s xs)).length = 8 from rfl)]
    exact blocks_eq m (xs.drop 64) (blkR s xs) (by rw [e1]; exact stepL_rng hs hx) fun x h => hx x (List.mem_of_mem_drop h)
theorem ser4_eq (x : Int) : ser4 x = seI x := by
  unfold ser4 seI
  rw [show ((2 : Int) ^ 0) = 1 from rfl, Int.fdiv_one]
theorem ser8_eq (s : W8) : ser8 s = serI (ofW8 s) := by
  unfold ser8
  simp only [ser4_eq]
  rfl
theorem padR_rng {L : Nat} (h : sumLen L = true) : ∀ x ∈ padR L (nOf L), rng .u8 x := by
  have key : ∀ L, (L = 65 ∨ L = 75 ∨ L = 76 ∨ L = 96 ∨ L = 107 ∨ L = 108 ∨ L = 109 ∨ L = 141) → (padR L (nOf L)).all (fun x => decide (0 ≤ x) && decide (x < 256)) = true := by
    intro L hL
    rcases hL with rfl | rfl | rfl | rfl | rfl | rfl | rfl | rfl <;> decide
  simp only [sumLen, Bool.or_eq_true, beq_iff_eq] at h
  have := key L (by omega)
  intro x hx _
  have h2 := List.all_eq_true.1 this x hx
  simp only [Bool.and_eq_true, decide_eq_true_eq] at h2
  simp only [IntKind.bits]
  omega
theorem sum_eq {xs : List Int} (h : sumLen xs.length = true) (hx : ∀ x ∈ xs, rng .u8 x) : sumRB xs = hsF stepI xs := by
  unfold sumRB hsF
  have hH : ∀ x ∈ ofW8 (toW8 shaH), rng .u32 x := by
    have : (ofW8 (toW8 shaH)).all (fun x => decide (0 ≤ x) && decide (x < 4294967296)) = true := by decide
    intro x hx _
    have h2 := List.all_eq_true.1 this x hx
    simp only [Bool.and_eq_true, decide_eq_true_eq] at h2
    simp only [IntKind.bits]
    omega
  rw [ser8_eq, blocks_eq _ _ _ hH fun x hx' => (List.mem_append.1 hx').elim (hx x) (padR_rng h x)]
  rfl
end Go.Am
