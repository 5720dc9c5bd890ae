/- RatchetSeals: part 46 of 50 of its proof. -/
import Derived.Test.YtmkefajojokkfaaGreatD33
import Derived.Test.YtmkefajojokkfaaGreatD38
import Derived.Test.YtmkefajojokkfaaGreatD44
import Derived.Test.YtmkefajojokkfaaGreatD19
import Derived.Test.YtmkefajojokkfaaGreatD36
import Derived.Test.YtmkefajojokkfaaGreatD43
set_option linter.unusedVariables false
set_option linter.unusedSimpArgs false
namespace Go.Am
set_option linter.unusedSimpArgs false
set_option maxRecDepth 100000
abbrev L1 := List Int → List Int
set_option maxRecDepth 100000
theorem w32_mod (n : Int) : w32 n = n % 4294967296 := by simp only [w32, IntKind.wrap, IntKind.bits, IntKind.signed, Bool.false_and, Bool.false_eq_true, if_false]; rfl
theorem schedR_eq (p q r s : Int) : schedR p q r s = sched p q r s := by
  unfold schedR sched
  generalize bw .xor .u32 (bw .xor .u32 (turnS p 7) (turnS p 18)) (p.fdiv (2 ^ 3)) = A
  generalize bw .xor .u32 (bw .xor .u32 (turnS q 17) (turnS q 19)) (q.fdiv (2 ^ 10)) = B
  simp only [w32_mod]
  omega
theorem wsR_load (xs : List Int) : ∀ i, i ≤ 16 → wsR xs i = loadL xs i
  | 0, _ => rfl
  | i + 1, h => by
    simp only [wsR, loadL]
    rw [if_pos (by omega), wsR_load xs i (by omega)]
theorem wsR_sched (xs : List Int) : ∀ k, wsR xs (16 + k) = schedL xs k
  | 0 => wsR_load xs 16 (Nat.le_refl _)
  | k + 1 => by
    rw [show 16 + (k + 1) = (16 + k) + 1 by omega]
    simp only [wsR, schedL]
    rw [if_neg (by omega), wsR_sched xs k, schedR_eq]
    rw [show 16 + k - 15 = 1 + k by omega, show 16 + k - 2 = 14 + k by omega, show 16 + k - 16 = k by omega, show 16 + k - 7 = 9 + k by omega]
theorem not32_nat {x : Nat} (hx : B32 x) : not32 (x : Int) = ((4294967295 ^^^ x : Nat) : Int) ∧ B32 (4294967295 ^^^ x) := by
  have := xor32_nat (x := 4294967295) (y := x) (by decide) hx
  exact this
theorem ones_bit {n i : Nat} (h : n < 4294967296) : (4294967295 : Nat).testBit i = true ∨ n.testBit i = false := by
  by_cases hi : i < 32
  · left
    have : (4294967295 : Nat) = 2 ^ 32 - 1 := by decide
    rw [this, Nat.testBit_two_pow_sub_one]
    simpa using hi
  · right
    exact Nat.testBit_lt_two_pow (Nat.lt_of_lt_of_le h (Nat.le_trans (by decide : 4294967296 ≤ 2 ^ 32) (Nat.pow_le_pow_right (by decide) (by omega))))
theorem ch_nat (e f g : Nat) (he : e < 4294967296) (hg : g < 4294967296) : (e &&& f) ^^^ ((4294967295 ^^^ e) &&& g) = g ^^^ (e &&& (f ^^^ g)) := by
  apply Nat.eq_of_testBit_eq
  intro i
  simp only [Nat.testBit_xor, Nat.testBit_and]
  rcases ones_bit (i := i) hg with h | h
  · rw [h]
    cases e.testBit i <;> cases f.testBit i <;> cases g.testBit i <;> rfl
  · rw [h]
    cases e.testBit i <;> cases f.testBit i <;> simp
theorem maj_nat (a b c : Nat) : ((a &&& b) ^^^ (a &&& c)) ^^^ (b &&& c) = (a &&& b) ||| (c &&& (a ||| b)) := by
  apply Nat.eq_of_testBit_eq
  intro i
  simp only [Nat.testBit_xor, Nat.testBit_and, Nat.testBit_or]
  cases a.testBit i <;> cases b.testBit i <;> cases c.testBit i <;> rfl
theorem rTR_eq {s : V8} (h : s.ok) (k x : Int) : rTR s.w k x = roundT s.w k x := by
  obtain ⟨_, _, _, _, he, hf, hg, _⟩ := h
  have e1 : xor32 (and32 s.w.e s.w.f) (and32 (not32 s.w.e) s.w.g) = xor32 s.w.g (and32 s.w.e (xor32 s.w.f s.w.g)) := by
    show bw .xor .u32 (bw .and .u32 (s.e : Int) (s.f : Int)) (bw .and .u32 (not32 (s.e : Int)) (s.g : Int)) = bw .xor .u32 (s.g : Int) (bw .and .u32 (s.e : Int) (bw .xor .u32 (s.f : Int) (s.g : Int)))
    have n1 := not32_nat he
    have a1 := and32_nat he hf
    have a2 := and32_nat n1.2 hg
    have x1 := xor32_nat hf hg
    have a3 := and32_nat he x1.2
    rw [n1.1, a1.1, a2.1, (xor32_nat a1.2 a2.2).1, x1.1, a3.1, (xor32_nat hg a3.2).1, ch_nat s.e s.f s.g he hg]
  unfold rTR roundT
  rw [e1]
theorem rUR_eq {s : V8} (h : s.ok) : rUR s.w = roundU s.w := by
  obtain ⟨ha, hb, hc, _⟩ := h
  have e1 : xor32 (xor32 (and32 s.w.a s.w.b) (and32 s.w.a s.w.c)) (and32 s.w.b s.w.c) = or32 (and32 s.w.a s.w.b) (and32 s.w.c (or32 s.w.a s.w.b)) := by
    show bw .xor .u32 (bw .xor .u32 (bw .and .u32 (s.a : Int) (s.b : Int)) (bw .and .u32 (s.a : Int) (s.c : Int))) (bw .and .u32 (s.b : Int) (s.c : Int)) = bw .or .u32 (bw .and .u32 (s.a : Int) (s.b : Int)) (bw .and .u32 (s.c : Int) (bw .or .u32 (s.a : Int) (s.b : Int)))
    have a1 := and32_nat ha hb
    have a2 := and32_nat ha hc
    have a3 := and32_nat hb hc
    have x1 := xor32_nat a1.2 a2.2
    have o1 := or32_nat ha hb
    have a4 := and32_nat hc o1.2
    rw [a1.1, a2.1, a3.1, x1.1, (xor32_nat x1.2 a3.2).1, o1.1, a4.1, (or32_nat a1.2 a4.2).1, maj_nat]
  unfold rUR roundU
  rw [e1]
theorem roundR_eq {s : V8} (h : s.ok) (k x : Int) : roundR s.w k x = roundS s.w k x := by
  unfold roundR roundS
  rw [rTR_eq h, rUR_eq h]
theorem roundsR_eq {ws : List Nat} {s : V8} (h : s.ok) : ∀ i, roundsR (castL ws) s.w i = roundsL (castL ws) s.w i
  | 0 => rfl
  | i + 1 => by
    obtain ⟨e, hok⟩ := roundsL_nat (ws := ws) h i
    simp only [roundsR, roundsL]
    rw [roundsR_eq h i, e]
    exact roundR_eq hok _ _
theorem toW8_of (s : W8) : toW8 (ofW8 s) = s := rfl
theorem add8_eq (s t : W8) : ofW8 (add8 s t) = addW (ofW8 s) (ofW8 t) 8 := rfl
theorem v8_of {s : W8} (h : ∀ x ∈ ofW8 s, rng .u32 x) : ∃ v : V8, v.ok ∧ s = v.w := by
  have k : ∀ x ∈ ofW8 s, ∃ n : Nat, B32 n ∧ x = (n : Int) := fun x hx => by
    have := h x hx rfl
    simp only [IntKind.bits] at this
    exact ⟨x.toNat, by show x.toNat < 4294967296; omega, by omega⟩
  obtain ⟨a, ha, ea⟩ := k s.a (by simp [ofW8])
  obtain ⟨b, hb, eb⟩ := k s.b (by simp [ofW8])
  obtain ⟨c, hc, ec⟩ := k s.c (by simp [ofW8])
  obtain ⟨d, hd, ed⟩ := k s.d (by simp [ofW8])
  obtain ⟨e, he, ee⟩ := k s.e (by simp [ofW8])
  obtain ⟨f, hf, ef⟩ := k s.f (by simp [ofW8])
  obtain ⟨g, hg, eg⟩ := k s.g (by simp [ofW8])
  obtain ⟨i, hi, ei⟩ := k s.h (by simp [ofW8])
  refine ⟨⟨a, b, c, d, e, f, g, i⟩, ⟨ha, hb, hc, hd, he, hf, hg, hi⟩, ?_⟩
  cases s
  simp only at ea eb ec ed ee ef eg ei
  subst ea eb ec ed ee ef eg ei
  rfl
theorem blkR_eq {s : W8} {xs : List Int} (hs : ∀ x ∈ ofW8 s, rng .u32 x) (hx : ∀ x ∈ xs, rng .u8 x) : ofW8 (blkR s xs) = stepL (ofW8 s) xs := by
  obtain ⟨v, hv, rfl⟩ := v8_of hs
  unfold blkR stepL
  rw [add8_eq, toW8_of, show (64 : Nat) = 16 + 48 from rfl, wsR_sched]
  have h8 := natL_8 hx
  have hw := schedL_nat h8.2 48
  rw [h8.1] at hw
  rw [hw.1, roundsR_eq hv]
theorem g0_fix {n j : Nat} (xs : List Int) (h : j < n) : g0 (fixL n xs) j = g0 xs j := by
  have key : ∀ (f : Nat → Int) (n i j : Nat), j < n → (tabFrom f i n).getD j 0 = f (i + j) := by
    intro f n
    induction n with
    | zero => intro i j h; omega
    | succ n ih =>
      intro i j h
      cases j with
      | zero => rfl
      | succ j =>
        simp only [tabFrom, List.getD_cons_succ]
        rw [ih (i + 1) j (by omega)]
        congr 1; omega
  have := key (fun i => xs.getD i 0) n 0 j h
  rw [Nat.zero_add] at this
  exact this
theorem loadL_fix (xs : List Int) : ∀ i, i ≤ 16 → loadL (fixL 64 xs) i = loadL xs i
  | 0, _ => rfl
  | i + 1, h => by
    simp only [loadL]
    rw [loadL_fix xs i (by omega), g0_fix _ (by omega), g0_fix _ (by omega), g0_fix _ (by omega), g0_fix _ (by omega)]
theorem schedL_fix (xs : List Int) : ∀ k, schedL (fixL 64 xs) k = schedL xs k
  | 0 => loadL_fix xs 16 (Nat.le_refl _)
  | k + 1 => by simp only [schedL]; rw [schedL_fix xs k]
theorem stepL_fix (st xs : List Int) : stepL st (fixL 64 xs) = stepL st xs := by
  unfold stepL
  rw [schedL_fix]
theorem fix_rng {n : Nat} {xs : List Int} (h : ∀ x ∈ xs, rng .u8 x) : ∀ x ∈ fixL n xs, rng .u8 x := by
  intro x hx
  obtain ⟨j, hj⟩ := List.mem_iff_getElem?.1 hx
  have hjl : j < n := by have := (List.getElem?_eq_some_iff.1 hj).1; rwa [fixL_len] at this
  have e : g0 (fixL n xs) j = x := by simp [g0, List.getD_eq_getElem?_getD, hj]
  rw [g0_fix xs hjl] at e
  rw [← e, g0, List.getD_eq_getElem?_getD]
  cases hq : xs[j]? with
  | none => exact rng_zero _
  | some y => exact h y (List.mem_of_getElem? hq)
theorem stepL_rng {st xs : List Int} (hs : ∀ x ∈ st, rng .u32 x) (hx : ∀ x ∈ xs, rng .u8 x) : ∀ x ∈ stepL st xs, rng .u32 x := by
  have h := stepL_nat (natL_32 hs).2 (natL_8 hx).2
  rw [(natL_32 hs).1, (natL_8 hx).1] at h
  rw [h.1]
  intro x hx
  simp only [castL, List.mem_map] at hx
  obtain ⟨n, hn, rfl⟩ := hx
  have := h.2 n hn
  intro _
  simp only [IntKind.bits]
  have h2 : n < 4294967296 := this
  omega
theorem blocks_eq : ∀ (m : Nat) (xs : List Int) (s : W8), (∀ x ∈ ofW8 s, rng .u32 x) → (∀ x ∈ xs, rng .u8 x) → ofW8 (blocksR m xs s) = foldB stepI m xs (ofW8 s)
  | 0, _, _, _, _ => rfl
  | m + 1, xs, s, hs, hx => by
    simp only [blocksR, foldB]
    have e1 := blkR_eq hs hx
    have e2 : stepI (ofW8 s) (fixL 64 xs) = ofW8 (blkR s xs) := by
      rw [← stepL_eq hs (fix_rng hx), stepL_fix, e1]
    rw [e2, fixL_eq (show (ofW8 (blkR s xs)).length = 8 from rfl)]
    exact blocks_eq m (xs.drop 64) (blkR s xs) (by rw [e1]; exact stepL_rng hs hx) fun x h => hx x (List.mem_of_mem_drop h)
theorem ser4_eq (x : Int) : ser4 x = seI x := by
  unfold ser4 seI
  rw [show ((2 : Int) ^ 0) = 1 from rfl, Int.fdiv_one]
theorem ser8_eq (s : W8) : ser8 s = serI (ofW8 s) := by
  unfold ser8
  simp only [ser4_eq]
  rfl
theorem padR_rng {L : Nat} (h : sumLen L = true) : ∀ x ∈ padR L (nOf L), rng .u8 x := by
  have key : ∀ L, (L = 65 ∨ L = 75 ∨ L = 76 ∨ L = 96 ∨ L = 107 ∨ L = 108 ∨ L = 109 ∨ L = 141) → (padR L (nOf L)).all (fun x => decide (0 ≤ x) && decide (x < 256)) = true := by
    intro L hL
    rcases hL with rfl | rfl | rfl | rfl | rfl | rfl | rfl | rfl <;> decide
  simp only [sumLen, Bool.or_eq_true, beq_iff_eq] at h
  have := key L (by omega)
  intro x hx _
  have h2 := List.all_eq_true.1 this x hx
  simp only [Bool.and_eq_true, decide_eq_true_eq] at h2
  simp only [IntKind.bits]
  omega
theorem sum_eq {xs : List Int} (h : sumLen xs.length = true) (hx : ∀ x ∈ xs, rng .u8 x) : sumRB xs = hsF stepI xs := by
  unfold sumRB hsF
  have hH : ∀ x ∈ ofW8 (toW8 shaH), rng .u32 x := by
    have : (ofW8 (toW8 shaH)).all (fun x => decide (0 ≤ x) && decide (x < 4294967296)) = true := by decide
    intro x hx _
    have h2 := List.all_eq_true.1 this x hx
    simp only [Bool.and_eq_true, decide_eq_true_eq] at h2
    simp only [IntKind.bits]
    omega
  rw [ser8_eq, blocks_eq _ _ _ hH fun x hx' => (List.mem_append.1 hx').elim (hx x) (padR_rng h x)]
  rfl
set_option maxRecDepth 100000
theorem bytes_of {l : List Int} (h : ∀ x ∈ l, rng .u8 x) : Bytes l := fun x hx => by
  have := h x hx rfl
  simp only [IntKind.bits] at this
  omega
theorem clamp_bytes {k : List Int} (hk : Bytes k) (hkl : k.length = 32) : Bytes (fixL 32 (XT.cl k)) := by
  have hc : fixL 32 (XT.cl k) = clampL k := by
    show fixL 32 (clF k) = _
    rw [cl_eq hk, fixL_eq]
    simp [clampL, hkl]
  rw [hc]
  exact clampL_bytes hk
theorem xI_len (k u : List Int) : (xI k u).length = 32 := leB_len _ _
theorem rx_pure {P : Program} {f : FuncId} (F : Fn P f (RxX XT) afX03) : PureOk P f (keyXV xI) := by
  refine F.plain fun nid args hp r ha hr => ?_
  unfold keyXV at hr
  split at hr <;> try (cases hr; done)
  rename_i k u
  cases hr
  obtain ⟨⟨⟨h1, h2⟩, _⟩, ⟨⟨h3, h4⟩, _⟩, _⟩ := ha
  refine ⟨rfl, rfl, rfl, ?_⟩
  rw [fixL_eq (xI_len k u), ← xV_law (bytes_of h2) h1 h3 (bytes_of h4)]
  exact x03_run XT k u (clamp_bytes (bytes_of h2) h1)
theorem ix_pure {P : Program} {f : FuncId} (F : Fn P f G8 afX) : PureOk P f (keyXV xI) := by
  refine pure_mono (x_pureI F) fun nid args hp r _ h => ?_
  unfold keyXV at h
  split at h <;> try (cases h; done)
  cases h
  rw [fixL_eq (xI_len _ _)]
  rfl
def hsI : H1 := hsF stepI
theorem sum_pureI {P : Program} {f : FuncId} (F : Fn P f Rs0 afSum) : PureOk P f (sumV hsI) := by
  refine pure_mono (sum_pure F) fun nid args hp r hok h => ?_
  unfold sumV at h ⊢
  split at h <;> try (cases h; done)
  rename_i s
  obtain ⟨xs, hc, hl, hr1⟩ := withBs_eq h
  split at hr1 <;> try (cases hr1; done)
  rename_i hL
  cases hr1
  have hx := hok.ints s (by simp) .u8 xs hc
  simp only [withBs, hc, Option.bind_some, if_pos hl, hL, if_true, sum_eq hL hx]
  rfl
set_option maxRecDepth 100000
def stepV (St : H2) : Obj1 := fun id l rest h => match l, rest with
  | [.ints .u32 8 st, .isl .u32 ks, .ints .u8 64 re, .int .i64 n], [v] =>
    if ks = shaK then (match v with
      | .slice i 9 0 64 0 (some 64) => if i = id then some (.tuple [], hashB (fixL 8 (St st (fixL 64 re))) re n) else (contI .u8 h v).bind fun xs => if 64 ≤ xs.length then some (.tuple [], hashB (fixL 8 (St st (fixL 64 xs))) re n) else none
      | v => if (avIds v).contains id then none else (contI .u8 h v).bind fun xs => if 64 ≤ xs.length then some (.tuple [], hashB (fixL 8 (St st (fixL 64 xs))) re n) else none) else none
  | _, _ => none
section
variable (St : H2)
def IkSV : Env := envAdd id_sha_Hash_step (.full (objO (stepV St))) E_sha_New
def IkWV : Env := envAdd id_sha_Hash_write (inl (IkSV St) af_sha_Hash_write) (IkSV St)
def IkCV : Env := envAdd id_sha_Hash_Copy (inl (IkWV St) af_sha_Hash_Copy) (IkWV St)
def IkPV : Env := envAdd id_sha_Pad (pin (IkCV St) af_sha_Pad) (IkCV St)
def IkUV : Env := envAdd id_sha_Hash_Sum (inl (IkPV St) af_sha_Hash_Sum) (IkPV St)
def IkVV : Env := envAdd id_sha_Hash_Write (inl (IkUV St) af_sha_Hash_Write) (IkUV St)
def IkGV : Env := envAdd id_kdf_Hmac_1 (inl (IkVV St) af_kdf_Hmac_1) (IkVV St)
end
def ihRun1 (St : H2) (f g : Nat → Int) : Prop := evFn (IkGV St) af_kdf_Hmac [.slice 0 0 0 32 0 (some 32), .slice 1 0 0 1 1 (some 1)] ⟨16, toC 0 [.segs [.ints .u8 32 (tab 32 f)], .segs [.slice 2 0 0 1 0 (some 1)], .segs [.ints .u8 1 (tab 1 g)]]⟩ kV =
  some (key (hmF (hsF St) (tab 32 f) (tab 1 g)), ⟨0, []⟩)
def ihRun2 (St : H2) (n : Nat) (f i g : Nat → Int) : Prop := evFn (IkGV St) af_kdf_Hmac [.slice 0 0 0 32 0 (some 32), .slice 1 0 0 3 1 (some 3)] ⟨16, toC 0 [.segs [.ints .u8 32 (tab 32 f)], .segs [.nils, .slice 2 0 0 n 0 none, .slice 3 0 0 1 0 (some 1)], .segs [.ints .u8 n (tab n i)], .segs [.ints .u8 1 (tab 1 g)]]⟩ kV =
  some (key (hmF (hsF St) (tab 32 f) (tab n i ++ tab 1 g)), ⟨0, []⟩)
def ihRun3 (St : H2) (n : Nat) (f l i g : Nat → Int) : Prop := evFn (IkGV St) af_kdf_Hmac [.slice 0 0 0 32 0 (some 32), .slice 1 0 0 3 1 (some 3)] ⟨16, toC 0 [.segs [.ints .u8 32 (tab 32 f)], .segs [.slice 2 0 0 32 0 (some 32), .slice 3 0 0 n 0 none, .slice 4 0 0 1 0 (some 1)], .segs [.ints .u8 32 (tab 32 l)], .segs [.ints .u8 n (tab n i)], .segs [.ints .u8 1 (tab 1 g)]]⟩ kV =
  some (key (hmF (hsF St) (tab 32 f) (tab 32 l ++ tab n i ++ tab 1 g)), ⟨0, []⟩)
end Go.Am
