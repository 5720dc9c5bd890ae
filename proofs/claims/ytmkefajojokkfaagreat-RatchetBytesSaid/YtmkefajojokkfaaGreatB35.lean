/- RatchetBytes: part 36 of 39 of its proof. -/
import Derived.Test.YtmkefajojokkfaaGreatB34
import Derived.Laws.Externs
import Derived.Test.YtmkefajojokkfaaGreatChecked
set_option linter.unusedVariables false
set_option linter.unusedSimpArgs false
/- A ratchet's bytes, there and back: in plain lists. -/
namespace Go.Am
set_option linter.unusedSimpArgs false
set_option maxRecDepth 100000
theorem rawB_mid {bs A X B : List Int} {a n : Nat} (h : bs = A ++ X ++ B) (ha : A.length = a) (hn : X.length = n) : rawB bs a n = X := by
  subst h ha hn
  simp [rawB]
theorem or_add {x y k : Nat} (h : x < 2 ^ k) : x ||| (y * 2 ^ k) = x + y * 2 ^ k := by
  have := Nat.two_pow_add_eq_or_of_lt h y
  rw [Nat.mul_comm y, Nat.or_comm, ← this, Nat.add_comm]
theorem w64_nat (n : Nat) : w64 (n : Int) = ((n % 18446744073709551616 : Nat) : Int) := by
  rw [w64, wrap_u64]; omega
theorem w8_nat (n : Nat) : w8 (n : Int) = ((n % 256 : Nat) : Int) := by
  rw [w8, wrap_u8]; omega
theorem or64_nat {x y : Nat} (hx : x < 2 ^ 64) (hy : y < 2 ^ 64) : bw .or .u64 (x : Int) (y : Int) = ((x ||| y : Nat) : Int) := bw_nat .or .u64 rfl x y hx hy
theorem getS_step (x c k : Nat) (hx : x < 2 ^ k) (hc : c < 256) (hk : k ≤ 24) : bw .or .u64 (x : Int) (w64 (w64 (c : Int) * 2 ^ (min k 64))) = ((x + c * 2 ^ k : Nat) : Int) ∧ x + c * 2 ^ k < 2 ^ (k + 8) := by
  have hp : 2 ^ k ≤ 2 ^ 24 := Nat.pow_le_pow_right (by decide) hk
  have hc2 : c * 2 ^ k < 256 * 2 ^ k := Nat.mul_lt_mul_of_pos_right hc (Nat.pow_pos (by decide))
  have e : 2 ^ (k + 8) = 256 * 2 ^ k := by rw [Nat.pow_add]; omega
  have hlt : x + c * 2 ^ k < 2 ^ (k + 8) := by
    rw [e]
    have : (c + 1) * 2 ^ k ≤ 256 * 2 ^ k := Nat.mul_le_mul_right _ hc
    rw [Nat.add_mul] at this
    omega
  rw [Nat.min_eq_left (by omega), w64_nat, Nat.mod_eq_of_lt (by omega)]
  rw [show ((c : Int) * 2 ^ k) = ((c * 2 ^ k : Nat) : Int) by simp, w64_nat, Nat.mod_eq_of_lt (by omega), or64_nat (by omega) (by omega), or_add hx]
  exact ⟨rfl, hlt⟩
theorem u32B_nat (a b c d : Nat) (ha : a < 256) (hb : b < 256) (hc : c < 256) (hd : d < 256) : u32B [(a : Int), b, c, d] = ((a + b * 256 + c * 65536 + d * 16777216 : Nat) : Int) := by
  have h0 := getS_step 0 a 0 (by decide) ha (by decide)
  have h1 := getS_step (0 + a * 2 ^ 0) b 8 h0.2 hb (by decide)
  have h2 := getS_step (0 + a * 2 ^ 0 + b * 2 ^ 8) c 16 h1.2 hc (by decide)
  have h3 := getS_step (0 + a * 2 ^ 0 + b * 2 ^ 8 + c * 2 ^ 16) d 24 h2.2 hd (by decide)
  have e : getS [(a : Int), b, c, d] 0 0 = ((0 + a * 2 ^ 0 + b * 2 ^ 8 + c * 2 ^ 16 + d * 2 ^ 24 : Nat) : Int) := by
    rw [← h3.1, ← h2.1, ← h1.1, ← h0.1]
    rfl
  show w32 (getS [(a : Int), b, c, d] 0 0) = _
  rw [e, w32_nat, Nat.mod_eq_of_lt (by omega)]
  omega
theorem shB_nat (n : Nat) : shB (n : Int) = ((n / 256 : Nat) : Int) := by
  rw [shB, fdiv_nat]
theorem le4_nat (n : Nat) (h : n < 4294967296) : le4 (w64 (n : Int)) = [((n % 256 : Nat) : Int), ((n / 256 % 256 : Nat) : Int), ((n / 256 / 256 % 256 : Nat) : Int), ((n / 256 / 256 / 256 % 256 : Nat) : Int)] := by
  rw [w64_nat, Nat.mod_eq_of_lt (by omega)]
  simp only [le4, shB_nat, w8_nat]
theorem rng32 {x : Int} (h : rng .u32 x) : ∃ n : Nat, n < 4294967296 ∧ x = (n : Int) := by
  have := h rfl
  simp only [IntKind.bits] at this
  exact ⟨x.toNat, by omega, by omega⟩
theorem u32B_le4 {x : Int} (h : rng .u32 x) : u32B (le4 (w64 x)) = x := by
  obtain ⟨n, hn, rfl⟩ := rng32 h
  rw [le4_nat n hn, u32B_nat _ _ _ _ (Nat.mod_lt _ (by decide)) (Nat.mod_lt _ (by decide)) (Nat.mod_lt _ (by decide)) (Nat.mod_lt _ (by decide))]
  congr 1
  omega
theorem le4_u32B {l : List Int} (hl : l.length = 4) (hr : ∀ x ∈ l, rng .u8 x) : le4 (w64 (u32B l)) = l := by
  match l, hl with
  | [a, b, c, d], _ =>
    obtain ⟨a, ha, rfl⟩ := rng8 (hr a (by simp))
    obtain ⟨b, hb, rfl⟩ := rng8 (hr b (by simp))
    obtain ⟨c, hc, rfl⟩ := rng8 (hr c (by simp))
    obtain ⟨d, hd, rfl⟩ := rng8 (hr d (by simp))
    rw [u32B_nat a b c d ha hb hc hd, le4_nat _ (by omega)]
    simp only [List.cons.injEq, Int.natCast_inj, and_true]
    omega
theorem u32B_rng {l : List Int} (hl : l.length = 4) (hr : ∀ x ∈ l, rng .u8 x) : rng .u32 (u32B l) := by
  match l, hl with
  | [a, b, c, d], _ =>
    obtain ⟨a, ha, rfl⟩ := rng8 (hr a (by simp))
    obtain ⟨b, hb, rfl⟩ := rng8 (hr b (by simp))
    obtain ⟨c, hc, rfl⟩ := rng8 (hr c (by simp))
    obtain ⟨d, hd, rfl⟩ := rng8 (hr d (by simp))
    rw [u32B_nat a b c d ha hb hc hd]
    intro _
    simp only [IntKind.bits]
    omega
theorem skEq_eq {s t : Sk} : skEq s t = true ↔ s = t := by
  cases s; cases t
  simp [skEq]
theorem skEq_self (s : Sk) : skEq s s = true := skEq_eq.2 rfl
/-! ## Put, then Get -/
def restN (r : Rat) (ss : List Sk) : Nat → Nat → List Int
  | _, 0 => []
  | i, j + 1 => skB (skAt ss i) ++ restN r ss (i + 1) j
theorem putN_rest (r : Rat) (ss : List Sk) : ∀ (j i : Nat), putN r ss (i + j) = putN r ss i ++ restN r ss i j
  | 0, i => by simp [restN]
  | j + 1, i => by
    rw [restN, ← List.append_assoc, show putN r ss i ++ skB (skAt ss i) = putN r ss (i + 1) from rfl, ← putN_rest r ss j (i + 1)]
    congr 1
    omega
theorem rowB_put {r : Rat} {ss : List Sk} (h : RatOk r) (hs : ∀ s ∈ ss, SkOk s) (i : Nat) (hi : i < 8) : rowB (putB r ss) (173 + 68 * i) = skAt ss i := by
  have e : putB r ss = putN r ss i ++ skB (skAt ss i) ++ restN r ss (i + 1) (7 - i) := by
    have := putN_rest r ss (8 - i) i
    rw [show i + (8 - i) = 8 by omega, show 8 - i = (7 - i) + 1 by omega] at this
    rw [putB, this, restN, List.append_assoc]
  have hl := putN_len h hs i
  obtain ⟨h1, h2, _, h4, _⟩ := skAt_ok hs i
  generalize hA : putN r ss i = A at *
  generalize hB : restN r ss (i + 1) (7 - i) = B at *
  have e1 : rawB (putB r ss) (173 + 68 * i) 32 = (skAt ss i).key := rawB_mid (A := A) (B := le4 (w64 (skAt ss i).num) ++ (skAt ss i).sec ++ B) (by rw [e, skB]; simp only [List.append_assoc]) hl h1
  have e2 : rawB (putB r ss) (173 + 68 * i + 32) 4 = le4 (w64 (skAt ss i).num) := rawB_mid (A := A ++ (skAt ss i).key) (B := (skAt ss i).sec ++ B) (by rw [e, skB]; simp only [List.append_assoc]) (by simp [hl, h1]) rfl
  have e3 : rawB (putB r ss) (173 + 68 * i + 32 + 4) 32 = (skAt ss i).sec := rawB_mid (A := A ++ (skAt ss i).key ++ le4 (w64 (skAt ss i).num)) (B := B) (by rw [e, skB]; simp only [List.append_assoc]) (by simp [hl, h1, le4_len]) h2
  rw [rowB, e1, e2, e3, u32B_le4 h4]
theorem putB_len {r : Rat} {ss : List Sk} (h : RatOk r) (hs : ∀ s ∈ ss, SkOk s) : (putB r ss).length = 717 := putN_len h hs 8
theorem gtRat_put {r : Rat} {ss : List Sk} (h : RatOk r) : gtRat (putB r ss) 0 = r ∧ gtNum (putB r ss) = w8 ss.length := by
  have e : putB r ss = headB r ss.length ++ restN r ss 0 8 := by
    have := putN_rest r ss 8 0
    rw [Nat.zero_add] at this
    exact this
  generalize restN r ss 0 8 = B at e
  simp only [headB] at e
  have hh := h
  obtain ⟨l1, l2, l3, l4, l5, _, _, _, _, _, s1, s2, s3⟩ := h
  have e1 : rawB (putB r ss) 0 32 = r.root := rawB_mid (A := []) (B := r.own ++ r.peer ++ r.send ++ r.recv ++ le4 (w64 r.sent) ++ le4 (w64 r.got) ++ le4 (w64 r.bef) ++ [w8 ss.length] ++ B) (by rw [e]; simp only [List.append_assoc, List.nil_append]) rfl l1
  have e2 : rawB (putB r ss) 32 32 = r.own := rawB_mid (A := r.root) (B := r.peer ++ r.send ++ r.recv ++ le4 (w64 r.sent) ++ le4 (w64 r.got) ++ le4 (w64 r.bef) ++ [w8 ss.length] ++ B) (by rw [e]; simp only [List.append_assoc]) l1 l2
  have e3 : rawB (putB r ss) 64 32 = r.peer := rawB_mid (A := r.root ++ r.own) (B := r.send ++ r.recv ++ le4 (w64 r.sent) ++ le4 (w64 r.got) ++ le4 (w64 r.bef) ++ [w8 ss.length] ++ B) (by rw [e]; simp only [List.append_assoc]) (by simp [l1, l2]) l3
  have e4 : rawB (putB r ss) 96 32 = r.send := rawB_mid (A := r.root ++ r.own ++ r.peer) (B := r.recv ++ le4 (w64 r.sent) ++ le4 (w64 r.got) ++ le4 (w64 r.bef) ++ [w8 ss.length] ++ B) (by rw [e]; simp only [List.append_assoc]) (by simp [l1, l2, l3]) l4
  have e5 : rawB (putB r ss) 128 32 = r.recv := rawB_mid (A := r.root ++ r.own ++ r.peer ++ r.send) (B := le4 (w64 r.sent) ++ le4 (w64 r.got) ++ le4 (w64 r.bef) ++ [w8 ss.length] ++ B) (by rw [e]; simp only [List.append_assoc]) (by simp [l1, l2, l3, l4]) l5
  have e6 : rawB (putB r ss) 160 4 = le4 (w64 r.sent) := rawB_mid (A := r.root ++ r.own ++ r.peer ++ r.send ++ r.recv) (B := le4 (w64 r.got) ++ le4 (w64 r.bef) ++ [w8 ss.length] ++ B) (by rw [e]; simp only [List.append_assoc]) (by simp [l1, l2, l3, l4, l5]) rfl
  have e7 : rawB (putB r ss) 164 4 = le4 (w64 r.got) := rawB_mid (A := r.root ++ r.own ++ r.peer ++ r.send ++ r.recv ++ le4 (w64 r.sent)) (B := le4 (w64 r.bef) ++ [w8 ss.length] ++ B) (by rw [e]; simp only [List.append_assoc]) (by simp [l1, l2, l3, l4, l5, le4_len]) rfl
  have e8 : rawB (putB r ss) 168 4 = le4 (w64 r.bef) := rawB_mid (A := r.root ++ r.own ++ r.peer ++ r.send ++ r.recv ++ le4 (w64 r.sent) ++ le4 (w64 r.got)) (B := [w8 ss.length] ++ B) (by rw [e]; simp only [List.append_assoc]) (by simp [l1, l2, l3, l4, l5, le4_len]) rfl
  refine ⟨?_, ?_⟩
  · show Rat.mk (rawB (putB r ss) 0 32) (rawB (putB r ss) 32 32) (rawB (putB r ss) 64 32) (rawB (putB r ss) 96 32) (rawB (putB r ss) 128 32) (u32B (rawB (putB r ss) 160 4)) (u32B (rawB (putB r ss) 164 4)) (u32B (rawB (putB r ss) 168 4)) = r
    rw [e1, e2, e3, e4, e5, e6, e7, e8, u32B_le4 s1, u32B_le4 s2, u32B_le4 s3]
  · rw [gtNum, e, List.getD_eq_getElem?_getD]
    have hl : (r.root ++ r.own ++ r.peer ++ r.send ++ r.recv ++ le4 (w64 r.sent) ++ le4 (w64 r.got) ++ le4 (w64 r.bef)).length = 172 := by simp [l1, l2, l3, l4, l5, le4_len]
    rw [List.append_assoc, List.getElem?_append_right (by omega), hl]
    rfl
theorem gtFrom_put {bs : List Int} {ss : List Sk} (hn : ss.length ≤ 8) (hrow : ∀ i, i < 8 → rowB bs (173 + 68 * i) = skAt ss i) : ∀ (j i : Nat), i + j = 8 → gtFrom bs (ss.length : Int) j i (ss.take i) = some ss
  | 0, i, h => by rw [gtFrom, List.take_of_length_le (by omega)]
  | j + 1, i, h => by
    simp only [gtFrom]
    rw [hrow i (by omega)]
    by_cases hlt : i < ss.length
    · rw [decide_eq_true (by omega), cond_true]
      have : ss.take i ++ [skAt ss i] = ss.take (i + 1) := by
        rw [skAt, List.getD_eq_getElem?_getD, List.getElem?_eq_getElem hlt, List.take_add_one]
        simp [hlt]
      rw [this]
      exact gtFrom_put hn hrow j (i + 1) (by omega)
    · have hz : skAt ss i = zeroSk := by rw [skAt, List.getD_eq_getElem?_getD, List.getElem?_eq_none_iff.2 (by omega)]; rfl
      rw [decide_eq_false (by omega), cond_false, hz, skEq_self]
      simp only [Bool.not_true, cond_false]
      rw [show ss.take i = ss.take (i + 1) by rw [List.take_of_length_le (by omega), List.take_of_length_le (by omega)]]
      exact gtFrom_put hn hrow j (i + 1) (by omega)
theorem checkI_le {r : Rat} {ss : List Sk} (h : checkI r ss = 0) : ss.length ≤ 8 := by
  unfold checkI at h
  cases hd : decide ((ss.length : Int) > 8)
  · have := of_decide_eq_false hd; omega
  · rw [hd] at h; cases h
theorem get_put {r : Rat} {ss : List Sk} (h : RatOk r) (hs : ∀ s ∈ ss, SkOk s) (hc : checkI r ss = 0) : getR (putB r ss) = okR r ss := by
  have hl := putB_len h hs
  have h8 := checkI_le hc
  obtain ⟨h1, h2⟩ := gtRat_put (ss := ss) h
  have h3 : w8 (ss.length : Int) = (ss.length : Int) := by rw [w8_nat, Nat.mod_eq_of_lt (by omega)]
  rw [getR, hl, show (((717 : Nat) : Int) != 717) = false by decide, cond_false, h1, h2, h3]
  have := gtFrom_put h8 (rowB_put h hs) 8 0 (by omega)
  rw [List.take_zero] at this
  rw [this, gtFin, decide_eq_false (by omega), cond_false, hc]
  rfl
/-! ## Get, then Put -/
theorem rawB_rng {bs : List Int} (hr : ∀ x ∈ bs, rng .u8 x) (a n : Nat) : ∀ x ∈ rawB bs a n, rng .u8 x := fun x hx => hr x (List.mem_of_mem_drop (List.mem_of_mem_take hx))
theorem rawB_add {bs : List Int} (a n m : Nat) (h : a + n + m ≤ bs.length) : rawB bs a n ++ rawB bs (a + n) m = rawB bs a (n + m) := by
  simp only [rawB]
  rw [List.take_add, List.drop_drop]
theorem skB_row {bs : List Int} (hr : ∀ x ∈ bs, rng .u8 x) (a : Nat) (h : a + 68 ≤ bs.length) : skB (rowB bs a) = rawB bs a 68 := by
  rw [skB, rowB]
  simp only
  rw [le4_u32B (rawB_len (by omega)) (rawB_rng hr _ _), rawB_add _ _ _ (by omega), show a + 32 + 4 = a + (32 + 4) by omega, rawB_add _ _ _ (by omega)]
theorem row_ok {bs : List Int} (hr : ∀ x ∈ bs, rng .u8 x) (a : Nat) (h : a + 68 ≤ bs.length) : SkOk (rowB bs a) :=
  ⟨rawB_len (by omega), rawB_len (by omega), rawB_rng hr _ _, u32B_rng (rawB_len (by omega)) (rawB_rng hr _ _), rawB_rng hr _ _⟩
theorem gtFrom_inv {bs : List Int} {n : Nat} : ∀ (j i : Nat) (ss ss' : List Sk), i + j = 8 → ss.length = min i n → (∀ k, k < i → skAt ss k = rowB bs (173 + 68 * k)) → gtFrom bs (n : Int) j i ss = some ss' →
    ss'.length = min 8 n ∧ ∀ k, k < 8 → skAt ss' k = rowB bs (173 + 68 * k)
  | 0, i, ss, ss', hi, hl, hk, h => by
    cases h
    obtain rfl : i = 8 := by omega
    exact ⟨hl, hk⟩
  | j + 1, i, ss, ss', hi, hl, hk, h => by
    simp only [gtFrom] at h
    by_cases hlt : i < n
    · rw [decide_eq_true (by omega), cond_true] at h
      have hli : ss.length = i := by omega
      refine gtFrom_inv j (i + 1) _ ss' (by omega) (by simp; omega) (fun k hk' => ?_) h
      rw [skAt, List.getD_eq_getElem?_getD]
      by_cases hki : k < i
      · rw [List.getElem?_append_left (by omega), ← List.getD_eq_getElem?_getD]
        exact hk k hki
      · obtain rfl : k = i := by omega
        rw [List.getElem?_append_right (by omega), hli, Nat.sub_self]
        rfl
    · rw [decide_eq_false (by omega), cond_false] at h
      cases hz : skEq (rowB bs (173 + 68 * i)) zeroSk
      · rw [hz] at h; cases h
      · rw [hz] at h
        simp only [Bool.not_true, cond_false] at h
        refine gtFrom_inv j (i + 1) ss ss' (by omega) (by omega) (fun k hk' => ?_) h
        by_cases hki : k < i
        · exact hk k hki
        · obtain rfl : k = i := by omega
          rw [skEq_eq.1 hz, skAt, List.getD_eq_getElem?_getD, List.getElem?_eq_none_iff.2 (by omega)]
          rfl
theorem putN_get {bs : List Int} {ss : List Sk} (hr : ∀ x ∈ bs, rng .u8 x) (hl : bs.length = 717) (h8 : ss.length = (bs.getD 172 0).toNat) (hk : ∀ k, k < 8 → skAt ss k = rowB bs (173 + 68 * k)) : ∀ i, i ≤ 8 → putN (gtRat bs 0) ss i = rawB bs 0 (173 + 68 * i)
  | 0, _ => by
    have hx : bs[172]? = some (bs.getD 172 0) := by
      have : 172 < bs.length := by omega
      simp [List.getD_eq_getElem?_getD, this]
    have hb : rng .u8 (bs.getD 172 0) := by
      rw [List.getD_eq_getElem?_getD, List.getElem?_eq_getElem (by omega)]
      exact hr _ (List.getElem_mem _)
    obtain ⟨n, hn1, hn2⟩ := rng8 hb
    have e : w8 (ss.length : Int) = bs.getD 172 0 := by
      rw [h8, hn2, Int.toNat_natCast, w8_nat, Nat.mod_eq_of_lt hn1]
    have e2 : [bs.getD 172 0] = rawB bs 172 1 := by
      rw [rawB]
      have : 172 < bs.length := by omega
      rw [List.drop_eq_getElem_cons this, List.take_succ_cons, List.take_zero, List.getD_eq_getElem?_getD, List.getElem?_eq_getElem this]
      rfl
    show headB (gtRat bs 0) ss.length = _
    rw [headB, e, e2]
    show rawB bs 0 32 ++ rawB bs 32 32 ++ rawB bs 64 32 ++ rawB bs 96 32 ++ rawB bs 128 32 ++ le4 (w64 (u32B (rawB bs 160 4))) ++ le4 (w64 (u32B (rawB bs 164 4))) ++ le4 (w64 (u32B (rawB bs 168 4))) ++ rawB bs 172 1 = _
    rw [le4_u32B (rawB_len (by omega)) (rawB_rng hr _ _), le4_u32B (rawB_len (by omega)) (rawB_rng hr _ _), le4_u32B (rawB_len (by omega)) (rawB_rng hr _ _)]
    rw [rawB_add 0 32 32 (by omega), rawB_add 0 (32 + 32) 32 (by omega), rawB_add 0 (32 + 32 + 32) 32 (by omega), rawB_add 0 (32 + 32 + 32 + 32) 32 (by omega), rawB_add 0 (32 + 32 + 32 + 32 + 32) 4 (by omega), rawB_add 0 (32 + 32 + 32 + 32 + 32 + 4) 4 (by omega), rawB_add 0 (32 + 32 + 32 + 32 + 32 + 4 + 4) 4 (by omega), rawB_add 0 (32 + 32 + 32 + 32 + 32 + 4 + 4 + 4) 1 (by omega)]
  | i + 1, hi => by
    rw [putN, putN_get hr hl h8 hk i (by omega), hk i (by omega), skB_row hr _ (by omega)]
    have := rawB_add (bs := bs) 0 (173 + 68 * i) 68 (by omega)
    rw [Nat.zero_add] at this
    rw [this]
    congr 1
theorem gtRat_ok {bs : List Int} (hr : ∀ x ∈ bs, rng .u8 x) (hl : bs.length = 717) : RatOk (gtRat bs 0) :=
  ⟨rawB_len (by omega), rawB_len (by omega), rawB_len (by omega), rawB_len (by omega), rawB_len (by omega), rawB_rng hr _ _, rawB_rng hr _ _, rawB_rng hr _ _, rawB_rng hr _ _, rawB_rng hr _ _,
    u32B_rng (rawB_len (by omega)) (rawB_rng hr _ _), u32B_rng (rawB_len (by omega)) (rawB_rng hr _ _), u32B_rng (rawB_len (by omega)) (rawB_rng hr _ _)⟩
/-- What bytes tell: no ratchet, or one. -/
theorem get_cases {bs : List Int} (hr : ∀ x ∈ bs, rng .u8 x) : (getR bs = errR 240) ∨ (getR bs = errR 270) ∨ ∃ r ss, getR bs = okR r ss ∧ RatOk r ∧ (∀ s ∈ ss, SkOk s) ∧ checkI r ss = 0 ∧ putB r ss = bs := by
  unfold getR
  by_cases hl : bs.length = 717
  · rw [show ((bs.length : Int) != 717) = false by simp; omega, cond_false]
    right
    have hb : rng .u8 (gtNum bs) := by
      rw [gtNum, List.getD_eq_getElem?_getD, List.getElem?_eq_getElem (by omega)]
      exact hr _ (List.getElem_mem _)
    obtain ⟨n, hn1, hn2⟩ := rng8 hb
    rw [hn2]
    cases hg : gtFrom bs (n : Int) 8 0 [] with
    | none => exact .inl rfl
    | some ss =>
      obtain ⟨h1, h2⟩ := gtFrom_inv 8 0 [] ss (by omega) (by simp) (fun k hk => by omega) hg
      simp only [gtFin]
      by_cases h8 : (n : Int) > 8
      · rw [decide_eq_true h8, cond_true]; exact .inl rfl
      · rw [decide_eq_false h8, cond_false]
        cases hc : checkI (gtRat bs 0) ss != 0
        · right
          refine ⟨gtRat bs 0, ss, rfl, gtRat_ok hr hl, fun s hs => ?_, by simpa using hc, ?_⟩
          · obtain ⟨i, hi⟩ := List.mem_iff_getElem?.1 hs
            have hil := (List.getElem?_eq_some_iff.1 hi).1
            have : skAt ss i = s := by rw [skAt, List.getD_eq_getElem?_getD, hi]; rfl
            rw [← this, h2 i (by omega)]
            exact row_ok hr _ (by omega)
          · have := putN_get hr hl (ss := ss) (by have : bs.getD 172 0 = (n : Int) := hn2; rw [this, h1]; omega) h2 8 (by omega)
            rw [putB, this, rawB, List.drop_zero, List.take_of_length_le (by omega)]
        · exact .inl rfl
  · left
    rw [show ((bs.length : Int) != 717) = true by simp; omega, cond_true]
end Go.Am
/- RatchetBack, run. -/
namespace Go.Am
set_option linter.unusedSimpArgs false
set_option maxRecDepth 100000
/-- What Get tells, to what comes behind it. -/
def getK {β : Type} (xs : List Int) (no : Int → β) (yes : Rat → List Sk → β) : β :=
  bif (xs.length : Int) != 717 then no 240 else match gtFrom xs (gtNum xs) 8 0 [] with
    | none => no 270
    | some ss => bif decide (gtNum xs > 8) then no 270 else bif checkI (gtRat xs 0) ss != 0 then no 270 else yes (gtRat xs 0) ss
theorem getR_K (xs : List Int) : getR xs = getK xs errR okR := by
  unfold getR getK gtFin
  cases (xs.length : Int) != 717
  · simp only [cond_false]
    cases gtFrom xs (gtNum xs) 8 0 [] <;> rfl
  · rfl
def noV (e : Int) : AV := .tuple [.agg (zeroRat.segs .nils), .int .i64 e]
def okV (r : Rat) (ss : List Sk) : AV := .tuple [.agg (r.segs (.islR 65 (ss.map skR))), .int .i64 0]
theorem getK_map {β γ : Type} {xs : List Int} {a : Int → β} {b : Rat → List Sk → β} {g : β → γ} : g (getK xs a b) = getK xs (fun e => g (a e)) (fun r ss => g (b r ss)) := by
  unfold getK
  cases (xs.length : Int) != 717
  · simp only [cond_false]
    cases gtFrom xs (gtNum xs) 8 0 [] with
    | none => rfl
    | some ss =>
      simp only []
      cases decide (gtNum xs > 8)
      · simp only [cond_false]
        cases checkI (gtRat xs 0) ss != 0 <;> rfl
      · rfl
  · rfl
def rgetO : OrcP := fun _ args h => match args with
  | [s] => withBs h s fun xs => some (getK xs noV okV, none)
  | _ => none
theorem rget_pure {P : Program} {f : FuncId} (F : Fn P f Gt0 afGet) : PureOk P f rgetO := by
  refine F.lit [.sl (.ints .u8)] none fun nid args hp r ha hr => ?_
  unfold rgetO at hr
  split at hr <;> try (cases hr; done)
  rename_i s
  obtain ⟨xs, hc, hl, hr1⟩ := withBs_eq hr
  cases hr1
  refine ⟨_, _, by simp only [viewArgs, contI_isSl hc, if_true, viewS_ints hc, Option.bind_some, Option.map_some]; rfl, by simp, ?_⟩
  refine (gt_run nid xs (ha.ints s (by simp) _ _ hc)).trans ?_
  rw [getR_K]
  exact (getK_map (g := fun v => some (v, encB nid none)) (a := noV) (b := okV)).symm
def rgetC : OrcF := fun args h κ => match args with
  | [s] => withBs h s fun xs => getK xs (fun e => κ (noV e) h) (fun r ss => κ (okV r ss) h)
  | _ => none
theorem rget_full {P : Program} {f : FuncId} (h : PureOk P f rgetO) : FullOk P f rgetC := by
  refine pure_full h fun args hp κ => ?_
  unfold rgetC rgetO
  split
  · simp only [withBs_map, Option.bind_some, obH]
    congr 1
    funext xs
    exact (getK_map (g := fun v => κ v hp)).symm
  · first
    | rfl
    | (rename_i hx
       split
       · exact (hx _ rfl).elim
       · rfl)
def wakesC : OrcF := fun args h κ => match args with
  | [] => κ (.bool true) h
  | _ => none
theorem wakes_full {P : Program} {f : FuncId} (h : PureOk P f wakesO) : FullOk P f wakesC := by
  refine pure_full h fun args hp κ => ?_
  unfold wakesC wakesO
  split
  · rfl
  · first
    | rfl
    | (rename_i hx
       split
       · exact (hx rfl).elim
       · rfl)
def Lw0 : Env := envAdd id_hollowtreelaw17_wakes (.full wakesC) (envAdd id_ratchet_Put (.full rputC) (envAdd id_ratchet_Get (.full rgetC) (envAdd id_ratchet_Same (.full rsameC) (envAdd id_octet_Equal (.full bytesEqC) G10))))
def wSk (xs : List (List AV)) (k : List Sk → Option Res) : Option Res := (skAll xs).bind fun ss => if ss.length ≤ 1152921504606846976 then k ss else none
def wBs (xs : List Int) (k : Option Res) : Option Res := if xs.length ≤ 140737488351232 then k else none
def back2 (m : Nat) (bs : List Int) : Option Res :=
  wBs (ysOf bs m) (getK (ysOf bs m) (fun _ => yes (sameB zeroRat zeroRat [] [])) (fun r' ss' => wSk (ss'.map skR) fun s2 => bif checkI r' s2 != 0 then yes false else wBs (ysOf bs m) (wBs (putB r' s2) (yes (ysOf bs m == putB r' s2)))))
def backH (len m : Nat) (xs : List (List AV)) (bs : List Int) : Am.Heap := ⟨16, [roC 0 (.rows 65 len xs), roC 1 (.segs [.ints .u8 m bs])]⟩
theorem back_run1 (r : Rat) (len m : Nat) (xs : List (List AV)) (bs : List Int) : evFn Lw0 af_hollowtreelaw17_RatchetBack [.agg (r.segs (sl65 0 len)), slB 1 m] (backH len m xs bs) kV =
    wSk ((xs.drop 0).take len) fun ss => bif checkI r ss != 0 then back2 m bs else wBs (putB r ss) (getK (putB r ss) (fun _ => yes false) fun r1 ss1 =>
      wSk ((xs.drop 0).take len) fun sa => wSk (ss1.map skR) fun sb => bif !(sameB r r1 sa sb) then yes false else bif ((putB r ss).length : Int) != 717 then yes false else back2 m bs) := by kernel_rfl
def getV (bs : List Int) : Int ⊕ (Rat × List Sk) := getK bs .inl fun r ss => .inr (r, ss)
def elimV {β : Type} (a : Int → β) (b : Rat → List Sk → β) : Int ⊕ (Rat × List Sk) → β
  | .inl e => a e
  | .inr p => b p.1 p.2
theorem getK_V {β : Type} (bs : List Int) (a : Int → β) (b : Rat → List Sk → β) : getK bs a b = elimV a b (getV bs) := (getK_map (xs := bs) (a := Sum.inl) (b := fun r ss => Sum.inr (r, ss)) (g := elimV a b)).symm
theorem skR_inj : ∀ {a b : List Sk}, a.map skR = b.map skR → a = b
  | [], [], _ => rfl
  | s :: r, t :: u, h => by
    simp only [List.map_cons, List.cons.injEq] at h
    obtain ⟨h1, h2⟩ := h
    cases s; cases t
    simp only [skR, List.cons.injEq, AV.ints.injEq, AV.int.injEq, true_and, and_true] at h1
    obtain ⟨rfl, rfl, rfl⟩ := h1
    rw [skR_inj h2]
  | [], _ :: _, h => by cases h
  | _ :: _, [], h => by cases h
theorem okR_inj {r r' : Rat} {ss ss' : List Sk} (h : okR r ss = okR r' ss') : r = r' ∧ ss = ss' := by
  simp only [okR, Rat.segs, Option.some.injEq, Prod.mk.injEq, AV.tuple.injEq, AV.agg.injEq, List.cons.injEq, AV.ints.injEq, AV.int.injEq, AV.islR.injEq, true_and, and_true] at h
  obtain ⟨h1, h2, h3, h4, h5, h6, h7, h8, h9⟩ := h
  cases r; cases r'
  simp only at h1 h2 h3 h4 h5 h6 h7 h8
  subst h1 h2 h3 h4 h5 h6 h7 h8
  exact ⟨rfl, skR_inj h9⟩
theorem errR_okR {e : Int} {r : Rat} {ss : List Sk} : errR e ≠ okR r ss := by
  intro h
  simp [errR, okR, Rat.segs] at h
theorem getV_put {r : Rat} {ss : List Sk} (h : RatOk r) (hs : ∀ s ∈ ss, SkOk s) (hc : checkI r ss = 0) : getV (putB r ss) = .inr (r, ss) := by
  have e := get_put h hs hc
  rw [getR_K, getK_V] at e
  cases hv : getV (putB r ss) with
  | inl e' => rw [hv] at e; exact absurd e errR_okR
  | inr p =>
    rw [hv] at e
    obtain ⟨h1, h2⟩ := okR_inj e
    rw [← h1, ← h2]
theorem getV_cases {bs : List Int} (hr : ∀ x ∈ bs, rng .u8 x) : (∃ e, getV bs = .inl e ∧ (e = 240 ∨ e = 270)) ∨ ∃ r ss, getV bs = .inr (r, ss) ∧ RatOk r ∧ (∀ s ∈ ss, SkOk s) ∧ checkI r ss = 0 ∧ putB r ss = bs := by
  have e := get_cases hr
  rw [getR_K, getK_V] at e
  cases hv : getV bs with
  | inl e' =>
    rw [hv] at e
    left
    refine ⟨e', rfl, ?_⟩
    rcases e with e | e | ⟨r, ss, e, _⟩
    · left; simpa [elimV, errR] using e
    · right; simpa [elimV, errR] using e
    · exact absurd e errR_okR
  | inr p =>
    rw [hv] at e
    right
    rcases e with e | e | ⟨r, ss, e, h1, h2, h3, h4⟩
    · exact absurd e.symm errR_okR
    · exact absurd e.symm errR_okR
    · obtain ⟨g1, g2⟩ := okR_inj e
      exact ⟨r, ss, by rw [← g1, ← g2], h1, h2, h3, h4⟩
theorem wSk_rows {ss : List Sk} (h : ss.length ≤ 1152921504606846976) (k : List Sk → Option Res) : wSk (ss.map skR) k = k ss := by
  rw [wSk, skAll_rows, Option.bind_some, if_pos h]
theorem wBs_eq {xs : List Int} (h : xs.length ≤ 140737488351232) (k : Option Res) : wBs xs k = k := by rw [wBs, if_pos h]
theorem eqSks_self : ∀ ss : List Sk, eqSks ss ss = true
  | [] => rfl
  | s :: r => by simp only [eqSks, skEq_self, eqSks_self r, Bool.and_self]
theorem same_self (r : Rat) (ss : List Sk) : sameB r r ss ss = true := by
  simp [sameB, ratEq, eqSks_self]
theorem back2_true {bs : List Int} (hr : ∀ x ∈ bs, rng .u8 x) (hl : bs.length ≤ 140737488351232) : back2 bs.length bs = yes true := by
  have e : ysOf bs bs.length = bs := take_all bs _ rfl
  rw [back2, e, wBs_eq hl, getK_V]
  rcases getV_cases hr with ⟨e, h1, _⟩ | ⟨r, ss, h1, h2, h3, h4, h5⟩
  · rw [h1]
    exact congrArg yes (same_self zeroRat [])
  · rw [h1]
    show wSk (ss.map skR) _ = _
    rw [wSk_rows (by have := checkI_le h4; omega), h4]
    simp only [bne_self_eq_false, cond_false]
    rw [wBs_eq hl, h5, wBs_eq hl]
    simp
theorem back_run (r : Rat) (ss : List Sk) (bs : List Int) (h : RatOk r) (hs : ∀ s ∈ ss, SkOk s) (hn : ss.length ≤ 1152921504606846976) (hr : ∀ x ∈ bs, rng .u8 x) (hl : bs.length ≤ 140737488351232) :
    evFn Lw0 af_hollowtreelaw17_RatchetBack [.agg (r.segs (sl65 0 ss.length)), slB 1 bs.length] (backH ss.length bs.length (ss.map skR) bs) kV = yes true := by
  refine (back_run1 ..).trans ?_
  have e1 : ((ss.map skR).drop 0).take ss.length = ss.map skR := by rw [List.drop_zero, List.take_of_length_le (by simp)]
  rw [e1, wSk_rows hn, back2_true hr hl]
  by_cases hc : checkI r ss = 0
  · rw [hc]
    simp only [bne_self_eq_false, cond_false]
    have hpl := putB_len h hs
    rw [wBs_eq (by omega), getK_V, getV_put h hs hc]
    show wSk (ss.map skR) _ = _
    rw [wSk_rows hn, wSk_rows hn, same_self, hpl]
    rfl
  · rw [show (checkI r ss != 0) = true by simpa using hc, cond_true]
end Go.Am
/- The program of the seat: its function without a body; what is asked of each function. -/
namespace Go.Am
open Go.Proofs
set_option maxRecDepth 100000
theorem moZ : Tryz.prog.follows .mixedOrders = true := by kernel_rfl
theorem VAL.one {ι : Inj} {v : AV} {x : Value} (h : VA ι v x) : VAL ι [v] [x] := ⟨rfl, fun i u hu => by
  cases i with
  | zero => simp only [List.getElem?_cons_zero, Option.some.injEq] at hu; subst hu; exact ⟨x, rfl, h⟩
  | succ i => simp at hu⟩
theorem VAL.cons {ι : Inj} {v : AV} {x : Value} {l : List AV} {r : List Value} (h : VA ι v x) (k : VAL ι l r) : VAL ι (v :: l) (x :: r) := ⟨by simp [k.1], fun i u hu => by
  cases i with
  | zero => simp only [List.getElem?_cons_zero, Option.some.injEq] at hu; subst hu; exact ⟨x, rfl, h⟩
  | succ i => exact k.2 i u (by simpa using hu)⟩
theorem add64_full : FullOk Tryz.prog id_math_bits_Add64 add64o where
  factor := fun args h κ => by
    unfold add64o
    split
    · split <;> rfl
    · rfl
  sound := fun args h v h' ι w vs hk R hf ha => by
    unfold add64o at hk
    split at hk <;> try (cases hk; done)
    rename_i x y c
    split at hk <;> try (cases hk; done)
    rename_i hc
    simp only [kH, Option.some.injEq, Prod.mk.injEq] at hk
    obtain ⟨rfl, rfl⟩ := hk
    obtain ⟨v1, r1, e1, h1, k1⟩ := ha.uncons
    obtain ⟨v2, r2, rfl, h2, k2⟩ := k1.uncons
    obtain ⟨v3, r3, rfl, h3, k3⟩ := k2.uncons
    have : r3 = [] := List.eq_nil_of_length_eq_zero k3.1.symm
    subst this
    obtain ⟨rfl, g1⟩ := (show v1 = .int .u64 x ∧ rng .u64 x from h1)
    obtain ⟨rfl, g2⟩ := (show v2 = .int .u64 y ∧ rng .u64 y from h2)
    obtain ⟨rfl, g3⟩ := (show v3 = .int .u64 c ∧ rng .u64 c from h3)
    have hv : vs = #[.int .u64 x, .int .u64 y, .int .u64 c] := by
      cases vs; simp only at e1; rw [e1]
    subst hv
    have b1 := g1 rfl
    have b2 := g2 rfl
    have b3 := g3 rfl
    simp only [IntKind.bits] at b1 b2 b3
    have q1 : rng .u64 ((x + y + c) % 18446744073709551616) := fun _ => by simp only [IntKind.bits]; omega
    have q2 : rng .u64 ((x + y + c) / 18446744073709551616) := fun _ => by simp only [IntKind.bits]; omega
    refine .inl ⟨_, w, (run_callFunc_extern (P := Tryz.prog) (f := id_math_bits_Add64) (e := add64Entry) Tryz.func157 (by kernel_rfl) (by kernel_rfl) (by kernel_rfl) (by kernel_rfl) _ w).trans (by rw [run_add64 x y c b1.1 b2.1 b3.1 hc]; rfl), ι, ⟨_, rfl, VAL.cons (show VA ι (.int .u64 _) _ from ⟨rfl, q1⟩) (.one (show VA ι (.int .u64 _) _ from ⟨rfl, q2⟩))⟩, R, .refl _ _ _, .refl _ _⟩
end Go.Am
/- The environments, of this program. Printed. -/
namespace Go.Am
open Go.Proofs
set_option maxRecDepth 100000
theorem fz_aead_Count {Γ : Env} (h : EnvOk Tryz.prog Γ) : Fn Tryz.prog id_aead_Count Γ af_aead_Count := Fn.of h moZ Tryz.func30 (by kernel_rfl)
theorem fz_aead_Open {Γ : Env} (h : EnvOk Tryz.prog Γ) : Fn Tryz.prog id_aead_Open Γ af_aead_Open := Fn.of h moZ Tryz.func95 (by kernel_rfl)
theorem fz_aead_Seal {Γ : Env} (h : EnvOk Tryz.prog Γ) : Fn Tryz.prog id_aead_Seal Γ af_aead_Seal := Fn.of h moZ Tryz.func29 (by kernel_rfl)
theorem fz_aead_Tag {Γ : Env} (h : EnvOk Tryz.prog Γ) : Fn Tryz.prog id_aead_Tag Γ af_aead_Tag := Fn.of h moZ Tryz.func70 (by kernel_rfl)
theorem fz_chacha_Quarter {Γ : Env} (h : EnvOk Tryz.prog Γ) : Fn Tryz.prog id_chacha_Quarter Γ af_chacha_Quarter := Fn.of h moZ Tryz.func139 (by kernel_rfl)
theorem fz_chacha_Xor {Γ : Env} (h : EnvOk Tryz.prog Γ) : Fn Tryz.prog id_chacha_Xor Γ af_chacha_Xor := Fn.of h moZ Tryz.func69 (by kernel_rfl)
theorem fz_chacha_state {Γ : Env} (h : EnvOk Tryz.prog Γ) : Fn Tryz.prog id_chacha_state Γ af_chacha_state := Fn.of h moZ Tryz.func137 (by kernel_rfl)
theorem fz_curve_Agree {Γ : Env} (h : EnvOk Tryz.prog Γ) : Fn Tryz.prog id_curve_Agree Γ af_curve_Agree := Fn.of h moZ Tryz.func93 (by kernel_rfl)
theorem fz_curve_Clamp {Γ : Env} (h : EnvOk Tryz.prog Γ) : Fn Tryz.prog id_curve_Clamp Γ af_curve_Clamp := Fn.of h moZ Tryz.func97 (by kernel_rfl)
theorem fz_curve_Low {Γ : Env} (h : EnvOk Tryz.prog Γ) : Fn Tryz.prog id_curve_Low Γ af_curve_Low := Fn.of h moZ Tryz.func40 (by kernel_rfl)
theorem fz_curve_Public {Γ : Env} (h : EnvOk Tryz.prog Γ) : Fn Tryz.prog id_curve_Public Γ af_curve_Public := Fn.of h moZ Tryz.func27 (by kernel_rfl)
theorem fz_field_Elem_Add {Γ : Env} (h : EnvOk Tryz.prog Γ) : Fn Tryz.prog id_field_Elem_Add Γ af_field_Elem_Add := Fn.of h moZ Tryz.func126 (by kernel_rfl)
theorem fz_field_Elem_Bytes {Γ : Env} (h : EnvOk Tryz.prog Γ) : Fn Tryz.prog id_field_Elem_Bytes Γ af_field_Elem_Bytes := Fn.of h moZ Tryz.func103 (by kernel_rfl)
theorem fz_field_Elem_Inv {Γ : Env} (h : EnvOk Tryz.prog Γ) : Fn Tryz.prog id_field_Elem_Inv Γ af_field_Elem_Inv := Fn.of h moZ Tryz.func102 (by kernel_rfl)
theorem fz_field_Elem_Mul {Γ : Env} (h : EnvOk Tryz.prog Γ) : Fn Tryz.prog id_field_Elem_Mul Γ af_field_Elem_Mul := Fn.of h moZ Tryz.func101 (by kernel_rfl)
theorem fz_field_Elem_Neg {Γ : Env} (h : EnvOk Tryz.prog Γ) : Fn Tryz.prog id_field_Elem_Neg Γ af_field_Elem_Neg := Fn.of h moZ Tryz.func130 (by kernel_rfl)
theorem fz_field_Elem_Power {Γ : Env} (h : EnvOk Tryz.prog Γ) : Fn Tryz.prog id_field_Elem_Power Γ af_field_Elem_Power := Fn.of h moZ Tryz.func131 (by kernel_rfl)
theorem fz_field_Elem_Same {Γ : Env} (h : EnvOk Tryz.prog Γ) : Fn Tryz.prog id_field_Elem_Same Γ af_field_Elem_Same := Fn.of h moZ Tryz.func81 (by kernel_rfl)
theorem fz_field_Elem_Square {Γ : Env} (h : EnvOk Tryz.prog Γ) : Fn Tryz.prog id_field_Elem_Square Γ af_field_Elem_Square := Fn.of h moZ Tryz.func124 (by kernel_rfl)
theorem fz_field_Elem_Sub {Γ : Env} (h : EnvOk Tryz.prog Γ) : Fn Tryz.prog id_field_Elem_Sub Γ af_field_Elem_Sub := Fn.of h moZ Tryz.func125 (by kernel_rfl)
theorem fz_field_Elem_Times {Γ : Env} (h : EnvOk Tryz.prog Γ) : Fn Tryz.prog id_field_Elem_Times Γ af_field_Elem_Times := Fn.of h moZ Tryz.func127 (by kernel_rfl)
theorem fz_field_Elem_carry {Γ : Env} (h : EnvOk Tryz.prog Γ) : Fn Tryz.prog id_field_Elem_carry Γ af_field_Elem_carry := Fn.of h moZ Tryz.func132 (by kernel_rfl)
theorem fz_field_From {Γ : Env} (h : EnvOk Tryz.prog Γ) : Fn Tryz.prog id_field_From Γ af_field_From := Fn.of h moZ Tryz.func80 (by kernel_rfl)
theorem fz_field_Of {Γ : Env} (h : EnvOk Tryz.prog Γ) : Fn Tryz.prog id_field_Of Γ af_field_Of := Fn.of h moZ Tryz.func98 (by kernel_rfl)
theorem fz_field_Swap {Γ : Env} (h : EnvOk Tryz.prog Γ) : Fn Tryz.prog id_field_Swap Γ af_field_Swap := Fn.of h moZ Tryz.func122 (by kernel_rfl)
theorem fz_field_folded {Γ : Env} (h : EnvOk Tryz.prog Γ) : Fn Tryz.prog id_field_folded Γ af_field_folded := Fn.of h moZ Tryz.func128 (by kernel_rfl)
theorem fz_field_wide_plus {Γ : Env} (h : EnvOk Tryz.prog Γ) : Fn Tryz.prog id_field_wide_plus Γ af_field_wide_plus := Fn.of h moZ Tryz.func129 (by kernel_rfl)
theorem fz_field_word {Γ : Env} (h : EnvOk Tryz.prog Γ) : Fn Tryz.prog id_field_word Γ af_field_word := Fn.of h moZ Tryz.func120 (by kernel_rfl)
theorem fz_frame_PutHeader {Γ : Env} (h : EnvOk Tryz.prog Γ) : Fn Tryz.prog id_frame_PutHeader Γ af_frame_PutHeader := Fn.of h moZ Tryz.func31 (by kernel_rfl)
theorem fz_hollowtreelaw17_begun {Γ : Env} (h : EnvOk Tryz.prog Γ) : Fn Tryz.prog id_hollowtreelaw17_begun Γ af_hollowtreelaw17_begun := Fn.of h moZ Tryz.func24 (by kernel_rfl)
theorem fz_hollowtreelaw17_wakes {Γ : Env} (h : EnvOk Tryz.prog Γ) : Fn Tryz.prog id_hollowtreelaw17_wakes Γ af_hollowtreelaw17_wakes := Fn.of h moZ Tryz.func7 (by kernel_rfl)
theorem fz_ident_Less {Γ : Env} (h : EnvOk Tryz.prog Γ) : Fn Tryz.prog id_ident_Less Γ af_ident_Less := Fn.of h moZ Tryz.func94 (by kernel_rfl)
theorem fz_ident_Pair {Γ : Env} (h : EnvOk Tryz.prog Γ) : Fn Tryz.prog id_ident_Pair Γ af_ident_Pair := Fn.of h moZ Tryz.func61 (by kernel_rfl)
theorem fz_kdf_Derive {Γ : Env} (h : EnvOk Tryz.prog Γ) : Fn Tryz.prog id_kdf_Derive Γ af_kdf_Derive := Fn.of h moZ Tryz.func42 (by kernel_rfl)
theorem fz_kdf_Expand {Γ : Env} (h : EnvOk Tryz.prog Γ) : Fn Tryz.prog id_kdf_Expand Γ af_kdf_Expand := Fn.of h moZ Tryz.func82 (by kernel_rfl)
theorem fz_kdf_Hmac {Γ : Env} (h : EnvOk Tryz.prog Γ) : Fn Tryz.prog id_kdf_Hmac Γ af_kdf_Hmac := Fn.of h moZ Tryz.func68 (by kernel_rfl)
theorem fz_kdf_Step {Γ : Env} (h : EnvOk Tryz.prog Γ) : Fn Tryz.prog id_kdf_Step Γ af_kdf_Step := Fn.of h moZ Tryz.func28 (by kernel_rfl)
theorem fz_kdf_Two {Γ : Env} (h : EnvOk Tryz.prog Γ) : Fn Tryz.prog id_kdf_Two Γ af_kdf_Two := Fn.of h moZ Tryz.func41 (by kernel_rfl)
theorem fz_kdf_info {Γ : Env} (h : EnvOk Tryz.prog Γ) : Fn Tryz.prog id_kdf_info Γ af_kdf_info := Fn.of h moZ Tryz.func83 (by kernel_rfl)
theorem fz_math_bits_Mul64 {Γ : Env} (h : EnvOk Tryz.prog Γ) : Fn Tryz.prog id_math_bits_Mul64 Γ af_math_bits_Mul64 := Fn.of h moZ Tryz.func158 (by kernel_rfl)
theorem fz_octet_Equal {Γ : Env} (h : EnvOk Tryz.prog Γ) : Fn Tryz.prog id_octet_Equal Γ af_octet_Equal := Fn.of h moZ Tryz.func23 (by kernel_rfl)
theorem fz_octet_Get64 {Γ : Env} (h : EnvOk Tryz.prog Γ) : Fn Tryz.prog id_octet_Get64 Γ af_octet_Get64 := Fn.of h moZ Tryz.func91 (by kernel_rfl)
theorem fz_octet_Put32 {Γ : Env} (h : EnvOk Tryz.prog Γ) : Fn Tryz.prog id_octet_Put32 Γ af_octet_Put32 := Fn.of h moZ Tryz.func53 (by kernel_rfl)
theorem fz_octet_Put64 {Γ : Env} (h : EnvOk Tryz.prog Γ) : Fn Tryz.prog id_octet_Put64 Γ af_octet_Put64 := Fn.of h moZ Tryz.func71 (by kernel_rfl)
theorem fz_octet_Read {Γ : Env} (h : EnvOk Tryz.prog Γ) : Fn Tryz.prog id_octet_Read Γ af_octet_Read := Fn.of h moZ Tryz.func56 (by kernel_rfl)
theorem fz_octet_Reader_Key {Γ : Env} (h : EnvOk Tryz.prog Γ) : Fn Tryz.prog id_octet_Reader_Key Γ af_octet_Reader_Key := Fn.of h moZ Tryz.func57 (by kernel_rfl)
theorem fz_octet_Reader_Raw {Γ : Env} (h : EnvOk Tryz.prog Γ) : Fn Tryz.prog id_octet_Reader_Raw Γ af_octet_Reader_Raw := Fn.of h moZ Tryz.func59 (by kernel_rfl)
theorem fz_octet_Reader_U32 {Γ : Env} (h : EnvOk Tryz.prog Γ) : Fn Tryz.prog id_octet_Reader_U32 Γ af_octet_Reader_U32 := Fn.of h moZ Tryz.func58 (by kernel_rfl)
theorem fz_octet_Zero {Γ : Env} (h : EnvOk Tryz.prog Γ) : Fn Tryz.prog id_octet_Zero Γ af_octet_Zero := Fn.of h moZ Tryz.func121 (by kernel_rfl)
theorem fz_octet_put {Γ : Env} (h : EnvOk Tryz.prog Γ) : Fn Tryz.prog id_octet_put Γ af_octet_put := Fn.of h moZ Tryz.func89 (by kernel_rfl)
theorem fz_poly_Clamp {Γ : Env} (h : EnvOk Tryz.prog Γ) : Fn Tryz.prog id_poly_Clamp Γ af_poly_Clamp := Fn.of h moZ Tryz.func140 (by kernel_rfl)
theorem fz_poly_Code_Write {Γ : Env} (h : EnvOk Tryz.prog Γ) : Fn Tryz.prog id_poly_Code_Write Γ af_poly_Code_Write := Fn.of h moZ Tryz.func112 (by kernel_rfl)
theorem fz_poly_limbs_carry {Γ : Env} (h : EnvOk Tryz.prog Γ) : Fn Tryz.prog id_poly_limbs_carry Γ af_poly_limbs_carry := Fn.of h moZ Tryz.func161 (by kernel_rfl)
theorem fz_poly_limbs_step {Γ : Env} (h : EnvOk Tryz.prog Γ) : Fn Tryz.prog id_poly_limbs_step Γ af_poly_limbs_step := Fn.of h moZ Tryz.func142 (by kernel_rfl)
theorem fz_poly_limbs_whole {Γ : Env} (h : EnvOk Tryz.prog Γ) : Fn Tryz.prog id_poly_limbs_whole Γ af_poly_limbs_whole := Fn.of h moZ Tryz.func143 (by kernel_rfl)
theorem fz_poly_of {Γ : Env} (h : EnvOk Tryz.prog Γ) : Fn Tryz.prog id_poly_of Γ af_poly_of := Fn.of h moZ Tryz.func141 (by kernel_rfl)
theorem fz_ratchet_Check {Γ : Env} (h : EnvOk Tryz.prog Γ) : Fn Tryz.prog id_ratchet_Check Γ af_ratchet_Check := Fn.of h moZ Tryz.func17 (by kernel_rfl)
theorem fz_ratchet_Open {Γ : Env} (h : EnvOk Tryz.prog Γ) : Fn Tryz.prog id_ratchet_Open Γ af_ratchet_Open := Fn.of h moZ Tryz.func25 (by kernel_rfl)
theorem fz_ratchet_Same {Γ : Env} (h : EnvOk Tryz.prog Γ) : Fn Tryz.prog id_ratchet_Same Γ af_ratchet_Same := Fn.of h moZ Tryz.func15 (by kernel_rfl)
theorem fz_ratchet_Seal {Γ : Env} (h : EnvOk Tryz.prog Γ) : Fn Tryz.prog id_ratchet_Seal Γ af_ratchet_Seal := Fn.of h moZ Tryz.func8 (by kernel_rfl)
theorem fz_ratchet_Start {Γ : Env} (h : EnvOk Tryz.prog Γ) : Fn Tryz.prog id_ratchet_Start Γ af_ratchet_Start := Fn.of h moZ Tryz.func13 (by kernel_rfl)
theorem fz_ratchet_find {Γ : Env} (h : EnvOk Tryz.prog Γ) : Fn Tryz.prog id_ratchet_find Γ af_ratchet_find := Fn.of h moZ Tryz.func52 (by kernel_rfl)
theorem fz_ratchet_none {Γ : Env} (h : EnvOk Tryz.prog Γ) : Fn Tryz.prog id_ratchet_none Γ af_ratchet_none := Fn.of h moZ Tryz.func26 (by kernel_rfl)
theorem fz_ratchet_open {Γ : Env} (h : EnvOk Tryz.prog Γ) : Fn Tryz.prog id_ratchet_open Γ af_ratchet_open := Fn.of h moZ Tryz.func63 (by kernel_rfl)
theorem fz_ratchet_read {Γ : Env} (h : EnvOk Tryz.prog Γ) : Fn Tryz.prog id_ratchet_read Γ af_ratchet_read := Fn.of h moZ Tryz.func96 (by kernel_rfl)
theorem fz_ratchet_text {Γ : Env} (h : EnvOk Tryz.prog Γ) : Fn Tryz.prog id_ratchet_text Γ af_ratchet_text := Fn.of h moZ Tryz.func32 (by kernel_rfl)
theorem fz_ratchet_turn {Γ : Env} (h : EnvOk Tryz.prog Γ) : Fn Tryz.prog id_ratchet_turn Γ af_ratchet_turn := Fn.of h moZ Tryz.func43 (by kernel_rfl)
theorem fz_sha_New {Γ : Env} (h : EnvOk Tryz.prog Γ) : Fn Tryz.prog id_sha_New Γ af_sha_New := Fn.of h moZ Tryz.func106 (by kernel_rfl)
theorem fz_sha_Pad {Γ : Env} (h : EnvOk Tryz.prog Γ) : Fn Tryz.prog id_sha_Pad Γ af_sha_Pad := Fn.of h moZ Tryz.func136 (by kernel_rfl)
theorem fz_sha_turn {Γ : Env} (h : EnvOk Tryz.prog Γ) : Fn Tryz.prog id_sha_turn Γ af_sha_turn := Fn.of h moZ Tryz.func165 (by kernel_rfl)
theorem fz_slices_Clone_byte {Γ : Env} (h : EnvOk Tryz.prog Γ) : Fn Tryz.prog id_slices_Clone_byte Γ af_slices_Clone_byte := Fn.of h moZ Tryz.func90 (by kernel_rfl)
theorem fzA_chacha_Block_afBlock {Γ : Env} (h : EnvOk Tryz.prog Γ) : Fn Tryz.prog id_chacha_Block Γ afBlock := Fn.of h moZ Tryz.func109 (by kernel_rfl)
theorem fzA_curve_X_afX {Γ : Env} (h : EnvOk Tryz.prog Γ) : Fn Tryz.prog id_curve_X Γ afX := Fn.of h moZ Tryz.func67 (by kernel_rfl)
theorem fzA_octet_Equal_afOEq {Γ : Env} (h : EnvOk Tryz.prog Γ) : Fn Tryz.prog id_octet_Equal Γ afOEq := Fn.of h moZ Tryz.func23 (by kernel_rfl)
theorem fzA_octet_Get64_afGet64 {Γ : Env} (h : EnvOk Tryz.prog Γ) : Fn Tryz.prog id_octet_Get64 Γ afGet64 := Fn.of h moZ Tryz.func91 (by kernel_rfl)
theorem fzA_ratchet_Check_afCheck {Γ : Env} (h : EnvOk Tryz.prog Γ) : Fn Tryz.prog id_ratchet_Check Γ afCheck := Fn.of h moZ Tryz.func17 (by kernel_rfl)
theorem fzA_ratchet_Get_afGet {Γ : Env} (h : EnvOk Tryz.prog Γ) : Fn Tryz.prog id_ratchet_Get Γ afGet := Fn.of h moZ Tryz.func21 (by kernel_rfl)
theorem fzA_ratchet_Put_afPut {Γ : Env} (h : EnvOk Tryz.prog Γ) : Fn Tryz.prog id_ratchet_Put Γ afPut := Fn.of h moZ Tryz.func18 (by kernel_rfl)
theorem fzA_sha_Hash_step_afStepOf_a {Γ : Env} (h : EnvOk Tryz.prog Γ) : Fn Tryz.prog id_sha_Hash_step Γ (afStepOf sCn1a) := Fn.of h moZ Tryz.func159 (by kernel_rfl)
theorem fzA_sha_Hash_step_afStepOf_b {Γ : Env} (h : EnvOk Tryz.prog Γ) : Fn Tryz.prog id_sha_Hash_step Γ (afStepOf sCn1b) := Fn.of h moZ Tryz.func159 (by kernel_rfl)
theorem fzA_sha_words_afWords {Γ : Env} (h : EnvOk Tryz.prog Γ) : Fn Tryz.prog id_sha_words Γ afWords := Fn.of h moZ Tryz.func134 (by kernel_rfl)
theorem fzA_slices_Equal_api_Skip_afSEq {Γ : Env} (h : EnvOk Tryz.prog Γ) : Fn Tryz.prog id_slices_Equal_api_Skip Γ afSEq := Fn.of h moZ Tryz.func48 (by kernel_rfl)
theorem fzA_slices_IndexFunc_api_Skip_afIdx {Γ : Env} (h : EnvOk Tryz.prog Γ) : Fn Tryz.prog id_slices_IndexFunc_api_Skip Γ afIdx := Fn.of h moZ Tryz.func87 (by kernel_rfl)
theorem iz_aead_Tag_1 {Γ : Env} (h : EnvOk Tryz.prog Γ) : FullOk Tryz.prog id_aead_Tag_1 fun args h κ => evFn Γ af_aead_Tag_1 args h κ := evFn_full h moZ Tryz.func111 (by kernel_rfl) (by kernel_rfl)
theorem iz_chacha_Block_1 {Γ : Env} (h : EnvOk Tryz.prog Γ) : FullOk Tryz.prog id_chacha_Block_1 fun args h κ => evFn Γ af_chacha_Block_1 args h κ := evFn_full h moZ Tryz.func138 (by kernel_rfl) (by kernel_rfl)
theorem iz_chacha_read {Γ : Env} (h : EnvOk Tryz.prog Γ) : FullOk Tryz.prog id_chacha_read fun args h κ => evFn Γ af_chacha_read args h κ := evFn_full h moZ Tryz.func160 (by kernel_rfl) (by kernel_rfl)
theorem iz_curve_ladder_step {Γ : Env} (h : EnvOk Tryz.prog Γ) : FullOk Tryz.prog id_curve_ladder_step fun args h κ => evFn Γ af_curve_ladder_step args h κ := evFn_full h moZ Tryz.func100 (by kernel_rfl) (by kernel_rfl)
theorem iz_curve_ladder_sums {Γ : Env} (h : EnvOk Tryz.prog Γ) : FullOk Tryz.prog id_curve_ladder_sums fun args h κ => evFn Γ af_curve_ladder_sums args h κ := evFn_full h moZ Tryz.func123 (by kernel_rfl) (by kernel_rfl)
theorem iz_curve_ladder_swap {Γ : Env} (h : EnvOk Tryz.prog Γ) : FullOk Tryz.prog id_curve_ladder_swap fun args h κ => evFn Γ af_curve_ladder_swap args h κ := evFn_full h moZ Tryz.func99 (by kernel_rfl) (by kernel_rfl)
theorem iz_kdf_Hmac_1 {Γ : Env} (h : EnvOk Tryz.prog Γ) : FullOk Tryz.prog id_kdf_Hmac_1 fun args h κ => evFn Γ af_kdf_Hmac_1 args h κ := evFn_full h moZ Tryz.func105 (by kernel_rfl) (by kernel_rfl)
theorem iz_octet_spot_take {Γ : Env} (h : EnvOk Tryz.prog Γ) : FullOk Tryz.prog id_octet_spot_take fun args h κ => evFn Γ af_octet_spot_take args h κ := evFn_full h moZ Tryz.func92 (by kernel_rfl) (by kernel_rfl)
theorem iz_poly_Code_Tag {Γ : Env} (h : EnvOk Tryz.prog Γ) : FullOk Tryz.prog id_poly_Code_Tag fun args h κ => evFn Γ af_poly_Code_Tag args h κ := evFn_full h moZ Tryz.func113 (by kernel_rfl) (by kernel_rfl)
theorem iz_poly_New {Γ : Env} (h : EnvOk Tryz.prog Γ) : FullOk Tryz.prog id_poly_New fun args h κ => evFn Γ af_poly_New args h κ := evFn_full h moZ Tryz.func110 (by kernel_rfl) (by kernel_rfl)
theorem iz_ratchet_Open_1 {Γ : Env} (h : EnvOk Tryz.prog Γ) : FullOk Tryz.prog id_ratchet_Open_1 fun args h κ => evFn Γ af_ratchet_Open_1 args h κ := evFn_full h moZ Tryz.func62 (by kernel_rfl) (by kernel_rfl)
theorem iz_ratchet_find_1 {Γ : Env} (h : EnvOk Tryz.prog Γ) : FullOk Tryz.prog id_ratchet_find_1 fun args h κ => evFn Γ af_ratchet_find_1 args h κ := evFn_full h moZ Tryz.func88 (by kernel_rfl) (by kernel_rfl)
theorem iz_ratchet_over {Γ : Env} (h : EnvOk Tryz.prog Γ) : FullOk Tryz.prog id_ratchet_over fun args h κ => evFn Γ af_ratchet_over args h κ := evFn_full h moZ Tryz.func65 (by kernel_rfl) (by kernel_rfl)
theorem iz_ratchet_pass {Γ : Env} (h : EnvOk Tryz.prog Γ) : FullOk Tryz.prog id_ratchet_pass fun args h κ => evFn Γ af_ratchet_pass args h κ := evFn_full h moZ Tryz.func66 (by kernel_rfl) (by kernel_rfl)
theorem iz_sha_Hash_Copy {Γ : Env} (h : EnvOk Tryz.prog Γ) : FullOk Tryz.prog id_sha_Hash_Copy fun args h κ => evFn Γ af_sha_Hash_Copy args h κ := evFn_full h moZ Tryz.func135 (by kernel_rfl) (by kernel_rfl)
theorem iz_sha_Hash_Sum {Γ : Env} (h : EnvOk Tryz.prog Γ) : FullOk Tryz.prog id_sha_Hash_Sum fun args h κ => evFn Γ af_sha_Hash_Sum args h κ := evFn_full h moZ Tryz.func108 (by kernel_rfl) (by kernel_rfl)
theorem iz_sha_Hash_Write {Γ : Env} (h : EnvOk Tryz.prog Γ) : FullOk Tryz.prog id_sha_Hash_Write fun args h κ => evFn Γ af_sha_Hash_Write args h κ := evFn_full h moZ Tryz.func107 (by kernel_rfl) (by kernel_rfl)
theorem iz_sha_Hash_write {Γ : Env} (h : EnvOk Tryz.prog Γ) : FullOk Tryz.prog id_sha_Hash_write fun args h κ => evFn Γ af_sha_Hash_write args h κ := evFn_full h moZ Tryz.func133 (by kernel_rfl) (by kernel_rfl)
theorem iz_sha_Sum {Γ : Env} (h : EnvOk Tryz.prog Γ) : FullOk Tryz.prog id_sha_Sum fun args h κ => evFn Γ af_sha_Sum args h κ := evFn_full h moZ Tryz.func104 (by kernel_rfl) (by kernel_rfl)
theorem iz_slices_Clone_api_Skip {Γ : Env} (h : EnvOk Tryz.prog Γ) : FullOk Tryz.prog id_slices_Clone_api_Skip fun args h κ => evFn Γ af_slices_Clone_api_Skip args h κ := evFn_full h moZ Tryz.func33 (by kernel_rfl) (by kernel_rfl)
theorem iz_slices_IndexFunc_api_Skip {Γ : Env} (h : EnvOk Tryz.prog Γ) : FullOk Tryz.prog id_slices_IndexFunc_api_Skip fun args h κ => evFn Γ af_slices_IndexFunc_api_Skip args h κ := evFn_full h moZ Tryz.func87 (by kernel_rfl) (by kernel_rfl)
end Go.Am
