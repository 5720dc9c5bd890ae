/- RatchetSeals: part 20 of 50 of its proof. -/
import Derived.Test.YtmkefajojokkfaaGreatD16
import Derived.Test.YtmkefajojokkfaaGreatD18
set_option linter.unusedVariables false
set_option linter.unusedSimpArgs false
namespace Go.Am
set_option linter.unusedSimpArgs false
set_option maxRecDepth 100000
def powN (x : Nat) : Nat → Nat
  | 0 => 1
  | n + 1 => if (255 - n = 2 ∨ 255 - n = 4 ∨ 255 - n = 255) then powN x n * powN x n % pN else powN x n * powN x n % pN * x % pN
theorem Repr.pow {xs : List Int} {m : Nat} (hx : Repr xs m) : ∀ n, Repr (powL xs n) (powN m n)
  | 0 => Repr.of (by decide)
  | n + 1 => by
    simp only [powL, powN]
    split
    · exact (hx.pow n).sq.mod
    · exact ((hx.pow n).sq.mod.mul hx).mod
theorem Repr.inv {xs : List Int} {m : Nat} (hx : Repr xs m) : Repr (invL xs) (powN m 256) := hx.pow 256
theorem bw_xor_cancel {x y : Nat} (hx : x < 2 ^ 64) (hy : y < 2 ^ 64) : bw .xor .u64 (x : Int) (bw .xor .u64 (x : Int) (y : Int)) = (y : Int) := by
  have h1 := bw_nat .xor .u64 rfl x y hx hy
  simp only at h1
  have hl : x ^^^ y < 2 ^ 64 := Nat.xor_lt_two_pow hx hy
  have h2 := bw_nat .xor .u64 rfl x (x ^^^ y) hx hl
  simp only at h2
  rw [h1, h2, ← Nat.xor_assoc, Nat.xor_self, Nat.zero_xor]
theorem bw_xor_cancel' {x y : Nat} (hx : x < 2 ^ 64) (hy : y < 2 ^ 64) : bw .xor .u64 (y : Int) (bw .xor .u64 (x : Int) (y : Int)) = (x : Int) := by
  have h1 := bw_nat .xor .u64 rfl x y hx hy
  simp only at h1
  have hl : x ^^^ y < 2 ^ 64 := Nat.xor_lt_two_pow hx hy
  have h2 := bw_nat .xor .u64 rfl y (x ^^^ y) hy hl
  simp only at h2
  rw [h1, h2, Nat.xor_comm x y, ← Nat.xor_assoc, Nat.xor_self, Nat.zero_xor]
theorem bw_and_zero (z : Int) : bw .and .u64 0 z = 0 := by
  change IntKind.u64.wrap ((BitVec.ofInt 64 0 &&& BitVec.ofInt 64 z).toNat : Int) = 0
  rw [show BitVec.ofInt 64 0 = 0#64 from rfl, BitVec.zero_and]
  rfl
theorem bw_and_ones {x : Nat} (hx : x < 2 ^ 64) : bw .and .u64 18446744073709551615 (x : Int) = (x : Int) := by
  have h := bw_nat .and .u64 rfl 18446744073709551615 x (by decide) hx
  simp only at h
  have e : 18446744073709551615 &&& x = x := by rw [Nat.and_comm]; have := and_mask x 64; rw [Nat.mod_eq_of_lt hx] at this; exact this
  rw [e] at h
  exact h
theorem bw_xor_zero {x : Nat} (hx : x < 2 ^ 64) : bw .xor .u64 (x : Int) 0 = (x : Int) := by
  have h := bw_nat .xor .u64 rfl x 0 hx (by decide)
  simp only [Nat.xor_zero] at h
  exact h
theorem swA0 {x y : Int} (hx : 0 ≤ x ∧ x < 18446744073709551616) : swA 0 x y = x := by
  obtain ⟨n, rfl⟩ := Int.eq_ofNat_of_zero_le hx.1
  have : swT 0 = 0 := by decide
  rw [swA, this, bw_and_zero, bw_xor_zero (by omega)]
theorem swB0 {x y : Int} (hy : 0 ≤ y ∧ y < 18446744073709551616) : swB 0 x y = y := by
  obtain ⟨n, rfl⟩ := Int.eq_ofNat_of_zero_le hy.1
  have : swT 0 = 0 := by decide
  rw [swB, this, bw_and_zero, bw_xor_zero (by omega)]
theorem swA1 {x y : Int} (hx : 0 ≤ x ∧ x < 18446744073709551616) (hy : 0 ≤ y ∧ y < 18446744073709551616) : swA 1 x y = y := by
  obtain ⟨n, rfl⟩ := Int.eq_ofNat_of_zero_le hx.1
  obtain ⟨m, rfl⟩ := Int.eq_ofNat_of_zero_le hy.1
  have : swT 1 = 18446744073709551615 := by decide
  have h1 := bw_nat .xor .u64 rfl n m (by simp only [IntKind.bits]; omega) (by simp only [IntKind.bits]; omega)
  simp only at h1
  rw [swA, this, h1, bw_and_ones (Nat.xor_lt_two_pow (by omega) (by omega)), ← h1, bw_xor_cancel (by omega) (by omega)]
theorem swB1 {x y : Int} (hx : 0 ≤ x ∧ x < 18446744073709551616) (hy : 0 ≤ y ∧ y < 18446744073709551616) : swB 1 x y = x := by
  obtain ⟨n, rfl⟩ := Int.eq_ofNat_of_zero_le hx.1
  obtain ⟨m, rfl⟩ := Int.eq_ofNat_of_zero_le hy.1
  have : swT 1 = 18446744073709551615 := by decide
  have h1 := bw_nat .xor .u64 rfl n m (by simp only [IntKind.bits]; omega) (by simp only [IntKind.bits]; omega)
  simp only at h1
  rw [swB, this, h1, bw_and_ones (Nat.xor_lt_two_pow (by omega) (by omega)), ← h1, bw_xor_cancel' (by omega) (by omega)]
theorem swap0 {xs ys : List Int} (hx : Lim xs) (hy : Lim ys) : List.zipWith (swA 0) xs ys = xs ∧ List.zipWith (swB 0) xs ys = ys := by
  obtain ⟨x0, x1, x2, x3, x4, rfl, a0, a1, a2, a3, a4⟩ := hx
  obtain ⟨y0, y1, y2, y3, y4, rfl, b0, b1, b2, b3, b4⟩ := hy
  simp only [List.zipWith_cons_cons, List.zipWith_nil_left]
  rw [swA0 (by omega), swA0 (by omega), swA0 (by omega), swA0 (by omega), swA0 (by omega), swB0 (by omega), swB0 (by omega), swB0 (by omega), swB0 (by omega), swB0 (by omega)]
  exact ⟨rfl, rfl⟩
theorem swap1 {xs ys : List Int} (hx : Lim xs) (hy : Lim ys) : List.zipWith (swA 1) xs ys = ys ∧ List.zipWith (swB 1) xs ys = xs := by
  obtain ⟨x0, x1, x2, x3, x4, rfl, a0, a1, a2, a3, a4⟩ := hx
  obtain ⟨y0, y1, y2, y3, y4, rfl, b0, b1, b2, b3, b4⟩ := hy
  simp only [List.zipWith_cons_cons, List.zipWith_nil_left]
  rw [swA1 (by omega) (by omega), swA1 (by omega) (by omega), swA1 (by omega) (by omega), swA1 (by omega) (by omega), swA1 (by omega) (by omega), swB1 (by omega) (by omega), swB1 (by omega) (by omega), swB1 (by omega) (by omega), swB1 (by omega) (by omega), swB1 (by omega) (by omega)]
  exact ⟨rfl, rfl⟩
structure N4 where
  x2 : Nat
  z2 : Nat
  x3 : Nat
  z3 : Nat
def RepL (s : L4) (n : N4) : Prop := Repr s.x2 n.x2 ∧ Repr s.z2 n.z2 ∧ Repr s.x3 n.x3 ∧ Repr s.z3 n.z3
def swN (b : Nat) (s : N4) : N4 := match b with
  | 0 => s
  | _ => ⟨s.x3, s.z3, s.x2, s.z2⟩
def subN (a b : Nat) : Nat := (a + (pN - b % pN)) % pN
def goN (x1 : Nat) (s : N4) : N4 :=
  let a := (s.x2 + s.z2) % pN
  let b := subN s.x2 s.z2
  let c := (s.x3 + s.z3) % pN
  let d := subN s.x3 s.z3
  let aa := a * a % pN
  let bb := b * b % pN
  let e := subN aa bb
  let da := d * a % pN
  let cb := c * b % pN
  let s := (da + cb) % pN
  let t := subN da cb
  ⟨aa * bb % pN, e * ((aa + e * 121665 % pN) % pN) % pN, s * s % pN, x1 * (t * t % pN) % pN⟩
theorem RepL.swap {s : L4} {n : N4} {b : Int} (h : RepL s n) (hb : b = 0 ∨ b = 1) : RepL (ladSwap b s) (swN b.toNat n) := by
  obtain ⟨h1, h2, h3, h4⟩ := h
  rcases hb with rfl | rfl
  · have e1 := swap0 h1.1 h3.1
    have e2 := swap0 h2.1 h4.1
    simp only [ladSwap, e1.1, e1.2, e2.1, e2.2]
    exact ⟨h1, h2, h3, h4⟩
  · have e1 := swap1 h1.1 h3.1
    have e2 := swap1 h2.1 h4.1
    simp only [ladSwap, e1.1, e1.2, e2.1, e2.2]
    exact ⟨h3, h4, h1, h2⟩
theorem w64_121665 : ofL (w64 121665) = ofL ((121665 : Nat) : Int) := by decide
theorem RepL.go {s : L4} {n : N4} {x1 : List Int} {m : Nat} (hx : Repr x1 m) (h : RepL s n) : RepL (ladGo x1 s) (goN m n) := by
  obtain ⟨h1, h2, h3, h4⟩ := h
  have a := (h1.add h2).mod
  have b := (h1.sub h2).mod
  have c := (h3.add h4).mod
  have d := (h3.sub h4).mod
  have aa := a.sq.mod
  have bb := b.sq.mod
  have e := (aa.sub bb).mod
  have da := (d.mul a).mod
  have cb := (c.mul b).mod
  have k : Repr (ofL (w64 121665)) 121665 := by rw [w64_121665]; exact Repr.of (by decide)
  exact ⟨(aa.mul bb).mod, (e.mul (aa.add (e.mul k).mod).mod).mod, (da.add cb).mod.sq.mod, (hx.mul (da.sub cb).mod.sq.mod).mod⟩
def bitN (ks : List Int) (n : Nat) : Nat := (ks.getD (n / 8) 0).toNat / 2 ^ (n % 8) % 2
def stepN (x1 b : Nat) (s : N4) : N4 := swN b (goN x1 (swN b s))
def Bytes (ks : List Int) : Prop := ∀ x ∈ ks, 0 ≤ x ∧ x < 256
theorem Bytes.getD {ks : List Int} (h : Bytes ks) (n : Nat) : 0 ≤ ks.getD n 0 ∧ ks.getD n 0 < 256 := by
  rw [List.getD_eq_getElem?_getD]
  cases e : ks[n]? with
  | none => simp
  | some x => exact h x (List.mem_of_getElem? e)
theorem bitL_nat {ks : List Int} (h : Bytes ks) (n : Nat) : bitL ks n = (bitN ks n : Int) := by
  obtain ⟨h0, h1⟩ := h.getD (n / 8)
  unfold bitL bitN
  generalize ks.getD (n / 8) 0 = x at *
  obtain ⟨m, rfl⟩ := Int.eq_ofNat_of_zero_le h0
  rw [fdiv_pow]
  have e1 : ((m : Int) / 2 ^ (n % 8)) = ((m / 2 ^ (n % 8) : Nat) : Int) := by rw [Int.natCast_ediv, Int.natCast_pow]; rfl
  have hl : m / 2 ^ (n % 8) < 256 := Nat.lt_of_le_of_lt (Nat.div_le_self _ _) (by omega)
  rw [e1]
  have h := bw_nat .and .u8 rfl (m / 2 ^ (n % 8)) 1 (by simpa [IntKind.bits] using hl) (by decide)
  simp only at h
  have e2 : (m / 2 ^ (n % 8)) &&& 1 = m / 2 ^ (n % 8) % 2 := and_mask _ 1
  rw [e2] at h
  have h' : bw .and .u8 ((m / 2 ^ (n % 8) : Nat) : Int) 1 = ((m / 2 ^ (n % 8) % 2 : Nat) : Int) := h
  rw [h']
  exact w63_id (by omega) (by omega)
def ladN (ks : List Int) (x1 : Nat) : Nat → N4
  | 0 => ⟨1,0, x1,1⟩
  | n + 1 => stepN x1 (bitN ks (254 - n)) (ladN ks x1 n)
theorem RepL.step {s : L4} {n : N4} {x1 : List Int} {m : Nat} {b : Nat} (hx : Repr x1 m) (h : RepL s n) (hb : b < 2) : RepL (ladStep x1 (b : Int) s) (stepN m b n) := by
  have hb' : (b : Int) = 0 ∨ (b : Int) = 1 := by omega
  have := ((h.swap hb').go hx).swap hb'
  simpa [ladStep, stepN] using this
theorem ladL_repr {ks us : List Int} {m : Nat} (hk : Bytes (clampL ks)) (hu : Repr (fromL us) m) : ∀ n, RepL (ladL ks us n) (ladN (clampL ks) m n)
  | 0 => ⟨Repr.of (n := 1) (by decide), Repr.of (n := 0) (by decide), hu, Repr.of (n := 1) (by decide)⟩
  | n + 1 => by
    simp only [ladL, ladN, bitL_nat hk]
    exact (ladL_repr hk hu n).step hu (by unfold bitN; omega)
def quoN (s : N4) : Nat := s.x2 * powN s.z2 256 % pN
theorem xL_repr {ks us : List Int} {m : Nat} (hk : Bytes (clampL ks)) (hu : Repr (fromL us) m) : ∃ q, xL ks us = bytesL q ∧ Repr q (quoN (ladN (clampL ks) m 255)) := by
  obtain ⟨h1, h2, _, _⟩ := ladL_repr hk hu 255
  exact ⟨_, rfl, (h1.mul h2.inv).mod⟩
set_option maxRecDepth 100000
theorem or_disj (k m : Nat) {x y : Nat} (hk : k + m = 64) (hx : x < 2 ^ k) : bw .or .u64 (x : Int) (((y * 2 ^ k % 2 ^ 64 : Nat)) : Int) = ((x + y * 2 ^ k % 2 ^ 64 : Nat) : Int) := by
  have e : y * 2 ^ k % 2 ^ 64 = 2 ^ k * (y % 2 ^ m) := by rw [← hk, Nat.pow_add, Nat.mul_comm y, Nat.mul_mod_mul_left]
  have hl : 2 ^ k < 2 ^ 64 ∨ 2 ^ k = 2 ^ 64 := by
    have : 2 ^ k ≤ 2 ^ 64 := Nat.pow_le_pow_right (by decide) (by omega)
    omega
  have h := bw_nat .or .u64 rfl x (y * 2 ^ k % 2 ^ 64) (by show x < 2 ^ 64; omega) (Nat.mod_lt _ (by decide))
  simp only at h
  rw [h, e, Nat.or_comm, ← Nat.two_pow_add_eq_or_of_lt hx, Nat.add_comm]
theorem shl64_nat (y k : Nat) : shl64 (y : Int) k = ((y * 2 ^ k % 2 ^ 64 : Nat) : Int) := by
  rw [shl64, w64_eq]
  have : ((2 : Int) ^ k) = ((2 ^ k : Nat) : Int) := by rw [Int.natCast_pow]; rfl
  rw [this, ← Int.natCast_mul]
  omega
theorem shr_nat (y k : Nat) : shr (y : Int) k = ((y / 2 ^ k : Nat) : Int) := by
  rw [shr, fdiv_pow]
  have : ((2 : Int) ^ k) = ((2 ^ k : Nat) : Int) := by rw [Int.natCast_pow]; rfl
  rw [this, ← Int.natCast_ediv]
theorem m51_nat {y : Nat} (h : y < 18446744073709551616) : m51 (y : Int) = ((y % 2251799813685248 : Nat) : Int) := by
  rw [m51_eq (by omega) (by omega)]; omega
theorem byteK_nat (y k : Nat) : byteK (y : Int) k = ((y / 2 ^ (8 * k) % 256 : Nat) : Int) := by
  have := shr_nat y (8 * k)
  rw [byteK]
  rw [shr] at this
  rw [this, wrap_u8]
  omega
def leB (n : Nat) : Nat → List Int
  | 0 => []
  | k + 1 => ((n % 256 : Nat) : Int) :: leB (n / 256) k
theorem leB_append (n : Nat) : ∀ j k, leB n (j + k) = leB n j ++ leB (n / 256 ^ j) k
  | 0, k => by simp [leB]
  | j + 1, k => by
    rw [show j + 1 + k = (j + k) + 1 by omega]
    simp only [leB, List.cons_append, List.cons.injEq, true_and]
    rw [leB_append (n / 256) j k, Nat.div_div_eq_div_mul, Nat.pow_succ, Nat.mul_comm 256]
theorem leB_mod (n : Nat) : ∀ k, leB (n % 256 ^ k) k = leB n k
  | 0 => rfl
  | k + 1 => by
    simp only [leB]
    have e1 : n % 256 ^ (k + 1) % 256 = n % 256 := by rw [Nat.pow_succ]; exact Nat.mod_mod_of_dvd _ ⟨256 ^ k, by rw [Nat.mul_comm]⟩
    have e2 : n % 256 ^ (k + 1) / 256 = n / 256 % 256 ^ k := by rw [Nat.pow_succ, Nat.mul_comm, Nat.mod_mul_right_div_self]
    rw [e1, e2, leB_mod]
theorem word8_nat (y : Nat) : word8 (y : Int) = leB y 8 := by
  simp only [word8, byteK_nat, leB, Nat.div_div_eq_div_mul, Nat.reducePow, Nat.reduceMul, Nat.div_one]
theorem five_words {A B C D E : Nat} (ha : A < 2251799813685248) (hb : B < 2251799813685248) (hc : C < 2251799813685248) (hd : D < 2251799813685248) (he : E < 2251799813685248) {N : Nat}
    (hN : N = A + 2251799813685248 * B + 5070602400912917605986812821504 * C + 11417981541647679048466287755595961091061972992 * D + 25711008708143844408671393477458601640355247900524685364822016 * E) :
    A + B * 2251799813685248 % 18446744073709551616 = N % 18446744073709551616 ∧ B / 8192 + C * 274877906944 % 18446744073709551616 = N / 18446744073709551616 % 18446744073709551616 ∧
    C / 67108864 + D * 33554432 % 18446744073709551616 = N / 18446744073709551616 / 18446744073709551616 % 18446744073709551616 ∧ D / 549755813888 + E * 4096 % 18446744073709551616 = N / 18446744073709551616 / 18446744073709551616 / 18446744073709551616 := by
  have h1 : N / 18446744073709551616 = B / 8192 + 274877906944 * C + 618970019642690137449562112 * D + 1393796574908163946345982392040522594123776 * E := by omega
  have h2 : N / 18446744073709551616 / 18446744073709551616 = C / 67108864 + 33554432 * D + 75557863725914323419136 * E := by rw [h1]; omega
  have h3 : N / 18446744073709551616 / 18446744073709551616 / 18446744073709551616 = D / 549755813888 + 4096 * E := by rw [h2]; omega
  refine ⟨by omega, by rw [h1]; omega, by rw [h2]; omega, by rw [h3]; omega⟩
theorem words_bytes {A B C D E : Nat} (ha : A < 2251799813685248) (hb : B < 2251799813685248) (hc : C < 2251799813685248) (hd : D < 2251799813685248) (he : E < 2251799813685248) :
    word8 (bw .or .u64 (A : Int) (shl64 (B : Int) 51)) ++ word8 (bw .or .u64 (shr (B : Int) 13) (shl64 (C : Int) 38)) ++
    word8 (bw .or .u64 (shr (C : Int) 26) (shl64 (D : Int) 25)) ++ word8 (bw .or .u64 (shr (D : Int) 39) (shl64 (E : Int) 12)) =
    leB (A + 2251799813685248 * B + 5070602400912917605986812821504 * C + 11417981541647679048466287755595961091061972992 * D + 25711008708143844408671393477458601640355247900524685364822016 * E) 32 := by
  obtain ⟨h1, h2, h3, h4⟩ := five_words ha hb hc hd he rfl
  generalize A + 2251799813685248 * B + 5070602400912917605986812821504 * C + 11417981541647679048466287755595961091061972992 * D + 25711008708143844408671393477458601640355247900524685364822016 * E = N at *
  simp only [shl64_nat, shr_nat]
  rw [or_disj 51 13 rfl (by omega), or_disj 38 26 rfl (by omega), or_disj 25 39 rfl (by omega), or_disj 12 52 rfl (by omega)]
  simp only [word8_nat]
  have g1 : A + B * 2 ^ 51 % 2 ^ 64 = N % 256 ^ 8 := h1
  have g2 : B / 2 ^ 13 + C * 2 ^ 38 % 2 ^ 64 = N / 256 ^ 8 % 256 ^ 8 := h2
  have g3 : C / 2 ^ 26 + D * 2 ^ 25 % 2 ^ 64 = N / 256 ^ 8 / 256 ^ 8 % 256 ^ 8 := h3
  have g4 : D / 2 ^ 39 + E * 2 ^ 12 % 2 ^ 64 = N / 256 ^ 8 / 256 ^ 8 / 256 ^ 8 := h4
  rw [g1, g2, g3, g4, leB_mod, leB_mod, leB_mod, show 32 = 8 + (8 + (8 + 8)) from rfl, leB_append, leB_append _ 8 (8 + 8), leB_append _ 8 8]
  simp only [List.append_assoc]
theorem bytes5_val {a b c d e : Int} (ha : 0 ≤ a ∧ a < 2251799813685248) (hb : 0 ≤ b ∧ b < 2251799813685248) (hc : 0 ≤ c ∧ c < 2251799813685248) (hd : 0 ≤ d ∧ d < 2251799813685248) (he : 0 ≤ e ∧ e < 2251799813685248) {n : Nat} (hn : val [a, b, c, d, e] % pI = (n : Int)) :
    bytes5 a b c d e = leB n 32 := by
  simp only [bytes5, w64_eq, sh51_eq]
  generalize q0 : (e + (d + (c + (b + (a + 19) % 18446744073709551616 / 2251799813685248) % 18446744073709551616 / 2251799813685248) % 18446744073709551616 / 2251799813685248) % 18446744073709551616 / 2251799813685248) % 18446744073709551616 / 2251799813685248 = q
  rw [Int.emod_eq_of_lt (a := a + 19) (by omega) (by omega)] at q0
  rw [Int.emod_eq_of_lt (a := b + (a + 19) / 2251799813685248) (by omega) (by omega)] at q0
  generalize u1 : b + (a + 19) / 2251799813685248 = b1 at q0
  rw [Int.emod_eq_of_lt (a := c + b1 / 2251799813685248) (by omega) (by omega)] at q0
  generalize u2 : c + b1 / 2251799813685248 = c1 at q0
  rw [Int.emod_eq_of_lt (a := d + c1 / 2251799813685248) (by omega) (by omega)] at q0
  generalize u3 : d + c1 / 2251799813685248 = d1 at q0
  rw [Int.emod_eq_of_lt (a := e + d1 / 2251799813685248) (by omega) (by omega)] at q0
  have hq : q = (val [a, b, c, d, e] + 19) / 57896044618658097711785492504343953926634992332820282019728792003956564819968 := by
    simp only [val]; omega
  clear u1 u2 u3
  have hq1 : q = 0 ∨ q = 1 := by simp only [val] at hq; omega
  have hv : (n : Int) = val [a, b, c, d, e] - q * pI := by
    rw [← hn]
    simp only [val, pI] at *
    clear q0
    rcases hq1 with rfl | rfl <;> omega
  clear q0
  generalize e1 : (a + 19 * q % 18446744073709551616) % 18446744073709551616 = a'
  have h1 : a' = a + 19 * q := by omega
  generalize e2 : (b + a' / 2251799813685248) % 18446744073709551616 = b'
  have h2 : b' = b + a' / 2251799813685248 := by omega
  generalize e3 : (c + b' / 2251799813685248) % 18446744073709551616 = c'
  have h3 : c' = c + b' / 2251799813685248 := by omega
  generalize e4 : (d + c' / 2251799813685248) % 18446744073709551616 = d'
  have h4 : d' = d + c' / 2251799813685248 := by omega
  generalize e5 : (e + d' / 2251799813685248) % 18446744073709551616 = e'
  have h5 : e' = e + d' / 2251799813685248 := by omega
  clear e1 e2 e3 e4 e5
  obtain ⟨A, rfl⟩ := Int.eq_ofNat_of_zero_le (show 0 ≤ a' by omega)
  obtain ⟨B, rfl⟩ := Int.eq_ofNat_of_zero_le (show 0 ≤ b' by omega)
  obtain ⟨C, rfl⟩ := Int.eq_ofNat_of_zero_le (show 0 ≤ c' by omega)
  obtain ⟨D, rfl⟩ := Int.eq_ofNat_of_zero_le (show 0 ≤ d' by omega)
  obtain ⟨E, rfl⟩ := Int.eq_ofNat_of_zero_le (show 0 ≤ e' by omega)
  rw [m51_nat (by omega), m51_nat (by omega), m51_nat (by omega), m51_nat (by omega), m51_nat (by omega)]
  rw [words_bytes (by omega) (by omega) (by omega) (by omega) (by omega)]
  congr 1
  simp only [val, pI] at *
  rcases hq1 with rfl | rfl <;> omega
set_option maxRecDepth 100000
theorem carry_exact {a b c d e : Int} (ha : 0 ≤ a ∧ a < 2251799813685248) (hb : 0 ≤ b ∧ b < 2251799813685248) (hc : 0 ≤ c ∧ c < 2251799813685248) (hd : 0 ≤ d ∧ d < 2251799813685248) (he : 0 ≤ e ∧ e < 2251799813693440) :
    ∃ a' b' c' d' e', carry5 a b c d e = [a' % 2251799813685248, b' % 2251799813685248, c' % 2251799813685248, d' % 2251799813685248, e'] ∧ a' = a + 19 * (e / 2251799813685248) ∧ b' = b + a' / 2251799813685248 ∧ c' = c + b' / 2251799813685248 ∧ d' = d + c' / 2251799813685248 ∧ e' = e % 2251799813685248 + d' / 2251799813685248 := by
  simp only [carry5, w64_eq, sh51_eq]
  rw [m51_eq (n := e) (by omega) (by omega)]
  generalize e1 : (a + 19 * (e / 2251799813685248) % 18446744073709551616) % 18446744073709551616 = a'
  have h1 : a' = a + 19 * (e / 2251799813685248) := by omega
  generalize e2 : (b + a' / 2251799813685248) % 18446744073709551616 = b'
  have h2 : b' = b + a' / 2251799813685248 := by omega
  generalize e3 : (c + b' / 2251799813685248) % 18446744073709551616 = c'
  have h3 : c' = c + b' / 2251799813685248 := by omega
  generalize e4 : (d + c' / 2251799813685248) % 18446744073709551616 = d'
  have h4 : d' = d + c' / 2251799813685248 := by omega
  clear e1 e2 e3 e4
  rw [m51_eq (n := a') (by omega) (by omega), m51_eq (n := b') (by omega) (by omega), m51_eq (n := c') (by omega) (by omega), m51_eq (n := d') (by omega) (by omega)]
  have k5 : d' / 2251799813685248 ≤ 4096 := by omega
  have k6 : 0 ≤ d' / 2251799813685248 := by omega
  have k7 : 0 ≤ e % 2251799813685248 ∧ e % 2251799813685248 ≤ 2251799813685247 := by omega
  rw [Int.emod_eq_of_lt (a := e % 2251799813685248 + d' / 2251799813685248) (by clear h1 h2 h3 h4; omega) (by clear h1 h2 h3 h4; omega)]
  exact ⟨a', b', c', d', _, rfl, h1, h2, h3, h4, rfl⟩
theorem bytesL_repr {xs : List Int} {n : Nat} (h : Repr xs n) : bytesL xs = leB (n % pN) 32 := by
  obtain ⟨⟨a, b, c, d, e, rfl, ha, hb, hc, hd, he⟩, hv⟩ := h
  obtain ⟨-, v1⟩ := carry_val (a := a) (b := b) (c := c) (d := d) (e := e) (by omega) (by omega) (by omega) (by omega) (by omega)
  obtain ⟨a', b', c', d', e', h1, g1, g2, g3, g4, g5⟩ := carry_exact ha hb hc hd he
  have he' : 0 ≤ e' ∧ e' ≤ 2251799813685248 := by omega
  rw [h1] at v1
  obtain ⟨ma, qa⟩ : ∃ x, a' % 2251799813685248 = x ∧ 0 ≤ x ∧ x < 2251799813685248 := ⟨_, rfl, by omega, by omega⟩
  obtain ⟨mb, qb⟩ : ∃ x, b' % 2251799813685248 = x ∧ 0 ≤ x ∧ x < 2251799813685248 := ⟨_, rfl, by omega, by omega⟩
  obtain ⟨mc, qc⟩ : ∃ x, c' % 2251799813685248 = x ∧ 0 ≤ x ∧ x < 2251799813685248 := ⟨_, rfl, by omega, by omega⟩
  obtain ⟨md, qd⟩ : ∃ x, d' % 2251799813685248 = x ∧ 0 ≤ x ∧ x < 2251799813685248 := ⟨_, rfl, by omega, by omega⟩
  rw [qa.1, qb.1, qc.1, qd.1] at h1 v1
  clear g1 g2 g3 g4 g5
  obtain ⟨-, v2⟩ := carry_val (a := ma) (b := mb) (c := mc) (d := md) (e := e') (by omega) (by omega) (by omega) (by omega) (by omega)
  obtain ⟨a2, b2, c2, d2, e2, h2, g1, g2, g3, g4, g5⟩ := carry_exact qa.2 qb.2 qc.2 qd.2 (e := e') (by omega)
  rw [h2] at v2
  have hL : carryL (carryL [a, b, c, d, e]) = [a2 % 2251799813685248, b2 % 2251799813685248, c2 % 2251799813685248, d2 % 2251799813685248, e2] := by
    simp only [carryL]
    rw [h1]
    simp only [carryL]
    rw [h2]
  simp only [bytesL]
  rw [hL]
  have he2 : 0 ≤ e2 ∧ e2 < 2251799813685248 := by
    replace qa := qa.2; replace qb := qb.2; replace qc := qc.2; replace qd := qd.2
    clear v1 v2 hv h1 h2 hL ha hb hc hd he
    rcases (show e' = 2251799813685248 ∨ e' < 2251799813685248 by omega) with hh | hh <;> omega
  refine bytes5_val (by omega) (by omega) (by omega) (by omega) he2 ?_
  rw [v2, Int.sub_mul_emod_self_right, v1, Int.sub_mul_emod_self_right, hv]
def leN : List Int → Nat
  | [] => 0
  | x :: r => x.toNat + 256 * leN r
theorem orB_nat {x c k : Nat} (hx : x < 2 ^ (8 * k)) (hc : c < 256) (hk : k < 8) : orB (x : Int) (c : Int) k = ((x + c * 2 ^ (8 * k) : Nat) : Int) := by
  rw [orB]
  have h1 : w64 (c : Int) = (c : Int) := by rw [w64_eq]; omega
  have h2 : w64 ((c : Int) * 2 ^ (8 * k)) = ((c * 2 ^ (8 * k) % 2 ^ 64 : Nat) : Int) := shl64_nat c (8 * k)
  rw [h1, h2, or_disj (8 * k) (64 - 8 * k) (by omega) hx]
  have h3 : c * 2 ^ (8 * k) < 2 ^ 64 := by
    have e : (2 : Nat) ^ 64 = 2 ^ (64 - 8 * k) * 2 ^ (8 * k) := by rw [← Nat.pow_add]; congr 1; omega
    rw [e]
    refine Nat.mul_lt_mul_of_pos_right ?_ (Nat.pow_pos (by decide))
    refine Nat.lt_of_lt_of_le hc ?_
    exact Nat.pow_le_pow_right (n := 2) (by decide) (by omega : 8 ≤ 64 - 8 * k)
  rw [Nat.mod_eq_of_lt h3]
theorem wordL_nat {a b c d e f g h : Nat} {r : List Int} (ha : a < 256) (hb : b < 256) (hc : c < 256) (hd : d < 256) (he : e < 256) (hf : f < 256) (hg : g < 256) (hh : h < 256) :
    wordL ((a : Int) :: (b : Int) :: (c : Int) :: (d : Int) :: (e : Int) :: (f : Int) :: (g : Int) :: (h : Int) :: r) = ((a + 256 * b + 65536 * c + 16777216 * d + 4294967296 * e + 1099511627776 * f + 281474976710656 * g + 72057594037927936 * h : Nat) : Int) := by
  simp only [wordL, word8of]
  have z : (0 : Int) = ((0 : Nat) : Int) := rfl
  rw [z, orB_nat (by decide) ha (by omega), orB_nat (by simp only [Nat.reduceMul, Nat.reducePow]; omega) hb (by omega), orB_nat (by simp only [Nat.reduceMul, Nat.reducePow]; omega) hc (by omega), orB_nat (by simp only [Nat.reduceMul, Nat.reducePow]; omega) hd (by omega), orB_nat (by simp only [Nat.reduceMul, Nat.reducePow]; omega) he (by omega), orB_nat (by simp only [Nat.reduceMul, Nat.reducePow]; omega) hf (by omega), orB_nat (by simp only [Nat.reduceMul, Nat.reducePow]; omega) hg (by omega), orB_nat (by simp only [Nat.reduceMul, Nat.reducePow]; omega) hh (by omega)]
  simp only [Nat.reduceMul, Nat.reducePow]
  omega
theorem and63 {z : Nat} (hz : z < 18446744073709551616) : bw .and .u64 (z : Int) 9223372036854775807 = ((z % 9223372036854775808 : Nat) : Int) := by
  have h := bw_nat .and .u64 rfl z 9223372036854775807 (by simp only [IntKind.bits]; omega) (by decide)
  have e : z &&& 9223372036854775807 = z % 9223372036854775808 := and_mask z 63
  simp only [e] at h
  exact h
theorem from_words {w x y z : Nat} (hw : w < 18446744073709551616) (hx : x < 18446744073709551616) (hy : y < 18446744073709551616) (hz : z < 9223372036854775808) {N : Nat} (hN : N = w + 18446744073709551616 * x + 340282366920938463463374607431768211456 * y + 6277101735386680763835789423207666416102355444464034512896 * z) :
    Repr [m51 (w : Int), m51 (bw .or .u64 (shr (w : Int) 51) (shl64 (x : Int) 13)), m51 (bw .or .u64 (shr (x : Int) 38) (shl64 (y : Int) 26)), m51 (bw .or .u64 (shr (y : Int) 25) (shl64 (z : Int) 39)), shr (z : Int) 12] N := by
  simp only [shl64_nat, shr_nat]
  rw [or_disj 13 51 rfl (by omega), or_disj 26 38 rfl (by omega), or_disj 39 25 rfl (by omega)]
  rw [m51_nat (by omega), m51_nat (by omega), m51_nat (by omega), m51_nat (by omega)]
  refine repr_of ⟨_, _, _, _, _, rfl, by omega, by omega, by omega, by omega, by omega⟩ 0 ?_
  simp only [val]
  subst hN
  have e1 : ((w / 2 ^ 51 + x * 2 ^ 13 % 2 ^ 64) % 2251799813685248 : Nat) = w / 2251799813685248 + 8192 * (x % 274877906944) := by omega
  have e2 : ((x / 2 ^ 38 + y * 2 ^ 26 % 2 ^ 64) % 2251799813685248 : Nat) = x / 274877906944 + 67108864 * (y % 33554432) := by omega
  have e3 : ((y / 2 ^ 25 + z * 2 ^ 39 % 2 ^ 64) % 2251799813685248 : Nat) = y / 33554432 + 549755813888 * (z % 4096) := by omega
  rw [e1, e2, e3]
  omega
set_option maxRecDepth 100000
theorem word8of_nat {a b c d e f g h : Int} (ha : 0 ≤ a ∧ a < 256) (hb : 0 ≤ b ∧ b < 256) (hc : 0 ≤ c ∧ c < 256) (hd : 0 ≤ d ∧ d < 256) (he : 0 ≤ e ∧ e < 256) (hf : 0 ≤ f ∧ f < 256) (hg : 0 ≤ g ∧ g < 256) (hh : 0 ≤ h ∧ h < 256) :
    word8of a b c d e f g h = (leN [a, b, c, d, e, f, g, h] : Int) ∧ leN [a, b, c, d, e, f, g, h] < 18446744073709551616 := by
  obtain ⟨a, rfl⟩ := Int.eq_ofNat_of_zero_le ha.1
  obtain ⟨b, rfl⟩ := Int.eq_ofNat_of_zero_le hb.1
  obtain ⟨c, rfl⟩ := Int.eq_ofNat_of_zero_le hc.1
  obtain ⟨d, rfl⟩ := Int.eq_ofNat_of_zero_le hd.1
  obtain ⟨e, rfl⟩ := Int.eq_ofNat_of_zero_le he.1
  obtain ⟨f, rfl⟩ := Int.eq_ofNat_of_zero_le hf.1
  obtain ⟨g, rfl⟩ := Int.eq_ofNat_of_zero_le hg.1
  obtain ⟨h, rfl⟩ := Int.eq_ofNat_of_zero_le hh.1
  have k := wordL_nat (r := []) (a := a) (b := b) (c := c) (d := d) (e := e) (f := f) (g := g) (h := h) (by omega) (by omega) (by omega) (by omega) (by omega) (by omega) (by omega) (by omega)
  simp only [wordL] at k
  rw [k]
  simp only [leN, Int.toNat_natCast]
  constructor <;> omega
theorem leN_append : ∀ (a b : List Int), leN (a ++ b) = leN a + 256 ^ a.length * leN b
  | [], b => by simp [leN]
  | x :: a, b => by
    simp only [List.cons_append, leN, leN_append a b, List.length_cons, Nat.pow_succ]
    rw [Nat.mul_add, ← Nat.mul_assoc, Nat.mul_comm 256 (256 ^ _)]
    omega
theorem eight' {xs : List Int} (h : 8 ≤ xs.length) : ∃ a b c d e f g i r, xs = [a, b, c, d, e, f, g, i] ++ r ∧ r.length = xs.length - 8 := by
  match xs, h with
  | a :: b :: c :: d :: e :: f :: g :: i :: r, _ => exact ⟨a, b, c, d, e, f, g, i, r, rfl, by simp⟩
theorem fromL_repr {us : List Int} (hl : us.length = 32) (hb : Bytes us) : Repr (fromL us) (leN us % 57896044618658097711785492504343953926634992332820282019728792003956564819968) := by
  obtain ⟨a0, a1, a2, a3, a4, a5, a6, a7, r, rfl, hr⟩ := eight' (xs := us) (by omega)
  obtain ⟨b0, b1, b2, b3, b4, b5, b6, b7, s, rfl, hs⟩ := eight' (xs := r) (by omega)
  obtain ⟨c0, c1, c2, c3, c4, c5, c6, c7, t, rfl, ht⟩ := eight' (xs := s) (by omega)
  obtain ⟨d0, d1, d2, d3, d4, d5, d6, d7, u, rfl, hu⟩ := eight' (xs := t) (by omega)
  obtain rfl : u = [] := List.eq_nil_of_length_eq_zero (by omega)
  have ha0 := hb a0 (by simp)
  have ha1 := hb a1 (by simp)
  have ha2 := hb a2 (by simp)
  have ha3 := hb a3 (by simp)
  have ha4 := hb a4 (by simp)
  have ha5 := hb a5 (by simp)
  have ha6 := hb a6 (by simp)
  have ha7 := hb a7 (by simp)
  have hb0 := hb b0 (by simp)
  have hb1 := hb b1 (by simp)
  have hb2 := hb b2 (by simp)
  have hb3 := hb b3 (by simp)
  have hb4 := hb b4 (by simp)
  have hb5 := hb b5 (by simp)
  have hb6 := hb b6 (by simp)
  have hb7 := hb b7 (by simp)
  have hc0 := hb c0 (by simp)
  have hc1 := hb c1 (by simp)
  have hc2 := hb c2 (by simp)
  have hc3 := hb c3 (by simp)
  have hc4 := hb c4 (by simp)
  have hc5 := hb c5 (by simp)
  have hc6 := hb c6 (by simp)
  have hc7 := hb c7 (by simp)
  have hd0 := hb d0 (by simp)
  have hd1 := hb d1 (by simp)
  have hd2 := hb d2 (by simp)
  have hd3 := hb d3 (by simp)
  have hd4 := hb d4 (by simp)
  have hd5 := hb d5 (by simp)
  have hd6 := hb d6 (by simp)
  have hd7 := hb d7 (by simp)
  obtain ⟨wa, la⟩ := word8of_nat ha0 ha1 ha2 ha3 ha4 ha5 ha6 ha7
  obtain ⟨wb, lb⟩ := word8of_nat hb0 hb1 hb2 hb3 hb4 hb5 hb6 hb7
  obtain ⟨wc, lc⟩ := word8of_nat hc0 hc1 hc2 hc3 hc4 hc5 hc6 hc7
  obtain ⟨wd, ld⟩ := word8of_nat hd0 hd1 hd2 hd3 hd4 hd5 hd6 hd7
  have e : fromL ([a0, a1, a2, a3, a4, a5, a6, a7] ++ ([b0, b1, b2, b3, b4, b5, b6, b7] ++ ([c0, c1, c2, c3, c4, c5, c6, c7] ++ ([d0, d1, d2, d3, d4, d5, d6, d7] ++ [])))) = [m51 (word8of a0 a1 a2 a3 a4 a5 a6 a7), m51 (bw .or .u64 (shr (word8of a0 a1 a2 a3 a4 a5 a6 a7) 51) (shl64 (word8of b0 b1 b2 b3 b4 b5 b6 b7) 13)), m51 (bw .or .u64 (shr (word8of b0 b1 b2 b3 b4 b5 b6 b7) 38) (shl64 (word8of c0 c1 c2 c3 c4 c5 c6 c7) 26)), m51 (bw .or .u64 (shr (word8of c0 c1 c2 c3 c4 c5 c6 c7) 25) (shl64 (bw .and .u64 (word8of d0 d1 d2 d3 d4 d5 d6 d7) 9223372036854775807) 39)), shr (bw .and .u64 (word8of d0 d1 d2 d3 d4 d5 d6 d7) 9223372036854775807) 12] := rfl
  rw [e, wa, wb, wc, wd, leN_append, leN_append, leN_append, leN_append]
  rw [and63 ld]
  refine from_words la lb lc (by omega) ?_
  simp only [List.length_cons, List.length_nil, Nat.reduceAdd, Nat.reducePow]
  generalize leN [a0, a1, a2, a3, a4, a5, a6, a7] = na at *
  generalize leN [b0, b1, b2, b3, b4, b5, b6, b7] = nb at *
  generalize leN [c0, c1, c2, c3, c4, c5, c6, c7] = nc at *
  generalize leN [d0, d1, d2, d3, d4, d5, d6, d7] = nd at *
  simp only [leN]
  clear hb hl e wa wb wc wd hr hs ht hu
  omega
theorem bw_u8 (op : BinOp) (x y : Int) : 0 ≤ bw op .u8 x y ∧ bw op .u8 x y < 256 := by
  have h : ∀ n : Int, 0 ≤ IntKind.u8.wrap n ∧ IntKind.u8.wrap n < 256 := fun n => by rw [wrap_u8]; omega
  unfold bw
  cases op <;> exact h _
theorem Bytes.set {ks : List Int} (h : Bytes ks) {n : Nat} {x : Int} (hx : 0 ≤ x ∧ x < 256) : Bytes (ks.set n x) := by
  intro y hy
  rcases List.mem_or_eq_of_mem_set hy with h1 | rfl
  · exact h y h1
  · exact hx
theorem clampL_bytes {ks : List Int} (h : Bytes ks) : Bytes (clampL ks) := (h.set (bw_u8 ..)).set (bw_u8 ..)
def xN (ks us : List Int) : Nat := quoN (ladN (clampL ks) (leN us % 57896044618658097711785492504343953926634992332820282019728792003956564819968) 255)
theorem xL_law {ks us : List Int} (hk : Bytes ks) (hl : us.length = 32) (hu : Bytes us) : xL ks us = leB (xN ks us) 32 := by
  obtain ⟨q, e, h⟩ := xL_repr (clampL_bytes hk) (fromL_repr hl hu)
  rw [e, bytesL_repr h]
  simp only [quoN, Nat.mod_mod, xN]
set_option maxRecDepth 100000
abbrev B32 (n : Nat) : Prop := n < 4294967296
theorem w32_nat (n : Nat) : w32 (n : Int) = ((n % 4294967296 : Nat) : Int) := by
  rw [w32, wrap_u32]; omega
theorem or32_nat {x y : Nat} (hx : B32 x) (hy : B32 y) : bw .or .u32 (x : Int) (y : Int) = ((x ||| y : Nat) : Int) ∧ B32 (x ||| y) :=
  ⟨bw_nat .or .u32 rfl x y hx hy, Nat.or_lt_two_pow (n := 32) hx hy⟩
theorem and32_nat {x y : Nat} (hx : B32 x) (hy : B32 y) : bw .and .u32 (x : Int) (y : Int) = ((x &&& y : Nat) : Int) ∧ B32 (x &&& y) :=
  ⟨bw_nat .and .u32 rfl x y hx hy, Nat.and_lt_two_pow (n := 32) _ hy⟩
theorem xor32_nat {x y : Nat} (hx : B32 x) (hy : B32 y) : bw .xor .u32 (x : Int) (y : Int) = ((x ^^^ y : Nat) : Int) ∧ B32 (x ^^^ y) :=
  ⟨bw_nat .xor .u32 rfl x y hx hy, Nat.xor_lt_two_pow (n := 32) hx hy⟩
def turnN (x n : Nat) : Nat := (x / 2 ^ n) ||| (x * 2 ^ (32 - n) % 4294967296)
theorem shl32_nat (y k : Nat) : w32 ((y : Int) * 2 ^ k) = ((y * 2 ^ k % 4294967296 : Nat) : Int) := by
  rw [← w32_nat, Int.natCast_mul, Int.natCast_pow]; rfl
theorem fdiv_nat (y k : Nat) : (y : Int).fdiv (2 ^ k) = ((y / 2 ^ k : Nat) : Int) := shr_nat y k
theorem turnS_nat {x : Nat} (hx : B32 x) (n : Nat) : turnS (x : Int) n = (turnN x n : Int) ∧ B32 (turnN x n) := by
  rw [turnS, fdiv_nat, shl32_nat]
  exact or32_nat (Nat.lt_of_le_of_lt (Nat.div_le_self _ _) hx) (Nat.mod_lt _ (by decide))
def word4N (a b c d : Nat) : Nat := (((a * 16777216 % 4294967296) ||| (b * 65536 % 4294967296)) ||| (c * 256 % 4294967296)) ||| d % 4294967296
theorem word4_nat (a b c d : Nat) (ha : a < 256) (hb : b < 256) (hc : c < 256) (hd : d < 256) : word4 (a : Int) (b : Int) (c : Int) (d : Int) = (word4N a b c d : Int) ∧ B32 (word4N a b c d) := by
  have e : ∀ x k : Nat, x < 256 → shl32 (w32 (x : Int)) k = ((x * 2 ^ k % 4294967296 : Nat) : Int) := fun x k hx => by
    rw [shl32, w32_nat, Nat.mod_eq_of_lt (by omega), shl32_nat]
  simp only [word4]
  rw [e a 24 ha, e b 16 hb, e c 8 hc, w32_nat d]
  have h1 := or32_nat (x := a * 2 ^ 24 % 4294967296) (y := b * 2 ^ 16 % 4294967296) (Nat.mod_lt _ (by decide)) (Nat.mod_lt _ (by decide))
  have h2 := or32_nat (y := c * 2 ^ 8 % 4294967296) h1.2 (Nat.mod_lt _ (by decide))
  have h3 := or32_nat (y := d % 4294967296) h2.2 (Nat.mod_lt _ (by decide))
  rw [h1.1, h2.1, h3.1]
  exact ⟨rfl, h3.2⟩
def schedNn (p q r s : Nat) : Nat :=
  (((r + s) % 4294967296 + ((turnN p 7 ^^^ turnN p 18) ^^^ p / 8)) % 4294967296 + ((turnN q 17 ^^^ turnN q 19) ^^^ q / 1024)) % 4294967296
theorem sched_nat {p q r s : Nat} (hp : B32 p) (hq : B32 q) : sched (p : Int) (q : Int) (r : Int) (s : Int) = (schedNn p q r s : Int) ∧ B32 (schedNn p q r s) := by
  have a1 := turnS_nat hp 7
  have a2 := turnS_nat hp 18
  have a3 := xor32_nat a1.2 a2.2
  have a4 := xor32_nat a3.2 (y := p / 2 ^ 3) (Nat.lt_of_le_of_lt (Nat.div_le_self _ _) hp)
  have b1 := turnS_nat hq 17
  have b2 := turnS_nat hq 19
  have b3 := xor32_nat b1.2 b2.2
  have b4 := xor32_nat b3.2 (y := q / 2 ^ 10) (Nat.lt_of_le_of_lt (Nat.div_le_self _ _) hq)
  simp only [sched, fdiv_nat]
  rw [a1.1, a2.1, a3.1, a4.1, b1.1, b2.1, b3.1, b4.1, ← Int.natCast_add, w32_nat, ← Int.natCast_add, w32_nat, ← Int.natCast_add, w32_nat]
  exact ⟨rfl, Nat.mod_lt _ (by decide)⟩
structure V8 where
  a : Nat
  b : Nat
  c : Nat
  d : Nat
  e : Nat
  f : Nat
  g : Nat
  h : Nat
def V8.w (s : V8) : W8 := ⟨s.a, s.b, s.c, s.d, s.e, s.f, s.g, s.h⟩
def V8.ok (s : V8) : Prop := B32 s.a ∧ B32 s.b ∧ B32 s.c ∧ B32 s.d ∧ B32 s.e ∧ B32 s.f ∧ B32 s.g ∧ B32 s.h
def roundTN (s : V8) (k x : Nat) : Nat :=
  ((((s.h + ((turnN s.e 6 ^^^ turnN s.e 11) ^^^ turnN s.e 25)) % 4294967296 + (s.g ^^^ (s.e &&& (s.f ^^^ s.g)))) % 4294967296 + k) % 4294967296 + x) % 4294967296
def roundUN (s : V8) : Nat := (((turnN s.a 2 ^^^ turnN s.a 13) ^^^ turnN s.a 22) + ((s.a &&& s.b) ||| (s.c &&& (s.a ||| s.b)))) % 4294967296
def roundN (s : V8) (k x : Nat) : V8 := ⟨(roundTN s k x + roundUN s) % 4294967296, s.a, s.b, s.c, (s.d + roundTN s k x) % 4294967296, s.e, s.f, s.g⟩
theorem roundT_nat {s : V8} (h : s.ok) (k x : Nat) : roundT s.w (k : Int) (x : Int) = (roundTN s k x : Int) ∧ B32 (roundTN s k x) := by
  obtain ⟨ha, hb, hc, hd, he, hf, hg, hh⟩ := h
  have a1 := turnS_nat he 6
  have a2 := turnS_nat he 11
  have a3 := turnS_nat he 25
  have a4 := xor32_nat a1.2 a2.2
  have a5 := xor32_nat a4.2 a3.2
  have b1 := xor32_nat hf hg
  have b2 := and32_nat he b1.2
  have b3 := xor32_nat hg b2.2
  simp only [roundT, V8.w, xor32, and32]
  rw [a1.1, a2.1, a3.1, a4.1, a5.1, b1.1, b2.1, b3.1, ← Int.natCast_add, w32_nat, ← Int.natCast_add, w32_nat, ← Int.natCast_add, w32_nat, ← Int.natCast_add, w32_nat]
  exact ⟨rfl, Nat.mod_lt _ (by decide)⟩
theorem roundU_nat {s : V8} (h : s.ok) : roundU s.w = (roundUN s : Int) ∧ B32 (roundUN s) := by
  obtain ⟨ha, hb, hc, hd, he, hf, hg, hh⟩ := h
  have a1 := turnS_nat ha 2
  have a2 := turnS_nat ha 13
  have a3 := turnS_nat ha 22
  have a4 := xor32_nat a1.2 a2.2
  have a5 := xor32_nat a4.2 a3.2
  have b1 := and32_nat ha hb
  have b2 := or32_nat ha hb
  have b3 := and32_nat hc b2.2
  have b4 := or32_nat b1.2 b3.2
  simp only [roundU, V8.w, xor32, and32, or32]
  rw [a1.1, a2.1, a3.1, a4.1, a5.1, b1.1, b2.1, b3.1, b4.1, ← Int.natCast_add, w32_nat]
  exact ⟨rfl, Nat.mod_lt _ (by decide)⟩
theorem roundS_nat {s : V8} (h : s.ok) (k x : Nat) : roundS s.w (k : Int) (x : Int) = (roundN s k x).w ∧ (roundN s k x).ok := by
  have t := roundT_nat h k x
  have u := roundU_nat h
  obtain ⟨ha, hb, hc, hd, he, hf, hg, hh⟩ := h
  simp only [roundS]
  rw [t.1, u.1, ← Int.natCast_add, w32_nat]
  have e : w32 (s.w.d + (roundTN s k x : Int)) = ((s.d + roundTN s k x) % 4294967296 : Nat) := by
    show w32 ((s.d : Int) + _) = _
    rw [← Int.natCast_add, w32_nat]
  rw [e]
  exact ⟨rfl, Nat.mod_lt _ (by decide), ha, hb, hc, Nat.mod_lt _ (by decide), he, hf, hg⟩
def castL (l : List Nat) : List Int := l.map fun (n : Nat) => (n : Int)
def n0 (l : List Nat) (i : Nat) : Nat := l.getD i 0
theorem g0_cast (l : List Nat) (i : Nat) : g0 (castL l) i = (n0 l i : Int) := by
  simp only [g0, n0, castL, List.getD_eq_getElem?_getD, List.getElem?_map]
  cases l[i]? <;> rfl
theorem castL_set (l : List Nat) (i n : Nat) : (castL l).set i (n : Int) = castL (l.set i n) := by simp [castL, List.map_set]
def All32 (l : List Nat) : Prop := ∀ x ∈ l, B32 x
def All8 (l : List Nat) : Prop := ∀ x ∈ l, x < 256
theorem n0_lt {P : Nat → Prop} {l : List Nat} (h : ∀ x ∈ l, P x) (h0 : P 0) (i : Nat) : P (n0 l i) := by
  rw [n0, List.getD_eq_getElem?_getD]
  cases e : l[i]? with
  | none => exact h0
  | some x => exact h x (List.mem_of_getElem? e)
theorem set_all {P : Nat → Prop} {l : List Nat} (h : ∀ x ∈ l, P x) {n : Nat} (hn : P n) (i : Nat) : ∀ x ∈ l.set i n, P x := by
  intro y hy
  rcases List.mem_or_eq_of_mem_set hy with h1 | rfl
  · exact h y h1
  · exact hn
def loadN (xs : List Nat) : Nat → List Nat
  | 0 => List.replicate 64 0
  | i + 1 => (loadN xs i).set i (word4N (n0 xs (4 * i)) (n0 xs (4 * i + 1)) (n0 xs (4 * i + 2)) (n0 xs (4 * i + 3)))
theorem loadL_nat {xs : List Nat} (h : All8 xs) : ∀ i, loadL (castL xs) i = castL (loadN xs i) ∧ All32 (loadN xs i)
  | 0 => ⟨rfl, by intro x hx; simp only [loadN, List.mem_replicate] at hx; rw [hx.2]; decide⟩
  | i + 1 => by
    obtain ⟨h1, h2⟩ := loadL_nat h i
    have hz : (0 : Nat) < 256 := by decide
    have w := word4_nat _ _ _ _ (n0_lt h hz (4 * i)) (n0_lt h hz (4 * i + 1)) (n0_lt h hz (4 * i + 2)) (n0_lt h hz (4 * i + 3))
    simp only [loadL, loadN, h1, g0_cast]
    rw [w.1, castL_set]
    exact ⟨rfl, set_all h2 w.2 i⟩
def schedLN (xs : List Nat) : Nat → List Nat
  | 0 => loadN xs 16
  | i + 1 => (schedLN xs i).set (16 + i) (schedNn (n0 (schedLN xs i) (1 + i)) (n0 (schedLN xs i) (14 + i)) (n0 (schedLN xs i) i) (n0 (schedLN xs i) (9 + i)))
theorem schedL_nat {xs : List Nat} (h : All8 xs) : ∀ i, schedL (castL xs) i = castL (schedLN xs i) ∧ All32 (schedLN xs i)
  | 0 => loadL_nat h 16
  | i + 1 => by
    obtain ⟨h1, h2⟩ := schedL_nat h i
    have hz : B32 0 := by decide
    have w := sched_nat (r := n0 (schedLN xs i) i) (s := n0 (schedLN xs i) (9 + i)) (n0_lt h2 hz (1 + i)) (n0_lt h2 hz (14 + i))
    simp only [schedL, schedLN, h1, g0_cast]
    rw [w.1, castL_set]
    exact ⟨rfl, set_all h2 w.2 _⟩
def shaKN : List Nat := shaK.map Int.toNat
theorem shaK_nat : shaK = castL shaKN := by kernel_rfl
def roundsN (ws : List Nat) (s : V8) : Nat → V8
  | 0 => s
  | i + 1 => roundN (roundsN ws s i) (n0 shaKN i) (n0 ws i)
theorem roundsL_nat {ws : List Nat} {s : V8} (hs : s.ok) : ∀ i, roundsL (castL ws) s.w i = (roundsN ws s i).w ∧ (roundsN ws s i).ok
  | 0 => ⟨rfl, hs⟩
  | i + 1 => by
    obtain ⟨h1, h2⟩ := roundsL_nat hs i
    simp only [roundsL, roundsN]
    rw [h1, shaK_nat, g0_cast, g0_cast]
    exact roundS_nat h2 _ _
def addWN (st ws : List Nat) : Nat → List Nat
  | 0 => st
  | i + 1 => (addWN st ws i).set i ((n0 (addWN st ws i) i + n0 ws i) % 4294967296)
theorem addW_nat {st ws : List Nat} (h : All32 st) : ∀ i, addW (castL st) (castL ws) i = castL (addWN st ws i) ∧ All32 (addWN st ws i)
  | 0 => ⟨rfl, h⟩
  | i + 1 => by
    obtain ⟨h1, h2⟩ := addW_nat (ws := ws) h i
    simp only [addW, addWN, h1, g0_cast]
    rw [← Int.natCast_add, w32_nat, castL_set]
    exact ⟨rfl, set_all h2 (Nat.mod_lt _ (by decide)) i⟩
def toV8 (l : List Nat) : V8 := ⟨n0 l 0, n0 l 1, n0 l 2, n0 l 3, n0 l 4, n0 l 5, n0 l 6, n0 l 7⟩
def ofV8 (s : V8) : List Nat := [s.a, s.b, s.c, s.d, s.e, s.f, s.g, s.h]
def stepSN (st xs : List Nat) : List Nat := addWN st (ofV8 (roundsN (schedLN xs 48) (toV8 st) 64)) 8
theorem stepL_nat {st xs : List Nat} (hs : All32 st) (hx : All8 xs) : stepL (castL st) (castL xs) = castL (stepSN st xs) ∧ All32 (stepSN st xs) := by
  have h1 := schedL_nat hx 48
  have hz : B32 0 := by decide
  have hv : (toV8 st).ok := ⟨n0_lt hs hz _, n0_lt hs hz _, n0_lt hs hz _, n0_lt hs hz _, n0_lt hs hz _, n0_lt hs hz _, n0_lt hs hz _, n0_lt hs hz _⟩
  have hw : toW8 (castL st) = (toV8 st).w := by simp only [toW8, g0_cast]; rfl
  obtain ⟨h2, h3⟩ := roundsL_nat (ws := schedLN xs 48) hv 64
  simp only [stepL, h1.1, hw, h2]
  have h4 : ofW8 (roundsN (schedLN xs 48) (toV8 st) 64).w = castL (ofV8 (roundsN (schedLN xs 48) (toV8 st) 64)) := rfl
  rw [h4]
  exact addW_nat hs 8
set_option maxRecDepth 100000
theorem objO_mono {P : Program} {f : FuncId} {a b : Obj1} (ha : FullOk P f (objO a)) (h : ∀ id l rest hp r, HOk hp rest → SegsWf l → ArgsOk l → b id l rest hp = some r → a id l rest hp = some r) : FullOk P f (objO b) where
  factor := objO_factor b
  sound := fun args hp v h' ι w vs hk R hfr hv => by
    have key : objO a args hp kH = some (v, h') := by
      unfold objO at hk
      split at hk <;> try (cases hk; done)
      rename_i id rest
      split at hk <;> try (cases hk; done)
      rename_i l hg
      cases e : b id l rest hp with
      | none => rw [e] at hk; cases hk
      | some r =>
        rw [e] at hk
        obtain ⟨xp, rs, hvs, hvp, hvr⟩ := hv.uncons
        have hok : HOk hp rest := .of R hvr
        have hl : SegsWf l ∧ ArgsOk l := by
          obtain ⟨p, hp', wf, hs, h0, h3⟩ := R.blk id _ hg
          refine ⟨wf, AOk_cells wf fun c hc => ?_⟩
          obtain ⟨i, hi⟩ := List.mem_iff_getElem?.1 hc
          obtain ⟨x, _, hsr⟩ := R.cell hg hp' (q := i) (v := c) hi (by intros; simp)
          exact hsr.ok
        have := h id l rest hp r hok hl.1 hl.2 e
        show (match hp.get id with
          | some ⟨_, false, .segs l⟩ => (a id l rest hp).bind fun r => kH r.1 (hp.set id (.segs r.2))
          | _ => none) = _
        rw [hg]
        show (a id l rest hp).bind _ = _
        rw [this]
        exact hk
    exact ha.sound args hp v h' ι w vs key R hfr hv
def natL (l : List Int) : List Nat := l.map Int.toNat
theorem natL_cast {l : List Int} (h : ∀ x ∈ l, 0 ≤ x) : castL (natL l) = l := by
  simp only [castL, natL, List.map_map]
  conv => rhs; rw [← List.map_id l]
  refine List.map_congr_left fun x hx => ?_
  have := h x hx
  simp only [Function.comp, id]
  omega
theorem natL_32 {l : List Int} (h : ∀ x ∈ l, rng .u32 x) : castL (natL l) = l ∧ All32 (natL l) := by
  refine ⟨natL_cast fun x hx => (h x hx rfl).1, fun n hn => ?_⟩
  simp only [natL, List.mem_map] at hn
  obtain ⟨x, hx, rfl⟩ := hn
  obtain ⟨h0, h1⟩ := h x hx rfl
  simp only [IntKind.bits] at h1
  show x.toNat < 4294967296
  omega
theorem natL_8 {l : List Int} (h : ∀ x ∈ l, rng .u8 x) : castL (natL l) = l ∧ All8 (natL l) := by
  refine ⟨natL_cast fun x hx => (h x hx rfl).1, fun n hn => ?_⟩
  simp only [natL, List.mem_map] at hn
  obtain ⟨x, hx, rfl⟩ := hn
  obtain ⟨h0, h1⟩ := h x hx rfl
  simp only [IntKind.bits] at h1
  show x.toNat < 256
  omega
def stepI (st xs : List Int) : List Int := castL (stepSN (natL st) (natL xs))
theorem stepL_eq {st xs : List Int} (hs : ∀ x ∈ st, rng .u32 x) (hx : ∀ x ∈ xs, rng .u8 x) : stepL st xs = stepI st xs := by
  have h := (stepL_nat (natL_32 hs).2 (natL_8 hx).2).1
  rw [(natL_32 hs).1, (natL_8 hx).1] at h
  exact h
def stepP (id : Nat) (l rest : List AV) (h : Heap) : Option (AV × List AV) := match l, rest with
  | [.ints .u32 8 st, .isl .u32 ks, .ints .u8 64 re, .int .i64 n], [v] =>
    if ks = shaK then (match v with
      | .slice i 9 0 64 0 (some 64) => if i = id then some (.tuple [], hashB (stepI st re) re n) else (contI .u8 h v).bind fun xs => if 64 ≤ xs.length then some (.tuple [], hashB (stepI st xs) re n) else none
      | v => if (avIds v).contains id then none else (contI .u8 h v).bind fun xs => if 64 ≤ xs.length then some (.tuple [], hashB (stepI st xs) re n) else none) else none
  | _, _ => none
theorem step_fullP {P : Program} {f : FuncId} (F : Fn P f G9 (afStepOf sCn1a)) (F' : Fn P f G9 (afStepOf sCn1b)) : FullOk P f (objO stepP) := by
  refine objO_mono (step_full F F') fun id l rest hp r hok wf ao h => ?_
  unfold stepP at h
  split at h <;> try (cases h; done)
  rename_i st ks re n v
  split at h <;> try (cases h; done)
  rename_i hks
  subst hks
  rw [AOkL_iff] at ao
  have hst := (ao _ (.head _)).2
  have hre := (ao _ (.tail _ (.tail _ (.head _)))).2
  have fin : ∀ h' : ¬ (avIds v).contains id = true, ((contI .u8 hp v).bind fun xs => if 64 ≤ xs.length then some (AV.tuple [], hashB (stepI st xs) re n) else none) = some r → stepOa id [.ints .u32 8 st, .isl .u32 shaK, .ints .u8 64 re, .int .i64 n] [v] hp = some r := by
    intro hni h
    simp only [stepOa, if_true]
    rw [if_neg hni]
    cases hc : contI .u8 hp v with
    | none => rw [hc] at h; cases h
    | some xs =>
      rw [hc] at h
      simp only [Option.bind_some] at h ⊢
      rw [stepL_eq hst (hok.ints v (.head _) _ _ hc)]
      exact h
  simp only [stepO, orObj]
  split at h
  · rename_i i
    split at h
    · rename_i hi
      subst hi
      have e1 : stepOa i [.ints .u32 8 st, .isl .u32 shaK, .ints .u8 64 re, .int .i64 n] [.slice i 9 0 64 0 (some 64)] hp = none := by
        have hc : (avIds (.slice i 9 0 64 0 (some 64))).contains i = true := by simp [avIds]
        simp only [stepOa, if_true]
        rw [if_pos hc]
      rw [e1]
      simp only [stepOb, if_true]
      rw [stepL_eq hst hre]
      exact h
    · rename_i hi
      rw [fin (by simp [avIds]; omega) h]
  · split at h <;> try (cases h; done)
    rename_i hni
    rw [fin hni h]
set_option maxRecDepth 100000
theorem pure_mono {P : Program} {f : FuncId} {a b : Nat → List AV → Heap → Option (AV × Option Blk)} (ha : PureOk P f a) (h : ∀ nid args hp r, HOk hp args → b nid args hp = some r → a nid args hp = some r) : PureOk P f b :=
  fun nid args hp v ob ι w vs hk R hn hv => ha nid args hp v ob ι w vs (h nid args hp _ (.of R hv) hk) R hn hv
def xI (ks us : List Int) : List Int := leB (xN ks us) 32
theorem x_pureI {P : Program} {f : FuncId} (F : Fn P f G8 afX) : PureOk P f (keyO2 xI) := by
  refine pure_mono (x_pure F) fun nid args hp r hok h => ?_
  unfold keyO2 at h ⊢
  split at h
  · rename_i xs ys
    cases h
    obtain ⟨⟨⟨hl, h1⟩, _⟩, ⟨⟨hl', h2⟩, _⟩, _⟩ := hok.ok
    have e : ∀ l : List Int, (∀ x ∈ l, rng .u8 x) → Bytes l := fun l h x hx => by
      have := h x hx rfl
      simp only [IntKind.bits] at this
      omega
    rw [xI, xL_law (e _ h1) hl' (e _ h2)]
  · cases h
set_option maxRecDepth 100000
def G10 : Env := envAdd id_sha_words (.pure wordsO) G9
def newH : List AV := hashB shaH (List.replicate 64 0) 0
def newO (nid : Nat) (args : List AV) (_ : Am.Heap) : Option (AV × Option Blk) :=
  match args with
  | [] => some (.ptr nid 0 0 0 0, some (.segs newH))
  | _ => none
theorem new_run (nid : Nat) : evFn G10 af_sha_New [] ⟨16, []⟩ (kOut none nid) = some (.ptr nid 0 0 0 0, encB nid (some (.segs newH))) := by kernel_rfl
theorem new_pure {P : Program} {f : FuncId} (F : Fn P f G10 af_sha_New) : PureOk P f newO := by
  refine F.lit [] none fun nid args hp r ha hr => ?_
  unfold newO at hr
  split at hr <;> try (cases hr; done)
  cases hr
  exact ⟨[], [], rfl, by simp, new_run nid⟩
set_option maxRecDepth 100000
theorem litP_run {P : Program} {f : FuncId} {Γ : Env} {af : AFn} (F : Fn P f Γ af) {as : List AK} {rk : Option GK} {nid : Nat} {args args' : List AV} {hp : Heap} {bl : List Cell} {v : AV} {ob : Option Blk}
    (h1 : viewArgs hp args as 0 = some (args', bl)) (h2 : bl.length ≤ 16) (h3 : evFn Γ af args' ⟨16, bl⟩ (kOut rk nid) = some (v, encB nid ob)) : litP as rk 16 (fun args h κ => evFn Γ af args h κ) nid args hp = some (v, ob) := by
  unfold litP
  rw [h1]
  simp only [Option.bind_some, h2, if_true]
  have h4 := F.factor args' ⟨16, bl⟩ (kOut rk nid)
  simp only at h4
  rw [h4] at h3
  cases hr : evFn Γ af args' ⟨16, bl⟩ kH with
  | none => rw [hr] at h3; cases h3
  | some q =>
    rw [hr] at h3
    simp only [Option.bind_some, kOut] at h3 ⊢
    cases hq : outP rk 16 nid q.1 q.2 with
    | none => rw [hq] at h3; cases h3
    | some z =>
      rw [hq] at h3
      simp only [Option.map_some, Option.some.injEq, Prod.mk.injEq] at h3
      obtain ⟨e1, e2⟩ := h3
      have := encB_inj e2
      obtain ⟨z1, z2⟩ := z
      simp only at e1 this ⊢
      rw [e1, this]
theorem contI_value {ι : Inj} {h : Heap} {w : World} {v : AV} {x : Value} {k : IntKind} {xs : List Int} (R : HRel ι h w) (hx : VR ι v x) (hk : contI k h v = some xs) : ∃ a c, x = .slice a xs.length c ∧ (a = none → c = 0) := by
  unfold contI at hk
  split at hk
  · cases hk; exact ⟨none, 0, hx, fun _ => rfl⟩
  · cases hk
    obtain ⟨a, ha⟩ := (show ∃ a, x = .slice a 0 0 from hx)
    exact ⟨a, 0, ha, fun _ => rfl⟩
  · split at hk <;> try (cases hk; done)
    cases hk
    obtain ⟨a, c, he, _, F⟩ := hx.isl
    refine ⟨a, c, he, fun hn => ?_⟩
    rcases F.2 with h0 | ⟨b, off, f, h1, _⟩
    · exact h0
    · rw [hn] at h1; cases h1
  · split at hk <;> try (cases hk; done)
    rename_i hs
    split at hk <;> try (cases hk; done)
    rename_i e; subst e; cases hk
    obtain ⟨_, hlen, p, a, c, hp, he, S, _, _⟩ := slCont_ints R hx hs
    refine ⟨a, c, by rw [he, hlen], fun hn => ?_⟩
    rcases S.addr with h0 | h1
    · exact h0
    · rw [hn] at h1; cases h1
  · cases hk
def cloneO (nid : Nat) (args : List AV) (h : Am.Heap) : Option (AV × Option Blk) :=
  match args with
  | [s] => (contI .u8 h s).bind fun xs => if xs.length ≤ 140737488351232 then some (.slice nid 0 0 xs.length 0 none, some (.segs [.ints .u8 xs.length xs])) else none
  | _ => none
def cloneO1 (nid : Nat) (args : List AV) (h : Am.Heap) : Option (AV × Option Blk) :=
  match args with
  | [s] => (contI .u8 h s).bind fun xs => if xs.length ≤ 140737488351232 ∧ xs.length ≠ 0 then some (.slice nid 0 0 xs.length 0 none, some (.segs [.ints .u8 xs.length xs])) else none
  | _ => none
theorem clone_run (Γ : Env) (nid n : Nat) (xs : List Int) : evFn Γ af_slices_Clone_byte [.slice 0 0 0 (n+1) 0 none] ⟨16, [⟨0, true, .segs [.ints .u8 (n+1) xs]⟩]⟩ (kOut (some (.ints .u8)) nid) =
    if (0 + (n + 1)) * 1 ≤ 2 ^ 47 then some (.slice nid 0 0 (0 + (n + 1)) 0 none, ⟨0, [⟨nid, false, .segs [.ints .u8 (0 + (n + 1)) ((xs.drop 0).take (n + 1))]⟩]⟩) else none := by kernel_rfl
theorem clone_nil (Γ : Env) (nid : Nat) : evFn Γ af_slices_Clone_byte [.nils] ⟨16, []⟩ (kOut (some (.ints .u8)) nid) = some (.slice nid 0 0 0 0 none, encB nid (some (.segs [.ints .u8 0 []]))) := by kernel_rfl
theorem clone_nne (Γ : Env) (nid : Nat) : evFn Γ af_slices_Clone_byte [.nne] ⟨16, []⟩ (kOut (some (.ints .u8)) nid) = some (.slice nid 0 0 0 0 none, encB nid (some (.segs [.ints .u8 0 []]))) := by kernel_rfl
theorem clone_pure1 {P : Program} {f : FuncId} {Γ : Env} (F : Fn P f Γ af_slices_Clone_byte) : PureOk P f cloneO1 := by
  refine F.lit [.sl (.ints .u8)] (some (.ints .u8)) fun nid args hp r ha hr => ?_
  unfold cloneO1 at hr
  split at hr <;> try (cases hr; done)
  rename_i s
  cases hc : contI .u8 hp s with
  | none => rw [hc] at hr; cases hr
  | some xs =>
    rw [hc] at hr
    simp only [Option.bind_some] at hr
    split at hr <;> try (cases hr; done)
    rename_i hl
    cases hr
    obtain ⟨n, hn⟩ : ∃ n, xs.length = n + 1 := ⟨xs.length - 1, by omega⟩
    refine ⟨_, _, by simp only [viewArgs, contI_isSl hc, if_true, viewS_ints hc, Option.bind_some, Option.map_some]; rfl, by simp, ?_⟩
    rw [hn]
    rw [clone_run, if_pos (by omega)]
    simp only [Nat.zero_add, List.drop_zero, encB]
    rw [← hn, List.take_length]
theorem clone_pure {P : Program} {f : FuncId} {Γ : Env} (F : Fn P f Γ af_slices_Clone_byte) : PureOk P f cloneO := by
  intro nid args h v ob ι w vs hk R hn ha
  unfold cloneO at hk
  split at hk <;> try (cases hk; done)
  rename_i s
  cases hc : contI .u8 h s with
  | none => rw [hc] at hk; cases hk
  | some xs =>
    rw [hc] at hk
    simp only [Option.bind_some] at hk
    split at hk <;> try (cases hk; done)
    rename_i hl
    by_cases h0 : xs.length = 0
    · obtain rfl := List.eq_nil_of_length_eq_zero h0
      cases hk
      obtain ⟨x, r, hvs, hx, hr⟩ := ha.uncons
      obtain ⟨a, c, he, hac⟩ := contI_value R hx hc
      have hv1 : ∀ v', VR ι v' x → VRL ι [v'] vs.toList := fun v' hv' => by
        rw [hvs]
        obtain ⟨hr1, _⟩ := hr
        have : r = [] := List.eq_nil_of_length_eq_zero hr1.symm
        subst this
        refine ⟨rfl, fun i u hu => ?_⟩
        cases i with
        | zero => simp at hu; subst hu; exact ⟨x, rfl, hv'⟩
        | succ i => simp at hu
      cases a with
      | none =>
        have := hac rfl
        subst this
        exact litP_ok (as := [.plain]) (rk := some (.ints .u8)) F.ok nid [.nils] h _ _ ι w vs (litP_run F rfl (by simp) (clone_nil Γ nid)) R hn (hv1 .nils he)
      | some b => exact litP_ok (as := [.plain]) (rk := some (.ints .u8)) F.ok nid [.nne] h _ _ ι w vs (litP_run F rfl (by simp) (clone_nne Γ nid)) R hn (hv1 .nne ⟨b, c, he⟩)
    · refine clone_pure1 F nid [s] h v ob ι w vs ?_ R hn ha
      simp only [cloneO1, hc, Option.bind_some]
      rw [if_pos ⟨hl, h0⟩]
      exact hk
def objW (Γ : Env) (af : AFn) : Orc := .full fun args h κ => (litG [.obj, .arg (.sl (.ints .u8))] false [] 16 (fun args h κ => evFn Γ af args h κ) args h).bind fun r => κ r.1 r.2
def pin (Γ : Env) (af : AFn) : Orc := .pure (pureOf 16 fun args h κ => evFn Γ af args h κ)
def E_curve_X : Env := envAdd id_curve_X (.pure (keyO2 xI)) G10
def E_curve_Public : Env := envAdd id_curve_Public (pin E_curve_X af_curve_Public) E_curve_X
def E_octet_Zero : Env := envAdd id_octet_Zero (pin E_curve_Public af_octet_Zero) E_curve_Public
def E_curve_Agree : Env := envAdd id_curve_Agree (pin E_octet_Zero af_curve_Agree) E_octet_Zero
def E_ident_Less : Env := envAdd id_ident_Less (pin E_curve_Agree af_ident_Less) E_curve_Agree
def E_slices_Clone_byte : Env := envAdd id_slices_Clone_byte (.pure cloneO) E_ident_Less
def E_octet_put : Env := envAdd id_octet_put (pin E_slices_Clone_byte af_octet_put) E_slices_Clone_byte
def E_octet_Put32 : Env := envAdd id_octet_Put32 (pin E_octet_put af_octet_Put32) E_octet_put
def E_kdf_info : Env := envAdd id_kdf_info (pin E_octet_Put32 af_kdf_info) E_octet_Put32
def E_sha_New : Env := envAdd id_sha_New (.pure newO) E_kdf_info
def E_sha_Hash_step : Env := envAdd id_sha_Hash_step (.full (objO stepP)) E_sha_New
def E_sha_Hash_write : Env := envAdd id_sha_Hash_write (inl E_sha_Hash_step af_sha_Hash_write) E_sha_Hash_step
def E_sha_Hash_Copy : Env := envAdd id_sha_Hash_Copy (inl E_sha_Hash_write af_sha_Hash_Copy) E_sha_Hash_write
def E_sha_Pad : Env := envAdd id_sha_Pad (pin E_sha_Hash_Copy af_sha_Pad) E_sha_Hash_Copy
def E_sha_Hash_Sum : Env := envAdd id_sha_Hash_Sum (inl E_sha_Pad af_sha_Hash_Sum) E_sha_Pad
def E_sha_Sum : Env := envAdd id_sha_Sum (inl E_sha_Hash_Sum af_sha_Sum) E_sha_Hash_Sum
def E_sha_Hash_Write : Env := envAdd id_sha_Hash_Write (inl E_sha_Sum af_sha_Hash_Write) E_sha_Sum
def E_kdf_Hmac_1 : Env := envAdd id_kdf_Hmac_1 (inl E_sha_Hash_Write af_kdf_Hmac_1) E_sha_Hash_Write
def E_kdf_Hmac : Env := envAdd id_kdf_Hmac (pin E_kdf_Hmac_1 af_kdf_Hmac) E_kdf_Hmac_1
def E_kdf_Expand : Env := envAdd id_kdf_Expand (pin E_kdf_Hmac af_kdf_Expand) E_kdf_Hmac
def E_kdf_Two : Env := envAdd id_kdf_Two (pin E_kdf_Expand af_kdf_Two) E_kdf_Expand
def E_kdf_Derive : Env := envAdd id_kdf_Derive (pin E_kdf_Two af_kdf_Derive) E_kdf_Two
def E_ident_Pair : Env := envAdd id_ident_Pair (pin E_kdf_Derive af_ident_Pair) E_kdf_Derive
def E_curve_Low : Env := envAdd id_curve_Low (pin E_ident_Pair af_curve_Low) E_ident_Pair
def E_ratchet_turn : Env := envAdd id_ratchet_turn (pin E_curve_Low af_ratchet_turn) E_curve_Low
def E_ratchet_Start : Env := envAdd id_ratchet_Start (pin E_ratchet_turn af_ratchet_Start) E_ratchet_turn
def E_hollowtreelaw17_begun : Env := envAdd id_hollowtreelaw17_begun (pin E_ratchet_Start af_hollowtreelaw17_begun) E_ratchet_Start
def E_ratchet_find_1 : Env := envAdd id_ratchet_find_1 (inl E_hollowtreelaw17_begun af_ratchet_find_1) E_hollowtreelaw17_begun
def E_slices_IndexFunc_api_Skip : Env := envAdd id_slices_IndexFunc_api_Skip (inl E_ratchet_find_1 af_slices_IndexFunc_api_Skip) E_ratchet_find_1
def E_ratchet_find : Env := envAdd id_ratchet_find (pin E_slices_IndexFunc_api_Skip af_ratchet_find) E_slices_IndexFunc_api_Skip
def E_ratchet_Check : Env := envAdd id_ratchet_Check (pin E_ratchet_find af_ratchet_Check) E_ratchet_find
def E_ratchet_none : Env := envAdd id_ratchet_none (pin E_ratchet_Check af_ratchet_none) E_ratchet_Check
end Go.Am
