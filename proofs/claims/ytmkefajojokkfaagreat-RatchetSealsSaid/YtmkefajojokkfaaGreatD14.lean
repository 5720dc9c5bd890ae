/- RatchetSeals: part 15 of 50 of its proof. -/
import Derived.Test.YtmkefajojokkfaaGreatD10
import Derived.Test.YtmkefajojokkfaaGreatD13
import Derived.KernelRfl
set_option linter.unusedVariables false
set_option linter.unusedSimpArgs false
namespace Go.Am
set_option linter.unusedSimpArgs false
def add64o (args : List AV) (h : Am.Heap) (κ : AV → Am.Heap → Option Res) : Option Res :=
  match args with
  | [.int .u64 x, .int .u64 y, .int .u64 c] => if c ≤ 1 then κ (.tuple [.int .u64 ((x + y + c) % 18446744073709551616), .int .u64 ((x + y + c) / 18446744073709551616)]) h else none
  | _ => none
def mul64o (_ : Nat) (args : List AV) (_ : Am.Heap) : Option (AV × Option Blk) :=
  match args with
  | [.int .u64 x, .int .u64 y] => some (.tuple [.int .u64 (x * y / 18446744073709551616), .int .u64 (x * y % 18446744073709551616)], none)
  | _ => none
def mulHi (x y : Int) : Int :=
  let lo := fun z : Int => bw .and .u64 z 4294967295
  let up := fun z : Int => z.fdiv (2 ^ 32)
  let w := IntKind.u64.wrap
  let t := w (w (up x * lo y) + up (w (lo x * lo y)))
  w (w (w (up x * up y) + up t) + up (w (lo t + w (lo x * up y))))
theorem bw_lo32 (z : Int) (h0 : 0 ≤ z) (h1 : z < 18446744073709551616) : bw .and .u64 z 4294967295 = z % 4294967296 := by
  obtain ⟨n, rfl⟩ := Int.eq_ofNat_of_zero_le h0
  have := bw_nat .and .u64 rfl n 4294967295 (by simp [IntKind.bits]; omega) (by simp [IntKind.bits])
  simp only at this
  rw [show ((4294967295 : Nat) : Int) = 4294967295 from rfl] at this
  rw [this, show (4294967295 : Nat) = 2 ^ 32 - 1 from rfl, and_mask]
  simp
theorem mulHi_eq (x y : Int) (hx : rng .u64 x) (hy : rng .u64 y) : mulHi x y = x * y / 18446744073709551616 := by
  obtain ⟨x0, x1⟩ := hx rfl
  obtain ⟨y0, y1⟩ := hy rfl
  simp only [IntKind.bits] at x1 y1
  have ux : x.fdiv (2 ^ 32) = x / 4294967296 := by rw [fdiv_pow]; rfl
  have uy : y.fdiv (2 ^ 32) = y / 4294967296 := by rw [fdiv_pow]; rfl
  simp only [mulHi, bw_lo32 x x0 (by omega), bw_lo32 y y0 (by omega), ux, uy, wrap_u64]
  generalize ha : x / 4294967296 = a1
  generalize hb : x % 4294967296 = a0
  generalize hc : y / 4294967296 = b1
  generalize hd : y % 4294967296 = b0
  have a0b : 0 ≤ a0 ∧ a0 < 4294967296 := by omega
  have a1b : 0 ≤ a1 ∧ a1 < 4294967296 := by omega
  have b0b : 0 ≤ b0 ∧ b0 < 4294967296 := by omega
  have b1b : 0 ≤ b1 ∧ b1 < 4294967296 := by omega
  have hxe : x = a1 * 4294967296 + a0 := by omega
  have hye : y = b1 * 4294967296 + b0 := by omega
  have prod : ∀ p q : Int, 0 ≤ p ∧ p < 4294967296 → 0 ≤ q ∧ q < 4294967296 → 0 ≤ p * q ∧ p * q ≤ 18446744065119617025 := by
    intro p q hp hq
    refine ⟨Int.mul_nonneg hp.1 hq.1, ?_⟩
    have h1 : p * q ≤ 4294967295 * q := Int.mul_le_mul_of_nonneg_right (by omega) hq.1
    have h2 : 4294967295 * q ≤ 4294967295 * 4294967295 := Int.mul_le_mul_of_nonneg_left (by omega) (by decide)
    omega
  have hP := prod a0 b0 a0b b0b
  have hQ := prod a1 b0 a1b b0b
  have hR := prod a0 b1 a0b b1b
  have hS := prod a1 b1 a1b b1b
  have hxy : x * y = (a1 * b1) * 18446744073709551616 + (a1 * b0 + a0 * b1) * 4294967296 + a0 * b0 := by
    rw [hxe, hye]
    simp only [Int.add_mul, Int.mul_add]
    have e1 : a1 * 4294967296 * (b1 * 4294967296) = a1 * b1 * 18446744073709551616 := by
      rw [Int.mul_assoc, Int.mul_left_comm 4294967296 b1, ← Int.mul_assoc]
      rfl
    have e2 : a1 * 4294967296 * b0 = a1 * b0 * 4294967296 := by rw [Int.mul_assoc, Int.mul_comm 4294967296 b0, ← Int.mul_assoc]
    have e3 : a0 * (b1 * 4294967296) = a0 * b1 * 4294967296 := by rw [Int.mul_assoc]
    omega
  rw [hxy]
  generalize a0 * b0 = p at *
  generalize a1 * b0 = q at *
  generalize a0 * b1 = r at *
  generalize a1 * b1 = s at *
  have e1 : p % 18446744073709551616 = p := by omega
  have e2 : q % 18446744073709551616 = q := by omega
  have e3 : r % 18446744073709551616 = r := by omega
  have e4 : s % 18446744073709551616 = s := by omega
  rw [e1, e2, e3, e4]
  have u1 : p.fdiv (2 ^ 32) = p / 4294967296 := by rw [fdiv_pow]; rfl
  rw [u1]
  generalize ht : (q + p / 4294967296) % 18446744073709551616 = t
  have ht' : t = q + p / 4294967296 := by omega
  have u2 : t.fdiv (2 ^ 32) = t / 4294967296 := by rw [fdiv_pow]; rfl
  rw [u2, bw_lo32 t (by omega) (by omega)]
  generalize hw : (t % 4294967296 + r) % 18446744073709551616 = v
  have u3 : v.fdiv (2 ^ 32) = v / 4294967296 := by rw [fdiv_pow]; rfl
  rw [u3]
  omega
theorem mul64_run (Γ : Env) (nid : Nat) (x y : Int) (h : Am.Heap) : pureOf 16 (fun args h κ => evFn Γ af_math_bits_Mul64 args h κ) nid [.int .u64 x, .int .u64 y] h = some (.tuple [.int .u64 (mulHi x y), .int .u64 (IntKind.u64.wrap (x * y))], none) := by kernel_rfl
theorem mul64_pure {P : Program} {f : FuncId} {Γ : Env} (ho : FnOk P f 16 fun args h κ => evFn Γ af_math_bits_Mul64 args h κ) : PureOk P f mul64o := by
  refine ho.pure fun nid args hp r ha hr => ?_
  unfold mul64o at hr
  split at hr
  · rename_i x y
    cases hr
    obtain ⟨hx, hy, _⟩ := ha
    rw [mul64_run, mulHi_eq x y hx hy, wrap_u64]
  · cases hr
mutual
theorem rnAV_id {m : Nat → Nat} : ∀ (v : AV), avIds v = [] → rnAV m v = v
  | .ptr .., h => by simp [avIds] at h
  | .slice .., h => by simp [avIds] at h
  | .win .., h => by simp [avIds] at h
  | .func f a b, h => by
    simp only [avIds, List.append_eq_nil_iff] at h
    simp only [rnAV, rnL_id a h.1, rnL_id b h.2]
  | .agg l, h => by simp only [avIds] at h; simp only [rnAV, rnL_id l h]
  | .tuple l, h => by simp only [avIds] at h; simp only [rnAV, rnL_id l h]
  | .undef, _ => rfl
  | .bool _, _ => rfl
  | .int .., _ => rfl
  | .str _, _ => rfl
  | .nilp, _ => rfl
  | .nils, _ => rfl
  | .nilf, _ => rfl
  | .ints .., _ => rfl
  | .isl .., _ => rfl
  | .islR .., _ => rfl
  | .emp, _ => rfl
  | .nne, _ => rfl
  | .fptr .., _ => rfl
theorem rnL_id {m : Nat → Nat} : ∀ (l : List AV), avIds.avIdsL l = [] → rnAV.rnL m l = l
  | [], _ => rfl
  | v :: r, h => by
    simp only [avIds.avIdsL, List.append_eq_nil_iff] at h
    simp only [rnAV.rnL, rnAV_id v h.1, rnL_id r h.2]
end
def kV : AV → Heap → Option Res := fun v _ => some (v, ⟨0, []⟩)
theorem pureOf_plain {B : Nat} {o : List AV → Heap → (AV → Heap → Option Res) → Option Res} (hF : Factor o) {args : List AV} {nid : Nat} {h : Heap} {v : AV} (ha : avIds.avIdsL args = []) (hv : avIds v = []) (hr : o args ⟨B, []⟩ kV = some (v, ⟨0, []⟩)) :
    pureOf B o nid args h = some (v, none) := by
  rw [hF] at hr
  have hi : idsOf h args = [] := by simp only [idsOf, ha, List.nil_append, List.flatMap_nil, dedupN]
  cases hk : o args ⟨B, []⟩ kH with
  | none => rw [hk] at hr; cases hr
  | some r =>
    obtain ⟨v', h'⟩ := r
    rw [hk] at hr
    simp only [Option.bind_some, kV, Option.some.injEq, Prod.mk.injEq, and_true] at hr
    subst hr
    unfold pureOf
    simp only [hi, ha, rnL, rnL_id args ha, litBlks, hk, Option.bind_some, hv, newOf, List.filter_nil, dedupN, rnAV_id _ hv, closed, List.all_nil, List.length_nil, Nat.zero_le, decide_true, Bool.and_self, if_true]
structure Fn (P : Program) (f : FuncId) (Γ : Env) (af : AFn) : Prop where
  ok : FnOk P f 16 fun args h κ => evFn Γ af args h κ
  factor : Factor fun args h κ => evFn Γ af args h κ
theorem Fn.of {P : Program} {Γ : Env} (hΓ : EnvOk P Γ) (hm : P.follows .mixedOrders = true) {f : FuncId} {fn : Func} {af : AFn} (hf : P.funcs[f]? = some fn) (hl : lowFn P 16 fn af = true) : Fn P f Γ af :=
  ⟨evFn_ok hΓ hm hf hl, Det.factor fun args h => evFn_det hΓ af args h⟩
theorem Fn.plain {P : Program} {f : FuncId} {Γ : Env} {af : AFn} (F : Fn P f Γ af) {o' : Nat → List AV → Heap → Option (AV × Option Blk)}
    (h : ∀ nid args hp r, ArgsOk args → o' nid args hp = some r → avIds.avIdsL args = [] ∧ avIds r.1 = [] ∧ r.2 = none ∧ evFn Γ af args ⟨16, []⟩ kV = some (r.1, ⟨0, []⟩)) : PureOk P f o' :=
  F.ok.pure fun nid args hp r ha hr => by
    obtain ⟨v, ob⟩ := r
    obtain ⟨h1, h2, h3, h4⟩ := h nid args hp _ ha hr
    simp only at h2 h3 h4
    subst h3
    exact pureOf_plain F.factor h1 h2 h4
def G1 : Env := envAdd id_math_bits_Mul64 (.pure mul64o) (envAdd id_math_bits_Add64 (.full add64o) fun _ => none)
def plusHi (hi lo x y : Int) : Int := (x * y / 18446744073709551616 + hi + (x * y % 18446744073709551616 + lo + 0) / 18446744073709551616) % 18446744073709551616
def plusLo (lo x y : Int) : Int := (x * y % 18446744073709551616 + lo + 0) % 18446744073709551616
def plusO (_ : Nat) (args : List AV) (_ : Am.Heap) : Option (AV × Option Blk) :=
  match args with
  | [.agg [.int .u64 hi, .int .u64 lo], .int .u64 x, .int .u64 y] => some (.agg [.int .u64 (plusHi hi lo x y), .int .u64 (plusLo lo x y)], none)
  | _ => none
theorem plus_run (hi lo x y : Int) : evFn G1 af_field_wide_plus [.agg [.int .u64 hi, .int .u64 lo], .int .u64 x, .int .u64 y] ⟨16, []⟩ kV =
    if (x * y % 18446744073709551616 + lo + 0) / 18446744073709551616 ≤ 1 then some (.agg [.int .u64 (plusHi hi lo x y), .int .u64 (plusLo lo x y)], ⟨0, []⟩) else none := by kernel_rfl
theorem plus_pure {P : Program} {f : FuncId} (F : Fn P f G1 af_field_wide_plus) : PureOk P f plusO := by
  refine F.plain fun nid args hp r ha hr => ?_
  unfold plusO at hr
  split at hr
  · rename_i hi lo x y
    cases hr
    obtain ⟨⟨_, hlo, _⟩, _, _, _⟩ := ha
    refine ⟨rfl, rfl, rfl, ?_⟩
    obtain ⟨l0, l1⟩ := hlo rfl
    simp only [IntKind.bits] at l1
    rw [plus_run, if_pos]
    omega
  · cases hr
def w64 (n : Int) : Int := IntKind.u64.wrap n
def sh51 (n : Int) : Int := n.fdiv (2 ^ 51)
def m51 (n : Int) : Int := bw .and .u64 n 2251799813685247
theorem five {xs : List Int} (h : xs.length = 5) : ∃ a b c d e, xs = [a, b, c, d, e] := by
  match xs, h with
  | [a, b, c, d, e], _ => exact ⟨a, b, c, d, e, rfl⟩
def carry5 (a b c d e : Int) : List Int :=
  let a := w64 (a + w64 (19 * sh51 e))
  let b := w64 (b + sh51 a)
  let c := w64 (c + sh51 b)
  let d := w64 (d + sh51 c)
  let e := w64 (m51 e + sh51 d)
  [m51 a, m51 b, m51 c, m51 d, e]
def carryL : List Int → List Int
  | [a, b, c, d, e] => carry5 a b c d e
  | l => l
def el (xs : List Int) : AV := .agg [.ints .u64 5 xs]
def carryO (_ : Nat) (args : List AV) (_ : Am.Heap) : Option (AV × Option Blk) :=
  match args with
  | [.agg [.ints .u64 5 xs]] => some (el (carryL xs), none)
  | _ => none
theorem carry_pure {P : Program} {f : FuncId} {Γ : Env} (F : Fn P f Γ af_field_Elem_carry) : PureOk P f carryO := by
  refine F.plain fun nid args hp r ha hr => ?_
  unfold carryO at hr
  split at hr
  · rename_i xs
    cases hr
    obtain ⟨⟨⟨hl, _⟩, _⟩, _⟩ := ha
    obtain ⟨a, b, c, d, e, rfl⟩ := five hl
    refine ⟨rfl, rfl, rfl, ?_⟩
    kernel_rfl
  · cases hr
def G2 : Env := envAdd id_field_wide_plus (.pure plusO) (envAdd id_field_Elem_carry (.pure carryO) G1)
def fstep (hi lo c : Int) : Int × Int :=
  (m51 ((lo + c + 0) % 18446744073709551616), bw .or .u64 (w64 (w64 (hi + (lo + c + 0) / 18446744073709551616) * 2 ^ 13)) (sh51 ((lo + c + 0) % 18446744073709551616)))
def folded10 (p0 p1 p2 p3 p4 : Int × Int) : List Int :=
  let s0 := fstep p0.1 p0.2 0
  let s1 := fstep p1.1 p1.2 s0.2
  let s2 := fstep p2.1 p2.2 s1.2
  let s3 := fstep p3.1 p3.2 s2.2
  let s4 := fstep p4.1 p4.2 s3.2
  carryL [w64 (s0.1 + w64 (19 * s4.2)), s1.1, s2.1, s3.1, s4.1]
def foldedO (_ : Nat) (args : List AV) (_ : Am.Heap) : Option (AV × Option Blk) :=
  match args with
  | [.agg [.int .u64 h0, .int .u64 l0, .int .u64 h1, .int .u64 l1, .int .u64 h2, .int .u64 l2, .int .u64 h3, .int .u64 l3, .int .u64 h4, .int .u64 l4]] =>
    some (el (folded10 (h0, l0) (h1, l1) (h2, l2) (h3, l3) (h4, l4)), none)
  | _ => none
theorem folded_pure {P : Program} {f : FuncId} (F : Fn P f G2 af_field_folded) : PureOk P f foldedO := by
  refine F.plain fun nid args hp r ha hr => ?_
  unfold foldedO at hr
  split at hr
  · cases hr
    refine ⟨rfl, rfl, rfl, ?_⟩
    kernel_rfl
  · cases hr
def G3 : Env := envAdd id_field_folded (.pure foldedO) G2
def pl (p : Int × Int) (x y : Int) : Int × Int := (plusHi p.1 p.2 x y, plusLo p.2 x y)
def mul10 (x0 x1 x2 x3 x4 y0 y1 y2 y3 y4 : Int) : List Int :=
  let z1 := w64 (19 * y1)
  let z2 := w64 (19 * y2)
  let z3 := w64 (19 * y3)
  let z4 := w64 (19 * y4)
  folded10 (pl (pl (pl (pl (pl (0,0) x0 y0) x1 z4) x2 z3) x3 z2) x4 z1)
    (pl (pl (pl (pl (pl (0,0) x0 y1) x1 y0) x2 z4) x3 z3) x4 z2)
    (pl (pl (pl (pl (pl (0,0) x0 y2) x1 y1) x2 y0) x3 z4) x4 z3)
    (pl (pl (pl (pl (pl (0,0) x0 y3) x1 y2) x2 y1) x3 y0) x4 z4)
    (pl (pl (pl (pl (pl (0,0) x0 y4) x1 y3) x2 y2) x3 y1) x4 y0)
def mulL : List Int → List Int → List Int
  | [x0, x1, x2, x3, x4], [y0, y1, y2, y3, y4] => mul10 x0 x1 x2 x3 x4 y0 y1 y2 y3 y4
  | l, _ => l
def binO (g : List Int → List Int → List Int) (_ : Nat) (args : List AV) (_ : Am.Heap) : Option (AV × Option Blk) :=
  match args with
  | [.agg [.ints .u64 5 xs], .agg [.ints .u64 5 ys]] => some (el (g xs ys), none)
  | _ => none
def unO (g : List Int → List Int) (_ : Nat) (args : List AV) (_ : Am.Heap) : Option (AV × Option Blk) :=
  match args with
  | [.agg [.ints .u64 5 xs]] => some (el (g xs), none)
  | _ => none
theorem Fn.bin {P : Program} {f : FuncId} {Γ : Env} {af : AFn} (F : Fn P f Γ af) {g : List Int → List Int → List Int}
    (h : ∀ a b c d e a' b' c' d' e' : Int, evFn Γ af [.agg [.ints .u64 5 [a, b, c, d, e]], .agg [.ints .u64 5 [a', b', c', d', e']]] ⟨16, []⟩ kV = some (el (g [a, b, c, d, e] [a', b', c', d', e']), ⟨0, []⟩)) : PureOk P f (binO g) := by
  refine F.plain fun nid args hp r ha hr => ?_
  unfold binO at hr
  split at hr
  · rename_i xs ys
    cases hr
    obtain ⟨⟨⟨hl, _⟩, _⟩, ⟨⟨hl', _⟩, _⟩, _⟩ := ha
    obtain ⟨a, b, c, d, e, rfl⟩ := five hl
    obtain ⟨a', b', c', d', e', rfl⟩ := five hl'
    exact ⟨rfl, rfl, rfl, h ..⟩
  · cases hr
theorem Fn.un {P : Program} {f : FuncId} {Γ : Env} {af : AFn} (F : Fn P f Γ af) {g : List Int → List Int}
    (h : ∀ a b c d e : Int, evFn Γ af [.agg [.ints .u64 5 [a, b, c, d, e]]] ⟨16, []⟩ kV = some (el (g [a, b, c, d, e]), ⟨0, []⟩)) : PureOk P f (unO g) := by
  refine F.plain fun nid args hp r ha hr => ?_
  unfold unO at hr
  split at hr
  · rename_i xs
    cases hr
    obtain ⟨⟨⟨hl, _⟩, _⟩, _⟩ := ha
    obtain ⟨a, b, c, d, e, rfl⟩ := five hl
    exact ⟨rfl, rfl, rfl, h ..⟩
  · cases hr
theorem mul_pure {P : Program} {f : FuncId} (F : Fn P f G3 af_field_Elem_Mul) : PureOk P f (binO mulL) := F.bin fun a b c d e a' b' c' d' e' => by kernel_rfl
def sq5 (x0 x1 x2 x3 x4 : Int) : List Int :=
  let y0 := w64 (2 * x0)
  let y1 := w64 (2 * x1)
  let z3 := w64 (19 * x3)
  let z4 := w64 (19 * x4)
  folded10 (pl (pl (pl (0,0) x0 x0) y1 z4) (w64 (2 * x2)) z3)
    (pl (pl (pl (0,0) y0 x1) (w64 (2 * x2)) z4) x3 z3)
    (pl (pl (pl (0,0) y0 x2) x1 x1) (w64 (2 * x3)) z4)
    (pl (pl (pl (0,0) y0 x3) y1 x2) x4 z4)
    (pl (pl (pl (0,0) y0 x4) y1 x3) x2 x2)
def sqL : List Int → List Int
  | [a, b, c, d, e] => sq5 a b c d e
  | l => l
theorem sq_pure {P : Program} {f : FuncId} (F : Fn P f G3 af_field_Elem_Square) : PureOk P f (unO sqL) := F.un fun a b c d e => by kernel_rfl
def addL : List Int → List Int → List Int
  | [a, b, c, d, e], [a', b', c', d', e'] => carryL [w64 (a + a'), w64 (b + b'), w64 (c + c'), w64 (d + d'), w64 (e + e')]
  | l, _ => l
theorem add_pure {P : Program} {f : FuncId} (F : Fn P f G3 af_field_Elem_Add) : PureOk P f (binO addL) := F.bin fun a b c d e a' b' c' d' e' => by kernel_rfl
def subL : List Int → List Int → List Int
  | [a, b, c, d, e], [a', b', c', d', e'] => carryL [w64 (a + w64 (4503599627370458 - a')), w64 (b + w64 (4503599627370494 - b')), w64 (c + w64 (4503599627370494 - c')), w64 (d + w64 (4503599627370494 - d')), w64 (e + w64 (4503599627370494 - e'))]
  | l, _ => l
theorem sub_pure {P : Program} {f : FuncId} (F : Fn P f G3 af_field_Elem_Sub) : PureOk P f (binO subL) := F.bin fun a b c d e a' b' c' d' e' => by kernel_rfl
def kSeq (Γ : Env) (cn : Option Canon) (b : ACode) (κ : Kont) : Kont := fun e st' => match e with
  | .normal => canonK cn st' fun s => ev Γ b s κ
  | .exit i => κ (.exit i) st'
  | .goto l => κ (.goto l) st'
  | .ret => κ .ret st'
def kBlock (id : Nat) (cn : Option Canon) (κ : Kont) : Kont := fun e st' => match e with
  | .exit i => if i = id then canonK cn st' fun s => κ .normal s else κ (.exit i) st'
  | .normal => canonK cn st' fun s => κ .normal s
  | .goto l => κ (.goto l) st'
  | .ret => κ .ret st'
def kLoop (cn : Option Canon) (L : St → Option Res) (κ : Kont) : Kont := fun e st' => match e with
  | .normal => canonK cn st' fun s => L s
  | .exit i => κ (.exit i) st'
  | .goto l => κ (.goto l) st'
  | .ret => κ .ret st'
def kJump (cn : Option Canon) (l : Nat) (L : St → Option Res) (κ : Kont) : Kont := fun e st' => match e with
  | .goto l' => if l' = l then canonK cn st' fun s => L s else none
  | .exit i => κ (.exit i) st'
  | .normal => κ .normal st'
  | .ret => κ .ret st'
def kFn (rs : List ARes) (κ : AV → Heap → Option Res) : Kont := fun e st => match e with
  | .normal => resK rs st.t st.h fun vs => retK vs fun v => κ v st.h
  | .ret => resK rs st.t st.h fun vs => retK vs fun v => κ v st.h
  | _ => none
def ofL (n : Int) : List Int := [m51 n, sh51 n, 0,0,0]
def ofO (_ : Nat) (args : List AV) (_ : Am.Heap) : Option (AV × Option Blk) :=
  match args with
  | [.int .u64 n] => some (el (ofL n), none)
  | _ => none
theorem of_pure {P : Program} {f : FuncId} {Γ : Env} (F : Fn P f Γ af_field_Of) : PureOk P f ofO := by
  refine F.plain fun nid args hp r ha hr => ?_
  unfold ofO at hr
  split at hr
  · cases hr
    exact ⟨rfl, rfl, rfl, by kernel_rfl⟩
  · cases hr
def G4 : Env := envAdd id_field_Elem_Mul (.pure (binO mulL)) (envAdd id_field_Elem_Square (.pure (unO sqL)) (envAdd id_field_Elem_Add (.pure (binO addL)) (envAdd id_field_Elem_Sub (.pure (binO subL)) (envAdd id_field_Of (.pure ofO) G3))))
def negL (xs : List Int) : List Int := subL [0,0,0,0,0] xs
theorem neg_pure {P : Program} {f : FuncId} (F : Fn P f G4 af_field_Elem_Neg) : PureOk P f (unO negL) := F.un fun a b c d e => by kernel_rfl
def timesO (_ : Nat) (args : List AV) (_ : Am.Heap) : Option (AV × Option Blk) :=
  match args with
  | [.agg [.ints .u64 5 xs], .int .u32 n] => some (el (mulL xs (ofL (w64 n))), none)
  | _ => none
theorem times_pure {P : Program} {f : FuncId} (F : Fn P f G4 af_field_Elem_Times) : PureOk P f timesO := by
  refine F.plain fun nid args hp r ha hr => ?_
  unfold timesO at hr
  split at hr
  · cases hr
    exact ⟨rfl, rfl, rfl, by kernel_rfl⟩
  · cases hr
def swT (b : Int) : Int := w64 (0 - w64 (bw .and .i64 b 1))
def swA (b x y : Int) : Int := bw .xor .u64 x (bw .and .u64 (swT b) (bw .xor .u64 x y))
def swB (b x y : Int) : Int := bw .xor .u64 y (bw .and .u64 (swT b) (bw .xor .u64 x y))
def swapO (_ : Nat) (args : List AV) (_ : Am.Heap) : Option (AV × Option Blk) :=
  match args with
  | [.int .i64 b, .agg [.ints .u64 5 xs], .agg [.ints .u64 5 ys]] => some (.tuple [el (List.zipWith (swA b) xs ys), el (List.zipWith (swB b) xs ys)], none)
  | _ => none
theorem swap_pure {P : Program} {f : FuncId} (F : Fn P f G4 af_field_Swap) : PureOk P f swapO := by
  refine F.plain fun nid args hp r ha hr => ?_
  unfold swapO at hr
  split at hr
  · rename_i b xs ys
    cases hr
    obtain ⟨_, ⟨⟨hl, _⟩, _⟩, ⟨⟨hl', _⟩, _⟩, _⟩ := ha
    obtain ⟨a, b, c, d, e, rfl⟩ := five hl
    obtain ⟨a', b', c', d', e', rfl⟩ := five hl'
    exact ⟨rfl, rfl, rfl, by kernel_rfl⟩
  · cases hr
def byteK (x : Int) (k : Nat) : Int := IntKind.u8.wrap (x.fdiv (2 ^ (8 * k)))
def word8 (x : Int) : List Int := [byteK x 0, byteK x 1, byteK x 2, byteK x 3, byteK x 4, byteK x 5, byteK x 6, byteK x 7]
def shl64 (x : Int) (n : Nat) : Int := w64 (x * 2 ^ n)
def shr (x : Int) (n : Nat) : Int := x.fdiv (2 ^ n)
def bytes5 (a b c d e : Int) : List Int :=
  let q := sh51 (w64 (a + 19))
  let q := sh51 (w64 (b + q))
  let q := sh51 (w64 (c + q))
  let q := sh51 (w64 (d + q))
  let q := sh51 (w64 (e + q))
  let a := w64 (a + w64 (19 * q))
  let b := w64 (b + sh51 a)
  let c := w64 (c + sh51 b)
  let d := w64 (d + sh51 c)
  let e := w64 (e + sh51 d)
  word8 (bw .or .u64 (m51 a) (shl64 (m51 b) 51)) ++ word8 (bw .or .u64 (shr (m51 b) 13) (shl64 (m51 c) 38)) ++
    word8 (bw .or .u64 (shr (m51 c) 26) (shl64 (m51 d) 25)) ++ word8 (bw .or .u64 (shr (m51 d) 39) (shl64 (m51 e) 12))
def bytesL (xs : List Int) : List Int :=
  match carryL (carryL xs) with
  | [a, b, c, d, e] => bytes5 a b c d e
  | _ => []
def key (xs : List Int) : AV := .agg [.ints .u8 32 xs]
def bytesO (_ : Nat) (args : List AV) (_ : Am.Heap) : Option (AV × Option Blk) :=
  match args with
  | [.agg [.ints .u64 5 xs]] => some (key (bytesL xs), none)
  | _ => none
theorem bytes_pure {P : Program} {f : FuncId} (F : Fn P f G4 af_field_Elem_Bytes) : PureOk P f bytesO := by
  refine F.plain fun nid args hp r ha hr => ?_
  unfold bytesO at hr
  split at hr
  · rename_i xs
    cases hr
    obtain ⟨⟨⟨hl, _⟩, _⟩, _⟩ := ha
    obtain ⟨a, b, c, d, e, rfl⟩ := five hl
    exact ⟨rfl, rfl, rfl, by kernel_rfl⟩
  · cases hr
def contI (k : IntKind) (h : Heap) (v : AV) : Option (List Int) :=
  match v with
  | .nils => some []
  | .emp => some []
  | .isl k' xs => if k' = k then some xs else none
  | .slice id o j len e cap => match slCont h (.slice id o j len e cap) with | some (.ints k' xs) => if k' = k then some xs else none | _ => none
  | _ => none
def contR (e : Nat) (h : Heap) (v : AV) : Option (List (List AV)) :=
  match v with
  | .nils => some []
  | .emp => some []
  | .islR e' xs => if e' = e then some xs else none
  | .slice id o j len e0 cap => match slCont h (.slice id o j len e0 cap) with | some (.rows e' xs) => if e' = e then some xs else none | _ => none
  | _ => none
def viewS (h : Heap) (k : GK) (v : AV) : Option (Nat × Nat × Blk) :=
  match k with
  | .some => none
  | .ints k => (contI k h v).map fun xs => (xs.length, 0, .segs [.ints k xs.length xs])
  | .rows e => if e = 0 then none else (contR e h v).map fun xs => (xs.length, e, .rows e xs.length xs)
def noIdC (b : Blk) : Prop := ∀ u ∈ b.cells, noId u = true
theorem view_core {ι : Inj} {w : World} {a : Option Addr} {len c e : Nat} {b : Blk} {x : Value} (hx : x = .slice a len c) (hle : len ≤ c) (wf : b.Wf) (hlen : b.cells.length = len * esz e) (hn : noIdC b)
    (hc : c = 0 ∨ ∃ B off, a = some ⟨B, off, none⟩ ∧ ∃ arr el z, w.heap[B]? = some (.cells arr el z) ∧ off + c * esz e ≤ arr.size ∧ ∀ i y, b.cells[i]? = some y → ∃ u, arr[off + i]? = some u ∧ SR ι y u) :
    ∃ q : Place, (∀ (ι' : Inj) n, ι' n = some q → (∀ k f, ι.fz k = some f → ι'.fz k = some f) → VR ι' (.slice n 0 0 len e none) x ∧ BlkR ι' w n ⟨n, true, b⟩) ∧ (q.lim ≠ 0 → c ≠ 0 ∧ ∃ off, a = some ⟨q.blk, off, none⟩) := by
  subst hx
  have hez : 1 ≤ esz e := by unfold esz; split <;> omega
  rcases hc with h0 | ⟨B, off, ha, arr, el, z, hg, hfit, hcell⟩
  · subst h0
    have hl0 : len = 0 := by omega
    subst hl0
    refine ⟨⟨0,0,0,0⟩, fun ι' n hi _ => ⟨⟨_, a, 0, hi, rfl, ⟨Nat.le_refl _, .inl rfl, (fun m h => by cases h), by simp, .inl rfl⟩⟩, _, hi, wf, by simpa using hlen, fun _ => rfl, fun h => absurd rfl h⟩, fun h => absurd rfl h⟩
  · by_cases h0 : c = 0
    · subst h0
      have hl0 : len = 0 := by omega
      subst hl0
      refine ⟨⟨0,0,0,0⟩, fun ι' n hi _ => ⟨⟨_, a, 0, hi, rfl, ⟨Nat.le_refl _, .inl rfl, (fun m h => by cases h), by simp, .inl rfl⟩⟩, _, hi, wf, by simpa using hlen, fun _ => rfl, fun h => absurd rfl h⟩, fun h => absurd rfl h⟩
    · have hc1 : 1 * 1 ≤ c * esz e := Nat.mul_le_mul (by omega) hez
      have hle2 : len * esz e ≤ c * esz e := Nat.mul_le_mul_right _ hle
      refine ⟨⟨B, off, len * esz e, arr.size⟩, fun ι' n hi hz => ⟨⟨_, a, c, hi, rfl, ⟨hle, .inr (by simpa using ha), (fun m h => by cases h), by simp, .inr (by simpa using hfit)⟩⟩, _, hi, wf, hlen, fun h => by simp only at h; omega, fun _ => .inl ⟨arr, el, z, hg, rfl, by simp only; omega, fun i v hv => ?_, fun h => by cases h⟩⟩, fun _ => ⟨h0, off, ha⟩⟩
      obtain ⟨u, hu, hs⟩ := hcell i v hv
      exact ⟨u, hu, hs.ids hz fun id hid => by rw [noId_ids (hn v (List.mem_of_getElem? hv))] at hid; cases hid⟩
theorem noIdC_ints (k : IntKind) (n : Nat) (xs : List Int) : noIdC (.segs [.ints k n xs]) := by
  intro u hu
  rw [cells_ints] at hu
  simp only [List.mem_map] at hu
  obtain ⟨y, _, rfl⟩ := hu
  rfl
theorem noIdC_rows {e n : Nat} {xs : List (List AV)} (h : ∀ r ∈ xs, RowWf e r) : noIdC (.rows e n xs) := by
  intro u hu
  simp only [Blk.cells, List.mem_flatMap] at hu
  obtain ⟨r, hr, hu⟩ := hu
  obtain ⟨w1, w2, w3⟩ := h r hr
  simp only [cellsL, List.mem_flatMap] at hu
  obtain ⟨s, hs, hu⟩ := hu
  have hns : noId s = true := by simp only [noIds, List.all_eq_true] at w3; exact w3 s hs
  cases s <;> first | (simp [noId] at hns; done) | (simp only [segC, List.mem_singleton] at hu; subst hu; rfl) | (simp only [segC, List.mem_map] at hu; obtain ⟨y, _, rfl⟩ := hu; rfl)
def Apart (ι : Inj) (h : Heap) (used : List Nat) (q : Place) : Prop := q.lim ≠ 0 → ∀ oid c0 p0, h.get oid = some c0 → c0.ro = false → ι oid = some p0 → p0.lim ≠ 0 → oid ∉ used → p0.blk ≠ q.blk
theorem viewS_sound {ι : Inj} {h : Heap} {w : World} {k : GK} {v : AV} {x : Value} {len e : Nat} {b : Blk} (R : HRel ι h w) (hx : VR ι v x) (hk : viewS h k v = some (len, e, b)) :
    ∃ q : Place, (∀ (ι' : Inj) n, ι' n = some q → (∀ k f, ι.fz k = some f → ι'.fz k = some f) → VR ι' (.slice n 0 0 len e none) x ∧ BlkR ι' w n ⟨n, true, b⟩) ∧ Apart ι h (avIds v) q := by
  have frz : ∀ {a : Option Addr} {c : Nat} {cells : List AV}, FrzS ι a c len (esz e) cells → b.cells = cells → c = 0 ∨ ∃ B off, a = some ⟨B, off, none⟩ ∧ ∃ arr el z, w.heap[B]? = some (.cells arr el z) ∧ off + c * esz e ≤ arr.size ∧ ∀ i y, b.cells[i]? = some y → ∃ u, arr[off + i]? = some u ∧ SR ι y u := by
    intro a c cells F hb
    rcases F.2 with h0 | ⟨B, off, f, ha, hf, hfit, hc⟩
    · exact .inl h0
    · right
      obtain ⟨⟨arr, el, z, g1, g2, g3⟩, _⟩ := R.fz B f hf
      refine ⟨B, off, ha, arr, el, z, g1, by omega, fun i y hi => ?_⟩
      rw [hb] at hi
      obtain ⟨_, _, u, hu, hs⟩ := g3 _ _ (hc i y hi)
      exact ⟨u, hu, hs⟩
  have frzA : ∀ {a : Option Addr} {c : Nat} {cells : List AV} {q : Place}, FrzS ι a c len (esz e) cells → (q.lim ≠ 0 → c ≠ 0 ∧ ∃ off, a = some ⟨q.blk, off, none⟩) → Apart ι h (avIds v) q := by
    intro a c cells q F hq hlim oid c0 p0 hg hro hp hl _
    obtain ⟨hc0, off, ha⟩ := hq hlim
    obtain ⟨B, off', f, ha', hf, _⟩ := F.2.resolve_left hc0
    rw [ha] at ha'
    cases ha'
    exact (R.fz _ f hf).2 oid c0 p0 hg hro hp hl
  have nil : ∀ {a : Option Addr}, x = .slice a 0 0 → len = 0 → b.Wf → b.cells = [] → ∃ q : Place, (∀ (ι' : Inj) n, ι' n = some q → (∀ k f, ι.fz k = some f → ι'.fz k = some f) → VR ι' (.slice n 0 0 len e none) x ∧ BlkR ι' w n ⟨n, true, b⟩) ∧ Apart ι h (avIds v) q := by
    intro a ha hl wf hc
    subst hl
    obtain ⟨q, h1, h2⟩ := view_core (ι := ι) (w := w) (e := e) (b := b) ha (Nat.le_refl _) wf (by rw [hc]; simp) (by intro u hu; rw [hc] at hu; simp at hu) (.inl rfl)
    exact ⟨q, h1, fun hlim => absurd rfl (h2 hlim).1⟩
  have own : ∀ {id o j : Nat} {cap : Option Nat} {a : Option Addr} {c : Nat} {p : Place} {cc : Cell}, v = .slice id o j len e cap → x = .slice a len c → ι id = some p → h.get id = some cc → SlR p o j len e cap a c → b.Wf → b.cells.length = len * esz e → noIdC b → (∀ i, i < len * esz e → b.cells[i]? = cc.blk.cells[o + j * esz e + i]?) → (∀ s pos, cc.blk ≠ .iter s pos) →
      ∃ q : Place, (∀ (ι' : Inj) n, ι' n = some q → (∀ k f, ι.fz k = some f → ι'.fz k = some f) → VR ι' (.slice n 0 0 len e none) x ∧ BlkR ι' w n ⟨n, true, b⟩) ∧ Apart ι h (avIds v) q := by
    intro id o j cap a c p cc hv hxe hp hg S wf hlen hn hcell hni
    obtain ⟨p', hp', wf', hs, h0, h1⟩ := R.blk id cc hg
    rw [hp] at hp'; cases hp'
    have hc : c = 0 ∨ ∃ B off, a = some ⟨B, off, none⟩ ∧ ∃ arr el z, w.heap[B]? = some (.cells arr el z) ∧ off + c * esz e ≤ arr.size ∧ ∀ i y, b.cells[i]? = some y → ∃ u, arr[off + i]? = some u ∧ SR ι y u := by
      by_cases hc0 : c = 0
      · exact .inl hc0
      · right
        have ha := S.addr.resolve_left hc0
        have hm := S.most.resolve_left hc0
        have hez : 1 ≤ esz e := by unfold esz; split <;> omega
        have hc1 : 1 * 1 ≤ c * esz e := Nat.mul_le_mul (by omega) hez
        rw [Nat.add_mul] at hm
        have hl : p.lim ≠ 0 := by omega
        obtain ⟨arr, el, z, g1, g2, g3, g4, _⟩ := (rowOf (h1 hl) hni).row
        refine ⟨_, _, ha, arr, el, z, g1, by omega, fun i y hi => ?_⟩
        have hil : i < len * esz e := by rw [← hlen]; exact (List.getElem?_eq_some_iff.1 hi).1
        rw [hcell i hil] at hi
        obtain ⟨u, hu, hs⟩ := g4 _ y hi
        exact ⟨u, by rw [← hu]; congr 1; omega, hs⟩
    obtain ⟨q, q1, q2⟩ := view_core hxe S.le wf hlen hn hc
    refine ⟨q, q1, fun hlim oid c0 p0 hg0 hro hp0 hl0 hnot => ?_⟩
    obtain ⟨hc0, off, ha⟩ := q2 hlim
    have ha' := S.addr.resolve_left hc0
    rw [ha] at ha'
    simp only [Option.some.injEq, Addr.mk.injEq] at ha'
    rw [ha'.1]
    have hne : oid ≠ id := by rintro rfl; exact hnot (by rw [hv]; simp [avIds])
    have hm := S.most.resolve_left hc0
    have hez : 1 ≤ esz e := by unfold esz; split <;> omega
    have hc1 : 1 * 1 ≤ c * esz e := Nat.mul_le_mul (by omega) hez
    rw [Nat.add_mul] at hm
    exact R.disj oid c0 p0 id cc p hg0 hg hne hro hp0 hp hl0 (by omega)
  unfold viewS at hk
  split at hk
  · cases hk
  · rename_i k
    cases hc : contI k h v with
    | none => rw [hc] at hk; cases hk
    | some xs =>
      rw [hc] at hk
      simp only [Option.map_some, Option.some.injEq, Prod.mk.injEq] at hk
      obtain ⟨rfl, rfl, rfl⟩ := hk
      have wf : (Blk.segs [.ints k xs.length xs]).Wf := by intro s hs; simp at hs; subst hs; rfl
      have hcl : (Blk.segs [.ints k xs.length xs]).cells.length = xs.length * esz 0 := by rw [cells_ints]; simp [esz]
      unfold contI at hc
      split at hc
      · cases hc; exact nil hx.nils rfl wf (by rw [cells_ints]; rfl)
      · cases hc; obtain ⟨a, ha⟩ := hx.emp; exact nil ha rfl wf (by rw [cells_ints]; rfl)
      · split at hc <;> try (cases hc; done)
        rename_i hkk; subst hkk; cases hc
        obtain ⟨a, c, rfl, hr, F⟩ := hx.isl
        have F' : FrzS ι a c xs.length (esz 0) (xs.map (.int _)) := F
        obtain ⟨q, q1, q2⟩ := view_core (b := .segs [.ints _ xs.length xs]) (e := 0) rfl F.1 wf hcl (noIdC_ints _ _ _) (frz F' (cells_ints _ _ _))
        exact ⟨q, q1, frzA F' q2⟩
      · rename_i id o j len e cap
        split at hc <;> try (cases hc; done)
        rename_i k' ys hs
        split at hc <;> try (cases hc; done)
        rename_i hkk; subst hkk; cases hc
        obtain ⟨he, hlen, p, a, c, hp, hxe, S, _, _⟩ := slCont_ints R hx hs
        subst he
        obtain ⟨cc, hg⟩ : ∃ cc, h.get id = some cc := by
          cases hg : h.get id with
          | none => simp [slCont, hg] at hs
          | some c => exact ⟨c, rfl⟩
        have habs := slCont_absI R hx hg hs
        rw [← hlen] at S hxe habs
        refine own (by rw [hlen]) hxe hp hg S wf hcl (noIdC_ints _ _ _) (fun i hi => ?_) (slCont_ni hg hs)
        rw [cells_ints, habs i (by simpa [esz] using hi)]
        simp [esz]
      · cases hc
  · rename_i e0
    split at hk <;> try (cases hk; done)
    rename_i he0
    have hez : esz e0 = e0 := by simp [esz, he0]
    cases hc : contR e0 h v with
    | none => rw [hc] at hk; cases hk
    | some xs =>
      rw [hc] at hk
      simp only [Option.map_some, Option.some.injEq, Prod.mk.injEq] at hk
      obtain ⟨rfl, rfl, rfl⟩ := hk
      unfold contR at hc
      split at hc
      · cases hc; exact nil hx.nils rfl (by simp [Blk.Wf]) rfl
      · cases hc; obtain ⟨a, ha⟩ := hx.emp; exact nil ha rfl (by simp [Blk.Wf]) rfl
      · split at hc <;> try (cases hc; done)
        rename_i e' xs' hkk; subst hkk; cases hc
        obtain ⟨a, c, rfl, he, hr, F⟩ := hx.islR
        rw [← hez] at F
        have hcl : (Blk.rows e' xs.length xs).cells.length = xs.length * esz e' := by rw [hez]; exact rows_len fun y hy => (hr y hy).2.1
        obtain ⟨q, q1, q2⟩ := view_core (b := .rows e' xs.length xs) rfl F.1 ⟨rfl, hr⟩ hcl (noIdC_rows hr) (frz F rfl)
        exact ⟨q, q1, frzA F q2⟩
      · rename_i id o j len e1 cap
        split at hc <;> try (cases hc; done)
        rename_i e' ys hs
        split at hc <;> try (cases hc; done)
        rename_i hkk; subst hkk; cases hc
        obtain ⟨p, a, c, hp, hxe, S⟩ := hx.slice
        obtain ⟨cc, hg⟩ : ∃ cc, h.get id = some cc := by
          cases hg : h.get id with
          | none => simp [slCont, hg] at hs
          | some c => exact ⟨c, rfl⟩
        obtain ⟨rfl, he1, hlen, hr, habs⟩ := slCont_absR R hx hg hs
        rw [← hlen] at S hxe habs
        have hcl : (Blk.rows e' xs.length xs).cells.length = xs.length * esz e' := by rw [hez]; exact rows_len fun y hy => (hr y hy).2.1
        refine own (by rw [hlen]) hxe hp hg S ⟨rfl, hr⟩ hcl (noIdC_rows hr) (fun i hi => ?_) (slCont_ni hg hs)
        rw [hez] at hi
        rw [hez]
        exact habs i hi
      · cases hc
inductive AK where
  | plain
  | sl (k : GK)
  | agg (ks : List GK)
def isSl : AV → Bool
  | .slice .. | .isl .. | .islR .. | .nils | .emp => true
  | _ => false
def viewSegs (h : Heap) : List AV → List GK → Nat → Option (List AV × List Cell)
  | [], _, _ => some ([], [])
  | s :: r, ks, n =>
    if isSl s then (match ks with
      | k :: ks => (viewS h k s).bind fun t => (viewSegs h r ks (n + 1)).map fun p => (.slice n 0 0 t.1 t.2.1 none :: p.1, ⟨n, true, t.2.2⟩ :: p.2)
      | [] => none)
    else if noId s then (viewSegs h r ks n).map fun p => (s :: p.1, p.2) else none
def viewArgs (h : Heap) : List AV → List AK → Nat → Option (List AV × List Cell)
  | [], [], _ => some ([], [])
  | v :: r, a :: as, n =>
    match a with
    | .plain => if (avIds v).isEmpty then (viewArgs h r as n).map fun p => (v :: p.1, p.2) else none
    | .sl k => if isSl v then (viewS h k v).bind fun t => (viewArgs h r as (n + 1)).map fun p => (.slice n 0 0 t.1 t.2.1 none :: p.1, ⟨n, true, t.2.2⟩ :: p.2) else none
    | .agg ks => match v with
      | .agg l => (viewSegs h l ks n).bind fun p => (viewArgs h r as (n + p.2.length)).map fun q => (.agg p.1 :: q.1, p.2 ++ q.2)
      | _ => none
  | _, _, _ => none
structure Grown (ι : Inj) (h : Heap) (w : World) (used : List Nat) (ι1 : Inj) (n : Nat) (bl : List Cell) (ι2 : Inj) : Prop where
  le : ι1.le ι2
  fz : ι2.fz = ι1.fz
  same : ∀ i, i < n ∨ n + bl.length ≤ i → ι2 i = ι1 i
  blk : ∀ i c, findB i bl = some c → n ≤ i ∧ i < n + bl.length ∧ c.ro = true ∧ BlkR ι2 w i c ∧ ∃ q, ι2 i = some q ∧ Apart ι h used q
section
variable {ι ι1 ι2 ι3 : Inj} {h : Heap} {w : World}
theorem Apart.mono {u u' : List Nat} {q : Place} (k : Apart ι h u q) (hu : ∀ i ∈ u, i ∈ u') : Apart ι h u' q :=
  fun hl oid c0 p0 a b c d e => k hl oid c0 p0 a b c d fun hm => e (hu _ hm)
theorem Grown.nil {u : List Nat} {n : Nat} : Grown ι h w u ι1 n [] ι1 := ⟨.refl _, rfl, fun _ _ => rfl, fun i c hf => by simp [findB] at hf⟩
theorem Grown.mono {u u' : List Nat} {n : Nat} {bl : List Cell} (G : Grown ι h w u ι1 n bl ι2) (hu : ∀ i ∈ u, i ∈ u') : Grown ι h w u' ι1 n bl ι2 :=
  ⟨G.le, G.fz, G.same, fun i c hf => by obtain ⟨a, b, c, d, q, e, f⟩ := G.blk i c hf; exact ⟨a, b, c, d, q, e, f.mono hu⟩⟩
theorem Grown.cons {u : List Nat} {n : Nat} {bl : List Cell} {b : Blk} {q : Place} (hn : ι1 n = none) (hb : ∀ ι' : Inj, ι' n = some q → (∀ k f, ι1.fz k = some f → ι'.fz k = some f) → BlkR ι' w n ⟨n, true, b⟩) (ha : Apart ι h u q)
    (G : Grown ι h w u (ι1.upd n q) (n + 1) bl ι2) : Grown ι h w u ι1 n (⟨n, true, b⟩ :: bl) ι2 := by
  have h2 : ι2 n = some q := by rw [G.same n (.inl (by omega))]; exact Inj.upd_same _ _ _
  refine ⟨(Inj.le_upd hn).trans G.le, G.fz, fun i hi => ?_, fun i c hf => ?_⟩
  · rw [G.same i (by simp at hi; omega), Inj.upd_ne _ _ (by simp at hi; omega)]
  · simp only [findB] at hf
    split at hf
    · rename_i e; subst e; cases hf
      exact ⟨Nat.le_refl _, by simp, rfl, hb ι2 h2 fun k f hk => by rw [G.fz]; exact hk, q, h2, ha⟩
    · obtain ⟨a, b, c, d, e⟩ := G.blk i c hf
      exact ⟨by omega, by simp; omega, c, d, e⟩
theorem findB_append {i : Nat} : ∀ {a b : List Cell}, findB i (a ++ b) = match findB i a with | some c => some c | none => findB i b
  | [], b => rfl
  | c :: a, b => by
    simp only [List.cons_append, findB]
    split
    · rfl
    · exact findB_append
theorem Grown.append {u : List Nat} {n : Nat} {a b : List Cell} (G : Grown ι h w u ι1 n a ι2) (K : Grown ι h w u ι2 (n + a.length) b ι3) : Grown ι h w u ι1 n (a ++ b) ι3 := by
  refine ⟨G.le.trans K.le, K.fz.trans G.fz, fun i hi => ?_, fun i c hf => ?_⟩
  · rw [K.same i (by simp at hi; omega), G.same i (by simp at hi; omega)]
  · rw [findB_append] at hf
    split at hf
    · rename_i c' hc
      cases hf
      obtain ⟨x1, x2, x3, x4, q, x5, x6⟩ := G.blk i _ hc
      exact ⟨x1, by simp; omega, x3, x4.world K.le fun _ _ _ => rfl, q, K.le.pl _ _ x5, x6⟩
    · obtain ⟨x1, x2, x3, x4, x5⟩ := K.blk i c hf
      exact ⟨by omega, by simp; omega, x3, x4, x5⟩
theorem isSl_segC {s : AV} (h : isSl s = true) : segC s = [s] := by cases s <;> first | rfl | (simp [isSl] at h; done)
theorem CR_split {a b : List AV} {vs : List Value} (h : CR ι (a ++ b) vs) : ∃ xs ys, vs = xs ++ ys ∧ CR ι a xs ∧ CR ι b ys := by
  refine ⟨vs.take a.length, vs.drop a.length, by simp, ⟨by have := h.1; simp at this ⊢; omega, fun i v hi => ?_⟩, ⟨by have := h.1; simp at this ⊢; omega, fun i v hi => ?_⟩⟩
  · have hil : i < a.length := (List.getElem?_eq_some_iff.1 hi).1
    obtain ⟨x, hx, hs⟩ := h.2 i v (by rw [List.getElem?_append_left hil]; exact hi)
    exact ⟨x, by rw [List.getElem?_take, if_pos hil]; exact hx, hs⟩
  · obtain ⟨x, hx, hs⟩ := h.2 (a.length + i) v (by rw [List.getElem?_append_right (by omega), Nat.add_sub_cancel_left]; exact hi)
    exact ⟨x, by rw [List.getElem?_drop]; exact hx, hs⟩
theorem noids_CR {l : List AV} {vs : List Value} (hz : ∀ k f, ι.fz k = some f → ι1.fz k = some f) (hn : avIds.avIdsL l = []) (hv : CR ι (cellsL l) vs) : CR ι1 (cellsL l) vs :=
  hv.ids hz fun id hid => by rw [hn] at hid; cases hid
theorem viewSegs_sound (R : HRel ι h w) : ∀ (l : List AV) (ks : List GK) (n : Nat) (l' : List AV) (bl : List Cell) (vs : List Value) (ι1 : Inj), viewSegs h l ks n = some (l', bl) → SegsWf l → CR ι (cellsL l) vs →
    (∀ k f, ι.fz k = some f → ι1.fz k = some f) → (∀ i, n ≤ i → ι1 i = none) → ∃ ι2, Grown ι h w (avIds.avIdsL l) ι1 n bl ι2 ∧ SegsWf l' ∧ CR ι2 (cellsL l') vs
  | [], ks, n, l', bl, vs, ι1, hk, _, hc, hz, hn => by
    simp only [viewSegs, Option.some.injEq, Prod.mk.injEq] at hk
    obtain ⟨rfl, rfl⟩ := hk
    exact ⟨ι1, .nil, fun s hs => by simp at hs, ⟨hc.1, fun i v hi => by simp [cellsL] at hi⟩⟩
  | s :: r, ks, n, l', bl, vs, ι1, hk, wf, hc, hz, hn => by
    rw [segsWf_cons] at wf
    rw [cellsL_cons] at hc
    obtain ⟨xs, ys, rfl, c1, c2⟩ := CR_split hc
    simp only [viewSegs] at hk
    split at hk
    · rename_i hsl
      split at hk <;> try (cases hk; done)
      rename_i k ks
      cases hv : viewS h k s with
      | none => rw [hv] at hk; cases hk
      | some t =>
        obtain ⟨len, e, b⟩ := t
        rw [hv] at hk
        simp only [Option.bind_some] at hk
        cases hr : viewSegs h r ks (n + 1) with
        | none => rw [hr] at hk; cases hk
        | some p =>
          obtain ⟨r', bl'⟩ := p
          rw [hr] at hk
          simp only [Option.map_some, Option.some.injEq, Prod.mk.injEq] at hk
          obtain ⟨rfl, rfl⟩ := hk
          rw [isSl_segC hsl] at c1
          obtain ⟨x, us, rfl, hsr, c1'⟩ := CR_cons c1
          have hus : us = [] := List.eq_nil_of_length_eq_zero (by have := c1'.1; simpa using this.symm)
          subst hus
          obtain ⟨q, q1, q2⟩ := viewS_sound R (.of_SR hsr) hv
          obtain ⟨ι2, G, w2, k2⟩ := viewSegs_sound R r ks (n + 1) r' bl' ys (ι1.upd n q) hr wf.2 c2 hz fun i hi => by rw [Inj.upd_ne _ _ (by omega)]; exact hn i (by omega)
          have h2 : ι2 n = some q := by rw [G.same n (.inl (by omega))]; exact Inj.upd_same _ _ _
          obtain ⟨v1, v2⟩ := q1 ι2 n h2 fun k f hk => by rw [G.fz]; exact hz k f hk
          refine ⟨ι2, .cons (hn n (Nat.le_refl _)) (fun ι' hi hz' => (q1 ι' n hi fun k f hk => hz' k f (hz k f hk)).2) (q2.mono fun i hi => by simp only [avIds.avIdsL, List.mem_append]; exact .inl hi) (G.mono fun i hi => by simp only [avIds.avIdsL, List.mem_append]; exact .inr hi), segsWf_cons.2 ⟨trivial, w2⟩, ?_⟩
          rw [cellsL_cons]
          exact CR_append (a := [_]) (xs := [x]) (SR.CR (VR.SR_of rfl v1) |> fun h => by rw [(VR.SR_of rfl v1 : SR ι2 _ x).one.1] at h; simpa using h) k2
    · split at hk <;> try (cases hk; done)
      rename_i hno
      cases hr : viewSegs h r ks n with
      | none => rw [hr] at hk; cases hk
      | some p =>
        obtain ⟨r', bl'⟩ := p
        rw [hr] at hk
        simp only [Option.map_some, Option.some.injEq, Prod.mk.injEq] at hk
        obtain ⟨rfl, rfl⟩ := hk
        obtain ⟨ι2, G, w2, k2⟩ := viewSegs_sound R r ks n r' bl' ys ι1 hr wf.2 c2 hz hn
        refine ⟨ι2, G.mono fun i hi => by simp only [avIds.avIdsL, List.mem_append]; exact .inr hi, segsWf_cons.2 ⟨wf.1, w2⟩, ?_⟩
        rw [cellsL_cons]
        refine CR_append ?_ k2
        have := noids_CR (ι := ι) (ι1 := ι2) (l := [s]) (vs := xs) (fun k f hk => by rw [G.fz]; exact hz k f hk) (by simp [avIds.avIdsL, noId_ids hno]) (by simpa [cellsL] using c1)
        simpa [cellsL] using this
theorem VRL.cons {v : AV} {l : List AV} {x : Value} {vs : List Value} (h : VR ι v x) (k : VRL ι l vs) : VRL ι (v :: l) (x :: vs) := by
  refine ⟨by simp [k.1], fun i u hi => ?_⟩
  cases i with
  | zero => simp only [List.getElem?_cons_zero, Option.some.injEq] at hi; subst hi; exact ⟨x, rfl, h⟩
  | succ i => exact k.2 i u (by simpa using hi)
theorem VRL.uncons {v : AV} {l : List AV} {vs : List Value} (h : VRL ι (v :: l) vs) : ∃ x r, vs = x :: r ∧ VR ι v x ∧ VRL ι l r := by
  cases vs with
  | nil => have := h.1; simp at this
  | cons x r =>
    obtain ⟨y, hy, hv⟩ := h.2 0 v rfl
    simp only [List.getElem?_cons_zero, Option.some.injEq] at hy
    subst hy
    exact ⟨x, r, rfl, hv, by have := h.1; simpa using this, fun i u hi => h.2 (i + 1) u (by simpa using hi)⟩
theorem viewArgs_sound (R : HRel ι h w) : ∀ (args : List AV) (as : List AK) (n : Nat) (args' : List AV) (bl : List Cell) (vs : List Value) (ι1 : Inj), viewArgs h args as n = some (args', bl) → VRL ι args vs →
    (∀ k f, ι.fz k = some f → ι1.fz k = some f) → (∀ i, n ≤ i → ι1 i = none) → ∃ ι2, Grown ι h w (avIds.avIdsL args) ι1 n bl ι2 ∧ VRL ι2 args' vs
  | [], [], n, args', bl, vs, ι1, hk, hv, hz, hn => by
    simp only [viewArgs, Option.some.injEq, Prod.mk.injEq] at hk
    obtain ⟨rfl, rfl⟩ := hk
    exact ⟨ι1, .nil, ⟨hv.1, fun i v hi => by simp at hi⟩⟩
  | v :: r, a :: as, n, args', bl, vs, ι1, hk, hv, hz, hn => by
    obtain ⟨x, rs, rfl, hv1, hr'⟩ := hv.uncons
    simp only [viewArgs] at hk
    split at hk
    · split at hk <;> try (cases hk; done)
      rename_i he
      cases hr : viewArgs h r as n with
      | none => rw [hr] at hk; cases hk
      | some p =>
        obtain ⟨r', bl'⟩ := p
        rw [hr] at hk
        simp only [Option.map_some, Option.some.injEq, Prod.mk.injEq] at hk
        obtain ⟨rfl, rfl⟩ := hk
        obtain ⟨ι2, G, k2⟩ := viewArgs_sound R r as n r' bl' rs ι1 hr hr' hz hn
        refine ⟨ι2, G.mono fun i hi => by simp only [avIds.avIdsL, List.mem_append]; exact .inr hi, .cons (hv1.ids (fun k f hk => by rw [G.fz]; exact hz k f hk) fun id hid => ?_) k2⟩
        have : avIds v = [] := by simpa using he
        rw [this] at hid; cases hid
    · rename_i k
      split at hk <;> try (cases hk; done)
      cases hvs : viewS h k v with
      | none => rw [hvs] at hk; cases hk
      | some t =>
        obtain ⟨len, e, b⟩ := t
        rw [hvs] at hk
        simp only [Option.bind_some] at hk
        cases hr : viewArgs h r as (n + 1) with
        | none => rw [hr] at hk; cases hk
        | some p =>
          obtain ⟨r', bl'⟩ := p
          rw [hr] at hk
          simp only [Option.map_some, Option.some.injEq, Prod.mk.injEq] at hk
          obtain ⟨rfl, rfl⟩ := hk
          obtain ⟨q, q1, q2⟩ := viewS_sound R hv1 hvs
          obtain ⟨ι2, G, k2⟩ := viewArgs_sound R r as (n + 1) r' bl' rs (ι1.upd n q) hr hr' hz fun i hi => by rw [Inj.upd_ne _ _ (by omega)]; exact hn i (by omega)
          have h2 : ι2 n = some q := by rw [G.same n (.inl (by omega))]; exact Inj.upd_same _ _ _
          obtain ⟨v1, v2⟩ := q1 ι2 n h2 fun k f hk => by rw [G.fz]; exact hz k f hk
          exact ⟨ι2, .cons (hn n (Nat.le_refl _)) (fun ι' hi hz' => (q1 ι' n hi fun k f hk => hz' k f (hz k f hk)).2) (q2.mono fun i hi => by simp only [avIds.avIdsL, List.mem_append]; exact .inl hi) (G.mono fun i hi => by simp only [avIds.avIdsL, List.mem_append]; exact .inr hi), .cons v1 k2⟩
    · rename_i ks
      split at hk <;> try (cases hk; done)
      rename_i l
      obtain ⟨cs, rfl, wf, hc⟩ := hv1.agg
      cases hs : viewSegs h l ks n with
      | none => rw [hs] at hk; cases hk
      | some p =>
        obtain ⟨l', bl1⟩ := p
        rw [hs] at hk
        simp only [Option.bind_some] at hk
        cases hr : viewArgs h r as (n + bl1.length) with
        | none => rw [hr] at hk; cases hk
        | some p =>
          obtain ⟨r', bl'⟩ := p
          rw [hr] at hk
          simp only [Option.map_some, Option.some.injEq, Prod.mk.injEq] at hk
          obtain ⟨rfl, rfl⟩ := hk
          obtain ⟨ι2, G, w2, k2⟩ := viewSegs_sound R l ks n l' bl1 cs.toList ι1 hs wf hc hz hn
          obtain ⟨ι3, G3, k3⟩ := viewArgs_sound R r as (n + bl1.length) r' bl' rs ι2 hr hr' (fun k f hk => by rw [G.fz]; exact hz k f hk) fun i hi => by rw [G.same i (.inr hi)]; exact hn i (by omega)
          exact ⟨ι3, .append (G.mono fun i hi => by simp only [avIds.avIdsL, avIds, List.mem_append]; exact .inl hi) (G3.mono fun i hi => by simp only [avIds.avIdsL, List.mem_append]; exact .inr hi), .cons (VR.mono (v := .agg l') G3.le ⟨cs, rfl, w2, k2⟩) k3⟩
  | [], _ :: _, _, _, _, _, _, hk, _, _, _ => by cases hk
  | _ :: _, [], _, _, _, _, _, hk, _, _, _ => by cases hk
end
end Go.Am
