/- RatchetSeals: part 35 of 50 of its proof. -/
import Derived.Test.YtmkefajojokkfaaGreatD19
import Derived.Test.YtmkefajojokkfaaGreatD29
import Derived.Test.YtmkefajojokkfaaGreatD16
import Derived.Test.YtmkefajojokkfaaGreatD33
set_option linter.unusedVariables false
set_option linter.unusedSimpArgs false
namespace Go.Am
set_option linter.unusedSimpArgs false
set_option maxRecDepth 100000
def Rc0 : Env := envAdd id_hollowtreeref06_left (pin G10 af_hollowtreeref06_left) G10
def q4L (q : Q4) : List Int := [q.a, q.b, q.c, q.d]
def toQ4 (l : List Int) : Q4 := ⟨g0 l 0, g0 l 1, g0 l 2, g0 l 3⟩
theorem quartR_run (f : Nat → Int) : evFn Rc0 af_hollowtreeref06_Quarter [.agg [.ints .u32 4 (tab 4 f)]] ⟨16, []⟩ kV = some (.agg [.ints .u32 4 (q4L (quarterS (toQ4 (tab 4 f))))], ⟨0, []⟩) := by kernel_rfl
def quartRO : OrcP := fun _ args _ => match args with
  | [.agg [.ints .u32 4 xs]] => some (.agg [.ints .u32 4 (q4L (quarterS (toQ4 xs)))], none)
  | _ => none
theorem quartR_pure {P : Program} {f : FuncId} (F : Fn P f Rc0 af_hollowtreeref06_Quarter) : PureOk P f quartRO := by
  refine F.plain fun nid args hp r ha hr => ?_
  unfold quartRO at hr
  split at hr <;> try (cases hr; done)
  cases hr
  obtain ⟨⟨⟨hl, _⟩, _⟩, _⟩ := ha
  obtain ⟨g, rfl⟩ := tab_of hl
  exact ⟨rfl, rfl, rfl, quartR_run g⟩
def quartRV (Q : Q4 → Q4) : OrcP := fun _ args _ => match args with
  | [.agg [.ints .u32 4 xs]] => some (.agg [.ints .u32 4 (q4L (Q (toQ4 xs)))], none)
  | _ => none
def Rc1 : Env := envAdd id_hollowtreeref06_word (pin G10 af_hollowtreeref06_word) (envAdd id_hollowtreeref06_places (pin G10 af_hollowtreeref06_places) (envAdd id_hollowtreeref06_Quarter (.pure quartRO) G10))
def Rc1V (Q : Q4 → Q4) : Env := envAdd id_hollowtreeref06_word (pin G10 af_hollowtreeref06_word) (envAdd id_hollowtreeref06_places (pin G10 af_hollowtreeref06_places) (envAdd id_hollowtreeref06_Quarter (.pure (quartRV Q)) G10))
def drV (Q : Q4 → Q4) (w : W16) : W16 :=
  let p := Q ⟨w.a.a, w.b.a, w.c.a, w.d.a⟩
  let q := Q ⟨w.a.b, w.b.b, w.c.b, w.d.b⟩
  let r := Q ⟨w.a.c, w.b.c, w.c.c, w.d.c⟩
  let s := Q ⟨w.a.d, w.b.d, w.c.d, w.d.d⟩
  let p' := Q ⟨p.a, q.b, r.c, s.d⟩
  let q' := Q ⟨q.a, r.b, s.c, p.d⟩
  let r' := Q ⟨r.a, s.b, p.c, q.d⟩
  let s' := Q ⟨s.a, p.b, q.c, r.d⟩
  ⟨⟨p'.a, q'.a, r'.a, s'.a⟩, ⟨s'.b, p'.b, q'.b, r'.b⟩, ⟨r'.c, s'.c, p'.c, q'.c⟩, ⟨q'.d, r'.d, s'.d, p'.d⟩⟩
def cTopR : ACode := af_hollowtreeref06_Block.code
def cP1 : ACode := cTopR.l
def cP2 : ACode := cTopR.r.l
def cP3 : ACode := cTopR.r.r.l
def cP4 : ACode := cTopR.r.r.r.l
def cP5 : ACode := cTopR.r.r.r.r.l
def cP6 : ACode := cTopR.r.r.r.r.r.l
def cP7 : ACode := cTopR.r.r.r.r.r.r.l
def cI7 : ACode := cP7.l
def cL7 : ACode := cP7.r.b.b
def cRe : ACode := cTopR.r.r.r.r.r.r.r
def cCn7 : Option Canon := some ⟨[], [6,7,10,11], [], [18,19,20], 21⟩
def afBlockR : AFn := ⟨110, [.cell 6 true 64], .seq none cP1 (.seq none cP2 (.seq none cP3 (.seq none cP4 (.seq none cP5 (.seq none cP6 (.seq none (.seq none cI7 (.block 4 none (.loop 1000 cCn7 cL7))) cRe))))))⟩
def cSt7 (fs : List Int) (i : Int) (w : W16) : St :=
  ⟨mkT 110 [(6, pt 18), (7, pt 19), (10, pt 20), (11, .int .i64 i)], ⟨21, [cel 18 [.ints .u8 64 (List.replicate 64 0)], cel 19 [.ints .u32 16 fs], cel 20 [.ints .u32 16 w.list]]⟩⟩
def wordR (a b c d : Int) : Int := or32 (or32 (or32 (w32 a) (shl32 (w32 b) 8)) (shl32 (w32 c) 16)) (shl32 (w32 d) 24)
def wdAt (l : List Int) (i : Nat) : Int := wordR (g0 l i) (g0 l (i + 1)) (g0 l (i + 2)) (g0 l (i + 3))
def stateR (ks : List Int) (n : Int) (ns : List Int) : List Int :=
  [1634760805,857760878,2036477234,1797285236, wdAt ks 0, wdAt ks 4, wdAt ks 8, wdAt ks 12, wdAt ks 16, wdAt ks 20, wdAt ks 24, wdAt ks 28, n, wdAt ns 0, wdAt ns 4, wdAt ns 8]
theorem cR_start (Q : Q4 → Q4) (L : ACode) (K : Kont) (f g : Nat → Int) (n : Int) :
    ev (Rc1V Q) (.seq none cP1 (.seq none cP2 (.seq none cP3 (.seq none cP4 (.seq none cP5 (.seq none cP6 (.seq none (.seq none cI7 (.block 4 none (.loop 1000 cCn7 L))) cRe))))))) ⟨[.agg [.ints .u8 32 (tab 32 f)], .int .u32 n, .agg [.ints .u8 12 (tab 12 g)]] ++ List.replicate 107 .undef, ⟨16, []⟩⟩ K =
    loopK cCn7 (ev (Rc1V Q) L) 1000 (cSt7 (stateR (tab 32 f) n (tab 12 g)) 0 (toW16 (stateR (tab 32 f) n (tab 12 g)))) (kBlock 4 none (kSeq (Rc1V Q) none cRe K)) := by kernel_rfl
theorem cR_round (Q : Q4 → Q4) (L : St → Option Res) (κ : Kont) (fs : List Int) (i : Int) (w : W16) : ev (Rc1V Q) cL7 (cSt7 fs i w) (kLoop cCn7 L κ) =
    bif decide (i < 10) then L (cSt7 fs (w63 (i + 1)) (drV Q w)) else κ (.exit 4) (withT 47 (.bool false) (withT 46 (.int .i64 i) (cSt7 fs i w))) := by kernel_rfl
def b4R (x : Int) : List Int := [w8 (x.fdiv (2 ^ 0)), w8 (x.fdiv (2 ^ 8)), w8 (x.fdiv (2 ^ 16)), w8 (x.fdiv (2 ^ 24))]
def serR : List Int → List Int → List Int
  | x :: xs, y :: ys => b4R (w32 (x + y)) ++ serR xs ys
  | _, _ => []
theorem cR_end (Q : Q4 → Q4) (f : Nat → Int) (w : W16) : ev (Rc1V Q) cRe (withT 47 (.bool false) (withT 46 (.int .i64 10) (cSt7 (tab 16 f) 10 w))) (kFn [.cell 6 true 64] kV) = some (.agg [.ints .u8 64 (serR w.list (tab 16 f))], ⟨0, []⟩) := by kernel_rfl
def fixL (n : Nat) (l : List Int) : List Int := tab n fun i => l.getD i 0
theorem fixL_eq {n : Nat} {l : List Int} (h : l.length = n) : fixL n l = l := by
  have := tabFrom_get [] l
  simp only [List.nil_append, List.length_nil, h] at this
  exact this
theorem tabFrom_len (f : Nat → Int) : ∀ n i, (tabFrom f i n).length = n
  | 0, _ => rfl
  | n + 1, i => by simp only [tabFrom, List.length_cons, tabFrom_len f n]
theorem tab_len (n : Nat) (f : Nat → Int) : (tab n f).length = n := tabFrom_len f n 0
theorem fixL_len (n : Nat) (l : List Int) : (fixL n l).length = n := tab_len n _
set_option maxRecDepth 100000
def drVN (Q : Q4 → Q4) (w : W16) : Nat → W16
  | 0 => w
  | i + 1 => drV Q (drVN Q w i)
theorem cR_loop (Q : Q4 → Q4) (κ : Kont) (fs : List Int) (w : W16) : loopK cCn7 (ev (Rc1V Q) cL7) 1000 (cSt7 fs 0 w) κ = κ (.exit 4) (withT 47 (.bool false) (withT 46 (.int .i64 10) (cSt7 fs 10 (drVN Q w 10)))) := by
  refine loopK_for (fun i => cSt7 fs (i : Int) (drVN Q w i)) 10 _ (fun i hi L => ?_) (fun L => ?_) 1000 (by omega)
  · refine (cR_round Q L κ fs i (drVN Q w i)).trans ?_
    rw [show (decide ((i : Int) < 10)) = true by simp; omega, cond_true, wS i (by omega)]
    rfl
  · exact (cR_round Q L κ fs (10 : Nat) (drVN Q w 10)).trans rfl
theorem dr_rec (w : W16) : ∀ n, drVN quarterS w n = drN w n
  | 0 => rfl
  | n + 1 => by
    show drV quarterS (drVN quarterS w n) = drS (drN w n)
    rw [dr_rec w n]
    rfl
def blockR (ks : List Int) (n : Int) (ns : List Int) : List Int := serR (drN (toW16 (stateR ks n ns)) 10).list (stateR ks n ns)
theorem blockR_run (f g : Nat → Int) (n : Int) : evFn (Rc1V quarterS) afBlockR [.agg [.ints .u8 32 (tab 32 f)], .int .u32 n, .agg [.ints .u8 12 (tab 12 g)]] ⟨16, []⟩ kV = some (.agg [.ints .u8 64 (blockR (tab 32 f) n (tab 12 g))], ⟨0, []⟩) := by
  refine (evFn_eq ..).trans ?_
  refine (cR_start quarterS cL7 _ f g n).trans ?_
  rw [cR_loop, kBlock_exit, dr_rec]
  exact cR_end quarterS (fun i => g0 (stateR (tab 32 f) n (tab 12 g)) i) _
theorem or32_hi {x c k : Nat} (hx : x < 2 ^ k) (hk : k ≤ 24) (hc : c < 256) : or32 (x : Int) (shl32 (c : Int) k) = ((x + c * 2 ^ k : Nat) : Int) ∧ x + c * 2 ^ k < 2 ^ (k + 8) := by
  have h2 : c * 2 ^ k + 2 ^ k ≤ 256 * 2 ^ k := by
    have : (c + 1) * 2 ^ k ≤ 256 * 2 ^ k := Nat.mul_le_mul_right _ hc
    rw [Nat.add_mul] at this
    omega
  have h3 : (256 : Nat) * 2 ^ k = 2 ^ (k + 8) := by rw [Nat.pow_add, Nat.mul_comm]
  have h4 : (2 : Nat) ^ (k + 8) ≤ 4294967296 := Nat.pow_le_pow_right (n := 2) (by decide) (by omega : k + 8 ≤ 32)
  have hp : 0 < 2 ^ k := Nat.pow_pos (by decide)
  have h1 : shl32 (c : Int) k = ((c * 2 ^ k : Nat) : Int) := by
    rw [shl32, shl32_nat, Nat.mod_eq_of_lt (by omega)]
  refine ⟨?_, by omega⟩
  rw [h1]
  have := (or32_nat (x := x) (y := c * 2 ^ k) (show x < 4294967296 by omega) (show c * 2 ^ k < 4294967296 by omega)).1
  rw [or32, this, Nat.or_comm, ← Nat.shiftLeft_eq, ← Nat.shiftLeft_add_eq_or_of_lt hx, Nat.add_comm, Nat.shiftLeft_eq]
theorem or32_lo {X c : Nat} (hX : X < 16777216) (hc : c < 256) : or32 (shl32 (X : Int) 8) (w32 (c : Int)) = ((X * 256 + c : Nat) : Int) := by
  have h1 : shl32 (X : Int) 8 = ((X * 256 : Nat) : Int) := by
    rw [shl32, shl32_nat, Nat.mod_eq_of_lt (by omega)]
  have h2 : w32 (c : Int) = (c : Int) := by rw [w32_nat, Nat.mod_eq_of_lt (by omega)]
  rw [h1, h2]
  have := (or32_nat (x := X * 256) (y := c) (show X * 256 < 4294967296 by omega) (show c < 4294967296 by omega)).1
  rw [or32, this]
  have e : X * 256 = X <<< 8 := by rw [Nat.shiftLeft_eq]
  rw [e, ← Nat.shiftLeft_add_eq_or_of_lt (by omega)]
theorem word_eq {a b c d : Int} (ha : 0 ≤ a ∧ a < 256) (hb : 0 ≤ b ∧ b < 256) (hc : 0 ≤ c ∧ c < 256) (hd : 0 ≤ d ∧ d < 256) : wordR a b c d = rd4 a b c d := by
  obtain ⟨a, rfl⟩ : ∃ n : Nat, a = n := ⟨a.toNat, by omega⟩
  obtain ⟨b, rfl⟩ : ∃ n : Nat, b = n := ⟨b.toNat, by omega⟩
  obtain ⟨c, rfl⟩ : ∃ n : Nat, c = n := ⟨c.toNat, by omega⟩
  obtain ⟨d, rfl⟩ : ∃ n : Nat, d = n := ⟨d.toNat, by omega⟩
  have w : ∀ n : Nat, n < 256 → w32 (n : Int) = (n : Int) := fun n h => by rw [w32_nat, Nat.mod_eq_of_lt (by omega)]
  have e1 := or32_hi (x := a) (c := b) (k := 8) (by omega) (by omega) (by omega)
  have e2 := or32_hi (x := a + b * 2 ^ 8) (c := c) (k := 16) e1.2 (by omega) (by omega)
  have e3 := or32_hi (x := a + b * 2 ^ 8 + c * 2 ^ 16) (c := d) (k := 24) e2.2 (by omega) (by omega)
  unfold wordR
  rw [w a (by omega), w b (by omega), w c (by omega), w d (by omega), e1.1, e2.1, e3.1]
  unfold rd4
  have z : (0 : Int) = ((0 : Nat) : Int) := rfl
  rw [z, or32_lo (X := 0) (by omega) (by omega), or32_lo (by omega) (by omega), or32_lo (by omega) (by omega), or32_lo (by omega) (by omega)]
  simp only [Nat.reducePow]
  omega
theorem wd_eq {l : List Int} (h : Bytes l) (i : Nat) : wdAt l i = rdAt l i := word_eq (h.getD _) (h.getD _) (h.getD _) (h.getD _)
theorem serR_eq : ∀ xs ys : List Int, serR xs ys = serS xs ys
  | [], _ => rfl
  | _ :: _, [] => rfl
  | x :: xs, y :: ys => by
    simp only [serR, serS]
    rw [serR_eq xs ys]
    congr 1
    unfold b4R b4
    rw [show ((2 : Int) ^ 0) = 1 from rfl, Int.fdiv_one]
theorem blockR_eq {ks ns : List Int} (hk : Bytes ks) (hn : Bytes ns) (n : Int) : blockR ks n ns = blockL ks n ns := by
  have e : stateR ks n ns = stateS ks n ns := by simp only [stateR, stateS, wd_eq hk, wd_eq hn]
  unfold blockR blockL
  rw [e, serR_eq]
theorem bytes_rng {l : List Int} (h : ∀ x ∈ l, rng .u8 x) : Bytes l := fun x hx => by
  have := h x hx rfl
  simp only [IntKind.bits] at this
  omega
theorem blockR_pure {P : Program} {f : FuncId} (F : Fn P f Rc1 afBlockR) : PureOk P f blockO := by
  refine F.plain fun nid args hp r ha hr => ?_
  unfold blockO at hr
  split at hr <;> try (cases hr; done)
  rename_i ks n ns
  cases hr
  obtain ⟨⟨⟨h1, h2⟩, _⟩, _, ⟨⟨h3, h4⟩, _⟩, _⟩ := ha
  refine ⟨rfl, rfl, rfl, ?_⟩
  rw [← blockR_eq (bytes_rng h2) (bytes_rng h4)]
  obtain ⟨k, rfl⟩ := tab_of h1
  obtain ⟨k', rfl⟩ := tab_of h3
  exact blockR_run k k' n
def blockV (B : List Int → Int → List Int → List Int) : OrcP := fun _ args _ => match args with
  | [.agg [.ints .u8 32 ks], .int .u32 n, .agg [.ints .u8 12 ns]] => some (.agg [.ints .u8 64 (fixL 64 (B ks n ns))], none)
  | _ => none
theorem serS_len : ∀ xs ys : List Int, xs.length = ys.length → (serS xs ys).length = 4 * xs.length
  | [], _, _ => rfl
  | x :: xs, [], h => by simp at h
  | x :: xs, y :: ys, h => by
    simp only [serS, List.length_append, List.length_cons, serS_len xs ys (by simpa using h), b4, List.length_nil]
    omega
theorem blockL_len (ks : List Int) (n : Int) (ns : List Int) : (blockL ks n ns).length = 64 := serS_len _ _ rfl
theorem blockV_pure {P : Program} {f : FuncId} (h : PureOk P f blockO) : PureOk P f (blockV blockL) := by
  refine pure_mono h fun nid args hp r hok hr => ?_
  unfold blockV at hr
  split at hr <;> try (cases hr; done)
  cases hr
  rw [fixL_eq (blockL_len ..)]
  rfl
def xorX (B : List Int → Int → List Int → List Int) (k n c : List Int) : List Int := tab 49 fun i => bw .xor .u8 (g0 c i) (g0 (fixL 64 (B k 1 n)) i)
def xorE (B : List Int → Int → List Int → List Int) : Env := envAdd id_chacha_Block (.pure (blockV B)) G10
def xorRE (B : List Int → Int → List Int → List Int) : Env := envAdd id_hollowtreeref06_Block (.pure (blockV B)) G10
theorem xor_run (B : List Int → Int → List Int → List Int) (nid : Nat) (f g c : Nat → Int) : evFn (xorE B) af_chacha_Xor [.agg [.ints .u8 32 (tab 32 f)], .int .u32 1, .agg [.ints .u8 12 (tab 12 g)], slB 0 49] ⟨16, [roC 0 (.segs [.ints .u8 49 (tab 49 c)])]⟩ (kOut (some (.ints .u8)) nid) =
    some (.slice nid 0 0 49 0 (some 49), encB nid (some (.segs [.ints .u8 49 (xorX B (tab 32 f) (tab 12 g) (tab 49 c))]))) := by kernel_rfl
theorem xorR_run (B : List Int → Int → List Int → List Int) (nid : Nat) (f g c : Nat → Int) : evFn (xorRE B) af_hollowtreeref06_Xor [.agg [.ints .u8 32 (tab 32 f)], .int .u32 1, .agg [.ints .u8 12 (tab 12 g)], slB 0 49] ⟨16, [roC 0 (.segs [.ints .u8 49 (tab 49 c)])]⟩ (kOut (some (.ints .u8)) nid) =
    some (.slice nid 0 0 49 0 none, encB nid (some (.segs [.ints .u8 49 (xorX B (tab 32 f) (tab 12 g) (tab 49 c))]))) := by kernel_rfl
set_option maxRecDepth 100000
theorem at_run (nid i n : Nat) (xs : List Int) : evFn G10 af_hollowtreeref07_at [slB 0 n, .int .i64 (.ofNat i)] ⟨16, [roC 0 (.segs [.ints .i64 n xs])]⟩ (kOut none nid) =
    bif decide ((Int.ofNat i) < (n : Int)) then ptAt (.ofNat i) n xs fun x => some (.int .i64 x, ⟨0, []⟩) else some (.int .i64 0, ⟨0, []⟩) := by kernel_rfl
def atPO : OrcP := fun _ args h => match args with
  | [s, .int .i64 (.ofNat i)] => (contI .i64 h s).bind fun xs => some (.int .i64 (g0 xs i), none)
  | _ => none
theorem g0_get {xs : List Int} {i : Nat} (h : i < xs.length) : xs[i]? = some (g0 xs i) := by
  rw [g0, List.getD_eq_getElem?_getD, List.getElem?_eq_getElem h]; rfl
theorem g0_out {xs : List Int} {i : Nat} (h : xs.length ≤ i) : g0 xs i = 0 := by
  rw [g0, List.getD_eq_getElem?_getD, List.getElem?_eq_none h]; rfl
theorem at_pure {P : Program} {f : FuncId} (F : Fn P f G10 af_hollowtreeref07_at) : PureOk P f atPO := by
  refine F.lit [.sl (.ints .i64), .plain] none fun nid args hp r ha hr => ?_
  unfold atPO at hr
  split at hr <;> try (cases hr; done)
  rename_i s i
  cases hc : contI .i64 hp s with
  | none => rw [hc] at hr; cases hr
  | some xs =>
    rw [hc] at hr
    cases hr
    refine ⟨_, _, by simp only [viewArgs, contI_isSl hc, if_true, viewS_ints hc, Option.bind_some, Option.map_some, avIds, List.isEmpty_nil]; rfl, by simp, ?_⟩
    refine (at_run nid i xs.length xs).trans ?_
    by_cases h : i < xs.length
    · rw [show decide (Int.ofNat i < (xs.length : Int)) = true by simp; omega, cond_true]
      exact ptAt_eq (n := (xs.length : Int)) (k := fun x => (some (AV.int .i64 x, ⟨0, []⟩) : Option Res)) i (by omega) (g0_get h)
    · rw [show decide (Int.ofNat i < (xs.length : Int)) = false by simp; omega, cond_false, g0_out (by omega)]
      rfl
def rowL (xs : List Int) : List Int := tab 16 fun i => w63 (g0 xs i)
theorem row_run (nid : Nat) (f : Nat → Int) : evFn G10 af_hollowtreeref07_row [slB 0 16] ⟨16, [roC 0 (.segs [.ints .u8 16 (tab 16 f)])]⟩ (kOut (some (.ints .i64)) nid) = some (.slice nid 0 0 16 0 none, encB nid (some (.segs [.ints .i64 16 (rowL (tab 16 f))]))) := by kernel_rfl
def rowO : OrcP := fun nid args h => match args with
  | [s] => withBs h s fun xs => if xs.length = 16 then some (.slice nid 0 0 16 0 none, some (.segs [.ints .i64 16 (rowL xs)])) else none
  | _ => none
theorem row_pure {P : Program} {f : FuncId} (F : Fn P f G10 af_hollowtreeref07_row) : PureOk P f rowO := by
  refine F.lit [.sl (.ints .u8)] (some (.ints .i64)) fun nid args hp r ha hr => ?_
  unfold rowO at hr
  split at hr <;> try (cases hr; done)
  rename_i s
  obtain ⟨xs, hc, hl, hr1⟩ := withBs_eq hr
  split at hr1 <;> try (cases hr1; done)
  rename_i h16
  cases hr1
  refine ⟨_, _, by simp only [viewArgs, contI_isSl hc, if_true, viewS_ints hc, Option.bind_some, Option.map_some]; rfl, by simp, ?_⟩
  rw [h16]
  obtain ⟨g, rfl⟩ := tab_of h16
  exact row_run nid g
def Rp7 : Env := envAdd id_hollowtreeref07_at (.pure atPO) G10
def plTop : ACode := af_hollowtreeref07_plus.code
def plA : ACode := plTop.l
def plB : ACode := plTop.r.l
def plC : ACode := plTop.r.r.l
def plI : ACode := plTop.r.r.r.l.l
def plL : ACode := plTop.r.r.r.l.r.b.b
def plE : ACode := plTop.r.r.r.r
def plCn : Option Canon := some ⟨[], [0,1,6,7], [(5,16, .ints .i64)], [0,1], 17⟩
def afPlusOf (F : Nat) : AFn := ⟨42, [.t 4], .seq none plA (.seq none plB (.seq none plC (.seq none (.seq none plI (.block 0 none (.loop F plCn plL))) plE)))⟩
def afPlus : AFn := afPlusOf 100000000
def cutI (n : Nat) (xs : List Int) : List Int := (xs.drop 0).take n
def iC (id n : Nat) (xs : List Int) : Cell := cel id [.ints .i64 n xs]
def plSt (la lb m : Nat) (xs ys zs : List Int) (c k : Int) : St := ⟨mkT 42 [(0, slB 0 la), (1, slB 1 lb), (5, slB 16 m), (6, .int .i64 c), (7, .int .i64 k)], ⟨17, [roC 0 (.segs [.ints .i64 la xs]), roC 1 (.segs [.ints .i64 lb ys]), iC 16 m zs]⟩⟩
def plK (nid : Nat) : Kont := kBlock 0 none (kSeq Rp7 none plE (kFn [.t 4] (kOut none nid)))
def fit8 (n : Nat) (r : Option Res) : Option Res := if n * 8 ≤ 2 ^ 47 then r else none
def plN (la lb : Nat) (xs ys : List Int) (c : Int) (k : Nat) : Int := w63 (w63 (g0 (cutI la xs) k + g0 (cutI lb ys) k) + c)
def plR (L : St → Option Res) (la lb m : Nat) (xs ys zs : List Int) (c : Int) (k : Nat) : Option Res :=
  fit8 (m + 1) (L (plSt la lb (m + 1) xs ys (cutI m zs ++ [(plN la lb xs ys c k).tmod 256]) (w63 ((plN la lb xs ys c k).tdiv 256)) (w63 (Int.ofNat k + 1))))
theorem pl_round (L : St → Option Res) (nid la lb m : Nat) (xs ys zs : List Int) (c : Int) (k : Nat) : ev Rp7 plL (plSt la lb m xs ys zs c (.ofNat k)) (kLoop plCn L (plK nid)) =
    bif decide (Int.ofNat k < la) then plR L la lb m xs ys zs c k else bif decide (Int.ofNat k < lb) then plR L la lb m xs ys zs c k else bif decide (c > 0) then plR L la lb m xs ys zs c k
    else some (.isl .i64 (cutI m zs), ⟨0, []⟩) := by kernel_rfl
theorem pl_start (F nid la lb : Nat) (xs ys : List Int) : ev Rp7 (afPlusOf F).code ⟨[slB 0 la, slB 1 lb] ++ List.replicate 40 .undef, ⟨16, [roC 0 (.segs [.ints .i64 la xs]), roC 1 (.segs [.ints .i64 lb ys])]⟩⟩ (kFn [.t 4] (kOut none nid)) =
    loopK plCn (ev Rp7 plL) F (plSt la lb 0 xs ys [] 0 (.ofNat 0)) (plK nid) := by kernel_rfl
set_option maxRecDepth 100000
def tmTop : ACode := af_hollowtreeref07_times.code
def tmA : ACode := tmTop.l
def tmB : ACode := tmTop.r.l
def tmI0 : ACode := tmTop.r.r.l.l
def tmL0 : ACode := tmTop.r.r.l.r.b.b
def tmE : ACode := tmTop.r.r.r
def tmH : ACode := tmL0.l
def tmJ1 : ACode := tmL0.r.l.b.l
def tmJ2 : ACode := tmL0.r.l.b.r.l
def tmL1 : ACode := tmL0.r.l.b.r.r.b.b
def tmT : ACode := tmL0.r.r
def tmCn0 : Option Canon := some ⟨[], [0,1,5,6], [], [0,1,16], 17⟩
def tmCn1 : Option Canon := some ⟨[], [0,1,5,6,7,8], [], [0,1,16], 17⟩
def tmBody (F : Nat) : ACode := .seq none tmH (.seq none (.block 1 none (.seq none tmJ1 (.seq none tmJ2 (.block 2 none (.loop F tmCn1 tmL1))))) tmT)
def afTimesOf (F : Nat) : AFn := ⟨60, [.t 4], .seq none tmA (.seq none tmB (.seq none (.seq none tmI0 (.block 0 none (.loop F tmCn0 (tmBody F)))) tmE))⟩
def afTimes : AFn := afTimesOf 100000000
def tmH0 (la lb N : Nat) (xs ys zs : List Int) : Am.Heap := ⟨17, [roC 0 (.segs [.ints .i64 la xs]), roC 1 (.segs [.ints .i64 lb ys]), iC 16 N zs]⟩
def tmS0 (la lb N : Nat) (xs ys zs : List Int) (i : Int) : St := ⟨mkT 60 [(0, slB 0 la), (1, slB 1 lb), (5, .slice 16 0 0 N 0 (some N)), (6, .int .i64 i)], tmH0 la lb N xs ys zs⟩
def tmS1 (la lb N : Nat) (xs ys zs : List Int) (i c k : Int) : St := ⟨mkT 60 [(0, slB 0 la), (1, slB 1 lb), (5, .slice 16 0 0 N 0 (some N)), (6, .int .i64 i), (7, .int .i64 c), (8, .int .i64 k)], tmH0 la lb N xs ys zs⟩
def tmK0 (nid : Nat) : Kont := kBlock 0 none (kSeq Rp7 none tmE (kFn [.t 4] (kOut none nid)))
def tmK1 (L : St → Option Res) (nid : Nat) : Kont := kBlock 2 none (kBlock 1 none (kSeq Rp7 none tmT (kLoop tmCn0 L (tmK0 nid))))
theorem tm_start (F nid la lb : Nat) (xs ys : List Int) (C : ACode) : ev Rp7 (.seq none tmA (.seq none tmB (.seq none (.seq none tmI0 (.block 0 none (.loop F tmCn0 C))) tmE))) ⟨[slB 0 la, slB 1 lb] ++ List.replicate 58 .undef, ⟨16, [roC 0 (.segs [.ints .i64 la xs]), roC 1 (.segs [.ints .i64 lb ys])]⟩⟩ (kFn [.t 4] (kOut none nid)) =
    if 0 ≤ w63 (w63 ((la : Int) + lb) + 1) ∧ w63 (w63 ((la : Int) + lb) + 1) ≤ w63 (w63 ((la : Int) + lb) + 1) ∧ w63 (w63 ((la : Int) + lb) + 1) * ((8 : Nat) : Int) ≤ 2 ^ 47 then
      loopK tmCn0 (ev Rp7 C) F (tmS0 la lb (w63 (w63 ((la : Int) + lb) + 1)).toNat xs ys (List.replicate (w63 (w63 ((la : Int) + lb) + 1)).toNat 0) (.ofNat 0)) (tmK0 nid) else none := by kernel_rfl
theorem tm_outer (F nid la lb N : Nat) (L : St → Option Res) (xs ys zs : List Int) (i : Int) (C : ACode) : ev Rp7 (.seq none tmH (.seq none (.block 1 none (.seq none tmJ1 (.seq none tmJ2 (.block 2 none (.loop F tmCn1 C))))) tmT)) (tmS0 la lb (N + 1) xs ys zs i) (kLoop tmCn0 L (tmK0 nid)) =
    bif decide (i < la) then loopK tmCn1 (ev Rp7 C) F (tmS1 la lb (N + 1) xs ys zs i 0 (.ofNat 0)) (tmK1 L nid) else some (.isl .i64 (cutI (N + 1) zs), ⟨0, []⟩) := by kernel_rfl
def tmN (o x y c : Int) : Int := w63 (w63 (o + w63 (x * y)) + c)
def tmR (M : St → Option Res) (la lb N : Nat) (xs ys zs : List Int) (i k : Nat) (c : Int) : Option Res :=
  ptAt (w63 (Int.ofNat i + Int.ofNat k)) N zs fun o => ptAt (.ofNat i) la xs fun x => if 0 ≤ w63 (Int.ofNat i + Int.ofNat k) ∧ w63 (Int.ofNat i + Int.ofNat k) < (N : Int) then
    (if 0 + (w63 (Int.ofNat i + Int.ofNat k)).toNat < N then M (tmS1 la lb N xs ys (zs.set (0 + (w63 (Int.ofNat i + Int.ofNat k)).toNat) ((tmN o x (g0 (cutI lb ys) k) c).tmod 256)) (.ofNat i) (w63 ((tmN o x (g0 (cutI lb ys) k) c).tdiv 256)) (w63 (Int.ofNat k + 1))) else none) else none
theorem tm_inner (nid la lb N : Nat) (L M : St → Option Res) (xs ys zs : List Int) (i k : Nat) (c : Int) : ev Rp7 tmL1 (tmS1 la lb N xs ys zs (.ofNat i) c (.ofNat k)) (kLoop tmCn1 M (tmK1 L nid)) =
    bif decide (Int.ofNat k < lb) then tmR M la lb N xs ys zs i k c else bif decide (c > 0) then tmR M la lb N xs ys zs i k c else L (tmS0 la lb N xs ys zs (w63 (Int.ofNat i + 1))) := by kernel_rfl
set_option maxRecDepth 100000
def atC : OrcF := fun args h κ => match args with
  | [s, .int .i64 i] => (contI .i64 h s).bind fun xs => if 0 ≤ i then κ (.int .i64 (g0 xs i.toNat)) h else none
  | _ => none
theorem at_full {P : Program} {f : FuncId} (h : PureOk P f atPO) : FullOk P f atC := by
  refine pure_full (o := fun nid args h => match args with
    | [s, .int .i64 i] => (contI .i64 h s).bind fun xs => if 0 ≤ i then some (.int .i64 (g0 xs i.toNat), none) else none
    | _ => none) ?_ fun args hp κ => ?_
  · refine pure_mono h fun nid args hp r hok hr => ?_
    split at hr <;> try (cases hr; done)
    rename_i s i
    cases hc : contI .i64 hp s with
    | none => rw [hc] at hr; cases hr
    | some xs =>
      rw [hc] at hr
      simp only [Option.bind_some] at hr
      split at hr <;> try (cases hr; done)
      rename_i hi
      cases hr
      obtain ⟨k, rfl⟩ : ∃ k : Nat, i = .ofNat k := ⟨i.toNat, by simp; omega⟩
      simp only [atPO, hc, Option.bind_some]
      rfl
  · unfold atC
    split
    · rename_i s i
      cases contI .i64 hp s with
      | none => rfl
      | some xs =>
        simp only [Option.bind_some]
        split <;> rfl
    · first
      | rfl
      | (rename_i hx
         split
         · exact (hx _ _ rfl).elim
         · rfl)
def Rp7c : Env := envAdd id_hollowtreeref07_at (.full atC) G10
def hgTop : ACode := af_hollowtreeref07_high.code
def hgA : ACode := hgTop.l
def hgB : ACode := hgTop.r.l
def hgC : ACode := hgTop.r.r.l
def hgD : ACode := hgTop.r.r.r.l
def hgI : ACode := hgTop.r.r.r.r.l.l
def hgL : ACode := hgTop.r.r.r.r.l.r.b.b
def hgE : ACode := hgTop.r.r.r.r.r
def hgCn : Option Canon := some ⟨[], [0,7], [(4,16, .ints .i64), (5,17, .ints .i64)], [0], 18⟩
def afHighOf (F : Nat) : AFn := ⟨46, [.t 2, .t 3], .seq none hgA (.seq none hgB (.seq none hgC (.seq none hgD (.seq none (.seq none hgI (.block 2 none (.loop F hgCn hgL))) hgE))))⟩
def afHigh : AFn := afHighOf 100000000
def lowH (a : List Int) : List Int := tab 16 (fun i => g0 a i) ++ [(g0 a 16).tmod 4]
def hgSt (la m : Nat) (xs ls zs : List Int) (i : Int) : St := ⟨mkT 46 [(0, slB 0 la), (4, slB 16 17), (5, slB 17 m), (7, .int .i64 i)], ⟨18, [roC 0 (.segs [.ints .i64 la xs]), iC 16 17 ls, iC 17 m zs]⟩⟩
def hgK (nid : Nat) : Kont := kBlock 2 none (kSeq Rp7c none hgE (kFn [.t 2, .t 3] (kOut none nid)))
theorem hg_start (F nid la : Nat) (xs : List Int) : ev Rp7c (afHighOf F).code ⟨[slB 0 la] ++ List.replicate 45 .undef, ⟨16, [roC 0 (.segs [.ints .i64 la xs])]⟩⟩ (kFn [.t 2, .t 3] (kOut none nid)) =
    loopK hgCn (ev Rp7c hgL) F (hgSt la 0 xs (lowH (cutI la xs)) [] (.ofNat 16)) (hgK nid) := by kernel_rfl
def hgN (a : List Int) (i : Int) : Int := w63 (w63 ((g0 a i.toNat).tdiv 4) + w63 ((g0 a (w63 (i + 1)).toNat).tmod 4 * 64))
theorem hg_round (L : St → Option Res) (nid la m : Nat) (xs ls zs : List Int) (i : Int) : ev Rp7c hgL (hgSt la m xs ls zs i) (kLoop hgCn L (hgK nid)) =
    bif decide (i < la) then (if 0 ≤ i then (if 0 ≤ w63 (i + 1) then fit8 (m + 1) (L (hgSt la (m + 1) xs ls (cutI m zs ++ [hgN (cutI la xs) i]) (w63 (i + 1)))) else none) else none)
    else some (.tuple [.isl .i64 (cutI m zs), .isl .i64 (cutI 17 ls)], ⟨0, []⟩) := by kernel_rfl
def soTop : ACode := af_hollowtreeref07_some.code
def soA : ACode := soTop.l
def soI : ACode := soTop.r.l.l
def soL : ACode := soTop.r.l.r.b.b
def soE : ACode := soTop.r.r
def soCn : Option Canon := some ⟨[], [0,3], [], [0], 16⟩
def afSomeOf (F : Nat) : AFn := ⟨15, [.t 2], .seq none soA (.seq none (.seq none soI (.block 0 none (.loop F soCn soL))) soE)⟩
def afSome : AFn := afSomeOf 100000000
def soSt (la : Nat) (xs : List Int) (i : Int) : St := ⟨mkT 15 [(0, slB 0 la), (3, .int .i64 i)], ⟨16, [roC 0 (.segs [.ints .i64 la xs])]⟩⟩
def soK (nid : Nat) : Kont := kBlock 0 none (kSeq G10 none soE (kFn [.t 2] (kOut none nid)))
theorem so_start (F nid la : Nat) (xs : List Int) : ev G10 (afSomeOf F).code ⟨[slB 0 la] ++ List.replicate 14 .undef, ⟨16, [roC 0 (.segs [.ints .i64 la xs])]⟩⟩ (kFn [.t 2] (kOut none nid)) =
    loopK soCn (ev G10 soL) F (soSt la xs 0) (soK nid) := by kernel_rfl
theorem so_round (L : St → Option Res) (nid la : Nat) (xs : List Int) (i : Int) : ev G10 soL (soSt la xs i) (kLoop soCn L (soK nid)) =
    bif decide (i < la) then ptAt i la xs fun x => bif x != 0 then yes true else L (soSt la xs (w63 (i + 1))) else yes false := by kernel_rfl
section
variable (G : List Int → Bool) (U W : List Int → List Int) (T Pl : List Int → List Int → List Int) (So : List Int → Bool)
def withG {β : Type} (G : List Int → Bool) (h : Heap) (s : AV) (k : List Int → Option β) : Option β := (contI .i64 h s).bind fun xs => bif G xs then k xs else none
def high7C : OrcF := fun args h κ => match args with
  | [s] => withG G h s fun xs => κ (.tuple [.isl .i64 (U xs), .isl .i64 (W xs)]) h
  | _ => none
def someC : OrcF := fun args h κ => match args with
  | [s] => withG G h s fun xs => κ (.bool (So xs)) h
  | _ => none
def rowsC (A : List Int → List Int → List Int) : OrcF := fun args h κ => match args with
  | [s, t] => withG G h s fun xs => withG G h t fun ys => κ (.isl .i64 (A xs ys)) h
  | _ => none
def RpR : Env := envAdd id_hollowtreeref07_high (.full (high7C G U W)) (envAdd id_hollowtreeref07_some (.full (someC G So)) (envAdd id_hollowtreeref07_times (.full (rowsC G T)) (envAdd id_hollowtreeref07_plus (.full (rowsC G Pl)) G10)))
def reTop : ACode := af_hollowtreeref07_rest.code
def reA : ACode := reTop.l
def reB : ACode := reTop.r.l
def reL : ACode := reTop.r.r.l.b.b
def reE : ACode := reTop.r.r.r
def reCn : Option Canon := some ⟨[], [3,4], [], [], 17⟩
def afRestOf (F : Nat) : AFn := ⟨35, [.t 2], .seq none reA (.seq none reB (.seq none (.block 0 none (.loop F reCn reL)) reE))⟩
def reSt (u w : List Int) : St := ⟨mkT 35 [(3, .isl .i64 u), (4, .isl .i64 w)], ⟨17, []⟩⟩
def reK (nid : Nat) : Kont := kBlock 0 none (kSeq (RpR G U W T Pl So) none reE (kFn [.t 2] (kOut none nid)))
def ok5 (k : Option Res) : Option Res := bif G [5] then k else none
theorem re_start (F nid la : Nat) (xs : List Int) : ev (RpR G U W T Pl So) (afRestOf F).code ⟨[slB 0 la] ++ List.replicate 34 .undef, ⟨16, [roC 0 (.segs [.ints .i64 la xs])]⟩⟩ (kFn [.t 2] (kOut none nid)) =
    bif G (cutI la xs) then loopK reCn (ev (RpR G U W T Pl So) reL) F (reSt (U (cutI la xs)) (W (cutI la xs))) (reK G U W T Pl So nid) else none := by kernel_rfl
theorem re_round (L : St → Option Res) (nid : Nat) (u w : List Int) : ev (RpR G U W T Pl So) reL (reSt u w) (kLoop reCn L (reK G U W T Pl So nid)) =
    bif G u then (bif So u then (bif G u then ok5 G (bif G w then (bif G (T u [5]) then (bif G (Pl w (T u [5])) then L (reSt (U (Pl w (T u [5]))) (W (Pl w (T u [5])))) else none) else none) else none) else none) else
      (bif G w then ok5 G (bif G (Pl w [5]) then (bif G (U (Pl w [5])) then (bif So (U (Pl w [5])) then some (.isl .i64 (W (Pl w [5])), ⟨0, []⟩) else some (.isl .i64 w, ⟨0, []⟩)) else none) else none) else none)) else none := by kernel_rfl
end
set_option maxRecDepth 100000
def vO : List Int → Int
  | [] => 0
  | x :: r => x + 256 * vO r
def vF (xs : List Int) : Nat → Nat → Int
  | 0, _ => 0
  | n + 1, k => g0 xs k + 256 * vF xs n (k + 1)
theorem vF_drop (xs : List Int) : ∀ (n k : Nat), xs.length ≤ k + n → vF xs n k = vO (xs.drop k)
  | 0, k, h => by rw [List.drop_eq_nil_of_le (by omega)]; rfl
  | n + 1, k, h => by
    rw [vF, vF_drop xs n (k + 1) (by omega)]
    by_cases hk : k < xs.length
    · rw [List.drop_eq_getElem_cons hk, vO]
      have : g0 xs k = xs[k] := by rw [g0, List.getD_eq_getElem?_getD, List.getElem?_eq_getElem hk]; rfl
      rw [this]
    · rw [List.drop_eq_nil_of_le (by omega), List.drop_eq_nil_of_le (by omega), g0_out (by omega)]; rfl
theorem vF_all {xs : List Int} {n : Nat} (h : xs.length ≤ n) : vF xs n 0 = vO xs := by
  rw [vF_drop xs n 0 (by omega), List.drop_zero]
theorem Bytes.g0 {xs : List Int} (h : Bytes xs) (i : Nat) : 0 ≤ g0 xs i ∧ g0 xs i < 256 := h.getD i
def plusI (xs ys : List Int) : Nat → Nat → Int → List Int
  | 0, _, c => bif decide (c > 0) then [c] else []
  | n + 1, k, c => (g0 xs k + g0 ys k + c) % 256 :: plusI xs ys n (k + 1) ((g0 xs k + g0 ys k + c) / 256)
def plusD (xs ys : List Int) : List Int := plusI xs ys (max xs.length ys.length) 0 0
theorem cutI_all {xs : List Int} {n : Nat} (h : xs.length = n) : cutI n xs = xs := take_all xs n h
theorem fit8_eq {n : Nat} (h : n ≤ 10000000) (r : Option Res) : fit8 n r = r := by rw [fit8, if_pos (by omega)]
theorem ofNat_succ' {k : Nat} (h : k < 100000000) : w63 (Int.ofNat k + 1) = Int.ofNat (k + 1) := by
  rw [w63_of] <;> simp <;> omega
theorem plR_eq {xs ys : List Int} (hx : Bytes xs) (hy : Bytes ys) {c : Int} (hc : 0 ≤ c ∧ c ≤ 1) (L : St → Option Res) (zs : List Int) (k : Nat) (hk : k < 100000000) (hz : zs.length < 1000000) :
    plR L xs.length ys.length zs.length xs ys zs c k = L (plSt xs.length ys.length (zs ++ [(g0 xs k + g0 ys k + c) % 256]).length xs ys (zs ++ [(g0 xs k + g0 ys k + c) % 256]) ((g0 xs k + g0 ys k + c) / 256) (.ofNat (k + 1))) := by
  have h1 := hx.g0 k
  have h2 := hy.g0 k
  have e : plN xs.length ys.length xs ys c k = g0 xs k + g0 ys k + c := by
    rw [plN, cutI_all rfl, cutI_all rfl, w63_of (n := g0 xs k + g0 ys k) (by omega) (by omega), w63_of (by omega) (by omega)]
  have e1 : (g0 xs k + g0 ys k + c).tmod 256 = (g0 xs k + g0 ys k + c) % 256 := Int.tmod_eq_emod_of_nonneg (by omega)
  have e2 : w63 ((g0 xs k + g0 ys k + c).tdiv 256) = (g0 xs k + g0 ys k + c) / 256 := by
    rw [Int.tdiv_eq_ediv_of_nonneg (by omega), w63_of (by omega) (by omega)]
  rw [plR, fit8_eq (by omega), e, e1, e2, cutI_all rfl, ofNat_succ' hk]
  simp only [List.length_append, List.length_singleton]
theorem pl_stop (L : St → Option Res) (nid : Nat) (xs ys zs : List Int) (k : Nat) (h1 : xs.length ≤ k) (h2 : ys.length ≤ k) : ev Rp7 plL (plSt xs.length ys.length zs.length xs ys zs 0 (.ofNat k)) (kLoop plCn L (plK nid)) = some (.isl .i64 zs, ⟨0, []⟩) := by
  rw [pl_round, show decide (Int.ofNat k < (xs.length : Int)) = false by simp; omega, show decide (Int.ofNat k < (ys.length : Int)) = false by simp; omega, cond_false, cond_false, cutI_all rfl]
  rfl
theorem pl_loop (nid : Nat) {xs ys : List Int} (hx : Bytes xs) (hy : Bytes ys) : ∀ (n k : Nat) (zs : List Int) (c : Int) (F : Nat), max xs.length ys.length = k + n → 0 ≤ c ∧ c ≤ 1 → k + n < 10000000 → zs.length + n < 999999 → n + 2 ≤ F →
    loopK plCn (ev Rp7 plL) F (plSt xs.length ys.length zs.length xs ys zs c (.ofNat k)) (plK nid) = some (.isl .i64 (zs ++ plusI xs ys n k c), ⟨0, []⟩)
  | 0, k, zs, c, F + 2, hm, hc, hk, hz, hF => by
    by_cases h0 : c = 0
    · subst h0
      refine (pl_stop _ nid xs ys zs k (by omega) (by omega)).trans ?_
      simp [plusI]
    · have h1 : c = 1 := by omega
      subst h1
      refine (pl_round ..).trans ?_
      rw [show decide (Int.ofNat k < (xs.length : Int)) = false by simp; omega, show decide (Int.ofNat k < (ys.length : Int)) = false by simp; omega, cond_false, cond_false, show decide ((1 : Int) > 0) = true from rfl, cond_true, plR_eq hx hy (by omega) _ zs k (by omega) (by omega)]
      rw [g0_out (xs := xs) (by omega), g0_out (xs := ys) (by omega)]
      refine (pl_stop _ nid xs ys _ (k + 1) (by omega) (by omega)).trans ?_
      rfl
  | n + 1, k, zs, c, F + 1, hm, hc, hk, hz, hF => by
    refine (pl_round ..).trans ?_
    have h1 := hx.g0 k
    have h2 := hy.g0 k
    have ih := pl_loop nid hx hy n (k + 1) (zs ++ [(g0 xs k + g0 ys k + c) % 256]) ((g0 xs k + g0 ys k + c) / 256) F (by omega) (by omega) (by omega) (by simp; omega) (by omega)
    rw [List.append_assoc] at ih
    have e : plR (fun s => loopK plCn (ev Rp7 plL) F s (plK nid)) xs.length ys.length zs.length xs ys zs c k = some (.isl .i64 (zs ++ plusI xs ys (n + 1) k c), ⟨0, []⟩) := by
      rw [plR_eq hx hy hc _ zs k (by omega) (by omega)]
      exact ih
    by_cases hl : k < xs.length
    · rw [show decide (Int.ofNat k < (xs.length : Int)) = true by simp; omega, cond_true]
      exact e
    · rw [show decide (Int.ofNat k < (xs.length : Int)) = false by simp; omega, cond_false, show decide (Int.ofNat k < (ys.length : Int)) = true by simp; omega, cond_true]
      exact e
theorem plusI_val {xs ys : List Int} (hx : Bytes xs) (hy : Bytes ys) : ∀ (n k : Nat) (c : Int), 0 ≤ c ∧ c ≤ 1 → vO (plusI xs ys n k c) = c + vF xs n k + vF ys n k ∧ Bytes (plusI xs ys n k c) ∧ (plusI xs ys n k c).length ≤ n + 1
  | 0, k, c, hc => by
    rcases (by omega : c = 0 ∨ c = 1) with rfl | rfl
    · exact ⟨rfl, fun x hx => by simp [plusI] at hx, by simp [plusI]⟩
    · exact ⟨rfl, fun x hx => by simp [plusI] at hx; omega, by simp [plusI]⟩
  | n + 1, k, c, hc => by
    have h1 := hx.g0 k
    have h2 := hy.g0 k
    obtain ⟨e1, e2, e3⟩ := plusI_val hx hy n (k + 1) ((g0 xs k + g0 ys k + c) / 256) (by omega)
    refine ⟨?_, fun x hm => ?_, by simp only [plusI, List.length_cons]; omega⟩
    · simp only [plusI, vO, e1, vF]
      omega
    · simp only [plusI, List.mem_cons] at hm
      rcases hm with rfl | hm
      · omega
      · exact e2 x hm
theorem plusD_val {xs ys : List Int} (hx : Bytes xs) (hy : Bytes ys) : vO (plusD xs ys) = vO xs + vO ys ∧ Bytes (plusD xs ys) ∧ (plusD xs ys).length ≤ max xs.length ys.length + 1 := by
  obtain ⟨e1, e2, e3⟩ := plusI_val hx hy (max xs.length ys.length) 0 0 (by omega)
  refine ⟨?_, e2, e3⟩
  rw [plusD, e1, vF_all (by omega), vF_all (by omega)]
  omega
def okD7 (xs : List Int) : Bool := decide (xs.length ≤ 1000) && xs.all fun x => decide (0 ≤ x) && decide (x < 256)
theorem okD7_iff {xs : List Int} : okD7 xs = true ↔ xs.length ≤ 1000 ∧ Bytes xs := by
  simp only [okD7, Bool.and_eq_true, decide_eq_true_eq, List.all_eq_true, Bytes]
def rowsP (A : List Int → List Int → List Int) : OrcP := fun _ args h => match args with
  | [s, t] => withG okD7 h s fun xs => withG okD7 h t fun ys => some (.isl .i64 (A xs ys), none)
  | _ => none
theorem withG_eq {β : Type} {G : List Int → Bool} {h : Heap} {s : AV} {k : List Int → Option β} {x : β} (hk : withG G h s k = some x) : ∃ xs, contI .i64 h s = some xs ∧ G xs = true ∧ k xs = some x := by
  unfold withG at hk
  cases hc : contI .i64 h s with
  | none => rw [hc] at hk; cases hk
  | some xs =>
    rw [hc] at hk
    simp only [Option.bind_some] at hk
    cases hg : G xs with
    | false => rw [hg] at hk; cases hk
    | true => rw [hg] at hk; exact ⟨xs, rfl, hg, hk⟩
theorem withG_map {β γ : Type} {G : List Int → Bool} {h : Heap} {s : AV} {k : List Int → Option β} {g : β → Option γ} : (withG G h s k).bind g = withG G h s fun xs => (k xs).bind g := by
  unfold withG
  cases contI .i64 h s with
  | none => rfl
  | some xs =>
    simp only [Option.bind_some]
    cases G xs <;> rfl
theorem rows_full {P : Program} {f : FuncId} {A : List Int → List Int → List Int} (h : PureOk P f (rowsP A)) : FullOk P f (rowsC okD7 A) := by
  refine pure_full h fun args hp κ => ?_
  unfold rowsC rowsP
  split
  · simp only [withG_map, Option.bind_some, obH]
  · first
    | rfl
    | (rename_i hx
       split
       · exact (hx _ _ rfl).elim
       · rfl)
theorem rows_pure {P : Program} {f : FuncId} {Γ : Env} {af : AFn} (F : Fn P f Γ af) {A : List Int → List Int → List Int}
    (h : ∀ nid xs ys, okD7 xs = true → okD7 ys = true → evFn Γ af [slB 0 xs.length, slB 1 ys.length] ⟨16, [roC 0 (.segs [.ints .i64 xs.length xs]), roC 1 (.segs [.ints .i64 ys.length ys])]⟩ (kOut none nid) = some (.isl .i64 (A xs ys), ⟨0, []⟩)) : PureOk P f (rowsP A) := by
  refine F.lit [.sl (.ints .i64), .sl (.ints .i64)] none fun nid args hp r ha hr => ?_
  unfold rowsP at hr
  split at hr <;> try (cases hr; done)
  rename_i s t
  obtain ⟨xs, hc, hx, hr1⟩ := withG_eq hr
  obtain ⟨ys, hd, hy, hr2⟩ := withG_eq hr1
  cases hr2
  refine ⟨_, _, by simp only [viewArgs, contI_isSl hc, contI_isSl hd, if_true, viewS_ints hc, viewS_ints hd, Option.bind_some, Option.map_some]; rfl, by simp, ?_⟩
  exact h nid xs ys hx hy
theorem plus7_run (F nid : Nat) {xs ys : List Int} (hx : okD7 xs = true) (hy : okD7 ys = true) (hF : 2000 ≤ F) : evFn Rp7 (afPlusOf F) [slB 0 xs.length, slB 1 ys.length] ⟨16, [roC 0 (.segs [.ints .i64 xs.length xs]), roC 1 (.segs [.ints .i64 ys.length ys])]⟩ (kOut none nid) = some (.isl .i64 (plusD xs ys), ⟨0, []⟩) := by
  rw [okD7_iff] at hx hy
  refine (evFn_eq ..).trans ?_
  refine (pl_start F nid _ _ _ _).trans ?_
  have := pl_loop nid hx.2 hy.2 (max xs.length ys.length) 0 [] 0 F (by omega) (by omega) (by omega) (by simp; omega) (by omega)
  exact this
theorem plus_pure7 {P : Program} {f : FuncId} (F : Fn P f Rp7 afPlus) : PureOk P f (rowsP plusD) := rows_pure F fun nid xs ys hx hy => plus7_run 100000000 nid hx hy (by decide)
set_option maxRecDepth 100000
def upI (a : List Int) : Nat → Nat → List Int
  | 0, _ => []
  | n + 1, k => (g0 a k / 4 + g0 a (k + 1) % 4 * 64) :: upI a n (k + 1)
def upD (a : List Int) : List Int := upI a (a.length - 16) 16
theorem hgN_eq {a : List Int} (h : Bytes a) (k : Nat) (hk : k < 100000000) : hgN a (Int.ofNat k) = g0 a k / 4 + g0 a (k + 1) % 4 * 64 := by
  have h1 := h.g0 k
  have h2 := h.g0 (k + 1)
  rw [hgN, ofNat_succ' hk]
  show w63 (w63 ((g0 a k).tdiv 4) + w63 ((g0 a (k + 1)).tmod 4 * 64)) = _
  rw [Int.tdiv_eq_ediv_of_nonneg (by omega), Int.tmod_eq_emod_of_nonneg (by omega), w63_of (n := g0 a k / 4) (by omega) (by omega), w63_of (n := g0 a (k + 1) % 4 * 64) (by omega) (by omega), w63_of (by omega) (by omega)]
theorem lowH_len (a : List Int) : (lowH a).length = 17 := rfl
theorem hg_loop (nid : Nat) {xs : List Int} (hx : Bytes xs) : ∀ (n k : Nat) (zs : List Int) (F : Nat), xs.length ≤ k + n → (n = 0 ∨ xs.length = k + n) → k + n < 10000000 → zs.length + n < 999999 → n + 1 ≤ F →
    loopK hgCn (ev Rp7c hgL) F (hgSt xs.length zs.length xs (lowH xs) zs (.ofNat k)) (hgK nid) = some (.tuple [.isl .i64 (zs ++ upI xs n k), .isl .i64 (lowH xs)], ⟨0, []⟩)
  | 0, k, zs, F + 1, hm, _, hk, hz, hF => by
    refine (hg_round ..).trans ?_
    rw [show decide (Int.ofNat k < (xs.length : Int)) = false by simp; omega, cond_false, cutI_all rfl, cutI_all (lowH_len xs)]
    simp [upI]
  | n + 1, k, zs, F + 1, hm, hn, hk, hz, hF => by
    refine (hg_round ..).trans ?_
    have hn' : xs.length = k + (n + 1) := by omega
    have hk' : (0 : Int) ≤ Int.ofNat k := by simp
    have hk1 : (0 : Int) ≤ w63 (Int.ofNat k + 1) := by rw [ofNat_succ' (by omega)]; simp; omega
    rw [show decide (Int.ofNat k < (xs.length : Int)) = true by simp; omega, cond_true, if_pos hk', if_pos hk1, fit8_eq (by omega), cutI_all rfl, cutI_all rfl, hgN_eq hx k (by omega), ofNat_succ' (by omega)]
    have ih := hg_loop nid hx n (k + 1) (zs ++ [g0 xs k / 4 + g0 xs (k + 1) % 4 * 64]) F (by omega) (.inr (by omega)) (by omega) (by simp; omega) (by omega)
    rw [List.append_assoc, List.length_append, List.length_singleton] at ih
    exact ih
theorem high7_run (F nid : Nat) {xs : List Int} (hx : okD7 xs = true) (hF : 2000 ≤ F) : evFn Rp7c (afHighOf F) [slB 0 xs.length] ⟨16, [roC 0 (.segs [.ints .i64 xs.length xs])]⟩ (kOut none nid) = some (.tuple [.isl .i64 (upD xs), .isl .i64 (lowH xs)], ⟨0, []⟩) := by
  rw [okD7_iff] at hx
  refine (evFn_eq ..).trans ?_
  refine (hg_start F nid _ _).trans ?_
  rw [cutI_all rfl]
  have := hg_loop nid hx.2 (xs.length - 16) 16 [] F (by omega) (by omega) (by omega) (by simp; omega) (by omega)
  exact this
def high7P : OrcP := fun _ args h => match args with
  | [s] => withG okD7 h s fun xs => some (.tuple [.isl .i64 (upD xs), .isl .i64 (lowH xs)], none)
  | _ => none
theorem high7_pure {P : Program} {f : FuncId} (F : Fn P f Rp7c afHigh) : PureOk P f high7P := by
  refine F.lit [.sl (.ints .i64)] none fun nid args hp r ha hr => ?_
  unfold high7P at hr
  split at hr <;> try (cases hr; done)
  rename_i s
  obtain ⟨xs, hc, hx, hr1⟩ := withG_eq hr
  cases hr1
  refine ⟨_, _, by simp only [viewArgs, contI_isSl hc, if_true, viewS_ints hc, Option.bind_some, Option.map_some]; rfl, by simp, ?_⟩
  exact high7_run 100000000 nid hx (by decide)
theorem high7_full {P : Program} {f : FuncId} (h : PureOk P f high7P) : FullOk P f (high7C okD7 upD lowH) := by
  refine pure_full h fun args hp κ => ?_
  unfold high7C high7P
  split
  · simp only [withG_map, Option.bind_some, obH]
  · first
    | rfl
    | (rename_i hx
       split
       · exact (hx _ rfl).elim
       · rfl)
def someB (xs : List Int) : Bool := xs.any fun x => x != 0
theorem so_loop (nid : Nat) {xs : List Int} (hl : xs.length ≤ 1000) : ∀ (r pre : List Int) (F : Nat), xs = pre ++ r → r.length < F → loopK soCn (ev G10 soL) F (soSt xs.length xs (pre.length : Int)) (soK nid) = yes (someB r)
  | [], pre, F + 1, he, _ => by
    refine (so_round ..).trans ?_
    have : xs.length = pre.length := by rw [he]; simp
    rw [this, decide_eq_false (by omega), cond_false]
    rfl
  | x :: r, pre, F + 1, he, hF => by
    have hlen : xs.length = pre.length + r.length + 1 := by rw [he]; simp; omega
    have hs : xs[pre.length]? = some x := by rw [he]; simp
    refine (so_round ..).trans ?_
    rw [decide_eq_true (by omega), cond_true, ptAt_eq pre.length (by omega) hs]
    have ih := so_loop nid hl r (pre ++ [x]) F (by rw [he]; simp) (by simp at hF; omega)
    have e : (((pre ++ [x]).length : Nat) : Int) = (pre.length : Int) + 1 := by simp
    rw [e] at ih
    rw [w63_of (by omega) (by omega)]
    simp only [someB, List.any_cons]
    cases x != 0
    · exact ih
    · rfl
def someP : OrcP := fun _ args h => match args with
  | [s] => withG okD7 h s fun xs => some (.bool (someB xs), none)
  | _ => none
theorem some7_pure {P : Program} {f : FuncId} (F : Fn P f G10 afSome) : PureOk P f someP := by
  refine F.lit [.sl (.ints .i64)] none fun nid args hp r ha hr => ?_
  unfold someP at hr
  split at hr <;> try (cases hr; done)
  rename_i s
  obtain ⟨xs, hc, hx, hr1⟩ := withG_eq hr
  cases hr1
  refine ⟨_, _, by simp only [viewArgs, contI_isSl hc, if_true, viewS_ints hc, Option.bind_some, Option.map_some]; rfl, by simp, ?_⟩
  rw [okD7_iff] at hx
  refine (evFn_eq ..).trans ?_
  refine (so_start 100000000 nid xs.length xs).trans ?_
  exact so_loop nid hx.1 xs [] 100000000 rfl (by omega)
theorem some7_full {P : Program} {f : FuncId} (h : PureOk P f someP) : FullOk P f (someC okD7 someB) := by
  refine pure_full h fun args hp κ => ?_
  unfold someC someP
  split
  · simp only [withG_map, Option.bind_some, obH]
  · first
    | rfl
    | (rename_i hx
       split
       · exact (hx _ rfl).elim
       · rfl)
theorem vO_append : ∀ (l r : List Int), vO (l ++ r) = vO l + 256 ^ l.length * vO r
  | [], r => by simp [vO]
  | x :: l, r => by
    simp only [List.cons_append, vO, vO_append l r, List.length_cons, Int.pow_succ]
    grind
theorem vF_add (xs : List Int) : ∀ (m n k : Nat), vF xs (m + n) k = vF xs m k + 256 ^ m * vF xs n (k + m)
  | 0, n, k => by simp [vF]
  | m + 1, n, k => by
    rw [show m + 1 + n = (m + n) + 1 by omega, vF, vF, vF_add xs m n (k + 1), Int.pow_succ, show k + (m + 1) = k + 1 + m by omega]
    grind
theorem vO_bnd : ∀ {l : List Int}, Bytes l → 0 ≤ vO l ∧ vO l < 256 ^ l.length
  | [], _ => by simp [vO]
  | x :: l, h => by
    have h1 := h x (.head _)
    have h2 := vO_bnd (l := l) fun y hy => h y (.tail _ hy)
    simp only [vO, List.length_cons, Int.pow_succ]
    omega
theorem upI_val {a : List Int} (h : Bytes a) : ∀ (n k : Nat), a.length ≤ k + n → vO (upI a n k) = vF a n k / 4 ∧ Bytes (upI a n k) ∧ (upI a n k).length = n
  | 0, k, _ => ⟨rfl, fun x hx => by simp [upI] at hx, rfl⟩
  | n + 1, k, hl => by
    obtain ⟨e1, e2, e3⟩ := upI_val h n (k + 1) (by omega)
    have h1 := h.g0 k
    have h2 := h.g0 (k + 1)
    refine ⟨?_, fun x hx => ?_, by simp only [upI, List.length_cons, e3]⟩
    · have e4 : vF a n (k + 1) % 4 = g0 a (k + 1) % 4 := by
        cases n with
        | zero => rw [g0_out (by omega)]; rfl
        | succ n => rw [vF]; omega
      simp only [upI, vO, e1, vF]
      omega
    · simp only [upI, List.mem_cons] at hx
      rcases hx with rfl | hx
      · omega
      · exact e2 x hx
theorem p256_16 : (256 : Int) ^ 16 = 340282366920938463463374607431768211456 := by decide
theorem vO_tab16 (a : List Int) : vO (tab 16 fun i => g0 a i) = vF a 16 0 := by
  simp only [tab, tabFrom, vO, vF]
def p130 : Int := 1361129467683753853853498429727072845824
theorem lowH_bytes {a : List Int} (h : Bytes a) : Bytes (lowH a) := by
  intro x hx
  rw [lowH, List.mem_append] at hx
  rcases hx with hx | hx
  · obtain ⟨j, hj⟩ := List.mem_iff_getElem?.1 hx
    have : ∀ x ∈ tab 16 (fun i => g0 a i), 0 ≤ x ∧ x < 256 := by
      intro x hx
      simp only [tab, tabFrom, List.mem_cons, List.not_mem_nil, or_false] at hx
      rcases hx with rfl | rfl | rfl | rfl | rfl | rfl | rfl | rfl | rfl | rfl | rfl | rfl | rfl | rfl | rfl | rfl <;> exact h.g0 _
    exact this x hx
  · simp only [List.mem_singleton] at hx
    have := h.g0 16
    rw [hx, Int.tmod_eq_emod_of_nonneg this.1]
    omega
theorem high_val {a : List Int} (h : Bytes a) : vO (upD a) = vO a / p130 ∧ vO (lowH a) = vO a % p130 ∧ Bytes (upD a) ∧ (upD a).length = a.length - 16 := by
  obtain ⟨e1, e2, e3⟩ := upI_val h (a.length - 16) 16 (by omega)
  have e4 : vO a = vF a 16 0 + 340282366920938463463374607431768211456 * vF a (a.length - 16) 16 := by
    rw [← vF_all (n := 16 + (a.length - 16)) (by omega), vF_add, p256_16, Nat.zero_add]
  have h16 := h.g0 16
  have e5 : vO (lowH a) = vF a 16 0 + 340282366920938463463374607431768211456 * (g0 a 16 % 4) := by
    rw [lowH, vO_append, Int.tmod_eq_emod_of_nonneg h16.1, tab_len, p256_16, vO_tab16]
    simp only [vO]
    omega
  have e6 : vF a (a.length - 16) 16 % 4 = g0 a 16 % 4 := by
    by_cases hl : a.length ≤ 16
    · rw [show a.length - 16 = 0 by omega, g0_out hl]; rfl
    · obtain ⟨n, hn⟩ : ∃ n, a.length - 16 = n + 1 := ⟨a.length - 17, by omega⟩
      rw [hn, vF]; omega
  have e7 : 0 ≤ vF a 16 0 ∧ vF a 16 0 < 340282366920938463463374607431768211456 := by
    have hb : Bytes (tab 16 fun i => g0 a i) := fun x hx => lowH_bytes h x (by rw [lowH, List.mem_append]; exact .inl hx)
    have := vO_bnd hb
    rw [tab_len, p256_16, vO_tab16] at this
    exact this
  refine ⟨?_, ?_, e2, e3⟩
  · show vO (upI a (a.length - 16) 16) = _
    rw [e1, e4, p130]
    omega
  · rw [e5, e4, p130]
    omega
theorem someB_val : ∀ {l : List Int}, Bytes l → (someB l = false ↔ vO l = 0)
  | [], _ => by simp [someB, vO]
  | x :: l, h => by
    have h1 := h x (.head _)
    have hl : Bytes l := fun y hy => h y (.tail _ hy)
    have h2 := vO_bnd hl
    have ih := someB_val hl
    simp only [someB, List.any_cons, vO, Bool.or_eq_false_iff, bne_eq_false_iff_eq] at ih ⊢
    rw [ih]
    omega
set_option maxRecDepth 100000
def rotRO : OrcP := fun _ args _ => match args with
  | [.int .u32 x, .int .i64 (.ofNat n)] => if n = 2 ∨ n = 6 ∨ n = 7 ∨ n = 11 ∨ n = 13 ∨ n = 17 ∨ n = 18 ∨ n = 19 ∨ n = 22 ∨ n = 25 then some (.int .u32 (turnS x n), none) else none
  | _ => none
theorem right_2 (x : Int) : evFn G10 af_hollowtreeref04_right [.int .u32 x, .int .i64 (.ofNat 2)] ⟨16, []⟩ kV = some (.int .u32 (turnS x 2), ⟨0, []⟩) := by kernel_rfl
theorem right_6 (x : Int) : evFn G10 af_hollowtreeref04_right [.int .u32 x, .int .i64 (.ofNat 6)] ⟨16, []⟩ kV = some (.int .u32 (turnS x 6), ⟨0, []⟩) := by kernel_rfl
theorem right_7 (x : Int) : evFn G10 af_hollowtreeref04_right [.int .u32 x, .int .i64 (.ofNat 7)] ⟨16, []⟩ kV = some (.int .u32 (turnS x 7), ⟨0, []⟩) := by kernel_rfl
theorem right_11 (x : Int) : evFn G10 af_hollowtreeref04_right [.int .u32 x, .int .i64 (.ofNat 11)] ⟨16, []⟩ kV = some (.int .u32 (turnS x 11), ⟨0, []⟩) := by kernel_rfl
theorem right_13 (x : Int) : evFn G10 af_hollowtreeref04_right [.int .u32 x, .int .i64 (.ofNat 13)] ⟨16, []⟩ kV = some (.int .u32 (turnS x 13), ⟨0, []⟩) := by kernel_rfl
theorem right_17 (x : Int) : evFn G10 af_hollowtreeref04_right [.int .u32 x, .int .i64 (.ofNat 17)] ⟨16, []⟩ kV = some (.int .u32 (turnS x 17), ⟨0, []⟩) := by kernel_rfl
theorem right_18 (x : Int) : evFn G10 af_hollowtreeref04_right [.int .u32 x, .int .i64 (.ofNat 18)] ⟨16, []⟩ kV = some (.int .u32 (turnS x 18), ⟨0, []⟩) := by kernel_rfl
theorem right_19 (x : Int) : evFn G10 af_hollowtreeref04_right [.int .u32 x, .int .i64 (.ofNat 19)] ⟨16, []⟩ kV = some (.int .u32 (turnS x 19), ⟨0, []⟩) := by kernel_rfl
theorem right_22 (x : Int) : evFn G10 af_hollowtreeref04_right [.int .u32 x, .int .i64 (.ofNat 22)] ⟨16, []⟩ kV = some (.int .u32 (turnS x 22), ⟨0, []⟩) := by kernel_rfl
theorem right_25 (x : Int) : evFn G10 af_hollowtreeref04_right [.int .u32 x, .int .i64 (.ofNat 25)] ⟨16, []⟩ kV = some (.int .u32 (turnS x 25), ⟨0, []⟩) := by kernel_rfl
theorem rotR_pure {P : Program} {f : FuncId} (F : Fn P f G10 af_hollowtreeref04_right) : PureOk P f rotRO := by
  refine F.plain fun nid args hp r ha hr => ?_
  unfold rotRO at hr
  split at hr <;> try (cases hr; done)
  rename_i x n
  split at hr <;> try (cases hr; done)
  rename_i hn
  cases hr
  refine ⟨rfl, rfl, rfl, ?_⟩
  rcases hn with rfl | rfl | rfl | rfl | rfl | rfl | rfl | rfl | rfl | rfl
  · exact right_2 x
  · exact right_6 x
  · exact right_7 x
  · exact right_11 x
  · exact right_13 x
  · exact right_17 x
  · exact right_18 x
  · exact right_19 x
  · exact right_22 x
  · exact right_25 x
def constO : OrcP := fun _ args _ => match args with
  | [] => some (.agg [.ints .u32 64 shaK], none)
  | _ => none
theorem const_pure {P : Program} {f : FuncId} (F : Fn P f G10 af_hollowtreeref04_constants) : PureOk P f constO := by
  refine F.plain fun nid args hp r ha hr => ?_
  unfold constO at hr
  split at hr <;> try (cases hr; done)
  cases hr
  exact ⟨rfl, rfl, rfl, by kernel_rfl⟩
def beginO : OrcP := fun _ args _ => match args with
  | [] => some (.agg [.ints .u32 8 shaH], none)
  | _ => none
theorem begin_pure {P : Program} {f : FuncId} (F : Fn P f G10 af_hollowtreeref04_begin) : PureOk P f beginO := by
  refine F.plain fun nid args hp r ha hr => ?_
  unfold beginO at hr
  split at hr <;> try (cases hr; done)
  cases hr
  exact ⟨rfl, rfl, rfl, by kernel_rfl⟩
def Rs0 : Env := envAdd id_hollowtreeref04_right (.pure rotRO) (envAdd id_hollowtreeref04_constants (.pure constO) (envAdd id_hollowtreeref04_begin (.pure beginO) (envAdd id_hollowtreeref04_Pad (pin G10 af_hollowtreeref04_Pad) G10)))
def uTop : ACode := af_hollowtreeref04_Sum.code
def uT0 : ACode := uTop.l
def uT1 : ACode := uTop.r.l
def uT2 : ACode := uTop.r.r.l
def uT3 : ACode := uTop.r.r.r.l
def uLp : ACode := uTop.r.r.r.r.l.b.b
def uHd : ACode := uLp.l
def uTl : ACode := uLp.r.r
def uBd : ACode := uLp.r.l.b
def uW0 : ACode := uBd.l
def uI2 : ACode := uBd.r.l.l
def u2L : ACode := uBd.r.l.r.b.b
def uS0 : ACode := uBd.r.r.l
def uI4 : ACode := uBd.r.r.r.l.l
def u4L : ACode := uBd.r.r.r.l.r.b.b
def uAd : ACode := uBd.r.r.r.r
def uEnd : ACode := uTop.r.r.r.r.r
def uCn : Option Canon := some ⟨[], [0,2,3,4], [], [16], 0⟩
def u2Cn : Option Canon := some ⟨[], [0,2,3,4,5,34], [], [16], 0⟩
def u4Cn : Option Canon := some ⟨[], [0,2,3,4,5,9,113], [], [16], 0⟩
def uWk : ACode := .seq none uW0 (.seq none (.seq none uI2 (.block 2 none (.loop 1000 u2Cn u2L))) (.seq none uS0 (.seq none (.seq none uI4 (.block 4 none (.loop 1000 u4Cn u4L))) uAd)))
def uBody : ACode := .seq none uHd (.seq none (.block 1 none uWk) uTl)
def afSum : AFn := ⟨227, [.cell 2 true 32], .seq none uT0 (.seq none uT1 (.seq none uT2 (.seq none uT3 (.seq none (.block 0 none (.loop 1000 uCn uBody)) uEnd))))⟩
structure UP where
  L : Nat
  xs : List Int
  N : Nat
  bs : List Int
def UP.cells (p : UP) (st : W8) : List Cell := [roC 0 (.segs [.ints .u8 p.L p.xs]), cel 16 [.ints .u8 p.N p.bs], cel 17 [.ints .u8 32 (List.replicate 32 0)], cel 18 [.ints .u32 64 shaK], cel 19 [.ints .u32 8 (ofW8 st)]]
def uT (j len : Nat) (ex : List (Nat × AV)) : List AV := mkT 227 ([(0, .slice 16 0 j len 0 none), (2, pt 17), (3, pt 18), (4, pt 19)] ++ ex)
def uSt (p : UP) (j len : Nat) (st : W8) : St := ⟨uT j len [], ⟨20, p.cells st⟩⟩
def uSt2 (p : UP) (j len : Nat) (st : W8) (i : Int) (ws : List Int) : St := ⟨uT j len [(5, pt 20), (34, .int .i64 i)], ⟨21, p.cells st ++ [cel 20 [.ints .u32 64 ws]]⟩⟩
def uSt4 (p : UP) (j len : Nat) (st : W8) (i : Int) (ws : List Int) (s : W8) : St := ⟨uT j len [(5, pt 20), (9, pt 21), (113, .int .i64 i)], ⟨22, p.cells st ++ [cel 20 [.ints .u32 64 ws], cel 21 [.ints .u32 8 (ofW8 s)]]⟩⟩
def schedR (p q r s : Int) : Int :=
  w32 (w32 (w32 (r + bw .xor .u32 (bw .xor .u32 (turnS p 7) (turnS p 18)) (p.fdiv (2 ^ 3))) + s) + bw .xor .u32 (bw .xor .u32 (turnS q 17) (turnS q 19)) (q.fdiv (2 ^ 10)))
def not32 (x : Int) : Int := bw .xor .u32 IntKind.u32.max x
def rTR (s : W8) (k x : Int) : Int :=
  w32 (w32 (w32 (w32 (s.h + xor32 (xor32 (turnS s.e 6) (turnS s.e 11)) (turnS s.e 25)) + xor32 (and32 s.e s.f) (and32 (not32 s.e) s.g)) + k) + x)
def rUR (s : W8) : Int := w32 (xor32 (xor32 (turnS s.a 2) (turnS s.a 13)) (turnS s.a 22) + xor32 (xor32 (and32 s.a s.b) (and32 s.a s.c)) (and32 s.b s.c))
def roundR (s : W8) (k x : Int) : W8 := ⟨w32 (rTR s k x + rUR s), s.a, s.b, s.c, w32 (s.d + rTR s k x), s.e, s.f, s.g⟩
theorem u_round2 (L : St → Option Res) (κ : Kont) (p : UP) (j len : Nat) (st : W8) (i : Int) (ws : List Int) : ev Rs0 u2L (uSt2 p j len st i ws) (kLoop u2Cn L κ) =
    bif decide (i < 64) then bif decide (i < 16) then
      atO? (w63 (4 * i)) len j p.bs fun a => atO? (w63 (w63 (4 * i) + 1)) len j p.bs fun b => atO? (w63 (w63 (4 * i) + 2)) len j p.bs fun c => atO? (w63 (w63 (4 * i) + 3)) len j p.bs fun d =>
        set? i 64 (L (uSt2 p j len st (w63 (i + 1)) (ws.set i.toNat (word4 a b c d))))
      else at? (w63 (i - 15)) 64 ws fun a => at? (w63 (i - 2)) 64 ws fun b => at? (w63 (i - 16)) 64 ws fun c => at? (w63 (i - 7)) 64 ws fun d => set? i 64 (L (uSt2 p j len st (w63 (i + 1)) (ws.set i.toNat (schedR a b c d))))
    else κ (.exit 2) (withT 35 (.bool false) (uSt2 p j len st i ws)) := by kernel_rfl
theorem u_round4 (L : St → Option Res) (κ : Kont) (p : UP) (j len : Nat) (st : W8) (i : Int) (ws : List Int) (s : W8) : ev Rs0 u4L (uSt4 p j len st i ws s) (kLoop u4Cn L κ) =
    bif decide (i < 64) then at? i 64 shaK fun k => at? i 64 ws fun x => L (uSt4 p j len st (w63 (i + 1)) ws (roundR s k x)) else κ (.exit 4) (withT 114 (.bool false) (uSt4 p j len st i ws s)) := by kernel_rfl
set_option maxRecDepth 100000
def cTop : ACode := af_hollowtreeref03_Num_carry.code
def cA : ACode := cTop.l
def cI1 : ACode := cTop.r.l.l
def cL1 : ACode := cTop.r.l.r.b.b
def cEnd : ACode := cTop.r.r
def cHd : ACode := cL1.l
def cBd : ACode := cL1.r.b
def cB0 : ACode := cBd.l
def cI2 : ACode := cBd.r.l.l
def cL2 : ACode := cBd.r.l.r.b.b
def cB9 : ACode := cBd.r.r
def cCn1 : Option Canon := some ⟨[], [1,2,3], [], [16,17], 18⟩
def cCn2 : Option Canon := some ⟨[], [1,2,3,4], [], [16,17], 18⟩
def cBody : ACode := .seq none cHd (.block 1 none (.seq none cB0 (.seq none (.seq none cI2 (.block 2 none (.loop 1000 cCn2 cL2))) cB9)))
def afCarry : AFn := ⟨37, [.cell 2 true 16], .seq none cA (.seq none (.seq none cI1 (.block 0 none (.loop 1000 cCn1 cBody))) cEnd)⟩
def z16 : List Int := List.replicate 16 0
def cHp (l : List Int) : Am.Heap := ⟨18, [cel 16 [.ints .i64 16 l], cel 17 [.ints .i64 16 z16]]⟩
def cS1 (l : List Int) (c : Int) : St := ⟨mkT 37 [(1, pt 16), (2, pt 17), (3, .int .i64 c)], cHp l⟩
def cS2 (l : List Int) (c i : Int) : St := ⟨mkT 37 [(1, pt 16), (2, pt 17), (3, .int .i64 c), (4, .int .i64 i)], cHp l⟩
theorem c_round2 (L : St → Option Res) (κ : Kont) (l : List Int) (c i : Int) : ev G10 cL2 (cS2 l c i) (kLoop cCn2 L κ) =
    bif decide (i < 16) then at? i 16 l fun a => bif decide ((w63 (a + c)).tmod 65536 < 0) then set? i 16 (L (cS2 (l.set i.toNat (w63 ((w63 (a + c)).tmod 65536 + 65536))) (w63 (w63 ((w63 (a + c)).tdiv 65536) - 1)) (w63 (i + 1))))
      else set? i 16 (L (cS2 (l.set i.toNat ((w63 (a + c)).tmod 65536)) (w63 ((w63 (a + c)).tdiv 65536)) (w63 (i + 1))))
    else κ (.exit 2) (withT 9 (.bool false) (withT 8 (.int .i64 i) (cS2 l c i))) := by kernel_rfl
def passD : List Int → Int → List Int × Int
  | [], c => ([], c)
  | x :: r, c => ((w63 (x + c)) % 65536 :: (passD r ((w63 (x + c)) / 65536)).1, (passD r ((w63 (x + c)) / 65536)).2)
theorem w63_rng (n : Int) : -9223372036854775808 ≤ w63 n ∧ w63 n < 9223372036854775808 := by
  simp only [w63, IntKind.wrap, IntKind.bits, IntKind.signed]
  have e : ((2 : Int) ^ 64) = 18446744073709551616 := by decide
  have e2 : ((2 : Int) ^ (64 - 1)) = 9223372036854775808 := by decide
  simp only [e, e2, Bool.true_and, decide_eq_true_eq, ge_iff_le]
  split <;> omega
theorem td (X : Int) (h0 : -9223372036854775808 ≤ X) (h1 : X < 9223372036854775808) :
    (X.tmod 65536 < 0 → w63 (X.tmod 65536 + 65536) = X % 65536 ∧ w63 (w63 (X.tdiv 65536) - 1) = X / 65536) ∧ (¬ X.tmod 65536 < 0 → X.tmod 65536 = X % 65536 ∧ w63 (X.tdiv 65536) = X / 65536) := by
  have a1 : X.tdiv 65536 = if 0 ≤ X then X / 65536 else -((-X) / 65536) := by
    split
    · exact Int.tdiv_eq_ediv_of_nonneg ‹_›
    · have : X = -(-X) := by omega
      rw [this, Int.neg_tdiv, Int.tdiv_eq_ediv_of_nonneg (by omega), Int.neg_neg]
  have a2 : X.tmod 65536 = X - 65536 * X.tdiv 65536 := by have := Int.tmod_add_mul_tdiv X 65536; omega
  rw [a2, a1]
  split
  · exact ⟨fun h => by omega, fun h => ⟨by omega, w63_id (by omega) (by omega)⟩⟩
  · refine ⟨fun h => ?_, fun h => ?_⟩
    · rw [w63_id (by omega) (by omega), w63_id (n := -(-X / 65536)) (by omega) (by omega), w63_id (by omega) (by omega)]
      omega
    · exact ⟨by omega, (w63_id (by omega) (by omega)).trans (by omega)⟩
theorem c_loop2 (κ : Kont) : ∀ (r pre : List Int) (c : Int) (F : Nat), pre.length + r.length = 16 → r.length < F →
    loopK cCn2 (ev G10 cL2) F (cS2 (pre ++ r) c (pre.length : Int)) κ = κ (.exit 2) (withT 9 (.bool false) (withT 8 (.int .i64 16) (cS2 (pre ++ (passD r c).1) (passD r c).2 16)))
  | [], pre, c, F + 1, hl, _ => by
    refine (c_round2 _ κ _ c _).trans ?_
    have e : pre.length = 16 := by simpa using hl
    rw [e]
    rfl
  | x :: r, pre, c, F + 1, hl, hF => by
    refine (c_round2 _ κ _ c _).trans ?_
    have hp : pre.length < 16 := by simp at hl; omega
    rw [decide_eq_true (by omega), cond_true, at?_eq pre.length rfl (by omega) (by simp)]
    have e1 : g0 (pre ++ x :: r) pre.length = x := by simp [g0, List.getD_eq_getElem?_getD]
    rw [e1, set?_eq pre.length rfl hp, set?_eq pre.length rfl hp, wS _ (by omega), Int.toNat_natCast]
    have e2 : ∀ y, (pre ++ x :: r).set pre.length y = (pre ++ [y]) ++ r := fun y => by simp
    rw [e2, e2]
    have ih := fun y c' => c_loop2 κ r (pre ++ [y]) c' F (by simp at hl ⊢; omega) (by simp at hF; omega)
    have hln : ∀ y : Int, (((pre ++ [y]).length : Nat) : Int) = ((pre.length + 1 : Nat) : Int) := fun y => by simp
    obtain ⟨t1, t2⟩ := td (w63 (x + c)) (w63_rng _).1 (w63_rng _).2
    simp only [passD]
    by_cases hd : (w63 (x + c)).tmod 65536 < 0
    · rw [decide_eq_true hd, cond_true, (t1 hd).1, (t1 hd).2, ← hln (w63 (x + c) % 65536), ih]
      simp only [List.append_assoc, List.singleton_append]
    · rw [decide_eq_false hd, cond_false, (t2 hd).1, (t2 hd).2, ← hln (w63 (x + c) % 65536), ih]
      simp only [List.append_assoc, List.singleton_append]
  | _ :: _, _, _, 0, _, h => by omega
theorem c_p1 (F : Nat) (C R : ACode) (L : St → Option Res) (κ : Kont) (l : List Int) (c : Int) : ev G10 (.seq none cHd (.block 1 none (.seq none cB0 (.seq none (.seq none cI2 (.block 2 none (.loop F cCn2 C))) R)))) (cS1 l c) (kLoop cCn1 L κ) =
    bif c != 0 then loopK cCn2 (ev G10 C) F (cS2 l 0 0) (kBlock 2 none (kSeq G10 none R (kBlock 1 none (kLoop cCn1 L κ)))) else κ (.exit 0) (withT 7 (.bool false) (withT 6 (.int .i64 c) (cS1 l c))) := by kernel_rfl
theorem c_p2 (L : St → Option Res) (κ : Kont) (x : Int) (l : List Int) (c : Int) : ev G10 cB9 (withT 9 (.bool false) (withT 8 (.int .i64 16) (cS2 (x :: l) c 16))) (kBlock 1 none (kLoop cCn1 L κ)) = L (cS1 (w63 (x + w63 (38 * c)) :: l) c) := by kernel_rfl
theorem c_end (l : List Int) (c : Int) : ev G10 cEnd (withT 7 (.bool false) (withT 6 (.int .i64 c) (cS1 l c))) (kFn [.cell 2 true 16] kV) = some (.agg [.ints .i64 16 l], ⟨0, []⟩) := by kernel_rfl
end Go.Am
