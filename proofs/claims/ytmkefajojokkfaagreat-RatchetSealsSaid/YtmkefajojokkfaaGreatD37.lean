/- RatchetSeals: part 38 of 50 of its proof. -/
import Derived.Test.YtmkefajojokkfaaGreatD36
import Derived.Test.YtmkefajojokkfaaGreatD33
import Derived.Test.YtmkefajojokkfaaGreatD34
set_option linter.unusedVariables false
set_option linter.unusedSimpArgs false
namespace Go.Am
set_option linter.unusedSimpArgs false
set_option maxRecDepth 100000
abbrev Blk3 := List Int → Int → List Int → List Int
def blk32 (l : List Int) : List Int := tab 32 fun i => g0 l i
def msgL (a c : List Int) : List Int := tab 40 (fun i => g0 a i) ++ List.replicate 8 0 ++ tab 49 (fun i => g0 c i) ++ List.replicate 15 0 ++ [40,0,0,0,0,0,0,0] ++ [49,0,0,0,0,0,0,0]
def RaT (B : Blk3) (M : M2) : Env := envAdd id_hollowtreeref06_Block (.pure (blockV B)) (envAdd id_hollowtreeref08_filled (pin G10 af_hollowtreeref08_filled) (envAdd id_hollowtreeref08_eight (pin G10 af_hollowtreeref08_eight) (envAdd id_hollowtreeref07_Mac (.pure (macQ M)) G10)))
def tagF (B : Blk3) (M : M2) : F4 := fun k n a c => fixL 16 (M (blk32 (fixL 64 (B k 0 n))) (msgL a c))
theorem atagR_run (B : Blk3) (M : M2) (nid : Nat) (f g a c : Nat → Int) : evFn (RaT B M) af_hollowtreeref08_Tag [.agg [.ints .u8 32 (tab 32 f)], .agg [.ints .u8 12 (tab 12 g)], slB 0 40, slB 1 49] (adH (tab 40 a) (tab 49 c) 49) (kOut none nid) =
    some (.agg [.ints .u8 16 (tagF B M (tab 32 f) (tab 12 g) (tab 40 a) (tab 49 c))], ⟨0, []⟩) := by kernel_rfl
def xorVR (X : F3) : OrcP := fun nid args h => match args with
  | [.agg [.ints .u8 32 k], .int .u32 1, .agg [.ints .u8 12 n], y] => withBs h y fun c => if c.length = 49 then some (.slice nid 0 0 49 0 none, some (.segs [.ints .u8 49 (fixL 49 (X k n c))])) else none
  | _ => none
def RaS (X : F3) (T : F4) : Env := envAdd id_hollowtreeref06_Xor (.pure (xorVR X)) (envAdd id_hollowtreeref08_Tag (.pure (aTagV T)) G10)
theorem asealR_run (X : F3) (T : F4) (nid : Nat) (f g a c : Nat → Int) : evFn (RaS X T) af_hollowtreeref08_Seal [.agg [.ints .u8 32 (tab 32 f)], .agg [.ints .u8 12 (tab 12 g)], slB 0 40, slB 1 49] (adH (tab 40 a) (tab 49 c) 49) (kOut (some (.ints .u8)) nid) =
    some (.slice nid 0 0 65 0 none, encB nid (some (.segs [.ints .u8 65 (sealF X T (tab 32 f) (tab 12 g) (tab 40 a) (tab 49 c))]))) := by kernel_rfl
set_option maxRecDepth 100000
def ofV (O : List Int → Int → List Int) : OrcP := fun _ args h => match args with
  | [s, .int .u64 t] => withBs h s fun xs => if xs.length = 16 then some (.agg [.ints .u64 5 (fixL 5 (O xs t))], none) else none
  | _ => none
def tri5V (St : List Int → List Int → List Int → List Int) : OrcP := fun _ args _ => match args with
  | [.agg [.ints .u64 5 h], .agg [.ints .u64 5 n], .agg [.ints .u64 5 r]] => some (.agg [.ints .u64 5 (fixL 5 (St h n r))], none)
  | _ => none
def tagOV (Tg : M2) : OrcP := fun _ args h => match args with
  | [.ptr id 0 0 0 0] => match h.get id with
    | some ⟨_, _, .segs [.slice lid 0 0 0 0 _, .ints .u64 5 _, .ints .u64 5 hh, .ints .u8 16 s]⟩ => match h.get lid with
      | some ⟨_, _, .segs [.ints .u8 _ _]⟩ => if lid ≠ id ∧ hh.length = 5 ∧ s.length = 16 then some (.agg [.ints .u8 16 (fixL 16 (Tg hh s))], none) else none
      | _ => none
    | _ => none
  | _ => none
section
variable (B : Blk3) (C : M1) (O : List Int → Int → List Int) (St : List Int → List Int → List Int → List Int) (Tg : M2)
def Ia0 : Env := envAdd id_poly_Clamp (.pure (cl16V C)) (envAdd id_poly_of (.pure (ofV O)) X_octet_Put64)
def Ia1 : Env := envAdd id_poly_New (inl (Ia0 C O) af_poly_New) (Ia0 C O)
def Ia2 : Env := envAdd id_poly_limbs_step (.pure (tri5V St)) (Ia1 C O)
def Ia3 : Env := envAdd id_poly_Code_Write (objW (Ia2 C O St) af_poly_Code_Write) (Ia2 C O St)
def Ia4 : Env := envAdd id_poly_Code_Tag (.pure (tagOV Tg)) (Ia3 C O St)
def Ia5 : Env := envAdd id_aead_Tag_1 (inl (Ia4 C O St Tg) af_aead_Tag_1) (Ia4 C O St Tg)
def Ia6 : Env := envAdd id_chacha_Block (.pure (blockV B)) (Ia5 C O St Tg)
def stepF (r m : List Int) (h : List Int) (j : Nat) : List Int := fixL 5 (St h (fixL 5 (O (blk16 m j) 1)) r)
def macI (k m : List Int) : List Int :=
  let r := fixL 5 (O (fixL 16 (C k)) 0)
  let s := stepF O St r m
  Tg (s (s (s (s (s (s (s (s (List.replicate 5 0) 0) 1) 2) 3) 4) 5) 6) 7) (blk16 k 1)
theorem atagI_run (nid : Nat) (f g a c : Nat → Int) : evFn (Ia6 B C O St Tg) af_aead_Tag [.agg [.ints .u8 32 (tab 32 f)], .agg [.ints .u8 12 (tab 12 g)], slB 0 40, slB 1 49] (adH (tab 40 a) (tab 49 c) 49) (kOut none nid) =
    some (.agg [.ints .u8 16 (tagF B (macI C O St Tg) (tab 32 f) (tab 12 g) (tab 40 a) (tab 49 c))], ⟨0, []⟩) := by kernel_rfl
end
set_option maxRecDepth 100000
def b15 (x : Int) : Int := bw .and .u8 x 15
def b252 (x : Int) : Int := bw .and .u8 x 252
def clampI (k : List Int) : List Int := [g0 k 0, g0 k 1, g0 k 2, b15 (g0 k 3), b252 (g0 k 4), g0 k 5, g0 k 6, b15 (g0 k 7), b252 (g0 k 8), g0 k 9, g0 k 10, b15 (g0 k 11), b252 (g0 k 12), g0 k 13, g0 k 14, b15 (g0 k 15)]
theorem clampI_run (f : Nat → Int) : evFn G10 af_poly_Clamp [key (tab 32 f)] ⟨16, []⟩ kV = some (.agg [.ints .u8 16 (clampI (tab 32 f))], ⟨0, []⟩) := by kernel_rfl
theorem clampI_pure {P : Program} {f : FuncId} (F : Fn P f G10 af_poly_Clamp) : PureOk P f (cl16V clampI) := by
  refine F.plain fun nid args hp r ha hr => ?_
  unfold cl16V at hr
  split at hr <;> try (cases hr; done)
  cases hr
  obtain ⟨⟨⟨hl, _⟩, _⟩, _⟩ := ha
  obtain ⟨g, rfl⟩ := tab_of hl
  exact ⟨rfl, rfl, rfl, clampI_run g⟩
def ofP (xs : List Int) (t : Int) : List Int :=
  let lo := g8 (xs.take 8) 0 0
  let hi := g8 ((xs.drop 8).take 8) 0 0
  [m26 lo, m26 (sr lo 26), m26 (bw .or .u64 (sr lo 52) (w64 (hi * 2 ^ 12))), m26 (sr hi 14), bw .or .u64 (sr hi 40) (w64 (t * 2 ^ 24))]
def IaO : Env := envAdd id_octet_Get64 (pin G10 af_octet_Get64) G10
theorem of_run7 (nid : Nat) (t : Int) (f : Nat → Int) : evFn IaO af_poly_of [slB 0 16, .int .u64 t] ⟨16, [roC 0 (.segs [.ints .u8 16 (tab 16 f)])]⟩ (kOut none nid) = some (.agg [.ints .u64 5 (ofP (tab 16 f) t)], ⟨0, []⟩) := by kernel_rfl
theorem of_pure7 {P : Program} {f : FuncId} (F : Fn P f IaO af_poly_of) : PureOk P f (ofV ofP) := by
  refine F.lit [.sl (.ints .u8), .plain] none fun nid args hp r ha hr => ?_
  unfold ofV at hr
  split at hr <;> try (cases hr; done)
  rename_i s t
  obtain ⟨xs, hc, hl, hr1⟩ := withBs_eq hr
  split at hr1 <;> try (cases hr1; done)
  rename_i h16
  cases hr1
  refine ⟨_, _, by simp only [viewArgs, contI_isSl hc, if_true, viewS_ints hc, Option.bind_some, Option.map_some, avIds, List.isEmpty_nil]; rfl, by simp, ?_⟩
  rw [h16]
  obtain ⟨g, rfl⟩ := tab_of h16
  exact of_run7 nid t g
def stepL5 (h n r : List Int) : List Int := (pstepS (toL5 h) (toL5 n) (toL5 r)).list
theorem step_pure7 {P : Program} {f : FuncId} (h : PureOk P f (tri5 pstepS)) : PureOk P f (tri5V stepL5) := by
  refine pure_mono h fun nid args hp r hok hr => ?_
  unfold tri5V at hr
  split at hr <;> try (cases hr; done)
  cases hr
  rfl
def tagL5 (h s : List Int) : List Int := tagS (toL5 h) s
theorem lowN_len : ∀ n x, (lowN n x).length = n
  | 0, _ => rfl
  | n + 1, x => by simp only [lowN, List.length_cons, lowN_len n]
theorem tagL5_len (h s : List Int) : (tagL5 h s).length = 16 := by simp [tagL5, tagS, lowN_len]
theorem tag_pure7 {P : Program} {f : FuncId} (h : PureOk P f tagO) : PureOk P f (tagOV tagL5) := by
  refine pure_mono h fun nid args hp r hok hr => ?_
  unfold tagOV at hr
  split at hr <;> try (cases hr; done)
  rename_i id
  split at hr <;> try (cases hr; done)
  rename_i hg
  split at hr <;> try (cases hr; done)
  rename_i hg2
  split at hr <;> try (cases hr; done)
  rename_i hc
  cases hr
  unfold tagO
  simp only [hg, hg2, if_pos hc]
  rw [fixL_eq (tagL5_len _ _)]
  rfl
set_option maxRecDepth 100000
theorem w64_of {n : Int} (h0 : 0 ≤ n) (h1 : n < 18446744073709551616) : w64 n = n := by rw [w64_eq]; omega
theorem sh26_eq (x : Int) : sh26 x = x / 67108864 := by
  have := fdiv_pow x 26
  simpa [sh26] using this
theorem mk26_eq {n : Int} (h0 : 0 ≤ n) (h1 : n < 18446744073709551616) : mk26 n = n % 67108864 := by
  obtain ⟨y, rfl⟩ : ∃ y : Nat, n = y := ⟨n.toNat, by omega⟩
  have h := bw_nat .and .u64 rfl y 67108863 (by simp only [IntKind.bits]; omega) (by decide)
  have e : y &&& 67108863 = y % 67108864 := and_mask y 26
  simp only [e] at h
  rw [mk26]
  exact h
def v5 (h : L5) : Int := h.a + 67108864 * h.b + 4503599627370496 * h.c + 302231454903657293676544 * h.d + 20282409603651670423947251286016 * h.e
structure Lim5 (B : Int) (h : L5) : Prop where
  a : 0 ≤ h.a ∧ h.a < B
  b : 0 ≤ h.b ∧ h.b < B
  c : 0 ≤ h.c ∧ h.c < B
  d : 0 ≤ h.d ∧ h.d < B
  e : 0 ≤ h.e ∧ h.e < B
theorem carry1_eq {h : L5} (k : Lim5 1152921504606846976 h) : carry1 h =
    ⟨h.a % 67108864 + 5 * ((h.e + (h.d + (h.c + (h.b + h.a / 67108864) / 67108864) / 67108864) / 67108864) / 67108864), (h.b + h.a / 67108864) % 67108864, (h.c + (h.b + h.a / 67108864) / 67108864) % 67108864,
     (h.d + (h.c + (h.b + h.a / 67108864) / 67108864) / 67108864) % 67108864, (h.e + (h.d + (h.c + (h.b + h.a / 67108864) / 67108864) / 67108864) / 67108864) % 67108864⟩ := by
  obtain ⟨ka, kb, kc, kd, ke⟩ := k
  unfold carry1
  simp only [sh26_eq, Int.add_zero]
  rw [w64_of (n := h.a) (by omega) (by omega), w64_of (n := h.b + h.a / 67108864) (by omega) (by omega)]
  rw [w64_of (n := h.c + (h.b + h.a / 67108864) / 67108864) (by omega) (by omega)]
  rw [w64_of (n := h.d + (h.c + (h.b + h.a / 67108864) / 67108864) / 67108864) (by omega) (by omega)]
  rw [w64_of (n := h.e + (h.d + (h.c + (h.b + h.a / 67108864) / 67108864) / 67108864) / 67108864) (by omega) (by omega)]
  rw [mk26_eq (n := h.a) (by omega) (by omega), mk26_eq (n := h.b + h.a / 67108864) (by omega) (by omega), mk26_eq (n := h.c + (h.b + h.a / 67108864) / 67108864) (by omega) (by omega), mk26_eq (n := h.d + (h.c + (h.b + h.a / 67108864) / 67108864) / 67108864) (by omega) (by omega), mk26_eq (n := h.e + (h.d + (h.c + (h.b + h.a / 67108864) / 67108864) / 67108864) / 67108864) (by omega) (by omega)]
  rw [w64_of (n := 5 * ((h.e + (h.d + (h.c + (h.b + h.a / 67108864) / 67108864) / 67108864) / 67108864) / 67108864)) (by omega) (by omega), w64_of (by omega) (by omega)]
theorem carry1_val {h : L5} (k : Lim5 1152921504606846976 h) : ∃ q, 0 ≤ q ∧ q ≤ (h.e + 34359738368) / 67108864 ∧ v5 (carry1 h) = v5 h - q * p1305 ∧ (carry1 h).a = h.a % 67108864 + 5 * q ∧ 0 ≤ (carry1 h).b ∧ (carry1 h).b < 67108864 ∧ 0 ≤ (carry1 h).c ∧ (carry1 h).c < 67108864 ∧ 0 ≤ (carry1 h).d ∧ (carry1 h).d < 67108864 ∧ 0 ≤ (carry1 h).e ∧ (carry1 h).e < 67108864 := by
  have e := carry1_eq k
  obtain ⟨ka, kb, kc, kd, ke⟩ := k
  rw [e]
  generalize hx : h.a / 67108864 = x
  generalize hy : (h.b + x) / 67108864 = y
  generalize hz : (h.c + y) / 67108864 = z
  generalize hw : (h.d + z) / 67108864 = w
  generalize hq : (h.e + w) / 67108864 = q
  refine ⟨q, by omega, by omega, ?_, rfl, by dsimp only; omega, by dsimp only; omega, by dsimp only; omega, by dsimp only; omega, by dsimp only; omega, by dsimp only; omega, by dsimp only; omega, by dsimp only; omega⟩
  simp only [v5, p1305]
  omega
structure Nrm (h : L5) : Prop where
  a : 0 ≤ h.a ∧ h.a < 67108869
  b : 0 ≤ h.b ∧ h.b < 67108864
  c : 0 ≤ h.c ∧ h.c < 67108864
  d : 0 ≤ h.d ∧ h.d < 67108864
  e : 0 ≤ h.e ∧ h.e < 67108864
theorem carryS_val {h : L5} (k : Lim5 1152921504606846976 h) : Nrm (carryS h) ∧ ∃ q, v5 (carryS h) = v5 h - q * p1305 := by
  obtain ⟨q, q1, q2, q3, q4, b1, b2, c1, c2, d1, d2, e1, e2⟩ := carry1_val k
  have k2 : Lim5 1152921504606846976 (carry1 h) := by
    obtain ⟨ka, kb, kc, kd, ke⟩ := k
    exact ⟨by omega, by omega, by omega, by omega, by omega⟩
  obtain ⟨r, r1, r2, r3, r4, b1', b2', c1', c2', d1', d2', e1', e2'⟩ := carry1_val k2
  have ee := carry1_eq k2
  have hr : r ≤ 1 := by
    have k3 := k2.a
    obtain ⟨ka, kb, kc, kd, ke⟩ := k
    have : r = ((carry1 h).e + ((carry1 h).d + ((carry1 h).c + ((carry1 h).b + (carry1 h).a / 67108864) / 67108864) / 67108864) / 67108864) / 67108864 := by
      have := congrArg L5.a ee
      dsimp only at this
      omega
    omega
  refine ⟨⟨?_, ⟨b1', b2'⟩, ⟨c1', c2'⟩, ⟨d1', d2'⟩, ⟨e1', e2'⟩⟩, q + r, ?_⟩
  · show 0 ≤ (carry1 (carry1 h)).a ∧ (carry1 (carry1 h)).a < 67108869
    rw [r4]
    omega
  · show v5 (carry1 (carry1 h)) = _
    rw [r3, q3, Int.add_mul]
    omega
theorem mul_bnd {x y X Y : Int} (hx : 0 ≤ x ∧ x ≤ X) (hy : 0 ≤ y ∧ y ≤ Y) : 0 ≤ x * y ∧ x * y ≤ X * Y :=
  ⟨Int.mul_nonneg hx.1 hy.1, Int.mul_le_mul hx.2 hy.2 hy.1 (Int.le_trans hx.1 hx.2)⟩
theorem pm_eq {x y : Int} (h : 0 ≤ x * y ∧ x * y ≤ 18014398509481984) : pm x y = x * y := w64_of h.1 (by omega)
theorem pm5_eq {x y : Int} (h : 0 ≤ x * y ∧ x * y ≤ 18014398509481984) : pm5 x y = x * y * 5 := by
  rw [pm5, w64_of h.1 (by omega), w64_of (by omega) (by omega)]
theorem sum5_eq {a b c d e : Int} (ha : 0 ≤ a ∧ a ≤ 90071992547409920) (hb : 0 ≤ b ∧ b ≤ 90071992547409920) (hc : 0 ≤ c ∧ c ≤ 90071992547409920) (hd : 0 ≤ d ∧ d ≤ 90071992547409920) (he : 0 ≤ e ∧ e ≤ 90071992547409920) : sum5 a b c d e = a + b + c + d + e := by
  rw [sum5, Int.zero_add, w64_of (n := a) (by omega) (by omega), w64_of (n := a + b) (by omega) (by omega), w64_of (n := a + b + c) (by omega) (by omega), w64_of (n := a + b + c + d) (by omega) (by omega), w64_of (by omega) (by omega)]
theorem mulS_val {s r : L5} (hs : Lim5 134217733 s) (hr : Lim5 67108864 r) : Lim5 1152921504606846976 (mulS s r) ∧ ∃ q, v5 (mulS s r) = v5 s * v5 r - q * p1305 := by
  obtain ⟨sa, sb, sc, sd, se⟩ := hs
  obtain ⟨ra, rb, rc, rd, re⟩ := hr
  have B : ∀ {x y : Int}, 0 ≤ x ∧ x < 134217733 → 0 ≤ y ∧ y < 67108864 → 0 ≤ x * y ∧ x * y ≤ 9007199388958716 := fun hx hy => by
    have := mul_bnd (X := 134217732) (Y := 67108863) ⟨hx.1, by omega⟩ ⟨hy.1, by omega⟩
    omega
  have aa := B sa ra; have ab := B sa rb; have ac := B sa rc; have ad := B sa rd; have ae := B sa re
  have ba := B sb ra; have bb := B sb rb; have bc := B sb rc; have bd := B sb rd; have be := B sb re
  have ca := B sc ra; have cb := B sc rb; have cc := B sc rc; have cd := B sc rd; have ce := B sc re
  have da := B sd ra; have db := B sd rb; have dc := B sd rc; have dd := B sd rd; have de := B sd re
  have ea := B se ra; have eb := B se rb; have ec := B se rc; have ed := B se rd; have ee := B se re
  have e : mulS s r = ⟨s.a * r.a + s.b * r.e * 5 + s.c * r.d * 5 + s.d * r.c * 5 + s.e * r.b * 5, s.a * r.b + s.b * r.a + s.c * r.e * 5 + s.d * r.d * 5 + s.e * r.c * 5, s.a * r.c + s.b * r.b + s.c * r.a + s.d * r.e * 5 + s.e * r.d * 5,
      s.a * r.d + s.b * r.c + s.c * r.b + s.d * r.a + s.e * r.e * 5, s.a * r.e + s.b * r.d + s.c * r.c + s.d * r.b + s.e * r.a⟩ := by
    unfold mulS
    rw [pm_eq (x := s.a) (y := r.a) (by omega), pm5_eq (x := s.b) (y := r.e) (by omega), pm5_eq (x := s.c) (y := r.d) (by omega), pm5_eq (x := s.d) (y := r.c) (by omega), pm5_eq (x := s.e) (y := r.b) (by omega)]
    rw [pm_eq (x := s.a) (y := r.b) (by omega), pm_eq (x := s.b) (y := r.a) (by omega), pm5_eq (x := s.c) (y := r.e) (by omega), pm5_eq (x := s.d) (y := r.d) (by omega), pm5_eq (x := s.e) (y := r.c) (by omega)]
    rw [pm_eq (x := s.a) (y := r.c) (by omega), pm_eq (x := s.b) (y := r.b) (by omega), pm_eq (x := s.c) (y := r.a) (by omega), pm5_eq (x := s.d) (y := r.e) (by omega), pm5_eq (x := s.e) (y := r.d) (by omega)]
    rw [pm_eq (x := s.a) (y := r.d) (by omega), pm_eq (x := s.b) (y := r.c) (by omega), pm_eq (x := s.c) (y := r.b) (by omega), pm_eq (x := s.d) (y := r.a) (by omega), pm5_eq (x := s.e) (y := r.e) (by omega)]
    rw [pm_eq (x := s.a) (y := r.e) (by omega), pm_eq (x := s.b) (y := r.d) (by omega), pm_eq (x := s.c) (y := r.c) (by omega), pm_eq (x := s.d) (y := r.b) (by omega), pm_eq (x := s.e) (y := r.a) (by omega)]
    rw [sum5_eq (by omega) (by omega) (by omega) (by omega) (by omega), sum5_eq (by omega) (by omega) (by omega) (by omega) (by omega), sum5_eq (by omega) (by omega) (by omega) (by omega) (by omega), sum5_eq (by omega) (by omega) (by omega) (by omega) (by omega), sum5_eq (by omega) (by omega) (by omega) (by omega) (by omega)]
  rw [e]
  refine ⟨⟨by dsimp only; omega, by dsimp only; omega, by dsimp only; omega, by dsimp only; omega, by dsimp only; omega⟩, s.b * r.e + s.c * r.d + s.d * r.c + s.e * r.b + 67108864 * (s.c * r.e + s.d * r.d + s.e * r.c) + 4503599627370496 * (s.d * r.e + s.e * r.d) + 302231454903657293676544 * (s.e * r.e), ?_⟩
  simp only [v5, p1305]
  grind
theorem addS_val {h n : L5} (hh : Nrm h) (hn : Lim5 67108864 n) : Lim5 134217733 (addS h n) ∧ v5 (addS h n) = v5 h + v5 n := by
  obtain ⟨ha, hb, hc, hd, he⟩ := hh
  obtain ⟨na, nb, nc, nd, ne⟩ := hn
  have e : addS h n = ⟨h.a + n.a, h.b + n.b, h.c + n.c, h.d + n.d, h.e + n.e⟩ := by
    unfold addS
    rw [w64_of (n := h.a + n.a) (by omega) (by omega), w64_of (n := h.b + n.b) (by omega) (by omega), w64_of (n := h.c + n.c) (by omega) (by omega), w64_of (n := h.d + n.d) (by omega) (by omega), w64_of (n := h.e + n.e) (by omega) (by omega)]
  rw [e]
  refine ⟨⟨by dsimp only; omega, by dsimp only; omega, by dsimp only; omega, by dsimp only; omega, by dsimp only; omega⟩, ?_⟩
  simp only [v5]
  omega
theorem pstep_val {h n r : L5} (hh : Nrm h) (hn : Lim5 67108864 n) (hr : Lim5 67108864 r) : Nrm (pstepS h n r) ∧ v5 (pstepS h n r) % p1305 = (v5 h + v5 n) * v5 r % p1305 := by
  obtain ⟨k1, k2⟩ := addS_val hh hn
  obtain ⟨m1, q, m2⟩ := mulS_val k1 hr
  obtain ⟨c1, q', c2⟩ := carryS_val m1
  refine ⟨c1, ?_⟩
  show v5 (carryS (mulS (addS h n) r)) % p1305 = _
  rw [c2, m2, k2, Int.sub_mul_emod_self_right, Int.sub_mul_emod_self_right]
set_option maxRecDepth 100000
theorem carry1_id {h : L5} (k : Lim5 67108864 h) : carry1 h = h := by
  have k' : Lim5 1152921504606846976 h := ⟨by have := k.a; omega, by have := k.b; omega, by have := k.c; omega, by have := k.d; omega, by have := k.e; omega⟩
  rw [carry1_eq k']
  obtain ⟨ka, kb, kc, kd, ke⟩ := k
  obtain ⟨a, b, c, d, e⟩ := h
  simp only at ka kb kc kd ke ⊢
  have h1 : a / 67108864 = 0 := by omega
  have h2 : b / 67108864 = 0 := by omega
  have h3 : c / 67108864 = 0 := by omega
  have h4 : d / 67108864 = 0 := by omega
  have h5 : e / 67108864 = 0 := by omega
  simp only [h1, h2, h3, h4, h5, Int.add_zero, Int.mul_zero]
  congr 1 <;> omega
theorem carryS_nrm {h : L5} (n : Nrm h) : Lim5 67108864 (carryS h) ∧ ∃ q, v5 (carryS h) = v5 h - q * p1305 := by
  obtain ⟨ka, kb, kc, kd, ke⟩ := n
  have k' : Lim5 1152921504606846976 h := ⟨by omega, by omega, by omega, by omega, by omega⟩
  obtain ⟨q, q1, q2, q3, q4, b1, b2, c1, c2, d1, d2, e1, e2⟩ := carry1_val k'
  have e := carry1_eq k'
  have ha : (carry1 h).a < 67108864 := by
    rw [e]
    dsimp only
    generalize hx : h.a / 67108864 = x
    generalize hy : (h.b + x) / 67108864 = y
    generalize hz : (h.c + y) / 67108864 = z
    generalize hw : (h.d + z) / 67108864 = w
    generalize hq : (h.e + w) / 67108864 = r
    omega
  have l : Lim5 67108864 (carry1 h) := ⟨⟨by rw [q4]; omega, ha⟩, ⟨b1, b2⟩, ⟨c1, c2⟩, ⟨d1, d2⟩, ⟨e1, e2⟩⟩
  have hS : carryS h = carry1 h := carry1_id l
  rw [hS]
  exact ⟨l, q, q3⟩
theorem sr_eq (x : Int) (k : Nat) : sr x k = x / 2 ^ k := fdiv_pow x k
theorem m26_eq {n : Int} (h0 : 0 ≤ n) (h1 : n < 18446744073709551616) : m26 n = n % 67108864 := mk26_eq h0 h1
theorem or_sh {x y : Int} {k m : Nat} (hk : k + m = 64) (hx : 0 ≤ x ∧ x < 2 ^ k) (hy : 0 ≤ y) : bw .or .u64 x (IntKind.u64.wrap (y * 2 ^ k)) = x + y * 2 ^ k % 18446744073709551616 := by
  obtain ⟨a, rfl⟩ : ∃ n : Nat, x = n := ⟨x.toNat, by omega⟩
  obtain ⟨b, rfl⟩ : ∃ n : Nat, y = n := ⟨y.toNat, by omega⟩
  have h1 : ((2 : Int) ^ k) = ((2 ^ k : Nat) : Int) := by rw [Int.natCast_pow]; rfl
  rw [h1] at hx ⊢
  have h2 : IntKind.u64.wrap ((b : Int) * ((2 ^ k : Nat) : Int)) = ((b * 2 ^ k % 2 ^ 64 : Nat) : Int) := by
    rw [← h1]
    exact shl64_nat b k
  rw [h2, or_disj k m hk (by omega)]
  have h3 : (2 : Nat) ^ 64 = 18446744073709551616 := by decide
  rw [h3]
  generalize hp : b * 2 ^ k = z
  have : (b : Int) * ((2 ^ k : Nat) : Int) = (z : Int) := by rw [← hp, Int.natCast_mul]
  rw [this]
  omega
theorem loW_eq {x y z : Int} (hx : 0 ≤ x ∧ x < 67108864) (hy : 0 ≤ y ∧ y < 67108864) (hz : 0 ≤ z ∧ z < 67108864) : loW x y z = x + 67108864 * y + 4503599627370496 * (z % 4096) := by
  unfold loW
  rw [or_sh (k := 26) (m := 38) rfl (by constructor; omega; omega) hy.1, or_sh (k := 52) (m := 12) rfl (by constructor <;> omega) hz.1]
  omega
theorem hiW_eq {c d e : Int} (hc : 0 ≤ c ∧ c < 67108864) (hd : 0 ≤ d ∧ d < 67108864) (he : 0 ≤ e ∧ e < 67108864) : hiW c d e = c / 4096 + 16384 * d + 1099511627776 * (e % 16777216) := by
  unfold hiW
  rw [sr_eq, or_sh (k := 14) (m := 50) rfl (by constructor <;> omega) hd.1, or_sh (k := 40) (m := 24) rfl (by constructor <;> omega) he.1]
  omega
theorem whole_val {w : L5} (l : Lim5 67108864 w) : ∃ t, wholeLo w + 18446744073709551616 * wholeHi w = v5 w % p1305 - t * 340282366920938463463374607431768211456 ∧ 0 ≤ wholeLo w ∧ wholeLo w < 18446744073709551616 ∧ 0 ≤ wholeHi w ∧ wholeHi w < 18446744073709551616 := by
  obtain ⟨a, b, c, d, e⟩ := w
  obtain ⟨ka, kb, kc, kd, ke⟩ := l
  simp only at ka kb kc kd ke
  have g0' : wg0 ⟨a, b, c, d, e⟩ = a + 5 := by
    show w64 (w64 (a + 5) + 0) = _
    rw [w64_of (n := a + 5) (by omega) (by omega), w64_of (by omega) (by omega)]; omega
  have s0 : sr (wg0 ⟨a, b, c, d, e⟩) 26 = (a + 5) / 67108864 := by rw [g0', sr_eq]; rfl
  have g1' : wg1 ⟨a, b, c, d, e⟩ = b + (a + 5) / 67108864 := by
    show w64 (b + sr (wg0 ⟨a, b, c, d, e⟩) 26) = _
    rw [s0, w64_of (by omega) (by omega)]
  generalize hx : (a + 5) / 67108864 = x at *
  have s1 : sr (wg1 ⟨a, b, c, d, e⟩) 26 = (b + x) / 67108864 := by rw [g1', sr_eq]; rfl
  have g2' : wg2 ⟨a, b, c, d, e⟩ = c + (b + x) / 67108864 := by
    show w64 (c + sr (wg1 ⟨a, b, c, d, e⟩) 26) = _
    rw [s1, w64_of (by omega) (by omega)]
  generalize hy : (b + x) / 67108864 = y at *
  have s2 : sr (wg2 ⟨a, b, c, d, e⟩) 26 = (c + y) / 67108864 := by rw [g2', sr_eq]; rfl
  have g3' : wg3 ⟨a, b, c, d, e⟩ = d + (c + y) / 67108864 := by
    show w64 (d + sr (wg2 ⟨a, b, c, d, e⟩) 26) = _
    rw [s2, w64_of (by omega) (by omega)]
  generalize hz : (c + y) / 67108864 = z at *
  have s3 : sr (wg3 ⟨a, b, c, d, e⟩) 26 = (d + z) / 67108864 := by rw [g3', sr_eq]; rfl
  have g4' : wg4 ⟨a, b, c, d, e⟩ = e + (d + z) / 67108864 := by
    show w64 (e + sr (wg3 ⟨a, b, c, d, e⟩) 26) = _
    rw [s3, w64_of (by omega) (by omega)]
  generalize hu : (d + z) / 67108864 = u at *
  have s4 : sr (wg4 ⟨a, b, c, d, e⟩) 26 = (e + u) / 67108864 := by rw [g4', sr_eq]; rfl
  generalize hq : (e + u) / 67108864 = q at *
  have n0 := m26_eq (n := a + 5) (by omega) (by omega)
  have n1 := m26_eq (n := b + x) (by omega) (by omega)
  have n2 := m26_eq (n := c + y) (by omega) (by omega)
  have n3 := m26_eq (n := d + z) (by omega) (by omega)
  have n4 := m26_eq (n := e + u) (by omega) (by omega)
  unfold wholeLo wholeHi wholeC
  rw [s4, g0', g1', g2', g3', g4', n0, n1, n2, n3, n4]
  have q01 : q = 0 ∨ q = 1 := by omega
  simp only [v5]
  rcases q01 with rfl | rfl
  · rw [show decide ((0 : Int) > 0) = false from rfl, cond_false, cond_false, loW_eq ka kb kc, hiW_eq kc kd ke]
    have hv : (a + 67108864 * b + 4503599627370496 * c + 302231454903657293676544 * d + 20282409603651670423947251286016 * e) % p1305 = a + 67108864 * b + 4503599627370496 * c + 302231454903657293676544 * d + 20282409603651670423947251286016 * e :=
      Int.emod_eq_of_lt (by omega) (by unfold p1305; omega)
    rw [hv]
    exact ⟨e / 16777216, by omega, by omega, by omega, by omega, by omega⟩
  · rw [show decide ((1 : Int) > 0) = true from rfl, cond_true, cond_true, loW_eq (by omega) (by omega) (by omega), hiW_eq (by omega) (by omega) (by omega)]
    have hv : (a + 67108864 * b + 4503599627370496 * c + 302231454903657293676544 * d + 20282409603651670423947251286016 * e) % p1305 = a + 67108864 * b + 4503599627370496 * c + 302231454903657293676544 * d + 20282409603651670423947251286016 * e - p1305 := by
      have e1 : a + 67108864 * b + 4503599627370496 * c + 302231454903657293676544 * d + 20282409603651670423947251286016 * e = (a + 67108864 * b + 4503599627370496 * c + 302231454903657293676544 * d + 20282409603651670423947251286016 * e - p1305) + p1305 := by omega
      rw [e1, Int.add_emod_right, Int.emod_eq_of_lt (by unfold p1305; omega) (by unfold p1305; omega)]
      omega
    rw [hv]
    unfold p1305
    exact ⟨(e + u) % 67108864 / 16777216, by omega, by omega, by omega, by omega, by omega⟩
theorem leB_mod7 : ∀ (k n : Nat), leB (n % 256 ^ k) k = leB n k
  | 0, _ => rfl
  | k + 1, n => by
    rw [Nat.pow_succ, Nat.mul_comm, Nat.mod_mul]
    simp only [leB]
    have e1 : (n % 256 + 256 * (n / 256 % 256 ^ k)) % 256 = n % 256 := by omega
    have e2 : (n % 256 + 256 * (n / 256 % 256 ^ k)) / 256 = n / 256 % 256 ^ k := by omega
    rw [e1, e2, leB_mod7 k]
theorem lowN_eq : ∀ (n : Nat) {x : Int}, 0 ≤ x → lowN n x = leB x.toNat n
  | 0, _, _ => rfl
  | n + 1, x, h => by
    have e1 : w8 x = x % 256 := by
      simp only [w8, IntKind.wrap, IntKind.bits, IntKind.signed, Bool.false_and, Bool.false_eq_true, if_false]
      have e : ((2 : Int) ^ 8) = 256 := by decide
      rw [e]
    have e2 : sh8 x = x / 256 := by
      have := fdiv_pow x 8
      simpa [sh8] using this
    simp only [lowN, leB]
    rw [e1, e2, lowN_eq n (by omega)]
    have e3 : (x / 256).toNat = x.toNat / 256 := by omega
    rw [e3]
    congr 1
    omega
theorem g8_val {l : List Int} (h : Bytes l) (hl : l.length = 8) : g8 l 0 0 = vO l ∧ 0 ≤ vO l ∧ vO l < 18446744073709551616 := by
  obtain ⟨a, b, c, d, e, f, g, i, r, rfl, hr⟩ := eight' (xs := l) (by omega)
  have hr0 : r = [] := List.eq_nil_of_length_eq_zero (by omega)
  subst hr0
  simp only [List.append_nil] at h ⊢
  have q : ∀ x ∈ [a, b, c, d, e, f, g, i], ∃ n : Nat, n < 256 ∧ x = (n : Int) := fun x hx => ⟨x.toNat, by have := h x hx; omega, by have := h x hx; omega⟩
  obtain ⟨a, ha, rfl⟩ := q a (by simp)
  obtain ⟨b, hb, rfl⟩ := q b (by simp)
  obtain ⟨c, hc, rfl⟩ := q c (by simp)
  obtain ⟨d, hd, rfl⟩ := q d (by simp)
  obtain ⟨e, he, rfl⟩ := q e (by simp)
  obtain ⟨f, hf, rfl⟩ := q f (by simp)
  obtain ⟨g, hg, rfl⟩ := q g (by simp)
  obtain ⟨i, hi, rfl⟩ := q i (by simp)
  have e1 : g8 [(a : Int), b, c, d, e, f, g, i] 0 0 = wordL ((a : Int) :: (b : Int) :: (c : Int) :: (d : Int) :: (e : Int) :: (f : Int) :: (g : Int) :: (i : Int) :: []) := rfl
  rw [e1, wordL_nat ha hb hc hd he hf hg hi]
  simp only [vO]
  omega
theorem vO_split {l : List Int} (h : Bytes l) (hl : l.length = 16) : Bytes (l.take 8) ∧ (l.take 8).length = 8 ∧ Bytes ((l.drop 8).take 8) ∧ ((l.drop 8).take 8).length = 8 ∧ vO l = vO (l.take 8) + 18446744073709551616 * vO ((l.drop 8).take 8) := by
  have e : (l.drop 8).take 8 = l.drop 8 := List.take_of_length_le (by simp [hl])
  refine ⟨fun x hx => h x (List.mem_of_mem_take hx), by simp [hl], fun x hx => h x (List.mem_of_mem_drop (List.mem_of_mem_take hx)), by simp [hl], ?_⟩
  have := vO_append (l.take 8) (l.drop 8)
  rw [List.take_append_drop] at this
  rw [e, this]
  have h8 : (l.take 8).length = 8 := by simp [hl]
  rw [h8]
  rfl
theorem tag_val {h : L5} {s : List Int} (n : Nrm h) (hs : Bytes s) (ls : s.length = 16) : tagS h s = leB (v5 h % p1305 + vO s).toNat 16 := by
  obtain ⟨lw, q, hq⟩ := carryS_nrm n
  obtain ⟨t, ht, l0, l1, h0, h1⟩ := whole_val lw
  have hm : v5 (carryS h) % p1305 = v5 h % p1305 := by rw [hq, Int.sub_mul_emod_self_right]
  rw [hm] at ht
  obtain ⟨b1, b2, b3, b4, b5⟩ := vO_split hs ls
  obtain ⟨e1, e2, e3⟩ := g8_val b1 b2
  obtain ⟨f1, f2, f3⟩ := g8_val b3 b4
  have hV0 : 0 ≤ v5 h % p1305 := Int.emod_nonneg _ (by decide)
  generalize v5 h % p1305 = V at *
  unfold tagS tagHi tagLo
  rw [e1, f1, b5]
  generalize wholeLo (carryS h) = lo at *
  generalize wholeHi (carryS h) = hi at *
  generalize vO (s.take 8) = A at *
  generalize vO ((s.drop 8).take 8) = B at *
  have key : ∀ (lo' hi' : Int), 0 ≤ lo' ∧ lo' < 18446744073709551616 → 0 ≤ hi' → (∃ r : Int, lo' + 18446744073709551616 * hi' = V + (A + 18446744073709551616 * B) - r * 340282366920938463463374607431768211456) → lowN 8 lo' ++ lowN 8 hi' = leB (V + (A + 18446744073709551616 * B)).toNat 16 := by
    intro lo' hi' g1 g2 ⟨r, g3⟩
    rw [lowN_eq 8 g1.1, lowN_eq 8 g2]
    have a1 := leB_append (lo' + 18446744073709551616 * hi').toNat 8 8
    have p8 : (256 : Nat) ^ 8 = 18446744073709551616 := by decide
    have p16 : (256 : Nat) ^ 16 = 340282366920938463463374607431768211456 := by decide
    rw [← leB_mod7 8 (lo' + 18446744073709551616 * hi').toNat, p8] at a1
    have c1 : (lo' + 18446744073709551616 * hi').toNat % 18446744073709551616 = lo'.toNat := by omega
    have c2 : (lo' + 18446744073709551616 * hi').toNat / 18446744073709551616 = hi'.toNat := by omega
    rw [c1, c2] at a1
    rw [← a1, ← leB_mod7 16 (V + (A + 18446744073709551616 * B)).toNat, ← leB_mod7 16 (lo' + 18446744073709551616 * hi').toNat, p16]
    congr 1
    omega
  rw [w64_eq (lo + A)]
  by_cases hlt : (lo + A) % 18446744073709551616 < lo
  · rw [decide_eq_true hlt, cond_true, w64_eq (hi + 1), w64_eq]
    exact key _ _ (by omega) (by omega) ⟨t + ((hi + 1) % 18446744073709551616 + B) / 18446744073709551616 + (hi + 1) / 18446744073709551616, by omega⟩
  · rw [decide_eq_false hlt, cond_false, w64_eq]
    exact key _ _ (by omega) (by omega) ⟨t + (hi + B) / 18446744073709551616, by omega⟩
theorem of_val7 {xs : List Int} (h : Bytes xs) (hl : xs.length = 16) {t : Int} (ht : 0 ≤ t ∧ t ≤ 1) : Lim5 67108864 (toL5 (ofP xs t)) ∧ v5 (toL5 (ofP xs t)) = vO xs + t * 340282366920938463463374607431768211456 := by
  obtain ⟨b1, b2, b3, b4, b5⟩ := vO_split h hl
  obtain ⟨e1, e2, e3⟩ := g8_val b1 b2
  obtain ⟨f1, f2, f3⟩ := g8_val b3 b4
  have e : toL5 (ofP xs t) = ⟨m26 (g8 (xs.take 8) 0 0), m26 (sr (g8 (xs.take 8) 0 0) 26), m26 (bw .or .u64 (sr (g8 (xs.take 8) 0 0) 52) (w64 (g8 ((xs.drop 8).take 8) 0 0 * 2 ^ 12))), m26 (sr (g8 ((xs.drop 8).take 8) 0 0) 14), bw .or .u64 (sr (g8 ((xs.drop 8).take 8) 0 0) 40) (w64 (t * 2 ^ 24))⟩ := rfl
  rw [e, e1, f1, b5]
  generalize vO (xs.take 8) = lo at *
  generalize vO ((xs.drop 8).take 8) = hi at *
  have o1 : bw .or .u64 (sr lo 52) (w64 (hi * 2 ^ 12)) = lo / 4503599627370496 + hi * 4096 % 18446744073709551616 := by
    have := or_sh (x := sr lo 52) (y := hi) (k := 12) (m := 52) rfl (by rw [sr_eq]; constructor <;> omega) f2
    rw [sr_eq] at this ⊢
    exact this
  have o2 : bw .or .u64 (sr hi 40) (w64 (t * 2 ^ 24)) = hi / 1099511627776 + t * 16777216 % 18446744073709551616 := by
    have := or_sh (x := sr hi 40) (y := t) (k := 24) (m := 40) rfl (by rw [sr_eq]; constructor <;> omega) ht.1
    rw [sr_eq] at this ⊢
    exact this
  rw [o1, o2, sr_eq, sr_eq, m26_eq (n := lo) (by omega) (by omega), m26_eq (n := lo / 2 ^ 26) (by omega) (by omega), m26_eq (n := lo / 4503599627370496 + hi * 4096 % 18446744073709551616) (by omega) (by omega), m26_eq (n := hi / 2 ^ 14) (by omega) (by omega)]
  refine ⟨⟨by dsimp only; omega, by dsimp only; omega, by dsimp only; omega, by dsimp only; omega, by dsimp only; omega⟩, ?_⟩
  simp only [v5]
  omega
theorem and252 : ∀ x : Nat, x < 256 → x &&& 252 = x / 4 * 4 := by decide
theorem clampI_eq {k : List Int} (h : Bytes k) : clampI k = clampR k := by
  have q := fun i => h.g0 i
  have e15 : ∀ {x : Int}, 0 ≤ x ∧ x < 256 → b15 x = c16 x := fun {x} hx => by
    obtain ⟨n, rfl⟩ : ∃ n : Nat, x = n := ⟨x.toNat, by omega⟩
    have h1 := bw_nat .and .u8 rfl n 15 (by simp only [IntKind.bits]; omega) (by decide)
    have e : n &&& 15 = n % 16 := and_mask n 4
    simp only [e] at h1
    rw [(c16_rng hx).1]
    exact h1.trans (by omega)
  have e252 : ∀ {x : Int}, 0 ≤ x ∧ x < 256 → b252 x = c4 x := fun {x} hx => by
    obtain ⟨n, rfl⟩ : ∃ n : Nat, x = n := ⟨x.toNat, by omega⟩
    have h1 := bw_nat .and .u8 rfl n 252 (by simp only [IntKind.bits]; omega) (by decide)
    simp only [and252 n (by omega)] at h1
    rw [(c4_rng hx).1]
    exact h1.trans (by omega)
  unfold clampI clampR
  rw [e15 (q 3), e15 (q 7), e15 (q 11), e15 (q 15), e252 (q 4), e252 (q 8), e252 (q 12)]
def IsH (h : List Int) (A : Int) : Prop := ∃ x : L5, h = x.list ∧ Nrm x ∧ v5 x % p1305 = A
theorem isH_step {r m h : List Int} {A : Int} {rl : L5} (hr : r = rl.list) (lr : Lim5 67108864 rl) (hm : Bytes m) (hh : IsH h A) (j : Nat) : IsH (stepF ofP stepL5 r m h j) ((A + blkV m j) * v5 rl % p1305) := by
  obtain ⟨x, rfl, nx, rfl⟩ := hh
  subst hr
  have hb := blk16_bytes hm j
  have hl : (blk16 m j).length = 16 := tab_len ..
  obtain ⟨o1, o2⟩ := of_val7 hb hl (t := 1) (by omega)
  obtain ⟨k1, k2⟩ := pstep_val nx o1 lr
  refine ⟨pstepS x (toL5 (ofP (blk16 m j) 1)) rl, rfl, k1, ?_⟩
  have e : ∀ a n r : Int, (a + n) * r % p1305 = (a % p1305 + n) * r % p1305 := fun a n r => by
    rw [Int.mul_emod (a % p1305 + n), Int.emod_add_emod, ← Int.mul_emod]
  rw [k2, o2, blkV, e]
  simp only [Int.one_mul]
theorem mac_law {k m : List Int} (hk : Bytes k) (hm : Bytes m) : macI clampI ofP stepL5 tagL5 k m = macN k m := by
  have hc : Bytes (clampR k) := clampR_bytes hk
  have e1 : fixL 16 (clampI k) = clampR k := by rw [clampI_eq hk, fixL_eq (show (clampR k).length = 16 from rfl)]
  obtain ⟨o1, o2⟩ := of_val7 hc (show (clampR k).length = 16 from rfl) (t := 0) (by omega)
  unfold macI
  rw [e1]
  have hr : fixL 5 (ofP (clampR k) 0) = (toL5 (ofP (clampR k) 0)).list := rfl
  have s0 : IsH (List.replicate 5 0) 0 := ⟨⟨0,0,0,0,0⟩, rfl, ⟨by decide, by decide, by decide, by decide, by decide⟩, by decide⟩
  have s1 := isH_step hr o1 hm s0 0
  have s2 := isH_step hr o1 hm s1 1
  have s3 := isH_step hr o1 hm s2 2
  have s4 := isH_step hr o1 hm s3 3
  have s5 := isH_step hr o1 hm s4 4
  have s6 := isH_step hr o1 hm s5 5
  have s7 := isH_step hr o1 hm s6 6
  have s8 := isH_step hr o1 hm s7 7
  simp only [Int.zero_mul, Int.add_zero] at o2
  rw [o2] at s8
  obtain ⟨x, h1, h2, h3⟩ := s8
  dsimp only
  rw [h1]
  have ht : tagL5 x.list (blk16 k 1) = tagS x (blk16 k 1) := rfl
  rw [ht, tag_val h2 (blk16_bytes hk 1) (tab_len ..), h3]
  rfl
set_option maxRecDepth 100000
section
variable {P : Program} {f : FuncId} {Γ : Env} {af : AFn}
theorem xorV_of (F : Fn P f Γ af) {X : F3} {cp : Option Nat} {o : OrcP} (ho : o = fun nid args h => match args with
    | [.agg [.ints .u8 32 k], .int .u32 1, .agg [.ints .u8 12 n], y] => withBs h y fun c => if c.length = 49 then some (.slice nid 0 0 49 0 cp, some (.segs [.ints .u8 49 (fixL 49 (X k n c))])) else none
    | _ => none) (hX : ∀ k n c, (X k n c).length = 49)
    (h : ∀ nid (f g c : Nat → Int), evFn Γ af [.agg [.ints .u8 32 (tab 32 f)], .int .u32 1, .agg [.ints .u8 12 (tab 12 g)], slB 0 49] ⟨16, [roC 0 (.segs [.ints .u8 49 (tab 49 c)])]⟩ (kOut (some (.ints .u8)) nid) = some (.slice nid 0 0 49 0 cp, encB nid (some (.segs [.ints .u8 49 (X (tab 32 f) (tab 12 g) (tab 49 c))])))) : PureOk P f o := by
  subst ho
  refine F.lit [.plain, .plain, .plain, .sl (.ints .u8)] (some (.ints .u8)) fun nid args hp r ha hr => ?_
  split at hr <;> try (cases hr; done)
  rename_i k n y
  obtain ⟨c, hc', hl', hr2⟩ := withBs_eq hr
  split at hr2 <;> try (cases hr2; done)
  rename_i h2
  cases hr2
  obtain ⟨⟨⟨q1, _⟩, _⟩, _, ⟨⟨q2, _⟩, _⟩, _⟩ := ha.ok
  refine ⟨_, _, by simp only [viewArgs, contI_isSl hc', if_true, viewS_ints hc', Option.bind_some, Option.map_some]; rfl, by simp, ?_⟩
  rw [h2]
  obtain ⟨c, rfl⟩ := tab_of h2
  obtain ⟨k, rfl⟩ := tab_of q1
  obtain ⟨n, rfl⟩ := tab_of q2
  rw [fixL_eq (hX _ _ _)]
  exact h nid k n c
theorem aTagV_of (F : Fn P f Γ af) {T : F4} (hT : ∀ k n a c, (T k n a c).length = 16)
    (h : ∀ nid (f g a c : Nat → Int), evFn Γ af [.agg [.ints .u8 32 (tab 32 f)], .agg [.ints .u8 12 (tab 12 g)], slB 0 40, slB 1 49] (adH (tab 40 a) (tab 49 c) 49) (kOut none nid) = some (.agg [.ints .u8 16 (T (tab 32 f) (tab 12 g) (tab 40 a) (tab 49 c))], ⟨0, []⟩)) : PureOk P f (aTagV T) := by
  refine F.lit [.plain, .plain, .sl (.ints .u8), .sl (.ints .u8)] none fun nid args hp r ha hr => ?_
  unfold aTagV at hr
  split at hr <;> try (cases hr; done)
  rename_i k n x y
  obtain ⟨a, hc, hl, hr1⟩ := withBs_eq hr
  obtain ⟨c, hc', hl', hr2⟩ := withBs_eq hr1
  split at hr2 <;> try (cases hr2; done)
  rename_i hn
  obtain ⟨h1, h2⟩ := hn
  cases hr2
  obtain ⟨⟨⟨q1, _⟩, _⟩, ⟨⟨q2, _⟩, _⟩, _⟩ := ha.ok
  refine ⟨_, _, by simp only [viewArgs, contI_isSl hc, contI_isSl hc', if_true, viewS_ints hc, viewS_ints hc', Option.bind_some, Option.map_some]; rfl, by simp, ?_⟩
  rw [h1, h2]
  obtain ⟨a, rfl⟩ := tab_of h1
  obtain ⟨c, rfl⟩ := tab_of h2
  obtain ⟨k, rfl⟩ := tab_of q1
  obtain ⟨n, rfl⟩ := tab_of q2
  rw [fixL_eq (hT _ _ _ _)]
  exact h nid k n a c
theorem aSealV_of (F : Fn P f Γ af) {S : F4} (hS : ∀ k n a c, (S k n a c).length = 65)
    (h : ∀ nid (f g a c : Nat → Int), evFn Γ af [.agg [.ints .u8 32 (tab 32 f)], .agg [.ints .u8 12 (tab 12 g)], slB 0 40, slB 1 49] (adH (tab 40 a) (tab 49 c) 49) (kOut (some (.ints .u8)) nid) = some (.slice nid 0 0 65 0 none, encB nid (some (.segs [.ints .u8 65 (S (tab 32 f) (tab 12 g) (tab 40 a) (tab 49 c))])))) : PureOk P f (aSealV S) := by
  refine F.lit [.plain, .plain, .sl (.ints .u8), .sl (.ints .u8)] (some (.ints .u8)) fun nid args hp r ha hr => ?_
  unfold aSealV at hr
  split at hr <;> try (cases hr; done)
  rename_i k n x y
  obtain ⟨a, hc, hl, hr1⟩ := withBs_eq hr
  obtain ⟨c, hc', hl', hr2⟩ := withBs_eq hr1
  split at hr2 <;> try (cases hr2; done)
  rename_i hn
  obtain ⟨h1, h2⟩ := hn
  cases hr2
  obtain ⟨⟨⟨q1, _⟩, _⟩, ⟨⟨q2, _⟩, _⟩, _⟩ := ha.ok
  refine ⟨_, _, by simp only [viewArgs, contI_isSl hc, contI_isSl hc', if_true, viewS_ints hc, viewS_ints hc', Option.bind_some, Option.map_some]; rfl, by simp, ?_⟩
  rw [h1, h2, fixL_eq (hS _ _ _ _)]
  obtain ⟨a, rfl⟩ := tab_of h1
  obtain ⟨c, rfl⟩ := tab_of h2
  obtain ⟨k, rfl⟩ := tab_of q1
  obtain ⟨n, rfl⟩ := tab_of q2
  exact h nid k n a c
end
theorem xorX_len (B : Blk3) (k n c : List Int) : (xorX B k n c).length = 49 := tab_len ..
theorem tagF_len (B : Blk3) (M : M2) (k n a c : List Int) : (tagF B M k n a c).length = 16 := fixL_len ..
theorem serS_bytes : ∀ xs ys : List Int, Bytes (serS xs ys)
  | [], _ => fun x hx => by simp [serS] at hx
  | _ :: _, [] => fun x hx => by simp [serS] at hx
  | x :: xs, y :: ys => fun z hz => by
    simp only [serS, List.mem_append] at hz
    rcases hz with hz | hz
    · have : ∀ n : Int, 0 ≤ w8 n ∧ w8 n < 256 := fun n => by
        simp only [w8, IntKind.wrap, IntKind.bits, IntKind.signed, Bool.false_and, Bool.false_eq_true, if_false]
        have e : ((2 : Int) ^ 8) = 256 := by decide
        rw [e]
        omega
      simp only [b4, List.mem_cons, List.not_mem_nil, or_false] at hz
      rcases hz with rfl | rfl | rfl | rfl <;> exact this _
    · exact serS_bytes xs ys z hz
theorem msgL_bytes {a c : List Int} (ha : Bytes a) (hc : Bytes c) : Bytes (msgL a c) := fun x hx => by
  simp only [msgL, List.mem_append] at hx
  rcases hx with ((((hx | hx) | hx) | hx) | hx) | hx
  · exact tab_bytes (fun i => ha.g0 i) 40 0 x hx
  · obtain ⟨_, rfl⟩ := List.mem_replicate.1 hx; omega
  · exact tab_bytes (fun i => hc.g0 i) 49 0 x hx
  · obtain ⟨_, rfl⟩ := List.mem_replicate.1 hx; omega
  · simp only [List.mem_cons, List.not_mem_nil, or_false] at hx; omega
  · simp only [List.mem_cons, List.not_mem_nil, or_false] at hx; omega
theorem blk32_bytes {l : List Int} (h : Bytes l) : Bytes (blk32 l) := tab_bytes (fun i => h.g0 i) 32 0
def tagN : F4 := tagF blockL macN
def tagP : F4 := tagF blockL (macI clampI ofP stepL5 tagL5)
theorem tag_law {k n a c : List Int} (ha : Bytes a) (hc : Bytes c) : tagP k n a c = tagN k n a c := by
  unfold tagP tagN tagF
  have hB : Bytes (fixL 64 (blockL k 0 n)) := by rw [fixL_eq (blockL_len ..)]; exact serS_bytes _ _
  rw [mac_law (blk32_bytes hB) (msgL_bytes ha hc)]
def AgS (X : F3) (T : F4) : Env := envAdd id_chacha_Xor (.pure (xorV X)) (envAdd id_aead_Tag (.pure (aTagV T)) G10)
theorem asealS_run (X : F3) (T : F4) (nid : Nat) (f g a c : Nat → Int) : evFn (AgS X T) af_aead_Seal [.agg [.ints .u8 32 (tab 32 f)], .agg [.ints .u8 12 (tab 12 g)], slB 0 40, slB 1 49] (adH (tab 40 a) (tab 49 c) 49) (kOut (some (.ints .u8)) nid) =
    some (.slice nid 0 0 65 0 none, encB nid (some (.segs [.ints .u8 65 (sealF X T (tab 32 f) (tab 12 g) (tab 40 a) (tab 49 c))]))) := by kernel_rfl
def xorN : F3 := xorX blockL
def sealN : F4 := sealF xorN tagN
section
variable {P : Program} {f : FuncId}
theorem xorI_pure (F : Fn P f (xorE blockL) af_chacha_Xor) : PureOk P f (xorV xorN) := xorV_of F (X := xorN) (cp := some 49) rfl (xorX_len _) fun nid f g c => xor_run blockL nid f g c
theorem xorR_pure (F : Fn P f (xorRE blockL) af_hollowtreeref06_Xor) : PureOk P f (xorVR xorN) := xorV_of F (X := xorN) (cp := none) rfl (xorX_len _) fun nid f g c => xorR_run blockL nid f g c
theorem tagR_pure (F : Fn P f (RaT blockL macN) af_hollowtreeref08_Tag) : PureOk P f (aTagV tagN) := aTagV_of F (tagF_len _ _) fun nid f g a c => atagR_run blockL macN nid f g a c
theorem tagI_pure (F : Fn P f (Ia6 blockL clampI ofP stepL5 tagL5) af_aead_Tag) : PureOk P f (aTagV tagN) := by
  have h1 : PureOk P f (aTagV tagP) := aTagV_of F (tagF_len _ _) fun nid f g a c => atagI_run blockL clampI ofP stepL5 tagL5 nid f g a c
  refine pure_mono h1 fun nid args hp r hok hr => ?_
  unfold aTagV at hr ⊢
  split at hr <;> try (cases hr; done)
  rename_i k n x y
  obtain ⟨a, hc, hl, hr1⟩ := withBs_eq hr
  obtain ⟨c, hc', hl', hr2⟩ := withBs_eq hr1
  simp only [withBs, hc, hc', Option.bind_some, if_pos hl, if_pos hl']
  rw [tag_law (bytes_rng fun z hz => hok.ints x (.tail _ (.tail _ (.head _))) .u8 a hc z hz) (bytes_rng fun z hz => hok.ints y (.tail _ (.tail _ (.tail _ (.head _)))) .u8 c hc' z hz)]
  exact hr2
theorem sealI_pure (F : Fn P f (AgS xorN tagN) af_aead_Seal) : PureOk P f (aSealV sealN) := aSealV_of F (sealF_len _ _) fun nid f g a c => asealS_run xorN tagN nid f g a c
theorem sealR_pure (F : Fn P f (RaS xorN tagN) af_hollowtreeref08_Seal) : PureOk P f (aSealV sealN) := aSealV_of F (sealF_len _ _) fun nid f g a c => asealR_run xorN tagN nid f g a c
end
set_option maxRecDepth 100000
def orA : List Int → Int → Int
  | [], acc => acc
  | a :: r, acc => orA r (bw .or .u8 acc a)
def Hd0 : Env := envAdd id_octet_Put32 (.pure put32O) G10
def hdrB (k : List Int) (p n : Int) : List Int := k ++ le4 (w64 p) ++ le4 (w64 n)
theorem hdr_run (nid : Nat) (f : Nat → Int) (p n : Int) : evFn Hd0 af_frame_PutHeader [.agg [.ints .u8 32 (tab 32 f), .int .u32 p, .int .u32 n]] ⟨16, []⟩ (kOut (some (.ints .u8)) nid) =
    some (.slice nid 0 0 40 0 none, encB nid (some (.segs [.ints .u8 40 (hdrB (tab 32 f) p n)]))) := by kernel_rfl
def hdrO : OrcP := fun nid args _ => match args with
  | [.agg [.ints .u8 32 k, .int .u32 p, .int .u32 n]] => some (.slice nid 0 0 40 0 none, some (.segs [.ints .u8 40 (hdrB (fixL 32 k) p n)]))
  | _ => none
theorem hdr_pure {P : Program} {f : FuncId} (F : Fn P f Hd0 af_frame_PutHeader) : PureOk P f hdrO := by
  refine F.lit [.plain] (some (.ints .u8)) fun nid args hp r ha hr => ?_
  unfold hdrO at hr
  split at hr <;> try (cases hr; done)
  rename_i k p n
  cases hr
  obtain ⟨⟨⟨hl, _⟩, _⟩, _⟩ := ha.ok
  refine ⟨_, [], by simp only [viewArgs, avIds, avIds.avIdsL, List.append_nil, List.isEmpty_nil, if_true, Option.map_some]; rfl, by simp, ?_⟩
  rw [fixL_eq hl]
  obtain ⟨k, rfl⟩ := tab_of hl
  exact hdr_run nid k p n
set_option maxRecDepth 100000
def rdP (x : Int) : Int := w63 (1 + w63 x)
def rdL (x : Int) (l : List Int) : List Int := (l.drop (0 + (rdP x).toNat)).take (49 - (rdP x).toNat)
def rdS (x : Int) (l : List Int) : ByteArray := strOf ((l.drop (0 + Int.toNat 1)).take ((rdP x).toNat - Int.toNat 1))
def rdOk (l : List Int) : Bool := bif decide (w63 (l.getD 0 0) < 1) then false else bif decide (w63 (l.getD 0 0) > 48) then false else orA (rdL (l.getD 0 0) l) 0 == 0
def rdT (l : List Int) : ByteArray := bif rdOk l then rdS (l.getD 0 0) l else ⟨#[]⟩
def nz12 : List Int := List.replicate 12 0
def cntO : OrcP := fun _ args _ => match args with
  | [.int .u64 0] => some (.agg [.ints .u8 12 nz12], none)
  | _ => none
theorem cnt_pure {P : Program} {f : FuncId} (F : Fn P f X_octet_Put64 af_aead_Count) : PureOk P f cntO := by
  refine F.plain fun nid args hp r ha hr => ?_
  unfold cntO at hr
  split at hr <;> try (cases hr; done)
  cases hr
  exact ⟨rfl, rfl, rfl, by kernel_rfl⟩
abbrev FB4 := List Int → List Int → List Int → List Int → Bool
structure Msg where
  key : List Int
  prev : Int
  num : Int
  body : List Int
def Msg.segs (m : Msg) : List AV := [.ints .u8 32 m.key, .int .u32 m.prev, .int .u32 m.num, .ints .u8 65 m.body]
def opOk (B : FB4) (k : List Int) (m : Msg) : Bool := B k nz12 (hdrB (fixL 32 m.key) m.prev m.num) m.body
def opX (X : F3) (k : List Int) (m : Msg) : List Int := fixL 49 (X k nz12 (m.body.take 49))
def opT (X : F3) (B : FB4) (T : List Int → ByteArray) (k : List Int) (m : Msg) : ByteArray := bif opOk B k m then T (opX X k m) else ⟨#[]⟩
def okT : List Int → Msg → ByteArray := opT xorB (okTag aTagB) rdT
def txtB (s : ByteArray) : List Int := splice (List.set (List.replicate 49 0) 0 (w8 s.size)) 1 ((bytesOf s).take (min s.size 48))
theorem text_run (nid : Nat) (s : ByteArray) : evFn G10 af_ratchet_text [.str s] ⟨16, []⟩ (kOut (some (.ints .u8)) nid) = some (.slice nid 0 0 49 0 (some 49), encB nid (some (.segs [.ints .u8 49 (txtB s)]))) := by kernel_rfl
theorem bytesOf_len (s : ByteArray) : (bytesOf s).length = s.size := by simp [bytesOf]
theorem txtB_len (s : ByteArray) : (txtB s).length = 49 := by
  simp only [txtB, splice, List.length_append, List.length_take, List.length_drop, List.length_set, List.length_replicate, bytesOf_len]
  omega
def textO : OrcP := fun nid args _ => match args with
  | [.str s] => some (.slice nid 0 0 49 0 (some 49), some (.segs [.ints .u8 49 (fixL 49 (txtB s))]))
  | _ => none
theorem text_pure {P : Program} {f : FuncId} (F : Fn P f G10 af_ratchet_text) : PureOk P f textO := by
  refine F.lit [.plain] (some (.ints .u8)) fun nid args hp r ha hr => ?_
  unfold textO at hr
  split at hr <;> try (cases hr; done)
  rename_i s
  cases hr
  refine ⟨_, [], by simp only [viewArgs, avIds, List.isEmpty_nil, if_true, Option.map_some]; rfl, by simp, ?_⟩
  rw [fixL_eq (txtB_len s)]
  exact text_run nid s
set_option maxRecDepth 100000
theorem contR_value {ι : Inj} {h : Heap} {w : World} {v : AV} {x : Value} {e : Nat} {xs : List (List AV)} (R : HRel ι h w) (hx : VR ι v x) (hk : contR e h v = some xs) : ∃ a c, x = .slice a xs.length c ∧ (a = none → c = 0) := by
  unfold contR at hk
  split at hk
  · cases hk; exact ⟨none, 0, hx, fun _ => rfl⟩
  · cases hk
    obtain ⟨a, ha⟩ := (show ∃ a, x = .slice a 0 0 from hx)
    exact ⟨a, 0, ha, fun _ => rfl⟩
  · split at hk <;> try (cases hk; done)
    cases hk
    obtain ⟨a, c, he, _, _, F⟩ := hx.islR
    refine ⟨a, c, he, fun hn => ?_⟩
    rcases F.2 with h0 | ⟨b, off, f, h1, _⟩
    · exact h0
    · rw [hn] at h1; cases h1
  · rename_i id o j len e0 cap
    split at hk <;> try (cases hk; done)
    rename_i e' ys hs
    split at hk <;> try (cases hk; done)
    rename_i he; subst he; cases hk
    obtain ⟨cc, hg⟩ : ∃ cc, h.get id = some cc := by
      cases hg : h.get id with
      | none => simp [slCont, hg] at hs
      | some c => exact ⟨c, rfl⟩
    obtain ⟨rfl, he1, hlen, hr, habs⟩ := slCont_absR R hx hg hs
    obtain ⟨p, a, c, hp, rfl, S⟩ := hx.slice
    refine ⟨a, c, by rw [hlen], fun hn => ?_⟩
    rcases S.addr with h0 | h1
    · exact h0
    · rw [hn] at h1; cases h1
  · cases hk
theorem cloneR_run (Γ : Env) (nid n : Nat) (xs : List (List AV)) : evFn Γ af_slices_Clone_api_Skip [.slice 0 0 0 (n+1) 65 none] ⟨16, [⟨0, true, .rows 65 (n+1) xs⟩]⟩ (kOut (some (.rows 65)) nid) =
    if (0 + (n + 1)) * 68 ≤ 2 ^ 47 then some (.slice nid 0 0 (0 + (n + 1)) 65 none, ⟨0, [⟨nid, false, .rows 65 (0 + (n + 1)) ((xs.drop 0).take (n + 1))⟩]⟩) else none := by kernel_rfl
theorem cloneR_nil (Γ : Env) (nid : Nat) : evFn Γ af_slices_Clone_api_Skip [.nils] ⟨16, []⟩ (kOut (some (.rows 65)) nid) = some (.slice nid 0 0 0 65 none, encB nid (some (.rows 65 0 []))) := by kernel_rfl
theorem cloneR_nne (Γ : Env) (nid : Nat) : evFn Γ af_slices_Clone_api_Skip [.nne] ⟨16, []⟩ (kOut (some (.rows 65)) nid) = some (.slice nid 0 0 0 65 none, encB nid (some (.rows 65 0 []))) := by kernel_rfl
def cloneRO1 : OrcP := fun nid args h => match args with
  | [s] => (contR 65 h s).bind fun xs => if xs.length ≤ 1000 ∧ xs.length ≠ 0 then some (.slice nid 0 0 xs.length 65 none, some (.rows 65 xs.length xs)) else none
  | _ => none
def cloneRO : OrcP := fun nid args h => match args with
  | [s] => (contR 65 h s).bind fun xs => if xs.length ≤ 1000 then some (.slice nid 0 0 xs.length 65 none, some (.rows 65 xs.length xs)) else none
  | _ => none
theorem cloneR_pure1 {P : Program} {f : FuncId} {Γ : Env} (F : Fn P f Γ af_slices_Clone_api_Skip) : PureOk P f cloneRO1 := by
  refine F.lit [.sl (.rows 65)] (some (.rows 65)) fun nid args hp r ha hr => ?_
  unfold cloneRO1 at hr
  split at hr <;> try (cases hr; done)
  rename_i s
  cases hc : contR 65 hp s with
  | none => rw [hc] at hr; cases hr
  | some xs =>
    rw [hc] at hr
    simp only [Option.bind_some] at hr
    split at hr <;> try (cases hr; done)
    rename_i hl
    cases hr
    obtain ⟨n, hn⟩ : ∃ n, xs.length = n + 1 := ⟨xs.length - 1, by omega⟩
    refine ⟨_, _, by simp only [viewArgs, contR_isSl hc, if_true, viewS_rows (by decide) hc, Option.bind_some, Option.map_some]; rfl, by simp, ?_⟩
    rw [hn]
    refine (cloneR_run Γ nid n xs).trans ?_
    rw [if_pos (by omega)]
    simp only [Nat.zero_add, List.drop_zero, encB]
    rw [← hn, List.take_length]
theorem cloneR_pure {P : Program} {f : FuncId} {Γ : Env} (F : Fn P f Γ af_slices_Clone_api_Skip) : PureOk P f cloneRO := by
  intro nid args h v ob ι w vs hk R hn ha
  unfold cloneRO at hk
  split at hk <;> try (cases hk; done)
  rename_i s
  cases hc : contR 65 h s with
  | none => rw [hc] at hk; cases hk
  | some xs =>
    rw [hc] at hk
    simp only [Option.bind_some] at hk
    split at hk <;> try (cases hk; done)
    rename_i hl
    by_cases h0 : xs.length = 0
    · obtain rfl := List.eq_nil_of_length_eq_zero h0
      cases hk
      obtain ⟨x, r, hvs, hx, hr⟩ := ha.uncons
      obtain ⟨a, c, he, hac⟩ := contR_value R hx hc
      have hv1 : ∀ v', VR ι v' x → VRL ι [v'] vs.toList := fun v' hv' => by
        rw [hvs]
        obtain ⟨hr1, _⟩ := hr
        have : r = [] := List.eq_nil_of_length_eq_zero hr1.symm
        subst this
        refine ⟨rfl, fun i u hu => ?_⟩
        cases i with
        | zero => simp at hu; subst hu; exact ⟨x, rfl, hv'⟩
        | succ i => simp at hu
      cases a with
      | none =>
        have := hac rfl
        subst this
        exact @litP_ok P f [.plain] (some (.rows 65)) 16 _ F.ok nid [.nils] h _ _ ι w vs (litP_run F rfl (by simp) (cloneR_nil Γ nid)) R hn (hv1 .nils he)
      | some b => exact @litP_ok P f [.plain] (some (.rows 65)) 16 _ F.ok nid [.nne] h _ _ ι w vs (litP_run F rfl (by simp) (cloneR_nne Γ nid)) R hn (hv1 .nne ⟨b, c, he⟩)
    · refine cloneR_pure1 F nid [s] h v ob ι w vs ?_ R hn ha
      simp only [cloneRO1, hc, Option.bind_some]
      rw [if_pos ⟨hl, h0⟩]
      exact hk
def cloneRC : OrcF := fun args h κ => match args with
  | [s] => withSks h s fun ss => if ss.length ≤ 1000 then κ (.slice h.next 0 0 ss.length 65 none) (h.new (.rows 65 ss.length (ss.map skR))) else none
  | _ => none
def cloneRS : OrcP := fun nid args h => match args with
  | [s] => withSks h s fun ss => if ss.length ≤ 1000 then some (.slice nid 0 0 ss.length 65 none, some (.rows 65 ss.length (ss.map skR))) else none
  | _ => none
theorem cloneRS_pure {P : Program} {f : FuncId} (h : PureOk P f cloneRO) : PureOk P f cloneRS := by
  intro nid args hp v ob ι w vs hk R hn ha
  refine h nid args hp v ob ι w vs ?_ R hn ha
  unfold cloneRS at hk
  split at hk <;> try (cases hk; done)
  obtain ⟨ss, hc, _, hk1⟩ := withSks_eq hk
  split at hk1 <;> try (cases hk1; done)
  rename_i hl
  simp only [cloneRO, hc, Option.bind_some, List.length_map]
  rw [if_pos hl]
  exact hk1
theorem cloneR_full {P : Program} {f : FuncId} (h : PureOk P f cloneRS) : FullOk P f cloneRC := by
  refine pure_full h fun args hp κ => ?_
  unfold cloneRC cloneRS
  split
  · simp only [withSks_map]
    congr 1
    funext ss
    split <;> rfl
  · first
    | rfl
    | (rename_i hx
       split
       · exact (hx _ rfl).elim
       · rfl)
set_option maxRecDepth 100000
def hz32 : List Int := List.replicate 32 0
def noneKO : OrcP := fun _ args _ => match args with
  | [] => some (.agg [.ints .u8 32 hz32], none)
  | _ => none
theorem none_pure {P : Program} {f : FuncId} {Γ : Env} (F : Fn P f Γ af_ratchet_none) : PureOk P f noneKO := by
  refine F.plain fun nid args hp r ha hr => ?_
  unfold noneKO at hr
  split at hr <;> try (cases hr; done)
  cases hr
  exact ⟨rfl, rfl, rfl, by kernel_rfl⟩
def u32w (n : Int) : Int := IntKind.u32.wrap n
set_option maxRecDepth 100000
theorem u_p1 (F : Nat) (C R T : ACode) (L : St → Option Res) (κ : Kont) (p : UP) (j len : Nat) (st : W8) : ev Rs0 (.seq none uHd (.seq none (.block 1 none (.seq none uW0 (.seq none (.seq none uI2 (.block 2 none (.loop F u2Cn C))) R))) T)) (uSt p j len st) (kLoop uCn L κ) =
    bif decide ((len : Int) > 0) then loopK u2Cn (ev Rs0 C) F (uSt2 p j len st 0 (List.replicate 64 0)) (kBlock 2 none (kSeq Rs0 none R (kBlock 1 none (kSeq Rs0 none T (kLoop uCn L κ)))))
    else κ (.exit 0) ⟨uT j len [(29, .slice 16 0 j len 0 none), (30, .int .i64 len), (31, .bool false)], ⟨20, p.cells st⟩⟩ := by kernel_rfl
theorem u_p2 (F : Nat) (C R : ACode) (K : Kont) (p : UP) (j len : Nat) (st : W8) (ws : List Int) : ev Rs0 (.seq none uS0 (.seq none (.seq none uI4 (.block 4 none (.loop F u4Cn C))) R)) (withT 35 (.bool false) (uSt2 p j len st 64 ws)) K =
    loopK u4Cn (ev Rs0 C) F (uSt4 p j len st 0 ws st) (kBlock 4 none (kSeq Rs0 none R K)) := by kernel_rfl
def add8 (s t : W8) : W8 := ⟨w32 (s.a + t.a), w32 (s.b + t.b), w32 (s.c + t.c), w32 (s.d + t.d), w32 (s.e + t.e), w32 (s.f + t.f), w32 (s.g + t.g), w32 (s.h + t.h)⟩
theorem u_p3 (L : St → Option Res) (κ : Kont) (p : UP) (j len : Nat) (st s : W8) (ws : List Int) : ev Rs0 uAd (withT 114 (.bool false) (uSt4 p j len st 64 ws s)) (kBlock 1 none (kSeq Rs0 none uTl (kLoop uCn L κ))) =
    if (0 : Int) ≤ 64 ∧ 64 ≤ ((len : Nat) : Int) then L (uSt p (j + Int.toNat 64) (len - Int.toNat 64) (add8 st s)) else none := by kernel_rfl
def ser4 (x : Int) : List Int := [w8 (x.fdiv (2 ^ 24)), w8 (x.fdiv (2 ^ 16)), w8 (x.fdiv (2 ^ 8)), w8 (x.fdiv (2 ^ 0))]
def ser8 (s : W8) : List Int := ser4 s.a ++ ser4 s.b ++ ser4 s.c ++ ser4 s.d ++ ser4 s.e ++ ser4 s.f ++ ser4 s.g ++ ser4 s.h
def uKf : Kont := kFn [.cell 2 true 32] kV
theorem u_end (p : UP) (j len : Nat) (st : W8) : ev Rs0 uEnd ⟨uT j len [(29, .slice 16 0 j len 0 none), (30, .int .i64 len), (31, .bool false)], ⟨20, p.cells st⟩⟩ uKf = some (key (ser8 st), ⟨0, []⟩) := by kernel_rfl
def wsR (xs : List Int) : Nat → List Int
  | 0 => List.replicate 64 0
  | i + 1 => if i < 16 then (wsR xs i).set i (word4 (g0 xs (4 * i)) (g0 xs (4 * i + 1)) (g0 xs (4 * i + 2)) (g0 xs (4 * i + 3)))
    else (wsR xs i).set i (schedR (g0 (wsR xs i) (i - 15)) (g0 (wsR xs i) (i - 2)) (g0 (wsR xs i) (i - 16)) (g0 (wsR xs i) (i - 7)))
theorem wsR_len (xs : List Int) : ∀ i, (wsR xs i).length = 64
  | 0 => rfl
  | i + 1 => by
    simp only [wsR]
    split <;> rw [List.length_set, wsR_len xs i]
def roundsR (ws : List Int) (s : W8) : Nat → W8
  | 0 => s
  | i + 1 => roundR (roundsR ws s i) (g0 shaK i) (g0 ws i)
theorem g0_drop (xs : List Int) (j k : Nat) : g0 (xs.drop j) k = g0 xs (j + k) := by simp [g0, List.getD_eq_getElem?_getD]
theorem u_loop2 (κ : Kont) (p : UP) (j len : Nat) (st : W8) (h64 : 64 ≤ len) (hb : j + len ≤ p.bs.length) :
    loopK u2Cn (ev Rs0 u2L) 1000 (uSt2 p j len st 0 (List.replicate 64 0)) κ = κ (.exit 2) (withT 35 (.bool false) (uSt2 p j len st 64 (wsR (p.bs.drop j) 64))) := by
  refine loopK_for (fun i => uSt2 p j len st (i : Int) (wsR (p.bs.drop j) i)) 64 _ (fun i hi L => ?_) (fun L => ?_) 1000 (by omega)
  · refine (u_round2 L κ p j len st i _).trans ?_
    have hwl := wsR_len (p.bs.drop j) i
    rw [show (decide ((i : Int) < 64)) = true by simp only [decide_eq_true_eq]; omega, cond_true]
    by_cases h16 : i < 16
    · rw [show (decide ((i : Int) < 16)) = true by simp only [decide_eq_true_eq]; omega, cond_true]
      have e1 : w63 (w63 (4 * (i : Int)) + 1) = ((4 * i + 1 : Nat) : Int) := w4 i 1 h16 (by omega)
      have e2 : w63 (w63 (4 * (i : Int)) + 2) = ((4 * i + 2 : Nat) : Int) := w4 i 2 h16 (by omega)
      have e3 : w63 (w63 (4 * (i : Int)) + 3) = ((4 * i + 3 : Nat) : Int) := w4 i 3 h16 (by omega)
      rw [atO?_eq (4 * i) (w4_0 i h16), atO?_eq (4 * i + 1) e1, atO?_eq (4 * i + 2) e2, atO?_eq (4 * i + 3) e3, set?_eq i rfl (by omega), wS i (by omega), Int.toNat_natCast]
      · simp only [wsR]
        rw [if_pos h16]
        simp only [g0_drop]
      all_goals omega
    · rw [show (decide ((i : Int) < 16)) = false by simp only [decide_eq_false_iff_not]; omega, cond_false]
      have e1 : w63 ((i : Int) - 15) = _ := wSub i 15 (by omega) (by omega)
      have e2 : w63 ((i : Int) - 2) = _ := wSub i 2 (by omega) (by omega)
      have e3 : w63 ((i : Int) - 16) = _ := wSub i 16 (by omega) (by omega)
      have e4 : w63 ((i : Int) - 7) = _ := wSub i 7 (by omega) (by omega)
      rw [at?_eq _ e1, at?_eq _ e2, at?_eq _ e3, at?_eq _ e4, set?_eq i rfl (by omega), wS i (by omega), Int.toNat_natCast]
      · simp only [wsR]
        rw [if_neg h16]
      all_goals omega
  · refine (u_round2 L κ p j len st (64 : Nat) _).trans ?_
    rfl
theorem u_loop4 (κ : Kont) (p : UP) (j len : Nat) (st : W8) (ws : List Int) (s : W8) (hw : ws.length = 64) :
    loopK u4Cn (ev Rs0 u4L) 1000 (uSt4 p j len st 0 ws s) κ = κ (.exit 4) (withT 114 (.bool false) (uSt4 p j len st 64 ws (roundsR ws s 64))) := by
  refine loopK_for (fun i => uSt4 p j len st (i : Int) ws (roundsR ws s i)) 64 _ (fun i hi L => ?_) (fun L => ?_) 1000 (by omega)
  · refine (u_round4 L κ p j len st i ws _).trans ?_
    rw [show (decide ((i : Int) < 64)) = true by simp only [decide_eq_true_eq]; omega, cond_true]
    have hk : shaK.length = 64 := rfl
    rw [at?_eq i rfl, at?_eq i rfl, wS i (by omega)]
    · rfl
    all_goals omega
  · refine (u_round4 L κ p j len st (64 : Nat) ws _).trans ?_
    rfl
def blkR (st : W8) (xs : List Int) : W8 := add8 st (roundsR (wsR xs 64) st 64)
theorem u_body (L : St → Option Res) (κ : Kont) (p : UP) (j len : Nat) (st : W8) (h64 : 64 ≤ len) (hb : j + len ≤ p.bs.length) : ev Rs0 uBody (uSt p j len st) (kLoop uCn L κ) = L (uSt p (j + 64) (len - 64) (blkR st (p.bs.drop j))) := by
  refine (u_p1 1000 u2L _ uTl L κ p j len st).trans ?_
  rw [decide_eq_true (by omega), cond_true, u_loop2 _ p j len st h64 hb, kBlock_exit]
  refine (u_p2 1000 u4L uAd _ p j len st _).trans ?_
  rw [u_loop4 _ p j len st _ st (wsR_len _ _), kBlock_exit]
  refine (u_p3 L κ p j len st _ _).trans ?_
  rw [if_pos ⟨by omega, by omega⟩]
  rfl
theorem u_stop (L : St → Option Res) (κ : Kont) (p : UP) (j : Nat) (st : W8) : ev Rs0 uBody (uSt p j 0 st) (kLoop uCn L κ) = κ (.exit 0) ⟨uT j 0 [(29, .slice 16 0 j 0 0 none), (30, .int .i64 (0 : Nat)), (31, .bool false)], ⟨20, p.cells st⟩⟩ := by
  refine (u_p1 1000 u2L _ uTl L κ p j 0 st).trans ?_
  rfl
def blocksR : Nat → List Int → W8 → W8
  | 0, _, st => st
  | m + 1, xs, st => blocksR m (xs.drop 64) (blkR st xs)
theorem u_loop (p : UP) : ∀ (m j F : Nat) (st : W8), m < F → j + 64 * m ≤ p.bs.length → loopK uCn (ev Rs0 uBody) F (uSt p j (64 * m) st) (kBlock 0 none (kSeq Rs0 none uEnd uKf)) = some (key (ser8 (blocksR m (p.bs.drop j) st)), ⟨0, []⟩)
  | 0, j, F + 1, st, _, _ => by
    refine (u_stop _ _ p j st).trans ?_
    rw [kBlock_exit]
    exact u_end p j 0 st
  | m + 1, j, F + 1, st, hF, hb => by
    refine (u_body _ _ p j (64 * (m + 1)) st (by omega) hb).trans ?_
    rw [show 64 * (m + 1) - 64 = 64 * m by omega]
    refine (u_loop p m (j + 64) F _ (by omega) (by omega)).trans ?_
    simp only [blocksR, List.drop_drop]
  | _, _, 0, _, h, _ => by omega
end Go.Am
