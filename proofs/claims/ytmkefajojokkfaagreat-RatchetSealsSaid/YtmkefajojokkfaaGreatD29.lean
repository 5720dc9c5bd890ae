/- RatchetSeals: part 30 of 50 of its proof. -/
import Derived.Test.YtmkefajojokkfaaGreatD20
set_option linter.unusedVariables false
set_option linter.unusedSimpArgs false
namespace Go.Am
set_option linter.unusedSimpArgs false
set_option maxRecDepth 100000
def rotS (x : Int) (n : Nat) : Int := or32 (w32 (x * 2 ^ n)) (x.fdiv (2 ^ (32 - n)))
structure Q4 where
  a : Int
  b : Int
  c : Int
  d : Int
def halfS (m n : Nat) (q : Q4) : Q4 :=
  let a := w32 (q.a + q.b)
  let d := rotS (xor32 q.d a) m
  let c := w32 (q.c + d)
  ⟨a, rotS (xor32 q.b c) n, c, d⟩
def quarterS (q : Q4) : Q4 := halfS 8 7 (halfS 16 12 q)
def quarterO : OrcP := fun _ args _ =>
  match args with
  | [.int .u32 a, .int .u32 b, .int .u32 c, .int .u32 d] => some (.tuple [.int .u32 (quarterS ⟨a, b, c, d⟩).a, .int .u32 (quarterS ⟨a, b, c, d⟩).b, .int .u32 (quarterS ⟨a, b, c, d⟩).c, .int .u32 (quarterS ⟨a, b, c, d⟩).d], none)
  | _ => none
theorem quarter_run (Γ : Env) (a b c d : Int) : evFn Γ af_chacha_Quarter [.int .u32 a, .int .u32 b, .int .u32 c, .int .u32 d] ⟨16, []⟩ kV =
    some (.tuple [.int .u32 (quarterS ⟨a, b, c, d⟩).a, .int .u32 (quarterS ⟨a, b, c, d⟩).b, .int .u32 (quarterS ⟨a, b, c, d⟩).c, .int .u32 (quarterS ⟨a, b, c, d⟩).d], ⟨0, []⟩) := by kernel_rfl
theorem quarter_pure {P : Program} {f : FuncId} {Γ : Env} (F : Fn P f Γ af_chacha_Quarter) : PureOk P f quarterO := by
  refine F.plain fun nid args hp r ha hr => ?_
  unfold quarterO at hr
  split at hr <;> try (cases hr; done)
  cases hr
  exact ⟨rfl, rfl, rfl, quarter_run Γ _ _ _ _⟩
def rd4 (a b c d : Int) : Int :=
  or32 (shl32 (or32 (shl32 (or32 (shl32 (or32 (shl32 0 8) (w32 d)) 8) (w32 c)) 8) (w32 b)) 8) (w32 a)
def rdAt (l : List Int) (i : Nat) : Int := rd4 (g0 l i) (g0 l (i + 1)) (g0 l (i + 2)) (g0 l (i + 3))
def stateS (ks : List Int) (n : Int) (ns : List Int) : List Int :=
  [1634760805,857760878,2036477234,1797285236, rdAt ks 0, rdAt ks 4, rdAt ks 8, rdAt ks 12, rdAt ks 16, rdAt ks 20, rdAt ks 24, rdAt ks 28, n, rdAt ns 0, rdAt ns 4, rdAt ns 8]
def C0 : Env := envAdd id_chacha_read (inl G10 af_chacha_read) G10
theorem state_run (f g : Nat → Int) (n : Int) : evFn C0 af_chacha_state [.agg [.ints .u8 32 (tab 32 f)], .int .u32 n, .agg [.ints .u8 12 (tab 12 g)]] ⟨16, []⟩ kV =
    some (.agg [.ints .u32 16 (stateS (tab 32 f) n (tab 12 g))], ⟨0, []⟩) := by kernel_rfl
def stateO : OrcP := fun _ args _ =>
  match args with
  | [.agg [.ints .u8 32 ks], .int .u32 n, .agg [.ints .u8 12 ns]] => some (.agg [.ints .u32 16 (stateS ks n ns)], none)
  | _ => none
theorem state_pure {P : Program} {f : FuncId} (F : Fn P f C0 af_chacha_state) : PureOk P f stateO := by
  refine F.plain fun nid args hp r ha hr => ?_
  unfold stateO at hr
  split at hr <;> try (cases hr; done)
  rename_i xs n ys
  cases hr
  obtain ⟨⟨⟨hl, _⟩, _⟩, _, ⟨⟨hl', _⟩, _⟩, _⟩ := ha
  obtain ⟨k, rfl⟩ := tab_of hl
  obtain ⟨k', rfl⟩ := tab_of hl'
  exact ⟨rfl, rfl, rfl, state_run k k' n⟩
set_option maxRecDepth 100000
def ACode.l : ACode → ACode
  | .seq _ a _ => a
  | c => c
def ACode.r : ACode → ACode
  | .seq _ _ b => b
  | c => c
def ACode.b : ACode → ACode
  | .block _ _ c => c
  | .loop _ _ c => c
  | .scope c => c
  | c => c
structure W16 where
  a : Q4
  b : Q4
  c : Q4
  d : Q4
def W16.list (w : W16) : List Int := [w.a.a, w.a.b, w.a.c, w.a.d, w.b.a, w.b.b, w.b.c, w.b.d, w.c.a, w.c.b, w.c.c, w.c.d, w.d.a, w.d.b, w.d.c, w.d.d]
def drS (w : W16) : W16 :=
  let p := quarterS ⟨w.a.a, w.b.a, w.c.a, w.d.a⟩
  let q := quarterS ⟨w.a.b, w.b.b, w.c.b, w.d.b⟩
  let r := quarterS ⟨w.a.c, w.b.c, w.c.c, w.d.c⟩
  let s := quarterS ⟨w.a.d, w.b.d, w.c.d, w.d.d⟩
  let p' := quarterS ⟨p.a, q.b, r.c, s.d⟩
  let q' := quarterS ⟨q.a, r.b, s.c, p.d⟩
  let r' := quarterS ⟨r.a, s.b, p.c, q.d⟩
  let s' := quarterS ⟨s.a, p.b, q.c, r.d⟩
  ⟨⟨p'.a, q'.a, r'.a, s'.a⟩, ⟨s'.b, p'.b, q'.b, r'.b⟩, ⟨r'.c, s'.c, p'.c, q'.c⟩, ⟨q'.d, r'.d, s'.d, p'.d⟩⟩
def C1 : Env := envAdd id_chacha_state (.pure stateO) (envAdd id_chacha_Quarter (.pure quarterO) C0)
def C2 : Env := envAdd id_chacha_Block_1 (inl C1 af_chacha_Block_1) C1
def bTop : ACode := af_chacha_Block.code
def bA : ACode := bTop.l
def bB : ACode := bTop.r.l
def bC : ACode := bTop.r.r.l
def bD : ACode := bTop.r.r.r.l
def bI : ACode := bTop.r.r.r.r.l.l
def bL : ACode := bTop.r.r.r.r.l.r.b.b
def bR : ACode := bTop.r.r.r.r.r
def bCn : Option Canon := some ⟨[], [6,7,8,9,21], [], [18,19,20], 21⟩
def afBlock : AFn := ⟨94, [.cell 6 true 64], .seq none bA (.seq none bB (.seq none bC (.seq none bD (.seq none (.seq none bI (.block 0 none (.loop 1000 bCn bL))) bR))))⟩
def bSt (fs : List Int) (i : Int) (w : W16) : St :=
  ⟨mkT 94 [(6, pt 18), (7, pt 19), (8, pt 20), (9, .func id_chacha_Block_1 [] [pt 20]), (21, .int .i64 i)], ⟨21, [cel 18 [.ints .u8 64 (List.replicate 64 0)], cel 19 [.ints .u32 16 fs], cel 20 [.ints .u32 16 w.list]]⟩⟩
theorem b_round (L : St → Option Res) (κ : Kont) (fs : List Int) (i : Int) (w : W16) : ev C2 bL (bSt fs i w) (kLoop bCn L κ) =
    bif decide (i < 10) then L (bSt fs (w63 (i + 1)) (drS w)) else κ (.exit 0) (withT 22 (.bool false) (bSt fs i w)) := by kernel_rfl
def toW16 (l : List Int) : W16 := ⟨⟨g0 l 0, g0 l 1, g0 l 2, g0 l 3⟩, ⟨g0 l 4, g0 l 5, g0 l 6, g0 l 7⟩, ⟨g0 l 8, g0 l 9, g0 l 10, g0 l 11⟩, ⟨g0 l 12, g0 l 13, g0 l 14, g0 l 15⟩⟩
def drN (w : W16) : Nat → W16
  | 0 => w
  | i + 1 => drS (drN w i)
def w8 (n : Int) : Int := IntKind.u8.wrap n
def b4 (x : Int) : List Int := [w8 x, w8 (x.fdiv (2 ^ 8)), w8 (x.fdiv (2 ^ 16)), w8 (x.fdiv (2 ^ 24))]
def serS : List Int → List Int → List Int
  | x :: xs, y :: ys => b4 (w32 (x + y)) ++ serS xs ys
  | _, _ => []
theorem b_start (L : ACode) (K : Kont) (ks ns : List Int) (n : Int) :
    ev C2 bA ⟨[.agg [.ints .u8 32 ks], .int .u32 n, .agg [.ints .u8 12 ns]] ++ List.replicate 91 .undef, ⟨16, []⟩⟩ (kSeq C2 none (.seq none bB (.seq none bC (.seq none bD (.seq none (.seq none bI (.block 0 none (.loop 1000 bCn L))) bR)))) K) =
    loopK bCn (ev C2 L) 1000 (bSt (stateS ks n ns) 0 (toW16 (stateS ks n ns))) (kBlock 0 none (kSeq C2 none bR K)) := by kernel_rfl
theorem b_end (f : Nat → Int) (w : W16) : ev C2 bR (withT 22 (.bool false) (bSt (tab 16 f) 10 w)) (kFn [.cell 6 true 64] kV) = some (.agg [.ints .u8 64 (serS w.list (tab 16 f))], ⟨0, []⟩) := by kernel_rfl
def blockL (ks : List Int) (n : Int) (ns : List Int) : List Int := serS (drN (toW16 (stateS ks n ns)) 10).list (stateS ks n ns)
theorem b_loop (κ : Kont) (fs : List Int) (w : W16) : loopK bCn (ev C2 bL) 1000 (bSt fs 0 w) κ = κ (.exit 0) (withT 22 (.bool false) (bSt fs 10 (drN w 10))) := by
  refine loopK_for (fun i => bSt fs (i : Int) (drN w i)) 10 _ (fun i hi L => ?_) (fun L => ?_) 1000 (by omega)
  · refine (b_round L κ fs i (drN w i)).trans ?_
    rw [show (decide ((i : Int) < 10)) = true by simp; omega, cond_true, wS i (by omega)]
    rfl
  · exact (b_round L κ fs (10 : Nat) (drN w 10)).trans rfl
theorem block_run (ks ns : List Int) (n : Int) : evFn C2 afBlock [.agg [.ints .u8 32 ks], .int .u32 n, .agg [.ints .u8 12 ns]] ⟨16, []⟩ kV = some (.agg [.ints .u8 64 (blockL ks n ns)], ⟨0, []⟩) := by
  refine (evFn_eq ..).trans ?_
  refine (ev_seq ..).trans ?_
  refine (b_start _ _ ks ns n).trans ?_
  rw [b_loop, kBlock_exit]
  exact b_end (fun i => g0 (stateS ks n ns) i) _
def blockO : OrcP := fun _ args _ =>
  match args with
  | [.agg [.ints .u8 32 ks], .int .u32 n, .agg [.ints .u8 12 ns]] => some (.agg [.ints .u8 64 (blockL ks n ns)], none)
  | _ => none
theorem block_pure {P : Program} {f : FuncId} (F : Fn P f C2 afBlock) : PureOk P f blockO := by
  refine F.plain fun nid args hp r ha hr => ?_
  unfold blockO at hr
  split at hr <;> try (cases hr; done)
  cases hr
  exact ⟨rfl, rfl, rfl, block_run _ _ _⟩
set_option maxRecDepth 100000
def sh26 (x : Int) : Int := x.fdiv (2 ^ 26)
def mk26 (x : Int) : Int := bw .and .u64 x 67108863
structure L5 where
  a : Int
  b : Int
  c : Int
  d : Int
  e : Int
def L5.list (h : L5) : List Int := [h.a, h.b, h.c, h.d, h.e]
def toL5 (l : List Int) : L5 := ⟨g0 l 0, g0 l 1, g0 l 2, g0 l 3, g0 l 4⟩
def carry1 (h : L5) : L5 :=
  let a := w64 (h.a + 0)
  let b := w64 (h.b + sh26 a)
  let c := w64 (h.c + sh26 b)
  let d := w64 (h.d + sh26 c)
  let e := w64 (h.e + sh26 d)
  ⟨w64 (mk26 a + w64 (5 * sh26 e)), mk26 b, mk26 c, mk26 d, mk26 e⟩
def carryS (h : L5) : L5 := carry1 (carry1 h)
def un5 (g : L5 → L5) : OrcP := fun _ args _ =>
  match args with
  | [.agg [.ints .u64 5 h]] => some (.agg [.ints .u64 5 (g (toL5 h)).list], none)
  | _ => none
theorem carry_run (Γ : Env) (f : Nat → Int) : evFn Γ af_poly_limbs_carry [.agg [.ints .u64 5 (tab 5 f)]] ⟨16, []⟩ kV = some (.agg [.ints .u64 5 (carryS (toL5 (tab 5 f))).list], ⟨0, []⟩) := by kernel_rfl
theorem carry_pureP {P : Program} {f : FuncId} {Γ : Env} (F : Fn P f Γ af_poly_limbs_carry) : PureOk P f (un5 carryS) := by
  refine F.plain fun nid args hp r ha hr => ?_
  unfold un5 at hr
  split at hr <;> try (cases hr; done)
  rename_i xs
  cases hr
  obtain ⟨⟨⟨hl, _⟩, _⟩, _⟩ := ha
  obtain ⟨k, rfl⟩ := tab_of hl
  exact ⟨rfl, rfl, rfl, carry_run Γ k⟩
def pm (x y : Int) : Int := w64 (x * y)
def pm5 (x y : Int) : Int := w64 (w64 (x * y) * 5)
def sum5 (a b c d e : Int) : Int := w64 (w64 (w64 (w64 (w64 (0 + a) + b) + c) + d) + e)
def mulS (h r : L5) : L5 :=
  ⟨sum5 (pm h.a r.a) (pm5 h.b r.e) (pm5 h.c r.d) (pm5 h.d r.c) (pm5 h.e r.b),
   sum5 (pm h.a r.b) (pm h.b r.a) (pm5 h.c r.e) (pm5 h.d r.d) (pm5 h.e r.c),
   sum5 (pm h.a r.c) (pm h.b r.b) (pm h.c r.a) (pm5 h.d r.e) (pm5 h.e r.d),
   sum5 (pm h.a r.d) (pm h.b r.c) (pm h.c r.b) (pm h.d r.a) (pm5 h.e r.e),
   sum5 (pm h.a r.e) (pm h.b r.d) (pm h.c r.c) (pm h.d r.b) (pm h.e r.a)⟩
def addS (h n : L5) : L5 := ⟨w64 (h.a + n.a), w64 (h.b + n.b), w64 (h.c + n.c), w64 (h.d + n.d), w64 (h.e + n.e)⟩
def pstepS (h n r : L5) : L5 := carryS (mulS (addS h n) r)
def P0 : Env := envAdd id_poly_limbs_carry (.pure (un5 carryS)) G10
def tri5 (g : L5 → L5 → L5 → L5) : OrcP := fun _ args _ =>
  match args with
  | [.agg [.ints .u64 5 h], .agg [.ints .u64 5 n], .agg [.ints .u64 5 r]] => some (.agg [.ints .u64 5 (g (toL5 h) (toL5 n) (toL5 r)).list], none)
  | _ => none
theorem pstep_run (f g k : Nat → Int) : evFn P0 af_poly_limbs_step [.agg [.ints .u64 5 (tab 5 f)], .agg [.ints .u64 5 (tab 5 g)], .agg [.ints .u64 5 (tab 5 k)]] ⟨16, []⟩ kV =
    some (.agg [.ints .u64 5 (pstepS (toL5 (tab 5 f)) (toL5 (tab 5 g)) (toL5 (tab 5 k))).list], ⟨0, []⟩) := by kernel_rfl
theorem pstep_pureP {P : Program} {f : FuncId} (F : Fn P f P0 af_poly_limbs_step) : PureOk P f (tri5 pstepS) := by
  refine F.plain fun nid args hp r ha hr => ?_
  unfold tri5 at hr
  split at hr <;> try (cases hr; done)
  rename_i xs ys zs
  cases hr
  obtain ⟨⟨⟨hl, _⟩, _⟩, ⟨⟨hl2, _⟩, _⟩, ⟨⟨hl3, _⟩, _⟩, _⟩ := ha
  obtain ⟨k, rfl⟩ := tab_of hl
  obtain ⟨k2, rfl⟩ := tab_of hl2
  obtain ⟨k3, rfl⟩ := tab_of hl3
  exact ⟨rfl, rfl, rfl, pstep_run k k2 k3⟩
def twoT : OrcP := tabO tTwo1A tTwo1V (tabO tTwo2A tTwo2V noneO)
def turnT : OrcP := tabO tTurn1A tTurn1V (tabO tTurn2A tTurn2V (tabO tTurn3A tTurn3V noneO))
def pairT : OrcP := tabO tPair1A tPair1V (tabO tPair2A tPair2V noneO)
def stepT : OrcP := tabO tStep1A tStep1V noneO
def X_curve_X : Env := envAdd id_curve_X (.pure (keyO2 xI)) G10
def X_curve_Public : Env := envAdd id_curve_Public (pin X_curve_X af_curve_Public) X_curve_X
def X_ident_Pair : Env := envAdd id_ident_Pair (.pure pairT) X_curve_Public
def X_curve_Low : Env := envAdd id_curve_Low (pin X_ident_Pair af_curve_Low) X_ident_Pair
def X_kdf_Two : Env := envAdd id_kdf_Two (.pure twoT) X_curve_Low
def X_kdf_Derive : Env := envAdd id_kdf_Derive (pin X_kdf_Two af_kdf_Derive) X_kdf_Two
def X_ratchet_turn : Env := envAdd id_ratchet_turn (.pure turnT) X_kdf_Derive
def X_ratchet_Start : Env := envAdd id_ratchet_Start (pin X_ratchet_turn af_ratchet_Start) X_ratchet_turn
def X_hollowtreelaw17_begun : Env := envAdd id_hollowtreelaw17_begun (pin X_ratchet_Start af_hollowtreelaw17_begun) X_ratchet_Start
def X_ratchet_find_1 : Env := envAdd id_ratchet_find_1 (inl X_hollowtreelaw17_begun af_ratchet_find_1) X_hollowtreelaw17_begun
def X_slices_IndexFunc_api_Skip : Env := envAdd id_slices_IndexFunc_api_Skip (inl X_ratchet_find_1 af_slices_IndexFunc_api_Skip) X_ratchet_find_1
def X_ratchet_find : Env := envAdd id_ratchet_find (pin X_slices_IndexFunc_api_Skip af_ratchet_find) X_slices_IndexFunc_api_Skip
def X_ratchet_Check : Env := envAdd id_ratchet_Check (pin X_ratchet_find af_ratchet_Check) X_ratchet_find
def X_ratchet_none : Env := envAdd id_ratchet_none (pin X_ratchet_Check af_ratchet_none) X_ratchet_Check
def X_kdf_Step : Env := envAdd id_kdf_Step (.pure stepT) X_ratchet_none
def X_slices_Clone_byte : Env := envAdd id_slices_Clone_byte (.pure cloneO) X_kdf_Step
def X_octet_put : Env := envAdd id_octet_put (pin X_slices_Clone_byte af_octet_put) X_slices_Clone_byte
def X_octet_Put64 : Env := envAdd id_octet_Put64 (pin X_octet_put af_octet_Put64) X_octet_put
def X_aead_Count : Env := envAdd id_aead_Count (pin X_octet_Put64 af_aead_Count) X_octet_Put64
def X_octet_Put32 : Env := envAdd id_octet_Put32 (pin X_aead_Count af_octet_Put32) X_aead_Count
def X_frame_PutHeader : Env := envAdd id_frame_PutHeader (pin X_octet_Put32 af_frame_PutHeader) X_octet_Put32
def X_ratchet_text : Env := envAdd id_ratchet_text (pin X_frame_PutHeader af_ratchet_text) X_frame_PutHeader
def X_chacha_Block : Env := envAdd id_chacha_Block (.pure blockO) X_ratchet_text
def X_chacha_Xor : Env := envAdd id_chacha_Xor (pin X_chacha_Block af_chacha_Xor) X_chacha_Block
def X_poly_Clamp : Env := envAdd id_poly_Clamp (pin X_chacha_Xor af_poly_Clamp) X_chacha_Xor
def X_octet_Get64 : Env := envAdd id_octet_Get64 (pin X_poly_Clamp af_octet_Get64) X_poly_Clamp
def X_poly_of : Env := envAdd id_poly_of (pin X_octet_Get64 af_poly_of) X_octet_Get64
def X_poly_New : Env := envAdd id_poly_New (inl X_poly_of af_poly_New) X_poly_of
def X_poly_limbs_step : Env := envAdd id_poly_limbs_step (.pure (tri5 pstepS)) X_poly_New
def X_poly_Code_Write : Env := envAdd id_poly_Code_Write (objW X_poly_limbs_step af_poly_Code_Write) X_poly_limbs_step
def X_poly_limbs_carry : Env := envAdd id_poly_limbs_carry (.pure (un5 carryS)) X_poly_Code_Write
def X_poly_limbs_whole : Env := envAdd id_poly_limbs_whole (pin X_poly_limbs_carry af_poly_limbs_whole) X_poly_limbs_carry
def X_poly_Code_Tag : Env := envAdd id_poly_Code_Tag (inl X_poly_limbs_whole af_poly_Code_Tag) X_poly_limbs_whole
def X_aead_Tag_1 : Env := envAdd id_aead_Tag_1 (inl X_poly_Code_Tag af_aead_Tag_1) X_poly_Code_Tag
def X_aead_Tag : Env := envAdd id_aead_Tag (pin X_aead_Tag_1 af_aead_Tag) X_aead_Tag_1
def X_aead_Seal : Env := envAdd id_aead_Seal (pin X_aead_Tag af_aead_Seal) X_aead_Tag
def X_slices_Clone_api_Skip : Env := envAdd id_slices_Clone_api_Skip (inl X_aead_Seal af_slices_Clone_api_Skip) X_aead_Seal
def X_ratchet_Seal : Env := envAdd id_ratchet_Seal (pin X_slices_Clone_api_Skip af_ratchet_Seal) X_slices_Clone_api_Skip
def X_octet_Equal : Env := envAdd id_octet_Equal (pin X_ratchet_Seal af_octet_Equal) X_ratchet_Seal
def X_aead_Open : Env := envAdd id_aead_Open (pin X_octet_Equal af_aead_Open) X_octet_Equal
def X_octet_Zero : Env := envAdd id_octet_Zero (pin X_aead_Open af_octet_Zero) X_aead_Open
def X_ratchet_read : Env := envAdd id_ratchet_read (pin X_octet_Zero af_ratchet_read) X_octet_Zero
def X_ratchet_open : Env := envAdd id_ratchet_open (pin X_ratchet_read af_ratchet_open) X_ratchet_read
def X_ratchet_over : Env := envAdd id_ratchet_over (inl X_ratchet_open af_ratchet_over) X_ratchet_open
def X_ratchet_pass : Env := envAdd id_ratchet_pass (inl X_ratchet_over af_ratchet_pass) X_ratchet_over
def X_ratchet_Open_1 : Env := envAdd id_ratchet_Open_1 (inl X_ratchet_pass af_ratchet_Open_1) X_ratchet_pass
end Go.Am
