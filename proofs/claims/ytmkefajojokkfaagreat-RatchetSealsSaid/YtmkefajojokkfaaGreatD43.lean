/- RatchetSeals: part 44 of 50 of its proof. -/
import Derived.Test.YtmkefajojokkfaaGreatD39
import Derived.Test.YtmkefajojokkfaaGreatD40
import Derived.Test.YtmkefajojokkfaaGreatD41
import Derived.Test.YtmkefajojokkfaaGreatD42
import Derived.Test.YtmkefajojokkfaaGreatD37
import Derived.Test.YtmkefajojokkfaaGreatD33
import Derived.Test.YtmkefajojokkfaaGreatD38
set_option linter.unusedVariables false
set_option linter.unusedSimpArgs false
namespace Go.Am
set_option linter.unusedSimpArgs false
set_option maxRecDepth 100000
theorem hm_all (S : H1) {n : Nat} (h : hmLen n = true) (f g : Nat → Int) : hmRun S n f g := by
  simp only [hmLen, Bool.or_eq_true, beq_iff_eq] at h
  rcases h with (((((h | h) | h) | h) | h) | h) | h <;> subst h
  · exact hm_1 S f g
  · exact hm_11 S f g
  · exact hm_12 S f g
  · exact hm_43 S f g
  · exact hm_44 S f g
  · exact hm_45 S f g
  · exact hm_77 S f g
theorem hm_pure {P : Program} {f : FuncId} {S : H1} (F : Fn P f (RkS S) af_hollowtreeref05_Hmac) : PureOk P f (hmV (hmF S)) := by
  refine F.lit [.sl (.ints .u8), .sl (.ints .u8)] none fun nid args hp r ha hr => ?_
  unfold hmV at hr
  split at hr <;> try (cases hr; done)
  rename_i s t
  obtain ⟨xs, hc, hl, hr1⟩ := withBs_eq hr
  obtain ⟨ys, hd, hm, hr2⟩ := withBs_eq hr1
  split at hr2 <;> try (cases hr2; done)
  rename_i hL
  cases hr2
  refine ⟨_, _, by simp only [viewArgs, contI_isSl hc, contI_isSl hd, if_true, viewS_ints hc, viewS_ints hd, Option.bind_some, Option.map_some]; rfl, by simp, ?_⟩
  have hf : fixL 32 (hmF S xs ys) = hmF S xs ys := fixL_eq (fixL_len ..)
  rw [hf]
  obtain ⟨g, hg⟩ := tab_of (xs := ys) rfl
  obtain ⟨k, hk⟩ := tab_of (xs := xs) hL.1
  have e : evFn (RkS S) af_hollowtreeref05_Hmac [slB 0 32, slB 1 ys.length] ⟨16, [roC 0 (.segs [.ints .u8 32 (tab 32 k)]), roC 1 (.segs [.ints .u8 ys.length (tab ys.length g)])]⟩ kV = some (key (hmF S (tab 32 k) (tab ys.length g)), ⟨0, []⟩) := hm_all S hL.2 k g
  rw [← hg, ← hk] at e
  rw [hL.1]
  have hF := F.factor [slB 0 32, slB 1 ys.length] ⟨16, [roC 0 (.segs [.ints .u8 32 xs]), roC 1 (.segs [.ints .u8 ys.length ys])]⟩
  have e1 := hF kV
  simp only at e1
  rw [e1] at e
  have e2 := hF (kOut none nid)
  simp only at e2
  show evFn (RkS S) af_hollowtreeref05_Hmac [slB 0 32, slB 1 ys.length] ⟨16, [roC 0 (.segs [.ints .u8 32 xs]), roC 1 (.segs [.ints .u8 ys.length ys])]⟩ (kOut none nid) = _
  rw [e2]
  cases hk : evFn (RkS S) af_hollowtreeref05_Hmac [slB 0 32, slB 1 ys.length] ⟨16, [roC 0 (.segs [.ints .u8 32 xs]), roC 1 (.segs [.ints .u8 ys.length ys])]⟩ kH with
  | none => rw [hk] at e; cases e
  | some q =>
    rw [hk] at e
    simp only [Option.bind_some, kV, Option.some.injEq, Prod.mk.injEq, and_true] at e
    obtain ⟨v, h'⟩ := q
    simp only at e
    subst e
    rfl
set_option maxRecDepth 100000
def pubQ (A : M1) : OrcP := fun _ args _ => match args with
  | [.agg [.ints .u8 32 xs]] => some (key (A xs), none)
  | _ => none
def stepQ (A B : M1) : OrcP := fun _ args _ => match args with
  | [.agg [.ints .u8 32 xs]] => some (.tuple [key (A xs), key (B xs)], none)
  | _ => none
def nine : List Int := 9 :: List.replicate 31 0
structure SeC where
  x : H2
  stA : M1
  stB : M1
  cip : F4
def pubX (X : H2) (o : List Int) : List Int := fixL 32 (X o nine)
theorem pub7_run (X : H2) (f : Nat → Int) : evFn (envAdd id_curve_X (.pure (keyXV X)) G10) af_curve_Public [key (tab 32 f)] ⟨16, []⟩ kV = some (key (pubX X (tab 32 f)), ⟨0, []⟩) := by kernel_rfl
def SeE (C : SeC) : Env := envAdd id_ratchet_Check (.full checkC) (envAdd id_slices_Clone_api_Skip (.full cloneRC) (envAdd id_curve_Public (.pure (pubQ (pubX C.x))) (envAdd id_kdf_Step (.pure (stepQ C.stA C.stB)) (envAdd id_aead_Seal (.pure (aSealV C.cip)) (envAdd id_aead_Count (.pure cntO) (envAdd id_frame_PutHeader (.pure hdrO) (envAdd id_ratchet_text (.pure textO) (envAdd id_ratchet_none (.pure noneKO) G10))))))))
def nRatS : Rat := ⟨hz32, hz32, hz32, hz32, hz32,0,0,0⟩
def zMsg7 : Msg := ⟨hz32,0,0, List.replicate 65 0⟩
def seErr (e : Int) : Option Res := some (.tuple [.agg (nRatS.segs .nils), .agg zMsg7.segs, .int .i64 e], ⟨0, []⟩)
def sealRat (C : SeC) (r : Rat) : Rat := ⟨r.root, r.own, r.peer, C.stA r.send, r.recv, u32w (r.sent + 1), r.got, r.bef⟩
def sealMsg (C : SeC) (r : Rat) (s : ByteArray) : Msg := ⟨pubX C.x r.own, r.bef, r.sent, fixL 65 (C.cip (C.stB r.send) nz12 (hdrB (pubX C.x r.own) r.bef r.sent) (fixL 49 (txtB s)))⟩
def wS7 (xs : List (List AV)) (k : List Sk → Option Res) : Option Res := (skAll xs).bind fun ss => if ss.length ≤ 1152921504606846976 then k ss else none
def cut7 (n : Nat) (xs : List (List AV)) : List (List AV) := (xs.drop 0).take n
theorem seal7_run1 (C : SeC) (nid : Nat) (r : Rat) (n m : Nat) (xs : List (List AV)) (s : ByteArray) : evFn (SeE C) af_ratchet_Seal [.agg (r.segs (ckS n)), .str s] ⟨16, [roC 0 (.rows 65 m xs)]⟩ (kOut none nid) =
    wS7 (cut7 n xs) fun ss => bif checkI r ss != 0 then seErr 270 else bif decide (((s.size : Nat) : Int) < 1) then seErr 2 else bif decide (((s.size : Nat) : Int) > 48) then seErr 2 else
      bif r.sent == 2147483648 then seErr 3 else bif (r.send == hz32) && true then seErr 3 else wS7 (cut7 n xs) fun s2 => if s2.length ≤ 1000 then
        some (.tuple [.agg ((sealRat C r).segs (.islR 65 (cut7 s2.length (s2.map skR)))), .agg (sealMsg C r s).segs, .int .i64 0], ⟨0, []⟩) else none := by kernel_rfl
def lo4 (x : Int) : List Int := [w8 (x.tmod 256), w8 ((w64 (x.tdiv 256)).tmod 256), w8 ((w64 ((w64 (x.tdiv 256)).tdiv 256)).tmod 256), w8 ((w64 ((w64 ((w64 (x.tdiv 256)).tdiv 256)).tdiv 256)).tmod 256)]
def hdrRL (k : List Int) (p n : Int) : List Int := k ++ lo4 (w64 p) ++ lo4 (w64 n)
theorem hdrR_run (nid : Nat) (f : Nat → Int) (p n : Int) : evFn RkB af_hollowtreeref17_Header [.agg [.ints .u8 32 (tab 32 f), .int .u32 p, .int .u32 n]] ⟨16, []⟩ (kOut (some (.ints .u8)) nid) =
    some (.slice nid 0 0 40 0 (some 40), encB nid (some (.segs [.ints .u8 40 (hdrRL (tab 32 f) p n)]))) := by kernel_rfl
def hdrRO : OrcP := fun nid args _ => match args with
  | [.agg [.ints .u8 32 k, .int .u32 p, .int .u32 n]] => some (.slice nid 0 0 40 0 (some 40), some (.segs [.ints .u8 40 (hdrB (fixL 32 k) p n)]))
  | _ => none
def bdTop : ACode := af_hollowtreeref17_Body.code
def bdA : ACode := bdTop.l
def bdB : ACode := bdTop.r.l
def bdC : ACode := bdTop.r.r.l
def bdI : ACode := bdTop.r.r.r.l.l
def bdL : ACode := bdTop.r.r.r.l.r.b.b
def bdE : ACode := bdTop.r.r.r.r
def bdCn : Option Canon := some ⟨[], [0,3,4], [], [16], 17⟩
def afBodyOf (F : Nat) : AFn := ⟨25, [.t 2], .seq none bdA (.seq none bdB (.seq none bdC (.seq none (.seq none bdI (.block 0 none (.loop F bdCn bdL))) bdE)))⟩
def afBody : AFn := afBodyOf 1000
def bdSt (s : ByteArray) (zs : List Int) (i : Int) : St := ⟨mkT 25 [(0, .str s), (3, .slice 16 0 0 49 0 (some 49)), (4, .int .i64 i)], ⟨17, [cel 16 [.ints .u8 49 zs]]⟩⟩
def bdK (nid : Nat) : Kont := kBlock 0 none (kSeq G10 none bdE (kFn [.t 2] (kOut (some (.ints .u8)) nid)))
theorem bd_start (F nid : Nat) (s : ByteArray) : ev G10 (afBodyOf F).code ⟨[.str s] ++ List.replicate 24 .undef, ⟨16, []⟩⟩ (kFn [.t 2] (kOut (some (.ints .u8)) nid)) =
    loopK bdCn (ev G10 bdL) F (bdSt s (List.set (List.replicate 49 0) 0 (w8 s.size)) 0) (bdK nid) := by kernel_rfl
theorem bd_round (L : St → Option Res) (nid : Nat) (s : ByteArray) (zs : List Int) (i : Int) : ev G10 bdL (bdSt s zs i) (kLoop bdCn L (bdK nid)) =
    bif decide (i < ((s.size : Nat) : Int)) then (if 0 ≤ i then (s.data[i.toNat]?).bind fun b => if 0 ≤ w63 (i + 1) ∧ w63 (i + 1) < ((49 : Nat) : Int) then (if 0 + (w63 (i + 1)).toNat < 49 then L (bdSt s (zs.set (0 + (w63 (i + 1)).toNat) b.toNat) (w63 (i + 1))) else none) else none else none)
    else some (.slice nid 0 0 49 0 (some 49), encB nid (some (.segs [.ints .u8 49 zs]))) := by kernel_rfl
theorem thereR_run (f : Nat → Int) : evFn G10 af_hollowtreeref17_There [key (tab 32 f)] ⟨16, []⟩ kV = yes (!((tab 32 f == hz32) && true)) := by kernel_rfl
theorem stepR_run (M : H2) (f : Nat → Int) : evFn (RkM M) af_hollowtreeref05_Step [key (tab 32 f)] ⟨16, []⟩ kV = some (.tuple [key (fixL 32 (M (tab 32 f) [2])), key (fixL 32 (M (tab 32 f) [1]))], ⟨0, []⟩) := by kernel_rfl
set_option maxRecDepth 100000
def rowCut {β : Type} (q : Int) (n : Int) (xs : List (List AV)) (o m : Nat) (k : List AV → Option β) : Option β := if 0 ≤ q ∧ q < n then (xs[0 + q.toNat]?).bind fun l => (cutSegs l o m).bind k else none
def rowRd {β : Type} (q : Int) (n : Int) (xs : List (List AV)) (o : Nat) (k : AV → Option β) : Option β := if 0 ≤ q ∧ q < n then (xs[0 + q.toNat]?).bind fun l => rdSegs l o 0 k else none
theorem rowCut_key {β : Type} {n : Int} {ss : List Sk} {k : List AV → Option β} (j : Nat) (h1 : (j : Int) < n) {s : Sk} (h2 : ss[j]? = some s) : rowCut (j : Int) n (ss.map skR) 0 32 k = k [.ints .u8 32 s.key] := by
  unfold rowCut
  rw [if_pos ⟨by omega, h1⟩, Int.toNat_natCast, Nat.zero_add, List.getElem?_map, h2]
  rfl
theorem rowRd_num {β : Type} {n : Int} {ss : List Sk} {k : AV → Option β} (j : Nat) (h1 : (j : Int) < n) {s : Sk} (h2 : ss[j]? = some s) : rowRd (j : Int) n (ss.map skR) 32 k = k (.int .u32 s.num) := by
  unfold rowRd
  rw [if_pos ⟨by omega, h1⟩, Int.toNat_natCast, Nat.zero_add, List.getElem?_map, h2]
  rfl
def rfTop : ACode := af_hollowtreeref17_Find.code
def rfL : ACode := rfTop.r.l.r.b.b
def rfCn : Option Canon := some ⟨[], [0,2,4,7], [], [0,16], 17⟩
def afRFindOf (F : Nat) : AFn := ⟨31, [.t 6], .seq none rfTop.l (.seq none (.seq none rfTop.r.l.l (.block 0 none (.loop F rfCn rfL))) rfTop.r.r)⟩
def afRFind : AFn := afRFindOf manyR
def rfSt (ks : List Int) (n : Int) (len m : Nat) (xs : List (List AV)) (i : Int) : St := ⟨mkT 31 [(0, sl65 0 len), (2, .int .u32 n), (4, pt 16), (7, .int .i64 i)], ⟨17, [roC 0 (.rows 65 m xs), cel 16 [.ints .u8 32 ks]]⟩⟩
def rfK (nid : Nat) : Kont := kBlock 0 none (kSeq G10 none rfTop.r.r (kFn [.t 6] (kOut none nid)))
def t32 : List Bool := List.replicate 32 true
def oneI (n : Int) : Option Res := some (.int .i64 n, ⟨0, []⟩)
theorem rf_round (L : St → Option Res) (nid : Nat) (ks : List Int) (n : Int) (len m : Nat) (xs : List (List AV)) (i : Int) : ev G10 rfL (rfSt ks n len m xs i) (kLoop rfCn L (rfK nid)) =
    bif decide (i < len) then rowCut i len xs 0 32 fun s => eqvK false (.agg t32) (.agg s) (.agg [.ints .u8 32 ks]) fun v => condK (.c v) (rfSt ks n len m xs i)
      (fun _ => rowRd i len xs 32 fun u => binK .eql u (.int .u32 n) fun b => condK (.c b) (rfSt ks n len m xs i) (fun _ => oneI i) (fun _ => L (rfSt ks n len m xs (w63 (i + 1)))))
      (fun _ => L (rfSt ks n len m xs (w63 (i + 1))))
    else oneI (-1) := by kernel_rfl
theorem rf_start (F nid : Nat) (ks : List Int) (n : Int) (len m : Nat) (xs : List (List AV)) : ev G10 (afRFindOf F).code ⟨[sl65 0 len, .agg [.ints .u8 32 ks], .int .u32 n] ++ List.replicate 28 .undef, ⟨16, [roC 0 (.rows 65 m xs)]⟩⟩ (kFn [.t 6] (kOut none nid)) =
    loopK rfCn (ev G10 rfL) F (rfSt ks n len m xs 0) (rfK nid) := by kernel_rfl
theorem eqv_key (a b : List Int) (κ : AV → Option Res) : eqvK false (.agg t32) (.agg [.ints .u8 32 a]) (.agg [.ints .u8 32 b]) κ = κ (.bool ((a == b) && true)) := by kernel_rfl
theorem binK_num (a b : Int) (κ : AV → Option Res) : binK .eql (.int .u32 a) (.int .u32 b) κ = κ (.bool (a == b)) := by kernel_rfl
theorem rf_loop (nid : Nat) (ks : List Int) (n : Int) (m : Nat) (ss : List Sk) (hl : ss.length ≤ 1152921504606846976) : ∀ (r pre : List Sk) (F : Nat), ss = pre ++ r → r.length < F →
    loopK rfCn (ev G10 rfL) F (rfSt ks n ss.length m (ss.map skR) (pre.length : Int)) (rfK nid) = oneI (findI ks n r pre.length)
  | [], pre, F + 1, he, _ => by
    refine (rf_round _ nid ks n ss.length m _ _).trans ?_
    have : ss.length = pre.length := by rw [he]; simp
    rw [this, decide_eq_false (by omega), cond_false]
    rfl
  | s :: r, pre, F + 1, he, hF => by
    have hlen : ss.length = pre.length + r.length + 1 := by rw [he]; simp; omega
    have hs : ss[pre.length]? = some s := by rw [he]; simp
    refine (rf_round _ nid ks n ss.length m _ _).trans ?_
    rw [decide_eq_true (by omega), cond_true, rowCut_key pre.length (by omega) hs]
    have ih := rf_loop nid ks n m ss hl r (pre ++ [s]) F (by rw [he]; simp) (by simp at hF; omega)
    rw [w63_of (by omega) (by omega)]
    have e : (((pre ++ [s]).length : Nat) : Int) = (pre.length : Int) + 1 := by simp
    rw [e] at ih
    rw [ih, rowRd_num pre.length (by omega) hs]
    simp only [findI, List.length_append, List.length_cons, List.length_nil]
    rw [eqv_key]
    simp only [binK_num, condK]
    cases (s.key == ks) <;> cases (s.num == n) <;> rfl
  | _ :: _, _, 0, _, h => by omega
theorem rf_pure {P : Program} {f : FuncId} (F : Fn P f G10 afRFind) : PureOk P f findO := by
  refine F.lit [.sl (.rows 65), .plain, .plain] none fun nid args hp r ha hr => ?_
  unfold findO at hr
  split at hr <;> try (cases hr; done)
  rename_i l ks n
  obtain ⟨ss, hc, hl, hr1⟩ := withSks_eq (k := fun ss => some (AV.int .i64 (findI ks n ss 0), (none : Option Blk))) hr
  cases hr1
  have hv := viewS_rows (by decide) hc
  simp only [List.length_map] at hv
  refine ⟨_, _, by simp only [viewArgs, contR_isSl hc, if_true, hv, Option.bind_some, Option.map_some]; rfl, by simp, ?_⟩
  refine (evFn_eq ..).trans ?_
  refine (rf_start _ nid ks n _ _ _).trans ?_
  exact rf_loop nid ks n _ ss hl ss [] manyR rfl (Nat.lt_of_le_of_lt hl (of_decide_eq_true rfl))
def rrTop : ACode := af_hollowtreeref17_Right.code
def rrL : ACode := rrTop.r.l.r.b.b
def rrCn : Option Canon := some ⟨[], [1,3], [], [0,16], 17⟩
def afRightOf (F : Nat) : AFn := ⟨48, [.t 2], .seq none rrTop.l (.seq none (.seq none rrTop.r.l.l (.block 0 none (.loop F rrCn rrL))) rrTop.r.r)⟩
def afRight : AFn := afRightOf manyR
def Rr0 : Env := envAdd id_hollowtreeref17_Find (.full findC) G10
def rrH (r : Rat) (len m : Nat) (xs : List (List AV)) : Am.Heap := ⟨17, [roC 0 (.rows 65 m xs), cel 16 (r.segs (ckS len))]⟩
def rrSt (r : Rat) (len m : Nat) (xs : List (List AV)) (i : Int) : St := ⟨mkT 48 [(1, pt 16), (3, .int .i64 i)], rrH r len m xs⟩
def rrK (nid : Nat) : Kont := kBlock 0 none (kSeq Rr0 none rrTop.r.r (kFn [.t 2] (kOut none nid)))
def rrD : List AOper := match rrL.r.l.b with | .seq _ (.draw ops) _ => ops | _ => []
def rrC : ACode := rrL.r.l.b.r
def rrI : ACode := rrL.r.r
def footsTo (ops : List AOper) (t : List AV) (k : Nat) : Foots := (List.range k).map fun j => (j, match ops[j]? with | some o => foot o.op t | none => .none)
def f163 : AV := .ptr 16 0 0 163 0
def rrT1 (len : Nat) (i : Int) (s : List AV) : List (Nat × AV) := [(1, pt 16), (3, .int .i64 i), (4, .int .i64 i), (5, f163), (6, ckS len), (7, .int .i64 len), (8, .bool true), (11, f163), (12, ckS len), (13, .int .i64 i), (14, .slice 0 0 (0 + 0) (i.toNat - 0) 65 none), (15, f163), (16, ckS len), (17, .int .i64 i), (18, .ptr 0 (0 + i.toNat) 65 0 0), (19, .ptr 0 (0 + i.toNat) 65 (0 + 0) 0), (20, .agg s)]
def rrKD (K : Kont) : List AV → Am.Heap → Option Res := fun t h => kSeq Rr0 none rrC K .normal ⟨t, { h with next := 17 + stride * rrD.length }⟩
theorem rr_round (L : St → Option Res) (nid : Nat) (r : Rat) (len m : Nat) (xs : List (List AV)) (i : Int) : ev Rr0 rrL (rrSt r len m xs i) (kLoop rrCn L (rrK nid)) =
    bif decide (i < len) then (if 0 ≤ i ∧ i ≤ (len : Int) then rowCut i len xs 0 32 fun s =>
      evDraw Rr0 17 (befs rrD []) 10 (rrD.drop 10) (mkT 48 (rrT1 len i s)) (rrH r len m xs) (footsTo rrD (mkT 48 (rrT1 len i s)) 10) (rrKD (kBlock 1 none (kSeq Rr0 none rrI (kLoop rrCn L (rrK nid))))) else none)
    else rrK nid (.exit 0) ⟨mkT 48 [(1, pt 16), (3, .int .i64 i), (4, .int .i64 i), (5, f163), (6, ckS len), (7, .int .i64 len), (8, .bool false)], rrH r len m xs⟩ := by kernel_rfl
def rrT2 (len : Nat) (i : Int) (k : List Int) (u : AV) : List (Nat × AV) := rrT1 len i [.ints .u8 32 k] ++ [(21, f163), (22, ckS len), (23, .int .i64 i), (24, .ptr 0 (0 + i.toNat) 65 0 0), (25, .ptr 0 (0 + i.toNat) 65 (0 + 32) 0), (26, u)]
theorem rr_two (K : Kont) (r : Rat) (len m : Nat) (xs : List (List AV)) (i : Int) (k : List Int) :
    evDraw Rr0 17 (befs rrD []) 10 (rrD.drop 10) (mkT 48 (rrT1 len i [.ints .u8 32 k])) (rrH r len m xs) (footsTo rrD (mkT 48 (rrT1 len i [.ints .u8 32 k])) 10) (rrKD K) =
    rowRd i len xs 32 fun u => evDraw Rr0 17 (befs rrD []) 16 (rrD.drop 16) (mkT 48 (rrT2 len i k u)) (rrH r len m xs) (footsTo rrD (mkT 48 (rrT2 len i k u)) 16) (rrKD K) := by kernel_rfl
def wSkB (xs : List (List AV)) (k : List Sk → Option Res) : Option Res := (skAll xs).bind fun ss => if ss.length ≤ 1152921504606846976 then k ss else none
theorem rr_three (L : St → Option Res) (nid : Nat) (r : Rat) (len m : Nat) (xs : List (List AV)) (i : Int) (k : List Int) (n : Int) :
    evDraw Rr0 17 (befs rrD []) 16 (rrD.drop 16) (mkT 48 (rrT2 len i k (.int .u32 n))) (rrH r len m xs) (footsTo rrD (mkT 48 (rrT2 len i k (.int .u32 n))) 16) (rrKD (kBlock 1 none (kSeq Rr0 none rrI (kLoop rrCn L (rrK nid))))) =
    wSkB ((xs.drop (0 + 0)).take (i.toNat - 0)) fun ss => bif decide (findI k n ss 0 ≥ 0) then yes false else L (rrSt r len m xs (w63 (i + 1))) := by kernel_rfl
theorem rr_end (nid : Nat) (r : Rat) (len m : Nat) (xs : List (List AV)) (i : Int) : rrK nid (.exit 0) ⟨mkT 48 [(1, pt 16), (3, .int .i64 i), (4, .int .i64 i), (5, f163), (6, ckS len), (7, .int .i64 len), (8, .bool false)], rrH r len m xs⟩ =
    bif decide ((len : Int) ≤ 8) then bif decide (r.sent ≤ 2147483648) then bif decide (r.got ≤ 2147483648) then yes (decide (r.bef ≤ 2147483648)) else yes false else yes false else yes false := by kernel_rfl
theorem rr_start (F nid : Nat) (r : Rat) (len m : Nat) (xs : List (List AV)) : ev Rr0 (afRightOf F).code ⟨[.agg (r.segs (ckS len))] ++ List.replicate 47 .undef, ⟨16, [roC 0 (.rows 65 m xs)]⟩⟩ (kFn [.t 2] (kOut none nid)) =
    loopK rrCn (ev Rr0 rrL) F (rrSt r len m xs 0) (rrK nid) := by kernel_rfl
def rightB (r : Rat) (ss : List Sk) : Bool := checkI r ss == 0
theorem right_of (r : Rat) (ss : List Sk) : (bif dupI [] ss then yes false else bif decide ((ss.length : Int) ≤ 8) then bif decide (r.sent ≤ 2147483648) then bif decide (r.got ≤ 2147483648) then yes (decide (r.bef ≤ 2147483648)) else yes false else yes false else yes false) = yes (rightB r ss) := by
  unfold rightB checkI
  rw [show decide ((ss.length : Int) > 8) = !decide ((ss.length : Int) ≤ 8) by rw [← decide_not]; congr 1; simp, show decide (r.sent > 2147483648) = !decide (r.sent ≤ 2147483648) by rw [← decide_not]; congr 1; simp, show decide (r.got > 2147483648) = !decide (r.got ≤ 2147483648) by rw [← decide_not]; congr 1; simp, show decide (r.bef > 2147483648) = !decide (r.bef ≤ 2147483648) by rw [← decide_not]; congr 1; simp]
  cases dupI [] ss <;> cases decide ((ss.length : Int) ≤ 8) <;> cases decide (r.sent ≤ 2147483648) <;> cases decide (r.got ≤ 2147483648) <;> cases decide (r.bef ≤ 2147483648) <;> rfl
theorem rr_loop (nid : Nat) (r : Rat) (m : Nat) (ss : List Sk) (hl : ss.length ≤ 1152921504606846976) : ∀ (t pre : List Sk) (F : Nat), ss = pre ++ t → t.length < F →
    loopK rrCn (ev Rr0 rrL) F (rrSt r ss.length m (ss.map skR) (pre.length : Int)) (rrK nid) = bif dupI pre t then yes false else
      bif decide ((ss.length : Int) ≤ 8) then bif decide (r.sent ≤ 2147483648) then bif decide (r.got ≤ 2147483648) then yes (decide (r.bef ≤ 2147483648)) else yes false else yes false else yes false
  | [], pre, F + 1, he, _ => by
    refine (rr_round _ nid r ss.length m _ _).trans ?_
    have : ss.length = pre.length := by rw [he]; simp
    rw [decide_eq_false (by omega), cond_false]
    exact rr_end ..
  | s :: t, pre, F + 1, he, hF => by
    have hlen : ss.length = pre.length + t.length + 1 := by rw [he]; simp; omega
    have hs : ss[pre.length]? = some s := by rw [he]; simp
    refine (rr_round _ nid r ss.length m _ _).trans ?_
    rw [decide_eq_true (by omega), cond_true, if_pos ⟨by omega, by omega⟩, rowCut_key pre.length (by omega) hs, rr_two, rowRd_num pre.length (by omega) hs, rr_three]
    have e1 : ((ss.map skR).drop (0 + 0)).take ((pre.length : Int).toNat - 0) = pre.map skR := by
      rw [he]; simp
    rw [e1, wSkB, skAll_rows, Option.bind_some, if_pos (by omega)]
    have ih := rr_loop nid r m ss hl t (pre ++ [s]) F (by rw [he]; simp) (by simp at hF; omega)
    rw [w63_of (by omega) (by omega)]
    have e : (((pre ++ [s]).length : Nat) : Int) = (pre.length : Int) + 1 := by simp
    rw [e] at ih
    rw [ih]
    simp only [dupI]
    cases decide (findI s.key s.num pre 0 ≥ 0) <;> rfl
  | _ :: _, _, 0, _, h => by omega
def rightO : OrcP := fun _ args h => match args with
  | [v] => withRat v fun r l => withSks h l fun ss => some (.bool (rightB r ss), none)
  | _ => none
theorem right_pure {P : Program} {f : FuncId} (F : Fn P f Rr0 afRight) : PureOk P f rightO := by
  refine F.lit [.agg [.rows 65]] none fun nid args hp r ha hr => ?_
  unfold rightO at hr
  split at hr <;> try (cases hr; done)
  obtain ⟨q, l, e, hr1⟩ := withRat_eq hr
  obtain ⟨ss, hc, hl, hr2⟩ := withSks_eq hr1
  cases hr2
  subst e
  refine ⟨_, _, by simp only [viewArgs, check_view hc, Option.bind_some, Option.map_some, List.append_nil]; rfl, by simp, ?_⟩
  refine (evFn_eq ..).trans ?_
  refine (rr_start _ nid q _ _ _).trans ?_
  exact (rr_loop nid q _ ss hl ss [] manyR rfl (Nat.lt_of_le_of_lt hl (of_decide_eq_true rfl))).trans (right_of q ss)
def rightC : OrcF := fun args h κ => match args with
  | [v] => withRat v fun r l => withSks h l fun ss => κ (.bool (rightB r ss)) h
  | _ => none
theorem right_full {P : Program} {f : FuncId} (h : PureOk P f rightO) : FullOk P f rightC := by
  refine pure_full h fun args hp κ => ?_
  unfold rightC rightO
  split
  · simp only [withRat_map, withSks_map, Option.bind_some, obH]
  · rfl
set_option maxRecDepth 100000
def zJ (s : ByteArray) (j : Nat) : List Int := w8 s.size :: ((bytesOf s).take j ++ List.replicate (48 - j) 0)
theorem bytes_get {s : ByteArray} {j : Nat} (h : j < s.size) : ∃ b, s.data[j]? = some b ∧ (bytesOf s)[j]? = some (b.toNat : Int) := by
  have h' : j < s.data.size := h
  refine ⟨s.data[j], Array.getElem?_eq_getElem h', ?_⟩
  simp only [bytesOf, List.getElem?_map]
  rw [Array.getElem?_toList, Array.getElem?_eq_getElem h']
  rfl
theorem zJ_set {s : ByteArray} {j : Nat} {x : Int} (h : (bytesOf s)[j]? = some x) (hj : j < 48) : (zJ s j).set (0 + (j + 1)) x = zJ s (j + 1) := by
  have hl : j < (bytesOf s).length := (List.getElem?_eq_some_iff.1 h).1
  have e1 : (bytesOf s).take (j + 1) = (bytesOf s).take j ++ [x] := by rw [List.take_add_one, h]; rfl
  obtain ⟨d, hd⟩ : ∃ d, 48 - j = d + 1 := ⟨47 - j, by omega⟩
  have hlt : ((bytesOf s).take j).length = j := by rw [List.length_take]; omega
  unfold zJ
  rw [Nat.zero_add, List.set_cons_succ, List.set_append_right _ _ (by omega), hlt, Nat.sub_self, hd, e1, show 48 - (j + 1) = d by omega, List.replicate_succ, List.set_cons_zero]
  simp
theorem bd_loop (nid : Nat) (s : ByteArray) (hs : s.size ≤ 48) : ∀ (r j F : Nat), s.size = j + r → r < F → loopK bdCn (ev G10 bdL) F (bdSt s (zJ s j) (j : Int)) (bdK nid) = some (.slice nid 0 0 49 0 (some 49), encB nid (some (.segs [.ints .u8 49 (zJ s s.size)])))
  | 0, j, F + 1, h, _ => by
    refine (bd_round ..).trans ?_
    rw [decide_eq_false (by omega), cond_false, h]
    rfl
  | r + 1, j, F + 1, h, hF => by
    refine (bd_round ..).trans ?_
    obtain ⟨b, h1, h2⟩ := bytes_get (s := s) (j := j) (by omega)
    rw [decide_eq_true (by omega), cond_true, if_pos (by omega), Int.toNat_natCast, h1, Option.bind_some, w63_of (by omega) (by omega), if_pos ⟨by omega, by omega⟩]
    have e : ((j : Int) + 1).toNat = j + 1 := by omega
    rw [e, if_pos (by omega), zJ_set h2 (by omega)]
    have ih := bd_loop nid s hs r (j + 1) F (by omega) (by omega)
    rw [show (((j + 1 : Nat)) : Int) = (j : Int) + 1 by omega] at ih
    exact ih
theorem zJ_txt {s : ByteArray} (h : s.size ≤ 48) : zJ s s.size = txtB s := by
  have hl : (bytesOf s).length = s.size := bytesOf_len s
  have e1 : List.set (List.replicate 49 (0 : Int)) 0 (w8 s.size) = w8 s.size :: List.replicate 48 0 := rfl
  unfold zJ txtB
  rw [e1, splice, Nat.min_eq_left h, List.take_of_length_le (l := bytesOf s) (by omega), hl]
  simp only [List.take_succ_cons, List.take_zero, Nat.add_comm 1, List.drop_succ_cons, List.drop_replicate, List.cons_append, List.nil_append]
def bodyRO : OrcP := fun nid args _ => match args with
  | [.str s] => if s.size ≤ 48 then some (.slice nid 0 0 49 0 (some 49), some (.segs [.ints .u8 49 (fixL 49 (txtB s))])) else none
  | _ => none
theorem body_pure {P : Program} {f : FuncId} (F : Fn P f G10 afBody) : PureOk P f bodyRO := by
  refine F.lit [.plain] (some (.ints .u8)) fun nid args hp r ha hr => ?_
  unfold bodyRO at hr
  split at hr <;> try (cases hr; done)
  rename_i s
  split at hr <;> try (cases hr; done)
  rename_i hs
  cases hr
  refine ⟨_, _, rfl, by simp, ?_⟩
  refine (evFn_eq ..).trans ?_
  refine (bd_start 1000 nid s).trans ?_
  have e : List.set (List.replicate 49 (0 : Int)) 0 (w8 s.size) = zJ s 0 := by simp [zJ, List.replicate_succ]
  rw [e, fixL_eq (txtB_len s), ← zJ_txt hs]
  exact bd_loop nid s hs s.size 0 1000 (by omega) (by omega)
theorem lo4_eq {x : Int} (h : rng .u32 x) : lo4 (w64 x) = le4 (w64 x) := by
  have h' := h rfl
  simp only [IntKind.bits] at h'
  have e0 : w64 x = x := w64_of (by omega) (by omega)
  have sh : ∀ y : Int, shB y = y / 256 := fun y => by
    have := fdiv_pow y 8
    simpa [shB] using this
  have q : ∀ y : Int, 0 ≤ y → y < 4294967296 → w64 (y.tdiv 256) = y / 256 := fun y h0 h1 => by
    rw [Int.tdiv_eq_ediv_of_nonneg h0, w64_of (by omega) (by omega)]
  have m : ∀ y : Int, 0 ≤ y → w8 (y.tmod 256) = w8 y := fun y h0 => by
    rw [Int.tmod_eq_emod_of_nonneg h0]
    simp only [w8, IntKind.wrap, IntKind.bits, IntKind.signed, Bool.false_and, Bool.false_eq_true, if_false]
    have e : ((2 : Int) ^ 8) = 256 := by decide
    rw [e]
    omega
  rw [e0]
  unfold lo4 le4
  simp only [sh]
  rw [q x (by omega) (by omega), q (x / 256) (by omega) (by omega), q (x / 256 / 256) (by omega) (by omega), m x (by omega), m (x / 256) (by omega), m (x / 256 / 256) (by omega), m (x / 256 / 256 / 256) (by omega)]
theorem hdr7_pure {P : Program} {f : FuncId} (F : Fn P f RkB af_hollowtreeref17_Header) : PureOk P f hdrRO := by
  refine F.lit [.plain] (some (.ints .u8)) fun nid args hp r ha hr => ?_
  unfold hdrRO at hr
  split at hr <;> try (cases hr; done)
  rename_i k p n
  cases hr
  obtain ⟨⟨⟨q1, _⟩, q3, q4, _⟩, _⟩ := ha.ok
  refine ⟨_, _, rfl, by simp, ?_⟩
  obtain ⟨k, rfl⟩ := tab_of q1
  refine (hdrR_run nid k p n).trans ?_
  rw [fixL_eq (tab_len ..), hdrRL, lo4_eq q3, lo4_eq q4]
  rfl
def drOps : ACode → List AOper
  | .draw o => o
  | _ => []
def sgTop : ACode := af_hollowtreeref17_Seal.code
def sgA : ACode := sgTop.l
def sgB : ACode := sgTop.r.l
def sgC : ACode := sgTop.r.r.l
def sgD : ACode := sgTop.r.r.r.l
def sgOps : List AOper := drOps sgTop.r.r.r.r.l
def sgR : ACode := sgTop.r.r.r.r.r
def sgCn : Option Canon := some ⟨[], [1,2,4,5,6,7,8,9], [], [16], 0⟩
def afSealR : AFn := ⟨45, [.cell 4 true 164, .cell 5 true 99], .seq none sgA (.seq none sgB (.seq none sgC (.seq sgCn sgD (.seq none (.draw sgOps) sgR))))⟩
def SgE (C : SeC) : Env := envAdd id_hollowtreeref03_X (.pure (keyXV C.x)) (envAdd id_hollowtreeref05_Step (.pure (stepQ C.stA C.stB)) (envAdd id_hollowtreeref17_Header (.pure hdrRO) (envAdd id_hollowtreeref17_Body (.pure bodyRO) (envAdd id_hollowtreeref08_Seal (.pure (aSealV C.cip)) G10))))
def sgM0 (C : SeC) (r : Rat) : Msg := ⟨pubX C.x r.own, r.bef, r.sent, List.replicate 65 0⟩
def sgHd (C : SeC) (r : Rat) : List AV := [.ints .u8 32 (pubX C.x r.own), .int .u32 r.bef, .int .u32 r.sent]
def sgCells (C : SeC) (r : Rat) (n m : Nat) (xs : List (List AV)) : List Cell := [roC 0 (.rows 65 m xs), cel 16 (r.segs (ckS n)), cel 17 (nRatS.segs .nils), cel 18 zMsg7.segs, cel 19 (sgHd C r), cel 20 [.ints .u8 32 (C.stA r.send)], cel 21 [.ints .u8 32 (C.stB r.send)], cel 22 (sgM0 C r).segs]
def sgT0 (s : ByteArray) : List (Nat × AV) := [(1, .str s), (2, pt 16), (4, pt 17), (5, pt 18), (6, pt 19), (7, pt 20), (8, pt 21), (9, pt 22)]
def sgS (C : SeC) (r : Rat) (n m : Nat) (xs : List (List AV)) (s : ByteArray) : St := ⟨mkT 45 (sgT0 s), ⟨23, sgCells C r n m xs⟩⟩
theorem sg_pre (C : SeC) (X : ACode) (K : Kont) (r : Rat) (n m : Nat) (xs : List (List AV)) (s : ByteArray) : ev (SgE C) (.seq none sgA (.seq none sgB (.seq none sgC (.seq sgCn sgD X)))) ⟨[.agg (r.segs (ckS n)), .str s] ++ List.replicate 43 .undef, ⟨16, [roC 0 (.rows 65 m xs)]⟩⟩ K =
    ev (SgE C) X (sgS C r n m xs s) K := by kernel_rfl
def sgT1 (C : SeC) (r : Rat) (s : ByteArray) : List AV := mkT 45 (sgT0 s ++ [(27, .ptr 22 0 0 34 0), (28, .slice 22 34 0 65 0 (some 65)), (29, key (C.stB r.send)), (30, .agg [.ints .u8 12 nz12]), (31, .agg (sgHd C r)), (32, .slice (23 + stride * 5) 0 0 40 0 (some 40)), (33, .str s)])
def sgH1 (C : SeC) (r : Rat) (n m : Nat) (xs : List (List AV)) : Am.Heap := ⟨23, sgCells C r n m xs ++ [cel (23 + stride * 5) [.ints .u8 40 (hdrB (fixL 32 (pubX C.x r.own)) r.bef r.sent)]]⟩
theorem sg_d1 (C : SeC) (κ : List AV → Am.Heap → Option Res) (r : Rat) (n m : Nat) (xs : List (List AV)) (s : ByteArray) : (if okDraw (SgE C) (befs sgOps []) 0 sgOps then evDraw (SgE C) 23 (befs sgOps []) 0 sgOps (sgS C r n m xs s).t (sgS C r n m xs s).h [] κ else none) =
    (bodyRO (23 + stride * 7) [.str s] ⟨0, []⟩).bind fun q => evDraw (SgE C) 23 (befs sgOps []) 8 (sgOps.drop 8) ((sgT1 C r s).set 34 q.1) ((sgH1 C r n m xs).ins (23 + stride * 7) q.2) (footsTo sgOps (sgT1 C r s) 8) κ := by kernel_rfl
def Rat.hd (r : Rat) : List AV := [.ints .u8 32 r.root, .ints .u8 32 r.own, .ints .u8 32 r.peer, .ints .u8 32 r.send, .ints .u8 32 r.recv, .int .u32 r.sent, .int .u32 r.got, .int .u32 r.bef]
theorem CR_last {ι : Inj} {a : List AV} {b b' : AV} {vs : List Value} (h : CR ι (a ++ [b]) vs) (hb : ∀ x, SR ι b x → SR ι b' x) : CR ι (a ++ [b']) vs := by
  refine ⟨by rw [← h.1]; simp, fun i v hi => ?_⟩
  by_cases hl : i < a.length
  · rw [List.getElem?_append_left hl] at hi
    exact h.2 i v (by rw [List.getElem?_append_left hl]; exact hi)
  · rw [List.getElem?_append_right (by omega)] at hi
    have hi0 : i - a.length = 0 := by
      have := (List.getElem?_eq_some_iff.1 hi).1
      simpa using this
    rw [hi0] at hi
    simp only [List.getElem?_cons_zero, Option.some.injEq] at hi
    subst hi
    obtain ⟨x, hx, hs⟩ := h.2 i b (by rw [List.getElem?_append_right (by omega), hi0]; rfl)
    exact ⟨x, hx, hb x hs⟩
theorem cells_hd (r : Rat) {l : AV} (h : segC l = [l]) : cellsL (r.segs l) = cellsL r.hd ++ [l] := by
  have : r.segs l = r.hd ++ [l] := rfl
  rw [this, cellsL, List.flatMap_append]
  simp only [List.flatMap_cons, List.flatMap_nil, List.append_nil, h]
  rfl
theorem nil_rows {ι : Inj} {r : Rat} {x : Value} (h : VA ι (.agg (r.segs .nils)) x) : VA ι (.agg (r.segs (.islR 65 []))) x := by
  obtain ⟨cs, e, wf, hc⟩ := h
  refine ⟨cs, e, fun s hs => ?_, ?_⟩
  · have hs' : s ∈ r.hd ++ [AV.islR 65 []] := hs
    rcases List.mem_append.1 hs' with h1 | h1
    · exact wf s (by show s ∈ r.hd ++ [AV.nils]; exact List.mem_append_left _ h1)
    · simp only [List.mem_singleton] at h1; subst h1; trivial
  · rw [cells_hd r (by rfl)] at hc ⊢
    exact CR_last hc fun x hx => ⟨none, 0, hx, by decide, by simp, Nat.le_refl _, .inl rfl⟩
theorem VAL.heads {ι : Inj} {a b : AV} {l : List AV} {vs : List Value} (h : VAL ι (a :: l) vs) (hb : ∀ x, VA ι a x → VA ι b x) : VAL ι (b :: l) vs := by
  refine ⟨by rw [← h.1]; rfl, fun i v hi => ?_⟩
  cases i with
  | zero =>
    simp only [List.getElem?_cons_zero, Option.some.injEq] at hi
    subst hi
    obtain ⟨x, hx, hs⟩ := h.2 0 a rfl
    exact ⟨x, hx, hb x hs⟩
  | succ i => exact h.2 (i + 1) v hi
theorem PureOk.weak {P : Program} {f : FuncId} {o o' : OrcP} (h : PureOk P f o) (hw : ∀ nid args hp v ob, o' nid args hp = some (v, ob) → ∃ v0, o nid args hp = some (v0, none) ∧ ob = none ∧ ∀ ι x, VR ι v0 x → VR ι v x) : PureOk P f o' := by
  intro nid args hp v ob ι w vs hk R hn ha
  obtain ⟨v0, h1, rfl, h3⟩ := hw nid args hp v ob hk
  refine (h nid args hp v0 none ι w vs h1 R hn ha).mono fun x w' hr => ?_
  obtain ⟨F, f1, f2, f3⟩ := hr.res
  exact ⟨hr.os, hr.tape, hr.output, hr.size, hr.frame, F, f1, f2, h3 _ x f3⟩
set_option maxRecDepth 100000
theorem sg_d2 (C : SeC) (r : Rat) (n m : Nat) (xs : List (List AV)) (s : ByteArray) :
    evDraw (SgE C) 23 (befs sgOps []) 8 (sgOps.drop 8) ((sgT1 C r s).set 34 (.slice (23 + stride * 7) 0 0 49 0 (some 49))) ((sgH1 C r n m xs).ins (23 + stride * 7) (some (.segs [.ints .u8 49 (fixL 49 (txtB s))]))) (footsTo sgOps (sgT1 C r s) 8)
      (fun t h => kSeq (SgE C) none sgR (kFn [.cell 4 true 164, .cell 5 true 99] kV) .normal ⟨t, { h with next := 23 + stride * sgOps.length }⟩) =
    some (.tuple [.agg ((sealRat C r).segs (ckS n)), .agg (sealMsg C r s).segs], ⟨0, []⟩) := by kernel_rfl
theorem sealR_run (C : SeC) (r : Rat) (n m : Nat) (xs : List (List AV)) (s : ByteArray) (hs : s.size ≤ 48) : evFn (SgE C) afSealR [.agg (r.segs (ckS n)), .str s] ⟨16, [roC 0 (.rows 65 m xs)]⟩ kV = some (.tuple [.agg ((sealRat C r).segs (ckS n)), .agg (sealMsg C r s).segs], ⟨0, []⟩) := by
  refine (evFn_eq ..).trans ?_
  refine (sg_pre C (.seq none (.draw sgOps) sgR) _ r n m xs s).trans ?_
  refine (sg_d1 C _ r n m xs s).trans ?_
  rw [bodyRO, if_pos hs, Option.bind_some]
  exact sg_d2 C r n m xs s
theorem Fn.back {P : Program} {f : FuncId} {Γ : Env} {af : AFn} (F : Fn P f Γ af) {args args' : List AV} {nid : Nat} {h : Heap} {v : AV} {ids : List Nat} {bl : List Cell} (hi : idsOf h args = ids)
    (hc : ((avIds.avIdsL args).all ids.contains && closed h ids && decide (ids.length ≤ 16)) = true) (ha : rnL (posN ids) args = args') (hb : litBlks h (posN ids) ids 0 = bl) (hv : newOf 16 (avIds v) = [])
    (hr : evFn Γ af args' ⟨16, bl⟩ kV = some (v, ⟨0, []⟩)) : pureOf 16 (fun args h κ => evFn Γ af args h κ) nid args h = some (rnAV (backN ids nid) v, none) := by
  have h3 := F.factor args' ⟨16, bl⟩ kV
  simp only at h3
  rw [h3] at hr
  unfold pureOf
  simp only [hi, hc, ha, hb, if_true]
  cases hk : evFn Γ af args' ⟨16, bl⟩ kH with
  | none => rw [hk] at hr; cases hr
  | some q =>
    obtain ⟨v', h'⟩ := q
    rw [hk] at hr
    simp only [Option.bind_some, kV, Option.some.injEq, Prod.mk.injEq, and_true] at hr
    subst hr
    simp only [Option.bind_some, hv]
def sealRP (C : SeC) : OrcP := fun _ args h => match args with
  | [v, .str s] => withRat v fun r l => match l with
    | .slice id 0 0 n 65 none => (match h.get id with
      | some ⟨_, _, .rows 65 _ _⟩ => if s.size ≤ 48 then some (.tuple [.agg ((sealRat C r).segs (.slice id 0 0 n 65 none)), .agg (sealMsg C r s).segs], none) else none
      | _ => none)
    | _ => none
  | _ => none
theorem sealR_back {P : Program} {f : FuncId} {C : SeC} (F : Fn P f (SgE C) afSealR) : PureOk P f (sealRP C) := by
  refine F.ok.pure fun nid args hp r ha hr => ?_
  unfold sealRP at hr
  split at hr <;> try (cases hr; done)
  rename_i v s
  obtain ⟨q, l, rfl, hr1⟩ := withRat_eq hr
  split at hr1 <;> try (cases hr1; done)
  rename_i id n
  split at hr1 <;> try (cases hr1; done)
  rename_i ci ro m xs hg
  split at hr1 <;> try (cases hr1; done)
  rename_i hs
  cases hr1
  have hb : blkIds (⟨ci, ro, .rows 65 m xs⟩ : Cell).blk = [] := rfl
  have hi : idsOf hp [.agg (q.segs (.slice id 0 0 n 65 none)), .str s] = [id] := by
    simp only [idsOf, Rat.segs, avIds.avIdsL, avIds, List.append_nil, List.nil_append, List.flatMap_cons, List.flatMap_nil, hg, hb, dedupN, List.contains_nil, Bool.false_eq_true, if_false]
  have := F.back (nid := nid) (args' := [.agg (q.segs (ckS n)), .str s]) (bl := [roC 0 (.rows 65 m xs)]) (v := .tuple [.agg ((sealRat C q).segs (ckS n)), .agg (sealMsg C q s).segs]) hi ?_ ?_ ?_ ?_ (sealR_run C q n m xs s hs)
  · rw [this]
    rfl
  · simp only [closed, List.all_cons, List.all_nil, hg, hb, Rat.segs, avIds.avIdsL, avIds, List.append_nil, List.nil_append, Bool.and_true, List.contains_cons, List.contains_nil, Bool.or_false, beq_self_eq_true, Bool.true_and]
    rfl
  · simp only [rnL, rnAV.rnL, rnAV, Rat.segs, posN, if_true, ckS]
  · simp only [litBlks, hg, rnBlk, roC]
  · rfl
def sealRC (C : SeC) : OrcF := fun args h κ => match args with
  | [v, .str s] => withRat v fun r l => match l with
    | .slice id 0 0 n 65 none => (match h.get id with
      | some ⟨_, _, .rows 65 _ _⟩ => if s.size ≤ 48 then κ (.tuple [.agg ((sealRat C r).segs (.slice id 0 0 n 65 none)), .agg (sealMsg C r s).segs]) h else none
      | _ => none)
    | _ => none
  | _ => none
theorem sealR_full {P : Program} {f : FuncId} {C : SeC} (h : PureOk P f (sealRP C)) : FullOk P f (sealRC C) := by
  refine pure_full h fun args hp κ => ?_
  unfold sealRC sealRP
  split
  · simp only [withRat_map]
    congr 1
    funext r l
    split
    · split
      · split <;> rfl
      · rfl
    · rfl
  · first
    | rfl
    | (rename_i hx
       split
       · exact (hx _ _ rfl).elim
       · rfl)
theorem wS7_rows {ss : List Sk} (h : ss.length ≤ 1152921504606846976) (k : List Sk → Option Res) : wS7 (ss.map skR) k = k ss := by
  rw [wS7, skAll_rows, Option.bind_some, if_pos h]
theorem cut7_rows (ss : List Sk) : cut7 ss.length (ss.map skR) = ss.map skR := by rw [cut7, List.drop_zero, List.take_of_length_le (by simp)]
structure SeV where
  rat : Rat
  sks : List Sk
  msg : Msg
  err : Int
def sealW7 (C : SeC) (r : Rat) (ss : List Sk) (s : ByteArray) : SeV :=
  bif checkI r ss != 0 then ⟨nRatS, [], zMsg7,270⟩ else bif decide (((s.size : Nat) : Int) < 1) then ⟨nRatS, [], zMsg7,2⟩ else bif decide (((s.size : Nat) : Int) > 48) then ⟨nRatS, [], zMsg7,2⟩ else
    bif r.sent == 2147483648 then ⟨nRatS, [], zMsg7,3⟩ else bif (r.send == hz32) && true then ⟨nRatS, [], zMsg7,3⟩ else ⟨sealRat C r, ss, sealMsg C r s, 0⟩
def seV1 (v : SeV) : AV := bif v.err == 0 then .tuple [.agg (v.rat.segs (.islR 65 (v.sks.map skR))), .agg v.msg.segs, .int .i64 v.err] else .tuple [.agg (v.rat.segs .nils), .agg v.msg.segs, .int .i64 v.err]
theorem ck_len {r : Rat} {ss : List Sk} (h : checkI r ss = 0) : ss.length ≤ 8 := by
  unfold checkI at h
  cases hd : decide ((ss.length : Int) > 8)
  · have := of_decide_eq_false hd; omega
  · rw [hd, cond_true] at h; cases h
theorem seal7_run (C : SeC) (nid : Nat) (r : Rat) (ss : List Sk) (s : ByteArray) (hl : ss.length ≤ 1152921504606846976) : evFn (SeE C) af_ratchet_Seal [.agg (r.segs (ckS ss.length)), .str s] ⟨16, [roC 0 (.rows 65 ss.length (ss.map skR))]⟩ (kOut none nid) =
    some (seV1 (sealW7 C r ss s), ⟨0, []⟩) := by
  refine (seal7_run1 ..).trans ?_
  rw [cut7_rows, wS7_rows hl, wS7_rows hl]
  unfold sealW7
  cases hc : checkI r ss != 0
  · have h8 : ss.length ≤ 8 := ck_len (by simpa using hc)
    simp only [cond_false]
    rw [if_pos (by omega), cut7_rows]
    cases decide (((s.size : Nat) : Int) < 1) <;> cases decide (((s.size : Nat) : Int) > 48) <;> cases r.sent == 2147483648 <;> cases (r.send == hz32) && true <;> rfl
  · rfl
def sealP7 (C : SeC) : OrcP := fun _ args h => match args with
  | [v, .str s] => withRat v fun r l => withSks h l fun ss => some (seV1 (sealW7 C r ss s), none)
  | _ => none
theorem seal7_pure {P : Program} {f : FuncId} {C : SeC} (F : Fn P f (SeE C) af_ratchet_Seal) : PureOk P f (sealP7 C) := by
  refine F.lit [.agg [.rows 65], .plain] none fun nid args hp r ha hr => ?_
  unfold sealP7 at hr
  split at hr <;> try (cases hr; done)
  rename_i v s
  obtain ⟨q, l, rfl, hr⟩ := withRat_eq hr
  obtain ⟨ss, hc, hl, hr⟩ := withSks_eq hr
  cases hr
  refine ⟨_, _, by simp only [viewArgs, check_view hc, Option.bind_some, Option.map_some, List.append_nil, avIds, avIds.avIdsL, List.isEmpty_nil, if_true]; rfl, by simp, ?_⟩
  exact seal7_run C nid q ss s hl
abbrev SeF := Rat → List Sk → ByteArray → SeV
def sealU7 (V : SeF) : OrcP := fun _ args h => match args with
  | [v, .str s] => withRat v fun r l => withSks h l fun ss => some (.tuple [.agg ((V r ss s).rat.segs (.islR 65 ((V r ss s).sks.map skR))), .agg (V r ss s).msg.segs, .int .i64 (V r ss s).err], none)
  | _ => none
theorem sealW7_nil (C : SeC) (r : Rat) (ss : List Sk) (s : ByteArray) : (sealW7 C r ss s).err = 0 ∨ (sealW7 C r ss s).sks = [] := by
  unfold sealW7
  cases checkI r ss != 0 <;> cases decide (((s.size : Nat) : Int) < 1) <;> cases decide (((s.size : Nat) : Int) > 48) <;> cases r.sent == 2147483648 <;> cases (r.send == hz32) && true <;> first | exact .inl rfl | exact .inr rfl
theorem sealU7_pure {P : Program} {f : FuncId} {C : SeC} (h : PureOk P f (sealP7 C)) : PureOk P f (sealU7 (sealW7 C)) := by
  refine h.weak fun nid args hp v ob hk => ?_
  unfold sealU7 at hk
  split at hk <;> try (cases hk; done)
  rename_i v s
  obtain ⟨q, l, rfl, hk1⟩ := withRat_eq hk
  obtain ⟨ss, hc, hl, hk2⟩ := withSks_eq hk1
  cases hk2
  refine ⟨seV1 (sealW7 C q ss s), ?_, rfl, fun ι x hx => ?_⟩
  · show (withSks hp l fun ss => some (seV1 (sealW7 C q ss s), none)) = _
    unfold withSks
    rw [hc]
    simp only [Option.bind_some, skAll_rows]
    rw [if_pos hl]
  · unfold seV1 at hx
    rcases sealW7_nil C q ss s with e | e
    · rw [e] at hx ⊢
      exact hx
    · cases hz : (sealW7 C q ss s).err == 0
      · rw [hz] at hx
        obtain ⟨vs, rfl, hv⟩ := hx
        rw [e]
        exact ⟨vs, rfl, hv.heads fun y hy => nil_rows hy⟩
      · rw [hz] at hx
        exact hx
def sealUC7 (V : SeF) : OrcF := fun args h κ => match args with
  | [v, .str s] => withRat v fun r l => withSks h l fun ss => κ (.tuple [.agg ((V r ss s).rat.segs (.islR 65 ((V r ss s).sks.map skR))), .agg (V r ss s).msg.segs, .int .i64 (V r ss s).err]) h
  | _ => none
theorem sealU7_full {P : Program} {f : FuncId} {V : SeF} (h : PureOk P f (sealU7 V)) : FullOk P f (sealUC7 V) := by
  refine pure_full h fun args hp κ => ?_
  unfold sealUC7 sealU7
  split
  · simp only [withRat_map, withSks_map, Option.bind_some, obH]
  · first
    | rfl
    | (rename_i hx
       split
       · exact (hx _ _ rfl).elim
       · rfl)
set_option maxRecDepth 100000
def rqTop : ACode := af_hollowtreeref17_Same.code
def rqL : ACode := rqTop.r.r.l.r.b.b
def rqCn : Option Canon := some ⟨[], [2,3,5], [], [0,1,16,17], 18⟩
def afRqOf (F : Nat) : AFn := ⟨85, [.t 4], .seq none rqTop.l (.seq none rqTop.r.l (.seq none (.seq none rqTop.r.r.l.l (.block 0 none (.loop F rqCn rqL))) rqTop.r.r.r))⟩
def afRq : AFn := afRqOf manyR
def rqSt (a b : Rat) (l1 l2 m1 m2 : Nat) (xs ys : List (List AV)) (i : Int) : St := ⟨mkT 85 [(2, pt 16), (3, pt 17), (5, .int .i64 i)], ⟨18, [roC 0 (.rows 65 m1 xs), roC 1 (.rows 65 m2 ys), cel 16 (a.segs (sl65 0 l1)), cel 17 (b.segs (sl65 1 l2))]⟩⟩
def rqK (nid : Nat) : Kont := kBlock 0 none (kSeq G10 none rqTop.r.r.r (kFn [.t 4] (kOut none nid)))
def ratK (a b : Rat) : Option Res :=
  bif (a.root == b.root) && true then bif (a.own == b.own) && true then bif (a.peer == b.peer) && true then bif (a.send == b.send) && true then bif (a.recv == b.recv) && true then
    bif a.sent == b.sent then bif a.got == b.got then yes (a.bef == b.bef) else yes false else yes false else yes false else yes false else yes false else yes false else yes false
theorem rq_round (L : St → Option Res) (nid : Nat) (a b : Rat) (l1 l2 m1 m2 : Nat) (xs ys : List (List AV)) (i : Int) : ev G10 rqL (rqSt a b l1 l2 m1 m2 xs ys i) (kLoop rqCn L (rqK nid)) =
    bif decide (i < l1) then rowAt i l1 xs fun s => rowAt i l2 ys fun s' => eqvK true (.agg t65) (.agg s) (.agg s') fun v => condK (.c v) (rqSt a b l1 l2 m1 m2 xs ys i) (fun _ => yes false) (fun _ => L (rqSt a b l1 l2 m1 m2 xs ys (w63 (i + 1))))
    else ratK a b := by kernel_rfl
theorem rq_start (F nid : Nat) (a b : Rat) (l1 l2 m1 m2 : Nat) (xs ys : List (List AV)) : ev G10 (afRqOf F).code ⟨[.agg (a.segs (sl65 0 l1)), .agg (b.segs (sl65 1 l2))] ++ List.replicate 83 .undef, seH m1 m2 xs ys⟩ (kFn [.t 4] (kOut none nid)) =
    bif (l1 : Int) != (l2 : Int) then yes false else loopK rqCn (ev G10 rqL) F (rqSt a b l1 l2 m1 m2 xs ys 0) (rqK nid) := by kernel_rfl
theorem ratK_eq (a b : Rat) : ratK a b = yes (ratEq a b) := by
  simp only [ratK, ratEq, Bool.and_true]
  cases (a.root == b.root) <;> cases (a.own == b.own) <;> cases (a.peer == b.peer) <;> cases (a.send == b.send) <;> cases (a.recv == b.recv) <;> cases (a.sent == b.sent) <;> cases (a.got == b.got) <;> cases (a.bef == b.bef) <;> rfl
theorem rq_loop (nid : Nat) (a b : Rat) (m1 m2 : Nat) (ss ts : List Sk) (hl : ss.length ≤ 1152921504606846976) (hle : ss.length = ts.length) : ∀ (r u pre pre' : List Sk) (F : Nat), ss = pre ++ r → ts = pre' ++ u → pre.length = pre'.length → r.length < F →
    loopK rqCn (ev G10 rqL) F (rqSt a b ss.length ts.length m1 m2 (ss.map skR) (ts.map skR) (pre.length : Int)) (rqK nid) = yes (eqSks r u && ratEq a b)
  | [], [], pre, pre', F + 1, he, _, _, _ => by
    refine (rq_round _ nid a b ss.length ts.length m1 m2 _ _ _).trans ?_
    have : ss.length = pre.length := by rw [he]; simp
    rw [this, decide_eq_false (by omega), cond_false]
    exact ratK_eq a b
  | s :: r, t :: u, pre, pre', F + 1, he, he', hp, hF => by
    have hlen : ss.length = pre.length + r.length + 1 := by rw [he]; simp; omega
    have hs : ss[pre.length]? = some s := by rw [he]; simp
    have ht : ts[pre.length]? = some t := by rw [he', hp]; simp
    refine (rq_round _ nid a b ss.length ts.length m1 m2 _ _ _).trans ?_
    rw [decide_eq_true (by omega), cond_true, rowAt_eq pre.length (by omega) hs, rowAt_eq pre.length (by omega) ht, eqv_sk]
    have ih := rq_loop nid a b m1 m2 ss ts hl hle r u (pre ++ [s]) (pre' ++ [t]) F (by rw [he]; simp) (by rw [he']; simp) (by simp [hp]) (by simp at hF; omega)
    rw [w63_of (by omega) (by omega)]
    have e : (((pre ++ [s]).length : Nat) : Int) = (pre.length : Int) + 1 := by simp
    rw [e] at ih
    simp only [eqSks]
    cases skEq s t
    · rfl
    · simp only [Bool.not_true, condK, cond_false, Bool.true_and]
      exact ih
  | [], _ :: _, pre, pre', _, he, he', hp, _ => by rw [he, he'] at hle; simp at hle; omega
  | _ :: _, [], pre, pre', _, he, he', hp, _ => by rw [he, he'] at hle; simp at hle; omega
  | _ :: _, _ :: _, _, _, 0, _, _, _, h => by omega
theorem rq_run (nid : Nat) (a b : Rat) (m1 m2 : Nat) (ss ts : List Sk) (hl : ss.length ≤ 1152921504606846976) :
    evFn G10 afRq [.agg (a.segs (sl65 0 ss.length)), .agg (b.segs (sl65 1 ts.length))] (seH m1 m2 (ss.map skR) (ts.map skR)) (kOut none nid) = yes (sameB a b ss ts) := by
  refine (evFn_eq ..).trans ?_
  refine (rq_start _ nid a b _ _ _ _ _ _).trans ?_
  by_cases h : ss.length = ts.length
  · rw [show ((ss.length : Int) != (ts.length : Int)) = false by simp [h], cond_false, sameB, Bool.and_comm]
    exact rq_loop nid a b m1 m2 ss ts hl h ss ts [] [] manyR rfl rfl rfl (Nat.lt_of_le_of_lt hl (of_decide_eq_true rfl))
  · rw [show ((ss.length : Int) != (ts.length : Int)) = true by simp; omega, cond_true, sameB, eqSks_len h, Bool.and_false]
theorem rq_pure {P : Program} {f : FuncId} (F : Fn P f G10 afRq) : PureOk P f rsameO := by
  refine F.lit [.agg [.rows 65], .agg [.rows 65]] none fun nid args hp r ha hr => ?_
  unfold rsameO at hr
  split at hr <;> try (cases hr; done)
  obtain ⟨a, l, e1, hr1⟩ := withRat_eq hr
  obtain ⟨b, l', e2, hr2⟩ := withRat_eq hr1
  obtain ⟨ss, hc, hl, hr3⟩ := withSks_eq hr2
  obtain ⟨ts, hc', hl', hr4⟩ := withSks_eq hr3
  cases hr4
  subst e1 e2
  refine ⟨_, _, by simp only [viewArgs, check_view hc, check_view hc', Option.bind_some, Option.map_some, List.append_nil, List.length_singleton]; rfl, by simp, ?_⟩
  exact rq_run nid a b _ _ ss ts hl
set_option maxRecDepth 100000
def wakesTC : OrcF := fun args h κ => match args with
  | [] => κ (.bool true) h
  | _ => none
theorem wakesT_full {P : Program} {f : FuncId} (h : PureOk P f wakesO) : FullOk P f wakesTC := by
  refine pure_full h fun args hp κ => ?_
  unfold wakesTC wakesO
  split
  · rfl
  · first
    | rfl
    | (rename_i hx
       split
       · exact (hx rfl).elim
       · rfl)
def thereO : OrcP := fun _ args _ => match args with
  | [.agg [.ints .u8 32 xs]] => some (.bool (!((xs == hz32) && true)), none)
  | _ => none
theorem there_pure {P : Program} {f : FuncId} (F : Fn P f G10 af_hollowtreeref17_There) : PureOk P f thereO := by
  refine F.plain fun nid args hp r ha hr => ?_
  unfold thereO at hr
  split at hr <;> try (cases hr; done)
  cases hr
  obtain ⟨⟨⟨hl, _⟩, _⟩, _⟩ := ha
  obtain ⟨g, rfl⟩ := tab_of hl
  exact ⟨rfl, rfl, rfl, thereR_run g⟩
def LqE (C : SeC) (V : SeF) : Env := envAdd id_hollowtreelaw17_wakes (.full wakesTC) (envAdd id_ratchet_Seal (.full (sealUC7 V)) (envAdd id_hollowtreeref17_Same (.full rsameC) (envAdd id_hollowtreeref17_Right (.full rightC) (envAdd id_hollowtreeref17_There (.pure thereO) (envAdd id_hollowtreeref17_Seal (.full (sealRC C)) G10)))))
def msgEq7 (a b : Msg) : Bool := (a.key == b.key) && ((a.prev == b.prev) && ((a.num == b.num) && ((a.body == b.body) && true)))
def endB (b : Bool) (c : Bool) : Option Res := bif b then yes c else yes false
def lqFin (C : SeC) (q : Rat) (n : Nat) (xs : List (List AV)) (s : ByteArray) (v : SeV) : Option Res :=
  if s.size ≤ 48 then (bif v.err == 0 then (wS7 (v.sks.map skR) fun s3 => wS7 (cut7 n xs) fun s4 => bif sameB v.rat (sealRat C q) s3 s4 then yes (msgEq7 v.msg (sealMsg C q s)) else yes false) else yes false) else none
def lqRest (C : SeC) (q : Rat) (n : Nat) (xs : List (List AV)) (s : ByteArray) (v : SeV) (b : Bool) : Option Res :=
  wS7 (cut7 n xs) fun s2 => bif !(rightB q s2) then endB b (v.err == 270) else bif decide (((s.size : Nat) : Int) < 1) then endB b (v.err == 2) else bif decide (((s.size : Nat) : Int) > 48) then endB b (v.err == 2) else
    bif q.sent == 2147483648 then endB b (v.err == 3) else bif !(!((q.send == hz32) && true)) then endB b (v.err == 3) else lqFin C q n xs s v
theorem seals_run1 (C : SeC) (V : SeF) (q : Rat) (n m : Nat) (xs : List (List AV)) (s : ByteArray) : evFn (LqE C V) af_hollowtreelaw17_RatchetSeals [.agg (q.segs (sl65 0 n)), .str s] ⟨16, [roC 0 (.rows 65 m xs)]⟩ kV =
    wS7 (cut7 n xs) fun ss => wS7 ((V q ss s).sks.map skR) fun s1 => bif sameB (V q ss s).rat nRatS s1 [] then lqRest C q n xs s (V q ss s) (msgEq7 (V q ss s).msg zMsg7) else lqRest C q n xs s (V q ss s) false := by kernel_rfl
def asB : Nat → List Cell → Option (List Blk)
  | _, [] => some []
  | k, c :: r => if c.id = k ∧ c.ro = true then (asB (k + 1) r).map (c.blk :: ·) else none
def toC : Nat → List Blk → List Cell
  | _, [] => []
  | k, b :: r => ⟨k, true, b⟩ :: toC (k + 1) r
theorem asB_eq : ∀ {k : Nat} {l : List Cell} {bs : List Blk}, asB k l = some bs → l = toC k bs
  | _, [], bs, h => by cases h; rfl
  | k, ⟨i, ro, b⟩ :: r, bs, h => by
    simp only [asB] at h
    split at h <;> try (cases h; done)
    rename_i hc
    obtain ⟨rfl, rfl⟩ := hc
    cases hr : asB (i + 1) r with
    | none => rw [hr] at h; cases h
    | some q =>
      rw [hr] at h
      cases h
      simp only [toC, asB_eq hr]
def pinO (g : List AV → List Blk → Option AV) : OrcP := fun _ args h =>
  let ids := idsOf h args
  if (avIds.avIdsL args).all ids.contains && closed h ids && decide (ids.length ≤ 16) then (asB 0 (litBlks h (posN ids) ids 0)).bind fun bs => (g (rnL (posN ids) args) bs).map fun v => (v, none) else none
theorem Fn.pinned {P : Program} {f : FuncId} {Γ : Env} {af : AFn} (F : Fn P f Γ af) {g : List AV → List Blk → Option AV}
    (h : ∀ args bs v, g args bs = some v → avIds v = [] ∧ evFn Γ af args ⟨16, toC 0 bs⟩ kV = some (v, ⟨0, []⟩)) : PureOk P f (pinO g) := by
  refine F.ok.pure fun nid args hp r ha hr => ?_
  unfold pinO at hr
  simp only at hr
  split at hr <;> try (cases hr; done)
  rename_i hc
  cases hb : asB 0 (litBlks hp (posN (idsOf hp args)) (idsOf hp args) 0) with
  | none => rw [hb] at hr; cases hr
  | some bs =>
    rw [hb] at hr
    simp only [Option.bind_some] at hr
    cases hg : g (rnL (posN (idsOf hp args)) args) bs with
    | none => rw [hg] at hr; cases hr
    | some v =>
      rw [hg] at hr
      cases hr
      obtain ⟨h1, h2⟩ := h _ _ _ hg
      rw [← asB_eq hb] at h2
      have h3 := F.factor (rnL (posN (idsOf hp args)) args) ⟨16, litBlks hp (posN (idsOf hp args)) (idsOf hp args) 0⟩ kV
      simp only at h3
      rw [h3] at h2
      unfold pureOf
      simp only
      rw [if_pos hc]
      cases hk : evFn Γ af (rnL (posN (idsOf hp args)) args) ⟨16, litBlks hp (posN (idsOf hp args)) (idsOf hp args) 0⟩ kH with
      | none => rw [hk] at h2; cases h2
      | some q =>
        obtain ⟨v', h'⟩ := q
        rw [hk] at h2
        simp only [Option.bind_some, kV, Option.some.injEq, Prod.mk.injEq, and_true] at h2
        subst h2
        simp only [Option.bind_some, h1, newOf, List.filter_nil, dedupN, rnAV_id _ h1]
def isS (v : AV) (id len e : Nat) (cap : Option Nat) : Bool := match v with
  | .slice i o j l e' c => (i == id) && ((o == 0) && ((j == 0) && ((l == len) && ((e' == e) && (c == cap)))))
  | _ => false
theorem isS_eq {v : AV} {id len e : Nat} {cap : Option Nat} (h : isS v id len e cap = true) : v = .slice id 0 0 len e cap := by
  unfold isS at h
  split at h
  · simp only [Bool.and_eq_true, beq_iff_eq] at h
    obtain ⟨rfl, rfl, rfl, rfl, rfl, rfl⟩ := h
    rfl
  · cases h
end Go.Am
