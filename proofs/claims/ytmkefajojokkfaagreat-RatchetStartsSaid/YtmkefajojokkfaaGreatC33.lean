/- RatchetStarts: part 34 of 50 of its proof. -/
import Derived.Test.YtmkefajojokkfaaGreatC21
import Derived.Test.YtmkefajojokkfaaGreatC22
import Derived.Test.YtmkefajojokkfaaGreatC23
import Derived.Test.YtmkefajojokkfaaGreatC24
import Derived.Test.YtmkefajojokkfaaGreatC25
import Derived.Test.YtmkefajojokkfaaGreatC26
import Derived.Test.YtmkefajojokkfaaGreatC27
import Derived.Test.YtmkefajojokkfaaGreatC28
import Derived.Test.YtmkefajojokkfaaGreatC30
import Derived.Test.YtmkefajojokkfaaGreatC31
import Derived.Test.YtmkefajojokkfaaGreatC32
import Derived.SizedLaws
import Derived.RowKit
import Derived.Below
import Derived.Test.YtmkefajojokkfaaGreatC16
set_option linter.unusedVariables false
set_option linter.unusedSimpArgs false
namespace Go.Am
set_option maxRecDepth 100000
def begunT : OrcP := tabO tBegunA tBegunV noneO
def sealT : OrcP := tabO tSealA tSealV noneO
def openT : OrcP := tabO tOpenA tOpenV noneO
def Wk0 : Env := envAdd id_hollowtreelaw17_begun (.pure begunT) G10
def Wk1 : Env := envAdd id_ratchet_Seal (.pure sealT) Wk0
def Wk2 : Env := envAdd id_ratchet_Open (.pure openT) Wk1
theorem wakes_run : evFn Wk2 af_hollowtreelaw17_wakes [] ⟨16, []⟩ kV = some (.bool true, ⟨0, []⟩) := by kernel_rfl
def wakesO : OrcP := fun _ args _ => match args with
  | [] => some (.bool true, none)
  | _ => none
theorem wakes_pure {P : Program} {f : FuncId} (F : Fn P f Wk2 af_hollowtreelaw17_wakes) : PureOk P f wakesO := by
  refine F.plain fun nid args hp r ha hr => ?_
  unfold wakesO at hr
  split at hr <;> try (cases hr; done)
  cases hr
  exact ⟨rfl, rfl, rfl, wakes_run⟩
set_option maxRecDepth 100000
structure Sk where
  key : List Int
  num : Int
  sec : List Int
def skR (s : Sk) : List AV := [.ints .u8 32 s.key, .int .u32 s.num, .ints .u8 32 s.sec]
def skOf : List AV → Option Sk
  | [.ints .u8 32 k, .int .u32 n, .ints .u8 32 s] => some ⟨k, n, s⟩
  | _ => none
theorem skOf_eq {l : List AV} {s : Sk} (h : skOf l = some s) : l = skR s := by
  unfold skOf at h
  split at h <;> cases h
  rfl
def skAll : List (List AV) → Option (List Sk)
  | [] => some []
  | l :: r => (skOf l).bind fun s => (skAll r).map (s :: ·)
theorem skAll_eq : ∀ {l : List (List AV)} {ss : List Sk}, skAll l = some ss → l = ss.map skR
  | [], ss, h => by cases h; rfl
  | l :: r, ss, h => by
    simp only [skAll] at h
    cases h1 : skOf l with
    | none => rw [h1] at h; cases h
    | some s =>
      rw [h1] at h
      simp only [Option.bind_some] at h
      cases h2 : skAll r with
      | none => rw [h2] at h; cases h
      | some t =>
        rw [h2] at h
        cases h
        rw [skOf_eq h1, skAll_eq h2]; rfl
theorem skAll_rows (ss : List Sk) : skAll (ss.map skR) = some ss := by
  induction ss with
  | nil => rfl
  | cons s r ih => simp only [List.map_cons, skAll, ih]; rfl
def rowAt {β : Type} (q : Int) (n : Int) (xs : List (List AV)) (k : List AV → Option β) : Option β := if 0 ≤ q ∧ q < n then (xs[0 + q.toNat]?).bind fun l => (cutSegs l 0 65).bind k else none
theorem rowAt_eq {β : Type} {n : Int} {ss : List Sk} {k : List AV → Option β} (j : Nat) (h1 : (j : Int) < n) {s : Sk} (h2 : ss[j]? = some s) : rowAt (j : Int) n (ss.map skR) k = k (skR s) := by
  unfold rowAt
  rw [if_pos ⟨by omega, h1⟩, Int.toNat_natCast, Nat.zero_add, List.getElem?_map, h2]
  rfl
def roC (id : Nat) (b : Blk) : Cell := ⟨id, true, b⟩
def xfTop : ACode := af_slices_IndexFunc_api_Skip.code
def xfL : ACode := xfTop.r.l.r.b.b
def xfCn : Option Canon := some ⟨[], [0, 1, 6, 7, 8], [], [0, 1, 2], 16⟩
def afIdxOf (F : Nat) : AFn := ⟨19, [.t 4], .seq none xfTop.l (.seq none (.seq none xfTop.r.l.l (.block 0 none (.loop F xfCn xfL))) xfTop.r.r)⟩
def manyR : Nat := 18446744073709551616
def afIdx : AFn := afIdxOf manyR
def Fd0 : Env := envAdd id_ratchet_find_1 (inl G10 af_ratchet_find_1) G10
def xfH (ks : List Int) (n : Int) (m : Nat) (xs : List (List AV)) : Am.Heap := ⟨16, [cel 0 [.ints .u8 32 ks], cel 1 [.int .u32 n], roC 2 (.rows 65 m xs)]⟩
def xfF : AV := .func id_ratchet_find_1 [] [pt 0, pt 1]
def xfSt (ks : List Int) (n : Int) (m len : Nat) (xs : List (List AV)) (i : Int) : St :=
  ⟨mkT 19 [(0, .slice 2 0 0 len 65 none), (1, xfF), (6, .slice 2 0 0 len 65 none), (7, .int .i64 len), (8, .int .i64 i)], xfH ks n m xs⟩
def xfR : ACode := match xfL.r.r.l.b.r with | .seq _ (.reg ops) c => .seq none (.reg (ops.drop 5)) c | c => c
def xfT (ks : List Int) (n : Int) (m len : Nat) (xs : List (List AV)) (i : Int) (s : List AV) : St :=
  ⟨mkT 19 [(0, .slice 2 0 0 len 65 none), (1, xfF), (5, .int .i64 i), (6, .slice 2 0 0 len 65 none), (7, .int .i64 len), (8, .int .i64 i), (9, .bool true), (10, .int .i64 i), (11, xfF), (12, .slice 2 0 0 len 65 none), (13, .int .i64 i), (14, .ptr 2 (0 + i.toNat) 65 0 0), (15, .agg s)], xfH ks n m xs⟩
def xfI : ACode := xfL.r.r.r
theorem xf_round (L : St → Option Res) (κ : Kont) (ks : List Int) (n : Int) (m len : Nat) (xs : List (List AV)) (i : Int) : ev Fd0 xfL (xfSt ks n m len xs i) (kLoop xfCn L κ) =
    bif decide (i < len) then (if 0 ≤ i ∧ i < len then (xs[0 + i.toNat]?).bind fun l => (cutSegs l 0 65).bind fun s => ev Fd0 xfR (xfT ks n m len xs i s) (kBlock 1 none (kSeq Fd0 none xfI (kLoop xfCn L κ))) else none)
    else κ (.exit 0) (withT 9 (.bool false) (xfSt ks n m len xs i)) := by kernel_rfl
def kG (fv : Bool) (fo ids : List Nat) (h : Am.Heap) : AV → Am.Heap → Option Res := fun v h' => outG fv fo ids 16 v h' h
def xfHH (a b : Nat) (h : Am.Heap) (ks : List Int) (n : Int) : Am.Heap := (h.set a (.segs [.ints .u8 32 ks])).set b (.segs [.int .u32 n])
def xfK (a b : Nat) (h : Am.Heap) : Kont := kBlock 0 none (kSeq Fd0 none xfTop.r.r (kFn [.t 4] (kG false [] [a, b] h)))
theorem xf_row (L : St → Option Res) (a b : Nat) (h : Am.Heap) (ks : List Int) (n : Int) (m len : Nat) (xs : List (List AV)) (i : Int) (s : Sk) :
    ev Fd0 xfR (xfT ks n m len xs i (skR s)) (kBlock 1 none (kSeq Fd0 none xfI (kLoop xfCn L (xfK a b h)))) =
    bif (s.key == ks) && true then bif s.num == n then some (.int .i64 i, xfHH a b h ks n) else L (xfSt ks n m len xs (w63 (i + 1))) else L (xfSt ks n m len xs (w63 (i + 1))) := by kernel_rfl
theorem xf_end (a b : Nat) (h : Am.Heap) (ks : List Int) (n : Int) (m len : Nat) (xs : List (List AV)) (i : Int) :
    xfK a b h (.exit 0) (withT 9 (.bool false) (xfSt ks n m len xs i)) = some (.int .i64 (-1), xfHH a b h ks n) := by kernel_rfl
def findI (ks : List Int) (n : Int) : List Sk → Nat → Int
  | [], _ => -1
  | s :: r, i => bif (s.key == ks) && (s.num == n) then (i : Int) else findI ks n r (i + 1)
theorem w63_of {n : Int} (h0 : 0 ≤ n) (h1 : n < 9223372036854775808) : w63 n = n := w63_id (by omega) (by omega)
theorem xf_loop (a b : Nat) (h : Am.Heap) (ks : List Int) (n : Int) (m : Nat) (ss : List Sk) (hl : ss.length ≤ 1152921504606846976) : ∀ (r pre : List Sk) (F : Nat), ss = pre ++ r → r.length < F →
    loopK xfCn (ev Fd0 xfL) F (xfSt ks n m ss.length (ss.map skR) (pre.length : Int)) (xfK a b h) = some (.int .i64 (findI ks n r pre.length), xfHH a b h ks n)
  | [], pre, F + 1, he, _ => by
    refine (xf_round _ _ ks n m ss.length _ _).trans ?_
    have : ss.length = pre.length := by rw [he]; simp
    rw [this, decide_eq_false (by omega), cond_false]
    exact xf_end a b h ks n m _ _ _
  | s :: r, pre, F + 1, he, hF => by
    have hlen : ss.length = pre.length + r.length + 1 := by rw [he]; simp; omega
    have hs : ss[pre.length]? = some s := by rw [he]; simp
    refine (xf_round _ _ ks n m ss.length _ _).trans ?_
    rw [decide_eq_true (by omega), cond_true]
    refine (rowAt_eq (k := fun s => ev Fd0 xfR (xfT ks n m ss.length (ss.map skR) pre.length s) (kBlock 1 none (kSeq Fd0 none xfI (kLoop xfCn (fun s => loopK xfCn (ev Fd0 xfL) F s (xfK a b h)) (xfK a b h))))) pre.length (by omega) hs).trans ?_
    refine (xf_row _ a b h ks n m _ _ _ s).trans ?_
    have ih := xf_loop a b h ks n m ss hl r (pre ++ [s]) F (by rw [he]; simp) (by simp at hF; omega)
    rw [w63_of (by omega) (by omega)]
    have e : (((pre ++ [s]).length : Nat) : Int) = (pre.length : Int) + 1 := by simp
    rw [e] at ih
    rw [ih]
    simp only [findI, List.length_append, List.length_cons, List.length_nil]
    cases (s.key == ks) <;> cases (s.num == n) <;> rfl
  | _ :: _, _, 0, _, h => by omega
theorem xf_start (F : Nat) (κ : Kont) (ks : List Int) (n : Int) (m len : Nat) (xs : List (List AV)) : ev Fd0 (afIdxOf F).code ⟨[.slice 2 0 0 len 65 none, xfF] ++ List.replicate 17 .undef, xfH ks n m xs⟩ κ =
    loopK xfCn (ev Fd0 xfL) F (xfSt ks n m len xs 0) (kBlock 0 none (kSeq Fd0 none xfTop.r.r κ)) := by kernel_rfl
theorem xf_run (a b : Nat) (h : Am.Heap) (ks : List Int) (n : Int) (m : Nat) (ss : List Sk) (hl : ss.length ≤ 1152921504606846976) :
    evFn Fd0 afIdx [.slice 2 0 0 ss.length 65 none, xfF] (xfH ks n m (ss.map skR)) (kG false [] [a, b] h) = some (.int .i64 (findI ks n ss 0), xfHH a b h ks n) := by
  refine (evFn_eq ..).trans ?_
  refine (xf_start _ _ ks n m _ _).trans ?_
  exact xf_loop a b h ks n m ss hl ss [] _ rfl (Nat.lt_of_le_of_lt hl (of_decide_eq_true rfl))
set_option maxRecDepth 100000
def litE (ks : List OK) (fv : Bool) (fo : List Nat) (Γ : Env) (af : AFn) : Orc := .full fun args h κ => (litG ks fv fo 16 (fun args h κ => evFn Γ af args h κ) args h).bind fun r => κ r.1 r.2
theorem litE_ok {P : Program} {f : FuncId} {Γ : Env} {af : AFn} (F : Fn P f Γ af) (ks : List OK) (fv : Bool) (fo : List Nat) : OrcOk P f (litE ks fv fo Γ af) := litG_ok F.ok
def Fd1 : Env := envAdd id_slices_IndexFunc_api_Skip (litE [.arg (.sl (.rows 65)), .obj] false [] Fd0 afIdx) Fd0
def findH (ks : List Int) (n : Int) (len : Nat) (xs : List (List AV)) : Am.Heap := ⟨18, [roC 0 (.rows 65 len xs), cel 16 [.ints .u8 32 ks], cel 17 [.int .u32 n]]⟩
theorem find_A (nid : Nat) (ks : List Int) (n : Int) (len : Nat) (xs : List (List AV)) :
    evFn Fd1 af_ratchet_find [.slice 0 0 0 len 65 none, .agg [.ints .u8 32 ks], .int .u32 n] ⟨16, [roC 0 (.rows 65 len xs)]⟩ (kOut none nid) =
    ((evFn Fd0 afIdx [.slice 2 0 0 ((xs.drop 0).take len).length 65 none, xfF] (xfH ks n ((xs.drop 0).take len).length ((xs.drop 0).take len)) kH).bind fun r => kG false [] [16, 17] (findH ks n len xs) r.1 r.2).bind fun r => kOut none nid r.1 r.2 := by kernel_rfl
def findO : OrcP := fun _ args h => match args with
  | [l, .agg [.ints .u8 32 ks], .int .u32 n] => (contR 65 h l).bind fun xs => (skAll xs).bind fun ss => if ss.length ≤ 1152921504606846976 then some (.int .i64 (findI ks n ss 0), none) else none
  | _ => none
theorem find_pure {P : Program} {f f0 : FuncId} (F : Fn P f Fd1 af_ratchet_find) (F0 : Fn P f0 Fd0 afIdx) : PureOk P f findO := by
  refine F.lit [.sl (.rows 65), .plain, .plain] none fun nid args hp r ha hr => ?_
  unfold findO at hr
  split at hr <;> try (cases hr; done)
  rename_i l ks n
  cases hc : contR 65 hp l with
  | none => rw [hc] at hr; cases hr
  | some xs =>
    rw [hc] at hr
    simp only [Option.bind_some] at hr
    cases hs : skAll xs with
    | none => rw [hs] at hr; cases hr
    | some ss =>
      rw [hs] at hr
      simp only [Option.bind_some] at hr
      split at hr <;> try (cases hr; done)
      rename_i hl
      cases hr
      obtain rfl := skAll_eq hs
      refine ⟨_, _, by simp only [viewArgs, contR_isSl hc, if_true, viewS_rows (by decide) hc, Option.bind_some, Option.map_some]; rfl, by simp, ?_⟩
      have hlen : (ss.map skR).length = ss.length := by simp
      rw [hlen]
      refine (find_A nid ks n ss.length (ss.map skR)).trans ?_
      have e1 : ((ss.map skR).drop 0).take ss.length = ss.map skR := by rw [List.drop_zero, List.take_of_length_le (by simp)]
      rw [e1, hlen]
      have e2 := F0.factor [.slice 2 0 0 ss.length 65 none, xfF] (xfH ks n ss.length (ss.map skR)) (kG false [] [16, 17] (findH ks n ss.length (ss.map skR)))
      simp only at e2
      rw [← e2, xf_run _ _ _ _ _ _ _ hl]
      rfl
abbrev OrcF := List AV → Heap → (AV → Heap → Option Res) → Option Res
theorem pure_full {P : Program} {f : FuncId} {o : OrcP} {C : OrcF} (ho : PureOk P f o) (hC : ∀ args h κ, C args h κ = (o h.next args h).bind fun r => κ r.1 (obH h r.2)) : FullOk P f C where
  factor := fun args h κ => by
    rw [hC args h κ, hC args h kH]
    cases o h.next args h <;> rfl
  sound := fun args h v h' ι w vs hk R hf ha => by
    have hΓ : EnvOk P (envAdd f (.pure o) fun _ => none) := envAdd_ok (o := .pure o) ho env_ok_none
    refine callK_sound hΓ (f := f) ?_ R hf ha
    rw [hC] at hk
    unfold callK envAdd
    simp only [if_true]
    rw [← hk]
    cases o h.next args h with
    | none => rfl
    | some r => obtain ⟨a, b⟩ := r; cases b <;> rfl
def withSks {β : Type} (h : Heap) (l : AV) (k : List Sk → Option β) : Option β := (contR 65 h l).bind fun xs => (skAll xs).bind fun ss => if ss.length ≤ 1152921504606846976 then k ss else none
def findC : OrcF := fun args h κ => match args with
  | [l, .agg [.ints .u8 32 ks], .int .u32 n] => withSks h l fun ss => κ (.int .i64 (findI ks n ss 0)) h
  | _ => none
theorem find_full {P : Program} {f : FuncId} (h : PureOk P f findO) : FullOk P f findC := by
  refine pure_full h fun args hp κ => ?_
  unfold findC findO withSks
  split
  · rename_i l ks n
    try simp only []
    cases contR 65 hp l with
    | none => rfl
    | some xs =>
      simp only [Option.bind_some]
      cases skAll xs with
      | none => rfl
      | some ss =>
        simp only [Option.bind_some]
        split <;> rfl
  · first
    | rfl
    | (rename_i hx
       split
       · exact (hx _ _ _ rfl).elim
       · rfl)
set_option maxRecDepth 100000
def withBs {β : Type} (h : Heap) (s : AV) (k : List Int → Option β) : Option β := (contI .u8 h s).bind fun xs => if xs.length ≤ 140737488351232 then k xs else none
theorem withBs_eq {β : Type} {h : Heap} {l : AV} {k : List Int → Option β} {x : β} (hk : withBs h l k = some x) : ∃ xs, contI .u8 h l = some xs ∧ xs.length ≤ 140737488351232 ∧ k xs = some x := by
  unfold withBs at hk
  cases hc : contI .u8 h l with
  | none => rw [hc] at hk; cases hk
  | some xs =>
    rw [hc] at hk
    simp only [Option.bind_some] at hk
    split at hk
    · rename_i hl; exact ⟨xs, rfl, hl, hk⟩
    · cases hk
set_option maxRecDepth 100000
structure Rat where
  root : List Int
  own : List Int
  peer : List Int
  send : List Int
  recv : List Int
  sent : Int
  got : Int
  bef : Int
def Rat.segs (r : Rat) (l : AV) : List AV := [.ints .u8 32 r.root, .ints .u8 32 r.own, .ints .u8 32 r.peer, .ints .u8 32 r.send, .ints .u8 32 r.recv, .int .u32 r.sent, .int .u32 r.got, .int .u32 r.bef, l]
def ckTop : ACode := af_ratchet_Check.code
def ckL : ACode := ckTop.r.r.l.r.b.b
def ckCn : Option Canon := some ⟨[], [1, 25, 26, 27], [], [0, 16], 17⟩
def afCheckOf (F : Nat) : AFn := ⟨43, [.t 2], .seq none ckTop.l (.seq none ckTop.r.l (.seq none (.seq none ckTop.r.r.l.l (.block 0 none (.loop F ckCn ckL))) ckTop.r.r.r))⟩
def afCheck : AFn := afCheckOf manyR
def Ck0 : Env := envAdd id_ratchet_find (.full findC) G10
def ckS (len : Nat) : AV := .slice 0 0 0 len 65 none
def ckH (r : Rat) (len m : Nat) (xs : List (List AV)) : Am.Heap := ⟨17, [roC 0 (.rows 65 m xs), cel 16 (r.segs (ckS len))]⟩
def ckSt (r : Rat) (len m : Nat) (xs : List (List AV)) (i : Int) : St := ⟨mkT 43 [(1, pt 16), (25, ckS len), (26, .int .i64 len), (27, .int .i64 i)], ckH r len m xs⟩
def ckR : ACode := match ckL.r.r.l.b with | .seq _ (.reg ops) c => .seq none (.reg (ops.drop 3)) c | c => c
def ckT (r : Rat) (len m : Nat) (xs : List (List AV)) (i : Int) (s : List AV) : St :=
  ⟨mkT 43 [(1, pt 16), (25, ckS len), (26, .int .i64 len), (27, .int .i64 i), (28, .bool true), (29, .int .i64 i), (30, .ptr 0 (0 + i.toNat) 65 0 0), (31, .agg s)], ckH r len m xs⟩
def ckI : ACode := ckL.r.r.r
theorem ck_round (L : St → Option Res) (κ : Kont) (r : Rat) (len m : Nat) (xs : List (List AV)) (i : Int) : ev Ck0 ckL (ckSt r len m xs i) (kLoop ckCn L κ) =
    bif decide (i < len) then rowAt i len xs fun s => ev Ck0 ckR (ckT r len m xs i s) (kBlock 1 none (kSeq Ck0 none ckI (kLoop ckCn L κ)))
    else κ (.exit 0) (withT 28 (.bool false) (ckSt r len m xs i)) := by kernel_rfl
def ckK (nid : Nat) : Kont := kBlock 0 none (kSeq Ck0 none ckTop.r.r.r (kFn [.t 2] (kOut none nid)))
theorem ck_row (L : St → Option Res) (nid : Nat) (r : Rat) (len m : Nat) (xs : List (List AV)) (i : Int) (s : Sk) :
    ev Ck0 ckR (ckT r len m xs i (skR s)) (kBlock 1 none (kSeq Ck0 none ckI (kLoop ckCn L (ckK nid)))) =
    if 0 ≤ i ∧ i ≤ (len : Int) then (skAll ((xs.drop (0 + 0)).take (i.toNat - 0))).bind fun ss => if ss.length ≤ 1152921504606846976 then
      (bif decide (findI s.key s.num ss 0 ≥ 0) then some (.int .i64 270, ⟨0, []⟩) else L (ckSt r len m xs (w63 (i + 1)))) else none
    else none := by kernel_rfl
def err (n : Int) : Option Res := some (.int .i64 n, ⟨0, []⟩)
theorem ck_start (F nid : Nat) (r : Rat) (len m : Nat) (xs : List (List AV)) : ev Ck0 (afCheckOf F).code ⟨[.agg (r.segs (ckS len))] ++ List.replicate 42 .undef, ⟨16, [roC 0 (.rows 65 m xs)]⟩⟩ (kFn [.t 2] (kOut none nid)) =
    bif decide ((len : Int) > 8) then err 270 else bif decide (r.sent > 2147483648) then err 270 else bif decide (r.got > 2147483648) then err 270 else bif decide (r.bef > 2147483648) then err 270
    else loopK ckCn (ev Ck0 ckL) F (ckSt r len m xs 0) (ckK nid) := by kernel_rfl
theorem ck_end (nid : Nat) (r : Rat) (len m : Nat) (xs : List (List AV)) (i : Int) : ckK nid (.exit 0) (withT 28 (.bool false) (ckSt r len m xs i)) = err 0 := by kernel_rfl
def dupI : List Sk → List Sk → Bool
  | _, [] => false
  | pre, s :: r => bif decide (findI s.key s.num pre 0 ≥ 0) then true else dupI (pre ++ [s]) r
def checkI (r : Rat) (ss : List Sk) : Int :=
  bif decide ((ss.length : Int) > 8) then 270 else bif decide (r.sent > 2147483648) then 270 else bif decide (r.got > 2147483648) then 270 else bif decide (r.bef > 2147483648) then 270
  else bif dupI [] ss then 270 else 0
theorem ck_loop (nid : Nat) (r : Rat) (m : Nat) (ss : List Sk) (hl : ss.length ≤ 1152921504606846976) : ∀ (t pre : List Sk) (F : Nat), ss = pre ++ t → t.length < F →
    loopK ckCn (ev Ck0 ckL) F (ckSt r ss.length m (ss.map skR) (pre.length : Int)) (ckK nid) = err (bif dupI pre t then 270 else 0)
  | [], pre, F + 1, he, _ => by
    refine (ck_round _ _ r ss.length m _ _).trans ?_
    have : ss.length = pre.length := by rw [he]; simp
    rw [this, decide_eq_false (by omega), cond_false]
    exact ck_end ..
  | s :: t, pre, F + 1, he, hF => by
    have hlen : ss.length = pre.length + t.length + 1 := by rw [he]; simp; omega
    have hs : ss[pre.length]? = some s := by rw [he]; simp
    refine (ck_round _ _ r ss.length m _ _).trans ?_
    rw [decide_eq_true (by omega), cond_true]
    refine (rowAt_eq (k := fun s => ev Ck0 ckR (ckT r ss.length m (ss.map skR) pre.length s) (kBlock 1 none (kSeq Ck0 none ckI (kLoop ckCn (fun s => loopK ckCn (ev Ck0 ckL) F s (ckK nid)) (ckK nid))))) pre.length (by omega) hs).trans ?_
    refine (ck_row _ nid r ss.length m _ _ s).trans ?_
    rw [if_pos ⟨by omega, by omega⟩]
    have e1 : ((ss.map skR).drop (0 + 0)).take ((pre.length : Int).toNat - 0) = pre.map skR := by
      rw [he]; simp
    rw [e1, skAll_rows, Option.bind_some, if_pos (by omega)]
    have ih := ck_loop nid r m ss hl t (pre ++ [s]) F (by rw [he]; simp) (by simp at hF; omega)
    rw [w63_of (by omega) (by omega)]
    have e : (((pre ++ [s]).length : Nat) : Int) = (pre.length : Int) + 1 := by simp
    rw [e] at ih
    simp only [dupI]
    cases decide (findI s.key s.num pre 0 ≥ 0)
    · simp only [cond_false]; exact ih
    · rfl
  | _ :: _, _, 0, _, h => by omega
theorem ck_run (nid : Nat) (r : Rat) (m : Nat) (ss : List Sk) (hl : ss.length ≤ 1152921504606846976) :
    evFn Ck0 afCheck [.agg (r.segs (ckS ss.length))] ⟨16, [roC 0 (.rows 65 m (ss.map skR))]⟩ (kOut none nid) = err (checkI r ss) := by
  refine (evFn_eq ..).trans ?_
  refine (ck_start _ nid r _ m _).trans ?_
  rw [show loopK ckCn (ev Ck0 ckL) manyR (ckSt r ss.length m (ss.map skR) 0) (ckK nid) = _ from ck_loop nid r m ss hl ss [] manyR rfl (Nat.lt_of_le_of_lt hl (of_decide_eq_true rfl))]
  unfold checkI
  cases decide ((ss.length : Int) > 8) <;> cases decide (r.sent > 2147483648) <;> cases decide (r.got > 2147483648) <;> cases decide (r.bef > 2147483648) <;> rfl
def withRat {β : Type} (v : AV) (k : Rat → AV → Option β) : Option β := match v with
  | .agg [.ints .u8 32 a, .ints .u8 32 b, .ints .u8 32 c, .ints .u8 32 d, .ints .u8 32 e, .int .u32 s, .int .u32 g, .int .u32 p, l] => k ⟨a, b, c, d, e, s, g, p⟩ l
  | _ => none
theorem withRat_eq {β : Type} {v : AV} {k : Rat → AV → Option β} {x : β} (h : withRat v k = some x) : ∃ r l, v = .agg (r.segs l) ∧ k r l = some x := by
  unfold withRat at h
  split at h
  · exact ⟨_, _, rfl, h⟩
  · cases h
theorem withSks_eq {β : Type} {h : Heap} {l : AV} {k : List Sk → Option β} {x : β} (hk : withSks h l k = some x) : ∃ ss, contR 65 h l = some (ss.map skR) ∧ ss.length ≤ 1152921504606846976 ∧ k ss = some x := by
  unfold withSks at hk
  cases hc : contR 65 h l with
  | none => rw [hc] at hk; cases hk
  | some xs =>
    rw [hc] at hk
    simp only [Option.bind_some] at hk
    cases hs : skAll xs with
    | none => rw [hs] at hk; cases hk
    | some ss =>
      rw [hs] at hk
      simp only [Option.bind_some] at hk
      split at hk
      · rename_i hl; exact ⟨ss, by rw [skAll_eq hs], hl, hk⟩
      · cases hk
def checkO : OrcP := fun _ args h => match args with
  | [v] => withRat v fun r l => withSks h l fun ss => some (.int .i64 (checkI r ss), none)
  | _ => none
theorem viewSegs_no {h : Heap} {s : AV} {r : List AV} {ks : List GK} {n : Nat} (h1 : isSl s = false) (h2 : noId s = true) : viewSegs h (s :: r) ks n = (viewSegs h r ks n).map fun p => (s :: p.1, p.2) := by
  conv => lhs; unfold viewSegs
  rw [if_neg (by rw [h1]; decide), if_pos h2]
theorem check_view {hp : Heap} {r : Rat} {l : AV} {ss : List Sk} (hc : contR 65 hp l = some (ss.map skR)) (n : Nat) (ks : List GK) :
    viewSegs hp (r.segs l) (.rows 65 :: ks) n = some (r.segs (.slice n 0 0 ss.length 65 none), [roC n (.rows 65 ss.length (ss.map skR))]) := by
  have hs := contR_isSl hc
  have hv := viewS_rows (by decide) hc
  simp only [List.length_map] at hv
  have e : viewSegs hp [l] (.rows 65 :: ks) n = some ([.slice n 0 0 ss.length 65 none], [roC n (.rows 65 ss.length (ss.map skR))]) := by
    unfold viewSegs
    rw [if_pos hs]
    simp only [hv, Option.bind_some, viewSegs, Option.map_some]
    rfl
  simp only [Rat.segs]
  repeat rw [viewSegs_no (by rfl) (by rfl)]
  rw [e]
  rfl
theorem check_pure {P : Program} {f : FuncId} (F : Fn P f Ck0 afCheck) : PureOk P f checkO := by
  refine F.lit [.agg [.rows 65]] none fun nid args hp r ha hr => ?_
  unfold checkO at hr
  split at hr <;> try (cases hr; done)
  obtain ⟨q, l, rfl, hr⟩ := withRat_eq hr
  obtain ⟨ss, hc, hl, hr⟩ := withSks_eq hr
  cases hr
  refine ⟨_, _, by simp only [viewArgs, check_view hc, Option.bind_some, Option.map_some, List.append_nil]; rfl, by simp, ?_⟩
  exact ck_run nid q _ ss hl
theorem withSks_map {β γ : Type} {h : Heap} {l : AV} {k : List Sk → Option β} {g : β → Option γ} : (withSks h l k).bind g = withSks h l fun ss => (k ss).bind g := by
  unfold withSks
  cases contR 65 h l with
  | none => rfl
  | some xs =>
    simp only [Option.bind_some]
    cases skAll xs with
    | none => rfl
    | some ss =>
      simp only [Option.bind_some]
      split <;> rfl
set_option maxRecDepth 100000
def seTop : ACode := af_slices_Equal_api_Skip.code
def seL : ACode := seTop.r.r.l.r.b.b
def seCn : Option Canon := some ⟨[], [0, 1, 12, 13], [], [0, 1], 16⟩
def afSEqOf (F : Nat) : AFn := ⟨26, [.t 4], .seq none seTop.l (.seq none seTop.r.l (.seq none (.seq none seTop.r.r.l.l (.block 0 none (.loop F seCn seL))) seTop.r.r.r))⟩
def afSEq : AFn := afSEqOf manyR
def sl65 (id len : Nat) : AV := .slice id 0 0 len 65 none
def seH (m1 m2 : Nat) (xs ys : List (List AV)) : Am.Heap := ⟨16, [roC 0 (.rows 65 m1 xs), roC 1 (.rows 65 m2 ys)]⟩
def seSt (l1 l2 m1 m2 : Nat) (xs ys : List (List AV)) (i : Int) : St := ⟨mkT 26 [(0, sl65 0 l1), (1, sl65 1 l2), (12, .int .i64 l1), (13, .int .i64 i)], seH m1 m2 xs ys⟩
def seK (nid : Nat) : Kont := kBlock 0 none (kSeq G10 none seTop.r.r.r (kFn [.t 4] (kOut none nid)))
def t65 : List Bool := List.replicate 65 true
def yes (b : Bool) : Option Res := some (.bool b, ⟨0, []⟩)
theorem se_round (L : St → Option Res) (nid : Nat) (l1 l2 m1 m2 : Nat) (xs ys : List (List AV)) (i : Int) : ev G10 seL (seSt l1 l2 m1 m2 xs ys i) (kLoop seCn L (seK nid)) =
    bif decide (i < l1) then rowAt i l1 xs fun s => rowAt i l2 ys fun s' => eqvK true (.agg t65) (.agg s) (.agg s') fun v => condK (.c v) (seSt l1 l2 m1 m2 xs ys i) (fun _ => yes false) (fun _ => L (seSt l1 l2 m1 m2 xs ys (w63 (i + 1))))
    else yes true := by kernel_rfl
def skEq (s t : Sk) : Bool := (s.key == t.key) && ((s.num == t.num) && ((s.sec == t.sec) && true))
theorem eqv_sk (s t : Sk) (κ : AV → Option Res) : eqvK true (.agg t65) (.agg (skR s)) (.agg (skR t)) κ = κ (.bool (!(skEq s t))) := by kernel_rfl
def eqSks : List Sk → List Sk → Bool
  | [], [] => true
  | s :: r, t :: u => skEq s t && eqSks r u
  | _, _ => false
theorem se_start (F nid : Nat) (l1 l2 m1 m2 : Nat) (xs ys : List (List AV)) : ev G10 (afSEqOf F).code ⟨[sl65 0 l1, sl65 1 l2] ++ List.replicate 24 .undef, seH m1 m2 xs ys⟩ (kFn [.t 4] (kOut none nid)) =
    bif (l1 : Int) != (l2 : Int) then yes false else loopK seCn (ev G10 seL) F (seSt l1 l2 m1 m2 xs ys 0) (seK nid) := by kernel_rfl
theorem se_loop (nid : Nat) (m1 m2 : Nat) (ss ts : List Sk) (hl : ss.length ≤ 1152921504606846976) (hle : ss.length = ts.length) : ∀ (r u pre pre' : List Sk) (F : Nat), ss = pre ++ r → ts = pre' ++ u → pre.length = pre'.length → r.length < F →
    loopK seCn (ev G10 seL) F (seSt ss.length ts.length m1 m2 (ss.map skR) (ts.map skR) (pre.length : Int)) (seK nid) = yes (eqSks r u)
  | [], [], pre, pre', F + 1, he, _, _, _ => by
    refine (se_round _ nid ss.length ts.length m1 m2 _ _ _).trans ?_
    have : ss.length = pre.length := by rw [he]; simp
    rw [this, decide_eq_false (by omega), cond_false]
    rfl
  | s :: r, t :: u, pre, pre', F + 1, he, he', hp, hF => by
    have hlen : ss.length = pre.length + r.length + 1 := by rw [he]; simp; omega
    have hs : ss[pre.length]? = some s := by rw [he]; simp
    have ht : ts[pre.length]? = some t := by rw [he', hp]; simp
    refine (se_round _ nid ss.length ts.length m1 m2 _ _ _).trans ?_
    rw [decide_eq_true (by omega), cond_true, rowAt_eq pre.length (by omega) hs, rowAt_eq pre.length (by omega) ht, eqv_sk]
    have ih := se_loop nid m1 m2 ss ts hl hle r u (pre ++ [s]) (pre' ++ [t]) F (by rw [he]; simp) (by rw [he']; simp) (by simp [hp]) (by simp at hF; omega)
    rw [w63_of (by omega) (by omega)]
    have e : (((pre ++ [s]).length : Nat) : Int) = (pre.length : Int) + 1 := by simp
    rw [e] at ih
    simp only [eqSks]
    cases skEq s t
    · rfl
    · simp only [Bool.not_true, condK, cond_false, Bool.true_and]
      exact ih
  | [], _ :: _, pre, pre', _, he, he', hp, _ => by rw [he, he'] at hle; simp at hle; omega
  | _ :: _, [], pre, pre', _, he, he', hp, _ => by rw [he, he'] at hle; simp at hle; omega
  | _ :: _, _ :: _, _, _, 0, _, _, _, h => by omega
theorem eqSks_len : ∀ {r u : List Sk}, r.length ≠ u.length → eqSks r u = false
  | [], [], h => absurd rfl h
  | s :: r, t :: u, h => by
    simp only [eqSks]
    rw [eqSks_len (r := r) (u := u) (by simpa using h), Bool.and_false]
  | [], _ :: _, _ => rfl
  | _ :: _, [], _ => rfl
theorem se_run (nid : Nat) (m1 m2 : Nat) (ss ts : List Sk) (hl : ss.length ≤ 1152921504606846976) :
    evFn G10 afSEq [sl65 0 ss.length, sl65 1 ts.length] (seH m1 m2 (ss.map skR) (ts.map skR)) (kOut none nid) = yes (eqSks ss ts) := by
  refine (evFn_eq ..).trans ?_
  refine (se_start _ nid _ _ _ _ _ _).trans ?_
  by_cases h : ss.length = ts.length
  · rw [show ((ss.length : Int) != (ts.length : Int)) = false by simp [h], cond_false]
    exact se_loop nid m1 m2 ss ts hl h ss ts [] [] manyR rfl rfl rfl (Nat.lt_of_le_of_lt hl (of_decide_eq_true rfl))
  · rw [show ((ss.length : Int) != (ts.length : Int)) = true by simp; omega, cond_true, eqSks_len h]
def eqRowsO : OrcP := fun _ args h => match args with
  | [l, l'] => withSks h l fun ss => withSks h l' fun ts => some (.bool (eqSks ss ts), none)
  | _ => none
theorem eqRows_pure {P : Program} {f : FuncId} (F : Fn P f G10 afSEq) : PureOk P f eqRowsO := by
  refine F.lit [.sl (.rows 65), .sl (.rows 65)] none fun nid args hp r ha hr => ?_
  unfold eqRowsO at hr
  split at hr <;> try (cases hr; done)
  obtain ⟨ss, hc, hl, hr⟩ := withSks_eq hr
  obtain ⟨ts, hc', hl', hr⟩ := withSks_eq hr
  cases hr
  have hv := viewS_rows (by decide) hc
  have hv' := viewS_rows (by decide) hc'
  simp only [List.length_map] at hv hv'
  refine ⟨_, _, by simp only [viewArgs, contR_isSl hc, contR_isSl hc', if_true, hv, hv', Option.bind_some, Option.map_some]; rfl, by simp, ?_⟩
  exact se_run nid _ _ ss ts hl
def eqRowsC : OrcF := fun args h κ => match args with
  | [l, l'] => withSks h l fun ss => withSks h l' fun ts => κ (.bool (eqSks ss ts)) h
  | _ => none
theorem eqRows_full {P : Program} {f : FuncId} (h : PureOk P f eqRowsO) : FullOk P f eqRowsC := by
  refine pure_full h fun args hp κ => ?_
  unfold eqRowsC eqRowsO
  split
  · simp only [withSks_map, Option.bind_some, obH]
  · rfl
def Sm0 : Env := envAdd id_slices_Equal_api_Skip (.full eqRowsC) G10
def ratEq (a b : Rat) : Bool := (a.root == b.root) && ((a.own == b.own) && ((a.peer == b.peer) && ((a.send == b.send) && ((a.recv == b.recv) && ((a.sent == b.sent) && ((a.got == b.got) && (a.bef == b.bef)))))))
theorem rsame_run1 (nid : Nat) (a b : Rat) (l1 l2 m1 m2 : Nat) (xs ys : List (List AV)) : evFn Sm0 af_ratchet_Same [.agg (a.segs (sl65 0 l1)), .agg (b.segs (sl65 1 l2))] (seH m1 m2 xs ys) (kOut none nid) =
    bif (a.root == b.root) && true then bif (a.own == b.own) && true then bif (a.peer == b.peer) && true then bif (a.send == b.send) && true then bif (a.recv == b.recv) && true then
      bif a.sent == b.sent then bif a.got == b.got then bif a.bef == b.bef then
        (skAll ((xs.drop 0).take l1)).bind fun ss => if ss.length ≤ 1152921504606846976 then (skAll ((ys.drop 0).take l2)).bind fun ts => if ts.length ≤ 1152921504606846976 then yes (eqSks ss ts) else none else none
      else yes false else yes false else yes false else yes false else yes false else yes false else yes false else yes false := by kernel_rfl
def sameB (a b : Rat) (ss ts : List Sk) : Bool := ratEq a b && eqSks ss ts
theorem rsame_run (nid : Nat) (a b : Rat) (m1 m2 : Nat) (ss ts : List Sk) (h1 : ss.length ≤ 1152921504606846976) (h2 : ts.length ≤ 1152921504606846976) :
    evFn Sm0 af_ratchet_Same [.agg (a.segs (sl65 0 ss.length)), .agg (b.segs (sl65 1 ts.length))] (seH m1 m2 (ss.map skR) (ts.map skR)) (kOut none nid) = yes (sameB a b ss ts) := by
  refine (rsame_run1 ..).trans ?_
  have e1 : ((ss.map skR).drop 0).take ss.length = ss.map skR := by rw [List.drop_zero, List.take_of_length_le (by simp)]
  have e2 : ((ts.map skR).drop 0).take ts.length = ts.map skR := by rw [List.drop_zero, List.take_of_length_le (by simp)]
  rw [e1, e2, skAll_rows, skAll_rows]
  simp only [Option.bind_some, if_pos h1, if_pos h2, Bool.and_true, sameB, ratEq]
  cases (a.root == b.root) <;> cases (a.own == b.own) <;> cases (a.peer == b.peer) <;> cases (a.send == b.send) <;> cases (a.recv == b.recv) <;> cases (a.sent == b.sent) <;> cases (a.got == b.got) <;> cases (a.bef == b.bef) <;> rfl
def rsameO : OrcP := fun _ args h => match args with
  | [v, u] => withRat v fun a l => withRat u fun b l' => withSks h l fun ss => withSks h l' fun ts => some (.bool (sameB a b ss ts), none)
  | _ => none
theorem rsame_pure {P : Program} {f : FuncId} (F : Fn P f Sm0 af_ratchet_Same) : PureOk P f rsameO := by
  refine F.lit [.agg [.rows 65], .agg [.rows 65]] none fun nid args hp r ha hr => ?_
  unfold rsameO at hr
  split at hr <;> try (cases hr; done)
  obtain ⟨a, l, e1, hr1⟩ := withRat_eq hr
  obtain ⟨b, l', e2, hr2⟩ := withRat_eq hr1
  obtain ⟨ss, hc, hl, hr3⟩ := withSks_eq hr2
  obtain ⟨ts, hc', hl', hr4⟩ := withSks_eq hr3
  cases hr4
  subst e1 e2
  refine ⟨_, _, by simp only [viewArgs, check_view hc, check_view hc', Option.bind_some, Option.map_some, List.append_nil, List.length_singleton]; rfl, by simp, ?_⟩
  exact rsame_run nid a b _ _ ss ts hl hl'
set_option maxRecDepth 100000
def slB (id len : Nat) : AV := .slice id 0 0 len 0 none
structure HOkA (h : Heap) (args : List AV) : Prop extends HOk h args where
  aggR : ∀ l, AV.agg l ∈ args → ∀ s ∈ l, ∀ e xs, contR e h s = some xs → ∀ r ∈ xs, RowWf e r ∧ ArgsOk r
  aggI : ∀ l, AV.agg l ∈ args → ∀ s ∈ l, ∀ k xs, contI k h s = some xs → ∀ y ∈ xs, rng k y
theorem agg_cell {ι : Inj} {l : List AV} {x : Value} {s : AV} (h : VR ι (.agg l) x) (hs : s ∈ l) (hi : isSl s = true) : ∃ y, SR ι s y := by
  obtain ⟨cs, _, _, hc⟩ := h
  have hm : s ∈ cellsL l := by simp only [cellsL, List.mem_flatMap]; exact ⟨s, hs, by rw [isSl_segC hi]; simp⟩
  obtain ⟨i, hi⟩ := List.mem_iff_getElem?.1 hm
  obtain ⟨y, _, hy⟩ := hc.2 i s hi
  exact ⟨y, hy⟩
theorem HOkA.of {h : Heap} {w : World} {ι : Inj} {args : List AV} {vs : List Value} (R : HRel ι h w) (ha : VRL ι args vs) : HOkA h args where
  toHOk := .of R ha
  aggR := fun l hl s hs e xs hk => by
    obtain ⟨i, hi⟩ := List.mem_iff_getElem?.1 hl
    obtain ⟨x, _, hr⟩ := ha.2 i _ hi
    obtain ⟨y, hy⟩ := agg_cell hr hs (contR_isSl hk)
    exact viewR_ok R (.of_SR hy) hk
  aggI := fun l hl s hs k xs hk => by
    obtain ⟨i, hi⟩ := List.mem_iff_getElem?.1 hl
    obtain ⟨x, _, hr⟩ := ha.2 i _ hi
    obtain ⟨y, hy⟩ := agg_cell hr hs (contI_isSl hk)
    exact viewS_rng R (.of_SR hy) hk
theorem mapM_get {α β : Type} {f : α → Option β} : ∀ {l : List α} {r : List β}, l.mapM f = some r → r.length = l.length ∧ ∀ (i : Nat) a, l[i]? = some a → ∃ b, f a = some b ∧ r[i]? = some b
  | [], r, h => by
    simp only [List.mapM_nil] at h
    cases h
    exact ⟨rfl, fun i a ha => by simp at ha⟩
  | x :: l, r, h => by
    rw [List.mapM_cons] at h
    cases hx : f x with
    | none => rw [hx] at h; cases h
    | some b =>
      rw [hx] at h
      cases hr : l.mapM f with
      | none => rw [hr] at h; cases h
      | some r' =>
        rw [hr] at h
        cases h
        obtain ⟨h1, h2⟩ := mapM_get hr
        refine ⟨by simp [h1], fun i a ha => ?_⟩
        cases i with
        | zero => simp only [List.getElem?_cons_zero, Option.some.injEq] at ha; subst ha; exact ⟨b, hx, rfl⟩
        | succ i => simpa using h2 i a (by simpa using ha)
def leafAt (P : Program) : Nat → TypeId → Nat → Option TypeId
  | 0, _, _ => none
  | n + 1, t, i => match P.underlying t with
    | some (.struct fs) => (fs.toList.find? fun f => decide (f.offset ≤ i) && decide (i < f.offset + P.cellsOf f.type)).bind fun f => leafAt P n f.type (i - f.offset)
    | some (.array m e) => if P.cellsOf e = 0 then none else if i / P.cellsOf e < m then leafAt P n e (i % P.cellsOf e) else none
    | some _ => if i = 0 then some t else none
    | none => none
section
variable {H : Type} {enc : TypeId × Value → H} {P : Program} {w : World} {base : Nat} {spare : Nat → Bool} {held : Bool}
theorem weightsAll_mem {e : TypeId} : ∀ {l : List (DataW H)} {d : DataW H}, d ∈ l → ∀ k ∈ d.weights P e, k ∈ DataW.weightsAll P e l
  | x :: l, d, hd, k, hk => by
    simp only [DataW.weightsAll, List.mem_append]
    rcases List.mem_cons.1 hd with rfl | hd
    · exact .inl hk
    · exact .inr (weightsAll_mem hd k hk)
theorem trod_one {fuel : Nat} {t : TypeId} {cs : List Value} {d : DataW H} {p : List MemPlace} (h1 : ∀ fs, P.underlying t ≠ some (.struct fs)) (h2 : ∀ n e, P.underlying t ≠ some (.array n e)) (h : DataW.trod enc P w base spare held fuel t cs = some (d, p)) : ∃ v, cs = [v] := by
  cases fuel with
  | zero => simp [DataW.trod] at h
  | succ fuel =>
    unfold DataW.trod at h
    split at h <;> first
      | exact ⟨_, rfl⟩
      | (rename_i hu; exact absurd hu (h1 _))
      | (rename_i hu; exact absurd hu (h2 _ _))
      | (cases h; done)
theorem trod_leaf : ∀ (n : Nat) (t : TypeId) (i : Nat) (u : TypeId) (fuel : Nat) (cs : List Value) (d : DataW H) (p : List MemPlace), leafAt P n t i = some u → DataW.trod enc P w base spare held fuel t cs = some (d, p) →
    ∃ v fuel' d' p', cs[i]? = some v ∧ DataW.trod enc P w base spare held fuel' u [v] = some (d', p') ∧ ∀ k ∈ d'.weights P u, k ∈ d.weights P t
  | 0, _, _, _, _, _, _, _, h, _ => by cases h
  | n + 1, t, i, u, fuel, cs, d, p, hl, h => by
    unfold leafAt at hl
    split at hl
    · rename_i fs hu
      cases hf : fs.toList.find? fun f => decide (f.offset ≤ i) && decide (i < f.offset + P.cellsOf f.type) with
      | none => rw [hf] at hl; cases hl
      | some f =>
        rw [hf] at hl
        simp only [Option.bind_some] at hl
        have hc := List.find?_some hf
        simp only [Bool.and_eq_true, decide_eq_true_eq] at hc
        obtain ⟨j, hj⟩ := List.mem_iff_getElem?.1 (List.mem_of_find?_eq_some hf)
        cases fuel with
        | zero => simp [DataW.trod] at h
        | succ fuel =>
          simp only [DataW.trod, hu] at h
          split at h <;> try (cases h; done)
          cases hm : fs.toList.mapM fun f => DataW.trod enc P w base spare held fuel f.type ((cs.drop f.offset).take (P.cellsOf f.type)) with
          | none => rw [hm] at h; cases h
          | some xs =>
            rw [hm] at h
            simp only [Option.map_some, Option.some.injEq, Prod.mk.injEq] at h
            obtain ⟨rfl, rfl⟩ := h
            obtain ⟨⟨d1, p1⟩, e1, e2⟩ := (mapM_get hm).2 j f hj
            obtain ⟨v, fuel', d', p', g1, g2, g3⟩ := trod_leaf n f.type (i - f.offset) u fuel _ d1 p1 hl e1
            refine ⟨v, fuel', d', p', ?_, g2, fun k hk => ?_⟩
            · rw [List.getElem?_take, if_pos (by omega), List.getElem?_drop] at g1
              rw [← g1]; congr 1; omega
            · simp only [DataW.weights, hu]
              exact DataW.weights_mem_each (j := j) (t := f.type) (d := d1) (by rw [List.getElem?_map, hj]; rfl) (by rw [List.getElem?_map, e2]; rfl) k (g3 k hk)
    · rename_i m e hu
      split at hl <;> try (cases hl; done)
      split at hl <;> try (cases hl; done)
      rename_i hz hlt
      cases fuel with
      | zero => simp [DataW.trod] at h
      | succ fuel =>
        simp only [DataW.trod, hu] at h
        split at h <;> try (cases h; done)
        cases hm : (List.range m).mapM fun i => DataW.trod enc P w base spare held fuel e ((cs.drop (i * P.cellsOf e)).take (P.cellsOf e)) with
        | none => rw [hm] at h; cases h
        | some xs =>
          rw [hm] at h
          simp only [Option.map_some, Option.some.injEq, Prod.mk.injEq] at h
          obtain ⟨rfl, rfl⟩ := h
          obtain ⟨⟨d1, p1⟩, e1, e2⟩ := (mapM_get hm).2 (i / P.cellsOf e) (i / P.cellsOf e) (by simp [hlt])
          obtain ⟨v, fuel', d', p', g1, g2, g3⟩ := trod_leaf n e (i % P.cellsOf e) u fuel _ d1 p1 hl e1
          have hml := Nat.mod_lt i (Nat.pos_of_ne_zero hz)
          refine ⟨v, fuel', d', p', ?_, g2, fun k hk => ?_⟩
          · rw [List.getElem?_take, if_pos hml, List.getElem?_drop] at g1
            rw [← g1]; congr 1
            have := Nat.div_add_mod i (P.cellsOf e)
            rw [Nat.mul_comm] at this
            omega
          · simp only [DataW.weights, hu]
            exact weightsAll_mem (List.mem_map.2 ⟨_, List.mem_of_getElem? e2, rfl⟩) k (g3 k hk)
    · rename_i x h1 h2 hu
      split at hl <;> try (cases hl; done)
      rename_i hi
      cases hl
      subst hi
      obtain ⟨v, rfl⟩ := trod_one (fun fs hf => by rw [hu] at hf; cases hf; exact h1 _ rfl) (fun m e hf => by rw [hu] at hf; cases hf; exact h2 _ _ rfl) h
      exact ⟨v, fuel, d, p, rfl, h, fun _ hk => hk⟩
    · cases hl
theorem wf_rng {k : IntKind} {n : Int} (h : (Lit.int k n).wf = true) : rng k n := by
  simp only [Lit.wf, Bool.and_eq_true, decide_eq_true_eq] at h
  intro hs
  cases k <;> simp [IntKind.signed, IntKind.bits, IntKind.min, IntKind.max] at hs h ⊢ <;> omega
theorem trod_int {fuel : Nat} {u : TypeId} {k : IntKind} {v : Value} {d : DataW H} {p : List MemPlace} (hu : P.underlying u = some (.int k)) (h : DataW.trod enc P w base spare held fuel u [v] = some (d, p)) : ∃ n, v = .int k n ∧ rng k n := by
  cases fuel with
  | zero => simp [DataW.trod] at h
  | succ fuel =>
    cases v <;> simp [DataW.trod, hu] at h
    obtain ⟨⟨rfl, hw⟩, _⟩ := h
    exact ⟨_, rfl, wf_rng hw⟩
end
set_option maxRecDepth 100000
def inj0 : Inj := ⟨fun _ => none, fun _ => none⟩
def numOf : Option Value → Int
  | some (.int _ n) => n
  | _ => 0
def numsAt (g : Nat → Int) (o n : Nat) : List Int := (List.range n).map fun i => g (o + i)
theorem numsAt_len (g : Nat → Int) (o n : Nat) : (numsAt g o n).length = n := by simp [numsAt]
section
variable {H : Type} {enc : TypeId × Value → H} {P : Program} {w : World} {base : Nat} {held : Bool}
end
open Go.RowKit
theorem law_calls {P : Program} {Γ : Env} (hΓ : EnvOk P Γ) (hm : P.follows .mixedOrders = true) {f : FuncId} {fn : Func} {af : AFn} (hf : P.funcs[f]? = some fn) (hl : lowFn P 16 fn af = true) {args : List AV} {h : Heap} {ι : Inj} {w : World} {vs : Array Value}
    (hk : evFn Γ af args h kV = some (.bool true, ⟨0, []⟩)) (hro : ∀ id c, h.get id = some c → c.ro = true) (R : HRel ι h w) (hn : 16 ≤ h.next) (hfr : Fresh ι h.next) (ha : VRL ι args vs.toList) :
    Calls P f vs w fun e w' => e = .returned (.bool true) ∧ Below w.heap.size w w' := by
  have hF : Factor fun args h κ => evFn Γ af args h κ := Det.factor fun args h => evFn_det hΓ af args h
  have h4 := hF args h kV
  simp only at h4
  rw [h4] at hk
  cases hr : evFn Γ af args h kH with
  | none => rw [hr] at hk; cases hk
  | some q =>
    obtain ⟨v, h'⟩ := q
    rw [hr] at hk
    simp only [Option.bind_some, kV, Option.some.injEq, Prod.mk.injEq, and_true] at hk
    subst hk
    have hc := evFn_sound hΓ hm hf hl hr R hfr hn ha
    have hno : ∀ k, ¬ Own ι h k := by
      rintro k ⟨id, c, p, hg, hr, _⟩
      rw [hro id c hg] at hr
      cases hr
    have he : (callFunc f vs).run P w = .ok (.enter f vs) w := by
      simp only [lowFn, Bool.and_eq_true, beq_iff_eq, bne_iff_ne] at hl
      obtain ⟨⟨⟨hname, hnt⟩, hres⟩, hb⟩ := hl
      split at hb <;> try (cases hb; done)
      rename_i c hbody
      simp [callFunc, hf, hname, hbody]
    rcases hc with ⟨v, w', e, _⟩ | ⟨_, hc⟩
    · rw [he] at e; cases e
    · refine hc.mono fun e w' hx => ?_
      obtain ⟨x, rfl, ι', hv, _, S, _⟩ := hx
      have : x = .bool true := hv
      subst this
      exact ⟨rfl, S.os, S.tape, S.output, S.size, fun k hk => S.frame k hk (hno k)⟩
open Go.RowKit
set_option linter.unusedSimpArgs false
set_option maxRecDepth 100000
section
variable {H : Type} {enc : TypeId × Value → H} {P : Program} {w : World} {base : Nat} {held : Bool}
theorem trod_bool {spare : Nat → Bool} {fuel : Nat} {u : TypeId} {v : Value} {d : DataW H} {p : List MemPlace} (hu : P.underlying u = some .bool) (h : DataW.trod enc P w base spare held fuel u [v] = some (d, p)) : ∃ b, v = .bool b := by
  cases fuel with
  | zero => simp [DataW.trod] at h
  | succ fuel =>
    cases v <;> simp [DataW.trod, hu] at h
    exact ⟨_, rfl⟩
def sdV (g : Nat → Int) (b : Bool) : List AV := [.ints .u8 32 (numsAt g 0 32), .bool b, .ints .u8 32 (numsAt g 33 32), .ints .u8 32 (numsAt g 65 32), .ints .u8 32 (numsAt g 97 32)]
theorem sd_cells (g : Nat → Int) (b : Bool) : cellsL (sdV g b) = (List.range 129).map fun j => if j = 32 then .bool b else .int .u8 (g (0 + j)) := by kernel_rfl
def sdKind (j : Nat) : TypeDesc := if j = 32 then .bool else .int .u8
structure SideT (P : Program) (t : TypeId) : Prop where
  agg : ∃ fs, P.underlying t = some (.struct fs)
  cells : P.cellsOf t = 129
  leaf : ∀ j, j < 129 → ∃ u, leafAt P 8 t j = some u ∧ P.underlying u = some (sdKind j)
theorem entry_side {r : Reach} {b0 : Nat} {t : TypeId} {v : Value} {d : DataW H} {p : List MemPlace} (ht : SideT P t) (hval : Value.okWide P w r b0 t v) (h : DataW.Trod enc P w base (fun _ => true) held t v d p) :
    ∃ (g : Nat → Int) (b : Bool), (∀ j, rng .u8 (g j)) ∧ ∀ ι : Inj, VR ι (.agg (sdV g b)) v := by
  obtain ⟨⟨fs, hfs⟩, hcells, hleaf⟩ := ht
  obtain ⟨cs, rfl, hsz⟩ : ∃ cs, v = .agg cs ∧ cs.size = 129 := by
    unfold Value.okWide at hval
    rw [hfs] at hval
    obtain ⟨cs, h1, h2, _⟩ := hval
    exact ⟨cs, h1, by rw [h2, hcells]⟩
  obtain ⟨fuel, hf⟩ := h
  have hcs : (Value.agg cs).cells.toList = cs.toList := rfl
  rw [hcs] at hf
  let g : Nat → Int := fun i => if i < 129 ∧ i ≠ 32 then numOf cs.toList[i]? else 0
  have key : ∀ j, j < 129 → j ≠ 32 → cs.toList[j]? = some (.int .u8 (g j)) ∧ rng .u8 (g j) := fun j hj hn => by
    obtain ⟨u', h1, h2⟩ := hleaf j hj
    rw [sdKind, if_neg hn] at h2
    obtain ⟨x, f2, d2, p2, hx, h3, _⟩ := trod_leaf 8 t j u' fuel cs.toList d p h1 hf
    obtain ⟨m, rfl, hr⟩ := trod_int h2 h3
    have hg : g j = m := by simp only [g]; rw [if_pos ⟨hj, hn⟩, hx, numOf]
    rw [hg]
    exact ⟨hx, hr⟩
  obtain ⟨b, hb⟩ : ∃ b, cs.toList[32]? = some (.bool b) := by
    obtain ⟨u', h1, h2⟩ := hleaf 32 (by omega)
    rw [sdKind, if_pos rfl] at h2
    obtain ⟨x, f2, d2, p2, hx, h3, _⟩ := trod_leaf 8 t 32 u' fuel cs.toList d p h1 hf
    obtain ⟨b, rfl⟩ := trod_bool h2 h3
    exact ⟨b, hx⟩
  refine ⟨g, b, fun j => ?_, fun ι => ⟨cs, rfl, ?_, by rw [sd_cells]; simp [hsz], fun i y hy => ?_⟩⟩
  · by_cases hj : j < 129 ∧ j ≠ 32
    · exact (key j hj.1 hj.2).2
    · have : g j = 0 := by simp only [g]; rw [if_neg hj]
      rw [this]
      intro _
      simp only [IntKind.bits]
      omega
  · intro s hs
    simp only [sdV, List.mem_cons, List.not_mem_nil, or_false] at hs
    rcases hs with rfl | rfl | rfl | rfl | rfl <;> first | exact numsAt_len .. | trivial
  · rw [sd_cells] at hy
    have hi : i < 129 := by
      have := (List.getElem?_eq_some_iff.1 hy).1
      simpa using this
    rw [List.getElem?_map, List.getElem?_range hi] at hy
    simp only [Option.map_some, Option.some.injEq, Nat.zero_add] at hy
    subst hy
    split
    · rename_i e
      subst e
      exact ⟨_, hb, rfl⟩
    · rename_i e
      exact ⟨_, (key i hi e).1, rfl, (key i hi e).2⟩
end
set_option maxRecDepth 100000
def rotRO : OrcP := fun _ args _ => match args with
  | [.int .u32 x, .int .i64 (.ofNat n)] => if n = 2 ∨ n = 6 ∨ n = 7 ∨ n = 11 ∨ n = 13 ∨ n = 17 ∨ n = 18 ∨ n = 19 ∨ n = 22 ∨ n = 25 then some (.int .u32 (turnS x n), none) else none
  | _ => none
theorem right_2 (x : Int) : evFn G10 af_hollowtreeref04_right [.int .u32 x, .int .i64 (.ofNat 2)] ⟨16, []⟩ kV = some (.int .u32 (turnS x 2), ⟨0, []⟩) := by kernel_rfl
theorem right_6 (x : Int) : evFn G10 af_hollowtreeref04_right [.int .u32 x, .int .i64 (.ofNat 6)] ⟨16, []⟩ kV = some (.int .u32 (turnS x 6), ⟨0, []⟩) := by kernel_rfl
theorem right_7 (x : Int) : evFn G10 af_hollowtreeref04_right [.int .u32 x, .int .i64 (.ofNat 7)] ⟨16, []⟩ kV = some (.int .u32 (turnS x 7), ⟨0, []⟩) := by kernel_rfl
theorem right_11 (x : Int) : evFn G10 af_hollowtreeref04_right [.int .u32 x, .int .i64 (.ofNat 11)] ⟨16, []⟩ kV = some (.int .u32 (turnS x 11), ⟨0, []⟩) := by kernel_rfl
theorem right_13 (x : Int) : evFn G10 af_hollowtreeref04_right [.int .u32 x, .int .i64 (.ofNat 13)] ⟨16, []⟩ kV = some (.int .u32 (turnS x 13), ⟨0, []⟩) := by kernel_rfl
theorem right_17 (x : Int) : evFn G10 af_hollowtreeref04_right [.int .u32 x, .int .i64 (.ofNat 17)] ⟨16, []⟩ kV = some (.int .u32 (turnS x 17), ⟨0, []⟩) := by kernel_rfl
theorem right_18 (x : Int) : evFn G10 af_hollowtreeref04_right [.int .u32 x, .int .i64 (.ofNat 18)] ⟨16, []⟩ kV = some (.int .u32 (turnS x 18), ⟨0, []⟩) := by kernel_rfl
theorem right_19 (x : Int) : evFn G10 af_hollowtreeref04_right [.int .u32 x, .int .i64 (.ofNat 19)] ⟨16, []⟩ kV = some (.int .u32 (turnS x 19), ⟨0, []⟩) := by kernel_rfl
theorem right_22 (x : Int) : evFn G10 af_hollowtreeref04_right [.int .u32 x, .int .i64 (.ofNat 22)] ⟨16, []⟩ kV = some (.int .u32 (turnS x 22), ⟨0, []⟩) := by kernel_rfl
theorem right_25 (x : Int) : evFn G10 af_hollowtreeref04_right [.int .u32 x, .int .i64 (.ofNat 25)] ⟨16, []⟩ kV = some (.int .u32 (turnS x 25), ⟨0, []⟩) := by kernel_rfl
theorem rotR_pure {P : Program} {f : FuncId} (F : Fn P f G10 af_hollowtreeref04_right) : PureOk P f rotRO := by
  refine F.plain fun nid args hp r ha hr => ?_
  unfold rotRO at hr
  split at hr <;> try (cases hr; done)
  rename_i x n
  split at hr <;> try (cases hr; done)
  rename_i hn
  cases hr
  refine ⟨rfl, rfl, rfl, ?_⟩
  rcases hn with rfl | rfl | rfl | rfl | rfl | rfl | rfl | rfl | rfl | rfl
  · exact right_2 x
  · exact right_6 x
  · exact right_7 x
  · exact right_11 x
  · exact right_13 x
  · exact right_17 x
  · exact right_18 x
  · exact right_19 x
  · exact right_22 x
  · exact right_25 x
def constO : OrcP := fun _ args _ => match args with
  | [] => some (.agg [.ints .u32 64 shaK], none)
  | _ => none
theorem const_pure {P : Program} {f : FuncId} (F : Fn P f G10 af_hollowtreeref04_constants) : PureOk P f constO := by
  refine F.plain fun nid args hp r ha hr => ?_
  unfold constO at hr
  split at hr <;> try (cases hr; done)
  cases hr
  exact ⟨rfl, rfl, rfl, by kernel_rfl⟩
def beginO : OrcP := fun _ args _ => match args with
  | [] => some (.agg [.ints .u32 8 shaH], none)
  | _ => none
theorem begin_pure {P : Program} {f : FuncId} (F : Fn P f G10 af_hollowtreeref04_begin) : PureOk P f beginO := by
  refine F.plain fun nid args hp r ha hr => ?_
  unfold beginO at hr
  split at hr <;> try (cases hr; done)
  cases hr
  exact ⟨rfl, rfl, rfl, by kernel_rfl⟩
def Rs0 : Env := envAdd id_hollowtreeref04_right (.pure rotRO) (envAdd id_hollowtreeref04_constants (.pure constO) (envAdd id_hollowtreeref04_begin (.pure beginO) (envAdd id_hollowtreeref04_Pad (pin G10 af_hollowtreeref04_Pad) G10)))
def uTop : ACode := af_hollowtreeref04_Sum.code
def uT0 : ACode := uTop.l
def uT1 : ACode := uTop.r.l
def uT2 : ACode := uTop.r.r.l
def uT3 : ACode := uTop.r.r.r.l
def uLp : ACode := uTop.r.r.r.r.l.b.b
def uHd : ACode := uLp.l
def uTl : ACode := uLp.r.r
def uBd : ACode := uLp.r.l.b
def uW0 : ACode := uBd.l
def uI2 : ACode := uBd.r.l.l
def u2L : ACode := uBd.r.l.r.b.b
def uS0 : ACode := uBd.r.r.l
def uI4 : ACode := uBd.r.r.r.l.l
def u4L : ACode := uBd.r.r.r.l.r.b.b
def uAd : ACode := uBd.r.r.r.r
def uEnd : ACode := uTop.r.r.r.r.r
def uCn : Option Canon := some ⟨[], [0, 2, 3, 4], [], [16], 0⟩
def u2Cn : Option Canon := some ⟨[], [0, 2, 3, 4, 5, 34], [], [16], 0⟩
def u4Cn : Option Canon := some ⟨[], [0, 2, 3, 4, 5, 9, 113], [], [16], 0⟩
def uWk : ACode := .seq none uW0 (.seq none (.seq none uI2 (.block 2 none (.loop 1000 u2Cn u2L))) (.seq none uS0 (.seq none (.seq none uI4 (.block 4 none (.loop 1000 u4Cn u4L))) uAd)))
def uBody : ACode := .seq none uHd (.seq none (.block 1 none uWk) uTl)
def afSum : AFn := ⟨227, [.cell 2 true 32], .seq none uT0 (.seq none uT1 (.seq none uT2 (.seq none uT3 (.seq none (.block 0 none (.loop 1000 uCn uBody)) uEnd))))⟩
structure UP where
  L : Nat
  xs : List Int
  N : Nat
  bs : List Int
def UP.cells (p : UP) (st : W8) : List Cell := [roC 0 (.segs [.ints .u8 p.L p.xs]), cel 16 [.ints .u8 p.N p.bs], cel 17 [.ints .u8 32 (List.replicate 32 0)], cel 18 [.ints .u32 64 shaK], cel 19 [.ints .u32 8 (ofW8 st)]]
def uT (j len : Nat) (ex : List (Nat × AV)) : List AV := mkT 227 ([(0, .slice 16 0 j len 0 none), (2, pt 17), (3, pt 18), (4, pt 19)] ++ ex)
def uSt (p : UP) (j len : Nat) (st : W8) : St := ⟨uT j len [], ⟨20, p.cells st⟩⟩
def uSt2 (p : UP) (j len : Nat) (st : W8) (i : Int) (ws : List Int) : St := ⟨uT j len [(5, pt 20), (34, .int .i64 i)], ⟨21, p.cells st ++ [cel 20 [.ints .u32 64 ws]]⟩⟩
def uSt4 (p : UP) (j len : Nat) (st : W8) (i : Int) (ws : List Int) (s : W8) : St := ⟨uT j len [(5, pt 20), (9, pt 21), (113, .int .i64 i)], ⟨22, p.cells st ++ [cel 20 [.ints .u32 64 ws], cel 21 [.ints .u32 8 (ofW8 s)]]⟩⟩
def schedR (p q r s : Int) : Int :=
  w32 (w32 (w32 (r + bw .xor .u32 (bw .xor .u32 (turnS p 7) (turnS p 18)) (p.fdiv (2 ^ 3))) + s) + bw .xor .u32 (bw .xor .u32 (turnS q 17) (turnS q 19)) (q.fdiv (2 ^ 10)))
def not32 (x : Int) : Int := bw .xor .u32 IntKind.u32.max x
def rTR (s : W8) (k x : Int) : Int :=
  w32 (w32 (w32 (w32 (s.h + xor32 (xor32 (turnS s.e 6) (turnS s.e 11)) (turnS s.e 25)) + xor32 (and32 s.e s.f) (and32 (not32 s.e) s.g)) + k) + x)
def rUR (s : W8) : Int := w32 (xor32 (xor32 (turnS s.a 2) (turnS s.a 13)) (turnS s.a 22) + xor32 (xor32 (and32 s.a s.b) (and32 s.a s.c)) (and32 s.b s.c))
def roundR (s : W8) (k x : Int) : W8 := ⟨w32 (rTR s k x + rUR s), s.a, s.b, s.c, w32 (s.d + rTR s k x), s.e, s.f, s.g⟩
theorem u_round2 (L : St → Option Res) (κ : Kont) (p : UP) (j len : Nat) (st : W8) (i : Int) (ws : List Int) : ev Rs0 u2L (uSt2 p j len st i ws) (kLoop u2Cn L κ) =
    bif decide (i < 64) then bif decide (i < 16) then
      atO? (w63 (4 * i)) len j p.bs fun a => atO? (w63 (w63 (4 * i) + 1)) len j p.bs fun b => atO? (w63 (w63 (4 * i) + 2)) len j p.bs fun c => atO? (w63 (w63 (4 * i) + 3)) len j p.bs fun d =>
        set? i 64 (L (uSt2 p j len st (w63 (i + 1)) (ws.set i.toNat (word4 a b c d))))
      else at? (w63 (i - 15)) 64 ws fun a => at? (w63 (i - 2)) 64 ws fun b => at? (w63 (i - 16)) 64 ws fun c => at? (w63 (i - 7)) 64 ws fun d => set? i 64 (L (uSt2 p j len st (w63 (i + 1)) (ws.set i.toNat (schedR a b c d))))
    else κ (.exit 2) (withT 35 (.bool false) (uSt2 p j len st i ws)) := by kernel_rfl
theorem u_round4 (L : St → Option Res) (κ : Kont) (p : UP) (j len : Nat) (st : W8) (i : Int) (ws : List Int) (s : W8) : ev Rs0 u4L (uSt4 p j len st i ws s) (kLoop u4Cn L κ) =
    bif decide (i < 64) then at? i 64 shaK fun k => at? i 64 ws fun x => L (uSt4 p j len st (w63 (i + 1)) ws (roundR s k x)) else κ (.exit 4) (withT 114 (.bool false) (uSt4 p j len st i ws s)) := by kernel_rfl
set_option maxRecDepth 100000
theorem u_p1 (F : Nat) (C R T : ACode) (L : St → Option Res) (κ : Kont) (p : UP) (j len : Nat) (st : W8) : ev Rs0 (.seq none uHd (.seq none (.block 1 none (.seq none uW0 (.seq none (.seq none uI2 (.block 2 none (.loop F u2Cn C))) R))) T)) (uSt p j len st) (kLoop uCn L κ) =
    bif decide ((len : Int) > 0) then loopK u2Cn (ev Rs0 C) F (uSt2 p j len st 0 (List.replicate 64 0)) (kBlock 2 none (kSeq Rs0 none R (kBlock 1 none (kSeq Rs0 none T (kLoop uCn L κ)))))
    else κ (.exit 0) ⟨uT j len [(29, .slice 16 0 j len 0 none), (30, .int .i64 len), (31, .bool false)], ⟨20, p.cells st⟩⟩ := by kernel_rfl
theorem u_p2 (F : Nat) (C R : ACode) (K : Kont) (p : UP) (j len : Nat) (st : W8) (ws : List Int) : ev Rs0 (.seq none uS0 (.seq none (.seq none uI4 (.block 4 none (.loop F u4Cn C))) R)) (withT 35 (.bool false) (uSt2 p j len st 64 ws)) K =
    loopK u4Cn (ev Rs0 C) F (uSt4 p j len st 0 ws st) (kBlock 4 none (kSeq Rs0 none R K)) := by kernel_rfl
def add8 (s t : W8) : W8 := ⟨w32 (s.a + t.a), w32 (s.b + t.b), w32 (s.c + t.c), w32 (s.d + t.d), w32 (s.e + t.e), w32 (s.f + t.f), w32 (s.g + t.g), w32 (s.h + t.h)⟩
theorem u_p3 (L : St → Option Res) (κ : Kont) (p : UP) (j len : Nat) (st s : W8) (ws : List Int) : ev Rs0 uAd (withT 114 (.bool false) (uSt4 p j len st 64 ws s)) (kBlock 1 none (kSeq Rs0 none uTl (kLoop uCn L κ))) =
    if (0 : Int) ≤ 64 ∧ 64 ≤ ((len : Nat) : Int) then L (uSt p (j + Int.toNat 64) (len - Int.toNat 64) (add8 st s)) else none := by kernel_rfl
def ser4 (x : Int) : List Int := [w8 (x.fdiv (2 ^ 24)), w8 (x.fdiv (2 ^ 16)), w8 (x.fdiv (2 ^ 8)), w8 (x.fdiv (2 ^ 0))]
def ser8 (s : W8) : List Int := ser4 s.a ++ ser4 s.b ++ ser4 s.c ++ ser4 s.d ++ ser4 s.e ++ ser4 s.f ++ ser4 s.g ++ ser4 s.h
def uKf : Kont := kFn [.cell 2 true 32] kV
theorem u_end (p : UP) (j len : Nat) (st : W8) : ev Rs0 uEnd ⟨uT j len [(29, .slice 16 0 j len 0 none), (30, .int .i64 len), (31, .bool false)], ⟨20, p.cells st⟩⟩ uKf = some (key (ser8 st), ⟨0, []⟩) := by kernel_rfl
def wsR (xs : List Int) : Nat → List Int
  | 0 => List.replicate 64 0
  | i + 1 => if i < 16 then (wsR xs i).set i (word4 (g0 xs (4 * i)) (g0 xs (4 * i + 1)) (g0 xs (4 * i + 2)) (g0 xs (4 * i + 3)))
    else (wsR xs i).set i (schedR (g0 (wsR xs i) (i - 15)) (g0 (wsR xs i) (i - 2)) (g0 (wsR xs i) (i - 16)) (g0 (wsR xs i) (i - 7)))
theorem wsR_len (xs : List Int) : ∀ i, (wsR xs i).length = 64
  | 0 => rfl
  | i + 1 => by
    simp only [wsR]
    split <;> rw [List.length_set, wsR_len xs i]
def roundsR (ws : List Int) (s : W8) : Nat → W8
  | 0 => s
  | i + 1 => roundR (roundsR ws s i) (g0 shaK i) (g0 ws i)
theorem g0_drop (xs : List Int) (j k : Nat) : g0 (xs.drop j) k = g0 xs (j + k) := by simp [g0, List.getD_eq_getElem?_getD]
theorem u_loop2 (κ : Kont) (p : UP) (j len : Nat) (st : W8) (h64 : 64 ≤ len) (hb : j + len ≤ p.bs.length) :
    loopK u2Cn (ev Rs0 u2L) 1000 (uSt2 p j len st 0 (List.replicate 64 0)) κ = κ (.exit 2) (withT 35 (.bool false) (uSt2 p j len st 64 (wsR (p.bs.drop j) 64))) := by
  refine loopK_for (fun i => uSt2 p j len st (i : Int) (wsR (p.bs.drop j) i)) 64 _ (fun i hi L => ?_) (fun L => ?_) 1000 (by omega)
  · refine (u_round2 L κ p j len st i _).trans ?_
    have hwl := wsR_len (p.bs.drop j) i
    rw [show (decide ((i : Int) < 64)) = true by simp only [decide_eq_true_eq]; omega, cond_true]
    by_cases h16 : i < 16
    · rw [show (decide ((i : Int) < 16)) = true by simp only [decide_eq_true_eq]; omega, cond_true]
      have e1 : w63 (w63 (4 * (i : Int)) + 1) = ((4 * i + 1 : Nat) : Int) := w4 i 1 h16 (by omega)
      have e2 : w63 (w63 (4 * (i : Int)) + 2) = ((4 * i + 2 : Nat) : Int) := w4 i 2 h16 (by omega)
      have e3 : w63 (w63 (4 * (i : Int)) + 3) = ((4 * i + 3 : Nat) : Int) := w4 i 3 h16 (by omega)
      rw [atO?_eq (4 * i) (w4_0 i h16), atO?_eq (4 * i + 1) e1, atO?_eq (4 * i + 2) e2, atO?_eq (4 * i + 3) e3, set?_eq i rfl (by omega), wS i (by omega), Int.toNat_natCast]
      · simp only [wsR]
        rw [if_pos h16]
        simp only [g0_drop]
      all_goals omega
    · rw [show (decide ((i : Int) < 16)) = false by simp only [decide_eq_false_iff_not]; omega, cond_false]
      have e1 : w63 ((i : Int) - 15) = _ := wSub i 15 (by omega) (by omega)
      have e2 : w63 ((i : Int) - 2) = _ := wSub i 2 (by omega) (by omega)
      have e3 : w63 ((i : Int) - 16) = _ := wSub i 16 (by omega) (by omega)
      have e4 : w63 ((i : Int) - 7) = _ := wSub i 7 (by omega) (by omega)
      rw [at?_eq _ e1, at?_eq _ e2, at?_eq _ e3, at?_eq _ e4, set?_eq i rfl (by omega), wS i (by omega), Int.toNat_natCast]
      · simp only [wsR]
        rw [if_neg h16]
      all_goals omega
  · refine (u_round2 L κ p j len st (64 : Nat) _).trans ?_
    rfl
theorem u_loop4 (κ : Kont) (p : UP) (j len : Nat) (st : W8) (ws : List Int) (s : W8) (hw : ws.length = 64) :
    loopK u4Cn (ev Rs0 u4L) 1000 (uSt4 p j len st 0 ws s) κ = κ (.exit 4) (withT 114 (.bool false) (uSt4 p j len st 64 ws (roundsR ws s 64))) := by
  refine loopK_for (fun i => uSt4 p j len st (i : Int) ws (roundsR ws s i)) 64 _ (fun i hi L => ?_) (fun L => ?_) 1000 (by omega)
  · refine (u_round4 L κ p j len st i ws _).trans ?_
    rw [show (decide ((i : Int) < 64)) = true by simp only [decide_eq_true_eq]; omega, cond_true]
    have hk : shaK.length = 64 := rfl
    rw [at?_eq i rfl, at?_eq i rfl, wS i (by omega)]
    · rfl
    all_goals omega
  · refine (u_round4 L κ p j len st (64 : Nat) ws _).trans ?_
    rfl
def blkR (st : W8) (xs : List Int) : W8 := add8 st (roundsR (wsR xs 64) st 64)
theorem u_body (L : St → Option Res) (κ : Kont) (p : UP) (j len : Nat) (st : W8) (h64 : 64 ≤ len) (hb : j + len ≤ p.bs.length) : ev Rs0 uBody (uSt p j len st) (kLoop uCn L κ) = L (uSt p (j + 64) (len - 64) (blkR st (p.bs.drop j))) := by
  refine (u_p1 1000 u2L _ uTl L κ p j len st).trans ?_
  rw [decide_eq_true (by omega), cond_true, u_loop2 _ p j len st h64 hb, kBlock_exit]
  refine (u_p2 1000 u4L uAd _ p j len st _).trans ?_
  rw [u_loop4 _ p j len st _ st (wsR_len _ _), kBlock_exit]
  refine (u_p3 L κ p j len st _ _).trans ?_
  rw [if_pos ⟨by omega, by omega⟩]
  rfl
theorem u_stop (L : St → Option Res) (κ : Kont) (p : UP) (j : Nat) (st : W8) : ev Rs0 uBody (uSt p j 0 st) (kLoop uCn L κ) = κ (.exit 0) ⟨uT j 0 [(29, .slice 16 0 j 0 0 none), (30, .int .i64 (0 : Nat)), (31, .bool false)], ⟨20, p.cells st⟩⟩ := by
  refine (u_p1 1000 u2L _ uTl L κ p j 0 st).trans ?_
  rfl
def blocksR : Nat → List Int → W8 → W8
  | 0, _, st => st
  | m + 1, xs, st => blocksR m (xs.drop 64) (blkR st xs)
theorem u_loop (p : UP) : ∀ (m j F : Nat) (st : W8), m < F → j + 64 * m ≤ p.bs.length → loopK uCn (ev Rs0 uBody) F (uSt p j (64 * m) st) (kBlock 0 none (kSeq Rs0 none uEnd uKf)) = some (key (ser8 (blocksR m (p.bs.drop j) st)), ⟨0, []⟩)
  | 0, j, F + 1, st, _, _ => by
    refine (u_stop _ _ p j st).trans ?_
    rw [kBlock_exit]
    exact u_end p j 0 st
  | m + 1, j, F + 1, st, hF, hb => by
    refine (u_body _ _ p j (64 * (m + 1)) st (by omega) hb).trans ?_
    rw [show 64 * (m + 1) - 64 = 64 * m by omega]
    refine (u_loop p m (j + 64) F _ (by omega) (by omega)).trans ?_
    simp only [blocksR, List.drop_drop]
  | _, _, 0, _, h, _ => by omega
def fixL (n : Nat) (l : List Int) : List Int := tab n fun i => l.getD i 0
theorem fixL_eq {n : Nat} {l : List Int} (h : l.length = n) : fixL n l = l := by
  have := tabFrom_get [] l
  simp only [List.nil_append, List.length_nil, h] at this
  exact this
theorem tabFrom_len (f : Nat → Int) : ∀ n i, (tabFrom f i n).length = n
  | 0, _ => rfl
  | n + 1, i => by simp only [tabFrom, List.length_cons, tabFrom_len f n]
theorem tab_len (n : Nat) (f : Nat → Int) : (tab n f).length = n := tabFrom_len f n 0
theorem fixL_len (n : Nat) (l : List Int) : (fixL n l).length = n := tab_len n _
end Go.Am
