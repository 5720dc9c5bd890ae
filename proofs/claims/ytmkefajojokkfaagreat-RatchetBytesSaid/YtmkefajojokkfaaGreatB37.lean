/- RatchetBytes: part 38 of 39 of its proof. -/
import Derived.Test.YtmkefajojokkfaaGreatB36
set_option linter.unusedVariables false
set_option linter.unusedSimpArgs false
/- The document's answer: a ratchet's bytes. -/
namespace Go.Am
set_option linter.unusedSimpArgs false
set_option maxRecDepth 100000
def Rp0 : Env := envAdd id_hollowtreeref01_Both (.full bothC) (envAdd id_hollowtreeref01_Low (.full rlowC) G10)
def bothK (xs ys : List Int) (k : Nat → List Int → Option Res) : Option Res :=
  if xs.length ≤ 140737488351232 then if ys.length ≤ 140737488351232 then if xs.length + ys.length ≠ 0 ∧ xs.length + ys.length ≤ 140737488351232 then k (xs.length + ys.length) (xs ++ ys) else none else none else none
theorem bothK_eq {xs ys : List Int} {n m : Nat} (h1 : xs.length = n) (h2 : ys.length = m) (h0 : n + m ≠ 0) (hl : n + m ≤ 10000) (k : Nat → List Int → Option Res) : bothK xs ys k = k (n + m) (xs ++ ys) := by
  rw [bothK, h1, h2, if_pos (by omega), if_pos (by omega), if_pos ⟨h0, by omega⟩]
def rpTop : ACode := af_hollowtreeref17_Put.code
def rpLoop : ACode := rpTop.r.r.r.r.r.r.r.r.r.l
def rpEndC : ACode := rpTop.r.r.r.r.r.r.r.r.r.r
def rpL : ACode := rpLoop.r.b.b
def rpCn : Option Canon := some ⟨[], [1, 3, 4], [], [16], 0⟩
def rpHeadC (c : ACode) : ACode := .seq none rpTop.l (.seq none rpTop.r.l (.seq none rpTop.r.r.l (.seq none rpTop.r.r.r.l (.seq none rpTop.r.r.r.r.l (.seq none rpTop.r.r.r.r.r.l (.seq none rpTop.r.r.r.r.r.r.l (.seq none rpTop.r.r.r.r.r.r.r.l (.seq none rpTop.r.r.r.r.r.r.r.r.l c))))))))
def rpCode (F : Nat) : ACode := rpHeadC (.seq none (.seq none rpLoop.l (.block 0 none (.loop F rpCn rpL))) rpEndC)
def afRPut : AFn := ⟨78, [.t 2], rpCode 1000⟩
def rpH (r : Rat) (len m mb : Nat) (xs : List (List AV)) (bs : List Int) : Am.Heap := ⟨18, [roC 0 (.rows 65 m xs), cel 16 (r.segs (ckS len)), cel 17 [.ints .u8 mb bs]]⟩
def rpSt (r : Rat) (len m n mb : Nat) (cap : Option Nat) (xs : List (List AV)) (bs : List Int) (i : Int) : St := ⟨mkT 78 [(1, pt 16), (3, .slice 17 0 0 n 0 cap), (4, .int .i64 i)], rpH r len m mb xs bs⟩
def rpI : ACode := rpL.r.r
def rpBody : ACode := rpL.r.l.b.r
def rpB : ACode := rpBody.r
def rpW : ACode := match rpBody.l.r with | .cond _ (.reg ops) _ => .reg (ops.drop 5) | c => c
def zSk : List AV := [.ints .u8 32 (List.replicate 32 0), .int .u32 0, .ints .u8 32 (List.replicate 32 0)]
def rpT (r : Rat) (len m n mb : Nat) (cap : Option Nat) (xs : List (List AV)) (bs : List Int) (i : Int) (s : List AV) : St :=
  ⟨mkT 78 [(1, pt 16), (3, .slice 17 0 0 n 0 cap), (4, .int .i64 i), (5, pt 18), (48, .int .i64 i), (49, .bool true), (52, .agg zSk), (53, .int .i64 i), (54, f163), (55, ckS len), (56, .int .i64 len), (57, .bool true), (58, f163), (59, ckS len), (60, .int .i64 i), (61, .ptr 0 (0 + i.toNat) 65 0 0), (62, .agg s)],
   ⟨19, [roC 0 (.rows 65 m xs), cel 16 (r.segs (ckS len)), cel 17 [.ints .u8 mb bs], cel 18 zSk]⟩⟩
def rpOne (n : Nat) (bs : List Int) (s : Sk) (k : Nat → List Int → Option Res) : Option Res :=
  bothK (ysOf bs n) (cut32 s.key) fun n b => bothK (ysOf b n) (low4 (w64 s.num)) fun n b => bothK (ysOf b n) (cut32 s.sec) k
theorem rp_row (L : St → Option Res) (κ : Kont) (r : Rat) (len m n mb : Nat) (cap : Option Nat) (xs : List (List AV)) (bs : List Int) (i : Int) (s : Sk) :
    ev Rp0 rpW (rpT r len m n mb cap xs bs i (skR s)) (kSeq Rp0 none rpB (kBlock 1 none (kSeq Rp0 none rpI (kLoop rpCn L κ)))) =
    rpOne n bs s fun n' bs' => L (rpSt r len m n' n' (some n') xs bs' (w63 (i + 1))) := by kernel_rfl
theorem rp_round (L : St → Option Res) (κ : Kont) (r : Rat) (len m n mb : Nat) (cap : Option Nat) (xs : List (List AV)) (bs : List Int) (i : Int) : ev Rp0 rpL (rpSt r len m n mb cap xs bs i) (kLoop rpCn L κ) =
    bif decide (i < 8) then bif decide (i < len) then rowAt i len xs fun s => ev Rp0 rpW (rpT r len m n mb cap xs bs i s) (kSeq Rp0 none rpB (kBlock 1 none (kSeq Rp0 none rpI (kLoop rpCn L κ))))
      else rpOne n bs zeroSk fun n' bs' => L (rpSt r len m n' n' (some n') xs bs' (w63 (i + 1)))
    else κ (.exit 0) (withT 49 (.bool false) (withT 48 (.int .i64 i) (rpSt r len m n mb cap xs bs i))) := by kernel_rfl
def rpK (nid : Nat) : Kont := kBlock 0 none (kSeq Rp0 none rpEndC (kFn [.t 2] (kOut (some (.ints .u8)) nid)))
theorem rp_end (nid : Nat) (r : Rat) (len m n mb : Nat) (cap : Option Nat) (xs : List (List AV)) (bs : List Int) (i : Int) : rpK nid (.exit 0) (withT 49 (.bool false) (withT 48 (.int .i64 i) (rpSt r len m n mb cap xs bs i))) =
    kOut (some (.ints .u8)) nid (.slice 17 0 0 n 0 cap) (rpH r len m mb xs bs) := by kernel_rfl
def rpHead (r : Rat) (len : Nat) (k : Nat → Option Nat → Nat → List Int → Option Res) : Option Res :=
  bothK (cut32 r.root) (cut32 r.own) fun n b => bothK (ysOf b n) (cut32 r.peer) fun n b => bothK (ysOf b n) (cut32 r.send) fun n b => bothK (ysOf b n) (cut32 r.recv) fun n b =>
  bothK (ysOf b n) (low4 (w64 r.sent)) fun n b => bothK (ysOf b n) (low4 (w64 r.got)) fun n b => bothK (ysOf b n) (low4 (w64 r.bef)) fun n b =>
  fitB (n + 1) (if n + 1 ≤ n then (if IntKind.u8 = IntKind.u8 ∧ 0 + n + 1 ≤ n then k (n + 1) (some n) n (splice b (0 + n) [w8 len]) else none) else k (n + 1) none (n + 1) (apL n b [w8 len]))
theorem rp_start (F nid : Nat) (r : Rat) (len m : Nat) (xs : List (List AV)) : ev Rp0 (rpCode F) ⟨[.agg (r.segs (ckS len))] ++ List.replicate 77 .undef, ⟨16, [roC 0 (.rows 65 m xs)]⟩⟩ (kFn [.t 2] (kOut (some (.ints .u8)) nid)) =
    rpHead r len fun n cap mb b => loopK rpCn (ev Rp0 rpL) F (rpSt r len m n mb cap xs b 0) (rpK nid) := by kernel_rfl
theorem low4_eq {x : Int} (h : rng .u32 x) : low4 (w64 x) = le4 (w64 x) := by
  obtain ⟨n, hn, rfl⟩ := rng32 h
  rw [le4_nat n hn, w64_nat, Nat.mod_eq_of_lt (by omega)]
  have r : ∀ m : Nat, rem256 (m : Int) = ((m % 256 : Nat) : Int) := fun m => by
    rw [rem256, Int.tmod_eq_emod_of_nonneg (by omega), show ((m : Int) % 256) = ((m % 256 : Nat) : Int) by omega, w8_nat, Nat.mod_mod]
  have q : ∀ m : Nat, m < 4294967296 → quo256 (m : Int) = ((m / 256 : Nat) : Int) := fun m hm => by
    rw [quo256, Int.tdiv_eq_ediv_of_nonneg (by omega), show ((m : Int) / 256) = ((m / 256 : Nat) : Int) by omega, w64_nat, Nat.mod_eq_of_lt (by omega)]
  simp only [low4]
  rw [r, q n hn, r, q _ (by omega), r, q _ (by omega), r]
theorem low4_len (x : Int) : (low4 x).length = 4 := rfl
theorem rpOne_eq {n : Nat} {bs : List Int} {s : Sk} (h : bs.length = n) (hn : n ≤ 1000) (hs : SkOk s) (k : Nat → List Int → Option Res) : rpOne n bs s k = k (n + 32 + 4 + 32) (bs ++ skB s) := by
  obtain ⟨h1, h2, _, h3, _⟩ := hs
  rw [rpOne, low4_eq h3, cut32_eq h1, cut32_eq h2, ysOf, take_all bs n h, bothK_eq h h1 (by omega) (by omega), ysOf, take_all _ _ (by simp [h, h1]), bothK_eq (n := n + 32) (m := 4) (by simp [h, h1]) (le4_len _) (by omega) (by omega), ysOf, take_all _ _ (by simp [h, h1, le4_len]), bothK_eq (n := n + 32 + 4) (m := 32) (by simp [h, h1, le4_len]) h2 (by omega) (by omega)]
  simp only [skB, List.append_assoc]
theorem rpHead_eq {r : Rat} (h : RatOk r) (len : Nat) (k : Nat → Option Nat → Nat → List Int → Option Res) : rpHead r len k = k 173 none 173 (headB r len) := by
  obtain ⟨l1, l2, l3, l4, l5, _, _, _, _, _, s1, s2, s3⟩ := h
  rw [rpHead, low4_eq s1, low4_eq s2, low4_eq s3, cut32_eq l1, cut32_eq l2, cut32_eq l3, cut32_eq l4, cut32_eq l5, bothK_eq l1 l2 (by omega) (by omega),
    ysOf, take_all _ _ (by simp [l1, l2]), bothK_eq (n := 32 + 32) (by simp [l1, l2]) l3 (by omega) (by omega),
    ysOf, take_all _ _ (by simp [l1, l2, l3]), bothK_eq (n := 32 + 32 + 32) (by simp [l1, l2, l3]) l4 (by omega) (by omega),
    ysOf, take_all _ _ (by simp [l1, l2, l3, l4]), bothK_eq (n := 32 + 32 + 32 + 32) (by simp [l1, l2, l3, l4]) l5 (by omega) (by omega),
    ysOf, take_all _ _ (by simp [l1, l2, l3, l4, l5]), bothK_eq (n := 32 + 32 + 32 + 32 + 32) (m := 4) (by simp [l1, l2, l3, l4, l5]) (le4_len _) (by omega) (by omega),
    ysOf, take_all _ _ (by simp [l1, l2, l3, l4, l5, le4_len]), bothK_eq (n := 32 + 32 + 32 + 32 + 32 + 4) (m := 4) (by simp [l1, l2, l3, l4, l5, le4_len]) (le4_len _) (by omega) (by omega),
    ysOf, take_all _ _ (by simp [l1, l2, l3, l4, l5, le4_len]), bothK_eq (n := 32 + 32 + 32 + 32 + 32 + 4 + 4) (m := 4) (by simp [l1, l2, l3, l4, l5, le4_len]) (le4_len _) (by omega) (by omega),
    fitB_eq (by omega), if_neg (by omega), apL_eq (by simp [l1, l2, l3, l4, l5, le4_len])]
  rfl
def capAt : Nat → Option Nat
  | 0 => none
  | i + 1 => some (173 + 68 * (i + 1))
theorem rp_loop (nid : Nat) (r : Rat) (m : Nat) (ss : List Sk) (h : RatOk r) (hs : ∀ s ∈ ss, SkOk s) :
    loopK rpCn (ev Rp0 rpL) 1000 (rpSt r ss.length m 173 173 none (ss.map skR) (headB r ss.length) 0) (rpK nid) = some (.slice nid 0 0 717 0 (some 717), encB nid (some (.segs [.ints .u8 717 (putB r ss)]))) := by
  refine loopK_for (fun i => rpSt r ss.length m (173 + 68 * i) (173 + 68 * i) (capAt i) (ss.map skR) (putN r ss i) (i : Int)) 8 _ (fun i hi L => ?_) (fun L => ?_) 1000 (by omega)
  · refine (rp_round L _ r ss.length m _ _ _ _ _ _).trans ?_
    rw [decide_eq_true (by omega), cond_true]
    have one : ∀ s, SkOk s → skAt ss i = s → rpOne (173 + 68 * i) (putN r ss i) s (fun n' bs' => L (rpSt r ss.length m n' n' (some n') (ss.map skR) bs' (w63 ((i : Int) + 1)))) = L (rpSt r ss.length m (173 + 68 * (i + 1)) (173 + 68 * (i + 1)) (capAt (i + 1)) (ss.map skR) (putN r ss (i + 1)) ((i + 1 : Nat) : Int)) := fun s hok he => by
      rw [rpOne_eq (putN_len h hs i) (by omega) hok, wS i (by omega), putN, he, capAt, show 173 + 68 * i + 32 + 4 + 32 = 173 + 68 * (i + 1) by omega]
    by_cases hlt : i < ss.length
    · rw [decide_eq_true (by omega), cond_true]
      refine (rowAt_eq (k := fun s => ev Rp0 rpW (rpT r ss.length m (173 + 68 * i) (173 + 68 * i) (capAt i) (ss.map skR) (putN r ss i) i s) (kSeq Rp0 none rpB (kBlock 1 none (kSeq Rp0 none rpI (kLoop rpCn L (rpK nid)))))) i (by omega) (List.getElem?_eq_getElem hlt)).trans ?_
      refine (rp_row L _ r ss.length m _ _ _ _ _ _ ss[i]).trans ?_
      exact one _ (hs _ (List.getElem_mem hlt)) (by simp [skAt, hlt])
    · rw [decide_eq_false (by omega), cond_false]
      exact one _ zeroSk_ok (by simp [skAt]; rw [List.getElem?_eq_none_iff.2 (by omega)]; rfl)
  · refine (rp_round L _ r ss.length m _ _ _ _ _ (8 : Nat)).trans ?_
    exact (rp_end ..).trans rfl
theorem rp_run (nid : Nat) (r : Rat) (m : Nat) (ss : List Sk) (h : RatOk r) (hs : ∀ s ∈ ss, SkOk s) :
    evFn Rp0 afRPut [.agg (r.segs (ckS ss.length))] ⟨16, [roC 0 (.rows 65 m (ss.map skR))]⟩ (kOut (some (.ints .u8)) nid) = some (.slice nid 0 0 717 0 (some 717), encB nid (some (.segs [.ints .u8 717 (putB r ss)]))) := by
  refine (evFn_eq ..).trans ?_
  refine (rp_start 1000 nid r _ m _).trans ?_
  rw [rpHead_eq h]
  exact rp_loop nid r m ss h hs
def refPutO (nid : Nat) (args : List AV) (h : Am.Heap) : Option (AV × Option Blk) := match args with
  | [v] => withRat v fun r l => withSks h l fun ss => some (.slice nid 0 0 717 0 (some 717), some (.segs [.ints .u8 717 (putB r ss)]))
  | _ => none
theorem refPut_pure {P : Program} {f : FuncId} (F : Fn P f Rp0 afRPut) : PureOk P f refPutO := by
  refine F.lit2 [.agg [.rows 65]] (some (.ints .u8)) fun nid args hp r ha hr => ?_
  unfold refPutO at hr
  split at hr <;> try (cases hr; done)
  obtain ⟨q, l, e, hr1⟩ := withRat_eq hr
  obtain ⟨ss, hc, hl, hr2⟩ := withSks_eq hr1
  cases hr2
  subst e
  obtain ⟨h1, h2⟩ := ha.rat (List.mem_singleton.2 rfl) hc
  refine ⟨_, _, by simp only [viewArgs, check_view hc, Option.bind_some, Option.map_some, List.append_nil]; rfl, by simp, ?_⟩
  exact rp_run nid q _ ss h1 h2
def refPutC : OrcF := fun args h κ => match args with
  | [v] => withRat v fun r l => withSks h l fun ss => κ (.slice h.next 0 0 717 0 (some 717)) (h.new (.segs [.ints .u8 717 (putB r ss)]))
  | _ => none
theorem refPut_full {P : Program} {f : FuncId} (h : PureOk P f refPutO) : FullOk P f refPutC := by
  refine pure_full h fun args hp κ => ?_
  unfold refPutC refPutO
  split
  · simp only [withRat_map, withSks_map, Option.bind_some, obH]
  · rfl
end Go.Am
/- The document's answer: ratchets held against each other. -/
namespace Go.Am
set_option linter.unusedSimpArgs false
set_option maxRecDepth 100000
def rqTop : ACode := af_hollowtreeref17_Same.code
def rqL : ACode := rqTop.r.r.l.r.b.b
def rqCn : Option Canon := some ⟨[], [2, 3, 5], [], [0, 1, 16, 17], 18⟩
def afRqOf (F : Nat) : AFn := ⟨85, [.t 4], .seq none rqTop.l (.seq none rqTop.r.l (.seq none (.seq none rqTop.r.r.l.l (.block 0 none (.loop F rqCn rqL))) rqTop.r.r.r))⟩
def afRq : AFn := afRqOf manyR
def rqSt (a b : Rat) (l1 l2 m1 m2 : Nat) (xs ys : List (List AV)) (i : Int) : St := ⟨mkT 85 [(2, pt 16), (3, pt 17), (5, .int .i64 i)], ⟨18, [roC 0 (.rows 65 m1 xs), roC 1 (.rows 65 m2 ys), cel 16 (a.segs (sl65 0 l1)), cel 17 (b.segs (sl65 1 l2))]⟩⟩
def rqK (nid : Nat) : Kont := kBlock 0 none (kSeq G10 none rqTop.r.r.r (kFn [.t 4] (kOut none nid)))
def ratK (a b : Rat) : Option Res :=
  bif (a.root == b.root) && true then bif (a.own == b.own) && true then bif (a.peer == b.peer) && true then bif (a.send == b.send) && true then bif (a.recv == b.recv) && true then
    bif a.sent == b.sent then bif a.got == b.got then yes (a.bef == b.bef) else yes false else yes false else yes false else yes false else yes false else yes false else yes false
theorem rq_round (L : St → Option Res) (nid : Nat) (a b : Rat) (l1 l2 m1 m2 : Nat) (xs ys : List (List AV)) (i : Int) : ev G10 rqL (rqSt a b l1 l2 m1 m2 xs ys i) (kLoop rqCn L (rqK nid)) =
    bif decide (i < l1) then rowAt i l1 xs fun s => rowAt i l2 ys fun s' => eqvK true (.agg t65) (.agg s) (.agg s') fun v => condK (.c v) (rqSt a b l1 l2 m1 m2 xs ys i) (fun _ => yes false) (fun _ => L (rqSt a b l1 l2 m1 m2 xs ys (w63 (i + 1))))
    else ratK a b := by kernel_rfl
theorem rq_start (F nid : Nat) (a b : Rat) (l1 l2 m1 m2 : Nat) (xs ys : List (List AV)) : ev G10 (afRqOf F).code ⟨[.agg (a.segs (sl65 0 l1)), .agg (b.segs (sl65 1 l2))] ++ List.replicate 83 .undef, seH m1 m2 xs ys⟩ (kFn [.t 4] (kOut none nid)) =
    bif (l1 : Int) != (l2 : Int) then yes false else loopK rqCn (ev G10 rqL) F (rqSt a b l1 l2 m1 m2 xs ys 0) (rqK nid) := by kernel_rfl
theorem ratK_eq (a b : Rat) : ratK a b = yes (ratEq a b) := by
  simp only [ratK, ratEq, Bool.and_true]
  cases (a.root == b.root) <;> cases (a.own == b.own) <;> cases (a.peer == b.peer) <;> cases (a.send == b.send) <;> cases (a.recv == b.recv) <;> cases (a.sent == b.sent) <;> cases (a.got == b.got) <;> cases (a.bef == b.bef) <;> rfl
theorem rq_loop (nid : Nat) (a b : Rat) (m1 m2 : Nat) (ss ts : List Sk) (hl : ss.length ≤ 1152921504606846976) (hle : ss.length = ts.length) : ∀ (r u pre pre' : List Sk) (F : Nat), ss = pre ++ r → ts = pre' ++ u → pre.length = pre'.length → r.length < F →
    loopK rqCn (ev G10 rqL) F (rqSt a b ss.length ts.length m1 m2 (ss.map skR) (ts.map skR) (pre.length : Int)) (rqK nid) = yes (eqSks r u && ratEq a b)
  | [], [], pre, pre', F + 1, he, _, _, _ => by
    refine (rq_round _ nid a b ss.length ts.length m1 m2 _ _ _).trans ?_
    have : ss.length = pre.length := by rw [he]; simp
    rw [this, decide_eq_false (by omega), cond_false]
    exact ratK_eq a b
  | s :: r, t :: u, pre, pre', F + 1, he, he', hp, hF => by
    have hlen : ss.length = pre.length + r.length + 1 := by rw [he]; simp; omega
    have hs : ss[pre.length]? = some s := by rw [he]; simp
    have ht : ts[pre.length]? = some t := by rw [he', hp]; simp
    refine (rq_round _ nid a b ss.length ts.length m1 m2 _ _ _).trans ?_
    rw [decide_eq_true (by omega), cond_true, rowAt_eq pre.length (by omega) hs, rowAt_eq pre.length (by omega) ht, eqv_sk]
    have ih := rq_loop nid a b m1 m2 ss ts hl hle r u (pre ++ [s]) (pre' ++ [t]) F (by rw [he]; simp) (by rw [he']; simp) (by simp [hp]) (by simp at hF; omega)
    rw [w63_of (by omega) (by omega)]
    have e : (((pre ++ [s]).length : Nat) : Int) = (pre.length : Int) + 1 := by simp
    rw [e] at ih
    simp only [eqSks]
    cases skEq s t
    · rfl
    · simp only [Bool.not_true, condK, cond_false, Bool.true_and]
      exact ih
  | [], _ :: _, pre, pre', _, he, he', hp, _ => by rw [he, he'] at hle; simp at hle; omega
  | _ :: _, [], pre, pre', _, he, he', hp, _ => by rw [he, he'] at hle; simp at hle; omega
  | _ :: _, _ :: _, _, _, 0, _, _, _, h => by omega
theorem rq_run (nid : Nat) (a b : Rat) (m1 m2 : Nat) (ss ts : List Sk) (hl : ss.length ≤ 1152921504606846976) :
    evFn G10 afRq [.agg (a.segs (sl65 0 ss.length)), .agg (b.segs (sl65 1 ts.length))] (seH m1 m2 (ss.map skR) (ts.map skR)) (kOut none nid) = yes (sameB a b ss ts) := by
  refine (evFn_eq ..).trans ?_
  refine (rq_start _ nid a b _ _ _ _ _ _).trans ?_
  by_cases h : ss.length = ts.length
  · rw [show ((ss.length : Int) != (ts.length : Int)) = false by simp [h], cond_false, sameB, Bool.and_comm]
    exact rq_loop nid a b m1 m2 ss ts hl h ss ts [] [] manyR rfl rfl rfl (Nat.lt_of_le_of_lt hl (of_decide_eq_true rfl))
  · rw [show ((ss.length : Int) != (ts.length : Int)) = true by simp; omega, cond_true, sameB, eqSks_len h, Bool.and_false]
theorem rq_pure {P : Program} {f : FuncId} (F : Fn P f G10 afRq) : PureOk P f rsameO := by
  refine F.lit [.agg [.rows 65], .agg [.rows 65]] none fun nid args hp r ha hr => ?_
  unfold rsameO at hr
  split at hr <;> try (cases hr; done)
  obtain ⟨a, l, e1, hr1⟩ := withRat_eq hr
  obtain ⟨b, l', e2, hr2⟩ := withRat_eq hr1
  obtain ⟨ss, hc, hl, hr3⟩ := withSks_eq hr2
  obtain ⟨ts, hc', hl', hr4⟩ := withSks_eq hr3
  cases hr4
  subst e1 e2
  refine ⟨_, _, by simp only [viewArgs, check_view hc, check_view hc', Option.bind_some, Option.map_some, List.append_nil, List.length_singleton]; rfl, by simp, ?_⟩
  exact rq_run nid a b _ _ ss ts hl
/-! ## Get: the rounds -/
def rgTop : ACode := af_hollowtreeref17_Get.code
def rgN (n : Nat) : ACode → ACode := fun c => n.rec c fun _ c => c.r
def rgLoop : ACode := (rgN 12 rgTop).l
def rgEndC : ACode := rgN 13 rgTop
def rgL : ACode := rgLoop.r.b.b
def rgCn : Option Canon := some ⟨[], [0, 2, 4, 5, 6], [(4, 164, .rows 65)], [16], 0⟩
def Rg0 : Env := envAdd id_hollowtreeref01_High (.full highC) (envAdd id_hollowtreeref17_Right (.pure rightO) (envAdd id_hollowtreeref17_Put (.pure refPutO) (envAdd id_hollowtreeref01_Same (.pure bytesEqO) G10)))
def rgSt (r : Rat) (n : Int) (bs : List Int) (k : Nat) (ys : List (List AV)) (i : Int) : St :=
  ⟨mkT 106 [(0, slB 0 717), (2, pt 16), (4, pt 17), (5, .int .i64 n), (6, .int .i64 i)], ⟨19, [roC 0 (.segs [.ints .u8 717 bs]), cel 16 (zeroRat.segs .nils), cel 17 (r.segs (.slice 18 0 0 k 65 none)), ⟨18, false, .rows 65 k ys⟩]⟩⟩
def slK (lo hi : Int) (k : Nat → Nat → Option Res) : Option Res := if 0 ≤ hi ∧ hi ≤ ((717 : Nat) : Int) then if 0 ≤ lo ∧ lo ≤ (hi.toNat : Int) then k (0 + lo.toNat) (hi.toNat - lo.toNat) else none else none
def hiK (xs : List Int) (k : Int → Option Res) : Option Res := if xs.length ≤ 140737488351232 then if xs.length = 4 then k (w32 (high4 xs)) else none else none
def cpB (bs : List Int) (o l : Nat) : List Int := splice z32 0 ((rawB bs o l).take (min l 32))
def atI (i : Int) : Int := w63 (173 + w63 (68 * i))
theorem rg_round (L : St → Option Res) (κ : Kont) (r : Rat) (n : Int) (bs : List Int) (k : Nat) (ys : List (List AV)) (i : Int) : ev Rg0 rgL (rgSt r n bs k ys i) (kLoop rgCn L κ) =
    bif decide (i < n) then slK (w63 (atI i + 32)) (w63 (atI i + 36)) fun o1 l1 => hiK (rawB bs o1 l1) fun num => slK (atI i) (w63 (atI i + 32)) fun o2 l2 => slK (w63 (atI i + 36)) (w63 (atI i + 68)) fun o3 l3 =>
      if (k + 1) * 68 ≤ 2 ^ 47 then L (rgSt r n bs (k + 1) ((ys.drop 0).take k ++ [skR ⟨cpB bs o2 l2, num, cpB bs o3 l3⟩]) (w63 (i + 1))) else none
    else κ (.exit 0) (withT 59 (.bool false) (withT 58 (.int .i64 n) (withT 57 (.int .i64 i) (rgSt r n bs k ys i)))) := by kernel_rfl
def rgCode (F : Nat) : ACode :=
  .seq none (rgN 0 rgTop).l (.seq none (rgN 1 rgTop).l (.seq none (rgN 2 rgTop).l (.seq none (rgN 3 rgTop).l (.seq none (rgN 4 rgTop).l (.seq none (rgN 5 rgTop).l (.seq none (rgN 6 rgTop).l (.seq none (rgN 7 rgTop).l (.seq none (rgN 8 rgTop).l (.seq none (rgN 9 rgTop).l (.seq none (rgN 10 rgTop).l (.seq none (rgN 11 rgTop).l
    (.seq none (.seq none rgLoop.l (.block 0 none (.loop F rgCn rgL))) rgEndC))))))))))))
def afRGet : AFn := ⟨106, [.cell 2 true 164, .t 3], rgCode 1000⟩
def rgKF (nid : Nat) : Kont := kFn [.cell 2 true 164, .t 3] (kOut none nid)
def rgK (nid : Nat) : Kont := kBlock 0 none (kSeq Rg0 none rgEndC (rgKF nid))
def noG : Option Res := some (.tuple [.agg (zeroRat.segs .nils), .bool false], ⟨0, []⟩)
def rgRat (bs : List Int) (s g b : Int) : Rat := ⟨cpB bs 0 32, cpB bs 32 32, cpB bs 64 32, cpB bs 96 32, cpB bs 128 32, s, g, b⟩
theorem rg_start (F nid : Nat) (bs : List Int) : ev Rg0 (rgCode F) ⟨[slB 0 717] ++ List.replicate 105 .undef, ⟨16, [roC 0 (.segs [.ints .u8 717 bs])]⟩⟩ (rgKF nid) =
    hiK (rawB bs 160 4) fun s => hiK (rawB bs 164 4) fun g => hiK (rawB bs 168 4) fun b => (bs[172]?).bind fun x => bif decide (w63 x > 8) then noG else
      loopK rgCn (ev Rg0 rgL) F (rgSt (rgRat bs s g b) (w63 x) bs 0 [] 0) (rgK nid) := by kernel_rfl
def rgD : List AOper := match rgEndC.l with | .draw ops => ops | _ => []
def rgHp (r : Rat) (bs : List Int) (k : Nat) (ys : List (List AV)) : Am.Heap := ⟨19, [roC 0 (.segs [.ints .u8 717 bs]), cel 16 (zeroRat.segs .nils), cel 17 (r.segs (.slice 18 0 0 k 65 none)), ⟨18, false, .rows 65 k ys⟩]⟩
def rgR (r : Rat) (k : Nat) : AV := .agg (r.segs (.slice 18 0 0 k 65 none))
def rgT (n i : Int) (l : List (Nat × AV)) : List AV := mkT 106 ([(0, slB 0 717), (2, pt 16), (4, pt 17), (5, .int .i64 n), (6, .int .i64 i), (57, .int .i64 i), (58, .int .i64 n), (59, .bool false)] ++ l)
def rgKD (nid : Nat) : List AV → Am.Heap → Option Res := fun t h => kSeq Rg0 none rgEndC.r (rgKF nid) .normal ⟨t, { h with next := 19 + stride * rgD.length }⟩
def rgX1 (r : Rat) (k : Nat) (v : AV) : List (Nat × AV) := [(97, rgR r k), (98, rgR r k), (99, v)]
def rgX2 (r : Rat) (k : Nat) (v : AV) : List (Nat × AV) := rgX1 r k (.bool true) ++ [(100, .bool true), (101, rgR r k), (102, v)]
def rgX3 (r : Rat) (k : Nat) (v : AV) : List (Nat × AV) := rgX2 r k (.slice 339 0 0 717 0 (some 717)) ++ [(103, slB 0 717), (104, v)]
def rgBef (j : Nat) : List Nat := (befs rgD []).getD j []
theorem rg_e1 (nid : Nat) (r : Rat) (n : Int) (bs : List Int) (k : Nat) (ys : List (List AV)) (i : Int) : rgK nid (.exit 0) (withT 59 (.bool false) (withT 58 (.int .i64 n) (withT 57 (.int .i64 i) (rgSt r n bs k ys i)))) =
    (rightO 147 [rgR r k] ((rgHp r bs k ys).hide 19 (rgBef 2))).bind fun q => evDraw Rg0 19 (befs rgD []) 3 (rgD.drop 3) (rgT n i (rgX1 r k q.1)) ((rgHp r bs k ys).ins 147 q.2) (footsTo rgD (rgT n i (rgX1 r k q.1)) 3) (rgKD nid) := by kernel_rfl
theorem rg_e2 (nid : Nat) (r : Rat) (n : Int) (bs : List Int) (k : Nat) (ys : List (List AV)) (i : Int) : evDraw Rg0 19 (befs rgD []) 3 (rgD.drop 3) (rgT n i (rgX1 r k (.bool true))) (rgHp r bs k ys) (footsTo rgD (rgT n i (rgX1 r k (.bool true))) 3) (rgKD nid) =
    (refPutO 339 [rgR r k] ((rgHp r bs k ys).hide 19 (rgBef 5))).bind fun q => evDraw Rg0 19 (befs rgD []) 6 (rgD.drop 6) (rgT n i (rgX2 r k q.1)) ((rgHp r bs k ys).ins 339 q.2) (footsTo rgD (rgT n i (rgX2 r k q.1)) 6) (rgKD nid) := by kernel_rfl
def endG (r : Rat) (k : Nat) (ys : List (List AV)) (b : Bool) : Option Res := some (.tuple [.agg (r.segs (.islR 65 ((ys.drop 0).take k))), .bool b], ⟨0, []⟩)
theorem rg_e2f (nid : Nat) (r : Rat) (n : Int) (bs : List Int) (k : Nat) (ys : List (List AV)) (i : Int) : evDraw Rg0 19 (befs rgD []) 3 (rgD.drop 3) (rgT n i (rgX1 r k (.bool false))) (rgHp r bs k ys) (footsTo rgD (rgT n i (rgX1 r k (.bool false))) 3) (rgKD nid) =
    endG r k ys false := by kernel_rfl
def rgHp2 (r : Rat) (bs pb : List Int) (k : Nat) (ys : List (List AV)) : Am.Heap := (rgHp r bs k ys).ins 339 (some (.segs [.ints .u8 717 pb]))
theorem rg_e3 (nid : Nat) (r : Rat) (n : Int) (bs pb : List Int) (k : Nat) (ys : List (List AV)) (i : Int) : evDraw Rg0 19 (befs rgD []) 6 (rgD.drop 6) (rgT n i (rgX2 r k (.slice 339 0 0 717 0 (some 717)))) (rgHp2 r bs pb k ys) (footsTo rgD (rgT n i (rgX2 r k (.slice 339 0 0 717 0 (some 717)))) 6) (rgKD nid) =
    (bytesEqO 467 [.slice 339 0 0 717 0 (some 717), slB 0 717] ((rgHp2 r bs pb k ys).hide 19 (rgBef 7))).bind fun q => evDraw Rg0 19 (befs rgD []) 8 (rgD.drop 8) (rgT n i (rgX3 r k q.1)) ((rgHp2 r bs pb k ys).ins 467 q.2) (footsTo rgD (rgT n i (rgX3 r k q.1)) 8) (rgKD nid) := by kernel_rfl
theorem rg_e4 (nid : Nat) (r : Rat) (n : Int) (bs pb : List Int) (k : Nat) (ys : List (List AV)) (i : Int) (b : Bool) : evDraw Rg0 19 (befs rgD []) 8 (rgD.drop 8) (rgT n i (rgX3 r k (.bool b))) (rgHp2 r bs pb k ys) (footsTo rgD (rgT n i (rgX3 r k (.bool b))) 8) (rgKD nid) =
    endG r k ys b := by kernel_rfl
end Go.Am
/- The document's answer: a ratchet out of bytes, whole. -/
namespace Go.Am
set_option linter.unusedSimpArgs false
set_option maxRecDepth 100000
theorem high4_eq {l : List Int} (hl : l.length = 4) (hr : ∀ x ∈ l, rng .u8 x) : w32 (high4 l) = u32B l := by
  match l, hl with
  | [a, b, c, d], _ =>
    obtain ⟨a, ha, rfl⟩ := rng8 (hr a (by simp))
    obtain ⟨b, hb, rfl⟩ := rng8 (hr b (by simp))
    obtain ⟨c, hc, rfl⟩ := rng8 (hr c (by simp))
    obtain ⟨d, hd, rfl⟩ := rng8 (hr d (by simp))
    have s : ∀ x y : Nat, x < 72057594037927936 → y < 256 → hiS (x : Int) (y : Int) = ((x * 256 + y : Nat) : Int) := fun x y hx hy => by
      rw [hiS, hiZ, show ((x : Int) * 256) = ((x * 256 : Nat) : Int) by omega, w64_nat, w64_nat, Nat.mod_eq_of_lt (by omega), Nat.mod_eq_of_lt (by omega), ← Int.natCast_add, w64_nat, Nat.mod_eq_of_lt (by omega)]
    have z : hiZ (hiZ (hiZ (hiZ 0))) = ((0 : Nat) : Int) := rfl
    rw [u32B_nat a b c d ha hb hc hd, high4, z, s 0 d (by omega) hd, s _ c (by omega) hc, s _ b (by omega) hb, s _ a (by omega) ha, w32_nat, Nat.mod_eq_of_lt (by omega)]
    congr 1
    omega
theorem hiK_eq {xs : List Int} (h : xs.length = 4) (hr : ∀ x ∈ xs, rng .u8 x) (k : Int → Option Res) : hiK xs k = k (u32B xs) := by
  rw [hiK, if_pos (by omega), if_pos h, high4_eq h hr]
theorem cpB_eq {bs : List Int} {o : Nat} (h : o + 32 ≤ bs.length) : cpB bs o 32 = rawB bs o 32 := by
  have := rawB_len h
  rw [cpB, Nat.min_self, List.take_of_length_le (by omega)]
  have e := spl32_eq this
  rw [spl32, this, Nat.min_self, List.take_of_length_le (by omega)] at e
  exact e
theorem slK_eq {a b : Nat} (h1 : a ≤ b) (h2 : b ≤ 717) (k : Nat → Nat → Option Res) : slK (a : Int) (b : Int) k = k a (b - a) := by
  rw [slK, if_pos ⟨by omega, by omega⟩, if_pos ⟨by omega, by omega⟩, Nat.zero_add]
  rfl
def rowsG (bs : List Int) (n : Nat) : List Sk := (List.range n).map fun i => rowB bs (173 + 68 * i)
theorem rowsG_len (bs : List Int) (n : Nat) : (rowsG bs n).length = n := by simp [rowsG]
theorem rowsG_succ (bs : List Int) (n : Nat) : rowsG bs (n + 1) = rowsG bs n ++ [rowB bs (173 + 68 * n)] := by simp [rowsG, List.range_succ]
theorem rg_loop (κ : Kont) (r : Rat) (n : Nat) (hn : n ≤ 8) (bs : List Int) (hb : bs.length = 717) (hr : ∀ x ∈ bs, rng .u8 x) :
    loopK rgCn (ev Rg0 rgL) 1000 (rgSt r n bs 0 [] 0) κ = κ (.exit 0) (withT 59 (.bool false) (withT 58 (.int .i64 n) (withT 57 (.int .i64 n) (rgSt r n bs n ((rowsG bs n).map skR) n)))) := by
  refine loopK_for (fun i => rgSt r n bs i ((rowsG bs i).map skR) (i : Int)) n _ (fun i hi L => ?_) (fun L => ?_) 1000 (by omega)
  · refine (rg_round L κ r n bs i _ i).trans ?_
    have ea : atI (i : Int) = ((173 + 68 * i : Nat) : Int) := by
      rw [atI, w63_of (n := 68 * (i : Int)) (by omega) (by omega), w63_of (by omega) (by omega)]; omega
    have e1 : ∀ c : Nat, c ≤ 68 → w63 (atI (i : Int) + (c : Int)) = ((173 + 68 * i + c : Nat) : Int) := fun c hc => by rw [ea, w63_of (by omega) (by omega)]; omega
    have e32 : w63 (atI (i : Int) + 32) = ((173 + 68 * i + 32 : Nat) : Int) := e1 32 (by omega)
    have e36 : w63 (atI (i : Int) + 36) = ((173 + 68 * i + 36 : Nat) : Int) := e1 36 (by omega)
    have e68 : w63 (atI (i : Int) + 68) = ((173 + 68 * i + 68 : Nat) : Int) := e1 68 (by omega)
    rw [decide_eq_true (by omega), cond_true, e32, e36, e68, ea, slK_eq (by omega) (by omega), show 173 + 68 * i + 36 - (173 + 68 * i + 32) = 4 by omega, hiK_eq (rawB_len (by omega)) (rawB_rng hr _ _), slK_eq (by omega) (by omega), slK_eq (by omega) (by omega),
      show 173 + 68 * i + 32 - (173 + 68 * i) = 32 by omega, show 173 + 68 * i + 68 - (173 + 68 * i + 36) = 32 by omega, cpB_eq (by omega), cpB_eq (by omega), if_pos (by omega), wS i (by omega)]
    have e2 : (((rowsG bs i).map skR).drop 0).take i = (rowsG bs i).map skR := by rw [List.drop_zero, List.take_of_length_le (by simp [rowsG_len])]
    rw [e2, rowsG_succ, List.map_append]
    rfl
  · refine (rg_round L κ r n bs n _ n).trans ?_
    rw [decide_eq_false (by omega), cond_false]
theorem rg_q1 (r : Rat) (bs : List Int) (k : Nat) (ys : List (List AV)) : rightO 147 [rgR r k] ((rgHp r bs k ys).hide 19 (rgBef 2)) = (skAll ((ys.drop 0).take k)).bind fun ss => if ss.length ≤ 1152921504606846976 then some (.bool (rightB r ss), none) else none := by kernel_rfl
theorem rg_q2 (r : Rat) (bs : List Int) (k : Nat) (ys : List (List AV)) : refPutO 339 [rgR r k] ((rgHp r bs k ys).hide 19 (rgBef 5)) = (skAll ((ys.drop 0).take k)).bind fun ss => if ss.length ≤ 1152921504606846976 then some (.slice 339 0 0 717 0 (some 717), some (.segs [.ints .u8 717 (putB r ss)])) else none := by kernel_rfl
theorem rg_q3 (r : Rat) (bs pb : List Int) (k : Nat) (ys : List (List AV)) : bytesEqO 467 [.slice 339 0 0 717 0 (some 717), slB 0 717] ((rgHp2 r bs pb k ys).hide 19 (rgBef 7)) =
    if (ysOf pb 717).length ≤ 140737488351232 then if (ysOf bs 717).length ≤ 140737488351232 then some (.bool (ysOf pb 717 == ysOf bs 717), none) else none else none := by kernel_rfl
theorem rg_after (nid : Nat) (r : Rat) (n : Int) (bs : List Int) (ss : List Sk) (i : Int) (h8 : ss.length ≤ 8) (h : RatOk r) (hs : ∀ s ∈ ss, SkOk s) (hb : bs.length = 717) :
    rgK nid (.exit 0) (withT 59 (.bool false) (withT 58 (.int .i64 n) (withT 57 (.int .i64 i) (rgSt r n bs ss.length (ss.map skR) i)))) = endG r ss.length (ss.map skR) (rightB r ss && (putB r ss == bs)) := by
  have e1 : ((ss.map skR).drop 0).take ss.length = ss.map skR := by rw [List.drop_zero, List.take_of_length_le (by simp)]
  refine (rg_e1 ..).trans ?_
  rw [rg_q1, e1, skAll_rows, Option.bind_some, if_pos (by omega), Option.bind_some]
  cases hrb : rightB r ss
  · exact rg_e2f ..
  · refine (rg_e2 ..).trans ?_
    rw [rg_q2, e1, skAll_rows, Option.bind_some, if_pos (by omega), Option.bind_some]
    refine (rg_e3 (pb := putB r ss) ..).trans ?_
    have hp := putB_len h hs
    rw [rg_q3, ysOf, ysOf, take_all _ _ hp, take_all _ _ hb, if_pos (by omega), if_pos (by omega), Option.bind_some]
    exact rg_e4 ..
/-- What the document tells of 717 bytes. -/
def refGetV (bs : List Int) : AV := bif decide (gtNum bs > 8) then .tuple [.agg (zeroRat.segs .nils), .bool false] else
  .tuple [.agg ((gtRat bs 0).segs (.islR 65 ((rowsG bs (gtNum bs).toNat).map skR))), .bool (rightB (gtRat bs 0) (rowsG bs (gtNum bs).toNat) && (putB (gtRat bs 0) (rowsG bs (gtNum bs).toNat) == bs))]
theorem rg_run (nid : Nat) (bs : List Int) (hb : bs.length = 717) (hr : ∀ x ∈ bs, rng .u8 x) : evFn Rg0 afRGet [slB 0 717] ⟨16, [roC 0 (.segs [.ints .u8 717 bs])]⟩ (kOut none nid) = some (refGetV bs, ⟨0, []⟩) := by
  refine (evFn_eq ..).trans ?_
  refine (rg_start 1000 nid bs).trans ?_
  rw [hiK_eq (rawB_len (by omega)) (rawB_rng hr _ _), hiK_eq (rawB_len (by omega)) (rawB_rng hr _ _), hiK_eq (rawB_len (by omega)) (rawB_rng hr _ _)]
  have hx : bs[172]? = some (gtNum bs) := by
    have : 172 < bs.length := by omega
    simp [gtNum, List.getD_eq_getElem?_getD, this]
  have hg : rng .u8 (gtNum bs) := by
    rw [gtNum, List.getD_eq_getElem?_getD, List.getElem?_eq_getElem (by omega)]
    exact hr _ (List.getElem_mem _)
  obtain ⟨n, hn1, hn2⟩ := rng8 hg
  have er : rgRat bs (u32B (rawB bs 160 4)) (u32B (rawB bs 164 4)) (u32B (rawB bs 168 4)) = gtRat bs 0 := by
    rw [rgRat, cpB_eq (by omega), cpB_eq (by omega), cpB_eq (by omega), cpB_eq (by omega), cpB_eq (by omega)]
    rfl
  rw [hx, Option.bind_some, er, refGetV, hn2, w63_of (by omega) (by omega)]
  by_cases h8 : (n : Int) > 8
  · rw [decide_eq_true h8]; rfl
  · rw [decide_eq_false h8, cond_false, cond_false, rg_loop _ _ n (by omega) bs hb hr, Int.toNat_natCast]
    have hl := rowsG_len bs n
    have := rg_after nid (gtRat bs 0) n bs (rowsG bs n) n (by omega) (gtRat_ok hr hb) (fun s hs => by
      simp only [rowsG, List.mem_map, List.mem_range] at hs
      obtain ⟨i, hi, rfl⟩ := hs
      exact row_ok hr _ (by omega)) hb
    rw [hl] at this
    rw [this, endG, List.drop_zero, List.take_of_length_le (by simp [hl])]
def refGetO : OrcP := fun _ args h => match args with
  | [s] => withBs h s fun xs => if xs.length = 717 then some (refGetV xs, none) else none
  | _ => none
theorem refGet_pure {P : Program} {f : FuncId} (F : Fn P f Rg0 afRGet) : PureOk P f refGetO := by
  refine F.lit [.sl (.ints .u8)] none fun nid args hp r ha hr => ?_
  unfold refGetO at hr
  split at hr <;> try (cases hr; done)
  rename_i s
  obtain ⟨xs, hc, hl, hr1⟩ := withBs_eq hr
  split at hr1 <;> try (cases hr1; done)
  rename_i h7
  cases hr1
  refine ⟨_, _, by simp only [viewArgs, contI_isSl hc, if_true, viewS_ints hc, Option.bind_some, Option.map_some]; rfl, by simp, ?_⟩
  rw [h7]
  exact rg_run nid xs h7 (ha.ints s (by simp) _ _ hc)
def refGetK {β : Type} (bs : List Int) (no : β) (yes : Rat → List Sk → Bool → β) : β := bif decide (gtNum bs > 8) then no else
  yes (gtRat bs 0) (rowsG bs (gtNum bs).toNat) (rightB (gtRat bs 0) (rowsG bs (gtNum bs).toNat) && (putB (gtRat bs 0) (rowsG bs (gtNum bs).toNat) == bs))
def refGetC : OrcF := fun args h κ => match args with
  | [s] => withBs h s fun xs => if xs.length = 717 then refGetK xs (κ (.tuple [.agg (zeroRat.segs .nils), .bool false]) h) (fun r ss b => κ (.tuple [.agg (r.segs (.islR 65 (ss.map skR))), .bool b]) h) else none
  | _ => none
theorem refGet_full {P : Program} {f : FuncId} (h : PureOk P f refGetO) : FullOk P f refGetC := by
  refine pure_full h fun args hp κ => ?_
  unfold refGetC refGetO
  split
  · rw [withBs_map]
    congr 1
    funext xs
    split
    · unfold refGetK refGetV
      cases decide (gtNum xs > 8) <;> rfl
    · rfl
  · first
    | rfl
    | (rename_i hx
       split
       · exact (hx _ rfl).elim
       · rfl)
end Go.Am
/- RatchetBytes, run: the first half. -/
namespace Go.Am
set_option linter.unusedSimpArgs false
set_option maxRecDepth 100000
def Lb0 : Env := envAdd id_hollowtreelaw17_wakes (.full wakesC) (envAdd id_ratchet_Put (.full rputC) (envAdd id_ratchet_Get (.full rgetC) (envAdd id_ratchet_Same (.pure rsameO) (envAdd id_ratchet_Check (.full checkC)
  (envAdd id_hollowtreeref17_Right (.full rightC) (envAdd id_hollowtreeref17_Put (.full refPutC) (envAdd id_hollowtreeref01_Same (.full bytesEqC) (envAdd id_hollowtreeref17_Get (.full refGetC) (envAdd id_hollowtreeref17_Same (.pure rsameO) G10)))))))))
def lbTop : ACode := af_hollowtreelaw17_RatchetBytes.code
def lbN (n : Nat) : ACode := n.rec lbTop fun _ c => c.r
def lbC1 : Option Canon := some ⟨[], [1, 2, 4], [], [0, 1, 16], 17⟩
def lbC2 : Option Canon := some ⟨[], [1, 2, 4, 8, 9], [], [16], 0⟩
def lbC3 : Option Canon := some ⟨[], [2, 4, 8, 9, 10, 11], [], [16], 0⟩
/-- The code from each part on. -/
def lbR6 : ACode := .seq none (lbN 8).l (lbN 9)
def lbR5 : ACode := .seq lbC3 (lbN 7).l lbR6
def lbR4 : ACode := .seq none (lbN 6).l lbR5
def lbR3 : ACode := .seq lbC2 (lbN 5).l lbR4
def lbR2 : ACode := .seq lbC1 (lbN 4).l lbR3
def afBytes : AFn := ⟨105, [.t 4], .seq none (lbN 0).l (.seq none (lbN 1).l (.seq none (lbN 2).l (.seq none (lbN 3).l lbR2)))⟩
def lbK : Kont := kFn [.t 4] kV
def lbH (r : Rat) (len m : Nat) (xs : List (List AV)) (bs : List Int) : Am.Heap := ⟨17, [roC 0 (.rows 65 len xs), roC 1 (.segs [.ints .u8 m bs]), cel 16 (r.segs (sl65 0 len))]⟩
def lbT (r : Rat) (len m : Nat) (v : AV) (a b : AV) (c : Bool) : List (Nat × AV) :=
  [(0, .agg (r.segs (sl65 0 len))), (1, slB 1 m), (2, pt 16), (4, .bool false), (5, a), (6, b), (7, .bool c), (12, .bool true), (13, .bool false), (14, v), (15, .agg (r.segs (sl65 0 len))), (16, v), (17, a), (18, b), (19, .agg (r.segs (sl65 0 len))), (20, .bool c)]
def lbSt1 (r : Rat) (len m : Nat) (xs : List (List AV)) (bs : List Int) (a b : AV) (c : Bool) : St := ⟨mkT 105 (lbT r len m (.tuple [a, b]) a b c), lbH r len m xs bs⟩
theorem lb_one (R : ACode) (K : Kont) (r : Rat) (len m : Nat) (xs : List (List AV)) (bs : List Int) : ev Lb0 (.seq none (lbN 0).l (.seq none (lbN 1).l (.seq none (lbN 2).l (.seq none (lbN 3).l R)))) ⟨[.agg (r.segs (sl65 0 len)), slB 1 m] ++ List.replicate 103 .undef, backH len m xs bs⟩ K =
    wSk ((xs.drop 0).take len) fun s1 => bif checkI r s1 != 0 then (wSk ((xs.drop 0).take len) fun s2 => ev Lb0 R (lbSt1 r len m xs bs .nils (.int .i64 270) (rightB r s2)) K)
      else (wSk ((xs.drop 0).take len) fun s2 => ev Lb0 R (lbSt1 r len m xs bs (.isl .u8 (putB r s1)) (.int .i64 0) (rightB r s2)) K) := by kernel_rfl
def lbSt2 (r : Rat) (len m : Nat) (xs : List (List AV)) (bs : List Int) : St := ⟨mkT 105 [(1, slB 1 m), (2, pt 16), (4, .bool false)], lbH r len m xs bs⟩
theorem lb_two_no (r : Rat) (len m : Nat) (xs : List (List AV)) (bs : List Int) : ev Lb0 lbR2 (lbSt1 r len m xs bs .nils (.int .i64 270) false) lbK =
    wSk ((xs.drop 0).take len) fun s => bif checkI r s != 270 then yes false else ev Lb0 lbR3 (lbSt2 r len m xs bs) lbK := by kernel_rfl
theorem lb_two_yes (r : Rat) (len m : Nat) (xs : List (List AV)) (bs pb : List Int) : ev Lb0 lbR2 (lbSt1 r len m xs bs (.isl .u8 pb) (.int .i64 0) true) lbK =
    wSk ((xs.drop 0).take len) fun s => wBs pb (wBs (ysOf (putB r s) 717) (bif !(pb == ysOf (putB r s) 717) then yes false else ev Lb0 lbR3 (lbSt2 r len m xs bs) lbK)) := by kernel_rfl
def lbSt3 (r r1 : Rat) (len m : Nat) (xs : List (List AV)) (bs : List Int) (l : AV) (e : Int) : St := ⟨mkT 105 [(1, slB 1 m), (2, pt 16), (4, .bool false), (8, pt 17), (9, .int .i64 e)],
  ⟨18, [roC 0 (.rows 65 len xs), roC 1 (.segs [.ints .u8 m bs]), cel 16 (r.segs (sl65 0 len)), cel 17 (r1.segs l)]⟩⟩
def lbGet (xs : List Int) (k : Rat → AV → Int → Option Res) : Option Res := wBs xs (getK xs (fun e => k zeroRat .nils e) (fun r ss => k r (.islR 65 (ss.map skR)) 0))
theorem lb_three_0 (r : Rat) (len : Nat) (xs : List (List AV)) (bs : List Int) : ev Lb0 lbR3 (lbSt2 r len 0 xs bs) lbK = lbGet [] fun r1 l e => ev Lb0 lbR4 (lbSt3 r r1 len 0 xs bs l e) lbK := by kernel_rfl
theorem lb_three (r : Rat) (len m : Nat) (xs : List (List AV)) (bs : List Int) : ev Lb0 lbR3 (lbSt2 r len (m + 1) xs bs) lbK =
    fitB (0 + (m + 1)) (lbGet (((([] : List Int).drop 0).take 0 ++ ysOf bs (m + 1)).drop 0 |>.take (0 + (m + 1))) fun r1 l e => ev Lb0 lbR4 (lbSt3 r r1 len (m + 1) xs bs l e) lbK) := by kernel_rfl
def lbSt4 (r r1 : Rat) (len m : Nat) (xs : List (List AV)) (bs : List Int) (l : AV) (e : Int) : St := ⟨mkT 105 [(1, slB 1 m), (2, pt 16), (4, .bool false), (8, pt 17), (9, .int .i64 e), (60, slB 1 m), (61, .int .i64 m), (62, .bool false)],
  ⟨18, [roC 0 (.rows 65 len xs), roC 1 (.segs [.ints .u8 m bs]), cel 16 (r.segs (sl65 0 len)), cel 17 (r1.segs l)]⟩⟩
theorem lb_four (R : ACode) (K : Kont) (r r1 : Rat) (len : Nat) (xs : List (List AV)) (bs : List Int) (l : AV) (e : Int) : ev Lb0 (.seq none (lbN 6).l R) (lbSt3 r r1 len 717 xs bs l e) K = ev Lb0 R (lbSt4 r r1 len 717 xs bs l e) K := by kernel_rfl
theorem lb_four_no (R : ACode) (r : Rat) (len m : Nat) (xs : List (List AV)) (bs : List Int) : ev Lb0 (.seq none (lbN 6).l R) (lbSt3 r zeroRat len m xs bs .nils 240) lbK =
    bif (m : Int) != 717 then yes (sameB zeroRat zeroRat [] []) else ev Lb0 R (lbSt4 r zeroRat len m xs bs .nils 240) lbK := by kernel_rfl
def lbHp (r r1 r2 : Rat) (len : Nat) (xs : List (List AV)) (bs : List Int) (l1 l2 : AV) : Am.Heap := ⟨19, [roC 0 (.rows 65 len xs), roC 1 (.segs [.ints .u8 717 bs]), cel 16 (r.segs (sl65 0 len)), cel 17 (r1.segs l1), cel 18 (r2.segs l2)]⟩
def lbSt5 (r r1 r2 : Rat) (len : Nat) (xs : List (List AV)) (bs : List Int) (l1 l2 : AV) (e : Int) (b : Bool) : St := ⟨mkT 105 [(2, pt 16), (4, .bool false), (8, pt 17), (9, .int .i64 e), (10, pt 18), (11, .bool b)], lbHp r r1 r2 len xs bs l1 l2⟩
def wB7 (bs : List Int) (k : Option Res) : Option Res := wBs bs (if bs.length = 717 then k else none)
theorem lb_five_no (R : ACode) (K : Kont) (r r1 : Rat) (len : Nat) (xs : List (List AV)) (bs : List Int) (e : Int) : ev Lb0 (.seq lbC3 (lbN 7).l R) (lbSt4 r r1 len 717 xs bs .nils e) K =
    wB7 (ysOf bs 717) (refGetK (ysOf bs 717) (ev Lb0 R (lbSt5 r r1 zeroRat len xs bs .nils .nils e false) K) fun r2 ss2 b => ev Lb0 R (lbSt5 r r1 r2 len xs bs .nils (.islR 65 (ss2.map skR)) e b) K) := by kernel_rfl
theorem lb_five_yes (R : ACode) (K : Kont) (r r1 : Rat) (len : Nat) (xs zs : List (List AV)) (bs : List Int) (e : Int) : ev Lb0 (.seq lbC3 (lbN 7).l R) (lbSt4 r r1 len 717 xs bs (.islR 65 zs) e) K =
    wB7 (ysOf bs 717) (refGetK (ysOf bs 717) (ev Lb0 R (lbSt5 r r1 zeroRat len xs bs (.islR 65 zs) .nils e false) K) fun r2 ss2 b => ev Lb0 R (lbSt5 r r1 r2 len xs bs (.islR 65 zs) (.islR 65 (ss2.map skR)) e b) K) := by kernel_rfl
theorem lb_six_no (R : ACode) (r r2 : Rat) (len : Nat) (xs : List (List AV)) (bs : List Int) (l2 : AV) : ev Lb0 (.seq none (lbN 8).l R) (lbSt5 r zeroRat r2 len xs bs .nils l2 270 false) lbK = yes (sameB zeroRat zeroRat [] []) := by kernel_rfl
def lbB : List (Nat × AV) := [(2, pt 16), (4, .bool false), (8, pt 17), (9, .int .i64 0), (10, pt 18), (11, .bool true), (75, .bool true), (76, .bool false)]
def lbD : List AOper := match (lbN 9).l with | .draw ops => ops | _ => []
def lbKD : List AV → Am.Heap → Option Res := fun t h => kSeq Lb0 none (lbN 9).r lbK .normal ⟨t, { h with next := 19 + stride * lbD.length }⟩
def lbBef (j : Nat) : List Nat := (befs lbD []).getD j []
def lbT1 (A0 A1 A2 v : AV) : List (Nat × AV) := lbB ++ [(84, .int .i64 0), (85, .bool true), (86, .bool true), (87, A1), (88, A2), (89, v)]
def lbT2 (A0 A1 A2 v : AV) : List (Nat × AV) := lbT1 A0 A1 A2 (.bool true) ++ [(90, .bool true), (91, .bool true), (92, A1), (93, A0), (94, v)]
def lbT3 (A0 A1 A2 : AV) (x : Bool) (v : AV) : List (Nat × AV) := lbT2 A0 A1 A2 (.bool x) ++ [(95, A1), (96, A0), (97, v)]
def lbT4 (A0 A1 A2 : AV) (x : Bool) (v : AV) : List (Nat × AV) := lbT3 A0 A1 A2 x (.bool x) ++ [(98, .bool true), (99, .bool true), (100, .bool true), (101, A1), (102, A2), (103, v)]
def lbEv (k : Nat) (t : List (Nat × AV)) (h : Am.Heap) : Option Res := evDraw Lb0 19 (befs lbD []) k (lbD.drop k) (mkT 105 t) h (footsTo lbD (mkT 105 t) k) lbKD
def ratA (r : Rat) (zs : List (List AV)) : AV := .agg (r.segs (.islR 65 zs))
def ratV (r : Rat) (len : Nat) : AV := .agg (r.segs (sl65 0 len))
section
variable (r r1 r2 : Rat) (len : Nat) (xs zs ws : List (List AV)) (bs : List Int)
theorem lb_six_yes : ev Lb0 (.seq none (lbN 8).l (lbN 9)) (lbSt5 r r1 r2 len xs bs (.islR 65 zs) (.islR 65 ws) 0 true) lbK =
    (rsameO 339 [ratA r1 zs, ratA r2 ws] ((lbHp r r1 r2 len xs bs (.islR 65 zs) (.islR 65 ws)).hide 19 (lbBef 5))).bind fun q => lbEv 6 (lbT1 (ratV r len) (ratA r1 zs) (ratA r2 ws) q.1) ((lbHp r r1 r2 len xs bs (.islR 65 zs) (.islR 65 ws)).ins 339 q.2) := by kernel_rfl
theorem lb_d2 : lbEv 6 (lbT1 (ratV r len) (ratA r1 zs) (ratA r2 ws) (.bool true)) (lbHp r r1 r2 len xs bs (.islR 65 zs) (.islR 65 ws)) =
    (rsameO 659 [ratA r1 zs, ratV r len] ((lbHp r r1 r2 len xs bs (.islR 65 zs) (.islR 65 ws)).hide 19 (lbBef 10))).bind fun q => lbEv 11 (lbT2 (ratV r len) (ratA r1 zs) (ratA r2 ws) q.1) ((lbHp r r1 r2 len xs bs (.islR 65 zs) (.islR 65 ws)).ins 659 q.2) := by kernel_rfl
theorem lb_d3 (x : Bool) : lbEv 11 (lbT2 (ratV r len) (ratA r1 zs) (ratA r2 ws) (.bool x)) (lbHp r r1 r2 len xs bs (.islR 65 zs) (.islR 65 ws)) =
    (rsameO 851 [ratA r1 zs, ratV r len] ((lbHp r r1 r2 len xs bs (.islR 65 zs) (.islR 65 ws)).hide 19 (lbBef 13))).bind fun q => lbEv 14 (lbT3 (ratV r len) (ratA r1 zs) (ratA r2 ws) x q.1) ((lbHp r r1 r2 len xs bs (.islR 65 zs) (.islR 65 ws)).ins 851 q.2) := by kernel_rfl
theorem lb_d4 (x : Bool) : lbEv 14 (lbT3 (ratV r len) (ratA r1 zs) (ratA r2 ws) x (.bool x)) (lbHp r r1 r2 len xs bs (.islR 65 zs) (.islR 65 ws)) =
    (rsameO 1235 [ratA r1 zs, ratA r2 ws] ((lbHp r r1 r2 len xs bs (.islR 65 zs) (.islR 65 ws)).hide 19 (lbBef 19))).bind fun q => lbEv 20 (lbT4 (ratV r len) (ratA r1 zs) (ratA r2 ws) x q.1) ((lbHp r r1 r2 len xs bs (.islR 65 zs) (.islR 65 ws)).ins 1235 q.2) := by
  cases x
  · kernel_rfl
  · kernel_rfl
theorem lb_d5 (x : Bool) : lbEv 20 (lbT4 (ratV r len) (ratA r1 zs) (ratA r2 ws) x (.bool true)) (lbHp r r1 r2 len xs bs (.islR 65 zs) (.islR 65 ws)) = yes true := by kernel_rfl
def rsKO (a b : Rat) (zs ws : List (List AV)) : Option (AV × Option Blk) :=
  (skAll zs).bind fun ss => if ss.length ≤ 1152921504606846976 then (skAll ws).bind fun ts => if ts.length ≤ 1152921504606846976 then some (.bool (sameB a b ss ts), none) else none else none
theorem lb_q5 : rsameO 339 [ratA r1 zs, ratA r2 ws] ((lbHp r r1 r2 len xs bs (.islR 65 zs) (.islR 65 ws)).hide 19 (lbBef 5)) = rsKO r1 r2 zs ws := by kernel_rfl
theorem lb_q10 : rsameO 659 [ratA r1 zs, ratV r len] ((lbHp r r1 r2 len xs bs (.islR 65 zs) (.islR 65 ws)).hide 19 (lbBef 10)) = rsKO r1 r zs ((xs.drop 0).take len) := by kernel_rfl
theorem lb_q13 : rsameO 851 [ratA r1 zs, ratV r len] ((lbHp r r1 r2 len xs bs (.islR 65 zs) (.islR 65 ws)).hide 19 (lbBef 13)) = rsKO r1 r zs ((xs.drop 0).take len) := by kernel_rfl
theorem lb_q19 : rsameO 1235 [ratA r1 zs, ratA r2 ws] ((lbHp r r1 r2 len xs bs (.islR 65 zs) (.islR 65 ws)).hide 19 (lbBef 19)) = rsKO r1 r2 zs ws := by kernel_rfl
end
end Go.Am
/- RatchetBytes, run: the whole. -/
namespace Go.Am
set_option linter.unusedSimpArgs false
set_option maxRecDepth 100000
theorem checkI_or (r : Rat) (ss : List Sk) : checkI r ss = 0 ∨ checkI r ss = 270 := by
  unfold checkI
  cases decide ((ss.length : Int) > 8) <;> cases decide (r.sent > 2147483648) <;> cases decide (r.got > 2147483648) <;> cases decide (r.bef > 2147483648) <;> cases dupI [] ss <;> simp
theorem getV_len {bs : List Int} : (bs.length ≠ 717 → getV bs = .inl 240) ∧ (∀ e, bs.length = 717 → getV bs = .inl e → e = 270) := by
  unfold getV getK
  refine ⟨fun h => ?_, fun e h hv => ?_⟩
  · rw [show ((bs.length : Int) != 717) = true by simp; omega, cond_true]
  · rw [show ((bs.length : Int) != 717) = false by simp; omega, cond_false] at hv
    split at hv
    · cases hv; rfl
    · cases hd : decide (gtNum bs > 8)
      · rename_i ss _
        cases hc : checkI (gtRat bs 0) ss != 0
        · rw [hd, hc] at hv; cases hv
        · rw [hd, hc] at hv; cases hv; rfl
      · rw [hd] at hv; cases hv; rfl
theorem num_of {bs : List Int} (hb : bs.length = 717) (hr : ∀ x ∈ bs, rng .u8 x) : ∃ n : Nat, n < 256 ∧ gtNum bs = (n : Int) := by
  refine rng8 ?_
  rw [gtNum, List.getD_eq_getElem?_getD, List.getElem?_eq_getElem (by omega)]
  exact hr _ (List.getElem_mem _)
theorem refGet_no {bs : List Int} {e : Int} (hb : bs.length = 717) (hr : ∀ x ∈ bs, rng .u8 x) (h : getV bs = .inl e) {β : Type} (a : β) (f : Rat → List Sk → Bool → β) : refGetK bs a f = a ∨ ∃ r ss, refGetK bs a f = f r ss false := by
  obtain ⟨n, hn1, hn2⟩ := num_of hb hr
  unfold refGetK
  by_cases h8 : gtNum bs > 8
  · left; rw [decide_eq_true h8, cond_true]
  · right
    rw [decide_eq_false h8, cond_false]
    refine ⟨gtRat bs 0, rowsG bs (gtNum bs).toNat, ?_⟩
    cases hbb : rightB (gtRat bs 0) (rowsG bs (gtNum bs).toNat) && (putB (gtRat bs 0) (rowsG bs (gtNum bs).toNat) == bs)
    · rfl
    · exfalso
      simp only [Bool.and_eq_true, beq_iff_eq, rightB] at hbb
      have hv := getV_put (gtRat_ok hr hb) (fun s hs => by
        simp only [rowsG, List.mem_map, List.mem_range] at hs
        obtain ⟨i, hi, rfl⟩ := hs
        exact row_ok hr _ (by omega)) hbb.1
      rw [hbb.2, h] at hv
      cases hv
theorem refGet_yes {r : Rat} {ss : List Sk} (h : RatOk r) (hs : ∀ s ∈ ss, SkOk s) (hc : checkI r ss = 0) {β : Type} (a : β) (f : Rat → List Sk → Bool → β) : refGetK (putB r ss) a f = f r ss true := by
  obtain ⟨h1, h2⟩ := gtRat_put (ss := ss) h
  have h8 := checkI_le hc
  have h3 : w8 (ss.length : Int) = (ss.length : Int) := by rw [w8_nat, Nat.mod_eq_of_lt (by omega)]
  have h4 : rowsG (putB r ss) ss.length = ss := by
    apply List.ext_getElem?
    intro i
    simp only [rowsG, List.getElem?_map]
    by_cases hi : i < ss.length
    · rw [List.getElem?_range hi, List.getElem?_eq_getElem hi]
      simp only [Option.map_some]
      rw [rowB_put h hs i (by omega), skAt, List.getD_eq_getElem?_getD, List.getElem?_eq_getElem hi]
      rfl
    · rw [List.getElem?_eq_none_iff.2 (by simp; omega), List.getElem?_eq_none_iff.2 (by omega)]
      rfl
  unfold refGetK
  rw [h2, h3, decide_eq_false (by omega), cond_false, h1, Int.toNat_natCast, h4]
  have : (rightB r ss && (putB r ss == putB r ss)) = true := by simp [rightB, hc]
  rw [this]
theorem rsKO_rows (a b : Rat) (ss ts : List Sk) (h1 : ss.length ≤ 1152921504606846976) (h2 : ts.length ≤ 1152921504606846976) : rsKO a b (ss.map skR) (ts.map skR) = some (.bool (sameB a b ss ts), none) := by
  rw [rsKO, skAll_rows, Option.bind_some, if_pos h1, skAll_rows, Option.bind_some, if_pos h2]
theorem lbGet_eq {bs : List Int} (hl : bs.length ≤ 140737488351232) (k : Rat → AV → Int → Option Res) : lbGet bs k = elimV (fun e => k zeroRat .nils e) (fun r ss => k r (.islR 65 (ss.map skR)) 0) (getV bs) := by
  rw [lbGet, wBs_eq hl, getK_V]
theorem lbR2_eq : lbR2 = .seq lbC1 (lbN 4).l lbR3 := rfl
theorem lbR4_eq : lbR4 = .seq none (lbN 6).l lbR5 := rfl
theorem lbR5_eq : lbR5 = .seq lbC3 (lbN 7).l lbR6 := rfl
theorem lbR6_eq : lbR6 = .seq none (lbN 8).l (lbN 9) := rfl
theorem lb_start (r : Rat) (len m : Nat) (xs : List (List AV)) (bs : List Int) : evFn Lb0 afBytes [.agg (r.segs (sl65 0 len)), slB 1 m] (backH len m xs bs) kV =
    ev Lb0 (.seq none (lbN 0).l (.seq none (lbN 1).l (.seq none (lbN 2).l (.seq none (lbN 3).l lbR2)))) ⟨[.agg (r.segs (sl65 0 len)), slB 1 m] ++ List.replicate 103 .undef, backH len m xs bs⟩ lbK := evFn_eq ..
theorem bytes_a (r : Rat) (ss : List Sk) (m : Nat) (bs : List Int) (hn : ss.length ≤ 1152921504606846976) : evFn Lb0 afBytes [.agg (r.segs (sl65 0 ss.length)), slB 1 m] (backH ss.length m (ss.map skR) bs) kV =
    bif checkI r ss != 0 then ev Lb0 lbR2 (lbSt1 r ss.length m (ss.map skR) bs .nils (.int .i64 270) (rightB r ss)) lbK else ev Lb0 lbR2 (lbSt1 r ss.length m (ss.map skR) bs (.isl .u8 (putB r ss)) (.int .i64 0) (rightB r ss)) lbK := by
  have e1 : ((ss.map skR).drop 0).take ss.length = ss.map skR := by rw [List.drop_zero, List.take_of_length_le (by simp)]
  rw [lb_start, lb_one, e1, wSk_rows hn, wSk_rows hn, wSk_rows hn]
theorem bytes_b (r : Rat) (ss : List Sk) (m : Nat) (bs : List Int) (hn : ss.length ≤ 1152921504606846976) (hc : checkI r ss = 270) : ev Lb0 lbR2 (lbSt1 r ss.length m (ss.map skR) bs .nils (.int .i64 270) false) lbK = ev Lb0 lbR3 (lbSt2 r ss.length m (ss.map skR) bs) lbK := by
  have e1 : ((ss.map skR).drop 0).take ss.length = ss.map skR := by rw [List.drop_zero, List.take_of_length_le (by simp)]
  rw [lb_two_no, e1, wSk_rows hn, hc, bne_self_eq_false, cond_false]
theorem bytes_c (r : Rat) (ss : List Sk) (m : Nat) (bs : List Int) (h : RatOk r) (hs : ∀ s ∈ ss, SkOk s) (hn : ss.length ≤ 1152921504606846976) : ev Lb0 lbR2 (lbSt1 r ss.length m (ss.map skR) bs (.isl .u8 (putB r ss)) (.int .i64 0) true) lbK = ev Lb0 lbR3 (lbSt2 r ss.length m (ss.map skR) bs) lbK := by
  have e1 : ((ss.map skR).drop 0).take ss.length = ss.map skR := by rw [List.drop_zero, List.take_of_length_le (by simp)]
  have hpl := putB_len h hs
  have ep : ysOf (putB r ss) 717 = putB r ss := take_all _ _ hpl
  have eq : (putB r ss == putB r ss) = true := beq_self_eq_true _
  rw [lb_two_yes, e1, wSk_rows hn, ep, wBs_eq (by omega), wBs_eq (by omega), eq, Bool.not_true, cond_false]
end Go.Am
/- RatchetBytes, run: joined. -/
namespace Go.Am
set_option linter.unusedSimpArgs false
set_option maxRecDepth 100000
theorem zero_same : yes (sameB zeroRat zeroRat [] []) = yes true := congrArg yes (same_self zeroRat [])
theorem rest_no (r : Rat) (len m : Nat) (xs : List (List AV)) (bs : List Int) (h : ((m : Int) != 717) = true) : ev Lb0 lbR4 (lbSt3 r zeroRat len m xs bs .nils 240) lbK = yes true := by
  rw [lbR4_eq, lb_four_no, h, cond_true, zero_same]
theorem rest_inl (r : Rat) (len : Nat) (xs : List (List AV)) (bs : List Int) {e : Int} (h7 : bs.length = 717) (hr : ∀ x ∈ bs, rng .u8 x) (hv : getV bs = .inl e) : ev Lb0 lbR4 (lbSt3 r zeroRat len 717 xs bs .nils 270) lbK = yes true := by
  have e7 : ysOf bs 717 = bs := take_all bs _ h7
  rw [lbR4_eq, lb_four, lbR5_eq, lb_five_no, e7, wB7, wBs_eq (by omega), if_pos h7]
  rcases refGet_no h7 hr hv (ev Lb0 lbR6 (lbSt5 r zeroRat zeroRat len xs bs .nils .nils 270 false) lbK) (fun r2 ss2 b => ev Lb0 lbR6 (lbSt5 r zeroRat r2 len xs bs .nils (.islR 65 (ss2.map skR)) 270 b) lbK) with he | ⟨r2, ss2, he⟩
  · rw [he, lbR6_eq, lb_six_no, zero_same]
  · rw [he, lbR6_eq, lb_six_no, zero_same]
theorem rest_end (r r1 : Rat) (ss ss1 : List Sk) (bs : List Int) (hn : ss.length ≤ 1152921504606846976) (h8 : ss1.length ≤ 8) :
    ev Lb0 lbR6 (lbSt5 r r1 r1 ss.length (ss.map skR) bs (.islR 65 (ss1.map skR)) (.islR 65 (ss1.map skR)) 0 true) lbK = yes true := by
  have e1 : ((ss.map skR).drop 0).take ss.length = ss.map skR := by rw [List.drop_zero, List.take_of_length_le (by simp)]
  have h1 : ss1.length ≤ 1152921504606846976 := by omega
  rw [lbR6_eq, lb_six_yes, lb_q5, rsKO_rows _ _ _ _ h1 h1, same_self, Option.bind_some]
  show lbEv 6 (lbT1 (ratV r ss.length) (ratA r1 (ss1.map skR)) (ratA r1 (ss1.map skR)) (.bool true)) (lbHp r r1 r1 ss.length (ss.map skR) bs (.islR 65 (ss1.map skR)) (.islR 65 (ss1.map skR))) = yes true
  rw [lb_d2, lb_q10, e1, rsKO_rows _ _ _ _ h1 hn, Option.bind_some]
  show lbEv 11 (lbT2 (ratV r ss.length) (ratA r1 (ss1.map skR)) (ratA r1 (ss1.map skR)) (.bool (sameB r1 r ss1 ss))) (lbHp r r1 r1 ss.length (ss.map skR) bs (.islR 65 (ss1.map skR)) (.islR 65 (ss1.map skR))) = yes true
  rw [lb_d3, lb_q13, e1, rsKO_rows _ _ _ _ h1 hn, Option.bind_some]
  show lbEv 14 (lbT3 (ratV r ss.length) (ratA r1 (ss1.map skR)) (ratA r1 (ss1.map skR)) (sameB r1 r ss1 ss) (.bool (sameB r1 r ss1 ss))) (lbHp r r1 r1 ss.length (ss.map skR) bs (.islR 65 (ss1.map skR)) (.islR 65 (ss1.map skR))) = yes true
  rw [lb_d4, lb_q19, rsKO_rows _ _ _ _ h1 h1, same_self, Option.bind_some]
  show lbEv 20 (lbT4 (ratV r ss.length) (ratA r1 (ss1.map skR)) (ratA r1 (ss1.map skR)) (sameB r1 r ss1 ss) (.bool true)) (lbHp r r1 r1 ss.length (ss.map skR) bs (.islR 65 (ss1.map skR)) (.islR 65 (ss1.map skR))) = yes true
  rw [lb_d5]
theorem rest_inr (r : Rat) (ss : List Sk) (bs : List Int) {r1 : Rat} {ss1 : List Sk} (hn : ss.length ≤ 1152921504606846976) (h7 : bs.length = 717) (k1 : RatOk r1) (k2 : ∀ s ∈ ss1, SkOk s) (k3 : checkI r1 ss1 = 0) (k4 : putB r1 ss1 = bs) :
    ev Lb0 lbR4 (lbSt3 r r1 ss.length 717 (ss.map skR) bs (.islR 65 (ss1.map skR)) 0) lbK = yes true := by
  have e7 : ysOf bs 717 = bs := take_all bs _ h7
  rw [lbR4_eq, lb_four, lbR5_eq, lb_five_yes, e7, wB7, wBs_eq (by omega), if_pos h7]
  have := refGet_yes k1 k2 k3 (ev Lb0 lbR6 (lbSt5 r r1 zeroRat ss.length (ss.map skR) bs (.islR 65 (ss1.map skR)) .nils 0 false) lbK) (fun r2 ss2 b => ev Lb0 lbR6 (lbSt5 r r1 r2 ss.length (ss.map skR) bs (.islR 65 (ss1.map skR)) (.islR 65 (ss2.map skR)) 0 b) lbK)
  rw [k4] at this
  rw [this]
  exact rest_end r r1 ss ss1 bs hn (checkI_le k3)
theorem lb_three7 (r : Rat) (len : Nat) (xs : List (List AV)) (bs : List Int) : ev Lb0 lbR3 (lbSt2 r len 717 xs bs) lbK =
    fitB (0 + 717) (lbGet (((([] : List Int).drop 0).take 0 ++ ysOf bs 717).drop 0 |>.take (0 + 717)) fun r1 l e => ev Lb0 lbR4 (lbSt3 r r1 len 717 xs bs l e) lbK) := by kernel_rfl
theorem noneX {bs : List Int} {m : Nat} (h : bs.length = m) : (((([] : List Int).drop 0).take 0 ++ ysOf bs m).drop 0).take (0 + m) = bs := by
  rw [ysOf, take_all bs _ h]
  simp [← h]
theorem rest_7 (r : Rat) (ss : List Sk) (bs : List Int) (hn : ss.length ≤ 1152921504606846976) (hr : ∀ x ∈ bs, rng .u8 x) (h7 : bs.length = 717) : ev Lb0 lbR3 (lbSt2 r ss.length 717 (ss.map skR) bs) lbK = yes true := by
  rw [lb_three7, noneX h7, fitB_eq (by omega), lbGet_eq (by omega)]
  rcases getV_cases hr with ⟨e, hv, _⟩ | ⟨r1, ss1, hv, k1, k2, k3, k4⟩
  · have := getV_len.2 e h7 hv
    subst this
    rw [hv]
    exact rest_inl r ss.length (ss.map skR) bs h7 hr hv
  · rw [hv]
    exact rest_inr r ss bs hn h7 k1 k2 k3 k4
theorem rest_s (r : Rat) (ss : List Sk) (bs : List Int) (m : Nat) (hm : bs.length = m + 1) (h7 : bs.length ≠ 717) (hl : bs.length ≤ 140737488351232) : ev Lb0 lbR3 (lbSt2 r ss.length (m + 1) (ss.map skR) bs) lbK = yes true := by
  rw [lb_three, noneX hm, fitB_eq (by omega), lbGet_eq hl, getV_len.1 h7]
  exact rest_no r ss.length (m + 1) (ss.map skR) bs (by simp; omega)
theorem lbGet_no {bs : List Int} (hl : bs.length ≤ 140737488351232) (h : getV bs = .inl 240) (k : Rat → AV → Int → Option Res) : lbGet bs k = k zeroRat .nils 240 := by
  rw [lbGet_eq hl, h]; rfl
theorem rest_z (r : Rat) (ss : List Sk) : ev Lb0 lbR3 (lbSt2 r ss.length 0 (ss.map skR) []) lbK = yes true := by
  rw [lb_three_0, lbGet_no (by simp) (getV_len.1 (by simp)), rest_no r ss.length 0 (ss.map skR) [] (by decide)]
theorem lb_rest (r : Rat) (ss : List Sk) (bs : List Int) (hn : ss.length ≤ 1152921504606846976) (hr : ∀ x ∈ bs, rng .u8 x) (hl : bs.length ≤ 140737488351232) :
    ev Lb0 lbR3 (lbSt2 r ss.length bs.length (ss.map skR) bs) lbK = yes true := by
  by_cases h0 : bs.length = 0
  · obtain rfl := List.eq_nil_of_length_eq_zero h0
    exact rest_z r ss
  · by_cases h7 : bs.length = 717
    · rw [h7]; exact rest_7 r ss bs hn hr h7
    · obtain ⟨m, hm⟩ : ∃ m, bs.length = m + 1 := ⟨bs.length - 1, by omega⟩
      rw [hm]; exact rest_s r ss bs m hm h7 hl
theorem bytes_run (r : Rat) (ss : List Sk) (bs : List Int) (h : RatOk r) (hs : ∀ s ∈ ss, SkOk s) (hn : ss.length ≤ 1152921504606846976) (hr : ∀ x ∈ bs, rng .u8 x) (hl : bs.length ≤ 140737488351232) :
    evFn Lb0 afBytes [.agg (r.segs (sl65 0 ss.length)), slB 1 bs.length] (backH ss.length bs.length (ss.map skR) bs) kV = yes true := by
  rw [bytes_a r ss bs.length bs hn]
  rcases checkI_or r ss with hc | hc
  · have hrb : rightB r ss = true := by simp [rightB, hc]
    rw [hrb, hc, bne_self_eq_false, cond_false, bytes_c r ss bs.length bs h hs hn, lb_rest r ss bs hn hr hl]
  · have hrb : rightB r ss = false := by simp [rightB, hc]
    have h270 : ((270 : Int) != 0) = true := by decide
    rw [hrb, hc, h270, cond_true, bytes_b r ss bs.length bs hn hc, lb_rest r ss bs hn hr hl]
end Go.Am
/- The environments, of this program. Printed. -/
namespace Go.Am
open Go.Proofs
set_option maxRecDepth 100000
theorem fz_hollowtreeref01_High {Γ : Env} (h : EnvOk Tryz.prog Γ) : Fn Tryz.prog id_hollowtreeref01_High Γ af_hollowtreeref01_High := Fn.of h moZ Tryz.func60 (by kernel_rfl)
theorem fz_hollowtreeref01_Low {Γ : Env} (h : EnvOk Tryz.prog Γ) : Fn Tryz.prog id_hollowtreeref01_Low Γ af_hollowtreeref01_Low := Fn.of h moZ Tryz.func55 (by kernel_rfl)
theorem fzA_hollowtreeref01_Both_afBoth {Γ : Env} (h : EnvOk Tryz.prog Γ) : Fn Tryz.prog id_hollowtreeref01_Both Γ afBoth := Fn.of h moZ Tryz.func54 (by kernel_rfl)
theorem fzA_hollowtreeref01_Same_afRSame {Γ : Env} (h : EnvOk Tryz.prog Γ) : Fn Tryz.prog id_hollowtreeref01_Same Γ afRSame := Fn.of h moZ Tryz.func19 (by kernel_rfl)
theorem fzA_hollowtreeref17_Find_afRFind {Γ : Env} (h : EnvOk Tryz.prog Γ) : Fn Tryz.prog id_hollowtreeref17_Find Γ afRFind := Fn.of h moZ Tryz.func34 (by kernel_rfl)
theorem fzA_hollowtreeref17_Get_afRGet {Γ : Env} (h : EnvOk Tryz.prog Γ) : Fn Tryz.prog id_hollowtreeref17_Get Γ afRGet := Fn.of h moZ Tryz.func22 (by kernel_rfl)
theorem fzA_hollowtreeref17_Put_afRPut {Γ : Env} (h : EnvOk Tryz.prog Γ) : Fn Tryz.prog id_hollowtreeref17_Put Γ afRPut := Fn.of h moZ Tryz.func20 (by kernel_rfl)
theorem fzA_hollowtreeref17_Right_afRight {Γ : Env} (h : EnvOk Tryz.prog Γ) : Fn Tryz.prog id_hollowtreeref17_Right Γ afRight := Fn.of h moZ Tryz.func10 (by kernel_rfl)
theorem fzA_hollowtreeref17_Same_afRq {Γ : Env} (h : EnvOk Tryz.prog Γ) : Fn Tryz.prog id_hollowtreeref17_Same Γ afRq := Fn.of h moZ Tryz.func9 (by kernel_rfl)
end Go.Am
/- The environments, of this program. Printed. -/
namespace Go.Am
open Go.Proofs
set_option maxRecDepth 100000
theorem Rp0_ok : EnvOk Tryz.prog Rp0 := envAdd_ok (f := id_hollowtreeref01_Both) (o := (.full bothC)) (both_full (both_pure (fzA_hollowtreeref01_Both_afBoth G10_ok))) (envAdd_ok (f := id_hollowtreeref01_Low) (o := (.full rlowC)) (rlow_full (rlow_pure (fz_hollowtreeref01_Low G10_ok))) (G10_ok))
theorem Rr0_ok : EnvOk Tryz.prog Rr0 := envAdd_ok (f := id_hollowtreeref17_Find) (o := (.full findC)) (find_full (rf_pure (fzA_hollowtreeref17_Find_afRFind G10_ok))) (G10_ok)
theorem Rg0_ok : EnvOk Tryz.prog Rg0 := envAdd_ok (f := id_hollowtreeref01_High) (o := (.full highC)) (high_full (high_pure (fz_hollowtreeref01_High G10_ok))) (envAdd_ok (f := id_hollowtreeref17_Right) (o := (.pure rightO)) (right_pure (fzA_hollowtreeref17_Right_afRight Rr0_ok)) (envAdd_ok (f := id_hollowtreeref17_Put) (o := (.pure refPutO)) (refPut_pure (fzA_hollowtreeref17_Put_afRPut Rp0_ok)) (envAdd_ok (f := id_hollowtreeref01_Same) (o := (.pure bytesEqO)) (rs_pure (fzA_hollowtreeref01_Same_afRSame G10_ok)) (G10_ok))))
theorem Lb0_ok : EnvOk Tryz.prog Lb0 := envAdd_ok (f := id_hollowtreelaw17_wakes) (o := (.full wakesC)) (wakes_full (wakes_pure (fz_hollowtreelaw17_wakes Wk2_ok))) (envAdd_ok (f := id_ratchet_Put) (o := (.full rputC)) (rput_full (rput_pure (fzA_ratchet_Put_afPut Pt0_ok))) (envAdd_ok (f := id_ratchet_Get) (o := (.full rgetC)) (rget_full (rget_pure (fzA_ratchet_Get_afGet Gt0_ok))) (envAdd_ok (f := id_ratchet_Same) (o := (.pure rsameO)) (rsame_pure (fz_ratchet_Same Sm0_ok)) (envAdd_ok (f := id_ratchet_Check) (o := (.full checkC)) (check_full (check_pure (fzA_ratchet_Check_afCheck Ck0_ok))) (envAdd_ok (f := id_hollowtreeref17_Right) (o := (.full rightC)) (right_full (right_pure (fzA_hollowtreeref17_Right_afRight Rr0_ok))) (envAdd_ok (f := id_hollowtreeref17_Put) (o := (.full refPutC)) (refPut_full (refPut_pure (fzA_hollowtreeref17_Put_afRPut Rp0_ok))) (envAdd_ok (f := id_hollowtreeref01_Same) (o := (.full bytesEqC)) (bytesEq_full (rs_pure (fzA_hollowtreeref01_Same_afRSame G10_ok))) (envAdd_ok (f := id_hollowtreeref17_Get) (o := (.full refGetC)) (refGet_full (refGet_pure (fzA_hollowtreeref17_Get_afRGet Rg0_ok))) (envAdd_ok (f := id_hollowtreeref17_Same) (o := (.pure rsameO)) (rq_pure (fzA_hollowtreeref17_Same_afRq G10_ok)) (G10_ok))))))))))
end Go.Am
