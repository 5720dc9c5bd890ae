/- RatchetKept: part 34 of 39 of its proof. -/
import Derived.Test.YtmkefajojokkfaaK21
import Derived.Test.YtmkefajojokkfaaK22
import Derived.Test.YtmkefajojokkfaaK23
import Derived.Test.YtmkefajojokkfaaK24
import Derived.Test.YtmkefajojokkfaaK25
import Derived.Test.YtmkefajojokkfaaK26
import Derived.Test.YtmkefajojokkfaaK27
import Derived.Test.YtmkefajojokkfaaK28
import Derived.Test.YtmkefajojokkfaaK30
import Derived.Test.YtmkefajojokkfaaK31
import Derived.Test.YtmkefajojokkfaaK32
set_option linter.unusedVariables false
set_option linter.unusedSimpArgs false
/- wakes, run. -/
namespace Go.Am
set_option maxRecDepth 100000
def begunT : OrcP := tabO tBegunA tBegunV noneO
def sealT : OrcP := tabO tSealA tSealV noneO
def openT : OrcP := tabO tOpenA tOpenV noneO
def Wk0 : Env := envAdd id_hollowtreelaw17_begun (.pure begunT) G10
def Wk1 : Env := envAdd id_ratchet_Seal (.pure sealT) Wk0
def Wk2 : Env := envAdd id_ratchet_Open (.pure openT) Wk1
theorem wakes_run : evFn Wk2 af_hollowtreelaw17_wakes [] ⟨16, []⟩ kV = some (.bool true, ⟨0, []⟩) := by kernel_rfl
def wakesO : OrcP := fun _ args _ => match args with
  | [] => some (.bool true, none)
  | _ => none
theorem wakes_pure {P : Program} {f : FuncId} (F : Fn P f Wk2 af_hollowtreelaw17_wakes) : PureOk P f wakesO := by
  refine F.plain fun nid args hp r ha hr => ?_
  unfold wakesO at hr
  split at hr <;> try (cases hr; done)
  cases hr
  exact ⟨rfl, rfl, rfl, wakes_run⟩
end Go.Am
/- Rows of keys that were passed over; where one is found. -/
namespace Go.Am
set_option linter.unusedSimpArgs false
set_option maxRecDepth 100000
structure Sk where
  key : List Int
  num : Int
  sec : List Int
def skR (s : Sk) : List AV := [.ints .u8 32 s.key, .int .u32 s.num, .ints .u8 32 s.sec]
def skOf : List AV → Option Sk
  | [.ints .u8 32 k, .int .u32 n, .ints .u8 32 s] => some ⟨k, n, s⟩
  | _ => none
theorem skOf_eq {l : List AV} {s : Sk} (h : skOf l = some s) : l = skR s := by
  unfold skOf at h
  split at h <;> cases h
  rfl
def skAll : List (List AV) → Option (List Sk)
  | [] => some []
  | l :: r => (skOf l).bind fun s => (skAll r).map (s :: ·)
theorem skAll_eq : ∀ {l : List (List AV)} {ss : List Sk}, skAll l = some ss → l = ss.map skR
  | [], ss, h => by cases h; rfl
  | l :: r, ss, h => by
    simp only [skAll] at h
    cases h1 : skOf l with
    | none => rw [h1] at h; cases h
    | some s =>
      rw [h1] at h
      simp only [Option.bind_some] at h
      cases h2 : skAll r with
      | none => rw [h2] at h; cases h
      | some t =>
        rw [h2] at h
        cases h
        rw [skOf_eq h1, skAll_eq h2]; rfl
theorem skAll_rows (ss : List Sk) : skAll (ss.map skR) = some ss := by
  induction ss with
  | nil => rfl
  | cons s r ih => simp only [List.map_cons, skAll, ih]; rfl
/-- The segments of a row at a place, where it is one. -/
def rowAt {β : Type} (q : Int) (n : Int) (xs : List (List AV)) (k : List AV → Option β) : Option β := if 0 ≤ q ∧ q < n then (xs[0 + q.toNat]?).bind fun l => (cutSegs l 0 65).bind k else none
theorem rowAt_eq {β : Type} {n : Int} {ss : List Sk} {k : List AV → Option β} (j : Nat) (h1 : (j : Int) < n) {s : Sk} (h2 : ss[j]? = some s) : rowAt (j : Int) n (ss.map skR) k = k (skR s) := by
  unfold rowAt
  rw [if_pos ⟨by omega, h1⟩, Int.toNat_natCast, Nat.zero_add, List.getElem?_map, h2]
  rfl
def roC (id : Nat) (b : Blk) : Cell := ⟨id, true, b⟩
/-! ## IndexFunc with find's test -/
def xfTop : ACode := af_slices_IndexFunc_api_Skip.code
def xfL : ACode := xfTop.r.l.r.b.b
def xfCn : Option Canon := some ⟨[], [0, 1, 6, 7, 8], [], [0, 1, 2], 16⟩
def afIdxOf (F : Nat) : AFn := ⟨19, [.t 4], .seq none xfTop.l (.seq none (.seq none xfTop.r.l.l (.block 0 none (.loop F xfCn xfL))) xfTop.r.r)⟩
/-- More rounds than a slice has places. -/
def manyR : Nat := 18446744073709551616
def afIdx : AFn := afIdxOf manyR
def Fd0 : Env := envAdd id_ratchet_find_1 (inl G10 af_ratchet_find_1) G10
def xfH (ks : List Int) (n : Int) (m : Nat) (xs : List (List AV)) : Am.Heap := ⟨16, [cel 0 [.ints .u8 32 ks], cel 1 [.int .u32 n], roC 2 (.rows 65 m xs)]⟩
def xfF : AV := .func id_ratchet_find_1 [] [pt 0, pt 1]
def xfSt (ks : List Int) (n : Int) (m len : Nat) (xs : List (List AV)) (i : Int) : St :=
  ⟨mkT 19 [(0, .slice 2 0 0 len 65 none), (1, xfF), (6, .slice 2 0 0 len 65 none), (7, .int .i64 len), (8, .int .i64 i)], xfH ks n m xs⟩
/-- The round behind the row. -/
def xfR : ACode := match xfL.r.r.l.b.r with | .seq _ (.reg ops) c => .seq none (.reg (ops.drop 5)) c | c => c
def xfT (ks : List Int) (n : Int) (m len : Nat) (xs : List (List AV)) (i : Int) (s : List AV) : St :=
  ⟨mkT 19 [(0, .slice 2 0 0 len 65 none), (1, xfF), (5, .int .i64 i), (6, .slice 2 0 0 len 65 none), (7, .int .i64 len), (8, .int .i64 i), (9, .bool true), (10, .int .i64 i), (11, xfF), (12, .slice 2 0 0 len 65 none), (13, .int .i64 i), (14, .ptr 2 (0 + i.toNat) 65 0 0), (15, .agg s)], xfH ks n m xs⟩
def xfI : ACode := xfL.r.r.r
theorem xf_round (L : St → Option Res) (κ : Kont) (ks : List Int) (n : Int) (m len : Nat) (xs : List (List AV)) (i : Int) : ev Fd0 xfL (xfSt ks n m len xs i) (kLoop xfCn L κ) =
    bif decide (i < len) then (if 0 ≤ i ∧ i < len then (xs[0 + i.toNat]?).bind fun l => (cutSegs l 0 65).bind fun s => ev Fd0 xfR (xfT ks n m len xs i s) (kBlock 1 none (kSeq Fd0 none xfI (kLoop xfCn L κ))) else none)
    else κ (.exit 0) (withT 9 (.bool false) (xfSt ks n m len xs i)) := by kernel_rfl
/-- What litG puts back, as a continuation. -/
def kG (fv : Bool) (fo ids : List Nat) (h : Am.Heap) : AV → Am.Heap → Option Res := fun v h' => outG fv fo ids 16 v h' h
def xfHH (a b : Nat) (h : Am.Heap) (ks : List Int) (n : Int) : Am.Heap := (h.set a (.segs [.ints .u8 32 ks])).set b (.segs [.int .u32 n])
def xfK (a b : Nat) (h : Am.Heap) : Kont := kBlock 0 none (kSeq Fd0 none xfTop.r.r (kFn [.t 4] (kG false [] [a, b] h)))
theorem xf_row (L : St → Option Res) (a b : Nat) (h : Am.Heap) (ks : List Int) (n : Int) (m len : Nat) (xs : List (List AV)) (i : Int) (s : Sk) :
    ev Fd0 xfR (xfT ks n m len xs i (skR s)) (kBlock 1 none (kSeq Fd0 none xfI (kLoop xfCn L (xfK a b h)))) =
    bif (s.key == ks) && true then bif s.num == n then some (.int .i64 i, xfHH a b h ks n) else L (xfSt ks n m len xs (w63 (i + 1))) else L (xfSt ks n m len xs (w63 (i + 1))) := by kernel_rfl
theorem xf_end (a b : Nat) (h : Am.Heap) (ks : List Int) (n : Int) (m len : Nat) (xs : List (List AV)) (i : Int) :
    xfK a b h (.exit 0) (withT 9 (.bool false) (xfSt ks n m len xs i)) = some (.int .i64 (-1), xfHH a b h ks n) := by kernel_rfl
/-- The place of a key that was passed over. -/
def findI (ks : List Int) (n : Int) : List Sk → Nat → Int
  | [], _ => -1
  | s :: r, i => bif (s.key == ks) && (s.num == n) then (i : Int) else findI ks n r (i + 1)
theorem w63_of {n : Int} (h0 : 0 ≤ n) (h1 : n < 9223372036854775808) : w63 n = n := w63_id (by omega) (by omega)
theorem xf_loop (a b : Nat) (h : Am.Heap) (ks : List Int) (n : Int) (m : Nat) (ss : List Sk) (hl : ss.length ≤ 1152921504606846976) : ∀ (r pre : List Sk) (F : Nat), ss = pre ++ r → r.length < F →
    loopK xfCn (ev Fd0 xfL) F (xfSt ks n m ss.length (ss.map skR) (pre.length : Int)) (xfK a b h) = some (.int .i64 (findI ks n r pre.length), xfHH a b h ks n)
  | [], pre, F + 1, he, _ => by
    refine (xf_round _ _ ks n m ss.length _ _).trans ?_
    have : ss.length = pre.length := by rw [he]; simp
    rw [this, decide_eq_false (by omega), cond_false]
    exact xf_end a b h ks n m _ _ _
  | s :: r, pre, F + 1, he, hF => by
    have hlen : ss.length = pre.length + r.length + 1 := by rw [he]; simp; omega
    have hs : ss[pre.length]? = some s := by rw [he]; simp
    refine (xf_round _ _ ks n m ss.length _ _).trans ?_
    rw [decide_eq_true (by omega), cond_true]
    refine (rowAt_eq (k := fun s => ev Fd0 xfR (xfT ks n m ss.length (ss.map skR) pre.length s) (kBlock 1 none (kSeq Fd0 none xfI (kLoop xfCn (fun s => loopK xfCn (ev Fd0 xfL) F s (xfK a b h)) (xfK a b h))))) pre.length (by omega) hs).trans ?_
    refine (xf_row _ a b h ks n m _ _ _ s).trans ?_
    have ih := xf_loop a b h ks n m ss hl r (pre ++ [s]) F (by rw [he]; simp) (by simp at hF; omega)
    rw [w63_of (by omega) (by omega)]
    have e : (((pre ++ [s]).length : Nat) : Int) = (pre.length : Int) + 1 := by simp
    rw [e] at ih
    rw [ih]
    simp only [findI, List.length_append, List.length_cons, List.length_nil]
    cases (s.key == ks) <;> cases (s.num == n) <;> rfl
  | _ :: _, _, 0, _, h => by omega
theorem xf_start (F : Nat) (κ : Kont) (ks : List Int) (n : Int) (m len : Nat) (xs : List (List AV)) : ev Fd0 (afIdxOf F).code ⟨[.slice 2 0 0 len 65 none, xfF] ++ List.replicate 17 .undef, xfH ks n m xs⟩ κ =
    loopK xfCn (ev Fd0 xfL) F (xfSt ks n m len xs 0) (kBlock 0 none (kSeq Fd0 none xfTop.r.r κ)) := by kernel_rfl
theorem xf_run (a b : Nat) (h : Am.Heap) (ks : List Int) (n : Int) (m : Nat) (ss : List Sk) (hl : ss.length ≤ 1152921504606846976) :
    evFn Fd0 afIdx [.slice 2 0 0 ss.length 65 none, xfF] (xfH ks n m (ss.map skR)) (kG false [] [a, b] h) = some (.int .i64 (findI ks n ss 0), xfHH a b h ks n) := by
  refine (evFn_eq ..).trans ?_
  refine (xf_start _ _ ks n m _ _).trans ?_
  exact xf_loop a b h ks n m ss hl ss [] _ rfl (Nat.lt_of_le_of_lt hl (of_decide_eq_true rfl))
end Go.Am
/- ratchet: find. -/
namespace Go.Am
set_option linter.unusedSimpArgs false
set_option maxRecDepth 100000
/-- A function on objects and views, as an oracle. -/
def litE (ks : List OK) (fv : Bool) (fo : List Nat) (Γ : Env) (af : AFn) : Orc := .full fun args h κ => (litG ks fv fo 16 (fun args h κ => evFn Γ af args h κ) args h).bind fun r => κ r.1 r.2
theorem litE_ok {P : Program} {f : FuncId} {Γ : Env} {af : AFn} (F : Fn P f Γ af) (ks : List OK) (fv : Bool) (fo : List Nat) : OrcOk P f (litE ks fv fo Γ af) := litG_ok F.ok
def Fd1 : Env := envAdd id_slices_IndexFunc_api_Skip (litE [.arg (.sl (.rows 65)), .obj] false [] Fd0 afIdx) Fd0
def findH (ks : List Int) (n : Int) (len : Nat) (xs : List (List AV)) : Am.Heap := ⟨18, [roC 0 (.rows 65 len xs), cel 16 [.ints .u8 32 ks], cel 17 [.int .u32 n]]⟩
theorem find_A (nid : Nat) (ks : List Int) (n : Int) (len : Nat) (xs : List (List AV)) :
    evFn Fd1 af_ratchet_find [.slice 0 0 0 len 65 none, .agg [.ints .u8 32 ks], .int .u32 n] ⟨16, [roC 0 (.rows 65 len xs)]⟩ (kOut none nid) =
    ((evFn Fd0 afIdx [.slice 2 0 0 ((xs.drop 0).take len).length 65 none, xfF] (xfH ks n ((xs.drop 0).take len).length ((xs.drop 0).take len)) kH).bind fun r => kG false [] [16, 17] (findH ks n len xs) r.1 r.2).bind fun r => kOut none nid r.1 r.2 := by kernel_rfl
def findO : OrcP := fun _ args h => match args with
  | [l, .agg [.ints .u8 32 ks], .int .u32 n] => (contR 65 h l).bind fun xs => (skAll xs).bind fun ss => if ss.length ≤ 1152921504606846976 then some (.int .i64 (findI ks n ss 0), none) else none
  | _ => none
theorem find_pure {P : Program} {f f0 : FuncId} (F : Fn P f Fd1 af_ratchet_find) (F0 : Fn P f0 Fd0 afIdx) : PureOk P f findO := by
  refine F.lit [.sl (.rows 65), .plain, .plain] none fun nid args hp r ha hr => ?_
  unfold findO at hr
  split at hr <;> try (cases hr; done)
  rename_i l ks n
  cases hc : contR 65 hp l with
  | none => rw [hc] at hr; cases hr
  | some xs =>
    rw [hc] at hr
    simp only [Option.bind_some] at hr
    cases hs : skAll xs with
    | none => rw [hs] at hr; cases hr
    | some ss =>
      rw [hs] at hr
      simp only [Option.bind_some] at hr
      split at hr <;> try (cases hr; done)
      rename_i hl
      cases hr
      obtain rfl := skAll_eq hs
      refine ⟨_, _, by simp only [viewArgs, contR_isSl hc, if_true, viewS_rows (by decide) hc, Option.bind_some, Option.map_some]; rfl, by simp, ?_⟩
      have hlen : (ss.map skR).length = ss.length := by simp
      rw [hlen]
      refine (find_A nid ks n ss.length (ss.map skR)).trans ?_
      have e1 : ((ss.map skR).drop 0).take ss.length = ss.map skR := by rw [List.drop_zero, List.take_of_length_le (by simp)]
      rw [e1, hlen]
      have e2 := F0.factor [.slice 2 0 0 ss.length 65 none, xfF] (xfH ks n ss.length (ss.map skR)) (kG false [] [16, 17] (findH ks n ss.length (ss.map skR)))
      simp only at e2
      rw [← e2, xf_run _ _ _ _ _ _ _ hl]
      rfl
end Go.Am
/- A pure oracle as one that is told what is to come: its guards stand ahead. -/
namespace Go.Am
set_option linter.unusedSimpArgs false
abbrev OrcF := List AV → Heap → (AV → Heap → Option Res) → Option Res
theorem pure_full {P : Program} {f : FuncId} {o : OrcP} {C : OrcF} (ho : PureOk P f o) (hC : ∀ args h κ, C args h κ = (o h.next args h).bind fun r => κ r.1 (obH h r.2)) : FullOk P f C where
  factor := fun args h κ => by
    rw [hC args h κ, hC args h kH]
    cases o h.next args h <;> rfl
  sound := fun args h v h' ι w vs hk R hf ha => by
    have hΓ : EnvOk P (envAdd f (.pure o) fun _ => none) := envAdd_ok (o := .pure o) ho env_ok_none
    refine callK_sound hΓ (f := f) ?_ R hf ha
    rw [hC] at hk
    unfold callK envAdd
    simp only [if_true]
    rw [← hk]
    cases o h.next args h with
    | none => rfl
    | some r => obtain ⟨a, b⟩ := r; cases b <;> rfl
/-- A place of a list of keys. -/
def withSks {β : Type} (h : Heap) (l : AV) (k : List Sk → Option β) : Option β := (contR 65 h l).bind fun xs => (skAll xs).bind fun ss => if ss.length ≤ 1152921504606846976 then k ss else none
def findC : OrcF := fun args h κ => match args with
  | [l, .agg [.ints .u8 32 ks], .int .u32 n] => withSks h l fun ss => κ (.int .i64 (findI ks n ss 0)) h
  | _ => none
theorem find_full {P : Program} {f : FuncId} (h : PureOk P f findO) : FullOk P f findC := by
  refine pure_full h fun args hp κ => ?_
  unfold findC findO withSks
  split
  · rename_i l ks n
    try simp only []
    cases contR 65 hp l with
    | none => rfl
    | some xs =>
      simp only [Option.bind_some]
      cases skAll xs with
      | none => rfl
      | some ss =>
        simp only [Option.bind_some]
        split <;> rfl
  · first
    | rfl
    | (rename_i hx
       split
       · exact (hx _ _ _ rfl).elim
       · rfl)
end Go.Am
/- octet: put, Put32, Equal. -/
namespace Go.Am
set_option linter.unusedSimpArgs false
set_option maxRecDepth 100000
def withBs {β : Type} (h : Heap) (s : AV) (k : List Int → Option β) : Option β := (contI .u8 h s).bind fun xs => if xs.length ≤ 140737488351232 then k xs else none
theorem withBs_eq {β : Type} {h : Heap} {l : AV} {k : List Int → Option β} {x : β} (hk : withBs h l k = some x) : ∃ xs, contI .u8 h l = some xs ∧ xs.length ≤ 140737488351232 ∧ k xs = some x := by
  unfold withBs at hk
  cases hc : contI .u8 h l with
  | none => rw [hc] at hk; cases hk
  | some xs =>
    rw [hc] at hk
    simp only [Option.bind_some] at hk
    split at hk
    · rename_i hl; exact ⟨xs, rfl, hl, hk⟩
    · cases hk
theorem withBs_map {β γ : Type} {h : Heap} {l : AV} {k : List Int → Option β} {g : β → Option γ} : (withBs h l k).bind g = withBs h l fun ss => (k ss).bind g := by
  unfold withBs
  cases contI .u8 h l with
  | none => rfl
  | some xs =>
    simp only [Option.bind_some]
    split <;> rfl
/-- New bytes. -/
def newBs (nid : Nat) (xs : List Int) : AV × Option Blk := (.slice nid 0 0 xs.length 0 none, some (.segs [.ints .u8 xs.length xs]))
def cloneC : OrcF := fun args h κ => match args with
  | [s] => withBs h s fun xs => κ (.slice h.next 0 0 xs.length 0 none) (h.new (.segs [.ints .u8 xs.length xs]))
  | _ => none
theorem clone_full {P : Program} {f : FuncId} (h : PureOk P f cloneO) : FullOk P f cloneC := by
  refine pure_full h fun args hp κ => ?_
  unfold cloneC cloneO
  split
  · rename_i s
    show withBs hp s _ = (withBs hp s fun xs => some (newBs hp.next xs)).bind _
    rw [withBs_map]
    rfl
  · first
    | rfl
    | (rename_i hx
       split
       · exact (hx _ rfl).elim
       · rfl)
def pOc : Env := envAdd id_slices_Clone_byte (.full cloneC) G10
def apB (L : Nat) (ys : List Int) (b : Int) : List Int := (ys.drop 0).take L ++ [b]
def shB (x : Int) : Int := x.fdiv (2 ^ 8)
def fitB (n : Nat) (r : Option Res) : Option Res := if n * 1 ≤ 2 ^ 47 then r else none
theorem put_run4 (nid len : Nat) (xs : List Int) (x : Int) : evFn pOc af_octet_put [.slice 0 0 0 len 0 none, .int .u64 x, .int .i64 4] ⟨16, [roC 0 (.segs [.ints .u8 len xs])]⟩ (kOut (some (.ints .u8)) nid) =
    if ((xs.drop 0).take len).length ≤ 140737488351232 then
      fitB (((xs.drop 0).take len).length + 1) (fitB (((xs.drop 0).take len).length + 1 + 1) (fitB (((xs.drop 0).take len).length + 1 + 1 + 1) (fitB (((xs.drop 0).take len).length + 1 + 1 + 1 + 1)
        (some (.slice nid 0 0 (((xs.drop 0).take len).length + 1 + 1 + 1 + 1) 0 none, encB nid (some (.segs [.ints .u8 (((xs.drop 0).take len).length + 1 + 1 + 1 + 1)
          (apB (((xs.drop 0).take len).length + 1 + 1 + 1) (apB (((xs.drop 0).take len).length + 1 + 1) (apB (((xs.drop 0).take len).length + 1) (apB ((xs.drop 0).take len).length ((xs.drop 0).take len) (w8 x)) (w8 (shB x))) (w8 (shB (shB x)))) (w8 (shB (shB (shB x)))))])))))))
    else none := by kernel_rfl
theorem apB_eq (ys : List Int) (b : Int) (L : Nat) (h : L = ys.length) : apB L ys b = ys ++ [b] := by
  subst h
  rw [apB, List.drop_zero, List.take_length]
theorem take_all (xs : List Int) (n : Nat) (h : xs.length = n) : (xs.drop 0).take n = xs := by rw [List.drop_zero, ← h, List.take_length]
/-- A number's lowest bytes. -/
def le4 (x : Int) : List Int := [w8 x, w8 (shB x), w8 (shB (shB x)), w8 (shB (shB (shB x)))]
theorem put_run (nid : Nat) (xs : List Int) (x : Int) (hl : xs.length ≤ 140737488351232) : evFn pOc af_octet_put [.slice 0 0 0 xs.length 0 none, .int .u64 x, .int .i64 4] ⟨16, [roC 0 (.segs [.ints .u8 xs.length xs])]⟩ (kOut (some (.ints .u8)) nid) =
    some (.slice nid 0 0 (xs.length + 4) 0 none, encB nid (some (.segs [.ints .u8 (xs.length + 4) (xs ++ le4 x)]))) := by
  refine (put_run4 ..).trans ?_
  rw [take_all xs _ rfl, if_pos hl]
  unfold fitB
  rw [if_pos (by omega), if_pos (by omega), if_pos (by omega), if_pos (by omega), apB_eq xs _ _ rfl, apB_eq (xs ++ [w8 x]) _ _ (by simp), apB_eq (xs ++ [w8 x] ++ [w8 (shB x)]) _ _ (by simp), apB_eq (xs ++ [w8 x] ++ [w8 (shB x)] ++ [w8 (shB (shB x))]) _ _ (by simp)]
  simp only [List.append_assoc, List.cons_append, List.nil_append, le4]
def put4O (nid : Nat) (args : List AV) (h : Am.Heap) : Option (AV × Option Blk) := match args with
  | [s, .int .u64 x, .int .i64 4] => withBs h s fun xs => some (.slice nid 0 0 (xs.length + 4) 0 none, some (.segs [.ints .u8 (xs.length + 4) (xs ++ le4 x)]))
  | _ => none
theorem put_pure {P : Program} {f : FuncId} (F : Fn P f pOc af_octet_put) : PureOk P f put4O := by
  refine F.lit [.sl (.ints .u8), .plain, .plain] (some (.ints .u8)) fun nid args hp r ha hr => ?_
  unfold put4O at hr
  split at hr <;> try (cases hr; done)
  obtain ⟨xs, hc, hl, hr1⟩ := withBs_eq hr
  cases hr1
  refine ⟨_, _, by simp only [viewArgs, contI_isSl hc, if_true, viewS_ints hc, Option.bind_some, Option.map_some]; rfl, by simp, ?_⟩
  exact put_run nid xs _ hl
end Go.Am
/- ratchet: Check. -/
namespace Go.Am
set_option linter.unusedSimpArgs false
set_option maxRecDepth 100000
/-- A ratchet, but for its slice. -/
structure Rat where
  root : List Int
  own : List Int
  peer : List Int
  send : List Int
  recv : List Int
  sent : Int
  got : Int
  bef : Int
def Rat.segs (r : Rat) (l : AV) : List AV := [.ints .u8 32 r.root, .ints .u8 32 r.own, .ints .u8 32 r.peer, .ints .u8 32 r.send, .ints .u8 32 r.recv, .int .u32 r.sent, .int .u32 r.got, .int .u32 r.bef, l]
def ckTop : ACode := af_ratchet_Check.code
def ckL : ACode := ckTop.r.r.l.r.b.b
def ckCn : Option Canon := some ⟨[], [1, 25, 26, 27], [], [0, 16], 17⟩
def afCheckOf (F : Nat) : AFn := ⟨43, [.t 2], .seq none ckTop.l (.seq none ckTop.r.l (.seq none (.seq none ckTop.r.r.l.l (.block 0 none (.loop F ckCn ckL))) ckTop.r.r.r))⟩
def afCheck : AFn := afCheckOf manyR
def Ck0 : Env := envAdd id_ratchet_find (.full findC) G10
def ckS (len : Nat) : AV := .slice 0 0 0 len 65 none
def ckH (r : Rat) (len m : Nat) (xs : List (List AV)) : Am.Heap := ⟨17, [roC 0 (.rows 65 m xs), cel 16 (r.segs (ckS len))]⟩
def ckSt (r : Rat) (len m : Nat) (xs : List (List AV)) (i : Int) : St := ⟨mkT 43 [(1, pt 16), (25, ckS len), (26, .int .i64 len), (27, .int .i64 i)], ckH r len m xs⟩
def ckR : ACode := match ckL.r.r.l.b with | .seq _ (.reg ops) c => .seq none (.reg (ops.drop 3)) c | c => c
def ckT (r : Rat) (len m : Nat) (xs : List (List AV)) (i : Int) (s : List AV) : St :=
  ⟨mkT 43 [(1, pt 16), (25, ckS len), (26, .int .i64 len), (27, .int .i64 i), (28, .bool true), (29, .int .i64 i), (30, .ptr 0 (0 + i.toNat) 65 0 0), (31, .agg s)], ckH r len m xs⟩
def ckI : ACode := ckL.r.r.r
theorem ck_round (L : St → Option Res) (κ : Kont) (r : Rat) (len m : Nat) (xs : List (List AV)) (i : Int) : ev Ck0 ckL (ckSt r len m xs i) (kLoop ckCn L κ) =
    bif decide (i < len) then rowAt i len xs fun s => ev Ck0 ckR (ckT r len m xs i s) (kBlock 1 none (kSeq Ck0 none ckI (kLoop ckCn L κ)))
    else κ (.exit 0) (withT 28 (.bool false) (ckSt r len m xs i)) := by kernel_rfl
def ckK (nid : Nat) : Kont := kBlock 0 none (kSeq Ck0 none ckTop.r.r.r (kFn [.t 2] (kOut none nid)))
theorem ck_row (L : St → Option Res) (nid : Nat) (r : Rat) (len m : Nat) (xs : List (List AV)) (i : Int) (s : Sk) :
    ev Ck0 ckR (ckT r len m xs i (skR s)) (kBlock 1 none (kSeq Ck0 none ckI (kLoop ckCn L (ckK nid)))) =
    if 0 ≤ i ∧ i ≤ (len : Int) then (skAll ((xs.drop (0 + 0)).take (i.toNat - 0))).bind fun ss => if ss.length ≤ 1152921504606846976 then
      (bif decide (findI s.key s.num ss 0 ≥ 0) then some (.int .i64 270, ⟨0, []⟩) else L (ckSt r len m xs (w63 (i + 1)))) else none
    else none := by kernel_rfl
def err (n : Int) : Option Res := some (.int .i64 n, ⟨0, []⟩)
theorem ck_start (F nid : Nat) (r : Rat) (len m : Nat) (xs : List (List AV)) : ev Ck0 (afCheckOf F).code ⟨[.agg (r.segs (ckS len))] ++ List.replicate 42 .undef, ⟨16, [roC 0 (.rows 65 m xs)]⟩⟩ (kFn [.t 2] (kOut none nid)) =
    bif decide ((len : Int) > 8) then err 270 else bif decide (r.sent > 2147483648) then err 270 else bif decide (r.got > 2147483648) then err 270 else bif decide (r.bef > 2147483648) then err 270
    else loopK ckCn (ev Ck0 ckL) F (ckSt r len m xs 0) (ckK nid) := by kernel_rfl
theorem ck_end (nid : Nat) (r : Rat) (len m : Nat) (xs : List (List AV)) (i : Int) : ckK nid (.exit 0) (withT 28 (.bool false) (ckSt r len m xs i)) = err 0 := by kernel_rfl
def dupI : List Sk → List Sk → Bool
  | _, [] => false
  | pre, s :: r => bif decide (findI s.key s.num pre 0 ≥ 0) then true else dupI (pre ++ [s]) r
def checkI (r : Rat) (ss : List Sk) : Int :=
  bif decide ((ss.length : Int) > 8) then 270 else bif decide (r.sent > 2147483648) then 270 else bif decide (r.got > 2147483648) then 270 else bif decide (r.bef > 2147483648) then 270
  else bif dupI [] ss then 270 else 0
theorem ck_loop (nid : Nat) (r : Rat) (m : Nat) (ss : List Sk) (hl : ss.length ≤ 1152921504606846976) : ∀ (t pre : List Sk) (F : Nat), ss = pre ++ t → t.length < F →
    loopK ckCn (ev Ck0 ckL) F (ckSt r ss.length m (ss.map skR) (pre.length : Int)) (ckK nid) = err (bif dupI pre t then 270 else 0)
  | [], pre, F + 1, he, _ => by
    refine (ck_round _ _ r ss.length m _ _).trans ?_
    have : ss.length = pre.length := by rw [he]; simp
    rw [this, decide_eq_false (by omega), cond_false]
    exact ck_end ..
  | s :: t, pre, F + 1, he, hF => by
    have hlen : ss.length = pre.length + t.length + 1 := by rw [he]; simp; omega
    have hs : ss[pre.length]? = some s := by rw [he]; simp
    refine (ck_round _ _ r ss.length m _ _).trans ?_
    rw [decide_eq_true (by omega), cond_true]
    refine (rowAt_eq (k := fun s => ev Ck0 ckR (ckT r ss.length m (ss.map skR) pre.length s) (kBlock 1 none (kSeq Ck0 none ckI (kLoop ckCn (fun s => loopK ckCn (ev Ck0 ckL) F s (ckK nid)) (ckK nid))))) pre.length (by omega) hs).trans ?_
    refine (ck_row _ nid r ss.length m _ _ s).trans ?_
    rw [if_pos ⟨by omega, by omega⟩]
    have e1 : ((ss.map skR).drop (0 + 0)).take ((pre.length : Int).toNat - 0) = pre.map skR := by
      rw [he]; simp
    rw [e1, skAll_rows, Option.bind_some, if_pos (by omega)]
    have ih := ck_loop nid r m ss hl t (pre ++ [s]) F (by rw [he]; simp) (by simp at hF; omega)
    rw [w63_of (by omega) (by omega)]
    have e : (((pre ++ [s]).length : Nat) : Int) = (pre.length : Int) + 1 := by simp
    rw [e] at ih
    simp only [dupI]
    cases decide (findI s.key s.num pre 0 ≥ 0)
    · simp only [cond_false]; exact ih
    · rfl
  | _ :: _, _, 0, _, h => by omega
theorem ck_run (nid : Nat) (r : Rat) (m : Nat) (ss : List Sk) (hl : ss.length ≤ 1152921504606846976) :
    evFn Ck0 afCheck [.agg (r.segs (ckS ss.length))] ⟨16, [roC 0 (.rows 65 m (ss.map skR))]⟩ (kOut none nid) = err (checkI r ss) := by
  refine (evFn_eq ..).trans ?_
  refine (ck_start _ nid r _ m _).trans ?_
  rw [show loopK ckCn (ev Ck0 ckL) manyR (ckSt r ss.length m (ss.map skR) 0) (ckK nid) = _ from ck_loop nid r m ss hl ss [] manyR rfl (Nat.lt_of_le_of_lt hl (of_decide_eq_true rfl))]
  unfold checkI
  cases decide ((ss.length : Int) > 8) <;> cases decide (r.sent > 2147483648) <;> cases decide (r.got > 2147483648) <;> cases decide (r.bef > 2147483648) <;> rfl
/-- A ratchet's segments, told apart. -/
def withRat {β : Type} (v : AV) (k : Rat → AV → Option β) : Option β := match v with
  | .agg [.ints .u8 32 a, .ints .u8 32 b, .ints .u8 32 c, .ints .u8 32 d, .ints .u8 32 e, .int .u32 s, .int .u32 g, .int .u32 p, l] => k ⟨a, b, c, d, e, s, g, p⟩ l
  | _ => none
theorem withRat_eq {β : Type} {v : AV} {k : Rat → AV → Option β} {x : β} (h : withRat v k = some x) : ∃ r l, v = .agg (r.segs l) ∧ k r l = some x := by
  unfold withRat at h
  split at h
  · exact ⟨_, _, rfl, h⟩
  · cases h
theorem withSks_eq {β : Type} {h : Heap} {l : AV} {k : List Sk → Option β} {x : β} (hk : withSks h l k = some x) : ∃ ss, contR 65 h l = some (ss.map skR) ∧ ss.length ≤ 1152921504606846976 ∧ k ss = some x := by
  unfold withSks at hk
  cases hc : contR 65 h l with
  | none => rw [hc] at hk; cases hk
  | some xs =>
    rw [hc] at hk
    simp only [Option.bind_some] at hk
    cases hs : skAll xs with
    | none => rw [hs] at hk; cases hk
    | some ss =>
      rw [hs] at hk
      simp only [Option.bind_some] at hk
      split at hk
      · rename_i hl; exact ⟨ss, by rw [skAll_eq hs], hl, hk⟩
      · cases hk
def checkO : OrcP := fun _ args h => match args with
  | [v] => withRat v fun r l => withSks h l fun ss => some (.int .i64 (checkI r ss), none)
  | _ => none
theorem viewSegs_no {h : Heap} {s : AV} {r : List AV} {ks : List GK} {n : Nat} (h1 : isSl s = false) (h2 : noId s = true) : viewSegs h (s :: r) ks n = (viewSegs h r ks n).map fun p => (s :: p.1, p.2) := by
  conv => lhs; unfold viewSegs
  rw [if_neg (by rw [h1]; decide), if_pos h2]
theorem check_view {hp : Heap} {r : Rat} {l : AV} {ss : List Sk} (hc : contR 65 hp l = some (ss.map skR)) (n : Nat) (ks : List GK) :
    viewSegs hp (r.segs l) (.rows 65 :: ks) n = some (r.segs (.slice n 0 0 ss.length 65 none), [roC n (.rows 65 ss.length (ss.map skR))]) := by
  have hs := contR_isSl hc
  have hv := viewS_rows (by decide) hc
  simp only [List.length_map] at hv
  have e : viewSegs hp [l] (.rows 65 :: ks) n = some ([.slice n 0 0 ss.length 65 none], [roC n (.rows 65 ss.length (ss.map skR))]) := by
    unfold viewSegs
    rw [if_pos hs]
    simp only [hv, Option.bind_some, viewSegs, Option.map_some]
    rfl
  simp only [Rat.segs]
  repeat rw [viewSegs_no (by rfl) (by rfl)]
  rw [e]
  rfl
theorem check_pure {P : Program} {f : FuncId} (F : Fn P f Ck0 afCheck) : PureOk P f checkO := by
  refine F.lit [.agg [.rows 65]] none fun nid args hp r ha hr => ?_
  unfold checkO at hr
  split at hr <;> try (cases hr; done)
  obtain ⟨q, l, rfl, hr⟩ := withRat_eq hr
  obtain ⟨ss, hc, hl, hr⟩ := withSks_eq hr
  cases hr
  refine ⟨_, _, by simp only [viewArgs, check_view hc, Option.bind_some, Option.map_some, List.append_nil]; rfl, by simp, ?_⟩
  exact ck_run nid q _ ss hl
def checkC : OrcF := fun args h κ => match args with
  | [v] => withRat v fun r l => withSks h l fun ss => κ (.int .i64 (checkI r ss)) h
  | _ => none
theorem withSks_map {β γ : Type} {h : Heap} {l : AV} {k : List Sk → Option β} {g : β → Option γ} : (withSks h l k).bind g = withSks h l fun ss => (k ss).bind g := by
  unfold withSks
  cases contR 65 h l with
  | none => rfl
  | some xs =>
    simp only [Option.bind_some]
    cases skAll xs with
    | none => rfl
    | some ss =>
      simp only [Option.bind_some]
      split <;> rfl
theorem withRat_map {β γ : Type} {v : AV} {k : Rat → AV → Option β} {g : β → Option γ} : (withRat v k).bind g = withRat v fun r l => (k r l).bind g := by
  unfold withRat
  split <;> rfl
theorem check_full {P : Program} {f : FuncId} (h : PureOk P f checkO) : FullOk P f checkC := by
  refine pure_full h fun args hp κ => ?_
  unfold checkC checkO
  split
  · simp only [withRat_map, withSks_map, Option.bind_some, obH]
  · rfl
end Go.Am
/- ratchet: Same; slices.Equal of keys that were passed over. -/
namespace Go.Am
set_option linter.unusedSimpArgs false
set_option maxRecDepth 100000
def seTop : ACode := af_slices_Equal_api_Skip.code
def seL : ACode := seTop.r.r.l.r.b.b
def seCn : Option Canon := some ⟨[], [0, 1, 12, 13], [], [0, 1], 16⟩
def afSEqOf (F : Nat) : AFn := ⟨26, [.t 4], .seq none seTop.l (.seq none seTop.r.l (.seq none (.seq none seTop.r.r.l.l (.block 0 none (.loop F seCn seL))) seTop.r.r.r))⟩
def afSEq : AFn := afSEqOf manyR
def sl65 (id len : Nat) : AV := .slice id 0 0 len 65 none
def seH (m1 m2 : Nat) (xs ys : List (List AV)) : Am.Heap := ⟨16, [roC 0 (.rows 65 m1 xs), roC 1 (.rows 65 m2 ys)]⟩
def seSt (l1 l2 m1 m2 : Nat) (xs ys : List (List AV)) (i : Int) : St := ⟨mkT 26 [(0, sl65 0 l1), (1, sl65 1 l2), (12, .int .i64 l1), (13, .int .i64 i)], seH m1 m2 xs ys⟩
def seK (nid : Nat) : Kont := kBlock 0 none (kSeq G10 none seTop.r.r.r (kFn [.t 4] (kOut none nid)))
def t65 : List Bool := List.replicate 65 true
def yes (b : Bool) : Option Res := some (.bool b, ⟨0, []⟩)
theorem se_round (L : St → Option Res) (nid : Nat) (l1 l2 m1 m2 : Nat) (xs ys : List (List AV)) (i : Int) : ev G10 seL (seSt l1 l2 m1 m2 xs ys i) (kLoop seCn L (seK nid)) =
    bif decide (i < l1) then rowAt i l1 xs fun s => rowAt i l2 ys fun s' => eqvK true (.agg t65) (.agg s) (.agg s') fun v => condK (.c v) (seSt l1 l2 m1 m2 xs ys i) (fun _ => yes false) (fun _ => L (seSt l1 l2 m1 m2 xs ys (w63 (i + 1))))
    else yes true := by kernel_rfl
def skEq (s t : Sk) : Bool := (s.key == t.key) && ((s.num == t.num) && ((s.sec == t.sec) && true))
theorem eqv_sk (s t : Sk) (κ : AV → Option Res) : eqvK true (.agg t65) (.agg (skR s)) (.agg (skR t)) κ = κ (.bool (!(skEq s t))) := by kernel_rfl
def eqSks : List Sk → List Sk → Bool
  | [], [] => true
  | s :: r, t :: u => skEq s t && eqSks r u
  | _, _ => false
theorem se_start (F nid : Nat) (l1 l2 m1 m2 : Nat) (xs ys : List (List AV)) : ev G10 (afSEqOf F).code ⟨[sl65 0 l1, sl65 1 l2] ++ List.replicate 24 .undef, seH m1 m2 xs ys⟩ (kFn [.t 4] (kOut none nid)) =
    bif (l1 : Int) != (l2 : Int) then yes false else loopK seCn (ev G10 seL) F (seSt l1 l2 m1 m2 xs ys 0) (seK nid) := by kernel_rfl
theorem se_loop (nid : Nat) (m1 m2 : Nat) (ss ts : List Sk) (hl : ss.length ≤ 1152921504606846976) (hle : ss.length = ts.length) : ∀ (r u pre pre' : List Sk) (F : Nat), ss = pre ++ r → ts = pre' ++ u → pre.length = pre'.length → r.length < F →
    loopK seCn (ev G10 seL) F (seSt ss.length ts.length m1 m2 (ss.map skR) (ts.map skR) (pre.length : Int)) (seK nid) = yes (eqSks r u)
  | [], [], pre, pre', F + 1, he, _, _, _ => by
    refine (se_round _ nid ss.length ts.length m1 m2 _ _ _).trans ?_
    have : ss.length = pre.length := by rw [he]; simp
    rw [this, decide_eq_false (by omega), cond_false]
    rfl
  | s :: r, t :: u, pre, pre', F + 1, he, he', hp, hF => by
    have hlen : ss.length = pre.length + r.length + 1 := by rw [he]; simp; omega
    have hs : ss[pre.length]? = some s := by rw [he]; simp
    have ht : ts[pre.length]? = some t := by rw [he', hp]; simp
    refine (se_round _ nid ss.length ts.length m1 m2 _ _ _).trans ?_
    rw [decide_eq_true (by omega), cond_true, rowAt_eq pre.length (by omega) hs, rowAt_eq pre.length (by omega) ht, eqv_sk]
    have ih := se_loop nid m1 m2 ss ts hl hle r u (pre ++ [s]) (pre' ++ [t]) F (by rw [he]; simp) (by rw [he']; simp) (by simp [hp]) (by simp at hF; omega)
    rw [w63_of (by omega) (by omega)]
    have e : (((pre ++ [s]).length : Nat) : Int) = (pre.length : Int) + 1 := by simp
    rw [e] at ih
    simp only [eqSks]
    cases skEq s t
    · rfl
    · simp only [Bool.not_true, condK, cond_false, Bool.true_and]
      exact ih
  | [], _ :: _, pre, pre', _, he, he', hp, _ => by rw [he, he'] at hle; simp at hle; omega
  | _ :: _, [], pre, pre', _, he, he', hp, _ => by rw [he, he'] at hle; simp at hle; omega
  | _ :: _, _ :: _, _, _, 0, _, _, _, h => by omega
theorem eqSks_len : ∀ {r u : List Sk}, r.length ≠ u.length → eqSks r u = false
  | [], [], h => absurd rfl h
  | s :: r, t :: u, h => by
    simp only [eqSks]
    rw [eqSks_len (r := r) (u := u) (by simpa using h), Bool.and_false]
  | [], _ :: _, _ => rfl
  | _ :: _, [], _ => rfl
theorem se_run (nid : Nat) (m1 m2 : Nat) (ss ts : List Sk) (hl : ss.length ≤ 1152921504606846976) :
    evFn G10 afSEq [sl65 0 ss.length, sl65 1 ts.length] (seH m1 m2 (ss.map skR) (ts.map skR)) (kOut none nid) = yes (eqSks ss ts) := by
  refine (evFn_eq ..).trans ?_
  refine (se_start _ nid _ _ _ _ _ _).trans ?_
  by_cases h : ss.length = ts.length
  · rw [show ((ss.length : Int) != (ts.length : Int)) = false by simp [h], cond_false]
    exact se_loop nid m1 m2 ss ts hl h ss ts [] [] manyR rfl rfl rfl (Nat.lt_of_le_of_lt hl (of_decide_eq_true rfl))
  · rw [show ((ss.length : Int) != (ts.length : Int)) = true by simp; omega, cond_true, eqSks_len h]
def eqRowsO : OrcP := fun _ args h => match args with
  | [l, l'] => withSks h l fun ss => withSks h l' fun ts => some (.bool (eqSks ss ts), none)
  | _ => none
theorem eqRows_pure {P : Program} {f : FuncId} (F : Fn P f G10 afSEq) : PureOk P f eqRowsO := by
  refine F.lit [.sl (.rows 65), .sl (.rows 65)] none fun nid args hp r ha hr => ?_
  unfold eqRowsO at hr
  split at hr <;> try (cases hr; done)
  obtain ⟨ss, hc, hl, hr⟩ := withSks_eq hr
  obtain ⟨ts, hc', hl', hr⟩ := withSks_eq hr
  cases hr
  have hv := viewS_rows (by decide) hc
  have hv' := viewS_rows (by decide) hc'
  simp only [List.length_map] at hv hv'
  refine ⟨_, _, by simp only [viewArgs, contR_isSl hc, contR_isSl hc', if_true, hv, hv', Option.bind_some, Option.map_some]; rfl, by simp, ?_⟩
  exact se_run nid _ _ ss ts hl
def eqRowsC : OrcF := fun args h κ => match args with
  | [l, l'] => withSks h l fun ss => withSks h l' fun ts => κ (.bool (eqSks ss ts)) h
  | _ => none
theorem eqRows_full {P : Program} {f : FuncId} (h : PureOk P f eqRowsO) : FullOk P f eqRowsC := by
  refine pure_full h fun args hp κ => ?_
  unfold eqRowsC eqRowsO
  split
  · simp only [withSks_map, Option.bind_some, obH]
  · rfl
/-! ## Same -/
def Sm0 : Env := envAdd id_slices_Equal_api_Skip (.full eqRowsC) G10
def ratEq (a b : Rat) : Bool := (a.root == b.root) && ((a.own == b.own) && ((a.peer == b.peer) && ((a.send == b.send) && ((a.recv == b.recv) && ((a.sent == b.sent) && ((a.got == b.got) && (a.bef == b.bef)))))))
theorem rsame_run1 (nid : Nat) (a b : Rat) (l1 l2 m1 m2 : Nat) (xs ys : List (List AV)) : evFn Sm0 af_ratchet_Same [.agg (a.segs (sl65 0 l1)), .agg (b.segs (sl65 1 l2))] (seH m1 m2 xs ys) (kOut none nid) =
    bif (a.root == b.root) && true then bif (a.own == b.own) && true then bif (a.peer == b.peer) && true then bif (a.send == b.send) && true then bif (a.recv == b.recv) && true then
      bif a.sent == b.sent then bif a.got == b.got then bif a.bef == b.bef then
        (skAll ((xs.drop 0).take l1)).bind fun ss => if ss.length ≤ 1152921504606846976 then (skAll ((ys.drop 0).take l2)).bind fun ts => if ts.length ≤ 1152921504606846976 then yes (eqSks ss ts) else none else none
      else yes false else yes false else yes false else yes false else yes false else yes false else yes false else yes false := by kernel_rfl
def sameB (a b : Rat) (ss ts : List Sk) : Bool := ratEq a b && eqSks ss ts
theorem rsame_run (nid : Nat) (a b : Rat) (m1 m2 : Nat) (ss ts : List Sk) (h1 : ss.length ≤ 1152921504606846976) (h2 : ts.length ≤ 1152921504606846976) :
    evFn Sm0 af_ratchet_Same [.agg (a.segs (sl65 0 ss.length)), .agg (b.segs (sl65 1 ts.length))] (seH m1 m2 (ss.map skR) (ts.map skR)) (kOut none nid) = yes (sameB a b ss ts) := by
  refine (rsame_run1 ..).trans ?_
  have e1 : ((ss.map skR).drop 0).take ss.length = ss.map skR := by rw [List.drop_zero, List.take_of_length_le (by simp)]
  have e2 : ((ts.map skR).drop 0).take ts.length = ts.map skR := by rw [List.drop_zero, List.take_of_length_le (by simp)]
  rw [e1, e2, skAll_rows, skAll_rows]
  simp only [Option.bind_some, if_pos h1, if_pos h2, Bool.and_true, sameB, ratEq]
  cases (a.root == b.root) <;> cases (a.own == b.own) <;> cases (a.peer == b.peer) <;> cases (a.send == b.send) <;> cases (a.recv == b.recv) <;> cases (a.sent == b.sent) <;> cases (a.got == b.got) <;> cases (a.bef == b.bef) <;> rfl
def rsameO : OrcP := fun _ args h => match args with
  | [v, u] => withRat v fun a l => withRat u fun b l' => withSks h l fun ss => withSks h l' fun ts => some (.bool (sameB a b ss ts), none)
  | _ => none
theorem rsame_pure {P : Program} {f : FuncId} (F : Fn P f Sm0 af_ratchet_Same) : PureOk P f rsameO := by
  refine F.lit [.agg [.rows 65], .agg [.rows 65]] none fun nid args hp r ha hr => ?_
  unfold rsameO at hr
  split at hr <;> try (cases hr; done)
  obtain ⟨a, l, e1, hr1⟩ := withRat_eq hr
  obtain ⟨b, l', e2, hr2⟩ := withRat_eq hr1
  obtain ⟨ss, hc, hl, hr3⟩ := withSks_eq hr2
  obtain ⟨ts, hc', hl', hr4⟩ := withSks_eq hr3
  cases hr4
  subst e1 e2
  refine ⟨_, _, by simp only [viewArgs, check_view hc, check_view hc', Option.bind_some, Option.map_some, List.append_nil, List.length_singleton]; rfl, by simp, ?_⟩
  exact rsame_run nid a b _ _ ss ts hl hl'
def rsameC : OrcF := fun args h κ => match args with
  | [v, u] => withRat v fun a l => withRat u fun b l' => withSks h l fun ss => withSks h l' fun ts => κ (.bool (sameB a b ss ts)) h
  | _ => none
theorem rsame_full {P : Program} {f : FuncId} (h : PureOk P f rsameO) : FullOk P f rsameC := by
  refine pure_full h fun args hp κ => ?_
  unfold rsameC rsameO
  split
  · simp only [withRat_map, withSks_map, Option.bind_some, obH]
  · rfl
end Go.Am
/- octet: Put32, Equal. -/
namespace Go.Am
set_option linter.unusedSimpArgs false
set_option maxRecDepth 100000
def put4C : OrcF := fun args h κ => match args with
  | [s, .int .u64 x, .int .i64 4] => withBs h s fun xs => κ (.slice h.next 0 0 (xs.length + 4) 0 none) (h.new (.segs [.ints .u8 (xs.length + 4) (xs ++ le4 x)]))
  | _ => none
theorem put4_full {P : Program} {f : FuncId} (h : PureOk P f put4O) : FullOk P f put4C := by
  refine pure_full h fun args hp κ => ?_
  unfold put4C put4O
  split
  · simp only [withBs_map, Option.bind_some, obH]
  · first
    | rfl
    | (rename_i hx
       split
       · exact (hx _ _ rfl).elim
       · rfl)
def p32E : Env := envAdd id_octet_put (.full put4C) G10
theorem put32_run1 (nid len : Nat) (xs : List Int) (x : Int) : evFn p32E af_octet_Put32 [.slice 0 0 0 len 0 none, .int .u32 x] ⟨16, [roC 0 (.segs [.ints .u8 len xs])]⟩ (kOut (some (.ints .u8)) nid) =
    if ((xs.drop 0).take len).length ≤ 140737488351232 then some (.slice nid 0 0 (((xs.drop 0).take len).length + 4) 0 none, encB nid (some (.segs [.ints .u8 (((xs.drop 0).take len).length + 4) ((xs.drop 0).take len ++ le4 (w64 x))]))) else none := by kernel_rfl
def put32O (nid : Nat) (args : List AV) (h : Am.Heap) : Option (AV × Option Blk) := match args with
  | [s, .int .u32 x] => withBs h s fun xs => some (.slice nid 0 0 (xs.length + 4) 0 none, some (.segs [.ints .u8 (xs.length + 4) (xs ++ le4 (w64 x))]))
  | _ => none
theorem put32_pure {P : Program} {f : FuncId} (F : Fn P f p32E af_octet_Put32) : PureOk P f put32O := by
  refine F.lit [.sl (.ints .u8), .plain] (some (.ints .u8)) fun nid args hp r ha hr => ?_
  unfold put32O at hr
  split at hr <;> try (cases hr; done)
  obtain ⟨xs, hc, hl, hr1⟩ := withBs_eq hr
  cases hr1
  refine ⟨_, _, by simp only [viewArgs, contI_isSl hc, if_true, viewS_ints hc, Option.bind_some, Option.map_some]; rfl, by simp, ?_⟩
  refine (put32_run1 ..).trans ?_
  rw [take_all xs _ rfl, if_pos hl]
def put32C : OrcF := fun args h κ => match args with
  | [s, .int .u32 x] => withBs h s fun xs => κ (.slice h.next 0 0 (xs.length + 4) 0 none) (h.new (.segs [.ints .u8 (xs.length + 4) (xs ++ le4 (w64 x))]))
  | _ => none
theorem put32_full {P : Program} {f : FuncId} (h : PureOk P f put32O) : FullOk P f put32C := by
  refine pure_full h fun args hp κ => ?_
  unfold put32C put32O
  split
  · simp only [withBs_map, Option.bind_some, obH]
  · first
    | rfl
    | (rename_i hx
       split
       · exact (hx _ _ rfl).elim
       · rfl)
/-! ## Equal -/
def oeTop : ACode := af_octet_Equal.code
def oeL : ACode := oeTop.r.r.r.l.r.b.b
def oeCn : Option Canon := some ⟨[], [0, 1, 5, 13, 14], [], [0, 1], 16⟩
def afOEqOf (F : Nat) : AFn := ⟨31, [.t 4], .seq none oeTop.l (.seq none oeTop.r.l (.seq none oeTop.r.r.l (.seq none (.seq none oeTop.r.r.r.l.l (.block 0 none (.loop F oeCn oeL))) oeTop.r.r.r.r)))⟩
def afOEq : AFn := afOEqOf manyR
def slB (id len : Nat) : AV := .slice id 0 0 len 0 none
def oeH (m1 m2 : Nat) (xs ys : List Int) : Am.Heap := ⟨16, [roC 0 (.segs [.ints .u8 m1 xs]), roC 1 (.segs [.ints .u8 m2 ys])]⟩
def oeSt (l1 l2 m1 m2 : Nat) (xs ys : List Int) (acc i : Int) : St := ⟨mkT 31 [(0, slB 0 l1), (1, slB 1 l2), (5, .int .u8 acc), (13, .int .i64 l1), (14, .int .i64 i)], oeH m1 m2 xs ys⟩
def oeK (nid : Nat) : Kont := kBlock 0 none (kSeq G10 none oeTop.r.r.r.r (kFn [.t 4] (kOut none nid)))
def orX (acc a b : Int) : Int := bw .or .u8 acc (bw .xor .u8 a b)
/-- A place of a row, where it is one. -/
def ptAt {β : Type} (q : Int) (n : Int) (xs : List Int) (k : Int → Option β) : Option β := if 0 ≤ q ∧ q < n then (xs[0 + q.toNat]?).bind k else none
theorem ptAt_eq {β : Type} {n : Int} {xs : List Int} {k : Int → Option β} (j : Nat) (h1 : (j : Int) < n) {x : Int} (h2 : xs[j]? = some x) : ptAt (j : Int) n xs k = k x := by
  unfold ptAt
  rw [if_pos ⟨by omega, h1⟩, Int.toNat_natCast, Nat.zero_add, h2]
  rfl
theorem oe_round (L : St → Option Res) (nid : Nat) (l1 l2 m1 m2 : Nat) (xs ys : List Int) (acc i : Int) : ev G10 oeL (oeSt l1 l2 m1 m2 xs ys acc i) (kLoop oeCn L (oeK nid)) =
    bif decide (i < l1) then ptAt i l1 xs fun a => ptAt i l2 ys fun b => L (oeSt l1 l2 m1 m2 xs ys (orX acc a b) (w63 (i + 1))) else yes (acc == 0) := by kernel_rfl
theorem oe_start (F nid : Nat) (l1 l2 m1 m2 : Nat) (xs ys : List Int) : ev G10 (afOEqOf F).code ⟨[slB 0 l1, slB 1 l2] ++ List.replicate 29 .undef, oeH m1 m2 xs ys⟩ (kFn [.t 4] (kOut none nid)) =
    bif (l1 : Int) != (l2 : Int) then yes false else loopK oeCn (ev G10 oeL) F (oeSt l1 l2 m1 m2 xs ys 0 0) (oeK nid) := by kernel_rfl
def orL : List Int → List Int → Int → Int
  | a :: r, b :: u, acc => orL r u (orX acc a b)
  | _, _, acc => acc
theorem oe_loop (nid : Nat) (m1 m2 : Nat) (xs ys : List Int) (hl : xs.length ≤ 1152921504606846976) (hle : xs.length = ys.length) : ∀ (r u pre pre' : List Int) (acc : Int) (F : Nat), xs = pre ++ r → ys = pre' ++ u → pre.length = pre'.length → r.length < F →
    loopK oeCn (ev G10 oeL) F (oeSt xs.length ys.length m1 m2 xs ys acc (pre.length : Int)) (oeK nid) = yes (orL r u acc == 0)
  | [], [], pre, pre', acc, F + 1, he, _, _, _ => by
    refine (oe_round _ nid xs.length ys.length m1 m2 _ _ _ _).trans ?_
    have : xs.length = pre.length := by rw [he]; simp
    rw [this, decide_eq_false (by omega), cond_false]
    rfl
  | s :: r, t :: u, pre, pre', acc, F + 1, he, he', hp, hF => by
    have hlen : xs.length = pre.length + r.length + 1 := by rw [he]; simp; omega
    have hs : xs[pre.length]? = some s := by rw [he]; simp
    have ht : ys[pre.length]? = some t := by rw [he', hp]; simp
    refine (oe_round _ nid xs.length ys.length m1 m2 _ _ _ _).trans ?_
    rw [decide_eq_true (by omega), cond_true, ptAt_eq pre.length (by omega) hs, ptAt_eq pre.length (by omega) ht]
    have ih := oe_loop nid m1 m2 xs ys hl hle r u (pre ++ [s]) (pre' ++ [t]) (orX acc s t) F (by rw [he]; simp) (by rw [he']; simp) (by simp [hp]) (by simp at hF; omega)
    rw [w63_of (by omega) (by omega)]
    have e : (((pre ++ [s]).length : Nat) : Int) = (pre.length : Int) + 1 := by simp
    rw [e] at ih
    exact ih
  | [], _ :: _, pre, pre', _, _, he, he', hp, _ => by rw [he, he'] at hle; simp at hle; omega
  | _ :: _, [], pre, pre', _, _, he, he', hp, _ => by rw [he, he'] at hle; simp at hle; omega
  | _ :: _, _ :: _, _, _, _, 0, _, _, _, h => by omega
theorem or8_zero {a b : Nat} (ha : a < 256) (hb : b < 256) : bw .or .u8 (a : Int) (b : Int) = ((a ||| b : Nat) : Int) ∧ a ||| b < 256 := ⟨bw_nat .or .u8 rfl a b ha hb, Nat.or_lt_two_pow (n := 8) ha hb⟩
theorem xor8_nat {a b : Nat} (ha : a < 256) (hb : b < 256) : bw .xor .u8 (a : Int) (b : Int) = ((a ^^^ b : Nat) : Int) ∧ a ^^^ b < 256 := ⟨bw_nat .xor .u8 rfl a b ha hb, Nat.xor_lt_two_pow (n := 8) ha hb⟩
theorem nat_or_zero (a b : Nat) : a ||| b = 0 ↔ a = 0 ∧ b = 0 := by
  constructor
  · intro h
    have h1 : a ≤ a ||| b := Nat.left_le_or
    have h2 : b ≤ a ||| b := Nat.right_le_or
    omega
  · rintro ⟨rfl, rfl⟩; rfl
theorem nat_xor_zero (a b : Nat) : a ^^^ b = 0 ↔ a = b := by
  constructor
  · intro h
    have := congrArg (· ^^^ b) h
    simpa [Nat.xor_assoc] using this
  · rintro rfl; simp
theorem rng8 {x : Int} (h : rng .u8 x) : ∃ n : Nat, n < 256 ∧ x = (n : Int) := by
  have := h rfl
  simp only [IntKind.bits] at this
  exact ⟨x.toNat, by omega, by omega⟩
theorem orL_law : ∀ (xs ys : List Int) (acc : Nat), (∀ x ∈ xs, rng .u8 x) → (∀ y ∈ ys, rng .u8 y) → acc < 256 → xs.length = ys.length → (orL xs ys (acc : Int) = 0 ↔ acc = 0 ∧ xs = ys)
  | [], [], acc, _, _, _, _ => by simp [orL]
  | x :: r, y :: u, acc, h1, h2, ha, hl => by
    obtain ⟨a, ha1, rfl⟩ := rng8 (h1 x (List.mem_cons_self ..))
    obtain ⟨b, hb1, rfl⟩ := rng8 (h2 y (List.mem_cons_self ..))
    have e1 := xor8_nat ha1 hb1
    have e2 := or8_zero ha e1.2
    simp only [orL, orX]
    rw [e1.1, e2.1, orL_law r u _ (fun z hz => h1 z (List.mem_cons_of_mem _ hz)) (fun z hz => h2 z (List.mem_cons_of_mem _ hz)) e2.2 (by simpa using hl), nat_or_zero, nat_xor_zero]
    simp only [List.cons.injEq, Int.natCast_inj]
    constructor
    · rintro ⟨⟨h3, h4⟩, h5⟩; exact ⟨h3, h4, h5⟩
    · rintro ⟨h3, h4, h5⟩; exact ⟨⟨h3, h4⟩, h5⟩
  | [], _ :: _, _, _, _, _, hl => by simp at hl
  | _ :: _, [], _, _, _, _, hl => by simp at hl
theorem oe_run (nid : Nat) (m1 m2 : Nat) (xs ys : List Int) (hl : xs.length ≤ 1152921504606846976) (h1 : ∀ x ∈ xs, rng .u8 x) (h2 : ∀ y ∈ ys, rng .u8 y) :
    evFn G10 afOEq [slB 0 xs.length, slB 1 ys.length] (oeH m1 m2 xs ys) (kOut none nid) = yes (xs == ys) := by
  refine (evFn_eq ..).trans ?_
  refine (oe_start _ nid _ _ _ _ _ _).trans ?_
  by_cases h : xs.length = ys.length
  · rw [show ((xs.length : Int) != (ys.length : Int)) = false by simp [h], cond_false]
    refine (oe_loop nid m1 m2 xs ys hl h xs ys [] [] 0 manyR rfl rfl rfl (Nat.lt_of_le_of_lt hl (of_decide_eq_true rfl))).trans ?_
    have := orL_law xs ys 0 h1 h2 (by decide) h
    congr 1
    rw [Bool.eq_iff_iff, beq_iff_eq, beq_iff_eq]
    simpa using this
  · rw [show ((xs.length : Int) != (ys.length : Int)) = true by simp; omega, cond_true]
    have : (xs == ys) = false := by
      rw [Bool.eq_false_iff, ne_eq, beq_iff_eq]
      rintro rfl; exact h rfl
    rw [this]
def bytesEqO : OrcP := fun _ args h => match args with
  | [l, l'] => withBs h l fun xs => withBs h l' fun ys => some (.bool (xs == ys), none)
  | _ => none
theorem bytesEq_pure {P : Program} {f : FuncId} (F : Fn P f G10 afOEq) : PureOk P f bytesEqO := by
  refine F.lit [.sl (.ints .u8), .sl (.ints .u8)] none fun nid args hp r ha hr => ?_
  unfold bytesEqO at hr
  split at hr <;> try (cases hr; done)
  rename_i l l'
  obtain ⟨xs, hc, hl, hr1⟩ := withBs_eq hr
  obtain ⟨ys, hc', hl', hr2⟩ := withBs_eq hr1
  cases hr2
  have r1 := ha.ints l (by simp) _ _ hc
  have r2 := ha.ints l' (by simp) _ _ hc'
  refine ⟨_, _, by simp only [viewArgs, contI_isSl hc, contI_isSl hc', if_true, viewS_ints hc, viewS_ints hc', Option.bind_some, Option.map_some]; rfl, by simp, ?_⟩
  exact oe_run nid _ _ xs ys (by omega) r1 r2
def bytesEqC : OrcF := fun args h κ => match args with
  | [l, l'] => withBs h l fun xs => withBs h l' fun ys => κ (.bool (xs == ys)) h
  | _ => none
theorem bytesEq_full {P : Program} {f : FuncId} (h : PureOk P f bytesEqO) : FullOk P f bytesEqC := by
  refine pure_full h fun args hp κ => ?_
  unfold bytesEqC bytesEqO
  split
  · simp only [withBs_map, Option.bind_some, obH]
  · rfl
end Go.Am
/- ratchet: Put. -/
namespace Go.Am
set_option linter.unusedSimpArgs false
set_option maxRecDepth 100000
def ptTop : ACode := af_ratchet_Put.code
def ptS5 : ACode := ptTop.r.r.r.r.r.r.l
def ptL : ACode := ptS5.r.b.b
def ptCn : Option Canon := some ⟨[], [1, 53], [(4, 17, .ints .u8)], [0, 16], 18⟩
def ptEnd : ACode := ptTop.r.r.r.r.r.r.r
def afPut : AFn := ⟨79, [.t 2, .t 3], .seq none ptTop.l (.seq none ptTop.r.l (.seq none ptTop.r.r.l (.seq none ptTop.r.r.r.l (.seq none ptTop.r.r.r.r.l (.seq none ptTop.r.r.r.r.r.l (.seq none (.seq none ptS5.l (.block 4 none (.loop 1000 ptCn ptL))) ptEnd))))))⟩
def Pt0 : Env := envAdd id_ratchet_Check (.full checkC) (envAdd id_octet_Put32 (.full put32C) G10)
def ptH (r : Rat) (len m n : Nat) (xs : List (List AV)) (bs : List Int) : Am.Heap := ⟨18, [roC 0 (.rows 65 m xs), cel 16 (r.segs (ckS len)), cel 17 [.ints .u8 n bs]]⟩
def ptSt (r : Rat) (len m n : Nat) (xs : List (List AV)) (bs : List Int) (i : Int) : St := ⟨mkT 79 [(1, pt 16), (4, slB 17 n), (53, .int .i64 i)], ptH r len m n xs bs⟩
def ptI : ACode := ptL.r.r.r
def ptBody : ACode := ptL.r.r.l.b.r.r
def ptB : ACode := ptBody.r
def ptW : ACode := match ptBody.l.r with | .cond _ (.reg ops) _ => .reg (ops.drop 5) | c => c
def ptT (r : Rat) (len m n : Nat) (xs : List (List AV)) (bs : List Int) (i : Int) (s : List AV) : St :=
  ⟨mkT 79 [(1, pt 16), (4, slB 17 n), (9, .int .i64 i), (10, pt 18), (53, .int .i64 i), (54, .bool true), (55, .int .i64 i), (56, .int .i64 i), (57, .ptr 16 0 0 163 0), (58, ckS len), (59, .int .i64 len), (60, .bool true), (61, .ptr 16 0 0 163 0), (62, ckS len), (63, .int .i64 i), (64, .ptr 0 (0 + i.toNat) 65 0 0), (65, .agg s)],
   ⟨19, [roC 0 (.rows 65 m xs), cel 16 (r.segs (ckS len)), cel 17 [.ints .u8 n bs], cel 18 [.ints .u8 32 (List.replicate 32 0), .int .u32 0, .ints .u8 32 (List.replicate 32 0)]]⟩⟩
def apL (n : Nat) (bs ys : List Int) : List Int := (bs.drop 0).take n ++ ys
def cut32 (k : List Int) : List Int := (k.drop 0).take 32
def p32K (n : Nat) (bs : List Int) (x : Int) (k : Nat → List Int → Option Res) : Option Res := if ((bs.drop 0).take n).length ≤ 140737488351232 then k (((bs.drop 0).take n).length + 4) ((bs.drop 0).take n ++ le4 (w64 x)) else none
def ptOne (n : Nat) (bs : List Int) (s : Sk) (k : Nat → List Int → Option Res) : Option Res :=
  fitB (n + 32) (p32K (n + 32) (apL n bs (cut32 s.key)) s.num fun n2 b2 => fitB (n2 + 32) (k (n2 + 32) (apL n2 b2 (cut32 s.sec))))
def zeroSk : Sk := ⟨List.replicate 32 0, 0, List.replicate 32 0⟩
theorem pt_row (L : St → Option Res) (κ : Kont) (r : Rat) (len m n : Nat) (xs : List (List AV)) (bs : List Int) (i : Int) (s : Sk) :
    ev Pt0 ptW (ptT r len m n xs bs i (skR s)) (kSeq Pt0 none ptB (kBlock 5 none (kSeq Pt0 none ptI (kLoop ptCn L κ)))) =
    ptOne n bs s fun n' bs' => L (ptSt r len m n' xs bs' (w63 (i + 1))) := by kernel_rfl
theorem pt_round (L : St → Option Res) (κ : Kont) (r : Rat) (len m n : Nat) (xs : List (List AV)) (bs : List Int) (i : Int) : ev Pt0 ptL (ptSt r len m n xs bs i) (kLoop ptCn L κ) =
    bif decide (i < 8) then bif decide (i < len) then rowAt i len xs fun s => ev Pt0 ptW (ptT r len m n xs bs i s) (kSeq Pt0 none ptB (kBlock 5 none (kSeq Pt0 none ptI (kLoop ptCn L κ))))
      else ptOne n bs zeroSk fun n' bs' => L (ptSt r len m n' xs bs' (w63 (i + 1)))
    else κ (.exit 4) (withT 54 (.bool false) (ptSt r len m n xs bs i)) := by kernel_rfl
def ptK (nid : Nat) : Kont := kBlock 4 none (kSeq Pt0 none ptEnd (kFn [.t 2, .t 3] (kOut none nid)))
theorem pt_end (nid : Nat) (r : Rat) (len m n : Nat) (xs : List (List AV)) (bs : List Int) (i : Int) : ptK nid (.exit 4) (withT 54 (.bool false) (ptSt r len m n xs bs i)) = some (.tuple [.isl .u8 ((bs.drop 0).take n), .int .i64 0], ⟨0, []⟩) := by kernel_rfl
def err2 (n : Int) : Option Res := some (.tuple [.nils, .int .i64 n], ⟨0, []⟩)
def ptKeys (r : Rat) : List Int := apL (32 + 32 + 32 + 32) (apL (32 + 32 + 32) (apL (32 + 32) (apL 32 (cut32 r.root) (cut32 r.own)) (cut32 r.peer)) (cut32 r.send)) (cut32 r.recv)
def ptHead (r : Rat) (len : Nat) (k : Nat → List Int → Option Res) : Option Res :=
  p32K (32 + 32 + 32 + 32 + 32) (ptKeys r) r.sent fun n b => p32K n b r.got fun n b => p32K n b r.bef fun n b => fitB (n + 1) (k (n + 1) (apL n b [w8 len]))
theorem pt_start (F nid : Nat) (r : Rat) (len m : Nat) (xs : List (List AV)) :
    ev Pt0 (.seq none ptTop.l (.seq none ptTop.r.l (.seq none ptTop.r.r.l (.seq none ptTop.r.r.r.l (.seq none ptTop.r.r.r.r.l (.seq none ptTop.r.r.r.r.r.l (.seq none (.seq none ptS5.l (.block 4 none (.loop F ptCn ptL))) ptEnd)))))))
      ⟨[.agg (r.segs (ckS len))] ++ List.replicate 78 .undef, ⟨16, [roC 0 (.rows 65 m xs)]⟩⟩ (kFn [.t 2, .t 3] (kOut none nid)) =
    (skAll ((xs.drop 0).take len)).bind fun ss => if ss.length ≤ 1152921504606846976 then bif checkI r ss != 0 then err2 270 else
      ptHead r len fun n b => loopK ptCn (ev Pt0 ptL) F (ptSt r len m n xs b 0) (ptK nid)
    else none := by kernel_rfl
end Go.Am
/- ratchet: Put, whole. -/
namespace Go.Am
set_option linter.unusedSimpArgs false
set_option maxRecDepth 100000
def skB (s : Sk) : List Int := s.key ++ le4 (w64 s.num) ++ s.sec
def headB (r : Rat) (len : Nat) : List Int := r.root ++ r.own ++ r.peer ++ r.send ++ r.recv ++ le4 (w64 r.sent) ++ le4 (w64 r.got) ++ le4 (w64 r.bef) ++ [w8 len]
def SkOk (s : Sk) : Prop := s.key.length = 32 ∧ s.sec.length = 32 ∧ (∀ x ∈ s.key, rng .u8 x) ∧ rng .u32 s.num ∧ ∀ x ∈ s.sec, rng .u8 x
structure RatOk (r : Rat) : Prop where
  root : r.root.length = 32
  own : r.own.length = 32
  peer : r.peer.length = 32
  send : r.send.length = 32
  recv : r.recv.length = 32
  rootR : ∀ x ∈ r.root, rng .u8 x
  ownR : ∀ x ∈ r.own, rng .u8 x
  peerR : ∀ x ∈ r.peer, rng .u8 x
  sendR : ∀ x ∈ r.send, rng .u8 x
  recvR : ∀ x ∈ r.recv, rng .u8 x
  sentR : rng .u32 r.sent
  gotR : rng .u32 r.got
  befR : rng .u32 r.bef
theorem le4_len (x : Int) : (le4 x).length = 4 := rfl
theorem cut32_eq {k : List Int} (h : k.length = 32) : cut32 k = k := take_all k 32 h
theorem apL_eq {n : Nat} {bs : List Int} (h : bs.length = n) (ys : List Int) : apL n bs ys = bs ++ ys := by rw [apL, take_all bs n h]
theorem p32K_eq {n : Nat} {bs : List Int} (h : bs.length = n) (hn : n ≤ 140737488351232) (x : Int) (k : Nat → List Int → Option Res) : p32K n bs x k = k (n + 4) (bs ++ le4 (w64 x)) := by
  rw [p32K, take_all bs n h, h, if_pos hn]
theorem fitB_eq {n : Nat} (h : n ≤ 140737488351232 + 100) (r : Option Res) : fitB n r = r := by rw [fitB, if_pos (by omega)]
theorem ptOne_eq {n : Nat} {bs : List Int} {s : Sk} (h : bs.length = n) (hn : n ≤ 1000) (hs : SkOk s) (k : Nat → List Int → Option Res) : ptOne n bs s k = k (n + 68) (bs ++ skB s) := by
  obtain ⟨h1, h2, _⟩ := hs
  rw [ptOne, fitB_eq (by omega), cut32_eq h1, cut32_eq h2, apL_eq h, p32K_eq (by simp [h, h1]) (by omega), fitB_eq (by omega), apL_eq (by simp [h, h1, le4_len])]
  simp only [skB, List.append_assoc]
theorem zeroSk_ok : SkOk zeroSk := ⟨rfl, rfl, fun x hx => by simp [zeroSk, List.mem_replicate] at hx; rw [hx]; exact rng_zero _, rng_zero _, fun x hx => by simp [zeroSk, List.mem_replicate] at hx; rw [hx]; exact rng_zero _⟩
def skAt (ss : List Sk) (i : Nat) : Sk := ss.getD i zeroSk
theorem skAt_ok {ss : List Sk} (h : ∀ s ∈ ss, SkOk s) (i : Nat) : SkOk (skAt ss i) := by
  unfold skAt
  rw [List.getD_eq_getElem?_getD]
  cases e : ss[i]? with
  | none => exact zeroSk_ok
  | some s => exact h s (List.mem_of_getElem? e)
def putN (r : Rat) (ss : List Sk) : Nat → List Int
  | 0 => headB r ss.length
  | i + 1 => putN r ss i ++ skB (skAt ss i)
def putB (r : Rat) (ss : List Sk) : List Int := putN r ss 8
theorem skB_len {s : Sk} (h : SkOk s) : (skB s).length = 68 := by
  obtain ⟨h1, h2, _⟩ := h
  simp [skB, h1, h2, le4_len]
theorem headB_len {r : Rat} (h : RatOk r) (n : Nat) : (headB r n).length = 173 := by
  simp [headB, h.root, h.own, h.peer, h.send, h.recv, le4_len]
theorem putN_len {r : Rat} {ss : List Sk} (h : RatOk r) (hs : ∀ s ∈ ss, SkOk s) : ∀ i, (putN r ss i).length = 173 + 68 * i
  | 0 => headB_len h _
  | i + 1 => by rw [putN, List.length_append, putN_len h hs i, skB_len (skAt_ok hs i)]; omega
theorem pt_loop (nid : Nat) (r : Rat) (m : Nat) (ss : List Sk) (h : RatOk r) (hs : ∀ s ∈ ss, SkOk s) :
    loopK ptCn (ev Pt0 ptL) 1000 (ptSt r ss.length m 173 (ss.map skR) (headB r ss.length) 0) (ptK nid) = some (.tuple [.isl .u8 (putB r ss), .int .i64 0], ⟨0, []⟩) := by
  refine loopK_for (fun i => ptSt r ss.length m (173 + 68 * i) (ss.map skR) (putN r ss i) (i : Int)) 8 _ (fun i hi L => ?_) (fun L => ?_) 1000 (by omega)
  · refine (pt_round L _ r ss.length m _ _ _ _).trans ?_
    rw [decide_eq_true (by omega), cond_true]
    have one : ∀ s, SkOk s → skAt ss i = s → ptOne (173 + 68 * i) (putN r ss i) s (fun n' bs' => L (ptSt r ss.length m n' (ss.map skR) bs' (w63 ((i : Int) + 1)))) = L (ptSt r ss.length m (173 + 68 * (i + 1)) (ss.map skR) (putN r ss (i + 1)) ((i + 1 : Nat) : Int)) := fun s hok he => by
      rw [ptOne_eq (putN_len h hs i) (by omega) hok, wS i (by omega), putN, he, show 173 + 68 * i + 68 = 173 + 68 * (i + 1) by omega]
    by_cases hlt : i < ss.length
    · rw [decide_eq_true (by omega), cond_true]
      refine (rowAt_eq (k := fun s => ev Pt0 ptW (ptT r ss.length m (173 + 68 * i) (ss.map skR) (putN r ss i) i s) (kSeq Pt0 none ptB (kBlock 5 none (kSeq Pt0 none ptI (kLoop ptCn L (ptK nid)))))) i (by omega) (List.getElem?_eq_getElem hlt)).trans ?_
      refine (pt_row L _ r ss.length m _ _ _ _ ss[i]).trans ?_
      exact one _ (hs _ (List.getElem_mem hlt)) (by simp [skAt, hlt])
    · rw [decide_eq_false (by omega), cond_false]
      exact one _ zeroSk_ok (by simp [skAt]; rw [List.getElem?_eq_none_iff.2 (by omega)]; rfl)
  · refine (pt_round L _ r ss.length m _ _ _ (8 : Nat)).trans ?_
    refine (pt_end ..).trans ?_
    rw [take_all _ _ (putN_len h hs 8)]
    rfl
def putR (r : Rat) (ss : List Sk) : Option Res := bif checkI r ss != 0 then err2 270 else some (.tuple [.isl .u8 (putB r ss), .int .i64 0], ⟨0, []⟩)
theorem pt_run (nid : Nat) (r : Rat) (m : Nat) (ss : List Sk) (h : RatOk r) (hs : ∀ s ∈ ss, SkOk s) (hl : ss.length ≤ 1152921504606846976) :
    evFn Pt0 afPut [.agg (r.segs (ckS ss.length))] ⟨16, [roC 0 (.rows 65 m (ss.map skR))]⟩ (kOut none nid) = putR r ss := by
  refine (evFn_eq ..).trans ?_
  refine (pt_start 1000 nid r _ m _).trans ?_
  have e1 : ((ss.map skR).drop 0).take ss.length = ss.map skR := by rw [List.drop_zero, List.take_of_length_le (by simp)]
  rw [e1, skAll_rows, Option.bind_some, if_pos hl, putR]
  have key : ptHead r ss.length (fun n b => loopK ptCn (ev Pt0 ptL) 1000 (ptSt r ss.length m n (ss.map skR) b 0) (ptK nid)) = some (.tuple [.isl .u8 (putB r ss), .int .i64 0], ⟨0, []⟩) := by
    have hk : ptKeys r = r.root ++ r.own ++ r.peer ++ r.send ++ r.recv := by
      rw [ptKeys, cut32_eq h.root, cut32_eq h.own, cut32_eq h.peer, cut32_eq h.send, cut32_eq h.recv, apL_eq h.root, apL_eq (bs := r.root ++ r.own) (n := 32 + 32) (by simp [h.root, h.own]), apL_eq (bs := r.root ++ r.own ++ r.peer) (n := 32 + 32 + 32) (by simp [h.root, h.own, h.peer]), apL_eq (bs := r.root ++ r.own ++ r.peer ++ r.send) (n := 32 + 32 + 32 + 32) (by simp [h.root, h.own, h.peer, h.send])]
    have hkl : (ptKeys r).length = 160 := by rw [hk]; simp [h.root, h.own, h.peer, h.send, h.recv]
    rw [ptHead, p32K_eq hkl (by omega), p32K_eq (by simp [hkl, le4_len]) (by omega), p32K_eq (by simp [hkl, le4_len]) (by omega), fitB_eq (by omega), apL_eq (by simp [hkl, le4_len]), hk]
    exact pt_loop nid r m ss h hs
  rw [key]
end Go.Am
