/- RatchetSeals: part 34 of 50 of its proof. -/
import Derived.Test.YtmkefajojokkfaaGreatD21
import Derived.Test.YtmkefajojokkfaaGreatD22
import Derived.Test.YtmkefajojokkfaaGreatD23
import Derived.Test.YtmkefajojokkfaaGreatD24
import Derived.Test.YtmkefajojokkfaaGreatD25
import Derived.Test.YtmkefajojokkfaaGreatD26
import Derived.Test.YtmkefajojokkfaaGreatD27
import Derived.Test.YtmkefajojokkfaaGreatD28
import Derived.Test.YtmkefajojokkfaaGreatD30
import Derived.Test.YtmkefajojokkfaaGreatD31
import Derived.Test.YtmkefajojokkfaaGreatD32
import Derived.SizedLaws
import Derived.RowKit
import Derived.Below
set_option linter.unusedVariables false
set_option linter.unusedSimpArgs false
namespace Go.Am
set_option maxRecDepth 100000
def begunT : OrcP := tabO tBegunA tBegunV noneO
def sealT : OrcP := tabO tSealA tSealV noneO
def openT : OrcP := tabO tOpenA tOpenV noneO
def Wk0 : Env := envAdd id_hollowtreelaw17_begun (.pure begunT) G10
def Wk1 : Env := envAdd id_ratchet_Seal (.pure sealT) Wk0
def Wk2 : Env := envAdd id_ratchet_Open (.pure openT) Wk1
theorem wakes_run : evFn Wk2 af_hollowtreelaw17_wakes [] ⟨16, []⟩ kV = some (.bool true, ⟨0, []⟩) := by kernel_rfl
def wakesO : OrcP := fun _ args _ => match args with
  | [] => some (.bool true, none)
  | _ => none
theorem wakes_pure {P : Program} {f : FuncId} (F : Fn P f Wk2 af_hollowtreelaw17_wakes) : PureOk P f wakesO := by
  refine F.plain fun nid args hp r ha hr => ?_
  unfold wakesO at hr
  split at hr <;> try (cases hr; done)
  cases hr
  exact ⟨rfl, rfl, rfl, wakes_run⟩
set_option maxRecDepth 100000
structure Sk where
  key : List Int
  num : Int
  sec : List Int
def skR (s : Sk) : List AV := [.ints .u8 32 s.key, .int .u32 s.num, .ints .u8 32 s.sec]
def skOf : List AV → Option Sk
  | [.ints .u8 32 k, .int .u32 n, .ints .u8 32 s] => some ⟨k, n, s⟩
  | _ => none
theorem skOf_eq {l : List AV} {s : Sk} (h : skOf l = some s) : l = skR s := by
  unfold skOf at h
  split at h <;> cases h
  rfl
def skAll : List (List AV) → Option (List Sk)
  | [] => some []
  | l :: r => (skOf l).bind fun s => (skAll r).map (s :: ·)
theorem skAll_eq : ∀ {l : List (List AV)} {ss : List Sk}, skAll l = some ss → l = ss.map skR
  | [], ss, h => by cases h; rfl
  | l :: r, ss, h => by
    simp only [skAll] at h
    cases h1 : skOf l with
    | none => rw [h1] at h; cases h
    | some s =>
      rw [h1] at h
      simp only [Option.bind_some] at h
      cases h2 : skAll r with
      | none => rw [h2] at h; cases h
      | some t =>
        rw [h2] at h
        cases h
        rw [skOf_eq h1, skAll_eq h2]; rfl
theorem skAll_rows (ss : List Sk) : skAll (ss.map skR) = some ss := by
  induction ss with
  | nil => rfl
  | cons s r ih => simp only [List.map_cons, skAll, ih]; rfl
def rowAt {β : Type} (q : Int) (n : Int) (xs : List (List AV)) (k : List AV → Option β) : Option β := if 0 ≤ q ∧ q < n then (xs[0 + q.toNat]?).bind fun l => (cutSegs l 0 65).bind k else none
theorem rowAt_eq {β : Type} {n : Int} {ss : List Sk} {k : List AV → Option β} (j : Nat) (h1 : (j : Int) < n) {s : Sk} (h2 : ss[j]? = some s) : rowAt (j : Int) n (ss.map skR) k = k (skR s) := by
  unfold rowAt
  rw [if_pos ⟨by omega, h1⟩, Int.toNat_natCast, Nat.zero_add, List.getElem?_map, h2]
  rfl
def roC (id : Nat) (b : Blk) : Cell := ⟨id, true, b⟩
def xfTop : ACode := af_slices_IndexFunc_api_Skip.code
def xfL : ACode := xfTop.r.l.r.b.b
def xfCn : Option Canon := some ⟨[], [0,1,6,7,8], [], [0,1,2], 16⟩
def afIdxOf (F : Nat) : AFn := ⟨19, [.t 4], .seq none xfTop.l (.seq none (.seq none xfTop.r.l.l (.block 0 none (.loop F xfCn xfL))) xfTop.r.r)⟩
def manyR : Nat := 18446744073709551616
def afIdx : AFn := afIdxOf manyR
def Fd0 : Env := envAdd id_ratchet_find_1 (inl G10 af_ratchet_find_1) G10
def xfH (ks : List Int) (n : Int) (m : Nat) (xs : List (List AV)) : Am.Heap := ⟨16, [cel 0 [.ints .u8 32 ks], cel 1 [.int .u32 n], roC 2 (.rows 65 m xs)]⟩
def xfF : AV := .func id_ratchet_find_1 [] [pt 0, pt 1]
def xfSt (ks : List Int) (n : Int) (m len : Nat) (xs : List (List AV)) (i : Int) : St :=
  ⟨mkT 19 [(0, .slice 2 0 0 len 65 none), (1, xfF), (6, .slice 2 0 0 len 65 none), (7, .int .i64 len), (8, .int .i64 i)], xfH ks n m xs⟩
def xfR : ACode := match xfL.r.r.l.b.r with | .seq _ (.reg ops) c => .seq none (.reg (ops.drop 5)) c | c => c
def xfT (ks : List Int) (n : Int) (m len : Nat) (xs : List (List AV)) (i : Int) (s : List AV) : St :=
  ⟨mkT 19 [(0, .slice 2 0 0 len 65 none), (1, xfF), (5, .int .i64 i), (6, .slice 2 0 0 len 65 none), (7, .int .i64 len), (8, .int .i64 i), (9, .bool true), (10, .int .i64 i), (11, xfF), (12, .slice 2 0 0 len 65 none), (13, .int .i64 i), (14, .ptr 2 (0 + i.toNat) 65 0 0), (15, .agg s)], xfH ks n m xs⟩
def xfI : ACode := xfL.r.r.r
theorem xf_round (L : St → Option Res) (κ : Kont) (ks : List Int) (n : Int) (m len : Nat) (xs : List (List AV)) (i : Int) : ev Fd0 xfL (xfSt ks n m len xs i) (kLoop xfCn L κ) =
    bif decide (i < len) then (if 0 ≤ i ∧ i < len then (xs[0 + i.toNat]?).bind fun l => (cutSegs l 0 65).bind fun s => ev Fd0 xfR (xfT ks n m len xs i s) (kBlock 1 none (kSeq Fd0 none xfI (kLoop xfCn L κ))) else none)
    else κ (.exit 0) (withT 9 (.bool false) (xfSt ks n m len xs i)) := by kernel_rfl
def kG (fv : Bool) (fo ids : List Nat) (h : Am.Heap) : AV → Am.Heap → Option Res := fun v h' => outG fv fo ids 16 v h' h
def xfHH (a b : Nat) (h : Am.Heap) (ks : List Int) (n : Int) : Am.Heap := (h.set a (.segs [.ints .u8 32 ks])).set b (.segs [.int .u32 n])
def xfK (a b : Nat) (h : Am.Heap) : Kont := kBlock 0 none (kSeq Fd0 none xfTop.r.r (kFn [.t 4] (kG false [] [a, b] h)))
theorem xf_row (L : St → Option Res) (a b : Nat) (h : Am.Heap) (ks : List Int) (n : Int) (m len : Nat) (xs : List (List AV)) (i : Int) (s : Sk) :
    ev Fd0 xfR (xfT ks n m len xs i (skR s)) (kBlock 1 none (kSeq Fd0 none xfI (kLoop xfCn L (xfK a b h)))) =
    bif (s.key == ks) && true then bif s.num == n then some (.int .i64 i, xfHH a b h ks n) else L (xfSt ks n m len xs (w63 (i + 1))) else L (xfSt ks n m len xs (w63 (i + 1))) := by kernel_rfl
theorem xf_end (a b : Nat) (h : Am.Heap) (ks : List Int) (n : Int) (m len : Nat) (xs : List (List AV)) (i : Int) :
    xfK a b h (.exit 0) (withT 9 (.bool false) (xfSt ks n m len xs i)) = some (.int .i64 (-1), xfHH a b h ks n) := by kernel_rfl
def findI (ks : List Int) (n : Int) : List Sk → Nat → Int
  | [], _ => -1
  | s :: r, i => bif (s.key == ks) && (s.num == n) then (i : Int) else findI ks n r (i + 1)
theorem w63_of {n : Int} (h0 : 0 ≤ n) (h1 : n < 9223372036854775808) : w63 n = n := w63_id (by omega) (by omega)
theorem xf_loop (a b : Nat) (h : Am.Heap) (ks : List Int) (n : Int) (m : Nat) (ss : List Sk) (hl : ss.length ≤ 1152921504606846976) : ∀ (r pre : List Sk) (F : Nat), ss = pre ++ r → r.length < F →
    loopK xfCn (ev Fd0 xfL) F (xfSt ks n m ss.length (ss.map skR) (pre.length : Int)) (xfK a b h) = some (.int .i64 (findI ks n r pre.length), xfHH a b h ks n)
  | [], pre, F + 1, he, _ => by
    refine (xf_round _ _ ks n m ss.length _ _).trans ?_
    have : ss.length = pre.length := by rw [he]; simp
    rw [this, decide_eq_false (by omega), cond_false]
    exact xf_end a b h ks n m _ _ _
  | s :: r, pre, F + 1, he, hF => by
    have hlen : ss.length = pre.length + r.length + 1 := by rw [he]; simp; omega
    have hs : ss[pre.length]? = some s := by rw [he]; simp
    refine (xf_round _ _ ks n m ss.length _ _).trans ?_
    rw [decide_eq_true (by omega), cond_true]
    refine (rowAt_eq (k := fun s => ev Fd0 xfR (xfT ks n m ss.length (ss.map skR) pre.length s) (kBlock 1 none (kSeq Fd0 none xfI (kLoop xfCn (fun s => loopK xfCn (ev Fd0 xfL) F s (xfK a b h)) (xfK a b h))))) pre.length (by omega) hs).trans ?_
    refine (xf_row _ a b h ks n m _ _ _ s).trans ?_
    have ih := xf_loop a b h ks n m ss hl r (pre ++ [s]) F (by rw [he]; simp) (by simp at hF; omega)
    rw [w63_of (by omega) (by omega)]
    have e : (((pre ++ [s]).length : Nat) : Int) = (pre.length : Int) + 1 := by simp
    rw [e] at ih
    rw [ih]
    simp only [findI, List.length_append, List.length_cons, List.length_nil]
    cases (s.key == ks) <;> cases (s.num == n) <;> rfl
  | _ :: _, _, 0, _, h => by omega
theorem xf_start (F : Nat) (κ : Kont) (ks : List Int) (n : Int) (m len : Nat) (xs : List (List AV)) : ev Fd0 (afIdxOf F).code ⟨[.slice 2 0 0 len 65 none, xfF] ++ List.replicate 17 .undef, xfH ks n m xs⟩ κ =
    loopK xfCn (ev Fd0 xfL) F (xfSt ks n m len xs 0) (kBlock 0 none (kSeq Fd0 none xfTop.r.r κ)) := by kernel_rfl
theorem xf_run (a b : Nat) (h : Am.Heap) (ks : List Int) (n : Int) (m : Nat) (ss : List Sk) (hl : ss.length ≤ 1152921504606846976) :
    evFn Fd0 afIdx [.slice 2 0 0 ss.length 65 none, xfF] (xfH ks n m (ss.map skR)) (kG false [] [a, b] h) = some (.int .i64 (findI ks n ss 0), xfHH a b h ks n) := by
  refine (evFn_eq ..).trans ?_
  refine (xf_start _ _ ks n m _ _).trans ?_
  exact xf_loop a b h ks n m ss hl ss [] _ rfl (Nat.lt_of_le_of_lt hl (of_decide_eq_true rfl))
set_option maxRecDepth 100000
def litE (ks : List OK) (fv : Bool) (fo : List Nat) (Γ : Env) (af : AFn) : Orc := .full fun args h κ => (litG ks fv fo 16 (fun args h κ => evFn Γ af args h κ) args h).bind fun r => κ r.1 r.2
theorem litE_ok {P : Program} {f : FuncId} {Γ : Env} {af : AFn} (F : Fn P f Γ af) (ks : List OK) (fv : Bool) (fo : List Nat) : OrcOk P f (litE ks fv fo Γ af) := litG_ok F.ok
def Fd1 : Env := envAdd id_slices_IndexFunc_api_Skip (litE [.arg (.sl (.rows 65)), .obj] false [] Fd0 afIdx) Fd0
def findH (ks : List Int) (n : Int) (len : Nat) (xs : List (List AV)) : Am.Heap := ⟨18, [roC 0 (.rows 65 len xs), cel 16 [.ints .u8 32 ks], cel 17 [.int .u32 n]]⟩
theorem find_A (nid : Nat) (ks : List Int) (n : Int) (len : Nat) (xs : List (List AV)) :
    evFn Fd1 af_ratchet_find [.slice 0 0 0 len 65 none, .agg [.ints .u8 32 ks], .int .u32 n] ⟨16, [roC 0 (.rows 65 len xs)]⟩ (kOut none nid) =
    ((evFn Fd0 afIdx [.slice 2 0 0 ((xs.drop 0).take len).length 65 none, xfF] (xfH ks n ((xs.drop 0).take len).length ((xs.drop 0).take len)) kH).bind fun r => kG false [] [16,17] (findH ks n len xs) r.1 r.2).bind fun r => kOut none nid r.1 r.2 := by kernel_rfl
def findO : OrcP := fun _ args h => match args with
  | [l, .agg [.ints .u8 32 ks], .int .u32 n] => (contR 65 h l).bind fun xs => (skAll xs).bind fun ss => if ss.length ≤ 1152921504606846976 then some (.int .i64 (findI ks n ss 0), none) else none
  | _ => none
theorem find_pure {P : Program} {f f0 : FuncId} (F : Fn P f Fd1 af_ratchet_find) (F0 : Fn P f0 Fd0 afIdx) : PureOk P f findO := by
  refine F.lit [.sl (.rows 65), .plain, .plain] none fun nid args hp r ha hr => ?_
  unfold findO at hr
  split at hr <;> try (cases hr; done)
  rename_i l ks n
  cases hc : contR 65 hp l with
  | none => rw [hc] at hr; cases hr
  | some xs =>
    rw [hc] at hr
    simp only [Option.bind_some] at hr
    cases hs : skAll xs with
    | none => rw [hs] at hr; cases hr
    | some ss =>
      rw [hs] at hr
      simp only [Option.bind_some] at hr
      split at hr <;> try (cases hr; done)
      rename_i hl
      cases hr
      obtain rfl := skAll_eq hs
      refine ⟨_, _, by simp only [viewArgs, contR_isSl hc, if_true, viewS_rows (by decide) hc, Option.bind_some, Option.map_some]; rfl, by simp, ?_⟩
      have hlen : (ss.map skR).length = ss.length := by simp
      rw [hlen]
      refine (find_A nid ks n ss.length (ss.map skR)).trans ?_
      have e1 : ((ss.map skR).drop 0).take ss.length = ss.map skR := by rw [List.drop_zero, List.take_of_length_le (by simp)]
      rw [e1, hlen]
      have e2 := F0.factor [.slice 2 0 0 ss.length 65 none, xfF] (xfH ks n ss.length (ss.map skR)) (kG false [] [16,17] (findH ks n ss.length (ss.map skR)))
      simp only at e2
      rw [← e2, xf_run _ _ _ _ _ _ _ hl]
      rfl
abbrev OrcF := List AV → Heap → (AV → Heap → Option Res) → Option Res
theorem pure_full {P : Program} {f : FuncId} {o : OrcP} {C : OrcF} (ho : PureOk P f o) (hC : ∀ args h κ, C args h κ = (o h.next args h).bind fun r => κ r.1 (obH h r.2)) : FullOk P f C where
  factor := fun args h κ => by
    rw [hC args h κ, hC args h kH]
    cases o h.next args h <;> rfl
  sound := fun args h v h' ι w vs hk R hf ha => by
    have hΓ : EnvOk P (envAdd f (.pure o) fun _ => none) := envAdd_ok (o := .pure o) ho env_ok_none
    refine callK_sound hΓ (f := f) ?_ R hf ha
    rw [hC] at hk
    unfold callK envAdd
    simp only [if_true]
    rw [← hk]
    cases o h.next args h with
    | none => rfl
    | some r => obtain ⟨a, b⟩ := r; cases b <;> rfl
def withSks {β : Type} (h : Heap) (l : AV) (k : List Sk → Option β) : Option β := (contR 65 h l).bind fun xs => (skAll xs).bind fun ss => if ss.length ≤ 1152921504606846976 then k ss else none
def findC : OrcF := fun args h κ => match args with
  | [l, .agg [.ints .u8 32 ks], .int .u32 n] => withSks h l fun ss => κ (.int .i64 (findI ks n ss 0)) h
  | _ => none
theorem find_full {P : Program} {f : FuncId} (h : PureOk P f findO) : FullOk P f findC := by
  refine pure_full h fun args hp κ => ?_
  unfold findC findO withSks
  split
  · rename_i l ks n
    try simp only []
    cases contR 65 hp l with
    | none => rfl
    | some xs =>
      simp only [Option.bind_some]
      cases skAll xs with
      | none => rfl
      | some ss =>
        simp only [Option.bind_some]
        split <;> rfl
  · first
    | rfl
    | (rename_i hx
       split
       · exact (hx _ _ _ rfl).elim
       · rfl)
set_option maxRecDepth 100000
def withBs {β : Type} (h : Heap) (s : AV) (k : List Int → Option β) : Option β := (contI .u8 h s).bind fun xs => if xs.length ≤ 140737488351232 then k xs else none
theorem withBs_eq {β : Type} {h : Heap} {l : AV} {k : List Int → Option β} {x : β} (hk : withBs h l k = some x) : ∃ xs, contI .u8 h l = some xs ∧ xs.length ≤ 140737488351232 ∧ k xs = some x := by
  unfold withBs at hk
  cases hc : contI .u8 h l with
  | none => rw [hc] at hk; cases hk
  | some xs =>
    rw [hc] at hk
    simp only [Option.bind_some] at hk
    split at hk
    · rename_i hl; exact ⟨xs, rfl, hl, hk⟩
    · cases hk
theorem withBs_map {β γ : Type} {h : Heap} {l : AV} {k : List Int → Option β} {g : β → Option γ} : (withBs h l k).bind g = withBs h l fun ss => (k ss).bind g := by
  unfold withBs
  cases contI .u8 h l with
  | none => rfl
  | some xs =>
    simp only [Option.bind_some]
    split <;> rfl
def newBs (nid : Nat) (xs : List Int) : AV × Option Blk := (.slice nid 0 0 xs.length 0 none, some (.segs [.ints .u8 xs.length xs]))
def cloneC : OrcF := fun args h κ => match args with
  | [s] => withBs h s fun xs => κ (.slice h.next 0 0 xs.length 0 none) (h.new (.segs [.ints .u8 xs.length xs]))
  | _ => none
theorem clone_full {P : Program} {f : FuncId} (h : PureOk P f cloneO) : FullOk P f cloneC := by
  refine pure_full h fun args hp κ => ?_
  unfold cloneC cloneO
  split
  · rename_i s
    show withBs hp s _ = (withBs hp s fun xs => some (newBs hp.next xs)).bind _
    rw [withBs_map]
    rfl
  · first
    | rfl
    | (rename_i hx
       split
       · exact (hx _ rfl).elim
       · rfl)
def pOc : Env := envAdd id_slices_Clone_byte (.full cloneC) G10
def apB (L : Nat) (ys : List Int) (b : Int) : List Int := (ys.drop 0).take L ++ [b]
def shB (x : Int) : Int := x.fdiv (2 ^ 8)
def fitB (n : Nat) (r : Option Res) : Option Res := if n * 1 ≤ 2 ^ 47 then r else none
theorem put_run4 (nid len : Nat) (xs : List Int) (x : Int) : evFn pOc af_octet_put [.slice 0 0 0 len 0 none, .int .u64 x, .int .i64 4] ⟨16, [roC 0 (.segs [.ints .u8 len xs])]⟩ (kOut (some (.ints .u8)) nid) =
    if ((xs.drop 0).take len).length ≤ 140737488351232 then
      fitB (((xs.drop 0).take len).length + 1) (fitB (((xs.drop 0).take len).length + 1 + 1) (fitB (((xs.drop 0).take len).length + 1 + 1 + 1) (fitB (((xs.drop 0).take len).length + 1 + 1 + 1 + 1)
        (some (.slice nid 0 0 (((xs.drop 0).take len).length + 1 + 1 + 1 + 1) 0 none, encB nid (some (.segs [.ints .u8 (((xs.drop 0).take len).length + 1 + 1 + 1 + 1)
          (apB (((xs.drop 0).take len).length + 1 + 1 + 1) (apB (((xs.drop 0).take len).length + 1 + 1) (apB (((xs.drop 0).take len).length + 1) (apB ((xs.drop 0).take len).length ((xs.drop 0).take len) (w8 x)) (w8 (shB x))) (w8 (shB (shB x)))) (w8 (shB (shB (shB x)))))])))))))
    else none := by kernel_rfl
theorem apB_eq (ys : List Int) (b : Int) (L : Nat) (h : L = ys.length) : apB L ys b = ys ++ [b] := by
  subst h
  rw [apB, List.drop_zero, List.take_length]
theorem take_all (xs : List Int) (n : Nat) (h : xs.length = n) : (xs.drop 0).take n = xs := by rw [List.drop_zero, ← h, List.take_length]
def le4 (x : Int) : List Int := [w8 x, w8 (shB x), w8 (shB (shB x)), w8 (shB (shB (shB x)))]
theorem put_run (nid : Nat) (xs : List Int) (x : Int) (hl : xs.length ≤ 140737488351232) : evFn pOc af_octet_put [.slice 0 0 0 xs.length 0 none, .int .u64 x, .int .i64 4] ⟨16, [roC 0 (.segs [.ints .u8 xs.length xs])]⟩ (kOut (some (.ints .u8)) nid) =
    some (.slice nid 0 0 (xs.length + 4) 0 none, encB nid (some (.segs [.ints .u8 (xs.length + 4) (xs ++ le4 x)]))) := by
  refine (put_run4 ..).trans ?_
  rw [take_all xs _ rfl, if_pos hl]
  unfold fitB
  rw [if_pos (by omega), if_pos (by omega), if_pos (by omega), if_pos (by omega), apB_eq xs _ _ rfl, apB_eq (xs ++ [w8 x]) _ _ (by simp), apB_eq (xs ++ [w8 x] ++ [w8 (shB x)]) _ _ (by simp), apB_eq (xs ++ [w8 x] ++ [w8 (shB x)] ++ [w8 (shB (shB x))]) _ _ (by simp)]
  simp only [List.append_assoc, List.cons_append, List.nil_append, le4]
def put4O (nid : Nat) (args : List AV) (h : Am.Heap) : Option (AV × Option Blk) := match args with
  | [s, .int .u64 x, .int .i64 4] => withBs h s fun xs => some (.slice nid 0 0 (xs.length + 4) 0 none, some (.segs [.ints .u8 (xs.length + 4) (xs ++ le4 x)]))
  | _ => none
theorem put_pure {P : Program} {f : FuncId} (F : Fn P f pOc af_octet_put) : PureOk P f put4O := by
  refine F.lit [.sl (.ints .u8), .plain, .plain] (some (.ints .u8)) fun nid args hp r ha hr => ?_
  unfold put4O at hr
  split at hr <;> try (cases hr; done)
  obtain ⟨xs, hc, hl, hr1⟩ := withBs_eq hr
  cases hr1
  refine ⟨_, _, by simp only [viewArgs, contI_isSl hc, if_true, viewS_ints hc, Option.bind_some, Option.map_some]; rfl, by simp, ?_⟩
  exact put_run nid xs _ hl
set_option maxRecDepth 100000
structure Rat where
  root : List Int
  own : List Int
  peer : List Int
  send : List Int
  recv : List Int
  sent : Int
  got : Int
  bef : Int
def Rat.segs (r : Rat) (l : AV) : List AV := [.ints .u8 32 r.root, .ints .u8 32 r.own, .ints .u8 32 r.peer, .ints .u8 32 r.send, .ints .u8 32 r.recv, .int .u32 r.sent, .int .u32 r.got, .int .u32 r.bef, l]
def ckTop : ACode := af_ratchet_Check.code
def ckL : ACode := ckTop.r.r.l.r.b.b
def ckCn : Option Canon := some ⟨[], [1,25,26,27], [], [0,16], 17⟩
def afCheckOf (F : Nat) : AFn := ⟨43, [.t 2], .seq none ckTop.l (.seq none ckTop.r.l (.seq none (.seq none ckTop.r.r.l.l (.block 0 none (.loop F ckCn ckL))) ckTop.r.r.r))⟩
def afCheck : AFn := afCheckOf manyR
def Ck0 : Env := envAdd id_ratchet_find (.full findC) G10
def ckS (len : Nat) : AV := .slice 0 0 0 len 65 none
def ckH (r : Rat) (len m : Nat) (xs : List (List AV)) : Am.Heap := ⟨17, [roC 0 (.rows 65 m xs), cel 16 (r.segs (ckS len))]⟩
def ckSt (r : Rat) (len m : Nat) (xs : List (List AV)) (i : Int) : St := ⟨mkT 43 [(1, pt 16), (25, ckS len), (26, .int .i64 len), (27, .int .i64 i)], ckH r len m xs⟩
def ckR : ACode := match ckL.r.r.l.b with | .seq _ (.reg ops) c => .seq none (.reg (ops.drop 3)) c | c => c
def ckT (r : Rat) (len m : Nat) (xs : List (List AV)) (i : Int) (s : List AV) : St :=
  ⟨mkT 43 [(1, pt 16), (25, ckS len), (26, .int .i64 len), (27, .int .i64 i), (28, .bool true), (29, .int .i64 i), (30, .ptr 0 (0 + i.toNat) 65 0 0), (31, .agg s)], ckH r len m xs⟩
def ckI : ACode := ckL.r.r.r
theorem ck_round (L : St → Option Res) (κ : Kont) (r : Rat) (len m : Nat) (xs : List (List AV)) (i : Int) : ev Ck0 ckL (ckSt r len m xs i) (kLoop ckCn L κ) =
    bif decide (i < len) then rowAt i len xs fun s => ev Ck0 ckR (ckT r len m xs i s) (kBlock 1 none (kSeq Ck0 none ckI (kLoop ckCn L κ)))
    else κ (.exit 0) (withT 28 (.bool false) (ckSt r len m xs i)) := by kernel_rfl
def ckK (nid : Nat) : Kont := kBlock 0 none (kSeq Ck0 none ckTop.r.r.r (kFn [.t 2] (kOut none nid)))
theorem ck_row (L : St → Option Res) (nid : Nat) (r : Rat) (len m : Nat) (xs : List (List AV)) (i : Int) (s : Sk) :
    ev Ck0 ckR (ckT r len m xs i (skR s)) (kBlock 1 none (kSeq Ck0 none ckI (kLoop ckCn L (ckK nid)))) =
    if 0 ≤ i ∧ i ≤ (len : Int) then (skAll ((xs.drop (0 + 0)).take (i.toNat - 0))).bind fun ss => if ss.length ≤ 1152921504606846976 then
      (bif decide (findI s.key s.num ss 0 ≥ 0) then some (.int .i64 270, ⟨0, []⟩) else L (ckSt r len m xs (w63 (i + 1)))) else none
    else none := by kernel_rfl
def err (n : Int) : Option Res := some (.int .i64 n, ⟨0, []⟩)
theorem ck_start (F nid : Nat) (r : Rat) (len m : Nat) (xs : List (List AV)) : ev Ck0 (afCheckOf F).code ⟨[.agg (r.segs (ckS len))] ++ List.replicate 42 .undef, ⟨16, [roC 0 (.rows 65 m xs)]⟩⟩ (kFn [.t 2] (kOut none nid)) =
    bif decide ((len : Int) > 8) then err 270 else bif decide (r.sent > 2147483648) then err 270 else bif decide (r.got > 2147483648) then err 270 else bif decide (r.bef > 2147483648) then err 270
    else loopK ckCn (ev Ck0 ckL) F (ckSt r len m xs 0) (ckK nid) := by kernel_rfl
theorem ck_end (nid : Nat) (r : Rat) (len m : Nat) (xs : List (List AV)) (i : Int) : ckK nid (.exit 0) (withT 28 (.bool false) (ckSt r len m xs i)) = err 0 := by kernel_rfl
def dupI : List Sk → List Sk → Bool
  | _, [] => false
  | pre, s :: r => bif decide (findI s.key s.num pre 0 ≥ 0) then true else dupI (pre ++ [s]) r
def checkI (r : Rat) (ss : List Sk) : Int :=
  bif decide ((ss.length : Int) > 8) then 270 else bif decide (r.sent > 2147483648) then 270 else bif decide (r.got > 2147483648) then 270 else bif decide (r.bef > 2147483648) then 270
  else bif dupI [] ss then 270 else 0
theorem ck_loop (nid : Nat) (r : Rat) (m : Nat) (ss : List Sk) (hl : ss.length ≤ 1152921504606846976) : ∀ (t pre : List Sk) (F : Nat), ss = pre ++ t → t.length < F →
    loopK ckCn (ev Ck0 ckL) F (ckSt r ss.length m (ss.map skR) (pre.length : Int)) (ckK nid) = err (bif dupI pre t then 270 else 0)
  | [], pre, F + 1, he, _ => by
    refine (ck_round _ _ r ss.length m _ _).trans ?_
    have : ss.length = pre.length := by rw [he]; simp
    rw [this, decide_eq_false (by omega), cond_false]
    exact ck_end ..
  | s :: t, pre, F + 1, he, hF => by
    have hlen : ss.length = pre.length + t.length + 1 := by rw [he]; simp; omega
    have hs : ss[pre.length]? = some s := by rw [he]; simp
    refine (ck_round _ _ r ss.length m _ _).trans ?_
    rw [decide_eq_true (by omega), cond_true]
    refine (rowAt_eq (k := fun s => ev Ck0 ckR (ckT r ss.length m (ss.map skR) pre.length s) (kBlock 1 none (kSeq Ck0 none ckI (kLoop ckCn (fun s => loopK ckCn (ev Ck0 ckL) F s (ckK nid)) (ckK nid))))) pre.length (by omega) hs).trans ?_
    refine (ck_row _ nid r ss.length m _ _ s).trans ?_
    rw [if_pos ⟨by omega, by omega⟩]
    have e1 : ((ss.map skR).drop (0 + 0)).take ((pre.length : Int).toNat - 0) = pre.map skR := by
      rw [he]; simp
    rw [e1, skAll_rows, Option.bind_some, if_pos (by omega)]
    have ih := ck_loop nid r m ss hl t (pre ++ [s]) F (by rw [he]; simp) (by simp at hF; omega)
    rw [w63_of (by omega) (by omega)]
    have e : (((pre ++ [s]).length : Nat) : Int) = (pre.length : Int) + 1 := by simp
    rw [e] at ih
    simp only [dupI]
    cases decide (findI s.key s.num pre 0 ≥ 0)
    · simp only [cond_false]; exact ih
    · rfl
  | _ :: _, _, 0, _, h => by omega
theorem ck_run (nid : Nat) (r : Rat) (m : Nat) (ss : List Sk) (hl : ss.length ≤ 1152921504606846976) :
    evFn Ck0 afCheck [.agg (r.segs (ckS ss.length))] ⟨16, [roC 0 (.rows 65 m (ss.map skR))]⟩ (kOut none nid) = err (checkI r ss) := by
  refine (evFn_eq ..).trans ?_
  refine (ck_start _ nid r _ m _).trans ?_
  rw [show loopK ckCn (ev Ck0 ckL) manyR (ckSt r ss.length m (ss.map skR) 0) (ckK nid) = _ from ck_loop nid r m ss hl ss [] manyR rfl (Nat.lt_of_le_of_lt hl (of_decide_eq_true rfl))]
  unfold checkI
  cases decide ((ss.length : Int) > 8) <;> cases decide (r.sent > 2147483648) <;> cases decide (r.got > 2147483648) <;> cases decide (r.bef > 2147483648) <;> rfl
def withRat {β : Type} (v : AV) (k : Rat → AV → Option β) : Option β := match v with
  | .agg [.ints .u8 32 a, .ints .u8 32 b, .ints .u8 32 c, .ints .u8 32 d, .ints .u8 32 e, .int .u32 s, .int .u32 g, .int .u32 p, l] => k ⟨a, b, c, d, e, s, g, p⟩ l
  | _ => none
theorem withRat_eq {β : Type} {v : AV} {k : Rat → AV → Option β} {x : β} (h : withRat v k = some x) : ∃ r l, v = .agg (r.segs l) ∧ k r l = some x := by
  unfold withRat at h
  split at h
  · exact ⟨_, _, rfl, h⟩
  · cases h
theorem withSks_eq {β : Type} {h : Heap} {l : AV} {k : List Sk → Option β} {x : β} (hk : withSks h l k = some x) : ∃ ss, contR 65 h l = some (ss.map skR) ∧ ss.length ≤ 1152921504606846976 ∧ k ss = some x := by
  unfold withSks at hk
  cases hc : contR 65 h l with
  | none => rw [hc] at hk; cases hk
  | some xs =>
    rw [hc] at hk
    simp only [Option.bind_some] at hk
    cases hs : skAll xs with
    | none => rw [hs] at hk; cases hk
    | some ss =>
      rw [hs] at hk
      simp only [Option.bind_some] at hk
      split at hk
      · rename_i hl; exact ⟨ss, by rw [skAll_eq hs], hl, hk⟩
      · cases hk
def checkO : OrcP := fun _ args h => match args with
  | [v] => withRat v fun r l => withSks h l fun ss => some (.int .i64 (checkI r ss), none)
  | _ => none
theorem viewSegs_no {h : Heap} {s : AV} {r : List AV} {ks : List GK} {n : Nat} (h1 : isSl s = false) (h2 : noId s = true) : viewSegs h (s :: r) ks n = (viewSegs h r ks n).map fun p => (s :: p.1, p.2) := by
  conv => lhs; unfold viewSegs
  rw [if_neg (by rw [h1]; decide), if_pos h2]
theorem check_view {hp : Heap} {r : Rat} {l : AV} {ss : List Sk} (hc : contR 65 hp l = some (ss.map skR)) (n : Nat) (ks : List GK) :
    viewSegs hp (r.segs l) (.rows 65 :: ks) n = some (r.segs (.slice n 0 0 ss.length 65 none), [roC n (.rows 65 ss.length (ss.map skR))]) := by
  have hs := contR_isSl hc
  have hv := viewS_rows (by decide) hc
  simp only [List.length_map] at hv
  have e : viewSegs hp [l] (.rows 65 :: ks) n = some ([.slice n 0 0 ss.length 65 none], [roC n (.rows 65 ss.length (ss.map skR))]) := by
    unfold viewSegs
    rw [if_pos hs]
    simp only [hv, Option.bind_some, viewSegs, Option.map_some]
    rfl
  simp only [Rat.segs]
  repeat rw [viewSegs_no (by rfl) (by rfl)]
  rw [e]
  rfl
theorem check_pure {P : Program} {f : FuncId} (F : Fn P f Ck0 afCheck) : PureOk P f checkO := by
  refine F.lit [.agg [.rows 65]] none fun nid args hp r ha hr => ?_
  unfold checkO at hr
  split at hr <;> try (cases hr; done)
  obtain ⟨q, l, rfl, hr⟩ := withRat_eq hr
  obtain ⟨ss, hc, hl, hr⟩ := withSks_eq hr
  cases hr
  refine ⟨_, _, by simp only [viewArgs, check_view hc, Option.bind_some, Option.map_some, List.append_nil]; rfl, by simp, ?_⟩
  exact ck_run nid q _ ss hl
def checkC : OrcF := fun args h κ => match args with
  | [v] => withRat v fun r l => withSks h l fun ss => κ (.int .i64 (checkI r ss)) h
  | _ => none
theorem withSks_map {β γ : Type} {h : Heap} {l : AV} {k : List Sk → Option β} {g : β → Option γ} : (withSks h l k).bind g = withSks h l fun ss => (k ss).bind g := by
  unfold withSks
  cases contR 65 h l with
  | none => rfl
  | some xs =>
    simp only [Option.bind_some]
    cases skAll xs with
    | none => rfl
    | some ss =>
      simp only [Option.bind_some]
      split <;> rfl
theorem withRat_map {β γ : Type} {v : AV} {k : Rat → AV → Option β} {g : β → Option γ} : (withRat v k).bind g = withRat v fun r l => (k r l).bind g := by
  unfold withRat
  split <;> rfl
theorem check_full {P : Program} {f : FuncId} (h : PureOk P f checkO) : FullOk P f checkC := by
  refine pure_full h fun args hp κ => ?_
  unfold checkC checkO
  split
  · simp only [withRat_map, withSks_map, Option.bind_some, obH]
  · rfl
set_option maxRecDepth 100000
def sl65 (id len : Nat) : AV := .slice id 0 0 len 65 none
def seH (m1 m2 : Nat) (xs ys : List (List AV)) : Am.Heap := ⟨16, [roC 0 (.rows 65 m1 xs), roC 1 (.rows 65 m2 ys)]⟩
def t65 : List Bool := List.replicate 65 true
def yes (b : Bool) : Option Res := some (.bool b, ⟨0, []⟩)
def skEq (s t : Sk) : Bool := (s.key == t.key) && ((s.num == t.num) && ((s.sec == t.sec) && true))
theorem eqv_sk (s t : Sk) (κ : AV → Option Res) : eqvK true (.agg t65) (.agg (skR s)) (.agg (skR t)) κ = κ (.bool (!(skEq s t))) := by kernel_rfl
def eqSks : List Sk → List Sk → Bool
  | [], [] => true
  | s :: r, t :: u => skEq s t && eqSks r u
  | _, _ => false
theorem eqSks_len : ∀ {r u : List Sk}, r.length ≠ u.length → eqSks r u = false
  | [], [], h => absurd rfl h
  | s :: r, t :: u, h => by
    simp only [eqSks]
    rw [eqSks_len (r := r) (u := u) (by simpa using h), Bool.and_false]
  | [], _ :: _, _ => rfl
  | _ :: _, [], _ => rfl
def ratEq (a b : Rat) : Bool := (a.root == b.root) && ((a.own == b.own) && ((a.peer == b.peer) && ((a.send == b.send) && ((a.recv == b.recv) && ((a.sent == b.sent) && ((a.got == b.got) && (a.bef == b.bef)))))))
def sameB (a b : Rat) (ss ts : List Sk) : Bool := ratEq a b && eqSks ss ts
def rsameO : OrcP := fun _ args h => match args with
  | [v, u] => withRat v fun a l => withRat u fun b l' => withSks h l fun ss => withSks h l' fun ts => some (.bool (sameB a b ss ts), none)
  | _ => none
def rsameC : OrcF := fun args h κ => match args with
  | [v, u] => withRat v fun a l => withRat u fun b l' => withSks h l fun ss => withSks h l' fun ts => κ (.bool (sameB a b ss ts)) h
  | _ => none
theorem rsame_full {P : Program} {f : FuncId} (h : PureOk P f rsameO) : FullOk P f rsameC := by
  refine pure_full h fun args hp κ => ?_
  unfold rsameC rsameO
  split
  · simp only [withRat_map, withSks_map, Option.bind_some, obH]
  · rfl
set_option maxRecDepth 100000
def put4C : OrcF := fun args h κ => match args with
  | [s, .int .u64 x, .int .i64 4] => withBs h s fun xs => κ (.slice h.next 0 0 (xs.length + 4) 0 none) (h.new (.segs [.ints .u8 (xs.length + 4) (xs ++ le4 x)]))
  | _ => none
theorem put4_full {P : Program} {f : FuncId} (h : PureOk P f put4O) : FullOk P f put4C := by
  refine pure_full h fun args hp κ => ?_
  unfold put4C put4O
  split
  · simp only [withBs_map, Option.bind_some, obH]
  · first
    | rfl
    | (rename_i hx
       split
       · exact (hx _ _ rfl).elim
       · rfl)
def p32E : Env := envAdd id_octet_put (.full put4C) G10
theorem put32_run1 (nid len : Nat) (xs : List Int) (x : Int) : evFn p32E af_octet_Put32 [.slice 0 0 0 len 0 none, .int .u32 x] ⟨16, [roC 0 (.segs [.ints .u8 len xs])]⟩ (kOut (some (.ints .u8)) nid) =
    if ((xs.drop 0).take len).length ≤ 140737488351232 then some (.slice nid 0 0 (((xs.drop 0).take len).length + 4) 0 none, encB nid (some (.segs [.ints .u8 (((xs.drop 0).take len).length + 4) ((xs.drop 0).take len ++ le4 (w64 x))]))) else none := by kernel_rfl
def put32O (nid : Nat) (args : List AV) (h : Am.Heap) : Option (AV × Option Blk) := match args with
  | [s, .int .u32 x] => withBs h s fun xs => some (.slice nid 0 0 (xs.length + 4) 0 none, some (.segs [.ints .u8 (xs.length + 4) (xs ++ le4 (w64 x))]))
  | _ => none
theorem put32_pure {P : Program} {f : FuncId} (F : Fn P f p32E af_octet_Put32) : PureOk P f put32O := by
  refine F.lit [.sl (.ints .u8), .plain] (some (.ints .u8)) fun nid args hp r ha hr => ?_
  unfold put32O at hr
  split at hr <;> try (cases hr; done)
  obtain ⟨xs, hc, hl, hr1⟩ := withBs_eq hr
  cases hr1
  refine ⟨_, _, by simp only [viewArgs, contI_isSl hc, if_true, viewS_ints hc, Option.bind_some, Option.map_some]; rfl, by simp, ?_⟩
  refine (put32_run1 ..).trans ?_
  rw [take_all xs _ rfl, if_pos hl]
def slB (id len : Nat) : AV := .slice id 0 0 len 0 none
def ptAt {β : Type} (q : Int) (n : Int) (xs : List Int) (k : Int → Option β) : Option β := if 0 ≤ q ∧ q < n then (xs[0 + q.toNat]?).bind k else none
theorem ptAt_eq {β : Type} {n : Int} {xs : List Int} {k : Int → Option β} (j : Nat) (h1 : (j : Int) < n) {x : Int} (h2 : xs[j]? = some x) : ptAt (j : Int) n xs k = k x := by
  unfold ptAt
  rw [if_pos ⟨by omega, h1⟩, Int.toNat_natCast, Nat.zero_add, h2]
  rfl
set_option maxRecDepth 100000
def SkOk (s : Sk) : Prop := s.key.length = 32 ∧ s.sec.length = 32 ∧ (∀ x ∈ s.key, rng .u8 x) ∧ rng .u32 s.num ∧ ∀ x ∈ s.sec, rng .u8 x
structure RatOk (r : Rat) : Prop where
  root : r.root.length = 32
  own : r.own.length = 32
  peer : r.peer.length = 32
  send : r.send.length = 32
  recv : r.recv.length = 32
  rootR : ∀ x ∈ r.root, rng .u8 x
  ownR : ∀ x ∈ r.own, rng .u8 x
  peerR : ∀ x ∈ r.peer, rng .u8 x
  sendR : ∀ x ∈ r.send, rng .u8 x
  recvR : ∀ x ∈ r.recv, rng .u8 x
  sentR : rng .u32 r.sent
  gotR : rng .u32 r.got
  befR : rng .u32 r.bef
structure HOkA (h : Heap) (args : List AV) : Prop extends HOk h args where
  aggR : ∀ l, AV.agg l ∈ args → ∀ s ∈ l, ∀ e xs, contR e h s = some xs → ∀ r ∈ xs, RowWf e r ∧ ArgsOk r
  aggI : ∀ l, AV.agg l ∈ args → ∀ s ∈ l, ∀ k xs, contI k h s = some xs → ∀ y ∈ xs, rng k y
theorem agg_cell {ι : Inj} {l : List AV} {x : Value} {s : AV} (h : VR ι (.agg l) x) (hs : s ∈ l) (hi : isSl s = true) : ∃ y, SR ι s y := by
  obtain ⟨cs, _, _, hc⟩ := h
  have hm : s ∈ cellsL l := by simp only [cellsL, List.mem_flatMap]; exact ⟨s, hs, by rw [isSl_segC hi]; simp⟩
  obtain ⟨i, hi⟩ := List.mem_iff_getElem?.1 hm
  obtain ⟨y, _, hy⟩ := hc.2 i s hi
  exact ⟨y, hy⟩
theorem HOkA.of {h : Heap} {w : World} {ι : Inj} {args : List AV} {vs : List Value} (R : HRel ι h w) (ha : VRL ι args vs) : HOkA h args where
  toHOk := .of R ha
  aggR := fun l hl s hs e xs hk => by
    obtain ⟨i, hi⟩ := List.mem_iff_getElem?.1 hl
    obtain ⟨x, _, hr⟩ := ha.2 i _ hi
    obtain ⟨y, hy⟩ := agg_cell hr hs (contR_isSl hk)
    exact viewR_ok R (.of_SR hy) hk
  aggI := fun l hl s hs k xs hk => by
    obtain ⟨i, hi⟩ := List.mem_iff_getElem?.1 hl
    obtain ⟨x, _, hr⟩ := ha.2 i _ hi
    obtain ⟨y, hy⟩ := agg_cell hr hs (contI_isSl hk)
    exact viewS_rng R (.of_SR hy) hk
theorem sk_ok {s : Sk} (h : ArgsOk (skR s)) : SkOk s := by
  obtain ⟨⟨h1, h2⟩, h3, ⟨h4, h5⟩, _⟩ := h
  exact ⟨h1, h4, h2, h3, h5⟩
theorem rat_ok {r : Rat} {l : AV} (h : AOk (.agg (r.segs l))) : RatOk r := by
  obtain ⟨⟨a1, a2⟩, ⟨b1, b2⟩, ⟨c1, c2⟩, ⟨d1, d2⟩, ⟨e1, e2⟩, f, g, k, _⟩ := h
  exact ⟨a1, b1, c1, d1, e1, a2, b2, c2, d2, e2, f, g, k⟩
theorem HOkA.rat {h : Heap} {args : List AV} (H : HOkA h args) {r : Rat} {l : AV} (hm : AV.agg (r.segs l) ∈ args) {ss : List Sk} (hc : contR 65 h l = some (ss.map skR)) : RatOk r ∧ ∀ s ∈ ss, SkOk s := by
  refine ⟨rat_ok (AOkL_iff.1 H.ok _ hm), fun s hs => sk_ok ?_⟩
  exact (H.aggR _ hm l (by simp [Rat.segs]) 65 _ hc (skR s) (List.mem_map.2 ⟨s, hs, rfl⟩)).2
theorem mapM_get {α β : Type} {f : α → Option β} : ∀ {l : List α} {r : List β}, l.mapM f = some r → r.length = l.length ∧ ∀ (i : Nat) a, l[i]? = some a → ∃ b, f a = some b ∧ r[i]? = some b
  | [], r, h => by
    simp only [List.mapM_nil] at h
    cases h
    exact ⟨rfl, fun i a ha => by simp at ha⟩
  | x :: l, r, h => by
    rw [List.mapM_cons] at h
    cases hx : f x with
    | none => rw [hx] at h; cases h
    | some b =>
      rw [hx] at h
      cases hr : l.mapM f with
      | none => rw [hr] at h; cases h
      | some r' =>
        rw [hr] at h
        cases h
        obtain ⟨h1, h2⟩ := mapM_get hr
        refine ⟨by simp [h1], fun i a ha => ?_⟩
        cases i with
        | zero => simp only [List.getElem?_cons_zero, Option.some.injEq] at ha; subst ha; exact ⟨b, hx, rfl⟩
        | succ i => simpa using h2 i a (by simpa using ha)
def leafAt (P : Program) : Nat → TypeId → Nat → Option TypeId
  | 0, _, _ => none
  | n + 1, t, i => match P.underlying t with
    | some (.struct fs) => (fs.toList.find? fun f => decide (f.offset ≤ i) && decide (i < f.offset + P.cellsOf f.type)).bind fun f => leafAt P n f.type (i - f.offset)
    | some (.array m e) => if P.cellsOf e = 0 then none else if i / P.cellsOf e < m then leafAt P n e (i % P.cellsOf e) else none
    | some _ => if i = 0 then some t else none
    | none => none
section
variable {H : Type} {enc : TypeId × Value → H} {P : Program} {w : World} {base : Nat} {spare : Nat → Bool} {held : Bool}
theorem weightsAll_mem {e : TypeId} : ∀ {l : List (DataW H)} {d : DataW H}, d ∈ l → ∀ k ∈ d.weights P e, k ∈ DataW.weightsAll P e l
  | x :: l, d, hd, k, hk => by
    simp only [DataW.weightsAll, List.mem_append]
    rcases List.mem_cons.1 hd with rfl | hd
    · exact .inl hk
    · exact .inr (weightsAll_mem hd k hk)
theorem trod_one {fuel : Nat} {t : TypeId} {cs : List Value} {d : DataW H} {p : List MemPlace} (h1 : ∀ fs, P.underlying t ≠ some (.struct fs)) (h2 : ∀ n e, P.underlying t ≠ some (.array n e)) (h : DataW.trod enc P w base spare held fuel t cs = some (d, p)) : ∃ v, cs = [v] := by
  cases fuel with
  | zero => simp [DataW.trod] at h
  | succ fuel =>
    unfold DataW.trod at h
    split at h <;> first
      | exact ⟨_, rfl⟩
      | (rename_i hu; exact absurd hu (h1 _))
      | (rename_i hu; exact absurd hu (h2 _ _))
      | (cases h; done)
theorem trod_leaf : ∀ (n : Nat) (t : TypeId) (i : Nat) (u : TypeId) (fuel : Nat) (cs : List Value) (d : DataW H) (p : List MemPlace), leafAt P n t i = some u → DataW.trod enc P w base spare held fuel t cs = some (d, p) →
    ∃ v fuel' d' p', cs[i]? = some v ∧ DataW.trod enc P w base spare held fuel' u [v] = some (d', p') ∧ ∀ k ∈ d'.weights P u, k ∈ d.weights P t
  | 0, _, _, _, _, _, _, _, h, _ => by cases h
  | n + 1, t, i, u, fuel, cs, d, p, hl, h => by
    unfold leafAt at hl
    split at hl
    · rename_i fs hu
      cases hf : fs.toList.find? fun f => decide (f.offset ≤ i) && decide (i < f.offset + P.cellsOf f.type) with
      | none => rw [hf] at hl; cases hl
      | some f =>
        rw [hf] at hl
        simp only [Option.bind_some] at hl
        have hc := List.find?_some hf
        simp only [Bool.and_eq_true, decide_eq_true_eq] at hc
        obtain ⟨j, hj⟩ := List.mem_iff_getElem?.1 (List.mem_of_find?_eq_some hf)
        cases fuel with
        | zero => simp [DataW.trod] at h
        | succ fuel =>
          simp only [DataW.trod, hu] at h
          split at h <;> try (cases h; done)
          cases hm : fs.toList.mapM fun f => DataW.trod enc P w base spare held fuel f.type ((cs.drop f.offset).take (P.cellsOf f.type)) with
          | none => rw [hm] at h; cases h
          | some xs =>
            rw [hm] at h
            simp only [Option.map_some, Option.some.injEq, Prod.mk.injEq] at h
            obtain ⟨rfl, rfl⟩ := h
            obtain ⟨⟨d1, p1⟩, e1, e2⟩ := (mapM_get hm).2 j f hj
            obtain ⟨v, fuel', d', p', g1, g2, g3⟩ := trod_leaf n f.type (i - f.offset) u fuel _ d1 p1 hl e1
            refine ⟨v, fuel', d', p', ?_, g2, fun k hk => ?_⟩
            · rw [List.getElem?_take, if_pos (by omega), List.getElem?_drop] at g1
              rw [← g1]; congr 1; omega
            · simp only [DataW.weights, hu]
              exact DataW.weights_mem_each (j := j) (t := f.type) (d := d1) (by rw [List.getElem?_map, hj]; rfl) (by rw [List.getElem?_map, e2]; rfl) k (g3 k hk)
    · rename_i m e hu
      split at hl <;> try (cases hl; done)
      split at hl <;> try (cases hl; done)
      rename_i hz hlt
      cases fuel with
      | zero => simp [DataW.trod] at h
      | succ fuel =>
        simp only [DataW.trod, hu] at h
        split at h <;> try (cases h; done)
        cases hm : (List.range m).mapM fun i => DataW.trod enc P w base spare held fuel e ((cs.drop (i * P.cellsOf e)).take (P.cellsOf e)) with
        | none => rw [hm] at h; cases h
        | some xs =>
          rw [hm] at h
          simp only [Option.map_some, Option.some.injEq, Prod.mk.injEq] at h
          obtain ⟨rfl, rfl⟩ := h
          obtain ⟨⟨d1, p1⟩, e1, e2⟩ := (mapM_get hm).2 (i / P.cellsOf e) (i / P.cellsOf e) (by simp [hlt])
          obtain ⟨v, fuel', d', p', g1, g2, g3⟩ := trod_leaf n e (i % P.cellsOf e) u fuel _ d1 p1 hl e1
          have hml := Nat.mod_lt i (Nat.pos_of_ne_zero hz)
          refine ⟨v, fuel', d', p', ?_, g2, fun k hk => ?_⟩
          · rw [List.getElem?_take, if_pos hml, List.getElem?_drop] at g1
            rw [← g1]; congr 1
            have := Nat.div_add_mod i (P.cellsOf e)
            rw [Nat.mul_comm] at this
            omega
          · simp only [DataW.weights, hu]
            exact weightsAll_mem (List.mem_map.2 ⟨_, List.mem_of_getElem? e2, rfl⟩) k (g3 k hk)
    · rename_i x h1 h2 hu
      split at hl <;> try (cases hl; done)
      rename_i hi
      cases hl
      subst hi
      obtain ⟨v, rfl⟩ := trod_one (fun fs hf => by rw [hu] at hf; cases hf; exact h1 _ rfl) (fun m e hf => by rw [hu] at hf; cases hf; exact h2 _ _ rfl) h
      exact ⟨v, fuel, d, p, rfl, h, fun _ hk => hk⟩
    · cases hl
theorem wf_rng {k : IntKind} {n : Int} (h : (Lit.int k n).wf = true) : rng k n := by
  simp only [Lit.wf, Bool.and_eq_true, decide_eq_true_eq] at h
  intro hs
  cases k <;> simp [IntKind.signed, IntKind.bits, IntKind.min, IntKind.max] at hs h ⊢ <;> omega
theorem trod_int {fuel : Nat} {u : TypeId} {k : IntKind} {v : Value} {d : DataW H} {p : List MemPlace} (hu : P.underlying u = some (.int k)) (h : DataW.trod enc P w base spare held fuel u [v] = some (d, p)) : ∃ n, v = .int k n ∧ rng k n := by
  cases fuel with
  | zero => simp [DataW.trod] at h
  | succ fuel =>
    cases v <;> simp [DataW.trod, hu] at h
    obtain ⟨⟨rfl, hw⟩, _⟩ := h
    exact ⟨_, rfl, wf_rng hw⟩
theorem trod_slice {fuel : Nat} {u e : TypeId} {v : Value} {d : DataW H} {p : List MemPlace} (hu : P.underlying u = some (.slice e)) (hz : 0 < P.cellsOf e) (h : DataW.trod enc P w base (fun _ => true) held fuel u [v] = some (d, p)) :
    (v = .slice none 0 0) ∨ ∃ a len cap, v = .slice (some a) len cap ∧ len ≤ cap ∧ cap * P.bytesOf e ∈ d.weights P u ∧ ∀ i, i < cap → a.spot = none ∧ ∃ arr el fz, w.heap[a.block]? = some (.cells arr el fz) ∧ a.off + (i + 1) * P.cellsOf e ≤ arr.size ∧
      ∃ cs, cs.length = P.cellsOf e ∧ (∀ j, j < P.cellsOf e → cs[j]? = arr[a.off + (i * P.cellsOf e + j)]?) ∧ ∃ fuel' d' p', DataW.trod enc P w base (fun _ => true) held fuel' e cs = some (d', p') := by
  cases fuel with
  | zero => simp [DataW.trod] at h
  | succ fuel =>
    cases v with
    | slice a len cap =>
      cases a with
      | none =>
        left
        unfold DataW.trod at h
        rw [hu] at h
        split at h <;> first
          | (rename_i h1 h2; cases h1; cases h2; rfl)
          | (rename_i h1 h2; cases h1; done)
          | (rename_i h1 h2; cases h2; done)
          | (cases h; done)
          | (rename_i h1; cases h1; done)
      | some a =>
        right
        simp only [DataW.trod, hu] at h
        split at h <;> try (cases h; done)
        rename_i hc
        obtain ⟨_, hlc, _⟩ := hc
        obtain ⟨el, hel⟩ : ∃ el : Nat → Option (DataW H × List MemPlace), ∀ i, (w.cells? base (a.add (i * P.cellsOf e)) (P.cellsOf e)).bind (DataW.trod enc P w base (fun _ => true) held fuel e) = el i := ⟨_, fun _ => rfl⟩
        simp only [hel] at h
        cases h1 : (List.range len).mapM (fun i => el i) with
        | none => rw [h1] at h; cases h
        | some elems =>
          rw [h1] at h
          simp only [Option.bind_some, if_true] at h
          cases h2 : (List.range (cap - len)).mapM fun j => el (len + j) with
          | none => rw [h2] at h; cases h
          | some rest =>
            rw [h2] at h
            simp only [Option.map_some, Option.some.injEq, Prod.mk.injEq] at h
            obtain ⟨rfl, _⟩ := h
            obtain ⟨l1, g1⟩ := mapM_get h1
            obtain ⟨l2, g2⟩ := mapM_get h2
            simp only [List.length_range] at l1 l2
            refine ⟨a, len, cap, rfl, hlc, ?_, fun i hi => ?_⟩
            · simp only [DataW.weights, hu, List.length_map, l1, l2]
              rw [show len + (cap - len) = cap by omega]
              simp
            · have key : ∀ i, i < cap → ∃ cs, cs.length = P.cellsOf e ∧ (∀ j, j < P.cellsOf e → ∃ x, w.cell? (a.add (i * P.cellsOf e + j)) = some x ∧ cs[j]? = some x) ∧ ∃ fuel' d' p', DataW.trod enc P w base (fun _ => true) held fuel' e cs = some (d', p') := by
                intro i hi
                have hsome : ∃ b, el i = some b := by
                  by_cases hlt : i < len
                  · obtain ⟨b, hb, _⟩ := g1 i i (by simp [hlt]); exact ⟨b, hb⟩
                  · obtain ⟨b, hb, _⟩ := g2 (i - len) (i - len) (by rw [List.getElem?_range (by omega)])
                    exact ⟨b, by rw [← hb]; congr 1; omega⟩
                obtain ⟨⟨d', p'⟩, hb⟩ := hsome
                rw [← hel] at hb
                cases hcs : w.cells? base (a.add (i * P.cellsOf e)) (P.cellsOf e) with
                | none => rw [hcs] at hb; cases hb
                | some cs =>
                  rw [hcs] at hb
                  simp only [Option.bind_some] at hb
                  unfold World.cells? at hcs
                  split at hcs <;> try (cases hcs; done)
                  obtain ⟨l3, g3⟩ := mapM_get hcs
                  simp only [List.length_range] at l3
                  refine ⟨cs, l3, fun j hj => ?_, fuel, d', p', hb⟩
                  obtain ⟨x, hx, hxs⟩ := g3 j j (by simp [hj])
                  refine ⟨x, ?_, hxs⟩
                  rw [← hx]
                  congr 1
                  unfold Addr.add
                  by_cases h0 : i * P.cellsOf e = 0 <;> by_cases hj0 : j = 0 <;> simp [h0, hj0] <;> omega
              have hspot : a.spot = none := by
                obtain ⟨_, _, hc, _⟩ := key 0 (by omega)
                obtain ⟨x, hx, _⟩ := hc 0 hz
                rw [Nat.zero_mul] at hx
                unfold World.cell? at hx
                have e0 : a.add (0 + 0) = a := by simp [Addr.add]
                rw [e0] at hx
                split at hx
                · split at hx
                  · cases hx
                  · rename_i hn; simpa using hn
                · cases hx
              obtain ⟨cs, l3, hc, ht⟩ := key i hi
              have hadd : ∀ m, a.add m = ⟨a.block, a.off + m, none⟩ := fun m => by
                unfold Addr.add
                split
                · rename_i h0; subst h0; cases a; simp only at hspot; subst hspot; rfl
                · rfl
              have hcell : ∀ j, j < P.cellsOf e → ∃ arr el fz, w.heap[a.block]? = some (.cells arr el fz) ∧ cs[j]? = arr[a.off + (i * P.cellsOf e + j)]? ∧ a.off + (i * P.cellsOf e + j) < arr.size := fun j hj => by
                obtain ⟨x, hx, hxs⟩ := hc j hj
                rw [hadd] at hx
                unfold World.cell? at hx
                simp only at hx
                split at hx
                · rename_i arr el fz hh
                  simp only [Option.isSome_none, Bool.false_eq_true, if_false] at hx
                  exact ⟨arr, el, fz, hh, hxs.trans hx.symm, (Array.getElem?_eq_some_iff.1 hx).1⟩
                · cases hx
              obtain ⟨arr, el', fz, hh, _, _⟩ := hcell 0 hz
              refine ⟨hspot, arr, el', fz, hh, ?_, cs, l3, fun j hj => ?_, ht⟩
              · obtain ⟨arr', _, _, hh', _, hlt⟩ := hcell (P.cellsOf e - 1) (by omega)
                rw [hh] at hh'
                cases hh'
                rw [Nat.add_mul]
                omega
              · obtain ⟨arr', _, _, hh', heq, _⟩ := hcell j hj
                rw [hh] at hh'
                cases hh'
                exact heq
    | _ => simp [DataW.trod, hu] at h
end
set_option maxRecDepth 100000
def inj0 : Inj := ⟨fun _ => none, fun _ => none⟩
def numOf : Option Value → Int
  | some (.int _ n) => n
  | _ => 0
def numsAt (g : Nat → Int) (o n : Nat) : List Int := (List.range n).map fun i => g (o + i)
theorem numsAt_len (g : Nat → Int) (o n : Nat) : (numsAt g o n).length = n := by simp [numsAt]
def Seen (w : World) (v : Value) (len e : Nat) (b : Blk) : Prop := ∃ q : Place, ∀ (ι' : Inj) n, ι' n = some q → VR ι' (.slice n 0 0 len e none) v ∧ BlkR ι' w n ⟨n, true, b⟩
section
variable {H : Type} {enc : TypeId × Value → H} {P : Program} {w : World} {base : Nat} {held : Bool}
def kindSk (j : Nat) : IntKind := if j = 32 then .u32 else .u8
def mkSk (g : Nat → Int) (o : Nat) : Sk := ⟨numsAt g o 32, g (o + 32), numsAt g (o + 33) 32⟩
theorem skR_cells (g : Nat → Int) (o : Nat) : cellsL (skR (mkSk g o)) = (List.range 65).map fun j => .int (kindSk j) (g (o + j)) := by kernel_rfl
theorem flat_get {α : Type} {f : α → List AV} {e : Nat} : ∀ {xs : List α} {q : Nat} {y : AV}, (∀ r ∈ xs, (f r).length = e) → (xs.flatMap f)[q]? = some y → ∃ (i j : Nat) (r : α), xs[i]? = some r ∧ j < e ∧ q = i * e + j ∧ (f r)[j]? = some y
  | [], q, y, _, h => by simp at h
  | x :: xs, q, y, he, h => by
    rw [List.flatMap_cons] at h
    have hx := he x (List.mem_cons_self ..)
    by_cases hq : q < (f x).length
    · rw [List.getElem?_append_left hq] at h
      exact ⟨0, q, x, rfl, by omega, by omega, h⟩
    · rw [List.getElem?_append_right (by omega)] at h
      obtain ⟨i, j, r, h1, h2, h3, h4⟩ := flat_get (fun r hr => he r (List.mem_cons_of_mem _ hr)) h
      exact ⟨i + 1, j, r, h1, h2, by rw [Nat.add_mul]; omega, h4⟩
structure SkT (P : Program) (e : TypeId) : Prop where
  cells : P.cellsOf e = 65
  leaf : ∀ j, j < 65 → ∃ u, leafAt P 8 e j = some u ∧ P.underlying u = some (.int (kindSk j))
theorem entry_sks {fuel : Nat} {u e : TypeId} {v : Value} {d : DataW H} {p : List MemPlace} (hu : P.underlying u = some (.slice e)) (he : SkT P e)
    (h : DataW.trod enc P w base (fun _ => true) held fuel u [v] = some (d, p)) : ∃ ss : List Sk, (∀ s ∈ ss, SkOk s) ∧ (ss.length = 0 ∨ ∃ cap, ss.length ≤ cap ∧ cap * P.bytesOf e ∈ d.weights P u) ∧ Seen w v ss.length 65 (.rows 65 ss.length (ss.map skR)) := by
  rcases trod_slice hu (by rw [he.cells]; omega) h with rfl | ⟨a, len, cap, rfl, hlc, hw, hcell⟩
  · refine ⟨[], by simp, .inl rfl, ?_⟩
    obtain ⟨q, hq, _⟩ := view_core (ι := inj0) (w := w) (a := none) (len := 0) (c := 0) (e := 65) (b := .rows 65 0 []) rfl (Nat.le_refl _) (by simp [Blk.Wf]) (by simp [Blk.cells]) (fun u hu => by simp [Blk.cells] at hu) (.inl rfl)
    exact ⟨q, fun ι' n hi => hq ι' n hi fun k f hk => by cases hk⟩
  · let g : Nat → Int := fun i => match w.heap[a.block]? with | some (.cells arr _ _) => numOf arr[a.off + i]? | _ => 0
    have key : ∀ i, i < cap → a.spot = none ∧ ∃ arr el fz, w.heap[a.block]? = some (.cells arr el fz) ∧ a.off + (i + 1) * 65 ≤ arr.size ∧ ∀ j, j < 65 → arr[a.off + (i * 65 + j)]? = some (.int (kindSk j) (g (i * 65 + j))) ∧ rng (kindSk j) (g (i * 65 + j)) := by
      intro i hi
      obtain ⟨h1, arr, el, fz, h2, h3, cs, h4, h5, fuel', d', p', h6⟩ := hcell i hi
      rw [he.cells] at h3 h4 h5
      refine ⟨h1, arr, el, fz, h2, h3, fun j hj => ?_⟩
      obtain ⟨u', hl, hk⟩ := he.leaf j hj
      obtain ⟨x, f2, d2, p2, hx, ht, _⟩ := trod_leaf 8 e j u' fuel' cs d' p' hl h6
      obtain ⟨n, rfl, hr⟩ := trod_int hk ht
      have h7 := h5 j hj
      rw [hx] at h7
      have hg : g (i * 65 + j) = n := by simp only [g, h2, ← h7, numOf]
      rw [hg]
      exact ⟨h7.symm, hr⟩
    have hok : ∀ i, i < cap → SkOk (mkSk g (i * 65)) := by
      intro i hi
      obtain ⟨_, arr, _, _, _, _, hj⟩ := key i hi
      refine ⟨numsAt_len .., numsAt_len .., fun x hx => ?_, ?_, fun x hx => ?_⟩
      · simp only [mkSk, numsAt, List.mem_map, List.mem_range] at hx
        obtain ⟨j, hj1, rfl⟩ := hx
        have := (hj j (by omega)).2
        simpa [kindSk, show j ≠ 32 by omega] using this
      · exact (hj 32 (by omega)).2
      · simp only [mkSk, numsAt, List.mem_map, List.mem_range] at hx
        obtain ⟨j, hj1, rfl⟩ := hx
        have := (hj (33 + j) (by omega)).2
        rw [show i * 65 + 33 + j = i * 65 + (33 + j) by omega]
        simpa [kindSk, show 33 + j ≠ 32 by omega] using this
    let ss := (List.range len).map fun i => mkSk g (i * 65)
    have hsl : ss.length = len := by simp [ss]
    have hss : ∀ s ∈ ss, ∃ i, i < len ∧ s = mkSk g (i * 65) := fun s hs => by
      simp only [ss, List.mem_map, List.mem_range] at hs
      obtain ⟨i, hi, rfl⟩ := hs
      exact ⟨i, hi, rfl⟩
    have hwf : ∀ r ∈ ss.map skR, RowWf 65 r := fun r hr => by
      obtain ⟨s, hs, rfl⟩ := List.mem_map.1 hr
      obtain ⟨i, hi, rfl⟩ := hss s hs
      refine ⟨fun t ht => ?_, by rw [skR_cells]; simp, rfl⟩
      simp only [skR, mkSk, List.mem_cons, List.not_mem_nil, or_false] at ht
      rcases ht with rfl | rfl | rfl
      · exact numsAt_len ..
      · trivial
      · exact numsAt_len ..
    refine ⟨ss, fun s hs => by obtain ⟨i, hi, rfl⟩ := hss s hs; exact hok i (by omega), .inr ⟨cap, by omega, hw⟩, ?_⟩
    obtain ⟨q, hq, _⟩ := view_core (ι := inj0) (w := w) (a := some a) (len := ss.length) (c := cap) (e := 65) (b := .rows 65 ss.length (ss.map skR)) (by rw [hsl]) (by omega) ⟨by simp, hwf⟩ (by
        show ((ss.map skR).flatMap cellsL).length = _
        rw [rows_len fun r hr => (hwf r hr).2.1]
        simp [esz])
      (fun u hu => by
        simp only [Blk.cells, List.mem_flatMap] at hu
        obtain ⟨r, hr, hu⟩ := hu
        obtain ⟨s, hs, rfl⟩ := List.mem_map.1 hr
        obtain ⟨i, hi, rfl⟩ := hss s hs
        rw [skR_cells] at hu
        simp only [List.mem_map] at hu
        obtain ⟨j, _, rfl⟩ := hu
        rfl) (by
        by_cases h0 : cap = 0
        · exact .inl h0
        · right
          obtain ⟨h1, arr, el, fz, h2, h3, _⟩ := key (cap - 1) (by omega)
          refine ⟨a.block, a.off, ?_, arr, el, fz, h2, by simp only [esz]; rw [if_neg (by omega)]; rw [show cap - 1 + 1 = cap by omega] at h3; exact h3, fun q y hq => ?_⟩
          · cases a; simp only at h1; subst h1; rfl
          · obtain ⟨i, j, r, g1, g2, g3, g4⟩ := flat_get (fun r hr => (hwf r hr).2.1) (show ((ss.map skR).flatMap cellsL)[q]? = some y from hq)
            rw [List.getElem?_map] at g1
            cases hsi : ss[i]? with
            | none => rw [hsi] at g1; cases g1
            | some s =>
              rw [hsi] at g1
              simp only [Option.map_some, Option.some.injEq] at g1
              subst g1
              have hil : i < len := by have := (List.getElem?_eq_some_iff.1 hsi).1; omega
              have hs : s = mkSk g (i * 65) := by
                simp only [ss, List.getElem?_map, List.getElem?_range hil, Option.map_some, Option.some.injEq] at hsi
                exact hsi.symm
              subst hs
              rw [skR_cells, List.getElem?_map, List.getElem?_range g2] at g4
              simp only [Option.map_some, Option.some.injEq] at g4
              subst g4
              obtain ⟨_, arr', _, _, h2', _, h4⟩ := key i (by omega)
              rw [h2] at h2'
              cases h2'
              subst g3
              exact ⟨_, (h4 j g2).1, rfl, (h4 j g2).2⟩)
    exact ⟨q, fun ι' n hi => hq ι' n hi fun k f hk => by cases hk⟩
def kindRat (j : Nat) : IntKind := if j < 160 then .u8 else .u32
def mkRat (g : Nat → Int) : Rat := ⟨numsAt g 0 32, numsAt g 32 32, numsAt g 64 32, numsAt g 96 32, numsAt g 128 32, g 160, g 161, g 162⟩
theorem ratR_cells (g : Nat → Int) (n len : Nat) : cellsL ((mkRat g).segs (.slice n 0 0 len 65 none)) = (List.range 164).map fun j => if j < 163 then .int (kindRat j) (g (0 + j)) else .slice n 0 0 len 65 none := by kernel_rfl
structure RatT (P : Program) (t : TypeId) : Prop where
  agg : ∃ fs, P.underlying t = some (.struct fs)
  cells : P.cellsOf t = 164
  leaf : ∀ j, j < 163 → ∃ u, leafAt P 8 t j = some u ∧ P.underlying u = some (.int (kindRat j))
  sks : ∃ u e, leafAt P 8 t 163 = some u ∧ P.underlying u = some (.slice e) ∧ SkT P e ∧ 0 < P.bytesOf e
theorem numsAt_rng {g : Nat → Int} {k : IntKind} {o n : Nat} (h : ∀ j, j < n → rng k (g (o + j))) : ∀ x ∈ numsAt g o n, rng k x := fun x hx => by
  simp only [numsAt, List.mem_map, List.mem_range] at hx
  obtain ⟨j, hj, rfl⟩ := hx
  exact h j hj
theorem entry_rat {r : Reach} {b0 : Nat} {t : TypeId} {v : Value} {d : DataW H} {p : List MemPlace} (ht : RatT P t) (hval : Value.okWide P w r b0 t v) (h : DataW.Trod enc P w base (fun _ => true) held t v d p) :
    ∃ (q : Rat) (ss : List Sk) (x : Value), RatOk q ∧ (∀ s ∈ ss, SkOk s) ∧ (ss.length = 0 ∨ ∃ n, ss.length ≤ n ∧ n ∈ d.weights P t) ∧ Seen w x ss.length 65 (.rows 65 ss.length (ss.map skR)) ∧
      ∀ (ι : Inj) n, VR ι (.slice n 0 0 ss.length 65 none) x → VR ι (.agg (q.segs (.slice n 0 0 ss.length 65 none))) v := by
  obtain ⟨⟨fs, hfs⟩, hcells, hleaf, u, e, hl, hue, hsk, hpos⟩ := ht
  obtain ⟨cs, rfl, hsz⟩ : ∃ cs, v = .agg cs ∧ cs.size = 164 := by
    unfold Value.okWide at hval
    rw [hfs] at hval
    obtain ⟨cs, h1, h2, _⟩ := hval
    exact ⟨cs, h1, by rw [h2, hcells]⟩
  obtain ⟨fuel, hf⟩ := h
  have hcs : (Value.agg cs).cells.toList = cs.toList := rfl
  rw [hcs] at hf
  let g : Nat → Int := fun i => numOf cs.toList[i]?
  have key : ∀ j, j < 163 → cs.toList[j]? = some (.int (kindRat j) (g j)) ∧ rng (kindRat j) (g j) := fun j hj => by
    obtain ⟨u', h1, h2⟩ := hleaf j hj
    obtain ⟨x, f2, d2, p2, hx, h3, _⟩ := trod_leaf 8 t j u' fuel cs.toList d p h1 hf
    obtain ⟨n, rfl, hr⟩ := trod_int h2 h3
    have hg : g j = n := by simp only [g, hx, numOf]
    rw [hg]
    exact ⟨hx, hr⟩
  obtain ⟨x, f2, d2, p2, hx, h3, hw⟩ := trod_leaf 8 t 163 u fuel cs.toList d p hl hf
  obtain ⟨ss, k1, k2, k3⟩ := entry_sks hue hsk h3
  have r8 : ∀ o, o + 32 ≤ 160 → ∀ x ∈ numsAt g o 32, rng .u8 x := fun o ho => numsAt_rng fun j hj => by
    have := (key (o + j) (by omega)).2
    simpa [kindRat, show o + j < 160 by omega] using this
  refine ⟨mkRat g, ss, x, ⟨numsAt_len .., numsAt_len .., numsAt_len .., numsAt_len .., numsAt_len .., r8 0 (by omega), r8 32 (by omega), r8 64 (by omega), r8 96 (by omega), r8 128 (by omega), (key 160 (by omega)).2, (key 161 (by omega)).2, (key 162 (by omega)).2⟩, k1, ?_, k3, fun ι n hn => ?_⟩
  · rcases k2 with k2 | ⟨cap, k2, k4⟩
    · exact .inl k2
    · refine .inr ⟨_, ?_, hw _ k4⟩
      exact Nat.le_trans k2 (Nat.le_mul_of_pos_right _ hpos)
  · refine ⟨cs, rfl, fun s hs => ?_, ?_, fun i y hy => ?_⟩
    · simp only [Rat.segs, mkRat, List.mem_cons, List.not_mem_nil, or_false] at hs
      rcases hs with rfl | rfl | rfl | rfl | rfl | rfl | rfl | rfl | rfl <;> first | exact numsAt_len .. | trivial
    · rw [ratR_cells]; simp [hsz]
    · rw [ratR_cells] at hy
      have hi : i < 164 := by
        have := (List.getElem?_eq_some_iff.1 hy).1
        simpa using this
      rw [List.getElem?_map, List.getElem?_range hi] at hy
      simp only [Option.map_some, Option.some.injEq, Nat.zero_add] at hy
      subst hy
      split
      · rename_i hlt
        exact ⟨_, (key i hlt).1, rfl, (key i hlt).2⟩
      · obtain rfl : i = 163 := by omega
        exact ⟨x, hx, hn⟩
end
open Go.RowKit
theorem law_calls {P : Program} {Γ : Env} (hΓ : EnvOk P Γ) (hm : P.follows .mixedOrders = true) {f : FuncId} {fn : Func} {af : AFn} (hf : P.funcs[f]? = some fn) (hl : lowFn P 16 fn af = true) {args : List AV} {h : Heap} {ι : Inj} {w : World} {vs : Array Value}
    (hk : evFn Γ af args h kV = some (.bool true, ⟨0, []⟩)) (hro : ∀ id c, h.get id = some c → c.ro = true) (R : HRel ι h w) (hn : 16 ≤ h.next) (hfr : Fresh ι h.next) (ha : VRL ι args vs.toList) :
    Calls P f vs w fun e w' => e = .returned (.bool true) ∧ Below w.heap.size w w' := by
  have hF : Factor fun args h κ => evFn Γ af args h κ := Det.factor fun args h => evFn_det hΓ af args h
  have h4 := hF args h kV
  simp only at h4
  rw [h4] at hk
  cases hr : evFn Γ af args h kH with
  | none => rw [hr] at hk; cases hk
  | some q =>
    obtain ⟨v, h'⟩ := q
    rw [hr] at hk
    simp only [Option.bind_some, kV, Option.some.injEq, Prod.mk.injEq, and_true] at hk
    subst hk
    have hc := evFn_sound hΓ hm hf hl hr R hfr hn ha
    have hno : ∀ k, ¬ Own ι h k := by
      rintro k ⟨id, c, p, hg, hr, _⟩
      rw [hro id c hg] at hr
      cases hr
    have he : (callFunc f vs).run P w = .ok (.enter f vs) w := by
      simp only [lowFn, Bool.and_eq_true, beq_iff_eq, bne_iff_ne] at hl
      obtain ⟨⟨⟨hname, hnt⟩, hres⟩, hb⟩ := hl
      split at hb <;> try (cases hb; done)
      rename_i c hbody
      simp [callFunc, hf, hname, hbody]
    rcases hc with ⟨v, w', e, _⟩ | ⟨_, hc⟩
    · rw [he] at e; cases e
    · refine hc.mono fun e w' hx => ?_
      obtain ⟨x, rfl, ι', hv, _, S, _⟩ := hx
      have : x = .bool true := hv
      subst this
      exact ⟨rfl, S.os, S.tape, S.output, S.size, fun k hk => S.frame k hk (hno k)⟩
theorem VRL.two {ι : Inj} {a b : AV} {x y : Value} (h : VR ι a x) (k : VR ι b y) : VRL ι [a, b] [x, y] := by
  refine ⟨rfl, fun i u hu => ?_⟩
  cases i with
  | zero => simp only [List.getElem?_cons_zero, Option.some.injEq] at hu; subst hu; exact ⟨x, rfl, h⟩
  | succ i => cases i with
    | zero => simp only [List.getElem?_cons_succ, List.getElem?_cons_zero, Option.some.injEq] at hu; subst hu; exact ⟨y, rfl, k⟩
    | succ i => simp at hu
open Go.RowKit
set_option linter.unusedSimpArgs false
section
variable {H : Type} {enc : TypeId × Value → H} {P : Program} {w : World} {base : Nat} {held : Bool}
end
theorem seen1 {w : World} {v0 : Value} {l0 e0 : Nat} {b0 : Blk} (h0 : Seen w v0 l0 e0 b0) : ∃ ι : Inj, HRel ι ⟨16, [⟨0, true, b0⟩]⟩ w ∧ Fresh ι 16 ∧ VR ι (.slice 0 0 0 l0 e0 none) v0 := by
  obtain ⟨q0, h0⟩ := h0
  let ι : Inj := ⟨fun i => if i = 0 then some q0 else none, fun _ => none⟩
  obtain ⟨v0', b0'⟩ := h0 ι 0 rfl
  have get : ∀ id c, (Heap.mk 16 [(⟨0, true, b0⟩ : Cell)]).get id = some c → id = 0 ∧ c = ⟨0, true, b0⟩ := by
    intro id c hg
    simp only [Heap.get, findB] at hg
    split at hg
    · rename_i e; cases hg; exact ⟨e.symm, rfl⟩
    · cases hg
  refine ⟨ι, ⟨fun id c hg => ?_, fun k f hk => (by cases hk), fun id1 c1' p1 id2 c2' p2 g1 g2 hne hro => ?_⟩, fun id hid => ?_, v0'⟩
  · obtain ⟨rfl, rfl⟩ := get id c hg; exact b0'
  · obtain ⟨rfl, rfl⟩ := get id1 c1' g1; cases hro
  · simp only [ι]; rw [if_neg (by omega)]
end Go.Am
