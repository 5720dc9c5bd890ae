/- RatchetKept: part 36 of 39 of its proof. -/
import Derived.Test.YtmkefajojokkfaaK34
import Derived.Test.YtmkefajojokkfaaK33
import Derived.Test.YtmkefajojokkfaaK20
import Derived.Test.YtmkefajojokkfaaK29
set_option linter.unusedVariables false
set_option linter.unusedSimpArgs false
/- aead: Seal, Open. -/
namespace Go.Am
set_option linter.unusedSimpArgs false
set_option maxRecDepth 100000
abbrev F3 := List Int → List Int → List Int → List Int
abbrev F4 := List Int → List Int → List Int → List Int → List Int
def Ag2 : Env := envAdd id_octet_Equal (.pure bytesEqO) (envAdd id_chacha_Xor (.pure (xorV xorB)) (envAdd id_aead_Tag (.pure (aTagV aTagB)) G10))
def Ag2V (X : F3) (T : F4) : Env := envAdd id_octet_Equal (.pure bytesEqO) (envAdd id_chacha_Xor (.pure (xorV X)) (envAdd id_aead_Tag (.pure (aTagV T)) G10))
def sealF (X : F3) (T : F4) (k n a c : List Int) : List Int := fixL 49 (X k n c) ++ fixL 16 (T k n a (fixL 49 (X k n c)))
theorem aseal_run (X : F3) (T : F4) (nid : Nat) (f g a c : Nat → Int) : evFn (Ag2V X T) af_aead_Seal [.agg [.ints .u8 32 (tab 32 f)], .agg [.ints .u8 12 (tab 12 g)], slB 0 40, slB 1 49] (adH (tab 40 a) (tab 49 c) 49) (kOut (some (.ints .u8)) nid) =
    some (.slice nid 0 0 65 0 none, encB nid (some (.segs [.ints .u8 65 (sealF X T (tab 32 f) (tab 12 g) (tab 40 a) (tab 49 c))]))) := by kernel_rfl
def aSealV (S : F4) : OrcP := fun nid args h => match args with
  | [.agg [.ints .u8 32 k], .agg [.ints .u8 12 n], x, y] => withBs h x fun a => withBs h y fun c => if a.length = 40 ∧ c.length = 49 then some (.slice nid 0 0 65 0 none, some (.segs [.ints .u8 65 (fixL 65 (S k n a c))])) else none
  | _ => none
def sealB : F4 := sealF xorB aTagB
theorem sealF_len (X : F3) (T : F4) (k n a c : List Int) : (sealF X T k n a c).length = 65 := by simp [sealF, fixL_len]
theorem aSeal_pure {P : Program} {f : FuncId} (F : Fn P f Ag2 af_aead_Seal) : PureOk P f (aSealV sealB) := by
  refine F.lit [.plain, .plain, .sl (.ints .u8), .sl (.ints .u8)] (some (.ints .u8)) fun nid args hp r ha hr => ?_
  unfold aSealV at hr
  split at hr <;> try (cases hr; done)
  rename_i k n x y
  obtain ⟨a, hc, hl, hr1⟩ := withBs_eq hr
  obtain ⟨c, hc', hl', hr2⟩ := withBs_eq hr1
  split at hr2 <;> try (cases hr2; done)
  rename_i hn
  obtain ⟨h1, h2⟩ := hn
  cases hr2
  obtain ⟨⟨⟨q1, _⟩, _⟩, ⟨⟨q2, _⟩, _⟩, _⟩ := ha.ok
  refine ⟨_, _, by simp only [viewArgs, contI_isSl hc, contI_isSl hc', if_true, viewS_ints hc, viewS_ints hc', Option.bind_some, Option.map_some]; rfl, by simp, ?_⟩
  rw [h1, h2]
  rw [fixL_eq (l := sealB k n a c) (sealF_len ..)]
  obtain ⟨a, rfl⟩ := tab_of h1
  obtain ⟨c, rfl⟩ := tab_of h2
  obtain ⟨k, rfl⟩ := tab_of q1
  obtain ⟨n, rfl⟩ := tab_of q2
  exact aseal_run xorB aTagB nid k n a c
/-! ## Open -/
def okTag (T : F4) (k n a s : List Int) : Bool := fixL 16 (T k n a (s.take 49)) == s.drop 49
theorem aopen_run (X : F3) (T : F4) (nid : Nat) (f g a s : Nat → Int) : evFn (Ag2V X T) af_aead_Open [.agg [.ints .u8 32 (tab 32 f)], .agg [.ints .u8 12 (tab 12 g)], slB 0 40, slB 1 65] (adH (tab 40 a) (tab 65 s) 65) (kOut none nid) =
    bif !(okTag T (tab 32 f) (tab 12 g) (tab 40 a) (tab 65 s)) then some (.tuple [.nils, .int .i64 180], ⟨0, []⟩) else some (.tuple [.isl .u8 (fixL 49 (X (tab 32 f) (tab 12 g) ((tab 65 s).take 49))), .int .i64 0], ⟨0, []⟩) := by kernel_rfl
def aOpenW (X : F3) (B : List Int → List Int → List Int → List Int → Bool) (k n a s : List Int) : AV := bif !(B k n a s) then .tuple [.nils, .int .i64 180] else .tuple [.isl .u8 (fixL 49 (X k n (s.take 49))), .int .i64 0]
def aOpenO (X : F3) (B : List Int → List Int → List Int → List Int → Bool) : OrcP := fun _ args h => match args with
  | [.agg [.ints .u8 32 k], .agg [.ints .u8 12 n], x, y] => withBs h x fun a => withBs h y fun s => if a.length = 40 ∧ s.length = 65 then some (aOpenW X B k n a s, none) else none
  | _ => none
theorem aOpen_pure {P : Program} {f : FuncId} (F : Fn P f Ag2 af_aead_Open) : PureOk P f (aOpenO xorB (okTag aTagB)) := by
  refine F.lit [.plain, .plain, .sl (.ints .u8), .sl (.ints .u8)] none fun nid args hp r ha hr => ?_
  unfold aOpenO at hr
  split at hr <;> try (cases hr; done)
  rename_i k n x y
  obtain ⟨a, hc, hl, hr1⟩ := withBs_eq hr
  obtain ⟨c, hc', hl', hr2⟩ := withBs_eq hr1
  split at hr2 <;> try (cases hr2; done)
  rename_i hn
  obtain ⟨h1, h2⟩ := hn
  cases hr2
  obtain ⟨⟨⟨q1, _⟩, _⟩, ⟨⟨q2, _⟩, _⟩, _⟩ := ha.ok
  refine ⟨_, _, by simp only [viewArgs, contI_isSl hc, contI_isSl hc', if_true, viewS_ints hc, viewS_ints hc', Option.bind_some, Option.map_some]; rfl, by simp, ?_⟩
  rw [h1, h2]
  obtain ⟨a, rfl⟩ := tab_of h1
  obtain ⟨c, rfl⟩ := tab_of h2
  obtain ⟨k, rfl⟩ := tab_of q1
  obtain ⟨n, rfl⟩ := tab_of q2
  refine (aopen_run xorB aTagB nid k n a c).trans ?_
  unfold aOpenW
  cases okTag aTagB (tab 32 k) (tab 12 n) (tab 40 a) (tab 65 c)
  · rfl
  · rfl
def aOpenV (X : F3) (B : List Int → List Int → List Int → List Int → Bool) : OrcF := fun args h κ => match args with
  | [.agg [.ints .u8 32 k], .agg [.ints .u8 12 n], x, y] => withBs h x fun a => withBs h y fun s => if a.length = 40 ∧ s.length = 65 then
      (bif !(B k n a s) then κ (.tuple [.nils, .int .i64 180]) h else κ (.tuple [.isl .u8 (fixL 49 (X k n (s.take 49))), .int .i64 0]) h) else none
  | _ => none
theorem aOpen_full {P : Program} {f : FuncId} {X : F3} {B : List Int → List Int → List Int → List Int → Bool} (h : PureOk P f (aOpenO X B)) : FullOk P f (aOpenV X B) := by
  refine pure_full h fun args hp κ => ?_
  have e : ∀ k n a s, (bif !(B k n a s) then κ (.tuple [.nils, .int .i64 180]) hp else κ (.tuple [.isl .u8 (fixL 49 (X k n (s.take 49))), .int .i64 0]) hp) = κ (aOpenW X B k n a s) hp := fun k n a s => by
    unfold aOpenW
    cases B k n a s <;> rfl
  unfold aOpenV aOpenO
  split
  · simp only [withBs_map, e]
    congr 1
    funext a
    congr 1
    funext s
    split <;> rfl
  · first
    | rfl
    | (rename_i hx
       split
       · exact (hx _ _ _ _ rfl).elim
       · rfl)
end Go.Am
/- ratchet: read, open, text. -/
namespace Go.Am
set_option linter.unusedSimpArgs false
set_option maxRecDepth 100000
def Rd0 : Env := envAdd id_octet_Zero (.full zeroC) G10
def rdNo : Option Res := some (.tuple [.str ⟨#[]⟩, .bool false], ⟨0, []⟩)
def rdP (x : Int) : Int := w63 (1 + w63 x)
def rdL (x : Int) (l : List Int) : List Int := (l.drop (0 + (rdP x).toNat)).take (49 - (rdP x).toNat)
def rdS (x : Int) (l : List Int) : ByteArray := strOf ((l.drop (0 + Int.toNat 1)).take ((rdP x).toNat - Int.toNat 1))
def rdG (x : Int) (k : Option Res) : Option Res := if 0 ≤ rdP x ∧ rdP x ≤ ((49 : Nat) : Int) then k else none
theorem read_run1 (nid : Nat) (f : Nat → Int) : evFn Rd0 af_ratchet_read [slB 0 49] ⟨16, [roC 0 (.segs [.ints .u8 49 (tab 49 f)])]⟩ (kOut none nid) =
    bif decide (w63 (f 0) < 1) then rdNo else bif decide (w63 (f 0) > 48) then rdNo else rdG (f 0) (if (rdL (f 0) (tab 49 f)).length ≤ 140737488351232 then (bif !(orA (rdL (f 0) (tab 49 f)) 0 == 0) then rdNo else
      rdG (f 0) (if (0 : Int) ≤ 1 ∧ 1 ≤ (((rdP (f 0)).toNat : Nat) : Int) then some (.tuple [.str (rdS (f 0) (tab 49 f)), .bool true], ⟨0, []⟩) else none)) else none) := by kernel_rfl
def rdOk (l : List Int) : Bool := bif decide (w63 (l.getD 0 0) < 1) then false else bif decide (w63 (l.getD 0 0) > 48) then false else orA (rdL (l.getD 0 0) l) 0 == 0
def rdT (l : List Int) : ByteArray := bif rdOk l then rdS (l.getD 0 0) l else ⟨#[]⟩
theorem read_run (nid : Nat) (f : Nat → Int) (hr : ∀ x ∈ tab 49 f, rng .u8 x) : evFn Rd0 af_ratchet_read [slB 0 49] ⟨16, [roC 0 (.segs [.ints .u8 49 (tab 49 f)])]⟩ (kOut none nid) = some (.tuple [.str (rdT (tab 49 f)), .bool (rdOk (tab 49 f))], ⟨0, []⟩) := by
  refine (read_run1 nid f).trans ?_
  have e0 : (tab 49 f).getD 0 0 = f 0 := rfl
  obtain ⟨x, hx, e1⟩ := rng8 (hr (f 0) (List.mem_cons_self ..))
  have e2 : w63 (f 0) = (x : Int) := by rw [e1]; exact w63_of (by omega) (by omega)
  unfold rdT rdOk
  rw [e0]
  cases h1 : decide (w63 (f 0) < 1)
  · cases h2 : decide (w63 (f 0) > 48)
    · simp only [cond_false]
      have h1' : 1 ≤ x := by have := of_decide_eq_false h1; omega
      have h2' : x ≤ 48 := by have := of_decide_eq_false h2; omega
      have e3 : rdP (f 0) = ((1 + x : Nat) : Int) := by unfold rdP; rw [e2, w63_of (by omega) (by omega)]; omega
      rw [rdG, e3, if_pos (by omega), if_pos (by rw [rdL, List.length_take]; omega)]
      cases orA (rdL (f 0) (tab 49 f)) 0 == 0
      · rfl
      · simp only [Bool.not_true, cond_false, cond_true]
        rw [rdG, e3, if_pos (by omega), if_pos (by omega)]
    · rfl
  · rfl
def readKO : OrcP := fun _ args h => match args with
  | [s] => withBs h s fun l => if l.length = 49 then some (.tuple [.str (rdT l), .bool (rdOk l)], none) else none
  | _ => none
theorem readK_pure {P : Program} {f : FuncId} (F : Fn P f Rd0 af_ratchet_read) : PureOk P f readKO := by
  refine F.lit [.sl (.ints .u8)] none fun nid args hp r ha hr => ?_
  unfold readKO at hr
  split at hr <;> try (cases hr; done)
  rename_i s
  obtain ⟨l, hc, hl, hr1⟩ := withBs_eq hr
  split at hr1 <;> try (cases hr1; done)
  rename_i h49
  cases hr1
  have hrng := ha.ints s (by simp) _ _ hc
  refine ⟨_, _, by simp only [viewArgs, contI_isSl hc, if_true, viewS_ints hc, Option.bind_some, Option.map_some]; rfl, by simp, ?_⟩
  rw [h49]
  obtain ⟨g, rfl⟩ := tab_of h49
  exact read_run nid g hrng
/-- read, with functions that are not looked into. -/
def readV (T : List Int → ByteArray) (B : List Int → Bool) : OrcP := fun _ args h => match args with
  | [s] => withBs h s fun l => if l.length = 49 then some (.tuple [.str (T l), .bool (B l)], none) else none
  | _ => none
theorem readV_pure {P : Program} {f : FuncId} (h : PureOk P f readKO) : PureOk P f (readV rdT rdOk) := h
/-! ## open -/
def nz12 : List Int := List.replicate 12 0
def cntO : OrcP := fun _ args _ => match args with
  | [.int .u64 0] => some (.agg [.ints .u8 12 nz12], none)
  | _ => none
theorem cnt_pure {P : Program} {f : FuncId} (F : Fn P f X_octet_Put64 af_aead_Count) : PureOk P f cntO := by
  refine F.plain fun nid args hp r ha hr => ?_
  unfold cntO at hr
  split at hr <;> try (cases hr; done)
  cases hr
  exact ⟨rfl, rfl, rfl, by kernel_rfl⟩
def Op0 : Env := envAdd id_aead_Open (.full (aOpenV xorB (okTag aTagB))) (envAdd id_ratchet_read (.pure (readV rdT rdOk)) (envAdd id_frame_PutHeader (.pure hdrO) (envAdd id_aead_Count (.pure cntO) G10)))
abbrev FB4 := List Int → List Int → List Int → List Int → Bool
def Op0V (X : F3) (B : FB4) (T : List Int → ByteArray) (R : List Int → Bool) : Env := envAdd id_aead_Open (.full (aOpenV X B)) (envAdd id_ratchet_read (.pure (readV T R)) (envAdd id_frame_PutHeader (.pure hdrO) (envAdd id_aead_Count (.pure cntO) G10)))
structure Msg where
  key : List Int
  prev : Int
  num : Int
  body : List Int
def Msg.segs (m : Msg) : List AV := [.ints .u8 32 m.key, .int .u32 m.prev, .int .u32 m.num, .ints .u8 65 m.body]
def opOk (B : FB4) (k : List Int) (m : Msg) : Bool := B k nz12 (hdrB (fixL 32 m.key) m.prev m.num) m.body
def opX (X : F3) (k : List Int) (m : Msg) : List Int := fixL 49 (X k nz12 (m.body.take 49))
theorem openK_run1 (X : F3) (B : FB4) (T : List Int → ByteArray) (R : List Int → Bool) (nid : Nat) (f g s : Nat → Int) (p n : Int) : evFn (Op0V X B T R) af_ratchet_open [.agg [.ints .u8 32 (tab 32 f)], .agg (Msg.segs ⟨tab 32 g, p, n, tab 65 s⟩)] ⟨16, []⟩ (kOut none nid) =
    bif !(opOk B (tab 32 f) ⟨tab 32 g, p, n, tab 65 s⟩) then rdNo else some (.tuple [.str (T (opX X (tab 32 f) ⟨tab 32 g, p, n, tab 65 s⟩)), .bool (R (opX X (tab 32 f) ⟨tab 32 g, p, n, tab 65 s⟩))], ⟨0, []⟩) := by kernel_rfl
def opB (X : F3) (B : FB4) (R : List Int → Bool) (k : List Int) (m : Msg) : Bool := bif opOk B k m then R (opX X k m) else false
def opT (X : F3) (B : FB4) (T : List Int → ByteArray) (k : List Int) (m : Msg) : ByteArray := bif opOk B k m then T (opX X k m) else ⟨#[]⟩
/-- open, with functions that are not looked into. -/
def openKV (T : List Int → Msg → ByteArray) (B : List Int → Msg → Bool) : OrcP := fun _ args _ => match args with
  | [.agg [.ints .u8 32 k], .agg [.ints .u8 32 a, .int .u32 p, .int .u32 n, .ints .u8 65 b]] => some (.tuple [.str (T k ⟨a, p, n, b⟩), .bool (B k ⟨a, p, n, b⟩)], none)
  | _ => none
def okT : List Int → Msg → ByteArray := opT xorB (okTag aTagB) rdT
def okB : List Int → Msg → Bool := opB xorB (okTag aTagB) rdOk
theorem openK_val (X : F3) (B : FB4) (T : List Int → ByteArray) (R : List Int → Bool) (nid : Nat) (k : List Int) (m : Msg) : (bif !(opOk B k m) then rdNo else some (.tuple [.str (T (opX X k m)), .bool (R (opX X k m))], ⟨0, []⟩)) =
    some (.tuple [.str (opT X B T k m), .bool (opB X B R k m)], encB nid none) := by
  unfold opT opB
  cases opOk B k m <;> rfl
theorem openK_pure {P : Program} {f : FuncId} (F : Fn P f (Op0V xorB (okTag aTagB) rdT rdOk) af_ratchet_open) : PureOk P f (openKV okT okB) := by
  refine F.lit [.plain, .plain] none fun nid args hp r ha hr => ?_
  unfold openKV at hr
  split at hr <;> try (cases hr; done)
  rename_i k a p n b
  cases hr
  obtain ⟨⟨⟨h1, _⟩, _⟩, ⟨⟨h2, _⟩, _, _, ⟨h3, _⟩, _⟩, _⟩ := ha.ok
  refine ⟨_, [], by simp only [viewArgs, avIds, avIds.avIdsL, List.append_nil, List.isEmpty_nil, if_true, Option.map_some]; rfl, by simp, ?_⟩
  obtain ⟨k, rfl⟩ := tab_of h1
  obtain ⟨a, rfl⟩ := tab_of h2
  obtain ⟨b, rfl⟩ := tab_of h3
  have e := openK_run1 xorB (okTag aTagB) rdT rdOk nid k a b p n
  refine e.trans ?_
  exact openK_val xorB (okTag aTagB) rdT rdOk nid _ _
/-! ## text -/
def txtB (s : ByteArray) : List Int := splice (List.set (List.replicate 49 0) 0 (w8 s.size)) 1 ((bytesOf s).take (min s.size 48))
theorem text_run (nid : Nat) (s : ByteArray) : evFn G10 af_ratchet_text [.str s] ⟨16, []⟩ (kOut (some (.ints .u8)) nid) = some (.slice nid 0 0 49 0 (some 49), encB nid (some (.segs [.ints .u8 49 (txtB s)]))) := by kernel_rfl
theorem bytesOf_len (s : ByteArray) : (bytesOf s).length = s.size := by simp [bytesOf]
theorem txtB_len (s : ByteArray) : (txtB s).length = 49 := by
  simp only [txtB, splice, List.length_append, List.length_take, List.length_drop, List.length_set, List.length_replicate, bytesOf_len]
  omega
def textO : OrcP := fun nid args _ => match args with
  | [.str s] => some (.slice nid 0 0 49 0 (some 49), some (.segs [.ints .u8 49 (fixL 49 (txtB s))]))
  | _ => none
theorem text_pure {P : Program} {f : FuncId} (F : Fn P f G10 af_ratchet_text) : PureOk P f textO := by
  refine F.lit [.plain] (some (.ints .u8)) fun nid args hp r ha hr => ?_
  unfold textO at hr
  split at hr <;> try (cases hr; done)
  rename_i s
  cases hr
  refine ⟨_, [], by simp only [viewArgs, avIds, List.isEmpty_nil, if_true, Option.map_some]; rfl, by simp, ?_⟩
  rw [fixL_eq (txtB_len s)]
  exact text_run nid s
end Go.Am
/- ratchet: over. -/
namespace Go.Am
set_option linter.unusedSimpArgs false
set_option maxRecDepth 100000
def hz32 : List Int := List.replicate 32 0
def noneKO : OrcP := fun _ args _ => match args with
  | [] => some (.agg [.ints .u8 32 hz32], none)
  | _ => none
theorem none_pure {P : Program} {f : FuncId} {Γ : Env} (F : Fn P f Γ af_ratchet_none) : PureOk P f noneKO := by
  refine F.plain fun nid args hp r ha hr => ?_
  unfold noneKO at hr
  split at hr <;> try (cases hr; done)
  cases hr
  exact ⟨rfl, rfl, rfl, by kernel_rfl⟩
def Ov0 : Env := envAdd id_ratchet_none (.pure noneKO) G10
def u32w (n : Int) : Int := IntKind.u32.wrap n
def overI (r : Rat) (n : Nat) (hk : List Int) (hp hn : Int) : Int :=
  bif !((hk == r.peer) && true) then (bif !((r.recv == hz32) && true) then (bif decide (hp > r.got) then w63 (w63 ((n : Int) + w63 (u32w (hp - r.got))) + w63 hn) else w63 ((n : Int) + w63 hn)) else w63 ((n : Int) + w63 hn))
  else w63 ((n : Int) + w63 (u32w (hn - r.got)))
theorem over_run (nid : Nat) (r : Rat) (n m : Nat) (xs : List (List AV)) (hk : List Int) (hp hn : Int) :
    evFn Ov0 af_ratchet_over [.agg (r.segs (ckS n)), .agg [.ints .u8 32 hk, .int .u32 hp, .int .u32 hn]] ⟨16, [roC 0 (.rows 65 m xs)]⟩ (kOut none nid) =
    bif !((hk == r.peer) && true) then (bif !((r.recv == hz32) && true) then (bif decide (hp > r.got) then err (w63 (w63 ((n : Int) + w63 (u32w (hp - r.got))) + w63 hn)) else err (w63 ((n : Int) + w63 hn))) else err (w63 ((n : Int) + w63 hn)))
    else err (w63 ((n : Int) + w63 (u32w (hn - r.got)))) := by kernel_rfl
def overO : OrcP := fun _ args h => match args with
  | [v, .agg [.ints .u8 32 hk, .int .u32 hp, .int .u32 hn]] => withRat v fun r l => withSks h l fun ss => some (.int .i64 (overI r ss.length hk hp hn), none)
  | _ => none
theorem over_pure {P : Program} {f : FuncId} (F : Fn P f Ov0 af_ratchet_over) : PureOk P f overO := by
  refine F.lit [.agg [.rows 65], .plain] none fun nid args hp r ha hr => ?_
  unfold overO at hr
  split at hr <;> try (cases hr; done)
  rename_i v hk hp' hn
  obtain ⟨q, l, rfl, hr⟩ := withRat_eq hr
  obtain ⟨ss, hc, hl, hr⟩ := withSks_eq hr
  cases hr
  refine ⟨_, _, by simp only [viewArgs, check_view hc, Option.bind_some, Option.map_some, List.append_nil, avIds, avIds.avIdsL, List.isEmpty_nil, if_true]; rfl, by simp, ?_⟩
  refine (over_run nid q ss.length _ _ hk hp' hn).trans ?_
  unfold overI
  cases (hk == q.peer) && true <;> cases (q.recv == hz32) && true <;> cases decide (hp' > q.got) <;> rfl
def overC : OrcF := fun args h κ => match args with
  | [v, .agg [.ints .u8 32 hk, .int .u32 hp, .int .u32 hn]] => withRat v fun r l => withSks h l fun ss => κ (.int .i64 (overI r ss.length hk hp hn)) h
  | _ => none
theorem over_full {P : Program} {f : FuncId} (h : PureOk P f overO) : FullOk P f overC := by
  refine pure_full h fun args hp κ => ?_
  unfold overC overO
  split
  · simp only [withRat_map, withSks_map, Option.bind_some, obH]
  · first
    | rfl
    | (rename_i hx
       split
       · exact (hx _ _ _ _ rfl).elim
       · rfl)
end Go.Am
/- kdf.Step and ratchet.turn on unknown keys: that they answer, as functions of the keys that are not looked into. -/
namespace Go.Am
set_option linter.unusedSimpArgs false
set_option maxRecDepth 100000
def twoP1 : Option Res → List Int
  | some (.tuple [.agg [.ints _ _ a], .agg [.ints _ _ _]], _) => a
  | _ => []
def twoP2 : Option Res → List Int
  | some (.tuple [.agg [.ints _ _ _], .agg [.ints _ _ b]], _) => b
  | _ => []
def stepRun (xs : List Int) : Option Res := evFn E_ratchet_none af_kdf_Step [.agg [.ints .u8 32 xs]] ⟨16, []⟩ kV
theorem step_tot (f : Nat → Int) : stepRun (tab 32 f) = some (.tuple [key (twoP1 (stepRun (tab 32 f))), key (twoP2 (stepRun (tab 32 f)))], ⟨0, []⟩) := by kernel_rfl
theorem step_len (f : Nat → Int) : ((twoP1 (stepRun (tab 32 f))).length == 32 && (twoP2 (stepRun (tab 32 f))).length == 32) = true := by kernel_rfl
theorem stepK_len {xs : List Int} (h : xs.length = 32) : (twoP1 (stepRun xs)).length = 32 ∧ (twoP2 (stepRun xs)).length = 32 := by
  obtain ⟨f, rfl⟩ := tab_of h
  have := step_len f
  simp only [Bool.and_eq_true, beq_iff_eq] at this
  exact this
/-- kdf.Step as an oracle. -/
def kstepO : OrcP := fun _ args _ => match args with
  | [.agg [.ints .u8 32 xs]] => some (.tuple [key (twoP1 (stepRun xs)), key (twoP2 (stepRun xs))], none)
  | _ => none
theorem kstepO_pure {P : Program} {f : FuncId} (F : Fn P f E_ratchet_none af_kdf_Step) : PureOk P f kstepO := by
  refine F.plain fun nid args hp r ha hr => ?_
  unfold kstepO at hr
  split at hr
  · rename_i xs
    cases hr
    obtain ⟨⟨⟨hl, _⟩, _⟩, _⟩ := ha
    obtain ⟨k, rfl⟩ := tab_of hl
    exact ⟨rfl, rfl, rfl, step_tot k⟩
  · cases hr
/-! ## turn -/
def turnRun (xs ys zs : List Int) : Option Res := evFn E_curve_Low af_ratchet_turn [.agg [.ints .u8 32 xs], .agg [.ints .u8 32 ys], .agg [.ints .u8 32 zs]] ⟨16, []⟩ kV
theorem turn_tot (f g h : Nat → Int) : turnRun (tab 32 f) (tab 32 g) (tab 32 h) = some (.tuple [key (twoP1 (turnRun (tab 32 f) (tab 32 g) (tab 32 h))), key (twoP2 (turnRun (tab 32 f) (tab 32 g) (tab 32 h)))], ⟨0, []⟩) := by kernel_rfl
theorem turn_len (f g h : Nat → Int) : ((twoP1 (turnRun (tab 32 f) (tab 32 g) (tab 32 h))).length == 32 && (twoP2 (turnRun (tab 32 f) (tab 32 g) (tab 32 h))).length == 32) = true := by kernel_rfl
theorem turnK_len {xs ys zs : List Int} (h : xs.length = 32) (h2 : ys.length = 32) (h3 : zs.length = 32) : (twoP1 (turnRun xs ys zs)).length = 32 ∧ (twoP2 (turnRun xs ys zs)).length = 32 := by
  obtain ⟨f, rfl⟩ := tab_of h
  obtain ⟨g, rfl⟩ := tab_of h2
  obtain ⟨k, rfl⟩ := tab_of h3
  have := turn_len f g k
  simp only [Bool.and_eq_true, beq_iff_eq] at this
  exact this
/-- ratchet.turn as an oracle. -/
def rturnO : OrcP := fun _ args _ => match args with
  | [.agg [.ints .u8 32 xs], .agg [.ints .u8 32 ys], .agg [.ints .u8 32 zs]] => some (.tuple [key (twoP1 (turnRun xs ys zs)), key (twoP2 (turnRun xs ys zs))], none)
  | _ => none
theorem rturnO_pure {P : Program} {f : FuncId} (F : Fn P f E_curve_Low af_ratchet_turn) : PureOk P f rturnO := by
  refine F.plain fun nid args hp r ha hr => ?_
  unfold rturnO at hr
  split at hr
  · rename_i xs ys zs
    cases hr
    obtain ⟨⟨⟨hl, _⟩, _⟩, ⟨⟨hl2, _⟩, _⟩, ⟨⟨hl3, _⟩, _⟩, _⟩ := ha
    obtain ⟨k, rfl⟩ := tab_of hl
    obtain ⟨k2, rfl⟩ := tab_of hl2
    obtain ⟨k3, rfl⟩ := tab_of hl3
    exact ⟨rfl, rfl, rfl, turn_tot k k2 k3⟩
  · cases hr
end Go.Am
/- ratchet: pass. -/
namespace Go.Am
set_option linter.unusedSimpArgs false
set_option maxRecDepth 100000
def psTop : ACode := af_ratchet_pass.code
def psHead : ACode := match psTop with | .jumps _ _ _ c _ => c | c => c
def psRest : ACode := match psTop with | .jumps _ _ _ _ r => r | c => c
def psCn : Option Canon := some ⟨[], [0, 1], [], [16], 0⟩
def afPassOf (F : Nat) : AFn := ⟨57, [], .jumps F 0 psCn psHead psRest⟩
def afPass : AFn := afPassOf 1000000
abbrev F1 := List Int → List Int
def kstepV (A B : F1) : OrcP := fun _ args _ => match args with
  | [.agg [.ints .u8 32 xs]] => some (.tuple [key (A xs), key (B xs)], none)
  | _ => none
def kpA (xs : List Int) : List Int := twoP1 (stepRun xs)
def kpB (xs : List Int) : List Int := twoP2 (stepRun xs)
theorem kstepV_pure {P : Program} {f : FuncId} (h : PureOk P f kstepO) : PureOk P f (kstepV kpA kpB) := by
  intro nid args hp v ob ι w vs hk R hn ha
  refine h nid args hp v ob ι w vs ?_ R hn ha
  unfold kstepV at hk
  split at hk <;> try (cases hk; done)
  exact hk
def Ps0 : Env := envAdd id_kdf_Step (.pure (kstepV kpA kpB)) Ov0
section
variable (A B : F1)
def Ps0V : Env := envAdd id_kdf_Step (.pure (kstepV A B)) Ov0
def ps0 (nx : Nat) (r : Rat) (n : Nat) (xs : List (List AV)) : Am.Heap := ⟨nx, [cel 0 (r.segs (.slice 1 0 0 n 65 none)), ⟨1, false, .rows 65 n xs⟩]⟩
abbrev ps1 := ps0 16
def ps2 (r : Rat) (n : Nat) (xs : List (List AV)) : Am.Heap := ⟨17, [cel 0 (r.segs (.slice 16 0 0 n 65 none)), ⟨16, false, .rows 65 n xs⟩]⟩
def psT (to : Int) : List AV := mkT 57 [(0, pt 0), (1, .int .u32 to)]
def psRat (r : Rat) : Rat := ⟨r.root, r.own, r.peer, r.send, A r.recv, r.sent, u32w (r.got + 1), r.bef⟩
def psRow (r : Rat) : Sk := ⟨r.peer, r.got, B r.recv⟩
def no0 (k : AV → Am.Heap → Option Res) (h : Am.Heap) : Option Res := k (.tuple []) h
/-- A round behind the first. -/
theorem ps_round (L : St → Option Res) (K : AV → Am.Heap → Option Res) (r : Rat) (n : Nat) (to : Int) (xs : List (List AV)) : ev (Ps0V A B) psRest ⟨psT to, ps2 r n xs⟩ (kJump psCn 0 L (kFn [] K)) =
    bif decide (r.got ≥ to) then no0 K (ps2 r n xs)
    else if (n + 1) * 68 ≤ 2 ^ 47 then L ⟨psT to, ps2 (psRat A r) (n + 1) ((xs.drop 0).take n ++ [skR (psRow B r)])⟩ else none := by kernel_rfl
/-- The first. -/
theorem ps_first (L : St → Option Res) (K : AV → Am.Heap → Option Res) (r : Rat) (n : Nat) (to : Int) (xs : List (List AV)) : ev (Ps0V A B) psHead ⟨psT to, ps1 r n xs⟩ (kJump psCn 0 L (kFn [] K)) =
    bif (r.recv == hz32) && true then no0 K (ps0 400 r n xs) else bif decide (r.got ≥ to) then no0 K (ps0 400 r n xs)
    else if (n + 1) * 68 ≤ 2 ^ 47 then L ⟨psT to, ps2 (psRat A r) (n + 1) ((xs.drop 0).take n ++ [skR (psRow B r)])⟩ else none := by kernel_rfl
def passR : Nat → Rat → Rat
  | 0, r => r
  | k + 1, r => passR k (psRat A r)
def passS : Nat → Rat → List Sk
  | 0, _ => []
  | k + 1, r => psRow B r :: passS k (psRat A r)
theorem passS_len : ∀ k r, (passS A B k r).length = k
  | 0, _ => rfl
  | k + 1, r => by simp only [passS, List.length_cons, passS_len k]
theorem u32w_id {n : Int} (h0 : 0 ≤ n) (h1 : n < 4294967296) : u32w n = n := by
  simp only [u32w, IntKind.wrap, IntKind.bits, IntKind.signed, Bool.false_and, Bool.false_eq_true, if_false]
  omega
theorem ps_loop (K : AV → Am.Heap → Option Res) (to : Int) (hto : to < 4294967296) : ∀ (k : Nat) (r : Rat) (ss : List Sk) (F : Nat), (to - r.got).toNat = k → 0 ≤ r.got → ss.length + k ≤ 1000 → k < F →
    jumpK psCn 0 (ev (Ps0V A B) psRest) F ⟨psT to, ps2 r ss.length (ss.map skR)⟩ (kFn [] K) = no0 K (ps2 (passR A k r) (ss.length + k) ((ss ++ passS A B k r).map skR))
  | 0, r, ss, F + 1, hk, h0, _, _ => by
    refine (ps_round A B _ K r ss.length to _).trans ?_
    rw [decide_eq_true (by omega), cond_true]
    simp only [passR, passS, List.append_nil, Nat.add_zero]
  | k + 1, r, ss, F + 1, hk, h0, hl, hF => by
    refine (ps_round A B _ K r ss.length to _).trans ?_
    have e1 : ((ss.map skR).drop 0).take ss.length = ss.map skR := by rw [List.drop_zero, List.take_of_length_le (by simp)]
    rw [decide_eq_false (by omega), cond_false, if_pos (by omega), e1]
    have hg : (psRat A r).got = r.got + 1 := u32w_id (by omega) (by omega)
    have ih := ps_loop K to hto k (psRat A r) (ss ++ [psRow B r]) F (by rw [hg]; omega) (by rw [hg]; omega) (by simp; omega) (by omega)
    simp only [List.length_append, List.length_cons, List.length_nil, Nat.zero_add, List.map_append, List.map_cons, List.map_nil] at ih
    refine ih.trans ?_
    simp only [passR, passS, List.map_append, List.map_cons, List.append_assoc, List.cons_append, List.nil_append, show ss.length + 1 + k = ss.length + (k + 1) by omega]
  | _, _, _, 0, _, _, _, h => by omega
def psN (r : Rat) (to : Int) : Nat := (to - r.got).toNat
theorem ps_run (F : Nat) (hF : 1001 ≤ F) (K : AV → Am.Heap → Option Res) (r : Rat) (to : Int) (ss : List Sk) (hg : ((r.recv == hz32) && true) = false → decide (r.got ≥ to) = false → ss.length + psN r to ≤ 1000 ∧ 0 ≤ r.got ∧ to < 4294967296) :
    evFn (Ps0V A B) (afPassOf F) [pt 0, .int .u32 to] (ps1 r ss.length (ss.map skR)) K =
    bif (r.recv == hz32) && true then no0 K (ps0 400 r ss.length (ss.map skR)) else bif decide (r.got ≥ to) then no0 K (ps0 400 r ss.length (ss.map skR))
    else no0 K (ps2 (passR A (psN r to) r) (ss.length + psN r to) ((ss ++ passS A B (psN r to) r).map skR)) := by
  refine (evFn_eq ..).trans ?_
  refine (ev_jumps ..).trans ?_
  refine (ps_first A B _ K r ss.length to _).trans ?_
  cases hz : (r.recv == hz32) && true
  · simp only [cond_false]
    cases hd : decide (r.got ≥ to)
    · simp only [cond_false]
      have hd' : ¬ r.got ≥ to := by simpa using hd
      obtain ⟨hl, h0, hto⟩ := hg hz hd
      have e1 : ((ss.map skR).drop 0).take ss.length = ss.map skR := by rw [List.drop_zero, List.take_of_length_le (by simp)]
      unfold psN at hl ⊢
      obtain ⟨k, hk⟩ : ∃ k, (to - r.got).toNat = k + 1 := ⟨(to - r.got).toNat - 1, by omega⟩
      rw [hk] at hl ⊢
      rw [if_pos (by omega), e1]
      have hg : (psRat A r).got = r.got + 1 := u32w_id (by omega) (by omega)
      have ih := ps_loop A B K to hto k (psRat A r) (ss ++ [psRow B r]) F (by rw [hg]; omega) (by rw [hg]; omega) (by simp; omega) (by omega)
      simp only [List.length_append, List.length_cons, List.length_nil, Nat.zero_add, List.map_append, List.map_cons, List.map_nil] at ih
      refine ih.trans ?_
      simp only [passR, passS, List.map_append, List.map_cons, List.append_assoc, List.cons_append, List.nil_append, show ss.length + 1 + k = ss.length + (k + 1) by omega]
    · rfl
  · rfl
/-! ## As an oracle -/
def psA (a b : Nat) (h : Am.Heap) (r : Rat) (n : Nat) (xs : List (List AV)) : Am.Heap := (h.set a (.segs (r.segs (.slice b 0 0 n 65 none)))).set b (.rows 65 n xs)
def psB (a b : Nat) (h : Am.Heap) (r : Rat) (n : Nat) (xs : List (List AV)) : Am.Heap := ((h.set a (.segs (r.segs (.slice h.next 0 0 n 65 none)))).del b).new (.rows 65 n xs)
theorem kG_same (a b : Nat) (h : Am.Heap) (r : Rat) (n : Nat) (xs : List (List AV)) : kG false [] [a, b] h (.tuple []) (ps0 400 r n xs) = some (.tuple [], psA a b h r n xs) := by kernel_rfl
theorem kG_new (a b : Nat) (h : Am.Heap) (r : Rat) (n : Nat) (xs : List (List AV)) : kG false [] [a, b] h (.tuple []) (ps2 r n xs) = some (.tuple [], psB a b h r n xs) := by kernel_rfl
theorem litG_pair {o : OrcF} (hF : Factor o) {h : Am.Heap} {a b ia ib n : Nat} {r : Rat} {xs : List (List AV)} {to : Int} (hga : h.get a = some ⟨ia, false, .segs (r.segs (.slice b 0 0 n 65 none))⟩) (hgb : h.get b = some ⟨ib, false, .rows 65 n xs⟩) (hne : a ≠ b) {v : AV} {h' : Am.Heap}
    (hr : o [pt 0, .int .u32 to] (ps1 r n xs) (kG false [] [a, b] h) = some (v, h')) : litG [.obj, .arg .plain] false [] 16 o [.ptr a 0 0 0 0, .int .u32 to] h = some (v, h') := by
  have hba : blkIds (⟨ia, false, .segs (r.segs (.slice b 0 0 n 65 none))⟩ : Cell).blk = [b] := rfl
  have hbb : blkIds (⟨ib, false, .rows 65 n xs⟩ : Cell).blk = [] := rfl
  have e1 : ([a].contains b) = false := by simp [Ne.symm hne]
  have hroots : rootsOf [.ptr a 0 0 0 0, .int .u32 to] [.obj, .arg .plain] = [a] := rfl
  have hreach : reachN h 64 [a] [] = [a, b] := by
    simp only [reachN, List.contains_nil, Bool.false_eq_true, if_false, hga, hba, List.nil_append, e1, hgb, hbb, List.append_nil, List.singleton_append]
  have hob : objBlks h (posN [a, b]) [a, b] 0 = some [cel 0 (r.segs (.slice 1 0 0 n 65 none)), ⟨1, false, .rows 65 n xs⟩] := by
    have hrn : rnBlk (posN [a, b]) (.segs (r.segs (.slice b 0 0 n 65 none))) = .segs (r.segs (.slice 1 0 0 n 65 none)) := by
      simp only [rnBlk, Rat.segs, rnL, rnAV.rnL, rnAV, posN, if_neg hne, if_true]
    simp only [objBlks, hga, hgb, Option.map_some, hrn]
    rfl
  have hvo : viewObjs h [a, b] [.ptr a 0 0 0 0, .int .u32 to] [.obj, .arg .plain] 2 = some ([pt 0, .int .u32 to], []) := by
    simp only [viewObjs, avIds, List.all_cons, List.all_nil, Bool.and_true, List.contains_cons, List.contains_nil, Bool.or_false, beq_self_eq_true, Bool.true_or, if_true, List.any_nil, Bool.false_eq_true, if_false, viewArgs, List.isEmpty_nil, Option.map_some, Option.bind_some, rnAV, posN, List.append_nil]
    rfl
  unfold litG
  simp only [hroots, hreach, hob, Option.bind_some, List.length_cons, List.length_nil, Nat.zero_add, Nat.reduceAdd, hvo]
  rw [if_pos (by simp only [List.all_cons, List.all_nil, hga, hgb, hba, hbb, Bool.and_true, List.contains_cons, List.contains_nil, Bool.or_false, beq_self_eq_true, Bool.or_true]; rfl)]
  have h4 := hF [pt 0, .int .u32 to] (ps1 r n xs) (kG false [] [a, b] h)
  rw [h4] at hr
  exact hr
def passC : OrcF := fun args h κ => match args with
  | [.ptr a 0 0 0 0, .int .u32 to] => match h.get a with
    | some ⟨_, false, .segs [.ints .u8 32 k1, .ints .u8 32 k2, .ints .u8 32 k3, .ints .u8 32 k4, .ints .u8 32 k5, .int .u32 s, .int .u32 g, .int .u32 p, .slice b 0 0 n 65 none]⟩ => match h.get b with
      | some ⟨_, false, .rows 65 m xs⟩ => (skAll xs).bind fun ss => if a ≠ b ∧ m = n ∧ ss.length = n then
          (bif (k5 == hz32) && true then κ (.tuple []) (psA a b h ⟨k1, k2, k3, k4, k5, s, g, p⟩ n xs) else bif decide (g ≥ to) then κ (.tuple []) (psA a b h ⟨k1, k2, k3, k4, k5, s, g, p⟩ n xs)
          else if n + (to - g).toNat ≤ 1000 ∧ 0 ≤ g ∧ to < 4294967296 then κ (.tuple []) (psB a b h (passR A (to - g).toNat ⟨k1, k2, k3, k4, k5, s, g, p⟩) (n + (to - g).toNat) ((ss ++ passS A B (to - g).toNat ⟨k1, k2, k3, k4, k5, s, g, p⟩).map skR)) else none)
        else none
      | _ => none
    | _ => none
  | _ => none
theorem pass_full {P : Program} {f : FuncId} (F : Fn P f (Ps0V A B) afPass) : FullOk P f (passC A B) where
  factor := fun args h κ => by
    unfold passC
    split
    · rename_i a to
      split
      · rename_i ia k1 k2 k3 k4 k5 s g p b n hga
        split
        · rename_i ib m xs hgb
          cases skAll xs with
          | none => rfl
          | some ss =>
            simp only [Option.bind_some]
            split
            · cases (k5 == hz32) && true
              · simp only [cond_false]
                cases decide (g ≥ to)
                · simp only [cond_false]
                  split <;> rfl
                · rfl
              · rfl
            · rfl
        · rfl
      · rfl
    · rfl
  sound := fun args h v h' ι w vs hk R hf ha => by
    refine (litG_ok (ks := [.obj, .arg .plain]) (fv := false) (fo := []) F.ok).sound args h v h' ι w vs ?_ R hf ha
    unfold passC at hk
    split at hk <;> try (cases hk; done)
    rename_i a to
    split at hk <;> try (cases hk; done)
    rename_i ia k1 k2 k3 k4 k5 s g p b n hga
    split at hk <;> try (cases hk; done)
    rename_i ib m xs hgb
    cases hs : skAll xs with
    | none => rw [hs] at hk; cases hk
    | some ss =>
      rw [hs] at hk
      simp only [Option.bind_some] at hk
      split at hk <;> try (cases hk; done)
      rename_i hcnd
      obtain ⟨hne, rfl, rfl⟩ := hcnd
      obtain rfl := skAll_eq hs
      show (litG _ _ _ _ _ _ _).bind _ = _
      have key : litG [.obj, .arg .plain] false [] 16 (fun args h κ => evFn (Ps0V A B) afPass args h κ) [.ptr a 0 0 0 0, .int .u32 to] h = some (v, h') := by
        refine litG_pair (r := ⟨k1, k2, k3, k4, k5, s, g, p⟩) F.factor hga hgb hne ?_
        have hgd : ((k5 == hz32) && true) = false → decide (g ≥ to) = false → ss.length + psN ⟨k1, k2, k3, k4, k5, s, g, p⟩ to ≤ 1000 ∧ 0 ≤ g ∧ to < 4294967296 := fun e1 e2 => by
          rw [e1, e2] at hk
          simp only [cond_false] at hk
          split at hk <;> try (cases hk; done)
          rename_i h3
          exact h3
        refine (ps_run A B 1000000 (by decide) (kG false [] [a, b] h) ⟨k1, k2, k3, k4, k5, s, g, p⟩ to ss hgd).trans ?_
        simp only [no0]
        rw [kG_same, kG_new]
        revert hk hgd
        unfold psN
        cases (k5 == hz32) && true
        · simp only [cond_false]
          cases decide (g ≥ to)
          · simp only [cond_false]
            exact fun hk hgd => by rw [if_pos (hgd trivial trivial)] at hk; exact hk
          · exact fun hk _ => hk
        · exact fun hk _ => hk
      rw [key]
      rfl
end
end Go.Am
/- curve: Low. -/
namespace Go.Am
set_option linter.unusedSimpArgs false
set_option maxRecDepth 100000
def pad32 (l : List Int) : List Int := l ++ List.replicate (32 - l.length) 0
def lowK0 : List Int := pad32 []
def lowK1 : List Int := pad32 [1]
def lowK2 : List Int := [0xec, 0xff, 0xff, 0xff, 0xff, 0xff, 0xff, 0xff, 0xff, 0xff, 0xff, 0xff, 0xff, 0xff, 0xff, 0xff, 0xff, 0xff, 0xff, 0xff, 0xff, 0xff, 0xff, 0xff, 0xff, 0xff, 0xff, 0xff, 0xff, 0xff, 0xff, 0x7f]
def lowK3 : List Int := [0xe0, 0xeb, 0x7a, 0x7c, 0x3b, 0x41, 0xb8, 0xae, 0x16, 0x56, 0xe3, 0xfa, 0xf1, 0x9f, 0xc4, 0x6a, 0xda, 0x09, 0x8d, 0xeb, 0x9c, 0x32, 0xb1, 0xfd, 0x86, 0x62, 0x05, 0x16, 0x5f, 0x49, 0xb8, 0x00]
def lowK4 : List Int := [0x5f, 0x9c, 0x95, 0xbc, 0xa3, 0x50, 0x8c, 0x24, 0xb1, 0xd0, 0xb1, 0x55, 0x9c, 0x83, 0xef, 0x5b, 0x04, 0x44, 0x5c, 0xc4, 0x58, 0x1c, 0x8e, 0x86, 0xd8, 0x22, 0x4e, 0xdd, 0xd0, 0x9f, 0x11, 0x57]
/-- Are these the same numbers modulo p? -/
def sameE (a b : List Int) : Bool := bytesL a == bytesL b && true
def lowB (u : List Int) : Bool := bif (sameE (fromL lowK0) (fromL u)) then true else bif (sameE (fromL lowK1) (fromL u)) then true else bif (sameE (fromL lowK2) (fromL u)) then true else bif (sameE (fromL lowK3) (fromL u)) then true else sameE (fromL lowK4) (fromL u)
theorem low_run (f : Nat → Int) : evFn G10 af_curve_Low [.agg [.ints .u8 32 (tab 32 f)]] ⟨16, []⟩ kV =
    bif (sameE (fromL lowK0) (fromL (tab 32 f))) then yes true else bif (sameE (fromL lowK1) (fromL (tab 32 f))) then yes true else bif (sameE (fromL lowK2) (fromL (tab 32 f))) then yes true else
      bif (sameE (fromL lowK3) (fromL (tab 32 f))) then yes true else bif (sameE (fromL lowK4) (fromL (tab 32 f))) then yes true else yes false := by kernel_rfl
def lowO : OrcP := fun _ args _ => match args with
  | [.agg [.ints .u8 32 u]] => some (.bool (lowB u), none)
  | _ => none
theorem low_pure {P : Program} {f : FuncId} (F : Fn P f G10 af_curve_Low) : PureOk P f lowO := by
  refine F.plain fun nid args hp r ha hr => ?_
  unfold lowO at hr
  split at hr
  · rename_i u
    cases hr
    obtain ⟨⟨⟨hl, _⟩, _⟩, _⟩ := ha
    obtain ⟨k, rfl⟩ := tab_of hl
    refine ⟨rfl, rfl, rfl, (low_run k).trans ?_⟩
    unfold lowB
    cases sameE (fromL lowK0) (fromL (tab 32 k)) <;> cases sameE (fromL lowK1) (fromL (tab 32 k)) <;> cases sameE (fromL lowK2) (fromL (tab 32 k)) <;> cases sameE (fromL lowK3) (fromL (tab 32 k)) <;> cases sameE (fromL lowK4) (fromL (tab 32 k)) <;> rfl
  · cases hr
end Go.Am
/- slices.Clone of rows. -/
namespace Go.Am
set_option linter.unusedSimpArgs false
set_option maxRecDepth 100000
theorem contR_value {ι : Inj} {h : Heap} {w : World} {v : AV} {x : Value} {e : Nat} {xs : List (List AV)} (R : HRel ι h w) (hx : VR ι v x) (hk : contR e h v = some xs) : ∃ a c, x = .slice a xs.length c ∧ (a = none → c = 0) := by
  unfold contR at hk
  split at hk
  · cases hk; exact ⟨none, 0, hx, fun _ => rfl⟩
  · cases hk
    obtain ⟨a, ha⟩ := (show ∃ a, x = .slice a 0 0 from hx)
    exact ⟨a, 0, ha, fun _ => rfl⟩
  · split at hk <;> try (cases hk; done)
    cases hk
    obtain ⟨a, c, he, _, _, F⟩ := hx.islR
    refine ⟨a, c, he, fun hn => ?_⟩
    rcases F.2 with h0 | ⟨b, off, f, h1, _⟩
    · exact h0
    · rw [hn] at h1; cases h1
  · rename_i id o j len e0 cap
    split at hk <;> try (cases hk; done)
    rename_i e' ys hs
    split at hk <;> try (cases hk; done)
    rename_i he; subst he; cases hk
    obtain ⟨cc, hg⟩ : ∃ cc, h.get id = some cc := by
      cases hg : h.get id with
      | none => simp [slCont, hg] at hs
      | some c => exact ⟨c, rfl⟩
    obtain ⟨rfl, he1, hlen, hr, habs⟩ := slCont_absR R hx hg hs
    obtain ⟨p, a, c, hp, rfl, S⟩ := hx.slice
    refine ⟨a, c, by rw [hlen], fun hn => ?_⟩
    rcases S.addr with h0 | h1
    · exact h0
    · rw [hn] at h1; cases h1
  · cases hk
theorem cloneR_run (Γ : Env) (nid n : Nat) (xs : List (List AV)) : evFn Γ af_slices_Clone_api_Skip [.slice 0 0 0 (n+1) 65 none] ⟨16, [⟨0, true, .rows 65 (n+1) xs⟩]⟩ (kOut (some (.rows 65)) nid) =
    if (0 + (n + 1)) * 68 ≤ 2 ^ 47 then some (.slice nid 0 0 (0 + (n + 1)) 65 none, ⟨0, [⟨nid, false, .rows 65 (0 + (n + 1)) ((xs.drop 0).take (n + 1))⟩]⟩) else none := by kernel_rfl
theorem cloneR_nil (Γ : Env) (nid : Nat) : evFn Γ af_slices_Clone_api_Skip [.nils] ⟨16, []⟩ (kOut (some (.rows 65)) nid) = some (.slice nid 0 0 0 65 none, encB nid (some (.rows 65 0 []))) := by kernel_rfl
theorem cloneR_nne (Γ : Env) (nid : Nat) : evFn Γ af_slices_Clone_api_Skip [.nne] ⟨16, []⟩ (kOut (some (.rows 65)) nid) = some (.slice nid 0 0 0 65 none, encB nid (some (.rows 65 0 []))) := by kernel_rfl
def cloneRO1 : OrcP := fun nid args h => match args with
  | [s] => (contR 65 h s).bind fun xs => if xs.length ≤ 1000 ∧ xs.length ≠ 0 then some (.slice nid 0 0 xs.length 65 none, some (.rows 65 xs.length xs)) else none
  | _ => none
def cloneRO : OrcP := fun nid args h => match args with
  | [s] => (contR 65 h s).bind fun xs => if xs.length ≤ 1000 then some (.slice nid 0 0 xs.length 65 none, some (.rows 65 xs.length xs)) else none
  | _ => none
theorem cloneR_pure1 {P : Program} {f : FuncId} {Γ : Env} (F : Fn P f Γ af_slices_Clone_api_Skip) : PureOk P f cloneRO1 := by
  refine F.lit [.sl (.rows 65)] (some (.rows 65)) fun nid args hp r ha hr => ?_
  unfold cloneRO1 at hr
  split at hr <;> try (cases hr; done)
  rename_i s
  cases hc : contR 65 hp s with
  | none => rw [hc] at hr; cases hr
  | some xs =>
    rw [hc] at hr
    simp only [Option.bind_some] at hr
    split at hr <;> try (cases hr; done)
    rename_i hl
    cases hr
    obtain ⟨n, hn⟩ : ∃ n, xs.length = n + 1 := ⟨xs.length - 1, by omega⟩
    refine ⟨_, _, by simp only [viewArgs, contR_isSl hc, if_true, viewS_rows (by decide) hc, Option.bind_some, Option.map_some]; rfl, by simp, ?_⟩
    rw [hn]
    refine (cloneR_run Γ nid n xs).trans ?_
    rw [if_pos (by omega)]
    simp only [Nat.zero_add, List.drop_zero, encB]
    rw [← hn, List.take_length]
theorem cloneR_pure {P : Program} {f : FuncId} {Γ : Env} (F : Fn P f Γ af_slices_Clone_api_Skip) : PureOk P f cloneRO := by
  intro nid args h v ob ι w vs hk R hn ha
  unfold cloneRO at hk
  split at hk <;> try (cases hk; done)
  rename_i s
  cases hc : contR 65 h s with
  | none => rw [hc] at hk; cases hk
  | some xs =>
    rw [hc] at hk
    simp only [Option.bind_some] at hk
    split at hk <;> try (cases hk; done)
    rename_i hl
    by_cases h0 : xs.length = 0
    · obtain rfl := List.eq_nil_of_length_eq_zero h0
      cases hk
      obtain ⟨x, r, hvs, hx, hr⟩ := ha.uncons
      obtain ⟨a, c, he, hac⟩ := contR_value R hx hc
      have hv1 : ∀ v', VR ι v' x → VRL ι [v'] vs.toList := fun v' hv' => by
        rw [hvs]
        obtain ⟨hr1, _⟩ := hr
        have : r = [] := List.eq_nil_of_length_eq_zero hr1.symm
        subst this
        refine ⟨rfl, fun i u hu => ?_⟩
        cases i with
        | zero => simp at hu; subst hu; exact ⟨x, rfl, hv'⟩
        | succ i => simp at hu
      cases a with
      | none =>
        have := hac rfl
        subst this
        exact @litP_ok P f [.plain] (some (.rows 65)) 16 _ F.ok nid [.nils] h _ _ ι w vs (litP_run F rfl (by simp) (cloneR_nil Γ nid)) R hn (hv1 .nils he)
      | some b => exact @litP_ok P f [.plain] (some (.rows 65)) 16 _ F.ok nid [.nne] h _ _ ι w vs (litP_run F rfl (by simp) (cloneR_nne Γ nid)) R hn (hv1 .nne ⟨b, c, he⟩)
    · refine cloneR_pure1 F nid [s] h v ob ι w vs ?_ R hn ha
      simp only [cloneRO1, hc, Option.bind_some]
      rw [if_pos ⟨hl, h0⟩]
      exact hk
def cloneRC : OrcF := fun args h κ => match args with
  | [s] => withSks h s fun ss => if ss.length ≤ 1000 then κ (.slice h.next 0 0 ss.length 65 none) (h.new (.rows 65 ss.length (ss.map skR))) else none
  | _ => none
def cloneRS : OrcP := fun nid args h => match args with
  | [s] => withSks h s fun ss => if ss.length ≤ 1000 then some (.slice nid 0 0 ss.length 65 none, some (.rows 65 ss.length (ss.map skR))) else none
  | _ => none
theorem cloneRS_pure {P : Program} {f : FuncId} (h : PureOk P f cloneRO) : PureOk P f cloneRS := by
  intro nid args hp v ob ι w vs hk R hn ha
  refine h nid args hp v ob ι w vs ?_ R hn ha
  unfold cloneRS at hk
  split at hk <;> try (cases hk; done)
  obtain ⟨ss, hc, _, hk1⟩ := withSks_eq hk
  split at hk1 <;> try (cases hk1; done)
  rename_i hl
  simp only [cloneRO, hc, Option.bind_some, List.length_map]
  rw [if_pos hl]
  exact hk1
theorem cloneR_full {P : Program} {f : FuncId} (h : PureOk P f cloneRS) : FullOk P f cloneRC := by
  refine pure_full h fun args hp κ => ?_
  unfold cloneRC cloneRS
  split
  · simp only [withSks_map]
    congr 1
    funext ss
    split <;> rfl
  · first
    | rfl
    | (rename_i hx
       split
       · exact (hx _ rfl).elim
       · rfl)
/-! ## Delete of one row -/
def delC : OrcF := fun args h κ => match args with
  | [.slice id 0 0 n 65 none, .int .i64 i, .int .i64 j] => match h.get id with
    | some ⟨_, false, .rows 65 m xs⟩ => if m = n ∧ 0 ≤ i ∧ i.toNat < n ∧ j = i + 1 then κ (.slice h.next 0 0 (n - 1) 65 none) ((h.del id).new (.rows 65 (n - 1) (xs.eraseIdx i.toNat))) else none
    | _ => none
  | _ => none
end Go.Am
/- ratchet: Open: its parts. -/
namespace Go.Am
set_option linter.unusedSimpArgs false
set_option maxRecDepth 100000
def lowV (L : List Int → Bool) : OrcP := fun _ args _ => match args with
  | [.agg [.ints .u8 32 u]] => some (.bool (L u), none)
  | _ => none
theorem lowV_pure {P : Program} {f : FuncId} (h : PureOk P f lowO) : PureOk P f (lowV lowB) := h
def turnV (A B : F3) : OrcP := fun _ args _ => match args with
  | [.agg [.ints .u8 32 xs], .agg [.ints .u8 32 ys], .agg [.ints .u8 32 zs]] => some (.tuple [key (A xs ys zs), key (B xs ys zs)], none)
  | _ => none
def tnA (xs ys zs : List Int) : List Int := twoP1 (turnRun xs ys zs)
def tnB (xs ys zs : List Int) : List Int := twoP2 (turnRun xs ys zs)
theorem turnV_pure {P : Program} {f : FuncId} (h : PureOk P f rturnO) : PureOk P f (turnV tnA tnB) := by
  intro nid args hp v ob ι w vs hk R hn ha
  refine h nid args hp v ob ι w vs ?_ R hn ha
  unfold turnV at hk
  split at hk <;> try (cases hk; done)
  exact hk
/-- What is not looked into. -/
structure OCry where
  stA : F1
  stB : F1
  tnA : F3
  tnB : F3
  low : List Int → Bool
  txt : List Int → Msg → ByteArray
  ok : List Int → Msg → Bool
def OpE : Env := envAdd id_ratchet_Check (.full checkC) (envAdd id_slices_Clone_api_Skip (.full cloneRC) (envAdd id_ratchet_find (.full findC) (envAdd id_ratchet_open (.pure (openKV okT okB)) (envAdd id_slices_Delete_api_Skip_slices_go_233 (.full delC) (envAdd id_curve_Low (.pure (lowV lowB)) (envAdd id_ratchet_none (.pure noneKO) (envAdd id_ratchet_over (.full overC) (envAdd id_ratchet_turn (.pure (turnV tnA tnB)) (envAdd id_ratchet_pass (.full (passC kpA kpB)) (envAdd id_kdf_Step (.pure (kstepV kpA kpB)) (envAdd id_ratchet_Open_1 (inl G10 af_ratchet_Open_1) G10)))))))))))
def OpEV (C : OCry) : Env := envAdd id_ratchet_Check (.full checkC) (envAdd id_slices_Clone_api_Skip (.full cloneRC) (envAdd id_ratchet_find (.full findC) (envAdd id_ratchet_open (.pure (openKV C.txt C.ok)) (envAdd id_slices_Delete_api_Skip_slices_go_233 (.full delC) (envAdd id_curve_Low (.pure (lowV C.low)) (envAdd id_ratchet_none (.pure noneKO) (envAdd id_ratchet_over (.full overC) (envAdd id_ratchet_turn (.pure (turnV C.tnA C.tnB)) (envAdd id_ratchet_pass (.full (passC C.stA C.stB)) (envAdd id_kdf_Step (.pure (kstepV C.stA C.stB)) (envAdd id_ratchet_Open_1 (inl G10 af_ratchet_Open_1) G10)))))))))))
def oTop : ACode := af_ratchet_Open.code
def oA : ACode := oTop.l
def oB : ACode := oTop.r.l
def oC : ACode := oTop.r.r.l
def oD : ACode := oTop.r.r.r.l
def oE : ACode := oTop.r.r.r.r.l
def oFs : ACode := oTop.r.r.r.r.r.l
def oF1 : ACode := oFs.l
def oF2 : ACode := oFs.r.l
def oFc : ACode := oFs.r.r
def ACode.th : ACode → ACode
  | .cond _ a _ => a
  | c => c
def oFd : ACode := oFc.th.l
def oFr : ACode := oFc.th.r
def oG : ACode := oTop.r.r.r.r.r.r.l
def oHs : ACode := oTop.r.r.r.r.r.r.r.l
def oH1 : ACode := oHs.l
def oHd : ACode := oHs.r.th
def oHp : ACode := oHd.l
def oHr : ACode := oHd.r
def oI : ACode := oTop.r.r.r.r.r.r.r.r.l
def oJ : ACode := oTop.r.r.r.r.r.r.r.r.r
def oK (ks : List Nat) : Option Canon := some ⟨[], [3, 4, 5, 6, 7, 8, 9, 10] ++ ks, [], [16], 0⟩
/-- Open, keeping where it is told what is wanted. -/
def oFound : ACode := .seq (oK [11, 12, 13]) oFd oFr
def oFind : ACode := .seq none oF2 (.cond (.t 40) oFound .skip)
def oDiff : ACode := .seq (oK []) oHp oHr
def oTurn : ACode := .seq none oH1 (.cond (.t 115) oDiff .skip)
def oEnd : ACode := .seq (oK []) oI oJ
def oLast : ACode := .seq (oK []) oTurn oEnd
def oRest : ACode := .seq (oK []) oG oLast
def oRest0 : ACode := .seq (oK []) (.seq (oK [11]) oF1 oFind) oRest
def afOpen : AFn := ⟨188, [.cell 6 true 164, .t 7, .t 8], .seq none oA (.seq none oB (.seq none oC (.seq none oD (.seq none oE oRest0))))⟩
def oFin (nid : Nat) : Kont := kFn [.cell 6 true 164, .t 7, .t 8] (kOut none nid)
end Go.Am
/- ratchet: Open: its parts, run. -/
namespace Go.Am
set_option linter.unusedSimpArgs false
set_option maxRecDepth 100000
def zRat : Rat := ⟨hz32, hz32, hz32, hz32, hz32, 0, 0, 0⟩
def oErr (e : Int) : Option Res := some (.tuple [.agg (zRat.segs .nils), .str ⟨#[]⟩, .int .i64 e], ⟨0, []⟩)
def wSR (xs : List (List AV)) (k : List Sk → Option Res) : Option Res := (skAll xs).bind fun ss => if ss.length ≤ 1152921504606846976 then k ss else none
def cutR (n : Nat) (xs : List (List AV)) : List (List AV) := (xs.drop 0).take n
def oHeap (r : Rat) (n : Nat) (xs : List (List AV)) (g : Msg) (fr : List Int) (m0 : Nat) (xs0 : List (List AV)) : Am.Heap :=
  ⟨22, [roC 0 (.rows 65 m0 xs0), cel 16 (r.segs (.slice 21 0 0 n 65 none)), cel 17 g.segs, cel 18 [.ints .u8 32 fr], cel 19 (zRat.segs .nils), cel 20 [.ints .u8 32 g.key, .int .u32 g.prev, .int .u32 g.num], ⟨21, false, .rows 65 n xs⟩]⟩
def oT (ex : List (Nat × AV)) : List AV := mkT 188 ([(3, pt 16), (4, pt 17), (5, pt 18), (6, pt 19), (7, .str ⟨#[]⟩), (8, .int .i64 0), (9, .func id_ratchet_Open_1 [] []), (10, pt 20)] ++ ex)
theorem o_start (C : OCry) (X R : ACode) (nid : Nat) (r : Rat) (n m : Nat) (xs : List (List AV)) (g : Msg) (fr : List Int) : ev (OpEV C) (.seq none oA (.seq none oB (.seq none oC (.seq none oD (.seq none oE (.seq (oK []) (.seq (oK [11]) oF1 X) R)))))) ⟨[.agg (r.segs (ckS n)), .agg g.segs, key fr] ++ List.replicate 185 .undef, ⟨16, [roC 0 (.rows 65 m xs)]⟩⟩ (oFin nid) =
    wSR (cutR n xs) fun ss => bif checkI r ss != 0 then oErr 270 else wSR (cutR n xs) fun s2 => if s2.length ≤ 1000 then wSR (cutR s2.length (s2.map skR)) fun s3 =>
      ev (OpEV C) X ⟨oT [(11, .int .i64 (findI g.key g.num s3 0))], oHeap r s2.length (s2.map skR) g fr m xs⟩ (kSeq (OpEV C) (oK []) R (oFin nid)) else none := by kernel_rfl
/-- Is it found? -/
theorem o_find (C : OCry) (X R : ACode) (nid : Nat) (r : Rat) (n m : Nat) (xs xs0 : List (List AV)) (g : Msg) (fr : List Int) (k : Int) : ev (OpEV C) (.seq none oF2 (.cond (.t 40) X .skip)) ⟨oT [(11, .int .i64 k)], oHeap r n xs g fr m xs0⟩ (kSeq (OpEV C) (oK []) R (oFin nid)) =
    bif decide (k ≥ 0) then ev (OpEV C) X ⟨oT [(11, .int .i64 k), (39, .int .i64 k), (40, .bool true)], oHeap r n xs g fr m xs0⟩ (kSeq (OpEV C) (oK []) R (oFin nid)) else ev (OpEV C) R ⟨oT [], oHeap r n xs g fr m xs0⟩ (oFin nid) := by kernel_rfl
def delG (n : Nat) (k : Int) (x : Option Res) : Option Res := if n = n ∧ 0 ≤ k ∧ k.toNat < n ∧ w63 (k + 1) = k + 1 then x else none
theorem o_found (C : OCry) (R : ACode) (nid : Nat) (r : Rat) (n m : Nat) (xs xs0 : List (List AV)) (g : Msg) (fr : List Int) (k : Int) (t : ByteArray) (b : Bool) : ev (OpEV C) oFr ⟨oT [(11, .int .i64 k), (12, .str t), (13, .bool b)], oHeap r n xs g fr m xs0⟩ (kSeq (OpEV C) (oK []) R (oFin nid)) =
    bif !b then oErr 180 else delG n k (some (.tuple [.agg (r.segs (.islR 65 (cutR (n - 1) (xs.eraseIdx k.toNat)))), .str t, .int .i64 0], ⟨0, []⟩)) := by kernel_rfl
end Go.Am
/- ratchet: Open: its other parts, run. -/
namespace Go.Am
set_option linter.unusedSimpArgs false
set_option maxRecDepth 100000
theorem o_switch (C : OCry) (R : ACode) (nid : Nat) (r : Rat) (n m : Nat) (xs xs0 : List (List AV)) (g : Msg) (fr : List Int) : ev (OpEV C) (.seq (oK []) oG R) ⟨oT [], oHeap r n xs g fr m xs0⟩ (oFin nid) =
    bif C.low g.key then oErr 130 else bif (g.key == r.peer) && true then (bif (r.recv == hz32) && true then oErr 272 else bif decide (g.num < r.got) then oErr 272 else
      wSR (cutR n xs) fun ss => bif decide (overI r ss.length g.key g.prev g.num > 8) then oErr 271 else ev (OpEV C) R ⟨oT [], oHeap r n xs g fr m xs0⟩ (oFin nid))
    else wSR (cutR n xs) fun ss => bif decide (overI r ss.length g.key g.prev g.num > 8) then oErr 271 else ev (OpEV C) R ⟨oT [], oHeap r n xs g fr m xs0⟩ (oFin nid) := by kernel_rfl
def oTd (r : Rat) (g : Msg) : List AV := oT [(111, .ptr 20 0 0 0 0), (112, key g.key), (113, .ptr 16 0 0 64 0), (114, key r.peer), (115, .bool true)]
theorem o_turn (C : OCry) (X R : ACode) (nid : Nat) (r : Rat) (n m : Nat) (xs xs0 : List (List AV)) (g : Msg) (fr : List Int) : ev (OpEV C) (.seq (oK []) (.seq none oH1 (.cond (.t 115) X .skip)) R) ⟨oT [], oHeap r n xs g fr m xs0⟩ (oFin nid) =
    bif !((g.key == r.peer) && true) then ev (OpEV C) X ⟨oTd r g, oHeap r n xs g fr m xs0⟩ (kSeq (OpEV C) (oK []) R (oFin nid)) else ev (OpEV C) R ⟨oT [], oHeap r n xs g fr m xs0⟩ (oFin nid) := by kernel_rfl
def psG (n : Nat) (xs : List (List AV)) (r : Rat) (to : Int) (X : Option Res) (Y : List Sk → Option Res) : Option Res := (skAll xs).bind fun ss => if (16 : Nat) ≠ 21 ∧ n = n ∧ ss.length = n then
  (bif (r.recv == hz32) && true then X else bif decide (r.got ≥ to) then X else if n + (to - r.got).toNat ≤ 1000 ∧ 0 ≤ r.got ∧ to < 4294967296 then Y ss else none) else none
theorem o_pass1 (C : OCry) (R : ACode) (K : Kont) (r : Rat) (n m : Nat) (xs xs0 : List (List AV)) (g : Msg) (fr : List Int) : ev (OpEV C) (.seq (oK []) oHp R) ⟨oTd r g, oHeap r n xs g fr m xs0⟩ K =
    psG n xs r g.prev (ev (OpEV C) R ⟨oT [], oHeap r n xs g fr m xs0⟩ K) fun ss => ev (OpEV C) R ⟨oT [], oHeap (passR C.stA (g.prev - r.got).toNat r) (n + (g.prev - r.got).toNat) ((ss ++ passS C.stA C.stB (g.prev - r.got).toNat r).map skR) g fr m xs0⟩ K := by kernel_rfl
def turnR (C : OCry) (r : Rat) (k fr : List Int) : Rat := ⟨C.tnA (C.tnA r.root r.own k) fr k, fr, k, C.tnB (C.tnA r.root r.own k) fr k, C.tnB r.root r.own k, 0, 0, r.sent⟩
theorem o_diff (C : OCry) (R : ACode) (nid : Nat) (r : Rat) (n m : Nat) (xs xs0 : List (List AV)) (g : Msg) (fr : List Int) : ev (OpEV C) oHr ⟨oT [], oHeap r n xs g fr m xs0⟩ (kSeq (OpEV C) (oK []) R (oFin nid)) =
    ev (OpEV C) R ⟨oT [], oHeap (turnR C r g.key fr) n xs g fr m xs0⟩ (oFin nid) := by kernel_rfl
theorem o_pass2 (C : OCry) (R : ACode) (K : Kont) (r : Rat) (n m : Nat) (xs xs0 : List (List AV)) (g : Msg) (fr : List Int) : ev (OpEV C) (.seq (oK []) oI R) ⟨oT [], oHeap r n xs g fr m xs0⟩ K =
    psG n xs r g.num (ev (OpEV C) R ⟨oT [], oHeap r n xs g fr m xs0⟩ K) fun ss => ev (OpEV C) R ⟨oT [], oHeap (passR C.stA (g.num - r.got).toNat r) (n + (g.num - r.got).toNat) ((ss ++ passS C.stA C.stB (g.num - r.got).toNat r).map skR) g fr m xs0⟩ K := by kernel_rfl
def lastR (C : OCry) (r : Rat) : Rat := ⟨r.root, r.own, r.peer, r.send, C.stA r.recv, r.sent, u32w (r.got + 1), r.bef⟩
def oOk (r : Rat) (xs : List (List AV)) (t : ByteArray) : Option Res := some (.tuple [.agg (r.segs (.islR 65 xs)), .str t, .int .i64 0], ⟨0, []⟩)
theorem o_last (C : OCry) (nid : Nat) (r : Rat) (n m : Nat) (xs xs0 : List (List AV)) (g : Msg) (fr : List Int) : ev (OpEV C) oJ ⟨oT [], oHeap r n xs g fr m xs0⟩ (oFin nid) =
    bif !(C.ok (C.stB r.recv) g) then oErr 180 else wSR (cutR n xs) fun ss => bif checkI (lastR C r) ss != 0 then oErr 180 else oOk (lastR C r) (cutR n xs) (C.txt (C.stB r.recv) g) := by kernel_rfl
end Go.Am
/- ratchet: Open: a key that was passed over, at each place. Printed. -/
namespace Go.Am
set_option linter.unusedSimpArgs false
set_option maxRecDepth 100000
def fdL (C : OCry) (R : ACode) (K : Kont) (r : Rat) (ss : List Sk) (m : Nat) (xs0 : List (List AV)) (g : Msg) (fr : List Int) (k : Nat) : Option Res :=
  ev (OpEV C) (.seq (oK [11, 12, 13]) oFd R) ⟨oT [(11, .int .i64 k), (39, .int .i64 k), (40, .bool true)], oHeap r ss.length (ss.map skR) g fr m xs0⟩ K
def fdR (C : OCry) (R : ACode) (K : Kont) (r : Rat) (ss : List Sk) (m : Nat) (xs0 : List (List AV)) (g : Msg) (fr : List Int) (k : Nat) (s : Sk) : Option Res :=
  ev (OpEV C) R ⟨oT [(11, .int .i64 k), (12, .str (C.txt s.sec g)), (13, .bool (C.ok s.sec g))], oHeap r ss.length (ss.map skR) g fr m xs0⟩ K
section
variable (C : OCry) (R : ACode) (K : Kont) (r : Rat) (m : Nat) (xs0 : List (List AV)) (g : Msg) (fr : List Int)
theorem fd_0 (a0 : Sk) (z : List Sk) : fdL C R K r (a0 :: z) m xs0 g fr 0 = if 0 ≤ ((0 : Nat) : Int) ∧ ((0 : Nat) : Int) < (((a0 :: z).length : Nat) : Int) then fdR C R K r (a0 :: z) m xs0 g fr 0 a0 else none := by kernel_rfl
theorem fd_1 (a0 a1 : Sk) (z : List Sk) : fdL C R K r (a0 :: a1 :: z) m xs0 g fr 1 = if 0 ≤ ((1 : Nat) : Int) ∧ ((1 : Nat) : Int) < (((a0 :: a1 :: z).length : Nat) : Int) then fdR C R K r (a0 :: a1 :: z) m xs0 g fr 1 a1 else none := by kernel_rfl
theorem fd_2 (a0 a1 a2 : Sk) (z : List Sk) : fdL C R K r (a0 :: a1 :: a2 :: z) m xs0 g fr 2 = if 0 ≤ ((2 : Nat) : Int) ∧ ((2 : Nat) : Int) < (((a0 :: a1 :: a2 :: z).length : Nat) : Int) then fdR C R K r (a0 :: a1 :: a2 :: z) m xs0 g fr 2 a2 else none := by kernel_rfl
theorem fd_3 (a0 a1 a2 a3 : Sk) (z : List Sk) : fdL C R K r (a0 :: a1 :: a2 :: a3 :: z) m xs0 g fr 3 = if 0 ≤ ((3 : Nat) : Int) ∧ ((3 : Nat) : Int) < (((a0 :: a1 :: a2 :: a3 :: z).length : Nat) : Int) then fdR C R K r (a0 :: a1 :: a2 :: a3 :: z) m xs0 g fr 3 a3 else none := by kernel_rfl
theorem fd_4 (a0 a1 a2 a3 a4 : Sk) (z : List Sk) : fdL C R K r (a0 :: a1 :: a2 :: a3 :: a4 :: z) m xs0 g fr 4 = if 0 ≤ ((4 : Nat) : Int) ∧ ((4 : Nat) : Int) < (((a0 :: a1 :: a2 :: a3 :: a4 :: z).length : Nat) : Int) then fdR C R K r (a0 :: a1 :: a2 :: a3 :: a4 :: z) m xs0 g fr 4 a4 else none := by kernel_rfl
theorem fd_5 (a0 a1 a2 a3 a4 a5 : Sk) (z : List Sk) : fdL C R K r (a0 :: a1 :: a2 :: a3 :: a4 :: a5 :: z) m xs0 g fr 5 = if 0 ≤ ((5 : Nat) : Int) ∧ ((5 : Nat) : Int) < (((a0 :: a1 :: a2 :: a3 :: a4 :: a5 :: z).length : Nat) : Int) then fdR C R K r (a0 :: a1 :: a2 :: a3 :: a4 :: a5 :: z) m xs0 g fr 5 a5 else none := by kernel_rfl
theorem fd_6 (a0 a1 a2 a3 a4 a5 a6 : Sk) (z : List Sk) : fdL C R K r (a0 :: a1 :: a2 :: a3 :: a4 :: a5 :: a6 :: z) m xs0 g fr 6 = if 0 ≤ ((6 : Nat) : Int) ∧ ((6 : Nat) : Int) < (((a0 :: a1 :: a2 :: a3 :: a4 :: a5 :: a6 :: z).length : Nat) : Int) then fdR C R K r (a0 :: a1 :: a2 :: a3 :: a4 :: a5 :: a6 :: z) m xs0 g fr 6 a6 else none := by kernel_rfl
theorem fd_7 (a0 a1 a2 a3 a4 a5 a6 a7 : Sk) (z : List Sk) : fdL C R K r (a0 :: a1 :: a2 :: a3 :: a4 :: a5 :: a6 :: a7 :: z) m xs0 g fr 7 = if 0 ≤ ((7 : Nat) : Int) ∧ ((7 : Nat) : Int) < (((a0 :: a1 :: a2 :: a3 :: a4 :: a5 :: a6 :: a7 :: z).length : Nat) : Int) then fdR C R K r (a0 :: a1 :: a2 :: a3 :: a4 :: a5 :: a6 :: a7 :: z) m xs0 g fr 7 a7 else none := by kernel_rfl
theorem o_fd {ss : List Sk} {k : Nat} {s : Sk} (h8 : k < 8) (h : ss[k]? = some s) : fdL C R K r ss m xs0 g fr k = fdR C R K r ss m xs0 g fr k s := by
  have hl : k < ss.length := (List.getElem?_eq_some_iff.1 h).1
  match k, ss, h, hl with
  | 0, a0 :: z, h, hl =>
    obtain rfl : a0 = s := by simpa using h
    exact (fd_0 C R K r m xs0 g fr a0 z).trans (if_pos ⟨by omega, by omega⟩)
  | 1, a0 :: a1 :: z, h, hl =>
    obtain rfl : a1 = s := by simpa using h
    exact (fd_1 C R K r m xs0 g fr a0 a1 z).trans (if_pos ⟨by omega, by omega⟩)
  | 2, a0 :: a1 :: a2 :: z, h, hl =>
    obtain rfl : a2 = s := by simpa using h
    exact (fd_2 C R K r m xs0 g fr a0 a1 a2 z).trans (if_pos ⟨by omega, by omega⟩)
  | 3, a0 :: a1 :: a2 :: a3 :: z, h, hl =>
    obtain rfl : a3 = s := by simpa using h
    exact (fd_3 C R K r m xs0 g fr a0 a1 a2 a3 z).trans (if_pos ⟨by omega, by omega⟩)
  | 4, a0 :: a1 :: a2 :: a3 :: a4 :: z, h, hl =>
    obtain rfl : a4 = s := by simpa using h
    exact (fd_4 C R K r m xs0 g fr a0 a1 a2 a3 a4 z).trans (if_pos ⟨by omega, by omega⟩)
  | 5, a0 :: a1 :: a2 :: a3 :: a4 :: a5 :: z, h, hl =>
    obtain rfl : a5 = s := by simpa using h
    exact (fd_5 C R K r m xs0 g fr a0 a1 a2 a3 a4 a5 z).trans (if_pos ⟨by omega, by omega⟩)
  | 6, a0 :: a1 :: a2 :: a3 :: a4 :: a5 :: a6 :: z, h, hl =>
    obtain rfl : a6 = s := by simpa using h
    exact (fd_6 C R K r m xs0 g fr a0 a1 a2 a3 a4 a5 a6 z).trans (if_pos ⟨by omega, by omega⟩)
  | 7, a0 :: a1 :: a2 :: a3 :: a4 :: a5 :: a6 :: a7 :: z, h, hl =>
    obtain rfl : a7 = s := by simpa using h
    exact (fd_7 C R K r m xs0 g fr a0 a1 a2 a3 a4 a5 a6 a7 z).trans (if_pos ⟨by omega, by omega⟩)
  | k + 8, _, _, _ => omega
end
end Go.Am
