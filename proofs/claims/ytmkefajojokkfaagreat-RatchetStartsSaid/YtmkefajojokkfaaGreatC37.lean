/- RatchetStarts: part 38 of 50 of its proof. -/
import Derived.Test.YtmkefajojokkfaaGreatC33
import Derived.Test.YtmkefajojokkfaaGreatC35
import Derived.Test.YtmkefajojokkfaaGreatC36
import Derived.Test.YtmkefajojokkfaaGreatC07
import Derived.Test.YtmkefajojokkfaaGreatC09
import Derived.Test.YtmkefajojokkfaaGreatC19
set_option linter.unusedVariables false
set_option linter.unusedSimpArgs false
namespace Go.Am
set_option linter.unusedSimpArgs false
set_option maxRecDepth 100000
def pad32 (l : List Int) : List Int := l ++ List.replicate (32 - l.length) 0
def lowK0 : List Int := pad32 []
def lowK1 : List Int := pad32 [1]
def lowK2 : List Int := [0xec, 0xff, 0xff, 0xff, 0xff, 0xff, 0xff, 0xff, 0xff, 0xff, 0xff, 0xff, 0xff, 0xff, 0xff, 0xff, 0xff, 0xff, 0xff, 0xff, 0xff, 0xff, 0xff, 0xff, 0xff, 0xff, 0xff, 0xff, 0xff, 0xff, 0xff, 0x7f]
def lowK3 : List Int := [0xe0, 0xeb, 0x7a, 0x7c, 0x3b, 0x41, 0xb8, 0xae, 0x16, 0x56, 0xe3, 0xfa, 0xf1, 0x9f, 0xc4, 0x6a, 0xda, 0x09, 0x8d, 0xeb, 0x9c, 0x32, 0xb1, 0xfd, 0x86, 0x62, 0x05, 0x16, 0x5f, 0x49, 0xb8, 0x00]
def lowK4 : List Int := [0x5f, 0x9c, 0x95, 0xbc, 0xa3, 0x50, 0x8c, 0x24, 0xb1, 0xd0, 0xb1, 0x55, 0x9c, 0x83, 0xef, 0x5b, 0x04, 0x44, 0x5c, 0xc4, 0x58, 0x1c, 0x8e, 0x86, 0xd8, 0x22, 0x4e, 0xdd, 0xd0, 0x9f, 0x11, 0x57]
def sameE (a b : List Int) : Bool := bytesL a == bytesL b && true
def lowB (u : List Int) : Bool := bif (sameE (fromL lowK0) (fromL u)) then true else bif (sameE (fromL lowK1) (fromL u)) then true else bif (sameE (fromL lowK2) (fromL u)) then true else bif (sameE (fromL lowK3) (fromL u)) then true else sameE (fromL lowK4) (fromL u)
theorem low_run (f : Nat → Int) : evFn G10 af_curve_Low [.agg [.ints .u8 32 (tab 32 f)]] ⟨16, []⟩ kV =
    bif (sameE (fromL lowK0) (fromL (tab 32 f))) then yes true else bif (sameE (fromL lowK1) (fromL (tab 32 f))) then yes true else bif (sameE (fromL lowK2) (fromL (tab 32 f))) then yes true else
      bif (sameE (fromL lowK3) (fromL (tab 32 f))) then yes true else bif (sameE (fromL lowK4) (fromL (tab 32 f))) then yes true else yes false := by kernel_rfl
def lowO : OrcP := fun _ args _ => match args with
  | [.agg [.ints .u8 32 u]] => some (.bool (lowB u), none)
  | _ => none
theorem low_pure {P : Program} {f : FuncId} (F : Fn P f G10 af_curve_Low) : PureOk P f lowO := by
  refine F.plain fun nid args hp r ha hr => ?_
  unfold lowO at hr
  split at hr
  · rename_i u
    cases hr
    obtain ⟨⟨⟨hl, _⟩, _⟩, _⟩ := ha
    obtain ⟨k, rfl⟩ := tab_of hl
    refine ⟨rfl, rfl, rfl, (low_run k).trans ?_⟩
    unfold lowB
    cases sameE (fromL lowK0) (fromL (tab 32 k)) <;> cases sameE (fromL lowK1) (fromL (tab 32 k)) <;> cases sameE (fromL lowK2) (fromL (tab 32 k)) <;> cases sameE (fromL lowK3) (fromL (tab 32 k)) <;> cases sameE (fromL lowK4) (fromL (tab 32 k)) <;> rfl
  · cases hr
set_option maxRecDepth 100000
abbrev L1 := List Int → List Int
abbrev L3 := List Int → List Int → List Int → List Int
def lowQ (L : List Int → Bool) : OrcP := fun _ args _ => match args with
  | [.agg [.ints .u8 32 u]] => some (.bool (L u), none)
  | _ => none
def twoQ (A B : L1) : OrcP := fun _ args _ => match args with
  | [.agg [.ints .u8 32 k], .str s, .nils] => if s.data = sRat.data then some (.tuple [key (A k), key (B k)], none) else none
  | _ => none
def derQ (D : L1) : OrcP := fun _ args _ => match args with
  | [.agg [.ints .u8 32 k], .str s, .nils] => if s.data = sSec.data then some (key (D k), none) else none
  | _ => none
def turnQ (T U : L3) : OrcP := fun _ args _ => match args with
  | [.agg [.ints .u8 32 a], .agg [.ints .u8 32 b], .agg [.ints .u8 32 c]] => some (.tuple [key (T a b c), key (U a b c)], none)
  | _ => none
structure StC where
  low : List Int → Bool
  a : L1
  b : L1
  d : L1
  t : L3
  u : L3
def n32 : List Int := List.replicate 32 0
def nRat : Rat := ⟨n32, n32, n32, n32, n32, 0, 0, 0⟩
def beginR (C : StC) (p : List Int) (f : Bool) (s u x : List Int) : Rat := bif f then ⟨C.t (C.a p) x u, x, u, C.u (C.a p) x u, C.d p, 0, 0, 0⟩ else ⟨C.a p, s, u, C.d p, n32, 0, 0, 0⟩
def StE (C : StC) : Env := envAdd id_curve_Low (.pure (lowQ C.low)) (envAdd id_kdf_Two (.pure (twoQ C.a C.b)) (envAdd id_kdf_Derive (.pure (derQ C.d)) (envAdd id_ratchet_turn (.pure (turnQ C.t C.u)) G10)))
def SrE (C : StC) : Env := envAdd id_hollowtreeref05_Two (.pure (twoQ C.a C.b)) (envAdd id_hollowtreeref05_Derive (.pure (derQ C.d)) (envAdd id_hollowtreeref17_Turn (.pure (turnQ C.t C.u)) G10))
def side (p : List Int) (f : Bool) (s u x : List Int) : List AV := [.agg [.ints .u8 32 p, .bool f], key s, key u, key x]
def ratO (r : Rat) : AV := .agg (r.segs .nils)
theorem start_run1 (C : StC) (p s u x : List Int) (f : Bool) : evFn (StE C) af_ratchet_Start (side p f s u x) ⟨16, []⟩ kV =
    bif C.low u then some (.tuple [ratO nRat, .int .i64 130], ⟨0, []⟩) else bif !f then some (.tuple [ratO ⟨C.a p, s, u, C.d p, n32, 0, 0, 0⟩, .int .i64 0], ⟨0, []⟩) else some (.tuple [ratO ⟨C.t (C.a p) x u, x, u, C.u (C.a p) x u, C.d p, 0, 0, 0⟩, .int .i64 0], ⟨0, []⟩) := by kernel_rfl
theorem startR_run1 (C : StC) (p s u x : List Int) (f : Bool) : evFn (SrE C) af_hollowtreeref17_Start (side p f s u x) ⟨16, []⟩ kV =
    bif f then some (ratO ⟨C.t (C.a p) x u, x, u, C.u (C.a p) x u, C.d p, 0, 0, 0⟩, ⟨0, []⟩) else some (ratO ⟨C.a p, s, u, C.d p, n32, 0, 0, 0⟩, ⟨0, []⟩) := by kernel_rfl
abbrev SdV := List Int → Bool → List Int → List Int → List Int → Rat
def startO (L : List Int → Bool) (V : SdV) : OrcP := fun _ args _ => match args with
  | [.agg [.ints .u8 32 p, .bool f], .agg [.ints .u8 32 s], .agg [.ints .u8 32 u], .agg [.ints .u8 32 x]] => some (bif L u then .tuple [ratO nRat, .int .i64 130] else .tuple [ratO (V p f s u x), .int .i64 0], none)
  | _ => none
def startRO (V : SdV) : OrcP := fun _ args _ => match args with
  | [.agg [.ints .u8 32 p, .bool f], .agg [.ints .u8 32 s], .agg [.ints .u8 32 u], .agg [.ints .u8 32 x]] => some (ratO (V p f s u x), none)
  | _ => none
theorem start_pure {P : Program} {f : FuncId} {C : StC} (F : Fn P f (StE C) af_ratchet_Start) : PureOk P f (startO C.low (beginR C)) := by
  refine F.plain fun nid args hp r ha hr => ?_
  unfold startO at hr
  split at hr <;> try (cases hr; done)
  rename_i p f s u x
  cases hr
  refine ⟨rfl, ?_, rfl, (start_run1 C p s u x f).trans ?_⟩
  · cases C.low u <;> rfl
  · cases C.low u <;> cases f <;> rfl
theorem startR_pure {P : Program} {f : FuncId} {C : StC} (F : Fn P f (SrE C) af_hollowtreeref17_Start) : PureOk P f (startRO (beginR C)) := by
  refine F.plain fun nid args hp r ha hr => ?_
  unfold startRO at hr
  split at hr <;> try (cases hr; done)
  rename_i p f s u x
  cases hr
  refine ⟨rfl, rfl, rfl, (startR_run1 C p s u x f).trans ?_⟩
  cases f <;> rfl
def startC (L : List Int → Bool) (V : SdV) : OrcF := fun args h κ => match args with
  | [.agg [.ints .u8 32 p, .bool f], .agg [.ints .u8 32 s], .agg [.ints .u8 32 u], .agg [.ints .u8 32 x]] => bif L u then κ (.tuple [ratO nRat, .int .i64 130]) h else κ (.tuple [ratO (V p f s u x), .int .i64 0]) h
  | _ => none
theorem start_full {P : Program} {f : FuncId} {L : List Int → Bool} {V : SdV} (h : PureOk P f (startO L V)) : FullOk P f (startC L V) := by
  refine pure_full h fun args hp κ => ?_
  unfold startC startO
  split
  · rename_i u _
    cases L u <;> rfl
  · first
    | rfl
    | (rename_i hx
       split
       · exact (hx _ _ _ _ _ rfl).elim
       · rfl)
def SameM (b b' : List Nat) : Prop := ∀ x, b.contains x = b'.contains x
theorem okFoot_c {b b' : List Nat} (hc : SameM b b') (F : Foots) (f : Foot) : okFoot b F f = okFoot b' F f := by
  unfold okFoot
  congr 1
  funext g
  rw [hc]
theorem hide_c {b b' : List Nat} (hc : SameM b b') (h : Heap) (n0 : Nat) : h.hide n0 b = h.hide n0 b' := by
  unfold Heap.hide
  congr 1
  congr 1
  funext c
  simp only [seenB]
  rw [hc]
theorem seeBy_c {b b' : List Nat} (hc : SameM b b') (op : AOp) : SameM (seeBy op b) (seeBy op b') := by
  unfold seeBy
  cases op.isShape
  · exact hc
  · exact fun _ => rfl
theorem dop_c {b b' : List Nat} (hc : SameM b b') (Γ : Env) (n0 i : Nat) (op : AOp) (t : List AV) (h : Heap) (κ : AV → Heap → Option Res) : dop Γ n0 i b op t h κ = dop Γ n0 i b' op t h κ := by
  have e1 := hide_c hc h n0
  unfold dop
  rw [e1]
  cases dcls Γ op
  · rfl
  · cases op <;> first | rfl | (dsimp only; rw [hide_c (seeBy_c hc _)])
  · rfl
theorem evDraw_c (Γ : Env) (n0 : Nat) {bs bs' : List (List Nat)} (hc : ∀ i, SameM (bs.getD i []) (bs'.getD i [])) : ∀ (r : List AOper) (i : Nat) (t : List AV) (h : Heap) (F : Foots) (κ : List AV → Heap → Option Res),
    evDraw Γ n0 bs i r t h F κ = evDraw Γ n0 bs' i r t h F κ
  | [], _, _, _, _, _ => rfl
  | o :: r, i, t, h, F, κ => by
    simp only [evDraw]
    rw [okFoot_c (hc i)]
    simp only [dop_c (hc i), evDraw_c Γ n0 hc r]
theorem okRest_c (Γ : Env) {bs bs' : List (List Nat)} (hc : ∀ i, SameM (bs.getD i []) (bs'.getD i [])) (j : Nat) (x : AOper) : ∀ (r : List AOper) (i : Nat), okRest Γ j x bs i r = okRest Γ j x bs' i r
  | [], _ => rfl
  | y :: r, i => by
    simp only [okRest]
    rw [hc i, okRest_c Γ hc j x r]
theorem okDraw_c (Γ : Env) {bs bs' : List (List Nat)} (hc : ∀ i, SameM (bs.getD i []) (bs'.getD i [])) : ∀ (r : List AOper) (j : Nat), okDraw Γ bs j r = okDraw Γ bs' j r
  | [], _ => rfl
  | y :: r, j => by
    simp only [okDraw]
    rw [okRest_c Γ hc, okDraw_c Γ hc r]
def addM (l : List Nat) : List Nat → List Nat
  | [] => l
  | x :: r => addM (if l.contains x then l else x :: l) r
theorem addM_mem : ∀ (r l : List Nat) (x : Nat), x ∈ addM l r ↔ x ∈ l ∨ x ∈ r
  | [], l, x => by simp [addM]
  | y :: r, l, x => by
    simp only [addM]
    rw [addM_mem r]
    by_cases h : l.contains y = true
    · rw [if_pos h]
      have : y ∈ l := by simpa using h
      constructor
      · rintro (h | h)
        · exact .inl h
        · exact .inr (List.mem_cons_of_mem _ h)
      · rintro (h | h)
        · exact .inl h
        · rcases List.mem_cons.1 h with rfl | h
          · exact .inl this
          · exact .inr h
    · rw [if_neg h]
      simp only [List.mem_cons]
      constructor
      · rintro ((h | h) | h)
        · exact .inr (.inl h)
        · exact .inl h
        · exact .inr (.inr h)
      · rintro (h | (h | h))
        · exact .inl (.inr h)
        · exact .inl (.inl h)
        · exact .inr h
def befOfD (acc : List (List Nat)) (aft : List Nat) : List Nat := addM (addM [] aft) (aft.flatMap fun j => acc.getD j [])
def befsD : List AOper → List (List Nat) → List (List Nat)
  | [], acc => acc
  | o :: r, acc => befsD r (acc ++ [befOfD acc o.aft])
theorem sameM_of {b b' : List Nat} (h : ∀ x, x ∈ b ↔ x ∈ b') : SameM b b' := fun x => by
  have := h x
  rw [Bool.eq_iff_iff]
  simpa using this
theorem sameM_iff {b b' : List Nat} (h : SameM b b') (x : Nat) : x ∈ b ↔ x ∈ b' := by
  have := h x
  rw [Bool.eq_iff_iff] at this
  simpa using this
theorem befOf_same {acc acc' : List (List Nat)} (hc : ∀ i, SameM (acc.getD i []) (acc'.getD i [])) (aft : List Nat) : SameM (befOf acc aft) (befOfD acc' aft) := by
  refine sameM_of fun x => ?_
  unfold befOf befOfD
  rw [addM_mem, addM_mem]
  simp only [List.mem_append, List.not_mem_nil, false_or, List.mem_flatMap]
  have := fun j => sameM_iff (hc j) x
  simp only [this]
theorem getD_app {α : Type} (l : List α) (x d : α) (i : Nat) : (l ++ [x]).getD i d = if i = l.length then x else l.getD i d := by
  simp only [List.getD_eq_getElem?_getD, List.getElem?_append]
  split
  · rw [if_neg (by omega)]
  · split
    · rename_i h; subst h; simp
    · rw [List.getElem?_eq_none (by simp; omega), List.getElem?_eq_none (by omega)]
theorem befs_same : ∀ (r : List AOper) (acc acc' : List (List Nat)), acc.length = acc'.length → (∀ i, SameM (acc.getD i []) (acc'.getD i [])) → ∀ i, SameM ((befs r acc).getD i []) ((befsD r acc').getD i [])
  | [], _, _, _, hc => hc
  | o :: r, acc, acc', hl, hc => by
    simp only [befs, befsD]
    refine befs_same r _ _ (by simp [hl]) fun i => ?_
    rw [getD_app, getD_app, hl]
    split
    · exact befOf_same hc _
    · exact hc i
theorem ev_drawD (Γ : Env) (ops : List AOper) (st : St) (κ : Kont) : ev Γ (.draw ops) st κ =
    if okDraw Γ (befsD ops []) 0 ops then evDraw Γ st.h.next (befsD ops []) 0 ops st.t st.h [] (fun t h => κ .normal ⟨t, { h with next := st.h.next + stride * ops.length }⟩) else none := by
  have hc := befs_same ops [] [] rfl fun _ _ => rfl
  show (if okDraw Γ (befs ops []) 0 ops then evDraw Γ st.h.next (befs ops []) 0 ops st.t st.h [] _ else none) = _
  rw [okDraw_c Γ hc, evDraw_c Γ _ hc]
set_option maxRecDepth 100000
def rqTop : ACode := af_hollowtreeref17_Same.code
def rqL : ACode := rqTop.r.r.l.r.b.b
def rqCn : Option Canon := some ⟨[], [2, 3, 5], [], [0, 1, 16, 17], 18⟩
def afRqOf (F : Nat) : AFn := ⟨85, [.t 4], .seq none rqTop.l (.seq none rqTop.r.l (.seq none (.seq none rqTop.r.r.l.l (.block 0 none (.loop F rqCn rqL))) rqTop.r.r.r))⟩
def afRq : AFn := afRqOf manyR
def rqSt (a b : Rat) (l1 l2 m1 m2 : Nat) (xs ys : List (List AV)) (i : Int) : St := ⟨mkT 85 [(2, pt 16), (3, pt 17), (5, .int .i64 i)], ⟨18, [roC 0 (.rows 65 m1 xs), roC 1 (.rows 65 m2 ys), cel 16 (a.segs (sl65 0 l1)), cel 17 (b.segs (sl65 1 l2))]⟩⟩
def rqK (nid : Nat) : Kont := kBlock 0 none (kSeq G10 none rqTop.r.r.r (kFn [.t 4] (kOut none nid)))
def ratK (a b : Rat) : Option Res :=
  bif (a.root == b.root) && true then bif (a.own == b.own) && true then bif (a.peer == b.peer) && true then bif (a.send == b.send) && true then bif (a.recv == b.recv) && true then
    bif a.sent == b.sent then bif a.got == b.got then yes (a.bef == b.bef) else yes false else yes false else yes false else yes false else yes false else yes false else yes false
theorem rq_round (L : St → Option Res) (nid : Nat) (a b : Rat) (l1 l2 m1 m2 : Nat) (xs ys : List (List AV)) (i : Int) : ev G10 rqL (rqSt a b l1 l2 m1 m2 xs ys i) (kLoop rqCn L (rqK nid)) =
    bif decide (i < l1) then rowAt i l1 xs fun s => rowAt i l2 ys fun s' => eqvK true (.agg t65) (.agg s) (.agg s') fun v => condK (.c v) (rqSt a b l1 l2 m1 m2 xs ys i) (fun _ => yes false) (fun _ => L (rqSt a b l1 l2 m1 m2 xs ys (w63 (i + 1))))
    else ratK a b := by kernel_rfl
theorem rq_start (F nid : Nat) (a b : Rat) (l1 l2 m1 m2 : Nat) (xs ys : List (List AV)) : ev G10 (afRqOf F).code ⟨[.agg (a.segs (sl65 0 l1)), .agg (b.segs (sl65 1 l2))] ++ List.replicate 83 .undef, seH m1 m2 xs ys⟩ (kFn [.t 4] (kOut none nid)) =
    bif (l1 : Int) != (l2 : Int) then yes false else loopK rqCn (ev G10 rqL) F (rqSt a b l1 l2 m1 m2 xs ys 0) (rqK nid) := by kernel_rfl
theorem ratK_eq (a b : Rat) : ratK a b = yes (ratEq a b) := by
  simp only [ratK, ratEq, Bool.and_true]
  cases (a.root == b.root) <;> cases (a.own == b.own) <;> cases (a.peer == b.peer) <;> cases (a.send == b.send) <;> cases (a.recv == b.recv) <;> cases (a.sent == b.sent) <;> cases (a.got == b.got) <;> cases (a.bef == b.bef) <;> rfl
theorem rq_loop (nid : Nat) (a b : Rat) (m1 m2 : Nat) (ss ts : List Sk) (hl : ss.length ≤ 1152921504606846976) (hle : ss.length = ts.length) : ∀ (r u pre pre' : List Sk) (F : Nat), ss = pre ++ r → ts = pre' ++ u → pre.length = pre'.length → r.length < F →
    loopK rqCn (ev G10 rqL) F (rqSt a b ss.length ts.length m1 m2 (ss.map skR) (ts.map skR) (pre.length : Int)) (rqK nid) = yes (eqSks r u && ratEq a b)
  | [], [], pre, pre', F + 1, he, _, _, _ => by
    refine (rq_round _ nid a b ss.length ts.length m1 m2 _ _ _).trans ?_
    have : ss.length = pre.length := by rw [he]; simp
    rw [this, decide_eq_false (by omega), cond_false]
    exact ratK_eq a b
  | s :: r, t :: u, pre, pre', F + 1, he, he', hp, hF => by
    have hlen : ss.length = pre.length + r.length + 1 := by rw [he]; simp; omega
    have hs : ss[pre.length]? = some s := by rw [he]; simp
    have ht : ts[pre.length]? = some t := by rw [he', hp]; simp
    refine (rq_round _ nid a b ss.length ts.length m1 m2 _ _ _).trans ?_
    rw [decide_eq_true (by omega), cond_true, rowAt_eq pre.length (by omega) hs, rowAt_eq pre.length (by omega) ht, eqv_sk]
    have ih := rq_loop nid a b m1 m2 ss ts hl hle r u (pre ++ [s]) (pre' ++ [t]) F (by rw [he]; simp) (by rw [he']; simp) (by simp [hp]) (by simp at hF; omega)
    rw [w63_of (by omega) (by omega)]
    have e : (((pre ++ [s]).length : Nat) : Int) = (pre.length : Int) + 1 := by simp
    rw [e] at ih
    simp only [eqSks]
    cases skEq s t
    · rfl
    · simp only [Bool.not_true, condK, cond_false, Bool.true_and]
      exact ih
  | [], _ :: _, pre, pre', _, he, he', hp, _ => by rw [he, he'] at hle; simp at hle; omega
  | _ :: _, [], pre, pre', _, he, he', hp, _ => by rw [he, he'] at hle; simp at hle; omega
  | _ :: _, _ :: _, _, _, 0, _, _, _, h => by omega
theorem rq_run (nid : Nat) (a b : Rat) (m1 m2 : Nat) (ss ts : List Sk) (hl : ss.length ≤ 1152921504606846976) :
    evFn G10 afRq [.agg (a.segs (sl65 0 ss.length)), .agg (b.segs (sl65 1 ts.length))] (seH m1 m2 (ss.map skR) (ts.map skR)) (kOut none nid) = yes (sameB a b ss ts) := by
  refine (evFn_eq ..).trans ?_
  refine (rq_start _ nid a b _ _ _ _ _ _).trans ?_
  by_cases h : ss.length = ts.length
  · rw [show ((ss.length : Int) != (ts.length : Int)) = false by simp [h], cond_false, sameB, Bool.and_comm]
    exact rq_loop nid a b m1 m2 ss ts hl h ss ts [] [] manyR rfl rfl rfl (Nat.lt_of_le_of_lt hl (of_decide_eq_true rfl))
  · rw [show ((ss.length : Int) != (ts.length : Int)) = true by simp; omega, cond_true, sameB, eqSks_len h, Bool.and_false]
theorem rq_pure {P : Program} {f : FuncId} (F : Fn P f G10 afRq) : PureOk P f rsameO := by
  refine F.lit [.agg [.rows 65], .agg [.rows 65]] none fun nid args hp r ha hr => ?_
  unfold rsameO at hr
  split at hr <;> try (cases hr; done)
  obtain ⟨a, l, e1, hr1⟩ := withRat_eq hr
  obtain ⟨b, l', e2, hr2⟩ := withRat_eq hr1
  obtain ⟨ss, hc, hl, hr3⟩ := withSks_eq hr2
  obtain ⟨ts, hc', hl', hr4⟩ := withSks_eq hr3
  cases hr4
  subst e1 e2
  refine ⟨_, _, by simp only [viewArgs, check_view hc, check_view hc', Option.bind_some, Option.map_some, List.append_nil, List.length_singleton]; rfl, by simp, ?_⟩
  exact rq_run nid a b _ _ ss ts hl
set_option maxRecDepth 100000
def wakesSC : OrcF := fun args h κ => match args with
  | [] => κ (.bool true) h
  | _ => none
theorem wakesS_full {P : Program} {f : FuncId} (h : PureOk P f wakesO) : FullOk P f wakesSC := by
  refine pure_full h fun args hp κ => ?_
  unfold wakesSC wakesO
  split
  · rfl
  · first
    | rfl
    | (rename_i hx
       split
       · exact (hx rfl).elim
       · rfl)
def LsEV (L : List Int → Bool) (V : SdV) : Env := envAdd id_hollowtreelaw17_wakes (.full wakesSC) (envAdd id_ratchet_Start (.full (startC L V)) (envAdd id_hollowtreeref03_Low (.pure (lowQ L)) (envAdd id_ratchet_Same (.pure rsameO) (envAdd id_hollowtreeref17_Start (.pure (startRO V)) (envAdd id_hollowtreeref17_Same (.pure rsameO) (envAdd id_ratchet_Check (.pure checkO) G10))))))
def sideV (p : List Int) (f : Bool) (s u x : List Int) : AV := .agg [.ints .u8 32 p, .bool f, .ints .u8 32 s, .ints .u8 32 u, .ints .u8 32 x]
theorem starts_run1 (L : List Int → Bool) (V : SdV) (p s u x : List Int) (f : Bool) : evFn (LsEV L V) af_hollowtreelaw17_RatchetStarts [sideV p f s u x] ⟨16, []⟩ kV =
    bif L u then (bif L u then yes (sameB nRat nRat [] []) else yes false) else
      (bif L u then yes false else bif sameB (V p f s u x) (V p f s u x) [] [] then yes (checkI (V p f s u x) [] == 0) else yes false) := by kernel_rfl
set_option maxRecDepth 100000
def cTop : ACode := af_hollowtreeref03_Num_carry.code
def cA : ACode := cTop.l
def cI1 : ACode := cTop.r.l.l
def cL1 : ACode := cTop.r.l.r.b.b
def cEnd : ACode := cTop.r.r
def cHd : ACode := cL1.l
def cBd : ACode := cL1.r.b
def cB0 : ACode := cBd.l
def cI2 : ACode := cBd.r.l.l
def cL2 : ACode := cBd.r.l.r.b.b
def cB9 : ACode := cBd.r.r
def cCn1 : Option Canon := some ⟨[], [1, 2, 3], [], [16, 17], 18⟩
def cCn2 : Option Canon := some ⟨[], [1, 2, 3, 4], [], [16, 17], 18⟩
def cBody : ACode := .seq none cHd (.block 1 none (.seq none cB0 (.seq none (.seq none cI2 (.block 2 none (.loop 1000 cCn2 cL2))) cB9)))
def afCarry : AFn := ⟨37, [.cell 2 true 16], .seq none cA (.seq none (.seq none cI1 (.block 0 none (.loop 1000 cCn1 cBody))) cEnd)⟩
def z16 : List Int := List.replicate 16 0
def cHp (l : List Int) : Am.Heap := ⟨18, [cel 16 [.ints .i64 16 l], cel 17 [.ints .i64 16 z16]]⟩
def cS1 (l : List Int) (c : Int) : St := ⟨mkT 37 [(1, pt 16), (2, pt 17), (3, .int .i64 c)], cHp l⟩
def cS2 (l : List Int) (c i : Int) : St := ⟨mkT 37 [(1, pt 16), (2, pt 17), (3, .int .i64 c), (4, .int .i64 i)], cHp l⟩
theorem c_round2 (L : St → Option Res) (κ : Kont) (l : List Int) (c i : Int) : ev G10 cL2 (cS2 l c i) (kLoop cCn2 L κ) =
    bif decide (i < 16) then at? i 16 l fun a => bif decide ((w63 (a + c)).tmod 65536 < 0) then set? i 16 (L (cS2 (l.set i.toNat (w63 ((w63 (a + c)).tmod 65536 + 65536))) (w63 (w63 ((w63 (a + c)).tdiv 65536) - 1)) (w63 (i + 1))))
      else set? i 16 (L (cS2 (l.set i.toNat ((w63 (a + c)).tmod 65536)) (w63 ((w63 (a + c)).tdiv 65536)) (w63 (i + 1))))
    else κ (.exit 2) (withT 9 (.bool false) (withT 8 (.int .i64 i) (cS2 l c i))) := by kernel_rfl
def passD : List Int → Int → List Int × Int
  | [], c => ([], c)
  | x :: r, c => ((w63 (x + c)) % 65536 :: (passD r ((w63 (x + c)) / 65536)).1, (passD r ((w63 (x + c)) / 65536)).2)
theorem w63_rng (n : Int) : -9223372036854775808 ≤ w63 n ∧ w63 n < 9223372036854775808 := by
  simp only [w63, IntKind.wrap, IntKind.bits, IntKind.signed]
  have e : ((2 : Int) ^ 64) = 18446744073709551616 := by decide
  have e2 : ((2 : Int) ^ (64 - 1)) = 9223372036854775808 := by decide
  simp only [e, e2, Bool.true_and, decide_eq_true_eq, ge_iff_le]
  split <;> omega
theorem td (X : Int) (h0 : -9223372036854775808 ≤ X) (h1 : X < 9223372036854775808) :
    (X.tmod 65536 < 0 → w63 (X.tmod 65536 + 65536) = X % 65536 ∧ w63 (w63 (X.tdiv 65536) - 1) = X / 65536) ∧ (¬ X.tmod 65536 < 0 → X.tmod 65536 = X % 65536 ∧ w63 (X.tdiv 65536) = X / 65536) := by
  have a1 : X.tdiv 65536 = if 0 ≤ X then X / 65536 else -((-X) / 65536) := by
    split
    · exact Int.tdiv_eq_ediv_of_nonneg ‹_›
    · have : X = -(-X) := by omega
      rw [this, Int.neg_tdiv, Int.tdiv_eq_ediv_of_nonneg (by omega), Int.neg_neg]
  have a2 : X.tmod 65536 = X - 65536 * X.tdiv 65536 := by have := Int.tmod_add_mul_tdiv X 65536; omega
  rw [a2, a1]
  split
  · exact ⟨fun h => by omega, fun h => ⟨by omega, w63_id (by omega) (by omega)⟩⟩
  · refine ⟨fun h => ?_, fun h => ?_⟩
    · rw [w63_id (by omega) (by omega), w63_id (n := -(-X / 65536)) (by omega) (by omega), w63_id (by omega) (by omega)]
      omega
    · exact ⟨by omega, (w63_id (by omega) (by omega)).trans (by omega)⟩
theorem c_loop2 (κ : Kont) : ∀ (r pre : List Int) (c : Int) (F : Nat), pre.length + r.length = 16 → r.length < F →
    loopK cCn2 (ev G10 cL2) F (cS2 (pre ++ r) c (pre.length : Int)) κ = κ (.exit 2) (withT 9 (.bool false) (withT 8 (.int .i64 16) (cS2 (pre ++ (passD r c).1) (passD r c).2 16)))
  | [], pre, c, F + 1, hl, _ => by
    refine (c_round2 _ κ _ c _).trans ?_
    have e : pre.length = 16 := by simpa using hl
    rw [e]
    rfl
  | x :: r, pre, c, F + 1, hl, hF => by
    refine (c_round2 _ κ _ c _).trans ?_
    have hp : pre.length < 16 := by simp at hl; omega
    rw [decide_eq_true (by omega), cond_true, at?_eq pre.length rfl (by omega) (by simp)]
    have e1 : g0 (pre ++ x :: r) pre.length = x := by simp [g0, List.getD_eq_getElem?_getD]
    rw [e1, set?_eq pre.length rfl hp, set?_eq pre.length rfl hp, wS _ (by omega), Int.toNat_natCast]
    have e2 : ∀ y, (pre ++ x :: r).set pre.length y = (pre ++ [y]) ++ r := fun y => by simp
    rw [e2, e2]
    have ih := fun y c' => c_loop2 κ r (pre ++ [y]) c' F (by simp at hl ⊢; omega) (by simp at hF; omega)
    have hln : ∀ y : Int, (((pre ++ [y]).length : Nat) : Int) = ((pre.length + 1 : Nat) : Int) := fun y => by simp
    obtain ⟨t1, t2⟩ := td (w63 (x + c)) (w63_rng _).1 (w63_rng _).2
    simp only [passD]
    by_cases hd : (w63 (x + c)).tmod 65536 < 0
    · rw [decide_eq_true hd, cond_true, (t1 hd).1, (t1 hd).2, ← hln (w63 (x + c) % 65536), ih]
      simp only [List.append_assoc, List.singleton_append]
    · rw [decide_eq_false hd, cond_false, (t2 hd).1, (t2 hd).2, ← hln (w63 (x + c) % 65536), ih]
      simp only [List.append_assoc, List.singleton_append]
  | _ :: _, _, _, 0, _, h => by omega
theorem c_p1 (F : Nat) (C R : ACode) (L : St → Option Res) (κ : Kont) (l : List Int) (c : Int) : ev G10 (.seq none cHd (.block 1 none (.seq none cB0 (.seq none (.seq none cI2 (.block 2 none (.loop F cCn2 C))) R)))) (cS1 l c) (kLoop cCn1 L κ) =
    bif c != 0 then loopK cCn2 (ev G10 C) F (cS2 l 0 0) (kBlock 2 none (kSeq G10 none R (kBlock 1 none (kLoop cCn1 L κ)))) else κ (.exit 0) (withT 7 (.bool false) (withT 6 (.int .i64 c) (cS1 l c))) := by kernel_rfl
theorem c_p2 (L : St → Option Res) (κ : Kont) (x : Int) (l : List Int) (c : Int) : ev G10 cB9 (withT 9 (.bool false) (withT 8 (.int .i64 16) (cS2 (x :: l) c 16))) (kBlock 1 none (kLoop cCn1 L κ)) = L (cS1 (w63 (x + w63 (38 * c)) :: l) c) := by kernel_rfl
theorem c_end (l : List Int) (c : Int) : ev G10 cEnd (withT 7 (.bool false) (withT 6 (.int .i64 c) (cS1 l c))) (kFn [.cell 2 true 16] kV) = some (.agg [.ints .i64 16 l], ⟨0, []⟩) := by kernel_rfl
set_option maxRecDepth 100000
def carN (l : List Int) : List Int := match (passD l 0).1 with
  | y :: t => w63 (y + w63 (38 * (passD l 0).2)) :: t
  | [] => []
def carF : Nat → List Int → Int → List Int
  | 0, l, _ => l
  | k + 1, l, c => if c = 0 then l else carF k (carN l) (passD l 0).2
def carD : Nat → List Int → Int → Prop
  | 0, _, c => c = 0
  | k + 1, l, c => c = 0 ∨ carD k (carN l) (passD l 0).2
theorem passD_len : ∀ (l : List Int) (c : Int), (passD l c).1.length = l.length
  | [], _ => rfl
  | x :: r, c => by simp only [passD, List.length_cons, passD_len r]
theorem carN_len (l : List Int) : (carN l).length = l.length := by
  have := passD_len l 0
  unfold carN
  split
  · rename_i h; rw [h] at this; simpa using this
  · rename_i h; rw [h] at this; simpa using this
theorem c_body (L : St → Option Res) (κ : Kont) (l : List Int) (c : Int) (hl : l.length = 16) (hc : c ≠ 0) : ev G10 cBody (cS1 l c) (kLoop cCn1 L κ) = L (cS1 (carN l) (passD l 0).2) := by
  refine (c_p1 1000 cL2 cB9 L κ l c).trans ?_
  rw [show (c != 0) = true by simpa using hc, cond_true]
  have h2 := c_loop2 (kBlock 2 none (kSeq G10 none cB9 (kBlock 1 none (kLoop cCn1 L κ)))) l [] 0 1000 (by simpa using hl) (by omega)
  simp only [List.nil_append, List.length_nil] at h2
  refine (show _ = _ from h2).trans ?_
  rw [kBlock_exit]
  unfold carN
  have hp := passD_len l 0
  cases hd : (passD l 0).1 with
  | nil => rw [hd] at hp; simp [hl] at hp
  | cons y t => exact c_p2 L κ y t _
theorem c_loop1 (κ : Kont) : ∀ (k : Nat) (l : List Int) (c : Int) (F : Nat), l.length = 16 → carD k l c → k < F → loopK cCn1 (ev G10 cBody) F (cS1 l c) κ = κ (.exit 0) (withT 7 (.bool false) (withT 6 (.int .i64 0) (cS1 (carF k l c) 0)))
  | 0, l, c, F + 1, hl, hd, _ => by
    obtain rfl : c = 0 := hd
    exact c_p1 1000 cL2 cB9 _ κ l 0
  | k + 1, l, c, F + 1, hl, hd, hF => by
    by_cases hc : c = 0
    · subst hc
      refine (c_p1 1000 cL2 cB9 _ κ l 0).trans ?_
      simp only [carF, if_true]
      rfl
    · refine (c_body _ κ l c hl hc).trans ?_
      simp only [carF]
      rw [if_neg hc]
      exact c_loop1 κ k (carN l) _ F (by rw [carN_len, hl]) (hd.resolve_left hc) (by omega)
  | _, _, _, 0, _, _, h => by omega
theorem carF_len : ∀ (k : Nat) (l : List Int) (c : Int), (carF k l c).length = l.length
  | 0, _, _ => rfl
  | k + 1, l, c => by
    simp only [carF]
    split
    · rfl
    · rw [carF_len k, carN_len]
def vL : List Int → Int
  | [] => 0
  | x :: r => x + 65536 * vL r
def DigL (l : List Int) : Prop := ∀ x ∈ l, 0 ≤ x ∧ x < 65536
def BndL (b : Int) (l : List Int) : Prop := ∀ x ∈ l, -b ≤ x ∧ x ≤ b
theorem passD_dig : ∀ (l : List Int) (c : Int), DigL (passD l c).1
  | [], _ => fun x hx => by simp [passD] at hx
  | x :: r, c => fun y hy => by
    simp only [passD, List.mem_cons] at hy
    rcases hy with rfl | hy
    · omega
    · exact passD_dig r _ y hy
theorem passD_c : ∀ (l : List Int) (c : Int), (-140737488355328 ≤ c ∧ c ≤ 140737488355328) → -140737488355328 ≤ (passD l c).2 ∧ (passD l c).2 ≤ 140737488355328
  | [], c, h => h
  | x :: r, c, _ => by
    simp only [passD]
    have := w63_rng (x + c)
    exact passD_c r _ (by omega)
theorem passD_val : ∀ (l : List Int) (c : Int), BndL 4611686018427387904 l → (-140737488355328 ≤ c ∧ c ≤ 140737488355328) → vL (passD l c).1 + (passD l c).2 * 65536 ^ l.length = vL l + c
  | [], c, _, _ => by simp [passD, vL]
  | x :: r, c, h, hc => by
    have hx := h x (List.mem_cons_self ..)
    have e : w63 (x + c) = x + c := w63_id (by omega) (by omega)
    simp only [passD, vL, List.length_cons]
    rw [e]
    have ih := passD_val r ((x + c) / 65536) (fun y hy => h y (List.mem_cons_of_mem _ hy)) (by omega)
    have e2 : (passD r ((x + c) / 65536)).2 * 65536 ^ (r.length + 1) = 65536 * ((passD r ((x + c) / 65536)).2 * 65536 ^ r.length) := by
      rw [Int.pow_succ]; grind
    rw [e2]
    generalize (passD r ((x + c) / 65536)).2 * 65536 ^ r.length = T at ih
    omega
theorem dig_val : ∀ {l : List Int}, DigL l → 0 ≤ vL l ∧ vL l < 65536 ^ l.length
  | [], _ => by simp [vL]
  | x :: r, h => by
    have hx := h x (List.mem_cons_self ..)
    obtain ⟨h0, h1⟩ := dig_val fun y hy => h y (List.mem_cons_of_mem x hy)
    simp only [vL, List.length_cons, Int.pow_succ]
    generalize (65536 : Int) ^ r.length = T at h1
    omega
def wI : Int := 115792089237316195423570985008687907853269984665640564039457584007913129639936
theorem w16 : (65536 : Int) ^ 16 = wI := by decide
theorem carN_val {l : List Int} (hl : l.length = 16) (hb : BndL 4611686018427387904 l) : 0 ≤ vL (passD l 0).1 ∧ vL (passD l 0).1 < wI ∧ vL (passD l 0).1 + (passD l 0).2 * wI = vL l ∧ vL (carN l) = vL (passD l 0).1 + 38 * (passD l 0).2 := by
  have hv := passD_val l 0 hb (by omega)
  have hd := dig_val (passD_dig l 0)
  rw [passD_len, hl, w16] at hd
  rw [hl, w16] at hv
  refine ⟨hd.1, hd.2, by omega, ?_⟩
  have hc := passD_c l 0 (by omega)
  have hp := passD_len l 0
  have hdg := passD_dig l 0
  unfold carN
  cases he : (passD l 0).1 with
  | nil => rw [he] at hp; simp [hl] at hp
  | cons y t =>
    rw [he] at hdg
    have hy := hdg y (List.mem_cons_self ..)
    simp only [vL]
    rw [w63_id (n := 38 * (passD l 0).2) (by omega) (by omega), w63_id (by omega) (by omega)]
    omega
theorem carN_bnd (l : List Int) : BndL 4611686018427387904 (carN l) ∧ ∃ y t, (l ≠ [] → carN l = y :: t) ∧ DigL t ∧ (-5348024557502464 ≤ y ∧ y ≤ 5348024557568000) := by
  have hc := passD_c l 0 (by omega)
  have hp := passD_len l 0
  have hdg := passD_dig l 0
  unfold carN
  cases he : (passD l 0).1 with
  | nil =>
    rw [he] at hp
    have : l = [] := List.eq_nil_of_length_eq_zero (by simpa using hp.symm)
    exact ⟨fun x hx => by simp at hx, 0, [], fun h => absurd this h, fun x hx => by simp at hx, by omega⟩
  | cons y t =>
    rw [he] at hdg
    have hy := hdg y (List.mem_cons_self ..)
    have e : w63 (y + w63 (38 * (passD l 0).2)) = y + 38 * (passD l 0).2 := by
      rw [w63_id (n := 38 * (passD l 0).2) (by omega) (by omega), w63_id (by omega) (by omega)]
    dsimp only
    rw [e]
    refine ⟨fun x hx => ?_, _, t, fun _ => rfl, fun x hx => hdg x (List.mem_cons_of_mem _ hx), by omega⟩
    rcases List.mem_cons.1 hx with rfl | hx
    · omega
    · have := hdg x (List.mem_cons_of_mem _ hx); omega
theorem car_val (l : List Int) (hl : l.length = 16) : -5348024557502464 ≤ vL (carN l) ∧ vL (carN l) < wI + 5348024557568000 := by
  obtain ⟨_, y, t, h1, h2, h3⟩ := carN_bnd l
  have e := h1 (by intro h; rw [h] at hl; simp at hl)
  have hlen := carN_len l
  rw [e] at hlen
  have ht : t.length = 15 := by simp at hlen; omega
  have hd := dig_val h2
  rw [ht] at hd
  rw [e]
  simp only [vL]
  have w15 : (65536 : Int) ^ 15 * 65536 = wI := by decide
  generalize (65536 : Int) ^ 15 = T at hd w15
  omega
theorem car_ends (l : List Int) (hl : l.length = 16) : carD 3 l 1 := by
  right
  have hl1 := (carN_len l).trans hl
  by_cases c1 : (passD l 0).2 = 0
  · exact .inl c1
  right
  obtain ⟨a1, a2, a3, a4⟩ := carN_val hl1 (carN_bnd l).1
  have hv := car_val l hl
  by_cases c2 : (passD (carN l) 0).2 = 0
  · exact .inl c2
  right
  obtain ⟨b1, b2, b3, b4⟩ := carN_val ((carN_len _).trans hl1) (carN_bnd (carN l)).1
  show (passD (carN (carN l)) 0).2 = 0
  simp only [wI] at *
  generalize (passD (carN l) 0).2 = C2 at *
  generalize (passD (carN (carN l)) 0).2 = C3 at *
  generalize vL (passD (carN l) 0).1 = V2 at *
  generalize vL (passD (carN (carN l)) 0).1 = V3 at *
  generalize vL (carN (carN l)) = U2 at *
  generalize vL (carN l) = U1 at *
  omega
set_option maxRecDepth 100000
abbrev M1 := List Int → List Int
abbrev M2 := List Int → List Int → List Int
def carL (l : List Int) : List Int := carF 3 l 1
theorem carL_len (l : List Int) : (carL l).length = l.length := carF_len 3 l 1
theorem carN_dig (l : List Int) (h : (passD l 0).2 = 0) : DigL (carN l) := by
  have hdg := passD_dig l 0
  unfold carN
  cases he : (passD l 0).1 with
  | nil => intro x hx; simp at hx
  | cons y t =>
    rw [he] at hdg
    have hy := hdg y (List.mem_cons_self ..)
    simp only [h]
    have e : w63 (y + w63 (38 * 0)) = y := by
      rw [w63_id (n := 38 * 0) (by omega) (by omega), w63_id (by omega) (by omega)]; omega
    rw [e]
    exact hdg
theorem carF_dig : ∀ (k : Nat) (l : List Int) (c : Int), carD k l c → (c = 0 → DigL l) → DigL (carF k l c)
  | 0, l, c, hd, h => h hd
  | k + 1, l, c, hd, h => by
    simp only [carF]
    split
    · rename_i hc; exact h hc
    · rename_i hc
      exact carF_dig k (carN l) _ (hd.resolve_left hc) fun h0 => carN_dig l h0
theorem carL_dig {l : List Int} (hl : l.length = 16) : DigL (carL l) := carF_dig 3 l 1 (car_ends l hl) fun h => by cases h
theorem carF_val : ∀ (k : Nat) (l : List Int) (c : Int), l.length = 16 → BndL 4611686018427387904 l → ∃ m, vL (carF k l c) = vL l - m * pI
  | 0, l, c, _, _ => ⟨0, by simp [carF]⟩
  | k + 1, l, c, hl, hb => by
    simp only [carF]
    split
    · exact ⟨0, by omega⟩
    · obtain ⟨m, hm⟩ := carF_val k (carN l) (passD l 0).2 ((carN_len l).trans hl) (carN_bnd l).1
      obtain ⟨a1, a2, a3, a4⟩ := carN_val hl hb
      refine ⟨m + 2 * (passD l 0).2, ?_⟩
      rw [hm, a4]
      simp only [wI, pI] at *
      generalize (passD l 0).2 = C at *
      generalize vL (passD l 0).1 = V at *
      rw [← a3]
      grind
theorem carL_val {l : List Int} (hl : l.length = 16) (hb : BndL 4611686018427387904 l) : ∃ m, vL (carL l) = vL l - m * pI := carF_val 3 l 1 hl hb
def n16 (l : List Int) : AV := .agg [.ints .i64 16 l]
theorem c_start (F : Nat) (C R : ACode) (K : Kont) (l : List Int) : ev G10 (.seq none cA (.seq none (.seq none cI1 (.block 0 none (.loop F cCn1 C))) R)) ⟨[n16 l] ++ List.replicate 36 .undef, ⟨16, []⟩⟩ K =
    loopK cCn1 (ev G10 C) F (cS1 l 1) (kBlock 0 none (kSeq G10 none R K)) := by kernel_rfl
theorem car_run {l : List Int} (hl : l.length = 16) : evFn G10 afCarry [n16 l] ⟨16, []⟩ kV = some (n16 (carL l), ⟨0, []⟩) := by
  rw [evFn_eq]
  refine Eq.trans ?_ ((c_start 1000 cBody cEnd (kFn [.cell 2 true 16] kV) l).trans ?_)
  · rfl
  rw [c_loop1 _ 3 l 1 1000 hl (car_ends l hl) (by omega), kBlock_exit, c_end]
  rfl
def num1V (A : M1) : OrcP := fun _ args _ => match args with
  | [.agg [.ints .i64 16 l]] => some (n16 (fixL 16 (A l)), none)
  | _ => none
theorem car_pure {P : Program} {f : FuncId} (F : Fn P f G10 afCarry) : PureOk P f (num1V carL) := by
  refine F.plain fun nid args hp r ha hr => ?_
  unfold num1V at hr
  split at hr <;> try (cases hr; done)
  rename_i l
  cases hr
  obtain ⟨⟨⟨hl, _⟩, _⟩, _⟩ := ha
  refine ⟨rfl, rfl, rfl, ?_⟩
  rw [fixL_eq ((carL_len l).trans hl)]
  exact car_run hl
def Rx0 : Env := envAdd id_hollowtreeref03_Num_carry (.pure (num1V carL)) G10
def Rx0V (C : M1) : Env := envAdd id_hollowtreeref03_Num_carry (.pure (num1V C)) G10
def zipI (g : Int → Int → Int) (a b : List Int) : List Int := tab 16 fun i => g (g0 a i) (g0 b i)
def addF (C : M1) (a b : List Int) : List Int := fixL 16 (C (zipI (fun x y => w63 (x + y)) a b))
def subF (C : M1) (a b : List Int) : List Int := fixL 16 (C (zipI (fun x y => w63 (x - y)) a b))
def smF (C : M1) (a : List Int) (m : Int) : List Int := fixL 16 (C (tab 16 fun i => w63 (g0 a i * m)))
def fromF (k : List Int) : List Int := (tab 15 fun i => w63 (w63 (g0 k (2 * i)) + w63 (256 * w63 (g0 k (2 * i + 1))))) ++ [(w63 (w63 (g0 k 30) + w63 (256 * w63 (g0 k 31)))).tmod 32768]
def foldF (C : M1) (l : List Int) : List Int := fixL 16 (C (tab 16 fun i => w63 (w63 (0 + g0 l i) + w63 (38 * g0 l (16 + i)))))
theorem add_run (C : M1) (f g : Nat → Int) : evFn (Rx0V C) af_hollowtreeref03_Num_Add [n16 (tab 16 f), n16 (tab 16 g)] ⟨16, []⟩ kV = some (n16 (addF C (tab 16 f) (tab 16 g)), ⟨0, []⟩) := by kernel_rfl
theorem sub_run (C : M1) (f g : Nat → Int) : evFn (Rx0V C) af_hollowtreeref03_Num_Sub [n16 (tab 16 f), n16 (tab 16 g)] ⟨16, []⟩ kV = some (n16 (subF C (tab 16 f) (tab 16 g)), ⟨0, []⟩) := by kernel_rfl
theorem sm_run (C : M1) (f : Nat → Int) (m : Int) : evFn (Rx0V C) af_hollowtreeref03_Num_Small [n16 (tab 16 f), .int .i64 m] ⟨16, []⟩ kV = some (n16 (smF C (tab 16 f) m), ⟨0, []⟩) := by kernel_rfl
theorem rfrom_run (f : Nat → Int) : evFn G10 af_hollowtreeref03_From [key (tab 32 f)] ⟨16, []⟩ kV = some (n16 (fromF (tab 32 f)), ⟨0, []⟩) := by kernel_rfl
theorem fold_run (C : M1) (nid : Nat) (f : Nat → Int) : evFn (Rx0V C) af_hollowtreeref03_fold [.slice 0 0 0 32 0 none] ⟨16, [roC 0 (.segs [.ints .i64 32 (tab 32 f)])]⟩ (kOut none nid) = some (n16 (foldF C (tab 32 f)), ⟨0, []⟩) := by kernel_rfl
def num2V (A : M2) : OrcP := fun _ args _ => match args with
  | [.agg [.ints .i64 16 a], .agg [.ints .i64 16 b]] => some (n16 (fixL 16 (A a b)), none)
  | _ => none
def numSV (A : List Int → Int → List Int) : OrcP := fun _ args _ => match args with
  | [.agg [.ints .i64 16 a], .int .i64 m] => some (n16 (fixL 16 (A a m)), none)
  | _ => none
def numKV (A : M1) : OrcP := fun _ args _ => match args with
  | [.agg [.ints .u8 32 k]] => some (n16 (fixL 16 (A k)), none)
  | _ => none
theorem num2_pure {P : Program} {f : FuncId} {Γ : Env} {af : AFn} (F : Fn P f Γ af) {A : M2} (h : ∀ f g : Nat → Int, evFn Γ af [n16 (tab 16 f), n16 (tab 16 g)] ⟨16, []⟩ kV = some (n16 (A (tab 16 f) (tab 16 g)), ⟨0, []⟩)) (hA : ∀ a b, (A a b).length = 16) : PureOk P f (num2V A) := by
  refine F.plain fun nid args hp r ha hr => ?_
  unfold num2V at hr
  split at hr <;> try (cases hr; done)
  rename_i a b
  cases hr
  obtain ⟨⟨⟨h1, _⟩, _⟩, ⟨⟨h2, _⟩, _⟩, _⟩ := ha
  obtain ⟨a, rfl⟩ := tab_of h1
  obtain ⟨b, rfl⟩ := tab_of h2
  refine ⟨rfl, rfl, rfl, ?_⟩
  rw [fixL_eq (hA _ _)]
  exact h a b
theorem radd_pure {P : Program} {f : FuncId} (F : Fn P f (Rx0V carL) af_hollowtreeref03_Num_Add) : PureOk P f (num2V (addF carL)) := num2_pure F (add_run carL) fun _ _ => fixL_len ..
theorem rsub_pure {P : Program} {f : FuncId} (F : Fn P f (Rx0V carL) af_hollowtreeref03_Num_Sub) : PureOk P f (num2V (subF carL)) := num2_pure F (sub_run carL) fun _ _ => fixL_len ..
theorem rsm_pure {P : Program} {f : FuncId} (F : Fn P f (Rx0V carL) af_hollowtreeref03_Num_Small) : PureOk P f (numSV (smF carL)) := by
  refine F.plain fun nid args hp r ha hr => ?_
  unfold numSV at hr
  split at hr <;> try (cases hr; done)
  rename_i a m
  cases hr
  obtain ⟨⟨⟨h1, _⟩, _⟩, _⟩ := ha
  obtain ⟨a, rfl⟩ := tab_of h1
  refine ⟨rfl, rfl, rfl, ?_⟩
  rw [fixL_eq (l := smF carL _ _) (fixL_len ..)]
  exact sm_run carL a m
theorem rfrom_pure {P : Program} {f : FuncId} (F : Fn P f G10 af_hollowtreeref03_From) : PureOk P f (numKV fromF) := by
  refine F.plain fun nid args hp r ha hr => ?_
  unfold numKV at hr
  split at hr <;> try (cases hr; done)
  rename_i a
  cases hr
  obtain ⟨⟨⟨h1, _⟩, _⟩, _⟩ := ha
  obtain ⟨a, rfl⟩ := tab_of h1
  refine ⟨rfl, rfl, rfl, ?_⟩
  rw [fixL_eq (l := fromF _) (by simp [fromF, tab_len])]
  exact rfrom_run a
set_option maxRecDepth 100000
theorem rfold_run {P : Program} {f : FuncId} (F : Fn P f (Rx0V carL) af_hollowtreeref03_fold) : PureOk P f (fun _ args h => match args with
    | [s] => (contI .i64 h s).bind fun xs => if xs.length = 32 then some (n16 (foldF carL xs), none) else none
    | _ => none) := by
  refine F.lit [.sl (.ints .i64)] none fun nid args hp r ha hr => ?_
  split at hr <;> try (cases hr; done)
  rename_i s
  cases hc : contI .i64 hp s with
  | none => rw [hc] at hr; cases hr
  | some xs =>
    rw [hc] at hr
    simp only [Option.bind_some] at hr
    split at hr <;> try (cases hr; done)
    rename_i h32
    cases hr
    refine ⟨_, _, by simp only [viewArgs, contI_isSl hc, if_true, viewS_ints hc, Option.bind_some, Option.map_some]; rfl, by simp, ?_⟩
    rw [h32]
    obtain ⟨g, rfl⟩ := tab_of h32
    exact fold_run carL nid g
def foldV (A : M1) : OrcP := fun _ args h => match args with
  | [s] => (contI .i64 h s).bind fun xs => if xs.length = 32 then some (n16 (fixL 16 (A xs)), none) else none
  | _ => none
theorem rfold_pure {P : Program} {f : FuncId} (F : Fn P f (Rx0V carL) af_hollowtreeref03_fold) : PureOk P f (foldV (foldF carL)) := by
  intro nid args hp v ob ι w vs hk R hn ha
  refine rfold_run F nid args hp v ob ι w vs ?_ R hn ha
  unfold foldV at hk
  simp only
  split at hk <;> try (cases hk; done)
  rename_i s
  cases hc : contI .i64 hp s with
  | none => rw [hc] at hk; cases hk
  | some xs =>
    rw [hc] at hk
    simp only [Option.bind_some] at hk ⊢
    split at hk <;> try (cases hk; done)
    rename_i h32
    rw [if_pos h32, ← hk, fixL_eq (l := foldF carL xs) (fixL_len ..)]
def mTop : ACode := af_hollowtreeref03_Num_Mul.code
def mA : ACode := mTop.l
def mB : ACode := mTop.r.l
def mI0 : ACode := mTop.r.r.l.l
def mL0 : ACode := mTop.r.r.l.r.b.b
def mEnd : ACode := mTop.r.r.r
def mH0 : ACode := mL0.l
def mJ : ACode := mL0.r.l.b.l
def mL1 : ACode := mL0.r.l.b.r.b.b
def mT0 : ACode := mL0.r.r
def mCn0 : Option Canon := some ⟨[], [2, 3, 4, 5, 6], [], [16, 17, 18, 19], 20⟩
def mCn1 : Option Canon := some ⟨[], [2, 3, 4, 5, 6, 7], [], [16, 17, 18, 19], 20⟩
def mBody : ACode := .seq none mH0 (.seq none (.block 1 none (.seq none mJ (.block 2 none (.loop 1000 mCn1 mL1)))) mT0)
def afMul : AFn := ⟨38, [.cell 4 true 16], .seq none mA (.seq none mB (.seq none (.seq none mI0 (.block 0 none (.loop 1000 mCn0 mBody))) mEnd))⟩
def Rm0 : Env := envAdd id_hollowtreeref03_fold (.pure (foldV (foldF carL))) G10
def Rm0V (A : M1) : Env := envAdd id_hollowtreeref03_fold (.pure (foldV A)) G10
def mHp (a b s : List Int) : Am.Heap := ⟨20, [cel 16 [.ints .i64 16 a], cel 17 [.ints .i64 16 b], cel 18 [.ints .i64 16 z16], cel 19 [.ints .i64 32 s]]⟩
def mS0 (a b s : List Int) (i : Int) : St := ⟨mkT 38 [(2, pt 16), (3, pt 17), (4, pt 18), (5, .slice 19 0 0 32 0 (some 32)), (6, .int .i64 i)], mHp a b s⟩
def mS1 (a b s : List Int) (i k : Int) : St := ⟨mkT 38 [(2, pt 16), (3, pt 17), (4, pt 18), (5, .slice 19 0 0 32 0 (some 32)), (6, .int .i64 i), (7, .int .i64 k)], mHp a b s⟩
def setO? {β : Type} (q : Int) (n : Nat) (k : Option β) : Option β := if 0 ≤ q ∧ q < (n : Int) then (if 0 + q.toNat < n then k else none) else none
theorem m_round1 (A : M1) (L : St → Option Res) (κ : Kont) (a b s : List Int) (i k : Int) : ev (Rm0V A) mL1 (mS1 a b s i k) (kLoop mCn1 L κ) =
    bif decide (k < 16) then atO? (w63 (i + k)) 32 0 s fun x => at? i 16 a fun y => at? k 16 b fun z => setO? (w63 (i + k)) 32 (L (mS1 a b (s.set (0 + (w63 (i + k)).toNat) (w63 (x + w63 (y * z)))) i (w63 (k + 1))))
    else κ (.exit 2) (withT 14 (.bool false) (withT 13 (.int .i64 k) (mS1 a b s i k))) := by kernel_rfl
theorem m_p1 (A : M1) (F : Nat) (C : ACode) (L : St → Option Res) (κ : Kont) (a b s : List Int) (i : Int) : ev (Rm0V A) (.seq none mH0 (.seq none (.block 1 none (.seq none mJ (.block 2 none (.loop F mCn1 C)))) mT0)) (mS0 a b s i) (kLoop mCn0 L κ) =
    bif decide (i < 16) then loopK mCn1 (ev (Rm0V A) C) F (mS1 a b s i 0) (kBlock 2 none (kBlock 1 none (kSeq (Rm0V A) none mT0 (kLoop mCn0 L κ)))) else κ (.exit 0) (withT 10 (.bool false) (withT 9 (.int .i64 i) (mS0 a b s i))) := by kernel_rfl
theorem m_p2 (A : M1) (L : St → Option Res) (κ : Kont) (a b s : List Int) (i : Int) : kBlock 2 none (kBlock 1 none (kSeq (Rm0V A) none mT0 (kLoop mCn0 L κ))) (.exit 2) (withT 14 (.bool false) (withT 13 (.int .i64 16) (mS1 a b s i 16))) = L (mS0 a b s (w63 (i + 1))) := by kernel_rfl
theorem m_end (A : M1) (a b : List Int) (f : Nat → Int) : ev (Rm0V A) mEnd (withT 10 (.bool false) (withT 9 (.int .i64 16) (mS0 a b (tab 32 f) 16))) (kFn [.cell 4 true 16] kV) = some (n16 (fixL 16 (A (tab 32 f))), ⟨0, []⟩) := by kernel_rfl
theorem m_start (A : M1) (F : Nat) (C R : ACode) (K : Kont) (a b : List Int) : ev (Rm0V A) (.seq none mA (.seq none mB (.seq none (.seq none mI0 (.block 0 none (.loop F mCn0 C))) R))) ⟨[n16 a, n16 b] ++ List.replicate 36 .undef, ⟨16, []⟩⟩ K =
    loopK mCn0 (ev (Rm0V A) C) F (mS0 a b (List.replicate 32 0) 0) (kBlock 0 none (kSeq (Rm0V A) none R K)) := by kernel_rfl
def rowM (s : List Int) (j : Nat) (a : Int) : List Int → List Int
  | [] => s
  | b :: r => rowM (s.set j (w63 (g0 s j + w63 (a * b)))) (j + 1) a r
def mulT (b s : List Int) (i : Nat) : List Int → List Int
  | [] => s
  | a :: r => mulT b (rowM s i a b) (i + 1) r
theorem rowM_len : ∀ (r s : List Int) (j : Nat) (a : Int), (rowM s j a r).length = s.length
  | [], _, _, _ => rfl
  | b :: r, s, j, a => by simp only [rowM]; rw [rowM_len r, List.length_set]
theorem mulT_len (b : List Int) : ∀ (r s : List Int) (i : Nat), (mulT b s i r).length = s.length
  | [], _, _ => rfl
  | a :: r, s, i => by simp only [mulT]; rw [mulT_len b r, rowM_len]
theorem wAdd (i k : Nat) (h : i + k < 1000) : w63 ((i : Int) + (k : Int)) = ((i + k : Nat) : Int) := by
  rw [← Int.natCast_add, w63_nat (by omega)]
theorem setO?_eq {β : Type} {q : Int} {n : Nat} {k : Option β} (j : Nat) (h : q = (j : Int)) (h1 : j < n) : setO? q n k = k := by
  subst h
  unfold setO?
  rw [if_pos ⟨by omega, by omega⟩, Int.toNat_natCast, if_pos (by omega)]
theorem m_loop1 (A : M1) (κ : Kont) (a b : List Int) (i : Nat) (hi : i < 16) (ha : a.length = 16) (hb : b.length = 16) : ∀ (r pre s : List Int) (F : Nat), b = pre ++ r → s.length = 32 → r.length < F →
    loopK mCn1 (ev (Rm0V A) mL1) F (mS1 a b s i (pre.length : Int)) κ = κ (.exit 2) (withT 14 (.bool false) (withT 13 (.int .i64 16) (mS1 a b (rowM s (i + pre.length) (g0 a i) r) i 16)))
  | [], pre, s, F + 1, he, _, _ => by
    refine (m_round1 A _ κ a b s i _).trans ?_
    have e : pre.length = 16 := by rw [he] at hb; simpa using hb
    rw [e]
    rfl
  | x :: r, pre, s, F + 1, he, hs, hF => by
    refine (m_round1 A _ κ a b s i _).trans ?_
    have hp : pre.length < 16 := by rw [he] at hb; simp at hb; omega
    have e1 : g0 b pre.length = x := by rw [he]; simp [g0, List.getD_eq_getElem?_getD]
    rw [decide_eq_true (by omega), cond_true, wAdd i pre.length (by omega), atO?_eq (i + pre.length) rfl (by omega) (by omega), at?_eq i rfl (by omega) (by omega), at?_eq pre.length rfl (by omega) (by omega), setO?_eq (i + pre.length) rfl (by omega), wS _ (by omega), Int.toNat_natCast, e1, Nat.zero_add]
    have ih := m_loop1 A κ a b i hi ha hb r (pre ++ [x]) (s.set (i + pre.length) (w63 (g0 s (i + pre.length) + w63 (g0 a i * x)))) F (by rw [he]; simp) (by simpa using hs) (by simp at hF; omega)
    have hln : (((pre ++ [x]).length : Nat) : Int) = ((pre.length + 1 : Nat) : Int) := by simp
    rw [hln] at ih
    refine ih.trans ?_
    simp only [rowM, List.length_append, List.length_cons, List.length_nil, Nat.zero_add, Nat.add_assoc]
  | _ :: _, _, _, 0, _, _, h => by omega
theorem m_loop0 (A : M1) (κ : Kont) (a b : List Int) (ha : a.length = 16) (hb : b.length = 16) : ∀ (r pre s : List Int) (F : Nat), a = pre ++ r → s.length = 32 → r.length < F →
    loopK mCn0 (ev (Rm0V A) mBody) F (mS0 a b s (pre.length : Int)) κ = κ (.exit 0) (withT 10 (.bool false) (withT 9 (.int .i64 16) (mS0 a b (mulT b s pre.length r) 16)))
  | [], pre, s, F + 1, he, _, _ => by
    refine (m_p1 A 1000 mL1 _ κ a b s _).trans ?_
    have e : pre.length = 16 := by rw [he] at ha; simpa using ha
    rw [e]
    rfl
  | x :: r, pre, s, F + 1, he, hs, hF => by
    refine (m_p1 A 1000 mL1 _ κ a b s _).trans ?_
    have hp : pre.length < 16 := by rw [he] at ha; simp at ha; omega
    have e1 : g0 a pre.length = x := by rw [he]; simp [g0, List.getD_eq_getElem?_getD]
    rw [decide_eq_true (by omega), cond_true]
    have h1 := m_loop1 A (kBlock 2 none (kBlock 1 none (kSeq (Rm0V A) none mT0 (kLoop mCn0 (fun s => loopK mCn0 (ev (Rm0V A) mBody) F s κ) κ)))) a b pre.length hp ha hb b [] s 1000 rfl hs (by omega)
    refine (show _ = _ from h1).trans ?_
    rw [m_p2, wS _ (by omega), e1]
    have ih := m_loop0 A κ a b ha hb r (pre ++ [x]) (rowM s (pre.length + 0) x b) F (by rw [he]; simp) (by rw [rowM_len]; exact hs) (by simp at hF; omega)
    have hln : (((pre ++ [x]).length : Nat) : Int) = ((pre.length + 1 : Nat) : Int) := by simp
    rw [hln] at ih
    refine ih.trans ?_
    simp only [mulT, List.length_append, List.length_cons, List.length_nil, Nat.zero_add, Nat.add_zero]
  | _ :: _, _, _, 0, _, _, h => by omega
def mulF (A : M1) (a b : List Int) : List Int := fixL 16 (A (mulT b (List.replicate 32 0) 0 a))
theorem mul_runR (A : M1) {a b : List Int} (ha : a.length = 16) (hb : b.length = 16) : evFn (Rm0V A) afMul [n16 a, n16 b] ⟨16, []⟩ kV = some (n16 (mulF A a b), ⟨0, []⟩) := by
  rw [evFn_eq]
  refine Eq.trans ?_ ((m_start A 1000 mBody mEnd (kFn [.cell 4 true 16] kV) a b).trans ?_)
  · rfl
  have h0 := m_loop0 A (kBlock 0 none (kSeq (Rm0V A) none mEnd (kFn [.cell 4 true 16] kV))) a b ha hb a [] (List.replicate 32 0) 1000 rfl (by simp) (by omega)
  refine (show _ = _ from h0).trans ?_
  rw [kBlock_exit]
  obtain ⟨g, hg⟩ := tab_of (xs := mulT b (List.replicate 32 0) 0 a) (n := 32) (by rw [mulT_len]; simp)
  unfold mulF
  rw [show ([] : List Int).length = 0 from rfl, hg]
  exact m_end A a b g
theorem rmul_pure {P : Program} {f : FuncId} (F : Fn P f (Rm0V (foldF carL)) afMul) : PureOk P f (num2V (mulF (foldF carL))) := by
  refine F.plain fun nid args hp r ha hr => ?_
  unfold num2V at hr
  split at hr <;> try (cases hr; done)
  rename_i a b
  cases hr
  obtain ⟨⟨⟨h1, _⟩, _⟩, ⟨⟨h2, _⟩, _⟩, _⟩ := ha
  refine ⟨rfl, rfl, rfl, ?_⟩
  rw [fixL_eq (l := mulF _ _ _) (fixL_len ..)]
  exact mul_runR (foldF carL) h1 h2
set_option maxRecDepth 100000
def yTop : ACode := af_hollowtreeref03_Num_Bytes.code
def yA : ACode := yTop.l
def yB : ACode := yTop.r.l
def yI3 : ACode := yTop.r.r.l.l
def yL3 : ACode := yTop.r.r.l.r.b.b
def yEnd : ACode := yTop.r.r.r
def yH3 : ACode := yL3.l
def yBd : ACode := yL3.r.l.b
def yT3 : ACode := yL3.r.r
def yR1 : ACode := yBd.l
def yR2 : ACode := yBd.r.l
def yL5 : ACode := yBd.r.r.l
def yR3 : ACode := yBd.r.r.r.l
def yR4 : ACode := yBd.r.r.r.r.l
def yI7 : ACode := yBd.r.r.r.r.r.l.l
def yL7 : ACode := yBd.r.r.r.r.r.l.r.b.b
def yRE : ACode := yBd.r.r.r.r.r.r
def yH7 : ACode := yL7.l
def yX5 : ACode := yL7.r.l.b
def yT7 : ACode := yL7.r.r
def yRx : ACode := yX5.l
def yRc : ACode := yX5.r.l
def yLw : ACode := yX5.r.r.l.b.b
def yRst : ACode := yX5.r.r.r
def yCn3 : Option Canon := some ⟨[], [1, 2, 3], [], [16, 17], 18⟩
def yCn7 : Option Canon := some ⟨[], [1, 2, 3, 4, 6, 7], [], [16, 17, 18], 19⟩
def yCnw : Option Canon := some ⟨[], [1, 2, 3, 4, 6, 7, 8], [], [16, 17, 18], 19⟩
def yB7 : ACode := .seq none yH7 (.seq none (.block 5 none (.seq none yRx (.seq none yRc (.seq none (.block 6 none (.loop 1000 yCnw yLw)) yRst)))) yT7)
def yB3 : ACode := .seq none yH3 (.seq none (.block 1 none (.seq none yR1 (.seq none yR2 (.seq none yL5 (.seq none yR3 (.seq none yR4 (.seq none (.seq none yI7 (.block 4 none (.loop 1000 yCn7 yB7))) yRE))))))) yT3)
def afBytes3 : AFn := ⟨79, [.cell 2 true 32], .seq none yA (.seq none yB (.seq none (.seq none yI3 (.block 0 none (.loop 1000 yCn3 yB3))) yEnd))⟩
def z32R : List Int := List.replicate 32 0
def yS3 (l : List Int) (rd : Int) : St := ⟨mkT 79 [(1, pt 16), (2, pt 17), (3, .int .i64 rd)], ⟨18, [cel 16 [.ints .i64 16 l], cel 17 [.ints .u8 32 z32R]]⟩⟩
def yS7 (l m : List Int) (rd c i : Int) : St := ⟨mkT 79 [(1, pt 16), (2, pt 17), (3, .int .i64 rd), (4, pt 18), (6, .int .i64 c), (7, .int .i64 i)], ⟨19, [cel 16 [.ints .i64 16 l], cel 17 [.ints .u8 32 z32R], cel 18 [.ints .i64 16 m]]⟩⟩
def ySw (l m : List Int) (rd c i x : Int) : St := ⟨mkT 79 [(1, pt 16), (2, pt 17), (3, .int .i64 rd), (4, pt 18), (6, .int .i64 c), (7, .int .i64 i), (8, .int .i64 x)], ⟨19, [cel 16 [.ints .i64 16 l], cel 17 [.ints .u8 32 z32R], cel 18 [.ints .i64 16 m]]⟩⟩
def mP (l : List Int) : List Int := w63 (g0 l 0 - 65517) :: ((tab 14 fun i => w63 (g0 l (i + 1) - 65535)) ++ [w63 (g0 l 15 - 32767)])
theorem y_p1 (A : M1) (F : Nat) (C R T : ACode) (L : St → Option Res) (κ : Kont) (f : Nat → Int) (rd : Int) : ev (Rx0V A) (.seq none yH3 (.seq none (.block 1 none (.seq none yR1 (.seq none yR2 (.seq none yL5 (.seq none yR3 (.seq none yR4 (.seq none (.seq none yI7 (.block 4 none (.loop F yCn7 C))) R))))))) T)) (yS3 (tab 16 f) rd) (kLoop yCn3 L κ) =
    bif decide (rd < 3) then loopK yCn7 (ev (Rx0V A) C) F (yS7 (tab 16 f) (mP (tab 16 f)) rd 0 0) (kBlock 4 none (kSeq (Rx0V A) none R (kBlock 1 none (kSeq (Rx0V A) none T (kLoop yCn3 L κ)))))
    else κ (.exit 0) (withT 14 (.bool false) (withT 13 (.int .i64 rd) (yS3 (tab 16 f) rd))) := by kernel_rfl
theorem y_p7 (A : M1) (F : Nat) (C R T : ACode) (L : St → Option Res) (κ : Kont) (l m : List Int) (rd c i : Int) : ev (Rx0V A) (.seq none yH7 (.seq none (.block 5 none (.seq none yRx (.seq none yRc (.seq none (.block 6 none (.loop F yCnw C)) R)))) T)) (yS7 l m rd c i) (kLoop yCn7 L κ) =
    bif decide (i < 16) then at? i 16 m fun x => loopK yCnw (ev (Rx0V A) C) F (ySw l m rd 0 i (w63 (x + c))) (kBlock 6 none (kSeq (Rx0V A) none R (kBlock 5 none (kSeq (Rx0V A) none T (kLoop yCn7 L κ)))))
    else κ (.exit 4) (withT 37 (.bool false) (withT 36 (.int .i64 i) (yS7 l m rd c i))) := by kernel_rfl
theorem y_pw (A : M1) (L : St → Option Res) (κ : Kont) (l m : List Int) (rd c i x : Int) : ev (Rx0V A) yLw (ySw l m rd c i x) (kLoop yCnw L κ) =
    bif decide (x < 0) then L (ySw l m rd (w63 (c - 1)) i (w63 (x + 65536))) else κ (.exit 6) (withT 46 (.bool false) (withT 45 (.int .i64 x) (ySw l m rd c i x))) := by kernel_rfl
theorem y_pe (A : M1) (L : St → Option Res) (κ : Kont) (l m : List Int) (rd c i x : Int) : kBlock 6 none (kSeq (Rx0V A) none yRst (kBlock 5 none (kSeq (Rx0V A) none yT7 (kLoop yCn7 L κ)))) (.exit 6) (withT 46 (.bool false) (withT 45 (.int .i64 x) (ySw l m rd c i x))) =
    set? i 16 (L (yS7 l (m.set i.toNat x) rd c (w63 (i + 1)))) := by kernel_rfl
theorem y_p9 (A : M1) (L : St → Option Res) (κ : Kont) (l m : List Int) (rd c : Int) : kBlock 4 none (kSeq (Rx0V A) none yRE (kBlock 1 none (kSeq (Rx0V A) none yT3 (kLoop yCn3 L κ)))) (.exit 4) (withT 37 (.bool false) (withT 36 (.int .i64 16) (yS7 l m rd c 16))) =
    bif c == 0 then L (yS3 m (w63 (rd + 1))) else L (yS3 l (w63 (rd + 1))) := by kernel_rfl
def bytD : List Int → List Int
  | [] => []
  | x :: r => w8 (x.tmod 256) :: w8 (w63 (x.tdiv 256)) :: bytD r
theorem y_end (A : M1) (f : Nat → Int) : ev (Rx0V A) yEnd (withT 14 (.bool false) (withT 13 (.int .i64 3) (yS3 (tab 16 f) 3))) (kFn [.cell 2 true 32] kV) = some (key (bytD (tab 16 f)), ⟨0, []⟩) := by kernel_rfl
theorem y_start (A : M1) (F : Nat) (C R : ACode) (K : Kont) (l : List Int) : ev (Rx0V A) (.seq none yA (.seq none yB (.seq none (.seq none yI3 (.block 0 none (.loop F yCn3 C))) R))) ⟨[n16 l] ++ List.replicate 78 .undef, ⟨16, []⟩⟩ K =
    loopK yCn3 (ev (Rx0V A) C) F (yS3 (fixL 16 (A l)) 0) (kBlock 0 none (kSeq (Rx0V A) none R K)) := by kernel_rfl
set_option maxRecDepth 100000
def bytV (B : M1) : OrcP := fun _ args _ => match args with
  | [.agg [.ints .i64 16 l]] => some (key (fixL 32 (B l)), none)
  | _ => none
def clampV (B : M1) : OrcP := fun _ args _ => match args with
  | [.agg [.ints .u8 32 l]] => some (key (fixL 32 (B l)), none)
  | _ => none
structure XV where
  cl : M1
  fr : M1
  ad : M2
  sb : M2
  mu : M2
  sm : List Int → Int → List Int
  iv : M1
  byt : M1
def RxX (V : XV) : Env := envAdd id_hollowtreeref03_Clamp (.pure (clampV V.cl)) (envAdd id_hollowtreeref03_From (.pure (numKV V.fr)) (envAdd id_hollowtreeref03_Num_Add (.pure (num2V V.ad)) (envAdd id_hollowtreeref03_Num_Sub (.pure (num2V V.sb))
  (envAdd id_hollowtreeref03_Num_Mul (.pure (num2V V.mu)) (envAdd id_hollowtreeref03_Num_Small (.pure (numSV V.sm)) (envAdd id_hollowtreeref03_Num_Inv (.pure (num1V V.iv)) (envAdd id_hollowtreeref03_Num_Bytes (.pure (bytV V.byt)) G10)))))))
def vTop : ACode := af_hollowtreeref03_X.code
def vA : ACode := vTop.l
def vB : ACode := vTop.r.l
def vC : ACode := vTop.r.r.l
def vD : ACode := vTop.r.r.r.l
def vI : ACode := vTop.r.r.r.r.l.l
def vL0 : ACode := vTop.r.r.r.r.l.r.b.b
def vEnd : ACode := vTop.r.r.r.r.r
def vH : ACode := vL0.l
def vBd : ACode := vL0.r.l.b
def vT : ACode := vL0.r.r
def vR1 : ACode := vBd.l
def vI2 : ACode := vBd.r.l.l
def vL2 : ACode := vBd.r.l.r.b.b
def vRm : ACode := vBd.r.r.l
def vC1 : ACode := vBd.r.r.r.l
def vRest : ACode := vBd.r.r.r.r
def vBl : List Nat := [18, 19, 20, 469, 533, 597, 661]
def vCn0 : Option Canon := some ⟨[], [4, 5, 6, 7, 8, 9, 10, 11], [], vBl, 700⟩
def vCn2 : Option Canon := some ⟨[], [4, 5, 6, 7, 8, 9, 10, 11, 12, 13], [], vBl, 700⟩
def vCnM : Option Canon := some ⟨[], [4, 5, 6, 7, 8, 9, 10, 11, 12], [], vBl, 700⟩
def vBody : ACode := .seq none vH (.seq none (.block 1 none (.seq none vR1 (.seq none (.seq none vI2 (.block 2 none (.loop 1000 vCn2 vL2))) (.seq none vRm (.seq vCnM vC1 vRest))))) vT)
def afX03 : AFn := ⟨122, [.cell 4 true 32], .seq none vA (.seq none vB (.seq none vC (.seq none vD (.seq none (.seq none vI (.block 0 none (.loop 1000 vCn0 vBody))) vEnd))))⟩
structure X4 where
  a : List Int
  b : List Int
  c : List Int
  d : List Int
def X4.sw (s : X4) : X4 := ⟨s.c, s.d, s.a, s.b⟩
def vHp (k x1 : List Int) (s : X4) : Am.Heap := ⟨700, [cel 18 [.ints .u8 32 (List.replicate 32 0)], cel 19 [.ints .u8 32 k], cel 20 [.ints .i64 16 x1], cel 469 [.ints .i64 16 s.a], cel 533 [.ints .i64 16 s.b], cel 597 [.ints .i64 16 s.c], cel 661 [.ints .i64 16 s.d]]⟩
def vSt (k x1 : List Int) (s : X4) (ex : List (Nat × AV)) : St := ⟨mkT 122 ([(4, pt 18), (5, pt 19), (6, pt 20), (7, pt 469), (8, pt 533), (9, pt 597), (10, pt 661)] ++ ex), vHp k x1 s⟩
def vS0 (k x1 : List Int) (s : X4) (at' : Int) : St := vSt k x1 s [(11, .int .i64 at')]
def vS2 (k x1 : List Int) (s : X4) (at' o i : Int) : St := vSt k x1 s [(11, .int .i64 at'), (12, .int .i64 o), (13, .int .i64 i)]
def vSm (k x1 : List Int) (s : X4) (at' o : Int) : St := vSt k x1 s [(11, .int .i64 at'), (12, .int .i64 o)]
def vSx (k x1 : List Int) (s : X4) (at' o i : Int) : St := withT 48 (.bool false) (withT 47 (.int .i64 (at'.tmod 8)) (withT 46 (.int .i64 at') (withT 45 (.int .i64 i) (vS2 k x1 s at' o i))))
theorem v_p1 (V : XV) (F : Nat) (C R T : ACode) (L : St → Option Res) (κ : Kont) (k x1 : List Int) (s : X4) (at' : Int) : ev (RxX V) (.seq none vH (.seq none (.block 1 none (.seq none vR1 (.seq none (.seq none vI2 (.block 2 none (.loop F vCn2 C))) R))) T)) (vS0 k x1 s at') (kLoop vCn0 L κ) =
    bif decide (at' ≥ 0) then at? (w63 (at'.tdiv 8)) 32 k fun o => loopK vCn2 (ev (RxX V) C) F (vS2 k x1 s at' (w63 o) 0) (kBlock 2 none (kSeq (RxX V) none R (kBlock 1 none (kSeq (RxX V) none T (kLoop vCn0 L κ)))))
    else κ (.exit 0) (withT 37 (.bool false) (withT 36 (.int .i64 at') (vS0 k x1 s at'))) := by kernel_rfl
theorem v_p2 (V : XV) (L : St → Option Res) (κ : Kont) (k x1 : List Int) (s : X4) (at' o i : Int) : ev (RxX V) vL2 (vS2 k x1 s at' o i) (kLoop vCn2 L κ) =
    bif decide (i < at'.tmod 8) then L (vS2 k x1 s at' (w63 (o.tdiv 2)) (w63 (i + 1))) else κ (.exit 2) (vSx k x1 s at' o i) := by kernel_rfl
theorem v_p3 (V : XV) (R : ACode) (K : Kont) (k x1 : List Int) (s : X4) (at' o i : Int) : kBlock 2 none (kSeq (RxX V) none (.seq none vRm (.seq vCnM vC1 R)) K) (.exit 2) (vSx k x1 s at' o i) =
    bif o.tmod 2 == 1 then ev (RxX V) R (vSm k x1 s.sw at' (o.tmod 2)) K else ev (RxX V) R (vSm k x1 s at' (o.tmod 2)) K := by kernel_rfl
section
variable (V : XV) (x1 : List Int) (s : X4)
def vgA : List Int := fixL 16 (V.ad s.a s.b)
def vgB : List Int := fixL 16 (V.sb s.a s.b)
def vgC : List Int := fixL 16 (V.ad s.c s.d)
def vgD : List Int := fixL 16 (V.sb s.c s.d)
def vgAA : List Int := fixL 16 (V.mu (vgA V s) (vgA V s))
def vgBB : List Int := fixL 16 (V.mu (vgB V s) (vgB V s))
def vgE : List Int := fixL 16 (V.sb (vgAA V s) (vgBB V s))
def vgDA : List Int := fixL 16 (V.mu (vgD V s) (vgA V s))
def vgCB : List Int := fixL 16 (V.mu (vgC V s) (vgB V s))
def vgS : List Int := fixL 16 (V.ad (vgDA V s) (vgCB V s))
def vgT : List Int := fixL 16 (V.sb (vgDA V s) (vgCB V s))
def vGo : X4 := ⟨fixL 16 (V.mu (vgAA V s) (vgBB V s)), fixL 16 (V.mu (vgE V s) (fixL 16 (V.ad (vgAA V s) (fixL 16 (V.sm (vgE V s) 121665))))), fixL 16 (V.mu (vgS V s) (vgS V s)), fixL 16 (V.mu x1 (fixL 16 (V.mu (vgT V s) (vgT V s))))⟩
end
theorem v_p4 (V : XV) (L : St → Option Res) (κ : Kont) (k x1 : List Int) (s : X4) (at' o : Int) : ev (RxX V) vRest (vSm k x1 s at' o) (kBlock 1 none (kSeq (RxX V) none vT (kLoop vCn0 L κ))) =
    bif o == 1 then L (vS0 k x1 (vGo V x1 s).sw (w63 (at' - 1))) else L (vS0 k x1 (vGo V x1 s) (w63 (at' - 1))) := by kernel_rfl
theorem v_start (V : XV) (F : Nat) (C R : ACode) (K : Kont) (k u : List Int) : ev (RxX V) (.seq none vA (.seq none vB (.seq none vC (.seq none vD (.seq none (.seq none vI (.block 0 none (.loop F vCn0 C))) R))))) ⟨[key k, key u] ++ List.replicate 120 .undef, ⟨16, []⟩⟩ K =
    loopK vCn0 (ev (RxX V) C) F (vS0 (fixL 32 (V.cl k)) (fixL 16 (V.fr u)) ⟨fixL 16 (V.fr (1 :: List.replicate 31 0)), fixL 16 (V.fr (List.replicate 32 0)), fixL 16 (V.fr u), fixL 16 (V.fr (1 :: List.replicate 31 0))⟩ 254) (kBlock 0 none (kSeq (RxX V) none R K)) := by kernel_rfl
theorem v_endX (V : XV) (k x1 : List Int) (s : X4) (at' : Int) : ev (RxX V) vEnd (withT 37 (.bool false) (withT 36 (.int .i64 at') (vS0 k x1 s at'))) (kFn [.cell 4 true 32] kV) =
    some (key (fixL 32 (V.byt (fixL 16 (V.mu s.a (fixL 16 (V.iv s.b)))))), ⟨0, []⟩) := by kernel_rfl
end Go.Am
