/- RatchetSeals: part 11 of 50 of its proof. -/
import Derived.Test.YtmkefajojokkfaaGreatD09
set_option linter.unusedVariables false
set_option linter.unusedSimpArgs false
namespace Go.Am
set_option linter.unusedSimpArgs false
section
variable {m : Nat → Nat} {ι ι' : Inj}
theorem VRL.rn {l : List AV} {vs : List Value} (hz : ∀ k f, ι.fz k = some f → ι'.fz k = some f) (h : ∀ id ∈ avIds.avIdsL l, ι' (m id) = ι id) (hv : VRL ι l vs) : VRL ι' (rnL m l) vs := by
  rw [rnL_map]
  refine ⟨by simpa using hv.1, fun i v hi => ?_⟩
  rw [List.getElem?_map] at hi
  cases hg : l[i]? with
  | none => rw [hg] at hi; cases hi
  | some u =>
    rw [hg] at hi
    simp only [Option.map_some, Option.some.injEq] at hi
    subst hi
    obtain ⟨x, hx, hs⟩ := hv.2 i u hg
    exact ⟨x, hx, hs.rn hz fun id hid => h id (mem_avIdsL (List.mem_of_getElem? hg) id hid)⟩
theorem SR.some {v : AV} {x : Value} (hv : SR ι v x) {id : Nat} (hid : id ∈ avIds v) : ∃ p, ι id = some p := by
  cases v with
  | ptr => obtain ⟨p, hp, _⟩ := hv; simp [avIds] at hid; exact ⟨p, by rw [hid]; exact hp⟩
  | win => obtain ⟨p, hp, _⟩ := hv; simp [avIds] at hid; exact ⟨p, by rw [hid]; exact hp⟩
  | slice => obtain ⟨p, a, c, hp, _⟩ := hv; simp [avIds] at hid; exact ⟨p, by rw [hid]; exact hp⟩
  | _ => first | (simp [avIds] at hid; done) | exact hv.elim
theorem mem_avIdsL_iff {id : Nat} : ∀ {l : List AV}, id ∈ avIds.avIdsL l ↔ ∃ v ∈ l, id ∈ avIds v
  | [] => by simp [avIds.avIdsL]
  | v :: r => by simp only [avIds.avIdsL, List.mem_append, mem_avIdsL_iff (l := r), List.mem_cons, exists_eq_or_imp]
theorem CR.some {l : List AV} {vs : List Value} (hv : CR ι (cellsL l) vs) {id : Nat} (hid : id ∈ avIds.avIdsL l) : ∃ p, ι id = some p := by
  obtain ⟨s, hs, hid⟩ := mem_avIdsL_iff.1 hid
  have hm : s ∈ cellsL l := by
    simp only [cellsL, List.mem_flatMap]
    refine ⟨s, hs, ?_⟩
    cases s <;> first | (simp [avIds] at hid; done) | simp [segC]
  obtain ⟨i, hi⟩ := List.mem_iff_getElem?.1 hm
  obtain ⟨x, _, h⟩ := hv.2 i s hi
  exact h.some hid
theorem VA.some {v : AV} {x : Value} (hv : VA ι v x) {id : Nat} (hid : id ∈ avIds v) : ∃ p, ι id = some p := by
  cases v with
  | agg l => obtain ⟨cs, e, wf, hc⟩ := hv; exact hc.some (by simpa [avIds] using hid)
  | _ => first | exact SR.some (ι := ι) (x := x) (by exact hv) hid | exact hv.elim
theorem VAL.some {l : List AV} {vs : List Value} (hv : VAL ι l vs) {id : Nat} (hid : id ∈ avIds.avIdsL l) : ∃ p, ι id = some p := by
  obtain ⟨s, hs, hid⟩ := mem_avIdsL_iff.1 hid
  obtain ⟨i, hi⟩ := List.mem_iff_getElem?.1 hs
  obtain ⟨x, _, h⟩ := hv.2 i s hi
  exact h.some hid
theorem VR.some {v : AV} {x : Value} (hv : VR ι v x) {id : Nat} (hid : id ∈ avIds v) : ∃ p, ι id = some p := by
  cases v with
  | undef => simp [avIds] at hid
  | func f a b =>
    obtain ⟨xs, ys, e, h1, h2⟩ := hv
    simp only [avIds, List.mem_append] at hid
    exact hid.elim h1.some h2.some
  | tuple l => obtain ⟨xs, e, h1⟩ := hv; exact h1.some (by simpa [avIds] using hid)
  | agg l => exact VA.some (v := .agg l) hv hid
  | _ => first | exact SR.some (ι := ι) (x := x) (by exact hv) hid | exact hv.elim
theorem VRL.some {l : List AV} {vs : List Value} (hv : VRL ι l vs) {id : Nat} (hid : id ∈ avIds.avIdsL l) : ∃ p, ι id = some p := by
  obtain ⟨s, hs, hid⟩ := mem_avIdsL_iff.1 hid
  obtain ⟨i, hi⟩ := List.mem_iff_getElem?.1 hs
  obtain ⟨x, _, h⟩ := hv.2 i s hi
  exact h.some hid
end
def dedupN : List Nat → List Nat → List Nat
  | [], acc => acc
  | a :: r, acc => dedupN r (if acc.contains a then acc else acc ++ [a])
def idsOf (h : Heap) (args : List AV) : List Nat :=
  let a := avIds.avIdsL args
  dedupN (a ++ a.flatMap fun id => match h.get id with | some c => blkIds c.blk | none => []) []
def litBlks (h : Heap) (m : Nat → Nat) : List Nat → Nat → List Cell
  | [], _ => []
  | id :: r, k => match h.get id with
    | some c => ⟨k, true, rnBlk m c.blk⟩ :: litBlks h m r (k + 1)
    | none => litBlks h m r (k + 1)
def closed (h : Heap) (ids : List Nat) : Bool := ids.all fun id => match h.get id with | some c => (blkIds c.blk).all ids.contains | none => true
def backN (ids : List Nat) (nid : Nat) (k : Nat) : Nat := match ids[k]? with | some id => id | none => nid
def newOf (B : Nat) (l : List Nat) : List Nat := dedupN (l.filter fun id => decide (B ≤ id)) []
def pureOf (B : Nat) (o : List AV → Heap → (AV → Heap → Option Res) → Option Res) (nid : Nat) (args : List AV) (h : Heap) : Option (AV × Option Blk) :=
  let ids := idsOf h args
  if (avIds.avIdsL args).all ids.contains && closed h ids && decide (ids.length ≤ B) then
    (o (rnL (posN ids) args) ⟨B, litBlks h (posN ids) ids 0⟩ kH).bind fun r =>
      match newOf B (avIds r.1) with
      | [] => some (rnAV (backN ids nid) r.1, none)
      | [n] => match r.2.get n with
        | some ⟨_, false, b⟩ => if (blkIds b).all (· < B) then some (rnAV (backN ids nid) r.1, some (rnBlk (backN ids nid) b)) else none
        | _ => none
      | _ => none
  else none
theorem dedupN_mem {id : Nat} : ∀ {l acc : List Nat}, id ∈ dedupN l acc ↔ id ∈ l ∨ id ∈ acc
  | [], acc => by simp [dedupN]
  | a :: r, acc => by
    simp only [dedupN]
    rw [dedupN_mem]
    split
    · rename_i h
      simp only [List.contains_eq_mem, decide_eq_true_eq] at h
      simp only [List.mem_cons]
      constructor
      · rintro (h1 | h1)
        · exact .inl (.inr h1)
        · exact .inr h1
      · rintro ((rfl | h1) | h1)
        · exact .inr h
        · exact .inl h1
        · exact .inr h1
    · simp only [List.mem_append, List.mem_cons, List.not_mem_nil, or_false]
      constructor
      · rintro (h1 | h1 | h1)
        · exact .inl (.inr h1)
        · exact .inr h1
        · exact .inl (.inl h1)
      · rintro ((rfl | h1) | h1)
        · exact .inr (.inr rfl)
        · exact .inl h1
        · exact .inr (.inl h1)
theorem litBlks_get {h : Heap} {m : Nat → Nat} : ∀ {l : List Nat} {k i : Nat}, findB i (litBlks h m l k) = if k ≤ i then (l[i - k]?).bind fun id => (h.get id).map fun c => ⟨i, true, rnBlk m c.blk⟩ else none
  | [], k, i => by simp [litBlks, findB]
  | id :: r, k, i => by
    simp only [litBlks]
    have ih := litBlks_get (h := h) (m := m) (l := r) (k := k + 1) (i := i)
    by_cases hki : i = k
    · subst hki
      have e : ¬ (i + 1 ≤ i) := by omega
      rw [if_neg e] at ih
      cases hg : h.get id with
      | none => simp only [ih]; simp [hg]
      | some c => simp [findB, hg]
    · have hne : ¬ k = i := fun e => hki e.symm
      have hrest : findB i (litBlks h m r (k + 1)) = if k ≤ i then ((id :: r)[i - k]?).bind fun id => (h.get id).map fun c => ⟨i, true, rnBlk m c.blk⟩ else none := by
        rw [ih]
        by_cases hlt : k ≤ i
        · rw [if_pos (by omega), if_pos hlt]
          rw [show i - k = (i - (k + 1)) + 1 by omega, List.getElem?_cons_succ]
        · rw [if_neg (by omega), if_neg hlt]
      cases hg : h.get id with
      | none => exact hrest
      | some c => simp only [findB, hne, if_false]; exact hrest
structure FnOk (P : Program) (f : FuncId) (B : Nat) (o : List AV → Heap → (AV → Heap → Option Res) → Option Res) : Prop where
  sound : ∀ args h v h' ι w (vs : Array Value), o args h kH = some (v, h') → HRel ι h w → Fresh ι h.next → h.next = B → VRL ι args vs.toList → CallsV P f vs w fun x w' => EffB B ι h w v h' x w'
theorem pureOf_ok {P : Program} {f : FuncId} {B : Nat} {o : List AV → Heap → (AV → Heap → Option Res) → Option Res} (ho : FnOk P f B o) : PureOk P f (pureOf B o) := by
  intro nid args h v ob ι w vs hk R hn ha
  unfold pureOf at hk
  simp only at hk
  split at hk <;> try (cases hk; done)
  rename_i hcond
  simp only [Bool.and_eq_true, List.all_eq_true, List.contains_eq_mem, decide_eq_true_eq] at hcond
  obtain ⟨⟨hargs, hcl⟩, hlen⟩ := hcond
  generalize hids : idsOf h args = ids at *
  cases hr : o (rnL (posN ids) args) ⟨B, litBlks h (posN ids) ids 0⟩ kH with
  | none => rw [hr] at hk; cases hk
  | some r =>
    obtain ⟨v0, h'⟩ := r
    rw [hr] at hk
    simp only [Option.bind_some] at hk
    let ι0 : Inj := { ι with pl := fun k => (ids[k]?).bind ι }
    have hpos : ∀ id ∈ ids, ι0 (posN ids id) = ι id := fun id hid => by simp only [ι0, posN_get hid, Option.bind_some]
    have hget : ∀ k c, (Heap.mk B (litBlks h (posN ids) ids 0)).get k = some c → ∃ id c0, ids[k]? = some id ∧ h.get id = some c0 ∧ c = ⟨k, true, rnBlk (posN ids) c0.blk⟩ := by
      intro k c hg
      simp only [Heap.get] at hg
      rw [litBlks_get] at hg
      simp only [Nat.zero_le, if_true, Nat.sub_zero] at hg
      cases hi : ids[k]? with
      | none => rw [hi] at hg; cases hg
      | some id =>
        rw [hi] at hg
        simp only [Option.bind_some] at hg
        cases hgi : h.get id with
        | none => rw [hgi] at hg; cases hg
        | some c0 =>
          rw [hgi] at hg
          simp only [Option.map_some, Option.some.injEq] at hg
          exact ⟨id, c0, rfl, hgi, hg.symm⟩
    have hclosed : ∀ id c, id ∈ ids → h.get id = some c → ∀ i ∈ blkIds c.blk, i ∈ ids := by
      intro id c hid hg i hi
      simp only [closed, List.all_eq_true] at hcl
      have := hcl id hid
      rw [hg] at this
      simp only [List.all_eq_true, List.contains_eq_mem, decide_eq_true_eq] at this
      exact this i hi
    have R0 : HRel ι0 ⟨B, litBlks h (posN ids) ids 0⟩ w := by
      refine ⟨fun k c hg => ?_, fun k f hk => ⟨(R.fz k f hk).1.ids fun _ _ h => h, fun k c p hg hro => ?_⟩, fun id1 c1 p1 id2 c2 p2 g1 g2 hne hro => ?_⟩
      rotate_left
      · obtain ⟨_, _, _, _, rfl⟩ := hget k c hg
        cases hro
      rotate_left
      · obtain ⟨id, c0, h1, h2, rfl⟩ := hget k c hg
        obtain ⟨p, hp, wf, hs, h0, h3⟩ := R.blk id c0 h2
        obtain ⟨e1, e2⟩ := cells_rn (posN ids) wf
        refine ⟨p, by simp only [ι0, h1, Option.bind_some, hp], e2, by rw [e1]; simpa using hs, h0, fun hn => ?_⟩
        rcases h3 hn with h3 | h3
        rotate_left
        · exact .inr (h3.rn _)
        obtain ⟨arr, el, fz, g1, g2, g3, g4, g5⟩ := h3.row
        refine .inl ⟨arr, el, fz, g1, g2, g3, fun i u hu => ?_, fun hro => by cases hro⟩
        simp only [e1] at hu
        rw [List.getElem?_map] at hu
        cases hcu : c0.blk.cells[i]? with
        | none => rw [hcu] at hu; cases hu
        | some u0 =>
          rw [hcu] at hu
          simp only [Option.map_some, Option.some.injEq] at hu
          subst hu
          obtain ⟨x, hx, hs⟩ := g4 i u0 hcu
          exact ⟨x, hx, hs.rn (fun k f (h : ι.fz k = some f) => h) fun i hi => hpos i (hclosed id c0 (List.mem_of_getElem? h1) h2 i (mem_blkIds wf (List.mem_of_getElem? hcu) i hi))⟩
      · obtain ⟨_, _, _, _, rfl⟩ := hget id1 c1 g1
        cases hro
    have hfr : Fresh ι0 B := fun k hk => by
      have : ids[k]? = none := by rw [List.getElem?_eq_none_iff]; omega
      simp only [ι0, this, Option.bind_none]
    have hnoown : ∀ k, ¬ Own ι0 ⟨B, litBlks h (posN ids) ids 0⟩ k := by
      rintro k ⟨id, c, p, hg, hro, _⟩
      obtain ⟨_, _, _, _, rfl⟩ := hget id c hg
      cases hro
    refine (ho.sound _ _ v0 h' ι0 w vs hr R0 hfr rfl (ha.rn (fun k f (h : ι.fz k = some f) => h) fun id hid => hpos id (hargs id hid))).mono fun x w' E => ?_
    obtain ⟨ι', e1, e2, e3, e4⟩ := E
    have hsame : ∀ k, k < B → ι' k = ι0 k := e3.same
    have hback : ∀ (q : Option Place) k, k < B → (∃ p, ι' k = some p) → (match q with | some q => ι.upd nid q | none => ι) (backN ids nid k) = ι' k := by
      intro q k hk ⟨p, hp⟩
      have h1 := hsame k hk
      rw [hp] at h1
      simp only [ι0] at h1
      cases hi : ids[k]? with
      | none => rw [hi] at h1; cases h1
      | some id =>
        rw [hi] at h1
        simp only [Option.bind_some] at h1
        have hne : id ≠ nid := by rintro rfl; rw [hn] at h1; cases h1
        simp only [backN, hi]
        cases q with
        | none => rw [hp]; exact h1.symm
        | some q => simp only []; rw [Inj.upd_ne _ _ hne, hp]; exact h1.symm
    have hfrm : ∀ k, k < w.heap.size → w'.heap[k]? = w.heap[k]? := fun k hk => e3.frame k hk (hnoown k)
    have hfz : ∀ k f, ι'.fz k = some f → ι.fz k = some f ∨ (w.heap.size ≤ k ∧ FzR (ι.frz ι'.fz) w' k f) := fun k f hk => by
      rcases e3.fzo k f hk with h1 | h1 | h1
      · exact .inl h1
      · exact absurd h1 (hnoown _)
      · exact .inr ⟨h1, (e2.fz k f hk).1.ids fun _ _ h => h⟩
    split at hk
    · rename_i hnew
      simp only [Option.some.injEq, Prod.mk.injEq] at hk
      obtain ⟨rfl, rfl⟩ := hk
      refine ⟨e3.os, e3.tape, e3.output, e3.size, hfrm, ι'.fz, e3.fz, hfz, ?_⟩
      refine VR.rn (fun k f (h : ι'.fz k = some f) => h) (fun id hid => ?_) e1
      have hlt : id < B := by
        rcases Nat.lt_or_ge id B with h1 | h1
        · exact h1
        · have : id ∈ newOf B (avIds v0) := by
            unfold newOf
            rw [dedupN_mem]
            exact .inl (List.mem_filter.2 ⟨hid, by simpa using h1⟩)
          rw [hnew] at this; cases this
      exact hback none id hlt (e1.some hid)
    · rename_i n hnew
      split at hk <;> try (cases hk; done)
      rename_i ci b hg
      split at hk <;> try (cases hk; done)
      rename_i hbi
      simp only [List.all_eq_true, decide_eq_true_eq] at hbi
      simp only [Option.some.injEq, Prod.mk.injEq] at hk
      obtain ⟨rfl, rfl⟩ := hk
      obtain ⟨q, hq, wf, hs, h0, h3⟩ := e2.blk n _ hg
      have hnB : B ≤ n := by
        have : n ∈ newOf B (avIds v0) := by rw [hnew]; simp
        unfold newOf at this
        rw [dedupN_mem] at this
        rcases this with h1 | h1
        · simpa using (List.mem_filter.1 h1).2
        · cases h1
      have hbn : backN ids nid n = nid := by
        have : ids[n]? = none := by rw [List.getElem?_eq_none_iff]; omega
        simp only [backN, this]
      refine ⟨e3.os, e3.tape, e3.output, e3.size, hfrm, ι'.fz, e3.fz, hfz, q, fun hlim => ⟨?_, ?_⟩, ?_, ?_⟩
      · rcases e3.own q.blk ⟨n, _, q, hg, rfl, hq, hlim, rfl⟩ with h1 | h1
        · exact absurd h1 (hnoown _)
        · exact h1
      · cases hk : ι'.fz q.blk with
        | none => rfl
        | some f => exact absurd rfl ((e2.fz _ f hk).2 n _ q hg rfl hq hlim)
      · obtain ⟨c1, c2⟩ := cells_rn (backN ids nid) wf
        refine ⟨q, Inj.upd_same _ _ _, c2, by rw [c1]; simpa using hs, h0, fun hlim => ?_⟩
        rcases h3 hlim with h3 | h3
        rotate_left
        · exact .inr (h3.rn _)
        obtain ⟨arr, el, fz, g1, g2, g3, g4, g5⟩ := h3.row
        refine .inl ⟨arr, el, fz, g1, g2, g3, fun i u hu => ?_, g5⟩
        simp only [c1] at hu
        rw [List.getElem?_map] at hu
        cases hcu : b.cells[i]? with
        | none => rw [hcu] at hu; cases hu
        | some u0 =>
          rw [hcu] at hu
          simp only [Option.map_some, Option.some.injEq] at hu
          subst hu
          obtain ⟨y, hy, hsr⟩ := g4 i u0 hcu
          exact ⟨y, hy, hsr.rn (fun k f (h : ι'.fz k = some f) => h) fun i hi => hback (some q) i (hbi i (mem_blkIds wf (List.mem_of_getElem? hcu) i hi)) (hsr.some hi)⟩
      · refine VR.rn (fun k f (h : ι'.fz k = some f) => h) (fun id hid => ?_) e1
        rcases Nat.lt_or_ge id B with h1 | h1
        · exact hback (some q) id h1 (e1.some hid)
        · have : id ∈ newOf B (avIds v0) := by
            unfold newOf
            rw [dedupN_mem]
            exact .inl (List.mem_filter.2 ⟨hid, by simpa using h1⟩)
          rw [hnew] at this
          simp only [List.mem_singleton] at this
          subst this
          rw [hbn, Inj.upd_same, hq]
    · cases hk
theorem evFn_ok {P : Program} {Γ : Env} (hΓ : EnvOk P Γ) (hm : P.follows .mixedOrders = true) {B : Nat} {f : FuncId} {fn : Func} {af : AFn} (hf : P.funcs[f]? = some fn) (hl : lowFn P B fn af = true) : FnOk P f B fun args h κ => evFn Γ af args h κ where
  sound := fun args h v h' ι w vs hk R hfr hB ha => evFn_sound hΓ hm hf hl hk R hfr (by rw [hB]; exact Nat.le_refl _) ha
def AOk : AV → Prop
  | .int k n => rng k n
  | .ints k n xs => xs.length = n ∧ ∀ x ∈ xs, rng k x
  | .agg l => AOkL l
  | _ => True
where AOkL : List AV → Prop
  | [] => True
  | v :: r => AOk v ∧ AOkL r
abbrev ArgsOk (l : List AV) : Prop := AOk.AOkL l
theorem AOkL_iff {l : List AV} : ArgsOk l ↔ ∀ v ∈ l, AOk v := by
  induction l with
  | nil => simp [ArgsOk, AOk.AOkL]
  | cons v r ih =>
    simp only [ArgsOk, AOk.AOkL, List.mem_cons, forall_eq_or_imp]
    exact and_congr_right fun _ => ih
section
variable {ι : Inj}
theorem SR.ok {v : AV} {x : Value} (h : SR ι v x) : AOk v := by
  cases v <;> first | trivial | exact h.2 | exact h.elim
theorem CR.ok {l : List AV} {vs : List Value} (wf : SegsWf l) (h : CR ι (cellsL l) vs) : ArgsOk l := by
  rw [AOkL_iff]
  intro s hs
  have cell : ∀ v ∈ segC s, ∃ x, SR ι v x := by
    intro v hv
    have hm : v ∈ cellsL l := by simp only [cellsL, List.mem_flatMap]; exact ⟨s, hs, hv⟩
    obtain ⟨i, hi⟩ := List.mem_iff_getElem?.1 hm
    obtain ⟨x, _, hsr⟩ := h.2 i v hi
    exact ⟨x, hsr⟩
  have w := wf s hs
  cases s with
  | ints k n xs =>
    refine ⟨w, fun x hx => ?_⟩
    obtain ⟨y, hy⟩ := cell (.int k x) (by simp only [segC, List.mem_map]; exact ⟨x, hx, rfl⟩)
    exact hy.2
  | agg => exact w.elim
  | tuple => exact w.elim
  | undef => exact w.elim
  | func => exact w.elim
  | _ => obtain ⟨y, hy⟩ := cell _ (List.mem_singleton.2 rfl); exact hy.ok
theorem VA.ok {v : AV} {x : Value} (h : VA ι v x) : AOk v := by
  cases v with
  | agg l => obtain ⟨cs, e, wf, hc⟩ := h; exact hc.ok wf
  | _ => first | exact SR.ok (ι := ι) (x := x) (by exact h) | exact h.elim
theorem VR.ok {v : AV} {x : Value} (h : VR ι v x) : AOk v := by
  cases v with
  | undef => trivial
  | func => trivial
  | tuple => trivial
  | agg l => exact VA.ok (v := .agg l) h
  | _ => first | exact SR.ok (ι := ι) (x := x) (by exact h) | exact h.elim
theorem VRL.ok {l : List AV} {vs : List Value} (h : VRL ι l vs) : ArgsOk l := by
  rw [AOkL_iff]
  intro v hv
  obtain ⟨i, hi⟩ := List.mem_iff_getElem?.1 hv
  obtain ⟨x, _, hr⟩ := h.2 i v hi
  exact hr.ok
end
variable {P : Program} {f : FuncId}
theorem FnOk.pure {B : Nat} {o : List AV → Heap → (AV → Heap → Option Res) → Option Res} {o' : Nat → List AV → Heap → Option (AV × Option Blk)} (ho : FnOk P f B o)
    (h : ∀ nid args hp r, ArgsOk args → o' nid args hp = some r → pureOf B o nid args hp = some r) : PureOk P f o' :=
  fun nid args hp v ob ι w vs hk R hn ha => pureOf_ok ho nid args hp v ob ι w vs (h nid args hp (v, ob) ha.ok hk) R hn ha
theorem env_ok_none : EnvOk P fun _ => none := fun _ _ h => by cases h
def envAdd (f : FuncId) (o : Orc) (Γ : Env) : Env := fun g => if g = f then some o else Γ g
theorem envAdd_ok {o : Orc} {Γ : Env} (h : OrcOk P f o) (hΓ : EnvOk P Γ) : EnvOk P (envAdd f o Γ) := by
  intro g o' hg
  unfold envAdd at hg
  split at hg
  · rename_i e; subst e; cases hg; exact h
  · exact hΓ g o' hg
theorem wrap_u64 (n : Int) : IntKind.u64.wrap n = n % 18446744073709551616 := by simp [IntKind.wrap, IntKind.bits, IntKind.signed]
theorem wrap_u32 (n : Int) : IntKind.u32.wrap n = n % 4294967296 := by simp [IntKind.wrap, IntKind.bits, IntKind.signed]
theorem wrap_u8 (n : Int) : IntKind.u8.wrap n = n % 256 := by simp [IntKind.wrap, IntKind.bits, IntKind.signed]
theorem ofInt_toNat (w : Nat) (x : Int) (h0 : 0 ≤ x) (h1 : x < 2 ^ w) : (BitVec.ofInt w x).toNat = x.toNat := by
  obtain ⟨n, rfl⟩ := Int.eq_ofNat_of_zero_le h0
  have h2 : n < 2 ^ w := by exact_mod_cast h1
  simp only [BitVec.toNat_ofInt, Int.toNat_natCast]
  have : ((n : Int) % ((2 ^ w : Nat) : Int)) = (n : Int) := Int.emod_eq_of_lt (by omega) (by exact_mod_cast h2)
  rw [this]; rfl
theorem bw_nat (op : BinOp) (k : IntKind) (hk : k.signed = false) (x y : Nat) (hx : x < 2 ^ k.bits) (hy : y < 2 ^ k.bits) :
    bw op k (x : Int) (y : Int) = match op with
      | .and => ((x &&& y : Nat) : Int)
      | .or => ((x ||| y : Nat) : Int)
      | .xor => ((x ^^^ y : Nat) : Int)
      | _ => bw op k (x : Int) (y : Int) := by
  have ex := ofInt_toNat k.bits (x : Int) (by omega) (by exact_mod_cast hx)
  have ey := ofInt_toNat k.bits (y : Int) (by omega) (by exact_mod_cast hy)
  simp only [Int.toNat_natCast] at ex ey
  have wr : ∀ n : Nat, n < 2 ^ k.bits → k.wrap (n : Int) = (n : Int) := by
    intro n hn
    simp only [IntKind.wrap, hk, Bool.false_and, Bool.false_eq_true, if_false]
    exact Int.emod_eq_of_lt (by omega) (by exact_mod_cast hn)
  cases op <;> simp only [bw, BitVec.toNat_and, BitVec.toNat_or, BitVec.toNat_xor, ex, ey]
  · exact wr _ (Nat.and_lt_two_pow _ hy)
  · exact wr _ (Nat.or_lt_two_pow hx hy)
  · exact wr _ (Nat.xor_lt_two_pow hx hy)
theorem and_mask (x n : Nat) : x &&& (2 ^ n - 1) = x % 2 ^ n := Nat.and_two_pow_sub_one_eq_mod x n
theorem fdiv_pow (x : Int) (n : Nat) : x.fdiv (2 ^ n) = x / 2 ^ n := Int.fdiv_eq_ediv_of_nonneg _ (Int.le_of_lt (Int.pow_pos (by decide)))
end Go.Am
