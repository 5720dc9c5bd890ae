/- RatchetSeals: part 10 of 50 of its proof. -/
import Derived.Test.YtmkefajojokkfaaGreatD08
set_option linter.unusedVariables false
set_option linter.unusedSimpArgs false
namespace Go.Am
set_option linter.unusedSimpArgs false
theorem BlkR.rn {ι ι' : Inj} {w : World} {id j k : Nat} {c : Cell} {m : Nat → Nat} (hb : BlkR ι w id c) (hj : ι' j = ι id) (hz : ∀ k f, ι.fz k = some f → ι'.fz k = some f) (hids : ∀ i ∈ blkIds c.blk, ι' (m i) = ι i) : BlkR ι' w j ⟨k, c.ro, rnBlk m c.blk⟩ := by
  obtain ⟨p, hp, wf, hs, h0, h3⟩ := hb
  obtain ⟨e1, e2⟩ := cells_rn m wf
  refine ⟨p, by rw [hj]; exact hp, e2, by simp only [e1, List.length_map]; exact hs, h0, fun hn => ?_⟩
  rcases h3 hn with h3 | h3
  rotate_left
  · exact .inr (h3.rn _)
  obtain ⟨arr, el, fz, g1, g2, g3, g4, g5⟩ := h3.row
  refine .inl ⟨arr, el, fz, g1, g2, g3, fun i u hu => ?_, g5⟩
  simp only [e1] at hu
  rw [List.getElem?_map] at hu
  cases hcu : c.blk.cells[i]? with
  | none => rw [hcu] at hu; cases hu
  | some u0 =>
    rw [hcu] at hu
    simp only [Option.map_some, Option.some.injEq] at hu
    subst hu
    obtain ⟨x, hx, hsr⟩ := g4 i u0 hcu
    exact ⟨x, hx, hsr.rn hz fun i hi => hids i (mem_blkIds wf (List.mem_of_getElem? hcu) i hi)⟩
theorem gcBlks_get {h : Heap} {m : Nat → Nat} : ∀ {l : List Nat} {k : Nat} {bl : List Cell}, gcBlks h m l k = some bl → ∀ i, findB i bl = if k ≤ i then (l[i - k]?).bind fun id => (h.get id).map fun c => ⟨i, c.ro, rnBlk m c.blk⟩ else none
  | [], k, bl, hb => by
    simp only [gcBlks, Option.some.injEq] at hb
    subst hb
    exact fun i => by simp [findB]
  | id :: r, k, bl, hb => by
    simp only [gcBlks] at hb
    split at hb <;> try (cases hb; done)
    rename_i c hg
    cases hr : gcBlks h m r (k + 1) with
    | none => rw [hr] at hb; cases hb
    | some bl' =>
      rw [hr] at hb
      simp only [Option.map_some, Option.some.injEq] at hb
      subst hb
      have h2 := gcBlks_get hr
      intro i
      simp only [findB]
      split
      · rename_i e; subst e; simp [hg]
      · rename_i e
        rw [h2]
        by_cases hlt : k ≤ i
        · rw [if_pos (by omega), if_pos hlt, show i - k = (i - (k + 1)) + 1 by omega, List.getElem?_cons_succ]
        · rw [if_neg (by omega), if_neg hlt]
theorem findB_map {f : Cell → Cell} (hf : ∀ c, (f c).id = c.id) : ∀ {l : List Cell} {i : Nat}, findB i (l.map f) = (findB i l).map f
  | [], i => rfl
  | c :: r, i => by
    simp only [List.map_cons, findB, hf]
    split
    · rfl
    · exact findB_map hf
theorem findB_app {i : Nat} : ∀ {a b : List Cell}, findB i (a ++ b) = match findB i a with | some c => some c | none => findB i b
  | [], b => rfl
  | c :: a, b => by
    simp only [List.cons_append, findB]
    split
    · rfl
    · exact findB_app
theorem gcOk_mem {base : Nat} {ids l : List Nat} (h : gcOk base ids l = true) {i : Nat} (hi : i ∈ l) : i < base ∨ i ∈ ids := by
  simp only [gcOk, List.all_eq_true, Bool.or_eq_true, decide_eq_true_eq, List.contains_eq_mem] at h
  exact h i hi
theorem findB_memL {i : Nat} {c : Cell} : ∀ {l : List Cell}, findB i l = some c → c ∈ l ∧ c.id = i
  | [], h => by simp [findB] at h
  | d :: r, h => by
    simp only [findB] at h
    split at h
    · cases h; rename_i hd; exact ⟨by simp, hd⟩
    · obtain ⟨h1, h2⟩ := findB_memL h; exact ⟨by simp [h1], h2⟩
theorem gc_sound {base : Nat} {t0 t : List AV} {h : Heap} {s : St} {ι : Inj} {a : Act} {w : World} (R : RelF ι t0 h a w) (hlen : t.length = t0.length) (ht : ∀ i, t.getD i .undef = t0.getD i .undef ∨ t.getD i .undef = .undef) (hk : gc base t h = some s) :
    ∃ ι', RelF ι' s.t s.h a w ∧ StepB base ι h w ι' s.h w ∧ base ≤ s.h.next := by
  unfold gc at hk
  simp only at hk
  generalize hidsE : (reachN h 1000 (avIds.avIdsL t ++ (h.blks.filter fun c => decide (c.id < base)).flatMap fun c => blkIds c.blk) []).filter (fun i => decide (base ≤ i)) = ids at hk
  split at hk <;> try (cases hk; done)
  rename_i hcond
  simp only [Bool.and_eq_true, List.all_eq_true] at hcond
  obtain ⟨⟨ok1, ok2⟩, ok3⟩ := hcond
  have hnd : ids.Nodup := by rw [← hidsE]; exact (reachN_nodup _ _ _ List.nodup_nil).filter _
  have hge : ∀ i ∈ ids, base ≤ i := fun i hi => by rw [← hidsE] at hi; simpa using (List.mem_filter.1 hi).2
  cases hb : gcBlks h (gcName base ids) ids base with
  | none => rw [hb] at hk; cases hk
  | some new =>
  rw [hb] at hk
  simp only [Option.map_some, Option.some.injEq] at hk
  subst hk
  have hnew := gcBlks_get hb
  let ι' : Inj := { ι with pl := fun j => if j < base then ι j else (ids[j - base]?).bind ι }
  have hm : ∀ i, i < base ∨ i ∈ ids → ι' (gcName base ids i) = ι i := by
    intro i hi
    by_cases hlt : i < base
    · simp only [ι', gcName, hlt, if_true]
    · have hmem := hi.resolve_left hlt
      simp only [ι', gcName, hlt, if_false]
      rw [if_neg (by omega), Nat.add_sub_cancel_left, posN_get hmem]
      rfl
  have hget : ∀ j c, (Heap.mk (base + ids.length) ((h.blks.filter fun c => decide (c.id < base)).map (fun c => { c with blk := rnBlk (gcName base ids) c.blk }) ++ new)).get j = some c →
      ∃ o d, h.get o = some d ∧ c = ⟨c.id, d.ro, rnBlk (gcName base ids) d.blk⟩ ∧ ι' j = ι o ∧ (∀ i ∈ blkIds d.blk, i < base ∨ i ∈ ids) ∧ ((j < base ∧ o = j) ∨ (base ≤ j ∧ ids[j - base]? = some o)) := by
    intro j c hg
    simp only [Heap.get] at hg
    rw [findB_app, findB_map (f := fun c => { c with blk := rnBlk (gcName base ids) c.blk }) (fun _ => rfl), findB_filter (f := fun i => decide (i < base))] at hg
    by_cases hlt : j < base
    · simp only [hlt, decide_true, if_true] at hg
      cases hf : findB j h.blks with
      | none =>
        rw [hf] at hg
        simp only [Option.map_none] at hg
        rw [hnew, if_neg (by omega)] at hg
        cases hg
      | some d =>
        rw [hf] at hg
        simp only [Option.map_some, Option.some.injEq] at hg
        subst hg
        obtain ⟨h1, h2⟩ := findB_memL hf
        refine ⟨j, d, hf, rfl, by simp only [ι', hlt, if_true], fun i hi => gcOk_mem (ok2 d (List.mem_filter.2 ⟨h1, by simpa [h2] using hlt⟩)) hi, .inl ⟨hlt, rfl⟩⟩
    · simp only [hlt, decide_false, Bool.false_eq_true, if_false, Option.map_none] at hg
      rw [hnew, if_pos (by omega)] at hg
      cases hi : ids[j - base]? with
      | none => rw [hi] at hg; cases hg
      | some o =>
        rw [hi] at hg
        simp only [Option.bind_some] at hg
        cases hd : h.get o with
        | none => rw [hd] at hg; cases hg
        | some d =>
          rw [hd] at hg
          simp only [Option.map_some, Option.some.injEq] at hg
          subst hg
          have h3 := ok3 o (List.mem_of_getElem? hi)
          rw [hd] at h3
          exact ⟨o, d, hd, rfl, by simp only [ι', hlt, if_false, hi, Option.bind_some], fun i hi => gcOk_mem h3 hi, .inr ⟨by omega, rfl⟩⟩
  have hz : ∀ k f, ι.fz k = some f → ι'.fz k = some f := fun _ _ h => h
  have hinj : ∀ j1 j2 o : Nat, ((j1 < base ∧ o = j1) ∨ (base ≤ j1 ∧ ids[j1 - base]? = some o)) → ((j2 < base ∧ o = j2) ∨ (base ≤ j2 ∧ ids[j2 - base]? = some o)) → j1 = j2 := by
    intro j1 j2 o h1 h2
    rcases h1 with ⟨a1, a2⟩ | ⟨a1, a2⟩ <;> rcases h2 with ⟨b1, b2⟩ | ⟨b1, b2⟩
    · omega
    · have := hge o (List.mem_of_getElem? b2); omega
    · have := hge o (List.mem_of_getElem? a2); omega
    · have := (get_posN hnd a2).symm.trans (get_posN hnd b2); omega
  have H : HRel ι' ⟨base + ids.length, (h.blks.filter fun c => decide (c.id < base)).map (fun c => { c with blk := rnBlk (gcName base ids) c.blk }) ++ new⟩ w := by
    refine ⟨fun j c hg => ?_, fun k f hk => ⟨(R.rel.heap.fz k f hk).1.ids hz, fun j c p hg hro hp hl => ?_⟩, fun j1 c1 p1 j2 c2 p2 g1 g2 hne hro h1 h2 n1 n2 => ?_⟩
    · obtain ⟨o, d, e1, e2, e3, e4, _⟩ := hget j c hg
      rw [e2]
      exact (R.rel.heap.blk o d e1).rn e3 hz fun i hi => hm i (e4 i hi)
    · obtain ⟨o, d, e1, e2, e3, e4, _⟩ := hget j c hg
      rw [e2] at hro
      exact (R.rel.heap.fz k f hk).2 o d p e1 hro (by rw [← e3]; exact hp) hl
    · obtain ⟨o1, d1, e1, e2, e3, _, e5⟩ := hget j1 c1 g1
      obtain ⟨o2, d2, f1, f2, f3, _, f5⟩ := hget j2 c2 g2
      rw [e2] at hro
      refine R.rel.heap.disj o1 d1 p1 o2 d2 p2 e1 f1 (fun e => hne ?_) hro (by rw [← e3]; exact h1) (by rw [← f3]; exact h2) n1 n2
      subst e
      exact hinj j1 j2 o1 e5 f5
  have hown : ∀ k, Own ι' ⟨base + ids.length, (h.blks.filter fun c => decide (c.id < base)).map (fun c => { c with blk := rnBlk (gcName base ids) c.blk }) ++ new⟩ k → Own ι h k := by
    rintro k ⟨j, c, p, hg, hro, hp, hl, rfl⟩
    obtain ⟨o, d, e1, e2, e3, e4, _⟩ := hget j c hg
    rw [e2] at hro
    exact ⟨o, d, p, e1, hro, by rw [← e3]; exact hp, hl, rfl⟩
  have e0 : rnAV.rnL (gcName base ids) t = t.map (rnAV (gcName base ids)) := rnL_map t
  refine ⟨ι', ⟨⟨R.rel.defers, by simp only [e0, List.length_map, hlen]; exact R.rel.len, fun i => ?_, H⟩, fun j hj => ?_⟩, ⟨fun id hid => by simp only [ι', hid, if_true], fun _ => Nat.le_add_right _ _, rfl, rfl, rfl, Nat.le_refl _, fun _ _ _ => rfl, fun k hk => .inl (hown k hk), fun _ _ h => h, fun _ _ h => .inl h⟩, Nat.le_add_right _ _⟩
  · have hv : VR ι (t.getD i .undef) (a.tmps.getD i undef) := by
      rcases ht i with e | e
      · rw [e]; exact R.rel.tmps i
      · rw [e]; exact trivial
    have hr := VR.rn (ι' := ι') (m := gcName base ids) hz (fun id hid => hm id (gcOk_mem ok1 (by
      rw [List.getD_eq_getElem?_getD] at hid
      cases hg : t[i]? with
      | none => rw [hg] at hid; simp [avIds] at hid
      | some v => rw [hg] at hid; exact mem_avIdsL (List.mem_of_getElem? hg) id hid))) hv
    have e : (rnAV.rnL (gcName base ids) t).getD i .undef = rnAV (gcName base ids) (t.getD i .undef) := by
      rw [e0, List.getD_eq_getElem?_getD, List.getD_eq_getElem?_getD, List.getElem?_map]
      cases t[i]? <;> rfl
    rw [e]
    exact hr
  · simp only at hj
    have h1 : ¬ j < base := by omega
    have h2 : ids[j - base]? = none := List.getElem?_eq_none_iff.2 (by omega)
    simp only [ι', h1, if_false, h2, Option.bind_none]
theorem voidV_sound {ι : Inj} {h : Heap} {w : World} {k : GK} {v : AV} {b : Blk} {x : Value} (R : HRel ι h w) (hf : Fresh ι h.next) (hx : VR ι .nils x) (hk : voidV h.next k = some (v, b)) :
    HRel (ι.upd h.next ⟨0,0,0,0⟩) (h.new b) w ∧ Step ι h w (ι.upd h.next ⟨0,0,0,0⟩) (h.new b) w ∧ SR (ι.upd h.next ⟨0,0,0,0⟩) v x ∧ segC v = [v] ∧ SegWf v := by
  have hn : ι h.next = none := hf _ (Nat.le_refl _)
  have hg : h.get h.next = none := by
    cases hg : h.get h.next with
    | none => rfl
    | some c => obtain ⟨p, hp, _⟩ := R.blk _ c hg; rw [hn] at hp; cases hp
  have hnil := hx.nils
  have mk : ∀ {e : Nat} {b : Blk}, b.Wf → b.cells.length = 0 → HRel (ι.upd h.next ⟨0,0,0,0⟩) (h.new b) w ∧ Step ι h w (ι.upd h.next ⟨0,0,0,0⟩) (h.new b) w ∧ SR (ι.upd h.next ⟨0,0,0,0⟩) (.slice h.next 0 0 0 e none) x ∧ segC (.slice h.next 0 0 0 e none) = [.slice h.next 0 0 0 e none] ∧ SegWf (.slice h.next 0 0 0 e none) := fun wf hl => by
    obtain ⟨h1, h2⟩ := R.void hn (fun id => get_new hg) wf hl
    exact ⟨h1, h2, ⟨_, none, 0, Inj.upd_same _ _ _, hnil, ⟨Nat.le_refl _, .inl rfl, fun m h => (by cases h), (by simp), .inl rfl⟩⟩, rfl, trivial⟩
  cases k with
  | some => cases hk
  | ints k => cases hk; exact mk (by intro s hs; simp at hs; subst hs; simp [SegWf]) (by simp [Blk.cells, cellsL, segC])
  | rows e =>
    simp only [voidV] at hk
    split at hk <;> try (cases hk; done)
    cases hk
    exact mk (by simp [Blk.Wf]) (by simp [Blk.cells])
theorem voidOne_sound {st s : St} {i o : Nat} {k : GK} {ι : Inj} {a : Act} {w : World} (R : RelF ι st.t st.h a w) (hk : voidOne st i o k = some s) : ∃ ι', RelF ι' s.t s.h a w ∧ Step ι st.h w ι' s.h w ∧ st.h.next ≤ s.h.next ∧ (∀ id, id < st.h.next → ι' id = ι id) := by
  have same : s = st → ∃ ι', RelF ι' s.t s.h a w ∧ Step ι st.h w ι' s.h w ∧ st.h.next ≤ s.h.next ∧ (∀ id, id < st.h.next → ι' id = ι id) := fun e => by
    subst e
    exact ⟨ι, R, .refl _ _ _, Nat.le_refl _, fun _ _ => rfl⟩
  have hup : ∀ (q : Place) id, id < st.h.next → (ι.upd st.h.next q) id = ι id := fun q id hid => Inj.upd_ne _ _ (by omega)
  have hfr : ∀ q : Place, Fresh (ι.upd st.h.next q) (st.h.next + 1) := fun q id hid => by rw [Inj.upd_ne _ _ (by omega)]; exact R.fresh id (by omega)
  have hle : ∀ q : Place, ι.le (ι.upd st.h.next q) := fun q => Inj.le_upd (R.fresh _ (Nat.le_refl _))
  unfold voidOne at hk
  have hv := R.rel.tmps i
  split at hk <;> try (cases hk; done)
  · rename_i hs
    rw [hs] at hv
    split at hk <;> try (cases hk; done)
    cases hvv : voidV st.h.next k with
    | none => rw [hvv] at hk; cases hk
    | some p =>
      obtain ⟨v, b⟩ := p
      rw [hvv] at hk
      simp only [Option.map_some, Option.some.injEq] at hk
      subst hk
      obtain ⟨h1, h2, h3, _⟩ := voidV_sound R.rel.heap R.fresh hv hvv
      refine ⟨_, ⟨⟨R.rel.defers, by rw [List.length_set]; exact R.rel.len, fun j => ?_, h1⟩, hfr _⟩, h2, Nat.le_succ _, hup _⟩
      rw [List.getD_eq_getElem?_getD, List.getElem?_set]
      by_cases hij : i = j
      · subst hij
        simp only [if_true]
        split
        · exact .of_SR h3
        · exact trivial
      · simp only [hij, if_false]
        have := (R.rel.tmps j).mono (hle ⟨0,0,0,0⟩)
        rwa [List.getD_eq_getElem?_getD] at this
  · split at hk <;> try (cases hk; done)
    cases hk
    exact same rfl
  · rename_i id hs0
    split at hk <;> try (cases hk; done)
    split at hk <;> try (cases hk; done)
    rename_i ci l hg
    split at hk <;> try (cases hk; done)
    · rename_i hs
      cases hvv : voidV st.h.next k with
      | none => rw [hvv] at hk; cases hk
      | some p =>
        obtain ⟨v, b⟩ := p
        rw [hvv] at hk
        simp only [Option.bind_some] at hk
        cases hr : repSeg l (o - 1) v with
        | none => rw [hr] at hk; cases hk
        | some l' =>
          rw [hr] at hk
          simp only [Option.map_some, Option.some.injEq] at hk
          subst hk
          have hb := R.rel.heap.blk id _ hg
          have wf : SegsWf l := by obtain ⟨_, _, wf, _⟩ := hb; exact wf
          obtain ⟨aa, s2, bb, rfl, rfl, hl, hat⟩ := repSeg_split wf hr
          rw [hs] at hat
          obtain rfl := Option.some.inj hat.symm
          obtain ⟨q, hq, _, hsz, h0, hrow⟩ := hb
          have hid : id ≠ st.h.next := by rintro rfl; rw [R.fresh _ (Nat.le_refl _)] at hq; cases hq
          obtain ⟨x, hx⟩ : ∃ x, VR ι .nils x ∧ (q.lim ≠ 0 → ∃ arr el fz, w.heap[q.blk]? = some (.cells arr el fz) ∧ arr[q.base + (o - 1)]? = some x) := by
            by_cases hlim : q.lim = 0
            · exact ⟨_, rfl, fun h => absurd hlim h⟩
            · obtain ⟨arr, el, fz, g1, g2, g3, g4, g5⟩ := (rowOf (hrow hlim) (by intros; simp)).row
              obtain ⟨x, hx, hsr⟩ := g4 (o - 1) .nils (by
                simp only [Blk.cells, cellsL_append, cellsL_cons, segC]
                rw [List.getElem?_append_right (by omega), hl, Nat.sub_self]
                rfl)
              exact ⟨x, .of_SR hsr, fun _ => ⟨arr, el, fz, g1, hx⟩⟩
          obtain ⟨h1, h2, h3, h4, h5⟩ := voidV_sound R.rel.heap R.fresh hx.1 hvv
          have hg2 : (st.h.new b).get id = some ⟨ci, false, .segs (aa ++ .nils :: bb)⟩ := by
            rw [get_new (by
              cases hgn : st.h.get st.h.next with
              | none => rfl
              | some c => obtain ⟨p, hp, _⟩ := R.rel.heap.blk _ c hgn; rw [R.fresh _ (Nat.le_refl _)] at hp; cases hp), if_neg hid]
            exact hg
          have hb2 : BlkR (ι.upd st.h.next ⟨0,0,0,0⟩) w id { (⟨ci, false, .segs (aa ++ .nils :: bb)⟩ : Cell) with blk := .segs (aa ++ v :: bb) } := by
            refine ⟨q, by rw [Inj.upd_ne _ _ hid]; exact hq, ?_, ?_, h0, fun hlim => ?_⟩
            · intro s hs
              rcases List.mem_append.1 hs with hs | hs
              · exact wf s (List.mem_append.2 (.inl hs))
              · rcases List.mem_cons.1 hs with rfl | hs
                · exact h5
                · exact wf s (by simp [hs])
            · have hsz' := hsz
              simp only [Blk.cells, cellsL_append, cellsL_cons, List.length_append] at hsz' ⊢
              rw [h4]
              exact hsz'
            · obtain ⟨arr, el, fz, g1, g2, g3, g4, g5⟩ := (rowOf (hrow hlim) (by intros; simp)).row
              refine .inl ⟨arr, el, fz, g1, g2, g3, fun j u hu => ?_, g5⟩
              simp only [Blk.cells, cellsL_append, cellsL_cons, h4] at hu
              by_cases hj : j = o - 1
              · subst hj
                rw [List.getElem?_append_right (by omega), hl, Nat.sub_self] at hu
                simp at hu
                subst hu
                obtain ⟨arr', el', fz', e1, e2⟩ := hx.2 hlim
                rw [g1] at e1
                cases e1
                exact ⟨x, e2, h3⟩
              · have : (cellsL (aa ++ .nils :: bb))[j]? = some u := by
                  simp only [cellsL_append, cellsL_cons, segC]
                  by_cases hlt : j < (cellsL aa).length
                  · rw [List.getElem?_append_left hlt] at hu ⊢; exact hu
                  · rw [List.getElem?_append_right (by omega)] at hu ⊢
                    obtain ⟨d, hd⟩ : ∃ d, j - (cellsL aa).length = d + 1 := ⟨j - (cellsL aa).length - 1, by omega⟩
                    rw [hd] at hu ⊢
                    simpa using hu
                obtain ⟨y, hy, hsr⟩ := g4 j u this
                exact ⟨y, hy, hsr.mono (hle _)⟩
          obtain ⟨h6, h7⟩ := h1.retell hg2 hb2
          exact ⟨_, ⟨⟨R.rel.defers, R.rel.len, fun j => (R.rel.tmps j).mono (hle _), h6⟩, hfr _⟩, h2.trans h7, Nat.le_succ _, hup _⟩
    · cases hk
      exact same rfl
theorem voidAll_sound {a : Act} {w : World} : ∀ (l : List (Nat × Nat × GK)) (st s : St) (ι : Inj), voidAll l st = some s → RelF ι st.t st.h a w → ∃ ι', RelF ι' s.t s.h a w ∧ Step ι st.h w ι' s.h w ∧ st.h.next ≤ s.h.next ∧ (∀ id, id < st.h.next → ι' id = ι id)
  | [], st, s, ι, hk, R => by cases hk; exact ⟨ι, R, .refl _ _ _, Nat.le_refl _, fun _ _ => rfl⟩
  | (i, o, k) :: l, st, s, ι, hk, R => by
    simp only [voidAll] at hk
    cases h1 : voidOne st i o k with
    | none => rw [h1] at hk; cases hk
    | some s1 =>
      rw [h1] at hk
      simp only [Option.bind_some] at hk
      obtain ⟨ι1, R1, S1, n1, e1⟩ := voidOne_sound R h1
      obtain ⟨ι2, R2, S2, n2, e2⟩ := voidAll_sound l s1 s ι1 hk R1
      exact ⟨ι2, R2, S1.trans S2, Nat.le_trans n1 n2, fun id hid => (e2 id (by omega)).trans (e1 id hid)⟩
theorem StepB.mono {B B' : Nat} {ι ι' : Inj} {h h' : Heap} {w w' : World} (s : StepB B' ι h w ι' h' w') (hB : B ≤ B') (hn : B ≤ h.next → B ≤ h'.next) : StepB B ι h w ι' h' w' :=
  ⟨fun id hid => s.same id (by omega), hn, s.os, s.tape, s.output, s.size, s.frame, s.own, s.fz, s.fzo⟩
theorem canon_sound {B : Nat} {cn : Option Canon} {st s : St} {ι : Inj} {a : Act} {w : World} (hB : ∀ c, cn = some c → canonOk B c = true) (hk : canon cn st = some s) (R : RelF ι st.t st.h a w) (hn : B ≤ st.h.next) : ∃ ι', RelF ι' s.t s.h a w ∧ StepB B ι st.h w ι' s.h w := by
  cases cn with
  | none =>
    simp only [canon, Option.some.injEq] at hk
    subst hk
    exact ⟨ι, R, .refl _ _ _ _⟩
  | some cn =>
    have hok := hB cn rfl
    simp only [canon] at hk
    split at hk
    · rename_i hz
      simp only [canonOk, if_pos hz, decide_eq_true_eq] at hok
      unfold canonG at hk
      cases hfr : frzAll cn.frz st with
      | none => rw [hfr] at hk; cases hk
      | some st1 =>
        rw [hfr] at hk
        simp only [Option.bind_some] at hk
        obtain ⟨ι1, R1, S1, hnx, hpl⟩ := frzAll_sound cn.frz st st1 ι hfr R
        cases hv : voidAll cn.grow st1 with
        | none => rw [hv] at hk; cases hk
        | some st2 =>
          rw [hv] at hk
          simp only [Option.bind_some] at hk
          obtain ⟨ι2, R2, S2, n2, e2⟩ := voidAll_sound cn.grow st1 st2 ι1 hv R1
          obtain ⟨ι3, R3, S3, n3⟩ := gc_sound R2 (keepT_len _ _ _) (fun i => by
            rw [keepT_get]
            split
            · exact .inl rfl
            · exact .inr rfl) hk
          have S12 := S1.trans S2
          have B12 : StepB B ι st.h w ι2 st2.h w := ⟨fun id hid => (e2 id (by omega)).trans (by rw [hpl]), fun _ => by omega, S12.os, S12.tape, S12.output, S12.size, S12.frame, S12.own, S12.le.fz, S12.fzo⟩
          exact ⟨ι3, R3, B12.trans (S3.mono hok fun _ => Nat.le_trans hok n3)⟩
    · rename_i hz
      exact canonO_sound hz hok hk R
def cnOk (B : Nat) : Option Canon → Bool
  | none => true
  | some cn => canonOk B cn
def lowCode (P : Program) (B : Nat) : ACode → Code → Bool
  | .skip, .skip => true
  | .reg aos, .region _ ops false => lowOpers P ops ops.toList aos
  | .draw aos, .region _ ops true => lowOpers P ops ops.toList aos && lowAft ops.toList aos
  | .seq cn a b, .seq x y => cnOk B cn && lowCode P B a x && lowCode P B b y
  | .cond c a b, .cond c' x y => lowOpd c' c && lowCode P B a x && lowCode P B b y
  | .block id cn a, .block id' x => id == id' && cnOk B cn && lowCode P B a x
  | .loop _ cn a, .loop x => cnOk B cn && lowCode P B a x
  | .exit id, .exit id' => id == id'
  | .scope a, .scope x => lowCode P B a x
  | .jumps _ l cn a rest, .scope x => cnOk B cn && lowCode P B a x && (match findLabel x l with | some y => lowCode P B rest y | none => false)
  | .label l, .label l' => l == l'
  | .goto l, .goto l' => l == l'
  | .ret, .ret => true
  | _, _ => false
def exitOf : AExit → Exit
  | .normal => .normal
  | .exit id => .exit id
  | .goto l => .goto l
  | .ret => .ret
def jrounds (P : Program) (rest : Code) (l : Nat) (Q : Exit → Act → World → Prop) : Nat → Act → World → Prop
  | 0, _, _ => False
  | n + 1, a, w => rest.wp P (Exit.jump l (jrounds P rest l Q n) Q) a w
section
variable {P : Program} {a : Act} {w : World} {Q : Exit → Act → World → Prop}
theorem wp_scope_rounds {c rest : Code} (l : Nat) (hf : findLabel c l = some rest) (first : c.wp P (Exit.jump l (fun a w => ∃ n, jrounds P rest l Q n a w) Q) a w) : (Code.scope c).wp P Q a w := by
  intro b k cs
  have hg : gotoIn l (.inScope c :: k) = some (.code rest :: .inScope c :: k) := by simp [gotoIn, hf]
  have key : ∀ n a w, jrounds P rest l Q n a w → ∃ e a' w', Q e a' w' ∧ Arrives P (lone (b.at a (.code rest :: .inScope c :: k)) cs w) b k cs e a' w' := by
    intro n
    induction n with
    | zero => intro a w h; exact h.elim
    | succ n ih =>
      intro a w hJ
      obtain ⟨e, a₁, w₁, hq, harr⟩ := hJ b (.inScope c :: k) cs
      cases e with
      | normal => exact ⟨.normal, a₁, w₁, hq, Steps.trans harr (.one step_inScope)⟩
      | exit id => exact ⟨.exit id, a₁, w₁, hq, fun k' hk => harr k' (by simp [exitTo, hk])⟩
      | goto l' =>
        obtain ⟨rfl, hJ'⟩ := hq
        obtain ⟨e₂, a₂, w₂, hq₂, harr₂⟩ := ih a₁ w₁ hJ'
        exact ⟨e₂, a₂, w₂, hq₂, .of_steps (harr _ hg) harr₂⟩
      | ret => exact ⟨_, a₁, w₁, hq, harr⟩
      | panic ch => exact ⟨_, a₁, w₁, hq, harr⟩
      | outgrown => exact ⟨_, a₁, w₁, hq, harr⟩
  obtain ⟨e, a₁, w₁, hq, harr⟩ := first b (.inScope c :: k) cs
  cases e with
  | normal => exact ⟨.normal, a₁, w₁, hq, .head step_scope (Steps.trans harr (.one step_inScope))⟩
  | exit id => exact ⟨.exit id, a₁, w₁, hq, fun k' hk => .head step_scope (harr k' (by simp [exitTo, hk]))⟩
  | goto l' =>
    obtain ⟨rfl, n, hJ'⟩ := hq
    obtain ⟨e₂, a₂, w₂, hq₂, harr₂⟩ := key n a₁ w₁ hJ'
    exact ⟨e₂, a₂, w₂, hq₂, .of_steps (.head step_scope (harr _ hg)) harr₂⟩
  | ret => exact ⟨_, a₁, w₁, hq, .of_steps (.one step_scope) harr⟩
  | panic ch => exact ⟨_, a₁, w₁, hq, .of_steps (.one step_scope) harr⟩
  | outgrown => exact ⟨_, a₁, w₁, hq, .of_steps (.one step_scope) harr⟩
variable {Γ : Env}
theorem canonK_sound {B : Nat} {cn : Option Canon} {st : St} {κ : St → Option Res} {r : Res} {ι : Inj} (hB : cnOk B cn = true) (hk : canonK cn st κ = some r) (R : RelF ι st.t st.h a w) (hn : B ≤ st.h.next) : ∃ s ι', κ s = some r ∧ RelF ι' s.t s.h a w ∧ StepB B ι st.h w ι' s.h w := by
  unfold canonK at hk
  split at hk <;> try (cases hk; done)
  rename_i s hs
  obtain ⟨ι', h1, h2⟩ := canon_sound (fun c hc => by subst hc; exact hB) hs R hn
  exact ⟨s, ι', hk, h1, h2⟩
theorem ev_sound (hΓ : EnvOk P Γ) (hm : P.follows .mixedOrders = true) {B : Nat} : ∀ (ac : ACode) (c : Code) (st : St) (ι : Inj) (a : Act) (w : World) (κ : Kont) (r : Res) (Q : Exit → Act → World → Prop), lowCode P B ac c = true → RelF ι st.t st.h a w → B ≤ st.h.next → ev Γ ac st κ = some r →
    (∀ e st' ι' a' w', κ e st' = some r → RelF ι' st'.t st'.h a' w' → StepB B ι st.h w ι' st'.h w' → Q (exitOf e) a' w') → c.wp P Q a w := by
  intro ac
  induction ac with
  | skip =>
    intro c st ι a w κ r Q hl R hbn hk hq
    cases c <;> first | (simp [lowCode] at hl; done) | skip
    exact wp_skip (hq .normal st ι a w hk R (.refl _ _ _ _))
  | reg aos =>
    intro c st ι a w κ r Q hl R hbn hk hq
    cases c <;> first | (simp [lowCode] at hl; done) | skip
    rename_i id ops draw
    cases draw <;> first | (simp [lowCode] at hl; done) | skip
    simp only [lowCode] at hl
    exact region_sound hΓ hl R hk fun ι' t' h' a' w' e R' S' G' => hq .normal ⟨t', h'⟩ ι' a' w' e R' (S'.B G' hbn)
  | draw aos =>
    intro c st ι a w κ r Q hl R hbn hk hq
    cases c <;> first | (simp [lowCode] at hl; done) | skip
    rename_i id ops draw
    cases draw <;> first | (simp [lowCode] at hl; done) | skip
    simp only [lowCode, Bool.and_eq_true] at hl
    simp only [ev] at hk
    split at hk <;> try (cases hk; done)
    rename_i hok
    exact draw_sound hΓ hm hl.1 hl.2 hok R hk fun ι' t' h' a' w' e R' S' G' => hq .normal ⟨t', h'⟩ ι' a' w' e R' (S'.B G' hbn)
  | seq cn x y ihx ihy =>
    intro c st ι a w κ r Q hl R hbn hk hq
    cases c <;> first | (simp [lowCode] at hl; done) | skip
    simp only [lowCode, Bool.and_eq_true] at hl
    obtain ⟨⟨hc, hx⟩, hy⟩ := hl
    refine wp_seq (ihx _ st ι a w _ r _ hx R hbn hk fun e st' ι' a' w' he R' S' => ?_)
    cases e with
    | normal =>
      obtain ⟨s, ι2, h1, h2, h3⟩ := canonK_sound hc he R' (S'.next hbn)
      exact ihy _ s ι2 a' w' κ r Q hy h2 ((S'.trans h3).next hbn) h1 fun e st2 ι3 a2 w2 he2 R2 S2 => hq e st2 ι3 a2 w2 he2 R2 ((S'.trans h3).trans S2)
    | exit i => exact hq (.exit i) st' ι' a' w' he R' S'
    | goto l => exact hq (.goto l) st' ι' a' w' he R' S'
    | ret => exact hq .ret st' ι' a' w' he R' S'
  | cond co x y ihx ihy =>
    intro c st ι a w κ r Q hl R hbn hk hq
    cases c <;> first | (simp [lowCode] at hl; done) | skip
    simp only [lowCode, Bool.and_eq_true] at hl
    obtain ⟨⟨hc, hx⟩, hy⟩ := hl
    have ht := R.rel.TR _ _ hc
    simp only [ev] at hk
    unfold condK at hk
    split at hk <;> try (cases hk; done)
    · rename_i b
      have hb : a.eval _ = .bool b := ht.bool
      refine wp_cond hb ?_
      cases b
      · exact ihy _ st ι a w κ r Q hy R hbn hk hq
      · exact ihx _ st ι a w κ r Q hx R hbn hk hq
    · rename_i i
      split at hk <;> try (cases hk; done)
      rename_i b hb0
      simp only [Opd.ev] at ht
      rw [hb0] at ht
      refine wp_cond (t := b) ht.bool ?_
      have hs := set_self hb0
      cases b
      · simp only [cond_false] at hk
        rw [hs] at hk
        exact ihy _ st ι a w κ r Q hy R hbn hk hq
      · simp only [cond_true] at hk
        rw [hs] at hk
        exact ihx _ st ι a w κ r Q hx R hbn hk hq
  | block id cn x ih =>
    intro c st ι a w κ r Q hl R hbn hk hq
    cases c <;> first | (simp [lowCode] at hl; done) | skip
    simp only [lowCode, Bool.and_eq_true, beq_iff_eq] at hl
    obtain ⟨⟨rfl, hc⟩, hx⟩ := hl
    refine wp_block (ih _ st ι a w _ r _ hx R hbn hk fun e st' ι' a' w' he R' S' => ?_)
    cases e with
    | normal =>
      obtain ⟨s, ι2, h1, h2, h3⟩ := canonK_sound hc he R' (S'.next hbn)
      exact hq .normal s ι2 a' w' h1 h2 (S'.trans h3)
    | exit i =>
      simp only [exitOf, Exit.inBlock]
      simp only at he
      split at he
      · rename_i hi
        subst hi
        obtain ⟨s, ι2, h1, h2, h3⟩ := canonK_sound hc he R' (S'.next hbn)
        simp only [if_true]
        exact hq .normal s ι2 a' w' h1 h2 (S'.trans h3)
      · rename_i hi
        simp only [hi, if_false]
        exact hq (.exit i) st' ι' a' w' he R' S'
    | goto l => exact hq (.goto l) st' ι' a' w' he R' S'
    | ret => exact hq .ret st' ι' a' w' he R' S'
  | loop fuel cn x ih =>
    intro c st ι a w κ r Q hl R hbn hk hq
    cases c <;> first | (simp [lowCode] at hl; done) | skip
    simp only [lowCode, Bool.and_eq_true] at hl
    rename_i y
    obtain ⟨hc, hx⟩ := hl
    obtain ⟨s, ι1, h1, h2, h3⟩ := canonK_sound hc hk R hbn
    refine wp_loop_rounds fuel ?_
    have key : ∀ n s ι1 a1 w1, loopK cn (ev Γ x) n s κ = some r → RelF ι1 s.t s.h a1 w1 → StepB B ι st.h w ι1 s.h w1 → Code.rounds P y Q n a1 w1 := by
      intro n
      induction n with
      | zero => intro s ι1 a1 w1 hk; cases hk
      | succ n ihn =>
        intro s ι1 a1 w1 hk R1 S1
        refine ih _ s ι1 a1 w1 _ r _ hx R1 (S1.next hbn) hk fun e st' ι' a' w' he R' S' => ?_
        cases e with
        | normal =>
          obtain ⟨s2, ι2, g1, g2, g3⟩ := canonK_sound hc he R' ((S1.trans S').next hbn)
          exact ihn s2 ι2 a' w' g1 g2 ((S1.trans S').trans g3)
        | exit i => exact hq (.exit i) st' ι' a' w' he R' (S1.trans S')
        | goto l => exact hq (.goto l) st' ι' a' w' he R' (S1.trans S')
        | ret => exact hq .ret st' ι' a' w' he R' (S1.trans S')
    exact key fuel s ι1 a w h1 h2 h3
  | exit id =>
    intro c st ι a w κ r Q hl R hbn hk hq
    cases c <;> first | (simp [lowCode] at hl; done) | skip
    simp only [lowCode, beq_iff_eq] at hl
    subst hl
    exact wp_exit (hq (.exit id) st ι a w hk R (.refl _ _ _ _))
  | scope x ih =>
    intro c st ι a w κ r Q hl R hbn hk hq
    cases c <;> first | (simp [lowCode] at hl; done) | skip
    simp only [lowCode] at hl
    refine wp_scope_straight (ih _ st ι a w _ r _ hl R hbn hk fun e st' ι' a' w' he R' S' => ?_)
    cases e with
    | normal => exact hq .normal st' ι' a' w' he R' S'
    | exit i => exact hq (.exit i) st' ι' a' w' he R' S'
    | goto l => cases he
    | ret => exact hq .ret st' ι' a' w' he R' S'
  | jumps fuel l cn x rest ihx ihr =>
    intro c st ι a w κ r Q hl R hbn hk hq
    cases c <;> first | (simp [lowCode] at hl; done) | skip
    simp only [lowCode, Bool.and_eq_true] at hl
    obtain ⟨⟨hc, hx⟩, hr⟩ := hl
    split at hr <;> try (cases hr; done)
    rename_i y hy
    have key : ∀ n s ι1 a1 w1, jumpK cn l (ev Γ rest) n s κ = some r → RelF ι1 s.t s.h a1 w1 → StepB B ι st.h w ι1 s.h w1 → jrounds P y l Q n a1 w1 := by
      intro n
      induction n with
      | zero => intro s ι1 a1 w1 hk; cases hk
      | succ n ihn =>
        intro s ι1 a1 w1 hk R1 S1
        refine ihr _ s ι1 a1 w1 _ r _ hr R1 (S1.next hbn) hk fun e st' ι' a' w' he R' S' => ?_
        cases e with
        | normal => exact hq .normal st' ι' a' w' he R' (S1.trans S')
        | exit i => exact hq (.exit i) st' ι' a' w' he R' (S1.trans S')
        | goto l' =>
          simp only at he
          split at he <;> try (cases he; done)
          rename_i hll
          subst hll
          obtain ⟨s2, ι2, g1, g2, g3⟩ := canonK_sound hc he R' ((S1.trans S').next hbn)
          exact ⟨rfl, ihn s2 ι2 a' w' g1 g2 ((S1.trans S').trans g3)⟩
        | ret => exact hq .ret st' ι' a' w' he R' (S1.trans S')
    refine wp_scope_rounds l hy (ihx _ st ι a w _ r _ hx R hbn hk fun e st' ι' a' w' he R' S' => ?_)
    cases e with
    | normal => exact hq .normal st' ι' a' w' he R' S'
    | exit i => exact hq (.exit i) st' ι' a' w' he R' S'
    | goto l' =>
      simp only at he
      split at he <;> try (cases he; done)
      rename_i hll
      subst hll
      obtain ⟨s2, ι2, g1, g2, g3⟩ := canonK_sound hc he R' (S'.next hbn)
      exact ⟨rfl, fuel, key fuel s2 ι2 a' w' g1 g2 (S'.trans g3)⟩
    | ret => exact hq .ret st' ι' a' w' he R' S'
  | label l =>
    intro c st ι a w κ r Q hl R hbn hk hq
    cases c <;> first | (simp [lowCode] at hl; done) | skip
    exact wp_label (hq .normal st ι a w hk R (.refl _ _ _ _))
  | goto l =>
    intro c st ι a w κ r Q hl R hbn hk hq
    cases c <;> first | (simp [lowCode] at hl; done) | skip
    simp only [lowCode, beq_iff_eq] at hl
    subst hl
    exact wp_goto (hq (.goto l) st ι a w hk R (.refl _ _ _ _))
  | ret =>
    intro c st ι a w κ r Q hl R hbn hk hq
    cases c <;> first | (simp [lowCode] at hl; done) | skip
    exact wp_ret (hq .ret st ι a w hk R (.refl _ _ _ _))
end
def Det1 {α : Type} (F : (α → Option Res) → Option Res) : Prop := (∀ κ, F κ = none) ∨ ∃ x, ∀ κ, F κ = κ x
def Det {α β : Type} (F : (α → β → Option Res) → Option Res) : Prop := (∀ κ, F κ = none) ∨ ∃ x y, ∀ κ, F κ = κ x y
section
variable {P : Program} {Γ : Env}
theorem Det.none {α β : Type} {F : (α → β → Option Res) → Option Res} (h : ∀ κ, F κ = .none) : Det F := .inl h
theorem Det.ret {α β : Type} (x : α) (y : β) : Det fun κ => κ x y := .inr ⟨x, y, fun _ => rfl⟩
theorem Det.bind {α β γ δ : Type} {F : (α → β → Option Res) → Option Res} {G : α → β → (γ → δ → Option Res) → Option Res} (h : Det F) (k : ∀ x y, Det (G x y)) : Det fun κ => F fun x y => G x y κ := by
  rcases h with h | ⟨x, y, h⟩
  · exact .inl fun κ => h _
  · rcases k x y with g | ⟨u, v, g⟩
    · exact .inl fun κ => (h _).trans (g κ)
    · exact .inr ⟨u, v, fun κ => (h _).trans (g κ)⟩
theorem aop_det (hΓ : EnvOk P Γ) (op : AOp) (t : List AV) (h : Heap) : Det fun κ => aop Γ op t h κ := by
  cases hr : aop Γ op t h kH with
  | none => exact .inl fun κ => by show aop Γ op t h κ = _; rw [aop_factor hΓ, hr]; rfl
  | some p => exact .inr ⟨p.1, p.2, fun κ => by show aop Γ op t h κ = _; rw [aop_factor hΓ, hr]; rfl⟩
theorem guardK_det {α β : Type} {g : Option (Nat × Bool)} {t : List AV} {run skip : List AV → (α → β → Option Res) → Option Res} (h1 : ∀ t, Det (run t)) (h2 : ∀ t, Det (skip t)) : Det fun κ => guardK g t (fun t => run t κ) (fun t => skip t κ) := by
  unfold guardK
  cases g with
  | none => exact h1 t
  | some gw =>
    obtain ⟨i, want⟩ := gw
    simp only []
    cases t.getD i .undef <;> first
      | exact .inl fun _ => rfl
      | (rename_i b; cases b <;> cases want <;> simp only [cond_true, cond_false] <;> first | exact h1 _ | exact h2 _)
      | (rename_i l; cases l <;> first | exact h2 _ | exact .inl fun _ => rfl)
theorem evOps_det (hΓ : EnvOk P Γ) : ∀ (l : List AOper) (t : List AV) (h : Heap), Det fun κ => evOps Γ l t h κ
  | [], t, h => .ret t h
  | o :: r, t, h => by
    simp only [evOps]
    exact guardK_det (run := fun t κ => aop Γ o.op t h fun v h' => evOps Γ r (putT t o.dst v) h' κ) (skip := fun t κ => evOps Γ r (putT t o.dst (.tuple [])) h κ)
      (fun t => (aop_det hΓ o.op t h).bind fun v h' => evOps_det hΓ r _ h') fun t => evOps_det hΓ r _ h
theorem evDraw_det (hΓ : EnvOk P Γ) {n0 : Nat} {aos : List AOper} {bs : List (List Nat)} {t : List AV} {h : Heap} : Det fun κ => evDraw Γ n0 bs 0 aos t h [] κ := by
  cases hr : runL Γ n0 bs aos (List.range' 0 aos.length) ((t, h), []) with
  | none => exact .inl fun κ => by show evDraw Γ n0 bs 0 aos t h [] κ = _; rw [evDraw_eq hΓ (aos := aos) aos 0 t h [] rfl, hr]; rfl
  | some s => exact .inr ⟨s.1.1, s.1.2, fun κ => by show evDraw Γ n0 bs 0 aos t h [] κ = _; rw [evDraw_eq hΓ (aos := aos) aos 0 t h [] rfl, hr]; rfl⟩
theorem canonK_det {α β : Type} {cn : Option Canon} {st : St} {G : St → (α → β → Option Res) → Option Res} (h : ∀ s, Det (G s)) : Det fun κ => canonK cn st fun s => G s κ := by
  unfold canonK
  cases canon cn st with
  | none => exact .inl fun _ => rfl
  | some s => exact h s
theorem ev_det (hΓ : EnvOk P Γ) : ∀ (c : ACode) (st : St), Det fun κ => ev Γ c st κ := by
  intro c
  induction c with
  | skip => intro st; exact .ret _ _
  | reg ops => intro st; exact (evOps_det hΓ ops st.t st.h).bind (G := fun t h κ => κ AExit.normal (St.mk t h)) fun t h => .ret _ _
  | draw ops =>
    intro st
    simp only [ev]
    split
    · exact (evDraw_det hΓ).bind (G := fun t (h : Heap) κ => κ AExit.normal (St.mk t { h with next := st.h.next + stride * ops.length })) fun t h => .ret _ _
    · exact .inl fun _ => rfl
  | seq cn a b iha ihb =>
    intro st
    refine (iha st).bind (G := fun e st' (κ : Kont) => match e with
      | .normal => canonK cn st' fun s => ev Γ b s κ
      | .exit i => κ (.exit i) st'
      | .goto l => κ (.goto l) st'
      | .ret => κ .ret st') fun e st' => ?_
    cases e with
    | normal => exact canonK_det ihb
    | _ => exact .ret _ _
  | cond c a b iha ihb =>
    intro st
    simp only [ev]
    unfold condK
    split
    · rename_i v; cases v
      · exact ihb st
      · exact iha st
    · split
      · rename_i v _; cases v
        · exact ihb _
        · exact iha _
      · exact .inl fun _ => rfl
    · exact .inl fun _ => rfl
  | block id cn a ih =>
    intro st
    refine (ih st).bind (G := fun e st' (κ : Kont) => match e with
      | .exit i => if i = id then canonK cn st' fun s => κ .normal s else κ (.exit i) st'
      | .normal => canonK cn st' fun s => κ .normal s
      | .goto l => κ (.goto l) st'
      | .ret => κ .ret st') fun e st' => ?_
    cases e with
    | exit i =>
      simp only []
      split
      · exact canonK_det (G := fun s κ => κ AExit.normal s) fun s => .ret _ _
      · exact .ret _ _
    | normal => exact canonK_det (G := fun s κ => κ AExit.normal s) fun s => .ret _ _
    | _ => exact .ret _ _
  | loop fuel cn a ih =>
    intro st
    have key : ∀ n s, Det fun κ => loopK cn (ev Γ a) n s κ := by
      intro n
      induction n with
      | zero => intro s; exact .inl fun _ => rfl
      | succ n ihn =>
        intro s
        refine (ih s).bind (G := fun e st' (κ : Kont) => match e with
          | .normal => canonK cn st' fun s => loopK cn (ev Γ a) n s κ
          | .exit i => κ (.exit i) st'
          | .goto l => κ (.goto l) st'
          | .ret => κ .ret st') fun e st' => ?_
        cases e with
        | normal => exact canonK_det ihn
        | _ => exact .ret _ _
    exact canonK_det (key fuel)
  | exit id => intro st; exact .ret _ _
  | scope a ih =>
    intro st
    refine (ih st).bind (G := fun e st' (κ : Kont) => match e with
      | .goto _ => none
      | .exit i => κ (.exit i) st'
      | .normal => κ .normal st'
      | .ret => κ .ret st') fun e st' => ?_
    cases e with
    | goto l => exact .inl fun _ => rfl
    | _ => exact .ret _ _
  | jumps fuel l cn a rest iha ihr =>
    intro st
    have key : ∀ n s, Det fun κ => jumpK cn l (ev Γ rest) n s κ := by
      intro n
      induction n with
      | zero => intro s; exact .inl fun _ => rfl
      | succ n ihn =>
        intro s
        refine (ihr s).bind (G := fun e st' (κ : Kont) => match e with
          | .goto l' => if l' = l then canonK cn st' fun s => jumpK cn l (ev Γ rest) n s κ else none
          | .exit i => κ (.exit i) st'
          | .normal => κ .normal st'
          | .ret => κ .ret st') fun e st' => ?_
        cases e with
        | goto l' =>
          simp only []
          split
          · exact canonK_det ihn
          · exact .inl fun _ => rfl
        | _ => exact .ret _ _
    refine (iha st).bind (G := fun e st' (κ : Kont) => match e with
      | .goto l' => if l' = l then canonK cn st' fun s => jumpK cn l (ev Γ rest) fuel s κ else none
      | .exit i => κ (.exit i) st'
      | .normal => κ .normal st'
      | .ret => κ .ret st') fun e st' => ?_
    cases e with
    | goto l' =>
      simp only []
      split
      · exact canonK_det (key fuel)
      · exact .inl fun _ => rfl
    | _ => exact .ret _ _
  | label l => intro st; exact .ret _ _
  | goto l => intro st; exact .ret _ _
  | ret => intro st; exact .ret _ _
theorem resK_det {rs : List ARes} {t : List AV} {h : Heap} : Det1 fun κ => resK rs t h κ := by
  induction rs with
  | nil => exact .inr ⟨[], fun _ => rfl⟩
  | cons x r ih =>
    cases x with
    | t i =>
      rcases ih with h | ⟨x, h⟩
      · exact .inl fun κ => h _
      · exact .inr ⟨_, fun κ => h _⟩
    | cell i agg n =>
      simp only [resK]
      cases hl : loadK agg n h (t.getD i .undef) some with
      | none => exact .inl fun κ => by show loadK agg n h (t.getD i AV.undef) (fun v => resK r t h fun vs => κ (v :: vs)) = _; rw [loadK_factor, hl]; rfl
      | some v =>
        rcases ih with g | ⟨x, g⟩
        · exact .inl fun κ => by show loadK agg n h (t.getD i AV.undef) (fun v => resK r t h fun vs => κ (v :: vs)) = _; rw [loadK_factor, hl]; exact g _
        · exact .inr ⟨v :: x, fun κ => by show loadK agg n h (t.getD i AV.undef) (fun v => resK r t h fun vs => κ (v :: vs)) = _; rw [loadK_factor, hl]; exact g _⟩
theorem evFn_det (hΓ : EnvOk P Γ) (fn : AFn) (args : List AV) (h : Heap) : Det fun κ => evFn Γ fn args h κ := by
  have fin : ∀ (st : St), Det fun κ : AV → Heap → Option Res => resK fn.results st.t st.h fun vs => retK vs fun v => κ v st.h := by
    intro st
    rcases resK_det (rs := fn.results) (t := st.t) (h := st.h) with h | ⟨vs, h⟩
    · exact .inl fun κ => h _
    · have hv : ∀ (κ : AV → Heap → Option Res), resK fn.results st.t st.h (fun vs => retK vs fun v => κ v st.h) = retK vs fun v => κ v st.h := fun κ => h _
      have : Det1 (retK vs) := by
        unfold retK
        split
        · exact .inr ⟨_, fun _ => rfl⟩
        · split
          · exact .inr ⟨_, fun _ => rfl⟩
          · exact .inl fun _ => rfl
      rcases this with g | ⟨x, g⟩
      · exact .inl fun κ => (hv κ).trans (g _)
      · exact .inr ⟨x, st.h, fun κ => (hv κ).trans (g _)⟩
  unfold evFn
  refine (ev_det hΓ fn.code _).bind (G := fun e st κ => match e with
    | .normal => resK fn.results st.t st.h fun vs => retK vs fun v => κ v st.h
    | .ret => resK fn.results st.t st.h fun vs => retK vs fun v => κ v st.h
    | _ => none) fun e st => ?_
  cases e with
  | normal => exact fin st
  | ret => exact fin st
  | _ => exact .inl fun _ => rfl
theorem Det.factor {o : List AV → Heap → (AV → Heap → Option Res) → Option Res} (h : ∀ args hp, Det (o args hp)) : Factor o := by
  intro args hp κ
  rcases h args hp with g | ⟨x, y, g⟩
  · rw [g, g]; rfl
  · rw [g, g]; rfl
def lowRes (P : Program) : List ResultVar → List ARes → Bool
  | [], [] => true
  | .tmp i :: r, .t j :: s => i == j && lowRes P r s
  | .cell i ty :: r, .cell j agg n :: s => i == j && isAggB P ty == some agg && (!agg || szOf P ty == some n) && lowRes P r s
  | _, _ => false
theorem resK_sound {ι : Inj} {h : Heap} {a : Act} {w : World} {r : Res} : ∀ {rvs : List ResultVar} {rs : List ARes} {t : List AV} {κ : List AV → Option Res}, lowRes P rvs rs = true → Rel ι t h a w → resK rs t h κ = some r →
    ∃ vs xs, κ vs = some r ∧ VRL ι vs xs ∧ (rvs.mapM fun x => (match x with
      | .tmp t => pure (a.tmps.getD t undef)
      | .cell i t => do loadVar t (← asAddr (a.tmps.getD i undef)) : Sem Value)).run P w = .ok xs w
  | [], [], t, κ, _, R, hk => ⟨[], [], hk, ⟨rfl, fun i v hi => by simp at hi⟩, by simp⟩
  | .tmp i :: rvs, .t j :: rs, t, κ, hl, R, hk => by
    simp only [lowRes, Bool.and_eq_true, beq_iff_eq] at hl
    obtain ⟨rfl, hl⟩ := hl
    obtain ⟨vs, xs, h1, h2, h3⟩ := resK_sound hl R hk
    refine ⟨_, a.tmps.getD i undef :: xs, h1, ⟨by simp [h2.1], fun k v hv => ?_⟩, by simp only [List.mapM_cons, Sem.run_bind, Sem.run_pure, Result.andThen_ok, h3]⟩
    cases k with
    | zero => simp only [List.getElem?_cons_zero, Option.some.injEq] at hv; subst hv; exact ⟨_, rfl, R.tmps i⟩
    | succ k => exact h2.2 k v (by simpa using hv)
  | .cell i ty :: rvs, .cell j agg n :: rs, t, κ, hl, R, hk => by
    simp only [lowRes, Bool.and_eq_true, beq_iff_eq, Bool.or_eq_true, Bool.not_eq_true'] at hl
    obtain ⟨⟨⟨rfl, ha⟩, hs⟩, hl⟩ := hl
    simp only [resK] at hk
    obtain ⟨v, y, h1, h2, h3⟩ := loadK_sound (P := P) R.heap (R.tmps i) ha (fun e => hs.resolve_left (by simp [e])) hk
    obtain ⟨vs, xs, g1, g2, g3⟩ := resK_sound hl R h1
    refine ⟨_, y :: xs, g1, ⟨by simp [g2.1], fun k v hv => ?_⟩, ?_⟩
    · cases k with
      | zero => simp only [List.getElem?_cons_zero, Option.some.injEq] at hv; subst hv; exact ⟨_, rfl, h2⟩
      | succ k => exact g2.2 k v (by simpa using hv)
    · have : (do loadVar ty (← asAddr (a.tmps.getD i undef)) : Sem Value).run P w = .ok y w := by
        cases hv : a.tmps.getD i undef with
        | pointer p =>
          rw [hv] at h3
          cases p with
          | none => simp [Instr.loadAt, Instr.sureAddr, stuck] at h3
          | some p => simpa [Instr.loadAt, Instr.sureAddr, asAddr] using h3
        | _ => rw [hv] at h3; simp [Instr.loadAt, Instr.sureAddr, stuck] at h3
      simp only [List.mapM_cons, Sem.run_bind, Sem.run_pure, Result.andThen_ok] at this ⊢
      rw [this]
      simp only [Result.andThen_ok, g3]
  | [], _ :: _, _, _, hl, _, _ => by simp [lowRes] at hl
  | _ :: _, [], _, _, hl, _, _ => by simp [lowRes] at hl
  | .tmp _ :: _, .cell .. :: _, _, _, hl, _, _ => by simp [lowRes] at hl
  | .cell .. :: _, .t _ :: _, _, _, hl, _, _ => by simp [lowRes] at hl
def EffB (B : Nat) (ι : Inj) (h : Heap) (w : World) (v : AV) (h' : Heap) (x : Value) (w' : World) : Prop :=
  ∃ ι', VR ι' v x ∧ HRel ι' h' w' ∧ StepB B ι h w ι' h' w' ∧ Fresh ι' h'.next
def lowFn (P : Program) (B : Nat) (fn : Func) (af : AFn) : Bool :=
  fn.name != "runtime.NumGoroutine" && fn.ntmps == af.ntmps && lowRes P fn.results.toList af.results && (match fn.body with | some c => lowCode P B af.code c | none => false)
theorem VA.of_VR {ι : Inj} {v : AV} {x : Value} (h : valOk v = true) (hv : VR ι v x) : VA ι v x := by cases v <;> first | exact hv | (simp [valOk] at h; done)
theorem evFn_sound (hΓ : EnvOk P Γ) (hm : P.follows .mixedOrders = true) {B : Nat} {f : FuncId} {fn : Func} {af : AFn} (hf : P.funcs[f]? = some fn) (hl : lowFn P B fn af = true) {args : List AV} {h h' : Heap} {v : AV} {ι : Inj} {w : World} {vs : Array Value}
    (hk : evFn Γ af args h kH = some (v, h')) (R : HRel ι h w) (hfr : Fresh ι h.next) (hBn : B ≤ h.next) (ha : VRL ι args vs.toList) : CallsV P f vs w fun x w' => EffB B ι h w v h' x w' := by
  simp only [lowFn, Bool.and_eq_true, beq_iff_eq, bne_iff_ne] at hl
  obtain ⟨⟨⟨hname, hnt⟩, hres⟩, hb⟩ := hl
  split at hb <;> try (cases hb; done)
  rename_i c hbody
  refine .inr ⟨?_, ?_⟩
  · simp [callFunc, hf, hname, hbody]
  · refine calls_of_wp hf hbody ?_
    have hsz : args.length = vs.size := by simpa using ha.1
    have R0 : Rel ι (args ++ List.replicate (af.ntmps - args.length) .undef) h { tmps := vs ++ Array.replicate (fn.ntmps - vs.size) undef, defers := [] } w := by
      refine ⟨rfl, by simp [hsz, hnt], fun i => ?_, R⟩
      rw [List.getD_eq_getElem?_getD, List.getElem?_append]
      split
      · rename_i hi
        obtain ⟨x, hx, hv⟩ := ha.2 i args[i] (by simp [hi])
        have : (vs ++ Array.replicate (fn.ntmps - vs.size) undef).getD i undef = x := by
          rw [Array.getD_eq_getD_getElem?, Array.getElem?_append_left (by omega)]
          rw [Array.getElem?_toList] at hx
          rw [hx]; rfl
        simp only [List.getElem?_eq_getElem hi, Option.getD_some, this]
        exact hv
      · have : ((List.replicate (af.ntmps - args.length) AV.undef)[i - args.length]?).getD .undef = .undef := by
          rw [List.getElem?_replicate]; split <;> rfl
        rw [this]
        trivial
    unfold evFn at hk
    refine ev_sound hΓ hm af.code c _ ι _ w _ (v, h') _ hb ⟨R0, hfr⟩ hBn hk fun e st' ι' a' w' he R' S' => ?_
    have fin : (resK af.results st'.t st'.h fun vs => retK vs fun v => kH v st'.h) = some (v, h') → a'.defers = [] ∧ ∃ x, (results fn a'.tmps).run P w' = .ok x w' ∧ ∃ y, Ending.returned x = .returned y ∧ EffB B ι h w v h' y w' := by
      intro he
      refine ⟨R'.rel.defers, ?_⟩
      obtain ⟨rs, xs, h1, h2, h3⟩ := resK_sound (P := P) hres R'.rel he
      have hrun : (results fn a'.tmps).run P w' = .ok (if h : xs.toArray.size = 1 then xs.toArray[0] else .tuple xs.toArray) w' := by
        have h4 : (fn.results.mapM fun x => (match x with
          | .tmp t => pure (a'.tmps.getD t undef)
          | .cell i t => do loadVar t (← asAddr (a'.tmps.getD i undef)) : Sem Value)).run P w' = .ok xs.toArray w' := by
          rw [Array.mapM_eq_mapM_toList]
          simp only [Sem.run_map, h3]
          rfl
        unfold results
        simp only [Sem.run_bind]
        exact congrArg (fun z : Result (Array Value) => z.andThen fun vs w' => (pure (if h : vs.size = 1 then vs[0] else Value.tuple vs) : Sem Value).run P w') h4
      refine ⟨_, hrun, _, rfl, ?_⟩
      unfold retK at h1
      split at h1
      · rename_i v0
        simp only [kH, Option.some.injEq, Prod.mk.injEq] at h1
        obtain ⟨rfl, rfl⟩ := h1
        obtain ⟨x, hx, hv⟩ := h2.2 0 v0 rfl
        have hl1 : xs.length = 1 := by rw [← h2.1]; rfl
        obtain ⟨x0, rfl⟩ : ∃ x0, xs = [x0] := by
          match xs, hl1 with
          | [x0], _ => exact ⟨x0, rfl⟩
        simp only [List.getElem?_cons_zero, Option.some.injEq] at hx
        subst hx
        exact ⟨ι', hv, R'.rel.heap, S', R'.fresh⟩
      · rename_i hne
        split at h1 <;> try (cases h1; done)
        rename_i hok
        simp only [kH, Option.some.injEq, Prod.mk.injEq] at h1
        obtain ⟨rfl, rfl⟩ := h1
        have hl1 : ¬ xs.toArray.size = 1 := by
          intro h
          have : rs.length = 1 := by rw [h2.1]; simpa using h
          match rs, this with
          | [x0], _ => exact hne x0 rfl
        rw [dif_neg hl1]
        refine ⟨ι', ⟨_, rfl, h2.1, fun i u hu => ?_⟩, R'.rel.heap, S', R'.fresh⟩
        obtain ⟨x, hx, hv⟩ := h2.2 i u hu
        exact ⟨x, hx, VA.of_VR (List.all_eq_true.1 hok u (List.mem_of_getElem? hu)) hv⟩
    cases e with
    | normal => exact fin he
    | ret => exact fin he
    | exit i => cases he
    | goto l => cases he
def ACode.free : ACode → Bool
  | .seq cn a b => cn.isNone && a.free && b.free
  | .cond _ a b => a.free && b.free
  | .block _ cn a => cn.isNone && a.free
  | .loop _ cn a => cn.isNone && a.free
  | .scope a => a.free
  | .jumps _ _ cn a r => cn.isNone && a.free && r.free
  | _ => true
theorem cnOk_none {cn : Option Canon} (h : cn.isNone = true) (B : Nat) : cnOk B cn = true := by cases cn <;> simp_all [cnOk]
theorem lowCode_free {B B' : Nat} : ∀ (ac : ACode) (c : Code), ac.free = true → lowCode P B ac c = true → lowCode P B' ac c = true := by
  intro ac
  induction ac with
  | seq cn a b iha ihb =>
    intro c hf h
    simp only [ACode.free, Bool.and_eq_true] at hf
    cases c <;> first | (simp [lowCode] at h; done) | skip
    simp only [lowCode, Bool.and_eq_true] at h ⊢
    exact ⟨⟨cnOk_none hf.1.1 _, iha _ hf.1.2 h.1.2⟩, ihb _ hf.2 h.2⟩
  | cond co a b iha ihb =>
    intro c hf h
    simp only [ACode.free, Bool.and_eq_true] at hf
    cases c <;> first | (simp [lowCode] at h; done) | skip
    simp only [lowCode, Bool.and_eq_true] at h ⊢
    exact ⟨⟨h.1.1, iha _ hf.1 h.1.2⟩, ihb _ hf.2 h.2⟩
  | block id cn a ih =>
    intro c hf h
    simp only [ACode.free, Bool.and_eq_true] at hf
    cases c <;> first | (simp [lowCode] at h; done) | skip
    simp only [lowCode, Bool.and_eq_true] at h ⊢
    exact ⟨⟨h.1.1, cnOk_none hf.1 _⟩, ih _ hf.2 h.2⟩
  | loop fuel cn a ih =>
    intro c hf h
    simp only [ACode.free, Bool.and_eq_true] at hf
    cases c <;> first | (simp [lowCode] at h; done) | skip
    simp only [lowCode, Bool.and_eq_true] at h ⊢
    exact ⟨cnOk_none hf.1 _, ih _ hf.2 h.2⟩
  | scope a ih =>
    intro c hf h
    simp only [ACode.free] at hf
    cases c <;> first | (simp [lowCode] at h; done) | skip
    simp only [lowCode] at h ⊢
    exact ih _ hf h
  | jumps fuel l cn a rest iha ihr =>
    intro c hf h
    simp only [ACode.free, Bool.and_eq_true] at hf
    cases c <;> first | (simp [lowCode] at h; done) | skip
    simp only [lowCode, Bool.and_eq_true] at h ⊢
    refine ⟨⟨cnOk_none hf.1.1 _, iha _ hf.1.2 h.1.2⟩, ?_⟩
    have h2 := h.2
    split at h2
    · exact ihr _ hf.2 h2
    · cases h2
  | _ => intro c _ h; cases c <;> first | exact h | (rename_i d; cases d <;> exact h)
theorem evFn_full (hΓ : EnvOk P Γ) (hm : P.follows .mixedOrders = true) {f : FuncId} {fn : Func} {af : AFn} (hf : P.funcs[f]? = some fn) (hl : lowFn P 0 fn af = true) (hfree : af.code.free = true) : FullOk P f fun args h κ => evFn Γ af args h κ where
  factor := Det.factor fun args h => evFn_det hΓ af args h
  sound := fun args h v h' ι w vs hk R hfr ha => by
    have hl' : lowFn P h.next fn af = true := by
      simp only [lowFn, Bool.and_eq_true] at hl ⊢
      refine ⟨hl.1, ?_⟩
      have h2 := hl.2
      split at h2
      · exact lowCode_free _ _ hfree h2
      · cases h2
    refine (evFn_sound hΓ hm hf hl' hk R hfr (Nat.le_refl _) ha).mono fun x w' E => ?_
    obtain ⟨ι', e1, e2, e3, e4⟩ := E
    have hle := e3.next (Nat.le_refl _)
    refine ⟨ι', e1, e2, ⟨⟨fun id p hp => ?_, e3.fz⟩, e3.os, e3.tape, e3.output, e3.size, e3.frame, e3.own, e3.fzo⟩, hle, fun id hid => ?_⟩
    · have hlt : id < h.next := by
        rcases Nat.lt_or_ge id h.next with h1 | h1
        · exact h1
        · rw [hfr id h1] at hp; cases hp
      rw [e3.same id hlt]; exact hp
    · rcases hid with hid | hid
      · exact e3.same id hid
      · rw [e4 id hid, hfr id (Nat.le_trans hle hid)]
end
end Go.Am
