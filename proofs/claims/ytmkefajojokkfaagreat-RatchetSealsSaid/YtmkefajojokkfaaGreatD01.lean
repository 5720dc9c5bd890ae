/- RatchetSeals: part 2 of 50 of its proof. -/
import Derived.Test.YtmkefajojokkfaaGreatD00
import Derived.Laws.Cover3
import Derived.Laws.Externs
import Derived.Laws.IdiomStrings
import Derived.Laws.IdiomCopy
import Derived.Laws.MakeOwn
import Derived.Laws.BytesString
set_option linter.unusedVariables false
set_option linter.unusedSimpArgs false
namespace Go.Am
def Inj.upd (ι : Inj) (id : Nat) (p : Place) : Inj := { ι with pl := fun i => if i = id then some p else ι i }
theorem Inj.le_upd {ι : Inj} {id : Nat} {p : Place} (h : ι id = none) : ι.le (ι.upd id p) := by
  refine ⟨fun i q hi => ?_, fun _ _ h => h⟩
  simp only [Inj.upd]
  split
  · rename_i e; subst e; rw [h] at hi; cases hi
  · exact hi
theorem FzR.world {ι ι' : Inj} {w w' : World} {k : Nat} {f : Frz} (h : FzR ι w k f) (hl : ι.le ι') (hb : w'.heap[k]? = w.heap[k]?) : FzR ι' w' k f := by
  obtain ⟨arr, el, z, h1, h3, h2⟩ := h
  exact ⟨arr, el, z, hb.trans h1, h3, fun o v ho => let ⟨a, b, x, hx, hs⟩ := h2 o v ho; ⟨a, b, x, hx, hs.mono hl⟩⟩
theorem FzR.lt {ι : Inj} {w : World} {k : Nat} {f : Frz} (h : FzR ι w k f) : k < w.heap.size := by
  obtain ⟨arr, el, z, hg, _⟩ := h
  exact (Array.getElem?_eq_some_iff.1 hg).1
theorem Inj.upd_same (ι : Inj) (id : Nat) (p : Place) : ι.upd id p id = some p := by simp [Inj.upd]
theorem Inj.upd_ne (ι : Inj) {id i : Nat} (p : Place) (h : i ≠ id) : ι.upd id p i = ι i := by simp [Inj.upd, h]
theorem HRel.dom {ι : Inj} {h : Heap} {w : World} (R : HRel ι h w) {id : Nat} (hn : ι id = none) : h.get id = none := by
  cases hg : h.get id with
  | none => rfl
  | some c => obtain ⟨p, hp, _⟩ := R.blk id c hg; rw [hn] at hp; cases hp
theorem RowR.lt {ι : Inj} {w : World} {p : Place} {ro : Bool} {l : List AV} (h : RowR ι w p ro l) : p.blk < w.heap.size := by
  obtain ⟨arr, el, fz, hg, _⟩ := h.row
  exact (Array.getElem?_eq_some_iff.1 hg).1
theorem RowR.world {ι ι' : Inj} {w w' : World} {p : Place} {ro : Bool} {l : List AV} (h : RowR ι w p ro l) (hl : ι.le ι') (hb : w'.heap[p.blk]? = w.heap[p.blk]?) : RowR ι' w' p ro l := by
  obtain ⟨arr, el, fz, hg, h1, h2, h3, h4⟩ := h.row
  exact ⟨arr, el, fz, hb.trans hg, h1, h2, fun i v hi => let ⟨x, hx, hs⟩ := h3 i v hi; ⟨x, hx, hs.mono hl⟩, h4⟩
theorem OthR.lt {w : World} {p : Place} {b : Blk} (h : OthR w p b) : p.blk < w.heap.size := by
  cases b <;> first | exact h.elim | exact (Array.getElem?_eq_some_iff.1 h.2).1
theorem OthR.world {w w' : World} {p : Place} {b : Blk} (h : OthR w p b) (hb : w'.heap[p.blk]? = w.heap[p.blk]?) : OthR w' p b := by
  cases b <;> first | exact h.elim | exact ⟨h.1, hb.trans h.2⟩
theorem rowOf {ι : Inj} {w : World} {p : Place} {ro : Bool} {b : Blk} (h : RowR ι w p ro b.cells ∨ OthR w p b) (hb : ∀ s pos, b ≠ .iter s pos) : RowR ι w p ro b.cells := by
  rcases h with h | h
  · exact h
  · cases b <;> first | exact h.elim | exact absurd rfl (hb _ _)
theorem rowOf'' {ι : Inj} {w : World} {p : Place} {ro : Bool} {b : Blk} {arr : Array Value} {el : TypeId} {fz : Nat × Nat} (h : RowR ι w p ro b.cells ∨ OthR w p b) (hb : w.heap[p.blk]? = some (.cells arr el fz)) : RowR ι w p ro b.cells := by
  rcases h with h | h
  · exact h
  · cases b <;> first | exact h.elim | (have := h.2; rw [hb] at this; cases this)
theorem BlkR.world {ι ι' : Inj} {w w' : World} {id : Nat} {c : Cell} (h : BlkR ι w id c) (hl : ι.le ι') (hb : ∀ p, ι id = some p → p.lim ≠ 0 → w'.heap[p.blk]? = w.heap[p.blk]?) : BlkR ι' w' id c := by
  obtain ⟨p, hp, wf, hs, h0, h1⟩ := h
  exact ⟨p, hl.pl _ _ hp, wf, hs, h0, fun hn => (h1 hn).imp (fun h => h.world hl (hb p hp hn)) (fun h => h.world (hb p hp hn))⟩
def FzIn (ι : Inj) (w w' : World) : Prop := ∀ k f, ι.fz k = some f → w'.heap[k]? = w.heap[k]?
theorem HRel.world {ι ι' : Inj} {h : Heap} {w w' : World} (R : HRel ι h w) (hl : ι.le ι') (hb : ∀ id c p, h.get id = some c → ι id = some p → p.lim ≠ 0 → w'.heap[p.blk]? = w.heap[p.blk]?)
    (hz : ∀ k f, ι'.fz k = some f → ι.fz k = some f) (hf : FzIn ι w w') : HRel ι' h w' where
  fz := fun k f hk => by
    have hk' := hz k f hk
    obtain ⟨h1, h2⟩ := R.fz k f hk'
    refine ⟨h1.world hl (hf k f hk'), fun id c p hg hro hp hlim => ?_⟩
    obtain ⟨q, hq, _⟩ := R.blk id c hg
    have := hl.pl _ _ hq
    rw [hp] at this; cases this
    exact h2 id c p hg hro hq hlim
  blk := fun id c hg => (R.blk id c hg).world hl fun p hp hn => hb id c p hg hp hn
  disj := fun id1 c1 p1 id2 c2 p2 g1 g2 hne hro h1 h2 n1 n2 => by
    obtain ⟨q1, hq1, _⟩ := R.blk id1 c1 g1
    obtain ⟨q2, hq2, _⟩ := R.blk id2 c2 g2
    have e1 : p1 = q1 := by have := hl.pl _ _ hq1; rw [h1] at this; cases this; rfl
    have e2 : p2 = q2 := by have := hl.pl _ _ hq2; rw [h2] at this; cases this; rfl
    subst e1 e2
    exact R.disj id1 c1 p1 id2 c2 p2 g1 g2 hne hro hq1 hq2 n1 n2
theorem HRel.blk_lt {ι : Inj} {h : Heap} {w : World} (R : HRel ι h w) {id : Nat} {c : Cell} {p : Place} (hg : h.get id = some c) (hp : ι id = some p) (hn : p.lim ≠ 0) : p.blk < w.heap.size := by
  obtain ⟨q, hq, _, _, _, h1⟩ := R.blk id c hg
  rw [hp] at hq; cases hq
  exact (h1 hn).elim (fun h => h.lt) fun h => h.lt
theorem HRel.sub {ι : Inj} {h h' : Heap} {w : World} (R : HRel ι h w) (hs : ∀ id c, h'.get id = some c → h.get id = some c) : HRel ι h' w where
  fz := fun k f hk => ⟨(R.fz k f hk).1, fun id c p hg => (R.fz k f hk).2 id c p (hs id c hg)⟩
  blk := fun id c hg => R.blk id c (hs id c hg)
  disj := fun id1 c1 p1 id2 c2 p2 g1 g2 => R.disj id1 c1 p1 id2 c2 p2 (hs _ _ g1) (hs _ _ g2)
theorem get_ins {h : Heap} {nid id : Nat} {b : Blk} (hn : h.get nid = none) : (h.ins nid (some b)).get id = if id = nid then some ⟨nid, false, b⟩ else h.get id := findB_ins hn
theorem get_new {h : Heap} {id : Nat} {b : Blk} (hn : h.get h.next = none) : (h.new b).get id = if id = h.next then some ⟨h.next, false, b⟩ else h.get id := findB_ins hn
theorem get_set {h : Heap} {id id' : Nat} {b : Blk} : (h.set id' b).get id = if id = id' then (h.get id).map (fun c => { c with blk := b }) else h.get id := findB_set
theorem get_del {h : Heap} {id id' : Nat} : (h.del id').get id = if id = id' then none else h.get id := findB_del
theorem HRel.fresh {ι : Inj} {h h' : Heap} {w w' : World} {nid : Nat} {b : Blk} {arr : Array Value} {el : TypeId} {fz : Nat × Nat} (R : HRel ι h w) (hn : ι nid = none)
    (hget : ∀ id, h'.get id = if id = nid then some ⟨nid, false, b⟩ else h.get id) (hwf : b.Wf)
    (os : w'.os = w.os) (tape : w'.tape = w.tape) (output : w'.output = w.output) (hheap : w'.heap = w.heap.push (.cells arr el fz))
    (hle : b.cells.length ≤ arr.size) (hz : arr.size = 0 → b.cells.length = 0)
    (hc : ∀ (i : Nat) v, b.cells[i]? = some v → ∃ x, arr[i]? = some x ∧ SR ι v x) (hfz : ∀ o, o < arr.size → ¬ (fz.1 ≤ o ∧ o < fz.2)) :
    HRel (ι.upd nid ⟨w.heap.size, 0, b.cells.length, arr.size⟩) h' w' ∧ Step ι h w (ι.upd nid ⟨w.heap.size, 0, b.cells.length, arr.size⟩) h' w' := by
  have hl : ι.le (ι.upd nid ⟨w.heap.size, 0, b.cells.length, arr.size⟩) := Inj.le_upd hn
  have hold : ∀ k, k < w.heap.size → w'.heap[k]? = w.heap[k]? := fun k hk => by rw [hheap, Array.getElem?_push, if_neg (by omega)]
  have hnew : w'.heap[w.heap.size]? = some (.cells arr el fz) := by rw [hheap]; simp
  have hblk : ∀ id c p, h.get id = some c → (ι.upd nid ⟨w.heap.size, 0, b.cells.length, arr.size⟩) id = some p → id ≠ nid → p.lim ≠ 0 → p.blk < w.heap.size := by
    intro id c p hg hp hne hlim
    rw [Inj.upd_ne _ _ hne] at hp
    exact R.blk_lt hg hp hlim
  have hfzin : FzIn ι w w' := fun k f hk => hold k (R.fz k f hk).1.lt
  refine ⟨⟨?_, ?_, ?_⟩, ⟨hl, os, tape, output, by rw [hheap]; simp, fun k hk _ => hold k hk, ?_, fun _ _ h => .inl h⟩⟩
  rotate_left
  · intro k f hk
    obtain ⟨f1, f2⟩ := R.fz k f hk
    refine ⟨f1.world hl (hfzin k f hk), fun id c p hg hro hp hlim => ?_⟩
    rw [hget] at hg
    split at hg
    · rename_i e
      subst e
      rw [Inj.upd_same] at hp
      cases hp
      have := f1.lt
      simp only; omega
    · rename_i e
      rw [Inj.upd_ne _ _ e] at hp
      exact f2 id c p hg hro hp hlim
  rotate_left 2
  · intro id c hg
    rw [hget] at hg
    split at hg
    · rename_i e
      subst e
      cases hg
      exact ⟨_, Inj.upd_same _ _ _, hwf, rfl, hz, fun _ => .inl ⟨arr, el, fz, hnew, rfl, by simpa using hle, fun i v hi => let ⟨x, hx, hs⟩ := hc i v hi; ⟨x, by simpa using hx, hs.mono hl⟩, fun _ => hfz⟩⟩
    · exact (R.blk id c hg).world hl fun p hp hlim => hold _ (R.blk_lt hg hp hlim)
  · intro id1 c1 p1 id2 c2 p2 g1 g2 hne hro h1 h2 n1 n2
    rw [hget] at g1 g2
    split at g1 <;> split at g2
    · rename_i e1 e2; exact absurd (e1.trans e2.symm) hne
    · rename_i e1 e2
      subst e1
      rw [Inj.upd_same] at h1
      cases h1
      have := hblk id2 c2 p2 g2 h2 e2 n2
      simp only; omega
    · rename_i e1 e2
      subst e2
      rw [Inj.upd_same] at h2
      cases h2
      have := hblk id1 c1 p1 g1 h1 e1 n1
      simp only; omega
    · rename_i e1 e2
      rw [Inj.upd_ne _ _ e1] at h1
      rw [Inj.upd_ne _ _ e2] at h2
      exact R.disj id1 c1 p1 id2 c2 p2 g1 g2 hne hro h1 h2 n1 n2
  · rintro k ⟨id, c, p, hg, hro, hp, hlim, rfl⟩
    rw [hget] at hg
    split at hg
    · rename_i e
      subst e
      rw [Inj.upd_same] at hp
      cases hp
      exact .inr (Nat.le_refl _)
    · rename_i e
      rw [Inj.upd_ne _ _ e] at hp
      exact .inl ⟨id, c, p, hg, hro, hp, hlim, rfl⟩
theorem HRel.write {ι : Inj} {h h' : Heap} {w w' : World} {id : Nat} {c : Cell} {p : Place} {b : Blk} {arr arr' : Array Value} {el : TypeId} {fz : Nat × Nat} (R : HRel ι h w)
    (hg : h.get id = some c) (hro : c.ro = false) (hp : ι id = some p) (hlim : p.lim ≠ 0) (hrow : w.heap[p.blk]? = some (.cells arr el fz)) (hsz : arr'.size = arr.size)
    (hget : ∀ i, h'.get i = if i = id then some { c with blk := b } else h.get i) (hwf : b.Wf) (hlen : b.cells.length = c.blk.cells.length)
    (hw : w' = w.setRow p.blk arr') (hc : ∀ (i : Nat) v, b.cells[i]? = some v → ∃ x, arr'[p.base + i]? = some x ∧ SR ι v x) :
    HRel ι h' w' ∧ Step ι h w ι h' w' := by
  subst hw
  obtain ⟨q, hq, wf, hs, h0, h1⟩ := R.blk id c hg
  rw [hp] at hq; cases hq
  obtain ⟨arr0, el0, fz0, hg0, z1, z2, z3, z4⟩ := (rowOf'' (h1 hlim) hrow).row
  rw [hrow] at hg0
  cases hg0
  have hother : ∀ id2 c2 p2, h.get id2 = some c2 → id2 ≠ id → ι id2 = some p2 → p2.lim ≠ 0 → (w.setRow p.blk arr').heap[p2.blk]? = w.heap[p2.blk]? := by
    intro id2 c2 p2 hg2 hne hp2 hlim2
    exact setRow_other _ _ _ _ (Ne.symm (R.disj id c p id2 c2 p2 hg hg2 (Ne.symm hne) hro hp hp2 hlim hlim2))
  have hfzin : ∀ k f, ι.fz k = some f → (w.setRow p.blk arr').heap[k]? = w.heap[k]? := fun k f hk => setRow_other _ _ _ _ (Ne.symm ((R.fz k f hk).2 id c p hg hro hp hlim))
  refine ⟨⟨?_, ?_, ?_⟩, ⟨.refl _, rfl, rfl, rfl, by simp, ?_, ?_, fun _ _ h => .inl h⟩⟩
  rotate_left
  · intro k f hk
    obtain ⟨f1, f2⟩ := R.fz k f hk
    refine ⟨f1.world (.refl _) (hfzin k f hk), fun i d q hd hro2 hq hlim2 => ?_⟩
    rw [hget] at hd
    split at hd
    · rename_i e
      subst e
      cases hd
      exact f2 i c q hg hro hq hlim2
    · exact f2 i d q hd hro2 hq hlim2
  rotate_left 3
  · intro i d hd
    rw [hget] at hd
    split at hd
    · rename_i e
      subst e
      cases hd
      exact ⟨p, hp, hwf, hlen.trans hs, h0, fun _ => .inl ⟨arr', el, fz, setRow_heap _ _ _ _ _ _ hrow, hsz.trans z1, z2, hc, fun hr => z4 hro⟩⟩
    · rename_i e
      exact (R.blk i d hd).world (.refl _) fun p2 hp2 hlim2 => hother i d p2 hd e hp2 hlim2
  · intro id1 c1 p1 id2 c2 p2 g1 g2 hne hro1 h1 h2 n1 n2
    rw [hget] at g1 g2
    split at g1 <;> split at g2
    · rename_i e1 e2; exact absurd (e1.trans e2.symm) hne
    · rename_i e1 e2
      subst e1
      exact R.disj id1 c p1 id2 c2 p2 hg g2 hne hro h1 h2 n1 n2
    · rename_i e1 e2
      subst e2
      cases g2
      exact R.disj id1 c1 p1 id2 c p2 g1 hg hne hro1 h1 h2 n1 n2
    · exact R.disj id1 c1 p1 id2 c2 p2 g1 g2 hne hro1 h1 h2 n1 n2
  · intro k hk hno
    exact setRow_other _ _ _ _ fun e => hno ⟨id, c, p, hg, hro, hp, hlim, e.symm⟩
  · rintro k ⟨i, d, p2, hd, hro2, hp2, hlim2, rfl⟩
    rw [hget] at hd
    split at hd
    · rename_i e
      subst e
      exact .inl ⟨i, c, p2, hg, hro, hp2, hlim2, rfl⟩
    · exact .inl ⟨i, d, p2, hd, hro2, hp2, hlim2, rfl⟩
theorem HRel.rename {ι : Inj} {h h' : Heap} {w w' : World} {id nid : Nat} {c : Cell} {p q : Place} {b : Blk} (R : HRel ι h w)
    (hg : h.get id = some c) (hro : c.ro = false) (hp : ι id = some p) (hn : ι nid = none) (hqb : q.blk = p.blk) (hql : q.lim = p.lim)
    (os : w'.os = w.os) (tape : w'.tape = w.tape) (output : w'.output = w.output) (hsz : w'.heap.size = w.heap.size) (hoth : ∀ k, (p.lim = 0 ∨ k ≠ p.blk) → w'.heap[k]? = w.heap[k]?)
    (hget : ∀ i, h'.get i = if i = nid then some ⟨nid, false, b⟩ else if i = id then none else h.get i) (hwf : b.Wf) (hlen : b.cells.length = q.size) (hz : q.lim = 0 → q.size = 0)
    (hrow : q.lim ≠ 0 → RowR (ι.upd nid q) w' q false b.cells) :
    HRel (ι.upd nid q) h' w' ∧ Step ι h w (ι.upd nid q) h' w' := by
  have hl : ι.le (ι.upd nid q) := Inj.le_upd hn
  have hne : id ≠ nid := fun e => by rw [e, hn] at hp; cases hp
  have hfzin : FzIn ι w w' := fun k f hk => by
    refine hoth k ?_
    by_cases h0 : p.lim = 0
    · exact .inl h0
    · exact .inr (Ne.symm ((R.fz k f hk).2 id c p hg hro hp h0))
  refine ⟨⟨?_, ?_, ?_⟩, ⟨hl, os, tape, output, by rw [hsz]; exact Nat.le_refl _, fun k _ hno => ?_, ?_, fun _ _ h => .inl h⟩⟩
  rotate_left
  · intro k f hk
    obtain ⟨f1, f2⟩ := R.fz k f hk
    refine ⟨f1.world hl (hfzin k f hk), fun i d q2 hd hro2 hq hlim2 => ?_⟩
    rw [hget] at hd
    split at hd
    · rename_i e
      subst e
      rw [Inj.upd_same] at hq
      cases hq
      rw [hqb]
      exact f2 id c p hg hro hp (by rw [← hql]; exact hlim2)
    · split at hd
      · cases hd
      · rename_i e _
        rw [Inj.upd_ne _ _ e] at hq
        exact f2 i d q2 hd hro2 hq hlim2
  rotate_left 3
  · intro i d hd
    rw [hget] at hd
    split at hd
    · rename_i e
      subst e
      cases hd
      exact ⟨q, Inj.upd_same _ _ _, hwf, hlen, hz, fun hl => .inl (hrow hl)⟩
    · split at hd
      · cases hd
      · rename_i e
        refine (R.blk i d hd).world hl fun p2 hp2 hlim2 => hoth _ ?_
        by_cases h0 : p.lim = 0
        · exact .inl h0
        · exact .inr (Ne.symm (R.disj id c p i d p2 hg hd (Ne.symm e) hro hp hp2 h0 hlim2))
  · intro id1 c1 p1 id2 c2 p2 g1 g2 hne hro1 h1 h2 n1 n2
    rw [hget] at g1 g2
    split at g1 <;> split at g2
    · rename_i e1 e2; exact absurd (e1.trans e2.symm) hne
    · rename_i e1 e2
      split at g2
      · cases g2
      · rename_i e3
        subst e1
        rw [Inj.upd_same] at h1
        cases h1
        rw [Inj.upd_ne _ _ e2] at h2
        rw [hqb]
        exact R.disj id c p id2 c2 p2 hg g2 (Ne.symm e3) hro hp h2 (by rw [← hql]; exact n1) n2
    · rename_i e1 e2
      split at g1
      · cases g1
      · rename_i e3
        subst e2
        rw [Inj.upd_same] at h2
        cases h2
        rw [Inj.upd_ne _ _ e1] at h1
        rw [hqb]
        exact Ne.symm (R.disj id c p id1 c1 p1 hg g1 (Ne.symm e3) hro hp h1 (by rw [← hql]; exact n2) n1)
    · rename_i e1 e2
      split at g1
      · cases g1
      · split at g2
        · cases g2
        · rw [Inj.upd_ne _ _ e1] at h1
          rw [Inj.upd_ne _ _ e2] at h2
          exact R.disj id1 c1 p1 id2 c2 p2 g1 g2 hne hro1 h1 h2 n1 n2
  · refine hoth k ?_
    by_cases h0 : p.lim = 0
    · exact .inl h0
    · exact .inr fun e => hno ⟨id, c, p, hg, hro, hp, h0, e.symm⟩
  · rintro k ⟨i, d, p2, hd, hro2, hp2, hlim2, rfl⟩
    rw [hget] at hd
    split at hd
    · rename_i e
      subst e
      rw [Inj.upd_same] at hp2
      cases hp2
      exact .inl ⟨id, c, p, hg, hro, hp, by rw [← hql]; exact hlim2, hqb.symm⟩
    · split at hd
      · cases hd
      · rename_i e _
        rw [Inj.upd_ne _ _ e] at hp2
        exact .inl ⟨i, d, p2, hd, hro2, hp2, hlim2, rfl⟩
theorem HRel.void {ι : Inj} {h h' : Heap} {w : World} {nid : Nat} {b : Blk} (R : HRel ι h w) (hn : ι nid = none) (hget : ∀ id, h'.get id = if id = nid then some ⟨nid, false, b⟩ else h.get id) (hwf : b.Wf) (hlen : b.cells.length = 0) :
    HRel (ι.upd nid ⟨0,0,0,0⟩) h' w ∧ Step ι h w (ι.upd nid ⟨0,0,0,0⟩) h' w := by
  have hl : ι.le (ι.upd nid ⟨0,0,0,0⟩) := Inj.le_upd hn
  refine ⟨⟨?_, ?_, ?_⟩, ⟨hl, rfl, rfl, rfl, Nat.le_refl _, fun _ _ _ => rfl, ?_, fun _ _ h => .inl h⟩⟩
  rotate_left
  · intro k f hk
    obtain ⟨f1, f2⟩ := R.fz k f hk
    refine ⟨f1.world hl rfl, fun i d q2 hd hro2 hq hlim2 => ?_⟩
    rw [hget] at hd
    split at hd
    · rename_i e
      subst e
      rw [Inj.upd_same] at hq
      cases hq
      exact absurd rfl hlim2
    · rename_i e
      rw [Inj.upd_ne _ _ e] at hq
      exact f2 i d q2 hd hro2 hq hlim2
  rotate_left 2
  · intro id c hg
    rw [hget] at hg
    split at hg
    · rename_i e; subst e; cases hg
      exact ⟨_, Inj.upd_same _ _ _, hwf, hlen, fun _ => rfl, fun h => absurd rfl h⟩
    · exact (R.blk id c hg).world hl fun _ _ _ => rfl
  · intro id1 c1 p1 id2 c2 p2 g1 g2 hne hro h1 h2 n1 n2
    rw [hget] at g1 g2
    split at g1
    · rename_i e1; subst e1; rw [Inj.upd_same] at h1; cases h1; exact absurd rfl n1
    · split at g2
      · rename_i e2; subst e2; rw [Inj.upd_same] at h2; cases h2; exact absurd rfl n2
      · rename_i e1 e2
        rw [Inj.upd_ne _ _ e1] at h1
        rw [Inj.upd_ne _ _ e2] at h2
        exact R.disj id1 c1 p1 id2 c2 p2 g1 g2 hne hro h1 h2 n1 n2
  · rintro k ⟨i, d, p2, hd, hro2, hp2, hlim2, rfl⟩
    rw [hget] at hd
    split at hd
    · rename_i e; subst e; rw [Inj.upd_same] at hp2; cases hp2; exact absurd rfl hlim2
    · rename_i e
      rw [Inj.upd_ne _ _ e] at hp2
      exact .inl ⟨i, d, p2, hd, hro2, hp2, hlim2, rfl⟩
theorem HRel.of_heap {ι : Inj} {h : Heap} {w w' : World} (R : HRel ι h w) (hh : w'.heap = w.heap) : HRel ι h w' := R.world (.refl _) (fun _ _ _ _ _ _ => by rw [hh]) (fun _ _ h => h) fun _ _ _ => by rw [hh]
theorem Step.of_heap {ι : Inj} {h : Heap} {w w' : World} (hh : w'.heap = w.heap) (os : w'.os = w.os) (tape : w'.tape = w.tape) (output : w'.output = w.output) : Step ι h w ι h w' :=
  ⟨.refl _, os, tape, output, by rw [hh]; exact Nat.le_refl _, fun _ _ _ => by rw [hh], fun _ h => .inl h, fun _ _ h => .inl h⟩
theorem Step.sub {ι : Inj} {h h' : Heap} {w : World} (hs : ∀ id c, h'.get id = some c → h.get id = some c) : Step ι h w ι h' w :=
  ⟨.refl _, rfl, rfl, rfl, Nat.le_refl _, fun _ _ _ => rfl, fun _ ⟨id, c, p, hg, rest⟩ => .inl ⟨id, c, p, hs _ _ hg, rest⟩, fun _ _ h => .inl h⟩
theorem segC_len {s : AV} (h : SegWf s) : (segC s).length = segN s := by
  cases s <;> simp_all [segC, segN, SegWf]
theorem cellsL_cons (s : AV) (r : List AV) : cellsL (s :: r) = segC s ++ cellsL r := by simp [cellsL]
theorem cellsL_append (a b : List AV) : cellsL (a ++ b) = cellsL a ++ cellsL b := by simp [cellsL]
theorem flatMap_get {e : Nat} : ∀ {xs : List (List AV)} {r : Nat} {l : List AV}, (∀ x ∈ xs, (cellsL x).length = e) → xs[r]? = some l → ∀ i, i < e → (xs.flatMap cellsL)[r * e + i]? = (cellsL l)[i]?
  | [], r, l, _, h, _, _ => by simp at h
  | x :: xs, 0, l, hw, h, i, hi => by
    simp only [List.getElem?_cons_zero, Option.some.injEq] at h
    subst h
    have := hw x (by simp)
    rw [List.flatMap_cons, List.getElem?_append_left (by omega)]
    simp
  | x :: xs, r + 1, l, hw, h, i, hi => by
    have hx := hw x (by simp)
    have ih := flatMap_get (e := e) (xs := xs) (r := r) (l := l) (fun y hy => hw y (by simp [hy])) (by simpa using h) i hi
    rw [List.flatMap_cons, List.getElem?_append_right (by rw [Nat.add_mul]; omega), ← ih]
    congr 1
    rw [Nat.add_mul]; omega
theorem segsWf_cons {s : AV} {r : List AV} : SegsWf (s :: r) ↔ SegWf s ∧ SegsWf r := by simp [SegsWf]
theorem segsWf_append {a b : List AV} : SegsWf (a ++ b) ↔ SegsWf a ∧ SegsWf b := by
  simp only [SegsWf, List.mem_append]
  exact ⟨fun h => ⟨fun s hs => h s (.inl hs), fun s hs => h s (.inr hs)⟩, fun h s hs => hs.elim (h.1 s) (h.2 s)⟩
theorem sizeL_eq : ∀ {l : List AV}, SegsWf l → sizeL l = (cellsL l).length
  | [], _ => rfl
  | s :: r, h => by
    rw [segsWf_cons] at h
    simp [sizeL, cellsL_cons, segC_len h.1, sizeL_eq h.2]
theorem segAt_split : ∀ {l : List AV} {o : Nat} {s : AV}, SegsWf l → segAt l o = some s → ∃ a b, l = a ++ s :: b ∧ (cellsL a).length = o
  | [], _, _, _, h => by simp [segAt] at h
  | s :: r, o, s', wf, h => by
    rw [segsWf_cons] at wf
    simp only [segAt] at h
    split at h
    · rename_i e; cases h; exact ⟨[], r, rfl, by simp [cellsL, e]⟩
    · split at h
      · rename_i hle
        obtain ⟨a, b, rfl, hl⟩ := segAt_split wf.2 h
        refine ⟨s :: a, b, rfl, ?_⟩
        rw [cellsL_cons, List.length_append, segC_len wf.1, hl]
        omega
      · cases h
theorem repSeg_split : ∀ {l l' : List AV} {o : Nat} {v : AV}, SegsWf l → repSeg l o v = some l' → ∃ a s b, l = a ++ s :: b ∧ l' = a ++ v :: b ∧ (cellsL a).length = o ∧ segAt l o = some s
  | [], _, _, _, _, h => by simp [repSeg] at h
  | s :: r, l', o, v, wf, h => by
    rw [segsWf_cons] at wf
    simp only [repSeg] at h
    split at h
    · rename_i e; cases h; exact ⟨[], s, r, rfl, rfl, by simp [cellsL, e], by simp [segAt, e]⟩
    · rename_i ho
      split at h
      · rename_i hle
        cases hr : repSeg r (o - segN s) v with
        | none => rw [hr] at h; cases h
        | some l2 =>
          rw [hr] at h; cases h
          obtain ⟨a, s2, b, rfl, rfl, hl, hat⟩ := repSeg_split wf.2 hr
          refine ⟨s :: a, s2, b, rfl, rfl, ?_, ?_⟩
          · rw [cellsL_cons, List.length_append, segC_len wf.1, hl]; omega
          · simp only [segAt, ho, if_false, hle, if_true]; exact hat
      · cases h
theorem takeSegs_split : ∀ {l : List AV} {n : Nat} {a : List AV}, SegsWf l → takeSegs l n = some a → ∃ b, l = a ++ b ∧ (cellsL a).length = n
  | l, 0, a, _, h => by
    have : a = [] := by cases l <;> simp [takeSegs] at h <;> (first | exact h | exact h.symm)
    subst this; exact ⟨l, rfl, rfl⟩
  | [], n + 1, a, _, h => by simp [takeSegs] at h
  | s :: r, n + 1, a, wf, h => by
    rw [segsWf_cons] at wf
    simp only [takeSegs] at h
    split at h
    · rename_i hle
      cases hr : takeSegs r (n + 1 - segN s) with
      | none => rw [hr] at h; cases h
      | some a2 =>
        rw [hr] at h; cases h
        obtain ⟨b, rfl, hl⟩ := takeSegs_split wf.2 hr
        exact ⟨b, rfl, by rw [cellsL_cons, List.length_append, segC_len wf.1, hl]; omega⟩
    · cases h
theorem dropSegs_split : ∀ {l : List AV} {n : Nat} {b : List AV}, SegsWf l → dropSegs l n = some b → ∃ a, l = a ++ b ∧ (cellsL a).length = n
  | l, 0, b, _, h => by
    have : b = l := by cases l <;> simp [dropSegs] at h <;> (first | exact h | exact h.symm)
    subst this; exact ⟨[], rfl, rfl⟩
  | [], n + 1, b, _, h => by simp [dropSegs] at h
  | s :: r, n + 1, b, wf, h => by
    rw [segsWf_cons] at wf
    simp only [dropSegs] at h
    split at h
    · rename_i hle
      obtain ⟨a, rfl, hl⟩ := dropSegs_split wf.2 h
      exact ⟨s :: a, rfl, by rw [cellsL_cons, List.length_append, segC_len wf.1, hl]; omega⟩
    · cases h
theorem cutSegs_cells {l s : List AV} {o n : Nat} (wf : SegsWf l) (h : cutSegs l o n = some s) :
    SegsWf s ∧ (cellsL s).length = n ∧ ∀ i, i < n → (cellsL s)[i]? = (cellsL l)[o + i]? := by
  unfold cutSegs at h
  cases hd : dropSegs l o with
  | none => rw [hd] at h; cases h
  | some b =>
    rw [hd] at h
    obtain ⟨a, rfl, hl⟩ := dropSegs_split wf hd
    rw [segsWf_append] at wf
    obtain ⟨c, rfl, hc⟩ := takeSegs_split wf.2 h
    rw [segsWf_append] at wf
    refine ⟨wf.2.1, hc, fun i hi => ?_⟩
    rw [cellsL_append, cellsL_append, List.getElem?_append_right (by omega), List.getElem?_append_left (by omega)]
    congr 1
    omega
theorem putSegs_cells {l l' v : List AV} {o n : Nat} (wf : SegsWf l) (wv : SegsWf v) (hv : (cellsL v).length = n) (h : putSegs l o n v = some l') :
    SegsWf l' ∧ (cellsL l').length = (cellsL l).length ∧ o + n ≤ (cellsL l).length ∧ (∀ i, i < n → (cellsL l')[o + i]? = (cellsL v)[i]?) ∧ ∀ i, (i < o ∨ o + n ≤ i) → (cellsL l')[i]? = (cellsL l)[i]? := by
  unfold putSegs at h
  cases ht : takeSegs l o with
  | none => rw [ht] at h; cases h
  | some a =>
    rw [ht] at h
    cases hd : dropSegs l (o + n) with
    | none => simp only [Option.bind_some, hd] at h; cases h
    | some b =>
      simp only [Option.bind_some, hd] at h
      cases h
      obtain ⟨b2, e2, ha⟩ := takeSegs_split wf ht
      obtain ⟨a2, e3, hb⟩ := dropSegs_split wf hd
      have wa : SegsWf a := (segsWf_append.1 (e2 ▸ wf)).1
      have wb : SegsWf b := (segsWf_append.1 (e3 ▸ wf)).2
      have hlen : (cellsL l).length = o + n + (cellsL b).length := by rw [e3, cellsL_append, List.length_append, hb]
      refine ⟨segsWf_append.2 ⟨segsWf_append.2 ⟨wa, wv⟩, wb⟩, ?_, by omega, fun i hi => ?_, fun i hi => ?_⟩
      · rw [cellsL_append, cellsL_append, List.length_append, List.length_append, ha, hv, hlen]
      · rw [cellsL_append, cellsL_append, List.getElem?_append_left (by rw [List.length_append]; omega), List.getElem?_append_right (by omega)]
        congr 1; omega
      · rcases hi with hi | hi
        · rw [cellsL_append, cellsL_append, List.append_assoc, List.getElem?_append_left (by omega), e2, cellsL_append, List.getElem?_append_left (by omega)]
        · have h1 : (cellsL (a2 ++ b))[i]? = (cellsL b)[i - (o + n)]? := by rw [cellsL_append, List.getElem?_append_right (by omega), hb]
          rw [e3, h1, cellsL_append, List.getElem?_append_right (by rw [cellsL_append, List.length_append]; omega), cellsL_append, List.length_append, ha, hv]
theorem set_cell {l l' : List AV} {a b : List AV} {s v : AV} {o j : Nat} {x : AV} (e : l = a ++ s :: b) (e' : l' = a ++ v :: b) (ha : (cellsL a).length = o) (hj : j < (segC s).length) (hs : segC v = (segC s).set j x) :
    cellsL l' = (cellsL l).set (o + j) x := by
  subst e e'
  rw [cellsL_append, cellsL_append, cellsL_cons, cellsL_cons, hs, List.set_append, if_neg (by omega), List.set_append, if_pos (by omega)]
  congr 3
  omega
theorem takeSegs_noIds : ∀ {l a : List AV} {n : Nat}, noIds l = true → takeSegs l n = some a → noIds a = true
  | _, a, 0, _, h => by simp only [takeSegs, Option.some.injEq] at h; subst h; rfl
  | [], _, n + 1, _, h => by cases h
  | s :: r, a, n + 1, hl, h => by
    simp only [noIds, List.all_cons, Bool.and_eq_true] at hl
    simp only [takeSegs] at h
    split at h <;> try (cases h; done)
    cases hr : takeSegs r (n + 1 - segN s) with
    | none => rw [hr] at h; cases h
    | some b =>
      rw [hr] at h
      cases h
      have := takeSegs_noIds (by exact hl.2) hr
      simp only [noIds, List.all_cons, Bool.and_eq_true]
      exact ⟨hl.1, this⟩
theorem dropSegs_noIds : ∀ {l a : List AV} {n : Nat}, noIds l = true → dropSegs l n = some a → noIds a = true
  | _, a, 0, hl, h => by simp only [dropSegs, Option.some.injEq] at h; subst h; exact hl
  | [], _, n + 1, _, h => by cases h
  | s :: r, a, n + 1, hl, h => by
    simp only [noIds, List.all_cons, Bool.and_eq_true] at hl
    simp only [dropSegs] at h
    split at h <;> try (cases h; done)
    exact dropSegs_noIds (by exact hl.2) h
theorem putSegs_noIds {l l' v : List AV} {o n : Nat} (hl : noIds l = true) (hv : noIds v = true) (h : putSegs l o n v = some l') : noIds l' = true := by
  unfold putSegs at h
  cases ha : takeSegs l o with
  | none => rw [ha] at h; cases h
  | some a =>
    rw [ha] at h
    simp only [Option.bind_some] at h
    cases hb : dropSegs l (o + n) with
    | none => rw [hb] at h; cases h
    | some b =>
      rw [hb] at h
      cases h
      have h1 := takeSegs_noIds hl ha
      have h2 := dropSegs_noIds hl hb
      simp only [noIds, List.all_append, Bool.and_eq_true] at h1 h2 hv ⊢
      exact ⟨⟨h1, hv⟩, h2⟩
theorem repSeg_noIds {v : AV} (hv : noId v = true) : ∀ {l l' : List AV} {o : Nat}, noIds l = true → repSeg l o v = some l' → noIds l' = true
  | [], _, _, _, h => by cases h
  | s :: r, l', o, hl, h => by
    simp only [noIds, List.all_cons, Bool.and_eq_true] at hl
    simp only [repSeg] at h
    split at h
    · cases h
      simp only [noIds, List.all_cons, Bool.and_eq_true]
      exact ⟨hv, hl.2⟩
    · split at h <;> try (cases h; done)
      cases hr : repSeg r (o - segN s) v with
      | none => rw [hr] at h; cases h
      | some b =>
        rw [hr] at h
        cases h
        simp only [noIds, List.all_cons, Bool.and_eq_true]
        exact ⟨hl.1, repSeg_noIds hv (by exact hl.2) hr⟩
theorem putCell_noIds {v : AV} (hv : noId v = true) : ∀ {l l' : List AV} {o : Nat}, noIds l = true → putCell l o v = some l' → noIds l' = true
  | [], _, _, _, h => by cases h
  | s :: r, l', o, hl, h => by
    simp only [noIds, List.all_cons, Bool.and_eq_true] at hl
    have rest : ∀ {m : Nat}, (putCell r m v).map (s :: ·) = some l' → noIds l' = true := by
      intro m h
      cases hr : putCell r m v with
      | none => rw [hr] at h; cases h
      | some b =>
        rw [hr] at h
        cases h
        simp only [noIds, List.all_cons, Bool.and_eq_true]
        exact ⟨hl.1, putCell_noIds hv (by exact hl.2) hr⟩
    have here : ∀ {u : AV}, noId u = true → some (u :: r) = some l' → noIds l' = true := by
      intro u hu h
      cases h
      simp only [noIds, List.all_cons, Bool.and_eq_true]
      exact ⟨hu, hl.2⟩
    cases s <;> simp only [putCell] at h <;> first
      | (split at h
         · split at h <;> first
             | exact here hv h
             | cases h
         · exact rest h)
      | (split at h
         · split at h <;> try (cases h; done)
           split at h <;> try (cases h; done)
           exact here rfl h
         · exact rest h)
theorem wrSegs_noIds {β : Type} {l : List AV} {o j : Nat} {v : AV} {κ : List AV → Option β} (hl : noIds l = true) (hv : noId v = true) : wrSegs l o j v κ = wrSegs l o j v (fun l' => if noIds l' = true then κ l' else none) := by
  unfold wrSegs
  split
  · split <;> try rfl
    split <;> try rfl
    split <;> try rfl
    cases hr : repSeg l o _ with
    | none => rfl
    | some b => simp only [Option.bind_some, repSeg_noIds rfl hl hr, if_true]
  · cases hr : putCell l (o + j) v with
    | none => rfl
    | some b => simp only [Option.bind_some, putCell_noIds hv hl hr, if_true]
  · rfl
theorem oneCell_wf {v : AV} (h : oneCell v = true) : SegWf v := by cases v <;> simp_all [oneCell, SegWf]
theorem oneCell_C {v : AV} (h : oneCell v = true) : segC v = [v] := by cases v <;> simp_all [oneCell, segC]
theorem putCell_cells : ∀ {l l' : List AV} {o : Nat} {v : AV}, SegsWf l → putCell l o v = some l' → SegsWf l' ∧ o < (cellsL l).length ∧ cellsL l' = (cellsL l).set o v ∧ oneCell v = true
  | [], _, _, _, _, h => by simp [putCell] at h
  | s :: r, l', o, v, wf, h => by
    rw [segsWf_cons] at wf
    have other : (∀ k n xs, s ≠ .ints k n xs) → (if o = 0 then (if oneCell v then some (v :: r) else none) else (putCell r (o - 1) v).map (s :: ·)) = some l' →
        SegsWf l' ∧ o < (cellsL (s :: r)).length ∧ cellsL l' = (cellsL (s :: r)).set o v ∧ oneCell v = true := by
      intro hn q
      have h1 : segC s = [s] := by cases s <;> first | rfl | exact absurd rfl (hn _ _ _)
      split at q
      · rename_i e
        subst e
        split at q
        · rename_i hv
          cases q
          refine ⟨segsWf_cons.2 ⟨oneCell_wf hv, wf.2⟩, by simp [cellsL_cons, h1], by simp [cellsL_cons, h1, oneCell_C hv], hv⟩
        · cases q
      · rename_i ho
        cases hr : putCell r (o - 1) v with
        | none => rw [hr] at q; cases q
        | some r' =>
          rw [hr] at q; cases q
          obtain ⟨w1, w2, w3, w4⟩ := putCell_cells wf.2 hr
          refine ⟨segsWf_cons.2 ⟨wf.1, w1⟩, by simp [cellsL_cons, h1]; omega, ?_, w4⟩
          rw [cellsL_cons, cellsL_cons, w3, h1]
          obtain ⟨m, rfl⟩ : ∃ m, o = m + 1 := ⟨o - 1, by omega⟩
          simp
    cases s with
    | ints k n xs =>
      simp only [putCell] at h
      have hl : xs.length = n := wf.1
      split at h
      · rename_i hlt
        cases v with
        | int k' x =>
          simp only at h
          split at h
          · rename_i hk
            cases h
            subst hk
            refine ⟨segsWf_cons.2 ⟨by simp [SegWf, hl], wf.2⟩, by simp [cellsL_cons, segC]; omega, ?_, rfl⟩
            rw [cellsL_cons, cellsL_cons, List.set_append, if_pos (by simp [segC]; omega)]
            simp [segC, List.map_set]
          · cases h
        | _ => cases h
      · rename_i hge
        cases hr : putCell r (o - n) v with
        | none => rw [hr] at h; cases h
        | some r' =>
          rw [hr] at h; cases h
          obtain ⟨w1, w2, w3, w4⟩ := putCell_cells wf.2 hr
          refine ⟨segsWf_cons.2 ⟨wf.1, w1⟩, by simp [cellsL_cons, segC]; omega, ?_, w4⟩
          rw [cellsL_cons, cellsL_cons, w3, List.set_append, if_neg (by simp [segC]; omega)]
          simp [segC, hl]
    | _ => exact other (by intros; simp) (by simpa only [putCell] using h)
theorem rdSegs_cells {β : Type} {l : List AV} {o j : Nat} {κ : AV → Option β} {r : β} (wf : SegsWf l) (h : rdSegs l o j κ = some r) : ∃ v, κ v = some r ∧ (cellsL l)[o + j]? = some v := by
  unfold rdSegs at h
  cases hs : segAt l o with
  | none => rw [hs] at h; cases h
  | some s =>
    rw [hs] at h
    obtain ⟨a, b, e, hl⟩ := segAt_split wf hs
    have ws : SegWf s := by rw [e] at wf; exact (segsWf_cons.1 (segsWf_append.1 wf).2).1
    have one : ∀ {l : List AV} {o : Nat} {s : AV}, SegsWf l → segAt l o = some s → (∀ k n xs, s ≠ .ints k n xs) → (cellsL l)[o]? = some s := by
      intro l o s wf hs hn
      obtain ⟨a, b, e, hl⟩ := segAt_split wf hs
      have h1 : segC s = [s] := by cases s <;> first | rfl | exact absurd rfl (hn _ _ _)
      rw [e, cellsL_append, cellsL_cons, h1, List.getElem?_append_right (by omega), hl]
      simp
    have other : (∀ k n xs, s ≠ .ints k n xs) → (if j = 0 then κ s else (match segAt l (o + j) with | some (.ints ..) => none | some u => κ u | none => none)) = some r → ∃ v, κ v = some r ∧ (cellsL l)[o + j]? = some v := by
      intro hn q
      split at q
      · rename_i e0; subst e0; exact ⟨s, q, one wf hs hn⟩
      · cases hu : segAt l (o + j) with
        | none => rw [hu] at q; cases q
        | some u =>
          rw [hu] at q
          cases u with
          | ints => cases q
          | _ => exact ⟨_, q, one wf hu (by intros; simp)⟩
    cases s with
    | ints k n xs =>
      simp only at h
      cases hx : xs[j]? with
      | none => rw [hx] at h; cases h
      | some x =>
        rw [hx] at h
        refine ⟨_, h, ?_⟩
        have hjl : j < xs.length := (List.getElem?_eq_some_iff.1 hx).1
        rw [e, cellsL_append, cellsL_cons, List.getElem?_append_right (by omega), hl, Nat.add_sub_cancel_left, List.getElem?_append_left (by simp [segC]; omega)]
        simp [segC, hx]
    | _ => exact other (by intros; simp) h
theorem wrSegs_cells {β : Type} {l : List AV} {o j : Nat} {v : AV} {κ : List AV → Option β} {r : β} (wf : SegsWf l) (h : wrSegs l o j v κ = some r) :
    ∃ l', κ l' = some r ∧ SegsWf l' ∧ o + j < (cellsL l).length ∧ cellsL l' = (cellsL l).set (o + j) v ∧ oneCell v = true := by
  unfold wrSegs at h
  cases hs : segAt l o with
  | none => rw [hs] at h; cases h
  | some s =>
    rw [hs] at h
    have other : ((putCell l (o + j) v).bind κ) = some r → ∃ l', κ l' = some r ∧ SegsWf l' ∧ o + j < (cellsL l).length ∧ cellsL l' = (cellsL l).set (o + j) v ∧ oneCell v = true := by
      intro q
      cases hp : putCell l (o + j) v with
      | none => rw [hp] at q; cases q
      | some l' =>
        rw [hp] at q
        exact ⟨l', q, putCell_cells wf hp⟩
    cases s with
    | ints k n xs =>
      cases v with
      | int k' x =>
        simp only at h
        split at h
        · rename_i hk
          subst hk
          split at h
          · rename_i hj
            cases hr : repSeg l o (.ints k' n (xs.set j x)) with
            | none => rw [hr] at h; cases h
            | some l' =>
              rw [hr] at h
              obtain ⟨a, s2, b, e1, e2, hl, hat⟩ := repSeg_split wf hr
              rw [hs] at hat
              cases hat
              have w0 := wf
              rw [e1] at w0
              rw [segsWf_append, segsWf_cons] at w0
              have hx : xs.length = n := w0.2.1
              refine ⟨l', h, ?_, ?_, set_cell e1 e2 hl (by simp [segC]; omega) (by simp [segC, List.map_set]), rfl⟩
              · rw [e2]; exact segsWf_append.2 ⟨w0.1, segsWf_cons.2 ⟨by simp [SegWf, hx], w0.2.2⟩⟩
              · rw [e1, cellsL_append, cellsL_cons]; simp [segC]; omega
          · cases h
        · cases h
      | _ => cases h
    | _ => exact other h
def sameSc : AV → Value → Bool
  | .bool b, .bool b' => b == b'
  | .int k n, .int k' n' => decide (k = k') && decide (n = n') && (k.signed || (decide (0 ≤ n) && decide (n < (2 : Int) ^ k.bits)))
  | .str s, .string s' => s.data.toList == s'.data.toList
  | .nilp, .pointer none => true
  | .nils, .slice none 0 0 => true
  | .nilf, .nilFunc => true
  | _, _ => false
def sameCells : List AV → List Value → Bool
  | [], [] => true
  | a :: r, v :: s => sameSc a v && sameCells r s
  | _, _ => false
def segWfB : AV → Bool
  | .ints _ n xs => xs.length == n
  | v => segOk v
def sameAV : AV → Value → Bool
  | .agg l, .agg cs => l.all segWfB && sameCells (cellsL l) cs.toList
  | a, v => sameSc a v
def lowOpd : Operand → Opd → Bool
  | .tmp t, .t i => t == i
  | .const v, .c a => sameAV a v
  | .func f, .c (.func g [] []) => f == g
  | _, _ => false
def lowOpds : List Operand → List Opd → Bool
  | [], [] => true
  | x :: r, y :: s => lowOpd x y && lowOpds r s
  | _, _ => false
def lowOpt : Option Operand → Option Opd → Bool
  | none, none => true
  | some x, some y => lowOpd x y
  | _, _ => false
theorem sameSc_sound {a : AV} {v : Value} (h : sameSc a v = true) (ι : Inj) : SR ι a v := by
  unfold sameSc at h
  split at h
  · simp only [beq_iff_eq] at h; subst h; rfl
  · simp only [Bool.and_eq_true, decide_eq_true_eq, Bool.or_eq_true] at h
    obtain ⟨⟨rfl, rfl⟩, h⟩ := h
    exact ⟨rfl, fun hs => h.resolve_left (by rw [hs]; simp)⟩
  · rename_i s s'
    have e : s.data.toList = s'.data.toList := by simpa using h
    have e2 : s = s' := by
      cases s with | mk d => cases s' with | mk d' => exact congrArg ByteArray.mk (Array.toList_inj.1 e)
    subst e2; rfl
  · rfl
  · rfl
  · rfl
  · cases h
theorem sameCells_sound : ∀ {l : List AV} {vs : List Value}, sameCells l vs = true → ∀ ι, CR ι l vs
  | [], [], _, ι => ⟨rfl, fun i v h => by simp at h⟩
  | a :: r, v :: s, h, ι => by
    simp only [sameCells, Bool.and_eq_true] at h
    obtain ⟨h1, h2⟩ := sameCells_sound h.2 ι
    refine ⟨by simp [h1], fun i x hi => ?_⟩
    cases i with
    | zero => simp only [List.getElem?_cons_zero, Option.some.injEq] at hi; subst hi; exact ⟨v, rfl, sameSc_sound h.1 ι⟩
    | succ i => exact h2 i x (by simpa using hi)
  | [], _ :: _, h, _ => by simp [sameCells] at h
  | _ :: _, [], h, _ => by simp [sameCells] at h
theorem segWfB_sound {s : AV} (h : segWfB s = true) : SegWf s := by cases s <;> simp_all [segWfB, SegWf, segOk]
theorem sameAV_sound {a : AV} {v : Value} (h : sameAV a v = true) (ι : Inj) : VA ι a v := by
  unfold sameAV at h
  split at h
  · simp only [Bool.and_eq_true, List.all_eq_true] at h
    exact ⟨_, rfl, fun s hs => segWfB_sound (h.1 s hs), sameCells_sound h.2 ι⟩
  · exact .of_SR (sameSc_sound h ι)
def TR (ι : Inj) (t : List AV) (ρ : Operand → Value) : Prop := ∀ x y, lowOpd x y = true → VR ι (y.ev t) (ρ x)
theorem TR.of {ι : Inj} {t : List AV} {a : Act} (h : ∀ i, VR ι (t.getD i .undef) (a.tmps.getD i undef)) : TR ι t a.eval := by
  intro x y hl
  unfold lowOpd at hl
  split at hl
  · simp only [beq_iff_eq] at hl; subst hl; exact h _
  · exact .of_VA (sameAV_sound hl ι)
  · simp only [beq_iff_eq] at hl; subst hl
    exact ⟨#[], #[], rfl, ⟨rfl, fun i v hi => by simp at hi⟩, ⟨rfl, fun i v hi => by simp at hi⟩⟩
  · cases hl
section
variable {ι : Inj} {x : Value}
theorem VR.int {k : IntKind} {n : Int} (h : VR ι (.int k n) x) : x = .int k n := h.1
theorem VR.rng {k : IntKind} {n : Int} (h : VR ι (.int k n) x) : rng k n := h.2
theorem VR.bool {b : Bool} (h : VR ι (.bool b) x) : x = .bool b := h
theorem VR.str {s : ByteArray} (h : VR ι (.str s) x) : x = .string s := h
theorem VR.agg {l : List AV} (h : VR ι (.agg l) x) : ∃ cs : Array Value, x = .agg cs ∧ SegsWf l ∧ CR ι (cellsL l) cs.toList := h
theorem VR.ptr {id r e o j : Nat} (h : VR ι (.ptr id r e o j) x) : ∃ p, ι id = some p ∧ x = .pointer (some ⟨p.blk, p.base + (r * e + o + j), none⟩) := h
theorem VR.win {id o j : Nat} (h : VR ι (.win id o j) x) : ∃ p, ι id = some p ∧ x = .pointer (some ⟨p.blk, p.base + (o + j), none⟩) := h
theorem VR.slice {id o j len e : Nat} {cap : Option Nat} (h : VR ι (.slice id o j len e cap) x) : ∃ p a c, ι id = some p ∧ x = .slice a len c ∧ SlR p o j len e cap a c := h
theorem VR.isl {k : IntKind} {xs : List Int} (h : VR ι (.isl k xs) x) : ∃ a c, x = .slice a xs.length c ∧ (∀ y ∈ xs, Go.Am.rng k y) ∧ FrzS ι a c xs.length 1 (xs.map (.int k)) := h
theorem VR.islR {e : Nat} {xs : List (List AV)} (h : VR ι (.islR e xs) x) : ∃ a c, x = .slice a xs.length c ∧ e ≠ 0 ∧ (∀ r ∈ xs, RowWf e r) ∧ FrzS ι a c xs.length e (xs.flatMap cellsL) := h
theorem VR.emp (h : VR ι .emp x) : ∃ a, x = .slice a 0 0 := h
theorem VR.nne (h : VR ι .nne x) : ∃ b c, x = .slice (some b) 0 c := h
theorem VR.fptr {l : List AV} {o j : Nat} (h : VR ι (.fptr l o j) x) : ∃ b off f, x = .pointer (some ⟨b, off + (o + j), none⟩) ∧ ι.fz b = some f ∧ SegsWf l ∧ noIds l = true ∧ ∀ i y, (cellsL l)[i]? = some y → f.cell (off + i) = some y := h
theorem VR.nils (h : VR ι .nils x) : x = .slice none 0 0 := h
theorem VR.nilp (h : VR ι .nilp x) : x = .pointer none := h
theorem VR.nilf (h : VR ι .nilf x) : x = .nilFunc := h
theorem VR.func {f : FuncId} {a b : List AV} (h : VR ι (.func f a b) x) : ∃ xs ys : Array Value, x = .func (.func f) xs ys ∧ VAL ι a xs.toList ∧ VAL ι b ys.toList := h
theorem VR.tuple {l : List AV} (h : VR ι (.tuple l) x) : ∃ xs : Array Value, x = .tuple xs ∧ VAL ι l xs.toList := h
end
def szOf (P : Program) (t : TypeId) : Option Nat := (P.info? t).map (·.size)
def uInt (P : Program) (t : TypeId) (k : IntKind) : Bool := match P.underlying t with | some (.int k') => decide (k' = k) | _ => false
def uSlice (P : Program) (t : TypeId) (z : Nat) : Bool := match P.underlying t with | some (.slice e) => szOf P e == some z | _ => false
def isAggB (P : Program) (t : TypeId) : Option Bool := match P.underlying t with | some (.struct _) | some (.array _ _) => some true | some _ => some false | none => none
def tyKsF (P : Program) (f : TypeId → Option (List Bool)) : List Field → Nat → Option (List Bool)
  | [], _ => some []
  | x :: r, off => if x.name == "_" || x.offset != off then none else (f x.type).bind fun ks => if szOf P x.type == some ks.length then (tyKsF P f r (off + ks.length)).map (ks ++ ·) else none
def tyKs (P : Program) : Nat → TypeId → Option (List Bool)
  | 0, _ => none
  | d + 1, t =>
    match P.underlying t with
    | some .bool => some [false]
    | some (.int _) => some [true]
    | some (.struct fs) => if P.stoodInHeld t then none else tyKsF P (tyKs P d) fs.toList 0
    | some (.array n e) => (tyKs P d e).bind fun ks => if szOf P e == some ks.length then some ((List.replicate n ks).flatten) else none
    | _ => none
def eqTyOk (P : Program) (t : TypeId) (ek : EqK) : Bool :=
  match ek, P.underlying t with
  | .bool, some .bool => true
  | .ptr, some (.pointer _) => true
  | .slice, some (.slice _) => true
  | .func, some (.func ..) => true
  | .agg ks, some (.struct _) => tyKs P 50 t == some ks && szOf P t == some ks.length && !P.eqGuardType P.depth t
  | .agg ks, some (.array _ _) => tyKs P 50 t == some ks && szOf P t == some ks.length && !P.eqGuardType P.depth t
  | _, _ => false
def lowParts (P : Program) (place : Nat → Option (Nat × Nat)) : List (Nat × Operand) → List (Nat × Nat × Opd) → Bool
  | [], [] => true
  | (i, x) :: r, (o, n, y) :: s => place i == some (o, n) && lowOpd x y && lowParts P place r s
  | _, _ => false
def lowP (P : Program) (o : Oper) (ao : AOp) : Bool :=
  match o.op, ao with
  | .move x, .mov y | .assign x, .mov y => lowOpd x y
  | .pick c a b, .pick c' a' b' => lowOpd c c' && lowOpd a a' && lowOpd b b'
  | .build t parts, .build z parts' =>
    (match (P.info? t).bind (·.zero) with | some v => sameAV (.agg z) v | none => false) &&
    (match P.underlying t with
      | some (.struct fs) => (fs.all fun f => (szOf P f.type).isSome) && lowParts P (fun i => (fs[i]?).bind fun f => (szOf P f.type).map fun n => (f.offset, n)) parts.toList parts'
      | some (.array _ e) => (match szOf P e with | some n => lowParts P (fun i => some (i * n, n)) parts.toList parts' | none => false)
      | _ => false)
  | .nilCheck x, .nilChk y => lowOpd x y
  | .binOp op _ x y _, .bin op' x' y' => decide (op = op') && lowOpd x x' && lowOpd y y'
  | .binOp .eql t x y _, .eqv false ek x' y' => lowOpd x x' && lowOpd y y' && eqTyOk P t ek
  | .binOp .neq t x y _, .eqv true ek x' y' => lowOpd x x' && lowOpd y y' && eqTyOk P t ek
  | .unOp op _ x, .un op' x' => decide (op = op') && lowOpd x x'
  | .convert s d x, .toInt k x' => (P.underlying s).isSome && uInt P d k && lowOpd x x'
  | .convert s d x, .same x' => (P.underlying s matches some .string) && (P.underlying d matches some .string) && lowOpd x x'
  | .slice t x lo hi mx, .slSlice z x' lo' hi' mx' => uSlice P t z && lowOpd x x' && lowOpt lo lo' && lowOpt hi hi' && lowOpt mx mx'
  | .slice t x lo hi mx, .slArr n e x' lo' hi' mx' => (match P.underlying t with | some (.array m el) => m == n && szOf P el == some (esz e) | _ => false) && lowOpd x x' && lowOpt lo lo' && lowOpt hi hi' && lowOpt mx mx'
  | .slice t x lo hi none, .slStr x' lo' hi' => (P.underlying t matches some .string) && lowOpd x x' && lowOpt lo lo' && lowOpt hi hi'
  | .fieldAddr s x f, .faddr off x' => (match P.underlying s with | some (.struct fs) => (match fs[f]? with | some fl => fl.offset == off && (match szOf P fl.type with | some n => n != 0 | none => false) | none => false) | _ => false) && lowOpd x x'
  | .field t x f, .fld agg off n x' => (match P.underlying t with | some (.struct fs) => (match fs[f]? with | some fl => fl.offset == off && szOf P fl.type == some n && isAggB P fl.type == some agg | none => false) | _ => false) && lowOpd x x'
  | .indexAddr t x i, .iaddrA n e x' i' => (match P.underlying t with | some (.array m el) => m == n && szOf P el == some (esz e) | _ => false) && lowOpd x x' && lowOpd i i'
  | .indexAddr t x i, .iaddrS z x' i' => uSlice P t z && lowOpd x x' && lowOpd i i'
  | .index t x i, .idxA agg n e x' i' => (match P.underlying t with | some (.array m el) => m == n && szOf P el == some (if agg then e else 1) && isAggB P el == some agg | _ => false) && lowOpd x x' && lowOpd i i'
  | .index t x i, .idxS x' i' => (P.underlying t matches some .string) && lowOpd x x' && lowOpd i i'
  | .extract x i, .ext x' i' => i == i' && lowOpd x x'
  | .makeFunc (.func f) a b, .mkf f' a' b' => f == f' && lowOpds a.toList a' && lowOpds b.toList b'
  | .sliceToArrayPointer t x, .arrPtr n x' => (match P.underlying t with | some (.array m _) => m == n | _ => false) && lowOpd x x'
  | .call { callee := .builtin .len, args, argTypes }, .len s x' =>
    (match args.toList, argTypes.toList with | [x], [t] => lowOpd x x' && (match P.underlying t with | some .string => s | some (.slice _) => !s | _ => false) | _, _ => false)
  | .call { callee := .builtin .min, args, argTypes }, .minI x' y' => (match args.toList with | [x, y] => lowOpd x x' && lowOpd y y' | _ => false)
  | _, _ => false
section
variable {β : Type} {P : Program} {ι : Inj} {t : List AV} {ρ : Operand → Value}
theorem rng_bw (op : BinOp) (k : IntKind) (a b : Int) : rng k (bw op k a b) := by cases op <;> exact rng_wrap _ _
theorem rng_tmod {k : IntKind} {a b : Int} (ha : rng k a) (hb : rng k b) (h0 : ¬ b = 0) : rng k (a.tmod b) := by
  intro h
  obtain ⟨a1, a2⟩ := ha h
  obtain ⟨b1, b2⟩ := hb h
  rw [Int.tmod_eq_emod_of_nonneg a1]
  exact ⟨Int.emod_nonneg _ h0, Int.lt_trans (Int.emod_lt_of_pos _ (by omega)) b2⟩
theorem rng_shr {k : IntKind} {a : Int} (ha : rng k a) (n : Nat) : rng k (a.fdiv (2 ^ n)) := by
  intro h
  obtain ⟨a1, a2⟩ := ha h
  have hp : (0 : Int) < 2 ^ n := Int.pow_pos (by decide)
  rw [Int.fdiv_eq_ediv_of_nonneg _ (by omega)]
  exact ⟨Int.ediv_nonneg a1 (by omega), Int.lt_of_le_of_lt (Int.ediv_le_self _ a1) a2⟩
theorem intBin_sound {op : BinOp} {k : IntKind} {a b : Int} {κ : AV → Option β} {r : β} (ha : rng k a) (hb' : rng k b) (h : intBin op k a b κ = some r) (hs : op ≠ .shl) (hs' : op ≠ .shr) (ty : TypeId) :
    ∃ v x, κ v = some r ∧ VR ι v x ∧ ∀ w, (binOp op ty (.int k a) (.int k b)).run P w = .ok x w := by
  unfold intBin at h
  cases op <;> simp only at h hs hs' <;> first
    | contradiction
    | exact ⟨_, _, h, ⟨rfl, rng_wrap _ _⟩, fun w => by simp only [binOp, ne_eq, not_true_eq_false, if_false]; rfl⟩
    | exact ⟨_, _, h, ⟨rfl, rng_bw _ _ _ _⟩, fun w => by simp only [binOp, ne_eq, not_true_eq_false, if_false]; rfl⟩
    | exact ⟨_, _, h, rfl, fun w => by simp only [binOp, ne_eq, not_true_eq_false, if_false]; rfl⟩
    | (split at h
       · cases h
       · rename_i hb; exact ⟨_, _, h, ⟨rfl, rng_wrap _ _⟩, fun w => by simp [binOp, Op.intDiv, hb]⟩)
    | (split at h
       · cases h
       · rename_i hb; exact ⟨_, _, h, ⟨rfl, rng_tmod ha hb' hb⟩, fun w => by simp [binOp, Op.intDiv, hb]⟩)
    | cases h
theorem strBin_sound {op : BinOp} {a b : ByteArray} {κ : AV → Option β} {r : β} (h : strBin op a b κ = some r) (ty : TypeId) :
    ∃ v x, κ v = some r ∧ VR ι v x ∧ ∀ w, (binOp op ty (.string a) (.string b)).run P w = .ok x w := by
  unfold strBin at h
  cases op <;> simp only at h <;> first
    | (split at h
       · cases h
       · rename_i hb; exact ⟨_, _, h, rfl, fun w => by simp only [binOp, Op.stringOp, if_neg hb]; rfl⟩)
    | exact ⟨_, _, h, rfl, fun w => by simp only [binOp, Op.stringOp]; rfl⟩
    | cases h
theorem binK_sound {op : BinOp} {x y : AV} {vx vy : Value} {κ : AV → Option β} {r : β} (hx : VR ι x vx) (hy : VR ι y vy) (h : binK op x y κ = some r) (ty : TypeId) (X Y : Operand) :
    ∃ v z, κ v = some r ∧ VR ι v z ∧ ∀ w, (do eqGuard op ty X Y vx vy; binOp op ty vx vy : Sem Value).run P w = .ok z w := by
  unfold binK at h
  cases x <;> cases y <;> simp only at h <;> try (cases h; done)
  · rename_i k a k' b
    obtain rfl := hx.int
    obtain rfl := hy.int
    have hg : ∀ w, (eqGuard op ty X Y (.int k a) (.int k' b)).run P w = .ok () w := fun w => by unfold eqGuard; cases op <;> simp
    by_cases h1 : op = .shl
    · subst h1
      simp only at h
      split at h
      · cases h
      · rename_i hb; exact ⟨_, _, h, ⟨rfl, rng_wrap _ _⟩, fun w => by simp [hg, binOp, Op.shift, hb]⟩
    · by_cases h2 : op = .shr
      · subst h2
        simp only at h
        split at h
        · cases h
        · rename_i hb; exact ⟨_, _, h, ⟨rfl, rng_shr hx.rng _⟩, fun w => by simp [hg, binOp, Op.shift, hb]⟩
      · have h3 : (if k = k' then intBin op k a b κ else none) = some r := by cases op <;> first | exact h | contradiction
        split at h3
        · rename_i hk
          subst hk
          obtain ⟨v, z, q1, q2, q3⟩ := intBin_sound (ι := ι) (P := P) hx.rng hy.rng h3 h1 h2 ty
          exact ⟨v, z, q1, q2, fun w => by simp [hg, q3]⟩
        · cases h3
  · rename_i a b
    obtain rfl := hx.str
    obtain rfl := hy.str
    obtain ⟨v, z, q1, q2, q3⟩ := strBin_sound (ι := ι) (P := P) h ty
    have hg : ∀ w, (eqGuard op ty X Y (.string a) (.string b)).run P w = .ok () w := fun w => by unfold eqGuard; cases op <;> simp
    exact ⟨v, z, q1, q2, fun w => by simp [hg, q3]⟩
theorem unK_sound {op : UnOp} {x : AV} {vx : Value} {κ : AV → Option β} {r : β} (hx : VR ι x vx) (h : unK op x κ = some r) :
    ∃ v z, κ v = some r ∧ VR ι v z ∧ ∀ w, (Op.unary op vx).run P w = .ok z w := by
  unfold unK at h
  split at h
  · obtain rfl := hx.int; exact ⟨_, _, h, ⟨rfl, rng_wrap _ _⟩, fun w => by simp [Op.unary, Op.intArith]⟩
  · obtain rfl := hx.int; exact ⟨_, _, h, ⟨rfl, rng_bw _ _ _ _⟩, fun w => rfl⟩
  · obtain rfl := hx.bool; exact ⟨_, _, h, rfl, fun w => by simp [Op.unary]⟩
  · cases h
theorem bndK_some {x : AV} {vx : Value} {d m : Nat} {κ : Nat → Option β} {r : β} (hx : VR ι x vx) (h : bndK (some x) d m κ = some r) (code : BoundsCode) :
    ∃ n, κ n = some r ∧ n ≤ m ∧ ∀ w, (Instr.sliceBound vx m code).run P w = .ok n w := by
  unfold bndK at h
  cases x <;> simp only at h <;> try (cases h; done)
  rename_i k i
  obtain rfl := hx.int
  split at h
  · rename_i hb; exact ⟨_, h, by omega, fun w => by simp [Instr.sliceBound, asIntOf, hb]⟩
  · cases h
def OptR (ι : Inj) : Option AV → Option Value → Prop
  | none, none => True
  | some x, some v => VR ι x v
  | _, _ => False
theorem optR_of {x : Option Operand} {y : Option Opd} (ht : TR ι t ρ) (h : lowOpt x y = true) : OptR ι (y.map (·.ev t)) (x.map ρ) := by
  cases x <;> cases y <;> simp_all [lowOpt, OptR]
  exact ht _ _ h
theorem hiK_sound {x : Option AV} {vx : Option Value} {d m : Nat} {κ : Nat → Option β} {r : β} (hx : OptR ι x vx) (hd : d ≤ m) (h : bndK x d m κ = some r) (code : BoundsCode) :
    ∃ n, κ n = some r ∧ n ≤ m ∧ ∀ w, (match vx with | some v => Instr.sliceBound v m code | none => pure d : Sem Nat).run P w = .ok n w := by
  cases x with
  | none => cases vx with
    | none => exact ⟨d, h, hd, fun w => rfl⟩
    | some v => exact hx.elim
  | some x => cases vx with
    | none => exact hx.elim
    | some v => exact bndK_some hx h code
theorem bounds2 {lo hi : Option AV} {vlo vhi : Option Value} {len cap most : Nat} {κ : Nat → Nat → Option β} {r : β} (hlo : OptR ι lo vlo) (hhi : OptR ι hi vhi) (hl : len ≤ most) (hm : most ≤ cap) (isS : Bool)
    (h : (bndK hi len most fun h => bndK lo 0 h fun l => κ h l) = some r) :
    ∃ hh l, κ hh l = some r ∧ l ≤ hh ∧ hh ≤ most ∧ ∀ w, (Instr.sliceBounds isS len cap vlo vhi none).run P w = .ok (l, hh, cap) w := by
  obtain ⟨hh, h2, hle, hr⟩ : ∃ n, (bndK lo 0 n fun l => κ n l) = some r ∧ n ≤ most ∧ ∀ w, (match vhi with | some v => Instr.sliceBound v cap (if isS then .sliceAcap else .sliceAlen) | none => pure len : Sem Nat).run P w = .ok n w := by
    cases hi with
    | none => cases vhi with
      | none => exact ⟨len, h, hl, fun w => rfl⟩
      | some v => exact hhi.elim
    | some x => cases vhi with
      | none => exact hhi.elim
      | some v =>
        generalize hK : (fun h => bndK lo 0 h fun l => κ h l) = K at h
        unfold bndK at h
        cases x <;> simp only at h <;> try (cases h; done)
        rename_i k i
        obtain rfl := VR.int (ι := ι) hhi
        split at h
        · rename_i hb
          subst hK
          refine ⟨_, h, by omega, fun w => ?_⟩
          have : 0 ≤ i ∧ i ≤ (cap : Int) := by omega
          simp [Instr.sliceBound, asIntOf, this]
        · cases h
  obtain ⟨l, h3, hle2, hr2⟩ := hiK_sound (P := P) hlo (Nat.zero_le _) h2 .sliceB
  refine ⟨hh, l, h3, hle2, hle, fun w => ?_⟩
  have e1 := hr w
  have e2 := hr2 w
  cases vlo <;> cases vhi <;> simp [Instr.sliceBounds] at e1 e2 ⊢ <;> simp_all
theorem bounds3 {m : AV} {lo hi : Option AV} {vm : Value} {vlo vhi : Option Value} {len cap most : Nat} {κ : Nat → Nat → Nat → Option β} {r : β} (hm : VR ι m vm) (hlo : OptR ι lo vlo) (hhi : OptR ι hi vhi) (hmost : most ≤ cap) (isS : Bool) (hsome : hi.isSome = true)
    (h : (bndK (some m) 0 most fun m => bndK hi len m fun h => bndK lo 0 h fun l => κ m h l) = some r) :
    ∃ mm hh l, κ mm hh l = some r ∧ l ≤ hh ∧ hh ≤ mm ∧ mm ≤ most ∧ ∀ w, (Instr.sliceBounds isS len cap vlo vhi (some vm)).run P w = .ok (l, hh, mm) w := by
  obtain ⟨mm, h1, hle1, hr1⟩ : ∃ n, (bndK hi len n fun h => bndK lo 0 h fun l => κ n h l) = some r ∧ n ≤ most ∧ ∀ w, (Instr.sliceBound vm cap (if isS then .slice3Acap else .slice3Alen)).run P w = .ok n w := by
    generalize hK : (fun m => bndK hi len m fun h => bndK lo 0 h fun l => κ m h l) = K at h
    unfold bndK at h
    cases m <;> simp only at h <;> try (cases h; done)
    rename_i k i
    obtain rfl := VR.int (ι := ι) hm
    split at h
    · rename_i hb
      subst hK
      refine ⟨_, h, by omega, fun w => ?_⟩
      have : 0 ≤ i ∧ i ≤ (cap : Int) := by omega
      simp [Instr.sliceBound, asIntOf, this]
    · cases h
  cases hi with
  | none => cases hsome
  | some x => cases vhi with
    | none => exact hhi.elim
    | some v =>
      obtain ⟨hh, h2, hle2, hr2⟩ := bndK_some (P := P) hhi h1 .slice3B
      obtain ⟨l, h3, hle3, hr3⟩ := hiK_sound (P := P) hlo (Nat.zero_le _) h2 .slice3C
      refine ⟨mm, hh, l, h3, hle3, hle2, hle1, fun w => ?_⟩
      have e1 := hr1 w
      have e2 := hr2 w
      have e3 := hr3 w
      cases vlo <;> simp [Instr.sliceBounds] at e1 e2 e3 ⊢ <;> simp_all
end
end Go.Am
