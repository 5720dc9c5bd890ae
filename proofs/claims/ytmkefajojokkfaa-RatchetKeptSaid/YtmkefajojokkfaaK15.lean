/- RatchetKept: part 16 of 39 of its proof. -/
import Derived.Test.YtmkefajojokkfaaK14
set_option linter.unusedVariables false
set_option linter.unusedSimpArgs false
/- A function asked with views of its arguments; what comes of it is written no more, or is one new block. -/
namespace Go.Am
set_option linter.unusedSimpArgs false
def frz1 (h : Heap) (s : AV) : Option (AV × Heap) :=
  match s with
  | .slice id o j len e cap => if cap = some 0 ∧ len = 0 then some (.emp, h) else (frzV h (.slice id o j len e cap) .some).map fun p => (p.1, delO h p.2)
  | s => if noId s then some (s, h) else none
def frzSegs : Heap → List AV → Option (List AV × Heap)
  | h, [] => some ([], h)
  | h, s :: r => (frz1 h s).bind fun p => (frzSegs p.2 r).map fun q => (p.1 :: q.1, q.2)
def frzA (h : Heap) (v : AV) : Option (AV × Heap) :=
  match v with
  | .agg l => (frzSegs h l).map fun p => (.agg p.1, p.2)
  | v => frz1 h v
def frzAs : Heap → List AV → Option (List AV × Heap)
  | h, [] => some ([], h)
  | h, s :: r => (frzA h s).bind fun p => (frzAs p.2 r).map fun q => (p.1 :: q.1, q.2)
def frzD (h : Heap) (v : AV) : Option (AV × Heap) :=
  match v with
  | .tuple l => (frzAs h l).map fun p => (.tuple p.1, p.2)
  | .undef => some (.undef, h)
  | v => frzA h v
/-- A frozen one from a state. -/
structure Fro (ι : Inj) (h : Heap) (w : World) (ι' : Inj) (h' : Heap) : Prop where
  pl : ι'.pl = ι.pl
  le : ι.le ι'
  heap : HRel ι' h' w
  step : Step ι h w ι' h' w
  sub : ∀ i c, h'.get i = some c → h.get i = some c
theorem Fro.refl {ι : Inj} {h : Heap} {w : World} (R : HRel ι h w) : Fro ι h w ι h := ⟨rfl, .refl _, R, .refl _ _ _, fun _ _ h => h⟩
theorem Fro.trans {ι1 ι2 ι3 : Inj} {h1 h2 h3 : Heap} {w : World} (a : Fro ι1 h1 w ι2 h2) (b : Fro ι2 h2 w ι3 h3) : Fro ι1 h1 w ι3 h3 :=
  ⟨b.pl.trans a.pl, a.le.trans b.le, b.heap, a.step.trans b.step, fun i c h => a.sub i c (b.sub i c h)⟩
theorem frz1_sound {ι : Inj} {h h' : Heap} {w : World} {s s' : AV} {x : Value} (R : HRel ι h w) (hx : SR ι s x) (hk : frz1 h s = some (s', h')) : ∃ ι', Fro ι h w ι' h' ∧ SR ι' s' x ∧ noId s' = true := by
  unfold frz1 at hk
  split at hk
  · rename_i id o j len e cap
    split at hk
    · rename_i hc
      obtain ⟨rfl, rfl⟩ := hc
      simp only [Option.some.injEq, Prod.mk.injEq] at hk
      obtain ⟨rfl, rfl⟩ := hk
      obtain ⟨p, a, c, hp, rfl, S⟩ := hx
      have := (S.exact 0 rfl).1
      subst this
      exact ⟨ι, .refl R, ⟨a, rfl⟩, rfl⟩
    · cases hf : frzV h (.slice id o j len e cap) .some with
      | none => rw [hf] at hk; cases hk
      | some p =>
        obtain ⟨v', d⟩ := p
        rw [hf] at hk
        simp only [Option.map_some, Option.some.injEq, Prod.mk.injEq] at hk
        obtain ⟨rfl, rfl⟩ := hk
        obtain ⟨ι', e1, e2, e3, e4, e5⟩ := frzV_sound R (VR.of_SR hx) hf
        have hn : noId v' = true ∧ scalar v' = true := by
          simp only [frzV] at hf
          split at hf <;> (try split at hf) <;> (try split at hf) <;> first | (cases hf; done) | (cases hf; exact ⟨rfl, rfl⟩)
        refine ⟨ι', ⟨e1, e2, e3, e4, fun i c hi => ?_⟩, VR.SR_of hn.2 e5, hn.1⟩
        cases d with
        | none => exact hi
        | some id => simp only [delO, get_del] at hi; split at hi; cases hi; exact hi
  · split at hk <;> try (cases hk; done)
    rename_i hn
    simp only [Option.some.injEq, Prod.mk.injEq] at hk
    obtain ⟨rfl, rfl⟩ := hk
    exact ⟨ι, .refl R, hx, hn⟩
theorem frz1_ints {h : Heap} {k : IntKind} {n : Nat} {xs : List Int} : frz1 h (.ints k n xs) = some (.ints k n xs, h) := rfl
theorem frzSegs_sound {w : World} : ∀ (l : List AV) (ι : Inj) (h : Heap) (l' : List AV) (h' : Heap) (vs : List Value), HRel ι h w → SegsWf l → CR ι (cellsL l) vs → frzSegs h l = some (l', h') →
    ∃ ι', Fro ι h w ι' h' ∧ SegsWf l' ∧ CR ι' (cellsL l') vs ∧ noIds l' = true
  | [], ι, h, l', h', vs, R, wf, hc, hk => by
    simp only [frzSegs, Option.some.injEq, Prod.mk.injEq] at hk
    obtain ⟨rfl, rfl⟩ := hk
    exact ⟨ι, .refl R, wf, hc, rfl⟩
  | s :: r, ι, h, l', h', vs, R, wf, hc, hk => by
    rw [segsWf_cons] at wf
    rw [cellsL_cons] at hc
    obtain ⟨xs, ys, rfl, c1, c2⟩ := CR_split hc
    simp only [frzSegs] at hk
    cases h1 : frz1 h s with
    | none => rw [h1] at hk; cases hk
    | some p =>
      obtain ⟨s', h2⟩ := p
      rw [h1] at hk
      simp only [Option.bind_some] at hk
      cases hr : frzSegs h2 r with
      | none => rw [hr] at hk; cases hk
      | some q =>
        obtain ⟨r', h3⟩ := q
        rw [hr] at hk
        simp only [Option.map_some, Option.some.injEq, Prod.mk.injEq] at hk
        obtain ⟨rfl, rfl⟩ := hk
        have key : ∃ ι2, Fro ι h w ι2 h2 ∧ SegWf s' ∧ CR ι2 (segC s') xs ∧ noId s' = true := by
          by_cases hi : ∃ k n ys, s = .ints k n ys
          · obtain ⟨k, n, ys, rfl⟩ := hi
            rw [frz1_ints] at h1
            simp only [Option.some.injEq, Prod.mk.injEq] at h1
            obtain ⟨rfl, rfl⟩ := h1
            exact ⟨ι, .refl R, wf.1, c1, rfl⟩
          · have hs : segC s = [s] := by cases s <;> first | rfl | exact absurd ⟨_, _, _, rfl⟩ hi
            rw [hs] at c1
            obtain ⟨x, us, rfl, hsr, c1'⟩ := CR_cons c1
            have hus : us = [] := List.eq_nil_of_length_eq_zero (by have := c1'.1; simpa using this.symm)
            subst hus
            obtain ⟨ι2, F, k1, k2⟩ := frz1_sound R hsr h1
            have hs' : segC s' = [s'] ∧ SegWf s' := by
              cases s' <;> first | exact ⟨rfl, trivial⟩ | (simp [noId] at k2; done) | exact k1.elim
            refine ⟨ι2, F, hs'.2, ?_, k2⟩
            rw [hs'.1]
            have := k1.CR
            rwa [k1.one.1] at this
        obtain ⟨ι2, F, w1, k1, n1⟩ := key
        obtain ⟨ι3, F3, w3, k3, n3⟩ := frzSegs_sound r ι2 h2 r' h3 ys F.heap wf.2 (c2.mono F.le) hr
        refine ⟨ι3, F.trans F3, segsWf_cons.2 ⟨w1, w3⟩, ?_, ?_⟩
        · rw [cellsL_cons]; exact CR_append (k1.mono F3.le) k3
        · simp only [noIds, List.all_cons, Bool.and_eq_true] at n3 ⊢; exact ⟨n1, n3⟩
theorem frzA_sound {ι : Inj} {h h' : Heap} {w : World} {v v' : AV} {x : Value} (R : HRel ι h w) (hx : VA ι v x) (hk : frzA h v = some (v', h')) : ∃ ι', Fro ι h w ι' h' ∧ VA ι' v' x ∧ avIds v' = [] := by
  have one : SR ι v x → frz1 h v = some (v', h') → ∃ ι', Fro ι h w ι' h' ∧ VA ι' v' x ∧ avIds v' = [] := fun hs h1 => by
    obtain ⟨ι', F, k1, k2⟩ := frz1_sound R hs h1
    exact ⟨ι', F, .of_SR k1, noId_ids k2⟩
  cases v with
  | agg l =>
    simp only [frzA] at hk
    obtain ⟨cs, rfl, wf, hc⟩ := hx
    cases hs : frzSegs h l with
    | none => rw [hs] at hk; cases hk
    | some p =>
      obtain ⟨l', h2⟩ := p
      rw [hs] at hk
      simp only [Option.map_some, Option.some.injEq, Prod.mk.injEq] at hk
      obtain ⟨rfl, rfl⟩ := hk
      obtain ⟨ι', F, w', c', n'⟩ := frzSegs_sound l ι h l' h2 _ R wf hc hs
      exact ⟨ι', F, ⟨cs, rfl, w', c'⟩, by simp only [avIds]; exact noIds_ids n'⟩
  | _ => exact one hx hk
theorem frzAs_sound {w : World} : ∀ (l : List AV) (ι : Inj) (h : Heap) (l' : List AV) (h' : Heap) (vs : List Value), HRel ι h w → VAL ι l vs → frzAs h l = some (l', h') →
    ∃ ι', Fro ι h w ι' h' ∧ VAL ι' l' vs ∧ avIds.avIdsL l' = []
  | [], ι, h, l', h', vs, R, hv, hk => by
    simp only [frzAs, Option.some.injEq, Prod.mk.injEq] at hk
    obtain ⟨rfl, rfl⟩ := hk
    exact ⟨ι, .refl R, hv, rfl⟩
  | s :: r, ι, h, l', h', vs, R, hv, hk => by
    simp only [frzAs] at hk
    cases h1 : frzA h s with
    | none => rw [h1] at hk; cases hk
    | some p =>
      obtain ⟨s', h2⟩ := p
      rw [h1] at hk
      simp only [Option.bind_some] at hk
      cases hr : frzAs h2 r with
      | none => rw [hr] at hk; cases hk
      | some q =>
        obtain ⟨r', h3⟩ := q
        rw [hr] at hk
        simp only [Option.map_some, Option.some.injEq, Prod.mk.injEq] at hk
        obtain ⟨rfl, rfl⟩ := hk
        obtain ⟨x, hx, hvx⟩ := hv.2 0 s rfl
        obtain ⟨ι2, F, k1, k2⟩ := frzA_sound R hvx h1
        cases vs with
        | nil => cases hx
        | cons y vs =>
          simp only [List.getElem?_cons_zero, Option.some.injEq] at hx
          subst hx
          have hvr : VAL ι r vs := ⟨by have := hv.1; simpa using this, fun i v hi => by have := hv.2 (i + 1) v (by simpa using hi); simpa using this⟩
          obtain ⟨ι3, F3, k3, k4⟩ := frzAs_sound r ι2 h2 r' h3 vs F.heap (hvr.mono F.le) hr
          refine ⟨ι3, F.trans F3, ⟨by simp [k3.1], fun i v hi => ?_⟩, by simp only [avIds.avIdsL, k2, k4, List.append_nil]⟩
          cases i with
          | zero => simp only [List.getElem?_cons_zero, Option.some.injEq] at hi; subst hi; exact ⟨_, rfl, k1.mono F3.le⟩
          | succ i => exact k3.2 i v (by simpa using hi)
theorem frzD_sound {ι : Inj} {h h' : Heap} {w : World} {v v' : AV} {x : Value} (R : HRel ι h w) (hx : VR ι v x) (hk : frzD h v = some (v', h')) : ∃ ι', Fro ι h w ι' h' ∧ VR ι' v' x ∧ avIds v' = [] := by
  have gen : VA ι v x → frzA h v = some (v', h') → ∃ ι', Fro ι h w ι' h' ∧ VR ι' v' x ∧ avIds v' = [] := fun hx hk => by
    obtain ⟨ι', F, k1, k2⟩ := frzA_sound R hx hk
    exact ⟨ι', F, .of_VA k1, k2⟩
  cases v with
  | tuple l =>
    simp only [frzD] at hk
    obtain ⟨xs, rfl, hv⟩ := hx
    cases hs : frzAs h l with
    | none => rw [hs] at hk; cases hk
    | some p =>
      obtain ⟨l', h2⟩ := p
      rw [hs] at hk
      simp only [Option.map_some, Option.some.injEq, Prod.mk.injEq] at hk
      obtain ⟨rfl, rfl⟩ := hk
      obtain ⟨ι', F, v', n'⟩ := frzAs_sound l ι h l' h2 _ R hv hs
      exact ⟨ι', F, ⟨xs, rfl, v'⟩, by simp only [avIds]; exact n'⟩
  | undef =>
    simp only [frzD, Option.some.injEq, Prod.mk.injEq] at hk
    obtain ⟨rfl, rfl⟩ := hk
    exact ⟨ι, .refl R, trivial, rfl⟩
  | func => simp [frzD, frzA, frz1, noId] at hk
  | _ => exact gen hx hk

/-! ## What is handed back -/
def voidB (nid : Nat) : GK → Option (AV × Option Blk)
  | .ints k => some (.slice nid 0 0 0 0 none, some (.segs [.ints k 0 []]))
  | .rows e => if e = 0 then none else some (.slice nid 0 0 0 e none, some (.rows e 0 []))
  | .some => none
def outS (k : GK) (B nid : Nat) (v : AV) (h : Heap) : Option (AV × Option Blk) :=
  match v with
  | .slice id o j len e cap =>
    if cap = some 0 ∧ len = 0 then voidB nid k
    else if B ≤ id then (match h.get id with | some ⟨_, false, b⟩ => if (blkIds b).isEmpty then some (.slice nid o j len e cap, some b) else none | _ => none)
    else none
  | .nils => voidB nid k
  | .emp => voidB nid k
  | _ => none
def outP (rk : Option GK) (B nid : Nat) (v : AV) (h : Heap) : Option (AV × Option Blk) :=
  match rk with
  | some k => outS k B nid v h
  | none => match v with
    | .ptr id 0 0 0 0 => if B ≤ id then (match h.get id with
      | some ⟨_, false, .segs l⟩ => (frzSegs h l).bind fun p => (match p.2.get id with | some ⟨_, false, _⟩ => some (.ptr nid 0 0 0 0, some (.segs p.1)) | _ => none)
      | _ => none) else none
    | v => (frzD h v).map fun p => (p.1, none)
def litP (as : List AK) (rk : Option GK) (B : Nat) (o : List AV → Heap → (AV → Heap → Option Res) → Option Res) (nid : Nat) (args : List AV) (h : Heap) : Option (AV × Option Blk) :=
  (viewArgs h args as 0).bind fun p => if p.2.length ≤ B then (o p.1 ⟨B, p.2⟩ kH).bind fun r => outP rk B nid r.1 r.2 else none
theorem outP_sound {ι ι' : Inj} {w w' : World} {h' : Heap} {rk : Option GK} {B nid : Nat} {v0 v : AV} {ob : Option Blk} {x : Value} (hn : ι nid = none) (os : w'.os = w.os) (tape : w'.tape = w.tape) (output : w'.output = w.output) (size : w.heap.size ≤ w'.heap.size)
    (hfrm : ∀ k, k < w.heap.size → w'.heap[k]? = w.heap[k]?) (e1 : VR ι' v0 x) (e2 : HRel ι' h' w') (hz : ∀ k f, ι.fz k = some f → ι'.fz k = some f) (hown : ∀ k, Own ι' h' k → w.heap.size ≤ k) (hfz : ∀ k f, ι'.fz k = some f → ι.fz k = some f ∨ w.heap.size ≤ k)
    (hk : outP rk B nid v0 h' = some (v, ob)) : RC ι w w' nid v ob x := by
  have hfz2 : ∀ {ι'' h''}, Fro ι' h' w' ι'' h'' → ∀ k f, ι''.fz k = some f → ι.fz k = some f ∨ (w.heap.size ≤ k ∧ FzR (ι.frz ι''.fz) w' k f) := by
    intro ι'' h'' F k f hk
    have h2 : FzR (ι.frz ι''.fz) w' k f := (F.heap.fz k f hk).1.ids fun k f (h : ι''.fz k = some f) => h
    rcases F.step.fzo k f hk with h1 | h1 | h1
    · exact (hfz k f h1).imp id fun h => ⟨h, h2⟩
    · exact .inr ⟨hown k h1, h2⟩
    · exact .inr ⟨by omega, h2⟩
  have hfz1 := hfz2 (.refl e2)
  have void : ∀ {a : Option Addr} {k : GK}, x = .slice a 0 0 → voidB nid k = some (v, ob) → RC ι w w' nid v ob x := by
    intro a k hx hv
    subst hx
    have mk : ∀ {e : Nat} {b : Blk}, b.Wf → b.cells.length = 0 → RC ι w w' nid (.slice nid 0 0 0 e none) (some b) (.slice a 0 0) := fun wf hc =>
      ⟨os, tape, output, size, hfrm, ι'.fz, hz, hfz1, ⟨0, 0, 0, 0⟩, fun h => absurd rfl h, ⟨_, Inj.upd_same _ _ _, wf, hc, fun _ => rfl, fun h => absurd rfl h⟩, ⟨_, a, 0, Inj.upd_same _ _ _, rfl, ⟨Nat.le_refl _, .inl rfl, (fun m h => by cases h), by simp, .inl rfl⟩⟩⟩
    cases k with
    | some => cases hv
    | ints k => cases hv; exact mk (by intro s hs; simp at hs; subst hs; simp [SegWf]) (by simp [Blk.cells, cellsL, segC])
    | rows e =>
      simp only [voidB] at hv
      split at hv <;> try (cases hv; done)
      cases hv
      exact mk (by simp [Blk.Wf]) (by simp [Blk.cells])
  unfold outP at hk
  split at hk
  · rename_i k
    unfold outS at hk
    split at hk
    · rename_i id o j len e cap
      obtain ⟨p, a, c, hp, hxe, S⟩ := e1.slice
      split at hk
      · rename_i hc
        obtain ⟨rfl, rfl⟩ := hc
        have := (S.exact 0 rfl).1
        subst this
        exact void hxe hk
      · split at hk <;> try (cases hk; done)
        split at hk <;> try (cases hk; done)
        rename_i ci b hg
        split at hk <;> try (cases hk; done)
        rename_i hbi
        simp only [Option.some.injEq, Prod.mk.injEq] at hk
        obtain ⟨rfl, rfl⟩ := hk
        obtain ⟨q, hq, wf, hs, h0, h3⟩ := e2.blk id _ hg
        rw [hp] at hq; cases hq
        refine ⟨os, tape, output, size, hfrm, ι'.fz, hz, hfz1, p, fun hlim => ⟨hown _ ⟨id, _, p, hg, rfl, hp, hlim, rfl⟩, ?_⟩, ⟨p, Inj.upd_same _ _ _, wf, hs, h0, fun hlim => ?_⟩, ⟨p, a, c, Inj.upd_same _ _ _, hxe, S⟩⟩
        · cases hk : ι'.fz p.blk with
          | none => rfl
          | some f => exact absurd rfl ((e2.fz _ f hk).2 id _ p hg rfl hp hlim)
        · rcases h3 hlim with h3 | h3
          rotate_left
          · exact .inr h3
          obtain ⟨arr, el, fz, g1, g2, g3, g4, g5⟩ := h3.row
          refine .inl ⟨arr, el, fz, g1, g2, g3, fun i u hu => ?_, g5⟩
          obtain ⟨y, hy, hsr⟩ := g4 i u hu
          refine ⟨y, hy, hsr.ids (fun k f (h : ι'.fz k = some f) => h) fun i hi => ?_⟩
          have := mem_blkIds wf (List.mem_of_getElem? hu) i hi
          have he : blkIds b = [] := by simpa using hbi
          rw [he] at this; cases this
    · exact void e1.nils hk
    · obtain ⟨a, ha⟩ := e1.emp; exact void ha hk
    · cases hk
  · split at hk
    · rename_i id
      split at hk <;> try (cases hk; done)
      split at hk <;> try (cases hk; done)
      rename_i ci l hg
      cases hs : frzSegs h' l with
      | none => rw [hs] at hk; cases hk
      | some p =>
        obtain ⟨l', h2⟩ := p
        rw [hs] at hk
        simp only [Option.bind_some] at hk
        split at hk <;> try (cases hk; done)
        rename_i ci2 b2 hg2
        simp only [Option.some.injEq, Prod.mk.injEq] at hk
        obtain ⟨rfl, rfl⟩ := hk
        obtain ⟨q, hq, hxe⟩ := e1.ptr
        obtain ⟨q', hq', wf, hsz, h0, h3⟩ := e2.blk id _ hg
        rw [hq] at hq'; cases hq'
        have hvs : ∃ vs, CR ι' (cellsL l) vs ∧ (q.lim ≠ 0 → ∃ (arr : Array Value) (el : TypeId) (fz : Nat × Nat), w'.heap[q.blk]? = some (.cells arr el fz) ∧ arr.size = q.lim ∧ q.base + q.size ≤ q.lim ∧ (∀ i x, vs[i]? = some x → arr[q.base + i]? = some x) ∧ ∀ o, o < q.lim → ¬ (fz.1 ≤ o ∧ o < fz.2)) := by
          by_cases hl : q.lim = 0
          · refine ⟨[], ⟨by have := h0 hl; have h5 : (cellsL l).length = q.size := hsz; simp only [List.length_nil]; omega, fun i v hi => ?_⟩, fun h => absurd hl h⟩
            have h5 : (cellsL l).length = q.size := hsz
            have := (List.getElem?_eq_some_iff.1 hi).1
            have := h0 hl
            omega
          · obtain ⟨arr, el, fz, g1, g2, g3, g4, g5⟩ := (rowOf (h3 hl) (by intros; simp)).row
            have h5 : (cellsL l).length = q.size := hsz
            refine ⟨(arr.toList.drop q.base).take q.size, ⟨by simp; omega, fun i v hi => ?_⟩, fun _ => ⟨arr, el, fz, g1, g2, g3, fun i x hi => ?_, g5 rfl⟩⟩
            · have hil := (List.getElem?_eq_some_iff.1 hi).1
              obtain ⟨y, hy, hsr⟩ := g4 i v hi
              exact ⟨y, by rw [List.getElem?_take, if_pos (by omega), List.getElem?_drop]; simpa using hy, hsr⟩
            · rw [List.getElem?_take] at hi
              split at hi
              · rw [List.getElem?_drop] at hi; simpa using hi
              · cases hi
        obtain ⟨vs, hc, hrow⟩ := hvs
        obtain ⟨ι'', F, w3, c3, n3⟩ := frzSegs_sound l ι' h' l' h2 vs e2 wf hc hs
        have hq2 : ι'' id = some q := by rw [F.pl]; exact hq
        refine ⟨os, tape, output, size, hfrm, ι''.fz, fun k f h => F.le.fz k f (hz k f h), hfz2 F, q, fun hlim => ⟨hown _ ⟨id, _, q, hg, rfl, hq, hlim, rfl⟩, ?_⟩, ⟨q, Inj.upd_same _ _ _, w3, ?_, h0, fun hlim => ?_⟩, ⟨q, Inj.upd_same _ _ _, hxe⟩⟩
        · cases hk : ι''.fz q.blk with
          | none => rfl
          | some f => exact absurd rfl ((F.heap.fz _ f hk).2 id _ q hg2 rfl hq2 hlim)
        · have h5 : (cellsL l).length = q.size := hsz
          show (cellsL l').length = q.size
          rw [c3.1, ← hc.1, h5]
        · obtain ⟨arr, el, fz, g1, g2, g3, g4, g5⟩ := hrow hlim
          refine .inl ⟨arr, el, fz, g1, g2, g3, fun i u hu => ?_, fun _ => g5⟩
          obtain ⟨y, hy, hsr⟩ := c3.2 i u hu
          refine ⟨y, g4 i y hy, hsr.ids (fun k f (h : ι''.fz k = some f) => h) fun i hi => ?_⟩
          have := mem_cells_ids (List.mem_of_getElem? hu) i hi
          rw [noIds_ids n3] at this; cases this
    · cases hd : frzD h' v0 with
      | none => rw [hd] at hk; cases hk
      | some p =>
        obtain ⟨v', h2⟩ := p
        rw [hd] at hk
        simp only [Option.map_some, Option.some.injEq, Prod.mk.injEq] at hk
        obtain ⟨rfl, rfl⟩ := hk
        obtain ⟨ι'', F, k1, k2⟩ := frzD_sound e2 e1 hd
        exact ⟨os, tape, output, size, hfrm, ι''.fz, fun k f h => F.le.fz k f (hz k f h), hfz2 F, k1.ids (fun k f (h : ι''.fz k = some f) => h) fun id hid => by rw [k2] at hid; cases hid⟩
theorem litP_ok {P : Program} {f : FuncId} {as : List AK} {rk : Option GK} {B : Nat} {o : List AV → Heap → (AV → Heap → Option Res) → Option Res} (ho : FnOk P f B o) : PureOk P f (litP as rk B o) := by
  intro nid args h v ob ι w vs hk R hn ha
  unfold litP at hk
  cases hv : viewArgs h args as 0 with
  | none => rw [hv] at hk; cases hk
  | some p =>
    obtain ⟨args', bl⟩ := p
    rw [hv] at hk
    simp only [Option.bind_some] at hk
    split at hk <;> try (cases hk; done)
    rename_i hlen
    cases hr : o args' ⟨B, bl⟩ kH with
    | none => rw [hr] at hk; cases hk
    | some r =>
      obtain ⟨v0, h'⟩ := r
      rw [hr] at hk
      simp only [Option.bind_some] at hk
      let ι1 : Inj := { ι with pl := fun _ => none }
      obtain ⟨ι0, G, ha'⟩ := viewArgs_sound R args as 0 args' bl vs.toList ι1 hv ha (fun _ _ h => h) (fun _ _ => rfl)
      have hz0 : ι0.fz = ι.fz := G.fz
      have hro : ∀ i c, (Heap.mk B bl).get i = some c → c.ro = true := fun i c hg => (G.blk i c hg).2.2.1
      have R0 : HRel ι0 ⟨B, bl⟩ w := by
        refine ⟨fun i c hg => (G.blk i c hg).2.2.2.1, fun k f hk => ⟨(R.fz k f (by rw [← hz0]; exact hk)).1.ids fun k f h => by rw [hz0]; exact h, fun i c p hg hr => ?_⟩, fun i1 c1 p1 i2 c2 p2 g1 g2 hne hr => ?_⟩
        · rw [hro i c hg] at hr; cases hr
        · rw [hro i1 c1 g1] at hr; cases hr
      have hfr : Fresh ι0 B := fun k hk => by rw [G.same k (.inr (by simp; omega))]
      have hnoown : ∀ k, ¬ Own ι0 ⟨B, bl⟩ k := by
        rintro k ⟨id, c, p, hg, hr, _⟩
        rw [hro id c hg] at hr; cases hr
      refine (ho.sound _ _ v0 h' ι0 w vs hr R0 hfr rfl ha').mono fun x w' E => ?_
      obtain ⟨ι', e1, e2, e3, e4⟩ := E
      refine outP_sound hn e3.os e3.tape e3.output e3.size (fun k hk => e3.frame k hk (hnoown k)) e1 e2 (fun k f h => e3.fz k f (by rw [hz0]; exact h)) (fun k hk => (e3.own k hk).resolve_left (hnoown k)) (fun k f hk => ?_) hk
      rcases e3.fzo k f hk with h1 | h1 | h1
      · exact .inl (by rw [← hz0]; exact h1)
      · exact absurd h1 (hnoown k)
      · exact .inr h1
/-! ## As an equation -/
def encB (nid : Nat) : Option Blk → Heap
  | none => ⟨0, []⟩
  | some b => ⟨0, [⟨nid, false, b⟩]⟩
def kOut (rk : Option GK) (nid : Nat) : AV → Heap → Option Res := fun v h => (outP rk 16 nid v h).map fun r => (r.1, encB nid r.2)
theorem encB_inj {nid : Nat} {a b : Option Blk} (h : encB nid a = encB nid b) : a = b := by
  cases a <;> cases b <;> simp [encB] at h ⊢
  exact h
/-- What may be taken of arguments in a heap. -/
structure HOk (h : Heap) (args : List AV) : Prop where
  ok : ArgsOk args
  ints : ∀ v ∈ args, ∀ k xs, contI k h v = some xs → ∀ y ∈ xs, rng k y
  rows : ∀ v ∈ args, ∀ e xs, contR e h v = some xs → ∀ r ∈ xs, RowWf e r ∧ ArgsOk r
theorem viewS_rng {ι : Inj} {h : Heap} {w : World} {v : AV} {x : Value} {k : IntKind} {xs : List Int} (R : HRel ι h w) (hx : VR ι v x) (hk : contI k h v = some xs) : ∀ y ∈ xs, rng k y := by
  intro y hy
  unfold contI at hk
  split at hk
  · cases hk; cases hy
  · cases hk; cases hy
  · split at hk <;> try (cases hk; done)
    rename_i e; subst e; cases hk
    obtain ⟨a, c, _, hr, _⟩ := hx.isl
    exact hr y hy
  · split at hk <;> try (cases hk; done)
    rename_i hs
    split at hk <;> try (cases hk; done)
    rename_i e; subst e; cases hk
    obtain ⟨_, _, _, _, _, _, _, _, _, hr⟩ := slCont_ints R hx hs
    exact hr y hy
  · cases hk
theorem frzCells_ok {ι : Inj} {h : Heap} {w : World} (R : HRel ι h w) {k : Nat} {f : Frz} (hf : ι.fz k = some f) {o : Nat} {v : AV} (ho : f.cell o = some v) : AOk v := by
  obtain ⟨⟨arr, el, z, _, _, g⟩, _⟩ := R.fz k f hf
  obtain ⟨_, _, x, _, hs⟩ := g o v ho
  exact hs.ok
theorem AOk_cells {l : List AV} (wf : SegsWf l) (h : ∀ v ∈ cellsL l, AOk v) : ArgsOk l := by
  rw [AOkL_iff]
  intro s hs
  cases s with
  | ints k n xs =>
    refine ⟨wf _ hs, fun x hx => ?_⟩
    exact h (.int k x) (by simp only [cellsL, List.mem_flatMap]; exact ⟨_, hs, by simp only [segC, List.mem_map]; exact ⟨x, hx, rfl⟩⟩)
  | _ => first | exact (wf _ hs).elim | exact h _ (by simp only [cellsL, List.mem_flatMap]; exact ⟨_, hs, by simp [segC]⟩)
theorem viewR_ok {ι : Inj} {h : Heap} {w : World} {v : AV} {x : Value} {e : Nat} {xs : List (List AV)} (R : HRel ι h w) (hx : VR ι v x) (hk : contR e h v = some xs) : ∀ r ∈ xs, RowWf e r ∧ ArgsOk r := by
  have fin : (∀ r ∈ xs, RowWf e r) → (∀ c ∈ xs.flatMap cellsL, AOk c) → ∀ r ∈ xs, RowWf e r ∧ ArgsOk r := fun h1 h2 r hr =>
    ⟨h1 r hr, AOk_cells (h1 r hr).1 fun c hc => h2 c (by simp only [List.mem_flatMap]; exact ⟨r, hr, hc⟩)⟩
  unfold contR at hk
  split at hk
  · cases hk; intro r hr; cases hr
  · cases hk; intro r hr; cases hr
  · split at hk <;> try (cases hk; done)
    rename_i e' xs' he; subst he; cases hk
    obtain ⟨a, c, _, _, hr, F⟩ := hx.islR
    refine fin hr fun cc hcc => ?_
    obtain ⟨i, hi⟩ := List.mem_iff_getElem?.1 hcc
    by_cases hc : c = 0
    · have hl : xs = [] := List.eq_nil_of_length_eq_zero (by have := F.1; omega)
      subst hl; simp at hcc
    · obtain ⟨b, off, f, _, hf, _, hcell⟩ := F.2.resolve_left hc
      exact frzCells_ok R hf (hcell i cc hi)
  · rename_i id o j len e0 cap
    split at hk <;> try (cases hk; done)
    rename_i e' ys hs
    split at hk <;> try (cases hk; done)
    rename_i he; subst he; cases hk
    obtain ⟨cc, hg⟩ : ∃ cc, h.get id = some cc := by
      cases hg : h.get id with
      | none => simp [slCont, hg] at hs
      | some c => exact ⟨c, rfl⟩
    obtain ⟨rfl, he1, hlen, hr, habs⟩ := slCont_absR R hx hg hs
    obtain ⟨p, a, c, hp, _, S⟩ := hx.slice
    refine fin hr fun u hu => ?_
    obtain ⟨i, hi⟩ := List.mem_iff_getElem?.1 hu
    have hil : i < len * e' := by
      have := (List.getElem?_eq_some_iff.1 hi).1
      rw [rows_len (fun y hy => (hr y hy).2.1), hlen] at this
      exact this
    rw [habs i hil] at hi
    obtain ⟨y, _, hsr⟩ := R.cell hg hp hi (slCont_ni hg hs)
    exact hsr.ok
  · cases hk
theorem HOk.of {h : Heap} {w : World} {ι : Inj} {args : List AV} {vs : List Value} (R : HRel ι h w) (ha : VRL ι args vs) : HOk h args where
  ok := ha.ok
  ints := fun v hv k xs hk => by
    obtain ⟨i, hi⟩ := List.mem_iff_getElem?.1 hv
    obtain ⟨x, _, hr⟩ := ha.2 i v hi
    exact viewS_rng R hr hk
  rows := fun v hv e xs hk => by
    obtain ⟨i, hi⟩ := List.mem_iff_getElem?.1 hv
    obtain ⟨x, _, hr⟩ := ha.2 i v hi
    exact viewR_ok R hr hk
theorem contI_isSl {k : IntKind} {h : Heap} {v : AV} {xs : List Int} (hk : contI k h v = some xs) : isSl v = true := by
  unfold contI at hk
  split at hk <;> first | rfl | cases hk
theorem contR_isSl {e : Nat} {h : Heap} {v : AV} {xs : List (List AV)} (hk : contR e h v = some xs) : isSl v = true := by
  unfold contR at hk
  split at hk <;> first | rfl | cases hk
theorem viewS_ints {k : IntKind} {h : Heap} {v : AV} {xs : List Int} (hk : contI k h v = some xs) : viewS h (.ints k) v = some (xs.length, 0, .segs [.ints k xs.length xs]) := by simp only [viewS, hk, Option.map_some]
theorem viewS_rows {e : Nat} {h : Heap} {v : AV} {xs : List (List AV)} (he : e ≠ 0) (hk : contR e h v = some xs) : viewS h (.rows e) v = some (xs.length, e, .rows e xs.length xs) := by simp only [viewS, hk, Option.map_some, if_neg he]
/-- An oracle, of a function asked so. -/
theorem Fn.lit {P : Program} {f : FuncId} {Γ : Env} {af : AFn} (F : Fn P f Γ af) (as : List AK) (rk : Option GK) {o' : Nat → List AV → Heap → Option (AV × Option Blk)}
    (h : ∀ nid args hp r, HOk hp args → o' nid args hp = some r → ∃ args' bl, viewArgs hp args as 0 = some (args', bl) ∧ bl.length ≤ 16 ∧ evFn Γ af args' ⟨16, bl⟩ (kOut rk nid) = some (r.1, encB nid r.2)) : PureOk P f o' := by
  intro nid args hp v ob ι w vs hk R hn ha
  obtain ⟨args', bl, h1, h2, h3⟩ := h nid args hp _ (.of R ha) hk
  refine litP_ok (as := as) (rk := rk) F.ok nid args hp v ob ι w vs ?_ R hn ha
  unfold litP
  rw [h1]
  simp only [Option.bind_some, h2, if_true]
  have h4 := F.factor args' ⟨16, bl⟩ (kOut rk nid)
  simp only at h4
  rw [h4] at h3
  cases hr : evFn Γ af args' ⟨16, bl⟩ kH with
  | none => rw [hr] at h3; cases h3
  | some q =>
    rw [hr] at h3
    simp only [Option.bind_some, kOut] at h3 ⊢
    cases hq : outP rk 16 nid q.1 q.2 with
    | none => rw [hq] at h3; cases h3
    | some z =>
      rw [hq] at h3
      simp only [Option.map_some, Option.some.injEq, Prod.mk.injEq] at h3
      obtain ⟨e1, e2⟩ := h3
      have := encB_inj e2
      obtain ⟨z1, z2⟩ := z
      simp only at e1 this ⊢
      rw [e1, this]
end Go.Am
/- A function asked with objects that it may write. -/
namespace Go.Am
set_option linter.unusedSimpArgs false
inductive OK where
  | obj
  | arg (a : AK)
def rootsOf : List AV → List OK → List Nat
  | v :: r, .obj :: ks => avIds v ++ rootsOf r ks
  | _ :: r, _ :: ks => rootsOf r ks
  | _, _ => []
def objBlks (h : Heap) (m : Nat → Nat) : List Nat → Nat → Option (List Cell)
  | [], _ => some []
  | id :: r, k => match h.get id with
    | some ⟨_, false, b⟩ => (objBlks h m r (k + 1)).map fun l => ⟨k, false, rnBlk m b⟩ :: l
    | _ => none
def viewObjs (h : Heap) (ids : List Nat) : List AV → List OK → Nat → Option (List AV × List Cell)
  | [], [], _ => some ([], [])
  | v :: r, .obj :: ks, n => if (avIds v).all ids.contains then (viewObjs h ids r ks n).map fun p => (rnAV (posN ids) v :: p.1, p.2) else none
  | v :: r, .arg a :: ks, n =>
    if (avIds v).any ids.contains then (if (avIds v).all ids.contains then (viewObjs h ids r ks n).map fun p => (rnAV (posN ids) v :: p.1, p.2) else none)
    else (viewArgs h [v] [a] n).bind fun p => (viewObjs h ids r ks (n + p.2.length)).map fun q => (p.1 ++ q.1, p.2 ++ q.2)
  | _, _, _ => none
/-- Objects whose slices are written no more. -/
def frzObjs : List Nat → Heap → Option Heap
  | [], h => some h
  | k :: r, h => match h.get k with
    | some ⟨_, false, .segs l⟩ => (frzSegs h l).bind fun p => (match p.2.get k with | some ⟨_, false, _⟩ => frzObjs r (p.2.set k (.segs p.1)) | _ => none)
    | _ => none
def setAll (h' : Heap) (m : Nat → Nat) : List Nat → Nat → Heap → Option Heap
  | [], _, h => some h
  | id :: r, k, h => match h'.get k with
    | some ⟨_, false, b⟩ => setAll h' m r (k + 1) (h.set id (rnBlk m b))
    | none => setAll h' m r (k + 1) (h.del id)
    | _ => none
def newAll (h' : Heap) (m : Nat → Nat) : List Nat → Heap → Option Heap
  | [], h => some h
  | k :: r, h => match h'.get k with
    | some ⟨_, false, b⟩ => newAll h' m r (h.new (rnBlk m b))
    | _ => none
def okIds (m B : Nat) (news : List Nat) (l : List Nat) : Bool := l.all fun i => decide (i < m) || (decide (B ≤ i) && news.contains i)
def outG (fv : Bool) (fo : List Nat) (ids : List Nat) (B : Nat) (v : AV) (h' h : Heap) : Option (AV × Heap) :=
  (if fv then frzD h' v else some (v, h')).bind fun p => (frzObjs fo p.2).bind fun h1 =>
    let m := ids.length
    let cont := (List.range m).flatMap fun k => match h1.get k with | some c => blkIds c.blk | none => []
    let news := (reachN h1 64 ((avIds p.1 ++ cont).filter fun i => decide (B ≤ i)) []).filter fun i => decide (B ≤ i)
    let back := fun k => if k < m then ids.getD k 0 else h.next + posN news k
    if okIds m B news (avIds p.1) && okIds m B news cont && (news.all fun k => match h1.get k with | some c => okIds m B news (blkIds c.blk) | none => false) then
      (setAll h1 back ids 0 h).bind fun h2 => (newAll h1 back news h2).map fun h3 => (rnAV back p.1, h3)
    else none
def litG (ks : List OK) (fv : Bool) (fo : List Nat) (B : Nat) (o : List AV → Heap → (AV → Heap → Option Res) → Option Res) (args : List AV) (h : Heap) : Option (AV × Heap) :=
  let ids := reachN h 64 (rootsOf args ks) []
  (objBlks h (posN ids) ids 0).bind fun ob => (viewObjs h ids args ks ids.length).bind fun p =>
    if (ids.all fun id => match h.get id with | some c => (blkIds c.blk).all ids.contains | none => false) && decide (ids.length + p.2.length ≤ B) then
      (o p.1 ⟨B, ob ++ p.2⟩ kH).bind fun r => outG fv fo ids B r.1 r.2 h
    else none
/-! ## The lists -/
theorem objBlks_get {h : Heap} {m : Nat → Nat} : ∀ {l : List Nat} {k : Nat} {bl : List Cell}, objBlks h m l k = some bl → bl.length = l.length ∧ ∀ i, findB i bl = if k ≤ i then (l[i - k]?).bind fun id => (h.get id).map fun c => ⟨i, false, rnBlk m c.blk⟩ else none
  | [], k, bl, hb => by
    simp only [objBlks, Option.some.injEq] at hb
    subst hb
    exact ⟨rfl, fun i => by simp [findB]⟩
  | id :: r, k, bl, hb => by
    simp only [objBlks] at hb
    split at hb <;> try (cases hb; done)
    rename_i ci b hg
    cases hr : objBlks h m r (k + 1) with
    | none => rw [hr] at hb; cases hb
    | some bl' =>
      rw [hr] at hb
      simp only [Option.map_some, Option.some.injEq] at hb
      subst hb
      obtain ⟨h1, h2⟩ := objBlks_get hr
      refine ⟨by simp [h1], fun i => ?_⟩
      simp only [findB]
      split
      · rename_i e; subst e; simp [hg]
      · rename_i e
        rw [h2]
        by_cases hlt : k ≤ i
        · rw [if_pos (by omega), if_pos hlt, show i - k = (i - (k + 1)) + 1 by omega, List.getElem?_cons_succ]
        · rw [if_neg (by omega), if_neg hlt]
theorem objBlks_rw {h : Heap} {m : Nat → Nat} : ∀ {l : List Nat} {k : Nat} {bl : List Cell}, objBlks h m l k = some bl → ∀ id ∈ l, ∃ c, h.get id = some c ∧ c.ro = false
  | id :: r, k, bl, hb, i, hi => by
    simp only [objBlks] at hb
    split at hb <;> try (cases hb; done)
    rename_i ci b hg
    cases hr : objBlks h m r (k + 1) with
    | none => rw [hr] at hb; cases hb
    | some bl' =>
      rcases List.mem_cons.1 hi with rfl | hi
      · exact ⟨_, hg, rfl⟩
      · exact objBlks_rw hr i hi
theorem setAll_get {h' : Heap} {m : Nat → Nat} : ∀ {l : List Nat} {k : Nat} {h h2 : Heap}, setAll h' m l k h = some h2 → l.Nodup → h2.next = h.next ∧ (∀ i, i ∉ l → h2.get i = h.get i) ∧
    ∀ i (j : Nat), l[j]? = some i → (∃ ci b, h'.get (k + j) = some ⟨ci, false, b⟩ ∧ h2.get i = (h.get i).map fun c => { c with blk := rnBlk m b }) ∨ h2.get i = none
  | [], k, h, h2, hs, _ => by
    simp only [setAll, Option.some.injEq] at hs
    subst hs
    exact ⟨rfl, fun _ _ => rfl, fun i j hj => by simp at hj⟩
  | id :: r, k, h, h2, hs, hn => by
    simp only [setAll] at hs
    split at hs <;> try (cases hs; done)
    · rename_i ci b hg
      rw [List.nodup_cons] at hn
      obtain ⟨h1, h3, h4⟩ := setAll_get hs hn.2
      refine ⟨h1, fun i hi => ?_, fun i j hj => ?_⟩
      · simp only [List.mem_cons, not_or] at hi
        rw [h3 i hi.2, get_set, if_neg hi.1]
      · cases j with
        | zero =>
          simp only [List.getElem?_cons_zero, Option.some.injEq] at hj
          subst hj
          exact .inl ⟨ci, b, hg, by rw [h3 _ hn.1, get_set, if_pos rfl]⟩
        | succ j =>
          simp only [List.getElem?_cons_succ] at hj
          have hne : i ≠ id := by rintro rfl; exact hn.1 (List.mem_of_getElem? hj)
          rcases h4 i j hj with ⟨cj, bj, e1, e2⟩ | e2
          · exact .inl ⟨cj, bj, by rw [← e1]; congr 1; omega, by rw [e2, get_set, if_neg hne]⟩
          · exact .inr e2
    · rw [List.nodup_cons] at hn
      obtain ⟨h1, h3, h4⟩ := setAll_get hs hn.2
      refine ⟨h1, fun i hi => ?_, fun i j hj => ?_⟩
      · simp only [List.mem_cons, not_or] at hi
        rw [h3 i hi.2, get_del, if_neg hi.1]
      · cases j with
        | zero =>
          simp only [List.getElem?_cons_zero, Option.some.injEq] at hj
          subst hj
          exact .inr (by rw [h3 _ hn.1, get_del, if_pos rfl])
        | succ j =>
          simp only [List.getElem?_cons_succ] at hj
          have hne : i ≠ id := by rintro rfl; exact hn.1 (List.mem_of_getElem? hj)
          rcases h4 i j hj with ⟨cj, bj, e1, e2⟩ | e2
          · exact .inl ⟨cj, bj, by rw [← e1]; congr 1; omega, by rw [e2, get_del, if_neg hne]⟩
          · exact .inr e2
theorem newAll_get {h' : Heap} {m : Nat → Nat} : ∀ {l : List Nat} {h h2 : Heap}, newAll h' m l h = some h2 → (∀ i, h.next ≤ i → h.get i = none) → h2.next = h.next + l.length ∧ (∀ i, i < h.next → h2.get i = h.get i) ∧ (∀ i, h.next + l.length ≤ i → h2.get i = none) ∧
    ∀ (j k : Nat), l[j]? = some k → ∃ ci b, h'.get k = some ⟨ci, false, b⟩ ∧ h2.get (h.next + j) = some ⟨h.next + j, false, rnBlk m b⟩
  | [], h, h2, hs, hn => by
    simp only [newAll, Option.some.injEq] at hs
    subst hs
    exact ⟨rfl, fun _ _ => rfl, fun i hi => hn i (by simpa using hi), fun j k hj => by simp at hj⟩
  | k :: r, h, h2, hs, hn => by
    simp only [newAll] at hs
    split at hs <;> try (cases hs; done)
    rename_i ci b hg
    have hget : ∀ i, (h.new (rnBlk m b)).get i = if i = h.next then some ⟨h.next, false, rnBlk m b⟩ else h.get i := fun i => get_new (hn _ (Nat.le_refl _))
    have hnx : (h.new (rnBlk m b)).next = h.next + 1 := rfl
    obtain ⟨h1, h3, h5, h4⟩ := newAll_get hs fun i hi => by rw [hget, if_neg (by omega)]; exact hn i (by omega)
    refine ⟨by rw [h1, hnx]; simp; omega, fun i hi => ?_, fun i hi => h5 i (by rw [hnx]; simp at hi; omega), fun j q hj => ?_⟩
    · rw [h3 i (by omega), hget, if_neg (by omega)]
    · cases j with
      | zero =>
        simp only [List.getElem?_cons_zero, Option.some.injEq] at hj
        subst hj
        exact ⟨ci, b, hg, by rw [Nat.add_zero, h3 _ (by omega), hget, if_pos rfl]⟩
      | succ j =>
        obtain ⟨cj, bj, e1, e2⟩ := h4 j q (by simpa using hj)
        exact ⟨cj, bj, e1, by rw [hnx] at e2; rw [show h.next + (j + 1) = h.next + 1 + j by omega]; exact e2⟩
/-! ## Freezing in objects -/
structure Fro2 (ι : Inj) (h : Heap) (w : World) (ι' : Inj) (h' : Heap) : Prop where
  pl : ι'.pl = ι.pl
  le : ι.le ι'
  heap : HRel ι' h' w
  step : Step ι h w ι' h' w
  sub : ∀ i c, h'.get i = some c → ∃ c', h.get i = some c' ∧ c'.ro = c.ro
theorem Fro2.refl {ι : Inj} {h : Heap} {w : World} (R : HRel ι h w) : Fro2 ι h w ι h := ⟨rfl, .refl _, R, .refl _ _ _, fun _ c h => ⟨c, h, rfl⟩⟩
theorem Fro2.trans {ι1 ι2 ι3 : Inj} {h1 h2 h3 : Heap} {w : World} (a : Fro2 ι1 h1 w ι2 h2) (b : Fro2 ι2 h2 w ι3 h3) : Fro2 ι1 h1 w ι3 h3 :=
  ⟨b.pl.trans a.pl, a.le.trans b.le, b.heap, a.step.trans b.step, fun i c h => by obtain ⟨c', h1, e1⟩ := b.sub i c h; obtain ⟨c2, h2, e2⟩ := a.sub i c' h1; exact ⟨c2, h2, e2.trans e1⟩⟩
theorem Fro.fro2 {ι ι' : Inj} {h h' : Heap} {w : World} (F : Fro ι h w ι' h') : Fro2 ι h w ι' h' := ⟨F.pl, F.le, F.heap, F.step, fun i c h => ⟨c, F.sub i c h, rfl⟩⟩
theorem row_vs {ι : Inj} {w : World} {id : Nat} {c : Cell} (h : BlkR ι w id c) (hni : ∀ s pos, c.blk ≠ .iter s pos) : ∃ q vs, ι id = some q ∧ CR ι c.blk.cells vs ∧ c.blk.cells.length = q.size ∧ (q.lim = 0 → q.size = 0) ∧
    (q.lim ≠ 0 → ∃ (arr : Array Value) (el : TypeId) (fz : Nat × Nat), w.heap[q.blk]? = some (.cells arr el fz) ∧ arr.size = q.lim ∧ q.base + q.size ≤ q.lim ∧ (∀ i x, vs[i]? = some x → arr[q.base + i]? = some x) ∧ (c.ro = false → ∀ o, o < q.lim → ¬ (fz.1 ≤ o ∧ o < fz.2))) := by
  obtain ⟨q, hq, wf, hsz, h0, h3⟩ := h
  by_cases hl : q.lim = 0
  · refine ⟨q, [], hq, ⟨by rw [hsz, h0 hl]; rfl, fun i v hi => ?_⟩, hsz, h0, fun h => absurd hl h⟩
    have := (List.getElem?_eq_some_iff.1 hi).1
    rw [hsz, h0 hl] at this
    omega
  · obtain ⟨arr, el, fz, g1, g2, g3, g4, g5⟩ := (rowOf (h3 hl) hni).row
    refine ⟨q, (arr.toList.drop q.base).take q.size, hq, ⟨by simp; omega, fun i v hi => ?_⟩, hsz, h0, fun _ => ⟨arr, el, fz, g1, g2, g3, fun i x hi => ?_, g5⟩⟩
    · have hil := (List.getElem?_eq_some_iff.1 hi).1
      obtain ⟨y, hy, hsr⟩ := g4 i v hi
      exact ⟨y, by rw [List.getElem?_take, if_pos (by omega), List.getElem?_drop]; simpa using hy, hsr⟩
    · rw [List.getElem?_take] at hi
      split at hi
      · rw [List.getElem?_drop] at hi; simpa using hi
      · cases hi
theorem frzObjs_sound {w : World} : ∀ (l : List Nat) (ι : Inj) (h h' : Heap), HRel ι h w → frzObjs l h = some h' → ∃ ι', Fro2 ι h w ι' h'
  | [], ι, h, h', R, hk => by
    simp only [frzObjs, Option.some.injEq] at hk
    subst hk
    exact ⟨ι, .refl R⟩
  | k :: r, ι, h, h', R, hk => by
    simp only [frzObjs] at hk
    split at hk <;> try (cases hk; done)
    rename_i ci l hg
    cases hs : frzSegs h l with
    | none => rw [hs] at hk; cases hk
    | some p =>
      obtain ⟨l', h2⟩ := p
      rw [hs] at hk
      simp only [Option.bind_some] at hk
      split at hk <;> try (cases hk; done)
      rename_i ci2 b2 hg2
      have hb := R.blk k _ hg
      have wf : SegsWf l := by obtain ⟨_, _, wf, _⟩ := hb; exact wf
      obtain ⟨q, vs, hq, hc, hsz, h0, hrow⟩ := row_vs hb (by intros; simp)
      obtain ⟨ι2, F, w3, c3, n3⟩ := frzSegs_sound l ι h l' h2 vs R wf hc hs
      have hq2 : ι2 k = some q := by rw [F.pl]; exact hq
      have hb2 : BlkR ι2 w k { (⟨ci2, false, b2⟩ : Cell) with blk := .segs l' } := by
        refine ⟨q, hq2, w3, ?_, h0, fun hlim => ?_⟩
        · show (cellsL l').length = q.size
          rw [c3.1, ← hc.1, hsz]
        · obtain ⟨arr, el, fz, g1, g2, g3, g4, g5⟩ := hrow hlim
          refine .inl ⟨arr, el, fz, g1, g2, g3, fun i u hu => ?_, g5⟩
          obtain ⟨y, hy, hsr⟩ := c3.2 i u hu
          exact ⟨y, g4 i y hy, hsr⟩
      obtain ⟨R3, S3⟩ := F.heap.retell hg2 hb2
      have F3 : Fro2 ι2 h2 w ι2 (h2.set k (.segs l')) := ⟨rfl, .refl _, R3, S3, fun i c hc => by
        rw [get_set' hg2] at hc
        split at hc
        · rename_i e; subst e; cases hc; exact ⟨_, hg2, rfl⟩
        · exact ⟨c, hc, rfl⟩⟩
      obtain ⟨ι4, F4⟩ := frzObjs_sound r ι2 _ h' R3 hk
      exact ⟨ι4, (F.fro2.trans F3).trans F4⟩
end Go.Am
