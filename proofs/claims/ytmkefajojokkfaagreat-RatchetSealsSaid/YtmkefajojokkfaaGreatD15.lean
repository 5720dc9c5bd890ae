/- RatchetSeals: part 16 of 50 of its proof. -/
import Derived.Test.YtmkefajojokkfaaGreatD14
set_option linter.unusedVariables false
set_option linter.unusedSimpArgs false
namespace Go.Am
set_option linter.unusedSimpArgs false
def frz1 (h : Heap) (s : AV) : Option (AV × Heap) :=
  match s with
  | .slice id o j len e cap => if cap = some 0 ∧ len = 0 then some (.emp, h) else (frzV h (.slice id o j len e cap) .some).map fun p => (p.1, delO h p.2)
  | s => if noId s then some (s, h) else none
def frzSegs : Heap → List AV → Option (List AV × Heap)
  | h, [] => some ([], h)
  | h, s :: r => (frz1 h s).bind fun p => (frzSegs p.2 r).map fun q => (p.1 :: q.1, q.2)
def frzA (h : Heap) (v : AV) : Option (AV × Heap) :=
  match v with
  | .agg l => (frzSegs h l).map fun p => (.agg p.1, p.2)
  | v => frz1 h v
def frzAs : Heap → List AV → Option (List AV × Heap)
  | h, [] => some ([], h)
  | h, s :: r => (frzA h s).bind fun p => (frzAs p.2 r).map fun q => (p.1 :: q.1, q.2)
def frzD (h : Heap) (v : AV) : Option (AV × Heap) :=
  match v with
  | .tuple l => (frzAs h l).map fun p => (.tuple p.1, p.2)
  | .undef => some (.undef, h)
  | v => frzA h v
structure Fro (ι : Inj) (h : Heap) (w : World) (ι' : Inj) (h' : Heap) : Prop where
  pl : ι'.pl = ι.pl
  le : ι.le ι'
  heap : HRel ι' h' w
  step : Step ι h w ι' h' w
  sub : ∀ i c, h'.get i = some c → h.get i = some c
theorem Fro.refl {ι : Inj} {h : Heap} {w : World} (R : HRel ι h w) : Fro ι h w ι h := ⟨rfl, .refl _, R, .refl _ _ _, fun _ _ h => h⟩
theorem Fro.trans {ι1 ι2 ι3 : Inj} {h1 h2 h3 : Heap} {w : World} (a : Fro ι1 h1 w ι2 h2) (b : Fro ι2 h2 w ι3 h3) : Fro ι1 h1 w ι3 h3 :=
  ⟨b.pl.trans a.pl, a.le.trans b.le, b.heap, a.step.trans b.step, fun i c h => a.sub i c (b.sub i c h)⟩
theorem frz1_sound {ι : Inj} {h h' : Heap} {w : World} {s s' : AV} {x : Value} (R : HRel ι h w) (hx : SR ι s x) (hk : frz1 h s = some (s', h')) : ∃ ι', Fro ι h w ι' h' ∧ SR ι' s' x ∧ noId s' = true := by
  unfold frz1 at hk
  split at hk
  · rename_i id o j len e cap
    split at hk
    · rename_i hc
      obtain ⟨rfl, rfl⟩ := hc
      simp only [Option.some.injEq, Prod.mk.injEq] at hk
      obtain ⟨rfl, rfl⟩ := hk
      obtain ⟨p, a, c, hp, rfl, S⟩ := hx
      have := (S.exact 0 rfl).1
      subst this
      exact ⟨ι, .refl R, ⟨a, rfl⟩, rfl⟩
    · cases hf : frzV h (.slice id o j len e cap) .some with
      | none => rw [hf] at hk; cases hk
      | some p =>
        obtain ⟨v', d⟩ := p
        rw [hf] at hk
        simp only [Option.map_some, Option.some.injEq, Prod.mk.injEq] at hk
        obtain ⟨rfl, rfl⟩ := hk
        obtain ⟨ι', e1, e2, e3, e4, e5⟩ := frzV_sound R (VR.of_SR hx) hf
        have hn : noId v' = true ∧ scalar v' = true := by
          simp only [frzV] at hf
          split at hf <;> (try split at hf) <;> (try split at hf) <;> first | (cases hf; done) | (cases hf; exact ⟨rfl, rfl⟩)
        refine ⟨ι', ⟨e1, e2, e3, e4, fun i c hi => ?_⟩, VR.SR_of hn.2 e5, hn.1⟩
        cases d with
        | none => exact hi
        | some id => simp only [delO, get_del] at hi; split at hi; cases hi; exact hi
  · split at hk <;> try (cases hk; done)
    rename_i hn
    simp only [Option.some.injEq, Prod.mk.injEq] at hk
    obtain ⟨rfl, rfl⟩ := hk
    exact ⟨ι, .refl R, hx, hn⟩
theorem frz1_ints {h : Heap} {k : IntKind} {n : Nat} {xs : List Int} : frz1 h (.ints k n xs) = some (.ints k n xs, h) := rfl
theorem frzSegs_sound {w : World} : ∀ (l : List AV) (ι : Inj) (h : Heap) (l' : List AV) (h' : Heap) (vs : List Value), HRel ι h w → SegsWf l → CR ι (cellsL l) vs → frzSegs h l = some (l', h') →
    ∃ ι', Fro ι h w ι' h' ∧ SegsWf l' ∧ CR ι' (cellsL l') vs ∧ noIds l' = true
  | [], ι, h, l', h', vs, R, wf, hc, hk => by
    simp only [frzSegs, Option.some.injEq, Prod.mk.injEq] at hk
    obtain ⟨rfl, rfl⟩ := hk
    exact ⟨ι, .refl R, wf, hc, rfl⟩
  | s :: r, ι, h, l', h', vs, R, wf, hc, hk => by
    rw [segsWf_cons] at wf
    rw [cellsL_cons] at hc
    obtain ⟨xs, ys, rfl, c1, c2⟩ := CR_split hc
    simp only [frzSegs] at hk
    cases h1 : frz1 h s with
    | none => rw [h1] at hk; cases hk
    | some p =>
      obtain ⟨s', h2⟩ := p
      rw [h1] at hk
      simp only [Option.bind_some] at hk
      cases hr : frzSegs h2 r with
      | none => rw [hr] at hk; cases hk
      | some q =>
        obtain ⟨r', h3⟩ := q
        rw [hr] at hk
        simp only [Option.map_some, Option.some.injEq, Prod.mk.injEq] at hk
        obtain ⟨rfl, rfl⟩ := hk
        have key : ∃ ι2, Fro ι h w ι2 h2 ∧ SegWf s' ∧ CR ι2 (segC s') xs ∧ noId s' = true := by
          by_cases hi : ∃ k n ys, s = .ints k n ys
          · obtain ⟨k, n, ys, rfl⟩ := hi
            rw [frz1_ints] at h1
            simp only [Option.some.injEq, Prod.mk.injEq] at h1
            obtain ⟨rfl, rfl⟩ := h1
            exact ⟨ι, .refl R, wf.1, c1, rfl⟩
          · have hs : segC s = [s] := by cases s <;> first | rfl | exact absurd ⟨_, _, _, rfl⟩ hi
            rw [hs] at c1
            obtain ⟨x, us, rfl, hsr, c1'⟩ := CR_cons c1
            have hus : us = [] := List.eq_nil_of_length_eq_zero (by have := c1'.1; simpa using this.symm)
            subst hus
            obtain ⟨ι2, F, k1, k2⟩ := frz1_sound R hsr h1
            have hs' : segC s' = [s'] ∧ SegWf s' := by
              cases s' <;> first | exact ⟨rfl, trivial⟩ | (simp [noId] at k2; done) | exact k1.elim
            refine ⟨ι2, F, hs'.2, ?_, k2⟩
            rw [hs'.1]
            have := k1.CR
            rwa [k1.one.1] at this
        obtain ⟨ι2, F, w1, k1, n1⟩ := key
        obtain ⟨ι3, F3, w3, k3, n3⟩ := frzSegs_sound r ι2 h2 r' h3 ys F.heap wf.2 (c2.mono F.le) hr
        refine ⟨ι3, F.trans F3, segsWf_cons.2 ⟨w1, w3⟩, ?_, ?_⟩
        · rw [cellsL_cons]; exact CR_append (k1.mono F3.le) k3
        · simp only [noIds, List.all_cons, Bool.and_eq_true] at n3 ⊢; exact ⟨n1, n3⟩
theorem frzA_sound {ι : Inj} {h h' : Heap} {w : World} {v v' : AV} {x : Value} (R : HRel ι h w) (hx : VA ι v x) (hk : frzA h v = some (v', h')) : ∃ ι', Fro ι h w ι' h' ∧ VA ι' v' x ∧ avIds v' = [] := by
  have one : SR ι v x → frz1 h v = some (v', h') → ∃ ι', Fro ι h w ι' h' ∧ VA ι' v' x ∧ avIds v' = [] := fun hs h1 => by
    obtain ⟨ι', F, k1, k2⟩ := frz1_sound R hs h1
    exact ⟨ι', F, .of_SR k1, noId_ids k2⟩
  cases v with
  | agg l =>
    simp only [frzA] at hk
    obtain ⟨cs, rfl, wf, hc⟩ := hx
    cases hs : frzSegs h l with
    | none => rw [hs] at hk; cases hk
    | some p =>
      obtain ⟨l', h2⟩ := p
      rw [hs] at hk
      simp only [Option.map_some, Option.some.injEq, Prod.mk.injEq] at hk
      obtain ⟨rfl, rfl⟩ := hk
      obtain ⟨ι', F, w', c', n'⟩ := frzSegs_sound l ι h l' h2 _ R wf hc hs
      exact ⟨ι', F, ⟨cs, rfl, w', c'⟩, by simp only [avIds]; exact noIds_ids n'⟩
  | _ => exact one hx hk
theorem frzAs_sound {w : World} : ∀ (l : List AV) (ι : Inj) (h : Heap) (l' : List AV) (h' : Heap) (vs : List Value), HRel ι h w → VAL ι l vs → frzAs h l = some (l', h') →
    ∃ ι', Fro ι h w ι' h' ∧ VAL ι' l' vs ∧ avIds.avIdsL l' = []
  | [], ι, h, l', h', vs, R, hv, hk => by
    simp only [frzAs, Option.some.injEq, Prod.mk.injEq] at hk
    obtain ⟨rfl, rfl⟩ := hk
    exact ⟨ι, .refl R, hv, rfl⟩
  | s :: r, ι, h, l', h', vs, R, hv, hk => by
    simp only [frzAs] at hk
    cases h1 : frzA h s with
    | none => rw [h1] at hk; cases hk
    | some p =>
      obtain ⟨s', h2⟩ := p
      rw [h1] at hk
      simp only [Option.bind_some] at hk
      cases hr : frzAs h2 r with
      | none => rw [hr] at hk; cases hk
      | some q =>
        obtain ⟨r', h3⟩ := q
        rw [hr] at hk
        simp only [Option.map_some, Option.some.injEq, Prod.mk.injEq] at hk
        obtain ⟨rfl, rfl⟩ := hk
        obtain ⟨x, hx, hvx⟩ := hv.2 0 s rfl
        obtain ⟨ι2, F, k1, k2⟩ := frzA_sound R hvx h1
        cases vs with
        | nil => cases hx
        | cons y vs =>
          simp only [List.getElem?_cons_zero, Option.some.injEq] at hx
          subst hx
          have hvr : VAL ι r vs := ⟨by have := hv.1; simpa using this, fun i v hi => by have := hv.2 (i + 1) v (by simpa using hi); simpa using this⟩
          obtain ⟨ι3, F3, k3, k4⟩ := frzAs_sound r ι2 h2 r' h3 vs F.heap (hvr.mono F.le) hr
          refine ⟨ι3, F.trans F3, ⟨by simp [k3.1], fun i v hi => ?_⟩, by simp only [avIds.avIdsL, k2, k4, List.append_nil]⟩
          cases i with
          | zero => simp only [List.getElem?_cons_zero, Option.some.injEq] at hi; subst hi; exact ⟨_, rfl, k1.mono F3.le⟩
          | succ i => exact k3.2 i v (by simpa using hi)
theorem frzD_sound {ι : Inj} {h h' : Heap} {w : World} {v v' : AV} {x : Value} (R : HRel ι h w) (hx : VR ι v x) (hk : frzD h v = some (v', h')) : ∃ ι', Fro ι h w ι' h' ∧ VR ι' v' x ∧ avIds v' = [] := by
  have gen : VA ι v x → frzA h v = some (v', h') → ∃ ι', Fro ι h w ι' h' ∧ VR ι' v' x ∧ avIds v' = [] := fun hx hk => by
    obtain ⟨ι', F, k1, k2⟩ := frzA_sound R hx hk
    exact ⟨ι', F, .of_VA k1, k2⟩
  cases v with
  | tuple l =>
    simp only [frzD] at hk
    obtain ⟨xs, rfl, hv⟩ := hx
    cases hs : frzAs h l with
    | none => rw [hs] at hk; cases hk
    | some p =>
      obtain ⟨l', h2⟩ := p
      rw [hs] at hk
      simp only [Option.map_some, Option.some.injEq, Prod.mk.injEq] at hk
      obtain ⟨rfl, rfl⟩ := hk
      obtain ⟨ι', F, v', n'⟩ := frzAs_sound l ι h l' h2 _ R hv hs
      exact ⟨ι', F, ⟨xs, rfl, v'⟩, by simp only [avIds]; exact n'⟩
  | undef =>
    simp only [frzD, Option.some.injEq, Prod.mk.injEq] at hk
    obtain ⟨rfl, rfl⟩ := hk
    exact ⟨ι, .refl R, trivial, rfl⟩
  | func => simp [frzD, frzA, frz1, noId] at hk
  | _ => exact gen hx hk
def voidB (nid : Nat) : GK → Option (AV × Option Blk)
  | .ints k => some (.slice nid 0 0 0 0 none, some (.segs [.ints k 0 []]))
  | .rows e => if e = 0 then none else some (.slice nid 0 0 0 e none, some (.rows e 0 []))
  | .some => none
def outS (k : GK) (B nid : Nat) (v : AV) (h : Heap) : Option (AV × Option Blk) :=
  match v with
  | .slice id o j len e cap =>
    if cap = some 0 ∧ len = 0 then voidB nid k
    else if B ≤ id then (match h.get id with | some ⟨_, false, b⟩ => if (blkIds b).isEmpty then some (.slice nid o j len e cap, some b) else none | _ => none)
    else none
  | .nils => voidB nid k
  | .emp => voidB nid k
  | _ => none
def outP (rk : Option GK) (B nid : Nat) (v : AV) (h : Heap) : Option (AV × Option Blk) :=
  match rk with
  | some k => outS k B nid v h
  | none => match v with
    | .ptr id 0 0 0 0 => if B ≤ id then (match h.get id with
      | some ⟨_, false, .segs l⟩ => (frzSegs h l).bind fun p => (match p.2.get id with | some ⟨_, false, _⟩ => some (.ptr nid 0 0 0 0, some (.segs p.1)) | _ => none)
      | _ => none) else none
    | v => (frzD h v).map fun p => (p.1, none)
def litP (as : List AK) (rk : Option GK) (B : Nat) (o : List AV → Heap → (AV → Heap → Option Res) → Option Res) (nid : Nat) (args : List AV) (h : Heap) : Option (AV × Option Blk) :=
  (viewArgs h args as 0).bind fun p => if p.2.length ≤ B then (o p.1 ⟨B, p.2⟩ kH).bind fun r => outP rk B nid r.1 r.2 else none
theorem outP_sound {ι ι' : Inj} {w w' : World} {h' : Heap} {rk : Option GK} {B nid : Nat} {v0 v : AV} {ob : Option Blk} {x : Value} (hn : ι nid = none) (os : w'.os = w.os) (tape : w'.tape = w.tape) (output : w'.output = w.output) (size : w.heap.size ≤ w'.heap.size)
    (hfrm : ∀ k, k < w.heap.size → w'.heap[k]? = w.heap[k]?) (e1 : VR ι' v0 x) (e2 : HRel ι' h' w') (hz : ∀ k f, ι.fz k = some f → ι'.fz k = some f) (hown : ∀ k, Own ι' h' k → w.heap.size ≤ k) (hfz : ∀ k f, ι'.fz k = some f → ι.fz k = some f ∨ w.heap.size ≤ k)
    (hk : outP rk B nid v0 h' = some (v, ob)) : RC ι w w' nid v ob x := by
  have hfz2 : ∀ {ι'' h''}, Fro ι' h' w' ι'' h'' → ∀ k f, ι''.fz k = some f → ι.fz k = some f ∨ (w.heap.size ≤ k ∧ FzR (ι.frz ι''.fz) w' k f) := by
    intro ι'' h'' F k f hk
    have h2 : FzR (ι.frz ι''.fz) w' k f := (F.heap.fz k f hk).1.ids fun k f (h : ι''.fz k = some f) => h
    rcases F.step.fzo k f hk with h1 | h1 | h1
    · exact (hfz k f h1).imp id fun h => ⟨h, h2⟩
    · exact .inr ⟨hown k h1, h2⟩
    · exact .inr ⟨by omega, h2⟩
  have hfz1 := hfz2 (.refl e2)
  have void : ∀ {a : Option Addr} {k : GK}, x = .slice a 0 0 → voidB nid k = some (v, ob) → RC ι w w' nid v ob x := by
    intro a k hx hv
    subst hx
    have mk : ∀ {e : Nat} {b : Blk}, b.Wf → b.cells.length = 0 → RC ι w w' nid (.slice nid 0 0 0 e none) (some b) (.slice a 0 0) := fun wf hc =>
      ⟨os, tape, output, size, hfrm, ι'.fz, hz, hfz1, ⟨0,0,0,0⟩, fun h => absurd rfl h, ⟨_, Inj.upd_same _ _ _, wf, hc, fun _ => rfl, fun h => absurd rfl h⟩, ⟨_, a, 0, Inj.upd_same _ _ _, rfl, ⟨Nat.le_refl _, .inl rfl, (fun m h => by cases h), by simp, .inl rfl⟩⟩⟩
    cases k with
    | some => cases hv
    | ints k => cases hv; exact mk (by intro s hs; simp at hs; subst hs; simp [SegWf]) (by simp [Blk.cells, cellsL, segC])
    | rows e =>
      simp only [voidB] at hv
      split at hv <;> try (cases hv; done)
      cases hv
      exact mk (by simp [Blk.Wf]) (by simp [Blk.cells])
  unfold outP at hk
  split at hk
  · rename_i k
    unfold outS at hk
    split at hk
    · rename_i id o j len e cap
      obtain ⟨p, a, c, hp, hxe, S⟩ := e1.slice
      split at hk
      · rename_i hc
        obtain ⟨rfl, rfl⟩ := hc
        have := (S.exact 0 rfl).1
        subst this
        exact void hxe hk
      · split at hk <;> try (cases hk; done)
        split at hk <;> try (cases hk; done)
        rename_i ci b hg
        split at hk <;> try (cases hk; done)
        rename_i hbi
        simp only [Option.some.injEq, Prod.mk.injEq] at hk
        obtain ⟨rfl, rfl⟩ := hk
        obtain ⟨q, hq, wf, hs, h0, h3⟩ := e2.blk id _ hg
        rw [hp] at hq; cases hq
        refine ⟨os, tape, output, size, hfrm, ι'.fz, hz, hfz1, p, fun hlim => ⟨hown _ ⟨id, _, p, hg, rfl, hp, hlim, rfl⟩, ?_⟩, ⟨p, Inj.upd_same _ _ _, wf, hs, h0, fun hlim => ?_⟩, ⟨p, a, c, Inj.upd_same _ _ _, hxe, S⟩⟩
        · cases hk : ι'.fz p.blk with
          | none => rfl
          | some f => exact absurd rfl ((e2.fz _ f hk).2 id _ p hg rfl hp hlim)
        · rcases h3 hlim with h3 | h3
          rotate_left
          · exact .inr h3
          obtain ⟨arr, el, fz, g1, g2, g3, g4, g5⟩ := h3.row
          refine .inl ⟨arr, el, fz, g1, g2, g3, fun i u hu => ?_, g5⟩
          obtain ⟨y, hy, hsr⟩ := g4 i u hu
          refine ⟨y, hy, hsr.ids (fun k f (h : ι'.fz k = some f) => h) fun i hi => ?_⟩
          have := mem_blkIds wf (List.mem_of_getElem? hu) i hi
          have he : blkIds b = [] := by simpa using hbi
          rw [he] at this; cases this
    · exact void e1.nils hk
    · obtain ⟨a, ha⟩ := e1.emp; exact void ha hk
    · cases hk
  · split at hk
    · rename_i id
      split at hk <;> try (cases hk; done)
      split at hk <;> try (cases hk; done)
      rename_i ci l hg
      cases hs : frzSegs h' l with
      | none => rw [hs] at hk; cases hk
      | some p =>
        obtain ⟨l', h2⟩ := p
        rw [hs] at hk
        simp only [Option.bind_some] at hk
        split at hk <;> try (cases hk; done)
        rename_i ci2 b2 hg2
        simp only [Option.some.injEq, Prod.mk.injEq] at hk
        obtain ⟨rfl, rfl⟩ := hk
        obtain ⟨q, hq, hxe⟩ := e1.ptr
        obtain ⟨q', hq', wf, hsz, h0, h3⟩ := e2.blk id _ hg
        rw [hq] at hq'; cases hq'
        have hvs : ∃ vs, CR ι' (cellsL l) vs ∧ (q.lim ≠ 0 → ∃ (arr : Array Value) (el : TypeId) (fz : Nat × Nat), w'.heap[q.blk]? = some (.cells arr el fz) ∧ arr.size = q.lim ∧ q.base + q.size ≤ q.lim ∧ (∀ i x, vs[i]? = some x → arr[q.base + i]? = some x) ∧ ∀ o, o < q.lim → ¬ (fz.1 ≤ o ∧ o < fz.2)) := by
          by_cases hl : q.lim = 0
          · refine ⟨[], ⟨by have := h0 hl; have h5 : (cellsL l).length = q.size := hsz; simp only [List.length_nil]; omega, fun i v hi => ?_⟩, fun h => absurd hl h⟩
            have h5 : (cellsL l).length = q.size := hsz
            have := (List.getElem?_eq_some_iff.1 hi).1
            have := h0 hl
            omega
          · obtain ⟨arr, el, fz, g1, g2, g3, g4, g5⟩ := (rowOf (h3 hl) (by intros; simp)).row
            have h5 : (cellsL l).length = q.size := hsz
            refine ⟨(arr.toList.drop q.base).take q.size, ⟨by simp; omega, fun i v hi => ?_⟩, fun _ => ⟨arr, el, fz, g1, g2, g3, fun i x hi => ?_, g5 rfl⟩⟩
            · have hil := (List.getElem?_eq_some_iff.1 hi).1
              obtain ⟨y, hy, hsr⟩ := g4 i v hi
              exact ⟨y, by rw [List.getElem?_take, if_pos (by omega), List.getElem?_drop]; simpa using hy, hsr⟩
            · rw [List.getElem?_take] at hi
              split at hi
              · rw [List.getElem?_drop] at hi; simpa using hi
              · cases hi
        obtain ⟨vs, hc, hrow⟩ := hvs
        obtain ⟨ι'', F, w3, c3, n3⟩ := frzSegs_sound l ι' h' l' h2 vs e2 wf hc hs
        have hq2 : ι'' id = some q := by rw [F.pl]; exact hq
        refine ⟨os, tape, output, size, hfrm, ι''.fz, fun k f h => F.le.fz k f (hz k f h), hfz2 F, q, fun hlim => ⟨hown _ ⟨id, _, q, hg, rfl, hq, hlim, rfl⟩, ?_⟩, ⟨q, Inj.upd_same _ _ _, w3, ?_, h0, fun hlim => ?_⟩, ⟨q, Inj.upd_same _ _ _, hxe⟩⟩
        · cases hk : ι''.fz q.blk with
          | none => rfl
          | some f => exact absurd rfl ((F.heap.fz _ f hk).2 id _ q hg2 rfl hq2 hlim)
        · have h5 : (cellsL l).length = q.size := hsz
          show (cellsL l').length = q.size
          rw [c3.1, ← hc.1, h5]
        · obtain ⟨arr, el, fz, g1, g2, g3, g4, g5⟩ := hrow hlim
          refine .inl ⟨arr, el, fz, g1, g2, g3, fun i u hu => ?_, fun _ => g5⟩
          obtain ⟨y, hy, hsr⟩ := c3.2 i u hu
          refine ⟨y, g4 i y hy, hsr.ids (fun k f (h : ι''.fz k = some f) => h) fun i hi => ?_⟩
          have := mem_cells_ids (List.mem_of_getElem? hu) i hi
          rw [noIds_ids n3] at this; cases this
    · cases hd : frzD h' v0 with
      | none => rw [hd] at hk; cases hk
      | some p =>
        obtain ⟨v', h2⟩ := p
        rw [hd] at hk
        simp only [Option.map_some, Option.some.injEq, Prod.mk.injEq] at hk
        obtain ⟨rfl, rfl⟩ := hk
        obtain ⟨ι'', F, k1, k2⟩ := frzD_sound e2 e1 hd
        exact ⟨os, tape, output, size, hfrm, ι''.fz, fun k f h => F.le.fz k f (hz k f h), hfz2 F, k1.ids (fun k f (h : ι''.fz k = some f) => h) fun id hid => by rw [k2] at hid; cases hid⟩
theorem litP_ok {P : Program} {f : FuncId} {as : List AK} {rk : Option GK} {B : Nat} {o : List AV → Heap → (AV → Heap → Option Res) → Option Res} (ho : FnOk P f B o) : PureOk P f (litP as rk B o) := by
  intro nid args h v ob ι w vs hk R hn ha
  unfold litP at hk
  cases hv : viewArgs h args as 0 with
  | none => rw [hv] at hk; cases hk
  | some p =>
    obtain ⟨args', bl⟩ := p
    rw [hv] at hk
    simp only [Option.bind_some] at hk
    split at hk <;> try (cases hk; done)
    rename_i hlen
    cases hr : o args' ⟨B, bl⟩ kH with
    | none => rw [hr] at hk; cases hk
    | some r =>
      obtain ⟨v0, h'⟩ := r
      rw [hr] at hk
      simp only [Option.bind_some] at hk
      let ι1 : Inj := { ι with pl := fun _ => none }
      obtain ⟨ι0, G, ha'⟩ := viewArgs_sound R args as 0 args' bl vs.toList ι1 hv ha (fun _ _ h => h) (fun _ _ => rfl)
      have hz0 : ι0.fz = ι.fz := G.fz
      have hro : ∀ i c, (Heap.mk B bl).get i = some c → c.ro = true := fun i c hg => (G.blk i c hg).2.2.1
      have R0 : HRel ι0 ⟨B, bl⟩ w := by
        refine ⟨fun i c hg => (G.blk i c hg).2.2.2.1, fun k f hk => ⟨(R.fz k f (by rw [← hz0]; exact hk)).1.ids fun k f h => by rw [hz0]; exact h, fun i c p hg hr => ?_⟩, fun i1 c1 p1 i2 c2 p2 g1 g2 hne hr => ?_⟩
        · rw [hro i c hg] at hr; cases hr
        · rw [hro i1 c1 g1] at hr; cases hr
      have hfr : Fresh ι0 B := fun k hk => by rw [G.same k (.inr (by simp; omega))]
      have hnoown : ∀ k, ¬ Own ι0 ⟨B, bl⟩ k := by
        rintro k ⟨id, c, p, hg, hr, _⟩
        rw [hro id c hg] at hr; cases hr
      refine (ho.sound _ _ v0 h' ι0 w vs hr R0 hfr rfl ha').mono fun x w' E => ?_
      obtain ⟨ι', e1, e2, e3, e4⟩ := E
      refine outP_sound hn e3.os e3.tape e3.output e3.size (fun k hk => e3.frame k hk (hnoown k)) e1 e2 (fun k f h => e3.fz k f (by rw [hz0]; exact h)) (fun k hk => (e3.own k hk).resolve_left (hnoown k)) (fun k f hk => ?_) hk
      rcases e3.fzo k f hk with h1 | h1 | h1
      · exact .inl (by rw [← hz0]; exact h1)
      · exact absurd h1 (hnoown k)
      · exact .inr h1
def encB (nid : Nat) : Option Blk → Heap
  | none => ⟨0, []⟩
  | some b => ⟨0, [⟨nid, false, b⟩]⟩
def kOut (rk : Option GK) (nid : Nat) : AV → Heap → Option Res := fun v h => (outP rk 16 nid v h).map fun r => (r.1, encB nid r.2)
theorem encB_inj {nid : Nat} {a b : Option Blk} (h : encB nid a = encB nid b) : a = b := by
  cases a <;> cases b <;> simp [encB] at h ⊢
  exact h
structure HOk (h : Heap) (args : List AV) : Prop where
  ok : ArgsOk args
  ints : ∀ v ∈ args, ∀ k xs, contI k h v = some xs → ∀ y ∈ xs, rng k y
  rows : ∀ v ∈ args, ∀ e xs, contR e h v = some xs → ∀ r ∈ xs, RowWf e r ∧ ArgsOk r
theorem viewS_rng {ι : Inj} {h : Heap} {w : World} {v : AV} {x : Value} {k : IntKind} {xs : List Int} (R : HRel ι h w) (hx : VR ι v x) (hk : contI k h v = some xs) : ∀ y ∈ xs, rng k y := by
  intro y hy
  unfold contI at hk
  split at hk
  · cases hk; cases hy
  · cases hk; cases hy
  · split at hk <;> try (cases hk; done)
    rename_i e; subst e; cases hk
    obtain ⟨a, c, _, hr, _⟩ := hx.isl
    exact hr y hy
  · split at hk <;> try (cases hk; done)
    rename_i hs
    split at hk <;> try (cases hk; done)
    rename_i e; subst e; cases hk
    obtain ⟨_, _, _, _, _, _, _, _, _, hr⟩ := slCont_ints R hx hs
    exact hr y hy
  · cases hk
theorem frzCells_ok {ι : Inj} {h : Heap} {w : World} (R : HRel ι h w) {k : Nat} {f : Frz} (hf : ι.fz k = some f) {o : Nat} {v : AV} (ho : f.cell o = some v) : AOk v := by
  obtain ⟨⟨arr, el, z, _, _, g⟩, _⟩ := R.fz k f hf
  obtain ⟨_, _, x, _, hs⟩ := g o v ho
  exact hs.ok
theorem AOk_cells {l : List AV} (wf : SegsWf l) (h : ∀ v ∈ cellsL l, AOk v) : ArgsOk l := by
  rw [AOkL_iff]
  intro s hs
  cases s with
  | ints k n xs =>
    refine ⟨wf _ hs, fun x hx => ?_⟩
    exact h (.int k x) (by simp only [cellsL, List.mem_flatMap]; exact ⟨_, hs, by simp only [segC, List.mem_map]; exact ⟨x, hx, rfl⟩⟩)
  | _ => first | exact (wf _ hs).elim | exact h _ (by simp only [cellsL, List.mem_flatMap]; exact ⟨_, hs, by simp [segC]⟩)
theorem viewR_ok {ι : Inj} {h : Heap} {w : World} {v : AV} {x : Value} {e : Nat} {xs : List (List AV)} (R : HRel ι h w) (hx : VR ι v x) (hk : contR e h v = some xs) : ∀ r ∈ xs, RowWf e r ∧ ArgsOk r := by
  have fin : (∀ r ∈ xs, RowWf e r) → (∀ c ∈ xs.flatMap cellsL, AOk c) → ∀ r ∈ xs, RowWf e r ∧ ArgsOk r := fun h1 h2 r hr =>
    ⟨h1 r hr, AOk_cells (h1 r hr).1 fun c hc => h2 c (by simp only [List.mem_flatMap]; exact ⟨r, hr, hc⟩)⟩
  unfold contR at hk
  split at hk
  · cases hk; intro r hr; cases hr
  · cases hk; intro r hr; cases hr
  · split at hk <;> try (cases hk; done)
    rename_i e' xs' he; subst he; cases hk
    obtain ⟨a, c, _, _, hr, F⟩ := hx.islR
    refine fin hr fun cc hcc => ?_
    obtain ⟨i, hi⟩ := List.mem_iff_getElem?.1 hcc
    by_cases hc : c = 0
    · have hl : xs = [] := List.eq_nil_of_length_eq_zero (by have := F.1; omega)
      subst hl; simp at hcc
    · obtain ⟨b, off, f, _, hf, _, hcell⟩ := F.2.resolve_left hc
      exact frzCells_ok R hf (hcell i cc hi)
  · rename_i id o j len e0 cap
    split at hk <;> try (cases hk; done)
    rename_i e' ys hs
    split at hk <;> try (cases hk; done)
    rename_i he; subst he; cases hk
    obtain ⟨cc, hg⟩ : ∃ cc, h.get id = some cc := by
      cases hg : h.get id with
      | none => simp [slCont, hg] at hs
      | some c => exact ⟨c, rfl⟩
    obtain ⟨rfl, he1, hlen, hr, habs⟩ := slCont_absR R hx hg hs
    obtain ⟨p, a, c, hp, _, S⟩ := hx.slice
    refine fin hr fun u hu => ?_
    obtain ⟨i, hi⟩ := List.mem_iff_getElem?.1 hu
    have hil : i < len * e' := by
      have := (List.getElem?_eq_some_iff.1 hi).1
      rw [rows_len (fun y hy => (hr y hy).2.1), hlen] at this
      exact this
    rw [habs i hil] at hi
    obtain ⟨y, _, hsr⟩ := R.cell hg hp hi (slCont_ni hg hs)
    exact hsr.ok
  · cases hk
theorem HOk.of {h : Heap} {w : World} {ι : Inj} {args : List AV} {vs : List Value} (R : HRel ι h w) (ha : VRL ι args vs) : HOk h args where
  ok := ha.ok
  ints := fun v hv k xs hk => by
    obtain ⟨i, hi⟩ := List.mem_iff_getElem?.1 hv
    obtain ⟨x, _, hr⟩ := ha.2 i v hi
    exact viewS_rng R hr hk
  rows := fun v hv e xs hk => by
    obtain ⟨i, hi⟩ := List.mem_iff_getElem?.1 hv
    obtain ⟨x, _, hr⟩ := ha.2 i v hi
    exact viewR_ok R hr hk
theorem contI_isSl {k : IntKind} {h : Heap} {v : AV} {xs : List Int} (hk : contI k h v = some xs) : isSl v = true := by
  unfold contI at hk
  split at hk <;> first | rfl | cases hk
theorem contR_isSl {e : Nat} {h : Heap} {v : AV} {xs : List (List AV)} (hk : contR e h v = some xs) : isSl v = true := by
  unfold contR at hk
  split at hk <;> first | rfl | cases hk
theorem viewS_ints {k : IntKind} {h : Heap} {v : AV} {xs : List Int} (hk : contI k h v = some xs) : viewS h (.ints k) v = some (xs.length, 0, .segs [.ints k xs.length xs]) := by simp only [viewS, hk, Option.map_some]
theorem viewS_rows {e : Nat} {h : Heap} {v : AV} {xs : List (List AV)} (he : e ≠ 0) (hk : contR e h v = some xs) : viewS h (.rows e) v = some (xs.length, e, .rows e xs.length xs) := by simp only [viewS, hk, Option.map_some, if_neg he]
theorem Fn.lit {P : Program} {f : FuncId} {Γ : Env} {af : AFn} (F : Fn P f Γ af) (as : List AK) (rk : Option GK) {o' : Nat → List AV → Heap → Option (AV × Option Blk)}
    (h : ∀ nid args hp r, HOk hp args → o' nid args hp = some r → ∃ args' bl, viewArgs hp args as 0 = some (args', bl) ∧ bl.length ≤ 16 ∧ evFn Γ af args' ⟨16, bl⟩ (kOut rk nid) = some (r.1, encB nid r.2)) : PureOk P f o' := by
  intro nid args hp v ob ι w vs hk R hn ha
  obtain ⟨args', bl, h1, h2, h3⟩ := h nid args hp _ (.of R ha) hk
  refine litP_ok (as := as) (rk := rk) F.ok nid args hp v ob ι w vs ?_ R hn ha
  unfold litP
  rw [h1]
  simp only [Option.bind_some, h2, if_true]
  have h4 := F.factor args' ⟨16, bl⟩ (kOut rk nid)
  simp only at h4
  rw [h4] at h3
  cases hr : evFn Γ af args' ⟨16, bl⟩ kH with
  | none => rw [hr] at h3; cases h3
  | some q =>
    rw [hr] at h3
    simp only [Option.bind_some, kOut] at h3 ⊢
    cases hq : outP rk 16 nid q.1 q.2 with
    | none => rw [hq] at h3; cases h3
    | some z =>
      rw [hq] at h3
      simp only [Option.map_some, Option.some.injEq, Prod.mk.injEq] at h3
      obtain ⟨e1, e2⟩ := h3
      have := encB_inj e2
      obtain ⟨z1, z2⟩ := z
      simp only at e1 this ⊢
      rw [e1, this]
inductive OK where
  | obj
  | arg (a : AK)
def rootsOf : List AV → List OK → List Nat
  | v :: r, .obj :: ks => avIds v ++ rootsOf r ks
  | _ :: r, _ :: ks => rootsOf r ks
  | _, _ => []
def objBlks (h : Heap) (m : Nat → Nat) : List Nat → Nat → Option (List Cell)
  | [], _ => some []
  | id :: r, k => match h.get id with
    | some ⟨_, false, b⟩ => (objBlks h m r (k + 1)).map fun l => ⟨k, false, rnBlk m b⟩ :: l
    | _ => none
def viewObjs (h : Heap) (ids : List Nat) : List AV → List OK → Nat → Option (List AV × List Cell)
  | [], [], _ => some ([], [])
  | v :: r, .obj :: ks, n => if (avIds v).all ids.contains then (viewObjs h ids r ks n).map fun p => (rnAV (posN ids) v :: p.1, p.2) else none
  | v :: r, .arg a :: ks, n =>
    if (avIds v).any ids.contains then (if (avIds v).all ids.contains then (viewObjs h ids r ks n).map fun p => (rnAV (posN ids) v :: p.1, p.2) else none)
    else (viewArgs h [v] [a] n).bind fun p => (viewObjs h ids r ks (n + p.2.length)).map fun q => (p.1 ++ q.1, p.2 ++ q.2)
  | _, _, _ => none
def frzObjs : List Nat → Heap → Option Heap
  | [], h => some h
  | k :: r, h => match h.get k with
    | some ⟨_, false, .segs l⟩ => (frzSegs h l).bind fun p => (match p.2.get k with | some ⟨_, false, _⟩ => frzObjs r (p.2.set k (.segs p.1)) | _ => none)
    | _ => none
def setAll (h' : Heap) (m : Nat → Nat) : List Nat → Nat → Heap → Option Heap
  | [], _, h => some h
  | id :: r, k, h => match h'.get k with
    | some ⟨_, false, b⟩ => setAll h' m r (k + 1) (h.set id (rnBlk m b))
    | none => setAll h' m r (k + 1) (h.del id)
    | _ => none
def newAll (h' : Heap) (m : Nat → Nat) : List Nat → Heap → Option Heap
  | [], h => some h
  | k :: r, h => match h'.get k with
    | some ⟨_, false, b⟩ => newAll h' m r (h.new (rnBlk m b))
    | _ => none
def okIds (m B : Nat) (news : List Nat) (l : List Nat) : Bool := l.all fun i => decide (i < m) || (decide (B ≤ i) && news.contains i)
def outG (fv : Bool) (fo : List Nat) (ids : List Nat) (B : Nat) (v : AV) (h' h : Heap) : Option (AV × Heap) :=
  (if fv then frzD h' v else some (v, h')).bind fun p => (frzObjs fo p.2).bind fun h1 =>
    let m := ids.length
    let cont := (List.range m).flatMap fun k => match h1.get k with | some c => blkIds c.blk | none => []
    let news := (reachN h1 64 ((avIds p.1 ++ cont).filter fun i => decide (B ≤ i)) []).filter fun i => decide (B ≤ i)
    let back := fun k => if k < m then ids.getD k 0 else h.next + posN news k
    if okIds m B news (avIds p.1) && okIds m B news cont && (news.all fun k => match h1.get k with | some c => okIds m B news (blkIds c.blk) | none => false) then
      (setAll h1 back ids 0 h).bind fun h2 => (newAll h1 back news h2).map fun h3 => (rnAV back p.1, h3)
    else none
def litG (ks : List OK) (fv : Bool) (fo : List Nat) (B : Nat) (o : List AV → Heap → (AV → Heap → Option Res) → Option Res) (args : List AV) (h : Heap) : Option (AV × Heap) :=
  let ids := reachN h 64 (rootsOf args ks) []
  (objBlks h (posN ids) ids 0).bind fun ob => (viewObjs h ids args ks ids.length).bind fun p =>
    if (ids.all fun id => match h.get id with | some c => (blkIds c.blk).all ids.contains | none => false) && decide (ids.length + p.2.length ≤ B) then
      (o p.1 ⟨B, ob ++ p.2⟩ kH).bind fun r => outG fv fo ids B r.1 r.2 h
    else none
theorem objBlks_get {h : Heap} {m : Nat → Nat} : ∀ {l : List Nat} {k : Nat} {bl : List Cell}, objBlks h m l k = some bl → bl.length = l.length ∧ ∀ i, findB i bl = if k ≤ i then (l[i - k]?).bind fun id => (h.get id).map fun c => ⟨i, false, rnBlk m c.blk⟩ else none
  | [], k, bl, hb => by
    simp only [objBlks, Option.some.injEq] at hb
    subst hb
    exact ⟨rfl, fun i => by simp [findB]⟩
  | id :: r, k, bl, hb => by
    simp only [objBlks] at hb
    split at hb <;> try (cases hb; done)
    rename_i ci b hg
    cases hr : objBlks h m r (k + 1) with
    | none => rw [hr] at hb; cases hb
    | some bl' =>
      rw [hr] at hb
      simp only [Option.map_some, Option.some.injEq] at hb
      subst hb
      obtain ⟨h1, h2⟩ := objBlks_get hr
      refine ⟨by simp [h1], fun i => ?_⟩
      simp only [findB]
      split
      · rename_i e; subst e; simp [hg]
      · rename_i e
        rw [h2]
        by_cases hlt : k ≤ i
        · rw [if_pos (by omega), if_pos hlt, show i - k = (i - (k + 1)) + 1 by omega, List.getElem?_cons_succ]
        · rw [if_neg (by omega), if_neg hlt]
theorem objBlks_rw {h : Heap} {m : Nat → Nat} : ∀ {l : List Nat} {k : Nat} {bl : List Cell}, objBlks h m l k = some bl → ∀ id ∈ l, ∃ c, h.get id = some c ∧ c.ro = false
  | id :: r, k, bl, hb, i, hi => by
    simp only [objBlks] at hb
    split at hb <;> try (cases hb; done)
    rename_i ci b hg
    cases hr : objBlks h m r (k + 1) with
    | none => rw [hr] at hb; cases hb
    | some bl' =>
      rcases List.mem_cons.1 hi with rfl | hi
      · exact ⟨_, hg, rfl⟩
      · exact objBlks_rw hr i hi
theorem setAll_get {h' : Heap} {m : Nat → Nat} : ∀ {l : List Nat} {k : Nat} {h h2 : Heap}, setAll h' m l k h = some h2 → l.Nodup → h2.next = h.next ∧ (∀ i, i ∉ l → h2.get i = h.get i) ∧
    ∀ i (j : Nat), l[j]? = some i → (∃ ci b, h'.get (k + j) = some ⟨ci, false, b⟩ ∧ h2.get i = (h.get i).map fun c => { c with blk := rnBlk m b }) ∨ h2.get i = none
  | [], k, h, h2, hs, _ => by
    simp only [setAll, Option.some.injEq] at hs
    subst hs
    exact ⟨rfl, fun _ _ => rfl, fun i j hj => by simp at hj⟩
  | id :: r, k, h, h2, hs, hn => by
    simp only [setAll] at hs
    split at hs <;> try (cases hs; done)
    · rename_i ci b hg
      rw [List.nodup_cons] at hn
      obtain ⟨h1, h3, h4⟩ := setAll_get hs hn.2
      refine ⟨h1, fun i hi => ?_, fun i j hj => ?_⟩
      · simp only [List.mem_cons, not_or] at hi
        rw [h3 i hi.2, get_set, if_neg hi.1]
      · cases j with
        | zero =>
          simp only [List.getElem?_cons_zero, Option.some.injEq] at hj
          subst hj
          exact .inl ⟨ci, b, hg, by rw [h3 _ hn.1, get_set, if_pos rfl]⟩
        | succ j =>
          simp only [List.getElem?_cons_succ] at hj
          have hne : i ≠ id := by rintro rfl; exact hn.1 (List.mem_of_getElem? hj)
          rcases h4 i j hj with ⟨cj, bj, e1, e2⟩ | e2
          · exact .inl ⟨cj, bj, by rw [← e1]; congr 1; omega, by rw [e2, get_set, if_neg hne]⟩
          · exact .inr e2
    · rw [List.nodup_cons] at hn
      obtain ⟨h1, h3, h4⟩ := setAll_get hs hn.2
      refine ⟨h1, fun i hi => ?_, fun i j hj => ?_⟩
      · simp only [List.mem_cons, not_or] at hi
        rw [h3 i hi.2, get_del, if_neg hi.1]
      · cases j with
        | zero =>
          simp only [List.getElem?_cons_zero, Option.some.injEq] at hj
          subst hj
          exact .inr (by rw [h3 _ hn.1, get_del, if_pos rfl])
        | succ j =>
          simp only [List.getElem?_cons_succ] at hj
          have hne : i ≠ id := by rintro rfl; exact hn.1 (List.mem_of_getElem? hj)
          rcases h4 i j hj with ⟨cj, bj, e1, e2⟩ | e2
          · exact .inl ⟨cj, bj, by rw [← e1]; congr 1; omega, by rw [e2, get_del, if_neg hne]⟩
          · exact .inr e2
theorem newAll_get {h' : Heap} {m : Nat → Nat} : ∀ {l : List Nat} {h h2 : Heap}, newAll h' m l h = some h2 → (∀ i, h.next ≤ i → h.get i = none) → h2.next = h.next + l.length ∧ (∀ i, i < h.next → h2.get i = h.get i) ∧ (∀ i, h.next + l.length ≤ i → h2.get i = none) ∧
    ∀ (j k : Nat), l[j]? = some k → ∃ ci b, h'.get k = some ⟨ci, false, b⟩ ∧ h2.get (h.next + j) = some ⟨h.next + j, false, rnBlk m b⟩
  | [], h, h2, hs, hn => by
    simp only [newAll, Option.some.injEq] at hs
    subst hs
    exact ⟨rfl, fun _ _ => rfl, fun i hi => hn i (by simpa using hi), fun j k hj => by simp at hj⟩
  | k :: r, h, h2, hs, hn => by
    simp only [newAll] at hs
    split at hs <;> try (cases hs; done)
    rename_i ci b hg
    have hget : ∀ i, (h.new (rnBlk m b)).get i = if i = h.next then some ⟨h.next, false, rnBlk m b⟩ else h.get i := fun i => get_new (hn _ (Nat.le_refl _))
    have hnx : (h.new (rnBlk m b)).next = h.next + 1 := rfl
    obtain ⟨h1, h3, h5, h4⟩ := newAll_get hs fun i hi => by rw [hget, if_neg (by omega)]; exact hn i (by omega)
    refine ⟨by rw [h1, hnx]; simp; omega, fun i hi => ?_, fun i hi => h5 i (by rw [hnx]; simp at hi; omega), fun j q hj => ?_⟩
    · rw [h3 i (by omega), hget, if_neg (by omega)]
    · cases j with
      | zero =>
        simp only [List.getElem?_cons_zero, Option.some.injEq] at hj
        subst hj
        exact ⟨ci, b, hg, by rw [Nat.add_zero, h3 _ (by omega), hget, if_pos rfl]⟩
      | succ j =>
        obtain ⟨cj, bj, e1, e2⟩ := h4 j q (by simpa using hj)
        exact ⟨cj, bj, e1, by rw [hnx] at e2; rw [show h.next + (j + 1) = h.next + 1 + j by omega]; exact e2⟩
structure Fro2 (ι : Inj) (h : Heap) (w : World) (ι' : Inj) (h' : Heap) : Prop where
  pl : ι'.pl = ι.pl
  le : ι.le ι'
  heap : HRel ι' h' w
  step : Step ι h w ι' h' w
  sub : ∀ i c, h'.get i = some c → ∃ c', h.get i = some c' ∧ c'.ro = c.ro
theorem Fro2.refl {ι : Inj} {h : Heap} {w : World} (R : HRel ι h w) : Fro2 ι h w ι h := ⟨rfl, .refl _, R, .refl _ _ _, fun _ c h => ⟨c, h, rfl⟩⟩
theorem Fro2.trans {ι1 ι2 ι3 : Inj} {h1 h2 h3 : Heap} {w : World} (a : Fro2 ι1 h1 w ι2 h2) (b : Fro2 ι2 h2 w ι3 h3) : Fro2 ι1 h1 w ι3 h3 :=
  ⟨b.pl.trans a.pl, a.le.trans b.le, b.heap, a.step.trans b.step, fun i c h => by obtain ⟨c', h1, e1⟩ := b.sub i c h; obtain ⟨c2, h2, e2⟩ := a.sub i c' h1; exact ⟨c2, h2, e2.trans e1⟩⟩
theorem Fro.fro2 {ι ι' : Inj} {h h' : Heap} {w : World} (F : Fro ι h w ι' h') : Fro2 ι h w ι' h' := ⟨F.pl, F.le, F.heap, F.step, fun i c h => ⟨c, F.sub i c h, rfl⟩⟩
theorem row_vs {ι : Inj} {w : World} {id : Nat} {c : Cell} (h : BlkR ι w id c) (hni : ∀ s pos, c.blk ≠ .iter s pos) : ∃ q vs, ι id = some q ∧ CR ι c.blk.cells vs ∧ c.blk.cells.length = q.size ∧ (q.lim = 0 → q.size = 0) ∧
    (q.lim ≠ 0 → ∃ (arr : Array Value) (el : TypeId) (fz : Nat × Nat), w.heap[q.blk]? = some (.cells arr el fz) ∧ arr.size = q.lim ∧ q.base + q.size ≤ q.lim ∧ (∀ i x, vs[i]? = some x → arr[q.base + i]? = some x) ∧ (c.ro = false → ∀ o, o < q.lim → ¬ (fz.1 ≤ o ∧ o < fz.2))) := by
  obtain ⟨q, hq, wf, hsz, h0, h3⟩ := h
  by_cases hl : q.lim = 0
  · refine ⟨q, [], hq, ⟨by rw [hsz, h0 hl]; rfl, fun i v hi => ?_⟩, hsz, h0, fun h => absurd hl h⟩
    have := (List.getElem?_eq_some_iff.1 hi).1
    rw [hsz, h0 hl] at this
    omega
  · obtain ⟨arr, el, fz, g1, g2, g3, g4, g5⟩ := (rowOf (h3 hl) hni).row
    refine ⟨q, (arr.toList.drop q.base).take q.size, hq, ⟨by simp; omega, fun i v hi => ?_⟩, hsz, h0, fun _ => ⟨arr, el, fz, g1, g2, g3, fun i x hi => ?_, g5⟩⟩
    · have hil := (List.getElem?_eq_some_iff.1 hi).1
      obtain ⟨y, hy, hsr⟩ := g4 i v hi
      exact ⟨y, by rw [List.getElem?_take, if_pos (by omega), List.getElem?_drop]; simpa using hy, hsr⟩
    · rw [List.getElem?_take] at hi
      split at hi
      · rw [List.getElem?_drop] at hi; simpa using hi
      · cases hi
theorem frzObjs_sound {w : World} : ∀ (l : List Nat) (ι : Inj) (h h' : Heap), HRel ι h w → frzObjs l h = some h' → ∃ ι', Fro2 ι h w ι' h'
  | [], ι, h, h', R, hk => by
    simp only [frzObjs, Option.some.injEq] at hk
    subst hk
    exact ⟨ι, .refl R⟩
  | k :: r, ι, h, h', R, hk => by
    simp only [frzObjs] at hk
    split at hk <;> try (cases hk; done)
    rename_i ci l hg
    cases hs : frzSegs h l with
    | none => rw [hs] at hk; cases hk
    | some p =>
      obtain ⟨l', h2⟩ := p
      rw [hs] at hk
      simp only [Option.bind_some] at hk
      split at hk <;> try (cases hk; done)
      rename_i ci2 b2 hg2
      have hb := R.blk k _ hg
      have wf : SegsWf l := by obtain ⟨_, _, wf, _⟩ := hb; exact wf
      obtain ⟨q, vs, hq, hc, hsz, h0, hrow⟩ := row_vs hb (by intros; simp)
      obtain ⟨ι2, F, w3, c3, n3⟩ := frzSegs_sound l ι h l' h2 vs R wf hc hs
      have hq2 : ι2 k = some q := by rw [F.pl]; exact hq
      have hb2 : BlkR ι2 w k { (⟨ci2, false, b2⟩ : Cell) with blk := .segs l' } := by
        refine ⟨q, hq2, w3, ?_, h0, fun hlim => ?_⟩
        · show (cellsL l').length = q.size
          rw [c3.1, ← hc.1, hsz]
        · obtain ⟨arr, el, fz, g1, g2, g3, g4, g5⟩ := hrow hlim
          refine .inl ⟨arr, el, fz, g1, g2, g3, fun i u hu => ?_, g5⟩
          obtain ⟨y, hy, hsr⟩ := c3.2 i u hu
          exact ⟨y, g4 i y hy, hsr⟩
      obtain ⟨R3, S3⟩ := F.heap.retell hg2 hb2
      have F3 : Fro2 ι2 h2 w ι2 (h2.set k (.segs l')) := ⟨rfl, .refl _, R3, S3, fun i c hc => by
        rw [get_set' hg2] at hc
        split at hc
        · rename_i e; subst e; cases hc; exact ⟨_, hg2, rfl⟩
        · exact ⟨c, hc, rfl⟩⟩
      obtain ⟨ι4, F4⟩ := frzObjs_sound r ι2 _ h' R3 hk
      exact ⟨ι4, (F.fro2.trans F3).trans F4⟩
theorem viewObjs_sound {ι : Inj} {h : Heap} {w : World} (R : HRel ι h w) (ids : List Nat) : ∀ (args : List AV) (ks : List OK) (n : Nat) (args' : List AV) (bl : List Cell) (vs : List Value) (ι1 : Inj), viewObjs h ids args ks n = some (args', bl) → VRL ι args vs →
    (∀ k f, ι.fz k = some f → ι1.fz k = some f) → (∀ id ∈ ids, ι1 (posN ids id) = ι id) → ids.length ≤ n → (∀ i, n ≤ i → ι1 i = none) → ∃ ι2 used, Grown ι h w used ι1 n bl ι2 ∧ (∀ i ∈ used, i ∉ ids) ∧ VRL ι2 args' vs
  | [], [], n, args', bl, vs, ι1, hk, hv, hz, hp, hm, hn => by
    simp only [viewObjs, Option.some.injEq, Prod.mk.injEq] at hk
    obtain ⟨rfl, rfl⟩ := hk
    exact ⟨ι1, [], .nil, fun i hi => by simp at hi, ⟨hv.1, fun i v hi => by simp at hi⟩⟩
  | v :: r, k :: ks, n, args', bl, vs, ι1, hk, hv, hz, hp, hm, hn => by
    obtain ⟨x, rs, rfl, hv1, hr'⟩ := hv.uncons
    have ren : (avIds v).all ids.contains = true → (viewObjs h ids r ks n).map (fun p => (rnAV (posN ids) v :: p.1, p.2)) = some (args', bl) → ∃ ι2 used, Grown ι h w used ι1 n bl ι2 ∧ (∀ i ∈ used, i ∉ ids) ∧ VRL ι2 args' (x :: rs) := by
      intro hall hk
      cases hr : viewObjs h ids r ks n with
      | none => rw [hr] at hk; cases hk
      | some p =>
        obtain ⟨r', bl'⟩ := p
        rw [hr] at hk
        simp only [Option.map_some, Option.some.injEq, Prod.mk.injEq] at hk
        obtain ⟨rfl, rfl⟩ := hk
        obtain ⟨ι2, u, G, hu, k2⟩ := viewObjs_sound R ids r ks n r' bl' rs ι1 hr hr' hz hp hm hn
        refine ⟨ι2, u, G, hu, .cons (hv1.rn (fun k f hk => by rw [G.fz]; exact hz k f hk) fun id hid => ?_) k2⟩
        have hmem : id ∈ ids := by simpa using List.all_eq_true.1 hall id hid
        rw [G.same _ (.inl (Nat.lt_of_lt_of_le (posN_lt hmem) hm))]
        exact hp id hmem
    cases k with
    | obj =>
      simp only [viewObjs] at hk
      split at hk <;> try (cases hk; done)
      rename_i hall
      exact ren hall hk
    | arg a =>
      simp only [viewObjs] at hk
      split at hk
      · split at hk <;> try (cases hk; done)
        rename_i hall
        exact ren hall hk
      · rename_i hany
        cases ha : viewArgs h [v] [a] n with
        | none => rw [ha] at hk; cases hk
        | some p =>
          obtain ⟨a1, b1⟩ := p
          rw [ha] at hk
          simp only [Option.bind_some] at hk
          cases hr : viewObjs h ids r ks (n + b1.length) with
          | none => rw [hr] at hk; cases hk
          | some p =>
            obtain ⟨r', bl'⟩ := p
            rw [hr] at hk
            simp only [Option.map_some, Option.some.injEq, Prod.mk.injEq] at hk
            obtain ⟨rfl, rfl⟩ := hk
            obtain ⟨ι2, G, k1⟩ := viewArgs_sound R [v] [a] n a1 b1 [x] ι1 ha (.cons hv1 ⟨rfl, fun i v hi => by simp at hi⟩) hz hn
            obtain ⟨ι3, u, G3, hu, k3⟩ := viewObjs_sound R ids r ks (n + b1.length) r' bl' rs ι2 hr hr' (fun k f hk => by rw [G.fz]; exact hz k f hk) (fun id hid => by rw [G.same _ (.inl (Nat.lt_of_lt_of_le (posN_lt hid) hm))]; exact hp id hid) (by omega) (fun i hi => by rw [G.same i (.inr hi)]; exact hn i (by omega))
            refine ⟨ι3, avIds.avIdsL [v] ++ u, .append (G.mono fun i hi => List.mem_append.2 (.inl hi)) (G3.mono fun i hi => List.mem_append.2 (.inr hi)), fun i hi => ?_, ?_⟩
            · rcases List.mem_append.1 hi with hi | hi
              · simp only [avIds.avIdsL, List.append_nil] at hi
                intro hm
                simp only [Bool.not_eq_true, List.any_eq_false] at hany
                have := hany i hi
                simp only [List.contains_eq_mem, decide_eq_false_iff_not] at this
                exact this hm
              · exact hu i hi
            · have := (k1.mono G3.le).append k3
              simpa using this
  | [], _ :: _, _, _, _, _, _, hk, _, _, _, _, _ => by cases hk
  | _ :: _, [], _, _, _, _, _, hk, _, _, _, _, _ => by cases hk
theorem okIds_mem {m B : Nat} {news l : List Nat} (h : okIds m B news l = true) {i : Nat} (hi : i ∈ l) : i < m ∨ (B ≤ i ∧ i ∈ news) := by
  have := List.all_eq_true.1 h i hi
  simp only [Bool.or_eq_true, decide_eq_true_eq, Bool.and_eq_true, List.contains_eq_mem] at this
  exact this
theorem litG_ok {P : Program} {f : FuncId} {ks : List OK} {fv : Bool} {fo : List Nat} {B : Nat} {o : List AV → Heap → (AV → Heap → Option Res) → Option Res} (ho : FnOk P f B o) : FullOk P f fun args h κ => (litG ks fv fo B o args h).bind fun r => κ r.1 r.2 where
  factor := fun args h κ => by
    simp only []
    cases litG ks fv fo B o args h with
    | none => rfl
    | some r => rfl
  sound := fun args h v h' ι w vs hk R hfr ha => by
    cases hG : litG ks fv fo B o args h with
    | none => rw [hG] at hk; cases hk
    | some z =>
    rw [hG] at hk
    obtain ⟨z1, z2⟩ := z
    simp only [Option.bind_some, kH, Option.some.injEq, Prod.mk.injEq] at hk
    obtain ⟨rfl, rfl⟩ := hk
    unfold litG at hG
    simp only at hG
    generalize hids : reachN h 64 (rootsOf args ks) [] = ids at hG
    have hnd : ids.Nodup := by rw [← hids]; exact reachN_nodup _ _ _ List.nodup_nil
    cases hob : objBlks h (posN ids) ids 0 with
    | none => rw [hob] at hG; cases hG
    | some ob =>
    rw [hob] at hG
    simp only [Option.bind_some] at hG
    cases hvw : viewObjs h ids args ks ids.length with
    | none => rw [hvw] at hG; cases hG
    | some p =>
    obtain ⟨args', bl⟩ := p
    rw [hvw] at hG
    simp only [Option.bind_some] at hG
    split at hG <;> try (cases hG; done)
    rename_i hcond
    simp only [Bool.and_eq_true, List.all_eq_true, decide_eq_true_eq] at hcond
    obtain ⟨hcl, hlen⟩ := hcond
    cases hr : o args' ⟨B, ob ++ bl⟩ kH with
    | none => rw [hr] at hG; cases hG
    | some r =>
    obtain ⟨v0, h0⟩ := r
    rw [hr] at hG
    simp only [Option.bind_some] at hG
    obtain ⟨obl, obg⟩ := objBlks_get hob
    have orw := objBlks_rw hob
    let ι1 : Inj := { ι with pl := fun k => (ids[k]?).bind ι }
    have hp1 : ∀ id ∈ ids, ι1 (posN ids id) = ι id := fun id hid => by simp only [ι1, posN_get hid, Option.bind_some]
    have hn1 : ∀ i, ids.length ≤ i → ι1 i = none := fun i hi => by simp only [ι1]; rw [List.getElem?_eq_none_iff.2 hi]; rfl
    obtain ⟨ι0, used, G, hused, ha'⟩ := viewObjs_sound R ids args ks ids.length args' bl vs.toList ι1 hvw ha (fun _ _ h => h) hp1 (Nat.le_refl _) hn1
    have hz0 : ι0.fz = ι.fz := G.fz
    have hp0 : ∀ (k : Nat) id, ids[k]? = some id → ι0 k = ι id := fun k id hk => by
      have hlt := (List.getElem?_eq_some_iff.1 hk).1
      rw [G.same k (.inl hlt)]
      simp only [ι1, hk, Option.bind_some]
    have hcls : ∀ id c, id ∈ ids → h.get id = some c → ∀ i ∈ blkIds c.blk, i ∈ ids := fun id c hid hg i hi => by
      have := hcl id hid
      rw [hg] at this
      simpa using List.all_eq_true.1 this i hi
    have hget : ∀ i c, (Heap.mk B (ob ++ bl)).get i = some c → (∃ id c0, ids[i]? = some id ∧ h.get id = some c0 ∧ c0.ro = false ∧ c = ⟨i, false, rnBlk (posN ids) c0.blk⟩) ∨ (ids.length ≤ i ∧ findB i bl = some c) := by
      intro i c hg
      simp only [Heap.get] at hg
      rw [findB_append] at hg
      split at hg
      · rename_i c' hc'
        cases hg
        rw [obg] at hc'
        simp only [Nat.zero_le, if_true, Nat.sub_zero] at hc'
        cases hi : ids[i]? with
        | none => rw [hi] at hc'; cases hc'
        | some id =>
          rw [hi] at hc'
          simp only [Option.bind_some] at hc'
          obtain ⟨c0, hg0, hro0⟩ := orw id (List.mem_of_getElem? hi)
          rw [hg0] at hc'
          simp only [Option.map_some, Option.some.injEq] at hc'
          exact .inl ⟨id, c0, rfl, hg0, hro0, hc'.symm⟩
      · exact .inr ⟨(G.blk i c hg).1, hg⟩
    have hwin : ∀ {i c}, ids.length ≤ i → findB i bl = some c → c.ro = true ∧ BlkR ι0 w i c ∧ ∃ q, ι0 i = some q ∧ Apart ι h used q := fun _ hf => (G.blk _ _ hf).2.2
    have R0 : HRel ι0 ⟨B, ob ++ bl⟩ w := by
      refine ⟨fun i c hg => ?_, fun k f hk => ?_, fun i1 c1 p1 i2 c2 p2 g1 g2 hne hro q1 q2 n1 n2 => ?_⟩
      · rcases hget i c hg with ⟨id, c0, e1, e2, e3, rfl⟩ | ⟨e1, e2⟩
        · obtain ⟨p, hp, wf, hs, z0, z3⟩ := R.blk id c0 e2
          obtain ⟨k1, k2⟩ := cells_rn (posN ids) wf
          refine ⟨p, by rw [hp0 i id e1]; exact hp, k2, by rw [k1]; simpa using hs, z0, fun hn => ?_⟩
          rcases z3 hn with z3 | z3
          rotate_left
          · exact .inr (z3.rn _)
          obtain ⟨arr, el, fz, g1, g2, g3, g4, g5⟩ := z3.row
          refine .inl ⟨arr, el, fz, g1, g2, g3, fun j u hu => ?_, fun _ => g5 e3⟩
          simp only [k1] at hu
          rw [List.getElem?_map] at hu
          cases hcu : c0.blk.cells[j]? with
          | none => rw [hcu] at hu; cases hu
          | some u0 =>
            rw [hcu] at hu
            simp only [Option.map_some, Option.some.injEq] at hu
            subst hu
            obtain ⟨x, hx, hsr⟩ := g4 j u0 hcu
            refine ⟨x, hx, hsr.rn (fun k f (h : ι.fz k = some f) => by rw [hz0]; exact h) fun a haa => ?_⟩
            have hmem := hcls id c0 (List.mem_of_getElem? e1) e2 a (mem_blkIds wf (List.mem_of_getElem? hcu) a haa)
            exact hp0 _ a (posN_get hmem)
        · exact (hwin e1 e2).2.1
      · rw [hz0] at hk
        obtain ⟨f1, f2⟩ := R.fz k f hk
        refine ⟨f1.ids fun k f h => by rw [hz0]; exact h, fun i c p hg hro hp hl => ?_⟩
        rcases hget i c hg with ⟨id, c0, e1, e2, e3, rfl⟩ | ⟨e1, e2⟩
        · exact f2 id c0 p e2 e3 (by rw [← hp0 i id e1]; exact hp) hl
        · rw [(hwin e1 e2).1] at hro; cases hro
      · rcases hget i1 c1 g1 with ⟨id1, d1, a1, a2, a3, rfl⟩ | ⟨e1, e2⟩
        · rcases hget i2 c2 g2 with ⟨id2, d2, b1, b2, b3, rfl⟩ | ⟨e1, e2⟩
          · have hne' : id1 ≠ id2 := by
              rintro rfl
              exact hne ((get_posN hnd a1).symm.trans (get_posN hnd b1))
            exact R.disj id1 d1 p1 id2 d2 p2 a2 b2 hne' a3 (by rw [← hp0 i1 id1 a1]; exact q1) (by rw [← hp0 i2 id2 b1]; exact q2) n1 n2
          · obtain ⟨_, _, q, hq, hap⟩ := hwin e1 e2
            rw [hq] at q2; cases q2
            exact hap n2 id1 d1 p1 a2 a3 (by rw [← hp0 i1 id1 a1]; exact q1) n1 fun hm => hused id1 hm (List.mem_of_getElem? a1)
        · rw [(hwin e1 e2).1] at hro; cases hro
    have hfr0 : Fresh ι0 B := fun k hk => by rw [G.same k (.inr (by omega))]; exact hn1 k (by omega)
    have hown0 : ∀ k, Own ι0 ⟨B, ob ++ bl⟩ k → ∃ id c p, id ∈ ids ∧ h.get id = some c ∧ c.ro = false ∧ ι id = some p ∧ p.lim ≠ 0 ∧ p.blk = k := by
      rintro k ⟨i, c, p, hg, hro, hp, hl, rfl⟩
      rcases hget i c hg with ⟨id, c0, e1, e2, e3, rfl⟩ | ⟨e1, e2⟩
      · exact ⟨id, c0, p, List.mem_of_getElem? e1, e2, e3, by rw [← hp0 i id e1]; exact hp, hl, rfl⟩
      · rw [(hwin e1 e2).1] at hro; cases hro
    have hown1 : ∀ k, Own ι0 ⟨B, ob ++ bl⟩ k → Own ι h k := fun k hk => by
      obtain ⟨id, c, p, _, e2, e3, e4, e5, e6⟩ := hown0 k hk
      exact ⟨id, c, p, e2, e3, e4, e5, e6⟩
    refine (ho.sound _ _ v0 h0 ι0 w vs hr R0 hfr0 rfl ha').mono fun x w' E => ?_
    obtain ⟨ιa, e1, e2, e3, e4⟩ := E
    unfold outG at hG
    cases hfd : (if fv = true then frzD h0 v0 else some (v0, h0)) with
    | none => rw [hfd] at hG; cases hG
    | some p =>
    obtain ⟨v1, h1⟩ := p
    rw [hfd] at hG
    simp only [Option.bind_some] at hG
    cases hfo : frzObjs fo h1 with
    | none => rw [hfo] at hG; cases hG
    | some h2 =>
    rw [hfo] at hG
    simp only [Option.bind_some] at hG
    obtain ⟨ιb, Fb, e1b⟩ : ∃ ιb, Fro2 ιa h0 w' ιb h1 ∧ VR ιb v1 x := by
      cases fv with
      | true =>
        obtain ⟨ιb, F, k1, _⟩ := frzD_sound e2 e1 (by simpa using hfd)
        exact ⟨ιb, F.fro2, k1⟩
      | false =>
        simp only [Bool.false_eq_true, if_false, Option.some.injEq, Prod.mk.injEq] at hfd
        obtain ⟨rfl, rfl⟩ := hfd
        exact ⟨ιa, .refl e2, e1⟩
    obtain ⟨ιc, Fc⟩ := frzObjs_sound fo ιb h1 h2 Fb.heap hfo
    have F := Fb.trans Fc
    have e1c : VR ιc v1 x := e1b.mono Fc.le
    generalize hcont : ((List.range ids.length).flatMap fun k => match h2.get k with | some c => blkIds c.blk | none => []) = cont at hG
    generalize hnews : (reachN h2 64 ((avIds v1 ++ cont).filter fun i => decide (B ≤ i)) []).filter (fun i => decide (B ≤ i)) = news at hG
    have hnnd : news.Nodup := by rw [← hnews]; exact (reachN_nodup _ _ _ List.nodup_nil).filter _
    have hnB : ∀ k ∈ news, B ≤ k := fun k hk => by rw [← hnews] at hk; simpa using (List.mem_filter.1 hk).2
    split at hG <;> try (cases hG; done)
    rename_i hok
    simp only [Bool.and_eq_true, List.all_eq_true] at hok
    obtain ⟨⟨ok1, ok2⟩, ok3⟩ := hok
    generalize hback : (fun k => if k < ids.length then ids.getD k 0 else h.next + posN news k) = back at hG
    cases hsa : setAll h2 back ids 0 h with
    | none => rw [hsa] at hG; cases hG
    | some h3 =>
    rw [hsa] at hG
    simp only [Option.bind_some] at hG
    cases hna : newAll h2 back news h3 with
    | none => rw [hna] at hG; cases hG
    | some h4 =>
    rw [hna] at hG
    simp only [Option.map_some, Option.some.injEq, Prod.mk.injEq] at hG
    obtain ⟨rfl, rfl⟩ := hG
    obtain ⟨sn, sout, sin⟩ := setAll_get hsa hnd
    have hnone : ∀ i, h.next ≤ i → h.get i = none := fun i hi => R.dom (hfr i hi)
    have idlt : ∀ id ∈ ids, id < h.next := fun id hid => by
      obtain ⟨c, hg, _⟩ := orw id hid
      rcases Nat.lt_or_ge id h.next with hlt | hge
      · exact hlt
      · rw [hnone id hge] at hg; cases hg
    obtain ⟨nn, nlow, nhigh, nin⟩ := newAll_get hna fun i hi => by
      rw [sn] at hi
      rw [sout i fun hm => by have := idlt i hm; omega]
      exact hnone i hi
    rw [sn] at nn nlow nhigh nin
    have hsame : ∀ k, k < B → ιc k = ι0 k := fun k hk => by rw [F.pl]; exact e3.same k hk
    have hlenB : ids.length ≤ B := by omega
    have hobj : ∀ (k : Nat) id, ids[k]? = some id → ιc k = ι id := fun k id hk => by
      have := (List.getElem?_eq_some_iff.1 hk).1
      rw [hsame k (by omega)]; exact hp0 k id hk
    let ιd : Inj := { pl := fun i => if i < h.next then ι i else (news[i - h.next]?).bind ιc, fz := ιc.fz }
    have hdlow : ∀ i, i < h.next → ιd i = ι i := fun i hi => by simp only [ιd, hi, if_true]
    have hdnew : ∀ (j k : Nat), news[j]? = some k → ιd (h.next + j) = ιc k := fun j k hj => by
      simp only [ιd]
      rw [if_neg (by omega), Nat.add_sub_cancel_left, hj]
      rfl
    have bk : ∀ i, (i < ids.length ∨ (B ≤ i ∧ i ∈ news)) → ιd (back i) = ιc i := by
      intro i hi
      rw [← hback]
      simp only []
      rcases hi with hi | ⟨hi1, hi2⟩
      · rw [if_pos hi]
        have hgi : ids[i]? = some ids[i] := List.getElem?_eq_getElem hi
        rw [List.getD_eq_getElem?_getD, hgi, Option.getD_some, hdlow _ (idlt _ (List.getElem_mem hi)), hobj i _ hgi]
      · rw [if_neg (by omega)]
        exact hdnew _ _ (posN_get hi2)
    have hz' : ∀ k f, ιc.fz k = some f → ιd.fz k = some f := fun _ _ h => h
    have blkR : ∀ (k i : Nat) (c : Cell) (b : Blk) (id : Nat), h2.get k = some c → c.ro = false → (∀ a ∈ blkIds c.blk, a < ids.length ∨ (B ≤ a ∧ a ∈ news)) → ιd i = ιc k → b = rnBlk back c.blk → BlkR ιd w' i ⟨id, false, b⟩ := by
      intro k i c b id hg hro hin hi hb
      subst hb
      obtain ⟨p, hp, wf, hs, z0, z3⟩ := F.heap.blk k c hg
      obtain ⟨k1, k2⟩ := cells_rn back wf
      refine ⟨p, by rw [hi]; exact hp, k2, by rw [k1]; simpa using hs, z0, fun hn => ?_⟩
      rcases z3 hn with z3 | z3
      rotate_left
      · exact .inr (z3.rn _)
      obtain ⟨arr, el, fz, g1, g2, g3, g4, g5⟩ := z3.row
      refine .inl ⟨arr, el, fz, g1, g2, g3, fun j u hu => ?_, fun _ => g5 hro⟩
      simp only [k1] at hu
      rw [List.getElem?_map] at hu
      cases hcu : c.blk.cells[j]? with
      | none => rw [hcu] at hu; cases hu
      | some u0 =>
        rw [hcu] at hu
        simp only [Option.map_some, Option.some.injEq] at hu
        subst hu
        obtain ⟨y, hy, hsr⟩ := g4 j u0 hcu
        exact ⟨y, hy, hsr.rn hz' fun a haa => bk a (hin a (mem_blkIds wf (List.mem_of_getElem? hcu) a haa))⟩
    have cases4 : ∀ i c, h4.get i = some c → (∃ (k : Nat) (d : Cell), ids[k]? = some i ∧ h2.get k = some d ∧ d.ro = false ∧ c.ro = false ∧ c.blk = rnBlk back d.blk) ∨ (∃ (j k : Nat) (d : Cell), i = h.next + j ∧ news[j]? = some k ∧ h2.get k = some d ∧ d.ro = false ∧ c.ro = false ∧ c.blk = rnBlk back d.blk) ∨ (i ∉ ids ∧ i < h.next ∧ h.get i = some c) := by
      intro i c hg
      rcases Nat.lt_or_ge i h.next with hlt | hge
      · rw [nlow i hlt] at hg
        by_cases hm : i ∈ ids
        · have hk := posN_get hm
          rcases sin i _ hk with ⟨ci, b, g1, g2⟩ | g2
          case inr => rw [g2] at hg; cases hg
          rw [Nat.zero_add] at g1
          rw [g2] at hg
          obtain ⟨c0, hc0, hro0⟩ := orw i hm
          rw [hc0] at hg
          simp only [Option.map_some, Option.some.injEq] at hg
          subst hg
          exact .inl ⟨_, _, hk, g1, rfl, hro0, rfl⟩
        · rw [sout i hm] at hg
          exact .inr (.inr ⟨hm, hlt, hg⟩)
      · rcases Nat.lt_or_ge (i - h.next) news.length with hj | hj
        · obtain ⟨ci, b, g1, g2⟩ := nin (i - h.next) _ (List.getElem?_eq_getElem hj)
          rw [show h.next + (i - h.next) = i by omega, hg] at g2
          cases g2
          exact .inr (.inl ⟨i - h.next, _, _, by omega, List.getElem?_eq_getElem hj, g1, rfl, rfl, rfl⟩)
        · rw [nhigh i (by omega)] at hg; cases hg
    have cin : ∀ (k : Nat) d, k < ids.length → h2.get k = some d → ∀ a ∈ blkIds d.blk, a < ids.length ∨ (B ≤ a ∧ a ∈ news) := fun k d hk hd a haa => by
      refine okIds_mem ok2 ?_
      rw [← hcont]
      simp only [List.mem_flatMap, List.mem_range]
      exact ⟨k, hk, by rw [hd]; exact haa⟩
    have nin2 : ∀ (k : Nat) d, k ∈ news → h2.get k = some d → ∀ a ∈ blkIds d.blk, a < ids.length ∨ (B ≤ a ∧ a ∈ news) := fun k d hk hd a haa => by
      have := ok3 k hk
      rw [hd] at this
      exact okIds_mem this haa
    have frame0 : ∀ k, k < w.heap.size → ¬ Own ι h k → w'.heap[k]? = w.heap[k]? := fun k hk hn => e3.frame k hk fun ho => hn (hown1 k ho)
    have ownc : ∀ k, Own ιc h2 k → Own ι0 ⟨B, ob ++ bl⟩ k ∨ w.heap.size ≤ k := fun k hk => by
      rcases F.step.own k hk with h5 | h5
      · exact e3.own k h5
      · exact .inr (by have := e3.size; omega)
    have fzc : ∀ k f, ιc.fz k = some f → ι.fz k = some f ∨ Own ι h k ∨ w.heap.size ≤ k := fun k f hk => by
      rcases F.step.fzo k f hk with h5 | h5 | h5
      · rcases e3.fzo k f h5 with h6 | h6 | h6
        · exact .inl (by rw [← hz0]; exact h6)
        · exact .inr (.inl (hown1 k h6))
        · exact .inr (.inr h6)
      · rcases e3.own k h5 with h6 | h6
        · exact .inr (.inl (hown1 k h6))
        · exact .inr (.inr h6)
      · exact .inr (.inr (by have := e3.size; omega))
    have fzle : ∀ k f, ι.fz k = some f → ιc.fz k = some f := fun k f hk => F.le.fz k f (e3.fz k f (by rw [hz0]; exact hk))
    have hlepl : ∀ id p, ι id = some p → ιd id = some p := fun id p hp => by
      rcases Nat.lt_or_ge id h.next with hlt | hge
      · rw [hdlow id hlt]; exact hp
      · rw [hfr id hge] at hp; cases hp
    have hle : ι.le ιd := ⟨hlepl, fzle⟩
    have oldNe : ∀ {i c p k}, i ∉ ids → h.get i = some c → ι i = some p → p.lim ≠ 0 → (Own ι0 ⟨B, ob ++ bl⟩ k) → p.blk ≠ k := by
      intro i c p k hm hg hp hl ho
      obtain ⟨id, c0, p0, m1, m2, m3, m4, m5, rfl⟩ := hown0 k ho
      exact Ne.symm (R.disj id c0 p0 i c p m2 hg (by rintro rfl; exact hm m1) m3 m4 hp m5 hl)
    have H : HRel ιd h4 w' := by
      refine ⟨fun i c hg => ?_, fun k f hk => ⟨(F.heap.fz k f hk).1.ids hz', fun i c p hg hro hp hl => ?_⟩, fun i1 c1 p1 i2 c2 p2 g1 g2 hne hro q1 q2 n1 n2 => ?_⟩
      · rcases cases4 i c hg with ⟨k, d, a1, a2, a3, a4, a5⟩ | ⟨j, k, d, rfl, a1, a2, a3, a4, a5⟩ | ⟨a1, a2, a3⟩
        · have hk := (List.getElem?_eq_some_iff.1 a1).1
          have := blkR k i d c.blk c.id a2 a3 (cin k d hk a2) (by rw [hdlow i (idlt i (List.mem_of_getElem? a1)), hobj k i a1]) a5
          rwa [show (⟨c.id, false, c.blk⟩ : Cell) = c by cases c; simp only at a4; rw [a4]] at this
        · have := blkR k (h.next + j) d c.blk c.id a2 a3 (nin2 k d (List.mem_of_getElem? a1) a2) (hdnew j k a1) a5
          rwa [show (⟨c.id, false, c.blk⟩ : Cell) = c by cases c; simp only at a4; rw [a4]] at this
        · refine (R.blk i c a3).world hle fun p hp hl => ?_
          exact e3.frame _ (R.blk_lt a3 hp hl) fun ho => oldNe a1 a3 hp hl ho rfl
      · rcases cases4 i c hg with ⟨k2, d, a1, a2, a3, a4, a5⟩ | ⟨j, k2, d, rfl, a1, a2, a3, a4, a5⟩ | ⟨a1, a2, a3⟩
        · refine (F.heap.fz k f hk).2 k2 d p a2 a3 ?_ hl
          rw [← hp, hdlow i (idlt i (List.mem_of_getElem? a1)), hobj k2 i a1]
        · exact (F.heap.fz k f hk).2 k2 d p a2 a3 (by rw [← hp, hdnew j k2 a1]) hl
        · rw [hdlow i a2] at hp
          rcases F.step.fzo k f hk with h5 | h5 | h5
          · rcases e3.fzo k f h5 with h6 | h6 | h6
            · exact (R.fz k f (by rw [← hz0]; exact h6)).2 i c p a3 hro hp hl
            · exact oldNe a1 a3 hp hl h6
            · have := R.blk_lt a3 hp hl; omega
          · rcases e3.own k h5 with h6 | h6
            · exact oldNe a1 a3 hp hl h6
            · have := R.blk_lt a3 hp hl; omega
          · have := R.blk_lt a3 hp hl; have := e3.size; omega
      ·
        have nm : ∀ i c p, h4.get i = some c → ιd i = some p → (∃ (k : Nat) (d : Cell), h2.get k = some d ∧ d.ro = false ∧ c.ro = false ∧ ιc k = some p ∧ ((ids[k]? = some i ∧ i < h.next) ∨ ∃ j : Nat, i = h.next + j ∧ news[j]? = some k)) ∨ (i ∉ ids ∧ i < h.next ∧ h.get i = some c ∧ ι i = some p) := by
          intro i c p hg hp
          rcases cases4 i c hg with ⟨k, d, a1, a2, a3, a4, a5⟩ | ⟨j, k, d, rfl, a1, a2, a3, a4, a5⟩ | ⟨a1, a2, a3⟩
          · have hlt := idlt i (List.mem_of_getElem? a1)
            exact .inl ⟨k, d, a2, a3, a4, by rw [← hp, hdlow i hlt, hobj k i a1], .inl ⟨a1, hlt⟩⟩
          · exact .inl ⟨k, d, a2, a3, a4, by rw [← hp, hdnew j k a1], .inr ⟨j, rfl, a1⟩⟩
          · exact .inr ⟨a1, a2, a3, by rw [← hdlow i a2]; exact hp⟩
        have sep : ∀ {i c p k d q}, i ∉ ids → h.get i = some c → ι i = some p → p.lim ≠ 0 → h2.get k = some d → d.ro = false → ιc k = some q → q.lim ≠ 0 → p.blk ≠ q.blk := by
          intro i c p k d q hm hg hp hl hgk hdro hq hql
          rcases ownc q.blk ⟨k, d, q, hgk, hdro, hq, hql, rfl⟩ with h5 | h5
          · exact oldNe hm hg hp hl h5
          · have := R.blk_lt hg hp hl; omega
        rcases nm i1 c1 p1 g1 q1 with ⟨k1, d1, a1, a2, a3, a4, a5⟩ | ⟨a1, a2, a3, a4⟩
        · rcases nm i2 c2 p2 g2 q2 with ⟨k2, d2, b1, b2, b3, b4, b5⟩ | ⟨b1, b2, b3, b4⟩
          · have hkne : k1 ≠ k2 := by
              rintro rfl
              rcases a5 with ⟨a5, a6⟩ | ⟨j1, rfl, a5⟩ <;> rcases b5 with ⟨b5, b6⟩ | ⟨j2, rfl, b5⟩
              · rw [a5] at b5; cases b5; exact hne rfl
              · have h5 := (List.getElem?_eq_some_iff.1 a5).1
                have h6 := hnB _ (List.mem_of_getElem? b5)
                omega
              · have h5 := (List.getElem?_eq_some_iff.1 b5).1
                have h6 := hnB _ (List.mem_of_getElem? a5)
                omega
              · have := (get_posN hnnd a5).symm.trans (get_posN hnnd b5)
                exact hne (by rw [this])
            exact F.heap.disj k1 d1 p1 k2 d2 p2 a1 b1 hkne a2 a4 b4 n1 n2
          · exact Ne.symm (sep b1 b3 b4 n2 a1 a2 a4 n1)
        · rcases nm i2 c2 p2 g2 q2 with ⟨k2, d2, b1, b2, b3, b4, b5⟩ | ⟨b1, b2, b3, b4⟩
          · exact sep a1 a3 a4 n1 b1 b2 b4 n2
          · exact R.disj i1 c1 p1 i2 c2 p2 a3 b3 hne hro a4 b4 n1 n2
    refine ⟨ιd, e1c.rn hz' fun a haa => bk a (okIds_mem ok1 haa), H, ⟨hle, e3.os, e3.tape, e3.output, e3.size, frame0, fun k hk => ?_, fzc⟩, ⟨by simp only [nn]; omega, fun id hid => ?_⟩⟩
    · obtain ⟨i, c, p, hg, hro, hp, hl, rfl⟩ := hk
      rcases cases4 i c hg with ⟨k, d, a1, a2, a3, a4, a5⟩ | ⟨j, k, d, rfl, a1, a2, a3, a4, a5⟩ | ⟨a1, a2, a3⟩
      · exact (ownc p.blk ⟨k, d, p, a2, a3, by rw [← hp, hdlow i (idlt i (List.mem_of_getElem? a1)), hobj k i a1], hl, rfl⟩).imp (hown1 _) fun h => h
      · exact (ownc p.blk ⟨k, d, p, a2, a3, by rw [← hp, hdnew j k a1], hl, rfl⟩).imp (hown1 _) fun h => h
      · exact .inl ⟨i, c, p, a3, hro, by rw [← hdlow i a2]; exact hp, hl, rfl⟩
    · simp only [nn] at hid
      rcases hid with hid | hid
      · exact hdlow id hid
      · simp only [ιd]
        rw [if_neg (by omega), List.getElem?_eq_none_iff.2 (by omega)]
        exact (hfr id (by omega)).symm
end Go.Am
