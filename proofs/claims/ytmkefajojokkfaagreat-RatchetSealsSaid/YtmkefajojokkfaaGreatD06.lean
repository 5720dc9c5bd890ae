/- RatchetSeals: part 7 of 50 of its proof. -/
import Derived.Test.YtmkefajojokkfaaGreatD05
set_option linter.unusedVariables false
set_option linter.unusedSimpArgs false
namespace Go.Am
set_option linter.unusedSimpArgs false
section
variable {β : Type}
theorem intBin_factor (op : BinOp) (k : IntKind) (a b : Int) (κ : AV → Option β) : intBin op k a b κ = (intBin op k a b some).bind κ := by unfold intBin; (repeat' split) <;> first | rfl | simp_all | (simp_all; done)
theorem strBin_factor (op : BinOp) (x y : ByteArray) (κ : AV → Option β) : strBin op x y κ = (strBin op x y some).bind κ := by unfold strBin; (repeat' split) <;> first | rfl | simp_all | (simp_all; done)
theorem binK_factor (op : BinOp) (x y : AV) (κ : AV → Option β) : binK op x y κ = (binK op x y some).bind κ := by
  unfold binK
  (repeat' split) <;> first | rfl | exact intBin_factor .. | exact strBin_factor .. | simp_all
theorem eqvK_factor (neg : Bool) (ek : EqK) (x y : AV) (κ : AV → Option β) : eqvK neg ek x y κ = (eqvK neg ek x y some).bind κ := by unfold eqvK; (repeat' split) <;> first | rfl | simp_all | (simp_all; done)
theorem unK_factor (op : UnOp) (x : AV) (κ : AV → Option β) : unK op x κ = (unK op x some).bind κ := by unfold unK; (repeat' split) <;> first | rfl | simp_all | (simp_all; done)
theorem bndK_factor {γ : Type} (x : Option AV) (d m : Nat) (g : Nat → Option γ) (κ : γ → Option β) : (bndK x d m fun n => (g n).bind κ) = (bndK x d m g).bind κ := by unfold bndK; (repeat' split) <;> first | rfl | simp_all | (simp_all; done)
theorem slSliceK_factor (z : Nat) (x : AV) (lo hi mx : Option AV) (κ : AV → Option β) : slSliceK z x lo hi mx κ = (slSliceK z x lo hi mx some).bind κ := by
  unfold slSliceK
  (repeat' split) <;> first | rfl | (simp only [← bndK_factor, Option.bind_some])
theorem slArrK_factor (n e : Nat) (x : AV) (lo hi mx : Option AV) (κ : AV → Option β) : slArrK n e x lo hi mx κ = (slArrK n e x lo hi mx some).bind κ := by
  unfold slArrK
  (repeat' split) <;> first | rfl | (simp only [← bndK_factor, Option.bind_some])
theorem slStrK_factor (x : AV) (lo hi : Option AV) (κ : AV → Option β) : slStrK x lo hi κ = (slStrK x lo hi some).bind κ := by
  unfold slStrK
  (repeat' split) <;> first | rfl | (simp only [← bndK_factor, Option.bind_some])
theorem faddrK_factor (off : Nat) (x : AV) (κ : AV → Option β) : faddrK off x κ = (faddrK off x some).bind κ := by unfold faddrK; (repeat' split) <;> first | rfl | simp_all | (simp_all; done)
theorem rdSegs_factor (l : List AV) (o j : Nat) (κ : AV → Option β) : rdSegs l o j κ = (rdSegs l o j some).bind κ := by
  unfold rdSegs
  split
  · rename_i k _ xs _
    cases xs[j]? <;> rfl
  · (repeat' split) <;> first | rfl | simp_all
  · rfl
theorem fldK_factor (agg : Bool) (off n : Nat) (x : AV) (κ : AV → Option β) : fldK agg off n x κ = (fldK agg off n x some).bind κ := by
  unfold fldK
  split
  · split
    · cases cutSegs _ off n <;> rfl
    · exact rdSegs_factor ..
  · rfl
theorem idxK_factor {γ : Type} (i : AV) (n : Nat) (g : Nat → Option γ) (κ : γ → Option β) : (idxK i n fun n => (g n).bind κ) = (idxK i n g).bind κ := by unfold idxK; (repeat' split) <;> first | rfl | simp_all | (simp_all; done)
theorem iaddrAK_factor (n e : Nat) (x i : AV) (κ : AV → Option β) : iaddrAK n e x i κ = (iaddrAK n e x i some).bind κ := by
  unfold iaddrAK
  split
  · simp only [← idxK_factor, Option.bind_some]
  · simp only [← idxK_factor, Option.bind_some]
  · rfl
theorem iaddrSK_factor (z : Nat) (x i : AV) (κ : AV → Option β) : iaddrSK z x i κ = (iaddrSK z x i some).bind κ := by
  unfold iaddrSK
  split
  · split
    · rfl
    · simp only [← idxK_factor, Option.bind_some]
  · split
    · rfl
    · rw [← idxK_factor]
      congr 1; funext j
      rw [Option.bind_assoc]; rfl
  · split
    · rfl
    · rw [← idxK_factor]
      congr 1; funext j
      rw [Option.bind_assoc]; rfl
  · rfl
theorem idxAK_factor (agg : Bool) (n e : Nat) (x i : AV) (κ : AV → Option β) : idxAK agg n e x i κ = (idxAK agg n e x i some).bind κ := by
  unfold idxAK
  split
  · rw [← idxK_factor]
    congr 1
    funext j
    split
    · cases cutSegs _ (j * e) e <;> rfl
    · exact rdSegs_factor ..
  · rfl
theorem idxSK_factor (x i : AV) (κ : AV → Option β) : idxSK x i κ = (idxSK x i some).bind κ := by
  unfold idxSK
  split
  · split
    · rename_i s k n _; cases s.data[n.toNat]? <;> rfl
    · rfl
  · rfl
theorem extK_factor (x : AV) (i : Nat) (κ : AV → Option β) : extK x i κ = (extK x i some).bind κ := by
  unfold extK
  split
  · rename_i vs; cases vs[i]? <;> rfl
  · rfl
theorem arrPtrK_factor (n : Nat) (x : AV) (κ : AV → Option β) : arrPtrK n x κ = (arrPtrK n x some).bind κ := by unfold arrPtrK; (repeat' split) <;> first | rfl | simp_all | (simp_all; done)
theorem lenK_factor (s : Bool) (x : AV) (κ : AV → Option β) : lenK s x κ = (lenK s x some).bind κ := by unfold lenK; (repeat' split) <;> first | rfl | simp_all | (simp_all; done)
theorem minK_factor (x y : AV) (κ : AV → Option β) : minK x y κ = (minK x y some).bind κ := by unfold minK; (repeat' split) <;> first | rfl | simp_all | (simp_all; done)
theorem opP_factor (op : AOp) (t : List AV) (κ : AV → Option β) : opP op t κ = (opP op t some).bind κ := by
  unfold opP
  cases op <;> simp only [] <;> first
    | rfl
    | exact binK_factor .. | exact eqvK_factor .. | exact unK_factor .. | exact slSliceK_factor .. | exact slStrK_factor .. | exact faddrK_factor .. | exact fldK_factor ..
    | exact iaddrAK_factor .. | exact iaddrSK_factor .. | exact idxAK_factor .. | exact idxSK_factor .. | exact extK_factor .. | exact arrPtrK_factor .. | exact lenK_factor .. | exact minK_factor ..
    | (cases putParts t _ _ <;> rfl)
    | ((repeat' split) <;> first | rfl | (rename_i c _; cases c <;> rfl))
theorem loadK_factor (agg : Bool) (n : Nat) (h : Heap) (x : AV) (κ : AV → Option β) : loadK agg n h x κ = (loadK agg n h x some).bind κ := by
  unfold loadK
  split
  · split
    · split
      · split
        · unfold rdAgg
          split
          · cases cutSegs _ _ _ <;> rfl
          · split
            · simp only [Option.bind_assoc]; congr 1
            · rfl
          · rfl
        · rfl
      · unfold rdCell
        split
        · exact rdSegs_factor ..
        · split
          · simp only [Option.bind_assoc]; congr 1; funext l
            exact rdSegs_factor ..
          · rfl
        · rfl
    · rfl
  · split
    · split
      · unfold rdWin
        (repeat' split) <;> first | rfl | simp_all
      · rfl
    · rfl
  · split
    · split
      · rw [Option.bind_assoc]; rfl
      · rfl
    · exact rdSegs_factor ..
  · rfl
def kB : AV → Option Blk → Option (AV × Option Blk) := fun v b => some (v, b)
theorem opR_factor (op : AOp) (t : List AV) (h : Heap) (nid : Nat) (κ : AV → Option Blk → Option β) : opR op t h nid κ = (opR op t h nid kB).bind fun p => κ p.1 p.2 := by
  unfold opR
  cases op <;> simp only [] <;> first
    | rfl
    | (cases putParts t _ _ <;> rfl)
    | (rw [loadK_factor, loadK_factor (κ := fun v => kB v none), Option.bind_assoc]; rfl)
    | (split
       · rw [slArrK_factor, slArrK_factor (κ := fun v => kB v none), Option.bind_assoc]; rfl
       · rfl)
    | ((repeat' split) <;> first | rfl | simp_all [kB])
def kH : AV → Heap → Option Res := fun v h => some (v, h)
theorem appendIK_factor (k : IntKind) (bytes : Nat) (h : Heap) (s x : AV) (κ : AV → Heap → Option β) : appendIK k bytes h s x κ = (appendIK k bytes h s x kH).bind fun p => κ p.1 p.2 := by
  unfold appendIK
  split
  · rfl
  · split
    · split <;> rfl
    · split <;> rfl
    · split
      · split
        · split
          · split
            · split <;> rfl
            · split
              · split
                · rfl
                split
                · rfl
                · split
                  · split
                    · split
                      · cases repSeg _ _ _ <;> rfl
                      · rfl
                    · rfl
                  · rfl
              · rfl
          · rfl
        · rfl
      · rfl
    · rfl
theorem appendRK_factor (e bytes : Nat) (h : Heap) (s x : AV) (κ : AV → Heap → Option β) : appendRK e bytes h s x κ = (appendRK e bytes h s x kH).bind fun p => κ p.1 p.2 := by
  unfold appendRK
  (repeat' split) <;> rfl
theorem copyIK_factor (h : Heap) (d s : AV) (κ : AV → Heap → Option β) : copyIK h d s κ = (copyIK h d s kH).bind fun p => κ p.1 p.2 := by
  unfold copyIK
  split
  · split
    · split
      · split
        · split
          · cases repSeg _ _ _ <;> rfl
          · rfl
        · rfl
      · rfl
    · rfl
  · rfl
theorem nextK_factor (h : Heap) (x : AV) (κ : AV → Heap → Option β) : nextK h x κ = (nextK h x kH).bind fun p => κ p.1 p.2 := by
  unfold nextK
  (repeat' split) <;> rfl
theorem wrSegs_factor {γ : Type} (l : List AV) (o j : Nat) (v : AV) (g : List AV → Option γ) (κ : γ → Option β) : (wrSegs l o j v fun l => (g l).bind κ) = (wrSegs l o j v g).bind κ := by
  unfold wrSegs
  split
  · split
    · split
      · split
        · cases repSeg _ _ _ <;> rfl
        · rfl
      · rfl
    · rfl
  · cases putCell _ _ _ <;> rfl
  · rfl
theorem wrCell_factor {γ : Type} (b : Blk) (r e o j : Nat) (v : AV) (g : Blk → Option γ) (κ : γ → Option β) : (wrCell b r e o j v fun l => (g l).bind κ) = (wrCell b r e o j v g).bind κ := by
  unfold wrCell
  split
  · exact wrSegs_factor ..
  · split
    · rename_i e' n xs _
      cases xs[r]? with
      | none => rfl
      | some l => exact wrSegs_factor ..
    · rfl
  · rfl
theorem wrAgg_factor {γ : Type} (b : Blk) (r e o n : Nat) (s : List AV) (g : Blk → Option γ) (κ : γ → Option β) : (wrAgg b r e o n s fun l => (g l).bind κ) = (wrAgg b r e o n s g).bind κ := by
  unfold wrAgg
  split
  · split
    · cases putSegs _ _ _ _ <;> rfl
    · split
      · rename_i e' m xs _
        cases xs[r]? with
        | none => rfl
        | some l => simp only [Option.bind_some]; cases putSegs l o n s <;> rfl
      · rfl
    · rfl
  · rfl
theorem storeK_factor (n : Nat) (h : Heap) (x v : AV) (κ : AV → Heap → Option β) : storeK n h x v κ = (storeK n h x v kH).bind fun p => κ p.1 p.2 := by
  unfold storeK
  split
  · split
    · split
      · split
        · rw [← wrAgg_factor]; rfl
        · rfl
      · split
        · rw [← wrCell_factor]; rfl
        · rfl
    · rfl
  · rfl
end
def VRL (ι : Inj) (l : List AV) (vs : List Value) : Prop := l.length = vs.length ∧ ∀ (i : Nat) v, l[i]? = some v → ∃ x, vs[i]? = some x ∧ VR ι v x
theorem VRL.mono {ι ι' : Inj} (h : ι.le ι') {l : List AV} {vs : List Value} (hv : VRL ι l vs) : VRL ι' l vs :=
  ⟨hv.1, fun i v hi => let ⟨x, hx, hs⟩ := hv.2 i v hi; ⟨x, hx, hs.mono h⟩⟩
theorem VRL.of_VAL {ι : Inj} {l : List AV} {vs : List Value} (hv : VAL ι l vs) : VRL ι l vs :=
  ⟨hv.1, fun i v hi => let ⟨x, hx, hs⟩ := hv.2 i v hi; ⟨x, hx, .of_VA hs⟩⟩
theorem VRL.append {ι : Inj} {a b : List AV} {xs ys : List Value} (h : VRL ι a xs) (k : VRL ι b ys) : VRL ι (a ++ b) (xs ++ ys) := by
  refine ⟨by simp [h.1, k.1], fun i v hi => ?_⟩
  rw [List.getElem?_append] at hi
  split at hi
  · obtain ⟨x, hx, hs⟩ := h.2 i v hi
    exact ⟨x, by rw [List.getElem?_append_left (by rw [← h.1]; assumption)]; exact hx, hs⟩
  · rename_i hge
    obtain ⟨x, hx, hs⟩ := k.2 _ v hi
    exact ⟨x, by rw [List.getElem?_append_right (by rw [← h.1]; omega), ← h.1]; exact hx, hs⟩
def CallsV (P : Program) (f : FuncId) (args : Array Value) (w : World) (R : Value → World → Prop) : Prop :=
  (∃ v w', (callFunc f args).run P w = .ok (.value v) w' ∧ R v w') ∨
  ((callFunc f args).run P w = .ok (.enter f args) w ∧ Calls P f args w fun e w' => ∃ v, e = .returned v ∧ R v w')
theorem CallsV.mono {P : Program} {f : FuncId} {args : Array Value} {w : World} {R R' : Value → World → Prop} (h : CallsV P f args w R) (hr : ∀ v w', R v w' → R' v w') : CallsV P f args w R' :=
  h.imp (fun ⟨v, w', e, r⟩ => ⟨v, w', e, hr _ _ r⟩) (fun ⟨e, c⟩ => ⟨e, c.mono fun _ _ ⟨v, h1, h2⟩ => ⟨v, h1, hr _ _ h2⟩⟩)
structure Grow (ι ι' : Inj) (n n' : Nat) : Prop where
  le : n ≤ n'
  same : ∀ id, id < n ∨ n' ≤ id → ι' id = ι id
theorem Grow.refl (ι : Inj) (n : Nat) : Grow ι ι n n := ⟨Nat.le_refl _, fun _ _ => rfl⟩
theorem Grow.trans {a b c : Inj} {n m k : Nat} (h : Grow a b n m) (h' : Grow b c m k) : Grow a c n k :=
  ⟨Nat.le_trans h.le h'.le, fun i hid => (h'.same i (hid.imp (fun x => Nat.lt_of_lt_of_le x h.le) (fun x => x))).trans (h.same i (hid.imp (fun x => x) fun x => Nat.le_trans h'.le x))⟩
theorem Grow.fresh {a b : Inj} {n m : Nat} (h : Grow a b n m) (hf : Fresh a n) : Fresh b m := fun id hid => by rw [h.same id (.inr hid)]; exact hf id (Nat.le_trans h.le hid)
def Inj.frz (ι : Inj) (F : Nat → Option Frz) : Inj := { ι with fz := F }
theorem Inj.le_frz {ι : Inj} {F : Nat → Option Frz} (h : ∀ k f, ι.fz k = some f → F k = some f) : ι.le (ι.frz F) := ⟨fun _ _ h => h, h⟩
structure RC (ι : Inj) (w w' : World) (nid : Nat) (v : AV) (ob : Option Blk) (x : Value) : Prop where
  os : w'.os = w.os
  tape : w'.tape = w.tape
  output : w'.output = w.output
  size : w.heap.size ≤ w'.heap.size
  frame : ∀ k, k < w.heap.size → w'.heap[k]? = w.heap[k]?
  res : ∃ F : Nat → Option Frz, (∀ k f, ι.fz k = some f → F k = some f) ∧ (∀ k f, F k = some f → ι.fz k = some f ∨ (w.heap.size ≤ k ∧ FzR (ι.frz F) w' k f)) ∧
    match ob with
    | none => VR (ι.frz F) v x
    | some b => ∃ p, (p.lim ≠ 0 → w.heap.size ≤ p.blk ∧ F p.blk = none) ∧ BlkR ((ι.frz F).upd nid p) w' nid ⟨nid, false, b⟩ ∧ VR ((ι.frz F).upd nid p) v x
theorem RC.of {ι : Inj} {w w' : World} {nid : Nat} {v : AV} {ob : Option Blk} {x : Value} (os : w'.os = w.os) (tape : w'.tape = w.tape) (output : w'.output = w.output) (size : w.heap.size ≤ w'.heap.size) (frame : ∀ k, k < w.heap.size → w'.heap[k]? = w.heap[k]?)
    (hf : ∀ k f, ι.fz k = some f → k < w.heap.size) (res : match ob with | none => VR ι v x | some b => ∃ p, (p.lim ≠ 0 → w.heap.size ≤ p.blk) ∧ BlkR (ι.upd nid p) w' nid ⟨nid, false, b⟩ ∧ VR (ι.upd nid p) v x) : RC ι w w' nid v ob x := by
  refine ⟨os, tape, output, size, frame, ι.fz, fun _ _ h => h, fun _ _ h => .inl h, ?_⟩
  cases ob with
  | none => exact res
  | some b =>
    obtain ⟨p, h1, h2, h3⟩ := res
    refine ⟨p, fun hn => ⟨h1 hn, ?_⟩, h2, h3⟩
    cases hk : ι.fz p.blk with
    | none => rfl
    | some f => have := hf _ _ hk; have := h1 hn; omega
theorem HRel.fz_lt {ι : Inj} {h : Heap} {w : World} (R : HRel ι h w) : ∀ k f, ι.fz k = some f → k < w.heap.size := fun k f hk => (R.fz k f hk).1.lt
theorem REff.RC {ι : Inj} {w w' : World} {nid : Nat} {v : AV} {ob : Option Blk} {x : Value} (hf : ∀ k f, ι.fz k = some f → k < w.heap.size) (hn : ι nid = none) (h : REff ι w w' nid v ob x) : RC ι w w' nid v ob x := by
  cases ob with
  | none =>
    obtain ⟨h1, h2, h3, h4, h5⟩ := h
    exact .of h2 h3 h4 (by rw [h1]; exact Nat.le_refl _) (fun k _ => by rw [h1]) hf h5
  | some b =>
    rcases h with ⟨os, tape, output, arr, el, fz, hh, wf, hle, hz, hc, hfz, hv⟩ | ⟨s, rfl, rfl, rfl, rfl⟩
    · refine .of os tape output (by rw [hh]; simp) (fun k hk => by rw [hh, Array.getElem?_push, if_neg (by omega)]) hf ⟨⟨w.heap.size, 0, b.cells.length, arr.size⟩, fun _ => Nat.le_refl _, ?_, hv⟩
      exact ⟨_, Inj.upd_same _ _ _, wf, rfl, hz, fun _ => .inl ⟨arr, el, fz, by rw [hh]; simp, rfl, by simpa using hle, fun i v hi => let ⟨x, hx, hs⟩ := hc i v hi; ⟨x, by simpa using hx, hs.mono (Inj.le_upd hn)⟩, fun _ => hfz⟩⟩
    · refine .of rfl rfl rfl (by show _ ≤ (w.heap.push _).size; simp) (fun k hk => by show (w.heap.push _)[k]? = _; rw [Array.getElem?_push, if_neg (by omega)]) hf ⟨⟨w.heap.size, 0,1,1⟩, fun _ => Nat.le_refl _, ⟨_, Inj.upd_same _ _ _, trivial, rfl, (fun h => by cases h), fun _ => .inr ⟨rfl, World.iter_heap w s 0⟩⟩, ⟨_, Inj.upd_same _ _ _, rfl⟩⟩
def getIns (h : Heap) (nid : Nat) (ob : Option Blk) (id : Nat) : Option Cell :=
  match ob with
  | none => h.get id
  | some b => if id = nid then some ⟨nid, false, b⟩ else h.get id
theorem RC.grow {ι : Inj} {w w' : World} {nid : Nat} {v : AV} {ob : Option Blk} {x : Value} {h h' : Heap} (E : RC ι w w' nid v ob x) (R : HRel ι h w) (hn : ι nid = none)
    (hget : ∀ id, h'.get id = getIns h nid ob id) :
    ∃ ι', VR ι' v x ∧ HRel ι' h' w' ∧ Step ι h w ι' h' w' ∧ ∀ id, (id ≠ nid ∨ ob = none) → ι' id = ι id := by
  obtain ⟨os, tape, output, size, frame, F, hF1, hF2, res⟩ := E
  have hlF : ι.le (ι.frz F) := Inj.le_frz hF1
  cases ob with
  | none =>
    simp only [getIns] at hget res
    have hs : ∀ id c, h'.get id = some c → h.get id = some c := fun id c hc => by rw [← hget]; exact hc
    refine ⟨ι.frz F, res, ⟨fun id c hg => (R.blk id c (hs _ _ hg)).world hlF fun p hp hlim => frame _ (R.blk_lt (hs _ _ hg) hp hlim), fun k f hk => ?_, fun id1 c1 p1 id2 c2 p2 g1 g2 => R.disj id1 c1 p1 id2 c2 p2 (hs _ _ g1) (hs _ _ g2)⟩, ⟨hlF, os, tape, output, size, fun k hk _ => frame k hk, ?_, fun k f hk => (hF2 k f hk).imp id fun h => .inr h.1⟩, fun _ _ => rfl⟩
    · rcases hF2 k f hk with h1 | ⟨h1, h2⟩
      · obtain ⟨f1, f2⟩ := R.fz k f h1
        exact ⟨f1.world hlF (frame k f1.lt), fun id c p hg => f2 id c p (hs _ _ hg)⟩
      · exact ⟨h2, fun id c p hg hro hp hlim => by have := R.blk_lt (hs _ _ hg) hp hlim; omega⟩
    · rintro k ⟨id, c, p, hg, hro, hp, hlim, rfl⟩
      exact .inl ⟨id, c, p, hs _ _ hg, hro, hp, hlim, rfl⟩
  | some b =>
    simp only [getIns] at hget res
    obtain ⟨p, hp, hb, hv⟩ := res
    have hl0 : (ι.frz F).le ((ι.frz F).upd nid p) := Inj.le_upd hn
    have hl : ι.le ((ι.frz F).upd nid p) := hlF.trans hl0
    have old : ∀ {id c q}, h.get id = some c → id ≠ nid → ((ι.frz F).upd nid p) id = some q → q.lim ≠ 0 → q.blk < w.heap.size := by
      intro id c q hg hne hq hlim
      rw [Inj.upd_ne _ _ hne] at hq
      exact R.blk_lt hg hq hlim
    refine ⟨_, hv, ⟨?_, fun k f hk => ?_, ?_⟩, ⟨hl, os, tape, output, size, fun k hk _ => frame k hk, ?_, fun k f hk => (hF2 k f hk).imp id fun h => .inr h.1⟩, fun id hid => Inj.upd_ne _ _ (hid.resolve_right (by simp))⟩
    · intro id c hg
      rw [hget] at hg
      split at hg
      · rename_i e; subst e; cases hg; exact hb
      · exact (R.blk id c hg).world hl fun q hq hlim => frame _ (R.blk_lt hg hq hlim)
    · rcases hF2 k f hk with h1 | ⟨h1, h2⟩
      · obtain ⟨f1, f2⟩ := R.fz k f h1
        refine ⟨f1.world hl (frame k f1.lt), fun id c q hg hro hq hlim => ?_⟩
        rw [hget] at hg
        split at hg
        · rename_i e
          subst e
          rw [Inj.upd_same] at hq; cases hq
          have := (hp hlim).1
          have := f1.lt
          omega
        · rename_i e
          rw [Inj.upd_ne _ _ e] at hq
          exact f2 id c q hg hro hq hlim
      · refine ⟨h2.world hl0 rfl, fun id c q hg hro hq hlim => ?_⟩
        rw [hget] at hg
        split at hg
        · rename_i e
          subst e
          rw [Inj.upd_same] at hq; cases hq
          rintro rfl
          have := (hp hlim).2
          rw [show F p.blk = some f from hk] at this
          cases this
        · rename_i e
          have := old hg e hq hlim
          omega
    · intro id1 c1 p1 id2 c2 p2 g1 g2 hne hro h1 h2 n1 n2
      rw [hget] at g1 g2
      split at g1 <;> split at g2
      · rename_i e1 e2; exact absurd (e1.trans e2.symm) hne
      · rename_i e1 e2
        subst e1
        rw [Inj.upd_same] at h1; cases h1
        have a1 := (hp n1).1
        have a2 := old g2 e2 h2 n2
        omega
      · rename_i e1 e2
        subst e2
        rw [Inj.upd_same] at h2; cases h2
        have a1 := (hp n2).1
        have a2 := old g1 e1 h1 n1
        omega
      · rename_i e1 e2
        rw [Inj.upd_ne _ _ e1] at h1
        rw [Inj.upd_ne _ _ e2] at h2
        exact R.disj id1 c1 p1 id2 c2 p2 g1 g2 hne hro h1 h2 n1 n2
    · rintro k ⟨id, c, q, hg, hro, hq, hlim, rfl⟩
      rw [hget] at hg
      split at hg
      · rename_i e
        subst e
        rw [Inj.upd_same] at hq; cases hq
        exact .inr (hp hlim).1
      · rename_i e
        rw [Inj.upd_ne _ _ e] at hq
        exact .inl ⟨id, c, q, hg, hro, hq, hlim, rfl⟩
def Eff (ι : Inj) (h : Heap) (w : World) (v : AV) (h' : Heap) (x : Value) (w' : World) : Prop :=
  ∃ ι', VR ι' v x ∧ HRel ι' h' w' ∧ Step ι h w ι' h' w' ∧ Grow ι ι' h.next h'.next
def Factor (o : List AV → Heap → (AV → Heap → Option Res) → Option Res) : Prop := ∀ args h κ, o args h κ = (o args h kH).bind fun p => κ p.1 p.2
structure FullOk (P : Program) (f : FuncId) (o : List AV → Heap → (AV → Heap → Option Res) → Option Res) : Prop where
  factor : Factor o
  sound : ∀ args h v h' ι w (vs : Array Value), o args h kH = some (v, h') → HRel ι h w → Fresh ι h.next → VRL ι args vs.toList → CallsV P f vs w fun x w' => Eff ι h w v h' x w'
def PureOk (P : Program) (f : FuncId) (o : Nat → List AV → Heap → Option (AV × Option Blk)) : Prop :=
  ∀ nid args h v ob ι w (vs : Array Value), o nid args h = some (v, ob) → HRel ι h w → ι nid = none → VRL ι args vs.toList → CallsV P f vs w fun x w' => RC ι w w' nid v ob x
def OrcOk (P : Program) (f : FuncId) : Orc → Prop
  | .pure o => PureOk P f o
  | .full o => FullOk P f o
def EnvOk (P : Program) (Γ : Env) : Prop := ∀ f o, Γ f = some o → OrcOk P f o
def obH (h : Heap) : Option Blk → Heap
  | none => h
  | some b => h.new b
theorem new_get {h : Heap} {ι : Inj} {w : World} {ob : Option Blk} (R : HRel ι h w) (hn : ι h.next = none) :
    ∀ id, (obH h ob).get id = getIns h h.next ob id := by
  intro id
  cases ob with
  | none => rfl
  | some b => exact get_new (R.dom hn)
theorem callK_factor {P : Program} {Γ : Env} (hΓ : EnvOk P Γ) (f : FuncId) (args : List AV) (h : Heap) (κ : AV → Heap → Option Res) : callK Γ f args h κ = (callK Γ f args h kH).bind fun p => κ p.1 p.2 := by
  unfold callK
  split
  · rename_i o _
    simp only [Option.bind_assoc]
    congr 1; funext r
    split <;> rfl
  · rename_i o ho
    exact (hΓ f _ ho).factor args h κ
  · rfl
theorem callK_sound {P : Program} {Γ : Env} (hΓ : EnvOk P Γ) {f : FuncId} {args : List AV} {h h' : Heap} {v : AV} {ι : Inj} {w : World} {vs : Array Value} (hk : callK Γ f args h kH = some (v, h')) (R : HRel ι h w) (hf : Fresh ι h.next) (ha : VRL ι args vs.toList) :
    CallsV P f vs w fun x w' => Eff ι h w v h' x w' := by
  unfold callK at hk
  split at hk
  · rename_i o ho
    cases hr : o h.next args h with
    | none => rw [hr] at hk; cases hk
    | some r =>
      obtain ⟨v', ob⟩ := r
      rw [hr] at hk
      have hn : ι h.next = none := hf _ (Nat.le_refl _)
      refine ((hΓ f _ ho) h.next args h v' ob ι w vs hr R hn ha).mono fun x w' E => ?_
      have hh : v' = v ∧ obH h ob = h' := by
        clear E
        cases ob <;> simpa [kH, obH] using hk
      obtain ⟨rfl, rfl⟩ := hh
      obtain ⟨ι', h1, h2, h3, h4⟩ := E.grow (h' := obH h ob) R hn (new_get R hn)
      refine ⟨ι', h1, h2, h3, ?_, fun id hid => ?_⟩
      · cases ob with
        | none => exact Nat.le_refl _
        | some b => exact Nat.le_succ _
      · cases ob with
        | none => exact h4 id (.inr rfl)
        | some b => exact h4 id (.inl (by simp only [obH, Heap.new] at hid; omega))
  · rename_i o ho
    exact (hΓ f _ ho).sound args h v h' ι w vs hk R hf ha
  · cases hk
def lowC (o : Oper) (ao : AOp) : Bool :=
  match o.op, ao with
  | .call { callee := .value (.func f), args, argTypes }, .call f' args' => f == f' && lowOpds args.toList args'
  | .call { callee := .value x, args, argTypes }, .callV x' args' => lowOpd x x' && lowOpds args.toList args'
  | _, _ => false
def lowOp (P : Program) (o : Oper) (ao : AOp) : Bool :=
  match ao.cls with
  | .P => lowP P o ao
  | .R => lowR P o ao
  | .W => lowW P o ao || lowC o ao
def OpRuns (P : Program) (ρ : Operand → Value) (o : Oper) (w : World) (R : Value → World → Prop) : Prop :=
  (∃ x w', (execOp ρ o).run P w = .ok (.value x) w' ∧ R x w') ∨ (∃ w', (execOp ρ o).run P w = .ok .skip w' ∧ R undef w') ∨
  (∃ f args, (execOp ρ o).run P w = .ok (.enter f args) w ∧ Calls P f args w fun e w' => ∃ v, e = .returned v ∧ R v w')
theorem OpRuns.wp {P : Program} {o : Oper} {a : Act} {w : World} {R : Value → World → Prop} {next : Act → World → Prop} {Q : Exit → Act → World → Prop} (h : OpRuns P a.eval o w R) (hn : ∀ x w', R x w' → next (a.put o.dst x) w') : o.wp P a w next Q := by
  unfold Oper.wp
  rcases h with ⟨x, w', e, r⟩ | ⟨w', e, r⟩ | ⟨f, args, e, c⟩
  · rw [e]; exact hn _ _ r
  · rw [e]; exact hn _ _ r
  · rw [e]
    exact c.mono fun e w' ⟨v, he, r⟩ => by subst he; exact hn _ _ r
theorem OpRuns.mono {P : Program} {ρ : Operand → Value} {o : Oper} {w : World} {R R' : Value → World → Prop} (h : OpRuns P ρ o w R) (hr : ∀ x w', R x w' → R' x w') : OpRuns P ρ o w R' :=
  h.imp (fun ⟨x, w', e, r⟩ => ⟨x, w', e, hr _ _ r⟩) (Or.imp (fun ⟨w', e, r⟩ => ⟨w', e, hr _ _ r⟩) (fun ⟨f, args, e, c⟩ => ⟨f, args, e, c.mono fun _ _ ⟨v, h1, h2⟩ => ⟨v, h1, hr _ _ h2⟩⟩))
section
variable {P : Program} {ι : Inj} {t : List AV} {ρ : Operand → Value}
theorem CallsV.op {f : FuncId} {args : Array Value} {o : Oper} {w : World} {R : Value → World → Prop} (he : (execOp ρ o).run P w = (callFunc f args).run P w) (h : CallsV P f args w R) : OpRuns P ρ o w R := by
  rcases h with ⟨v, w', e, r⟩ | ⟨e, c⟩
  · exact .inl ⟨v, w', he.trans e, r⟩
  · exact .inr (.inr ⟨f, args, he.trans e, c⟩)
theorem lowOpds_VRL (ht : TR ι t ρ) {xs : Array Operand} {ys : List Opd} (h : lowOpds xs.toList ys = true) : VRL ι (ys.map (·.ev t)) (xs.map ρ).toList := by
  have := lowOpds_VR ht h
  simp only [Array.toList_map]
  exact this
theorem opW_factor {Γ : Env} (hΓ : EnvOk P Γ) (op : AOp) (t : List AV) (h : Heap) (κ : AV → Heap → Option Res) : opW Γ op t h κ = (opW Γ op t h kH).bind fun p => κ p.1 p.2 := by
  unfold opW
  cases op <;> simp only [] <;> first
    | rfl
    | exact storeK_factor .. | exact appendIK_factor .. | exact appendRK_factor .. | exact copyIK_factor .. | exact nextK_factor .. | exact callK_factor hΓ ..
    | (split
       · exact callK_factor hΓ ..
       · rfl)
theorem WEff.eff' {h h' : Heap} {w w' : World} {v : AV} {nx : Next} (E : WEff ι h w v h' nx w') : ∃ x, (nx = .value x ∨ (nx = .skip ∧ x = undef)) ∧ Eff ι h w v h' x w' := by
  obtain ⟨ι', hv, h1, h2, h3⟩ := E
  have g : Grow ι ι' h.next h'.next := by
    rcases h3 with ⟨e, rfl⟩ | ⟨e, hs⟩
    · rw [e]; exact .refl _ _
    · exact ⟨by omega, fun id hid => hs id (by omega)⟩
  rcases hv with ⟨x, e, hx⟩ | ⟨e, rfl⟩
  · exact ⟨x, .inl e, ι', hx, h1, h2, g⟩
  · exact ⟨undef, .inr ⟨e, rfl⟩, ι', trivial, h1, h2, g⟩
theorem opW_sound {Γ : Env} (hΓ : EnvOk P Γ) {o : Oper} {ao : AOp} {h h' : Heap} {w : World} {v : AV} (hl : (lowW P o ao || lowC o ao) = true) (ht : TR ι t ρ) (R : HRel ι h w) (hf : Fresh ι h.next) (hk : opW Γ ao t h kH = some (v, h')) :
    OpRuns P ρ o w fun x w' => Eff ι h w v h' x w' := by
  have hn : ι h.next = none := hf _ (Nat.le_refl _)
  have fin : ∀ {nx : Next} {w' : World}, (execOp ρ o).run P w = .ok nx w' → WEff ι h w v h' nx w' → OpRuns P ρ o w fun x w' => Eff ι h w v h' x w' := by
    intro nx w' e E
    obtain ⟨x, hx, E'⟩ := E.eff'
    rcases hx with rfl | ⟨rfl, rfl⟩
    · exact .inl ⟨x, w', e, E'⟩
    · exact .inr (.inl ⟨w', e, E'⟩)
  rw [Bool.or_eq_true] at hl
  rcases hl with hl | hl
  · unfold lowW at hl
    split at hl <;> try (cases hl; done)
    · rename_i ty x y n x' y' ho
      simp only [Bool.and_eq_true, beq_iff_eq] at hl
      obtain ⟨u, h1, w', e1, e2, E⟩ := storeK_sound R (ht _ _ hl.1.2) (ht _ _ hl.2) hl.1.1 hk
      simp only [kH, Option.some.injEq, Prod.mk.injEq] at e1
      obtain ⟨rfl, rfl⟩ := e1
      exact fin (by unfold execOp; rw [ho]; simp [e2]) E
    · rename_i args argTypes k bytes s' x' ho
      split at hl <;> try (cases hl; done)
      rename_i s x ty u hargs htys
      simp only [Bool.and_eq_true] at hl
      have ha : args = #[s, x] := by rw [← Array.toArray_toList (xs := args), hargs]
      have hat : argTypes = #[ty, u] := by rw [← Array.toArray_toList (xs := argTypes), htys]
      subst ha hat
      obtain ⟨u', h1, y, w', e1, e2, E⟩ := appendIK_sound (ty := o.type) R hn (ht _ _ hl.1.1.1) (ht _ _ hl.1.1.2) hl.1.2 hl.2 hk
      simp only [kH, Option.some.injEq, Prod.mk.injEq] at e1
      obtain ⟨rfl, rfl⟩ := e1
      exact fin (by unfold execOp; rw [ho]; simp [resolve, invoke, builtin, e2]) E
    · rename_i args argTypes e bytes s' x' ho
      split at hl <;> try (cases hl; done)
      rename_i s x ty u hargs htys
      simp only [Bool.and_eq_true] at hl
      have ha : args = #[s, x] := by rw [← Array.toArray_toList (xs := args), hargs]
      have hat : argTypes = #[ty, u] := by rw [← Array.toArray_toList (xs := argTypes), htys]
      subst ha hat
      obtain ⟨u', h1, y, w', e1, e2, E⟩ := appendRK_sound (ty := o.type) R hn (ht _ _ hl.1.1.1) (ht _ _ hl.1.1.2) hl.1.2 hl.2 hk
      simp only [kH, Option.some.injEq, Prod.mk.injEq] at e1
      obtain ⟨rfl, rfl⟩ := e1
      exact fin (by unfold execOp; rw [ho]; simp [resolve, invoke, builtin, e2]) E
    · rename_i it x' ho
      obtain ⟨u', h1, y, w', e1, e2, E⟩ := nextK_sound (ty := o.type) R (ht _ _ hl) hk
      simp only [kH, Option.some.injEq, Prod.mk.injEq] at e1
      obtain ⟨rfl, rfl⟩ := e1
      exact fin (exec_v' (s := Instr.next (ρ it) true o.type) (by unfold execOp; rw [ho]) e2) E
    · rename_i args argTypes d' s' ho
      split at hl <;> try (cases hl; done)
      rename_i d s ty u hargs htys
      simp only [Bool.and_eq_true] at hl
      have ha : args = #[d, s] := by rw [← Array.toArray_toList (xs := args), hargs]
      have hat : argTypes = #[ty, u] := by rw [← Array.toArray_toList (xs := argTypes), htys]
      subst ha hat
      obtain ⟨u', h1, y, w', e1, e2, E⟩ := copyIK_sound (ty := o.type) (u := u) R (ht _ _ hl.1.1) (ht _ _ hl.1.2) hl.2 hk
      simp only [kH, Option.some.injEq, Prod.mk.injEq] at e1
      obtain ⟨rfl, rfl⟩ := e1
      exact fin (by unfold execOp; rw [ho]; simp [resolve, invoke, builtin, e2]) E
  · unfold lowC at hl
    split at hl <;> try (cases hl; done)
    · rename_i f args argTypes f' args' ho
      simp only [Bool.and_eq_true, beq_iff_eq] at hl
      obtain ⟨rfl, hl⟩ := hl
      have ha := lowOpds_VRL ht hl
      have hv : VR ι (.func f [] []) (ρ (.func f)) := ht (.func f) (.c (.func f [] [])) (by simp [lowOpd])
      obtain ⟨xs, ys, e, h1, h2⟩ := hv.func
      have hx : xs = #[] := Array.eq_empty_of_size_eq_zero h1.1.symm
      have hy : ys = #[] := Array.eq_empty_of_size_eq_zero h2.1.symm
      subst hx hy
      exact CallsV.op (by unfold execOp; rw [ho]; simp [resolve, Deferred.ofValue, e, invoke]) (callK_sound hΓ hk R hf ha)
    · rename_i x args argTypes x' args' ho
      simp only [Bool.and_eq_true] at hl
      have ha := lowOpds_VRL ht hl.2
      have hx := ht _ _ hl.1
      simp only [opW] at hk
      split at hk <;> try (cases hk; done)
      rename_i f a b hfv
      rw [hfv] at hx
      obtain ⟨xs, ys, e, h1, h2⟩ := hx.func
      refine CallsV.op (f := f) (args := xs ++ args.map ρ ++ ys) (by unfold execOp; rw [ho]; simp [resolve, Deferred.ofValue, e, invoke]) (callK_sound hΓ hk R hf ?_)
      simp only [Array.toList_append]
      exact ((VRL.of_VAL h1).append ha).append (VRL.of_VAL h2)
end
structure RelF (ι : Inj) (t : List AV) (h : Heap) (a : Act) (w : World) : Prop where
  rel : Rel ι t h a w
  fresh : Fresh ι h.next
def lowGuard (ops : Array Oper) (g ag : Option (Nat × Bool)) : Bool :=
  match g, ag with
  | none, none => true
  | some (j, want), some (s, want') => want == want' && ((ops[j]?).bind (·.dst)) == some s
  | _, _ => false
def lowOper (P : Program) (ops : Array Oper) (o : Oper) (ao : AOper) : Bool := o.dst == ao.dst && lowOp P o ao.op && lowGuard ops o.guard ao.guard
def lowOpers (P : Program) (ops : Array Oper) : List Oper → List AOper → Bool
  | [], [] => true
  | o :: r, ao :: s => lowOper P ops o ao && lowOpers P ops r s
  | _, _ => false
theorem lowOpers_get {P : Program} {ops : Array Oper} : ∀ {os : List Oper} {aos : List AOper}, lowOpers P ops os aos = true → os.length = aos.length ∧ ∀ (k : Nat) o ao, os[k]? = some o → aos[k]? = some ao → lowOper P ops o ao = true
  | [], [], _ => ⟨rfl, fun k o ao h => by simp at h⟩
  | o :: r, ao :: s, h => by
    simp only [lowOpers, Bool.and_eq_true] at h
    obtain ⟨h1, h2⟩ := lowOpers_get h.2
    refine ⟨by simp [h1], fun k o' ao' e1 e2 => ?_⟩
    cases k with
    | zero => simp at e1 e2; subst e1 e2; exact h.1
    | succ k => exact h2 k _ _ (by simpa using e1) (by simpa using e2)
  | [], _ :: _, h => by simp [lowOpers] at h
  | _ :: _, [], h => by simp [lowOpers] at h
section
variable {P : Program} {Γ : Env} {ι ι' : Inj} {t : List AV} {h h' : Heap} {a : Act} {w w' : World}
theorem Rel.TR (R : Rel ι t h a w) : TR ι t a.eval := .of R.tmps
theorem Rel.put {dst : Option Nat} {v : AV} {x : Value} (R : Rel ι t h a w) (hl : ι.le ι') (hv : VR ι' v x) (hh : HRel ι' h' w') : Rel ι' (putT t dst v) h' (a.put dst x) w' := by
  cases dst with
  | none => exact ⟨R.defers, R.len, fun i => (R.tmps i).mono hl, hh⟩
  | some d =>
    refine ⟨R.defers, by simp [putT, Act.put, R.len], fun i => ?_, hh⟩
    simp only [putT, Act.put, List.getD_eq_getElem?_getD, List.getElem?_set, Array.getD_eq_getD_getElem?, Array.getElem?_setIfInBounds]
    by_cases hd : d = i
    · subst hd
      simp only [if_true, R.len]
      split
      · exact hv
      · exact trivial
    · simp only [hd, if_false]
      have := (R.tmps i).mono hl
      simpa only [List.getD_eq_getElem?_getD, Array.getD_eq_getD_getElem?] using this
theorem aop_factor (hΓ : EnvOk P Γ) (op : AOp) (t : List AV) (h : Heap) (κ : AV → Heap → Option Res) : aop Γ op t h κ = (aop Γ op t h kH).bind fun p => κ p.1 p.2 := by
  unfold aop
  split
  · rw [opP_factor, opP_factor (κ := fun v => kH v h), Option.bind_assoc]; rfl
  · rw [opR_factor]
    conv => rhs; rw [opR_factor]
    rw [Option.bind_assoc]
    congr 1; funext p
    obtain ⟨v, ob⟩ := p
    cases ob <;> rfl
  · exact opW_factor hΓ ..
theorem aop_sound (hΓ : EnvOk P Γ) {ρ : Operand → Value} {o : Oper} {ao : AOp} {v : AV} (hl : lowOp P o ao = true) (ht : Am.TR ι t ρ) (R : HRel ι h w) (hf : Fresh ι h.next) (hk : aop Γ ao t h kH = some (v, h')) :
    OpRuns P ρ o w fun x w' => Eff ι h w v h' x w' := by
  unfold aop at hk
  unfold lowOp at hl
  split at hk
  · rename_i hc
    rw [hc] at hl
    obtain ⟨v', x, e, hx, hr⟩ := opP_sound hl ht hk
    simp only [kH, Option.some.injEq, Prod.mk.injEq] at e
    obtain ⟨rfl, rfl⟩ := e
    exact .inl ⟨x, w, hr w, ι, hx, R, .refl _ _ _, .refl _ _⟩
  · rename_i hc
    rw [hc] at hl
    have hn : ι h.next = none := hf _ (Nat.le_refl _)
    obtain ⟨v', ob, x, w', e, hr, E⟩ := opR_sound hl ht R hn hk
    have he : v' = v ∧ obH h ob = h' := by
      clear E
      cases ob <;> simpa [kH, obH] using e
    obtain ⟨rfl, rfl⟩ := he
    obtain ⟨ι', h1, h2, h3, h4⟩ := (E.RC R.fz_lt hn).grow (h' := obH h ob) R hn (new_get R hn)
    refine .inl ⟨x, w', hr, ι', h1, h2, h3, ?_, fun id hid => ?_⟩
    · cases ob with
      | none => exact Nat.le_refl _
      | some b => exact Nat.le_succ _
    · cases ob with
      | none => exact h4 id (.inr rfl)
      | some b => exact h4 id (.inl (by simp only [obH, Heap.new] at hid; omega))
  · rename_i hc
    rw [hc] at hl
    exact opW_sound hΓ hl ht R hf hk
theorem set_self {i : Nat} {b : Bool} (h : t.getD i .undef = .bool b) : t.set i (.bool b) = t := by
  apply List.ext_getElem?
  intro j
  rw [List.getElem?_set]
  split
  · rename_i e
    subst e
    rw [List.getD_eq_getElem?_getD] at h
    cases hg : t[i]? with
    | none => rw [hg] at h; cases h
    | some v => rw [hg] at h; simp at h; subst h; simp [(List.getElem?_eq_some_iff.1 hg).1]
  · rfl
theorem yielded_skip {ops : Array Oper} {tmps : Array Value} {j s : Nat} {ι : Inj} (hs : ((ops[j]?).bind (·.dst)) = some s) (h : VR ι (.tuple []) (tmps.getD s undef)) : yielded ops tmps j = none := by
  obtain ⟨xs, e, hl, _⟩ := h
  unfold yielded
  rw [hs]
  simp only [Option.bind_some]
  cases hq : tmps[s]? with
  | none => rfl
  | some y => rw [Array.getD_eq_getD_getElem?, hq] at e; simp at e; subst e; rfl
theorem guardK_spec {ops : Array Oper} {o : Oper} {g : Option (Nat × Bool)} {run skip : List AV → Option Res} {r : Res} (hg : lowGuard ops o.guard g = true) (R : Rel ι t h a w) (hk : guardK g t run skip = some r) :
    (Region.wanted o (yielded ops a.tmps) = true ∧ run t = some r) ∨ (Region.wanted o (yielded ops a.tmps) = false ∧ skip t = some r) := by
  unfold lowGuard at hg
  split at hg
  · rename_i ho
    left
    simp only [Region.wanted, ho, guardK] at hk ⊢
    exact ⟨trivial, hk⟩
  · rename_i j want s want' ho
    simp only [Bool.and_eq_true, beq_iff_eq] at hg
    obtain ⟨rfl, hs⟩ := hg
    simp only [guardK] at hk
    split at hk <;> try (cases hk; done)
    case h_2 hb =>
      right
      have hy := yielded_skip hs (by have := R.tmps s; rwa [hb] at this)
      simp only [Region.wanted, ho, hy]
      exact ⟨rfl, hk⟩
    rename_i b hb
    have hv := R.tmps s
    rw [hb] at hv
    have hv' : a.tmps.getD s undef = .bool b := hv.bool
    have hy : yielded ops a.tmps j = some b := by
      unfold yielded
      rw [hs]
      simp only [Option.bind_some]
      cases hq : a.tmps[s]? with
      | none => rw [Array.getD_eq_getD_getElem?, hq] at hv'; cases hv'
      | some y => rw [Array.getD_eq_getD_getElem?, hq] at hv'; simp at hv'; subst hv'; rfl
    simp only [Region.wanted, ho, hy]
    cases b <;> cases want <;> simp only [cond_true, cond_false, set_self hb] at hk <;> first
      | (left; exact ⟨rfl, hk⟩)
      | (right; exact ⟨rfl, hk⟩)
  · cases hg
theorem RelF.eff {dst : Option Nat} {v : AV} {x : Value} (R : RelF ι t h a w) (E : Eff ι h w v h' x w') : ∃ ι', RelF ι' (putT t dst v) h' (a.put dst x) w' ∧ Step ι h w ι' h' w' ∧ Grow ι ι' h.next h'.next := by
  obtain ⟨ι', h1, h2, h3, h4⟩ := E
  exact ⟨ι', ⟨R.rel.put h3.le h1 h2, h4.fresh R.fresh⟩, h3, h4⟩
theorem evOps_sound (hΓ : EnvOk P Γ) {ops : Array Oper} {Q : Exit → Act → World → Prop} {κ : List AV → Heap → Option Res} {r : Res} : ∀ (aos : List AOper) (i : Nat) (ι : Inj) (t : List AV) (h : Heap) (a : Act) (w : World),
    (∀ (k : Nat) ao, aos[k]? = some ao → ∃ o, ops[i + k]? = some o ∧ lowOper P ops o ao = true) → RelF ι t h a w → evOps Γ aos t h κ = some r →
    (∀ ι' t' h' a' w', κ t' h' = some r → RelF ι' t' h' a' w' → Step ι h w ι' h' w' → Grow ι ι' h.next h'.next → Q .normal a' w') → wpOps P ops Q (List.range' i aos.length) a w
  | [], i, ι, t, h, a, w, _, R, hk, hq => hq ι t h a w hk R (.refl _ _ _) (.refl _ _)
  | ao :: aos, i, ι, t, h, a, w, hl, R, hk, hq => by
    obtain ⟨o, ho, hlo⟩ := hl 0 ao rfl
    simp only [Nat.add_zero] at ho
    have hl' : ∀ (k : Nat) ao', aos[k]? = some ao' → ∃ o, ops[i + 1 + k]? = some o ∧ lowOper P ops o ao' = true := fun k ao' hk => by
      obtain ⟨o', h1, h2⟩ := hl (k + 1) ao' (by simpa using hk)
      exact ⟨o', by rw [← h1]; congr 1; omega, h2⟩
    simp only [lowOper, Bool.and_eq_true, beq_iff_eq] at hlo
    obtain ⟨⟨hd, hop⟩, hgd⟩ := hlo
    simp only [List.length_cons, List.range'_succ, wpOps, ho]
    simp only [evOps] at hk
    rcases guardK_spec hgd R.rel hk with ⟨hw, hk⟩ | ⟨hw, hk⟩
    · rw [aop_factor hΓ] at hk
      cases hr : aop Γ ao.op t h kH with
      | none => rw [hr] at hk; cases hk
      | some p =>
        obtain ⟨v, h1⟩ := p
        rw [hr] at hk
        simp only [Option.bind_some] at hk
        simp only [hw, if_true]
        refine .inl (OpRuns.wp (aop_sound hΓ hop R.rel.TR R.rel.heap R.fresh hr) fun x w1 E => ?_)
        rw [hd]
        obtain ⟨ι1, R1, S1, G1⟩ := R.eff (dst := ao.dst) E
        exact evOps_sound hΓ aos (i + 1) ι1 _ h1 _ w1 hl' R1 hk fun ι' t' h' a' w' e R' S' G' => hq ι' t' h' a' w' e R' (S1.trans S') (G1.trans G')
    · simp only [hw, Bool.false_eq_true, if_false]
      rw [hd]
      exact evOps_sound hΓ aos (i + 1) ι _ h _ w hl' ⟨R.rel.put (v := .tuple []) (.refl _) ⟨#[], rfl, rfl, fun i v h => by cases h⟩ R.rel.heap, R.fresh⟩ hk hq
theorem region_sound (hΓ : EnvOk P Γ) {id : Nat} {ops : Array Oper} {Q : Exit → Act → World → Prop} {κ : List AV → Heap → Option Res} {r : Res} {aos : List AOper} (hl : lowOpers P ops ops.toList aos = true) (R : RelF ι t h a w) (hk : evOps Γ aos t h κ = some r)
    (hq : ∀ ι' t' h' a' w', κ t' h' = some r → RelF ι' t' h' a' w' → Step ι h w ι' h' w' → Grow ι ι' h.next h'.next → Q .normal a' w') : (Code.region id ops false).wp P Q a w := by
  obtain ⟨h1, h2⟩ := lowOpers_get hl
  refine wp_region ?_
  rw [List.range_eq_range', show ops.size = aos.length by simpa using h1]
  refine evOps_sound hΓ aos 0 ι t h a w (fun k ao hao => ?_) R hk hq
  have hlt : k < ops.size := by
    have := (List.getElem?_eq_some_iff.1 hao).1
    have h3 : ops.size = aos.length := by simpa using h1
    omega
  exact ⟨ops[k], by simp [hlt], h2 k _ _ (by simp [hlt]) hao⟩
end
end Go.Am
