/- RatchetKept: part 35 of 39 of its proof. -/
import Derived.Test.YtmkefajojokkfaaK33
import Derived.SizedLaws
import Derived.RowKit
import Derived.Below
import Derived.Laws.Externs
import Derived.Test.YtmkefajojokkfaaChecked
import Derived.Test.YtmkefajojokkfaaK29
import Derived.Test.YtmkefajojokkfaaK16
set_option linter.unusedVariables false
set_option linter.unusedSimpArgs false
/- What is known of slices in the arguments' parts. -/
namespace Go.Am
set_option linter.unusedSimpArgs false
structure HOkA (h : Heap) (args : List AV) : Prop extends HOk h args where
  aggR : ∀ l, AV.agg l ∈ args → ∀ s ∈ l, ∀ e xs, contR e h s = some xs → ∀ r ∈ xs, RowWf e r ∧ ArgsOk r
  aggI : ∀ l, AV.agg l ∈ args → ∀ s ∈ l, ∀ k xs, contI k h s = some xs → ∀ y ∈ xs, rng k y
theorem agg_cell {ι : Inj} {l : List AV} {x : Value} {s : AV} (h : VR ι (.agg l) x) (hs : s ∈ l) (hi : isSl s = true) : ∃ y, SR ι s y := by
  obtain ⟨cs, _, _, hc⟩ := h
  have hm : s ∈ cellsL l := by simp only [cellsL, List.mem_flatMap]; exact ⟨s, hs, by rw [isSl_segC hi]; simp⟩
  obtain ⟨i, hi⟩ := List.mem_iff_getElem?.1 hm
  obtain ⟨y, _, hy⟩ := hc.2 i s hi
  exact ⟨y, hy⟩
theorem HOkA.of {h : Heap} {w : World} {ι : Inj} {args : List AV} {vs : List Value} (R : HRel ι h w) (ha : VRL ι args vs) : HOkA h args where
  toHOk := .of R ha
  aggR := fun l hl s hs e xs hk => by
    obtain ⟨i, hi⟩ := List.mem_iff_getElem?.1 hl
    obtain ⟨x, _, hr⟩ := ha.2 i _ hi
    obtain ⟨y, hy⟩ := agg_cell hr hs (contR_isSl hk)
    exact viewR_ok R (.of_SR hy) hk
  aggI := fun l hl s hs k xs hk => by
    obtain ⟨i, hi⟩ := List.mem_iff_getElem?.1 hl
    obtain ⟨x, _, hr⟩ := ha.2 i _ hi
    obtain ⟨y, hy⟩ := agg_cell hr hs (contI_isSl hk)
    exact viewS_rng R (.of_SR hy) hk
theorem Fn.lit2 {P : Program} {f : FuncId} {Γ : Env} {af : AFn} (F : Fn P f Γ af) (aks : List AK) (rk : Option GK) {o' : Nat → List AV → Heap → Option (AV × Option Blk)}
    (h : ∀ nid args hp r, HOkA hp args → o' nid args hp = some r → ∃ args' bl, viewArgs hp args aks 0 = some (args', bl) ∧ bl.length ≤ 16 ∧ evFn Γ af args' ⟨16, bl⟩ (kOut rk nid) = some (r.1, encB nid r.2)) : PureOk P f o' := by
  intro nid args hp v ob ι w vs hk R hn ha
  obtain ⟨args', bl, h1, h2, h3⟩ := h nid args hp _ (.of R ha) hk
  exact @litP_ok P f aks rk 16 _ F.ok nid args hp v ob ι w vs (litP_run F h1 h2 h3) R hn ha
theorem sk_ok {s : Sk} (h : ArgsOk (skR s)) : SkOk s := by
  obtain ⟨⟨h1, h2⟩, h3, ⟨h4, h5⟩, _⟩ := h
  exact ⟨h1, h4, h2, h3, h5⟩
theorem rat_ok {r : Rat} {l : AV} (h : AOk (.agg (r.segs l))) : RatOk r := by
  obtain ⟨⟨a1, a2⟩, ⟨b1, b2⟩, ⟨c1, c2⟩, ⟨d1, d2⟩, ⟨e1, e2⟩, f, g, k, _⟩ := h
  exact ⟨a1, b1, c1, d1, e1, a2, b2, c2, d2, e2, f, g, k⟩
theorem HOkA.rat {h : Heap} {args : List AV} (H : HOkA h args) {r : Rat} {l : AV} (hm : AV.agg (r.segs l) ∈ args) {ss : List Sk} (hc : contR 65 h l = some (ss.map skR)) : RatOk r ∧ ∀ s ∈ ss, SkOk s := by
  refine ⟨rat_ok (AOkL_iff.1 H.ok _ hm), fun s hs => sk_ok ?_⟩
  exact (H.aggR _ hm l (by simp [Rat.segs]) 65 _ hc (skR s) (List.mem_map.2 ⟨s, hs, rfl⟩)).2
/-! ## Put, as an oracle -/
def rputV (r : Rat) (ss : List Sk) : AV := bif checkI r ss != 0 then .tuple [.nils, .int .i64 270] else .tuple [.isl .u8 (putB r ss), .int .i64 0]
def rputO : OrcP := fun _ args h => match args with
  | [v] => withRat v fun r l => withSks h l fun ss => some (rputV r ss, none)
  | _ => none
theorem rput_pure {P : Program} {f : FuncId} (F : Fn P f Pt0 afPut) : PureOk P f rputO := by
  refine F.lit2 [.agg [.rows 65]] none fun nid args hp r ha hr => ?_
  unfold rputO at hr
  split at hr <;> try (cases hr; done)
  obtain ⟨q, l, e, hr1⟩ := withRat_eq hr
  obtain ⟨ss, hc, hl, hr2⟩ := withSks_eq hr1
  cases hr2
  subst e
  obtain ⟨h1, h2⟩ := ha.rat (List.mem_singleton.2 rfl) hc
  refine ⟨_, _, by simp only [viewArgs, check_view hc, Option.bind_some, Option.map_some, List.append_nil]; rfl, by simp, ?_⟩
  refine (pt_run nid q _ ss h1 h2 hl).trans ?_
  unfold putR rputV
  cases checkI q ss != 0 <;> rfl
def rputC : OrcF := fun args h κ => match args with
  | [v] => withRat v fun r l => withSks h l fun ss => bif checkI r ss != 0 then κ (.tuple [.nils, .int .i64 270]) h else κ (.tuple [.isl .u8 (putB r ss), .int .i64 0]) h
  | _ => none
theorem rput_full {P : Program} {f : FuncId} (h : PureOk P f rputO) : FullOk P f rputC := by
  refine pure_full h fun args hp κ => ?_
  have e : ∀ r ss, (bif checkI r ss != 0 then κ (.tuple [.nils, .int .i64 270]) hp else κ (.tuple [.isl .u8 (putB r ss), .int .i64 0]) hp) = κ (rputV r ss) hp := fun r ss => by
    unfold rputV
    cases checkI r ss != 0 <;> rfl
  unfold rputC rputO
  split
  · simp only [withRat_map, withSks_map, Option.bind_some, obH, e]
  · rfl
end Go.Am
/- What is handed in: cells of a value as it is read. -/
namespace Go.Am
set_option linter.unusedSimpArgs false
theorem mapM_get {α β : Type} {f : α → Option β} : ∀ {l : List α} {r : List β}, l.mapM f = some r → r.length = l.length ∧ ∀ (i : Nat) a, l[i]? = some a → ∃ b, f a = some b ∧ r[i]? = some b
  | [], r, h => by
    simp only [List.mapM_nil] at h
    cases h
    exact ⟨rfl, fun i a ha => by simp at ha⟩
  | x :: l, r, h => by
    rw [List.mapM_cons] at h
    cases hx : f x with
    | none => rw [hx] at h; cases h
    | some b =>
      rw [hx] at h
      cases hr : l.mapM f with
      | none => rw [hr] at h; cases h
      | some r' =>
        rw [hr] at h
        cases h
        obtain ⟨h1, h2⟩ := mapM_get hr
        refine ⟨by simp [h1], fun i a ha => ?_⟩
        cases i with
        | zero => simp only [List.getElem?_cons_zero, Option.some.injEq] at ha; subst ha; exact ⟨b, hx, rfl⟩
        | succ i => simpa using h2 i a (by simpa using ha)
/-- The type of a cell. -/
def leafAt (P : Program) : Nat → TypeId → Nat → Option TypeId
  | 0, _, _ => none
  | n + 1, t, i => match P.underlying t with
    | some (.struct fs) => (fs.toList.find? fun f => decide (f.offset ≤ i) && decide (i < f.offset + P.cellsOf f.type)).bind fun f => leafAt P n f.type (i - f.offset)
    | some (.array m e) => if P.cellsOf e = 0 then none else if i / P.cellsOf e < m then leafAt P n e (i % P.cellsOf e) else none
    | some _ => if i = 0 then some t else none
    | none => none
section
variable {H : Type} {enc : TypeId × Value → H} {P : Program} {w : World} {base : Nat} {spare : Nat → Bool} {held : Bool}
theorem weightsAll_mem {e : TypeId} : ∀ {l : List (DataW H)} {d : DataW H}, d ∈ l → ∀ k ∈ d.weights P e, k ∈ DataW.weightsAll P e l
  | x :: l, d, hd, k, hk => by
    simp only [DataW.weightsAll, List.mem_append]
    rcases List.mem_cons.1 hd with rfl | hd
    · exact .inl hk
    · exact .inr (weightsAll_mem hd k hk)
theorem trod_one {fuel : Nat} {t : TypeId} {cs : List Value} {d : DataW H} {p : List MemPlace} (h1 : ∀ fs, P.underlying t ≠ some (.struct fs)) (h2 : ∀ n e, P.underlying t ≠ some (.array n e)) (h : DataW.trod enc P w base spare held fuel t cs = some (d, p)) : ∃ v, cs = [v] := by
  cases fuel with
  | zero => simp [DataW.trod] at h
  | succ fuel =>
    unfold DataW.trod at h
    split at h <;> first
      | exact ⟨_, rfl⟩
      | (rename_i hu; exact absurd hu (h1 _))
      | (rename_i hu; exact absurd hu (h2 _ _))
      | (cases h; done)
theorem trod_leaf : ∀ (n : Nat) (t : TypeId) (i : Nat) (u : TypeId) (fuel : Nat) (cs : List Value) (d : DataW H) (p : List MemPlace), leafAt P n t i = some u → DataW.trod enc P w base spare held fuel t cs = some (d, p) →
    ∃ v fuel' d' p', cs[i]? = some v ∧ DataW.trod enc P w base spare held fuel' u [v] = some (d', p') ∧ ∀ k ∈ d'.weights P u, k ∈ d.weights P t
  | 0, _, _, _, _, _, _, _, h, _ => by cases h
  | n + 1, t, i, u, fuel, cs, d, p, hl, h => by
    unfold leafAt at hl
    split at hl
    · rename_i fs hu
      cases hf : fs.toList.find? fun f => decide (f.offset ≤ i) && decide (i < f.offset + P.cellsOf f.type) with
      | none => rw [hf] at hl; cases hl
      | some f =>
        rw [hf] at hl
        simp only [Option.bind_some] at hl
        have hc := List.find?_some hf
        simp only [Bool.and_eq_true, decide_eq_true_eq] at hc
        obtain ⟨j, hj⟩ := List.mem_iff_getElem?.1 (List.mem_of_find?_eq_some hf)
        cases fuel with
        | zero => simp [DataW.trod] at h
        | succ fuel =>
          simp only [DataW.trod, hu] at h
          split at h <;> try (cases h; done)
          cases hm : fs.toList.mapM fun f => DataW.trod enc P w base spare held fuel f.type ((cs.drop f.offset).take (P.cellsOf f.type)) with
          | none => rw [hm] at h; cases h
          | some xs =>
            rw [hm] at h
            simp only [Option.map_some, Option.some.injEq, Prod.mk.injEq] at h
            obtain ⟨rfl, rfl⟩ := h
            obtain ⟨⟨d1, p1⟩, e1, e2⟩ := (mapM_get hm).2 j f hj
            obtain ⟨v, fuel', d', p', g1, g2, g3⟩ := trod_leaf n f.type (i - f.offset) u fuel _ d1 p1 hl e1
            refine ⟨v, fuel', d', p', ?_, g2, fun k hk => ?_⟩
            · rw [List.getElem?_take, if_pos (by omega), List.getElem?_drop] at g1
              rw [← g1]; congr 1; omega
            · simp only [DataW.weights, hu]
              exact DataW.weights_mem_each (j := j) (t := f.type) (d := d1) (by rw [List.getElem?_map, hj]; rfl) (by rw [List.getElem?_map, e2]; rfl) k (g3 k hk)
    · rename_i m e hu
      split at hl <;> try (cases hl; done)
      split at hl <;> try (cases hl; done)
      rename_i hz hlt
      cases fuel with
      | zero => simp [DataW.trod] at h
      | succ fuel =>
        simp only [DataW.trod, hu] at h
        split at h <;> try (cases h; done)
        cases hm : (List.range m).mapM fun i => DataW.trod enc P w base spare held fuel e ((cs.drop (i * P.cellsOf e)).take (P.cellsOf e)) with
        | none => rw [hm] at h; cases h
        | some xs =>
          rw [hm] at h
          simp only [Option.map_some, Option.some.injEq, Prod.mk.injEq] at h
          obtain ⟨rfl, rfl⟩ := h
          obtain ⟨⟨d1, p1⟩, e1, e2⟩ := (mapM_get hm).2 (i / P.cellsOf e) (i / P.cellsOf e) (by simp [hlt])
          obtain ⟨v, fuel', d', p', g1, g2, g3⟩ := trod_leaf n e (i % P.cellsOf e) u fuel _ d1 p1 hl e1
          have hml := Nat.mod_lt i (Nat.pos_of_ne_zero hz)
          refine ⟨v, fuel', d', p', ?_, g2, fun k hk => ?_⟩
          · rw [List.getElem?_take, if_pos hml, List.getElem?_drop] at g1
            rw [← g1]; congr 1
            have := Nat.div_add_mod i (P.cellsOf e)
            rw [Nat.mul_comm] at this
            omega
          · simp only [DataW.weights, hu]
            exact weightsAll_mem (List.mem_map.2 ⟨_, List.mem_of_getElem? e2, rfl⟩) k (g3 k hk)
    · rename_i x h1 h2 hu
      split at hl <;> try (cases hl; done)
      rename_i hi
      cases hl
      subst hi
      obtain ⟨v, rfl⟩ := trod_one (fun fs hf => by rw [hu] at hf; cases hf; exact h1 _ rfl) (fun m e hf => by rw [hu] at hf; cases hf; exact h2 _ _ rfl) h
      exact ⟨v, fuel, d, p, rfl, h, fun _ hk => hk⟩
    · cases hl
theorem wf_rng {k : IntKind} {n : Int} (h : (Lit.int k n).wf = true) : rng k n := by
  simp only [Lit.wf, Bool.and_eq_true, decide_eq_true_eq] at h
  intro hs
  cases k <;> simp [IntKind.signed, IntKind.bits, IntKind.min, IntKind.max] at hs h ⊢ <;> omega
theorem trod_int {fuel : Nat} {u : TypeId} {k : IntKind} {v : Value} {d : DataW H} {p : List MemPlace} (hu : P.underlying u = some (.int k)) (h : DataW.trod enc P w base spare held fuel u [v] = some (d, p)) : ∃ n, v = .int k n ∧ rng k n := by
  cases fuel with
  | zero => simp [DataW.trod] at h
  | succ fuel =>
    cases v <;> simp [DataW.trod, hu] at h
    obtain ⟨⟨rfl, hw⟩, _⟩ := h
    exact ⟨_, rfl, wf_rng hw⟩
/-- A slice as it is read: what lies in each of its places. -/
theorem trod_slice {fuel : Nat} {u e : TypeId} {v : Value} {d : DataW H} {p : List MemPlace} (hu : P.underlying u = some (.slice e)) (hz : 0 < P.cellsOf e) (h : DataW.trod enc P w base (fun _ => true) held fuel u [v] = some (d, p)) :
    (v = .slice none 0 0) ∨ ∃ a len cap, v = .slice (some a) len cap ∧ len ≤ cap ∧ cap * P.bytesOf e ∈ d.weights P u ∧ ∀ i, i < cap → a.spot = none ∧ ∃ arr el fz, w.heap[a.block]? = some (.cells arr el fz) ∧ a.off + (i + 1) * P.cellsOf e ≤ arr.size ∧
      ∃ cs, cs.length = P.cellsOf e ∧ (∀ j, j < P.cellsOf e → cs[j]? = arr[a.off + (i * P.cellsOf e + j)]?) ∧ ∃ fuel' d' p', DataW.trod enc P w base (fun _ => true) held fuel' e cs = some (d', p') := by
  cases fuel with
  | zero => simp [DataW.trod] at h
  | succ fuel =>
    cases v with
    | slice a len cap =>
      cases a with
      | none =>
        left
        unfold DataW.trod at h
        rw [hu] at h
        split at h <;> first
          | (rename_i h1 h2; cases h1; cases h2; rfl)
          | (rename_i h1 h2; cases h1; done)
          | (rename_i h1 h2; cases h2; done)
          | (cases h; done)
          | (rename_i h1; cases h1; done)
      | some a =>
        right
        simp only [DataW.trod, hu] at h
        split at h <;> try (cases h; done)
        rename_i hc
        obtain ⟨_, hlc, _⟩ := hc
        obtain ⟨el, hel⟩ : ∃ el : Nat → Option (DataW H × List MemPlace), ∀ i, (w.cells? base (a.add (i * P.cellsOf e)) (P.cellsOf e)).bind (DataW.trod enc P w base (fun _ => true) held fuel e) = el i := ⟨_, fun _ => rfl⟩
        simp only [hel] at h
        cases h1 : (List.range len).mapM (fun i => el i) with
        | none => rw [h1] at h; cases h
        | some elems =>
          rw [h1] at h
          simp only [Option.bind_some, if_true] at h
          cases h2 : (List.range (cap - len)).mapM fun j => el (len + j) with
          | none => rw [h2] at h; cases h
          | some rest =>
            rw [h2] at h
            simp only [Option.map_some, Option.some.injEq, Prod.mk.injEq] at h
            obtain ⟨rfl, _⟩ := h
            obtain ⟨l1, g1⟩ := mapM_get h1
            obtain ⟨l2, g2⟩ := mapM_get h2
            simp only [List.length_range] at l1 l2
            refine ⟨a, len, cap, rfl, hlc, ?_, fun i hi => ?_⟩
            · simp only [DataW.weights, hu, List.length_map, l1, l2]
              rw [show len + (cap - len) = cap by omega]
              simp
            · have key : ∀ i, i < cap → ∃ cs, cs.length = P.cellsOf e ∧ (∀ j, j < P.cellsOf e → ∃ x, w.cell? (a.add (i * P.cellsOf e + j)) = some x ∧ cs[j]? = some x) ∧ ∃ fuel' d' p', DataW.trod enc P w base (fun _ => true) held fuel' e cs = some (d', p') := by
                intro i hi
                have hsome : ∃ b, el i = some b := by
                  by_cases hlt : i < len
                  · obtain ⟨b, hb, _⟩ := g1 i i (by simp [hlt]); exact ⟨b, hb⟩
                  · obtain ⟨b, hb, _⟩ := g2 (i - len) (i - len) (by rw [List.getElem?_range (by omega)])
                    exact ⟨b, by rw [← hb]; congr 1; omega⟩
                obtain ⟨⟨d', p'⟩, hb⟩ := hsome
                rw [← hel] at hb
                cases hcs : w.cells? base (a.add (i * P.cellsOf e)) (P.cellsOf e) with
                | none => rw [hcs] at hb; cases hb
                | some cs =>
                  rw [hcs] at hb
                  simp only [Option.bind_some] at hb
                  unfold World.cells? at hcs
                  split at hcs <;> try (cases hcs; done)
                  obtain ⟨l3, g3⟩ := mapM_get hcs
                  simp only [List.length_range] at l3
                  refine ⟨cs, l3, fun j hj => ?_, fuel, d', p', hb⟩
                  obtain ⟨x, hx, hxs⟩ := g3 j j (by simp [hj])
                  refine ⟨x, ?_, hxs⟩
                  rw [← hx]
                  congr 1
                  unfold Addr.add
                  by_cases h0 : i * P.cellsOf e = 0 <;> by_cases hj0 : j = 0 <;> simp [h0, hj0] <;> omega
              have hspot : a.spot = none := by
                obtain ⟨_, _, hc, _⟩ := key 0 (by omega)
                obtain ⟨x, hx, _⟩ := hc 0 hz
                rw [Nat.zero_mul] at hx
                unfold World.cell? at hx
                have e0 : a.add (0 + 0) = a := by simp [Addr.add]
                rw [e0] at hx
                split at hx
                · split at hx
                  · cases hx
                  · rename_i hn; simpa using hn
                · cases hx
              obtain ⟨cs, l3, hc, ht⟩ := key i hi
              have hadd : ∀ m, a.add m = ⟨a.block, a.off + m, none⟩ := fun m => by
                unfold Addr.add
                split
                · rename_i h0; subst h0; cases a; simp only at hspot; subst hspot; rfl
                · rfl
              have hcell : ∀ j, j < P.cellsOf e → ∃ arr el fz, w.heap[a.block]? = some (.cells arr el fz) ∧ cs[j]? = arr[a.off + (i * P.cellsOf e + j)]? ∧ a.off + (i * P.cellsOf e + j) < arr.size := fun j hj => by
                obtain ⟨x, hx, hxs⟩ := hc j hj
                rw [hadd] at hx
                unfold World.cell? at hx
                simp only at hx
                split at hx
                · rename_i arr el fz hh
                  simp only [Option.isSome_none, Bool.false_eq_true, if_false] at hx
                  exact ⟨arr, el, fz, hh, hxs.trans hx.symm, (Array.getElem?_eq_some_iff.1 hx).1⟩
                · cases hx
              obtain ⟨arr, el', fz, hh, _, _⟩ := hcell 0 hz
              refine ⟨hspot, arr, el', fz, hh, ?_, cs, l3, fun j hj => ?_, ht⟩
              · obtain ⟨arr', _, _, hh', _, hlt⟩ := hcell (P.cellsOf e - 1) (by omega)
                rw [hh] at hh'
                cases hh'
                rw [Nat.add_mul]
                omega
              · obtain ⟨arr', _, _, hh', heq, _⟩ := hcell j hj
                rw [hh] at hh'
                cases hh'
                exact heq
    | _ => simp [DataW.trod, hu] at h
end
end Go.Am
/- What is handed in: rows of numbers, rows of keys, ratchets. -/
namespace Go.Am
set_option linter.unusedSimpArgs false
set_option maxRecDepth 100000
def inj0 : Inj := ⟨fun _ => none, fun _ => none⟩
def numOf : Option Value → Int
  | some (.int _ n) => n
  | _ => 0
/-- Numbers of places from an offset on. -/
def numsAt (g : Nat → Int) (o n : Nat) : List Int := (List.range n).map fun i => g (o + i)
theorem numsAt_len (g : Nat → Int) (o n : Nat) : (numsAt g o n).length = n := by simp [numsAt]
/-- A view of a slice that is handed in. -/
def Seen (w : World) (v : Value) (len e : Nat) (b : Blk) : Prop := ∃ q : Place, ∀ (ι' : Inj) n, ι' n = some q → VR ι' (.slice n 0 0 len e none) v ∧ BlkR ι' w n ⟨n, true, b⟩
section
variable {H : Type} {enc : TypeId × Value → H} {P : Program} {w : World} {base : Nat} {held : Bool}
theorem cells_nums (k : IntKind) (n : Nat) (xs : List Int) : (Blk.segs [.ints k n xs]).cells = xs.map (.int k) := by simp [Blk.cells, cellsL, segC]
theorem entry_ints {fuel : Nat} {u e : TypeId} {k : IntKind} {v : Value} {d : DataW H} {p : List MemPlace} (hu : P.underlying u = some (.slice e)) (he : P.underlying e = some (.int k)) (hc : P.cellsOf e = 1)
    (h : DataW.trod enc P w base (fun _ => true) held fuel u [v] = some (d, p)) : ∃ xs : List Int, (∀ x ∈ xs, rng k x) ∧ (xs.length = 0 ∨ ∃ cap, xs.length ≤ cap ∧ cap * P.bytesOf e ∈ d.weights P u) ∧ Seen w v xs.length 0 (.segs [.ints k xs.length xs]) := by
  rcases trod_slice hu (by omega) h with rfl | ⟨a, len, cap, rfl, hlc, hw, hcell⟩
  · refine ⟨[], by simp, .inl rfl, ?_⟩
    obtain ⟨q, hq, _⟩ := view_core (ι := inj0) (w := w) (a := none) (len := 0) (c := 0) (e := 0) (b := .segs [.ints k 0 []]) rfl (Nat.le_refl _) (by intro s hs; simp at hs; subst hs; rfl) (by simp [Blk.cells, cellsL, segC]) (fun u hu => by simp [Blk.cells, cellsL, segC] at hu) (.inl rfl)
    exact ⟨q, fun ι' n hi => hq ι' n hi fun k f hk => by cases hk⟩
  · let g : Nat → Int := fun i => match w.heap[a.block]? with | some (.cells arr _ _) => numOf arr[a.off + i]? | _ => 0
    have key : ∀ i, i < cap → a.spot = none ∧ ∃ arr el fz, w.heap[a.block]? = some (.cells arr el fz) ∧ a.off + (i + 1) ≤ arr.size ∧ arr[a.off + i]? = some (.int k (g i)) ∧ rng k (g i) := by
      intro i hi
      obtain ⟨h1, arr, el, fz, h2, h3, cs, h4, h5, fuel', d', p', h6⟩ := hcell i hi
      rw [hc] at h3 h4 h5
      have h7 := h5 0 (by omega)
      obtain ⟨x, hx⟩ : ∃ x, cs = [x] := by
        match cs, h4 with
        | [x], _ => exact ⟨x, rfl⟩
      subst hx
      obtain ⟨n, rfl, hr⟩ := trod_int he h6
      simp only [List.getElem?_cons_zero, Nat.mul_one, Nat.add_zero] at h7
      have hg : g i = n := by simp only [g, h2, ← h7, numOf]
      exact ⟨h1, arr, el, fz, h2, by omega, by rw [hg, ← h7], by rw [hg]; exact hr⟩
    refine ⟨numsAt g 0 len, fun x hx => ?_, .inr ⟨cap, by rw [numsAt_len]; exact hlc, hw⟩, ?_⟩
    · simp only [numsAt, List.mem_map, List.mem_range] at hx
      obtain ⟨i, hi, rfl⟩ := hx
      rw [Nat.zero_add]
      obtain ⟨_, _, _, _, _, _, _, hr⟩ := key i (by omega)
      exact hr
    · rw [numsAt_len]
      obtain ⟨q, hq, _⟩ := view_core (ι := inj0) (w := w) (a := some a) (len := len) (c := cap) (e := 0) (b := .segs [.ints k len (numsAt g 0 len)]) rfl hlc (by intro s hs; simp at hs; subst hs; exact numsAt_len g 0 len) (by rw [cells_nums]; simp [numsAt_len, esz])
        (fun u hu => by rw [cells_nums] at hu; simp only [List.mem_map] at hu; obtain ⟨x, _, rfl⟩ := hu; rfl) (by
          by_cases h0 : cap = 0
          · exact .inl h0
          · right
            obtain ⟨h1, arr, el, fz, h2, h3, _, _⟩ := key (cap - 1) (by omega)
            refine ⟨a.block, a.off, ?_, arr, el, fz, h2, by simp only [esz, if_true]; omega, fun i y hi => ?_⟩
            · cases a; simp only at h1; subst h1; rfl
            · rw [cells_nums, List.getElem?_map] at hi
              have hil : i < len := by
                cases hx : (numsAt g 0 len)[i]? with
                | none => rw [hx] at hi; cases hi
                | some z => have := (List.getElem?_eq_some_iff.1 hx).1; rw [numsAt_len] at this; exact this
              obtain ⟨_, arr', _, _, h2', _, h4, h5⟩ := key i (by omega)
              rw [h2] at h2'
              cases h2'
              simp only [numsAt, List.getElem?_map, List.getElem?_range hil, Option.map_some, Nat.zero_add, Option.some.injEq] at hi
              subst hi
              exact ⟨_, h4, rfl, h5⟩)
      exact ⟨q, fun ι' n hi => hq ι' n hi fun k f hk => by cases hk⟩
/-! ## Rows of keys -/
def kindSk (j : Nat) : IntKind := if j = 32 then .u32 else .u8
def mkSk (g : Nat → Int) (o : Nat) : Sk := ⟨numsAt g o 32, g (o + 32), numsAt g (o + 33) 32⟩
theorem skR_cells (g : Nat → Int) (o : Nat) : cellsL (skR (mkSk g o)) = (List.range 65).map fun j => .int (kindSk j) (g (o + j)) := by kernel_rfl
theorem flat_get {α : Type} {f : α → List AV} {e : Nat} : ∀ {xs : List α} {q : Nat} {y : AV}, (∀ r ∈ xs, (f r).length = e) → (xs.flatMap f)[q]? = some y → ∃ (i j : Nat) (r : α), xs[i]? = some r ∧ j < e ∧ q = i * e + j ∧ (f r)[j]? = some y
  | [], q, y, _, h => by simp at h
  | x :: xs, q, y, he, h => by
    rw [List.flatMap_cons] at h
    have hx := he x (List.mem_cons_self ..)
    by_cases hq : q < (f x).length
    · rw [List.getElem?_append_left hq] at h
      exact ⟨0, q, x, rfl, by omega, by omega, h⟩
    · rw [List.getElem?_append_right (by omega)] at h
      obtain ⟨i, j, r, h1, h2, h3, h4⟩ := flat_get (fun r hr => he r (List.mem_cons_of_mem _ hr)) h
      exact ⟨i + 1, j, r, h1, h2, by rw [Nat.add_mul]; omega, h4⟩
/-- The type of a row of a key that was passed over. -/
structure SkT (P : Program) (e : TypeId) : Prop where
  cells : P.cellsOf e = 65
  leaf : ∀ j, j < 65 → ∃ u, leafAt P 8 e j = some u ∧ P.underlying u = some (.int (kindSk j))
theorem entry_sks {fuel : Nat} {u e : TypeId} {v : Value} {d : DataW H} {p : List MemPlace} (hu : P.underlying u = some (.slice e)) (he : SkT P e)
    (h : DataW.trod enc P w base (fun _ => true) held fuel u [v] = some (d, p)) : ∃ ss : List Sk, (∀ s ∈ ss, SkOk s) ∧ (ss.length = 0 ∨ ∃ cap, ss.length ≤ cap ∧ cap * P.bytesOf e ∈ d.weights P u) ∧ Seen w v ss.length 65 (.rows 65 ss.length (ss.map skR)) := by
  rcases trod_slice hu (by rw [he.cells]; omega) h with rfl | ⟨a, len, cap, rfl, hlc, hw, hcell⟩
  · refine ⟨[], by simp, .inl rfl, ?_⟩
    obtain ⟨q, hq, _⟩ := view_core (ι := inj0) (w := w) (a := none) (len := 0) (c := 0) (e := 65) (b := .rows 65 0 []) rfl (Nat.le_refl _) (by simp [Blk.Wf]) (by simp [Blk.cells]) (fun u hu => by simp [Blk.cells] at hu) (.inl rfl)
    exact ⟨q, fun ι' n hi => hq ι' n hi fun k f hk => by cases hk⟩
  · let g : Nat → Int := fun i => match w.heap[a.block]? with | some (.cells arr _ _) => numOf arr[a.off + i]? | _ => 0
    have key : ∀ i, i < cap → a.spot = none ∧ ∃ arr el fz, w.heap[a.block]? = some (.cells arr el fz) ∧ a.off + (i + 1) * 65 ≤ arr.size ∧ ∀ j, j < 65 → arr[a.off + (i * 65 + j)]? = some (.int (kindSk j) (g (i * 65 + j))) ∧ rng (kindSk j) (g (i * 65 + j)) := by
      intro i hi
      obtain ⟨h1, arr, el, fz, h2, h3, cs, h4, h5, fuel', d', p', h6⟩ := hcell i hi
      rw [he.cells] at h3 h4 h5
      refine ⟨h1, arr, el, fz, h2, h3, fun j hj => ?_⟩
      obtain ⟨u', hl, hk⟩ := he.leaf j hj
      obtain ⟨x, f2, d2, p2, hx, ht, _⟩ := trod_leaf 8 e j u' fuel' cs d' p' hl h6
      obtain ⟨n, rfl, hr⟩ := trod_int hk ht
      have h7 := h5 j hj
      rw [hx] at h7
      have hg : g (i * 65 + j) = n := by simp only [g, h2, ← h7, numOf]
      rw [hg]
      exact ⟨h7.symm, hr⟩
    have hok : ∀ i, i < cap → SkOk (mkSk g (i * 65)) := by
      intro i hi
      obtain ⟨_, arr, _, _, _, _, hj⟩ := key i hi
      refine ⟨numsAt_len .., numsAt_len .., fun x hx => ?_, ?_, fun x hx => ?_⟩
      · simp only [mkSk, numsAt, List.mem_map, List.mem_range] at hx
        obtain ⟨j, hj1, rfl⟩ := hx
        have := (hj j (by omega)).2
        simpa [kindSk, show j ≠ 32 by omega] using this
      · exact (hj 32 (by omega)).2
      · simp only [mkSk, numsAt, List.mem_map, List.mem_range] at hx
        obtain ⟨j, hj1, rfl⟩ := hx
        have := (hj (33 + j) (by omega)).2
        rw [show i * 65 + 33 + j = i * 65 + (33 + j) by omega]
        simpa [kindSk, show 33 + j ≠ 32 by omega] using this
    let ss := (List.range len).map fun i => mkSk g (i * 65)
    have hsl : ss.length = len := by simp [ss]
    have hss : ∀ s ∈ ss, ∃ i, i < len ∧ s = mkSk g (i * 65) := fun s hs => by
      simp only [ss, List.mem_map, List.mem_range] at hs
      obtain ⟨i, hi, rfl⟩ := hs
      exact ⟨i, hi, rfl⟩
    have hwf : ∀ r ∈ ss.map skR, RowWf 65 r := fun r hr => by
      obtain ⟨s, hs, rfl⟩ := List.mem_map.1 hr
      obtain ⟨i, hi, rfl⟩ := hss s hs
      refine ⟨fun t ht => ?_, by rw [skR_cells]; simp, rfl⟩
      simp only [skR, mkSk, List.mem_cons, List.not_mem_nil, or_false] at ht
      rcases ht with rfl | rfl | rfl
      · exact numsAt_len ..
      · trivial
      · exact numsAt_len ..
    refine ⟨ss, fun s hs => by obtain ⟨i, hi, rfl⟩ := hss s hs; exact hok i (by omega), .inr ⟨cap, by omega, hw⟩, ?_⟩
    obtain ⟨q, hq, _⟩ := view_core (ι := inj0) (w := w) (a := some a) (len := ss.length) (c := cap) (e := 65) (b := .rows 65 ss.length (ss.map skR)) (by rw [hsl]) (by omega) ⟨by simp, hwf⟩ (by
        show ((ss.map skR).flatMap cellsL).length = _
        rw [rows_len fun r hr => (hwf r hr).2.1]
        simp [esz])
      (fun u hu => by
        simp only [Blk.cells, List.mem_flatMap] at hu
        obtain ⟨r, hr, hu⟩ := hu
        obtain ⟨s, hs, rfl⟩ := List.mem_map.1 hr
        obtain ⟨i, hi, rfl⟩ := hss s hs
        rw [skR_cells] at hu
        simp only [List.mem_map] at hu
        obtain ⟨j, _, rfl⟩ := hu
        rfl) (by
        by_cases h0 : cap = 0
        · exact .inl h0
        · right
          obtain ⟨h1, arr, el, fz, h2, h3, _⟩ := key (cap - 1) (by omega)
          refine ⟨a.block, a.off, ?_, arr, el, fz, h2, by simp only [esz]; rw [if_neg (by omega)]; rw [show cap - 1 + 1 = cap by omega] at h3; exact h3, fun q y hq => ?_⟩
          · cases a; simp only at h1; subst h1; rfl
          · obtain ⟨i, j, r, g1, g2, g3, g4⟩ := flat_get (fun r hr => (hwf r hr).2.1) (show ((ss.map skR).flatMap cellsL)[q]? = some y from hq)
            rw [List.getElem?_map] at g1
            cases hsi : ss[i]? with
            | none => rw [hsi] at g1; cases g1
            | some s =>
              rw [hsi] at g1
              simp only [Option.map_some, Option.some.injEq] at g1
              subst g1
              have hil : i < len := by have := (List.getElem?_eq_some_iff.1 hsi).1; omega
              have hs : s = mkSk g (i * 65) := by
                simp only [ss, List.getElem?_map, List.getElem?_range hil, Option.map_some, Option.some.injEq] at hsi
                exact hsi.symm
              subst hs
              rw [skR_cells, List.getElem?_map, List.getElem?_range g2] at g4
              simp only [Option.map_some, Option.some.injEq] at g4
              subst g4
              obtain ⟨_, arr', _, _, h2', _, h4⟩ := key i (by omega)
              rw [h2] at h2'
              cases h2'
              subst g3
              exact ⟨_, (h4 j g2).1, rfl, (h4 j g2).2⟩)
    exact ⟨q, fun ι' n hi => hq ι' n hi fun k f hk => by cases hk⟩
/-! ## Ratchets -/
def kindRat (j : Nat) : IntKind := if j < 160 then .u8 else .u32
def mkRat (g : Nat → Int) : Rat := ⟨numsAt g 0 32, numsAt g 32 32, numsAt g 64 32, numsAt g 96 32, numsAt g 128 32, g 160, g 161, g 162⟩
theorem ratR_cells (g : Nat → Int) (n len : Nat) : cellsL ((mkRat g).segs (.slice n 0 0 len 65 none)) = (List.range 164).map fun j => if j < 163 then .int (kindRat j) (g (0 + j)) else .slice n 0 0 len 65 none := by kernel_rfl
structure RatT (P : Program) (t : TypeId) : Prop where
  agg : ∃ fs, P.underlying t = some (.struct fs)
  cells : P.cellsOf t = 164
  leaf : ∀ j, j < 163 → ∃ u, leafAt P 8 t j = some u ∧ P.underlying u = some (.int (kindRat j))
  sks : ∃ u e, leafAt P 8 t 163 = some u ∧ P.underlying u = some (.slice e) ∧ SkT P e ∧ 0 < P.bytesOf e
theorem numsAt_rng {g : Nat → Int} {k : IntKind} {o n : Nat} (h : ∀ j, j < n → rng k (g (o + j))) : ∀ x ∈ numsAt g o n, rng k x := fun x hx => by
  simp only [numsAt, List.mem_map, List.mem_range] at hx
  obtain ⟨j, hj, rfl⟩ := hx
  exact h j hj
/-- A ratchet that is handed in. -/
theorem entry_rat {r : Reach} {b0 : Nat} {t : TypeId} {v : Value} {d : DataW H} {p : List MemPlace} (ht : RatT P t) (hval : Value.okWide P w r b0 t v) (h : DataW.Trod enc P w base (fun _ => true) held t v d p) :
    ∃ (q : Rat) (ss : List Sk) (x : Value), RatOk q ∧ (∀ s ∈ ss, SkOk s) ∧ (ss.length = 0 ∨ ∃ n, ss.length ≤ n ∧ n ∈ d.weights P t) ∧ Seen w x ss.length 65 (.rows 65 ss.length (ss.map skR)) ∧
      ∀ (ι : Inj) n, VR ι (.slice n 0 0 ss.length 65 none) x → VR ι (.agg (q.segs (.slice n 0 0 ss.length 65 none))) v := by
  obtain ⟨⟨fs, hfs⟩, hcells, hleaf, u, e, hl, hue, hsk, hpos⟩ := ht
  obtain ⟨cs, rfl, hsz⟩ : ∃ cs, v = .agg cs ∧ cs.size = 164 := by
    unfold Value.okWide at hval
    rw [hfs] at hval
    obtain ⟨cs, h1, h2, _⟩ := hval
    exact ⟨cs, h1, by rw [h2, hcells]⟩
  obtain ⟨fuel, hf⟩ := h
  have hcs : (Value.agg cs).cells.toList = cs.toList := rfl
  rw [hcs] at hf
  let g : Nat → Int := fun i => numOf cs.toList[i]?
  have key : ∀ j, j < 163 → cs.toList[j]? = some (.int (kindRat j) (g j)) ∧ rng (kindRat j) (g j) := fun j hj => by
    obtain ⟨u', h1, h2⟩ := hleaf j hj
    obtain ⟨x, f2, d2, p2, hx, h3, _⟩ := trod_leaf 8 t j u' fuel cs.toList d p h1 hf
    obtain ⟨n, rfl, hr⟩ := trod_int h2 h3
    have hg : g j = n := by simp only [g, hx, numOf]
    rw [hg]
    exact ⟨hx, hr⟩
  obtain ⟨x, f2, d2, p2, hx, h3, hw⟩ := trod_leaf 8 t 163 u fuel cs.toList d p hl hf
  obtain ⟨ss, k1, k2, k3⟩ := entry_sks hue hsk h3
  have r8 : ∀ o, o + 32 ≤ 160 → ∀ x ∈ numsAt g o 32, rng .u8 x := fun o ho => numsAt_rng fun j hj => by
    have := (key (o + j) (by omega)).2
    simpa [kindRat, show o + j < 160 by omega] using this
  refine ⟨mkRat g, ss, x, ⟨numsAt_len .., numsAt_len .., numsAt_len .., numsAt_len .., numsAt_len .., r8 0 (by omega), r8 32 (by omega), r8 64 (by omega), r8 96 (by omega), r8 128 (by omega), (key 160 (by omega)).2, (key 161 (by omega)).2, (key 162 (by omega)).2⟩, k1, ?_, k3, fun ι n hn => ?_⟩
  · rcases k2 with k2 | ⟨cap, k2, k4⟩
    · exact .inl k2
    · refine .inr ⟨_, ?_, hw _ k4⟩
      exact Nat.le_trans k2 (Nat.le_mul_of_pos_right _ hpos)
  · refine ⟨cs, rfl, fun s hs => ?_, ?_, fun i y hy => ?_⟩
    · simp only [Rat.segs, mkRat, List.mem_cons, List.not_mem_nil, or_false] at hs
      rcases hs with rfl | rfl | rfl | rfl | rfl | rfl | rfl | rfl | rfl <;> first | exact numsAt_len .. | trivial
    · rw [ratR_cells]; simp [hsz]
    · rw [ratR_cells] at hy
      have hi : i < 164 := by
        have := (List.getElem?_eq_some_iff.1 hy).1
        simpa using this
      rw [List.getElem?_map, List.getElem?_range hi] at hy
      simp only [Option.map_some, Option.some.injEq, Nat.zero_add] at hy
      subst hy
      split
      · rename_i hlt
        exact ⟨_, (key i hlt).1, rfl, (key i hlt).2⟩
      · obtain rfl : i = 163 := by omega
        exact ⟨x, hx, hn⟩
end
end Go.Am
/- A law that was run: its call. -/
namespace Go.Am
open Go.RowKit
theorem law_calls {P : Program} {Γ : Env} (hΓ : EnvOk P Γ) (hm : P.follows .mixedOrders = true) {f : FuncId} {fn : Func} {af : AFn} (hf : P.funcs[f]? = some fn) (hl : lowFn P 16 fn af = true) {args : List AV} {h : Heap} {ι : Inj} {w : World} {vs : Array Value}
    (hk : evFn Γ af args h kV = some (.bool true, ⟨0, []⟩)) (hro : ∀ id c, h.get id = some c → c.ro = true) (R : HRel ι h w) (hn : 16 ≤ h.next) (hfr : Fresh ι h.next) (ha : VRL ι args vs.toList) :
    Calls P f vs w fun e w' => e = .returned (.bool true) ∧ Below w.heap.size w w' := by
  have hF : Factor fun args h κ => evFn Γ af args h κ := Det.factor fun args h => evFn_det hΓ af args h
  have h4 := hF args h kV
  simp only at h4
  rw [h4] at hk
  cases hr : evFn Γ af args h kH with
  | none => rw [hr] at hk; cases hk
  | some q =>
    obtain ⟨v, h'⟩ := q
    rw [hr] at hk
    simp only [Option.bind_some, kV, Option.some.injEq, Prod.mk.injEq, and_true] at hk
    subst hk
    have hc := evFn_sound hΓ hm hf hl hr R hfr hn ha
    have hno : ∀ k, ¬ Own ι h k := by
      rintro k ⟨id, c, p, hg, hr, _⟩
      rw [hro id c hg] at hr
      cases hr
    have he : (callFunc f vs).run P w = .ok (.enter f vs) w := by
      simp only [lowFn, Bool.and_eq_true, beq_iff_eq, bne_iff_ne] at hl
      obtain ⟨⟨⟨hname, hnt⟩, hres⟩, hb⟩ := hl
      split at hb <;> try (cases hb; done)
      rename_i c hbody
      simp [callFunc, hf, hname, hbody]
    rcases hc with ⟨v, w', e, _⟩ | ⟨_, hc⟩
    · rw [he] at e; cases e
    · refine hc.mono fun e w' hx => ?_
      obtain ⟨x, rfl, ι', hv, _, S, _⟩ := hx
      have : x = .bool true := hv
      subst this
      exact ⟨rfl, S.os, S.tape, S.output, S.size, fun k hk => S.frame k hk (hno k)⟩
/-- Blocks of a view or two. -/
theorem HRel.seen2 {w : World} {ι : Inj} {n : Nat} {c0 c1 : Cell} (h0 : c0.id = 0 ∧ c0.ro = true) (h1 : c1.id = 1 ∧ c1.ro = true) (b0 : BlkR ι w 0 c0) (b1 : BlkR ι w 1 c1) (hz : ∀ k, ι.fz k = none) : HRel ι ⟨n, [c0, c1]⟩ w := by
  have get : ∀ id c, (Heap.mk n [c0, c1]).get id = some c → (id = 0 ∧ c = c0) ∨ (id = 1 ∧ c = c1) := by
    intro id c hg
    simp only [Heap.get, findB, h0.1, h1.1] at hg
    split at hg
    · rename_i e; cases hg; exact .inl ⟨e.symm, rfl⟩
    · split at hg
      · rename_i e; cases hg; exact .inr ⟨e.symm, rfl⟩
      · cases hg
  refine ⟨fun id c hg => ?_, fun k f hk => (by rw [hz] at hk; cases hk), fun id1 c1' p1 id2 c2' p2 g1 g2 hne hro => ?_⟩
  · rcases get id c hg with ⟨rfl, rfl⟩ | ⟨rfl, rfl⟩
    · exact b0
    · exact b1
  · rcases get id1 c1' g1 with ⟨rfl, rfl⟩ | ⟨rfl, rfl⟩
    · rw [h0.2] at hro; cases hro
    · rw [h1.2] at hro; cases hro
theorem VRL.two {ι : Inj} {a b : AV} {x y : Value} (h : VR ι a x) (k : VR ι b y) : VRL ι [a, b] [x, y] := by
  refine ⟨rfl, fun i u hu => ?_⟩
  cases i with
  | zero => simp only [List.getElem?_cons_zero, Option.some.injEq] at hu; subst hu; exact ⟨x, rfl, h⟩
  | succ i => cases i with
    | zero => simp only [List.getElem?_cons_succ, List.getElem?_cons_zero, Option.some.injEq] at hu; subst hu; exact ⟨y, rfl, k⟩
    | succ i => simp at hu
/-- Two views, under the names 0 and 1. -/
theorem seen2 {w : World} {v0 v1 : Value} {l0 l1 e0 e1 : Nat} {b0 b1 : Blk} (h0 : Seen w v0 l0 e0 b0) (h1 : Seen w v1 l1 e1 b1) :
    ∃ ι : Inj, HRel ι ⟨16, [⟨0, true, b0⟩, ⟨1, true, b1⟩]⟩ w ∧ Fresh ι 16 ∧ VR ι (.slice 0 0 0 l0 e0 none) v0 ∧ VR ι (.slice 1 0 0 l1 e1 none) v1 := by
  obtain ⟨q0, h0⟩ := h0
  obtain ⟨q1, h1⟩ := h1
  let ι : Inj := ⟨fun i => if i = 0 then some q0 else if i = 1 then some q1 else none, fun _ => none⟩
  obtain ⟨v0', b0'⟩ := h0 ι 0 rfl
  obtain ⟨v1', b1'⟩ := h1 ι 1 rfl
  refine ⟨ι, HRel.seen2 ⟨rfl, rfl⟩ ⟨rfl, rfl⟩ b0' b1' fun _ => rfl, fun id hid => ?_, v0', v1'⟩
  simp only [ι]
  rw [if_neg (by omega), if_neg (by omega)]
end Go.Am
/- What is handed in: values of numbers alone; one view. -/
namespace Go.Am
open Go.RowKit
set_option linter.unusedSimpArgs false
section
variable {H : Type} {enc : TypeId × Value → H} {P : Program} {w : World} {base : Nat} {held : Bool}
/-- A type of numbers alone. -/
structure FlatT (P : Program) (t : TypeId) (n : Nat) (kd : Nat → IntKind) : Prop where
  agg : (∃ fs, P.underlying t = some (.struct fs)) ∨ ∃ m e, P.underlying t = some (.array m e)
  cells : P.cellsOf t = n
  leaf : ∀ j, j < n → ∃ u, leafAt P 8 t j = some u ∧ P.underlying u = some (.int (kd j))
theorem entry_flat {r : Reach} {b0 : Nat} {t : TypeId} {n : Nat} {kd : Nat → IntKind} {v : Value} {d : DataW H} {p : List MemPlace} (ht : FlatT P t n kd) (hval : Value.okWide P w r b0 t v) (h : DataW.Trod enc P w base (fun _ => true) held t v d p) :
    ∃ g : Nat → Int, (∀ j, j < n → rng (kd j) (g j)) ∧ ∀ (ι : Inj) (l : List AV), SegsWf l → cellsL l = (List.range n).map (fun j => .int (kd j) (g j)) → VR ι (.agg l) v := by
  obtain ⟨hagg, hcells, hleaf⟩ := ht
  obtain ⟨cs, rfl, hsz⟩ : ∃ cs, v = .agg cs ∧ cs.size = n := by
    unfold Value.okWide at hval
    rcases hagg with ⟨fs, hfs⟩ | ⟨m, e, hfs⟩
    · rw [hfs] at hval
      obtain ⟨cs, h1, h2, _⟩ := hval
      exact ⟨cs, h1, by rw [h2, hcells]⟩
    · rw [hfs] at hval
      obtain ⟨cs, h1, h2, _⟩ := hval
      exact ⟨cs, h1, by rw [h2, hcells]⟩
  obtain ⟨fuel, hf⟩ := h
  have hcs : (Value.agg cs).cells.toList = cs.toList := rfl
  rw [hcs] at hf
  let g : Nat → Int := fun i => numOf cs.toList[i]?
  have key : ∀ j, j < n → cs.toList[j]? = some (.int (kd j) (g j)) ∧ rng (kd j) (g j) := fun j hj => by
    obtain ⟨u', h1, h2⟩ := hleaf j hj
    obtain ⟨x, f2, d2, p2, hx, h3, _⟩ := trod_leaf 8 t j u' fuel cs.toList d p h1 hf
    obtain ⟨m, rfl, hr⟩ := trod_int h2 h3
    have hg : g j = m := by simp only [g, hx, numOf]
    rw [hg]
    exact ⟨hx, hr⟩
  refine ⟨g, fun j hj => (key j hj).2, fun ι l wf hl => ⟨cs, rfl, wf, by rw [hl]; simp [hsz], fun i y hy => ?_⟩⟩
  rw [hl] at hy
  have hi : i < n := by
    have := (List.getElem?_eq_some_iff.1 hy).1
    simpa using this
  rw [List.getElem?_map, List.getElem?_range hi] at hy
  simp only [Option.map_some, Option.some.injEq] at hy
  subst hy
  exact ⟨_, (key i hi).1, rfl, (key i hi).2⟩
end
/-- One view, under the name 0. -/
theorem seen1 {w : World} {v0 : Value} {l0 e0 : Nat} {b0 : Blk} (h0 : Seen w v0 l0 e0 b0) : ∃ ι : Inj, HRel ι ⟨16, [⟨0, true, b0⟩]⟩ w ∧ Fresh ι 16 ∧ VR ι (.slice 0 0 0 l0 e0 none) v0 := by
  obtain ⟨q0, h0⟩ := h0
  let ι : Inj := ⟨fun i => if i = 0 then some q0 else none, fun _ => none⟩
  obtain ⟨v0', b0'⟩ := h0 ι 0 rfl
  have get : ∀ id c, (Heap.mk 16 [(⟨0, true, b0⟩ : Cell)]).get id = some c → id = 0 ∧ c = ⟨0, true, b0⟩ := by
    intro id c hg
    simp only [Heap.get, findB] at hg
    split at hg
    · rename_i e; cases hg; exact ⟨e.symm, rfl⟩
    · cases hg
  refine ⟨ι, ⟨fun id c hg => ?_, fun k f hk => (by cases hk), fun id1 c1' p1 id2 c2' p2 g1 g2 hne hro => ?_⟩, fun id hid => ?_, v0'⟩
  · obtain ⟨rfl, rfl⟩ := get id c hg; exact b0'
  · obtain ⟨rfl, rfl⟩ := get id1 c1' g1; cases hro
  · simp only [ι]; rw [if_neg (by omega)]
end Go.Am
/- The program of the seat: its function without a body; what is asked of each function. -/
namespace Go.Am
open Go.Proofs
set_option maxRecDepth 100000
theorem moZ : Try.prog.follows .mixedOrders = true := by kernel_rfl
theorem VAL.one {ι : Inj} {v : AV} {x : Value} (h : VA ι v x) : VAL ι [v] [x] := ⟨rfl, fun i u hu => by
  cases i with
  | zero => simp only [List.getElem?_cons_zero, Option.some.injEq] at hu; subst hu; exact ⟨x, rfl, h⟩
  | succ i => simp at hu⟩
theorem VAL.cons {ι : Inj} {v : AV} {x : Value} {l : List AV} {r : List Value} (h : VA ι v x) (k : VAL ι l r) : VAL ι (v :: l) (x :: r) := ⟨by simp [k.1], fun i u hu => by
  cases i with
  | zero => simp only [List.getElem?_cons_zero, Option.some.injEq] at hu; subst hu; exact ⟨x, rfl, h⟩
  | succ i => exact k.2 i u (by simpa using hu)⟩
theorem add64_full : FullOk Try.prog id_math_bits_Add64 add64o where
  factor := fun args h κ => by
    unfold add64o
    split
    · split <;> rfl
    · rfl
  sound := fun args h v h' ι w vs hk R hf ha => by
    unfold add64o at hk
    split at hk <;> try (cases hk; done)
    rename_i x y c
    split at hk <;> try (cases hk; done)
    rename_i hc
    simp only [kH, Option.some.injEq, Prod.mk.injEq] at hk
    obtain ⟨rfl, rfl⟩ := hk
    obtain ⟨v1, r1, e1, h1, k1⟩ := ha.uncons
    obtain ⟨v2, r2, rfl, h2, k2⟩ := k1.uncons
    obtain ⟨v3, r3, rfl, h3, k3⟩ := k2.uncons
    have : r3 = [] := List.eq_nil_of_length_eq_zero k3.1.symm
    subst this
    obtain ⟨rfl, g1⟩ := (show v1 = .int .u64 x ∧ rng .u64 x from h1)
    obtain ⟨rfl, g2⟩ := (show v2 = .int .u64 y ∧ rng .u64 y from h2)
    obtain ⟨rfl, g3⟩ := (show v3 = .int .u64 c ∧ rng .u64 c from h3)
    have hv : vs = #[.int .u64 x, .int .u64 y, .int .u64 c] := by
      cases vs; simp only at e1; rw [e1]
    subst hv
    have b1 := g1 rfl
    have b2 := g2 rfl
    have b3 := g3 rfl
    simp only [IntKind.bits] at b1 b2 b3
    have q1 : rng .u64 ((x + y + c) % 18446744073709551616) := fun _ => by simp only [IntKind.bits]; omega
    have q2 : rng .u64 ((x + y + c) / 18446744073709551616) := fun _ => by simp only [IntKind.bits]; omega
    refine .inl ⟨_, w, (run_callFunc_extern (P := Try.prog) (f := id_math_bits_Add64) (e := add64Entry) Try.func93 (by kernel_rfl) (by kernel_rfl) (by kernel_rfl) (by kernel_rfl) _ w).trans (by rw [run_add64 x y c b1.1 b2.1 b3.1 hc]; rfl), ι, ⟨_, rfl, VAL.cons (show VA ι (.int .u64 _) _ from ⟨rfl, q1⟩) (.one (show VA ι (.int .u64 _) _ from ⟨rfl, q2⟩))⟩, R, .refl _ _ _, .refl _ _⟩
end Go.Am
/- poly: the number below 2^130 - 5 (whole). -/
namespace Go.Am
set_option linter.unusedSimpArgs false
set_option maxRecDepth 100000
def sr (n : Int) (k : Nat) : Int := n.fdiv (2 ^ k)
def m26 (n : Int) : Int := bw .and .u64 n 67108863
def loW (a b c : Int) : Int := bw .or .u64 (bw .or .u64 a (IntKind.u64.wrap (b * 2 ^ 26))) (IntKind.u64.wrap (c * 2 ^ 52))
def hiW (c d e : Int) : Int := bw .or .u64 (bw .or .u64 (sr c 12) (IntKind.u64.wrap (d * 2 ^ 14))) (IntKind.u64.wrap (e * 2 ^ 40))
def wg0 (h : L5) : Int := IntKind.u64.wrap (IntKind.u64.wrap (h.a + 5) + 0)
def wg1 (h : L5) : Int := IntKind.u64.wrap (h.b + sr (wg0 h) 26)
def wg2 (h : L5) : Int := IntKind.u64.wrap (h.c + sr (wg1 h) 26)
def wg3 (h : L5) : Int := IntKind.u64.wrap (h.d + sr (wg2 h) 26)
def wg4 (h : L5) : Int := IntKind.u64.wrap (h.e + sr (wg3 h) 26)
def wholeC (h : L5) : Bool := decide (sr (wg4 h) 26 > 0)
def wholeLo (h : L5) : Int := bif wholeC h then loW (m26 (wg0 h)) (m26 (wg1 h)) (m26 (wg2 h)) else loW h.a h.b h.c
def wholeHi (h : L5) : Int := bif wholeC h then hiW (m26 (wg2 h)) (m26 (wg3 h)) (m26 (wg4 h)) else hiW h.c h.d h.e
theorem whole_run (f : Nat → Int) : evFn P0 af_poly_limbs_whole [.agg [.ints .u64 5 (tab 5 f)]] ⟨16, []⟩ kV =
    bif wholeC (carryS (toL5 (tab 5 f))) then some (.tuple [.int .u64 (loW (m26 (wg0 (carryS (toL5 (tab 5 f))))) (m26 (wg1 (carryS (toL5 (tab 5 f))))) (m26 (wg2 (carryS (toL5 (tab 5 f)))))), .int .u64 (hiW (m26 (wg2 (carryS (toL5 (tab 5 f))))) (m26 (wg3 (carryS (toL5 (tab 5 f))))) (m26 (wg4 (carryS (toL5 (tab 5 f))))))], ⟨0, []⟩)
    else some (.tuple [.int .u64 (loW (carryS (toL5 (tab 5 f))).a (carryS (toL5 (tab 5 f))).b (carryS (toL5 (tab 5 f))).c), .int .u64 (hiW (carryS (toL5 (tab 5 f))).c (carryS (toL5 (tab 5 f))).d (carryS (toL5 (tab 5 f))).e)], ⟨0, []⟩) := by kernel_rfl
def wholeO : Nat → List AV → Am.Heap → Option (AV × Option Blk) := fun _ args _ => match args with
  | [.agg [.ints .u64 5 xs]] => some (.tuple [.int .u64 (wholeLo (carryS (toL5 xs))), .int .u64 (wholeHi (carryS (toL5 xs)))], none)
  | _ => none
theorem whole_pure {P : Program} {f : FuncId} (F : Fn P f P0 af_poly_limbs_whole) : PureOk P f wholeO := by
  refine F.plain fun nid args hp r ha hr => ?_
  unfold wholeO at hr
  split at hr
  · rename_i xs
    cases hr
    obtain ⟨⟨⟨hl, _⟩, _⟩, _⟩ := ha
    obtain ⟨k, rfl⟩ := tab_of hl
    refine ⟨rfl, rfl, rfl, ?_⟩
    rw [whole_run]
    unfold wholeLo wholeHi
    cases wholeC (carryS (toL5 (tab 5 k))) <;> rfl
  · cases hr
end Go.Am
/- poly: Tag. -/
namespace Go.Am
set_option linter.unusedSimpArgs false
set_option maxRecDepth 100000
def Py0 : Env := envAdd id_poly_limbs_whole (.pure wholeO) X_poly_limbs_carry
end Go.Am
/- poly: Tag, where no bytes are left over. -/
namespace Go.Am
set_option linter.unusedSimpArgs false
set_option maxRecDepth 100000
/-- A run on arguments' blocks under the names below B, as a pure oracle has it. -/
theorem pureOf_run {B : Nat} {o : List AV → Heap → (AV → Heap → Option Res) → Option Res} (hF : Factor o) {args args' : List AV} {nid : Nat} {h : Heap} {v : AV} {ids : List Nat} {bl : List Cell} (hi : idsOf h args = ids)
    (hc : ((avIds.avIdsL args).all ids.contains && closed h ids && decide (ids.length ≤ B)) = true) (ha : rnL (posN ids) args = args') (hb : litBlks h (posN ids) ids 0 = bl) (hv : avIds v = [])
    (hr : o args' ⟨B, bl⟩ kV = some (v, ⟨0, []⟩)) : pureOf B o nid args h = some (v, none) := by
  rw [hF] at hr
  cases hk : o args' ⟨B, bl⟩ kH with
  | none => rw [hk] at hr; cases hr
  | some r =>
    obtain ⟨v', h'⟩ := r
    rw [hk] at hr
    simp only [Option.bind_some, kV, Option.some.injEq, Prod.mk.injEq, and_true] at hr
    subst hr
    unfold pureOf
    simp only [hi, hc, ha, hb, hk, if_true, Option.bind_some, hv, newOf, List.filter_nil, dedupN, rnAV_id _ hv]
/-- Eight bytes as a number, as Get64 takes them. -/
def g8 : List Int → Int → Int → Int
  | [], _, x => x
  | c :: r, i, x => g8 r (i + 1) (bw .or .u64 x (w64 (w64 c * 2 ^ (min (8 * i).toNat 64))))
def sh8 (x : Int) : Int := x.fdiv (2 ^ 8)
def lowN : Nat → Int → List Int
  | 0, _ => []
  | n + 1, x => w8 x :: lowN n (sh8 x)
def tagLo (h : L5) (s : List Int) : Int := w64 (wholeLo (carryS h) + g8 (s.take 8) 0 0)
def tagHi (h : L5) (s : List Int) : Int := w64 ((bif decide (tagLo h s < wholeLo (carryS h)) then w64 (wholeHi (carryS h) + 1) else wholeHi (carryS h)) + g8 ((s.drop 8).take 8) 0 0)
def tagS (h : L5) (s : List Int) : List Int := lowN 8 (tagLo h s) ++ lowN 8 (tagHi h s)
def tgC (lid : Nat) (c : Option Nat) (r h s : List Int) : List AV := [.slice lid 0 0 0 0 c, .ints .u64 5 r, .ints .u64 5 h, .ints .u8 16 s]
theorem tag_run1 (c : Option Nat) (n : Nat) (xs r : List Int) (f g : Nat → Int) :
    evFn Py0 af_poly_Code_Tag [.ptr 0 0 0 0 0] ⟨16, [⟨0, true, .segs (tgC 1 c r (tab 5 f) (tab 16 g))⟩, ⟨1, true, .segs [.ints .u8 n xs]⟩]⟩ kV =
    bif decide (tagLo (toL5 (tab 5 f)) (tab 16 g) < wholeLo (carryS (toL5 (tab 5 f)))) then some (.agg [.ints .u8 16 (lowN 8 (tagLo (toL5 (tab 5 f)) (tab 16 g)) ++ lowN 8 (w64 (w64 (wholeHi (carryS (toL5 (tab 5 f))) + 1) + g8 (((tab 16 g).drop 8).take 8) 0 0)))], ⟨0, []⟩)
    else some (.agg [.ints .u8 16 (lowN 8 (tagLo (toL5 (tab 5 f)) (tab 16 g)) ++ lowN 8 (w64 (wholeHi (carryS (toL5 (tab 5 f))) + g8 (((tab 16 g).drop 8).take 8) 0 0)))], ⟨0, []⟩) := by kernel_rfl
def tagO : OrcP := fun _ args h => match args with
  | [.ptr id 0 0 0 0] => match h.get id with
    | some ⟨_, _, .segs [.slice lid 0 0 0 0 _, .ints .u64 5 _, .ints .u64 5 hh, .ints .u8 16 s]⟩ => match h.get lid with
      | some ⟨_, _, .segs [.ints .u8 _ _]⟩ => if lid ≠ id ∧ hh.length = 5 ∧ s.length = 16 then some (.agg [.ints .u8 16 (tagS (toL5 hh) s)], none) else none
      | _ => none
    | _ => none
  | _ => none
theorem tag_pure {P : Program} {f : FuncId} (F : Fn P f Py0 af_poly_Code_Tag) : PureOk P f tagO := by
  refine F.ok.pure fun nid args hp r ha hr => ?_
  unfold tagO at hr
  split at hr <;> try (cases hr; done)
  rename_i id
  split at hr <;> try (cases hr; done)
  rename_i ci ro lid c r5 hh s hg
  split at hr <;> try (cases hr; done)
  rename_i ci2 ro2 n xs hg2
  split at hr <;> try (cases hr; done)
  rename_i hcnd
  obtain ⟨hne, h1, h2⟩ := hcnd
  cases hr
  obtain ⟨k1, rfl⟩ := tab_of h1
  obtain ⟨k2, rfl⟩ := tab_of h2
  have hb1 : blkIds (⟨ci, ro, .segs [.slice lid 0 0 0 0 c, .ints .u64 5 r5, .ints .u64 5 (tab 5 k1), .ints .u8 16 (tab 16 k2)]⟩ : Cell).blk = [lid] := rfl
  have hb2 : blkIds (⟨ci2, ro2, .segs [.ints .u8 n xs]⟩ : Cell).blk = [] := rfl
  have e1 : ([id].contains lid) = false := by simp [hne]
  have hi : idsOf hp [.ptr id 0 0 0 0] = [id, lid] := by
    simp only [idsOf, avIds.avIdsL, avIds, List.append_nil, List.flatMap_cons, List.flatMap_nil, hg, hb1, List.singleton_append, dedupN, List.contains_nil, Bool.false_eq_true, if_false, List.nil_append, e1]
  refine pureOf_run F.factor hi ?_ (args' := [.ptr 0 0 0 0 0]) ?_ (bl := [⟨0, true, .segs (tgC 1 c r5 (tab 5 k1) (tab 16 k2))⟩, ⟨1, true, .segs [.ints .u8 n xs]⟩]) ?_ rfl ?_
  · simp only [closed, List.all_cons, List.all_nil, hg, hg2, hb1, hb2, avIds.avIdsL, avIds, List.append_nil, Bool.and_true, List.contains_cons, List.contains_nil, Bool.or_false, beq_self_eq_true, Bool.true_or, Bool.or_true, Bool.true_and]
    rfl
  · simp only [rnL, rnAV.rnL, rnAV, posN, if_true]
  · simp only [litBlks, hg, hg2, rnBlk, rnL, rnAV.rnL, rnAV, posN, if_true, tgC, if_neg (Ne.symm hne)]
  · refine (tag_run1 ..).trans ?_
    unfold tagS tagHi
    cases decide (tagLo (toL5 (tab 5 k1)) (tab 16 k2) < wholeLo (carryS (toL5 (tab 5 k1)))) <;> rfl
end Go.Am
/- Lists by their places. -/
namespace Go.Am
set_option linter.unusedSimpArgs false
/-- A list as its places. -/
def fixL (n : Nat) (l : List Int) : List Int := tab n fun i => l.getD i 0
theorem fixL_eq {n : Nat} {l : List Int} (h : l.length = n) : fixL n l = l := by
  have := tabFrom_get [] l
  simp only [List.nil_append, List.length_nil, h] at this
  exact this
theorem tabFrom_len (f : Nat → Int) : ∀ n i, (tabFrom f i n).length = n
  | 0, _ => rfl
  | n + 1, i => by simp only [tabFrom, List.length_cons, tabFrom_len f n]
theorem tab_len (n : Nat) (f : Nat → Int) : (tab n f).length = n := tabFrom_len f n 0
theorem fixL_len (n : Nat) (l : List Int) : (fixL n l).length = n := tab_len n _
end Go.Am
/- aead: Tag and Seal of forty and forty-nine unknown bytes. -/
namespace Go.Am
set_option linter.unusedSimpArgs false
set_option maxRecDepth 100000
def Ag0 : Env := envAdd id_poly_Code_Tag (.pure tagO) X_poly_limbs_whole
def Ag1 : Env := envAdd id_aead_Tag_1 (inl Ag0 af_aead_Tag_1) Ag0
def bytes1 : Option Res → List Int
  | some (.agg [.ints _ _ a], _) => a
  | _ => []
def adH (a c : List Int) (n : Nat) : Am.Heap := ⟨16, [roC 0 (.segs [.ints .u8 40 a]), roC 1 (.segs [.ints .u8 n c])]⟩
def aTagRun (nid : Nat) (k n a c : List Int) : Option Res := evFn Ag1 af_aead_Tag [.agg [.ints .u8 32 k], .agg [.ints .u8 12 n], slB 0 40, slB 1 49] (adH a c 49) (kOut none nid)
theorem atag_tot (nid : Nat) (f g a c : Nat → Int) : aTagRun nid (tab 32 f) (tab 12 g) (tab 40 a) (tab 49 c) = some (.agg [.ints .u8 16 (bytes1 (aTagRun 0 (tab 32 f) (tab 12 g) (tab 40 a) (tab 49 c)))], ⟨0, []⟩) := by kernel_rfl
theorem atag_len (f g a c : Nat → Int) : ((bytes1 (aTagRun 0 (tab 32 f) (tab 12 g) (tab 40 a) (tab 49 c))).length == 16) = true := by kernel_rfl
def aTagB (k n a c : List Int) : List Int := bytes1 (aTagRun 0 k n a c)
/-- With a function that is not looked into. -/
def aTagV (T : List Int → List Int → List Int → List Int → List Int) : OrcP := fun _ args h => match args with
  | [.agg [.ints .u8 32 k], .agg [.ints .u8 12 n], x, y] => withBs h x fun a => withBs h y fun c => if a.length = 40 ∧ c.length = 49 then some (.agg [.ints .u8 16 (fixL 16 (T k n a c))], none) else none
  | _ => none
theorem aTag_pure {P : Program} {f : FuncId} (F : Fn P f Ag1 af_aead_Tag) : PureOk P f (aTagV aTagB) := by
  refine F.lit [.plain, .plain, .sl (.ints .u8), .sl (.ints .u8)] none fun nid args hp r ha hr => ?_
  unfold aTagV at hr
  split at hr <;> try (cases hr; done)
  rename_i k n x y
  obtain ⟨a, hc, hl, hr1⟩ := withBs_eq hr
  obtain ⟨c, hc', hl', hr2⟩ := withBs_eq hr1
  split at hr2 <;> try (cases hr2; done)
  rename_i hn
  obtain ⟨h1, h2⟩ := hn
  cases hr2
  obtain ⟨⟨⟨q1, _⟩, _⟩, ⟨⟨q2, _⟩, _⟩, _⟩ := ha.ok
  refine ⟨_, _, by simp only [viewArgs, contI_isSl hc, contI_isSl hc', if_true, viewS_ints hc, viewS_ints hc', Option.bind_some, Option.map_some]; rfl, by simp, ?_⟩
  rw [h1, h2]
  obtain ⟨a, rfl⟩ := tab_of h1
  obtain ⟨c, rfl⟩ := tab_of h2
  obtain ⟨k, rfl⟩ := tab_of q1
  obtain ⟨n, rfl⟩ := tab_of q2
  refine (atag_tot nid k n a c).trans ?_
  have := atag_len k n a c
  simp only [beq_iff_eq] at this
  rw [fixL_eq (l := aTagB _ _ _ _) this]
  rfl
end Go.Am
/- octet: Zero. frame: PutHeader. -/
namespace Go.Am
set_option linter.unusedSimpArgs false
set_option maxRecDepth 100000
def ozTop : ACode := af_octet_Zero.code
def ozL : ACode := ozTop.r.r.l.r.b.b
def ozCn : Option Canon := some ⟨[], [3, 6, 7, 8], [], [0], 16⟩
def afOZOf (F : Nat) : AFn := ⟨18, [.t 2], .seq none ozTop.l (.seq none ozTop.r.l (.seq none (.seq none ozTop.r.r.l.l (.block 0 none (.loop F ozCn ozL))) ozTop.r.r.r))⟩
def afOZ : AFn := afOZOf manyR
def ozSt (len m : Nat) (xs : List Int) (acc i : Int) : St := ⟨mkT 18 [(3, .int .u8 acc), (6, slB 0 len), (7, .int .i64 len), (8, .int .i64 i)], ⟨16, [roC 0 (.segs [.ints .u8 m xs])]⟩⟩
def ozK (nid : Nat) : Kont := kBlock 0 none (kSeq G10 none ozTop.r.r.r (kFn [.t 2] (kOut none nid)))
theorem oz_round (L : St → Option Res) (nid : Nat) (len m : Nat) (xs : List Int) (acc i : Int) : ev G10 ozL (ozSt len m xs acc i) (kLoop ozCn L (ozK nid)) =
    bif decide (i < len) then ptAt i len xs fun a => L (ozSt len m xs (bw .or .u8 acc a) (w63 (i + 1))) else yes (acc == 0) := by kernel_rfl
theorem oz_start (F nid : Nat) (len m : Nat) (xs : List Int) : ev G10 (afOZOf F).code ⟨[slB 0 len] ++ List.replicate 17 .undef, ⟨16, [roC 0 (.segs [.ints .u8 m xs])]⟩⟩ (kFn [.t 2] (kOut none nid)) =
    loopK ozCn (ev G10 ozL) F (ozSt len m xs 0 0) (ozK nid) := by kernel_rfl
def orA : List Int → Int → Int
  | [], acc => acc
  | a :: r, acc => orA r (bw .or .u8 acc a)
theorem oz_loop (nid : Nat) (m : Nat) (xs : List Int) (hl : xs.length ≤ 1152921504606846976) : ∀ (r pre : List Int) (acc : Int) (F : Nat), xs = pre ++ r → r.length < F →
    loopK ozCn (ev G10 ozL) F (ozSt xs.length m xs acc (pre.length : Int)) (ozK nid) = yes (orA r acc == 0)
  | [], pre, acc, F + 1, he, _ => by
    refine (oz_round _ nid xs.length m _ _ _).trans ?_
    have : xs.length = pre.length := by rw [he]; simp
    rw [this, decide_eq_false (by omega), cond_false]
    rfl
  | s :: r, pre, acc, F + 1, he, hF => by
    have hlen : xs.length = pre.length + r.length + 1 := by rw [he]; simp; omega
    have hs : xs[pre.length]? = some s := by rw [he]; simp
    refine (oz_round _ nid xs.length m _ _ _).trans ?_
    rw [decide_eq_true (by omega), cond_true, ptAt_eq pre.length (by omega) hs]
    have ih := oz_loop nid m xs hl r (pre ++ [s]) (bw .or .u8 acc s) F (by rw [he]; simp) (by simp at hF; omega)
    rw [w63_of (by omega) (by omega)]
    have e : (((pre ++ [s]).length : Nat) : Int) = (pre.length : Int) + 1 := by simp
    rw [e] at ih
    exact ih
  | _ :: _, _, _, 0, _, h => by omega
theorem oz_run (nid : Nat) (m : Nat) (xs : List Int) (hl : xs.length ≤ 1152921504606846976) : evFn G10 afOZ [slB 0 xs.length] ⟨16, [roC 0 (.segs [.ints .u8 m xs])]⟩ (kOut none nid) = yes (orA xs 0 == 0) := by
  refine (evFn_eq ..).trans ?_
  refine (oz_start _ nid _ _ _).trans ?_
  exact oz_loop nid m xs hl xs [] 0 manyR rfl (Nat.lt_of_le_of_lt hl (of_decide_eq_true rfl))
def zeroO : OrcP := fun _ args h => match args with
  | [l] => withBs h l fun xs => some (.bool (orA xs 0 == 0), none)
  | _ => none
theorem zero_pure {P : Program} {f : FuncId} (F : Fn P f G10 afOZ) : PureOk P f zeroO := by
  refine F.lit [.sl (.ints .u8)] none fun nid args hp r ha hr => ?_
  unfold zeroO at hr
  split at hr <;> try (cases hr; done)
  rename_i l
  obtain ⟨xs, hc, hl, hr1⟩ := withBs_eq hr
  cases hr1
  refine ⟨_, _, by simp only [viewArgs, contI_isSl hc, if_true, viewS_ints hc, Option.bind_some, Option.map_some]; rfl, by simp, ?_⟩
  exact oz_run nid _ xs (by omega)
def zeroC : OrcF := fun args h κ => match args with
  | [l] => withBs h l fun xs => κ (.bool (orA xs 0 == 0)) h
  | _ => none
theorem zero_full {P : Program} {f : FuncId} (h : PureOk P f zeroO) : FullOk P f zeroC := by
  refine pure_full h fun args hp κ => ?_
  unfold zeroC zeroO
  split
  · simp only [withBs_map, Option.bind_some, obH]
  · first
    | rfl
    | (rename_i hx
       split
       · exact (hx _ rfl).elim
       · rfl)
/-! ## PutHeader -/
def Hd0 : Env := envAdd id_octet_Put32 (.pure put32O) G10
def hdrB (k : List Int) (p n : Int) : List Int := k ++ le4 (w64 p) ++ le4 (w64 n)
theorem hdr_run (nid : Nat) (f : Nat → Int) (p n : Int) : evFn Hd0 af_frame_PutHeader [.agg [.ints .u8 32 (tab 32 f), .int .u32 p, .int .u32 n]] ⟨16, []⟩ (kOut (some (.ints .u8)) nid) =
    some (.slice nid 0 0 40 0 none, encB nid (some (.segs [.ints .u8 40 (hdrB (tab 32 f) p n)]))) := by kernel_rfl
def hdrO : OrcP := fun nid args _ => match args with
  | [.agg [.ints .u8 32 k, .int .u32 p, .int .u32 n]] => some (.slice nid 0 0 40 0 none, some (.segs [.ints .u8 40 (hdrB (fixL 32 k) p n)]))
  | _ => none
theorem hdr_pure {P : Program} {f : FuncId} (F : Fn P f Hd0 af_frame_PutHeader) : PureOk P f hdrO := by
  refine F.lit [.plain] (some (.ints .u8)) fun nid args hp r ha hr => ?_
  unfold hdrO at hr
  split at hr <;> try (cases hr; done)
  rename_i k p n
  cases hr
  obtain ⟨⟨⟨hl, _⟩, _⟩, _⟩ := ha.ok
  refine ⟨_, [], by simp only [viewArgs, avIds, avIds.avIdsL, List.append_nil, List.isEmpty_nil, if_true, Option.map_some]; rfl, by simp, ?_⟩
  rw [fixL_eq hl]
  obtain ⟨k, rfl⟩ := tab_of hl
  exact hdr_run nid k p n
end Go.Am
/- chacha: Xor of forty-nine unknown bytes. -/
namespace Go.Am
set_option linter.unusedSimpArgs false
set_option maxRecDepth 100000
/-! ## Xor -/
def bytesN : Option Res → List Int
  | some (_, ⟨_, [⟨_, _, .segs [.ints _ _ a]⟩]⟩) => a
  | _ => []
def xorRun (nid : Nat) (k n c : List Int) : Option Res := evFn X_chacha_Block af_chacha_Xor [.agg [.ints .u8 32 k], .int .u32 1, .agg [.ints .u8 12 n], slB 0 49] ⟨16, [roC 0 (.segs [.ints .u8 49 c])]⟩ (kOut (some (.ints .u8)) nid)
theorem xor_tot (nid : Nat) (f g c : Nat → Int) : xorRun nid (tab 32 f) (tab 12 g) (tab 49 c) = some (.slice nid 0 0 49 0 (some 49), encB nid (some (.segs [.ints .u8 49 (bytesN (xorRun 0 (tab 32 f) (tab 12 g) (tab 49 c)))]))) := by kernel_rfl
theorem xor_len (f g c : Nat → Int) : ((bytesN (xorRun 0 (tab 32 f) (tab 12 g) (tab 49 c))).length == 49) = true := by kernel_rfl
def xorB (k n c : List Int) : List Int := bytesN (xorRun 0 k n c)
def xorV (X : List Int → List Int → List Int → List Int) : OrcP := fun nid args h => match args with
  | [.agg [.ints .u8 32 k], .int .u32 1, .agg [.ints .u8 12 n], y] => withBs h y fun c => if c.length = 49 then some (.slice nid 0 0 49 0 (some 49), some (.segs [.ints .u8 49 (fixL 49 (X k n c))])) else none
  | _ => none
theorem xor_pure {P : Program} {f : FuncId} (F : Fn P f X_chacha_Block af_chacha_Xor) : PureOk P f (xorV xorB) := by
  refine F.lit [.plain, .plain, .plain, .sl (.ints .u8)] (some (.ints .u8)) fun nid args hp r ha hr => ?_
  unfold xorV at hr
  split at hr <;> try (cases hr; done)
  rename_i k n y
  obtain ⟨c, hc', hl', hr2⟩ := withBs_eq hr
  split at hr2 <;> try (cases hr2; done)
  rename_i h2
  cases hr2
  obtain ⟨⟨⟨q1, _⟩, _⟩, _, ⟨⟨q2, _⟩, _⟩, _⟩ := ha.ok
  refine ⟨_, _, by simp only [viewArgs, contI_isSl hc', if_true, viewS_ints hc', Option.bind_some, Option.map_some]; rfl, by simp, ?_⟩
  rw [h2]
  obtain ⟨c, rfl⟩ := tab_of h2
  obtain ⟨k, rfl⟩ := tab_of q1
  obtain ⟨n, rfl⟩ := tab_of q2
  refine (xor_tot nid k n c).trans ?_
  have := xor_len k n c
  simp only [beq_iff_eq] at this
  rw [fixL_eq (l := xorB _ _ _) this]
  rfl
end Go.Am
