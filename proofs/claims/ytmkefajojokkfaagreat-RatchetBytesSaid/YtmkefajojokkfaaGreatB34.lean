/- RatchetBytes: part 35 of 39 of its proof. -/
import Derived.Test.YtmkefajojokkfaaGreatB33
import Derived.SizedLaws
import Derived.RowKit
import Derived.Below
set_option linter.unusedVariables false
set_option linter.unusedSimpArgs false
/- What is known of slices in the arguments' parts. -/
namespace Go.Am
set_option linter.unusedSimpArgs false
structure HOkA (h : Heap) (args : List AV) : Prop extends HOk h args where
  aggR : ∀ l, AV.agg l ∈ args → ∀ s ∈ l, ∀ e xs, contR e h s = some xs → ∀ r ∈ xs, RowWf e r ∧ ArgsOk r
  aggI : ∀ l, AV.agg l ∈ args → ∀ s ∈ l, ∀ k xs, contI k h s = some xs → ∀ y ∈ xs, rng k y
theorem agg_cell {ι : Inj} {l : List AV} {x : Value} {s : AV} (h : VR ι (.agg l) x) (hs : s ∈ l) (hi : isSl s = true) : ∃ y, SR ι s y := by
  obtain ⟨cs, _, _, hc⟩ := h
  have hm : s ∈ cellsL l := by simp only [cellsL, List.mem_flatMap]; exact ⟨s, hs, by rw [isSl_segC hi]; simp⟩
  obtain ⟨i, hi⟩ := List.mem_iff_getElem?.1 hm
  obtain ⟨y, _, hy⟩ := hc.2 i s hi
  exact ⟨y, hy⟩
theorem HOkA.of {h : Heap} {w : World} {ι : Inj} {args : List AV} {vs : List Value} (R : HRel ι h w) (ha : VRL ι args vs) : HOkA h args where
  toHOk := .of R ha
  aggR := fun l hl s hs e xs hk => by
    obtain ⟨i, hi⟩ := List.mem_iff_getElem?.1 hl
    obtain ⟨x, _, hr⟩ := ha.2 i _ hi
    obtain ⟨y, hy⟩ := agg_cell hr hs (contR_isSl hk)
    exact viewR_ok R (.of_SR hy) hk
  aggI := fun l hl s hs k xs hk => by
    obtain ⟨i, hi⟩ := List.mem_iff_getElem?.1 hl
    obtain ⟨x, _, hr⟩ := ha.2 i _ hi
    obtain ⟨y, hy⟩ := agg_cell hr hs (contI_isSl hk)
    exact viewS_rng R (.of_SR hy) hk
theorem Fn.lit2 {P : Program} {f : FuncId} {Γ : Env} {af : AFn} (F : Fn P f Γ af) (as : List AK) (rk : Option GK) {o' : Nat → List AV → Heap → Option (AV × Option Blk)}
    (h : ∀ nid args hp r, HOkA hp args → o' nid args hp = some r → ∃ args' bl, viewArgs hp args as 0 = some (args', bl) ∧ bl.length ≤ 16 ∧ evFn Γ af args' ⟨16, bl⟩ (kOut rk nid) = some (r.1, encB nid r.2)) : PureOk P f o' := by
  intro nid args hp v ob ι w vs hk R hn ha
  obtain ⟨args', bl, h1, h2, h3⟩ := h nid args hp _ (.of R ha) hk
  exact litP_ok (as := as) (rk := rk) F.ok nid args hp v ob ι w vs (litP_run F h1 h2 h3) R hn ha
theorem sk_ok {s : Sk} (h : ArgsOk (skR s)) : SkOk s := by
  obtain ⟨⟨h1, h2⟩, h3, ⟨h4, h5⟩, _⟩ := h
  exact ⟨h1, h4, h2, h3, h5⟩
theorem rat_ok {r : Rat} {l : AV} (h : AOk (.agg (r.segs l))) : RatOk r := by
  obtain ⟨⟨a1, a2⟩, ⟨b1, b2⟩, ⟨c1, c2⟩, ⟨d1, d2⟩, ⟨e1, e2⟩, f, g, k, _⟩ := h
  exact ⟨a1, b1, c1, d1, e1, a2, b2, c2, d2, e2, f, g, k⟩
theorem HOkA.rat {h : Heap} {args : List AV} (H : HOkA h args) {r : Rat} {l : AV} (hm : AV.agg (r.segs l) ∈ args) {ss : List Sk} (hc : contR 65 h l = some (ss.map skR)) : RatOk r ∧ ∀ s ∈ ss, SkOk s := by
  refine ⟨rat_ok (AOkL_iff.1 H.ok _ hm), fun s hs => sk_ok ?_⟩
  exact (H.aggR _ hm l (by simp [Rat.segs]) 65 _ hc (skR s) (List.mem_map.2 ⟨s, hs, rfl⟩)).2
/-! ## Put, as an oracle -/
def rputV (r : Rat) (ss : List Sk) : AV := bif checkI r ss != 0 then .tuple [.nils, .int .i64 270] else .tuple [.isl .u8 (putB r ss), .int .i64 0]
def rputO : OrcP := fun _ args h => match args with
  | [v] => withRat v fun r l => withSks h l fun ss => some (rputV r ss, none)
  | _ => none
theorem rput_pure {P : Program} {f : FuncId} (F : Fn P f Pt0 afPut) : PureOk P f rputO := by
  refine F.lit2 [.agg [.rows 65]] none fun nid args hp r ha hr => ?_
  unfold rputO at hr
  split at hr <;> try (cases hr; done)
  obtain ⟨q, l, e, hr1⟩ := withRat_eq hr
  obtain ⟨ss, hc, hl, hr2⟩ := withSks_eq hr1
  cases hr2
  subst e
  obtain ⟨h1, h2⟩ := ha.rat (List.mem_singleton.2 rfl) hc
  refine ⟨_, _, by simp only [viewArgs, check_view hc, Option.bind_some, Option.map_some, List.append_nil]; rfl, by simp, ?_⟩
  refine (pt_run nid q _ ss h1 h2 hl).trans ?_
  unfold putR rputV
  cases checkI q ss != 0 <;> rfl
def rputC : OrcF := fun args h κ => match args with
  | [v] => withRat v fun r l => withSks h l fun ss => bif checkI r ss != 0 then κ (.tuple [.nils, .int .i64 270]) h else κ (.tuple [.isl .u8 (putB r ss), .int .i64 0]) h
  | _ => none
theorem rput_full {P : Program} {f : FuncId} (h : PureOk P f rputO) : FullOk P f rputC := by
  refine pure_full h fun args hp κ => ?_
  have e : ∀ r ss, (bif checkI r ss != 0 then κ (.tuple [.nils, .int .i64 270]) hp else κ (.tuple [.isl .u8 (putB r ss), .int .i64 0]) hp) = κ (rputV r ss) hp := fun r ss => by
    unfold rputV
    cases checkI r ss != 0 <;> rfl
  unfold rputC rputO
  split
  · simp only [withRat_map, withSks_map, Option.bind_some, obH, e]
  · rfl
end Go.Am
/- What is handed in: cells of a value as it is read. -/
namespace Go.Am
set_option linter.unusedSimpArgs false
theorem mapM_get {α β : Type} {f : α → Option β} : ∀ {l : List α} {r : List β}, l.mapM f = some r → r.length = l.length ∧ ∀ (i : Nat) a, l[i]? = some a → ∃ b, f a = some b ∧ r[i]? = some b
  | [], r, h => by
    simp only [List.mapM_nil] at h
    cases h
    exact ⟨rfl, fun i a ha => by simp at ha⟩
  | x :: l, r, h => by
    rw [List.mapM_cons] at h
    cases hx : f x with
    | none => rw [hx] at h; cases h
    | some b =>
      rw [hx] at h
      cases hr : l.mapM f with
      | none => rw [hr] at h; cases h
      | some r' =>
        rw [hr] at h
        cases h
        obtain ⟨h1, h2⟩ := mapM_get hr
        refine ⟨by simp [h1], fun i a ha => ?_⟩
        cases i with
        | zero => simp only [List.getElem?_cons_zero, Option.some.injEq] at ha; subst ha; exact ⟨b, hx, rfl⟩
        | succ i => simpa using h2 i a (by simpa using ha)
/-- The type of a cell. -/
def leafAt (P : Program) : Nat → TypeId → Nat → Option TypeId
  | 0, _, _ => none
  | n + 1, t, i => match P.underlying t with
    | some (.struct fs) => (fs.toList.find? fun f => decide (f.offset ≤ i) && decide (i < f.offset + P.cellsOf f.type)).bind fun f => leafAt P n f.type (i - f.offset)
    | some (.array m e) => if P.cellsOf e = 0 then none else if i / P.cellsOf e < m then leafAt P n e (i % P.cellsOf e) else none
    | some _ => if i = 0 then some t else none
    | none => none
section
variable {H : Type} {enc : TypeId × Value → H} {P : Program} {w : World} {base : Nat} {spare : Nat → Bool} {held : Bool}
theorem weightsAll_mem {e : TypeId} : ∀ {l : List (DataW H)} {d : DataW H}, d ∈ l → ∀ k ∈ d.weights P e, k ∈ DataW.weightsAll P e l
  | x :: l, d, hd, k, hk => by
    simp only [DataW.weightsAll, List.mem_append]
    rcases List.mem_cons.1 hd with rfl | hd
    · exact .inl hk
    · exact .inr (weightsAll_mem hd k hk)
theorem trod_one {fuel : Nat} {t : TypeId} {cs : List Value} {d : DataW H} {p : List MemPlace} (h1 : ∀ fs, P.underlying t ≠ some (.struct fs)) (h2 : ∀ n e, P.underlying t ≠ some (.array n e)) (h : DataW.trod enc P w base spare held fuel t cs = some (d, p)) : ∃ v, cs = [v] := by
  cases fuel with
  | zero => simp [DataW.trod] at h
  | succ fuel =>
    unfold DataW.trod at h
    split at h <;> first
      | exact ⟨_, rfl⟩
      | (rename_i hu; exact absurd hu (h1 _))
      | (rename_i hu; exact absurd hu (h2 _ _))
      | (cases h; done)
theorem trod_leaf : ∀ (n : Nat) (t : TypeId) (i : Nat) (u : TypeId) (fuel : Nat) (cs : List Value) (d : DataW H) (p : List MemPlace), leafAt P n t i = some u → DataW.trod enc P w base spare held fuel t cs = some (d, p) →
    ∃ v fuel' d' p', cs[i]? = some v ∧ DataW.trod enc P w base spare held fuel' u [v] = some (d', p') ∧ ∀ k ∈ d'.weights P u, k ∈ d.weights P t
  | 0, _, _, _, _, _, _, _, h, _ => by cases h
  | n + 1, t, i, u, fuel, cs, d, p, hl, h => by
    unfold leafAt at hl
    split at hl
    · rename_i fs hu
      cases hf : fs.toList.find? fun f => decide (f.offset ≤ i) && decide (i < f.offset + P.cellsOf f.type) with
      | none => rw [hf] at hl; cases hl
      | some f =>
        rw [hf] at hl
        simp only [Option.bind_some] at hl
        have hc := List.find?_some hf
        simp only [Bool.and_eq_true, decide_eq_true_eq] at hc
        obtain ⟨j, hj⟩ := List.mem_iff_getElem?.1 (List.mem_of_find?_eq_some hf)
        cases fuel with
        | zero => simp [DataW.trod] at h
        | succ fuel =>
          simp only [DataW.trod, hu] at h
          split at h <;> try (cases h; done)
          cases hm : fs.toList.mapM fun f => DataW.trod enc P w base spare held fuel f.type ((cs.drop f.offset).take (P.cellsOf f.type)) with
          | none => rw [hm] at h; cases h
          | some xs =>
            rw [hm] at h
            simp only [Option.map_some, Option.some.injEq, Prod.mk.injEq] at h
            obtain ⟨rfl, rfl⟩ := h
            obtain ⟨⟨d1, p1⟩, e1, e2⟩ := (mapM_get hm).2 j f hj
            obtain ⟨v, fuel', d', p', g1, g2, g3⟩ := trod_leaf n f.type (i - f.offset) u fuel _ d1 p1 hl e1
            refine ⟨v, fuel', d', p', ?_, g2, fun k hk => ?_⟩
            · rw [List.getElem?_take, if_pos (by omega), List.getElem?_drop] at g1
              rw [← g1]; congr 1; omega
            · simp only [DataW.weights, hu]
              exact DataW.weights_mem_each (j := j) (t := f.type) (d := d1) (by rw [List.getElem?_map, hj]; rfl) (by rw [List.getElem?_map, e2]; rfl) k (g3 k hk)
    · rename_i m e hu
      split at hl <;> try (cases hl; done)
      split at hl <;> try (cases hl; done)
      rename_i hz hlt
      cases fuel with
      | zero => simp [DataW.trod] at h
      | succ fuel =>
        simp only [DataW.trod, hu] at h
        split at h <;> try (cases h; done)
        cases hm : (List.range m).mapM fun i => DataW.trod enc P w base spare held fuel e ((cs.drop (i * P.cellsOf e)).take (P.cellsOf e)) with
        | none => rw [hm] at h; cases h
        | some xs =>
          rw [hm] at h
          simp only [Option.map_some, Option.some.injEq, Prod.mk.injEq] at h
          obtain ⟨rfl, rfl⟩ := h
          obtain ⟨⟨d1, p1⟩, e1, e2⟩ := (mapM_get hm).2 (i / P.cellsOf e) (i / P.cellsOf e) (by simp [hlt])
          obtain ⟨v, fuel', d', p', g1, g2, g3⟩ := trod_leaf n e (i % P.cellsOf e) u fuel _ d1 p1 hl e1
          have hml := Nat.mod_lt i (Nat.pos_of_ne_zero hz)
          refine ⟨v, fuel', d', p', ?_, g2, fun k hk => ?_⟩
          · rw [List.getElem?_take, if_pos hml, List.getElem?_drop] at g1
            rw [← g1]; congr 1
            have := Nat.div_add_mod i (P.cellsOf e)
            rw [Nat.mul_comm] at this
            omega
          · simp only [DataW.weights, hu]
            exact weightsAll_mem (List.mem_map.2 ⟨_, List.mem_of_getElem? e2, rfl⟩) k (g3 k hk)
    · rename_i x h1 h2 hu
      split at hl <;> try (cases hl; done)
      rename_i hi
      cases hl
      subst hi
      obtain ⟨v, rfl⟩ := trod_one (fun fs hf => by rw [hu] at hf; cases hf; exact h1 _ rfl) (fun m e hf => by rw [hu] at hf; cases hf; exact h2 _ _ rfl) h
      exact ⟨v, fuel, d, p, rfl, h, fun _ hk => hk⟩
    · cases hl
theorem wf_rng {k : IntKind} {n : Int} (h : (Lit.int k n).wf = true) : rng k n := by
  simp only [Lit.wf, Bool.and_eq_true, decide_eq_true_eq] at h
  intro hs
  cases k <;> simp [IntKind.signed, IntKind.bits, IntKind.min, IntKind.max] at hs h ⊢ <;> omega
theorem trod_int {fuel : Nat} {u : TypeId} {k : IntKind} {v : Value} {d : DataW H} {p : List MemPlace} (hu : P.underlying u = some (.int k)) (h : DataW.trod enc P w base spare held fuel u [v] = some (d, p)) : ∃ n, v = .int k n ∧ rng k n := by
  cases fuel with
  | zero => simp [DataW.trod] at h
  | succ fuel =>
    cases v <;> simp [DataW.trod, hu] at h
    obtain ⟨⟨rfl, hw⟩, _⟩ := h
    exact ⟨_, rfl, wf_rng hw⟩
/-- A slice as it is read: what lies in each of its places. -/
theorem trod_slice {fuel : Nat} {u e : TypeId} {v : Value} {d : DataW H} {p : List MemPlace} (hu : P.underlying u = some (.slice e)) (hz : 0 < P.cellsOf e) (h : DataW.trod enc P w base (fun _ => true) held fuel u [v] = some (d, p)) :
    (v = .slice none 0 0) ∨ ∃ a len cap, v = .slice (some a) len cap ∧ len ≤ cap ∧ cap * P.bytesOf e ∈ d.weights P u ∧ ∀ i, i < cap → a.spot = none ∧ ∃ arr el fz, w.heap[a.block]? = some (.cells arr el fz) ∧ a.off + (i + 1) * P.cellsOf e ≤ arr.size ∧
      ∃ cs, cs.length = P.cellsOf e ∧ (∀ j, j < P.cellsOf e → cs[j]? = arr[a.off + (i * P.cellsOf e + j)]?) ∧ ∃ fuel' d' p', DataW.trod enc P w base (fun _ => true) held fuel' e cs = some (d', p') := by
  cases fuel with
  | zero => simp [DataW.trod] at h
  | succ fuel =>
    cases v with
    | slice a len cap =>
      cases a with
      | none =>
        left
        unfold DataW.trod at h
        rw [hu] at h
        split at h <;> first
          | (rename_i h1 h2; cases h1; cases h2; rfl)
          | (rename_i h1 h2; cases h1; done)
          | (rename_i h1 h2; cases h2; done)
          | (cases h; done)
          | (rename_i h1; cases h1; done)
      | some a =>
        right
        simp only [DataW.trod, hu] at h
        split at h <;> try (cases h; done)
        rename_i hc
        obtain ⟨_, hlc, _⟩ := hc
        obtain ⟨el, hel⟩ : ∃ el : Nat → Option (DataW H × List MemPlace), ∀ i, (w.cells? base (a.add (i * P.cellsOf e)) (P.cellsOf e)).bind (DataW.trod enc P w base (fun _ => true) held fuel e) = el i := ⟨_, fun _ => rfl⟩
        simp only [hel] at h
        cases h1 : (List.range len).mapM (fun i => el i) with
        | none => rw [h1] at h; cases h
        | some elems =>
          rw [h1] at h
          simp only [Option.bind_some, if_true] at h
          cases h2 : (List.range (cap - len)).mapM fun j => el (len + j) with
          | none => rw [h2] at h; cases h
          | some rest =>
            rw [h2] at h
            simp only [Option.map_some, Option.some.injEq, Prod.mk.injEq] at h
            obtain ⟨rfl, _⟩ := h
            obtain ⟨l1, g1⟩ := mapM_get h1
            obtain ⟨l2, g2⟩ := mapM_get h2
            simp only [List.length_range] at l1 l2
            refine ⟨a, len, cap, rfl, hlc, ?_, fun i hi => ?_⟩
            · simp only [DataW.weights, hu, List.length_map, l1, l2]
              rw [show len + (cap - len) = cap by omega]
              simp
            · have key : ∀ i, i < cap → ∃ cs, cs.length = P.cellsOf e ∧ (∀ j, j < P.cellsOf e → ∃ x, w.cell? (a.add (i * P.cellsOf e + j)) = some x ∧ cs[j]? = some x) ∧ ∃ fuel' d' p', DataW.trod enc P w base (fun _ => true) held fuel' e cs = some (d', p') := by
                intro i hi
                have hsome : ∃ b, el i = some b := by
                  by_cases hlt : i < len
                  · obtain ⟨b, hb, _⟩ := g1 i i (by simp [hlt]); exact ⟨b, hb⟩
                  · obtain ⟨b, hb, _⟩ := g2 (i - len) (i - len) (by rw [List.getElem?_range (by omega)])
                    exact ⟨b, by rw [← hb]; congr 1; omega⟩
                obtain ⟨⟨d', p'⟩, hb⟩ := hsome
                rw [← hel] at hb
                cases hcs : w.cells? base (a.add (i * P.cellsOf e)) (P.cellsOf e) with
                | none => rw [hcs] at hb; cases hb
                | some cs =>
                  rw [hcs] at hb
                  simp only [Option.bind_some] at hb
                  unfold World.cells? at hcs
                  split at hcs <;> try (cases hcs; done)
                  obtain ⟨l3, g3⟩ := mapM_get hcs
                  simp only [List.length_range] at l3
                  refine ⟨cs, l3, fun j hj => ?_, fuel, d', p', hb⟩
                  obtain ⟨x, hx, hxs⟩ := g3 j j (by simp [hj])
                  refine ⟨x, ?_, hxs⟩
                  rw [← hx]
                  congr 1
                  unfold Addr.add
                  by_cases h0 : i * P.cellsOf e = 0 <;> by_cases hj0 : j = 0 <;> simp [h0, hj0] <;> omega
              have hspot : a.spot = none := by
                obtain ⟨_, _, hc, _⟩ := key 0 (by omega)
                obtain ⟨x, hx, _⟩ := hc 0 hz
                rw [Nat.zero_mul] at hx
                unfold World.cell? at hx
                have e0 : a.add (0 + 0) = a := by simp [Addr.add]
                rw [e0] at hx
                split at hx
                · split at hx
                  · cases hx
                  · rename_i hn; simpa using hn
                · cases hx
              obtain ⟨cs, l3, hc, ht⟩ := key i hi
              have hadd : ∀ m, a.add m = ⟨a.block, a.off + m, none⟩ := fun m => by
                unfold Addr.add
                split
                · rename_i h0; subst h0; cases a; simp only at hspot; subst hspot; rfl
                · rfl
              have hcell : ∀ j, j < P.cellsOf e → ∃ arr el fz, w.heap[a.block]? = some (.cells arr el fz) ∧ cs[j]? = arr[a.off + (i * P.cellsOf e + j)]? ∧ a.off + (i * P.cellsOf e + j) < arr.size := fun j hj => by
                obtain ⟨x, hx, hxs⟩ := hc j hj
                rw [hadd] at hx
                unfold World.cell? at hx
                simp only at hx
                split at hx
                · rename_i arr el fz hh
                  simp only [Option.isSome_none, Bool.false_eq_true, if_false] at hx
                  exact ⟨arr, el, fz, hh, hxs.trans hx.symm, (Array.getElem?_eq_some_iff.1 hx).1⟩
                · cases hx
              obtain ⟨arr, el', fz, hh, _, _⟩ := hcell 0 hz
              refine ⟨hspot, arr, el', fz, hh, ?_, cs, l3, fun j hj => ?_, ht⟩
              · obtain ⟨arr', _, _, hh', _, hlt⟩ := hcell (P.cellsOf e - 1) (by omega)
                rw [hh] at hh'
                cases hh'
                rw [Nat.add_mul]
                omega
              · obtain ⟨arr', _, _, hh', heq, _⟩ := hcell j hj
                rw [hh] at hh'
                cases hh'
                exact heq
    | _ => simp [DataW.trod, hu] at h
end
end Go.Am
/- What is handed in: rows of numbers, rows of keys, ratchets. -/
namespace Go.Am
set_option linter.unusedSimpArgs false
set_option maxRecDepth 100000
def inj0 : Inj := ⟨fun _ => none, fun _ => none⟩
def numOf : Option Value → Int
  | some (.int _ n) => n
  | _ => 0
/-- Numbers of places from an offset on. -/
def numsAt (g : Nat → Int) (o n : Nat) : List Int := (List.range n).map fun i => g (o + i)
theorem numsAt_len (g : Nat → Int) (o n : Nat) : (numsAt g o n).length = n := by simp [numsAt]
/-- A view of a slice that is handed in. -/
def Seen (w : World) (v : Value) (len e : Nat) (b : Blk) : Prop := ∃ q : Place, ∀ (ι' : Inj) n, ι' n = some q → VR ι' (.slice n 0 0 len e none) v ∧ BlkR ι' w n ⟨n, true, b⟩
section
variable {H : Type} {enc : TypeId × Value → H} {P : Program} {w : World} {base : Nat} {held : Bool}
theorem cells_nums (k : IntKind) (n : Nat) (xs : List Int) : (Blk.segs [.ints k n xs]).cells = xs.map (.int k) := by simp [Blk.cells, cellsL, segC]
theorem entry_ints {fuel : Nat} {u e : TypeId} {k : IntKind} {v : Value} {d : DataW H} {p : List MemPlace} (hu : P.underlying u = some (.slice e)) (he : P.underlying e = some (.int k)) (hc : P.cellsOf e = 1)
    (h : DataW.trod enc P w base (fun _ => true) held fuel u [v] = some (d, p)) : ∃ xs : List Int, (∀ x ∈ xs, rng k x) ∧ (xs.length = 0 ∨ ∃ cap, xs.length ≤ cap ∧ cap * P.bytesOf e ∈ d.weights P u) ∧ Seen w v xs.length 0 (.segs [.ints k xs.length xs]) := by
  rcases trod_slice hu (by omega) h with rfl | ⟨a, len, cap, rfl, hlc, hw, hcell⟩
  · refine ⟨[], by simp, .inl rfl, ?_⟩
    obtain ⟨q, hq, _⟩ := view_core (ι := inj0) (w := w) (a := none) (len := 0) (c := 0) (e := 0) (b := .segs [.ints k 0 []]) rfl (Nat.le_refl _) (by intro s hs; simp at hs; subst hs; rfl) (by simp [Blk.cells, cellsL, segC]) (fun u hu => by simp [Blk.cells, cellsL, segC] at hu) (.inl rfl)
    exact ⟨q, fun ι' n hi => hq ι' n hi fun k f hk => by cases hk⟩
  · let g : Nat → Int := fun i => match w.heap[a.block]? with | some (.cells arr _ _) => numOf arr[a.off + i]? | _ => 0
    have key : ∀ i, i < cap → a.spot = none ∧ ∃ arr el fz, w.heap[a.block]? = some (.cells arr el fz) ∧ a.off + (i + 1) ≤ arr.size ∧ arr[a.off + i]? = some (.int k (g i)) ∧ rng k (g i) := by
      intro i hi
      obtain ⟨h1, arr, el, fz, h2, h3, cs, h4, h5, fuel', d', p', h6⟩ := hcell i hi
      rw [hc] at h3 h4 h5
      have h7 := h5 0 (by omega)
      obtain ⟨x, hx⟩ : ∃ x, cs = [x] := by
        match cs, h4 with
        | [x], _ => exact ⟨x, rfl⟩
      subst hx
      obtain ⟨n, rfl, hr⟩ := trod_int he h6
      simp only [List.getElem?_cons_zero, Nat.mul_one, Nat.add_zero] at h7
      have hg : g i = n := by simp only [g, h2, ← h7, numOf]
      exact ⟨h1, arr, el, fz, h2, by omega, by rw [hg, ← h7], by rw [hg]; exact hr⟩
    refine ⟨numsAt g 0 len, fun x hx => ?_, .inr ⟨cap, by rw [numsAt_len]; exact hlc, hw⟩, ?_⟩
    · simp only [numsAt, List.mem_map, List.mem_range] at hx
      obtain ⟨i, hi, rfl⟩ := hx
      rw [Nat.zero_add]
      obtain ⟨_, _, _, _, _, _, _, hr⟩ := key i (by omega)
      exact hr
    · rw [numsAt_len]
      obtain ⟨q, hq, _⟩ := view_core (ι := inj0) (w := w) (a := some a) (len := len) (c := cap) (e := 0) (b := .segs [.ints k len (numsAt g 0 len)]) rfl hlc (by intro s hs; simp at hs; subst hs; exact numsAt_len g 0 len) (by rw [cells_nums]; simp [numsAt_len, esz])
        (fun u hu => by rw [cells_nums] at hu; simp only [List.mem_map] at hu; obtain ⟨x, _, rfl⟩ := hu; rfl) (by
          by_cases h0 : cap = 0
          · exact .inl h0
          · right
            obtain ⟨h1, arr, el, fz, h2, h3, _, _⟩ := key (cap - 1) (by omega)
            refine ⟨a.block, a.off, ?_, arr, el, fz, h2, by simp only [esz, if_true]; omega, fun i y hi => ?_⟩
            · cases a; simp only at h1; subst h1; rfl
            · rw [cells_nums, List.getElem?_map] at hi
              have hil : i < len := by
                cases hx : (numsAt g 0 len)[i]? with
                | none => rw [hx] at hi; cases hi
                | some z => have := (List.getElem?_eq_some_iff.1 hx).1; rw [numsAt_len] at this; exact this
              obtain ⟨_, arr', _, _, h2', _, h4, h5⟩ := key i (by omega)
              rw [h2] at h2'
              cases h2'
              simp only [numsAt, List.getElem?_map, List.getElem?_range hil, Option.map_some, Nat.zero_add, Option.some.injEq] at hi
              subst hi
              exact ⟨_, h4, rfl, h5⟩)
      exact ⟨q, fun ι' n hi => hq ι' n hi fun k f hk => by cases hk⟩
/-! ## Rows of keys -/
def kindSk (j : Nat) : IntKind := if j = 32 then .u32 else .u8
def mkSk (g : Nat → Int) (o : Nat) : Sk := ⟨numsAt g o 32, g (o + 32), numsAt g (o + 33) 32⟩
theorem skR_cells (g : Nat → Int) (o : Nat) : cellsL (skR (mkSk g o)) = (List.range 65).map fun j => .int (kindSk j) (g (o + j)) := by kernel_rfl
theorem flat_get {α : Type} {f : α → List AV} {e : Nat} : ∀ {xs : List α} {q : Nat} {y : AV}, (∀ r ∈ xs, (f r).length = e) → (xs.flatMap f)[q]? = some y → ∃ (i j : Nat) (r : α), xs[i]? = some r ∧ j < e ∧ q = i * e + j ∧ (f r)[j]? = some y
  | [], q, y, _, h => by simp at h
  | x :: xs, q, y, he, h => by
    rw [List.flatMap_cons] at h
    have hx := he x (List.mem_cons_self ..)
    by_cases hq : q < (f x).length
    · rw [List.getElem?_append_left hq] at h
      exact ⟨0, q, x, rfl, by omega, by omega, h⟩
    · rw [List.getElem?_append_right (by omega)] at h
      obtain ⟨i, j, r, h1, h2, h3, h4⟩ := flat_get (fun r hr => he r (List.mem_cons_of_mem _ hr)) h
      exact ⟨i + 1, j, r, h1, h2, by rw [Nat.add_mul]; omega, h4⟩
/-- The type of a row of a key that was passed over. -/
structure SkT (P : Program) (e : TypeId) : Prop where
  cells : P.cellsOf e = 65
  leaf : ∀ j, j < 65 → ∃ u, leafAt P 8 e j = some u ∧ P.underlying u = some (.int (kindSk j))
theorem entry_sks {fuel : Nat} {u e : TypeId} {v : Value} {d : DataW H} {p : List MemPlace} (hu : P.underlying u = some (.slice e)) (he : SkT P e)
    (h : DataW.trod enc P w base (fun _ => true) held fuel u [v] = some (d, p)) : ∃ ss : List Sk, (∀ s ∈ ss, SkOk s) ∧ (ss.length = 0 ∨ ∃ cap, ss.length ≤ cap ∧ cap * P.bytesOf e ∈ d.weights P u) ∧ Seen w v ss.length 65 (.rows 65 ss.length (ss.map skR)) := by
  rcases trod_slice hu (by rw [he.cells]; omega) h with rfl | ⟨a, len, cap, rfl, hlc, hw, hcell⟩
  · refine ⟨[], by simp, .inl rfl, ?_⟩
    obtain ⟨q, hq, _⟩ := view_core (ι := inj0) (w := w) (a := none) (len := 0) (c := 0) (e := 65) (b := .rows 65 0 []) rfl (Nat.le_refl _) (by simp [Blk.Wf]) (by simp [Blk.cells]) (fun u hu => by simp [Blk.cells] at hu) (.inl rfl)
    exact ⟨q, fun ι' n hi => hq ι' n hi fun k f hk => by cases hk⟩
  · let g : Nat → Int := fun i => match w.heap[a.block]? with | some (.cells arr _ _) => numOf arr[a.off + i]? | _ => 0
    have key : ∀ i, i < cap → a.spot = none ∧ ∃ arr el fz, w.heap[a.block]? = some (.cells arr el fz) ∧ a.off + (i + 1) * 65 ≤ arr.size ∧ ∀ j, j < 65 → arr[a.off + (i * 65 + j)]? = some (.int (kindSk j) (g (i * 65 + j))) ∧ rng (kindSk j) (g (i * 65 + j)) := by
      intro i hi
      obtain ⟨h1, arr, el, fz, h2, h3, cs, h4, h5, fuel', d', p', h6⟩ := hcell i hi
      rw [he.cells] at h3 h4 h5
      refine ⟨h1, arr, el, fz, h2, h3, fun j hj => ?_⟩
      obtain ⟨u', hl, hk⟩ := he.leaf j hj
      obtain ⟨x, f2, d2, p2, hx, ht, _⟩ := trod_leaf 8 e j u' fuel' cs d' p' hl h6
      obtain ⟨n, rfl, hr⟩ := trod_int hk ht
      have h7 := h5 j hj
      rw [hx] at h7
      have hg : g (i * 65 + j) = n := by simp only [g, h2, ← h7, numOf]
      rw [hg]
      exact ⟨h7.symm, hr⟩
    have hok : ∀ i, i < cap → SkOk (mkSk g (i * 65)) := by
      intro i hi
      obtain ⟨_, arr, _, _, _, _, hj⟩ := key i hi
      refine ⟨numsAt_len .., numsAt_len .., fun x hx => ?_, ?_, fun x hx => ?_⟩
      · simp only [mkSk, numsAt, List.mem_map, List.mem_range] at hx
        obtain ⟨j, hj1, rfl⟩ := hx
        have := (hj j (by omega)).2
        simpa [kindSk, show j ≠ 32 by omega] using this
      · exact (hj 32 (by omega)).2
      · simp only [mkSk, numsAt, List.mem_map, List.mem_range] at hx
        obtain ⟨j, hj1, rfl⟩ := hx
        have := (hj (33 + j) (by omega)).2
        rw [show i * 65 + 33 + j = i * 65 + (33 + j) by omega]
        simpa [kindSk, show 33 + j ≠ 32 by omega] using this
    let ss := (List.range len).map fun i => mkSk g (i * 65)
    have hsl : ss.length = len := by simp [ss]
    have hss : ∀ s ∈ ss, ∃ i, i < len ∧ s = mkSk g (i * 65) := fun s hs => by
      simp only [ss, List.mem_map, List.mem_range] at hs
      obtain ⟨i, hi, rfl⟩ := hs
      exact ⟨i, hi, rfl⟩
    have hwf : ∀ r ∈ ss.map skR, RowWf 65 r := fun r hr => by
      obtain ⟨s, hs, rfl⟩ := List.mem_map.1 hr
      obtain ⟨i, hi, rfl⟩ := hss s hs
      refine ⟨fun t ht => ?_, by rw [skR_cells]; simp, rfl⟩
      simp only [skR, mkSk, List.mem_cons, List.not_mem_nil, or_false] at ht
      rcases ht with rfl | rfl | rfl
      · exact numsAt_len ..
      · trivial
      · exact numsAt_len ..
    refine ⟨ss, fun s hs => by obtain ⟨i, hi, rfl⟩ := hss s hs; exact hok i (by omega), .inr ⟨cap, by omega, hw⟩, ?_⟩
    obtain ⟨q, hq, _⟩ := view_core (ι := inj0) (w := w) (a := some a) (len := ss.length) (c := cap) (e := 65) (b := .rows 65 ss.length (ss.map skR)) (by rw [hsl]) (by omega) ⟨by simp, hwf⟩ (by
        show ((ss.map skR).flatMap cellsL).length = _
        rw [rows_len fun r hr => (hwf r hr).2.1]
        simp [esz])
      (fun u hu => by
        simp only [Blk.cells, List.mem_flatMap] at hu
        obtain ⟨r, hr, hu⟩ := hu
        obtain ⟨s, hs, rfl⟩ := List.mem_map.1 hr
        obtain ⟨i, hi, rfl⟩ := hss s hs
        rw [skR_cells] at hu
        simp only [List.mem_map] at hu
        obtain ⟨j, _, rfl⟩ := hu
        rfl) (by
        by_cases h0 : cap = 0
        · exact .inl h0
        · right
          obtain ⟨h1, arr, el, fz, h2, h3, _⟩ := key (cap - 1) (by omega)
          refine ⟨a.block, a.off, ?_, arr, el, fz, h2, by simp only [esz]; rw [if_neg (by omega)]; rw [show cap - 1 + 1 = cap by omega] at h3; exact h3, fun q y hq => ?_⟩
          · cases a; simp only at h1; subst h1; rfl
          · obtain ⟨i, j, r, g1, g2, g3, g4⟩ := flat_get (fun r hr => (hwf r hr).2.1) (show ((ss.map skR).flatMap cellsL)[q]? = some y from hq)
            rw [List.getElem?_map] at g1
            cases hsi : ss[i]? with
            | none => rw [hsi] at g1; cases g1
            | some s =>
              rw [hsi] at g1
              simp only [Option.map_some, Option.some.injEq] at g1
              subst g1
              have hil : i < len := by have := (List.getElem?_eq_some_iff.1 hsi).1; omega
              have hs : s = mkSk g (i * 65) := by
                simp only [ss, List.getElem?_map, List.getElem?_range hil, Option.map_some, Option.some.injEq] at hsi
                exact hsi.symm
              subst hs
              rw [skR_cells, List.getElem?_map, List.getElem?_range g2] at g4
              simp only [Option.map_some, Option.some.injEq] at g4
              subst g4
              obtain ⟨_, arr', _, _, h2', _, h4⟩ := key i (by omega)
              rw [h2] at h2'
              cases h2'
              subst g3
              exact ⟨_, (h4 j g2).1, rfl, (h4 j g2).2⟩)
    exact ⟨q, fun ι' n hi => hq ι' n hi fun k f hk => by cases hk⟩
/-! ## Ratchets -/
def kindRat (j : Nat) : IntKind := if j < 160 then .u8 else .u32
def mkRat (g : Nat → Int) : Rat := ⟨numsAt g 0 32, numsAt g 32 32, numsAt g 64 32, numsAt g 96 32, numsAt g 128 32, g 160, g 161, g 162⟩
theorem ratR_cells (g : Nat → Int) (n len : Nat) : cellsL ((mkRat g).segs (.slice n 0 0 len 65 none)) = (List.range 164).map fun j => if j < 163 then .int (kindRat j) (g (0 + j)) else .slice n 0 0 len 65 none := by kernel_rfl
structure RatT (P : Program) (t : TypeId) : Prop where
  agg : ∃ fs, P.underlying t = some (.struct fs)
  cells : P.cellsOf t = 164
  leaf : ∀ j, j < 163 → ∃ u, leafAt P 8 t j = some u ∧ P.underlying u = some (.int (kindRat j))
  sks : ∃ u e, leafAt P 8 t 163 = some u ∧ P.underlying u = some (.slice e) ∧ SkT P e ∧ 0 < P.bytesOf e
theorem numsAt_rng {g : Nat → Int} {k : IntKind} {o n : Nat} (h : ∀ j, j < n → rng k (g (o + j))) : ∀ x ∈ numsAt g o n, rng k x := fun x hx => by
  simp only [numsAt, List.mem_map, List.mem_range] at hx
  obtain ⟨j, hj, rfl⟩ := hx
  exact h j hj
/-- A ratchet that is handed in. -/
theorem entry_rat {r : Reach} {b0 : Nat} {t : TypeId} {v : Value} {d : DataW H} {p : List MemPlace} (ht : RatT P t) (hval : Value.okWide P w r b0 t v) (h : DataW.Trod enc P w base (fun _ => true) held t v d p) :
    ∃ (q : Rat) (ss : List Sk) (x : Value), RatOk q ∧ (∀ s ∈ ss, SkOk s) ∧ (ss.length = 0 ∨ ∃ n, ss.length ≤ n ∧ n ∈ d.weights P t) ∧ Seen w x ss.length 65 (.rows 65 ss.length (ss.map skR)) ∧
      ∀ (ι : Inj) n, VR ι (.slice n 0 0 ss.length 65 none) x → VR ι (.agg (q.segs (.slice n 0 0 ss.length 65 none))) v := by
  obtain ⟨⟨fs, hfs⟩, hcells, hleaf, u, e, hl, hue, hsk, hpos⟩ := ht
  obtain ⟨cs, rfl, hsz⟩ : ∃ cs, v = .agg cs ∧ cs.size = 164 := by
    unfold Value.okWide at hval
    rw [hfs] at hval
    obtain ⟨cs, h1, h2, _⟩ := hval
    exact ⟨cs, h1, by rw [h2, hcells]⟩
  obtain ⟨fuel, hf⟩ := h
  have hcs : (Value.agg cs).cells.toList = cs.toList := rfl
  rw [hcs] at hf
  let g : Nat → Int := fun i => numOf cs.toList[i]?
  have key : ∀ j, j < 163 → cs.toList[j]? = some (.int (kindRat j) (g j)) ∧ rng (kindRat j) (g j) := fun j hj => by
    obtain ⟨u', h1, h2⟩ := hleaf j hj
    obtain ⟨x, f2, d2, p2, hx, h3, _⟩ := trod_leaf 8 t j u' fuel cs.toList d p h1 hf
    obtain ⟨n, rfl, hr⟩ := trod_int h2 h3
    have hg : g j = n := by simp only [g, hx, numOf]
    rw [hg]
    exact ⟨hx, hr⟩
  obtain ⟨x, f2, d2, p2, hx, h3, hw⟩ := trod_leaf 8 t 163 u fuel cs.toList d p hl hf
  obtain ⟨ss, k1, k2, k3⟩ := entry_sks hue hsk h3
  have r8 : ∀ o, o + 32 ≤ 160 → ∀ x ∈ numsAt g o 32, rng .u8 x := fun o ho => numsAt_rng fun j hj => by
    have := (key (o + j) (by omega)).2
    simpa [kindRat, show o + j < 160 by omega] using this
  refine ⟨mkRat g, ss, x, ⟨numsAt_len .., numsAt_len .., numsAt_len .., numsAt_len .., numsAt_len .., r8 0 (by omega), r8 32 (by omega), r8 64 (by omega), r8 96 (by omega), r8 128 (by omega), (key 160 (by omega)).2, (key 161 (by omega)).2, (key 162 (by omega)).2⟩, k1, ?_, k3, fun ι n hn => ?_⟩
  · rcases k2 with k2 | ⟨cap, k2, k4⟩
    · exact .inl k2
    · refine .inr ⟨_, ?_, hw _ k4⟩
      exact Nat.le_trans k2 (Nat.le_mul_of_pos_right _ hpos)
  · refine ⟨cs, rfl, fun s hs => ?_, ?_, fun i y hy => ?_⟩
    · simp only [Rat.segs, mkRat, List.mem_cons, List.not_mem_nil, or_false] at hs
      rcases hs with rfl | rfl | rfl | rfl | rfl | rfl | rfl | rfl | rfl <;> first | exact numsAt_len .. | trivial
    · rw [ratR_cells]; simp [hsz]
    · rw [ratR_cells] at hy
      have hi : i < 164 := by
        have := (List.getElem?_eq_some_iff.1 hy).1
        simpa using this
      rw [List.getElem?_map, List.getElem?_range hi] at hy
      simp only [Option.map_some, Option.some.injEq, Nat.zero_add] at hy
      subst hy
      split
      · rename_i hlt
        exact ⟨_, (key i hlt).1, rfl, (key i hlt).2⟩
      · obtain rfl : i = 163 := by omega
        exact ⟨x, hx, hn⟩
end
end Go.Am
/- A law that was run: its call. -/
namespace Go.Am
open Go.RowKit
theorem law_calls {P : Program} {Γ : Env} (hΓ : EnvOk P Γ) (hm : P.follows .mixedOrders = true) {f : FuncId} {fn : Func} {af : AFn} (hf : P.funcs[f]? = some fn) (hl : lowFn P 16 fn af = true) {args : List AV} {h : Heap} {ι : Inj} {w : World} {vs : Array Value}
    (hk : evFn Γ af args h kV = some (.bool true, ⟨0, []⟩)) (hro : ∀ id c, h.get id = some c → c.ro = true) (R : HRel ι h w) (hn : 16 ≤ h.next) (hfr : Fresh ι h.next) (ha : VRL ι args vs.toList) :
    Calls P f vs w fun e w' => e = .returned (.bool true) ∧ Below w.heap.size w w' := by
  have hF : Factor fun args h κ => evFn Γ af args h κ := Det.factor fun args h => evFn_det hΓ af args h
  have h4 := hF args h kV
  simp only at h4
  rw [h4] at hk
  cases hr : evFn Γ af args h kH with
  | none => rw [hr] at hk; cases hk
  | some q =>
    obtain ⟨v, h'⟩ := q
    rw [hr] at hk
    simp only [Option.bind_some, kV, Option.some.injEq, Prod.mk.injEq, and_true] at hk
    subst hk
    have hc := evFn_sound hΓ hm hf hl hr R hfr hn ha
    have hno : ∀ k, ¬ Own ι h k := by
      rintro k ⟨id, c, p, hg, hr, _⟩
      rw [hro id c hg] at hr
      cases hr
    have he : (callFunc f vs).run P w = .ok (.enter f vs) w := by
      simp only [lowFn, Bool.and_eq_true, beq_iff_eq, bne_iff_ne] at hl
      obtain ⟨⟨⟨hname, hnt⟩, hres⟩, hb⟩ := hl
      split at hb <;> try (cases hb; done)
      rename_i c hbody
      simp [callFunc, hf, hname, hbody]
    rcases hc with ⟨v, w', e, _⟩ | ⟨_, hc⟩
    · rw [he] at e; cases e
    · refine hc.mono fun e w' hx => ?_
      obtain ⟨x, rfl, ι', hv, _, S, _⟩ := hx
      have : x = .bool true := hv
      subst this
      exact ⟨rfl, S.os, S.tape, S.output, S.size, fun k hk => S.frame k hk (hno k)⟩
/-- Blocks of a view or two. -/
theorem HRel.seen2 {w : World} {ι : Inj} {n : Nat} {c0 c1 : Cell} (h0 : c0.id = 0 ∧ c0.ro = true) (h1 : c1.id = 1 ∧ c1.ro = true) (b0 : BlkR ι w 0 c0) (b1 : BlkR ι w 1 c1) (hz : ∀ k, ι.fz k = none) : HRel ι ⟨n, [c0, c1]⟩ w := by
  have get : ∀ id c, (Heap.mk n [c0, c1]).get id = some c → (id = 0 ∧ c = c0) ∨ (id = 1 ∧ c = c1) := by
    intro id c hg
    simp only [Heap.get, findB, h0.1, h1.1] at hg
    split at hg
    · rename_i e; cases hg; exact .inl ⟨e.symm, rfl⟩
    · split at hg
      · rename_i e; cases hg; exact .inr ⟨e.symm, rfl⟩
      · cases hg
  refine ⟨fun id c hg => ?_, fun k f hk => (by rw [hz] at hk; cases hk), fun id1 c1' p1 id2 c2' p2 g1 g2 hne hro => ?_⟩
  · rcases get id c hg with ⟨rfl, rfl⟩ | ⟨rfl, rfl⟩
    · exact b0
    · exact b1
  · rcases get id1 c1' g1 with ⟨rfl, rfl⟩ | ⟨rfl, rfl⟩
    · rw [h0.2] at hro; cases hro
    · rw [h1.2] at hro; cases hro
theorem VRL.two {ι : Inj} {a b : AV} {x y : Value} (h : VR ι a x) (k : VR ι b y) : VRL ι [a, b] [x, y] := by
  refine ⟨rfl, fun i u hu => ?_⟩
  cases i with
  | zero => simp only [List.getElem?_cons_zero, Option.some.injEq] at hu; subst hu; exact ⟨x, rfl, h⟩
  | succ i => cases i with
    | zero => simp only [List.getElem?_cons_succ, List.getElem?_cons_zero, Option.some.injEq] at hu; subst hu; exact ⟨y, rfl, k⟩
    | succ i => simp at hu
/-- Two views, under the names 0 and 1. -/
theorem seen2 {w : World} {v0 v1 : Value} {l0 l1 e0 e1 : Nat} {b0 b1 : Blk} (h0 : Seen w v0 l0 e0 b0) (h1 : Seen w v1 l1 e1 b1) :
    ∃ ι : Inj, HRel ι ⟨16, [⟨0, true, b0⟩, ⟨1, true, b1⟩]⟩ w ∧ Fresh ι 16 ∧ VR ι (.slice 0 0 0 l0 e0 none) v0 ∧ VR ι (.slice 1 0 0 l1 e1 none) v1 := by
  obtain ⟨q0, h0⟩ := h0
  obtain ⟨q1, h1⟩ := h1
  let ι : Inj := ⟨fun i => if i = 0 then some q0 else if i = 1 then some q1 else none, fun _ => none⟩
  obtain ⟨v0', b0'⟩ := h0 ι 0 rfl
  obtain ⟨v1', b1'⟩ := h1 ι 1 rfl
  refine ⟨ι, HRel.seen2 ⟨rfl, rfl⟩ ⟨rfl, rfl⟩ b0' b1' fun _ => rfl, fun id hid => ?_, v0', v1'⟩
  simp only [ι]
  rw [if_neg (by omega), if_neg (by omega)]
end Go.Am
/- octet: Read, Raw, Get64. -/
namespace Go.Am
set_option linter.unusedSimpArgs false
set_option maxRecDepth 100000
def ysOf (xs : List Int) (len : Nat) : List Int := (xs.drop 0).take len
def rdB (bs : List Int) (at' e : Int) : List AV := [.isl .u8 bs, .int .i64 at', .int .i64 e]
theorem read_run1 (nid len : Nat) (xs : List Int) : evFn pOc af_octet_Read [slB 0 len] ⟨16, [roC 0 (.segs [.ints .u8 len xs])]⟩ (kOut none nid) =
    if (ysOf xs len).length ≤ 140737488351232 then some (pt nid, encB nid (some (.segs (rdB (((ysOf xs len).drop 0).take (ysOf xs len).length) 0 0)))) else none := by kernel_rfl
def readO : OrcP := fun nid args h => match args with
  | [s] => withBs h s fun xs => some (pt nid, some (.segs (rdB xs 0 0)))
  | _ => none
theorem read_pure {P : Program} {f : FuncId} (F : Fn P f pOc af_octet_Read) : PureOk P f readO := by
  refine F.lit [.sl (.ints .u8)] none fun nid args hp r ha hr => ?_
  unfold readO at hr
  split at hr <;> try (cases hr; done)
  obtain ⟨xs, hc, hl, hr1⟩ := withBs_eq hr
  cases hr1
  refine ⟨_, _, by simp only [viewArgs, contI_isSl hc, if_true, viewS_ints hc, Option.bind_some, Option.map_some]; rfl, by simp, ?_⟩
  refine (read_run1 ..).trans ?_
  have e : ysOf xs xs.length = xs := take_all xs _ rfl
  rw [e, if_pos hl, take_all xs _ rfl]
def readC : OrcF := fun args h κ => match args with
  | [s] => withBs h s fun xs => κ (pt h.next) (h.new (.segs (rdB xs 0 0)))
  | _ => none
theorem read_full {P : Program} {f : FuncId} (h : PureOk P f readO) : FullOk P f readC := by
  refine pure_full h fun args hp κ => ?_
  unfold readC readO
  split
  · simp only [withBs_map, Option.bind_some, obH]
  · first
    | rfl
    | (rename_i hx
       split
       · exact (hx _ rfl).elim
       · rfl)
/-! ## Raw -/
def Rw0 : Env := envAdd id_octet_spot_take (inl pOc af_octet_spot_take) pOc
def rawE (bs : List Int) (at' : Int) (e : Int) : Option Res := some (.isl .u8 [], ⟨0, [cel 0 (rdB bs at' e)]⟩)
def rawY (bs : List Int) (a n : Int) : List Int := (bs.drop (w63 (a - n)).toNat).take (a.toNat - (w63 (a - n)).toNat)
theorem raw_run1 (bs : List Int) (a n : Int) : evFn Rw0 af_octet_Reader_Raw [pt 0, .int .i64 n] ⟨16, [cel 0 (rdB bs a 0)]⟩ (kObj true []) =
    bif decide (n < 0) then rawE bs a 2 else bif decide (n > w63 ((bs.length : Int) - a)) then rawE bs a 110 else
    if 0 ≤ w63 (a + n) ∧ w63 (a + n) ≤ (bs.length : Int) then if 0 ≤ w63 (w63 (a + n) - n) ∧ w63 (w63 (a + n) - n) ≤ ((w63 (a + n)).toNat : Int) then
      if (rawY bs (w63 (a + n)) n).length ≤ 140737488351232 then some (.isl .u8 (((rawY bs (w63 (a + n)) n).drop 0).take (rawY bs (w63 (a + n)) n).length), ⟨0, [cel 0 (rdB bs (w63 (a + n)) 0)]⟩) else none else none else none := by kernel_rfl
/-- Bytes from a place on. -/
def rawB (bs : List Int) (a n : Nat) : List Int := (bs.drop a).take n
theorem raw_run (bs : List Int) (a n : Nat) (h : a + n ≤ bs.length) (hl : bs.length ≤ 140737488351232) : evFn Rw0 af_octet_Reader_Raw [pt 0, .int .i64 n] ⟨16, [cel 0 (rdB bs a 0)]⟩ (kObj true []) =
    some (.isl .u8 (rawB bs a n), ⟨0, [cel 0 (rdB bs ((a + n : Nat) : Int) 0)]⟩) := by
  refine (raw_run1 ..).trans ?_
  have e1 : w63 ((a : Int) + (n : Int)) = ((a + n : Nat) : Int) := by rw [w63_of (by omega) (by omega)]; omega
  have e2 : w63 (((a + n : Nat) : Int) - (n : Int)) = (a : Int) := by rw [w63_of (by omega) (by omega)]; omega
  have e3 : w63 ((bs.length : Int) - (a : Int)) = (bs.length : Int) - a := w63_of (by omega) (by omega)
  have e4 : rawY bs ((a + n : Nat) : Int) n = rawB bs a n := by
    rw [rawY, e2, Int.toNat_natCast, Int.toNat_natCast, Nat.add_sub_cancel_left]; rfl
  rw [e1, e2, e3, e4, decide_eq_false (by omega), decide_eq_false (by omega), cond_false, cond_false, if_pos ⟨by omega, by omega⟩, if_pos ⟨by omega, by omega⟩, take_all _ _ rfl, if_pos]
  simp only [rawB, List.length_take, List.length_drop]
  omega
def rawP (_ : Nat) (l rest : List AV) (_ : Am.Heap) : Option (AV × List AV) := match l, rest with
  | [.isl .u8 bs, .int .i64 (.ofNat a), .int .i64 0], [.int .i64 (.ofNat n)] => if a + n ≤ bs.length ∧ bs.length ≤ 140737488351232 then some (.isl .u8 (rawB bs a n), rdB bs ((a + n : Nat) : Int) 0) else none
  | _, _ => none
theorem raw_obj {P : Program} {f : FuncId} (F : Fn P f Rw0 af_octet_Reader_Raw) : FullOk P f (objO rawP) := by
  refine F.obj [.plain] true [] fun id l rest hp v l' ha hl hl2 hr => ?_
  unfold rawP at hr
  split at hr <;> try (cases hr; done)
  split at hr <;> try (cases hr; done)
  rename_i h
  cases hr
  exact ⟨rfl, _, _, rfl, by simp, raw_run _ _ _ h.1 h.2⟩
/-- A reader, as a whole. -/
def withRd {β : Type} (h : Am.Heap) (v : AV) (n : Int) (k : Nat → List Int → Nat → Nat → Option β) : Option β := match v with
  | .ptr id 0 0 0 0 => match h.get id with
    | some ⟨_, false, .segs [.isl .u8 bs, .int .i64 (.ofNat a), .int .i64 0]⟩ => match n with
      | .ofNat n => if a + n ≤ bs.length ∧ bs.length ≤ 140737488351232 then k id bs a n else none
      | _ => none
    | _ => none
  | _ => none
def rawC : OrcF := fun args h κ => match args with
  | [v, .int .i64 n] => withRd h v n fun id bs a n => κ (.isl .u8 (rawB bs a n)) (h.set id (.segs (rdB bs ((a + n : Nat) : Int) 0)))
  | _ => none
theorem withRd_eq {β : Type} {h : Am.Heap} {v : AV} {n : Int} {k : Nat → List Int → Nat → Nat → Option β} {x : β} (hk : withRd h v n k = some x) :
    ∃ id ci bs a m, v = pt id ∧ h.get id = some ⟨ci, false, .segs (rdB bs ((a : Nat) : Int) 0)⟩ ∧ n = ((m : Nat) : Int) ∧ a + m ≤ bs.length ∧ bs.length ≤ 140737488351232 ∧ k id bs a m = some x := by
  unfold withRd at hk
  split at hk <;> try (cases hk; done)
  split at hk <;> try (cases hk; done)
  rename_i hg
  split at hk <;> try (cases hk; done)
  split at hk <;> try (cases hk; done)
  rename_i hb
  exact ⟨_, _, _, _, _, rfl, hg, rfl, hb.1, hb.2, hk⟩
theorem withRd_map {β γ : Type} {h : Am.Heap} {v : AV} {n : Int} {k : Nat → List Int → Nat → Nat → Option β} {g : β → Option γ} : (withRd h v n k).bind g = withRd h v n fun id bs a n => (k id bs a n).bind g := by
  unfold withRd
  split
  · split
    · split
      · split <;> rfl
      · rfl
    · rfl
  · rfl
theorem full_le {P : Program} {f : FuncId} {O C : OrcF} (hO : FullOk P f O) (hf : Factor C) (h : ∀ args h r, C args h kH = some r → O args h kH = some r) : FullOk P f C where
  factor := hf
  sound := fun args hp v h' ι w vs hk => hO.sound args hp v h' ι w vs (h args hp _ hk)
theorem raw_full {P : Program} {f : FuncId} (hO : FullOk P f (objO rawP)) : FullOk P f rawC := by
  refine full_le hO (fun args h κ => ?_) fun args h r hk => ?_
  · unfold rawC
    split
    · rw [withRd_map]; rfl
    · rfl
  · unfold rawC at hk
    split at hk <;> try (cases hk; done)
    obtain ⟨id, ci, bs, a, m, rfl, hg, rfl, h1, h2, hk1⟩ := withRd_eq hk
    rw [← hk1]
    unfold objO pt
    simp only [hg]
    show (rawP id (rdB bs a 0) [.int .i64 m] h).bind _ = _
    have : rawP id (rdB bs a 0) [.int .i64 m] h = some (.isl .u8 (rawB bs a m), rdB bs ((a + m : Nat) : Int) 0) := by
      show (if a + m ≤ bs.length ∧ bs.length ≤ 140737488351232 then _ else _) = _
      rw [if_pos ⟨h1, h2⟩]
    rw [this]
    rfl
/-! ## Get64 -/
def g6Top : ACode := af_octet_Get64.code
def g6L : ACode := g6Top.r.r.l.r.b.b
def g6Cn : Option Canon := some ⟨[], [3, 10, 11, 12], [], [0], 16⟩
def afGet64 : AFn := ⟨26, [.t 2], .seq none g6Top.l (.seq none g6Top.r.l (.seq none (.seq none g6Top.r.r.l.l (.block 0 none (.loop 1000 g6Cn g6L))) g6Top.r.r.r))⟩
def g6St (n m : Nat) (xs : List Int) (x i : Int) : St := ⟨mkT 26 [(3, .int .u64 x), (10, slB 0 n), (11, .int .i64 n), (12, .int .i64 i)], ⟨16, [roC 0 (.segs [.ints .u8 m xs])]⟩⟩
def g6K (nid : Nat) : Kont := kBlock 0 none (kSeq G10 none g6Top.r.r.r (kFn [.t 2] (kOut none nid)))
def g6One (x c i : Int) (k : Int → Option Res) : Option Res := if w63 (8 * i) < 0 then none else k (bw .or .u64 x (w64 (w64 c * 2 ^ (min (w63 (8 * i)).toNat 64))))
theorem g6_round (L : St → Option Res) (nid n m : Nat) (xs : List Int) (x i : Int) : ev G10 g6L (g6St n m xs x i) (kLoop g6Cn L (g6K nid)) =
    bif decide (i < n) then ptAt i n xs fun c => g6One x c i fun x' => L (g6St n m xs x' (w63 (i + 1))) else some (.int .u64 x, ⟨0, []⟩) := by kernel_rfl
theorem g6_start (F nid n m : Nat) (xs : List Int) : ev G10 (.seq none g6Top.l (.seq none g6Top.r.l (.seq none (.seq none g6Top.r.r.l.l (.block 0 none (.loop F g6Cn g6L))) g6Top.r.r.r))) ⟨[slB 0 n] ++ List.replicate 25 .undef, ⟨16, [roC 0 (.segs [.ints .u8 m xs])]⟩⟩ (kFn [.t 2] (kOut none nid)) =
    if 0 ≤ (if (8 : Int) < n then 8 else (n : Int)) ∧ (if (8 : Int) < n then 8 else (n : Int)) ≤ n then loopK g6Cn (ev G10 g6L) F (g6St ((if (8 : Int) < n then 8 else (n : Int)).toNat - 0) m xs 0 0) (g6K nid) else none := by kernel_rfl
/-- Bytes, the lowest first, as a number. -/
def getS : List Int → Int → Int → Int
  | [], _, x => x
  | c :: r, i, x => getS r (i + 1) (bw .or .u64 x (w64 (w64 c * 2 ^ (min (8 * i).toNat 64))))
theorem g6_loop (nid m : Nat) (xs : List Int) (n : Nat) (hn : n ≤ 8) : ∀ (r pre : List Int) (x : Int) (F : Nat), xs.take n = pre ++ r → (xs.take n).length = n → r.length < F →
    loopK g6Cn (ev G10 g6L) F (g6St n m xs x (pre.length : Int)) (g6K nid) = some (.int .u64 (getS r pre.length x), ⟨0, []⟩)
  | [], pre, x, F + 1, he, hl, _ => by
    refine (g6_round _ nid n m _ _ _).trans ?_
    have : n = pre.length := by rw [← hl, he]; simp
    rw [decide_eq_false (by omega), cond_false]
    rfl
  | c :: r, pre, x, F + 1, he, hl, hF => by
    have hlen : n = pre.length + r.length + 1 := by rw [← hl, he]; simp; omega
    have hs : xs[pre.length]? = some c := by
      have : (xs.take n)[pre.length]? = some c := by rw [he]; simp
      rw [List.getElem?_take] at this
      split at this
      · exact this
      · cases this
    refine (g6_round _ nid n m _ _ _).trans ?_
    rw [decide_eq_true (by omega), cond_true, ptAt_eq pre.length (by omega) hs]
    have e8 : w63 (8 * (pre.length : Int)) = 8 * (pre.length : Int) := w63_of (by omega) (by omega)
    rw [g6One, e8, if_neg (by omega)]
    have ih := g6_loop nid m xs n hn r (pre ++ [c]) (bw .or .u64 x (w64 (w64 c * 2 ^ (min (8 * (pre.length : Int)).toNat 64)))) F (by rw [he]; simp) hl (by simp at hF; omega)
    rw [w63_of (by omega) (by omega)]
    have e : (((pre ++ [c]).length : Nat) : Int) = (pre.length : Int) + 1 := by simp
    rw [e] at ih
    rw [ih]
    rfl
  | _ :: _, _, _, 0, _, _, h => by omega
theorem g6_run (nid m : Nat) (xs : List Int) : evFn G10 afGet64 [slB 0 xs.length] ⟨16, [roC 0 (.segs [.ints .u8 m xs])]⟩ (kOut none nid) = some (.int .u64 (getS (xs.take 8) 0 0), ⟨0, []⟩) := by
  refine (evFn_eq ..).trans ?_
  refine (g6_start 1000 nid xs.length m xs).trans ?_
  by_cases h : (8 : Int) < (xs.length : Int)
  · simp only [if_pos h]
    rw [if_pos ⟨by omega, by omega⟩]
    exact g6_loop nid m xs 8 (by omega) (xs.take 8) [] 0 1000 rfl (by simp; omega) (by simp; omega)
  · simp only [if_neg h]
    rw [if_pos ⟨by omega, by omega⟩]
    have e : ((xs.length : Int).toNat - 0) = xs.length := by omega
    have e2 : xs.take 8 = xs.take xs.length := by rw [List.take_length, List.take_of_length_le (by omega)]
    rw [e, e2]
    exact g6_loop nid m xs xs.length (by omega) (xs.take xs.length) [] 0 1000 rfl (by simp) (by simp; omega)
def get64O : OrcP := fun _ args h => match args with
  | [s] => withBs h s fun xs => some (.int .u64 (getS (xs.take 8) 0 0), none)
  | _ => none
theorem get64_pure {P : Program} {f : FuncId} (F : Fn P f G10 afGet64) : PureOk P f get64O := by
  refine F.lit [.sl (.ints .u8)] none fun nid args hp r ha hr => ?_
  unfold get64O at hr
  split at hr <;> try (cases hr; done)
  obtain ⟨xs, hc, hl, hr1⟩ := withBs_eq hr
  cases hr1
  refine ⟨_, _, by simp only [viewArgs, contI_isSl hc, if_true, viewS_ints hc, Option.bind_some, Option.map_some]; rfl, by simp, ?_⟩
  exact g6_run nid _ xs
def get64C : OrcF := fun args h κ => match args with
  | [s] => withBs h s fun xs => κ (.int .u64 (getS (xs.take 8) 0 0)) h
  | _ => none
theorem get64_full {P : Program} {f : FuncId} (h : PureOk P f get64O) : FullOk P f get64C := by
  refine pure_full h fun args hp κ => ?_
  unfold get64C get64O
  split
  · simp only [withBs_map, Option.bind_some, obH]
  · first
    | rfl
    | (rename_i hx
       split
       · exact (hx _ rfl).elim
       · rfl)
end Go.Am
/- octet: Key, U32 of a reader. -/
namespace Go.Am
set_option linter.unusedSimpArgs false
set_option maxRecDepth 100000
def Ke0 : Env := envAdd (id_octet_Reader_Raw + 1000000) (.pure noneO) (envAdd id_octet_Reader_Raw (.full rawC) G10)
def spl32 (ys : List Int) : List Int := splice (List.replicate 32 0) 0 (ys.take (min ys.length 32))
theorem key_run1 (bs : List Int) (a : Nat) : evFn Ke0 af_octet_Reader_Key [pt 0] ⟨16, [cel 0 (rdB bs (.ofNat a) 0)]⟩ (kObj true []) =
    if a + 32 ≤ bs.length ∧ bs.length ≤ 140737488351232 then some (.agg [.ints .u8 32 (spl32 (rawB bs a 32))], ⟨0, [cel 0 (rdB bs ((a + 32 : Nat) : Int) 0)]⟩) else none := by kernel_rfl
theorem rawB_len {bs : List Int} {a n : Nat} (h : a + n ≤ bs.length) : (rawB bs a n).length = n := by simp only [rawB, List.length_take, List.length_drop]; omega
theorem spl32_eq {ys : List Int} (h : ys.length = 32) : spl32 ys = ys := by
  rw [spl32, h, List.take_of_length_le (by simp [h]), splice]
  simp [h]
def keyRP (_ : Nat) (l rest : List AV) (_ : Am.Heap) : Option (AV × List AV) := match l, rest with
  | [.isl .u8 bs, .int .i64 (.ofNat a), .int .i64 0], [] => if a + 32 ≤ bs.length ∧ bs.length ≤ 140737488351232 then some (.agg [.ints .u8 32 (rawB bs a 32)], rdB bs ((a + 32 : Nat) : Int) 0) else none
  | _, _ => none
theorem key_obj {P : Program} {f : FuncId} (F : Fn P f Ke0 af_octet_Reader_Key) : FullOk P f (objO keyRP) := by
  refine F.obj [] true [] fun id l rest hp v l' ha hl hl2 hr => ?_
  unfold keyRP at hr
  split at hr <;> try (cases hr; done)
  split at hr <;> try (cases hr; done)
  rename_i h
  cases hr
  refine ⟨rfl, _, _, rfl, by simp, ?_⟩
  refine (key_run1 ..).trans ?_
  rw [if_pos h, spl32_eq (rawB_len h.1)]
  rfl
def keyRC : OrcF := fun args h κ => match args with
  | [v] => withRd h v 32 fun id bs a n => κ (.agg [.ints .u8 32 (rawB bs a n)]) (h.set id (.segs (rdB bs ((a + n : Nat) : Int) 0)))
  | _ => none
theorem keyR_full {P : Program} {f : FuncId} (hO : FullOk P f (objO keyRP)) : FullOk P f keyRC := by
  refine full_le hO (fun args h κ => ?_) fun args h r hk => ?_
  · unfold keyRC
    split
    · rw [withRd_map]; rfl
    · rfl
  · unfold keyRC at hk
    split at hk <;> try (cases hk; done)
    obtain ⟨id, ci, bs, a, m, rfl, hg, hm, h1, h2, hk1⟩ := withRd_eq hk
    obtain rfl : m = 32 := by omega
    rw [← hk1]
    unfold objO pt
    simp only [hg]
    show (keyRP id (rdB bs a 0) [] h).bind _ = _
    have : keyRP id (rdB bs a 0) [] h = some (.agg [.ints .u8 32 (rawB bs a 32)], rdB bs ((a + 32 : Nat) : Int) 0) := by
      show (if a + 32 ≤ bs.length ∧ bs.length ≤ 140737488351232 then _ else _) = _
      rw [if_pos ⟨h1, h2⟩]
    rw [this]
    rfl
/-! ## U32 -/
def Ue0 : Env := envAdd id_octet_Get64 (.full get64C) Ke0
def u32B (ys : List Int) : Int := w32 (getS (ys.take 8) 0 0)
theorem u32_run1 (bs : List Int) (a : Nat) : evFn Ue0 af_octet_Reader_U32 [pt 0] ⟨16, [cel 0 (rdB bs (.ofNat a) 0)]⟩ (kObj true []) =
    if a + 4 ≤ bs.length ∧ bs.length ≤ 140737488351232 then if (rawB bs a 4).length ≤ 140737488351232 then some (.int .u32 (u32B (rawB bs a 4)), ⟨0, [cel 0 (rdB bs ((a + 4 : Nat) : Int) 0)]⟩) else none else none := by kernel_rfl
def u32RP (_ : Nat) (l rest : List AV) (_ : Am.Heap) : Option (AV × List AV) := match l, rest with
  | [.isl .u8 bs, .int .i64 (.ofNat a), .int .i64 0], [] => if a + 4 ≤ bs.length ∧ bs.length ≤ 140737488351232 then some (.int .u32 (u32B (rawB bs a 4)), rdB bs ((a + 4 : Nat) : Int) 0) else none
  | _, _ => none
theorem u32_obj {P : Program} {f : FuncId} (F : Fn P f Ue0 af_octet_Reader_U32) : FullOk P f (objO u32RP) := by
  refine F.obj [] true [] fun id l rest hp v l' ha hl hl2 hr => ?_
  unfold u32RP at hr
  split at hr <;> try (cases hr; done)
  split at hr <;> try (cases hr; done)
  rename_i h
  cases hr
  refine ⟨rfl, _, _, rfl, by simp, ?_⟩
  refine (u32_run1 ..).trans ?_
  rw [if_pos h, if_pos (by rw [rawB_len h.1]; omega)]
  rfl
def u32RC : OrcF := fun args h κ => match args with
  | [v] => withRd h v 4 fun id bs a n => κ (.int .u32 (u32B (rawB bs a n))) (h.set id (.segs (rdB bs ((a + n : Nat) : Int) 0)))
  | _ => none
theorem u32R_full {P : Program} {f : FuncId} (hO : FullOk P f (objO u32RP)) : FullOk P f u32RC := by
  refine full_le hO (fun args h κ => ?_) fun args h r hk => ?_
  · unfold u32RC
    split
    · rw [withRd_map]; rfl
    · rfl
  · unfold u32RC at hk
    split at hk <;> try (cases hk; done)
    obtain ⟨id, ci, bs, a, m, rfl, hg, hm, h1, h2, hk1⟩ := withRd_eq hk
    obtain rfl : m = 4 := by omega
    rw [← hk1]
    unfold objO pt
    simp only [hg]
    show (u32RP id (rdB bs a 0) [] h).bind _ = _
    have : u32RP id (rdB bs a 0) [] h = some (.int .u32 (u32B (rawB bs a 4)), rdB bs ((a + 4 : Nat) : Int) 0) := by
      show (if a + 4 ≤ bs.length ∧ bs.length ≤ 140737488351232 then _ else _) = _
      rw [if_pos ⟨h1, h2⟩]
    rw [this]
    rfl
/-! ## Get: the rounds -/
def gtTop : ACode := af_ratchet_Get.code
def gtS : ACode := gtTop.r.r.r.r.r.l
def gtL : ACode := gtS.r.b.b
def gtEnd : ACode := gtTop.r.r.r.r.r.r
def Gt0 : Env := envAdd id_octet_Read (.full readC) (envAdd id_octet_Reader_Key (.full keyRC) (envAdd id_octet_Reader_U32 (.full u32RC) (envAdd id_octet_Reader_Raw (.full rawC) (envAdd id_ratchet_Check (.full checkC) G10))))
end Go.Am
/- ratchet: Get. -/
namespace Go.Am
set_option linter.unusedSimpArgs false
set_option maxRecDepth 100000
def gtCn : Option Canon := some ⟨[], [2, 4, 5, 6, 37], [(5, 164, .rows 65)], [16], 0⟩
def afGet : AFn := ⟨70, [.cell 2 true 164, .t 3], .seq none gtTop.l (.seq none gtTop.r.l (.seq none gtTop.r.r.l (.seq none gtTop.r.r.r.l (.seq none gtTop.r.r.r.r.l (.seq none (.seq none gtS.l (.block 0 none (.loop 1000 gtCn gtL))) gtEnd)))))⟩
def z32 : List Int := List.replicate 32 0
def zeroRat : Rat := ⟨z32, z32, z32, z32, z32, 0, 0, 0⟩
def errR (e : Int) : Option Res := some (.tuple [.agg (zeroRat.segs .nils), .int .i64 e], ⟨0, []⟩)
def gtSt (r : Rat) (n : Int) (len : Nat) (xs bs : List Int) (a k : Nat) (ys : List (List AV)) (i : Int) : St :=
  ⟨mkT 70 [(2, pt 16), (4, pt 17), (5, pt 18), (6, .int .i64 n), (37, .int .i64 i)],
   ⟨20, [roC 0 (.segs [.ints .u8 len xs]), cel 16 (zeroRat.segs .nils), cel 17 (rdB bs (.ofNat a) 0), cel 18 (r.segs (.slice 19 0 0 k 65 none)), ⟨19, false, .rows 65 k ys⟩]⟩⟩
def gd (a n : Nat) (bs : List Int) (x : Option Res) : Option Res := if a + n ≤ bs.length ∧ bs.length ≤ 140737488351232 then x else none
def rowB (bs : List Int) (a : Nat) : Sk := ⟨rawB bs a 32, u32B (rawB bs (a + 32) 4), rawB bs (a + 32 + 4) 32⟩
theorem gt_round (L : St → Option Res) (nid : Nat) (r : Rat) (n : Int) (len : Nat) (xs bs : List Int) (a k : Nat) (ys : List (List AV)) (i : Int) :
    ev Gt0 gtL (gtSt r n len xs bs a k ys i) (kLoop gtCn L (kBlock 0 none (kSeq Gt0 none gtEnd (kFn [.cell 2 true 164, .t 3] (kOut none nid))))) =
    bif decide (i < 8) then gd a 32 bs (gd (a + 32) 4 bs (gd (a + 32 + 4) 32 bs (bif decide (i < n) then
        (if (k + 1) * 68 ≤ 2 ^ 47 then L (gtSt r n len xs bs (a + 32 + 4 + 32) (k + 1) ((ys.drop 0).take k ++ [skR (rowB bs a)]) (w63 (i + 1))) else none)
      else bif !(skEq (rowB bs a) zeroSk) then errR 270 else L (gtSt r n len xs bs (a + 32 + 4 + 32) k ys (w63 (i + 1))))))
    else bif decide (n > 8) then errR 270 else (skAll ((ys.drop 0).take k)).bind fun ss => if ss.length ≤ 1152921504606846976 then
      bif checkI r ss != 0 then errR 270 else some (.tuple [.agg (r.segs (.islR 65 ((ys.drop 0).take k))), .int .i64 0], ⟨0, []⟩) else none := by kernel_rfl
def gtK (nid : Nat) : Kont := kBlock 0 none (kSeq Gt0 none gtEnd (kFn [.cell 2 true 164, .t 3] (kOut none nid)))
def gtRat (bs : List Int) (a : Nat) : Rat := ⟨rawB bs a 32, rawB bs (a + 32) 32, rawB bs (a + 32 + 32) 32, rawB bs (a + 32 + 32 + 32) 32, rawB bs (a + 32 + 32 + 32 + 32) 32, u32B (rawB bs (a + 32 + 32 + 32 + 32 + 32) 4), u32B (rawB bs (a + 32 + 32 + 32 + 32 + 32 + 4) 4), u32B (rawB bs (a + 32 + 32 + 32 + 32 + 32 + 4 + 4) 4)⟩
def gtHead (bs : List Int) (x : Option Res) : Option Res :=
  gd 0 32 bs (gd (0 + 32) 32 bs (gd (0 + 32 + 32) 32 bs (gd (0 + 32 + 32 + 32) 32 bs (gd (0 + 32 + 32 + 32 + 32) 32 bs (gd (0 + 32 + 32 + 32 + 32 + 32) 4 bs (gd (0 + 32 + 32 + 32 + 32 + 32 + 4) 4 bs (gd (0 + 32 + 32 + 32 + 32 + 32 + 4 + 4) 4 bs (gd (0 + 32 + 32 + 32 + 32 + 32 + 4 + 4 + 4) 1 bs x))))))))
theorem gt_start (F nid len : Nat) (xs : List Int) :
    ev Gt0 (.seq none gtTop.l (.seq none gtTop.r.l (.seq none gtTop.r.r.l (.seq none gtTop.r.r.r.l (.seq none gtTop.r.r.r.r.l (.seq none (.seq none gtS.l (.block 0 none (.loop F gtCn gtL))) gtEnd))))))
      ⟨[slB 0 len] ++ List.replicate 69 .undef, ⟨16, [roC 0 (.segs [.ints .u8 len xs])]⟩⟩ (kFn [.cell 2 true 164, .t 3] (kOut none nid)) =
    bif (len : Int) != 717 then errR 240 else if (ysOf xs len).length ≤ 140737488351232 then
      gtHead (ysOf xs len) (ptAt 0 (rawB (ysOf xs len) (0 + 32 + 32 + 32 + 32 + 32 + 4 + 4 + 4) 1).length (rawB (ysOf xs len) (0 + 32 + 32 + 32 + 32 + 32 + 4 + 4 + 4) 1) fun x =>
        loopK gtCn (ev Gt0 gtL) F (gtSt (gtRat (ysOf xs len) 0) (w63 x) len xs (ysOf xs len) (0 + 32 + 32 + 32 + 32 + 32 + 4 + 4 + 4 + 1) 0 [] 0) (gtK nid))
    else none := by kernel_rfl
def gtFrom (bs : List Int) (n : Int) : Nat → Nat → List Sk → Option (List Sk)
  | 0, _, ss => some ss
  | j + 1, i, ss => bif decide ((i : Int) < n) then gtFrom bs n j (i + 1) (ss ++ [rowB bs (173 + 68 * i)]) else bif !(skEq (rowB bs (173 + 68 * i)) zeroSk) then none else gtFrom bs n j (i + 1) ss
def okR (r : Rat) (ss : List Sk) : Option Res := some (.tuple [.agg (r.segs (.islR 65 (ss.map skR))), .int .i64 0], ⟨0, []⟩)
def gtFin (r : Rat) (n : Int) : Option (List Sk) → Option Res
  | none => errR 270
  | some ss => bif decide (n > 8) then errR 270 else bif checkI r ss != 0 then errR 270 else okR r ss
theorem gd_eq {a n : Nat} {bs : List Int} (h : a + n ≤ bs.length) (hl : bs.length ≤ 140737488351232) (x : Option Res) : gd a n bs x = x := by rw [gd, if_pos ⟨h, hl⟩]
theorem gt_loop (nid : Nat) (r : Rat) (n : Int) (len : Nat) (xs bs : List Int) (hb : bs.length = 717) : ∀ (j i : Nat) (ss : List Sk) (F : Nat), i + j = 8 → ss.length ≤ i → j < F →
    loopK gtCn (ev Gt0 gtL) F (gtSt r n len xs bs (173 + 68 * i) ss.length (ss.map skR) (i : Int)) (gtK nid) = gtFin r n (gtFrom bs n j i ss)
  | 0, i, ss, F + 1, hi, hs, _ => by
    refine (gt_round _ nid r n len xs bs _ _ _ _).trans ?_
    have e1 : ((ss.map skR).drop 0).take ss.length = ss.map skR := by rw [List.drop_zero, List.take_of_length_le (by simp)]
    rw [decide_eq_false (by omega), cond_false, e1, skAll_rows, Option.bind_some, if_pos (by omega)]
    rfl
  | j + 1, i, ss, F + 1, hi, hs, hF => by
    refine (gt_round _ nid r n len xs bs _ _ _ _).trans ?_
    rw [decide_eq_true (by omega), cond_true, gd_eq (by omega) (by omega), gd_eq (by omega) (by omega), gd_eq (by omega) (by omega)]
    have e1 : ((ss.map skR).drop 0).take ss.length = ss.map skR := by rw [List.drop_zero, List.take_of_length_le (by simp)]
    have e2 : w63 ((i : Int) + 1) = ((i + 1 : Nat) : Int) := wS i (by omega)
    have e3 : 173 + 68 * i + 32 + 4 + 32 = 173 + 68 * (i + 1) := by omega
    rw [e1, e2, e3]
    simp only [gtFrom]
    cases hd : decide ((i : Int) < n)
    · simp only [cond_false]
      cases hz : !(skEq (rowB bs (173 + 68 * i)) zeroSk)
      · simp only [cond_false]
        exact gt_loop nid r n len xs bs hb j (i + 1) ss F (by omega) (by omega) (by omega)
      · rfl
    · simp only [cond_true]
      rw [if_pos (by omega)]
      have ih := gt_loop nid r n len xs bs hb j (i + 1) (ss ++ [rowB bs (173 + 68 * i)]) F (by omega) (by simp; omega) (by omega)
      simp only [List.map_append, List.map_cons, List.map_nil, List.length_append, List.length_cons, List.length_nil, Nat.zero_add] at ih
      exact ih
  | _, _, _, 0, _, _, h => by omega
/-- The number of keys that bytes tell of. -/
def gtNum (bs : List Int) : Int := bs.getD 172 0
def getR (xs : List Int) : Option Res := bif (xs.length : Int) != 717 then errR 240 else gtFin (gtRat xs 0) (gtNum xs) (gtFrom xs (gtNum xs) 8 0 [])
theorem gt_run (nid : Nat) (xs : List Int) (hr : ∀ x ∈ xs, rng .u8 x) : evFn Gt0 afGet [slB 0 xs.length] ⟨16, [roC 0 (.segs [.ints .u8 xs.length xs])]⟩ (kOut none nid) = getR xs := by
  refine (evFn_eq ..).trans ?_
  refine (gt_start 1000 nid _ xs).trans ?_
  unfold getR
  have e : ysOf xs xs.length = xs := take_all xs _ rfl
  rw [e]
  by_cases h : xs.length = 717
  · rw [show ((xs.length : Int) != 717) = false by simp; omega, cond_false, cond_false, if_pos (by omega)]
    have hx : (rawB xs 172 1)[0]? = some (gtNum xs) := by
      simp only [rawB, List.getElem?_take, List.getElem?_drop, gtNum, List.getD_eq_getElem?_getD]
      have : 172 < xs.length := by omega
      simp [this]
    have hn : rng .u8 (gtNum xs) := by
      have : 172 < xs.length := by omega
      rw [gtNum, List.getD_eq_getElem?_getD, List.getElem?_eq_getElem this]
      exact hr _ (List.getElem_mem this)
    obtain ⟨n, hn1, hn2⟩ := rng8 hn
    simp only [gtHead]
    repeat rw [gd_eq (by omega) (by omega)]
    rw [show (0 : Int) = ((0 : Nat) : Int) from rfl, ptAt_eq 0 (by rw [rawB_len (by omega)]; decide) hx, w63_of (by omega) (by omega)]
    exact gt_loop nid (gtRat xs 0) (gtNum xs) xs.length xs xs h 8 0 [] 1000 (by omega) (by simp) (by omega)
  · rw [show ((xs.length : Int) != 717) = true by simp; omega, cond_true, cond_true]
end Go.Am
