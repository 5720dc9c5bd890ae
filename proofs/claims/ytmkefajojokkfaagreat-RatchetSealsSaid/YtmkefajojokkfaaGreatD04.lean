/- RatchetSeals: part 5 of 50 of its proof. -/
import Derived.Test.YtmkefajojokkfaaGreatD03
import Derived.Laws.RangeString
set_option linter.unusedVariables false
set_option linter.unusedSimpArgs false
namespace Go.Am
set_option linter.unusedSimpArgs false
def sameSegs (z : List AV) (zv : Value) : Bool :=
  match zv with
  | .agg cs => z.all segWfB && sameCells (cellsL z) cs.toList
  | v => match z with | [a] => sameSc a v && oneCell a | _ => false
theorem sameSegs_sound {z : List AV} {zv : Value} (h : sameSegs z zv = true) (ι : Inj) : SegsWf z ∧ CR ι (cellsL z) zv.cells.toList := by
  unfold sameSegs at h
  split at h
  · simp only [Bool.and_eq_true, List.all_eq_true] at h
    exact ⟨fun s hs => segWfB_sound (h.1 s hs), sameCells_sound h.2 ι⟩
  · split at h
    · rename_i a
      simp only [Bool.and_eq_true] at h
      refine ⟨fun s hs => by simp at hs; subst hs; exact oneCell_wf h.2, ?_⟩
      have : cellsL [a] = [a] := by simp [cellsL, oneCell_C h.2]
      rw [this]
      exact (sameSc_sound h.1 ι).CR
    · cases h
def repV (vs : List Value) : Nat → List Value
  | 0 => []
  | n + 1 => vs ++ repV vs n
def lowR (P : Program) (o : Oper) (ao : AOp) : Bool :=
  match o.op, ao with
  | .alloc t, .alloc z => (match (P.info? t).bind (·.zero) with | some v => sameSegs z v | none => false)
  | .box _ x, .box y => lowOpd x y
  | .slice t x lo hi mx, .slArr n e x' lo' hi' mx' => (match P.underlying t with | some (.array m el) => m == n && szOf P el == some (esz e) | _ => false) && lowOpd x x' && lowOpt lo lo' && lowOpt hi hi' && lowOpt mx mx'
  | .buildSlice t n parts, .bslice z m e parts' => n == m && decide (n * esz e ≤ 2 ^ 24) && (match P.underlying t with
      | some (.slice el) => szOf P el == some (esz e) && (match (P.info? el).bind (·.zero) with | some v => v.cells.size == esz e && z.all segWfB && sameCells (cellsL z) (repV v.cells.toList n) | none => false)
      | _ => false) && lowParts P (fun i => some (i * esz e, esz e)) parts.toList parts'
  | .load t x, .load agg n y => isAggB P t == some agg && (!agg || szOf P t == some n) && lowOpd x y
  | .makeSlice t l c, .mksliceI k bytes l' c' => lowOpd l l' && lowOpd c c' && (match P.underlying t with
      | some (.slice el) => szOf P el == some 1 && (P.info? el).map (·.bytes) == some bytes && decide (0 < bytes) && (match (P.info? el).bind (·.zero) with | some v => sameSc (.int k 0) v | none => false)
      | _ => false)
  | .makeSlice t l c, .mksliceR e bytes z l' c' => lowOpd l l' && lowOpd c c' && (match P.underlying t with
      | some (.slice el) => szOf P el == some e && (P.info? el).map (·.bytes) == some bytes && decide (0 < bytes) && (match (P.info? el).bind (·.zero) with | some v => v.cells.size == e && sameSegs z v && noIds z | none => false)
      | _ => false)
  | .convert s d x, .b2s y => lowOpd x y && (P.underlying d matches some .string) && (match P.underlying s with | some (.slice e) => uInt P e .u8 | _ => false)
  | .range t x, .rangeS y => lowOpd x y && (P.underlying t matches some .string)
  | .convert s d x, .s2b y => lowOpd x y && (P.underlying s matches some .string) && (match P.underlying d with | some (.slice e) => uInt P e .u8 | _ => false)
  | _, _ => false
structure NewB (ι : Inj) (w w' : World) (nid : Nat) (b : Blk) (v : AV) (x : Value) : Prop where
  os : w'.os = w.os
  tape : w'.tape = w.tape
  output : w'.output = w.output
  made : ∃ (arr : Array Value) (el : TypeId) (fz : Nat × Nat), w'.heap = w.heap.push (.cells arr el fz) ∧ b.Wf ∧ b.cells.length ≤ arr.size ∧ (arr.size = 0 → b.cells.length = 0) ∧
    (∀ (i : Nat) v, b.cells[i]? = some v → ∃ x, arr[i]? = some x ∧ SR ι v x) ∧ (∀ o, o < arr.size → ¬ (fz.1 ≤ o ∧ o < fz.2)) ∧ VR (ι.upd nid ⟨w.heap.size, 0, b.cells.length, arr.size⟩) v x
def REff (ι : Inj) (w w' : World) (nid : Nat) (v : AV) (ob : Option Blk) (x : Value) : Prop :=
  match ob with
  | none => w'.heap = w.heap ∧ w'.os = w.os ∧ w'.tape = w.tape ∧ w'.output = w.output ∧ VR ι v x
  | some b => NewB ι w w' nid b v x ∨ ∃ s, b = .iter s 0 ∧ v = .ptr nid 0 0 0 0 ∧ x = .pointer (some ⟨w.heap.size, 0, none⟩) ∧ w' = w.iter s 0
theorem NewB.alloc {ι : Inj} {w : World} {nid : Nat} {b : Blk} {el : TypeId} {arr : Array Value} (wf : b.Wf) (hc : CR ι b.cells arr.toList) : NewB ι w (w.alloc (.cells arr el)) nid b (.ptr nid 0 0 0 0) (.pointer (some ⟨w.heap.size, 0, none⟩)) where
  os := rfl
  tape := rfl
  output := rfl
  made := by
    have hl : b.cells.length = arr.size := by simpa using hc.1
    refine ⟨arr, el, (0,0), rfl, wf, by omega, by omega, fun i v hi => ?_, fun o _ => by simp, ⟨_, Inj.upd_same _ _ _, rfl⟩⟩
    obtain ⟨x, hx, hs⟩ := hc.2 i v hi
    exact ⟨x, by simpa using hx, hs⟩
theorem NewB.slice {ι : Inj} {w w' : World} {nid n e c : Nat} {cap : Option Nat} {b : Blk} {el : TypeId} {fz : Nat × Nat} {arr : Array Value} (os : w'.os = w.os) (tape : w'.tape = w.tape) (output : w'.output = w.output)
    (hh : w'.heap = w.heap.push (.cells arr el fz)) (wf : b.Wf) (hlen : n * esz e ≤ b.cells.length) (hle : b.cells.length ≤ arr.size) (hz : arr.size = 0 → b.cells.length = 0) (hc : ∀ (i : Nat) v, b.cells[i]? = some v → ∃ x, arr[i]? = some x ∧ SR ι v x)
    (hfz : ∀ o, o < arr.size → ¬ (fz.1 ≤ o ∧ o < fz.2)) (hn : n ≤ c) (hcap : ∀ m, cap = some m → c = m ∧ m * esz e ≤ b.cells.length) (hca : c * esz e ≤ arr.size) :
    NewB ι w w' nid b (.slice nid 0 0 n e cap) (.slice (some ⟨w.heap.size, 0, none⟩) n c) where
  os := os
  tape := tape
  output := output
  made := ⟨arr, el, fz, hh, wf, hle, hz, hc, hfz, _, _, _, Inj.upd_same _ _ _, rfl, ⟨hn, .inr (by simp), fun m hm => by have := hcap m hm; simpa using this, by simpa using hlen, .inr (by simpa using hca)⟩⟩
section
variable {β : Type} {P : Program} {ι : Inj} {t : List AV} {ρ : Operand → Value}
theorem exec_v' {o : Oper} {s : Sem Value} {x : Value} {w w' : World} (e : execOp ρ o = (do pure (.value (← s)))) (h : s.run P w = .ok x w') : (execOp ρ o).run P w = .ok (.value x) w' := by
  rw [e]; simp [h]
theorem repV_len (vs : List Value) : ∀ n, (repV vs n).length = n * vs.length
  | 0 => by simp [repV]
  | n + 1 => by simp [repV, repV_len vs n, Nat.add_mul]; omega
theorem repV_get (vs : List Value) : ∀ n i, i < n * vs.length → (repV vs n)[i]? = vs[i % vs.length]?
  | 0, i, h => by simp at h
  | n + 1, i, h => by
    by_cases hi : i < vs.length
    · rw [repV, List.getElem?_append_left hi, Nat.mod_eq_of_lt hi]
    · have h' : i - vs.length < n * vs.length := by rw [Nat.add_mul] at h; omega
      rw [repV, List.getElem?_append_right (by omega), repV_get vs n _ h', ← Nat.mod_eq_sub_mod (by omega)]
theorem madeCells_repV (z : Array Value) (n : Nat) : ((Array.range (n * z.size)).map (z[· % z.size]!)).toList = repV z.toList n := by
  apply List.ext_getElem?
  intro i
  by_cases hi : i < n * z.size
  · rw [repV_get _ _ _ (by simpa using hi)]
    have hz : 0 < z.size := by
      rcases Nat.eq_zero_or_pos z.size with h | h
      · rw [h] at hi; simp at hi
      · exact h
    have hm : i % z.size < z.size := Nat.mod_lt _ hz
    simp [hi, hm, getElem!_pos z (i % z.size) hm]
  · rw [List.getElem?_eq_none (by simp; omega), List.getElem?_eq_none (by rw [repV_len]; simp; omega)]
theorem strOf_fold : ∀ (xs : List Int) (r : ByteArray), xs.foldl (fun r n => r.push (UInt8.ofNat n.toNat)) r = ⟨r.data ++ (xs.map fun n => UInt8.ofNat n.toNat).toArray⟩
  | [], r => by simp
  | x :: xs, r => by
    rw [List.foldl_cons, strOf_fold xs]
    simp [ByteArray.push]
theorem CR_append {a b : List AV} {xs ys : List Value} (h : CR ι a xs) (k : CR ι b ys) : CR ι (a ++ b) (xs ++ ys) := by
  refine ⟨by rw [List.length_append, List.length_append, h.1, k.1], fun i v hi => ?_⟩
  by_cases hl : i < a.length
  · rw [List.getElem?_append_left hl] at hi
    obtain ⟨x, hx, hs⟩ := h.2 i v hi
    exact ⟨x, by rw [List.getElem?_append_left (by rw [← h.1]; exact hl)]; exact hx, hs⟩
  · rw [List.getElem?_append_right (by omega)] at hi
    obtain ⟨x, hx, hs⟩ := k.2 _ v hi
    exact ⟨x, by rw [List.getElem?_append_right (by rw [← h.1]; omega), ← h.1]; exact hx, hs⟩
theorem CR_nil : CR ι [] [] := ⟨rfl, fun i v h => by simp at h⟩
theorem CR_rep {z : List AV} {vs : List Value} (h : CR ι (cellsL z) vs) : ∀ n, CR ι ((List.replicate n z).flatMap cellsL) (repV vs n)
  | 0 => CR_nil
  | n + 1 => by
    rw [List.replicate_succ, List.flatMap_cons]
    exact CR_append h (CR_rep h n)
theorem CR_ints (k : IntKind) : ∀ (xs : List Int), (∀ x ∈ xs, rng k x) → CR ι (xs.map (.int k)) (xs.map (Value.int k))
  | [], _ => CR_nil
  | x :: xs, h => by
    rw [List.map_cons, List.map_cons]
    exact CR_append (a := [.int k x]) (xs := [Value.int k x]) (SR.CR (v := .int k x) ⟨rfl, h x (by simp)⟩) (CR_ints k xs fun y hy => h y (by simp [hy]))
theorem rng_bytes (s : ByteArray) : ∀ x ∈ bytesOf s, rng .u8 x := by
  intro x hx
  simp only [bytesOf, List.mem_map] at hx
  obtain ⟨b, _, rfl⟩ := hx
  exact rng_byte b
theorem cells_ints (k : IntKind) (n : Nat) (xs : List Int) : (Blk.segs [.ints k n xs]).cells = xs.map (.int k) := by simp [Blk.cells, cellsL, segC]
theorem repV_int (k : IntKind) : ∀ n, repV [Value.int k 0] n = (List.replicate n (0 : Int)).map (Value.int k)
  | 0 => rfl
  | n + 1 => by rw [repV, repV_int k n, List.replicate_succ]; rfl
theorem uInt_some {t : TypeId} {k : IntKind} (h : uInt P t k = true) : P.underlying t = some (.int k) := by
  unfold uInt at h
  split at h
  · rename_i k' hk; simp only [decide_eq_true_eq] at h; rw [hk, h]
  · cases h
def scalar : AV → Bool
  | .undef | .func .. | .tuple _ | .agg _ => false
  | _ => true
theorem VR.SR_of {v : AV} {x : Value} (h : scalar v = true) (hv : VR ι v x) : SR ι v x := by
  cases v <;> first | exact hv | simp [scalar] at h
theorem slCont_ints {h : Heap} {w : World} {id o j len e : Nat} {cap : Option Nat} {k : IntKind} {xs : List Int} {vx : Value} (R : HRel ι h w) (hx : VR ι (.slice id o j len e cap) vx) (hk : slCont h (.slice id o j len e cap) = some (.ints k xs)) :
    e = 0 ∧ xs.length = len ∧ ∃ p a c, ι id = some p ∧ vx = .slice a len c ∧ SlR p o j len e cap a c ∧ (∀ b : Addr, (len = 0 ∨ a = some b) → ∀ (i : Nat) n, xs[i]? = some n → w.cell? (b.add i) = some (.int k n)) ∧ ∀ n ∈ xs, rng k n := by
  obtain ⟨p, a, c, hp, rfl, S⟩ := hx.slice
  have key : ∀ {cc : Cell} {ys : List Int} {m : Nat} {l : List AV}, h.get id = some cc → cc.blk = .segs l → segAt l o = some (.ints k m ys) → e = 0 → (j + len ≤ ys.length) → xs = (ys.drop j).take len →
      xs.length = len ∧ (∀ b : Addr, (len = 0 ∨ a = some b) → ∀ (i : Nat) n, xs[i]? = some n → w.cell? (b.add i) = some (.int k n)) ∧ ∀ n ∈ xs, rng k n := by
    intro cc ys m l hg hb hs he hle hxs
    subst he
    have hlen : xs.length = len := by rw [hxs]; simp; omega
    have hcells : ∀ (i : Nat) n, xs[i]? = some n → i < len ∧ cc.blk.cells[o + j + i]? = some (.int k n) := by
      intro i n hi
      have hil : i < len := by rw [← hlen]; exact (List.getElem?_eq_some_iff.1 hi).1
      refine ⟨hil, ?_⟩
      obtain ⟨_, _, wf, _⟩ := R.blk id cc hg
      rw [hb] at wf
      obtain ⟨x1, x2, e1, hl⟩ := segAt_split wf hs
      rw [hxs, List.getElem?_take, if_pos hil, List.getElem?_drop] at hi
      rw [hb]
      show (cellsL l)[o + j + i]? = _
      have hji : j + i < ys.length := by omega
      rw [e1, cellsL_append, cellsL_cons, List.getElem?_append_right (by omega), List.getElem?_append_left (by simp [segC]; omega)]
      rw [show o + j + i - (cellsL x1).length = j + i by omega]
      simp [segC, hi]
    have hrg : ∀ n ∈ xs, rng k n := by
      intro n hn
      obtain ⟨i, hi⟩ := List.mem_iff_getElem?.1 hn
      obtain ⟨x, _, hsr⟩ := R.cell hg hp (hcells i n hi).2 (by intro s pos e; rw [hb] at e; cases e)
      exact hsr.2
    refine ⟨hlen, fun b hab i n hi => ?_, hrg⟩
    have hil : i < len := (hcells i n hi).1
    have hab : a = some b := hab.resolve_left (by omega)
    subst hab
    have hb' : b = ⟨p.blk, p.base + (o + j * esz 0), none⟩ := by
      have := S.addr.resolve_left (by have := S.le; omega)
      exact Option.some.inj this
    obtain ⟨x, hx, hsr⟩ := R.cell hg hp (hcells i n hi).2 (by intro s pos e; rw [hb] at e; cases e)
    have hsr : x = .int k n := hsr.1
    subst hsr
    rw [hb', addr_add]
    rw [show p.base + (o + j * esz 0) + i = p.base + (o + j + i) by simp [esz]; omega]
    exact hx
  simp only [slCont] at hk
  split at hk
  · rename_i x1 x2 k' m ys hg
    split at hk
    · rename_i heo
      obtain ⟨rfl, rfl⟩ := heo
      simp only [Option.some.injEq, Cont.ints.injEq] at hk
      obtain ⟨rfl, rfl⟩ := hk
      obtain ⟨p', hp', wf, hs, _, _⟩ := R.blk id _ hg
      rw [hp] at hp'; cases hp'
      have hle : j + len ≤ ys.length := by
        have := S.fits
        rw [← hs, cells_ints] at this
        simpa [esz] using this
      obtain ⟨q1, q2, q3⟩ := key (m := m) (l := [.ints k' m ys]) hg rfl (by simp [segAt]) rfl hle rfl
      exact ⟨rfl, q1, p, a, c, hp, rfl, S, q2, q3⟩
    · cases hk
  · rename_i x1 x2 l hnot hg
    split at hk
    · rename_i he
      subst he
      split at hk <;> try (cases hk; done)
      rename_i k' m ys hs
      split at hk
      · rename_i hle
        simp only [Option.some.injEq, Cont.ints.injEq] at hk
        obtain ⟨rfl, rfl⟩ := hk
        obtain ⟨p', hp', wf, _⟩ := R.blk id _ hg
        have hy : ys.length = m := by
          obtain ⟨z1, z2, e1, _⟩ := segAt_split wf hs
          have wf' : SegsWf l := wf
          rw [e1] at wf'
          exact (segsWf_cons.1 (segsWf_append.1 wf').2).1
        obtain ⟨q1, q2, q3⟩ := key hg rfl hs rfl (by omega) rfl
        exact ⟨rfl, q1, p, a, c, hp, rfl, S, q2, q3⟩
      · cases hk
    · cases hc : chop l (o + j * e) e len <;> rw [hc] at hk <;> cases hk
  · split at hk <;> cases hk
  · cases hk
  · cases hk
theorem FrzS.cell {h : Heap} {w : World} {a : Option Addr} {c n z : Nat} {cells : List AV} (R : HRel ι h w) (F : FrzS ι a c n z cells) (hn : c ≠ 0) : ∃ b, a = some b ∧ ∀ i y, cells[i]? = some y → ∃ x, w.cell? (b.add i) = some x ∧ SR ι y x := by
  obtain ⟨b, off, f, rfl, hf, _, hc⟩ := F.2.resolve_left hn
  obtain ⟨⟨arr, el, z, hg, _, hcell⟩, _⟩ := R.fz b f hf
  refine ⟨_, rfl, fun i y hy => ?_⟩
  obtain ⟨_, _, x, hx, hs⟩ := hcell _ _ (hc i y hy)
  exact ⟨x, by rw [addr_add]; simp [World.cell?, hg, hx], hs⟩
theorem isl_cells {h : Heap} {w : World} {k : IntKind} {xs : List Int} {vx : Value} (R : HRel ι h w) (hx : VR ι (.isl k xs) vx) :
    ∃ a c, vx = .slice a xs.length c ∧ xs.length ≤ c ∧ (xs ≠ [] → ∃ b, a = some b ∧ ∀ (i : Nat) n, xs[i]? = some n → w.cell? (b.add i) = some (.int k n)) ∧ ∀ n ∈ xs, rng k n := by
  obtain ⟨a, c, rfl, hr, F⟩ := hx.isl
  refine ⟨a, c, rfl, F.1, fun hne => ?_, hr⟩
  obtain ⟨b, h1, h2⟩ := F.cell R (fun h0 => by have := F.1; exact hne (List.eq_nil_of_length_eq_zero (by omega)))
  refine ⟨b, h1, fun i n hi => ?_⟩
  obtain ⟨x, hx, hs⟩ := h2 i (.int k n) (by simp [hi])
  rw [hx]
  exact congrArg some hs.1
theorem opR_sound {o : Oper} {ao : AOp} {κ : AV → Option Blk → Option β} {r : β} {h : Heap} {w : World} {nid : Nat} (hl : lowR P o ao = true) (ht : TR ι t ρ) (R : HRel ι h w) (hn : ι nid = none) (hk : opR ao t h nid κ = some r) :
    ∃ v ob x w', κ v ob = some r ∧ (execOp ρ o).run P w = .ok (.value x) w' ∧ REff ι w w' nid v ob x := by
  have same : ∀ {v : AV} {x : Value}, κ v none = some r → VR ι v x → (execOp ρ o).run P w = .ok (.value x) w → ∃ v ob x w', κ v ob = some r ∧ (execOp ρ o).run P w = .ok (.value x) w' ∧ REff ι w w' nid v ob x :=
    fun h1 h2 h3 => ⟨_, none, _, w, h1, h3, rfl, rfl, rfl, rfl, h2⟩
  unfold lowR at hl
  split at hl
  · rename_i ty z ho
    cases hi : P.info? ty with
    | none => simp [hi] at hl
    | some inf =>
      cases hz : inf.zero with
      | none => simp [hi, hz] at hl
      | some zv =>
        simp only [hi, Option.bind_some, hz] at hl
        obtain ⟨wf, hc⟩ := sameSegs_sound hl ι
        exact ⟨_, _, _, _, hk, exec_v' (s := Instr.alloc ty true (.tuple #[])) (by unfold execOp; rw [ho]) (by simp [Instr.alloc, zeroValue, typeInfo, hi, hz, newVar, newRow]; rfl), .inl (NewB.alloc (b := .segs z) wf hc)⟩
  · rename_i ty x y ho
    have hx := ht _ _ hl
    simp only [opR] at hk
    split at hk
    · rename_i hok
      have key : (Blk.segs (segsOf (y.ev t))).Wf ∧ CR ι (Blk.segs (segsOf (y.ev t))).cells (ρ x).cells.toList := by
        cases hyv : y.ev t with
        | agg s =>
          rw [hyv] at hx
          obtain ⟨cs, e, wf, hc⟩ := hx.agg
          rw [e]
          exact ⟨wf, hc⟩
        | _ =>
          rw [hyv] at hx hok
          simp only [segsOf, List.all_cons, List.all_nil, Bool.and_true] at hok
          first
            | (simp [segOk] at hok; done)
            | (have hs := VR.SR_of (by simp [scalar]) hx
               exact ⟨fun s hs => by simp [segsOf] at hs; subst hs; exact oneCell_wf (by simp [oneCell]), by simpa [segsOf, Blk.cells, cellsL, segC] using hs.CR⟩)
            | (simp only [VR, VA, SR] at hx)
      exact ⟨_, _, _, _, hk, exec_v' (s := Instr.box ty (ρ x)) (by unfold execOp; rw [ho]) (by simp [Instr.box, newVar, newRow]; rfl), .inl (NewB.alloc key.1 key.2)⟩
    · cases hk
  · rename_i ty x lo hi mx n e x' lo' hi' mx' ho
    simp only [Bool.and_eq_true] at hl
    obtain ⟨⟨⟨⟨h1, h2⟩, h3⟩, h4⟩, h5⟩ := hl
    split at h1 <;> try (cases h1; done)
    rename_i m el hu
    simp only [Bool.and_eq_true, beq_iff_eq] at h1
    obtain ⟨rfl, hsz⟩ := h1
    obtain ⟨inf, hinf, hz⟩ := szOf_some hsz
    simp only [opR] at hk
    split at hk
    · rename_i hf
      obtain ⟨v, y, q1, q2, q3⟩ := slArrK_sound (P := P) (ht _ _ h2) (optR_of ht h3) (optR_of ht h4) (optR_of ht h5) hu hinf hz (fun id o' p hxv hp => by
        rw [hxv] at hf
        simp only [arrFits] at hf
        split at hf <;> try (cases hf; done)
        rename_i c1 c2 l hg
        obtain ⟨p', hp', wf, hs, h0, hrow⟩ := R.blk id _ hg
        rw [hp] at hp'; cases hp'
        have hl1 : sizeL l = p.size := by rw [← hs]; exact sizeL_eq wf
        have hf' : o' + m * esz e ≤ sizeL l := by simpa using hf
        refine ⟨by omega, ?_⟩
        by_cases hlim : p.lim = 0
        · left
          have := h0 hlim
          have he : 0 < esz e := by unfold esz; split <;> omega
          rcases Nat.eq_zero_or_pos m with hm | hm
          · exact hm
          · have := Nat.mul_pos hm he; omega
        · right
          obtain ⟨_, _, _, _, _, hb, _⟩ := (rowOf (hrow hlim) (by intros; simp)).row
          exact hb) hk
      exact same q1 q2 (exec_v (by unfold execOp; rw [ho]) q3 w)
    · cases hk
  · rename_i ty n parts z m e parts' ho
    simp only [Bool.and_eq_true, beq_iff_eq, decide_eq_true_eq] at hl
    obtain ⟨⟨⟨rfl, h2⟩, h3⟩, h4⟩ := hl
    split at h3 <;> try (cases h3; done)
    rename_i el hu
    simp only [Bool.and_eq_true, beq_iff_eq] at h3
    obtain ⟨hsz, hz⟩ := h3
    obtain ⟨inf, hinf, his⟩ := szOf_some hsz
    cases hzv : inf.zero with
    | none => simp [hinf, hzv] at hz
    | some zv =>
      simp only [hinf, Option.bind_some, hzv, Bool.and_eq_true, List.all_eq_true, beq_iff_eq] at hz
      obtain ⟨⟨hzs, hwf⟩, hcells⟩ := hz
      simp only [opR] at hk
      cases hpp : putParts t parts' z with
      | none => rw [hpp] at hk; cases hk
      | some l =>
        rw [hpp] at hk
        have wz : SegsWf z := fun s hs => segWfB_sound (hwf s hs)
        have hmade := madeCells_repV zv.cells n
        obtain ⟨cs', h5, h6, h7⟩ := putParts_sound (cs := (Array.range (n * zv.cells.size)).map (zv.cells[· % zv.cells.size]!)) ht h4 wz (by rw [hmade]; exact sameCells_sound hcells ι) hpp
        have hlen : (Blk.segs l).cells.length = cs'.size := by simpa [Blk.cells] using h7.1
        have hcs : cs'.size = n * esz e := by
          have hfill : ∀ (ps : List (Nat × Value)) (c d : Array Value) (pl : Nat → Option (Nat × Nat)), Instr.fill pl c ps = some d → d.size = c.size := by
            intro ps
            induction ps with
            | nil => intro c d pl h; simp only [Instr.fill, Option.some.injEq] at h; rw [h]
            | cons q ps ih =>
              intro c d pl h
              simp only [Instr.fill] at h
              split at h
              · cases h
              · split at h
                · cases h
                · rename_i off size hpl hcond
                  have := ih _ _ _ h
                  rw [this]
                  have hf := fill_fold q.2.cells c off (by simp at hcond; omega)
                  have := congrArg List.length hf
                  simp at this hcond ⊢
                  omega
          have := hfill _ _ _ _ h5
          rw [this]; simp [hzs]
        refine ⟨_, _, .slice (some ⟨w.heap.size, 0, none⟩) n n, w.alloc (.cells cs' el), hk, exec_v' (s := Instr.buildSlice ty n (parts.map fun (i, x) => (i, ρ x))) (by unfold execOp; rw [ho]) ?_, ?_⟩
        · have hle : ¬ (2 ^ 24 < n * inf.size) := by rw [his]; omega
          have h5' : Instr.fill (fun i => some (i * inf.size, inf.size)) ((Array.range (n * inf.size)).map (zv.cells[· % zv.cells.size]!)) (parts.map fun (i, x) => (i, ρ x)).toList = some cs' := by
            rw [his]
            have : (parts.map fun (i, x) => (i, ρ x)).toList = parts.toList.map fun (i, x) => (i, ρ x) := by simp
            rw [this, ← h5, hzs]
          by_cases h0 : n * inf.size = 0
          · have e0 : (Array.range (n * inf.size)).map (zv.cells[· % zv.cells.size]!) = (Array.range (n * inf.size)).map ((#[] : Array Value)[· % (#[] : Array Value).size]!) := by rw [h0]; simp
            rw [e0] at h5'
            simp only [Instr.buildSlice, Sem.run_bind, run_underlying hu, Result.andThen_ok, run_sizeOf hinf]
            rw [if_neg hle]
            simp only [Sem.run_bind, h0, if_true, Sem.run_pure, Result.andThen_ok]
            rw [h0] at h5'
            simp only [h5']
            rfl
          · simp only [Instr.buildSlice, Sem.run_bind, run_underlying hu, Result.andThen_ok, run_sizeOf hinf]
            rw [if_neg hle]
            simp only [Sem.run_bind, h0, if_false, Sem.run_pure, Result.andThen_ok, zeroValue, typeInfo, run_program, hinf, hzv, h5']
            rfl
        · exact .inl <| NewB.slice (b := .segs l) (el := el) (fz := (0,0)) (arr := cs') rfl rfl rfl rfl h6 (by omega) (by omega) (by omega) (fun i v hi => by obtain ⟨x, hx, hs⟩ := h7.2 i v hi; exact ⟨x, by simpa using hx, hs⟩) (fun o _ => by simp) (Nat.le_refl _) (fun m hm => by cases hm; exact ⟨rfl, by omega⟩) (by omega)
  · rename_i ty x agg n y ho
    simp only [Bool.and_eq_true, beq_iff_eq, Bool.or_eq_true, Bool.not_eq_true'] at hl
    obtain ⟨⟨h1, h2⟩, h3⟩ := hl
    obtain ⟨v, y', q1, q2, q3⟩ := loadK_sound R (ht _ _ h3) h1 (fun ha => h2.resolve_left (by rw [ha]; simp)) hk
    exact same q1 q2 (exec_v' (by unfold execOp; rw [ho]) q3)
  · rename_i ty l c k bytes l' c' ho
    simp only [Bool.and_eq_true] at hl
    obtain ⟨⟨h1, h2⟩, h3⟩ := hl
    split at h3 <;> try (cases h3; done)
    rename_i el hu
    simp only [Bool.and_eq_true, beq_iff_eq, decide_eq_true_eq] at h3
    obtain ⟨⟨⟨hsz, hby⟩, hpos⟩, hz⟩ := h3
    obtain ⟨inf, hinf, his⟩ := szOf_some hsz
    have hby' : inf.bytes = bytes := by simpa [hinf] using hby
    cases hzv : inf.zero with
    | none => simp [hinf, hzv] at hz
    | some zv =>
      simp only [hinf, Option.bind_some, hzv] at hz
      have hzv' : zv = .int k 0 := (sameSc_sound hz ι).1
      subst hzv'
      have hx := ht _ _ h1
      have hy := ht _ _ h2
      simp only [opR] at hk
      split at hk <;> try (cases hk; done)
      rename_i kl a kc b hlv hcv
      rw [hlv] at hx
      rw [hcv] at hy
      split at hk
      · rename_i hcond
        obtain ⟨h0, hab, hb⟩ := hcond
        have hb63 : b ≤ 9223372036854775807 := by
          have : b * 1 ≤ b * bytes := Int.mul_le_mul_of_nonneg_left (by omega) (by omega)
          omega
        have hm := run_make (P := P) w ty el inf (.int k 0) hu hinf hzv kl kc a b h0 hab (by rw [hby', Int.mul_comm]; omega) hb63
        refine ⟨_, _, _, _, hk, exec_v' (s := Instr.makeSlice ty (ρ l) (ρ c)) (by unfold execOp; rw [ho]) (by rw [hx.int, hy.int]; exact hm), ?_⟩
        have hrep : (madeCells (Value.int k 0).cells (b.toNat * inf.size)).toList = (List.replicate b.toNat (0 : Int)).map (Value.int k) := by
          have := madeCells_repV (Value.int k 0).cells b.toNat
          rw [his]
          exact this.trans (repV_int k b.toNat)
        have hsize : (madeCells (Value.int k 0).cells (b.toNat * inf.size)).size = b.toNat := by
          have := congrArg List.length hrep
          simpa using this
        refine .inl <| NewB.slice (b := .segs [.ints k b.toNat (List.replicate b.toNat 0)]) (el := el) (fz := (0,0)) rfl rfl rfl rfl (by intro s hs; simp at hs; subst hs; simp [SegWf]) ?_ ?_ ?_ ?_ (fun o _ => by simp) (by omega) ?_ ?_
        · rw [cells_ints]; simp [esz]; omega
        · rw [cells_ints, hsize]; simp
        · rw [cells_ints, hsize]; simp
        · intro i v hi
          rw [cells_ints] at hi
          obtain ⟨x, hx, hs⟩ := (CR_ints (ι := ι) k (List.replicate b.toNat 0) fun x hx => by rw [(List.mem_replicate.1 hx).2]; exact rng_zero k).2 i v hi
          rw [← hrep] at hx
          exact ⟨x, by simpa using hx, hs⟩
        · intro m hm; cases hm; exact ⟨rfl, by rw [cells_ints]; simp [esz]⟩
        · rw [hsize]; simp [esz]
      · cases hk
  · rename_i ty l c e bytes z l' c' ho
    simp only [Bool.and_eq_true] at hl
    obtain ⟨⟨h1, h2⟩, h3⟩ := hl
    split at h3 <;> try (cases h3; done)
    rename_i el hu
    simp only [Bool.and_eq_true, beq_iff_eq, decide_eq_true_eq] at h3
    obtain ⟨⟨⟨hsz, hby⟩, hpos⟩, hz⟩ := h3
    obtain ⟨inf, hinf, his⟩ := szOf_some hsz
    have hby' : inf.bytes = bytes := by simpa [hinf] using hby
    cases hzv : inf.zero with
    | none => simp [hinf, hzv] at hz
    | some zv =>
      simp only [hinf, Option.bind_some, hzv, Bool.and_eq_true, beq_iff_eq] at hz
      obtain ⟨⟨hzs, hz⟩, hzn⟩ := hz
      obtain ⟨wz, cz⟩ := sameSegs_sound hz ι
      have hx := ht _ _ h1
      have hy := ht _ _ h2
      simp only [opR] at hk
      split at hk
      · cases hk
      · rename_i he
        split at hk <;> try (cases hk; done)
        rename_i kl a kc b hlv hcv
        rw [hlv] at hx
        rw [hcv] at hy
        split at hk
        · rename_i hcond
          obtain ⟨h0, hab, hb⟩ := hcond
          have hb63 : b ≤ 9223372036854775807 := by
            have : b * 1 ≤ b * bytes := Int.mul_le_mul_of_nonneg_left (by omega) (by omega)
            omega
          have hm := run_make (P := P) w ty el inf zv hu hinf hzv kl kc a b h0 hab (by rw [hby', Int.mul_comm]; omega) hb63
          refine ⟨_, _, _, _, hk, exec_v' (s := Instr.makeSlice ty (ρ l) (ρ c)) (by unfold execOp; rw [ho]) (by rw [hx.int, hy.int]; exact hm), ?_⟩
          have hez : esz e = e := by simp [esz, he]
          have hrep : (madeCells zv.cells (b.toNat * inf.size)).toList = repV zv.cells.toList b.toNat := by
            have := madeCells_repV zv.cells b.toNat
            rw [his, ← hzs]
            exact this
          have hsize : (madeCells zv.cells (b.toNat * inf.size)).size = b.toNat * e := by
            have := congrArg List.length hrep
            rw [repV_len] at this
            simpa [hzs] using this
          have hzl : (cellsL z).length = e := by have := cz.1; simpa [hzs] using this
          have hcl : ((List.replicate b.toNat z).flatMap cellsL).length = b.toNat * e := by
            have := (CR_rep (ι := ι) cz b.toNat).1
            rw [this, repV_len]; simp [hzs]
          refine .inl <| NewB.slice (b := .rows e b.toNat (List.replicate b.toNat z)) (el := el) (fz := (0,0)) rfl rfl rfl rfl ⟨by simp, fun q hq => by rw [(List.mem_replicate.1 hq).2]; exact ⟨wz, hzl, hzn⟩⟩ ?_ ?_ ?_ ?_ (fun o _ => by simp) (by omega) ?_ ?_
          · show _ ≤ ((List.replicate b.toNat z).flatMap cellsL).length
            rw [hcl, hez]; exact Nat.mul_le_mul_right _ (by omega)
          · show ((List.replicate b.toNat z).flatMap cellsL).length ≤ _
            rw [hcl, hsize]; exact Nat.le_refl _
          · show _ → ((List.replicate b.toNat z).flatMap cellsL).length = 0
            rw [hcl, hsize]; exact id
          · intro i v hi
            obtain ⟨x, hx, hs⟩ := (CR_rep (ι := ι) cz b.toNat).2 i v hi
            rw [← hrep] at hx
            exact ⟨x, by simpa using hx, hs⟩
          · intro m hm; cases hm; exact ⟨rfl, by show _ ≤ ((List.replicate b.toNat z).flatMap cellsL).length; rw [hcl, hez]; exact Nat.le_refl _⟩
          · rw [hsize, hez]; exact Nat.le_refl _
        · cases hk
  · rename_i s d x y ho
    simp only [Bool.and_eq_true] at hl
    obtain ⟨⟨h1, h2⟩, h3⟩ := hl
    have hd : P.underlying d = some .string := by split at h2 <;> first | assumption | cases h2
    split at h3 <;> try (cases h3; done)
    rename_i e hs
    have he := uInt_some h3
    have hx := ht _ _ h1
    simp only [opR] at hk
    split at hk
    · rename_i hyv
      rw [hyv] at hx
      refine same (x := .string ⟨#[]⟩) hk rfl (exec_v' (s := convert s d (ρ x)) (by unfold execOp; rw [ho]) ?_)
      rw [hx.nils, run_convert_bytes_string w s d e none 0 0 hs he hd]
      simp [Conv.bytesToString]
      rfl
    · rename_i hyv
      rw [hyv] at hx
      obtain ⟨a, ev⟩ := hx.emp
      refine same (x := .string ⟨#[]⟩) hk rfl (exec_v' (s := convert s d (ρ x)) (by unfold execOp; rw [ho]) ?_)
      rw [ev, run_convert_bytes_string w s d e a 0 0 hs he hd]
      cases a with
      | none => simp [Conv.bytesToString]; rfl
      | some b =>
        have hload := run_loadCells_list (P := P) w b [] (fun i v hi => by simp at hi)
        rw [run_bytesToString w b 0 0 [] hload]
        rfl
    · split at hk <;> try (cases hk; done)
      rename_i xs hcont
      cases hyv : y.ev t with
      | isl k' xs' =>
        rw [hyv] at hx hcont
        simp only [slCont, Option.some.injEq, Cont.ints.injEq] at hcont
        obtain ⟨rfl, rfl⟩ := hcont
        obtain ⟨a, c, ev, hle, hcell, hr⟩ := isl_cells R hx
        refine same (x := .string (strOf xs')) hk rfl (exec_v' (s := convert s d (ρ x)) (by unfold execOp; rw [ho]) ?_)
        rw [ev, run_convert_bytes_string w s d e a xs'.length c hs he hd]
        have hstr : xs'.foldl (fun r n => r.push (UInt8.ofNat n.toNat)) ByteArray.empty = strOf xs' := by rw [strOf_fold]; simp [strOf, ByteArray.empty, ByteArray.emptyWithCapacity]; rfl
        cases a with
        | none =>
          have hnil : xs' = [] := Decidable.byContradiction fun hne => by obtain ⟨b, hb, _⟩ := hcell hne; cases hb
          subst hnil
          simp [Conv.bytesToString, strOf]
          rfl
        | some b =>
          have hload := run_loadCells_list (P := P) w b (xs'.map (Value.int .u8)) (fun i v hi => by
            rw [List.getElem?_map] at hi
            cases hxi : xs'[i]? with
            | none => rw [hxi] at hi; cases hi
            | some n =>
              rw [hxi] at hi; cases hi
              obtain ⟨b', hb, hcc⟩ := hcell (fun e => by rw [e] at hxi; cases hxi)
              cases hb
              exact hcc i n hxi)
          rw [List.length_map] at hload
          rw [run_bytesToString w b xs'.length c xs' hload, hstr]
      | slice id o' j len e' cap =>
        rw [hyv] at hx hcont
        obtain ⟨he', hlen, p, a, c, hp, ev, S, hcell, _⟩ := slCont_ints R hx hcont
        refine same (x := .string (strOf xs)) hk rfl (exec_v' (s := convert s d (ρ x)) (by unfold execOp; rw [ho]) ?_)
        rw [ev, run_convert_bytes_string w s d e a len c hs he hd]
        have hstr : xs.foldl (fun r n => r.push (UInt8.ofNat n.toNat)) ByteArray.empty = strOf xs := by rw [strOf_fold]; simp [strOf, ByteArray.empty, ByteArray.emptyWithCapacity]; rfl
        cases a with
        | none =>
          have hl0 : len = 0 := by
            rcases S.addr with h0 | h0
            · have := S.le; omega
            · cases h0
          subst hl0
          have : xs = [] := List.eq_nil_of_length_eq_zero hlen
          subst this
          simp [Conv.bytesToString, strOf]
          rfl
        | some b =>
          have hload := run_loadCells_list (P := P) w b (xs.map (Value.int .u8)) (fun i v hi => by
            rw [List.getElem?_map] at hi
            cases hxi : xs[i]? with
            | none => rw [hxi] at hi; cases hi
            | some n => rw [hxi] at hi; cases hi; exact hcell b (.inr rfl) i n hxi)
          rw [List.length_map, hlen] at hload
          rw [run_bytesToString w b len c xs hload, hstr]
      | _ => rw [hyv] at hcont; simp [slCont] at hcont
  · rename_i ty x y ho
    simp only [Bool.and_eq_true] at hl
    have hs : P.underlying ty = some .string := by have := hl.2; split at this <;> first | assumption | cases this
    have hx := ht _ _ hl.1
    simp only [opR] at hk
    split at hk <;> try (cases hk; done)
    rename_i s hyv
    rw [hyv] at hx
    refine ⟨_, _, .pointer (some ⟨w.heap.size, 0, none⟩), w.iter s 0, hk, exec_v' (s := Instr.range ty (ρ x)) (by unfold execOp; rw [ho]) ?_, .inr ⟨s, rfl, rfl, rfl, rfl⟩⟩
    rw [hx.str]
    exact run_range_string w ty s hs
  · rename_i s d x y ho
    simp only [Bool.and_eq_true] at hl
    obtain ⟨⟨h1, h2⟩, h3⟩ := hl
    have hs : P.underlying s = some .string := by split at h2 <;> first | assumption | cases h2
    split at h3 <;> try (cases h3; done)
    rename_i e hd
    have he := uInt_some h3
    have hx := ht _ _ h1
    simp only [opR] at hk
    cases hyv : y.ev t <;> rw [hyv] at hk hx <;> simp only at hk <;> try (cases hk; done)
    rename_i str
    have hrun := run_bytes_of_string (P := P) w s d e str hs hd he
    have hsz : str.size = str.data.toList.length := rfl
    have hgc := grownCap_ge w str.size 0 e
    have hbl : (bytesRow str (grownCap w str.size 0 e)).size = grownCap w str.size 0 e := by
      simp [bytesRow]
      have : str.data.size = str.size := rfl
      omega
    refine ⟨_, _, _, _, hk, exec_v' (s := convert s d (ρ x)) (by unfold execOp; rw [ho]) (by rw [hx.str]; exact hrun), ?_⟩
    have hbo : (bytesOf str).length = str.size := by simp only [bytesOf, List.length_map, hsz]
    refine .inl <| NewB.slice (b := .segs [.ints .u8 str.size (bytesOf str)]) (el := e) rfl rfl rfl rfl (by intro s hs; simp at hs; subst hs; exact hbo) ?_ ?_ ?_ ?_ (fun o ho hh => absurd hh.1 (Nat.not_le_of_lt ho)) hgc (fun m hm => by cases hm) ?_
    · rw [cells_ints]; simp [esz, hbo]
    · rw [cells_ints, hbl]; simp [hbo]; exact hgc
    · rw [cells_ints, hbl]; simp only [List.length_map, hbo]; omega
    · intro i v hi
      rw [cells_ints] at hi
      obtain ⟨x, hx, hsr⟩ := (CR_ints (ι := ι) .u8 (bytesOf str) (rng_bytes str)).2 i v hi
      refine ⟨x, ?_, hsr⟩
      have hil : i < str.data.size := by
        have := (List.getElem?_eq_some_iff.1 hi).1
        simpa [bytesOf] using this
      simp only [bytesRow]
      rw [Array.getElem?_append_left (by simpa using hil)]
      simp [bytesOf] at hx
      simpa using hx
    · rw [hbl]; simp [esz]
  · cases hl
end
section
variable {β : Type} {P : Program} {ι : Inj} {t : List AV} {ρ : Operand → Value}
theorem run_storeRow (g o : Nat) (el : TypeId) (fz : Nat × Nat) : ∀ (vs : List Value) (i : Nat) (cur : Array Value) (w : World), w.heap[g]? = some (.cells cur el fz) → o + i + vs.length ≤ cur.size → (∀ v ∈ vs, v.oneCell' = true) →
    (∀ j, j < cur.size → ¬ (fz.1 ≤ j ∧ j < fz.2)) →
    (storeCells ⟨g, o, none⟩ vs i).run P w = .ok () (w.setRow g (cur.toList.take (o + i) ++ vs ++ cur.toList.drop (o + i + vs.length)).toArray)
  | [], i, cur, w, hg, _, _, _ => by
    simp only [storeCells, List.append_nil, List.length_nil, Nat.add_zero, List.take_append_drop, Array.toArray_toList]
    rw [setRow_self w g cur el fz hg]
    rfl
  | v :: rest, i, cur, w, hg, hl, h1, hf => by
    have hi : o + i < cur.size := by simp at hl; omega
    have hadd : (⟨g, o, none⟩ : Addr).add i = ⟨g, o + i, none⟩ := addr_add _ _ _
    have hcell : w.cell? ⟨g, o + i, none⟩ = some cur[o + i] := by simp [World.cell?, hg, hi]
    have hfro : w.frozen? ⟨g, o + i, none⟩ = false := by
      have := hf (o + i) hi
      obtain ⟨lo, hi2⟩ := fz
      simp [World.frozen?, hg]
      intro h2; simp at this; omega
    have hst : (store ((⟨g, o, none⟩ : Addr).add i) v).run P w = .ok () (w.setRow g (cur.setIfInBounds (o + i) v)) := by
      rw [hadd, run_store P w _ v _ (h1 v (by simp)), hcell]
      simp [hfro, setCell_eq_setRow w g (o + i) cur el fz v hg]
    have ih := run_storeRow g o el fz rest (i + 1) (cur.setIfInBounds (o + i) v) (w.setRow g (cur.setIfInBounds (o + i) v)) (setRow_heap w g cur _ el _ hg) (by simp at hl ⊢; omega) (fun x hx => h1 x (by simp [hx])) (by simpa using hf)
    simp only [storeCells, Sem.run_bind, hst, Result.andThen_ok, ih, setRow_setRow]
    congr 3
    have e := list_seg_step cur.toList (o + i) v rest (by simp at hl ⊢; omega)
    simpa [Array.toList_setIfInBounds, Nat.add_assoc] using e
theorem CR.one {l : List AV} {vs : List Value} (h : CR ι l vs) : ∀ v ∈ vs, v.oneCell' = true := by
  intro v hv
  obtain ⟨i, hi⟩ := List.mem_iff_getElem?.1 hv
  have hl : i < l.length := by rw [h.1]; exact (List.getElem?_eq_some_iff.1 hi).1
  obtain ⟨x, hx, hs⟩ := h.2 i l[i] (by simp [hl])
  rw [hi] at hx; cases hx
  exact hs.one.2
theorem HRel.same {h h' : Heap} {w : World} {id : Nat} {c : Cell} {b : Blk} (R : HRel ι h w) (hg : h.get id = some c) (hget : ∀ i, h'.get i = if i = id then some { c with blk := b } else h.get i) (wf : b.Wf) (hc : b.cells = c.blk.cells) (hni : ∀ s pos, c.blk ≠ .iter s pos) :
    HRel ι h' w ∧ Step ι h w ι h' w := by
  have pull : ∀ i d, h'.get i = some d → ∃ d', h.get i = some d' ∧ d'.ro = d.ro := by
    intro i d hd
    rw [hget] at hd
    split at hd
    · rename_i e; subst e; cases hd; exact ⟨c, hg, rfl⟩
    · exact ⟨d, hd, rfl⟩
  refine ⟨⟨?_, fun k f hk => ⟨(R.fz k f hk).1, fun i d q hd hro => ?_⟩, ?_⟩, ⟨.refl _, rfl, rfl, rfl, Nat.le_refl _, fun _ _ _ => rfl, ?_, fun _ _ h => .inl h⟩⟩
  rotate_left
  · obtain ⟨d', e, r⟩ := pull _ _ hd
    exact (R.fz k f hk).2 i d' q e (r.trans hro)
  rotate_left 2
  · intro i d hd
    rw [hget] at hd
    split at hd
    · rename_i e
      subst e
      cases hd
      obtain ⟨p, hp, _, hs, h0, h1⟩ := R.blk i c hg
      exact ⟨p, hp, wf, by rw [hc]; exact hs, h0, fun hn => .inl (by have := rowOf (h1 hn) hni; rw [hc]; exact this)⟩
    · exact R.blk i d hd
  · intro id1 c1 p1 id2 c2 p2 g1 g2 hne hro h1 h2 n1 n2
    obtain ⟨d1, e1, r1⟩ := pull _ _ g1
    obtain ⟨d2, e2, r2⟩ := pull _ _ g2
    exact R.disj id1 d1 p1 id2 d2 p2 e1 e2 hne (r1.trans hro) h1 h2 n1 n2
  · rintro k ⟨i, d, p, hd, hro, hp, hlim, rfl⟩
    obtain ⟨d', e, r⟩ := pull _ _ hd
    exact .inl ⟨i, d', p, e, r.trans hro, hp, hlim, rfl⟩
theorem get_set' {h : Heap} {id : Nat} {c : Cell} {b : Blk} (hg : h.get id = some c) : ∀ i, (h.set id b).get i = if i = id then some { c with blk := b } else h.get i := by
  intro i
  rw [get_set]
  split
  · rename_i e; subst e; rw [hg]; rfl
  · rfl
theorem HRel.put {h : Heap} {w : World} {id q : Nat} {c : Cell} {p : Place} {b : Blk} {nc : List AV} {vs : List Value} (R : HRel ι h w) (hg : h.get id = some c) (hro : c.ro = false) (hp : ι id = some p) (wf : b.Wf) (hc : CR ι nc vs)
    (hlen : b.cells.length = c.blk.cells.length) (hq : q + nc.length ≤ c.blk.cells.length) (hin : ∀ i, i < nc.length → b.cells[q + i]? = nc[i]?) (hout : ∀ i, (i < q ∨ q + nc.length ≤ i) → b.cells[i]? = c.blk.cells[i]?) (hni : ∀ s pos, c.blk ≠ .iter s pos) :
    ∃ w', (storeCells ⟨p.blk, p.base + q, none⟩ vs).run P w = .ok () w' ∧ HRel ι (h.set id b) w' ∧ Step ι h w ι (h.set id b) w' := by
  obtain ⟨p', hp', _, hs, h0, h1⟩ := R.blk id c hg
  rw [hp] at hp'; cases hp'
  by_cases hlim : p.lim = 0
  · have hz := h0 hlim
    have hnc : nc = [] := List.eq_nil_of_length_eq_zero (by omega)
    subst hnc
    have hvs : vs = [] := List.eq_nil_of_length_eq_zero hc.1.symm
    subst hvs
    have hbc : b.cells = c.blk.cells := by
      rw [List.eq_nil_of_length_eq_zero (l := b.cells) (by omega), List.eq_nil_of_length_eq_zero (l := c.blk.cells) (by omega)]
    obtain ⟨r1, r2⟩ := R.same hg (get_set' (b := b) hg) wf hbc hni
    exact ⟨w, rfl, r1, r2⟩
  · obtain ⟨arr, el, fz, hb, z1, z2, z3, z4⟩ := (rowOf (h1 hlim) hni).row
    have hv : vs.length = nc.length := hc.1.symm
    have hrun := run_storeRow (P := P) p.blk (p.base + q) el fz vs 0 arr w hb (by omega) hc.one (fun j hj => z4 hro j (by omega))
    simp only [Nat.add_zero] at hrun
    have hsz : (arr.toList.take (p.base + q) ++ vs ++ arr.toList.drop (p.base + q + vs.length)).toArray.size = arr.size := by
      simp; omega
    obtain ⟨r1, r2⟩ := R.write (h' := h.set id b) (w' := w.setRow p.blk (arr.toList.take (p.base + q) ++ vs ++ arr.toList.drop (p.base + q + vs.length)).toArray) hg hro hp hlim hb hsz (get_set' hg) wf hlen rfl (fun i v hi => by
      have hspl := spl_get arr.toList vs (p.base + q) (by simp; omega) (p.base + i)
      by_cases hr : q ≤ i ∧ i < q + nc.length
      · have := hin (i - q) (by omega)
        rw [show q + (i - q) = i by omega, hi] at this
        obtain ⟨x, hx, hsr⟩ := hc.2 _ _ this.symm
        refine ⟨x, ?_, hsr⟩
        rw [if_pos ⟨by omega, by omega⟩, show p.base + i - (p.base + q) = i - q by omega, hx] at hspl
        simpa using hspl
      · have := hout i (by omega)
        rw [hi] at this
        obtain ⟨x, hx, hsr⟩ := z3 i v this.symm
        refine ⟨x, ?_, hsr⟩
        rw [if_neg (by omega)] at hspl
        simp only [List.getElem?_toArray]
        rw [hspl]
        simpa using hx)
    exact ⟨_, hrun, r1, r2⟩
structure PutL (a b : List AV) (q : Nat) (nc : List AV) : Prop where
  len : b.length = a.length
  fits : q + nc.length ≤ a.length
  inn : ∀ i, i < nc.length → b[q + i]? = nc[i]?
  out : ∀ i, (i < q ∨ q + nc.length ≤ i) → b[i]? = a[i]?
theorem PutL.set {a : List AV} {q : Nat} {v : AV} (h : q < a.length) : PutL a (a.set q v) q [v] where
  len := by simp
  fits := by simp; omega
  inn := fun i hi => by
    have : i = 0 := by simpa using hi
    subst this
    simp [List.getElem?_set, h]
  out := fun i hi => by rw [List.getElem?_set, if_neg (by simp at hi; omega)]
theorem rows_len {e : Nat} : ∀ {ys : List (List AV)}, (∀ y ∈ ys, (cellsL y).length = e) → (ys.flatMap cellsL).length = ys.length * e
  | [], _ => by simp
  | y :: ys, hy => by rw [List.flatMap_cons, List.length_append, rows_len (fun z hz => hy z (by simp [hz])), hy y (by simp), List.length_cons, Nat.add_mul]; omega
theorem PutL.rows {e r o : Nat} {xs : List (List AV)} {l l' nc : List AV} (hw : ∀ y ∈ xs, (cellsL y).length = e) (hl : xs[r]? = some l) (P : PutL (cellsL l) (cellsL l') o nc) : PutL (xs.flatMap cellsL) ((xs.set r l').flatMap cellsL) (r * e + o) nc := by
  have hm := List.mem_of_getElem? hl
  have hr : r < xs.length := (List.getElem?_eq_some_iff.1 hl).1
  have hle : (cellsL l).length = e := hw l hm
  have hle' : (cellsL l').length = e := by rw [P.len, hle]
  have hw' : ∀ y ∈ xs.set r l', (cellsL y).length = e := fun y hy => by
    rcases List.mem_or_eq_of_mem_set hy with hy | rfl
    · exact hw y hy
    · exact hle'
  have hlen1 := rows_len hw
  have hlen2 := rows_len hw'
  rw [List.length_set] at hlen2
  have hre : r * e + e ≤ xs.length * e := by
    have := Nat.mul_le_mul_right e (show r + 1 ≤ xs.length by omega)
    rw [Nat.add_mul] at this; omega
  have hfit := P.fits
  have inrow : ∀ i, i < e → ((xs.set r l').flatMap cellsL)[r * e + i]? = (cellsL l')[i]? := fun i hi =>
    flatMap_get (xs := xs.set r l') (r := r) (l := l') hw' (by rw [List.getElem?_set, if_pos rfl, if_pos hr]) i hi
  have inrow0 : ∀ i, i < e → (xs.flatMap cellsL)[r * e + i]? = (cellsL l)[i]? := fun i hi => flatMap_get (xs := xs) hw hl i hi
  have outrow : ∀ i, (i < r * e ∨ r * e + e ≤ i) → ((xs.set r l').flatMap cellsL)[i]? = (xs.flatMap cellsL)[i]? := by
    intro i hi
    by_cases hlt : i < xs.length * e
    · have he0 : 0 < e := by
        rcases Nat.eq_zero_or_pos e with h0 | h0
        · rw [h0] at hlt; simp at hlt
        · exact h0
      have hd : i = (i / e) * e + i % e := by rw [Nat.mul_comm]; exact (Nat.div_add_mod i e).symm
      have hmod := Nat.mod_lt i he0
      have hdiv : i / e < xs.length := (Nat.div_lt_iff_lt_mul he0).2 hlt
      have hne : i / e ≠ r := by intro h; rw [h] at hd; omega
      have g1 := flatMap_get (xs := xs) (r := i / e) (l := xs[i / e]) hw (by simp [hdiv]) _ hmod
      have g2 := flatMap_get (xs := xs.set r l') (r := i / e) (l := xs[i / e]) hw' (by rw [List.getElem?_set, if_neg (fun h => hne h.symm)]; simp [hdiv]) _ hmod
      rw [← hd] at g1 g2
      rw [g2, g1]
    · rw [List.getElem?_eq_none (by omega), List.getElem?_eq_none (by omega)]
  refine ⟨by omega, by omega, fun i hi => ?_, fun i hi => ?_⟩
  · rw [Nat.add_assoc, inrow _ (by omega)]
    exact P.inn i hi
  · by_cases hin : r * e ≤ i ∧ i < r * e + e
    · have e1 := inrow (i - r * e) (by omega)
      have e2 := inrow0 (i - r * e) (by omega)
      rw [show r * e + (i - r * e) = i by omega] at e1 e2
      rw [e1, e2]
      exact P.out _ (by omega)
    · exact outrow i (by omega)
theorem wrCell_cells {b : Blk} {r e o j : Nat} {v : AV} {κ : Blk → Option β} {q : β} (wf : b.Wf) (h : wrCell b r e o j v κ = some q) :
    ∃ b', κ b' = some q ∧ b'.Wf ∧ PutL b.cells b'.cells (r * e + o + j) [v] ∧ oneCell v = true := by
  cases b with
  | iter => cases h
  | segs l =>
    obtain ⟨l', h1, h2, h3, h4, h5⟩ := wrSegs_cells wf h
    exact ⟨.segs l', h1, h2, by show PutL (cellsL l) (cellsL l') _ _; rw [h4]; exact .set h3, h5⟩
  | rows e' n xs =>
    simp only [wrCell] at h
    split at h
    · rename_i he
      obtain ⟨he, hvn⟩ := he
      subst he
      cases hl : xs[r]? with
      | none => rw [hl] at h; cases h
      | some l =>
        rw [hl] at h
        have hm := List.mem_of_getElem? hl
        simp only [Option.bind_some] at h
        rw [wrSegs_noIds (wf.2 l hm).2.2 hvn] at h
        obtain ⟨l', h1, h2, h3, h4, h5⟩ := wrSegs_cells (wf.2 l hm).1 h
        split at h1 <;> try (cases h1; done)
        rename_i hn'
        have pl : PutL (cellsL l) (cellsL l') (o + j) [v] := by rw [h4]; exact .set h3
        refine ⟨_, h1, ⟨by simp [wf.1], fun y hy => ?_⟩, by rw [Nat.add_assoc]; exact pl.rows (fun y hy => (wf.2 y hy).2.1) hl, h5⟩
        rcases List.mem_or_eq_of_mem_set hy with hy | rfl
        · exact wf.2 y hy
        · exact ⟨h2, by rw [pl.len]; exact (wf.2 l hm).2.1, hn'⟩
    · cases h
theorem putSegs_PutL {l l' v : List AV} {o n : Nat} (wf : SegsWf l) (wv : SegsWf v) (hv : (cellsL v).length = n) (h : putSegs l o n v = some l') : SegsWf l' ∧ PutL (cellsL l) (cellsL l') o (cellsL v) := by
  obtain ⟨w1, w2, w3, w4, w5⟩ := putSegs_cells wf wv hv h
  subst hv
  exact ⟨w1, w2, w3, w4, w5⟩
theorem wrAgg_cells {b : Blk} {r e o n : Nat} {s : List AV} {κ : Blk → Option β} {q : β} (wf : b.Wf) (ws : SegsWf s) (h : wrAgg b r e o n s κ = some q) :
    ∃ b', κ b' = some q ∧ b'.Wf ∧ PutL b.cells b'.cells (r * e + o) (cellsL s) ∧ (cellsL s).length = n := by
  unfold wrAgg at h
  split at h <;> try (cases h; done)
  rename_i hcond
  simp only [Bool.and_eq_true, beq_iff_eq] at hcond
  have hn : (cellsL s).length = n := by rw [← sizeL_eq ws]; exact hcond.2
  cases b with
  | iter => cases h
  | segs l =>
    simp only at h
    cases hp : putSegs l (r * e + o) n s with
    | none => rw [hp] at h; cases h
    | some l' =>
      rw [hp] at h
      obtain ⟨w1, w2⟩ := putSegs_PutL wf ws hn hp
      exact ⟨.segs l', h, w1, w2, hn⟩
  | rows e' m xs =>
    simp only at h
    split at h
    · rename_i he
      obtain ⟨he, hvn⟩ := he
      subst he
      cases hl : xs[r]? with
      | none => rw [hl] at h; cases h
      | some l =>
        rw [hl] at h
        simp only [Option.bind_some] at h
        cases hp : putSegs l o n s with
        | none => rw [hp] at h; cases h
        | some l' =>
          rw [hp] at h
          have hm := List.mem_of_getElem? hl
          obtain ⟨w1, w2⟩ := putSegs_PutL (wf.2 l hm).1 ws hn hp
          refine ⟨_, h, ⟨by simp [wf.1], fun y hy => ?_⟩, w2.rows (fun y hy => (wf.2 y hy).2.1) hl, hn⟩
          rcases List.mem_or_eq_of_mem_set hy with hy | rfl
          · exact wf.2 y hy
          · exact ⟨w1, by rw [w2.len]; exact (wf.2 l hm).2.1, putSegs_noIds (wf.2 l hm).2.2 hvn hp⟩
    · cases h
structure WEff (ι : Inj) (h : Heap) (w : World) (v : AV) (h' : Heap) (nx : Next) (w' : World) : Prop where
  eff : ∃ ι' : Inj, ((∃ x, nx = .value x ∧ VR ι' v x) ∨ (nx = .skip ∧ v = .undef)) ∧ HRel ι' h' w' ∧ Step ι h w ι' h' w' ∧ (h'.next = h.next ∧ ι' = ι ∨ h'.next = h.next + 1 ∧ ∀ id, id ≠ h.next → ι' id = ι id)
theorem storeK_sound {n : Nat} {h : Heap} {w : World} {x v : AV} {vx vv : Value} {κ : AV → Heap → Option β} {r : β} {ty : TypeId} (R : HRel ι h w) (hx : VR ι x vx) (hv : VR ι v vv) (hs : szOf P ty = some n) (hk : storeK n h x v κ = some r) :
    ∃ u h' w', κ u h' = some r ∧ (Instr.storeAt ty vx vv).run P w = .ok () w' ∧ WEff ι h w u h' .skip w' := by
  obtain ⟨inf, hinf, his⟩ := szOf_some hs
  unfold storeK at hk
  cases x <;> simp only at hk <;> try (cases hk; done)
  rename_i id r0 e o j
  obtain ⟨p, hp, rfl⟩ := hx.ptr
  split at hk <;> try (cases hk; done)
  rename_i cid b hg
  obtain ⟨_, _, wf, _⟩ := R.blk id _ hg
  have hni : ∀ s pos, b ≠ .iter s pos := by
    rintro s pos rfl
    split at hk
    · split at hk
      · simp only [wrAgg] at hk; split at hk <;> cases hk
      · cases hk
    · split at hk
      · cases hk
      · cases hk
  have fin : ∀ {b' : Blk} {nc : List AV} {vs : List Value} {q : Nat}, q = r0 * e + o + j → κ .undef (h.set id b') = some r → b'.Wf → PutL b.cells b'.cells q nc → CR ι nc vs → vv.cells.toList = vs → nc.length = n →
      ∃ u h' w', κ u h' = some r ∧ (Instr.storeAt ty (.pointer (some ⟨p.blk, p.base + (r0 * e + o + j), none⟩)) vv).run P w = .ok () w' ∧ WEff ι h w u h' .skip w' := by
    intro b' nc vs q hq hk wf' pl hc hvs hn
    subst hq
    obtain ⟨w', h1, h2, h3⟩ := R.put (P := P) hg rfl hp wf' hc pl.len pl.fits pl.inn pl.out hni
    refine ⟨_, _, w', hk, ?_, ⟨ι, .inr ⟨rfl, rfl⟩, h2, h3, .inl ⟨rfl, rfl⟩⟩⟩
    have hsz : vv.cells.size = n := by
      have := congrArg List.length hvs
      rw [← hc.1, hn] at this
      simpa using this
    simp [Instr.storeAt, Instr.sureAddr, storeVar, sizeOf, typeInfo, hinf, his, hsz, hvs, h1]
  cases hvv : v with
  | agg s =>
    rw [hvv] at hk hv
    simp only at hk
    split at hk <;> try (cases hk; done)
    rename_i hj
    obtain ⟨cs, rfl, ws, hc⟩ := hv.agg
    obtain ⟨b', h1, h2, h3, h4⟩ := wrAgg_cells wf ws hk
    exact fin (by omega) h1 h2 h3 hc rfl h4
  | _ =>
    rw [hvv] at hk hv
    simp only at hk
    split at hk <;> try (cases hk; done)
    rename_i hn
    obtain ⟨b', h1, h2, h3, h4⟩ := wrCell_cells wf hk
    first
      | (simp [oneCell] at h4; done)
      | (have hsr := VR.SR_of (by simp [scalar]) hv
         exact fin rfl h1 h2 h3 hsr.CR rfl (by simp [hn]))
end
end Go.Am
