/- RatchetSeals: part 6 of 50 of its proof. -/
import Derived.Test.YtmkefajojokkfaaGreatD04
set_option linter.unusedVariables false
set_option linter.unusedSimpArgs false
namespace Go.Am
set_option linter.unusedSimpArgs false
def notInt (P : Program) (t : TypeId) : Bool := match P.underlying t with | some (.slice _) | some .string => true | _ => false
section
variable {β : Type} {P : Program} {ι : Inj} {t : List AV} {ρ : Operand → Value}
theorem notInt_run {u : TypeId} (h : notInt P u = true) : (∃ e, P.underlying u = some (.slice e)) ∨ P.underlying u = some .string := by
  unfold notInt at h
  split at h
  · rename_i e he; exact .inl ⟨_, he⟩
  · rename_i he; exact .inr he
  · cases h
structure Src (P : Program) (w : World) (size n : Nat) (x : Value) (news : List Value) : Prop where
  hlen : ∀ w, (Builtin.lenOf x).run P w = .ok n w
  hsize : news.length = n * size
  first : ∀ w', w'.heap = w.heap → (Builtin.firstCells size n x).run P w' = .ok news.toArray w'
theorem run_append_room' {ty t u e : TypeId} {i : TypeInfo} {base : Option Addr} {sLen sCap n : Nat} {vx : Value} {news : List Value} (w : World) (ht : P.underlying t = some (.slice e)) (hi : P.info? e = some i) (hu : notInt P u = true)
    (S : Src P w i.size n vx news) (hroom : sLen + n ≤ sCap) :
    (Builtin.append_ #[t, u] ty #[.slice base sLen sCap, vx]).run P w = match base with
      | none => .ok (.slice none (sLen + n) sCap) w
      | some a => ((storeCells (a.add (sLen * i.size)) news).run P w).andThen fun _ w' => .ok (.slice (some a) (sLen + n) sCap) w' := by
  have hf := S.first w rfl
  have hl := S.hlen w
  rcases notInt_run hu with ⟨d, hd⟩ | hd <;> cases base <;> simp [Builtin.append_, run_underlying ht, run_underlying hd, sizeOf, typeInfo, hi, hl, hroom, hf]
theorem run_append_grow' {ty t u e : TypeId} {i : TypeInfo} {z : Value} {base : Option Addr} {sLen sCap n : Nat} {vx : Value} {olds news : List Value} (w : World) (ht : P.underlying t = some (.slice e)) (hi : P.info? e = some i) (hz : i.zero = some z) (hu : notInt P u = true)
    (S : Src P w i.size n vx news) (ho : ∀ w', w'.heap = w.heap → (Builtin.firstCells i.size sLen (.slice base sLen sCap)).run P w' = .ok olds.toArray w') (hg : sCap < sLen + n) (h63 : ((sLen + n : Nat) : Int) ≤ 9223372036854775807) (hfit : Builtin.nextslicecap (sLen + n) sCap * i.bytes ≤ 281474976710656) :
    (Builtin.append_ #[t, u] ty #[.slice base sLen sCap, vx]).run P w = .ok (.slice (some ⟨w.heap.size, 0, none⟩) (sLen + n) (grownCap w (sLen + n) sCap e))
      (w.drew.alloc (.cells (olds.toArray ++ news.toArray ++ Builtin.zeroCells z.cells (grownCap w (sLen + n) sCap e - (sLen + n))) e)) := by
  have hn : ¬ (sLen + n ≤ sCap) := by omega
  have h63' : ¬ (9223372036854775807 < ((sLen : Int) + (n : Int))) := by omega
  have h48' : ¬ (281474976710656 < Builtin.nextslicecap (sLen + n) sCap * i.bytes) := by omega
  have hf := S.first w.drew rfl
  have hfo := ho w.drew rfl
  have hl := S.hlen w
  rcases notInt_run hu with ⟨d, hd⟩ | hd
  all_goals
    simp [Builtin.append_, run_underlying ht, run_underlying hd, sizeOf, typeInfo, zeroValue, hi, hz, hl, hn, h63', h48', Question.forced, hf, hfo, newRow, grownCap]
    congr 2
    apply Array.ext'
    simp [List.append_assoc]
theorem grown_new {h h1 : Heap} {w : World} {e need : Nat} {el : TypeId} {z : Value} {OC NC : List AV} {olds news : List Value} {b : Blk} {cap : Nat} (R : HRel ι h w) (R1 : HRel ι h1 w) (hsub : ∀ id c, h1.get id = some c → h.get id = some c) (hnext : h1.next = h.next) (hn : ι h.next = none)
    (wf : b.Wf) (hb : b.cells = OC ++ NC) (co : CR ι OC olds) (cn : CR ι NC news) (hlen : (OC ++ NC).length = need * esz e) (hcap : need ≤ cap) (hz : z.cells.size = esz e) :
    ∃ ι', VR ι' (.slice h.next 0 0 need e none) (.slice (some ⟨w.heap.size, 0, none⟩) need cap) ∧ HRel ι' (h1.new b) (w.drew.alloc (.cells (olds.toArray ++ news.toArray ++ Builtin.zeroCells z.cells (cap - need)) el)) ∧
      Step ι h w ι' (h1.new b) (w.drew.alloc (.cells (olds.toArray ++ news.toArray ++ Builtin.zeroCells z.cells (cap - need)) el)) ∧ ∀ id, id ≠ h.next → ι' id = ι id := by
  have hon : olds.length + news.length = need * esz e := by rw [← co.1, ← cn.1, ← List.length_append]; exact hlen
  have harr : (olds.toArray ++ news.toArray ++ Builtin.zeroCells z.cells (cap - need)).size = cap * esz e := by
    simp only [Array.size_append, List.size_toArray, size_zeroCells, hz]
    rw [hon, ← Nat.add_mul]; congr 1; omega
  have hbl : b.cells.length = need * esz e := by rw [hb, hlen]
  have hle : need * esz e ≤ cap * esz e := Nat.mul_le_mul_right _ hcap
  have hget : ∀ id, (h1.new b).get id = if id = h.next then some ⟨h.next, false, b⟩ else h1.get id := fun id => by
    have := get_new (h := h1) (id := id) (b := b) (R1.dom (by rw [hnext]; exact hn))
    rw [hnext] at this
    exact this
  obtain ⟨r1, r2⟩ := R1.fresh (w' := w.drew.alloc (.cells (olds.toArray ++ news.toArray ++ Builtin.zeroCells z.cells (cap - need)) el)) (fz := (0,0)) hn hget wf rfl rfl rfl rfl (by rw [hbl, harr]; exact hle) (by rw [hbl, harr]; omega) (fun i v hi => by
    rw [hb] at hi
    obtain ⟨x, hx, hs⟩ := (CR_append co cn).2 i v hi
    refine ⟨x, ?_, hs⟩
    have hil : i < (olds ++ news).length := (List.getElem?_eq_some_iff.1 hx).1
    rw [Array.getElem?_append_left (by simpa using hil)]
    simpa using hx) (fun o _ => by simp)
  refine ⟨_, ⟨_, _, _, Inj.upd_same _ _ _, rfl, ⟨hcap, .inr (by simp), fun m hm => (by cases hm), by simp [hbl], .inr (by simp only [Nat.zero_add]; rw [harr]; exact Nat.le_refl _)⟩⟩, r1, (Step.sub hsub).trans r2, fun id hid => Inj.upd_ne _ _ hid⟩
theorem append_core {h : Heap} {w : World} {ty t u el : TypeId} {i : TypeInfo} {z : Value} {id o j len e n : Nat} {cap : Option Nat} {vs vx : Value} {OC NC : List AV} {news : List Value} {b : Blk} {c : Cell}
    (R : HRel ι h w) (hn : ι h.next = none) (hs : VR ι (.slice id o j len e cap) vs) (ht : P.underlying t = some (.slice el)) (hi : P.info? el = some i) (hz : i.zero = some z) (hsz : i.size = esz e) (hzs : z.cells.size = esz e) (hu : notInt P u = true)
    (S : Src P w i.size n vx news) (cn : CR ι NC news) (hg : h.get id = some c) (hoc : OC.length = len * esz e) (hov : ∀ i, i < len * esz e → OC[i]? = c.blk.cells[o + j * esz e + i]?) (wf : b.Wf) (hb : b.cells = OC ++ NC)
    (hbig : (len + n) * i.bytes ≤ 2 ^ 47) (hbp : 0 < i.bytes) (hni : ∀ s pos, c.blk ≠ .iter s pos) (hcase : cap = none ∧ c.ro = false ∨ ∃ m, cap = some m ∧ m < len + n) :
    ∃ y w', (Builtin.append_ #[t, u] ty #[vs, vx]).run P w = .ok y w' ∧ WEff ι h w (.slice h.next 0 0 (len + n) e none) ((match cap with | none => h.del id | some _ => h).new b) (.value y) w' := by
  obtain ⟨p, a, cc, hp, rfl, SL⟩ := hs.slice
  have hcn : NC.length = n * esz e := by rw [cn.1, S.hsize, hsz]
  have hneed : (OC ++ NC).length = (len + n) * esz e := by rw [List.length_append, hoc, hcn, Nat.add_mul]
  obtain ⟨olds, hload, co, hcell⟩ := R.load (P := P) (q := o + j * esz e) hg hp hoc hov hni
  have hol : olds.length = len * esz e := by rw [← co.1, hoc]
  have h63 : ((len + n : Nat) : Int) ≤ 9223372036854775807 := by
    have : (len + n) * 1 ≤ (len + n) * i.bytes := Nat.mul_le_mul_left _ hbp
    omega
  have ha : len = 0 ∨ a = some ⟨p.blk, p.base + (o + j * esz e), none⟩ := by
    rcases SL.addr with h0 | h0
    · left; have := SL.le; omega
    · exact .inr h0
  have hfirst : ∀ w', w'.heap = w.heap → (Builtin.firstCells i.size len (.slice a len cc)).run P w' = .ok olds.toArray w' := by
    intro w' hw'
    rcases ha with h0 | h0
    · subst h0
      have : olds = [] := List.eq_nil_of_length_eq_zero (by simpa using hol)
      subst this
      cases a with
      | none => simp [Builtin.firstCells]
      | some a => simp [Builtin.firstCells, loadCells, loadCellsFrom]
    · subst h0
      exact run_firstCells_some w' i.size len _ len cc olds (by rw [hol, hsz]) (fun j v hj => by
        have := hcell j v hj
        rw [← this]
        exact World.cell?_of_block (by rw [hw']))
  by_cases hroom : len + n ≤ cc
  ·
    obtain ⟨hcap, hro⟩ : cap = none ∧ c.ro = false := by
      rcases hcase with h0 | ⟨m, h0, h1⟩
      · exact h0
      · have := (SL.exact m h0).1; omega
    subst hcap
    have hrun := run_append_room' (ty := ty) (base := a) w ht hi hu S hroom
    obtain ⟨p', hp', wf0, hs0, h0, h1⟩ := R.blk id c hg
    rw [hp] at hp'; cases hp'
    have hget : ∀ k, ((h.del id).new b).get k = if k = h.next then some ⟨h.next, false, b⟩ else if k = id then none else h.get k := fun k => by
      have hd : (h.del id).get (h.del id).next = none := by
        rw [get_del]; split
        · rfl
        · exact R.dom hn
      have := get_new (h := h.del id) (id := k) (b := b) hd
      rw [get_del] at this
      exact this
    have hsub : ∀ k d, (h.del id).get k = some d → h.get k = some d := fun k d hd => by
      rw [get_del] at hd; split at hd
      · cases hd
      · exact hd
    have nothing : cc = 0 → ∃ y w', (Builtin.append_ #[t, u] ty #[.slice a len cc, vx]).run P w = .ok y w' ∧ WEff ι h w (.slice h.next 0 0 (len + n) e none) ((h.del id).new b) (.value y) w' := by
      intro hc0
      have hl0 : len = 0 := by omega
      have hn0 : n = 0 := by omega
      subst hl0 hn0
      have hnews : news = [] := List.eq_nil_of_length_eq_zero (by simpa using S.hsize)
      have hnc : NC = [] := List.eq_nil_of_length_eq_zero (by simpa using hcn)
      have hocn : OC = [] := List.eq_nil_of_length_eq_zero (by simpa using hoc)
      obtain ⟨r1, r2⟩ := (R.sub hsub).void (h' := (h.del id).new b) (nid := h.next) (b := b) hn (fun k => by rw [hget, get_del]) wf (by rw [hb, hocn, hnc]; rfl)
      refine ⟨.slice a 0 cc, w, ?_, ⟨_, .inl ⟨_, rfl, ⟨_, _, _, Inj.upd_same _ _ _, rfl, ⟨by omega, .inl hc0, fun m hm => (by cases hm), by simp, .inl hc0⟩⟩⟩, r1, (Step.sub hsub).trans r2, .inr ⟨rfl, fun k hk => Inj.upd_ne _ _ hk⟩⟩⟩
      rw [hrun, hnews]
      cases a <;> simp [storeCells]
    by_cases hlim : p.lim = 0
    · refine nothing ?_
      rcases SL.most with h2 | h2
      · exact h2
      · have he : 0 < esz e := by unfold esz; split <;> omega
        rcases Nat.eq_zero_or_pos cc with h3 | h3
        · exact h3
        · have h4 := Nat.mul_le_mul_right (esz e) (show 1 ≤ j + cc by omega)
          omega
    · obtain ⟨arr, el0, fz, hrow, z1, z2, z3, z4⟩ := (rowOf (h1 hlim) hni).row
      have hlim2 : cc = 0 ∨ p.base + (o + (j + cc) * esz e) ≤ p.lim := SL.most
      by_cases hc0 : cc = 0
      · exact nothing hc0
      · have hm := hlim2.resolve_left hc0
        have ha' : a = some ⟨p.blk, p.base + (o + j * esz e), none⟩ := SL.addr.resolve_left hc0
        subst ha'
        have hle : p.base + (o + j * esz e) + len * esz e + news.length ≤ arr.size := by
          rw [S.hsize, hsz, z1]
          have := Nat.mul_le_mul_right (esz e) (show j + len + n ≤ j + cc by omega)
          rw [Nat.add_mul, Nat.add_mul] at this
          omega
        have hst := run_storeRow (P := P) p.blk (p.base + (o + j * esz e) + len * esz e) el0 fz news 0 arr w hrow (by omega) cn.one (fun k hk => z4 hro k (by omega))
        simp only [Nat.add_zero] at hst
        have hsize : (arr.toList.take (p.base + (o + j * esz e) + len * esz e) ++ news ++ arr.toList.drop (p.base + (o + j * esz e) + len * esz e + news.length)).toArray.size = arr.size := by simp; omega
        obtain ⟨r1, r2⟩ := R.rename (h' := (h.del id).new b) (w' := w.setRow p.blk (arr.toList.take (p.base + (o + j * esz e) + len * esz e) ++ news ++ arr.toList.drop (p.base + (o + j * esz e) + len * esz e + news.length)).toArray)
          (nid := h.next) (q := ⟨p.blk, p.base + (o + j * esz e), (len + n) * esz e, p.lim⟩) (b := b) hg hro hp hn rfl rfl rfl rfl rfl (by simp) (fun k hk => setRow_other _ _ _ _ (hk.resolve_left hlim)) hget wf (by rw [hb, hneed]) (fun h2 => absurd h2 hlim) (fun _ =>
            ⟨_, el0, fz, setRow_heap _ _ _ _ _ _ hrow, hsize.trans z1, (by
              simp only
              have := Nat.mul_le_mul_right (esz e) (show j + (len + n) ≤ j + cc by omega)
              rw [Nat.add_mul] at this
              omega), (fun k v hk => by
                rw [hb] at hk
                obtain ⟨x, hx, hsr⟩ := (CR_append co cn).2 k v hk
                refine ⟨x, ?_, hsr.mono (Inj.le_upd hn)⟩
                have hspl := spl_get arr.toList news (p.base + (o + j * esz e) + len * esz e) (by simp; omega) (p.base + (o + j * esz e) + k)
                simp only [List.getElem?_toArray]
                rw [hspl]
                by_cases hk2 : k < len * esz e
                · rw [if_neg (by omega)]
                  rw [List.getElem?_append_left (by omega)] at hx
                  have hc2 := hcell k x hx
                  rw [addr_add] at hc2
                  simp [World.cell?, hrow] at hc2
                  simpa using hc2
                · have hkl : k < (OC ++ NC).length := (List.getElem?_eq_some_iff.1 hk).1
                  rw [if_pos ⟨by omega, by rw [S.hsize, hsz]; rw [hneed, Nat.add_mul] at hkl; omega⟩]
                  rw [List.getElem?_append_right (by omega)] at hx
                  rw [← hx]; congr 1; omega), fun _ => z4 hro⟩)
        refine ⟨_, _, ?_, ⟨_, .inl ⟨_, rfl, ⟨_, some ⟨p.blk, p.base + (o + j * esz e), none⟩, cc, Inj.upd_same _ _ _, rfl, ⟨hroom, .inr (by simp), fun m hm => (by cases hm), by simp, .inr ?_⟩⟩⟩, r1, r2, .inr ⟨rfl, fun k hk => Inj.upd_ne _ _ hk⟩⟩⟩
        · rw [hrun]
          simp only [addr_add, hsz, hst, Result.andThen_ok]
        · simp only [Nat.zero_add]
          rw [Nat.add_mul] at hm
          omega
  ·
    have hg2 : cc < len + n := by omega
    have hrun := run_append_grow' (ty := ty) (z := z) w ht hi hz hu S hfirst hg2 h63 (growslice_fits hg2 (by omega))
    cases cap with
    | none =>
      have hsub : ∀ k d, (h.del id).get k = some d → h.get k = some d := fun k d hd => by
        rw [get_del] at hd; split at hd
        · cases hd
        · exact hd
      obtain ⟨ι', q1, q2, q3, q4⟩ := grown_new (el := el) (e := e) R (R.sub hsub) hsub rfl hn wf hb co cn hneed (grownCap_ge w (len + n) cc el) hzs
      exact ⟨_, _, hrun, ⟨ι', .inl ⟨_, rfl, q1⟩, q2, q3, .inr ⟨rfl, q4⟩⟩⟩
    | some m =>
      obtain ⟨ι', q1, q2, q3, q4⟩ := grown_new (el := el) (e := e) R R (fun _ _ h => h) rfl hn wf hb co cn hneed (grownCap_ge w (len + n) cc el) hzs
      exact ⟨_, _, hrun, ⟨ι', .inl ⟨_, rfl, q1⟩, q2, q3, .inr ⟨rfl, q4⟩⟩⟩
end
def elOk (P : Program) (t : TypeId) (z bytes : Nat) : Bool :=
  match P.underlying t with
  | some (.slice el) => szOf P el == some z && (P.info? el).map (·.bytes) == some bytes && decide (0 < bytes) && (match (P.info? el).bind (·.zero) with | some v => v.cells.size == z | none => false)
  | _ => false
def lowW (P : Program) (o : Oper) (ao : AOp) : Bool :=
  match o.op, ao with
  | .store t x v, .store n x' v' => szOf P t == some n && lowOpd x x' && lowOpd v v'
  | .call { callee := .builtin .append, args, argTypes }, .appendI _ bytes s' x' =>
    (match args.toList, argTypes.toList with | [s, x], [t, u] => lowOpd s s' && lowOpd x x' && elOk P t 1 bytes && notInt P u | _, _ => false)
  | .call { callee := .builtin .append, args, argTypes }, .appendR e bytes s' x' =>
    (match args.toList, argTypes.toList with | [s, x], [t, u] => lowOpd s s' && lowOpd x x' && elOk P t e bytes && notInt P u | _, _ => false)
  | .next it true, .nextS x' => lowOpd it x'
  | .call { callee := .builtin .copy, args, argTypes }, .copyI d' s' =>
    (match args.toList, argTypes.toList with | [d, s], [t, _] => lowOpd d d' && lowOpd s s' && uSlice P t 1 | _, _ => false)
  | _, _ => false
theorem elOk_some {P : Program} {t : TypeId} {z bytes : Nat} (h : elOk P t z bytes = true) : ∃ el i zv, P.underlying t = some (.slice el) ∧ P.info? el = some i ∧ i.size = z ∧ i.bytes = bytes ∧ 0 < bytes ∧ i.zero = some zv ∧ zv.cells.size = z := by
  unfold elOk at h
  split at h <;> try (cases h; done)
  rename_i el hu
  simp only [Bool.and_eq_true, beq_iff_eq, decide_eq_true_eq] at h
  obtain ⟨⟨⟨hsz, hby⟩, hpos⟩, hz⟩ := h
  obtain ⟨i, hi, his⟩ := szOf_some hsz
  cases hzv : i.zero with
  | none => simp [hi, hzv] at hz
  | some zv => exact ⟨el, i, zv, hu, hi, his, by simpa [hi] using hby, hpos, hzv, by simpa [hi, hzv] using hz⟩
section
variable {β : Type} {P : Program} {ι : Inj} {t : List AV} {ρ : Operand → Value}
theorem first_slice {w : World} {size n : Nat} {a : Option Addr} {c : Nat} {vs : List Value} (hl : vs.length = n * size) (hc : ∀ b : Addr, (n = 0 ∨ a = some b) → ∀ (i : Nat) v, vs[i]? = some v → w.cell? (b.add i) = some v) (h0 : a = none → n = 0) (m len : Nat) (hm : m ≤ n) :
    ∀ w', w'.heap = w.heap → (Builtin.firstCells size m (.slice a len c)).run P w' = .ok (vs.take (m * size)).toArray w' := by
  intro w' hw
  cases a with
  | none =>
    have : n = 0 := h0 rfl
    subst this
    have : m = 0 := by omega
    subst this
    simp [Builtin.firstCells]
  | some b =>
    refine run_firstCells_some w' size m b len c _ (by simp; rw [Nat.min_eq_left]; rw [hl]; exact Nat.mul_le_mul_right _ hm) fun i v hi => ?_
    rw [List.getElem?_take] at hi
    split at hi
    · rw [← hc b (.inr rfl) i v hi]
      exact World.cell?_of_block (by rw [hw])
    · cases hi
theorem loadCells_zero (b : Addr) (w : World) : (loadCells b 0).run P w = .ok #[] w := run_loadCells_list (P := P) w b [] (fun i v hi => by simp at hi)
theorem srcI_sound {k : IntKind} {h : Heap} {w : World} {x : AV} {vx : Value} {n : Nat} {ys : List Int} (R : HRel ι h w) (hx : VR ι x vx) (hk : srcI k h x = some (n, ys)) :
    ys.length = n ∧ (∀ w, (Builtin.lenOf vx).run P w = .ok n w) ∧ (∀ m, m ≤ n → ∀ w', w'.heap = w.heap → (Builtin.firstCells 1 m vx).run P w' = .ok ((ys.take m).map (Value.int k)).toArray w') ∧ ∀ y ∈ ys, rng k y := by
  unfold srcI at hk
  cases x <;> simp only at hk <;> try (cases hk; done)
  · rename_i s
    split at hk <;> try (cases hk; done)
    rename_i hk8
    subst hk8
    simp only [Option.some.injEq, Prod.mk.injEq] at hk
    obtain ⟨rfl, rfl⟩ := hk
    rw [hx.str]
    have hsz : s.size = s.data.size := rfl
    refine ⟨by simp only [bytesOf, List.length_map]; rfl, fun w => by simp [Builtin.lenOf], fun m hm w' _ => ?_, rng_bytes s⟩
    simp only [Builtin.firstCells, Sem.run_pure]
    congr 1
    apply Array.ext'
    simp [bytesOf, ByteArray.data_extract, List.map_take, Function.comp_def]
  · simp only [Option.some.injEq, Prod.mk.injEq] at hk
    obtain ⟨rfl, rfl⟩ := hk
    rw [hx.nils]
    refine ⟨rfl, fun w => by simp [Builtin.lenOf], fun m hm w' _ => ?_, fun y hy => by simp at hy⟩
    simp [Builtin.firstCells]
  · rename_i id o j len e cap
    split at hk <;> try (cases hk; done)
    rename_i k' xs hc
    split at hk <;> try (cases hk; done)
    rename_i hkk
    subst hkk
    simp only [Option.some.injEq, Prod.mk.injEq] at hk
    obtain ⟨rfl, rfl⟩ := hk
    obtain ⟨he, hlen, p, a, c, hp, rfl, S, hcell, hrg⟩ := slCont_ints R hx hc
    refine ⟨hlen, fun w => by simp [Builtin.lenOf], fun m hm w' hw => ?_, hrg⟩
    have := first_slice (P := P) (w := w) (size := 1) (n := len) (a := a) (c := c) (vs := xs.map (Value.int k')) (by simp [hlen]) (fun b hb i v hi => by
      rw [List.getElem?_map] at hi
      cases hxi : xs[i]? with
      | none => rw [hxi] at hi; cases hi
      | some n => rw [hxi] at hi; cases hi; exact hcell b hb i n hxi) (fun h0 => by
        rcases S.addr with h1 | h1
        · have := S.le; omega
        · rw [h0] at h1; cases h1) m len hm w' hw
    rw [this, Nat.mul_one, List.map_take]
  · rename_i k' xs
    split at hk <;> try (cases hk; done)
    rename_i hkk
    subst hkk
    simp only [Option.some.injEq, Prod.mk.injEq] at hk
    obtain ⟨rfl, rfl⟩ := hk
    obtain ⟨a, c, rfl, hle, hcell, hr⟩ := isl_cells R hx
    refine ⟨rfl, fun w => by simp [Builtin.lenOf], fun m hm w' hw => ?_, hr⟩
    have := first_slice (P := P) (w := w) (size := 1) (n := xs.length) (a := a) (c := c) (vs := xs.map (Value.int k')) (by simp) (fun b hb i v hi => by
      rw [List.getElem?_map] at hi
      cases hxi : xs[i]? with
      | none => rw [hxi] at hi; cases hi
      | some n =>
        rw [hxi] at hi; cases hi
        obtain ⟨b', e, hc⟩ := hcell (fun e => by rw [e] at hxi; cases hxi)
        rcases hb with h0 | h0
        · have := (List.getElem?_eq_some_iff.1 hxi).1; omega
        · rw [h0] at e; cases e; exact hc i n hxi) (fun h0 => by
        rcases Nat.eq_zero_or_pos xs.length with h1 | h1
        · exact h1
        · obtain ⟨b', e, _⟩ := hcell (fun e => by rw [e] at h1; simp at h1)
          rw [h0] at e; cases e) m xs.length hm w' hw
    rw [this, Nat.mul_one, List.map_take]
  · simp only [Option.some.injEq, Prod.mk.injEq] at hk
    obtain ⟨rfl, rfl⟩ := hk
    obtain ⟨a, rfl⟩ := hx.emp
    refine ⟨rfl, fun w => by simp [Builtin.lenOf], fun m hm w' _ => ?_, fun y hy => by simp at hy⟩
    have : m = 0 := by omega
    subst this
    cases a <;> simp [Builtin.firstCells, loadCells_zero]
  · simp only [Option.some.injEq, Prod.mk.injEq] at hk
    obtain ⟨rfl, rfl⟩ := hk
    obtain ⟨b, c, rfl⟩ := hx.nne
    refine ⟨rfl, fun w => by simp [Builtin.lenOf], fun m hm w' _ => ?_, fun y hy => by simp at hy⟩
    have : m = 0 := by omega
    subst this
    simp [Builtin.firstCells, loadCells_zero]
theorem Src_ints {k : IntKind} {h : Heap} {w : World} {x : AV} {vx : Value} {n : Nat} {ys : List Int} (R : HRel ι h w) (hx : VR ι x vx) (hk : srcI k h x = some (n, ys)) : Src P w 1 n vx (ys.map (Value.int k)) := by
  obtain ⟨h1, h2, h3, _⟩ := srcI_sound (P := P) R hx hk
  refine ⟨h2, by simp [h1], fun w' hw => ?_⟩
  have := h3 n (Nat.le_refl _) w' hw
  rwa [List.take_of_length_le (by omega)] at this
theorem append_nils {a : Option Addr} {h : Heap} {w : World} {ty t u el : TypeId} {i : TypeInfo} {z : Value} {e n : Nat} {vx : Value} {NC : List AV} {news : List Value} {b : Blk}
    (R : HRel ι h w) (hn : ι h.next = none) (ht : P.underlying t = some (.slice el)) (hi : P.info? el = some i) (hz : i.zero = some z) (hsz : i.size = esz e) (hzs : z.cells.size = esz e) (hu : notInt P u = true)
    (S : Src P w i.size n vx news) (cn : CR ι NC news) (wf : b.Wf) (hb : b.cells = NC) (hbig : n * i.bytes ≤ 2 ^ 47) (hbp : 0 < i.bytes) :
    ∃ y w', (Builtin.append_ #[t, u] ty #[.slice a 0 0, vx]).run P w = .ok y w' ∧ WEff ι h w (.slice h.next 0 0 n e none) (h.new b) (.value y) w' := by
  have hcn : NC.length = n * esz e := by rw [cn.1, S.hsize, hsz]
  have hget : ∀ k, (h.new b).get k = if k = h.next then some ⟨h.next, false, b⟩ else h.get k := fun k => get_new (R.dom hn)
  by_cases h0 : n = 0
  · subst h0
    obtain ⟨r1, r2⟩ := R.void hn hget wf (by rw [hb, hcn]; simp)
    refine ⟨.slice a 0 0, w, ?_, ⟨_, .inl ⟨_, rfl, ⟨_, _, _, Inj.upd_same _ _ _, rfl, ⟨Nat.le_refl _, .inl rfl, fun m hm => (by cases hm), by simp, .inl rfl⟩⟩⟩, r1, r2, .inr ⟨rfl, fun k hk => Inj.upd_ne _ _ hk⟩⟩⟩
    have hnews : news = [] := List.eq_nil_of_length_eq_zero (by rw [S.hsize]; simp)
    rw [run_append_room' w ht hi hu S (by omega), hnews]
    cases a <;> simp [storeCells]
  · have h63 : ((0 + n : Nat) : Int) ≤ 9223372036854775807 := by
      have : n * 1 ≤ n * i.bytes := Nat.mul_le_mul_left _ hbp
      omega
    have hrun := run_append_grow' (ty := ty) (z := z) (base := a) (sLen := 0) (sCap := 0) (olds := []) w ht hi hz hu S (fun w' _ => by cases a <;> simp [Builtin.firstCells, loadCells_zero]) (by omega) h63 (growslice_fits (by omega) (by rw [Nat.zero_add]; omega))
    obtain ⟨ι', q1, q2, q3, q4⟩ := grown_new (el := el) (e := e) (OC := []) (olds := []) (NC := NC) (need := 0 + n) R R (fun _ _ h => h) rfl hn wf (by rw [hb]; rfl) CR_nil cn (by rw [List.nil_append, hcn]; simp) (grownCap_ge w (0 + n) 0 el) hzs
    simp only [Nat.zero_add] at q1 q2 q3 hrun
    exact ⟨_, _, hrun, ⟨ι', .inl ⟨_, rfl, q1⟩, q2, q3, .inr ⟨rfl, q4⟩⟩⟩
theorem repSeg_splice {k : IntKind} {m : Nat} {zs ys : List Int} {l l' : List AV} {o j : Nat} (wf : SegsWf l) (hs : segAt l o = some (.ints k m zs)) (hj : j + ys.length ≤ m) (h : repSeg l o (.ints k m (splice zs j ys)) = some l') :
    SegsWf l' ∧ PutL (cellsL l) (cellsL l') (o + j) (ys.map (.int k)) := by
  obtain ⟨a, s2, b, e1, e2, hl, hat⟩ := repSeg_split wf h
  rw [hs] at hat
  cases hat
  have w0 := wf
  rw [e1, segsWf_append, segsWf_cons] at w0
  have hz : zs.length = m := w0.2.1
  have hspl : (splice zs j ys).length = m := by simp [splice]; omega
  have wf' : SegsWf l' := by rw [e2]; exact segsWf_append.2 ⟨w0.1, segsWf_cons.2 ⟨hspl, w0.2.2⟩⟩
  have c1 : cellsL l = cellsL a ++ zs.map (.int k) ++ cellsL b := by rw [e1, cellsL_append, cellsL_cons]; simp [segC]
  have c2 : cellsL l' = cellsL a ++ (splice zs j ys).map (.int k) ++ cellsL b := by rw [e2, cellsL_append, cellsL_cons]; simp [segC]
  have sg : ∀ i, (splice zs j ys)[i]? = if j ≤ i ∧ i < j + ys.length then ys[i - j]? else zs[i]? := fun i => spl_get zs ys j (by omega) i
  have mid : ∀ i, (cellsL l')[i]? = if (cellsL a).length ≤ i ∧ i < (cellsL a).length + m then ((splice zs j ys).map (AV.int k))[i - (cellsL a).length]? else (cellsL l)[i]? := by
    intro i
    rw [c1, c2]
    by_cases h1 : i < (cellsL a).length
    · rw [if_neg (by omega), List.append_assoc, List.append_assoc, List.getElem?_append_left h1, List.getElem?_append_left h1]
    · by_cases h2 : i < (cellsL a).length + m
      · rw [if_pos ⟨by omega, h2⟩, List.append_assoc, List.getElem?_append_right (by omega), List.getElem?_append_left (by simp [hspl]; omega)]
      · rw [if_neg (by omega), List.getElem?_append_right (by simp [hspl]; omega), List.getElem?_append_right (by simp [hz]; omega)]
        simp [hspl, hz]
  refine ⟨wf', ⟨by rw [c1, c2]; simp [hspl, hz], by rw [c1]; simp [hz]; omega, fun i hi => ?_, fun i hi => ?_⟩⟩
  · rw [mid, if_pos (by simp at hi; omega), List.getElem?_map, sg, if_pos (by simp at hi; omega), List.getElem?_map]
    congr 2; omega
  · rw [mid]
    split
    · rename_i hc
      rw [List.getElem?_map, sg, if_neg (by simp at hi; omega)]
      rw [c1, List.append_assoc, List.getElem?_append_right hc.1, List.getElem?_append_left (by simp [hz]; omega), List.getElem?_map]
    · rfl
theorem copyIK_sound {h : Heap} {w : World} {d s : AV} {vd vs : Value} {κ : AV → Heap → Option β} {r : β} {ty t u : TypeId} (R : HRel ι h w) (hd : VR ι d vd) (hs : VR ι s vs) (ht : uSlice P t 1 = true) (hk : copyIK h d s κ = some r) :
    ∃ v h' y w', κ v h' = some r ∧ (Builtin.copy_ #[t, u] ty #[vd, vs]).run P w = .ok y w' ∧ WEff ι h w v h' (.value y) w' := by
  obtain ⟨el, inf, hu, hinf, his⟩ := uSlice_some ht
  unfold copyIK at hk
  split at hk <;> try (cases hk; done)
  rename_i id o j len cap
  split at hk <;> try (cases hk; done)
  rename_i cid l hg
  split at hk <;> try (cases hk; done)
  rename_i k m zs hsg
  split at hk <;> try (cases hk; done)
  rename_i n ys hsrc
  split at hk <;> try (cases hk; done)
  rename_i hjl
  obtain ⟨p, a, c, hp, rfl, S⟩ := hd.slice
  obtain ⟨q1, q2, q3, q4⟩ := srcI_sound (P := P) R hs hsrc
  cases hrep : repSeg l o (.ints k m (splice zs j (ys.take (min n len)))) with
  | none => rw [hrep] at hk; cases hk
  | some l' =>
    rw [hrep] at hk
    obtain ⟨_, _, wf, _⟩ := R.blk id _ hg
    have hyl : (ys.take (min n len)).length = min n len := by simp; omega
    obtain ⟨w1, pl⟩ := repSeg_splice wf hsg (by omega) hrep
    have hfirst := q3 (min n len) (Nat.min_le_left _ _) w rfl
    have hcr : CR ι ((ys.take (min n len)).map (AV.int k)) ((ys.take (min n len)).map (Value.int k)) := CR_ints k _ fun y hy => q4 y (List.mem_of_mem_take hy)
    by_cases hc0 : c = 0
    · have hl0 : len = 0 := by have := S.le; omega
      subst hl0
      have hy0 : ys.take (min n 0) = [] := by simp
      rw [hy0] at pl hfirst
      have hcells : (Blk.segs l').cells = (Blk.segs l).cells := by
        apply List.ext_getElem?
        intro i
        exact pl.out i (by simp; omega)
      obtain ⟨r1, r2⟩ := R.same (h' := h.set id (.segs l')) hg (get_set' hg) w1 hcells (by intros; simp)
      refine ⟨_, _, goInt (min n 0 : Nat), w, hk, ?_, ⟨ι, .inl ⟨_, rfl, rfl, rng_signed rfl _⟩, r1, r2, .inl ⟨rfl, rfl⟩⟩⟩
      cases a <;> simp [Builtin.copy_, run_underlying hu, q2, sizeOf, typeInfo, hinf, his, Nat.min_def] at hfirst ⊢ <;> simp [hfirst, storeCells]
    · have ha := S.addr.resolve_left hc0
      subst ha
      obtain ⟨w', h1, h2, h3⟩ := R.put (P := P) (q := o + j) hg rfl hp (b := .segs l') w1 hcr pl.len pl.fits pl.inn pl.out (by intros; simp)
      refine ⟨_, _, goInt (min n len : Nat), w', hk, ?_, ⟨ι, .inl ⟨_, rfl, rfl, rng_signed rfl _⟩, h2, h3, .inl ⟨rfl, rfl⟩⟩⟩
      have hesz : j * esz 0 = j := by simp [esz]
      have hmin : Nat.min n len = min n len := rfl
      rw [List.map_take] at h1 hfirst
      simp [Builtin.copy_, run_underlying hu, q2, sizeOf, typeInfo, hinf, his, hesz, hmin, hfirst, h1]
theorem HRel.setIter {h : Heap} {w : World} {id : Nat} {c : Cell} {p : Place} {s : ByteArray} {pos pos' : Nat} (R : HRel ι h w) (hg : h.get id = some c) (hb : c.blk = .iter s pos) (hro : c.ro = false) (hp : ι id = some p) (hl : p.lim ≠ 0) (hh : w.heap[p.blk]? = some (.stringIter s pos)) :
    HRel ι (h.set id (.iter s pos')) { w with heap := w.heap.setIfInBounds p.blk (.stringIter s pos') } ∧ Step ι h w ι (h.set id (.iter s pos')) { w with heap := w.heap.setIfInBounds p.blk (.stringIter s pos') } := by
  have hget := get_set' (b := .iter s pos') hg
  have hlt : p.blk < w.heap.size := (Array.getElem?_eq_some_iff.1 hh).1
  have hother : ∀ k, k ≠ p.blk → (w.heap.setIfInBounds p.blk (.stringIter s pos'))[k]? = w.heap[k]? := fun k hk => by rw [Array.getElem?_setIfInBounds, if_neg (Ne.symm hk)]
  have hap : ∀ id2 c2 p2, h.get id2 = some c2 → id2 ≠ id → ι id2 = some p2 → p2.lim ≠ 0 → p2.blk ≠ p.blk := fun id2 c2 p2 g2 hne h2 l2 => Ne.symm (R.disj id c p id2 c2 p2 hg g2 (Ne.symm hne) hro hp h2 hl l2)
  have hfz : ∀ k f, ι.fz k = some f → k ≠ p.blk := fun k f hk => Ne.symm ((R.fz k f hk).2 id c p hg hro hp hl)
  have pull : ∀ i d, (h.set id (.iter s pos')).get i = some d → ∃ d', h.get i = some d' ∧ d'.ro = d.ro := by
    intro i d hd
    rw [hget] at hd
    split at hd
    · rename_i e; subst e; cases hd; exact ⟨c, hg, rfl⟩
    · exact ⟨d, hd, rfl⟩
  refine ⟨⟨fun i d hd => ?_, fun k f hk => ⟨(R.fz k f hk).1.world (.refl _) (hother k (hfz k f hk)), fun i d q hd hro2 => ?_⟩, fun i1 c1 p1 i2 c2 p2 g1 g2 hne hro1 => ?_⟩, ⟨.refl _, rfl, rfl, rfl, by simp, fun k hk hn => hother k fun e => hn ⟨id, c, p, hg, hro, hp, hl, e.symm⟩, ?_, fun _ _ h => .inl h⟩⟩
  · rw [hget] at hd
    split at hd
    · rename_i e
      subst e
      cases hd
      obtain ⟨q, hq, _, hs, h0, h1⟩ := R.blk i c hg
      rw [hp] at hq; cases hq
      rw [hb] at hs h1
      obtain ⟨hb0, _⟩ := (h1 hl).resolve_left fun hr => by
        obtain ⟨arr, el, fz, g1, _⟩ := hr.row
        rw [hh] at g1; cases g1
      exact ⟨p, hp, trivial, hs, h0, fun _ => .inr ⟨hb0, by simp [hlt]⟩⟩
    · rename_i hne
      exact (R.blk i d hd).world (.refl _) fun q hq hql => hother _ (hap i d q hd hne hq hql)
  · obtain ⟨d', e, r⟩ := pull _ _ hd
    exact (R.fz k f hk).2 i d' q e (r.trans hro2)
  · obtain ⟨d1, e1, r1⟩ := pull _ _ g1
    obtain ⟨d2, e2, r2⟩ := pull _ _ g2
    exact R.disj i1 d1 p1 i2 d2 p2 e1 e2 hne (r1.trans hro1)
  · rintro k ⟨i, d, q, hd, hro2, hq, hql, rfl⟩
    obtain ⟨d', e, r⟩ := pull _ _ hd
    exact .inl ⟨i, d', q, e, r.trans hro2, hq, hql, rfl⟩
theorem nextK_sound {h : Heap} {w : World} {x : AV} {vx : Value} {κ : AV → Heap → Option β} {r : β} {ty : TypeId} (R : HRel ι h w) (hx : VR ι x vx) (hk : nextK h x κ = some r) :
    ∃ v h' y w', κ v h' = some r ∧ (Instr.next vx true ty).run P w = .ok y w' ∧ WEff ι h w v h' (.value y) w' := by
  unfold nextK at hk
  split at hk <;> try (cases hk; done)
  rename_i id
  split at hk <;> try (cases hk; done)
  rename_i ci s pos hg
  obtain ⟨p, hp, rfl⟩ := hx.ptr
  obtain ⟨q, hq, _, hs, h0, h1⟩ := R.blk id _ hg
  rw [hp] at hq; cases hq
  have hl : p.lim ≠ 0 := fun e => by have := h0 e; rw [this] at hs; simp [Blk.cells] at hs
  obtain ⟨hb0, hh⟩ := (h1 hl).resolve_left fun hr => by
    obtain ⟨arr, el, fz, g1, g2, g3, g4, g5⟩ := hr.row
    obtain ⟨x, _, hx⟩ := g4 0 .undef rfl
    exact hx
  have hpt : p.base + (0 * 0 + 0 + 0) = 0 := by omega
  have hlt : p.blk < w.heap.size := (Array.getElem?_eq_some_iff.1 hh).1
  rw [hpt]
  split at hk
  · rename_i hlt2
    obtain ⟨r1, r2⟩ := R.setIter (pos' := pos + (Utf8.decode s pos).2) hg rfl rfl hp hl hh
    refine ⟨_, _, .tuple #[.bool true, .int .i64 pos, .int .i32 (Utf8.decode s pos).1], _, hk, ?_, ⟨ι, .inl ⟨_, rfl, _, rfl, rfl, fun i v hi => ?_⟩, r1, r2, .inl ⟨rfl, rfl⟩⟩⟩
    · simp only [Instr.next, getObj, setObj, Sem.run_bind, Sem.run, hh, Result.andThen, hlt2, if_true]
      simp [goInt, Sem.run, hh]
    · match i, hi with
      | 0, hi => cases hi; exact ⟨_, rfl, rfl⟩
      | 1, hi => cases hi; exact ⟨_, rfl, rfl, rng_signed rfl _⟩
      | 2, hi => cases hi; exact ⟨_, rfl, rfl, rng_signed rfl _⟩
      | n + 3, hi => simp at hi
  · rename_i hlt2
    refine ⟨_, _, .tuple #[.bool false], w, hk, ?_, ⟨ι, .inl ⟨_, rfl, _, rfl, rfl, fun i v hi => ?_⟩, R, .refl _ _ _, .inl ⟨rfl, rfl⟩⟩⟩
    · simp [Instr.next, getObj, Sem.run, hh, hlt2]
    · match i, hi with
      | 0, hi => cases hi; exact ⟨_, rfl, rfl⟩
      | n + 1, hi => simp at hi
end
section
variable {β : Type} {P : Program} {ι : Inj} {t : List AV} {ρ : Operand → Value}
theorem slCont_ni {h : Heap} {id o j len e : Nat} {cap : Option Nat} {c : Cell} {x : Cont} (hg : h.get id = some c) (hk : slCont h (.slice id o j len e cap) = some x) : ∀ s pos, c.blk ≠ .iter s pos := by
  rintro s pos e
  obtain ⟨ci, ro, b⟩ := c
  simp only at e
  subst e
  simp [slCont, hg] at hk
theorem slCont_absI {h : Heap} {w : World} {id o j len e : Nat} {cap : Option Nat} {k : IntKind} {xs : List Int} {vx : Value} {c : Cell} (R : HRel ι h w) (hx : VR ι (.slice id o j len e cap) vx) (hg : h.get id = some c) (hk : slCont h (.slice id o j len e cap) = some (.ints k xs)) :
    ∀ i, i < len → (xs.map (AV.int k))[i]? = c.blk.cells[o + j + i]? := by
  obtain ⟨p, a, cc, hp, rfl, S⟩ := hx.slice
  obtain ⟨p', hp', wf, hs, _⟩ := R.blk id _ hg
  rw [hp] at hp'; cases hp'
  have key : ∀ {ys : List Int} {m : Nat} {l : List AV}, c.blk = .segs l → segAt l o = some (.ints k m ys) → (j + len ≤ ys.length) → xs = (ys.drop j).take len → ∀ i, i < len → (xs.map (AV.int k))[i]? = c.blk.cells[o + j + i]? := by
    intro ys m l hb hs hle hxs i hi
    rw [hb] at wf ⊢
    obtain ⟨x1, x2, e1, hl⟩ := segAt_split wf hs
    show _ = (cellsL l)[o + j + i]?
    rw [e1, cellsL_append, cellsL_cons, List.getElem?_append_right (by omega), List.getElem?_append_left (by simp [segC]; omega), hxs]
    rw [show o + j + i - (cellsL x1).length = j + i by omega]
    simp [segC, List.getElem?_take, hi, List.getElem?_drop]
  simp only [slCont, hg] at hk
  split at hk
  · rename_i x1 x2 k' m ys heq
    cases heq
    split at hk
    · rename_i heo
      obtain ⟨rfl, rfl⟩ := heo
      simp only [Option.some.injEq, Cont.ints.injEq] at hk
      obtain ⟨rfl, rfl⟩ := hk
      have hle : j + len ≤ ys.length := by
        have := S.fits
        rw [← hs, cells_ints] at this
        simpa [esz] using this
      exact key (m := m) (l := [.ints k' m ys]) rfl (by simp [segAt]) hle rfl
    · cases hk
  · rename_i x1 x2 l hnot heq
    cases heq
    split at hk
    · split at hk <;> try (cases hk; done)
      rename_i k' m ys hs2
      split at hk
      · rename_i hle
        simp only [Option.some.injEq, Cont.ints.injEq] at hk
        obtain ⟨rfl, rfl⟩ := hk
        have hy : ys.length = m := by
          obtain ⟨z1, z2, e1, _⟩ := segAt_split wf hs2
          have wf' : SegsWf l := wf
          rw [e1] at wf'
          exact (segsWf_cons.1 (segsWf_append.1 wf').2).1
        exact key rfl hs2 (by omega) rfl
      · cases hk
    · cases hc : chop l (o + j * e) e len <;> rw [hc] at hk <;> cases hk
  · rename_i heq; cases heq; split at hk <;> cases hk
  · cases hk
  · rename_i heq; cases heq
theorem chop_abs {l : List AV} (wf : SegsWf l) {e : Nat} : ∀ {n o : Nat} {xs : List (List AV)}, chop l o e n = some xs → xs.length = n ∧ (∀ y ∈ xs, RowWf e y) ∧ ∀ i, i < n * e → (xs.flatMap cellsL)[i]? = (cellsL l)[o + i]?
  | 0, o, xs, h => by
    simp only [chop, Option.some.injEq] at h
    subst h
    exact ⟨rfl, fun y hy => by simp at hy, fun i hi => by simp at hi⟩
  | n + 1, o, xs, h => by
    simp only [chop] at h
    cases hc : cutSegs l o e with
    | none => rw [hc] at h; cases h
    | some s =>
      rw [hc] at h
      simp only [Option.bind_some] at h
      split at h <;> try (cases h; done)
      rename_i hns
      cases hr : chop l (o + e) e n with
      | none => rw [hr] at h; cases h
      | some ys =>
        rw [hr] at h
        simp only [Option.map_some, Option.some.injEq] at h
        subst h
        obtain ⟨w1, w2, w3⟩ := cutSegs_cells wf hc
        obtain ⟨h1, h2, h3⟩ := chop_abs wf hr
        refine ⟨by simp [h1], fun y hy => ?_, fun i hi => ?_⟩
        · rcases List.mem_cons.1 hy with rfl | hy
          · exact ⟨w1, w2, hns⟩
          · exact h2 y hy
        · rw [List.flatMap_cons]
          by_cases hie : i < e
          · rw [List.getElem?_append_left (by omega), w3 i hie]
          · rw [List.getElem?_append_right (by omega), w2, h3 (i - e) (by rw [Nat.add_mul] at hi; omega)]
            congr 1; omega
theorem flatMap_drop {e : Nat} : ∀ (j : Nat) (xs : List (List AV)), (∀ y ∈ xs, (cellsL y).length = e) → (xs.drop j).flatMap cellsL = (xs.flatMap cellsL).drop (j * e)
  | 0, xs, _ => by simp
  | j + 1, [], _ => by simp
  | j + 1, x :: xs, h => by
    have hx : (cellsL x).length = e := h x (by simp)
    have h0 : (cellsL x).drop (j * e + e) = [] := List.drop_eq_nil_of_le (by omega)
    have h1 : j * e + e - e = j * e := by omega
    rw [List.drop_succ_cons, flatMap_drop j xs (fun y hy => h y (by simp [hy])), List.flatMap_cons, Nat.add_mul, Nat.one_mul, List.drop_append, h0, List.nil_append, hx, h1]
theorem flatMap_take {e : Nat} : ∀ (n : Nat) (xs : List (List AV)), (∀ y ∈ xs, (cellsL y).length = e) → (xs.take n).flatMap cellsL = (xs.flatMap cellsL).take (n * e)
  | 0, xs, _ => by simp
  | n + 1, [], _ => by simp
  | n + 1, x :: xs, h => by
    have hx : (cellsL x).length = e := h x (by simp)
    have h0 : (cellsL x).take (n * e + e) = cellsL x := List.take_of_length_le (by omega)
    have h1 : n * e + e - e = n * e := by omega
    rw [List.take_succ_cons, List.flatMap_cons, flatMap_take n xs (fun y hy => h y (by simp [hy])), List.flatMap_cons, Nat.add_mul, Nat.one_mul, List.take_append, h0, hx, h1]
theorem slCont_absR {h : Heap} {w : World} {id o j len e e' : Nat} {cap : Option Nat} {xs : List (List AV)} {vx : Value} {c : Cell} (R : HRel ι h w) (hx : VR ι (.slice id o j len e cap) vx) (hg : h.get id = some c) (hk : slCont h (.slice id o j len e cap) = some (.rows e' xs)) :
    e' = e ∧ e ≠ 0 ∧ xs.length = len ∧ (∀ y ∈ xs, RowWf e y) ∧ ∀ i, i < len * e → (xs.flatMap cellsL)[i]? = c.blk.cells[o + j * e + i]? := by
  obtain ⟨p, a, cc, hp, rfl, S⟩ := hx.slice
  obtain ⟨p', hp', wf, hs, _⟩ := R.blk id _ hg
  rw [hp] at hp'; cases hp'
  simp only [slCont, hg] at hk
  have chopped : ∀ {l : List AV}, c.blk = .segs l → e ≠ 0 → (chop l (o + j * e) e len).map (Cont.rows e) = some (.rows e' xs) → e' = e ∧ e ≠ 0 ∧ xs.length = len ∧ (∀ y ∈ xs, RowWf e y) ∧ ∀ i, i < len * e → (xs.flatMap cellsL)[i]? = c.blk.cells[o + j * e + i]? := by
    intro l hb he hk
    cases hc : chop l (o + j * e) e len with
    | none => rw [hc] at hk; cases hk
    | some ys =>
      rw [hc] at hk
      simp only [Option.map_some, Option.some.injEq, Cont.rows.injEq] at hk
      obtain ⟨rfl, rfl⟩ := hk
      rw [hb] at wf ⊢
      obtain ⟨h1, h2, h3⟩ := chop_abs wf hc
      exact ⟨rfl, he, h1, h2, h3⟩
  split at hk
  · rename_i x1 x2 k' m ys heq
    cases heq
    split at hk <;> cases hk
  · rename_i x1 x2 l hnot heq
    cases heq
    split at hk
    · split at hk <;> try (cases hk; done)
      split at hk <;> cases hk
    · rename_i he
      exact chopped rfl he hk
  · rename_i x1 x2 e2 m ys heq
    cases heq
    split at hk <;> try (cases hk; done)
    rename_i hcond
    obtain ⟨rfl, rfl, he⟩ := hcond
    simp only [Option.some.injEq, Cont.rows.injEq] at hk
    obtain ⟨rfl, rfl⟩ := hk
    have hrow : ∀ y ∈ ys, (cellsL y).length = e := fun y hy => (wf.2 y hy).2.1
    have hlen : (ys.flatMap cellsL).length = ys.length * e := rows_len hrow
    have hfit : (j + len) * e ≤ ys.length * e := by
      have := S.fits
      rw [← hs] at this
      have hez : esz e = e := by simp [esz, he]
      rw [hez] at this
      have h2 : (Blk.rows e m ys).cells.length = ys.length * e := hlen
      rw [h2] at this
      omega
    have hjl : j + len ≤ ys.length := Nat.le_of_mul_le_mul_right hfit (Nat.pos_of_ne_zero he)
    refine ⟨rfl, he, by simp; omega, fun y hy => wf.2 y (List.mem_of_mem_drop (List.mem_of_mem_take hy)), fun i hi => ?_⟩
    rw [flatMap_take len _ (fun y hy => hrow y (List.mem_of_mem_drop hy)), flatMap_drop j ys hrow, List.getElem?_take, if_pos hi, List.getElem?_drop]
    show _ = (ys.flatMap cellsL)[_]?
    congr 1; omega
  · cases hk
  · rename_i heq; cases heq
theorem Src_rows {e : Nat} {h : Heap} {w : World} {x : AV} {vx : Value} {n : Nat} {ys : List (List AV)} (R : HRel ι h w) (hx : VR ι x vx) (hk : srcR e h x = some (n, ys)) :
    ys.length = n ∧ (∀ y ∈ ys, RowWf e y) ∧ ∃ news, Src P w e n vx news ∧ CR ι (ys.flatMap cellsL) news := by
  unfold srcR at hk
  cases x <;> simp only at hk <;> try (cases hk; done)
  · simp only [Option.some.injEq, Prod.mk.injEq] at hk
    obtain ⟨rfl, rfl⟩ := hk
    rw [hx.nils]
    exact ⟨rfl, fun y hy => by simp at hy, [], ⟨fun w => by simp [Builtin.lenOf], by simp, fun w' _ => by simp [Builtin.firstCells]⟩, CR_nil⟩
  · rename_i id o j len e0 cap
    split at hk <;> try (cases hk; done)
    rename_i e' xs hc
    split at hk <;> try (cases hk; done)
    rename_i hee
    subst hee
    simp only [Option.some.injEq, Prod.mk.injEq] at hk
    obtain ⟨rfl, rfl⟩ := hk
    obtain ⟨c, hg⟩ : ∃ c, h.get id = some c := by
      cases hg : h.get id with
      | none => simp [slCont, hg] at hc
      | some c => exact ⟨c, rfl⟩
    obtain ⟨rfl, he, h1, h2, h3⟩ := slCont_absR R hx hg hc
    obtain ⟨p, a, cc, hp, rfl, S⟩ := hx.slice
    have hez : esz e' = e' := by simp [esz, he]
    have hl : (xs.flatMap cellsL).length = len * e' := by rw [rows_len (fun y hy => (h2 y hy).2.1), h1]
    obtain ⟨vs, _, cr, hcell⟩ := R.load (P := P) (q := o + j * e') hg hp hl h3 (slCont_ni hg hc)
    have hvl : vs.length = len * e' := by rw [← cr.1, hl]
    have ha : len = 0 ∨ a = some ⟨p.blk, p.base + (o + j * e'), none⟩ := by
      rcases S.addr with h0 | h0
      · left; have := S.le; omega
      · right; rw [hez] at h0; exact h0
    refine ⟨h1, h2, vs, ⟨fun w => by simp [Builtin.lenOf], hvl, fun w' hw => ?_⟩, cr⟩
    have := first_slice (P := P) (w := w) (size := e') (n := len) (a := a) (c := cc) (vs := vs) hvl (fun b hb i v hi => by
      rcases ha with h0 | h0
      · subst h0
        have : i < vs.length := (List.getElem?_eq_some_iff.1 hi).1
        rw [hvl] at this; omega
      · rcases hb with hb | hb
        · subst hb
          have : i < vs.length := (List.getElem?_eq_some_iff.1 hi).1
          rw [hvl] at this; omega
        · rw [h0] at hb; cases hb; exact hcell i v hi) (fun h0 => by
        rcases ha with h1 | h1
        · exact h1
        · rw [h0] at h1; cases h1) len len (Nat.le_refl _) w' hw
    rwa [List.take_of_length_le (by omega)] at this
  · rename_i e' xs
    split at hk <;> try (cases hk; done)
    rename_i hee
    subst hee
    simp only [Option.some.injEq, Prod.mk.injEq] at hk
    obtain ⟨rfl, rfl⟩ := hk
    obtain ⟨a, c, rfl, he, hr, F⟩ := hx.islR
    have hl : (xs.flatMap cellsL).length = xs.length * e' := rows_len (fun y hy => (hr y hy).2.1)
    refine ⟨rfl, hr, ?_⟩
    by_cases h0 : xs = []
    · subst h0
      refine ⟨[], ⟨fun w => by simp [Builtin.lenOf], by simp, fun w' _ => ?_⟩, CR_nil⟩
      cases a <;> simp [Builtin.firstCells, loadCells_zero]
    · have hpos : 0 < xs.length := List.length_pos_iff.2 h0
      obtain ⟨b, rfl, hc⟩ := F.cell R (by have := F.1; omega)
      have key : ∀ (m : Nat) (s : List AV), s.length = m → ∀ q, (∀ i, i < m → s[i]? = (xs.flatMap cellsL)[q + i]?) → ∃ vs : List Value, vs.length = m ∧ (∀ (j : Nat) v, vs[j]? = some v → w.cell? (b.add (q + j)) = some v) ∧ ∀ (i : Nat) v, s[i]? = some v → ∃ x, vs[i]? = some x ∧ SR ι v x := by
        intro m
        induction m with
        | zero => intro s hl q _; exact ⟨[], rfl, fun j v h => by simp at h, fun i v h => by rw [List.eq_nil_of_length_eq_zero hl] at h; simp at h⟩
        | succ m ih =>
          intro s hl q hq
          cases s with
          | nil => simp at hl
          | cons a s =>
            have h0 := hq 0 (by omega)
            simp only [List.getElem?_cons_zero, Nat.add_zero] at h0
            obtain ⟨x, hx, hs⟩ := hc q a h0.symm
            obtain ⟨vs, h1, h2, h3⟩ := ih s (by simpa using hl) (q + 1) (fun i hi => by
              have := hq (i + 1) (by omega)
              rw [show q + 1 + i = q + (i + 1) by omega]
              simpa using this)
            refine ⟨x :: vs, by simp [h1], fun j v hj => ?_, fun i v hi => ?_⟩
            · cases j with
              | zero => simp only [List.getElem?_cons_zero, Option.some.injEq] at hj; subst hj; exact hx
              | succ j =>
                have := h2 j v (by simpa using hj)
                rw [show q + (j + 1) = (q + 1) + j by omega]
                exact this
            · cases i with
              | zero => simp only [List.getElem?_cons_zero, Option.some.injEq] at hi; subst hi; exact ⟨x, rfl, hs⟩
              | succ i => simpa using h3 i v (by simpa using hi)
      obtain ⟨vs, k1, k2, k3⟩ := key (xs.length * e') (xs.flatMap cellsL) hl 0 (fun i _ => by rw [Nat.zero_add])
      refine ⟨vs, ⟨fun w => by simp [Builtin.lenOf], k1, fun w' hw => ?_⟩, ⟨by omega, k3⟩⟩
      have := first_slice (P := P) (w := w) (size := e') (n := xs.length) (a := some b) (c := c) (vs := vs) k1 (fun b' hb i v hi => by
        rcases hb with hb | hb
        · omega
        · cases hb; have := k2 i v hi; rwa [Nat.zero_add] at this) (fun h0 => by cases h0) xs.length xs.length (Nat.le_refl _) w' hw
      rwa [List.take_of_length_le (by omega)] at this
  · simp only [Option.some.injEq, Prod.mk.injEq] at hk
    obtain ⟨rfl, rfl⟩ := hk
    obtain ⟨a, rfl⟩ := hx.emp
    exact ⟨rfl, fun y hy => by simp at hy, [], ⟨fun w => by simp [Builtin.lenOf], by simp, fun w' _ => by cases a <;> simp [Builtin.firstCells, loadCells_zero]⟩, CR_nil⟩
  · simp only [Option.some.injEq, Prod.mk.injEq] at hk
    obtain ⟨rfl, rfl⟩ := hk
    obtain ⟨b, c, rfl⟩ := hx.nne
    exact ⟨rfl, fun y hy => by simp at hy, [], ⟨fun w => by simp [Builtin.lenOf], by simp, fun w' _ => by simp [Builtin.firstCells, loadCells_zero]⟩, CR_nil⟩
theorem appendIK_sound {k : IntKind} {bytes : Nat} {h : Heap} {w : World} {s x : AV} {vs vx : Value} {κ : AV → Heap → Option β} {r : β} {ty t u : TypeId} (R : HRel ι h w) (hn : ι h.next = none) (hs : VR ι s vs) (hx : VR ι x vx) (ht : elOk P t 1 bytes = true) (hu : notInt P u = true)
    (hk : appendIK k bytes h s x κ = some r) : ∃ v h' y w', κ v h' = some r ∧ (Builtin.append_ #[t, u] ty #[vs, vx]).run P w = .ok y w' ∧ WEff ι h w v h' (.value y) w' := by
  obtain ⟨el, inf, z, hut, hinf, his, hby, hpos, hz, hzs⟩ := elOk_some ht
  subst hby
  unfold appendIK at hk
  split at hk <;> try (cases hk; done)
  rename_i n ys hsrc
  obtain ⟨q1, _, _, q4⟩ := srcI_sound (P := P) R hx hsrc
  have S := Src_ints (P := P) R hx hsrc
  have hez : esz 0 = 1 := rfl
  rw [← his] at S
  split at hk <;> try (cases hk; done)
  · split at hk <;> try (cases hk; done)
    rename_i hbig
    rw [hs.nils]
    obtain ⟨y, w', h1, h2⟩ := append_nils (ty := ty) (e := 0) (b := .segs [.ints k n ys]) R hn hut hinf hz (his.trans hez.symm) (hzs.trans hez.symm) hu S (CR_ints k ys q4) (by intro s hs; simp at hs; subst hs; exact q1) (cells_ints k n ys) hbig hpos
    exact ⟨_, _, y, w', hk, h1, h2⟩
  · split at hk <;> try (cases hk; done)
    rename_i hbig
    obtain ⟨a0, ha0⟩ := hs.emp
    rw [ha0]
    obtain ⟨y, w', h1, h2⟩ := append_nils (ty := ty) (e := 0) (b := .segs [.ints k n ys]) R hn hut hinf hz (his.trans hez.symm) (hzs.trans hez.symm) hu S (CR_ints k ys q4) (by intro s hs; simp at hs; subst hs; exact q1) (cells_ints k n ys) hbig hpos
    exact ⟨_, _, y, w', hk, h1, h2⟩
  · rename_i id o j len cap
    split at hk <;> try (cases hk; done)
    rename_i k' xs c hcont hg
    split at hk <;> try (cases hk; done)
    rename_i hkk
    subst hkk
    split at hk <;> try (cases hk; done)
    rename_i hbig
    obtain ⟨_, hxl, p, a, cc, hp, hvs, SL, _⟩ := slCont_ints R hs hcont
    have habs := slCont_absI R hs hg hcont
    have core : ∀ (hcase : cap = none ∧ c.ro = false ∨ ∃ m, cap = some m ∧ m < len + n), _ := fun hcase =>
      append_core (ty := ty) (b := .segs [.ints k' (len + n) (xs ++ ys)]) (OC := xs.map (.int k')) (NC := ys.map (.int k')) R hn hs hut hinf hz (his.trans hez.symm) (hzs.trans hez.symm) hu S (CR_ints k' ys q4) hg (by simp [hxl, esz]) (fun i hi => by
        have := habs i (by simpa [esz] using hi)
        simpa [esz] using this) (by intro s hs; simp at hs; subst hs; simp [SegWf, hxl, q1]) (by rw [cells_ints]; simp) hbig hpos (slCont_ni hg hcont) hcase
    cases cap with
    | none =>
      simp only at hk
      split at hk <;> try (cases hk; done)
      rename_i hro
      obtain ⟨y, w', h1, h2⟩ := core (.inl ⟨rfl, by simpa using hro⟩)
      exact ⟨_, _, y, w', hk, h1, h2⟩
    | some m =>
      simp only at hk
      split at hk
      · rename_i hroom
        split at hk
        · rename_i hn0
          subst hn0
          have hys : ys = [] := List.eq_nil_of_length_eq_zero q1
          subst hys
          have hcm := (SL.exact m rfl).1
          subst hcm
          have hrun := run_append_room' (ty := ty) (base := a) w hut hinf hu S (by omega : len + 0 ≤ cc)
          refine ⟨_, _, .slice a (len + 0) cc, w, hk, ?_, ⟨ι, .inl ⟨_, rfl, ⟨p, a, cc, hp, rfl, SL⟩⟩, R, .refl _ _ _, .inl ⟨rfl, rfl⟩⟩⟩
          rw [hvs, hrun]
          cases a <;> simp [storeCells]
        rename_i hn0
        split at hk <;> try (cases hk; done)
        rename_i hro
        split at hk <;> try (cases hk; done)
        rename_i l hbl
        split at hk <;> try (cases hk; done)
        rename_i k2 m' zs hsg
        split at hk <;> try (cases hk; done)
        rename_i hcond
        obtain ⟨rfl, hjm⟩ := hcond
        cases hrep : repSeg l o (.ints k2 m' (splice zs (j + len) ys)) with
        | none => rw [hrep] at hk; cases hk
        | some l' =>
          rw [hrep] at hk
          obtain ⟨_, _, wf, _⟩ := R.blk id _ hg
          rw [hbl] at wf
          obtain ⟨w1, pl⟩ := repSeg_splice wf hsg (by omega) hrep
          have hcm := (SL.exact m rfl).1
          subst hcm
          have hrun := run_append_room' (ty := ty) (base := a) w hut hinf hu S (by omega : len + n ≤ cc)
          have hro' : c.ro = false := by simpa using hro
          have hput : ∀ {q : Nat}, q = o + (j + len) → ∃ w', (storeCells ⟨p.blk, p.base + q, none⟩ (ys.map (Value.int k2))).run P w = .ok () w' ∧ HRel ι (h.set id (.segs l')) w' ∧ Step ι h w ι (h.set id (.segs l')) w' := by
            intro q hq
            subst hq
            exact R.put hg hro' hp (b := .segs l') w1 (CR_ints k2 ys q4) (by rw [hbl]; exact pl.len) (by rw [hbl]; exact pl.fits) pl.inn (by rw [hbl]; exact pl.out) (by intros; rw [hbl]; simp)
          have hnew : VR ι (.slice id o j (len + n) 0 (some cc)) (.slice a (len + n) cc) := by
            refine ⟨p, a, cc, hp, rfl, ⟨hroom, SL.addr, SL.exact, ?_, SL.most⟩⟩
            have := (SL.exact cc rfl).2
            have h2 := Nat.mul_le_mul_right (esz 0) (show j + (len + n) ≤ j + cc by omega)
            omega
          by_cases hc0 : cc = 0
          · have hl0 : len = 0 := by omega
            have hn0 : n = 0 := by omega
            subst hl0 hn0
            have hys : ys = [] := List.eq_nil_of_length_eq_zero q1
            subst hys
            have hcells : (Blk.segs l').cells = c.blk.cells := by
              rw [hbl]
              apply List.ext_getElem?
              intro i
              exact pl.out i (by simp; omega)
            obtain ⟨r1, r2⟩ := R.same (h' := h.set id (.segs l')) hg (get_set' hg) w1 hcells (by intros; rw [hbl]; simp)
            refine ⟨_, _, .slice a (0 + 0) cc, w, hk, ?_, ⟨ι, .inl ⟨_, rfl, hnew⟩, r1, r2, .inl ⟨rfl, rfl⟩⟩⟩
            rw [hvs, hrun]
            cases a <;> simp [storeCells]
          · have ha := SL.addr.resolve_left hc0
            subst ha
            obtain ⟨w', h1, h2, h3⟩ := hput rfl
            refine ⟨_, _, .slice _ (len + n) cc, w', hk, ?_, ⟨ι, .inl ⟨_, rfl, hnew⟩, h2, h3, .inl ⟨rfl, rfl⟩⟩⟩
            rw [hvs, hrun]
            simp only [addr_add, his]
            rw [show p.base + (o + j * esz 0) + len * 1 = p.base + (o + (j + len)) by simp [esz]; omega, h1]
            rfl
      · rename_i hroom
        obtain ⟨y, w', h1, h2⟩ := core (.inr ⟨m, rfl, by omega⟩)
        exact ⟨_, _, y, w', hk, h1, h2⟩
theorem appendRK_sound {e bytes : Nat} {h : Heap} {w : World} {s x : AV} {vs vx : Value} {κ : AV → Heap → Option β} {r : β} {ty t u : TypeId} (R : HRel ι h w) (hn : ι h.next = none) (hs : VR ι s vs) (hx : VR ι x vx) (ht : elOk P t e bytes = true) (hu : notInt P u = true)
    (hk : appendRK e bytes h s x κ = some r) : ∃ v h' y w', κ v h' = some r ∧ (Builtin.append_ #[t, u] ty #[vs, vx]).run P w = .ok y w' ∧ WEff ι h w v h' (.value y) w' := by
  obtain ⟨el, inf, z, hut, hinf, his, hby, hpos, hz, hzs⟩ := elOk_some ht
  subst hby
  unfold appendRK at hk
  split at hk <;> try (cases hk; done)
  rename_i n ys hsrc
  obtain ⟨q1, q2, news, S, cn⟩ := Src_rows (P := P) R hx hsrc
  split at hk <;> try (cases hk; done)
  · split at hk <;> try (cases hk; done)
    rename_i hbig
    obtain ⟨hbig, he⟩ := hbig
    have hez : esz e = e := by simp [esz, he]
    rw [← his] at S
    rw [hs.nils]
    obtain ⟨y, w', h1, h2⟩ := append_nils (ty := ty) (e := e) (b := .rows e n ys) R hn hut hinf hz (his.trans hez.symm) (hzs.trans hez.symm) hu S cn ⟨q1, q2⟩ rfl hbig hpos
    exact ⟨_, _, y, w', hk, h1, h2⟩
  · split at hk <;> try (cases hk; done)
    rename_i hbig
    obtain ⟨hbig, he⟩ := hbig
    have hez : esz e = e := by simp [esz, he]
    rw [← his] at S
    obtain ⟨a0, ha0⟩ := hs.emp
    rw [ha0]
    obtain ⟨y, w', h1, h2⟩ := append_nils (ty := ty) (e := e) (b := .rows e n ys) R hn hut hinf hz (his.trans hez.symm) (hzs.trans hez.symm) hu S cn ⟨q1, q2⟩ rfl hbig hpos
    exact ⟨_, _, y, w', hk, h1, h2⟩
  · rename_i id o j len e' cap
    split at hk <;> try (cases hk; done)
    rename_i e2 xs c hcont hg
    split at hk <;> try (cases hk; done)
    rename_i hee
    obtain ⟨rfl, he⟩ := hee
    have hez : esz e' = e' := by simp [esz, he]
    rw [← his] at S
    split at hk <;> try (cases hk; done)
    rename_i hbig
    obtain ⟨rfl, _, h1, h2, h3⟩ := slCont_absR R hs hg hcont
    have core : ∀ (hcase : cap = none ∧ c.ro = false ∨ ∃ m, cap = some m ∧ m < len + n), _ := fun hcase =>
      append_core (ty := ty) (b := .rows e2 (len + n) (xs ++ ys)) (OC := xs.flatMap cellsL) (NC := ys.flatMap cellsL) R hn hs hut hinf hz (his.trans hez.symm) (hzs.trans hez.symm) hu S cn hg (by rw [rows_len (fun y hy => (h2 y hy).2.1), h1, hez]) (fun i hi => by
        rw [hez] at hi ⊢; exact h3 i hi) ⟨by simp [h1, q1], fun y hy => (List.mem_append.1 hy).elim (h2 y) (q2 y)⟩ (by simp [Blk.cells]) hbig hpos (slCont_ni hg hcont) hcase
    cases cap with
    | none =>
      simp only at hk
      split at hk <;> try (cases hk; done)
      rename_i hro
      obtain ⟨y, w', g1, g2⟩ := core (.inl ⟨rfl, by simpa using hro⟩)
      exact ⟨_, _, y, w', hk, g1, g2⟩
    | some m =>
      simp only at hk
      split at hk
      · rename_i hroom
        split at hk <;> try (cases hk; done)
        rename_i hn0
        subst hn0
        have hys : ys = [] := List.eq_nil_of_length_eq_zero q1
        subst hys
        obtain ⟨p, a, cc, hp, hvs, SL⟩ := hs.slice
        have hcm := (SL.exact m rfl).1
        subst hcm
        have hnews : news = [] := List.eq_nil_of_length_eq_zero (by rw [S.hsize, Nat.zero_mul])
        have hrun := run_append_room' (ty := ty) (base := a) w hut hinf hu S (by omega : len + 0 ≤ cc)
        refine ⟨_, _, .slice a (len + 0) cc, w, hk, ?_, ⟨ι, .inl ⟨_, rfl, ⟨p, a, cc, hp, rfl, SL⟩⟩, R, .refl _ _ _, .inl ⟨rfl, rfl⟩⟩⟩
        rw [hvs, hrun, hnews]
        cases a <;> simp [storeCells]
      · rename_i hroom
        obtain ⟨y, w', g1, g2⟩ := core (.inr ⟨m, rfl, by omega⟩)
        exact ⟨_, _, y, w', hk, g1, g2⟩
end
end Go.Am
