/- RatchetSeals: part 9 of 50 of its proof. -/
import Derived.Test.YtmkefajojokkfaaGreatD07
set_option linter.unusedVariables false
set_option linter.unusedSimpArgs false
namespace Go.Am
set_option linter.unusedSimpArgs false
section
variable {P : Program} {Γ : Env}
def DFresh (Γ : Env) (ι : Inj) (n0 : Nat) (aos : List AOper) (listed : Array Bool) : Prop :=
  ∀ id, n0 ≤ id → ι id ≠ none → ∃ k o, aos[k]? = some o ∧ listed.getD k true = true ∧ quiet Γ o.op = false ∧ n0 + stride * k ≤ id ∧ id < n0 + stride * (k + 1)
theorem getD_set_self {listed : Array Bool} {i : Nat} {d : Bool} (h : i < listed.size) : (listed.setIfInBounds i true).getD i d = true := by
  simp [Array.getD_eq_getD_getElem?, h]
theorem getD_agree {listed : Array Bool} {k : Nat} {a b : Bool} (h : k < listed.size) : listed.getD k a = listed.getD k b := by
  simp [Array.getD_eq_getD_getElem?, h]
theorem dout_wp (hΓ : EnvOk P Γ) {ops : Array Oper} {Q : Exit → Act → World → Prop} {o : Oper} {ao : AOper} {n0 j : Nat} {bef : List Nat} {ι : Inj} {t : List AV} {h : Heap} {a : Act} {w : World} {p : AV × DE} {K : Act → World → Prop}
    (ho : ops[j]? = some o) (hl : lowOper P ops o ao = true) (R : Rel ι t h a w)
    (hf : ∀ id, n0 + stride * j ≤ id → (id < n0 + stride * (j + 1) ∨ dcls Γ ao.op = .W) → ι id = none) (hp : dout Γ n0 j bef ao (t, h) = some p)
    (hK : ∀ ι' a' w', Rel ι' (dapp n0 j ao (t, h) p).1 (dapp n0 j ao (t, h) p).2 a' w' → Step ι h w ι' (dapp n0 j ao (t, h) p).2 w' → (dapp n0 j ao (t, h) p).2.next = h.next →
      (∀ id, (id < n0 + stride * j ∨ n0 + stride * (j + 1) ≤ id ∨ quiet Γ ao.op = true) → ι' id = ι id) → K a' w') : wpOp P ops Q j K a w := by
  simp only [lowOper, Bool.and_eq_true, beq_iff_eq] at hl
  obtain ⟨⟨hd, hop⟩, hgd⟩ := hl
  unfold dout at hp
  simp only at hp
  have split2 : (Region.wanted o (yielded ops a.tmps) = true ∧ dop' Γ n0 j bef ao.op t h = some p) ∨ (Region.wanted o (yielded ops a.tmps) = false ∧ p = (.tuple [], .ins none)) := by
    unfold lowGuard at hgd
    split at hgd
    · rename_i ho' hao'
      rw [hao'] at hp
      left
      simp only [Region.wanted, ho']
      exact ⟨trivial, hp⟩
    · rename_i k want s want' ho' hao'
      rw [hao'] at hp
      simp only [Bool.and_eq_true, beq_iff_eq] at hgd
      obtain ⟨rfl, hs⟩ := hgd
      simp only [dguard] at hp
      split at hp <;> try (cases hp; done)
      case h_2 hb =>
        right
        have hy := yielded_skip hs (by have := R.tmps s; rwa [hb] at this)
        simp only [Region.wanted, ho', hy]
        exact ⟨rfl, by simpa using hp.symm⟩
      rename_i b hb
      have hv := R.tmps s
      rw [hb] at hv
      have hv' : a.tmps.getD s undef = .bool b := hv.bool
      have hy : yielded ops a.tmps k = some b := by
        unfold yielded
        rw [hs]
        simp only [Option.bind_some]
        cases hq : a.tmps[s]? with
        | none => rw [Array.getD_eq_getD_getElem?, hq] at hv'; cases hv'
        | some y => rw [Array.getD_eq_getD_getElem?, hq] at hv'; simp at hv'; subst hv'; rfl
      simp only [Region.wanted, ho', hy]
      cases b <;> cases want <;> simp only [cond_true, cond_false] at hp <;> first
        | (left; exact ⟨rfl, hp⟩)
        | (right; exact ⟨rfl, by simpa using hp.symm⟩)
    · cases hgd
  unfold wpOp
  simp only [ho]
  rcases split2 with ⟨hw, hp⟩ | ⟨hw, rfl⟩
  · simp only [hw, if_true]
    refine .inl (OpRuns.wp (dop'_sound hΓ hop R.TR R.heap hf hp) fun x w' E => ?_)
    obtain ⟨ι', e1, e2, e3, e4, e5⟩ := E
    rw [hd]
    exact hK ι' _ w' (R.put e3.le e1 e2) e3 e4 e5
  · simp only [hw, Bool.false_eq_true, if_false]
    rw [hd]
    exact hK ι _ w (R.put (v := .tuple []) (.refl _) ⟨#[], rfl, rfl, fun i v h => by cases h⟩ R.heap) (.refl _ _ _) rfl fun _ _ => rfl
theorem draw_any (hΓ : EnvOk P Γ) {ops : Array Oper} {aos : List AOper} {Q : Exit → Act → World → Prop} {n0 : Nat} {s' : DS} (hl : lowOpers P ops ops.toList aos = true) (haft : lowAft ops.toList aos = true) (hok : okDraw Γ (befs aos []) 0 aos = true) :
    ∀ (fuel : Nat) (L : List Nat) (listed : Array Bool) (t : List AV) (h : Heap) (F : Foots) (ι : Inj) (a : Act) (w : World), L.length = fuel → L.Pairwise (· < ·) → listed.size = aos.length → (∀ k, k ∈ L ↔ k < aos.length ∧ listed.getD k true = false) →
      (∀ k, k < aos.length → listed.getD k false = true → ∀ e ∈ (befs aos []).getD k [], listed.getD e false = true) → Rel ι t h a w → DFresh Γ ι n0 aos listed → runL Γ n0 (befs aos []) aos L ((t, h), F) = some s' →
      (∀ ι' a' w', Rel ι' s'.1.1 s'.1.2 a' w' → (∀ id, n0 + stride * aos.length ≤ id → ι' id = none) → Step ι h w ι' s'.1.2 w' → s'.1.2.next = h.next → (∀ id, id < n0 → ι' id = ι id) → Q .normal a' w') → wpAny P .any ops Q fuel listed a w := by
  obtain ⟨hlen, hops⟩ := lowOpers_get hl
  have hsz : ops.size = aos.length := by simpa using hlen
  have haf := lowAft_get haft
  have okg := okDraw_get hok
  simp only [Nat.zero_add] at okg
  have hao : ∀ {j : Nat} {o : Oper}, ops[j]? = some o → ∃ ao, aos[j]? = some ao ∧ lowOper P ops o ao = true ∧ (o.after.toList.filter (Region.binds .any)).map (·.on) = ao.aft := by
    intro j o ho
    have hj : j < aos.length := by have := (Array.getElem?_eq_some_iff.1 ho).1; omega
    have h1 : ops.toList[j]? = some o := by simpa using ho
    exact ⟨aos[j], by simp [hj], hops j _ _ h1 (by simp [hj]), haf j _ _ h1 (by simp [hj])⟩
  have blt := befs_lt (aos := aos) fun k x hk => (okg k x hk).1
  have rb : ∀ {listed : Array Bool} {j : Nat}, listed.size = aos.length → (∀ k, k < aos.length → listed.getD k false = true → ∀ e ∈ (befs aos []).getD k [], listed.getD e false = true) → j ∈ Region.ready .any ops listed →
      ∃ o ao, ops[j]? = some o ∧ aos[j]? = some ao ∧ lowOper P ops o ao = true ∧ j < aos.length ∧ listed.getD j true = false ∧ ∀ e ∈ (befs aos []).getD j [], listed.getD e false = true := by
    intro listed j hls hcl hj
    obtain ⟨h1, o, ho, h2⟩ := mem_ready.1 hj
    obtain ⟨ao, h3, h4, h5⟩ := hao ho
    have hjl : j < aos.length := (List.getElem?_eq_some_iff.1 h3).1
    have h6 : ∀ e ∈ ao.aft, listed.getD e false = true := by
      intro e he
      rw [← h5] at he
      obtain ⟨ed, hed, rfl⟩ := List.mem_map.1 he
      obtain ⟨hed1, hed2⟩ := List.mem_filter.1 hed
      exact h2 ed (by simpa using hed1) hed2
    refine ⟨o, ao, ho, h3, h4, hjl, h1, fun e he => ?_⟩
    rcases (befs_mem h3 (okg j ao h3).1).1 he with h | ⟨k, hk, h⟩
    · exact h6 e h
    · exact hcl k (by have := (okg j ao h3).1 k hk; omega) (h6 k hk) e h
  intro fuel
  induction fuel with
  | zero =>
    intro L listed t h F ι a w hL _ hls hmem hcl R hf hr hq
    have : L = [] := List.eq_nil_of_length_eq_zero hL
    subst this
    simp only [runL, Option.some.injEq] at hr
    subst hr
    refine ⟨?_, ?_⟩
    · rw [List.eq_nil_iff_forall_not_mem]
      intro j hj
      obtain ⟨_, _, _, _, _, h1, h2, _⟩ := rb hls hcl hj
      have := (hmem j).2 ⟨h1, h2⟩
      simp at this
    · refine hq ι a w R (fun id hid => ?_) (.refl _ _ _) rfl fun _ _ => rfl
      cases hi : ι id with
      | none => rfl
      | some q =>
        obtain ⟨k, o, hk, _, _, _, h2⟩ := hf id (by omega) (by rw [hi]; simp)
        have hkl : k < aos.length := (List.getElem?_eq_some_iff.1 hk).1
        have : stride * (k + 1) ≤ stride * aos.length := Nat.mul_le_mul_left _ hkl
        omega
  | succ fuel ih =>
    intro L listed t h F ι a w hL hsort hls hmem hcl R hf hr hq
    refine ⟨fun hnil => ?_, fun j hj => ?_⟩
    ·
      exfalso
      cases L with
      | nil => simp at hL
      | cons i L =>
        obtain ⟨hi1, hi2⟩ := (hmem i).1 (by simp)
        have ho : ops[i]? = some (ops[i]'(by omega)) := by simp [hsz, hi1]
        obtain ⟨ao, h3, h4, h5⟩ := hao ho
        have : i ∈ Region.ready .any ops listed := by
          refine mem_ready.2 ⟨hi2, _, ho, fun e he hb => ?_⟩
          have hea : e.on ∈ ao.aft := by
            rw [← h5]
            exact List.mem_map.2 ⟨e, List.mem_filter.2 ⟨by simpa using he, hb⟩, rfl⟩
          have hei := (okg i ao h3).1 _ hea
          cases hle : listed.getD e.on false with
          | true => rfl
          | false =>
            have : e.on ∈ i :: L := (hmem _).2 ⟨by omega, by rw [getD_agree (b := false) (by omega)]; exact hle⟩
            rcases List.mem_cons.1 this with h | h
            · omega
            · have := List.rel_of_pairwise_cons hsort h; omega
        rw [hnil] at this
        cases this
    · obtain ⟨o, ao, ho, h3, h4, hjl, hjun, hbl⟩ := rb hls hcl hj
      have hjL : j ∈ L := (hmem j).2 ⟨hjl, hjun⟩
      obtain ⟨L1, L2, rfl⟩ := List.append_of_mem hjL
      have hs1 : ∀ i ∈ L1, i < j := fun i hi => (List.pairwise_append.1 hsort).2.2 i hi j (by simp)
      have hs2 : ∀ i ∈ L2, j < i := fun i hi => List.rel_of_pairwise_cons (List.pairwise_append.1 hsort).2.1 hi
      have hun : ∀ i ∈ L1, listed.getD i false = false := fun i hi => by
        obtain ⟨h1, h2⟩ := (hmem i).1 (by simp [hi])
        rw [getD_agree (b := true) (by omega)]; exact h2
      have notin : ∀ {i k : Nat}, (∀ e ∈ (befs aos []).getD k [], listed.getD e false = true) → listed.getD i false = false → ((befs aos []).getD k []).contains i = false := by
        intro i k h1 h2
        rw [Bool.eq_false_iff]
        intro hc
        have := h1 i (by simpa using hc)
        rw [h2] at this; cases this
      have hr' := bubble L1 ((t, h), F) (fun i hi => by
        refine ⟨by have := hs1 i hi; omega, notin hbl (hun i hi), ?_, fun x y hx hy => ?_⟩
        · rw [Bool.eq_false_iff]
          intro hc
          have := blt i j (by simpa using hc)
          have := hs1 i hi
          omega
        · rcases (okg i x hx).2 j y (hs1 i hi) hy with h | h
          · rw [notin hbl (hun i hi)] at h; cases h
          · exact h) hr
      simp only [runL, dstep, h3, Option.bind_some] at hr'
      cases hfj : okFoot ((befs aos []).getD j []) F (foot ao.op t) with
      | false => rw [hfj] at hr'; cases hr'
      | true =>
      rw [hfj] at hr'
      simp only [cond_true] at hr'
      cases hp : dout Γ n0 j ((befs aos []).getD j []) ao (t, h) with
      | none => rw [hp] at hr'; cases hr'
      | some p =>
        rw [hp] at hr'
        simp only [Option.map_some, Option.bind_some] at hr'
        have hlater : ∀ (k : Nat) o', aos[k]? = some o' → listed.getD k true = true → quiet Γ o'.op = false → dcls Γ ao.op = .W → k < j := by
          intro k o' hk hkl hkc hjc
          have hkl' : k < aos.length := (List.getElem?_eq_some_iff.1 hk).1
          rcases Nat.lt_trichotomy k j with hlt | heq | hgt
          · exact hlt
          · subst heq; rw [hjun] at hkl; cases hkl
          · rcases (okg j ao h3).2 k o' hgt hk with h1 | h1
            · have := hcl k hkl' (by rw [getD_agree (b := true) (by omega)]; exact hkl) j (by simpa using h1)
              rw [getD_agree (b := true) (by omega), hjun] at this; cases this
            · exfalso
              simp only [okPair, Bool.and_eq_true, hjc] at h1
              cases hc2 : dcls Γ o'.op <;> simp [quiet, hc2] at h1 hkc
              rcases h1.2 with h1 | h1
              · rw [h1.2] at hkc; cases hkc.1
              · rw [h1.2] at hkc; cases hkc.2
        refine dout_wp hΓ ho h4 R (fun id hid hor => ?_) hp fun ι' a' w' R' S' hnx hsame => ?_
        · cases hi : ι id with
          | none => rfl
          | some q =>
            obtain ⟨k, o', hk, hkl, hkc, h1, h2⟩ := hf id (by omega) (by rw [hi]; simp)
            rcases hor with hlt | hW
            · have hkj : k = j := by
                have e1 : stride * k < stride * (j + 1) := by omega
                have e2 : stride * j < stride * (k + 1) := by omega
                have := Nat.lt_of_mul_lt_mul_left e1
                have := Nat.lt_of_mul_lt_mul_left e2
                omega
              subst hkj
              rw [hjun] at hkl; cases hkl
            · have hkj := hlater k o' hk hkl hkc hW
              have : stride * (k + 1) ≤ stride * j := Nat.mul_le_mul_left _ hkj
              omega
        · have hls' : (listed.setIfInBounds j true).size = aos.length := by simpa using hls
          refine ih (L1 ++ L2) (listed.setIfInBounds j true) _ _ _ ι' a' w' (by simp at hL ⊢; omega) ?_ hls' (fun k => ?_) (fun k hk hkl e he => ?_) R' (fun id hid hne => ?_) hr' fun ι2 a2 w2 R2 hfr S2 hn2 hs2 => hq ι2 a2 w2 R2 hfr (S'.trans S2) (hn2.trans hnx) fun id hid => (hs2 id hid).trans (hsame id (.inl (by omega)))
          · rw [List.pairwise_append] at hsort ⊢
            exact ⟨hsort.1, (List.pairwise_cons.1 hsort.2.1).2, fun x hx y hy => hsort.2.2 x hx y (by simp [hy])⟩
          · by_cases hkj : k = j
            · subst hkj
              rw [getD_set_self (by omega)]
              constructor
              · intro hk
                rcases List.mem_append.1 hk with hk | hk
                · have := hs1 k hk; omega
                · have := hs2 k hk; omega
              · rintro ⟨_, h⟩; cases h
            · rw [getD_set_ne true (Ne.symm hkj), ← hmem k]
              simp [hkj]
          · by_cases hkj : k = j
            · subst hkj; exact getD_set_true (hbl e he)
            · rw [getD_set_ne false (Ne.symm hkj)] at hkl
              exact getD_set_true (hcl k hk hkl e he)
          · by_cases hin : id < n0 + stride * j ∨ n0 + stride * (j + 1) ≤ id ∨ quiet Γ ao.op = true
            · rw [hsame id hin] at hne
              obtain ⟨k, o', hk, hkl, hkc, h1, h2⟩ := hf id hid hne
              refine ⟨k, o', hk, ?_, hkc, h1, h2⟩
              by_cases hkj : k = j
              · subst hkj; rw [hjun] at hkl; cases hkl
              · rw [getD_set_ne true (Ne.symm hkj)]; exact hkl
            · refine ⟨j, ao, h3, getD_set_self (by omega), by cases hq : quiet Γ ao.op with | false => rfl | true => exact absurd (.inr (.inr hq)) hin, by omega, by omega⟩
theorem draw_sound (hΓ : EnvOk P Γ) (hm : P.follows .mixedOrders = true) {id : Nat} {ops : Array Oper} {aos : List AOper} {Q : Exit → Act → World → Prop} {ι : Inj} {t : List AV} {h : Heap} {a : Act} {w : World} {κ : List AV → Heap → Option Res} {r : Res}
    (hl : lowOpers P ops ops.toList aos = true) (haft : lowAft ops.toList aos = true) (hok : okDraw Γ (befs aos []) 0 aos = true) (R : RelF ι t h a w)
    (hk : (evDraw Γ h.next (befs aos []) 0 aos t h [] fun t h' => κ t { h' with next := h.next + stride * aos.length }) = some r)
    (hq : ∀ ι' t' h' a' w', κ t' h' = some r → RelF ι' t' h' a' w' → Step ι h w ι' h' w' → Grow ι ι' h.next h'.next → Q .normal a' w') : (Code.region id ops true).wp P Q a w := by
  have hsz : ops.size = aos.length := by simpa using (lowOpers_get hl).1
  refine wp_region_any hm ?_
  rw [evDraw_eq hΓ (aos := aos) aos 0 t h [] rfl] at hk
  cases hr : runL Γ h.next (befs aos []) aos (List.range' 0 aos.length) ((t, h), []) with
  | none => rw [hr] at hk; cases hk
  | some s =>
    rw [hr] at hk
    simp only [Option.bind_some] at hk
    rw [hsz]
    refine draw_any hΓ hl haft hok (n0 := h.next) aos.length (List.range' 0 aos.length) _ t h [] ι a { w with drawn := w.drawn + 1 } (by simp) ?_ (by simp) (fun k => ?_) (fun k hk h1 => ?_) ?_ (fun i hi hne => ?_) hr fun ι' a' w' R' hf S' hn hs => ?_
    · exact List.pairwise_lt_range'
    · simp [Array.getD_eq_getD_getElem?]
      intro h; simp [h]
    · rw [Array.getD_eq_getD_getElem?, Array.getElem?_replicate, if_pos hk] at h1
      cases h1
    · exact ⟨R.rel.defers, R.rel.len, R.rel.tmps, R.rel.heap.of_heap rfl⟩
    · exact absurd (R.fresh i hi) hne
    · refine hq ι' s.1.1 _ a' w' hk ⟨⟨R'.defers, R'.len, R'.tmps, ⟨R'.heap.blk, R'.heap.fz, R'.heap.disj⟩⟩, fun i hi => hf i hi⟩ ?_ ?_
      · have S0 : Step ι h w ι h { w with drawn := w.drawn + 1 } := Step.of_heap rfl rfl rfl rfl
        have S1 := S0.trans S'
        exact ⟨S1.le, S1.os, S1.tape, S1.output, S1.size, S1.frame, S1.own, S1.fzo⟩
      refine ⟨Nat.le_add_right _ _, fun id hid => ?_⟩
      rcases hid with hid | hid
      · exact hs id hid
      · rw [hf id hid, R.fresh id (Nat.le_trans (Nat.le_add_right _ _) hid)]
end
structure StepB (B : Nat) (ι : Inj) (h : Heap) (w : World) (ι' : Inj) (h' : Heap) (w' : World) : Prop where
  same : ∀ id, id < B → ι' id = ι id
  next : B ≤ h.next → B ≤ h'.next
  os : w'.os = w.os
  tape : w'.tape = w.tape
  output : w'.output = w.output
  size : w.heap.size ≤ w'.heap.size
  frame : ∀ k, k < w.heap.size → ¬ Own ι h k → w'.heap[k]? = w.heap[k]?
  own : ∀ k, Own ι' h' k → Own ι h k ∨ w.heap.size ≤ k
  fz : ∀ k f, ι.fz k = some f → ι'.fz k = some f
  fzo : ∀ k f, ι'.fz k = some f → ι.fz k = some f ∨ Own ι h k ∨ w.heap.size ≤ k
theorem Step.B {B : Nat} {ι ι' : Inj} {h h' : Heap} {w w' : World} (s : Step ι h w ι' h' w') (g : Grow ι ι' h.next h'.next) (hB : B ≤ h.next) : StepB B ι h w ι' h' w' :=
  ⟨fun id hid => g.same id (.inl (Nat.lt_of_lt_of_le hid hB)), fun hb => Nat.le_trans hb g.le, s.os, s.tape, s.output, s.size, s.frame, s.own, s.le.fz, s.fzo⟩
theorem StepB.refl (B : Nat) (ι : Inj) (h : Heap) (w : World) : StepB B ι h w ι h w := ⟨fun _ _ => rfl, fun h => h, rfl, rfl, rfl, Nat.le_refl _, fun _ _ _ => rfl, fun _ h => .inl h, fun _ _ h => h, fun _ _ h => .inl h⟩
theorem StepB.trans {B : Nat} {ι1 ι2 ι3 : Inj} {h1 h2 h3 : Heap} {w1 w2 w3 : World} (a : StepB B ι1 h1 w1 ι2 h2 w2) (b : StepB B ι2 h2 w2 ι3 h3 w3) : StepB B ι1 h1 w1 ι3 h3 w3 where
  same := fun id hid => (b.same id hid).trans (a.same id hid)
  next := fun h => b.next (a.next h)
  os := b.os.trans a.os
  tape := b.tape.trans a.tape
  output := b.output.trans a.output
  size := Nat.le_trans a.size b.size
  frame := fun k hk hn => (b.frame k (Nat.lt_of_lt_of_le hk a.size) (fun ho => (a.own k ho).elim hn (fun hge => by omega))).trans (a.frame k hk hn)
  own := fun k ho => (b.own k ho).elim (a.own k) (fun hge => .inr (Nat.le_trans a.size hge))
  fz := fun k f h => b.fz k f (a.fz k f h)
  fzo := fun k f hk => (b.fzo k f hk).elim (a.fzo k f) fun h => .inr (h.elim (a.own k) (fun hge => .inr (Nat.le_trans a.size hge)))
section
variable {ι ι' : Inj}
theorem FrzS.fz (hz : ∀ k f, ι.fz k = some f → ι'.fz k = some f) {a : Option Addr} {c n z : Nat} {cells : List AV} (k : FrzS ι a c n z cells) : FrzS ι' a c n z cells :=
  ⟨k.1, k.2.imp id fun ⟨b, off, f, h1, h2, h3⟩ => ⟨b, off, f, h1, hz _ _ h2, h3⟩⟩
theorem SR.ids {v : AV} {x : Value} (hz : ∀ k f, ι.fz k = some f → ι'.fz k = some f) (h : ∀ id ∈ avIds v, ι' id = ι id) (hv : SR ι v x) : SR ι' v x := by
  cases v with
  | ptr => obtain ⟨p, hp, rest⟩ := hv; exact ⟨p, by rw [h _ (by simp [avIds])]; exact hp, rest⟩
  | win => obtain ⟨p, hp, rest⟩ := hv; exact ⟨p, by rw [h _ (by simp [avIds])]; exact hp, rest⟩
  | slice => obtain ⟨p, a, c, hp, rest⟩ := hv; exact ⟨p, a, c, by rw [h _ (by simp [avIds])]; exact hp, rest⟩
  | isl => obtain ⟨a, c, h1, h2, h3⟩ := hv; exact ⟨a, c, h1, h2, h3.fz hz⟩
  | islR => obtain ⟨a, c, h1, h2, h3, h4⟩ := hv; exact ⟨a, c, h1, h2, h3, h4.fz hz⟩
  | fptr => obtain ⟨b, off, f, h1, h2, h3⟩ := hv; exact ⟨b, off, f, h1, hz _ _ h2, h3⟩
  | _ => exact hv
theorem mem_avIdsL {v : AV} : ∀ {l : List AV}, v ∈ l → ∀ id ∈ avIds v, id ∈ avIds.avIdsL l
  | x :: r, h, id, hid => by
    simp only [avIds.avIdsL, List.mem_append]
    rcases List.mem_cons.1 h with rfl | h
    · exact .inl hid
    · exact .inr (mem_avIdsL h id hid)
theorem mem_cells_ids {v : AV} {l : List AV} (h : v ∈ cellsL l) : ∀ id ∈ avIds v, id ∈ avIds.avIdsL l := by
  intro id hid
  simp only [cellsL, List.mem_flatMap] at h
  obtain ⟨s, hs, hv⟩ := h
  cases s with
  | ints k n xs =>
    simp only [segC, List.mem_map] at hv
    obtain ⟨x, _, rfl⟩ := hv
    simp [avIds] at hid
  | _ =>
    simp only [segC, List.mem_singleton] at hv
    subst hv
    exact mem_avIdsL hs id hid
theorem CR.ids {l : List AV} {vs : List Value} (hz : ∀ k f, ι.fz k = some f → ι'.fz k = some f) (h : ∀ id ∈ avIds.avIdsL l, ι' id = ι id) (hv : CR ι (cellsL l) vs) : CR ι' (cellsL l) vs :=
  ⟨hv.1, fun i v hi => let ⟨x, hx, hs⟩ := hv.2 i v hi; ⟨x, hx, hs.ids hz fun id hid => h id (mem_cells_ids (List.mem_of_getElem? hi) id hid)⟩⟩
theorem VA.ids {v : AV} {x : Value} (hz : ∀ k f, ι.fz k = some f → ι'.fz k = some f) (h : ∀ id ∈ avIds v, ι' id = ι id) (hv : VA ι v x) : VA ι' v x := by
  cases v with
  | agg l => obtain ⟨cs, e, wf, hc⟩ := hv; exact ⟨cs, e, wf, hc.ids hz (by simpa [avIds] using h)⟩
  | _ => simp only [VA] at hv ⊢; exact SR.ids hz h hv
theorem VAL.ids {l : List AV} {vs : List Value} (hz : ∀ k f, ι.fz k = some f → ι'.fz k = some f) (h : ∀ id ∈ avIds.avIdsL l, ι' id = ι id) (hv : VAL ι l vs) : VAL ι' l vs :=
  ⟨hv.1, fun i v hi => let ⟨x, hx, hs⟩ := hv.2 i v hi; ⟨x, hx, hs.ids hz fun id hid => h id (mem_avIdsL (List.mem_of_getElem? hi) id hid)⟩⟩
theorem VR.ids {v : AV} {x : Value} (hz : ∀ k f, ι.fz k = some f → ι'.fz k = some f) (h : ∀ id ∈ avIds v, ι' id = ι id) (hv : VR ι v x) : VR ι' v x := by
  cases v with
  | undef => trivial
  | func f a b =>
    obtain ⟨xs, ys, e, h1, h2⟩ := hv
    simp only [avIds, List.mem_append] at h
    exact ⟨xs, ys, e, h1.ids hz fun id hid => h id (.inl hid), h2.ids hz fun id hid => h id (.inr hid)⟩
  | tuple l => obtain ⟨xs, e, h1⟩ := hv; exact ⟨xs, e, h1.ids hz (by simpa [avIds] using h)⟩
  | _ => simp only [VR] at hv ⊢; exact VA.ids hz h hv
end
theorem keepT_get (slots : List Nat) : ∀ (l : List AV) (i k : Nat), (keepT slots i l).getD k .undef = if slots.contains (i + k) then l.getD k .undef else .undef
  | [], i, k => by simp [keepT]
  | v :: r, i, k => by
    cases k with
    | zero => simp [keepT]
    | succ k =>
      have := keepT_get slots r (i + 1) k
      simp only [keepT, List.getD_cons_succ, this]
      rw [show i + 1 + k = i + (k + 1) by omega]
theorem keepT_len (slots : List Nat) : ∀ (l : List AV) (i : Nat), (keepT slots i l).length = l.length
  | [], _ => rfl
  | v :: r, i => by simp [keepT, keepT_len slots r (i + 1)]
theorem idsOk_mem {ids l : List Nat} (h : idsOk ids l = true) {id : Nat} (hid : id ∈ l) : id ∈ ids := by
  simp only [idsOk, List.all_eq_true] at h
  simpa using h id hid
theorem noId_ids {v : AV} (h : noId v = true) : avIds v = [] := by cases v <;> first | rfl | (simp [noId] at h; done)
theorem noIds_ids : ∀ {l : List AV}, noIds l = true → avIds.avIdsL l = []
  | [], _ => rfl
  | v :: r, h => by
    simp only [noIds, List.all_cons, Bool.and_eq_true] at h
    simp only [avIds.avIdsL, noId_ids h.1, List.nil_append]
    exact noIds_ids (by exact h.2)
theorem FzR.ids {ι ι' : Inj} {w : World} {k : Nat} {f : Frz} (h : FzR ι w k f) (hz : ∀ k f, ι.fz k = some f → ι'.fz k = some f) : FzR ι' w k f := by
  obtain ⟨arr, el, z, f1, f0, f2⟩ := h
  refine ⟨arr, el, z, f1, f0, fun o v ho => ?_⟩
  obtain ⟨q1, q2, x, q3, q4⟩ := f2 o v ho
  exact ⟨q1, q2, x, q3, q4.ids hz fun id hid => by rw [noId_ids q1] at hid; cases hid⟩
theorem mem_blkIds {b : Blk} {v : AV} (wf : b.Wf) (h : v ∈ b.cells) : ∀ id ∈ avIds v, id ∈ blkIds b := by
  cases b with
  | iter =>
    simp only [Blk.cells, List.mem_singleton] at h
    subst h
    intro id hid
    cases hid
  | segs l => exact mem_cells_ids h
  | rows e n xs =>
    simp only [Blk.cells, List.mem_flatMap] at h
    obtain ⟨y, hy, hv⟩ := h
    intro id hid
    have := mem_cells_ids hv id hid
    rw [noIds_ids (wf.2 y hy).2.2] at this
    cases this
structure CInv (keep : List Nat) (B : Nat) (ι : Inj) (st : St) (og : List Nat) (ι' : Inj) (bl : List Cell) (cids : List Nat) : Prop where
  old : ∀ i, (i < B ∨ i ∈ keep) → ι' i = ι i
  off : ∀ i, ¬ (i < B ∨ i ∈ keep ∨ i ∈ cids) → ι' i = none
  fz : ι'.fz = ι.fz
  org : ∃ σ : Nat → Nat, (∀ i j c d, findB i bl = some c → findB j bl = some d → i ≠ j → (∃ p, ι' i = some p ∧ p.lim ≠ 0) → (∃ p, ι' j = some p ∧ p.lim ≠ 0) → σ i ≠ σ j) ∧
    ∀ i c, findB i bl = some c → (ι' i = some ⟨0,0,0,0⟩ ∧ c.blk.Wf ∧ c.blk.cells.length = 0) ∨
      (σ i ∈ og ∧ ∃ c0, st.h.get (σ i) = some c0 ∧ c0.blk = c.blk ∧ c0.ro = c.ro ∧ ι' i = ι (σ i) ∧ ∀ id ∈ blkIds c.blk, id ∈ keep)
theorem CInv.heap {keep : List Nat} {B n : Nat} {ι ι' : Inj} {st : St} {og cids : List Nat} {bl : List Cell} {w : World} (C : CInv keep B ι st og ι' bl cids) (R : HRel ι st.h w) : HRel ι' ⟨n, bl⟩ w ∧ ∀ k, Own ι' ⟨n, bl⟩ k → Own ι st.h k := by
  obtain ⟨σ, inj, org⟩ := C.org
  have hz : ∀ k f, ι.fz k = some f → ι'.fz k = some f := fun k f h => by rw [C.fz]; exact h
  refine ⟨⟨?_, ?_, ?_⟩, ?_⟩
  rotate_left
  · intro k f hk
    rw [C.fz] at hk
    obtain ⟨⟨arr, el, z, f1, f0, f2⟩, f3⟩ := R.fz k f hk
    refine ⟨⟨arr, el, z, f1, f0, fun o v ho => ?_⟩, fun i c p hg hro hp hlim => ?_⟩
    · obtain ⟨q1, q2, x, q3, q4⟩ := f2 o v ho
      exact ⟨q1, q2, x, q3, q4.ids hz fun id hid => by rw [noId_ids q1] at hid; cases hid⟩
    · rcases org i c hg with ⟨a, _⟩ | ⟨_, c0, h1, h2, h3, h4, _⟩
      · rw [hp] at a; cases a; exact absurd rfl hlim
      · exact f3 _ c0 p h1 (h3.trans hro) (by rw [← h4]; exact hp) hlim
  rotate_left 2
  · intro i c hg
    rcases org i c hg with ⟨h1, h2, h3⟩ | ⟨_, c0, h1, h2, h3, h4, h5⟩
    · exact ⟨_, h1, h2, h3, fun _ => rfl, fun h => absurd rfl h⟩
    · obtain ⟨p, hp, wf, hs, h0, h6⟩ := R.blk _ c0 h1
      refine ⟨p, by rw [h4]; exact hp, by rw [← h2]; exact wf, by rw [← h2]; exact hs, h0, fun hn => ?_⟩
      rcases h6 hn with h6 | h6
      rotate_left
      · exact .inr (by rw [← h2]; exact h6)
      obtain ⟨arr, el, fz, g1, g2, g3, g4, g5⟩ := h6.row
      refine .inl ⟨arr, el, fz, g1, g2, g3, fun j v hv => ?_, fun hro => g5 (by rw [h3]; exact hro)⟩
      rw [← h2] at hv
      obtain ⟨x, hx, hsr⟩ := g4 j v hv
      exact ⟨x, hx, hsr.ids hz fun id hid => C.old id (.inr (h5 id (by rw [← h2]; exact mem_blkIds wf (List.mem_of_getElem? hv) id hid)))⟩
  · intro i1 c1 p1 i2 c2 p2 g1 g2 hne hro h1 h2 n1 n2
    have e := inj i1 i2 c1 c2 g1 g2 hne ⟨p1, h1, n1⟩ ⟨p2, h2, n2⟩
    rcases org i1 c1 g1 with ⟨a, _⟩ | ⟨_, d1, a1, a2, a3, a4, _⟩
    · rw [h1] at a; cases a; exact absurd rfl n1
    · rcases org i2 c2 g2 with ⟨b, _⟩ | ⟨_, d2, b1, b2, b3, b4, _⟩
      · rw [h2] at b; cases b; exact absurd rfl n2
      · exact R.disj _ d1 p1 _ d2 p2 a1 b1 e (a3.trans hro) (by rw [← a4]; exact h1) (by rw [← b4]; exact h2) n1 n2
  · rintro k ⟨i, c, p, hg, hro, hp, hlim, rfl⟩
    rcases org i c hg with ⟨a, _⟩ | ⟨_, c0, h1, h2, h3, h4, _⟩
    · rw [hp] at a; cases a; exact absurd rfl hlim
    · exact ⟨_, c0, p, h1, h3.trans hro, by rw [← h4]; exact hp, hlim, rfl⟩
theorem growAll_sound {keep : List Nat} {B : Nat} {ι : Inj} {st : St} {a : Act} {w : World} (R : Rel ι st.t st.h a w) : ∀ (gs : List (Nat × Nat × GK)) (t : List AV) (bl : List Cell) (og : List Nat) (ι' : Inj) (cids : List Nat) (t' : List AV) (bl' : List Cell),
    CInv keep B ι st og ι' bl cids → (∀ g ∈ gs, B ≤ g.2.1 ∧ g.2.1 ∉ keep ∧ g.2.1 ∉ cids) → (gs.map (·.2.1)).Nodup → t.length = st.t.length → (∀ i, VR ι' (t.getD i .undef) (a.tmps.getD i undef)) →
    growAll keep st gs t bl og = some (t', bl') → ∃ ι'' og', CInv keep B ι st og' ι'' bl' (gs.map (·.2.1) ++ cids) ∧ t'.length = st.t.length ∧ ∀ i, VR ι'' (t'.getD i .undef) (a.tmps.getD i undef)
  | [], t, bl, og, ι', cids, t', bl', C, _, _, hlen, ht, hk => by
    simp only [growAll, Option.some.injEq, Prod.mk.injEq] at hk
    obtain ⟨rfl, rfl⟩ := hk
    exact ⟨ι', og, by simpa using C, hlen, ht⟩
  | (s, cid, k) :: gs, t, bl, og, ι', cids, t', bl', C, hg, hnd, hlen, ht, hk => by
    obtain ⟨hB, hnk, hnc⟩ := hg (s, cid, k) (by simp)
    simp only at hB hnk hnc
    simp only [growAll] at hk
    have hcid : ι' cid = none := C.off cid (by
      rintro (h | h | h)
      · omega
      · exact hnk h
      · exact hnc h)
    have hrest : ∀ {v : AV} {b : Blk} {og' : List Nat} {p : Place}, CInv keep B ι st og' (ι'.upd cid p) (insB ⟨cid, false, b⟩ bl) (cid :: cids) → VR (ι'.upd cid p) v (a.tmps.getD s undef) → growAll keep st gs (t.set s v) (insB ⟨cid, false, b⟩ bl) og' = some (t', bl') →
        ∃ ι'' og', CInv keep B ι st og' ι'' bl' (((s, cid, k) :: gs).map (·.2.1) ++ cids) ∧ t'.length = st.t.length ∧ ∀ i, VR ι'' (t'.getD i .undef) (a.tmps.getD i undef) := by
      intro v b og' p C' hv hk'
      have hnd' := (List.nodup_cons.1 (by simpa using hnd : (cid :: gs.map (·.2.1)).Nodup))
      obtain ⟨ι'', og'', c1, c2, c3⟩ := growAll_sound R gs _ _ _ _ _ t' bl' C' (fun g hgm => by
        obtain ⟨q1, q2, q3⟩ := hg g (by simp [hgm])
        refine ⟨q1, q2, fun hm => ?_⟩
        rcases List.mem_cons.1 hm with h | h
        · exact hnd'.1 (List.mem_map.2 ⟨g, hgm, h⟩)
        · exact q3 h) hnd'.2 (by simpa using hlen) (fun i => by
          rw [List.getD_eq_getElem?_getD, List.getElem?_set]
          by_cases hsi : s = i
          · subst hsi
            simp only [if_true]
            split
            · exact hv
            · exact trivial
          · simp only [hsi, if_false]
            have := (ht i).mono (Inj.le_upd hcid : ι'.le (ι'.upd cid p))
            rwa [List.getD_eq_getElem?_getD] at this) hk'
      refine ⟨ι'', og'', ?_, c2, c3⟩
      refine ⟨c1.old, fun i hi => c1.off i fun h => hi ?_, c1.fz, c1.org⟩
      rcases h with h | h | h
      · exact .inl h
      · exact .inr (.inl h)
      · refine .inr (.inr ?_)
        simp only [List.mem_append, List.mem_cons, List.map_cons] at h ⊢
        rcases h with h | h | h
        · exact .inl (.inr h)
        · exact .inl (.inl h)
        · exact .inr h
    have hbn : findB cid bl = none := by
      cases hf : findB cid bl with
      | none => rfl
      | some c =>
        obtain ⟨σ, _, org⟩ := C.org
        exfalso
        rcases org cid c hf with ⟨h1, _⟩ | ⟨_, c0, h1, _, _, h4, _⟩
        · rw [hcid] at h1; cases h1
        · obtain ⟨p, hp, _⟩ := R.heap.blk _ c0 h1
          rw [hcid, hp] at h4; cases h4
    have hold : ∀ (p : Place) i, (i < B ∨ i ∈ keep) → (ι'.upd cid p) i = ι i := fun p i hi => by
      rw [Inj.upd_ne _ _ (by rintro rfl; rcases hi with h | h; omega; exact hnk h)]
      exact C.old i hi
    have hoff : ∀ (p : Place) i, ¬ (i < B ∨ i ∈ keep ∨ i ∈ cid :: cids) → (ι'.upd cid p) i = none := fun p i hi => by
      rw [Inj.upd_ne _ _ (by rintro rfl; exact hi (.inr (.inr (by simp))))]
      exact C.off i fun h => hi (by
        rcases h with h | h | h
        · exact .inl h
        · exact .inr (.inl h)
        · exact .inr (.inr (by simp [h])))
    cases hgo : growOne keep og st s cid k with
    | none => rw [hgo] at hk; cases hk
    | some g =>
      rw [hgo] at hk
      simp only [Option.bind_some] at hk
      have hvs := R.tmps s
      unfold growOne at hgo
      split at hgo
      · rename_i id len e hsl
        rw [hsl] at hvs
        split at hgo <;> try (cases hgo; done)
        rename_i ci b hget
        split at hgo <;> try (cases hgo; done)
        rename_i hcond
        simp only [Bool.and_eq_true, Bool.not_eq_true', List.contains_eq_mem, decide_eq_false_iff_not] at hcond
        cases hgo
        obtain ⟨p, ad, cc, hp, hval, S⟩ := hvs.slice
        refine hrest (p := p) ⟨hold p, hoff p, C.fz, ?_⟩ ?_ hk
        · obtain ⟨σ, inj, org⟩ := C.org
          have hids : ∀ i c, findB i bl = some c → i ≠ cid → (ι'.upd cid p) i = ι' i := fun i c _ hne => Inj.upd_ne _ _ hne
          have orgne : ∀ i c, findB i bl = some c → (∃ p, ι' i = some p ∧ p.lim ≠ 0) → σ i ≠ id := by
            rintro i c hf ⟨q, hq, hql⟩
            rcases org i c hf with ⟨h1, _⟩ | ⟨h1, _⟩
            · rw [hq] at h1; cases h1; exact absurd rfl hql
            · exact fun e => hcond.2 (e ▸ h1)
          refine ⟨fun i => if i = cid then id else σ i, fun i j c d h1 h2 hne hq1 hq2 => ?_, fun i c hf => ?_⟩
          · rw [findB_ins hbn] at h1 h2
            by_cases e1 : i = cid <;> by_cases e2 : j = cid <;> simp only [e1, e2, if_true, if_false] at h1 h2 ⊢
            · exact absurd (e1.trans e2.symm) hne
            · rw [Inj.upd_ne _ _ e2] at hq2
              exact Ne.symm (orgne j d h2 hq2)
            · rw [Inj.upd_ne _ _ e1] at hq1
              exact orgne i c h1 hq1
            · rw [Inj.upd_ne _ _ e1] at hq1
              rw [Inj.upd_ne _ _ e2] at hq2
              exact inj i j c d h1 h2 hne hq1 hq2
          · rw [findB_ins hbn] at hf
            by_cases e1 : i = cid
            · simp only [e1, if_true] at hf ⊢
              cases hf
              refine .inr ⟨by simp, _, hget, rfl, rfl, by rw [Inj.upd_same, hp], fun i hi => idsOk_mem hcond.1 hi⟩
            · simp only [e1, if_false] at hf ⊢
              rw [Inj.upd_ne _ _ e1]
              rcases org i c hf with h | ⟨h1, h2⟩
              · exact .inl h
              · exact .inr ⟨by simp [h1], h2⟩
        · exact ⟨p, ad, cc, Inj.upd_same _ _ _, hval, S⟩
      · rename_i hsl
        rw [hsl] at hvs
        have hnil := hvs.nils
        have vr : ∀ e, VR (ι'.upd cid ⟨0,0,0,0⟩) (.slice cid 0 0 0 e none) (a.tmps.getD s undef) := fun e =>
          ⟨_, none, 0, Inj.upd_same _ _ _, hnil, ⟨Nat.le_refl _, .inl rfl, fun m h => (by cases h), (by simp), .inl rfl⟩⟩
        have cinv : ∀ {b : Blk}, b.Wf → b.cells.length = 0 → CInv keep B ι st og (ι'.upd cid ⟨0,0,0,0⟩) (insB ⟨cid, false, b⟩ bl) (cid :: cids) := by
          intro b hwf hz
          refine ⟨hold _, hoff _, C.fz, ?_⟩
          obtain ⟨σ, inj, org⟩ := C.org
          refine ⟨σ, fun i j c d h1 h2 hne hq1 hq2 => ?_, fun i c hf => ?_⟩
          · rw [findB_ins hbn] at h1 h2
            by_cases e1 : i = cid
            · subst e1
              obtain ⟨q, hq, hql⟩ := hq1
              rw [Inj.upd_same] at hq; cases hq; exact absurd rfl hql
            · by_cases e2 : j = cid
              · subst e2
                obtain ⟨q, hq, hql⟩ := hq2
                rw [Inj.upd_same] at hq; cases hq; exact absurd rfl hql
              · simp only [e1, e2, if_false] at h1 h2
                rw [Inj.upd_ne _ _ e1] at hq1
                rw [Inj.upd_ne _ _ e2] at hq2
                exact inj i j c d h1 h2 hne hq1 hq2
          · rw [findB_ins hbn] at hf
            by_cases e1 : i = cid
            · subst e1
              simp only [if_true] at hf
              cases hf
              exact .inl ⟨Inj.upd_same _ _ _, hwf, hz⟩
            · simp only [e1, if_false] at hf
              rw [Inj.upd_ne _ _ e1]
              exact org i c hf
        split at hgo <;> try (cases hgo; done)
        · cases hgo
          exact hrest (p := ⟨0,0,0,0⟩) (cinv (by intro s hs; simp at hs; subst hs; simp [SegWf]) (by simp [Blk.cells, cellsL, segC])) (vr 0) hk
        · cases hgo
          exact hrest (p := ⟨0,0,0,0⟩) (cinv (by simp [Blk.Wf]) (by simp [Blk.cells])) (vr _) hk
      · cases hgo
theorem growOk_spec {B : Nat} {cn : Canon} : ∀ {gs : List (Nat × Nat × GK)}, canonOk.growOk B cn gs = true → (∀ g ∈ gs, B ≤ g.2.1 ∧ g.2.1 ∉ cn.blks ∧ g.2.1 < cn.next) ∧ (gs.map (·.2.1)).Nodup
  | [], _ => ⟨by simp, by simp⟩
  | (s, cid, k) :: r, h => by
    simp only [canonOk.growOk, Bool.and_eq_true, decide_eq_true_eq, Bool.not_eq_true', List.contains_eq_mem, decide_eq_false_iff_not, List.all_eq_true, bne_iff_ne] at h
    obtain ⟨⟨⟨⟨h1, h2⟩, h3⟩, h4⟩, h5⟩ := h
    obtain ⟨g1, g2⟩ := growOk_spec h5
    refine ⟨fun g hg => ?_, ?_⟩
    · rcases List.mem_cons.1 hg with rfl | hg
      · exact ⟨h1, h3, h2⟩
      · exact g1 g hg
    · simp only [List.map_cons, List.nodup_cons, List.mem_map, not_exists, not_and]
      exact ⟨fun g hg e => h4 g hg e, g2⟩
theorem HRel.freeze {ι : Inj} {h : Heap} {w : World} {id : Nat} {c : Cell} (R : HRel ι h w) (hg : h.get id = some c) (hro : c.ro = false) (hn : ∀ v ∈ c.blk.cells, noId v = true ∧ oneCell v = true) :
    ∃ ι' : Inj, ι'.pl = ι.pl ∧ ι.le ι' ∧ HRel ι' (h.del id) w ∧ Step ι h w ι' (h.del id) w ∧ ∀ p, ι id = some p → p.lim ≠ 0 → ∃ f, ι'.fz p.blk = some f ∧ f.size = p.lim ∧ ∀ i v, c.blk.cells[i]? = some v → f.cell (p.base + i) = some v := by
  obtain ⟨p, hp, wf, hs, h0, h1⟩ := R.blk id c hg
  have hdel : ∀ i c', (h.del id).get i = some c' → h.get i = some c' ∧ i ≠ id := by
    intro i c' hi
    rw [get_del] at hi
    split at hi
    · cases hi
    · rename_i e; exact ⟨hi, e⟩
  by_cases hl : p.lim = 0
  · exact ⟨ι, rfl, .refl _, R.sub fun i c' hi => (hdel i c' hi).1, Step.sub fun i c' hi => (hdel i c' hi).1, fun q hq hn => by rw [hp] at hq; cases hq; exact absurd hl hn⟩
  · have hni : ∀ s pos, c.blk ≠ .iter s pos := by
      intro s pos e
      have := (hn .undef (by rw [e]; simp [Blk.cells])).2
      cases this
    obtain ⟨arr, el, z, g1, g2, g3, g4, g5⟩ := (rowOf (h1 hl) hni).row
    have hfz : ι.fz p.blk = none := by
      cases hk : ι.fz p.blk with
      | none => rfl
      | some f => exact absurd rfl ((R.fz _ f hk).2 id c p hg hro hp hl)
    let f : Frz := ⟨p.lim, fun o => if p.base ≤ o then c.blk.cells[o - p.base]? else none⟩
    let ι' : Inj := { ι with fz := fun k => if k = p.blk then some f else ι.fz k }
    have hle : ι.le ι' := by
      refine ⟨fun _ _ h => h, fun k g hk => ?_⟩
      simp only [ι']
      split
      · rename_i e; subst e; rw [hfz] at hk; cases hk
      · exact hk
    have hfzo : ∀ k g, ι'.fz k = some g → (k = p.blk ∧ g = f) ∨ ι.fz k = some g := by
      intro k g hk
      simp only [ι'] at hk
      split at hk
      · rename_i e; cases hk; exact .inl ⟨e, rfl⟩
      · exact .inr hk
    have hown : Own ι h p.blk := ⟨id, c, p, hg, hro, hp, hl, rfl⟩
    refine ⟨ι', rfl, hle, ⟨fun i d hd => (R.blk i d (hdel i d hd).1).world hle fun _ _ _ => rfl, fun k g hk => ?_, fun i1 c1 p1 i2 c2 p2 a1 a2 => R.disj i1 c1 p1 i2 c2 p2 (hdel _ _ a1).1 (hdel _ _ a2).1⟩, ?_, fun q hq _ => ?_⟩
    · rcases hfzo k g hk with ⟨rfl, rfl⟩ | hk
      · refine ⟨⟨arr, el, z, g1, g2, fun o v ho => ?_⟩, fun i d q hd hro2 hq hl2 => ?_⟩
        · simp only [f] at ho
          split at ho
          · rename_i hb
            obtain ⟨x, hx, hsr⟩ := g4 _ v ho
            rw [show p.base + (o - p.base) = o by omega] at hx
            obtain ⟨n1, n2⟩ := hn v (List.mem_of_getElem? ho)
            exact ⟨n1, n2, x, hx, hsr.mono hle⟩
          · cases ho
        · obtain ⟨hd1, hne⟩ := hdel i d hd
          exact R.disj i d q id c p hd1 hg hne hro2 hq hp hl2 hl
      · obtain ⟨f1, f2⟩ := R.fz k g hk
        exact ⟨f1.world hle rfl, fun i d q hd => f2 i d q (hdel i d hd).1⟩
    · refine ⟨hle, rfl, rfl, rfl, Nat.le_refl _, fun _ _ _ => rfl, ?_, fun k g hk => ?_⟩
      · rintro k ⟨i, d, q, hd, hro2, hq, hl2, rfl⟩
        exact .inl ⟨i, d, q, (hdel i d hd).1, hro2, hq, hl2, rfl⟩
      · rcases hfzo k g hk with ⟨rfl, rfl⟩ | hk
        · exact .inr (.inl hown)
        · exact .inl hk
    · rw [hp] at hq; cases hq
      refine ⟨f, by simp [ι'], rfl, fun i v hi => ?_⟩
      simp only [f, Nat.le_add_right, if_true, Nat.add_sub_cancel_left]
      exact hi
theorem frzV_sound {h : Heap} {w : World} {ι : Inj} {v v' : AV} {k : GK} {d : Option Nat} {x : Value} (R : HRel ι h w) (hx : VR ι v x) (hk : frzV h v k = some (v', d)) :
    ∃ ι' : Inj, ι'.pl = ι.pl ∧ ι.le ι' ∧ HRel ι' (delO h d) w ∧ Step ι h w ι' (delO h d) w ∧ VR ι' v' x := by
  have triv : VR ι v' x → d = none → ∃ ι' : Inj, ι'.pl = ι.pl ∧ ι.le ι' ∧ HRel ι' (delO h d) w ∧ Step ι h w ι' (delO h d) w ∧ VR ι' v' x := fun hv hd => by
    subst hd
    exact ⟨ι, rfl, .refl _, R, .refl _ _ _, hv⟩
  have nil : ∀ {a}, x = .slice a 0 0 → nilV k = some (v', d) → VR ι v' x ∧ d = none := by
    intro a ha hk
    unfold nilV at hk
    cases k with
    | some => cases hk
    | ints k => cases hk; exact ⟨⟨a, 0, ha, by simp, Nat.le_refl _, .inl rfl⟩, rfl⟩
    | rows e =>
      simp only at hk
      split at hk <;> try (cases hk; done)
      rename_i he
      cases hk; exact ⟨⟨a, 0, ha, he, by simp, Nat.le_refl _, .inl rfl⟩, rfl⟩
  unfold frzV at hk
  split at hk <;> try (cases hk; done)
  · rename_i id j len e cap
    obtain ⟨p, a, c, hp, rfl, S⟩ := hx.slice
    split at hk <;> try (cases hk; done)
    · rename_i ci k' n xs hg
      split at hk <;> try (cases hk; done)
      rename_i hc
      simp only [Option.some.injEq, Prod.mk.injEq] at hk
      obtain ⟨rfl, rfl⟩ := hk
      obtain rfl := hc
      obtain ⟨q, hq, wf, hs, h0, _⟩ := R.blk id _ hg
      rw [hp] at hq; cases hq
      have hn : xs.length = n := wf (.ints k' n xs) (by simp)
      have hle : j + len ≤ n := by have := S.fits; rw [← hs, cells_ints] at this; simp [esz] at this; omega
      have hlen : ((xs.drop j).take len).length = len := by simp; omega
      have hrg : ∀ y ∈ xs, rng k' y := by
        intro y hy
        obtain ⟨i, hi⟩ := List.mem_iff_getElem?.1 hy
        obtain ⟨z, _, hsr⟩ := R.cell hg hp (q := i) (v := .int k' y) (by rw [cells_ints]; simp [hi]) (by intros; simp)
        exact hsr.2
      obtain ⟨ι', e1, e2, e3, e4, e5⟩ := R.freeze hg rfl (fun v hv => by
        simp only [cells_ints, List.mem_map] at hv
        obtain ⟨y, _, rfl⟩ := hv
        exact ⟨rfl, rfl⟩)
      refine ⟨ι', e1, e2, e3, e4, ⟨a, c, by rw [hlen], fun y hy => hrg y (List.mem_of_mem_drop (List.mem_of_mem_take hy)), by rw [hlen]; exact S.le, ?_⟩⟩
      by_cases hc0 : c = 0
      · exact .inl hc0
      · right
        have ha := S.addr.resolve_left hc0
        have hmost := S.most.resolve_left hc0
        by_cases hlim : p.lim = 0
        · simp [hlim, esz] at hmost
          omega
        · obtain ⟨f, hf, hfs, hcell⟩ := e5 p hp hlim
          refine ⟨_, _, f, ha, hf, by rw [hfs]; simp [esz] at hmost ⊢; omega, fun i y hi => ?_⟩
          rw [List.getElem?_map, List.getElem?_take] at hi
          split at hi <;> try (cases hi; done)
          rw [List.getElem?_drop] at hi
          have := hcell (j + i) y (by rw [cells_ints, List.getElem?_map]; exact hi)
          rw [show p.base + (0 + j * esz 0) + i = p.base + (j + i) by simp [esz]; omega]
          exact this
    · rename_i ci e' n xs hg
      split at hk <;> try (cases hk; done)
      rename_i hc
      simp only [Option.some.injEq, Prod.mk.injEq] at hk
      obtain ⟨rfl, rfl⟩ := hk
      obtain ⟨rfl, he⟩ := hc
      obtain ⟨q, hq, wf, hs, h0, _⟩ := R.blk id _ hg
      rw [hp] at hq; cases hq
      have hn : xs.length = n := wf.1
      have hle : j + len ≤ n := by
        have h1 := S.fits
        rw [← hs] at h1
        have h2 : (Blk.rows e n xs).cells.length = n * e := by rw [← hn]; exact rows_len fun y hy => (wf.2 y hy).2.1
        rw [h2, show esz e = e by simp [esz, he], Nat.zero_add] at h1
        exact Nat.le_of_mul_le_mul_right h1 (Nat.pos_of_ne_zero he)
      have hlen : ((xs.drop j).take len).length = len := by simp; omega
      have hcs : ∀ v ∈ (Blk.rows e n xs).cells, noId v = true ∧ oneCell v = true := by
        intro v hv
        simp only [Blk.cells, List.mem_flatMap] at hv
        obtain ⟨r, hr, hv⟩ := hv
        obtain ⟨w1, w2, w3⟩ := wf.2 r hr
        simp only [cellsL, List.mem_flatMap] at hv
        obtain ⟨s, hsr, hv⟩ := hv
        have hns : noId s = true := by simp only [noIds, List.all_eq_true] at w3; exact w3 s hsr
        have hws := w1 s hsr
        cases s <;> first | (simp [noId] at hns; done) | (exact hws.elim) | (simp only [segC, List.mem_singleton] at hv; subst hv; exact ⟨rfl, rfl⟩) | (simp only [segC, List.mem_map] at hv; obtain ⟨y, _, rfl⟩ := hv; exact ⟨rfl, rfl⟩)
      obtain ⟨ι', e1, e2, e3, e4, e5⟩ := R.freeze hg rfl hcs
      refine ⟨ι', e1, e2, e3, e4, ⟨a, c, by rw [hlen], he, fun y hy => wf.2 y (List.mem_of_mem_drop (List.mem_of_mem_take hy)), by rw [hlen]; exact S.le, ?_⟩⟩
      by_cases hc0 : c = 0
      · exact .inl hc0
      · right
        have ha := S.addr.resolve_left hc0
        have hmost := S.most.resolve_left hc0
        have hez : esz e = e := by simp [esz, he]
        by_cases hlim : p.lim = 0
        · rw [hlim, hez] at hmost
          have h1 : (j + c) * e = 0 := by omega
          rcases Nat.mul_eq_zero.1 h1 with h2 | h2
          · omega
          · exact absurd h2 he
        · obtain ⟨f, hf, hfs, hcell⟩ := e5 p hp hlim
          refine ⟨_, _, f, ha, hf, by rw [hfs, hez]; rw [hez, Nat.add_mul] at hmost; omega, fun i y hi => ?_⟩
          have := hcell (j * e + i) y (flat_drop j (fun r hr => (wf.2 r hr).2.1) i y (flat_take _ i y hi))
          rw [hez, show p.base + (0 + j * e) + i = p.base + (j * e + i) by omega]
          exact this
  · obtain ⟨h1, h2⟩ := nil hx.nils hk; exact triv h1 h2
  · obtain ⟨a, ha⟩ := hx.emp; obtain ⟨h1, h2⟩ := nil ha hk; exact triv h1 h2
  · cases hk; exact triv hx rfl
  · cases hk; exact triv hx rfl
theorem frzAll_sound {a : Act} {w : World} : ∀ (l : List (Nat × GK)) (st s : St) (ι : Inj), frzAll l st = some s → RelF ι st.t st.h a w → ∃ ι', RelF ι' s.t s.h a w ∧ Step ι st.h w ι' s.h w ∧ s.h.next = st.h.next ∧ ι'.pl = ι.pl
  | [], st, s, ι, hk, R => by cases hk; exact ⟨ι, R, .refl _ _ _, rfl, rfl⟩
  | (i, k) :: l, st, s, ι, hk, R => by
    simp only [frzAll] at hk
    cases hf : frzV st.h (st.t.getD i .undef) k with
    | none => rw [hf] at hk; cases hk
    | some p =>
      obtain ⟨v', d⟩ := p
      rw [hf] at hk
      simp only [Option.bind_some] at hk
      obtain ⟨ι1, e1, e2, e3, e4, e5⟩ := frzV_sound R.rel.heap (R.rel.tmps i) hf
      have hnext : (delO st.h d).next = st.h.next := by cases d <;> rfl
      have R1 : RelF ι1 (st.t.set i v') (delO st.h d) a w := by
        refine ⟨⟨R.rel.defers, by rw [List.length_set]; exact R.rel.len, fun j => ?_, e3⟩, fun id hid => by rw [e1]; exact R.fresh id (by rw [← hnext]; exact hid)⟩
        rw [List.getD_eq_getElem?_getD, List.getElem?_set]
        by_cases hij : i = j
        · subst hij
          simp only [if_true]
          split
          · exact e5
          · exact trivial
        · simp only [hij, if_false]
          have := (R.rel.tmps j).mono e2
          rwa [List.getD_eq_getElem?_getD] at this
      obtain ⟨ι2, f1, f2, f3, f4⟩ := frzAll_sound l _ s ι1 hk R1
      exact ⟨ι2, f1, e4.trans f2, f3.trans hnext, f4.trans e1⟩
theorem canonO_sound {B : Nat} {cn : Canon} {st s : St} {ι : Inj} {a : Act} {w : World} (hz : cn.next ≠ 0) (hok : canonOk B cn = true) (hk : canonO cn st = some s) (R : RelF ι st.t st.h a w) : ∃ ι', RelF ι' s.t s.h a w ∧ StepB B ι st.h w ι' s.h w := by
    simp only [canonOk, if_neg hz, Bool.and_eq_true, decide_eq_true_eq, List.all_eq_true] at hok
    obtain ⟨⟨hBn, hkn⟩, hgk⟩ := hok
    obtain ⟨g1, g2⟩ := growOk_spec hgk
    simp only [canonO] at hk
    cases hfr : frzAll cn.frz st with
    | none => rw [hfr] at hk; cases hk
    | some st1 =>
    rw [hfr] at hk
    simp only [Option.bind_some] at hk
    obtain ⟨ι1, R1, S1, hnx, hpl⟩ := frzAll_sound cn.frz st st1 ι hfr R
    suffices ∃ ι', RelF ι' s.t s.h a w ∧ StepB B ι1 st1.h w ι' s.h w by
      obtain ⟨ι', k1, k2⟩ := this
      refine ⟨ι', k1, ⟨fun id hid => (k2.same id hid).trans (by rw [hpl]), fun hb => k2.next (by rw [hnx]; exact hb), k2.os.trans S1.os, k2.tape.trans S1.tape, k2.output.trans S1.output, Nat.le_trans S1.size k2.size, fun k hk hn => ?_, fun k ho => (k2.own k ho).elim (S1.own k) .inr, fun k f h => k2.fz k f (S1.le.fz k f h), fun k f h => (k2.fzo k f h).elim (S1.fzo k f) fun h => .inr (h.elim (S1.own k) .inr)⟩⟩
      exact k2.frame k hk fun ho => (S1.own k ho).elim hn fun hge => by omega
    clear hfr
    generalize ι1 = ι, st1 = st at *
    replace R := R1
    split at hk <;> try (cases hk; done)
    rename_i hcond
    simp only [Bool.and_eq_true, List.all_eq_true] at hcond
    cases hr : growAll cn.blks st cn.grow (keepT cn.slots 0 st.t) (st.h.blks.filter fun c => cn.blks.contains c.id) ((st.h.blks.filter fun c => cn.blks.contains c.id).map (·.id)) with
    | none => rw [hr] at hk; cases hk
    | some r =>
      obtain ⟨t', bl'⟩ := r
      rw [hr] at hk
      simp only [Option.bind_some, Option.some.injEq] at hk
      subst hk
      let ι0 : Inj := { ι with pl := fun i => if i < B ∨ i ∈ cn.blks then ι i else none }
      have e0 : ∀ i, (i < B ∨ i ∈ cn.blks) → ι0 i = ι i := fun i hi => by simp only [ι0, hi, if_true]
      have filt : ∀ i c, findB i (st.h.blks.filter fun c => cn.blks.contains c.id) = some c → i ∈ cn.blks ∧ st.h.get i = some c := by
        intro i c hf
        rw [findB_filter (f := fun i => cn.blks.contains i)] at hf
        split at hf
        · rename_i h; exact ⟨by simpa using h, hf⟩
        · cases hf
      have fmem : ∀ {l : List Cell} {i : Nat} {c : Cell}, findB i l = some c → c ∈ l ∧ c.id = i := by
        intro l
        induction l with
        | nil => intro i c h; simp [findB] at h
        | cons d r ih =>
          intro i c h
          simp only [findB] at h
          split at h
          · cases h; rename_i hd; exact ⟨by simp, hd⟩
          · obtain ⟨h1, h2⟩ := ih h; exact ⟨by simp [h1], h2⟩
      have C0 : CInv cn.blks B ι st ((st.h.blks.filter fun c => cn.blks.contains c.id).map (·.id)) ι0 (st.h.blks.filter fun c => cn.blks.contains c.id) [] := by
        refine ⟨e0, fun i hi => ?_, rfl, fun i => i, fun i j c d _ _ hne _ _ => hne, fun i c hf => ?_⟩
        · simp only [ι0]
          rw [if_neg (fun h => hi (h.elim .inl fun h => .inr (.inl h)))]
        · obtain ⟨h1, h2⟩ := filt i c hf
          obtain ⟨h3, h4⟩ := fmem hf
          refine .inr ⟨List.mem_map.2 ⟨c, h3, h4⟩, c, h2, rfl, rfl, e0 i (.inr h1), fun id hid => ?_⟩
          exact idsOk_mem (hcond.2 c h3) hid
      obtain ⟨ι', og', c1, c2, c3⟩ := growAll_sound R.rel cn.grow _ _ _ ι0 [] t' bl' C0 (fun g hg => ⟨(g1 g hg).1, (g1 g hg).2.1, by simp⟩) g2 (keepT_len _ _ _) (fun i => by
        rw [keepT_get]
        split
        · rename_i hs
          have hm : ∀ id ∈ avIds (st.t.getD i .undef), id ∈ cn.blks := fun id hid => by
            refine idsOk_mem hcond.1 ?_
            have : (keepT cn.slots 0 st.t).getD i .undef = st.t.getD i .undef := by rw [keepT_get]; simp only [hs, if_true]
            rw [← this] at hid
            rw [List.getD_eq_getElem?_getD] at hid
            cases hg : (keepT cn.slots 0 st.t)[i]? with
            | none => rw [hg] at hid; simp [avIds] at hid
            | some v => rw [hg] at hid; exact mem_avIdsL (List.mem_of_getElem? hg) id hid
          exact VR.ids (ι := ι) (ι' := ι0) (fun _ _ h => h) (fun id hid => e0 id (.inr (hm id hid))) (R.rel.tmps i)
        · exact trivial) hr
      obtain ⟨k1, k2⟩ := c1.heap (n := cn.next) R.rel.heap
      refine ⟨ι', ⟨⟨R.rel.defers, c2.trans R.rel.len, c3, k1⟩, fun i hi => c1.off i ?_⟩, ⟨fun id hid => c1.old id (.inl hid), fun _ => hBn, rfl, rfl, rfl, Nat.le_refl _, fun _ _ _ => rfl, fun k ho => .inl (k2 k ho), fun k f h => by rw [c1.fz]; exact h, fun k f h => .inl (by rw [c1.fz] at h; exact h)⟩⟩
      simp only at hi
      rintro (h | h | h)
      · omega
      · have := hkn i h; omega
      · simp only [List.append_nil, List.mem_map] at h
        obtain ⟨g, hg, rfl⟩ := h
        have := (g1 g hg).2.2
        omega
section
variable {m : Nat → Nat} {ι ι' : Inj}
theorem rnL_map (l : List AV) : rnL m l = l.map (rnAV m) := by
  induction l with
  | nil => rfl
  | cons v r ih => simp only [rnL, rnAV.rnL, List.map_cons] at ih ⊢; rw [ih]
theorem segC_rn (s : AV) : segC (rnAV m s) = (segC s).map (rnAV m) := by
  cases s <;> simp [rnAV, segC]
theorem cellsL_rn (l : List AV) : cellsL (rnL m l) = (cellsL l).map (rnAV m) := by
  rw [rnL_map]
  induction l with
  | nil => rfl
  | cons v r ih => rw [List.map_cons, cellsL_cons, cellsL_cons, List.map_append, ih, segC_rn]
theorem SegWf.rn {s : AV} (h : SegWf s) : SegWf (rnAV m s) := by cases s <;> first | exact h | trivial
theorem SegsWf.rn {l : List AV} (h : SegsWf l) : SegsWf (rnL m l) := by
  rw [rnL_map]
  intro s hs
  obtain ⟨u, hu, rfl⟩ := List.mem_map.1 hs
  exact (h u hu).rn
theorem SR.rn {v : AV} {x : Value} (hz : ∀ k f, ι.fz k = some f → ι'.fz k = some f) (h : ∀ id ∈ avIds v, ι' (m id) = ι id) (hv : SR ι v x) : SR ι' (rnAV m v) x := by
  cases v with
  | ptr => obtain ⟨p, hp, rest⟩ := hv; exact ⟨p, by rw [h _ (by simp [avIds])]; exact hp, rest⟩
  | win => obtain ⟨p, hp, rest⟩ := hv; exact ⟨p, by rw [h _ (by simp [avIds])]; exact hp, rest⟩
  | slice => obtain ⟨p, a, c, hp, rest⟩ := hv; exact ⟨p, a, c, by rw [h _ (by simp [avIds])]; exact hp, rest⟩
  | isl => obtain ⟨a, c, h1, h2, h3⟩ := hv; exact ⟨a, c, h1, h2, h3.fz hz⟩
  | islR => obtain ⟨a, c, h1, h2, h3, h4⟩ := hv; exact ⟨a, c, h1, h2, h3, h4.fz hz⟩
  | fptr => obtain ⟨b, off, f, h1, h2, h3⟩ := hv; exact ⟨b, off, f, h1, hz _ _ h2, h3⟩
  | _ => first | exact hv | exact hv.elim
theorem CR.rn {l : List AV} {vs : List Value} (hz : ∀ k f, ι.fz k = some f → ι'.fz k = some f) (h : ∀ id ∈ avIds.avIdsL l, ι' (m id) = ι id) (hv : CR ι (cellsL l) vs) : CR ι' (cellsL (rnL m l)) vs := by
  rw [cellsL_rn]
  refine ⟨by simpa using hv.1, fun i v hi => ?_⟩
  rw [List.getElem?_map] at hi
  cases hg : (cellsL l)[i]? with
  | none => rw [hg] at hi; cases hi
  | some u =>
    rw [hg] at hi
    simp only [Option.map_some, Option.some.injEq] at hi
    subst hi
    obtain ⟨x, hx, hs⟩ := hv.2 i u hg
    exact ⟨x, hx, hs.rn hz fun id hid => h id (mem_cells_ids (List.mem_of_getElem? hg) id hid)⟩
theorem VA.rn {v : AV} {x : Value} (hz : ∀ k f, ι.fz k = some f → ι'.fz k = some f) (h : ∀ id ∈ avIds v, ι' (m id) = ι id) (hv : VA ι v x) : VA ι' (rnAV m v) x := by
  cases v with
  | agg l => obtain ⟨cs, e, wf, hc⟩ := hv; exact ⟨cs, e, wf.rn, hc.rn hz (by simpa [avIds] using h)⟩
  | _ => first | exact SR.rn hz h hv | exact hv.elim
theorem VAL.rn {l : List AV} {vs : List Value} (hz : ∀ k f, ι.fz k = some f → ι'.fz k = some f) (h : ∀ id ∈ avIds.avIdsL l, ι' (m id) = ι id) (hv : VAL ι l vs) : VAL ι' (rnL m l) vs := by
  rw [rnL_map]
  refine ⟨by simpa using hv.1, fun i v hi => ?_⟩
  rw [List.getElem?_map] at hi
  cases hg : l[i]? with
  | none => rw [hg] at hi; cases hi
  | some u =>
    rw [hg] at hi
    simp only [Option.map_some, Option.some.injEq] at hi
    subst hi
    obtain ⟨x, hx, hs⟩ := hv.2 i u hg
    exact ⟨x, hx, hs.rn hz fun id hid => h id (mem_avIdsL (List.mem_of_getElem? hg) id hid)⟩
theorem VR.rn {v : AV} {x : Value} (hz : ∀ k f, ι.fz k = some f → ι'.fz k = some f) (h : ∀ id ∈ avIds v, ι' (m id) = ι id) (hv : VR ι v x) : VR ι' (rnAV m v) x := by
  cases v with
  | undef => trivial
  | func f a b =>
    obtain ⟨xs, ys, e, h1, h2⟩ := hv
    simp only [avIds, List.mem_append] at h
    exact ⟨xs, ys, e, h1.rn hz fun id hid => h id (.inl hid), h2.rn hz fun id hid => h id (.inr hid)⟩
  | tuple l => obtain ⟨xs, e, h1⟩ := hv; exact ⟨xs, e, h1.rn hz (by simpa [avIds] using h)⟩
  | agg l => exact VA.rn (v := .agg l) hz h hv
  | _ => first | exact SR.rn hz h hv | exact hv.elim
end
theorem posN_get {id : Nat} : ∀ {l : List Nat}, id ∈ l → l[posN l id]? = some id
  | a :: r, h => by
    simp only [posN]
    split
    · rename_i e; simp [e]
    · rename_i e
      rcases List.mem_cons.1 h with h | h
      · exact absurd h.symm e
      · simpa using posN_get h
theorem OthR.rn {w : World} {p : Place} {b : Blk} (m : Nat → Nat) (h : OthR w p b) : OthR w p (rnBlk m b) := by
  cases b <;> first | exact h | exact h.elim
theorem cells_rn (m : Nat → Nat) {b : Blk} (wf : b.Wf) : (rnBlk m b).cells = b.cells.map (rnAV m) ∧ (rnBlk m b).Wf := by
  cases b with
  | iter => exact ⟨rfl, trivial⟩
  | segs l => exact ⟨cellsL_rn l, wf.rn⟩
  | rows e n xs =>
    refine ⟨?_, wf⟩
    show xs.flatMap cellsL = (xs.flatMap cellsL).map (rnAV m)
    have : ∀ v ∈ xs.flatMap cellsL, rnAV m v = v := by
      intro v hv
      simp only [List.mem_flatMap] at hv
      obtain ⟨y, hy, hv⟩ := hv
      have hn : noId v = true := by
        simp only [cellsL, List.mem_flatMap] at hv
        obtain ⟨s, hs, hv⟩ := hv
        have h1 := List.all_eq_true.1 (wf.2 y hy).2.2 s hs
        cases s <;> first
          | (simp [noId] at h1; done)
          | (simp only [segC, List.mem_map] at hv; obtain ⟨z, _, rfl⟩ := hv; rfl)
          | (simp only [segC, List.mem_singleton] at hv; subst hv; rfl)
      cases v <;> first | rfl | (simp [noId] at hn; done)
    rw [List.map_congr_left this, List.map_id']
theorem reachN_nodup {h : Heap} : ∀ (n : Nat) (l acc : List Nat), acc.Nodup → (reachN h n l acc).Nodup
  | 0, _, _, ha => ha
  | _ + 1, [], _, ha => ha
  | n + 1, id :: r, acc, ha => by
    simp only [reachN]
    split
    · exact reachN_nodup n r acc ha
    · rename_i hc
      refine reachN_nodup n _ _ ?_
      rw [List.nodup_append]
      refine ⟨ha, by simp, fun a ha' b hb => ?_⟩
      simp only [List.mem_singleton] at hb
      subst hb
      rintro rfl
      simp at hc
      exact hc ha'
theorem posN_lt {l : List Nat} {a : Nat} (ha : a ∈ l) : posN l a < l.length := (List.getElem?_eq_some_iff.1 (posN_get ha)).1
theorem get_posN {l : List Nat} (hn : l.Nodup) {k a : Nat} (h : l[k]? = some a) : posN l a = k := by
  obtain ⟨hk, he⟩ := List.getElem?_eq_some_iff.1 h
  have hm : a ∈ l := by rw [← he]; exact List.getElem_mem hk
  obtain ⟨hp, hq⟩ := List.getElem?_eq_some_iff.1 (posN_get hm)
  exact (List.getElem_inj hn).1 (hq.trans he.symm)
theorem HRel.retell {ι : Inj} {h : Heap} {w : World} {id : Nat} {c : Cell} {b : Blk} (R : HRel ι h w) (hg : h.get id = some c) (hb : BlkR ι w id { c with blk := b }) : HRel ι (h.set id b) w ∧ Step ι h w ι (h.set id b) w := by
  have hget := get_set' (b := b) hg
  have pull : ∀ i d, (h.set id b).get i = some d → ∃ d', h.get i = some d' ∧ d'.ro = d.ro := by
    intro i d hd
    rw [hget] at hd
    split at hd
    · rename_i e; subst e; cases hd; exact ⟨c, hg, rfl⟩
    · exact ⟨d, hd, rfl⟩
  refine ⟨⟨fun i d hd => ?_, fun k f hk => ⟨(R.fz k f hk).1, fun i d q hd hro => ?_⟩, fun i1 c1 p1 i2 c2 p2 g1 g2 hne hro => ?_⟩, ⟨.refl _, rfl, rfl, rfl, Nat.le_refl _, fun _ _ _ => rfl, ?_, fun _ _ h => .inl h⟩⟩
  · rw [hget] at hd
    split at hd
    · rename_i e; subst e; cases hd; exact hb
    · exact R.blk i d hd
  · obtain ⟨d', e, r⟩ := pull _ _ hd
    exact (R.fz k f hk).2 i d' q e (r.trans hro)
  · obtain ⟨d1, e1, r1⟩ := pull _ _ g1
    obtain ⟨d2, e2, r2⟩ := pull _ _ g2
    exact R.disj i1 d1 p1 i2 d2 p2 e1 e2 hne (r1.trans hro)
  · rintro k ⟨i, d, p, hd, hro, hp, hlim, rfl⟩
    obtain ⟨d', e, r⟩ := pull _ _ hd
    exact .inl ⟨i, d', p, e, r.trans hro, hp, hlim, rfl⟩
end Go.Am
