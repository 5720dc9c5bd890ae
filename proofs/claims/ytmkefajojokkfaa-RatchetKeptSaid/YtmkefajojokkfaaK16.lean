/- RatchetKept: part 17 of 39 of its proof. -/
import Derived.Test.YtmkefajojokkfaaK15
import Derived.Test.YtmkefajojokkfaaK14
set_option linter.unusedVariables false
set_option linter.unusedSimpArgs false
/- A function asked with objects that it may write: soundness. -/
namespace Go.Am
set_option linter.unusedSimpArgs false
theorem viewObjs_sound {ι : Inj} {h : Heap} {w : World} (R : HRel ι h w) (ids : List Nat) : ∀ (args : List AV) (ks : List OK) (n : Nat) (args' : List AV) (bl : List Cell) (vs : List Value) (ι1 : Inj), viewObjs h ids args ks n = some (args', bl) → VRL ι args vs →
    (∀ k f, ι.fz k = some f → ι1.fz k = some f) → (∀ id ∈ ids, ι1 (posN ids id) = ι id) → ids.length ≤ n → (∀ i, n ≤ i → ι1 i = none) → ∃ ι2 used, Grown ι h w used ι1 n bl ι2 ∧ (∀ i ∈ used, i ∉ ids) ∧ VRL ι2 args' vs
  | [], [], n, args', bl, vs, ι1, hk, hv, hz, hp, hm, hn => by
    simp only [viewObjs, Option.some.injEq, Prod.mk.injEq] at hk
    obtain ⟨rfl, rfl⟩ := hk
    exact ⟨ι1, [], .nil, fun i hi => by simp at hi, ⟨hv.1, fun i v hi => by simp at hi⟩⟩
  | v :: r, k :: ks, n, args', bl, vs, ι1, hk, hv, hz, hp, hm, hn => by
    obtain ⟨x, rs, rfl, hv1, hr'⟩ := hv.uncons
    have ren : (avIds v).all ids.contains = true → (viewObjs h ids r ks n).map (fun p => (rnAV (posN ids) v :: p.1, p.2)) = some (args', bl) → ∃ ι2 used, Grown ι h w used ι1 n bl ι2 ∧ (∀ i ∈ used, i ∉ ids) ∧ VRL ι2 args' (x :: rs) := by
      intro hall hk
      cases hr : viewObjs h ids r ks n with
      | none => rw [hr] at hk; cases hk
      | some p =>
        obtain ⟨r', bl'⟩ := p
        rw [hr] at hk
        simp only [Option.map_some, Option.some.injEq, Prod.mk.injEq] at hk
        obtain ⟨rfl, rfl⟩ := hk
        obtain ⟨ι2, u, G, hu, k2⟩ := viewObjs_sound R ids r ks n r' bl' rs ι1 hr hr' hz hp hm hn
        refine ⟨ι2, u, G, hu, .cons (hv1.rn (fun k f hk => by rw [G.fz]; exact hz k f hk) fun id hid => ?_) k2⟩
        have hmem : id ∈ ids := by simpa using List.all_eq_true.1 hall id hid
        rw [G.same _ (.inl (Nat.lt_of_lt_of_le (posN_lt hmem) hm))]
        exact hp id hmem
    cases k with
    | obj =>
      simp only [viewObjs] at hk
      split at hk <;> try (cases hk; done)
      rename_i hall
      exact ren hall hk
    | arg a =>
      simp only [viewObjs] at hk
      split at hk
      · split at hk <;> try (cases hk; done)
        rename_i hall
        exact ren hall hk
      · rename_i hany
        cases ha : viewArgs h [v] [a] n with
        | none => rw [ha] at hk; cases hk
        | some p =>
          obtain ⟨a1, b1⟩ := p
          rw [ha] at hk
          simp only [Option.bind_some] at hk
          cases hr : viewObjs h ids r ks (n + b1.length) with
          | none => rw [hr] at hk; cases hk
          | some p =>
            obtain ⟨r', bl'⟩ := p
            rw [hr] at hk
            simp only [Option.map_some, Option.some.injEq, Prod.mk.injEq] at hk
            obtain ⟨rfl, rfl⟩ := hk
            obtain ⟨ι2, G, k1⟩ := viewArgs_sound R [v] [a] n a1 b1 [x] ι1 ha (.cons hv1 ⟨rfl, fun i v hi => by simp at hi⟩) hz hn
            obtain ⟨ι3, u, G3, hu, k3⟩ := viewObjs_sound R ids r ks (n + b1.length) r' bl' rs ι2 hr hr' (fun k f hk => by rw [G.fz]; exact hz k f hk) (fun id hid => by rw [G.same _ (.inl (Nat.lt_of_lt_of_le (posN_lt hid) hm))]; exact hp id hid) (by omega) (fun i hi => by rw [G.same i (.inr hi)]; exact hn i (by omega))
            refine ⟨ι3, avIds.avIdsL [v] ++ u, .append (G.mono fun i hi => List.mem_append.2 (.inl hi)) (G3.mono fun i hi => List.mem_append.2 (.inr hi)), fun i hi => ?_, ?_⟩
            · rcases List.mem_append.1 hi with hi | hi
              · simp only [avIds.avIdsL, List.append_nil] at hi
                intro hm
                simp only [Bool.not_eq_true, List.any_eq_false] at hany
                have := hany i hi
                simp only [List.contains_eq_mem, decide_eq_false_iff_not] at this
                exact this hm
              · exact hu i hi
            · have := (k1.mono G3.le).append k3
              simpa using this
  | [], _ :: _, _, _, _, _, _, hk, _, _, _, _, _ => by cases hk
  | _ :: _, [], _, _, _, _, _, hk, _, _, _, _, _ => by cases hk
theorem okIds_mem {m B : Nat} {news l : List Nat} (h : okIds m B news l = true) {i : Nat} (hi : i ∈ l) : i < m ∨ (B ≤ i ∧ i ∈ news) := by
  have := List.all_eq_true.1 h i hi
  simp only [Bool.or_eq_true, decide_eq_true_eq, Bool.and_eq_true, List.contains_eq_mem] at this
  exact this
theorem litG_ok {P : Program} {f : FuncId} {ks : List OK} {fv : Bool} {fo : List Nat} {B : Nat} {o : List AV → Heap → (AV → Heap → Option Res) → Option Res} (ho : FnOk P f B o) : FullOk P f fun args h κ => (litG ks fv fo B o args h).bind fun r => κ r.1 r.2 where
  factor := fun args h κ => by
    simp only []
    cases litG ks fv fo B o args h with
    | none => rfl
    | some r => rfl
  sound := fun args h v h' ι w vs hk R hfr ha => by
    cases hG : litG ks fv fo B o args h with
    | none => rw [hG] at hk; cases hk
    | some z =>
    rw [hG] at hk
    obtain ⟨z1, z2⟩ := z
    simp only [Option.bind_some, kH, Option.some.injEq, Prod.mk.injEq] at hk
    obtain ⟨rfl, rfl⟩ := hk
    unfold litG at hG
    simp only at hG
    generalize hids : reachN h 64 (rootsOf args ks) [] = ids at hG
    have hnd : ids.Nodup := by rw [← hids]; exact reachN_nodup _ _ _ List.nodup_nil
    cases hob : objBlks h (posN ids) ids 0 with
    | none => rw [hob] at hG; cases hG
    | some ob =>
    rw [hob] at hG
    simp only [Option.bind_some] at hG
    cases hvw : viewObjs h ids args ks ids.length with
    | none => rw [hvw] at hG; cases hG
    | some p =>
    obtain ⟨args', bl⟩ := p
    rw [hvw] at hG
    simp only [Option.bind_some] at hG
    split at hG <;> try (cases hG; done)
    rename_i hcond
    simp only [Bool.and_eq_true, List.all_eq_true, decide_eq_true_eq] at hcond
    obtain ⟨hcl, hlen⟩ := hcond
    cases hr : o args' ⟨B, ob ++ bl⟩ kH with
    | none => rw [hr] at hG; cases hG
    | some r =>
    obtain ⟨v0, h0⟩ := r
    rw [hr] at hG
    simp only [Option.bind_some] at hG
    -- the objects
    obtain ⟨obl, obg⟩ := objBlks_get hob
    have orw := objBlks_rw hob
    let ι1 : Inj := { ι with pl := fun k => (ids[k]?).bind ι }
    have hp1 : ∀ id ∈ ids, ι1 (posN ids id) = ι id := fun id hid => by simp only [ι1, posN_get hid, Option.bind_some]
    have hn1 : ∀ i, ids.length ≤ i → ι1 i = none := fun i hi => by simp only [ι1]; rw [List.getElem?_eq_none_iff.2 hi]; rfl
    obtain ⟨ι0, used, G, hused, ha'⟩ := viewObjs_sound R ids args ks ids.length args' bl vs.toList ι1 hvw ha (fun _ _ h => h) hp1 (Nat.le_refl _) hn1
    have hz0 : ι0.fz = ι.fz := G.fz
    have hp0 : ∀ (k : Nat) id, ids[k]? = some id → ι0 k = ι id := fun k id hk => by
      have hlt := (List.getElem?_eq_some_iff.1 hk).1
      rw [G.same k (.inl hlt)]
      simp only [ι1, hk, Option.bind_some]
    have hcls : ∀ id c, id ∈ ids → h.get id = some c → ∀ i ∈ blkIds c.blk, i ∈ ids := fun id c hid hg i hi => by
      have := hcl id hid
      rw [hg] at this
      simpa using List.all_eq_true.1 this i hi
    have hget : ∀ i c, (Heap.mk B (ob ++ bl)).get i = some c → (∃ id c0, ids[i]? = some id ∧ h.get id = some c0 ∧ c0.ro = false ∧ c = ⟨i, false, rnBlk (posN ids) c0.blk⟩) ∨ (ids.length ≤ i ∧ findB i bl = some c) := by
      intro i c hg
      simp only [Heap.get] at hg
      rw [findB_append] at hg
      split at hg
      · rename_i c' hc'
        cases hg
        rw [obg] at hc'
        simp only [Nat.zero_le, if_true, Nat.sub_zero] at hc'
        cases hi : ids[i]? with
        | none => rw [hi] at hc'; cases hc'
        | some id =>
          rw [hi] at hc'
          simp only [Option.bind_some] at hc'
          obtain ⟨c0, hg0, hro0⟩ := orw id (List.mem_of_getElem? hi)
          rw [hg0] at hc'
          simp only [Option.map_some, Option.some.injEq] at hc'
          exact .inl ⟨id, c0, rfl, hg0, hro0, hc'.symm⟩
      · exact .inr ⟨(G.blk i c hg).1, hg⟩
    have hwin : ∀ {i c}, ids.length ≤ i → findB i bl = some c → c.ro = true ∧ BlkR ι0 w i c ∧ ∃ q, ι0 i = some q ∧ Apart ι h used q := fun _ hf => (G.blk _ _ hf).2.2
    have R0 : HRel ι0 ⟨B, ob ++ bl⟩ w := by
      refine ⟨fun i c hg => ?_, fun k f hk => ?_, fun i1 c1 p1 i2 c2 p2 g1 g2 hne hro q1 q2 n1 n2 => ?_⟩
      · rcases hget i c hg with ⟨id, c0, e1, e2, e3, rfl⟩ | ⟨e1, e2⟩
        · obtain ⟨p, hp, wf, hs, z0, z3⟩ := R.blk id c0 e2
          obtain ⟨k1, k2⟩ := cells_rn (posN ids) wf
          refine ⟨p, by rw [hp0 i id e1]; exact hp, k2, by rw [k1]; simpa using hs, z0, fun hn => ?_⟩
          rcases z3 hn with z3 | z3
          rotate_left
          · exact .inr (z3.rn _)
          obtain ⟨arr, el, fz, g1, g2, g3, g4, g5⟩ := z3.row
          refine .inl ⟨arr, el, fz, g1, g2, g3, fun j u hu => ?_, fun _ => g5 e3⟩
          simp only [k1] at hu
          rw [List.getElem?_map] at hu
          cases hcu : c0.blk.cells[j]? with
          | none => rw [hcu] at hu; cases hu
          | some u0 =>
            rw [hcu] at hu
            simp only [Option.map_some, Option.some.injEq] at hu
            subst hu
            obtain ⟨x, hx, hsr⟩ := g4 j u0 hcu
            refine ⟨x, hx, hsr.rn (fun k f (h : ι.fz k = some f) => by rw [hz0]; exact h) fun a haa => ?_⟩
            have hmem := hcls id c0 (List.mem_of_getElem? e1) e2 a (mem_blkIds wf (List.mem_of_getElem? hcu) a haa)
            exact hp0 _ a (posN_get hmem)
        · exact (hwin e1 e2).2.1
      · rw [hz0] at hk
        obtain ⟨f1, f2⟩ := R.fz k f hk
        refine ⟨f1.ids fun k f h => by rw [hz0]; exact h, fun i c p hg hro hp hl => ?_⟩
        rcases hget i c hg with ⟨id, c0, e1, e2, e3, rfl⟩ | ⟨e1, e2⟩
        · exact f2 id c0 p e2 e3 (by rw [← hp0 i id e1]; exact hp) hl
        · rw [(hwin e1 e2).1] at hro; cases hro
      · rcases hget i1 c1 g1 with ⟨id1, d1, a1, a2, a3, rfl⟩ | ⟨e1, e2⟩
        · rcases hget i2 c2 g2 with ⟨id2, d2, b1, b2, b3, rfl⟩ | ⟨e1, e2⟩
          · have hne' : id1 ≠ id2 := by
              rintro rfl
              exact hne ((get_posN hnd a1).symm.trans (get_posN hnd b1))
            exact R.disj id1 d1 p1 id2 d2 p2 a2 b2 hne' a3 (by rw [← hp0 i1 id1 a1]; exact q1) (by rw [← hp0 i2 id2 b1]; exact q2) n1 n2
          · obtain ⟨_, _, q, hq, hap⟩ := hwin e1 e2
            rw [hq] at q2; cases q2
            exact hap n2 id1 d1 p1 a2 a3 (by rw [← hp0 i1 id1 a1]; exact q1) n1 fun hm => hused id1 hm (List.mem_of_getElem? a1)
        · rw [(hwin e1 e2).1] at hro; cases hro
    have hfr0 : Fresh ι0 B := fun k hk => by rw [G.same k (.inr (by omega))]; exact hn1 k (by omega)
    have hown0 : ∀ k, Own ι0 ⟨B, ob ++ bl⟩ k → ∃ id c p, id ∈ ids ∧ h.get id = some c ∧ c.ro = false ∧ ι id = some p ∧ p.lim ≠ 0 ∧ p.blk = k := by
      rintro k ⟨i, c, p, hg, hro, hp, hl, rfl⟩
      rcases hget i c hg with ⟨id, c0, e1, e2, e3, rfl⟩ | ⟨e1, e2⟩
      · exact ⟨id, c0, p, List.mem_of_getElem? e1, e2, e3, by rw [← hp0 i id e1]; exact hp, hl, rfl⟩
      · rw [(hwin e1 e2).1] at hro; cases hro
    have hown1 : ∀ k, Own ι0 ⟨B, ob ++ bl⟩ k → Own ι h k := fun k hk => by
      obtain ⟨id, c, p, _, e2, e3, e4, e5, e6⟩ := hown0 k hk
      exact ⟨id, c, p, e2, e3, e4, e5, e6⟩
    refine (ho.sound _ _ v0 h0 ι0 w vs hr R0 hfr0 rfl ha').mono fun x w' E => ?_
    obtain ⟨ιa, e1, e2, e3, e4⟩ := E
    -- freezing
    unfold outG at hG
    cases hfd : (if fv = true then frzD h0 v0 else some (v0, h0)) with
    | none => rw [hfd] at hG; cases hG
    | some p =>
    obtain ⟨v1, h1⟩ := p
    rw [hfd] at hG
    simp only [Option.bind_some] at hG
    cases hfo : frzObjs fo h1 with
    | none => rw [hfo] at hG; cases hG
    | some h2 =>
    rw [hfo] at hG
    simp only [Option.bind_some] at hG
    obtain ⟨ιb, Fb, e1b⟩ : ∃ ιb, Fro2 ιa h0 w' ιb h1 ∧ VR ιb v1 x := by
      cases fv with
      | true =>
        obtain ⟨ιb, F, k1, _⟩ := frzD_sound e2 e1 (by simpa using hfd)
        exact ⟨ιb, F.fro2, k1⟩
      | false =>
        simp only [Bool.false_eq_true, if_false, Option.some.injEq, Prod.mk.injEq] at hfd
        obtain ⟨rfl, rfl⟩ := hfd
        exact ⟨ιa, .refl e2, e1⟩
    obtain ⟨ιc, Fc⟩ := frzObjs_sound fo ιb h1 h2 Fb.heap hfo
    have F := Fb.trans Fc
    have e1c : VR ιc v1 x := e1b.mono Fc.le
    generalize hcont : ((List.range ids.length).flatMap fun k => match h2.get k with | some c => blkIds c.blk | none => []) = cont at hG
    generalize hnews : (reachN h2 64 ((avIds v1 ++ cont).filter fun i => decide (B ≤ i)) []).filter (fun i => decide (B ≤ i)) = news at hG
    have hnnd : news.Nodup := by rw [← hnews]; exact (reachN_nodup _ _ _ List.nodup_nil).filter _
    have hnB : ∀ k ∈ news, B ≤ k := fun k hk => by rw [← hnews] at hk; simpa using (List.mem_filter.1 hk).2
    split at hG <;> try (cases hG; done)
    rename_i hok
    simp only [Bool.and_eq_true, List.all_eq_true] at hok
    obtain ⟨⟨ok1, ok2⟩, ok3⟩ := hok
    generalize hback : (fun k => if k < ids.length then ids.getD k 0 else h.next + posN news k) = back at hG
    cases hsa : setAll h2 back ids 0 h with
    | none => rw [hsa] at hG; cases hG
    | some h3 =>
    rw [hsa] at hG
    simp only [Option.bind_some] at hG
    cases hna : newAll h2 back news h3 with
    | none => rw [hna] at hG; cases hG
    | some h4 =>
    rw [hna] at hG
    simp only [Option.map_some, Option.some.injEq, Prod.mk.injEq] at hG
    obtain ⟨rfl, rfl⟩ := hG
    obtain ⟨sn, sout, sin⟩ := setAll_get hsa hnd
    have hnone : ∀ i, h.next ≤ i → h.get i = none := fun i hi => R.dom (hfr i hi)
    have idlt : ∀ id ∈ ids, id < h.next := fun id hid => by
      obtain ⟨c, hg, _⟩ := orw id hid
      rcases Nat.lt_or_ge id h.next with hlt | hge
      · exact hlt
      · rw [hnone id hge] at hg; cases hg
    obtain ⟨nn, nlow, nhigh, nin⟩ := newAll_get hna fun i hi => by
      rw [sn] at hi
      rw [sout i fun hm => by have := idlt i hm; omega]
      exact hnone i hi
    rw [sn] at nn nlow nhigh nin
    -- names
    have hsame : ∀ k, k < B → ιc k = ι0 k := fun k hk => by rw [F.pl]; exact e3.same k hk
    have hlenB : ids.length ≤ B := by omega
    have hobj : ∀ (k : Nat) id, ids[k]? = some id → ιc k = ι id := fun k id hk => by
      have := (List.getElem?_eq_some_iff.1 hk).1
      rw [hsame k (by omega)]; exact hp0 k id hk
    let ιd : Inj := { pl := fun i => if i < h.next then ι i else (news[i - h.next]?).bind ιc, fz := ιc.fz }
    have hdlow : ∀ i, i < h.next → ιd i = ι i := fun i hi => by simp only [ιd, hi, if_true]
    have hdnew : ∀ (j k : Nat), news[j]? = some k → ιd (h.next + j) = ιc k := fun j k hj => by
      simp only [ιd]
      rw [if_neg (by omega), Nat.add_sub_cancel_left, hj]
      rfl
    have bk : ∀ i, (i < ids.length ∨ (B ≤ i ∧ i ∈ news)) → ιd (back i) = ιc i := by
      intro i hi
      rw [← hback]
      simp only []
      rcases hi with hi | ⟨hi1, hi2⟩
      · rw [if_pos hi]
        have hgi : ids[i]? = some ids[i] := List.getElem?_eq_getElem hi
        rw [List.getD_eq_getElem?_getD, hgi, Option.getD_some, hdlow _ (idlt _ (List.getElem_mem hi)), hobj i _ hgi]
      · rw [if_neg (by omega)]
        exact hdnew _ _ (posN_get hi2)
    have hz' : ∀ k f, ιc.fz k = some f → ιd.fz k = some f := fun _ _ h => h
    have blkR : ∀ (k i : Nat) (c : Cell) (b : Blk) (id : Nat), h2.get k = some c → c.ro = false → (∀ a ∈ blkIds c.blk, a < ids.length ∨ (B ≤ a ∧ a ∈ news)) → ιd i = ιc k → b = rnBlk back c.blk → BlkR ιd w' i ⟨id, false, b⟩ := by
      intro k i c b id hg hro hin hi hb
      subst hb
      obtain ⟨p, hp, wf, hs, z0, z3⟩ := F.heap.blk k c hg
      obtain ⟨k1, k2⟩ := cells_rn back wf
      refine ⟨p, by rw [hi]; exact hp, k2, by rw [k1]; simpa using hs, z0, fun hn => ?_⟩
      rcases z3 hn with z3 | z3
      rotate_left
      · exact .inr (z3.rn _)
      obtain ⟨arr, el, fz, g1, g2, g3, g4, g5⟩ := z3.row
      refine .inl ⟨arr, el, fz, g1, g2, g3, fun j u hu => ?_, fun _ => g5 hro⟩
      simp only [k1] at hu
      rw [List.getElem?_map] at hu
      cases hcu : c.blk.cells[j]? with
      | none => rw [hcu] at hu; cases hu
      | some u0 =>
        rw [hcu] at hu
        simp only [Option.map_some, Option.some.injEq] at hu
        subst hu
        obtain ⟨y, hy, hsr⟩ := g4 j u0 hcu
        exact ⟨y, hy, hsr.rn hz' fun a haa => bk a (hin a (mem_blkIds wf (List.mem_of_getElem? hcu) a haa))⟩
    -- what stands under each name
    have cases4 : ∀ i c, h4.get i = some c → (∃ (k : Nat) (d : Cell), ids[k]? = some i ∧ h2.get k = some d ∧ d.ro = false ∧ c.ro = false ∧ c.blk = rnBlk back d.blk) ∨ (∃ (j k : Nat) (d : Cell), i = h.next + j ∧ news[j]? = some k ∧ h2.get k = some d ∧ d.ro = false ∧ c.ro = false ∧ c.blk = rnBlk back d.blk) ∨ (i ∉ ids ∧ i < h.next ∧ h.get i = some c) := by
      intro i c hg
      rcases Nat.lt_or_ge i h.next with hlt | hge
      · rw [nlow i hlt] at hg
        by_cases hm : i ∈ ids
        · have hk := posN_get hm
          rcases sin i _ hk with ⟨ci, b, g1, g2⟩ | g2
          case inr => rw [g2] at hg; cases hg
          rw [Nat.zero_add] at g1
          rw [g2] at hg
          obtain ⟨c0, hc0, hro0⟩ := orw i hm
          rw [hc0] at hg
          simp only [Option.map_some, Option.some.injEq] at hg
          subst hg
          exact .inl ⟨_, _, hk, g1, rfl, hro0, rfl⟩
        · rw [sout i hm] at hg
          exact .inr (.inr ⟨hm, hlt, hg⟩)
      · rcases Nat.lt_or_ge (i - h.next) news.length with hj | hj
        · obtain ⟨ci, b, g1, g2⟩ := nin (i - h.next) _ (List.getElem?_eq_getElem hj)
          rw [show h.next + (i - h.next) = i by omega, hg] at g2
          cases g2
          exact .inr (.inl ⟨i - h.next, _, _, by omega, List.getElem?_eq_getElem hj, g1, rfl, rfl, rfl⟩)
        · rw [nhigh i (by omega)] at hg; cases hg
    have cin : ∀ (k : Nat) d, k < ids.length → h2.get k = some d → ∀ a ∈ blkIds d.blk, a < ids.length ∨ (B ≤ a ∧ a ∈ news) := fun k d hk hd a haa => by
      refine okIds_mem ok2 ?_
      rw [← hcont]
      simp only [List.mem_flatMap, List.mem_range]
      exact ⟨k, hk, by rw [hd]; exact haa⟩
    have nin2 : ∀ (k : Nat) d, k ∈ news → h2.get k = some d → ∀ a ∈ blkIds d.blk, a < ids.length ∨ (B ≤ a ∧ a ∈ news) := fun k d hk hd a haa => by
      have := ok3 k hk
      rw [hd] at this
      exact okIds_mem this haa
    have frame0 : ∀ k, k < w.heap.size → ¬ Own ι h k → w'.heap[k]? = w.heap[k]? := fun k hk hn => e3.frame k hk fun ho => hn (hown1 k ho)
    have ownc : ∀ k, Own ιc h2 k → Own ι0 ⟨B, ob ++ bl⟩ k ∨ w.heap.size ≤ k := fun k hk => by
      rcases F.step.own k hk with h5 | h5
      · exact e3.own k h5
      · exact .inr (by have := e3.size; omega)
    have fzc : ∀ k f, ιc.fz k = some f → ι.fz k = some f ∨ Own ι h k ∨ w.heap.size ≤ k := fun k f hk => by
      rcases F.step.fzo k f hk with h5 | h5 | h5
      · rcases e3.fzo k f h5 with h6 | h6 | h6
        · exact .inl (by rw [← hz0]; exact h6)
        · exact .inr (.inl (hown1 k h6))
        · exact .inr (.inr h6)
      · rcases e3.own k h5 with h6 | h6
        · exact .inr (.inl (hown1 k h6))
        · exact .inr (.inr h6)
      · exact .inr (.inr (by have := e3.size; omega))
    have fzle : ∀ k f, ι.fz k = some f → ιc.fz k = some f := fun k f hk => F.le.fz k f (e3.fz k f (by rw [hz0]; exact hk))
    have hlepl : ∀ id p, ι id = some p → ιd id = some p := fun id p hp => by
      rcases Nat.lt_or_ge id h.next with hlt | hge
      · rw [hdlow id hlt]; exact hp
      · rw [hfr id hge] at hp; cases hp
    have hle : ι.le ιd := ⟨hlepl, fzle⟩
    -- old blocks and the objects
    have oldNe : ∀ {i c p k}, i ∉ ids → h.get i = some c → ι i = some p → p.lim ≠ 0 → (Own ι0 ⟨B, ob ++ bl⟩ k) → p.blk ≠ k := by
      intro i c p k hm hg hp hl ho
      obtain ⟨id, c0, p0, m1, m2, m3, m4, m5, rfl⟩ := hown0 k ho
      exact Ne.symm (R.disj id c0 p0 i c p m2 hg (by rintro rfl; exact hm m1) m3 m4 hp m5 hl)
    have H : HRel ιd h4 w' := by
      refine ⟨fun i c hg => ?_, fun k f hk => ⟨(F.heap.fz k f hk).1.ids hz', fun i c p hg hro hp hl => ?_⟩, fun i1 c1 p1 i2 c2 p2 g1 g2 hne hro q1 q2 n1 n2 => ?_⟩
      · rcases cases4 i c hg with ⟨k, d, a1, a2, a3, a4, a5⟩ | ⟨j, k, d, rfl, a1, a2, a3, a4, a5⟩ | ⟨a1, a2, a3⟩
        · have hk := (List.getElem?_eq_some_iff.1 a1).1
          have := blkR k i d c.blk c.id a2 a3 (cin k d hk a2) (by rw [hdlow i (idlt i (List.mem_of_getElem? a1)), hobj k i a1]) a5
          rwa [show (⟨c.id, false, c.blk⟩ : Cell) = c by cases c; simp only at a4; rw [a4]] at this
        · have := blkR k (h.next + j) d c.blk c.id a2 a3 (nin2 k d (List.mem_of_getElem? a1) a2) (hdnew j k a1) a5
          rwa [show (⟨c.id, false, c.blk⟩ : Cell) = c by cases c; simp only at a4; rw [a4]] at this
        · refine (R.blk i c a3).world hle fun p hp hl => ?_
          exact e3.frame _ (R.blk_lt a3 hp hl) fun ho => oldNe a1 a3 hp hl ho rfl
      · rcases cases4 i c hg with ⟨k2, d, a1, a2, a3, a4, a5⟩ | ⟨j, k2, d, rfl, a1, a2, a3, a4, a5⟩ | ⟨a1, a2, a3⟩
        · refine (F.heap.fz k f hk).2 k2 d p a2 a3 ?_ hl
          rw [← hp, hdlow i (idlt i (List.mem_of_getElem? a1)), hobj k2 i a1]
        · exact (F.heap.fz k f hk).2 k2 d p a2 a3 (by rw [← hp, hdnew j k2 a1]) hl
        · rw [hdlow i a2] at hp
          rcases F.step.fzo k f hk with h5 | h5 | h5
          · rcases e3.fzo k f h5 with h6 | h6 | h6
            · exact (R.fz k f (by rw [← hz0]; exact h6)).2 i c p a3 hro hp hl
            · exact oldNe a1 a3 hp hl h6
            · have := R.blk_lt a3 hp hl; omega
          · rcases e3.own k h5 with h6 | h6
            · exact oldNe a1 a3 hp hl h6
            · have := R.blk_lt a3 hp hl; omega
          · have := R.blk_lt a3 hp hl; have := e3.size; omega
      · -- apart
        have nm : ∀ i c p, h4.get i = some c → ιd i = some p → (∃ (k : Nat) (d : Cell), h2.get k = some d ∧ d.ro = false ∧ c.ro = false ∧ ιc k = some p ∧ ((ids[k]? = some i ∧ i < h.next) ∨ ∃ j : Nat, i = h.next + j ∧ news[j]? = some k)) ∨ (i ∉ ids ∧ i < h.next ∧ h.get i = some c ∧ ι i = some p) := by
          intro i c p hg hp
          rcases cases4 i c hg with ⟨k, d, a1, a2, a3, a4, a5⟩ | ⟨j, k, d, rfl, a1, a2, a3, a4, a5⟩ | ⟨a1, a2, a3⟩
          · have hlt := idlt i (List.mem_of_getElem? a1)
            exact .inl ⟨k, d, a2, a3, a4, by rw [← hp, hdlow i hlt, hobj k i a1], .inl ⟨a1, hlt⟩⟩
          · exact .inl ⟨k, d, a2, a3, a4, by rw [← hp, hdnew j k a1], .inr ⟨j, rfl, a1⟩⟩
          · exact .inr ⟨a1, a2, a3, by rw [← hdlow i a2]; exact hp⟩
        have sep : ∀ {i c p k d q}, i ∉ ids → h.get i = some c → ι i = some p → p.lim ≠ 0 → h2.get k = some d → d.ro = false → ιc k = some q → q.lim ≠ 0 → p.blk ≠ q.blk := by
          intro i c p k d q hm hg hp hl hgk hdro hq hql
          rcases ownc q.blk ⟨k, d, q, hgk, hdro, hq, hql, rfl⟩ with h5 | h5
          · exact oldNe hm hg hp hl h5
          · have := R.blk_lt hg hp hl; omega
        rcases nm i1 c1 p1 g1 q1 with ⟨k1, d1, a1, a2, a3, a4, a5⟩ | ⟨a1, a2, a3, a4⟩
        · rcases nm i2 c2 p2 g2 q2 with ⟨k2, d2, b1, b2, b3, b4, b5⟩ | ⟨b1, b2, b3, b4⟩
          · have hkne : k1 ≠ k2 := by
              rintro rfl
              rcases a5 with ⟨a5, a6⟩ | ⟨j1, rfl, a5⟩ <;> rcases b5 with ⟨b5, b6⟩ | ⟨j2, rfl, b5⟩
              · rw [a5] at b5; cases b5; exact hne rfl
              · have h5 := (List.getElem?_eq_some_iff.1 a5).1
                have h6 := hnB _ (List.mem_of_getElem? b5)
                omega
              · have h5 := (List.getElem?_eq_some_iff.1 b5).1
                have h6 := hnB _ (List.mem_of_getElem? a5)
                omega
              · have := (get_posN hnnd a5).symm.trans (get_posN hnnd b5)
                exact hne (by rw [this])
            exact F.heap.disj k1 d1 p1 k2 d2 p2 a1 b1 hkne a2 a4 b4 n1 n2
          · exact Ne.symm (sep b1 b3 b4 n2 a1 a2 a4 n1)
        · rcases nm i2 c2 p2 g2 q2 with ⟨k2, d2, b1, b2, b3, b4, b5⟩ | ⟨b1, b2, b3, b4⟩
          · exact sep a1 a3 a4 n1 b1 b2 b4 n2
          · exact R.disj i1 c1 p1 i2 c2 p2 a3 b3 hne hro a4 b4 n1 n2
    refine ⟨ιd, e1c.rn hz' fun a haa => bk a (okIds_mem ok1 haa), H, ⟨hle, e3.os, e3.tape, e3.output, e3.size, frame0, fun k hk => ?_, fzc⟩, ⟨by simp only [nn]; omega, fun id hid => ?_⟩⟩
    · obtain ⟨i, c, p, hg, hro, hp, hl, rfl⟩ := hk
      rcases cases4 i c hg with ⟨k, d, a1, a2, a3, a4, a5⟩ | ⟨j, k, d, rfl, a1, a2, a3, a4, a5⟩ | ⟨a1, a2, a3⟩
      · exact (ownc p.blk ⟨k, d, p, a2, a3, by rw [← hp, hdlow i (idlt i (List.mem_of_getElem? a1)), hobj k i a1], hl, rfl⟩).imp (hown1 _) fun h => h
      · exact (ownc p.blk ⟨k, d, p, a2, a3, by rw [← hp, hdnew j k a1], hl, rfl⟩).imp (hown1 _) fun h => h
      · exact .inl ⟨i, c, p, a3, hro, by rw [← hdlow i a2]; exact hp, hl, rfl⟩
    · simp only [nn] at hid
      rcases hid with hid | hid
      · exact hdlow id hid
      · simp only [ιd]
        rw [if_neg (by omega), List.getElem?_eq_none_iff.2 (by omega)]
        exact (hfr id (by omega)).symm
end Go.Am
/- One object without names in it. -/
namespace Go.Am
set_option linter.unusedSimpArgs false
def kObj (fv : Bool) (fo : List Nat) : AV → Heap → Option Res := fun v h' => (if fv then frzD h' v else some (v, h')).bind fun p => (frzObjs fo p.2).bind fun h1 =>
  match h1.get 0 with
  | some ⟨_, false, .segs l⟩ => if (avIds p.1).isEmpty && (avIds.avIdsL l).isEmpty then some (p.1, ⟨0, [⟨0, false, .segs l⟩]⟩) else none
  | _ => none
/-- An oracle: the object's name and content, the other arguments; the value, the content behind it. -/
def objO (o1 : Nat → List AV → List AV → Heap → Option (AV × List AV)) (args : List AV) (h : Heap) (κ : AV → Heap → Option Res) : Option Res :=
  match args with
  | .ptr id 0 0 0 0 :: rest => match h.get id with
    | some ⟨_, false, .segs l⟩ => (o1 id l rest h).bind fun r => κ r.1 (h.set id (.segs r.2))
    | _ => none
  | _ => none
theorem objO_factor (o1 : Nat → List AV → List AV → Heap → Option (AV × List AV)) : Factor (objO o1) := by
  intro args h κ
  unfold objO
  split
  · split
    · rename_i l _
      cases o1 _ l _ h <;> rfl
    · rfl
  · rfl
theorem reach1 {h : Heap} {id : Nat} {c : Cell} (hg : h.get id = some c) (hb : blkIds c.blk = []) : reachN h 64 [id] [] = [id] := by
  simp only [reachN, List.contains_nil, Bool.false_eq_true, if_false, hg, hb, List.append_nil, List.nil_append]
theorem reach0 {h : Heap} : reachN h 64 [] [] = [] := rfl
theorem rootsOf_arg (l : List AV) (as : List AK) : rootsOf l (as.map .arg) = [] := by
  induction l generalizing as with
  | nil => cases as <;> rfl
  | cons v r ih => cases as with
    | nil => rfl
    | cons a as => exact ih as
theorem Fn.obj {P : Program} {f : FuncId} {Γ : Env} {af : AFn} (F : Fn P f Γ af) (as : List AK) (fv : Bool) (fo : List Nat) {o1 : Nat → List AV → List AV → Heap → Option (AV × List AV)}
    (h : ∀ id l rest hp v l', HOk hp rest → SegsWf l → ArgsOk l → o1 id l rest hp = some (v, l') → avIds.avIdsL l = [] ∧ ∃ rest' bl, viewObjs hp [id] rest (as.map .arg) 1 = some (rest', bl) ∧ bl.length + 1 ≤ 16 ∧
      evFn Γ af (.ptr 0 0 0 0 0 :: rest') ⟨16, ⟨0, false, .segs l⟩ :: bl⟩ (kObj fv fo) = some (v, ⟨0, [⟨0, false, .segs l'⟩]⟩)) : FullOk P f (objO o1) where
  factor := objO_factor o1
  sound := fun args hp v h' ι w vs hk R hfr ha => by
    unfold objO at hk
    split at hk <;> try (cases hk; done)
    rename_i id rest
    split at hk <;> try (cases hk; done)
    rename_i ci l hg
    cases hr : o1 id l rest hp with
    | none => rw [hr] at hk; cases hk
    | some r =>
      obtain ⟨v', l'⟩ := r
      rw [hr] at hk
      simp only [Option.bind_some, kH, Option.some.injEq, Prod.mk.injEq] at hk
      obtain ⟨rfl, rfl⟩ := hk
      obtain ⟨xp, rs, hvs, hvp, hvr⟩ := ha.uncons
      have hok : HOk hp rest := .of R hvr
      have hl : SegsWf l ∧ ArgsOk l := by
        obtain ⟨p, hp', wf, hs, h0, h3⟩ := R.blk id _ hg
        refine ⟨wf, AOk_cells wf fun c hc => ?_⟩
        obtain ⟨i, hi⟩ := List.mem_iff_getElem?.1 hc
        obtain ⟨x, _, hsr⟩ := R.cell hg hp' (q := i) (v := c) hi (by intros; simp)
        exact hsr.ok
      obtain ⟨hid, rest', bl, hv, hlen, hrun⟩ := h id l rest hp _ l' hok hl.1 hl.2 hr
      refine (litG_ok (ks := .obj :: as.map .arg) (fv := fv) (fo := fo) F.ok).sound (.ptr id 0 0 0 0 :: rest) hp _ _ ι w vs ?_ R hfr ha
      have hb : blkIds (⟨ci, false, .segs l⟩ : Cell).blk = [] := hid
      have hpos : posN [id] id = 0 := by simp [posN]
      have hG : litG (.obj :: as.map .arg) fv fo 16 (fun args h κ => evFn Γ af args h κ) (.ptr id 0 0 0 0 :: rest) hp = some (v', hp.set id (.segs l')) := by
        unfold litG
        have hroots : rootsOf (.ptr id 0 0 0 0 :: rest) (.obj :: as.map .arg) = [id] := by simp only [rootsOf, avIds, rootsOf_arg, List.append_nil]
        have hrn : rnL (posN [id]) l = l := rnL_id l hid
        have hob : objBlks hp (posN [id]) [id] 0 = some [⟨0, false, .segs l⟩] := by simp only [objBlks, hg, Option.map_some, rnBlk, hrn]
        have hvo : viewObjs hp [id] (.ptr id 0 0 0 0 :: rest) (.obj :: as.map .arg) 1 = some (.ptr 0 0 0 0 0 :: rest', bl) := by
          simp only [viewObjs, avIds, List.all_cons, List.all_nil, Bool.and_true, List.contains_cons, List.contains_nil, Bool.or_false, beq_self_eq_true, if_true, List.length_singleton, hv, Option.map_some, rnAV, hpos]
        simp only [hroots, reach1 hg hb, hob, Option.bind_some, List.length_singleton, hvo]
        rw [if_pos (by simp only [List.all_cons, List.all_nil, hg, hb, Bool.and_true, Bool.true_and, decide_eq_true_eq]; omega)]
        have h4 := F.factor (.ptr 0 0 0 0 0 :: rest') ⟨16, ⟨0, false, .segs l⟩ :: bl⟩ (kObj fv fo)
        simp only at h4
        rw [h4] at hrun
        show (evFn Γ af (.ptr 0 0 0 0 0 :: rest') ⟨16, ⟨0, false, .segs l⟩ :: bl⟩ kH).bind _ = _
        cases he : evFn Γ af (.ptr 0 0 0 0 0 :: rest') ⟨16, ⟨0, false, .segs l⟩ :: bl⟩ kH with
        | none => rw [he] at hrun; cases hrun
        | some r =>
          obtain ⟨v0, h0⟩ := r
          rw [he] at hrun
          simp only [Option.bind_some, kObj] at hrun ⊢
          unfold outG
          cases hf1 : (if fv = true then frzD h0 v0 else some (v0, h0)) with
          | none => rw [hf1] at hrun; cases hrun
          | some p =>
            rw [hf1] at hrun
            simp only [Option.bind_some] at hrun ⊢
            cases hf2 : frzObjs fo p.2 with
            | none => rw [hf2] at hrun; cases hrun
            | some h1 =>
              rw [hf2] at hrun
              simp only [Option.bind_some] at hrun ⊢
              cases hg0 : h1.get 0 with
              | none => rw [hg0] at hrun; cases hrun
              | some c0 =>
                rw [hg0] at hrun
                split at hrun <;> try (cases hrun; done)
                rename_i ci2 l2 heq
                simp only [Option.some.injEq] at heq
                subst heq
                split at hrun <;> try (cases hrun; done)
                rename_i hemp
                simp only [Bool.and_eq_true, List.isEmpty_iff] at hemp
                obtain ⟨he1, he2⟩ := hemp
                simp only [Option.some.injEq, Prod.mk.injEq, Am.Heap.mk.injEq, List.cons.injEq, Cell.mk.injEq, Blk.segs.injEq, true_and, and_true] at hrun
                obtain ⟨rfl, rfl⟩ := hrun
                have hr1 : List.range 1 = [0] := rfl
                have hb2 : blkIds (⟨ci2, false, .segs l2⟩ : Cell).blk = [] := he2
                simp only [List.length_singleton, hr1, List.flatMap_cons, List.flatMap_nil, hg0, hb2, he1, List.append_nil, List.filter_nil, reach0, okIds, List.all_nil, Bool.and_self, if_true, setAll, Option.bind_some, newAll, Option.map_some, rnBlk, rnL_id l2 he2, rnAV_id _ he1]
      show (litG _ _ _ _ _ _ _).bind _ = _
      rw [hG]
      rfl
end Go.Am
/- field: word, From, Same. -/
namespace Go.Am
set_option linter.unusedSimpArgs false
def orB (x : Int) (c : Int) (k : Nat) : Int := bw .or .u64 x (w64 (w64 c * 2 ^ (8 * k)))
def word8of (a b c d e f g h : Int) : Int := orB (orB (orB (orB (orB (orB (orB (orB 0 a 0) b 1) c 2) d 3) e 4) f 5) g 6) h 7
def wordL : List Int → Int
  | a :: b :: c :: d :: e :: f :: g :: h :: _ => word8of a b c d e f g h
  | _ => 0
theorem eight {xs : List Int} (h : 8 ≤ xs.length) : ∃ a b c d e f g i r, xs = a :: b :: c :: d :: e :: f :: g :: i :: r := by
  match xs, h with
  | a :: b :: c :: d :: e :: f :: g :: i :: r, _ => exact ⟨a, b, c, d, e, f, g, i, r, rfl⟩
def wordO (_ : Nat) (args : List AV) (h : Am.Heap) : Option (AV × Option Blk) :=
  match args with
  | [s] => (contI .u8 h s).bind fun xs => if 8 ≤ xs.length then some (.int .u64 (wordL xs), none) else none
  | _ => none
theorem word_run (Γ : Env) (nid n : Nat) (a b c d e f g i : Int) (r : List Int) : evFn Γ af_field_word [.slice 0 0 0 n 0 none] ⟨16, [⟨0, true, .segs [.ints .u8 n (a :: b :: c :: d :: e :: f :: g :: i :: r)]⟩]⟩ (kOut none nid) =
    if 0 ≤ (8 : Int) ∧ (8 : Int) ≤ (n : Int) then some (.int .u64 (word8of a b c d e f g i), ⟨0, []⟩) else none := by kernel_rfl
theorem word_pure {P : Program} {f : FuncId} {Γ : Env} (F : Fn P f Γ af_field_word) : PureOk P f wordO := by
  refine F.lit [.sl (.ints .u8)] none fun nid args hp r ha hr => ?_
  unfold wordO at hr
  split at hr <;> try (cases hr; done)
  rename_i s
  cases hc : contI .u8 hp s with
  | none => rw [hc] at hr; cases hr
  | some xs =>
    rw [hc] at hr
    simp only [Option.bind_some] at hr
    split at hr <;> try (cases hr; done)
    rename_i h8
    cases hr
    obtain ⟨a, b, c, d, e, f', g, i, rr, rfl⟩ := eight h8
    refine ⟨_, _, by simp only [viewArgs, contI_isSl hc, if_true, viewS_ints hc, Option.bind_some, Option.map_some]; rfl, by simp, ?_⟩
    rw [word_run, if_pos (by omega)]
    rfl
def G5 : Env := envAdd id_field_word (.pure wordO) (envAdd id_field_Elem_Bytes (.pure bytesO) (envAdd id_field_Elem_Neg (.pure (unO negL)) (envAdd id_field_Elem_Times (.pure timesO) (envAdd id_field_Swap (.pure swapO) G4))))
/-- A list as its places. -/
def tabFrom (f : Nat → Int) : Nat → Nat → List Int
  | _, 0 => []
  | i, n + 1 => f i :: tabFrom f (i + 1) n
def tab (n : Nat) (f : Nat → Int) : List Int := tabFrom f 0 n
theorem tabFrom_get (xs ys : List Int) : tabFrom (fun i => (xs ++ ys).getD i 0) xs.length ys.length = ys := by
  induction ys generalizing xs with
  | nil => rfl
  | cons y r ih =>
    have := ih (xs ++ [y])
    simp only [List.append_assoc, List.singleton_append, List.length_append, List.length_singleton] at this
    simp only [List.length_cons, tabFrom, this, List.cons.injEq, and_true]
    simp
theorem tab_of {xs : List Int} {n : Nat} (h : xs.length = n) : ∃ f, xs = tab n f := by
  refine ⟨fun i => xs.getD i 0, ?_⟩
  have := tabFrom_get [] xs
  simp only [List.nil_append, List.length_nil, h] at this
  exact this.symm
def fromL (xs : List Int) : List Int :=
  let w := wordL ((xs.drop 0).take 32)
  let x := wordL ((xs.drop 8).take 24)
  let y := wordL ((xs.drop 16).take 16)
  let z := bw .and .u64 (wordL ((xs.drop 24).take 8)) 9223372036854775807
  [m51 w, m51 (bw .or .u64 (shr w 51) (shl64 x 13)), m51 (bw .or .u64 (shr x 38) (shl64 y 26)), m51 (bw .or .u64 (shr y 25) (shl64 z 39)), shr z 12]
def fromO (_ : Nat) (args : List AV) (_ : Am.Heap) : Option (AV × Option Blk) :=
  match args with
  | [.agg [.ints .u8 32 xs]] => some (el (fromL xs), none)
  | _ => none
theorem from_pure {P : Program} {f : FuncId} (F : Fn P f G5 af_field_From) : PureOk P f fromO := by
  refine F.plain fun nid args hp r ha hr => ?_
  unfold fromO at hr
  split at hr
  · rename_i xs
    cases hr
    obtain ⟨⟨⟨hl, _⟩, _⟩, _⟩ := ha
    obtain ⟨k, rfl⟩ := tab_of hl
    exact ⟨rfl, rfl, rfl, by kernel_rfl⟩
  · cases hr
end Go.Am
/- field: Same, Power, Inv; curve: Clamp, X, Public. -/
namespace Go.Am
set_option linter.unusedSimpArgs false
def sameO (_ : Nat) (args : List AV) (_ : Am.Heap) : Option (AV × Option Blk) :=
  match args with
  | [.agg [.ints .u64 5 xs], .agg [.ints .u64 5 ys]] => some (.bool (bytesL xs == bytesL ys && true), none)
  | _ => none
theorem same_pure {P : Program} {f : FuncId} (F : Fn P f G5 af_field_Elem_Same) : PureOk P f sameO := by
  refine F.plain fun nid args hp r ha hr => ?_
  unfold sameO at hr
  split at hr
  · rename_i xs ys
    cases hr
    obtain ⟨⟨⟨hl, _⟩, _⟩, ⟨⟨hl', _⟩, _⟩, _⟩ := ha
    obtain ⟨a, b, c, d, e, rfl⟩ := five hl
    obtain ⟨a', b', c', d', e', rfl⟩ := five hl'
    exact ⟨rfl, rfl, rfl, by kernel_rfl⟩
  · cases hr
/-- The exponent p - 2. -/
def expL : List Int := 235 :: List.replicate 30 255 ++ [127]
def powL (x : List Int) : Nat → List Int
  | 0 => ofL 1
  | n + 1 => if (255 - n = 2 ∨ 255 - n = 4 ∨ 255 - n = 255) then sqL (powL x n) else mulL (sqL (powL x n)) x
def invL (x : List Int) : List Int := powL x 256
def powO (_ : Nat) (args : List AV) (_ : Am.Heap) : Option (AV × Option Blk) :=
  match args with
  | [.agg [.ints .u64 5 xs], .agg [.ints .u8 32 es]] => if es = expL then some (el (invL xs), none) else none
  | _ => none
theorem pow_pure {P : Program} {f : FuncId} (F : Fn P f G5 af_field_Elem_Power) : PureOk P f powO := by
  refine F.plain fun nid args hp r ha hr => ?_
  unfold powO at hr
  split at hr
  · rename_i xs es
    split at hr
    · rename_i he
      subst he
      cases hr
      obtain ⟨⟨⟨hl, _⟩, _⟩, _⟩ := ha
      obtain ⟨a, b, c, d, e, rfl⟩ := five hl
      exact ⟨rfl, rfl, rfl, by kernel_rfl⟩
    · cases hr
  · cases hr
def G6 : Env := envAdd id_field_Elem_Power (.pure powO) (envAdd id_field_Elem_Same (.pure sameO) (envAdd id_field_From (.pure fromO) G5))
theorem inv_pure {P : Program} {f : FuncId} (F : Fn P f G6 af_field_Elem_Inv) : PureOk P f (unO invL) := F.un fun a b c d e => by kernel_rfl
def clampL (ks : List Int) : List Int := (ks.set 0 (bw .and .u8 (ks.getD 0 0) 248)).set 31 (bw .or .u8 (bw .and .u8 (ks.getD 31 0) 127) 64)
def keyO (g : List Int → List Int) (_ : Nat) (args : List AV) (_ : Am.Heap) : Option (AV × Option Blk) :=
  match args with
  | [.agg [.ints .u8 32 xs]] => some (key (g xs), none)
  | _ => none
theorem Fn.keyU {P : Program} {f : FuncId} {Γ : Env} {af : AFn} (F : Fn P f Γ af) {g : List Int → List Int}
    (h : ∀ f : Nat → Int, evFn Γ af [.agg [.ints .u8 32 (tab 32 f)]] ⟨16, []⟩ kV = some (key (g (tab 32 f)), ⟨0, []⟩)) : PureOk P f (keyO g) := by
  refine F.plain fun nid args hp r ha hr => ?_
  unfold keyO at hr
  split at hr
  · rename_i xs
    cases hr
    obtain ⟨⟨⟨hl, _⟩, _⟩, _⟩ := ha
    obtain ⟨k, rfl⟩ := tab_of hl
    exact ⟨rfl, rfl, rfl, h k⟩
  · cases hr
theorem clamp_pure {P : Program} {f : FuncId} {Γ : Env} (F : Fn P f Γ af_curve_Clamp) : PureOk P f (keyO clampL) := F.keyU fun k => by kernel_rfl
end Go.Am
/- curve: X, as the code makes it. -/
namespace Go.Am
set_option linter.unusedSimpArgs false
/-- A function without names given anew, wherever it is called. -/
abbrev Inl (P : Program) (f : FuncId) (Γ : Env) (af : AFn) : Prop := FullOk P f fun args h κ => evFn Γ af args h κ
def inl (Γ : Env) (af : AFn) : Orc := .full fun args h κ => evFn Γ af args h κ
structure L4 where
  x2 : List Int
  z2 : List Int
  x3 : List Int
  z3 : List Int
def ladSwap (b : Int) (s : L4) : L4 := ⟨List.zipWith (swA b) s.x2 s.x3, List.zipWith (swA b) s.z2 s.z3, List.zipWith (swB b) s.x2 s.x3, List.zipWith (swB b) s.z2 s.z3⟩
def ladGo (x1 : List Int) (s : L4) : L4 :=
  let a := addL s.x2 s.z2
  let b := subL s.x2 s.z2
  let c := addL s.x3 s.z3
  let d := subL s.x3 s.z3
  let aa := sqL a
  let bb := sqL b
  let e := subL aa bb
  let da := mulL d a
  let cb := mulL c b
  ⟨mulL aa bb, mulL e (addL aa (mulL e (ofL (w64 121665)))), sqL (addL da cb), mulL x1 (sqL (subL da cb))⟩
def bitL (ks : List Int) (n : Nat) : Int := IntKind.i64.wrap (bw .and .u8 ((ks.getD (n / 8) 0).fdiv (2 ^ (n % 8))) 1)
def ladStep (x1 : List Int) (b : Int) (s : L4) : L4 := ladSwap b (ladGo x1 (ladSwap b s))
def ladL (ks us : List Int) : Nat → L4
  | 0 => ⟨ofL 1, ofL 0, fromL us, ofL 1⟩
  | n + 1 => ladStep (fromL us) (bitL (clampL ks) (254 - n)) (ladL ks us n)
def xL (ks us : List Int) : List Int := bytesL (mulL (ladL ks us 255).x2 (invL (ladL ks us 255).z2))
def keyO2 (g : List Int → List Int → List Int) (_ : Nat) (args : List AV) (_ : Am.Heap) : Option (AV × Option Blk) :=
  match args with
  | [.agg [.ints .u8 32 xs], .agg [.ints .u8 32 ys]] => some (key (g xs ys), none)
  | _ => none
theorem Fn.keyB {P : Program} {f : FuncId} {Γ : Env} {af : AFn} (F : Fn P f Γ af) {g : List Int → List Int → List Int}
    (h : ∀ f g' : Nat → Int, evFn Γ af [.agg [.ints .u8 32 (tab 32 f)], .agg [.ints .u8 32 (tab 32 g')]] ⟨16, []⟩ kV = some (key (g (tab 32 f) (tab 32 g')), ⟨0, []⟩)) : PureOk P f (keyO2 g) := by
  refine F.plain fun nid args hp r ha hr => ?_
  unfold keyO2 at hr
  split at hr
  · rename_i xs ys
    cases hr
    obtain ⟨⟨⟨hl, _⟩, _⟩, ⟨⟨hl', _⟩, _⟩, _⟩ := ha
    obtain ⟨k, rfl⟩ := tab_of hl
    obtain ⟨k', rfl⟩ := tab_of hl'
    exact ⟨rfl, rfl, rfl, h k k'⟩
  · cases hr
def G7 : Env := envAdd id_field_Elem_Inv (.pure (unO invL)) (envAdd id_curve_Clamp (.pure (keyO clampL)) G6)
def G7s : Env := envAdd id_curve_ladder_sums (inl G7 af_curve_ladder_sums) (envAdd id_field_Elem_Times (.pure timesO) G7)
def G8 : Env := envAdd id_curve_ladder_swap (inl G7s af_curve_ladder_swap) (envAdd id_curve_ladder_step (inl G7s af_curve_ladder_step) G7s)
/-! ## X -/
theorem ev_jumps (Γ : Env) (f l : Nat) (cn : Option Canon) (c r : ACode) (st : St) (κ : Kont) : ev Γ (.jumps f l cn c r) st κ = ev Γ c st (kJump cn l (fun s => jumpK cn l (ev Γ r) f s κ) κ) := rfl
theorem ev_seq (Γ : Env) (cn : Option Canon) (a b : ACode) (st : St) (κ : Kont) : ev Γ (.seq cn a b) st κ = ev Γ a st (kSeq Γ cn b κ) := rfl
theorem evFn_eq (Γ : Env) (fn : AFn) (args : List AV) (h : Am.Heap) (κ : AV → Am.Heap → Option Res) : evFn Γ fn args h κ = ev Γ fn.code ⟨args ++ List.replicate (fn.ntmps - args.length) .undef, h⟩ (kFn fn.results κ) := rfl
/-- Slots, of which some are known. -/
def mkTF (l : List (Nat × AV)) : Nat → Nat → List AV
  | _, 0 => []
  | i, n + 1 => (match l with
    | [] => .undef :: mkTF [] (i + 1) n
    | (j, v) :: r => if i = j then v :: mkTF r (i + 1) n else .undef :: mkTF ((j, v) :: r) (i + 1) n)
def mkT (n : Nat) (l : List (Nat × AV)) : List AV := mkTF l 0 n
def pt (id : Nat) : AV := .ptr id 0 0 0 0
def xCn : Option Canon := some ⟨[], [2, 4, 5, 6, 7], [], [16, 18, 19, 340], 468⟩
def xInit : ACode := match af_curve_X.code with | .seq _ a _ => a | c => c
def xHead : ACode := match af_curve_X.code with | .seq _ _ (.jumps _ _ _ c _) => c | c => c
def xRest : ACode := match af_curve_X.code with | .seq _ _ (.jumps _ _ _ _ r) => r | c => c
/-- X, keeping at each jump what is wanted. -/
def afX : AFn := ⟨52, [.cell 4 true 32], .seq none xInit (.jumps 1000 0 xCn xHead xRest)⟩
def cel (id : Nat) (l : List AV) : Cell := ⟨id, false, .segs l⟩
def xSt (i : Int) (ks x1 : List Int) (s : L4) : St :=
  ⟨mkT 52 [(2, pt 16), (4, pt 18), (5, pt 19), (6, pt 340), (7, .int .i64 i)],
   ⟨468, [cel 16 [.ints .u8 32 ks], cel 18 [.ints .u8 32 (List.replicate 32 0)], cel 19 [.ints .u64 5 x1], cel 340 [.ints .u64 5 s.x2, .ints .u64 5 s.z2, .ints .u64 5 s.x3, .ints .u64 5 s.z3]]⟩⟩
def w63 (n : Int) : Int := IntKind.i64.wrap n
def xEnd (s : L4) : List Int := bytesL (mulL s.x2 (invL s.z2))
def xK : Kont := kFn [.cell 4 true 32] kV
theorem xStep (L : St → Option Res) (i : Int) (ks x1 : List Int) (s : L4) : ev G8 xRest (xSt i ks x1 s) (kJump xCn 0 L xK) =
    if 0 ≤ w63 (i.tdiv 8) ∧ w63 (i.tdiv 8) < ((32 : Nat) : Int) then (ks[(w63 (i.tdiv 8)).toNat]?).bind fun c =>
      if i.tmod 8 < 0 then none else
      bif decide (w63 (i - 1) ≥ 0) then L (xSt (w63 (i - 1)) ks x1 (ladStep x1 (w63 (bw .and .u8 (c.fdiv (2 ^ (min (i.tmod 8).toNat IntKind.u8.bits))) 1)) s))
      else some (key (xEnd (ladStep x1 (w63 (bw .and .u8 (c.fdiv (2 ^ (min (i.tmod 8).toNat IntKind.u8.bits))) 1)) s)), ⟨0, []⟩)
    else none := by kernel_rfl
end Go.Am
/- curve: X. -/
namespace Go.Am
set_option linter.unusedSimpArgs false
theorem w63_id {n : Int} (h0 : -9223372036854775808 ≤ n) (h1 : n < 9223372036854775808) : w63 n = n := by
  simp only [w63, IntKind.wrap, IntKind.bits, IntKind.signed]
  have e : ((2 : Int) ^ 64) = 18446744073709551616 := by decide
  have e2 : ((2 : Int) ^ (64 - 1)) = 9223372036854775808 := by decide
  simp only [e, e2, Bool.true_and, decide_eq_true_eq, ge_iff_le]
  split <;> omega
/-- The ladder from a bit on. -/
def ladFrom (ks x1 : List Int) : Nat → L4 → L4
  | 0, s => s
  | n + 1, s => ladFrom ks x1 n (ladStep x1 (bitL ks n) s)
theorem bitL_eq (ks : List Int) (n : Nat) (c : Int) (hc : ks[n / 8]? = some c) : w63 (bw .and .u8 (c.fdiv (2 ^ (min ((n : Int).tmod 8).toNat IntKind.u8.bits))) 1) = bitL ks n := by
  have h1 : ((n : Int).tmod 8).toNat = n % 8 := by
    have : ((n : Int).tmod 8) = ((n % 8 : Nat) : Int) := rfl
    rw [this]; rfl
  have h2 : min (n % 8) IntKind.u8.bits = n % 8 := by simp only [IntKind.bits]; omega
  rw [h1, h2, bitL, List.getD_eq_getElem?_getD, hc]
  rfl
theorem xLoop (ks x1 : List Int) (hk : ks.length = 32) : ∀ n m (s : L4), n < 255 → n < m → jumpK xCn 0 (ev G8 xRest) m (xSt n ks x1 s) xK = some (key (xEnd (ladFrom ks x1 (n + 1) s)), ⟨0, []⟩) := by
  intro n
  induction n with
  | zero =>
    intro m s _ hm
    obtain ⟨m, rfl⟩ : ∃ k, m = k + 1 := ⟨m - 1, by omega⟩
    refine (xStep (fun s => jumpK xCn 0 (ev G8 xRest) m s xK) 0 ks x1 s).trans ?_
    obtain ⟨c, hc⟩ : ∃ c, ks[0]? = some c := ⟨_, List.getElem?_eq_getElem (by omega)⟩
    rw [if_pos (by decide), show (w63 (Int.tdiv 0 8)).toNat = 0 by decide, hc]
    simp only [Option.bind_some]
    rw [if_neg (by decide), show (decide (w63 (0 - 1) ≥ 0)) = false by decide, cond_false]
    have hb : w63 (bw .and .u8 (c.fdiv (2 ^ (min ((0 : Int).tmod 8).toNat IntKind.u8.bits))) 1) = bitL ks 0 := bitL_eq ks 0 c hc
    rw [hb]
    rfl
  | succ n ih =>
    intro m s hn hm
    obtain ⟨m, rfl⟩ : ∃ k, m = k + 1 := ⟨m - 1, by omega⟩
    refine (xStep (fun s => jumpK xCn 0 (ev G8 xRest) m s xK) ((n + 1 : Nat) : Int) ks x1 s).trans ?_
    have hd : ((n + 1 : Nat) : Int).tdiv 8 = (((n + 1) / 8 : Nat) : Int) := rfl
    have hmod : ((n + 1 : Nat) : Int).tmod 8 = (((n + 1) % 8 : Nat) : Int) := rfl
    obtain ⟨c, hc⟩ : ∃ c, ks[(n + 1) / 8]? = some c := ⟨_, List.getElem?_eq_getElem (by omega)⟩
    have hw : w63 (((n + 1) / 8 : Nat) : Int) = (((n + 1) / 8 : Nat) : Int) := w63_id (by omega) (by omega)
    have hp : w63 (((n + 1 : Nat) : Int) - 1) = (n : Int) := by rw [w63_id (by omega) (by omega)]; omega
    have hb := bitL_eq ks (n + 1) c hc
    rw [hmod] at hb
    rw [hd, hw, hmod, if_pos (by omega), Int.toNat_natCast, hc]
    simp only [Option.bind_some]
    rw [if_neg (by omega), hp, hb, show (decide ((n : Int) ≥ 0)) = true by simp, cond_true]
    rw [ih m _ (by omega) (by omega)]
    rfl
theorem ladFrom_eq (ks us : List Int) : ∀ n m, n + m = 255 → ladFrom (clampL ks) (fromL us) n (ladL ks us m) = ladL ks us 255
  | 0, m, h => by rw [show m = 255 by omega]; rfl
  | n + 1, m, h => by
    have := ladFrom_eq ks us n (m + 1) (by omega)
    rw [← this]
    simp only [ladFrom, ladL]
    rw [show 254 - m = n by omega]
theorem kSeq_normal (Γ : Env) (b : ACode) (κ : Kont) (st : St) : kSeq Γ none b κ .normal st = ev Γ b st κ := rfl
theorem xPre (f g : Nat → Int) (κ : Kont) : ev G8 xInit ⟨[.agg [.ints .u8 32 (tab 32 f)], .agg [.ints .u8 32 (tab 32 g)]] ++ List.replicate 50 .undef, ⟨16, []⟩⟩ κ =
    κ .normal ⟨mkT 52 [(0, .agg [.ints .u8 32 (tab 32 f)]), (1, .agg [.ints .u8 32 (tab 32 g)]), (2, pt 16), (3, pt 17), (4, pt 18)], ⟨19, [cel 16 [.ints .u8 32 (tab 32 f)], cel 17 [.ints .u8 32 (tab 32 g)], cel 18 [.ints .u8 32 (List.replicate 32 0)]]⟩⟩ := by kernel_rfl
theorem xFirst (f g : Nat → Int) (L : St → Option Res) : ev G8 xHead ⟨mkT 52 [(0, .agg [.ints .u8 32 (tab 32 f)]), (1, .agg [.ints .u8 32 (tab 32 g)]), (2, pt 16), (3, pt 17), (4, pt 18)], ⟨19, [cel 16 [.ints .u8 32 (tab 32 f)], cel 17 [.ints .u8 32 (tab 32 g)], cel 18 [.ints .u8 32 (List.replicate 32 0)]]⟩⟩ (kJump xCn 0 L xK) =
    L (xSt 253 (clampL (tab 32 f)) (fromL (tab 32 g)) (ladL (tab 32 f) (tab 32 g) 1)) := by kernel_rfl
theorem x_run (f g : Nat → Int) : evFn G8 afX [.agg [.ints .u8 32 (tab 32 f)], .agg [.ints .u8 32 (tab 32 g)]] ⟨16, []⟩ kV = some (key (xL (tab 32 f) (tab 32 g)), ⟨0, []⟩) := by
  rw [evFn_eq]
  refine (ev_seq ..).trans ?_
  refine (xPre f g _).trans ?_
  refine (kSeq_normal ..).trans ?_
  refine (ev_jumps ..).trans ?_
  refine (xFirst f g _).trans ?_
  have hl : (clampL (tab 32 f)).length = 32 := by simp only [clampL, List.length_set]; rfl
  refine (xLoop _ _ hl 253 1000 _ (by omega) (by omega)).trans ?_
  rw [ladFrom_eq _ _ 254 1 rfl]
  rfl
theorem x_pure {P : Program} {f : FuncId} (F : Fn P f G8 afX) : PureOk P f (keyO2 xL) := F.keyB x_run
end Go.Am
