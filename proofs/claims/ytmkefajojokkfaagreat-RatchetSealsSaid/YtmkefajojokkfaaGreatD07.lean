/- RatchetSeals: part 8 of 50 of its proof. -/
import Derived.Test.YtmkefajojokkfaaGreatD06
set_option linter.unusedVariables false
set_option linter.unusedSimpArgs false
namespace Go.Am
set_option linter.unusedSimpArgs false
section
variable {β : Type}
theorem ev_congr {t t' : List AV} {x : Opd} (h : ∀ i ∈ opdReads x, t.getD i .undef = t'.getD i .undef) : x.ev t = x.ev t' := by
  cases x with
  | t i => exact h i (by simp [opdReads])
  | c v => rfl
theorem map_ev_congr {t t' : List AV} {l : List Opd} (h : ∀ i ∈ l.flatMap opdReads, t.getD i .undef = t'.getD i .undef) : l.map (·.ev t) = l.map (·.ev t') :=
  List.map_congr_left fun x hx => ev_congr fun i hi => h i (List.mem_flatMap.2 ⟨x, hx, hi⟩)
theorem opt_ev_congr {t t' : List AV} {x : Option Opd} (h : ∀ i ∈ x.toList.flatMap opdReads, t.getD i .undef = t'.getD i .undef) : x.map (·.ev t) = x.map (·.ev t') := by
  cases x with
  | none => rfl
  | some x => simp only [Option.map_some]; rw [ev_congr (x := x) fun i hi => h i (by simpa using hi)]
theorem putParts_congr {t t' : List AV} : ∀ {ps : List (Nat × Nat × Opd)} {z : List AV}, (∀ i ∈ ps.flatMap fun p => opdReads p.2.2, t.getD i .undef = t'.getD i .undef) → putParts t ps z = putParts t' ps z
  | [], z, _ => rfl
  | (o, n, x) :: r, z, h => by
    simp only [List.flatMap_cons, List.mem_append] at h
    simp only [putParts]
    rw [ev_congr (x := x) fun i hi => h i (.inl hi)]
    congr 1; funext l
    exact putParts_congr fun i hi => h i (.inr hi)
theorem opP_congr {t t' : List AV} {op : AOp} (κ : AV → Option β) (h : ∀ i ∈ op.reads, t.getD i .undef = t'.getD i .undef) : opP op t κ = opP op t' κ := by
  unfold opP
  cases op <;> simp only [] <;>
  (simp only [AOp.reads, List.mem_append] at h
   first
   | rfl
   | (rw [ev_congr h]; done)
   | (simp only [ev_congr h]; done)
   | (rw [ev_congr fun i hi => h i (.inl hi), ev_congr fun i hi => h i (.inr hi)]; done)
   | (simp only [ev_congr fun i hi => h i (.inl hi), ev_congr fun i hi => h i (.inr hi)]; done)
   | (rw [putParts_congr h]; done)
   | (rw [ev_congr fun i hi => h i (.inl (.inl hi)), ev_congr fun i hi => h i (.inl (.inr hi)), ev_congr fun i hi => h i (.inr hi)]; done)
   | (rw [ev_congr fun i hi => h i (.inl (.inl (.inl hi))), opt_ev_congr fun i hi => h i (.inl (.inl (.inr hi))), opt_ev_congr fun i hi => h i (.inl (.inr hi)), opt_ev_congr fun i hi => h i (.inr hi)]; done)
   | (rw [ev_congr fun i hi => h i (.inl (.inl hi)), opt_ev_congr fun i hi => h i (.inl (.inr hi)), opt_ev_congr fun i hi => h i (.inr hi)]; done)
   | (rw [map_ev_congr fun i hi => h i (.inl hi), map_ev_congr fun i hi => h i (.inr hi)]; done)
   | (rw [ev_congr fun i hi => h i (.inl hi), map_ev_congr fun i hi => h i (.inr hi)]; done)
   | (rw [map_ev_congr h]; done))
theorem opR_congr {t t' : List AV} {op : AOp} (hp : Heap) (nid : Nat) (κ : AV → Option Blk → Option β) (h : ∀ i ∈ op.reads, t.getD i .undef = t'.getD i .undef) : opR op t hp nid κ = opR op t' hp nid κ := by
  unfold opR
  cases op <;> simp only [] <;>
  (simp only [AOp.reads, List.mem_append] at h
   first
   | rfl
   | (rw [ev_congr h]; done)
   | (simp only [ev_congr h]; done)
   | (rw [ev_congr fun i hi => h i (.inl hi), ev_congr fun i hi => h i (.inr hi)]; done)
   | (simp only [ev_congr fun i hi => h i (.inl hi), ev_congr fun i hi => h i (.inr hi)]; done)
   | (rw [putParts_congr h]; done)
   | (rw [ev_congr fun i hi => h i (.inl (.inl hi)), ev_congr fun i hi => h i (.inl (.inr hi)), ev_congr fun i hi => h i (.inr hi)]; done)
   | (rw [ev_congr fun i hi => h i (.inl (.inl (.inl hi))), opt_ev_congr fun i hi => h i (.inl (.inl (.inr hi))), opt_ev_congr fun i hi => h i (.inl (.inr hi)), opt_ev_congr fun i hi => h i (.inr hi)]; done)
   | (rw [ev_congr fun i hi => h i (.inl (.inl hi)), opt_ev_congr fun i hi => h i (.inl (.inr hi)), opt_ev_congr fun i hi => h i (.inr hi)]; done)
   | (rw [map_ev_congr fun i hi => h i (.inl hi), map_ev_congr fun i hi => h i (.inr hi)]; done)
   | (rw [ev_congr fun i hi => h i (.inl hi), map_ev_congr fun i hi => h i (.inr hi)]; done)
   | (rw [map_ev_congr h]; done))
theorem opW_congr {Γ : Env} {t t' : List AV} {op : AOp} (hp : Heap) (κ : AV → Heap → Option Res) (h : ∀ i ∈ op.reads, t.getD i .undef = t'.getD i .undef) : opW Γ op t hp κ = opW Γ op t' hp κ := by
  unfold opW
  cases op <;> simp only [] <;>
  (simp only [AOp.reads, List.mem_append] at h
   first
   | rfl
   | (rw [ev_congr h]; done)
   | (simp only [ev_congr h]; done)
   | (rw [ev_congr fun i hi => h i (.inl hi), ev_congr fun i hi => h i (.inr hi)]; done)
   | (simp only [ev_congr fun i hi => h i (.inl hi), ev_congr fun i hi => h i (.inr hi)]; done)
   | (rw [putParts_congr h]; done)
   | (rw [ev_congr fun i hi => h i (.inl (.inl hi)), ev_congr fun i hi => h i (.inl (.inr hi)), ev_congr fun i hi => h i (.inr hi)]; done)
   | (rw [ev_congr fun i hi => h i (.inl (.inl (.inl hi))), opt_ev_congr fun i hi => h i (.inl (.inl (.inr hi))), opt_ev_congr fun i hi => h i (.inl (.inr hi)), opt_ev_congr fun i hi => h i (.inr hi)]; done)
   | (rw [ev_congr fun i hi => h i (.inl (.inl hi)), opt_ev_congr fun i hi => h i (.inl (.inr hi)), opt_ev_congr fun i hi => h i (.inr hi)]; done)
   | (rw [map_ev_congr fun i hi => h i (.inl hi), map_ev_congr fun i hi => h i (.inr hi)]; done)
   | (rw [ev_congr fun i hi => h i (.inl hi), map_ev_congr fun i hi => h i (.inr hi)]; done)
   | (rw [map_ev_congr h]; done))
end
inductive DE where
  | ins (ob : Option Blk)
  | heap (h : Heap)
def DE.app (h : Heap) (id : Nat) : DE → Heap
  | .ins ob => h.ins id ob
  | .heap h' => h'
def dop' (Γ : Env) (n0 i : Nat) (bef : List Nat) (op : AOp) (t : List AV) (h : Heap) : Option (AV × DE) :=
  match dcls Γ op with
  | .P => opP op t fun v => some (v, .ins none)
  | .R =>
    match op with
    | .call f args => (match Γ f with
      | some (.pure o) => (o (n0 + stride * i) (args.map (·.ev t)) (h.hide n0 bef)).bind fun r => some (r.1, .ins r.2)
      | _ => none)
    | op => opR op t (h.hide n0 (seeBy op bef)) (n0 + stride * i) fun v ob => some (v, .ins ob)
  | .W => (opW Γ op t { h with next := n0 + stride * i } kH).bind fun p => if p.2.next ≤ n0 + stride * (i + 1) ∧ keepsShape Γ n0 op h p.2 = true then some (p.1, .heap { p.2 with next := h.next }) else none
variable {P : Program} {Γ : Env}
theorem dop_eq (hΓ : EnvOk P Γ) {n0 i : Nat} {bef : List Nat} {op : AOp} {t : List AV} {h : Heap} {κ : AV → Heap → Option Res} : dop Γ n0 i bef op t h κ = (dop' Γ n0 i bef op t h).bind fun p => κ p.1 (p.2.app h (n0 + stride * i)) := by
  unfold dop dop'
  cases hc : dcls Γ op <;> simp only []
  · rw [opP_factor]
    conv => rhs; rw [opP_factor]
    rw [Option.bind_assoc]; rfl
  · clear hc
    cases op <;> first
      | (rename_i f args
         simp only []
         cases Γ f with
         | none => rfl
         | some o =>
           cases o with
           | full => rfl
           | pure o => simp only []; rw [Option.bind_assoc]; rfl)
      | (simp only []
         rw [opR_factor]
         conv => rhs; rw [opR_factor]
         rw [Option.bind_assoc]; rfl)
  · rw [opW_factor hΓ, Option.bind_assoc]
    congr 1; funext p
    split <;> rfl
def dguard (g : Option (Nat × Bool)) (t : List AV) (run skip : Option (AV × DE)) : Option (AV × DE) :=
  match g with
  | none => run
  | some (i, want) => match t.getD i .undef with
    | .bool b => bif b then (bif want then run else skip) else (bif want then skip else run)
    | .tuple [] => skip
    | _ => none
def dout (Γ : Env) (n0 i : Nat) (bef : List Nat) (o : AOper) (s : List AV × Heap) : Option (AV × DE) :=
  dguard o.guard s.1 (dop' Γ n0 i bef o.op s.1 s.2) (some (.tuple [], .ins none))
def dapp (n0 i : Nat) (o : AOper) (s : List AV × Heap) (p : AV × DE) : List AV × Heap := (putT s.1 o.dst p.1, p.2.app s.2 (n0 + stride * i))
abbrev DS := (List AV × Heap) × Foots
def dstep (Γ : Env) (n0 : Nat) (bs : List (List Nat)) (aos : List AOper) (i : Nat) (s : DS) : Option DS :=
  (aos[i]?).bind fun o => bif okFoot (bs.getD i []) s.2 (foot o.op s.1.1) then (dout Γ n0 i (bs.getD i []) o s.1).map fun p => (dapp n0 i o s.1 p, insF i (foot o.op s.1.1) s.2) else none
def runL (Γ : Env) (n0 : Nat) (bs : List (List Nat)) (aos : List AOper) : List Nat → DS → Option DS
  | [], s => some s
  | i :: L, s => (dstep Γ n0 bs aos i s).bind (runL Γ n0 bs aos L)
theorem evDraw_eq (hΓ : EnvOk P Γ) {n0 : Nat} {bs : List (List Nat)} {aos : List AOper} {κ : List AV → Heap → Option Res} : ∀ (r : List AOper) (i : Nat) (t : List AV) (h : Heap) (F : Foots), aos.drop i = r →
    evDraw Γ n0 bs i r t h F κ = (runL Γ n0 bs aos (List.range' i r.length) ((t, h), F)).bind fun s => κ s.1.1 s.1.2
  | [], i, t, h, F, _ => rfl
  | o :: r, i, t, h, F, hr => by
    have ho : aos[i]? = some o := by
      have := congrArg (·[0]?) hr
      simpa using this
    have hr' : aos.drop (i + 1) = r := by
      rw [← List.drop_drop, hr]; rfl
    simp only [evDraw, List.length_cons, List.range'_succ, runL, dstep, ho, Option.bind_some, dout]
    cases hf : okFoot (bs.getD i []) F (foot o.op t) with
    | false => rfl
    | true =>
    simp only [cond_true]
    have run : ∀ t', t' = t → (dop Γ n0 i (bs.getD i []) o.op t' h fun v h' => evDraw Γ n0 bs (i + 1) r (putT t' o.dst v) h' (insF i (foot o.op t) F) κ) =
        (((dop' Γ n0 i (bs.getD i []) o.op t h).map fun p => (dapp n0 i o (t, h) p, insF i (foot o.op t) F)).bind (runL Γ n0 bs aos (List.range' (i + 1) r.length))).bind fun s => κ s.1.1 s.1.2 := by
      intro t' e
      subst e
      rw [dop_eq hΓ]
      cases hd : dop' Γ n0 i (bs.getD i []) o.op t' h with
      | none => rfl
      | some p => simp only [Option.bind_some, Option.map_some]; exact evDraw_eq hΓ r (i + 1) _ _ _ hr'
    have skip : ∀ t', t' = t → evDraw Γ n0 bs (i + 1) r (putT t' o.dst (.tuple [])) h (insF i (foot o.op t) F) κ =
        (((some (AV.tuple [], DE.ins none)).map fun p => (dapp n0 i o (t, h) p, insF i (foot o.op t) F)).bind (runL Γ n0 bs aos (List.range' (i + 1) r.length))).bind fun s => κ s.1.1 s.1.2 := by
      intro t' e
      subst e
      exact evDraw_eq hΓ r (i + 1) _ _ _ hr'
    unfold guardK dguard
    cases hg : o.guard with
    | none => exact run t rfl
    | some gw =>
      obtain ⟨j, want⟩ := gw
      simp only []
      split
      · rename_i b hb
        have hs := set_self hb
        cases b <;> cases want <;> simp only [cond_true, cond_false, hs, hb] <;> first
          | exact run t rfl
          | exact skip t rfl
      · rename_i hb
        simp only [hb]
        exact skip t rfl
      · rename_i hb hb'
        split
        · rename_i b hb2; exact absurd hb2 (hb b)
        · rename_i hb2; exact absurd hb2 hb'
        · rfl
theorem insF_comm {i j : Nat} {f g : Foot} (h : i ≠ j) : ∀ F, insF i f (insF j g F) = insF j g (insF i f F)
  | [] => by
    simp only [insF]
    by_cases h1 : i < j
    · have h2 : ¬ j < i := by omega
      simp [h1, h2, insF]
    · have h2 : j < i := by omega
      simp [h1, h2, insF]
  | x :: l => by
    simp only [insF]
    by_cases h1 : j < x.1 <;> by_cases h2 : i < x.1 <;> simp only [h1, h2, if_true, if_false, insF]
    · by_cases h3 : i < j
      · have h4 : ¬ j < i := by omega
        simp [h3, h4, insF, h1]
      · have h4 : j < i := by omega
        simp [h3, h4, insF, h2]
    · have h3 : ¬ i < j := by omega
      simp [h3, h1, h2, insF]
    · have h3 : ¬ j < i := by omega
      simp [h3, h1, h2, insF]
    · rw [insF_comm h l]
theorem okFoot_insF {bef : List Nat} {i : Nat} {f g : Foot} : ∀ {F : Foots}, okFoot bef (insF i g F) f = ((bef.contains i || okF f g) && okFoot bef F f)
  | [] => by simp [insF, okFoot]
  | x :: r => by
    simp only [insF]
    split
    · simp [okFoot]
    · have := okFoot_insF (bef := bef) (i := i) (f := f) (g := g) (F := r)
      simp only [okFoot, List.all_cons] at this ⊢
      rw [this]
      cases (bef.contains x.1 || okF f x.2) <;> cases (bef.contains i || okF f g) <;> simp
theorem okF_symm (f g : Foot) : okF f g = okF g f := by cases f <;> cases g <;> rfl
theorem foot_congr {t t' : List AV} {op : AOp} (h : ∀ i ∈ op.reads, t.getD i .undef = t'.getD i .undef) : foot op t = foot op t' := by
  cases op <;> simp only [foot] <;> simp only [AOp.reads, List.mem_append] at h <;> first
    | rw [ev_congr h]
    | rw [ev_congr fun i hi => h i (.inl hi)]
theorem storeK_get {n : Nat} {h h' : Heap} {x v u : AV} (hk : storeK n h x v kH = some (u, h')) {id : Nat} (hid : id ∉ avIds x) : h'.get id = h.get id := by
  unfold storeK at hk
  cases x <;> simp only at hk <;> try (cases hk; done)
  rename_i id0 r e o j
  have hne : id ≠ id0 := fun e => hid (by simp [avIds, e])
  have fin : ∀ b' : Blk, h' = h.set id0 b' → h'.get id = h.get id := fun b' e => by rw [e, get_set, if_neg hne]
  split at hk <;> try (cases hk; done)
  rename_i b _
  split at hk
  · split at hk <;> try (cases hk; done)
    rw [show (fun b' => kH .undef (h.set id0 b')) = (fun b' => (some b').bind fun b' => kH .undef (h.set id0 b')) from rfl, wrAgg_factor] at hk
    cases hw : wrAgg b r e o n _ some with
    | none => rw [hw] at hk; cases hk
    | some b' => rw [hw] at hk; simp only [Option.bind_some, kH, Option.some.injEq, Prod.mk.injEq] at hk; exact fin b' hk.2.symm
  · split at hk <;> try (cases hk; done)
    rw [show (fun b' => kH .undef (h.set id0 b')) = (fun b' => (some b').bind fun b' => kH .undef (h.set id0 b')) from rfl, wrCell_factor] at hk
    cases hw : wrCell b r e o j _ some with
    | none => rw [hw] at hk; cases hk
    | some b' => rw [hw] at hk; simp only [Option.bind_some, kH, Option.some.injEq, Prod.mk.injEq] at hk; exact fin b' hk.2.symm
theorem get_insB_ne {id : Nat} {c : Cell} (h : c.id ≠ id) : ∀ l, findB id (insB c l) = findB id l
  | [] => by simp [insB, findB, h]
  | d :: r => by
    simp only [insB]
    split
    · simp [findB, h]
    · simp only [findB]; rw [get_insB_ne h r]
theorem new_get_ne {h : Heap} {b : Blk} {id : Nat} (hn : id ≠ h.next) : (h.new b).get id = h.get id := get_insB_ne (by exact Ne.symm hn) _
theorem appendIK_get {k : IntKind} {bytes : Nat} {h h' : Heap} {s x u : AV} (hk : appendIK k bytes h s x kH = some (u, h')) {id : Nat} (hid : id ∉ avIds s) (hn : id ≠ h.next) : h'.get id = h.get id := by
  unfold appendIK at hk
  split at hk <;> try (cases hk; done)
  split at hk <;> try (cases hk; done)
  · split at hk <;> try (cases hk; done)
    simp only [kH, Option.some.injEq, Prod.mk.injEq] at hk
    rw [← hk.2, new_get_ne hn]
  · split at hk <;> try (cases hk; done)
    simp only [kH, Option.some.injEq, Prod.mk.injEq] at hk
    rw [← hk.2, new_get_ne hn]
  · rename_i id0 o j len cap
    have hne : id ≠ id0 := fun e => hid (by simp [avIds, e])
    split at hk <;> try (cases hk; done)
    split at hk <;> try (cases hk; done)
    split at hk <;> try (cases hk; done)
    split at hk
    · split at hk <;> try (cases hk; done)
      simp only [kH, Option.some.injEq, Prod.mk.injEq] at hk
      rw [← hk.2, new_get_ne (by exact hn), get_del, if_neg hne]
    · split at hk
      · split at hk
        · simp only [kH, Option.some.injEq, Prod.mk.injEq] at hk
          rw [← hk.2]
        split at hk <;> try (cases hk; done)
        split at hk <;> try (cases hk; done)
        split at hk <;> try (cases hk; done)
        split at hk <;> try (cases hk; done)
        cases hr : repSeg _ _ _ with
        | none => rw [hr] at hk; cases hk
        | some l' =>
          rw [hr] at hk
          simp only [Option.bind_some, kH, Option.some.injEq, Prod.mk.injEq] at hk
          rw [← hk.2, get_set, if_neg hne]
      · simp only [kH, Option.some.injEq, Prod.mk.injEq] at hk
        rw [← hk.2, new_get_ne hn]
theorem appendRK_get {e bytes : Nat} {h h' : Heap} {s x u : AV} (hk : appendRK e bytes h s x kH = some (u, h')) {id : Nat} (hid : id ∉ avIds s) (hn : id ≠ h.next) : h'.get id = h.get id := by
  unfold appendRK at hk
  split at hk <;> try (cases hk; done)
  split at hk <;> try (cases hk; done)
  · split at hk <;> try (cases hk; done)
    simp only [kH, Option.some.injEq, Prod.mk.injEq] at hk
    rw [← hk.2, new_get_ne hn]
  · split at hk <;> try (cases hk; done)
    simp only [kH, Option.some.injEq, Prod.mk.injEq] at hk
    rw [← hk.2, new_get_ne hn]
  · rename_i id0 o j len e' cap
    have hne : id ≠ id0 := fun e => hid (by simp [avIds, e])
    split at hk <;> try (cases hk; done)
    split at hk <;> try (cases hk; done)
    split at hk <;> try (cases hk; done)
    split at hk
    · split at hk <;> try (cases hk; done)
      simp only [kH, Option.some.injEq, Prod.mk.injEq] at hk
      rw [← hk.2, new_get_ne (by exact hn), get_del, if_neg hne]
    · split at hk
      · split at hk <;> try (cases hk; done)
        simp only [kH, Option.some.injEq, Prod.mk.injEq] at hk
        rw [← hk.2]
      · simp only [kH, Option.some.injEq, Prod.mk.injEq] at hk
        rw [← hk.2, new_get_ne hn]
theorem copyIK_get {h h' : Heap} {d s u : AV} (hk : copyIK h d s kH = some (u, h')) {id : Nat} (hid : id ∉ avIds d) : h'.get id = h.get id := by
  unfold copyIK at hk
  split at hk <;> try (cases hk; done)
  rename_i id0 o j len cap
  have hne : id ≠ id0 := fun e => hid (by simp [avIds, e])
  split at hk <;> try (cases hk; done)
  split at hk <;> try (cases hk; done)
  split at hk <;> try (cases hk; done)
  split at hk <;> try (cases hk; done)
  cases hr : repSeg _ _ _ with
  | none => rw [hr] at hk; cases hk
  | some l' =>
    rw [hr] at hk
    simp only [Option.bind_some, kH, Option.some.injEq, Prod.mk.injEq] at hk
    rw [← hk.2, get_set, if_neg hne]
theorem opW_get {op : AOp} {t : List AV} {h h' : Heap} {u : AV} (hm : op.marks = true) (hk : opW Γ op t h kH = some (u, h')) {id : Nat} (hid : okF (.ld id) (foot op t) = true) (hn : id ≠ h.next) : h'.get id = h.get id := by
  cases op <;> first | (simp [AOp.marks] at hm; done) | skip
  · exact storeK_get hk (by simpa [okF, foot] using hid)
  · exact appendIK_get hk (by simpa [okF, foot] using hid) hn
  · exact appendRK_get hk (by simpa [okF, foot] using hid) hn
  · exact copyIK_get hk (by simpa [okF, foot] using hid)
theorem putT_getD_ne {t : List AV} {dst : Option Nat} {v : AV} {k : Nat} (h : dst ≠ some k) : (putT t dst v).getD k .undef = t.getD k .undef := by
  cases dst with
  | none => rfl
  | some d =>
    have : d ≠ k := fun e => h (by rw [e])
    simp [putT, List.getD_eq_getElem?_getD, List.getElem?_set_ne this]
theorem putT_comm {t : List AV} {x y : Option Nat} {u v : AV} (h : ∀ d, x = some d → y ≠ some d) : putT (putT t x u) y v = putT (putT t y v) x u := by
  cases x with
  | none => rfl
  | some d => cases y with
    | none => rfl
    | some e =>
      have hne : d ≠ e := fun he => h d rfl (by rw [he])
      simp only [putT]
      exact List.set_comm _ _ hne
theorem insB_comm {c d : Cell} (h : c.id ≠ d.id) : ∀ l, insB c (insB d l) = insB d (insB c l)
  | [] => by
    simp only [insB]
    by_cases h1 : c.id < d.id
    · have h2 : ¬ d.id < c.id := by omega
      simp [h1, h2, insB]
    · have h2 : d.id < c.id := by omega
      simp [h1, h2, insB]
  | x :: l => by
    simp only [insB]
    by_cases h1 : d.id < x.id <;> by_cases h2 : c.id < x.id <;> simp only [h1, h2, if_true, if_false, insB]
    · by_cases h3 : c.id < d.id
      · have h4 : ¬ d.id < c.id := by omega
        simp [h3, h4, insB, h1]
      · have h4 : d.id < c.id := by omega
        simp [h3, h4, insB, h2]
    · have h3 : ¬ c.id < d.id := by omega
      simp [h3, h1, h2, insB]
    · have h3 : ¬ d.id < c.id := by omega
      simp [h3, h1, h2, insB]
    · rw [insB_comm h l]
theorem ins_comm {h : Heap} {i j : Nat} {a b : Option Blk} (hne : i ≠ j) : (h.ins i a).ins j b = (h.ins j b).ins i a := by
  cases a <;> cases b <;> simp only [Heap.ins]
  rw [insB_comm (by exact Ne.symm hne)]
theorem filter_insB {f : Nat → Bool} {c : Cell} (hc : f c.id = false) : ∀ l : List Cell, (insB c l).filter (fun x => f x.id) = l.filter (fun x => f x.id)
  | [] => by simp [insB, hc]
  | x :: l => by
    simp only [insB]
    split
    · simp [List.filter_cons, hc]
    · simp only [List.filter_cons]
      rw [filter_insB hc l]
theorem hide_ins {h : Heap} {n0 i : Nat} {bef : List Nat} {ob : Option Blk} (hb : bef.contains i = false) : (h.ins (n0 + stride * i) ob).hide n0 bef = h.hide n0 bef := by
  cases ob with
  | none => rfl
  | some b =>
    simp only [Heap.ins, Heap.hide]
    rw [filter_insB]
    have h1 : ¬ (n0 + stride * i < n0) := by omega
    have h2 : (n0 + stride * i - n0) / stride = i := by rw [Nat.add_sub_cancel_left]; simp [stride]
    simp only [seenB, h2, hb, Bool.or_false, decide_eq_false_iff_not]
    exact h1
theorem dop'_congr {n0 i : Nat} {bef : List Nat} {op : AOp} {t t' : List AV} {h : Heap} (hr : ∀ k ∈ op.reads, t.getD k .undef = t'.getD k .undef) : dop' Γ n0 i bef op t h = dop' Γ n0 i bef op t' h := by
  unfold dop'
  cases hc : dcls Γ op <;> simp only []
  · exact opP_congr _ hr
  · clear hc
    cases op <;> first
      | (simp only [AOp.reads] at hr
         simp only [map_ev_congr hr])
      | exact opR_congr _ _ _ hr
  · rw [opW_congr _ _ hr]
theorem dout_congr {n0 i : Nat} {bef : List Nat} {o : AOper} {t t' : List AV} {h : Heap} (hr : ∀ k ∈ o.looks, t.getD k .undef = t'.getD k .undef) : dout Γ n0 i bef o (t, h) = dout Γ n0 i bef o (t', h) := by
  simp only [AOper.looks, List.mem_append] at hr
  unfold dout
  simp only []
  rw [dop'_congr fun k hk => hr k (.inl hk)]
  unfold dguard
  split
  · rfl
  · rename_i g want hg
    rw [hr g (.inr (by simp [hg]))]
theorem dout_P {n0 i : Nat} {bef : List Nat} {o : AOper} {t : List AV} {h h' : Heap} (hc : dcls Γ o.op = .P) : dout Γ n0 i bef o (t, h) = dout Γ n0 i bef o (t, h') := by
  unfold dout dop'
  simp only [hc]
theorem dout_R {n0 i : Nat} {bef : List Nat} {o : AOper} {t : List AV} {h h' : Heap} (hc : dcls Γ o.op = .R) (hh : h.hide n0 bef = h'.hide n0 bef) (hh0 : h.hide n0 [] = h'.hide n0 []) : dout Γ n0 i bef o (t, h) = dout Γ n0 i bef o (t, h') := by
  have hs : ∀ op : AOp, h.hide n0 (seeBy op bef) = h'.hide n0 (seeBy op bef) := fun op => by
    unfold seeBy
    cases op.isShape <;> simp only [cond_true, cond_false, hh, hh0]
  unfold dout dop'
  simp only [hc, hh, hs]
theorem dguard_some {g : Option (Nat × Bool)} {t : List AV} {run skip : Option (AV × DE)} {p : AV × DE} (h : dguard g t run skip = some p) : run = some p ∨ skip = some p := by
  unfold dguard at h
  split at h
  · exact .inl h
  · split at h
    · rename_i want _ b _
      cases b <;> cases want <;> simp only [cond_true, cond_false] at h <;> first
        | exact .inl h
        | exact .inr h
    · exact .inr h
    · cases h
theorem dout_P_ins {n0 i : Nat} {bef : List Nat} {o : AOper} {s : List AV × Heap} {p : AV × DE} (hc : dcls Γ o.op = .P) (h : dout Γ n0 i bef o s = some p) : p.2 = .ins none := by
  unfold dout at h
  rcases dguard_some h with h | h
  · unfold dop' at h
    simp only [hc] at h
    rw [opP_factor] at h
    cases hr : opP o.op s.1 some with
    | none => rw [hr] at h; cases h
    | some v => rw [hr] at h; cases h; rfl
  · cases h; rfl
theorem dout_R_ins {n0 i : Nat} {bef : List Nat} {o : AOper} {s : List AV × Heap} {p : AV × DE} (hc : dcls Γ o.op = .R) (h : dout Γ n0 i bef o s = some p) : ∃ ob, p.2 = .ins ob := by
  unfold dout at h
  rcases dguard_some h with h | h
  · unfold dop' at h
    simp only [hc] at h
    split at h
    · split at h
      · rename_i o' _
        cases hr : o' _ _ _ with
        | none => rw [hr] at h; cases h
        | some v => rw [hr] at h; cases h; exact ⟨_, rfl⟩
      · cases h
    · rw [opR_factor] at h
      cases hr : opR o.op s.1 (s.2.hide n0 (seeBy o.op bef)) (n0 + stride * i) kB with
      | none => rw [hr] at h; cases h
      | some v => rw [hr] at h; cases h; exact ⟨_, rfl⟩
  · cases h; exact ⟨_, rfl⟩
theorem dout_load_ins {n0 i : Nat} {bef : List Nat} {o : AOper} {s : List AV × Heap} {v : AV} {e : DE} (hl : o.op.isLoad = true) (h : dout Γ n0 i bef o s = some (v, e)) : True ∧ e = .ins none := by
  refine ⟨trivial, ?_⟩
  obtain ⟨dst, op, g, aft⟩ := o
  cases op <;> first | (simp [AOp.isLoad] at hl; done) | skip
  unfold dout at h
  rcases dguard_some h with h | h
  · simp only [dop', dcls, AOp.cls, opR, seeBy, AOp.isShape, cond_false] at h
    rw [loadK_factor] at h
    cases hr : loadK _ _ (s.2.hide n0 bef) _ some with
    | none => rw [hr] at h; cases h
    | some v => rw [hr] at h; cases h; rfl
  · cases h; rfl
theorem loadK_get {β : Type} {agg : Bool} {n : Nat} {h h' : Heap} {x : AV} (κ : AV → Option β) (hg : ∀ id, (match x with | .ptr id .. => Foot.ld id | .win id .. => Foot.ld id | _ => Foot.none) = .ld id → h'.get id = h.get id) : loadK agg n h' x κ = loadK agg n h x κ := by
  unfold loadK
  cases x <;> simp only [] <;> first
    | rfl
    | rw [hg _ rfl]
theorem dout_load {n0 i : Nat} {bef : List Nat} {o : AOper} {t : List AV} {h h' : Heap} (hl : o.op.isLoad = true) (hg : ∀ id, foot o.op t = .ld id → (h'.hide n0 bef).get id = (h.hide n0 bef).get id) : dout Γ n0 i bef o (t, h') = dout Γ n0 i bef o (t, h) := by
  obtain ⟨dst, op, g, aft⟩ := o
  cases op <;> first | (simp [AOp.isLoad] at hl; done) | skip
  simp only [dout, dop', dcls, AOp.cls, opR, seeBy, AOp.isShape, cond_false]
  rw [loadK_get _ hg]
theorem hide_get_of {h h' : Heap} {n0 : Nat} {bef : List Nat} {id : Nat} (hg : seenB n0 bef id = true → h'.get id = h.get id) : (h'.hide n0 bef).get id = (h.hide n0 bef).get id := by
  simp only [Heap.get, Heap.hide] at hg ⊢
  rw [findB_filter (f := seenB n0 bef), findB_filter (f := seenB n0 bef)]
  split
  · rename_i hs; exact hg hs
  · rfl
theorem dout_W_get {n0 j : Nat} {bef bef' : List Nat} {o : AOper} {t : List AV} {h : Heap} {u : AV} {e : DE} (hc : dcls Γ o.op = .W) (hm : o.op.marks = true) (hk : dout Γ n0 j bef o (t, h) = some (u, e)) (hj : bef'.contains j = false) {id : Nat} (hid : okF (.ld id) (foot o.op t) = true) :
    ((e.app h (n0 + stride * j)).hide n0 bef').get id = (h.hide n0 bef').get id := by
  refine hide_get_of fun hs => ?_
  unfold dout at hk
  rcases dguard_some hk with hk | hk
  · unfold dop' at hk
    simp only [hc] at hk
    cases hr : opW Γ o.op t { h with next := n0 + stride * j } kH with
    | none => rw [hr] at hk; cases hk
    | some q =>
      obtain ⟨v, h1⟩ := q
      rw [hr] at hk
      simp only [Option.bind_some] at hk
      split at hk <;> try (cases hk; done)
      cases hk
      have hn : id ≠ n0 + stride * j := by
        rintro rfl
        have h1 : ¬ (n0 + stride * j < n0) := by omega
        have h2 : (n0 + stride * j - n0) / stride = j := by rw [Nat.add_sub_cancel_left]; simp [stride]
        simp only [seenB, h2, hj, Bool.or_false, decide_eq_true_eq] at hs
        exact h1 hs
      exact opW_get hm hr hid hn
  · cases hk; rfl
theorem arrFits_shape {n0 : Nat} {h h' : Heap} {n e : Nat} {x : AV} (hs : shapeOf n0 h = shapeOf n0 h') : arrFits (h.hide n0 []) n e x = arrFits (h'.hide n0 []) n e x := by
  have key : ∀ (id : Nat) (l l' : List Cell), (l.map fun c => (c.id, match c.blk with | .segs l => some (sizeL l) | _ => none)) = (l'.map fun c => (c.id, match c.blk with | .segs l => some (sizeL l) | _ => none)) →
      ((findB id l).map fun c => match c.blk with | .segs l => some (sizeL l) | _ => none) = ((findB id l').map fun c => match c.blk with | .segs l => some (sizeL l) | _ => none) := by
    intro id l
    induction l with
    | nil => intro l' h; cases l' with
      | nil => rfl
      | cons => cases h
    | cons c r ih => intro l' h; cases l' with
      | nil => cases h
      | cons c' r' =>
        simp only [List.map_cons, List.cons.injEq, Prod.mk.injEq] at h
        obtain ⟨⟨h1, h2⟩, h3⟩ := h
        simp only [findB, h1]
        split
        · simp only [Option.map_some, h2]
        · exact ih r' h3
  unfold arrFits
  cases x <;> simp only []
  rename_i id _ _ o _
  have hk := key id _ _ hs
  simp only [Heap.get] at *
  cases h1 : findB id (h.hide n0 []).blks <;> cases h2 : findB id (h'.hide n0 []).blks <;> simp only [h1, h2, Option.map_some, Option.map_none] at hk <;> first | rfl | (cases hk; done) | skip
  rename_i c c'
  obtain ⟨i1, r1, b1⟩ := c
  obtain ⟨i2, r2, b2⟩ := c'
  simp only [Option.some.injEq] at hk
  cases b1 <;> cases b2 <;> simp only [Option.some.injEq] at hk <;> first | rfl | (cases hk; done) | (simp only [hk])
theorem dop_shape {n0 i : Nat} {bef : List Nat} {n e : Nat} {x : Opd} {lo hi mx : Option Opd} {t : List AV} {h : Heap} : dop' Γ n0 i bef (.slArr n e x lo hi mx) t h =
    if arrFits (h.hide n0 []) n e (x.ev t) = true then slArrK n e (x.ev t) (lo.map (·.ev t)) (hi.map (·.ev t)) (mx.map (·.ev t)) (fun v => some (v, DE.ins none)) else none := rfl
theorem dout_shape {n0 i : Nat} {bef : List Nat} {o : AOper} {t : List AV} {h h' : Heap} (hl : o.op.isShape = true) (hs : shapeOf n0 h = shapeOf n0 h') : dout Γ n0 i bef o (t, h') = dout Γ n0 i bef o (t, h) := by
  obtain ⟨dst, op, g, aft⟩ := o
  cases op <;> first | (simp [AOp.isShape] at hl; done) | skip
  unfold dout
  show dguard g t (dop' Γ n0 i bef _ t h') _ = dguard g t (dop' Γ n0 i bef _ t h) _
  rw [dop_shape, dop_shape, arrFits_shape hs]
theorem dout_shape_ins {n0 i : Nat} {bef : List Nat} {o : AOper} {s : List AV × Heap} {v : AV} {e : DE} (hl : o.op.isShape = true) (h : dout Γ n0 i bef o s = some (v, e)) : e = .ins none := by
  obtain ⟨dst, op, g, aft⟩ := o
  cases op <;> first | (simp [AOp.isShape] at hl; done) | skip
  unfold dout at h
  rcases dguard_some h with h | h
  · simp only [] at h
    rw [dop_shape] at h
    split at h <;> try (cases h; done)
    rw [slArrK_factor] at h
    cases hr : slArrK _ _ _ _ _ _ some with
    | none => rw [hr] at h; cases h
    | some v => rw [hr] at h; cases h; rfl
  · cases h; rfl
theorem dout_W_shape {n0 j : Nat} {bef : List Nat} {o : AOper} {t : List AV} {h : Heap} {u : AV} {e : DE} (hc : dcls Γ o.op = .W) (hm : o.op.keeps Γ = true) (hk : dout Γ n0 j bef o (t, h) = some (u, e)) :
    shapeOf n0 h = shapeOf n0 (e.app h (n0 + stride * j)) := by
  unfold dout at hk
  rcases dguard_some hk with hk | hk
  · unfold dop' at hk
    simp only [hc] at hk
    cases hr : opW Γ o.op t { h with next := n0 + stride * j } kH with
    | none => rw [hr] at hk; cases hk
    | some q =>
      obtain ⟨v, h1⟩ := q
      rw [hr] at hk
      simp only [Option.bind_some] at hk
      split at hk <;> try (cases hk; done)
      rename_i hg
      cases hk
      have := hg.2
      simp only [keepsShape, hm, Bool.not_true, Bool.false_or, beq_iff_eq] at this
      exact this
  · cases hk; rfl
theorem dstep_swap {n0 i j : Nat} {bi bj : List Nat} {x y : AOper} {s : List AV × Heap} {p q : AV × DE} (hij : i ≠ j) (hok : okPair Γ x y = true) (hi : bj.contains i = false) (hj : bi.contains j = false)
    (hF : okF (foot x.op s.1) (foot y.op s.1) = true) (h1 : dout Γ n0 i bi x s = some p) (h2 : dout Γ n0 j bj y (dapp n0 i x s p) = some q) :
    dout Γ n0 j bj y s = some q ∧ dout Γ n0 i bi x (dapp n0 j y s q) = some p ∧ dapp n0 i x (dapp n0 j y s q) p = dapp n0 j y (dapp n0 i x s p) q := by
  obtain ⟨t, h⟩ := s
  obtain ⟨v, e⟩ := p
  obtain ⟨u, f⟩ := q
  simp only [okPair, Bool.and_eq_true] at hok
  obtain ⟨hap, hcl⟩ := hok
  have a1 : ∀ d, x.dst = some d → d ∉ y.looks ∧ y.dst ≠ some d := by
    intro d hd
    simp only [AOper.apart, hd, Bool.and_eq_true, Bool.not_eq_true', List.contains_eq_mem, decide_eq_false_iff_not, bne_iff_ne] at hap
    exact hap.1
  have a2 : ∀ d, y.dst = some d → d ∉ x.looks := by
    intro d hd
    simp only [AOper.apart, hd, Bool.and_eq_true, Bool.not_eq_true', List.contains_eq_mem, decide_eq_false_iff_not] at hap
    exact hap.2
  have ty : ∀ h' : Heap, dout Γ n0 j bj y (putT t x.dst v, h') = dout Γ n0 j bj y (t, h') := fun h' => dout_congr fun k hk => putT_getD_ne fun e => (a1 k e).1 hk
  have tx : ∀ h' : Heap, dout Γ n0 i bi x (putT t y.dst u, h') = dout Γ n0 i bi x (t, h') := fun h' => dout_congr fun k hk => putT_getD_ne fun e => a2 k e hk
  simp only [dapp] at h2 ⊢
  rw [ty] at h2
  rw [tx]
  have hne : n0 + stride * i ≠ n0 + stride * j := by simp only [stride]; omega
  have tt : putT (putT t y.dst u) x.dst v = putT (putT t x.dst v) y.dst u := (putT_comm fun d hd => (a1 d hd).2).symm
  cases hcx : dcls Γ x.op <;> cases hcy : dcls Γ y.op <;> simp only [hcx, hcy] at hcl <;> first | (cases hcl; done) | skip
  case P.P =>
    have e1 := dout_P_ins hcx h1
    rw [dout_P hcy (h' := h)] at h2
    have e2 := dout_P_ins hcy h2
    simp only at e1 e2
    subst e1 e2
    exact ⟨h2, by rw [dout_P hcx (h' := h)]; exact h1, by simp only [DE.app, Heap.ins, tt]⟩
  case P.R =>
    have e1 := dout_P_ins hcx h1
    simp only at e1
    subst e1
    simp only [DE.app, Heap.ins] at h2 ⊢
    refine ⟨h2, by rw [dout_P hcx (h' := h)]; exact h1, by rw [tt]⟩
  case P.W =>
    have e1 := dout_P_ins hcx h1
    simp only at e1
    subst e1
    simp only [DE.app, Heap.ins] at h2 ⊢
    refine ⟨h2, by rw [dout_P hcx (h' := h)]; exact h1, ?_⟩
    rw [tt]
  case R.P =>
    rw [dout_P hcy (h' := h)] at h2
    have e2 := dout_P_ins hcy h2
    simp only at e2
    subst e2
    simp only [DE.app, Heap.ins]
    refine ⟨h2, h1, by rw [tt]⟩
  case W.P =>
    rw [dout_P hcy (h' := h)] at h2
    have e2 := dout_P_ins hcy h2
    simp only at e2
    subst e2
    simp only [DE.app, Heap.ins]
    refine ⟨h2, h1, ?_⟩
    rw [tt]
  case R.W =>
    simp only [Bool.or_eq_true, Bool.and_eq_true] at hcl
    rcases hcl with hcl | hcl
    · obtain ⟨f0, rfl⟩ := dout_load_ins hcl.1 h1
      simp only [DE.app, Heap.ins] at h2 ⊢
      refine ⟨h2, ?_, ?_⟩
      · rw [← h1]
        refine dout_load hcl.1 fun id hid => ?_
        exact dout_W_get hcy hcl.2 h2 hj (by rw [← hid]; exact hF)
      · rw [tt]
    · obtain rfl := dout_shape_ins hcl.1 h1
      simp only [DE.app, Heap.ins] at h2 ⊢
      refine ⟨h2, ?_, ?_⟩
      · rw [← h1]
        exact dout_shape hcl.1 (dout_W_shape hcy hcl.2 h2)
      · rw [tt]
  case W.R =>
    simp only [Bool.or_eq_true, Bool.and_eq_true] at hcl
    rcases hcl with hcl | hcl
    · obtain ⟨f0, rfl⟩ := dout_load_ins hcl.2 h2
      have h3 : dout Γ n0 j bj y (t, h) = some (u, .ins none) := by
        rw [← h2]
        refine (dout_load hcl.2 fun id hid => ?_).symm
        exact dout_W_get hcx hcl.1 h1 hi (by rw [← hid, okF_symm]; exact hF)
      simp only [DE.app, Heap.ins] at h2 ⊢
      refine ⟨h3, h1, ?_⟩
      rw [tt]
    · obtain rfl := dout_shape_ins hcl.2 h2
      have h3 : dout Γ n0 j bj y (t, h) = some (u, .ins none) := by
        rw [← h2]
        exact (dout_shape hcl.2 (dout_W_shape hcx hcl.1 h1)).symm
      simp only [DE.app, Heap.ins] at h2 ⊢
      refine ⟨h3, h1, ?_⟩
      rw [tt]
  case R.R =>
    obtain ⟨oa, e1⟩ := dout_R_ins hcx h1
    simp only at e1
    subst e1
    simp only [DE.app] at h2 ⊢
    rw [dout_R hcy (h' := h) (hide_ins hi) (hide_ins rfl)] at h2
    obtain ⟨ob, e2⟩ := dout_R_ins hcy h2
    simp only at e2
    subst e2
    simp only []
    refine ⟨h2, by rw [dout_R hcx (h' := h) (hide_ins hj) (hide_ins rfl)]; exact h1, ?_⟩
    rw [tt, ins_comm (Ne.symm hne)]
theorem befs_spec : ∀ (aos : List AOper) (acc : List (List Nat)), (befs aos acc).length = acc.length + aos.length ∧ (befs aos acc).take acc.length = acc ∧
    ∀ (k : Nat) o, aos[k]? = some o → (befs aos acc)[acc.length + k]? = some (befOf ((befs aos acc).take (acc.length + k)) o.aft)
  | [], acc => ⟨by simp [befs], by simp [befs], fun k o h => by simp at h⟩
  | o :: r, acc => by
    obtain ⟨h1, h2, h3⟩ := befs_spec r (acc ++ [befOf acc o.aft])
    simp only [List.length_append, List.length_cons, List.length_nil, Nat.zero_add] at h1 h2 h3
    have ht : (befs r (acc ++ [befOf acc o.aft])).take acc.length = acc := by
      have := congrArg (List.take acc.length) h2
      rw [List.take_take] at this
      simpa using this
    refine ⟨by simp only [befs, List.length_cons]; omega, ht, fun k o' hk => ?_⟩
    simp only [befs]
    cases k with
    | zero =>
      simp only [List.getElem?_cons_zero, Option.some.injEq] at hk
      subst hk
      have h4 : (befs r (acc ++ [befOf acc o.aft]))[acc.length]? = (acc ++ [befOf acc o.aft])[acc.length]? := by
        have := congrArg (·[acc.length]?) h2
        simp only [List.getElem?_take, show acc.length < acc.length + 1 by omega, if_true] at this
        exact this
      rw [Nat.add_zero, h4, ht]
      simp
    | succ k =>
      have := h3 k o' (by simpa using hk)
      rw [show acc.length + (k + 1) = acc.length + 1 + k by omega]
      exact this
theorem befs_mem {aos : List AOper} {k : Nat} {o : AOper} (hk : aos[k]? = some o) (ha : ∀ j ∈ o.aft, j < k) {i : Nat} : i ∈ (befs aos []).getD k [] ↔ i ∈ o.aft ∨ ∃ j ∈ o.aft, i ∈ (befs aos []).getD j [] := by
  obtain ⟨h1, h2, h3⟩ := befs_spec aos []
  have := h3 k o hk
  simp only [List.length_nil, Nat.zero_add] at this
  rw [List.getD_eq_getElem?_getD, this]
  simp only [Option.getD_some, befOf, List.mem_append, List.mem_flatMap]
  refine or_congr Iff.rfl ⟨fun ⟨j, hj, hi⟩ => ⟨j, hj, ?_⟩, fun ⟨j, hj, hi⟩ => ⟨j, hj, ?_⟩⟩ <;>
    simpa [List.getD_eq_getElem?_getD, List.getElem?_take, ha j hj] using hi
section
variable {P : Program} {Γ : Env}
def lowAft : List Oper → List AOper → Bool
  | [], [] => true
  | o :: r, ao :: s => (o.after.toList.filter (Region.binds .any)).map (·.on) == ao.aft && lowAft r s
  | _, _ => false
theorem lowAft_get : ∀ {os : List Oper} {aos : List AOper}, lowAft os aos = true → ∀ (k : Nat) o ao, os[k]? = some o → aos[k]? = some ao → (o.after.toList.filter (Region.binds .any)).map (·.on) = ao.aft
  | [], [], _, k, o, ao, h, _ => by simp at h
  | o :: r, ao :: s, h, k, o', ao', e1, e2 => by
    simp only [lowAft, Bool.and_eq_true, beq_iff_eq] at h
    cases k with
    | zero => simp at e1 e2; subst e1 e2; exact h.1
    | succ k => exact lowAft_get h.2 k _ _ (by simpa using e1) (by simpa using e2)
  | [], _ :: _, h, _, _, _, _, _ => by simp [lowAft] at h
  | _ :: _, [], h, _, _, _, _, _ => by simp [lowAft] at h
theorem okRest_get {bs : List (List Nat)} {j : Nat} {x : AOper} : ∀ {r : List AOper} {i : Nat}, okRest Γ j x bs i r = true → ∀ (k : Nat) y, r[k]? = some y → (bs.getD (i + k) []).contains j = true ∨ okPair Γ x y = true
  | [], _, _, k, y, h => by simp at h
  | z :: r, i, h, k, y, hk => by
    simp only [okRest, Bool.and_eq_true, Bool.or_eq_true] at h
    cases k with
    | zero => simp at hk; subst hk; exact h.1
    | succ k =>
      have := okRest_get h.2 k y (by simpa using hk)
      rw [show i + (k + 1) = i + 1 + k by omega]
      exact this
theorem okDraw_get {bs : List (List Nat)} : ∀ {aos : List AOper} {i : Nat}, okDraw Γ bs i aos = true → ∀ (k : Nat) x, aos[k]? = some x → (∀ j ∈ x.aft, j < i + k) ∧ ∀ (m : Nat) y, k < m → aos[m]? = some y → (bs.getD (i + m) []).contains (i + k) = true ∨ okPair Γ x y = true
  | [], _, _, k, y, h => by simp at h
  | z :: r, i, h, k, x, hk => by
    simp only [okDraw, Bool.and_eq_true, List.all_eq_true, decide_eq_true_eq] at h
    cases k with
    | zero =>
      simp only [List.getElem?_cons_zero, Option.some.injEq] at hk
      subst hk
      refine ⟨by simpa using h.1.1, fun m y hm hy => ?_⟩
      obtain ⟨m, rfl⟩ : ∃ m', m = m' + 1 := ⟨m - 1, by omega⟩
      have := okRest_get h.1.2 m y (by simpa using hy)
      rw [show i + (m + 1) = i + 1 + m by omega, Nat.add_zero]
      exact this
    | succ k =>
      obtain ⟨h1, h2⟩ := okDraw_get h.2 k x (by simpa using hk)
      refine ⟨fun j hj => by have := h1 j hj; omega, fun m y hm hy => ?_⟩
      obtain ⟨m, rfl⟩ : ∃ m', m = m' + 1 := ⟨m - 1, by omega⟩
      have := h2 m y (by omega) (by simpa using hy)
      rw [show i + (m + 1) = i + 1 + m by omega, show i + (k + 1) = i + 1 + k by omega]
      exact this
theorem befs_lt {aos : List AOper} (ha : ∀ (k : Nat) x, aos[k]? = some x → ∀ j ∈ x.aft, j < k) : ∀ (k i : Nat), i ∈ (befs aos []).getD k [] → i < k := by
  intro k
  induction k using Nat.strongRecOn with
  | _ k ih =>
    intro i hi
    cases hk : aos[k]? with
    | none =>
      obtain ⟨h1, _, _⟩ := befs_spec aos []
      have : (befs aos [])[k]? = none := by
        rw [List.getElem?_eq_none_iff] at hk ⊢
        simp at h1; omega
      rw [List.getD_eq_getElem?_getD, this] at hi
      simp at hi
    | some o =>
      rcases (befs_mem hk (ha k o hk)).1 hi with h | ⟨j, hj, h⟩
      · exact ha k o hk i h
      · have := ih j (ha k o hk j hj) i h
        have := ha k o hk j hj
        omega
theorem bubble {n0 : Nat} {aos : List AOper} {j : Nat} {L2 : List Nat} {s' : DS} : ∀ (L1 : List Nat) (s : DS),
    (∀ i ∈ L1, i ≠ j ∧ ((befs aos []).getD j []).contains i = false ∧ ((befs aos []).getD i []).contains j = false ∧ ∀ x y, aos[i]? = some x → aos[j]? = some y → okPair Γ x y = true) →
    runL Γ n0 (befs aos []) aos (L1 ++ j :: L2) s = some s' → runL Γ n0 (befs aos []) aos (j :: (L1 ++ L2)) s = some s'
  | [], s, _, h => h
  | i :: L1, s, hi, h => by
    simp only [List.cons_append, runL] at h ⊢
    cases h1 : dstep Γ n0 (befs aos []) aos i s with
    | none => rw [h1] at h; cases h
    | some s1 =>
      rw [h1] at h
      have h2 := bubble L1 s1 (fun k hk => hi k (by simp [hk])) h
      simp only [runL] at h2
      cases h3 : dstep Γ n0 (befs aos []) aos j s1 with
      | none => rw [h3] at h2; cases h2
      | some s2 =>
        rw [h3] at h2
        simp only [Option.bind_some] at h2
        obtain ⟨hne, hb1, hb2, hok⟩ := hi i (by simp)
        simp only [dstep] at h1 h3 ⊢
        cases hx : aos[i]? with
        | none => rw [hx] at h1; cases h1
        | some x =>
          cases hy : aos[j]? with
          | none => rw [hy] at h3; cases h3
          | some y =>
            rw [hx] at h1
            rw [hy] at h3
            simp only [Option.bind_some] at h1 h3
            cases hf1 : okFoot ((befs aos []).getD i []) s.2 (foot x.op s.1.1) with
            | false => rw [hf1] at h1; cases h1
            | true =>
            rw [hf1] at h1
            simp only [cond_true] at h1
            cases hp : dout Γ n0 i ((befs aos []).getD i []) x s.1 with
            | none => rw [hp] at h1; cases h1
            | some p =>
              rw [hp] at h1
              simp only [Option.map_some, Option.some.injEq] at h1
              subst h1
              have hxy := hok x y hx hy
              have hap : x.apart y = true := by
                simp only [okPair, Bool.and_eq_true] at hxy
                exact hxy.1
              have fy : foot y.op (dapp n0 i x s.1 p).1 = foot y.op s.1.1 := by
                refine foot_congr fun k hk => putT_getD_ne fun e => ?_
                simp only [AOper.apart, e, Bool.and_eq_true, Bool.not_eq_true', List.contains_eq_mem, decide_eq_false_iff_not] at hap
                exact hap.1.1 (List.mem_append_left _ hk)
              simp only [fy, okFoot_insF, hb1, Bool.false_or] at h3
              cases hf2 : (okF (foot y.op s.1.1) (foot x.op s.1.1) && okFoot ((befs aos []).getD j []) s.2 (foot y.op s.1.1)) with
              | false => rw [hf2] at h3; cases h3
              | true =>
              rw [hf2] at h3
              simp only [cond_true] at h3
              simp only [Bool.and_eq_true] at hf2
              cases hq : dout Γ n0 j ((befs aos []).getD j []) y (dapp n0 i x s.1 p) with
              | none => rw [hq] at h3; cases h3
              | some q =>
                rw [hq] at h3
                simp only [Option.map_some, Option.some.injEq] at h3
                subst h3
                obtain ⟨g1, g2, g3⟩ := dstep_swap hne hxy hb1 hb2 (by rw [okF_symm]; exact hf2.1) hp hq
                have fx : foot x.op (dapp n0 j y s.1 q).1 = foot x.op s.1.1 := by
                  refine foot_congr fun k hk => putT_getD_ne fun e => ?_
                  simp only [AOper.apart, e, Bool.and_eq_true, Bool.not_eq_true', List.contains_eq_mem, decide_eq_false_iff_not] at hap
                  exact hap.2 (List.mem_append_left _ hk)
                simp only [Option.bind_some, hx, hy, g1, Option.map_some, g2, hf2.2, cond_true, fx, okFoot_insF, hb2, Bool.false_or, hf1, okF_symm (foot x.op s.1.1), hf2.1, Bool.and_self]
                rw [g3, insF_comm hne]
                exact h2
def quiet (Γ : Env) (op : AOp) : Bool := op.isLoad || op.isShape || (match dcls Γ op with | .P => true | _ => false)
structure DEff (ι : Inj) (h : Heap) (w : World) (n0 i : Nat) (c : Bool) (v : AV) (h' : Heap) (x : Value) (w' : World) : Prop where
  eff : ∃ ι', VR ι' v x ∧ HRel ι' h' w' ∧ Step ι h w ι' h' w' ∧ h'.next = h.next ∧ ∀ id, (id < n0 + stride * i ∨ n0 + stride * (i + 1) ≤ id ∨ c = true) → ι' id = ι id
theorem hide_get {h : Heap} {n0 : Nat} {bef : List Nat} {id : Nat} {c : Cell} (hg : (h.hide n0 bef).get id = some c) : h.get id = some c := by
  simp only [Heap.get, Heap.hide] at hg ⊢
  rw [findB_filter (f := seenB n0 bef)] at hg
  split at hg
  · exact hg
  · cases hg
theorem dop'_sound (hΓ : EnvOk P Γ) {ρ : Operand → Value} {o : Oper} {ao : AOp} {n0 i : Nat} {bef : List Nat} {ι : Inj} {t : List AV} {h : Heap} {w : World} {p : AV × DE} (hl : lowOp P o ao = true) (ht : TR ι t ρ) (R : HRel ι h w)
    (hf : ∀ id, n0 + stride * i ≤ id → (id < n0 + stride * (i + 1) ∨ dcls Γ ao = .W) → ι id = none) (hk : dop' Γ n0 i bef ao t h = some p) :
    OpRuns P ρ o w fun x w' => DEff ι h w n0 i (quiet Γ ao) p.1 (p.2.app h (n0 + stride * i)) x w' := by
  have hn : dcls Γ ao ≠ .P → ι (n0 + stride * i) = none := fun _ => hf _ (Nat.le_refl _) (.inl (by simp [stride]))
  unfold dop' at hk
  have hgrow : ∀ {ob : Option Blk} {v : AV} {x : Value} {w' : World}, dcls Γ ao = .R → p = (v, .ins ob) → (quiet Γ ao = true → ob = none) → RC ι w w' (n0 + stride * i) v ob x → DEff ι h w n0 i (quiet Γ ao) p.1 (p.2.app h (n0 + stride * i)) x w' := by
    intro ob v x w' hc hp hq E
    subst hp
    have hnn := hn (by rw [hc]; simp)
    obtain ⟨ι', h1, h2, h3, h4⟩ := E.grow (h' := h.ins (n0 + stride * i) ob) R hnn (fun id => by
      cases ob with
      | none => rfl
      | some b => exact get_ins (R.dom hnn))
    refine ⟨ι', h1, h2, h3, by cases ob <;> rfl, fun id hid => h4 id ?_⟩
    rcases hid with hid | hid | hid
    · exact .inl (by omega)
    · exact .inl (by simp [stride] at hid ⊢; omega)
    · exact .inr (hq hid)
  cases hc : dcls Γ ao <;> simp only [hc] at hk
  · have hcl : ao.cls = .P := by
      unfold dcls at hc
      split at hc
      · split at hc <;> cases hc
      · exact hc
    unfold lowOp at hl
    rw [hcl] at hl
    obtain ⟨v', x, e, hx, hr⟩ := opP_sound hl ht hk
    cases e
    exact .inl ⟨x, w, hr w, ⟨ι, hx, R, .refl _ _ _, rfl, fun _ _ => rfl⟩⟩
  · split at hk
    · rename_i f args
      split at hk <;> try (cases hk; done)
      rename_i or hor
      cases hr : or (n0 + stride * i) (args.map (·.ev t)) (h.hide n0 bef) with
      | none => rw [hr] at hk; cases hk
      | some r =>
        rw [hr] at hk
        cases hk
        have hl' : lowC o (.call f args) = true := by
          unfold lowOp at hl
          simp only [AOp.cls, Bool.or_eq_true] at hl
          rcases hl with hl | hl
          · unfold lowW at hl
            split at hl <;> first | cases hl | (rename_i h2; cases h2)
          · exact hl
        unfold lowC at hl'
        split at hl' <;> try (cases hl'; done)
        · rename_i f' args' argTypes g gargs ho heq
          cases heq
          simp only [Bool.and_eq_true, beq_iff_eq] at hl'
          obtain ⟨rfl, hl'⟩ := hl'
          have ha := lowOpds_VRL ht hl'
          have hv : VR ι (.func f' [] []) (ρ (.func f')) := ht (.func f') (.c (.func f' [] [])) (by simp [lowOpd])
          obtain ⟨xs, ys, e, h1, h2⟩ := hv.func
          have hx : xs = #[] := Array.eq_empty_of_size_eq_zero h1.1.symm
          have hy : ys = #[] := Array.eq_empty_of_size_eq_zero h2.1.symm
          subst hx hy
          refine CallsV.op (f := f') (args := args'.map ρ) (by unfold execOp; rw [ho]; simp [resolve, Deferred.ofValue, e, invoke]) ?_
          exact ((hΓ _ _ hor) _ _ _ _ _ ι w _ hr (R.sub fun id c => hide_get) (hn (by rw [hc]; simp)) ha).mono fun x w' E => hgrow hc rfl (fun hq => by simp [quiet, AOp.isLoad, AOp.isShape, hc] at hq) E
        · rename_i heq; cases heq
    · have hcl : ao.cls = .R := by
        unfold dcls at hc
        split at hc
        · split at hc
          · rename_i hne _ _ _; exact (hne _ _ rfl).elim
          · cases hc
        · exact hc
      unfold lowOp at hl
      rw [hcl] at hl
      obtain ⟨v', ob, x, w', e, hr, E⟩ := opR_sound hl ht (R.sub fun id c => hide_get) (hn (by rw [hc]; simp)) hk
      cases e
      refine .inl ⟨x, w', hr, hgrow hc rfl (fun hq => ?_) (E.RC R.fz_lt (hn (by rw [hc]; simp)))⟩
      have hld : ao.isLoad = true ∨ ao.isShape = true := by simpa [quiet, hc] using hq
      rcases hld with hld | hld
      · cases ao <;> first | (simp [AOp.isLoad] at hld; done) | skip
        simp only [opR, seeBy, AOp.isShape, cond_false] at hk
        rw [loadK_factor] at hk
        cases hlk : loadK _ _ (h.hide n0 bef) _ some with
        | none => rw [hlk] at hk; cases hk
        | some u => rw [hlk] at hk; cases hk; rfl
      · cases ao <;> first | (simp [AOp.isShape] at hld; done) | skip
        rename_i n e x lo hi mx _
        replace hk : (if arrFits (h.hide n0 []) n e (x.ev t) = true then slArrK n e (x.ev t) (lo.map (·.ev t)) (hi.map (·.ev t)) (mx.map (·.ev t)) (fun v => some (v, DE.ins none)) else none) = _ := hk
        split at hk <;> try (cases hk; done)
        rw [slArrK_factor] at hk
        cases hlk : slArrK _ _ _ _ _ _ some with
        | none => rw [hlk] at hk; cases hk
        | some u => rw [hlk] at hk; cases hk; rfl
  · have hcl : ao.cls = .W := by
      unfold dcls at hc
      split at hc
      · rfl
      · exact hc
    unfold lowOp at hl
    rw [hcl] at hl
    cases hr : opW Γ ao t { h with next := n0 + stride * i } kH with
    | none => rw [hr] at hk; cases hk
    | some q =>
      obtain ⟨v, h1⟩ := q
      rw [hr] at hk
      simp only [Option.bind_some] at hk
      split at hk <;> try (cases hk; done)
      rename_i hle
      cases hk
      have R' : HRel ι { h with next := n0 + stride * i } w := ⟨R.blk, R.fz, R.disj⟩
      refine (opW_sound hΓ hl ht R' (fun id hid => hf id hid (.inr hc)) hr).mono fun x w' E => ?_
      obtain ⟨ι', e1, e2, e3, e4⟩ := E
      refine ⟨ι', e1, ⟨e2.blk, e2.fz, e2.disj⟩, ⟨e3.le, e3.os, e3.tape, e3.output, e3.size, e3.frame, e3.own, e3.fzo⟩, rfl, fun id hid => e4.same id ?_⟩
      rcases hid with hid | hid | hid
      · exact .inl hid
      · exact .inr (Nat.le_trans hle.1 hid)
      · simp [quiet, hc] at hid
        cases ao <;> simp [AOp.isLoad, AOp.isShape, AOp.cls] at hid hcl
end
end Go.Am
