/- RatchetKept: part 39 of 39 of its proof. -/
import Derived.Test.YtmkefajojokkfaaK34
import Derived.Test.YtmkefajojokkfaaK37
import Derived.Test.YtmkefajojokkfaaRows
import Derived.WalkKit
import Derived.ProofKit
import Derived.OpenShut
import Derived.ShutString
import Derived.ChangeOld
import Derived.SizedLaws
set_option linter.unusedVariables false
set_option linter.unusedSimpArgs false
/- The row of RatchetKept. -/
namespace Go.Am
open Go.Proofs
set_option maxRecDepth 100000
theorem leaf_of {P : Program} {t : TypeId} {n : Nat} {f : Nat → TypeId} {kd : Nat → IntKind} (h : (List.range n).map (fun j => leafAt P 8 t j) = (List.range n).map (fun j => some (f j))) (hk : ∀ j, P.underlying (f j) = some (.int (kd j))) : ∀ j, j < n → ∃ u, leafAt P 8 t j = some u ∧ P.underlying u = some (.int (kd j)) := fun j hj => by
  have h := congrArg (·[j]?) h
  simp only [List.getElem?_map, List.getElem?_range hj, Option.map_some, Option.some.injEq] at h
  exact ⟨_, h, hk j⟩
theorem skT52 : SkT Try.prog 52 := ⟨by kernel_rfl, leaf_of (f := fun j => if j = 32 then 24 else 5) (by kernel_rfl) fun j => by
  unfold kindSk
  split
  · exact Try.underlying24
  · exact Try.underlying5⟩
theorem ratT27 : RatT Try.prog 27 := ⟨⟨_, Try.underlying27⟩, by kernel_rfl, leaf_of (f := fun j => if j < 160 then 5 else 24) (by kernel_rfl) fun j => by
  unfold kindRat
  split
  · exact Try.underlying5
  · exact Try.underlying24, ⟨25, 52, by kernel_rfl, Try.underlying25, skT52, by
      have : Try.prog.bytesOf 52 = 68 := by kernel_rfl
      omega⟩⟩
def kindMsg (j : Nat) : IntKind := if j = 32 ∨ j = 33 then .u32 else .u8
theorem msgT32 : FlatT Try.prog 32 99 kindMsg := ⟨.inl ⟨_, Try.underlying32⟩, by kernel_rfl, leaf_of (f := fun j => if j = 32 ∨ j = 33 then 24 else 5) (by kernel_rfl) fun j => by
  unfold kindMsg
  split
  · exact Try.underlying24
  · exact Try.underlying5⟩
theorem keyT23 : FlatT Try.prog 23 32 (fun _ => .u8) := ⟨.inr ⟨_, _, Try.underlying23⟩, by kernel_rfl, leaf_of (f := fun _ => 5) (by kernel_rfl) fun _ => Try.underlying5⟩
def mkMsg (g : Nat → Int) : Msg := ⟨numsAt g 0 32, g 32, g 33, numsAt g 34 65⟩
theorem msg_cells (g : Nat → Int) : cellsL (mkMsg g).segs = (List.range 99).map fun j => .int (kindMsg j) (g j) := by
  have : ∀ g : Nat → Int, cellsL (Msg.segs ⟨numsAt g 0 32, g (0 + 32), g (0 + 33), numsAt g 34 65⟩) = (List.range 99).map fun j => .int (kindMsg j) (g (0 + j)) := by intro g; kernel_rfl
  have e := this g
  simp only [Nat.zero_add] at e
  exact e
theorem key_cells (g : Nat → Int) : cellsL [.ints .u8 32 (numsAt g 0 32)] = (List.range 32).map fun j => .int .u8 (g j) := by
  have : ∀ g : Nat → Int, cellsL [.ints .u8 32 (numsAt g 0 32)] = (List.range 32).map fun j => .int .u8 (g (0 + j)) := by intro g; kernel_rfl
  simpa using this g
end Go.Am
namespace Go.Proofs.Ytmkefajojokkfaa.ratchetKept
open Go.ChangeShapes Go.WideShapes Go.ChangeAt Go.RowKit Go.Am
set_option linter.unusedVariables false
set_option maxRecDepth 100000
theorem own : ownKnob Try.prog.godebug = none := by kernel_rfl
theorem laidOut : laidOutB Try.prog = true := by kernel_rfl
/-- The call. -/
theorem walk {H : Type} {enc : TypeId × Value → H} {W : World} {base : Nat} {held : Bool} {v0 v1 v2 : Value} {d0 d1 d2 : DataW H} {p0 p1 p2 : List MemPlace} {r : Reach} {b0 : Nat}
    (hv0 : Value.okWide Try.prog W r b0 27 v0) (hv1 : Value.okWide Try.prog W r b0 32 v1) (hv2 : Value.okWide Try.prog W r b0 23 v2) (h0 : DataW.Trod enc Try.prog W base (fun _ => true) held 27 v0 d0 p0) (h1 : DataW.Trod enc Try.prog W base (fun _ => true) held 32 v1 d1 p1) (h2 : DataW.Trod enc Try.prog W base (fun _ => true) held 23 v2 d2 p2)
    (hsz : ∀ n ∈ d0.weights Try.prog 27, n ≤ reachBytes) :
    Calls Try.prog 3 #[v0, v1, v2] W fun e W' => e = .returned (.bool true) ∧ Below W.heap.size W W' := by
  obtain ⟨q, ss, x, k1, k2, k3, k4, k5⟩ := entry_rat ratT27 hv0 h0
  obtain ⟨g1, _, m1⟩ := entry_flat msgT32 hv1 h1
  obtain ⟨g2, _, m2⟩ := entry_flat keyT23 hv2 h2
  obtain ⟨ι, R, hfr, hx⟩ := seen1 k4
  have hreach : reachBytes = 140737488351232 := rfl
  have n1 : ss.length ≤ 140737488351232 := by
    rcases k3 with k3 | ⟨n, k3, k6⟩
    · omega
    · have := hsz n k6
      omega
  have hrun := kept_run (openW oCry) (sealW sCry) (openW_len oCry) (sealW_len sCry) q ss (mkMsg g1) (numsAt g2 0 32) k1 k2 (by omega)
  rw [KpE_eq] at hrun
  exact law_calls KpE_ok moZ Try.func3 (by kernel_rfl) hrun (fun id c hg => by
    have hd := (findB_memL (l := [roC 0 (.rows 65 ss.length (ss.map skR))]) hg).1
    simp only [List.mem_cons, List.not_mem_nil, or_false] at hd
    subst hd; rfl) R (Nat.le_refl _) hfr (VRL.cons (k5 ι 0 hx) (VRL.two (m1 ι _ (by
      intro s hs
      simp only [mkMsg, Msg.segs, List.mem_cons, List.not_mem_nil, or_false] at hs
      rcases hs with rfl | rfl | rfl | rfl <;> first | exact numsAt_len .. | trivial) (msg_cells g1)) (m2 ι _ (by
      intro s hs
      simp only [List.mem_cons, List.not_mem_nil, or_false] at hs
      subst hs; exact numsAt_len ..) (key_cells g2))))
set_option maxRecDepth 100000 in
theorem lifted (os : Os) (started : os.Started) (H : Type) (enc : TypeId × Value → H) :
    ReturnsInHanded {} Try.checked os 3 .any (Rows.ratchetKeptSpec.pre6 enc Try.prog Try.f3 Rows.ratchetKeptRow.domain false) (Rows.ratchetKeptSpec.post enc Try.prog Try.f3 false true false false) := by
  refine returnsInHanded_of_change_sized (C := Try.checked) own started (by kernel_rfl) Try.func3
    (ChangeSpec.witness6 (enc := enc) (C := Try.checked) false ⟨#[], #[.agg ((Array.replicate 160 (.int .u8 0)) ++ #[.int .u32 0, .int .u32 0, .int .u32 0, .slice none 0 0]), .agg ((Array.replicate 32 (.int .u8 0)) ++ #[.int .u32 0, .int .u32 0] ++ (Array.replicate 65 (.int .u8 0))), .agg (Array.replicate 32 (.int .u8 0))], []⟩ 8 (by kernel_rfl) (by kernel_rfl) (by kernel_rfl) (by kernel_rfl)) ?_
  intro W base args ds gs before hval0 hW hcnd hsz0 _
  have hsz : (DataW.weightsEach Try.prog (Try.f3.params.toList ++ Rows.ratchetKeptSpec.plain.varTypes Try.prog) (ds ++ gs)).all (· ≤ reachBytes) = true := hsz0
  have hval : ∀ (j : Nat) t v, Try.f3.params[j]? = some t → args[j]? = some v → Value.okWide Try.prog W .any base t v := hval0
  have hW' := hW
  obtain ⟨p, q, hA0, hV, rfl, hfz, hnd⟩ := hW
  have hA : DataW.TrodAll enc Try.prog W 0 (fun _ => true) true Try.f3.params.toList args.toList ds p := hA0
  rw [Try.params3] at hA hval hsz
  obtain ⟨v0, vs0, d0, ds0, p0, q0, hargs, rfl, rfl, h0, r0⟩ := trodAll_cons hA
  obtain ⟨v1, vs1, d1, ds1, p1, q1, rfl, rfl, rfl, h1, r1⟩ := trodAll_cons r0
  obtain ⟨v2, vs2, d2, ds2, p2, q2, rfl, rfl, rfl, h2, r2⟩ := trodAll_cons r1
  obtain ⟨rfl, rfl, rfl⟩ := trodAll_nil r2
  obtain rfl : args = #[v0, v1, v2] := by cases args; simp_all
  obtain ⟨rfl, rfl⟩ := trodVars_none hV
  have lt0 : ∀ x ∈ p0, x.block < W.heap.size := by obtain ⟨m, hm⟩ := h0; exact DataW.trod_lt m _ _ _ hm
  have lt1 : ∀ x ∈ p1, x.block < W.heap.size := by obtain ⟨m, hm⟩ := h1; exact DataW.trod_lt m _ _ _ hm
  have lt2 : ∀ x ∈ p2, x.block < W.heap.size := by obtain ⟨m, hm⟩ := h2; exact DataW.trod_lt m _ _ _ hm
  have hsz2 : ∀ n ∈ d0.weights Try.prog 27, n ≤ reachBytes := fun n hn => by
    have := List.all_eq_true.1 hsz n (DataW.weights_mem_each (j := 0) (t := 27) (d := d0) (by rfl) (by rfl) n hn)
    simpa using this
  have k0 := h0
  have k1 := h1
  have k2 := h2
  refine (walk (hval 0 27 v0 rfl rfl) (hval 1 32 v1 rfl rfl) (hval 2 23 v2 rfl rfl) h0 h1 h2 hsz2).mono fun e W' ⟨he, bel⟩ => ?_
  subst he
  exact ⟨_, rfl, _, _, _, [], _, [], hW', trodAll_mk1 (shut_bool Try.underlying4 _), (trodAll_cons_mk (Below.trod laidOut (by kernel_rfl) (of_decide_eq_true (by kernel_rfl)) k0 bel lt0) (trodAll_cons_mk (Below.trod laidOut (by kernel_rfl) (of_decide_eq_true (by kernel_rfl)) k1 bel lt1) (trodAll_cons_mk (Below.trod laidOut (by kernel_rfl) (of_decide_eq_true (by kernel_rfl)) k2 bel lt2) trodAll_mk0))), rfl, bel.frame _, fun h => by cases h⟩
theorem over : Rows.ratchetKeptRow.holds Try.pinned (OpenSpec.ofChange Rows.ratchetKeptSpec) :=
  OpenClaim.holds_of_wide 3 Try.f3 rfl rfl rfl rfl rfl rfl rfl ⟨rfl, rfl, rfl, rfl, rfl⟩ rfl rfl rfl rfl rfl (by kernel_rfl) Try.func3 (by kernel_rfl)
    (of_decide_eq_true (by kernel_rfl)) (by unfold Func.isWrapper; first | (rw [if_pos (by decide +kernel)]; kernel_rfl) | (rw [if_neg (by decide +kernel)]; exact ⟨rfl, rfl⟩))
    (fun os started H enc _ => lifted os started H enc)
theorem proved : Rows.RatchetKeptSaid := over
#print axioms proved
end Go.Proofs.Ytmkefajojokkfaa.ratchetKept
namespace Go.Proofs.Ytmkefajojokkfaa
/-- The row, under a short name, for the claim. -/
theorem RatchetKept_holds : Rows.RatchetKeptSaid := ratchetKept.proved
end Go.Proofs.Ytmkefajojokkfaa
