/- RatchetSeals: part 50 of 50 of its proof. -/
import Derived.Test.YtmkefajojokkfaaGreatD33
import Derived.Test.YtmkefajojokkfaaGreatD48
import Derived.Test.YtmkefajojokkfaaGreatRows
import Derived.WalkKit
import Derived.ProofKit
import Derived.OpenShut
import Derived.ShutString
import Derived.ChangeOld
import Derived.SizedLaws
set_option linter.unusedVariables false
set_option linter.unusedSimpArgs false
namespace Go.Am
open Go.Proofs
set_option maxRecDepth 100000
theorem skT78 : SkT Tryz.prog 78 := ⟨by kernel_rfl, fun j hj => by
  have e : (List.range 65).map (fun j => leafAt Tryz.prog 8 78 j) = (List.range 65).map (fun j => some (if j = 32 then 24 else 5)) := by kernel_rfl
  have h := congrArg (·[j]?) e
  simp only [List.getElem?_map, List.getElem?_range hj, Option.map_some, Option.some.injEq] at h
  exact ⟨_, h, by
    unfold kindSk
    split
    · exact Tryz.underlying24
    · exact Tryz.underlying5⟩⟩
theorem ratT27 : RatT Tryz.prog 27 := ⟨⟨_, Tryz.underlying27⟩, by kernel_rfl, fun j hj => by
  have e : (List.range 163).map (fun j => leafAt Tryz.prog 8 27 j) = (List.range 163).map (fun j => some (if j < 160 then 5 else 24)) := by kernel_rfl
  have h := congrArg (·[j]?) e
  simp only [List.getElem?_map, List.getElem?_range hj, Option.map_some, Option.some.injEq] at h
  exact ⟨_, h, by
    unfold kindRat
    split
    · exact Tryz.underlying5
    · exact Tryz.underlying24⟩, ⟨25,78, by kernel_rfl, Tryz.underlying25, skT78, by
      have : Tryz.prog.bytesOf 78 = 68 := by kernel_rfl
      omega⟩⟩
theorem trod_str {H : Type} {enc : TypeId × Value → H} {P : Program} {w : World} {base : Nat} {spare : Nat → Bool} {held : Bool} {fuel : Nat} {u : TypeId} {v : Value} {d : DataW H} {p : List MemPlace} (hu : P.underlying u = some .string) (h : DataW.trod enc P w base spare held fuel u [v] = some (d, p)) : ∃ s, v = .string s := by
  cases fuel with
  | zero => simp [DataW.trod] at h
  | succ fuel =>
    cases v <;> simp [DataW.trod, hu] at h
    exact ⟨_, rfl⟩
end Go.Am
namespace Go.Proofs.YtmkefajojokkfaaGreat.ratchetSeals
open Go.ChangeShapes Go.WideShapes Go.ChangeAt Go.RowKit Go.Am
set_option linter.unusedVariables false
set_option maxRecDepth 100000
theorem own : ownKnob Tryz.prog.godebug = none := by kernel_rfl
theorem laidOut : laidOutB Tryz.prog = true := by kernel_rfl
theorem walk {H : Type} {enc : TypeId × Value → H} {W : World} {base : Nat} {held : Bool} {v0 v1 : Value} {d0 d1 : DataW H} {p0 p1 : List MemPlace} {r : Reach} {b0 : Nat}
    (hv0 : Value.okWide Tryz.prog W r b0 27 v0) (hv1 : Value.okWide Tryz.prog W r b0 9 v1) (h0 : DataW.Trod enc Tryz.prog W base (fun _ => true) held 27 v0 d0 p0) (h1 : DataW.Trod enc Tryz.prog W base (fun _ => true) held 9 v1 d1 p1)
    (hsz : ∀ n ∈ d0.weights Tryz.prog 27, n ≤ reachBytes) :
    Calls Tryz.prog 3 #[v0, v1] W fun e W' => e = .returned (.bool true) ∧ Below W.heap.size W W' := by
  obtain ⟨q, ss, x, k1, k2, k3, k4, k5⟩ := entry_rat ratT27 hv0 h0
  obtain ⟨ι, R, hfr, hx⟩ := seen1 k4
  obtain ⟨s, rfl⟩ : ∃ s, v1 = .string s := by
    unfold Value.okWide at hv1
    rw [Tryz.underlying9] at hv1
    first
      | exact hv1
      | (obtain ⟨s, hs, _⟩ := hv1; exact ⟨s, hs⟩)
      | (obtain ⟨fuel, hf⟩ := h1
         cases v1 <;> first | exact ⟨_, rfl⟩ | exact hv1.elim | (cases hv1; done))
  have hreach : reachBytes = 140737488351232 := rfl
  have n1 : ss.length ≤ 140737488351232 := by
    rcases k3 with k3 | ⟨n, k3, k6⟩
    · omega
    · have := hsz n k6
      omega
  exact law_calls qLe_ok moZ Tryz.func3 (by kernel_rfl) (seals_run2 q ss s (by omega)) (fun id c hg => by
    have hd := (findB_memL (l := [roC 0 (.rows 65 ss.length (ss.map skR))]) hg).1
    simp only [List.mem_cons, List.not_mem_nil, or_false] at hd
    subst hd; rfl) R (Nat.le_refl _) hfr (VRL.two (k5 ι 0 hx) (show VR ι (.str s) (.string s) from rfl))
set_option maxRecDepth 100000 in
theorem lifted (os : Os) (started : os.Started) (H : Type) (enc : TypeId × Value → H) :
    ReturnsInHanded {} Tryz.checked os 3 .any (Rows.ratchetSealsSpec.pre6 enc Tryz.prog Tryz.f3 Rows.ratchetSealsRow.domain false) (Rows.ratchetSealsSpec.post enc Tryz.prog Tryz.f3 false true false false) := by
  refine returnsInHanded_of_change_sized (C := Tryz.checked) own started (by kernel_rfl) Tryz.func3
    (ChangeSpec.witness6 (enc := enc) (C := Tryz.checked) false ⟨#[], #[.agg ((Array.replicate 160 (.int .u8 0)) ++ #[.int .u32 0, .int .u32 0, .int .u32 0, .slice none 0 0]), .string ⟨#[]⟩], []⟩ 8 (by kernel_rfl) (by kernel_rfl) (by kernel_rfl) (by kernel_rfl)) ?_
  intro W base args ds gs before hval0 hW hcnd hsz0 _
  have hsz : (DataW.weightsEach Tryz.prog (Tryz.f3.params.toList ++ Rows.ratchetSealsSpec.plain.varTypes Tryz.prog) (ds ++ gs)).all (· ≤ reachBytes) = true := hsz0
  have hval : ∀ (j : Nat) t v, Tryz.f3.params[j]? = some t → args[j]? = some v → Value.okWide Tryz.prog W .any base t v := hval0
  have hW' := hW
  obtain ⟨p, q, hA0, hV, rfl, hfz, hnd⟩ := hW
  have hA : DataW.TrodAll enc Tryz.prog W 0 (fun _ => true) true Tryz.f3.params.toList args.toList ds p := hA0
  rw [Tryz.params3] at hA hval hsz
  obtain ⟨v0, vs0, d0, ds0, p0, q0, hargs, rfl, rfl, h0, r0⟩ := trodAll_cons hA
  obtain ⟨v1, vs1, d1, ds1, p1, q1, rfl, rfl, rfl, h1, r1⟩ := trodAll_cons r0
  obtain ⟨rfl, rfl, rfl⟩ := trodAll_nil r1
  obtain rfl : args = #[v0, v1] := by cases args; simp_all
  obtain ⟨rfl, rfl⟩ := trodVars_none hV
  have lt0 : ∀ x ∈ p0, x.block < W.heap.size := by obtain ⟨m, hm⟩ := h0; exact DataW.trod_lt m _ _ _ hm
  have lt1 : ∀ x ∈ p1, x.block < W.heap.size := by obtain ⟨m, hm⟩ := h1; exact DataW.trod_lt m _ _ _ hm
  have hsz2 : ∀ n ∈ d0.weights Tryz.prog 27, n ≤ reachBytes := fun n hn => by
    have := List.all_eq_true.1 hsz n (DataW.weights_mem_each (j := 0) (t := 27) (d := d0) rfl rfl n hn)
    simpa using this
  have k0 := h0
  have k1 := h1
  refine (walk (hval 0 27 v0 rfl rfl) (hval 1 9 v1 rfl rfl) h0 h1 hsz2).mono fun e W' ⟨he, bel⟩ => ?_
  subst he
  exact ⟨_, rfl, _, _, _, [], _, [], hW', trodAll_mk1 (shut_bool Tryz.underlying4 _), (trodAll_cons_mk (Below.trod laidOut (by kernel_rfl) (of_decide_eq_true (by kernel_rfl)) k0 bel lt0) (trodAll_cons_mk (Below.trod laidOut (by kernel_rfl) (of_decide_eq_true (by kernel_rfl)) k1 bel lt1) trodAll_mk0)), rfl, bel.frame _, fun h => by cases h⟩
theorem over : Rows.ratchetSealsRow.holds Tryz.pinned (OpenSpec.ofChange Rows.ratchetSealsSpec) :=
  OpenClaim.holds_of_wide 3 Tryz.f3 rfl rfl rfl rfl rfl rfl rfl ⟨rfl, rfl, rfl, rfl, rfl⟩ rfl rfl rfl rfl rfl (by kernel_rfl) Tryz.func3 (by kernel_rfl)
    (of_decide_eq_true (by kernel_rfl)) (by unfold Func.isWrapper; first | (rw [if_pos (by decide +kernel)]; kernel_rfl) | (rw [if_neg (by decide +kernel)]; exact ⟨rfl, rfl⟩))
    (fun os started H enc _ => lifted os started H enc)
theorem proved : Rows.RatchetSealsSaid := over
#print axioms proved
end Go.Proofs.YtmkefajojokkfaaGreat.ratchetSeals
namespace Go.Proofs.YtmkefajojokkfaaGreat
theorem RatchetSeals_holds : Rows.RatchetSealsSaid := ratchetSeals.proved
end Go.Proofs.YtmkefajojokkfaaGreat
