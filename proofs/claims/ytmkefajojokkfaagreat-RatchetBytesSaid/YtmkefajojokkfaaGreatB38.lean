/- RatchetBytes: part 39 of 39 of its proof. -/
import Derived.Test.YtmkefajojokkfaaGreatB34
import Derived.Test.YtmkefajojokkfaaGreatB37
import Derived.Test.YtmkefajojokkfaaGreatRows
import Derived.WalkKit
import Derived.ProofKit
import Derived.OpenShut
import Derived.ShutString
import Derived.ChangeOld
import Derived.SizedLaws
set_option linter.unusedVariables false
set_option linter.unusedSimpArgs false
/- The row of RatchetBytes. -/
namespace Go.Am
open Go.Proofs
set_option maxRecDepth 100000
theorem skT78 : SkT Tryz.prog 78 := ⟨by kernel_rfl, fun j hj => by
  have e : (List.range 65).map (fun j => leafAt Tryz.prog 8 78 j) = (List.range 65).map (fun j => some (if j = 32 then 24 else 5)) := by kernel_rfl
  have h := congrArg (·[j]?) e
  simp only [List.getElem?_map, List.getElem?_range hj, Option.map_some, Option.some.injEq] at h
  exact ⟨_, h, by
    unfold kindSk
    split
    · exact Tryz.underlying24
    · exact Tryz.underlying5⟩⟩
theorem ratT27 : RatT Tryz.prog 27 := ⟨⟨_, Tryz.underlying27⟩, by kernel_rfl, fun j hj => by
  have e : (List.range 163).map (fun j => leafAt Tryz.prog 8 27 j) = (List.range 163).map (fun j => some (if j < 160 then 5 else 24)) := by kernel_rfl
  have h := congrArg (·[j]?) e
  simp only [List.getElem?_map, List.getElem?_range hj, Option.map_some, Option.some.injEq] at h
  exact ⟨_, h, by
    unfold kindRat
    split
    · exact Tryz.underlying5
    · exact Tryz.underlying24⟩, ⟨25, 78, by kernel_rfl, Tryz.underlying25, skT78, by
      have : Tryz.prog.bytesOf 78 = 68 := by kernel_rfl
      omega⟩⟩
end Go.Am
namespace Go.Proofs.YtmkefajojokkfaaGreat.ratchetBytes
open Go.ChangeShapes Go.WideShapes Go.ChangeAt Go.RowKit Go.Am
set_option linter.unusedVariables false
set_option maxRecDepth 100000
theorem own : ownKnob Tryz.prog.godebug = none := by kernel_rfl
theorem laidOut : laidOutB Tryz.prog = true := by kernel_rfl
/-- The call. -/
theorem walk {H : Type} {enc : TypeId × Value → H} {W : World} {base : Nat} {held : Bool} {v0 v1 : Value} {d0 d1 : DataW H} {p0 p1 : List MemPlace} {r : Reach} {b0 : Nat} {gs : List (DataW H)}
    (hv0 : Value.okWide Tryz.prog W r b0 27 v0) (hv1 : Value.okWide Tryz.prog W r b0 52 v1) (h0 : DataW.Trod enc Tryz.prog W base (fun _ => true) held 27 v0 d0 p0) (h1 : DataW.Trod enc Tryz.prog W base (fun _ => true) held 52 v1 d1 p1)
    (hsz : ∀ (j : Nat) (t : TypeId) (d : DataW H), ([27, 52] : List TypeId)[j]? = some t → [d0, d1][j]? = some d → ∀ n ∈ d.weights Tryz.prog t, n ≤ reachBytes) :
    Calls Tryz.prog 5 #[v0, v1] W fun e W' => e = .returned (.bool true) ∧ Below W.heap.size W W' := by
  obtain ⟨q, ss, x, k1, k2, k3, k4, k5⟩ := entry_rat ratT27 hv0 h0
  obtain ⟨a1, l1, c1, rfl⟩ := okWide_slice Tryz.underlying52 hv1
  obtain ⟨fuel, hf⟩ := h1
  have hcs : (Value.slice a1 l1 c1).cells.toList = [.slice a1 l1 c1] := rfl
  rw [hcs] at hf
  obtain ⟨bs, m1, m2, m3⟩ := entry_ints Tryz.underlying52 Tryz.underlying5 (by kernel_rfl) hf
  obtain ⟨ι, R, hfr, hx, hb⟩ := seen2 k4 m3
  have hbytes : Tryz.prog.bytesOf 5 = 1 := by kernel_rfl
  have hreach : reachBytes = 140737488351232 := rfl
  have n1 : ss.length ≤ 140737488351232 := by
    rcases k3 with k3 | ⟨n, k3, k6⟩
    · omega
    · have := hsz 0 27 d0 rfl rfl n k6
      omega
  have n2 : bs.length ≤ 140737488351232 := by
    rcases m2 with m2 | ⟨cap, m2, m4⟩
    · omega
    · have := hsz 1 52 d1 rfl rfl _ m4
      rw [hbytes] at this
      omega
  exact law_calls Lb0_ok moZ Tryz.func5 (by kernel_rfl) (bytes_run q ss bs k1 k2 (by omega) m1 n2) (fun id c hg => by
    have hd := (findB_memL (l := [roC 0 (.rows 65 ss.length (ss.map skR)), roC 1 (.segs [.ints .u8 bs.length bs])]) hg).1
    simp only [List.mem_cons, List.not_mem_nil, or_false] at hd
    rcases hd with rfl | rfl <;> rfl) R (Nat.le_refl _) hfr (.two (k5 ι 0 hx) hb)
set_option maxRecDepth 100000 in
theorem lifted (os : Os) (started : os.Started) (H : Type) (enc : TypeId × Value → H) :
    ReturnsInHanded {} Tryz.checked os 5 .any (Rows.ratchetBytesSpec.pre6 enc Tryz.prog Tryz.f5 Rows.ratchetBytesRow.domain false) (Rows.ratchetBytesSpec.post enc Tryz.prog Tryz.f5 false true false false) := by
  refine returnsInHanded_of_change_sized (C := Tryz.checked) own started (by kernel_rfl) Tryz.func5
    (ChangeSpec.witness6 (enc := enc) (C := Tryz.checked) false ⟨#[], #[.agg ((Array.replicate 160 (.int .u8 0)) ++ #[.int .u32 0, .int .u32 0, .int .u32 0, .slice none 0 0]), .slice none 0 0], []⟩ 8 (by kernel_rfl) (by kernel_rfl) (by kernel_rfl) (by kernel_rfl)) ?_
  intro W base args ds gs before hval0 hW hcnd hsz0 _
  have hsz : (DataW.weightsEach Tryz.prog (Tryz.f5.params.toList ++ Rows.ratchetBytesSpec.plain.varTypes Tryz.prog) (ds ++ gs)).all (· ≤ reachBytes) = true := hsz0
  have hval : ∀ (j : Nat) t v, Tryz.f5.params[j]? = some t → args[j]? = some v → Value.okWide Tryz.prog W .any base t v := hval0
  have hW' := hW
  obtain ⟨p, q, hA0, hV, rfl, hfz, hnd⟩ := hW
  have hA : DataW.TrodAll enc Tryz.prog W 0 (fun _ => true) true Tryz.f5.params.toList args.toList ds p := hA0
  rw [Tryz.params5] at hA hval hsz
  obtain ⟨v0, vs0, d0, ds0, p0, q0, hargs, rfl, rfl, h0, r0⟩ := trodAll_cons hA
  obtain ⟨v1, vs1, d1, ds1, p1, q1, rfl, rfl, rfl, h1, r1⟩ := trodAll_cons r0
  obtain ⟨rfl, rfl, rfl⟩ := trodAll_nil r1
  obtain rfl : args = #[v0, v1] := by cases args; simp_all
  obtain ⟨rfl, rfl⟩ := trodVars_none hV
  have lt0 : ∀ x ∈ p0, x.block < W.heap.size := by obtain ⟨m, hm⟩ := h0; exact DataW.trod_lt m _ _ _ hm
  have lt1 : ∀ x ∈ p1, x.block < W.heap.size := by obtain ⟨m, hm⟩ := h1; exact DataW.trod_lt m _ _ _ hm
  have hsz2 : ∀ (j : Nat) (t : TypeId) (d : DataW H), ([27, 52] : List TypeId)[j]? = some t → [d0, d1][j]? = some d → ∀ n ∈ d.weights Tryz.prog t, n ≤ reachBytes := fun j t d ht hd n hn => by
    have hj : j < 2 := by have := (List.getElem?_eq_some_iff.1 ht).1; simpa using this
    have := List.all_eq_true.1 hsz n (DataW.weights_mem_each (j := j) (t := t) (d := d) (by rw [List.getElem?_append_left (by simpa using hj)]; exact ht) (by rw [List.getElem?_append_left (by simpa using hj)]; exact hd) n hn)
    simpa using this
  have k0 := h0
  have k1 := h1
  refine (walk (gs := []) (hval 0 27 v0 rfl rfl) (hval 1 52 v1 rfl rfl) h0 h1 hsz2).mono fun e W' ⟨he, bel⟩ => ?_
  subst he
  exact ⟨_, rfl, _, _, _, [], _, [], hW', trodAll_mk1 (shut_bool Tryz.underlying4 _), (trodAll_cons_mk (Below.trod laidOut (by kernel_rfl) (of_decide_eq_true (by kernel_rfl)) k0 bel lt0) (trodAll_cons_mk (Below.trod laidOut (by kernel_rfl) (of_decide_eq_true (by kernel_rfl)) k1 bel lt1) trodAll_mk0)), rfl, bel.frame _, fun h => by cases h⟩
theorem over : Rows.ratchetBytesRow.holds Tryz.pinned (OpenSpec.ofChange Rows.ratchetBytesSpec) :=
  OpenClaim.holds_of_wide 5 Tryz.f5 rfl rfl rfl rfl rfl rfl rfl ⟨rfl, rfl, rfl, rfl, rfl⟩ rfl rfl rfl rfl rfl (by kernel_rfl) Tryz.func5 (by kernel_rfl)
    (of_decide_eq_true (by kernel_rfl)) (by unfold Func.isWrapper; first | (rw [if_pos (by decide +kernel)]; kernel_rfl) | (rw [if_neg (by decide +kernel)]; exact ⟨rfl, rfl⟩))
    (fun os started H enc _ => lifted os started H enc)
theorem proved : Rows.RatchetBytesSaid := over
#print axioms proved
end Go.Proofs.YtmkefajojokkfaaGreat.ratchetBytes
namespace Go.Proofs.YtmkefajojokkfaaGreat
/-- The row, under a short name, for the claim. -/
theorem RatchetBytes_holds : Rows.RatchetBytesSaid := ratchetBytes.proved
end Go.Proofs.YtmkefajojokkfaaGreat
