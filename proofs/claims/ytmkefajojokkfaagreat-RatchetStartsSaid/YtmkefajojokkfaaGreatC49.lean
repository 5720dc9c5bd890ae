/- RatchetStarts: part 50 of 50 of its proof. -/
import Derived.Test.YtmkefajojokkfaaGreatC33
import Derived.Test.YtmkefajojokkfaaGreatC48
import Derived.Test.YtmkefajojokkfaaGreatRows
import Derived.WalkKit
import Derived.ProofKit
import Derived.OpenShut
import Derived.ShutString
import Derived.ChangeOld
import Derived.SizedLaws
set_option linter.unusedVariables false
set_option linter.unusedSimpArgs false
namespace Go.Am
open Go.Proofs
set_option maxRecDepth 100000
theorem sideT46 : SideT Tryz.prog 46 := ⟨⟨_, Tryz.underlying46⟩, by kernel_rfl, fun j hj => by
  have e : (List.range 129).map (fun j => leafAt Tryz.prog 8 46 j) = (List.range 129).map (fun j => some (if j = 32 then 4 else 5)) := by kernel_rfl
  have h := congrArg (·[j]?) e
  simp only [List.getElem?_map, List.getElem?_range hj, Option.map_some, Option.some.injEq] at h
  exact ⟨_, h, by
    unfold sdKind
    split
    · exact Tryz.underlying4
    · exact Tryz.underlying5⟩⟩
theorem emptyRel (w : World) : HRel inj0 ⟨16, []⟩ w := ⟨fun id c hg => (by cases hg), fun k f hk => (by cases hk), fun id1 c1 p1 id2 c2 p2 g1 => (by cases g1)⟩
theorem VRL.single {ι : Inj} {a : AV} {x : Value} (h : VR ι a x) : VRL ι [a] [x] := ⟨rfl, fun i u hu => by
  cases i with
  | zero => simp only [List.getElem?_cons_zero, Option.some.injEq] at hu; subst hu; exact ⟨x, rfl, h⟩
  | succ i => simp at hu⟩
end Go.Am
namespace Go.Proofs.YtmkefajojokkfaaGreat.ratchetStarts
open Go.ChangeShapes Go.WideShapes Go.ChangeAt Go.RowKit Go.Am
set_option linter.unusedVariables false
set_option maxRecDepth 100000
theorem own : ownKnob Tryz.prog.godebug = none := by kernel_rfl
theorem laidOut : laidOutB Tryz.prog = true := by kernel_rfl
theorem walk {H : Type} {enc : TypeId × Value → H} {W : World} {base : Nat} {held : Bool} {v0 : Value} {d0 : DataW H} {p0 : List MemPlace} {r : Reach} {b0 : Nat}
    (hv0 : Value.okWide Tryz.prog W r b0 46 v0) (h0 : DataW.Trod enc Tryz.prog W base (fun _ => true) held 46 v0 d0 p0) :
    Calls Tryz.prog 4 #[v0] W fun e W' => e = .returned (.bool true) ∧ Below W.heap.size W W' := by
  obtain ⟨g, b, k1, k2⟩ := entry_side sideT46 hv0 h0
  exact law_calls LsE_ok moZ Tryz.func4 (by kernel_rfl) (starts_run2 (numsAt g 0 32) (numsAt g 33 32) (numsAt g 65 32) (numsAt g 97 32) b) (fun id c hg => by cases hg) (emptyRel W) (Nat.le_refl _) (fun id _ => rfl) (VRL.single (k2 inj0))
set_option maxRecDepth 100000 in
theorem lifted (os : Os) (started : os.Started) (H : Type) (enc : TypeId × Value → H) :
    ReturnsInHanded {} Tryz.checked os 4 .any (Rows.ratchetStartsSpec.pre6 enc Tryz.prog Tryz.f4 Rows.ratchetStartsRow.domain false) (Rows.ratchetStartsSpec.post enc Tryz.prog Tryz.f4 false true false false) := by
  refine returnsInHanded_of_change_sized (C := Tryz.checked) own started (by kernel_rfl) Tryz.func4
    (ChangeSpec.witness6 (enc := enc) (C := Tryz.checked) false ⟨#[], #[.agg ((Array.replicate 32 (.int .u8 0)) ++ #[.bool false] ++ (Array.replicate 96 (.int .u8 0)))], []⟩ 8 (by kernel_rfl) (by kernel_rfl) (by kernel_rfl) (by kernel_rfl)) ?_
  intro W base args ds gs before hval0 hW hcnd hsz0 _
  have hval : ∀ (j : Nat) t v, Tryz.f4.params[j]? = some t → args[j]? = some v → Value.okWide Tryz.prog W .any base t v := hval0
  have hW' := hW
  obtain ⟨p, q, hA0, hV, rfl, hfz, hnd⟩ := hW
  have hA : DataW.TrodAll enc Tryz.prog W 0 (fun _ => true) true Tryz.f4.params.toList args.toList ds p := hA0
  rw [Tryz.params4] at hA hval
  obtain ⟨v0, vs0, d0, ds0, p0, q0, hargs, rfl, rfl, h0, r0⟩ := trodAll_cons hA
  obtain ⟨rfl, rfl, rfl⟩ := trodAll_nil r0
  obtain rfl : args = #[v0] := by cases args; simp_all
  obtain ⟨rfl, rfl⟩ := trodVars_none hV
  have lt0 : ∀ x ∈ p0, x.block < W.heap.size := by obtain ⟨m, hm⟩ := h0; exact DataW.trod_lt m _ _ _ hm
  have k0 := h0
  refine (walk (hval 0 46 v0 rfl rfl) h0).mono fun e W' ⟨he, bel⟩ => ?_
  subst he
  exact ⟨_, rfl, _, _, _, [], _, [], hW', trodAll_mk1 (shut_bool Tryz.underlying4 _), (trodAll_cons_mk (Below.trod laidOut (by kernel_rfl) (of_decide_eq_true (by kernel_rfl)) k0 bel lt0) trodAll_mk0), rfl, bel.frame _, fun h => by cases h⟩
theorem over : Rows.ratchetStartsRow.holds Tryz.pinned (OpenSpec.ofChange Rows.ratchetStartsSpec) :=
  OpenClaim.holds_of_wide 4 Tryz.f4 rfl rfl rfl rfl rfl rfl rfl ⟨rfl, rfl, rfl, rfl, rfl⟩ rfl rfl rfl rfl rfl (by kernel_rfl) Tryz.func4 (by kernel_rfl)
    (of_decide_eq_true (by kernel_rfl)) (by unfold Func.isWrapper; first | (rw [if_pos (by decide +kernel)]; kernel_rfl) | (rw [if_neg (by decide +kernel)]; exact ⟨rfl, rfl⟩))
    (fun os started H enc _ => lifted os started H enc)
theorem proved : Rows.RatchetStartsSaid := over
#print axioms proved
end Go.Proofs.YtmkefajojokkfaaGreat.ratchetStarts
namespace Go.Proofs.YtmkefajojokkfaaGreat
theorem RatchetStarts_holds : Rows.RatchetStartsSaid := ratchetStarts.proved
end Go.Proofs.YtmkefajojokkfaaGreat
