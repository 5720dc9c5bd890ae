/- RatchetSeals: part 4 of 50 of its proof. -/
import Derived.Test.YtmkefajojokkfaaGreatD02
import Derived.Laws.Pointers
import Derived.WalkSpells
set_option linter.unusedVariables false
set_option linter.unusedSimpArgs false
namespace Go.Am
set_option linter.unusedSimpArgs false
section
variable {α : Type}
variable {β : Type} {P : Program} {ι : Inj} {t : List AV} {ρ : Operand → Value}
theorem eq_fin {neg b : Bool} {vx vy : Value} {κ : AV → Option β} {r : β} {ty : TypeId} {X Y : Operand} (hk : κ (.bool (bif neg then !b else b)) = some r)
    (hg : ∀ op w, (eqGuard op ty X Y vx vy).run P w = .ok () w) (he : ∀ w, (Op.equalIn (9999 + 1) ty vx vy).run P w = .ok b w)
    (h1 : binOp .eql ty vx vy = (do pure (.bool (← Op.equal ty vx vy)))) (h2 : binOp .neq ty vx vy = (do pure (.bool (!(← Op.equal ty vx vy))))) :
    ∃ v z, κ v = some r ∧ VR ι v z ∧ ∀ w, (do eqGuard (bif neg then .neq else .eql) ty X Y vx vy; binOp (bif neg then .neq else .eql) ty vx vy : Sem Value).run P w = .ok z w := by
  have he' : ∀ w, (Op.equal ty vx vy).run P w = .ok b w := he
  refine ⟨_, .bool (bif neg then !b else b), hk, rfl, fun w => ?_⟩
  cases neg
  · simp only [cond_false]; simp [hg, h1, he']
  · simp only [cond_true]; simp [hg, h2, he']
theorem eqi_ptr (d : Nat) {ty e : TypeId} (hu : P.underlying ty = some (.pointer e)) (w : World) (a : Option Addr) : (Op.equalIn (d + 1) ty (.pointer a) (.pointer none)).run P w = .ok a.isNone w := by
  cases a <;> simp [Op.equalIn, run_underlying hu]
theorem eqi_ptr' (d : Nat) {ty e : TypeId} (hu : P.underlying ty = some (.pointer e)) (w : World) (a : Option Addr) : (Op.equalIn (d + 1) ty (.pointer none) (.pointer a)).run P w = .ok a.isNone w := by
  cases a <;> simp [Op.equalIn, run_underlying hu]
theorem eqi_nilf (d : Nat) {ty : TypeId} {a b : Array TypeId} {c : Bool} (hu : P.underlying ty = some (.func a b c)) (w : World) : (Op.equalIn (d + 1) ty .nilFunc .nilFunc).run P w = .ok true w := by
  simp [Op.equalIn, run_underlying hu]
theorem eqi_func (d : Nat) {ty : TypeId} {a b : Array TypeId} {c : Bool} (hu : P.underlying ty = some (.func a b c)) (w : World) (f : Fn) (xs ys : Array Value) : (Op.equalIn (d + 1) ty (.func f xs ys) .nilFunc).run P w = .ok false w := by
  simp [Op.equalIn, run_underlying hu]
theorem eqvK_sound {neg : Bool} {ek : EqK} {x y : AV} {vx vy : Value} {κ : AV → Option β} {r : β} {ty : TypeId} (hx : VR ι x vx) (hy : VR ι y vy) (ht : eqTyOk P ty ek = true) (h : eqvK neg ek x y κ = some r) (X Y : Operand) :
    ∃ v z, κ v = some r ∧ VR ι v z ∧ ∀ w, (do eqGuard (bif neg then .neq else .eql) ty X Y vx vy; binOp (bif neg then .neq else .eql) ty vx vy : Sem Value).run P w = .ok z w := by
  unfold eqvK at h
  split at h
  · rename_i ks l l'
    split at h
    · rename_i hks
      have hks : kindsL l = ks := by simpa using hks
      cases hr : eqSegs l l' with
      | none => rw [hr] at h; cases h
      | some b =>
        rw [hr] at h
        obtain ⟨xs, rfl, wx, cx⟩ := hx.agg
        obtain ⟨ys, rfl, wy, cy⟩ := hy.agg
        have hp := eqSegs_pairs wx wy cx cy hr
        rw [hks] at hp
        have key : tyKs P 50 ty = some ks ∧ szOf P ty = some ks.length ∧ P.eqGuardType P.depth ty = false ∧ isAggB P ty = some true := by
          unfold eqTyOk at ht
          split at ht <;> first | contradiction | skip
          all_goals
            rename_i hu
            simp only [Bool.and_eq_true, beq_iff_eq, Bool.not_eq_true'] at ht
            cases ‹EqK.agg _ = EqK.agg _›
            exact ⟨ht.1.1, ht.1.2, ht.2, by simp [isAggB, hu]⟩
        obtain ⟨k1, k2, k3, k4⟩ := key
        refine eq_fin h ?_ ?_ rfl rfl
        · intro op w
          unfold eqGuard
          cases op <;> simp [k3]
        · intro w
          obtain ⟨i, hi, his⟩ := szOf_some k2
          have hl := hp.len
          obtain ⟨a, b', pa, pb, pe⟩ := eqT_of 50 ty ks k1 k2 (9999 + 1) (by omega) w xs ys 0 b (by
            simp only [List.drop_zero]
            rw [List.take_of_length_le (by omega), List.take_of_length_le (by omega)]; exact hp)
          have ea : a = .agg xs := by
            have : (part ty xs 0).run P w = .ok (.agg xs) w := by
              simp only [part, Sem.run_bind, isAggB_run k4, Result.andThen_ok, if_true]
              have : xs.extract 0 (0 + i.size) = xs := by rw [show 0 + i.size = xs.size by have := hl.1; simp at this; omega]; exact Array.extract_size
              simp [sizeOf, typeInfo, hi]; simpa using this
            rw [this] at pa; cases pa; rfl
          have eb : b' = .agg ys := by
            have : (part ty ys 0).run P w = .ok (.agg ys) w := by
              simp only [part, Sem.run_bind, isAggB_run k4, Result.andThen_ok, if_true]
              have : ys.extract 0 (0 + i.size) = ys := by rw [show 0 + i.size = ys.size by have := hl.2; simp at this; omega]; exact Array.extract_size
              simp [sizeOf, typeInfo, hi]; simpa using this
            rw [this] at pb; cases pb; rfl
          subst ea eb
          exact pe
    · cases h
  all_goals (try (cases h; done))
  · obtain rfl := hx.bool
    obtain rfl := hy.bool
    have hu : P.underlying ty = some .bool := by unfold eqTyOk at ht; split at ht <;> first | contradiction | assumption
    exact eq_fin h (fun op w => by unfold eqGuard; cases op <;> simp) (fun w => by rw [run_equalIn_bool' w 9999 ty _ _ hu]) rfl rfl
  · obtain rfl := hx.nilp
    obtain rfl := hy.nilp
    obtain ⟨e, hu⟩ : ∃ e, P.underlying ty = some (.pointer e) := by unfold eqTyOk at ht; split at ht <;> first | contradiction | exact ⟨_, ‹_›⟩
    exact eq_fin h (fun op w => by unfold eqGuard; cases op <;> simp) (fun w => eqi_ptr 9999 hu w none) rfl rfl
  · obtain ⟨p, _, rfl⟩ := hx.ptr
    obtain rfl := hy.nilp
    obtain ⟨e, hu⟩ : ∃ e, P.underlying ty = some (.pointer e) := by unfold eqTyOk at ht; split at ht <;> first | contradiction | exact ⟨_, ‹_›⟩
    exact eq_fin h (fun op w => by unfold eqGuard; cases op <;> simp) (fun w => eqi_ptr 9999 hu w _) rfl rfl
  · obtain rfl := hx.nilp
    obtain ⟨p, _, rfl⟩ := hy.ptr
    obtain ⟨e, hu⟩ : ∃ e, P.underlying ty = some (.pointer e) := by unfold eqTyOk at ht; split at ht <;> first | contradiction | exact ⟨_, ‹_›⟩
    exact eq_fin h (fun op w => by unfold eqGuard; cases op <;> simp) (fun w => eqi_ptr' 9999 hu w _) rfl rfl
  · obtain rfl := hx.nils
    obtain rfl := hy.nils
    obtain ⟨e, hu⟩ : ∃ e, P.underlying ty = some (.slice e) := by unfold eqTyOk at ht; split at ht <;> first | contradiction | exact ⟨_, ‹_›⟩
    exact eq_fin h (fun op w => by unfold eqGuard; cases op <;> simp) (fun w => run_equalIn_slice_nil w 9999 ty e none 0 0 hu) rfl rfl
  · split at h
    · cases h
    · rename_i hn
      obtain ⟨p, a, c, _, rfl, S⟩ := hx.slice
      obtain rfl := hy.nils
      obtain ⟨e, hu⟩ : ∃ e, P.underlying ty = some (.slice e) := by unfold eqTyOk at ht; split at ht <;> first | contradiction | exact ⟨_, ‹_›⟩
      have ha := S.addr.resolve_left (by have := S.le; omega)
      subst ha
      exact eq_fin h (fun op w => by unfold eqGuard; cases op <;> simp) (fun w => run_equalIn_slice_nil w 9999 ty e _ _ _ hu) rfl rfl
  · obtain ⟨b, c, rfl⟩ := hx.nne
    obtain rfl := hy.nils
    obtain ⟨e, hu⟩ : ∃ e, P.underlying ty = some (.slice e) := by unfold eqTyOk at ht; split at ht <;> first | contradiction | exact ⟨_, ‹_›⟩
    exact eq_fin h (fun op w => by unfold eqGuard; cases op <;> simp) (fun w => run_equalIn_slice_nil w 9999 ty e _ _ _ hu) rfl rfl
  · obtain ⟨a, c, rfl, _, F⟩ := hx.isl
    obtain rfl := hy.nils
    obtain ⟨e, hu⟩ : ∃ e, P.underlying ty = some (.slice e) := by unfold eqTyOk at ht; split at ht <;> first | contradiction | exact ⟨_, ‹_›⟩
    obtain ⟨b, off, f, rfl, _⟩ := F.2.resolve_left (by have := F.1; simp at this; omega)
    exact eq_fin h (fun op w => by unfold eqGuard; cases op <;> simp) (fun w => run_equalIn_slice_nil w 9999 ty e _ _ _ hu) rfl rfl
  · obtain ⟨a, c, rfl, _, _, F⟩ := hx.islR
    obtain rfl := hy.nils
    obtain ⟨e, hu⟩ : ∃ e, P.underlying ty = some (.slice e) := by unfold eqTyOk at ht; split at ht <;> first | contradiction | exact ⟨_, ‹_›⟩
    obtain ⟨b, off, f, rfl, _⟩ := F.2.resolve_left (by have := F.1; simp at this; omega)
    exact eq_fin h (fun op w => by unfold eqGuard; cases op <;> simp) (fun w => run_equalIn_slice_nil w 9999 ty e _ _ _ hu) rfl rfl
  · obtain rfl := hx.nilf
    obtain rfl := hy.nilf
    obtain ⟨a, b, c, hu⟩ : ∃ a b c, P.underlying ty = some (.func a b c) := by unfold eqTyOk at ht; split at ht <;> first | contradiction | exact ⟨_, _, _, ‹_›⟩
    exact eq_fin h (fun op w => by unfold eqGuard; cases op <;> simp) (fun w => eqi_nilf 9999 hu w) rfl rfl
  · obtain ⟨xs, ys, rfl, _, _⟩ := hx.func
    obtain rfl := hy.nilf
    obtain ⟨a, b, c, hu⟩ : ∃ a b c, P.underlying ty = some (.func a b c) := by unfold eqTyOk at ht; split at ht <;> first | contradiction | exact ⟨_, _, _, ‹_›⟩
    exact eq_fin h (fun op w => by unfold eqGuard; cases op <;> simp) (fun w => eqi_func 9999 hu w _ _ _) rfl rfl
theorem lowOpds_VR (ht : TR ι t ρ) : ∀ {xs : List Operand} {ys : List Opd}, lowOpds xs ys = true → (ys.map (·.ev t)).length = (xs.map ρ).length ∧ ∀ (i : Nat) v, (ys.map (·.ev t))[i]? = some v → ∃ x, (xs.map ρ)[i]? = some x ∧ VR ι v x
  | [], [], _ => ⟨rfl, fun i v h => by simp at h⟩
  | x :: xs, y :: ys, h => by
    simp only [lowOpds, Bool.and_eq_true] at h
    obtain ⟨h1, h2⟩ := lowOpds_VR ht h.2
    refine ⟨by simpa using h1, fun i v hi => ?_⟩
    cases i with
    | zero => simp only [List.map_cons, List.getElem?_cons_zero, Option.some.injEq] at hi; subst hi; exact ⟨_, rfl, ht _ _ h.1⟩
    | succ i => simpa using h2 i v (by simpa using hi)
  | [], _ :: _, h => by simp [lowOpds] at h
  | _ :: _, [], h => by simp [lowOpds] at h
theorem exec_v {o : Oper} {s : Sem Value} {x : Value} (e : execOp ρ o = (do pure (.value (← s)))) (h : ∀ w, s.run P w = .ok x w) (w : World) : (execOp ρ o).run P w = .ok (.value x) w := by
  rw [e]; simp [h]
theorem VAL_of {l : List AV} {xs : List Value} (h1 : l.length = xs.length) (h2 : ∀ (i : Nat) v, l[i]? = some v → ∃ x, xs[i]? = some x ∧ VR ι v x) (h3 : ∀ v ∈ l, valOk v = true) : VAL ι l xs :=
  ⟨h1, fun i v hi => by
    obtain ⟨x, hx, hv⟩ := h2 i v hi
    refine ⟨x, hx, ?_⟩
    have := h3 v (List.mem_of_getElem? hi)
    cases v <;> first | exact hv | simp [valOk] at this⟩
theorem run_mapM {γ : Type} {g : α → Sem γ} {f : α → γ} (w : World) : ∀ (l : List α), (∀ x ∈ l, (g x).run P w = .ok (f x) w) → (l.mapM g).run P w = .ok (l.map f) w
  | [], _ => by simp
  | x :: l, h => by
    rw [List.mapM_cons]
    simp [h x (by simp), run_mapM w l fun y hy => h y (by simp [hy])]
theorem run_amapM {γ : Type} {g : α → Sem γ} {f : α → γ} (w : World) (a : Array α) (h : ∀ x ∈ a, (g x).run P w = .ok (f x) w) : (a.mapM g).run P w = .ok (a.map f) w := by
  rw [Array.mapM_eq_mapM_toList]
  simp only [Sem.run_map, run_mapM (P := P) w a.toList fun x hx => h x (Array.mem_toList_iff.1 hx), Result.andThen_ok]
  congr 1
  apply Array.ext'
  simp
theorem opP_build {o : Oper} {ty : TypeId} {parts : Array (Nat × Operand)} {z : List AV} {parts' : List (Nat × Nat × Opd)} {κ : AV → Option β} {r : β} (ho : o.op = .build ty parts) (hl : lowP P o (.build z parts') = true) (ht : TR ι t ρ) (h : opP (.build z parts') t κ = some r) :
    ∃ v x, κ v = some r ∧ VR ι v x ∧ ∀ w, (execOp ρ o).run P w = .ok (.value x) w := by
  simp only [lowP, ho, Bool.and_eq_true] at hl
  obtain ⟨hz, hp⟩ := hl
  simp only [opP] at h
  cases hi : P.info? ty with
  | none => rw [hi] at hz; cases hz
  | some inf =>
    rw [hi] at hz
    cases hzv : inf.zero with
    | none => simp [hzv] at hz
    | some zv =>
      simp only [Option.bind_some, hzv] at hz
      obtain ⟨cs, e, wf, hc⟩ := sameAV_sound hz ι
      subst e
      cases hpp : putParts t parts' z with
      | none => rw [hpp] at h; cases h
      | some l =>
        rw [hpp] at h
        have fin : ∀ {place : Nat → Option (Nat × Nat)}, lowParts P place parts.toList parts' = true → (∀ w, (Instr.build ty (parts.map fun (i, x) => (i, ρ x))).run P w =
            match Instr.fill place cs (parts.map fun (i, x) => (i, ρ x)).toList with | some cells => .ok (.agg cells) w | none => (Instr.build ty (parts.map fun (i, x) => (i, ρ x))).run P w) → ∃ v x, κ v = some r ∧ VR ι v x ∧ ∀ w, (execOp ρ o).run P w = .ok (.value x) w := by
          intro place hlp hrun
          obtain ⟨cs', h1, h2, h3⟩ := putParts_sound ht hlp wf hc hpp
          refine ⟨_, .agg cs', h, ⟨cs', rfl, h2, h3⟩, fun w => ?_⟩
          refine exec_v (by unfold execOp; rw [ho]) (fun w => ?_) w
          rw [hrun]
          have : (parts.map fun (i, x) => (i, ρ x)).toList = parts.toList.map fun (i, x) => (i, ρ x) := by simp
          rw [this, h1]
        have hzr : ∀ w, (zeroValue ty).run P w = .ok (.agg cs) w := fun w => by simp [zeroValue, typeInfo, hi, hzv]
        split at hp
        · rename_i fs hu
          simp only [Bool.and_eq_true] at hp
          obtain ⟨hsz, hlp⟩ := hp
          have hsz' : ∀ f ∈ fs, (szOf P f.type).isSome = true := fun f hf => Array.all_eq_true_iff_forall_mem.1 hsz f hf
          have hpl : ∀ (w : World), (fs.mapM (m := Sem) fun f => do pure (f.offset, ← sizeOf f.type)).run P w = .ok (fs.map fun (f : Field) => (f.offset, (szOf P f.type).getD 0)) w := fun w =>
            run_amapM w fs fun f hf => by
              obtain ⟨n, hn⟩ := Option.isSome_iff_exists.1 (hsz' f hf)
              obtain ⟨i, hi, rfl⟩ := szOf_some hn
              simp [sizeOf, typeInfo, hi, szOf]
          have hplace : (fun (i : Nat) => (fs[i]?).bind fun (f : Field) => (szOf P f.type).map fun n => (f.offset, n)) = fun (i : Nat) => (fs.map fun (f : Field) => (f.offset, (szOf P f.type).getD 0))[i]? := by
            funext i
            rw [Array.getElem?_map]
            cases hf : fs[i]? with
            | none => rfl
            | some f =>
              obtain ⟨n, hn⟩ := Option.isSome_iff_exists.1 (hsz' f (Array.mem_of_getElem? hf))
              simp [hn]
          rw [hplace] at hlp
          refine fin hlp fun w => ?_
          cases hfl : Instr.fill (fun (i : Nat) => (fs.map fun (f : Field) => (f.offset, (szOf P f.type).getD 0))[i]?) cs (parts.map fun (i, x) => (i, ρ x)).toList with
          | none => rfl
          | some c => simp only [Instr.build, Sem.run_bind, hzr, Result.andThen_ok, run_underlying hu, hpl, Value.cells, hfl]; rfl
        · rename_i n e hu
          split at hp
          · rename_i sz hsz
            obtain ⟨i, hie, rfl⟩ := szOf_some hsz
            refine fin hp fun w => ?_
            cases hfl : Instr.fill (fun j => some (j * i.size, i.size)) cs (parts.map fun (i, x) => (i, ρ x)).toList with
            | none => rfl
            | some c => simp only [Instr.build, Sem.run_bind, hzr, Result.andThen_ok, run_underlying hu, run_sizeOf hie, Value.cells, hfl]; rfl
          · cases hp
        · cases hp
theorem opP_sound {o : Oper} {ao : AOp} {κ : AV → Option β} {r : β} (hl : lowP P o ao = true) (ht : TR ι t ρ) (h : opP ao t κ = some r) :
    ∃ v x, κ v = some r ∧ VR ι v x ∧ ∀ w, (execOp ρ o).run P w = .ok (.value x) w := by
  have hl0 := hl
  unfold lowP at hl
  split at hl
  · rename_i x y ho
    exact ⟨_, _, h, ht _ _ hl, fun w => by unfold execOp; rw [ho]; rfl⟩
  · rename_i x y ho
    exact ⟨_, _, h, ht _ _ hl, fun w => by unfold execOp; rw [ho]; rfl⟩
  · rename_i c a b c' a' b' ho
    simp only [Bool.and_eq_true] at hl
    have hc := ht _ _ hl.1.1
    simp only [opP] at h
    cases hcv : c'.ev t <;> rw [hcv] at h hc <;> simp only at h <;> try (cases h; done)
    rename_i q
    have hb : ρ c = .bool q := hc.bool
    cases q
    · exact ⟨_, _, h, ht _ _ hl.2, fun w => by unfold execOp; rw [ho]; simp [hb, asBool]⟩
    · exact ⟨_, _, h, ht _ _ hl.1.2, fun w => by unfold execOp; rw [ho]; simp [hb, asBool]⟩
  · rename_i ty parts z parts' ho
    exact opP_build ho hl0 ht h
  · rename_i x y ho
    have hx := ht _ _ hl
    simp only [opP] at h
    cases hxv : y.ev t <;> rw [hxv] at h hx <;> simp only at h <;> try (cases h; done)
    · obtain ⟨p, hp, e⟩ := hx.ptr
      exact ⟨_, _, h, hx, fun w => by unfold execOp; rw [ho]; simp [e]⟩
    · obtain ⟨xs, ys, e, _, _⟩ := hx.func
      exact ⟨_, _, h, hx, fun w => by unfold execOp; rw [ho]; simp [e]⟩
    · obtain ⟨p, hp, e⟩ := hx.win
      exact ⟨_, _, h, hx, fun w => by unfold execOp; rw [ho]; simp [e]⟩
    · obtain ⟨b, off, f, e, _⟩ := hx.fptr
      exact ⟨_, _, h, hx, fun w => by unfold execOp; rw [ho]; simp [e]⟩
  · rename_i op ty x y yt op' x' y' ho
    simp only [Bool.and_eq_true, decide_eq_true_eq] at hl
    obtain ⟨⟨rfl, h1⟩, h2⟩ := hl
    obtain ⟨v, z, q1, q2, q3⟩ := binK_sound (P := P) (ht _ _ h1) (ht _ _ h2) h ty x y
    exact ⟨v, z, q1, q2, exec_v (by unfold execOp; rw [ho]) q3⟩
  · rename_i ty x y yt ek x' y' ho
    simp only [Bool.and_eq_true] at hl
    obtain ⟨v, z, q1, q2, q3⟩ := eqvK_sound (ht _ _ hl.1.1) (ht _ _ hl.1.2) hl.2 h x y
    exact ⟨v, z, q1, q2, exec_v (by unfold execOp; rw [ho]; rfl) q3⟩
  · rename_i ty x y yt ek x' y' ho
    simp only [Bool.and_eq_true] at hl
    obtain ⟨v, z, q1, q2, q3⟩ := eqvK_sound (ht _ _ hl.1.1) (ht _ _ hl.1.2) hl.2 h x y
    exact ⟨v, z, q1, q2, exec_v (by unfold execOp; rw [ho]; rfl) q3⟩
  · rename_i op ty x op' x' ho
    simp only [Bool.and_eq_true, decide_eq_true_eq] at hl
    obtain ⟨rfl, h1⟩ := hl
    obtain ⟨v, z, q1, q2, q3⟩ := unK_sound (P := P) (ht _ _ h1) h
    exact ⟨v, z, q1, q2, exec_v (by unfold execOp; rw [ho]) q3⟩
  · rename_i s d x k x' ho
    simp only [Bool.and_eq_true] at hl
    obtain ⟨⟨h1, h2⟩, h3⟩ := hl
    have hx := ht _ _ h3
    simp only [opP] at h
    cases hxv : x'.ev t <;> rw [hxv] at h hx <;> simp only at h <;> try (cases h; done)
    have e := hx.int
    obtain ⟨sd, hs⟩ := Option.isSome_iff_exists.1 h1
    have hd : P.underlying d = some (.int k) := by
      unfold uInt at h2
      split at h2
      · rename_i k' hk; simp only [decide_eq_true_eq] at h2; rw [hk, h2]
      · cases h2
    refine ⟨_, _, h, ⟨rfl, rng_wrap _ _⟩, exec_v (s := convert s d (ρ x)) (by unfold execOp; rw [ho]) fun w => ?_⟩
    rw [e]
    cases sd <;> simp [convert, run_underlying hs, run_underlying hd, Conv.intToInt]
  · rename_i s d x x' ho
    simp only [Bool.and_eq_true] at hl
    obtain ⟨⟨h1, h2⟩, h3⟩ := hl
    have hx := ht _ _ h3
    simp only [opP] at h
    cases hxv : x'.ev t <;> rw [hxv] at h hx <;> simp only at h <;> try (cases h; done)
    have e := hx.str
    have hs : P.underlying s = some .string := by split at h1 <;> first | assumption | cases h1
    have hd : P.underlying d = some .string := by split at h2 <;> first | assumption | cases h2
    refine ⟨_, _, h, rfl, exec_v (s := convert s d (ρ x)) (by unfold execOp; rw [ho]) fun w => ?_⟩
    rw [e]
    simp [convert, run_underlying hs, run_underlying hd]
  · rename_i ty x lo hi mx z x' lo' hi' mx' ho
    simp only [Bool.and_eq_true] at hl
    obtain ⟨e, i, hu, hi1, hi2⟩ := uSlice_some hl.1.1.1.1
    obtain ⟨v, y, q1, q2, q3⟩ := slSliceK_sound (P := P) (ht _ _ hl.1.1.1.2) (optR_of ht hl.1.1.2) (optR_of ht hl.1.2) (optR_of ht hl.2) hu hi1 hi2 h
    exact ⟨v, y, q1, q2, exec_v (by unfold execOp; rw [ho]) q3⟩
  · cases h
  · rename_i ty x lo hi x' lo' hi' ho
    simp only [Bool.and_eq_true] at hl
    have hu : P.underlying ty = some .string := by have := hl.1.1.1; split at this <;> first | assumption | cases this
    obtain ⟨v, y, q1, q2, q3⟩ := slStrK_sound (P := P) (ht _ _ hl.1.1.2) (optR_of ht hl.1.2) (optR_of ht hl.2) hu h
    exact ⟨v, y, q1, q2, exec_v (by unfold execOp; rw [ho]; rfl) q3⟩
  · rename_i s x f off x' ho
    simp only [Bool.and_eq_true] at hl
    obtain ⟨h1, h2⟩ := hl
    have hx := ht _ _ h2
    simp only [opP, faddrK] at h
    split at h1 <;> try (cases h1; done)
    rename_i fs hu
    split at h1 <;> try (cases h1; done)
    rename_i fl hfl
    simp only [Bool.and_eq_true, beq_iff_eq] at h1
    split at h1 <;> try (cases h1.2; done)
    rename_i n hn
    obtain ⟨i, hi, rfl⟩ := szOf_some hn
    have hne : i.size ≠ 0 := by simpa using h1.2
    split at h <;> try (cases h; done)
    · rename_i id r0 e o' hxv
      rw [hxv] at hx
      obtain ⟨p, hp, e1⟩ := hx.ptr
      refine ⟨_, .pointer (some ⟨p.blk, p.base + (r0 * e + o' + 0) + off, none⟩), h, ⟨p, hp, by congr 2; congr 1; omega⟩, exec_v (s := Instr.fieldAt s (ρ x) f) (by unfold execOp; rw [ho]) fun w => ?_⟩
      rw [e1]
      simp [Instr.fieldAt, run_underlying hu, hfl, Instr.sureAddr, fieldPlace, sizeOf, typeInfo, hi, hne, addr_add, h1.1]
    · rename_i l o' hxv
      rw [hxv] at hx
      obtain ⟨b, of', g, e1, hg, wf, hn', hc⟩ := hx.fptr
      refine ⟨_, .pointer (some ⟨b, of' + (o' + 0) + off, none⟩), h, ⟨b, of', g, by congr 2; congr 1; omega, hg, wf, hn', hc⟩, exec_v (s := Instr.fieldAt s (ρ x) f) (by unfold execOp; rw [ho]) fun w => ?_⟩
      rw [e1]
      simp [Instr.fieldAt, run_underlying hu, hfl, Instr.sureAddr, fieldPlace, sizeOf, typeInfo, hi, hne, addr_add, h1.1]
  · rename_i ty x f agg off n x' ho
    simp only [Bool.and_eq_true] at hl
    obtain ⟨h1, h2⟩ := hl
    have hx := ht _ _ h2
    simp only [opP, fldK] at h
    cases hxv : x'.ev t <;> rw [hxv] at h hx <;> simp only at h <;> try (cases h; done)
    obtain ⟨cs, e1, wf, hc⟩ := hx.agg
    split at h1 <;> try (cases h1; done)
    rename_i fs hu
    split at h1 <;> try (cases h1; done)
    rename_i fl hfl
    simp only [Bool.and_eq_true, beq_iff_eq] at h1
    obtain ⟨⟨rfl, hsz⟩, ha⟩ := h1
    obtain ⟨i, hi, hin⟩ := szOf_some hsz
    obtain ⟨v, y, q1, q2, q3⟩ := part_sound (P := P) wf hc ha hi (fun _ => hin) (.inl h)
    refine ⟨v, y, q1, q2, exec_v (s := Instr.field ty (ρ x) f) (by unfold execOp; rw [ho]) fun w => ?_⟩
    rw [e1]
    simp [Instr.field, run_underlying hu, hfl, asAgg, q3]
  · rename_i ty x i n e x' i' ho
    simp only [Bool.and_eq_true] at hl
    obtain ⟨⟨h1, h2⟩, h3⟩ := hl
    split at h1 <;> try (cases h1; done)
    rename_i m el hu
    simp only [Bool.and_eq_true, beq_iff_eq] at h1
    obtain ⟨rfl, hsz⟩ := h1
    obtain ⟨inf, hinf, hz⟩ := szOf_some hsz
    obtain ⟨v, y, q1, q2, q3⟩ := iaddrAK_sound (P := P) (ht _ _ h2) (ht _ _ h3) hu hinf hz h
    exact ⟨v, y, q1, q2, exec_v (by unfold execOp; rw [ho]) q3⟩
  · rename_i ty x i z x' i' ho
    simp only [Bool.and_eq_true] at hl
    obtain ⟨⟨h1, h2⟩, h3⟩ := hl
    obtain ⟨e, inf, hu, hi1, hi2⟩ := uSlice_some h1
    obtain ⟨v, y, q1, q2, q3⟩ := iaddrSK_sound (P := P) (ht _ _ h2) (ht _ _ h3) hu hi1 hi2 h
    exact ⟨v, y, q1, q2, exec_v (by unfold execOp; rw [ho]) q3⟩
  · rename_i ty x i agg n e x' i' ho
    simp only [Bool.and_eq_true] at hl
    obtain ⟨⟨h1, h2⟩, h3⟩ := hl
    split at h1 <;> try (cases h1; done)
    rename_i m el hu
    simp only [Bool.and_eq_true, beq_iff_eq] at h1
    obtain ⟨⟨rfl, hsz⟩, ha⟩ := h1
    obtain ⟨inf, hinf, hz⟩ := szOf_some hsz
    obtain ⟨v, y, q1, q2, q3⟩ := idxAK_sound (P := P) (ht _ _ h2) (ht _ _ h3) hu hinf hz ha h
    exact ⟨v, y, q1, q2, exec_v (by unfold execOp; rw [ho]) q3⟩
  · rename_i ty x i x' i' ho
    simp only [Bool.and_eq_true] at hl
    have hu : P.underlying ty = some .string := by have := hl.1.1; split at this <;> first | assumption | cases this
    obtain ⟨v, y, q1, q2, q3⟩ := idxSK_sound (P := P) (ht _ _ hl.1.2) (ht _ _ hl.2) hu h
    exact ⟨v, y, q1, q2, exec_v (by unfold execOp; rw [ho]) q3⟩
  · rename_i x i x' i' ho
    simp only [Bool.and_eq_true, beq_iff_eq] at hl
    obtain ⟨rfl, h2⟩ := hl
    have hx := ht _ _ h2
    simp only [opP, extK] at h
    cases hxv : x'.ev t <;> rw [hxv] at h hx <;> simp only at h <;> try (cases h; done)
    rename_i vs
    obtain ⟨xs, e1, hv⟩ := hx.tuple
    cases hvi : vs[i]? with
    | none => rw [hvi] at h; cases h
    | some v =>
      rw [hvi] at h
      obtain ⟨y, hy, hva⟩ := hv.2 i v hvi
      refine ⟨v, y, h, .of_VA hva, exec_v (s := Instr.extract (ρ x) i) (by unfold execOp; rw [ho]) fun w => ?_⟩
      rw [e1]
      have hy' : xs[i]? = some y := by simpa using hy
      simp [Instr.extract, hy']
  · rename_i f a b f' a' b' ho
    simp only [Bool.and_eq_true, beq_iff_eq] at hl
    obtain ⟨⟨rfl, h1⟩, h2⟩ := hl
    simp only [opP] at h
    split at h
    · rename_i hok
      simp only [Bool.and_eq_true, List.all_eq_true] at hok
      obtain ⟨a1, a2⟩ := lowOpds_VR ht h1
      obtain ⟨b1, b2⟩ := lowOpds_VR ht h2
      refine ⟨_, .func (.func f) (a.map ρ) (b.map ρ), h, ⟨_, _, rfl, VAL_of (by simpa using a1) (by simpa using a2) hok.1, VAL_of (by simpa using b1) (by simpa using b2) hok.2⟩, fun w => ?_⟩
      unfold execOp; rw [ho]; simp [Instr.makeFunc]
    · cases h
  · rename_i ty x n x' ho
    simp only [Bool.and_eq_true] at hl
    obtain ⟨h1, h2⟩ := hl
    have hx := ht _ _ h2
    simp only [opP, arrPtrK] at h
    split at h1 <;> try (cases h1; done)
    rename_i m el hu
    simp only [beq_iff_eq] at h1
    subst h1
    split at h <;> try (cases h; done)
    · rename_i id o' j len cap hxv
      rw [hxv] at hx
      obtain ⟨p, a, c, hp, e1, S⟩ := hx.slice
      split at h <;> try (cases h; done)
      rename_i hb
      have ha := S.addr.resolve_left (by have := S.le; omega)
      subst ha
      refine ⟨_, .pointer (some ⟨p.blk, p.base + (o' + j * esz 0), none⟩), h, ⟨p, hp, by simp [esz]⟩, exec_v (s := Instr.arrayAt ty (ρ x)) (by unfold execOp; rw [ho]) fun w => ?_⟩
      rw [e1]
      exact run_arrayAt w ty el m _ len c hu hb.1
    · rename_i k xs hxv
      rw [hxv] at hx
      obtain ⟨a, c, e1, hr, F⟩ := hx.isl
      split at h <;> try (cases h; done)
      rename_i hb
      obtain ⟨b, off, f, rfl, hf, _, hc⟩ := F.2.resolve_left (by have := F.1; omega)
      refine ⟨_, .pointer (some ⟨b, off, none⟩), h, ⟨b, off, f, rfl, hf, by intro s hs; simp at hs; subst hs; simp [SegWf]; omega, rfl, fun i y hy => ?_⟩, exec_v (s := Instr.arrayAt ty (ρ x)) (by unfold execOp; rw [ho]) fun w => ?_⟩
      · refine hc i y ?_
        simp only [cellsL, segC, List.flatMap_cons, List.flatMap_nil, List.append_nil, List.map_take] at hy
        rw [List.getElem?_take] at hy
        split at hy
        · exact hy
        · cases hy
      · rw [e1]
        exact run_arrayAt w ty el m _ xs.length c hu hb.1
  · rename_i args argTypes s x' ho
    split at hl <;> try (cases hl; done)
    rename_i x ty hargs hty
    simp only [Bool.and_eq_true] at hl
    have hx := ht _ _ hl.1
    have ea : args = #[x] := by cases args; simp_all
    have et : argTypes = #[ty] := by cases argTypes; simp_all
    subst ea et
    have run : ∀ {y : Value}, (∀ w, (Builtin.len_ #[ty] o.type #[ρ x]).run P w = .ok y w) → ∀ w, (execOp ρ o).run P w = .ok (.value y) w := by
      intro y hy w
      unfold execOp; rw [ho]
      simp [resolve, invoke, builtin, hy]
    simp only [opP, lenK] at h
    split at h <;> try (cases h; done)
    · rename_i hxv
      rw [hxv] at hx
      obtain ⟨e, hu⟩ : ∃ e, P.underlying ty = some (.slice e) := by have := hl.2; split at this <;> first | exact ⟨_, ‹_›⟩ | cases this
      refine ⟨_, _, h, ⟨rfl, rng_signed rfl _⟩, run fun w => ?_⟩
      rw [hx.nils]
      simp [Builtin.len_, run_underlying hu, goInt]
    · rename_i id o' j n e' cap hxv
      rw [hxv] at hx
      obtain ⟨e, hu⟩ : ∃ e, P.underlying ty = some (.slice e) := by have := hl.2; split at this <;> first | exact ⟨_, ‹_›⟩ | cases this
      obtain ⟨p, a, c, hp, ev, S⟩ := hx.slice
      refine ⟨_, _, h, ⟨rfl, rng_signed rfl _⟩, run fun w => ?_⟩
      rw [ev]
      simp [Builtin.len_, run_underlying hu, goInt]
    · rename_i hxv
      rw [hxv] at hx
      obtain ⟨e, hu⟩ : ∃ e, P.underlying ty = some (.slice e) := by have := hl.2; split at this <;> first | exact ⟨_, ‹_›⟩ | cases this
      obtain ⟨a, c, ev, _⟩ := hx.isl
      refine ⟨_, _, h, ⟨rfl, rng_signed rfl _⟩, run fun w => ?_⟩
      rw [ev]
      simp [Builtin.len_, run_underlying hu, goInt]
    · rename_i hxv
      rw [hxv] at hx
      obtain ⟨e, hu⟩ : ∃ e, P.underlying ty = some (.slice e) := by have := hl.2; split at this <;> first | exact ⟨_, ‹_›⟩ | cases this
      obtain ⟨a, c, ev, _⟩ := hx.islR
      refine ⟨_, _, h, ⟨rfl, rng_signed rfl _⟩, run fun w => ?_⟩
      rw [ev]
      simp [Builtin.len_, run_underlying hu, goInt]
    · rename_i hxv
      rw [hxv] at hx
      obtain ⟨e, hu⟩ : ∃ e, P.underlying ty = some (.slice e) := by have := hl.2; split at this <;> first | exact ⟨_, ‹_›⟩ | cases this
      obtain ⟨a, ev⟩ := hx.emp
      refine ⟨_, _, h, ⟨rfl, rng_signed rfl _⟩, run fun w => ?_⟩
      rw [ev]
      simp [Builtin.len_, run_underlying hu, goInt]
    · rename_i hxv
      rw [hxv] at hx
      obtain ⟨e, hu⟩ : ∃ e, P.underlying ty = some (.slice e) := by have := hl.2; split at this <;> first | exact ⟨_, ‹_›⟩ | cases this
      obtain ⟨b, c, ev⟩ := hx.nne
      refine ⟨_, _, h, ⟨rfl, rng_signed rfl _⟩, run fun w => ?_⟩
      rw [ev]
      simp [Builtin.len_, run_underlying hu, goInt]
    · rename_i s hxv
      rw [hxv] at hx
      have hu : P.underlying ty = some .string := by have := hl.2; split at this <;> first | assumption | (simp at this; done) | cases this
      refine ⟨_, _, h, ⟨rfl, rng_signed rfl _⟩, run fun w => ?_⟩
      rw [hx.str]
      simp [Builtin.len_, run_underlying hu, goInt]
  · rename_i args argTypes x' y' ho
    split at hl <;> try (cases hl; done)
    rename_i x y hargs
    simp only [Bool.and_eq_true] at hl
    have hx := ht _ _ hl.1
    have hy := ht _ _ hl.2
    have ea : args = #[x, y] := by cases args; simp_all
    subst ea
    simp only [opP, minK] at h
    split at h <;> try (cases h; done)
    rename_i k a k' b hxv hyv
    split at h <;> try (cases h; done)
    rename_i hkk
    subst hkk
    rw [hxv] at hx
    rw [hyv] at hy
    have e1 := hx.int
    have e2 := hy.int
    refine ⟨_, _, h, ⟨rfl, by split; exact hy.rng; exact hx.rng⟩, fun w => ?_⟩
    unfold execOp; rw [ho]
    simp [resolve, invoke, builtin, Builtin.min_, Builtin.min2, e1, e2]
  · cases hl
end
section
variable {β : Type} {P : Program} {ι : Inj} {t : List AV} {ρ : Operand → Value}
theorem rdCell_cells {b : Blk} {r e o j : Nat} {κ : AV → Option β} {q : β} (wf : b.Wf) (h : rdCell b r e o j κ = some q) : ∃ v, κ v = some q ∧ b.cells[r * e + o + j]? = some v := by
  cases b with
  | iter => cases h
  | segs l => exact rdSegs_cells wf h
  | rows e' n xs =>
    simp only [rdCell] at h
    split at h
    · rename_i he
      subst he
      cases hl : xs[r]? with
      | none => rw [hl] at h; cases h
      | some l =>
        rw [hl] at h
        have hm := List.mem_of_getElem? hl
        obtain ⟨v, h1, h2⟩ := rdSegs_cells (wf.2 l hm).1 h
        refine ⟨v, h1, ?_⟩
        have hlt : o + j < (cellsL l).length := (List.getElem?_eq_some_iff.1 h2).1
        rw [(wf.2 l hm).2.1] at hlt
        rw [Nat.add_assoc]
        exact (flatMap_get (fun x hx => (wf.2 x hx).2.1) hl _ hlt).trans h2
    · cases h
theorem rdAgg_cells {b : Blk} {r e o n : Nat} {κ : AV → Option β} {q : β} (wf : b.Wf) (h : rdAgg b r e o n κ = some q) :
    ∃ s, κ (.agg s) = some q ∧ SegsWf s ∧ (cellsL s).length = n ∧ ∀ i, i < n → (cellsL s)[i]? = b.cells[r * e + o + i]? := by
  cases b with
  | iter => cases h
  | segs l =>
    simp only [rdAgg] at h
    cases hc : cutSegs l (r * e + o) n with
    | none => rw [hc] at h; cases h
    | some s =>
      rw [hc] at h
      obtain ⟨w1, w2, w3⟩ := cutSegs_cells wf hc
      exact ⟨s, h, w1, w2, w3⟩
  | rows e' m xs =>
    simp only [rdAgg] at h
    split at h
    · rename_i he
      subst he
      cases hl : xs[r]? with
      | none => rw [hl] at h; cases h
      | some l =>
        rw [hl] at h
        simp only [Option.bind_some] at h
        cases hc : cutSegs l o n with
        | none => rw [hc] at h; cases h
        | some s =>
          rw [hc] at h
          have hm := List.mem_of_getElem? hl
          obtain ⟨w1, w2, w3⟩ := cutSegs_cells (wf.2 l hm).1 hc
          refine ⟨s, h, w1, w2, fun i hi => ?_⟩
          have hlt : o + i < e := by
            have : (cellsL s)[i]? ≠ none := by rw [Ne, List.getElem?_eq_none_iff]; omega
            rw [w3 i hi, Ne, List.getElem?_eq_none_iff, (wf.2 l hm).2.1] at this
            omega
          rw [w3 i hi, Nat.add_assoc]
          exact (flatMap_get (fun x hx => (wf.2 x hx).2.1) hl _ hlt).symm
    · cases h
theorem HRel.cell {h : Heap} {w : World} {id q : Nat} {c : Cell} {p : Place} {v : AV} (R : HRel ι h w) (hg : h.get id = some c) (hp : ι id = some p) (hv : c.blk.cells[q]? = some v) (hni : ∀ s pos, c.blk ≠ .iter s pos) : ∃ x, w.cell? ⟨p.blk, p.base + q, none⟩ = some x ∧ SR ι v x := by
  obtain ⟨p', hp', wf, hs, h0, h1⟩ := R.blk id c hg
  rw [hp] at hp'; cases hp'
  have hlim : p.lim ≠ 0 := fun e => by
    have : c.blk.cells = [] := List.eq_nil_of_length_eq_zero (by rw [hs, h0 e])
    rw [this] at hv; simp at hv
  obtain ⟨arr, el, fz, hb, _, _, hc, _⟩ := (rowOf (h1 hlim) hni).row
  obtain ⟨x, hx, hsr⟩ := hc q v hv
  exact ⟨x, by simp [World.cell?, hb, hx], hsr⟩
theorem HRel.load {h : Heap} {w : World} {id q n : Nat} {c : Cell} {p : Place} {l : List AV} (R : HRel ι h w) (hg : h.get id = some c) (hp : ι id = some p) (hn : l.length = n) (hv : ∀ i, i < n → l[i]? = c.blk.cells[q + i]?) (hni : ∀ s pos, c.blk ≠ .iter s pos) :
    ∃ xs : List Value, (loadCells ⟨p.blk, p.base + q, none⟩ n).run P w = .ok xs.toArray w ∧ CR ι l xs ∧ (∀ (j : Nat) v, xs[j]? = some v → w.cell? ((⟨p.blk, p.base + q, none⟩ : Addr).add j) = some v) := by
  have key : ∀ (m : Nat) (l : List AV), l.length = m → ∀ q, (∀ i, i < m → l[i]? = c.blk.cells[q + i]?) → ∃ xs : List Value, xs.length = m ∧ (∀ (j : Nat) v, xs[j]? = some v → w.cell? ⟨p.blk, p.base + q + j, none⟩ = some v) ∧ ∀ (i : Nat) v, l[i]? = some v → ∃ x, xs[i]? = some x ∧ SR ι v x := by
    intro m
    induction m with
    | zero => intro l hl q _; exact ⟨[], rfl, fun j v h => by simp at h, fun i v h => by rw [List.eq_nil_of_length_eq_zero hl] at h; simp at h⟩
    | succ m ih =>
      intro l hl q hq
      cases l with
      | nil => simp at hl
      | cons a l =>
        have h0 := hq 0 (by omega)
        simp only [List.getElem?_cons_zero, Nat.add_zero] at h0
        obtain ⟨x, hx, hs⟩ := R.cell hg hp h0.symm hni
        obtain ⟨xs, h1, h2, h3⟩ := ih l (by simpa using hl) (q + 1) (fun i hi => by
          have := hq (i + 1) (by omega)
          rw [show q + 1 + i = q + (i + 1) by omega]
          simpa using this)
        refine ⟨x :: xs, by simp [h1], fun j v hj => ?_, fun i v hi => ?_⟩
        · cases j with
          | zero => simp only [List.getElem?_cons_zero, Option.some.injEq] at hj; subst hj; exact hx
          | succ j =>
            have := h2 j v (by simpa using hj)
            rw [show p.base + q + (j + 1) = p.base + (q + 1) + j by omega]
            exact this
        · cases i with
          | zero => simp only [List.getElem?_cons_zero, Option.some.injEq] at hi; subst hi; exact ⟨x, rfl, hs⟩
          | succ i => simpa using h3 i v (by simpa using hi)
  obtain ⟨xs, h1, h2, h3⟩ := key n l hn q hv
  have h2' : ∀ (j : Nat) v, xs[j]? = some v → w.cell? ((⟨p.blk, p.base + q, none⟩ : Addr).add j) = some v := fun j v hj => by rw [addr_add]; exact h2 j v hj
  refine ⟨xs, ?_, ⟨by omega, h3⟩, h2'⟩
  have := run_loadCells_list (P := P) w ⟨p.blk, p.base + q, none⟩ xs h2'
  rw [h1] at this
  exact this
theorem loadK_sound {agg : Bool} {n : Nat} {h : Heap} {w : World} {x : AV} {vx : Value} {κ : AV → Option β} {r : β} {ty : TypeId} (R : HRel ι h w) (hx : VR ι x vx) (ha : isAggB P ty = some agg) (hs : agg = true → szOf P ty = some n) (hk : loadK agg n h x κ = some r) :
    ∃ v y, κ v = some r ∧ VR ι v y ∧ (Instr.loadAt ty vx).run P w = .ok y w := by
  have one : ∀ {id q : Nat} {c : Cell} {p : Place} {v : AV}, h.get id = some c → ι id = some p → c.blk.cells[q]? = some v → agg = false → (∀ s pos, c.blk ≠ .iter s pos) → ∃ y, VR ι v y ∧ (Instr.loadAt ty (.pointer (some ⟨p.blk, p.base + q, none⟩))).run P w = .ok y w := by
    intro id q c p v hg hp hv hag hni
    obtain ⟨y, hy, hsr⟩ := R.cell hg hp hv hni
    subst hag
    exact ⟨y, .of_SR hsr, by simp [Instr.loadAt, Instr.sureAddr, loadVar, isAggB_run ha, hy]⟩
  have many : ∀ {id q : Nat} {c : Cell} {p : Place} {s : List AV}, h.get id = some c → ι id = some p → agg = true → SegsWf s → (cellsL s).length = n → (∀ i, i < n → (cellsL s)[i]? = c.blk.cells[q + i]?) → (∀ s pos, c.blk ≠ .iter s pos) →
      ∃ y, VR ι (.agg s) y ∧ (Instr.loadAt ty (.pointer (some ⟨p.blk, p.base + q, none⟩))).run P w = .ok y w := by
    intro id q c p s hg hp hag ws hl hv hni
    obtain ⟨xs, h1, h2, _⟩ := R.load (P := P) hg hp hl hv hni
    obtain ⟨i, hi, his⟩ := szOf_some (hs hag)
    subst hag
    exact ⟨.agg xs.toArray, ⟨_, rfl, ws, h2⟩, by simp [Instr.loadAt, Instr.sureAddr, loadVar, isAggB_run ha, sizeOf, typeInfo, hi, his, h1]⟩
  unfold loadK at hk
  cases x <;> simp only at hk <;> try (cases hk; done)
  · rename_i id r0 e o j
    obtain ⟨p, hp, rfl⟩ := hx.ptr
    cases hg : h.get id with
    | none => rw [hg] at hk; cases hk
    | some c =>
      rw [hg] at hk
      obtain ⟨_, _, wf, _⟩ := R.blk id c hg
      have hni : ∀ s pos, c.blk ≠ .iter s pos := by
        intro s pos e
        simp only [e, rdAgg, rdCell] at hk
        split at hk
        · split at hk <;> cases hk
        · cases hk
      cases agg with
      | false =>
        simp only [Bool.false_eq_true, if_false] at hk
        obtain ⟨v, h1, h2⟩ := rdCell_cells wf hk
        obtain ⟨y, h3, h4⟩ := one hg hp h2 rfl hni
        exact ⟨v, y, h1, h3, h4⟩
      | true =>
        simp only [if_true] at hk
        split at hk
        · rename_i hj
          subst hj
          obtain ⟨s, h1, h2, h3, h4⟩ := rdAgg_cells wf hk
          obtain ⟨y, h5, h6⟩ := many hg hp rfl h2 h3 h4 hni
          exact ⟨_, y, h1, h5, h6⟩
        · cases hk
  · rename_i id o j
    obtain ⟨p, hp, rfl⟩ := hx.win
    cases hg : h.get id with
    | none => rw [hg] at hk; cases hk
    | some c =>
      rw [hg] at hk
      obtain ⟨_, _, wf, _⟩ := R.blk id c hg
      cases agg with
      | false => cases hk
      | true =>
        simp only [if_true, rdWin] at hk
        split at hk <;> try (cases hk; done)
        rename_i l hb
        rw [hb] at wf
        split at hk <;> try (cases hk; done)
        rename_i k m xs hsg
        split at hk <;> try (cases hk; done)
        rename_i hle
        obtain ⟨a, b, e, hl⟩ := segAt_split wf hsg
        have hlen : (xs.drop j |>.take n).length = n := by simp; omega
        obtain ⟨y, h5, h6⟩ := many (q := o + j) (s := [.ints k n ((xs.drop j).take n)]) hg hp rfl (by intro s hs; simp at hs; subst hs; exact hlen) (by simp [cellsL, segC]; omega) (fun i hi => by
          rw [hb]
          have hr : (cellsL l)[o + j + i]? = (xs.map (AV.int k))[j + i]? := by
            rw [e, cellsL_append, cellsL_cons, List.getElem?_append_right (by omega), List.getElem?_append_left (by simp [segC]; omega)]
            simp only [segC]
            congr 1
            omega
          show _ = (cellsL l)[o + j + i]?
          rw [hr]
          have hl' : cellsL [AV.ints k n ((xs.drop j).take n)] = ((xs.map (AV.int k)).drop j).take n := by simp [cellsL, segC, List.map_take, List.map_drop]
          rw [hl', List.getElem?_take, if_pos hi, List.getElem?_drop]) (by intro s pos e; rw [hb] at e; cases e)
        exact ⟨_, y, hk, h5, h6⟩
  · rename_i l o j
    obtain ⟨b, off, f, rfl, hf, wf, hn, hc⟩ := hx.fptr
    obtain ⟨⟨arr, el, z, hg, _, hcell⟩, _⟩ := R.fz b f hf
    have cell : ∀ i y, (cellsL l)[i]? = some y → ∃ x, w.cell? ⟨b, off + i, none⟩ = some x ∧ SR ι y x := fun i y hy => by
      obtain ⟨_, _, x, hx, hs⟩ := hcell _ _ (hc i y hy)
      exact ⟨x, by simp [World.cell?, hg, hx], hs⟩
    cases agg with
    | false =>
      simp only [Bool.false_eq_true, if_false] at hk
      obtain ⟨v, h1, h2⟩ := rdSegs_cells wf hk
      obtain ⟨y, hy, hs⟩ := cell _ _ h2
      exact ⟨v, y, h1, .of_SR hs, by simp [Instr.loadAt, Instr.sureAddr, loadVar, isAggB_run ha, hy]⟩
    | true =>
      simp only [if_true] at hk
      split at hk
      · rename_i hj
        subst hj
        cases hcut : cutSegs l o n with
        | none => rw [hcut] at hk; cases hk
        | some s =>
          rw [hcut] at hk
          obtain ⟨w1, w2, w3⟩ := cutSegs_cells wf hcut
          have key : ∀ (m : Nat) (s : List AV), s.length = m → ∀ q, (∀ i, i < m → s[i]? = (cellsL l)[q + i]?) → ∃ xs : List Value, xs.length = m ∧ (∀ (j : Nat) v, xs[j]? = some v → w.cell? ⟨b, off + q + j, none⟩ = some v) ∧ ∀ (i : Nat) v, s[i]? = some v → ∃ x, xs[i]? = some x ∧ SR ι v x := by
            intro m
            induction m with
            | zero => intro s hl q _; exact ⟨[], rfl, fun j v h => by simp at h, fun i v h => by rw [List.eq_nil_of_length_eq_zero hl] at h; simp at h⟩
            | succ m ih =>
              intro s hl q hq
              cases s with
              | nil => simp at hl
              | cons a s =>
                have h0 := hq 0 (by omega)
                simp only [List.getElem?_cons_zero, Nat.add_zero] at h0
                obtain ⟨x, hx, hs⟩ := cell q a h0.symm
                obtain ⟨xs, h1, h2, h3⟩ := ih s (by simpa using hl) (q + 1) (fun i hi => by
                  have := hq (i + 1) (by omega)
                  rw [show q + 1 + i = q + (i + 1) by omega]
                  simpa using this)
                refine ⟨x :: xs, by simp [h1], fun j v hj => ?_, fun i v hi => ?_⟩
                · cases j with
                  | zero => simp only [List.getElem?_cons_zero, Option.some.injEq] at hj; subst hj; exact hx
                  | succ j =>
                    have := h2 j v (by simpa using hj)
                    rw [show off + q + (j + 1) = off + (q + 1) + j by omega]
                    exact this
                · cases i with
                  | zero => simp only [List.getElem?_cons_zero, Option.some.injEq] at hi; subst hi; exact ⟨x, rfl, hs⟩
                  | succ i => simpa using h3 i v (by simpa using hi)
          obtain ⟨xs, k1, k2, k3⟩ := key n (cellsL s) w2 o w3
          have hrun := run_loadCells_list (P := P) w ⟨b, off + o, none⟩ xs (fun j v hj => by rw [addr_add]; exact k2 j v hj)
          rw [k1] at hrun
          obtain ⟨i, hi, his⟩ := szOf_some (hs rfl)
          exact ⟨_, .agg xs.toArray, hk, ⟨_, rfl, w1, by simp; omega, k3⟩, by simp [Instr.loadAt, Instr.sureAddr, loadVar, isAggB_run ha, sizeOf, typeInfo, hi, his, hrun]⟩
      · cases hk
end
end Go.Am
