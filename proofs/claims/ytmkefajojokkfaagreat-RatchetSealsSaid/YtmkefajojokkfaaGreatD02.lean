/- RatchetSeals: part 3 of 50 of its proof. -/
import Derived.Test.YtmkefajojokkfaaGreatD01
import Derived.ChangeKeysEq
set_option linter.unusedVariables false
set_option linter.unusedSimpArgs false
namespace Go.Am
set_option linter.unusedSimpArgs false
theorem addr_add (b off n : Nat) : (⟨b, off, none⟩ : Addr).add n = ⟨b, off + n, none⟩ := by unfold Addr.add; split <;> simp_all
theorem SlR.cut {p : Place} {o j len e : Nat} {cap : Option Nat} {a : Option Addr} {c l hh m : Nat} {cap' : Option Nat} (S : SlR p o j len e cap a c) (hl : l ≤ hh) (hm : hh ≤ m) (hmc : m ≤ c)
    (hcap : ∀ q, cap' = some q → m - l = q ∧ o + (j + m) * esz e ≤ p.size) (hfit : o + (j + hh) * esz e ≤ p.size) :
    SlR p o (j + l) (hh - l) e cap' (if m = l then a else a.map (·.add (l * esz e))) (m - l) where
  le := by omega
  addr := by
    by_cases h : m = l
    · left; omega
    · right
      rw [if_neg h]
      rcases S.addr with h0 | h0
      · omega
      · subst h0
        simp only [Option.map_some, addr_add, Option.some.injEq, Addr.mk.injEq, and_true, true_and]
        rw [Nat.add_mul]; omega
  exact := fun q hq => by
    obtain ⟨h1, h2⟩ := hcap q hq
    refine ⟨h1, ?_⟩
    subst h1
    rw [show j + l + (m - l) = j + m by omega]
    exact h2
  fits := by rw [show j + l + (hh - l) = j + hh by omega]; exact hfit
  most := by
    rcases S.most with h0 | h0
    · left; omega
    · right
      have := Nat.mul_le_mul_right (esz e) (show j + l + (m - l) ≤ j + c by omega)
      omega
theorem FrzS.cut {ι : Inj} {a : Option Addr} {c n l hh z : Nat} {cells cells' : List AV} (F : FrzS ι a c n z cells) (hl : l ≤ hh) (hn : hh ≤ n) (hc : ∀ i y, cells'[i]? = some y → cells[l * z + i]? = some y) :
    FrzS ι (if c = l then a else a.map (·.add (l * z))) (c - l) (hh - l) z cells' := by
  refine ⟨by have := F.1; omega, ?_⟩
  by_cases h : c = l
  · left; omega
  · rw [if_neg h]
    rcases F.2 with h0 | ⟨b, off, f, rfl, h2, h4, h3⟩
    · left; omega
    · right
      refine ⟨b, off + l * z, f, ?_, h2, ?_, fun i y hi => ?_⟩
      · unfold Addr.add; simp
      · have h5 : l * z + (c - l) * z = c * z := by rw [← Nat.add_mul]; congr 1; have := F.1; omega
        omega
      · rw [Nat.add_assoc]; exact h3 _ _ (hc i y hi)
theorem flat_drop {e : Nat} : ∀ {xs : List (List AV)} (l : Nat), (∀ r ∈ xs, (cellsL r).length = e) → ∀ i y, ((xs.drop l).flatMap cellsL)[i]? = some y → (xs.flatMap cellsL)[l * e + i]? = some y
  | xs, 0, _, i, y, h => by simpa using h
  | [], l + 1, _, i, y, h => by simp at h
  | x :: xs, l + 1, hw, i, y, h => by
    have := flat_drop (xs := xs) l (fun r hr => hw r (List.mem_cons_of_mem _ hr)) i y (by simpa using h)
    rw [List.flatMap_cons, List.getElem?_append_right (by rw [hw x (by simp), Nat.add_mul]; omega), hw x (by simp), ← this]
    congr 1
    rw [Nat.add_mul]; omega
theorem flat_take : ∀ {xs : List (List AV)} (n i : Nat) (y : AV), ((xs.take n).flatMap cellsL)[i]? = some y → (xs.flatMap cellsL)[i]? = some y
  | [], n, i, y, h => by simp at h
  | x :: xs, 0, i, y, h => by simp at h
  | x :: xs, n + 1, i, y, h => by
    rw [List.take_succ_cons, List.flatMap_cons, List.getElem?_append] at h
    rw [List.flatMap_cons, List.getElem?_append]
    split at h
    · rename_i hl; rw [if_pos hl]; exact h
    · rename_i hl; rw [if_neg hl]; exact flat_take n _ y h
theorem uSlice_some {P : Program} {t : TypeId} {z : Nat} (h : uSlice P t z = true) : ∃ e i, P.underlying t = some (.slice e) ∧ P.info? e = some i ∧ i.size = z := by
  unfold uSlice at h
  split at h
  · rename_i e he
    simp only [szOf, beq_iff_eq] at h
    cases hi : P.info? e with
    | none => rw [hi] at h; cases h
    | some i => rw [hi] at h; exact ⟨e, i, he, hi, by simpa using h⟩
  · cases h
theorem szOf_some {P : Program} {t : TypeId} {z : Nat} (h : szOf P t = some z) : ∃ i, P.info? t = some i ∧ i.size = z := by
  unfold szOf at h
  cases hi : P.info? t with
  | none => rw [hi] at h; cases h
  | some i => rw [hi] at h; exact ⟨i, rfl, by simpa using h⟩
section
variable {β : Type} {P : Program} {ι : Inj}
theorem run_sizeOf {e : TypeId} {i : TypeInfo} (hi : P.info? e = some i) (w : World) : (sizeOf e).run P w = .ok i.size w := by simp [sizeOf, typeInfo, hi]
theorem slSliceK_sound {z : Nat} {x : AV} {lo hi mx : Option AV} {vx : Value} {vlo vhi vmx : Option Value} {κ : AV → Option β} {r : β} {t e : TypeId} {i : TypeInfo} (hx : VR ι x vx) (hlo : OptR ι lo vlo) (hhi : OptR ι hi vhi) (hmx : OptR ι mx vmx)
    (ht : P.underlying t = some (.slice e)) (hi' : P.info? e = some i) (hz : i.size = z) (h : slSliceK z x lo hi mx κ = some r) :
    ∃ v y, κ v = some r ∧ VR ι v y ∧ ∀ w, (Instr.sliceAt t vx vlo vhi vmx).run P w = .ok y w := by
  have run : ∀ {a len cap l hh m}, (∀ w, (Instr.sliceBounds true len cap vlo vhi vmx).run P w = .ok (l, hh, m) w) → ∀ w, (Instr.sliceAt t (.slice a len cap) vlo vhi vmx).run P w = .ok (.slice (if m = l then a else a.map (·.add (l * z))) (hh - l) (m - l)) w := by
    intro a len cap l hh m hb w
    simp [Instr.sliceAt, Instr.slice, run_underlying ht, hb, sizeOf, typeInfo, hi', hz]
  unfold slSliceK at h
  cases x <;> simp only at h <;> try (cases h; done)
  · obtain rfl := hx.nils
    cases mx with
    | some m => cases h
    | none =>
      cases vmx with
      | some v => exact hmx.elim
      | none =>
        obtain ⟨hh, l, h1, h2, h3, h4⟩ := bounds2 (P := P) (len := 0) (cap := 0) (most := 0) (κ := fun _ _ => κ .nils) hlo hhi (Nat.le_refl _) (Nat.le_refl _) true h
        refine ⟨_, _, h1, ?_, run h4⟩
        have : hh = 0 := by omega
        subst this
        have : l = 0 := by omega
        subst this
        rfl
  · rename_i id o j len e0 cap
    split at h
    · cases h
    · rename_i hez
      have hez : esz e0 = z := Decidable.not_not.1 hez
      obtain ⟨p, a, c, hp, rfl, S⟩ := hx.slice
      cases mx with
      | none =>
        cases vmx with
        | some v => exact hmx.elim
        | none =>
          cases cap with
          | some c0 =>
            obtain ⟨rfl, hs⟩ := S.exact _ rfl
            obtain ⟨hh, l, h1, h2, h3, h4⟩ := bounds2 (P := P) (κ := fun h l => κ (.slice id o (j + l) (h - l) e0 (some (c - l)))) hlo hhi S.le (Nat.le_refl _) true h
            refine ⟨_, _, h1, ⟨p, _, _, hp, rfl, ?_⟩, run h4⟩
            subst hez
            exact S.cut h2 h3 (Nat.le_refl _) (fun q hq => by cases hq; exact ⟨rfl, hs⟩) (Nat.le_trans (Nat.add_le_add_left (Nat.mul_le_mul_right _ (by omega)) _) hs)
          | none =>
            obtain ⟨hh, l, h1, h2, h3, h4⟩ := bounds2 (P := P) (κ := fun h l => κ (.slice id o (j + l) (h - l) e0 none)) hlo hhi (Nat.le_refl _) S.le true h
            refine ⟨_, _, h1, ⟨p, _, _, hp, rfl, ?_⟩, run h4⟩
            subst hez
            exact S.cut h2 (Nat.le_trans h3 S.le) (Nat.le_refl _) (fun q hq => by cases hq) (Nat.le_trans (Nat.add_le_add_left (Nat.mul_le_mul_right _ (by omega)) _) S.fits)
      | some m =>
        cases vmx with
        | none => exact hmx.elim
        | some vm =>
          cases hi with
          | none => cases h
          | some hi =>
            have hsz : o + (j + capOr cap len) * esz e0 ≤ p.size := by
              cases cap with
              | none => exact S.fits
              | some c0 => exact (S.exact _ rfl).2
            have hcc : capOr cap len ≤ c := by
              cases cap with
              | none => exact S.le
              | some c0 => exact Nat.le_of_eq (S.exact _ rfl).1.symm
            obtain ⟨mm, hh, l, h1, h2, h3, h4, h5⟩ := bounds3 (P := P) (κ := fun m h l => κ (.slice id o (j + l) (h - l) e0 (some (m - l)))) hmx hlo hhi hcc true rfl h
            refine ⟨_, _, h1, ⟨p, _, _, hp, rfl, ?_⟩, run h5⟩
            subst hez
            have hb := Nat.le_trans (Nat.add_le_add_left (Nat.mul_le_mul_right (esz e0) (Nat.add_le_add_left h4 j)) o) hsz
            exact S.cut h2 h3 (Nat.le_trans h4 hcc) (fun q hq => by cases hq; exact ⟨rfl, hb⟩) (Nat.le_trans (Nat.add_le_add_left (Nat.mul_le_mul_right _ (by omega)) _) hb)
  · rename_i k xs
    split at h
    · cases h
    · rename_i hz1
      have hz1 : 1 = z := Decidable.not_not.1 hz1
      obtain ⟨a, c, rfl, hr, F⟩ := hx.isl
      cases mx with
      | none =>
        cases vmx with
        | some v => exact hmx.elim
        | none =>
          obtain ⟨hh, l, h1, h2, h3, h4⟩ := bounds2 (P := P) (κ := fun h l => κ (.isl k ((xs.drop l).take (h - l)))) hlo hhi (Nat.le_refl _) F.1 true h
          have hlen : ((xs.drop l).take (hh - l)).length = hh - l := by simp; omega
          refine ⟨_, _, h1, ⟨_, c - l, by rw [hlen], fun y hy => hr y (List.mem_of_mem_drop (List.mem_of_mem_take hy)), ?_⟩, run h4⟩
          rw [hlen]
          subst hz1
          refine F.cut h2 h3 (fun i y hi => ?_)
          simp only [List.getElem?_map, Option.map_eq_some_iff] at hi ⊢
          obtain ⟨u, hu, rfl⟩ := hi
          refine ⟨u, ?_, rfl⟩
          rw [List.getElem?_take] at hu
          split at hu
          · rw [List.getElem?_drop] at hu; simpa using hu
          · cases hu
      | some m =>
        cases vmx with
        | none => exact hmx.elim
        | some vm =>
          cases hi with
          | none => cases h
          | some hi =>
            obtain ⟨mm, hh, l, h1, h2, h3, h4, h5⟩ := bounds3 (P := P) (κ := fun _ _ _ => κ .emp) hmx hlo hhi (Nat.zero_le c) true rfl h
            have : mm = 0 := by omega
            subst this
            have : hh = 0 := by omega
            subst this
            have : l = 0 := by omega
            subst this
            exact ⟨_, _, h1, ⟨_, rfl⟩, run h5⟩
  · rename_i e0 xs
    split at h
    · cases h
    · rename_i hez
      have hez : e0 = z := Decidable.not_not.1 hez
      obtain ⟨a, c, rfl, he0, hr, F⟩ := hx.islR
      cases mx with
      | none =>
        cases vmx with
        | some v => exact hmx.elim
        | none =>
          obtain ⟨hh, l, h1, h2, h3, h4⟩ := bounds2 (P := P) (κ := fun h l => κ (.islR e0 ((xs.drop l).take (h - l)))) hlo hhi (Nat.le_refl _) F.1 true h
          have hlen : ((xs.drop l).take (hh - l)).length = hh - l := by simp; omega
          refine ⟨_, _, h1, ⟨_, c - l, by rw [hlen], he0, fun y hy => hr y (List.mem_of_mem_drop (List.mem_of_mem_take hy)), ?_⟩, run h4⟩
          rw [hlen]
          subst hez
          refine F.cut h2 h3 (fun i y hi => ?_)
          exact flat_drop l (fun r hr' => (hr r hr').2.1) i y (flat_take _ i y hi)
      | some m =>
        cases vmx with
        | none => exact hmx.elim
        | some vm =>
          cases hi with
          | none => cases h
          | some hi =>
            obtain ⟨mm, hh, l, h1, h2, h3, h4, h5⟩ := bounds3 (P := P) (κ := fun _ _ _ => κ .emp) hmx hlo hhi (Nat.zero_le c) true rfl h
            have : mm = 0 := by omega
            subst this
            have : hh = 0 := by omega
            subst this
            have : l = 0 := by omega
            subst this
            exact ⟨_, _, h1, ⟨_, rfl⟩, run h5⟩
  · obtain ⟨a, rfl⟩ := hx.emp
    cases mx with
    | none =>
      cases vmx with
      | some v => exact hmx.elim
      | none =>
        obtain ⟨hh, l, h1, h2, h3, h4⟩ := bounds2 (P := P) (len := 0) (cap := 0) (most := 0) (κ := fun _ _ => κ .emp) hlo hhi (Nat.le_refl _) (Nat.le_refl _) true h
        have : hh = 0 := by omega
        subst this
        have : l = 0 := by omega
        subst this
        exact ⟨_, _, h1, ⟨_, rfl⟩, run h4⟩
    | some m =>
      cases vmx with
      | none => exact hmx.elim
      | some vm =>
        cases hi with
        | none => cases h
        | some hi =>
          obtain ⟨mm, hh, l, h1, h2, h3, h4, h5⟩ := bounds3 (P := P) (len := 0) (κ := fun _ _ _ => κ .emp) hmx hlo hhi (Nat.zero_le 0) true rfl h
          have : mm = 0 := by omega
          subst this
          have : hh = 0 := by omega
          subst this
          have : l = 0 := by omega
          subst this
          exact ⟨_, _, h1, ⟨_, rfl⟩, run h5⟩
theorem slArrK_sound {n e : Nat} {x : AV} {lo hi mx : Option AV} {vx : Value} {vlo vhi vmx : Option Value} {κ : AV → Option β} {r : β} {t el : TypeId} {i : TypeInfo} (hx : VR ι x vx) (hlo : OptR ι lo vlo) (hhi : OptR ι hi vhi) (hmx : OptR ι mx vmx)
    (ht : P.underlying t = some (.array n el)) (hi' : P.info? el = some i) (hz : i.size = esz e) (hfit : ∀ id o p, x = .ptr id 0 0 o 0 → ι id = some p → o + n * esz e ≤ p.size ∧ (n = 0 ∨ p.base + p.size ≤ p.lim)) (h : slArrK n e x lo hi mx κ = some r) :
    ∃ v y, κ v = some r ∧ VR ι v y ∧ ∀ w, (Instr.sliceAt t vx vlo vhi vmx).run P w = .ok y w := by
  unfold slArrK at h
  split at h <;> try (cases h; done)
  rename_i id o
  obtain ⟨p, hp, rfl⟩ := hx.ptr
  obtain ⟨hf1, hf2⟩ := hfit id o p rfl hp
  have run : ∀ {l hh m}, (∀ w, (Instr.sliceBounds false n n vlo vhi vmx).run P w = .ok (l, hh, m) w) → ∀ w, (Instr.sliceAt t (.pointer (some ⟨p.blk, p.base + (0 * 0 + o + 0), none⟩)) vlo vhi vmx).run P w =
      .ok (.slice (some (if m = l then ⟨p.blk, p.base + o, none⟩ else (⟨p.blk, p.base + o, none⟩ : Addr).add (l * esz e))) (hh - l) (m - l)) w := by
    intro l hh m hb w
    simp [Instr.sliceAt, run_underlying ht, Instr.sureAddr, hb, sizeOf, typeInfo, hi', hz]
  have S0 : SlR p o 0 n e (some n) (some ⟨p.blk, p.base + o, none⟩) n := ⟨Nat.le_refl _, .inr (by simp), fun m hm => by cases hm; exact ⟨rfl, by simpa using hf1⟩, by simpa using hf1, hf2.elim .inl (fun q => .inr (by simp; omega))⟩
  have back : ∀ {l hh m : Nat}, (if m = l then (some ⟨p.blk, p.base + o, none⟩ : Option Addr) else (some ⟨p.blk, p.base + o, none⟩ : Option Addr).map (·.add (l * esz e))) = some (if m = l then ⟨p.blk, p.base + o, none⟩ else (⟨p.blk, p.base + o, none⟩ : Addr).add (l * esz e)) := by
    intro l hh m; split <;> rfl
  cases mx with
  | none =>
    cases vmx with
    | some v => exact hmx.elim
    | none =>
      obtain ⟨hh, l, h1, h2, h3, h4⟩ := bounds2 (P := P) (κ := fun h l => κ (.slice id o l (h - l) e (some (n - l)))) hlo hhi (Nat.le_refl n) (Nat.le_refl n) false h
      have C := S0.cut h2 h3 (Nat.le_refl n) (cap' := some (n - l)) (fun q hq => by cases hq; exact ⟨rfl, by simpa using hf1⟩) (Nat.le_trans (Nat.add_le_add_left (Nat.mul_le_mul_right _ (by omega)) _) hf1)
      rw [back (hh := hh), Nat.zero_add] at C
      exact ⟨_, _, h1, ⟨p, _, _, hp, rfl, C⟩, run h4⟩
  | some m =>
    cases vmx with
    | none => exact hmx.elim
    | some vm =>
      cases hi with
      | none => cases h
      | some hi =>
        obtain ⟨mm, hh, l, h1, h2, h3, h4, h5⟩ := bounds3 (P := P) (κ := fun m h l => κ (.slice id o l (h - l) e (some (m - l)))) hmx hlo hhi (Nat.le_refl n) false rfl h
        have hb : o + (0 + mm) * esz e ≤ p.size := Nat.le_trans (Nat.add_le_add_left (Nat.mul_le_mul_right _ (by omega)) _) hf1
        have C := S0.cut h2 h3 h4 (cap' := some (mm - l)) (fun q hq => by cases hq; exact ⟨rfl, hb⟩) (Nat.le_trans (Nat.add_le_add_left (Nat.mul_le_mul_right _ (by omega)) _) hb)
        rw [back (hh := hh), Nat.zero_add] at C
        exact ⟨_, _, h1, ⟨p, _, _, hp, rfl, C⟩, run h5⟩
end
section
variable {β : Type} {P : Program} {ι : Inj} {t : List AV} {ρ : Operand → Value}
theorem slStrK_sound {x : AV} {lo hi : Option AV} {vx : Value} {vlo vhi : Option Value} {κ : AV → Option β} {r : β} {t : TypeId} (hx : VR ι x vx) (hlo : OptR ι lo vlo) (hhi : OptR ι hi vhi)
    (ht : P.underlying t = some .string) (h : slStrK x lo hi κ = some r) : ∃ v y, κ v = some r ∧ VR ι v y ∧ ∀ w, (Instr.sliceAt t vx vlo vhi none).run P w = .ok y w := by
  unfold slStrK at h
  cases x <;> simp only at h <;> try (cases h; done)
  rename_i s
  obtain rfl := hx.str
  obtain ⟨hh, l, h1, h2, h3, h4⟩ := bounds2 (P := P) (κ := fun h l => κ (.str (s.extract l h))) hlo hhi (Nat.le_refl s.size) (Nat.le_refl s.size) false h
  exact ⟨_, _, h1, rfl, fun w => by simp [Instr.sliceAt, Instr.slice, run_underlying ht, h4]⟩
theorem cut_CR {l s : List AV} {vs : List Value} {o n : Nat} (wf : SegsWf l) (hc : CR ι (cellsL l) vs) (h : cutSegs l o n = some s) : SegsWf s ∧ CR ι (cellsL s) ((vs.drop o).take n) ∧ (cellsL s).length = n ∧ o + n ≤ vs.length := by
  obtain ⟨w1, w2, w3⟩ := cutSegs_cells wf h
  have hle : o + n ≤ vs.length ∨ n = 0 := by
    by_cases hn : n = 0
    · exact .inr hn
    · left
      have h1 : (cellsL s)[n - 1]? ≠ none := by rw [Ne, List.getElem?_eq_none_iff]; omega
      rw [w3 (n - 1) (by omega), Ne, List.getElem?_eq_none_iff, hc.1] at h1
      omega
  have hle' : o + n ≤ vs.length := by
    rcases hle with h0 | h0
    · exact h0
    · subst h0
      unfold cutSegs at h
      cases hd : dropSegs l o with
      | none => rw [hd] at h; cases h
      | some b =>
        obtain ⟨a, e, hl⟩ := dropSegs_split wf hd
        rw [← hc.1, e, cellsL_append, List.length_append]; omega
  refine ⟨w1, ⟨by rw [w2, List.length_take, List.length_drop]; omega, fun i v hi => ?_⟩, w2, hle'⟩
  have hin : i < n := by rw [← w2]; exact (List.getElem?_eq_some_iff.1 hi).1
  rw [w3 i hin] at hi
  obtain ⟨x, hx, hs⟩ := hc.2 _ _ hi
  exact ⟨x, by rw [List.getElem?_take, if_pos hin, List.getElem?_drop]; exact hx, hs⟩
theorem extract_toList (cs : Array Value) (o n : Nat) : (cs.extract o (o + n)).toList = (cs.toList.drop o).take n := by
  rw [Array.toList_extract, List.extract_eq_take_drop]
  congr 1; omega
theorem isAggB_run {t : TypeId} {b : Bool} (h : isAggB P t = some b) (w : World) : (isAgg t).run P w = .ok b w := by
  unfold isAggB at h
  split at h <;> rename_i hu
  · cases h; simp [isAgg, run_underlying hu]
  · cases h; simp [isAgg, run_underlying hu]
  · rename_i d h1 h2
    cases h
    simp only [isAgg, Sem.run_bind, run_underlying hu, Result.andThen_ok]
    cases d <;> first | rfl | exact absurd rfl (h1 _) | exact absurd rfl (h2 _ _)
  · cases h
theorem part_sound {l : List AV} {cs : Array Value} {o n : Nat} {agg : Bool} {κ : AV → Option β} {r : β} {t : TypeId} {i : TypeInfo} (wf : SegsWf l) (hc : CR ι (cellsL l) cs.toList) (ha : isAggB P t = some agg) (hi : P.info? t = some i) (hz : agg = true → i.size = n)
    (h : (if agg then (cutSegs l o n).bind fun s => κ (.agg s) else rdSegs l o 0 κ) = some r ∨ (agg = false ∧ ∃ o1 o2, o = o1 + o2 ∧ rdSegs l o1 o2 κ = some r)) :
    ∃ v y, κ v = some r ∧ VR ι v y ∧ ∀ w, (part t cs o).run P w = .ok y w := by
  have scal : ∀ o1 o2, o = o1 + o2 → agg = false → rdSegs l o1 o2 κ = some r → ∃ v y, κ v = some r ∧ VR ι v y ∧ ∀ w, (part t cs o).run P w = .ok y w := by
    intro o1 o2 ho hag h
    obtain ⟨v, hv, hcell⟩ := rdSegs_cells wf h
    obtain ⟨x, hx, hs⟩ := hc.2 _ _ hcell
    rw [← ho] at hx
    refine ⟨v, x, hv, .of_SR hs, fun w => ?_⟩
    have hx' : cs[o]? = some x := by simpa using hx
    subst hag
    simp [part, isAggB_run ha, hx']
  rcases h with h | ⟨hag, o1, o2, ho, h⟩
  · cases agg with
    | false => exact scal o 0 (by omega) rfl (by simpa using h)
    | true =>
      simp only [if_true] at h
      cases hcut : cutSegs l o n with
      | none => rw [hcut] at h; cases h
      | some s =>
        rw [hcut] at h
        obtain ⟨w1, w2, w3, _⟩ := cut_CR wf hc hcut
        refine ⟨_, .agg (cs.extract o (o + n)), h, ⟨_, rfl, w1, by rw [extract_toList]; exact w2⟩, fun w => ?_⟩
        simp [part, isAggB_run ha, sizeOf, typeInfo, hi, hz rfl]
  · exact scal o1 o2 ho hag h
theorem idxK_sound {i : AV} {vi : Value} {n : Nat} {κ : Nat → Option β} {r : β} (hi : VR ι i vi) (h : idxK i n κ = some r) : ∃ (k : IntKind) (m : Int), vi = .int k m ∧ 0 ≤ m ∧ m < (n : Int) ∧ κ m.toNat = some r := by
  unfold idxK at h
  cases i <;> simp only at h <;> try (cases h; done)
  rename_i k m
  obtain rfl := hi.int
  split at h
  · rename_i hb; exact ⟨k, m, rfl, hb.1, hb.2, h⟩
  · cases h
theorem iaddrAK_sound {n e : Nat} {x i : AV} {vx vi : Value} {κ : AV → Option β} {r : β} {t el : TypeId} {inf : TypeInfo} (hx : VR ι x vx) (hi : VR ι i vi) (ht : P.underlying t = some (.array n el)) (hinf : P.info? el = some inf) (hz : inf.size = esz e)
    (h : iaddrAK n e x i κ = some r) : ∃ v y, κ v = some r ∧ VR ι v y ∧ ∀ w, (Instr.indexAt t vx vi).run P w = .ok y w := by
  unfold iaddrAK at h
  split at h <;> try (cases h; done)
  · rename_i id r0 e' o
    obtain ⟨p, hp, rfl⟩ := hx.ptr
    obtain ⟨k, m, rfl, h0, h1, h2⟩ := idxK_sound hi h
    refine ⟨_, .pointer (some ⟨p.blk, p.base + (r0 * e' + o + 0) + m.toNat * esz e, none⟩), h2, ?_, fun w => ?_⟩
    · split
      · rename_i he; subst he; exact ⟨p, hp, by simp [esz, Nat.add_assoc]⟩
      · rename_i he; exact ⟨p, hp, by simp [esz, he]; omega⟩
    · simp [Instr.indexAt, asIntOf, run_underlying ht, Instr.sureAddr, h0, h1, sizeOf, typeInfo, hinf, hz, addr_add]
  · rename_i l o
    obtain ⟨b, off, f, rfl, hf, wf, hn, hc⟩ := hx.fptr
    obtain ⟨k, m, rfl, h0, h1, h2⟩ := idxK_sound hi h
    refine ⟨_, .pointer (some ⟨b, off + (o + 0) + m.toNat * esz e, none⟩), h2, ?_, fun w => ?_⟩
    · split
      · rename_i he; subst he; exact ⟨b, off, f, by simp [esz]; omega, hf, wf, hn, hc⟩
      · rename_i he; exact ⟨b, off, f, by simp [esz, he]; omega, hf, wf, hn, hc⟩
    · simp [Instr.indexAt, asIntOf, run_underlying ht, Instr.sureAddr, h0, h1, sizeOf, typeInfo, hinf, hz, addr_add]
theorem iaddrSK_sound {z : Nat} {x i : AV} {vx vi : Value} {κ : AV → Option β} {r : β} {t el : TypeId} {inf : TypeInfo} (hx : VR ι x vx) (hi : VR ι i vi) (ht : P.underlying t = some (.slice el)) (hinf : P.info? el = some inf) (hz : inf.size = z)
    (h : iaddrSK z x i κ = some r) : ∃ v y, κ v = some r ∧ VR ι v y ∧ ∀ w, (Instr.indexAt t vx vi).run P w = .ok y w := by
  unfold iaddrSK at h
  cases x <;> simp only at h <;> try (cases h; done)
  · rename_i id o j len e cap
    split at h
    · cases h
    · rename_i hez
      have hez : esz e = z := Decidable.not_not.1 hez
      obtain ⟨p, a, c, hp, rfl, S⟩ := hx.slice
      obtain ⟨k, m, rfl, h0, h1, h2⟩ := idxK_sound hi h
      have ha : a = some ⟨p.blk, p.base + (o + j * esz e), none⟩ := S.addr.resolve_left (by have := S.le; omega)
      subst ha
      refine ⟨_, .pointer (some ⟨p.blk, p.base + (o + j * esz e) + m.toNat * z, none⟩), h2, ?_, fun w => ?_⟩
      · split
        · rename_i he; subst he; subst hez; exact ⟨p, hp, by simp [esz]; omega⟩
        · rename_i he; subst hez; exact ⟨p, hp, by simp [esz, he, Nat.add_mul]; omega⟩
      · simp [Instr.indexAt, asIntOf, run_underlying ht, h0, h1, sizeOf, typeInfo, hinf, hz, addr_add]
  · rename_i k' xs
    split at h
    · cases h
    · rename_i hez
      have hez : 1 = z := Decidable.not_not.1 hez
      obtain ⟨a, c, rfl, hr, F⟩ := hx.isl
      obtain ⟨k, m, rfl, h0, h1, h2⟩ := idxK_sound hi h
      cases hxm : xs[m.toNat]? with
      | none => rw [hxm] at h2; cases h2
      | some x =>
        rw [hxm] at h2
        simp only [Option.bind_some] at h2
        obtain ⟨b, off, f, rfl, hf, _, hc⟩ := F.2.resolve_left (by have := F.1; omega)
        refine ⟨_, .pointer (some ⟨b, off + m.toNat * z, none⟩), h2, ⟨b, off + m.toNat, f, by subst hez; simp, hf, by intro s hs; simp at hs; subst hs; trivial, rfl, fun i y hy => ?_⟩, fun w => ?_⟩
        · simp only [cellsL, segC, List.flatMap_cons, List.flatMap_nil, List.append_nil] at hy
          have hi0 : i = 0 := by
            have := (List.getElem?_eq_some_iff.1 hy).1
            simpa using this
          subst hi0
          simp only [List.getElem?_cons_zero, Option.some.injEq] at hy
          subst hy
          exact hc _ _ (by simp [hxm])
        · simp [Instr.indexAt, asIntOf, run_underlying ht, h0, h1, sizeOf, typeInfo, hinf, hz, addr_add]
  · rename_i e xs
    split at h
    · cases h
    · rename_i hez
      have hez : e = z := Decidable.not_not.1 hez
      obtain ⟨a, c, rfl, he0, hr, F⟩ := hx.islR
      obtain ⟨k, m, rfl, h0, h1, h2⟩ := idxK_sound hi h
      cases hxm : xs[m.toNat]? with
      | none => rw [hxm] at h2; cases h2
      | some l =>
        rw [hxm] at h2
        simp only [Option.bind_some] at h2
        obtain ⟨b, off, f, rfl, hf, _, hc⟩ := F.2.resolve_left (by have := F.1; omega)
        obtain ⟨w1, w2, w3⟩ := hr l (List.mem_of_getElem? hxm)
        refine ⟨_, .pointer (some ⟨b, off + m.toNat * z, none⟩), h2, ⟨b, off + m.toNat * z, f, by simp, hf, w1, w3, fun i y hy => ?_⟩, fun w => ?_⟩
        · have hil : i < e := by rw [← w2]; exact (List.getElem?_eq_some_iff.1 hy).1
          rw [Nat.add_assoc]
          refine hc _ _ ?_
          rw [← hez, flatMap_get (e := e) (fun x hx => (hr x hx).2.1) hxm i hil]
          exact hy
        · simp [Instr.indexAt, asIntOf, run_underlying ht, h0, h1, sizeOf, typeInfo, hinf, hz, addr_add]
theorem idxAK_sound {agg : Bool} {n e : Nat} {x i : AV} {vx vi : Value} {κ : AV → Option β} {r : β} {t el : TypeId} {inf : TypeInfo} (hx : VR ι x vx) (hi : VR ι i vi) (ht : P.underlying t = some (.array n el)) (hinf : P.info? el = some inf)
    (hz : inf.size = if agg then e else 1) (ha : isAggB P el = some agg) (h : idxAK agg n e x i κ = some r) : ∃ v y, κ v = some r ∧ VR ι v y ∧ ∀ w, (Instr.index t vx vi).run P w = .ok y w := by
  unfold idxAK at h
  cases x <;> simp only at h <;> try (cases h; done)
  rename_i l
  obtain ⟨cs, rfl, wf, hc⟩ := hx.agg
  obtain ⟨k, m, rfl, h0, h1, h2⟩ := idxK_sound hi h
  have key : ∃ v y, κ v = some r ∧ VR ι v y ∧ ∀ w, (part el cs (m.toNat * inf.size)).run P w = .ok y w := by
    cases agg with
    | true =>
      have hz' : inf.size = e := by simpa using hz
      refine part_sound (n := e) wf hc ha hinf (fun _ => hz') (.inl ?_)
      rw [hz']; exact h2
    | false =>
      have hz' : inf.size = 1 := by simpa using hz
      refine part_sound (n := e) wf hc ha hinf (fun hh => by cases hh) (.inr ⟨rfl, 0, m.toNat, ?_, by simpa using h2⟩)
      rw [hz']; omega
  obtain ⟨v, y, q1, q2, q3⟩ := key
  exact ⟨v, y, q1, q2, fun w => by simp [Instr.index, asIntOf, run_underlying ht, h0, h1, sizeOf, typeInfo, hinf, q3]⟩
theorem idxSK_sound {x i : AV} {vx vi : Value} {κ : AV → Option β} {r : β} {t : TypeId} (hx : VR ι x vx) (hi : VR ι i vi) (ht : P.underlying t = some .string) (h : idxSK x i κ = some r) : ∃ v y, κ v = some r ∧ VR ι v y ∧ ∀ w, (Instr.index t vx vi).run P w = .ok y w := by
  unfold idxSK at h
  split at h <;> try (cases h; done)
  rename_i s k m
  obtain rfl := hx.str
  obtain rfl := hi.int
  split at h
  · rename_i h0
    cases hb : s.data[m.toNat]? with
    | none => rw [hb] at h; cases h
    | some b =>
      rw [hb] at h
      have hs : s[m.toNat]? = some b := by
        obtain ⟨hlt, he⟩ := Array.getElem?_eq_some_iff.1 hb
        have hlt' : m.toNat < s.size := hlt
        rw [getElem?_pos s m.toNat hlt']
        exact congrArg some he
      exact ⟨_, _, h, ⟨rfl, rng_byte b⟩, fun w => by simp [Instr.index, asIntOf, run_underlying ht, h0, hs]⟩
  · cases h
theorem SR.one {v : AV} {x : Value} (h : SR ι v x) : x.cells = #[x] ∧ x.oneCell' = true := by
  cases v with
  | bool b => cases h; exact ⟨rfl, rfl⟩
  | int k n => obtain ⟨rfl, _⟩ := h; exact ⟨rfl, rfl⟩
  | str s => cases h; exact ⟨rfl, rfl⟩
  | nilp => cases h; exact ⟨rfl, rfl⟩
  | ptr => obtain ⟨p, _, rfl⟩ := h; exact ⟨rfl, rfl⟩
  | win => obtain ⟨p, _, rfl⟩ := h; exact ⟨rfl, rfl⟩
  | nils => cases h; exact ⟨rfl, rfl⟩
  | slice => obtain ⟨p, a, c, _, rfl, _⟩ := h; exact ⟨rfl, rfl⟩
  | nilf => cases h; exact ⟨rfl, rfl⟩
  | isl => obtain ⟨a, c, rfl, _⟩ := h; exact ⟨rfl, rfl⟩
  | islR => obtain ⟨a, c, rfl, _⟩ := h; exact ⟨rfl, rfl⟩
  | emp => obtain ⟨a, rfl⟩ := h; exact ⟨rfl, rfl⟩
  | nne => obtain ⟨b, c, rfl⟩ := h; exact ⟨rfl, rfl⟩
  | fptr => obtain ⟨b, off, f, rfl, _⟩ := h; exact ⟨rfl, rfl⟩
  | _ => exact h.elim
theorem SR.CR {v : AV} {x : Value} (h : SR ι v x) : CR ι [v] x.cells.toList := by
  rw [h.one.1]
  refine ⟨rfl, fun i v hi => ?_⟩
  cases i with
  | zero => simp only [List.getElem?_cons_zero, Option.some.injEq] at hi; subst hi; exact ⟨x, rfl, h⟩
  | succ i => simp at hi
theorem cells_of_VA {v : AV} {x : Value} (h : VA ι v x) : Am.CR ι (match v with | .agg s => cellsL s | v => [v]) x.cells.toList ∧ ((∀ s, v ≠ .agg s) → x.oneCell' = true) := by
  cases v with
  | agg s => obtain ⟨cs, rfl, wf, hc⟩ := h; exact ⟨hc, fun hn => absurd rfl (hn _)⟩
  | _ =>
    simp only [VA] at h
    exact ⟨h.CR, fun _ => h.one.2⟩
theorem fill_fold (vc : Array Value) (cs : Array Value) (off : Nat) (h : off + vc.size ≤ cs.size) :
    (vc.zipIdx.foldl (fun cs (x : Value × Nat) => cs.setIfInBounds (off + x.2) x.1) cs).toList = cs.toList.take off ++ vc.toList ++ cs.toList.drop (off + vc.size) := by
  have key : ∀ (l : List Value) (k : Nat) (cs : Array Value), off + k + l.length ≤ cs.size →
      ((l.zipIdx k).foldl (fun cs (x : Value × Nat) => cs.setIfInBounds (off + x.2) x.1) cs).toList = cs.toList.take (off + k) ++ l ++ cs.toList.drop (off + k + l.length) := by
    intro l
    induction l with
    | nil => intro k cs h; simp
    | cons v l ih =>
      intro k cs h
      simp only [List.zipIdx_cons, List.foldl_cons]
      rw [ih (k + 1) _ (by simp at h ⊢; omega)]
      simp only [Array.toList_setIfInBounds]
      have := list_seg_step cs.toList (off + k) v l (by simp at h ⊢; omega)
      simpa [Nat.add_assoc] using this
  have := key vc.toList 0 cs (by simpa using h)
  rw [← Array.foldl_toList, Array.toList_zipIdx]
  simpa using this
theorem spl_get {α : Type} (l v : List α) (off : Nat) (h : off + v.length ≤ l.length) (i : Nat) : (l.take off ++ v ++ l.drop (off + v.length))[i]? = if off ≤ i ∧ i < off + v.length then v[i - off]? else l[i]? := by
  have hmin : min off l.length = off := by omega
  by_cases h1 : i < off
  · rw [if_neg (by omega), List.append_assoc, List.getElem?_append_left (by simp; omega), List.getElem?_take, if_pos h1]
  · by_cases h2 : i < off + v.length
    · rw [if_pos ⟨by omega, h2⟩, List.append_assoc, List.getElem?_append_right (by simp; omega), List.getElem?_append_left (by simp; omega)]
      simp [hmin]
    · rw [if_neg (by omega), List.getElem?_append_right (by simp; omega), List.getElem?_drop]
      congr 1
      simp [hmin]; omega
theorem putPart_sound {l l' : List AV} {o n : Nat} {v : AV} {x : Value} {cs : Array Value} (wf : SegsWf l) (hc : CR ι (cellsL l) cs.toList) (hv : VR ι v x) (h : putPart l o n v = some l') :
    x.cells.size = n ∧ o + n ≤ cs.size ∧ SegsWf l' ∧ CR ι (cellsL l') (cs.toList.take o ++ x.cells.toList ++ cs.toList.drop (o + x.cells.size)) := by
  have hlen : (cellsL l).length = cs.size := by simpa using hc.1
  have fin : ∀ {vc : List AV}, CR ι vc x.cells.toList → SegsWf l' → (cellsL l').length = (cellsL l).length → o + vc.length ≤ (cellsL l).length → (∀ i, i < vc.length → (cellsL l')[o + i]? = vc[i]?) → (∀ i, (i < o ∨ o + vc.length ≤ i) → (cellsL l')[i]? = (cellsL l)[i]?) →
      CR ι (cellsL l') (cs.toList.take o ++ x.cells.toList ++ cs.toList.drop (o + x.cells.size)) := by
    intro vc hvc w1 w2 w3 w4 w5
    have hsz : x.cells.toList.length = vc.length := hvc.1.symm
    have hsz' : x.cells.size = vc.length := by simpa using hsz
    refine ⟨by simp; omega, fun i v hi => ?_⟩
    rw [show x.cells.size = x.cells.toList.length by simp, spl_get _ _ _ (by simp; omega), hsz]
    by_cases hin : o ≤ i ∧ i < o + vc.length
    · rw [if_pos hin]
      have := w4 (i - o) (by omega)
      rw [show o + (i - o) = i by omega, hi] at this
      exact hvc.2 _ _ this.symm
    · rw [if_neg hin]
      rw [w5 i (by omega)] at hi
      exact hc.2 _ _ hi
  have scal : (∀ s, v ≠ .agg s) → (if n = 1 then putCell l o v else none) = some l' → x.cells.size = n ∧ o + n ≤ cs.size ∧ SegsWf l' ∧ CR ι (cellsL l') (cs.toList.take o ++ x.cells.toList ++ cs.toList.drop (o + x.cells.size)) := by
    intro hn q
    split at q
    · rename_i hn1
      subst hn1
      obtain ⟨w1, w2, w3, w4⟩ := putCell_cells wf q
      have hva : VA ι v x := by cases v <;> first | exact hv | simp [oneCell] at w4
      have hvc : CR ι [v] x.cells.toList := by
        have := (cells_of_VA hva).1
        cases v <;> first | exact this | exact absurd rfl (hn _)
      have hsz : x.cells.size = 1 := by have := hvc.1; simp at this; omega
      refine ⟨hsz, by omega, w1, fin hvc w1 (by rw [w3]; simp) (by simp; omega) (fun i hi => ?_) (fun i hi => ?_)⟩
      · have : i = 0 := by simpa using hi
        subst this
        rw [w3]; simp [List.getElem?_set, w2]
      · rw [w3, List.getElem?_set, if_neg (by simp at hi; omega)]
    · cases q
  cases v with
  | agg s =>
    simp only [putPart] at h
    split at h
    · rename_i hs
      obtain ⟨xs, rfl, ws, hcs⟩ := hv.agg
      have hl := sizeL_eq ws
      obtain ⟨w1, w2, w3, w4, w5⟩ := putSegs_cells wf ws (by omega) h
      have hx : (Value.agg xs).cells.size = n := by
        have := hcs.1
        show xs.size = n
        simp at this; omega
      have hn : (cellsL s).length = n := by omega
      refine ⟨hx, by omega, w1, fin (vc := cellsL s) hcs w1 w2 (by omega) (fun i hi => w4 i (by omega)) (fun i hi => w5 i (by omega))⟩
    · cases h
  | _ => exact scal (by intros; simp) h
theorem putParts_sound {place : Nat → Option (Nat × Nat)} (ht : TR ι t ρ) : ∀ {ps : List (Nat × Operand)} {qs : List (Nat × Nat × Opd)} {l l' : List AV} {cs : Array Value}, lowParts P place ps qs = true → SegsWf l → CR ι (cellsL l) cs.toList →
    putParts t qs l = some l' → ∃ cs', Instr.fill place cs (ps.map fun (i, x) => (i, ρ x)) = some cs' ∧ SegsWf l' ∧ CR ι (cellsL l') cs'.toList
  | [], [], l, l', cs, _, wf, hc, h => by simp only [putParts, Option.some.injEq] at h; subst h; exact ⟨cs, rfl, wf, hc⟩
  | (i, x) :: ps, (o, n, y) :: qs, l, l', cs, hl, wf, hc, h => by
    simp only [lowParts, Bool.and_eq_true, beq_iff_eq] at hl
    simp only [putParts] at h
    cases hp : putPart l o n (y.ev t) with
    | none => rw [hp] at h; cases h
    | some l1 =>
      rw [hp] at h
      obtain ⟨w1, w2, w3, w4⟩ := putPart_sound wf hc (ht _ _ hl.1.2) hp
      have hf := fill_fold (ρ x).cells cs o (by omega)
      obtain ⟨cs', h1, h2, h3⟩ := putParts_sound (place := place) ht (cs := ((ρ x).cells.zipIdx.foldl (fun cs (z : Value × Nat) => cs.setIfInBounds (o + z.2) z.1) cs)) hl.2 w3 (by rw [hf]; exact w4) h
      refine ⟨cs', ?_, h2, h3⟩
      simp only [List.map_cons, Instr.fill, hl.1.1]
      rw [if_neg (by simp; omega)]
      exact h1
  | [], _ :: _, _, _, _, hl, _, _, _ => by simp [lowParts] at hl
  | _ :: _, [], _, _, _, hl, _, _, _ => by simp [lowParts] at hl
end
def Pairs : List Bool → List Value → List Value → Bool → Prop
  | [], [], [], r => r = true
  | true :: ks, x :: xs, y :: ys, r => ∃ k a b s, x = .int k a ∧ y = .int k b ∧ Pairs ks xs ys s ∧ r = ((a == b) && s)
  | false :: ks, x :: xs, y :: ys, r => ∃ a b s, x = .bool a ∧ y = .bool b ∧ Pairs ks xs ys s ∧ r = ((a == b) && s)
  | _, _, _, _ => False
theorem Pairs.len : ∀ {ks : List Bool} {xs ys : List Value} {r : Bool}, Pairs ks xs ys r → xs.length = ks.length ∧ ys.length = ks.length
  | [], [], [], _, _ => ⟨rfl, rfl⟩
  | true :: ks, x :: xs, y :: ys, r, h => by obtain ⟨_, _, _, s, _, _, h, _⟩ := h; have := h.len; simp [this]
  | false :: ks, x :: xs, y :: ys, r, h => by obtain ⟨_, _, s, _, _, h, _⟩ := h; have := h.len; simp [this]
  | [], [], _ :: _, _, h => by simp [Pairs] at h
  | [], _ :: _, _, _, h => by simp [Pairs] at h
  | b :: _, [], _, _, h => by cases b <;> simp [Pairs] at h
  | b :: _, _ :: _, [], _, h => by cases b <;> simp [Pairs] at h
theorem Pairs.split : ∀ {k1 k2 : List Bool} {xs ys : List Value} {r : Bool}, Pairs (k1 ++ k2) xs ys r → ∃ r1 r2, Pairs k1 (xs.take k1.length) (ys.take k1.length) r1 ∧ Pairs k2 (xs.drop k1.length) (ys.drop k1.length) r2 ∧ r = (r1 && r2)
  | [], k2, xs, ys, r, h => ⟨true, r, by simp [Pairs], by simpa using h, by simp⟩
  | true :: k1, k2, x :: xs, y :: ys, r, h => by
    obtain ⟨k, a, b, s, rfl, rfl, h, rfl⟩ := h
    obtain ⟨r1, r2, h1, h2, rfl⟩ := Pairs.split h
    exact ⟨(a == b) && r1, r2, ⟨k, a, b, r1, rfl, rfl, h1, rfl⟩, h2, by rw [Bool.and_assoc]⟩
  | false :: k1, k2, x :: xs, y :: ys, r, h => by
    obtain ⟨a, b, s, rfl, rfl, h, rfl⟩ := h
    obtain ⟨r1, r2, h1, h2, rfl⟩ := Pairs.split h
    exact ⟨(a == b) && r1, r2, ⟨a, b, r1, rfl, rfl, h1, rfl⟩, h2, by rw [Bool.and_assoc]⟩
  | b :: _, _, [], _, _, h => by cases b <;> simp [Pairs] at h
  | b :: _, _, _ :: _, [], _, h => by cases b <;> simp [Pairs] at h
theorem beq_list_and (a b : Int) (xs ys : List Int) : ((a :: xs) == (b :: ys)) = ((a == b) && (xs == ys)) := rfl
theorem pairs_ints {k : IntKind} {ks : List Bool} : ∀ {xs ys : List Int} {vs us : List Value} {r : Bool}, xs.length = ys.length → Pairs ks vs us r → Pairs (List.replicate xs.length true ++ ks) (xs.map (Value.int k) ++ vs) (ys.map (Value.int k) ++ us) ((xs == ys) && r)
  | [], [], _, _, _, _, h => by simpa using h
  | x :: xs, y :: ys, vs, us, r, hl, h => by
    have ih := pairs_ints (k := k) (xs := xs) (ys := ys) (by simpa using hl) h
    simp only [List.length_cons, List.replicate_succ, List.cons_append, List.map_cons]
    exact ⟨k, x, y, _, rfl, rfl, ih, by rw [beq_list_and, Bool.and_assoc]⟩
  | [], _ :: _, _, _, _, hl, _ => by simp at hl
  | _ :: _, [], _, _, _, hl, _ => by simp at hl
section
variable {ι : Inj}
theorem CR_int_map {k : IntKind} : ∀ {xs : List Int} {l : List AV} {vs : List Value}, CR ι (xs.map (AV.int k) ++ l) vs → ∃ us, vs = xs.map (Value.int k) ++ us ∧ CR ι l us
  | [], l, vs, h => ⟨vs, by simp, by simpa using h⟩
  | x :: xs, l, [], h => by have := h.1; simp at this
  | x :: xs, l, v :: vs, h => by
    have h0 := h.2 0 (.int k x) (by simp)
    obtain ⟨y, hy, hs⟩ := h0
    simp only [List.getElem?_cons_zero, Option.some.injEq] at hy
    subst hy
    have hs : v = .int k x := hs.1
    subst hs
    obtain ⟨us, rfl, h2⟩ := CR_int_map (xs := xs) (l := l) (vs := vs) ⟨by have := h.1; simpa using this, fun i w hi => by have := h.2 (i + 1) w (by simpa using hi); simpa using this⟩
    exact ⟨us, by simp, h2⟩
theorem CR_cons {a : AV} {l : List AV} {vs : List Value} (h : CR ι (a :: l) vs) : ∃ x us, vs = x :: us ∧ SR ι a x ∧ CR ι l us := by
  cases vs with
  | nil => have := h.1; simp at this
  | cons v vs =>
    obtain ⟨y, hy, hs⟩ := h.2 0 a (by simp)
    simp only [List.getElem?_cons_zero, Option.some.injEq] at hy
    subst hy
    exact ⟨v, vs, rfl, hs, by have := h.1; simpa using this, fun i w hi => by have := h.2 (i + 1) w (by simpa using hi); simpa using this⟩
theorem eqSegs_pairs : ∀ {l l' : List AV} {r : Bool} {vs us : List Value}, SegsWf l → SegsWf l' → CR ι (cellsL l) vs → CR ι (cellsL l') us → eqSegs l l' = some r → Pairs (kindsL l) vs us r := by
  intro l
  induction l with
  | nil =>
    intro l' r vs us _ _ h1 h2 h
    cases l' with
    | nil =>
      simp only [eqSegs, Option.some.injEq] at h
      subst h
      have e1 : vs = [] := List.eq_nil_of_length_eq_zero h1.1.symm
      have e2 : us = [] := List.eq_nil_of_length_eq_zero h2.1.symm
      subst e1 e2
      rfl
    | cons => simp [eqSegs] at h
  | cons a l ih =>
    intro l' r vs us w1 w2 h1 h2 h
    cases l' with
    | nil => cases a <;> simp [eqSegs] at h
    | cons b l' =>
      rw [segsWf_cons] at w1 w2
      cases a with
      | ints k n xs =>
        cases b with
        | ints k' n' ys =>
          simp only [eqSegs] at h
          split at h
          · rename_i he
            obtain ⟨rfl, rfl⟩ := he
            cases hr : eqSegs l l' with
            | none => rw [hr] at h; cases h
            | some s =>
              rw [hr] at h
              simp only [Option.map_some, Option.some.injEq] at h
              subst h
              rw [cellsL_cons] at h1 h2
              obtain ⟨vs', rfl, c1⟩ := CR_int_map h1
              obtain ⟨us', rfl, c2⟩ := CR_int_map h2
              have ih := ih w1.2 w2.2 c1 c2 hr
              have hx : xs.length = n := w1.1
              have hy : ys.length = n := w2.1
              have := pairs_ints (k := k) (xs := xs) (ys := ys) (by omega) ih
              rw [hx] at this
              exact this
          · cases h
        | _ => simp [eqSegs] at h
      | int k x =>
        cases b with
        | int k' y =>
          simp only [eqSegs] at h
          split at h
          · rename_i he
            subst he
            cases hr : eqSegs l l' with
            | none => rw [hr] at h; cases h
            | some s =>
              rw [hr] at h
              simp only [Option.map_some, Option.some.injEq] at h
              subst h
              rw [cellsL_cons] at h1 h2
              obtain ⟨a, vs', rfl, ⟨rfl, _⟩, c1⟩ := CR_cons h1
              obtain ⟨b, us', rfl, ⟨rfl, _⟩, c2⟩ := CR_cons h2
              exact ⟨k, x, y, s, rfl, rfl, ih w1.2 w2.2 c1 c2 hr, rfl⟩
          · cases h
        | _ => simp [eqSegs] at h
      | bool x =>
        cases b with
        | bool y =>
          simp only [eqSegs] at h
          cases hr : eqSegs l l' with
          | none => rw [hr] at h; cases h
          | some s =>
            rw [hr] at h
            simp only [Option.map_some, Option.some.injEq] at h
            subst h
            rw [cellsL_cons] at h1 h2
            obtain ⟨a, vs', rfl, rfl, c1⟩ := CR_cons h1
            obtain ⟨b, us', rfl, rfl, c2⟩ := CR_cons h2
            exact ⟨x, y, s, rfl, rfl, ih w1.2 w2.2 c1 c2 hr, rfl⟩
        | _ => simp [eqSegs] at h
      | _ => simp [eqSegs] at h
end
section
variable {P : Program}
def EqT (P : Program) (d : Nat) (t : TypeId) (ks : List Bool) : Prop :=
  ∀ dd, d ≤ dd → ∀ (w : World) (xs ys : Array Value) (off : Nat) (r : Bool), Pairs ks ((xs.toList.drop off).take ks.length) ((ys.toList.drop off).take ks.length) r →
    ∃ a b, (part t xs off).run P w = .ok a w ∧ (part t ys off).run P w = .ok b w ∧ (Op.equalIn dd t a b).run P w = .ok r w
theorem eqF_run {d dd : Nat} (hd : d ≤ dd) (w : World) (xs ys : Array Value) : ∀ (fs : List Field) (off : Nat) (ks : List Bool) (r : Bool), (∀ f ∈ fs, ∀ k, tyKs P d f.type = some k → szOf P f.type = some k.length → EqT P d f.type k) → tyKsF P (tyKs P d) fs off = some ks →
    Pairs ks ((xs.toList.drop off).take ks.length) ((ys.toList.drop off).take ks.length) r → (Op.eqFields dd xs ys fs).run P w = .ok r w
  | [], off, ks, r, _, h, hp => by
    simp only [tyKsF, Option.some.injEq] at h
    subst h
    have : r = true := by simpa [Pairs] using hp
    subst this
    simp [Op.eqFields]
  | f :: fs, off, ks, r, hE, h, hp => by
    simp only [tyKsF] at h
    split at h
    · cases h
    · rename_i hn
      simp only [Bool.or_eq_true, beq_iff_eq, bne_iff_ne, ne_eq, not_or, Decidable.not_not] at hn
      obtain ⟨hname, hoff⟩ := hn
      cases hk : tyKs P d f.type with
      | none => rw [hk] at h; cases h
      | some k =>
        rw [hk] at h
        simp only [Option.bind_some] at h
        split at h
        · rename_i hsz
          cases hr : tyKsF P (tyKs P d) fs (off + k.length) with
          | none => rw [hr] at h; cases h
          | some k2 =>
            rw [hr] at h
            simp only [Option.map_some, Option.some.injEq] at h
            subst h
            obtain ⟨r1, r2, h1, h2, rfl⟩ := hp.split
            have tk : ∀ (zs : Array Value), ((zs.toList.drop off).take (k ++ k2).length).take k.length = (zs.toList.drop off).take k.length := fun zs => by rw [List.take_take]; congr 1; simp
            have dk : ∀ (zs : Array Value), ((zs.toList.drop off).take (k ++ k2).length).drop k.length = (zs.toList.drop (off + k.length)).take k2.length := fun zs => by
              rw [List.drop_take, List.drop_drop]; congr 1; simp
            rw [tk, tk] at h1
            rw [dk, dk] at h2
            obtain ⟨a, b, pa, pb, pe⟩ := hE f (by simp) k hk (by simpa using hsz) dd hd w xs ys off r1 h1
            have ih := eqF_run hd w xs ys fs (off + k.length) k2 r2 (fun g hg => hE g (by simp [hg])) hr h2
            rw [← hoff] at pa pb
            rw [Op.eqFields, if_pos hname]
            simp only [Sem.run_bind, pa, pb, pe, Result.andThen_ok]
            cases r1
            · simp
            · simpa using ih
        · cases h
theorem eqI_run {d dd : Nat} {e : TypeId} {k : List Bool} (hd : d ≤ dd) (hE : EqT P d e k) (hc : P.cellsOf e = k.length) (w : World) (xs ys : Array Value) : ∀ (m i : Nat) (r : Bool),
    Pairs ((List.replicate m k).flatten) ((xs.toList.drop (i * k.length)).take (m * k.length)) ((ys.toList.drop (i * k.length)).take (m * k.length)) r → (Op.eqItems dd e (P.cellsOf e) xs ys (List.range' i m)).run P w = .ok r w
  | 0, i, r, hp => by
    have : r = true := by simpa [Pairs] using hp
    subst this
    simp [Op.eqItems]
  | m + 1, i, r, hp => by
    rw [List.replicate_succ, List.flatten_cons] at hp
    obtain ⟨r1, r2, h1, h2, rfl⟩ := hp.split
    have tk : ∀ (zs : Array Value), ((zs.toList.drop (i * k.length)).take ((m + 1) * k.length)).take k.length = (zs.toList.drop (i * k.length)).take k.length := fun zs => by
      rw [List.take_take]; congr 1; rw [Nat.add_mul]; omega
    have dk : ∀ (zs : Array Value), ((zs.toList.drop (i * k.length)).take ((m + 1) * k.length)).drop k.length = (zs.toList.drop ((i + 1) * k.length)).take (m * k.length) := fun zs => by
      rw [List.drop_take, List.drop_drop, show (m + 1) * k.length - k.length = m * k.length from by rw [Nat.add_mul]; omega, show i * k.length + k.length = (i + 1) * k.length from by rw [Nat.add_mul]; omega]
    rw [tk, tk] at h1
    rw [dk, dk] at h2
    obtain ⟨a, b, pa, pb, pe⟩ := hE dd hd w xs ys (i * k.length) r1 h1
    have ih := eqI_run hd hE hc w xs ys m (i + 1) r2 h2
    rw [← hc] at pa pb
    rw [List.range'_succ, Op.eqItems]
    simp only [Sem.run_bind, pa, pb, pe, Result.andThen_ok]
    cases r1
    · simp
    · simpa using ih
theorem take_one {l : List Value} {off : Nat} {x : Value} (h : (l.drop off).take 1 = [x]) : l[off]? = some x := by
  have := congrArg (·[0]?) h
  simpa [List.getElem?_take, List.getElem?_drop] using this
theorem eqT_of : ∀ (d : Nat) (t : TypeId) (ks : List Bool), tyKs P d t = some ks → szOf P t = some ks.length → EqT P d t ks
  | 0, t, ks, h, _ => by simp [tyKs] at h
  | d + 1, t, ks, h, hsz => by
    intro dd hdd w xs ys off r hp
    obtain ⟨dd, rfl⟩ : ∃ m, dd = m + 1 := ⟨dd - 1, by omega⟩
    obtain ⟨inf, hinf, hisz⟩ := szOf_some hsz
    unfold tyKs at h
    cases hu : P.underlying t with
    | none => rw [hu] at h; cases h
    | some kd =>
      rw [hu] at h
      cases kd with
      | bool =>
        simp only [Option.some.injEq] at h
        subst h
        have hl := hp.len
        match hx : (xs.toList.drop off).take 1, hy : (ys.toList.drop off).take 1, hp with
        | [x], [y], hp =>
          obtain ⟨a, b, s, rfl, rfl, hs, rfl⟩ := hp
          have : s = true := by simpa [Pairs] using hs
          subst this
          have e1 := take_one hx
          have e2 := take_one hy
          refine ⟨.bool a, .bool b, ?_, ?_, ?_⟩
          · simp [part, isAgg, run_underlying hu]; simp at e1; simp [e1]
          · simp [part, isAgg, run_underlying hu]; simp at e2; simp [e2]
          · rw [run_equalIn_bool' w dd t a b hu]; simp
        | [], _, hp => simp [Pairs] at hp
        | _ :: _, [], hp => simp [Pairs] at hp
        | _ :: _ :: _, _, _ => have := congrArg List.length hx; simp at this; omega
        | _, _ :: _ :: _, _ => have := congrArg List.length hy; simp at this; omega
      | int q =>
        simp only [Option.some.injEq] at h
        subst h
        match hx : (xs.toList.drop off).take 1, hy : (ys.toList.drop off).take 1, hp with
        | [x], [y], hp =>
          obtain ⟨k, a, b, s, rfl, rfl, hs, rfl⟩ := hp
          have : s = true := by simpa [Pairs] using hs
          subst this
          have e1 := take_one hx
          have e2 := take_one hy
          refine ⟨.int k a, .int k b, ?_, ?_, ?_⟩
          · simp [part, isAgg, run_underlying hu]; simp at e1; simp [e1]
          · simp [part, isAgg, run_underlying hu]; simp at e2; simp [e2]
          · rw [run_equalIn_int w dd t k q a b hu]; simp
        | [], _, hp => simp [Pairs] at hp
        | _ :: _, [], hp => simp [Pairs] at hp
        | _ :: _ :: _, _, _ => have := congrArg List.length hx; simp at this; omega
        | _, _ :: _ :: _, _ => have := congrArg List.length hy; simp at this; omega
      | struct fs =>
        simp only at h
        split at h
        · cases h
        · rename_i hheld
          refine ⟨.agg (xs.extract off (off + ks.length)), .agg (ys.extract off (off + ks.length)), ?_, ?_, ?_⟩
          · simp [part, isAgg, run_underlying hu, sizeOf, typeInfo, hinf, hisz]
          · simp [part, isAgg, run_underlying hu, sizeOf, typeInfo, hinf, hisz]
          · have hf : P.fieldsOf t = fs := by simp [Program.fieldsOf, hu]
            rw [run_equalIn_struct (P := P) w dd t _ _ (by rw [hf]; exact hu) (by simpa using hheld), hf]
            refine eqF_run (d := d) (by omega) w _ _ fs.toList 0 ks r (fun f _ k hk hs => eqT_of d f.type k hk hs) h ?_
            rw [extract_toList, extract_toList]
            simpa [List.take_take] using hp
      | array n e =>
        simp only at h
        cases hk : tyKs P d e with
        | none => rw [hk] at h; cases h
        | some k =>
          rw [hk] at h
          simp only [Option.bind_some] at h
          split at h
          · rename_i hse
            simp only [Option.some.injEq] at h
            have hse' : szOf P e = some k.length := by simpa using hse
            obtain ⟨ie, hie, hies⟩ := szOf_some hse'
            have hc : P.cellsOf e = k.length := by simp [Program.cellsOf, hie, hies]
            have hlen : ks.length = n * k.length := by rw [← h]; simp
            refine ⟨.agg (xs.extract off (off + ks.length)), .agg (ys.extract off (off + ks.length)), ?_, ?_, ?_⟩
            · simp [part, isAgg, run_underlying hu, sizeOf, typeInfo, hinf, hisz]
            · simp [part, isAgg, run_underlying hu, sizeOf, typeInfo, hinf, hisz]
            · rw [run_equalIn_array w dd _ _ hu hie, List.range_eq_range']
              refine eqI_run (d := d) (by omega) (eqT_of d e k hk hse') hc w _ _ n 0 r ?_
              rw [extract_toList, extract_toList, h]
              simpa [List.take_take, ← hlen] using hp
          · cases h
      | _ => cases h
end
end Go.Am
