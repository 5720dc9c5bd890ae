/- RatchetSeals: part 37 of 50 of its proof. -/
import Derived.Test.YtmkefajojokkfaaGreatD19
import Derived.Test.YtmkefajojokkfaaGreatD35
import Derived.Test.YtmkefajojokkfaaGreatD34
import Derived.Test.YtmkefajojokkfaaGreatD29
import Derived.Test.YtmkefajojokkfaaGreatD33
set_option linter.unusedVariables false
set_option linter.unusedSimpArgs false
namespace Go.Am
set_option linter.unusedSimpArgs false
set_option maxRecDepth 100000
def iTop : ACode := af_hollowtreeref03_Num_Inv.code
def iA : ACode := iTop.l
def iB : ACode := iTop.r.l
def iI0 : ACode := iTop.r.r.l.l
def iL0 : ACode := iTop.r.r.l.r.b.b
def iEnd : ACode := iTop.r.r.r
def iCn : Option Canon := some ⟨[], [1,2,3,4], [], [16,17,18], 19⟩
def afInv : AFn := ⟨24, [.cell 2 true 16], .seq none iA (.seq none iB (.seq none (.seq none iI0 (.block 0 none (.loop 1000 iCn iL0))) iEnd))⟩
def iS (n o : List Int) (i : Int) : St := ⟨mkT 24 [(1, pt 16), (2, pt 17), (3, pt 18), (4, .int .i64 i)], ⟨19, [cel 16 [.ints .i64 16 n], cel 17 [.ints .i64 16 z16], cel 18 [.ints .i64 16 o]]⟩⟩
def RxI (Fr : M1) (Mu : M2) : Env := envAdd id_hollowtreeref03_From (.pure (numKV Fr)) (envAdd id_hollowtreeref03_Num_Mul (.pure (num2V Mu)) G10)
def k1L : List Int := 1 :: List.replicate 31 0
theorem i_round (Fr : M1) (Mu : M2) (L : St → Option Res) (κ : Kont) (n o : List Int) (i : Int) : ev (RxI Fr Mu) iL0 (iS n o i) (kLoop iCn L κ) =
    bif decide (i ≥ 0) then (bif i != 2 then (bif i != 4 then L (iS n (fixL 16 (Mu (fixL 16 (Mu o o)) n)) (w63 (i - 1))) else L (iS n (fixL 16 (Mu o o)) (w63 (i - 1)))) else L (iS n (fixL 16 (Mu o o)) (w63 (i - 1))))
    else κ (.exit 0) (withT 8 (.bool false) (withT 7 (.int .i64 i) (iS n o i))) := by kernel_rfl
theorem i_start (Fr : M1) (Mu : M2) (F : Nat) (C R : ACode) (K : Kont) (n : List Int) : ev (RxI Fr Mu) (.seq none iA (.seq none iB (.seq none (.seq none iI0 (.block 0 none (.loop F iCn C))) R))) ⟨[n16 n] ++ List.replicate 23 .undef, ⟨16, []⟩⟩ K =
    loopK iCn (ev (RxI Fr Mu) C) F (iS n (fixL 16 (Fr k1L)) 254) (kBlock 0 none (kSeq (RxI Fr Mu) none R K)) := by kernel_rfl
theorem i_end (Fr : M1) (Mu : M2) (n o : List Int) (i : Int) : ev (RxI Fr Mu) iEnd (withT 8 (.bool false) (withT 7 (.int .i64 i) (iS n o i))) (kFn [.cell 2 true 16] kV) = some (n16 o, ⟨0, []⟩) := by kernel_rfl
def invF (Fr : M1) (Mu : M2) (n : List Int) : Nat → List Int
  | 0 => fixL 16 (Fr k1L)
  | k + 1 => if 254 - k = 2 ∨ 254 - k = 4 then fixL 16 (Mu (invF Fr Mu n k) (invF Fr Mu n k)) else fixL 16 (Mu (fixL 16 (Mu (invF Fr Mu n k) (invF Fr Mu n k))) n)
theorem i_loop (Fr : M1) (Mu : M2) (κ : Kont) (n : List Int) : ∀ (m k F : Nat), k + m = 255 → m < F →
    loopK iCn (ev (RxI Fr Mu) iL0) F (iS n (invF Fr Mu n k) ((m : Int) - 1)) κ = κ (.exit 0) (withT 8 (.bool false) (withT 7 (.int .i64 (-1)) (iS n (invF Fr Mu n (k + m)) (-1))))
  | 0, k, F + 1, hk, _ => by
    refine (i_round Fr Mu _ κ n _ _).trans ?_
    rw [Nat.add_zero]
    generalize invF Fr Mu n k = o
    rfl
  | m + 1, k, F + 1, hk, hF => by
    refine (i_round Fr Mu _ κ n _ _).trans ?_
    have e0 : ((m + 1 : Nat) : Int) - 1 = (m : Int) := by omega
    have e1 : w63 ((m : Int) - 1) = (m : Int) - 1 := w63_id (by omega) (by omega)
    have ih := i_loop Fr Mu κ n m (k + 1) F (by omega) (by omega)
    rw [e0, decide_eq_true (by omega), cond_true, e1, show k + (m + 1) = k + 1 + m by omega, ← ih]
    have eI : invF Fr Mu n (k + 1) = if 254 - k = 2 ∨ 254 - k = 4 then fixL 16 (Mu (invF Fr Mu n k) (invF Fr Mu n k)) else fixL 16 (Mu (fixL 16 (Mu (invF Fr Mu n k) (invF Fr Mu n k))) n) := rfl
    rw [eI]
    clear ih eI
    generalize invF Fr Mu n k = o
    by_cases h2 : m = 2
    · rw [if_pos (by omega), show ((m : Int) != 2) = false by subst h2; rfl, cond_false]
    · rw [show ((m : Int) != 2) = true by simp only [bne_iff_ne, ne_eq]; omega, cond_true]
      by_cases h4 : m = 4
      · rw [if_pos (by omega), show ((m : Int) != 4) = false by subst h4; rfl, cond_false]
      · rw [if_neg (by omega), show ((m : Int) != 4) = true by simp only [bne_iff_ne, ne_eq]; omega, cond_true]
  | _, _, 0, _, h => by omega
theorem inv_run (Fr : M1) (Mu : M2) (n : List Int) : evFn (RxI Fr Mu) afInv [n16 n] ⟨16, []⟩ kV = some (n16 (invF Fr Mu n 255), ⟨0, []⟩) := by
  rw [evFn_eq]
  refine Eq.trans ?_ ((i_start Fr Mu 1000 iL0 iEnd (kFn [.cell 2 true 16] kV) n).trans ?_)
  · rfl
  have h := i_loop Fr Mu (kBlock 0 none (kSeq (RxI Fr Mu) none iEnd (kFn [.cell 2 true 16] kV))) n 255 0 1000 (by omega) (by omega)
  refine (show _ = _ from h).trans ?_
  rw [kBlock_exit]
  exact i_end Fr Mu n _ _
theorem invF_len (Fr : M1) (Mu : M2) (n : List Int) (k : Nat) : (invF Fr Mu n k).length = 16 := by
  cases k with
  | zero => exact fixL_len ..
  | succ k => simp only [invF]; split <;> exact fixL_len ..
theorem rinv_pure {P : Program} {f : FuncId} {Fr : M1} {Mu : M2} (F : Fn P f (RxI Fr Mu) afInv) : PureOk P f (num1V fun n => invF Fr Mu n 255) := by
  refine F.plain fun nid args hp r ha hr => ?_
  unfold num1V at hr
  split at hr <;> try (cases hr; done)
  cases hr
  refine ⟨rfl, rfl, rfl, ?_⟩
  rw [fixL_eq (invF_len ..)]
  exact inv_run Fr Mu _
def clF (k : List Int) : List Int := (k.set 0 (w8 (w8 ((g0 k 0).tdiv 8) * 8))).set 31 (w8 ((g0 k 31).tmod 64 + 64))
theorem cl_run (f : Nat → Int) : evFn G10 af_hollowtreeref03_Clamp [key (tab 32 f)] ⟨16, []⟩ kV = some (key (clF (tab 32 f)), ⟨0, []⟩) := by kernel_rfl
theorem rcl_pure {P : Program} {f : FuncId} (F : Fn P f G10 af_hollowtreeref03_Clamp) : PureOk P f (clampV clF) := by
  refine F.plain fun nid args hp r ha hr => ?_
  unfold clampV at hr
  split at hr <;> try (cases hr; done)
  rename_i l
  cases hr
  obtain ⟨⟨⟨hl, _⟩, _⟩, _⟩ := ha
  refine ⟨rfl, rfl, rfl, ?_⟩
  rw [fixL_eq (l := clF l) (by simp [clF, hl])]
  obtain ⟨g, rfl⟩ := tab_of hl
  exact cl_run g
theorem map_small (m : Int) (hm : 0 ≤ m ∧ m < 1048576) : ∀ {l : List Int}, DigL l → vL (l.map fun x => w63 (x * m)) = vL l * m ∧ BndL 68719476736 (l.map fun x => w63 (x * m))
  | [], _ => ⟨by simp [vL], fun x hx => by simp at hx⟩
  | x :: r, h => by
    have hx := h x (List.mem_cons_self ..)
    obtain ⟨e1, e2⟩ := map_small m hm (l := r) fun y hy => h y (List.mem_cons_of_mem _ hy)
    have hp : 0 ≤ x * m ∧ x * m ≤ 65535 * 1048575 := mulB ⟨hx.1, by omega⟩ ⟨hm.1, by omega⟩
    have e : w63 (x * m) = x * m := w63_id (by omega) (by omega)
    refine ⟨?_, fun z hz => ?_⟩
    · simp only [List.map_cons, vL, e, e1]; grind
    · simp only [List.map_cons, List.mem_cons] at hz
      rcases hz with rfl | hz
      · rw [e]; omega
      · exact e2 z hz
theorem Rep16.small {a : List Int} {n : Nat} (h : Rep16 a n) {m : Nat} (hm : m < 1048576) : Rep16 (smF carL a m) (n * m) := by
  obtain ⟨k, hk⟩ := h.val
  have e : (tab 16 fun i => w63 (g0 a i * (m : Int))) = a.map fun x => w63 (x * (m : Int)) := by
    obtain ⟨f, rfl⟩ := tab_of h.len
    rfl
  obtain ⟨e1, e2⟩ := map_small (m : Int) ⟨by omega, by omega⟩ h.dig
  have hlen : (a.map fun x => w63 (x * (m : Int))).length = 16 := by simp [h.len]
  unfold smF
  rw [e, fixL_eq ((carL_len _).trans hlen)]
  refine car_rep hlen (bnd_mono e2 (by omega)) ⟨k * m, ?_⟩
  rw [e1, hk, Int.natCast_mul]
  generalize pI = q
  grind
def pairD : List Int → List Int
  | x :: y :: r => (x + 256 * y) :: pairD r
  | _ => []
theorem pairD_val : ∀ (n : Nat) (l : List Int), l.length = 2 * n → Bytes l → vL (pairD l) = (leN l : Int)
  | 0, l, h, _ => by obtain rfl : l = [] := List.eq_nil_of_length_eq_zero (by omega); rfl
  | n + 1, x :: y :: r, h, hb => by
    have hx := hb x (List.mem_cons_self ..)
    have hy := hb y (List.mem_cons_of_mem _ (List.mem_cons_self ..))
    have ih := pairD_val n r (by simp at h; omega) fun z hz => hb z (List.mem_cons_of_mem _ (List.mem_cons_of_mem _ hz))
    simp only [pairD, vL, leN, ih]
    omega
  | n + 1, [], h, _ => by simp at h
  | n + 1, [_], h, _ => by simp at h; omega
theorem fromF_rep {k : List Int} (hl : k.length = 32) (hb : Bytes k) : Rep16 (fromF k) (leN k % 57896044618658097711785492504343953926634992332820282019728792003956564819968) := by
  obtain ⟨f, hf⟩ := tab_of hl
  have b : ∀ i, 0 ≤ g0 k i ∧ g0 k i < 256 := fun i => hb.getD i
  have e : ∀ i, w63 (w63 (g0 k (2 * i)) + w63 (256 * w63 (g0 k (2 * i + 1)))) = g0 k (2 * i) + 256 * g0 k (2 * i + 1) := fun i => by
    have h1 := b (2 * i)
    have h2 := b (2 * i + 1)
    rw [w63_id (n := g0 k (2 * i)) (by omega) (by omega), w63_id (n := g0 k (2 * i + 1)) (by omega) (by omega), w63_id (n := 256 * _) (by omega) (by omega), w63_id (by omega) (by omega)]
  have e15 : w63 (w63 (g0 k 30) + w63 (256 * w63 (g0 k 31))) = g0 k 30 + 256 * g0 k 31 := e 15
  have hd : fromF k = [g0 k 0 + 256 * g0 k 1, g0 k 2 + 256 * g0 k 3, g0 k 4 + 256 * g0 k 5, g0 k 6 + 256 * g0 k 7, g0 k 8 + 256 * g0 k 9, g0 k 10 + 256 * g0 k 11, g0 k 12 + 256 * g0 k 13, g0 k 14 + 256 * g0 k 15, g0 k 16 + 256 * g0 k 17, g0 k 18 + 256 * g0 k 19, g0 k 20 + 256 * g0 k 21, g0 k 22 + 256 * g0 k 23, g0 k 24 + 256 * g0 k 25, g0 k 26 + 256 * g0 k 27, g0 k 28 + 256 * g0 k 29, (g0 k 30 + 256 * g0 k 31) % 32768] := by
    unfold fromF
    rw [e15, Int.tmod_eq_emod_of_nonneg (by have := b 30; have := b 31; omega)]
    simp only [e]
    rfl
  have hp : leN k = (vL (pairD k)).toNat ∧ 0 ≤ vL (pairD k) := by
    have := pairD_val 16 k (by omega) hb
    omega
  have hpd : pairD k = [g0 k 0 + 256 * g0 k 1, g0 k 2 + 256 * g0 k 3, g0 k 4 + 256 * g0 k 5, g0 k 6 + 256 * g0 k 7, g0 k 8 + 256 * g0 k 9, g0 k 10 + 256 * g0 k 11, g0 k 12 + 256 * g0 k 13, g0 k 14 + 256 * g0 k 15, g0 k 16 + 256 * g0 k 17, g0 k 18 + 256 * g0 k 19, g0 k 20 + 256 * g0 k 21, g0 k 22 + 256 * g0 k 23, g0 k 24 + 256 * g0 k 25, g0 k 26 + 256 * g0 k 27, g0 k 28 + 256 * g0 k 29] ++ [g0 k 30 + 256 * g0 k 31] := by
    rw [hf]; rfl
  have hd2 : fromF k = [g0 k 0 + 256 * g0 k 1, g0 k 2 + 256 * g0 k 3, g0 k 4 + 256 * g0 k 5, g0 k 6 + 256 * g0 k 7, g0 k 8 + 256 * g0 k 9, g0 k 10 + 256 * g0 k 11, g0 k 12 + 256 * g0 k 13, g0 k 14 + 256 * g0 k 15, g0 k 16 + 256 * g0 k 17, g0 k 18 + 256 * g0 k 19, g0 k 20 + 256 * g0 k 21, g0 k 22 + 256 * g0 k 23, g0 k 24 + 256 * g0 k 25, g0 k 26 + 256 * g0 k 27, g0 k 28 + 256 * g0 k 29] ++ [(g0 k 30 + 256 * g0 k 31) % 32768] := hd
  clear hd e e15 hf
  have hz : 0 ≤ g0 k 30 + 256 * g0 k 31 := by have := b 30; have := b 31; omega
  generalize g0 k 30 + 256 * g0 k 31 = z at *
  have hA : DigL [g0 k 0 + 256 * g0 k 1, g0 k 2 + 256 * g0 k 3, g0 k 4 + 256 * g0 k 5, g0 k 6 + 256 * g0 k 7, g0 k 8 + 256 * g0 k 9, g0 k 10 + 256 * g0 k 11, g0 k 12 + 256 * g0 k 13, g0 k 14 + 256 * g0 k 15, g0 k 16 + 256 * g0 k 17, g0 k 18 + 256 * g0 k 19, g0 k 20 + 256 * g0 k 21, g0 k 22 + 256 * g0 k 23, g0 k 24 + 256 * g0 k 25, g0 k 26 + 256 * g0 k 27, g0 k 28 + 256 * g0 k 29] := by
    intro x hx
    simp only [List.mem_cons, List.not_mem_nil, or_false] at hx
    have q : ∀ i j, 0 ≤ g0 k i + 256 * g0 k j ∧ g0 k i + 256 * g0 k j < 65536 := fun i j => by have := b i; have := b j; omega
    rcases hx with rfl | rfl | rfl | rfl | rfl | rfl | rfl | rfl | rfl | rfl | rfl | rfl | rfl | rfl | rfl <;> exact q _ _
  generalize hAe : [g0 k 0 + 256 * g0 k 1, g0 k 2 + 256 * g0 k 3, g0 k 4 + 256 * g0 k 5, g0 k 6 + 256 * g0 k 7, g0 k 8 + 256 * g0 k 9, g0 k 10 + 256 * g0 k 11, g0 k 12 + 256 * g0 k 13, g0 k 14 + 256 * g0 k 15, g0 k 16 + 256 * g0 k 17, g0 k 18 + 256 * g0 k 19, g0 k 20 + 256 * g0 k 21, g0 k 22 + 256 * g0 k 23, g0 k 24 + 256 * g0 k 25, g0 k 26 + 256 * g0 k 27, g0 k 28 + 256 * g0 k 29] = A at *
  have hA15 : A.length = 15 := by rw [← hAe]; rfl
  have hv := dig_val hA
  have w15 : (65536 : Int) ^ 15 = 1766847064778384329583297500742918515827483896875618958121606201292619776 := by decide
  rw [hA15, w15] at hv
  refine ⟨by rw [hd2]; simp [hA15], ?_, 0, ?_⟩
  · rw [hd2]
    intro x hx
    rcases List.mem_append.1 hx with hx | hx
    · exact hA x hx
    · simp only [List.mem_singleton] at hx; omega
  · rw [hp.1, hpd, hd2, vL_append, vL_append, hA15, w15]
    simp only [vL]
    generalize vL A = V at *
    omega
theorem k1_rep : Rep16 (fromF k1L) 1 := by
  have := fromF_rep (k := k1L) rfl (by intro x hx; simp only [k1L, List.mem_cons, List.mem_replicate] at hx; omega)
  exact this
theorem k0_rep : Rep16 (fromF (List.replicate 32 0)) 0 := by
  have := fromF_rep (k := List.replicate 32 0) rfl (by intro x hx; simp only [List.mem_replicate] at hx; omega)
  exact this
theorem Rep16.fix {a : List Int} {n : Nat} (h : Rep16 a n) : Rep16 (fixL 16 a) n := by rw [fixL_eq h.len]; exact h
theorem inv_rep {n : List Int} {m : Nat} (h : Rep16 n m) : ∀ k, k ≤ 255 → Rep16 (invF fromF (mulF (foldF carL)) n k) (powN m (k + 1))
  | 0, _ => k1_rep.fix
  | k + 1, hk => by
    have ih := inv_rep h k (by omega)
    rw [powN]
    simp only [invF]
    by_cases hc : 254 - k = 2 ∨ 254 - k = 4
    · rw [if_pos hc, if_pos (by omega)]
      exact (ih.mul ih).mod.fix
    · rw [if_neg hc, if_neg (by omega)]
      exact ((ih.mul ih).mod.fix.mul h).mod.fix
set_option maxRecDepth 100000
def swX (b : Nat) (s : X4) : X4 := if b = 1 then s.sw else s
def stepX (V : XV) (x1 : List Int) (b : Nat) (s : X4) : X4 := swX b (vGo V x1 (swX b s))
def ladX (V : XV) (k x1 : List Int) (s : X4) : Nat → X4
  | 0 => s
  | n + 1 => stepX V x1 (bitN k (254 - n)) (ladX V k x1 s n)
theorem v_loop2 (V : XV) (κ : Kont) (k x1 : List Int) (s : X4) (a o : Nat) (ha : a < 256) (ho : o < 256) :
    loopK vCn2 (ev (RxX V) vL2) 1000 (vS2 k x1 s (a : Int) (o : Int) 0) κ = κ (.exit 2) (vSx k x1 s (a : Int) ((o / 2 ^ (a % 8) : Nat) : Int) ((a % 8 : Nat) : Int)) := by
  have hm : (a : Int).tmod 8 = ((a % 8 : Nat) : Int) := by rw [Int.tmod_eq_emod_of_nonneg (by omega)]; omega
  have e0 : (o : Int) = ((o / 2 ^ 0 : Nat) : Int) := by simp
  rw [e0]
  refine loopK_for (fun i => vS2 k x1 s (a : Int) ((o / 2 ^ i : Nat) : Int) (i : Int)) (a % 8) _ (fun i hi L => ?_) (fun L => ?_) 1000 (by omega)
  · refine (v_p2 V L κ k x1 s _ _ _).trans ?_
    have hl : o / 2 ^ i < 256 := Nat.lt_of_le_of_lt (Nat.div_le_self _ _) ho
    have e : o / 2 ^ (i + 1) = o / 2 ^ i / 2 := by rw [Nat.pow_succ, ← Nat.div_div_eq_div_mul]
    rw [e]
    generalize o / 2 ^ i = q at *
    rw [hm, decide_eq_true (by omega), cond_true, wS i (by omega), Int.tdiv_eq_ediv_of_nonneg (by omega), w63_id (by omega) (by omega)]
    rw [show (q : Int) / 2 = ((q / 2 : Nat) : Int) by omega]
  · refine (v_p2 V L κ k x1 s _ _ _).trans ?_
    rw [hm, decide_eq_false (by omega), cond_false]
theorem v_round (V : XV) (L : St → Option Res) (κ : Kont) (k x1 : List Int) (s : X4) (a : Nat) (ha : a < 255) (hk : k.length = 32) (hb : Bytes k) :
    ev (RxX V) vBody (vS0 k x1 s (a : Int)) (kLoop vCn0 L κ) = L (vS0 k x1 (stepX V x1 (bitN k a) s) ((a : Int) - 1)) := by
  refine (v_p1 V 1000 vL2 _ vT L κ k x1 s _).trans ?_
  have hq : w63 ((a : Int).tdiv 8) = ((a / 8 : Nat) : Int) := by
    rw [Int.tdiv_eq_ediv_of_nonneg (by omega), w63_id (by omega) (by omega)]; omega
  obtain ⟨g1, g2⟩ : 0 ≤ g0 k (a / 8) ∧ g0 k (a / 8) < 256 := hb.getD (a / 8)
  rw [decide_eq_true (by omega), cond_true, at?_eq (a / 8) hq (by omega) (by omega)]
  have hbit : bitN k a = (g0 k (a / 8)).toNat / 2 ^ (a % 8) % 2 := rfl
  rw [hbit]
  obtain ⟨o, ho⟩ := Int.eq_ofNat_of_zero_le g1
  rw [ho] at g2 ⊢
  rw [w63_id (n := (o : Int)) (by omega) (by omega), Int.toNat_natCast]
  have hl2 := v_loop2 V (kBlock 2 none (kSeq (RxX V) none (.seq none vRm (.seq vCnM vC1 vRest)) (kBlock 1 none (kSeq (RxX V) none vT (kLoop vCn0 L κ))))) k x1 s a o (by omega) (by omega)
  refine Eq.trans hl2 ?_
  refine (v_p3 V vRest (kBlock 1 none (kSeq (RxX V) none vT (kLoop vCn0 L κ))) k x1 s _ _ _).trans ?_
  generalize o / 2 ^ (a % 8) = q
  have hm : ((q : Nat) : Int).tmod 2 = ((q % 2 : Nat) : Int) := by rw [Int.tmod_eq_emod_of_nonneg (by omega)]; omega
  have hw : w63 ((a : Int) - 1) = (a : Int) - 1 := w63_id (by omega) (by omega)
  rw [hm]
  unfold stepX swX
  by_cases h1 : q % 2 = 1
  · rw [h1, if_pos rfl, if_pos rfl, show (((1 : Nat) : Int) == 1) = true from rfl, cond_true, v_p4, hw, show (((1 : Nat) : Int) == 1) = true from rfl, cond_true]
  · have h0 : q % 2 = 0 := by omega
    rw [h0, if_neg (by decide), if_neg (by decide), show (((0 : Nat) : Int) == 1) = false from rfl, cond_false, v_p4, hw, show (((0 : Nat) : Int) == 1) = false from rfl, cond_false]
theorem v_loop0 (V : XV) (κ : Kont) (k x1 : List Int) (s : X4) (hk : k.length = 32) (hb : Bytes k) : ∀ (m n F : Nat), n + m = 255 → m < F →
    loopK vCn0 (ev (RxX V) vBody) F (vS0 k x1 (ladX V k x1 s n) ((m : Int) - 1)) κ = κ (.exit 0) (withT 37 (.bool false) (withT 36 (.int .i64 (-1)) (vS0 k x1 (ladX V k x1 s (n + m)) (-1))))
  | 0, n, F + 1, hn, _ => by
    refine (v_p1 V 1000 vL2 _ vT _ κ k x1 _ _).trans ?_
    rw [Nat.add_zero]
    generalize ladX V k x1 s n = o
    rfl
  | m + 1, n, F + 1, hn, hF => by
    have e0 : ((m + 1 : Nat) : Int) - 1 = (m : Int) := by omega
    rw [e0]
    refine (v_round V _ κ k x1 _ m (by omega) hk hb).trans ?_
    have ih := v_loop0 V κ k x1 s hk hb m (n + 1) F (by omega) (by omega)
    have e1 : ladX V k x1 s (n + 1) = stepX V x1 (bitN k (254 - n)) (ladX V k x1 s n) := rfl
    rw [e1, show 254 - n = m by omega] at ih
    rw [show n + (m + 1) = n + 1 + m by omega]
    exact ih
  | _, _, 0, _, h => by omega
def xIni (V : XV) (x1 : List Int) : X4 := ⟨fixL 16 (V.fr (1 :: List.replicate 31 0)), fixL 16 (V.fr (List.replicate 32 0)), x1, fixL 16 (V.fr (1 :: List.replicate 31 0))⟩
def xV (V : XV) (k u : List Int) : List Int :=
  let s := ladX V (fixL 32 (V.cl k)) (fixL 16 (V.fr u)) (xIni V (fixL 16 (V.fr u))) 255
  fixL 32 (V.byt (fixL 16 (V.mu s.a (fixL 16 (V.iv s.b)))))
theorem x03_run (V : XV) (k u : List Int) (hb : Bytes (fixL 32 (V.cl k))) : evFn (RxX V) afX03 [key k, key u] ⟨16, []⟩ kV = some (key (xV V k u), ⟨0, []⟩) := by
  rw [evFn_eq]
  refine Eq.trans ?_ ((v_start V 1000 vBody vEnd (kFn [.cell 4 true 32] kV) k u).trans ?_)
  · rfl
  have h := v_loop0 V (kBlock 0 none (kSeq (RxX V) none vEnd (kFn [.cell 4 true 32] kV))) (fixL 32 (V.cl k)) (fixL 16 (V.fr u)) (xIni V (fixL 16 (V.fr u))) (fixL_len ..) hb 255 0 1000 (by omega) (by omega)
  refine (show _ = _ from h).trans ?_
  rw [kBlock_exit]
  exact v_endX V _ _ _ _
def XT : XV := ⟨clF, fromF, addF carL, subF carL, mulF (foldF carL), smF carL, fun n => invF fromF (mulF (foldF carL)) n 255, bytF carL⟩
def RepX (s : X4) (n : N4) : Prop := Rep16 s.a n.x2 ∧ Rep16 s.b n.z2 ∧ Rep16 s.c n.x3 ∧ Rep16 s.d n.z3
theorem RepX.swap {s : X4} {n : N4} {b : Nat} (h : RepX s n) (hb : b < 2) : RepX (swX b s) (swN b n) := by
  obtain ⟨h1, h2, h3, h4⟩ := h
  rcases (by omega : b = 0 ∨ b = 1) with rfl | rfl
  · exact ⟨h1, h2, h3, h4⟩
  · exact ⟨h3, h4, h1, h2⟩
theorem RepX.go {s : X4} {n : N4} {x1 : List Int} {m : Nat} (hx : Rep16 x1 m) (h : RepX s n) : RepX (vGo XT x1 s) (goN m n) := by
  obtain ⟨h1, h2, h3, h4⟩ := h
  have a := (h1.add h2).mod.fix
  have b := (h1.sub h2).mod.fix
  have c := (h3.add h4).mod.fix
  have d := (h3.sub h4).mod.fix
  have aa := (a.mul a).mod.fix
  have bb := (b.mul b).mod.fix
  have e := (aa.sub bb).mod.fix
  have da := (d.mul a).mod.fix
  have cb := (c.mul b).mod.fix
  have s' := (da.add cb).mod.fix
  have t' := (da.sub cb).mod.fix
  exact ⟨(aa.mul bb).mod.fix, (e.mul (aa.add (e.small (m := 121665) (by decide)).mod.fix).mod.fix).mod.fix, (s'.mul s').mod.fix, (hx.mul (t'.mul t').mod.fix).mod.fix⟩
theorem RepX.step {s : X4} {n : N4} {x1 : List Int} {m : Nat} {b : Nat} (hx : Rep16 x1 m) (h : RepX s n) (hb : b < 2) : RepX (stepX XT x1 b s) (stepN m b n) := ((h.swap hb).go hx).swap hb
theorem ladX_rep {k x1 : List Int} {m : Nat} (hx : Rep16 x1 m) {s : X4} (h : RepX s ⟨1,0, m, 1⟩) : ∀ n, RepX (ladX XT k x1 s n) (ladN k m n)
  | 0 => h
  | n + 1 => (ladX_rep hx h n).step hx (by unfold bitN; omega)
theorem cl_tab : ((List.range 256).all fun n => bw .and .u8 ((n : Nat) : Int) 248 == w8 (w8 (((n : Nat) : Int).tdiv 8) * 8) && bw .or .u8 (bw .and .u8 ((n : Nat) : Int) 127) 64 == w8 (((n : Nat) : Int).tmod 64 + 64)) = true := by kernel_rfl
theorem cl_eq {k : List Int} (hb : Bytes k) : clF k = clampL k := by
  have key : ∀ x : Int, 0 ≤ x → x < 256 → bw .and .u8 x 248 = w8 (w8 (x.tdiv 8) * 8) ∧ bw .or .u8 (bw .and .u8 x 127) 64 = w8 (x.tmod 64 + 64) := fun x h0 h1 => by
    obtain ⟨n, rfl⟩ := Int.eq_ofNat_of_zero_le h0
    have := List.all_eq_true.1 cl_tab n (List.mem_range.2 (by omega))
    simp only [Bool.and_eq_true, beq_iff_eq] at this
    exact this
  unfold clF clampL
  have e1 := (key (g0 k 0) (hb.getD 0).1 (hb.getD 0).2).1
  have e2 := (key (g0 k 31) (hb.getD 31).1 (hb.getD 31).2).2
  rw [← e1, ← e2]
  rfl
theorem leB_len (n : Nat) : ∀ k, (leB n k).length = k
  | 0 => rfl
  | k + 1 => by simp only [leB, List.length_cons, leB_len]
theorem fin_law {s : X4} {n : N4} (h : RepX s n) : fixL 32 (bytF carL (fixL 16 (mulF (foldF carL) s.a (fixL 16 (invF fromF (mulF (foldF carL)) s.b 255))))) = leB (quoN n) 32 := by
  obtain ⟨r1, r2, _, _⟩ := h
  have hi := (inv_rep r2 255 (Nat.le_refl _)).fix
  generalize invF fromF (mulF (foldF carL)) s.b 255 = v at *
  have hq := ((r1.mul hi).mod.fix).bytes
  rw [hq, fixL_eq (leB_len _ _)]
  unfold quoN
  rw [Nat.mod_mod]
theorem xV_law {k u : List Int} (hk : Bytes k) (hkl : k.length = 32) (hul : u.length = 32) (hu : Bytes u) : xV XT k u = xI k u := by
  have hc : fixL 32 (XT.cl k) = clampL k := by
    show fixL 32 (clF k) = _
    rw [cl_eq hk, fixL_eq]
    simp [clampL, hkl]
  have hx := (fromF_rep hul hu).fix
  have h0 : RepX (xIni XT (fixL 16 (fromF u))) ⟨1,0, leN u % 57896044618658097711785492504343953926634992332820282019728792003956564819968,1⟩ := ⟨k1_rep.fix, k0_rep.fix, hx, k1_rep.fix⟩
  have hr := ladX_rep (k := clampL k) hx h0 255
  unfold xV xI xN
  rw [hc]
  generalize ladN (clampL k) (leN u % 57896044618658097711785492504343953926634992332820282019728792003956564819968) 255 = N at *
  have e : XT.fr u = fromF u := rfl
  rw [e]
  generalize ladX XT (clampL k) (fixL 16 (fromF u)) (xIni XT (fixL 16 (fromF u))) 255 = S at *
  exact fin_law hr
set_option maxRecDepth 100000
theorem digits_eq : ∀ {zs : List Int}, Bytes zs → zs = leB (vO zs).toNat zs.length
  | [], _ => rfl
  | x :: r, h => by
    have h1 := h x (.head _)
    have hr : Bytes r := fun y hy => h y (.tail _ hy)
    have h2 := vO_bnd hr
    have ih := digits_eq hr
    simp only [List.length_cons, leB, vO]
    have e1 : (x + 256 * vO r).toNat % 256 = x.toNat := by omega
    have e2 : (x + 256 * vO r).toNat / 256 = (vO r).toNat := by omega
    rw [e1, e2, ← ih]
    congr 1
    omega
theorem vO_set : ∀ {zs : List Int} {j : Nat} {d : Int}, j < zs.length → vO (zs.set j d) = vO zs + (d - g0 zs j) * 256 ^ j
  | [], j, d, h => by simp at h
  | x :: r, 0, d, _ => by
    simp only [List.set_cons_zero, vO, g0, List.getD_cons_zero, Int.pow_zero]
    omega
  | x :: r, j + 1, d, h => by
    simp only [List.set_cons_succ, vO, vO_set (zs := r) (j := j) (d := d) (by simpa using h), g0, List.getD_cons_succ, Int.pow_succ]
    grind
theorem vO_ge : ∀ {zs : List Int} (_ : Bytes zs) (j : Nat), g0 zs j * 256 ^ j ≤ vO zs
  | [], _, j => by simp [g0, vO]
  | x :: r, h, 0 => by
    have h2 := vO_bnd (l := r) fun y hy => h y (.tail _ hy)
    simp only [g0, List.getD_cons_zero, Int.pow_zero, vO]
    omega
  | x :: r, h, j + 1 => by
    have h1 := h x (.head _)
    have ih := vO_ge (zs := r) (fun y hy => h y (.tail _ hy)) j
    have e : g0 (x :: r) (j + 1) * 256 ^ (j + 1) = 256 * (g0 r j * 256 ^ j) := by
      simp only [g0, List.getD_cons_succ, Int.pow_succ]
      grind
    rw [e, vO]
    omega
theorem vF_bnd {xs : List Int} (h : Bytes xs) : ∀ (n k : Nat), 0 ≤ vF xs n k ∧ vF xs n k < 256 ^ n
  | 0, k => by simp [vF]
  | n + 1, k => by
    have h1 := h.g0 k
    have h2 := vF_bnd h n (k + 1)
    simp only [vF, Int.pow_succ]
    omega
theorem vF_succ (xs : List Int) (n : Nat) : vF xs (n + 1) 0 = vF xs n 0 + 256 ^ n * g0 xs n := by
  rw [vF_add xs n 1 0, Nat.zero_add]
  simp only [vF]
  grind
theorem bytes_set {zs : List Int} (h : Bytes zs) {j : Nat} {d : Int} (hd : 0 ≤ d ∧ d < 256) : Bytes (zs.set j d) := fun x hx => by
  rcases List.mem_or_eq_of_mem_set hx with hx | rfl
  · exact h x hx
  · exact hd
theorem pow256_pos (n : Nat) : (0 : Int) < 256 ^ n := Int.pow_pos (by decide)
theorem tmR_eq (M : St → Option Res) {xs ys zs : List Int} (hx : Bytes xs) (hy : Bytes ys) (hz : Bytes zs) {i k : Nat} {c : Int} (hc : 0 ≤ c ∧ c < 256) (hi : i < xs.length) (hj : i + k < zs.length) (hl : zs.length ≤ 10000000) :
    tmR M xs.length ys.length zs.length xs ys zs i k c = M (tmS1 xs.length ys.length zs.length xs ys (zs.set (i + k) ((g0 zs (i + k) + g0 xs i * g0 ys k + c) % 256)) (.ofNat i) ((g0 zs (i + k) + g0 xs i * g0 ys k + c) / 256) (.ofNat (k + 1))) := by
  have h1 := hx.g0 i
  have h2 := hy.g0 k
  have h3 := hz.g0 (i + k)
  have hm : 0 ≤ g0 xs i * g0 ys k ∧ g0 xs i * g0 ys k ≤ 255 * 255 := ⟨Int.mul_nonneg h1.1 h2.1, Int.mul_le_mul (by omega) (by omega) h2.1 (by decide)⟩
  have q : w63 (Int.ofNat i + Int.ofNat k) = ((i + k : Nat) : Int) := by rw [w63_of] <;> simp <;> omega
  have e : tmN (g0 zs (i + k)) (g0 xs i) (g0 ys k) c = g0 zs (i + k) + g0 xs i * g0 ys k + c := by
    rw [tmN, w63_of (n := g0 xs i * g0 ys k) (by omega) (by omega), w63_of (n := g0 zs (i + k) + g0 xs i * g0 ys k) (by omega) (by omega), w63_of (by omega) (by omega)]
  have t1 := Int.tmod_eq_emod_of_nonneg (a := g0 zs (i + k) + g0 xs i * g0 ys k + c) (b := 256) (by omega)
  have t2 : w63 ((g0 zs (i + k) + g0 xs i * g0 ys k + c).tdiv 256) = (g0 zs (i + k) + g0 xs i * g0 ys k + c) / 256 := by
    rw [Int.tdiv_eq_ediv_of_nonneg (by omega), w63_of (by omega) (by omega)]
  rw [tmR, q, ptAt_eq (i + k) (by omega) (g0_get hj)]
  refine (ptAt_eq i (by omega) (g0_get hi)).trans ?_
  rw [if_pos ⟨by omega, by omega⟩, Int.toNat_natCast, Nat.zero_add, if_pos hj, cutI_all rfl, e, t1, t2, ofNat_succ' (by omega)]
theorem tm_stop (M L : St → Option Res) (nid : Nat) (xs ys zs : List Int) (i k : Nat) (N : Nat) (h : ys.length ≤ k) (hi : i < 1000000) : ev Rp7 tmL1 (tmS1 xs.length ys.length N xs ys zs (.ofNat i) 0 (.ofNat k)) (kLoop tmCn1 M (tmK1 L nid)) = L (tmS0 xs.length ys.length N xs ys zs (.ofNat (i + 1))) := by
  rw [tm_inner, show decide (Int.ofNat k < (ys.length : Int)) = false by simp; omega, cond_false, ofNat_succ' (by omega)]
  rfl
theorem tm_loop1 (nid : Nat) (L : St → Option Res) {xs ys : List Int} (hx : Bytes xs) (hy : Bytes ys) (N : Nat) (hN : N = xs.length + ys.length + 1) (hs : N ≤ 10000) (i : Nat) (hi : i < xs.length) (W : Int) (hT : W + g0 xs i * 256 ^ i * vO ys < 256 ^ (i + ys.length + 1)) :
    ∀ (r k : Nat) (zs : List Int) (c : Int) (F : Nat), ys.length = k + r → Bytes zs → zs.length = N → 0 ≤ c ∧ c < 256 → vO zs + c * 256 ^ (i + k) = W + g0 xs i * 256 ^ i * vF ys k 0 → r + 2 ≤ F →
    ∃ zs', loopK tmCn1 (ev Rp7 tmL1) F (tmS1 xs.length ys.length N xs ys zs (.ofNat i) c (.ofNat k)) (tmK1 L nid) = L (tmS0 xs.length ys.length N xs ys zs' (.ofNat (i + 1))) ∧ Bytes zs' ∧ zs'.length = N ∧ vO zs' = W + g0 xs i * 256 ^ i * vO ys
  | 0, k, zs, c, F + 2, hk, hz, hl, hc, hv, hF => by
    have ek : vF ys k 0 = vO ys := vF_all (by omega)
    rw [ek] at hv
    by_cases h0 : c = 0
    · subst h0
      refine ⟨zs, tm_stop _ L nid xs ys zs i k N (by omega) (by omega), hz, hl, ?_⟩
      omega
    · have hj : i + k < zs.length := by omega
      have hge := vO_ge hz (i + k)
      have hp := pow256_pos (i + k)
      have e1 : i + ys.length + 1 = (i + k) + 1 := by omega
      rw [e1, Int.pow_succ, ← hv] at hT
      have h3 := hz.g0 (i + k)
      have hsum : g0 zs (i + k) + c < 256 := by
        generalize (256 : Int) ^ (i + k) = P at *
        have : (g0 zs (i + k) + c) * P < 256 * P := by grind
        exact Int.lt_of_mul_lt_mul_right this (by omega)
      have y0 : g0 ys k = 0 := g0_out (by omega)
      have en : g0 zs (i + k) + g0 xs i * g0 ys k + c = g0 zs (i + k) + c := by rw [y0]; omega
      subst hl
      have hstep := tmR_eq (fun s => loopK tmCn1 (ev Rp7 tmL1) (F + 1) s (tmK1 L nid)) hx hy hz hc hi hj (by omega)
      rw [en, show (g0 zs (i + k) + c) / 256 = 0 by omega, show (g0 zs (i + k) + c) % 256 = g0 zs (i + k) + c by omega] at hstep
      refine ⟨zs.set (i + k) (g0 zs (i + k) + c), ?_, bytes_set hz (by omega), by simp, ?_⟩
      · refine (tm_inner ..).trans ?_
        rw [show decide (Int.ofNat k < (ys.length : Int)) = false by simp; omega, cond_false, show decide (c > 0) = true by simp; omega, cond_true]
        refine hstep.trans ?_
        exact tm_stop _ L nid xs ys _ i (k + 1) zs.length (by omega) (by omega)
      · rw [vO_set hj, ← hv]
        grind
  | r + 1, k, zs, c, F + 1, hk, hz, hl, hc, hv, hF => by
    have hj : i + k < zs.length := by omega
    have h1 := hx.g0 i
    have h2 := hy.g0 k
    have h3 := hz.g0 (i + k)
    have hm : 0 ≤ g0 xs i * g0 ys k ∧ g0 xs i * g0 ys k ≤ 255 * 255 := ⟨Int.mul_nonneg h1.1 h2.1, Int.mul_le_mul (by omega) (by omega) h2.1 (by decide)⟩
    subst hl
    have hstep := tmR_eq (fun s => loopK tmCn1 (ev Rp7 tmL1) F s (tmK1 L nid)) hx hy hz hc hi hj (by omega)
    generalize hn : g0 zs (i + k) + g0 xs i * g0 ys k + c = n at hstep
    have ih := tm_loop1 nid L hx hy zs.length hN hs i hi W hT r (k + 1) (zs.set (i + k) (n % 256)) (n / 256) F (by omega) (bytes_set hz (by omega)) (by simp) (by omega) (by
      rw [vO_set hj, vF_succ, ← Nat.add_assoc, Int.pow_succ]
      rw [Int.pow_add] at hv ⊢
      have hd : n % 256 + 256 * (n / 256) = n := by omega
      generalize n / 256 = c' at *
      generalize n % 256 = d at *
      generalize (256 : Int) ^ i = A at *
      generalize (256 : Int) ^ k = K at *
      grind) (by omega)
    obtain ⟨zs', q1, q2, q3, q4⟩ := ih
    refine ⟨zs', ?_, q2, q3, q4⟩
    refine (tm_inner ..).trans ?_
    rw [show decide (Int.ofNat k < (ys.length : Int)) = true by simp; omega, cond_true]
    exact hstep.trans q1
theorem tm_loop0 (nid F1 : Nat) {xs ys : List Int} (hx : Bytes xs) (hy : Bytes ys) (N : Nat) (hN : N = xs.length + ys.length + 1) (hs : N ≤ 10000) (hF1 : ys.length + 2 ≤ F1) :
    ∀ (r i : Nat) (zs : List Int) (F : Nat), xs.length = i + r → Bytes zs → zs.length = N → vO zs = vF xs i 0 * vO ys → r + 1 ≤ F →
    ∃ zs', loopK tmCn0 (ev Rp7 (tmBody F1)) F (tmS0 xs.length ys.length N xs ys zs (.ofNat i)) (tmK0 nid) = some (.isl .i64 zs', ⟨0, []⟩) ∧ Bytes zs' ∧ zs'.length = N ∧ vO zs' = vO xs * vO ys
  | 0, i, zs, F + 1, hk, hz, hl, hv, hF => by
    refine ⟨zs, ?_, hz, hl, by rw [hv, vF_all (by omega)]⟩
    obtain ⟨M, rfl⟩ : ∃ M, N = M + 1 := ⟨N - 1, by omega⟩
    refine (tm_outer F1 nid _ _ M _ xs ys zs _ tmL1).trans ?_
    rw [show decide (Int.ofNat i < (xs.length : Int)) = false by simp; omega, cond_false, cutI_all hl]
  | r + 1, i, zs, F + 1, hk, hz, hl, hv, hF => by
    have hvs : vF xs (i + 1) 0 = vF xs i 0 + 256 ^ i * g0 xs i := vF_succ xs i
    have hT : vF xs i 0 * vO ys + g0 xs i * 256 ^ i * vO ys < 256 ^ (i + ys.length + 1) := by
      have b1 := vF_bnd hx (i + 1) 0
      have b2 := vO_bnd hy
      have e : vF xs i 0 * vO ys + g0 xs i * 256 ^ i * vO ys = vF xs (i + 1) 0 * vO ys := by rw [hvs]; grind
      rw [e, show i + ys.length + 1 = (i + 1) + ys.length by omega, Int.pow_add]
      have p1 := pow256_pos (i + 1)
      have p2 := pow256_pos ys.length
      calc vF xs (i + 1) 0 * vO ys ≤ 256 ^ (i + 1) * vO ys := Int.mul_le_mul_of_nonneg_right (by omega) b2.1
        _ < 256 ^ (i + 1) * 256 ^ ys.length := Int.mul_lt_mul_of_pos_left b2.2 p1
    obtain ⟨z1, q1, q2, q3, q4⟩ := tm_loop1 nid (fun s => loopK tmCn0 (ev Rp7 (tmBody F1)) F s (tmK0 nid)) hx hy N hN hs i (by omega) (vF xs i 0 * vO ys) hT ys.length 0 zs 0 F1 (by omega) hz hl (by omega) (by rw [hv]; simp [vF]) hF1
    obtain ⟨z2, k1, k2, k3, k4⟩ := tm_loop0 nid F1 hx hy N hN hs hF1 r (i + 1) z1 F (by omega) q2 q3 (by rw [q4, hvs]; grind) (by omega)
    refine ⟨z2, ?_, k2, k3, k4⟩
    obtain ⟨M, rfl⟩ : ∃ M, N = M + 1 := ⟨N - 1, by omega⟩
    refine (tm_outer F1 nid _ _ M _ xs ys zs _ tmL1).trans ?_
    rw [show decide (Int.ofNat i < (xs.length : Int)) = true by simp; omega, cond_true]
    exact q1.trans k1
def timesD (xs ys : List Int) : List Int := leB (vO xs * vO ys).toNat (xs.length + ys.length + 1)
theorem vO_rep (n : Nat) : vO (List.replicate n 0) = 0 := by
  induction n with
  | zero => rfl
  | succ n ih => simp only [List.replicate_succ, vO, ih]; rfl
theorem bytes_rep (n : Nat) : Bytes (List.replicate n 0) := fun x hx => by
  obtain ⟨_, rfl⟩ := List.mem_replicate.1 hx
  omega
theorem times7_run (F nid : Nat) {xs ys : List Int} (hx : okD7 xs = true) (hy : okD7 ys = true) (hF : 2000 ≤ F) : evFn Rp7 (afTimesOf F) [slB 0 xs.length, slB 1 ys.length] ⟨16, [roC 0 (.segs [.ints .i64 xs.length xs]), roC 1 (.segs [.ints .i64 ys.length ys])]⟩ (kOut none nid) = some (.isl .i64 (timesD xs ys), ⟨0, []⟩) := by
  rw [okD7_iff] at hx hy
  refine (evFn_eq ..).trans ?_
  refine (tm_start F nid _ _ _ _ (tmBody F)).trans ?_
  have e : w63 (w63 ((xs.length : Int) + ys.length) + 1) = ((xs.length + ys.length + 1 : Nat) : Int) := by
    rw [w63_of (n := (xs.length : Int) + ys.length) (by omega) (by omega), w63_of (by omega) (by omega)]
    omega
  rw [e, if_pos ⟨by omega, by omega, by omega⟩, Int.toNat_natCast]
  obtain ⟨zs, q1, q2, q3, q4⟩ := tm_loop0 nid F hx.2 hy.2 (xs.length + ys.length + 1) rfl (by omega) (by omega) xs.length 0 (List.replicate (xs.length + ys.length + 1) 0) F (by omega) (bytes_rep _) (by simp) (by rw [vO_rep]; simp [vF]) (by omega)
  have := digits_eq q2
  rw [q3, q4] at this
  rw [timesD, ← this]
  exact q1
theorem times7_pure {P : Program} {f : FuncId} (F : Fn P f Rp7 afTimes) : PureOk P f (rowsP timesD) := rows_pure F fun nid xs ys hx hy => times7_run 100000000 nid hx hy (by decide)
theorem leB_bytes : ∀ (n k : Nat), Bytes (leB n k)
  | _, 0 => fun x hx => by simp [leB] at hx
  | n, k + 1 => fun x hx => by
    simp only [leB, List.mem_cons] at hx
    rcases hx with rfl | hx
    · omega
    · exact leB_bytes _ k x hx
theorem leB_val : ∀ (n k : Nat), n < 256 ^ k → vO (leB n k) = (n : Int)
  | n, 0, h => by simp at h; subst h; rfl
  | n, k + 1, h => by
    rw [Nat.pow_succ] at h
    simp only [leB, vO, leB_val (n / 256) k (by omega)]
    omega
theorem timesD_val {xs ys : List Int} (hx : Bytes xs) (hy : Bytes ys) : vO (timesD xs ys) = vO xs * vO ys ∧ Bytes (timesD xs ys) ∧ (timesD xs ys).length = xs.length + ys.length + 1 := by
  have b1 := vO_bnd hx
  have b2 := vO_bnd hy
  refine ⟨?_, leB_bytes _ _, leB_len _ _⟩
  have h0 : 0 ≤ vO xs * vO ys := Int.mul_nonneg b1.1 b2.1
  have h1 : vO xs * vO ys < 256 ^ (xs.length + ys.length + 1) := by
    rw [Int.pow_succ, Int.pow_add]
    have p1 := pow256_pos xs.length
    have p2 := pow256_pos ys.length
    have q : vO xs * vO ys < 256 ^ xs.length * 256 ^ ys.length := by
      calc vO xs * vO ys ≤ 256 ^ xs.length * vO ys := Int.mul_le_mul_of_nonneg_right (by omega) b2.1
        _ < 256 ^ xs.length * 256 ^ ys.length := Int.mul_lt_mul_of_pos_left b2.2 p1
    omega
  rw [timesD, leB_val]
  · omega
  · have : (((vO xs * vO ys).toNat : Nat) : Int) < ((256 ^ (xs.length + ys.length + 1) : Nat) : Int) := by
      rw [Int.toNat_of_nonneg h0, Int.natCast_pow]
      exact h1
    exact Int.ofNat_lt.1 this
set_option maxRecDepth 100000
def p1305 : Int := 1361129467683753853853498429727072845819
theorem okD7_of {xs : List Int} (h : Bytes xs) (hl : xs.length ≤ 1000) : okD7 xs = true := okD7_iff.2 ⟨hl, h⟩
theorem byt5 : Bytes [5] := fun x hx => by simp at hx; omega
theorem vO5 : vO [5] = 5 := rfl
def restD (xs : List Int) : List Int := leB (vO xs % p1305).toNat 17
theorem low_eq {a : List Int} (h : Bytes a) {v : Int} (hv : vO (lowH a) = v) : lowH a = leB v.toNat 17 := by
  have := digits_eq (lowH_bytes h)
  rw [hv] at this
  exact this
abbrev reRun (F nid : Nat) (u w : List Int) : Option Res := loopK reCn (ev (RpR okD7 upD lowH timesD plusD someB) reL) F (reSt u w) (reK okD7 upD lowH timesD plusD someB nid)
theorem re_loop (nid : Nat) : ∀ (n : Nat) (a : List Int) (F : Nat), Bytes a → a.length ≤ 400 → vO a < n → n < F → reRun F nid (upD a) (lowH a) = some (.isl .i64 (restD a), ⟨0, []⟩)
  | 0, a, F, ha, _, hu, _ => by
    have := vO_bnd ha
    omega
  | n + 1, a, F + 1, ha, hl, hu, hF => by
    obtain ⟨e1, e2, b1, l1⟩ := high_val ha
    have bl := lowH_bytes ha
    have ll := lowH_len a
    have bu := vO_bnd b1
    obtain ⟨t1, t2, t3⟩ := timesD_val b1 byt5
    have okU := okD7_of b1 (by omega)
    have okL := okD7_of bl (by omega)
    have ok5' : okD7 [5] = true := okD7_of byt5 (by simp)
    have va := vO_bnd ha
    refine (re_round okD7 upD lowH timesD plusD someB _ nid (upD a) (lowH a)).trans ?_
    rw [okU, cond_true]
    by_cases hs : someB (upD a) = true
    · have okT := okD7_of t2 (by rw [t3]; simp; omega)
      obtain ⟨q1, q2, q3⟩ := plusD_val bl t2
      have q3' : (plusD (lowH a) (timesD (upD a) [5])).length ≤ 400 := by
        rw [t3, ll] at q3
        simp only [List.length_singleton] at q3
        omega
      have okP := okD7_of q2 (by omega)
      simp only [hs, okL, ok5, ok5', okT, okP, cond_true]
      rw [t1, vO5] at q1
      have hne : vO (upD a) ≠ 0 := fun h0 => by
        rw [(someB_val b1).2 h0] at hs; cases hs
      obtain ⟨k1, k2, k3, k4⟩ := high_val q2
      have hdec : vO (plusD (lowH a) (timesD (upD a) [5])) < n := by
        rw [q1, e2]
        rw [e1] at hne ⊢
        unfold p130 at *
        omega
      refine (re_loop nid n _ F q2 q3' hdec (by omega)).trans ?_
      have hv : vO (plusD (lowH a) (timesD (upD a) [5])) % p1305 = vO a % p1305 := by
        rw [q1, e1, e2, p130, p1305]
        omega
      rw [restD, restD, hv]
    · have hs' : someB (upD a) = false := by simpa using hs
      have h0 := (someB_val b1).1 hs'
      obtain ⟨q1, q2, q3⟩ := plusD_val bl byt5
      rw [vO5] at q1
      have okP := okD7_of q2 (by rw [ll] at q3; simp only [List.length_singleton] at q3; omega)
      obtain ⟨k1, k2, k3, k4⟩ := high_val q2
      have okU2 := okD7_of k3 (by rw [k4]; rw [ll] at q3; simp only [List.length_singleton] at q3; omega)
      simp only [hs', cond_false, okL, ok5, ok5', okP, okU2, cond_true]
      rw [q1, e2] at k1 k2
      have h0' : vO a < 1361129467683753853853498429727072845824 := by
        rw [e1] at h0
        unfold p130 at h0
        omega
      by_cases hm : someB (upD (plusD (lowH a) [5])) = true
      · rw [hm, cond_true]
        have hne : vO (upD (plusD (lowH a) [5])) ≠ 0 := fun h0 => by
          rw [(someB_val k3).2 h0] at hm; cases hm
        have : vO (lowH (plusD (lowH a) [5])) = vO a % p1305 := by
          rw [k2]
          rw [k1] at hne
          have va0 := va.1
          generalize vO a = v at *
          have m1 : v % p130 = v := Int.emod_eq_of_lt va0 h0'
          rw [m1] at hne ⊢
          obtain ⟨d, hd0, hd1, rfl⟩ : ∃ d, 0 ≤ d ∧ d < 5 ∧ v = d + p1305 := ⟨v - p1305, by unfold p130 at hne; unfold p1305; omega, by unfold p1305; omega, by omega⟩
          rw [Int.add_emod_right, Int.emod_eq_of_lt hd0 (by unfold p1305; omega)]
          unfold p1305 p130
          omega
        rw [low_eq q2 this]
        rfl
      · have hm' : someB (upD (plusD (lowH a) [5])) = false := by simpa using hm
        rw [hm', cond_false]
        have h2 := (someB_val k3).1 hm'
        have : vO (lowH a) = vO a % p1305 := by
          rw [e2]
          rw [k1] at h2
          have va0 := va.1
          generalize vO a = v at *
          have m1 : v % p130 = v := Int.emod_eq_of_lt va0 h0'
          rw [m1] at h2 ⊢
          exact (Int.emod_eq_of_lt va0 (by unfold p130 at h2; unfold p1305; omega)).symm
        rw [low_eq ha this]
        rfl
def restP : OrcP := fun _ args h => match args with
  | [s] => withG (fun xs => okD7 xs && decide (xs.length ≤ 40)) h s fun xs => some (.isl .i64 (restD xs), none)
  | _ => none
theorem vO_40 {a : List Int} (h : Bytes a) (hl : a.length ≤ 40) : vO a < 2135987035920910082395021706169552114602704522356652769947041607822219725780640550022962086936576 := by
  have h2 := vF_bnd h 40 0
  rw [vF_all (by omega)] at h2
  have h3 : (256 : Int) ^ 40 = 2135987035920910082395021706169552114602704522356652769947041607822219725780640550022962086936576 := by decide
  rw [h3] at h2
  exact h2.2
def manyS : Nat := 2135987035920910082395021706169552114602704522356652769947041607822219725780640550022962086936577
theorem rest7_run (F nid : Nat) {xs : List Int} (hx : Bytes xs) (hl : xs.length ≤ 40) (hF : manyS ≤ F) : evFn (RpR okD7 upD lowH timesD plusD someB) (afRestOf F) [slB 0 xs.length] ⟨16, [roC 0 (.segs [.ints .i64 xs.length xs])]⟩ (kOut none nid) = some (.isl .i64 (restD xs), ⟨0, []⟩) := by
  refine (evFn_eq ..).trans ?_
  refine (re_start okD7 upD lowH timesD plusD someB F nid _ _).trans ?_
  rw [cutI_all rfl, okD7_of hx (by omega), cond_true]
  exact re_loop nid 2135987035920910082395021706169552114602704522356652769947041607822219725780640550022962086936576 xs F hx (by omega) (vO_40 hx hl) (by unfold manyS at hF; omega)
def afRestM : AFn := afRestOf manyS
def RpRe : Env := envAdd id_hollowtreeref07_high (.full (high7C okD7 upD lowH)) (envAdd id_hollowtreeref07_some (.full (someC okD7 someB)) (envAdd id_hollowtreeref07_times (.full (rowsC okD7 timesD)) (envAdd id_hollowtreeref07_plus (.full (rowsC okD7 plusD)) G10)))
theorem rest7_pure {P : Program} {f : FuncId} (F : Fn P f RpRe afRestM) : PureOk P f restP := by
  refine F.lit [.sl (.ints .i64)] none fun nid args hp r ha hr => ?_
  unfold restP at hr
  split at hr <;> try (cases hr; done)
  rename_i s
  obtain ⟨xs, hc, hx, hr1⟩ := withG_eq hr
  simp only [Bool.and_eq_true, decide_eq_true_eq] at hx
  cases hr1
  refine ⟨_, _, by simp only [viewArgs, contI_isSl hc, if_true, viewS_ints hc, Option.bind_some, Option.map_some]; rfl, by simp, ?_⟩
  exact rest7_run manyS nid (okD7_iff.1 hx.1).2 hx.2 (Nat.le_refl _)
theorem restD_val (xs : List Int) : vO (restD xs) = vO xs % p1305 ∧ Bytes (restD xs) ∧ (restD xs).length = 17 := by
  have h0 : 0 ≤ vO xs % p1305 := Int.emod_nonneg _ (by decide)
  have h1 : vO xs % p1305 < p1305 := Int.emod_lt_of_pos _ (by decide)
  refine ⟨?_, leB_bytes _ _, leB_len _ _⟩
  rw [restD, leB_val]
  · omega
  · have h3 : (256 : Nat) ^ 17 = 87112285931760246646623899502532662132736 := by decide
    rw [h3]
    unfold p1305 at *
    omega
set_option maxRecDepth 100000
def c16 (x : Int) : Int := x.tmod 16
def c4 (x : Int) : Int := w8 (w8 (x.tdiv 4) * 4)
def clampR (k : List Int) : List Int := [g0 k 0, g0 k 1, g0 k 2, c16 (g0 k 3), c4 (g0 k 4), g0 k 5, g0 k 6, c16 (g0 k 7), c4 (g0 k 8), g0 k 9, g0 k 10, c16 (g0 k 11), c4 (g0 k 12), g0 k 13, g0 k 14, c16 (g0 k 15)]
theorem clampR_run (f : Nat → Int) : evFn G10 af_hollowtreeref07_Clamp [key (tab 32 f)] ⟨16, []⟩ kV = some (.agg [.ints .u8 16 (clampR (tab 32 f))], ⟨0, []⟩) := by kernel_rfl
def cl16V (C : List Int → List Int) : OrcP := fun _ args _ => match args with
  | [.agg [.ints .u8 32 xs]] => some (.agg [.ints .u8 16 (fixL 16 (C xs))], none)
  | _ => none
theorem clampR_pure {P : Program} {f : FuncId} (F : Fn P f G10 af_hollowtreeref07_Clamp) : PureOk P f (cl16V clampR) := by
  refine F.plain fun nid args hp r ha hr => ?_
  unfold cl16V at hr
  split at hr <;> try (cases hr; done)
  cases hr
  obtain ⟨⟨⟨hl, _⟩, _⟩, _⟩ := ha
  obtain ⟨g, rfl⟩ := tab_of hl
  exact ⟨rfl, rfl, rfl, clampR_run g⟩
section
variable (G : List Int → Bool) (C R7 : List Int → List Int) (T Pl : List Int → List Int → List Int)
def rowC1 (G : List Int → Bool) (A : List Int → List Int) : OrcF := fun args h κ => match args with
  | [s] => withG G h s fun xs => κ (.isl .i64 (A xs)) h
  | _ => none
def RpM : Env := envAdd (id_hollowtreeref07_plus + 1000000) (.pure noneO) (envAdd id_hollowtreeref07_Clamp (.pure (cl16V C)) (envAdd id_hollowtreeref07_row (.pure rowO) (envAdd id_hollowtreeref07_plus (.full (rowsC G Pl)) (envAdd id_hollowtreeref07_times (.full (rowsC G T)) (envAdd id_hollowtreeref07_rest (.full (rowC1 G R7)) (envAdd id_hollowtreeref07_at (.pure atPO) G10))))))
def g1 (G : List Int → Bool) (a : List Int) (k : Option Res) : Option Res := bif G a then k else none
def macGo (r : List Int) : List Int → List (List Int) → (List Int → Option Res) → Option Res
  | a, [], k => k a
  | a, n :: ns, k => g1 G a (g1 G n (g1 G (Pl a n) (g1 G r (g1 G (T (Pl a n) r) (macGo r (R7 (T (Pl a n) r)) ns k)))))
def blk16 (b : List Int) (j : Nat) : List Int := tab 16 fun i => g0 b (16 * j + i)
def blkN (b : List Int) (j : Nat) : List Int := rowL (blk16 b j) ++ [1]
def blks8 (b : List Int) : List (List Int) := [blkN b 0, blkN b 1, blkN b 2, blkN b 3, blkN b 4, blkN b 5, blkN b 6, blkN b 7]
def lowT (a : List Int) : List Int := tab 16 fun i => w8 (g0 a i)
theorem mac_run (nid : Nat) (f g : Nat → Int) : evFn (RpM G C R7 T Pl) af_hollowtreeref07_Mac [key (tab 32 f), slB 0 128] ⟨16, [roC 0 (.segs [.ints .u8 128 (tab 128 g)])]⟩ (kOut none nid) =
    macGo G R7 T Pl (rowL (fixL 16 (C (tab 32 f)))) [] (blks8 (tab 128 g)) fun a => g1 G a (g1 G (rowL (blk16 (tab 32 f) 1)) (some (.agg [.ints .u8 16 (lowT (Pl a (rowL (blk16 (tab 32 f) 1))))], ⟨0, []⟩))) := by kernel_rfl
end
set_option maxRecDepth 100000
def okM (xs : List Int) : Bool := okD7 xs && decide (xs.length ≤ 40)
theorem okM_of {xs : List Int} (h : Bytes xs) (hl : xs.length ≤ 40) : okM xs = true := by
  simp only [okM, Bool.and_eq_true, decide_eq_true_eq]
  exact ⟨okD7_of h (by omega), hl⟩
theorem okM_D {xs : List Int} (h : okM xs = true) : okD7 xs = true := by
  simp only [okM, Bool.and_eq_true] at h
  exact h.1
def rowsM (A : List Int → List Int → List Int) : OrcP := fun _ args h => match args with
  | [s, t] => withG okM h s fun xs => withG okM h t fun ys => some (.isl .i64 (A xs ys), none)
  | _ => none
theorem withG_of {β : Type} {G : List Int → Bool} {h : Heap} {s : AV} {k : List Int → Option β} {xs : List Int} (hc : contI .i64 h s = some xs) (hg : G xs = true) : withG G h s k = k xs := by
  unfold withG
  rw [hc, Option.bind_some, hg]
  rfl
theorem rowsM_of {P : Program} {f : FuncId} {A : List Int → List Int → List Int} (h : PureOk P f (rowsP A)) : PureOk P f (rowsM A) := by
  refine pure_mono h fun nid args hp r hok hr => ?_
  unfold rowsM at hr
  split at hr <;> try (cases hr; done)
  rename_i s t
  obtain ⟨xs, hc, hx, hr1⟩ := withG_eq hr
  obtain ⟨ys, hd, hy, hr2⟩ := withG_eq hr1
  show (withG okD7 hp s fun xs => withG okD7 hp t fun ys => some (AV.isl .i64 (A xs ys), none)) = _
  rw [withG_of hc (okM_D hx), withG_of hd (okM_D hy)]
  exact hr2
theorem rowsM_full {P : Program} {f : FuncId} {A : List Int → List Int → List Int} (h : PureOk P f (rowsM A)) : FullOk P f (rowsC okM A) := by
  refine pure_full h fun args hp κ => ?_
  unfold rowsC rowsM
  split
  · simp only [withG_map, Option.bind_some, obH]
  · first
    | rfl
    | (rename_i hx
       split
       · exact (hx _ _ rfl).elim
       · rfl)
theorem restM_full {P : Program} {f : FuncId} (h : PureOk P f restP) : FullOk P f (rowC1 okM restD) := by
  refine pure_full h fun args hp κ => ?_
  unfold rowC1 restP
  split
  · simp only [withG_map, Option.bind_some, obH]
    rfl
  · first
    | rfl
    | (rename_i hx
       split
       · exact (hx _ rfl).elim
       · rfl)
theorem tab_shift (x : Int) (r : List Int) : ∀ n i, tabFrom (g0 (x :: r)) (i + 1) n = tabFrom (g0 r) i n
  | 0, _ => rfl
  | n + 1, i => by
    simp only [tabFrom, tab_shift x r n (i + 1)]
    rfl
theorem tab_low : ∀ (n : Nat) {l : List Int}, Bytes l → tabFrom (g0 l) 0 n = leB (vO l).toNat n
  | 0, _, _ => rfl
  | n + 1, [], h => by
    have ih := tab_low n (l := []) h
    have e : ∀ n i, tabFrom (g0 []) i n = tabFrom (g0 []) 0 n := by
      intro n
      induction n with
      | zero => intro i; rfl
      | succ n ihn => intro i; simp only [tabFrom]; rw [ihn (i + 1), ihn (0 + 1)]; rfl
    simp only [tabFrom, leB, vO]
    rw [e n (0 + 1), ih]
    rfl
  | n + 1, x :: r, h => by
    have h1 := h x (.head _)
    have hr : Bytes r := fun y hy => h y (.tail _ hy)
    have h2 := vO_bnd hr
    simp only [tabFrom, leB, vO]
    have e1 : (x + 256 * vO r).toNat % 256 = x.toNat := by omega
    have e2 : (x + 256 * vO r).toNat / 256 = (vO r).toNat := by omega
    rw [tab_shift, tab_low n hr, e1, e2]
    congr 1
    show x = (x.toNat : Int)
    omega
theorem w8_id {x : Int} (h : 0 ≤ x ∧ x < 256) : w8 x = x := by
  simp only [w8, IntKind.wrap, IntKind.bits, IntKind.signed, Bool.false_and, Bool.false_eq_true, if_false]
  have e : ((2 : Int) ^ 8) = 256 := by decide
  rw [e]
  omega
theorem tab_congr {f g : Nat → Int} (h : ∀ i, f i = g i) : ∀ n i, tabFrom f i n = tabFrom g i n
  | 0, _ => rfl
  | n + 1, i => by simp only [tabFrom, h i, tab_congr h n (i + 1)]
theorem lowT_eq {a : List Int} (h : Bytes a) : lowT a = leB (vO a).toNat 16 := by
  rw [← tab_low 16 h]
  exact tab_congr (fun i => w8_id (h.g0 i)) 16 0
theorem tab_bytes {f : Nat → Int} (h : ∀ i, 0 ≤ f i ∧ f i < 256) : ∀ n i, Bytes (tabFrom f i n)
  | 0, _ => fun x hx => by simp [tabFrom] at hx
  | n + 1, i => fun x hx => by
    simp only [tabFrom, List.mem_cons] at hx
    rcases hx with rfl | hx
    · exact h i
    · exact tab_bytes h n (i + 1) x hx
theorem blk16_bytes {b : List Int} (h : Bytes b) (j : Nat) : Bytes (blk16 b j) := tab_bytes (fun i => h.g0 _) 16 0
theorem rowL_id {xs : List Int} (h : Bytes xs) (hl : xs.length = 16) : rowL xs = xs := by
  have e : rowL xs = fixL 16 xs := tab_congr (f := fun i => w63 (g0 xs i)) (g := fun i => xs.getD i 0) (fun i => by
    have := h.g0 i
    exact w63_of (by omega) (by omega)) 16 0
  rw [e, fixL_eq hl]
theorem blkN_val {b : List Int} (h : Bytes b) (j : Nat) : vO (blkN b j) = vO (blk16 b j) + 340282366920938463463374607431768211456 ∧ Bytes (blkN b j) ∧ (blkN b j).length = 17 := by
  have hb := blk16_bytes h j
  have hl : (blk16 b j).length = 16 := tab_len ..
  refine ⟨?_, ?_, ?_⟩
  · rw [blkN, rowL_id hb hl, vO_append, hl, p256_16]
    simp only [vO]
    omega
  · rw [blkN, rowL_id hb hl]
    intro x hx
    rcases List.mem_append.1 hx with hx | hx
    · exact hb x hx
    · simp only [List.mem_singleton] at hx; omega
  · rw [blkN, rowL_id hb hl, List.length_append, hl]; rfl
def macS (r : Int) : Int → List Int → Int
  | a, [] => a
  | a, n :: ns => macS r ((a + n) * r % p1305) ns
theorem macGo_eq {r : List Int} (hr : Bytes r) (lr : r.length = 16) (k : List Int → Option Res) : ∀ (ns : List (List Int)) (a : List Int), (∀ n ∈ ns, Bytes n ∧ n.length = 17) → Bytes a → a.length ≤ 17 →
    ∃ a', macGo okM restD timesD plusD r a ns k = k a' ∧ Bytes a' ∧ a'.length ≤ 17 ∧ vO a' = macS (vO r) (vO a) (ns.map vO)
  | [], a, _, ha, la => ⟨a, rfl, ha, la, rfl⟩
  | n :: ns, a, hn, ha, la => by
    obtain ⟨h1, l1⟩ := hn n (.head _)
    obtain ⟨p1, p2, p3⟩ := plusD_val ha h1
    obtain ⟨t1, t2, t3⟩ := timesD_val p2 hr
    obtain ⟨s1, s2, s3⟩ := restD_val (timesD (plusD a n) r)
    obtain ⟨a', q1, q2, q3, q4⟩ := macGo_eq hr lr k ns (restD (timesD (plusD a n) r)) (fun m hm => hn m (.tail _ hm)) s2 (by omega)
    refine ⟨a', ?_, q2, q3, ?_⟩
    · simp only [macGo, g1, okM_of ha (by omega), okM_of h1 (by omega), okM_of p2 (by omega), okM_of hr (by omega), okM_of t2 (by omega), cond_true]
      exact q1
    · rw [q4, s1, t1, p1]
      rfl
def blkV (b : List Int) (j : Nat) : Int := vO (blk16 b j) + 340282366920938463463374607431768211456
def blksV (b : List Int) : List Int := [blkV b 0, blkV b 1, blkV b 2, blkV b 3, blkV b 4, blkV b 5, blkV b 6, blkV b 7]
def macN (k b : List Int) : List Int := leB (macS (vO (clampR k)) 0 (blksV b) + vO (blk16 k 1)).toNat 16
theorem c16_rng {x : Int} (h : 0 ≤ x ∧ x < 256) : c16 x = x % 16 ∧ 0 ≤ c16 x ∧ c16 x < 256 := by
  have e : c16 x = x % 16 := Int.tmod_eq_emod_of_nonneg h.1
  omega
theorem c4_rng {x : Int} (h : 0 ≤ x ∧ x < 256) : c4 x = x / 4 * 4 ∧ 0 ≤ c4 x ∧ c4 x < 256 := by
  have e : x.tdiv 4 = x / 4 := Int.tdiv_eq_ediv_of_nonneg h.1
  have e2 : c4 x = x / 4 * 4 := by rw [c4, e, w8_id (x := x / 4) (by omega), w8_id (by omega)]
  omega
theorem clampR_bytes {k : List Int} (h : Bytes k) : Bytes (clampR k) := by
  intro x hx
  simp only [clampR, List.mem_cons, List.not_mem_nil, or_false] at hx
  have q := fun i => h.g0 i
  rcases hx with rfl | rfl | rfl | rfl | rfl | rfl | rfl | rfl | rfl | rfl | rfl | rfl | rfl | rfl | rfl | rfl <;> first | exact q _ | exact (c16_rng (q _)).2 | exact (c4_rng (q _)).2
theorem mac_eq {k b : List Int} (hk : Bytes k) (hb : Bytes b) : (macGo okM restD timesD plusD (rowL (fixL 16 (clampR k))) [] (blks8 b) fun a => g1 okM a (g1 okM (rowL (blk16 k 1)) (some (.agg [.ints .u8 16 (lowT (plusD a (rowL (blk16 k 1))))], ⟨0, []⟩)))) = some (.agg [.ints .u8 16 (macN k b)], ⟨0, []⟩) := by
  have hc := clampR_bytes hk
  have e1 : rowL (fixL 16 (clampR k)) = clampR k := by rw [fixL_eq (show (clampR k).length = 16 from rfl), rowL_id hc rfl]
  have hs := blk16_bytes hk 1
  have ls : (blk16 k 1).length = 16 := tab_len ..
  have e2 : rowL (blk16 k 1) = blk16 k 1 := rowL_id hs ls
  rw [e1, e2]
  obtain ⟨a, q1, q2, q3, q4⟩ := macGo_eq hc rfl (fun a => g1 okM a (g1 okM (blk16 k 1) (some (.agg [.ints .u8 16 (lowT (plusD a (blk16 k 1)))], ⟨0, []⟩)))) (blks8 b) [] (fun n hn => by
    simp only [blks8, List.mem_cons, List.not_mem_nil, or_false] at hn
    rcases hn with rfl | rfl | rfl | rfl | rfl | rfl | rfl | rfl <;> exact (blkN_val hb _).2) (fun x hx => by simp at hx) (by simp)
  rw [q1]
  simp only [g1, okM_of q2 (by omega), okM_of hs (by omega), cond_true]
  obtain ⟨p1, p2, _⟩ := plusD_val q2 hs
  have ev : (blks8 b).map vO = blksV b := by
    simp only [blks8, blksV, List.map_cons, List.map_nil, (blkN_val hb _).1, blkV]
  rw [lowT_eq p2, p1, q4, ev]
  rfl
def macQ (M : List Int → List Int → List Int) : OrcP := fun _ args h => match args with
  | [.agg [.ints .u8 32 k], s] => withBs h s fun b => if b.length = 128 then some (.agg [.ints .u8 16 (fixL 16 (M k b))], none) else none
  | _ => none
def RpMe : Env := envAdd (id_hollowtreeref07_plus + 1000000) (.pure noneO) (envAdd id_hollowtreeref07_Clamp (.pure (cl16V clampR)) (envAdd id_hollowtreeref07_row (.pure rowO) (envAdd id_hollowtreeref07_plus (.full (rowsC okM plusD)) (envAdd id_hollowtreeref07_times (.full (rowsC okM timesD)) (envAdd id_hollowtreeref07_rest (.full (rowC1 okM restD)) (envAdd id_hollowtreeref07_at (.pure atPO) G10))))))
theorem macN_len (k b : List Int) : (macN k b).length = 16 := leB_len _ _
theorem mac_pure7 {P : Program} {f : FuncId} (F : Fn P f RpMe af_hollowtreeref07_Mac) : PureOk P f (macQ macN) := by
  refine F.lit [.plain, .sl (.ints .u8)] none fun nid args hp r ha hr => ?_
  unfold macQ at hr
  split at hr <;> try (cases hr; done)
  rename_i k s
  obtain ⟨b, hc, hl, hr1⟩ := withBs_eq hr
  split at hr1 <;> try (cases hr1; done)
  rename_i h128
  cases hr1
  obtain ⟨⟨⟨h1, h2⟩, _⟩, _⟩ := ha.ok
  have hk : Bytes k := bytes_rng h2
  have hb : Bytes b := bytes_rng fun y hy => ha.ints s (.tail _ (.head _)) .u8 b hc y hy
  refine ⟨_, _, by simp only [viewArgs, contI_isSl hc, if_true, viewS_ints hc, Option.bind_some, Option.map_some, avIds, avIds.avIdsL, List.append_nil, List.isEmpty_nil]; rfl, by simp, ?_⟩
  rw [fixL_eq (macN_len k b), h128]
  obtain ⟨k, rfl⟩ := tab_of h1
  obtain ⟨b, rfl⟩ := tab_of h128
  exact (mac_run okM clampR restD timesD plusD nid k b).trans (mac_eq hk hb)
set_option maxRecDepth 100000
def sr (n : Int) (k : Nat) : Int := n.fdiv (2 ^ k)
def m26 (n : Int) : Int := bw .and .u64 n 67108863
def loW (a b c : Int) : Int := bw .or .u64 (bw .or .u64 a (IntKind.u64.wrap (b * 2 ^ 26))) (IntKind.u64.wrap (c * 2 ^ 52))
def hiW (c d e : Int) : Int := bw .or .u64 (bw .or .u64 (sr c 12) (IntKind.u64.wrap (d * 2 ^ 14))) (IntKind.u64.wrap (e * 2 ^ 40))
def wg0 (h : L5) : Int := IntKind.u64.wrap (IntKind.u64.wrap (h.a + 5) + 0)
def wg1 (h : L5) : Int := IntKind.u64.wrap (h.b + sr (wg0 h) 26)
def wg2 (h : L5) : Int := IntKind.u64.wrap (h.c + sr (wg1 h) 26)
def wg3 (h : L5) : Int := IntKind.u64.wrap (h.d + sr (wg2 h) 26)
def wg4 (h : L5) : Int := IntKind.u64.wrap (h.e + sr (wg3 h) 26)
def wholeC (h : L5) : Bool := decide (sr (wg4 h) 26 > 0)
def wholeLo (h : L5) : Int := bif wholeC h then loW (m26 (wg0 h)) (m26 (wg1 h)) (m26 (wg2 h)) else loW h.a h.b h.c
def wholeHi (h : L5) : Int := bif wholeC h then hiW (m26 (wg2 h)) (m26 (wg3 h)) (m26 (wg4 h)) else hiW h.c h.d h.e
theorem whole_run (f : Nat → Int) : evFn P0 af_poly_limbs_whole [.agg [.ints .u64 5 (tab 5 f)]] ⟨16, []⟩ kV =
    bif wholeC (carryS (toL5 (tab 5 f))) then some (.tuple [.int .u64 (loW (m26 (wg0 (carryS (toL5 (tab 5 f))))) (m26 (wg1 (carryS (toL5 (tab 5 f))))) (m26 (wg2 (carryS (toL5 (tab 5 f)))))), .int .u64 (hiW (m26 (wg2 (carryS (toL5 (tab 5 f))))) (m26 (wg3 (carryS (toL5 (tab 5 f))))) (m26 (wg4 (carryS (toL5 (tab 5 f))))))], ⟨0, []⟩)
    else some (.tuple [.int .u64 (loW (carryS (toL5 (tab 5 f))).a (carryS (toL5 (tab 5 f))).b (carryS (toL5 (tab 5 f))).c), .int .u64 (hiW (carryS (toL5 (tab 5 f))).c (carryS (toL5 (tab 5 f))).d (carryS (toL5 (tab 5 f))).e)], ⟨0, []⟩) := by kernel_rfl
def wholeO : Nat → List AV → Am.Heap → Option (AV × Option Blk) := fun _ args _ => match args with
  | [.agg [.ints .u64 5 xs]] => some (.tuple [.int .u64 (wholeLo (carryS (toL5 xs))), .int .u64 (wholeHi (carryS (toL5 xs)))], none)
  | _ => none
theorem whole_pure {P : Program} {f : FuncId} (F : Fn P f P0 af_poly_limbs_whole) : PureOk P f wholeO := by
  refine F.plain fun nid args hp r ha hr => ?_
  unfold wholeO at hr
  split at hr
  · rename_i xs
    cases hr
    obtain ⟨⟨⟨hl, _⟩, _⟩, _⟩ := ha
    obtain ⟨k, rfl⟩ := tab_of hl
    refine ⟨rfl, rfl, rfl, ?_⟩
    rw [whole_run]
    unfold wholeLo wholeHi
    cases wholeC (carryS (toL5 (tab 5 k))) <;> rfl
  · cases hr
set_option maxRecDepth 100000
def Py0 : Env := envAdd id_poly_limbs_whole (.pure wholeO) X_poly_limbs_carry
set_option maxRecDepth 100000
theorem pureOf_run {B : Nat} {o : List AV → Heap → (AV → Heap → Option Res) → Option Res} (hF : Factor o) {args args' : List AV} {nid : Nat} {h : Heap} {v : AV} {ids : List Nat} {bl : List Cell} (hi : idsOf h args = ids)
    (hc : ((avIds.avIdsL args).all ids.contains && closed h ids && decide (ids.length ≤ B)) = true) (ha : rnL (posN ids) args = args') (hb : litBlks h (posN ids) ids 0 = bl) (hv : avIds v = [])
    (hr : o args' ⟨B, bl⟩ kV = some (v, ⟨0, []⟩)) : pureOf B o nid args h = some (v, none) := by
  rw [hF] at hr
  cases hk : o args' ⟨B, bl⟩ kH with
  | none => rw [hk] at hr; cases hr
  | some r =>
    obtain ⟨v', h'⟩ := r
    rw [hk] at hr
    simp only [Option.bind_some, kV, Option.some.injEq, Prod.mk.injEq, and_true] at hr
    subst hr
    unfold pureOf
    simp only [hi, hc, ha, hb, hk, if_true, Option.bind_some, hv, newOf, List.filter_nil, dedupN, rnAV_id _ hv]
def g8 : List Int → Int → Int → Int
  | [], _, x => x
  | c :: r, i, x => g8 r (i + 1) (bw .or .u64 x (w64 (w64 c * 2 ^ (min (8 * i).toNat 64))))
def sh8 (x : Int) : Int := x.fdiv (2 ^ 8)
def lowN : Nat → Int → List Int
  | 0, _ => []
  | n + 1, x => w8 x :: lowN n (sh8 x)
def tagLo (h : L5) (s : List Int) : Int := w64 (wholeLo (carryS h) + g8 (s.take 8) 0 0)
def tagHi (h : L5) (s : List Int) : Int := w64 ((bif decide (tagLo h s < wholeLo (carryS h)) then w64 (wholeHi (carryS h) + 1) else wholeHi (carryS h)) + g8 ((s.drop 8).take 8) 0 0)
def tagS (h : L5) (s : List Int) : List Int := lowN 8 (tagLo h s) ++ lowN 8 (tagHi h s)
def tgC (lid : Nat) (c : Option Nat) (r h s : List Int) : List AV := [.slice lid 0 0 0 0 c, .ints .u64 5 r, .ints .u64 5 h, .ints .u8 16 s]
theorem tag_run1 (c : Option Nat) (n : Nat) (xs r : List Int) (f g : Nat → Int) :
    evFn Py0 af_poly_Code_Tag [.ptr 0 0 0 0 0] ⟨16, [⟨0, true, .segs (tgC 1 c r (tab 5 f) (tab 16 g))⟩, ⟨1, true, .segs [.ints .u8 n xs]⟩]⟩ kV =
    bif decide (tagLo (toL5 (tab 5 f)) (tab 16 g) < wholeLo (carryS (toL5 (tab 5 f)))) then some (.agg [.ints .u8 16 (lowN 8 (tagLo (toL5 (tab 5 f)) (tab 16 g)) ++ lowN 8 (w64 (w64 (wholeHi (carryS (toL5 (tab 5 f))) + 1) + g8 (((tab 16 g).drop 8).take 8) 0 0)))], ⟨0, []⟩)
    else some (.agg [.ints .u8 16 (lowN 8 (tagLo (toL5 (tab 5 f)) (tab 16 g)) ++ lowN 8 (w64 (wholeHi (carryS (toL5 (tab 5 f))) + g8 (((tab 16 g).drop 8).take 8) 0 0)))], ⟨0, []⟩) := by kernel_rfl
def tagO : OrcP := fun _ args h => match args with
  | [.ptr id 0 0 0 0] => match h.get id with
    | some ⟨_, _, .segs [.slice lid 0 0 0 0 _, .ints .u64 5 _, .ints .u64 5 hh, .ints .u8 16 s]⟩ => match h.get lid with
      | some ⟨_, _, .segs [.ints .u8 _ _]⟩ => if lid ≠ id ∧ hh.length = 5 ∧ s.length = 16 then some (.agg [.ints .u8 16 (tagS (toL5 hh) s)], none) else none
      | _ => none
    | _ => none
  | _ => none
theorem tag_pure {P : Program} {f : FuncId} (F : Fn P f Py0 af_poly_Code_Tag) : PureOk P f tagO := by
  refine F.ok.pure fun nid args hp r ha hr => ?_
  unfold tagO at hr
  split at hr <;> try (cases hr; done)
  rename_i id
  split at hr <;> try (cases hr; done)
  rename_i ci ro lid c r5 hh s hg
  split at hr <;> try (cases hr; done)
  rename_i ci2 ro2 n xs hg2
  split at hr <;> try (cases hr; done)
  rename_i hcnd
  obtain ⟨hne, h1, h2⟩ := hcnd
  cases hr
  obtain ⟨k1, rfl⟩ := tab_of h1
  obtain ⟨k2, rfl⟩ := tab_of h2
  have hb1 : blkIds (⟨ci, ro, .segs [.slice lid 0 0 0 0 c, .ints .u64 5 r5, .ints .u64 5 (tab 5 k1), .ints .u8 16 (tab 16 k2)]⟩ : Cell).blk = [lid] := rfl
  have hb2 : blkIds (⟨ci2, ro2, .segs [.ints .u8 n xs]⟩ : Cell).blk = [] := rfl
  have e1 : ([id].contains lid) = false := by simp [hne]
  have hi : idsOf hp [.ptr id 0 0 0 0] = [id, lid] := by
    simp only [idsOf, avIds.avIdsL, avIds, List.append_nil, List.flatMap_cons, List.flatMap_nil, hg, hb1, List.singleton_append, dedupN, List.contains_nil, Bool.false_eq_true, if_false, List.nil_append, e1]
  refine pureOf_run F.factor hi ?_ (args' := [.ptr 0 0 0 0 0]) ?_ (bl := [⟨0, true, .segs (tgC 1 c r5 (tab 5 k1) (tab 16 k2))⟩, ⟨1, true, .segs [.ints .u8 n xs]⟩]) ?_ rfl ?_
  · simp only [closed, List.all_cons, List.all_nil, hg, hg2, hb1, hb2, avIds.avIdsL, avIds, List.append_nil, Bool.and_true, List.contains_cons, List.contains_nil, Bool.or_false, beq_self_eq_true, Bool.true_or, Bool.or_true, Bool.true_and]
    rfl
  · simp only [rnL, rnAV.rnL, rnAV, posN, if_true]
  · simp only [litBlks, hg, hg2, rnBlk, rnL, rnAV.rnL, rnAV, posN, if_true, tgC, if_neg (Ne.symm hne)]
  · refine (tag_run1 ..).trans ?_
    unfold tagS tagHi
    cases decide (tagLo (toL5 (tab 5 k1)) (tab 16 k2) < wholeLo (carryS (toL5 (tab 5 k1)))) <;> rfl
set_option maxRecDepth 100000
def Ag0 : Env := envAdd id_poly_Code_Tag (.pure tagO) X_poly_limbs_whole
def Ag1 : Env := envAdd id_aead_Tag_1 (inl Ag0 af_aead_Tag_1) Ag0
def bytes1 : Option Res → List Int
  | some (.agg [.ints _ _ a], _) => a
  | _ => []
def adH (a c : List Int) (n : Nat) : Am.Heap := ⟨16, [roC 0 (.segs [.ints .u8 40 a]), roC 1 (.segs [.ints .u8 n c])]⟩
def aTagRun (nid : Nat) (k n a c : List Int) : Option Res := evFn Ag1 af_aead_Tag [.agg [.ints .u8 32 k], .agg [.ints .u8 12 n], slB 0 40, slB 1 49] (adH a c 49) (kOut none nid)
def aTagB (k n a c : List Int) : List Int := bytes1 (aTagRun 0 k n a c)
def aTagV (T : List Int → List Int → List Int → List Int → List Int) : OrcP := fun _ args h => match args with
  | [.agg [.ints .u8 32 k], .agg [.ints .u8 12 n], x, y] => withBs h x fun a => withBs h y fun c => if a.length = 40 ∧ c.length = 49 then some (.agg [.ints .u8 16 (fixL 16 (T k n a c))], none) else none
  | _ => none
set_option maxRecDepth 100000
def bytesN : Option Res → List Int
  | some (_, ⟨_, [⟨_, _, .segs [.ints _ _ a]⟩]⟩) => a
  | _ => []
def xorRun (nid : Nat) (k n c : List Int) : Option Res := evFn X_chacha_Block af_chacha_Xor [.agg [.ints .u8 32 k], .int .u32 1, .agg [.ints .u8 12 n], slB 0 49] ⟨16, [roC 0 (.segs [.ints .u8 49 c])]⟩ (kOut (some (.ints .u8)) nid)
def xorB (k n c : List Int) : List Int := bytesN (xorRun 0 k n c)
def xorV (X : List Int → List Int → List Int → List Int) : OrcP := fun nid args h => match args with
  | [.agg [.ints .u8 32 k], .int .u32 1, .agg [.ints .u8 12 n], y] => withBs h y fun c => if c.length = 49 then some (.slice nid 0 0 49 0 (some 49), some (.segs [.ints .u8 49 (fixL 49 (X k n c))])) else none
  | _ => none
set_option maxRecDepth 100000
abbrev F3 := List Int → List Int → List Int → List Int
abbrev F4 := List Int → List Int → List Int → List Int → List Int
def sealF (X : F3) (T : F4) (k n a c : List Int) : List Int := fixL 49 (X k n c) ++ fixL 16 (T k n a (fixL 49 (X k n c)))
def aSealV (S : F4) : OrcP := fun nid args h => match args with
  | [.agg [.ints .u8 32 k], .agg [.ints .u8 12 n], x, y] => withBs h x fun a => withBs h y fun c => if a.length = 40 ∧ c.length = 49 then some (.slice nid 0 0 65 0 none, some (.segs [.ints .u8 65 (fixL 65 (S k n a c))])) else none
  | _ => none
theorem sealF_len (X : F3) (T : F4) (k n a c : List Int) : (sealF X T k n a c).length = 65 := by simp [sealF, fixL_len]
def okTag (T : F4) (k n a s : List Int) : Bool := fixL 16 (T k n a (s.take 49)) == s.drop 49
end Go.Am
