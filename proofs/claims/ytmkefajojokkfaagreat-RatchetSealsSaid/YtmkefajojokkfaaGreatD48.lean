/- RatchetSeals: part 49 of 50 of its proof. -/
import Derived.Test.YtmkefajojokkfaaGreatD45
import Derived.Test.YtmkefajojokkfaaGreatD46
import Derived.Test.YtmkefajojokkfaaGreatD47
import Derived.Test.YtmkefajojokkfaaGreatD07
import Derived.Test.YtmkefajojokkfaaGreatD09
import Derived.Test.YtmkefajojokkfaaGreatD33
import Derived.Test.YtmkefajojokkfaaGreatD36
import Derived.Test.YtmkefajojokkfaaGreatD43
import Derived.Laws.Externs
import Derived.Test.YtmkefajojokkfaaGreatChecked
set_option linter.unusedVariables false
set_option linter.unusedSimpArgs false
namespace Go.Am
set_option linter.unusedSimpArgs false
set_option maxRecDepth 100000
theorem ih2_11 (St : H2) (f i g : Nat → Int) : ihRun2 St 11 f i g := by
  unfold ihRun2
  kernel_rfl
set_option maxRecDepth 100000
theorem ih2_44 (St : H2) (f i g : Nat → Int) : ihRun2 St 44 f i g := by
  unfold ihRun2
  kernel_rfl
set_option maxRecDepth 100000
theorem ih3_10 (St : H2) (f l i g : Nat → Int) : ihRun3 St 10 f l i g := by
  unfold ihRun3
  kernel_rfl
set_option maxRecDepth 100000
theorem ih3_11 (St : H2) (f l i g : Nat → Int) : ihRun3 St 11 f l i g := by
  unfold ihRun3
  kernel_rfl
set_option maxRecDepth 100000
theorem ih3_44 (St : H2) (f l i g : Nat → Int) : ihRun3 St 44 f l i g := by
  unfold ihRun3
  kernel_rfl
set_option maxRecDepth 100000
theorem bif_some {α : Type} {c : Bool} {x v : α} (h : (bif c then some x else none) = some v) : c = true ∧ x = v := by
  cases c
  · cases h
  · exact ⟨rfl, Option.some.inj h⟩
theorem ih2_all (St : H2) {n : Nat} (h : infLen n = true) (f i g : Nat → Int) : ihRun2 St n f i g := by
  simp only [infLen, Bool.or_eq_true, beq_iff_eq] at h
  rcases h with (h | h) | h <;> subst h
  · exact ih2_10 St f i g
  · exact ih2_11 St f i g
  · exact ih2_44 St f i g
theorem ih3_all (St : H2) {n : Nat} (h : infLen n = true) (f l i g : Nat → Int) : ihRun3 St n f l i g := by
  simp only [infLen, Bool.or_eq_true, beq_iff_eq] at h
  rcases h with (h | h) | h <;> subst h
  · exact ih3_10 St f l i g
  · exact ih3_11 St f l i g
  · exact ih3_44 St f l i g
theorem hmF_fix (S : H1) (k t : List Int) : fixL 32 (hmF S k t) = hmF S k t := fixL_eq (fixL_len ..)
theorem ihm_pure {P : Program} {f : FuncId} {St : H2} (F : Fn P f (IkGV St) af_kdf_Hmac) : PureOk P f (pinO (hmG (hmF (hsF St)))) := by
  refine F.pinned fun args bs v h => ?_
  unfold hmG at h
  split at h
  · rename_i s p n0 k a n2 o
    obtain ⟨hc, rfl⟩ := bif_some h
    simp only [Bool.and_eq_true, beq_iff_eq] at hc
    obtain ⟨h1, h2, h3, rfl, rfl, hk, ho⟩ := hc
    rw [isS_eq h1, isS_eq h2, isS_eq h3, hmF_fix]
    obtain ⟨f, rfl⟩ := tab_of hk
    obtain ⟨g, rfl⟩ := tab_of ho
    exact ⟨rfl, ih_1 St f g⟩
  · rename_i s p n0 k b c n2 i n3 o
    obtain ⟨hc, rfl⟩ := bif_some h
    simp only [Bool.and_eq_true, beq_iff_eq] at hc
    obtain ⟨h1, h2, h3, h4, rfl, rfl, hk, ho, hi, hn⟩ := hc
    rw [isS_eq h1, isS_eq h2, isS_eq h3, isS_eq h4, hmF_fix]
    obtain ⟨f, rfl⟩ := tab_of hk
    obtain ⟨g, rfl⟩ := tab_of ho
    obtain ⟨j, rfl⟩ := tab_of hi
    exact ⟨rfl, ih2_all St hn f j g⟩
  · rename_i s p n0 k a b c n1 l n2 i n3 o hx
    obtain ⟨hc, rfl⟩ := bif_some h
    simp only [Bool.and_eq_true, beq_iff_eq] at hc
    obtain ⟨h1, h2, h3, h4, h5, rfl, rfl, rfl, hk, hl, ho, hi, hn⟩ := hc
    rw [isS_eq h1, isS_eq h2, isS_eq h3, isS_eq h4, isS_eq h5, hmF_fix]
    obtain ⟨f, rfl⟩ := tab_of hk
    obtain ⟨g, rfl⟩ := tab_of ho
    obtain ⟨j, rfl⟩ := tab_of hi
    obtain ⟨q, rfl⟩ := tab_of hl
    exact ⟨rfl, ih3_all St hn f q j g⟩
  · cases h
theorem stepL_len {st : List Int} (xs : List Int) (h : st.length = 8) : (stepL st xs).length = 8 := (addW_len ..).trans h
theorem stepI_full {P : Program} {f : FuncId} (h : FullOk P f (objO stepP)) : FullOk P f (objO (stepV stepI)) := by
  refine objO_mono h fun id l rest hp r hok wf ao h => ?_
  unfold stepV at h
  split at h <;> try (cases h; done)
  rename_i st ks re n v
  split at h <;> try (cases h; done)
  rename_i hks
  have hs8 : st.length = 8 := wf _ (.head _)
  rw [AOkL_iff] at ao
  have hst := (ao _ (.head _)).2
  have hre := (ao _ (.tail _ (.tail _ (.head _)))).2
  have fx : ∀ xs : List Int, (∀ x ∈ xs, rng .u8 x) → fixL 8 (stepI st (fixL 64 xs)) = stepI st xs := fun xs hx => by
    have e : stepI st (fixL 64 xs) = stepI st xs := by rw [← stepL_eq hst (fix_rng hx), stepL_fix, stepL_eq hst hx]
    rw [e, fixL_eq (by rw [← stepL_eq hst hx]; exact stepL_len _ hs8)]
  have fin : ∀ u : AV, v = u → ((contI .u8 hp u).bind fun xs => if 64 ≤ xs.length then some (AV.tuple [], hashB (fixL 8 (stepI st (fixL 64 xs))) re n) else none) = (contI .u8 hp u).bind fun xs => if 64 ≤ xs.length then some (AV.tuple [], hashB (stepI st xs) re n) else none := fun u hu => by
    cases hc : contI .u8 hp u with
    | none => rfl
    | some xs =>
      simp only [Option.bind_some]
      rw [fx xs (hok.ints u (by rw [hu]; exact .head _) _ _ hc)]
  have key : stepP id [.ints .u32 8 st, .isl .u32 ks, .ints .u8 64 re, .int .i64 n] [v] hp = stepV stepI id [.ints .u32 8 st, .isl .u32 ks, .ints .u8 64 re, .int .i64 n] [v] hp := by
    unfold stepP stepV
    simp only [if_pos hks]
    split
    · simp only [fin _ rfl, fx re hre]
    · simp only [fin _ rfl]
  rw [key]
  unfold stepV
  simp only [if_pos hks]
  exact h
set_option maxRecDepth 100000
section
variable {P : Program} {f : FuncId} {Γ : Env} {af : AFn}
end
section
variable {P : Program} {f : FuncId} {M X : H2}
end
def hmI : H2 := hmF hsI
def iSe : Env := envAdd id_sha_Hash_step (.full (objO (stepV stepI))) E_sha_New
def iWe : Env := envAdd id_sha_Hash_write (inl iSe af_sha_Hash_write) iSe
def iCe : Env := envAdd id_sha_Hash_Copy (inl iWe af_sha_Hash_Copy) iWe
def iPe : Env := envAdd id_sha_Pad (pin iCe af_sha_Pad) iCe
def iUe : Env := envAdd id_sha_Hash_Sum (inl iPe af_sha_Hash_Sum) iPe
def iVe : Env := envAdd id_sha_Hash_Write (inl iUe af_sha_Hash_Write) iUe
def iGe : Env := envAdd id_kdf_Hmac_1 (inl iVe af_kdf_Hmac_1) iVe
def iMe : Env := envAdd id_kdf_Hmac (.pure (pinO (hmG hmI))) E_kdf_info
def rSe : Env := envAdd id_hollowtreeref04_Sum (.pure (sumV hsI)) RkB
def rMe : Env := envAdd id_hollowtreeref05_Hmac (.pure (hmV hmI)) RkB
def inv255 : M1 := fun n => invF fromF (mulF (foldF carL)) n 255
def RxIe : Env := envAdd id_hollowtreeref03_From (.pure (numKV fromF)) (envAdd id_hollowtreeref03_Num_Mul (.pure (num2V (mulF (foldF carL)))) G10)
def RxXe : Env := envAdd id_hollowtreeref03_Clamp (.pure (clampV clF)) (envAdd id_hollowtreeref03_From (.pure (numKV fromF)) (envAdd id_hollowtreeref03_Num_Add (.pure (num2V (addF carL))) (envAdd id_hollowtreeref03_Num_Sub (.pure (num2V (subF carL))) (envAdd id_hollowtreeref03_Num_Mul (.pure (num2V (mulF (foldF carL)))) (envAdd id_hollowtreeref03_Num_Small (.pure (numSV (smF carL))) (envAdd id_hollowtreeref03_Num_Inv (.pure (num1V inv255)) (envAdd id_hollowtreeref03_Num_Bytes (.pure (bytV (bytF carL))) G10)))))))
section
variable {P : Program} {f : FuncId}
theorem rinv_ok (F : Fn P f RxIe afInv) : PureOk P f (num1V inv255) := rinv_pure F
theorem rx_ok (F : Fn P f RxXe afX03) : PureOk P f (keyXV xI) := rx_pure F
theorem ihm_ok (F : Fn P f iGe af_kdf_Hmac) : PureOk P f (pinO (hmG hmI)) := ihm_pure (St := stepI) F
theorem rhm_ok (F : Fn P f rSe af_hollowtreeref05_Hmac) : PureOk P f (hmV hmI) := hm_pure (S := hsI) F
end
set_option maxRecDepth 100000
theorem msg7_self (m : Msg) : msgEq7 m m = true := by simp [msgEq7]
theorem eqSks_own : ∀ ss : List Sk, eqSks ss ss = true
  | [] => rfl
  | s :: r => by simp only [eqSks, skEq, beq_self_eq_true, Bool.true_and, eqSks_own r]
theorem same7 (r : Rat) (ss : List Sk) : sameB r r ss ss = true := by simp [sameB, ratEq, eqSks_own]
theorem lqErr (C : SeC) (q : Rat) (ss : List Sk) (s : ByteArray) (hl : ss.length ≤ 1152921504606846976) {e : Int} (hv : sealW7 C q ss s = ⟨nRatS, [], zMsg7, e⟩)
    (h : lqRest C q ss.length (ss.map skR) s ⟨nRatS, [], zMsg7, e⟩ true = yes true) : (wS7 ((sealW7 C q ss s).sks.map skR) fun s1 => bif sameB (sealW7 C q ss s).rat nRatS s1 [] then lqRest C q ss.length (ss.map skR) s (sealW7 C q ss s) (msgEq7 (sealW7 C q ss s).msg zMsg7) else lqRest C q ss.length (ss.map skR) s (sealW7 C q ss s) false) = yes true := by
  rw [hv]
  show (wS7 (([] : List Sk).map skR) fun s1 => bif sameB nRatS nRatS s1 [] then lqRest C q ss.length (ss.map skR) s ⟨nRatS, [], zMsg7, e⟩ (msgEq7 zMsg7 zMsg7) else _) = _
  rw [wS7_rows (by simp), same7, msg7_self, cond_true]
  exact h
theorem seals_run (C : SeC) (q : Rat) (ss : List Sk) (s : ByteArray) (hl : ss.length ≤ 1152921504606846976) : evFn (LqE C (sealW7 C)) af_hollowtreelaw17_RatchetSeals [.agg (q.segs (sl65 0 ss.length)), .str s] ⟨16, [roC 0 (.rows 65 ss.length (ss.map skR))]⟩ kV = yes true := by
  refine (seals_run1 ..).trans ?_
  rw [cut7_rows, wS7_rows hl]
  have rest : ∀ v b, lqRest C q ss.length (ss.map skR) s v b = (bif !(checkI q ss == 0) then endB b (v.err == 270) else bif decide (((s.size : Nat) : Int) < 1) then endB b (v.err == 2) else bif decide (((s.size : Nat) : Int) > 48) then endB b (v.err == 2) else
    bif q.sent == 2147483648 then endB b (v.err == 3) else bif !(!((q.send == hz32) && true)) then endB b (v.err == 3) else lqFin C q ss.length (ss.map skR) s v) := fun v b => by
    rw [lqRest, cut7_rows, wS7_rows hl]
    rfl
  cases h1 : checkI q ss != 0
  · have h1' : (checkI q ss == 0) = true := by
      simp only [bne_eq_false_iff_eq] at h1
      simp [h1]
    cases h2 : decide (((s.size : Nat) : Int) < 1)
    · cases h3 : decide (((s.size : Nat) : Int) > 48)
      · cases h4 : q.sent == 2147483648
        · cases h5 : (q.send == hz32) && true
          · have hv : sealW7 C q ss s = ⟨sealRat C q, ss, sealMsg C q s, 0⟩ := by simp only [sealW7, h1, h2, h3, h4, h5, cond_false]
            have hf : ∀ b, lqRest C q ss.length (ss.map skR) s ⟨sealRat C q, ss, sealMsg C q s, 0⟩ b = yes true := fun b => by
              rw [rest, h1', h2, h3, h4, h5]
              simp only [Bool.not_true, Bool.not_false, cond_false]
              have := of_decide_eq_false h3
              rw [lqFin, if_pos (by omega)]
              show (bif (0 : Int) == 0 then (wS7 (ss.map skR) fun s3 => wS7 (cut7 ss.length (ss.map skR)) fun s4 => bif sameB (sealRat C q) (sealRat C q) s3 s4 then yes (msgEq7 (sealMsg C q s) (sealMsg C q s)) else yes false) else yes false) = yes true
              rw [wS7_rows hl, cut7_rows, wS7_rows hl, same7, msg7_self]
              rfl
            rw [hv]
            show (wS7 (ss.map skR) fun s1 => bif sameB (sealRat C q) nRatS s1 [] then lqRest C q ss.length (ss.map skR) s ⟨sealRat C q, ss, sealMsg C q s, 0⟩ (msgEq7 (sealMsg C q s) zMsg7) else lqRest C q ss.length (ss.map skR) s ⟨sealRat C q, ss, sealMsg C q s, 0⟩ false) = _
            rw [wS7_rows hl, hf, hf]
            cases sameB (sealRat C q) nRatS ss [] <;> rfl
          · have hv : sealW7 C q ss s = ⟨nRatS, [], zMsg7,3⟩ := by simp only [sealW7, h1, h2, h3, h4, h5, cond_false, cond_true]
            refine lqErr C q ss s hl hv ?_
            rw [rest, h1', h2, h3, h4, h5]
            rfl
        · have hv : sealW7 C q ss s = ⟨nRatS, [], zMsg7,3⟩ := by simp only [sealW7, h1, h2, h3, h4, cond_false, cond_true]
          refine lqErr C q ss s hl hv ?_
          rw [rest, h1', h2, h3, h4]
          rfl
      · have hv : sealW7 C q ss s = ⟨nRatS, [], zMsg7,2⟩ := by simp only [sealW7, h1, h2, h3, cond_false, cond_true]
        refine lqErr C q ss s hl hv ?_
        rw [rest, h1', h2, h3]
        rfl
    · have hv : sealW7 C q ss s = ⟨nRatS, [], zMsg7,2⟩ := by simp only [sealW7, h1, h2, cond_false, cond_true]
      refine lqErr C q ss s hl hv ?_
      rw [rest, h1', h2]
      rfl
  · have h1' : (checkI q ss == 0) = false := by
      simp only [bne_iff_ne, ne_eq] at h1
      simp [h1]
    have hv : sealW7 C q ss s = ⟨nRatS, [], zMsg7,270⟩ := by simp only [sealW7, h1, cond_true]
    refine lqErr C q ss s hl hv ?_
    rw [rest, h1']
    rfl
def seC : SeC := ⟨xI, fun k => fixL 32 (hmI k [2]), fun k => fixL 32 (hmI k [1]), sealN⟩
def qPe : Env := envAdd id_curve_X (.pure (keyXV xI)) G10
def qXe : Env := envAdd id_chacha_Block (.pure (blockV blockL)) G10
def qXr : Env := envAdd id_hollowtreeref06_Block (.pure (blockV blockL)) G10
def qT0 : Env := envAdd id_poly_Clamp (.pure (cl16V clampI)) (envAdd id_poly_of (.pure (ofV ofP)) X_octet_Put64)
def qT1 : Env := envAdd id_poly_New (inl qT0 af_poly_New) qT0
def qT2 : Env := envAdd id_poly_limbs_step (.pure (tri5V stepL5)) qT1
def qT3 : Env := envAdd id_poly_Code_Write (objW qT2 af_poly_Code_Write) qT2
def qT4 : Env := envAdd id_poly_Code_Tag (.pure (tagOV tagL5)) qT3
def qT5 : Env := envAdd id_aead_Tag_1 (inl qT4 af_aead_Tag_1) qT4
def qT6 : Env := envAdd id_chacha_Block (.pure (blockV blockL)) qT5
def qAe : Env := envAdd id_chacha_Xor (.pure (xorV xorN)) (envAdd id_aead_Tag (.pure (aTagV tagN)) G10)
def qRt : Env := envAdd id_hollowtreeref06_Block (.pure (blockV blockL)) (envAdd id_hollowtreeref08_filled (pin G10 af_hollowtreeref08_filled) (envAdd id_hollowtreeref08_eight (pin G10 af_hollowtreeref08_eight) (envAdd id_hollowtreeref07_Mac (.pure (macQ macN)) G10)))
def qRs : Env := envAdd id_hollowtreeref06_Xor (.pure (xorVR xorN)) (envAdd id_hollowtreeref08_Tag (.pure (aTagV tagN)) G10)
def qIe : Env := envAdd id_ratchet_Check (.full checkC) (envAdd id_slices_Clone_api_Skip (.full cloneRC) (envAdd id_curve_Public (.pure (pubQ (pubX xI))) (envAdd id_kdf_Step (.pure (stepQ seC.stA seC.stB)) (envAdd id_aead_Seal (.pure (aSealV sealN)) (envAdd id_aead_Count (.pure cntO) (envAdd id_frame_PutHeader (.pure hdrO) (envAdd id_ratchet_text (.pure textO) (envAdd id_ratchet_none (.pure noneKO) G10))))))))
def qJe : Env := envAdd id_hollowtreeref03_X (.pure (keyXV xI)) (envAdd id_hollowtreeref05_Step (.pure (stepQ seC.stA seC.stB)) (envAdd id_hollowtreeref17_Header (.pure hdrRO) (envAdd id_hollowtreeref17_Body (.pure bodyRO) (envAdd id_hollowtreeref08_Seal (.pure (aSealV sealN)) G10))))
def qLe : Env := envAdd id_hollowtreelaw17_wakes (.full wakesTC) (envAdd id_ratchet_Seal (.full (sealUC7 (sealW7 seC))) (envAdd id_hollowtreeref17_Same (.full rsameC) (envAdd id_hollowtreeref17_Right (.full rightC) (envAdd id_hollowtreeref17_There (.pure thereO) (envAdd id_hollowtreeref17_Seal (.full (sealRC seC)) G10)))))
section
variable {P : Program} {f : FuncId}
theorem pub_ok7 (F : Fn P f qPe af_curve_Public) : PureOk P f (pubQ (pubX xI)) := by
  refine F.plain fun nid args hp r ha hr => ?_
  unfold pubQ at hr
  split at hr <;> try (cases hr; done)
  cases hr
  obtain ⟨⟨⟨hl, _⟩, _⟩, _⟩ := ha
  obtain ⟨g, rfl⟩ := tab_of hl
  exact ⟨rfl, rfl, rfl, pub7_run xI g⟩
theorem stepQ_of {Γ : Env} {af : AFn} (F : Fn P f Γ af) {A B : M1} (h : ∀ g : Nat → Int, evFn Γ af [key (tab 32 g)] ⟨16, []⟩ kV = some (.tuple [key (A (tab 32 g)), key (B (tab 32 g))], ⟨0, []⟩)) : PureOk P f (stepQ A B) := by
  refine F.plain fun nid args hp r ha hr => ?_
  unfold stepQ at hr
  split at hr <;> try (cases hr; done)
  cases hr
  obtain ⟨⟨⟨hl, _⟩, _⟩, _⟩ := ha
  obtain ⟨g, rfl⟩ := tab_of hl
  exact ⟨rfl, rfl, rfl, h g⟩
theorem step_ok7 (F : Fn P f iMe af_kdf_Step) : PureOk P f (stepQ seC.stA seC.stB) := stepQ_of F fun g => istep_run hmI g
theorem rstep_ok7 (F : Fn P f rMe af_hollowtreeref05_Step) : PureOk P f (stepQ seC.stA seC.stB) := stepQ_of F fun g => stepR_run hmI g
theorem xor_ok7 (F : Fn P f qXe af_chacha_Xor) : PureOk P f (xorV xorN) := xorI_pure F
theorem rxor_ok7 (F : Fn P f qXr af_hollowtreeref06_Xor) : PureOk P f (xorVR xorN) := xorR_pure F
theorem tag_ok7 (F : Fn P f qT6 af_aead_Tag) : PureOk P f (aTagV tagN) := tagI_pure F
theorem rtag_ok7 (F : Fn P f qRt af_hollowtreeref08_Tag) : PureOk P f (aTagV tagN) := tagR_pure F
theorem aseal_ok7 (F : Fn P f qAe af_aead_Seal) : PureOk P f (aSealV sealN) := sealI_pure F
theorem raseal_ok7 (F : Fn P f qRs af_hollowtreeref08_Seal) : PureOk P f (aSealV sealN) := sealR_pure F
theorem iseal_ok7 (F : Fn P f qIe af_ratchet_Seal) : FullOk P f (sealUC7 (sealW7 seC)) := sealU7_full (sealU7_pure (seal7_pure (C := seC) F))
theorem rseal_ok7 (F : Fn P f qJe afSealR) : FullOk P f (sealRC seC) := sealR_full (sealR_back (C := seC) F)
end
theorem seals_run2 (q : Rat) (ss : List Sk) (s : ByteArray) (hl : ss.length ≤ 1152921504606846976) : evFn qLe af_hollowtreelaw17_RatchetSeals [.agg (q.segs (sl65 0 ss.length)), .str s] ⟨16, [roC 0 (.rows 65 ss.length (ss.map skR))]⟩ kV = yes true := seals_run seC q ss s hl
open Go.Proofs
set_option maxRecDepth 100000
theorem moZ : Tryz.prog.follows .mixedOrders = true := by kernel_rfl
theorem VAL.one {ι : Inj} {v : AV} {x : Value} (h : VA ι v x) : VAL ι [v] [x] := ⟨rfl, fun i u hu => by
  cases i with
  | zero => simp only [List.getElem?_cons_zero, Option.some.injEq] at hu; subst hu; exact ⟨x, rfl, h⟩
  | succ i => simp at hu⟩
theorem VAL.cons {ι : Inj} {v : AV} {x : Value} {l : List AV} {r : List Value} (h : VA ι v x) (k : VAL ι l r) : VAL ι (v :: l) (x :: r) := ⟨by simp [k.1], fun i u hu => by
  cases i with
  | zero => simp only [List.getElem?_cons_zero, Option.some.injEq] at hu; subst hu; exact ⟨x, rfl, h⟩
  | succ i => exact k.2 i u (by simpa using hu)⟩
theorem add64_full : FullOk Tryz.prog id_math_bits_Add64 add64o where
  factor := fun args h κ => by
    unfold add64o
    split
    · split <;> rfl
    · rfl
  sound := fun args h v h' ι w vs hk R hf ha => by
    unfold add64o at hk
    split at hk <;> try (cases hk; done)
    rename_i x y c
    split at hk <;> try (cases hk; done)
    rename_i hc
    simp only [kH, Option.some.injEq, Prod.mk.injEq] at hk
    obtain ⟨rfl, rfl⟩ := hk
    obtain ⟨v1, r1, e1, h1, k1⟩ := ha.uncons
    obtain ⟨v2, r2, rfl, h2, k2⟩ := k1.uncons
    obtain ⟨v3, r3, rfl, h3, k3⟩ := k2.uncons
    have : r3 = [] := List.eq_nil_of_length_eq_zero k3.1.symm
    subst this
    obtain ⟨rfl, g1⟩ := (show v1 = .int .u64 x ∧ rng .u64 x from h1)
    obtain ⟨rfl, g2⟩ := (show v2 = .int .u64 y ∧ rng .u64 y from h2)
    obtain ⟨rfl, g3⟩ := (show v3 = .int .u64 c ∧ rng .u64 c from h3)
    have hv : vs = #[.int .u64 x, .int .u64 y, .int .u64 c] := by
      cases vs; simp only at e1; rw [e1]
    subst hv
    have b1 := g1 rfl
    have b2 := g2 rfl
    have b3 := g3 rfl
    simp only [IntKind.bits] at b1 b2 b3
    have q1 : rng .u64 ((x + y + c) % 18446744073709551616) := fun _ => by simp only [IntKind.bits]; omega
    have q2 : rng .u64 ((x + y + c) / 18446744073709551616) := fun _ => by simp only [IntKind.bits]; omega
    refine .inl ⟨_, w, (run_callFunc_extern (P := Tryz.prog) (f := id_math_bits_Add64) (e := add64Entry) Tryz.func157 (by kernel_rfl) (by kernel_rfl) (by kernel_rfl) (by kernel_rfl) _ w).trans (by rw [run_add64 x y c b1.1 b2.1 b3.1 hc]; rfl), ι, ⟨_, rfl, VAL.cons (show VA ι (.int .u64 _) _ from ⟨rfl, q1⟩) (.one (show VA ι (.int .u64 _) _ from ⟨rfl, q2⟩))⟩, R, .refl _ _ _, .refl _ _⟩
open Go.Proofs
set_option maxRecDepth 100000
section
variable {Γ : Env} (h : EnvOk Tryz.prog Γ)
include h
theorem fz_aead_Count : Fn Tryz.prog id_aead_Count Γ af_aead_Count := Fn.of h moZ Tryz.func30 (by kernel_rfl)
theorem fz_aead_Open : Fn Tryz.prog id_aead_Open Γ af_aead_Open := Fn.of h moZ Tryz.func95 (by kernel_rfl)
theorem fz_aead_Seal : Fn Tryz.prog id_aead_Seal Γ af_aead_Seal := Fn.of h moZ Tryz.func29 (by kernel_rfl)
theorem fz_aead_Tag : Fn Tryz.prog id_aead_Tag Γ af_aead_Tag := Fn.of h moZ Tryz.func70 (by kernel_rfl)
theorem fz_chacha_Quarter : Fn Tryz.prog id_chacha_Quarter Γ af_chacha_Quarter := Fn.of h moZ Tryz.func139 (by kernel_rfl)
theorem fz_chacha_Xor : Fn Tryz.prog id_chacha_Xor Γ af_chacha_Xor := Fn.of h moZ Tryz.func69 (by kernel_rfl)
theorem fz_chacha_state : Fn Tryz.prog id_chacha_state Γ af_chacha_state := Fn.of h moZ Tryz.func137 (by kernel_rfl)
theorem fz_curve_Agree : Fn Tryz.prog id_curve_Agree Γ af_curve_Agree := Fn.of h moZ Tryz.func93 (by kernel_rfl)
theorem fz_curve_Clamp : Fn Tryz.prog id_curve_Clamp Γ af_curve_Clamp := Fn.of h moZ Tryz.func97 (by kernel_rfl)
theorem fz_curve_Low : Fn Tryz.prog id_curve_Low Γ af_curve_Low := Fn.of h moZ Tryz.func40 (by kernel_rfl)
theorem fz_curve_Public : Fn Tryz.prog id_curve_Public Γ af_curve_Public := Fn.of h moZ Tryz.func27 (by kernel_rfl)
theorem fz_field_Elem_Add : Fn Tryz.prog id_field_Elem_Add Γ af_field_Elem_Add := Fn.of h moZ Tryz.func126 (by kernel_rfl)
theorem fz_field_Elem_Bytes : Fn Tryz.prog id_field_Elem_Bytes Γ af_field_Elem_Bytes := Fn.of h moZ Tryz.func103 (by kernel_rfl)
theorem fz_field_Elem_Inv : Fn Tryz.prog id_field_Elem_Inv Γ af_field_Elem_Inv := Fn.of h moZ Tryz.func102 (by kernel_rfl)
theorem fz_field_Elem_Mul : Fn Tryz.prog id_field_Elem_Mul Γ af_field_Elem_Mul := Fn.of h moZ Tryz.func101 (by kernel_rfl)
theorem fz_field_Elem_Neg : Fn Tryz.prog id_field_Elem_Neg Γ af_field_Elem_Neg := Fn.of h moZ Tryz.func130 (by kernel_rfl)
theorem fz_field_Elem_Power : Fn Tryz.prog id_field_Elem_Power Γ af_field_Elem_Power := Fn.of h moZ Tryz.func131 (by kernel_rfl)
theorem fz_field_Elem_Same : Fn Tryz.prog id_field_Elem_Same Γ af_field_Elem_Same := Fn.of h moZ Tryz.func81 (by kernel_rfl)
theorem fz_field_Elem_Square : Fn Tryz.prog id_field_Elem_Square Γ af_field_Elem_Square := Fn.of h moZ Tryz.func124 (by kernel_rfl)
theorem fz_field_Elem_Sub : Fn Tryz.prog id_field_Elem_Sub Γ af_field_Elem_Sub := Fn.of h moZ Tryz.func125 (by kernel_rfl)
theorem fz_field_Elem_Times : Fn Tryz.prog id_field_Elem_Times Γ af_field_Elem_Times := Fn.of h moZ Tryz.func127 (by kernel_rfl)
theorem fz_field_Elem_carry : Fn Tryz.prog id_field_Elem_carry Γ af_field_Elem_carry := Fn.of h moZ Tryz.func132 (by kernel_rfl)
theorem fz_field_From : Fn Tryz.prog id_field_From Γ af_field_From := Fn.of h moZ Tryz.func80 (by kernel_rfl)
theorem fz_field_Of : Fn Tryz.prog id_field_Of Γ af_field_Of := Fn.of h moZ Tryz.func98 (by kernel_rfl)
theorem fz_field_Swap : Fn Tryz.prog id_field_Swap Γ af_field_Swap := Fn.of h moZ Tryz.func122 (by kernel_rfl)
theorem fz_field_folded : Fn Tryz.prog id_field_folded Γ af_field_folded := Fn.of h moZ Tryz.func128 (by kernel_rfl)
theorem fz_field_wide_plus : Fn Tryz.prog id_field_wide_plus Γ af_field_wide_plus := Fn.of h moZ Tryz.func129 (by kernel_rfl)
theorem fz_field_word : Fn Tryz.prog id_field_word Γ af_field_word := Fn.of h moZ Tryz.func120 (by kernel_rfl)
theorem fz_frame_PutHeader : Fn Tryz.prog id_frame_PutHeader Γ af_frame_PutHeader := Fn.of h moZ Tryz.func31 (by kernel_rfl)
theorem fz_hollowtreelaw17_begun : Fn Tryz.prog id_hollowtreelaw17_begun Γ af_hollowtreelaw17_begun := Fn.of h moZ Tryz.func24 (by kernel_rfl)
theorem fz_hollowtreelaw17_wakes : Fn Tryz.prog id_hollowtreelaw17_wakes Γ af_hollowtreelaw17_wakes := Fn.of h moZ Tryz.func7 (by kernel_rfl)
theorem fz_hollowtreeref01_Both : Fn Tryz.prog id_hollowtreeref01_Both Γ af_hollowtreeref01_Both := Fn.of h moZ Tryz.func54 (by kernel_rfl)
theorem fz_hollowtreeref01_Low : Fn Tryz.prog id_hollowtreeref01_Low Γ af_hollowtreeref01_Low := Fn.of h moZ Tryz.func55 (by kernel_rfl)
theorem fz_hollowtreeref03_Clamp : Fn Tryz.prog id_hollowtreeref03_Clamp Γ af_hollowtreeref03_Clamp := Fn.of h moZ Tryz.func72 (by kernel_rfl)
theorem fz_hollowtreeref03_From : Fn Tryz.prog id_hollowtreeref03_From Γ af_hollowtreeref03_From := Fn.of h moZ Tryz.func44 (by kernel_rfl)
theorem fz_hollowtreeref03_Num_Add : Fn Tryz.prog id_hollowtreeref03_Num_Add Γ af_hollowtreeref03_Num_Add := Fn.of h moZ Tryz.func73 (by kernel_rfl)
theorem fz_hollowtreeref03_Num_Small : Fn Tryz.prog id_hollowtreeref03_Num_Small Γ af_hollowtreeref03_Num_Small := Fn.of h moZ Tryz.func75 (by kernel_rfl)
theorem fz_hollowtreeref03_Num_Sub : Fn Tryz.prog id_hollowtreeref03_Num_Sub Γ af_hollowtreeref03_Num_Sub := Fn.of h moZ Tryz.func46 (by kernel_rfl)
theorem fz_hollowtreeref03_fold : Fn Tryz.prog id_hollowtreeref03_fold Γ af_hollowtreeref03_fold := Fn.of h moZ Tryz.func114 (by kernel_rfl)
theorem fz_hollowtreeref04_Pad : Fn Tryz.prog id_hollowtreeref04_Pad Γ af_hollowtreeref04_Pad := Fn.of h moZ Tryz.func145 (by kernel_rfl)
theorem fz_hollowtreeref04_begin : Fn Tryz.prog id_hollowtreeref04_begin Γ af_hollowtreeref04_begin := Fn.of h moZ Tryz.func146 (by kernel_rfl)
theorem fz_hollowtreeref04_constants : Fn Tryz.prog id_hollowtreeref04_constants Γ af_hollowtreeref04_constants := Fn.of h moZ Tryz.func144 (by kernel_rfl)
theorem fz_hollowtreeref04_right : Fn Tryz.prog id_hollowtreeref04_right Γ af_hollowtreeref04_right := Fn.of h moZ Tryz.func147 (by kernel_rfl)
theorem fz_hollowtreeref05_Hmac : Fn Tryz.prog id_hollowtreeref05_Hmac Γ af_hollowtreeref05_Hmac := Fn.of h moZ Tryz.func77 (by kernel_rfl)
theorem fz_hollowtreeref05_Step : Fn Tryz.prog id_hollowtreeref05_Step Γ af_hollowtreeref05_Step := Fn.of h moZ Tryz.func36 (by kernel_rfl)
theorem fz_hollowtreeref06_Quarter : Fn Tryz.prog id_hollowtreeref06_Quarter Γ af_hollowtreeref06_Quarter := Fn.of h moZ Tryz.func150 (by kernel_rfl)
theorem fz_hollowtreeref06_Xor : Fn Tryz.prog id_hollowtreeref06_Xor Γ af_hollowtreeref06_Xor := Fn.of h moZ Tryz.func78 (by kernel_rfl)
theorem fz_hollowtreeref06_left : Fn Tryz.prog id_hollowtreeref06_left Γ af_hollowtreeref06_left := Fn.of h moZ Tryz.func162 (by kernel_rfl)
theorem fz_hollowtreeref06_places : Fn Tryz.prog id_hollowtreeref06_places Γ af_hollowtreeref06_places := Fn.of h moZ Tryz.func149 (by kernel_rfl)
theorem fz_hollowtreeref06_word : Fn Tryz.prog id_hollowtreeref06_word Γ af_hollowtreeref06_word := Fn.of h moZ Tryz.func148 (by kernel_rfl)
theorem fz_hollowtreeref07_Clamp : Fn Tryz.prog id_hollowtreeref07_Clamp Γ af_hollowtreeref07_Clamp := Fn.of h moZ Tryz.func151 (by kernel_rfl)
theorem fz_hollowtreeref07_Mac : Fn Tryz.prog id_hollowtreeref07_Mac Γ af_hollowtreeref07_Mac := Fn.of h moZ Tryz.func119 (by kernel_rfl)
theorem fz_hollowtreeref07_at : Fn Tryz.prog id_hollowtreeref07_at Γ af_hollowtreeref07_at := Fn.of h moZ Tryz.func156 (by kernel_rfl)
theorem fz_hollowtreeref07_row : Fn Tryz.prog id_hollowtreeref07_row Γ af_hollowtreeref07_row := Fn.of h moZ Tryz.func152 (by kernel_rfl)
theorem fz_hollowtreeref08_Seal : Fn Tryz.prog id_hollowtreeref08_Seal Γ af_hollowtreeref08_Seal := Fn.of h moZ Tryz.func37 (by kernel_rfl)
theorem fz_hollowtreeref08_Tag : Fn Tryz.prog id_hollowtreeref08_Tag Γ af_hollowtreeref08_Tag := Fn.of h moZ Tryz.func79 (by kernel_rfl)
theorem fz_hollowtreeref08_eight : Fn Tryz.prog id_hollowtreeref08_eight Γ af_hollowtreeref08_eight := Fn.of h moZ Tryz.func118 (by kernel_rfl)
theorem fz_hollowtreeref08_filled : Fn Tryz.prog id_hollowtreeref08_filled Γ af_hollowtreeref08_filled := Fn.of h moZ Tryz.func117 (by kernel_rfl)
theorem fz_hollowtreeref17_Header : Fn Tryz.prog id_hollowtreeref17_Header Γ af_hollowtreeref17_Header := Fn.of h moZ Tryz.func38 (by kernel_rfl)
theorem fz_hollowtreeref17_There : Fn Tryz.prog id_hollowtreeref17_There Γ af_hollowtreeref17_There := Fn.of h moZ Tryz.func11 (by kernel_rfl)
theorem fz_ident_Less : Fn Tryz.prog id_ident_Less Γ af_ident_Less := Fn.of h moZ Tryz.func94 (by kernel_rfl)
theorem fz_ident_Pair : Fn Tryz.prog id_ident_Pair Γ af_ident_Pair := Fn.of h moZ Tryz.func61 (by kernel_rfl)
theorem fz_kdf_Derive : Fn Tryz.prog id_kdf_Derive Γ af_kdf_Derive := Fn.of h moZ Tryz.func42 (by kernel_rfl)
theorem fz_kdf_Expand : Fn Tryz.prog id_kdf_Expand Γ af_kdf_Expand := Fn.of h moZ Tryz.func82 (by kernel_rfl)
theorem fz_kdf_Hmac : Fn Tryz.prog id_kdf_Hmac Γ af_kdf_Hmac := Fn.of h moZ Tryz.func68 (by kernel_rfl)
theorem fz_kdf_Step : Fn Tryz.prog id_kdf_Step Γ af_kdf_Step := Fn.of h moZ Tryz.func28 (by kernel_rfl)
theorem fz_kdf_Two : Fn Tryz.prog id_kdf_Two Γ af_kdf_Two := Fn.of h moZ Tryz.func41 (by kernel_rfl)
theorem fz_kdf_info : Fn Tryz.prog id_kdf_info Γ af_kdf_info := Fn.of h moZ Tryz.func83 (by kernel_rfl)
theorem fz_math_bits_Mul64 : Fn Tryz.prog id_math_bits_Mul64 Γ af_math_bits_Mul64 := Fn.of h moZ Tryz.func158 (by kernel_rfl)
theorem fz_octet_Equal : Fn Tryz.prog id_octet_Equal Γ af_octet_Equal := Fn.of h moZ Tryz.func23 (by kernel_rfl)
theorem fz_octet_Get64 : Fn Tryz.prog id_octet_Get64 Γ af_octet_Get64 := Fn.of h moZ Tryz.func91 (by kernel_rfl)
theorem fz_octet_Put32 : Fn Tryz.prog id_octet_Put32 Γ af_octet_Put32 := Fn.of h moZ Tryz.func53 (by kernel_rfl)
theorem fz_octet_Put64 : Fn Tryz.prog id_octet_Put64 Γ af_octet_Put64 := Fn.of h moZ Tryz.func71 (by kernel_rfl)
theorem fz_octet_Zero : Fn Tryz.prog id_octet_Zero Γ af_octet_Zero := Fn.of h moZ Tryz.func121 (by kernel_rfl)
theorem fz_octet_put : Fn Tryz.prog id_octet_put Γ af_octet_put := Fn.of h moZ Tryz.func89 (by kernel_rfl)
theorem fz_poly_Clamp : Fn Tryz.prog id_poly_Clamp Γ af_poly_Clamp := Fn.of h moZ Tryz.func140 (by kernel_rfl)
theorem fz_poly_Code_Tag : Fn Tryz.prog id_poly_Code_Tag Γ af_poly_Code_Tag := Fn.of h moZ Tryz.func113 (by kernel_rfl)
theorem fz_poly_Code_Write : Fn Tryz.prog id_poly_Code_Write Γ af_poly_Code_Write := Fn.of h moZ Tryz.func112 (by kernel_rfl)
theorem fz_poly_limbs_carry : Fn Tryz.prog id_poly_limbs_carry Γ af_poly_limbs_carry := Fn.of h moZ Tryz.func161 (by kernel_rfl)
theorem fz_poly_limbs_step : Fn Tryz.prog id_poly_limbs_step Γ af_poly_limbs_step := Fn.of h moZ Tryz.func142 (by kernel_rfl)
theorem fz_poly_limbs_whole : Fn Tryz.prog id_poly_limbs_whole Γ af_poly_limbs_whole := Fn.of h moZ Tryz.func143 (by kernel_rfl)
theorem fz_poly_of : Fn Tryz.prog id_poly_of Γ af_poly_of := Fn.of h moZ Tryz.func141 (by kernel_rfl)
theorem fz_ratchet_Check : Fn Tryz.prog id_ratchet_Check Γ af_ratchet_Check := Fn.of h moZ Tryz.func17 (by kernel_rfl)
theorem fz_ratchet_Open : Fn Tryz.prog id_ratchet_Open Γ af_ratchet_Open := Fn.of h moZ Tryz.func25 (by kernel_rfl)
theorem fz_ratchet_Seal : Fn Tryz.prog id_ratchet_Seal Γ af_ratchet_Seal := Fn.of h moZ Tryz.func8 (by kernel_rfl)
theorem fz_ratchet_Start : Fn Tryz.prog id_ratchet_Start Γ af_ratchet_Start := Fn.of h moZ Tryz.func13 (by kernel_rfl)
theorem fz_ratchet_find : Fn Tryz.prog id_ratchet_find Γ af_ratchet_find := Fn.of h moZ Tryz.func52 (by kernel_rfl)
theorem fz_ratchet_none : Fn Tryz.prog id_ratchet_none Γ af_ratchet_none := Fn.of h moZ Tryz.func26 (by kernel_rfl)
theorem fz_ratchet_open : Fn Tryz.prog id_ratchet_open Γ af_ratchet_open := Fn.of h moZ Tryz.func63 (by kernel_rfl)
theorem fz_ratchet_read : Fn Tryz.prog id_ratchet_read Γ af_ratchet_read := Fn.of h moZ Tryz.func96 (by kernel_rfl)
theorem fz_ratchet_text : Fn Tryz.prog id_ratchet_text Γ af_ratchet_text := Fn.of h moZ Tryz.func32 (by kernel_rfl)
theorem fz_ratchet_turn : Fn Tryz.prog id_ratchet_turn Γ af_ratchet_turn := Fn.of h moZ Tryz.func43 (by kernel_rfl)
theorem fz_sha_New : Fn Tryz.prog id_sha_New Γ af_sha_New := Fn.of h moZ Tryz.func106 (by kernel_rfl)
theorem fz_sha_Pad : Fn Tryz.prog id_sha_Pad Γ af_sha_Pad := Fn.of h moZ Tryz.func136 (by kernel_rfl)
theorem fz_sha_turn : Fn Tryz.prog id_sha_turn Γ af_sha_turn := Fn.of h moZ Tryz.func165 (by kernel_rfl)
theorem fz_slices_Clone_api_Skip : Fn Tryz.prog id_slices_Clone_api_Skip Γ af_slices_Clone_api_Skip := Fn.of h moZ Tryz.func33 (by kernel_rfl)
theorem fz_slices_Clone_byte : Fn Tryz.prog id_slices_Clone_byte Γ af_slices_Clone_byte := Fn.of h moZ Tryz.func90 (by kernel_rfl)
theorem fzA_chacha_Block_afBlock : Fn Tryz.prog id_chacha_Block Γ afBlock := Fn.of h moZ Tryz.func109 (by kernel_rfl)
theorem fzA_curve_X_afX : Fn Tryz.prog id_curve_X Γ afX := Fn.of h moZ Tryz.func67 (by kernel_rfl)
theorem fzA_hollowtreeref03_Num_Bytes_afBytes3 : Fn Tryz.prog id_hollowtreeref03_Num_Bytes Γ afBytes3 := Fn.of h moZ Tryz.func45 (by kernel_rfl)
theorem fzA_hollowtreeref03_Num_Inv_afInv : Fn Tryz.prog id_hollowtreeref03_Num_Inv Γ afInv := Fn.of h moZ Tryz.func76 (by kernel_rfl)
theorem fzA_hollowtreeref03_Num_Mul_afMul : Fn Tryz.prog id_hollowtreeref03_Num_Mul Γ afMul := Fn.of h moZ Tryz.func74 (by kernel_rfl)
theorem fzA_hollowtreeref03_Num_carry_afCarry : Fn Tryz.prog id_hollowtreeref03_Num_carry Γ afCarry := Fn.of h moZ Tryz.func84 (by kernel_rfl)
theorem fzA_hollowtreeref03_X_afX03 : Fn Tryz.prog id_hollowtreeref03_X Γ afX03 := Fn.of h moZ Tryz.func35 (by kernel_rfl)
theorem fzA_hollowtreeref04_Sum_afSum : Fn Tryz.prog id_hollowtreeref04_Sum Γ afSum := Fn.of h moZ Tryz.func115 (by kernel_rfl)
theorem fzA_hollowtreeref06_Block_afBlockR : Fn Tryz.prog id_hollowtreeref06_Block Γ afBlockR := Fn.of h moZ Tryz.func116 (by kernel_rfl)
theorem fzA_hollowtreeref07_high_afHigh : Fn Tryz.prog id_hollowtreeref07_high Γ afHigh := Fn.of h moZ Tryz.func163 (by kernel_rfl)
theorem fzA_hollowtreeref07_plus_afPlus : Fn Tryz.prog id_hollowtreeref07_plus Γ afPlus := Fn.of h moZ Tryz.func155 (by kernel_rfl)
theorem fzA_hollowtreeref07_rest_afRestM : Fn Tryz.prog id_hollowtreeref07_rest Γ afRestM := Fn.of h moZ Tryz.func153 (by kernel_rfl)
theorem fzA_hollowtreeref07_some_afSome : Fn Tryz.prog id_hollowtreeref07_some Γ afSome := Fn.of h moZ Tryz.func164 (by kernel_rfl)
theorem fzA_hollowtreeref07_times_afTimes : Fn Tryz.prog id_hollowtreeref07_times Γ afTimes := Fn.of h moZ Tryz.func154 (by kernel_rfl)
theorem fzA_hollowtreeref17_Body_afBody : Fn Tryz.prog id_hollowtreeref17_Body Γ afBody := Fn.of h moZ Tryz.func39 (by kernel_rfl)
theorem fzA_hollowtreeref17_Find_afRFind : Fn Tryz.prog id_hollowtreeref17_Find Γ afRFind := Fn.of h moZ Tryz.func34 (by kernel_rfl)
theorem fzA_hollowtreeref17_Right_afRight : Fn Tryz.prog id_hollowtreeref17_Right Γ afRight := Fn.of h moZ Tryz.func10 (by kernel_rfl)
theorem fzA_hollowtreeref17_Same_afRq : Fn Tryz.prog id_hollowtreeref17_Same Γ afRq := Fn.of h moZ Tryz.func9 (by kernel_rfl)
theorem fzA_hollowtreeref17_Seal_afSealR : Fn Tryz.prog id_hollowtreeref17_Seal Γ afSealR := Fn.of h moZ Tryz.func12 (by kernel_rfl)
theorem fzA_ratchet_Check_afCheck : Fn Tryz.prog id_ratchet_Check Γ afCheck := Fn.of h moZ Tryz.func17 (by kernel_rfl)
theorem fzA_sha_Hash_step_afStepOf_a : Fn Tryz.prog id_sha_Hash_step Γ (afStepOf sCn1a) := Fn.of h moZ Tryz.func159 (by kernel_rfl)
theorem fzA_sha_Hash_step_afStepOf_b : Fn Tryz.prog id_sha_Hash_step Γ (afStepOf sCn1b) := Fn.of h moZ Tryz.func159 (by kernel_rfl)
theorem fzA_sha_words_afWords : Fn Tryz.prog id_sha_words Γ afWords := Fn.of h moZ Tryz.func134 (by kernel_rfl)
theorem fzA_slices_IndexFunc_api_Skip_afIdx : Fn Tryz.prog id_slices_IndexFunc_api_Skip Γ afIdx := Fn.of h moZ Tryz.func87 (by kernel_rfl)
theorem iz_aead_Tag_1 : FullOk Tryz.prog id_aead_Tag_1 fun args h κ => evFn Γ af_aead_Tag_1 args h κ := evFn_full h moZ Tryz.func111 (by kernel_rfl) (by kernel_rfl)
theorem iz_chacha_Block_1 : FullOk Tryz.prog id_chacha_Block_1 fun args h κ => evFn Γ af_chacha_Block_1 args h κ := evFn_full h moZ Tryz.func138 (by kernel_rfl) (by kernel_rfl)
theorem iz_chacha_read : FullOk Tryz.prog id_chacha_read fun args h κ => evFn Γ af_chacha_read args h κ := evFn_full h moZ Tryz.func160 (by kernel_rfl) (by kernel_rfl)
theorem iz_curve_ladder_step : FullOk Tryz.prog id_curve_ladder_step fun args h κ => evFn Γ af_curve_ladder_step args h κ := evFn_full h moZ Tryz.func100 (by kernel_rfl) (by kernel_rfl)
theorem iz_curve_ladder_sums : FullOk Tryz.prog id_curve_ladder_sums fun args h κ => evFn Γ af_curve_ladder_sums args h κ := evFn_full h moZ Tryz.func123 (by kernel_rfl) (by kernel_rfl)
theorem iz_curve_ladder_swap : FullOk Tryz.prog id_curve_ladder_swap fun args h κ => evFn Γ af_curve_ladder_swap args h κ := evFn_full h moZ Tryz.func99 (by kernel_rfl) (by kernel_rfl)
theorem iz_kdf_Hmac_1 : FullOk Tryz.prog id_kdf_Hmac_1 fun args h κ => evFn Γ af_kdf_Hmac_1 args h κ := evFn_full h moZ Tryz.func105 (by kernel_rfl) (by kernel_rfl)
theorem iz_poly_Code_Tag : FullOk Tryz.prog id_poly_Code_Tag fun args h κ => evFn Γ af_poly_Code_Tag args h κ := evFn_full h moZ Tryz.func113 (by kernel_rfl) (by kernel_rfl)
theorem iz_poly_New : FullOk Tryz.prog id_poly_New fun args h κ => evFn Γ af_poly_New args h κ := evFn_full h moZ Tryz.func110 (by kernel_rfl) (by kernel_rfl)
theorem iz_ratchet_Open_1 : FullOk Tryz.prog id_ratchet_Open_1 fun args h κ => evFn Γ af_ratchet_Open_1 args h κ := evFn_full h moZ Tryz.func62 (by kernel_rfl) (by kernel_rfl)
theorem iz_ratchet_find_1 : FullOk Tryz.prog id_ratchet_find_1 fun args h κ => evFn Γ af_ratchet_find_1 args h κ := evFn_full h moZ Tryz.func88 (by kernel_rfl) (by kernel_rfl)
theorem iz_ratchet_over : FullOk Tryz.prog id_ratchet_over fun args h κ => evFn Γ af_ratchet_over args h κ := evFn_full h moZ Tryz.func65 (by kernel_rfl) (by kernel_rfl)
theorem iz_ratchet_pass : FullOk Tryz.prog id_ratchet_pass fun args h κ => evFn Γ af_ratchet_pass args h κ := evFn_full h moZ Tryz.func66 (by kernel_rfl) (by kernel_rfl)
theorem iz_sha_Hash_Copy : FullOk Tryz.prog id_sha_Hash_Copy fun args h κ => evFn Γ af_sha_Hash_Copy args h κ := evFn_full h moZ Tryz.func135 (by kernel_rfl) (by kernel_rfl)
theorem iz_sha_Hash_Sum : FullOk Tryz.prog id_sha_Hash_Sum fun args h κ => evFn Γ af_sha_Hash_Sum args h κ := evFn_full h moZ Tryz.func108 (by kernel_rfl) (by kernel_rfl)
theorem iz_sha_Hash_Write : FullOk Tryz.prog id_sha_Hash_Write fun args h κ => evFn Γ af_sha_Hash_Write args h κ := evFn_full h moZ Tryz.func107 (by kernel_rfl) (by kernel_rfl)
theorem iz_sha_Hash_write : FullOk Tryz.prog id_sha_Hash_write fun args h κ => evFn Γ af_sha_Hash_write args h κ := evFn_full h moZ Tryz.func133 (by kernel_rfl) (by kernel_rfl)
theorem iz_sha_Sum : FullOk Tryz.prog id_sha_Sum fun args h κ => evFn Γ af_sha_Sum args h κ := evFn_full h moZ Tryz.func104 (by kernel_rfl) (by kernel_rfl)
theorem iz_slices_Clone_api_Skip : FullOk Tryz.prog id_slices_Clone_api_Skip fun args h κ => evFn Γ af_slices_Clone_api_Skip args h κ := evFn_full h moZ Tryz.func33 (by kernel_rfl) (by kernel_rfl)
theorem iz_slices_IndexFunc_api_Skip : FullOk Tryz.prog id_slices_IndexFunc_api_Skip fun args h κ => evFn Γ af_slices_IndexFunc_api_Skip args h κ := evFn_full h moZ Tryz.func87 (by kernel_rfl) (by kernel_rfl)
end
open Go.Proofs
set_option maxRecDepth 100000
theorem G1_ok : EnvOk Tryz.prog G1 := envAdd_ok (mul64_pure (fz_math_bits_Mul64 env_ok_none).ok) (envAdd_ok (add64_full) (env_ok_none))
theorem G2_ok : EnvOk Tryz.prog G2 := envAdd_ok (plus_pure (fz_field_wide_plus G1_ok)) (envAdd_ok (carry_pure (fz_field_Elem_carry G1_ok)) (G1_ok))
theorem G3_ok : EnvOk Tryz.prog G3 := envAdd_ok (folded_pure (fz_field_folded G2_ok)) (G2_ok)
theorem G4_ok : EnvOk Tryz.prog G4 := envAdd_ok (mul_pure (fz_field_Elem_Mul G3_ok)) (envAdd_ok (sq_pure (fz_field_Elem_Square G3_ok)) (envAdd_ok (add_pure (fz_field_Elem_Add G3_ok)) (envAdd_ok (sub_pure (fz_field_Elem_Sub G3_ok)) (envAdd_ok (of_pure (fz_field_Of G3_ok)) (G3_ok)))))
theorem G5_ok : EnvOk Tryz.prog G5 := envAdd_ok (word_pure (fz_field_word G4_ok)) (envAdd_ok (bytes_pure (fz_field_Elem_Bytes G4_ok)) (envAdd_ok (neg_pure (fz_field_Elem_Neg G4_ok)) (envAdd_ok (times_pure (fz_field_Elem_Times G4_ok)) (envAdd_ok (swap_pure (fz_field_Swap G4_ok)) (G4_ok)))))
theorem G6_ok : EnvOk Tryz.prog G6 := envAdd_ok (pow_pure (fz_field_Elem_Power G5_ok)) (envAdd_ok (same_pure (fz_field_Elem_Same G5_ok)) (envAdd_ok (from_pure (fz_field_From G5_ok)) (G5_ok)))
theorem G7_ok : EnvOk Tryz.prog G7 := envAdd_ok (inv_pure (fz_field_Elem_Inv G6_ok)) (envAdd_ok (clamp_pure (fz_curve_Clamp G6_ok)) (G6_ok))
theorem G7s_ok : EnvOk Tryz.prog G7s := envAdd_ok (iz_curve_ladder_sums G7_ok) (envAdd_ok (times_pure (fz_field_Elem_Times G4_ok)) (G7_ok))
theorem G8_ok : EnvOk Tryz.prog G8 := envAdd_ok (iz_curve_ladder_swap G7s_ok) (envAdd_ok (iz_curve_ladder_step G7s_ok) (G7s_ok))
theorem G9_ok : EnvOk Tryz.prog G9 := envAdd_ok (turn_pure (fz_sha_turn G8_ok)) (G8_ok)
theorem G10_ok : EnvOk Tryz.prog G10 := envAdd_ok (words_pure (fzA_sha_words_afWords G9_ok)) (G9_ok)
theorem Rp7_ok : EnvOk Tryz.prog Rp7 := envAdd_ok (at_pure (fz_hollowtreeref07_at G10_ok)) (G10_ok)
theorem Rp7c_ok : EnvOk Tryz.prog Rp7c := envAdd_ok (at_full (at_pure (fz_hollowtreeref07_at G10_ok))) (G10_ok)
theorem RpRe_ok : EnvOk Tryz.prog RpRe := envAdd_ok (high7_full (high7_pure (fzA_hollowtreeref07_high_afHigh Rp7c_ok))) (envAdd_ok (some7_full (some7_pure (fzA_hollowtreeref07_some_afSome G10_ok))) (envAdd_ok (rows_full (times7_pure (fzA_hollowtreeref07_times_afTimes Rp7_ok))) (envAdd_ok (rows_full (plus_pure7 (fzA_hollowtreeref07_plus_afPlus Rp7_ok))) (G10_ok))))
theorem RpMe_ok : EnvOk Tryz.prog RpMe := envAdd_ok (noneO_ok) (envAdd_ok (clampR_pure (fz_hollowtreeref07_Clamp G10_ok)) (envAdd_ok (row_pure (fz_hollowtreeref07_row G10_ok)) (envAdd_ok (rowsM_full (rowsM_of (plus_pure7 (fzA_hollowtreeref07_plus_afPlus Rp7_ok)))) (envAdd_ok (rowsM_full (rowsM_of (times7_pure (fzA_hollowtreeref07_times_afTimes Rp7_ok)))) (envAdd_ok (restM_full (rest7_pure (fzA_hollowtreeref07_rest_afRestM RpRe_ok))) (envAdd_ok (at_pure (fz_hollowtreeref07_at G10_ok)) (G10_ok)))))))
theorem Rc0_ok : EnvOk Tryz.prog Rc0 := envAdd_ok (pureOf_ok (fz_hollowtreeref06_left G10_ok).ok) (G10_ok)
theorem Rc1_ok : EnvOk Tryz.prog Rc1 := envAdd_ok (pureOf_ok (fz_hollowtreeref06_word G10_ok).ok) (envAdd_ok (pureOf_ok (fz_hollowtreeref06_places G10_ok).ok) (envAdd_ok (quartR_pure (fz_hollowtreeref06_Quarter Rc0_ok)) (G10_ok)))
theorem qRt_ok : EnvOk Tryz.prog qRt := envAdd_ok (blockV_pure (blockR_pure (fzA_hollowtreeref06_Block_afBlockR Rc1_ok))) (envAdd_ok (pureOf_ok (fz_hollowtreeref08_filled G10_ok).ok) (envAdd_ok (pureOf_ok (fz_hollowtreeref08_eight G10_ok).ok) (envAdd_ok (mac_pure7 (fz_hollowtreeref07_Mac RpMe_ok)) (G10_ok))))
theorem qXr_ok : EnvOk Tryz.prog qXr := envAdd_ok (blockV_pure (blockR_pure (fzA_hollowtreeref06_Block_afBlockR Rc1_ok))) (G10_ok)
theorem qRs_ok : EnvOk Tryz.prog qRs := envAdd_ok (rxor_ok7 (fz_hollowtreeref06_Xor qXr_ok)) (envAdd_ok (rtag_ok7 (fz_hollowtreeref08_Tag qRt_ok)) (G10_ok))
theorem RkB_ok : EnvOk Tryz.prog RkB := envAdd_ok (pureOf_ok (fz_hollowtreeref01_Low G10_ok).ok) (envAdd_ok (pureOf_ok (fz_hollowtreeref01_Both G10_ok).ok) (G10_ok))
theorem Rs0_ok : EnvOk Tryz.prog Rs0 := envAdd_ok (rotR_pure (fz_hollowtreeref04_right G10_ok)) (envAdd_ok (const_pure (fz_hollowtreeref04_constants G10_ok)) (envAdd_ok (begin_pure (fz_hollowtreeref04_begin G10_ok)) (envAdd_ok (pureOf_ok (fz_hollowtreeref04_Pad G10_ok).ok) (G10_ok))))
theorem rSe_ok : EnvOk Tryz.prog rSe := envAdd_ok (sum_pureI (fzA_hollowtreeref04_Sum_afSum Rs0_ok)) (RkB_ok)
theorem rMe_ok : EnvOk Tryz.prog rMe := envAdd_ok (rhm_ok (fz_hollowtreeref05_Hmac rSe_ok)) (RkB_ok)
theorem Rx0_ok : EnvOk Tryz.prog Rx0 := envAdd_ok (car_pure (fzA_hollowtreeref03_Num_carry_afCarry G10_ok)) (G10_ok)
theorem Rm0_ok : EnvOk Tryz.prog Rm0 := envAdd_ok (rfold_pure (fz_hollowtreeref03_fold Rx0_ok)) (G10_ok)
theorem RxIe_ok : EnvOk Tryz.prog RxIe := envAdd_ok (rfrom_pure (fz_hollowtreeref03_From G10_ok)) (envAdd_ok (rmul_pure (fzA_hollowtreeref03_Num_Mul_afMul Rm0_ok)) (G10_ok))
theorem RxXe_ok : EnvOk Tryz.prog RxXe := envAdd_ok (rcl_pure (fz_hollowtreeref03_Clamp G10_ok)) (envAdd_ok (rfrom_pure (fz_hollowtreeref03_From G10_ok)) (envAdd_ok (radd_pure (fz_hollowtreeref03_Num_Add Rx0_ok)) (envAdd_ok (rsub_pure (fz_hollowtreeref03_Num_Sub Rx0_ok)) (envAdd_ok (rmul_pure (fzA_hollowtreeref03_Num_Mul_afMul Rm0_ok)) (envAdd_ok (rsm_pure (fz_hollowtreeref03_Num_Small Rx0_ok)) (envAdd_ok (rinv_ok (fzA_hollowtreeref03_Num_Inv_afInv RxIe_ok)) (envAdd_ok (rbyt_pure (fzA_hollowtreeref03_Num_Bytes_afBytes3 Rx0_ok)) (G10_ok))))))))
theorem qJe_ok : EnvOk Tryz.prog qJe := envAdd_ok (rx_ok (fzA_hollowtreeref03_X_afX03 RxXe_ok)) (envAdd_ok (rstep_ok7 (fz_hollowtreeref05_Step rMe_ok)) (envAdd_ok (hdr7_pure (fz_hollowtreeref17_Header RkB_ok)) (envAdd_ok (body_pure (fzA_hollowtreeref17_Body_afBody G10_ok)) (envAdd_ok (raseal_ok7 (fz_hollowtreeref08_Seal qRs_ok)) (G10_ok)))))
theorem Rr0_ok : EnvOk Tryz.prog Rr0 := envAdd_ok (find_full (rf_pure (fzA_hollowtreeref17_Find_afRFind G10_ok))) (G10_ok)
theorem pOc_ok : EnvOk Tryz.prog pOc := envAdd_ok (clone_full (clone_pure (fz_slices_Clone_byte G10_ok))) (G10_ok)
theorem p32E_ok : EnvOk Tryz.prog p32E := envAdd_ok (put4_full (put_pure (fz_octet_put pOc_ok))) (G10_ok)
theorem Hd0_ok : EnvOk Tryz.prog Hd0 := envAdd_ok (put32_pure (fz_octet_Put32 p32E_ok)) (G10_ok)
theorem X_curve_X_ok : EnvOk Tryz.prog X_curve_X := envAdd_ok (x_pureI (fzA_curve_X_afX G8_ok)) (G10_ok)
theorem X_curve_Public_ok : EnvOk Tryz.prog X_curve_Public := envAdd_ok (pureOf_ok (fz_curve_Public X_curve_X_ok).ok) (X_curve_X_ok)
theorem E_curve_X_ok : EnvOk Tryz.prog E_curve_X := envAdd_ok (x_pureI (fzA_curve_X_afX G8_ok)) (G10_ok)
theorem E_curve_Public_ok : EnvOk Tryz.prog E_curve_Public := envAdd_ok (pureOf_ok (fz_curve_Public E_curve_X_ok).ok) (E_curve_X_ok)
theorem E_octet_Zero_ok : EnvOk Tryz.prog E_octet_Zero := envAdd_ok (pureOf_ok (fz_octet_Zero E_curve_Public_ok).ok) (E_curve_Public_ok)
theorem E_curve_Agree_ok : EnvOk Tryz.prog E_curve_Agree := envAdd_ok (pureOf_ok (fz_curve_Agree E_octet_Zero_ok).ok) (E_octet_Zero_ok)
theorem E_ident_Less_ok : EnvOk Tryz.prog E_ident_Less := envAdd_ok (pureOf_ok (fz_ident_Less E_curve_Agree_ok).ok) (E_curve_Agree_ok)
theorem E_slices_Clone_byte_ok : EnvOk Tryz.prog E_slices_Clone_byte := envAdd_ok (clone_pure (fz_slices_Clone_byte G10_ok)) (E_ident_Less_ok)
theorem E_octet_put_ok : EnvOk Tryz.prog E_octet_put := envAdd_ok (pureOf_ok (fz_octet_put E_slices_Clone_byte_ok).ok) (E_slices_Clone_byte_ok)
theorem E_octet_Put32_ok : EnvOk Tryz.prog E_octet_Put32 := envAdd_ok (pureOf_ok (fz_octet_Put32 E_octet_put_ok).ok) (E_octet_put_ok)
theorem E_kdf_info_ok : EnvOk Tryz.prog E_kdf_info := envAdd_ok (pureOf_ok (fz_kdf_info E_octet_Put32_ok).ok) (E_octet_Put32_ok)
theorem E_sha_New_ok : EnvOk Tryz.prog E_sha_New := envAdd_ok (new_pure (fz_sha_New G10_ok)) (E_kdf_info_ok)
theorem E_sha_Hash_step_ok : EnvOk Tryz.prog E_sha_Hash_step := envAdd_ok (step_fullP (fzA_sha_Hash_step_afStepOf_a G9_ok) (fzA_sha_Hash_step_afStepOf_b G9_ok)) (E_sha_New_ok)
theorem E_sha_Hash_write_ok : EnvOk Tryz.prog E_sha_Hash_write := envAdd_ok (iz_sha_Hash_write E_sha_Hash_step_ok) (E_sha_Hash_step_ok)
theorem E_sha_Hash_Copy_ok : EnvOk Tryz.prog E_sha_Hash_Copy := envAdd_ok (iz_sha_Hash_Copy E_sha_Hash_write_ok) (E_sha_Hash_write_ok)
theorem E_sha_Pad_ok : EnvOk Tryz.prog E_sha_Pad := envAdd_ok (pureOf_ok (fz_sha_Pad E_sha_Hash_Copy_ok).ok) (E_sha_Hash_Copy_ok)
theorem E_sha_Hash_Sum_ok : EnvOk Tryz.prog E_sha_Hash_Sum := envAdd_ok (iz_sha_Hash_Sum E_sha_Pad_ok) (E_sha_Pad_ok)
theorem E_sha_Sum_ok : EnvOk Tryz.prog E_sha_Sum := envAdd_ok (iz_sha_Sum E_sha_Hash_Sum_ok) (E_sha_Hash_Sum_ok)
theorem E_sha_Hash_Write_ok : EnvOk Tryz.prog E_sha_Hash_Write := envAdd_ok (iz_sha_Hash_Write E_sha_Sum_ok) (E_sha_Sum_ok)
theorem E_kdf_Hmac_1_ok : EnvOk Tryz.prog E_kdf_Hmac_1 := envAdd_ok (iz_kdf_Hmac_1 E_sha_Hash_Write_ok) (E_sha_Hash_Write_ok)
theorem E_kdf_Hmac_ok : EnvOk Tryz.prog E_kdf_Hmac := envAdd_ok (pureOf_ok (fz_kdf_Hmac E_kdf_Hmac_1_ok).ok) (E_kdf_Hmac_1_ok)
theorem E_kdf_Expand_ok : EnvOk Tryz.prog E_kdf_Expand := envAdd_ok (pureOf_ok (fz_kdf_Expand E_kdf_Hmac_ok).ok) (E_kdf_Hmac_ok)
theorem E_kdf_Two_ok : EnvOk Tryz.prog E_kdf_Two := envAdd_ok (pureOf_ok (fz_kdf_Two E_kdf_Expand_ok).ok) (E_kdf_Expand_ok)
theorem E_kdf_Derive_ok : EnvOk Tryz.prog E_kdf_Derive := envAdd_ok (pureOf_ok (fz_kdf_Derive E_kdf_Two_ok).ok) (E_kdf_Two_ok)
theorem X_ident_Pair_ok : EnvOk Tryz.prog X_ident_Pair := envAdd_ok ((fz_ident_Pair E_kdf_Derive_ok).tab (by kernel_rfl) (by kernel_rfl) run_tPair1 ((fz_ident_Pair E_kdf_Derive_ok).tab (by kernel_rfl) (by kernel_rfl) run_tPair2 noneO_ok)) (X_curve_Public_ok)
theorem X_curve_Low_ok : EnvOk Tryz.prog X_curve_Low := envAdd_ok (pureOf_ok (fz_curve_Low X_ident_Pair_ok).ok) (X_ident_Pair_ok)
theorem X_kdf_Two_ok : EnvOk Tryz.prog X_kdf_Two := envAdd_ok ((fz_kdf_Two E_kdf_Expand_ok).tab (by kernel_rfl) (by kernel_rfl) run_tTwo1 ((fz_kdf_Two E_kdf_Expand_ok).tab (by kernel_rfl) (by kernel_rfl) run_tTwo2 noneO_ok)) (X_curve_Low_ok)
theorem X_kdf_Derive_ok : EnvOk Tryz.prog X_kdf_Derive := envAdd_ok (pureOf_ok (fz_kdf_Derive X_kdf_Two_ok).ok) (X_kdf_Two_ok)
theorem E_ident_Pair_ok : EnvOk Tryz.prog E_ident_Pair := envAdd_ok (pureOf_ok (fz_ident_Pair E_kdf_Derive_ok).ok) (E_kdf_Derive_ok)
theorem E_curve_Low_ok : EnvOk Tryz.prog E_curve_Low := envAdd_ok (pureOf_ok (fz_curve_Low E_ident_Pair_ok).ok) (E_ident_Pair_ok)
theorem X_ratchet_turn_ok : EnvOk Tryz.prog X_ratchet_turn := envAdd_ok ((fz_ratchet_turn E_curve_Low_ok).tab (by kernel_rfl) (by kernel_rfl) run_tTurn1 ((fz_ratchet_turn E_curve_Low_ok).tab (by kernel_rfl) (by kernel_rfl) run_tTurn2 ((fz_ratchet_turn E_curve_Low_ok).tab (by kernel_rfl) (by kernel_rfl) run_tTurn3 noneO_ok))) (X_kdf_Derive_ok)
theorem X_ratchet_Start_ok : EnvOk Tryz.prog X_ratchet_Start := envAdd_ok (pureOf_ok (fz_ratchet_Start X_ratchet_turn_ok).ok) (X_ratchet_turn_ok)
theorem X_hollowtreelaw17_begun_ok : EnvOk Tryz.prog X_hollowtreelaw17_begun := envAdd_ok (pureOf_ok (fz_hollowtreelaw17_begun X_ratchet_Start_ok).ok) (X_ratchet_Start_ok)
theorem X_ratchet_find_1_ok : EnvOk Tryz.prog X_ratchet_find_1 := envAdd_ok (iz_ratchet_find_1 X_hollowtreelaw17_begun_ok) (X_hollowtreelaw17_begun_ok)
theorem X_slices_IndexFunc_api_Skip_ok : EnvOk Tryz.prog X_slices_IndexFunc_api_Skip := envAdd_ok (iz_slices_IndexFunc_api_Skip X_ratchet_find_1_ok) (X_ratchet_find_1_ok)
theorem X_ratchet_find_ok : EnvOk Tryz.prog X_ratchet_find := envAdd_ok (pureOf_ok (fz_ratchet_find X_slices_IndexFunc_api_Skip_ok).ok) (X_slices_IndexFunc_api_Skip_ok)
theorem X_ratchet_Check_ok : EnvOk Tryz.prog X_ratchet_Check := envAdd_ok (pureOf_ok (fz_ratchet_Check X_ratchet_find_ok).ok) (X_ratchet_find_ok)
theorem X_ratchet_none_ok : EnvOk Tryz.prog X_ratchet_none := envAdd_ok (pureOf_ok (fz_ratchet_none X_ratchet_Check_ok).ok) (X_ratchet_Check_ok)
theorem E_ratchet_turn_ok : EnvOk Tryz.prog E_ratchet_turn := envAdd_ok (pureOf_ok (fz_ratchet_turn E_curve_Low_ok).ok) (E_curve_Low_ok)
theorem E_ratchet_Start_ok : EnvOk Tryz.prog E_ratchet_Start := envAdd_ok (pureOf_ok (fz_ratchet_Start E_ratchet_turn_ok).ok) (E_ratchet_turn_ok)
theorem E_hollowtreelaw17_begun_ok : EnvOk Tryz.prog E_hollowtreelaw17_begun := envAdd_ok (pureOf_ok (fz_hollowtreelaw17_begun E_ratchet_Start_ok).ok) (E_ratchet_Start_ok)
theorem E_ratchet_find_1_ok : EnvOk Tryz.prog E_ratchet_find_1 := envAdd_ok (iz_ratchet_find_1 E_hollowtreelaw17_begun_ok) (E_hollowtreelaw17_begun_ok)
theorem E_slices_IndexFunc_api_Skip_ok : EnvOk Tryz.prog E_slices_IndexFunc_api_Skip := envAdd_ok (iz_slices_IndexFunc_api_Skip E_ratchet_find_1_ok) (E_ratchet_find_1_ok)
theorem E_ratchet_find_ok : EnvOk Tryz.prog E_ratchet_find := envAdd_ok (pureOf_ok (fz_ratchet_find E_slices_IndexFunc_api_Skip_ok).ok) (E_slices_IndexFunc_api_Skip_ok)
theorem E_ratchet_Check_ok : EnvOk Tryz.prog E_ratchet_Check := envAdd_ok (pureOf_ok (fz_ratchet_Check E_ratchet_find_ok).ok) (E_ratchet_find_ok)
theorem E_ratchet_none_ok : EnvOk Tryz.prog E_ratchet_none := envAdd_ok (pureOf_ok (fz_ratchet_none E_ratchet_Check_ok).ok) (E_ratchet_Check_ok)
theorem X_kdf_Step_ok : EnvOk Tryz.prog X_kdf_Step := envAdd_ok ((fz_kdf_Step E_ratchet_none_ok).tab (by kernel_rfl) (by kernel_rfl) run_tStep1 noneO_ok) (X_ratchet_none_ok)
theorem X_slices_Clone_byte_ok : EnvOk Tryz.prog X_slices_Clone_byte := envAdd_ok (clone_pure (fz_slices_Clone_byte G10_ok)) (X_kdf_Step_ok)
theorem X_octet_put_ok : EnvOk Tryz.prog X_octet_put := envAdd_ok (pureOf_ok (fz_octet_put X_slices_Clone_byte_ok).ok) (X_slices_Clone_byte_ok)
theorem X_octet_Put64_ok : EnvOk Tryz.prog X_octet_Put64 := envAdd_ok (pureOf_ok (fz_octet_Put64 X_octet_put_ok).ok) (X_octet_put_ok)
theorem IaO_ok : EnvOk Tryz.prog IaO := envAdd_ok (pureOf_ok (fz_octet_Get64 G10_ok).ok) (G10_ok)
theorem qT0_ok : EnvOk Tryz.prog qT0 := envAdd_ok (clampI_pure (fz_poly_Clamp G10_ok)) (envAdd_ok (of_pure7 (fz_poly_of IaO_ok)) (X_octet_Put64_ok))
theorem qT1_ok : EnvOk Tryz.prog qT1 := envAdd_ok (iz_poly_New qT0_ok) (qT0_ok)
theorem P0_ok : EnvOk Tryz.prog P0 := envAdd_ok (carry_pureP (fz_poly_limbs_carry G10_ok)) (G10_ok)
theorem qT2_ok : EnvOk Tryz.prog qT2 := envAdd_ok (step_pure7 (pstep_pureP (fz_poly_limbs_step P0_ok))) (qT1_ok)
theorem qT3_ok : EnvOk Tryz.prog qT3 := envAdd_ok (litG_ok (fz_poly_Code_Write qT2_ok).ok) (qT2_ok)
theorem X_aead_Count_ok : EnvOk Tryz.prog X_aead_Count := envAdd_ok (pureOf_ok (fz_aead_Count X_octet_Put64_ok).ok) (X_octet_Put64_ok)
theorem X_octet_Put32_ok : EnvOk Tryz.prog X_octet_Put32 := envAdd_ok (pureOf_ok (fz_octet_Put32 X_aead_Count_ok).ok) (X_aead_Count_ok)
theorem X_frame_PutHeader_ok : EnvOk Tryz.prog X_frame_PutHeader := envAdd_ok (pureOf_ok (fz_frame_PutHeader X_octet_Put32_ok).ok) (X_octet_Put32_ok)
theorem X_ratchet_text_ok : EnvOk Tryz.prog X_ratchet_text := envAdd_ok (pureOf_ok (fz_ratchet_text X_frame_PutHeader_ok).ok) (X_frame_PutHeader_ok)
theorem C0_ok : EnvOk Tryz.prog C0 := envAdd_ok (iz_chacha_read G10_ok) (G10_ok)
theorem C1_ok : EnvOk Tryz.prog C1 := envAdd_ok (state_pure (fz_chacha_state C0_ok)) (envAdd_ok (quarter_pure (fz_chacha_Quarter C0_ok)) (C0_ok))
theorem C2_ok : EnvOk Tryz.prog C2 := envAdd_ok (iz_chacha_Block_1 C1_ok) (C1_ok)
theorem X_chacha_Block_ok : EnvOk Tryz.prog X_chacha_Block := envAdd_ok (block_pure (fzA_chacha_Block_afBlock C2_ok)) (X_ratchet_text_ok)
theorem X_chacha_Xor_ok : EnvOk Tryz.prog X_chacha_Xor := envAdd_ok (pureOf_ok (fz_chacha_Xor X_chacha_Block_ok).ok) (X_chacha_Block_ok)
theorem X_poly_Clamp_ok : EnvOk Tryz.prog X_poly_Clamp := envAdd_ok (pureOf_ok (fz_poly_Clamp X_chacha_Xor_ok).ok) (X_chacha_Xor_ok)
theorem X_octet_Get64_ok : EnvOk Tryz.prog X_octet_Get64 := envAdd_ok (pureOf_ok (fz_octet_Get64 X_poly_Clamp_ok).ok) (X_poly_Clamp_ok)
theorem X_poly_of_ok : EnvOk Tryz.prog X_poly_of := envAdd_ok (pureOf_ok (fz_poly_of X_octet_Get64_ok).ok) (X_octet_Get64_ok)
theorem X_poly_New_ok : EnvOk Tryz.prog X_poly_New := envAdd_ok (iz_poly_New X_poly_of_ok) (X_poly_of_ok)
theorem X_poly_limbs_step_ok : EnvOk Tryz.prog X_poly_limbs_step := envAdd_ok (pstep_pureP (fz_poly_limbs_step P0_ok)) (X_poly_New_ok)
theorem X_poly_Code_Write_ok : EnvOk Tryz.prog X_poly_Code_Write := envAdd_ok (litG_ok (fz_poly_Code_Write X_poly_limbs_step_ok).ok) (X_poly_limbs_step_ok)
theorem X_poly_limbs_carry_ok : EnvOk Tryz.prog X_poly_limbs_carry := envAdd_ok (carry_pureP (fz_poly_limbs_carry G10_ok)) (X_poly_Code_Write_ok)
theorem Py0_ok : EnvOk Tryz.prog Py0 := envAdd_ok (whole_pure (fz_poly_limbs_whole P0_ok)) (X_poly_limbs_carry_ok)
theorem qT4_ok : EnvOk Tryz.prog qT4 := envAdd_ok (tag_pure7 (tag_pure (fz_poly_Code_Tag Py0_ok))) (qT3_ok)
theorem qT5_ok : EnvOk Tryz.prog qT5 := envAdd_ok (iz_aead_Tag_1 qT4_ok) (qT4_ok)
theorem qT6_ok : EnvOk Tryz.prog qT6 := envAdd_ok (blockV_pure (block_pure (fzA_chacha_Block_afBlock C2_ok))) (qT5_ok)
theorem qXe_ok : EnvOk Tryz.prog qXe := envAdd_ok (blockV_pure (block_pure (fzA_chacha_Block_afBlock C2_ok))) (G10_ok)
theorem qAe_ok : EnvOk Tryz.prog qAe := envAdd_ok (xor_ok7 (fz_chacha_Xor qXe_ok)) (envAdd_ok (tag_ok7 (fz_aead_Tag qT6_ok)) (G10_ok))
theorem iSe_ok : EnvOk Tryz.prog iSe := envAdd_ok (stepI_full (step_fullP (fzA_sha_Hash_step_afStepOf_a G9_ok) (fzA_sha_Hash_step_afStepOf_b G9_ok))) (E_sha_New_ok)
theorem iWe_ok : EnvOk Tryz.prog iWe := envAdd_ok (iz_sha_Hash_write iSe_ok) (iSe_ok)
theorem iCe_ok : EnvOk Tryz.prog iCe := envAdd_ok (iz_sha_Hash_Copy iWe_ok) (iWe_ok)
theorem iPe_ok : EnvOk Tryz.prog iPe := envAdd_ok (pureOf_ok (fz_sha_Pad iCe_ok).ok) (iCe_ok)
theorem iUe_ok : EnvOk Tryz.prog iUe := envAdd_ok (iz_sha_Hash_Sum iPe_ok) (iPe_ok)
theorem iVe_ok : EnvOk Tryz.prog iVe := envAdd_ok (iz_sha_Hash_Write iUe_ok) (iUe_ok)
theorem iGe_ok : EnvOk Tryz.prog iGe := envAdd_ok (iz_kdf_Hmac_1 iVe_ok) (iVe_ok)
theorem iMe_ok : EnvOk Tryz.prog iMe := envAdd_ok (ihm_ok (fz_kdf_Hmac iGe_ok)) (E_kdf_info_ok)
theorem qPe_ok : EnvOk Tryz.prog qPe := envAdd_ok (ix_pure (fzA_curve_X_afX G8_ok)) (G10_ok)
theorem Fd0_ok : EnvOk Tryz.prog Fd0 := envAdd_ok (iz_ratchet_find_1 G10_ok) (G10_ok)
theorem Fd1_ok : EnvOk Tryz.prog Fd1 := envAdd_ok (litE_ok (fzA_slices_IndexFunc_api_Skip_afIdx Fd0_ok) _ _ _) (Fd0_ok)
theorem Ck0_ok : EnvOk Tryz.prog Ck0 := envAdd_ok (find_full (find_pure (fz_ratchet_find Fd1_ok) (fzA_slices_IndexFunc_api_Skip_afIdx Fd0_ok))) (G10_ok)
theorem qIe_ok : EnvOk Tryz.prog qIe := envAdd_ok (check_full (check_pure (fzA_ratchet_Check_afCheck Ck0_ok))) (envAdd_ok (cloneR_full (cloneRS_pure (cloneR_pure (fz_slices_Clone_api_Skip G10_ok)))) (envAdd_ok (pub_ok7 (fz_curve_Public qPe_ok)) (envAdd_ok (step_ok7 (fz_kdf_Step iMe_ok)) (envAdd_ok (aseal_ok7 (fz_aead_Seal qAe_ok)) (envAdd_ok (cnt_pure (fz_aead_Count X_octet_Put64_ok)) (envAdd_ok (hdr_pure (fz_frame_PutHeader Hd0_ok)) (envAdd_ok (text_pure (fz_ratchet_text G10_ok)) (envAdd_ok (none_pure (fz_ratchet_none G10_ok)) (G10_ok)))))))))
theorem Wk0_ok : EnvOk Tryz.prog Wk0 := envAdd_ok ((fz_hollowtreelaw17_begun X_ratchet_Start_ok).tab (by kernel_rfl) (by kernel_rfl) run_tBegun noneO_ok) (G10_ok)
theorem X_poly_limbs_whole_ok : EnvOk Tryz.prog X_poly_limbs_whole := envAdd_ok (pureOf_ok (fz_poly_limbs_whole X_poly_limbs_carry_ok).ok) (X_poly_limbs_carry_ok)
theorem X_poly_Code_Tag_ok : EnvOk Tryz.prog X_poly_Code_Tag := envAdd_ok (iz_poly_Code_Tag X_poly_limbs_whole_ok) (X_poly_limbs_whole_ok)
theorem X_aead_Tag_1_ok : EnvOk Tryz.prog X_aead_Tag_1 := envAdd_ok (iz_aead_Tag_1 X_poly_Code_Tag_ok) (X_poly_Code_Tag_ok)
theorem X_aead_Tag_ok : EnvOk Tryz.prog X_aead_Tag := envAdd_ok (pureOf_ok (fz_aead_Tag X_aead_Tag_1_ok).ok) (X_aead_Tag_1_ok)
theorem X_aead_Seal_ok : EnvOk Tryz.prog X_aead_Seal := envAdd_ok (pureOf_ok (fz_aead_Seal X_aead_Tag_ok).ok) (X_aead_Tag_ok)
theorem X_slices_Clone_api_Skip_ok : EnvOk Tryz.prog X_slices_Clone_api_Skip := envAdd_ok (iz_slices_Clone_api_Skip X_aead_Seal_ok) (X_aead_Seal_ok)
theorem Wk1_ok : EnvOk Tryz.prog Wk1 := envAdd_ok ((fz_ratchet_Seal X_slices_Clone_api_Skip_ok).tab (by kernel_rfl) (by kernel_rfl) run_tSeal noneO_ok) (Wk0_ok)
theorem X_ratchet_Seal_ok : EnvOk Tryz.prog X_ratchet_Seal := envAdd_ok (pureOf_ok (fz_ratchet_Seal X_slices_Clone_api_Skip_ok).ok) (X_slices_Clone_api_Skip_ok)
theorem X_octet_Equal_ok : EnvOk Tryz.prog X_octet_Equal := envAdd_ok (pureOf_ok (fz_octet_Equal X_ratchet_Seal_ok).ok) (X_ratchet_Seal_ok)
theorem X_aead_Open_ok : EnvOk Tryz.prog X_aead_Open := envAdd_ok (pureOf_ok (fz_aead_Open X_octet_Equal_ok).ok) (X_octet_Equal_ok)
theorem X_octet_Zero_ok : EnvOk Tryz.prog X_octet_Zero := envAdd_ok (pureOf_ok (fz_octet_Zero X_aead_Open_ok).ok) (X_aead_Open_ok)
theorem X_ratchet_read_ok : EnvOk Tryz.prog X_ratchet_read := envAdd_ok (pureOf_ok (fz_ratchet_read X_octet_Zero_ok).ok) (X_octet_Zero_ok)
theorem X_ratchet_open_ok : EnvOk Tryz.prog X_ratchet_open := envAdd_ok (pureOf_ok (fz_ratchet_open X_ratchet_read_ok).ok) (X_ratchet_read_ok)
theorem X_ratchet_over_ok : EnvOk Tryz.prog X_ratchet_over := envAdd_ok (iz_ratchet_over X_ratchet_open_ok) (X_ratchet_open_ok)
theorem X_ratchet_pass_ok : EnvOk Tryz.prog X_ratchet_pass := envAdd_ok (iz_ratchet_pass X_ratchet_over_ok) (X_ratchet_over_ok)
theorem X_ratchet_Open_1_ok : EnvOk Tryz.prog X_ratchet_Open_1 := envAdd_ok (iz_ratchet_Open_1 X_ratchet_pass_ok) (X_ratchet_pass_ok)
theorem Wk2_ok : EnvOk Tryz.prog Wk2 := envAdd_ok ((fz_ratchet_Open X_ratchet_Open_1_ok).tab (by kernel_rfl) (by kernel_rfl) run_tOpen noneO_ok) (Wk1_ok)
theorem qLe_ok : EnvOk Tryz.prog qLe := envAdd_ok (wakesT_full (wakes_pure (fz_hollowtreelaw17_wakes Wk2_ok))) (envAdd_ok (iseal_ok7 (fz_ratchet_Seal qIe_ok)) (envAdd_ok (rsame_full (rq_pure (fzA_hollowtreeref17_Same_afRq G10_ok))) (envAdd_ok (right_full (right_pure (fzA_hollowtreeref17_Right_afRight Rr0_ok))) (envAdd_ok (there_pure (fz_hollowtreeref17_There G10_ok)) (envAdd_ok (rseal_ok7 (fzA_hollowtreeref17_Seal_afSealR qJe_ok)) (G10_ok))))))
end Go.Am
