/- RatchetBytes: part 37 of 39 of its proof. -/
import Derived.Test.YtmkefajojokkfaaGreatB35
set_option linter.unusedVariables false
set_option linter.unusedSimpArgs false
/- The environments, of this program. Printed. -/
namespace Go.Am
open Go.Proofs
set_option maxRecDepth 100000
theorem G1_ok : EnvOk Tryz.prog G1 := envAdd_ok (f := id_math_bits_Mul64) (o := (.pure mul64o)) (mul64_pure (fz_math_bits_Mul64 env_ok_none).ok) (envAdd_ok (f := id_math_bits_Add64) (o := (.full add64o)) (add64_full) (env_ok_none))
theorem G2_ok : EnvOk Tryz.prog G2 := envAdd_ok (f := id_field_wide_plus) (o := (.pure plusO)) (plus_pure (fz_field_wide_plus G1_ok)) (envAdd_ok (f := id_field_Elem_carry) (o := (.pure carryO)) (carry_pure (fz_field_Elem_carry G1_ok)) (G1_ok))
theorem G3_ok : EnvOk Tryz.prog G3 := envAdd_ok (f := id_field_folded) (o := (.pure foldedO)) (folded_pure (fz_field_folded G2_ok)) (G2_ok)
theorem G4_ok : EnvOk Tryz.prog G4 := envAdd_ok (f := id_field_Elem_Mul) (o := (.pure (binO mulL))) (mul_pure (fz_field_Elem_Mul G3_ok)) (envAdd_ok (f := id_field_Elem_Square) (o := (.pure (unO sqL))) (sq_pure (fz_field_Elem_Square G3_ok)) (envAdd_ok (f := id_field_Elem_Add) (o := (.pure (binO addL))) (add_pure (fz_field_Elem_Add G3_ok)) (envAdd_ok (f := id_field_Elem_Sub) (o := (.pure (binO subL))) (sub_pure (fz_field_Elem_Sub G3_ok)) (envAdd_ok (f := id_field_Of) (o := (.pure ofO)) (of_pure (fz_field_Of G3_ok)) (G3_ok)))))
theorem G5_ok : EnvOk Tryz.prog G5 := envAdd_ok (f := id_field_word) (o := (.pure wordO)) (word_pure (fz_field_word G4_ok)) (envAdd_ok (f := id_field_Elem_Bytes) (o := (.pure bytesO)) (bytes_pure (fz_field_Elem_Bytes G4_ok)) (envAdd_ok (f := id_field_Elem_Neg) (o := (.pure (unO negL))) (neg_pure (fz_field_Elem_Neg G4_ok)) (envAdd_ok (f := id_field_Elem_Times) (o := (.pure timesO)) (times_pure (fz_field_Elem_Times G4_ok)) (envAdd_ok (f := id_field_Swap) (o := (.pure swapO)) (swap_pure (fz_field_Swap G4_ok)) (G4_ok)))))
theorem G6_ok : EnvOk Tryz.prog G6 := envAdd_ok (f := id_field_Elem_Power) (o := (.pure powO)) (pow_pure (fz_field_Elem_Power G5_ok)) (envAdd_ok (f := id_field_Elem_Same) (o := (.pure sameO)) (same_pure (fz_field_Elem_Same G5_ok)) (envAdd_ok (f := id_field_From) (o := (.pure fromO)) (from_pure (fz_field_From G5_ok)) (G5_ok)))
theorem G7_ok : EnvOk Tryz.prog G7 := envAdd_ok (f := id_field_Elem_Inv) (o := (.pure (unO invL))) (inv_pure (fz_field_Elem_Inv G6_ok)) (envAdd_ok (f := id_curve_Clamp) (o := (.pure (keyO clampL))) (clamp_pure (fz_curve_Clamp G6_ok)) (G6_ok))
theorem G7s_ok : EnvOk Tryz.prog G7s := envAdd_ok (f := id_curve_ladder_sums) (o := (inl G7 af_curve_ladder_sums)) (iz_curve_ladder_sums G7_ok) (envAdd_ok (f := id_field_Elem_Times) (o := (.pure timesO)) (times_pure (fz_field_Elem_Times G4_ok)) (G7_ok))
theorem G8_ok : EnvOk Tryz.prog G8 := envAdd_ok (f := id_curve_ladder_swap) (o := (inl G7s af_curve_ladder_swap)) (iz_curve_ladder_swap G7s_ok) (envAdd_ok (f := id_curve_ladder_step) (o := (inl G7s af_curve_ladder_step)) (iz_curve_ladder_step G7s_ok) (G7s_ok))
theorem G9_ok : EnvOk Tryz.prog G9 := envAdd_ok (f := id_sha_turn) (o := (.pure turnO)) (turn_pure (fz_sha_turn G8_ok)) (G8_ok)
theorem G10_ok : EnvOk Tryz.prog G10 := envAdd_ok (f := id_sha_words) (o := (.pure wordsO)) (words_pure (fzA_sha_words_afWords G9_ok)) (G9_ok)
theorem Sm0_ok : EnvOk Tryz.prog Sm0 := envAdd_ok (f := id_slices_Equal_api_Skip) (o := (.full eqRowsC)) (eqRows_full (eqRows_pure (fzA_slices_Equal_api_Skip_afSEq G10_ok))) (G10_ok)
theorem Fd0_ok : EnvOk Tryz.prog Fd0 := envAdd_ok (f := id_ratchet_find_1) (o := (inl G10 af_ratchet_find_1)) (iz_ratchet_find_1 G10_ok) (G10_ok)
theorem Fd1_ok : EnvOk Tryz.prog Fd1 := envAdd_ok (f := id_slices_IndexFunc_api_Skip) (o := (litE [.arg (.sl (.rows 65)), .obj] false [] Fd0 afIdx)) (litE_ok (fzA_slices_IndexFunc_api_Skip_afIdx Fd0_ok) _ _ _) (Fd0_ok)
theorem Ck0_ok : EnvOk Tryz.prog Ck0 := envAdd_ok (f := id_ratchet_find) (o := (.full findC)) (find_full (find_pure (fz_ratchet_find Fd1_ok) (fzA_slices_IndexFunc_api_Skip_afIdx Fd0_ok))) (G10_ok)
theorem pOc_ok : EnvOk Tryz.prog pOc := envAdd_ok (f := id_slices_Clone_byte) (o := (.full cloneC)) (clone_full (clone_pure (fz_slices_Clone_byte G10_ok))) (G10_ok)
theorem Rw0_ok : EnvOk Tryz.prog Rw0 := envAdd_ok (f := id_octet_spot_take) (o := (inl pOc af_octet_spot_take)) (iz_octet_spot_take pOc_ok) (pOc_ok)
theorem Ke0_ok : EnvOk Tryz.prog Ke0 := envAdd_ok (f := id_octet_Reader_Raw + 1000000) (o := (.pure noneO)) (noneO_ok) (envAdd_ok (f := id_octet_Reader_Raw) (o := (.full rawC)) (raw_full (raw_obj (fz_octet_Reader_Raw Rw0_ok))) (G10_ok))
theorem Ue0_ok : EnvOk Tryz.prog Ue0 := envAdd_ok (f := id_octet_Get64) (o := (.full get64C)) (get64_full (get64_pure (fzA_octet_Get64_afGet64 G10_ok))) (Ke0_ok)
theorem Gt0_ok : EnvOk Tryz.prog Gt0 := envAdd_ok (f := id_octet_Read) (o := (.full readC)) (read_full (read_pure (fz_octet_Read pOc_ok))) (envAdd_ok (f := id_octet_Reader_Key) (o := (.full keyRC)) (keyR_full (key_obj (fz_octet_Reader_Key Ke0_ok))) (envAdd_ok (f := id_octet_Reader_U32) (o := (.full u32RC)) (u32R_full (u32_obj (fz_octet_Reader_U32 Ue0_ok))) (envAdd_ok (f := id_octet_Reader_Raw) (o := (.full rawC)) (raw_full (raw_obj (fz_octet_Reader_Raw Rw0_ok))) (envAdd_ok (f := id_ratchet_Check) (o := (.full checkC)) (check_full (check_pure (fzA_ratchet_Check_afCheck Ck0_ok))) (G10_ok)))))
theorem p32E_ok : EnvOk Tryz.prog p32E := envAdd_ok (f := id_octet_put) (o := (.full put4C)) (put4_full (put_pure (fz_octet_put pOc_ok))) (G10_ok)
theorem Pt0_ok : EnvOk Tryz.prog Pt0 := envAdd_ok (f := id_ratchet_Check) (o := (.full checkC)) (check_full (check_pure (fzA_ratchet_Check_afCheck Ck0_ok))) (envAdd_ok (f := id_octet_Put32) (o := (.full put32C)) (put32_full (put32_pure (fz_octet_Put32 p32E_ok))) (G10_ok))
theorem X_curve_X_ok : EnvOk Tryz.prog X_curve_X := envAdd_ok (f := id_curve_X) (o := (.pure (keyO2 xI))) (x_pureI (fzA_curve_X_afX G8_ok)) (G10_ok)
theorem X_curve_Public_ok : EnvOk Tryz.prog X_curve_Public := envAdd_ok (f := id_curve_Public) (o := (pin X_curve_X af_curve_Public)) (pureOf_ok (fz_curve_Public X_curve_X_ok).ok) (X_curve_X_ok)
theorem E_curve_X_ok : EnvOk Tryz.prog E_curve_X := envAdd_ok (f := id_curve_X) (o := (.pure (keyO2 xI))) (x_pureI (fzA_curve_X_afX G8_ok)) (G10_ok)
theorem E_curve_Public_ok : EnvOk Tryz.prog E_curve_Public := envAdd_ok (f := id_curve_Public) (o := (pin E_curve_X af_curve_Public)) (pureOf_ok (fz_curve_Public E_curve_X_ok).ok) (E_curve_X_ok)
theorem E_octet_Zero_ok : EnvOk Tryz.prog E_octet_Zero := envAdd_ok (f := id_octet_Zero) (o := (pin E_curve_Public af_octet_Zero)) (pureOf_ok (fz_octet_Zero E_curve_Public_ok).ok) (E_curve_Public_ok)
theorem E_curve_Agree_ok : EnvOk Tryz.prog E_curve_Agree := envAdd_ok (f := id_curve_Agree) (o := (pin E_octet_Zero af_curve_Agree)) (pureOf_ok (fz_curve_Agree E_octet_Zero_ok).ok) (E_octet_Zero_ok)
theorem E_ident_Less_ok : EnvOk Tryz.prog E_ident_Less := envAdd_ok (f := id_ident_Less) (o := (pin E_curve_Agree af_ident_Less)) (pureOf_ok (fz_ident_Less E_curve_Agree_ok).ok) (E_curve_Agree_ok)
theorem E_slices_Clone_byte_ok : EnvOk Tryz.prog E_slices_Clone_byte := envAdd_ok (f := id_slices_Clone_byte) (o := (.pure cloneO)) (clone_pure (fz_slices_Clone_byte G10_ok)) (E_ident_Less_ok)
theorem E_octet_put_ok : EnvOk Tryz.prog E_octet_put := envAdd_ok (f := id_octet_put) (o := (pin E_slices_Clone_byte af_octet_put)) (pureOf_ok (fz_octet_put E_slices_Clone_byte_ok).ok) (E_slices_Clone_byte_ok)
theorem E_octet_Put32_ok : EnvOk Tryz.prog E_octet_Put32 := envAdd_ok (f := id_octet_Put32) (o := (pin E_octet_put af_octet_Put32)) (pureOf_ok (fz_octet_Put32 E_octet_put_ok).ok) (E_octet_put_ok)
theorem E_kdf_info_ok : EnvOk Tryz.prog E_kdf_info := envAdd_ok (f := id_kdf_info) (o := (pin E_octet_Put32 af_kdf_info)) (pureOf_ok (fz_kdf_info E_octet_Put32_ok).ok) (E_octet_Put32_ok)
theorem E_sha_New_ok : EnvOk Tryz.prog E_sha_New := envAdd_ok (f := id_sha_New) (o := (.pure newO)) (new_pure (fz_sha_New G10_ok)) (E_kdf_info_ok)
theorem E_sha_Hash_step_ok : EnvOk Tryz.prog E_sha_Hash_step := envAdd_ok (f := id_sha_Hash_step) (o := (.full (objO stepP))) (step_fullP (fzA_sha_Hash_step_afStepOf_a G9_ok) (fzA_sha_Hash_step_afStepOf_b G9_ok)) (E_sha_New_ok)
theorem E_sha_Hash_write_ok : EnvOk Tryz.prog E_sha_Hash_write := envAdd_ok (f := id_sha_Hash_write) (o := (inl E_sha_Hash_step af_sha_Hash_write)) (iz_sha_Hash_write E_sha_Hash_step_ok) (E_sha_Hash_step_ok)
theorem E_sha_Hash_Copy_ok : EnvOk Tryz.prog E_sha_Hash_Copy := envAdd_ok (f := id_sha_Hash_Copy) (o := (inl E_sha_Hash_write af_sha_Hash_Copy)) (iz_sha_Hash_Copy E_sha_Hash_write_ok) (E_sha_Hash_write_ok)
theorem E_sha_Pad_ok : EnvOk Tryz.prog E_sha_Pad := envAdd_ok (f := id_sha_Pad) (o := (pin E_sha_Hash_Copy af_sha_Pad)) (pureOf_ok (fz_sha_Pad E_sha_Hash_Copy_ok).ok) (E_sha_Hash_Copy_ok)
theorem E_sha_Hash_Sum_ok : EnvOk Tryz.prog E_sha_Hash_Sum := envAdd_ok (f := id_sha_Hash_Sum) (o := (inl E_sha_Pad af_sha_Hash_Sum)) (iz_sha_Hash_Sum E_sha_Pad_ok) (E_sha_Pad_ok)
theorem E_sha_Sum_ok : EnvOk Tryz.prog E_sha_Sum := envAdd_ok (f := id_sha_Sum) (o := (inl E_sha_Hash_Sum af_sha_Sum)) (iz_sha_Sum E_sha_Hash_Sum_ok) (E_sha_Hash_Sum_ok)
theorem E_sha_Hash_Write_ok : EnvOk Tryz.prog E_sha_Hash_Write := envAdd_ok (f := id_sha_Hash_Write) (o := (inl E_sha_Sum af_sha_Hash_Write)) (iz_sha_Hash_Write E_sha_Sum_ok) (E_sha_Sum_ok)
theorem E_kdf_Hmac_1_ok : EnvOk Tryz.prog E_kdf_Hmac_1 := envAdd_ok (f := id_kdf_Hmac_1) (o := (inl E_sha_Hash_Write af_kdf_Hmac_1)) (iz_kdf_Hmac_1 E_sha_Hash_Write_ok) (E_sha_Hash_Write_ok)
theorem E_kdf_Hmac_ok : EnvOk Tryz.prog E_kdf_Hmac := envAdd_ok (f := id_kdf_Hmac) (o := (pin E_kdf_Hmac_1 af_kdf_Hmac)) (pureOf_ok (fz_kdf_Hmac E_kdf_Hmac_1_ok).ok) (E_kdf_Hmac_1_ok)
theorem E_kdf_Expand_ok : EnvOk Tryz.prog E_kdf_Expand := envAdd_ok (f := id_kdf_Expand) (o := (pin E_kdf_Hmac af_kdf_Expand)) (pureOf_ok (fz_kdf_Expand E_kdf_Hmac_ok).ok) (E_kdf_Hmac_ok)
theorem E_kdf_Two_ok : EnvOk Tryz.prog E_kdf_Two := envAdd_ok (f := id_kdf_Two) (o := (pin E_kdf_Expand af_kdf_Two)) (pureOf_ok (fz_kdf_Two E_kdf_Expand_ok).ok) (E_kdf_Expand_ok)
theorem E_kdf_Derive_ok : EnvOk Tryz.prog E_kdf_Derive := envAdd_ok (f := id_kdf_Derive) (o := (pin E_kdf_Two af_kdf_Derive)) (pureOf_ok (fz_kdf_Derive E_kdf_Two_ok).ok) (E_kdf_Two_ok)
theorem X_ident_Pair_ok : EnvOk Tryz.prog X_ident_Pair := envAdd_ok (f := id_ident_Pair) (o := (.pure pairT)) ((fz_ident_Pair E_kdf_Derive_ok).tab (by kernel_rfl) (by kernel_rfl) run_tPair1 ((fz_ident_Pair E_kdf_Derive_ok).tab (by kernel_rfl) (by kernel_rfl) run_tPair2 noneO_ok)) (X_curve_Public_ok)
theorem X_curve_Low_ok : EnvOk Tryz.prog X_curve_Low := envAdd_ok (f := id_curve_Low) (o := (pin X_ident_Pair af_curve_Low)) (pureOf_ok (fz_curve_Low X_ident_Pair_ok).ok) (X_ident_Pair_ok)
theorem X_kdf_Two_ok : EnvOk Tryz.prog X_kdf_Two := envAdd_ok (f := id_kdf_Two) (o := (.pure twoT)) ((fz_kdf_Two E_kdf_Expand_ok).tab (by kernel_rfl) (by kernel_rfl) run_tTwo1 ((fz_kdf_Two E_kdf_Expand_ok).tab (by kernel_rfl) (by kernel_rfl) run_tTwo2 noneO_ok)) (X_curve_Low_ok)
theorem X_kdf_Derive_ok : EnvOk Tryz.prog X_kdf_Derive := envAdd_ok (f := id_kdf_Derive) (o := (pin X_kdf_Two af_kdf_Derive)) (pureOf_ok (fz_kdf_Derive X_kdf_Two_ok).ok) (X_kdf_Two_ok)
theorem E_ident_Pair_ok : EnvOk Tryz.prog E_ident_Pair := envAdd_ok (f := id_ident_Pair) (o := (pin E_kdf_Derive af_ident_Pair)) (pureOf_ok (fz_ident_Pair E_kdf_Derive_ok).ok) (E_kdf_Derive_ok)
theorem E_curve_Low_ok : EnvOk Tryz.prog E_curve_Low := envAdd_ok (f := id_curve_Low) (o := (pin E_ident_Pair af_curve_Low)) (pureOf_ok (fz_curve_Low E_ident_Pair_ok).ok) (E_ident_Pair_ok)
theorem X_ratchet_turn_ok : EnvOk Tryz.prog X_ratchet_turn := envAdd_ok (f := id_ratchet_turn) (o := (.pure turnT)) ((fz_ratchet_turn E_curve_Low_ok).tab (by kernel_rfl) (by kernel_rfl) run_tTurn1 ((fz_ratchet_turn E_curve_Low_ok).tab (by kernel_rfl) (by kernel_rfl) run_tTurn2 ((fz_ratchet_turn E_curve_Low_ok).tab (by kernel_rfl) (by kernel_rfl) run_tTurn3 noneO_ok))) (X_kdf_Derive_ok)
theorem X_ratchet_Start_ok : EnvOk Tryz.prog X_ratchet_Start := envAdd_ok (f := id_ratchet_Start) (o := (pin X_ratchet_turn af_ratchet_Start)) (pureOf_ok (fz_ratchet_Start X_ratchet_turn_ok).ok) (X_ratchet_turn_ok)
theorem Wk0_ok : EnvOk Tryz.prog Wk0 := envAdd_ok (f := id_hollowtreelaw17_begun) (o := (.pure begunT)) ((fz_hollowtreelaw17_begun X_ratchet_Start_ok).tab (by kernel_rfl) (by kernel_rfl) run_tBegun noneO_ok) (G10_ok)
theorem X_hollowtreelaw17_begun_ok : EnvOk Tryz.prog X_hollowtreelaw17_begun := envAdd_ok (f := id_hollowtreelaw17_begun) (o := (pin X_ratchet_Start af_hollowtreelaw17_begun)) (pureOf_ok (fz_hollowtreelaw17_begun X_ratchet_Start_ok).ok) (X_ratchet_Start_ok)
theorem X_ratchet_find_1_ok : EnvOk Tryz.prog X_ratchet_find_1 := envAdd_ok (f := id_ratchet_find_1) (o := (inl X_hollowtreelaw17_begun af_ratchet_find_1)) (iz_ratchet_find_1 X_hollowtreelaw17_begun_ok) (X_hollowtreelaw17_begun_ok)
theorem X_slices_IndexFunc_api_Skip_ok : EnvOk Tryz.prog X_slices_IndexFunc_api_Skip := envAdd_ok (f := id_slices_IndexFunc_api_Skip) (o := (inl X_ratchet_find_1 af_slices_IndexFunc_api_Skip)) (iz_slices_IndexFunc_api_Skip X_ratchet_find_1_ok) (X_ratchet_find_1_ok)
theorem X_ratchet_find_ok : EnvOk Tryz.prog X_ratchet_find := envAdd_ok (f := id_ratchet_find) (o := (pin X_slices_IndexFunc_api_Skip af_ratchet_find)) (pureOf_ok (fz_ratchet_find X_slices_IndexFunc_api_Skip_ok).ok) (X_slices_IndexFunc_api_Skip_ok)
theorem X_ratchet_Check_ok : EnvOk Tryz.prog X_ratchet_Check := envAdd_ok (f := id_ratchet_Check) (o := (pin X_ratchet_find af_ratchet_Check)) (pureOf_ok (fz_ratchet_Check X_ratchet_find_ok).ok) (X_ratchet_find_ok)
theorem X_ratchet_none_ok : EnvOk Tryz.prog X_ratchet_none := envAdd_ok (f := id_ratchet_none) (o := (pin X_ratchet_Check af_ratchet_none)) (pureOf_ok (fz_ratchet_none X_ratchet_Check_ok).ok) (X_ratchet_Check_ok)
theorem E_ratchet_turn_ok : EnvOk Tryz.prog E_ratchet_turn := envAdd_ok (f := id_ratchet_turn) (o := (pin E_curve_Low af_ratchet_turn)) (pureOf_ok (fz_ratchet_turn E_curve_Low_ok).ok) (E_curve_Low_ok)
theorem E_ratchet_Start_ok : EnvOk Tryz.prog E_ratchet_Start := envAdd_ok (f := id_ratchet_Start) (o := (pin E_ratchet_turn af_ratchet_Start)) (pureOf_ok (fz_ratchet_Start E_ratchet_turn_ok).ok) (E_ratchet_turn_ok)
theorem E_hollowtreelaw17_begun_ok : EnvOk Tryz.prog E_hollowtreelaw17_begun := envAdd_ok (f := id_hollowtreelaw17_begun) (o := (pin E_ratchet_Start af_hollowtreelaw17_begun)) (pureOf_ok (fz_hollowtreelaw17_begun E_ratchet_Start_ok).ok) (E_ratchet_Start_ok)
theorem E_ratchet_find_1_ok : EnvOk Tryz.prog E_ratchet_find_1 := envAdd_ok (f := id_ratchet_find_1) (o := (inl E_hollowtreelaw17_begun af_ratchet_find_1)) (iz_ratchet_find_1 E_hollowtreelaw17_begun_ok) (E_hollowtreelaw17_begun_ok)
theorem E_slices_IndexFunc_api_Skip_ok : EnvOk Tryz.prog E_slices_IndexFunc_api_Skip := envAdd_ok (f := id_slices_IndexFunc_api_Skip) (o := (inl E_ratchet_find_1 af_slices_IndexFunc_api_Skip)) (iz_slices_IndexFunc_api_Skip E_ratchet_find_1_ok) (E_ratchet_find_1_ok)
theorem E_ratchet_find_ok : EnvOk Tryz.prog E_ratchet_find := envAdd_ok (f := id_ratchet_find) (o := (pin E_slices_IndexFunc_api_Skip af_ratchet_find)) (pureOf_ok (fz_ratchet_find E_slices_IndexFunc_api_Skip_ok).ok) (E_slices_IndexFunc_api_Skip_ok)
theorem E_ratchet_Check_ok : EnvOk Tryz.prog E_ratchet_Check := envAdd_ok (f := id_ratchet_Check) (o := (pin E_ratchet_find af_ratchet_Check)) (pureOf_ok (fz_ratchet_Check E_ratchet_find_ok).ok) (E_ratchet_find_ok)
theorem E_ratchet_none_ok : EnvOk Tryz.prog E_ratchet_none := envAdd_ok (f := id_ratchet_none) (o := (pin E_ratchet_Check af_ratchet_none)) (pureOf_ok (fz_ratchet_none E_ratchet_Check_ok).ok) (E_ratchet_Check_ok)
theorem X_kdf_Step_ok : EnvOk Tryz.prog X_kdf_Step := envAdd_ok (f := id_kdf_Step) (o := (.pure stepT)) ((fz_kdf_Step E_ratchet_none_ok).tab (by kernel_rfl) (by kernel_rfl) run_tStep1 noneO_ok) (X_ratchet_none_ok)
theorem X_slices_Clone_byte_ok : EnvOk Tryz.prog X_slices_Clone_byte := envAdd_ok (f := id_slices_Clone_byte) (o := (.pure cloneO)) (clone_pure (fz_slices_Clone_byte G10_ok)) (X_kdf_Step_ok)
theorem X_octet_put_ok : EnvOk Tryz.prog X_octet_put := envAdd_ok (f := id_octet_put) (o := (pin X_slices_Clone_byte af_octet_put)) (pureOf_ok (fz_octet_put X_slices_Clone_byte_ok).ok) (X_slices_Clone_byte_ok)
theorem X_octet_Put64_ok : EnvOk Tryz.prog X_octet_Put64 := envAdd_ok (f := id_octet_Put64) (o := (pin X_octet_put af_octet_Put64)) (pureOf_ok (fz_octet_Put64 X_octet_put_ok).ok) (X_octet_put_ok)
theorem X_aead_Count_ok : EnvOk Tryz.prog X_aead_Count := envAdd_ok (f := id_aead_Count) (o := (pin X_octet_Put64 af_aead_Count)) (pureOf_ok (fz_aead_Count X_octet_Put64_ok).ok) (X_octet_Put64_ok)
theorem X_octet_Put32_ok : EnvOk Tryz.prog X_octet_Put32 := envAdd_ok (f := id_octet_Put32) (o := (pin X_aead_Count af_octet_Put32)) (pureOf_ok (fz_octet_Put32 X_aead_Count_ok).ok) (X_aead_Count_ok)
theorem X_frame_PutHeader_ok : EnvOk Tryz.prog X_frame_PutHeader := envAdd_ok (f := id_frame_PutHeader) (o := (pin X_octet_Put32 af_frame_PutHeader)) (pureOf_ok (fz_frame_PutHeader X_octet_Put32_ok).ok) (X_octet_Put32_ok)
theorem X_ratchet_text_ok : EnvOk Tryz.prog X_ratchet_text := envAdd_ok (f := id_ratchet_text) (o := (pin X_frame_PutHeader af_ratchet_text)) (pureOf_ok (fz_ratchet_text X_frame_PutHeader_ok).ok) (X_frame_PutHeader_ok)
theorem C0_ok : EnvOk Tryz.prog C0 := envAdd_ok (f := id_chacha_read) (o := (inl G10 af_chacha_read)) (iz_chacha_read G10_ok) (G10_ok)
theorem C1_ok : EnvOk Tryz.prog C1 := envAdd_ok (f := id_chacha_state) (o := (.pure stateO)) (state_pure (fz_chacha_state C0_ok)) (envAdd_ok (f := id_chacha_Quarter) (o := (.pure quarterO)) (quarter_pure (fz_chacha_Quarter C0_ok)) (C0_ok))
theorem C2_ok : EnvOk Tryz.prog C2 := envAdd_ok (f := id_chacha_Block_1) (o := (inl C1 af_chacha_Block_1)) (iz_chacha_Block_1 C1_ok) (C1_ok)
theorem X_chacha_Block_ok : EnvOk Tryz.prog X_chacha_Block := envAdd_ok (f := id_chacha_Block) (o := (.pure blockO)) (block_pure (fzA_chacha_Block_afBlock C2_ok)) (X_ratchet_text_ok)
theorem X_chacha_Xor_ok : EnvOk Tryz.prog X_chacha_Xor := envAdd_ok (f := id_chacha_Xor) (o := (pin X_chacha_Block af_chacha_Xor)) (pureOf_ok (fz_chacha_Xor X_chacha_Block_ok).ok) (X_chacha_Block_ok)
theorem X_poly_Clamp_ok : EnvOk Tryz.prog X_poly_Clamp := envAdd_ok (f := id_poly_Clamp) (o := (pin X_chacha_Xor af_poly_Clamp)) (pureOf_ok (fz_poly_Clamp X_chacha_Xor_ok).ok) (X_chacha_Xor_ok)
theorem X_octet_Get64_ok : EnvOk Tryz.prog X_octet_Get64 := envAdd_ok (f := id_octet_Get64) (o := (pin X_poly_Clamp af_octet_Get64)) (pureOf_ok (fz_octet_Get64 X_poly_Clamp_ok).ok) (X_poly_Clamp_ok)
theorem X_poly_of_ok : EnvOk Tryz.prog X_poly_of := envAdd_ok (f := id_poly_of) (o := (pin X_octet_Get64 af_poly_of)) (pureOf_ok (fz_poly_of X_octet_Get64_ok).ok) (X_octet_Get64_ok)
theorem X_poly_New_ok : EnvOk Tryz.prog X_poly_New := envAdd_ok (f := id_poly_New) (o := (inl X_poly_of af_poly_New)) (iz_poly_New X_poly_of_ok) (X_poly_of_ok)
theorem P0_ok : EnvOk Tryz.prog P0 := envAdd_ok (f := id_poly_limbs_carry) (o := (.pure (un5 carryS))) (carry_pureP (fz_poly_limbs_carry G10_ok)) (G10_ok)
theorem X_poly_limbs_step_ok : EnvOk Tryz.prog X_poly_limbs_step := envAdd_ok (f := id_poly_limbs_step) (o := (.pure (tri5 pstepS))) (pstep_pureP (fz_poly_limbs_step P0_ok)) (X_poly_New_ok)
theorem X_poly_Code_Write_ok : EnvOk Tryz.prog X_poly_Code_Write := envAdd_ok (f := id_poly_Code_Write) (o := (objW X_poly_limbs_step af_poly_Code_Write)) (litG_ok (fz_poly_Code_Write X_poly_limbs_step_ok).ok) (X_poly_limbs_step_ok)
theorem X_poly_limbs_carry_ok : EnvOk Tryz.prog X_poly_limbs_carry := envAdd_ok (f := id_poly_limbs_carry) (o := (.pure (un5 carryS))) (carry_pureP (fz_poly_limbs_carry G10_ok)) (X_poly_Code_Write_ok)
theorem X_poly_limbs_whole_ok : EnvOk Tryz.prog X_poly_limbs_whole := envAdd_ok (f := id_poly_limbs_whole) (o := (pin X_poly_limbs_carry af_poly_limbs_whole)) (pureOf_ok (fz_poly_limbs_whole X_poly_limbs_carry_ok).ok) (X_poly_limbs_carry_ok)
theorem X_poly_Code_Tag_ok : EnvOk Tryz.prog X_poly_Code_Tag := envAdd_ok (f := id_poly_Code_Tag) (o := (inl X_poly_limbs_whole af_poly_Code_Tag)) (iz_poly_Code_Tag X_poly_limbs_whole_ok) (X_poly_limbs_whole_ok)
theorem X_aead_Tag_1_ok : EnvOk Tryz.prog X_aead_Tag_1 := envAdd_ok (f := id_aead_Tag_1) (o := (inl X_poly_Code_Tag af_aead_Tag_1)) (iz_aead_Tag_1 X_poly_Code_Tag_ok) (X_poly_Code_Tag_ok)
theorem X_aead_Tag_ok : EnvOk Tryz.prog X_aead_Tag := envAdd_ok (f := id_aead_Tag) (o := (pin X_aead_Tag_1 af_aead_Tag)) (pureOf_ok (fz_aead_Tag X_aead_Tag_1_ok).ok) (X_aead_Tag_1_ok)
theorem X_aead_Seal_ok : EnvOk Tryz.prog X_aead_Seal := envAdd_ok (f := id_aead_Seal) (o := (pin X_aead_Tag af_aead_Seal)) (pureOf_ok (fz_aead_Seal X_aead_Tag_ok).ok) (X_aead_Tag_ok)
theorem X_slices_Clone_api_Skip_ok : EnvOk Tryz.prog X_slices_Clone_api_Skip := envAdd_ok (f := id_slices_Clone_api_Skip) (o := (inl X_aead_Seal af_slices_Clone_api_Skip)) (iz_slices_Clone_api_Skip X_aead_Seal_ok) (X_aead_Seal_ok)
theorem Wk1_ok : EnvOk Tryz.prog Wk1 := envAdd_ok (f := id_ratchet_Seal) (o := (.pure sealT)) ((fz_ratchet_Seal X_slices_Clone_api_Skip_ok).tab (by kernel_rfl) (by kernel_rfl) run_tSeal noneO_ok) (Wk0_ok)
theorem X_ratchet_Seal_ok : EnvOk Tryz.prog X_ratchet_Seal := envAdd_ok (f := id_ratchet_Seal) (o := (pin X_slices_Clone_api_Skip af_ratchet_Seal)) (pureOf_ok (fz_ratchet_Seal X_slices_Clone_api_Skip_ok).ok) (X_slices_Clone_api_Skip_ok)
theorem X_octet_Equal_ok : EnvOk Tryz.prog X_octet_Equal := envAdd_ok (f := id_octet_Equal) (o := (pin X_ratchet_Seal af_octet_Equal)) (pureOf_ok (fz_octet_Equal X_ratchet_Seal_ok).ok) (X_ratchet_Seal_ok)
theorem X_aead_Open_ok : EnvOk Tryz.prog X_aead_Open := envAdd_ok (f := id_aead_Open) (o := (pin X_octet_Equal af_aead_Open)) (pureOf_ok (fz_aead_Open X_octet_Equal_ok).ok) (X_octet_Equal_ok)
theorem X_octet_Zero_ok : EnvOk Tryz.prog X_octet_Zero := envAdd_ok (f := id_octet_Zero) (o := (pin X_aead_Open af_octet_Zero)) (pureOf_ok (fz_octet_Zero X_aead_Open_ok).ok) (X_aead_Open_ok)
theorem X_ratchet_read_ok : EnvOk Tryz.prog X_ratchet_read := envAdd_ok (f := id_ratchet_read) (o := (pin X_octet_Zero af_ratchet_read)) (pureOf_ok (fz_ratchet_read X_octet_Zero_ok).ok) (X_octet_Zero_ok)
theorem X_ratchet_open_ok : EnvOk Tryz.prog X_ratchet_open := envAdd_ok (f := id_ratchet_open) (o := (pin X_ratchet_read af_ratchet_open)) (pureOf_ok (fz_ratchet_open X_ratchet_read_ok).ok) (X_ratchet_read_ok)
theorem X_ratchet_over_ok : EnvOk Tryz.prog X_ratchet_over := envAdd_ok (f := id_ratchet_over) (o := (inl X_ratchet_open af_ratchet_over)) (iz_ratchet_over X_ratchet_open_ok) (X_ratchet_open_ok)
theorem X_ratchet_pass_ok : EnvOk Tryz.prog X_ratchet_pass := envAdd_ok (f := id_ratchet_pass) (o := (inl X_ratchet_over af_ratchet_pass)) (iz_ratchet_pass X_ratchet_over_ok) (X_ratchet_over_ok)
theorem X_ratchet_Open_1_ok : EnvOk Tryz.prog X_ratchet_Open_1 := envAdd_ok (f := id_ratchet_Open_1) (o := (inl X_ratchet_pass af_ratchet_Open_1)) (iz_ratchet_Open_1 X_ratchet_pass_ok) (X_ratchet_pass_ok)
theorem Wk2_ok : EnvOk Tryz.prog Wk2 := envAdd_ok (f := id_ratchet_Open) (o := (.pure openT)) ((fz_ratchet_Open X_ratchet_Open_1_ok).tab (by kernel_rfl) (by kernel_rfl) run_tOpen noneO_ok) (Wk1_ok)
theorem Lw0_ok : EnvOk Tryz.prog Lw0 := envAdd_ok (f := id_hollowtreelaw17_wakes) (o := (.full wakesC)) (wakes_full (wakes_pure (fz_hollowtreelaw17_wakes Wk2_ok))) (envAdd_ok (f := id_ratchet_Put) (o := (.full rputC)) (rput_full (rput_pure (fzA_ratchet_Put_afPut Pt0_ok))) (envAdd_ok (f := id_ratchet_Get) (o := (.full rgetC)) (rget_full (rget_pure (fzA_ratchet_Get_afGet Gt0_ok))) (envAdd_ok (f := id_ratchet_Same) (o := (.full rsameC)) (rsame_full (rsame_pure (fz_ratchet_Same Sm0_ok))) (envAdd_ok (f := id_octet_Equal) (o := (.full bytesEqC)) (bytesEq_full (bytesEq_pure (fzA_octet_Equal_afOEq G10_ok))) (G10_ok)))))
end Go.Am
/- The document's answer for ratchets: Find, Right. -/
namespace Go.Am
set_option linter.unusedSimpArgs false
set_option maxRecDepth 100000
/-- Part of a row at a place; a cell of it. -/
def rowCut {β : Type} (q : Int) (n : Int) (xs : List (List AV)) (o m : Nat) (k : List AV → Option β) : Option β := if 0 ≤ q ∧ q < n then (xs[0 + q.toNat]?).bind fun l => (cutSegs l o m).bind k else none
def rowRd {β : Type} (q : Int) (n : Int) (xs : List (List AV)) (o : Nat) (k : AV → Option β) : Option β := if 0 ≤ q ∧ q < n then (xs[0 + q.toNat]?).bind fun l => rdSegs l o 0 k else none
theorem rowCut_key {β : Type} {n : Int} {ss : List Sk} {k : List AV → Option β} (j : Nat) (h1 : (j : Int) < n) {s : Sk} (h2 : ss[j]? = some s) : rowCut (j : Int) n (ss.map skR) 0 32 k = k [.ints .u8 32 s.key] := by
  unfold rowCut
  rw [if_pos ⟨by omega, h1⟩, Int.toNat_natCast, Nat.zero_add, List.getElem?_map, h2]
  rfl
theorem rowRd_num {β : Type} {n : Int} {ss : List Sk} {k : AV → Option β} (j : Nat) (h1 : (j : Int) < n) {s : Sk} (h2 : ss[j]? = some s) : rowRd (j : Int) n (ss.map skR) 32 k = k (.int .u32 s.num) := by
  unfold rowRd
  rw [if_pos ⟨by omega, h1⟩, Int.toNat_natCast, Nat.zero_add, List.getElem?_map, h2]
  rfl
/-! ## Find -/
def rfTop : ACode := af_hollowtreeref17_Find.code
def rfL : ACode := rfTop.r.l.r.b.b
def rfCn : Option Canon := some ⟨[], [0, 2, 4, 7], [], [0, 16], 17⟩
def afRFindOf (F : Nat) : AFn := ⟨31, [.t 6], .seq none rfTop.l (.seq none (.seq none rfTop.r.l.l (.block 0 none (.loop F rfCn rfL))) rfTop.r.r)⟩
def afRFind : AFn := afRFindOf manyR
def rfSt (ks : List Int) (n : Int) (len m : Nat) (xs : List (List AV)) (i : Int) : St := ⟨mkT 31 [(0, sl65 0 len), (2, .int .u32 n), (4, pt 16), (7, .int .i64 i)], ⟨17, [roC 0 (.rows 65 m xs), cel 16 [.ints .u8 32 ks]]⟩⟩
def rfK (nid : Nat) : Kont := kBlock 0 none (kSeq G10 none rfTop.r.r (kFn [.t 6] (kOut none nid)))
def t32 : List Bool := List.replicate 32 true
def oneI (n : Int) : Option Res := some (.int .i64 n, ⟨0, []⟩)
theorem rf_round (L : St → Option Res) (nid : Nat) (ks : List Int) (n : Int) (len m : Nat) (xs : List (List AV)) (i : Int) : ev G10 rfL (rfSt ks n len m xs i) (kLoop rfCn L (rfK nid)) =
    bif decide (i < len) then rowCut i len xs 0 32 fun s => eqvK false (.agg t32) (.agg s) (.agg [.ints .u8 32 ks]) fun v => condK (.c v) (rfSt ks n len m xs i)
      (fun _ => rowRd i len xs 32 fun u => binK .eql u (.int .u32 n) fun b => condK (.c b) (rfSt ks n len m xs i) (fun _ => oneI i) (fun _ => L (rfSt ks n len m xs (w63 (i + 1)))))
      (fun _ => L (rfSt ks n len m xs (w63 (i + 1))))
    else oneI (-1) := by kernel_rfl
theorem rf_start (F nid : Nat) (ks : List Int) (n : Int) (len m : Nat) (xs : List (List AV)) : ev G10 (afRFindOf F).code ⟨[sl65 0 len, .agg [.ints .u8 32 ks], .int .u32 n] ++ List.replicate 28 .undef, ⟨16, [roC 0 (.rows 65 m xs)]⟩⟩ (kFn [.t 6] (kOut none nid)) =
    loopK rfCn (ev G10 rfL) F (rfSt ks n len m xs 0) (rfK nid) := by kernel_rfl
theorem eqv_key (a b : List Int) (κ : AV → Option Res) : eqvK false (.agg t32) (.agg [.ints .u8 32 a]) (.agg [.ints .u8 32 b]) κ = κ (.bool ((a == b) && true)) := by kernel_rfl
theorem binK_num (a b : Int) (κ : AV → Option Res) : binK .eql (.int .u32 a) (.int .u32 b) κ = κ (.bool (a == b)) := by kernel_rfl
theorem rf_loop (nid : Nat) (ks : List Int) (n : Int) (m : Nat) (ss : List Sk) (hl : ss.length ≤ 1152921504606846976) : ∀ (r pre : List Sk) (F : Nat), ss = pre ++ r → r.length < F →
    loopK rfCn (ev G10 rfL) F (rfSt ks n ss.length m (ss.map skR) (pre.length : Int)) (rfK nid) = oneI (findI ks n r pre.length)
  | [], pre, F + 1, he, _ => by
    refine (rf_round _ nid ks n ss.length m _ _).trans ?_
    have : ss.length = pre.length := by rw [he]; simp
    rw [this, decide_eq_false (by omega), cond_false]
    rfl
  | s :: r, pre, F + 1, he, hF => by
    have hlen : ss.length = pre.length + r.length + 1 := by rw [he]; simp; omega
    have hs : ss[pre.length]? = some s := by rw [he]; simp
    refine (rf_round _ nid ks n ss.length m _ _).trans ?_
    rw [decide_eq_true (by omega), cond_true, rowCut_key pre.length (by omega) hs]
    have ih := rf_loop nid ks n m ss hl r (pre ++ [s]) F (by rw [he]; simp) (by simp at hF; omega)
    rw [w63_of (by omega) (by omega)]
    have e : (((pre ++ [s]).length : Nat) : Int) = (pre.length : Int) + 1 := by simp
    rw [e] at ih
    rw [ih, rowRd_num pre.length (by omega) hs]
    simp only [findI, List.length_append, List.length_cons, List.length_nil]
    rw [eqv_key]
    simp only [binK_num, condK]
    cases (s.key == ks) <;> cases (s.num == n) <;> rfl
  | _ :: _, _, 0, _, h => by omega
theorem rf_pure {P : Program} {f : FuncId} (F : Fn P f G10 afRFind) : PureOk P f findO := by
  refine F.lit [.sl (.rows 65), .plain, .plain] none fun nid args hp r ha hr => ?_
  unfold findO at hr
  split at hr <;> try (cases hr; done)
  rename_i l ks n
  obtain ⟨ss, hc, hl, hr1⟩ := withSks_eq (k := fun ss => some (AV.int .i64 (findI ks n ss 0), (none : Option Blk))) hr
  cases hr1
  have hv := viewS_rows (by decide) hc
  simp only [List.length_map] at hv
  refine ⟨_, _, by simp only [viewArgs, contR_isSl hc, if_true, hv, Option.bind_some, Option.map_some]; rfl, by simp, ?_⟩
  refine (evFn_eq ..).trans ?_
  refine (rf_start _ nid ks n _ _ _).trans ?_
  exact rf_loop nid ks n _ ss hl ss [] manyR rfl (Nat.lt_of_le_of_lt hl (of_decide_eq_true rfl))
/-! ## Right -/
def rrTop : ACode := af_hollowtreeref17_Right.code
def rrL : ACode := rrTop.r.l.r.b.b
def rrCn : Option Canon := some ⟨[], [1, 3], [], [0, 16], 17⟩
def afRightOf (F : Nat) : AFn := ⟨48, [.t 2], .seq none rrTop.l (.seq none (.seq none rrTop.r.l.l (.block 0 none (.loop F rrCn rrL))) rrTop.r.r)⟩
def afRight : AFn := afRightOf manyR
def Rr0 : Env := envAdd id_hollowtreeref17_Find (.full findC) G10
def rrH (r : Rat) (len m : Nat) (xs : List (List AV)) : Am.Heap := ⟨17, [roC 0 (.rows 65 m xs), cel 16 (r.segs (ckS len))]⟩
def rrSt (r : Rat) (len m : Nat) (xs : List (List AV)) (i : Int) : St := ⟨mkT 48 [(1, pt 16), (3, .int .i64 i)], rrH r len m xs⟩
def rrK (nid : Nat) : Kont := kBlock 0 none (kSeq Rr0 none rrTop.r.r (kFn [.t 2] (kOut none nid)))
def rrD : List AOper := match rrL.r.l.b with | .seq _ (.draw ops) _ => ops | _ => []
def rrC : ACode := rrL.r.l.b.r
def rrI : ACode := rrL.r.r
/-- What the operations of a region have looked at. -/
def footsTo (ops : List AOper) (t : List AV) (k : Nat) : Foots := (List.range k).map fun j => (j, match ops[j]? with | some o => foot o.op t | none => .none)
def f163 : AV := .ptr 16 0 0 163 0
def rrT1 (len : Nat) (i : Int) (s : List AV) : List (Nat × AV) := [(1, pt 16), (3, .int .i64 i), (4, .int .i64 i), (5, f163), (6, ckS len), (7, .int .i64 len), (8, .bool true), (11, f163), (12, ckS len), (13, .int .i64 i), (14, .slice 0 0 (0 + 0) (i.toNat - 0) 65 none), (15, f163), (16, ckS len), (17, .int .i64 i), (18, .ptr 0 (0 + i.toNat) 65 0 0), (19, .ptr 0 (0 + i.toNat) 65 (0 + 0) 0), (20, .agg s)]
def rrKD (K : Kont) : List AV → Am.Heap → Option Res := fun t h => kSeq Rr0 none rrC K .normal ⟨t, { h with next := 17 + stride * rrD.length }⟩
theorem rr_round (L : St → Option Res) (nid : Nat) (r : Rat) (len m : Nat) (xs : List (List AV)) (i : Int) : ev Rr0 rrL (rrSt r len m xs i) (kLoop rrCn L (rrK nid)) =
    bif decide (i < len) then (if 0 ≤ i ∧ i ≤ (len : Int) then rowCut i len xs 0 32 fun s =>
      evDraw Rr0 17 (befs rrD []) 10 (rrD.drop 10) (mkT 48 (rrT1 len i s)) (rrH r len m xs) (footsTo rrD (mkT 48 (rrT1 len i s)) 10) (rrKD (kBlock 1 none (kSeq Rr0 none rrI (kLoop rrCn L (rrK nid))))) else none)
    else rrK nid (.exit 0) ⟨mkT 48 [(1, pt 16), (3, .int .i64 i), (4, .int .i64 i), (5, f163), (6, ckS len), (7, .int .i64 len), (8, .bool false)], rrH r len m xs⟩ := by kernel_rfl
def rrT2 (len : Nat) (i : Int) (k : List Int) (u : AV) : List (Nat × AV) := rrT1 len i [.ints .u8 32 k] ++ [(21, f163), (22, ckS len), (23, .int .i64 i), (24, .ptr 0 (0 + i.toNat) 65 0 0), (25, .ptr 0 (0 + i.toNat) 65 (0 + 32) 0), (26, u)]
theorem rr_two (K : Kont) (r : Rat) (len m : Nat) (xs : List (List AV)) (i : Int) (k : List Int) :
    evDraw Rr0 17 (befs rrD []) 10 (rrD.drop 10) (mkT 48 (rrT1 len i [.ints .u8 32 k])) (rrH r len m xs) (footsTo rrD (mkT 48 (rrT1 len i [.ints .u8 32 k])) 10) (rrKD K) =
    rowRd i len xs 32 fun u => evDraw Rr0 17 (befs rrD []) 16 (rrD.drop 16) (mkT 48 (rrT2 len i k u)) (rrH r len m xs) (footsTo rrD (mkT 48 (rrT2 len i k u)) 16) (rrKD K) := by kernel_rfl
def wSkB (xs : List (List AV)) (k : List Sk → Option Res) : Option Res := (skAll xs).bind fun ss => if ss.length ≤ 1152921504606846976 then k ss else none
theorem rr_three (L : St → Option Res) (nid : Nat) (r : Rat) (len m : Nat) (xs : List (List AV)) (i : Int) (k : List Int) (n : Int) :
    evDraw Rr0 17 (befs rrD []) 16 (rrD.drop 16) (mkT 48 (rrT2 len i k (.int .u32 n))) (rrH r len m xs) (footsTo rrD (mkT 48 (rrT2 len i k (.int .u32 n))) 16) (rrKD (kBlock 1 none (kSeq Rr0 none rrI (kLoop rrCn L (rrK nid))))) =
    wSkB ((xs.drop (0 + 0)).take (i.toNat - 0)) fun ss => bif decide (findI k n ss 0 ≥ 0) then yes false else L (rrSt r len m xs (w63 (i + 1))) := by kernel_rfl
theorem rr_end (nid : Nat) (r : Rat) (len m : Nat) (xs : List (List AV)) (i : Int) : rrK nid (.exit 0) ⟨mkT 48 [(1, pt 16), (3, .int .i64 i), (4, .int .i64 i), (5, f163), (6, ckS len), (7, .int .i64 len), (8, .bool false)], rrH r len m xs⟩ =
    bif decide ((len : Int) ≤ 8) then bif decide (r.sent ≤ 2147483648) then bif decide (r.got ≤ 2147483648) then yes (decide (r.bef ≤ 2147483648)) else yes false else yes false else yes false := by kernel_rfl
theorem rr_start (F nid : Nat) (r : Rat) (len m : Nat) (xs : List (List AV)) : ev Rr0 (afRightOf F).code ⟨[.agg (r.segs (ckS len))] ++ List.replicate 47 .undef, ⟨16, [roC 0 (.rows 65 m xs)]⟩⟩ (kFn [.t 2] (kOut none nid)) =
    loopK rrCn (ev Rr0 rrL) F (rrSt r len m xs 0) (rrK nid) := by kernel_rfl
def rightB (r : Rat) (ss : List Sk) : Bool := checkI r ss == 0
theorem right_of (r : Rat) (ss : List Sk) : (bif dupI [] ss then yes false else bif decide ((ss.length : Int) ≤ 8) then bif decide (r.sent ≤ 2147483648) then bif decide (r.got ≤ 2147483648) then yes (decide (r.bef ≤ 2147483648)) else yes false else yes false else yes false) = yes (rightB r ss) := by
  unfold rightB checkI
  rw [show decide ((ss.length : Int) > 8) = !decide ((ss.length : Int) ≤ 8) by rw [← decide_not]; congr 1; simp, show decide (r.sent > 2147483648) = !decide (r.sent ≤ 2147483648) by rw [← decide_not]; congr 1; simp, show decide (r.got > 2147483648) = !decide (r.got ≤ 2147483648) by rw [← decide_not]; congr 1; simp, show decide (r.bef > 2147483648) = !decide (r.bef ≤ 2147483648) by rw [← decide_not]; congr 1; simp]
  cases dupI [] ss <;> cases decide ((ss.length : Int) ≤ 8) <;> cases decide (r.sent ≤ 2147483648) <;> cases decide (r.got ≤ 2147483648) <;> cases decide (r.bef ≤ 2147483648) <;> rfl
theorem rr_loop (nid : Nat) (r : Rat) (m : Nat) (ss : List Sk) (hl : ss.length ≤ 1152921504606846976) : ∀ (t pre : List Sk) (F : Nat), ss = pre ++ t → t.length < F →
    loopK rrCn (ev Rr0 rrL) F (rrSt r ss.length m (ss.map skR) (pre.length : Int)) (rrK nid) = bif dupI pre t then yes false else
      bif decide ((ss.length : Int) ≤ 8) then bif decide (r.sent ≤ 2147483648) then bif decide (r.got ≤ 2147483648) then yes (decide (r.bef ≤ 2147483648)) else yes false else yes false else yes false
  | [], pre, F + 1, he, _ => by
    refine (rr_round _ nid r ss.length m _ _).trans ?_
    have : ss.length = pre.length := by rw [he]; simp
    rw [decide_eq_false (by omega), cond_false]
    exact rr_end ..
  | s :: t, pre, F + 1, he, hF => by
    have hlen : ss.length = pre.length + t.length + 1 := by rw [he]; simp; omega
    have hs : ss[pre.length]? = some s := by rw [he]; simp
    refine (rr_round _ nid r ss.length m _ _).trans ?_
    rw [decide_eq_true (by omega), cond_true, if_pos ⟨by omega, by omega⟩, rowCut_key pre.length (by omega) hs, rr_two, rowRd_num pre.length (by omega) hs, rr_three]
    have e1 : ((ss.map skR).drop (0 + 0)).take ((pre.length : Int).toNat - 0) = pre.map skR := by
      rw [he]; simp
    rw [e1, wSkB, skAll_rows, Option.bind_some, if_pos (by omega)]
    have ih := rr_loop nid r m ss hl t (pre ++ [s]) F (by rw [he]; simp) (by simp at hF; omega)
    rw [w63_of (by omega) (by omega)]
    have e : (((pre ++ [s]).length : Nat) : Int) = (pre.length : Int) + 1 := by simp
    rw [e] at ih
    rw [ih]
    simp only [dupI]
    cases decide (findI s.key s.num pre 0 ≥ 0) <;> rfl
  | _ :: _, _, 0, _, h => by omega
def rightO : OrcP := fun _ args h => match args with
  | [v] => withRat v fun r l => withSks h l fun ss => some (.bool (rightB r ss), none)
  | _ => none
theorem right_pure {P : Program} {f : FuncId} (F : Fn P f Rr0 afRight) : PureOk P f rightO := by
  refine F.lit [.agg [.rows 65]] none fun nid args hp r ha hr => ?_
  unfold rightO at hr
  split at hr <;> try (cases hr; done)
  obtain ⟨q, l, e, hr1⟩ := withRat_eq hr
  obtain ⟨ss, hc, hl, hr2⟩ := withSks_eq hr1
  cases hr2
  subst e
  refine ⟨_, _, by simp only [viewArgs, check_view hc, Option.bind_some, Option.map_some, List.append_nil]; rfl, by simp, ?_⟩
  refine (evFn_eq ..).trans ?_
  refine (rr_start _ nid q _ _ _).trans ?_
  exact (rr_loop nid q _ ss hl ss [] manyR rfl (Nat.lt_of_le_of_lt hl (of_decide_eq_true rfl))).trans (right_of q ss)
def rightC : OrcF := fun args h κ => match args with
  | [v] => withRat v fun r l => withSks h l fun ss => κ (.bool (rightB r ss)) h
  | _ => none
theorem right_full {P : Program} {f : FuncId} (h : PureOk P f rightO) : FullOk P f rightC := by
  refine pure_full h fun args hp κ => ?_
  unfold rightC rightO
  split
  · simp only [withRat_map, withSks_map, Option.bind_some, obH]
  · rfl
end Go.Am
/- The document's answer for bytes: Low, High, Both, Same. -/
namespace Go.Am
set_option linter.unusedSimpArgs false
set_option maxRecDepth 100000
/-! ## Low -/
def quo256 (x : Int) : Int := w64 (x.tdiv 256)
def rem256 (x : Int) : Int := w8 (x.tmod 256)
def low4 (x : Int) : List Int := [rem256 x, rem256 (quo256 x), rem256 (quo256 (quo256 x)), rem256 (quo256 (quo256 (quo256 x)))]
theorem rlow_run (nid : Nat) (x : Int) : evFn G10 af_hollowtreeref01_Low [.int .u64 x, .int .i64 4] ⟨16, []⟩ (kOut (some (.ints .u8)) nid) = some (.slice nid 0 0 4 0 (some 4), encB nid (some (.segs [.ints .u8 4 (low4 x)]))) := by kernel_rfl
def rlowO (nid : Nat) (args : List AV) (_ : Am.Heap) : Option (AV × Option Blk) := match args with
  | [.int .u64 x, .int .i64 4] => some (.slice nid 0 0 4 0 (some 4), some (.segs [.ints .u8 4 (low4 x)]))
  | _ => none
theorem rlow_pure {P : Program} {f : FuncId} (F : Fn P f G10 af_hollowtreeref01_Low) : PureOk P f rlowO := by
  refine F.lit [.plain, .plain] (some (.ints .u8)) fun nid args hp r ha hr => ?_
  unfold rlowO at hr
  split at hr <;> try (cases hr; done)
  cases hr
  exact ⟨_, _, rfl, by simp, rlow_run nid _⟩
def rlowC : OrcF := fun args h κ => match args with
  | [.int .u64 x, .int .i64 4] => κ (.slice h.next 0 0 4 0 (some 4)) (h.new (.segs [.ints .u8 4 (low4 x)]))
  | _ => none
theorem rlow_full {P : Program} {f : FuncId} (h : PureOk P f rlowO) : FullOk P f rlowC := by
  refine pure_full h fun args hp κ => ?_
  unfold rlowC rlowO
  split
  · rfl
  · first
    | rfl
    | (rename_i hx
       split
       · exact (hx _ rfl).elim
       · rfl)
/-! ## High -/
def hiZ (x : Int) : Int := w64 (x * 256)
def hiS (x c : Int) : Int := w64 (hiZ x + w64 c)
def high4 : List Int → Int
  | [a, b, c, d] => hiS (hiS (hiS (hiS (hiZ (hiZ (hiZ (hiZ 0)))) d) c) b) a
  | _ => 0
theorem high_run (nid : Nat) (a b c d : Int) : evFn G10 af_hollowtreeref01_High [slB 0 4] ⟨16, [roC 0 (.segs [.ints .u8 4 [a, b, c, d]])]⟩ (kOut none nid) = some (.int .u64 (high4 [a, b, c, d]), ⟨0, []⟩) := by kernel_rfl
def highO : OrcP := fun _ args h => match args with
  | [s] => withBs h s fun xs => if xs.length = 4 then some (.int .u64 (high4 xs), none) else none
  | _ => none
theorem high_pure {P : Program} {f : FuncId} (F : Fn P f G10 af_hollowtreeref01_High) : PureOk P f highO := by
  refine F.lit [.sl (.ints .u8)] none fun nid args hp r ha hr => ?_
  unfold highO at hr
  split at hr <;> try (cases hr; done)
  obtain ⟨xs, hc, hl, hr1⟩ := withBs_eq hr
  split at hr1 <;> try (cases hr1; done)
  rename_i h4
  cases hr1
  refine ⟨_, _, by simp only [viewArgs, contI_isSl hc, if_true, viewS_ints hc, Option.bind_some, Option.map_some]; rfl, by simp, ?_⟩
  match xs, h4 with
  | [a, b, c, d], _ => exact high_run nid a b c d
def highC : OrcF := fun args h κ => match args with
  | [s] => withBs h s fun xs => if xs.length = 4 then κ (.int .u64 (high4 xs)) h else none
  | _ => none
theorem high_full {P : Program} {f : FuncId} (h : PureOk P f highO) : FullOk P f highC := by
  refine pure_full h fun args hp κ => ?_
  unfold highC highO
  split
  · rw [withBs_map]
    congr 1
    funext xs
    split <;> rfl
  · first
    | rfl
    | (rename_i hx
       split
       · exact (hx _ rfl).elim
       · rfl)
/-! ## Both -/
def boTop : ACode := af_hollowtreeref01_Both.code
def boL1 : ACode := boTop.r.r.l.r.b.b
def boL2 : ACode := boTop.r.r.r.l.r.b.b
def boCn1 : Option Canon := some ⟨[], [0, 1, 5, 6], [], [0, 1, 16], 17⟩
def boCn2 : Option Canon := some ⟨[], [1, 5, 7], [], [0, 1, 16], 17⟩
def boEnd : ACode := boTop.r.r.r.r
def boS1 (F : Nat) : ACode := .seq none boTop.r.r.l.l (.block 0 none (.loop F boCn1 boL1))
def boS2 (F : Nat) : ACode := .seq none boTop.r.r.r.l.l (.block 2 none (.loop F boCn2 boL2))
def afBothOf (F : Nat) : AFn := ⟨41, [.t 4], .seq none boTop.l (.seq none boTop.r.l (.seq none (boS1 F) (.seq none (boS2 F) boEnd)))⟩
def afBoth : AFn := afBothOf manyR
def boH (l1 l2 m : Nat) (xs ys zs : List Int) : Am.Heap := ⟨17, [roC 0 (.segs [.ints .u8 l1 xs]), roC 1 (.segs [.ints .u8 l2 ys]), cel 16 [.ints .u8 m zs]]⟩
def boSt1 (l1 l2 m n : Nat) (xs ys zs : List Int) (i : Int) : St := ⟨mkT 41 [(0, slB 0 l1), (1, slB 1 l2), (5, .slice 16 0 0 n 0 (some m)), (6, .int .i64 i)], boH l1 l2 m xs ys zs⟩
def boSt2 (l1 l2 m n : Nat) (xs ys zs : List Int) (i : Int) : St := ⟨mkT 41 [(1, slB 1 l2), (5, .slice 16 0 0 n 0 (some m)), (7, .int .i64 i)], boH l1 l2 m xs ys zs⟩
/-- One more number behind a slice, in its place. -/
def inPlace (n m : Nat) (zs : List Int) (x : Int) (k : Nat → List Int → Option Res) : Option Res :=
  fitB (n + 1) (if n + 1 ≤ m then (if IntKind.u8 = IntKind.u8 ∧ 0 + n + 1 ≤ m then k (n + 1) (splice zs (0 + n) [x]) else none) else none)
theorem bo_round1 (L : St → Option Res) (κ : Kont) (l1 l2 m n : Nat) (xs ys zs : List Int) (i : Int) : ev G10 boL1 (boSt1 l1 l2 m n xs ys zs i) (kLoop boCn1 L κ) =
    bif decide (i < l1) then ptAt i l1 xs fun x => inPlace n m zs x fun n' zs' => L (boSt1 l1 l2 m n' xs ys zs' (w63 (i + 1)))
    else κ (.exit 0) (withT 17 (.bool false) (withT 16 (.int .i64 l1) (withT 15 (slB 0 l1) (withT 14 (.int .i64 i) (boSt1 l1 l2 m n xs ys zs i))))) := by kernel_rfl
theorem bo_round2 (L : St → Option Res) (κ : Kont) (l1 l2 m n : Nat) (xs ys zs : List Int) (i : Int) : ev G10 boL2 (boSt2 l1 l2 m n xs ys zs i) (kLoop boCn2 L κ) =
    bif decide (i < l2) then ptAt i l2 ys fun x => inPlace n m zs x fun n' zs' => L (boSt2 l1 l2 m n' xs ys zs' (w63 (i + 1)))
    else κ (.exit 2) (withT 30 (.bool false) (withT 29 (.int .i64 l2) (withT 28 (slB 1 l2) (withT 27 (.int .i64 i) (boSt2 l1 l2 m n xs ys zs i))))) := by kernel_rfl
def boKF (nid : Nat) : Kont := kFn [.t 4] (kOut (some (.ints .u8)) nid)
theorem bo_start (F nid l1 l2 : Nat) (xs ys : List Int) : ev G10 (afBothOf F).code ⟨[slB 0 l1, slB 1 l2] ++ List.replicate 39 .undef, ⟨16, [roC 0 (.segs [.ints .u8 l1 xs]), roC 1 (.segs [.ints .u8 l2 ys])]⟩⟩ (boKF nid) =
    if (0 : Int) ≤ 0 ∧ 0 ≤ w63 ((l1 : Int) + l2) ∧ w63 ((l1 : Int) + l2) * ((1 : Nat) : Int) ≤ 2 ^ 47 then
      loopK boCn1 (ev G10 boL1) F (boSt1 l1 l2 (w63 ((l1 : Int) + l2)).toNat 0 xs ys (List.replicate (w63 ((l1 : Int) + l2)).toNat 0) 0) (kBlock 0 none (kSeq G10 none (.seq none (boS2 F) boEnd) (boKF nid))) else none := by kernel_rfl
theorem bo_mid (F nid l1 l2 m n : Nat) (xs ys zs : List Int) (i : Int) : kBlock 0 none (kSeq G10 none (.seq none (boS2 F) boEnd) (boKF nid)) (.exit 0) (withT 17 (.bool false) (withT 16 (.int .i64 l1) (withT 15 (slB 0 l1) (withT 14 (.int .i64 i) (boSt1 l1 l2 m n xs ys zs i))))) =
    loopK boCn2 (ev G10 boL2) F (boSt2 l1 l2 m n xs ys zs 0) (kBlock 2 none (kSeq G10 none boEnd (boKF nid))) := by kernel_rfl
theorem bo_end (nid l1 l2 m n : Nat) (xs ys zs : List Int) (i : Int) : kBlock 2 none (kSeq G10 none boEnd (boKF nid)) (.exit 2) (withT 30 (.bool false) (withT 29 (.int .i64 l2) (withT 28 (slB 1 l2) (withT 27 (.int .i64 i) (boSt2 l1 l2 (m + 1) n xs ys zs i))))) =
    some (.slice nid 0 0 n 0 (some (m + 1)), encB nid (some (.segs [.ints .u8 (m + 1) zs]))) := by kernel_rfl
theorem splice_fill (A : List Int) (k : Nat) (x : Int) : splice (A ++ List.replicate (k + 1) 0) (0 + A.length) [x] = A ++ [x] ++ List.replicate k 0 := by
  rw [splice, Nat.zero_add, List.take_left', List.drop_append]
  · simp [List.replicate_succ]
  · rfl
theorem inPlace_eq {n m : Nat} {A : List Int} {x : Int} {k : Nat → List Int → Option Res} (hA : A.length = n) (hn : n < m) (hm : m ≤ 140737488351232) : inPlace n m (A ++ List.replicate (m - n) 0) x k = k (n + 1) (A ++ [x] ++ List.replicate (m - (n + 1)) 0) := by
  rw [inPlace, fitB_eq (by omega), if_pos (by omega), if_pos ⟨rfl, by omega⟩]
  obtain ⟨d, hd⟩ : ∃ d, m - n = d + 1 := ⟨m - n - 1, by omega⟩
  rw [hd, ← hA, splice_fill, hA, show m - (n + 1) = d by omega]
theorem bo_loop1 (κ : Kont) (m : Nat) (xs ys : List Int) (hm : xs.length + ys.length = m) (hl : m ≤ 140737488351232) : ∀ (r pre : List Int) (F : Nat), xs = pre ++ r → r.length < F →
    loopK boCn1 (ev G10 boL1) F (boSt1 xs.length ys.length m pre.length xs ys (pre ++ List.replicate (m - pre.length) 0) (pre.length : Int)) κ =
    κ (.exit 0) (withT 17 (.bool false) (withT 16 (.int .i64 xs.length) (withT 15 (slB 0 xs.length) (withT 14 (.int .i64 xs.length) (boSt1 xs.length ys.length m xs.length xs ys (xs ++ List.replicate (m - xs.length) 0) xs.length)))))
  | [], pre, F + 1, he, _ => by
    refine (bo_round1 _ κ xs.length ys.length m _ xs ys _ _).trans ?_
    have : pre = xs := by rw [he]; simp
    rw [this, decide_eq_false (by omega), cond_false]
  | x :: r, pre, F + 1, he, hF => by
    have hlen : xs.length = pre.length + r.length + 1 := by rw [he]; simp; omega
    have hs : xs[pre.length]? = some x := by rw [he]; simp
    refine (bo_round1 _ κ xs.length ys.length m _ xs ys _ _).trans ?_
    rw [decide_eq_true (by omega), cond_true, ptAt_eq pre.length (by omega) hs, inPlace_eq rfl (by omega) hl]
    have ih := bo_loop1 κ m xs ys hm hl r (pre ++ [x]) F (by rw [he]; simp) (by simp at hF; omega)
    rw [w63_of (by omega) (by omega)]
    have e : (((pre ++ [x]).length : Nat) : Int) = (pre.length : Int) + 1 := by simp
    rw [e] at ih
    simp only [List.length_append, List.length_cons, List.length_nil, Nat.zero_add] at ih
    exact ih
  | _ :: _, _, 0, _, h => by omega
theorem bo_loop2 (κ : Kont) (m : Nat) (xs ys : List Int) (hm : xs.length + ys.length = m) (hl : m ≤ 140737488351232) : ∀ (r pre : List Int) (F : Nat), ys = pre ++ r → r.length < F →
    loopK boCn2 (ev G10 boL2) F (boSt2 xs.length ys.length m (xs ++ pre).length xs ys (xs ++ pre ++ List.replicate (m - (xs ++ pre).length) 0) (pre.length : Int)) κ =
    κ (.exit 2) (withT 30 (.bool false) (withT 29 (.int .i64 ys.length) (withT 28 (slB 1 ys.length) (withT 27 (.int .i64 ys.length) (boSt2 xs.length ys.length m m xs ys (xs ++ ys) ys.length)))))
  | [], pre, F + 1, he, _ => by
    refine (bo_round2 _ κ xs.length ys.length m _ xs ys _ _).trans ?_
    have : pre = ys := by rw [he]; simp
    rw [this, decide_eq_false (by omega), cond_false]
    have h2 : (xs ++ ys).length = m := by simp [hm]
    rw [h2, Nat.sub_self, List.replicate_zero, List.append_nil]
  | x :: r, pre, F + 1, he, hF => by
    have hlen : ys.length = pre.length + r.length + 1 := by rw [he]; simp; omega
    have hs : ys[pre.length]? = some x := by rw [he]; simp
    refine (bo_round2 _ κ xs.length ys.length m _ xs ys _ _).trans ?_
    rw [decide_eq_true (by omega), cond_true, ptAt_eq pre.length (by omega) hs, inPlace_eq rfl (by simp; omega) hl]
    have ih := bo_loop2 κ m xs ys hm hl r (pre ++ [x]) F (by rw [he]; simp) (by simp at hF; omega)
    rw [w63_of (by omega) (by omega)]
    have e : (((pre ++ [x]).length : Nat) : Int) = (pre.length : Int) + 1 := by simp
    have e2 : (xs ++ (pre ++ [x])).length = (xs ++ pre).length + 1 := by simp; omega
    rw [e, e2, ← List.append_assoc] at ih
    exact ih
  | _ :: _, _, 0, _, h => by omega
theorem both_run (nid : Nat) (xs ys : List Int) (h0 : xs.length + ys.length ≠ 0) (hl : xs.length + ys.length ≤ 140737488351232) :
    evFn G10 afBoth [slB 0 xs.length, slB 1 ys.length] ⟨16, [roC 0 (.segs [.ints .u8 xs.length xs]), roC 1 (.segs [.ints .u8 ys.length ys])]⟩ (kOut (some (.ints .u8)) nid) =
    some (.slice nid 0 0 (xs.length + ys.length) 0 (some (xs.length + ys.length)), encB nid (some (.segs [.ints .u8 (xs.length + ys.length) (xs ++ ys)]))) := by
  refine (evFn_eq ..).trans ?_
  refine (bo_start manyR nid _ _ xs ys).trans ?_
  have hw : w63 ((xs.length : Int) + ys.length) = ((xs.length + ys.length : Nat) : Int) := by rw [w63_of (by omega) (by omega)]; omega
  rw [hw, if_pos ⟨by omega, by omega, by omega⟩, Int.toNat_natCast]
  have hF : ∀ l : List Int, l.length ≤ 140737488351232 → l.length < manyR := fun l h => Nat.lt_of_le_of_lt h (of_decide_eq_true rfl)
  refine (bo_loop1 _ (xs.length + ys.length) xs ys rfl hl xs [] manyR rfl (hF xs (by omega))).trans ?_
  refine (bo_mid ..).trans ?_
  have h2 := bo_loop2 (kBlock 2 none (kSeq G10 none boEnd (boKF nid))) (xs.length + ys.length) xs ys rfl hl ys [] manyR rfl (hF ys (by omega))
  rw [List.append_nil] at h2
  refine h2.trans ?_
  obtain ⟨m, hm⟩ : ∃ m, xs.length + ys.length = m + 1 := ⟨xs.length + ys.length - 1, by omega⟩
  rw [hm]
  exact bo_end ..
def bothO (nid : Nat) (args : List AV) (h : Am.Heap) : Option (AV × Option Blk) := match args with
  | [s, s'] => withBs h s fun xs => withBs h s' fun ys => if xs.length + ys.length ≠ 0 ∧ xs.length + ys.length ≤ 140737488351232 then
      some (.slice nid 0 0 (xs.length + ys.length) 0 (some (xs.length + ys.length)), some (.segs [.ints .u8 (xs.length + ys.length) (xs ++ ys)])) else none
  | _ => none
theorem both_pure {P : Program} {f : FuncId} (F : Fn P f G10 afBoth) : PureOk P f bothO := by
  refine F.lit [.sl (.ints .u8), .sl (.ints .u8)] (some (.ints .u8)) fun nid args hp r ha hr => ?_
  unfold bothO at hr
  split at hr <;> try (cases hr; done)
  obtain ⟨xs, hc, hl, hr1⟩ := withBs_eq hr
  obtain ⟨ys, hc', hl', hr2⟩ := withBs_eq hr1
  split at hr2 <;> try (cases hr2; done)
  rename_i hb
  cases hr2
  refine ⟨_, _, by simp only [viewArgs, contI_isSl hc, contI_isSl hc', if_true, viewS_ints hc, viewS_ints hc', Option.bind_some, Option.map_some]; rfl, by simp, ?_⟩
  exact both_run nid xs ys hb.1 hb.2
def bothC : OrcF := fun args h κ => match args with
  | [s, s'] => withBs h s fun xs => withBs h s' fun ys => if xs.length + ys.length ≠ 0 ∧ xs.length + ys.length ≤ 140737488351232 then
      κ (.slice h.next 0 0 (xs.length + ys.length) 0 (some (xs.length + ys.length))) (h.new (.segs [.ints .u8 (xs.length + ys.length) (xs ++ ys)])) else none
  | _ => none
theorem both_full {P : Program} {f : FuncId} (h : PureOk P f bothO) : FullOk P f bothC := by
  refine pure_full h fun args hp κ => ?_
  unfold bothC bothO
  split
  · simp only [withBs_map]
    congr 1
    funext xs
    congr 1
    funext ys
    split <;> rfl
  · first
    | rfl
    | (rename_i hx
       split
       · exact (hx _ _ rfl).elim
       · rfl)
/-! ## Same -/
def rsTop : ACode := af_hollowtreeref01_Same.code
def rsL : ACode := rsTop.r.r.l.r.b.b
def rsCn : Option Canon := some ⟨[], [0, 1, 5], [], [0, 1], 16⟩
def afRSameOf (F : Nat) : AFn := ⟨26, [.t 4], .seq none rsTop.l (.seq none rsTop.r.l (.seq none (.seq none rsTop.r.r.l.l (.block 0 none (.loop F rsCn rsL))) rsTop.r.r.r))⟩
def afRSame : AFn := afRSameOf manyR
def rsSt (l1 l2 m1 m2 : Nat) (xs ys : List Int) (i : Int) : St := ⟨mkT 26 [(0, slB 0 l1), (1, slB 1 l2), (5, .int .i64 i)], oeH m1 m2 xs ys⟩
def rsK (nid : Nat) : Kont := kBlock 0 none (kSeq G10 none rsTop.r.r.r (kFn [.t 4] (kOut none nid)))
theorem rs_round (L : St → Option Res) (nid : Nat) (l1 l2 m1 m2 : Nat) (xs ys : List Int) (i : Int) : ev G10 rsL (rsSt l1 l2 m1 m2 xs ys i) (kLoop rsCn L (rsK nid)) =
    bif decide (i < l1) then ptAt i l1 xs fun a => ptAt i l2 ys fun b => (bif a != b then yes false else L (rsSt l1 l2 m1 m2 xs ys (w63 (i + 1)))) else yes true := by kernel_rfl
theorem rs_start (F nid : Nat) (l1 l2 m1 m2 : Nat) (xs ys : List Int) : ev G10 (afRSameOf F).code ⟨[slB 0 l1, slB 1 l2] ++ List.replicate 24 .undef, oeH m1 m2 xs ys⟩ (kFn [.t 4] (kOut none nid)) =
    bif (l1 : Int) != (l2 : Int) then yes false else loopK rsCn (ev G10 rsL) F (rsSt l1 l2 m1 m2 xs ys 0) (rsK nid) := by kernel_rfl
theorem rs_loop (nid : Nat) (m1 m2 : Nat) (xs ys : List Int) (hl : xs.length ≤ 1152921504606846976) (hle : xs.length = ys.length) : ∀ (r u pre pre' : List Int) (F : Nat), xs = pre ++ r → ys = pre' ++ u → pre.length = pre'.length → r.length < F →
    loopK rsCn (ev G10 rsL) F (rsSt xs.length ys.length m1 m2 xs ys (pre.length : Int)) (rsK nid) = yes (r == u)
  | [], [], pre, pre', F + 1, he, _, _, _ => by
    refine (rs_round _ nid xs.length ys.length m1 m2 _ _ _).trans ?_
    have : xs.length = pre.length := by rw [he]; simp
    rw [this, decide_eq_false (by omega), cond_false]
    rfl
  | s :: r, t :: u, pre, pre', F + 1, he, he', hp, hF => by
    have hlen : xs.length = pre.length + r.length + 1 := by rw [he]; simp; omega
    have hs : xs[pre.length]? = some s := by rw [he]; simp
    have ht : ys[pre.length]? = some t := by rw [he', hp]; simp
    refine (rs_round _ nid xs.length ys.length m1 m2 _ _ _).trans ?_
    rw [decide_eq_true (by omega), cond_true, ptAt_eq pre.length (by omega) hs, ptAt_eq pre.length (by omega) ht]
    have ih := rs_loop nid m1 m2 xs ys hl hle r u (pre ++ [s]) (pre' ++ [t]) F (by rw [he]; simp) (by rw [he']; simp) (by simp [hp]) (by simp at hF; omega)
    rw [w63_of (by omega) (by omega)]
    have e : (((pre ++ [s]).length : Nat) : Int) = (pre.length : Int) + 1 := by simp
    rw [e] at ih
    rw [ih, List.cons_beq_cons, bne]
    cases (s == t) <;> rfl
  | [], _ :: _, pre, pre', _, he, he', hp, _ => by rw [he, he'] at hle; simp at hle; omega
  | _ :: _, [], pre, pre', _, he, he', hp, _ => by rw [he, he'] at hle; simp at hle; omega
  | _ :: _, _ :: _, _, _, 0, _, _, _, h => by omega
theorem rs_pure {P : Program} {f : FuncId} (F : Fn P f G10 afRSame) : PureOk P f bytesEqO := by
  refine F.lit [.sl (.ints .u8), .sl (.ints .u8)] none fun nid args hp r ha hr => ?_
  unfold bytesEqO at hr
  split at hr <;> try (cases hr; done)
  obtain ⟨xs, hc, hl, hr1⟩ := withBs_eq hr
  obtain ⟨ys, hc', hl', hr2⟩ := withBs_eq hr1
  cases hr2
  refine ⟨_, _, by simp only [viewArgs, contI_isSl hc, contI_isSl hc', if_true, viewS_ints hc, viewS_ints hc', Option.bind_some, Option.map_some]; rfl, by simp, ?_⟩
  refine (evFn_eq ..).trans ?_
  refine (rs_start _ nid _ _ _ _ _ _).trans ?_
  by_cases h : xs.length = ys.length
  · rw [show ((xs.length : Int) != (ys.length : Int)) = false by simp [h], cond_false]
    exact rs_loop nid _ _ xs ys (by omega) h xs ys [] [] manyR rfl rfl rfl (Nat.lt_of_le_of_lt hl (of_decide_eq_true rfl))
  · rw [show ((xs.length : Int) != (ys.length : Int)) = true by simp; omega, cond_true]
    have : (xs == ys) = false := by
      rw [Bool.eq_false_iff, ne_eq, beq_iff_eq]
      rintro rfl; exact h rfl
    rw [this]
    rfl
end Go.Am
