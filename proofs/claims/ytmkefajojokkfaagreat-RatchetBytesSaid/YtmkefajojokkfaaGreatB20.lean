/- RatchetBytes: part 21 of 39 of its proof. -/
import Derived.Test.YtmkefajojokkfaaGreatB19
set_option linter.unusedVariables false
set_option linter.unusedSimpArgs false
namespace Go.Am
/-- A function on an object and a number. -/
def objP (Γ : Env) (af : AFn) : Orc := .full fun args h κ => (litG [.obj, .arg .plain] false [] 16 (fun args h κ => evFn Γ af args h κ) args h).bind fun r => κ r.1 r.2
def F_ratchet_find_1 : Env := envAdd id_ratchet_find_1 (inl E_hollowtreelaw17_wakes af_ratchet_find_1) E_hollowtreelaw17_wakes
def F_slices_IndexFunc_api_Skip : Env := envAdd id_slices_IndexFunc_api_Skip (inl F_ratchet_find_1 af_slices_IndexFunc_api_Skip) F_ratchet_find_1
def F_ratchet_find : Env := envAdd id_ratchet_find (pin F_slices_IndexFunc_api_Skip af_ratchet_find) F_slices_IndexFunc_api_Skip
def F_ratchet_Check : Env := envAdd id_ratchet_Check (pin F_ratchet_find af_ratchet_Check) F_ratchet_find
def F_slices_Clone_byte : Env := envAdd id_slices_Clone_byte (.pure cloneO) F_ratchet_Check
def F_octet_put : Env := envAdd id_octet_put (inl F_slices_Clone_byte af_octet_put) F_slices_Clone_byte
def F_octet_Put32 : Env := envAdd id_octet_Put32 (inl F_octet_put af_octet_Put32) F_octet_put
def F_octet_Put32_k : Env := envAdd (id_octet_Put32 + 1000000) (.pure fun _ _ _ => none) F_octet_Put32
def F_ratchet_Put : Env := envAdd id_ratchet_Put (inl F_octet_Put32_k af_ratchet_Put) F_octet_Put32_k
def F_octet_Read : Env := envAdd id_octet_Read (inl F_ratchet_Put af_octet_Read) F_ratchet_Put
def F_octet_spot_take : Env := envAdd id_octet_spot_take (inl F_octet_Read af_octet_spot_take) F_octet_Read
def F_octet_Reader_Raw : Env := envAdd id_octet_Reader_Raw (objP F_octet_spot_take af_octet_Reader_Raw) F_octet_spot_take
def F_octet_Reader_Raw_k : Env := envAdd (id_octet_Reader_Raw + 1000000) (.pure fun _ _ _ => none) F_octet_Reader_Raw
def F_octet_Reader_Key : Env := envAdd id_octet_Reader_Key (inl F_octet_Reader_Raw_k af_octet_Reader_Key) F_octet_Reader_Raw_k
def F_octet_Get64 : Env := envAdd id_octet_Get64 (inl F_octet_Reader_Key af_octet_Get64) F_octet_Reader_Key
def F_octet_Reader_U32 : Env := envAdd id_octet_Reader_U32 (inl F_octet_Get64 af_octet_Reader_U32) F_octet_Get64
def F_ratchet_Get : Env := envAdd id_ratchet_Get (inl F_octet_Reader_U32 af_ratchet_Get) F_octet_Reader_U32
def F_slices_Equal_api_Skip : Env := envAdd id_slices_Equal_api_Skip (pin F_ratchet_Get af_slices_Equal_api_Skip) F_ratchet_Get
def F_ratchet_Same : Env := envAdd id_ratchet_Same (inl F_slices_Equal_api_Skip af_ratchet_Same) F_slices_Equal_api_Skip
-- last: F_ratchet_Same
end Go.Am
/- Calls with known arguments, as oracles: a table of arguments and values. The values are printed; what they are is proved by running. -/
namespace Go.Am
set_option linter.unusedSimpArgs false
mutual
/-- Are these the same values? Of the values that may stand in a table. -/
def avEq : AV → AV → Bool
  | .bool a, .bool b => a == b
  | .int k a, .int l b => (k == l) && (a == b)
  | .str a, .str b => a.data == b.data
  | .nils, .nils => true
  | .ints k n a, .ints l m b => (k == l) && (n == m) && (a == b)
  | .agg a, .agg b => avEqL a b
  | _, _ => false
def avEqL : List AV → List AV → Bool
  | [], [] => true
  | a :: l, b :: m => avEq a b && avEqL l m
  | _, _ => false
end
mutual
theorem avEq_sound : ∀ (a b : AV), avEq a b = true → a = b
  | .bool a, b, h => by cases b <;> simp [avEq] at h; rw [h]
  | .int k a, b, h => by cases b <;> simp [avEq] at h; rw [h.1, h.2]
  | .str a, b, h => by
    cases b <;> simp [avEq] at h
    rename_i b
    cases a; cases b; simp only at h; rw [h]
  | .nils, b, h => by cases b <;> simp [avEq] at h; rfl
  | .ints k n a, b, h => by cases b <;> simp [avEq] at h; rw [h.1.1, h.1.2, h.2]
  | .agg a, b, h => by
    cases b <;> simp [avEq] at h
    rw [avEqL_sound a _ h]
  | .undef, b, h => by simp [avEq] at h
  | .nilp, b, h => by simp [avEq] at h
  | .ptr .., b, h => by simp [avEq] at h
  | .slice .., b, h => by simp [avEq] at h
  | .nilf, b, h => by simp [avEq] at h
  | .func .., b, h => by simp [avEq] at h
  | .win .., b, h => by simp [avEq] at h
  | .tuple .., b, h => by simp [avEq] at h
  | .isl .., b, h => by simp [avEq] at h
  | .islR .., b, h => by simp [avEq] at h
  | .emp, b, h => by simp [avEq] at h
  | .nne, b, h => by simp [avEq] at h
  | .fptr .., b, h => by simp [avEq] at h
theorem avEqL_sound : ∀ (a b : List AV), avEqL a b = true → a = b
  | [], b, h => by cases b <;> simp [avEqL] at h; rfl
  | x :: l, b, h => by
    cases b <;> simp [avEqL] at h
    rw [avEq_sound x _ h.1, avEqL_sound l _ h.2]
end
abbrev OrcP := Nat → List AV → Heap → Option (AV × Option Blk)
/-- One line of a table, what is behind it. -/
def tabO (A : List AV) (v : AV) (o : OrcP) : OrcP := fun nid args h => if avEqL args A then some (v, none) else o nid args h
def noneO : OrcP := fun _ _ _ => none
theorem noneO_ok {P : Program} {f : FuncId} : PureOk P f noneO := fun _ _ _ _ _ _ _ _ h => by cases h
theorem Fn.tab {P : Program} {f : FuncId} {Γ : Env} {af : AFn} (F : Fn P f Γ af) {A : List AV} {v : AV} {o : OrcP} (ha : avIds.avIdsL A = []) (hv : avIds v = []) (h : evFn Γ af A ⟨16, []⟩ kV = some (v, ⟨0, []⟩)) (ho : PureOk P f o) : PureOk P f (tabO A v o) := by
  intro nid args hp v' ob ι w vs hk R hn hvs
  unfold tabO at hk
  split at hk
  · rename_i he
    obtain rfl := avEqL_sound _ _ he
    cases hk
    exact F.plain (o' := fun _ args' _ => if avEqL args' args then some (v, none) else none) (fun nid args' hp r _ hr => by
      split at hr
      · rename_i he'
        obtain rfl := avEqL_sound _ _ he'
        cases hr
        exact ⟨ha, hv, rfl, h⟩
      · cases hr) nid args hp v none ι w vs (by simp only; rw [if_pos he]) R hn hvs
  · exact ho nid args hp v' ob ι w vs hk R hn hvs
def tPair1A : List AV := [.agg [.ints .u8 32 [1, 0, 0, 0, 0, 0, 0, 0, 0, 0, 0, 0, 0, 0, 0, 0, 0, 0, 0, 0, 0, 0, 0, 0, 0, 0, 0, 0, 0, 0, 0, 0]], .agg [.ints .u8 32 [66, 44, 142, 122, 98, 39, 215, 188, 161, 53, 11, 62, 43, 183, 39, 159, 120, 151, 184, 123, 182, 133, 75, 120, 60, 96, 232, 3, 17, 174, 48, 121]]]
def tPair1V : AV := .tuple [.agg [.ints .u8 32 [12, 230, 37, 103, 236, 98, 175, 233, 39, 226, 209, 202, 128, 93, 106, 74, 170, 14, 6, 229, 54, 37, 181, 233, 135, 14, 182, 116, 78, 94, 78, 251], .bool true], .int .i64 0]
def tPair2A : List AV := [.agg [.ints .u8 32 [8, 0, 0, 0, 0, 0, 0, 0, 0, 0, 0, 0, 0, 0, 0, 0, 0, 0, 0, 0, 0, 0, 0, 0, 0, 0, 0, 0, 0, 0, 0, 0]], .agg [.ints .u8 32 [47, 229, 125, 163, 71, 205, 98, 67, 21, 40, 218, 172, 95, 187, 41, 7, 48, 255, 246, 132, 175, 196, 207, 194, 237, 144, 153, 95, 88, 203, 59, 116]]]
def tPair2V : AV := .tuple [.agg [.ints .u8 32 [12, 230, 37, 103, 236, 98, 175, 233, 39, 226, 209, 202, 128, 93, 106, 74, 170, 14, 6, 229, 54, 37, 181, 233, 135, 14, 182, 116, 78, 94, 78, 251], .bool false], .int .i64 0]
def tTwo1A : List AV := [.agg [.ints .u8 32 [12, 230, 37, 103, 236, 98, 175, 233, 39, 226, 209, 202, 128, 93, 106, 74, 170, 14, 6, 229, 54, 37, 181, 233, 135, 14, 182, 116, 78, 94, 78, 251]], .str ⟨#[114, 97, 116, 99, 104, 101, 116]⟩, .nils]
def tTwo1V : AV := .tuple [.agg [.ints .u8 32 [135, 231, 97, 186, 42, 32, 198, 13, 239, 77, 224, 117, 195, 206, 96, 0, 77, 191, 42, 230, 128, 253, 245, 100, 124, 148, 98, 18, 97, 5, 99, 166]], .agg [.ints .u8 32 [10, 57, 142, 38, 236, 251, 172, 183, 238, 143, 206, 40, 6, 181, 6, 150, 198, 108, 147, 30, 58, 130, 223, 173, 189, 132, 213, 210, 200, 142, 216, 146]]]
def tTwo2A : List AV := [.agg [.ints .u8 32 [12, 230, 37, 103, 236, 98, 175, 233, 39, 226, 209, 202, 128, 93, 106, 74, 170, 14, 6, 229, 54, 37, 181, 233, 135, 14, 182, 116, 78, 94, 78, 251]], .str ⟨#[115, 101, 99, 111, 110, 100]⟩, .nils]
def tTwo2V : AV := .tuple [.agg [.ints .u8 32 [63, 103, 3, 217, 51, 10, 69, 104, 56, 117, 0, 68, 77, 51, 17, 10, 189, 212, 60, 121, 88, 134, 253, 240, 171, 164, 189, 152, 238, 42, 96, 32]], .agg [.ints .u8 32 [200, 243, 96, 158, 191, 110, 252, 168, 84, 77, 50, 62, 236, 128, 59, 250, 65, 117, 194, 229, 200, 231, 65, 88, 160, 46, 117, 208, 202, 116, 227, 247]]]
def tTurn1A : List AV := [.agg [.ints .u8 32 [135, 231, 97, 186, 42, 32, 198, 13, 239, 77, 224, 117, 195, 206, 96, 0, 77, 191, 42, 230, 128, 253, 245, 100, 124, 148, 98, 18, 97, 5, 99, 166]], .agg [.ints .u8 32 [24, 0, 0, 0, 0, 0, 0, 0, 0, 0, 0, 0, 0, 0, 0, 0, 0, 0, 0, 0, 0, 0, 0, 0, 0, 0, 0, 0, 0, 0, 0, 0]], .agg [.ints .u8 32 [66, 44, 142, 122, 98, 39, 215, 188, 161, 53, 11, 62, 43, 183, 39, 159, 120, 151, 184, 123, 182, 133, 75, 120, 60, 96, 232, 3, 17, 174, 48, 121]]]
def tTurn1V : AV := .tuple [.agg [.ints .u8 32 [247, 151, 85, 241, 196, 97, 108, 223, 160, 185, 74, 58, 30, 148, 160, 244, 61, 123, 200, 1, 102, 128, 201, 139, 87, 170, 82, 126, 221, 18, 110, 43]], .agg [.ints .u8 32 [191, 107, 181, 202, 175, 67, 219, 115, 108, 206, 165, 80, 96, 173, 115, 67, 38, 236, 154, 33, 179, 152, 30, 93, 42, 4, 166, 57, 243, 74, 147, 214]]]
def tTurn2A : List AV := [.agg [.ints .u8 32 [135, 231, 97, 186, 42, 32, 198, 13, 239, 77, 224, 117, 195, 206, 96, 0, 77, 191, 42, 230, 128, 253, 245, 100, 124, 148, 98, 18, 97, 5, 99, 166]], .agg [.ints .u8 32 [8, 0, 0, 0, 0, 0, 0, 0, 0, 0, 0, 0, 0, 0, 0, 0, 0, 0, 0, 0, 0, 0, 0, 0, 0, 0, 0, 0, 0, 0, 0, 0]], .agg [.ints .u8 32 [174, 139, 4, 111, 150, 203, 88, 65, 200, 111, 216, 182, 61, 61, 98, 101, 178, 9, 223, 160, 223, 102, 189, 170, 66, 183, 169, 252, 89, 119, 149, 35]]]
def tTurn2V : AV := .tuple [.agg [.ints .u8 32 [247, 151, 85, 241, 196, 97, 108, 223, 160, 185, 74, 58, 30, 148, 160, 244, 61, 123, 200, 1, 102, 128, 201, 139, 87, 170, 82, 126, 221, 18, 110, 43]], .agg [.ints .u8 32 [191, 107, 181, 202, 175, 67, 219, 115, 108, 206, 165, 80, 96, 173, 115, 67, 38, 236, 154, 33, 179, 152, 30, 93, 42, 4, 166, 57, 243, 74, 147, 214]]]
def tTurn3A : List AV := [.agg [.ints .u8 32 [247, 151, 85, 241, 196, 97, 108, 223, 160, 185, 74, 58, 30, 148, 160, 244, 61, 123, 200, 1, 102, 128, 201, 139, 87, 170, 82, 126, 221, 18, 110, 43]], .agg [.ints .u8 32 [40, 0, 0, 0, 0, 0, 0, 0, 0, 0, 0, 0, 0, 0, 0, 0, 0, 0, 0, 0, 0, 0, 0, 0, 0, 0, 0, 0, 0, 0, 0, 0]], .agg [.ints .u8 32 [174, 139, 4, 111, 150, 203, 88, 65, 200, 111, 216, 182, 61, 61, 98, 101, 178, 9, 223, 160, 223, 102, 189, 170, 66, 183, 169, 252, 89, 119, 149, 35]]]
def tTurn3V : AV := .tuple [.agg [.ints .u8 32 [224, 93, 230, 242, 114, 43, 49, 139, 71, 118, 228, 214, 117, 202, 135, 92, 101, 218, 208, 103, 230, 168, 133, 252, 111, 66, 123, 185, 128, 206, 56, 51]], .agg [.ints .u8 32 [114, 245, 55, 88, 41, 49, 117, 98, 62, 126, 115, 18, 225, 94, 134, 49, 12, 58, 117, 49, 24, 28, 243, 188, 22, 255, 56, 134, 34, 170, 159, 199]]]
def tStep1A : List AV := [.agg [.ints .u8 32 [191, 107, 181, 202, 175, 67, 219, 115, 108, 206, 165, 80, 96, 173, 115, 67, 38, 236, 154, 33, 179, 152, 30, 93, 42, 4, 166, 57, 243, 74, 147, 214]]]
def tStep1V : AV := .tuple [.agg [.ints .u8 32 [185, 108, 249, 209, 142, 88, 177, 244, 226, 138, 28, 11, 92, 139, 84, 6, 220, 159, 96, 66, 141, 113, 254, 50, 72, 17, 254, 116, 98, 200, 204, 178]], .agg [.ints .u8 32 [175, 32, 8, 132, 122, 255, 69, 195, 153, 96, 132, 108, 117, 248, 25, 40, 76, 164, 17, 94, 221, 155, 79, 11, 38, 206, 229, 221, 20, 159, 150, 110]]]
def tBlock0A : List AV := [.agg [.ints .u8 32 [175, 32, 8, 132, 122, 255, 69, 195, 153, 96, 132, 108, 117, 248, 25, 40, 76, 164, 17, 94, 221, 155, 79, 11, 38, 206, 229, 221, 20, 159, 150, 110]], .int .u32 0, .agg [.ints .u8 12 [0, 0, 0, 0, 0, 0, 0, 0, 0, 0, 0, 0]]]
def tBlock0V : AV := .agg [.ints .u8 64 [31, 137, 201, 247, 160, 161, 217, 189, 74, 89, 69, 141, 47, 244, 60, 55, 43, 146, 153, 222, 254, 154, 235, 111, 42, 168, 44, 201, 121, 49, 8, 8, 222, 183, 221, 102, 34, 201, 189, 116, 231, 251, 197, 182, 53, 220, 224, 81, 93, 228, 135, 33, 62, 228, 38, 176, 212, 121, 192, 50, 170, 247, 219, 192]]
def tBlock1A : List AV := [.agg [.ints .u8 32 [175, 32, 8, 132, 122, 255, 69, 195, 153, 96, 132, 108, 117, 248, 25, 40, 76, 164, 17, 94, 221, 155, 79, 11, 38, 206, 229, 221, 20, 159, 150, 110]], .int .u32 1, .agg [.ints .u8 12 [0, 0, 0, 0, 0, 0, 0, 0, 0, 0, 0, 0]]]
def tBlock1V : AV := .agg [.ints .u8 64 [176, 246, 151, 122, 186, 222, 120, 105, 229, 162, 8, 178, 16, 23, 71, 210, 141, 148, 209, 118, 71, 75, 135, 83, 109, 111, 80, 209, 91, 110, 66, 246, 94, 134, 77, 228, 236, 250, 110, 32, 227, 102, 240, 192, 86, 85, 107, 102, 153, 122, 200, 30, 66, 22, 124, 217, 242, 231, 87, 45, 37, 59, 112, 212]]
def tBegunA : List AV := [.agg [.ints .u8 32 [1, 0, 0, 0, 0, 0, 0, 0, 0, 0, 0, 0, 0, 0, 0, 0, 0, 0, 0, 0, 0, 0, 0, 0, 0, 0, 0, 0, 0, 0, 0, 0]], .agg [.ints .u8 32 [8, 0, 0, 0, 0, 0, 0, 0, 0, 0, 0, 0, 0, 0, 0, 0, 0, 0, 0, 0, 0, 0, 0, 0, 0, 0, 0, 0, 0, 0, 0, 0]], .agg [.ints .u8 32 [24, 0, 0, 0, 0, 0, 0, 0, 0, 0, 0, 0, 0, 0, 0, 0, 0, 0, 0, 0, 0, 0, 0, 0, 0, 0, 0, 0, 0, 0, 0, 0]], .agg [.ints .u8 32 [32, 0, 0, 0, 0, 0, 0, 0, 0, 0, 0, 0, 0, 0, 0, 0, 0, 0, 0, 0, 0, 0, 0, 0, 0, 0, 0, 0, 0, 0, 0, 0]]]
def tBegunV : AV := .tuple [.agg [.ints .u8 32 [247, 151, 85, 241, 196, 97, 108, 223, 160, 185, 74, 58, 30, 148, 160, 244, 61, 123, 200, 1, 102, 128, 201, 139, 87, 170, 82, 126, 221, 18, 110, 43], .ints .u8 32 [24, 0, 0, 0, 0, 0, 0, 0, 0, 0, 0, 0, 0, 0, 0, 0, 0, 0, 0, 0, 0, 0, 0, 0, 0, 0, 0, 0, 0, 0, 0, 0], .ints .u8 32 [66, 44, 142, 122, 98, 39, 215, 188, 161, 53, 11, 62, 43, 183, 39, 159, 120, 151, 184, 123, 182, 133, 75, 120, 60, 96, 232, 3, 17, 174, 48, 121], .ints .u8 32 [191, 107, 181, 202, 175, 67, 219, 115, 108, 206, 165, 80, 96, 173, 115, 67, 38, 236, 154, 33, 179, 152, 30, 93, 42, 4, 166, 57, 243, 74, 147, 214], .ints .u8 32 [63, 103, 3, 217, 51, 10, 69, 104, 56, 117, 0, 68, 77, 51, 17, 10, 189, 212, 60, 121, 88, 134, 253, 240, 171, 164, 189, 152, 238, 42, 96, 32], .int .u32 0, .int .u32 0, .int .u32 0, .nils], .agg [.ints .u8 32 [135, 231, 97, 186, 42, 32, 198, 13, 239, 77, 224, 117, 195, 206, 96, 0, 77, 191, 42, 230, 128, 253, 245, 100, 124, 148, 98, 18, 97, 5, 99, 166], .ints .u8 32 [8, 0, 0, 0, 0, 0, 0, 0, 0, 0, 0, 0, 0, 0, 0, 0, 0, 0, 0, 0, 0, 0, 0, 0, 0, 0, 0, 0, 0, 0, 0, 0], .ints .u8 32 [47, 229, 125, 163, 71, 205, 98, 67, 21, 40, 218, 172, 95, 187, 41, 7, 48, 255, 246, 132, 175, 196, 207, 194, 237, 144, 153, 95, 88, 203, 59, 116], .ints .u8 32 [63, 103, 3, 217, 51, 10, 69, 104, 56, 117, 0, 68, 77, 51, 17, 10, 189, 212, 60, 121, 88, 134, 253, 240, 171, 164, 189, 152, 238, 42, 96, 32], .ints .u8 32 [0, 0, 0, 0, 0, 0, 0, 0, 0, 0, 0, 0, 0, 0, 0, 0, 0, 0, 0, 0, 0, 0, 0, 0, 0, 0, 0, 0, 0, 0, 0, 0], .int .u32 0, .int .u32 0, .int .u32 0, .nils], .bool true]
def tSealA : List AV := [.agg [.ints .u8 32 [247, 151, 85, 241, 196, 97, 108, 223, 160, 185, 74, 58, 30, 148, 160, 244, 61, 123, 200, 1, 102, 128, 201, 139, 87, 170, 82, 126, 221, 18, 110, 43], .ints .u8 32 [24, 0, 0, 0, 0, 0, 0, 0, 0, 0, 0, 0, 0, 0, 0, 0, 0, 0, 0, 0, 0, 0, 0, 0, 0, 0, 0, 0, 0, 0, 0, 0], .ints .u8 32 [66, 44, 142, 122, 98, 39, 215, 188, 161, 53, 11, 62, 43, 183, 39, 159, 120, 151, 184, 123, 182, 133, 75, 120, 60, 96, 232, 3, 17, 174, 48, 121], .ints .u8 32 [191, 107, 181, 202, 175, 67, 219, 115, 108, 206, 165, 80, 96, 173, 115, 67, 38, 236, 154, 33, 179, 152, 30, 93, 42, 4, 166, 57, 243, 74, 147, 214], .ints .u8 32 [63, 103, 3, 217, 51, 10, 69, 104, 56, 117, 0, 68, 77, 51, 17, 10, 189, 212, 60, 121, 88, 134, 253, 240, 171, 164, 189, 152, 238, 42, 96, 32], .int .u32 0, .int .u32 0, .int .u32 0, .nils], .str ⟨#[104, 105]⟩]
def tSealV : AV := .tuple [.agg [.ints .u8 32 [247, 151, 85, 241, 196, 97, 108, 223, 160, 185, 74, 58, 30, 148, 160, 244, 61, 123, 200, 1, 102, 128, 201, 139, 87, 170, 82, 126, 221, 18, 110, 43], .ints .u8 32 [24, 0, 0, 0, 0, 0, 0, 0, 0, 0, 0, 0, 0, 0, 0, 0, 0, 0, 0, 0, 0, 0, 0, 0, 0, 0, 0, 0, 0, 0, 0, 0], .ints .u8 32 [66, 44, 142, 122, 98, 39, 215, 188, 161, 53, 11, 62, 43, 183, 39, 159, 120, 151, 184, 123, 182, 133, 75, 120, 60, 96, 232, 3, 17, 174, 48, 121], .ints .u8 32 [185, 108, 249, 209, 142, 88, 177, 244, 226, 138, 28, 11, 92, 139, 84, 6, 220, 159, 96, 66, 141, 113, 254, 50, 72, 17, 254, 116, 98, 200, 204, 178], .ints .u8 32 [63, 103, 3, 217, 51, 10, 69, 104, 56, 117, 0, 68, 77, 51, 17, 10, 189, 212, 60, 121, 88, 134, 253, 240, 171, 164, 189, 152, 238, 42, 96, 32], .int .u32 1, .int .u32 0, .int .u32 0, .nils], .agg [.ints .u8 32 [174, 139, 4, 111, 150, 203, 88, 65, 200, 111, 216, 182, 61, 61, 98, 101, 178, 9, 223, 160, 223, 102, 189, 170, 66, 183, 169, 252, 89, 119, 149, 35], .int .u32 0, .int .u32 0, .ints .u8 65 [178, 158, 254, 122, 186, 222, 120, 105, 229, 162, 8, 178, 16, 23, 71, 210, 141, 148, 209, 118, 71, 75, 135, 83, 109, 111, 80, 209, 91, 110, 66, 246, 94, 134, 77, 228, 236, 250, 110, 32, 227, 102, 240, 192, 86, 85, 107, 102, 153, 76, 158, 3, 43, 77, 249, 245, 21, 123, 126, 32, 7, 123, 62, 239, 164]], .int .i64 0]
def tOpenA : List AV := [.agg [.ints .u8 32 [135, 231, 97, 186, 42, 32, 198, 13, 239, 77, 224, 117, 195, 206, 96, 0, 77, 191, 42, 230, 128, 253, 245, 100, 124, 148, 98, 18, 97, 5, 99, 166], .ints .u8 32 [8, 0, 0, 0, 0, 0, 0, 0, 0, 0, 0, 0, 0, 0, 0, 0, 0, 0, 0, 0, 0, 0, 0, 0, 0, 0, 0, 0, 0, 0, 0, 0], .ints .u8 32 [47, 229, 125, 163, 71, 205, 98, 67, 21, 40, 218, 172, 95, 187, 41, 7, 48, 255, 246, 132, 175, 196, 207, 194, 237, 144, 153, 95, 88, 203, 59, 116], .ints .u8 32 [63, 103, 3, 217, 51, 10, 69, 104, 56, 117, 0, 68, 77, 51, 17, 10, 189, 212, 60, 121, 88, 134, 253, 240, 171, 164, 189, 152, 238, 42, 96, 32], .ints .u8 32 [0, 0, 0, 0, 0, 0, 0, 0, 0, 0, 0, 0, 0, 0, 0, 0, 0, 0, 0, 0, 0, 0, 0, 0, 0, 0, 0, 0, 0, 0, 0, 0], .int .u32 0, .int .u32 0, .int .u32 0, .nils], .agg [.ints .u8 32 [174, 139, 4, 111, 150, 203, 88, 65, 200, 111, 216, 182, 61, 61, 98, 101, 178, 9, 223, 160, 223, 102, 189, 170, 66, 183, 169, 252, 89, 119, 149, 35], .int .u32 0, .int .u32 0, .ints .u8 65 [178, 158, 254, 122, 186, 222, 120, 105, 229, 162, 8, 178, 16, 23, 71, 210, 141, 148, 209, 118, 71, 75, 135, 83, 109, 111, 80, 209, 91, 110, 66, 246, 94, 134, 77, 228, 236, 250, 110, 32, 227, 102, 240, 192, 86, 85, 107, 102, 153, 76, 158, 3, 43, 77, 249, 245, 21, 123, 126, 32, 7, 123, 62, 239, 164]], .agg [.ints .u8 32 [40, 0, 0, 0, 0, 0, 0, 0, 0, 0, 0, 0, 0, 0, 0, 0, 0, 0, 0, 0, 0, 0, 0, 0, 0, 0, 0, 0, 0, 0, 0, 0]]]
def tOpenV : AV := .tuple [.agg [.ints .u8 32 [224, 93, 230, 242, 114, 43, 49, 139, 71, 118, 228, 214, 117, 202, 135, 92, 101, 218, 208, 103, 230, 168, 133, 252, 111, 66, 123, 185, 128, 206, 56, 51], .ints .u8 32 [40, 0, 0, 0, 0, 0, 0, 0, 0, 0, 0, 0, 0, 0, 0, 0, 0, 0, 0, 0, 0, 0, 0, 0, 0, 0, 0, 0, 0, 0, 0, 0], .ints .u8 32 [174, 139, 4, 111, 150, 203, 88, 65, 200, 111, 216, 182, 61, 61, 98, 101, 178, 9, 223, 160, 223, 102, 189, 170, 66, 183, 169, 252, 89, 119, 149, 35], .ints .u8 32 [114, 245, 55, 88, 41, 49, 117, 98, 62, 126, 115, 18, 225, 94, 134, 49, 12, 58, 117, 49, 24, 28, 243, 188, 22, 255, 56, 134, 34, 170, 159, 199], .ints .u8 32 [185, 108, 249, 209, 142, 88, 177, 244, 226, 138, 28, 11, 92, 139, 84, 6, 220, 159, 96, 66, 141, 113, 254, 50, 72, 17, 254, 116, 98, 200, 204, 178], .int .u32 0, .int .u32 1, .int .u32 0, .nils], .str ⟨#[104, 105]⟩, .int .i64 0]
def tPub1A : List AV := [.agg [.ints .u8 32 [1, 0, 0, 0, 0, 0, 0, 0, 0, 0, 0, 0, 0, 0, 0, 0, 0, 0, 0, 0, 0, 0, 0, 0, 0, 0, 0, 0, 0, 0, 0, 0]]]
def tPub1V : AV := .agg [.ints .u8 32 [47, 229, 125, 163, 71, 205, 98, 67, 21, 40, 218, 172, 95, 187, 41, 7, 48, 255, 246, 132, 175, 196, 207, 194, 237, 144, 153, 95, 88, 203, 59, 116]]
def tPub8A : List AV := [.agg [.ints .u8 32 [8, 0, 0, 0, 0, 0, 0, 0, 0, 0, 0, 0, 0, 0, 0, 0, 0, 0, 0, 0, 0, 0, 0, 0, 0, 0, 0, 0, 0, 0, 0, 0]]]
def tPub8V : AV := .agg [.ints .u8 32 [66, 44, 142, 122, 98, 39, 215, 188, 161, 53, 11, 62, 43, 183, 39, 159, 120, 151, 184, 123, 182, 133, 75, 120, 60, 96, 232, 3, 17, 174, 48, 121]]
end Go.Am
