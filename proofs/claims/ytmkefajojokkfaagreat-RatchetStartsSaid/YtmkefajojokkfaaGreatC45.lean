/- RatchetStarts: part 46 of 50 of its proof. -/
import Derived.Test.YtmkefajojokkfaaGreatC35
set_option linter.unusedVariables false
set_option linter.unusedSimpArgs false
namespace Go.Am
set_option linter.unusedSimpArgs false
set_option maxRecDepth 100000
def stepV (St : H2) : Obj1 := fun id l rest h => match l, rest with
  | [.ints .u32 8 st, .isl .u32 ks, .ints .u8 64 re, .int .i64 n], [v] =>
    if ks = shaK then (match v with
      | .slice i 9 0 64 0 (some 64) => if i = id then some (.tuple [], hashB (fixL 8 (St st (fixL 64 re))) re n) else (contI .u8 h v).bind fun xs => if 64 ≤ xs.length then some (.tuple [], hashB (fixL 8 (St st (fixL 64 xs))) re n) else none
      | v => if (avIds v).contains id then none else (contI .u8 h v).bind fun xs => if 64 ≤ xs.length then some (.tuple [], hashB (fixL 8 (St st (fixL 64 xs))) re n) else none) else none
  | _, _ => none
section
variable (St : H2)
def IkSV : Env := envAdd id_sha_Hash_step (.full (objO (stepV St))) E_sha_New
def IkWV : Env := envAdd id_sha_Hash_write (inl (IkSV St) af_sha_Hash_write) (IkSV St)
def IkCV : Env := envAdd id_sha_Hash_Copy (inl (IkWV St) af_sha_Hash_Copy) (IkWV St)
def IkPV : Env := envAdd id_sha_Pad (pin (IkCV St) af_sha_Pad) (IkCV St)
def IkUV : Env := envAdd id_sha_Hash_Sum (inl (IkPV St) af_sha_Hash_Sum) (IkPV St)
def IkVV : Env := envAdd id_sha_Hash_Write (inl (IkUV St) af_sha_Hash_Write) (IkUV St)
def IkGV : Env := envAdd id_kdf_Hmac_1 (inl (IkVV St) af_kdf_Hmac_1) (IkVV St)
end
def ihRun1 (St : H2) (f g : Nat → Int) : Prop := evFn (IkGV St) af_kdf_Hmac [.slice 0 0 0 32 0 (some 32), .slice 1 0 0 1 1 (some 1)] ⟨16, toC 0 [.segs [.ints .u8 32 (tab 32 f)], .segs [.slice 2 0 0 1 0 (some 1)], .segs [.ints .u8 1 (tab 1 g)]]⟩ kV =
  some (key (hmF (hsF St) (tab 32 f) (tab 1 g)), ⟨0, []⟩)
def ihRun2 (St : H2) (n : Nat) (f i g : Nat → Int) : Prop := evFn (IkGV St) af_kdf_Hmac [.slice 0 0 0 32 0 (some 32), .slice 1 0 0 3 1 (some 3)] ⟨16, toC 0 [.segs [.ints .u8 32 (tab 32 f)], .segs [.nils, .slice 2 0 0 n 0 none, .slice 3 0 0 1 0 (some 1)], .segs [.ints .u8 n (tab n i)], .segs [.ints .u8 1 (tab 1 g)]]⟩ kV =
  some (key (hmF (hsF St) (tab 32 f) (tab n i ++ tab 1 g)), ⟨0, []⟩)
def ihRun3 (St : H2) (n : Nat) (f l i g : Nat → Int) : Prop := evFn (IkGV St) af_kdf_Hmac [.slice 0 0 0 32 0 (some 32), .slice 1 0 0 3 1 (some 3)] ⟨16, toC 0 [.segs [.ints .u8 32 (tab 32 f)], .segs [.slice 2 0 0 32 0 (some 32), .slice 3 0 0 n 0 none, .slice 4 0 0 1 0 (some 1)], .segs [.ints .u8 32 (tab 32 l)], .segs [.ints .u8 n (tab n i)], .segs [.ints .u8 1 (tab 1 g)]]⟩ kV =
  some (key (hmF (hsF St) (tab 32 f) (tab 32 l ++ tab n i ++ tab 1 g)), ⟨0, []⟩)
end Go.Am
