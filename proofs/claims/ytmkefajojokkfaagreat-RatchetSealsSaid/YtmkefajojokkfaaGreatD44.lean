/- RatchetSeals: part 45 of 50 of its proof. -/
import Derived.Test.YtmkefajojokkfaaGreatD19
import Derived.Test.YtmkefajojokkfaaGreatD43
set_option linter.unusedVariables false
set_option linter.unusedSimpArgs false
namespace Go.Am
set_option linter.unusedSimpArgs false
set_option maxRecDepth 100000
def infLen (n : Nat) : Bool := n == 10 || n == 11 || n == 44
def hmG (M : H2) : List AV → List Blk → Option AV
  | [s, p], [.segs [.ints .u8 n0 k], .segs [a], .segs [.ints .u8 n2 o]] =>
    bif isS s 0 32 0 (some 32) && (isS p 1 1 1 (some 1) && (isS a 2 1 0 (some 1) && ((n0 == 32) && ((n2 == 1) && ((k.length == 32) && (o.length == 1)))))) then some (key (fixL 32 (M k o))) else none
  | [s, p], [.segs [.ints .u8 n0 k], .segs [.nils, b, c], .segs [.ints .u8 n2 i], .segs [.ints .u8 n3 o]] =>
    bif isS s 0 32 0 (some 32) && (isS p 1 3 1 (some 3) && (isS b 2 n2 0 none && (isS c 3 1 0 (some 1) && ((n0 == 32) && ((n3 == 1) && ((k.length == 32) && ((o.length == 1) && ((i.length == n2) && infLen n2)))))))) then some (key (fixL 32 (M k (i ++ o)))) else none
  | [s, p], [.segs [.ints .u8 n0 k], .segs [a, b, c], .segs [.ints .u8 n1 l], .segs [.ints .u8 n2 i], .segs [.ints .u8 n3 o]] =>
    bif isS s 0 32 0 (some 32) && (isS p 1 3 1 (some 3) && (isS a 2 32 0 (some 32) && (isS b 3 n2 0 none && (isS c 4 1 0 (some 1) && ((n0 == 32) && ((n1 == 32) && ((n3 == 1) && ((k.length == 32) && ((l.length == 32) && ((o.length == 1) && ((i.length == n2) && infLen n2))))))))))) then some (key (fixL 32 (M k (l ++ i ++ o)))) else none
  | _, _ => none
def IkM (M : H2) : Env := envAdd id_kdf_Hmac (.pure (pinO (hmG M))) E_kdf_info
theorem istep_run (M : H2) (f : Nat → Int) : evFn (IkM M) af_kdf_Step [key (tab 32 f)] ⟨16, []⟩ kV = some (.tuple [key (fixL 32 (M (tab 32 f) [2])), key (fixL 32 (M (tab 32 f) [1]))], ⟨0, []⟩) := by kernel_rfl
end Go.Am
