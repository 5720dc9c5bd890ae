/- RatchetStarts: part 36 of 50 of its proof. -/
import Derived.Test.YtmkefajojokkfaaGreatC19
import Derived.Test.YtmkefajojokkfaaGreatC34
set_option linter.unusedVariables false
set_option linter.unusedSimpArgs false
namespace Go.Am
set_option linter.unusedSimpArgs false
set_option maxRecDepth 100000
def infLen (n : Nat) : Bool := n == 10 || n == 11 || n == 44
def hmG (M : H2) : List AV → List Blk → Option AV
  | [s, p], [.segs [.ints .u8 n0 k], .segs [a], .segs [.ints .u8 n2 o]] =>
    bif isS s 0 32 0 (some 32) && (isS p 1 1 1 (some 1) && (isS a 2 1 0 (some 1) && ((n0 == 32) && ((n2 == 1) && ((k.length == 32) && (o.length == 1)))))) then some (key (fixL 32 (M k o))) else none
  | [s, p], [.segs [.ints .u8 n0 k], .segs [.nils, b, c], .segs [.ints .u8 n2 i], .segs [.ints .u8 n3 o]] =>
    bif isS s 0 32 0 (some 32) && (isS p 1 3 1 (some 3) && (isS b 2 n2 0 none && (isS c 3 1 0 (some 1) && ((n0 == 32) && ((n3 == 1) && ((k.length == 32) && ((o.length == 1) && ((i.length == n2) && infLen n2)))))))) then some (key (fixL 32 (M k (i ++ o)))) else none
  | [s, p], [.segs [.ints .u8 n0 k], .segs [a, b, c], .segs [.ints .u8 n1 l], .segs [.ints .u8 n2 i], .segs [.ints .u8 n3 o]] =>
    bif isS s 0 32 0 (some 32) && (isS p 1 3 1 (some 3) && (isS a 2 32 0 (some 32) && (isS b 3 n2 0 none && (isS c 4 1 0 (some 1) && ((n0 == 32) && ((n1 == 32) && ((n3 == 1) && ((k.length == 32) && ((l.length == 32) && ((o.length == 1) && ((i.length == n2) && infLen n2))))))))))) then some (key (fixL 32 (M k (l ++ i ++ o)))) else none
  | _, _ => none
def IkM (M : H2) : Env := envAdd id_kdf_Hmac (.pure (pinO (hmG M))) E_kdf_info
def IkE (M : H2) : Env := envAdd id_kdf_Expand (pin (IkM M) af_kdf_Expand) (IkM M)
def IkT (M : H2) : Env := envAdd id_kdf_Two (pin (IkE M) af_kdf_Two) (IkE M)
def IkX (M X : H2) : Env := envAdd id_curve_X (.pure (keyXV X)) (IkT M)
theorem itwo_run (M : H2) (f : Nat → Int) : evFn (IkE M) af_kdf_Two [key (tab 32 f), .str sRat, .nils] ⟨16, []⟩ kV = some (.tuple [key (e1V M (tab 32 f) iRat), key (e2V M (tab 32 f) iRat)], ⟨0, []⟩) := by kernel_rfl
theorem ider_run (M : H2) (f : Nat → Int) : evFn (IkT M) af_kdf_Derive [key (tab 32 f), .str sSec, .nils] ⟨16, []⟩ kV = some (key (e1V M (tab 32 f) iSec), ⟨0, []⟩) := by kernel_rfl
theorem iturn_run (M X : H2) (f g h : Nat → Int) : evFn (IkX M X) af_ratchet_turn [key (tab 32 f), key (tab 32 g), key (tab 32 h)] ⟨16, []⟩ kV =
    some (.tuple [key (e1V M (tab 32 f) (iTurn (fixL 32 (X (tab 32 g) (tab 32 h))))), key (e2V M (tab 32 f) (iTurn (fixL 32 (X (tab 32 g) (tab 32 h)))))], ⟨0, []⟩) := by kernel_rfl
end Go.Am
