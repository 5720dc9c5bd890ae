/-
  No cell of these rows narrows 'for every input' (looked for: loops, veiled, ifaces, maps, wideKeys, modest, calm, conditions, laid).
  DERIVED. THE GIVEN ROWS OF THIS SEAT. 4 by the template 'for every input the law returns true; each argument reads behind the call as it read before'; 0 by the template 'total and deterministic' (their statements: YtmkefajojokkfaaGreatTotals.lean).
  GIVEN WITH THE SEED: the statements are not yours to turn. If you find one false, say at which input.
  Laid BY PROGRAM, IN A SANDBOX (cutbox-rows.mjs): the forced cells as the released guide's own fill.sh prints them over the translation b72fd37bb01c13c7… (all of the seat's roots in one cut). By AI agents, Wed Nov 11 2026. No macro, syntax, notation, axiom, sorry.
-/
import Derived.Test.YtmkefajojokkfaaGreatChecked
import GoSem.Claim
import GoSem.ClaimJoined
import GoSem.ClaimMapViews
import Derived.JoinedTies
import Derived.KernelRfl
namespace Go.Proofs.YtmkefajojokkfaaGreat
/- THE CELL 'sum', in the pinned program and in every row, IS THE sha256 OF THE DUMP (.gsa) THAT YtmkefajojokkfaaGreatProg.lean LOADS. Nothing in Lean hashes anything: it is a label: what it is worth is what the hold of that sum in a sandbox is worth. -/
noncomputable def Tryz.pinned : Pinned := { name := "ytmkefajojokkfaagreat", sum := "b72fd37bb01c13c7934ea55f068df49def42daebcd15a16e8aadcc191a87f5fc", checked := Tryz.checked }
namespace Rows
def none {H : Type} : Left H := { results := [], args := [] }

/-- 'hollowtreelaw17.RatchetSeals': WHATEVER THE INPUT: true; the input reads as it did. -/
def ratchetSealsSpec : ChangeSpec := { name := "ratchetSeals", fn := fun _ => fun
  | [d1, d2] => { results := [.lit (.bool true)], args := [d1, d2] }
  | _ => none }
def ratchetSealsRow : OpenClaim := { program := "ytmkefajojokkfaagreat", sum := "b72fd37bb01c13c7934ea55f068df49def42daebcd15a16e8aadcc191a87f5fc", func := "hollowtree/hollowtreelaw17.RatchetSeals", spec := "ratchetSeals", inPlace := ["math/bits.Add64"], unfollowed := true, recurses := true, apart := false }
def RatchetSealsSaid : Prop := ratchetSealsRow.holds Tryz.pinned (OpenSpec.ofChange ratchetSealsSpec)

/-- ITS FALSE NEIGHBOUR: 'it returns false'. Refute it at one input. -/
def ratchetSealsWrong : ChangeSpec := { name := "ratchetSeals", fn := fun _ => fun
  | [d1, d2] => { results := [.lit (.bool false)], args := [d1, d2] }
  | _ => none }
def RatchetSealsWrongFalsely : Prop := ratchetSealsRow.holds Tryz.pinned (OpenSpec.ofChange ratchetSealsWrong)

/-- 'hollowtreelaw17.RatchetStarts': WHATEVER THE INPUT: true; the input reads as it did. -/
def ratchetStartsSpec : ChangeSpec := { name := "ratchetStarts", fn := fun _ => fun
  | [d] => { results := [.lit (.bool true)], args := [d] }
  | _ => none }
def ratchetStartsRow : OpenClaim := { program := "ytmkefajojokkfaagreat", sum := "b72fd37bb01c13c7934ea55f068df49def42daebcd15a16e8aadcc191a87f5fc", func := "hollowtree/hollowtreelaw17.RatchetStarts", spec := "ratchetStarts", inPlace := ["math/bits.Add64"], unfollowed := true, recurses := true, apart := false }
def RatchetStartsSaid : Prop := ratchetStartsRow.holds Tryz.pinned (OpenSpec.ofChange ratchetStartsSpec)

/-- ITS FALSE NEIGHBOUR: 'it returns false'. Refute it at one input. -/
def ratchetStartsWrong : ChangeSpec := { name := "ratchetStarts", fn := fun _ => fun
  | [d] => { results := [.lit (.bool false)], args := [d] }
  | _ => none }
def RatchetStartsWrongFalsely : Prop := ratchetStartsRow.holds Tryz.pinned (OpenSpec.ofChange ratchetStartsWrong)

/-- 'hollowtreelaw17.RatchetBytes': WHATEVER THE INPUT: true; the input reads as it did. -/
def ratchetBytesSpec : ChangeSpec := { name := "ratchetBytes", fn := fun _ => fun
  | [d1, d2] => { results := [.lit (.bool true)], args := [d1, d2] }
  | _ => none }
def ratchetBytesRow : OpenClaim := { program := "ytmkefajojokkfaagreat", sum := "b72fd37bb01c13c7934ea55f068df49def42daebcd15a16e8aadcc191a87f5fc", func := "hollowtree/hollowtreelaw17.RatchetBytes", spec := "ratchetBytes", inPlace := ["math/bits.Add64"], unfollowed := true, recurses := true, apart := false }
def RatchetBytesSaid : Prop := ratchetBytesRow.holds Tryz.pinned (OpenSpec.ofChange ratchetBytesSpec)

/-- ITS FALSE NEIGHBOUR: 'it returns false'. Refute it at one input. -/
def ratchetBytesWrong : ChangeSpec := { name := "ratchetBytes", fn := fun _ => fun
  | [d1, d2] => { results := [.lit (.bool false)], args := [d1, d2] }
  | _ => none }
def RatchetBytesWrongFalsely : Prop := ratchetBytesRow.holds Tryz.pinned (OpenSpec.ofChange ratchetBytesWrong)

/-- 'hollowtreelaw17.RatchetBack': WHATEVER THE INPUT: true; the input reads as it did. -/
def ratchetBackSpec : ChangeSpec := { name := "ratchetBack", fn := fun _ => fun
  | [d1, d2] => { results := [.lit (.bool true)], args := [d1, d2] }
  | _ => none }
def ratchetBackRow : OpenClaim := { program := "ytmkefajojokkfaagreat", sum := "b72fd37bb01c13c7934ea55f068df49def42daebcd15a16e8aadcc191a87f5fc", func := "hollowtree/hollowtreelaw17.RatchetBack", spec := "ratchetBack", inPlace := ["math/bits.Add64"], unfollowed := true, recurses := true, apart := false }
def RatchetBackSaid : Prop := ratchetBackRow.holds Tryz.pinned (OpenSpec.ofChange ratchetBackSpec)

/-- ITS FALSE NEIGHBOUR: 'it returns false'. Refute it at one input. -/
def ratchetBackWrong : ChangeSpec := { name := "ratchetBack", fn := fun _ => fun
  | [d1, d2] => { results := [.lit (.bool false)], args := [d1, d2] }
  | _ => none }
def RatchetBackWrongFalsely : Prop := ratchetBackRow.holds Tryz.pinned (OpenSpec.ofChange ratchetBackWrong)

/- THE SECOND FORM. 'bulk': how many values and letters a reading holds, each counted each time it is reached (what is shared counts as often as it is met; a slice's spare places count too). A statement '..UptoSaid' is the law's where the arguments, and the package variables that the reading takes, are together of bulk at most 1048576: NARROWER than '..Said'. Prove '..Said' where nothing that the law and all that it calls make is longer than what came in: it says more and counts as full. Else prove '..UptoSaid'. A law counts once. -/
mutual
def uptoBulk {H : Type} : DataW H → Nat
  | .lit (.string bytes) => bytes.length + 1
  | .lit _ => 1
  | .nil => 1
  | .ptr d => uptoBulk d + 1
  | .slice elems spare => uptoBulkAll elems + uptoBulkAll spare + 1
  | .agg parts => uptoBulkAll parts + 1
  | .iface _ d => uptoBulk d + 1
  | .map entries => uptoBulkEntries entries + 1
  | .held _ => 1
def uptoBulkAll {H : Type} : List (DataW H) → Nat
  | [] => 0
  | d :: r => uptoBulk d + uptoBulkAll r
def uptoBulkEntries {H : Type} : List (Lit × DataW H) → Nat
  | [] => 0
  | x :: r => uptoBulkEntry x + uptoBulkEntries r
def uptoBulkEntry {H : Type} : Lit × DataW H → Nat
  | (.string bytes, d) => bytes.length + uptoBulk d + 1
  | (_, d) => uptoBulk d + 1
 end
def uptoSmall : (H : Type) → List (DataW H) → Bool := fun _ ds => decide (uptoBulkAll ds ≤ 1048576)
def OpenSpec.upto (s : _root_.Go.ChangeSpec) : _root_.Go.OpenSpec := { _root_.Go.OpenSpec.ofChange s with cond := some uptoSmall }

/-- 'hollowtreelaw17.RatchetSeals', WHERE WHAT IT READS IS OF BULK AT MOST 1048576: true; the input reads as it did. -/
def ratchetSealsUptoRow : OpenClaim := { program := "ytmkefajojokkfaagreat", sum := "b72fd37bb01c13c7934ea55f068df49def42daebcd15a16e8aadcc191a87f5fc", func := "hollowtree/hollowtreelaw17.RatchetSeals", spec := "ratchetSeals", inPlace := ["math/bits.Add64"], unfollowed := true, recurses := true, apart := false, narrowed := true }
def RatchetSealsUptoSaid : Prop := ratchetSealsUptoRow.holds Tryz.pinned (OpenSpec.upto ratchetSealsSpec)

/-- 'hollowtreelaw17.RatchetStarts', WHERE WHAT IT READS IS OF BULK AT MOST 1048576: true; the input reads as it did. -/
def ratchetStartsUptoRow : OpenClaim := { program := "ytmkefajojokkfaagreat", sum := "b72fd37bb01c13c7934ea55f068df49def42daebcd15a16e8aadcc191a87f5fc", func := "hollowtree/hollowtreelaw17.RatchetStarts", spec := "ratchetStarts", inPlace := ["math/bits.Add64"], unfollowed := true, recurses := true, apart := false, narrowed := true }
def RatchetStartsUptoSaid : Prop := ratchetStartsUptoRow.holds Tryz.pinned (OpenSpec.upto ratchetStartsSpec)

/-- 'hollowtreelaw17.RatchetBytes', WHERE WHAT IT READS IS OF BULK AT MOST 1048576: true; the input reads as it did. -/
def ratchetBytesUptoRow : OpenClaim := { program := "ytmkefajojokkfaagreat", sum := "b72fd37bb01c13c7934ea55f068df49def42daebcd15a16e8aadcc191a87f5fc", func := "hollowtree/hollowtreelaw17.RatchetBytes", spec := "ratchetBytes", inPlace := ["math/bits.Add64"], unfollowed := true, recurses := true, apart := false, narrowed := true }
def RatchetBytesUptoSaid : Prop := ratchetBytesUptoRow.holds Tryz.pinned (OpenSpec.upto ratchetBytesSpec)

/-- 'hollowtreelaw17.RatchetBack', WHERE WHAT IT READS IS OF BULK AT MOST 1048576: true; the input reads as it did. -/
def ratchetBackUptoRow : OpenClaim := { program := "ytmkefajojokkfaagreat", sum := "b72fd37bb01c13c7934ea55f068df49def42daebcd15a16e8aadcc191a87f5fc", func := "hollowtree/hollowtreelaw17.RatchetBack", spec := "ratchetBack", inPlace := ["math/bits.Add64"], unfollowed := true, recurses := true, apart := false, narrowed := true }
def RatchetBackUptoSaid : Prop := ratchetBackUptoRow.holds Tryz.pinned (OpenSpec.upto ratchetBackSpec)

end Rows
end Go.Proofs.YtmkefajojokkfaaGreat
