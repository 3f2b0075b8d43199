/-
  No cell of these rows narrows 'for every input' (looked for: loops, veiled, ifaces, maps, wideKeys, modest, calm, conditions, laid).
  DERIVED. THE GIVEN ROWS OF THIS SEAT. 5 by the template 'for every input the law returns true; each argument reads behind the call as it read before'; 0 by the template 'total and deterministic' (their statements: YtgolgogmhcgecaaGreatTotals.lean).
  GIVEN WITH THE SEED: the statements are not yours to turn. If you find one false, say at which input.
  Laid BY PROGRAM, IN A SANDBOX (cutbox-rows.mjs): the forced cells as the released guide's own fill.sh prints them over the translation 468c245627da2b69… (all of the seat's roots in one cut). By AI agents, Wed Nov 11 2026. No macro, syntax, notation, axiom, sorry.
-/
import Derived.Test.YtgolgogmhcgecaaGreatChecked
import GoSem.Claim
import GoSem.ClaimJoined
import GoSem.ClaimMapViews
import Derived.JoinedTies
import Derived.KernelRfl
namespace Go.Proofs.YtgolgogmhcgecaaGreat
/- THE CELL 'sum', in the pinned program and in every row, IS THE sha256 OF THE DUMP (.gsa) THAT YtgolgogmhcgecaaGreatProg.lean LOADS. Nothing in Lean hashes anything: it is a label: what it is worth is what the hold of that sum in a sandbox is worth. -/
noncomputable def Tryz.pinned : Pinned := { name := "ytgolgogmhcgecaagreat", sum := "468c245627da2b691ac9acb7f31af5a225669ddd7c4cad7b1ad50d6745565534", checked := Tryz.checked }
namespace Rows
def none {H : Type} : Left H := { results := [], args := [] }

/-- 'touchstonelaw19.FamilyStrict': WHATEVER THE INPUT: true; the input reads as it did. -/
def familyStrictSpec : ChangeSpec := { name := "familyStrict", fn := fun _ => fun
  | [d1, d2, d3] => { results := [.lit (.bool true)], args := [d1, d2, d3] }
  | _ => none }
def familyStrictRow : OpenClaim := { program := "ytgolgogmhcgecaagreat", sum := "468c245627da2b691ac9acb7f31af5a225669ddd7c4cad7b1ad50d6745565534", func := "touchstone/touchstonelaw19.FamilyStrict", spec := "familyStrict", unfollowed := true, recurses := true, apart := false }
def FamilyStrictSaid : Prop := familyStrictRow.holds Tryz.pinned (OpenSpec.ofChange familyStrictSpec)

/-- ITS FALSE NEIGHBOUR: 'it returns false'. Refute it at one input. -/
def familyStrictWrong : ChangeSpec := { name := "familyStrict", fn := fun _ => fun
  | [d1, d2, d3] => { results := [.lit (.bool false)], args := [d1, d2, d3] }
  | _ => none }
def FamilyStrictWrongFalsely : Prop := familyStrictRow.holds Tryz.pinned (OpenSpec.ofChange familyStrictWrong)

/-- 'touchstonelaw19.FamilyLarge': WHATEVER THE INPUT: true; the input reads as it did. -/
def familyLargeSpec : ChangeSpec := { name := "familyLarge", fn := fun _ => fun
  | [d1, d2] => { results := [.lit (.bool true)], args := [d1, d2] }
  | _ => none }
def familyLargeRow : OpenClaim := { program := "ytgolgogmhcgecaagreat", sum := "468c245627da2b691ac9acb7f31af5a225669ddd7c4cad7b1ad50d6745565534", func := "touchstone/touchstonelaw19.FamilyLarge", spec := "familyLarge", unfollowed := true, recurses := true, apart := false }
def FamilyLargeSaid : Prop := familyLargeRow.holds Tryz.pinned (OpenSpec.ofChange familyLargeSpec)

/-- ITS FALSE NEIGHBOUR: 'it returns false'. Refute it at one input. -/
def familyLargeWrong : ChangeSpec := { name := "familyLarge", fn := fun _ => fun
  | [d1, d2] => { results := [.lit (.bool false)], args := [d1, d2] }
  | _ => none }
def FamilyLargeWrongFalsely : Prop := familyLargeRow.holds Tryz.pinned (OpenSpec.ofChange familyLargeWrong)

/-- 'touchstonelaw19.FamilyGood': WHATEVER THE INPUT: true; the input reads as it did. -/
def familyGoodSpec : ChangeSpec := { name := "familyGood", fn := fun _ => fun
  | [d1, d2] => { results := [.lit (.bool true)], args := [d1, d2] }
  | _ => none }
def familyGoodRow : OpenClaim := { program := "ytgolgogmhcgecaagreat", sum := "468c245627da2b691ac9acb7f31af5a225669ddd7c4cad7b1ad50d6745565534", func := "touchstone/touchstonelaw19.FamilyGood", spec := "familyGood", inPlace := ["maps.clone"], unfollowed := true, recurses := true, apart := false }
def FamilyGoodSaid : Prop := familyGoodRow.holds Tryz.pinned (OpenSpec.ofChange familyGoodSpec)

/-- ITS FALSE NEIGHBOUR: 'it returns false'. Refute it at one input. -/
def familyGoodWrong : ChangeSpec := { name := "familyGood", fn := fun _ => fun
  | [d1, d2] => { results := [.lit (.bool false)], args := [d1, d2] }
  | _ => none }
def FamilyGoodWrongFalsely : Prop := familyGoodRow.holds Tryz.pinned (OpenSpec.ofChange familyGoodWrong)

/-- 'touchstonelaw19.FamilyTaken': WHATEVER THE INPUT: true; the input reads as it did. -/
def familyTakenSpec : ChangeSpec := { name := "familyTaken", fn := fun _ => fun
  | [d1, d2] => { results := [.lit (.bool true)], args := [d1, d2] }
  | _ => none }
def familyTakenRow : OpenClaim := { program := "ytgolgogmhcgecaagreat", sum := "468c245627da2b691ac9acb7f31af5a225669ddd7c4cad7b1ad50d6745565534", func := "touchstone/touchstonelaw19.FamilyTaken", spec := "familyTaken", inPlace := ["maps.clone"], unfollowed := true, recurses := true, apart := false }
def FamilyTakenSaid : Prop := familyTakenRow.holds Tryz.pinned (OpenSpec.ofChange familyTakenSpec)

/-- ITS FALSE NEIGHBOUR: 'it returns false'. Refute it at one input. -/
def familyTakenWrong : ChangeSpec := { name := "familyTaken", fn := fun _ => fun
  | [d1, d2] => { results := [.lit (.bool false)], args := [d1, d2] }
  | _ => none }
def FamilyTakenWrongFalsely : Prop := familyTakenRow.holds Tryz.pinned (OpenSpec.ofChange familyTakenWrong)

/-- 'touchstonelaw19.FamilySizes': WHATEVER THE INPUT: true; the input reads as it did. -/
def familySizesSpec : ChangeSpec := { name := "familySizes", fn := fun _ => fun
  | [d1, d2] => { results := [.lit (.bool true)], args := [d1, d2] }
  | _ => none }
def familySizesRow : OpenClaim := { program := "ytgolgogmhcgecaagreat", sum := "468c245627da2b691ac9acb7f31af5a225669ddd7c4cad7b1ad50d6745565534", func := "touchstone/touchstonelaw19.FamilySizes", spec := "familySizes", inPlace := ["maps.clone"], unfollowed := true, recurses := true, apart := false }
def FamilySizesSaid : Prop := familySizesRow.holds Tryz.pinned (OpenSpec.ofChange familySizesSpec)

/-- ITS FALSE NEIGHBOUR: 'it returns false'. Refute it at one input. -/
def familySizesWrong : ChangeSpec := { name := "familySizes", fn := fun _ => fun
  | [d1, d2] => { results := [.lit (.bool false)], args := [d1, d2] }
  | _ => none }
def FamilySizesWrongFalsely : Prop := familySizesRow.holds Tryz.pinned (OpenSpec.ofChange familySizesWrong)

/- THE SECOND FORM. 'bulk': how many values and letters a reading holds, each counted each time it is reached (what is shared counts as often as it is met; a slice's spare places count too). A statement '..UptoSaid' is the law's where the arguments, and the package variables that the reading takes, are together of bulk at most 1048576: NARROWER than '..Said'. Prove '..Said' where nothing that the law and all that it calls make is longer than what came in: it says more and counts as full. Else prove '..UptoSaid'. A law counts once. -/
mutual
def uptoBulk {H : Type} : DataW H → Nat
  | .lit (.string bytes) => bytes.length + 1
  | .lit _ => 1
  | .nil => 1
  | .ptr d => uptoBulk d + 1
  | .slice elems spare => uptoBulkAll elems + uptoBulkAll spare + 1
  | .agg parts => uptoBulkAll parts + 1
  | .iface _ d => uptoBulk d + 1
  | .map entries => uptoBulkEntries entries + 1
  | .held _ => 1
def uptoBulkAll {H : Type} : List (DataW H) → Nat
  | [] => 0
  | d :: r => uptoBulk d + uptoBulkAll r
def uptoBulkEntries {H : Type} : List (Lit × DataW H) → Nat
  | [] => 0
  | x :: r => uptoBulkEntry x + uptoBulkEntries r
def uptoBulkEntry {H : Type} : Lit × DataW H → Nat
  | (.string bytes, d) => bytes.length + uptoBulk d + 1
  | (_, d) => uptoBulk d + 1
 end
def uptoSmall : (H : Type) → List (DataW H) → Bool := fun _ ds => decide (uptoBulkAll ds ≤ 1048576)
def OpenSpec.upto (s : _root_.Go.ChangeSpec) : _root_.Go.OpenSpec := { _root_.Go.OpenSpec.ofChange s with cond := some uptoSmall }

/-- 'touchstonelaw19.FamilyStrict', WHERE WHAT IT READS IS OF BULK AT MOST 1048576: true; the input reads as it did. -/
def familyStrictUptoRow : OpenClaim := { program := "ytgolgogmhcgecaagreat", sum := "468c245627da2b691ac9acb7f31af5a225669ddd7c4cad7b1ad50d6745565534", func := "touchstone/touchstonelaw19.FamilyStrict", spec := "familyStrict", unfollowed := true, recurses := true, apart := false, narrowed := true }
def FamilyStrictUptoSaid : Prop := familyStrictUptoRow.holds Tryz.pinned (OpenSpec.upto familyStrictSpec)

/-- 'touchstonelaw19.FamilyLarge', WHERE WHAT IT READS IS OF BULK AT MOST 1048576: true; the input reads as it did. -/
def familyLargeUptoRow : OpenClaim := { program := "ytgolgogmhcgecaagreat", sum := "468c245627da2b691ac9acb7f31af5a225669ddd7c4cad7b1ad50d6745565534", func := "touchstone/touchstonelaw19.FamilyLarge", spec := "familyLarge", unfollowed := true, recurses := true, apart := false, narrowed := true }
def FamilyLargeUptoSaid : Prop := familyLargeUptoRow.holds Tryz.pinned (OpenSpec.upto familyLargeSpec)

/-- 'touchstonelaw19.FamilyGood', WHERE WHAT IT READS IS OF BULK AT MOST 1048576: true; the input reads as it did. -/
def familyGoodUptoRow : OpenClaim := { program := "ytgolgogmhcgecaagreat", sum := "468c245627da2b691ac9acb7f31af5a225669ddd7c4cad7b1ad50d6745565534", func := "touchstone/touchstonelaw19.FamilyGood", spec := "familyGood", inPlace := ["maps.clone"], unfollowed := true, recurses := true, apart := false, narrowed := true }
def FamilyGoodUptoSaid : Prop := familyGoodUptoRow.holds Tryz.pinned (OpenSpec.upto familyGoodSpec)

/-- 'touchstonelaw19.FamilyTaken', WHERE WHAT IT READS IS OF BULK AT MOST 1048576: true; the input reads as it did. -/
def familyTakenUptoRow : OpenClaim := { program := "ytgolgogmhcgecaagreat", sum := "468c245627da2b691ac9acb7f31af5a225669ddd7c4cad7b1ad50d6745565534", func := "touchstone/touchstonelaw19.FamilyTaken", spec := "familyTaken", inPlace := ["maps.clone"], unfollowed := true, recurses := true, apart := false, narrowed := true }
def FamilyTakenUptoSaid : Prop := familyTakenUptoRow.holds Tryz.pinned (OpenSpec.upto familyTakenSpec)

/-- 'touchstonelaw19.FamilySizes', WHERE WHAT IT READS IS OF BULK AT MOST 1048576: true; the input reads as it did. -/
def familySizesUptoRow : OpenClaim := { program := "ytgolgogmhcgecaagreat", sum := "468c245627da2b691ac9acb7f31af5a225669ddd7c4cad7b1ad50d6745565534", func := "touchstone/touchstonelaw19.FamilySizes", spec := "familySizes", inPlace := ["maps.clone"], unfollowed := true, recurses := true, apart := false, narrowed := true }
def FamilySizesUptoSaid : Prop := familySizesUptoRow.holds Tryz.pinned (OpenSpec.upto familySizesSpec)

end Rows
end Go.Proofs.YtgolgogmhcgecaaGreat
