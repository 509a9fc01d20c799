/-
  No cell of these rows narrows 'for every input' (looked for: loops, veiled, ifaces, maps, wideKeys, modest, calm, conditions, laid).
  DERIVED. THE GIVEN ROWS OF THIS SEAT. 10 by the template 'for every input the law returns true; each argument reads behind the call as it read before'; 0 by the template 'total and deterministic' (their statements: YtacglolggaobdabTotals.lean).
  GIVEN WITH THE SEED: the statements are not yours to turn. If you find one false, say at which input.
  Laid BY PROGRAM, IN A SANDBOX (cutbox-rows.mjs): the forced cells as the released guide's own fill.sh prints them over the translation 5224fb653b129f66… (all of the seat's roots in one cut). By AI agents, Wed Nov 11 2026. No macro, syntax, notation, axiom, sorry.
-/
import Derived.Test.YtacglolggaobdabChecked
import GoSem.Claim
import GoSem.ClaimJoined
import GoSem.ClaimMapViews
import Derived.JoinedTies
import Derived.KernelRfl
namespace Go.Proofs.Ytacglolggaobdab
/- THE CELL 'sum', in the pinned program and in every row, IS THE sha256 OF THE DUMP (.gsa) THAT YtacglolggaobdabProg.lean LOADS. Nothing in Lean hashes anything: it is a label: what it is worth is what the hold of that sum in a sandbox is worth. -/
noncomputable def Try.pinned : Pinned := { name := "ytacglolggaobdab", sum := "5224fb653b129f6654e21c945ae4c5a2c69c5fcaff549940e6b905e82bb11e05", checked := Try.checked }
namespace Rows
def none {H : Type} : Left H := { results := [], args := [] }

/-- 'abutmentlaw51.DiffLines': WHATEVER THE INPUT: true; the input reads as it did. -/
def diffLinesSpec : ChangeSpec := { name := "diffLines", fn := fun _ => fun
  | [d1, d2] => { results := [.lit (.bool true)], args := [d1, d2] }
  | _ => none }
def diffLinesRow : OpenClaim := { program := "ytacglolggaobdab", sum := "5224fb653b129f6654e21c945ae4c5a2c69c5fcaff549940e6b905e82bb11e05", func := "abutment/abutmentlaw51.DiffLines", spec := "diffLines", unfollowed := true, recurses := true, apart := false }
def DiffLinesSaid : Prop := diffLinesRow.holds Try.pinned (OpenSpec.ofChange diffLinesSpec)

/-- ITS FALSE NEIGHBOUR: 'it returns false'. Refute it at one input. -/
def diffLinesWrong : ChangeSpec := { name := "diffLines", fn := fun _ => fun
  | [d1, d2] => { results := [.lit (.bool false)], args := [d1, d2] }
  | _ => none }
def DiffLinesWrongFalsely : Prop := diffLinesRow.holds Try.pinned (OpenSpec.ofChange diffLinesWrong)

/-- 'abutmentlaw51.DiffApplies': WHATEVER THE INPUT: true; the input reads as it did. -/
def diffAppliesSpec : ChangeSpec := { name := "diffApplies", fn := fun _ => fun
  | [d1, d2] => { results := [.lit (.bool true)], args := [d1, d2] }
  | _ => none }
def diffAppliesRow : OpenClaim := { program := "ytacglolggaobdab", sum := "5224fb653b129f6654e21c945ae4c5a2c69c5fcaff549940e6b905e82bb11e05", func := "abutment/abutmentlaw51.DiffApplies", spec := "diffApplies", unfollowed := true, recurses := true, apart := false }
def DiffAppliesSaid : Prop := diffAppliesRow.holds Try.pinned (OpenSpec.ofChange diffAppliesSpec)

/-- ITS FALSE NEIGHBOUR: 'it returns false'. Refute it at one input. -/
def diffAppliesWrong : ChangeSpec := { name := "diffApplies", fn := fun _ => fun
  | [d1, d2] => { results := [.lit (.bool false)], args := [d1, d2] }
  | _ => none }
def DiffAppliesWrongFalsely : Prop := diffAppliesRow.holds Try.pinned (OpenSpec.ofChange diffAppliesWrong)

/-- 'abutmentlaw51.DiffBack': WHATEVER THE INPUT: true; the input reads as it did. -/
def diffBackSpec : ChangeSpec := { name := "diffBack", fn := fun _ => fun
  | [d1, d2] => { results := [.lit (.bool true)], args := [d1, d2] }
  | _ => none }
def diffBackRow : OpenClaim := { program := "ytacglolggaobdab", sum := "5224fb653b129f6654e21c945ae4c5a2c69c5fcaff549940e6b905e82bb11e05", func := "abutment/abutmentlaw51.DiffBack", spec := "diffBack", unfollowed := true, recurses := true, apart := false }
def DiffBackSaid : Prop := diffBackRow.holds Try.pinned (OpenSpec.ofChange diffBackSpec)

/-- ITS FALSE NEIGHBOUR: 'it returns false'. Refute it at one input. -/
def diffBackWrong : ChangeSpec := { name := "diffBack", fn := fun _ => fun
  | [d1, d2] => { results := [.lit (.bool false)], args := [d1, d2] }
  | _ => none }
def DiffBackWrongFalsely : Prop := diffBackRow.holds Try.pinned (OpenSpec.ofChange diffBackWrong)

/-- 'abutmentlaw51.DiffHeads': WHATEVER THE INPUT: true; the input reads as it did. -/
def diffHeadsSpec : ChangeSpec := { name := "diffHeads", fn := fun _ => fun
  | [d1, d2] => { results := [.lit (.bool true)], args := [d1, d2] }
  | _ => none }
def diffHeadsRow : OpenClaim := { program := "ytacglolggaobdab", sum := "5224fb653b129f6654e21c945ae4c5a2c69c5fcaff549940e6b905e82bb11e05", func := "abutment/abutmentlaw51.DiffHeads", spec := "diffHeads", inPlace := ["internal/abi.NoEscape", "internal/bytealg.MakeNoZero"], unfollowed := true, recurses := true, apart := false }
def DiffHeadsSaid : Prop := diffHeadsRow.holds Try.pinned (OpenSpec.ofChange diffHeadsSpec)

/-- ITS FALSE NEIGHBOUR: 'it returns false'. Refute it at one input. -/
def diffHeadsWrong : ChangeSpec := { name := "diffHeads", fn := fun _ => fun
  | [d1, d2] => { results := [.lit (.bool false)], args := [d1, d2] }
  | _ => none }
def DiffHeadsWrongFalsely : Prop := diffHeadsRow.holds Try.pinned (OpenSpec.ofChange diffHeadsWrong)

/-- 'abutmentlaw49.TallyParts': WHATEVER THE INPUT: true; the input reads as it did. -/
def tallyPartsSpec : ChangeSpec := { name := "tallyParts", fn := fun _ => fun
  | [d1, d2] => { results := [.lit (.bool true)], args := [d1, d2] }
  | _ => none }
def tallyPartsRow : OpenClaim := { program := "ytacglolggaobdab", sum := "5224fb653b129f6654e21c945ae4c5a2c69c5fcaff549940e6b905e82bb11e05", func := "abutment/abutmentlaw49.TallyParts", spec := "tallyParts", unfollowed := true, recurses := true, apart := false }
def TallyPartsSaid : Prop := tallyPartsRow.holds Try.pinned (OpenSpec.ofChange tallyPartsSpec)

/-- ITS FALSE NEIGHBOUR: 'it returns false'. Refute it at one input. -/
def tallyPartsWrong : ChangeSpec := { name := "tallyParts", fn := fun _ => fun
  | [d1, d2] => { results := [.lit (.bool false)], args := [d1, d2] }
  | _ => none }
def TallyPartsWrongFalsely : Prop := tallyPartsRow.holds Try.pinned (OpenSpec.ofChange tallyPartsWrong)

/-- 'abutmentlaw49.TallyTells': WHATEVER THE INPUT: true; the input reads as it did. -/
def tallyTellsSpec : ChangeSpec := { name := "tallyTells", fn := fun _ => fun
  | [d1, d2] => { results := [.lit (.bool true)], args := [d1, d2] }
  | _ => none }
def tallyTellsRow : OpenClaim := { program := "ytacglolggaobdab", sum := "5224fb653b129f6654e21c945ae4c5a2c69c5fcaff549940e6b905e82bb11e05", func := "abutment/abutmentlaw49.TallyTells", spec := "tallyTells", unfollowed := true, recurses := true, apart := false }
def TallyTellsSaid : Prop := tallyTellsRow.holds Try.pinned (OpenSpec.ofChange tallyTellsSpec)

/-- ITS FALSE NEIGHBOUR: 'it returns false'. Refute it at one input. -/
def tallyTellsWrong : ChangeSpec := { name := "tallyTells", fn := fun _ => fun
  | [d1, d2] => { results := [.lit (.bool false)], args := [d1, d2] }
  | _ => none }
def TallyTellsWrongFalsely : Prop := tallyTellsRow.holds Try.pinned (OpenSpec.ofChange tallyTellsWrong)

/-- 'abutmentlaw49.TallyCounts': WHATEVER THE INPUT: true; the input reads as it did. -/
def tallyCountsSpec : ChangeSpec := { name := "tallyCounts", fn := fun _ => fun
  | [d1, d2] => { results := [.lit (.bool true)], args := [d1, d2] }
  | _ => none }
def tallyCountsRow : OpenClaim := { program := "ytacglolggaobdab", sum := "5224fb653b129f6654e21c945ae4c5a2c69c5fcaff549940e6b905e82bb11e05", func := "abutment/abutmentlaw49.TallyCounts", spec := "tallyCounts", unfollowed := true, recurses := true, apart := false }
def TallyCountsSaid : Prop := tallyCountsRow.holds Try.pinned (OpenSpec.ofChange tallyCountsSpec)

/-- ITS FALSE NEIGHBOUR: 'it returns false'. Refute it at one input. -/
def tallyCountsWrong : ChangeSpec := { name := "tallyCounts", fn := fun _ => fun
  | [d1, d2] => { results := [.lit (.bool false)], args := [d1, d2] }
  | _ => none }
def TallyCountsWrongFalsely : Prop := tallyCountsRow.holds Try.pinned (OpenSpec.ofChange tallyCountsWrong)

/-- 'abutmentlaw50.CanonNames': WHATEVER THE INPUT: true; the input reads as it did. -/
def canonNamesSpec : ChangeSpec := { name := "canonNames", fn := fun _ => fun
  | [d] => { results := [.lit (.bool true)], args := [d] }
  | _ => none }
def canonNamesRow : OpenClaim := { program := "ytacglolggaobdab", sum := "5224fb653b129f6654e21c945ae4c5a2c69c5fcaff549940e6b905e82bb11e05", func := "abutment/abutmentlaw50.CanonNames", spec := "canonNames", inPlace := ["internal/abi.NoEscape", "internal/bytealg.MakeNoZero"], unfollowed := true, recurses := true, apart := false }
def CanonNamesSaid : Prop := canonNamesRow.holds Try.pinned (OpenSpec.ofChange canonNamesSpec)

/-- ITS FALSE NEIGHBOUR: 'it returns false'. Refute it at one input. -/
def canonNamesWrong : ChangeSpec := { name := "canonNames", fn := fun _ => fun
  | [d] => { results := [.lit (.bool false)], args := [d] }
  | _ => none }
def CanonNamesWrongFalsely : Prop := canonNamesRow.holds Try.pinned (OpenSpec.ofChange canonNamesWrong)

/-- 'abutmentlaw50.CanonStays': WHATEVER THE INPUT: true; the input reads as it did. -/
def canonStaysSpec : ChangeSpec := { name := "canonStays", fn := fun _ => fun
  | [d1, d2, d3] => { results := [.lit (.bool true)], args := [d1, d2, d3] }
  | _ => none }
def canonStaysRow : OpenClaim := { program := "ytacglolggaobdab", sum := "5224fb653b129f6654e21c945ae4c5a2c69c5fcaff549940e6b905e82bb11e05", func := "abutment/abutmentlaw50.CanonStays", spec := "canonStays", inPlace := ["internal/abi.NoEscape", "internal/bytealg.MakeNoZero", "internal/bytealg.abigen_runtime_cmpstring"], unfollowed := true, recurses := true, apart := false }
def CanonStaysSaid : Prop := canonStaysRow.holds Try.pinned (OpenSpec.ofChange canonStaysSpec)

/-- ITS FALSE NEIGHBOUR: 'it returns false'. Refute it at one input. -/
def canonStaysWrong : ChangeSpec := { name := "canonStays", fn := fun _ => fun
  | [d1, d2, d3] => { results := [.lit (.bool false)], args := [d1, d2, d3] }
  | _ => none }
def CanonStaysWrongFalsely : Prop := canonStaysRow.holds Try.pinned (OpenSpec.ofChange canonStaysWrong)

/-- 'abutmentlaw50.CanonFields': WHATEVER THE INPUT: true; the input reads as it did. -/
def canonFieldsSpec : ChangeSpec := { name := "canonFields", fn := fun _ => fun
  | [d1, d2] => { results := [.lit (.bool true)], args := [d1, d2] }
  | _ => none }
def canonFieldsRow : OpenClaim := { program := "ytacglolggaobdab", sum := "5224fb653b129f6654e21c945ae4c5a2c69c5fcaff549940e6b905e82bb11e05", func := "abutment/abutmentlaw50.CanonFields", spec := "canonFields", inPlace := ["internal/abi.NoEscape", "internal/bytealg.MakeNoZero", "internal/bytealg.abigen_runtime_cmpstring"], unfollowed := true, recurses := true, apart := false }
def CanonFieldsSaid : Prop := canonFieldsRow.holds Try.pinned (OpenSpec.ofChange canonFieldsSpec)

/-- ITS FALSE NEIGHBOUR: 'it returns false'. Refute it at one input. -/
def canonFieldsWrong : ChangeSpec := { name := "canonFields", fn := fun _ => fun
  | [d1, d2] => { results := [.lit (.bool false)], args := [d1, d2] }
  | _ => none }
def CanonFieldsWrongFalsely : Prop := canonFieldsRow.holds Try.pinned (OpenSpec.ofChange canonFieldsWrong)

/- THE SECOND FORM. 'bulk': how many values and letters a reading holds, each counted each time it is reached (what is shared counts as often as it is met; a slice's spare places count too). A statement '..UptoSaid' is the law's where the arguments, and the package variables that the reading takes, are together of bulk at most 1048576: NARROWER than '..Said'. Prove '..Said' where nothing that the law and all that it calls make is longer than what came in: it says more and counts as full. Else prove '..UptoSaid'. A law counts once. -/
mutual
def uptoBulk {H : Type} : DataW H → Nat
  | .lit (.string bytes) => bytes.length + 1
  | .lit _ => 1
  | .nil => 1
  | .ptr d => uptoBulk d + 1
  | .slice elems spare => uptoBulkAll elems + uptoBulkAll spare + 1
  | .agg parts => uptoBulkAll parts + 1
  | .iface _ d => uptoBulk d + 1
  | .map entries => uptoBulkEntries entries + 1
  | .held _ => 1
def uptoBulkAll {H : Type} : List (DataW H) → Nat
  | [] => 0
  | d :: r => uptoBulk d + uptoBulkAll r
def uptoBulkEntries {H : Type} : List (Lit × DataW H) → Nat
  | [] => 0
  | x :: r => uptoBulkEntry x + uptoBulkEntries r
def uptoBulkEntry {H : Type} : Lit × DataW H → Nat
  | (.string bytes, d) => bytes.length + uptoBulk d + 1
  | (_, d) => uptoBulk d + 1
 end
def uptoSmall : (H : Type) → List (DataW H) → Bool := fun _ ds => decide (uptoBulkAll ds ≤ 1048576)
def OpenSpec.upto (s : _root_.Go.ChangeSpec) : _root_.Go.OpenSpec := { _root_.Go.OpenSpec.ofChange s with cond := some uptoSmall }

/-- 'abutmentlaw51.DiffLines', WHERE WHAT IT READS IS OF BULK AT MOST 1048576: true; the input reads as it did. -/
def diffLinesUptoRow : OpenClaim := { program := "ytacglolggaobdab", sum := "5224fb653b129f6654e21c945ae4c5a2c69c5fcaff549940e6b905e82bb11e05", func := "abutment/abutmentlaw51.DiffLines", spec := "diffLines", unfollowed := true, recurses := true, apart := false, narrowed := true }
def DiffLinesUptoSaid : Prop := diffLinesUptoRow.holds Try.pinned (OpenSpec.upto diffLinesSpec)

/-- 'abutmentlaw51.DiffApplies', WHERE WHAT IT READS IS OF BULK AT MOST 1048576: true; the input reads as it did. -/
def diffAppliesUptoRow : OpenClaim := { program := "ytacglolggaobdab", sum := "5224fb653b129f6654e21c945ae4c5a2c69c5fcaff549940e6b905e82bb11e05", func := "abutment/abutmentlaw51.DiffApplies", spec := "diffApplies", unfollowed := true, recurses := true, apart := false, narrowed := true }
def DiffAppliesUptoSaid : Prop := diffAppliesUptoRow.holds Try.pinned (OpenSpec.upto diffAppliesSpec)

/-- 'abutmentlaw51.DiffBack', WHERE WHAT IT READS IS OF BULK AT MOST 1048576: true; the input reads as it did. -/
def diffBackUptoRow : OpenClaim := { program := "ytacglolggaobdab", sum := "5224fb653b129f6654e21c945ae4c5a2c69c5fcaff549940e6b905e82bb11e05", func := "abutment/abutmentlaw51.DiffBack", spec := "diffBack", unfollowed := true, recurses := true, apart := false, narrowed := true }
def DiffBackUptoSaid : Prop := diffBackUptoRow.holds Try.pinned (OpenSpec.upto diffBackSpec)

/-- 'abutmentlaw51.DiffHeads', WHERE WHAT IT READS IS OF BULK AT MOST 1048576: true; the input reads as it did. -/
def diffHeadsUptoRow : OpenClaim := { program := "ytacglolggaobdab", sum := "5224fb653b129f6654e21c945ae4c5a2c69c5fcaff549940e6b905e82bb11e05", func := "abutment/abutmentlaw51.DiffHeads", spec := "diffHeads", inPlace := ["internal/abi.NoEscape", "internal/bytealg.MakeNoZero"], unfollowed := true, recurses := true, apart := false, narrowed := true }
def DiffHeadsUptoSaid : Prop := diffHeadsUptoRow.holds Try.pinned (OpenSpec.upto diffHeadsSpec)

/-- 'abutmentlaw49.TallyParts', WHERE WHAT IT READS IS OF BULK AT MOST 1048576: true; the input reads as it did. -/
def tallyPartsUptoRow : OpenClaim := { program := "ytacglolggaobdab", sum := "5224fb653b129f6654e21c945ae4c5a2c69c5fcaff549940e6b905e82bb11e05", func := "abutment/abutmentlaw49.TallyParts", spec := "tallyParts", unfollowed := true, recurses := true, apart := false, narrowed := true }
def TallyPartsUptoSaid : Prop := tallyPartsUptoRow.holds Try.pinned (OpenSpec.upto tallyPartsSpec)

/-- 'abutmentlaw49.TallyTells', WHERE WHAT IT READS IS OF BULK AT MOST 1048576: true; the input reads as it did. -/
def tallyTellsUptoRow : OpenClaim := { program := "ytacglolggaobdab", sum := "5224fb653b129f6654e21c945ae4c5a2c69c5fcaff549940e6b905e82bb11e05", func := "abutment/abutmentlaw49.TallyTells", spec := "tallyTells", unfollowed := true, recurses := true, apart := false, narrowed := true }
def TallyTellsUptoSaid : Prop := tallyTellsUptoRow.holds Try.pinned (OpenSpec.upto tallyTellsSpec)

/-- 'abutmentlaw49.TallyCounts', WHERE WHAT IT READS IS OF BULK AT MOST 1048576: true; the input reads as it did. -/
def tallyCountsUptoRow : OpenClaim := { program := "ytacglolggaobdab", sum := "5224fb653b129f6654e21c945ae4c5a2c69c5fcaff549940e6b905e82bb11e05", func := "abutment/abutmentlaw49.TallyCounts", spec := "tallyCounts", unfollowed := true, recurses := true, apart := false, narrowed := true }
def TallyCountsUptoSaid : Prop := tallyCountsUptoRow.holds Try.pinned (OpenSpec.upto tallyCountsSpec)

/-- 'abutmentlaw50.CanonNames', WHERE WHAT IT READS IS OF BULK AT MOST 1048576: true; the input reads as it did. -/
def canonNamesUptoRow : OpenClaim := { program := "ytacglolggaobdab", sum := "5224fb653b129f6654e21c945ae4c5a2c69c5fcaff549940e6b905e82bb11e05", func := "abutment/abutmentlaw50.CanonNames", spec := "canonNames", inPlace := ["internal/abi.NoEscape", "internal/bytealg.MakeNoZero"], unfollowed := true, recurses := true, apart := false, narrowed := true }
def CanonNamesUptoSaid : Prop := canonNamesUptoRow.holds Try.pinned (OpenSpec.upto canonNamesSpec)

/-- 'abutmentlaw50.CanonStays', WHERE WHAT IT READS IS OF BULK AT MOST 1048576: true; the input reads as it did. -/
def canonStaysUptoRow : OpenClaim := { program := "ytacglolggaobdab", sum := "5224fb653b129f6654e21c945ae4c5a2c69c5fcaff549940e6b905e82bb11e05", func := "abutment/abutmentlaw50.CanonStays", spec := "canonStays", inPlace := ["internal/abi.NoEscape", "internal/bytealg.MakeNoZero", "internal/bytealg.abigen_runtime_cmpstring"], unfollowed := true, recurses := true, apart := false, narrowed := true }
def CanonStaysUptoSaid : Prop := canonStaysUptoRow.holds Try.pinned (OpenSpec.upto canonStaysSpec)

/-- 'abutmentlaw50.CanonFields', WHERE WHAT IT READS IS OF BULK AT MOST 1048576: true; the input reads as it did. -/
def canonFieldsUptoRow : OpenClaim := { program := "ytacglolggaobdab", sum := "5224fb653b129f6654e21c945ae4c5a2c69c5fcaff549940e6b905e82bb11e05", func := "abutment/abutmentlaw50.CanonFields", spec := "canonFields", inPlace := ["internal/abi.NoEscape", "internal/bytealg.MakeNoZero", "internal/bytealg.abigen_runtime_cmpstring"], unfollowed := true, recurses := true, apart := false, narrowed := true }
def CanonFieldsUptoSaid : Prop := canonFieldsUptoRow.holds Try.pinned (OpenSpec.upto canonFieldsSpec)

end Rows
end Go.Proofs.Ytacglolggaobdab
