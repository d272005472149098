/-
  No cell of these rows narrows 'for every input' (looked for: loops, veiled, ifaces, maps, wideKeys, modest, calm, conditions, laid).
  DERIVED. THE GIVEN ROWS OF THIS SEAT. 6 by the template 'for every input the law returns true; each argument reads behind the call as it read before'; 0 by the template 'total and deterministic' (their statements: YtfckbimkdjcncaaTotals.lean).
  GIVEN WITH THE SEED: the statements are not yours to turn. If you find one false, say at which input.
  Laid BY PROGRAM, IN A SANDBOX (cutbox-rows.mjs): the forced cells as the released guide's own fill.sh prints them over the translation d71ca5cd0b176ac0… (all of the seat's roots in one cut). By AI agents, Wed Nov 11 2026. No macro, syntax, notation, axiom, sorry.
-/
import Derived.Test.YtfckbimkdjcncaaChecked
import GoSem.Claim
import GoSem.ClaimJoined
import GoSem.ClaimMapViews
import Derived.JoinedTies
import Derived.KernelRfl
namespace Go.Proofs.Ytfckbimkdjcncaa
/- THE CELL 'sum', in the pinned program and in every row, IS THE sha256 OF THE DUMP (.gsa) THAT YtfckbimkdjcncaaProg.lean LOADS. Nothing in Lean hashes anything: it is a label: what it is worth is what the hold of that sum in a sandbox is worth. -/
noncomputable def Try.pinned : Pinned := { name := "ytfckbimkdjcncaa", sum := "d71ca5cd0b176ac07de5a6f16f211e0bf6e23d4966c6f1caa6b630a093663e48", checked := Try.checked }
namespace Rows
def none {H : Type} : Left H := { results := [], args := [] }

/-- 'zoetropelaw14.BlockTranslates': WHATEVER THE INPUT: true; the input reads as it did. -/
def blockTranslatesSpec : ChangeSpec := { name := "blockTranslates", fn := fun _ => fun
  | [d] => { results := [.lit (.bool true)], args := [d] }
  | _ => none }
def blockTranslatesRow : OpenClaim := { program := "ytfckbimkdjcncaa", sum := "d71ca5cd0b176ac07de5a6f16f211e0bf6e23d4966c6f1caa6b630a093663e48", func := "zoetrope/zoetropelaw14.BlockTranslates", spec := "blockTranslates", apart := false }
def BlockTranslatesSaid : Prop := blockTranslatesRow.holds Try.pinned (OpenSpec.ofChange blockTranslatesSpec)

/-- ITS FALSE NEIGHBOUR: 'it returns false'. Refute it at one input. -/
def blockTranslatesWrong : ChangeSpec := { name := "blockTranslates", fn := fun _ => fun
  | [d] => { results := [.lit (.bool false)], args := [d] }
  | _ => none }
def BlockTranslatesWrongFalsely : Prop := blockTranslatesRow.holds Try.pinned (OpenSpec.ofChange blockTranslatesWrong)

/-- 'zoetropelaw14.BlockMay': WHATEVER THE INPUT: true; the input reads as it did. -/
def blockMaySpec : ChangeSpec := { name := "blockMay", fn := fun _ => fun
  | [d] => { results := [.lit (.bool true)], args := [d] }
  | _ => none }
def blockMayRow : OpenClaim := { program := "ytfckbimkdjcncaa", sum := "d71ca5cd0b176ac07de5a6f16f211e0bf6e23d4966c6f1caa6b630a093663e48", func := "zoetrope/zoetropelaw14.BlockMay", spec := "blockMay", apart := false }
def BlockMaySaid : Prop := blockMayRow.holds Try.pinned (OpenSpec.ofChange blockMaySpec)

/-- ITS FALSE NEIGHBOUR: 'it returns false'. Refute it at one input. -/
def blockMayWrong : ChangeSpec := { name := "blockMay", fn := fun _ => fun
  | [d] => { results := [.lit (.bool false)], args := [d] }
  | _ => none }
def BlockMayWrongFalsely : Prop := blockMayRow.holds Try.pinned (OpenSpec.ofChange blockMayWrong)

/-- 'zoetropelaw14.BlockRuns': WHATEVER THE INPUT: true; the input reads as it did. -/
def blockRunsSpec : ChangeSpec := { name := "blockRuns", fn := fun _ => fun
  | [d1, d2, d3] => { results := [.lit (.bool true)], args := [d1, d2, d3] }
  | _ => none }
def blockRunsRow : OpenClaim := { program := "ytfckbimkdjcncaa", sum := "d71ca5cd0b176ac07de5a6f16f211e0bf6e23d4966c6f1caa6b630a093663e48", func := "zoetrope/zoetropelaw14.BlockRuns", spec := "blockRuns", apart := false }
def BlockRunsSaid : Prop := blockRunsRow.holds Try.pinned (OpenSpec.ofChange blockRunsSpec)

/-- ITS FALSE NEIGHBOUR: 'it returns false'. Refute it at one input. -/
def blockRunsWrong : ChangeSpec := { name := "blockRuns", fn := fun _ => fun
  | [d1, d2, d3] => { results := [.lit (.bool false)], args := [d1, d2, d3] }
  | _ => none }
def BlockRunsWrongFalsely : Prop := blockRunsRow.holds Try.pinned (OpenSpec.ofChange blockRunsWrong)

/-- 'zoetropelaw14.BlockParts': WHATEVER THE INPUT: true; the input reads as it did. -/
def blockPartsSpec : ChangeSpec := { name := "blockParts", fn := fun _ => fun
  | [d1, d2, d3] => { results := [.lit (.bool true)], args := [d1, d2, d3] }
  | _ => none }
def blockPartsRow : OpenClaim := { program := "ytfckbimkdjcncaa", sum := "d71ca5cd0b176ac07de5a6f16f211e0bf6e23d4966c6f1caa6b630a093663e48", func := "zoetrope/zoetropelaw14.BlockParts", spec := "blockParts", apart := false }
def BlockPartsSaid : Prop := blockPartsRow.holds Try.pinned (OpenSpec.ofChange blockPartsSpec)

/-- ITS FALSE NEIGHBOUR: 'it returns false'. Refute it at one input. -/
def blockPartsWrong : ChangeSpec := { name := "blockParts", fn := fun _ => fun
  | [d1, d2, d3] => { results := [.lit (.bool false)], args := [d1, d2, d3] }
  | _ => none }
def BlockPartsWrongFalsely : Prop := blockPartsRow.holds Try.pinned (OpenSpec.ofChange blockPartsWrong)

/-- 'zoetropelaw14.BlockValues': WHATEVER THE INPUT: true; the input reads as it did. -/
def blockValuesSpec : ChangeSpec := { name := "blockValues", fn := fun _ => fun
  | [d1, d2, d3] => { results := [.lit (.bool true)], args := [d1, d2, d3] }
  | _ => none }
def blockValuesRow : OpenClaim := { program := "ytfckbimkdjcncaa", sum := "d71ca5cd0b176ac07de5a6f16f211e0bf6e23d4966c6f1caa6b630a093663e48", func := "zoetrope/zoetropelaw14.BlockValues", spec := "blockValues", apart := false }
def BlockValuesSaid : Prop := blockValuesRow.holds Try.pinned (OpenSpec.ofChange blockValuesSpec)

/-- ITS FALSE NEIGHBOUR: 'it returns false'. Refute it at one input. -/
def blockValuesWrong : ChangeSpec := { name := "blockValues", fn := fun _ => fun
  | [d1, d2, d3] => { results := [.lit (.bool false)], args := [d1, d2, d3] }
  | _ => none }
def BlockValuesWrongFalsely : Prop := blockValuesRow.holds Try.pinned (OpenSpec.ofChange blockValuesWrong)

/-- 'zoetropelaw14.BlockKnown': WHATEVER THE INPUT: true; the input reads as it did. -/
def blockKnownSpec : ChangeSpec := { name := "blockKnown", fn := fun _ => fun
  | [d1, d2, d3] => { results := [.lit (.bool true)], args := [d1, d2, d3] }
  | _ => none }
def blockKnownRow : OpenClaim := { program := "ytfckbimkdjcncaa", sum := "d71ca5cd0b176ac07de5a6f16f211e0bf6e23d4966c6f1caa6b630a093663e48", func := "zoetrope/zoetropelaw14.BlockKnown", spec := "blockKnown", apart := false }
def BlockKnownSaid : Prop := blockKnownRow.holds Try.pinned (OpenSpec.ofChange blockKnownSpec)

/-- ITS FALSE NEIGHBOUR: 'it returns false'. Refute it at one input. -/
def blockKnownWrong : ChangeSpec := { name := "blockKnown", fn := fun _ => fun
  | [d1, d2, d3] => { results := [.lit (.bool false)], args := [d1, d2, d3] }
  | _ => none }
def BlockKnownWrongFalsely : Prop := blockKnownRow.holds Try.pinned (OpenSpec.ofChange blockKnownWrong)

/- THE SECOND FORM. 'bulk': how many values and letters a reading holds, each counted each time it is reached (what is shared counts as often as it is met; a slice's spare places count too). A statement '..UptoSaid' is the law's where the arguments, and the package variables that the reading takes, are together of bulk at most 1048576: NARROWER than '..Said'. Prove '..Said' where nothing that the law and all that it calls make is longer than what came in: it says more and counts as full. Else prove '..UptoSaid'. A law counts once. -/
mutual
def uptoBulk {H : Type} : DataW H → Nat
  | .lit (.string bytes) => bytes.length + 1
  | .lit _ => 1
  | .nil => 1
  | .ptr d => uptoBulk d + 1
  | .slice elems spare => uptoBulkAll elems + uptoBulkAll spare + 1
  | .agg parts => uptoBulkAll parts + 1
  | .iface _ d => uptoBulk d + 1
  | .map entries => uptoBulkEntries entries + 1
  | .held _ => 1
def uptoBulkAll {H : Type} : List (DataW H) → Nat
  | [] => 0
  | d :: r => uptoBulk d + uptoBulkAll r
def uptoBulkEntries {H : Type} : List (Lit × DataW H) → Nat
  | [] => 0
  | x :: r => uptoBulkEntry x + uptoBulkEntries r
def uptoBulkEntry {H : Type} : Lit × DataW H → Nat
  | (.string bytes, d) => bytes.length + uptoBulk d + 1
  | (_, d) => uptoBulk d + 1
 end
def uptoSmall : (H : Type) → List (DataW H) → Bool := fun _ ds => decide (uptoBulkAll ds ≤ 1048576)
def OpenSpec.upto (s : _root_.Go.ChangeSpec) : _root_.Go.OpenSpec := { _root_.Go.OpenSpec.ofChange s with cond := some uptoSmall }

/-- 'zoetropelaw14.BlockTranslates', WHERE WHAT IT READS IS OF BULK AT MOST 1048576: true; the input reads as it did. -/
def blockTranslatesUptoRow : OpenClaim := { program := "ytfckbimkdjcncaa", sum := "d71ca5cd0b176ac07de5a6f16f211e0bf6e23d4966c6f1caa6b630a093663e48", func := "zoetrope/zoetropelaw14.BlockTranslates", spec := "blockTranslates", apart := false, narrowed := true }
def BlockTranslatesUptoSaid : Prop := blockTranslatesUptoRow.holds Try.pinned (OpenSpec.upto blockTranslatesSpec)

/-- 'zoetropelaw14.BlockMay', WHERE WHAT IT READS IS OF BULK AT MOST 1048576: true; the input reads as it did. -/
def blockMayUptoRow : OpenClaim := { program := "ytfckbimkdjcncaa", sum := "d71ca5cd0b176ac07de5a6f16f211e0bf6e23d4966c6f1caa6b630a093663e48", func := "zoetrope/zoetropelaw14.BlockMay", spec := "blockMay", apart := false, narrowed := true }
def BlockMayUptoSaid : Prop := blockMayUptoRow.holds Try.pinned (OpenSpec.upto blockMaySpec)

/-- 'zoetropelaw14.BlockRuns', WHERE WHAT IT READS IS OF BULK AT MOST 1048576: true; the input reads as it did. -/
def blockRunsUptoRow : OpenClaim := { program := "ytfckbimkdjcncaa", sum := "d71ca5cd0b176ac07de5a6f16f211e0bf6e23d4966c6f1caa6b630a093663e48", func := "zoetrope/zoetropelaw14.BlockRuns", spec := "blockRuns", apart := false, narrowed := true }
def BlockRunsUptoSaid : Prop := blockRunsUptoRow.holds Try.pinned (OpenSpec.upto blockRunsSpec)

/-- 'zoetropelaw14.BlockParts', WHERE WHAT IT READS IS OF BULK AT MOST 1048576: true; the input reads as it did. -/
def blockPartsUptoRow : OpenClaim := { program := "ytfckbimkdjcncaa", sum := "d71ca5cd0b176ac07de5a6f16f211e0bf6e23d4966c6f1caa6b630a093663e48", func := "zoetrope/zoetropelaw14.BlockParts", spec := "blockParts", apart := false, narrowed := true }
def BlockPartsUptoSaid : Prop := blockPartsUptoRow.holds Try.pinned (OpenSpec.upto blockPartsSpec)

/-- 'zoetropelaw14.BlockValues', WHERE WHAT IT READS IS OF BULK AT MOST 1048576: true; the input reads as it did. -/
def blockValuesUptoRow : OpenClaim := { program := "ytfckbimkdjcncaa", sum := "d71ca5cd0b176ac07de5a6f16f211e0bf6e23d4966c6f1caa6b630a093663e48", func := "zoetrope/zoetropelaw14.BlockValues", spec := "blockValues", apart := false, narrowed := true }
def BlockValuesUptoSaid : Prop := blockValuesUptoRow.holds Try.pinned (OpenSpec.upto blockValuesSpec)

/-- 'zoetropelaw14.BlockKnown', WHERE WHAT IT READS IS OF BULK AT MOST 1048576: true; the input reads as it did. -/
def blockKnownUptoRow : OpenClaim := { program := "ytfckbimkdjcncaa", sum := "d71ca5cd0b176ac07de5a6f16f211e0bf6e23d4966c6f1caa6b630a093663e48", func := "zoetrope/zoetropelaw14.BlockKnown", spec := "blockKnown", apart := false, narrowed := true }
def BlockKnownUptoSaid : Prop := blockKnownUptoRow.holds Try.pinned (OpenSpec.upto blockKnownSpec)

end Rows
end Go.Proofs.Ytfckbimkdjcncaa
