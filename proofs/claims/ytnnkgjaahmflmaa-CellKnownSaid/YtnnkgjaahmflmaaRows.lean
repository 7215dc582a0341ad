/-
  No cell of these rows narrows 'for every input' (looked for: loops, veiled, ifaces, maps, wideKeys, modest, calm, conditions, laid).
  DERIVED. THE GIVEN ROWS OF THIS SEAT. 7 by the template 'for every input the law returns true; each argument reads behind the call as it read before'; 0 by the template 'total and deterministic' (their statements: YtnnkgjaahmflmaaTotals.lean).
  GIVEN WITH THE SEED: the statements are not yours to turn. If you find one false, say at which input.
  Laid BY PROGRAM, IN A SANDBOX (cutbox-rows.mjs): the forced cells as the released guide's own fill.sh prints them over the translation 497005edf282c207… (all of the seat's roots in one cut). By AI agents, Wed Nov 11 2026. No macro, syntax, notation, axiom, sorry.
-/
import Derived.Test.YtnnkgjaahmflmaaChecked
import GoSem.Claim
import GoSem.ClaimJoined
import GoSem.ClaimMapViews
import Derived.JoinedTies
import Derived.KernelRfl
namespace Go.Proofs.Ytnnkgjaahmflmaa
/- THE CELL 'sum', in the pinned program and in every row, IS THE sha256 OF THE DUMP (.gsa) THAT YtnnkgjaahmflmaaProg.lean LOADS. Nothing in Lean hashes anything: it is a label: what it is worth is what the hold of that sum in a sandbox is worth. -/
noncomputable def Try.pinned : Pinned := { name := "ytnnkgjaahmflmaa", sum := "497005edf282c207a262b9733524949532c018bab9b57fd14a3fe55b11800b62", checked := Try.checked }
namespace Rows
def none {H : Type} : Left H := { results := [], args := [] }

/-- 'brickyardlaw06.CellForms': WHATEVER THE INPUT: true; the input reads as it did. -/
def cellFormsSpec : ChangeSpec := { name := "cellForms", fn := fun _ => fun
  | [d] => { results := [.lit (.bool true)], args := [d] }
  | _ => none }
def cellFormsRow : OpenClaim := { program := "ytnnkgjaahmflmaa", sum := "497005edf282c207a262b9733524949532c018bab9b57fd14a3fe55b11800b62", func := "brickyard/brickyardlaw06.CellForms", spec := "cellForms", unfollowed := true, recurses := true, apart := false }
def CellFormsSaid : Prop := cellFormsRow.holds Try.pinned (OpenSpec.ofChange cellFormsSpec)

/-- ITS FALSE NEIGHBOUR: 'it returns false'. Refute it at one input. -/
def cellFormsWrong : ChangeSpec := { name := "cellForms", fn := fun _ => fun
  | [d] => { results := [.lit (.bool false)], args := [d] }
  | _ => none }
def CellFormsWrongFalsely : Prop := cellFormsRow.holds Try.pinned (OpenSpec.ofChange cellFormsWrong)

/-- 'brickyardlaw06.CellGets': WHATEVER THE INPUT: true; the input reads as it did. -/
def cellGetsSpec : ChangeSpec := { name := "cellGets", fn := fun _ => fun
  | [d] => { results := [.lit (.bool true)], args := [d] }
  | _ => none }
def cellGetsRow : OpenClaim := { program := "ytnnkgjaahmflmaa", sum := "497005edf282c207a262b9733524949532c018bab9b57fd14a3fe55b11800b62", func := "brickyard/brickyardlaw06.CellGets", spec := "cellGets", unfollowed := true, recurses := true, apart := false }
def CellGetsSaid : Prop := cellGetsRow.holds Try.pinned (OpenSpec.ofChange cellGetsSpec)

/-- ITS FALSE NEIGHBOUR: 'it returns false'. Refute it at one input. -/
def cellGetsWrong : ChangeSpec := { name := "cellGets", fn := fun _ => fun
  | [d] => { results := [.lit (.bool false)], args := [d] }
  | _ => none }
def CellGetsWrongFalsely : Prop := cellGetsRow.holds Try.pinned (OpenSpec.ofChange cellGetsWrong)

/-- 'brickyardlaw06.CellBack': WHATEVER THE INPUT: true; the input reads as it did. -/
def cellBackSpec : ChangeSpec := { name := "cellBack", fn := fun _ => fun
  | [d1, d2] => { results := [.lit (.bool true)], args := [d1, d2] }
  | _ => none }
def cellBackRow : OpenClaim := { program := "ytnnkgjaahmflmaa", sum := "497005edf282c207a262b9733524949532c018bab9b57fd14a3fe55b11800b62", func := "brickyard/brickyardlaw06.CellBack", spec := "cellBack", unfollowed := true, recurses := true, apart := false }
def CellBackSaid : Prop := cellBackRow.holds Try.pinned (OpenSpec.ofChange cellBackSpec)

/-- ITS FALSE NEIGHBOUR: 'it returns false'. Refute it at one input. -/
def cellBackWrong : ChangeSpec := { name := "cellBack", fn := fun _ => fun
  | [d1, d2] => { results := [.lit (.bool false)], args := [d1, d2] }
  | _ => none }
def CellBackWrongFalsely : Prop := cellBackRow.holds Try.pinned (OpenSpec.ofChange cellBackWrong)

/-- 'brickyardlaw06.CellFinds': WHATEVER THE INPUT: true; the input reads as it did. -/
def cellFindsSpec : ChangeSpec := { name := "cellFinds", fn := fun _ => fun
  | [d1, d2] => { results := [.lit (.bool true)], args := [d1, d2] }
  | _ => none }
def cellFindsRow : OpenClaim := { program := "ytnnkgjaahmflmaa", sum := "497005edf282c207a262b9733524949532c018bab9b57fd14a3fe55b11800b62", func := "brickyard/brickyardlaw06.CellFinds", spec := "cellFinds", unfollowed := true, recurses := true, apart := false }
def CellFindsSaid : Prop := cellFindsRow.holds Try.pinned (OpenSpec.ofChange cellFindsSpec)

/-- ITS FALSE NEIGHBOUR: 'it returns false'. Refute it at one input. -/
def cellFindsWrong : ChangeSpec := { name := "cellFinds", fn := fun _ => fun
  | [d1, d2] => { results := [.lit (.bool false)], args := [d1, d2] }
  | _ => none }
def CellFindsWrongFalsely : Prop := cellFindsRow.holds Try.pinned (OpenSpec.ofChange cellFindsWrong)

/-- 'brickyardlaw06.CellHalves': WHATEVER THE INPUT: true; the input reads as it did. -/
def cellHalvesSpec : ChangeSpec := { name := "cellHalves", fn := fun _ => fun
  | [d1, d2, d3] => { results := [.lit (.bool true)], args := [d1, d2, d3] }
  | _ => none }
def cellHalvesRow : OpenClaim := { program := "ytnnkgjaahmflmaa", sum := "497005edf282c207a262b9733524949532c018bab9b57fd14a3fe55b11800b62", func := "brickyard/brickyardlaw06.CellHalves", spec := "cellHalves", unfollowed := true, recurses := true, apart := false }
def CellHalvesSaid : Prop := cellHalvesRow.holds Try.pinned (OpenSpec.ofChange cellHalvesSpec)

/-- ITS FALSE NEIGHBOUR: 'it returns false'. Refute it at one input. -/
def cellHalvesWrong : ChangeSpec := { name := "cellHalves", fn := fun _ => fun
  | [d1, d2, d3] => { results := [.lit (.bool false)], args := [d1, d2, d3] }
  | _ => none }
def CellHalvesWrongFalsely : Prop := cellHalvesRow.holds Try.pinned (OpenSpec.ofChange cellHalvesWrong)

/-- 'brickyardlaw06.CellKnown': WHATEVER THE INPUT: true; the input reads as it did. -/
def cellKnownSpec : ChangeSpec := { name := "cellKnown", fn := fun _ => fun
  | [] => { results := [.lit (.bool true)], args := [] }
  | _ => none }
def cellKnownRow : OpenClaim := { program := "ytnnkgjaahmflmaa", sum := "497005edf282c207a262b9733524949532c018bab9b57fd14a3fe55b11800b62", func := "brickyard/brickyardlaw06.CellKnown", spec := "cellKnown", unfollowed := true, recurses := true, apart := false }
def CellKnownSaid : Prop := cellKnownRow.holds Try.pinned (OpenSpec.ofChange cellKnownSpec)

/-- ITS FALSE NEIGHBOUR: 'it returns false'. Refute it at one input. -/
def cellKnownWrong : ChangeSpec := { name := "cellKnown", fn := fun _ => fun
  | [] => { results := [.lit (.bool false)], args := [] }
  | _ => none }
def CellKnownWrongFalsely : Prop := cellKnownRow.holds Try.pinned (OpenSpec.ofChange cellKnownWrong)

/-- 'brickyardlaw06.CellSplits': WHATEVER THE INPUT: true; the input reads as it did. -/
def cellSplitsSpec : ChangeSpec := { name := "cellSplits", fn := fun _ => fun
  | [d1, d2, d3] => { results := [.lit (.bool true)], args := [d1, d2, d3] }
  | _ => none }
def cellSplitsRow : OpenClaim := { program := "ytnnkgjaahmflmaa", sum := "497005edf282c207a262b9733524949532c018bab9b57fd14a3fe55b11800b62", func := "brickyard/brickyardlaw06.CellSplits", spec := "cellSplits", inPlace := ["slices.overlaps[brickyard/api.Cell]", "slices.overlaps[int]"], unfollowed := true, recurses := true, apart := false }
def CellSplitsSaid : Prop := cellSplitsRow.holds Try.pinned (OpenSpec.ofChange cellSplitsSpec)

/-- ITS FALSE NEIGHBOUR: 'it returns false'. Refute it at one input. -/
def cellSplitsWrong : ChangeSpec := { name := "cellSplits", fn := fun _ => fun
  | [d1, d2, d3] => { results := [.lit (.bool false)], args := [d1, d2, d3] }
  | _ => none }
def CellSplitsWrongFalsely : Prop := cellSplitsRow.holds Try.pinned (OpenSpec.ofChange cellSplitsWrong)

/- THE SECOND FORM. 'bulk': how many values and letters a reading holds, each counted each time it is reached (what is shared counts as often as it is met; a slice's spare places count too). A statement '..UptoSaid' is the law's where the arguments, and the package variables that the reading takes, are together of bulk at most 1048576: NARROWER than '..Said'. Prove '..Said' where nothing that the law and all that it calls make is longer than what came in: it says more and counts as full. Else prove '..UptoSaid'. A law counts once. -/
mutual
def uptoBulk {H : Type} : DataW H → Nat
  | .lit (.string bytes) => bytes.length + 1
  | .lit _ => 1
  | .nil => 1
  | .ptr d => uptoBulk d + 1
  | .slice elems spare => uptoBulkAll elems + uptoBulkAll spare + 1
  | .agg parts => uptoBulkAll parts + 1
  | .iface _ d => uptoBulk d + 1
  | .map entries => uptoBulkEntries entries + 1
  | .held _ => 1
def uptoBulkAll {H : Type} : List (DataW H) → Nat
  | [] => 0
  | d :: r => uptoBulk d + uptoBulkAll r
def uptoBulkEntries {H : Type} : List (Lit × DataW H) → Nat
  | [] => 0
  | x :: r => uptoBulkEntry x + uptoBulkEntries r
def uptoBulkEntry {H : Type} : Lit × DataW H → Nat
  | (.string bytes, d) => bytes.length + uptoBulk d + 1
  | (_, d) => uptoBulk d + 1
 end
def uptoSmall : (H : Type) → List (DataW H) → Bool := fun _ ds => decide (uptoBulkAll ds ≤ 1048576)
def OpenSpec.upto (s : _root_.Go.ChangeSpec) : _root_.Go.OpenSpec := { _root_.Go.OpenSpec.ofChange s with cond := some uptoSmall }

/-- 'brickyardlaw06.CellForms', WHERE WHAT IT READS IS OF BULK AT MOST 1048576: true; the input reads as it did. -/
def cellFormsUptoRow : OpenClaim := { program := "ytnnkgjaahmflmaa", sum := "497005edf282c207a262b9733524949532c018bab9b57fd14a3fe55b11800b62", func := "brickyard/brickyardlaw06.CellForms", spec := "cellForms", unfollowed := true, recurses := true, apart := false, narrowed := true }
def CellFormsUptoSaid : Prop := cellFormsUptoRow.holds Try.pinned (OpenSpec.upto cellFormsSpec)

/-- 'brickyardlaw06.CellGets', WHERE WHAT IT READS IS OF BULK AT MOST 1048576: true; the input reads as it did. -/
def cellGetsUptoRow : OpenClaim := { program := "ytnnkgjaahmflmaa", sum := "497005edf282c207a262b9733524949532c018bab9b57fd14a3fe55b11800b62", func := "brickyard/brickyardlaw06.CellGets", spec := "cellGets", unfollowed := true, recurses := true, apart := false, narrowed := true }
def CellGetsUptoSaid : Prop := cellGetsUptoRow.holds Try.pinned (OpenSpec.upto cellGetsSpec)

/-- 'brickyardlaw06.CellBack', WHERE WHAT IT READS IS OF BULK AT MOST 1048576: true; the input reads as it did. -/
def cellBackUptoRow : OpenClaim := { program := "ytnnkgjaahmflmaa", sum := "497005edf282c207a262b9733524949532c018bab9b57fd14a3fe55b11800b62", func := "brickyard/brickyardlaw06.CellBack", spec := "cellBack", unfollowed := true, recurses := true, apart := false, narrowed := true }
def CellBackUptoSaid : Prop := cellBackUptoRow.holds Try.pinned (OpenSpec.upto cellBackSpec)

/-- 'brickyardlaw06.CellFinds', WHERE WHAT IT READS IS OF BULK AT MOST 1048576: true; the input reads as it did. -/
def cellFindsUptoRow : OpenClaim := { program := "ytnnkgjaahmflmaa", sum := "497005edf282c207a262b9733524949532c018bab9b57fd14a3fe55b11800b62", func := "brickyard/brickyardlaw06.CellFinds", spec := "cellFinds", unfollowed := true, recurses := true, apart := false, narrowed := true }
def CellFindsUptoSaid : Prop := cellFindsUptoRow.holds Try.pinned (OpenSpec.upto cellFindsSpec)

/-- 'brickyardlaw06.CellHalves', WHERE WHAT IT READS IS OF BULK AT MOST 1048576: true; the input reads as it did. -/
def cellHalvesUptoRow : OpenClaim := { program := "ytnnkgjaahmflmaa", sum := "497005edf282c207a262b9733524949532c018bab9b57fd14a3fe55b11800b62", func := "brickyard/brickyardlaw06.CellHalves", spec := "cellHalves", unfollowed := true, recurses := true, apart := false, narrowed := true }
def CellHalvesUptoSaid : Prop := cellHalvesUptoRow.holds Try.pinned (OpenSpec.upto cellHalvesSpec)

/-- 'brickyardlaw06.CellKnown', WHERE WHAT IT READS IS OF BULK AT MOST 1048576: true; the input reads as it did. -/
def cellKnownUptoRow : OpenClaim := { program := "ytnnkgjaahmflmaa", sum := "497005edf282c207a262b9733524949532c018bab9b57fd14a3fe55b11800b62", func := "brickyard/brickyardlaw06.CellKnown", spec := "cellKnown", unfollowed := true, recurses := true, apart := false, narrowed := true }
def CellKnownUptoSaid : Prop := cellKnownUptoRow.holds Try.pinned (OpenSpec.upto cellKnownSpec)

/-- 'brickyardlaw06.CellSplits', WHERE WHAT IT READS IS OF BULK AT MOST 1048576: true; the input reads as it did. -/
def cellSplitsUptoRow : OpenClaim := { program := "ytnnkgjaahmflmaa", sum := "497005edf282c207a262b9733524949532c018bab9b57fd14a3fe55b11800b62", func := "brickyard/brickyardlaw06.CellSplits", spec := "cellSplits", inPlace := ["slices.overlaps[brickyard/api.Cell]", "slices.overlaps[int]"], unfollowed := true, recurses := true, apart := false, narrowed := true }
def CellSplitsUptoSaid : Prop := cellSplitsUptoRow.holds Try.pinned (OpenSpec.upto cellSplitsSpec)

end Rows
end Go.Proofs.Ytnnkgjaahmflmaa
