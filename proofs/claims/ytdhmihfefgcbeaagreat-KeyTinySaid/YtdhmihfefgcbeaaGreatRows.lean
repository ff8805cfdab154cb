/-
  No cell of these rows narrows 'for every input' (looked for: loops, veiled, ifaces, maps, wideKeys, modest, calm, conditions, laid).
  DERIVED. THE GIVEN ROWS OF THIS SEAT. 7 by the template 'for every input the law returns true; each argument reads behind the call as it read before'; 0 by the template 'total and deterministic' (their statements: YtdhmihfefgcbeaaGreatTotals.lean).
  GIVEN WITH THE SEED: the statements are not yours to turn. If you find one false, say at which input.
  Laid BY PROGRAM, IN A SANDBOX (cutbox-rows.mjs): the forced cells as the released guide's own fill.sh prints them over the translation 089a8e8c268d320c… (all of the seat's roots in one cut). By AI agents, Wed Nov 11 2026. No macro, syntax, notation, axiom, sorry.
-/
import Derived.Test.YtdhmihfefgcbeaaGreatChecked
import GoSem.Claim
import GoSem.ClaimJoined
import GoSem.ClaimMapViews
import Derived.JoinedTies
import Derived.KernelRfl
namespace Go.Proofs.YtdhmihfefgcbeaaGreat
/- THE CELL 'sum', in the pinned program and in every row, IS THE sha256 OF THE DUMP (.gsa) THAT YtdhmihfefgcbeaaGreatProg.lean LOADS. Nothing in Lean hashes anything: it is a label: what it is worth is what the hold of that sum in a sandbox is worth. -/
noncomputable def Tryz.pinned : Pinned := { name := "ytdhmihfefgcbeaagreat", sum := "089a8e8c268d320ccd41618282668e5f061443863fbce2aa3240cda940af691b", checked := Tryz.checked }
namespace Rows
def none {H : Type} : Left H := { results := [], args := [] }

/-- 'curvetlaw24.Keys': WHATEVER THE INPUT: true; the input reads as it did. -/
def keysSpec : ChangeSpec := { name := "keys", fn := fun _ => fun
  | [d1, d2] => { results := [.lit (.bool true)], args := [d1, d2] }
  | _ => none }
def keysRow : OpenClaim := { program := "ytdhmihfefgcbeaagreat", sum := "089a8e8c268d320ccd41618282668e5f061443863fbce2aa3240cda940af691b", func := "curvet/curvetlaw24.Keys", spec := "keys", inPlace := ["math/bits.Sub64", "math/bits.Add64", "internal/abi.NoEscape", "internal/bytealg.MakeNoZero"], unfollowed := true, recurses := true, named := ["math/bits.divideError", "math/bits.overflowError"], apart := false }
def KeysSaid : Prop := keysRow.holds Tryz.pinned (OpenSpec.ofChange keysSpec)

/-- ITS FALSE NEIGHBOUR: 'it returns false'. Refute it at one input. -/
def keysWrong : ChangeSpec := { name := "keys", fn := fun _ => fun
  | [d1, d2] => { results := [.lit (.bool false)], args := [d1, d2] }
  | _ => none }
def KeysWrongFalsely : Prop := keysRow.holds Tryz.pinned (OpenSpec.ofChange keysWrong)

/-- 'curvetlaw24.KeyWide': WHATEVER THE INPUT: true; the input reads as it did. -/
def keyWideSpec : ChangeSpec := { name := "keyWide", fn := fun _ => fun
  | [d1, d2] => { results := [.lit (.bool true)], args := [d1, d2] }
  | _ => none }
def keyWideRow : OpenClaim := { program := "ytdhmihfefgcbeaagreat", sum := "089a8e8c268d320ccd41618282668e5f061443863fbce2aa3240cda940af691b", func := "curvet/curvetlaw24.KeyWide", spec := "keyWide", inPlace := ["internal/abi.NoEscape", "internal/bytealg.MakeNoZero", "math/bits.Sub64", "math/bits.Add64"], unfollowed := true, recurses := true, named := ["math/bits.divideError", "math/bits.overflowError"], apart := false }
def KeyWideSaid : Prop := keyWideRow.holds Tryz.pinned (OpenSpec.ofChange keyWideSpec)

/-- ITS FALSE NEIGHBOUR: 'it returns false'. Refute it at one input. -/
def keyWideWrong : ChangeSpec := { name := "keyWide", fn := fun _ => fun
  | [d1, d2] => { results := [.lit (.bool false)], args := [d1, d2] }
  | _ => none }
def KeyWideWrongFalsely : Prop := keyWideRow.holds Tryz.pinned (OpenSpec.ofChange keyWideWrong)

/-- 'curvetlaw24.KeyEnds': WHATEVER THE INPUT: true; the input reads as it did. -/
def keyEndsSpec : ChangeSpec := { name := "keyEnds", fn := fun _ => fun
  | [d1, d2] => { results := [.lit (.bool true)], args := [d1, d2] }
  | _ => none }
def keyEndsRow : OpenClaim := { program := "ytdhmihfefgcbeaagreat", sum := "089a8e8c268d320ccd41618282668e5f061443863fbce2aa3240cda940af691b", func := "curvet/curvetlaw24.KeyEnds", spec := "keyEnds", inPlace := ["internal/abi.NoEscape", "internal/bytealg.MakeNoZero", "math/bits.Sub64", "math/bits.Add64"], unfollowed := true, recurses := true, named := ["math/bits.divideError", "math/bits.overflowError"], apart := false }
def KeyEndsSaid : Prop := keyEndsRow.holds Tryz.pinned (OpenSpec.ofChange keyEndsSpec)

/-- ITS FALSE NEIGHBOUR: 'it returns false'. Refute it at one input. -/
def keyEndsWrong : ChangeSpec := { name := "keyEnds", fn := fun _ => fun
  | [d1, d2] => { results := [.lit (.bool false)], args := [d1, d2] }
  | _ => none }
def KeyEndsWrongFalsely : Prop := keyEndsRow.holds Tryz.pinned (OpenSpec.ofChange keyEndsWrong)

/-- 'curvetlaw24.KeyTiny': WHATEVER THE INPUT: true; the input reads as it did. -/
def keyTinySpec : ChangeSpec := { name := "keyTiny", fn := fun _ => fun
  | [d] => { results := [.lit (.bool true)], args := [d] }
  | _ => none }
def keyTinyRow : OpenClaim := { program := "ytdhmihfefgcbeaagreat", sum := "089a8e8c268d320ccd41618282668e5f061443863fbce2aa3240cda940af691b", func := "curvet/curvetlaw24.KeyTiny", spec := "keyTiny", inPlace := ["internal/abi.NoEscape", "internal/bytealg.MakeNoZero", "math/bits.Sub64", "math/bits.Add64"], unfollowed := true, recurses := true, named := ["math/bits.divideError", "math/bits.overflowError"], apart := false }
def KeyTinySaid : Prop := keyTinyRow.holds Tryz.pinned (OpenSpec.ofChange keyTinySpec)

/-- ITS FALSE NEIGHBOUR: 'it returns false'. Refute it at one input. -/
def keyTinyWrong : ChangeSpec := { name := "keyTiny", fn := fun _ => fun
  | [d] => { results := [.lit (.bool false)], args := [d] }
  | _ => none }
def KeyTinyWrongFalsely : Prop := keyTinyRow.holds Tryz.pinned (OpenSpec.ofChange keyTinyWrong)

/-- 'curvetlaw24.KeyMakes': WHATEVER THE INPUT: true; the input reads as it did. -/
def keyMakesSpec : ChangeSpec := { name := "keyMakes", fn := fun _ => fun
  | [d1, d2, d3] => { results := [.lit (.bool true)], args := [d1, d2, d3] }
  | _ => none }
def keyMakesRow : OpenClaim := { program := "ytdhmihfefgcbeaagreat", sum := "089a8e8c268d320ccd41618282668e5f061443863fbce2aa3240cda940af691b", func := "curvet/curvetlaw24.KeyMakes", spec := "keyMakes", inPlace := ["internal/abi.NoEscape", "internal/bytealg.MakeNoZero", "math/bits.Sub64", "math/bits.Add64"], unfollowed := true, recurses := true, named := ["math/bits.divideError", "math/bits.overflowError"], apart := false }
def KeyMakesSaid : Prop := keyMakesRow.holds Tryz.pinned (OpenSpec.ofChange keyMakesSpec)

/-- ITS FALSE NEIGHBOUR: 'it returns false'. Refute it at one input. -/
def keyMakesWrong : ChangeSpec := { name := "keyMakes", fn := fun _ => fun
  | [d1, d2, d3] => { results := [.lit (.bool false)], args := [d1, d2, d3] }
  | _ => none }
def KeyMakesWrongFalsely : Prop := keyMakesRow.holds Tryz.pinned (OpenSpec.ofChange keyMakesWrong)

/-- 'curvetlaw24.KeyTries': WHATEVER THE INPUT: true; the input reads as it did. -/
def keyTriesSpec : ChangeSpec := { name := "keyTries", fn := fun _ => fun
  | [d1, d2] => { results := [.lit (.bool true)], args := [d1, d2] }
  | _ => none }
def keyTriesRow : OpenClaim := { program := "ytdhmihfefgcbeaagreat", sum := "089a8e8c268d320ccd41618282668e5f061443863fbce2aa3240cda940af691b", func := "curvet/curvetlaw24.KeyTries", spec := "keyTries", inPlace := ["internal/abi.NoEscape", "internal/bytealg.MakeNoZero", "math/bits.Sub64", "math/bits.Add64"], unfollowed := true, recurses := true, named := ["math/bits.divideError", "math/bits.overflowError"], apart := false }
def KeyTriesSaid : Prop := keyTriesRow.holds Tryz.pinned (OpenSpec.ofChange keyTriesSpec)

/-- ITS FALSE NEIGHBOUR: 'it returns false'. Refute it at one input. -/
def keyTriesWrong : ChangeSpec := { name := "keyTries", fn := fun _ => fun
  | [d1, d2] => { results := [.lit (.bool false)], args := [d1, d2] }
  | _ => none }
def KeyTriesWrongFalsely : Prop := keyTriesRow.holds Tryz.pinned (OpenSpec.ofChange keyTriesWrong)

/-- 'curvetlaw24.KeySpent': WHATEVER THE INPUT: true; the input reads as it did. -/
def keySpentSpec : ChangeSpec := { name := "keySpent", fn := fun _ => fun
  | [d1, d2] => { results := [.lit (.bool true)], args := [d1, d2] }
  | _ => none }
def keySpentRow : OpenClaim := { program := "ytdhmihfefgcbeaagreat", sum := "089a8e8c268d320ccd41618282668e5f061443863fbce2aa3240cda940af691b", func := "curvet/curvetlaw24.KeySpent", spec := "keySpent", inPlace := ["internal/abi.NoEscape", "internal/bytealg.MakeNoZero", "math/bits.Sub64", "math/bits.Add64"], unfollowed := true, recurses := true, named := ["math/bits.divideError", "math/bits.overflowError"], apart := false }
def KeySpentSaid : Prop := keySpentRow.holds Tryz.pinned (OpenSpec.ofChange keySpentSpec)

/-- ITS FALSE NEIGHBOUR: 'it returns false'. Refute it at one input. -/
def keySpentWrong : ChangeSpec := { name := "keySpent", fn := fun _ => fun
  | [d1, d2] => { results := [.lit (.bool false)], args := [d1, d2] }
  | _ => none }
def KeySpentWrongFalsely : Prop := keySpentRow.holds Tryz.pinned (OpenSpec.ofChange keySpentWrong)

/- THE SECOND FORM. 'bulk': how many values and letters a reading holds, each counted each time it is reached (what is shared counts as often as it is met; a slice's spare places count too). A statement '..UptoSaid' is the law's where the arguments, and the package variables that the reading takes, are together of bulk at most 1048576: NARROWER than '..Said'. Prove '..Said' where nothing that the law and all that it calls make is longer than what came in: it says more and counts as full. Else prove '..UptoSaid'. A law counts once. -/
mutual
def uptoBulk {H : Type} : DataW H → Nat
  | .lit (.string bytes) => bytes.length + 1
  | .lit _ => 1
  | .nil => 1
  | .ptr d => uptoBulk d + 1
  | .slice elems spare => uptoBulkAll elems + uptoBulkAll spare + 1
  | .agg parts => uptoBulkAll parts + 1
  | .iface _ d => uptoBulk d + 1
  | .map entries => uptoBulkEntries entries + 1
  | .held _ => 1
def uptoBulkAll {H : Type} : List (DataW H) → Nat
  | [] => 0
  | d :: r => uptoBulk d + uptoBulkAll r
def uptoBulkEntries {H : Type} : List (Lit × DataW H) → Nat
  | [] => 0
  | x :: r => uptoBulkEntry x + uptoBulkEntries r
def uptoBulkEntry {H : Type} : Lit × DataW H → Nat
  | (.string bytes, d) => bytes.length + uptoBulk d + 1
  | (_, d) => uptoBulk d + 1
 end
def uptoSmall : (H : Type) → List (DataW H) → Bool := fun _ ds => decide (uptoBulkAll ds ≤ 1048576)
def OpenSpec.upto (s : _root_.Go.ChangeSpec) : _root_.Go.OpenSpec := { _root_.Go.OpenSpec.ofChange s with cond := some uptoSmall }

/-- 'curvetlaw24.Keys', WHERE WHAT IT READS IS OF BULK AT MOST 1048576: true; the input reads as it did. -/
def keysUptoRow : OpenClaim := { program := "ytdhmihfefgcbeaagreat", sum := "089a8e8c268d320ccd41618282668e5f061443863fbce2aa3240cda940af691b", func := "curvet/curvetlaw24.Keys", spec := "keys", inPlace := ["math/bits.Sub64", "math/bits.Add64", "internal/abi.NoEscape", "internal/bytealg.MakeNoZero"], unfollowed := true, recurses := true, named := ["math/bits.divideError", "math/bits.overflowError"], apart := false, narrowed := true }
def KeysUptoSaid : Prop := keysUptoRow.holds Tryz.pinned (OpenSpec.upto keysSpec)

/-- 'curvetlaw24.KeyWide', WHERE WHAT IT READS IS OF BULK AT MOST 1048576: true; the input reads as it did. -/
def keyWideUptoRow : OpenClaim := { program := "ytdhmihfefgcbeaagreat", sum := "089a8e8c268d320ccd41618282668e5f061443863fbce2aa3240cda940af691b", func := "curvet/curvetlaw24.KeyWide", spec := "keyWide", inPlace := ["internal/abi.NoEscape", "internal/bytealg.MakeNoZero", "math/bits.Sub64", "math/bits.Add64"], unfollowed := true, recurses := true, named := ["math/bits.divideError", "math/bits.overflowError"], apart := false, narrowed := true }
def KeyWideUptoSaid : Prop := keyWideUptoRow.holds Tryz.pinned (OpenSpec.upto keyWideSpec)

/-- 'curvetlaw24.KeyEnds', WHERE WHAT IT READS IS OF BULK AT MOST 1048576: true; the input reads as it did. -/
def keyEndsUptoRow : OpenClaim := { program := "ytdhmihfefgcbeaagreat", sum := "089a8e8c268d320ccd41618282668e5f061443863fbce2aa3240cda940af691b", func := "curvet/curvetlaw24.KeyEnds", spec := "keyEnds", inPlace := ["internal/abi.NoEscape", "internal/bytealg.MakeNoZero", "math/bits.Sub64", "math/bits.Add64"], unfollowed := true, recurses := true, named := ["math/bits.divideError", "math/bits.overflowError"], apart := false, narrowed := true }
def KeyEndsUptoSaid : Prop := keyEndsUptoRow.holds Tryz.pinned (OpenSpec.upto keyEndsSpec)

/-- 'curvetlaw24.KeyTiny', WHERE WHAT IT READS IS OF BULK AT MOST 1048576: true; the input reads as it did. -/
def keyTinyUptoRow : OpenClaim := { program := "ytdhmihfefgcbeaagreat", sum := "089a8e8c268d320ccd41618282668e5f061443863fbce2aa3240cda940af691b", func := "curvet/curvetlaw24.KeyTiny", spec := "keyTiny", inPlace := ["internal/abi.NoEscape", "internal/bytealg.MakeNoZero", "math/bits.Sub64", "math/bits.Add64"], unfollowed := true, recurses := true, named := ["math/bits.divideError", "math/bits.overflowError"], apart := false, narrowed := true }
def KeyTinyUptoSaid : Prop := keyTinyUptoRow.holds Tryz.pinned (OpenSpec.upto keyTinySpec)

/-- 'curvetlaw24.KeyMakes', WHERE WHAT IT READS IS OF BULK AT MOST 1048576: true; the input reads as it did. -/
def keyMakesUptoRow : OpenClaim := { program := "ytdhmihfefgcbeaagreat", sum := "089a8e8c268d320ccd41618282668e5f061443863fbce2aa3240cda940af691b", func := "curvet/curvetlaw24.KeyMakes", spec := "keyMakes", inPlace := ["internal/abi.NoEscape", "internal/bytealg.MakeNoZero", "math/bits.Sub64", "math/bits.Add64"], unfollowed := true, recurses := true, named := ["math/bits.divideError", "math/bits.overflowError"], apart := false, narrowed := true }
def KeyMakesUptoSaid : Prop := keyMakesUptoRow.holds Tryz.pinned (OpenSpec.upto keyMakesSpec)

/-- 'curvetlaw24.KeyTries', WHERE WHAT IT READS IS OF BULK AT MOST 1048576: true; the input reads as it did. -/
def keyTriesUptoRow : OpenClaim := { program := "ytdhmihfefgcbeaagreat", sum := "089a8e8c268d320ccd41618282668e5f061443863fbce2aa3240cda940af691b", func := "curvet/curvetlaw24.KeyTries", spec := "keyTries", inPlace := ["internal/abi.NoEscape", "internal/bytealg.MakeNoZero", "math/bits.Sub64", "math/bits.Add64"], unfollowed := true, recurses := true, named := ["math/bits.divideError", "math/bits.overflowError"], apart := false, narrowed := true }
def KeyTriesUptoSaid : Prop := keyTriesUptoRow.holds Tryz.pinned (OpenSpec.upto keyTriesSpec)

/-- 'curvetlaw24.KeySpent', WHERE WHAT IT READS IS OF BULK AT MOST 1048576: true; the input reads as it did. -/
def keySpentUptoRow : OpenClaim := { program := "ytdhmihfefgcbeaagreat", sum := "089a8e8c268d320ccd41618282668e5f061443863fbce2aa3240cda940af691b", func := "curvet/curvetlaw24.KeySpent", spec := "keySpent", inPlace := ["internal/abi.NoEscape", "internal/bytealg.MakeNoZero", "math/bits.Sub64", "math/bits.Add64"], unfollowed := true, recurses := true, named := ["math/bits.divideError", "math/bits.overflowError"], apart := false, narrowed := true }
def KeySpentUptoSaid : Prop := keySpentUptoRow.holds Tryz.pinned (OpenSpec.upto keySpentSpec)

end Rows
end Go.Proofs.YtdhmihfefgcbeaaGreat
