/-
  No cell of these rows narrows 'for every input' (looked for: loops, veiled, ifaces, maps, wideKeys, modest, calm, conditions, laid).
  DERIVED. THE GIVEN ROWS OF THIS SEAT. 11 by the template 'for every input the law returns true; each argument reads behind the call as it read before'; 0 by the template 'total and deterministic' (their statements: YtfocopihipejfaaGreatTotals.lean).
  GIVEN WITH THE SEED: the statements are not yours to turn. If you find one false, say at which input.
  Laid BY PROGRAM, IN A SANDBOX (cutbox-rows.mjs): the forced cells as the released guide's own fill.sh prints them over the translation 0f61f0f489668dc3… (all of the seat's roots in one cut). By AI agents, Wed Nov 11 2026. No macro, syntax, notation, axiom, sorry.
-/
import Derived.Test.YtfocopihipejfaaGreatChecked
import GoSem.Claim
import GoSem.ClaimJoined
import GoSem.ClaimMapViews
import Derived.JoinedTies
import Derived.KernelRfl
namespace Go.Proofs.YtfocopihipejfaaGreat
/- THE CELL 'sum', in the pinned program and in every row, IS THE sha256 OF THE DUMP (.gsa) THAT YtfocopihipejfaaGreatProg.lean LOADS. Nothing in Lean hashes anything: it is a label: what it is worth is what the hold of that sum in a sandbox is worth. -/
noncomputable def Tryz.pinned : Pinned := { name := "ytfocopihipejfaagreat", sum := "0f61f0f489668dc38da940b1566f3a8fbd98ff13f40b8b3259ddbe2aa6b07457", checked := Tryz.checked }
namespace Rows
def none {H : Type} : Left H := { results := [], args := [] }

/-- 'curvetlaw26.EcdsaDigests': WHATEVER THE INPUT: true; the input reads as it did. -/
def ecdsaDigestsSpec : ChangeSpec := { name := "ecdsaDigests", fn := fun _ => fun
  | [d1, d2, d3] => { results := [.lit (.bool true)], args := [d1, d2, d3] }
  | _ => none }
def ecdsaDigestsRow : OpenClaim := { program := "ytfocopihipejfaagreat", sum := "0f61f0f489668dc38da940b1566f3a8fbd98ff13f40b8b3259ddbe2aa6b07457", func := "curvet/curvetlaw26.EcdsaDigests", spec := "ecdsaDigests", inPlace := ["math/bits.Sub64", "math/bits.Add64", "internal/abi.NoEscape", "internal/bytealg.MakeNoZero"], unfollowed := true, recurses := true, named := ["math/bits.divideError", "math/bits.overflowError"], apart := false }
def EcdsaDigestsSaid : Prop := ecdsaDigestsRow.holds Tryz.pinned (OpenSpec.ofChange ecdsaDigestsSpec)

/-- ITS FALSE NEIGHBOUR: 'it returns false'. Refute it at one input. -/
def ecdsaDigestsWrong : ChangeSpec := { name := "ecdsaDigests", fn := fun _ => fun
  | [d1, d2, d3] => { results := [.lit (.bool false)], args := [d1, d2, d3] }
  | _ => none }
def EcdsaDigestsWrongFalsely : Prop := ecdsaDigestsRow.holds Tryz.pinned (OpenSpec.ofChange ecdsaDigestsWrong)

/-- 'curvetlaw26.EcdsaVerifies': WHATEVER THE INPUT: true; the input reads as it did. -/
def ecdsaVerifiesSpec : ChangeSpec := { name := "ecdsaVerifies", fn := fun _ => fun
  | [d1, d2, d3, d4, d5] => { results := [.lit (.bool true)], args := [d1, d2, d3, d4, d5] }
  | _ => none }
def ecdsaVerifiesRow : OpenClaim := { program := "ytfocopihipejfaagreat", sum := "0f61f0f489668dc38da940b1566f3a8fbd98ff13f40b8b3259ddbe2aa6b07457", func := "curvet/curvetlaw26.EcdsaVerifies", spec := "ecdsaVerifies", inPlace := ["math/bits.Sub64", "math/bits.Add64", "internal/abi.NoEscape", "internal/bytealg.MakeNoZero"], unfollowed := true, recurses := true, named := ["math/bits.divideError", "math/bits.overflowError"], apart := false }
def EcdsaVerifiesSaid : Prop := ecdsaVerifiesRow.holds Tryz.pinned (OpenSpec.ofChange ecdsaVerifiesSpec)

/-- ITS FALSE NEIGHBOUR: 'it returns false'. Refute it at one input. -/
def ecdsaVerifiesWrong : ChangeSpec := { name := "ecdsaVerifies", fn := fun _ => fun
  | [d1, d2, d3, d4, d5] => { results := [.lit (.bool false)], args := [d1, d2, d3, d4, d5] }
  | _ => none }
def EcdsaVerifiesWrongFalsely : Prop := ecdsaVerifiesRow.holds Tryz.pinned (OpenSpec.ofChange ecdsaVerifiesWrong)

/-- 'curvetlaw26.EcdsaRanges': WHATEVER THE INPUT: true; the input reads as it did. -/
def ecdsaRangesSpec : ChangeSpec := { name := "ecdsaRanges", fn := fun _ => fun
  | [d1, d2, d3, d4] => { results := [.lit (.bool true)], args := [d1, d2, d3, d4] }
  | _ => none }
def ecdsaRangesRow : OpenClaim := { program := "ytfocopihipejfaagreat", sum := "0f61f0f489668dc38da940b1566f3a8fbd98ff13f40b8b3259ddbe2aa6b07457", func := "curvet/curvetlaw26.EcdsaRanges", spec := "ecdsaRanges", inPlace := ["internal/abi.NoEscape", "internal/bytealg.MakeNoZero", "math/bits.Sub64", "math/bits.Add64"], unfollowed := true, recurses := true, named := ["math/bits.divideError", "math/bits.overflowError"], apart := false }
def EcdsaRangesSaid : Prop := ecdsaRangesRow.holds Tryz.pinned (OpenSpec.ofChange ecdsaRangesSpec)

/-- ITS FALSE NEIGHBOUR: 'it returns false'. Refute it at one input. -/
def ecdsaRangesWrong : ChangeSpec := { name := "ecdsaRanges", fn := fun _ => fun
  | [d1, d2, d3, d4] => { results := [.lit (.bool false)], args := [d1, d2, d3, d4] }
  | _ => none }
def EcdsaRangesWrongFalsely : Prop := ecdsaRangesRow.holds Tryz.pinned (OpenSpec.ofChange ecdsaRangesWrong)

/-- 'curvetlaw26.EcdsaNumbers': WHATEVER THE INPUT: true; the input reads as it did. -/
def ecdsaNumbersSpec : ChangeSpec := { name := "ecdsaNumbers", fn := fun _ => fun
  | [d1, d2, d3] => { results := [.lit (.bool true)], args := [d1, d2, d3] }
  | _ => none }
def ecdsaNumbersRow : OpenClaim := { program := "ytfocopihipejfaagreat", sum := "0f61f0f489668dc38da940b1566f3a8fbd98ff13f40b8b3259ddbe2aa6b07457", func := "curvet/curvetlaw26.EcdsaNumbers", spec := "ecdsaNumbers", inPlace := ["internal/abi.NoEscape", "internal/bytealg.MakeNoZero", "math/bits.Sub64", "math/bits.Add64"], unfollowed := true, recurses := true, named := ["math/bits.divideError", "math/bits.overflowError"], apart := false }
def EcdsaNumbersSaid : Prop := ecdsaNumbersRow.holds Tryz.pinned (OpenSpec.ofChange ecdsaNumbersSpec)

/-- ITS FALSE NEIGHBOUR: 'it returns false'. Refute it at one input. -/
def ecdsaNumbersWrong : ChangeSpec := { name := "ecdsaNumbers", fn := fun _ => fun
  | [d1, d2, d3] => { results := [.lit (.bool false)], args := [d1, d2, d3] }
  | _ => none }
def EcdsaNumbersWrongFalsely : Prop := ecdsaNumbersRow.holds Tryz.pinned (OpenSpec.ofChange ecdsaNumbersWrong)

/-- 'curvetlaw26.EcdsaOther': WHATEVER THE INPUT: true; the input reads as it did. -/
def ecdsaOtherSpec : ChangeSpec := { name := "ecdsaOther", fn := fun _ => fun
  | [d1, d2, d3, d4, d5, d6] => { results := [.lit (.bool true)], args := [d1, d2, d3, d4, d5, d6] }
  | _ => none }
def ecdsaOtherRow : OpenClaim := { program := "ytfocopihipejfaagreat", sum := "0f61f0f489668dc38da940b1566f3a8fbd98ff13f40b8b3259ddbe2aa6b07457", func := "curvet/curvetlaw26.EcdsaOther", spec := "ecdsaOther", inPlace := ["internal/abi.NoEscape", "internal/bytealg.MakeNoZero", "math/bits.Sub64", "math/bits.Add64"], unfollowed := true, recurses := true, named := ["math/bits.divideError", "math/bits.overflowError"], apart := false }
def EcdsaOtherSaid : Prop := ecdsaOtherRow.holds Tryz.pinned (OpenSpec.ofChange ecdsaOtherSpec)

/-- ITS FALSE NEIGHBOUR: 'it returns false'. Refute it at one input. -/
def ecdsaOtherWrong : ChangeSpec := { name := "ecdsaOther", fn := fun _ => fun
  | [d1, d2, d3, d4, d5, d6] => { results := [.lit (.bool false)], args := [d1, d2, d3, d4, d5, d6] }
  | _ => none }
def EcdsaOtherWrongFalsely : Prop := ecdsaOtherRow.holds Tryz.pinned (OpenSpec.ofChange ecdsaOtherWrong)

/-- 'curvetlaw26.EcdsaSigns': WHATEVER THE INPUT: true; the input reads as it did. -/
def ecdsaSignsSpec : ChangeSpec := { name := "ecdsaSigns", fn := fun _ => fun
  | [d1, d2, d3, d4, d5, d6] => { results := [.lit (.bool true)], args := [d1, d2, d3, d4, d5, d6] }
  | _ => none }
def ecdsaSignsRow : OpenClaim := { program := "ytfocopihipejfaagreat", sum := "0f61f0f489668dc38da940b1566f3a8fbd98ff13f40b8b3259ddbe2aa6b07457", func := "curvet/curvetlaw26.EcdsaSigns", spec := "ecdsaSigns", inPlace := ["internal/abi.NoEscape", "internal/bytealg.MakeNoZero", "math/bits.Sub64", "math/bits.Add64"], unfollowed := true, recurses := true, named := ["math/bits.divideError", "math/bits.overflowError"], apart := false }
def EcdsaSignsSaid : Prop := ecdsaSignsRow.holds Tryz.pinned (OpenSpec.ofChange ecdsaSignsSpec)

/-- ITS FALSE NEIGHBOUR: 'it returns false'. Refute it at one input. -/
def ecdsaSignsWrong : ChangeSpec := { name := "ecdsaSigns", fn := fun _ => fun
  | [d1, d2, d3, d4, d5, d6] => { results := [.lit (.bool false)], args := [d1, d2, d3, d4, d5, d6] }
  | _ => none }
def EcdsaSignsWrongFalsely : Prop := ecdsaSignsRow.holds Tryz.pinned (OpenSpec.ofChange ecdsaSignsWrong)

/-- 'curvetlaw26.EcdsaSame': WHATEVER THE INPUT: true; the input reads as it did. -/
def ecdsaSameSpec : ChangeSpec := { name := "ecdsaSame", fn := fun _ => fun
  | [d1, d2, d3, d4, d5] => { results := [.lit (.bool true)], args := [d1, d2, d3, d4, d5] }
  | _ => none }
def ecdsaSameRow : OpenClaim := { program := "ytfocopihipejfaagreat", sum := "0f61f0f489668dc38da940b1566f3a8fbd98ff13f40b8b3259ddbe2aa6b07457", func := "curvet/curvetlaw26.EcdsaSame", spec := "ecdsaSame", inPlace := ["internal/abi.NoEscape", "internal/bytealg.MakeNoZero", "math/bits.Sub64", "math/bits.Add64"], unfollowed := true, recurses := true, named := ["math/bits.divideError", "math/bits.overflowError"], apart := false }
def EcdsaSameSaid : Prop := ecdsaSameRow.holds Tryz.pinned (OpenSpec.ofChange ecdsaSameSpec)

/-- ITS FALSE NEIGHBOUR: 'it returns false'. Refute it at one input. -/
def ecdsaSameWrong : ChangeSpec := { name := "ecdsaSame", fn := fun _ => fun
  | [d1, d2, d3, d4, d5] => { results := [.lit (.bool false)], args := [d1, d2, d3, d4, d5] }
  | _ => none }
def EcdsaSameWrongFalsely : Prop := ecdsaSameRow.holds Tryz.pinned (OpenSpec.ofChange ecdsaSameWrong)

/-- 'curvetlaw26.EcdsaSpent': WHATEVER THE INPUT: true; the input reads as it did. -/
def ecdsaSpentSpec : ChangeSpec := { name := "ecdsaSpent", fn := fun _ => fun
  | [d1, d2, d3] => { results := [.lit (.bool true)], args := [d1, d2, d3] }
  | _ => none }
def ecdsaSpentRow : OpenClaim := { program := "ytfocopihipejfaagreat", sum := "0f61f0f489668dc38da940b1566f3a8fbd98ff13f40b8b3259ddbe2aa6b07457", func := "curvet/curvetlaw26.EcdsaSpent", spec := "ecdsaSpent", inPlace := ["internal/abi.NoEscape", "internal/bytealg.MakeNoZero", "math/bits.Sub64", "math/bits.Add64"], unfollowed := true, recurses := true, named := ["math/bits.divideError", "math/bits.overflowError"], apart := false }
def EcdsaSpentSaid : Prop := ecdsaSpentRow.holds Tryz.pinned (OpenSpec.ofChange ecdsaSpentSpec)

/-- ITS FALSE NEIGHBOUR: 'it returns false'. Refute it at one input. -/
def ecdsaSpentWrong : ChangeSpec := { name := "ecdsaSpent", fn := fun _ => fun
  | [d1, d2, d3] => { results := [.lit (.bool false)], args := [d1, d2, d3] }
  | _ => none }
def EcdsaSpentWrongFalsely : Prop := ecdsaSpentRow.holds Tryz.pinned (OpenSpec.ofChange ecdsaSpentWrong)

/-- 'curvetlaw26.EcdsaTrue': WHATEVER THE INPUT: true; the input reads as it did. -/
def ecdsaTrueSpec : ChangeSpec := { name := "ecdsaTrue", fn := fun _ => fun
  | [d1, d2, d3, d4, d5] => { results := [.lit (.bool true)], args := [d1, d2, d3, d4, d5] }
  | _ => none }
def ecdsaTrueRow : OpenClaim := { program := "ytfocopihipejfaagreat", sum := "0f61f0f489668dc38da940b1566f3a8fbd98ff13f40b8b3259ddbe2aa6b07457", func := "curvet/curvetlaw26.EcdsaTrue", spec := "ecdsaTrue", inPlace := ["internal/abi.NoEscape", "internal/bytealg.MakeNoZero", "math/bits.Sub64", "math/bits.Add64"], unfollowed := true, recurses := true, named := ["math/bits.divideError", "math/bits.overflowError"], apart := false }
def EcdsaTrueSaid : Prop := ecdsaTrueRow.holds Tryz.pinned (OpenSpec.ofChange ecdsaTrueSpec)

/-- ITS FALSE NEIGHBOUR: 'it returns false'. Refute it at one input. -/
def ecdsaTrueWrong : ChangeSpec := { name := "ecdsaTrue", fn := fun _ => fun
  | [d1, d2, d3, d4, d5] => { results := [.lit (.bool false)], args := [d1, d2, d3, d4, d5] }
  | _ => none }
def EcdsaTrueWrongFalsely : Prop := ecdsaTrueRow.holds Tryz.pinned (OpenSpec.ofChange ecdsaTrueWrong)

/-- 'curvetlaw26.EcdsaTiny': WHATEVER THE INPUT: true; the input reads as it did. -/
def ecdsaTinySpec : ChangeSpec := { name := "ecdsaTiny", fn := fun _ => fun
  | [d1, d2, d3, d4] => { results := [.lit (.bool true)], args := [d1, d2, d3, d4] }
  | _ => none }
def ecdsaTinyRow : OpenClaim := { program := "ytfocopihipejfaagreat", sum := "0f61f0f489668dc38da940b1566f3a8fbd98ff13f40b8b3259ddbe2aa6b07457", func := "curvet/curvetlaw26.EcdsaTiny", spec := "ecdsaTiny", inPlace := ["internal/abi.NoEscape", "internal/bytealg.MakeNoZero", "math/bits.Sub64", "math/bits.Add64"], unfollowed := true, recurses := true, named := ["math/bits.divideError", "math/bits.overflowError"], apart := false }
def EcdsaTinySaid : Prop := ecdsaTinyRow.holds Tryz.pinned (OpenSpec.ofChange ecdsaTinySpec)

/-- ITS FALSE NEIGHBOUR: 'it returns false'. Refute it at one input. -/
def ecdsaTinyWrong : ChangeSpec := { name := "ecdsaTiny", fn := fun _ => fun
  | [d1, d2, d3, d4] => { results := [.lit (.bool false)], args := [d1, d2, d3, d4] }
  | _ => none }
def EcdsaTinyWrongFalsely : Prop := ecdsaTinyRow.holds Tryz.pinned (OpenSpec.ofChange ecdsaTinyWrong)

/-- 'curvetlaw26.EcdsaBlind': WHATEVER THE INPUT: true; the input reads as it did. -/
def ecdsaBlindSpec : ChangeSpec := { name := "ecdsaBlind", fn := fun _ => fun
  | [d1, d2, d3, d4, d5, d6] => { results := [.lit (.bool true)], args := [d1, d2, d3, d4, d5, d6] }
  | _ => none }
def ecdsaBlindRow : OpenClaim := { program := "ytfocopihipejfaagreat", sum := "0f61f0f489668dc38da940b1566f3a8fbd98ff13f40b8b3259ddbe2aa6b07457", func := "curvet/curvetlaw26.EcdsaBlind", spec := "ecdsaBlind", inPlace := ["internal/abi.NoEscape", "internal/bytealg.MakeNoZero", "math/bits.Sub64", "math/bits.Add64"], unfollowed := true, recurses := true, named := ["math/bits.divideError", "math/bits.overflowError"], apart := false }
def EcdsaBlindSaid : Prop := ecdsaBlindRow.holds Tryz.pinned (OpenSpec.ofChange ecdsaBlindSpec)

/-- ITS FALSE NEIGHBOUR: 'it returns false'. Refute it at one input. -/
def ecdsaBlindWrong : ChangeSpec := { name := "ecdsaBlind", fn := fun _ => fun
  | [d1, d2, d3, d4, d5, d6] => { results := [.lit (.bool false)], args := [d1, d2, d3, d4, d5, d6] }
  | _ => none }
def EcdsaBlindWrongFalsely : Prop := ecdsaBlindRow.holds Tryz.pinned (OpenSpec.ofChange ecdsaBlindWrong)

/- THE SECOND FORM. 'bulk': how many values and letters a reading holds, each counted each time it is reached (what is shared counts as often as it is met; a slice's spare places count too). A statement '..UptoSaid' is the law's where the arguments, and the package variables that the reading takes, are together of bulk at most 1048576: NARROWER than '..Said'. Prove '..Said' where nothing that the law and all that it calls make is longer than what came in: it says more and counts as full. Else prove '..UptoSaid'. A law counts once. -/
mutual
def uptoBulk {H : Type} : DataW H → Nat
  | .lit (.string bytes) => bytes.length + 1
  | .lit _ => 1
  | .nil => 1
  | .ptr d => uptoBulk d + 1
  | .slice elems spare => uptoBulkAll elems + uptoBulkAll spare + 1
  | .agg parts => uptoBulkAll parts + 1
  | .iface _ d => uptoBulk d + 1
  | .map entries => uptoBulkEntries entries + 1
  | .held _ => 1
def uptoBulkAll {H : Type} : List (DataW H) → Nat
  | [] => 0
  | d :: r => uptoBulk d + uptoBulkAll r
def uptoBulkEntries {H : Type} : List (Lit × DataW H) → Nat
  | [] => 0
  | x :: r => uptoBulkEntry x + uptoBulkEntries r
def uptoBulkEntry {H : Type} : Lit × DataW H → Nat
  | (.string bytes, d) => bytes.length + uptoBulk d + 1
  | (_, d) => uptoBulk d + 1
 end
def uptoSmall : (H : Type) → List (DataW H) → Bool := fun _ ds => decide (uptoBulkAll ds ≤ 1048576)
def OpenSpec.upto (s : _root_.Go.ChangeSpec) : _root_.Go.OpenSpec := { _root_.Go.OpenSpec.ofChange s with cond := some uptoSmall }

/-- 'curvetlaw26.EcdsaDigests', WHERE WHAT IT READS IS OF BULK AT MOST 1048576: true; the input reads as it did. -/
def ecdsaDigestsUptoRow : OpenClaim := { program := "ytfocopihipejfaagreat", sum := "0f61f0f489668dc38da940b1566f3a8fbd98ff13f40b8b3259ddbe2aa6b07457", func := "curvet/curvetlaw26.EcdsaDigests", spec := "ecdsaDigests", inPlace := ["math/bits.Sub64", "math/bits.Add64", "internal/abi.NoEscape", "internal/bytealg.MakeNoZero"], unfollowed := true, recurses := true, named := ["math/bits.divideError", "math/bits.overflowError"], apart := false, narrowed := true }
def EcdsaDigestsUptoSaid : Prop := ecdsaDigestsUptoRow.holds Tryz.pinned (OpenSpec.upto ecdsaDigestsSpec)

/-- 'curvetlaw26.EcdsaVerifies', WHERE WHAT IT READS IS OF BULK AT MOST 1048576: true; the input reads as it did. -/
def ecdsaVerifiesUptoRow : OpenClaim := { program := "ytfocopihipejfaagreat", sum := "0f61f0f489668dc38da940b1566f3a8fbd98ff13f40b8b3259ddbe2aa6b07457", func := "curvet/curvetlaw26.EcdsaVerifies", spec := "ecdsaVerifies", inPlace := ["math/bits.Sub64", "math/bits.Add64", "internal/abi.NoEscape", "internal/bytealg.MakeNoZero"], unfollowed := true, recurses := true, named := ["math/bits.divideError", "math/bits.overflowError"], apart := false, narrowed := true }
def EcdsaVerifiesUptoSaid : Prop := ecdsaVerifiesUptoRow.holds Tryz.pinned (OpenSpec.upto ecdsaVerifiesSpec)

/-- 'curvetlaw26.EcdsaRanges', WHERE WHAT IT READS IS OF BULK AT MOST 1048576: true; the input reads as it did. -/
def ecdsaRangesUptoRow : OpenClaim := { program := "ytfocopihipejfaagreat", sum := "0f61f0f489668dc38da940b1566f3a8fbd98ff13f40b8b3259ddbe2aa6b07457", func := "curvet/curvetlaw26.EcdsaRanges", spec := "ecdsaRanges", inPlace := ["internal/abi.NoEscape", "internal/bytealg.MakeNoZero", "math/bits.Sub64", "math/bits.Add64"], unfollowed := true, recurses := true, named := ["math/bits.divideError", "math/bits.overflowError"], apart := false, narrowed := true }
def EcdsaRangesUptoSaid : Prop := ecdsaRangesUptoRow.holds Tryz.pinned (OpenSpec.upto ecdsaRangesSpec)

/-- 'curvetlaw26.EcdsaNumbers', WHERE WHAT IT READS IS OF BULK AT MOST 1048576: true; the input reads as it did. -/
def ecdsaNumbersUptoRow : OpenClaim := { program := "ytfocopihipejfaagreat", sum := "0f61f0f489668dc38da940b1566f3a8fbd98ff13f40b8b3259ddbe2aa6b07457", func := "curvet/curvetlaw26.EcdsaNumbers", spec := "ecdsaNumbers", inPlace := ["internal/abi.NoEscape", "internal/bytealg.MakeNoZero", "math/bits.Sub64", "math/bits.Add64"], unfollowed := true, recurses := true, named := ["math/bits.divideError", "math/bits.overflowError"], apart := false, narrowed := true }
def EcdsaNumbersUptoSaid : Prop := ecdsaNumbersUptoRow.holds Tryz.pinned (OpenSpec.upto ecdsaNumbersSpec)

/-- 'curvetlaw26.EcdsaOther', WHERE WHAT IT READS IS OF BULK AT MOST 1048576: true; the input reads as it did. -/
def ecdsaOtherUptoRow : OpenClaim := { program := "ytfocopihipejfaagreat", sum := "0f61f0f489668dc38da940b1566f3a8fbd98ff13f40b8b3259ddbe2aa6b07457", func := "curvet/curvetlaw26.EcdsaOther", spec := "ecdsaOther", inPlace := ["internal/abi.NoEscape", "internal/bytealg.MakeNoZero", "math/bits.Sub64", "math/bits.Add64"], unfollowed := true, recurses := true, named := ["math/bits.divideError", "math/bits.overflowError"], apart := false, narrowed := true }
def EcdsaOtherUptoSaid : Prop := ecdsaOtherUptoRow.holds Tryz.pinned (OpenSpec.upto ecdsaOtherSpec)

/-- 'curvetlaw26.EcdsaSigns', WHERE WHAT IT READS IS OF BULK AT MOST 1048576: true; the input reads as it did. -/
def ecdsaSignsUptoRow : OpenClaim := { program := "ytfocopihipejfaagreat", sum := "0f61f0f489668dc38da940b1566f3a8fbd98ff13f40b8b3259ddbe2aa6b07457", func := "curvet/curvetlaw26.EcdsaSigns", spec := "ecdsaSigns", inPlace := ["internal/abi.NoEscape", "internal/bytealg.MakeNoZero", "math/bits.Sub64", "math/bits.Add64"], unfollowed := true, recurses := true, named := ["math/bits.divideError", "math/bits.overflowError"], apart := false, narrowed := true }
def EcdsaSignsUptoSaid : Prop := ecdsaSignsUptoRow.holds Tryz.pinned (OpenSpec.upto ecdsaSignsSpec)

/-- 'curvetlaw26.EcdsaSame', WHERE WHAT IT READS IS OF BULK AT MOST 1048576: true; the input reads as it did. -/
def ecdsaSameUptoRow : OpenClaim := { program := "ytfocopihipejfaagreat", sum := "0f61f0f489668dc38da940b1566f3a8fbd98ff13f40b8b3259ddbe2aa6b07457", func := "curvet/curvetlaw26.EcdsaSame", spec := "ecdsaSame", inPlace := ["internal/abi.NoEscape", "internal/bytealg.MakeNoZero", "math/bits.Sub64", "math/bits.Add64"], unfollowed := true, recurses := true, named := ["math/bits.divideError", "math/bits.overflowError"], apart := false, narrowed := true }
def EcdsaSameUptoSaid : Prop := ecdsaSameUptoRow.holds Tryz.pinned (OpenSpec.upto ecdsaSameSpec)

/-- 'curvetlaw26.EcdsaSpent', WHERE WHAT IT READS IS OF BULK AT MOST 1048576: true; the input reads as it did. -/
def ecdsaSpentUptoRow : OpenClaim := { program := "ytfocopihipejfaagreat", sum := "0f61f0f489668dc38da940b1566f3a8fbd98ff13f40b8b3259ddbe2aa6b07457", func := "curvet/curvetlaw26.EcdsaSpent", spec := "ecdsaSpent", inPlace := ["internal/abi.NoEscape", "internal/bytealg.MakeNoZero", "math/bits.Sub64", "math/bits.Add64"], unfollowed := true, recurses := true, named := ["math/bits.divideError", "math/bits.overflowError"], apart := false, narrowed := true }
def EcdsaSpentUptoSaid : Prop := ecdsaSpentUptoRow.holds Tryz.pinned (OpenSpec.upto ecdsaSpentSpec)

/-- 'curvetlaw26.EcdsaTrue', WHERE WHAT IT READS IS OF BULK AT MOST 1048576: true; the input reads as it did. -/
def ecdsaTrueUptoRow : OpenClaim := { program := "ytfocopihipejfaagreat", sum := "0f61f0f489668dc38da940b1566f3a8fbd98ff13f40b8b3259ddbe2aa6b07457", func := "curvet/curvetlaw26.EcdsaTrue", spec := "ecdsaTrue", inPlace := ["internal/abi.NoEscape", "internal/bytealg.MakeNoZero", "math/bits.Sub64", "math/bits.Add64"], unfollowed := true, recurses := true, named := ["math/bits.divideError", "math/bits.overflowError"], apart := false, narrowed := true }
def EcdsaTrueUptoSaid : Prop := ecdsaTrueUptoRow.holds Tryz.pinned (OpenSpec.upto ecdsaTrueSpec)

/-- 'curvetlaw26.EcdsaTiny', WHERE WHAT IT READS IS OF BULK AT MOST 1048576: true; the input reads as it did. -/
def ecdsaTinyUptoRow : OpenClaim := { program := "ytfocopihipejfaagreat", sum := "0f61f0f489668dc38da940b1566f3a8fbd98ff13f40b8b3259ddbe2aa6b07457", func := "curvet/curvetlaw26.EcdsaTiny", spec := "ecdsaTiny", inPlace := ["internal/abi.NoEscape", "internal/bytealg.MakeNoZero", "math/bits.Sub64", "math/bits.Add64"], unfollowed := true, recurses := true, named := ["math/bits.divideError", "math/bits.overflowError"], apart := false, narrowed := true }
def EcdsaTinyUptoSaid : Prop := ecdsaTinyUptoRow.holds Tryz.pinned (OpenSpec.upto ecdsaTinySpec)

/-- 'curvetlaw26.EcdsaBlind', WHERE WHAT IT READS IS OF BULK AT MOST 1048576: true; the input reads as it did. -/
def ecdsaBlindUptoRow : OpenClaim := { program := "ytfocopihipejfaagreat", sum := "0f61f0f489668dc38da940b1566f3a8fbd98ff13f40b8b3259ddbe2aa6b07457", func := "curvet/curvetlaw26.EcdsaBlind", spec := "ecdsaBlind", inPlace := ["internal/abi.NoEscape", "internal/bytealg.MakeNoZero", "math/bits.Sub64", "math/bits.Add64"], unfollowed := true, recurses := true, named := ["math/bits.divideError", "math/bits.overflowError"], apart := false, narrowed := true }
def EcdsaBlindUptoSaid : Prop := ecdsaBlindUptoRow.holds Tryz.pinned (OpenSpec.upto ecdsaBlindSpec)

end Rows
end Go.Proofs.YtfocopihipejfaaGreat
