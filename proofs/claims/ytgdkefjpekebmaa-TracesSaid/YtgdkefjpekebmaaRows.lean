/-
  No cell of these rows narrows 'for every input' (looked for: loops, veiled, ifaces, maps, wideKeys, modest, calm, conditions, laid).
  DERIVED. THE GIVEN ROWS OF THIS SEAT. 9 by the template 'for every input the law returns true; each argument reads behind the call as it read before'; 0 by the template 'total and deterministic' (their statements: YtgdkefjpekebmaaTotals.lean).
  GIVEN WITH THE SEED: the statements are not yours to turn. If you find one false, say at which input.
  Laid BY PROGRAM, IN A SANDBOX (cutbox-rows.mjs): the forced cells as the released guide's own fill.sh prints them over the translation 6544fa86c9a6f984… (all of the seat's roots in one cut). By AI agents, Wed Nov 11 2026. No macro, syntax, notation, axiom, sorry.
-/
import Derived.Test.YtgdkefjpekebmaaChecked
import GoSem.Claim
import GoSem.ClaimJoined
import GoSem.ClaimMapViews
import Derived.JoinedTies
import Derived.KernelRfl
namespace Go.Proofs.Ytgdkefjpekebmaa
/- THE CELL 'sum', in the pinned program and in every row, IS THE sha256 OF THE DUMP (.gsa) THAT YtgdkefjpekebmaaProg.lean LOADS. Nothing in Lean hashes anything: it is a label: what it is worth is what the hold of that sum in a sandbox is worth. -/
noncomputable def Try.pinned : Pinned := { name := "ytgdkefjpekebmaa", sum := "6544fa86c9a6f984fe1ef3291e783c5e94891de7ae576a8e68414672ae99ed75", checked := Try.checked }
namespace Rows
def none {H : Type} : Left H := { results := [], args := [] }

/-- 'curvetlaw2.Masks': WHATEVER THE INPUT: true; the input reads as it did. -/
def masksSpec : ChangeSpec := { name := "masks", fn := fun _ => fun
  | [d1, d2, d3, d4] => { results := [.lit (.bool true)], args := [d1, d2, d3, d4] }
  | _ => none }
def masksRow : OpenClaim := { program := "ytgdkefjpekebmaa", sum := "6544fa86c9a6f984fe1ef3291e783c5e94891de7ae576a8e68414672ae99ed75", func := "curvet/curvetlaw2.Masks", spec := "masks", unfollowed := true, recurses := true, apart := false }
def MasksSaid : Prop := masksRow.holds Try.pinned (OpenSpec.ofChange masksSpec)

/-- ITS FALSE NEIGHBOUR: 'it returns false'. Refute it at one input. -/
def masksWrong : ChangeSpec := { name := "masks", fn := fun _ => fun
  | [d1, d2, d3, d4] => { results := [.lit (.bool false)], args := [d1, d2, d3, d4] }
  | _ => none }
def MasksWrongFalsely : Prop := masksRow.holds Try.pinned (OpenSpec.ofChange masksWrong)

/-- 'curvetlaw2.MaskOne': WHATEVER THE INPUT: true; the input reads as it did. -/
def maskOneSpec : ChangeSpec := { name := "maskOne", fn := fun _ => fun
  | [d1, d2, d3] => { results := [.lit (.bool true)], args := [d1, d2, d3] }
  | _ => none }
def maskOneRow : OpenClaim := { program := "ytgdkefjpekebmaa", sum := "6544fa86c9a6f984fe1ef3291e783c5e94891de7ae576a8e68414672ae99ed75", func := "curvet/curvetlaw2.MaskOne", spec := "maskOne", unfollowed := true, recurses := true, apart := false }
def MaskOneSaid : Prop := maskOneRow.holds Try.pinned (OpenSpec.ofChange maskOneSpec)

/-- ITS FALSE NEIGHBOUR: 'it returns false'. Refute it at one input. -/
def maskOneWrong : ChangeSpec := { name := "maskOne", fn := fun _ => fun
  | [d1, d2, d3] => { results := [.lit (.bool false)], args := [d1, d2, d3] }
  | _ => none }
def MaskOneWrongFalsely : Prop := maskOneRow.holds Try.pinned (OpenSpec.ofChange maskOneWrong)

/-- 'curvetlaw2.MaskOrder': WHATEVER THE INPUT: true; the input reads as it did. -/
def maskOrderSpec : ChangeSpec := { name := "maskOrder", fn := fun _ => fun
  | [d1, d2] => { results := [.lit (.bool true)], args := [d1, d2] }
  | _ => none }
def maskOrderRow : OpenClaim := { program := "ytgdkefjpekebmaa", sum := "6544fa86c9a6f984fe1ef3291e783c5e94891de7ae576a8e68414672ae99ed75", func := "curvet/curvetlaw2.MaskOrder", spec := "maskOrder", unfollowed := true, recurses := true, apart := false }
def MaskOrderSaid : Prop := maskOrderRow.holds Try.pinned (OpenSpec.ofChange maskOrderSpec)

/-- ITS FALSE NEIGHBOUR: 'it returns false'. Refute it at one input. -/
def maskOrderWrong : ChangeSpec := { name := "maskOrder", fn := fun _ => fun
  | [d1, d2] => { results := [.lit (.bool false)], args := [d1, d2] }
  | _ => none }
def MaskOrderWrongFalsely : Prop := maskOrderRow.holds Try.pinned (OpenSpec.ofChange maskOrderWrong)

/-- 'curvetlaw2.MaskPicks': WHATEVER THE INPUT: true; the input reads as it did. -/
def maskPicksSpec : ChangeSpec := { name := "maskPicks", fn := fun _ => fun
  | [d1, d2, d3] => { results := [.lit (.bool true)], args := [d1, d2, d3] }
  | _ => none }
def maskPicksRow : OpenClaim := { program := "ytgdkefjpekebmaa", sum := "6544fa86c9a6f984fe1ef3291e783c5e94891de7ae576a8e68414672ae99ed75", func := "curvet/curvetlaw2.MaskPicks", spec := "maskPicks", unfollowed := true, recurses := true, apart := false }
def MaskPicksSaid : Prop := maskPicksRow.holds Try.pinned (OpenSpec.ofChange maskPicksSpec)

/-- ITS FALSE NEIGHBOUR: 'it returns false'. Refute it at one input. -/
def maskPicksWrong : ChangeSpec := { name := "maskPicks", fn := fun _ => fun
  | [d1, d2, d3] => { results := [.lit (.bool false)], args := [d1, d2, d3] }
  | _ => none }
def MaskPicksWrongFalsely : Prop := maskPicksRow.holds Try.pinned (OpenSpec.ofChange maskPicksWrong)

/-- 'curvetlaw2.MaskTwice': WHATEVER THE INPUT: true; the input reads as it did. -/
def maskTwiceSpec : ChangeSpec := { name := "maskTwice", fn := fun _ => fun
  | [d1, d2, d3] => { results := [.lit (.bool true)], args := [d1, d2, d3] }
  | _ => none }
def maskTwiceRow : OpenClaim := { program := "ytgdkefjpekebmaa", sum := "6544fa86c9a6f984fe1ef3291e783c5e94891de7ae576a8e68414672ae99ed75", func := "curvet/curvetlaw2.MaskTwice", spec := "maskTwice", unfollowed := true, recurses := true, apart := false }
def MaskTwiceSaid : Prop := maskTwiceRow.holds Try.pinned (OpenSpec.ofChange maskTwiceSpec)

/-- ITS FALSE NEIGHBOUR: 'it returns false'. Refute it at one input. -/
def maskTwiceWrong : ChangeSpec := { name := "maskTwice", fn := fun _ => fun
  | [d1, d2, d3] => { results := [.lit (.bool false)], args := [d1, d2, d3] }
  | _ => none }
def MaskTwiceWrongFalsely : Prop := maskTwiceRow.holds Try.pinned (OpenSpec.ofChange maskTwiceWrong)

/-- 'curvetlaw3.Traces': WHATEVER THE INPUT: true; the input reads as it did. -/
def tracesSpec : ChangeSpec := { name := "traces", fn := fun _ => fun
  | [d1, d2] => { results := [.lit (.bool true)], args := [d1, d2] }
  | _ => none }
def tracesRow : OpenClaim := { program := "ytgdkefjpekebmaa", sum := "6544fa86c9a6f984fe1ef3291e783c5e94891de7ae576a8e68414672ae99ed75", func := "curvet/curvetlaw3.Traces", spec := "traces", apart := false }
def TracesSaid : Prop := tracesRow.holds Try.pinned (OpenSpec.ofChange tracesSpec)

/-- ITS FALSE NEIGHBOUR: 'it returns false'. Refute it at one input. -/
def tracesWrong : ChangeSpec := { name := "traces", fn := fun _ => fun
  | [d1, d2] => { results := [.lit (.bool false)], args := [d1, d2] }
  | _ => none }
def TracesWrongFalsely : Prop := tracesRow.holds Try.pinned (OpenSpec.ofChange tracesWrong)

/-- 'curvetlaw3.TraceNil': WHATEVER THE INPUT: true; the input reads as it did. -/
def traceNilSpec : ChangeSpec := { name := "traceNil", fn := fun _ => fun
  | [d] => { results := [.lit (.bool true)], args := [d] }
  | _ => none }
def traceNilRow : OpenClaim := { program := "ytgdkefjpekebmaa", sum := "6544fa86c9a6f984fe1ef3291e783c5e94891de7ae576a8e68414672ae99ed75", func := "curvet/curvetlaw3.TraceNil", spec := "traceNil", apart := false }
def TraceNilSaid : Prop := traceNilRow.holds Try.pinned (OpenSpec.ofChange traceNilSpec)

/-- ITS FALSE NEIGHBOUR: 'it returns false'. Refute it at one input. -/
def traceNilWrong : ChangeSpec := { name := "traceNil", fn := fun _ => fun
  | [d] => { results := [.lit (.bool false)], args := [d] }
  | _ => none }
def TraceNilWrongFalsely : Prop := traceNilRow.holds Try.pinned (OpenSpec.ofChange traceNilWrong)

/-- 'curvetlaw3.TraceGrows': WHATEVER THE INPUT: true; the input reads as it did. -/
def traceGrowsSpec : ChangeSpec := { name := "traceGrows", fn := fun _ => fun
  | [d1, d2] => { results := [.lit (.bool true)], args := [d1, d2] }
  | _ => none }
def traceGrowsRow : OpenClaim := { program := "ytgdkefjpekebmaa", sum := "6544fa86c9a6f984fe1ef3291e783c5e94891de7ae576a8e68414672ae99ed75", func := "curvet/curvetlaw3.TraceGrows", spec := "traceGrows", apart := false }
def TraceGrowsSaid : Prop := traceGrowsRow.holds Try.pinned (OpenSpec.ofChange traceGrowsSpec)

/-- ITS FALSE NEIGHBOUR: 'it returns false'. Refute it at one input. -/
def traceGrowsWrong : ChangeSpec := { name := "traceGrows", fn := fun _ => fun
  | [d1, d2] => { results := [.lit (.bool false)], args := [d1, d2] }
  | _ => none }
def TraceGrowsWrongFalsely : Prop := traceGrowsRow.holds Try.pinned (OpenSpec.ofChange traceGrowsWrong)

/-- 'curvetlaw3.TraceKinds': WHATEVER THE INPUT: true; the input reads as it did. -/
def traceKindsSpec : ChangeSpec := { name := "traceKinds", fn := fun _ => fun
  | [d1, d2] => { results := [.lit (.bool true)], args := [d1, d2] }
  | _ => none }
def traceKindsRow : OpenClaim := { program := "ytgdkefjpekebmaa", sum := "6544fa86c9a6f984fe1ef3291e783c5e94891de7ae576a8e68414672ae99ed75", func := "curvet/curvetlaw3.TraceKinds", spec := "traceKinds", apart := false }
def TraceKindsSaid : Prop := traceKindsRow.holds Try.pinned (OpenSpec.ofChange traceKindsSpec)

/-- ITS FALSE NEIGHBOUR: 'it returns false'. Refute it at one input. -/
def traceKindsWrong : ChangeSpec := { name := "traceKinds", fn := fun _ => fun
  | [d1, d2] => { results := [.lit (.bool false)], args := [d1, d2] }
  | _ => none }
def TraceKindsWrongFalsely : Prop := traceKindsRow.holds Try.pinned (OpenSpec.ofChange traceKindsWrong)

/- THE SECOND FORM. 'bulk': how many values and letters a reading holds, each counted each time it is reached (what is shared counts as often as it is met; a slice's spare places count too). A statement '..UptoSaid' is the law's where the arguments, and the package variables that the reading takes, are together of bulk at most 1048576: NARROWER than '..Said'. Prove '..Said' where nothing that the law and all that it calls make is longer than what came in: it says more and counts as full. Else prove '..UptoSaid'. A law counts once. -/
mutual
def uptoBulk {H : Type} : DataW H → Nat
  | .lit (.string bytes) => bytes.length + 1
  | .lit _ => 1
  | .nil => 1
  | .ptr d => uptoBulk d + 1
  | .slice elems spare => uptoBulkAll elems + uptoBulkAll spare + 1
  | .agg parts => uptoBulkAll parts + 1
  | .iface _ d => uptoBulk d + 1
  | .map entries => uptoBulkEntries entries + 1
  | .held _ => 1
def uptoBulkAll {H : Type} : List (DataW H) → Nat
  | [] => 0
  | d :: r => uptoBulk d + uptoBulkAll r
def uptoBulkEntries {H : Type} : List (Lit × DataW H) → Nat
  | [] => 0
  | x :: r => uptoBulkEntry x + uptoBulkEntries r
def uptoBulkEntry {H : Type} : Lit × DataW H → Nat
  | (.string bytes, d) => bytes.length + uptoBulk d + 1
  | (_, d) => uptoBulk d + 1
 end
def uptoSmall : (H : Type) → List (DataW H) → Bool := fun _ ds => decide (uptoBulkAll ds ≤ 1048576)
def OpenSpec.upto (s : _root_.Go.ChangeSpec) : _root_.Go.OpenSpec := { _root_.Go.OpenSpec.ofChange s with cond := some uptoSmall }

/-- 'curvetlaw2.Masks', WHERE WHAT IT READS IS OF BULK AT MOST 1048576: true; the input reads as it did. -/
def masksUptoRow : OpenClaim := { program := "ytgdkefjpekebmaa", sum := "6544fa86c9a6f984fe1ef3291e783c5e94891de7ae576a8e68414672ae99ed75", func := "curvet/curvetlaw2.Masks", spec := "masks", unfollowed := true, recurses := true, apart := false, narrowed := true }
def MasksUptoSaid : Prop := masksUptoRow.holds Try.pinned (OpenSpec.upto masksSpec)

/-- 'curvetlaw2.MaskOne', WHERE WHAT IT READS IS OF BULK AT MOST 1048576: true; the input reads as it did. -/
def maskOneUptoRow : OpenClaim := { program := "ytgdkefjpekebmaa", sum := "6544fa86c9a6f984fe1ef3291e783c5e94891de7ae576a8e68414672ae99ed75", func := "curvet/curvetlaw2.MaskOne", spec := "maskOne", unfollowed := true, recurses := true, apart := false, narrowed := true }
def MaskOneUptoSaid : Prop := maskOneUptoRow.holds Try.pinned (OpenSpec.upto maskOneSpec)

/-- 'curvetlaw2.MaskOrder', WHERE WHAT IT READS IS OF BULK AT MOST 1048576: true; the input reads as it did. -/
def maskOrderUptoRow : OpenClaim := { program := "ytgdkefjpekebmaa", sum := "6544fa86c9a6f984fe1ef3291e783c5e94891de7ae576a8e68414672ae99ed75", func := "curvet/curvetlaw2.MaskOrder", spec := "maskOrder", unfollowed := true, recurses := true, apart := false, narrowed := true }
def MaskOrderUptoSaid : Prop := maskOrderUptoRow.holds Try.pinned (OpenSpec.upto maskOrderSpec)

/-- 'curvetlaw2.MaskPicks', WHERE WHAT IT READS IS OF BULK AT MOST 1048576: true; the input reads as it did. -/
def maskPicksUptoRow : OpenClaim := { program := "ytgdkefjpekebmaa", sum := "6544fa86c9a6f984fe1ef3291e783c5e94891de7ae576a8e68414672ae99ed75", func := "curvet/curvetlaw2.MaskPicks", spec := "maskPicks", unfollowed := true, recurses := true, apart := false, narrowed := true }
def MaskPicksUptoSaid : Prop := maskPicksUptoRow.holds Try.pinned (OpenSpec.upto maskPicksSpec)

/-- 'curvetlaw2.MaskTwice', WHERE WHAT IT READS IS OF BULK AT MOST 1048576: true; the input reads as it did. -/
def maskTwiceUptoRow : OpenClaim := { program := "ytgdkefjpekebmaa", sum := "6544fa86c9a6f984fe1ef3291e783c5e94891de7ae576a8e68414672ae99ed75", func := "curvet/curvetlaw2.MaskTwice", spec := "maskTwice", unfollowed := true, recurses := true, apart := false, narrowed := true }
def MaskTwiceUptoSaid : Prop := maskTwiceUptoRow.holds Try.pinned (OpenSpec.upto maskTwiceSpec)

/-- 'curvetlaw3.Traces', WHERE WHAT IT READS IS OF BULK AT MOST 1048576: true; the input reads as it did. -/
def tracesUptoRow : OpenClaim := { program := "ytgdkefjpekebmaa", sum := "6544fa86c9a6f984fe1ef3291e783c5e94891de7ae576a8e68414672ae99ed75", func := "curvet/curvetlaw3.Traces", spec := "traces", apart := false, narrowed := true }
def TracesUptoSaid : Prop := tracesUptoRow.holds Try.pinned (OpenSpec.upto tracesSpec)

/-- 'curvetlaw3.TraceNil', WHERE WHAT IT READS IS OF BULK AT MOST 1048576: true; the input reads as it did. -/
def traceNilUptoRow : OpenClaim := { program := "ytgdkefjpekebmaa", sum := "6544fa86c9a6f984fe1ef3291e783c5e94891de7ae576a8e68414672ae99ed75", func := "curvet/curvetlaw3.TraceNil", spec := "traceNil", apart := false, narrowed := true }
def TraceNilUptoSaid : Prop := traceNilUptoRow.holds Try.pinned (OpenSpec.upto traceNilSpec)

/-- 'curvetlaw3.TraceGrows', WHERE WHAT IT READS IS OF BULK AT MOST 1048576: true; the input reads as it did. -/
def traceGrowsUptoRow : OpenClaim := { program := "ytgdkefjpekebmaa", sum := "6544fa86c9a6f984fe1ef3291e783c5e94891de7ae576a8e68414672ae99ed75", func := "curvet/curvetlaw3.TraceGrows", spec := "traceGrows", apart := false, narrowed := true }
def TraceGrowsUptoSaid : Prop := traceGrowsUptoRow.holds Try.pinned (OpenSpec.upto traceGrowsSpec)

/-- 'curvetlaw3.TraceKinds', WHERE WHAT IT READS IS OF BULK AT MOST 1048576: true; the input reads as it did. -/
def traceKindsUptoRow : OpenClaim := { program := "ytgdkefjpekebmaa", sum := "6544fa86c9a6f984fe1ef3291e783c5e94891de7ae576a8e68414672ae99ed75", func := "curvet/curvetlaw3.TraceKinds", spec := "traceKinds", apart := false, narrowed := true }
def TraceKindsUptoSaid : Prop := traceKindsUptoRow.holds Try.pinned (OpenSpec.upto traceKindsSpec)

end Rows
end Go.Proofs.Ytgdkefjpekebmaa
