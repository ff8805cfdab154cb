/-
  This text defines the symbolic run of a region that draws its order and proves it sound. Condition: the region passes a check of its edges, which the kernel runs.
-/
import Derived.Test.YtgdkefjpekebmaaVgL
namespace Go.Vg
open Go.RowKit
def tmpOf : Operand → List Nat
  | .tmp t => [t]
  | _ => []
def tmpsL : List Operand → List Nat
  | [] => []
  | x :: xs => tmpOf x ++ tmpsL xs
def lkOf (all : List Oper) (o : Oper) : List Nat :=
  tmpsL o.op.operands.toList ++ match o.guard with
    | some (j, _) => match all[j]? with
      | some oj => match oj.dst with
        | some d => [d]
        | none => []
      | none => []
    | none => []
/-- does an operation's outcome hang on memory -/
def memOf (o : Oper) : Bool :=
  match o.op with
  | .move _ | .assign _ | .pick _ _ _ | .nilCheck _ | .unOp _ _ _ | .makeFunc _ _ _ | .fieldAddr _ _ _ | .field _ _ _ | .indexAddr _ _ _ | .index _ _ _ | .extract _ _ | .build _ _ | .alloc _ | .box _ _ | .buildSlice _ _ _ => false
  | .binOp _ _ _ _ _ => false
  | .call c => match c.callee with
    | .builtin .len => false
    | _ => true
  | _ => true
def isStore (o : Oper) : Bool :=
  match o.op with
  | .store _ _ _ => true
  | _ => false
def maskOf (acc : List Nat) : List Edge → Nat
  | [] => 0
  | e :: es => match Region.binds .any e with
    | true => 2 ^ e.on ||| acc.getD e.on 0 ||| maskOf acc es
    | false => maskOf acc es
def maskL (acc : List Nat) : List Oper → List Nat
  | [] => acc
  | o :: os => maskL (acc ++ [maskOf acc o.after.toList]) os
def befB (m : List Nat) (i k : Nat) : Bool := (m.getD i 0).testBit k
def ordB (m : List Nat) (i k : Nat) : Bool := (Nat.blt k i && befB m i k) || (Nat.blt i k && befB m k i)
/-- the check of a region's edges -/
def drawB (all : List Oper) : Bool :=
  let m := maskL [] all
  let is := List.range all.length
  is.all fun i => match all[i]? with
    | none => false
    | some o => (o.after.toList.all fun e => !Region.binds .any e || Nat.blt e.on i) &&
      is.all fun k => Nat.beq i k || match all[k]? with
        | none => false
        | some o' => (match o'.dst with
          | some t => !(o.dst == some t) && (!memN (lkOf all o) t || ordB m i k)
          | none => true) && (!isStore o' || !memOf o || ordB m i k)
abbrev NL := List (Nat × Blk)
def filN (m : List Nat) (i : Nat) : NL → LL
  | [] => []
  | (k, b) :: N => match befB m i k with
    | true => b :: filN m i N
    | false => filN m i N
def allN : NL → LL
  | [] => []
  | (_, b) :: N => b :: allN N
def updA (l : Nat) (cs : List SV) : LL → LL
  | [] => []
  | b :: L => (if b.l = l then ⟨b.l, cs, b.t⟩ else b) :: updA l cs L
def updN (l : Nat) (cs : List SV) : NL → NL
  | [] => []
  | (k, b) :: N => (k, if b.l = l then ⟨b.l, cs, b.t⟩ else b) :: updN l cs N
def ownN (i : Nat) : LL → NL
  | [] => []
  | b :: L => (i, b) :: ownN i L
def addN (L : Nat → Option Blk) (nw : LL) (l : Nat) : Option Blk :=
  match L l with
  | some b => some b
  | none => find nw l
/-- an operation that is met by its outcome alone: a value, new blocks -/
structure EN (g : G) (P : Program) (o : Oper) (F : Nat → Option SV) (M : Nat → Option Blk) (v : SV) (nw : LL) : Prop where
  run : ∀ (β : Nat → Nat) (p : Nat → Prop) (F' : Nat → Option SV) (L' : Nat → Option Blk) (a : Act) (W : World), (∀ t ∈ tmpsL o.op.operands.toList, F' t = F t) → (∀ l b, M l = some b → L' l = some b) → (∀ b ∈ nw, ¬ p b.l) → Mem g β L' p W → Fra g β F' p a →
    ∀ (next : Act → World → Prop) (Q : Exit → Act → World → Prop), (∀ γ a' W', Mem g γ (addN L' nw) (fun l => p l ∨ ∃ b ∈ nw, b.l = l) W' →
      Fra g γ (upF F' o.dst v) (fun l => p l ∨ ∃ b ∈ nw, b.l = l) a' → next a' W') → o.wp P a W next Q
def selM (o : Oper) (M : Nat → Option Blk) : Nat → Option Blk :=
  match memOf o with
  | true => M
  | false => fun _ => none
def StepD (g : G) (P : Program) (o : Oper) (F : FF) (M : LL) (n : Nat) (K : SV → LL → Nat → Prop) : Prop :=
  ∃ v nw n', EN g P o (look F) (selM o (find M)) v nw ∧ n ≤ n' ∧ (∀ b ∈ nw, n ≤ b.l ∧ b.l < n') ∧ (nw.map Blk.l).Nodup ∧ K v nw n'
section
variable (T : Nat → Option Ty) (A : Ar) (P : Program) (g : G) (n0 : Nat) (ms : List Nat)
def vcR (R : FF → LL → NL → Nat → Prop) (m : List Nat) (i : Nat) (o : Oper) (F : FF) (B : LL) (N : NL) (n : Nat) : Prop :=
  vcOpG T A n0 ms (StepD g P o F (B ++ filN m i N) n fun v nw n' => R (putO F o.dst v) B (N ++ ownN i nw) n') (fun F' => R F' B N n)
    (fun F' b => R F' B (N ++ [(i, b)]) (n + 1)) (fun F' l cs => R F' (updA l cs B) (updN l cs N) n) o F (B ++ filN m i N) n
def vcD (all : List Oper) (m : List Nat) (K : FF → LL → Nat → Prop) : List Oper → Nat → FF → LL → NL → Nat → Prop
  | [], _, F, B, N, n => K F (B ++ allN N) n
  | o :: rest, i, F, B, N, n =>
    match o.guard with
    | none => vcR T A P g n0 ms (vcD all m K rest (i + 1)) m i o F B N n
    | some (j, b) => match all[j]? with
      | some oj => match oj.dst with
        | some d => match look F d with
          | some (.bool x) => match x with
            | true => match b with
              | true => vcR T A P g n0 ms (vcD all m K rest (i + 1)) m i o F B N n
              | false => vcD all m K rest (i + 1) (putO F o.dst (.raw undef)) B N n
            | false => match b with
              | true => vcD all m K rest (i + 1) (putO F o.dst (.raw undef)) B N n
              | false => vcR T A P g n0 ms (vcD all m K rest (i + 1)) m i o F B N n
          | _ => False
        | none => False
      | none => False
end
end Go.Vg
