/-
  This text defines, over labelled memory, what one operation and a row of operations come to, and what it means that a world and a frame are as said. No condition.
-/
import Derived.Test.YtgdkefjpekebmaaVgA
namespace Go.Vg
structure Upd (W0 W : World) (M : Nat → Prop) : Prop where
  os : W.os = W0.os
  tape : W.tape = W0.tape
  output : W.output = W0.output
  size : W0.heap.size ≤ W.heap.size
  block : ∀ k, k < W0.heap.size → ¬ M k → W.heap[k]? = W0.heap[k]?
structure G where
  W0 : World
  β0 : Nat → Nat
  n0 : Nat
  N : Nat
  ms : List Nat
def G.mod (g : G) (k : Nat) : Prop := ∃ l ∈ g.ms, g.β0 l = k
def memN : List Nat → Nat → Bool
  | [], _ => false
  | m :: ms, l => if m = l then true else memN ms l
def own (n0 : Nat) (ms : List Nat) (l : Nat) : Bool :=
  match Nat.ble n0 l with
  | true => true
  | false => memN ms l
/-- no cell among the first n is frozen -/
def okM (m : Nat × Nat) (n : Nat) : Prop := m.2 ≤ m.1 ∨ n ≤ m.1
/-- memory is as said: block by block, the labels among p -/
structure Mem (g : G) (β : Nat → Nat) (L : Nat → Option Blk) (p : Nat → Prop) (W : World) : Prop where
  low : ∀ l, l < g.n0 → p l
  old : ∀ l, l < g.n0 → β l = g.β0 l
  new : ∀ l b, L l = some b → g.n0 ≤ l → g.W0.heap.size ≤ β l ∨ g.mod (β l)
  inj : ∀ l b l' b', L l = some b → L l' = some b' → own g.n0 g.ms l = true → β l = β l' → l = l'
  cell : ∀ l b, L l = some b → ∃ m, (own g.n0 g.ms l = true → okM m b.cs.length) ∧ W.heap[β l]? = some (.cells (denL β b.cs).toArray b.t m)
  bL : ∀ l b, L l = some b → p l ∧ bdL p b.cs
  up : Upd g.W0 W g.mod
/-- the frame is as said -/
structure Fra (g : G) (β : Nat → Nat) (F : Nat → Option SV) (p : Nat → Prop) (a : Act) : Prop where
  size : a.tmps.size = g.N
  defs : a.defers = []
  bF : ∀ t v, F t = some v → bd p v
  fr : ∀ t v, F t = some v → a.tmps[t]? = some (den β v)
def St (g : G) (F : FF) (L : LL) (n : Nat) (a : Act) (W : World) : Prop := ∃ β, Mem g β (find L) (fun l => l < n) W ∧ Fra g β (look F) (fun l => l < n) a
/-- whatever an operation does: it ends in K -/
structure Step (g : G) (P : Program) (o : Oper) (K : FF → LL → Nat → Prop) (F : FF) (L : LL) (n : Nat) : Prop where
  run : ∀ a W, St g F L n a W → ∀ (next : Act → World → Prop) (Q : Exit → Act → World → Prop), (∀ F' L' n' a' W', K F' L' n' → St g F' L' n' a' W' → next a' W') → o.wp P a W next Q
def sub1 (cs : List SV) (o n : Nat) : Option (List SV) :=
  match Nat.ble (o + n) cs.length with
  | true => some ((cs.drop o).take n)
  | false => none
def spl1 (cs : List SV) (o : Nat) (vs : List SV) : Option (List SV) :=
  match Nat.ble (o + vs.length) cs.length with
  | true => some (splice cs o vs)
  | false => none
def wrapO (ag : Bool) (x : Option (List SV)) : Option SV :=
  match x with
  | some cs => match ag with
    | true => some (.agg cs)
    | false => match cs with
      | [v] => some v
      | _ => none
  | none => none
def prt (ag : Bool) (cs : List SV) (o s : Nat) : Option SV :=
  match ag with
  | true => wrapO true (sub1 cs o s)
  | false => cs[o]?
def prtD (A : Ar) (ag : Bool) (cs : List SV) (o s : Nat) : Option SV :=
  match ag with
  | true => wrapO true (A.sub cs o s)
  | false => A.get cs o
/-- what stands at a place -/
def rd (A : Ar) (L : Nat → Option Blk) (i : Ty) : SV → Option SV
  | .ptr l o => match L l with
    | some b => match i.d.agg with
      | true => wrapO true (sub1 b.cs o i.sz)
      | false => b.cs[o]?
    | none => none
  | .ptrS l o => match L l with
    | some b => match i.d.agg with
      | true => wrapO true (A.sub b.cs o i.sz)
      | false => A.get b.cs o
    | none => none
  | _ => none
/-- a block, written -/
def wr (A : Ar) (L : Nat → Option Blk) (vs : List SV) : SV → Option (Nat × List SV)
  | .ptr l o => match L l with
    | some b => match spl1 b.cs o vs with
      | some cs => some (l, cs)
      | none => none
    | none => none
  | .ptrS l o => match L l with
    | some b => match A.spl b.cs o vs with
      | some cs => some (l, cs)
      | none => none
    | none => none
  | _ => none
def sameK : IntKind → IntKind → Bool
  | .i8, .i8 | .i16, .i16 | .i32, .i32 | .i64, .i64 | .u8, .u8 | .u16, .u16 | .u32, .u32 | .u64, .u64 => true
  | _, _ => false
/-- is a count, a divisor, good: looked at, or asked -/
def okSh (A : Ar) (y : Operand) (b : Int) : Bool :=
  match y with
  | .const (.int _ (.ofNat _)) => true
  | _ => A.nn b
def okQu (A : Ar) (y : Operand) (b : Int) : Bool :=
  match y with
  | .const (.int _ (.ofNat (_ + 1))) => true
  | _ => A.nz b
def binV (A : Ar) (op : BinOp) (yo : Operand) (x y : SV) : Option SV :=
  match x, y with
  | .int k a, .int k' b =>
    match op with
    | .shl | .shr => match okSh A yo b with
      | true => some (.int k (A.sh op k a b))
      | false => none
    | _ => match sameK k k' with
      | true => match isCmp op with
        | true => some (.bool (A.cmp op a b))
        | false => match op with
          | .quo | .rem => match okQu A yo b with
            | true => some (.int k (A.bin op k a b))
            | false => none
          | _ => some (.int k (A.bin op k a b))
      | false => none
  | .str a, .str b => match isCmp op with
    | true => some (.bool (A.scmp op a b))
    | false => match op with
      | .add => match A.scat a b with
        | some s => some (.str s)
        | none => none
      | _ => none
  | _, _ => none
/-- a comparison of bools, or with nil: by the operand's type -/
def binT (A : Ar) (d : TyD) (op : BinOp) (x y : SV) : Option SV :=
  match d, x, y with
  | .b, .bool a, .bool b => match op with
    | .eql => some (.bool (A.beq a b))
    | .neq => some (.bool (A.bnot (A.beq a b)))
    | _ => none
  | .p, .nilp, .nilp | .sl _ _, .nils, .nils | .f, .nilfn, .nilfn => match nilCmp op true with
    | some b => some (.bool b)
    | none => none
  | .p, .ptr _ _, .nilp | .p, .nilp, .ptr _ _ | .p, .ptrS _ _, .nilp | .p, .nilp, .ptrS _ _ | .sl _ _, .slice _ _ _ _, .nils | .sl _ _, .nils, .slice _ _ _ _ | .f, .fn _ _ _, .nilfn | .f, .nilfn, .fn _ _ _ => match nilCmp op false with
    | some b => some (.bool b)
    | none => none
  | _, _, _ => none
def unV (A : Ar) (op : UnOp) (x : SV) : Option SV :=
  match op, x with
  | .neg, .int k n => some (.int k (A.una .neg k n))
  | .xor, .int k n => some (.int k (A.una .xor k n))
  | .not, .bool b => some (.bool (A.bnot b))
  | _, _ => none
/-- an index: known, or not -/
inductive Ixd where
  | st (j : Nat)
  | dy (j : Nat)
  | no
def ixdy (A : Ar) (v : SV) (len : Nat) : Ixd :=
  match v with
  | .int _ i => match A.ix i len with
    | some j => .dy j
    | none => .no
  | _ => .no
def ixd (A : Ar) (x : Operand) (v : SV) (len : Nat) : Ixd :=
  match x with
  | .const (.int _ (.ofNat j)) => match Nat.blt j len with
    | true => .st j
    | false => .no
  | _ => ixdy A v len
def ixAddr (A : Ar) (T : Nat → Option Ty) (t : Nat) (x : SV) (iop : Operand) (iv : SV) : Option SV :=
  match T t with
  | some i => match i.d, x with
    | .ar len _ es _, .ptr l o => match ixd A iop iv len with
      | .st j => some (.ptr l (o + j * es))
      | .dy j => some (.ptrS l (A.off o j es))
      | .no => none
    | .ar len _ es _, .ptrS l o => match ixd A iop iv len with
      | .st j => some (.ptrS l (A.off o j es))
      | .dy j => some (.ptrS l (A.off o j es))
      | .no => none
    | .sl _ es, .slice l o len _ => match iv with
      | .int _ q => match A.ix q len with
        | some j => some (.ptrS l (A.off o j es))
        | none => none
      | _ => none
    | _, _ => none
  | none => none
def ixPart (A : Ar) (T : Nat → Option Ty) (t : Nat) (cs : List SV) (ix : Operand) (i : SV) : Option SV :=
  match T t with
  | some q => match q.d with
    | .ar len _ es ag => match ixd A ix i len with
      | .st j => prt ag cs (j * es) es
      | .dy j => prtD A ag cs (A.off 0 j es) es
      | .no => none
    | _ => none
  | none => none
def native (T : Nat → Option Ty) (F : Nat → Option SV) : Op → Bool
  | .move _ | .assign _ | .pick _ _ _ | .load _ _ | .nilCheck _ | .unOp _ _ _ | .makeFunc _ _ _ | .fieldAddr _ _ _ | .field _ _ _ | .indexAddr _ _ _ | .index _ _ _ | .extract _ _ | .build _ _ => true
  | .binOp _ _ x y _ => match ev F x, ev F y with
    | some (.agg _), _ | _, some (.agg _) | some (.raw _), _ | _, some (.raw _) => false
    | some (.ptr _ _), some (.ptr _ _) => false
    | _, _ => true
  | .convert _ d _ => match T d with
    | some i => match i.d with
      | .i _ => true
      | _ => false
    | none => false
  | .call c => match c.callee with
    | .builtin b => match b with
      | .len => true
      | _ => false
    | _ => false
  | _ => false
def valV (A : Ar) (T : Nat → Option Ty) (F : Nat → Option SV) (L : Nat → Option Blk) : Op → Option SV
  | .move x | .assign x => ev F x
  | .pick c a b => match ev F c with
    | some (.bool t) => match t with
      | true => ev F a
      | false => ev F b
    | _ => none
  | .load t x => match ev F x with
    | some v => match T t with
      | some i => rd A L i v
      | none => none
    | none => none
  | .nilCheck x => match ev F x with
    | some (.ptr l o) => some (.ptr l o)
    | some (.ptrS l o) => some (.ptrS l o)
    | some (.fn (.func f) a b) => some (.fn (.func f) a b)
    | _ => none
  | .binOp op xt x y _ => match ev F x, ev F y with
    | some u, some v => match u, v with
      | .int k a, .int k' b => binV A op y (.int k a) (.int k' b)
      | .str a, .str b => binV A op y (.str a) (.str b)
      | u, v => match T xt with
        | some i => binT A i.d op u v
        | none => none
    | _, _ => none
  | .unOp op _ x => match ev F x with
    | some v => unV A op v
    | none => none
  | .convert s d x => match ev F x, T s, T d with
    | some (.int _ n), some _, some i => match i.d with
      | .i k => some (.int k (A.cvt k n))
      | _ => none
    | _, _, _ => none
  | .makeFunc f a c => match evs F a.toList, evs F c.toList with
    | some a, some c => some (.fn f a c)
    | _, _ => none
  | .fieldAddr s x f => match ev F x, T s with
    | some v, some i => match i.d with
      | .st fs => match fs[f]? with
        | some (o', s', _) => match s' with
          | 0 => none
          | _ + 1 => match v with
            | .ptr l o => some (.ptr l (o + o'))
            | .ptrS l o => some (.ptrS l (A.off o o' 1))
            | _ => none
        | none => none
      | _ => none
    | _, _ => none
  | .field t x f => match ev F x, T t with
    | some (.agg cs), some i => match i.d with
      | .st fs => match fs[f]? with
        | some (o, s, ag) => prt ag cs o s
        | none => none
      | _ => none
    | _, _ => none
  | .indexAddr t x ix => match ev F x, ev F ix with
    | some v, some i => ixAddr A T t v ix i
    | _, _ => none
  | .index t x ix => match ev F x, ev F ix with
    | some (.str s), some (.int _ i) => match T t with
      | some q => match q.d with
        | .s => match A.six s i with
          | some b => some (.int .u8 b)
          | none => none
        | _ => none
      | none => none
    | some (.agg cs), some i => ixPart A T t cs ix i
    | _, _ => none
  | .extract x i => match ev F x with
    | some (.tup vs) => vs[i]?
    | _ => none
  | .build t parts => match T t with
    | some i => match i.d.agg with
      | true => match fillS (place i) F i.z parts.toList with
        | some cs => some (.agg cs)
        | none => none
      | false => none
    | none => none
  | .call c => match c.args.toList, c.argTypes.toList with
    | [x], [t] => match ev F x, T t with
      | some u, some i => match i.d, u with
        | .s, .str s => some (.int .i64 (A.slen s))
        | .sl _ _, .slice _ _ m _ => some (.int .i64 (A.nat m))
        | .sl _ _, .nils => some (.int .i64 0)
        | _, _ => none
      | _, _ => none
    | _, _ => none
  | _ => none
def rep : Nat → List SV → List SV
  | 0, _ => []
  | m + 1, z => z ++ rep m z
section
variable (T : Nat → Option Ty) (A : Ar) (P : Program) (g : G) (n0 : Nat) (ms : List Nat)
def vcOpG (S : Prop) (Kv : FF → Prop) (Kn : FF → Blk → Prop) (Kw : FF → Nat → List SV → Prop) (o : Oper) (F : FF) (L : LL) (n : Nat) : Prop :=
  match o.op with
  | .alloc e => match T e with
    | some i => Kn (putO F o.dst (.ptr n 0)) ⟨n, i.z, e⟩
    | none => False
  | .box e x => match ev (look F) x with
    | some v => match noRaw v with
      | true => Kn (putO F o.dst (.ptr n 0)) ⟨n, cellsOf v, e⟩
      | false => False
    | none => False
  | .buildSlice t m parts => match T t with
    | some i => match i.d with
      | .sl e _ => match T e with
        | some j => match Nat.ble (m * j.sz) 16777216 with
          | true => match Nat.ble 1 (m * j.sz) with
            | true => match fillS (place i) (look F) (rep m j.z) parts.toList with
              | some cs => Kn (putO F o.dst (.slice n 0 m m)) ⟨n, cs, e⟩
              | none => False
            | false => S
          | false => False
        | none => False
      | _ => False
    | none => False
  | .store t x v => match ev (look F) x, ev (look F) v, T t with
    | some p, some u, some i => match Nat.beq (cellsOf u).length i.sz with
      | true => match ones (cellsOf u) with
        | true => match wr A (find L) (cellsOf u) p with
          | some (l, cs) => match own n0 ms l with
            | true => Kw (putO F o.dst (.raw undef)) l cs
            | false => False
          | none => False
        | false => False
      | false => False
    | _, _, _ => False
  | op => match native T (look F) op with
    | true => match valV A T (look F) (find L) op with
      | some v => Kv (putO F o.dst v)
      | none => False
    | false => S
def vcOp (o : Oper) (K : FF → LL → Nat → Prop) (F : FF) (L : LL) (n : Nat) : Prop :=
  vcOpG T A n0 ms (Step g P o K F L n) (fun F' => K F' L n) (fun F' b => K F' (L ++ [b]) (n + 1)) (fun F' l cs => K F' (updL L l cs) n) o F L n
/-- a row of operations, those with a guard where it says so -/
def vcL (all : List Oper) : List Oper → (FF → LL → Nat → Prop) → FF → LL → Nat → Prop
  | [], K, F, L, n => K F L n
  | o :: rest, K, F, L, n =>
    match o.guard with
    | none => vcOp T A P g n0 ms o (vcL all rest K) F L n
    | some (j, b) => match all[j]? with
      | some oj => match oj.dst with
        | some d => match look F d with
          | some (.bool x) => match x with
            | true => match b with
              | true => vcOp T A P g n0 ms o (vcL all rest K) F L n
              | false => vcL all rest K (putO F o.dst (.raw undef)) L n
            | false => match b with
              | true => vcL all rest K (putO F o.dst (.raw undef)) L n
              | false => vcOp T A P g n0 ms o (vcL all rest K) F L n
          | _ => False
        | none => False
      | none => False
end
end Go.Vg
