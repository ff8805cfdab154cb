/-
  This text defines a symbolic run of Go code over labelled memory: what must be shown so that the code ends as wanted. No condition.
-/
import Derived.Test.YtgdkefjpekebmaaKB
namespace Go.Vg
/-- a value whose pointers bear labels of blocks -/
inductive SV where
  | bool (b : Bool)
  | int (k : IntKind) (n : Int)
  | str (s : ByteArray)
  | ptr (l o : Nat)
  | ptrS (l o : Nat)
  | nilp
  | slice (l o n c : Nat)
  | nils
  | fn (f : Fn) (a b : List SV)
  | nilfn
  | agg (cs : List SV)
  | tup (vs : List SV)
  | raw (v : Value)
  deriving Inhabited
mutual
def den (β : Nat → Nat) : SV → Value
  | .bool b => .bool b
  | .int k n => .int k n
  | .str s => .string s
  | .ptr l o => .pointer (some ⟨β l, o, none⟩)
  | .ptrS l o => .pointer (some ⟨β l, o, none⟩)
  | .nilp => .pointer none
  | .slice l o n c => .slice (some ⟨β l, o, none⟩) n c
  | .nils => .slice none 0 0
  | .fn f a b => .func f (denL β a).toArray (denL β b).toArray
  | .nilfn => .nilFunc
  | .agg cs => .agg (denL β cs).toArray
  | .tup vs => .tuple (denL β vs).toArray
  | .raw v => v
def denL (β : Nat → Nat) : List SV → List Value
  | [] => []
  | v :: vs => den β v :: denL β vs
end
theorem denL_eq (β : Nat → Nat) : ∀ l, denL β l = l.map (den β)
  | [] => rfl
  | v :: vs => by rw [denL, denL_eq β vs, List.map_cons]
mutual
/-- its labels are among p -/
def bd (p : Nat → Prop) : SV → Prop
  | .ptr l _ | .ptrS l _ | .slice l _ _ _ => p l
  | .fn _ a b => bdL p a ∧ bdL p b
  | .agg cs => bdL p cs
  | .tup vs => bdL p vs
  | _ => True
def bdL (p : Nat → Prop) : List SV → Prop
  | [] => True
  | v :: vs => bd p v ∧ bdL p vs
end
theorem bdL_iff (p : Nat → Prop) : ∀ l, bdL p l ↔ ∀ v ∈ l, bd p v
  | [] => by simp [bdL]
  | v :: vs => by simp [bdL, bdL_iff p vs]
mutual
theorem bd_mono {p q : Nat → Prop} (h : ∀ l, p l → q l) : ∀ v, bd p v → bd q v
  | .bool _, _ | .int _ _, _ | .str _, _ | .nilp, _ | .nils, _ | .nilfn, _ | .raw _, _ => by simp [bd]
  | .ptr _ _, hv | .ptrS _ _, hv | .slice _ _ _ _, hv => h _ (by simpa [bd] using hv)
  | .fn _ a b, hv => by
    simp only [bd] at hv ⊢
    exact ⟨bdL_mono h a hv.1, bdL_mono h b hv.2⟩
  | .agg cs, hv => by simp only [bd] at hv ⊢; exact bdL_mono h cs hv
  | .tup vs, hv => by simp only [bd] at hv ⊢; exact bdL_mono h vs hv
theorem bdL_mono {p q : Nat → Prop} (h : ∀ l, p l → q l) : ∀ l, bdL p l → bdL q l
  | [], _ => trivial
  | v :: vs, hl => by
    simp only [bdL] at hl ⊢
    exact ⟨bd_mono h v hl.1, bdL_mono h vs hl.2⟩
end
mutual
theorem den_congr {β γ : Nat → Nat} {p : Nat → Prop} (h : ∀ l, p l → γ l = β l) : ∀ v, bd p v → den γ v = den β v
  | .bool _, _ | .int _ _, _ | .str _, _ | .nilp, _ | .nils, _ | .nilfn, _ | .raw _, _ => by simp [den]
  | .ptr _ _, hv | .ptrS _ _, hv | .slice _ _ _ _, hv => by simp only [den, h _ (show p _ by simpa [bd] using hv)]
  | .fn _ a b, hv => by
    simp only [bd] at hv
    simp only [den, denL_congr h a hv.1, denL_congr h b hv.2]
  | .agg cs, hv => by simp only [bd] at hv; simp only [den, denL_congr h cs hv]
  | .tup vs, hv => by simp only [bd] at hv; simp only [den, denL_congr h vs hv]
theorem denL_congr {β γ : Nat → Nat} {p : Nat → Prop} (h : ∀ l, p l → γ l = β l) : ∀ l, bdL p l → denL γ l = denL β l
  | [], _ => rfl
  | v :: vs, hl => by
    simp only [bdL] at hl
    simp only [denL, den_congr h v hl.1, denL_congr h vs hl.2]
end
abbrev FF := List (Nat × SV)
structure Blk where
  l : Nat
  cs : List SV
  t : TypeId
abbrev LL := List Blk
def look : FF → Nat → Option SV
  | [], _ => none
  | (t, v) :: F, k => if t = k then some v else look F k
def put : FF → Nat → SV → FF
  | [], k, v => [(k, v)]
  | (t, u) :: F, k, v => if t = k then (t, v) :: F else (t, u) :: put F k v
theorem look_put (F : FF) (k : Nat) (v : SV) (t : Nat) : look (put F k v) t = if k = t then some v else look F t := by
  induction F with
  | nil => simp [put, look]
  | cons p F ih =>
    obtain ⟨s, u⟩ := p
    simp only [put]
    by_cases h : s = k
    · subst h
      simp only [if_pos, look]
      by_cases h2 : s = t <;> simp [h2]
    · rw [if_neg h]
      simp only [look, ih]
      by_cases h2 : s = t
      · subst h2; simp [Ne.symm h]
      · simp [h2]
def putO (F : FF) (d : Option Nat) (v : SV) : FF :=
  match d with
  | some d => put F d v
  | none => F
def find : LL → Nat → Option Blk
  | [], _ => none
  | b :: L, k => if b.l = k then some b else find L k
def updL : LL → Nat → List SV → LL
  | [], _, _ => []
  | b :: L, k, cs => if b.l = k then ⟨b.l, cs, b.t⟩ :: L else b :: updL L k cs
theorem find_l {L : LL} {k : Nat} {b : Blk} (h : find L k = some b) : b.l = k := by
  induction L with
  | nil => simp [find] at h
  | cons c L ih =>
    simp only [find] at h
    by_cases hc : c.l = k
    · rw [if_pos hc] at h
      obtain rfl := Option.some.inj h
      exact hc
    · rw [if_neg hc] at h
      exact ih h
theorem find_append (L M : LL) (k : Nat) : find (L ++ M) k = match find L k with
    | some b => some b
    | none => find M k := by
  induction L with
  | nil => rfl
  | cons c L ih =>
    simp only [List.cons_append, find]
    by_cases hc : c.l = k
    · rw [if_pos hc, if_pos hc]
    · rw [if_neg hc, if_neg hc]; exact ih
theorem find_updL (L : LL) (k : Nat) (cs : List SV) (l : Nat) : find (updL L k cs) l = if l = k then (find L k).map fun b => ⟨b.l, cs, b.t⟩ else find L l := by
  induction L with
  | nil => by_cases h : l = k <;> simp [updL, find, h]
  | cons c L ih =>
    simp only [updL, find]
    by_cases hc : c.l = k
    · rw [if_pos hc, if_pos hc]
      simp only [find]
      by_cases hl : l = k
      · subst hl; simp [hc]
      · rw [if_neg (by rw [hc]; exact fun e => hl e.symm), if_neg hl, if_neg (by rw [hc]; exact fun e => hl e.symm)]
    · rw [if_neg hc, if_neg hc]
      simp only [find, ih]
      by_cases hl : l = k
      · subst hl; rw [if_neg hc, if_pos rfl, if_pos rfl]
      · rw [if_neg hl, if_neg hl]
theorem find_mem {L : LL} {k : Nat} {b : Blk} (h : find L k = some b) : b ∈ L ∧ b.l = k := by
  induction L with
  | nil => simp [find] at h
  | cons c L ih =>
    simp only [find] at h
    by_cases hc : c.l = k
    · rw [if_pos hc] at h
      obtain rfl := Option.some.inj h
      exact ⟨List.mem_cons_self, hc⟩
    · rw [if_neg hc] at h
      exact ⟨List.mem_cons_of_mem _ (ih h).1, (ih h).2⟩
/-- arithmetic, kept from the run behind a variable -/
structure Ar where
  bin : BinOp → IntKind → Int → Int → Int
  sh : BinOp → IntKind → Int → Int → Int
  cmp : BinOp → Int → Int → Bool
  una : UnOp → IntKind → Int → Int
  cvt : IntKind → Int → Int
  ix : Int → Nat → Option Nat
  nn : Int → Bool
  nz : Int → Bool
  bnot : Bool → Bool
  beq : Bool → Bool → Bool
  scat : ByteArray → ByteArray → Option ByteArray
  scmp : BinOp → ByteArray → ByteArray → Bool
  slen : ByteArray → Int
  six : ByteArray → Int → Option Int
  nat : Nat → Int
  off : Nat → Nat → Nat → Nat
  get : List SV → Nat → Option SV
  set : List SV → Nat → SV → List SV
  sub : List SV → Nat → Nat → Option (List SV)
  spl : List SV → Nat → List SV → Option (List SV)
def boolCmp (op : BinOp) (x y : Int) : Bool :=
  match op with
  | .eql => x == y
  | .neq => x != y
  | .lss => x < y
  | .leq => x ≤ y
  | .gtr => x > y
  | _ => x ≥ y
def strCmp (op : BinOp) (x y : ByteArray) : Bool :=
  match op with
  | .eql => x.toList == y.toList
  | .neq => !(x.toList == y.toList)
  | .lss => Op.bytesLess x.toList y.toList
  | .leq => Op.bytesLess x.toList y.toList || x.toList == y.toList
  | .gtr => !(Op.bytesLess x.toList y.toList || x.toList == y.toList)
  | _ => !(Op.bytesLess x.toList y.toList)
def intBin (op : BinOp) (k : IntKind) (x y : Int) : Int :=
  match op with
  | .add => k.wrap (x + y)
  | .sub => k.wrap (x - y)
  | .mul => k.wrap (x * y)
  | .quo => k.wrap (x.tdiv y)
  | .rem => x.tmod y
  | .and => k.wrap (BitVec.ofInt k.bits x &&& BitVec.ofInt k.bits y).toNat
  | .or => k.wrap (BitVec.ofInt k.bits x ||| BitVec.ofInt k.bits y).toNat
  | .xor => k.wrap (BitVec.ofInt k.bits x ^^^ BitVec.ofInt k.bits y).toNat
  | _ => k.wrap (BitVec.ofInt k.bits x &&& ~~~BitVec.ofInt k.bits y).toNat
def splice (cs : List SV) (o : Nat) (vs : List SV) : List SV := cs.take o ++ vs ++ cs.drop (o + vs.length)
def Ar.real : Ar where
  bin := intBin
  sh op k x y := match op with
    | .shl => k.wrap (x * 2 ^ (min y.toNat k.bits))
    | _ => x.fdiv (2 ^ (min y.toNat k.bits))
  cmp := boolCmp
  una op k n := match op with
    | .neg => k.wrap (0 - n)
    | _ => intBin .xor k (if k.signed then -1 else k.max) n
  cvt k n := k.wrap n
  ix i n := if 0 ≤ i ∧ i < n then some i.toNat else none
  nn i := decide (0 ≤ i)
  nz i := i != 0
  bnot b := !b
  beq a b := a == b
  scat a b := if ((a.size + b.size : Nat) : Int) > IntKind.i64.max then none else some (a ++ b)
  scmp := strCmp
  slen s := s.size
  six s i := if 0 ≤ i then (s[i.toNat]?).map fun b => (b.toNat : Int) else none
  nat n := n
  off o j s := o + j * s
  get cs o := cs[o]?
  set cs o v := cs.set o v
  sub cs o n := if o + n ≤ cs.length then some ((cs.drop o).take n) else none
  spl cs o vs := if o + vs.length ≤ cs.length then some (splice cs o vs) else none
/-- what a type's row says -/
inductive TyD where
  | i (k : IntKind) | b | s | p | f | o
  | sl (e es : Nat)
  | ar (n e es : Nat) (ag : Bool)
  | st (fs : List (Nat × Nat × Bool))
structure Ty where
  d : TyD
  sz : Nat
  z : List SV
def TyD.agg : TyD → Bool
  | .ar .. | .st _ => true
  | _ => false
def ty : List (Nat × Ty) → Nat → Option Ty
  | [], _ => none
  | (t, i) :: T, k => if t = k then some i else ty T k
def ofV : Value → Option SV
  | .bool b => some (.bool b)
  | .int k n => some (.int k n)
  | .string s => some (.str s)
  | .pointer none => some .nilp
  | .slice none 0 0 => some .nils
  | .nilFunc => some .nilfn
  | _ => none
def ev (F : Nat → Option SV) : Operand → Option SV
  | .tmp t => F t
  | .const v => ofV v
  | .func f => some (.fn (.func f) [] [])
  | .global _ => none
def evs (F : Nat → Option SV) : List Operand → Option (List SV)
  | [] => some []
  | x :: xs => match ev F x with
    | some v => match evs F xs with
      | some vs => some (v :: vs)
      | none => none
    | none => none
def cellsOf : SV → List SV
  | .agg cs => cs
  | v => [v]
def one : SV → Bool
  | .agg _ | .tup _ | .raw _ => false
  | _ => true
def ones : List SV → Bool
  | [] => true
  | v :: vs => match one v with
    | true => ones vs
    | false => false
def isCmp : BinOp → Bool
  | .eql | .neq | .lss | .leq | .gtr | .geq => true
  | _ => false
def nilCmp : BinOp → Bool → Option Bool
  | .eql, b => some b
  | .neq, b => some (!b)
  | _, _ => none
/-- places of a struct's or an array's parts -/
def place (i : Ty) (n : Nat) : Option (Nat × Nat) :=
  match i.d with
  | .st fs => match fs[n]? with
    | some (o, s, _) => some (o, s)
    | none => none
  | .ar _ _ es _ => some (n * es, es)
  | .sl _ es => some (n * es, es)
  | _ => none
def noRaw : SV → Bool
  | .raw _ => false
  | _ => true
def fillS (pl : Nat → Option (Nat × Nat)) (F : Nat → Option SV) : List SV → List (Nat × Operand) → Option (List SV)
  | cs, [] => some cs
  | cs, (i, x) :: rest => match ev F x with
    | some v => match noRaw v with
      | true => match pl i with
        | some (o, s) => match Nat.beq (cellsOf v).length s with
          | true => match Nat.ble (o + s) cs.length with
            | true => fillS pl F (splice cs o (cellsOf v)) rest
            | false => none
          | false => none
        | none => none
      | false => none
    | none => none
end Go.Vg
