/-
  This text proves laws by which a symbolic run goes on: a drawn region under hidden arithmetic, and what hidden arithmetic comes to. Condition: the arithmetic is the model's.
-/
import Derived.Test.YtgdkefjpekebmaaVgR
namespace Go.Vg
open Go.RowKit
mutual
/-- its labels are below m -/
def bdB (m : Nat) : SV → Bool
  | .ptr l _ | .ptrS l _ | .slice l _ _ _ => Nat.blt l m
  | .fn _ a b => bdLB m a && bdLB m b
  | .agg cs => bdLB m cs
  | .tup vs => bdLB m vs
  | _ => true
def bdLB (m : Nat) : List SV → Bool
  | [] => true
  | v :: vs => bdB m v && bdLB m vs
end
theorem blt_lt {a b : Nat} (h : Nat.blt a b = true) : a < b := Nat.le_of_ble_eq_true h
mutual
theorem bdB_bd {m : Nat} : ∀ v, bdB m v = true → bd (fun l => l < m) v
  | .bool _, _ | .int _ _, _ | .str _, _ | .nilp, _ | .nils, _ | .nilfn, _ | .raw _, _ => trivial
  | .ptr _ _, h | .ptrS _ _, h | .slice _ _ _ _, h => blt_lt (by simpa only [bdB] using h)
  | .fn _ a b, h => by
    simp only [bdB, Bool.and_eq_true] at h
    exact ⟨bdLB_bd a h.1, bdLB_bd b h.2⟩
  | .agg cs, h => bdLB_bd cs (by simpa only [bdB] using h)
  | .tup vs, h => bdLB_bd vs (by simpa only [bdB] using h)
theorem bdLB_bd {m : Nat} : ∀ l, bdLB m l = true → bdL (fun l => l < m) l
  | [], _ => trivial
  | v :: vs, h => by
    simp only [bdLB, Bool.and_eq_true] at h
    exact ⟨bdB_bd v h.1, bdLB_bd vs h.2⟩
end
mutual
theorem ren_id : ∀ v, ren id v = v
  | .bool _ | .int _ _ | .str _ | .nilp | .nils | .nilfn | .raw _ => rfl
  | .ptr _ _ | .ptrS _ _ | .slice _ _ _ _ => rfl
  | .fn _ a b => by rw [ren, renL_id a, renL_id b]
  | .agg cs => by rw [ren, renL_id cs]
  | .tup vs => by rw [ren, renL_id vs]
theorem renL_id : ∀ l, renL id l = l
  | [] => rfl
  | v :: vs => by rw [renL, ren_id v, renL_id vs]
end
def wkF1 (m : Nat) (F : FF) : FF → Prop
  | [] => True
  | (t, v) :: F' => look F t = some v ∧ bdB m v = true ∧ wkF1 m F F'
def wkL1 (m : Nat) (L : LL) : LL → Prop
  | [] => True
  | b :: L' => find L b.l = some b ∧ Nat.blt b.l m = true ∧ bdLB m b.cs = true ∧ wkL1 m L L'
theorem wkF_of1 {m : Nat} {F : FF} : ∀ {F' : FF}, wkF1 m F F' → wkF id m F F'
  | [], _ => trivial
  | (t, v) :: F', h => ⟨by rw [ren_id]; exact h.1, bdB_bd _ h.2.1, wkF_of1 h.2.2⟩
theorem wkL_of1 {n0 m : Nat} {L : LL} : ∀ {L' : LL}, wkL1 m L L' → wkL id n0 m L L'
  | [], _ => trivial
  | b :: L', h => ⟨by rw [renL_id]; exact h.1, h.2.1, by
      rcases Nat.lt_or_ge b.l n0 with h1 | h1
      · rw [show Nat.blt b.l n0 = true from Nat.ble_eq_true_of_le h1]; rfl
      · rw [show Nat.ble n0 (id b.l) = true from Nat.ble_eq_true_of_le h1, Bool.or_true], bdLB_bd _ h.2.2.1, wkL_of1 h.2.2.2⟩
theorem below_of {f : Nat → Bool} (h : ∀ l, f l = true) : ∀ n, below f n = true
  | 0 => rfl
  | n + 1 => by rw [below, h n, below_of h n]; rfl
theorem weak_id {n0 n' : Nat} {F F' : FF} {L L' : LL} {n : Nat} (hF : wkF1 n' F F') (hL : wkL1 n' L L') (hd : ndN (L'.map Blk.l) = true) (hn : Nat.ble n0 n' = true) : Weak n0 id F' L' n' F L n :=
  ⟨wkF_of1 hF, wkL_of1 hL, hd, hn, below_of (fun l => Nat.beq_refl l) n0⟩
/-- a row of n numbers from s on -/
def lst (K : IntKind) (f : Nat → Int) : Nat → Nat → List SV
  | _, 0 => []
  | s, n + 1 => .int K (f s) :: lst K f (s + 1) n
theorem lst_length (K : IntKind) (f : Nat → Int) : ∀ s n, (lst K f s n).length = n
  | _, 0 => rfl
  | s, n + 1 => by rw [lst, List.length_cons, lst_length]
theorem lst_get (K : IntKind) (f : Nat → Int) {k : Nat} : ∀ {s n : Nat}, k < n → (lst K f s n)[k]? = some (.int K (f (s + k))) := by
  induction k with
  | zero => intro s n h; cases n with
    | zero => omega
    | succ n => rfl
  | succ k ih => intro s n h; cases n with
    | zero => omega
    | succ n => rw [lst, List.getElem?_cons_succ, ih (by omega), show s + 1 + k = s + (k + 1) by omega]
theorem lst_congr {K : IntKind} {f g : Nat → Int} : ∀ {s n : Nat}, (∀ j, s ≤ j → j < s + n → f j = g j) → lst K f s n = lst K g s n
  | _, 0, _ => rfl
  | s, n + 1, h => by rw [lst, lst, h s (by omega) (by omega), lst_congr fun j h1 h2 => h j (by omega) (by omega)]
theorem lst_bd (m : Nat) (K : IntKind) (f : Nat → Int) : ∀ s n, bdLB m (lst K f s n) = true
  | _, 0 => rfl
  | s, n + 1 => by rw [lst, bdLB, lst_bd m K f (s + 1) n]; rfl
theorem lst_set {K : IntKind} {f g : Nat → Int} {v : Int} {k : Nat} : ∀ {s n : Nat}, k < n → g (s + k) = v → (∀ j, s ≤ j → j < s + n → j ≠ s + k → g j = f j) → Vg.splice (lst K f s n) k [.int K v] = lst K g s n := by
  induction k with
  | zero => intro s n h hv hg; cases n with
    | zero => omega
    | succ n =>
      rw [Nat.add_zero] at hv
      rw [lst, lst, hv, lst_congr (f := g) (g := f) fun j h1 h2 => hg j (by omega) (by omega) (by omega)]
      rfl
  | succ k ih => intro s n h hv hg; cases n with
    | zero => omega
    | succ n =>
      rw [lst, lst, hg s (by omega) (by omega) (by omega), ← ih (s := s + 1) (n := n) (by omega) (by rw [show s + 1 + k = s + (k + 1) by omega]; exact hv) fun j h1 h2 h3 => hg j (by omega) (by omega) (by omega)]
      simp only [Vg.splice, List.take_succ_cons, List.cons_append, List.length_cons, List.length_nil]
      rw [show k + 1 + (0 + 1) = (k + (0 + 1)) + 1 by omega, List.drop_succ_cons]
section
variable {P : Program} {g : G} {T : Nat → Option Ty} {A : Ar}
theorem reg_A (hT : TOk P T) (hA : A = Ar.real) {n0 N : Nat} {ms : List Nat} (hg : GI g n0 ms N) (hmix : P.follows .mixedOrders = true) {id : Nat} {ops : Array Oper} (hB : drawB ops.toList = true) (hd : (ops.toList.all fun o => dstLt N o.dst) = true) {K : FF → LL → Nat → Prop} {F : FF} {L : LL} {n : Nat}
    (h : vcD T A P g n0 ms ops.toList (maskL [] ops.toList) K ops.toList 0 F L [] n) : Reg g P id ops K F L n := by
  subst hA
  exact reg_of hT hg.n0 hg.ms hmix hB (fun o ho => hg.dst (List.all_eq_true.1 hd o ho)) h
theorem reg_M (hT : TOk P T) (hA : A = Ar.real) {n0 N : Nat} {ms : List Nat} (hg : GI g n0 ms N) (hmix : P.follows .mixedOrders = true) {id : Nat} {ops : Array Oper} (hB : drawB ops.toList = true) (hd : (ops.toList.all fun o => dstLt N o.dst) = true) {K : FF → LL → Nat → Prop} {F : FF} {L : LL} {n : Nat}
    (h : ∀ m, maskL [] ops.toList = m → vcD T A P g n0 ms ops.toList m K ops.toList 0 F L [] n) : Reg g P id ops K F L n :=
  reg_A hT hA hg hmix hB hd (h _ rfl)
theorem bin_of (hA : A = Ar.real) : A.bin = intBin := congrArg Ar.bin hA
theorem cmp_of (hA : A = Ar.real) : A.cmp = boolCmp := congrArg Ar.cmp hA
theorem neg_of (hA : A = Ar.real) (k : IntKind) (n : Int) : A.una .neg k n = k.wrap (0 - n) := by
  rw [hA]; simp only [Ar.real]
theorem not_of (hA : A = Ar.real) (n : Int) : A.una .xor .u64 n = intBin .xor .u64 18446744073709551615 n := by
  rw [hA]; simp only [Ar.real]; rfl
theorem cvt_of (hA : A = Ar.real) (k : IntKind) (n : Int) : A.cvt k n = k.wrap n := by
  rw [hA]; simp only [Ar.real]
theorem shl_of (hA : A = Ar.real) (k : IntKind) (x y : Int) : A.sh .shl k x y = k.wrap (x * 2 ^ (min y.toNat k.bits)) := by
  rw [hA]; simp only [Ar.real]
theorem shr_of (hA : A = Ar.real) (k : IntKind) (x y : Int) : A.sh .shr k x y = x.fdiv (2 ^ (min y.toNat k.bits)) := by
  rw [hA]; simp only [Ar.real]
theorem nat_of (hA : A = Ar.real) (n : Nat) : A.nat n = Int.ofNat n := by
  rw [hA]; simp only [Ar.real]; rfl
theorem bnot_of (hA : A = Ar.real) (b : Bool) : A.bnot b = !b := by
  rw [hA]; simp only [Ar.real]
theorem ix_of (hA : A = Ar.real) {k n : Nat} (h : k < n) : A.ix (Int.ofNat k) n = some k := by
  subst hA
  have h1 : (0 : Int) ≤ (k : Int) ∧ (k : Int) < n := by omega
  simp [Ar.real, h]
theorem off_of (hA : A = Ar.real) (o j s : Nat) : A.off o j s = o + j * s := by
  subst hA; rfl
theorem get_of (hA : A = Ar.real) (c : List SV) (k : Nat) : A.get c k = c[k]? := by
  subst hA; rfl
theorem spl_of (hA : A = Ar.real) {c : List SV} {k : Nat} (h : k < c.length) (v : SV) : A.spl c k [v] = some (Vg.splice c k [v]) := by
  subst hA
  simp only [Ar.real, List.length_cons, List.length_nil]
  rw [if_pos (by omega)]
theorem eql_of (hA : A = Ar.real) (a b : Int) : A.cmp .eql a b = decide (a = b) := by
  subst hA; show (a == b) = _
  by_cases h : a = b <;> simp [h]
theorem neq_of (hA : A = Ar.real) (a b : Int) : A.cmp .neq a b = decide (a ≠ b) := by
  subst hA; show (a != b) = _
  by_cases h : a = b <;> simp [h]
theorem scat_of (hA : A = Ar.real) {a b : ByteArray} (h : a.size + b.size < 2 ^ 63) : A.scat a b = some (a ++ b) := by
  subst hA; simp only [Ar.real]; rw [if_neg (by show ¬ _ > (9223372036854775807 : Int); omega)]
theorem slen_of (hA : A = Ar.real) (s : ByteArray) : A.slen s = Int.ofNat s.size := by
  subst hA; rfl
theorem nz_of (hA : A = Ar.real) {i : Int} (h : i ≠ 0) : A.nz i = true := by
  subst hA; simpa [Ar.real] using h
theorem lss_of (hA : A = Ar.real) (a b : Int) : A.cmp .lss a b = decide (a < b) := by
  subst hA; rfl
theorem wrap_of (k : Nat) (h : k < 2 ^ 63) : IntKind.i64.wrap (k : Int) = (k : Int) := by
  simp only [IntKind.wrap, IntKind.signed, IntKind.bits]
  have : ((k : Int) % 18446744073709551616) = k := Int.emod_eq_of_lt (by omega) (by omega)
  simp
  omega
theorem add_of (hA : A = Ar.real) {k : Nat} (h : k + 1 < 2 ^ 63) : A.bin .add .i64 (Int.ofNat k) 1 = Int.ofNat (k + 1) := by
  subst hA
  exact wrap_of (k + 1) h
end
end Go.Vg
