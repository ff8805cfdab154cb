/-
  This text proves how slice expressions are met in a symbolic run. Condition: the bounds lie within the slice.
-/
import Derived.Test.YtgdkefjpekebmaaVgU
namespace Go.Vg
open Go.RowKit
def wkF2 (ρ : Nat → Nat) (m : Nat) (F : FF) : FF → Prop
  | [] => True
  | (t, v) :: F' => look F t = some (ren ρ v) ∧ bdB m v = true ∧ wkF2 ρ m F F'
def wkL2 (ρ : Nat → Nat) (n0 m : Nat) (L : LL) : LL → Prop
  | [] => True
  | b :: L' => find L (ρ b.l) = some ⟨ρ b.l, renL ρ b.cs, b.t⟩ ∧ Nat.blt b.l m = true ∧ (Nat.blt b.l n0 || Nat.ble n0 (ρ b.l)) = true ∧ bdLB m b.cs = true ∧ wkL2 ρ n0 m L L'
theorem wkF_of2 {ρ : Nat → Nat} {m : Nat} {F : FF} : ∀ {F' : FF}, wkF2 ρ m F F' → wkF ρ m F F'
  | [], _ => trivial
  | (_, _) :: _, h => ⟨h.1, bdB_bd _ h.2.1, wkF_of2 h.2.2⟩
theorem wkL_of2 {ρ : Nat → Nat} {n0 m : Nat} {L : LL} : ∀ {L' : LL}, wkL2 ρ n0 m L L' → wkL ρ n0 m L L'
  | [], _ => trivial
  | _ :: _, h => ⟨h.1, h.2.1, h.2.2.1, bdLB_bd _ h.2.2.2.1, wkL_of2 h.2.2.2.2⟩
/-- a loop's head under new labels -/
theorem weak_rho {ρ : Nat → Nat} {n0 n' : Nat} {F F' : FF} {L L' : LL} {n : Nat} (hF : wkF2 ρ n' F F') (hL : wkL2 ρ n0 n' L L') (hd : ndN (L'.map fun b => ρ b.l) = true) (hn : Nat.ble n0 n' = true) (hb : below (fun l => Nat.beq (ρ l) l) n0 = true) : Weak n0 ρ F' L' n' F L n :=
  ⟨wkF_of2 hF, wkL_of2 hL, hd, hn, hb⟩
section
variable {P : Program} {g : G} {T : Nat → Option Ty} {F : FF} {L : LL} {n : Nat}
theorem run_slice_op {W : World} {a : Act} {o : Oper} {x : Operand} {t : TypeId} {lo hi mx : Option Operand} (ho : o.op = .slice t x lo hi mx) {v : Value} {W' : World} (h : (Instr.sliceAt t (a.eval x) (lo.map a.eval) (hi.map a.eval) (mx.map a.eval)).run P W = .ok v W') : (execOp a.eval o).run P W = .ok (.value v) W' := by
  unfold execOp
  simp only [ho, Sem.run_bind, Sem.run_pure, Result.andThen_ok, h]
/-- 's[:h]' -/
theorem step_slice_h (hT : TOk P T) {o : Oper} {m0 N : Nat} {ms : List Nat} (hg : GI g m0 ms N) (hd' : dstLt N o.dst = true) {x h : Operand} {t : Nat} (ho : o.op = .slice t x none (some h) none) {i : Ty} (ht : T t = some i) {e es : Nat} (hd : i.d = .sl e es)
    {l q m c : Nat} (hx : ev (look F) x = some (.slice l q m c)) {k : IntKind} {j : Nat} (hh : ev (look F) h = some (.int k (Int.ofNat j))) (hj : j ≤ c) {K : FF → LL → Nat → Prop} (hK : K (putO F o.dst (.slice l q j c)) L n) : Step g P o K F L n := by
  obtain ⟨hu, hs⟩ := sl_of hT ht hd
  have he : P.elem t = e := by simp [Program.elem, hu]
  refine step_val hg hd' (fun β a W hm hf => ?_) hK
  obtain ⟨e1, b1⟩ := ev_sound hf hx
  obtain ⟨e2, _⟩ := ev_sound hf hh
  refine ⟨run_slice_op ho ?_, b1⟩
  simp only [Option.map_none, Option.map_some, e1, e2, den]
  rw [run_sliceAt_slice W t _ _ _ _ (by rw [he]; exact hu), run_slice_h W t _ m c (by rw [he]; exact hu) k (Int.ofNat j) (by simp) (by simpa using hj), he, run_sizeOf hs]
  simp [Result.andThen, sliced, addr_add']
/-- the same in a drawn region -/
theorem en_slice_h (hT : TOk P T) {o : Oper} {m0 N : Nat} {ms : List Nat} (hg : GI g m0 ms N) (hd' : dstLt N o.dst = true) {x h : Operand} {t : Nat} (ho : o.op = .slice t x none (some h) none) {i : Ty} (ht : T t = some i) {e es : Nat} (hd : i.d = .sl e es)
    {F : Nat → Option SV} {M : Nat → Option Blk} {l q m c : Nat} (hx : ev F x = some (.slice l q m c)) {k : IntKind} {j : Nat} (hh : ev F h = some (.int k (Int.ofNat j))) (hj : j ≤ c) : EN g P o F M (.slice l q j c) [] := by
  obtain ⟨hu, hs⟩ := sl_of hT ht hd
  have he : P.elem t = e := by simp [Program.elem, hu]
  refine en_out hg hd' fun β p F' L' a W hF hM hm hf => ?_
  have E : ∀ z ∈ o.op.operands.toList, ev F' z = ev F z := fun z hz => ev_congr fun t ht => hF t (tmpsL_mem hz ht)
  rw [ho] at E
  obtain ⟨e1, b1⟩ := ev_sound hf ((E x (by simp [Op.operands])).trans hx)
  obtain ⟨e2, _⟩ := ev_sound hf ((E h (by simp [Op.operands])).trans hh)
  refine ⟨run_slice_op ho ?_, b1⟩
  simp only [Option.map_none, Option.map_some, e1, e2, den]
  rw [run_sliceAt_slice W t _ _ _ _ (by rw [he]; exact hu), run_slice_h W t _ m c (by rw [he]; exact hu) k (Int.ofNat j) (by simp) (by simpa using hj), he, run_sizeOf hs]
  simp [Result.andThen, sliced, addr_add']
end
end Go.Vg
