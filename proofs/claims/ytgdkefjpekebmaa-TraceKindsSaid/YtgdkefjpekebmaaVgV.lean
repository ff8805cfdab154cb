/-
  This text proves how slice expressions are met in a symbolic run. Condition: the bounds lie within the slice.
-/
import Derived.Test.YtgdkefjpekebmaaVgU
namespace Go.Vg
open Go.RowKit
section
variable {P : Program} {g : G} {T : Nat → Option Ty} {F : FF} {L : LL} {n : Nat}
theorem run_slice_op {W : World} {a : Act} {o : Oper} {x : Operand} {t : TypeId} {lo hi mx : Option Operand} (ho : o.op = .slice t x lo hi mx) {v : Value} {W' : World} (h : (Instr.sliceAt t (a.eval x) (lo.map a.eval) (hi.map a.eval) (mx.map a.eval)).run P W = .ok v W') : (execOp a.eval o).run P W = .ok (.value v) W' := by
  unfold execOp
  simp only [ho, Sem.run_bind, Sem.run_pure, Result.andThen_ok, h]
/-- 's[:h]' -/
theorem step_slice_h (hT : TOk P T) {o : Oper} {m0 N : Nat} {ms : List Nat} (hg : GI g m0 ms N) (hd' : dstLt N o.dst = true) {x h : Operand} {t : Nat} (ho : o.op = .slice t x none (some h) none) {i : Ty} (ht : T t = some i) {e es : Nat} (hd : i.d = .sl e es)
    {l q m c : Nat} (hx : ev (look F) x = some (.slice l q m c)) {k : IntKind} {j : Nat} (hh : ev (look F) h = some (.int k (Int.ofNat j))) (hj : j ≤ c) {K : FF → LL → Nat → Prop} (hK : K (putO F o.dst (.slice l q j c)) L n) : Step g P o K F L n := by
  obtain ⟨hu, hs⟩ := sl_of hT ht hd
  have he : P.elem t = e := by simp [Program.elem, hu]
  refine step_val hg hd' (fun β a W hm hf => ?_) hK
  obtain ⟨e1, b1⟩ := ev_sound hf hx
  obtain ⟨e2, _⟩ := ev_sound hf hh
  refine ⟨run_slice_op ho ?_, b1⟩
  simp only [Option.map_none, Option.map_some, e1, e2, den]
  rw [run_sliceAt_slice W t _ _ _ _ (by rw [he]; exact hu), run_slice_h W t _ m c (by rw [he]; exact hu) k (Int.ofNat j) (by simp) (by simpa using hj), he, run_sizeOf hs]
  simp [Result.andThen, sliced, addr_add']
end
end Go.Vg
