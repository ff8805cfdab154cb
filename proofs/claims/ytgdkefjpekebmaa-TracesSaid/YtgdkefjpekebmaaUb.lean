/-
  This text proves contracts of package trace and of what the statements over it call: copies, comparisons, numbers. Condition: rows are not too long.
-/
import Derived.Test.YtgdkefjpekebmaaUa
import Derived.Laws.StructEq
namespace Go.Proofs.Ytgdkefjpekebmaa
open Go.Vg
set_option maxRecDepth 200000
set_option cbv.maxSteps 100000000
theorem cNum {P : Program} (hP : P = Try.prog) (i : Int) : Con P 20 [.int .i64 i] [] 0 [] (fun v _ _ => v = .int .i64 i) := by
  refine Con.of (hP ▸ tblOk) (hP ▸ Try.func20) rfl rfl rfl rfl (by decide) rfl rfl ⟨trivial, trivial⟩ (by simp) ?_
  intro A g K hA hg hK
  cbv
  exact hK _ _ _ rfl
theorem cClone {P : Program} (hP : P = Try.prog) (o k c : Nat) (C : List SV) (hC : 0 < k → o + k * 2 ≤ C.length) (hk : k * 16 ≤ 140737488355328) (bC : ∀ m, bdLB m C = true) (h1 : ones ((C.drop o).take (k * 2)) = true) :
    Con P 36 [.slice 0 o k c] [⟨0, C, 46⟩] 1 []
      (fun v L n => ∃ c' tail, v = .slice 2 0 k c' ∧ k ≤ c' ∧ c' ≤ maxLen ∧ tail.length = (c' - k) * 2 ∧ (∀ q, bdLB q tail = true) ∧ L = [⟨0, C, 46⟩, ⟨2, (C.drop o).take (k * 2) ++ tail, 46⟩] ∧ n = 3) := by
  refine Con.of (hP ▸ tblOk) (hP ▸ Try.func36) rfl rfl rfl rfl (by decide) rfl rfl ⟨Nat.zero_lt_succ _, trivial⟩ (by simpa using bdLB_bd _ (bC 1)) ?_
  intro A g K hA hg hK
  obtain ⟨bin, sh, cmp, una, cvt, ix, nn, nz, bnot, beq, scat, scmp, slen, six, nat, off, get, set, sub, spl⟩ := A
  cbv
  refine step_buildSlice0 (hP ▸ tblOk) hg rfl rfl (show tyT 42 = some _ from rfl) rfl ?_
  cbv
  refine step_append_own0 (hP ▸ tblOk) hg rfl rfl (show tyT 42 = some _ from rfl) rfl (show tyT 46 = some _ from rfl) (bytesEv hP) (by decide) (show ev _ _ = some (.slice 1 0 0 0) from rfl) (show find _ 1 = some _ from rfl) rfl (Nat.le_refl 0) rfl (by decide) (show ev _ _ = some (.slice 0 o k c) from rfl) (show find _ 0 = some _ from rfl) hC h1 (by simp only [maxLen]; omega) (by omega) ?_
  intro c' tail g1 g2 g3 g4
  rw [Nat.zero_add] at g1 g3 ⊢
  simp only [Nat.zero_mul, List.take_zero, List.nil_append]
  generalize hX : (C.drop o).take (k * 2) ++ tail = X
  cbv
  refine hK _ _ _ ⟨c', tail, rfl, g1, g2, g3, fun q => g4 q rfl rfl, ?_, rfl⟩
  rw [hX]
theorem cEvents0 {P : Program} (hP : P = Try.prog) : Con P 24 [.ptr 0 0] [⟨0, [.nils], 62⟩] 1 [] (fun v _ _ => v = .nils) := by
  have hcl : Con P 36 [.nils] [] 0 [] (fun v _ _ => v = .nils) := by
    refine Con.of (hP ▸ tblOk) (hP ▸ Try.func36) rfl rfl rfl rfl (by decide) rfl rfl ⟨trivial, trivial⟩ (by simp) ?_
    intro A g K hA hg hK
    obtain ⟨bin, sh, cmp, una, cvt, ix, nn, nz, bnot, beq, scat, scmp, slen, six, nat, off, get, set, sub, spl⟩ := A
    cbv
    exact hK _ _ _ rfl
  refine Con.of (hP ▸ tblOk) (hP ▸ Try.func24) rfl rfl rfl rfl (by decide) rfl rfl ⟨Nat.zero_lt_succ _, trivial⟩ (by simp [bdL, bd]) ?_
  intro A g K hA hg hK
  obtain ⟨bin, sh, cmp, una, cvt, ix, nn, nz, bnot, beq, scat, scmp, slen, six, nat, off, get, set, sub, spl⟩ := A
  cbv
  refine call_val rfl hg rfl rfl hcl ?_
  rintro _ _ _ rfl
  refine ⟨trivial, ?_⟩
  cbv
  exact hK _ _ _ rfl
theorem cEvents {P : Program} (hP : P = Try.prog) (k c : Nat) (C : List SV) (hC : k * 2 ≤ C.length) (hk : k * 16 ≤ 140737488355328) (bC : ∀ m, bdLB m C = true) (h1 : ones (C.take (k * 2)) = true) :
    Con P 24 [.ptr 0 0] [⟨0, [.slice 1 0 k c], 62⟩, ⟨1, C, 46⟩] 2 []
      (fun v L n => ∃ c' tail, v = .slice 3 0 k c' ∧ k ≤ c' ∧ c' ≤ maxLen ∧ tail.length = (c' - k) * 2 ∧ (∀ q, bdLB q tail = true) ∧ L = [⟨0, [.slice 1 0 k c], 62⟩, ⟨1, C, 46⟩, ⟨3, C.take (k * 2) ++ tail, 46⟩] ∧ n = 4) := by
  refine Con.of (hP ▸ tblOk) (hP ▸ Try.func24) rfl rfl rfl rfl (by decide) rfl rfl ⟨Nat.zero_lt_succ _, trivial⟩ (by simpa [bdL, bd] using bdLB_bd _ (bC 2)) ?_
  intro A g K hA hg hK
  obtain ⟨bin, sh, cmp, una, cvt, ix, nn, nz, bnot, beq, scat, scmp, slen, six, nat, off, get, set, sub, spl⟩ := A
  cbv
  refine call_gen rfl hg rfl rfl (cClone hP 0 k c C (fun _ => by omega) hk bC (by simpa using h1)) (fun l => l + 1) rfl ⟨by rw [renL_cl C (bC 0)]; rfl, trivial⟩ rfl rfl rfl ?_
  rintro v L1 n1 ⟨c', tail, rfl, g1, g2, g3, g4, rfl, rfl⟩ _
  refine ⟨rfl, ?_⟩
  rw [List.drop_zero]
  have e1 : ∀ r, renL r C = C := fun r => renL_cl C (bC 0)
  have e2 : ∀ r, renL r (C.take (k * 2) ++ tail) = C.take (k * 2) ++ tail := fun r => renL_cl _ (bdLB_append (bdLB_take (bC 0)) (g4 0))
  generalize hX : C.take (k * 2) ++ tail = X at e2 ⊢
  simp only [renB, e1, e2]
  cbv
  exact hK _ _ _ ⟨c', tail, rfl, g1, g2, g3, g4, by rw [hX], rfl⟩
theorem eq_ev (a b c d : Int) (w : World) : (Op.equalIn 10000 46 (.agg #[.int .i64 a, .int .i64 b]) (.agg #[.int .i64 c, .int .i64 d])).run Try.prog w = .ok (a == c && b == d) w := by
  rw [run_equalIn_struct w 9999 46 _ _ (by kernel_rfl) (by kernel_rfl)]
  have hf : (Try.prog.fieldsOf 46).toList = [{ name := "Kind", type := 3, offset := 0, embedded := false, tag := "", pkgPath := "", byteOffset := 0 }, { name := "At", type := 3, offset := 1, embedded := false, tag := "", pkgPath := "", byteOffset := 8 }] := by kernel_rfl
  have hi : ∀ w, (isAgg 3).run Try.prog w = .ok false w := fun w => by kernel_rfl
  have hp : ∀ x y : Int, (part 3 #[.int .i64 x, .int .i64 y] 0).run Try.prog w = .ok (.int .i64 x) w := fun x y => part_cell (hi w) rfl
  have hq : ∀ x y : Int, (part 3 #[.int .i64 x, .int .i64 y] 1).run Try.prog w = .ok (.int .i64 y) w := fun x y => part_cell (hi w) rfl
  have he : ∀ x y : Int, (Op.equalIn 9999 3 (.int .i64 x) (.int .i64 y)).run Try.prog w = .ok (x == y) w := fun x y => run_equalIn_int w 9998 3 .i64 .i64 x y Try.underlying3
  rw [hf]
  simp only [Op.eqFields, Sem.run_bind, Sem.run_ite, hp, hq, he, Result.andThen_ok]
  cases a == c <;> cases b == d <;> rfl
theorem en_neq_ev {P : Program} (hP : P = Try.prog) {g : G} {o : Oper} {x y : Operand} {yt : TypeId} (ho : o.op = .binOp .neq 46 x y yt) {m0 N : Nat} {ms : List Nat} (hg : GI g m0 ms N) (hd' : dstLt N o.dst = true) {F : Nat → Option SV} {M : Nat → Option Blk} {a b c d : Int}
    (hx : ev F x = some (.agg [.int .i64 a, .int .i64 b])) (hy : ev F y = some (.agg [.int .i64 c, .int .i64 d])) : EN g P o F M (.bool (!(a == c && b == d))) [] := by
  subst hP
  refine en_out hg hd' fun β p F' L' act W hF hM hm hf => ?_
  have E : ∀ z ∈ o.op.operands.toList, ev F' z = ev F z := fun z hz => ev_congr fun t ht => hF t (tmpsL_mem hz ht)
  rw [ho] at E
  obtain ⟨e1, _⟩ := ev_sound hf ((E x (by simp [Op.operands])).trans hx)
  obtain ⟨e2, _⟩ := ev_sound hf ((E y (by simp [Op.operands])).trans hy)
  refine ⟨?_, trivial⟩
  have h1 : act.eval x = .agg #[.int .i64 a, .int .i64 b] := e1
  have h2 : act.eval y = .agg #[.int .i64 c, .int .i64 d] := e2
  have h4 : Try.prog.eqGuardType Try.prog.depth 46 = false := by kernel_rfl
  have h3 : ∀ xs ys, (eqGuard .neq 46 x y (.agg xs) (.agg ys)).run Try.prog W = .ok () W := fun xs ys => run_eqGuard_agg W .neq 46 x y xs ys h4
  unfold execOp
  simp only [ho, h1, h2, Sem.run_bind, h3, Result.andThen_ok, run_neq_struct, eq_ev, Sem.run_pure, den]
end Go.Proofs.Ytgdkefjpekebmaa
