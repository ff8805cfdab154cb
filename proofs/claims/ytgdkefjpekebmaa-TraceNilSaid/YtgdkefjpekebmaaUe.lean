/-
  This text proves that the statement on a recorder that is none returns true. Condition: none.
-/
import Derived.Test.YtgdkefjpekebmaaUd
namespace Go.Proofs.Ytgdkefjpekebmaa
open Go.Vg
set_option maxRecDepth 200000
set_option cbv.maxSteps 100000000
theorem cTraceNil {P : Program} (hP : P = Try.prog) (i : Int) : Con P 9 [.int .i64 i] [] 0 [] (fun v _ _ => v = .bool true) := by
  refine Con.of (hP ▸ tblOk) (hP ▸ Try.func9) rfl rfl rfl rfl (by decide) rfl rfl ⟨trivial, trivial⟩ (by simp) ?_
  intro A g K hA hg hK
  obtain ⟨bin, sh, cmp, una, cvt, ix, nn, nz, bnot, beq, scat, scmp, slen, six, nat, off, get, set, sub, spl⟩ := A
  have k0 : cmp .eql 0 0 = true := (eql_of hA _ _).trans rfl
  have k1 : cmp .eql 1 1 = true := (eql_of hA _ _).trans rfl
  cbv
  refine call_val rfl hg rfl rfl (cAwake3 hP) ?_
  rintro _ _ _ rfl
  refine ⟨trivial, ?_⟩
  cbv
  rw [show bnot true = false from bnot_of hA true]
  cbv
  refine call_val rfl hg rfl rfl (cBranchN hP _) ?_
  rintro _ _ _ rfl
  refine ⟨trivial, ?_⟩
  cbv
  refine call_val rfl hg rfl rfl (cIndexN hP _) ?_
  rintro _ _ _ rfl
  refine ⟨trivial, ?_⟩
  cbv
  refine call_val rfl hg rfl rfl (cNum hP 1) ?_
  rintro _ _ _ rfl
  refine ⟨trivial, ?_⟩
  cbv
  rw [k1]
  cbv
  refine call_val rfl hg rfl rfl (cNum hP 1) ?_
  rintro _ _ _ rfl
  refine ⟨trivial, ?_⟩
  cbv
  rw [k1]
  cbv
  refine call_val rfl hg rfl rfl (cLenN hP) ?_
  rintro _ _ _ rfl
  refine ⟨trivial, ?_⟩
  cbv
  rw [k0]
  cbv
  refine call_val rfl hg rfl rfl (cEventsN hP) ?_
  rintro _ _ _ rfl
  refine ⟨trivial, ?_⟩
  cbv
  rw [k0]
  cbv
  exact hK _ _ _ rfl
end Go.Proofs.Ytgdkefjpekebmaa
