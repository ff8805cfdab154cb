/-
  This text proves that the statement 'curvetlaw3.TraceKinds' returns true for all its inputs, which read afterwards as before. Condition: none beyond what the statement's row says.
-/
import Derived.Test.YtgdkefjpekebmaaRC
import Derived.Test.YtgdkefjpekebmaaUf
import Derived.Test.YtgdkefjpekebmaaRows
namespace Go.Proofs.Ytgdkefjpekebmaa.traceKinds
open Go.ChangeShapes Go.WideShapes Go.ChangeAt Go.RowKit
set_option linter.unusedVariables false
theorem own : ownKnob Try.prog.godebug = none := by kernel_rfl
theorem laid : laidOutB Try.prog = true := by kernel_rfl
theorem kinds : ∀ t ∈ Try.f11.params.toList, Try.prog.readableRec t = true ∧ t < Try.prog.types.size := by
  have h : (Try.f11.params.toList.all fun t => Try.prog.readableRec t && decide (t < Try.prog.types.size)) = true := by kernel_rfl
  intro t ht
  simpa using List.all_eq_true.1 h t ht
set_option maxRecDepth 100000 in
theorem lifted (os : Os) (started : os.Started) (H : Type) (enc : TypeId × Value → H) :
    ReturnsInHanded {} Try.checked os 11 .any (Rows.traceKindsSpec.pre6 enc Try.prog Try.f11 Rows.traceKindsRow.domain false) (Rows.traceKindsSpec.post enc Try.prog Try.f11 false true false false) := by
  refine returnsInHanded_of_change_shaped (C := Try.checked) own started (by kernel_rfl) Try.func11
    (ChangeSpec.witness6 (enc := enc) (C := Try.checked) false ⟨#[], #[.int .i64 0, .bool false], []⟩ 8 (by kernel_rfl) (by kernel_rfl) (by kernel_rfl) (by kernel_rfl)) ?_
  intro W base args ds gs before hval0 hW hcnd hsz hshaped _
  have hval : ∀ (j : Nat) t v, Try.f11.params[j]? = some t → args[j]? = some v → Value.okWide Try.prog W .any base t v := hval0
  have hsize : args.size = Try.f11.params.size := by
    obtain ⟨p, q, hA, _⟩ := hW
    have h := (trodAll_length hA).1
    simpa using h
  obtain ⟨_, _, hA, _⟩ := id hW
  rw [Try.params11] at hval hsize hA hsz
  obtain ⟨v0, v1, rfl⟩ := args2 hsize
  have k0 := hval 0 3 v0 rfl rfl
  have k1 := hval 1 4 v1 rfl rfl
  simp only [Value.okWide, Try.underlying3] at k0
  simp only [Value.okWide, Try.underlying4] at k1
  obtain ⟨n0, rfl, _⟩ := open_i64 Try.underlying3 k0
  obtain ⟨b0, rfl⟩ := open_bit Try.underlying4 k1
  have walked := Vg.Con.calls (cKinds rfl n0 b0) (fun _ _ _ h => h) trivial W
  refine walked.mono fun e W' ⟨he, hB⟩ => ?_
  subst he
  exact ⟨_, rfl, true_post 4 laid kinds rfl Try.underlying4 (by kernel_rfl) (fun ds h => by rw [Try.params11] at h; match ds, h with | [d1, d2], _ => rfl) hW hB⟩
theorem over : Rows.traceKindsRow.holds Try.pinned (OpenSpec.ofChange Rows.traceKindsSpec) :=
  OpenClaim.holds_of_wide 11 Try.f11 rfl rfl rfl rfl rfl rfl rfl ⟨rfl, rfl, rfl, rfl, rfl⟩ rfl rfl rfl rfl rfl (by kernel_rfl) Try.func11 (by kernel_rfl)
    (of_decide_eq_true (by kernel_rfl)) (by unfold Func.isWrapper; first | (rw [if_pos (by decide +kernel)]; kernel_rfl) | (rw [if_neg (by decide +kernel)]; exact ⟨rfl, rfl⟩))
    (fun os started H enc _ => lifted os started H enc)
theorem proved : Rows.TraceKindsSaid :=
  over
#print axioms proved
end Go.Proofs.Ytgdkefjpekebmaa.traceKinds
