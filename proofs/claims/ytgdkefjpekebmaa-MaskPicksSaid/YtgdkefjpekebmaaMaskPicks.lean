/-
  This text proves that the statement 'curvetlaw2.MaskPicks' returns true for all its inputs, which read afterwards as before. Condition: none beyond what the statement's row says.
-/
import Derived.Test.YtgdkefjpekebmaaRB
import Derived.Test.YtgdkefjpekebmaaMe
import Derived.Test.YtgdkefjpekebmaaRN
import Derived.Test.YtgdkefjpekebmaaRows
namespace Go.Proofs.Ytgdkefjpekebmaa.maskPicks
open Go.ChangeShapes Go.WideShapes Go.ChangeAt Go.RowKit
set_option linter.unusedVariables false
theorem own : ownKnob Try.prog.godebug = none := by kernel_rfl
theorem laid : laidOutB Try.prog = true := by kernel_rfl
theorem kinds : ∀ t ∈ Try.f6.params.toList, Try.prog.readableRec t = true ∧ t < Try.prog.types.size := by
  have h : (Try.f6.params.toList.all fun t => Try.prog.readableRec t && decide (t < Try.prog.types.size)) = true := by kernel_rfl
  intro t ht
  simpa using List.all_eq_true.1 h t ht
set_option maxRecDepth 100000 in
theorem lifted (os : Os) (started : os.Started) (H : Type) (enc : TypeId × Value → H) :
    ReturnsInHanded {} Try.checked os 6 .any (Rows.maskPicksSpec.pre6 enc Try.prog Try.f6 Rows.maskPicksRow.domain false) (Rows.maskPicksSpec.post enc Try.prog Try.f6 false true false false) := by
  refine returnsInHanded_of_change (C := Try.checked) own started (by kernel_rfl) Try.func6
    (ChangeSpec.witness6 (enc := enc) (C := Try.checked) false ⟨#[], #[.int .u64 0, .agg #[.int .u64 0, .int .u64 0, .int .u64 0, .int .u64 0, .int .u64 0, .int .u64 0, .int .u64 0, .int .u64 0, .int .u64 0], .agg #[.int .u64 0, .int .u64 0, .int .u64 0, .int .u64 0, .int .u64 0, .int .u64 0, .int .u64 0, .int .u64 0, .int .u64 0]], []⟩ 8 (by kernel_rfl) (by kernel_rfl) (by kernel_rfl) (by kernel_rfl)) ?_
  intro W base args ds gs before hval0 hW hcnd _
  have hval : ∀ (j : Nat) t v, Try.f6.params[j]? = some t → args[j]? = some v → Value.okWide Try.prog W .any base t v := hval0
  have hsize : args.size = Try.f6.params.size := by
    obtain ⟨p, q, hA, _⟩ := hW
    have h := (trodAll_length hA).1
    simpa using h
  rw [Try.params6] at hval hsize
  obtain ⟨v0, v1, v2, rfl⟩ := args3 hsize
  have k0 := hval 0 22 v0 rfl rfl
  simp only [Value.okWide, Try.underlying22] at k0
  obtain ⟨m, rfl, h0⟩ := open_word Try.underlying22 k0
  obtain ⟨a, rfl, h1⟩ := open_nat (hval 1 35 v1 rfl rfl)
  obtain ⟨b, rfl, h2⟩ := open_nat (hval 2 35 v2 rfl rfl)
  have walked := picks_any (fun k => a k) (fun k => b k) m W
  refine walked.mono fun e W' ⟨he, hB⟩ => ?_
  subst he
  exact ⟨_, rfl, true_post 4 laid kinds rfl Try.underlying4 (by kernel_rfl) (fun ds h => by rw [Try.params6] at h; match ds, h with | [d1, d2, d3], _ => rfl) hW hB⟩
theorem over : Rows.maskPicksRow.holds Try.pinned (OpenSpec.ofChange Rows.maskPicksSpec) :=
  OpenClaim.holds_of_wide 6 Try.f6 rfl rfl rfl rfl rfl rfl rfl ⟨rfl, rfl, rfl, rfl, rfl⟩ rfl rfl rfl rfl rfl (by kernel_rfl) Try.func6 (by kernel_rfl)
    (of_decide_eq_true (by kernel_rfl)) (by unfold Func.isWrapper; first | (rw [if_pos (by decide +kernel)]; kernel_rfl) | (rw [if_neg (by decide +kernel)]; exact ⟨rfl, rfl⟩))
    (fun os started H enc _ => lifted os started H enc)
theorem proved : Rows.MaskPicksSaid :=
  over
#print axioms proved
end Go.Proofs.Ytgdkefjpekebmaa.maskPicks
