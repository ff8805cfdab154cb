/-
  This text proves that the statement 'curvetlaw2.Masks' returns true for all its inputs, which read afterwards as before. Condition: none beyond what the statement's row says.
-/
import Derived.Test.YtgdkefjpekebmaaRB
import Derived.Test.YtgdkefjpekebmaaMf
import Derived.Test.YtgdkefjpekebmaaRows
namespace Go.Proofs.Ytgdkefjpekebmaa.masks
open Go.ChangeShapes Go.WideShapes Go.ChangeAt Go.RowKit
set_option linter.unusedVariables false
theorem own : ownKnob Try.prog.godebug = none := by kernel_rfl
theorem laid : laidOutB Try.prog = true := by kernel_rfl
theorem kinds : ∀ t ∈ Try.f3.params.toList, Try.prog.readableRec t = true ∧ t < Try.prog.types.size := by
  have h : (Try.f3.params.toList.all fun t => Try.prog.readableRec t && decide (t < Try.prog.types.size)) = true := by kernel_rfl
  intro t ht
  simpa using List.all_eq_true.1 h t ht
set_option maxRecDepth 100000 in
theorem lifted (os : Os) (started : os.Started) (H : Type) (enc : TypeId × Value → H) :
    ReturnsInHanded {} Try.checked os 3 .any (Rows.masksSpec.pre6 enc Try.prog Try.f3 Rows.masksRow.domain false) (Rows.masksSpec.post enc Try.prog Try.f3 false true false false) := by
  refine returnsInHanded_of_change (C := Try.checked) own started (by kernel_rfl) Try.func3
    (ChangeSpec.witness6 (enc := enc) (C := Try.checked) false ⟨#[], #[.int .u64 0, .int .u64 0, .string ⟨#[]⟩, .string ⟨#[]⟩], []⟩ 8 (by kernel_rfl) (by kernel_rfl) (by kernel_rfl) (by kernel_rfl)) ?_
  intro W base args ds gs before hval0 hW hcnd _
  have hval : ∀ (j : Nat) t v, Try.f3.params[j]? = some t → args[j]? = some v → Value.okWide Try.prog W .any base t v := hval0
  have hsize : args.size = Try.f3.params.size := by
    obtain ⟨p, q, hA, _⟩ := hW
    have h := (trodAll_length hA).1
    simpa using h
  rw [Try.params3] at hval hsize
  obtain ⟨v0, v1, v2, v3, rfl⟩ := args4 hsize
  have k0 := hval 0 22 v0 rfl rfl
  have k1 := hval 1 22 v1 rfl rfl
  have k2 := hval 2 9 v2 rfl rfl
  have k3 := hval 3 9 v3 rfl rfl
  simp only [Value.okWide, Try.underlying22] at k0 k1
  obtain ⟨n0, rfl, h0⟩ := open_word Try.underlying22 k0
  obtain ⟨n1, rfl, h1⟩ := open_word Try.underlying22 k1
  obtain ⟨s, rfl, h2⟩ := open_text Try.underlying9 k2
  obtain ⟨t, rfl, h3⟩ := open_text Try.underlying9 k3
  have walked := masks_any n0 n1 s t h0 h1 h2 h3 W
  refine walked.mono fun e W' ⟨he, hB⟩ => ?_
  subst he
  exact ⟨_, rfl, true_post 4 laid kinds rfl Try.underlying4 (by kernel_rfl) (fun ds h => by rw [Try.params3] at h; match ds, h with | [d1, d2, d3, d4], _ => rfl) hW hB⟩
theorem over : Rows.masksRow.holds Try.pinned (OpenSpec.ofChange Rows.masksSpec) :=
  OpenClaim.holds_of_wide 3 Try.f3 rfl rfl rfl rfl rfl rfl rfl ⟨rfl, rfl, rfl, rfl, rfl⟩ rfl rfl rfl rfl rfl (by kernel_rfl) Try.func3 (by kernel_rfl)
    (of_decide_eq_true (by kernel_rfl)) (by unfold Func.isWrapper; first | (rw [if_pos (by decide +kernel)]; kernel_rfl) | (rw [if_neg (by decide +kernel)]; exact ⟨rfl, rfl⟩))
    (fun os started H enc _ => lifted os started H enc)
theorem proved : Rows.MasksSaid :=
  over
#print axioms proved
end Go.Proofs.Ytgdkefjpekebmaa.masks
