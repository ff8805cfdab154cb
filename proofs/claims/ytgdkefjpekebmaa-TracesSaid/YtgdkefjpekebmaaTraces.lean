/-
  This text proves that the statement 'curvetlaw3.Traces' returns true for all its inputs, which read afterwards as before. Condition: none beyond what the statement's row says.
-/
import Derived.Test.YtgdkefjpekebmaaRD
import Derived.Test.YtgdkefjpekebmaaUj
import Derived.Test.YtgdkefjpekebmaaRows
namespace Go.Proofs.Ytgdkefjpekebmaa.traces
open Go.ChangeShapes Go.WideShapes Go.ChangeAt Go.RowKit
set_option linter.unusedVariables false
theorem own : ownKnob Try.prog.godebug = none := by kernel_rfl
theorem laid : laidOutB Try.prog = true := by kernel_rfl
theorem kinds : ∀ t ∈ Try.f8.params.toList, Try.prog.readableRec t = true ∧ t < Try.prog.types.size := by
  have h : (Try.f8.params.toList.all fun t => Try.prog.readableRec t && decide (t < Try.prog.types.size)) = true := by kernel_rfl
  intro t ht
  simpa using List.all_eq_true.1 h t ht
set_option maxRecDepth 100000 in
theorem lifted (os : Os) (started : os.Started) (H : Type) (enc : TypeId × Value → H) :
    ReturnsInHanded {} Try.checked os 8 .any (Rows.tracesSpec.pre6 enc Try.prog Try.f8 Rows.tracesRow.domain false) (Rows.tracesSpec.post enc Try.prog Try.f8 false true false false) := by
  refine returnsInHanded_of_change_shaped (C := Try.checked) own started (by kernel_rfl) Try.func8
    (ChangeSpec.witness6 (enc := enc) (C := Try.checked) false ⟨#[], #[.slice none 0 0, .slice none 0 0], []⟩ 8 (by kernel_rfl) (by kernel_rfl) (by kernel_rfl) (by kernel_rfl)) ?_
  intro W base args ds gs before hval0 hW hcnd hsz hshaped _
  have hval : ∀ (j : Nat) t v, Try.f8.params[j]? = some t → args[j]? = some v → Value.okWide Try.prog W .any base t v := hval0
  have hsize : args.size = Try.f8.params.size := by
    obtain ⟨p, q, hA, _⟩ := hW
    have h := (trodAll_length hA).1
    simpa using h
  obtain ⟨_, _, hA, _⟩ := id hW
  rw [Try.params8] at hval hsize hA hsz
  obtain ⟨v0, v1, rfl⟩ := args2 hsize
  have k0 := hval 0 42 v0 rfl rfl
  have k1 := hval 1 42 v1 rfl rfl
  have walked : Calls Try.prog 8 #[v0, v1] W fun e W' => e = .returned (.bool true) ∧ Below W.heap.size W W' := by
    rcases open_pairs (j := 0) (e := 46) (it := 3) hA hsz rfl rfl Try.underlying42 Try.underlying46 (by kernel_rfl) rfl rfl rfl rfl Try.underlying3 (by kernel_rfl) (B := 16) (by kernel_rfl) k0 with rfl | ⟨b, o, n, c, cs, te, fr, ea, eb, rfl, hnc, hcm, hnb, hcell, hlen, hpair⟩ <;>
    rcases open_pairs (j := 1) (e := 46) (it := 3) hA hsz rfl rfl Try.underlying42 Try.underlying46 (by kernel_rfl) rfl rfl rfl rfl Try.underlying3 (by kernel_rfl) (B := 16) (by kernel_rfl) k1 with rfl | ⟨b', o', n', c', cs', te', fr', ea', eb', rfl, hnc', hcm', hnb', hcell', hlen', hpair'⟩
    · exact Vg.Con.calls (cTracesNN rfl) (fun _ _ _ h => h) trivial W
    · refine Vg.Con.calls_ro (β0 := fun _ => b') (cTracesNS (t' := te') rfl o' n' c' (Vg.toSVs cs') hlen' hnb' ea' eb' hpair' (fun m => Vg.bdLB_map m _)) (fun _ _ _ h => h) trivial ⟨fun x hx y hy hm => (by cases hm), ?_⟩
      rintro x hx
      simp only [List.mem_singleton] at hx
      subst hx
      exact ⟨fr', fun h => (by cases h), (by rw [Vg.denL_toSVs]; exact hcell')⟩
    · refine Vg.Con.calls_ro (β0 := fun _ => b) (cTracesSN (t := te) rfl o n c (Vg.toSVs cs) hlen hnb ea eb hpair (fun m => Vg.bdLB_map m _)) (fun _ _ _ h => h) trivial ⟨fun x hx y hy hm => (by cases hm), ?_⟩
      rintro x hx
      simp only [List.mem_singleton] at hx
      subst hx
      exact ⟨fr, fun h => (by cases h), (by rw [Vg.denL_toSVs]; exact hcell)⟩
    · refine Vg.Con.calls_ro (β0 := fun l => if l = 0 then b else b') (cTracesSS (t := te) (t' := te') rfl o n c (Vg.toSVs cs) hlen hnb ea eb hpair (fun m => Vg.bdLB_map m _) o' n' c' (Vg.toSVs cs') hlen' hnb' ea' eb' hpair' (fun m => Vg.bdLB_map m _)) (fun _ _ _ h => h) trivial ⟨fun x hx y hy hm => (by cases hm), ?_⟩
      rintro x hx
      simp only [List.mem_cons, List.not_mem_nil, or_false] at hx
      rcases hx with rfl | rfl
      · exact ⟨fr, fun h => (by cases h), (by rw [Vg.denL_toSVs]; exact hcell)⟩
      · exact ⟨fr', fun h => (by cases h), (by rw [Vg.denL_toSVs]; exact hcell')⟩
  refine walked.mono fun e W' ⟨he, hB⟩ => ?_
  subst he
  exact ⟨_, rfl, true_post 4 laid kinds rfl Try.underlying4 (by kernel_rfl) (fun ds h => by rw [Try.params8] at h; match ds, h with | [d1, d2], _ => rfl) hW hB⟩
theorem over : Rows.tracesRow.holds Try.pinned (OpenSpec.ofChange Rows.tracesSpec) :=
  OpenClaim.holds_of_wide 8 Try.f8 rfl rfl rfl rfl rfl rfl rfl ⟨rfl, rfl, rfl, rfl, rfl⟩ rfl rfl rfl rfl rfl (by kernel_rfl) Try.func8 (by kernel_rfl)
    (of_decide_eq_true (by kernel_rfl)) (by unfold Func.isWrapper; first | (rw [if_pos (by decide +kernel)]; kernel_rfl) | (rw [if_neg (by decide +kernel)]; exact ⟨rfl, rfl⟩))
    (fun os started H enc _ => lifted os started H enc)
theorem proved : Rows.TracesSaid :=
  over
#print axioms proved
end Go.Proofs.Ytgdkefjpekebmaa.traces
