/-
  This text proves contracts of package trace: what a recorder does. Condition: the recorder's row is its own, and not too long.
-/
import Derived.Test.YtgdkefjpekebmaaVgT
import Derived.Test.YtgdkefjpekebmaaVgU
namespace Go.Proofs.Ytgdkefjpekebmaa
open Go.Vg
set_option maxRecDepth 200000
set_option cbv.maxSteps 100000000
theorem cNew {P : Program} (hP : P = Try.prog) : Con P 21 [] [] 0 [] (fun v L n => v = .ptr 0 0 ∧ L = [⟨0, [.nils], 62⟩] ∧ n = 1) := by
  refine Con.of (hP ▸ tblOk) (hP ▸ Try.func21) rfl rfl rfl rfl (by decide) rfl rfl trivial (by simp) ?_
  intro A g K hA hg hK
  cbv
  exact hK _ _ _ ⟨rfl, rfl, rfl⟩
theorem bytesEv {P : Program} (hP : P = Try.prog) : (P.info? 46).map (·.bytes) = some 16 := by
  subst hP
  kernel_rfl
theorem cIndex {P : Program} (hP : P = Try.prog) (i : Int) (k c : Nat) (C : List SV) (hC : C.length = c * 2) (hkc : k ≤ c) (hc : c ≤ maxLen) (hk : (k + 1) * 16 ≤ 140737488355328) (bC : ∀ m, bdLB m C = true) :
    Con P 22 [.ptr 0 0, .int .i64 i] [⟨0, [.slice 1 0 k c], 62⟩, ⟨1, C, 46⟩] 2 [0, 1]
      (fun v L n => v = .int .i64 0 ∧ ∃ c' tail, k + 1 ≤ c' ∧ c' ≤ maxLen ∧ tail.length = (c' - (k + 1)) * 2 ∧ (∀ q, bdLB q tail = true) ∧ L = [⟨0, [.slice 3 0 (k + 1) c'], 62⟩, ⟨2, [.int .i64 2, .int .i64 i], 46⟩, ⟨3, C.take (k * 2) ++ [.int .i64 2, .int .i64 i] ++ tail, 46⟩] ∧ n = 4) := by
  refine Con.of (hP ▸ tblOk) (hP ▸ Try.func22) rfl rfl rfl rfl (by decide) rfl rfl ⟨Nat.zero_lt_succ _, trivial, trivial⟩ (by simpa [bdL, bd] using bdLB_bd _ (bC 2)) ?_
  intro A g K hA hg hK
  obtain ⟨bin, sh, cmp, una, cvt, ix, nn, nz, bnot, beq, scat, scmp, slen, six, nat, off, get, set, sub, spl⟩ := A
  cbv
  refine step_append_own (hP ▸ tblOk) hg rfl rfl (show tyT 42 = some _ from rfl) rfl (show tyT 46 = some _ from rfl) (bytesEv hP) (by decide) (show ev _ _ = some (.slice 1 0 k c) from rfl) (show find _ 1 = some _ from rfl) rfl hkc hC hc (show ev _ _ = some (.slice 2 0 1 1) from rfl) (show find _ 2 = some _ from rfl) (by exact Nat.le_refl 2) rfl (by simp only [maxLen]; omega) hk ?_
  intro c' tail h1 h2 h3 h4
  simp only [List.drop_zero, Nat.reduceMul, List.take_succ_cons, List.take_zero]
  generalize hX : C.take (k * 2) ++ [.int .i64 2, .int .i64 i] ++ tail = X
  generalize hk1 : k + 1 = k1 at h1 h2 h3 ⊢
  cbv
  refine hK _ _ _ ⟨rfl, c', tail, hk1 ▸ h1, h2, hk1 ▸ h3, fun q => h4 q (bC q) rfl, ?_, rfl⟩
  rw [hX, hk1]
theorem cBranchT {P : Program} (hP : P = Try.prog) (k c : Nat) (C : List SV) (hC : C.length = c * 2) (hkc : k ≤ c) (hc : c ≤ maxLen) (hk : (k + 1) * 16 ≤ 140737488355328) (bC : ∀ m, bdLB m C = true) :
    Con P 23 [.ptr 0 0, .bool true] [⟨0, [.slice 1 0 k c], 62⟩, ⟨1, C, 46⟩] 2 [0, 1]
      (fun v L n => v = .int .i64 0 ∧ ∃ c' tail, k + 1 ≤ c' ∧ c' ≤ maxLen ∧ tail.length = (c' - (k + 1)) * 2 ∧ (∀ q, bdLB q tail = true) ∧ L = [⟨0, [.slice 3 0 (k + 1) c'], 62⟩, ⟨2, [.int .i64 1, .int .i64 1], 46⟩, ⟨3, C.take (k * 2) ++ [.int .i64 1, .int .i64 1] ++ tail, 46⟩] ∧ n = 4) := by
  refine Con.of (hP ▸ tblOk) (hP ▸ Try.func23) rfl rfl rfl rfl (by decide) rfl rfl ⟨Nat.zero_lt_succ _, trivial, trivial⟩ (by simpa [bdL, bd] using bdLB_bd _ (bC 2)) ?_
  intro A g K hA hg hK
  obtain ⟨bin, sh, cmp, una, cvt, ix, nn, nz, bnot, beq, scat, scmp, slen, six, nat, off, get, set, sub, spl⟩ := A
  cbv
  refine step_append_own (hP ▸ tblOk) hg rfl rfl (show tyT 42 = some _ from rfl) rfl (show tyT 46 = some _ from rfl) (bytesEv hP) (by decide) (show ev _ _ = some (.slice 1 0 k c) from rfl) (show find _ 1 = some _ from rfl) rfl hkc hC hc (show ev _ _ = some (.slice 2 0 1 1) from rfl) (show find _ 2 = some _ from rfl) (by exact Nat.le_refl 2) rfl (by simp only [maxLen]; omega) hk ?_
  intro c' tail h1 h2 h3 h4
  simp only [List.drop_zero, Nat.reduceMul, List.take_succ_cons, List.take_zero]
  generalize hX : C.take (k * 2) ++ [.int .i64 1, .int .i64 1] ++ tail = X
  generalize hk1 : k + 1 = k1 at h1 h2 h3 ⊢
  cbv
  refine hK _ _ _ ⟨rfl, c', tail, hk1 ▸ h1, h2, hk1 ▸ h3, fun q => h4 q (bC q) rfl, ?_, rfl⟩
  rw [hX, hk1]
theorem cBranchF {P : Program} (hP : P = Try.prog) (k c : Nat) (C : List SV) (hC : C.length = c * 2) (hkc : k ≤ c) (hc : c ≤ maxLen) (hk : (k + 1) * 16 ≤ 140737488355328) (bC : ∀ m, bdLB m C = true) :
    Con P 23 [.ptr 0 0, .bool false] [⟨0, [.slice 1 0 k c], 62⟩, ⟨1, C, 46⟩] 2 [0, 1]
      (fun v L n => v = .int .i64 0 ∧ ∃ c' tail, k + 1 ≤ c' ∧ c' ≤ maxLen ∧ tail.length = (c' - (k + 1)) * 2 ∧ (∀ q, bdLB q tail = true) ∧ L = [⟨0, [.slice 3 0 (k + 1) c'], 62⟩, ⟨2, [.int .i64 1, .int .i64 0], 46⟩, ⟨3, C.take (k * 2) ++ [.int .i64 1, .int .i64 0] ++ tail, 46⟩] ∧ n = 4) := by
  refine Con.of (hP ▸ tblOk) (hP ▸ Try.func23) rfl rfl rfl rfl (by decide) rfl rfl ⟨Nat.zero_lt_succ _, trivial, trivial⟩ (by simpa [bdL, bd] using bdLB_bd _ (bC 2)) ?_
  intro A g K hA hg hK
  obtain ⟨bin, sh, cmp, una, cvt, ix, nn, nz, bnot, beq, scat, scmp, slen, six, nat, off, get, set, sub, spl⟩ := A
  cbv
  refine step_append_own (hP ▸ tblOk) hg rfl rfl (show tyT 42 = some _ from rfl) rfl (show tyT 46 = some _ from rfl) (bytesEv hP) (by decide) (show ev _ _ = some (.slice 1 0 k c) from rfl) (show find _ 1 = some _ from rfl) rfl hkc hC hc (show ev _ _ = some (.slice 2 0 1 1) from rfl) (show find _ 2 = some _ from rfl) (by exact Nat.le_refl 2) rfl (by simp only [maxLen]; omega) hk ?_
  intro c' tail h1 h2 h3 h4
  simp only [List.drop_zero, Nat.reduceMul, List.take_succ_cons, List.take_zero]
  generalize hX : C.take (k * 2) ++ [.int .i64 1, .int .i64 0] ++ tail = X
  generalize hk1 : k + 1 = k1 at h1 h2 h3 ⊢
  cbv
  refine hK _ _ _ ⟨rfl, c', tail, hk1 ▸ h1, h2, hk1 ▸ h3, fun q => h4 q (bC q) rfl, ?_, rfl⟩
  rw [hX, hk1]
theorem cIndex0 {P : Program} (hP : P = Try.prog) (i : Int) :
    Con P 22 [.ptr 0 0, .int .i64 i] [⟨0, [.nils], 62⟩] 1 [0]
      (fun v L n => v = .int .i64 0 ∧ ∃ c' tail, 1 ≤ c' ∧ c' ≤ maxLen ∧ tail.length = (c' - 1) * 2 ∧ (∀ q, bdLB q tail = true) ∧ L = [⟨0, [.slice 2 0 1 c'], 62⟩, ⟨1, [.int .i64 2, .int .i64 i], 46⟩, ⟨2, [.int .i64 2, .int .i64 i] ++ tail, 46⟩] ∧ n = 3) := by
  refine Con.of (hP ▸ tblOk) (hP ▸ Try.func22) rfl rfl rfl rfl (by decide) rfl rfl ⟨Nat.zero_lt_succ _, trivial, trivial⟩ (by simp [bdL, bd]) ?_
  intro A g K hA hg hK
  obtain ⟨bin, sh, cmp, una, cvt, ix, nn, nz, bnot, beq, scat, scmp, slen, six, nat, off, get, set, sub, spl⟩ := A
  cbv
  refine step_append_nil (hP ▸ tblOk) hg rfl rfl (show tyT 42 = some _ from rfl) rfl (show tyT 46 = some _ from rfl) (bytesEv hP) (by decide) (show ev _ _ = some .nils from rfl) (show ev _ _ = some (.slice 1 0 1 1) from rfl) (show find _ 1 = some _ from rfl) (by exact Nat.le_refl 2) (by decide) (by decide) (by decide) ?_
  intro c' h1 h2
  simp only [List.drop_zero, Nat.reduceMul, List.take_succ_cons, List.take_zero]
  obtain ⟨tail, ht⟩ : ∃ tail, tail = rep (c' - 1) [SV.int .i64 0, SV.int .i64 0] := ⟨_, rfl⟩
  have h3 : tail.length = (c' - 1) * 2 := by rw [ht, rep_length]; rfl
  have h4 : ∀ q, bdLB q tail = true := fun q => ht ▸ rep_bdLB rfl _
  generalize hX : [SV.int .i64 2, SV.int .i64 i] ++ rep (c' - 1) _ = X
  cbv
  refine hK _ _ _ ⟨rfl, c', tail, h1, h2, h3, h4, ?_, rfl⟩
  rw [← hX, ht]
theorem cBranchT0 {P : Program} (hP : P = Try.prog) :
    Con P 23 [.ptr 0 0, .bool true] [⟨0, [.nils], 62⟩] 1 [0]
      (fun v L n => v = .int .i64 0 ∧ ∃ c' tail, 1 ≤ c' ∧ c' ≤ maxLen ∧ tail.length = (c' - 1) * 2 ∧ (∀ q, bdLB q tail = true) ∧ L = [⟨0, [.slice 2 0 1 c'], 62⟩, ⟨1, [.int .i64 1, .int .i64 1], 46⟩, ⟨2, [.int .i64 1, .int .i64 1] ++ tail, 46⟩] ∧ n = 3) := by
  refine Con.of (hP ▸ tblOk) (hP ▸ Try.func23) rfl rfl rfl rfl (by decide) rfl rfl ⟨Nat.zero_lt_succ _, trivial, trivial⟩ (by simp [bdL, bd]) ?_
  intro A g K hA hg hK
  obtain ⟨bin, sh, cmp, una, cvt, ix, nn, nz, bnot, beq, scat, scmp, slen, six, nat, off, get, set, sub, spl⟩ := A
  cbv
  refine step_append_nil (hP ▸ tblOk) hg rfl rfl (show tyT 42 = some _ from rfl) rfl (show tyT 46 = some _ from rfl) (bytesEv hP) (by decide) (show ev _ _ = some .nils from rfl) (show ev _ _ = some (.slice 1 0 1 1) from rfl) (show find _ 1 = some _ from rfl) (by exact Nat.le_refl 2) (by decide) (by decide) (by decide) ?_
  intro c' h1 h2
  simp only [List.drop_zero, Nat.reduceMul, List.take_succ_cons, List.take_zero]
  obtain ⟨tail, ht⟩ : ∃ tail, tail = rep (c' - 1) [SV.int .i64 0, SV.int .i64 0] := ⟨_, rfl⟩
  have h3 : tail.length = (c' - 1) * 2 := by rw [ht, rep_length]; rfl
  have h4 : ∀ q, bdLB q tail = true := fun q => ht ▸ rep_bdLB rfl _
  generalize hX : [SV.int .i64 1, SV.int .i64 1] ++ rep (c' - 1) _ = X
  cbv
  refine hK _ _ _ ⟨rfl, c', tail, h1, h2, h3, h4, ?_, rfl⟩
  rw [← hX, ht]
theorem cBranchF0 {P : Program} (hP : P = Try.prog) :
    Con P 23 [.ptr 0 0, .bool false] [⟨0, [.nils], 62⟩] 1 [0]
      (fun v L n => v = .int .i64 0 ∧ ∃ c' tail, 1 ≤ c' ∧ c' ≤ maxLen ∧ tail.length = (c' - 1) * 2 ∧ (∀ q, bdLB q tail = true) ∧ L = [⟨0, [.slice 2 0 1 c'], 62⟩, ⟨1, [.int .i64 1, .int .i64 0], 46⟩, ⟨2, [.int .i64 1, .int .i64 0] ++ tail, 46⟩] ∧ n = 3) := by
  refine Con.of (hP ▸ tblOk) (hP ▸ Try.func23) rfl rfl rfl rfl (by decide) rfl rfl ⟨Nat.zero_lt_succ _, trivial, trivial⟩ (by simp [bdL, bd]) ?_
  intro A g K hA hg hK
  obtain ⟨bin, sh, cmp, una, cvt, ix, nn, nz, bnot, beq, scat, scmp, slen, six, nat, off, get, set, sub, spl⟩ := A
  cbv
  refine step_append_nil (hP ▸ tblOk) hg rfl rfl (show tyT 42 = some _ from rfl) rfl (show tyT 46 = some _ from rfl) (bytesEv hP) (by decide) (show ev _ _ = some .nils from rfl) (show ev _ _ = some (.slice 1 0 1 1) from rfl) (show find _ 1 = some _ from rfl) (by exact Nat.le_refl 2) (by decide) (by decide) (by decide) ?_
  intro c' h1 h2
  simp only [List.drop_zero, Nat.reduceMul, List.take_succ_cons, List.take_zero]
  obtain ⟨tail, ht⟩ : ∃ tail, tail = rep (c' - 1) [SV.int .i64 0, SV.int .i64 0] := ⟨_, rfl⟩
  have h3 : tail.length = (c' - 1) * 2 := by rw [ht, rep_length]; rfl
  have h4 : ∀ q, bdLB q tail = true := fun q => ht ▸ rep_bdLB rfl _
  generalize hX : [SV.int .i64 1, SV.int .i64 0] ++ rep (c' - 1) _ = X
  cbv
  refine hK _ _ _ ⟨rfl, c', tail, h1, h2, h3, h4, ?_, rfl⟩
  rw [← hX, ht]
theorem cIndexN {P : Program} (hP : P = Try.prog) (i : Int) : Con P 22 [.nilp, .int .i64 i] [] 0 [] (fun v _ _ => v = .int .i64 1) := by
  refine Con.of (hP ▸ tblOk) (hP ▸ Try.func22) rfl rfl rfl rfl (by decide) rfl rfl (by simp [bdL, bd]) (by simp) ?_
  intro A g K hA hg hK
  obtain ⟨bin, sh, cmp, una, cvt, ix, nn, nz, bnot, beq, scat, scmp, slen, six, nat, off, get, set, sub, spl⟩ := A
  cbv
  exact hK _ _ _ rfl
theorem cBranchN {P : Program} (hP : P = Try.prog) (b : Bool) : Con P 23 [.nilp, .bool b] [] 0 [] (fun v _ _ => v = .int .i64 1) := by
  refine Con.of (hP ▸ tblOk) (hP ▸ Try.func23) rfl rfl rfl rfl (by decide) rfl rfl (by simp [bdL, bd]) (by simp) ?_
  intro A g K hA hg hK
  obtain ⟨bin, sh, cmp, una, cvt, ix, nn, nz, bnot, beq, scat, scmp, slen, six, nat, off, get, set, sub, spl⟩ := A
  cbv
  exact hK _ _ _ rfl
theorem cLenN {P : Program} (hP : P = Try.prog) : Con P 26 [.nilp] [] 0 [] (fun v _ _ => v = .int .i64 0) := by
  refine Con.of (hP ▸ tblOk) (hP ▸ Try.func26) rfl rfl rfl rfl (by decide) rfl rfl (by simp [bdL, bd]) (by simp) ?_
  intro A g K hA hg hK
  obtain ⟨bin, sh, cmp, una, cvt, ix, nn, nz, bnot, beq, scat, scmp, slen, six, nat, off, get, set, sub, spl⟩ := A
  cbv
  exact hK _ _ _ rfl
theorem cEventsN {P : Program} (hP : P = Try.prog) : Con P 24 [.nilp] [] 0 [] (fun v _ _ => v = .nils) := by
  refine Con.of (hP ▸ tblOk) (hP ▸ Try.func24) rfl rfl rfl rfl (by decide) rfl rfl (by simp [bdL, bd]) (by simp) ?_
  intro A g K hA hg hK
  obtain ⟨bin, sh, cmp, una, cvt, ix, nn, nz, bnot, beq, scat, scmp, slen, six, nat, off, get, set, sub, spl⟩ := A
  cbv
  exact hK _ _ _ rfl
theorem cLen0 {P : Program} (hP : P = Try.prog) : Con P 26 [.ptr 0 0] [⟨0, [.nils], 62⟩] 1 [] (fun v _ _ => v = .int .i64 0) := by
  refine Con.of (hP ▸ tblOk) (hP ▸ Try.func26) rfl rfl rfl rfl (by decide) rfl rfl ⟨Nat.zero_lt_succ _, trivial⟩ (by simp [bdL, bd]) ?_
  intro A g K hA hg hK
  obtain ⟨bin, sh, cmp, una, cvt, ix, nn, nz, bnot, beq, scat, scmp, slen, six, nat, off, get, set, sub, spl⟩ := A
  cbv
  exact hK _ _ _ rfl
theorem cLen {P : Program} (hP : P = Try.prog) (k c : Nat) : Con P 26 [.ptr 0 0] [⟨0, [.slice 1 0 k c], 62⟩] 2 [] (fun v _ _ => v = .int .i64 k) := by
  refine Con.of (hP ▸ tblOk) (hP ▸ Try.func26) rfl rfl rfl rfl (by decide) rfl rfl ⟨Nat.zero_lt_succ _, trivial⟩ (by simp [bdL, bd]) ?_
  intro A g K hA hg hK
  obtain ⟨bin, sh, cmp, una, cvt, ix, nn, nz, bnot, beq, scat, scmp, slen, six, nat, off, get, set, sub, spl⟩ := A
  cbv
  have e1 : nat k = Int.ofNat k := nat_of hA k
  exact hK _ _ _ (by rw [e1]; rfl)
end Go.Proofs.Ytgdkefjpekebmaa
