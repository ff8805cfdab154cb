/-
  This text proves contracts of comparisons of rows of events of which one is nil. Condition: the rows are not too long.
-/
import Derived.Test.YtgdkefjpekebmaaUc
import Derived.Test.YtgdkefjpekebmaaVgV
namespace Go.Proofs.Ytgdkefjpekebmaa
open Go.Vg
set_option maxRecDepth 200000
set_option cbv.maxSteps 100000000
theorem cEqualSN {P : Program} (hP : P = Try.prog) {t : TypeId} (o k c : Nat) (C : List SV) (bC : ∀ m, bdLB m C = true) (r : Bool) (hr : r = decide (k = 0)) :
    Con P 38 [.slice 0 o k c, .nils] [⟨0, C, t⟩] 1 [] (fun v _ _ => v = .bool r) := by
  refine Con.of (hP ▸ tblOk) (hP ▸ Try.func38) rfl rfl rfl rfl (by decide) rfl rfl ⟨Nat.zero_lt_succ _, trivial, trivial⟩ (by simpa using bdLB_bd _ (bC 1)) ?_
  intro A g K hA hg hK
  obtain ⟨bin, sh, cmp, una, cvt, ix, nn, nz, bnot, beq, scat, scmp, slen, six, nat, off, get, set, sub, spl⟩ := A
  cbv
  by_cases hk : k = 0
  · subst hk
    have e0 : nat 0 = Int.ofNat 0 := nat_of hA 0
    rw [e0, show cmp .neq (Int.ofNat 0) 0 = false from (neq_of hA _ _).trans rfl]
    cbv
    rw [e0]
    refine ⟨Unit, fun _ => True, fun _ => 0, fun _ => [(12, .int .i64 (Int.ofNat 0)), (13, .int .i64 0)], fun _ => [], 1, ⟨(), id, trivial, ?_⟩, ?_⟩
    · exact weak_id ⟨rfl, rfl, rfl, rfl, trivial⟩ trivial rfl rfl
    rintro _ _
    cbv
    rw [show cmp .lss 0 (Int.ofNat 0) = false from (lss_of hA _ _).trans rfl]
    cbv
    exact hK _ _ _ (hr.symm ▸ rfl)
  · rw [show nat k = Int.ofNat k from nat_of hA k, show cmp .neq (Int.ofNat k) 0 = true from (neq_of hA _ _).trans (decide_eq_true (by simp; omega))]
    cbv
    exact hK _ _ _ (by rw [hr, decide_eq_false hk]; rfl)
theorem cEqualNS {P : Program} (hP : P = Try.prog) {t : TypeId} (o k c : Nat) (C : List SV) (bC : ∀ m, bdLB m C = true) (r : Bool) (hr : r = decide (k = 0)) :
    Con P 38 [.nils, .slice 0 o k c] [⟨0, C, t⟩] 1 [] (fun v _ _ => v = .bool r) := by
  refine Con.of (hP ▸ tblOk) (hP ▸ Try.func38) rfl rfl rfl rfl (by decide) rfl rfl ⟨trivial, Nat.zero_lt_succ _, trivial⟩ (by simpa using bdLB_bd _ (bC 1)) ?_
  intro A g K hA hg hK
  obtain ⟨bin, sh, cmp, una, cvt, ix, nn, nz, bnot, beq, scat, scmp, slen, six, nat, off, get, set, sub, spl⟩ := A
  cbv
  by_cases hk : k = 0
  · subst hk
    have e0 : nat 0 = Int.ofNat 0 := nat_of hA 0
    rw [e0, show cmp .neq 0 (Int.ofNat 0) = false from (neq_of hA _ _).trans rfl]
    cbv
    refine ⟨Unit, fun _ => True, fun _ => 0, fun _ => [(12, .int .i64 0), (13, .int .i64 0)], fun _ => [], 1, ⟨(), id, trivial, ?_⟩, ?_⟩
    · exact weak_id ⟨rfl, rfl, rfl, rfl, trivial⟩ trivial rfl rfl
    rintro _ _
    cbv
    rw [show cmp .lss 0 0 = false from (lss_of hA _ _).trans rfl]
    cbv
    exact hK _ _ _ (hr.symm ▸ rfl)
  · rw [show nat k = Int.ofNat k from nat_of hA k, show cmp .neq 0 (Int.ofNat k) = true from (neq_of hA _ _).trans (decide_eq_true (by simp; omega))]
    cbv
    exact hK _ _ _ (by rw [hr, decide_eq_false hk]; rfl)
theorem cSameESN {P : Program} (hP : P = Try.prog) {t : TypeId} (o k c : Nat) (C : List SV) (bC : ∀ m, bdLB m C = true) (r : Bool) (hr : r = decide (k = 0)) :
    Con P 25 [.slice 0 o k c, .nils] [⟨0, C, t⟩] 1 [] (fun v _ _ => v = .bool r) := by
  refine Con.of (hP ▸ tblOk) (hP ▸ Try.func25) rfl rfl rfl rfl (by decide) rfl rfl ⟨Nat.zero_lt_succ _, trivial, trivial⟩ (by simpa using bdLB_bd _ (bC 1)) ?_
  intro A g K hA hg hK
  obtain ⟨bin, sh, cmp, una, cvt, ix, nn, nz, bnot, beq, scat, scmp, slen, six, nat, off, get, set, sub, spl⟩ := A
  cbv
  by_cases hk : k = 0
  · subst hk
    have e0 : nat 0 = Int.ofNat 0 := nat_of hA 0
    rw [e0, show cmp .neq (Int.ofNat 0) 0 = false from (neq_of hA _ _).trans rfl]
    cbv
    refine ⟨Unit, fun _ => True, fun _ => 0, fun _ => [(0, .slice 0 o 0 c), (1, .nils), (5, .int .i64 0)], fun _ => [], 1, ⟨(), id, trivial, ?_⟩, ?_⟩
    · exact weak_id ⟨rfl, rfl, rfl, rfl, rfl, rfl, trivial⟩ trivial rfl rfl
    rintro _ _
    cbv
    rw [e0, show cmp .lss 0 (Int.ofNat 0) = false from (lss_of hA _ _).trans rfl]
    cbv
    exact hK _ _ _ (hr.symm ▸ rfl)
  · rw [show nat k = Int.ofNat k from nat_of hA k, show cmp .neq (Int.ofNat k) 0 = true from (neq_of hA _ _).trans (decide_eq_true (by simp; omega))]
    cbv
    exact hK _ _ _ (by rw [hr, decide_eq_false hk]; rfl)
theorem cSameENS {P : Program} (hP : P = Try.prog) {t : TypeId} (o k c : Nat) (C : List SV) (bC : ∀ m, bdLB m C = true) (r : Bool) (hr : r = decide (k = 0)) :
    Con P 25 [.nils, .slice 0 o k c] [⟨0, C, t⟩] 1 [] (fun v _ _ => v = .bool r) := by
  refine Con.of (hP ▸ tblOk) (hP ▸ Try.func25) rfl rfl rfl rfl (by decide) rfl rfl ⟨trivial, Nat.zero_lt_succ _, trivial⟩ (by simpa using bdLB_bd _ (bC 1)) ?_
  intro A g K hA hg hK
  obtain ⟨bin, sh, cmp, una, cvt, ix, nn, nz, bnot, beq, scat, scmp, slen, six, nat, off, get, set, sub, spl⟩ := A
  cbv
  by_cases hk : k = 0
  · subst hk
    have e0 : nat 0 = Int.ofNat 0 := nat_of hA 0
    rw [e0, show cmp .neq 0 (Int.ofNat 0) = false from (neq_of hA _ _).trans rfl]
    cbv
    refine ⟨Unit, fun _ => True, fun _ => 0, fun _ => [(0, .nils), (1, .slice 0 o 0 c), (5, .int .i64 0)], fun _ => [], 1, ⟨(), id, trivial, ?_⟩, ?_⟩
    · exact weak_id ⟨rfl, rfl, rfl, rfl, rfl, rfl, trivial⟩ trivial rfl rfl
    rintro _ _
    cbv
    rw [show cmp .lss 0 0 = false from (lss_of hA _ _).trans rfl]
    cbv
    exact hK _ _ _ (hr.symm ▸ rfl)
  · rw [show nat k = Int.ofNat k from nat_of hA k, show cmp .neq 0 (Int.ofNat k) = true from (neq_of hA _ _).trans (decide_eq_true (by simp; omega))]
    cbv
    exact hK _ _ _ (by rw [hr, decide_eq_false hk]; rfl)
theorem cSameENN {P : Program} (hP : P = Try.prog)  :
    Con P 25 [.nils, .nils] [] 0 [] (fun v _ _ => v = .bool true) := by
  refine Con.of (hP ▸ tblOk) (hP ▸ Try.func25) rfl rfl rfl rfl (by decide) rfl rfl ⟨trivial, trivial, trivial⟩ (by simp) ?_
  intro A g K hA hg hK
  obtain ⟨bin, sh, cmp, una, cvt, ix, nn, nz, bnot, beq, scat, scmp, slen, six, nat, off, get, set, sub, spl⟩ := A
  cbv
  rw [show cmp .neq 0 0 = false from (neq_of hA _ _).trans rfl]
  cbv
  refine ⟨Unit, fun _ => True, fun _ => 0, fun _ => [(0, .nils), (1, .nils), (5, .int .i64 0)], fun _ => [], 0, ⟨(), id, trivial, ?_⟩, ?_⟩
  · exact weak_id ⟨rfl, rfl, rfl, rfl, rfl, rfl, trivial⟩ trivial rfl rfl
  rintro _ _
  cbv
  rw [show cmp .lss 0 0 = false from (lss_of hA _ _).trans rfl]
  cbv
  exact hK _ _ _ rfl
theorem cSameTSN {P : Program} (hP : P = Try.prog) {t : TypeId} (o k c : Nat) (C : List SV) (bC : ∀ m, bdLB m C = true) (r : Bool) (hr : r = decide (k = 0)) :
    Con P 29 [.slice 0 o k c, .nils] [⟨0, C, t⟩] 1 [] (fun v _ _ => v = .bool r) := by
  refine Con.of (hP ▸ tblOk) (hP ▸ Try.func29) rfl rfl rfl rfl (by decide) rfl rfl ⟨Nat.zero_lt_succ _, trivial, trivial⟩ (by simpa using bdLB_bd _ (bC 1)) ?_
  intro A g K hA hg hK
  obtain ⟨bin, sh, cmp, una, cvt, ix, nn, nz, bnot, beq, scat, scmp, slen, six, nat, off, get, set, sub, spl⟩ := A
  cbv
  refine call_ro rfl hg rfl rfl (cEqualSN hP o k c C bC r hr) id rfl ⟨by rw [renL_id]; rfl, trivial⟩ ?_
  rintro _ _ _ rfl
  refine ⟨trivial, trivial, ?_⟩
  cbv
  exact hK _ _ _ rfl
theorem cSameTNS {P : Program} (hP : P = Try.prog) {t : TypeId} (o k c : Nat) (C : List SV) (bC : ∀ m, bdLB m C = true) (r : Bool) (hr : r = decide (k = 0)) :
    Con P 29 [.nils, .slice 0 o k c] [⟨0, C, t⟩] 1 [] (fun v _ _ => v = .bool r) := by
  refine Con.of (hP ▸ tblOk) (hP ▸ Try.func29) rfl rfl rfl rfl (by decide) rfl rfl ⟨trivial, Nat.zero_lt_succ _, trivial⟩ (by simpa using bdLB_bd _ (bC 1)) ?_
  intro A g K hA hg hK
  obtain ⟨bin, sh, cmp, una, cvt, ix, nn, nz, bnot, beq, scat, scmp, slen, six, nat, off, get, set, sub, spl⟩ := A
  cbv
  refine call_ro rfl hg rfl rfl (cEqualNS hP o k c C bC r hr) id rfl ⟨by rw [renL_id]; rfl, trivial⟩ ?_
  rintro _ _ _ rfl
  refine ⟨trivial, trivial, ?_⟩
  cbv
  exact hK _ _ _ rfl
end Go.Proofs.Ytgdkefjpekebmaa
