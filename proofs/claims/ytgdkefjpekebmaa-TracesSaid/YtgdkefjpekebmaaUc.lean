/-
  This text proves contracts of two comparisons of rows of events. Condition: the rows are not too long.
-/
import Derived.Test.YtgdkefjpekebmaaUb
namespace Go.Proofs.Ytgdkefjpekebmaa
open Go.Vg
set_option maxRecDepth 200000
set_option cbv.maxSteps 100000000
theorem sub_of {A : Ar} (hA : A = Ar.real) {C vs : List SV} {o n : Nat} (h : o + n ≤ C.length) (hv : (C.drop o).take n = vs) : A.sub C o n = some vs := by
  subst hA; simp only [Ar.real]; rw [if_pos h, hv]
theorem cSameEvG {P : Program} (hP : P = Try.prog) {t1 t2 : TypeId} (o1 k1 c1 o2 k2 c2 : Nat) (C1 C2 : List SV) (a1 b1 a2 b2 : Nat → Int) (hk1 : k1 < 4611686018427387904) (hC1 : 0 < k1 → o1 + k1 * 2 ≤ C1.length) (hC2 : 0 < k2 → o2 + k2 * 2 ≤ C2.length)
    (h1 : ∀ j, j < k1 → (C1.drop (o1 + j * 2)).take 2 = [.int .i64 (a1 j), .int .i64 (b1 j)]) (h2 : ∀ j, j < k2 → (C2.drop (o2 + j * 2)).take 2 = [.int .i64 (a2 j), .int .i64 (b2 j)]) (bC1 : ∀ m, bdLB m C1 = true) (bC2 : ∀ m, bdLB m C2 = true)
    (r : Bool) (hr : r = decide (k1 = k2 ∧ ∀ j, j < k1 → a1 j = a2 j ∧ b1 j = b2 j)) :
    Con P 25 [.slice 0 o1 k1 c1, .slice 1 o2 k2 c2] [⟨0, C1, t1⟩, ⟨1, C2, t2⟩] 2 [] (fun v _ _ => v = .bool r) := by
  refine Con.of (hP ▸ tblOk) (hP ▸ Try.func25) rfl rfl rfl rfl (by decide) rfl rfl ⟨Nat.zero_lt_succ _, Nat.lt_succ_self _, trivial⟩ (by simpa using ⟨bdLB_bd _ (bC1 2), bdLB_bd _ (bC2 2)⟩) ?_
  intro A g K hA hg hK
  obtain ⟨bin, sh, cmp, una, cvt, ix, nn, nz, bnot, beq, scat, scmp, slen, six, nat, off, get, set, sub, spl⟩ := A
  cbv
  have e1 : nat k1 = Int.ofNat k1 := nat_of hA k1
  have e2 : nat k2 = Int.ofNat k2 := nat_of hA k2
  by_cases hk : k1 = k2
  · rw [e1, e2, show cmp .neq (Int.ofNat k1) (Int.ofNat k2) = false from (neq_of hA _ _).trans (by simp [hk])]
    cbv
    refine ⟨Nat, fun j => j ≤ k1 ∧ ∀ i, i < j → a1 i = a2 i ∧ b1 i = b2 i, fun j => k1 - j, fun j => [(0, .slice 0 o1 k1 c1), (1, .slice 1 o2 k2 c2), (4, .bool false), (5, .int .i64 j)], fun _ => [⟨0, C1, t1⟩, ⟨1, C2, t2⟩], 2, ⟨0, id, ⟨Nat.zero_le _, fun i h => by omega⟩, ?_⟩, ?_⟩
    · exact weak_id ⟨rfl, rfl, rfl, rfl, rfl, rfl, rfl, rfl, trivial⟩ ⟨rfl, rfl, bC1 _, rfl, rfl, bC2 _, trivial⟩ rfl rfl
    rintro j ⟨hj, hall⟩
    by_cases hlt : j < k1
    · have f1 : cmp .lss (Int.ofNat j) (Int.ofNat k1) = true := (lss_of hA _ _).trans (decide_eq_true (by simp; omega))
      have f2 : ix (Int.ofNat j) k1 = some j := ix_of hA hlt
      have f3 : ix (Int.ofNat j) k2 = some j := ix_of hA (hk ▸ hlt)
      have f4 : off o1 j 2 = o1 + j * 2 := off_of hA o1 j 2
      have f5 : off o2 j 2 = o2 + j * 2 := off_of hA o2 j 2
      have f6 : sub C1 (o1 + j * 2) 2 = some [.int .i64 (a1 j), .int .i64 (b1 j)] := sub_of hA (by have := hC1 (by omega); omega) (h1 j hlt)
      have f7 : sub C2 (o2 + j * 2) 2 = some [.int .i64 (a2 j), .int .i64 (b2 j)] := sub_of hA (by have := hC2 (by omega); omega) (h2 j (by omega))
      have f8 : bin .add .i64 (Int.ofNat j) 1 = Int.ofNat (j + 1) := add_of hA (by omega)
      generalize o1 + j * 2 = p1 at f4 f6
      generalize o2 + j * 2 = p2 at f5 f7
      cbv
      rw [e1, f1]
      cbv
      refine reg_M (hP ▸ tblOk) hA hg (hP ▸ mixed) rfl rfl fun mk _ => ?_
      cbv
      rw [f2]
      cbv
      rw [f4, f6]
      cbv
      rw [f3]
      cbv
      rw [f5, f7]
      cbv
      refine stepD (en_neq_ev hP rfl hg rfl rfl rfl) ?_
      by_cases hq : a1 j = a2 j ∧ b1 j = b2 j
      · rw [show (!(a1 j == a2 j && b1 j == b2 j)) = false by simp [hq.1, hq.2]]
        cbv
        rw [f8]
        refine ⟨j + 1, id, ⟨hlt, fun i hi => ?_⟩, (by show k1 - (j + 1) < k1 - j; omega), ?_⟩
        · by_cases hij : i = j
          · subst hij; exact hq
          · exact hall i (by omega)
        · exact weak_id ⟨rfl, rfl, rfl, rfl, rfl, rfl, rfl, rfl, trivial⟩ ⟨rfl, rfl, bC1 _, rfl, rfl, bC2 _, trivial⟩ rfl rfl
      · rw [show (!(a1 j == a2 j && b1 j == b2 j)) = true by
          rw [Bool.not_eq_true', Bool.and_eq_false_iff, beq_eq_false_iff_ne, beq_eq_false_iff_ne]
          by_cases h : a1 j = a2 j
          · exact Or.inr fun h' => hq ⟨h, h'⟩
          · exact Or.inl h]
        cbv
        refine hK _ _ _ (congrArg SV.bool ?_)
        rw [hr]
        exact (decide_eq_false fun h => hq (h.2 j hlt)).symm
    · have f1 : cmp .lss (Int.ofNat j) (Int.ofNat k1) = false := (lss_of hA _ _).trans (decide_eq_false (by simp; omega))
      cbv
      rw [e1, f1]
      cbv
      refine hK _ _ _ (congrArg SV.bool ?_)
      rw [hr]
      exact (decide_eq_true ⟨hk, fun i hi => hall i (by omega)⟩).symm
  · rw [e1, e2, show cmp .neq (Int.ofNat k1) (Int.ofNat k2) = true from (neq_of hA _ _).trans (by simp; omega)]
    cbv
    refine hK _ _ _ (congrArg SV.bool ?_)
    rw [hr]
    exact (decide_eq_false fun h => hk h.1).symm
theorem cSameEv {P : Program} (hP : P = Try.prog) {t1 t2 : TypeId} (o1 k1 c1 o2 k2 c2 : Nat) (C1 C2 : List SV) (a1 b1 a2 b2 : Nat → Int) (hk1 : k1 < 4611686018427387904) (hC1 : o1 + k1 * 2 ≤ C1.length) (hC2 : o2 + k2 * 2 ≤ C2.length)
    (h1 : ∀ j, j < k1 → (C1.drop (o1 + j * 2)).take 2 = [.int .i64 (a1 j), .int .i64 (b1 j)]) (h2 : ∀ j, j < k2 → (C2.drop (o2 + j * 2)).take 2 = [.int .i64 (a2 j), .int .i64 (b2 j)]) (bC1 : ∀ m, bdLB m C1 = true) (bC2 : ∀ m, bdLB m C2 = true)
    (r : Bool) (hr : r = decide (k1 = k2 ∧ ∀ j, j < k1 → a1 j = a2 j ∧ b1 j = b2 j)) :
    Con P 25 [.slice 0 o1 k1 c1, .slice 1 o2 k2 c2] [⟨0, C1, t1⟩, ⟨1, C2, t2⟩] 2 [] (fun v _ _ => v = .bool r) :=
  cSameEvG hP o1 k1 c1 o2 k2 c2 C1 C2 a1 b1 a2 b2 hk1 (fun _ => hC1) (fun _ => hC2) h1 h2 bC1 bC2 r hr
theorem cEqualEvG {P : Program} (hP : P = Try.prog) {t1 t2 : TypeId} (o1 k1 c1 o2 k2 c2 : Nat) (C1 C2 : List SV) (a1 b1 a2 b2 : Nat → Int) (hk1 : k1 < 4611686018427387904) (hC1 : 0 < k1 → o1 + k1 * 2 ≤ C1.length) (hC2 : 0 < k2 → o2 + k2 * 2 ≤ C2.length)
    (h1 : ∀ j, j < k1 → (C1.drop (o1 + j * 2)).take 2 = [.int .i64 (a1 j), .int .i64 (b1 j)]) (h2 : ∀ j, j < k2 → (C2.drop (o2 + j * 2)).take 2 = [.int .i64 (a2 j), .int .i64 (b2 j)]) (bC1 : ∀ m, bdLB m C1 = true) (bC2 : ∀ m, bdLB m C2 = true)
    (r : Bool) (hr : r = decide (k1 = k2 ∧ ∀ j, j < k1 → a1 j = a2 j ∧ b1 j = b2 j)) :
    Con P 38 [.slice 0 o1 k1 c1, .slice 1 o2 k2 c2] [⟨0, C1, t1⟩, ⟨1, C2, t2⟩] 2 [] (fun v _ _ => v = .bool r) := by
  refine Con.of (hP ▸ tblOk) (hP ▸ Try.func38) rfl rfl rfl rfl (by decide) rfl rfl ⟨Nat.zero_lt_succ _, Nat.lt_succ_self _, trivial⟩ (by simpa using ⟨bdLB_bd _ (bC1 2), bdLB_bd _ (bC2 2)⟩) ?_
  intro A g K hA hg hK
  obtain ⟨bin, sh, cmp, una, cvt, ix, nn, nz, bnot, beq, scat, scmp, slen, six, nat, off, get, set, sub, spl⟩ := A
  cbv
  have e1 : nat k1 = Int.ofNat k1 := nat_of hA k1
  have e2 : nat k2 = Int.ofNat k2 := nat_of hA k2
  by_cases hk : k1 = k2
  · rw [e1, e2, show cmp .neq (Int.ofNat k1) (Int.ofNat k2) = false from (neq_of hA _ _).trans (by simp [hk])]
    cbv
    rw [e1]
    refine ⟨Nat, fun j => j ≤ k1 ∧ ∀ i, i < j → a1 i = a2 i ∧ b1 i = b2 i, fun j => k1 - j, fun j => [(0, .slice 0 o1 k1 c1), (1, .slice 1 o2 k2 c2), (4, .bool false), (12, .int .i64 k1), (13, .int .i64 j)], fun _ => [⟨0, C1, t1⟩, ⟨1, C2, t2⟩], 2, ⟨0, id, ⟨Nat.zero_le _, fun i h => by omega⟩, ?_⟩, ?_⟩
    · exact weak_id ⟨rfl, rfl, rfl, rfl, rfl, rfl, rfl, rfl, rfl, rfl, trivial⟩ ⟨rfl, rfl, bC1 _, rfl, rfl, bC2 _, trivial⟩ rfl rfl
    rintro j ⟨hj, hall⟩
    by_cases hlt : j < k1
    · have f1 : cmp .lss (Int.ofNat j) (Int.ofNat k1) = true := (lss_of hA _ _).trans (decide_eq_true (by simp; omega))
      have f2 : ix (Int.ofNat j) k1 = some j := ix_of hA hlt
      have f3 : ix (Int.ofNat j) k2 = some j := ix_of hA (hk ▸ hlt)
      have f4 : off o1 j 2 = o1 + j * 2 := off_of hA o1 j 2
      have f5 : off o2 j 2 = o2 + j * 2 := off_of hA o2 j 2
      have f6 : sub C1 (o1 + j * 2) 2 = some [.int .i64 (a1 j), .int .i64 (b1 j)] := sub_of hA (by have := hC1 (by omega); omega) (h1 j hlt)
      have f7 : sub C2 (o2 + j * 2) 2 = some [.int .i64 (a2 j), .int .i64 (b2 j)] := sub_of hA (by have := hC2 (by omega); omega) (h2 j (by omega))
      have f8 : bin .add .i64 (Int.ofNat j) 1 = Int.ofNat (j + 1) := add_of hA (by omega)
      generalize o1 + j * 2 = p1 at f4 f6
      generalize o2 + j * 2 = p2 at f5 f7
      cbv
      rw [show cmp .lss (Int.ofNat j) (Int.ofNat k1) = _ from f1]
      cbv
      refine reg_M (hP ▸ tblOk) hA hg (hP ▸ mixed) rfl rfl fun mk _ => ?_
      cbv
      rw [f2]
      cbv
      rw [f4, f6]
      cbv
      rw [f3]
      cbv
      rw [f5, f7]
      cbv
      refine stepD (en_neq_ev hP rfl hg rfl rfl rfl) ?_
      by_cases hq : a1 j = a2 j ∧ b1 j = b2 j
      · rw [show (!(a1 j == a2 j && b1 j == b2 j)) = false by simp [hq.1, hq.2]]
        cbv
        rw [f8]
        refine ⟨j + 1, id, ⟨hlt, fun i hi => ?_⟩, (by show k1 - (j + 1) < k1 - j; omega), ?_⟩
        · by_cases hij : i = j
          · subst hij; exact hq
          · exact hall i (by omega)
        · exact weak_id ⟨rfl, rfl, rfl, rfl, rfl, rfl, rfl, rfl, rfl, rfl, trivial⟩ ⟨rfl, rfl, bC1 _, rfl, rfl, bC2 _, trivial⟩ rfl rfl
      · rw [show (!(a1 j == a2 j && b1 j == b2 j)) = true by
          rw [Bool.not_eq_true', Bool.and_eq_false_iff, beq_eq_false_iff_ne, beq_eq_false_iff_ne]
          by_cases h : a1 j = a2 j
          · exact Or.inr fun h' => hq ⟨h, h'⟩
          · exact Or.inl h]
        cbv
        refine hK _ _ _ (congrArg SV.bool ?_)
        rw [hr]
        exact (decide_eq_false fun h => hq (h.2 j hlt)).symm
    · have f1 : cmp .lss (Int.ofNat j) (Int.ofNat k1) = false := (lss_of hA _ _).trans (decide_eq_false (by simp; omega))
      cbv
      rw [show cmp .lss (Int.ofNat j) (Int.ofNat k1) = _ from f1]
      cbv
      refine hK _ _ _ (congrArg SV.bool ?_)
      rw [hr]
      exact (decide_eq_true ⟨hk, fun i hi => hall i (by omega)⟩).symm
  · rw [e1, e2, show cmp .neq (Int.ofNat k1) (Int.ofNat k2) = true from (neq_of hA _ _).trans (by simp; omega)]
    cbv
    refine hK _ _ _ (congrArg SV.bool ?_)
    rw [hr]
    exact (decide_eq_false fun h => hk h.1).symm
theorem cEqualEv {P : Program} (hP : P = Try.prog) {t1 t2 : TypeId} (o1 k1 c1 o2 k2 c2 : Nat) (C1 C2 : List SV) (a1 b1 a2 b2 : Nat → Int) (hk1 : k1 < 4611686018427387904) (hC1 : o1 + k1 * 2 ≤ C1.length) (hC2 : o2 + k2 * 2 ≤ C2.length)
    (h1 : ∀ j, j < k1 → (C1.drop (o1 + j * 2)).take 2 = [.int .i64 (a1 j), .int .i64 (b1 j)]) (h2 : ∀ j, j < k2 → (C2.drop (o2 + j * 2)).take 2 = [.int .i64 (a2 j), .int .i64 (b2 j)]) (bC1 : ∀ m, bdLB m C1 = true) (bC2 : ∀ m, bdLB m C2 = true)
    (r : Bool) (hr : r = decide (k1 = k2 ∧ ∀ j, j < k1 → a1 j = a2 j ∧ b1 j = b2 j)) :
    Con P 38 [.slice 0 o1 k1 c1, .slice 1 o2 k2 c2] [⟨0, C1, t1⟩, ⟨1, C2, t2⟩] 2 [] (fun v _ _ => v = .bool r) :=
  cEqualEvG hP o1 k1 c1 o2 k2 c2 C1 C2 a1 b1 a2 b2 hk1 (fun _ => hC1) (fun _ => hC2) h1 h2 bC1 bC2 r hr
theorem cEqualNil {P : Program} (hP : P = Try.prog) : Con P 38 [.nils, .nils] [] 0 [] (fun v _ _ => v = .bool true) := by
  refine Con.of (hP ▸ tblOk) (hP ▸ Try.func38) rfl rfl rfl rfl (by decide) rfl rfl ⟨trivial, trivial, trivial⟩ (by simp) ?_
  intro A g K hA hg hK
  obtain ⟨bin, sh, cmp, una, cvt, ix, nn, nz, bnot, beq, scat, scmp, slen, six, nat, off, get, set, sub, spl⟩ := A
  cbv
  rw [show cmp .neq 0 0 = false from (neq_of hA _ _).trans rfl]
  cbv
  refine ⟨Unit, fun _ => True, fun _ => 0, fun _ => [(12, .int .i64 0), (13, .int .i64 0)], fun _ => [], 0, ⟨(), id, trivial, ?_⟩, ?_⟩
  · exact weak_id ⟨rfl, rfl, rfl, rfl, trivial⟩ trivial rfl rfl
  rintro _ _
  cbv
  rw [show cmp .lss 0 0 = false from (lss_of hA _ _).trans rfl]
  cbv
  exact hK _ _ _ rfl
theorem cSameNil {P : Program} (hP : P = Try.prog) : Con P 29 [.nils, .nils] [] 0 [] (fun v _ _ => v = .bool true) := by
  refine Con.of (hP ▸ tblOk) (hP ▸ Try.func29) rfl rfl rfl rfl (by decide) rfl rfl ⟨trivial, trivial, trivial⟩ (by simp) ?_
  intro A g K hA hg hK
  obtain ⟨bin, sh, cmp, una, cvt, ix, nn, nz, bnot, beq, scat, scmp, slen, six, nat, off, get, set, sub, spl⟩ := A
  cbv
  refine call_val rfl hg rfl rfl (cEqualNil hP) ?_
  rintro _ _ _ rfl
  refine ⟨trivial, ?_⟩
  cbv
  exact hK _ _ _ rfl
theorem cSameTrG {P : Program} (hP : P = Try.prog) {t1 t2 : TypeId} (o1 k1 c1 o2 k2 c2 : Nat) (C1 C2 : List SV) (a1 b1 a2 b2 : Nat → Int) (hk1 : k1 < 4611686018427387904) (hC1 : 0 < k1 → o1 + k1 * 2 ≤ C1.length) (hC2 : 0 < k2 → o2 + k2 * 2 ≤ C2.length)
    (h1 : ∀ j, j < k1 → (C1.drop (o1 + j * 2)).take 2 = [.int .i64 (a1 j), .int .i64 (b1 j)]) (h2 : ∀ j, j < k2 → (C2.drop (o2 + j * 2)).take 2 = [.int .i64 (a2 j), .int .i64 (b2 j)]) (bC1 : ∀ m, bdLB m C1 = true) (bC2 : ∀ m, bdLB m C2 = true)
    (r : Bool) (hr : r = decide (k1 = k2 ∧ ∀ j, j < k1 → a1 j = a2 j ∧ b1 j = b2 j)) :
    Con P 29 [.slice 0 o1 k1 c1, .slice 1 o2 k2 c2] [⟨0, C1, t1⟩, ⟨1, C2, t2⟩] 2 [] (fun v _ _ => v = .bool r) := by
  refine Con.of (hP ▸ tblOk) (hP ▸ Try.func29) rfl rfl rfl rfl (by decide) rfl rfl ⟨Nat.zero_lt_succ _, Nat.lt_succ_self _, trivial⟩ (by simpa using ⟨bdLB_bd _ (bC1 2), bdLB_bd _ (bC2 2)⟩) ?_
  intro A g K hA hg hK
  obtain ⟨bin, sh, cmp, una, cvt, ix, nn, nz, bnot, beq, scat, scmp, slen, six, nat, off, get, set, sub, spl⟩ := A
  cbv
  refine call_ro rfl hg rfl rfl (cEqualEvG hP o1 k1 c1 o2 k2 c2 C1 C2 a1 b1 a2 b2 hk1 hC1 hC2 h1 h2 bC1 bC2 r hr) id rfl ⟨by rw [renL_id]; rfl, by rw [renL_id]; rfl, trivial⟩ ?_
  rintro _ _ _ rfl
  refine ⟨trivial, trivial, ?_⟩
  cbv
  exact hK _ _ _ rfl
theorem cSameTr {P : Program} (hP : P = Try.prog) {t1 t2 : TypeId} (o1 k1 c1 o2 k2 c2 : Nat) (C1 C2 : List SV) (a1 b1 a2 b2 : Nat → Int) (hk1 : k1 < 4611686018427387904) (hC1 : o1 + k1 * 2 ≤ C1.length) (hC2 : o2 + k2 * 2 ≤ C2.length)
    (h1 : ∀ j, j < k1 → (C1.drop (o1 + j * 2)).take 2 = [.int .i64 (a1 j), .int .i64 (b1 j)]) (h2 : ∀ j, j < k2 → (C2.drop (o2 + j * 2)).take 2 = [.int .i64 (a2 j), .int .i64 (b2 j)]) (bC1 : ∀ m, bdLB m C1 = true) (bC2 : ∀ m, bdLB m C2 = true)
    (r : Bool) (hr : r = decide (k1 = k2 ∧ ∀ j, j < k1 → a1 j = a2 j ∧ b1 j = b2 j)) :
    Con P 29 [.slice 0 o1 k1 c1, .slice 1 o2 k2 c2] [⟨0, C1, t1⟩, ⟨1, C2, t2⟩] 2 [] (fun v _ _ => v = .bool r) :=
  cSameTrG hP o1 k1 c1 o2 k2 c2 C1 C2 a1 b1 a2 b2 hk1 (fun _ => hC1) (fun _ => hC2) h1 h2 bC1 bC2 r hr
end Go.Proofs.Ytgdkefjpekebmaa
