/-
  This text proves that the statement on events of either kind returns true. Condition: none.
-/
import Derived.Test.YtgdkefjpekebmaaUd
import Derived.Test.YtgdkefjpekebmaaVgV
namespace Go.Proofs.Ytgdkefjpekebmaa
open Go.Vg
set_option maxRecDepth 200000
set_option cbv.maxSteps 100000000
set_option maxHeartbeats 4000000 in
theorem cKindsT {P : Program} (hP : P = Try.prog) (i : Int) : Con P 11 [.int .i64 i, .bool true] [] 0 [] (fun v _ _ => v = .bool true) := by
  refine Con.of (hP ▸ tblOk) (hP ▸ Try.func11) rfl rfl rfl rfl (by decide) rfl rfl ⟨trivial, trivial, trivial⟩ (by simp) ?_
  intro A g K hA hg hK
  obtain ⟨bin, sh, cmp, una, cvt, ix, nn, nz, bnot, beq, scat, scmp, slen, six, nat, off, get, set, sub, spl⟩ := A
  have k0 : cmp .eql 0 0 = true := (eql_of hA _ _).trans rfl
  have n1 : bnot true = false := bnot_of hA true
  have n0 : bnot false = true := bnot_of hA false
  cbv
  refine call_val rfl hg rfl rfl (cAwake3 hP) ?_
  rintro _ _ _ rfl
  cbv
  rw [n1]
  cbv
  refine call_gen rfl hg rfl rfl (cNew hP) id rfl trivial rfl rfl rfl ?_
  rintro _ _ _ ⟨rfl, rfl, rfl⟩ _
  cbv
  refine call_gen rfl hg rfl rfl (cIndex0 hP i) id rfl ⟨rfl, trivial⟩ rfl rfl rfl ?_
  rintro _ _ _ ⟨rfl, c1, tail, h1, h2, h3, h4, rfl, rfl⟩ _
  obtain ⟨X, hX⟩ : ∃ X, X = [SV.int .i64 2, SV.int .i64 i] ++ tail := ⟨_, rfl⟩
  rw [← hX]
  have bX : ∀ q, bdLB q X = true := fun q => hX ▸ bdLB_append rfl (h4 q)
  have rX : ∀ r, renL r X = X := fun r => renL_cl X (bX 0)
  simp only [renB, rX]
  cbv
  have lX : X.length = c1 * 2 := by rw [hX]; simp only [List.length_append, List.length_cons, List.length_nil, h3]; omega
  refine call_gen rfl hg rfl rfl (cBranchT hP 1 c1 X lX h1 h2 (by decide) bX) (fun l => 2 * l) rfl ⟨rfl, by rw [rX]; rfl, trivial⟩ rfl rfl rfl ?_
  rintro _ _ _ ⟨rfl, c2, tail2, g1, g2, g3, g4, rfl, rfl⟩ _
  obtain ⟨Y, hY⟩ : ∃ Y, Y = X.take (1 * 2) ++ [SV.int .i64 1, SV.int .i64 1] ++ tail2 := ⟨_, rfl⟩
  rw [← hY]
  have hY' : Y = [SV.int .i64 2, SV.int .i64 i, SV.int .i64 1, SV.int .i64 1] ++ tail2 := by rw [hY, hX]; rfl
  have bY : ∀ q, bdLB q Y = true := fun q => hY' ▸ bdLB_append rfl (g4 q)
  have rY : ∀ r, renL r Y = Y := fun r => renL_cl Y (bY 0)
  simp only [renB, rY]
  cbv
  have lY : 2 * 2 ≤ Y.length := by rw [hY']; simp
  refine call_val rfl hg rfl rfl (cNum hP 0) ?_
  rintro _ _ _ rfl
  cbv
  rw [k0]
  cbv
  refine call_val rfl hg rfl rfl (cNum hP 0) ?_
  rintro _ _ _ rfl
  cbv
  rw [k0]
  cbv
  refine call_gen rfl hg rfl rfl (cEvents hP 2 c2 Y lY (by decide) bY (by rw [hY']; rfl)) (fun l => 4 * l) rfl ⟨rfl, by rw [rY]; rfl, trivial⟩ rfl rfl rfl ?_
  rintro _ _ _ ⟨c3, tc3, rfl, q1c3, q2c3, q3c3, q4c3, rfl, rfl⟩ _
  obtain ⟨Z, hZ⟩ : ∃ Z, Z = Y.take (2 * 2) ++ tc3 := ⟨_, rfl⟩
  rw [← hZ]
  have hZ' : Z = [SV.int .i64 2, SV.int .i64 i, SV.int .i64 1, SV.int .i64 1] ++ tc3 := by rw [hZ, hY']; rfl
  have bZ : ∀ q, bdLB q Z = true := fun q => hZ' ▸ bdLB_append rfl (q4c3 q)
  have rZ : ∀ r, renL r Z = Z := fun r => renL_cl Z (bZ 0)
  simp only [renB, rY, rZ]
  cbv
  refine call_ro rfl hg rfl rfl (cSameEv hP 0 2 c3 0 2 2 Z [.int .i64 2, .int .i64 i, .int .i64 1, .int .i64 1] (fun j => if j = 0 then 2 else 1) (fun j => if j = 0 then i else 1) (fun j => if j = 0 then 2 else 1) (fun j => if j = 0 then i else 1) (by decide) (by rw [hZ']; simp) (by exact Nat.le_refl 4) (fun j hj => by
      rw [hZ']
      match j, hj with
      | 0, _ => rfl
      | 1, _ => rfl) (fun j hj => by
      skip
      match j, hj with
      | 0, _ => rfl
      | 1, _ => rfl) bZ (fun _ => rfl) true (by simp)) (fun l => 8 - 3 * l) rfl ⟨by rw [rZ]; rfl, rfl, trivial⟩ ?_
  rintro _ _ _ rfl
  cbv
  refine call_gen rfl hg rfl rfl (cEvents hP 2 c2 Y lY (by decide) bY (by rw [hY']; rfl)) (fun l => 4 * l) rfl ⟨rfl, by rw [rY]; rfl, trivial⟩ rfl rfl rfl ?_
  rintro _ _ _ ⟨c4, tc4, rfl, q1c4, q2c4, q3c4, q4c4, rfl, rfl⟩ _
  obtain ⟨V, hV⟩ : ∃ Z, Z = Y.take (2 * 2) ++ tc4 := ⟨_, rfl⟩
  rw [← hV]
  have hV' : V = [SV.int .i64 2, SV.int .i64 i, SV.int .i64 1, SV.int .i64 1] ++ tc4 := by rw [hV, hY']; rfl
  have bV : ∀ q, bdLB q V = true := fun q => hV' ▸ bdLB_append rfl (q4c4 q)
  have rV : ∀ r, renL r V = V := fun r => renL_cl V (bV 0)
  simp only [renB, rY, rV]
  cbv
  refine call_ro rfl hg rfl rfl (cSameTr hP 0 2 2 0 2 c4 [.int .i64 2, .int .i64 i, .int .i64 1, .int .i64 1] V (fun j => if j = 0 then 2 else 1) (fun j => if j = 0 then i else 1) (fun j => if j = 0 then 2 else 1) (fun j => if j = 0 then i else 1) (by decide) (by exact Nat.le_refl 4) (by rw [hV']; simp) (fun j hj => by
      skip
      match j, hj with
      | 0, _ => rfl
      | 1, _ => rfl) (fun j hj => by
      rw [hV']
      match j, hj with
      | 0, _ => rfl
      | 1, _ => rfl) (fun _ => rfl) bV true (by simp)) (fun l => 5 + 5 * l) rfl ⟨rfl, by rw [rV]; rfl, trivial⟩ ?_
  rintro _ _ _ rfl
  cbv
  refine call_ro rfl hg rfl rfl (cSameTr hP 0 2 2 0 2 2 [.int .i64 2, .int .i64 i, .int .i64 1, .int .i64 1] [.int .i64 1, .int .i64 1, .int .i64 2, .int .i64 i] (fun j => if j = 0 then 2 else 1) (fun j => if j = 0 then i else 1) (fun j => if j = 0 then 1 else 2) (fun j => if j = 0 then 1 else i) (by decide) (by exact Nat.le_refl 4) (by exact Nat.le_refl 4) (fun j hj => by
      skip
      match j, hj with
      | 0, _ => rfl
      | 1, _ => rfl) (fun j hj => by
      skip
      match j, hj with
      | 0, _ => rfl
      | 1, _ => rfl) (fun _ => rfl) (fun _ => rfl) false (decide_eq_false (fun h => absurd (h.2 0 (by decide)).1 (by decide))).symm) (fun l => 5 + l) rfl ⟨rfl, rfl, trivial⟩ ?_
  rintro _ _ _ rfl
  cbv
  rw [n0]
  cbv
  refine step_slice_h (hP ▸ tblOk) hg rfl rfl (show tyT 42 = some _ from rfl) rfl (show ev _ _ = some (.slice 5 0 2 2) from rfl) (show ev _ _ = some (.int .i64 (Int.ofNat 1)) from rfl) (by decide) ?_
  cbv
  refine call_ro rfl hg rfl rfl (cSameTr hP 0 2 2 0 1 2 [.int .i64 2, .int .i64 i, .int .i64 1, .int .i64 1] [.int .i64 2, .int .i64 i, .int .i64 1, .int .i64 1] (fun j => if j = 0 then 2 else 1) (fun j => if j = 0 then i else 1) (fun j => if j = 0 then 2 else 1) (fun j => if j = 0 then i else 1) (by decide) (by exact Nat.le_refl 4) (show 0 + 1 * 2 ≤ 4 by decide) (fun j hj => by
      skip
      match j, hj with
      | 0, _ => rfl
      | 1, _ => rfl) (fun j hj => by
      match j, hj with
      | 0, _ => rfl) (fun _ => rfl) (fun _ => rfl) false (decide_eq_false (fun h => absurd h.1 (by decide))).symm) (fun _ => 5) rfl ⟨rfl, rfl, trivial⟩ ?_
  rintro _ _ _ rfl
  cbv
  rw [n0]
  exact hK _ _ _ rfl
set_option maxHeartbeats 4000000 in
theorem cKindsF {P : Program} (hP : P = Try.prog) (i : Int) : Con P 11 [.int .i64 i, .bool false] [] 0 [] (fun v _ _ => v = .bool true) := by
  refine Con.of (hP ▸ tblOk) (hP ▸ Try.func11) rfl rfl rfl rfl (by decide) rfl rfl ⟨trivial, trivial, trivial⟩ (by simp) ?_
  intro A g K hA hg hK
  obtain ⟨bin, sh, cmp, una, cvt, ix, nn, nz, bnot, beq, scat, scmp, slen, six, nat, off, get, set, sub, spl⟩ := A
  have k0 : cmp .eql 0 0 = true := (eql_of hA _ _).trans rfl
  have n1 : bnot true = false := bnot_of hA true
  have n0 : bnot false = true := bnot_of hA false
  cbv
  refine call_val rfl hg rfl rfl (cAwake3 hP) ?_
  rintro _ _ _ rfl
  cbv
  rw [n1]
  cbv
  refine call_gen rfl hg rfl rfl (cNew hP) id rfl trivial rfl rfl rfl ?_
  rintro _ _ _ ⟨rfl, rfl, rfl⟩ _
  cbv
  refine call_gen rfl hg rfl rfl (cIndex0 hP i) id rfl ⟨rfl, trivial⟩ rfl rfl rfl ?_
  rintro _ _ _ ⟨rfl, c1, tail, h1, h2, h3, h4, rfl, rfl⟩ _
  obtain ⟨X, hX⟩ : ∃ X, X = [SV.int .i64 2, SV.int .i64 i] ++ tail := ⟨_, rfl⟩
  rw [← hX]
  have bX : ∀ q, bdLB q X = true := fun q => hX ▸ bdLB_append rfl (h4 q)
  have rX : ∀ r, renL r X = X := fun r => renL_cl X (bX 0)
  simp only [renB, rX]
  cbv
  have lX : X.length = c1 * 2 := by rw [hX]; simp only [List.length_append, List.length_cons, List.length_nil, h3]; omega
  refine call_gen rfl hg rfl rfl (cBranchF hP 1 c1 X lX h1 h2 (by decide) bX) (fun l => 2 * l) rfl ⟨rfl, by rw [rX]; rfl, trivial⟩ rfl rfl rfl ?_
  rintro _ _ _ ⟨rfl, c2, tail2, g1, g2, g3, g4, rfl, rfl⟩ _
  obtain ⟨Y, hY⟩ : ∃ Y, Y = X.take (1 * 2) ++ [SV.int .i64 1, SV.int .i64 0] ++ tail2 := ⟨_, rfl⟩
  rw [← hY]
  have hY' : Y = [SV.int .i64 2, SV.int .i64 i, SV.int .i64 1, SV.int .i64 0] ++ tail2 := by rw [hY, hX]; rfl
  have bY : ∀ q, bdLB q Y = true := fun q => hY' ▸ bdLB_append rfl (g4 q)
  have rY : ∀ r, renL r Y = Y := fun r => renL_cl Y (bY 0)
  simp only [renB, rY]
  cbv
  have lY : 2 * 2 ≤ Y.length := by rw [hY']; simp
  refine call_val rfl hg rfl rfl (cNum hP 0) ?_
  rintro _ _ _ rfl
  cbv
  rw [k0]
  cbv
  refine call_val rfl hg rfl rfl (cNum hP 0) ?_
  rintro _ _ _ rfl
  cbv
  rw [k0]
  cbv
  refine call_gen rfl hg rfl rfl (cEvents hP 2 c2 Y lY (by decide) bY (by rw [hY']; rfl)) (fun l => 4 * l) rfl ⟨rfl, by rw [rY]; rfl, trivial⟩ rfl rfl rfl ?_
  rintro _ _ _ ⟨c3, tc3, rfl, q1c3, q2c3, q3c3, q4c3, rfl, rfl⟩ _
  obtain ⟨Z, hZ⟩ : ∃ Z, Z = Y.take (2 * 2) ++ tc3 := ⟨_, rfl⟩
  rw [← hZ]
  have hZ' : Z = [SV.int .i64 2, SV.int .i64 i, SV.int .i64 1, SV.int .i64 0] ++ tc3 := by rw [hZ, hY']; rfl
  have bZ : ∀ q, bdLB q Z = true := fun q => hZ' ▸ bdLB_append rfl (q4c3 q)
  have rZ : ∀ r, renL r Z = Z := fun r => renL_cl Z (bZ 0)
  simp only [renB, rY, rZ]
  cbv
  refine call_ro rfl hg rfl rfl (cSameEv hP 0 2 c3 0 2 2 Z [.int .i64 2, .int .i64 i, .int .i64 1, .int .i64 0] (fun j => if j = 0 then 2 else 1) (fun j => if j = 0 then i else 0) (fun j => if j = 0 then 2 else 1) (fun j => if j = 0 then i else 0) (by decide) (by rw [hZ']; simp) (by exact Nat.le_refl 4) (fun j hj => by
      rw [hZ']
      match j, hj with
      | 0, _ => rfl
      | 1, _ => rfl) (fun j hj => by
      skip
      match j, hj with
      | 0, _ => rfl
      | 1, _ => rfl) bZ (fun _ => rfl) true (by simp)) (fun l => 8 - 3 * l) rfl ⟨by rw [rZ]; rfl, rfl, trivial⟩ ?_
  rintro _ _ _ rfl
  cbv
  refine call_gen rfl hg rfl rfl (cEvents hP 2 c2 Y lY (by decide) bY (by rw [hY']; rfl)) (fun l => 4 * l) rfl ⟨rfl, by rw [rY]; rfl, trivial⟩ rfl rfl rfl ?_
  rintro _ _ _ ⟨c4, tc4, rfl, q1c4, q2c4, q3c4, q4c4, rfl, rfl⟩ _
  obtain ⟨V, hV⟩ : ∃ Z, Z = Y.take (2 * 2) ++ tc4 := ⟨_, rfl⟩
  rw [← hV]
  have hV' : V = [SV.int .i64 2, SV.int .i64 i, SV.int .i64 1, SV.int .i64 0] ++ tc4 := by rw [hV, hY']; rfl
  have bV : ∀ q, bdLB q V = true := fun q => hV' ▸ bdLB_append rfl (q4c4 q)
  have rV : ∀ r, renL r V = V := fun r => renL_cl V (bV 0)
  simp only [renB, rY, rV]
  cbv
  refine call_ro rfl hg rfl rfl (cSameTr hP 0 2 2 0 2 c4 [.int .i64 2, .int .i64 i, .int .i64 1, .int .i64 0] V (fun j => if j = 0 then 2 else 1) (fun j => if j = 0 then i else 0) (fun j => if j = 0 then 2 else 1) (fun j => if j = 0 then i else 0) (by decide) (by exact Nat.le_refl 4) (by rw [hV']; simp) (fun j hj => by
      skip
      match j, hj with
      | 0, _ => rfl
      | 1, _ => rfl) (fun j hj => by
      rw [hV']
      match j, hj with
      | 0, _ => rfl
      | 1, _ => rfl) (fun _ => rfl) bV true (by simp)) (fun l => 5 + 5 * l) rfl ⟨rfl, by rw [rV]; rfl, trivial⟩ ?_
  rintro _ _ _ rfl
  cbv
  refine call_ro rfl hg rfl rfl (cSameTr hP 0 2 2 0 2 2 [.int .i64 2, .int .i64 i, .int .i64 1, .int .i64 0] [.int .i64 1, .int .i64 0, .int .i64 2, .int .i64 i] (fun j => if j = 0 then 2 else 1) (fun j => if j = 0 then i else 0) (fun j => if j = 0 then 1 else 2) (fun j => if j = 0 then 0 else i) (by decide) (by exact Nat.le_refl 4) (by exact Nat.le_refl 4) (fun j hj => by
      skip
      match j, hj with
      | 0, _ => rfl
      | 1, _ => rfl) (fun j hj => by
      skip
      match j, hj with
      | 0, _ => rfl
      | 1, _ => rfl) (fun _ => rfl) (fun _ => rfl) false (decide_eq_false (fun h => absurd (h.2 0 (by decide)).1 (by decide))).symm) (fun l => 5 + l) rfl ⟨rfl, rfl, trivial⟩ ?_
  rintro _ _ _ rfl
  cbv
  rw [n0]
  cbv
  refine step_slice_h (hP ▸ tblOk) hg rfl rfl (show tyT 42 = some _ from rfl) rfl (show ev _ _ = some (.slice 5 0 2 2) from rfl) (show ev _ _ = some (.int .i64 (Int.ofNat 1)) from rfl) (by decide) ?_
  cbv
  refine call_ro rfl hg rfl rfl (cSameTr hP 0 2 2 0 1 2 [.int .i64 2, .int .i64 i, .int .i64 1, .int .i64 0] [.int .i64 2, .int .i64 i, .int .i64 1, .int .i64 0] (fun j => if j = 0 then 2 else 1) (fun j => if j = 0 then i else 0) (fun j => if j = 0 then 2 else 1) (fun j => if j = 0 then i else 0) (by decide) (by exact Nat.le_refl 4) (show 0 + 1 * 2 ≤ 4 by decide) (fun j hj => by
      skip
      match j, hj with
      | 0, _ => rfl
      | 1, _ => rfl) (fun j hj => by
      match j, hj with
      | 0, _ => rfl) (fun _ => rfl) (fun _ => rfl) false (decide_eq_false (fun h => absurd h.1 (by decide))).symm) (fun _ => 5) rfl ⟨rfl, rfl, trivial⟩ ?_
  rintro _ _ _ rfl
  cbv
  rw [n0]
  exact hK _ _ _ rfl
theorem cKinds {P : Program} (hP : P = Try.prog) (i : Int) (b : Bool) : Con P 11 [.int .i64 i, .bool b] [] 0 [] (fun v _ _ => v = .bool true) := by
  cases b with
  | true => exact cKindsT hP i
  | false => exact cKindsF hP i
end Go.Proofs.Ytgdkefjpekebmaa
