/-
  This text proves what the statements over package trace ask of every program first. Condition: none.
-/
import Derived.Test.YtgdkefjpekebmaaUc
namespace Go.Proofs.Ytgdkefjpekebmaa
open Go.Vg
set_option maxRecDepth 200000
set_option cbv.maxSteps 100000000
theorem cAwake3 {P : Program} (hP : P = Try.prog) : Con P 31 [] [] 0 [] (fun v _ _ => v = .bool true) := by
  refine Con.of (hP ▸ tblOk) (hP ▸ Try.func31) rfl rfl rfl rfl (by decide) rfl rfl trivial (by simp) ?_
  intro A g K hA hg hK
  obtain ⟨bin, sh, cmp, una, cvt, ix, nn, nz, bnot, beq, scat, scmp, slen, six, nat, off, get, set, sub, spl⟩ := A
  cbv
  refine call_gen rfl hg rfl rfl (cNew hP) id rfl trivial rfl rfl rfl ?_
  rintro _ _ _ ⟨rfl, rfl, rfl⟩ _
  refine ⟨rfl, ?_⟩
  cbv
  refine call_gen rfl hg rfl rfl (cBranchT0 hP) id rfl ⟨rfl, trivial⟩ rfl rfl rfl ?_
  rintro _ _ _ ⟨rfl, c1, tail, h1, h2, h3, h4, rfl, rfl⟩ _
  refine ⟨rfl, ?_⟩
  obtain ⟨X, hX⟩ : ∃ X, X = [SV.int .i64 1, SV.int .i64 1] ++ tail := ⟨_, rfl⟩
  rw [← hX]
  have bX : ∀ q, bdLB q X = true := fun q => hX ▸ bdLB_append rfl (h4 q)
  have rX : ∀ r, renL r X = X := fun r => renL_cl X (bX 0)
  simp only [renB, rX]
  cbv
  have lX : X.length = c1 * 2 := by rw [hX]; simp only [List.length_append, List.length_cons, List.length_nil, h3]; omega
  refine call_gen rfl hg rfl rfl (cIndex hP 5 1 c1 X lX h1 h2 (by decide) bX) (fun l => 2 * l) rfl ⟨rfl, by rw [rX]; rfl, trivial⟩ rfl rfl rfl ?_
  rintro _ _ _ ⟨rfl, c2, tail2, g1, g2, g3, g4, rfl, rfl⟩ _
  refine ⟨rfl, ?_⟩
  obtain ⟨Y, hY⟩ : ∃ Y, Y = X.take (1 * 2) ++ [SV.int .i64 2, SV.int .i64 5] ++ tail2 := ⟨_, rfl⟩
  rw [← hY]
  have hY' : Y = [SV.int .i64 1, SV.int .i64 1, SV.int .i64 2, SV.int .i64 5] ++ tail2 := by rw [hY, hX]; rfl
  have bY : ∀ q, bdLB q Y = true := fun q => hY' ▸ bdLB_append rfl (g4 q)
  have rY : ∀ r, renL r Y = Y := fun r => renL_cl Y (bY 0)
  simp only [renB, rY]
  cbv
  have k0 : cmp .eql 0 0 = true := (eql_of hA _ _).trans rfl
  have k2 : cmp .eql (Int.ofNat 2) 2 = true := (eql_of hA _ _).trans rfl
  refine call_val rfl hg rfl rfl (cNum hP 0) ?_
  rintro _ _ _ rfl
  refine ⟨trivial, ?_⟩
  cbv
  rw [k0]
  cbv
  refine call_val rfl hg rfl rfl (cNum hP 0) ?_
  rintro _ _ _ rfl
  refine ⟨trivial, ?_⟩
  cbv
  rw [k0]
  cbv
  refine call_ro rfl hg rfl rfl (cLen hP 2 c2) (fun l => 4 * l) rfl ⟨rfl, trivial⟩ ?_
  rintro _ _ _ rfl
  refine ⟨trivial, trivial, ?_⟩
  cbv
  rw [k2]
  cbv
  have lY : 2 * 2 ≤ Y.length := by rw [hY']; simp
  refine call_gen rfl hg rfl rfl (cEvents hP 2 c2 Y lY (by decide) bY (by rw [hY']; rfl)) (fun l => 4 * l) rfl ⟨rfl, by rw [rY]; rfl, trivial⟩ rfl rfl rfl ?_
  rintro _ _ _ ⟨c3, tail3, rfl, q1, q2, q3, q4, rfl, rfl⟩ _
  refine ⟨rfl, ?_⟩
  obtain ⟨Z, hZ⟩ : ∃ Z, Z = Y.take (2 * 2) ++ tail3 := ⟨_, rfl⟩
  rw [← hZ]
  have hZ' : Z = [SV.int .i64 1, SV.int .i64 1, SV.int .i64 2, SV.int .i64 5] ++ tail3 := by rw [hZ, hY']; rfl
  have bZ : ∀ q, bdLB q Z = true := fun q => hZ' ▸ bdLB_append rfl (q4 q)
  have rZ : ∀ r, renL r Z = Z := fun r => renL_cl Z (bZ 0)
  simp only [renB, rY, rZ]
  cbv
  refine call_ro rfl hg rfl rfl (cSameEv hP 0 2 c3 0 2 2 Z [.int .i64 1, .int .i64 1, .int .i64 2, .int .i64 5] (fun j => if j = 0 then 1 else 2) (fun j => if j = 0 then 1 else 5) (fun j => if j = 0 then 1 else 2) (fun j => if j = 0 then 1 else 5) (by decide) (by rw [hZ']; simp) (by decide)
    (fun j hj => by
      rw [hZ']
      match j, hj with
      | 0, _ => rfl
      | 1, _ => rfl) (fun j hj => by
      match j, hj with
      | 0, _ => rfl
      | 1, _ => rfl) bZ (fun _ => rfl) true (by simp)) (fun l => 6 + l) rfl ⟨by rw [rZ]; rfl, rfl, trivial⟩ ?_
  rintro _ _ _ rfl
  refine ⟨trivial, trivial, ?_⟩
  cbv
  refine call_val rfl hg rfl rfl (cSameNil hP) ?_
  rintro _ _ _ rfl
  refine ⟨trivial, ?_⟩
  cbv
  exact hK _ _ _ rfl
end Go.Proofs.Ytgdkefjpekebmaa
