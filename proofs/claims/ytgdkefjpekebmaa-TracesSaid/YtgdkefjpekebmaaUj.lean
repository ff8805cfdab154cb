/-
  This text proves that the statement on events by any calls returns true. Condition: none.
-/
import Derived.Test.YtgdkefjpekebmaaUi
namespace Go.Proofs.Ytgdkefjpekebmaa
open Go.Vg
set_option maxRecDepth 200000
set_option cbv.maxSteps 100000000
theorem and_one (x : Int) : intBin .and .i64 x 1 = 0 ∨ intBin .and .i64 x 1 = 1 := by
  have h : (BitVec.ofInt 64 x &&& BitVec.ofInt 64 1).toNat = 0 ∨ (BitVec.ofInt 64 x &&& BitVec.ofInt 64 1).toNat = 1 := by
    rw [BitVec.toNat_and, show (BitVec.ofInt 64 1).toNat = 1 from rfl, Nat.and_one_is_mod]
    omega
  rcases h with h | h
  · left
    show IntKind.i64.wrap ((BitVec.ofInt 64 x &&& BitVec.ofInt 64 1).toNat : Int) = 0
    rw [h]; rfl
  · right
    show IntKind.i64.wrap ((BitVec.ofInt 64 x &&& BitVec.ofInt 64 1).toNat : Int) = 1
    rw [h]; rfl
theorem pair_get0 {E : List SV} {p : Nat} {x y : SV} (h : (E.drop p).take 2 = [x, y]) : E[p]? = some x := by
  have h1 : ((E.drop p).take 2)[0]? = some x := by rw [h]; rfl
  simpa [List.getElem?_take, List.getElem?_drop] using h1
theorem beq_of {A : Ar} (hA : A = Ar.real) (a : Bool) : A.beq a a = true := by
  subst hA; show (a == a) = true; simp
theorem cSpoilN {P : Program} (hP : P = Try.prog) : Con P 27 [.nils] [] 0 [] (fun v _ _ => v = .tup []) := by
  refine Con.of (hP ▸ tblOk) (hP ▸ Try.func27) rfl rfl rfl rfl (by decide) rfl rfl ⟨trivial, trivial⟩ (by simp) ?_
  intro A g K hA hg hK
  obtain ⟨bin, sh, cmp, una, cvt, ix, nn, nz, bnot, beq, scat, scmp, slen, six, nat, off, get, set, sub, spl⟩ := A
  cbv
  refine ⟨Unit, fun _ => True, fun _ => 0, fun _ => [(0, .nils), (2, .int .i64 0)], fun _ => [], 0, ⟨(), id, trivial, ?_⟩, ?_⟩
  · exact weak_id ⟨rfl, rfl, rfl, rfl, trivial⟩ trivial rfl rfl
  rintro _ _
  cbv
  rw [show cmp .lss 0 0 = false from (lss_of hA _ _).trans rfl]
  cbv
  exact hK _ _ _ rfl
set_option maxHeartbeats 8000000 in
theorem cTracesNN {P : Program} (hP : P = Try.prog) :
    Con P 8 [.nils, .nils] [] 0 [] (fun v _ _ => v = .bool true) := by
  refine Con.of (hP ▸ tblOk) (hP ▸ Try.func8) rfl rfl rfl rfl (by decide) rfl rfl ⟨trivial, trivial, trivial⟩ (by simp) ?_
  intro A g K hA hg hK
  obtain ⟨bin, sh, cmp, una, cvt, ix, nn, nz, bnot, beq, scat, scmp, slen, six, nat, off, get, set, sub, spl⟩ := A
  have z0 : cmp .neq 0 0 = false := (neq_of hA _ _).trans rfl
  have n1 : bnot true = false := bnot_of hA true
  obtain ⟨ea, eb⟩ : (Nat → Int) × (Nat → Int) := (fun _ => 0, fun _ => 0)
  obtain ⟨ga, gb⟩ : (Nat → Int) × (Nat → Int) := (fun _ => 0, fun _ => 0)
  obtain ⟨r, hr⟩ : ∃ r, r = decide ((0 : Nat) = 0 ∧ ∀ j : Nat, j < (0 : Nat) → ea j = ga j ∧ eb j = gb j) := ⟨_, rfl⟩
  have hr2 : r = true := by rw [hr]; exact decide_eq_true ⟨rfl, fun j hj => by omega⟩
  cbv
  refine call_gen rfl hg rfl rfl (cNew hP) id rfl trivial rfl rfl rfl ?_
  rintro _ _ _ ⟨rfl, rfl, rfl⟩ _
  cbv
  refine ⟨Unit, fun _ => True, fun _ => 0, fun _ => [(0, .nils), (1, .nils), (4, .bool false), (5, .ptr 0 0), (6, .nils), (7, .int .i64 0)],
    fun _ => [⟨0, [.nils], 62⟩], 3, ⟨(), id, trivial, ?_⟩, ?_⟩
  · exact weak_id ⟨rfl, rfl, rfl, rfl, rfl, rfl, rfl, rfl, rfl, rfl, rfl, rfl, trivial⟩ ⟨rfl, rfl, rfl, trivial⟩ rfl rfl
  rintro _ _
  cbv
  rw [show cmp .lss 0 0 = false from (lss_of hA _ _).trans rfl]
  cbv
  refine call_ro rfl hg rfl rfl (cEvents0 hP) (fun _ => 0) rfl ⟨rfl, trivial⟩ ?_
  rintro _ _ _ rfl
  cbv
  refine call_val rfl hg rfl rfl (cSameENN hP) ?_
  rintro _ _ _ rfl
  cbv
  rw [n1]
  cbv
  refine call_ro rfl hg rfl rfl (cLen0 hP) (fun _ => 0) rfl ⟨rfl, trivial⟩ ?_
  rintro _ _ _ rfl
  cbv
  rw [z0]
  cbv
  refine call_val rfl hg rfl rfl (cSpoilN hP) ?_
  rintro _ _ _ rfl
  cbv
  refine call_gen rfl hg rfl rfl (cLendN hP ea eb) id rfl trivial rfl rfl rfl ?_
  rintro _ _ _ ⟨cx, X, rfl, hcx, hX, rfl, rfl⟩ _
  have rX : ∀ r, renL r X = X := fun r => renL_cl X (hX.b 0)
  simp only [renB, rX]
  cbv
  refine call_gen rfl hg rfl rfl (cLendN hP ga gb) id rfl trivial rfl rfl rfl ?_
  rintro _ _ _ ⟨cy, Y, rfl, hcy, hY, rfl, rfl⟩ _
  have rY : ∀ r, renL r Y = Y := fun r => renL_cl Y (hY.b 0)
  simp only [renB, rY, rX]
  cbv
  refine call_ro rfl hg rfl rfl (cEvents0 hP) (fun _ => 0) rfl ⟨rfl, trivial⟩ ?_
  rintro _ _ _ rfl
  cbv
  refine call_val rfl hg rfl rfl (cSameENN hP) ?_
  rintro _ _ _ rfl
  cbv
  refine call_ro rfl hg rfl rfl (cSameTrG hP (t1 := 46) (t2 := 46) 0 0 cx 0 0 cy X Y ea eb ga gb (by omega) (fun _ => by have := hX.len; omega) (fun _ => by have := hY.len; omega) (fun j hj => by rw [Nat.zero_add]; exact hX.at_ j hj) (fun j hj => by rw [Nat.zero_add]; exact hY.at_ j hj) hX.b hY.b r hr) (fun l => if l = 0 then 5 else 8) rfl ⟨by rw [rX]; rfl, by rw [rY]; rfl, trivial⟩ ?_
  rintro _ _ _ rfl
  cbv
  refine call_val rfl hg rfl rfl (cSameENN hP) ?_
  rintro _ _ _ rfl
  subst hr2
  cbv
  rw [show beq true true = true from beq_of hA true]
  cbv
  refine call_ro rfl hg rfl rfl (cSameTrG hP (t1 := 46) (t2 := 46) 0 0 cy 0 0 cy Y Y ga gb ga gb (by omega) (fun _ => by have := hY.len; omega) (fun _ => by have := hY.len; omega) (fun j hj => by rw [Nat.zero_add]; exact hY.at_ j hj) (fun j hj => by rw [Nat.zero_add]; exact hY.at_ j hj) hY.b hY.b true (decide_eq_true ⟨rfl, fun _ _ => ⟨rfl, rfl⟩⟩).symm) (fun _ => 8) rfl ⟨by rw [rY]; rfl, by rw [rY]; rfl, trivial⟩ ?_
  rintro _ _ _ rfl
  cbv
  refine call_ro rfl hg rfl rfl (cKeptN hP cx X hcx ea eb hX) (fun _ => 5) rfl ⟨by rw [rX]; rfl, trivial⟩ ?_
  rintro _ _ _ rfl
  cbv
  refine call_ro rfl hg rfl rfl (cKeptN hP cy Y hcy ga gb hY) (fun _ => 8) rfl ⟨by rw [rY]; rfl, trivial⟩ ?_
  rintro _ _ _ rfl
  cbv
  refine call_val rfl hg rfl rfl (cAwake3 hP) ?_
  rintro _ _ _ rfl
  cbv
  exact hK _ _ _ rfl
set_option maxHeartbeats 8000000 in
theorem cTracesSN {P : Program} (hP : P = Try.prog) {t : TypeId} (o n c : Nat) (E : List SV) (hE : 0 < n → o + n * 2 ≤ E.length) (hn : n * 16 ≤ 140737488351232) (ea eb : Nat → Int) (hEj : ∀ j, j < n → (E.drop (o + j * 2)).take 2 = [.int .i64 (ea j), .int .i64 (eb j)]) (bE : ∀ m, bdLB m E = true) :
    Con P 8 [.slice 0 o n c, .nils] [⟨0, E, t⟩] 1 [] (fun v _ _ => v = .bool true) := by
  refine Con.of (hP ▸ tblOk) (hP ▸ Try.func8) rfl rfl rfl rfl (by decide) rfl rfl ⟨Nat.zero_lt_succ _, trivial, trivial⟩ (by simpa using bdLB_bd _ (bE 1)) ?_
  intro A g K hA hg hK
  obtain ⟨bin, sh, cmp, una, cvt, ix, nn, nz, bnot, beq, scat, scmp, slen, six, nat, off, get, set, sub, spl⟩ := A
  have z0 : cmp .neq 0 0 = false := (neq_of hA _ _).trans rfl
  have n1 : bnot true = false := bnot_of hA true
  have en : nat n = Int.ofNat n := nat_of hA n
  have rE : ∀ r, renL r E = E := fun r => renL_cl E (bE 0)
  obtain ⟨ga, gb⟩ : (Nat → Int) × (Nat → Int) := (fun _ => 0, fun _ => 0)
  obtain ⟨r, hr⟩ : ∃ r, r = decide (n = 0 ∧ ∀ j : Nat, j < n → ea j = ga j ∧ eb j = gb j) := ⟨_, rfl⟩
  have hr2 : r = decide (n = 0) := by rw [hr]; exact decide_eq_decide.2 ⟨fun h => h.1, fun h => ⟨h, fun j hj => by omega⟩⟩
  obtain ⟨pa, pb, hp1, hp2⟩ : ∃ pa pb : Nat → Int, (∀ j, ea j = 2 → 2 = pa j ∧ ea j = pa j ∧ eb j = pb j) ∧ ∀ j, ea j ≠ 2 → 1 = pa j ∧ intBin .and .i64 (eb j) 1 = pb j :=
    ⟨fun j => if ea j = 2 then 2 else 1, fun j => if ea j = 2 then eb j else intBin .and .i64 (eb j) 1, fun j h => by simp [h], fun j h => by simp [h]⟩
  cbv
  refine call_gen rfl hg rfl rfl (cNew hP) id rfl trivial rfl rfl rfl ?_
  rintro _ _ _ ⟨rfl, rfl, rfl⟩ _
  cbv
  refine ⟨Unit ⊕ (Nat × Nat × List SV × Nat × List SV), fun s => match s with | .inl _ => True | .inr (k, c', C, d', D) => k ≤ n ∧ k ≤ 200 ∧ RowP pa pb k c' C ∧ RowP pa pb k d' D, fun s => match s with | .inl _ => n + 1 | .inr (k, _, _, _, _) => n - k,
    fun s => [(0, .slice 0 o n c), (1, .nils), (4, .bool false), (5, .ptr 1 0), (6, match s with | .inl _ => .nils | .inr (k, _, _, d', _) => .slice 3 0 k d'), (7, .int .i64 (match s with | .inl _ => 0 | .inr (k, _, _, _, _) => k))],
    fun s => match s with | .inl _ => [⟨0, E, t⟩, ⟨1, [.nils], 62⟩] | .inr (k, c', C, _, D) => [⟨0, E, t⟩, ⟨1, [.slice 2 0 k c'], 62⟩, ⟨2, C, 46⟩, ⟨3, D, 46⟩], 4,
    ⟨.inl (), id, trivial, ?_⟩, ?_⟩
  · exact weak_id ⟨rfl, rfl, rfl, rfl, rfl, rfl, rfl, rfl, rfl, rfl, rfl, rfl, trivial⟩ ⟨rfl, rfl, bE _, rfl, rfl, rfl, trivial⟩ rfl rfl
  rintro (_ | ⟨k, c', C, d', D⟩) hs
  · cbv
    by_cases hz : n ≤ 0
    · rw [en, show cmp .lss (0) (Int.ofNat n) = false from (lss_of hA _ _).trans (decide_eq_false (by simp; omega))]
      cbv
      refine call_ro rfl hg rfl rfl (cEvents0 hP) (fun _ => 1) rfl ⟨rfl, trivial⟩ ?_
      rintro _ _ _ rfl
      cbv
      refine call_val rfl hg rfl rfl (cSameENN hP) ?_
      rintro _ _ _ rfl
      cbv
      rw [n1]
      cbv
      refine call_ro rfl hg rfl rfl (cLen0 hP) (fun _ => 1) rfl ⟨rfl, trivial⟩ ?_
      rintro _ _ _ rfl
      cbv
      rw [z0]
      cbv
      refine call_val rfl hg rfl rfl (cSpoilN hP) ?_
      rintro _ _ _ rfl
      cbv
      refine call_gen rfl hg rfl rfl (cLendS hP o n c E hE hn ea eb hEj bE) (fun _ => 0) rfl ⟨by rw [rE]; rfl, trivial⟩ rfl rfl rfl ?_
      rintro _ _ _ ⟨cx, X, rfl, hcx, hX, rfl, rfl⟩ _
      have rX : ∀ r, renL r X = X := fun r => renL_cl X (hX.b 0)
      simp only [renB, rX, rE]
      cbv
      refine call_gen rfl hg rfl rfl (cLendN hP ga gb) id rfl trivial rfl rfl rfl ?_
      rintro _ _ _ ⟨cy, Y, rfl, hcy, hY, rfl, rfl⟩ _
      have rY : ∀ r, renL r Y = Y := fun r => renL_cl Y (hY.b 0)
      simp only [renB, rY, rX]
      cbv
      refine call_ro rfl hg rfl rfl (cEvents0 hP) (fun _ => 1) rfl ⟨rfl, trivial⟩ ?_
      rintro _ _ _ rfl
      cbv
      refine call_val rfl hg rfl rfl (cSameENN hP) ?_
      rintro _ _ _ rfl
      cbv
      refine call_ro rfl hg rfl rfl (cSameTrG hP (t1 := 46) (t2 := 46) 0 n cx 0 0 cy X Y ea eb ga gb (by omega) (fun _ => by have := hX.len; omega) (fun _ => by have := hY.len; omega) (fun j hj => by rw [Nat.zero_add]; exact hX.at_ j hj) (fun j hj => by rw [Nat.zero_add]; exact hY.at_ j hj) hX.b hY.b r hr) (fun l => if l = 0 then 7 else 10) rfl ⟨by rw [rX]; rfl, by rw [rY]; rfl, trivial⟩ ?_
      rintro _ _ _ rfl
      cbv
      refine call_ro rfl hg rfl rfl (cSameESN hP (t := t) o n c E bE r hr2) id rfl ⟨by rw [rE]; rfl, trivial⟩ ?_
      rintro _ _ _ rfl
      cbv
      rw [show beq r r = true from beq_of hA r]
      cbv
      refine call_ro rfl hg rfl rfl (cSameTrG hP (t1 := 46) (t2 := 46) 0 0 cy 0 0 cy Y Y ga gb ga gb (by omega) (fun _ => by have := hY.len; omega) (fun _ => by have := hY.len; omega) (fun j hj => by rw [Nat.zero_add]; exact hY.at_ j hj) (fun j hj => by rw [Nat.zero_add]; exact hY.at_ j hj) hY.b hY.b true (decide_eq_true ⟨rfl, fun _ _ => ⟨rfl, rfl⟩⟩).symm) (fun _ => 10) rfl ⟨by rw [rY]; rfl, by rw [rY]; rfl, trivial⟩ ?_
      rintro _ _ _ rfl
      cbv
      refine call_ro rfl hg rfl rfl (cKeptS hP (t := t) cx o n c X E hcx hE hn ea eb hX hEj bE) (fun l => if l = 0 then 7 else 0) rfl ⟨by rw [rX]; rfl, by rw [rE]; rfl, trivial⟩ ?_
      rintro _ _ _ rfl
      cbv
      refine call_ro rfl hg rfl rfl (cKeptN hP cy Y hcy ga gb hY) (fun _ => 10) rfl ⟨by rw [rY]; rfl, trivial⟩ ?_
      rintro _ _ _ rfl
      cbv
      refine call_val rfl hg rfl rfl (cAwake3 hP) ?_
      rintro _ _ _ rfl
      cbv
      exact hK _ _ _ rfl
    · rw [en, show cmp .lss (0) (Int.ofNat n) = true from (lss_of hA _ _).trans (decide_eq_true (by simp; omega))]
      cbv
      rw [show cmp .lss 0 200 = true from (lss_of hA _ _).trans rfl]
      cbv
      have hp : 0 < n := by omega
      have f1 : ix (0) n = some 0 := ix_of hA (k := 0) hp
      have f2 : off o 0 2 = o + 0 * 2 := off_of hA o 0 2
      have f30 : off (o + 0 * 2) 0 1 = o + 0 * 2 := off_of hA _ 0 1
      have f31 : off (o + 0 * 2) 1 1 = o + 0 * 2 + 1 := off_of hA _ 1 1
      have f40 : get E (o + 0 * 2) = some (.int .i64 (ea 0)) := (get_of hA _ _).trans (pair_get0 (hEj 0 hp))
      have f41 : get E (o + 0 * 2 + 1) = some (.int .i64 (eb 0)) := (get_of hA _ _).trans (pair_get (hEj 0 hp))
      have f5 : sub E (o + 0 * 2) 2 = some [.int .i64 (ea 0), .int .i64 (eb 0)] := sub_of hA (by have := hE (by omega); omega) (hEj 0 hp)
      have f8 : bin .add .i64 (0) 1 = 1 := add_of hA (k := 0) (by omega)
      generalize ho1 : o + 0 * 2 + 1 = o1 at f31 f41
      generalize ho2 : o + 0 * 2 = o2 at f2 f30 f31 f40 f5
      rw [f1]
      cbv
      rw [f2]
      cbv
      rw [f30]
      cbv
      rw [f40]
      cbv
      by_cases hq : ea 0 = 2
      · obtain ⟨hpa, hpb, hpc⟩ := hp1 0 hq
        rw [show cmp .eql (ea 0) 2 = true from (eql_of hA _ _).trans (decide_eq_true hq)]
        cbv
        rw [f1]
        cbv
        rw [f2]
        cbv
        rw [f31]
        cbv
        rw [f41]
        cbv
        refine call_gen rfl hg rfl rfl (cIndex0 hP (eb 0)) (fun _ => 1) rfl ⟨rfl, trivial⟩ rfl rfl rfl ?_
        rintro _ _ _ ⟨rfl, c1, tail, h1, h2, h3, h4, rfl, rfl⟩ _
        have hR1 := rowP_one (pa := pa) (pb := pb) hpa hpc h1 h2 h3 h4
        obtain ⟨X, hX⟩ : ∃ X, X = [SV.int .i64 2, SV.int .i64 (eb 0)] ++ tail := ⟨_, rfl⟩
        rw [← hX] at hR1 ⊢
        have rX : ∀ r, renL r X = X := fun r => renL_cl X (hR1.b 0)
        simp only [renB, rX]
        cbv
        refine call_val rfl hg rfl rfl (cNum hP 0) ?_
        rintro _ _ _ rfl
        cbv
        rw [z0]
        cbv
        rw [f1]
        cbv
        rw [f2]
        cbv
        rw [f5]
        cbv
        refine step_append_nil (hP ▸ tblOk) hg rfl rfl (show tyT 42 = some _ from rfl) rfl (show tyT 46 = some _ from rfl) (bytesEv hP) (by decide) (show ev _ _ = some .nils from rfl) (show ev _ _ = some (.slice 6 0 1 1) from rfl) (show find _ 6 = some _ from rfl) (by exact Nat.le_refl 2) (by decide) (by decide) (by decide) ?_
        intro d1 g1 g2
        simp only [List.drop_zero, Nat.reduceMul, List.take_succ_cons, List.take_zero]
        obtain ⟨tl, ht⟩ : ∃ tail, tail = rep (d1 - 1) [SV.int .i64 0, SV.int .i64 0] := ⟨_, rfl⟩
        have g3 : tl.length = (d1 - 1) * 2 := by rw [ht, rep_length]; rfl
        have g4 : ∀ q, bdLB q tl = true := fun q => ht ▸ rep_bdLB rfl _
        have hS1 := rowP_one (pa := pa) (pb := pb) hpb hpc g1 g2 g3 g4
        obtain ⟨Y, hY⟩ : ∃ Y, Y = [SV.int .i64 (ea 0), SV.int .i64 (eb 0)] ++ tl := ⟨_, rfl⟩
        rw [← hY] at hS1
        rw [show [SV.int .i64 (ea 0), SV.int .i64 (eb 0)] ++ rep (d1 - 1) [SV.int .i64 0, SV.int .i64 0] = Y from hY.symm ▸ ht ▸ rfl]
        have rY : ∀ r, renL r Y = Y := fun r => renL_cl Y (hS1.b 0)
        cbv
        rw [f8]
        refine ⟨.inr (1, c1, X, d1, Y), fun l => if l = 2 then 5 else if l = 3 then 7 else l, ⟨by omega, by omega, hR1, hS1⟩, (by show n - 1 < n + 1; omega), ?_⟩
        exact weak_rho ⟨rfl, rfl, rfl, rfl, rfl, rfl, rfl, rfl, rfl, rfl, rfl, rfl, trivial⟩ ⟨by rw [rE]; rfl, rfl, rfl, bE _, rfl, rfl, rfl, rfl, by rw [rX]; rfl, rfl, rfl, hR1.b _, by rw [rY]; rfl, rfl, rfl, hS1.b _, trivial⟩ rfl rfl rfl
      · obtain ⟨hpa, hpb⟩ := hp2 0 hq
        rw [show cmp .eql (ea 0) 2 = false from (eql_of hA _ _).trans (decide_eq_false hq)]
        cbv
        rw [f1]
        cbv
        rw [f2]
        cbv
        rw [f31]
        cbv
        rw [f41]
        cbv
        obtain ⟨w, hw⟩ : ∃ w, w = bin .and .i64 (eb 0) 1 := ⟨_, rfl⟩
        rw [← hw]
        have hw2 : w = intBin .and .i64 (eb 0) 1 := hw.trans (by rw [show bin = intBin from bin_of hA])
        have hwp : w = pb 0 := hw2.trans hpb
        obtain ⟨b, hb⟩ : ∃ b, cmp .eql w 1 = b := ⟨_, rfl⟩
        have hwb : w = b2i b := by
          rw [← hb, show cmp .eql w 1 = _ from eql_of hA _ _]
          rcases and_one (eb 0) with h | h <;> rw [← hw2] at h <;> rw [h] <;> rfl
        rw [hb]
        cbv
        refine call_gen rfl hg rfl rfl (cBranchB0 hP b w hwb) (fun _ => 1) rfl ⟨rfl, trivial⟩ rfl rfl rfl ?_
        rintro _ _ _ ⟨rfl, c1, tail, h1, h2, h3, h4, rfl, rfl⟩ _
        have hR1 := rowP_one (pa := pa) (pb := pb) hpa hwp h1 h2 h3 h4
        obtain ⟨X, hX⟩ : ∃ X, X = [SV.int .i64 1, SV.int .i64 w] ++ tail := ⟨_, rfl⟩
        rw [← hX] at hR1 ⊢
        have rX : ∀ r, renL r X = X := fun r => renL_cl X (hR1.b 0)
        simp only [renB, rX]
        cbv
        refine call_val rfl hg rfl rfl (cNum hP 0) ?_
        rintro _ _ _ rfl
        cbv
        rw [z0]
        cbv
        rw [f1]
        cbv
        rw [f2]
        cbv
        rw [f31]
        cbv
        rw [f41]
        cbv
        rw [← hw]
        refine step_append_nil (hP ▸ tblOk) hg rfl rfl (show tyT 42 = some _ from rfl) rfl (show tyT 46 = some _ from rfl) (bytesEv hP) (by decide) (show ev _ _ = some .nils from rfl) (show ev _ _ = some (.slice 6 0 1 1) from rfl) (show find _ 6 = some _ from rfl) (by exact Nat.le_refl 2) (by decide) (by decide) (by decide) ?_
        intro d1 g1 g2
        simp only [List.drop_zero, Nat.reduceMul, List.take_succ_cons, List.take_zero]
        obtain ⟨tl, ht⟩ : ∃ tail, tail = rep (d1 - 1) [SV.int .i64 0, SV.int .i64 0] := ⟨_, rfl⟩
        have g3 : tl.length = (d1 - 1) * 2 := by rw [ht, rep_length]; rfl
        have g4 : ∀ q, bdLB q tl = true := fun q => ht ▸ rep_bdLB rfl _
        have hS1 := rowP_one (pa := pa) (pb := pb) hpa hwp g1 g2 g3 g4
        obtain ⟨Y, hY⟩ : ∃ Y, Y = [SV.int .i64 1, SV.int .i64 w] ++ tl := ⟨_, rfl⟩
        rw [← hY] at hS1
        rw [show [SV.int .i64 1, SV.int .i64 w] ++ rep (d1 - 1) [SV.int .i64 0, SV.int .i64 0] = Y from hY.symm ▸ ht ▸ rfl]
        have rY : ∀ r, renL r Y = Y := fun r => renL_cl Y (hS1.b 0)
        cbv
        rw [f8]
        refine ⟨.inr (1, c1, X, d1, Y), fun l => if l = 2 then 5 else if l = 3 then 7 else l, ⟨by omega, by omega, hR1, hS1⟩, (by show n - 1 < n + 1; omega), ?_⟩
        exact weak_rho ⟨rfl, rfl, rfl, rfl, rfl, rfl, rfl, rfl, rfl, rfl, rfl, rfl, trivial⟩ ⟨by rw [rE]; rfl, rfl, rfl, bE _, rfl, rfl, rfl, rfl, by rw [rX]; rfl, rfl, rfl, hR1.b _, by rw [rY]; rfl, rfl, rfl, hS1.b _, trivial⟩ rfl rfl rfl
  · obtain ⟨hkn, hk200, hR, hS⟩ := hs
    have bC := hR.b
    have bD := hS.b
    have rC : ∀ r, renL r C = C := fun r => renL_cl C (bC 0)
    have rD : ∀ r, renL r D = D := fun r => renL_cl D (bD 0)
    have ek : nat k = Int.ofNat k := nat_of hA k
    cbv
    by_cases hz : n ≤ k
    · rw [en, show cmp .lss (Int.ofNat k) (Int.ofNat n) = false from (lss_of hA _ _).trans (decide_eq_false (by simp; omega))]
      cbv
      refine call_gen rfl hg rfl rfl (cEvents hP k c' C (by have := hR.len; have := hR.kc; omega) (by omega) bC hR.one) (fun l => if l = 0 then 1 else 2) rfl ⟨rfl, by rw [rC]; rfl, trivial⟩ rfl rfl rfl ?_
      rintro _ _ _ ⟨a1, ta, rfl, a2, a3, a4, a5, rfl, rfl⟩ _
      obtain ⟨Z, hZ⟩ : ∃ Z, Z = C.take (k * 2) ++ ta := ⟨_, rfl⟩
      rw [← hZ]
      have bZ : ∀ q, bdLB q Z = true := fun q => hZ ▸ bdLB_append (bdLB_take (bC q)) (a5 q)
      have rZ : ∀ r, renL r Z = Z := fun r => renL_cl Z (bZ 0)
      have aZ := hZ ▸ rowP_copy hR ta
      simp only [renB, rC, rD, rZ]
      cbv
      refine call_ro rfl hg rfl rfl (cSameEvG hP (t1 := 46) (t2 := 46) 0 k a1 0 k d' Z D pa pb pa pb (by omega) (fun _ => by have := aZ.1; omega) (fun _ => by have := hS.len; have := hS.kc; omega) (fun j hj => by rw [Nat.zero_add]; exact aZ.2 j hj) (fun j hj => by rw [Nat.zero_add]; exact hS.at_ j hj) bZ bD true (decide_eq_true ⟨rfl, fun _ _ => ⟨rfl, rfl⟩⟩).symm) (fun l => if l = 0 then 5 else 3) rfl ⟨by rw [rZ]; rfl, by rw [rD]; rfl, trivial⟩ ?_
      rintro _ _ _ rfl
      cbv
      rw [n1]
      cbv
      refine call_ro rfl hg rfl rfl (cLen hP k c') (fun l => if l = 0 then 1 else 2) rfl ⟨rfl, trivial⟩ ?_
      rintro _ _ _ rfl
      cbv
      rw [ek, show cmp .neq (Int.ofNat k) (Int.ofNat k) = false from (neq_of hA _ _).trans (by simp)]
      cbv
      refine call_gen rfl hg rfl rfl (cSpoil hP k a1 Z aZ.1 (by omega) ⟨pa, pb, aZ.2⟩ bZ) (fun _ => 5) rfl ⟨by rw [rZ]; rfl, trivial⟩ rfl rfl rfl ?_
      rintro _ _ _ ⟨Z', rfl, rfl, bZ'⟩ _
      have rZ' : ∀ r, renL r Z' = Z' := fun r => renL_cl Z' (bZ' 0)
      simp only [renB, rZ']
      cbv
      refine call_gen rfl hg rfl rfl (cLendS hP o n c E hE hn ea eb hEj bE) (fun _ => 0) rfl ⟨by rw [rE]; rfl, trivial⟩ rfl rfl rfl ?_
      rintro _ _ _ ⟨cx, X, rfl, hcx, hX, rfl, rfl⟩ _
      have rX : ∀ r, renL r X = X := fun r => renL_cl X (hX.b 0)
      simp only [renB, rX, rE]
      cbv
      refine call_gen rfl hg rfl rfl (cLendN hP ga gb) id rfl trivial rfl rfl rfl ?_
      rintro _ _ _ ⟨cy, Y, rfl, hcy, hY, rfl, rfl⟩ _
      have rY : ∀ r, renL r Y = Y := fun r => renL_cl Y (hY.b 0)
      simp only [renB, rY, rX]
      cbv
      refine call_gen rfl hg rfl rfl (cEvents hP k c' C (by have := hR.len; have := hR.kc; omega) (by omega) bC hR.one) (fun l => if l = 0 then 1 else 2) rfl ⟨rfl, by rw [rC]; rfl, trivial⟩ rfl rfl rfl ?_
      rintro _ _ _ ⟨b1, tb, rfl, b2, b3, b4, b5, rfl, rfl⟩ _
      obtain ⟨V, hV⟩ : ∃ Z, Z = C.take (k * 2) ++ tb := ⟨_, rfl⟩
      rw [← hV]
      have bV : ∀ q, bdLB q V = true := fun q => hV ▸ bdLB_append (bdLB_take (bC q)) (b5 q)
      have rV : ∀ r, renL r V = V := fun r => renL_cl V (bV 0)
      have aV := hV ▸ rowP_copy hR tb
      simp only [renB, rC, rV]
      cbv
      refine call_ro rfl hg rfl rfl (cSameEvG hP (t1 := 46) (t2 := 46) 0 k b1 0 k d' V D pa pb pa pb (by omega) (fun _ => by have := aV.1; omega) (fun _ => by have := hS.len; have := hS.kc; omega) (fun j hj => by rw [Nat.zero_add]; exact aV.2 j hj) (fun j hj => by rw [Nat.zero_add]; exact hS.at_ j hj) bV bD true (decide_eq_true ⟨rfl, fun _ _ => ⟨rfl, rfl⟩⟩).symm) (fun l => if l = 0 then 14 else 3) rfl ⟨by rw [rV]; rfl, by rw [rD]; rfl, trivial⟩ ?_
      rintro _ _ _ rfl
      cbv
      refine call_ro rfl hg rfl rfl (cSameTrG hP (t1 := 46) (t2 := 46) 0 n cx 0 0 cy X Y ea eb ga gb (by omega) (fun _ => by have := hX.len; omega) (fun _ => by have := hY.len; omega) (fun j hj => by rw [Nat.zero_add]; exact hX.at_ j hj) (fun j hj => by rw [Nat.zero_add]; exact hY.at_ j hj) hX.b hY.b r hr) (fun l => if l = 0 then 9 else 12) rfl ⟨by rw [rX]; rfl, by rw [rY]; rfl, trivial⟩ ?_
      rintro _ _ _ rfl
      cbv
      refine call_ro rfl hg rfl rfl (cSameESN hP (t := t) o n c E bE r hr2) id rfl ⟨by rw [rE]; rfl, trivial⟩ ?_
      rintro _ _ _ rfl
      cbv
      rw [show beq r r = true from beq_of hA r]
      cbv
      refine call_ro rfl hg rfl rfl (cSameTrG hP (t1 := 46) (t2 := 46) 0 0 cy 0 0 cy Y Y ga gb ga gb (by omega) (fun _ => by have := hY.len; omega) (fun _ => by have := hY.len; omega) (fun j hj => by rw [Nat.zero_add]; exact hY.at_ j hj) (fun j hj => by rw [Nat.zero_add]; exact hY.at_ j hj) hY.b hY.b true (decide_eq_true ⟨rfl, fun _ _ => ⟨rfl, rfl⟩⟩).symm) (fun _ => 12) rfl ⟨by rw [rY]; rfl, by rw [rY]; rfl, trivial⟩ ?_
      rintro _ _ _ rfl
      cbv
      refine call_ro rfl hg rfl rfl (cKeptS hP (t := t) cx o n c X E hcx hE hn ea eb hX hEj bE) (fun l => if l = 0 then 9 else 0) rfl ⟨by rw [rX]; rfl, by rw [rE]; rfl, trivial⟩ ?_
      rintro _ _ _ rfl
      cbv
      refine call_ro rfl hg rfl rfl (cKeptN hP cy Y hcy ga gb hY) (fun _ => 12) rfl ⟨by rw [rY]; rfl, trivial⟩ ?_
      rintro _ _ _ rfl
      cbv
      refine call_val rfl hg rfl rfl (cAwake3 hP) ?_
      rintro _ _ _ rfl
      cbv
      exact hK _ _ _ rfl
    · rw [en, show cmp .lss (Int.ofNat k) (Int.ofNat n) = true from (lss_of hA _ _).trans (decide_eq_true (by simp; omega))]
      cbv
      by_cases h200 : 200 ≤ k
      · rw [show cmp .lss (Int.ofNat k) 200 = false from (lss_of hA _ _).trans (decide_eq_false (by simp; omega))]
        cbv
        refine call_gen rfl hg rfl rfl (cEvents hP k c' C (by have := hR.len; have := hR.kc; omega) (by omega) bC hR.one) (fun l => if l = 0 then 1 else 2) rfl ⟨rfl, by rw [rC]; rfl, trivial⟩ rfl rfl rfl ?_
        rintro _ _ _ ⟨a1, ta, rfl, a2, a3, a4, a5, rfl, rfl⟩ _
        obtain ⟨Z, hZ⟩ : ∃ Z, Z = C.take (k * 2) ++ ta := ⟨_, rfl⟩
        rw [← hZ]
        have bZ : ∀ q, bdLB q Z = true := fun q => hZ ▸ bdLB_append (bdLB_take (bC q)) (a5 q)
        have rZ : ∀ r, renL r Z = Z := fun r => renL_cl Z (bZ 0)
        have aZ := hZ ▸ rowP_copy hR ta
        simp only [renB, rC, rD, rZ]
        cbv
        refine call_ro rfl hg rfl rfl (cSameEvG hP (t1 := 46) (t2 := 46) 0 k a1 0 k d' Z D pa pb pa pb (by omega) (fun _ => by have := aZ.1; omega) (fun _ => by have := hS.len; have := hS.kc; omega) (fun j hj => by rw [Nat.zero_add]; exact aZ.2 j hj) (fun j hj => by rw [Nat.zero_add]; exact hS.at_ j hj) bZ bD true (decide_eq_true ⟨rfl, fun _ _ => ⟨rfl, rfl⟩⟩).symm) (fun l => if l = 0 then 5 else 3) rfl ⟨by rw [rZ]; rfl, by rw [rD]; rfl, trivial⟩ ?_
        rintro _ _ _ rfl
        cbv
        rw [n1]
        cbv
        refine call_ro rfl hg rfl rfl (cLen hP k c') (fun l => if l = 0 then 1 else 2) rfl ⟨rfl, trivial⟩ ?_
        rintro _ _ _ rfl
        cbv
        rw [ek, show cmp .neq (Int.ofNat k) (Int.ofNat k) = false from (neq_of hA _ _).trans (by simp)]
        cbv
        refine call_gen rfl hg rfl rfl (cSpoil hP k a1 Z aZ.1 (by omega) ⟨pa, pb, aZ.2⟩ bZ) (fun _ => 5) rfl ⟨by rw [rZ]; rfl, trivial⟩ rfl rfl rfl ?_
        rintro _ _ _ ⟨Z', rfl, rfl, bZ'⟩ _
        have rZ' : ∀ r, renL r Z' = Z' := fun r => renL_cl Z' (bZ' 0)
        simp only [renB, rZ']
        cbv
        refine call_gen rfl hg rfl rfl (cLendS hP o n c E hE hn ea eb hEj bE) (fun _ => 0) rfl ⟨by rw [rE]; rfl, trivial⟩ rfl rfl rfl ?_
        rintro _ _ _ ⟨cx, X, rfl, hcx, hX, rfl, rfl⟩ _
        have rX : ∀ r, renL r X = X := fun r => renL_cl X (hX.b 0)
        simp only [renB, rX, rE]
        cbv
        refine call_gen rfl hg rfl rfl (cLendN hP ga gb) id rfl trivial rfl rfl rfl ?_
        rintro _ _ _ ⟨cy, Y, rfl, hcy, hY, rfl, rfl⟩ _
        have rY : ∀ r, renL r Y = Y := fun r => renL_cl Y (hY.b 0)
        simp only [renB, rY, rX]
        cbv
        refine call_gen rfl hg rfl rfl (cEvents hP k c' C (by have := hR.len; have := hR.kc; omega) (by omega) bC hR.one) (fun l => if l = 0 then 1 else 2) rfl ⟨rfl, by rw [rC]; rfl, trivial⟩ rfl rfl rfl ?_
        rintro _ _ _ ⟨b1, tb, rfl, b2, b3, b4, b5, rfl, rfl⟩ _
        obtain ⟨V, hV⟩ : ∃ Z, Z = C.take (k * 2) ++ tb := ⟨_, rfl⟩
        rw [← hV]
        have bV : ∀ q, bdLB q V = true := fun q => hV ▸ bdLB_append (bdLB_take (bC q)) (b5 q)
        have rV : ∀ r, renL r V = V := fun r => renL_cl V (bV 0)
        have aV := hV ▸ rowP_copy hR tb
        simp only [renB, rC, rV]
        cbv
        refine call_ro rfl hg rfl rfl (cSameEvG hP (t1 := 46) (t2 := 46) 0 k b1 0 k d' V D pa pb pa pb (by omega) (fun _ => by have := aV.1; omega) (fun _ => by have := hS.len; have := hS.kc; omega) (fun j hj => by rw [Nat.zero_add]; exact aV.2 j hj) (fun j hj => by rw [Nat.zero_add]; exact hS.at_ j hj) bV bD true (decide_eq_true ⟨rfl, fun _ _ => ⟨rfl, rfl⟩⟩).symm) (fun l => if l = 0 then 14 else 3) rfl ⟨by rw [rV]; rfl, by rw [rD]; rfl, trivial⟩ ?_
        rintro _ _ _ rfl
        cbv
        refine call_ro rfl hg rfl rfl (cSameTrG hP (t1 := 46) (t2 := 46) 0 n cx 0 0 cy X Y ea eb ga gb (by omega) (fun _ => by have := hX.len; omega) (fun _ => by have := hY.len; omega) (fun j hj => by rw [Nat.zero_add]; exact hX.at_ j hj) (fun j hj => by rw [Nat.zero_add]; exact hY.at_ j hj) hX.b hY.b r hr) (fun l => if l = 0 then 9 else 12) rfl ⟨by rw [rX]; rfl, by rw [rY]; rfl, trivial⟩ ?_
        rintro _ _ _ rfl
        cbv
        refine call_ro rfl hg rfl rfl (cSameESN hP (t := t) o n c E bE r hr2) id rfl ⟨by rw [rE]; rfl, trivial⟩ ?_
        rintro _ _ _ rfl
        cbv
        rw [show beq r r = true from beq_of hA r]
        cbv
        refine call_ro rfl hg rfl rfl (cSameTrG hP (t1 := 46) (t2 := 46) 0 0 cy 0 0 cy Y Y ga gb ga gb (by omega) (fun _ => by have := hY.len; omega) (fun _ => by have := hY.len; omega) (fun j hj => by rw [Nat.zero_add]; exact hY.at_ j hj) (fun j hj => by rw [Nat.zero_add]; exact hY.at_ j hj) hY.b hY.b true (decide_eq_true ⟨rfl, fun _ _ => ⟨rfl, rfl⟩⟩).symm) (fun _ => 12) rfl ⟨by rw [rY]; rfl, by rw [rY]; rfl, trivial⟩ ?_
        rintro _ _ _ rfl
        cbv
        refine call_ro rfl hg rfl rfl (cKeptS hP (t := t) cx o n c X E hcx hE hn ea eb hX hEj bE) (fun l => if l = 0 then 9 else 0) rfl ⟨by rw [rX]; rfl, by rw [rE]; rfl, trivial⟩ ?_
        rintro _ _ _ rfl
        cbv
        refine call_ro rfl hg rfl rfl (cKeptN hP cy Y hcy ga gb hY) (fun _ => 12) rfl ⟨by rw [rY]; rfl, trivial⟩ ?_
        rintro _ _ _ rfl
        cbv
        refine call_val rfl hg rfl rfl (cAwake3 hP) ?_
        rintro _ _ _ rfl
        cbv
        exact hK _ _ _ rfl
      · rw [show cmp .lss (Int.ofNat k) 200 = true from (lss_of hA _ _).trans (decide_eq_true (by simp; omega))]
        cbv
        have hp : k < n := by omega
        have f1 : ix (Int.ofNat k) n = some k := ix_of hA (k := k) hp
        have f2 : off o k 2 = o + k * 2 := off_of hA o k 2
        have f30 : off (o + k * 2) 0 1 = o + k * 2 := off_of hA _ 0 1
        have f31 : off (o + k * 2) 1 1 = o + k * 2 + 1 := off_of hA _ 1 1
        have f40 : get E (o + k * 2) = some (.int .i64 (ea k)) := (get_of hA _ _).trans (pair_get0 (hEj k hp))
        have f41 : get E (o + k * 2 + 1) = some (.int .i64 (eb k)) := (get_of hA _ _).trans (pair_get (hEj k hp))
        have f5 : sub E (o + k * 2) 2 = some [.int .i64 (ea k), .int .i64 (eb k)] := sub_of hA (by have := hE (by omega); omega) (hEj k hp)
        have f8 : bin .add .i64 (Int.ofNat k) 1 = Int.ofNat (k + 1) := add_of hA (k := k) (by omega)
        generalize ho1 : o + k * 2 + 1 = o1 at f31 f41
        generalize ho2 : o + k * 2 = o2 at f2 f30 f31 f40 f5
        rw [f1]
        cbv
        rw [f2]
        cbv
        rw [f30]
        cbv
        rw [f40]
        cbv
        by_cases hq : ea k = 2
        · obtain ⟨hpa, hpb, hpc⟩ := hp1 k hq
          rw [show cmp .eql (ea k) 2 = true from (eql_of hA _ _).trans (decide_eq_true hq)]
          cbv
          rw [f1]
          cbv
          rw [f2]
          cbv
          rw [f31]
          cbv
          rw [f41]
          cbv
          refine call_gen rfl hg rfl rfl (cIndex hP (eb k) k c' C hR.len hR.kc hR.cm (by omega) bC) (fun l => if l = 0 then 1 else 2) rfl ⟨rfl, by rw [rC]; rfl, trivial⟩ rfl rfl rfl ?_
          rintro _ _ _ ⟨rfl, c1, tail, h1, h2, h3, h4, rfl, rfl⟩ _
          have hR1 := rowP_more hR hpa hpc h1 h2 h3 h4
          obtain ⟨X, hX⟩ : ∃ X, X = C.take (k * 2) ++ [SV.int .i64 2, SV.int .i64 (eb k)] ++ tail := ⟨_, rfl⟩
          rw [← hX] at hR1 ⊢
          have rX : ∀ r, renL r X = X := fun r => renL_cl X (hR1.b 0)
          obtain ⟨k2, hk2⟩ : ∃ k2, k2 = k + 1 := ⟨_, rfl⟩
          rw [← hk2] at f8 hR1 h1 h3 ⊢
          simp only [renB, rX]
          cbv
          refine call_val rfl hg rfl rfl (cNum hP 0) ?_
          rintro _ _ _ rfl
          cbv
          rw [z0]
          cbv
          rw [f1]
          cbv
          rw [f2]
          cbv
          rw [f5]
          cbv
          refine step_append_own (hP ▸ tblOk) hg rfl rfl (show tyT 42 = some _ from rfl) rfl (show tyT 46 = some _ from rfl) (bytesEv hP) (by decide) (show ev _ _ = some (.slice 3 0 k d') from rfl) (show find _ 3 = some _ from rfl) rfl hS.kc hS.len hS.cm (show ev _ _ = some (.slice 6 0 1 1) from rfl) (show find _ 6 = some _ from rfl) (by exact Nat.le_refl 2) rfl (by simp only [maxLen]; omega) (by omega) ?_
          intro d1 tl g1 g2 g3 g4
          have hS1 := rowP_more hS hpb hpc g1 g2 g3 (fun q => g4 q (bD q) rfl)
          simp only [List.drop_zero, Nat.reduceMul, List.take_succ_cons, List.take_zero]
          obtain ⟨Y, hY⟩ : ∃ Y, Y = D.take (k * 2) ++ [SV.int .i64 (ea k), SV.int .i64 (eb k)] ++ tl := ⟨_, rfl⟩
          rw [← hY] at hS1 ⊢
          rw [← hk2] at hS1 ⊢
          have rY : ∀ r, renL r Y = Y := fun r => renL_cl Y (hS1.b 0)
          cbv
          rw [f8]
          refine ⟨.inr (k2, c1, X, d1, Y), fun l => if l = 2 then 5 else if l = 3 then 7 else l, ⟨by omega, by omega, hR1, hS1⟩, (by show n - k2 < n - k; omega), ?_⟩
          exact weak_rho ⟨rfl, rfl, rfl, rfl, rfl, rfl, rfl, rfl, rfl, rfl, rfl, rfl, trivial⟩ ⟨by rw [rE]; rfl, rfl, rfl, bE _, rfl, rfl, rfl, rfl, by rw [rX]; rfl, rfl, rfl, hR1.b _, by rw [rY]; rfl, rfl, rfl, hS1.b _, trivial⟩ rfl rfl rfl
        · obtain ⟨hpa, hpb⟩ := hp2 k hq
          rw [show cmp .eql (ea k) 2 = false from (eql_of hA _ _).trans (decide_eq_false hq)]
          cbv
          rw [f1]
          cbv
          rw [f2]
          cbv
          rw [f31]
          cbv
          rw [f41]
          cbv
          obtain ⟨w, hw⟩ : ∃ w, w = bin .and .i64 (eb k) 1 := ⟨_, rfl⟩
          rw [← hw]
          have hw2 : w = intBin .and .i64 (eb k) 1 := hw.trans (by rw [show bin = intBin from bin_of hA])
          have hwp : w = pb k := hw2.trans hpb
          obtain ⟨b, hb⟩ : ∃ b, cmp .eql w 1 = b := ⟨_, rfl⟩
          have hwb : w = b2i b := by
            rw [← hb, show cmp .eql w 1 = _ from eql_of hA _ _]
            rcases and_one (eb k) with h | h <;> rw [← hw2] at h <;> rw [h] <;> rfl
          rw [hb]
          cbv
          refine call_gen rfl hg rfl rfl (cBranchB hP b w hwb k c' C hR.len hR.kc hR.cm (by omega) bC) (fun l => if l = 0 then 1 else 2) rfl ⟨rfl, by rw [rC]; rfl, trivial⟩ rfl rfl rfl ?_
          rintro _ _ _ ⟨rfl, c1, tail, h1, h2, h3, h4, rfl, rfl⟩ _
          have hR1 := rowP_more hR hpa hwp h1 h2 h3 h4
          obtain ⟨X, hX⟩ : ∃ X, X = C.take (k * 2) ++ [SV.int .i64 1, SV.int .i64 w] ++ tail := ⟨_, rfl⟩
          rw [← hX] at hR1 ⊢
          have rX : ∀ r, renL r X = X := fun r => renL_cl X (hR1.b 0)
          obtain ⟨k2, hk2⟩ : ∃ k2, k2 = k + 1 := ⟨_, rfl⟩
          rw [← hk2] at f8 hR1 h1 h3 ⊢
          simp only [renB, rX]
          cbv
          refine call_val rfl hg rfl rfl (cNum hP 0) ?_
          rintro _ _ _ rfl
          cbv
          rw [z0]
          cbv
          rw [f1]
          cbv
          rw [f2]
          cbv
          rw [f31]
          cbv
          rw [f41]
          cbv
          rw [← hw]
          refine step_append_own (hP ▸ tblOk) hg rfl rfl (show tyT 42 = some _ from rfl) rfl (show tyT 46 = some _ from rfl) (bytesEv hP) (by decide) (show ev _ _ = some (.slice 3 0 k d') from rfl) (show find _ 3 = some _ from rfl) rfl hS.kc hS.len hS.cm (show ev _ _ = some (.slice 6 0 1 1) from rfl) (show find _ 6 = some _ from rfl) (by exact Nat.le_refl 2) rfl (by simp only [maxLen]; omega) (by omega) ?_
          intro d1 tl g1 g2 g3 g4
          have hS1 := rowP_more hS hpa hwp g1 g2 g3 (fun q => g4 q (bD q) rfl)
          simp only [List.drop_zero, Nat.reduceMul, List.take_succ_cons, List.take_zero]
          obtain ⟨Y, hY⟩ : ∃ Y, Y = D.take (k * 2) ++ [SV.int .i64 1, SV.int .i64 w] ++ tl := ⟨_, rfl⟩
          rw [← hY] at hS1 ⊢
          rw [← hk2] at hS1 ⊢
          have rY : ∀ r, renL r Y = Y := fun r => renL_cl Y (hS1.b 0)
          cbv
          rw [f8]
          refine ⟨.inr (k2, c1, X, d1, Y), fun l => if l = 2 then 5 else if l = 3 then 7 else l, ⟨by omega, by omega, hR1, hS1⟩, (by show n - k2 < n - k; omega), ?_⟩
          exact weak_rho ⟨rfl, rfl, rfl, rfl, rfl, rfl, rfl, rfl, rfl, rfl, rfl, rfl, trivial⟩ ⟨by rw [rE]; rfl, rfl, rfl, bE _, rfl, rfl, rfl, rfl, by rw [rX]; rfl, rfl, rfl, hR1.b _, by rw [rY]; rfl, rfl, rfl, hS1.b _, trivial⟩ rfl rfl rfl
set_option maxHeartbeats 8000000 in
theorem cTracesNS {P : Program} (hP : P = Try.prog) {t' : TypeId} (u m d : Nat) (G : List SV) (hG : 0 < m → u + m * 2 ≤ G.length) (hm : m * 16 ≤ 140737488351232) (ga gb : Nat → Int) (hGj : ∀ j, j < m → (G.drop (u + j * 2)).take 2 = [.int .i64 (ga j), .int .i64 (gb j)]) (bG : ∀ m, bdLB m G = true) :
    Con P 8 [.nils, .slice 0 u m d] [⟨0, G, t'⟩] 1 [] (fun v _ _ => v = .bool true) := by
  refine Con.of (hP ▸ tblOk) (hP ▸ Try.func8) rfl rfl rfl rfl (by decide) rfl rfl ⟨trivial, Nat.zero_lt_succ _, trivial⟩ (by simpa using bdLB_bd _ (bG 1)) ?_
  intro A g K hA hg hK
  obtain ⟨bin, sh, cmp, una, cvt, ix, nn, nz, bnot, beq, scat, scmp, slen, six, nat, off, get, set, sub, spl⟩ := A
  have z0 : cmp .neq 0 0 = false := (neq_of hA _ _).trans rfl
  have n1 : bnot true = false := bnot_of hA true
  obtain ⟨ea, eb⟩ : (Nat → Int) × (Nat → Int) := (fun _ => 0, fun _ => 0)
  have rG : ∀ r, renL r G = G := fun r => renL_cl G (bG 0)
  obtain ⟨r, hr⟩ : ∃ r, r = decide ((0 : Nat) = m ∧ ∀ j : Nat, j < (0 : Nat) → ea j = ga j ∧ eb j = gb j) := ⟨_, rfl⟩
  have hr2 : r = decide (m = 0) := by rw [hr]; exact decide_eq_decide.2 ⟨fun h => h.1.symm, fun h => ⟨h.symm, fun j hj => by omega⟩⟩
  cbv
  refine call_gen rfl hg rfl rfl (cNew hP) id rfl trivial rfl rfl rfl ?_
  rintro _ _ _ ⟨rfl, rfl, rfl⟩ _
  cbv
  refine ⟨Unit, fun _ => True, fun _ => 0, fun _ => [(0, .nils), (1, .slice 0 u m d), (4, .bool false), (5, .ptr 1 0), (6, .nils), (7, .int .i64 0)],
    fun _ => [⟨0, G, t'⟩, ⟨1, [.nils], 62⟩], 4, ⟨(), id, trivial, ?_⟩, ?_⟩
  · exact weak_id ⟨rfl, rfl, rfl, rfl, rfl, rfl, rfl, rfl, rfl, rfl, rfl, rfl, trivial⟩ ⟨rfl, rfl, bG _, rfl, rfl, rfl, trivial⟩ rfl rfl
  rintro _ _
  cbv
  rw [show cmp .lss 0 0 = false from (lss_of hA _ _).trans rfl]
  cbv
  refine call_ro rfl hg rfl rfl (cEvents0 hP) (fun _ => 1) rfl ⟨rfl, trivial⟩ ?_
  rintro _ _ _ rfl
  cbv
  refine call_val rfl hg rfl rfl (cSameENN hP) ?_
  rintro _ _ _ rfl
  cbv
  rw [n1]
  cbv
  refine call_ro rfl hg rfl rfl (cLen0 hP) (fun _ => 1) rfl ⟨rfl, trivial⟩ ?_
  rintro _ _ _ rfl
  cbv
  rw [z0]
  cbv
  refine call_val rfl hg rfl rfl (cSpoilN hP) ?_
  rintro _ _ _ rfl
  cbv
  refine call_gen rfl hg rfl rfl (cLendN hP ea eb) id rfl trivial rfl rfl rfl ?_
  rintro _ _ _ ⟨cx, X, rfl, hcx, hX, rfl, rfl⟩ _
  have rX : ∀ r, renL r X = X := fun r => renL_cl X (hX.b 0)
  simp only [renB, rX]
  cbv
  refine call_gen rfl hg rfl rfl (cLendS hP u m d G hG hm ga gb hGj bG) (fun _ => 0) rfl ⟨by rw [rG]; rfl, trivial⟩ rfl rfl rfl ?_
  rintro _ _ _ ⟨cy, Y, rfl, hcy, hY, rfl, rfl⟩ _
  have rY : ∀ r, renL r Y = Y := fun r => renL_cl Y (hY.b 0)
  simp only [renB, rY, rX, rG]
  cbv
  refine call_ro rfl hg rfl rfl (cEvents0 hP) (fun _ => 1) rfl ⟨rfl, trivial⟩ ?_
  rintro _ _ _ rfl
  cbv
  refine call_val rfl hg rfl rfl (cSameENN hP) ?_
  rintro _ _ _ rfl
  cbv
  refine call_ro rfl hg rfl rfl (cSameTrG hP (t1 := 46) (t2 := 46) 0 0 cx 0 m cy X Y ea eb ga gb (by omega) (fun _ => by have := hX.len; omega) (fun _ => by have := hY.len; omega) (fun j hj => by rw [Nat.zero_add]; exact hX.at_ j hj) (fun j hj => by rw [Nat.zero_add]; exact hY.at_ j hj) hX.b hY.b r hr) (fun l => if l = 0 then 6 else 10) rfl ⟨by rw [rX]; rfl, by rw [rY]; rfl, trivial⟩ ?_
  rintro _ _ _ rfl
  cbv
  refine call_ro rfl hg rfl rfl (cSameENS hP (t := t') u m d G bG r hr2) id rfl ⟨by rw [rG]; rfl, trivial⟩ ?_
  rintro _ _ _ rfl
  cbv
  rw [show beq r r = true from beq_of hA r]
  cbv
  refine call_ro rfl hg rfl rfl (cSameTrG hP (t1 := 46) (t2 := 46) 0 m cy 0 m cy Y Y ga gb ga gb (by omega) (fun _ => by have := hY.len; omega) (fun _ => by have := hY.len; omega) (fun j hj => by rw [Nat.zero_add]; exact hY.at_ j hj) (fun j hj => by rw [Nat.zero_add]; exact hY.at_ j hj) hY.b hY.b true (decide_eq_true ⟨rfl, fun _ _ => ⟨rfl, rfl⟩⟩).symm) (fun _ => 10) rfl ⟨by rw [rY]; rfl, by rw [rY]; rfl, trivial⟩ ?_
  rintro _ _ _ rfl
  cbv
  refine call_ro rfl hg rfl rfl (cKeptN hP cx X hcx ea eb hX) (fun _ => 6) rfl ⟨by rw [rX]; rfl, trivial⟩ ?_
  rintro _ _ _ rfl
  cbv
  refine call_ro rfl hg rfl rfl (cKeptS hP (t := t') cy u m d Y G hcy hG hm ga gb hY hGj bG) (fun l => if l = 0 then 10 else 0) rfl ⟨by rw [rY]; rfl, by rw [rG]; rfl, trivial⟩ ?_
  rintro _ _ _ rfl
  cbv
  refine call_val rfl hg rfl rfl (cAwake3 hP) ?_
  rintro _ _ _ rfl
  cbv
  exact hK _ _ _ rfl
set_option maxHeartbeats 8000000 in
theorem cTracesSS {P : Program} (hP : P = Try.prog) {t : TypeId} (o n c : Nat) (E : List SV) (hE : 0 < n → o + n * 2 ≤ E.length) (hn : n * 16 ≤ 140737488351232) (ea eb : Nat → Int) (hEj : ∀ j, j < n → (E.drop (o + j * 2)).take 2 = [.int .i64 (ea j), .int .i64 (eb j)]) (bE : ∀ m, bdLB m E = true) {t' : TypeId} (u m d : Nat) (G : List SV) (hG : 0 < m → u + m * 2 ≤ G.length) (hm : m * 16 ≤ 140737488351232) (ga gb : Nat → Int) (hGj : ∀ j, j < m → (G.drop (u + j * 2)).take 2 = [.int .i64 (ga j), .int .i64 (gb j)]) (bG : ∀ m, bdLB m G = true) :
    Con P 8 [.slice 0 o n c, .slice 1 u m d] [⟨0, E, t⟩, ⟨1, G, t'⟩] 2 [] (fun v _ _ => v = .bool true) := by
  refine Con.of (hP ▸ tblOk) (hP ▸ Try.func8) rfl rfl rfl rfl (by decide) rfl rfl ⟨Nat.zero_lt_succ _, Nat.lt_succ_self _, trivial⟩ (by simpa using ⟨bdLB_bd _ (bE 2), bdLB_bd _ (bG 2)⟩) ?_
  intro A g K hA hg hK
  obtain ⟨bin, sh, cmp, una, cvt, ix, nn, nz, bnot, beq, scat, scmp, slen, six, nat, off, get, set, sub, spl⟩ := A
  have z0 : cmp .neq 0 0 = false := (neq_of hA _ _).trans rfl
  have n1 : bnot true = false := bnot_of hA true
  have en : nat n = Int.ofNat n := nat_of hA n
  have rE : ∀ r, renL r E = E := fun r => renL_cl E (bE 0)
  have rG : ∀ r, renL r G = G := fun r => renL_cl G (bG 0)
  obtain ⟨r, hr⟩ : ∃ r, r = decide (n = m ∧ ∀ j : Nat, j < n → ea j = ga j ∧ eb j = gb j) := ⟨_, rfl⟩
  obtain ⟨pa, pb, hp1, hp2⟩ : ∃ pa pb : Nat → Int, (∀ j, ea j = 2 → 2 = pa j ∧ ea j = pa j ∧ eb j = pb j) ∧ ∀ j, ea j ≠ 2 → 1 = pa j ∧ intBin .and .i64 (eb j) 1 = pb j :=
    ⟨fun j => if ea j = 2 then 2 else 1, fun j => if ea j = 2 then eb j else intBin .and .i64 (eb j) 1, fun j h => by simp [h], fun j h => by simp [h]⟩
  cbv
  refine call_gen rfl hg rfl rfl (cNew hP) id rfl trivial rfl rfl rfl ?_
  rintro _ _ _ ⟨rfl, rfl, rfl⟩ _
  cbv
  refine ⟨Unit ⊕ (Nat × Nat × List SV × Nat × List SV), fun s => match s with | .inl _ => True | .inr (k, c', C, d', D) => k ≤ n ∧ k ≤ 200 ∧ RowP pa pb k c' C ∧ RowP pa pb k d' D, fun s => match s with | .inl _ => n + 1 | .inr (k, _, _, _, _) => n - k,
    fun s => [(0, .slice 0 o n c), (1, .slice 1 u m d), (4, .bool false), (5, .ptr 2 0), (6, match s with | .inl _ => .nils | .inr (k, _, _, d', _) => .slice 4 0 k d'), (7, .int .i64 (match s with | .inl _ => 0 | .inr (k, _, _, _, _) => k))],
    fun s => match s with | .inl _ => [⟨0, E, t⟩, ⟨1, G, t'⟩, ⟨2, [.nils], 62⟩] | .inr (k, c', C, _, D) => [⟨0, E, t⟩, ⟨1, G, t'⟩, ⟨2, [.slice 3 0 k c'], 62⟩, ⟨3, C, 46⟩, ⟨4, D, 46⟩], 5,
    ⟨.inl (), id, trivial, ?_⟩, ?_⟩
  · exact weak_id ⟨rfl, rfl, rfl, rfl, rfl, rfl, rfl, rfl, rfl, rfl, rfl, rfl, trivial⟩ ⟨rfl, rfl, bE _, rfl, rfl, bG _, rfl, rfl, rfl, trivial⟩ rfl rfl
  rintro (_ | ⟨k, c', C, d', D⟩) hs
  · cbv
    by_cases hz : n ≤ 0
    · rw [en, show cmp .lss (0) (Int.ofNat n) = false from (lss_of hA _ _).trans (decide_eq_false (by simp; omega))]
      cbv
      refine call_ro rfl hg rfl rfl (cEvents0 hP) (fun _ => 2) rfl ⟨rfl, trivial⟩ ?_
      rintro _ _ _ rfl
      cbv
      refine call_val rfl hg rfl rfl (cSameENN hP) ?_
      rintro _ _ _ rfl
      cbv
      rw [n1]
      cbv
      refine call_ro rfl hg rfl rfl (cLen0 hP) (fun _ => 2) rfl ⟨rfl, trivial⟩ ?_
      rintro _ _ _ rfl
      cbv
      rw [z0]
      cbv
      refine call_val rfl hg rfl rfl (cSpoilN hP) ?_
      rintro _ _ _ rfl
      cbv
      refine call_gen rfl hg rfl rfl (cLendS hP o n c E hE hn ea eb hEj bE) (fun _ => 0) rfl ⟨by rw [rE]; rfl, trivial⟩ rfl rfl rfl ?_
      rintro _ _ _ ⟨cx, X, rfl, hcx, hX, rfl, rfl⟩ _
      have rX : ∀ r, renL r X = X := fun r => renL_cl X (hX.b 0)
      simp only [renB, rX, rE]
      cbv
      refine call_gen rfl hg rfl rfl (cLendS hP u m d G hG hm ga gb hGj bG) (fun _ => 1) rfl ⟨by rw [rG]; rfl, trivial⟩ rfl rfl rfl ?_
      rintro _ _ _ ⟨cy, Y, rfl, hcy, hY, rfl, rfl⟩ _
      have rY : ∀ r, renL r Y = Y := fun r => renL_cl Y (hY.b 0)
      simp only [renB, rY, rX, rG]
      cbv
      refine call_ro rfl hg rfl rfl (cEvents0 hP) (fun _ => 2) rfl ⟨rfl, trivial⟩ ?_
      rintro _ _ _ rfl
      cbv
      refine call_val rfl hg rfl rfl (cSameENN hP) ?_
      rintro _ _ _ rfl
      cbv
      refine call_ro rfl hg rfl rfl (cSameTrG hP (t1 := 46) (t2 := 46) 0 n cx 0 m cy X Y ea eb ga gb (by omega) (fun _ => by have := hX.len; omega) (fun _ => by have := hY.len; omega) (fun j hj => by rw [Nat.zero_add]; exact hX.at_ j hj) (fun j hj => by rw [Nat.zero_add]; exact hY.at_ j hj) hX.b hY.b r hr) (fun l => if l = 0 then 8 else 12) rfl ⟨by rw [rX]; rfl, by rw [rY]; rfl, trivial⟩ ?_
      rintro _ _ _ rfl
      cbv
      refine call_ro rfl hg rfl rfl (cSameEvG hP (t1 := t) (t2 := t') o n c u m d E G ea eb ga gb (by omega) hE hG hEj hGj bE bG r hr) id rfl ⟨by rw [rE]; rfl, by rw [rG]; rfl, trivial⟩ ?_
      rintro _ _ _ rfl
      cbv
      rw [show beq r r = true from beq_of hA r]
      cbv
      refine call_ro rfl hg rfl rfl (cSameTrG hP (t1 := 46) (t2 := 46) 0 m cy 0 m cy Y Y ga gb ga gb (by omega) (fun _ => by have := hY.len; omega) (fun _ => by have := hY.len; omega) (fun j hj => by rw [Nat.zero_add]; exact hY.at_ j hj) (fun j hj => by rw [Nat.zero_add]; exact hY.at_ j hj) hY.b hY.b true (decide_eq_true ⟨rfl, fun _ _ => ⟨rfl, rfl⟩⟩).symm) (fun _ => 12) rfl ⟨by rw [rY]; rfl, by rw [rY]; rfl, trivial⟩ ?_
      rintro _ _ _ rfl
      cbv
      refine call_ro rfl hg rfl rfl (cKeptS hP (t := t) cx o n c X E hcx hE hn ea eb hX hEj bE) (fun l => if l = 0 then 8 else 0) rfl ⟨by rw [rX]; rfl, by rw [rE]; rfl, trivial⟩ ?_
      rintro _ _ _ rfl
      cbv
      refine call_ro rfl hg rfl rfl (cKeptS hP (t := t') cy u m d Y G hcy hG hm ga gb hY hGj bG) (fun l => if l = 0 then 12 else 1) rfl ⟨by rw [rY]; rfl, by rw [rG]; rfl, trivial⟩ ?_
      rintro _ _ _ rfl
      cbv
      refine call_val rfl hg rfl rfl (cAwake3 hP) ?_
      rintro _ _ _ rfl
      cbv
      exact hK _ _ _ rfl
    · rw [en, show cmp .lss (0) (Int.ofNat n) = true from (lss_of hA _ _).trans (decide_eq_true (by simp; omega))]
      cbv
      rw [show cmp .lss 0 200 = true from (lss_of hA _ _).trans rfl]
      cbv
      have hp : 0 < n := by omega
      have f1 : ix (0) n = some 0 := ix_of hA (k := 0) hp
      have f2 : off o 0 2 = o + 0 * 2 := off_of hA o 0 2
      have f30 : off (o + 0 * 2) 0 1 = o + 0 * 2 := off_of hA _ 0 1
      have f31 : off (o + 0 * 2) 1 1 = o + 0 * 2 + 1 := off_of hA _ 1 1
      have f40 : get E (o + 0 * 2) = some (.int .i64 (ea 0)) := (get_of hA _ _).trans (pair_get0 (hEj 0 hp))
      have f41 : get E (o + 0 * 2 + 1) = some (.int .i64 (eb 0)) := (get_of hA _ _).trans (pair_get (hEj 0 hp))
      have f5 : sub E (o + 0 * 2) 2 = some [.int .i64 (ea 0), .int .i64 (eb 0)] := sub_of hA (by have := hE (by omega); omega) (hEj 0 hp)
      have f8 : bin .add .i64 (0) 1 = 1 := add_of hA (k := 0) (by omega)
      generalize ho1 : o + 0 * 2 + 1 = o1 at f31 f41
      generalize ho2 : o + 0 * 2 = o2 at f2 f30 f31 f40 f5
      rw [f1]
      cbv
      rw [f2]
      cbv
      rw [f30]
      cbv
      rw [f40]
      cbv
      by_cases hq : ea 0 = 2
      · obtain ⟨hpa, hpb, hpc⟩ := hp1 0 hq
        rw [show cmp .eql (ea 0) 2 = true from (eql_of hA _ _).trans (decide_eq_true hq)]
        cbv
        rw [f1]
        cbv
        rw [f2]
        cbv
        rw [f31]
        cbv
        rw [f41]
        cbv
        refine call_gen rfl hg rfl rfl (cIndex0 hP (eb 0)) (fun _ => 2) rfl ⟨rfl, trivial⟩ rfl rfl rfl ?_
        rintro _ _ _ ⟨rfl, c1, tail, h1, h2, h3, h4, rfl, rfl⟩ _
        have hR1 := rowP_one (pa := pa) (pb := pb) hpa hpc h1 h2 h3 h4
        obtain ⟨X, hX⟩ : ∃ X, X = [SV.int .i64 2, SV.int .i64 (eb 0)] ++ tail := ⟨_, rfl⟩
        rw [← hX] at hR1 ⊢
        have rX : ∀ r, renL r X = X := fun r => renL_cl X (hR1.b 0)
        simp only [renB, rX]
        cbv
        refine call_val rfl hg rfl rfl (cNum hP 0) ?_
        rintro _ _ _ rfl
        cbv
        rw [z0]
        cbv
        rw [f1]
        cbv
        rw [f2]
        cbv
        rw [f5]
        cbv
        refine step_append_nil (hP ▸ tblOk) hg rfl rfl (show tyT 42 = some _ from rfl) rfl (show tyT 46 = some _ from rfl) (bytesEv hP) (by decide) (show ev _ _ = some .nils from rfl) (show ev _ _ = some (.slice 7 0 1 1) from rfl) (show find _ 7 = some _ from rfl) (by exact Nat.le_refl 2) (by decide) (by decide) (by decide) ?_
        intro d1 g1 g2
        simp only [List.drop_zero, Nat.reduceMul, List.take_succ_cons, List.take_zero]
        obtain ⟨tl, ht⟩ : ∃ tail, tail = rep (d1 - 1) [SV.int .i64 0, SV.int .i64 0] := ⟨_, rfl⟩
        have g3 : tl.length = (d1 - 1) * 2 := by rw [ht, rep_length]; rfl
        have g4 : ∀ q, bdLB q tl = true := fun q => ht ▸ rep_bdLB rfl _
        have hS1 := rowP_one (pa := pa) (pb := pb) hpb hpc g1 g2 g3 g4
        obtain ⟨Y, hY⟩ : ∃ Y, Y = [SV.int .i64 (ea 0), SV.int .i64 (eb 0)] ++ tl := ⟨_, rfl⟩
        rw [← hY] at hS1
        rw [show [SV.int .i64 (ea 0), SV.int .i64 (eb 0)] ++ rep (d1 - 1) [SV.int .i64 0, SV.int .i64 0] = Y from hY.symm ▸ ht ▸ rfl]
        have rY : ∀ r, renL r Y = Y := fun r => renL_cl Y (hS1.b 0)
        cbv
        rw [f8]
        refine ⟨.inr (1, c1, X, d1, Y), fun l => if l = 3 then 6 else if l = 4 then 8 else l, ⟨by omega, by omega, hR1, hS1⟩, (by show n - 1 < n + 1; omega), ?_⟩
        exact weak_rho ⟨rfl, rfl, rfl, rfl, rfl, rfl, rfl, rfl, rfl, rfl, rfl, rfl, trivial⟩ ⟨by rw [rE]; rfl, rfl, rfl, bE _, by rw [rG]; rfl, rfl, rfl, bG _, rfl, rfl, rfl, rfl, by rw [rX]; rfl, rfl, rfl, hR1.b _, by rw [rY]; rfl, rfl, rfl, hS1.b _, trivial⟩ rfl rfl rfl
      · obtain ⟨hpa, hpb⟩ := hp2 0 hq
        rw [show cmp .eql (ea 0) 2 = false from (eql_of hA _ _).trans (decide_eq_false hq)]
        cbv
        rw [f1]
        cbv
        rw [f2]
        cbv
        rw [f31]
        cbv
        rw [f41]
        cbv
        obtain ⟨w, hw⟩ : ∃ w, w = bin .and .i64 (eb 0) 1 := ⟨_, rfl⟩
        rw [← hw]
        have hw2 : w = intBin .and .i64 (eb 0) 1 := hw.trans (by rw [show bin = intBin from bin_of hA])
        have hwp : w = pb 0 := hw2.trans hpb
        obtain ⟨b, hb⟩ : ∃ b, cmp .eql w 1 = b := ⟨_, rfl⟩
        have hwb : w = b2i b := by
          rw [← hb, show cmp .eql w 1 = _ from eql_of hA _ _]
          rcases and_one (eb 0) with h | h <;> rw [← hw2] at h <;> rw [h] <;> rfl
        rw [hb]
        cbv
        refine call_gen rfl hg rfl rfl (cBranchB0 hP b w hwb) (fun _ => 2) rfl ⟨rfl, trivial⟩ rfl rfl rfl ?_
        rintro _ _ _ ⟨rfl, c1, tail, h1, h2, h3, h4, rfl, rfl⟩ _
        have hR1 := rowP_one (pa := pa) (pb := pb) hpa hwp h1 h2 h3 h4
        obtain ⟨X, hX⟩ : ∃ X, X = [SV.int .i64 1, SV.int .i64 w] ++ tail := ⟨_, rfl⟩
        rw [← hX] at hR1 ⊢
        have rX : ∀ r, renL r X = X := fun r => renL_cl X (hR1.b 0)
        simp only [renB, rX]
        cbv
        refine call_val rfl hg rfl rfl (cNum hP 0) ?_
        rintro _ _ _ rfl
        cbv
        rw [z0]
        cbv
        rw [f1]
        cbv
        rw [f2]
        cbv
        rw [f31]
        cbv
        rw [f41]
        cbv
        rw [← hw]
        refine step_append_nil (hP ▸ tblOk) hg rfl rfl (show tyT 42 = some _ from rfl) rfl (show tyT 46 = some _ from rfl) (bytesEv hP) (by decide) (show ev _ _ = some .nils from rfl) (show ev _ _ = some (.slice 7 0 1 1) from rfl) (show find _ 7 = some _ from rfl) (by exact Nat.le_refl 2) (by decide) (by decide) (by decide) ?_
        intro d1 g1 g2
        simp only [List.drop_zero, Nat.reduceMul, List.take_succ_cons, List.take_zero]
        obtain ⟨tl, ht⟩ : ∃ tail, tail = rep (d1 - 1) [SV.int .i64 0, SV.int .i64 0] := ⟨_, rfl⟩
        have g3 : tl.length = (d1 - 1) * 2 := by rw [ht, rep_length]; rfl
        have g4 : ∀ q, bdLB q tl = true := fun q => ht ▸ rep_bdLB rfl _
        have hS1 := rowP_one (pa := pa) (pb := pb) hpa hwp g1 g2 g3 g4
        obtain ⟨Y, hY⟩ : ∃ Y, Y = [SV.int .i64 1, SV.int .i64 w] ++ tl := ⟨_, rfl⟩
        rw [← hY] at hS1
        rw [show [SV.int .i64 1, SV.int .i64 w] ++ rep (d1 - 1) [SV.int .i64 0, SV.int .i64 0] = Y from hY.symm ▸ ht ▸ rfl]
        have rY : ∀ r, renL r Y = Y := fun r => renL_cl Y (hS1.b 0)
        cbv
        rw [f8]
        refine ⟨.inr (1, c1, X, d1, Y), fun l => if l = 3 then 6 else if l = 4 then 8 else l, ⟨by omega, by omega, hR1, hS1⟩, (by show n - 1 < n + 1; omega), ?_⟩
        exact weak_rho ⟨rfl, rfl, rfl, rfl, rfl, rfl, rfl, rfl, rfl, rfl, rfl, rfl, trivial⟩ ⟨by rw [rE]; rfl, rfl, rfl, bE _, by rw [rG]; rfl, rfl, rfl, bG _, rfl, rfl, rfl, rfl, by rw [rX]; rfl, rfl, rfl, hR1.b _, by rw [rY]; rfl, rfl, rfl, hS1.b _, trivial⟩ rfl rfl rfl
  · obtain ⟨hkn, hk200, hR, hS⟩ := hs
    have bC := hR.b
    have bD := hS.b
    have rC : ∀ r, renL r C = C := fun r => renL_cl C (bC 0)
    have rD : ∀ r, renL r D = D := fun r => renL_cl D (bD 0)
    have ek : nat k = Int.ofNat k := nat_of hA k
    cbv
    by_cases hz : n ≤ k
    · rw [en, show cmp .lss (Int.ofNat k) (Int.ofNat n) = false from (lss_of hA _ _).trans (decide_eq_false (by simp; omega))]
      cbv
      refine call_gen rfl hg rfl rfl (cEvents hP k c' C (by have := hR.len; have := hR.kc; omega) (by omega) bC hR.one) (fun l => if l = 0 then 2 else 3) rfl ⟨rfl, by rw [rC]; rfl, trivial⟩ rfl rfl rfl ?_
      rintro _ _ _ ⟨a1, ta, rfl, a2, a3, a4, a5, rfl, rfl⟩ _
      obtain ⟨Z, hZ⟩ : ∃ Z, Z = C.take (k * 2) ++ ta := ⟨_, rfl⟩
      rw [← hZ]
      have bZ : ∀ q, bdLB q Z = true := fun q => hZ ▸ bdLB_append (bdLB_take (bC q)) (a5 q)
      have rZ : ∀ r, renL r Z = Z := fun r => renL_cl Z (bZ 0)
      have aZ := hZ ▸ rowP_copy hR ta
      simp only [renB, rC, rD, rZ]
      cbv
      refine call_ro rfl hg rfl rfl (cSameEvG hP (t1 := 46) (t2 := 46) 0 k a1 0 k d' Z D pa pb pa pb (by omega) (fun _ => by have := aZ.1; omega) (fun _ => by have := hS.len; have := hS.kc; omega) (fun j hj => by rw [Nat.zero_add]; exact aZ.2 j hj) (fun j hj => by rw [Nat.zero_add]; exact hS.at_ j hj) bZ bD true (decide_eq_true ⟨rfl, fun _ _ => ⟨rfl, rfl⟩⟩).symm) (fun l => if l = 0 then 6 else 4) rfl ⟨by rw [rZ]; rfl, by rw [rD]; rfl, trivial⟩ ?_
      rintro _ _ _ rfl
      cbv
      rw [n1]
      cbv
      refine call_ro rfl hg rfl rfl (cLen hP k c') (fun l => if l = 0 then 2 else 3) rfl ⟨rfl, trivial⟩ ?_
      rintro _ _ _ rfl
      cbv
      rw [ek, show cmp .neq (Int.ofNat k) (Int.ofNat k) = false from (neq_of hA _ _).trans (by simp)]
      cbv
      refine call_gen rfl hg rfl rfl (cSpoil hP k a1 Z aZ.1 (by omega) ⟨pa, pb, aZ.2⟩ bZ) (fun _ => 6) rfl ⟨by rw [rZ]; rfl, trivial⟩ rfl rfl rfl ?_
      rintro _ _ _ ⟨Z', rfl, rfl, bZ'⟩ _
      have rZ' : ∀ r, renL r Z' = Z' := fun r => renL_cl Z' (bZ' 0)
      simp only [renB, rZ']
      cbv
      refine call_gen rfl hg rfl rfl (cLendS hP o n c E hE hn ea eb hEj bE) (fun _ => 0) rfl ⟨by rw [rE]; rfl, trivial⟩ rfl rfl rfl ?_
      rintro _ _ _ ⟨cx, X, rfl, hcx, hX, rfl, rfl⟩ _
      have rX : ∀ r, renL r X = X := fun r => renL_cl X (hX.b 0)
      simp only [renB, rX, rE]
      cbv
      refine call_gen rfl hg rfl rfl (cLendS hP u m d G hG hm ga gb hGj bG) (fun _ => 1) rfl ⟨by rw [rG]; rfl, trivial⟩ rfl rfl rfl ?_
      rintro _ _ _ ⟨cy, Y, rfl, hcy, hY, rfl, rfl⟩ _
      have rY : ∀ r, renL r Y = Y := fun r => renL_cl Y (hY.b 0)
      simp only [renB, rY, rX, rG]
      cbv
      refine call_gen rfl hg rfl rfl (cEvents hP k c' C (by have := hR.len; have := hR.kc; omega) (by omega) bC hR.one) (fun l => if l = 0 then 2 else 3) rfl ⟨rfl, by rw [rC]; rfl, trivial⟩ rfl rfl rfl ?_
      rintro _ _ _ ⟨b1, tb, rfl, b2, b3, b4, b5, rfl, rfl⟩ _
      obtain ⟨V, hV⟩ : ∃ Z, Z = C.take (k * 2) ++ tb := ⟨_, rfl⟩
      rw [← hV]
      have bV : ∀ q, bdLB q V = true := fun q => hV ▸ bdLB_append (bdLB_take (bC q)) (b5 q)
      have rV : ∀ r, renL r V = V := fun r => renL_cl V (bV 0)
      have aV := hV ▸ rowP_copy hR tb
      simp only [renB, rC, rV]
      cbv
      refine call_ro rfl hg rfl rfl (cSameEvG hP (t1 := 46) (t2 := 46) 0 k b1 0 k d' V D pa pb pa pb (by omega) (fun _ => by have := aV.1; omega) (fun _ => by have := hS.len; have := hS.kc; omega) (fun j hj => by rw [Nat.zero_add]; exact aV.2 j hj) (fun j hj => by rw [Nat.zero_add]; exact hS.at_ j hj) bV bD true (decide_eq_true ⟨rfl, fun _ _ => ⟨rfl, rfl⟩⟩).symm) (fun l => if l = 0 then 16 else 4) rfl ⟨by rw [rV]; rfl, by rw [rD]; rfl, trivial⟩ ?_
      rintro _ _ _ rfl
      cbv
      refine call_ro rfl hg rfl rfl (cSameTrG hP (t1 := 46) (t2 := 46) 0 n cx 0 m cy X Y ea eb ga gb (by omega) (fun _ => by have := hX.len; omega) (fun _ => by have := hY.len; omega) (fun j hj => by rw [Nat.zero_add]; exact hX.at_ j hj) (fun j hj => by rw [Nat.zero_add]; exact hY.at_ j hj) hX.b hY.b r hr) (fun l => if l = 0 then 10 else 14) rfl ⟨by rw [rX]; rfl, by rw [rY]; rfl, trivial⟩ ?_
      rintro _ _ _ rfl
      cbv
      refine call_ro rfl hg rfl rfl (cSameEvG hP (t1 := t) (t2 := t') o n c u m d E G ea eb ga gb (by omega) hE hG hEj hGj bE bG r hr) id rfl ⟨by rw [rE]; rfl, by rw [rG]; rfl, trivial⟩ ?_
      rintro _ _ _ rfl
      cbv
      rw [show beq r r = true from beq_of hA r]
      cbv
      refine call_ro rfl hg rfl rfl (cSameTrG hP (t1 := 46) (t2 := 46) 0 m cy 0 m cy Y Y ga gb ga gb (by omega) (fun _ => by have := hY.len; omega) (fun _ => by have := hY.len; omega) (fun j hj => by rw [Nat.zero_add]; exact hY.at_ j hj) (fun j hj => by rw [Nat.zero_add]; exact hY.at_ j hj) hY.b hY.b true (decide_eq_true ⟨rfl, fun _ _ => ⟨rfl, rfl⟩⟩).symm) (fun _ => 14) rfl ⟨by rw [rY]; rfl, by rw [rY]; rfl, trivial⟩ ?_
      rintro _ _ _ rfl
      cbv
      refine call_ro rfl hg rfl rfl (cKeptS hP (t := t) cx o n c X E hcx hE hn ea eb hX hEj bE) (fun l => if l = 0 then 10 else 0) rfl ⟨by rw [rX]; rfl, by rw [rE]; rfl, trivial⟩ ?_
      rintro _ _ _ rfl
      cbv
      refine call_ro rfl hg rfl rfl (cKeptS hP (t := t') cy u m d Y G hcy hG hm ga gb hY hGj bG) (fun l => if l = 0 then 14 else 1) rfl ⟨by rw [rY]; rfl, by rw [rG]; rfl, trivial⟩ ?_
      rintro _ _ _ rfl
      cbv
      refine call_val rfl hg rfl rfl (cAwake3 hP) ?_
      rintro _ _ _ rfl
      cbv
      exact hK _ _ _ rfl
    · rw [en, show cmp .lss (Int.ofNat k) (Int.ofNat n) = true from (lss_of hA _ _).trans (decide_eq_true (by simp; omega))]
      cbv
      by_cases h200 : 200 ≤ k
      · rw [show cmp .lss (Int.ofNat k) 200 = false from (lss_of hA _ _).trans (decide_eq_false (by simp; omega))]
        cbv
        refine call_gen rfl hg rfl rfl (cEvents hP k c' C (by have := hR.len; have := hR.kc; omega) (by omega) bC hR.one) (fun l => if l = 0 then 2 else 3) rfl ⟨rfl, by rw [rC]; rfl, trivial⟩ rfl rfl rfl ?_
        rintro _ _ _ ⟨a1, ta, rfl, a2, a3, a4, a5, rfl, rfl⟩ _
        obtain ⟨Z, hZ⟩ : ∃ Z, Z = C.take (k * 2) ++ ta := ⟨_, rfl⟩
        rw [← hZ]
        have bZ : ∀ q, bdLB q Z = true := fun q => hZ ▸ bdLB_append (bdLB_take (bC q)) (a5 q)
        have rZ : ∀ r, renL r Z = Z := fun r => renL_cl Z (bZ 0)
        have aZ := hZ ▸ rowP_copy hR ta
        simp only [renB, rC, rD, rZ]
        cbv
        refine call_ro rfl hg rfl rfl (cSameEvG hP (t1 := 46) (t2 := 46) 0 k a1 0 k d' Z D pa pb pa pb (by omega) (fun _ => by have := aZ.1; omega) (fun _ => by have := hS.len; have := hS.kc; omega) (fun j hj => by rw [Nat.zero_add]; exact aZ.2 j hj) (fun j hj => by rw [Nat.zero_add]; exact hS.at_ j hj) bZ bD true (decide_eq_true ⟨rfl, fun _ _ => ⟨rfl, rfl⟩⟩).symm) (fun l => if l = 0 then 6 else 4) rfl ⟨by rw [rZ]; rfl, by rw [rD]; rfl, trivial⟩ ?_
        rintro _ _ _ rfl
        cbv
        rw [n1]
        cbv
        refine call_ro rfl hg rfl rfl (cLen hP k c') (fun l => if l = 0 then 2 else 3) rfl ⟨rfl, trivial⟩ ?_
        rintro _ _ _ rfl
        cbv
        rw [ek, show cmp .neq (Int.ofNat k) (Int.ofNat k) = false from (neq_of hA _ _).trans (by simp)]
        cbv
        refine call_gen rfl hg rfl rfl (cSpoil hP k a1 Z aZ.1 (by omega) ⟨pa, pb, aZ.2⟩ bZ) (fun _ => 6) rfl ⟨by rw [rZ]; rfl, trivial⟩ rfl rfl rfl ?_
        rintro _ _ _ ⟨Z', rfl, rfl, bZ'⟩ _
        have rZ' : ∀ r, renL r Z' = Z' := fun r => renL_cl Z' (bZ' 0)
        simp only [renB, rZ']
        cbv
        refine call_gen rfl hg rfl rfl (cLendS hP o n c E hE hn ea eb hEj bE) (fun _ => 0) rfl ⟨by rw [rE]; rfl, trivial⟩ rfl rfl rfl ?_
        rintro _ _ _ ⟨cx, X, rfl, hcx, hX, rfl, rfl⟩ _
        have rX : ∀ r, renL r X = X := fun r => renL_cl X (hX.b 0)
        simp only [renB, rX, rE]
        cbv
        refine call_gen rfl hg rfl rfl (cLendS hP u m d G hG hm ga gb hGj bG) (fun _ => 1) rfl ⟨by rw [rG]; rfl, trivial⟩ rfl rfl rfl ?_
        rintro _ _ _ ⟨cy, Y, rfl, hcy, hY, rfl, rfl⟩ _
        have rY : ∀ r, renL r Y = Y := fun r => renL_cl Y (hY.b 0)
        simp only [renB, rY, rX, rG]
        cbv
        refine call_gen rfl hg rfl rfl (cEvents hP k c' C (by have := hR.len; have := hR.kc; omega) (by omega) bC hR.one) (fun l => if l = 0 then 2 else 3) rfl ⟨rfl, by rw [rC]; rfl, trivial⟩ rfl rfl rfl ?_
        rintro _ _ _ ⟨b1, tb, rfl, b2, b3, b4, b5, rfl, rfl⟩ _
        obtain ⟨V, hV⟩ : ∃ Z, Z = C.take (k * 2) ++ tb := ⟨_, rfl⟩
        rw [← hV]
        have bV : ∀ q, bdLB q V = true := fun q => hV ▸ bdLB_append (bdLB_take (bC q)) (b5 q)
        have rV : ∀ r, renL r V = V := fun r => renL_cl V (bV 0)
        have aV := hV ▸ rowP_copy hR tb
        simp only [renB, rC, rV]
        cbv
        refine call_ro rfl hg rfl rfl (cSameEvG hP (t1 := 46) (t2 := 46) 0 k b1 0 k d' V D pa pb pa pb (by omega) (fun _ => by have := aV.1; omega) (fun _ => by have := hS.len; have := hS.kc; omega) (fun j hj => by rw [Nat.zero_add]; exact aV.2 j hj) (fun j hj => by rw [Nat.zero_add]; exact hS.at_ j hj) bV bD true (decide_eq_true ⟨rfl, fun _ _ => ⟨rfl, rfl⟩⟩).symm) (fun l => if l = 0 then 16 else 4) rfl ⟨by rw [rV]; rfl, by rw [rD]; rfl, trivial⟩ ?_
        rintro _ _ _ rfl
        cbv
        refine call_ro rfl hg rfl rfl (cSameTrG hP (t1 := 46) (t2 := 46) 0 n cx 0 m cy X Y ea eb ga gb (by omega) (fun _ => by have := hX.len; omega) (fun _ => by have := hY.len; omega) (fun j hj => by rw [Nat.zero_add]; exact hX.at_ j hj) (fun j hj => by rw [Nat.zero_add]; exact hY.at_ j hj) hX.b hY.b r hr) (fun l => if l = 0 then 10 else 14) rfl ⟨by rw [rX]; rfl, by rw [rY]; rfl, trivial⟩ ?_
        rintro _ _ _ rfl
        cbv
        refine call_ro rfl hg rfl rfl (cSameEvG hP (t1 := t) (t2 := t') o n c u m d E G ea eb ga gb (by omega) hE hG hEj hGj bE bG r hr) id rfl ⟨by rw [rE]; rfl, by rw [rG]; rfl, trivial⟩ ?_
        rintro _ _ _ rfl
        cbv
        rw [show beq r r = true from beq_of hA r]
        cbv
        refine call_ro rfl hg rfl rfl (cSameTrG hP (t1 := 46) (t2 := 46) 0 m cy 0 m cy Y Y ga gb ga gb (by omega) (fun _ => by have := hY.len; omega) (fun _ => by have := hY.len; omega) (fun j hj => by rw [Nat.zero_add]; exact hY.at_ j hj) (fun j hj => by rw [Nat.zero_add]; exact hY.at_ j hj) hY.b hY.b true (decide_eq_true ⟨rfl, fun _ _ => ⟨rfl, rfl⟩⟩).symm) (fun _ => 14) rfl ⟨by rw [rY]; rfl, by rw [rY]; rfl, trivial⟩ ?_
        rintro _ _ _ rfl
        cbv
        refine call_ro rfl hg rfl rfl (cKeptS hP (t := t) cx o n c X E hcx hE hn ea eb hX hEj bE) (fun l => if l = 0 then 10 else 0) rfl ⟨by rw [rX]; rfl, by rw [rE]; rfl, trivial⟩ ?_
        rintro _ _ _ rfl
        cbv
        refine call_ro rfl hg rfl rfl (cKeptS hP (t := t') cy u m d Y G hcy hG hm ga gb hY hGj bG) (fun l => if l = 0 then 14 else 1) rfl ⟨by rw [rY]; rfl, by rw [rG]; rfl, trivial⟩ ?_
        rintro _ _ _ rfl
        cbv
        refine call_val rfl hg rfl rfl (cAwake3 hP) ?_
        rintro _ _ _ rfl
        cbv
        exact hK _ _ _ rfl
      · rw [show cmp .lss (Int.ofNat k) 200 = true from (lss_of hA _ _).trans (decide_eq_true (by simp; omega))]
        cbv
        have hp : k < n := by omega
        have f1 : ix (Int.ofNat k) n = some k := ix_of hA (k := k) hp
        have f2 : off o k 2 = o + k * 2 := off_of hA o k 2
        have f30 : off (o + k * 2) 0 1 = o + k * 2 := off_of hA _ 0 1
        have f31 : off (o + k * 2) 1 1 = o + k * 2 + 1 := off_of hA _ 1 1
        have f40 : get E (o + k * 2) = some (.int .i64 (ea k)) := (get_of hA _ _).trans (pair_get0 (hEj k hp))
        have f41 : get E (o + k * 2 + 1) = some (.int .i64 (eb k)) := (get_of hA _ _).trans (pair_get (hEj k hp))
        have f5 : sub E (o + k * 2) 2 = some [.int .i64 (ea k), .int .i64 (eb k)] := sub_of hA (by have := hE (by omega); omega) (hEj k hp)
        have f8 : bin .add .i64 (Int.ofNat k) 1 = Int.ofNat (k + 1) := add_of hA (k := k) (by omega)
        generalize ho1 : o + k * 2 + 1 = o1 at f31 f41
        generalize ho2 : o + k * 2 = o2 at f2 f30 f31 f40 f5
        rw [f1]
        cbv
        rw [f2]
        cbv
        rw [f30]
        cbv
        rw [f40]
        cbv
        by_cases hq : ea k = 2
        · obtain ⟨hpa, hpb, hpc⟩ := hp1 k hq
          rw [show cmp .eql (ea k) 2 = true from (eql_of hA _ _).trans (decide_eq_true hq)]
          cbv
          rw [f1]
          cbv
          rw [f2]
          cbv
          rw [f31]
          cbv
          rw [f41]
          cbv
          refine call_gen rfl hg rfl rfl (cIndex hP (eb k) k c' C hR.len hR.kc hR.cm (by omega) bC) (fun l => if l = 0 then 2 else 3) rfl ⟨rfl, by rw [rC]; rfl, trivial⟩ rfl rfl rfl ?_
          rintro _ _ _ ⟨rfl, c1, tail, h1, h2, h3, h4, rfl, rfl⟩ _
          have hR1 := rowP_more hR hpa hpc h1 h2 h3 h4
          obtain ⟨X, hX⟩ : ∃ X, X = C.take (k * 2) ++ [SV.int .i64 2, SV.int .i64 (eb k)] ++ tail := ⟨_, rfl⟩
          rw [← hX] at hR1 ⊢
          have rX : ∀ r, renL r X = X := fun r => renL_cl X (hR1.b 0)
          obtain ⟨k2, hk2⟩ : ∃ k2, k2 = k + 1 := ⟨_, rfl⟩
          rw [← hk2] at f8 hR1 h1 h3 ⊢
          simp only [renB, rX]
          cbv
          refine call_val rfl hg rfl rfl (cNum hP 0) ?_
          rintro _ _ _ rfl
          cbv
          rw [z0]
          cbv
          rw [f1]
          cbv
          rw [f2]
          cbv
          rw [f5]
          cbv
          refine step_append_own (hP ▸ tblOk) hg rfl rfl (show tyT 42 = some _ from rfl) rfl (show tyT 46 = some _ from rfl) (bytesEv hP) (by decide) (show ev _ _ = some (.slice 4 0 k d') from rfl) (show find _ 4 = some _ from rfl) rfl hS.kc hS.len hS.cm (show ev _ _ = some (.slice 7 0 1 1) from rfl) (show find _ 7 = some _ from rfl) (by exact Nat.le_refl 2) rfl (by simp only [maxLen]; omega) (by omega) ?_
          intro d1 tl g1 g2 g3 g4
          have hS1 := rowP_more hS hpb hpc g1 g2 g3 (fun q => g4 q (bD q) rfl)
          simp only [List.drop_zero, Nat.reduceMul, List.take_succ_cons, List.take_zero]
          obtain ⟨Y, hY⟩ : ∃ Y, Y = D.take (k * 2) ++ [SV.int .i64 (ea k), SV.int .i64 (eb k)] ++ tl := ⟨_, rfl⟩
          rw [← hY] at hS1 ⊢
          rw [← hk2] at hS1 ⊢
          have rY : ∀ r, renL r Y = Y := fun r => renL_cl Y (hS1.b 0)
          cbv
          rw [f8]
          refine ⟨.inr (k2, c1, X, d1, Y), fun l => if l = 3 then 6 else if l = 4 then 8 else l, ⟨by omega, by omega, hR1, hS1⟩, (by show n - k2 < n - k; omega), ?_⟩
          exact weak_rho ⟨rfl, rfl, rfl, rfl, rfl, rfl, rfl, rfl, rfl, rfl, rfl, rfl, trivial⟩ ⟨by rw [rE]; rfl, rfl, rfl, bE _, by rw [rG]; rfl, rfl, rfl, bG _, rfl, rfl, rfl, rfl, by rw [rX]; rfl, rfl, rfl, hR1.b _, by rw [rY]; rfl, rfl, rfl, hS1.b _, trivial⟩ rfl rfl rfl
        · obtain ⟨hpa, hpb⟩ := hp2 k hq
          rw [show cmp .eql (ea k) 2 = false from (eql_of hA _ _).trans (decide_eq_false hq)]
          cbv
          rw [f1]
          cbv
          rw [f2]
          cbv
          rw [f31]
          cbv
          rw [f41]
          cbv
          obtain ⟨w, hw⟩ : ∃ w, w = bin .and .i64 (eb k) 1 := ⟨_, rfl⟩
          rw [← hw]
          have hw2 : w = intBin .and .i64 (eb k) 1 := hw.trans (by rw [show bin = intBin from bin_of hA])
          have hwp : w = pb k := hw2.trans hpb
          obtain ⟨b, hb⟩ : ∃ b, cmp .eql w 1 = b := ⟨_, rfl⟩
          have hwb : w = b2i b := by
            rw [← hb, show cmp .eql w 1 = _ from eql_of hA _ _]
            rcases and_one (eb k) with h | h <;> rw [← hw2] at h <;> rw [h] <;> rfl
          rw [hb]
          cbv
          refine call_gen rfl hg rfl rfl (cBranchB hP b w hwb k c' C hR.len hR.kc hR.cm (by omega) bC) (fun l => if l = 0 then 2 else 3) rfl ⟨rfl, by rw [rC]; rfl, trivial⟩ rfl rfl rfl ?_
          rintro _ _ _ ⟨rfl, c1, tail, h1, h2, h3, h4, rfl, rfl⟩ _
          have hR1 := rowP_more hR hpa hwp h1 h2 h3 h4
          obtain ⟨X, hX⟩ : ∃ X, X = C.take (k * 2) ++ [SV.int .i64 1, SV.int .i64 w] ++ tail := ⟨_, rfl⟩
          rw [← hX] at hR1 ⊢
          have rX : ∀ r, renL r X = X := fun r => renL_cl X (hR1.b 0)
          obtain ⟨k2, hk2⟩ : ∃ k2, k2 = k + 1 := ⟨_, rfl⟩
          rw [← hk2] at f8 hR1 h1 h3 ⊢
          simp only [renB, rX]
          cbv
          refine call_val rfl hg rfl rfl (cNum hP 0) ?_
          rintro _ _ _ rfl
          cbv
          rw [z0]
          cbv
          rw [f1]
          cbv
          rw [f2]
          cbv
          rw [f31]
          cbv
          rw [f41]
          cbv
          rw [← hw]
          refine step_append_own (hP ▸ tblOk) hg rfl rfl (show tyT 42 = some _ from rfl) rfl (show tyT 46 = some _ from rfl) (bytesEv hP) (by decide) (show ev _ _ = some (.slice 4 0 k d') from rfl) (show find _ 4 = some _ from rfl) rfl hS.kc hS.len hS.cm (show ev _ _ = some (.slice 7 0 1 1) from rfl) (show find _ 7 = some _ from rfl) (by exact Nat.le_refl 2) rfl (by simp only [maxLen]; omega) (by omega) ?_
          intro d1 tl g1 g2 g3 g4
          have hS1 := rowP_more hS hpa hwp g1 g2 g3 (fun q => g4 q (bD q) rfl)
          simp only [List.drop_zero, Nat.reduceMul, List.take_succ_cons, List.take_zero]
          obtain ⟨Y, hY⟩ : ∃ Y, Y = D.take (k * 2) ++ [SV.int .i64 1, SV.int .i64 w] ++ tl := ⟨_, rfl⟩
          rw [← hY] at hS1 ⊢
          rw [← hk2] at hS1 ⊢
          have rY : ∀ r, renL r Y = Y := fun r => renL_cl Y (hS1.b 0)
          cbv
          rw [f8]
          refine ⟨.inr (k2, c1, X, d1, Y), fun l => if l = 3 then 6 else if l = 4 then 8 else l, ⟨by omega, by omega, hR1, hS1⟩, (by show n - k2 < n - k; omega), ?_⟩
          exact weak_rho ⟨rfl, rfl, rfl, rfl, rfl, rfl, rfl, rfl, rfl, rfl, rfl, rfl, trivial⟩ ⟨by rw [rE]; rfl, rfl, rfl, bE _, by rw [rG]; rfl, rfl, rfl, bG _, rfl, rfl, rfl, rfl, by rw [rX]; rfl, rfl, rfl, hR1.b _, by rw [rY]; rfl, rfl, rfl, hS1.b _, trivial⟩ rfl rfl rfl
end Go.Proofs.Ytgdkefjpekebmaa
