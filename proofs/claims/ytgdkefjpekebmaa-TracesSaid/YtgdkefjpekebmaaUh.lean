/-
  This text proves that the statement on rows that grow returns true. Condition: the row of events that is handed in is not nil.
-/
import Derived.Test.YtgdkefjpekebmaaUg
import Derived.Test.YtgdkefjpekebmaaUd
namespace Go.Proofs.Ytgdkefjpekebmaa
open Go.Vg
set_option maxRecDepth 200000
set_option cbv.maxSteps 100000000
/-- a row of k events of indices -/
structure Row (eb : Nat → Int) (k c : Nat) (C : List SV) : Prop where
  k1 : 1 ≤ k
  kc : k ≤ c
  cm : c ≤ maxLen
  len : C.length = c * 2
  b : ∀ m, bdLB m C = true
  one : ones (C.take (k * 2)) = true
  at_ : ∀ j, j < k → (C.drop (j * 2)).take 2 = [.int .i64 2, .int .i64 (eb j)]
theorem pair_get {E : List SV} {p : Nat} {x y : SV} (h : (E.drop p).take 2 = [x, y]) : E[p + 1]? = some y := by
  have h1 : ((E.drop p).take 2)[1]? = some y := by rw [h]; rfl
  simpa [List.getElem?_take, List.getElem?_drop] using h1
theorem ones_app : ∀ {xs ys : List SV}, ones xs = true → ones ys = true → ones (xs ++ ys) = true
  | [], _, _, h => h
  | x :: xs, ys, h, h2 => by
    simp only [List.cons_append, ones] at h ⊢
    cases hx : one x with
    | true => rw [hx] at h; exact ones_app h h2
    | false => rw [hx] at h; cases h
theorem row_one {eb : Nat → Int} {c : Nat} {tail : List SV} (h1 : 1 ≤ c) (h2 : c ≤ maxLen) (h3 : tail.length = (c - 1) * 2) (h4 : ∀ q, bdLB q tail = true) : Row eb 1 c ([.int .i64 2, .int .i64 (eb 0)] ++ tail) :=
  ⟨Nat.le_refl 1, h1, h2, by simp only [List.length_append, List.length_cons, List.length_nil, h3]; omega, fun m => bdLB_append rfl (h4 m), rfl, fun j hj => by rw [show j = 0 by omega]; rfl⟩
theorem row_more {eb : Nat → Int} {k c c' : Nat} {C tail : List SV} (h : Row eb k c C) (h1 : k + 1 ≤ c') (h2 : c' ≤ maxLen) (h3 : tail.length = (c' - (k + 1)) * 2) (h4 : ∀ q, bdLB q tail = true) : Row eb (k + 1) c' (C.take (k * 2) ++ [.int .i64 2, .int .i64 (eb k)] ++ tail) := by
  have hl : (C.take (k * 2)).length = k * 2 := by rw [List.length_take, h.len]; have := h.kc; omega
  refine ⟨by omega, h1, h2, ?_, fun m => bdLB_append (bdLB_append (bdLB_take (h.b m)) rfl) (h4 m), ?_, ?_⟩
  · simp only [List.length_append, hl, List.length_cons, List.length_nil, h3]; omega
  · rw [show (k + 1) * 2 = (C.take (k * 2) ++ [SV.int .i64 2, SV.int .i64 (eb k)]).length by simp only [List.length_append, hl, List.length_cons, List.length_nil]; omega, List.take_left]
    exact ones_app h.one rfl
  · intro j hj
    by_cases hjk : j < k
    · rw [← h.at_ j hjk]
      apply List.ext_getElem?
      intro q
      simp only [List.getElem?_take, List.getElem?_drop, List.append_assoc]
      by_cases hq : q < 2
      · rw [if_pos hq, if_pos hq, List.getElem?_append_left (by omega), List.getElem?_take, if_pos (by omega)]
      · rw [if_neg hq, if_neg hq]
    · obtain rfl : j = k := by omega
      rw [List.append_assoc, List.drop_append_of_le_length (by omega), List.drop_eq_nil_of_le (by omega)]
      rfl
theorem row_copy {eb : Nat → Int} {k c : Nat} {C : List SV} (h : Row eb k c C) (tm : List SV) : k * 2 ≤ (C.take (k * 2) ++ tm).length ∧ ∀ j, j < k → ((C.take (k * 2) ++ tm).drop (j * 2)).take 2 = [.int .i64 2, .int .i64 (eb j)] := by
  have hl : (C.take (k * 2)).length = k * 2 := by rw [List.length_take, h.len]; have := h.kc; omega
  refine ⟨by rw [List.length_append, hl]; omega, fun j hj => ?_⟩
  rw [← h.at_ j hj]
  apply List.ext_getElem?
  intro q
  simp only [List.getElem?_take, List.getElem?_drop]
  by_cases hq : q < 2
  · rw [if_pos hq, if_pos hq, List.getElem?_append_left (by omega), List.getElem?_take, if_pos (by omega)]
  · rw [if_neg hq, if_neg hq]
theorem cBranch0 {P : Program} (hP : P = Try.prog) (b : Bool) :
    Con P 23 [.ptr 0 0, .bool b] [⟨0, [.nils], 62⟩] 1 [0]
      (fun v L n => v = .int .i64 0 ∧ ∃ c' tail x, 1 ≤ c' ∧ c' ≤ maxLen ∧ tail.length = (c' - 1) * 2 ∧ (∀ q, bdLB q tail = true) ∧ L = [⟨0, [.slice 2 0 1 c'], 62⟩, ⟨1, [.int .i64 1, .int .i64 x], 46⟩, ⟨2, [.int .i64 1, .int .i64 x] ++ tail, 46⟩] ∧ n = 3) := by
  cases b with
  | true => exact (cBranchT0 hP).mono fun v L n ⟨h, c', tail, h1, h2, h3, h4, h5, h6⟩ => ⟨h, c', tail, 1, h1, h2, h3, h4, h5, h6⟩
  | false => exact (cBranchF0 hP).mono fun v L n ⟨h, c', tail, h1, h2, h3, h4, h5, h6⟩ => ⟨h, c', tail, 0, h1, h2, h3, h4, h5, h6⟩
set_option maxHeartbeats 4000000 in
theorem cGrowsS {P : Program} (hP : P = Try.prog) {t : TypeId} (o n c : Nat) (E : List SV) (ea eb : Nat → Int) (hEj : ∀ j, j < n → (E.drop (o + j * 2)).take 2 = [.int .i64 (ea j), .int .i64 (eb j)]) (bE : ∀ m, bdLB m E = true) (i : Int) :
    Con P 10 [.slice 0 o n c, .int .i64 i] [⟨0, E, t⟩] 1 [] (fun v _ _ => v = .bool true) := by
  refine Con.of (hP ▸ tblOk) (hP ▸ Try.func10) rfl rfl rfl rfl (by decide) rfl rfl ⟨Nat.zero_lt_succ _, trivial, trivial⟩ (by simpa using bdLB_bd _ (bE 1)) ?_
  intro A g K hA hg hK
  obtain ⟨bin, sh, cmp, una, cvt, ix, nn, nz, bnot, beq, scat, scmp, slen, six, nat, off, get, set, sub, spl⟩ := A
  have k0 : cmp .eql 0 0 = true := (eql_of hA _ _).trans rfl
  have k1 : cmp .eql (Int.ofNat 1) 1 = true := (eql_of hA _ _).trans rfl
  have n1 : bnot true = false := bnot_of hA true
  have n0 : bnot false = true := bnot_of hA false
  have en : nat n = Int.ofNat n := nat_of hA n
  have rE : ∀ r, renL r E = E := fun r => renL_cl E (bE 0)
  cbv
  refine call_val rfl hg rfl rfl (cAwake3 hP) ?_
  rintro _ _ _ rfl
  cbv
  rw [n1]
  cbv
  refine call_gen rfl hg rfl rfl (cNew hP) id rfl trivial rfl rfl rfl ?_
  rintro _ _ _ ⟨rfl, rfl, rfl⟩ _
  cbv
  refine call_gen rfl hg rfl rfl (cNew hP) id rfl trivial rfl rfl rfl ?_
  rintro _ _ _ ⟨rfl, rfl, rfl⟩ _
  cbv
  refine ⟨Unit ⊕ (Nat × Nat × List SV), fun s => match s with | .inl _ => True | .inr (k, c', C) => k ≤ n ∧ k ≤ 60 ∧ Row eb k c' C, fun s => match s with | .inl _ => n + 1 | .inr (k, _, _) => n - k,
    fun s => [(0, .slice 0 o n c), (1, .int .i64 i), (4, .bool false), (5, .ptr 1 0), (6, .ptr 2 0), (7, .int .i64 (match s with | .inl _ => 0 | .inr (k, _, _) => k))],
    fun s => match s with | .inl _ => [⟨0, E, t⟩, ⟨1, [.nils], 62⟩, ⟨2, [.nils], 62⟩] | .inr (k, c', C) => [⟨0, E, t⟩, ⟨1, [.slice 3 0 k c'], 62⟩, ⟨2, [.nils], 62⟩, ⟨3, C, 46⟩], 4,
    ⟨.inl (), id, trivial, ?_⟩, ?_⟩
  · exact weak_id ⟨rfl, rfl, rfl, rfl, rfl, rfl, rfl, rfl, rfl, rfl, rfl, rfl, trivial⟩ ⟨rfl, rfl, bE _, rfl, rfl, rfl, rfl, rfl, rfl, trivial⟩ rfl rfl
  rintro (_ | ⟨k, c', C⟩) hs
  · cbv
    by_cases hz : n = 0
    · rw [en, show cmp .lss 0 (Int.ofNat n) = false from (lss_of hA _ _).trans (decide_eq_false (by simp [hz]))]
      cbv
      obtain ⟨b, hb⟩ : ∃ b, cmp .eql (bin .and .i64 i 1) 1 = b := ⟨_, rfl⟩
      rw [hb]
      cbv
      refine call_gen rfl hg rfl rfl (cBranch0 hP b) (fun l => 2 + l) rfl ⟨rfl, trivial⟩ rfl rfl rfl ?_
      rintro _ _ _ ⟨rfl, d1, tl, x, d2, d3, d4, d5, rfl, rfl⟩ _
      obtain ⟨X, hX⟩ : ∃ X, X = [SV.int .i64 1, SV.int .i64 x] ++ tl := ⟨_, rfl⟩
      rw [← hX]
      have bX : ∀ q, bdLB q X = true := fun q => hX ▸ bdLB_append rfl (d5 q)
      have rX : ∀ r, renL r X = X := fun r => renL_cl X (bX 0)
      have lX : 1 * 2 ≤ X.length := by rw [hX]; simp only [List.length_append, List.length_cons, List.length_nil]; omega
      simp only [renB, rX, rE, rE]
      cbv
      refine call_val rfl hg rfl rfl (cNum hP 0) ?_
      rintro _ _ _ rfl
      cbv
      rw [k0]
      cbv
      refine call_ro rfl hg rfl rfl (cLen hP 1 d1) (fun l => if l = 0 then 2 else 5) rfl ⟨rfl, trivial⟩ ?_
      rintro _ _ _ rfl
      cbv
      rw [k1]
      cbv
      refine call_gen rfl hg rfl rfl (cEvents hP 1 d1 X lX (by decide) bX (by rw [hX]; rfl)) (fun l => if l = 0 then 2 else 5) rfl ⟨rfl, by rw [rX]; rfl, trivial⟩ rfl rfl rfl ?_
      rintro _ _ _ ⟨e1, tm, rfl, e2, e3, e4, e5, rfl, rfl⟩ _
      obtain ⟨Y, hY⟩ : ∃ Y, Y = X.take (1 * 2) ++ tm := ⟨_, rfl⟩
      rw [← hY]
      have bY : ∀ q, bdLB q Y = true := fun q => hY ▸ bdLB_append (bdLB_take (bX q)) (e5 q)
      have rY : ∀ r, renL r Y = Y := fun r => renL_cl Y (bY 0)
      simp only [renB, rX, rY, rE, rE]
      cbv
      refine call_ro rfl hg rfl rfl (cSameTSN hP 0 1 e1 Y bY false rfl) (fun l => 5 + 2) rfl ⟨by rw [rY]; rfl, trivial⟩ ?_
      rintro _ _ _ rfl
      cbv
      rw [n0]
      cbv
      exact hK _ _ _ rfl
    · have hp : 0 < n := by omega
      rw [en, show cmp .lss 0 (Int.ofNat n) = true from (lss_of hA _ _).trans (decide_eq_true (by simp; omega))]
      cbv
      rw [show cmp .lss 0 60 = true from (lss_of hA _ _).trans rfl]
      cbv
      refine call_ro rfl hg rfl rfl (cEvents0 hP) (fun _ => 1) rfl ⟨rfl, trivial⟩ ?_
      rintro _ _ _ rfl
      cbv
      have f1 : ix 0 n = some 0 := ix_of hA (k := 0) hp
      have f2 : off o 0 2 = o := (off_of hA o 0 2).trans (by omega)
      have f3 : off o 1 1 = o + 1 := off_of hA o 1 1
      have f4 : get E (o + 1) = some (.int .i64 (eb 0)) := (get_of hA _ _).trans (pair_get (p := o) (by simpa using hEj 0 hp))
      have f5 : bin .add .i64 0 1 = 1 := add_of hA (k := 0) (by decide)
      have f6 : cmp .neq (Int.ofNat 1) 1 = false := (neq_of hA _ _).trans rfl
      have f7 : ix 0 1 = some 0 := ix_of hA (k := 0) (by decide)
      have e1 : nat 1 = Int.ofNat 1 := nat_of hA 1
      have g2 : off 0 0 2 = 0 := off_of hA 0 0 2
      generalize ho1 : o + 1 = o1 at f3 f4
      rw [f1]
      cbv
      rw [f2]
      cbv
      rw [f3]
      cbv
      rw [f4]
      cbv
      refine call_gen rfl hg rfl rfl (cIndex0 hP (eb 0)) (fun _ => 1) rfl ⟨rfl, trivial⟩ rfl rfl rfl ?_
      rintro _ _ _ ⟨rfl, c1, tail, h1, h2, h3, h4, rfl, rfl⟩ _
      have hR := row_one (eb := eb) h1 h2 h3 h4
      obtain ⟨X, hX⟩ : ∃ X, X = [SV.int .i64 2, SV.int .i64 (eb 0)] ++ tail := ⟨_, rfl⟩
      rw [← hX] at hR ⊢
      have rX : ∀ r, renL r X = X := fun r => renL_cl X (hR.b 0)
      simp only [renB, rX, rE]
      cbv
      refine call_gen rfl hg rfl rfl (cEvents hP 1 c1 X (by have := hR.len; omega) (by decide) hR.b hR.one) (fun l => if l = 0 then 1 else 5) rfl ⟨rfl, by rw [rX]; rfl, trivial⟩ rfl rfl rfl ?_
      rintro _ _ _ ⟨e1', tm, rfl, e2, e3, e4, e5, rfl, rfl⟩ _
      obtain ⟨Y, hY⟩ : ∃ Y, Y = X.take (1 * 2) ++ tm := ⟨_, rfl⟩
      rw [← hY]
      have bY : ∀ q, bdLB q Y = true := fun q => hY ▸ bdLB_append (bdLB_take (hR.b q)) (e5 q)
      have rY : ∀ r, renL r Y = Y := fun r => renL_cl Y (bY 0)
      simp only [renB, rX, rY, rE]
      cbv
      refine reg_M (hP ▸ tblOk) hA hg (hP ▸ mixed) rfl rfl fun mk _ => ?_
      have g3 : sub Y 0 2 = some [.int .i64 2, .int .i64 (eb 0)] := sub_of hA (by rw [hY, hX]; simp) (by rw [hY, hX]; rfl)
      cbv
      rw [e1, f5, f6]
      cbv
      rw [f7]
      cbv
      rw [g2, g3]
      cbv
      rw [f1]
      cbv
      rw [f2]
      cbv
      rw [f3]
      cbv
      rw [f4]
      cbv
      refine stepD (en_neq_ev hP rfl hg rfl rfl rfl) ?_
      rw [show (!((2 : Int) == 2 && eb 0 == eb 0)) = false by simp]
      cbv
      refine stepD (en_slice_h (hP ▸ tblOk) hg rfl rfl (show tyT 42 = some _ from rfl) rfl rfl (j := 0) rfl (Nat.zero_le _)) ?_
      cbv
      refine stepD (en_roc rfl hg rfl rfl (cSameTSN hP 0 0 e1' Y bY true rfl) (fun _ => 7) rfl ⟨by rw [rY]; rfl, trivial⟩ (fun _ _ _ h => h) trivial) ?_
      cbv
      rw [n1]
      cbv
      refine stepD (en_roc rfl hg rfl rfl (cLen hP 1 c1) (fun l => if l = 0 then 1 else 5) rfl ⟨rfl, trivial⟩ (fun _ _ _ h => h) trivial) ?_
      cbv
      rw [e1, show cmp .neq (Int.ofNat 1) (Int.ofNat 1) = false from (neq_of hA _ _).trans rfl]
      cbv
      rw [f5]
      refine ⟨.inr (1, c1, X), fun l => if l = 3 then 5 else l, ⟨by omega, by omega, hR⟩, (by show n - 1 < n + 1; omega), ?_⟩
      exact weak_rho ⟨rfl, rfl, rfl, rfl, rfl, rfl, rfl, rfl, rfl, rfl, rfl, rfl, trivial⟩ ⟨by rw [rE]; rfl, rfl, rfl, bE 4, rfl, rfl, rfl, rfl, rfl, rfl, rfl, rfl, by rw [rX]; rfl, rfl, rfl, hR.b 4, trivial⟩ rfl rfl rfl
  · obtain ⟨hkn, hk60, hR⟩ := hs
    have bC := hR.b
    have rC : ∀ r, renL r C = C := fun r => renL_cl C (bC 0)
    cbv
    by_cases hz : n ≤ k
    · rw [en, show cmp .lss (Int.ofNat k) (Int.ofNat n) = false from (lss_of hA _ _).trans (decide_eq_false (by simp; omega))]
      cbv
      obtain ⟨b, hb⟩ : ∃ b, cmp .eql (bin .and .i64 i 1) 1 = b := ⟨_, rfl⟩
      rw [hb]
      cbv
      refine call_gen rfl hg rfl rfl (cBranch0 hP b) (fun l => 2 + l) rfl ⟨rfl, trivial⟩ rfl rfl rfl ?_
      rintro _ _ _ ⟨rfl, d1, tl, x, d2, d3, d4, d5, rfl, rfl⟩ _
      obtain ⟨X, hX⟩ : ∃ X, X = [SV.int .i64 1, SV.int .i64 x] ++ tl := ⟨_, rfl⟩
      rw [← hX]
      have bX : ∀ q, bdLB q X = true := fun q => hX ▸ bdLB_append rfl (d5 q)
      have rX : ∀ r, renL r X = X := fun r => renL_cl X (bX 0)
      have lX : 1 * 2 ≤ X.length := by rw [hX]; simp only [List.length_append, List.length_cons, List.length_nil]; omega
      simp only [renB, rX, rE, rC]
      cbv
      refine call_val rfl hg rfl rfl (cNum hP 0) ?_
      rintro _ _ _ rfl
      cbv
      rw [k0]
      cbv
      refine call_ro rfl hg rfl rfl (cLen hP 1 d1) (fun l => if l = 0 then 2 else 5) rfl ⟨rfl, trivial⟩ ?_
      rintro _ _ _ rfl
      cbv
      rw [k1]
      cbv
      refine call_gen rfl hg rfl rfl (cEvents hP 1 d1 X lX (by decide) bX (by rw [hX]; rfl)) (fun l => if l = 0 then 2 else 5) rfl ⟨rfl, by rw [rX]; rfl, trivial⟩ rfl rfl rfl ?_
      rintro _ _ _ ⟨e1, tm, rfl, e2, e3, e4, e5, rfl, rfl⟩ _
      obtain ⟨Y, hY⟩ : ∃ Y, Y = X.take (1 * 2) ++ tm := ⟨_, rfl⟩
      rw [← hY]
      have bY : ∀ q, bdLB q Y = true := fun q => hY ▸ bdLB_append (bdLB_take (bX q)) (e5 q)
      have rY : ∀ r, renL r Y = Y := fun r => renL_cl Y (bY 0)
      simp only [renB, rX, rY, rE, rC]
      cbv
      refine call_ro rfl hg rfl rfl (cSameTSN hP 0 1 e1 Y bY false rfl) (fun l => 5 + 2) rfl ⟨by rw [rY]; rfl, trivial⟩ ?_
      rintro _ _ _ rfl
      cbv
      rw [n0]
      cbv
      exact hK _ _ _ rfl
    · rw [en, show cmp .lss (Int.ofNat k) (Int.ofNat n) = true from (lss_of hA _ _).trans (decide_eq_true (by simp; omega))]
      cbv
      by_cases h60 : 60 ≤ k
      · rw [show cmp .lss (Int.ofNat k) 60 = false from (lss_of hA _ _).trans (decide_eq_false (by simp; omega))]
        cbv
        obtain ⟨b, hb⟩ : ∃ b, cmp .eql (bin .and .i64 i 1) 1 = b := ⟨_, rfl⟩
        rw [hb]
        cbv
        refine call_gen rfl hg rfl rfl (cBranch0 hP b) (fun l => 2 + l) rfl ⟨rfl, trivial⟩ rfl rfl rfl ?_
        rintro _ _ _ ⟨rfl, d1, tl, x, d2, d3, d4, d5, rfl, rfl⟩ _
        obtain ⟨X, hX⟩ : ∃ X, X = [SV.int .i64 1, SV.int .i64 x] ++ tl := ⟨_, rfl⟩
        rw [← hX]
        have bX : ∀ q, bdLB q X = true := fun q => hX ▸ bdLB_append rfl (d5 q)
        have rX : ∀ r, renL r X = X := fun r => renL_cl X (bX 0)
        have lX : 1 * 2 ≤ X.length := by rw [hX]; simp only [List.length_append, List.length_cons, List.length_nil]; omega
        simp only [renB, rX, rE, rC]
        cbv
        refine call_val rfl hg rfl rfl (cNum hP 0) ?_
        rintro _ _ _ rfl
        cbv
        rw [k0]
        cbv
        refine call_ro rfl hg rfl rfl (cLen hP 1 d1) (fun l => if l = 0 then 2 else 5) rfl ⟨rfl, trivial⟩ ?_
        rintro _ _ _ rfl
        cbv
        rw [k1]
        cbv
        refine call_gen rfl hg rfl rfl (cEvents hP 1 d1 X lX (by decide) bX (by rw [hX]; rfl)) (fun l => if l = 0 then 2 else 5) rfl ⟨rfl, by rw [rX]; rfl, trivial⟩ rfl rfl rfl ?_
        rintro _ _ _ ⟨e1, tm, rfl, e2, e3, e4, e5, rfl, rfl⟩ _
        obtain ⟨Y, hY⟩ : ∃ Y, Y = X.take (1 * 2) ++ tm := ⟨_, rfl⟩
        rw [← hY]
        have bY : ∀ q, bdLB q Y = true := fun q => hY ▸ bdLB_append (bdLB_take (bX q)) (e5 q)
        have rY : ∀ r, renL r Y = Y := fun r => renL_cl Y (bY 0)
        simp only [renB, rX, rY, rE, rC]
        cbv
        refine call_ro rfl hg rfl rfl (cSameTSN hP 0 1 e1 Y bY false rfl) (fun l => 5 + 2) rfl ⟨by rw [rY]; rfl, trivial⟩ ?_
        rintro _ _ _ rfl
        cbv
        rw [n0]
        cbv
        exact hK _ _ _ rfl
      · rw [show cmp .lss (Int.ofNat k) 60 = true from (lss_of hA _ _).trans (decide_eq_true (by simp; omega))]
        cbv
        have hp : k < n := by omega
        refine call_gen rfl hg rfl rfl (cEvents hP k c' C (by have := hR.len; have := hR.kc; omega) (by omega) bC hR.one) (fun l => if l = 0 then 1 else 3) rfl ⟨rfl, by rw [rC]; rfl, trivial⟩ rfl rfl rfl ?_
        rintro _ _ _ ⟨e0', tm0, rfl, z2, z3, z4, z5, rfl, rfl⟩ _
        obtain ⟨Z, hZ⟩ : ∃ Z, Z = C.take (k * 2) ++ tm0 := ⟨_, rfl⟩
        rw [← hZ]
        have bZ : ∀ q, bdLB q Z = true := fun q => hZ ▸ bdLB_append (bdLB_take (bC q)) (z5 q)
        have rZ : ∀ r, renL r Z = Z := fun r => renL_cl Z (bZ 0)
        simp only [renB, rC, rZ, rE]
        cbv
        have en1 : nat k = Int.ofNat k := nat_of hA k
        have f1 : ix (Int.ofNat k) n = some k := ix_of hA hp
        have f2 : off o k 2 = o + k * 2 := off_of hA o k 2
        have f3 : off (o + k * 2) 1 1 = o + k * 2 + 1 := off_of hA _ 1 1
        have f4 : get E (o + k * 2 + 1) = some (.int .i64 (eb k)) := (get_of hA _ _).trans (pair_get (hEj k hp))
        have f5 : bin .add .i64 (Int.ofNat k) 1 = Int.ofNat (k + 1) := add_of hA (by omega)
        have f6 : cmp .neq (Int.ofNat (k + 1)) (Int.ofNat (k + 1)) = false := (neq_of hA _ _).trans (by simp)
        have f7 : ix (Int.ofNat k) (k + 1) = some k := ix_of hA (by omega)
        have g2 : off 0 k 2 = k * 2 := (off_of hA 0 k 2).trans (by omega)
        have en2 : nat (k + 1) = Int.ofNat (k + 1) := nat_of hA (k + 1)
        generalize ho1 : o + k * 2 + 1 = o1 at f3 f4
        generalize ho2 : o + k * 2 = o2 at f2 f3
        rw [f1]
        cbv
        rw [f2]
        cbv
        rw [f3]
        cbv
        rw [f4]
        cbv
        refine call_gen rfl hg rfl rfl (cIndex hP (eb k) k c' C hR.len hR.kc hR.cm (by omega) bC) (fun l => if l = 0 then 1 else 3) rfl ⟨rfl, by rw [rC]; rfl, trivial⟩ rfl rfl rfl ?_
        rintro _ _ _ ⟨rfl, c1, tail, h1, h2, h3, h4, rfl, rfl⟩ _
        have hR2 := row_more hR h1 h2 h3 h4
        obtain ⟨X, hX⟩ : ∃ X, X = C.take (k * 2) ++ [SV.int .i64 2, SV.int .i64 (eb k)] ++ tail := ⟨_, rfl⟩
        rw [← hX] at hR2 ⊢
        have rX : ∀ r, renL r X = X := fun r => renL_cl X (hR2.b 0)
        obtain ⟨k2, hk2⟩ : ∃ k2, k2 = k + 1 := ⟨_, rfl⟩
        rw [← hk2] at f5 f6 f7 en2 hR2 h1 h3 ⊢
        simp only [renB, rX, rE, rC, rZ]
        cbv
        refine call_gen rfl hg rfl rfl (cEvents hP k2 c1 X (by have := hR2.len; have := hR2.kc; omega) (by omega) hR2.b hR2.one) (fun l => if l = 0 then 1 else 7) rfl ⟨rfl, by rw [rX]; rfl, trivial⟩ rfl rfl rfl ?_
        rintro _ _ _ ⟨e1', tm, rfl, e2, e3, e4, e5, rfl, rfl⟩ _
        obtain ⟨Y, hY⟩ : ∃ Y, Y = X.take (k2 * 2) ++ tm := ⟨_, rfl⟩
        rw [← hY]
        have bY : ∀ q, bdLB q Y = true := fun q => hY ▸ bdLB_append (bdLB_take (hR2.b q)) (e5 q)
        have rY : ∀ r, renL r Y = Y := fun r => renL_cl Y (bY 0)
        have aY := hY ▸ row_copy hR2 tm
        have aZ := hZ ▸ row_copy hR tm0
        simp only [renB, rX, rY, rE, rC, rZ]
        cbv
        refine reg_M (hP ▸ tblOk) hA hg (hP ▸ mixed) rfl rfl fun mk _ => ?_
        have g3 : sub Y (k * 2) 2 = some [.int .i64 2, .int .i64 (eb k)] := sub_of hA (by have := aY.1; omega) (aY.2 k (by omega))
        generalize hp2 : k * 2 = p2 at g2 g3
        cbv
        rw [en2, en1, f5, f6]
        cbv
        rw [en1, f7]
        cbv
        rw [g2, g3]
        cbv
        rw [f1]
        cbv
        rw [f2]
        cbv
        rw [f3]
        cbv
        rw [f4]
        cbv
        refine stepD (en_neq_ev hP rfl hg rfl rfl rfl) ?_
        rw [show (!((2 : Int) == 2 && eb k == eb k)) = false by simp]
        cbv
        rw [en1]
        refine stepD (en_slice_h (hP ▸ tblOk) hg rfl rfl (show tyT 42 = some _ from rfl) rfl rfl (j := k) rfl (by omega)) ?_
        cbv
        refine stepD (en_roc rfl hg rfl rfl (cSameTr hP 0 k e1' 0 k e0' Y Z (fun _ => 2) eb (fun _ => 2) eb (by omega) (by have := aY.1; omega) (by have := aZ.1; omega) (fun j hj => by rw [Nat.zero_add]; exact aY.2 j (by omega)) (fun j hj => by rw [Nat.zero_add]; exact aZ.2 j hj) bY bZ true (decide_eq_true ⟨rfl, fun _ _ => ⟨rfl, rfl⟩⟩).symm) (fun l => if l = 0 then 9 else 5) rfl ⟨by rw [rY]; rfl, by rw [rZ]; rfl, trivial⟩ (fun _ _ _ h => h) trivial) ?_
        cbv
        rw [n1]
        cbv
        refine stepD (en_roc rfl hg rfl rfl (cLen hP k2 c1) (fun l => if l = 0 then 1 else 7) rfl ⟨rfl, trivial⟩ (fun _ _ _ h => h) trivial) ?_
        cbv
        rw [en2, f6]
        cbv
        rw [f5]
        refine ⟨.inr (k2, c1, X), fun l => if l = 3 then 7 else l, ⟨by omega, by omega, hR2⟩, (by show n - k2 < n - k; omega), ?_⟩
        exact weak_rho ⟨rfl, rfl, rfl, rfl, rfl, rfl, rfl, rfl, rfl, rfl, rfl, rfl, trivial⟩ ⟨by rw [rE]; rfl, rfl, rfl, bE 4, rfl, rfl, rfl, rfl, rfl, rfl, rfl, rfl, by rw [rX]; rfl, rfl, rfl, hR2.b 4, trivial⟩ rfl rfl rfl
set_option maxHeartbeats 4000000 in
theorem cGrowsN {P : Program} (hP : P = Try.prog) (i : Int) :
    Con P 10 [.nils, .int .i64 i] [] 0 [] (fun v _ _ => v = .bool true) := by
  refine Con.of (hP ▸ tblOk) (hP ▸ Try.func10) rfl rfl rfl rfl (by decide) rfl rfl ⟨trivial, trivial, trivial⟩ (by simp) ?_
  intro A g K hA hg hK
  obtain ⟨bin, sh, cmp, una, cvt, ix, nn, nz, bnot, beq, scat, scmp, slen, six, nat, off, get, set, sub, spl⟩ := A
  have k0 : cmp .eql 0 0 = true := (eql_of hA _ _).trans rfl
  have k1 : cmp .eql (Int.ofNat 1) 1 = true := (eql_of hA _ _).trans rfl
  have n1 : bnot true = false := bnot_of hA true
  have n0 : bnot false = true := bnot_of hA false
  cbv
  refine call_val rfl hg rfl rfl (cAwake3 hP) ?_
  rintro _ _ _ rfl
  cbv
  rw [n1]
  cbv
  refine call_gen rfl hg rfl rfl (cNew hP) id rfl trivial rfl rfl rfl ?_
  rintro _ _ _ ⟨rfl, rfl, rfl⟩ _
  cbv
  refine call_gen rfl hg rfl rfl (cNew hP) id rfl trivial rfl rfl rfl ?_
  rintro _ _ _ ⟨rfl, rfl, rfl⟩ _
  cbv
  refine ⟨Unit, fun _ => True, fun _ => 0, fun _ => [(0, .nils), (1, .int .i64 i), (4, .bool false), (5, .ptr 0 0), (6, .ptr 1 0), (7, .int .i64 0)],
    fun _ => [⟨0, [.nils], 62⟩, ⟨1, [.nils], 62⟩], 2, ⟨(), id, trivial, ?_⟩, ?_⟩
  · exact weak_id ⟨rfl, rfl, rfl, rfl, rfl, rfl, rfl, rfl, rfl, rfl, rfl, rfl, trivial⟩ ⟨rfl, rfl, rfl, rfl, rfl, rfl, trivial⟩ rfl rfl
  rintro _ _
  cbv
  rw [show cmp .lss 0 0 = false from (lss_of hA _ _).trans rfl]
  cbv
  obtain ⟨b, hb⟩ : ∃ b, cmp .eql (bin .and .i64 i 1) 1 = b := ⟨_, rfl⟩
  rw [hb]
  cbv
  refine call_gen rfl hg rfl rfl (cBranch0 hP b) (fun l => 1 + l) rfl ⟨rfl, trivial⟩ rfl rfl rfl ?_
  rintro _ _ _ ⟨rfl, d1, tl, x, d2, d3, d4, d5, rfl, rfl⟩ _
  obtain ⟨X, hX⟩ : ∃ X, X = [SV.int .i64 1, SV.int .i64 x] ++ tl := ⟨_, rfl⟩
  rw [← hX]
  have bX : ∀ q, bdLB q X = true := fun q => hX ▸ bdLB_append rfl (d5 q)
  have rX : ∀ r, renL r X = X := fun r => renL_cl X (bX 0)
  have lX : 1 * 2 ≤ X.length := by rw [hX]; simp only [List.length_append, List.length_cons, List.length_nil]; omega
  simp only [renB, rX]
  cbv
  refine call_val rfl hg rfl rfl (cNum hP 0) ?_
  rintro _ _ _ rfl
  cbv
  rw [k0]
  cbv
  refine call_ro rfl hg rfl rfl (cLen hP 1 d1) (fun l => if l = 0 then 1 else 3) rfl ⟨rfl, trivial⟩ ?_
  rintro _ _ _ rfl
  cbv
  rw [k1]
  cbv
  refine call_gen rfl hg rfl rfl (cEvents hP 1 d1 X lX (by decide) bX (by rw [hX]; rfl)) (fun l => if l = 0 then 1 else 3) rfl ⟨rfl, by rw [rX]; rfl, trivial⟩ rfl rfl rfl ?_
  rintro _ _ _ ⟨e1, tm, rfl, e2, e3, e4, e5, rfl, rfl⟩ _
  obtain ⟨Y, hY⟩ : ∃ Y, Y = X.take (1 * 2) ++ tm := ⟨_, rfl⟩
  rw [← hY]
  have bY : ∀ q, bdLB q Y = true := fun q => hY ▸ bdLB_append (bdLB_take (bX q)) (e5 q)
  have rY : ∀ r, renL r Y = Y := fun r => renL_cl Y (bY 0)
  simp only [renB, rX, rY]
  cbv
  refine call_ro rfl hg rfl rfl (cSameTSN hP 0 1 e1 Y bY false rfl) (fun l => 3 + 2) rfl ⟨by rw [rY]; rfl, trivial⟩ ?_
  rintro _ _ _ rfl
  cbv
  rw [n0]
  cbv
  exact hK _ _ _ rfl
end Go.Proofs.Ytgdkefjpekebmaa
