/-
  This text proves contracts of what the statement on events by any calls calls: rows of events that are spoilt, lent and kept. Condition: the rows are not too long.
-/
import Derived.Test.YtgdkefjpekebmaaUh
namespace Go.Vg
open Go.RowKit
section
variable {P : Program} {g : G} {T : Nat → Option Ty} {F : FF} {L : LL} {n : Nat}
/-- 'append' of nil -/
theorem step_append_nilx (hT : TOk P T) {o : Oper} {m0 N : Nat} {ms : List Nat} (hg : GI g m0 ms N) (hd' : dstLt N o.dst = true) {s x : Operand} {t : Nat} (ho : o.op = .call { callee := .builtin .append, args := #[s, x], argTypes := #[t, t] })
    {i : Ty} (ht : T t = some i) {e es : Nat} (hd : i.d = .sl e es) {l of n1 c : Nat} (hs : ev (look F) s = some (.slice l of n1 c)) (hn : n1 ≤ c) (hx : ev (look F) x = some .nils) {K : FF → LL → Nat → Prop} (hK : K (putO F o.dst (.slice l of n1 c)) L n) : Step g P o K F L n := by
  obtain ⟨hu, hsz⟩ := sl_of hT ht hd
  refine step_val hg hd' (fun β a W hm hf => ?_) hK
  obtain ⟨e1, b1⟩ := ev_sound hf hs
  obtain ⟨e2, _⟩ := ev_sound hf hx
  refine ⟨run_append_op ho ?_, b1⟩
  rw [e1, e2]
  simp [Builtin.append_, run_underlying hu, run_sizeOf hsz, Builtin.lenOf, hn, den, Builtin.firstCells, storeCells]
end
end Go.Vg
namespace Go.Proofs.Ytgdkefjpekebmaa
open Go.Vg
set_option maxRecDepth 200000
set_option cbv.maxSteps 100000000
/-- a row of k events -/
structure RowP (pa pb : Nat → Int) (k c : Nat) (C : List SV) : Prop where
  k1 : 1 ≤ k
  kc : k ≤ c
  cm : c ≤ maxLen
  len : C.length = c * 2
  b : ∀ m, bdLB m C = true
  one : ones (C.take (k * 2)) = true
  at_ : ∀ j, j < k → (C.drop (j * 2)).take 2 = [.int .i64 (pa j), .int .i64 (pb j)]
theorem rowP_one {pa pb : Nat → Int} {x y : Int} {c : Nat} {tail : List SV} (hx : x = pa 0) (hy : y = pb 0) (h1 : 1 ≤ c) (h2 : c ≤ maxLen) (h3 : tail.length = (c - 1) * 2) (h4 : ∀ q, bdLB q tail = true) : RowP pa pb 1 c ([.int .i64 x, .int .i64 y] ++ tail) :=
  ⟨Nat.le_refl 1, h1, h2, by simp only [List.length_append, List.length_cons, List.length_nil, h3]; omega, fun m => bdLB_append rfl (h4 m), rfl, fun j hj => by rw [show j = 0 by omega, hx, hy]; rfl⟩
theorem rowP_more {pa pb : Nat → Int} {x y : Int} {k c c' : Nat} {C tail : List SV} (h : RowP pa pb k c C) (hx : x = pa k) (hy : y = pb k) (h1 : k + 1 ≤ c') (h2 : c' ≤ maxLen) (h3 : tail.length = (c' - (k + 1)) * 2) (h4 : ∀ q, bdLB q tail = true) : RowP pa pb (k + 1) c' (C.take (k * 2) ++ [.int .i64 x, .int .i64 y] ++ tail) := by
  have hl : (C.take (k * 2)).length = k * 2 := by rw [List.length_take, h.len]; have := h.kc; omega
  refine ⟨by omega, h1, h2, ?_, fun m => bdLB_append (bdLB_append (bdLB_take (h.b m)) rfl) (h4 m), ?_, ?_⟩
  · simp only [List.length_append, hl, List.length_cons, List.length_nil, h3]; omega
  · rw [show (k + 1) * 2 = (C.take (k * 2) ++ [SV.int .i64 x, SV.int .i64 y]).length by simp only [List.length_append, hl, List.length_cons, List.length_nil]; omega, List.take_left]
    exact ones_app h.one rfl
  · intro j hj
    by_cases hjk : j < k
    · rw [← h.at_ j hjk]
      apply List.ext_getElem?
      intro q
      simp only [List.getElem?_take, List.getElem?_drop, List.append_assoc]
      by_cases hq : q < 2
      · rw [if_pos hq, if_pos hq, List.getElem?_append_left (by omega), List.getElem?_take, if_pos (by omega)]
      · rw [if_neg hq, if_neg hq]
    · obtain rfl : j = k := by omega
      rw [List.append_assoc, List.drop_append_of_le_length (by omega), List.drop_eq_nil_of_le (by omega), hx, hy]
      rfl
theorem rowP_copy {pa pb : Nat → Int} {k c : Nat} {C : List SV} (h : RowP pa pb k c C) (tm : List SV) : k * 2 ≤ (C.take (k * 2) ++ tm).length ∧ ∀ j, j < k → ((C.take (k * 2) ++ tm).drop (j * 2)).take 2 = [.int .i64 (pa j), .int .i64 (pb j)] := by
  have hl : (C.take (k * 2)).length = k * 2 := by rw [List.length_take, h.len]; have := h.kc; omega
  refine ⟨by rw [List.length_append, hl]; omega, fun j hj => ?_⟩
  rw [← h.at_ j hj]
  apply List.ext_getElem?
  intro q
  simp only [List.getElem?_take, List.getElem?_drop]
  by_cases hq : q < 2
  · rw [if_pos hq, if_pos hq, List.getElem?_append_left (by omega), List.getElem?_take, if_pos (by omega)]
  · rw [if_neg hq, if_neg hq]
def b2i (b : Bool) : Int := if b then 1 else 0
theorem cBranchB0 {P : Program} (hP : P = Try.prog) (b : Bool) (x : Int) (hx : x = b2i b) :
    Con P 23 [.ptr 0 0, .bool b] [⟨0, [.nils], 62⟩] 1 [0]
      (fun v L n => v = .int .i64 0 ∧ ∃ c' tail, 1 ≤ c' ∧ c' ≤ maxLen ∧ tail.length = (c' - 1) * 2 ∧ (∀ q, bdLB q tail = true) ∧ L = [⟨0, [.slice 2 0 1 c'], 62⟩, ⟨1, [.int .i64 1, .int .i64 x], 46⟩, ⟨2, [.int .i64 1, .int .i64 x] ++ tail, 46⟩] ∧ n = 3) := by
  subst hx
  cases b with
  | true => exact cBranchT0 hP
  | false => exact cBranchF0 hP
theorem cBranchB {P : Program} (hP : P = Try.prog) (b : Bool) (x : Int) (hx : x = b2i b) (k c : Nat) (C : List SV) (hC : C.length = c * 2) (hkc : k ≤ c) (hc : c ≤ maxLen) (hk : (k + 1) * 16 ≤ 140737488355328) (bC : ∀ m, bdLB m C = true) :
    Con P 23 [.ptr 0 0, .bool b] [⟨0, [.slice 1 0 k c], 62⟩, ⟨1, C, 46⟩] 2 [0, 1]
      (fun v L n => v = .int .i64 0 ∧ ∃ c' tail, k + 1 ≤ c' ∧ c' ≤ maxLen ∧ tail.length = (c' - (k + 1)) * 2 ∧ (∀ q, bdLB q tail = true) ∧ L = [⟨0, [.slice 3 0 (k + 1) c'], 62⟩, ⟨2, [.int .i64 1, .int .i64 x], 46⟩, ⟨3, C.take (k * 2) ++ [.int .i64 1, .int .i64 x] ++ tail, 46⟩] ∧ n = 4) := by
  subst hx
  cases b with
  | true => exact cBranchT hP k c C hC hkc hc hk bC
  | false => exact cBranchF hP k c C hC hkc hc hk bC
/-- '==' of events outside of drawn regions -/
theorem step_eq_ev {P : Program} (hP : P = Try.prog) {g : G} {F : FF} {L : LL} {n : Nat} {o : Oper} {x y : Operand} {yt : TypeId} (ho : o.op = .binOp .eql 46 x y yt) {m0 N : Nat} {ms : List Nat} (hg : GI g m0 ms N) (hd' : dstLt N o.dst = true) {a b c d : Int}
    (hx : ev (Vg.look F) x = some (.agg [.int .i64 a, .int .i64 b])) (hy : ev (Vg.look F) y = some (.agg [.int .i64 c, .int .i64 d])) {K : FF → LL → Nat → Prop} (hK : K (putO F o.dst (.bool (a == c && b == d))) L n) : Step g P o K F L n := by
  subst hP
  refine step_val hg hd' (fun β act W hm hf => ?_) hK
  obtain ⟨e1, _⟩ := ev_sound hf hx
  obtain ⟨e2, _⟩ := ev_sound hf hy
  refine ⟨?_, trivial⟩
  have h1 : act.eval x = .agg #[.int .i64 a, .int .i64 b] := e1
  have h2 : act.eval y = .agg #[.int .i64 c, .int .i64 d] := e2
  have h4 : Try.prog.eqGuardType Try.prog.depth 46 = false := by kernel_rfl
  have h3 : ∀ xs ys, (eqGuard .eql 46 x y (.agg xs) (.agg ys)).run Try.prog W = .ok () W := fun xs ys => run_eqGuard_agg W .eql 46 x y xs ys h4
  unfold execOp
  simp only [ho, h1, h2, Sem.run_bind, h3, Result.andThen_ok, run_eql_struct, eq_ev, Sem.run_pure, den]
/-- k pairs of ints -/
def Pairs (k : Nat) (C : List SV) : Prop := ∃ a b : Nat → Int, ∀ j, j < k → (C.drop (j * 2)).take 2 = [.int .i64 (a j), .int .i64 (b j)]
theorem pairs_set {k j : Nat} {C : List SV} (h : Pairs k C) (hk : k * 2 ≤ C.length) (hj : j < k) (v : Int) : Pairs k (Vg.splice C (j * 2 + 1) [.int .i64 v]) := by
  obtain ⟨a, b, h⟩ := h
  refine ⟨a, fun i => if i = j then v else b i, fun i hi => ?_⟩
  have hg : ∀ q, q ≠ j * 2 + 1 → (Vg.splice C (j * 2 + 1) [SV.int .i64 v])[q]? = C[q]? := by
    intro q hq
    simp only [Vg.splice, List.length_cons, List.length_nil, List.append_assoc]
    by_cases h1 : q < j * 2 + 1
    · rw [List.getElem?_append_left (by rw [List.length_take]; omega), List.getElem?_take, if_pos h1]
    · rw [List.getElem?_append_right (by rw [List.length_take]; omega), List.length_take, show min (j * 2 + 1) C.length = j * 2 + 1 by omega, List.singleton_append, show q - (j * 2 + 1) = (q - (j * 2 + 1) - 1) + 1 by omega, List.getElem?_cons_succ, List.getElem?_drop]
      congr 1; omega
  have hs : (Vg.splice C (j * 2 + 1) [SV.int .i64 v])[j * 2 + 1]? = some (.int .i64 v) := by
    simp only [Vg.splice, List.length_cons, List.length_nil, List.append_assoc]
    rw [List.getElem?_append_right (by rw [List.length_take]; omega), List.length_take, show min (j * 2 + 1) C.length = j * 2 + 1 by omega, Nat.sub_self]
    rfl
  have h0 : C[i * 2]? = some (.int .i64 (a i)) := by
    have h2 : ((C.drop (i * 2)).take 2)[0]? = some (.int .i64 (a i)) := by rw [h i hi]; rfl
    simpa [List.getElem?_take, List.getElem?_drop] using h2
  have h1 := pair_get (h i hi)
  apply List.ext_getElem?
  intro q
  simp only [List.getElem?_take, List.getElem?_drop]
  match q with
  | 0 =>
    rw [if_pos (by omega), hg _ (by omega), Nat.add_zero, h0]; rfl
  | 1 =>
    rw [if_pos (by omega)]
    by_cases hij : i = j
    · subst hij; rw [hs, if_pos rfl]; rfl
    · rw [hg _ (by omega), h1, if_neg hij]; rfl
  | q + 2 => simp; intro h; omega
theorem cSpoil {P : Program} (hP : P = Try.prog) (k c : Nat) (C : List SV) (hC : k * 2 ≤ C.length) (hk : k < 4611686018427387904) (hp : Pairs k C) (bC : ∀ m, bdLB m C = true) :
    Con P 27 [.slice 0 0 k c] [⟨0, C, 46⟩] 1 [0] (fun _ L n => ∃ D, L = [⟨0, D, 46⟩] ∧ n = 1 ∧ ∀ m, bdLB m D = true) := by
  refine Con.of (hP ▸ tblOk) (hP ▸ Try.func27) rfl rfl rfl rfl (by decide) rfl rfl ⟨Nat.zero_lt_succ _, trivial⟩ (by simpa using bdLB_bd _ (bC 1)) ?_
  intro A g K hA hg hK
  obtain ⟨bin, sh, cmp, una, cvt, ix, nn, nz, bnot, beq, scat, scmp, slen, six, nat, off, get, set, sub, spl⟩ := A
  have e1 : nat k = Int.ofNat k := nat_of hA k
  cbv
  refine ⟨Nat × List SV, fun s => s.1 ≤ k ∧ s.2.length = C.length ∧ Pairs k s.2 ∧ ∀ m, bdLB m s.2 = true, fun s => k - s.1, fun s => [(0, .slice 0 0 k c), (2, .int .i64 s.1)], fun s => [⟨0, s.2, 46⟩], 1, ⟨(0, C), id, ⟨Nat.zero_le _, rfl, hp, bC⟩, ?_⟩, ?_⟩
  · exact weak_id ⟨rfl, rfl, rfl, rfl, trivial⟩ ⟨rfl, rfl, bC _, trivial⟩ rfl rfl
  rintro ⟨j, D⟩ ⟨hj, hlen, hpD, bD⟩
  have bD : ∀ m, bdLB m D = true := bD
  have hlen : D.length = C.length := hlen
  have hpD : Pairs k D := hpD
  have hj : j ≤ k := hj
  cbv
  by_cases hlt : j < k
  · have f1 : cmp .lss (Int.ofNat j) (Int.ofNat k) = true := (lss_of hA _ _).trans (decide_eq_true (by simp; omega))
    have f2 : ix (Int.ofNat j) k = some j := ix_of hA hlt
    have f4 : off 0 j 2 = j * 2 := (off_of hA 0 j 2).trans (by omega)
    have f5 : off (j * 2) 1 1 = j * 2 + 1 := off_of hA _ 1 1
    have f6 : ∃ x : Int, get D (j * 2 + 1) = some (.int .i64 x) := by
      obtain ⟨a, b, h⟩ := hpD
      exact ⟨b j, (get_of hA _ _).trans (pair_get (h j hlt))⟩
    obtain ⟨x, f6⟩ := f6
    have f7 : ∀ v : Int, spl D (j * 2 + 1) [.int .i64 v] = some (Vg.splice D (j * 2 + 1) [.int .i64 v]) := fun v => spl_of hA (by omega) _
    have f8 : bin .add .i64 (Int.ofNat j) 1 = Int.ofNat (j + 1) := add_of hA (by omega)
    obtain ⟨w, hw⟩ : ∃ w, w = bin .xor .i64 x 90 := ⟨_, rfl⟩
    have f7 := f7 w
    obtain ⟨D', hD'⟩ : ∃ D', D' = Vg.splice D (j * 2 + 1) [.int .i64 w] := ⟨_, rfl⟩
    have hp' : Pairs k D' := hD' ▸ pairs_set hpD (by omega) hlt w
    have hl' : D'.length = D.length := by rw [hD']; exact splice_length (by simp; omega)
    have b' : ∀ m, bdLB m D' = true := fun m => hD' ▸ bdLB_append (bdLB_append (bdLB_take (bD m)) rfl) (bdLB_drop (bD m))
    rw [← hD'] at f7
    generalize j * 2 + 1 = p1 at f5 f6 f7
    generalize j * 2 = p0 at f4 f5
    rw [e1, f1]
    cbv
    rw [f2]
    cbv
    rw [f4]
    cbv
    rw [f5]
    cbv
    rw [f6]
    cbv
    rw [← hw]
    rw [f2]
    cbv
    rw [f4]
    cbv
    rw [f5]
    cbv
    rw [f7]
    cbv
    rw [f8]
    refine ⟨(j + 1, D'), id, ⟨hlt, hl'.trans hlen, hp', b'⟩, (by show k - (j + 1) < k - j; omega), ?_⟩
    exact weak_id ⟨rfl, rfl, rfl, rfl, trivial⟩ ⟨rfl, rfl, b' _, trivial⟩ rfl rfl
  · have f1 : cmp .lss (Int.ofNat j) (Int.ofNat k) = false := (lss_of hA _ _).trans (decide_eq_false (by simp; omega))
    rw [e1, f1]
    cbv
    exact hK _ _ _ ⟨D, rfl, rfl, bD⟩
theorem cCopy {P : Program} (hP : P = Try.prog) {t : TypeId} (o k c : Nat) (C : List SV) (hC : 0 < k → o + k * 2 ≤ C.length) (hk : k * 16 ≤ 140737488355328) (bC : ∀ m, bdLB m C = true) (h1 : ones ((C.drop o).take (k * 2)) = true) :
    Con P 37 [.slice 0 o k c] [⟨0, C, t⟩] 1 [] (fun v L n => ∃ c' tail, v = .slice 2 0 k c' ∧ k ≤ c' ∧ c' ≤ maxLen ∧ tail.length = (c' - k) * 2 ∧ (∀ q, bdLB q tail = true) ∧ L = [⟨0, C, t⟩, ⟨2, (C.drop o).take (k * 2) ++ tail, 46⟩] ∧ n = 3) := by
  refine Con.of (hP ▸ tblOk) (hP ▸ Try.func37) rfl rfl rfl rfl (by decide) rfl rfl ⟨Nat.zero_lt_succ _, trivial⟩ (by simpa using bdLB_bd _ (bC 1)) ?_
  intro A g K hA hg hK
  obtain ⟨bin, sh, cmp, una, cvt, ix, nn, nz, bnot, beq, scat, scmp, slen, six, nat, off, get, set, sub, spl⟩ := A
  cbv
  refine step_buildSlice0 (hP ▸ tblOk) hg rfl rfl (show tyT 42 = some _ from rfl) rfl ?_
  cbv
  refine step_append_own0 (hP ▸ tblOk) hg rfl rfl (show tyT 42 = some _ from rfl) rfl (show tyT 46 = some _ from rfl) (bytesEv hP) (by decide) (show ev _ _ = some (.slice 1 0 0 0) from rfl) (show find _ 1 = some _ from rfl) rfl (Nat.le_refl 0) rfl (by decide) (show ev _ _ = some (.slice 0 o k c) from rfl) (show find _ 0 = some _ from rfl) hC h1 (by simp only [maxLen]; omega) (by omega) ?_
  intro c' tail g1 g2 g3 g4
  rw [Nat.zero_add] at g1 g3 ⊢
  simp only [Nat.zero_mul, List.take_zero, List.nil_append]
  generalize hX : (C.drop o).take (k * 2) ++ tail = X
  cbv
  refine hK _ _ _ ⟨c', tail, rfl, g1, g2, g3, fun q => g4 q rfl rfl, ?_, rfl⟩
  rw [hX]
theorem cCopyN {P : Program} (hP : P = Try.prog)  :
    Con P 37 [.nils] [] 0 [] (fun v L n => v = .slice 0 0 0 0 ∧ L = [⟨0, [], 46⟩] ∧ n = 1) := by
  refine Con.of (hP ▸ tblOk) (hP ▸ Try.func37) rfl rfl rfl rfl (by decide) rfl rfl ⟨trivial, trivial⟩ (by simp) ?_
  intro A g K hA hg hK
  obtain ⟨bin, sh, cmp, una, cvt, ix, nn, nz, bnot, beq, scat, scmp, slen, six, nat, off, get, set, sub, spl⟩ := A
  cbv
  refine step_buildSlice0 (hP ▸ tblOk) hg rfl rfl (show tyT 42 = some _ from rfl) rfl ?_
  cbv
  refine step_append_nilx (hP ▸ tblOk) hg rfl rfl (show tyT 42 = some _ from rfl) rfl rfl (Nat.le_refl 0) rfl ?_
  cbv
  exact hK _ _ _ ⟨rfl, rfl, rfl⟩
theorem ones_of : ∀ {l : List SV}, (∀ v ∈ l, one v = true) → ones l = true
  | [], _ => rfl
  | v :: l, h => by
    simp only [ones]
    rw [h v List.mem_cons_self]
    exact ones_of fun u hu => h u (List.mem_cons_of_mem _ hu)
theorem pairs_ones {ea eb : Nat → Int} {E : List SV} {o n : Nat} (h : ∀ j, j < n → (E.drop (o + j * 2)).take 2 = [.int .i64 (ea j), .int .i64 (eb j)]) : ones ((E.drop o).take (n * 2)) = true := by
  refine ones_of fun v hv => ?_
  obtain ⟨q, hq⟩ := List.getElem?_of_mem hv
  rw [List.getElem?_take] at hq
  split at hq
  · rename_i hlt
    rw [List.getElem?_drop] at hq
    have hj := h (q / 2) (by omega)
    have h2 : ((E.drop (o + q / 2 * 2)).take 2)[q % 2]? = some v := by
      rw [List.getElem?_take, if_pos (by omega), List.getElem?_drop, ← hq]; congr 1; omega
    rw [hj] at h2
    rcases Nat.mod_two_eq_zero_or_one q with h3 | h3 <;> rw [h3] at h2 <;> simp at h2 <;> subst h2 <;> rfl
  · cases hq
/-- what was lent: n events, two marks behind them -/
structure Lent (ea eb : Nat → Int) (n : Nat) (Y : List SV) : Prop where
  len : (n + 2) * 2 ≤ Y.length
  b : ∀ m, bdLB m Y = true
  at_ : ∀ j, j < n → (Y.drop (j * 2)).take 2 = [.int .i64 (ea j), .int .i64 (eb j)]
  m0 : (Y.drop (n * 2)).take 2 = [.int .i64 77777, .int .i64 0]
  m1 : (Y.drop ((n + 1) * 2)).take 2 = [.int .i64 77777, .int .i64 0]
theorem lent_of {ea eb : Nat → Int} {n : Nat} {A tail : List SV} (hl : A.length = n * 2) (hb : ∀ m, bdLB m A = true) (ha : ∀ j, j < n → (A.drop (j * 2)).take 2 = [.int .i64 (ea j), .int .i64 (eb j)]) (ht : ∀ m, bdLB m tail = true) :
    Lent ea eb n (A ++ [.int .i64 77777, .int .i64 0, .int .i64 77777, .int .i64 0] ++ tail) := by
  refine ⟨by simp only [List.length_append, List.length_cons, List.length_nil, hl]; omega, fun m => bdLB_append (bdLB_append (hb m) rfl) (ht m), fun j hj => ?_, ?_, ?_⟩
  · rw [← ha j hj]
    apply List.ext_getElem?
    intro q
    simp only [List.getElem?_take, List.getElem?_drop, List.append_assoc]
    by_cases hq : q < 2
    · rw [if_pos hq, if_pos hq, List.getElem?_append_left (by omega)]
    · rw [if_neg hq, if_neg hq]
  · rw [List.append_assoc, List.drop_append_of_le_length (by omega), List.drop_eq_nil_of_le (by omega)]
    rfl
  · rw [List.append_assoc, List.drop_append, List.drop_eq_nil_of_le (by omega), show (n + 1) * 2 - A.length = 2 by omega]
    rfl
theorem add_of2 {A : Ar} (hA : A = Ar.real) {k d : Nat} (h : k + d < 2 ^ 63) : A.bin .add .i64 (Int.ofNat k) (Int.ofNat d) = Int.ofNat (k + d) := by
  subst hA
  exact wrap_of (k + d) h
theorem cLendS {P : Program} (hP : P = Try.prog) {t : TypeId} (o n c : Nat) (E : List SV) (hE : 0 < n → o + n * 2 ≤ E.length) (hn : n * 16 ≤ 140737488351232) (ea eb : Nat → Int) (hEj : ∀ j, j < n → (E.drop (o + j * 2)).take 2 = [.int .i64 (ea j), .int .i64 (eb j)]) (bE : ∀ m, bdLB m E = true) :
    Con P 28 [.slice 0 o n c] [⟨0, E, t⟩] 1 [] (fun v L m => ∃ c2 Y, v = .slice 4 0 n c2 ∧ n + 2 ≤ c2 ∧ Lent ea eb n Y ∧ L = [⟨0, E, t⟩, ⟨3, [.int .i64 77777, .int .i64 0, .int .i64 77777, .int .i64 0], 46⟩, ⟨4, Y, 46⟩] ∧ m = 5) := by
  refine Con.of (hP ▸ tblOk) (hP ▸ Try.func28) rfl rfl rfl rfl (by decide) rfl rfl ⟨Nat.zero_lt_succ _, trivial⟩ (by simpa using bdLB_bd _ (bE 1)) ?_
  intro A g K hA hg hK
  obtain ⟨bin, sh, cmp, una, cvt, ix, nn, nz, bnot, beq, scat, scmp, slen, six, nat, off, get, set, sub, spl⟩ := A
  have rE : ∀ r, renL r E = E := fun r => renL_cl E (bE 0)
  have en : nat n = Int.ofNat n := nat_of hA n
  cbv
  refine call_gen rfl hg rfl rfl (cCopy hP o n c E hE (by omega) bE (pairs_ones hEj)) id rfl ⟨by rw [renL_id]; rfl, trivial⟩ rfl rfl rfl ?_
  rintro _ _ _ ⟨c1, tl, rfl, g1, g2, g3, g4, rfl, rfl⟩ _
  have hA1 : ((E.drop o).take (n * 2)).length = n * 2 := by
    rcases Nat.eq_zero_or_pos n with rfl | h
    · simp
    · have := hE h
      rw [List.length_take, List.length_drop]; omega
  obtain ⟨A, hAd⟩ : ∃ A, A = (E.drop o).take (n * 2) := ⟨_, rfl⟩
  obtain ⟨X, hX⟩ : ∃ X, X = A ++ tl := ⟨_, rfl⟩
  rw [← hAd] at hA1 ⊢
  rw [← hX]
  have bA : ∀ m, bdLB m A = true := fun m => hAd ▸ bdLB_take (bdLB_drop (bE m))
  have bX : ∀ m, bdLB m X = true := fun m => hX ▸ bdLB_append (bA m) (g4 m)
  have rX : ∀ r, renL r X = X := fun r => renL_cl X (bX 0)
  have lX : X.length = c1 * 2 := by rw [hX, List.length_append, hA1, g3]; omega
  have tX : X.take (n * 2) = A := by rw [hX, ← hA1, List.take_left]
  have aA : ∀ j, j < n → (A.drop (j * 2)).take 2 = [.int .i64 (ea j), .int .i64 (eb j)] := by
    intro j hj
    rw [← hEj j hj, hAd]
    apply List.ext_getElem?
    intro q
    simp only [List.getElem?_take, List.getElem?_drop]
    by_cases hq : q < 2
    · rw [if_pos hq, if_pos hq, if_pos (by omega)]; congr 1; omega
    · rw [if_neg hq, if_neg hq]
  simp only [renB, rX, rE]
  cbv
  refine step_append_own (hP ▸ tblOk) hg rfl rfl (show tyT 42 = some _ from rfl) rfl (show tyT 46 = some _ from rfl) (bytesEv hP) (by decide) (show ev _ _ = some (.slice 2 0 n c1) from rfl) (show find _ 2 = some _ from rfl) rfl g1 lX g2 (show ev _ _ = some (.slice 3 0 2 2) from rfl) (show find _ 3 = some _ from rfl) (by exact Nat.le_refl 4) rfl (by simp only [maxLen]; omega) (by omega) ?_
  intro c2 tail2 k1 k2 k3 k4
  have hL := lent_of hA1 bA aA (fun m => k4 m (bX m) rfl)
  rw [tX]
  simp only [List.drop_zero, Nat.reduceMul, List.take_succ_cons, List.take_zero]
  obtain ⟨Y, hY⟩ : ∃ Y, Y = A ++ [SV.int .i64 77777, .int .i64 0, .int .i64 77777, .int .i64 0] ++ tail2 := ⟨_, rfl⟩
  rw [← hY] at hL ⊢
  obtain ⟨n2, hn2⟩ : ∃ n2, n2 = n + 2 := ⟨_, rfl⟩
  rw [← hn2] at k1 k3 ⊢
  cbv
  rw [en]
  refine step_slice_h (hP ▸ tblOk) hg rfl rfl (show tyT 42 = some _ from rfl) rfl (show ev _ _ = some (.slice 4 0 n2 c2) from rfl) (show ev _ _ = some (.int .i64 (Int.ofNat n)) from rfl) (by omega) ?_
  cbv
  exact hK _ _ _ ⟨c2, Y, rfl, hn2 ▸ k1, hL, rfl, rfl⟩
theorem cLendN {P : Program} (hP : P = Try.prog) (ea eb : Nat → Int) :
    Con P 28 [.nils] [] 0 [] (fun v L m => ∃ c2 Y, v = .slice 2 0 0 c2 ∧ 0 + 2 ≤ c2 ∧ Lent ea eb 0 Y ∧ L = [⟨1, [.int .i64 77777, .int .i64 0, .int .i64 77777, .int .i64 0], 46⟩, ⟨2, Y, 46⟩] ∧ m = 3) := by
  refine Con.of (hP ▸ tblOk) (hP ▸ Try.func28) rfl rfl rfl rfl (by decide) rfl rfl ⟨trivial, trivial⟩ (by simp) ?_
  intro A g K hA hg hK
  obtain ⟨bin, sh, cmp, una, cvt, ix, nn, nz, bnot, beq, scat, scmp, slen, six, nat, off, get, set, sub, spl⟩ := A
  cbv
  refine call_gen rfl hg rfl rfl (cCopyN hP) id rfl trivial rfl rfl rfl ?_
  rintro _ _ _ ⟨rfl, rfl, rfl⟩ _
  cbv
  refine step_append_own (hP ▸ tblOk) hg rfl rfl (show tyT 42 = some _ from rfl) rfl (show tyT 46 = some _ from rfl) (bytesEv hP) (by decide) (show ev _ _ = some (.slice 0 0 0 0) from rfl) (show find _ 0 = some _ from rfl) rfl (Nat.le_refl 0) rfl (by decide) (show ev _ _ = some (.slice 1 0 2 2) from rfl) (show find _ 1 = some _ from rfl) (by exact Nat.le_refl 4) rfl (by decide) (by decide) ?_
  intro c2 tail2 k1 k2 k3 k4
  have hL := lent_of (ea := ea) (eb := eb) (n := 0) (A := []) rfl (fun _ => rfl) (fun j hj => by omega) (fun m => k4 m rfl rfl)
  simp only [List.drop_zero, Nat.reduceMul, List.take_succ_cons, List.take_zero]
  obtain ⟨Y, hY⟩ : ∃ Y, Y = [] ++ [SV.int .i64 77777, .int .i64 0, .int .i64 77777, .int .i64 0] ++ tail2 := ⟨_, rfl⟩
  rw [← hY] at hL ⊢
  cbv
  refine step_slice_h (hP ▸ tblOk) hg rfl rfl (show tyT 42 = some _ from rfl) rfl rfl (j := 0) rfl (Nat.zero_le _) ?_
  cbv
  exact hK _ _ _ ⟨c2, Y, rfl, k1, hL, rfl, rfl⟩
theorem cKeptS {P : Program} (hP : P = Try.prog) {t : TypeId} (c o n c' : Nat) (Y E : List SV) (hc : n + 2 ≤ c) (hE : 0 < n → o + n * 2 ≤ E.length) (hn : n * 16 ≤ 140737488351232) (ea eb : Nat → Int) (hY : Lent ea eb n Y) (hEj : ∀ j, j < n → (E.drop (o + j * 2)).take 2 = [.int .i64 (ea j), .int .i64 (eb j)]) (bE : ∀ m, bdLB m E = true) :
    Con P 30 [.slice 0 0 n c, .slice 1 o n c'] [⟨0, Y, 46⟩, ⟨1, E, t⟩] 2 [] (fun v _ _ => v = .bool true) := by
  refine Con.of (hP ▸ tblOk) (hP ▸ Try.func30) rfl rfl rfl rfl (by decide) rfl rfl ⟨Nat.zero_lt_succ _, Nat.lt_succ_self _, trivial⟩ (by simpa using ⟨bdLB_bd _ (hY.b 2), bdLB_bd _ (bE 2)⟩) ?_
  intro A g K hA hg hK
  obtain ⟨bin, sh, cmp, una, cvt, ix, nn, nz, bnot, beq, scat, scmp, slen, six, nat, off, get, set, sub, spl⟩ := A
  have en : nat n = Int.ofNat n := nat_of hA n
  have f1 : bin .add .i64 (Int.ofNat n) 2 = Int.ofNat (n + 2) := add_of2 hA (d := 2) (by omega)
  have f2 : bin .add .i64 (Int.ofNat n) 1 = Int.ofNat (n + 1) := add_of hA (by omega)
  have f3 : ix (Int.ofNat n) (n + 2) = some n := ix_of hA (by omega)
  have f4 : ix (Int.ofNat (n + 1)) (n + 2) = some (n + 1) := ix_of hA (by omega)
  have f5 : off 0 n 2 = n * 2 := (off_of hA 0 n 2).trans (by omega)
  have f6 : off 0 (n + 1) 2 = (n + 1) * 2 := (off_of hA 0 (n + 1) 2).trans (by omega)
  have f7 : sub Y (n * 2) 2 = some [.int .i64 77777, .int .i64 0] := sub_of hA (by have := hY.len; omega) hY.m0
  have f8 : sub Y ((n + 1) * 2) 2 = some [.int .i64 77777, .int .i64 0] := sub_of hA (by have := hY.len; omega) hY.m1
  have rY : ∀ r, renL r Y = Y := fun r => renL_cl Y (hY.b 0)
  have rE : ∀ r, renL r E = E := fun r => renL_cl E (bE 0)
  have hc' : n + 2 ≤ c := hc
  generalize (n + 1) * 2 = p1 at f6 f8
  generalize n * 2 = p0 at f5 f7
  generalize hn1 : n + 1 = n1 at f2 f4 f6
  generalize hn2 : n + 2 = n2 at f1 f3 f4 hc'
  cbv
  rw [en, f1]
  refine step_slice_h (hP ▸ tblOk) hg rfl rfl (show tyT 42 = some _ from rfl) rfl (show ev _ _ = some (.slice 0 0 n c) from rfl) (show ev _ _ = some (.int .i64 (Int.ofNat n2)) from rfl) hc' ?_
  cbv
  refine call_ro rfl hg rfl rfl (cSameEvG hP (t1 := 46) (t2 := t) 0 n c o n c' Y E ea eb ea eb (by omega) (fun _ => by have := hY.len; omega) hE (fun j hj => by rw [Nat.zero_add]; exact hY.at_ j hj) hEj hY.b bE true (decide_eq_true ⟨rfl, fun _ _ => ⟨rfl, rfl⟩⟩).symm) id rfl ⟨by rw [renL_id]; rfl, by rw [renL_id]; rfl, trivial⟩ ?_
  rintro _ _ _ rfl
  cbv
  rw [en, f3]
  cbv
  rw [f5, f7]
  cbv
  refine step_eq_ev hP rfl hg rfl rfl rfl ?_
  rw [show ((77777 : Int) == 77777 && (0 : Int) == 0) = true from rfl]
  cbv
  rw [en, f2, f4]
  cbv
  rw [f6, f8]
  cbv
  refine step_eq_ev hP rfl hg rfl rfl rfl ?_
  rw [show ((77777 : Int) == 77777 && (0 : Int) == 0) = true from rfl]
  cbv
  exact hK _ _ _ rfl
theorem cKeptN {P : Program} (hP : P = Try.prog) (c : Nat) (Y : List SV) (hc : 0 + 2 ≤ c) (ea eb : Nat → Int) (hY : Lent ea eb 0 Y) :
    Con P 30 [.slice 0 0 0 c, .nils] [⟨0, Y, 46⟩] 1 [] (fun v _ _ => v = .bool true) := by
  refine Con.of (hP ▸ tblOk) (hP ▸ Try.func30) rfl rfl rfl rfl (by decide) rfl rfl ⟨Nat.zero_lt_succ _, trivial, trivial⟩ (by simpa using bdLB_bd _ (hY.b 1)) ?_
  intro A g K hA hg hK
  obtain ⟨bin, sh, cmp, una, cvt, ix, nn, nz, bnot, beq, scat, scmp, slen, six, nat, off, get, set, sub, spl⟩ := A
  have en : nat 0 = Int.ofNat 0 := nat_of hA 0
  have f1 : bin .add .i64 (Int.ofNat 0) 2 = Int.ofNat 2 := add_of2 hA (d := 2) (by decide)
  have f2 : bin .add .i64 0 1 = 1 := add_of hA (k := 0) (by decide)
  have f3 : ix 0 2 = some 0 := ix_of hA (k := 0) (by decide)
  have f4 : ix 1 2 = some 1 := ix_of hA (k := 1) (by decide)
  have f5 : off 0 0 2 = 0 := off_of hA 0 0 2
  have f6 : off 0 1 2 = 2 := off_of hA 0 1 2
  have f7 : sub Y 0 2 = some [.int .i64 77777, .int .i64 0] := sub_of hA (by have := hY.len; omega) hY.m0
  have f8 : sub Y 2 2 = some [.int .i64 77777, .int .i64 0] := sub_of hA (by have := hY.len; omega) hY.m1
  cbv
  rw [en, f1]
  refine step_slice_h (hP ▸ tblOk) hg rfl rfl (show tyT 42 = some _ from rfl) rfl (show ev _ _ = some (.slice 0 0 0 c) from rfl) (show ev _ _ = some (.int .i64 (Int.ofNat 2)) from rfl) hc ?_
  cbv
  refine call_ro rfl hg rfl rfl (cSameESN hP 0 0 c Y hY.b true rfl) id rfl ⟨by rw [renL_id]; rfl, trivial⟩ ?_
  rintro _ _ _ rfl
  cbv
  rw [f3]
  cbv
  rw [f5, f7]
  cbv
  refine step_eq_ev hP rfl hg rfl rfl rfl ?_
  rw [show ((77777 : Int) == 77777 && (0 : Int) == 0) = true from rfl]
  cbv
  rw [f2, f4]
  cbv
  rw [f6, f8]
  cbv
  refine step_eq_ev hP rfl hg rfl rfl rfl ?_
  rw [show ((77777 : Int) == 77777 && (0 : Int) == 0) = true from rfl]
  cbv
  exact hK _ _ _ rfl
end Go.Proofs.Ytgdkefjpekebmaa
