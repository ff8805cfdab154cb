/-
  This text proves what these texts prove: Nk, Fa, Fb, Fc, Fd, Fe, Ca. Conditions: those of each theorem.
-/
import Derived.Test.YtdhmihfefgcbeaaGreatW12
section
namespace Go.Proofs.YtdhmihfefgcbeaaGreat
open Go.Vg Go.RowKit
set_option maxRecDepth 200000
set_option cbv.maxSteps 100000000
theorem mod_cancel {x y c M : Nat} (h : (x + c) % M = (y + c) % M) : x % M = y % M := by
 have h1 : ((x : Int) + c) % M = ((y : Int) + c) % M := by exact_mod_cast congrArg (Nat.cast (R := Int)) h
 have h2 := (Int.emod_add_cancel_right (c : Int)).1 h1
 exact_mod_cast h2
theorem inv_step {a M o w s t less next : Nat} (hs : s * a % M = o % M) (ht : t * a % M = w % M) (hl : less = o / w * t % M) (hn : next + less = s \/ next + less = s + M) : next * a % M = o % w % M := by
 apply mod_cancel (c := less * a)
 have h1 : (next * a + less * a) % M = o % M := by
  rw [<- Nat.add_mul]
  rcases hn with h | h
  ·rw [h]; exact hs
  ·rw [h, Nat.add_mul, Nat.add_mul_mod_self_left]; exact hs
 have h2 : less * a % M = o / w * w % M := by
  rw [hl, Nat.mul_mod, Nat.mod_mod, <- Nat.mul_mod, Nat.mul_assoc, Nat.mul_mod, ht, <- Nat.mul_mod]
 rw [h1, Nat.add_mod, h2, <- Nat.add_mod, Nat.add_comm, Nat.mul_comm, Nat.div_add_mod]
theorem inv_unique {s i a M : Nat} (hs : s < M) (hi : i < M) (h1 : s * a % M = 1) (h2 : i * a % M = 1) (hM : 2 <= M) : s = i := by
 have e1 : s * (i * a) % M = s := by
  rw [Nat.mul_mod, h2, Nat.mul_one, Nat.mod_mod, Nat.mod_eq_of_lt hs]
 have e2 : i * (s * a) % M = i := by
  rw [Nat.mul_mod, h1, Nat.mul_one, Nat.mod_mod, Nat.mod_eq_of_lt hi]
 exact e1.symm.trans ((congrArg (· % M) (Nat.mul_left_comm s i a)).trans e2)
theorem sub_wrap {s less M B r : Nat} (hs : s < M) (hl : less < M) (hM : M <= B) (hr : r = (s + B - less) % B) : (¬ s < less -> r + less = s /\ r < M) /\ (s < less -> (r + M) % B + less = s + M /\ (r + M) % B < M) := by
 constructor
 ·intro h
  have : r = s - less := by rw [hr, show s + B - less = (s - less) + B by omega, Nat.add_mod_right, Nat.mod_eq_of_lt (by omega)]
  omega
 ·intro h
  have h1 : r = s + B - less := by rw [hr, Nat.mod_eq_of_lt (by omega)]
  have h2 : (r + M) % B = s + M - less := by rw [h1, show s + B - less + M = (s + M - less) + B by omega, Nat.add_mod_right, Nat.mod_eq_of_lt (by omega)]
  omega
section
theorem en_cmp_nat {P : Program} (hP : P = Tryz.prog) {g : G} {o : Oper} {x y : Operand} {yt : TypeId} {N m0 : Nat} {ms : List Nat} (hg : GI g m0 ms N) (hd' : dstLt N o.dst = true) {F : Nat -> Option SV} {M : Nat -> Option Blk} {a b : Nat -> Nat} {r : Bool}
 (ho : (o.op = .binOp .neq 25 x y yt /\ r = !eq9 a b) \/ (o.op = .binOp .eql 25 x y yt /\ r = eq9 a b))
 (hx : ev F x = some (.agg (ws a 9))) (hy : ev F y = some (.agg (ws b 9))) : EN g P o F M (.bool r) [] := by
 subst hP
 refine en_out hg hd' fun β p F' L' act W hF hM hm hf => ?_
 have E : ∀ z ∈ o.op.operands.toList, ev F' z = ev F z := fun z hz => ev_congr fun t ht => hF t (tmpsL_mem hz ht)
 have h4 : Tryz.prog.eqGuardType Tryz.prog.depth 25 = false := by kernel_rfl
 rcases ho with ⟨ho, hr⟩ | ⟨ho, hr⟩
 ·rw [ho] at E
  obtain ⟨e1, _⟩ := ev_sound hf ((E x (by simp [Op.operands])).trans hx)
  obtain ⟨e2, _⟩ := ev_sound hf ((E y (by simp [Op.operands])).trans hy)
  refine ⟨?_, trivial⟩
  have h1 : act.eval x = .agg (vals9 a) := e1
  have h2 : act.eval y = .agg (vals9 b) := e2
  have h3 : ∀ xs ys, (eqGuard .neq 25 x y (.agg xs) (.agg ys)).run Tryz.prog W = .ok () W := fun xs ys => run_eqGuard_agg W .neq 25 x y xs ys h4
  unfold execOp
  simp only [ho, h1, h2, Sem.run_bind, h3, Result.andThen_ok, run_neq_struct, eq_nat9, Sem.run_pure, den, hr]
 ·rw [ho] at E
  obtain ⟨e1, _⟩ := ev_sound hf ((E x (by simp [Op.operands])).trans hx)
  obtain ⟨e2, _⟩ := ev_sound hf ((E y (by simp [Op.operands])).trans hy)
  refine ⟨?_, trivial⟩
  have h1 : act.eval x = .agg (vals9 a) := e1
  have h2 : act.eval y = .agg (vals9 b) := e2
  have h3 : ∀ xs ys, (eqGuard .eql 25 x y (.agg xs) (.agg ys)).run Tryz.prog W = .ok () W := fun xs ys => run_eqGuard_agg W .eql 25 x y xs ys h4
  unfold execOp
  simp only [ho, h1, h2, Sem.run_bind, h3, Result.andThen_ok, run_eql_struct, eq_nat9, Sem.run_pure, den, hr]
end
set_option maxHeartbeats 2000000 in
theorem cInverse {P : Program} (hP : P = Tryz.prog) (a m i : Nat -> Nat) (ha : Wn 9 a) (hm : Wn 9 m) (hi : Wn 9 i) (hm2 : 2 <= V 9 m) (e : Int)
 (h1 : Nat.gcd (V 9 a) (V 9 m) = 1 -> V 9 i < V 9 m /\ V 9 i * V 9 a % V 9 m = 1 /\ e = 0) (h2 : Nat.gcd (V 9 a) (V 9 m) ≠ 1 -> V 9 i = 0 /\ e = 401) :
 Con P 147 [.agg (ws a 9), .agg (ws m 9)] [] 0 [] (fun v _ _ => v = .tup [.agg (ws i 9), .int .i64 e]) := by
 have hm0 : 0 < V 9 m := by omega
 obtain ⟨n, hn⟩ := used_ex m 9
 have hn0 : 0 < n := by
  rcases Nat.eq_zero_or_pos n with h | h
  ·rw [V_used hn, h] at hm0; exact absurd hm0 (Nat.lt_irrefl 0)
  ·exact h
 have hZ := cZero hP m hm false (decide_eq_false (Nat.pos_iff_ne_zero.1 hm0)).symm
 obtain ⟨q0, hq0, hq0V⟩ := exV 9 (V 9 a / V 9 m) (Nat.lt_of_le_of_lt (Nat.div_le_self _ _) (V_lt ha))
 obtain ⟨r0, hr0, hr0V⟩ := exV 9 (V 9 a % V 9 m) (Nat.lt_trans (Nat.mod_lt _ hm0) (V_lt hm))
 have hDiv := cDiv hP a m q0 r0 ha hm hm0 hq0 hr0 hq0V hr0V
 obtain ⟨one, h1e⟩ : ∃ r : Nat -> Nat, r = fun j => if j = 0 then 1 else 0 := ⟨_, rfl⟩
 have hOne := cSmall hP 1 (by decide) one h1e
 have hoW : Wn 9 one := fun j _ => by rw [h1e]; show (if j = 0 then 1 else 0) < _; split <;> decide
 have hoV : V 9 one = 1 := by rw [h1e]; rfl
 obtain ⟨d, sh0, hD, hBy⟩ := cBy hP m n hm hn hn0
 refine Con.of (hP ▸ tblOk) (hP ▸ Tryz.func147) rfl rfl rfl rfl (by decide) rfl rfl (bdLB_bd _ rfl) (blks_bd rfl) ?_
 intro A g K hA hg hK
 obtain ⟨_, _, _, _, _, _, _, _, bnot⟩ := A
 cbv
 refine call_ro rfl hg rfl rfl hZ (fun l => l + 1) rfl ⟨rfl, trivial⟩ ?_
 rintro _ _ _ rfl
 cbv
 refine call_val rfl hg rfl rfl hDiv ?_
 rintro _ _ _ rfl
 cbv
 refine reg_X (hP ▸ tblOk) hA hg (hP ▸ mixed) rfl rfl ?_
 cbv
 refine call_val rfl hg rfl rfl hOne ?_
 rintro _ _ _ rfl
 cbv
 refine call_gen rfl hg rfl rfl hBy id rfl trivial rfl rfl rfl ?_
 rintro _ _ _ ⟨rfl, rfl, rfl⟩ _
 cbv
 obtain ⟨B, hB⟩ : ∃ B, B = 18446744073709551616 ^ 9 := ⟨_, rfl⟩
 have hmB : V 9 m < B := by rw [hB]; exact V_lt hm
 refine loop_by ((Nat -> Nat) × (Nat -> Nat) × (Nat -> Nat) × (Nat -> Nat)) (fun σ => Wn 9 σ.1 /\ Wn 9 σ.2.1 /\ Wn 9 σ.2.2.1 /\ Wn 9 σ.2.2.2 /\ Nat.gcd (V 9 σ.1) (V 9 σ.2.1) = Nat.gcd (V 9 a) (V 9 m) /\ V 9 σ.2.2.1 * V 9 a % V 9 m = V 9 σ.1 % V 9 m /\ V 9 σ.2.2.2 * V 9 a % V 9 m = V 9 σ.2.1 % V 9 m /\ V 9 σ.2.2.1 < V 9 m /\ V 9 σ.2.2.2 < V 9 m) (fun σ => V 9 σ.2.1)
  (fun σ => []) [3, 4, 9, 10, 11, 12, 13] (fun σ => [(5, ws σ.1 9), (6, ws σ.2.1 9), (7, ws σ.2.2.1 9), (8, ws σ.2.2.2 9)]) (m, r0, (fun _ => 0), one) ⟨hm, hr0, (fun _ _ => by show 0 < _; decide), hoW, ?_, ?_, ?_, ?_, ?_⟩ ?_ ?_
 ·show Nat.gcd (V 9 m) (V 9 r0) = _
  rw [hr0V, Nat.gcd_comm (V 9 m), <- Nat.gcd_rec, Nat.gcd_comm]
 ·show V 9 (fun _ => 0) * V 9 a % V 9 m = V 9 m % V 9 m
  rw [show V 9 (fun _ => 0) = 0 from rfl, Nat.zero_mul, Nat.mod_self, Nat.zero_mod]
 ·show V 9 one * V 9 a % V 9 m = V 9 r0 % V 9 m
  rw [hoV, Nat.one_mul, hr0V, Nat.mod_mod]
 ·show V 9 (fun _ => 0) < V 9 m
  exact hm0
 ·show V 9 one < V 9 m
  rw [hoV]; exact hm2
 ·exact wkid
 clear hDiv hq0V hr0V
 rintro ⟨o, w, s, t⟩ ⟨ho', hw', hs', ht', hg', hsa', hta', hsM', htM'⟩
 have ho : Wn 9 o := ho'
 have hw : Wn 9 w := hw'
 have hs : Wn 9 s := hs'
 have ht : Wn 9 t := ht'
 have hgc : Nat.gcd (V 9 o) (V 9 w) = Nat.gcd (V 9 a) (V 9 m) := hg'
 have hsa : V 9 s * V 9 a % V 9 m = V 9 o % V 9 m := hsa'
 have hta : V 9 t * V 9 a % V 9 m = V 9 w % V 9 m := hta'
 have hsM : V 9 s < V 9 m := hsM'
 have htM : V 9 t < V 9 m := htM'
 clear ho' hw' hs' ht' hg' hsa' hta' hsM' htM'
 by_cases hw0 : V 9 w = 0
 ·cbv
  refine call_ro rfl hg rfl rfl (cZero hP w hw true (decide_eq_true hw0).symm) (fun l => l + 6) rfl ⟨rfl, trivial⟩ ?_
  rintro _ _ _ rfl
  cbv
  rw [show bnot true = false from bnot_of hA true]
  cbv
  have hgo : V 9 o = Nat.gcd (V 9 a) (V 9 m) := by rw [<- hgc, hw0, Nat.gcd_zero_right]
  have hm1 : V 9 m ≠ 1 := by omega
  refine reg_A (hP ▸ tblOk) hA hg (hP ▸ mixed) rfl rfl ?_
  by_cases ho1 : V 9 o = 1
  ·obtain ⟨i1, i2, i3⟩ := h1 (by rw [<- hgo]; exact ho1)
   have hsi : ws i 9 = ws s 9 := V_inj hi hs (inv_unique i1 hsM i2 (by rw [hsa, ho1]; exact Nat.mod_eq_of_lt hm2) hm2)
   cbv
   refine stepD (en_val rfl hg rfl rfl hOne (fun _ _ _ h => h) (by simp [bd, bdL, ws, lst])) ?_
   cbv
   refine stepD (en_cmp_nat hP hg rfl (a := o) (b := one) (r := false) (Or.inl ⟨rfl, by rw [eq9_V ho hoW, hoV, decide_eq_true ho1]; rfl⟩) rfl rfl) ?_
   cbv
   refine stepD (en_val rfl hg rfl rfl hOne (fun _ _ _ h => h) (by simp [bd, bdL, ws, lst])) ?_
   cbv
   refine stepD (en_cmp_nat hP hg rfl (a := m) (b := one) (r := false) (Or.inr ⟨rfl, by rw [eq9_V hm hoW, hoV, decide_eq_false hm1]⟩) rfl rfl) ?_
   cbv
   refine hK _ _ _ ?_
   rw [hsi, i3]
   rfl
  ·obtain ⟨i1, i2⟩ := h2 (by rw [<- hgo]; exact ho1)
   have hsi : ws i 9 = ws (fun _ => 0) 9 := V_inj (g := fun _ => 0) hi (fun _ _ => by show 0 < _; decide) (i1.trans rfl)
   cbv
   refine stepD (en_val rfl hg rfl rfl hOne (fun _ _ _ h => h) (by simp [bd, bdL, ws, lst])) ?_
   cbv
   refine stepD (en_cmp_nat hP hg rfl (a := o) (b := one) (r := true) (Or.inl ⟨rfl, by rw [eq9_V ho hoW, hoV, decide_eq_false ho1]; rfl⟩) rfl rfl) ?_
   cbv
   refine hK _ _ _ ?_
   rw [hsi, i2]
   rfl
 ·have hw1 : 0 < V 9 w := Nat.pos_of_ne_zero hw0
  obtain ⟨q, hq, hqV⟩ := exV 9 (V 9 o / V 9 w) (Nat.lt_of_le_of_lt (Nat.div_le_self _ _) (V_lt ho))
  obtain ⟨r, hr, hrV⟩ := exV 9 (V 9 o % V 9 w) (Nat.lt_trans (Nat.mod_lt _ hw1) (V_lt hw))
  obtain ⟨l, hl, hlV⟩ := exV 9 (V 9 q * V 9 t % V 9 m) (Nat.lt_trans (Nat.mod_lt _ hm0) (V_lt hm))
  have hlM : V 9 l < V 9 m := by rw [hlV]; exact Nat.mod_lt _ hm0
  obtain ⟨c, hc, hcV⟩ := exV 9 ((V 9 s + 18446744073709551616 ^ 9 - V 9 l) % 18446744073709551616 ^ 9) (Nat.mod_lt _ (Nat.pow_pos (by decide)))
  obtain ⟨f1, f2⟩ := sub_wrap (B := B) (r := V 9 c) hsM hlM (Nat.le_of_lt hmB) (by rw [hB]; exact hcV)
  have hgn : Nat.gcd (V 9 w) (V 9 r) = Nat.gcd (V 9 a) (V 9 m) := by
   rw [hrV, Nat.gcd_comm (V 9 w), <- Nat.gcd_rec, Nat.gcd_comm]; exact hgc
  have hrlt : V 9 r < V 9 w := by rw [hrV]; exact Nat.mod_lt _ hw1
  cbv
  refine call_ro rfl hg rfl rfl (cZero hP w hw false (decide_eq_false hw0).symm) (fun l => l + 6) rfl ⟨rfl, trivial⟩ ?_
  rintro _ _ _ rfl
  cbv
  rw [show bnot false = true from bnot_of hA false]
  cbv
  refine call_val rfl hg rfl rfl (cDiv hP o w q r ho hw hw1 hq hr hqV hrV) ?_
  rintro _ _ _ rfl
  cbv
  refine reg_X (hP ▸ tblOk) hA hg (hP ▸ mixed) rfl rfl ?_
  cbv
  refine call_ro rfl hg rfl rfl (cModMul hP m d n sh0 hD q t l hq ht hl hlV) (fun l => l + 11) rfl ⟨rfl, trivial⟩ ?_
  rintro _ _ _ rfl
  cbv
  by_cases hu : V 9 s < V 9 l
  ·obtain ⟨x, hx, hxV⟩ := exV 9 ((V 9 c + V 9 m) % 18446744073709551616 ^ 9) (Nat.mod_lt _ (Nat.pow_pos (by decide)))
   have f3 := f2 hu
   rw [hB, <- hxV] at f3
   refine call_val rfl hg rfl rfl (cSub hP s l c hs hl hc true hcV (decide_eq_true hu).symm) ?_
   rintro _ _ _ rfl
   cbv
   obtain ⟨o2, ho2⟩ : ∃ o2, o2 = decide (18446744073709551616 ^ 9 <= V 9 c + V 9 m) := ⟨_, rfl⟩
   refine call_val rfl hg rfl rfl (cAdd hP c m x hc hm hx o2 hxV ho2) ?_
   rintro _ _ _ rfl
   cbv
   refine reg_X (hP ▸ tblOk) hA hg (hP ▸ mixed) rfl rfl ?_
   cbv
   refine ⟨(w, r, t, x), id, ⟨hw, hr, ht, hx, hgn, hta, ?_, htM, f3.2⟩, hrlt, ?_⟩
   ·show V 9 x * V 9 a % V 9 m = V 9 r % V 9 m
    rw [hrV]; exact inv_step hsa hta (by rw [hlV, hqV]) (Or.inr f3.1)
   ·exact wkid
  ·have f3 := f1 hu
   refine call_val rfl hg rfl rfl (cSub hP s l c hs hl hc false hcV (decide_eq_false hu).symm) ?_
   rintro _ _ _ rfl
   cbv
   refine reg_X (hP ▸ tblOk) hA hg (hP ▸ mixed) rfl rfl ?_
   cbv
   refine ⟨(w, r, t, c), id, ⟨hw, hr, ht, hc, hgn, hta, ?_, htM, f3.2⟩, hrlt, ?_⟩
   ·show V 9 c * V 9 a % V 9 m = V 9 r % V 9 m
    rw [hrV]; exact inv_step hsa hta (by rw [hlV, hqV]) (Or.inl f3.1)
   ·exact wkid
def fcells (p : Nat -> Nat) (l : Nat) : List SV := lst .u64 (fun j => Int.ofNat (p j)) 0 9 ++ [.ptr l 0]
theorem fadd_cases {a b p B c d r : Nat} (ha : a < p) (hb : b < p) (hp : p < B) (hc : c = (a + b) % B) (hd : d = (c + B - p) % B) (hr : r = (a + b) % p) : (B <= a + b -> c < p /\ r = d) /\ (¬ B <= a + b -> c < p -> r = c) /\ (¬ B <= a + b -> ¬ c < p -> r = d) := by
 refine ⟨fun h => ?_, fun h h1 => ?_, fun h h1 => ?_⟩
 ·have e1 : c = a + b - B := by rw [hc, Nat.mod_eq_sub_mod h, Nat.mod_eq_of_lt (by omega)]
  have e2 : d = c + B - p := by rw [hd, Nat.mod_eq_of_lt (by omega)]
  have e3 : r = a + b - p := by rw [hr, Nat.mod_eq_sub_mod (by omega), Nat.mod_eq_of_lt (by omega)]
  omega
 ·have e1 : c = a + b := by rw [hc, Nat.mod_eq_of_lt (by omega)]
  rw [hr, <- e1, Nat.mod_eq_of_lt h1]
 ·have e1 : c = a + b := by rw [hc, Nat.mod_eq_of_lt (by omega)]
  have e2 : d = c - p := by rw [hd, show c + B - p = (c - p) + B by omega, Nat.add_mod_right, Nat.mod_eq_of_lt (by omega)]
  have e3 : r = a + b - p := by rw [hr, Nat.mod_eq_sub_mod (by omega), Nat.mod_eq_of_lt (by omega)]
  omega
theorem fsub_cases {a b p B c d r : Nat} (ha : a < p) (hb : b < p) (hp : p < B) (hc : c = (a + B - b) % B) (hd : d = (c + p) % B) (hr : r = (a + p - b) % p) : (a < b -> r = d) /\ (¬ a < b -> r = c) := by
 refine ⟨fun h => ?_, fun h => ?_⟩
 ·have e1 : c = a + B - b := by rw [hc, Nat.mod_eq_of_lt (by omega)]
  have e2 : d = a + p - b := by rw [hd, e1, show a + B - b + p = (a + p - b) + B by omega, Nat.add_mod_right, Nat.mod_eq_of_lt (by omega)]
  rw [hr, Nat.mod_eq_of_lt (by omega), e2]
 ·have e1 : c = a - b := by rw [hc, show a + B - b = (a - b) + B by omega, Nat.add_mod_right, Nat.mod_eq_of_lt (by omega)]
  rw [hr, show a + p - b = (a - b) + p by omega, Nat.add_mod_right, Nat.mod_eq_of_lt (by omega), e1]
theorem cFAdd {P : Program} (hP : P = Tryz.prog) (p a b r : Nat -> Nat) (hp : Wn 9 p) (ha : Wn 9 a) (hb : Wn 9 b) (hr : Wn 9 r) (haM : V 9 a < V 9 p) (hbM : V 9 b < V 9 p) (hrV : V 9 r = (V 9 a + V 9 b) % V 9 p) :
 Con P 63 [.ptr 0 0, .agg (ws a 9), .agg (ws b 9)] [⟨0, fcells p 1, 120⟩] 2 [] (fun v _ _ => v = .agg (ws r 9)) := by
 obtain ⟨c, hc, hcV⟩ := exV 9 ((V 9 a + V 9 b) % 18446744073709551616 ^ 9) (Nat.mod_lt _ (Nat.pow_pos (by decide)))
 obtain ⟨d, hd, hdV⟩ := exV 9 ((V 9 c + 18446744073709551616 ^ 9 - V 9 p) % 18446744073709551616 ^ 9) (Nat.mod_lt _ (Nat.pow_pos (by decide)))
 obtain ⟨k1, k2, k3⟩ := fadd_cases haM hbM (V_lt hp) hcV hdV hrV
 have hA0 := fun o ho => cAdd hP a b c ha hb hc o hcV ho
 have hS0 := fun o ho => cSub hP c p d hc hp hd o hdV ho
 generalize hB : (18446744073709551616 ^ 9 : Nat) = B at *
 clear hcV hdV hrV
 refine Con.of (hP ▸ tblOk) (hP ▸ Tryz.func63) rfl rfl rfl rfl (by decide) rfl rfl (bdLB_bd _ rfl) (blks_bd rfl) ?_
 intro A g K hA hg hK
 obtain ⟨_, _, _, _, _, _, _, _, bnot⟩ := A
 by_cases ho : B <= V 9 a + V 9 b
 ·obtain ⟨h3, h4⟩ := k1 ho
  have e : ws r 9 = ws d 9 := V_inj hr hd h4
  have hA1 := hA0 true (decide_eq_true ho).symm
  have hS1 := hS0 true (decide_eq_true h3).symm
  clear hA0 hS0
  cbv
  refine call_val rfl hg rfl rfl hA1 ?_
  rintro _ _ _ rfl
  cbv
  refine reg_A (hP ▸ tblOk) hA hg (hP ▸ mixed) rfl rfl ?_
  cbv
  refine stepD (en_val rfl hg rfl rfl hS1 (fun _ _ _ h => h) (by simp [bd, bdL, ws, lst])) ?_
  cbv
  refine hK _ _ _ ?_
  rw [e]; rfl
 ·by_cases h3 : V 9 c < V 9 p
  ·have e : ws r 9 = ws c 9 := V_inj hr hc (k2 ho h3)
   have hA1 := hA0 false (decide_eq_false ho).symm
   have hS1 := hS0 true (decide_eq_true h3).symm
   clear hA0 hS0
   cbv
   refine call_val rfl hg rfl rfl hA1 ?_
   rintro _ _ _ rfl
   cbv
   refine reg_A (hP ▸ tblOk) hA hg (hP ▸ mixed) rfl rfl ?_
   cbv
   refine stepD (en_val rfl hg rfl rfl hS1 (fun _ _ _ h => h) (by simp [bd, bdL, ws, lst])) ?_
   cbv
   rw [show bnot true = false from bnot_of hA true]
   cbv
   refine hK _ _ _ ?_
   rw [e]; rfl
  ·have e : ws r 9 = ws d 9 := V_inj hr hd (k3 ho h3)
   have hA1 := hA0 false (decide_eq_false ho).symm
   have hS1 := hS0 false (decide_eq_false h3).symm
   clear hA0 hS0
   cbv
   refine call_val rfl hg rfl rfl hA1 ?_
   rintro _ _ _ rfl
   cbv
   refine reg_A (hP ▸ tblOk) hA hg (hP ▸ mixed) rfl rfl ?_
   cbv
   refine stepD (en_val rfl hg rfl rfl hS1 (fun _ _ _ h => h) (by simp [bd, bdL, ws, lst])) ?_
   cbv
   rw [show bnot false = true from bnot_of hA false]
   cbv
   refine hK _ _ _ ?_
   rw [e]; rfl
theorem cFSub {P : Program} (hP : P = Tryz.prog) (p a b r : Nat -> Nat) (hp : Wn 9 p) (ha : Wn 9 a) (hb : Wn 9 b) (hr : Wn 9 r) (haM : V 9 a < V 9 p) (hbM : V 9 b < V 9 p) (hrV : V 9 r = (V 9 a + V 9 p - V 9 b) % V 9 p) :
 Con P 120 [.ptr 0 0, .agg (ws a 9), .agg (ws b 9)] [⟨0, fcells p 1, 120⟩] 2 [] (fun v _ _ => v = .agg (ws r 9)) := by
 obtain ⟨c, hc, hcV⟩ := exV 9 ((V 9 a + 18446744073709551616 ^ 9 - V 9 b) % 18446744073709551616 ^ 9) (Nat.mod_lt _ (Nat.pow_pos (by decide)))
 obtain ⟨d, hd, hdV⟩ := exV 9 ((V 9 c + V 9 p) % 18446744073709551616 ^ 9) (Nat.mod_lt _ (Nat.pow_pos (by decide)))
 obtain ⟨k1, k2⟩ := fsub_cases haM hbM (V_lt hp) hcV hdV hrV
 have hS0 := fun o ho => cSub hP a b c ha hb hc o hcV ho
 have hA0 := fun o ho => cAdd hP c p d hc hp hd o hdV ho
 generalize hB : (18446744073709551616 ^ 9 : Nat) = B at *
 clear hcV hdV hrV
 refine Con.of (hP ▸ tblOk) (hP ▸ Tryz.func120) rfl rfl rfl rfl (by decide) rfl rfl (bdLB_bd _ rfl) (blks_bd rfl) ?_
 intro A g K hA hg hK
 cases A
 by_cases h3 : V 9 a < V 9 b
 ·have e : ws r 9 = ws d 9 := V_inj hr hd (k1 h3)
  have hS1 := hS0 true (decide_eq_true h3).symm
  obtain ⟨o2, ho2⟩ : ∃ o2, o2 = decide (B <= V 9 c + V 9 p) := ⟨_, rfl⟩
  have hA1 := hA0 o2 ho2
  clear hA0 hS0 ho2
  cbv
  refine call_val rfl hg rfl rfl hS1 ?_
  rintro _ _ _ rfl
  cbv
  refine reg_M (hP ▸ tblOk) hA hg (hP ▸ mixed) rfl rfl fun mk _ => ?_
  cbv
  refine stepD (en_val rfl hg rfl rfl hA1 (fun _ _ _ h => h) (by simp [bd, bdL, ws, lst])) ?_
  cbv
  refine hK _ _ _ ?_
  rw [e]; rfl
 ·have e : ws r 9 = ws c 9 := V_inj hr hc (k2 h3)
  have hS1 := hS0 false (decide_eq_false h3).symm
  clear hA0 hS0
  cbv
  refine call_val rfl hg rfl rfl hS1 ?_
  rintro _ _ _ rfl
  cbv
  refine hK _ _ _ ?_
  rw [e]; rfl
theorem cFMul {P : Program} (hP : P = Tryz.prog) (p d : Nat -> Nat) (n s : Nat) (hD : Dv p d n s) (a b r : Nat -> Nat) (ha : Wn 9 a) (hb : Wn 9 b) (hr : Wn 9 r) (hrV : V 9 r = V 9 a * V 9 b % V 9 p) :
 Con P 121 [.ptr 0 0, .agg (ws a 9), .agg (ws b 9)] [⟨0, fcells p 1, 120⟩, ⟨1, dcells d n s, 215⟩] 2 [] (fun v _ _ => v = .agg (ws r 9)) := by
 have hM := cModMul hP p d n s hD a b r ha hb hr hrV
 refine Con.of (hP ▸ tblOk) (hP ▸ Tryz.func121) rfl rfl rfl rfl (by decide) rfl rfl (bdLB_bd _ rfl) (blks_bd rfl) ?_
 intro A g K hA hg hK
 cases A
 cbv
 refine reg_M (hP ▸ tblOk) hA hg (hP ▸ mixed) rfl rfl fun mk _ => ?_
 cbv
 refine stepD (en_roc rfl hg rfl rfl hM (fun l => l + 1) rfl ⟨rfl, trivial⟩ (fun _ _ _ h => h) (by simp [bd, bdL, ws, lst])) ?_
 cbv
 exact hK _ _ _ rfl
theorem cFInv {P : Program} (hP : P = Tryz.prog) (p a i : Nat -> Nat) (hp : Wn 9 p) (ha : Wn 9 a) (hi : Wn 9 i) (hp2 : 2 <= V 9 p) (h1 : Nat.gcd (V 9 a) (V 9 p) = 1 -> V 9 i < V 9 p /\ V 9 i * V 9 a % V 9 p = 1) (h2 : Nat.gcd (V 9 a) (V 9 p) ≠ 1 -> V 9 i = 0) :
 Con P 125 [.ptr 0 0, .agg (ws a 9)] [⟨0, fcells p 1, 120⟩] 2 [] (fun v _ _ => v = .agg (ws i 9)) := by
 obtain ⟨e, he⟩ : ∃ e : Int, e = if Nat.gcd (V 9 a) (V 9 p) = 1 then 0 else 401 := ⟨_, rfl⟩
 have hI := cInverse hP a p i ha hp hi hp2 e (fun h => ⟨(h1 h).1, (h1 h).2, by rw [he, if_pos h]⟩) (fun h => ⟨h2 h, by rw [he, if_neg h]⟩)
 clear he
 refine Con.of (hP ▸ tblOk) (hP ▸ Tryz.func125) rfl rfl rfl rfl (by decide) rfl rfl (bdLB_bd _ rfl) (blks_bd rfl) ?_
 intro A g K hA hg hK
 cases A
 cbv
 refine reg_A (hP ▸ tblOk) hA hg (hP ▸ mixed) rfl rfl ?_
 cbv
 refine stepD (en_val rfl hg rfl rfl hI (fun _ _ _ h => h) (by simp [bd, bdL, ws, lst])) ?_
 cbv
 exact hK _ _ _ rfl
def hexc (d : Nat) : UInt8 := UInt8.ofNat (if d < 10 then 48 + d else 87 + d)
def hexS (x n : Nat) : ByteArray := ⟨⟨(List.range n).map fun i => hexc (x / 16 ^ (n - 1 - i) % 16)⟩⟩
def primeN : Nat -> Nat
 | 1 => 6277101735386680763835789423207666416083908700390324961279
 | 2 => 26959946667150639794667015087019630673557916260026308143510066298881
 | 3 => 115792089210356248762697446949407573530086143415290314195533631308867097853951
 | 4 => 39402006196394479212279040100143613805079739270465446667948293404245721771496870329047266088258938001861606973112319
 | 5 => 6864797660130609714981900799081393217269435300143305409394463459185543183397656052122559640661454554977296311391480858037121987999716643812574028291115057151
 | 6 => 115792089237316195423570985008687907853269984665640564039457584007908834671663
 | 7 => 1332297598440044874827085558802491743757193798159
 | 8 => 22721622932454352787552537995910928073340732145944992304435472941311
 | 9 => 76884956397045344220809746629001649093037950200943055203735601445031516197751
 | 10 => 1763593322239166354161909842446019520889512772719515192772960415288640868802149818095501499903527
 | 11 => 21659270770119316173069236842332604979796116387017648600081618503821089934025961822236561982844534088440708417973331
 | 12 => 8948962207650232551656602815159153422162609644098354511344597187200057010413552439917934304191956942765446530386427345937963894309923928536070534607816947
 | 13 => 251
 | 14 => 241
 | 15 => 239
 | _ => 0
def primeL : Nat -> Nat
 | 1 => 48
 | 2 => 56
 | 3 => 64
 | 4 => 96
 | 5 => 132
 | 6 => 64
 | 7 => 40
 | 8 => 56
 | 9 => 64
 | 10 => 80
 | 11 => 96
 | 12 => 128
 | 13 => 2
 | 14 => 2
 | 15 => 2
 | _ => 0
def primeB (x : Int) : ByteArray :=
 if x = 1 then hexS (primeN 1) (primeL 1) else if x = 2 then hexS (primeN 2) (primeL 2) else if x = 3 then hexS (primeN 3) (primeL 3) else if x = 4 then hexS (primeN 4) (primeL 4) else if x = 5 then hexS (primeN 5) (primeL 5) else if x = 6 then hexS (primeN 6) (primeL 6) else if x = 7 then hexS (primeN 7) (primeL 7) else if x = 8 then hexS (primeN 8) (primeL 8) else if x = 9 then hexS (primeN 9) (primeL 9) else if x = 10 then hexS (primeN 10) (primeL 10) else if x = 11 then hexS (primeN 11) (primeL 11) else if x = 12 then hexS (primeN 12) (primeL 12) else if x = 13 then hexS (primeN 13) (primeL 13) else if x = 14 then hexS (primeN 14) (primeL 14) else if x = 15 then hexS (primeN 15) (primeL 15) else ⟨⟨[]⟩⟩
theorem primeB_of (k : Nat) (hk : 1 <= k /\ k <= 15) : primeB (Int.ofNat k) = hexS (primeN k) (primeL k) := by
 have : k = 1 \/ k = 2 \/ k = 3 \/ k = 4 \/ k = 5 \/ k = 6 \/ k = 7 \/ k = 8 \/ k = 9 \/ k = 10 \/ k = 11 \/ k = 12 \/ k = 13 \/ k = 14 \/ k = 15 := by omega
 rcases this with rfl | rfl | rfl | rfl | rfl | rfl | rfl | rfl | rfl | rfl | rfl | rfl | rfl | rfl | rfl <;> rfl
set_option maxHeartbeats 8000000 in
theorem cPrime {P : Program} (hP : P = Tryz.prog) (x : Int) (b : ByteArray) (hb : b = primeB x) : Con P 85 [.int .i64 x] [] 0 [] (fun v _ _ => v = .str b) := by
 refine Con.of (hP ▸ tblOk) (hP ▸ Tryz.func85) rfl rfl rfl rfl (by decide) rfl rfl (bdLB_bd _ rfl) (blks_bd rfl) ?_
 intro A g K hA hg hK
 obtain ⟨_, _, cmp⟩ := A
 have f : ∀ y z, cmp .eql y z = decide (y = z) := fun y z => congrFun (congrFun (congrFun (cmp_of hA) .eql) y) z
 by_cases hx : ∃ k : Nat, (1 <= k /\ k <= 15) /\ x = Int.ofNat k
 ·obtain ⟨k, hk, rfl⟩ := hx
  rw [primeB_of k hk] at hb
  have : k = 1 \/ k = 2 \/ k = 3 \/ k = 4 \/ k = 5 \/ k = 6 \/ k = 7 \/ k = 8 \/ k = 9 \/ k = 10 \/ k = 11 \/ k = 12 \/ k = 13 \/ k = 14 \/ k = 15 := by omega
  rcases this with rfl | rfl | rfl | rfl | rfl | rfl | rfl | rfl | rfl | rfl | rfl | rfl | rfl | rfl | rfl <;> (cbv; repeat (rw [f]; cbv)) <;> exact hK _ _ _ (by rw [hb]; kernel_rfl)
 ·have h : ∀ k : Nat, 1 <= k -> k <= 15 -> x ≠ Int.ofNat k := fun k h1 h2 e => hx ⟨k, ⟨h1, h2⟩, e⟩
  have h1 : x ≠ 1 := h 1 (by decide) (by decide)
  have h2 : x ≠ 2 := h 2 (by decide) (by decide)
  have h3 : x ≠ 3 := h 3 (by decide) (by decide)
  have h4 : x ≠ 4 := h 4 (by decide) (by decide)
  have h5 : x ≠ 5 := h 5 (by decide) (by decide)
  have h6 : x ≠ 6 := h 6 (by decide) (by decide)
  have h7 : x ≠ 7 := h 7 (by decide) (by decide)
  have h8 : x ≠ 8 := h 8 (by decide) (by decide)
  have h9 : x ≠ 9 := h 9 (by decide) (by decide)
  have h10 : x ≠ 10 := h 10 (by decide) (by decide)
  have h11 : x ≠ 11 := h 11 (by decide) (by decide)
  have h12 : x ≠ 12 := h 12 (by decide) (by decide)
  have h13 : x ≠ 13 := h 13 (by decide) (by decide)
  have h14 : x ≠ 14 := h 14 (by decide) (by decide)
  have h15 : x ≠ 15 := h 15 (by decide) (by decide)
  cbv
  rw [f, decide_eq_false h1]
  cbv
  rw [f, decide_eq_false h2]
  cbv
  rw [f, decide_eq_false h3]
  cbv
  rw [f, decide_eq_false h4]
  cbv
  rw [f, decide_eq_false h5]
  cbv
  rw [f, decide_eq_false h6]
  cbv
  rw [f, decide_eq_false h7]
  cbv
  rw [f, decide_eq_false h8]
  cbv
  rw [f, decide_eq_false h9]
  cbv
  rw [f, decide_eq_false h10]
  cbv
  rw [f, decide_eq_false h11]
  cbv
  rw [f, decide_eq_false h12]
  cbv
  rw [f, decide_eq_false h13]
  cbv
  rw [f, decide_eq_false h14]
  cbv
  rw [f, decide_eq_false h15]
  cbv
  exact hK _ _ _ (by rw [hb, primeB, if_neg h1, if_neg h2, if_neg h3, if_neg h4, if_neg h5, if_neg h6, if_neg h7, if_neg h8, if_neg h9, if_neg h10, if_neg h11, if_neg h12, if_neg h13, if_neg h14, if_neg h15]; rfl)
end Go.Proofs.YtdhmihfefgcbeaaGreat
end
section
namespace Go.Proofs.YtdhmihfefgcbeaaGreat
open Go.Vg Go.RowKit
set_option maxRecDepth 20000
def hexw (y j : Nat) : Nat := y / 18446744073709551616 ^ j % 18446744073709551616
theorem pow16 {i q r : Nat} (hi : i = 16 * q + r) : 16 ^ i = 16 ^ r * 18446744073709551616 ^ q := by
 rw [hi, Nat.pow_add, Nat.pow_mul, Nat.mul_comm]
theorem hexw_lt (y j : Nat) : hexw y j < 18446744073709551616 := Nat.mod_lt _ (by decide)
theorem hex_top {y i q r : Nat} (hi : i = 16 * q + r) (hy : y < 16 ^ i) : y / 18446744073709551616 ^ q < 16 ^ r := by
 rw [Nat.div_lt_iff_lt_mul (Nat.pow_pos (by decide)), <- pow16 hi]; exact hy
theorem hex_step {y d i q r : Nat} (hi : i = 16 * q + r) (hr : r < 16) (hy : y < 16 ^ i) (hd : d < 16) (j : Nat) : hexw (y + d * 16 ^ i) j = if j = q then hexw y q + d * 16 ^ r else hexw y j := by
 have ht := hex_top hi hy
 have h16 : 16 ^ r * 16 <= 18446744073709551616 := by
  have h := Nat.pow_le_pow_right (show 0 < 16 by decide) (show r + 1 <= 16 by omega)
  rw [Nat.pow_succ] at h
  exact Nat.le_trans h (Nat.le_of_eq (by decide))
 have hm : d * 16 ^ r + 16 ^ r <= 16 ^ r * 16 := by
  have h := Nat.mul_le_mul_right (16 ^ r) (show d + 1 <= 16 from hd)
  rw [Nat.add_mul, Nat.one_mul] at h
  rw [Nat.mul_comm (16 ^ r)]; exact h
 have hy' : y + d * 16 ^ i < 18446744073709551616 ^ (q + 1) := by
  have h := Nat.mul_le_mul_right (16 ^ i) (show d + 1 <= 16 from hd)
  rw [Nat.add_mul, Nat.one_mul] at h
  have h2 : 16 * 16 ^ i <= 18446744073709551616 ^ (q + 1) := by
   rw [pow16 hi, Nat.pow_succ, <- Nat.mul_assoc, Nat.mul_comm 16, Nat.mul_comm (18446744073709551616 ^ q)]
   exact Nat.mul_le_mul_right _ h16
  omega
 unfold hexw
 by_cases h : j = q
 ·subst h
  rw [if_pos rfl, pow16 hi, <- Nat.mul_assoc, Nat.add_mul_div_right _ _ (Nat.pow_pos (by decide))]
  rw [Nat.mod_eq_of_lt (by omega), Nat.mod_eq_of_lt (by omega)]
 ·rw [if_neg h]
  by_cases hj : j < q
  ·obtain ⟨k, rfl⟩ : ∃ k, q = j + 1 + k := ⟨q - (j + 1), by omega⟩
   have e : d * 16 ^ i = (d * 16 ^ r * 18446744073709551616 ^ k * 18446744073709551616) * 18446744073709551616 ^ j := by
    rw [pow16 hi, Nat.pow_add, Nat.pow_succ]
    simp only [Nat.mul_assoc, Nat.mul_comm, Nat.mul_left_comm]
   rw [e, Nat.add_mul_div_right _ _ (Nat.pow_pos (by decide)), Nat.add_mul_mod_self_right]
  ·have hle := Nat.pow_le_pow_right (show 0 < 18446744073709551616 by decide) (show q + 1 <= j by omega)
   rw [Nat.div_eq_of_lt (Nat.lt_of_lt_of_le hy' hle), Nat.div_eq_of_lt (Nat.lt_of_le_of_lt (Nat.le_add_right _ _) (Nat.lt_of_lt_of_le hy' hle))]
theorem hex_or {y d i q r : Nat} (hi : i = 16 * q + r) (hr : r < 16) (hy : y < 16 ^ i) (hd : d < 16) : hexw y q ||| (d * 2 ^ (4 * r) % 18446744073709551616) = hexw y q + d * 16 ^ r := by
 have ht := hex_top hi hy
 have e : 2 ^ (4 * r) = 16 ^ r := by rw [Nat.pow_mul]
 have h16 : 16 ^ r * 16 <= 18446744073709551616 := by
  have h := Nat.pow_le_pow_right (show 0 < 16 by decide) (show r + 1 <= 16 by omega)
  rw [Nat.pow_succ] at h
  exact Nat.le_trans h (Nat.le_of_eq (by decide))
 have hm : d * 16 ^ r + 16 ^ r <= 16 ^ r * 16 := by
  have h := Nat.mul_le_mul_right (16 ^ r) (show d + 1 <= 16 from hd)
  rw [Nat.add_mul, Nat.one_mul] at h
  rw [Nat.mul_comm (16 ^ r)]; exact h
 have hp : 0 < 16 ^ r := Nat.pow_pos (by decide)
 have hw : hexw y q = y / 18446744073709551616 ^ q := Nat.mod_eq_of_lt (by omega)
 rw [hw, Nat.or_comm, Nat.mod_eq_of_lt (by rw [e]; omega), or_add (by rw [e]; exact ht), e, Nat.add_comm]
theorem V_hexw (y n : Nat) : V n (hexw y) = y % 18446744073709551616 ^ n := Dg.num_dig (by decide) y n
theorem dig_next (x i : Nat) : x % 16 ^ i + x / 16 ^ i % 16 * 16 ^ i = x % 16 ^ (i + 1) := by
 rw [Nat.pow_succ, Nat.mod_mul, Nat.mul_comm]
theorem quoI {A : Ar} (hA : A = Ar.real) {a b : Nat} (ha : a < 2 ^ 63) : A.bin .quo .i64 (Int.ofNat a) (Int.ofNat b) = Int.ofNat (a / b) := by
 subst hA
 show IntKind.i64.wrap (Int.tdiv (Int.ofNat a) (Int.ofNat b)) = _
 exact wrap_of _ (Nat.lt_of_le_of_lt (Nat.div_le_self _ _) ha)
theorem hexc_nat {d : Nat} (h : d < 16) : (hexc d).toNat = if d < 10 then 48 + d else 87 + d := by
 have : ∀ d, d < 16 -> (hexc d).toNat = if d < 10 then 48 + d else 87 + d := by decide
 exact this d h
set_option maxHeartbeats 1000000 in
theorem cHex {P : Program} (hP : P = Tryz.prog) (s : ByteArray) (n x : Nat) (hn : s.size = n) (hn2 : n <= 144) (hs : ∀ i, i < n -> s[n - 1 - i]? = some (hexc (x / 16 ^ i % 16))) (r : Nat -> Nat) (hr : Wn 9 r) (hrV : V 9 r = x % 16 ^ n) :
 Con P 59 [.str s] [] 0 [] (fun v _ _ => v = .agg (ws r 9)) := by
 refine Con.of (hP ▸ tblOk) (hP ▸ Tryz.func59) rfl rfl rfl rfl (by decide) rfl rfl (bdLB_bd _ rfl) (blks_bd rfl) ?_
 intro A g K hA hg hK
 obtain ⟨bin, sh, cmp, _, cvt, ix, nn, nz, _, _, _, _, slen, six, _, off, _, _, sub⟩ := A
 have en : slen s = Int.ofNat n := (slen_of hA s).trans (by rw [hn])
 have es : ∀ i, i < n -> six s (Int.ofNat (n - 1 - i)) = some (Int.ofNat (hexc (x / 16 ^ i % 16)).toNat) := fun i h => by
  have e : six = Ar.real.six := congrArg Ar.six hA
  rw [e]
  show (if 0 <= Int.ofNat (n - 1 - i) then (s[(Int.ofNat (n - 1 - i)).toNat]?).map fun b => (b.toNat : Int) else none) = _
  rw [if_pos (show (0 : Int) <= Int.ofNat (n - 1 - i) from Int.natCast_nonneg _)]
  show (s[n - 1 - i]?).map _ = _
  rw [hs i h]; rfl
 have f1t : ∀ x y, x < y -> cmp .lss (Int.ofNat x) (Int.ofNat y) = true := fun x y h => lss_t hA h
 have f1f : ∀ x y, ¬ x < y -> cmp .lss (Int.ofNat x) (Int.ofNat y) = false := fun x y h => lss_f hA h
 have f2 : ∀ i, i < 9 -> ix (Int.ofNat i) 9 = some i := fun i h => ix_of hA h
 have f3 : ∀ i, off 0 i 1 = i := fun i => (off_of hA 0 i 1).trans (by omega)
 have f4 := fun (f : Nat -> Nat) (i : Nat) (h : i < 9) => getW hA .u64 (n := 9) f h
 have f5 := fun (f g : Nat -> Nat) (i v : Nat) (h : i < 9) (e : g = fun j => if j = i then v else f j) => splW hA .u64 (n := 9) f g h e
 simp only [lst, Nat.reduceAdd] at f4 f5
 cbv
 rw [en]
 refine loop_by (Nat × (Nat -> Nat)) (fun σ => σ.1 <= n /\ ∀ j, σ.2 j = hexw (x % 16 ^ σ.1) j) (fun σ => n - σ.1)
  (fun σ => [(9, .int .i64 (Int.ofNat σ.1))]) [0, 2, 3, 8] (fun σ => [(1, ws σ.2 9)]) (0, fun _ => 0) ⟨Nat.zero_le _, ?_⟩ ?_ ?_
 ·intro j
  show 0 = hexw (x % 16 ^ 0) j
  rw [Nat.pow_zero, Nat.mod_one, hexw, Nat.zero_div, Nat.zero_mod]
 ·exact wkid
 rintro ⟨i, f⟩ ⟨hi', hf'⟩
 have hi : i <= n := hi'
 have hf : ∀ j, f j = hexw (x % 16 ^ i) j := hf'
 clear hi' hf'
 cbv
 by_cases hlt : i < n
 ·obtain ⟨d, hd⟩ : ∃ d, d = x / 16 ^ i % 16 := ⟨_, rfl⟩
  have hd16 : d < 16 := by rw [hd]; exact Nat.mod_lt _ (by decide)
  obtain ⟨c, hc⟩ : ∃ c, c = (hexc d).toNat := ⟨_, rfl⟩
  have hc2 : c = if d < 10 then 48 + d else 87 + d := by rw [hc]; exact hexc_nat hd16
  obtain ⟨k, hk⟩ : ∃ k, k = n - 1 - i := ⟨_, rfl⟩
  have e1 := es i hlt
  rw [<- hd, <- hc, <- hk] at e1
  obtain ⟨k1, hk1⟩ : ∃ k1, k1 = n - 1 := ⟨_, rfl⟩
  have e2 : bin .sub .i64 (Int.ofNat n) 1 = Int.ofNat k1 := (subI hA (a := n) (b := 1) (by omega) (by omega)).trans (by rw [hk1])
  have e3 : bin .sub .i64 (Int.ofNat k1) (Int.ofNat i) = Int.ofNat k := (subI hA (by omega) (by omega)).trans (by rw [hk, hk1])
  obtain ⟨c1, hc1⟩ : ∃ c1, c1 = c - 48 := ⟨_, rfl⟩
  have hcl : 48 <= c /\ c < 128 := by rw [hc2]; split <;> omega
  have e4 : bin .sub .u8 (Int.ofNat c) 48 = Int.ofNat c1 := (subW hA (k := .u8) rfl (a := c) (b := 48) (by decide)).trans (congrArg Int.ofNat (by show (c + 256 - 48) % 256 = c1; omega))
  have e5 : cvt .u64 (Int.ofNat c1) = Int.ofNat c1 := cvtI hA (fun h => by cases h) (fun _ => by show c1 < 18446744073709551616; omega)
  obtain ⟨q, hq⟩ : ∃ q, q = i / 16 := ⟨_, rfl⟩
  obtain ⟨t, ht⟩ : ∃ t, t = i % 16 := ⟨_, rfl⟩
  have hiq : i = 16 * q + t := by rw [hq, ht]; exact (Nat.div_add_mod i 16).symm
  have ht16 : t < 16 := by rw [ht]; exact Nat.mod_lt _ (by decide)
  have hq9 : q < 9 := by omega
  have e6 : bin .quo .i64 (Int.ofNat i) 16 = Int.ofNat q := (quoI hA (a := i) (b := 16) (by omega)).trans (by rw [hq])
  have e7 : bin .rem .i64 (Int.ofNat i) 16 = Int.ofNat t := (remW hA (k := .i64) i 16).trans (by rw [ht])
  obtain ⟨t4, ht4⟩ : ∃ t4, t4 = 4 * t := ⟨_, rfl⟩
  have e8 : bin .mul .i64 4 (Int.ofNat t) = Int.ofNat t4 := (mulI hA (a := 4) (b := t) (by omega)).trans (by rw [ht4])
  obtain ⟨y, hy⟩ : ∃ y, y = d * 2 ^ t4 % 18446744073709551616 := ⟨_, rfl⟩
  have e9 : sh .shl .u64 (Int.ofNat d) (Int.ofNat t4) = Int.ofNat y := shl64 hA (by omega) hy
  obtain ⟨z, hz⟩ : ∃ z, z = f q ||| y := ⟨_, rfl⟩
  have hyx : x % 16 ^ i < 16 ^ i := Nat.mod_lt _ (Nat.pow_pos (by decide))
  have hfq := hf q
  have e10 : bin .or .u64 (Int.ofNat (f q)) (Int.ofNat y) = Int.ofNat z := or64 hA (by rw [hfq]; exact hexw_lt _ _) (by rw [hy]; exact Nat.mod_lt _ (by decide)) hz
  have hzv : z = hexw (x % 16 ^ i) q + d * 16 ^ t := by rw [hz, hfq, hy, ht4]; exact hex_or hiq ht16 hyx hd16
  obtain ⟨f', hf'⟩ : ∃ f' : Nat -> Nat, f' = fun j => if j = q then z else f j := ⟨_, rfl⟩
  have e11 := f4 f q hq9
  have e12 := f5 f f' q z hq9 hf'
  have e13 := f2 q hq9
  have e14 := f3 q
  have e15 : bin .add .i64 (Int.ofNat i) 1 = Int.ofNat (i + 1) := addI hA (b := 1) (by omega)
  have znn : nn (Int.ofNat t4) = true := nn_t hA t4
  have hnext : ∀ j, f' j = hexw (x % 16 ^ (i + 1)) j := fun j => by
   rw [<- dig_next, <- hd, hex_step hiq ht16 hyx hd16 j, hf']
   show (if j = q then z else f j) = _
   rw [hzv, hf j]
  obtain ⟨i1, hi1⟩ : ∃ i1, i1 = i + 1 := ⟨_, rfl⟩
  rw [<- hi1] at e15 hnext
  rw [f1t i n hlt]
  cbv
  rw [en]
  rw [e2]
  rw [e3]
  cbv
  rw [e1]
  cbv
  rw [e4]
  cbv
  rw [e5]
  cbv
  rw [e1]
  cbv
  have znz : nz 16 = true := nz_t hA (a := 16) (by decide)
  by_cases h10 : d < 10
  ·have hc3 : c1 = d := by rw [hc1, hc2, if_pos h10]; omega
   rw [show cmp .geq (Int.ofNat c) 97 = false from geq_f hA (b := 97) (by rw [hc2, if_pos h10]; omega)]
   cbv
   rw [hc3]
   refine reg_M (hP ▸ tblOk) hA hg (hP ▸ mixed) rfl rfl fun mk _ => ?_
   cbv
   rw [e6]
   cbv
   rw [e13]
   cbv
   rw [e14, e11]
   cbv
   rw [e7]
   cbv
   rw [e8]
   cbv
   rw [znn]
   cbv
   rw [e9]
   cbv
   rw [e10]
   cbv
   rw [e13]
   cbv
   rw [e14, e12]
   cbv
   rw [e15]
   refine ⟨(i1, f'), id, ⟨by show i1 <= n; omega, hnext⟩, (by show n - i1 < n - i; omega), ?_⟩
   exact wkid
  ·obtain ⟨c3, hc3⟩ : ∃ c3, c3 = c - 97 := ⟨_, rfl⟩
   have hcd : c3 + 10 = d := by rw [hc3, hc2, if_neg h10]; omega
   have h97 : 97 <= c := by rw [hc2, if_neg h10]; omega
   have e16 : bin .sub .u8 (Int.ofNat c) 97 = Int.ofNat c3 := (subW hA (k := .u8) rfl (a := c) (b := 97) (by decide)).trans (congrArg Int.ofNat (by show (c + 256 - 97) % 256 = c3; omega))
   have e17 : cvt .u64 (Int.ofNat c3) = Int.ofNat c3 := cvtI hA (fun h => by cases h) (fun _ => by show c3 < 18446744073709551616; omega)
   have e18 : bin .add .u64 (Int.ofNat c3) 10 = Int.ofNat d := (addW hA (k := .u64) rfl c3 10).trans (congrArg Int.ofNat (by show (c3 + 10) % 18446744073709551616 = d; omega))
   rw [show cmp .geq (Int.ofNat c) 97 = true from geq_t hA (b := 97) h97]
   cbv
   rw [e1]
   cbv
   rw [e16]
   cbv
   rw [e17]
   cbv
   rw [e18]
   refine reg_M (hP ▸ tblOk) hA hg (hP ▸ mixed) rfl rfl fun mk _ => ?_
   cbv
   rw [e6]
   cbv
   rw [e13]
   cbv
   rw [e14, e11]
   cbv
   rw [e7]
   cbv
   rw [e8]
   cbv
   rw [znn]
   cbv
   rw [e9]
   cbv
   rw [e10]
   cbv
   rw [e13]
   cbv
   rw [e14, e12]
   cbv
   rw [e15]
   refine ⟨(i1, f'), id, ⟨by show i1 <= n; omega, hnext⟩, (by show n - i1 < n - i; omega), ?_⟩
   exact wkid
 ·obtain rfl : i = n := by omega
  rw [f1f i i hlt]
  cbv
  have e : ws r 9 = ws f 9 := V_inj hr (fun j _ => by rw [hf j]; exact hexw_lt _ _) (by
   rw [hrV, show V 9 f = V 9 (hexw (x % 16 ^ i)) from Dg.num_congr 9 fun j _ => hf j, V_hexw]
   refine (Nat.mod_eq_of_lt (Nat.lt_of_lt_of_le (Nat.mod_lt _ (Nat.pow_pos (by decide))) ?_)).symm
   refine Nat.le_trans (Nat.pow_le_pow_right (by decide) hn2) (Nat.le_of_eq (by decide)))
  exact hK _ _ _ (by rw [e]; rfl)
theorem hexS_size (x n : Nat) : (hexS x n).size = n := by
 show ((List.range n).map _).toArray.size = n
 simp
theorem hexS_at (x n i : Nat) (h : i < n) : (hexS x n)[n - 1 - i]? = some (hexc (x / 16 ^ i % 16)) := by
 have hs : n - 1 - i < (hexS x n).size := by rw [hexS_size]; omega
 rw [getElem?_pos (hexS x n) (n - 1 - i) hs]
 have hl : n - 1 - i < ((List.range n).map fun i => hexc (x / 16 ^ (n - 1 - i) % 16)).length := by simp; omega
 have e : (hexS x n)[n - 1 - i]'hs = ((List.range n).map fun i => hexc (x / 16 ^ (n - 1 - i) % 16))[n - 1 - i]'hl := rfl
 rw [e, List.getElem_map, List.getElem_range, show n - 1 - (n - 1 - i) = i by omega]
theorem cHexS {P : Program} (hP : P = Tryz.prog) (x n : Nat) (hn2 : n <= 144) (r : Nat -> Nat) (hr : Wn 9 r) (hrV : V 9 r = x % 16 ^ n) :
 Con P 59 [.str (hexS x n)] [] 0 [] (fun v _ _ => v = .agg (ws r 9)) :=
 cHex hP (hexS x n) n x (hexS_size x n) hn2 (fun i h => hexS_at x n i h) r hr hrV
theorem fld_num (k : Nat) (h : 1 <= k /\ k <= 15) : primeB (Int.ofNat k) = hexS (primeN k) (primeL k) /\ 0 < primeL k /\ primeL k <= 144 /\ 2 <= primeN k /\ primeN k < 16 ^ primeL k := by
 obtain ⟨h1, h2⟩ := h
 have : k = 1 \/ k = 2 \/ k = 3 \/ k = 4 \/ k = 5 \/ k = 6 \/ k = 7 \/ k = 8 \/ k = 9 \/ k = 10 \/ k = 11 \/ k = 12 \/ k = 13 \/ k = 14 \/ k = 15 := by omega
 rcases this with rfl | rfl | rfl | rfl | rfl | rfl | rfl | rfl | rfl | rfl | rfl | rfl | rfl | rfl | rfl <;> exact ⟨rfl, by decide, by decide, by decide +kernel, by decide +kernel⟩
theorem cFOfL {P : Program} (hP : P = Tryz.prog) (k : Nat) (hk : 1 <= k /\ k <= 15) :
 ∃ p d n s, Wn 9 p /\ V 9 p = primeN k /\ Dv p d n s /\ Con P 57 [.int .i64 (Int.ofNat k)] [] 0 [] (fun v L m => v = .ptr 4 0 /\ L = [⟨0, ws p 9, 25⟩, ⟨2, [.ptr 3 0], 118⟩, ⟨1, ws p 9, 25⟩, ⟨3, dcells d n s, 215⟩, ⟨4, fcells p 3, 120⟩] /\ m = 5) := by
 obtain ⟨k1, k2, k3, k4, k5⟩ := fld_num k hk
 have k6 : primeN k < 18446744073709551616 ^ 9 := Nat.lt_of_lt_of_le k5 (Nat.le_trans (Nat.pow_le_pow_right (by decide) k3) (Nat.le_of_eq (by decide)))
 obtain ⟨p, hp, hpV⟩ := exV 9 _ k6
 obtain ⟨n, hn⟩ := used_ex p 9
 have hn0 : 0 < n := by
  rcases Nat.eq_zero_or_pos n with h | h
  ·have e : V 9 p = 0 := by rw [V_used hn, h]; rfl
   rw [hpV] at e; omega
  ·exact h
 obtain ⟨d, s, hD, hBy⟩ := cBy hP p n hp hn hn0
 refine ⟨p, d, n, s, hp, hpV, hD, ?_⟩
 obtain ⟨b, hb⟩ : ∃ b, b = hexS (primeN k) (primeL k) := ⟨_, rfl⟩
 have hbs : b.size ≠ 0 := by rw [hb, hexS_size]; omega
 have hPr := cPrime hP (Int.ofNat k) b (by rw [hb, k1])
 have hH := cHexS hP (primeN k) (primeL k) k3 p hp (by rw [hpV, Nat.mod_eq_of_lt k5])
 rw [<- hb] at hH
 clear hb k1 k5 k6 hpV hD hn
 refine Con.of (hP ▸ tblOk) (hP ▸ Tryz.func57) rfl rfl rfl rfl (by decide) rfl rfl (bdLB_bd _ rfl) (blks_bd rfl) ?_
 intro A g K hA hg hK
 obtain ⟨_, _, _, _, _, _, _, _, _, _, _, scmp⟩ := A
 cbv
 refine call_val rfl hg rfl rfl hPr ?_
 rintro _ _ _ rfl
 cbv
 have hne : scmp .eql b ⟨⟨[]⟩⟩ = false := by
  have e : scmp = Ar.real.scmp := congrArg Ar.scmp hA
  rw [e]
  show strCmp .eql b ⟨⟨[]⟩⟩ = false
  unfold strCmp
  simp only
  rw [beq_eq_false_iff_ne]
  intro h
  rw [ByteArray.toList_eq, ByteArray.toList_eq] at h
  refine hbs ?_
  show b.data.toList.length = 0
  rw [h]; rfl
 rw [hne]
 cbv
 refine call_val rfl hg rfl rfl hH ?_
 rintro _ _ _ rfl
 cbv
 refine reg_A (hP ▸ tblOk) hA hg (hP ▸ mixed) rfl rfl ?_
 cbv
 refine stepDn (n' := 4) (en_new rfl hg rfl rfl hBy id rfl trivial rfl (val := .agg [.ptr 2 0]) (NB := [⟨1, [.ptr 2 0], 118⟩, ⟨0, ws p 9, 25⟩, ⟨2, dcells d n s, 215⟩]) (n := 1) (n1 := 3) (fun _ _ _ h => ⟨h.1, h.2.1, h.2.2⟩) rfl rfl (fun l h1 h2 => ?_)) (by decide) rfl ?_ ?_
 rotate_left
 ·show [2, 1, 3].Nodup
  decide
 ·cbv
  exact hK _ _ _ ⟨rfl, rfl, rfl⟩
 ·have h3 : l = 0 \/ l = 1 \/ l = 2 := by omega
  rcases h3 with rfl | rfl | rfl
  ·exact ⟨_, List.mem_cons_of_mem _ List.mem_cons_self, rfl⟩
  ·exact ⟨_, List.mem_cons_self, rfl⟩
  ·exact ⟨_, List.mem_cons_of_mem _ (List.mem_cons_of_mem _ List.mem_cons_self), rfl⟩
theorem cFOf {P : Program} (hP : P = Tryz.prog) (k : Nat) (hk : 1 <= k /\ k <= 15) :
 ∃ p d n s, Wn 9 p /\ V 9 p = primeN k /\ Dv p d n s /\ Con P 57 [.int .i64 (Int.ofNat k)] [] 0 [] (fun v L m => v = .ptr 0 0 /\ L = [⟨0, fcells p 1, 120⟩, ⟨1, dcells d n s, 215⟩] /\ m = 2) := by
 obtain ⟨p, d, n, s, h1, h2, h3, h4⟩ := cFOfL hP k hk
 refine ⟨p, d, n, s, h1, h2, h3, h4.weak fun v L m h => ⟨fun l => 4 - l, .ptr 0 0, [⟨0, fcells p 1, 120⟩, ⟨1, dcells d n s, 215⟩], 2, ?_, rfl, rfl, rfl⟩⟩
 obtain ⟨rfl, rfl, rfl⟩ := h
 exact weak_rho ⟨rfl, rfl, trivial⟩ ⟨rfl, rfl, rfl, rfl, rfl, rfl, rfl, rfl, trivial⟩ rfl rfl rfl
theorem cFOf0 {P : Program} (hP : P = Tryz.prog) (x : Int) (hx : primeB x = ⟨⟨[]⟩⟩) : Con P 57 [.int .i64 x] [] 0 [] (fun v _ _ => v = .nilp) := by
 have hPr := cPrime hP x ⟨⟨[]⟩⟩ hx.symm
 refine Con.of (hP ▸ tblOk) (hP ▸ Tryz.func57) rfl rfl rfl rfl (by decide) rfl rfl (bdLB_bd _ rfl) (blks_bd rfl) ?_
 intro A g K hA hg hK
 obtain ⟨_, _, _, _, _, _, _, _, _, _, _, scmp⟩ := A
 cbv
 refine call_val rfl hg rfl rfl hPr ?_
 rintro _ _ _ rfl
 cbv
 have hne : scmp .eql ⟨⟨[]⟩⟩ ⟨⟨[]⟩⟩ = true := by
  have e : scmp = Ar.real.scmp := congrArg Ar.scmp hA
  rw [e]
  show strCmp .eql ⟨⟨[]⟩⟩ ⟨⟨[]⟩⟩ = true
  unfold strCmp
  simp only
  exact beq_self_eq_true _
 rw [hne]
 cbv
 exact hK _ _ _ rfl
def rowA : Nat -> Nat
 | 1 => 0
 | 2 => 0
 | 3 => 0
 | 4 => 0
 | 5 => 0
 | 6 => 0
 | 7 => 297190522446607939568481567949428902921613329152
 | 8 => 11020725272625742361946480833014344015343456918668456061589001510723
 | 9 => 56698187605326110043627228396178346077120614539475214109386828188763884139993
 | 10 => 524709318439392693105919717518043758943240164412117372990311331314771510648804065756354311491252
 | 11 => 19048979039598244295279281525021548448223459855185222892089532512446337024935426033638342846977861914875721218402342
 | 12 => 6294860557973063227666421306476379324074715770622746227136910445450301914281276098027990968407983962691151853678563877834221834027439718238065725844264138
 | 13 => 0
 | 14 => 0
 | 15 => 117
 | _ => 0
def rowAL : Nat -> Nat
 | 1 => 0
 | 2 => 0
 | 3 => 0
 | 4 => 0
 | 5 => 0
 | 6 => 1
 | 7 => 40
 | 8 => 56
 | 9 => 64
 | 10 => 80
 | 11 => 96
 | 12 => 128
 | 13 => 0
 | 14 => 1
 | 15 => 2
 | _ => 0
def rowB : Nat -> Nat
 | 1 => 2455155546008943817740293915197451784769108058161191238065
 | 2 => 18958286285566608000408668544493926415504680968679321075787234672564
 | 3 => 41058363725152142129326129780047268409114441015993725554835256314039467401291
 | 4 => 27580193559959705877849011840389048093056905856361568521428707301988689241309860865136260764883745107765439761230575
 | 5 => 1093849038073734274511112390766805569936207598951683748994586394495953116150735016013708737573759623248592132296706313309438452531591012912142327488478985984
 | 6 => 7
 | 7 => 173245649450172891208247283053495198538671808088
 | 8 => 3949606626053374030787926457695139766118442946052311411513528958987
 | 9 => 17577232497321838841075697789794520262950426058923084567046852300633325438902
 | 10 => 684460840191207052139729091116995410883497412720006364295713596062999867796741135919289734394278
 | 11 => 717131854892629093329172042053689661426642816397448020844407951239049616491589607702456460799758882466071646850065
 | 12 => 3245789008328967059274849584342077916531909009637501918328323668736179176583263496463525128488282611559800773506973771797764811498834995234341530862286627
 | 13 => 26
 | 14 => 13
 | 15 => 8
 | _ => 0
def rowBL : Nat -> Nat
 | 1 => 48
 | 2 => 56
 | 3 => 64
 | 4 => 96
 | 5 => 132
 | 6 => 1
 | 7 => 40
 | 8 => 56
 | 9 => 64
 | 10 => 80
 | 11 => 96
 | 12 => 128
 | 13 => 2
 | 14 => 1
 | 15 => 1
 | _ => 0
def rowN : Nat -> Nat
 | 1 => 6277101735386680763835789423176059013767194773182842284081
 | 2 => 26959946667150639794667015087019625940457807714424391721682722368061
 | 3 => 115792089210356248762697446949407573529996955224135760342422259061068512044369
 | 4 => 39402006196394479212279040100143613805079739270465446667946905279627659399113263569398956308152294913554433653942643
 | 5 => 6864797660130609714981900799081393217269435300143305409394463459185543183397655394245057746333217197532963996371363321113864768612440380340372808892707005449
 | 6 => 115792089237316195423570985008687907852837564279074904382605163141518161494337
 | 7 => 1332297598440044874827085038830181364212942568457
 | 8 => 22721622932454352787552537995910923612567546342330757191396560966559
 | 9 => 76884956397045344220809746629001649092737531784414529538755519063063536359079
 | 10 => 1763593322239166354161909842446019520889512772717686063760686124016784784845843468355685258203921
 | 11 => 21659270770119316173069236842332604979796116387017648600075645274821611501358515537962695117368903252229601718723941
 | 12 => 8948962207650232551656602815159153422162609644098354511344597187200057010413418528378981730643524959857451398370029280583094215613882043973354392115544169
 | 13 => 223
 | 14 => 211
 | 15 => 229
 | _ => 0
def rowNL : Nat -> Nat
 | 1 => 48
 | 2 => 56
 | 3 => 64
 | 4 => 96
 | 5 => 132
 | 6 => 64
 | 7 => 40
 | 8 => 56
 | 9 => 64
 | 10 => 80
 | 11 => 96
 | 12 => 128
 | 13 => 2
 | 14 => 2
 | 15 => 2
 | _ => 0
def rowX : Nat -> Nat
 | 1 => 602046282375688656758213480587526111916698976636884684818
 | 2 => 19277929113566293071110308034699488026831934219452440156649784352033
 | 3 => 48439561293906451759052585252797914202762949526041747995844080717082404635286
 | 4 => 26247035095799689268623156744566981891852923491109213387815615900925518854738050089022388053975719786650872476732087
 | 5 => 2661740802050217063228768716723360960729859168756973147706671368418802944996427808491545080627771902352094241225065558662157113545570916814161637315895999846
 | 6 => 55066263022277343669578718895168534326250603453777594175500187360389116729240
 | 7 => 1089473557631435284577962539738532515920566082499
 | 8 => 1428364927244201726431498207475486496993067267318520844137448783997
 | 9 => 63243729749562333355292243550312970334778175571054726587095381623627144114786
 | 10 => 565203972584199378547773331021708157952136817703497461781479793049434111597020229546183313458705
 | 11 => 4480579927441533893329522230328287337018133311029754539518372936441756157459087304048546502931308754738349656551198
 | 12 => 6792059140424575174435640431269195087843153390102521881468023012732047482579853077545647446272866794936371522410774532686582484617946013928874296844351522
 | 13 => 2
 | 14 => 3
 | 15 => 0
 | _ => 0
def rowXL : Nat -> Nat
 | 1 => 48
 | 2 => 56
 | 3 => 64
 | 4 => 96
 | 5 => 132
 | 6 => 64
 | 7 => 40
 | 8 => 56
 | 9 => 64
 | 10 => 80
 | 11 => 96
 | 12 => 128
 | 13 => 1
 | 14 => 1
 | 15 => 1
 | _ => 0
def rowY : Nat -> Nat
 | 1 => 174050332293622031404857552280219410364023488927386650641
 | 2 => 19926808758034470970197974370888749184205991990603949537637343198772
 | 3 => 36134250956749795798585127919587881956611106672985015071877198253568414405109
 | 4 => 8325710961489029985546751289520108179287853048861315594709205902480503199884419224438643760392947333078086511627871
 | 5 => 3757180025770020463545507224491183603594455134769762486694567779615544477440556316691234405012945539562144444537289428522585666729196580810124344277578376784
 | 6 => 32670510020758816978083085130507043184471273380659243275938904335757337482424
 | 7 => 127912481829969033206777085249718746721365418785
 | 8 => 9337555360448823227812410753177468631215558779020518084752618816205
 | 9 => 38218615093753523893122277964030810387585405539772602581557831887485717997975
 | 10 => 175146432689526447697480803229621572834859050903464782210773312572877763380340633688906597830369
 | 11 => 21354446258743982691371413536748675410974765754620216137225614281636810686961198361153695003859088327367976229294869
 | 12 => 6592244555240112873324748381429610341312712940326266331327445066687010545415256461097707483288650216992613090185042957716318301180159234788504307628509330
 | 13 => 84
 | 14 => 47
 | 15 => 41
 | _ => 0
def rowYL : Nat -> Nat
 | 1 => 48
 | 2 => 56
 | 3 => 64
 | 4 => 96
 | 5 => 132
 | 6 => 64
 | 7 => 40
 | 8 => 56
 | 9 => 64
 | 10 => 80
 | 11 => 96
 | 12 => 128
 | 13 => 2
 | 14 => 2
 | 15 => 2
 | _ => 0
def rowAS (k : Nat) : ByteArray := if rowAL k = 0 then ⟨⟨[45, 51]⟩⟩ else hexS (rowA k) (rowAL k)
set_option maxHeartbeats 8000000 in
theorem cRows {P : Program} (hP : P = Tryz.prog) (k : Nat) (hk : 1 <= k /\ k <= 15) (a b n x y : ByteArray) (ha : a = rowAS k) (hb : b = hexS (rowB k) (rowBL k)) (hn : n = hexS (rowN k) (rowNL k)) (hx : x = hexS (rowX k) (rowXL k)) (hy : y = hexS (rowY k) (rowYL k)) :
 Con P 58 [.int .i64 (Int.ofNat k)] [] 0 [] (fun v _ _ => v = .agg [.str a, .str b, .str n, .str x, .str y]) := by
 have : k = 1 \/ k = 2 \/ k = 3 \/ k = 4 \/ k = 5 \/ k = 6 \/ k = 7 \/ k = 8 \/ k = 9 \/ k = 10 \/ k = 11 \/ k = 12 \/ k = 13 \/ k = 14 \/ k = 15 := by omega
 refine Con.of (hP ▸ tblOk) (hP ▸ Tryz.func58) rfl rfl rfl rfl (by decide) rfl rfl (bdLB_bd _ rfl) (blks_bd rfl) ?_
 intro A g K hA hg hK
 obtain ⟨_, _, cmp⟩ := A
 have f : ∀ y z, cmp .eql y z = decide (y = z) := fun y z => congrFun (congrFun (congrFun (cmp_of hA) .eql) y) z
 rcases this with rfl | rfl | rfl | rfl | rfl | rfl | rfl | rfl | rfl | rfl | rfl | rfl | rfl | rfl | rfl <;> (cbv; repeat (rw [f]; cbv)) <;> exact hK _ _ _ (by rw [ha, hb, hn, hx, hy]; kernel_rfl)
end Go.Proofs.YtdhmihfefgcbeaaGreat
end
