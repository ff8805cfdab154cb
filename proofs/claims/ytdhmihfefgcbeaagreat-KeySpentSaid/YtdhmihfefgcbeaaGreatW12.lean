/-
  This text proves what these texts prove: Ni, Vga, Nj. Conditions: those of each theorem.
-/
import Derived.Test.YtdhmihfefgcbeaaGreatW11
import Derived.Test.YtdhmihfefgcbeaaGreatW08
section
namespace Go.Proofs.YtdhmihfefgcbeaaGreat
open Go.Vg Go.RowKit
set_option maxRecDepth 200000
set_option cbv.maxSteps 100000000
def fillw (w : Nat -> Nat) (s i j : Nat) : Nat := if j < i then shw w s j else if j = i then (if i = 0 then 0 else w (i - 1) * 2 ^ s / 18446744073709551616) else 0
theorem wrap_z (z : Int) (h : -9223372036854775808 <= z) (h2 : z < 9223372036854775808) : IntKind.i64.wrap z = z := by
 simp only [IntKind.wrap, IntKind.signed, IntKind.bits]
 have : ((2 : Int) ^ 64) = 18446744073709551616 := by decide
 have h3 : ((2 : Int) ^ (64 - 1)) = 9223372036854775808 := by decide
 simp only [this, h3, Bool.true_and, decide_eq_true_eq]
 split <;> omega
theorem subZ {A : Ar} (hA : A = Ar.real) {a b : Nat} (ha : a < 4294967296) (hb : b < 4294967296) : A.bin .sub .i64 (Int.ofNat a) (Int.ofNat b) = Int.ofNat a - Int.ofNat b := by
 subst hA
 exact wrap_z _ (by simp only [Int.ofNat_eq_natCast]; omega) (by simp only [Int.ofNat_eq_natCast]; omega)
theorem digit_much {X X' x D Q P : Nat} (h : X' < P) (e : X' + x * D = X + P) (hQ : Q = X / D) : Q < x := by
 rw [hQ]
 exact Nat.div_lt_of_lt_mul (by rw [Nat.mul_comm]; omega)
theorem digit_back {X X' X'' x y c D P : Nat} (e : X' + x * D = X + P) (hx : x = y + 1) (h : X'' + c * P = X' + D) (hc : c <= 1) : X'' + y * D = X + (1 - c) * P := by
 subst hx
 rw [Nat.add_mul, Nat.one_mul] at e
 obtain rfl | rfl : c = 0 \/ c = 1 := by omega
 ·rw [Nat.zero_mul] at h; rw [Nat.sub_zero, Nat.one_mul]; omega
 ·rw [Nat.one_mul] at h; rw [Nat.sub_self, Nat.zero_mul]; omega
theorem quo_lt {u : Nat -> Nat} {a n D : Nat} (hi : a + (n + 1) <= 19) (hD0 : 0 < D) (hD : D <= 18446744073709551616 ^ n) (h : V 19 u < D * 18446744073709551616 ^ (a + 1)) : Vw a (n + 1) u / D < 18446744073709551616 := by
 have h1 := win_all hi hD h
 rw [Nat.div_lt_iff_lt_mul hD0]
 rw [h1, Nat.pow_succ, Nat.mul_comm (18446744073709551616 ^ a), <- Nat.mul_assoc] at h
 refine Nat.lt_of_mul_lt_mul_right (Nat.lt_of_le_of_lt (Nat.le_add_left _ _) h) |> fun x => ?_
 rw [Nat.mul_comm]; exact x
theorem add_dig {R R' q x B D U q' : Nat} (h : R + q * D = U) (h1 : R' + x * B * D = R) (h2 : q' = q + x * B) : R' + q' * D = U := by
 rw [h2, Nat.add_mul]
 generalize x * B * D = a at *
 generalize q * D = b at *
 omega
theorem srw_zero (u : Nat -> Nat) (j : Nat) : u j / 2 ^ 0 = srw u 0 j := by
 rw [srw, shl_hi (by omega), Nat.pow_zero, Nat.mod_one, Nat.zero_mul, Nat.add_zero]
theorem rest_next {u r r1 : Nat -> Nat} {s i z : Nat} (hr : ∀ j, r j = if j < i then srw u s j else 0) (hz : z = srw u s i) (h : r1 = fun j => if j = i then z else r j) (j : Nat) : r1 j = if j < i + 1 then srw u s j else 0 := by
 rw [h]; show (if j = i then z else r j) = _
 by_cases a : j = i
 ·rw [if_pos a, if_pos (by omega), hz, a]
 ·rw [if_neg a, hr j]
  exact ite_iff (by omega) rfl rfl
theorem fill_self (w : Nat -> Nat) (s i : Nat) : fillw w s i i = if i = 0 then 0 else w (i - 1) * 2 ^ s / 18446744073709551616 := by
 unfold fillw; rw [if_neg (Nat.lt_irrefl _), if_pos rfl]
theorem fill_lt {w : Nat -> Nat} {s i k : Nat} (hs : s <= 64) (hw : Wn k w) (hi : i < k) : fillw w s i i < 18446744073709551616 := by
 rw [fill_self]
 split
 ·decide
 ·refine Nat.lt_of_lt_of_le (hi_lt hs (hw _ (by omega))) ?_
  exact Nat.le_trans (Nat.pow_le_pow_right (by decide) hs) (Nat.le_of_eq (by decide))
theorem fill_or {w : Nat -> Nat} {s i k : Nat} (hs : s <= 64) (hw : Wn k w) (hi : i < k) : fillw w s i i ||| (w i * 2 ^ s % 18446744073709551616) = shw w s i := by
 rw [fill_self, Nat.or_comm]
 by_cases h : i = 0
 ·subst h; rw [if_pos rfl, Nat.or_zero]; rfl
 ·obtain ⟨l, rfl⟩ : ∃ l, i = l + 1 := ⟨i - 1, by omega⟩
  rw [if_neg (by omega), Nat.add_sub_cancel, <- shr_hi hs]
  exact shw_or hs (hw l (by omega))
theorem fill_next {w u u1 u2 : Nat -> Nat} {s i : Nat} (hs : s <= 64) (hu : ∀ j, u j = fillw w s i j) (h1 : u1 = fun j => if j = i then shw w s i else u j) (h2 : u2 = fun j => if j = i + 1 then w i / 2 ^ (64 - s) else u1 j) (j : Nat) : u2 j = fillw w s (i + 1) j := by
 rw [h2]; show (if j = i + 1 then _ else u1 j) = _
 rw [h1]; show (if j = i + 1 then _ else if j = i then _ else u j) = _
 rw [hu j]
 unfold fillw
 by_cases a : j = i + 1
 ·rw [if_pos a, if_neg (by omega), if_pos a, if_neg (by omega), Nat.add_sub_cancel, shr_hi hs]
 ·rw [if_neg a]
  by_cases b : j = i
  ·rw [if_pos b, if_pos (by omega), b]
  ·rw [if_neg b]
   by_cases c : j < i
   ·rw [if_pos c, if_pos (by omega)]
   ·rw [if_neg c, if_neg b, if_neg (by omega), if_neg a]
theorem fill_next0 {w u u1 : Nat -> Nat} {s i k : Nat} (hw : Wn k w) (hi : i < k) (hs : s = 0) (hu : ∀ j, u j = fillw w s i j) (h1 : u1 = fun j => if j = i then shw w s i else u j) (j : Nat) : u1 j = fillw w s (i + 1) j := by
 rw [<- fill_next (by omega) hu h1 rfl j]
 show _ = if j = i + 1 then _ else _
 by_cases a : j = i + 1
 ·rw [if_pos a, hs]
  have hz : w i / 2 ^ (64 - 0) = 0 := Nat.div_eq_of_lt (Nat.lt_of_lt_of_le (hw i hi) (Nat.le_of_eq (by decide)))
  rw [hz, h1]
  show (if j = i then _ else u j) = 0
  rw [if_neg (by omega), hu j, fillw, if_neg (by omega), if_neg (by omega)]
 ·rw [if_neg a]
theorem fill_end {w u : Nat -> Nat} {s k : Nat} (hs : s <= 64) (hw : Wn k w) (hk : k <= 18) (hu : ∀ j, u j = fillw w s k j) : Wn 19 u /\ V 19 u = V k w * 2 ^ s := by
 constructor
 ·intro j hj
  rw [hu j, fillw]
  split
  ·refine shw_lt hs ?_
   by_cases h : j = 0
   ·exact Or.inl h
   ·exact Or.inr (hw _ (by omega))
  ·split
   ·split
    ·decide
    ·refine Nat.lt_of_lt_of_le (hi_lt hs (hw _ (by omega))) ?_
     exact Nat.le_trans (Nat.pow_le_pow_right (by decide) hs) (Nat.le_of_eq (by decide))
   ·decide
 ·obtain ⟨l, hl⟩ : ∃ l, 19 = (k + 1) + l := ⟨19 - (k + 1), by omega⟩
  have h1 : V 19 u = V (k + 1) u := by
   rw [hl]
   exact Dg.num_zero u (k + 1) l fun i h1 h2 => by rw [hu i, fillw, if_neg (by omega), if_neg (by omega)]
  have h2 : V k u = V k (shw w s) := Dg.num_congr k fun i hi => by rw [hu i, fillw, if_pos hi]
  rw [h1, num_snoc, h2, hu k, fill_self]
  exact V_shw w s k
set_option maxHeartbeats 4000000 in
theorem cDivide9 {P : Program} (hP : P = Tryz.prog) {t : TypeId} (m d : Nat -> Nat) (n s : Nat) (hD : Dv m d n s) (w : Nat -> Nat) (k : Nat) (hw : Wn k w) (hk : k <= 9) (rq rr : Nat -> Nat) (hrq : Wn 18 rq) (hrr : Wn 9 rr) (hqV : V 18 rq = V k w / V 9 m) (hrV : V 9 rr = V k w % V 9 m) :
 Con P 159 [.ptr 0 0, .slice 1 0 k 9] [⟨0, dcells d n s, 215⟩, ⟨1, ws w 9, t⟩] 2 [] (fun v _ _ => v = .tup [.agg (ws rq 18), .agg (ws rr 9)]) := by
 refine Con.of (hP ▸ tblOk) (hP ▸ Tryz.func159) rfl rfl rfl rfl (by decide) rfl rfl (bdLB_bd _ rfl) (blks_bd rfl) ?_
 intro A g K hA hg hK
 obtain ⟨bin, sh, cmp, _, _, ix, nn, _, bnot, _, _, _, _, _, nat, off, _, _, sub⟩ := A
 have hs64 := hD.s64
 have hs2 : s <= 64 := by omega
 have en : nat k = Int.ofNat k := nat_of hA k
 have f1t : ∀ x y, x < y -> cmp .lss (Int.ofNat x) (Int.ofNat y) = true := fun x y h => lss_t hA h
 have f1f : ∀ x y, ¬ x < y -> cmp .lss (Int.ofNat x) (Int.ofNat y) = false := fun x y h => lss_f hA h
 have f2 : ∀ i, i < k -> ix (Int.ofNat i) k = some i := fun i h => ix_of hA h
 have f2u : ∀ i, i < 19 -> ix (Int.ofNat i) 19 = some i := fun i h => ix_of hA h
 have f3 : ∀ i, off 0 i 1 = i := fun i => (off_of hA 0 i 1).trans (by omega)
 have f4 := fun (f : Nat -> Nat) (i : Nat) (h : i < 9) => getW hA .u64 (n := 9) f h
 have f4u := fun (f : Nat -> Nat) (i : Nat) (h : i < 19) => getW hA .u64 (n := 19) f h
 have f5u := fun (f g : Nat -> Nat) (i v : Nat) (h : i < 19) (e : g = fun j => if j = i then v else f j) => splW hA .u64 (n := 19) f g h e
 have f6 : ∀ i, i < 19 -> bin .add .i64 (Int.ofNat i) 1 = Int.ofNat (i + 1) := fun i h => addI hA (b := 1) (by omega)
 simp only [lst, Nat.reduceAdd] at f4 f4u f5u
 have zs : nn (Int.ofNat s) = true := nn_t hA s
 have g3 : bin .sub .i64 64 (Int.ofNat s) = Int.ofNat (64 - s) := subI hA (a := 64) (b := s) (by omega) (by omega)
 have zr : nn (Int.ofNat (64 - s)) = true := nn_t hA _
 have zg : 0 < s -> cmp .gtr (Int.ofNat s) 0 = true := fun h => gtr_t hA (b := 0) h
 have zg' : ¬ 0 < s -> cmp .gtr (Int.ofNat s) 0 = false := fun h => gtr_f hA (b := 0) h
 obtain ⟨r, hr⟩ : ∃ r, r = 64 - s := ⟨_, rfl⟩
 rw [<- hr] at g3 zr
 cbv
 rw [en]
 refine loop_by (Nat × (Nat -> Nat)) (fun σ => σ.1 <= k /\ ∀ j, σ.2 j = fillw w s σ.1 j) (fun σ => k - σ.1)
  (fun σ => [(17, .int .i64 (Int.ofNat σ.1))]) [0, 1, 4, 5, 6, 7, 15, 16] (fun σ => [(4, ws σ.2 19)]) (0, fun _ => 0) ⟨Nat.zero_le _, ?_⟩ ?_ ?_
 ·intro j; show 0 = fillw w s 0 j
  unfold fillw; rw [if_neg (Nat.not_lt_zero _)]; split <;> rfl
 ·exact wkid
 rintro ⟨i, u⟩ ⟨hi, hu0⟩
 have hi : i <= k := hi
 have hu : ∀ j, u j = fillw w s i j := hu0
 clear hu0
 cbv
 by_cases hlt : i < k
 ·rw [f1t i k hlt]
  cbv
  rw [f2 i hlt]
  cbv
  rw [f3 i, f4 w i (by omega)]
  cbv
  refine reg_M (hP ▸ tblOk) hA hg (hP ▸ mixed) rfl rfl fun mk _ => ?_
  cbv
  obtain ⟨w1, hw1⟩ : ∃ x, x = w i * 2 ^ s % 18446744073709551616 := ⟨_, rfl⟩
  have hw1W : w1 < 18446744073709551616 := by rw [hw1]; exact Nat.mod_lt _ (by decide)
  obtain ⟨z, hz⟩ : ∃ x, x = shw w s i := ⟨_, rfl⟩
  have hui := hu i
  have c1 : sh .shl .u64 (Int.ofNat (w i)) (Int.ofNat s) = Int.ofNat w1 := shl64 hA hs2 hw1
  have c2 : bin .or .u64 (Int.ofNat (u i)) (Int.ofNat w1) = Int.ofNat z := or64 hA (by rw [hui]; exact fill_lt hs2 hw hlt) hw1W (by rw [hui, hz, hw1]; exact (fill_or hs2 hw hlt).symm)
  obtain ⟨u1, hu1⟩ : ∃ u1 : Nat -> Nat, u1 = fun j => if j = i then z else u j := ⟨_, rfl⟩
  have i19 : i < 19 := by omega
  have j19 : i + 1 < 19 := by omega
  have e1 := f2u i i19
  have e2 := f3 i
  have e3 := f5u u u1 i z i19 hu1
  have e6 := f6 i i19
  have e7 := f2u (i + 1) j19
  have e8 := f3 (i + 1)
  obtain ⟨y, hy⟩ : ∃ y, y = w i / 2 ^ r := ⟨_, rfl⟩
  have c3 : sh .shr .u64 (Int.ofNat (w i)) (Int.ofNat r) = Int.ofNat y := shr64 hA (by omega) hy
  obtain ⟨u2, hu2⟩ : ∃ u2 : Nat -> Nat, u2 = fun j => if j = i + 1 then y else u1 j := ⟨_, rfl⟩
  have e9 := f5u u1 u2 (i + 1) y j19 hu2
  obtain ⟨i1, hi1⟩ : ∃ i1, i1 = i + 1 := ⟨_, rfl⟩
  rw [<- hi1] at e6 e7 e8 e9
  rw [e1]
  cbv
  rw [e2, f4u u i i19]
  cbv
  rw [zs]
  cbv
  rw [c1]
  cbv
  rw [c2]
  cbv
  rw [e1]
  cbv
  rw [e2, e3]
  cbv
  by_cases hs0 : 0 < s
  ·rw [zg hs0]
   cbv
   rw [e6, g3]
   cbv
   rw [zr]
   cbv
   rw [c3]
   cbv
   rw [e7]
   cbv
   rw [e8, e9]
   cbv
   rw [e6]
   refine ⟨(i1, u2), id, ⟨by show i1 <= k; omega, ?_⟩, (by show k - i1 < k - i; omega), ?_⟩
   ·show ∀ j, u2 j = fillw w s i1 j
    rw [hi1]
    rw [hz] at hu1
    rw [hy, hr] at hu2
    exact fill_next hs2 hu hu1 hu2
   ·exact wkid
  ·rw [zg' hs0]
   cbv
   rw [e6]
   refine ⟨(i1, u1), id, ⟨by show i1 <= k; omega, ?_⟩, (by show k - i1 < k - i; omega), ?_⟩
   ·show ∀ j, u1 j = fillw w s i1 j
    rw [hi1]
    rw [hz] at hu1
    exact fill_next0 hw hlt (by omega) hu hu1
   ·exact wkid
 ·obtain rfl : i = k := by omega
  rw [f1f i i hlt]
  cbv
  obtain ⟨hu19, hU⟩ := fill_end hs2 hw (by omega) hu
  obtain ⟨D, hDe⟩ : ∃ D, D = V n d := ⟨_, rfl⟩
  obtain ⟨M, hM⟩ : ∃ M, M = V 9 m := ⟨_, rfl⟩
  have hDM : D = M * 2 ^ s := by rw [hDe, hD.val, hM, V_used hD.used]
  have hn9 := hD.used.1
  have hn0 := hD.n0
  have hdn : Wn n d := fun j hj => hD.w j (by omega)
  have hDP : D <= 18446744073709551616 ^ n := by rw [hDe]; exact Nat.le_of_lt (V_lt hdn)
  obtain ⟨W, hW⟩ : ∃ W, W = V i w := ⟨_, rfl⟩
  rw [<- hW] at hU hqV hrV
  rw [<- hM] at hqV hrV
  have hst : ∀ t, i <= n - 1 + t -> W * 2 ^ s < D * 18446744073709551616 ^ t := fun t ht => start_lt (by rw [hW]; exact V_lt hw) hn0 hD.top hDe hs64 ht
  have hD0 : 0 < D := by
   have := hst i (by omega)
   rcases Nat.eq_zero_or_pos D with h | h
   ·rw [h, Nat.zero_mul] at this; exact absurd this (Nat.not_lt_zero _)
   ·exact h
  have g5 : bin .sub .i64 (Int.ofNat i) (Int.ofNat n) = Int.ofNat i - Int.ofNat n := subZ hA (by omega) (by omega)
  rw [en]
  obtain ⟨iv0, hiv0⟩ : ∃ z, z = Int.ofNat i - Int.ofNat n := ⟨_, rfl⟩
  rw [<- hiv0] at g5
  rw [g5]
  refine loop_by (Nat × Int × (Nat -> Nat) × (Nat -> Nat)) (fun σ => (σ.1 = 0 /\ σ.2.1 < 0 \/ 0 < σ.1 /\ σ.2.1 = Int.ofNat σ.1 - 1 /\ σ.1 + n <= i + 1) /\ Wn 19 σ.2.2.1 /\ Wn 18 σ.2.2.2 /\ (∀ j, j < σ.1 -> σ.2.2.2 j = 0) /\ V 19 σ.2.2.1 + V 18 σ.2.2.2 * D = W * 2 ^ s /\ V 19 σ.2.2.1 < D * 18446744073709551616 ^ σ.1) (fun σ => σ.1)
   (fun σ => [(10, .int .i64 σ.2.1)]) [0, 4, 5, 6, 7] (fun σ => [(4, ws σ.2.2.1 19), (5, ws σ.2.2.2 18)]) (i + 1 - n, iv0, u, fun _ => 0) ⟨?_, hu19, ?_, fun _ _ => rfl, ?_, ?_⟩ ?_ ?_
  ·show (i + 1 - n = 0 /\ iv0 < 0 \/ 0 < i + 1 - n /\ iv0 = Int.ofNat (i + 1 - n) - 1 /\ i + 1 - n + n <= i + 1)
   rw [hiv0]
   simp only [Int.ofNat_eq_natCast]
   omega
  ·intro j _; show 0 < _; decide
  ·show V 19 u + V 18 (fun _ => 0) * D = W * 2 ^ s
   have : V 18 (fun _ => 0) = 0 := by simp [V, Dg.num]
   rw [this, Nat.zero_mul, hU]; rfl
  ·show V 19 u < _
   rw [hU]; exact hst _ (by omega)
  ·exact wkid
  clear hu hu19 hU
  rintro ⟨t, iv, u, q⟩ ⟨ht', hu', hq', hq0', hR', hlt'⟩
  have ht : t = 0 /\ iv < 0 \/ 0 < t /\ iv = Int.ofNat t - 1 /\ t + n <= i + 1 := ht'
  have hu : Wn 19 u := hu'
  have hq : Wn 18 q := hq'
  have hq0 : ∀ j, j < t -> q j = 0 := hq0'
  have hR : V 19 u + V 18 q * D = W * 2 ^ s := hR'
  have hlt2 : V 19 u < D * 18446744073709551616 ^ t := hlt'
  clear ht' hu' hq' hq0' hR' hlt'
  by_cases hiv : 0 <= iv
  ·obtain ⟨a, rfl⟩ : ∃ a, t = a + 1 := ⟨t - 1, by omega⟩
   obtain rfl : iv = Int.ofNat a := by
    rcases ht with h | h
    ·exact absurd h.1 (Nat.succ_ne_zero a)
    ·rw [h.2.1]; exact Int.add_sub_cancel (a : Int) 1
   cbv
   rw [show cmp .geq (Int.ofNat a) 0 = true from geq_t hA (b := 0) (Nat.zero_le _)]
   cbv
   obtain ⟨p, hp⟩ : ∃ p, n = p + 1 := ⟨n - 1, by omega⟩
   have han : a + n < 19 := by
    rcases ht with h | h
    ·exact absurd h.1 (Nat.succ_ne_zero a)
    ·have := h.2.2; omega
   have hani : a + 1 + n <= i + 1 := by
    rcases ht with h | h
    ·exact absurd h.1 (Nat.succ_ne_zero a)
    ·exact h.2.2
   clear ht hiv
   obtain ⟨X, hX⟩ : ∃ X, X = Vw a (n + 1) u := ⟨_, rfl⟩
   obtain ⟨Qd, hQd⟩ : ∃ Q, Q = X / D := ⟨_, rfl⟩
   have hQD : Qd * D <= X := by rw [hQd]; exact Nat.div_mul_le_self X D
   have hQW : Qd < 18446744073709551616 := by rw [hQd, hX]; exact quo_lt (by omega) hD0 hDP hlt2
   have hG := cGuess hP (t := 271) d u p s a Qd hD.w hu (by omega) (by omega) (by have := hD.top; rw [hp, Nat.add_sub_cancel] at this; omega) (by rw [<- hp, <- hDe, show p + 2 = n + 1 by omega, <- hX]; exact hQD) hQW
   rw [<- hp] at hG
   refine step_slice hg rfl rfl rfl rfl rfl (slr_arr (hP ▸ tblOk) (show tyT 271 = some _ from rfl) rfl _ _) ?_
   cbv
   refine call_ro rfl hg rfl rfl hG (fun l => 4 * l) rfl ⟨rfl, rfl, trivial⟩ ?_
   rintro _ _ _ ⟨x0, hx1, hx2, rfl⟩
   cbv
   refine step_slice hg rfl rfl rfl rfl rfl (slr_arr (hP ▸ tblOk) (show tyT 271 = some _ from rfl) rfl _ _) ?_
   cbv
   refine call_gen rfl hg rfl rfl (cTake hP (t := 271) d u n s a x0 hD.w hu hn9 han hx2) (fun l => 4 * l) rfl ⟨rfl, rfl, trivial⟩ rfl rfl rfl ?_
   rintro _ _ _ ⟨u1, c0, hu1, hc0, hf1, ht1, rfl, rfl, rfl⟩ _
   cbv
   rw [<- hX, <- hDe] at ht1
   have f2q : ix (Int.ofNat a) 18 = some a := ix_of hA (by omega)
   have g6 : bin .sub .i64 (Int.ofNat a) 1 = Int.ofNat a - 1 := subZ hA (b := 1) (by omega) (by omega)
   obtain ⟨iv', hiv'⟩ : ∃ z, z = Int.ofNat a - 1 := ⟨_, rfl⟩
   rw [<- hiv'] at g6
   have f3a := f3 a
   refine loop_by (Nat × Nat × (Nat -> Nat)) (fun σ => Wn 19 σ.2.2 /\ σ.1 < 18446744073709551616 /\ σ.2.1 <= 1 /\ Qd <= σ.1 /\ (∀ j, j < a \/ a + n < j -> σ.2.2 j = u j) /\ Vw a (n + 1) σ.2.2 + σ.1 * D = X + σ.2.1 * 18446744073709551616 ^ (n + 1)) (fun σ => σ.1)
    (fun σ => [(11, .int .u64 (Int.ofNat σ.1)), (12, .bool (decide (σ.2.1 = 1)))]) [0, 4, 5, 6, 7, 10] (fun σ => [(4, ws σ.2.2 19)]) (x0, c0, u1) ⟨hu1, hx2, hc0, hx1, hf1, ht1⟩ ?_ ?_
   ·exact wkid
   clear ht1 hf1 hu1 hc0 hx1 hx2 hG
   rintro ⟨x, c, v⟩ ⟨hv', hx', hc', hQx', hf', he'⟩
   have hv : Wn 19 v := hv'
   have hx : x < 18446744073709551616 := hx'
   have hc : c <= 1 := hc'
   have hQx : Qd <= x := hQx'
   have hf : ∀ j, j < a \/ a + n < j -> v j = u j := hf'
   have he : Vw a (n + 1) v + x * D = X + c * 18446744073709551616 ^ (n + 1) := he'
   clear hv' hx' hc' hQx' hf' he'
   by_cases hc1 : c = 1
   ·obtain rfl : c = 1 := hc1
    rw [Nat.one_mul] at he
    have hlt : Qd < x := digit_much (Vw_lt hv (by omega)) he hQd
    obtain ⟨y, hy⟩ : ∃ y, x = y + 1 := ⟨x - 1, by omega⟩
    have e1 : bin .sub .u64 (Int.ofNat x) 1 = Int.ofNat y := sub64 hA (a := x) (b := 1) (by decide) (by omega)
    cbv
    rw [e1]
    refine step_slice hg rfl rfl rfl rfl rfl (slr_arr (hP ▸ tblOk) (show tyT 271 = some _ from rfl) rfl _ _) ?_
    cbv
    refine call_gen rfl hg rfl rfl (cBack hP (t := 271) d v n s a hD.w hv hn9 han) (fun l => 4 * l) rfl ⟨rfl, rfl, trivial⟩ rfl rfl rfl ?_
    rintro _ _ _ ⟨v1, c1, hv1, hc1, hf1, ht1, rfl, rfl, rfl⟩ _
    rw [<- hDe] at ht1
    obtain ⟨c2, hc2⟩ : ∃ c2, c2 = 1 - c1 := ⟨_, rfl⟩
    have e2 : bnot (decide (c1 = 1)) = decide (c2 = 1) := by
     refine (bnot_of hA _).trans ?_
     rw [hc2]
     obtain h | h : c1 = 0 \/ c1 = 1 := by omega
     ·rw [h]; rfl
     ·rw [h]; rfl
    have he2 := digit_back he hy ht1 hc1
    rw [<- hc2] at he2
    obtain ⟨b1, hb1⟩ : ∃ b, b = decide (c1 = 1) := ⟨_, rfl⟩
    obtain ⟨b2, hb2⟩ : ∃ b, b = decide (c2 = 1) := ⟨_, rfl⟩
    rw [<- hb1, <- hb2] at e2
    rw [<- hb1]
    cbv
    rw [e2]
    refine ⟨(y, c2, v1), id, ⟨hv1, (by show y < _; omega), (by show c2 <= 1; omega), (by show Qd <= y; omega), ?_, he2⟩, (by show y < x; omega), ?_⟩
    ·intro j hj
     exact (hf1 j hj).trans (hf j hj)
    ·rw [hb2]
     exact wkid
   ·obtain rfl : c = 0 := by omega
    rw [Nat.zero_mul, Nat.add_zero] at he
    obtain ⟨q1, hq1⟩ : ∃ q1 : Nat -> Nat, q1 = fun j => if j = a then x else q j := ⟨_, rfl⟩
    have e3 := splW hA .u64 (n := 18) q q1 (k := a) (v := x) (by omega) hq1
    simp only [lst, Nat.reduceAdd] at e3
    obtain ⟨k1, k2⟩ := at_step (N := 19) (D := D) hu (by omega) hD0 hDP hlt2 hf (by rw [he, hX]; exact Nat.add_zero _) (by rw [<- hX, <- hQd]; exact hQx)
    have k3 := V_put (x := x) (q := q) (i := a) (N := 18) (by omega) (hq0 a (Nat.lt_succ_self a))
    rw [<- hq1] at k3
    cbv
    rw [f2q]
    cbv
    rw [f3a, e3]
    cbv
    rw [g6]
    refine ⟨(a, iv', v, q1), id, ⟨?_, hv, ?_, ?_, add_dig hR k1 k3, k2⟩, (by show a < a + 1; omega), ?_⟩
    ·show a = 0 /\ iv' < 0 \/ 0 < a /\ iv' = Int.ofNat a - 1 /\ a + n <= i + 1
     rw [hiv']
     rcases Nat.eq_zero_or_pos a with h | h
     ·exact Or.inl ⟨h, by rw [h]; decide⟩
     ·exact Or.inr ⟨h, rfl, by omega⟩
    ·intro j hj
     show q1 j < _
     rw [hq1]
     by_cases hja : j = a
     ·simp only [hja, if_pos]; exact hx
     ·simp only [if_neg hja]; exact hq j hj
    ·intro j hj
     have hj : j < a := hj
     show q1 j = 0
     rw [hq1]
     exact (if_neg (by omega)).trans (hq0 j (by omega))
    ·exact wkid
  ·obtain rfl : t = 0 := by
    rcases ht with h | h
    ·exact h.1
    ·exact absurd (show 0 <= iv by rw [h.2.1]; have := h.1; show (0 : Int) <= (t : Int) - 1; omega) hiv
   cbv
   rw [show cmp .geq iv 0 = false from (congrFun (congrFun (congrFun (cmp_of hA) .geq) iv) 0).trans (decide_eq_false hiv)]
   cbv
   clear ht hiv
   rw [Nat.pow_zero, Nat.mul_one] at hlt2
   rw [hDM] at hR
   obtain ⟨k1, k2⟩ := fin_div (Nat.pow_pos (by decide)) hR (by rw [<- hDM]; exact hlt2)
   obtain ⟨k3, k4⟩ := rest_of hu hs64 hn9 hDP hlt2 k2
   have q1 : ws rq 18 = ws q 18 := V_inj hrq hq (hqV.trans k1.symm)
   have q2 : ws rr 9 = ws (fun i => if i < n then srw u s i else 0) 9 := V_inj hrr k3 (hrV.trans k4.symm)
   clear k1 k2 k3 k4 hR hlt2
   have f2n : ∀ j, j < 9 -> ix (Int.ofNat j) 9 = some j := fun j h => ix_of hA h
   have f4n := fun (f : Nat -> Nat) (j : Nat) (h : j < 9) => getW hA .u64 (n := 9) f h
   have f5n := fun (f g : Nat -> Nat) (j v : Nat) (h : j < 9) (e : g = fun x => if x = j then v else f x) => splW hA .u64 (n := 9) f g h e
   simp only [lst, Nat.reduceAdd] at f4n f5n
   refine loop_by (Nat × (Nat -> Nat)) (fun σ => σ.1 <= n /\ ∀ j, σ.2 j = if j < σ.1 then srw u s j else 0) (fun σ => n - σ.1)
    (fun σ => [(85, .int .i64 (Int.ofNat σ.1))]) [0, 4, 5, 6, 7, 13, 84] (fun σ => [(6, ws σ.2 9)]) (0, fun _ => 0) ⟨Nat.zero_le _, ?_⟩ ?_ ?_
   ·intro j; exact (if_neg (Nat.not_lt_zero _)).symm
   ·exact wkid
   rintro ⟨j, rs⟩ ⟨hj', hrs'⟩
   have hj : j <= n := hj'
   have hrs : ∀ x, rs x = if x < j then srw u s x else 0 := hrs'
   clear hj' hrs'
   cbv
   by_cases hlt : j < n
   ·rw [f1t j n hlt]
    have j9 : j < 9 := by omega
    obtain ⟨y1, hy1⟩ : ∃ y, y = u j / 2 ^ s := ⟨_, rfl⟩
    have c1 : sh .shr .u64 (Int.ofNat (u j)) (Int.ofNat s) = Int.ofNat y1 := shr64 hA hs2 hy1
    obtain ⟨r1, hr1⟩ : ∃ r1 : Nat -> Nat, r1 = fun x => if x = j then y1 else rs x := ⟨_, rfl⟩
    have e1 := f2n j j9
    have e2 := f3 j
    have e3 := f5n rs r1 j y1 j9 hr1
    have e4 := f2u j (by omega)
    have e5 := f4u u j (by omega)
    have e6 := f6 j (by omega)
    have e7 := f4n r1 j j9
    have e8 := f2u (j + 1) (by omega)
    have e9 := f4u u (j + 1) (by omega)
    have e10 := f3 (j + 1)
    obtain ⟨y2, hy2⟩ : ∃ y, y = u (j + 1) * 2 ^ r % 18446744073709551616 := ⟨_, rfl⟩
    have c2 : sh .shl .u64 (Int.ofNat (u (j + 1))) (Int.ofNat r) = Int.ofNat y2 := shl64 hA (by omega) hy2
    have hujW : u j < 18446744073709551616 := hu j (by omega)
    have hr1j : r1 j = y1 := by rw [hr1]; exact if_pos rfl
    rw [hr1j] at e7
    obtain ⟨z, hz⟩ : ∃ y, y = y1 ||| y2 := ⟨_, rfl⟩
    have hzs : z = srw u s j := by rw [hz, hy1, hy2, hr]; exact srw_or hs2 hujW
    have c3 : bin .or .u64 (Int.ofNat y1) (Int.ofNat y2) = Int.ofNat z := or64 hA (by rw [hy1]; exact Nat.lt_of_le_of_lt (Nat.div_le_self _ _) hujW) (by rw [hy2]; exact Nat.mod_lt _ (by decide)) hz
    obtain ⟨r2, hr2⟩ : ∃ r2 : Nat -> Nat, r2 = fun x => if x = j then z else r1 x := ⟨_, rfl⟩
    have e11 := f5n r1 r2 j z j9 hr2
    have hr2' : r2 = fun x => if x = j then z else rs x := by
     rw [hr2, hr1]; funext x
     by_cases h : x = j
     ·simp only [if_pos h]
     ·simp only [if_neg h]
    obtain ⟨j1, hj1⟩ : ∃ j1, j1 = j + 1 := ⟨_, rfl⟩
    rw [<- hj1] at e6 e8 e9 e10 c2
    cbv
    refine reg_M (hP ▸ tblOk) hA hg (hP ▸ mixed) rfl rfl fun mk _ => ?_
    cbv
    rw [e4]
    cbv
    rw [e2, e5]
    cbv
    rw [zs]
    cbv
    rw [c1]
    cbv
    rw [e1]
    cbv
    rw [e2, e3]
    cbv
    by_cases hs0 : 0 < s
    ·rw [zg hs0]
     cbv
     refine reg_M (hP ▸ tblOk) hA hg (hP ▸ mixed) rfl rfl fun mk _ => ?_
     cbv
     rw [e1]
     cbv
     rw [e2, e7]
     cbv
     rw [e6]
     cbv
     rw [e8]
     cbv
     rw [e10, e9]
     cbv
     rw [g3]
     cbv
     rw [zr]
     cbv
     rw [c2]
     cbv
     rw [c3]
     cbv
     rw [e1]
     cbv
     rw [e2, e11]
     cbv
     rw [e6]
     refine ⟨(j1, r2), id, ⟨by show j1 <= n; omega, ?_⟩, (by show n - j1 < n - j; omega), ?_⟩
     ·show ∀ x, r2 x = if x < j1 then srw u s x else 0
      rw [hj1]
      exact rest_next hrs hzs hr2'
     ·exact wkid
    ·rw [zg' hs0]
     cbv
     rw [e6]
     refine ⟨(j1, r1), id, ⟨by show j1 <= n; omega, ?_⟩, (by show n - j1 < n - j; omega), ?_⟩
     ·show ∀ x, r1 x = if x < j1 then srw u s x else 0
      rw [hj1]
      have h0 : s = 0 := by omega
      exact rest_next hrs (by rw [hy1, h0]; exact srw_zero u j) hr1
     ·exact wkid
   ·obtain rfl : j = n := by omega
    rw [f1f j j hlt]
    cbv
    refine reg_X (hP ▸ tblOk) hA hg (hP ▸ mixed) rfl rfl ?_
    cbv
    refine hK _ _ _ ?_
    have q3 : rs = fun i => if i < j then srw u s i else 0 := funext hrs
    rw [<- q3] at q2
    rw [q1, q2]
    rfl
set_option maxHeartbeats 4000000 in
theorem cDivide18 {P : Program} (hP : P = Tryz.prog) {t : TypeId} (m d : Nat -> Nat) (n s : Nat) (hD : Dv m d n s) (w : Nat -> Nat) (k : Nat) (hw : Wn k w) (hk : k <= 18) (rq rr : Nat -> Nat) (hrq : Wn 18 rq) (hrr : Wn 9 rr) (hqV : V 18 rq = V k w / V 9 m) (hrV : V 9 rr = V k w % V 9 m) :
 Con P 159 [.ptr 0 0, .slice 1 0 k 18] [⟨0, dcells d n s, 215⟩, ⟨1, ws w 18, t⟩] 2 [] (fun v _ _ => v = .tup [.agg (ws rq 18), .agg (ws rr 9)]) := by
 refine Con.of (hP ▸ tblOk) (hP ▸ Tryz.func159) rfl rfl rfl rfl (by decide) rfl rfl (bdLB_bd _ rfl) (blks_bd rfl) ?_
 intro A g K hA hg hK
 obtain ⟨bin, sh, cmp, _, _, ix, nn, _, bnot, _, _, _, _, _, nat, off, _, _, sub⟩ := A
 have hs64 := hD.s64
 have hs2 : s <= 64 := by omega
 have en : nat k = Int.ofNat k := nat_of hA k
 have f1t : ∀ x y, x < y -> cmp .lss (Int.ofNat x) (Int.ofNat y) = true := fun x y h => lss_t hA h
 have f1f : ∀ x y, ¬ x < y -> cmp .lss (Int.ofNat x) (Int.ofNat y) = false := fun x y h => lss_f hA h
 have f2 : ∀ i, i < k -> ix (Int.ofNat i) k = some i := fun i h => ix_of hA h
 have f2u : ∀ i, i < 19 -> ix (Int.ofNat i) 19 = some i := fun i h => ix_of hA h
 have f3 : ∀ i, off 0 i 1 = i := fun i => (off_of hA 0 i 1).trans (by omega)
 have f4 := fun (f : Nat -> Nat) (i : Nat) (h : i < 18) => getW hA .u64 (n := 18) f h
 have f4u := fun (f : Nat -> Nat) (i : Nat) (h : i < 19) => getW hA .u64 (n := 19) f h
 have f5u := fun (f g : Nat -> Nat) (i v : Nat) (h : i < 19) (e : g = fun j => if j = i then v else f j) => splW hA .u64 (n := 19) f g h e
 have f6 : ∀ i, i < 19 -> bin .add .i64 (Int.ofNat i) 1 = Int.ofNat (i + 1) := fun i h => addI hA (b := 1) (by omega)
 simp only [lst, Nat.reduceAdd] at f4 f4u f5u
 have zs : nn (Int.ofNat s) = true := nn_t hA s
 have g3 : bin .sub .i64 64 (Int.ofNat s) = Int.ofNat (64 - s) := subI hA (a := 64) (b := s) (by omega) (by omega)
 have zr : nn (Int.ofNat (64 - s)) = true := nn_t hA _
 have zg : 0 < s -> cmp .gtr (Int.ofNat s) 0 = true := fun h => gtr_t hA (b := 0) h
 have zg' : ¬ 0 < s -> cmp .gtr (Int.ofNat s) 0 = false := fun h => gtr_f hA (b := 0) h
 obtain ⟨r, hr⟩ : ∃ r, r = 64 - s := ⟨_, rfl⟩
 rw [<- hr] at g3 zr
 cbv
 rw [en]
 refine loop_by (Nat × (Nat -> Nat)) (fun σ => σ.1 <= k /\ ∀ j, σ.2 j = fillw w s σ.1 j) (fun σ => k - σ.1)
  (fun σ => [(17, .int .i64 (Int.ofNat σ.1))]) [0, 1, 4, 5, 6, 7, 15, 16] (fun σ => [(4, ws σ.2 19)]) (0, fun _ => 0) ⟨Nat.zero_le _, ?_⟩ ?_ ?_
 ·intro j; show 0 = fillw w s 0 j
  unfold fillw; rw [if_neg (Nat.not_lt_zero _)]; split <;> rfl
 ·exact wkid
 rintro ⟨i, u⟩ ⟨hi, hu0⟩
 have hi : i <= k := hi
 have hu : ∀ j, u j = fillw w s i j := hu0
 clear hu0
 cbv
 by_cases hlt : i < k
 ·rw [f1t i k hlt]
  cbv
  rw [f2 i hlt]
  cbv
  rw [f3 i, f4 w i (by omega)]
  cbv
  refine reg_M (hP ▸ tblOk) hA hg (hP ▸ mixed) rfl rfl fun mk _ => ?_
  cbv
  obtain ⟨w1, hw1⟩ : ∃ x, x = w i * 2 ^ s % 18446744073709551616 := ⟨_, rfl⟩
  have hw1W : w1 < 18446744073709551616 := by rw [hw1]; exact Nat.mod_lt _ (by decide)
  obtain ⟨z, hz⟩ : ∃ x, x = shw w s i := ⟨_, rfl⟩
  have hui := hu i
  have c1 : sh .shl .u64 (Int.ofNat (w i)) (Int.ofNat s) = Int.ofNat w1 := shl64 hA hs2 hw1
  have c2 : bin .or .u64 (Int.ofNat (u i)) (Int.ofNat w1) = Int.ofNat z := or64 hA (by rw [hui]; exact fill_lt hs2 hw hlt) hw1W (by rw [hui, hz, hw1]; exact (fill_or hs2 hw hlt).symm)
  obtain ⟨u1, hu1⟩ : ∃ u1 : Nat -> Nat, u1 = fun j => if j = i then z else u j := ⟨_, rfl⟩
  have i19 : i < 19 := by omega
  have j19 : i + 1 < 19 := by omega
  have e1 := f2u i i19
  have e2 := f3 i
  have e3 := f5u u u1 i z i19 hu1
  have e6 := f6 i i19
  have e7 := f2u (i + 1) j19
  have e8 := f3 (i + 1)
  obtain ⟨y, hy⟩ : ∃ y, y = w i / 2 ^ r := ⟨_, rfl⟩
  have c3 : sh .shr .u64 (Int.ofNat (w i)) (Int.ofNat r) = Int.ofNat y := shr64 hA (by omega) hy
  obtain ⟨u2, hu2⟩ : ∃ u2 : Nat -> Nat, u2 = fun j => if j = i + 1 then y else u1 j := ⟨_, rfl⟩
  have e9 := f5u u1 u2 (i + 1) y j19 hu2
  obtain ⟨i1, hi1⟩ : ∃ i1, i1 = i + 1 := ⟨_, rfl⟩
  rw [<- hi1] at e6 e7 e8 e9
  rw [e1]
  cbv
  rw [e2, f4u u i i19]
  cbv
  rw [zs]
  cbv
  rw [c1]
  cbv
  rw [c2]
  cbv
  rw [e1]
  cbv
  rw [e2, e3]
  cbv
  by_cases hs0 : 0 < s
  ·rw [zg hs0]
   cbv
   rw [e6, g3]
   cbv
   rw [zr]
   cbv
   rw [c3]
   cbv
   rw [e7]
   cbv
   rw [e8, e9]
   cbv
   rw [e6]
   refine ⟨(i1, u2), id, ⟨by show i1 <= k; omega, ?_⟩, (by show k - i1 < k - i; omega), ?_⟩
   ·show ∀ j, u2 j = fillw w s i1 j
    rw [hi1]
    rw [hz] at hu1
    rw [hy, hr] at hu2
    exact fill_next hs2 hu hu1 hu2
   ·exact wkid
  ·rw [zg' hs0]
   cbv
   rw [e6]
   refine ⟨(i1, u1), id, ⟨by show i1 <= k; omega, ?_⟩, (by show k - i1 < k - i; omega), ?_⟩
   ·show ∀ j, u1 j = fillw w s i1 j
    rw [hi1]
    rw [hz] at hu1
    exact fill_next0 hw hlt (by omega) hu hu1
   ·exact wkid
 ·obtain rfl : i = k := by omega
  rw [f1f i i hlt]
  cbv
  obtain ⟨hu19, hU⟩ := fill_end hs2 hw (by omega) hu
  obtain ⟨D, hDe⟩ : ∃ D, D = V n d := ⟨_, rfl⟩
  obtain ⟨M, hM⟩ : ∃ M, M = V 9 m := ⟨_, rfl⟩
  have hDM : D = M * 2 ^ s := by rw [hDe, hD.val, hM, V_used hD.used]
  have hn9 := hD.used.1
  have hn0 := hD.n0
  have hdn : Wn n d := fun j hj => hD.w j (by omega)
  have hDP : D <= 18446744073709551616 ^ n := by rw [hDe]; exact Nat.le_of_lt (V_lt hdn)
  obtain ⟨W, hW⟩ : ∃ W, W = V i w := ⟨_, rfl⟩
  rw [<- hW] at hU hqV hrV
  rw [<- hM] at hqV hrV
  have hst : ∀ t, i <= n - 1 + t -> W * 2 ^ s < D * 18446744073709551616 ^ t := fun t ht => start_lt (by rw [hW]; exact V_lt hw) hn0 hD.top hDe hs64 ht
  have hD0 : 0 < D := by
   have := hst i (by omega)
   rcases Nat.eq_zero_or_pos D with h | h
   ·rw [h, Nat.zero_mul] at this; exact absurd this (Nat.not_lt_zero _)
   ·exact h
  have g5 : bin .sub .i64 (Int.ofNat i) (Int.ofNat n) = Int.ofNat i - Int.ofNat n := subZ hA (by omega) (by omega)
  rw [en]
  obtain ⟨iv0, hiv0⟩ : ∃ z, z = Int.ofNat i - Int.ofNat n := ⟨_, rfl⟩
  rw [<- hiv0] at g5
  rw [g5]
  refine loop_by (Nat × Int × (Nat -> Nat) × (Nat -> Nat)) (fun σ => (σ.1 = 0 /\ σ.2.1 < 0 \/ 0 < σ.1 /\ σ.2.1 = Int.ofNat σ.1 - 1 /\ σ.1 + n <= i + 1) /\ Wn 19 σ.2.2.1 /\ Wn 18 σ.2.2.2 /\ (∀ j, j < σ.1 -> σ.2.2.2 j = 0) /\ V 19 σ.2.2.1 + V 18 σ.2.2.2 * D = W * 2 ^ s /\ V 19 σ.2.2.1 < D * 18446744073709551616 ^ σ.1) (fun σ => σ.1)
   (fun σ => [(10, .int .i64 σ.2.1)]) [0, 4, 5, 6, 7] (fun σ => [(4, ws σ.2.2.1 19), (5, ws σ.2.2.2 18)]) (i + 1 - n, iv0, u, fun _ => 0) ⟨?_, hu19, ?_, fun _ _ => rfl, ?_, ?_⟩ ?_ ?_
  ·show (i + 1 - n = 0 /\ iv0 < 0 \/ 0 < i + 1 - n /\ iv0 = Int.ofNat (i + 1 - n) - 1 /\ i + 1 - n + n <= i + 1)
   rw [hiv0]
   simp only [Int.ofNat_eq_natCast]
   omega
  ·intro j _; show 0 < _; decide
  ·show V 19 u + V 18 (fun _ => 0) * D = W * 2 ^ s
   have : V 18 (fun _ => 0) = 0 := by simp [V, Dg.num]
   rw [this, Nat.zero_mul, hU]; rfl
  ·show V 19 u < _
   rw [hU]; exact hst _ (by omega)
  ·exact wkid
  clear hu hu19 hU
  rintro ⟨t, iv, u, q⟩ ⟨ht', hu', hq', hq0', hR', hlt'⟩
  have ht : t = 0 /\ iv < 0 \/ 0 < t /\ iv = Int.ofNat t - 1 /\ t + n <= i + 1 := ht'
  have hu : Wn 19 u := hu'
  have hq : Wn 18 q := hq'
  have hq0 : ∀ j, j < t -> q j = 0 := hq0'
  have hR : V 19 u + V 18 q * D = W * 2 ^ s := hR'
  have hlt2 : V 19 u < D * 18446744073709551616 ^ t := hlt'
  clear ht' hu' hq' hq0' hR' hlt'
  by_cases hiv : 0 <= iv
  ·obtain ⟨a, rfl⟩ : ∃ a, t = a + 1 := ⟨t - 1, by omega⟩
   obtain rfl : iv = Int.ofNat a := by
    rcases ht with h | h
    ·exact absurd h.1 (Nat.succ_ne_zero a)
    ·rw [h.2.1]; exact Int.add_sub_cancel (a : Int) 1
   cbv
   rw [show cmp .geq (Int.ofNat a) 0 = true from geq_t hA (b := 0) (Nat.zero_le _)]
   cbv
   obtain ⟨p, hp⟩ : ∃ p, n = p + 1 := ⟨n - 1, by omega⟩
   have han : a + n < 19 := by
    rcases ht with h | h
    ·exact absurd h.1 (Nat.succ_ne_zero a)
    ·have := h.2.2; omega
   have hani : a + 1 + n <= i + 1 := by
    rcases ht with h | h
    ·exact absurd h.1 (Nat.succ_ne_zero a)
    ·exact h.2.2
   clear ht hiv
   obtain ⟨X, hX⟩ : ∃ X, X = Vw a (n + 1) u := ⟨_, rfl⟩
   obtain ⟨Qd, hQd⟩ : ∃ Q, Q = X / D := ⟨_, rfl⟩
   have hQD : Qd * D <= X := by rw [hQd]; exact Nat.div_mul_le_self X D
   have hQW : Qd < 18446744073709551616 := by rw [hQd, hX]; exact quo_lt (by omega) hD0 hDP hlt2
   have hG := cGuess hP (t := 271) d u p s a Qd hD.w hu (by omega) (by omega) (by have := hD.top; rw [hp, Nat.add_sub_cancel] at this; omega) (by rw [<- hp, <- hDe, show p + 2 = n + 1 by omega, <- hX]; exact hQD) hQW
   rw [<- hp] at hG
   refine step_slice hg rfl rfl rfl rfl rfl (slr_arr (hP ▸ tblOk) (show tyT 271 = some _ from rfl) rfl _ _) ?_
   cbv
   refine call_ro rfl hg rfl rfl hG (fun l => 4 * l) rfl ⟨rfl, rfl, trivial⟩ ?_
   rintro _ _ _ ⟨x0, hx1, hx2, rfl⟩
   cbv
   refine step_slice hg rfl rfl rfl rfl rfl (slr_arr (hP ▸ tblOk) (show tyT 271 = some _ from rfl) rfl _ _) ?_
   cbv
   refine call_gen rfl hg rfl rfl (cTake hP (t := 271) d u n s a x0 hD.w hu hn9 han hx2) (fun l => 4 * l) rfl ⟨rfl, rfl, trivial⟩ rfl rfl rfl ?_
   rintro _ _ _ ⟨u1, c0, hu1, hc0, hf1, ht1, rfl, rfl, rfl⟩ _
   cbv
   rw [<- hX, <- hDe] at ht1
   have f2q : ix (Int.ofNat a) 18 = some a := ix_of hA (by omega)
   have g6 : bin .sub .i64 (Int.ofNat a) 1 = Int.ofNat a - 1 := subZ hA (b := 1) (by omega) (by omega)
   obtain ⟨iv', hiv'⟩ : ∃ z, z = Int.ofNat a - 1 := ⟨_, rfl⟩
   rw [<- hiv'] at g6
   have f3a := f3 a
   refine loop_by (Nat × Nat × (Nat -> Nat)) (fun σ => Wn 19 σ.2.2 /\ σ.1 < 18446744073709551616 /\ σ.2.1 <= 1 /\ Qd <= σ.1 /\ (∀ j, j < a \/ a + n < j -> σ.2.2 j = u j) /\ Vw a (n + 1) σ.2.2 + σ.1 * D = X + σ.2.1 * 18446744073709551616 ^ (n + 1)) (fun σ => σ.1)
    (fun σ => [(11, .int .u64 (Int.ofNat σ.1)), (12, .bool (decide (σ.2.1 = 1)))]) [0, 4, 5, 6, 7, 10] (fun σ => [(4, ws σ.2.2 19)]) (x0, c0, u1) ⟨hu1, hx2, hc0, hx1, hf1, ht1⟩ ?_ ?_
   ·exact wkid
   clear ht1 hf1 hu1 hc0 hx1 hx2 hG
   rintro ⟨x, c, v⟩ ⟨hv', hx', hc', hQx', hf', he'⟩
   have hv : Wn 19 v := hv'
   have hx : x < 18446744073709551616 := hx'
   have hc : c <= 1 := hc'
   have hQx : Qd <= x := hQx'
   have hf : ∀ j, j < a \/ a + n < j -> v j = u j := hf'
   have he : Vw a (n + 1) v + x * D = X + c * 18446744073709551616 ^ (n + 1) := he'
   clear hv' hx' hc' hQx' hf' he'
   by_cases hc1 : c = 1
   ·obtain rfl : c = 1 := hc1
    rw [Nat.one_mul] at he
    have hlt : Qd < x := digit_much (Vw_lt hv (by omega)) he hQd
    obtain ⟨y, hy⟩ : ∃ y, x = y + 1 := ⟨x - 1, by omega⟩
    have e1 : bin .sub .u64 (Int.ofNat x) 1 = Int.ofNat y := sub64 hA (a := x) (b := 1) (by decide) (by omega)
    cbv
    rw [e1]
    refine step_slice hg rfl rfl rfl rfl rfl (slr_arr (hP ▸ tblOk) (show tyT 271 = some _ from rfl) rfl _ _) ?_
    cbv
    refine call_gen rfl hg rfl rfl (cBack hP (t := 271) d v n s a hD.w hv hn9 han) (fun l => 4 * l) rfl ⟨rfl, rfl, trivial⟩ rfl rfl rfl ?_
    rintro _ _ _ ⟨v1, c1, hv1, hc1, hf1, ht1, rfl, rfl, rfl⟩ _
    rw [<- hDe] at ht1
    obtain ⟨c2, hc2⟩ : ∃ c2, c2 = 1 - c1 := ⟨_, rfl⟩
    have e2 : bnot (decide (c1 = 1)) = decide (c2 = 1) := by
     refine (bnot_of hA _).trans ?_
     rw [hc2]
     obtain h | h : c1 = 0 \/ c1 = 1 := by omega
     ·rw [h]; rfl
     ·rw [h]; rfl
    have he2 := digit_back he hy ht1 hc1
    rw [<- hc2] at he2
    obtain ⟨b1, hb1⟩ : ∃ b, b = decide (c1 = 1) := ⟨_, rfl⟩
    obtain ⟨b2, hb2⟩ : ∃ b, b = decide (c2 = 1) := ⟨_, rfl⟩
    rw [<- hb1, <- hb2] at e2
    rw [<- hb1]
    cbv
    rw [e2]
    refine ⟨(y, c2, v1), id, ⟨hv1, (by show y < _; omega), (by show c2 <= 1; omega), (by show Qd <= y; omega), ?_, he2⟩, (by show y < x; omega), ?_⟩
    ·intro j hj
     exact (hf1 j hj).trans (hf j hj)
    ·rw [hb2]
     exact wkid
   ·obtain rfl : c = 0 := by omega
    rw [Nat.zero_mul, Nat.add_zero] at he
    obtain ⟨q1, hq1⟩ : ∃ q1 : Nat -> Nat, q1 = fun j => if j = a then x else q j := ⟨_, rfl⟩
    have e3 := splW hA .u64 (n := 18) q q1 (k := a) (v := x) (by omega) hq1
    simp only [lst, Nat.reduceAdd] at e3
    obtain ⟨k1, k2⟩ := at_step (N := 19) (D := D) hu (by omega) hD0 hDP hlt2 hf (by rw [he, hX]; exact Nat.add_zero _) (by rw [<- hX, <- hQd]; exact hQx)
    have k3 := V_put (x := x) (q := q) (i := a) (N := 18) (by omega) (hq0 a (Nat.lt_succ_self a))
    rw [<- hq1] at k3
    cbv
    rw [f2q]
    cbv
    rw [f3a, e3]
    cbv
    rw [g6]
    refine ⟨(a, iv', v, q1), id, ⟨?_, hv, ?_, ?_, add_dig hR k1 k3, k2⟩, (by show a < a + 1; omega), ?_⟩
    ·show a = 0 /\ iv' < 0 \/ 0 < a /\ iv' = Int.ofNat a - 1 /\ a + n <= i + 1
     rw [hiv']
     rcases Nat.eq_zero_or_pos a with h | h
     ·exact Or.inl ⟨h, by rw [h]; decide⟩
     ·exact Or.inr ⟨h, rfl, by omega⟩
    ·intro j hj
     show q1 j < _
     rw [hq1]
     by_cases hja : j = a
     ·simp only [hja, if_pos]; exact hx
     ·simp only [if_neg hja]; exact hq j hj
    ·intro j hj
     have hj : j < a := hj
     show q1 j = 0
     rw [hq1]
     exact (if_neg (by omega)).trans (hq0 j (by omega))
    ·exact wkid
  ·obtain rfl : t = 0 := by
    rcases ht with h | h
    ·exact h.1
    ·exact absurd (show 0 <= iv by rw [h.2.1]; have := h.1; show (0 : Int) <= (t : Int) - 1; omega) hiv
   cbv
   rw [show cmp .geq iv 0 = false from (congrFun (congrFun (congrFun (cmp_of hA) .geq) iv) 0).trans (decide_eq_false hiv)]
   cbv
   clear ht hiv
   rw [Nat.pow_zero, Nat.mul_one] at hlt2
   rw [hDM] at hR
   obtain ⟨k1, k2⟩ := fin_div (Nat.pow_pos (by decide)) hR (by rw [<- hDM]; exact hlt2)
   obtain ⟨k3, k4⟩ := rest_of hu hs64 hn9 hDP hlt2 k2
   have q1 : ws rq 18 = ws q 18 := V_inj hrq hq (hqV.trans k1.symm)
   have q2 : ws rr 9 = ws (fun i => if i < n then srw u s i else 0) 9 := V_inj hrr k3 (hrV.trans k4.symm)
   clear k1 k2 k3 k4 hR hlt2
   have f2n : ∀ j, j < 9 -> ix (Int.ofNat j) 9 = some j := fun j h => ix_of hA h
   have f4n := fun (f : Nat -> Nat) (j : Nat) (h : j < 9) => getW hA .u64 (n := 9) f h
   have f5n := fun (f g : Nat -> Nat) (j v : Nat) (h : j < 9) (e : g = fun x => if x = j then v else f x) => splW hA .u64 (n := 9) f g h e
   simp only [lst, Nat.reduceAdd] at f4n f5n
   refine loop_by (Nat × (Nat -> Nat)) (fun σ => σ.1 <= n /\ ∀ j, σ.2 j = if j < σ.1 then srw u s j else 0) (fun σ => n - σ.1)
    (fun σ => [(85, .int .i64 (Int.ofNat σ.1))]) [0, 4, 5, 6, 7, 13, 84] (fun σ => [(6, ws σ.2 9)]) (0, fun _ => 0) ⟨Nat.zero_le _, ?_⟩ ?_ ?_
   ·intro j; exact (if_neg (Nat.not_lt_zero _)).symm
   ·exact wkid
   rintro ⟨j, rs⟩ ⟨hj', hrs'⟩
   have hj : j <= n := hj'
   have hrs : ∀ x, rs x = if x < j then srw u s x else 0 := hrs'
   clear hj' hrs'
   cbv
   by_cases hlt : j < n
   ·rw [f1t j n hlt]
    have j9 : j < 9 := by omega
    obtain ⟨y1, hy1⟩ : ∃ y, y = u j / 2 ^ s := ⟨_, rfl⟩
    have c1 : sh .shr .u64 (Int.ofNat (u j)) (Int.ofNat s) = Int.ofNat y1 := shr64 hA hs2 hy1
    obtain ⟨r1, hr1⟩ : ∃ r1 : Nat -> Nat, r1 = fun x => if x = j then y1 else rs x := ⟨_, rfl⟩
    have e1 := f2n j j9
    have e2 := f3 j
    have e3 := f5n rs r1 j y1 j9 hr1
    have e4 := f2u j (by omega)
    have e5 := f4u u j (by omega)
    have e6 := f6 j (by omega)
    have e7 := f4n r1 j j9
    have e8 := f2u (j + 1) (by omega)
    have e9 := f4u u (j + 1) (by omega)
    have e10 := f3 (j + 1)
    obtain ⟨y2, hy2⟩ : ∃ y, y = u (j + 1) * 2 ^ r % 18446744073709551616 := ⟨_, rfl⟩
    have c2 : sh .shl .u64 (Int.ofNat (u (j + 1))) (Int.ofNat r) = Int.ofNat y2 := shl64 hA (by omega) hy2
    have hujW : u j < 18446744073709551616 := hu j (by omega)
    have hr1j : r1 j = y1 := by rw [hr1]; exact if_pos rfl
    rw [hr1j] at e7
    obtain ⟨z, hz⟩ : ∃ y, y = y1 ||| y2 := ⟨_, rfl⟩
    have hzs : z = srw u s j := by rw [hz, hy1, hy2, hr]; exact srw_or hs2 hujW
    have c3 : bin .or .u64 (Int.ofNat y1) (Int.ofNat y2) = Int.ofNat z := or64 hA (by rw [hy1]; exact Nat.lt_of_le_of_lt (Nat.div_le_self _ _) hujW) (by rw [hy2]; exact Nat.mod_lt _ (by decide)) hz
    obtain ⟨r2, hr2⟩ : ∃ r2 : Nat -> Nat, r2 = fun x => if x = j then z else r1 x := ⟨_, rfl⟩
    have e11 := f5n r1 r2 j z j9 hr2
    have hr2' : r2 = fun x => if x = j then z else rs x := by
     rw [hr2, hr1]; funext x
     by_cases h : x = j
     ·simp only [if_pos h]
     ·simp only [if_neg h]
    obtain ⟨j1, hj1⟩ : ∃ j1, j1 = j + 1 := ⟨_, rfl⟩
    rw [<- hj1] at e6 e8 e9 e10 c2
    cbv
    refine reg_M (hP ▸ tblOk) hA hg (hP ▸ mixed) rfl rfl fun mk _ => ?_
    cbv
    rw [e4]
    cbv
    rw [e2, e5]
    cbv
    rw [zs]
    cbv
    rw [c1]
    cbv
    rw [e1]
    cbv
    rw [e2, e3]
    cbv
    by_cases hs0 : 0 < s
    ·rw [zg hs0]
     cbv
     refine reg_M (hP ▸ tblOk) hA hg (hP ▸ mixed) rfl rfl fun mk _ => ?_
     cbv
     rw [e1]
     cbv
     rw [e2, e7]
     cbv
     rw [e6]
     cbv
     rw [e8]
     cbv
     rw [e10, e9]
     cbv
     rw [g3]
     cbv
     rw [zr]
     cbv
     rw [c2]
     cbv
     rw [c3]
     cbv
     rw [e1]
     cbv
     rw [e2, e11]
     cbv
     rw [e6]
     refine ⟨(j1, r2), id, ⟨by show j1 <= n; omega, ?_⟩, (by show n - j1 < n - j; omega), ?_⟩
     ·show ∀ x, r2 x = if x < j1 then srw u s x else 0
      rw [hj1]
      exact rest_next hrs hzs hr2'
     ·exact wkid
    ·rw [zg' hs0]
     cbv
     rw [e6]
     refine ⟨(j1, r1), id, ⟨by show j1 <= n; omega, ?_⟩, (by show n - j1 < n - j; omega), ?_⟩
     ·show ∀ x, r1 x = if x < j1 then srw u s x else 0
      rw [hj1]
      have h0 : s = 0 := by omega
      exact rest_next hrs (by rw [hy1, h0]; exact srw_zero u j) hr1
     ·exact wkid
   ·obtain rfl : j = n := by omega
    rw [f1f j j hlt]
    cbv
    refine reg_X (hP ▸ tblOk) hA hg (hP ▸ mixed) rfl rfl ?_
    cbv
    refine hK _ _ _ ?_
    have q3 : rs = fun i => if i < j then srw u s i else 0 := funext hrs
    rw [<- q3] at q2
    rw [q1, q2]
    rfl
end Go.Proofs.YtdhmihfefgcbeaaGreat
end
section
namespace Go.Vg
open Go.RowKit
section
variable {P : Program} {g : G}
theorem find_rho {ρ : Nat -> Nat} {n0 n l : Nat} {c : Blk} {NB : LL} (h : find (renB (rho ρ n0 n) NB) l = some c) : ∃ b ∈ NB, find NB b.l = some b /\ rho ρ n0 n b.l = l /\ c = ⟨rho ρ n0 n b.l, renL (rho ρ n0 n) b.cs, b.t⟩ := find_renB h
theorem renB_mem {ρ : Nat -> Nat} {NB : LL} {b : Blk} (h : b ∈ NB) : ∃ c ∈ renB ρ NB, c.l = ρ b.l := by
 induction NB with
 | nil => cases h
 | cons d NB ih =>
   rcases List.mem_cons.1 h with rfl | h
   ·exact ⟨_, List.mem_cons_self, rfl⟩
   ·obtain ⟨c, hc, e⟩ := ih h
    exact ⟨c, List.mem_cons_of_mem _ hc, e⟩
theorem en_new {o : Oper} {c : Call} (ho : o.op = .call c) {m0 N : Nat} {ms : List Nat} (hg : GI g m0 ms N) (hd' : dstLt N o.dst = true) {F : Nat -> Option SV} {f : FuncId} {us args : List SV} (hc : callee F c = some (f, us)) {Lp : LL} {n0 : Nat} {R : SV -> LL -> Nat -> Prop} (hcon : Con P f args Lp n0 [] R)
 (ρ : Nat -> Nat) (hus : us = renL ρ args) {M : Nat -> Option Blk} (hft : foot ρ M Lp) (hcov : below (fun l => memN (Lp.map Blk.l) l) n0 = true) {val : SV} {NB : LL} {n n1 : Nat}
 (hv : ∀ v L1 k, R v L1 k -> v = val /\ L1 = Lp ++ NB /\ k = n1) (hN : (NB.all fun b => Nat.ble n0 b.l) = true) (hLp : (Lp.all fun b => Nat.blt b.l n0) = true) (hcv : ∀ l, n0 <= l -> l < n1 -> ∃ b ∈ NB, b.l = l) :
 EN g P o F M (ren (rho ρ n0 n) val) (renB (rho ρ n0 n) NB) := by
 have hd := hg.dst hd'
 obtain ⟨hcb, hcon⟩ := hcon
 refine ⟨?_⟩
 intro β p F' L' a W hF hM hfr hm hf next Q hnext
 obtain ⟨r1, r2⟩ := callee_run (P := P) (W := W) hf ho ((callee_congr ho hF).trans hc) hcb
 unfold Oper.wp
 rw [r1, Oper.upon_enter]
 have hft' : foot ρ L' Lp := by
  clear hus hcv hLp hN hv hcov hcon
  induction Lp with
  | nil => trivial
  | cons b Lp ih => exact ⟨hM _ _ hft.1, ih hft.2⟩
 have hden : denL β us = denL (fun l => β (ρ l)) args := by rw [hus, denL_ren]
 rw [hden]
 refine (hcon (fun l => β (ρ l)) W (foot_pre hm hft' (injB_nil ρ Lp) (fun m h => by cases h))).mono ?_
 rintro e W' ⟨v, L1, k, β1, hR, rfl, hbv, hm1⟩
 obtain ⟨rfl, rfl, rfl⟩ := hv v L1 k hR
 have hN' : ∀ b ∈ NB, n0 <= b.l := fun b hb => Nat.le_of_ble_eq_true (List.all_eq_true.1 hN b hb)
 have hρp : ∀ l, l < n0 -> p (ρ l) := fun l hl => by
  obtain ⟨b, hb, e⟩ := List.mem_map.1 (memN_mem (below_at (f := fun l => memN (Lp.map Blk.l) l) hcov hl))
  have := hm.bL _ _ (foot_mem hft' hb)
  rw [e] at this; exact this.1
 let nw := renB (rho ρ n0 n) NB
 have hnp : ∀ b ∈ NB, ¬ p (rho ρ n0 n b.l) := fun b hb => by
  obtain ⟨c', hc', e⟩ := renB_mem (ρ := rho ρ n0 n) hb
  rw [<- e]; exact hfr c' hc'
 obtain ⟨γ, hg1, hg2⟩ : ∃ γ : Nat -> Nat, (∀ l, p l -> γ l = β l) /\ ∀ b ∈ NB, γ (rho ρ n0 n b.l) = β1 b.l := by
  classical
  refine ⟨fun l => if p l then β l else β1 (n0 + (l - n)), fun l hl => if_pos hl, fun b hb => ?_⟩
  show (if p _ then _ else _) = _
  rw [if_neg (hnp b hb), rho_ge (hN' b hb)]
  congr 1
  have := hN' b hb
  omega
 have hγ : ∀ l, l < k -> γ (rho ρ n0 n l) = β1 l := by
  intro l hl
  by_cases h : l < n0
  ·rw [rho_lt h, hg1 _ (hρp l h)]; exact (hm1.old l h).symm
  ·obtain ⟨b, hb, e⟩ := hcv l (by omega) hl
   rw [<- e]; exact hg2 b hb
 have hlt : ∀ l, l < k -> (p (rho ρ n0 n l) \/ ∃ b ∈ nw, b.l = rho ρ n0 n l) := by
  intro l hl
  by_cases h : l < n0
  ·rw [rho_lt h]; exact Or.inl (hρp l h)
  ·obtain ⟨b, hb, e⟩ := hcv l (by omega) hl
   obtain ⟨c', hc', e2⟩ := renB_mem (ρ := rho ρ n0 n) hb
   exact Or.inr ⟨c', hc', by rw [e2, e]⟩
 have hcase : ∀ l b, addN L' nw l = some b -> (L' l = some b) \/ (∃ b1 ∈ NB, find (Lp ++ NB) b1.l = some b1 /\ l = rho ρ n0 n b1.l /\ b = ⟨rho ρ n0 n b1.l, renL (rho ρ n0 n) b1.cs, b1.t⟩) := by
  intro l b h
  unfold addN at h
  cases hq : L' l with
  | some c => rw [hq] at h; exact Or.inl h
  | none =>
    rw [hq] at h
    obtain ⟨b1, h1, h2, h3, h4⟩ := find_rho h
    refine Or.inr ⟨b1, h1, ?_, h3.symm, h4⟩
    rw [find_append]
    cases hl : find Lp b1.l with
    | none => exact h2
    | some d =>
      obtain ⟨d1, d2⟩ := find_mem hl
      have h5 := Nat.le_of_ble_eq_true (show Nat.ble (d.l + 1) n0 = true from List.all_eq_true.1 hLp d d1)
      have := hN' b1 h1
      omega
 have hup := hm1.up
 have hnm : ∀ i, ¬ G.mod ⟨W, fun l => β (ρ l), n0, 0, []⟩ i := by rintro i ⟨l, hl, _⟩; cases hl
 have hnew : ∀ b1 ∈ NB, find (Lp ++ NB) b1.l = some b1 -> W.heap.size <= β1 b1.l := fun b1 hb1 h => by
  rcases hm1.new b1.l b1 h (hN' b1 hb1) with h1 | h1
  ·exact h1
  ·exact (hnm _ h1).elim
 have hmβ := hm.call hup hnm
 have hdv : den γ (ren (rho ρ n0 n) v) = den β1 v := by rw [den_ren]; exact den_congr hγ v hbv
 rw [<- hdv]
 refine hnext γ _ W' ⟨?_, ?_, ?_, ?_, ?_, ?_, hmβ.up⟩ ((hf.mono hg1 (fun l hl => Or.inl hl)).put hd (bd_ren hlt v hbv))
 ·exact fun l hl => Or.inl (hm.low l hl)
 ·intro l hl; rw [hg1 l (hm.low l hl)]; exact hm.old l hl
 ·intro l b hb hl
  rcases hcase l b hb with h1 | ⟨b1, hb1, hf1, rfl, rfl⟩
  ·rw [hg1 _ (hm.bL l b h1).1]; exact hm.new l b h1 hl
  ·rw [hg2 b1 hb1]; exact Or.inl (Nat.le_trans hm.up.size (hnew b1 hb1 hf1))
 ·intro l b l' b' hb hb' hown e
  rcases hcase l b hb with h1 | ⟨b1, hb1, hf1, rfl, rfl⟩ <;> rcases hcase l' b' hb' with k1 | ⟨c1, hc1, hf2, rfl, rfl⟩
  ·rw [hg1 _ (hm.bL l b h1).1, hg1 _ (hm.bL l' b' k1).1] at e
   exact hm.inj l b l' b' h1 k1 hown e
  ·rw [hg1 _ (hm.bL l b h1).1, hg2 c1 hc1] at e
   obtain ⟨_, _, hcell⟩ := hm.cell l b h1
   have := block_lt hcell
   have := hnew c1 hc1 hf2
   omega
  ·rw [hg1 _ (hm.bL l' b' k1).1, hg2 b1 hb1] at e
   obtain ⟨_, _, hcell⟩ := hm.cell l' b' k1
   have := block_lt hcell
   have := hnew b1 hb1 hf1
   omega
  ·rw [hg2 b1 hb1, hg2 c1 hc1] at e
   rw [hm1.inj _ _ _ _ hf1 hf2 (by
    show own n0 [] b1.l = true
    unfold own
    rw [Nat.ble_eq_true_of_le (hN' b1 hb1)]) e]
 ·intro l b hb
  rcases hcase l b hb with h1 | ⟨b1, hb1, hf1, rfl, rfl⟩
  ·obtain ⟨m, h2, h3⟩ := hmβ.cell l b h1
   refine ⟨m, h2, ?_⟩
   rw [hg1 _ (hm.bL l b h1).1, denL_congr (p := p) (fun l hl => hg1 l hl) b.cs (hm.bL l b h1).2]
   exact h3
  ·obtain ⟨m, h2, h3⟩ := hm1.cell b1.l b1 hf1
   refine ⟨m, fun _ => ?_, ?_⟩
   ·rw [renL_length]
    refine h2 ?_
    show own n0 [] b1.l = true
    unfold own
    rw [Nat.ble_eq_true_of_le (hN' b1 hb1)]
   ·rw [hg2 b1 hb1]
    rw [denL_ren, denL_congr hγ b1.cs (hm1.bL _ _ hf1).2]
    exact h3
 ·intro l b hb
  rcases hcase l b hb with h1 | ⟨b1, hb1, hf1, rfl, rfl⟩
  ·exact ⟨Or.inl (hm.bL l b h1).1, bdL_mono (fun _ h => Or.inl h) _ (hm.bL l b h1).2⟩
  ·obtain ⟨c', hc', e2⟩ := renB_mem (ρ := rho ρ n0 n) hb1
   exact ⟨Or.inr ⟨c', hc', e2⟩, bdL_ren hlt _ (hm1.bL _ _ hf1).2⟩
theorem en_s2ap {T : Nat -> Option Ty} (hT : TOk P T) {o : Oper} {m0 N : Nat} {ms : List Nat} (hg : GI g m0 ms N) (hd' : dstLt N o.dst = true) {x : Operand} {t : Nat} (ho : o.op = .sliceToArrayPointer t x) {F : Nat -> Option SV} {M : Nat -> Option Blk} {l q k c m e es : Nat} {ag : Bool} {i : Ty}
 (ht : T t = some i) (hd : i.d = .ar m e es ag) (hx : ev F x = some (.slice l q k c)) (hk : m <= k) : EN g P o F M (.ptr l q) [] := by
 obtain ⟨hu, hm, _⟩ := arr_facts hT ht hd
 refine en_out hg hd' fun β p F' L' a W hF hM hm' hf => ?_
 have E : ∀ z ∈ o.op.operands.toList, ev F' z = ev F z := fun z hz => ev_congr fun t ht => hF t (tmpsL_mem hz ht)
 rw [ho] at E
 obtain ⟨e1, b1⟩ := ev_sound hf ((E x (by simp [Op.operands])).trans hx)
 refine ⟨?_, b1⟩
 have e2 : a.eval x = .slice (some ⟨β l, q, none⟩) k c := e1
 have h : (Instr.arrayAt t (.slice (some ⟨β l, q, none⟩) k c)).run P W = .ok (.pointer (some ⟨β l, q, none⟩)) W := by
  unfold Instr.arrayAt
  simp only [Sem.run_bind, run_underlying hu, Result.andThen_ok]
  rw [if_neg (by rw [hm]; omega)]
  rfl
 unfold execOp
 simp only [ho, e2, Sem.run_bind, h, Result.andThen_ok, Sem.run_pure, den]
theorem stepDn {o : Oper} {F : FF} {M : LL} {n n' : Nat} {K : SV -> LL -> Nat -> Prop} {v : SV} {nw : LL} (h : EN g P o (look F) (selM o (find M)) v nw) (hn : n <= n') (hb : (nw.all fun b => Nat.ble n b.l && Nat.blt b.l n') = true) (hd : (nw.map Blk.l).Nodup) (hk : K v nw n') : StepD g P o F M n K := by
 refine ⟨v, nw, n', h, hn, fun b hb' => ?_, hd, hk⟩
 have := List.all_eq_true.1 hb b hb'
 simp only [Bool.and_eq_true] at this
 exact ⟨Nat.le_of_ble_eq_true this.1, Nat.le_of_ble_eq_true this.2⟩
end
end Go.Vg
end
section
namespace Go.Proofs.YtdhmihfefgcbeaaGreat
open Go.Vg Go.RowKit
set_option maxRecDepth 200000
set_option cbv.maxSteps 100000000
def vals9 (f : Nat -> Nat) : Array Value := #[.int .u64 (Int.ofNat (f 0)), .int .u64 (Int.ofNat (f 1)), .int .u64 (Int.ofNat (f 2)), .int .u64 (Int.ofNat (f 3)), .int .u64 (Int.ofNat (f 4)), .int .u64 (Int.ofNat (f 5)), .int .u64 (Int.ofNat (f 6)), .int .u64 (Int.ofNat (f 7)), .int .u64 (Int.ofNat (f 8))]
theorem nine9 {k : Nat} (h : k < 9) : k = 0 \/ k = 1 \/ k = 2 \/ k = 3 \/ k = 4 \/ k = 5 \/ k = 6 \/ k = 7 \/ k = 8 := by omega
theorem vals9_get (f : Nat -> Nat) (k : Nat) (h : k < 9) : (vals9 f)[k]? = some (.int .u64 (Int.ofNat (f k))) := by
 rcases nine9 h with rfl | rfl | rfl | rfl | rfl | rfl | rfl | rfl | rfl <;> rfl
def eq9 (f g : Nat -> Nat) : Bool := (List.range 9).all fun k => Int.ofNat (f k) == Int.ofNat (g k)
theorem eq9_V {f g : Nat -> Nat} (hf : Wn 9 f) (hg : Wn 9 g) : eq9 f g = decide (V 9 f = V 9 g) := by
 rw [Bool.eq_iff_iff, decide_eq_true_iff]
 simp only [eq9, List.all_eq_true, List.mem_range, beq_iff_eq]
 constructor
 ·exact fun h => Dg.num_congr 9 fun i hi => Int.ofNat.inj (h i hi)
 ·exact fun h k hk => congrArg Int.ofNat (Dg.num_inj (by decide) hf hg h k hk)
theorem eq_words9 (f g : Nat -> Nat) (d : Nat) (w : World) : (Op.equalIn (d + 2) 23 (.agg (vals9 f)) (.agg (vals9 g))).run Tryz.prog w = .ok (eq9 f g) w :=
 equalIn_array (m := 1) Tryz.underlying23 (by kernel_rfl) fun i hi => ⟨_, _, part_cell (by kernel_rfl) (by rw [Nat.mul_one]; exact vals9_get f i hi), part_cell (by kernel_rfl) (by rw [Nat.mul_one]; exact vals9_get g i hi), run_equalIn_int w d 22 .u64 .u64 (Int.ofNat (f i)) (Int.ofNat (g i)) Tryz.underlying22⟩
theorem eq_nat9 (f g : Nat -> Nat) (w : World) : (Op.equalIn 10000 25 (.agg (vals9 f)) (.agg (vals9 g))).run Tryz.prog w = .ok (eq9 f g) w := by
 rw [run_equalIn_struct w 9999 25 _ _ (by kernel_rfl) (by kernel_rfl)]
 have hf : (Tryz.prog.fieldsOf 25).toList = [{ name := "W", type := 23, offset := 0, embedded := false, tag := "", pkgPath := "", byteOffset := 0 }] := by kernel_rfl
 have hp : ∀ h : Nat -> Nat, (part 23 (vals9 h) 0).run Tryz.prog w = .ok (.agg (vals9 h)) w := fun h => by kernel_rfl
 rw [hf]
 simp only [Op.eqFields, Sem.run_bind, Sem.run_ite, hp, Result.andThen_ok, eq_words9 f g 9997 w]
 cases eq9 f g <;> rfl
theorem step_eq_nat {P : Program} (hP : P = Tryz.prog) {g : G} {F : FF} {L : LL} {n : Nat} {o : Oper} {x y : Operand} {yt : TypeId} (ho : o.op = .binOp .eql 25 x y yt) {m0 N : Nat} {ms : List Nat} (hg : GI g m0 ms N) (hd' : dstLt N o.dst = true) {a b : Nat -> Nat} {r : Bool} (hr : r = eq9 a b)
 (hx : ev (Vg.look F) x = some (.agg (ws a 9))) (hy : ev (Vg.look F) y = some (.agg (ws b 9))) {K : FF -> LL -> Nat -> Prop} (hK : K (putO F o.dst (.bool r)) L n) : Step g P o K F L n := by
 subst hP hr
 refine step_val hg hd' (fun β act W hm hf => ?_) hK
 obtain ⟨e1, _⟩ := ev_sound hf hx
 obtain ⟨e2, _⟩ := ev_sound hf hy
 refine ⟨?_, trivial⟩
 have h1 : act.eval x = .agg (vals9 a) := e1
 have h2 : act.eval y = .agg (vals9 b) := e2
 have h4 : Tryz.prog.eqGuardType Tryz.prog.depth 25 = false := by kernel_rfl
 have h3 : ∀ xs ys, (eqGuard .eql 25 x y (.agg xs) (.agg ys)).run Tryz.prog W = .ok () W := fun xs ys => run_eqGuard_agg W .eql 25 x y xs ys h4
 unfold execOp
 simp only [ho, h1, h2, Sem.run_bind, h3, Result.andThen_ok, run_eql_struct, eq_nat9, Sem.run_pure, den]
theorem cZero {P : Program} (hP : P = Tryz.prog) (m : Nat -> Nat) (hm : Wn 9 m) (r : Bool) (hr : r = decide (V 9 m = 0)) :
 Con P 161 [.ptr 0 0] [⟨0, ws m 9, 25⟩] 1 [] (fun v _ _ => v = .bool r) := by
 have h0 : r = eq9 m (fun _ => 0) := by
  rw [hr, eq9_V hm (fun _ _ => by decide)]
  rfl
 refine Con.of (hP ▸ tblOk) (hP ▸ Tryz.func161) rfl rfl rfl rfl (by decide) rfl rfl (bdLB_bd _ rfl) (blks_bd rfl) ?_
 intro A g K hA hg hK
 cases A
 cbv
 refine step_eq_nat hP rfl hg rfl (a := m) (b := fun _ => 0) h0 rfl rfl ?_
 cbv
 exact hK _ _ _ rfl
theorem cBy {P : Program} (hP : P = Tryz.prog) (m : Nat -> Nat) (n : Nat) (hm : Wn 9 m) (hn : Used 9 m n) (h0 : 0 < n) :
 ∃ d s, Dv m d n s /\ Con P 86 [.agg (ws m 9)] [] 0 [] (fun v L k => v = .agg [.ptr 2 0] /\ L = [⟨1, [.ptr 2 0], 118⟩, ⟨0, ws m 9, 25⟩, ⟨2, dcells d n s, 215⟩] /\ k = 3) := by
 obtain ⟨d, s, hD, hO⟩ := cOf hP m n hm hn h0
 refine ⟨d, s, hD, ?_⟩
 refine Con.of (hP ▸ tblOk) (hP ▸ Tryz.func86) rfl rfl rfl rfl (by decide) rfl rfl (bdLB_bd _ rfl) (blks_bd rfl) ?_
 intro A g K hA hg hK
 cases A
 cbv
 refine call_gen rfl hg rfl rfl hO id rfl ⟨rfl, trivial⟩ rfl rfl rfl ?_
 rintro _ _ _ ⟨rfl, rfl, rfl⟩ _
 cbv
 exact hK _ _ _ ⟨rfl, rfl, rfl⟩
theorem cModMul {P : Program} (hP : P = Tryz.prog) (m d : Nat -> Nat) (n s : Nat) (hD : Dv m d n s) (a b r : Nat -> Nat) (ha : Wn 9 a) (hb : Wn 9 b) (hr : Wn 9 r) (hrV : V 9 r = V 9 a * V 9 b % V 9 m) :
 Con P 143 [.agg [.ptr 0 0], .agg (ws a 9), .agg (ws b 9)] [⟨0, dcells d n s, 215⟩] 1 [] (fun v _ _ => v = .agg (ws r 9)) := by
 have hab : V 9 a * V 9 b < 18446744073709551616 ^ 18 := Nat.lt_of_lt_of_le (Nat.mul_lt_mul'' (V_lt ha) (V_lt hb)) (Nat.le_of_eq (by rw [<- Nat.pow_add]))
 obtain ⟨w, hw, hwV⟩ := exV 18 _ hab
 obtain ⟨k, hk⟩ := used_ex w 18
 have hk18 := hk.1
 obtain ⟨q, hq, hqV⟩ := exV 18 (V k w / V 9 m) (Nat.lt_of_le_of_lt (Nat.div_le_self _ _) (by rw [<- V_used hk]; exact V_lt hw))
 have hM := cMul hP a b w ha hb hw hwV
 have hL := cLen18 hP (t := 248) w k hk
 have hV := cDivide18 hP (t := 248) m d n s hD w k (fun j hj => hw j (by omega)) hk18 q r hq hr hqV (by rw [hrV, <- hwV, V_used hk])
 clear hab hwV hqV hrV hq hr ha hb hD
 refine Con.of (hP ▸ tblOk) (hP ▸ Tryz.func143) rfl rfl rfl rfl (by decide) rfl rfl (bdLB_bd _ rfl) (blks_bd rfl) ?_
 intro A g K hA hg hK
 cases A
 cbv
 refine call_val rfl hg rfl rfl hM ?_
 rintro _ _ _ rfl
 cbv
 refine reg_A (hP ▸ tblOk) hA hg (hP ▸ mixed) rfl rfl ?_
 cbv
 refine stepD (en_slice hg rfl rfl rfl rfl rfl (slr_arr (hP ▸ tblOk) (show tyT 246 = some _ from rfl) rfl _ _)) ?_
 cbv
 refine stepD (en_roc rfl hg rfl rfl hL (fun l => l + 5) rfl ⟨rfl, trivial⟩ (fun _ _ _ h => h) trivial) ?_
 cbv
 refine stepD (en_slice hg rfl rfl rfl rfl rfl (slr_arr_h (hP ▸ tblOk) (show tyT 246 = some _ from rfl) rfl _ _ hk18)) ?_
 cbv
 refine stepD (en_roc rfl hg rfl rfl hV (fun l => 5 * l) rfl ⟨rfl, rfl, trivial⟩ (fun _ _ _ h => h) (by simp [bd, bdL, ws, lst])) ?_
 cbv
 exact hK _ _ _ rfl
theorem cDiv {P : Program} (hP : P = Tryz.prog) (a m q r : Nat -> Nat) (ha : Wn 9 a) (hm : Wn 9 m) (hm0 : 0 < V 9 m) (hq : Wn 9 q) (hr : Wn 9 r) (hqV : V 9 q = V 9 a / V 9 m) (hrV : V 9 r = V 9 a % V 9 m) :
 Con P 162 [.agg (ws a 9), .agg (ws m 9)] [] 0 [] (fun v _ _ => v = .tup [.agg (ws q 9), .agg (ws r 9), .int .i64 0]) := by
 obtain ⟨n, hn⟩ := used_ex m 9
 have hn0 : 0 < n := by
  rcases Nat.eq_zero_or_pos n with h | h
  ·rw [V_used hn, h] at hm0; exact absurd hm0 (Nat.lt_irrefl 0)
  ·exact h
 obtain ⟨d, s, hD, hO⟩ := cOf hP m n hm hn hn0
 have hZ := cZero hP m hm false (decide_eq_false (Nat.pos_iff_ne_zero.1 hm0)).symm
 obtain ⟨q2, hq2⟩ : ∃ q2 : Nat -> Nat, q2 = fun j => if j < 9 then q j else 0 := ⟨_, rfl⟩
 have hq2W : Wn 18 q2 := fun j _ => by
  rw [hq2]; show (if j < 9 then q j else 0) < _
  split
  ·exact hq j (by omega)
  ·decide
 have hq2V : V 18 q2 = V 9 q := by
  have h1 : V 18 q2 = V 9 q2 := Dg.num_zero q2 9 9 fun i h1 _ => by rw [hq2]; exact if_neg (by omega)
  have h2 : V 9 q2 = V 9 q := Dg.num_congr 9 fun i hi => by rw [hq2]; exact if_pos hi
  exact h1.trans h2
 have hV := cDivide9 hP (t := 25) m d n s hD a 9 ha (Nat.le_refl 9) q2 r hq2W hr (hq2V.trans hqV) hrV
 have hq9 : ws q2 9 = ws q 9 := lst_congr fun j _ hj => by rw [hq2]; simp only [if_pos (show j < 9 by omega)]
 clear hq2 hq2W hq2V hqV hrV hq hr hD ha hm hm0
 refine Con.of (hP ▸ tblOk) (hP ▸ Tryz.func162) rfl rfl rfl rfl (by decide) rfl rfl (bdLB_bd _ rfl) (blks_bd rfl) ?_
 intro A g K hA hg hK
 cases A
 cbv
 refine call_ro rfl hg rfl rfl hZ (fun l => l + 1) rfl ⟨rfl, trivial⟩ ?_
 rintro _ _ _ rfl
 cbv
 refine reg_A (hP ▸ tblOk) hA hg (hP ▸ mixed) rfl rfl ?_
 cbv
 refine stepDn (n' := 5) (en_new rfl hg rfl rfl hO (fun l => l + 1) rfl ⟨rfl, trivial⟩ rfl (val := .ptr 1 0) (NB := [⟨1, dcells d n s, 215⟩]) (n := 4) (n1 := 2) (fun _ _ _ h => ⟨h.1, h.2.1, h.2.2⟩) rfl rfl (fun l h1 h2 => ⟨_, List.mem_cons_self, (by show 1 = l; omega)⟩)) (by decide) rfl (List.nodup_cons.2 ⟨List.not_mem_nil, List.nodup_nil⟩) ?_
 cbv
 refine stepD (en_slice hg rfl rfl rfl rfl rfl (slr_arr (hP ▸ tblOk) (show tyT 23 = some _ from rfl) rfl _ _)) ?_
 cbv
 refine stepD (en_roc rfl hg rfl rfl hV (fun l => 4 * (1 - l)) rfl ⟨rfl, rfl, trivial⟩ (fun _ _ _ h => h) (by simp [bd, bdL, ws, lst])) ?_
 cbv
 refine reg_X (hP ▸ tblOk) hA hg (hP ▸ mixed) rfl rfl ?_
 cbv
 refine stepD (en_slice hg rfl rfl rfl rfl rfl (slr_arr_h (hP ▸ tblOk) (show tyT 246 = some _ from rfl) rfl _ _ (j := 9) (by decide))) ?_
 cbv
 refine stepD (en_s2ap (hP ▸ tblOk) hg rfl rfl (show tyT 23 = some _ from rfl) rfl rfl (by decide)) ?_
 cbv
 refine hK _ _ _ ?_
 rw [<- hq9]
 rfl
end Go.Proofs.YtdhmihfefgcbeaaGreat
end
