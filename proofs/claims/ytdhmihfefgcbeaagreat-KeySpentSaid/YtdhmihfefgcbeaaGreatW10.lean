/-
  This text proves what these texts prove: Nc, Nd, Ne. Conditions: those of each theorem.
-/
import Derived.Test.YtdhmihfefgcbeaaGreatW09
import Derived.Test.YtdhmihfefgcbeaaGreatW08
section
namespace Go.Proofs.YtdhmihfefgcbeaaGreat
open Go.Vg Go.RowKit
set_option maxRecDepth 200000
set_option cbv.maxSteps 100000000
theorem mul_word {x y z c h l l1 c1 l2 c2 : Nat} (hx : x < 18446744073709551616) (hy : y < 18446744073709551616) (hz : z < 18446744073709551616) (hc : c < 18446744073709551616) (hh : h = x * y / 18446744073709551616) (hl : l = x * y % 18446744073709551616)
 (hl1 : l1 = (l + z + 0) % 18446744073709551616) (hc1 : c1 = (l + z + 0) / 18446744073709551616) (hl2 : l2 = (l1 + c + 0) % 18446744073709551616) (hc2 : c2 = (l1 + c + 0) / 18446744073709551616) :
 x * y + z + c = l2 + (h + c1 + c2) * 18446744073709551616 /\ h + c1 + c2 < 18446744073709551616 /\ l2 < 18446744073709551616 /\ c1 <= 1 /\ c2 <= 1 := by
 have h1 : x * y <= 18446744073709551615 * 18446744073709551615 := Nat.mul_le_mul (by omega) (by omega)
 generalize x * y = p at *
 omega
theorem mul_step {Vp Vq c cc x y z P Pk Pi B l2 : Nat} (hpv : Vp + c * P = Vq + x * B * Pi) (w1 : x * y + z + c = l2 + cc * 18446744073709551616) (hP : P = Pk * Pi) : Vp + l2 * P + cc * (P * 18446744073709551616) = (Vq + z * P) + x * (B + y * Pk) * Pi := by
 have h1 : (Vq + z * P) + x * (B + y * Pk) * Pi = (Vq + x * B * Pi) + (x * y + z) * P := by subst hP; grind
 have h2 : Vp + l2 * P + cc * (P * 18446744073709551616) = Vp + (l2 + cc * 18446744073709551616) * P := by grind
 rw [h1, h2, <- hpv, <- w1]
 grind
set_option maxHeartbeats 2000000 in
theorem cMul {P : Program} (hP : P = Tryz.prog) (a b r : Nat -> Nat) (ha : Wn 9 a) (hb : Wn 9 b) (hr : Wn 18 r) (hVr : V 18 r = V 9 a * V 9 b) :
 Con P 158 [.agg (ws a 9), .agg (ws b 9)] [] 0 [] (fun v _ _ => v = .agg (ws r 18)) := by
 obtain ⟨m, hm⟩ := used_ex a 9
 obtain ⟨n, hn⟩ := used_ex b 9
 have hva := V_used hm
 have hvb := V_used hn
 have hm9 := hm.1
 have hn9 := hn.1
 refine Con.of (hP ▸ tblOk) (hP ▸ Tryz.func158) rfl rfl rfl rfl (by decide) rfl rfl ⟨lst_bdL _, lst_bdL _, trivial⟩ (by simp) ?_
 intro A g K hA hg hK
 obtain ⟨bin, _, cmp, _, _, ix, _, _, _, _, _, _, _, _, _, off⟩ := A
 have f1 : ∀ x y, cmp .lss (Int.ofNat x) (Int.ofNat y) = decide (x < y) := fun x y => lssI hA x y
 have f2 : ∀ i, i < 9 -> ix (Int.ofNat i) 9 = some i := fun i h => ix_of hA h
 have f2' : ∀ i, i < 18 -> ix (Int.ofNat i) 18 = some i := fun i h => ix_of hA h
 have f3 : ∀ i, off 0 i 1 = i := fun i => (off_of hA 0 i 1).trans (by omega)
 have f4 := fun (f : Nat -> Nat) (k : Nat) (h : k < 9) => getW hA .u64 (n := 9) f h
 have f4' := fun (f : Nat -> Nat) (k : Nat) (h : k < 18) => getW hA .u64 (n := 18) f h
 have f5 := fun (f g : Nat -> Nat) (k v : Nat) (h : k < 18) (e : g = fun j => if j = k then v else f j) => splW hA .u64 (n := 18) f g h e
 have f6 : ∀ i, i < 9 -> bin .add .i64 (Int.ofNat i) 1 = Int.ofNat (i + 1) := fun i h => add_of hA (by omega)
 have f7 : ∀ x y, x + y < 18446744073709551616 -> bin .add .u64 (Int.ofNat x) (Int.ofNat y) = Int.ofNat (x + y) := fun x y h => addU hA h
 have f8 : ∀ x y, x + y < 18 -> bin .add .i64 (Int.ofNat x) (Int.ofNat y) = Int.ofNat (x + y) := fun x y h => addI hA (by omega)
 simp only [lst, Nat.reduceAdd] at f4 f4' f5
 cbv
 refine call_ro rfl hg rfl rfl (cUsed hP a m hm) id rfl ⟨rfl, trivial⟩ ?_
 rintro _ _ _ rfl
 cbv
 refine call_ro rfl hg rfl rfl (cUsed hP b n hn) (fun l => l + 1) rfl ⟨rfl, trivial⟩ ?_
 rintro _ _ _ rfl
 cbv
 refine loop_by (Nat × (Nat -> Nat)) (fun s => s.1 <= m /\ Wn 18 s.2 /\ (∀ j, s.1 + n <= j -> s.2 j = 0) /\ V (s.1 + n) s.2 = V s.1 a * V n b) (fun s => m - s.1)
  (fun s => [(17, .int .i64 (Int.ofNat s.1))]) [2, 3, 4, 5, 6, 7, 16] (fun s => [(3, ws s.2 18)]) (0, fun _ => 0) ⟨Nat.zero_le _, fun j _ => by show 0 < _; decide, fun _ _ => rfl, ?_⟩ ?_ ?_
 ·show V (0 + n) (fun _ => 0) = V 0 a * V n b
  rw [show V 0 a = 0 from rfl, Nat.zero_mul]
  exact Dg.num_zero (b := 18446744073709551616) (fun _ => 0) 0 n fun _ _ _ => rfl
 ·exact wkid
 rintro ⟨i, q⟩ ⟨hi, hq, hz, hv⟩
 have hi : i <= m := hi
 have hq : Wn 18 q := hq
 have hz : ∀ j, i + n <= j -> q j = 0 := hz
 have hv : V (i + n) q = V i a * V n b := hv
 cbv
 rw [f1]
 by_cases hlt : i < m
 ·rw [decide_eq_true hlt]
  cbv
  refine loop_by (Nat × (Nat -> Nat) × Nat) (fun s => s.1 <= n /\ Wn 18 s.2.1 /\ s.2.2 < 18446744073709551616 /\ (∀ j, i + s.1 <= j -> s.2.1 j = q j) /\ V (i + s.1) s.2.1 + s.2.2 * 18446744073709551616 ^ (i + s.1) = V (i + s.1) q + a i * V s.1 b * 18446744073709551616 ^ i) (fun s => n - s.1)
   (fun s => [(21, .int .i64 (Int.ofNat s.1)), (9, .int .u64 (Int.ofNat s.2.2))]) [2, 3, 4, 5, 6, 7, 8, 16, 17, 20] (fun s => [(3, ws s.2.1 18)]) (0, q, 0) ⟨Nat.zero_le _, hq, by show 0 < _; decide, fun _ _ => rfl, ?_⟩ ?_ ?_
  ·show V (i + 0) q + 0 * _ = V (i + 0) q + a i * V 0 b * _
   rw [show V 0 b = 0 from rfl]; simp
  ·exact wkid
  rintro ⟨k, p, c⟩ ⟨hk, hp, hc, hpq, hpv⟩
  have hk : k <= n := hk
  have hp : Wn 18 p := hp
  have hc : c < 18446744073709551616 := hc
  have hpq : ∀ j, i + k <= j -> p j = q j := hpq
  have hpv : V (i + k) p + c * 18446744073709551616 ^ (i + k) = V (i + k) q + a i * V k b * 18446744073709551616 ^ i := hpv
  cbv
  rw [f1]
  by_cases hkn : k < n
  ·rw [decide_eq_true hkn]
   have i9 : i < 9 := by omega
   have k9 : k < 9 := by omega
   obtain ⟨h, hh⟩ : ∃ h, h = a i * b k / 18446744073709551616 := ⟨_, rfl⟩
   obtain ⟨l, hl⟩ : ∃ l, l = a i * b k % 18446744073709551616 := ⟨_, rfl⟩
   obtain ⟨l1, hl1⟩ : ∃ x, x = (l + p (i + k) + 0) % 18446744073709551616 := ⟨_, rfl⟩
   obtain ⟨c1, hc1⟩ : ∃ x, x = (l + p (i + k) + 0) / 18446744073709551616 := ⟨_, rfl⟩
   obtain ⟨l2, hl2⟩ : ∃ x, x = (l1 + c + 0) % 18446744073709551616 := ⟨_, rfl⟩
   obtain ⟨c2, hc2⟩ : ∃ x, x = (l1 + c + 0) / 18446744073709551616 := ⟨_, rfl⟩
   obtain ⟨w1, w2, w3, w4, w5⟩ := mul_word (ha i i9) (hb k k9) (hp (i + k) (by omega)) hc hh hl hl1 hc1 hl2 hc2
   have e8 := f8 i k (by omega)
   have e7 := f7 h c1 (by omega)
   have e7' := f7 (h + c1) c2 (by omega)
   obtain ⟨ik, hik⟩ : ∃ ik, ik = i + k := ⟨_, rfl⟩
   obtain ⟨p', hp'⟩ : ∃ p' : Nat -> Nat, p' = fun j => if j = ik then l2 else p j := ⟨_, rfl⟩
   have e5 := f5 p p' ik l2 (by omega) hp'
   have e4 := f4' p ik (by omega)
   have e2 := f2' ik (by omega)
   have e3 := f3 ik
   obtain ⟨hc1', hhc⟩ : ∃ x, x = h + c1 := ⟨_, rfl⟩
   obtain ⟨cc, hcc⟩ : ∃ x, x = hc1' + c2 := ⟨_, rfl⟩
   rw [<- hhc] at e7 e7' w2
   rw [<- hcc] at e7' w2
   rw [<- hhc, <- hcc] at w1
   rw [<- hik] at e8 hl1 hc1
   cbv
   refine reg_M (hP ▸ tblOk) hA hg (hP ▸ mixed) rfl rfl fun mk _ => ?_
   cbv
   rw [f2 i i9]
   cbv
   rw [f3 i, f4 a i i9]
   cbv
   rw [f2 k k9]
   cbv
   rw [f3 k, f4 b k k9]
   cbv
   refine stepD (en_val rfl hg rfl rfl (cMul64 hP (a i) (b k) h l (ha i i9) (hb k k9) hh hl) (fun _ _ _ h => h) ⟨trivial, trivial, trivial⟩) ?_
   cbv
   rw [e8]
   rw [e2]
   cbv
   rw [e3, e4]
   cbv
   refine step_ext rfl hg rfl rfl (xAdd64 hP l (p ik) 0 l1 c1 (by decide) hl1 hc1) ?_
   cbv
   rw [e7]
   refine step_ext rfl hg rfl rfl (xAdd64 hP l1 c 0 l2 c2 (by decide) hl2 hc2) ?_
   cbv
   rw [e8]
   rw [e7', e2]
   cbv
   rw [e3, e5]
   cbv
   rw [f6 k k9]
   refine ⟨(k + 1, p', cc), id, ⟨hkn, ?_, w2, ?_, ?_⟩, (by show n - (k + 1) < n - k; omega), ?_⟩
   ·intro j hj
    show p' j < _
    rw [hp']
    by_cases hji : j = ik
    ·simp only [hji, if_pos]; exact w3
    ·simp only [if_neg hji]; exact hp j hj
   ·intro j hj
    have hj : i + (k + 1) <= j := hj
    show p' j = q j
    rw [hp']
    simp only [if_neg (show j ≠ ik by omega)]
    exact hpq j (by omega)
   ·show V (i + (k + 1)) p' + cc * 18446744073709551616 ^ (i + (k + 1)) = V (i + (k + 1)) q + a i * V (k + 1) b * 18446744073709551616 ^ i
    rw [<- Nat.add_assoc, <- hik, hp', V_upd, num_snoc q, num_snoc b, Nat.pow_succ]
    rw [<- hik] at hpv
    have hz1 : p ik = q ik := hpq ik (by omega)
    rw [hik] at hz1
    rw [hz1] at w1
    rw [<- hik] at w1
    exact mul_step hpv w1 (by rw [hik, Nat.pow_add, Nat.mul_comm])
   ·exact wkid
  ·rw [decide_eq_false hkn]
   obtain rfl : k = n := by omega
   have e8 := f8 i k (by omega)
   obtain ⟨ik, hik⟩ : ∃ ik, ik = i + k := ⟨_, rfl⟩
   obtain ⟨p', hp'⟩ : ∃ p' : Nat -> Nat, p' = fun j => if j = ik then c else p j := ⟨_, rfl⟩
   have e5 := f5 p p' ik c (by omega) hp'
   have e2 := f2' ik (by omega)
   have e3 := f3 ik
   rw [<- hik] at e8
   cbv
   rw [e8, e2]
   cbv
   rw [e3, e5]
   cbv
   rw [f6 i (by omega)]
   refine ⟨(i + 1, p'), id, ⟨hlt, ?_, ?_, ?_⟩, (by show m - (i + 1) < m - i; omega), ?_⟩
   ·intro j hj
    show p' j < _
    rw [hp']
    by_cases hji : j = ik
    ·simp only [hji, if_pos]; exact hc
    ·simp only [if_neg hji]; exact hp j hj
   ·intro j hj
    have hj : i + 1 + k <= j := hj
    show p' j = 0
    rw [hp']
    simp only [if_neg (show j ≠ ik by omega)]
    rw [hpq j (by omega)]
    exact hz j (by omega)
   ·show V (i + 1 + k) p' = V (i + 1) a * V k b
    rw [show i + 1 + k = ik + 1 by omega, hp', V_upd, num_snoc a, hik, hpv, hv]
    grind
   ·exact wkid
 ·rw [decide_eq_false hlt]
  obtain rfl : i = m := by omega
  have e1 : V 18 q = V 18 r := by
   rw [hVr, hva, hvb, <- hv]
   obtain ⟨d, hd⟩ : ∃ d, 18 = (i + n) + d := ⟨18 - (i + n), by omega⟩
   rw [hd]
   exact Dg.num_zero (b := 18446744073709551616) q (i + n) d fun j h1 _ => hz j h1
  have e3 := V_inj hq hr e1 (k := .u64)
  simp only [lst, Nat.reduceAdd] at e3
  cbv
  refine hK _ _ _ ?_
  rw [e3]
  rfl
theorem dig_le {a b u v X r q : Nat} (e : X + r = u) (h : q * b <= 4294967296 * r + v) (hX : X = q * a) : q <= (u * 4294967296 + v) / (a * 4294967296 + b) \/ a * 4294967296 + b = 0 := by
 rcases Nat.eq_zero_or_pos (a * 4294967296 + b) with h0 | h0
 ·exact Or.inr h0
 ·left
  rw [Nat.le_div_iff_mul_le h0]
  have h1 : q * (a * 4294967296 + b) = X * 4294967296 + q * b := by rw [hX]; grind
  rw [h1]
  generalize q * b = Z at *
  omega
theorem dig_gt {a b u v X r q : Nat} (e : X + r = u) (h : 4294967296 * r + v < q * b) (hX : X = q * a) (h0 : 0 < a * 4294967296 + b) : (u * 4294967296 + v) / (a * 4294967296 + b) < q := by
 rw [Nat.div_lt_iff_lt_mul h0]
 have h1 : q * (a * 4294967296 + b) = X * 4294967296 + q * b := by rw [hX]; grind
 rw [h1]
 generalize q * b = Z at *
 omega
structure Guess (a u Q q r : Nat) : Prop where
 e : q * a + r = u
 le : Q <= q
 qb : q <= 4294967297
 rb : r < 4294967296
theorem guess_start {a b u v : Nat} (ha : 2147483648 <= a) (ha2 : a < 4294967296) (hb : b < 4294967296) (hv : v < 4294967296) (hu : u < a * 4294967296 + b) :
 Guess a u ((u * 4294967296 + v) / (a * 4294967296 + b)) (u / a) (u % a) := by
 have h0 : 0 < a := by omega
 have e : u / a * a + u % a = u := by rw [Nat.mul_comm]; exact Nat.div_add_mod u a
 have hr := Nat.mod_lt u h0
 refine ⟨e, ?_, ?_, Nat.lt_trans hr ha2⟩
 ·refine Nat.le_of_lt_succ ?_
  rw [Nat.div_lt_iff_lt_mul (by omega)]
  have h1 : (u / a).succ * (a * 4294967296 + b) = u / a * a * 4294967296 + a * 4294967296 + u / a * b + b := by rw [Nat.succ_eq_add_one]; grind
  rw [h1]
  generalize u / a * a = X at *
  generalize u / a * b = Z at *
  omega
 ·refine Nat.le_of_lt_succ ?_
  rw [Nat.div_lt_iff_lt_mul h0]
  omega
theorem guess_done {a b u v q r : Nat} (ha : 0 < a) (h : Guess a u ((u * 4294967296 + v) / (a * 4294967296 + b)) q r) (h2 : q * b <= 4294967296 * r + v) : q = (u * 4294967296 + v) / (a * 4294967296 + b) := by
 rcases dig_le h.e h2 rfl with h3 | h3
 ·exact Nat.le_antisymm h3 h.le
 ·omega
theorem guess_dec {a b u v q r : Nat} (ha : 0 < a) (hQ : (u * 4294967296 + v) / (a * 4294967296 + b) < 4294967296) (h : Guess a u ((u * 4294967296 + v) / (a * 4294967296 + b)) q r) (h2 : 4294967296 <= q \/ 4294967296 * r + v < q * b) :
 0 < q /\ (q - 1) * a + (r + a) = u /\ (u * 4294967296 + v) / (a * 4294967296 + b) <= q - 1 /\ q - 1 <= 4294967296 := by
 have h3 : (u * 4294967296 + v) / (a * 4294967296 + b) < q := by
  rcases h2 with h2 | h2
  ·exact Nat.lt_of_lt_of_le hQ h2
  ·exact dig_gt h.e h2 rfl (by omega)
 have h4 := h.qb
 have e := h.e
 clear h
 generalize (u * 4294967296 + v) / (a * 4294967296 + b) = D at *
 refine ⟨by omega, ?_, by omega, by omega⟩
 obtain ⟨p, rfl⟩ : ∃ p, q = p + 1 := ⟨q - 1, by omega⟩
 rw [Nat.add_mul, Nat.one_mul] at e
 rw [Nat.add_sub_cancel]
 omega
theorem guess_break {a b u v q r : Nat} (ha : 0 < a) (hb : b < 4294967296) (e : q * a + r = u) (hQ : (u * 4294967296 + v) / (a * 4294967296 + b) <= q) (hq : q <= 4294967296) (hr : 4294967296 <= r) : q = (u * 4294967296 + v) / (a * 4294967296 + b) := by
 refine Nat.le_antisymm ?_ hQ
 have h2 : q * b <= 4294967296 * 4294967295 := Nat.mul_le_mul hq (by omega)
 have h4 := Nat.mul_le_mul_left 4294967296 hr
 rcases dig_le (v := v) (b := b) e (by omega) rfl with h3 | h3
 ·exact h3
 ·omega
theorem guess_done' {a b u v q r Q : Nat} (hQ : Q = (u * 4294967296 + v) / (a * 4294967296 + b)) (ha : 2147483648 <= a) (h : Guess a u Q q r) (h2 : q * b <= 4294967296 * r + v) : q = Q := by
 subst hQ
 exact guess_done (by omega) h h2
theorem guess_dec' {a b u v q r Q : Nat} (hQ : Q = (u * 4294967296 + v) / (a * 4294967296 + b)) (ha : 2147483648 <= a) (hQl : Q < 4294967296) (h : Guess a u Q q r) (h2 : 4294967296 <= q \/ 4294967296 * r + v < q * b) :
 0 < q /\ (q - 1) * a + (r + a) = u /\ Q <= q - 1 /\ q - 1 <= 4294967296 := by
 subst hQ
 exact guess_dec (by omega) hQl h h2
theorem guess_break' {a b u v q r Q : Nat} (hQ : Q = (u * 4294967296 + v) / (a * 4294967296 + b)) (ha : 2147483648 <= a) (hb : b < 4294967296) (e : q * a + r = u) (hQq : Q <= q) (hq : q <= 4294967296) (hr : 4294967296 <= r) : q = Q := by
 subst hQ
 exact guess_break (by omega) hb e hQq hq hr
theorem two_digits {x c y B : Nat} (hy : 0 < y) : (x * B + c) / y = x / y * B + (x % y * B + c) / y /\ (x * B + c) % y = (x % y * B + c) % y := by
 have e : x * B + c = y * (x / y * B) + (x % y * B + c) := by
  have h := Nat.div_add_mod x y
  have h2 : x * B = (y * (x / y) + x % y) * B := by rw [h]
  rw [h2]; grind
 rw [e]
 exact ⟨Nat.mul_add_div hy _ _, Nat.mul_add_mod _ _ _⟩
theorem p64 : 2 ^ IntKind.u64.bits = 18446744073709551616 := rfl
section
variable {A : Ar}
theorem add64 (hA : A = Ar.real) {a b r : Nat} (h : r = (a + b) % 18446744073709551616) : A.bin .add .u64 (Int.ofNat a) (Int.ofNat b) = Int.ofNat r := by rw [addW hA rfl, p64, h]
theorem mul64 (hA : A = Ar.real) {a b r : Nat} (h : r = a * b % 18446744073709551616) : A.bin .mul .u64 (Int.ofNat a) (Int.ofNat b) = Int.ofNat r := by rw [mulW hA rfl, p64, h]
theorem sub64 (hA : A = Ar.real) {a b r : Nat} (hb : b <= 18446744073709551616) (h : r = (a + 18446744073709551616 - b) % 18446744073709551616) : A.bin .sub .u64 (Int.ofNat a) (Int.ofNat b) = Int.ofNat r := by rw [subW hA rfl (by rw [p64]; exact hb), p64, h]
theorem shl64 (hA : A = Ar.real) {a s r : Nat} (hs : s <= 64) (h : r = a * 2 ^ s % 18446744073709551616) : A.sh .shl .u64 (Int.ofNat a) (Int.ofNat s) = Int.ofNat r := by rw [shlW hA rfl a (by exact hs), p64, h]
theorem shr64 (hA : A = Ar.real) {a s r : Nat} (hs : s <= 64) (h : r = a / 2 ^ s) : A.sh .shr .u64 (Int.ofNat a) (Int.ofNat s) = Int.ofNat r := by rw [shrI hA (by exact hs), h]
theorem or64 (hA : A = Ar.real) {a b r : Nat} (ha : a < 18446744073709551616) (hb : b < 18446744073709551616) (h : r = a ||| b) : A.bin .or .u64 (Int.ofNat a) (Int.ofNat b) = Int.ofNat r := by rw [orW hA rfl (by rw [p64]; exact ha) (by rw [p64]; exact hb), h]
theorem and64 (hA : A = Ar.real) {a b r : Nat} (ha : a < 18446744073709551616) (hb : b < 18446744073709551616) (h : r = a &&& b) : A.bin .and .u64 (Int.ofNat a) (Int.ofNat b) = Int.ofNat r := by rw [andW hA rfl (by rw [p64]; exact ha) (by rw [p64]; exact hb), h]
theorem quo64 (hA : A = Ar.real) {a b r : Nat} (ha : a < 18446744073709551616) (h : r = a / b) : A.bin .quo .u64 (Int.ofNat a) (Int.ofNat b) = Int.ofNat r := by rw [quoW hA rfl (by rw [p64]; exact ha), h]
theorem guess_words (hA : A = Ar.real) {a b w v Q p ρ : Nat} (hG : Guess a w Q p ρ) (ha2 : a < 4294967296) (hb : b < 4294967296) (hv : v < 4294967296) :
 ∃ Z Y Y' ρ' p' : Nat, Z = p * b /\ Y' = 4294967296 * ρ + v /\ ρ' = ρ + a /\ p' = p - 1 /\ (4294967296 <= p -> A.cmp .geq (Int.ofNat p) 4294967296 = true) /\ (¬ 4294967296 <= p -> A.cmp .geq (Int.ofNat p) 4294967296 = false) /\ A.bin .mul .u64 4294967296 (Int.ofNat ρ) = Int.ofNat Y /\ A.bin .add .u64 (Int.ofNat Y) (Int.ofNat v) = Int.ofNat Y' /\
   (Y' < Z -> A.cmp .gtr (Int.ofNat Z) (Int.ofNat Y') = true) /\ (¬ Y' < Z -> A.cmp .gtr (Int.ofNat Z) (Int.ofNat Y') = false) /\ (1 <= p -> A.bin .sub .u64 (Int.ofNat p) 1 = Int.ofNat p') /\ A.bin .add .u64 (Int.ofNat ρ) (Int.ofNat a) = Int.ofNat ρ' /\ (4294967296 <= ρ' -> A.cmp .geq (Int.ofNat ρ') 4294967296 = true) /\ (¬ 4294967296 <= ρ' -> A.cmp .geq (Int.ofNat ρ') 4294967296 = false) /\
   (p < 4294967296 -> A.bin .mul .u64 (Int.ofNat p) (Int.ofNat b) = Int.ofNat Z) := by
 have h1 := hG.rb
 have h2 := hG.qb
 clear hG
 refine ⟨p * b, 4294967296 * ρ, 4294967296 * ρ + v, ρ + a, p - 1, rfl, rfl, rfl, rfl, fun h => geq_t hA (b := 4294967296) h, fun h => geq_f hA (b := 4294967296) h, mul64 hA (a := 4294967296) (by omega), add64 hA (by omega), fun h => gtr_t hA h, fun h => gtr_f hA h, fun h => sub64 hA (b := 1) (by decide) (by omega), add64 hA (by omega), fun h => geq_t hA (b := 4294967296) h, fun h => geq_f hA (b := 4294967296) h, fun h => mul64 hA ?_⟩
 have h3 : p * b <= 4294967295 * 4294967295 := Nat.mul_le_mul (by omega) (by omega)
 exact (Nat.mod_eq_of_lt (by omega)).symm
theorem start_words (hA : A = Ar.real) {a w g0 r0 X : Nat} (hw : w < 18446744073709551616) (hg0 : g0 = w / a) (hr0 : r0 = w % a) (hX : X = g0 * a) :
 A.bin .quo .u64 (Int.ofNat w) (Int.ofNat a) = Int.ofNat g0 /\ A.bin .mul .u64 (Int.ofNat g0) (Int.ofNat a) = Int.ofNat X /\ A.bin .sub .u64 (Int.ofNat w) (Int.ofNat X) = Int.ofNat r0 := by
 have e := Nat.div_add_mod w a
 rw [<- hg0, <- hr0, Nat.mul_comm, <- hX] at e
 exact ⟨quo64 hA hw hg0, mul64 hA (by rw [<- hX]; omega), sub64 hA (by omega) (by omega)⟩
theorem rest_words (hA : A = Ar.real) {w v Q Y t : Nat} (hQ : Q < 4294967296) (hY : Y < 18446744073709551616) (ht : t < Y) (e : Q * Y + t = w * 4294967296 + v) :
 ∃ N1 N2 N3 : Nat, A.bin .mul .u64 (Int.ofNat w) 4294967296 = Int.ofNat N1 /\ A.bin .add .u64 (Int.ofNat N1) (Int.ofNat v) = Int.ofNat N2 /\ A.bin .mul .u64 (Int.ofNat Q) (Int.ofNat Y) = Int.ofNat N3 /\ A.bin .sub .u64 (Int.ofNat N2) (Int.ofNat N3) = Int.ofNat t := by
 refine ⟨w * 4294967296 % 18446744073709551616, (w * 4294967296 % 18446744073709551616 + v) % 18446744073709551616, Q * Y % 18446744073709551616, mul64 hA (b := 4294967296) rfl, add64 hA rfl, mul64 hA rfl, sub64 hA (by omega) ?_⟩
 generalize Q * Y = Z at *
 omega
theorem split32 (x : Nat) : x / 4294967296 * 4294967296 + x % 4294967296 = x := by omega
theorem split96 (u lo : Nat) : u * 18446744073709551616 + lo = (u * 4294967296 + lo / 4294967296) * 4294967296 + lo % 4294967296 := by omega
theorem top_lt {u v y : Nat} (h : u < y) (hv : v < 4294967296) : u * 4294967296 + v < 4294967296 * y := by omega
theorem div64_core {N S y y' u lo q r : Nat} (hS : 0 < S) (hy' : y' = y * S) (hN : N * S = u * 18446744073709551616 + lo) (huy : u < y') (hlo : lo < 18446744073709551616) (hq : q = N / y) (hr : r = N % y) :
 ∃ Q1 t Q0 z : Nat, Q1 = (u * 4294967296 + lo / 4294967296) / y' /\ Q1 < 4294967296 /\ t < y' /\ Q1 * y' + t = u * 4294967296 + lo / 4294967296 /\ Q0 = (t * 4294967296 + lo % 4294967296) / y' /\ Q0 < 4294967296 /\ z < y' /\ Q0 * y' + z = t * 4294967296 + lo % 4294967296 /\ q = Q1 * 4294967296 + Q0 /\ r * S = z := by
 have h0 : 0 < y' := Nat.lt_of_le_of_lt (Nat.zero_le _) huy
 have hv1 : lo / 4294967296 < 4294967296 := by omega
 have hv0 : lo % 4294967296 < 4294967296 := Nat.mod_lt _ (by decide)
 have htl := Nat.mod_lt (u * 4294967296 + lo / 4294967296) h0
 refine ⟨_, (u * 4294967296 + lo / 4294967296) % y', _, (((u * 4294967296 + lo / 4294967296) % y') * 4294967296 + lo % 4294967296) % y', rfl, ?_, htl, ?_, rfl, ?_, Nat.mod_lt _ h0, ?_, ?_, ?_⟩
 ·rw [Nat.div_lt_iff_lt_mul h0]; exact top_lt huy hv1
 ·rw [Nat.mul_comm]; exact Nat.div_add_mod _ _
 ·rw [Nat.div_lt_iff_lt_mul h0]; exact top_lt htl hv0
 ·rw [Nat.mul_comm]; exact Nat.div_add_mod _ _
 ·rw [<- (two_digits (x := u * 4294967296 + lo / 4294967296) (c := lo % 4294967296) (B := 4294967296) h0).1, <- split96, <- hN, hy', Nat.mul_div_mul_right _ _ hS, hq]
 ·rw [<- (two_digits (x := u * 4294967296 + lo / 4294967296) (c := lo % 4294967296) (B := 4294967296) h0).2, <- split96, <- hN, hy', Nat.mul_mod_mul_right, hr]
theorem q_words {Q1 Q0 q : Nat} (h1 : Q1 < 4294967296) (h0 : Q0 < 4294967296) (hq : q = Q1 * 4294967296 + Q0) : Q1 * 4294967296 = Q1 * 4294967296 % 18446744073709551616 /\ q = (Q1 * 4294967296 + Q0) % 18446744073709551616 := by omega
theorem top_word {y : Nat} (h : y < 18446744073709551616) (h2 : 9223372036854775808 <= y) : 2147483648 <= y / 4294967296 /\ y / 4294967296 < 4294967296 := by omega
theorem low_word {y : Nat} (h : y < 18446744073709551616) : y / 4294967296 < 4294967296 := by omega
theorem div64_words (hA : A = Ar.real) {x1 x0 y q r k s : Nat} (hy : y < 18446744073709551616) (hx1 : x1 < y) (hx0 : x0 < 18446744073709551616) (hq : q = (x1 * 18446744073709551616 + x0) / y) (hr : r = (x1 * 18446744073709551616 + x0) % y) (hk : IsBl y k) (hs : s = 64 - k) :
 s <= 64 /\ ∃ s' y' hi mi lo u a b v1 v0 Q1 t Q0 z z' q' : Nat, (A.cvt .u64 (Int.ofNat s) = Int.ofNat s /\ A.sh .shl .u64 (Int.ofNat y) (Int.ofNat s) = Int.ofNat y' /\ A.sh .shr .u64 (Int.ofNat y') 32 = Int.ofNat a /\ A.bin .and .u64 (Int.ofNat y') 4294967295 = Int.ofNat b /\
   A.sh .shl .u64 (Int.ofNat x1) (Int.ofNat s) = Int.ofNat hi /\ A.bin .sub .u64 64 (Int.ofNat s) = Int.ofNat s' /\ A.sh .shr .u64 (Int.ofNat x0) (Int.ofNat s') = Int.ofNat mi /\ A.bin .or .u64 (Int.ofNat hi) (Int.ofNat mi) = Int.ofNat u /\
   A.sh .shl .u64 (Int.ofNat x0) (Int.ofNat s) = Int.ofNat lo /\ A.sh .shr .u64 (Int.ofNat lo) 32 = Int.ofNat v1 /\ A.bin .and .u64 (Int.ofNat lo) 4294967295 = Int.ofNat v0 /\ A.sh .shr .u64 (Int.ofNat z) (Int.ofNat s) = Int.ofNat z' /\ A.bin .mul .u64 (Int.ofNat Q1) 4294967296 = Int.ofNat q' /\ A.bin .add .u64 (Int.ofNat q') (Int.ofNat Q0) = Int.ofNat q) /\
   a * 4294967296 + b = y' /\ y' < 18446744073709551616 /\ 2147483648 <= a /\ a < 4294967296 /\ b < 4294967296 /\ v1 < 4294967296 /\ v0 < 4294967296 /\ u < y' /\ Q1 = (u * 4294967296 + v1) / (a * 4294967296 + b) /\ Q1 < 4294967296 /\ t < y' /\ Q1 * y' + t = u * 4294967296 + v1 /\
   Q0 = (t * 4294967296 + v0) / (a * 4294967296 + b) /\ Q0 < 4294967296 /\ z < y' /\ Q0 * y' + z = t * 4294967296 + v0 /\ r = z' := by
 have hk64 : k <= 64 := Nat.le_of_not_lt fun h3 => by
  have h4 := hk.2 (by omega)
  have h5 := Nat.pow_le_pow_right (show 0 < 2 by decide) (show 64 <= k - 1 by omega)
  omega
 have hk0 : 0 < k := by
  rcases Nat.eq_zero_or_pos k with h | h
  ·subst h; have := hk.1; simp at this; omega
  ·exact h
 have hpk : 2 ^ k * 2 ^ s = 18446744073709551616 := by rw [<- Nat.pow_add, show k + s = 64 by omega]
 have hpk1 : 2 ^ (k - 1) * 2 ^ s = 9223372036854775808 := by rw [<- Nat.pow_add, show k - 1 + s = 63 by omega]
 have hps : 2 ^ (64 - s) * 2 ^ s = 18446744073709551616 := by rw [<- Nat.pow_add, show 64 - s + s = 64 by omega]
 have h2s : 0 < 2 ^ s := Nat.pow_pos (by decide)
 have h2s' : 0 < 2 ^ (64 - s) := Nat.pow_pos (by decide)
 have hy'lt : y * 2 ^ s < 18446744073709551616 := by rw [<- hpk]; exact Nat.mul_lt_mul_of_pos_right hk.1 h2s
 have hy'ge : 9223372036854775808 <= y * 2 ^ s := by rw [<- hpk1]; exact Nat.mul_le_mul_right _ (hk.2 hk0)
 have hmilt : x0 / 2 ^ (64 - s) < 2 ^ s := by rw [Nat.div_lt_iff_lt_mul h2s', Nat.mul_comm, hps]; exact hx0
 have hhi1 : x1 * 2 ^ s + 2 ^ s <= y * 2 ^ s := by
  have := Nat.mul_le_mul_right (2 ^ s) (show x1 + 1 <= y from hx1)
  rwa [Nat.add_mul, Nat.one_mul] at this
 have hlo2 : x0 * 2 ^ s = x0 / 2 ^ (64 - s) * 18446744073709551616 + x0 * 2 ^ s % 18446744073709551616 := by
  have e := Nat.div_add_mod (x0 * 2 ^ s) 18446744073709551616
  have e2 : x0 * 2 ^ s / 18446744073709551616 = x0 / 2 ^ (64 - s) := by rw [<- hps, Nat.mul_div_mul_right _ _ h2s]
  rw [e2] at e
  omega
 have hor : x1 * 2 ^ s ||| x0 / 2 ^ (64 - s) = x1 * 2 ^ s + x0 / 2 ^ (64 - s) := or_add hmilt
 have hN : (x1 * 18446744073709551616 + x0) * 2 ^ s = (x1 * 2 ^ s + x0 / 2 ^ (64 - s)) * 18446744073709551616 + x0 * 2 ^ s % 18446744073709551616 := by
  rw [Nat.add_mul, hlo2, Nat.mul_right_comm]; omega
 obtain ⟨y', hy'⟩ : ∃ y', y' = y * 2 ^ s := ⟨_, rfl⟩
 obtain ⟨hi, hhi⟩ : ∃ x, x = x1 * 2 ^ s := ⟨_, rfl⟩
 obtain ⟨mi, hmi⟩ : ∃ x, x = x0 / 2 ^ (64 - s) := ⟨_, rfl⟩
 obtain ⟨lo, hlo⟩ : ∃ x, x = x0 * 2 ^ s % 18446744073709551616 := ⟨_, rfl⟩
 obtain ⟨u, hu⟩ : ∃ x, x = hi + mi := ⟨_, rfl⟩
 have hlolt : lo < 18446744073709551616 := by rw [hlo]; exact Nat.mod_lt _ (by decide)
 rw [<- hy'] at hy'lt hy'ge hhi1
 rw [<- hmi] at hmilt hor hN
 rw [<- hhi] at hhi1 hor hN
 rw [<- hlo, <- hu] at hN
 rw [<- hu] at hor
 have hs64 : s < 64 := by omega
 have hhi2 : hi < 18446744073709551616 := by omega
 have hmi2 : mi < 18446744073709551616 := by omega
 have huy : u < y' := by omega
 obtain ⟨Q1, t, Q0, z, g1, g2, g3, g4, g5, g6, g7, g8, g9, g10⟩ := div64_core h2s hy' hN huy hlolt hq hr
 obtain ⟨w1, w2⟩ := q_words g2 g6 g9
 obtain ⟨w3, w4⟩ := top_word hy'lt hy'ge
 have w5 := split32 y'
 refine ⟨Nat.le_of_lt hs64, 64 - s, y', hi, mi, lo, u, y' / 4294967296, y' % 4294967296, lo / 4294967296, lo % 4294967296, Q1, t, Q0, z, z / 2 ^ s, Q1 * 4294967296,
  ⟨cvtI hA (fun h => by cases h) (fun _ => by rw [p64]; exact Nat.lt_trans hs64 (by decide)), shl64 hA (Nat.le_of_lt hs64) (by rw [<- hy']; exact (Nat.mod_eq_of_lt hy'lt).symm), shr64 hA (s := 32) (by decide) rfl, and64 hA (b := 4294967295) hy'lt (by decide) (Nat.and_two_pow_sub_one_eq_mod y' 32).symm,
   shl64 hA (Nat.le_of_lt hs64) (by rw [<- hhi]; exact (Nat.mod_eq_of_lt hhi2).symm), sub64 hA (a := 64) (Nat.le_trans (Nat.le_of_lt hs64) (by decide)) ?_, shr64 hA (Nat.sub_le 64 s) hmi, or64 hA hhi2 hmi2 hor.symm, shl64 hA (Nat.le_of_lt hs64) hlo, shr64 hA (s := 32) (by decide) rfl, and64 hA (b := 4294967295) hlolt (by decide) (Nat.and_two_pow_sub_one_eq_mod lo 32).symm,
   shr64 hA (Nat.le_of_lt hs64) rfl, mul64 hA (b := 4294967296) w1, add64 hA w2⟩,
  w5, hy'lt, w3, w4, Nat.mod_lt _ (by decide), low_word hlolt, Nat.mod_lt _ (by decide), huy, by rw [w5]; exact g1, g2, g3, g4, by rw [w5]; exact g5, g6, g7, g8, ?_⟩
 ·clear hN hor hy' hhi hmi hlo hu g1 g2 g3 g4 g5 g6 g7 g8 g9 g10 w1 w2 w3 w4 w5 hpk hpk1 hps hlo2 hq hr hhi1 huy hmilt h2s h2s'
  omega
 ·rw [<- g10, Nat.mul_div_cancel _ h2s]
end
set_option maxHeartbeats 4000000 in
theorem cDiv64 {P : Program} (hP : P = Tryz.prog) (x1 x0 y q r : Nat) (hy : y < 18446744073709551616) (hx1 : x1 < y) (hx0 : x0 < 18446744073709551616) (hq : q = (x1 * 18446744073709551616 + x0) / y) (hr : r = (x1 * 18446744073709551616 + x0) % y) :
 Con P 182 [.int .u64 (Int.ofNat x1), .int .u64 (Int.ofNat x0), .int .u64 (Int.ofNat y)] [] 0 [] (fun v _ _ => v = .tup [.int .u64 (Int.ofNat q), .int .u64 (Int.ofNat r)]) := by
 refine Con.of (hP ▸ tblOk) (hP ▸ Tryz.func182) rfl rfl rfl rfl (by decide) rfl rfl (bdLB_bd _ rfl) (blks_bd rfl) ?_
 intro A g K hA hg hK
 obtain ⟨bin, _, cmp, _, _, _, nn, nz⟩ := A
 have hy0 : 0 < y := by omega
 have z1 : cmp .eql (Int.ofNat y) 0 = false := (eqlI hA y 0).trans (decide_eq_false (by omega))
 have z2 : cmp .leq (Int.ofNat y) (Int.ofNat x1) = false := (leqI hA y x1).trans (decide_eq_false (by omega))
 have z3 : cmp .eql (Int.ofNat x1) 0 = decide (x1 = 0) := eqlI hA x1 0
 have zn : ∀ x, x ≠ 0 -> nz (Int.ofNat x) = true := fun x h => nz_of hA (by intro e; exact h (Int.ofNat.inj e))
 have zs : ∀ x, nn (Int.ofNat x) = true := fun x => by
  have : nn = fun i => decide (0 <= i) := congrArg Ar.nn hA
  rw [this]; exact decide_eq_true (Int.natCast_nonneg x)
 cbv
 rw [z1]
 cbv
 rw [z2]
 cbv
 rw [z3]
 by_cases h0 : x1 = 0
 ·rw [decide_eq_true h0]
  subst h0
  rw [Nat.zero_mul, Nat.zero_add] at hq hr
  have e1 : bin .quo .u64 (Int.ofNat x0) (Int.ofNat y) = Int.ofNat q := quo64 hA hx0 hq
  have e2 : bin .rem .u64 (Int.ofNat x0) (Int.ofNat y) = Int.ofNat r := (remW hA x0 y).trans (by rw [hr])
  cbv
  refine reg_M (hP ▸ tblOk) hA hg (hP ▸ mixed) rfl rfl fun mk _ => ?_
  cbv
  rw [zn y (by omega)]
  cbv
  rw [e1]
  rw [zn y (by omega)]
  cbv
  rw [e2]
  exact hK _ _ _ rfl
 ·rw [decide_eq_false h0]
  obtain ⟨k, hk⟩ := bl_ex y
  obtain ⟨s, hs⟩ : ∃ s, s = 64 - k := ⟨_, rfl⟩
  obtain ⟨hs64, s', y', hi, mi, lo, u, a, b, v1, v0, Q1, t, Q0, z, z', q', hw, hyab, hy', ha, ha2, hb, hv1l, hv0l, huy, hQ1, hQ1l, htl, et, hQ0, hQ0l, hzl, ez, hrz⟩ := div64_words hA hy hx1 hx0 hq hr hk hs
  obtain ⟨m1, m2, m3, m4, m5, m6, m7, m8, m9, m10, m11, m12, m13, m14⟩ := hw
  dsimp only at m1 m2 m3 m4 m5 m6 m7 m8 m9 m10 m11 m12 m13 m14
  have hul : u < 18446744073709551616 := by omega
  have htl2 : t < 18446744073709551616 := by omega
  have ha0 : a ≠ 0 := by omega
  have hua : u < a * 4294967296 + b := by rw [hyab]; exact huy
  have hta : t < a * 4294967296 + b := by rw [hyab]; exact htl
  obtain ⟨N1, N2, N3, n1, n2, n3, n4⟩ := rest_words hA hQ1l hy' htl et
  obtain ⟨N4, N5, N6, n5, n6, n7, n8⟩ := rest_words hA hQ0l hy' hzl ez
  dsimp only at n1 n2 n3 n4 n5 n6 n7 n8
  clear hq hr z1 z2 z3 et ez hzl huy htl
  cbv
  refine call_val rfl hg rfl rfl (cLz64 hP y k hy hk) ?_
  rintro _ _ _ rfl
  rw [<- hs]
  cbv
  rw [m1]
  rw [zs s]
  cbv
  rw [m2, m3, m4, zs s]
  cbv
  rw [m5, m6, zs s']
  cbv
  rw [m7, m8, zs s]
  cbv
  rw [m9, m10, m11, zn a ha0]
  cbv
  obtain ⟨g0, hg0⟩ : ∃ x, x = u / a := ⟨_, rfl⟩
  obtain ⟨r0, hr0⟩ : ∃ x, x = u % a := ⟨_, rfl⟩
  obtain ⟨X, hX⟩ : ∃ x, x = g0 * a := ⟨_, rfl⟩
  obtain ⟨e1, e2, e3⟩ := start_words hA hul hg0 hr0 hX
  dsimp only at e1 e2 e3
  rw [e1, e2, e3]
  have hG := guess_start ha ha2 hb hv1l (u := u) (v := v1) hua
  rw [<- hg0, <- hr0, <- hQ1] at hG
  clear hg0 hr0 hX e1 e2 e3
  refine loop_by (Nat × Nat) (fun s => Guess a u Q1 s.1 s.2) (fun s => s.1) (fun s => [(15, .int .u64 (Int.ofNat s.1)), (16, .int .u64 (Int.ofNat s.2))]) [2, 8, 9, 10, 11, 13, 14] (fun _ => []) (g0, r0) hG ?_ ?_
  ·exact wkid
  rintro ⟨p, ρ⟩ hG
  have hG : Guess a u Q1 p ρ := hG
  obtain ⟨Z, Y, Y', ρ', p', hZ, hYd, hρ', hp', c1, c1', c3, c4, c5, c5', c6, c7, c8, c8', c2⟩ := guess_words hA hG ha2 hb hv1l
  dsimp only at c1 c1' c2 c3 c4 c5 c5' c6 c7 c8 c8'
  cbv
  by_cases h1 : 4294967296 <= p
  ·rw [c1 h1]
   have hd := guess_dec' (b := b) (v := v1) (r := ρ) hQ1 ha hQ1l hG (Or.inl h1)
   have d1 := hd.1
   have d2 := hd.2.1
   have d3 := hd.2.2.1
   have d4 := hd.2.2.2
   clear hd
   rw [<- hρ'] at d2
   cbv
   rw [c6 d1, c7]
   rw [<- hp'] at d2 d3 d4
   by_cases hbr : 4294967296 <= ρ'
   ·rw [c8 hbr]
    have hpQ : p' = Q1 := guess_break' hQ1 ha hb d2 d3 d4 hbr
    cbv
    rw [hpQ]
    clear hpQ
    rw [n1, n2, n3, n4, zn a ha0]
    cbv
    obtain ⟨g0, hg0⟩ : ∃ x, x = t / a := ⟨_, rfl⟩
    obtain ⟨r0, hr0⟩ : ∃ x, x = t % a := ⟨_, rfl⟩
    obtain ⟨X, hX⟩ : ∃ x, x = g0 * a := ⟨_, rfl⟩
    obtain ⟨e1, e2, e3⟩ := start_words hA htl2 hg0 hr0 hX
    dsimp only at e1 e2 e3
    rw [e1, e2, e3]
    have hG := guess_start ha ha2 hb hv0l (u := t) (v := v0) hta
    rw [<- hg0, <- hr0, <- hQ0] at hG
    clear hg0 hr0 hX e1 e2 e3
    refine loop_by (Nat × Nat) (fun s => Guess a t Q0 s.1 s.2) (fun s => s.1) (fun s => [(18, .int .u64 (Int.ofNat s.1)), (16, .int .u64 (Int.ofNat s.2))]) [2, 8, 9, 10, 14, 15, 17] (fun _ => []) (g0, r0) hG ?_ ?_
    ·exact wkid
    rintro ⟨p, ρ⟩ hG
    have hG : Guess a t Q0 p ρ := hG
    obtain ⟨Z, Y, Y', ρ', p', hZ, hYd, hρ', hp', c1, c1', c3, c4, c5, c5', c6, c7, c8, c8', c2⟩ := guess_words hA hG ha2 hb hv0l
    dsimp only at c1 c1' c2 c3 c4 c5 c5' c6 c7 c8 c8'
    cbv
    by_cases h1 : 4294967296 <= p
    ·rw [c1 h1]
     have hd := guess_dec' (b := b) (v := v0) (r := ρ) hQ0 ha hQ0l hG (Or.inl h1)
     have d1 := hd.1
     have d2 := hd.2.1
     have d3 := hd.2.2.1
     have d4 := hd.2.2.2
     clear hd
     rw [<- hρ'] at d2
     cbv
     rw [c6 d1, c7]
     rw [<- hp'] at d2 d3 d4
     by_cases hbr : 4294967296 <= ρ'
     ·rw [c8 hbr]
      have hpQ : p' = Q0 := guess_break' hQ0 ha hb d2 d3 d4 hbr
      cbv
      rw [hpQ]
      rw [m13, m14, n5, n6, n7, n8, zs s]
      cbv
      rw [m12, <- hrz]
      exact hK _ _ _ rfl
     ·rw [c8' hbr]
      cbv
      refine ⟨(p', ρ'), id, ⟨d2, d3, Nat.le_succ_of_le d4, Nat.lt_of_not_le hbr⟩, (by show p' < p; rw [hp']; exact Nat.sub_lt d1 (by decide)), ?_⟩
      exact wkid
    ·rw [c1' h1]
     have c2 := c2 (Nat.lt_of_not_le h1)
     cbv
     rw [c2, c3, c4]
     by_cases h2 : Y' < Z
     ·rw [c5 h2]
      rw [hZ, hYd] at h2
      have hd := guess_dec' (b := b) (v := v0) (r := ρ) hQ0 ha hQ0l hG (Or.inr h2)
      have d1 := hd.1
      have d2 := hd.2.1
      have d3 := hd.2.2.1
      have d4 := hd.2.2.2
      clear hd
      rw [<- hρ'] at d2
      cbv
      rw [c6 d1, c7]
      rw [<- hp'] at d2 d3 d4
      by_cases hbr : 4294967296 <= ρ'
      ·rw [c8 hbr]
       have hpQ : p' = Q0 := guess_break' hQ0 ha hb d2 d3 d4 hbr
       cbv
       rw [hpQ]
       rw [m13, m14, n5, n6, n7, n8, zs s]
       cbv
       rw [m12, <- hrz]
       exact hK _ _ _ rfl
      ·rw [c8' hbr]
       cbv
       refine ⟨(p', ρ'), id, ⟨d2, d3, Nat.le_succ_of_le d4, Nat.lt_of_not_le hbr⟩, (by show p' < p; rw [hp']; exact Nat.sub_lt d1 (by decide)), ?_⟩
       exact wkid
     ·rw [c5' h2]
      rw [hZ, hYd] at h2
      have hpQ : p = Q0 := guess_done' hQ0 ha hG (Nat.le_of_not_lt h2)
      cbv
      rw [hpQ]
      rw [m13, m14, n5, n6, n7, n8, zs s]
      cbv
      rw [m12, <- hrz]
      exact hK _ _ _ rfl
   ·rw [c8' hbr]
    cbv
    refine ⟨(p', ρ'), id, ⟨d2, d3, Nat.le_succ_of_le d4, Nat.lt_of_not_le hbr⟩, (by show p' < p; rw [hp']; exact Nat.sub_lt d1 (by decide)), ?_⟩
    exact wkid
  ·rw [c1' h1]
   have c2 := c2 (Nat.lt_of_not_le h1)
   cbv
   rw [c2, c3, c4]
   by_cases h2 : Y' < Z
   ·rw [c5 h2]
    rw [hZ, hYd] at h2
    have hd := guess_dec' (b := b) (v := v1) (r := ρ) hQ1 ha hQ1l hG (Or.inr h2)
    have d1 := hd.1
    have d2 := hd.2.1
    have d3 := hd.2.2.1
    have d4 := hd.2.2.2
    clear hd
    rw [<- hρ'] at d2
    cbv
    rw [c6 d1, c7]
    rw [<- hp'] at d2 d3 d4
    by_cases hbr : 4294967296 <= ρ'
    ·rw [c8 hbr]
     have hpQ : p' = Q1 := guess_break' hQ1 ha hb d2 d3 d4 hbr
     cbv
     rw [hpQ]
     clear hpQ
     rw [n1, n2, n3, n4, zn a ha0]
     cbv
     obtain ⟨g0, hg0⟩ : ∃ x, x = t / a := ⟨_, rfl⟩
     obtain ⟨r0, hr0⟩ : ∃ x, x = t % a := ⟨_, rfl⟩
     obtain ⟨X, hX⟩ : ∃ x, x = g0 * a := ⟨_, rfl⟩
     obtain ⟨e1, e2, e3⟩ := start_words hA htl2 hg0 hr0 hX
     dsimp only at e1 e2 e3
     rw [e1, e2, e3]
     have hG := guess_start ha ha2 hb hv0l (u := t) (v := v0) hta
     rw [<- hg0, <- hr0, <- hQ0] at hG
     clear hg0 hr0 hX e1 e2 e3
     refine loop_by (Nat × Nat) (fun s => Guess a t Q0 s.1 s.2) (fun s => s.1) (fun s => [(18, .int .u64 (Int.ofNat s.1)), (16, .int .u64 (Int.ofNat s.2))]) [2, 8, 9, 10, 14, 15, 17] (fun _ => []) (g0, r0) hG ?_ ?_
     ·exact wkid
     rintro ⟨p, ρ⟩ hG
     have hG : Guess a t Q0 p ρ := hG
     obtain ⟨Z, Y, Y', ρ', p', hZ, hYd, hρ', hp', c1, c1', c3, c4, c5, c5', c6, c7, c8, c8', c2⟩ := guess_words hA hG ha2 hb hv0l
     dsimp only at c1 c1' c2 c3 c4 c5 c5' c6 c7 c8 c8'
     cbv
     by_cases h1 : 4294967296 <= p
     ·rw [c1 h1]
      have hd := guess_dec' (b := b) (v := v0) (r := ρ) hQ0 ha hQ0l hG (Or.inl h1)
      have d1 := hd.1
      have d2 := hd.2.1
      have d3 := hd.2.2.1
      have d4 := hd.2.2.2
      clear hd
      rw [<- hρ'] at d2
      cbv
      rw [c6 d1, c7]
      rw [<- hp'] at d2 d3 d4
      by_cases hbr : 4294967296 <= ρ'
      ·rw [c8 hbr]
       have hpQ : p' = Q0 := guess_break' hQ0 ha hb d2 d3 d4 hbr
       cbv
       rw [hpQ]
       rw [m13, m14, n5, n6, n7, n8, zs s]
       cbv
       rw [m12, <- hrz]
       exact hK _ _ _ rfl
      ·rw [c8' hbr]
       cbv
       refine ⟨(p', ρ'), id, ⟨d2, d3, Nat.le_succ_of_le d4, Nat.lt_of_not_le hbr⟩, (by show p' < p; rw [hp']; exact Nat.sub_lt d1 (by decide)), ?_⟩
       exact wkid
     ·rw [c1' h1]
      have c2 := c2 (Nat.lt_of_not_le h1)
      cbv
      rw [c2, c3, c4]
      by_cases h2 : Y' < Z
      ·rw [c5 h2]
       rw [hZ, hYd] at h2
       have hd := guess_dec' (b := b) (v := v0) (r := ρ) hQ0 ha hQ0l hG (Or.inr h2)
       have d1 := hd.1
       have d2 := hd.2.1
       have d3 := hd.2.2.1
       have d4 := hd.2.2.2
       clear hd
       rw [<- hρ'] at d2
       cbv
       rw [c6 d1, c7]
       rw [<- hp'] at d2 d3 d4
       by_cases hbr : 4294967296 <= ρ'
       ·rw [c8 hbr]
        have hpQ : p' = Q0 := guess_break' hQ0 ha hb d2 d3 d4 hbr
        cbv
        rw [hpQ]
        rw [m13, m14, n5, n6, n7, n8, zs s]
        cbv
        rw [m12, <- hrz]
        exact hK _ _ _ rfl
       ·rw [c8' hbr]
        cbv
        refine ⟨(p', ρ'), id, ⟨d2, d3, Nat.le_succ_of_le d4, Nat.lt_of_not_le hbr⟩, (by show p' < p; rw [hp']; exact Nat.sub_lt d1 (by decide)), ?_⟩
        exact wkid
      ·rw [c5' h2]
       rw [hZ, hYd] at h2
       have hpQ : p = Q0 := guess_done' hQ0 ha hG (Nat.le_of_not_lt h2)
       cbv
       rw [hpQ]
       rw [m13, m14, n5, n6, n7, n8, zs s]
       cbv
       rw [m12, <- hrz]
       exact hK _ _ _ rfl
    ·rw [c8' hbr]
     cbv
     refine ⟨(p', ρ'), id, ⟨d2, d3, Nat.le_succ_of_le d4, Nat.lt_of_not_le hbr⟩, (by show p' < p; rw [hp']; exact Nat.sub_lt d1 (by decide)), ?_⟩
     exact wkid
   ·rw [c5' h2]
    rw [hZ, hYd] at h2
    have hpQ : p = Q1 := guess_done' hQ1 ha hG (Nat.le_of_not_lt h2)
    cbv
    rw [hpQ]
    clear hpQ
    rw [n1, n2, n3, n4, zn a ha0]
    cbv
    obtain ⟨g0, hg0⟩ : ∃ x, x = t / a := ⟨_, rfl⟩
    obtain ⟨r0, hr0⟩ : ∃ x, x = t % a := ⟨_, rfl⟩
    obtain ⟨X, hX⟩ : ∃ x, x = g0 * a := ⟨_, rfl⟩
    obtain ⟨e1, e2, e3⟩ := start_words hA htl2 hg0 hr0 hX
    dsimp only at e1 e2 e3
    rw [e1, e2, e3]
    have hG := guess_start ha ha2 hb hv0l (u := t) (v := v0) hta
    rw [<- hg0, <- hr0, <- hQ0] at hG
    clear hg0 hr0 hX e1 e2 e3
    refine loop_by (Nat × Nat) (fun s => Guess a t Q0 s.1 s.2) (fun s => s.1) (fun s => [(18, .int .u64 (Int.ofNat s.1)), (16, .int .u64 (Int.ofNat s.2))]) [2, 8, 9, 10, 14, 15, 17] (fun _ => []) (g0, r0) hG ?_ ?_
    ·exact wkid
    rintro ⟨p, ρ⟩ hG
    have hG : Guess a t Q0 p ρ := hG
    obtain ⟨Z, Y, Y', ρ', p', hZ, hYd, hρ', hp', c1, c1', c3, c4, c5, c5', c6, c7, c8, c8', c2⟩ := guess_words hA hG ha2 hb hv0l
    dsimp only at c1 c1' c2 c3 c4 c5 c5' c6 c7 c8 c8'
    cbv
    by_cases h1 : 4294967296 <= p
    ·rw [c1 h1]
     have hd := guess_dec' (b := b) (v := v0) (r := ρ) hQ0 ha hQ0l hG (Or.inl h1)
     have d1 := hd.1
     have d2 := hd.2.1
     have d3 := hd.2.2.1
     have d4 := hd.2.2.2
     clear hd
     rw [<- hρ'] at d2
     cbv
     rw [c6 d1, c7]
     rw [<- hp'] at d2 d3 d4
     by_cases hbr : 4294967296 <= ρ'
     ·rw [c8 hbr]
      have hpQ : p' = Q0 := guess_break' hQ0 ha hb d2 d3 d4 hbr
      cbv
      rw [hpQ]
      rw [m13, m14, n5, n6, n7, n8, zs s]
      cbv
      rw [m12, <- hrz]
      exact hK _ _ _ rfl
     ·rw [c8' hbr]
      cbv
      refine ⟨(p', ρ'), id, ⟨d2, d3, Nat.le_succ_of_le d4, Nat.lt_of_not_le hbr⟩, (by show p' < p; rw [hp']; exact Nat.sub_lt d1 (by decide)), ?_⟩
      exact wkid
    ·rw [c1' h1]
     have c2 := c2 (Nat.lt_of_not_le h1)
     cbv
     rw [c2, c3, c4]
     by_cases h2 : Y' < Z
     ·rw [c5 h2]
      rw [hZ, hYd] at h2
      have hd := guess_dec' (b := b) (v := v0) (r := ρ) hQ0 ha hQ0l hG (Or.inr h2)
      have d1 := hd.1
      have d2 := hd.2.1
      have d3 := hd.2.2.1
      have d4 := hd.2.2.2
      clear hd
      rw [<- hρ'] at d2
      cbv
      rw [c6 d1, c7]
      rw [<- hp'] at d2 d3 d4
      by_cases hbr : 4294967296 <= ρ'
      ·rw [c8 hbr]
       have hpQ : p' = Q0 := guess_break' hQ0 ha hb d2 d3 d4 hbr
       cbv
       rw [hpQ]
       rw [m13, m14, n5, n6, n7, n8, zs s]
       cbv
       rw [m12, <- hrz]
       exact hK _ _ _ rfl
      ·rw [c8' hbr]
       cbv
       refine ⟨(p', ρ'), id, ⟨d2, d3, Nat.le_succ_of_le d4, Nat.lt_of_not_le hbr⟩, (by show p' < p; rw [hp']; exact Nat.sub_lt d1 (by decide)), ?_⟩
       exact wkid
     ·rw [c5' h2]
      rw [hZ, hYd] at h2
      have hpQ : p = Q0 := guess_done' hQ0 ha hG (Nat.le_of_not_lt h2)
      cbv
      rw [hpQ]
      rw [m13, m14, n5, n6, n7, n8, zs s]
      cbv
      rw [m12, <- hrz]
      exact hK _ _ _ rfl
def Vw (at_ n : Nat) (f : Nat -> Nat) : Nat := V n (fun i => f (at_ + i))
theorem Vw_snoc (at_ n : Nat) (f : Nat -> Nat) : Vw at_ (n + 1) f = Vw at_ n f + f (at_ + n) * 18446744073709551616 ^ n := rfl
theorem Vw_upd {at_ n v : Nat} {f : Nat -> Nat} : Vw at_ (n + 1) (fun j => if j = at_ + n then v else f j) = Vw at_ n f + v * 18446744073709551616 ^ n := by
 rw [Vw_snoc]
 simp only [if_pos]
 congr 1
 exact Dg.num_congr n fun i hi => if_neg (by omega)
theorem Vw_lt {at_ n N : Nat} {f : Nat -> Nat} (h : Wn N f) (hn : at_ + n <= N) : Vw at_ n f < 18446744073709551616 ^ n := V_lt fun j hj => h (at_ + j) (by omega)
section
variable {A : Ar}
theorem getWx (hA : A = Ar.real) (K : IntKind) {n : Nat} (f : Nat -> Nat) (E : List SV) {k : Nat} (h : k < n) : A.get (lst K (fun j => Int.ofNat (f j)) 0 n ++ E) k = some (.int K (Int.ofNat (f k))) := by
 rw [get_of hA, List.getElem?_append_left (by rw [lst_length]; exact h), lst_get _ _ h, Nat.zero_add]
end
def dcells (d : Nat -> Nat) (n s : Nat) : List SV := lst .u64 (fun j => Int.ofNat (d j)) 0 9 ++ [.int .i64 (Int.ofNat n), .int .i64 (Int.ofNat s)]
set_option maxHeartbeats 1000000 in
theorem cBack {P : Program} (hP : P = Tryz.prog) {t : TypeId} (d f : Nat -> Nat) (n s at_ : Nat) (hd : Wn 9 d) (hf : Wn 19 f) (hn : n <= 9) (hat : at_ + n < 19) :
 Con P 177 [.ptr 0 0, .slice 1 0 19 19, .int .i64 (Int.ofNat at_)] [⟨0, dcells d n s, 215⟩, ⟨1, ws f 19, t⟩] 2 [1]
  (fun v L m => ∃ q c, Wn 19 q /\ c <= 1 /\ (∀ j, j < at_ \/ at_ + n < j -> q j = f j) /\ Vw at_ (n + 1) q + c * 18446744073709551616 ^ (n + 1) = Vw at_ (n + 1) f + V n d /\ v = .bool (decide (c = 1)) /\ L = [⟨0, dcells d n s, 215⟩, ⟨1, ws q 19, t⟩] /\ m = 2) := by
 refine Con.of (hP ▸ tblOk) (hP ▸ Tryz.func177) rfl rfl rfl rfl (by decide) rfl rfl (bdLB_bd _ rfl) (blks_bd rfl) ?_
 intro A g K hA hg hK
 obtain ⟨bin, _, cmp, _, _, ix, _, _, _, _, _, _, _, _, _, off⟩ := A
 have f1t : ∀ x y, x < y -> cmp .lss (Int.ofNat x) (Int.ofNat y) = true := fun x y h => lss_t hA h
 have f1f : ∀ x y, ¬ x < y -> cmp .lss (Int.ofNat x) (Int.ofNat y) = false := fun x y h => lss_f hA h
 have f2 : ∀ i, i < 9 -> ix (Int.ofNat i) 9 = some i := fun i h => ix_of hA h
 have f2' : ∀ i, i < 19 -> ix (Int.ofNat i) 19 = some i := fun i h => ix_of hA h
 have f3 : ∀ i, off 0 i 1 = i := fun i => (off_of hA 0 i 1).trans (by omega)
 have f4 := fun (f : Nat -> Nat) (E : List SV) (k : Nat) (h : k < 9) => getWx hA .u64 (n := 9) f E h
 have f4' := fun (f : Nat -> Nat) (k : Nat) (h : k < 19) => getW hA .u64 (n := 19) f h
 have f5 := fun (f g : Nat -> Nat) (k v : Nat) (h : k < 19) (e : g = fun j => if j = k then v else f j) => splW hA .u64 (n := 19) f g h e
 have f6 : ∀ i, i < 9 -> bin .add .i64 (Int.ofNat i) 1 = Int.ofNat (i + 1) := fun i h => add_of hA (by omega)
 have f8 : ∀ x y, x + y < 19 -> bin .add .i64 (Int.ofNat x) (Int.ofNat y) = Int.ofNat (x + y) := fun x y h => addI hA (by omega)
 simp only [lst, Nat.reduceAdd, List.cons_append, List.nil_append] at f4 f4' f5
 cbv
 refine loop_by (Nat × (Nat -> Nat) × Nat) (fun s => s.1 <= n /\ Wn 19 s.2.1 /\ s.2.2 <= 1 /\ (∀ j, j < at_ \/ at_ + s.1 <= j -> s.2.1 j = f j) /\ Vw at_ s.1 s.2.1 + s.2.2 * 18446744073709551616 ^ s.1 = Vw at_ s.1 f + V s.1 d) (fun s => n - s.1)
  (fun s => [(13, .int .i64 (Int.ofNat s.1)), (7, .int .u64 (Int.ofNat s.2.2))]) [0, 1, 2, 6, 12] (fun s => [(1, ws s.2.1 19)]) (0, f, 0) ⟨Nat.zero_le _, hf, Nat.zero_le _, fun _ _ => rfl, rfl⟩ ?_ ?_
 ·exact wkid
 rintro ⟨i, q, c⟩ ⟨hi, hq, hc, hqf, hv⟩
 have hi : i <= n := hi
 have hq : Wn 19 q := hq
 have hc : c <= 1 := hc
 have hqf : ∀ j, j < at_ \/ at_ + i <= j -> q j = f j := hqf
 have hv : Vw at_ i q + c * 18446744073709551616 ^ i = Vw at_ i f + V i d := hv
 cbv
 by_cases hlt : i < n
 ·rw [f1t i n hlt]
  have i9 : i < 9 := by omega
  have e8 := f8 at_ i (by omega)
  obtain ⟨k, hk⟩ : ∃ k, k = at_ + i := ⟨_, rfl⟩
  rw [<- hk] at e8
  have k19 : k < 19 := by omega
  obtain ⟨w, hw⟩ : ∃ w, w = (q k + d i + c) % 18446744073709551616 := ⟨_, rfl⟩
  obtain ⟨c', hc'⟩ : ∃ w, w = (q k + d i + c) / 18446744073709551616 := ⟨_, rfl⟩
  obtain ⟨q', hq'⟩ : ∃ q' : Nat -> Nat, q' = fun j => if j = k then w else q j := ⟨_, rfl⟩
  have e4 := f4 d [.int .i64 (Int.ofNat n), .int .i64 (Int.ofNat s)] i i9
  cbv
  refine reg_M (hP ▸ tblOk) hA hg (hP ▸ mixed) rfl rfl fun mk _ => ?_
  cbv
  rw [e8]
  cbv
  rw [f2' k k19]
  cbv
  rw [f3 k, f4' q k k19]
  cbv
  rw [f2 i i9]
  cbv
  rw [f3 i, e4]
  cbv
  refine stepD (en_ext rfl hg rfl rfl (xAdd64 hP (q k) (d i) c w c' hc hw hc')) ?_
  cbv
  rw [f2' k k19]
  cbv
  rw [f3 k, f5 q q' k w k19 hq']
  cbv
  rw [f6 i i9]
  refine ⟨(i + 1, q', c'), id, ⟨hlt, ?_, ?_, ?_, ?_⟩, (by show n - (i + 1) < n - i; omega), ?_⟩
  ·intro j hj
   show q' j < _
   rw [hq']
   by_cases hjk : j = k
   ·simp only [hjk, if_pos]; rw [hw]; exact Nat.mod_lt _ (by decide)
   ·simp only [if_neg hjk]; exact hq j hj
  ·have h1 := hq k k19
   have h2 := hd i i9
   show c' <= 1
   rw [hc']; omega
  ·intro j hj
   have hj : j < at_ \/ at_ + (i + 1) <= j := hj
   show q' j = f j
   rw [hq']
   simp only [if_neg (show j ≠ k by omega)]
   exact hqf j (by omega)
  ·show Vw at_ (i + 1) q' + c' * 18446744073709551616 ^ (i + 1) = Vw at_ (i + 1) f + V (i + 1) d
   rw [hq', hk, Vw_upd, Vw_snoc at_ i f, num_snoc d]
   have h1 : q k = f k := hqf k (by omega)
   rw [hk] at h1
   rw [hk, h1] at hw hc'
   exact add_word hv hw hc' (Nat.pow_succ ..)
  ·exact wkid
 ·rw [f1f i n hlt]
  obtain rfl : i = n := by omega
  have e8 := f8 at_ i (by omega)
  obtain ⟨k, hk⟩ : ∃ k, k = at_ + i := ⟨_, rfl⟩
  rw [<- hk] at e8
  have k19 : k < 19 := by omega
  obtain ⟨w, hw⟩ : ∃ w, w = (q k + 0 + c) % 18446744073709551616 := ⟨_, rfl⟩
  obtain ⟨c', hc'⟩ : ∃ w, w = (q k + 0 + c) / 18446744073709551616 := ⟨_, rfl⟩
  obtain ⟨q', hq'⟩ : ∃ q' : Nat -> Nat, q' = fun j => if j = k then w else q j := ⟨_, rfl⟩
  obtain ⟨o, ho⟩ : ∃ o, o = decide (c' = 1) := ⟨_, rfl⟩
  have e9 : cmp .eql (Int.ofNat c') 1 = o := (eqlI hA c' 1).trans ho.symm
  cbv
  refine reg_M (hP ▸ tblOk) hA hg (hP ▸ mixed) rfl rfl fun mk _ => ?_
  cbv
  rw [e8]
  cbv
  rw [f2' k k19]
  cbv
  rw [f3 k, f4' q k k19]
  cbv
  refine stepD (en_ext rfl hg rfl rfl (xAdd64 hP (q k) 0 c w c' hc hw hc')) ?_
  cbv
  rw [f2' k k19]
  cbv
  rw [f3 k, f5 q q' k w k19 hq']
  cbv
  rw [e9]
  refine hK _ _ _ ⟨q', c', ?_, ?_, ?_, ?_, by rw [ho]; rfl, rfl, rfl⟩
  ·intro j hj
   rw [hq']
   by_cases hjk : j = k
   ·simp only [hjk, if_pos]; rw [hw]; exact Nat.mod_lt _ (by decide)
   ·simp only [if_neg hjk]; exact hq j hj
  ·have h1 := hq k k19
   rw [hc']; omega
  ·intro j hj
   rw [hq']
   simp only [if_neg (show j ≠ k by omega)]
   exact hqf j (by omega)
  ·rw [hq', hk, Vw_upd, Vw_snoc at_ i f]
   have h1 : q k = f k := hqf k (by omega)
   rw [hk] at h1
   rw [hk, h1] at hw hc'
   have h2 := add_word hv hw hc' (Nat.pow_succ ..)
   rw [Nat.zero_mul, Nat.add_zero] at h2
   rw [h2]
theorem take_word {x y c h l l1 c1 : Nat} (hx : x < 18446744073709551616) (hy : y < 18446744073709551616) (hc : c < 18446744073709551616) (hh : h = x * y / 18446744073709551616) (hl : l = x * y % 18446744073709551616)
 (hl1 : l1 = (l + c + 0) % 18446744073709551616) (hc1 : c1 = (l + c + 0) / 18446744073709551616) :
 x * y + c = l1 + (h + c1) * 18446744073709551616 /\ h + c1 < 18446744073709551616 /\ l1 < 18446744073709551616 := by
 have h1 : x * y <= 18446744073709551615 * 18446744073709551615 := Nat.mul_le_mul (by omega) (by omega)
 generalize x * y = p at *
 omega
theorem sub_one_word {w x y c s : Nat} (hx : x < 18446744073709551616) (hy : y < 18446744073709551616) (hc : c <= 1) (hw : w = (x + 18446744073709551616 - y - c) % 18446744073709551616) (hs : s = if x < y + c then 1 else 0) : w + y + c = x + s * 18446744073709551616 /\ s <= 1 /\ w < 18446744073709551616 := by
 subst hs
 split <;> omega
theorem take_step {Vq Vf D qq b c P w l fi di b' c' : Nat} (hv : Vq + qq * D = Vf + (b + c) * P) (e1 : qq * di + c = l + c' * 18446744073709551616) (e2 : w + l + b = fi + b' * 18446744073709551616) : Vq + w * P + qq * (D + di * P) = (Vf + fi * P) + (b' + c') * (P * 18446744073709551616) := by
 have h1 : Vq + w * P + qq * (D + di * P) = (Vq + qq * D) + (w + qq * di) * P := by grind
 have h2 : (Vf + fi * P) + (b' + c') * (P * 18446744073709551616) = Vf + (fi + b' * 18446744073709551616 + c' * 18446744073709551616) * P := by grind
 rw [h1, h2, hv, <- e2]
 have h3 : (w + l + b + c' * 18446744073709551616) * P = (w + b + (l + c' * 18446744073709551616)) * P := by congr 1; omega
 rw [h3, <- e1]
 grind
theorem take_last {Vq Vf X b c P w fi b' : Nat} (hv : Vq + X = Vf + (b + c) * P) (e2 : w + c + b = fi + b' * 18446744073709551616) : Vq + w * P + X = (Vf + fi * P) + b' * (P * 18446744073709551616) := by
 have h1 : Vq + w * P + X = (Vq + X) + w * P := by omega
 have h2 : (Vf + fi * P) + b' * (P * 18446744073709551616) = Vf + (fi + b' * 18446744073709551616) * P := by grind
 rw [h1, h2, hv, <- e2]
 grind
set_option maxHeartbeats 1000000 in
theorem cTake {P : Program} (hP : P = Tryz.prog) {t : TypeId} (d f : Nat -> Nat) (n s at_ x : Nat) (hd : Wn 9 d) (hf : Wn 19 f) (hn : n <= 9) (hat : at_ + n < 19) (hx : x < 18446744073709551616) :
 Con P 176 [.ptr 0 0, .slice 1 0 19 19, .int .i64 (Int.ofNat at_), .int .u64 (Int.ofNat x)] [⟨0, dcells d n s, 215⟩, ⟨1, ws f 19, t⟩] 2 [1]
  (fun v L m => ∃ q c, Wn 19 q /\ c <= 1 /\ (∀ j, j < at_ \/ at_ + n < j -> q j = f j) /\ Vw at_ (n + 1) q + x * V n d = Vw at_ (n + 1) f + c * 18446744073709551616 ^ (n + 1) /\ v = .bool (decide (c = 1)) /\ L = [⟨0, dcells d n s, 215⟩, ⟨1, ws q 19, t⟩] /\ m = 2) := by
 refine Con.of (hP ▸ tblOk) (hP ▸ Tryz.func176) rfl rfl rfl rfl (by decide) rfl rfl (bdLB_bd _ rfl) (blks_bd rfl) ?_
 intro A g K hA hg hK
 obtain ⟨bin, _, cmp, _, _, ix, _, _, _, _, _, _, _, _, _, off⟩ := A
 have f1t : ∀ x y, x < y -> cmp .lss (Int.ofNat x) (Int.ofNat y) = true := fun x y h => lss_t hA h
 have f1f : ∀ x y, ¬ x < y -> cmp .lss (Int.ofNat x) (Int.ofNat y) = false := fun x y h => lss_f hA h
 have f2 : ∀ i, i < 9 -> ix (Int.ofNat i) 9 = some i := fun i h => ix_of hA h
 have f2' : ∀ i, i < 19 -> ix (Int.ofNat i) 19 = some i := fun i h => ix_of hA h
 have f3 : ∀ i, off 0 i 1 = i := fun i => (off_of hA 0 i 1).trans (by omega)
 have f4 := fun (f : Nat -> Nat) (E : List SV) (k : Nat) (h : k < 9) => getWx hA .u64 (n := 9) f E h
 have f4' := fun (f : Nat -> Nat) (k : Nat) (h : k < 19) => getW hA .u64 (n := 19) f h
 have f5 := fun (f g : Nat -> Nat) (k v : Nat) (h : k < 19) (e : g = fun j => if j = k then v else f j) => splW hA .u64 (n := 19) f g h e
 have f6 : ∀ i, i < 9 -> bin .add .i64 (Int.ofNat i) 1 = Int.ofNat (i + 1) := fun i h => add_of hA (by omega)
 have f7 : ∀ x y, x + y < 18446744073709551616 -> bin .add .u64 (Int.ofNat x) (Int.ofNat y) = Int.ofNat (x + y) := fun x y h => addU hA h
 have f8 : ∀ x y, x + y < 19 -> bin .add .i64 (Int.ofNat x) (Int.ofNat y) = Int.ofNat (x + y) := fun x y h => addI hA (by omega)
 simp only [lst, Nat.reduceAdd, List.cons_append, List.nil_append] at f4 f4' f5
 cbv
 refine loop_by (Nat × (Nat -> Nat) × Nat × Nat) (fun s => s.1 <= n /\ Wn 19 s.2.1 /\ s.2.2.1 <= 1 /\ s.2.2.2 < 18446744073709551616 /\ (∀ j, j < at_ \/ at_ + s.1 <= j -> s.2.1 j = f j) /\ Vw at_ s.1 s.2.1 + x * V s.1 d = Vw at_ s.1 f + (s.2.2.1 + s.2.2.2) * 18446744073709551616 ^ s.1) (fun s => n - s.1)
  (fun s => [(19, .int .i64 (Int.ofNat s.1)), (9, .int .u64 (Int.ofNat s.2.2.1)), (10, .int .u64 (Int.ofNat s.2.2.2))]) [0, 1, 2, 3, 8, 18] (fun s => [(1, ws s.2.1 19)]) (0, f, 0, 0) ⟨Nat.zero_le _, hf, Nat.zero_le _, by show 0 < _; decide, fun _ _ => rfl, ?_⟩ ?_ ?_
 ·show Vw at_ 0 f + x * V 0 d = Vw at_ 0 f + (0 + 0) * _
  rw [show V 0 d = 0 from rfl]; simp
 ·exact wkid
 rintro ⟨i, q, b, c⟩ ⟨hi, hq, hb, hc, hqf, hv⟩
 have hi : i <= n := hi
 have hq : Wn 19 q := hq
 have hb : b <= 1 := hb
 have hc : c < 18446744073709551616 := hc
 have hqf : ∀ j, j < at_ \/ at_ + i <= j -> q j = f j := hqf
 have hv : Vw at_ i q + x * V i d = Vw at_ i f + (b + c) * 18446744073709551616 ^ i := hv
 cbv
 by_cases hlt : i < n
 ·rw [f1t i n hlt]
  have i9 : i < 9 := by omega
  have e8 := f8 at_ i (by omega)
  obtain ⟨k, hk⟩ : ∃ k, k = at_ + i := ⟨_, rfl⟩
  rw [<- hk] at e8
  have k19 : k < 19 := by omega
  obtain ⟨h, hh⟩ : ∃ h, h = x * d i / 18446744073709551616 := ⟨_, rfl⟩
  obtain ⟨l, hl⟩ : ∃ l, l = x * d i % 18446744073709551616 := ⟨_, rfl⟩
  obtain ⟨l1, hl1⟩ : ∃ y, y = (l + c + 0) % 18446744073709551616 := ⟨_, rfl⟩
  obtain ⟨c1, hc1⟩ : ∃ y, y = (l + c + 0) / 18446744073709551616 := ⟨_, rfl⟩
  obtain ⟨w1, w2, w3⟩ := take_word hx (hd i i9) hc hh hl hl1 hc1
  have e7 := f7 h c1 w2
  obtain ⟨cc, hcc⟩ : ∃ y, y = h + c1 := ⟨_, rfl⟩
  rw [<- hcc] at e7 w1 w2
  obtain ⟨w, hw⟩ : ∃ w, w = (q k + 18446744073709551616 - l1 - b) % 18446744073709551616 := ⟨_, rfl⟩
  obtain ⟨b', hb'⟩ : ∃ w, w = if q k < l1 + b then 1 else 0 := ⟨_, rfl⟩
  obtain ⟨u1, u2, u3⟩ := sub_one_word (hq k k19) w3 hb hw hb'
  obtain ⟨q', hq'⟩ : ∃ q' : Nat -> Nat, q' = fun j => if j = k then w else q j := ⟨_, rfl⟩
  have e4 := f4 d [.int .i64 (Int.ofNat n), .int .i64 (Int.ofNat s)] i i9
  cbv
  rw [f2 i i9]
  cbv
  rw [f3 i, e4]
  cbv
  refine call_val rfl hg rfl rfl (cMul64 hP x (d i) h l hx (hd i i9) hh hl) ?_
  rintro _ _ _ rfl
  cbv
  refine step_ext rfl hg rfl rfl (xAdd64 hP l c 0 l1 c1 (by decide) hl1 hc1) ?_
  cbv
  rw [e7, e8]
  rw [f2' k k19]
  cbv
  rw [f3 k, f4' q k k19]
  cbv
  refine step_ext rfl hg rfl rfl (xSub64 hP (q k) l1 b w b' hb hw hb') ?_
  cbv
  rw [f2' k k19]
  cbv
  rw [f3 k, f5 q q' k w k19 hq']
  cbv
  rw [f6 i i9]
  refine ⟨(i + 1, q', b', cc), id, ⟨hlt, ?_, u2, w2, ?_, ?_⟩, (by show n - (i + 1) < n - i; omega), ?_⟩
  ·intro j hj
   show q' j < _
   rw [hq']
   by_cases hjk : j = k
   ·simp only [hjk, if_pos]; exact u3
   ·simp only [if_neg hjk]; exact hq j hj
  ·intro j hj
   have hj : j < at_ \/ at_ + (i + 1) <= j := hj
   show q' j = f j
   rw [hq']
   simp only [if_neg (show j ≠ k by omega)]
   exact hqf j (by omega)
  ·show Vw at_ (i + 1) q' + x * V (i + 1) d = Vw at_ (i + 1) f + (b' + cc) * 18446744073709551616 ^ (i + 1)
   rw [hq', hk, Vw_upd, Vw_snoc at_ i f, num_snoc d]
   have h1 : q k = f k := hqf k (by omega)
   rw [h1, hk] at u1
   exact take_step hv w1 u1
  ·exact wkid
 ·rw [f1f i n hlt]
  obtain rfl : i = n := by omega
  have e8 := f8 at_ i (by omega)
  obtain ⟨k, hk⟩ : ∃ k, k = at_ + i := ⟨_, rfl⟩
  rw [<- hk] at e8
  have k19 : k < 19 := by omega
  obtain ⟨w, hw⟩ : ∃ w, w = (q k + 18446744073709551616 - c - b) % 18446744073709551616 := ⟨_, rfl⟩
  obtain ⟨b', hb'⟩ : ∃ w, w = if q k < c + b then 1 else 0 := ⟨_, rfl⟩
  obtain ⟨u1, u2, u3⟩ := sub_one_word (hq k k19) hc hb hw hb'
  obtain ⟨q', hq'⟩ : ∃ q' : Nat -> Nat, q' = fun j => if j = k then w else q j := ⟨_, rfl⟩
  obtain ⟨o, ho⟩ : ∃ o, o = decide (b' = 1) := ⟨_, rfl⟩
  have e9 : cmp .eql (Int.ofNat b') 1 = o := (eqlI hA b' 1).trans ho.symm
  cbv
  refine reg_M (hP ▸ tblOk) hA hg (hP ▸ mixed) rfl rfl fun mk _ => ?_
  cbv
  rw [e8]
  cbv
  rw [f2' k k19]
  cbv
  rw [f3 k, f4' q k k19]
  cbv
  refine stepD (en_ext rfl hg rfl rfl (xSub64 hP (q k) c b w b' hb hw hb')) ?_
  cbv
  rw [f2' k k19]
  cbv
  rw [f3 k, f5 q q' k w k19 hq']
  cbv
  rw [e9]
  refine hK _ _ _ ⟨q', b', ?_, u2, ?_, ?_, by rw [ho]; rfl, rfl, rfl⟩
  ·intro j hj
   rw [hq']
   by_cases hjk : j = k
   ·simp only [hjk, if_pos]; exact u3
   ·simp only [if_neg hjk]; exact hq j hj
  ·intro j hj
   rw [hq']
   simp only [if_neg (show j ≠ k by omega)]
   exact hqf j (by omega)
  ·rw [hq', hk, Vw_upd, Vw_snoc at_ i f]
   have h1 : q k = f k := hqf k (by omega)
   rw [h1, hk] at u1
   exact take_last hv u1
end Go.Proofs.YtdhmihfefgcbeaaGreat
end
