/-
  This text proves what these texts prove: MoA. Conditions: those of each theorem.
-/
import Derived.Test.YtdhmihfefgcbeaaGreatW15
section
/-! primes by n + 1: Morrison's law -/
namespace EC
open Pr
variable {p : Nat} [NeZero p]
def fsm (f : Nat -> Fin p) : Nat -> Fin p
 | 0 => 0
 | n + 1 => fsm f n + f n
theorem fsm_congr {f g : Nat -> Fin p} : ∀ n, (∀ i, i < n -> f i = g i) -> fsm f n = fsm g n
 | 0, _ => rfl
 | n + 1, h => by simp only [fsm]; rw [fsm_congr n (fun i hi => h i (by omega)), h n (by omega)]
theorem fsm_add (f g : Nat -> Fin p) : ∀ n, fsm (fun i => f i + g i) n = fsm f n + fsm g n
 | 0 => by show (0 : Fin p) = 0 + 0; grobner
 | n + 1 => by simp only [fsm, fsm_add f g n]; grobner
theorem fsm_mul (c : Fin p) (f : Nat -> Fin p) : ∀ n, fsm (fun i => c * f i) n = c * fsm f n
 | 0 => by show (0 : Fin p) = c * 0; grobner
 | n + 1 => by simp only [fsm, fsm_mul c f n]; grobner
theorem fsm_front (f : Nat -> Fin p) : ∀ n, fsm f (n + 1) = f 0 + fsm (fun i => f (i + 1)) n
 | 0 => by show (0 : Fin p) + f 0 = f 0 + 0; grobner
 | n + 1 => by
   show fsm f (n + 1) + f (n + 1) = _
   rw [fsm_front f n]
   simp only [fsm]
   grobner
theorem fsm_last (f : Nat -> Fin p) (m n : Nat) (h : m = n + 1) : fsm f m = fsm f n + f n := by
 subst h; rfl
theorem fsm_zero {f : Nat -> Fin p} : ∀ n, (∀ i, i < n -> f i = 0) -> fsm f n = 0
 | 0, _ => rfl
 | n + 1, h => by simp only [fsm]; rw [fsm_zero n fun i hi => h i (by omega), h n (by omega)]; grobner
def S (x y : Fin p) : Nat -> (Nat -> Fin p) -> Fin p
 | 0, g => g 0
 | n + 1, g => x * S x y n g + y * S x y n (fun j => g (j + 1))
theorem S_sum (x y : Fin p) : ∀ n (g : Nat -> Fin p), S x y n g = fsm (fun j => nf (ch n j) * (fpw x (n - j) * (fpw y j * g j))) (n + 1)
 | 0, g => by
   show g 0 = 0 + nf 1 * (1 * (1 * g 0))
   have : (nf 1 : Fin p) = 1 := rfl
   rw [this]; grobner
 | n + 1, g => by
   show x * S x y n g + y * S x y n (fun j => g (j + 1)) = _
   rw [S_sum x y n g, S_sum x y n, <- fsm_mul, <- fsm_mul]
   rw [fsm_front (fun j => nf (ch (n + 1) j) * (fpw x (n + 1 - j) * (fpw y j * g j))) (n + 1)]
   have e1 : fsm (fun i => x * (nf (ch n i) * (fpw x (n - i) * (fpw y i * g i)))) (n + 1) =
    fpw x (n + 1) * g 0 + fsm (fun i => nf (ch n (i + 1)) * (fpw x (n - i) * (fpw y (i + 1) * g (i + 1)))) (n + 1) := by
    rw [fsm_front]
    have last : nf (ch n (n + 1)) * (fpw x (n - n) * (fpw y (n + 1) * g (n + 1))) = (0 : Fin p) := by
     rw [ch_gt n (n + 1) (by omega)]
     have : (nf 0 : Fin p) = 0 := rfl
     rw [this]; grobner
    show _ = _ + (fsm (fun i => nf (ch n (i + 1)) * (fpw x (n - i) * (fpw y (i + 1) * g (i + 1)))) n + nf (ch n (n + 1)) * (fpw x (n - n) * (fpw y (n + 1) * g (n + 1))))
    rw [last]
    have h0 : x * (nf (ch n 0) * (fpw x (n - 0) * (fpw y 0 * g 0))) = fpw x (n + 1) * g 0 := by
     have e : ch n 0 = 1 := by cases n <;> rfl
     have e1 : (nf 1 : Fin p) = 1 := rfl
     rw [e, e1]
     show x * (1 * (fpw x n * (1 * g 0))) = fpw x n * x * g 0
     grobner
    rw [h0]
    have h1 : fsm (fun i => x * (nf (ch n (i + 1)) * (fpw x (n - (i + 1)) * (fpw y (i + 1) * g (i + 1))))) n = fsm (fun i => nf (ch n (i + 1)) * (fpw x (n - i) * (fpw y (i + 1) * g (i + 1)))) n :=
     fsm_congr n fun i hi => by
      have : fpw x (n - i) = fpw x (n - (i + 1)) * x := by
       conv => lhs; rw [show n - i = n - (i + 1) + 1 from by omega]
       rfl
      rw [this]; grobner
    rw [h1]; grobner
   have e2 : fsm (fun i => y * (nf (ch n i) * (fpw x (n - i) * (fpw y i * g (i + 1))))) (n + 1) = fsm (fun i => nf (ch n i) * (fpw x (n - i) * (fpw y (i + 1) * g (i + 1)))) (n + 1) :=
    fsm_congr _ fun i _ => by
     show _ = nf (ch n i) * (fpw x (n - i) * (fpw y i * y * g (i + 1)))
     grobner
   have e3 : fsm (fun i => nf (ch (n + 1) (i + 1)) * (fpw x (n + 1 - (i + 1)) * (fpw y (i + 1) * g (i + 1)))) (n + 1) =
    fsm (fun i => nf (ch n i) * (fpw x (n - i) * (fpw y (i + 1) * g (i + 1)))) (n + 1) + fsm (fun i => nf (ch n (i + 1)) * (fpw x (n - i) * (fpw y (i + 1) * g (i + 1)))) (n + 1) := by
    rw [<- fsm_add]
    exact fsm_congr _ fun i _ => by
     show nf (ch n i + ch n (i + 1)) * _ = _
     rw [nf_add, show n + 1 - (i + 1) = n - i from by omega]
     grobner
   rw [e1, e2, e3]
   have h0 : nf (ch (n + 1) 0) * (fpw x (n + 1 - 0) * (fpw y 0 * g 0)) = fpw x (n + 1) * g 0 := by
    have e1 : (nf (ch (n + 1) 0) : Fin p) = 1 := rfl
    rw [e1]
    show 1 * (fpw x (n + 1) * (1 * g 0)) = _
    grobner
   rw [h0]; grobner
theorem S_prime (hp : Prime p) (x y : Fin p) (g : Nat -> Fin p) : S x y p g = fpw x p * g 0 + fpw y p * g p := by
 rw [S_sum, fsm_front]
 obtain ⟨n, hn⟩ : ∃ n, p = n + 1 := ⟨p - 1, by have := hp.1; omega⟩
 have h0 : nf (ch p 0) * (fpw x (p - 0) * (fpw y 0 * g 0)) = fpw x p * g 0 := by
  have e : ch p 0 = 1 := by rw [hn]; rfl
  have e1 : (nf 1 : Fin p) = 1 := rfl
  rw [e, e1]
  show 1 * (fpw x p * (1 * g 0)) = _
  grobner
 rw [h0]
 have h1 : fsm (fun i => nf (ch p (i + 1)) * (fpw x (p - (i + 1)) * (fpw y (i + 1) * g (i + 1)))) p = fpw y p * g p := by
  rw [fsm_last _ p n hn, fsm_zero]
  ·rw [<- hn, ch_self, Nat.sub_self]
   have e1 : (nf 1 : Fin p) = 1 := rfl
   rw [e1]
   show 0 + 1 * (1 * (fpw y p * g p)) = _
   grobner
  ·intro i hi
   obtain ⟨c, hc⟩ := ch_dvd hp (i + 1) (by omega) (by omega)
   have : (nf (ch p (i + 1)) : Fin p) = 0 := by
    rw [hc, nf_mul]
    have : (nf p : Fin p) = 0 := by apply Fin.ext; simp [nf, Fin.ofNat]
    rw [this]; grobner
   rw [this]; grobner
 rw [h1]
structure Q (p : Nat) where
 x : Fin p
 y : Fin p
def Q.mul (d : Fin p) (a b : Q p) : Q p := ⟨a.x * b.x + d * (a.y * b.y), a.x * b.y + a.y * b.x⟩
def Q.one : Q p := ⟨1, 0⟩
def Q.pw (d : Fin p) (a : Q p) : Nat -> Q p
 | 0 => Q.one
 | n + 1 => Q.mul d (Q.pw d a n) a
theorem Q.mul_one (d : Fin p) (a : Q p) : Q.mul d a Q.one = a := by
 cases a; simp only [Q.mul, Q.one, Q.mk.injEq]; constructor <;> grobner
theorem Q.one_mul (d : Fin p) (a : Q p) : Q.mul d Q.one a = a := by
 cases a; simp only [Q.mul, Q.one, Q.mk.injEq]; constructor <;> grobner
theorem Q.assoc (d : Fin p) (a b c : Q p) : Q.mul d (Q.mul d a b) c = Q.mul d a (Q.mul d b c) := by
 simp only [Q.mul, Q.mk.injEq]; constructor <;> grobner
theorem Q.pw_add (d : Fin p) (a : Q p) (m : Nat) : ∀ n, Q.pw d a (m + n) = Q.mul d (Q.pw d a m) (Q.pw d a n)
 | 0 => (Q.mul_one d _).symm
 | n + 1 => by show Q.mul d (Q.pw d a (m + n)) a = _; rw [Q.pw_add d a m n, Q.assoc]; rfl
theorem Q.pw_one (d : Fin p) {a : Q p} {m : Nat} (h : Q.pw d a m = Q.one) : ∀ c, Q.pw d a (m * c) = Q.one
 | 0 => rfl
 | c + 1 => by rw [Nat.mul_add, Nat.mul_one, Q.pw_add, Q.pw_one d h c, h, Q.mul_one]
theorem Q.pw_gcd (d : Fin p) {a : Q p} (m : Nat) : ∀ n, Q.pw d a m = Q.one -> Q.pw d a n = Q.one -> Q.pw d a (Nat.gcd m n) = Q.one := by
 induction m using Nat.strongRecOn with
 | ind m ih =>
   intro n hm hn
   by_cases h0 : m = 0
   ·subst h0; simpa using hn
   ·rw [Nat.gcd_rec]
    refine ih (n % m) (Nat.mod_lt _ (by omega)) m ?_ hm
    have e : Q.pw d a n = Q.mul d (Q.pw d a (n % m)) (Q.pw d a (m * (n / m))) := by rw [<- Q.pw_add, Nat.mod_add_div]
    rw [e, Q.pw_one d hm, Q.mul_one] at hn
    exact hn
def Ev (d : Fin p) : Nat -> Fin p × Fin p
 | 0 => (1, 0)
 | j + 1 => (d * (Ev d j).2, (Ev d j).1)
theorem S_lin (x y c : Fin p) : ∀ n (g : Nat -> Fin p), S x y n (fun j => c * g j) = c * S x y n g
 | 0, _ => rfl
 | n + 1, g => by simp only [S, S_lin x y c n g, S_lin x y c n (fun j => g (j + 1))]; grobner
theorem Q.pw_S (d : Fin p) (a : Q p) : ∀ n, Q.pw d a n = ⟨S a.x a.y n (fun j => (Ev d j).1), S a.x a.y n (fun j => (Ev d j).2)⟩
 | 0 => rfl
 | n + 1 => by
   show Q.mul d (Q.pw d a n) a = _
   rw [Q.pw_S d a n]
   simp only [Q.mul, S, Q.mk.injEq]
   have e1 : S a.x a.y n (fun j => (Ev d (j + 1)).1) = d * S a.x a.y n (fun j => (Ev d j).2) := S_lin _ _ _ _ _
   have e2 : S a.x a.y n (fun j => (Ev d (j + 1)).2) = S a.x a.y n (fun j => (Ev d j).1) := rfl
   rw [e1, e2]
   constructor <;> grobner
theorem Ev_odd (d : Fin p) : ∀ k, Ev d (2 * k + 1) = (0, fpw d k)
 | 0 => by show (d * 0, (1 : Fin p)) = (0, 1); simp only [Prod.mk.injEq, and_true]; grobner
 | k + 1 => by
   show (d * (Ev d (2 * k + 1)).1, d * (Ev d (2 * k + 1)).2) = (0, fpw d k * d)
   rw [Ev_odd d k]
   simp only [Prod.mk.injEq]
   constructor <;> grobner
theorem Q.frob (hp : Prime p) (h2 : p ≠ 2) {d : Fin p} (hd : d ≠ 0) (a : Q p) (ha : a.x * a.x - d * (a.y * a.y) = 1) :
 Q.pw d a (p - 1) = Q.one \/ Q.pw d a (p + 1) = Q.one := by
 have hodd : p % 2 = 1 := by
  rcases Nat.mod_two_eq_zero_or_one p with h | h
  ·rcases hp.2 2 (Nat.dvd_of_mod_eq_zero h) with h3 | h3 <;> omega
  ·exact h
 have F := fld hp h2
 have e := Q.pw_S d a p
 rw [S_prime hp, S_prime hp] at e
 have e1 : Ev d p = (0, fpw d ((p - 1) / 2)) := (congrArg (Ev d) (show p = 2 * ((p - 1) / 2) + 1 by omega)).trans (Ev_odd d _)
 rw [e1, EC.frob hp, EC.frob hp] at e
 have e0 : Ev d 0 = (1, 0) := rfl
 rw [e0] at e
 simp only at e
 have hinv : Q.mul d a ⟨a.x, -a.y⟩ = Q.one := by
  simp only [Q.mul, Q.one, Q.mk.injEq]
  constructor <;> grobner
 have hs : fpw d ((p - 1) / 2) = 1 \/ fpw d ((p - 1) / 2) = -1 := by
  have h1 : fpw d ((p - 1) / 2) * fpw d ((p - 1) / 2) = 1 * 1 := by
   rw [<- fpw_add, show (p - 1) / 2 + (p - 1) / 2 = p - 1 by omega]
   apply Fin.ext
   rw [fpow, flt1 hp (fun h => hd (eq_zero_of_dvd h)), val_mul, val_one hp.1]
   exact (Nat.mod_eq_of_lt (by have := hp.1; omega)).symm
  exact sq_eq F h1
 rcases hs with h | h
 ·left
  rw [h] at e
  have e' : Q.pw d a p = a := by rw [e]; cases a; simp only [Q.mk.injEq]; constructor <;> grobner
  have e3 : Q.pw d a p = Q.mul d (Q.pw d a (p - 1)) a := congrArg (Q.pw d a) (show p = p - 1 + 1 by have := hp.1; omega)
  have e4 : Q.mul d (Q.mul d (Q.pw d a (p - 1)) a) ⟨a.x, -a.y⟩ = Q.one := by rw [<- e3, e', hinv]
  rw [Q.assoc, hinv, Q.mul_one] at e4
  exact e4
 ·right
  rw [h] at e
  show Q.mul d (Q.pw d a p) a = Q.one
  rw [e]
  simp only [Q.mul, Q.one, Q.mk.injEq]
  constructor <;> grobner
/-! pairs of numbers modulo n -/
structure QN where
 x : Nat
 y : Nat
def QN.mul (n d : Nat) (a b : QN) : QN := ⟨(a.x * b.x + d * (a.y * b.y)) % n, (a.x * b.y + a.y * b.x) % n⟩
def QN.pw (n d : Nat) : Nat -> QN -> Nat -> QN -> QN
 | 0, _, _, acc => acc
 | f + 1, b, e, acc => QN.pw n d f (QN.mul n d b b) (e / 2) (if e % 2 = 1 then QN.mul n d acc b else acc)
def QN.q (a : QN) : Q p := ⟨nf a.x, nf a.y⟩
theorem nf_mod_dvd {n : Nat} (h : p ∣ n) (x : Nat) : (nf (x % n) : Fin p) = nf x := by
 rw [<- nf_mod (x % n), Nat.mod_mod_of_dvd _ h, nf_mod]
theorem QN.q_mul {n d : Nat} (h : p ∣ n) (a b : QN) : (QN.mul n d a b).q = Q.mul (nf d : Fin p) a.q b.q := by
 simp only [QN.mul, QN.q, Q.mul, nf_mod_dvd h, nf_add, nf_mul]
theorem Q.pw_sq (d : Fin p) (a : Q p) : ∀ k, Q.pw d (Q.mul d a a) k = Q.pw d a (2 * k)
 | 0 => rfl
 | k + 1 => by
   show Q.mul d (Q.pw d (Q.mul d a a) k) (Q.mul d a a) = Q.mul d (Q.mul d (Q.pw d a (2 * k)) a) a
   rw [Q.pw_sq d a k, Q.assoc]
theorem QN.q_pw {n d : Nat} (h : p ∣ n) : ∀ f b e acc, e < 2 ^ f -> (QN.pw n d f b e acc).q = Q.mul (nf d : Fin p) acc.q (Q.pw (nf d) b.q e)
 | 0, b, e, acc, he => by
   have : e = 0 := by simpa using he
   subst this
   exact (Q.mul_one _ _).symm
 | f + 1, b, e, acc, he => by
   have he2 : e / 2 < 2 ^ f := by rw [Nat.pow_succ] at he; omega
   unfold QN.pw
   by_cases h1 : e % 2 = 1
   ·rw [if_pos h1, QN.q_pw h f _ _ _ he2, QN.q_mul h, QN.q_mul h, Q.pw_sq, Q.assoc]
    congr 1
    have : Q.pw (nf d : Fin p) b.q e = Q.pw (nf d) b.q (1 + 2 * (e / 2)) := by congr 1; omega
    rw [this, Q.pw_add]
    congr 1
    exact (Q.one_mul _ _).symm
   ·rw [if_neg h1, QN.q_pw h f _ _ _ he2, QN.q_mul h, Q.pw_sq]
    congr 2
    omega
def chkM (n d s x y : Nat) : Bool :=
 let m := (n + 1) / s
 let b := QN.pw n d (m.log2 + 1) ⟨x, y⟩ m ⟨1, 0⟩
 let c := QN.pw n d (s.log2 + 1) b s ⟨1, 0⟩
 decide (2 <= n) && (n + 1 == s * m) && (x * x % n == (1 + d * (y * y)) % n) && (c.x % n == 1 && c.y % n == 0) && Nat.gcd (b.x + (n - 1)) n == 1 && Nat.gcd (2 * d) n == 1 && decide (n < (s - 1) * (s - 1))
theorem morrison {n : Nat} (d s x y : Nat) (hs : Prime s) (h : chkM n d s x y = true) : Prime n := by
 simp only [chkM, Bool.and_eq_true, beq_iff_eq, decide_eq_true_eq] at h
 obtain ⟨⟨⟨⟨⟨⟨h1, h2⟩, h3⟩, h4, h5⟩, h6⟩, h7⟩, h8⟩ := h
 refine prime_of_sqrt h1 fun q hq hqn => ?_
 haveI : NeZero q := ⟨by have := hq.1; omega⟩
 have q2 : q ≠ 2 := by
  rintro rfl
  have : 2 ∣ 1 := h7 ▸ Nat.dvd_gcd (Nat.dvd_mul_right 2 d) hqn
  omega
 have hd : (nf d : Fin q) ≠ 0 := by
  intro e
  have e1 := congrArg Fin.val e
  rw [val_zero] at e1
  have e2 : d % q = 0 := by simpa [nf, Fin.ofNat] using e1
  have : q ∣ 1 := h7 ▸ Nat.dvd_gcd (Nat.dvd_trans (Nat.dvd_of_mod_eq_zero e2) (Nat.dvd_mul_left _ _)) hqn
  have := Nat.le_of_dvd (by omega) this
  have := hq.1
  omega
 have hb := QN.q_pw hqn (d := d) (((n + 1) / s).log2 + 1) ⟨x, y⟩ ((n + 1) / s) ⟨1, 0⟩ Nat.lt_log2_self
 generalize QN.pw n d (((n + 1) / s).log2 + 1) ⟨x, y⟩ ((n + 1) / s) ⟨1, 0⟩ = b at *
 have hc := QN.q_pw hqn (d := d) (s.log2 + 1) b s ⟨1, 0⟩ Nat.lt_log2_self
 generalize QN.pw n d (s.log2 + 1) b s ⟨1, 0⟩ = c at *
 have o : (QN.q ⟨1, 0⟩ : Q q) = Q.one := rfl
 rw [o, Q.one_mul] at hb hc
 have hc1 : (c.q : Q q) = Q.one := by
  simp only [QN.q, Q.one, Q.mk.injEq]
  rw [<- nf_mod_dvd hqn c.x, <- nf_mod_dvd hqn c.y, h4, h5]
  exact ⟨rfl, rfl⟩
 have hpw : ∀ (a : Q q) (m : Nat), ∀ k, Q.pw (nf d) (Q.pw (nf d) a m) k = Q.pw (nf d : Fin q) a (m * k) := by
  intro a m k
  induction k with
  | zero => rfl
  | succ k ih =>
    show Q.mul (nf d) (Q.pw (nf d) (Q.pw (nf d) a m) k) (Q.pw (nf d) a m) = _
    rw [ih, Nat.mul_add, Nat.mul_one]
    exact (Q.pw_add _ _ _ _).symm
 have hn1 : Q.pw (nf d : Fin q) (QN.q ⟨x, y⟩) (n + 1) = Q.one := by
  rw [h2, Nat.mul_comm, <- hpw, <- hb, <- hc, hc1]
 have hnorm : (QN.q ⟨x, y⟩ : Q q).x * (QN.q ⟨x, y⟩ : Q q).x - nf d * ((QN.q ⟨x, y⟩ : Q q).y * (QN.q ⟨x, y⟩ : Q q).y) = 1 := by
  simp only [QN.q]
  have e : (nf (x * x) : Fin q) = nf (1 + d * (y * y)) := by rw [<- nf_mod_dvd hqn (x * x), h3, nf_mod_dvd hqn]
  rw [nf_add, nf_mul, nf_mul, nf_mul] at e
  have e1 : (nf 1 : Fin q) = 1 := rfl
  rw [e1] at e
  grobner
 have key : ∀ D, Q.pw (nf d : Fin q) (QN.q ⟨x, y⟩) D = Q.one -> s ∣ D := by
  intro D hD
  have hg := Q.pw_gcd _ _ _ hn1 hD
  apply Classical.byContradiction
  intro hno
  have h9 : Nat.gcd (n + 1) D ∣ (n + 1) / s := by
   have := dvd_less (r := s) (e := 0) (m := (n + 1) / s) (d := Nat.gcd (n + 1) D) hs (by rw [Nat.zero_add, Nat.pow_one, <- h2]; exact Nat.gcd_dvd_left _ _)
    (by rw [Nat.zero_add, Nat.pow_one]; exact fun h => hno (Nat.dvd_trans h (Nat.gcd_dvd_right _ _)))
   simpa using this
  obtain ⟨k, hk⟩ := h9
  have hb1 : (b.q : Q q) = Q.one := by rw [hb, hk, Q.pw_one _ hg]
  have hx : (nf b.x : Fin q) = 1 := congrArg Q.x hb1
  have h10 : q ∣ b.x + (n - 1) := by
   have e1 := congrArg Fin.val hx
   rw [val_one hq.1] at e1
   have e2 : b.x % q = 1 := by simpa [nf, Fin.ofNat] using e1
   obtain ⟨j, hj⟩ := hqn
   have e3 := Nat.mod_add_div b.x q
   apply Nat.dvd_of_mod_eq_zero
   rw [show b.x + (n - 1) = q * (b.x / q) + q * j from by omega, <- Nat.mul_add]
   exact Nat.mul_mod_right _ _
  have : q ∣ 1 := h6 ▸ Nat.dvd_gcd h10 hqn
  have := Nat.le_of_dvd (by omega) this
  have := hq.1
  omega
 have q1 := hq.1
 have hsq : s - 1 <= q := by
  rcases Q.frob hq q2 hd _ hnorm with h | h
  ·have := Nat.le_of_dvd (by omega) (key _ h)
   omega
  ·have := Nat.le_of_dvd (by omega) (key _ h)
   omega
 exact Nat.lt_of_lt_of_le h8 (Nat.mul_le_mul hsq hsq)
end EC
end
