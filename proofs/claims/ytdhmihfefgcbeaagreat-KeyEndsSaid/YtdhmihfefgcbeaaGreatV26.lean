/-
  This text proves what these texts prove: Pk, Pl, Pm, Pn, Po, Pp. Conditions: those of each theorem.
-/
import Derived.Test.YtdhmihfefgcbeaaGreatV25
set_option maxHeartbeats 8000000
namespace Go.Proofs.YtdhmihfefgcbeaaGreat
open Go.Vg Go.RowKit
set_option maxRecDepth 200000
set_option cbv.maxSteps 100000000
theorem ftM {ρ : Nat -> Nat} {M : Nat -> Option Blk} {l : Nat} {C : List SV} {t : TypeId} (bC : bdLB 0 C = true) (h : M (ρ l) = some ⟨ρ l, C, t⟩) : foot ρ M [⟨l, C, t⟩] :=
 ⟨by show M (ρ l) = some ⟨ρ l, renL ρ C, t⟩; rw [rcl C bC]; exact h, trivial⟩
theorem cRDivK {P : Program} (hP : P = Tryz.prog) {n c x m e y : Nat} {f u : Nat -> Nat} (hx : Nm n c f x) (hy : Nm m e u y) (hn : n < 2 ^ 18) (hm2 : 2 <= m) (hle : y <= x) (d r J rc n3 : Nat) (rv : SV) (RB : LL)
 (hd : d = x / y) (hr : r = x % y) (hJ : J + m = n + 1) (hcase : (r = 0 /\ rv = .nils /\ RB = [] /\ n3 = 3) \/ (r ≠ 0 /\ rv = .slice 3 0 (Vg.sz r) rc /\ RB = [⟨3, hs (dg r) rc, 58⟩] /\ n3 = 4)) (hrc : ∃ b, IsBl y b /\ rc = Vg.sz (r * 2 ^ (32 * m - b))) :
 Con P 50 [.slice 0 0 n c, .slice 1 0 m e] [⟨0, hs f c, 58⟩, ⟨1, hs u e, 58⟩] 2 [] (fun w L q => w = .tup [.slice 2 0 (Vg.sz d) J, rv] /\ L = ⟨2, hs (dg d) J, 58⟩ :: RB /\ q = n3) := by
 have hy0 : 0 < y := by
  rcases Nat.eq_zero_or_pos y with h | h
  ·have := hy.zero.2 h; omega
  ·exact h
 have hmn : m <= n := by
  rcases hy.sz.2 with h | h
  ·omega
  ·rcases Nat.lt_or_ge n m with h2 | h2
   ·exact absurd (Nat.lt_of_lt_of_le hx.lt (Nat.pow_le_pow_right (by decide) (show n <= m - 1 by omega))) (Nat.not_lt.2 (Nat.le_trans h hle))
   ·exact h2
 have hme := hy.le
 have hnc := hx.le
 obtain ⟨ci, hci, hcl⟩ : ∃ rc : Int, (x < y -> rc = -1) /\ (x = y -> rc = 0) /\ (y < x -> rc = 1) := ⟨if x < y then -1 else if x = y then 0 else 1, fun h => if_pos h, fun h => by rw [if_neg (by omega), if_pos h], fun h => by rw [if_neg (by omega), if_neg (by omega)]⟩
 have hCm := cRCmp hP hx hy (by omega) ci hci hcl.1 hcl.2
 obtain ⟨b, hb, hrc⟩ := hrc
 have hBi := cRBits hP hy (by omega) b hb
 obtain ⟨s, hs'⟩ := exq (32 * m - b)
 rw [<- hs'] at hrc
 obtain ⟨hb1, hs32, hVl, hVs, hVn⟩ := norm_div hy.sz (by omega) hy0 hb hs'
 obtain ⟨V, hV⟩ := exq (y * 2 ^ s)
 obtain ⟨A', hA'⟩ := exq (x * 2 ^ s)
 rw [<- hV] at hVl hVs hVn
 have hV0 : 0 < V := by rw [hV]; exact Nat.mul_pos hy0 (Nat.two_pow_pos s)
 obtain ⟨m1, hm1⟩ := exq (m + 1)
 obtain ⟨n1, hn1⟩ := exq (n + 1)
 have hNV : Nm m m1 (dg V) V := by
  have h := nm_dg (x := V) (k := m1) (Nat.lt_trans hVl (Nat.pow_lt_pow_right (by decide) (by omega)))
  rw [show Vg.sz V = m from h.sz.uniq hVs] at h
  exact h
 obtain ⟨az, haz⟩ := exq (Vg.sz A')
 have hAl : A' < 4294967296 ^ n1 := by
  rw [hA', hn1, Nat.pow_succ]
  exact Nat.mul_lt_mul'' hx.lt (Nat.lt_of_le_of_lt (Nat.pow_le_pow_right (show 0 < 2 by decide) (show s <= 31 by omega)) (by decide))
 have hNA : Nm az n1 (dg A') A' := by rw [haz]; exact nm_dg hAl
 have hSv := cRShl hP hy (by omega) s hs32 m1 V m hm1 hV (hNV.n_eq)
 have hSa := cRShl hP hx (by omega) s hs32 n1 A' az hn1 hA' haz
 have hVm : V < 4294967296 ^ m := hVl
 have hdV : d = A' / V := by rw [hd, hA', hV]; exact (Nat.mul_div_mul_right _ _ (Nat.two_pow_pos s)).symm
 have hrV : r * 2 ^ s = A' % V := by rw [hr, hA', hV]; exact (Nat.mul_mod_mul_right _ _ _).symm
 obtain ⟨rr, hrr⟩ := exq (A' % V)
 rw [<- hrr] at hrV
 have hrr2 : r = rr / 2 ^ s := by rw [<- hrV]; exact (Nat.mul_div_cancel _ (Nat.two_pow_pos s)).symm
 have hrrV : rr < V := by rw [hrr]; exact Nat.mod_lt _ hV0
 rw [hrV] at hrc
 -- rows
 obtain ⟨Us, hUs⟩ := exq (fun i => hs (dvU A' V i) n1 : Nat -> List SV)
 have bU : ∀ m i, bdLB m (Us i) = true := fun m i => by rw [hUs]; exact hs_bd _ _ m
 have hUJ : hs (dg A') n1 = Us J := by rw [hUs]; show _ = hs (dvU A' V J) n1; rw [dvU_first (first_lt hA' hs32 hx.lt (by omega) (by omega) hVn)]
 obtain ⟨Q, hQ⟩ := exq (fun t => hs (wh (dg d) J t) J : Nat -> List SV)
 have bQ : ∀ m i, bdLB m (Q i) = true := fun m i => by rw [hQ]; exact hs_bd _ _ m
 have hQ0 : List.replicate J (SV.int .u32 0) = Q 0 := by rw [hQ, hs_zero]; exact hs_wh0 _ _
 have hQJ : Q J = hs (dg d) J := by rw [hQ]; exact hs_wh _ _
 obtain ⟨S, hS⟩ := exq (dg d)
 have lS : ∀ i, S i < 4294967296 := fun i => by rw [hS]; exact dg_lt _ _
 obtain ⟨VR, hVR⟩ := exq (hs (dg V) m1)
 have bV : ∀ m, bdLB m VR = true := fun k => by rw [hVR]; exact hs_bd _ _ k
 obtain ⟨AR, hAR⟩ := exq (hs (dg A') n1)
 have bA : ∀ m, bdLB m AR = true := fun k => by rw [hAR]; exact hs_bd _ _ k
 have hSt : ∀ i i1, i1 = i + 1 -> i < J -> Con P 81 [.slice 0 0 n1 n1, .slice 1 0 m m1, .int .i64 (.ofNat i)] [⟨0, Us i1, 58⟩, ⟨1, VR, 58⟩] 2 [0] (fun w L n => w = .int .u64 (.ofNat (S i)) /\ L = [⟨0, Us i, 58⟩] /\ n = 2) := fun i i1 h1 h => by
  subst h1
  rw [hUs, hVR]
  have hq := quo_dig A' V i hV0
  refine cRStep hP hNV (m - 2) (by omega) (by omega) (Nat.le_refl n1) (by omega) i (by omega) (dvW A' V i) (dvW_lt hV0) (fun t _ => dvU_win A' V i t) (S i) (by rw [hS, hdV]; exact hq.1) (dvU A' V i) (dvU_step hV0 hVm).symm
 have hcp : AR.take az ++ (hs (fun _ => 0) n1).drop az = Us J := by rw [<- hUJ, hAR]; exact hs_copy hNA hNA.le
 have hAl2 : AR.length = n1 := by rw [hAR]; exact hs_len _ _
 have hAo : ones (AR.take az) = true := by rw [hAR]; exact hs_ones _ _ _
 have hdl : d < 4294967296 ^ J := by
  rw [hdV]
  refine Nat.div_lt_of_lt_mul ?_
  have h1 : A' / 4294967296 ^ J < V := first_lt hA' hs32 hx.lt (by omega) (by omega) hVn
  exact (Nat.div_lt_iff_lt_mul (Nat.pow_pos (by decide))).1 h1
 obtain ⟨dz, hdz⟩ := exq (Vg.sz d)
 have hTq : Con P 42 [.slice 0 0 J J] [⟨0, Q J, 58⟩] 1 [] (fun w _ _ => w = .slice 0 0 dz J) := by
  rw [hQJ]; exact cTrim hP (dg d) J J dz (Nat.le_refl _) (by omega) (by rw [hdz, tl_dg hdl])
 have hrrm : rr < 4294967296 ^ m := Nat.lt_trans hrrV hVm
 have hTu : Con P 42 [.slice 0 0 m n1] [⟨0, Us 0, 58⟩] 1 [] (fun w _ _ => w = .slice 0 0 rc n1) := by
  rw [hUs]; show Con P _ _ [⟨0, hs (dvU A' V 0) n1, _⟩] 1 [] _
  rw [dvU_last, <- hrr]
  exact cTrim hP (dg rr) m n1 rc (by omega) (by omega) (by rw [hrc, tl_dg hrrm])
 have hNr : Nm rc n1 (dg rr) rr := by
  rw [hrc]; exact nm_dg (Nat.lt_trans hrrm (Nat.pow_lt_pow_right (by decide) (by omega)))
 have hU0 : Us 0 = hs (dg rr) n1 := by rw [hUs]; show hs (dvU A' V 0) n1 = _; rw [dvU_last, <- hrr]
 obtain ⟨C, hC⟩ := exq (hs f c)
 have bC : ∀ m, bdLB m C = true := fun m => by rw [hC]; exact hs_bd f c m
 obtain ⟨E, hE⟩ := exq (hs u e)
 have bE : ∀ m, bdLB m E = true := fun m => by rw [hE]; exact hs_bd u e m
 rw [<- hC] at hCm hSa ⊢
 rw [<- hE] at hCm hBi hSv ⊢
 rw [<- hVR] at hSv
 rw [<- hAR] at hSa
 rw [<- hQJ, <- hdz]
 obtain ⟨IV, hIV⟩ := exq (fun j : Nat => (J : Int) - 1 - (j : Int) : Nat -> Int)
 have iv : ∀ j i, i + j + 1 = J -> IV j = Int.ofNat i := fun j i h => by rw [hIV]; show (J : Int) - 1 - (j : Int) = (i : Int); omega
 have ivn : IV J = -1 := by rw [hIV]; show (J : Int) - 1 - (J : Int) = -1; omega
 have iv0 : IntKind.i64.wrap ((J : Int) - 1) = IV 0 := by rw [hIV, IntKind.wrap_i64]; show _ = (J : Int) - 1 - ((0 : Nat) : Int); omega
 obtain ⟨m32, hm32⟩ := exq (32 * m)
 have hU := u32B hP
 obtain ⟨Z0, hZ0⟩ := exq (hs (fun _ => 0) n1)
 have bZ0 : ∀ m, bdLB m Z0 = true := fun k => by rw [hZ0]; exact hs_bd _ _ k
 have hZl : Z0.length = n1 := by rw [hZ0]; exact hs_len _ _
 have hZr : List.replicate n1 (SV.int .u32 0) = Z0 := by rw [hZ0]; exact hs_zero n1
 rw [<- hZ0] at hcp
 have hQs : ∀ j i v, i + j + 1 = J -> v = S i -> wh (dg d) J (j + 1) = fun k => if k = i then v else wh (dg d) J j k := fun j i v h hv => wh_step _ J j i v h (by rw [hv, hS])
 clear hUs hS hVR hAR hC hE hQJ hZ0 hUJ
 obtain ⟨RR, hRR⟩ := exq (hs (dg r) rc)
 have bRR : ∀ m, bdLB m RR = true := fun k => by rw [hRR]; exact hs_bd _ _ k
 obtain ⟨rz, hrz⟩ := exq (Vg.sz r)
 rw [<- hRR, <- hrz] at hcase
 suffices raw : Con P 50 [.slice 0 0 n c, .slice 1 0 m e] [⟨0, C, 58⟩, ⟨1, E, 58⟩] 2 [] (fun w L q => find L 5 = some ⟨5, Q J, 58⟩ /\ ((r = 0 /\ w = .tup [.slice 5 0 dz J, .nils]) \/ (r ≠ 0 /\ w = .tup [.slice 5 0 dz J, .slice 6 0 rz rc] /\ find L 6 = some ⟨6, RR, 58⟩))) by
  refine raw.weak fun v L q ⟨h5, h⟩ => ?_
  rcases hcase with ⟨k1, rfl, rfl, rfl⟩ | ⟨k1, rfl, rfl, rfl⟩
  ·rcases h with ⟨_, rfl⟩ | ⟨k2, _⟩
   ·exact ⟨fun l => if l = 2 then 5 else l, .tup [.slice 2 0 dz J, .nils], [⟨2, Q J, 58⟩], 3, wkr ⟨rfl, rfl, trivial⟩ ⟨by rw [rcl (Q J) (bQ 0 J)]; exact h5, rfl, rfl, bQ 3 J, trivial⟩ rfl rfl rfl, rfl, rfl, rfl⟩
   ·exact absurd k1 k2
  ·rcases h with ⟨k2, _⟩ | ⟨_, rfl, h6⟩
   ·exact absurd k2 k1
   ·exact ⟨fun l => if l = 2 then 5 else if l = 3 then 6 else l, .tup [.slice 2 0 dz J, .slice 3 0 rz rc], [⟨2, Q J, 58⟩, ⟨3, RR, 58⟩], 4, wkr ⟨rfl, rfl, trivial⟩ ⟨by rw [rcl (Q J) (bQ 0 J)]; exact h5, rfl, rfl, bQ 4 J, by rw [rcl RR (bRR 0)]; exact h6, rfl, rfl, bRR 4, trivial⟩ rfl rfl rfl, rfl, rfl, rfl⟩
 refine cof hP Tryz.func50 ⟨blq rfl, ⟨blq rfl, trivial⟩⟩ (by simpa [bdL, bd] using ⟨bdb _ (bC 2), bdb _ (bE 2)⟩) ?_
 intro A g K hA hg hK
 obtain ⟨bin, _, cmp, _, cvt, ix, _, _, _, _, _, _, _, _, nat, off, _, _, sub, spl⟩ := A
 have hbn : bin = intBin := bin_of hA
 have e0 : ∀ n, nat n = Int.ofNat n := fun n => nat_of hA n
 have c1 : cmp .lss ci 0 = false := by
  rcases Nat.lt_or_ge y x with h | h
  ·rw [hcl.2 h]; exact lss_f hA (a := 1) (b := 0) (by decide)
  ·rw [hcl.1 (by omega)]; exact lss_f hA (a := 0) (b := 0) (by decide)
 have c2 : cmp .eql (.ofNat m) 1 = false := eql_f hA (b := 1) (by omega)
 have a1 : bin .mul .i64 32 (.ofNat m) = Int.ofNat m32 := (mulI hA (a := 32) (b := m) (by omega)).trans (by rw [hm32])
 have a2 : bin .sub .i64 (.ofNat m32) (.ofNat b) = Int.ofNat s := (subI hA (a := m32) (b := b) (by omega) (by omega)).trans (by rw [hs', hm32])
 have a3 : bin .add .i64 (.ofNat n) 1 = Int.ofNat n1 := (addI hA (a := n) (b := 1) (by omega)).trans (by rw [hn1])
 have a4 : bin .sub .i64 (.ofNat n1) (.ofNat m) = Int.ofNat J := (subI hA (a := n1) (b := m) (by omega) (by omega)).trans (congrArg Int.ofNat (by omega))
 have a5 : bin .sub .i64 (.ofNat J) 1 = IV 0 := by rw [hbn]; exact iv0
 have a6 : ∀ j, j < J -> bin .sub .i64 (IV j) 1 = IV (j + 1) := fun j h => by
  rw [hbn, hIV]
  show IntKind.i64.wrap ((J : Int) - 1 - (j : Int) - 1) = (J : Int) - 1 - ((j + 1 : Nat) : Int)
  rw [IntKind.wrap_i64]; omega
 have g1 : ∀ j, cmp .geq (.ofNat j) 0 = true := fun j => geq_t hA (b := 0) (Nat.zero_le _)
 have g1f : cmp .geq (-1) 0 = false := (congrFun (congrFun (congrFun (cmp_of hA) .geq) (-1)) 0).trans rfl
 have e4 : ∀ j, off 0 j 1 = j := fun j => (off_of hA 0 j 1).trans (by omega)
 have e5 : ∀ i m, i < m -> ix (.ofNat i) m = some i := fun i m h => ix_of hA h
 have r6 : ∀ j i v, i + j + 1 = J -> v = S i -> spl (Q j) i [.int .u32 (.ofNat v)] = some (Q (j + 1)) := fun j i v h hv => by rw [hQ]; exact splW hA .u32 (n := J) (wh (dg d) J j) (wh (dg d) J (j + 1)) (by omega) (hQs j i v h hv)
 have hSl : SlR P 27 (.slice 3 0 n1 n1) none (some (.i64, Int.ofNat m)) (.slice 3 0 m n1) := slr_h (hP ▸ tblOk) (show tyT 27 = some _ from rfl) rfl 3 0 n1 n1 (j := m) (by omega)
 clear hQ hQs
 cbv
 refine cro rfl hg rfl rfl hCm _root_.id rfl (ft2 (bC 0) (bE 0) rfl rfl) ?_
 rintro _ _ _ rfl
 refine ⟨trivial, trivial, ?_⟩
 cbv
 rw [c1]
 cbv
 rw [e0, c2]
 cbv
 rw [e0, a1]
 cbv
 refine cro rfl hg rfl rfl hBi (fun _ => 1) rfl (ft1 (bE 0) rfl) ?_
 rintro _ _ _ rfl
 refine ⟨trivial, trivial, ?_⟩
 cbv
 rw [a2]
 cbv
 refine cgn rfl hg rfl rfl hSv (fun _ => 1) rfl (ft1 (bE 0) rfl) rfl rfl rfl ?_
 rintro _ _ _ ⟨rfl, rfl, rfl⟩ _
 refine ⟨rfl, ?_⟩
 simp only [renB, rcl VR (bV 0)]
 cbv
 rw [e0, a3]
 cbv
 refine smk (hP ▸ tblOk) hg rfl rfl (show tyT 27 = some _ from rfl) rfl (show tyT 58 = some _ from rfl) hU rfl (m := n1) rfl rfl (by omega) (by omega) ?_
 rw [hZr]
 cbv
 refine cgn rfl hg rfl rfl hSa (fun _ => 0) rfl (ft1 (bC 0) rfl) rfl rfl rfl ?_
 rintro _ _ _ ⟨rfl, rfl, rfl⟩ _
 refine ⟨rfl, ?_⟩
 simp only [renB, rcl AR (bA 0)]
 cbv
 refine step_copy_sl (hP ▸ tblOk) hg rfl rfl (show tyT 27 = some _ from rfl) rfl rfl rfl rfl rfl rfl (by rw [hAl2]; exact hNA.le) hAo hNA.le (by rw [hZl]; exact hNA.le) ?_
 rw [hcp]
 cbv
 rw [e0 n1, e0 m, a4]
 refine smk (hP ▸ tblOk) hg rfl rfl (show tyT 27 = some _ from rfl) rfl (show tyT 58 = some _ from rfl) hU rfl (m := J) rfl rfl (by omega) (by omega) ?_
 rw [hQ0]
 cbv
 rw [e0 n1, a4, a5]
 have hUJ0 : Us J = Us (J - 0) := rfl
 rw [hUJ0]
 refine lpb Nat (fun t => t <= J) (fun t => J - t) (fun t => [(11, .int .i64 (IV t))]) [0, 1, 4, 5, 6, 7, 8, 9, 10] (fun t => [(3, Us (J - t)), (5, Q t)]) 0 (Nat.zero_le _) ?_ ?_
 ·exact wkih (by repeat' (first | exact trivial | refine ⟨rfl, rfl, rfl, ?_⟩ | refine ⟨rfl, rfl, bC 6, ?_⟩ | refine ⟨rfl, rfl, bE 6, ?_⟩ | refine ⟨rfl, rfl, bV 6, ?_⟩ | refine ⟨rfl, rfl, bA 6, ?_⟩ | refine ⟨rfl, rfl, bU 6 (J - 0), ?_⟩ | refine ⟨rfl, rfl, bQ 6 0, ?_⟩))
 intro j hj
 by_cases hlt : j < J
 ·obtain ⟨i, hi⟩ : ∃ i, i + j + 1 = J := ⟨J - j - 1, by omega⟩
  obtain ⟨i1, hi1⟩ := exq (J - j)
  have hiv := iv j i hi
  have hS1 := hSt i i1 (by omega) (by omega)
  have q1 := g1 i
  have q2 : cvt .u32 (.ofNat (S i)) = Int.ofNat (S i) := c32 hA (lS i)
  have q3 := r6 j i (S i) hi rfl
  have q4 := a6 j hlt
  obtain ⟨In, hIn⟩ := exq (IV (j + 1))
  obtain ⟨Qn, hQn⟩ := exq (Q (j + 1))
  obtain ⟨Un, hUn⟩ := exq (Us i)
  obtain ⟨Uo, hUo⟩ := exq (Us i1)
  obtain ⟨Si, hSi⟩ := exq (S i)
  have bUn : ∀ m, bdLB m Un = true := fun m => by rw [hUn]; exact bU m i
  have bUo : ∀ m, bdLB m Uo = true := fun m => by rw [hUo]; exact bU m i1
  rw [<- hIn, hiv] at q4
  rw [<- hQn, <- hSi] at q3
  rw [<- hSi] at q2
  rw [<- hUn, <- hUo, <- hSi] at hS1
  rw [hiv, <- hi1, <- hUo]
  cbv
  rw [q1]
  cbv
  refine cgn rfl hg rfl rfl hS1 (fun l => if l = 0 then 3 else 2) rfl (ft2 (bUo 0) (bV 0) rfl rfl) rfl rfl rfl ?_
  rintro _ _ _ ⟨rfl, rfl, rfl⟩ _
  refine ⟨rfl, ?_⟩
  simp only [renB, rcl Un (bUn 0)]
  cbv
  rw [q2]
  cbv
  rw [e5 i J (by omega)]
  cbv
  rw [e4, q3]
  cbv
  rw [q4]
  refine ⟨j + 1, _root_.id, hlt, (by show J - (j + 1) < i1; omega), ?_⟩
  rw [show J - (j + 1) = i by omega, <- hUn, hIn, hQn]
  exact wkih (by repeat' (first | exact trivial | refine ⟨rfl, rfl, rfl, ?_⟩ | refine ⟨rfl, rfl, bC 6, ?_⟩ | refine ⟨rfl, rfl, bE 6, ?_⟩ | refine ⟨rfl, rfl, bV 6, ?_⟩ | refine ⟨rfl, rfl, bA 6, ?_⟩ | refine ⟨rfl, rfl, bUn 6, ?_⟩ | refine ⟨rfl, rfl, bQ 6 (j + 1), ?_⟩))
 ·have hjJ : J = j := by omega
  subst hjJ
  rw [ivn, Nat.sub_self]
  cbv
  rw [g1f]
  cbv
  refine reg_A (hP ▸ tblOk) hA hg (hP ▸ mixed) rfl rfl ?_
  cbv
  refine stepD (en_ro rfl hg rfl rfl hTq (fun _ => 5) rfl (ftM (bQ 0 _) rfl) rfl (fun _ _ _ h => h) (blq rfl)) ?_
  cbv
  refine stepD (en_slice hg rfl rfl rfl rfl rfl hSl) ?_
  cbv
  refine stepD (en_ro rfl hg rfl rfl hTu (fun _ => 3) rfl (ftM (bU 0 0) rfl) rfl (fun _ _ _ h => h) (blq rfl)) ?_
  cbv
  by_cases hr0 : r = 0
  ·have hrr0 : rr = 0 := by rw [<- hrV, hr0, Nat.zero_mul]
   have hrc0 : rc = 0 := hNr.zero.2 hrr0
   have hZZ := cRShrZ hP (c := n1) (f := dg rr) s hs32
   rw [<- hU0] at hZZ
   rw [hrc0]
   refine stepD (enr rfl hg rfl rfl hZZ (fun _ => 3) rfl (ftM (bU 0 0) rfl) (fun _ _ _ h => h) trivial) ?_
   cbv
   exact hK _ _ _ ⟨rfl, Or.inl ⟨hr0, rfl⟩⟩
  ·have hrc1 : 0 < rc := by
    refine Nat.pos_of_ne_zero fun h => hr0 ?_
    have := hNr.zero.1 h
    rw [hrr2, this, Nat.zero_div]
   have hSh := cRShr hP hNr.nw (by have := hNr.n_le hrrm; omega) hrc1 s hs32 r rz hrr2 hrz
   rw [<- hU0, <- hRR] at hSh
   have hShK := hSh.keep (fun b hb => by obtain rfl := List.mem_singleton.1 hb; exact ⟨blq rfl, bdb _ (bU 1 0)⟩) (fun v L q h b hb => by obtain ⟨_, rfl, _⟩ := h; obtain rfl := List.mem_singleton.1 hb; exact Nat.le_refl _)
   refine stepDn (n' := 7) (en_new rfl hg rfl rfl hShK (fun _ => 3) rfl (ftM (bU 0 0) rfl) rfl (val := .slice 1 0 rz rc) (NB := [⟨1, RR, 58⟩]) (n := 6) (n1 := 2) (fun v L1 k h => ?_) rfl rfl (fun l h1 h2 => ⟨_, List.mem_singleton.2 rfl, by show 1 = l; omega⟩)) (by decide) rfl (by simp [renB]) ?_
   ·obtain ⟨NB, ⟨h1, h2, h3⟩, h4⟩ := h
    rw [h2] at h4
    exact ⟨h1, h4, h3⟩
   simp only [renB, rcl RR (bRR 0)]
   cbv
   exact hK _ _ _ ⟨rfl, Or.inr ⟨hr0, rfl, rfl⟩⟩
end Go.Proofs.YtdhmihfefgcbeaaGreat
namespace Go.Vg
structure HS (H : Nat -> Nat -> List SV) (S : Nat -> Nat) : Prop where
 h : H = fun x c => hs (dg x) c
 s : S = Vg.sz
section
variable {H : Nat -> Nat -> List SV} {S : Nat -> Nat} (hs : HS H S)
include hs
theorem HS.b (m x c : Nat) : bdLB m (H x c) = true := by rw [hs.h]; exact hs_bd _ _ m
theorem HS.nm {x c : Nat} (h : x < 4294967296 ^ c) : Nm (S x) c (dg x) x := by rw [hs.s]; exact nm_dg h
theorem HS.le {x k : Nat} (h : x < 4294967296 ^ k) : S x <= k := (hs.nm h).n_le h
theorem HS.one {y : Nat} (h : y < 4294967296) (h0 : 0 < y) : S y = 1 := by
 have h1 := hs.le (x := y) (k := 1) (by rw [Nat.pow_one]; exact h)
 have h2 := (hs.nm (x := y) (c := 1) (by rw [Nat.pow_one]; exact h)).zero
 omega
theorem HS.two {y : Nat} (h : 4294967296 <= y) : 2 <= S y := by
 have h1 := (hs.nm (x := y) (c := y) (Nat.lt_of_lt_of_le Nat.lt_two_pow_self (Nat.pow_le_pow_left (by decide) y))).lt
 rcases Nat.lt_or_ge (S y) 2 with h2 | h2
 ·have h3 : 4294967296 ^ S y <= 4294967296 ^ 1 := Nat.pow_le_pow_right (by decide) (by omega)
  rw [Nat.pow_one] at h3
  omega
 ·exact h2
end
end Go.Vg
namespace Go.Proofs.YtdhmihfefgcbeaaGreat
open Go.Vg Go.RowKit
set_option maxRecDepth 200000
set_option cbv.maxSteps 100000000
section
variable {P : Program} (hP : P = Tryz.prog) {H : Nat -> Nat -> List SV} {S : Nat -> Nat} (hs : HS H S)
include hP hs
theorem mModL {x c y e : Nat} (hx : x < 4294967296 ^ c) (hy : y < 4294967296 ^ e) (hb : x < 4294967296 ^ 40) (hlt : x < y) : Con P 25 [.slice 0 0 (S x) c, .slice 1 0 (S y) e] [⟨0, H x c, 58⟩, ⟨1, H y e, 58⟩] 2 [] (fun w _ _ => w = .slice 0 0 (S x) c) := by
 have hD := cRDivL hP (hs.nm hx) (hs.nm hy) (by have := hs.le hb; omega) hlt
 rw [show Vg.hs (dg x) c = H x c from by rw [hs.h], show Vg.hs (dg y) e = H y e from by rw [hs.h]] at hD
 have bC : ∀ m, bdLB m (H x c) = true := fun m => hs.b m x c
 have bE : ∀ m, bdLB m (H y e) = true := fun m => hs.b m y e
 refine cof hP Tryz.func25 ⟨blq rfl, ⟨blq rfl, trivial⟩⟩ (by simpa [bdL, bd] using ⟨bdb _ (bC 2), bdb _ (bE 2)⟩) ?_
 intro A g K hA hg hK
 cases A
 cbv
 refine cro rfl hg rfl rfl hD _root_.id rfl (ft2 (bC 0) (bE 0) rfl rfl) ?_
 rintro _ _ _ rfl
 refine ⟨by simp [bd, bdL], by simp [bd, bdL, ren, renL], ?_⟩
 cbv
 exact hK _ _ _ rfl
theorem mModS {x c y e : Nat} (hx : x < 4294967296 ^ c) (hy : y < 4294967296 ^ e) (hb : x < 4294967296 ^ 40) (hle : y <= x) (hy0 : 0 < y) (hyB : y < 4294967296) (r : Nat) (hr : r = x % y) : Con P 25 [.slice 0 0 (S x) c, .slice 1 0 (S y) e] [⟨0, H x c, 58⟩, ⟨1, H y e, 58⟩] 2 [] (fun w L q => w = .slice 2 0 (S r) 1 /\ L = [⟨2, H r 1, 58⟩] /\ q = 3) := by
 obtain ⟨d, hd⟩ := exq (x / y)
 have hNy := hs.nm hy
 rw [hs.one hyB hy0] at hNy
 have hD := cRDivS hP (hs.nm hx) hNy (by have := hs.le hb; omega) hle hy0
 rw [hs.one hyB hy0]
 rw [show Vg.hs (dg x) c = H x c from by rw [hs.h], show Vg.hs (dg y) e = H y e from by rw [hs.h], <- hr, <- hd, show Vg.hs (dg r) 1 = H r 1 from by rw [hs.h], show Vg.sz r = S r from by rw [hs.s], show Vg.sz d = S d from by rw [hs.s]] at hD
 obtain ⟨QD, hQD⟩ := exq (Vg.hs (dg d) (S x))
 have bQ : ∀ m, bdLB m QD = true := fun m => by rw [hQD]; exact hs_bd _ _ m
 rw [<- hQD] at hD
 have bC : ∀ m, bdLB m (H x c) = true := fun m => hs.b m x c
 have bE : ∀ m, bdLB m (H y e) = true := fun m => hs.b m y e
 have bR : ∀ m, bdLB m (H r 1) = true := fun m => hs.b m r 1
 suffices raw : Con P 25 [.slice 0 0 (S x) c, .slice 1 0 1 e] [⟨0, H x c, 58⟩, ⟨1, H y e, 58⟩] 2 [] (fun w L q => w = .slice 3 0 (S r) 1 /\ find L 3 = some ⟨3, H r 1, 58⟩) from
  raw.weak fun v L q ⟨h1, h2⟩ => ⟨fun l => if l = 2 then 3 else l, .slice 2 0 (S r) 1, [⟨2, H r 1, 58⟩], 3, by subst h1; exact wkr ⟨rfl, rfl, trivial⟩ ⟨by rw [rcl (H r 1) (bR 0)]; exact h2, rfl, rfl, bR 3, trivial⟩ rfl rfl rfl, rfl, rfl, rfl⟩
 refine cof hP Tryz.func25 ⟨blq rfl, ⟨blq rfl, trivial⟩⟩ (by simpa [bdL, bd] using ⟨bdb _ (bC 2), bdb _ (bE 2)⟩) ?_
 intro A g K hA hg hK
 cases A
 clear hQD
 cbv
 refine cgn rfl hg rfl rfl hD _root_.id rfl (ft2 (bC 0) (bE 0) rfl rfl) rfl rfl rfl ?_
 rintro _ _ _ ⟨rfl, rfl, rfl⟩ _
 refine ⟨rfl, ?_⟩
 simp only [renB, rcl QD (bQ 0), rcl (H r 1) (bR 0)]
 cbv
 exact hK _ _ _ ⟨rfl, rfl⟩
theorem mModK {x c y e : Nat} (hx : x < 4294967296 ^ c) (hy : y < 4294967296 ^ e) (hb : x < 4294967296 ^ 40) (hle : y <= x) (hyB : 4294967296 <= y) (r : Nat) (hr : r = x % y) (hr0 : r ≠ 0) : ∃ rc, r < 4294967296 ^ rc /\ Con P 25 [.slice 0 0 (S x) c, .slice 1 0 (S y) e] [⟨0, H x c, 58⟩, ⟨1, H y e, 58⟩] 2 [] (fun w L q => w = .slice 2 0 (S r) rc /\ L = [⟨2, H r rc, 58⟩] /\ q = 3) := by
 obtain ⟨d, hd⟩ := exq (x / y)
 obtain ⟨b, hbl⟩ := bl_ex y
 obtain ⟨rc, hrc⟩ := exq (Vg.sz (r * 2 ^ (32 * S y - b)))
 have hm2 := hs.two hyB
 have hxy : S y <= S x := by
  rcases (hs.nm hy).sz.2 with h | h
  ·omega
  ·rcases Nat.lt_or_ge (S x) (S y) with h2 | h2
   ·exact absurd (Nat.lt_of_lt_of_le (hs.nm hx).lt (Nat.pow_le_pow_right (by decide) (show S x <= S y - 1 by omega))) (Nat.not_lt.2 (Nat.le_trans h hle))
   ·exact h2
 obtain ⟨J, hJ⟩ := exq (S x + 1 - S y)
 have hrl : r < 4294967296 ^ rc := by
  have h1 : r <= r * 2 ^ (32 * S y - b) := Nat.le_mul_of_pos_right _ (Nat.two_pow_pos _)
  have h2 := (nm_dg (x := r * 2 ^ (32 * S y - b)) (k := r * 2 ^ (32 * S y - b)) (Nat.lt_of_lt_of_le Nat.lt_two_pow_self (Nat.pow_le_pow_left (by decide) _))).lt
  rw [<- hrc] at h2
  exact Nat.lt_of_le_of_lt h1 h2
 refine ⟨rc, hrl, ?_⟩
 have hD := cRDivK hP (hs.nm hx) (hs.nm hy) (by have := hs.le hb; omega) hm2 hle d r J rc 4 (.slice 3 0 (Vg.sz r) rc) [⟨3, Vg.hs (dg r) rc, 58⟩] hd hr (by omega) (Or.inr ⟨hr0, rfl, rfl, rfl⟩) ⟨b, hbl, hrc⟩
 rw [show Vg.hs (dg x) c = H x c from by rw [hs.h], show Vg.hs (dg y) e = H y e from by rw [hs.h], show Vg.hs (dg r) rc = H r rc from by rw [hs.h], show Vg.hs (dg d) J = H d J from by rw [hs.h], show Vg.sz r = S r from by rw [hs.s], show Vg.sz d = S d from by rw [hs.s]] at hD
 have bC : ∀ m, bdLB m (H x c) = true := fun m => hs.b m x c
 have bE : ∀ m, bdLB m (H y e) = true := fun m => hs.b m y e
 have bR : ∀ m, bdLB m (H r rc) = true := fun m => hs.b m r rc
 have bQ : ∀ m, bdLB m (H d J) = true := fun m => hs.b m d J
 suffices raw : Con P 25 [.slice 0 0 (S x) c, .slice 1 0 (S y) e] [⟨0, H x c, 58⟩, ⟨1, H y e, 58⟩] 2 [] (fun w L q => w = .slice 3 0 (S r) rc /\ find L 3 = some ⟨3, H r rc, 58⟩) from
  raw.weak fun v L q ⟨h1, h2⟩ => ⟨fun l => if l = 2 then 3 else l, .slice 2 0 (S r) rc, [⟨2, H r rc, 58⟩], 3, by subst h1; exact wkr ⟨rfl, rfl, trivial⟩ ⟨by rw [rcl (H r rc) (bR 0)]; exact h2, rfl, rfl, bR 3, trivial⟩ rfl rfl rfl, rfl, rfl, rfl⟩
 clear hJ hrc
 refine cof hP Tryz.func25 ⟨blq rfl, ⟨blq rfl, trivial⟩⟩ (by simpa [bdL, bd] using ⟨bdb _ (bC 2), bdb _ (bE 2)⟩) ?_
 intro A g K hA hg hK
 cases A
 cbv
 refine cgn rfl hg rfl rfl hD _root_.id rfl (ft2 (bC 0) (bE 0) rfl rfl) rfl rfl rfl ?_
 rintro _ _ _ ⟨rfl, rfl, rfl⟩ _
 refine ⟨rfl, ?_⟩
 simp only [renB, rcl (H d J) (bQ 0), rcl (H r rc) (bR 0)]
 cbv
 exact hK _ _ _ ⟨rfl, rfl⟩
theorem mModZ {x c y e : Nat} (hx : x < 4294967296 ^ c) (hy : y < 4294967296 ^ e) (hb : x < 4294967296 ^ 40) (hle : y <= x) (hyB : 4294967296 <= y) (hr : x % y = 0) : Con P 25 [.slice 0 0 (S x) c, .slice 1 0 (S y) e] [⟨0, H x c, 58⟩, ⟨1, H y e, 58⟩] 2 [] (fun w _ _ => w = .nils) := by
 obtain ⟨d, hd⟩ := exq (x / y)
 obtain ⟨b, hbl⟩ := bl_ex y
 have hm2 := hs.two hyB
 have hxy : S y <= S x := by
  rcases (hs.nm hy).sz.2 with h | h
  ·omega
  ·rcases Nat.lt_or_ge (S x) (S y) with h2 | h2
   ·exact absurd (Nat.lt_of_lt_of_le (hs.nm hx).lt (Nat.pow_le_pow_right (by decide) (show S x <= S y - 1 by omega))) (Nat.not_lt.2 (Nat.le_trans h hle))
   ·exact h2
 obtain ⟨J, hJ⟩ := exq (S x + 1 - S y)
 have hD := cRDivK hP (hs.nm hx) (hs.nm hy) (by have := hs.le hb; omega) hm2 hle d 0 J _ 3 .nils [] hd hr.symm (by omega) (Or.inl ⟨rfl, rfl, rfl, rfl⟩) ⟨b, hbl, rfl⟩
 rw [show Vg.hs (dg x) c = H x c from by rw [hs.h], show Vg.hs (dg y) e = H y e from by rw [hs.h], show Vg.hs (dg d) J = H d J from by rw [hs.h], show Vg.sz d = S d from by rw [hs.s]] at hD
 have bC : ∀ m, bdLB m (H x c) = true := fun m => hs.b m x c
 have bE : ∀ m, bdLB m (H y e) = true := fun m => hs.b m y e
 have bQ : ∀ m, bdLB m (H d J) = true := fun m => hs.b m d J
 clear hJ
 refine cof hP Tryz.func25 ⟨blq rfl, ⟨blq rfl, trivial⟩⟩ (by simpa [bdL, bd] using ⟨bdb _ (bC 2), bdb _ (bE 2)⟩) ?_
 intro A g K hA hg hK
 cases A
 cbv
 refine cgn rfl hg rfl rfl hD _root_.id rfl (ft2 (bC 0) (bE 0) rfl rfl) rfl rfl rfl ?_
 rintro _ _ _ ⟨rfl, rfl, rfl⟩ _
 refine ⟨rfl, ?_⟩
 simp only [renB, rcl (H d J) (bQ 0)]
 cbv
 exact hK _ _ _ rfl
end
end Go.Proofs.YtdhmihfefgcbeaaGreat
namespace Go.Vg
open Go.RowKit Go.Lib
section
variable {A : Ar} (hA : A = Ar.real) {x y : Nat} {r : Int} (h1 : x < y -> r = -1) (h2 : x = y -> r = 0) (h3 : y < x -> r = 1)
include hA h1 h2 h3
end
end Go.Vg
namespace Go.Proofs.YtdhmihfefgcbeaaGreat
open Go.Vg Go.RowKit
set_option maxRecDepth 200000
set_option cbv.maxSteps 100000000
section
variable {P : Program} (hP : P = Tryz.prog) {H : Nat -> Nat -> List SV} {S : Nat -> Nat} (hs : HS H S)
include hP hs
theorem mAdd {x c y e : Nat} (hx : x < 4294967296 ^ c) (hy : y < 4294967296 ^ e) (hb : x < 4294967296 ^ 40) (hb2 : y < 4294967296 ^ 40) (s : Nat) (hsum : s = x + y) : ∃ k, s < 4294967296 ^ k /\ Con P 24 [.slice 0 0 (S x) c, .slice 1 0 (S y) e] [⟨0, H x c, 58⟩, ⟨1, H y e, 58⟩] 2 [] (fun w L q => w = .slice 2 0 (S s) k /\ L = [⟨2, H s k, 58⟩] /\ q = 3) := by
 have h1 := (hs.nm hx).lt
 have h2 := (hs.nm hy).lt
 have h3 := Nat.lt_of_lt_of_le h1 (Nat.pow_le_pow_right (show 0 < 4294967296 by decide) (Nat.le_max_left (S x) (S y)))
 have h4 := Nat.lt_of_lt_of_le h2 (Nat.pow_le_pow_right (show 0 < 4294967296 by decide) (Nat.le_max_right (S x) (S y)))
 refine ⟨max (S x) (S y) + 1, by rw [hsum, Nat.pow_succ]; omega, ?_⟩
 subst hsum
 rw [hs.h]; exact cRAdd hP (hs.nm hx) (hs.nm hy) (by have := hs.le hb; omega) (by have := hs.le hb2; omega) _ _ rfl rfl _ (by rw [hs.s])
theorem mSub {x c y e : Nat} (hx : x < 4294967296 ^ c) (hy : y < 4294967296 ^ e) (hb : x < 4294967296 ^ 40) (hle : y <= x) (s : Nat) (hd : s = x - y) : ∃ k, s < 4294967296 ^ k /\ Con P 23 [.slice 0 0 (S x) c, .slice 1 0 (S y) e] [⟨0, H x c, 58⟩, ⟨1, H y e, 58⟩] 2 [] (fun w L q => w = .slice 2 0 (S s) k /\ L = [⟨2, H s k, 58⟩] /\ q = 3) := by
 refine ⟨S x, by rw [hd]; exact Nat.lt_of_le_of_lt (Nat.sub_le _ _) (hs.nm hx).lt, ?_⟩
 subst hd
 rw [hs.h]; exact cRSub hP (hs.nm hx) (hs.nm hy) (by have := hs.le hb; omega) hle _ (by rw [hs.s])
theorem pow40 {x : Nat} (h : x < 4294967296 ^ 18) : x < 4294967296 ^ 40 := by
 have := hs.h; have := hP
 exact Nat.lt_trans h (Nat.pow_lt_pow_right (by decide) (by decide))
end
end Go.Proofs.YtdhmihfefgcbeaaGreat
namespace Go.Vg
open Go.RowKit Go.Lib
theorem or_dig {T t d e w q r : Nat} (he : e = 32 * q + r) (hrw : r + w <= 32) (hd : d < 2 ^ w) (hT : T = t * 2 ^ (e + w)) : (∀ j, dg (T + d * 2 ^ e) j = if j = q then dg T q + d * 2 ^ r else dg T j) /\ dg T q ||| d * 2 ^ r = dg T q + d * 2 ^ r /\ dg T q + d * 2 ^ r < 4294967296 := by
 have hdr : d * 2 ^ r < 2 ^ (r + w) := by rw [Nat.pow_add, Nat.mul_comm]; exact Nat.mul_lt_mul_of_pos_left hd (Nat.two_pow_pos r)
 have eT : T / 4294967296 ^ q = t * 2 ^ (r + w) := by
  rw [hT, B_pow, he, Nat.add_assoc, Nat.pow_add, <- Nat.mul_assoc, Nat.mul_comm t, Nat.mul_assoc, Nat.mul_div_cancel_left _ (Nat.two_pow_pos _)]
 have eT2 : (T + d * 2 ^ e) / 4294967296 ^ q = t * 2 ^ (r + w) + d * 2 ^ r := by
  rw [hT, B_pow, he, Nat.add_assoc, Nat.pow_add 2 (32 * q) (r + w), Nat.pow_add 2 (32 * q) r, show t * (2 ^ (32 * q) * 2 ^ (r + w)) + d * (2 ^ (32 * q) * 2 ^ r) = 2 ^ (32 * q) * (t * 2 ^ (r + w) + d * 2 ^ r) from by rw [Nat.mul_add]; ac_rfl, Nat.mul_div_cancel_left _ (Nat.two_pow_pos _)]
 obtain ⟨c, hc⟩ : ∃ c, 32 = r + w + c := ⟨32 - (r + w), by omega⟩
 have hB : (4294967296 : Nat) = 2 ^ (r + w) * 2 ^ c := by rw [<- Nat.pow_add, <- hc]
 have hq : dg T q = (t % 2 ^ c) * 2 ^ (r + w) := by
  show T / 4294967296 ^ q % 4294967296 = _
  rw [eT, hB, Nat.mul_comm t, Nat.mul_mod_mul_left, Nat.mul_comm]
 have h1 : t % 2 ^ c + 1 <= 2 ^ c := Nat.mod_lt _ (Nat.two_pow_pos c)
 have h2 := Nat.mul_le_mul_right (2 ^ (r + w)) h1
 rw [Nat.add_mul, Nat.one_mul, <- hq, Nat.mul_comm (2 ^ c), <- hB] at h2
 have hlt : dg T q + d * 2 ^ r < 4294967296 := by omega
 refine ⟨fun j => ?_, by rw [hq]; exact or_add hdr, hlt⟩
 by_cases hj : j = q
 ·subst hj
  rw [if_pos rfl]
  show (T + d * 2 ^ e) / 4294967296 ^ j % 4294967296 = _
  rw [eT2]
  have e3 : t * 2 ^ (r + w) = dg T j + 4294967296 * (t / 2 ^ c) := by
   rw [hq, hB]
   have := Nat.div_add_mod t (2 ^ c)
   have h5 : t * 2 ^ (r + w) = (2 ^ c * (t / 2 ^ c) + t % 2 ^ c) * 2 ^ (r + w) := by rw [this]
   rw [h5, Nat.add_mul, Nat.add_comm]
   congr 1
   ac_rfl
  rw [e3, Nat.add_right_comm, Nat.add_mul_mod_self_left, Nat.mod_eq_of_lt hlt]
 ·rw [if_neg hj]
  rcases Nat.lt_or_gt_of_ne hj with h | h
  ·obtain ⟨z, rfl⟩ : ∃ z, q = j + 1 + z := ⟨q - (j + 1), by omega⟩
   have e4 : d * 2 ^ e = (d * 2 ^ (r + 32 * z)) * 4294967296 ^ (j + 1) := by
    rw [he, B_pow, Nat.mul_assoc, <- Nat.pow_add]; congr 2; omega
   rw [e4]; exact dg_low (by omega)
  ·-- the quotient does not change
   obtain ⟨z, rfl⟩ : ∃ z, j = q + 1 + z := ⟨j - (q + 1), by omega⟩
   have e5 : ∀ X, X / 4294967296 ^ (q + 1 + z) = X / 4294967296 ^ q / 2 ^ (r + w) / (2 ^ c * 4294967296 ^ z) := fun X => by
    rw [Nat.div_div_eq_div_mul, Nat.div_div_eq_div_mul, <- Nat.mul_assoc (2 ^ (r + w)) (2 ^ c), <- hB, Nat.pow_add, Nat.pow_succ, Nat.mul_assoc]
   show (T + d * 2 ^ e) / _ % _ = T / _ % _
   rw [e5, e5, eT, eT2, Nat.mul_div_cancel _ (Nat.two_pow_pos _), Nat.mul_comm t, Nat.mul_add_div (Nat.two_pow_pos _), Nat.div_eq_of_lt hdr, Nat.add_zero]
def topN (b x k : Nat) : Nat := x / b ^ k * b ^ k
theorem topN_zero (b x : Nat) : topN b x 0 = x := by unfold topN; rw [Nat.pow_zero, Nat.div_one, Nat.mul_one]
theorem topN_succ (b x k : Nat) : topN b x k = topN b x (k + 1) + x / b ^ k % b * b ^ k := by
 unfold topN
 rw [Nat.pow_succ, <- Nat.div_div_eq_div_mul]
 have h := Nat.div_add_mod (x / b ^ k) b
 generalize x / b ^ k = y at *
 generalize b ^ k = Q
 have h2 : y * Q = (b * (y / b) + y % b) * Q := by rw [h]
 rw [h2, Nat.add_mul]
 congr 1
 ac_rfl
theorem topN_all {b x n : Nat} (h : x < b ^ n) : topN b x n = 0 := by unfold topN; rw [Nat.div_eq_of_lt h, Nat.zero_mul]
theorem dg_even (x i : Nat) : dg x (2 * i) = x / 0x10000000000000000 ^ i % 0x10000000000000000 % 4294967296 := by
 unfold dg Dg.dig
 rw [Nat.pow_mul, show (4294967296 : Nat) ^ 2 = 0x10000000000000000 from by decide]
 omega
theorem dg_odd (x i : Nat) : dg x (2 * i + 1) = x / 0x10000000000000000 ^ i % 0x10000000000000000 / 4294967296 := by
 unfold dg Dg.dig
 rw [Nat.pow_succ, <- Nat.div_div_eq_div_mul, Nat.pow_mul, show (4294967296 : Nat) ^ 2 = 0x10000000000000000 from by decide]
 omega
end Go.Vg
namespace Go.Proofs.YtdhmihfefgcbeaaGreat
open Go.Vg Go.RowKit
set_option maxRecDepth 200000
set_option cbv.maxSteps 100000000
theorem word_of {a : Nat -> Nat} {x : Nat} (ha : Wn 9 a) (hx : V 9 a = x) {i : Nat} (hi : i < 9) : a i = x / 0x10000000000000000 ^ i % 0x10000000000000000 := by
 rw [<- hx]; exact (Dg.dig_num (b := 0x10000000000000000) (by decide) 9 ha i hi).symm
section
variable {P : Program} (hP : P = Tryz.prog) {H : Nat -> Nat -> List SV} {S : Nat -> Nat} (hs : HS H S)
include hP hs
theorem mFrom (a : Nat -> Nat) (ha : Wn 9 a) (x : Nat) (hx : V 9 a = x) : x < 4294967296 ^ 18 /\ Con P 13 [.agg (ws a 9)] [] 0 [] (fun w L q => w = .slice 0 0 (S x) 18 /\ L = [⟨0, H x 18, 58⟩] /\ q = 1) := by
 have hx18 : x < 4294967296 ^ 18 := by
  rw [<- hx]
  exact Nat.lt_of_lt_of_le (V_lt ha) (by decide)
 refine ⟨hx18, ?_⟩
 obtain ⟨Z, hZ⟩ := exq (fun i => Vg.hs (wr (dg x) i) 18 : Nat -> List SV)
 have bZ : ∀ m i, bdLB m (Z i) = true := fun m i => by rw [hZ]; exact hs_bd _ _ m
 have hZ0 : List.replicate 18 (SV.int .u32 0) = Z 0 := by rw [hZ, hs_zero]; show _ = Vg.hs (wr _ 0) 18; rw [wr_zero]
 have hZn : Z 18 = H x 18 := by rw [hZ, hs.h]; exact hs_wr _ _
 have hTr : Con P 42 [.slice 0 0 18 18] [⟨0, Z 18, 58⟩] 1 [] (fun w _ _ => w = .slice 0 0 (S x) 18) := by
  rw [hZn, hs.h]; exact cTrim hP (dg x) 18 18 (S x) (Nat.le_refl _) (by decide) (by rw [hs.s, tl_dg hx18])
 rw [<- hZn]
 suffices raw : Con P 13 [.agg (ws a 9)] [] 0 [] (fun w L q => w = .slice 1 0 (S x) 18 /\ find L 1 = some ⟨1, Z 18, 58⟩) from
  raw.weak fun v L q ⟨h1, h2⟩ => ⟨fun l => l + 1, .slice 0 0 (S x) 18, [⟨0, Z 18, 58⟩], 1, by subst h1; exact wkr ⟨rfl, rfl, trivial⟩ ⟨by rw [rcl (Z 18) (bZ 0 18)]; exact h2, rfl, rfl, bZ 1 18, trivial⟩ rfl rfl rfl, rfl, rfl, rfl⟩
 obtain ⟨D, hD⟩ := exq (dg x)
 have hlo : ∀ i, i < 9 -> a i % 4294967296 = D (2 * i) := fun i h => by rw [hD, word_of ha hx h]; exact (dg_even x i).symm
 have hhi : ∀ i, i < 9 -> a i / 4294967296 = D (2 * i + 1) := fun i h => by rw [hD, word_of ha hx h]; exact (dg_odd x i).symm
 rw [<- hD] at hZ
 clear hD hZn
 refine cof hP Tryz.func13 (bdb _ rfl) (bkb rfl) ?_
 intro A g K hA hg hK
 obtain ⟨bin, sh, cmp, _, cvt, ix, _, _, _, _, _, _, _, _, _, off, _, _, _, spl⟩ := A
 have f1 : ∀ i, i < 9 -> cmp .lss (.ofNat i) 9 = true := fun i h => lss_t hA (b := 9) h
 have f1f : cmp .lss (.ofNat 9) 9 = false := lss_f hA (a := 9) (b := 9) (by omega)
 have f2 : ∀ i, i < 9 -> ix (.ofNat i) 9 = some i := fun i h => ix_of hA h
 have f3 : ∀ i, off 0 i 1 = i := fun i => (off_of hA 0 i 1).trans (by omega)
 have f4 := fun (i : Nat) (h : i < 9) => getW hA .u64 (n := 9) a h
 have f5 : ∀ i, i < 18 -> ix (.ofNat i) 18 = some i := fun i h => ix_of hA h
 have f6 : ∀ i v, i < 18 -> v = D i -> spl (Z i) i [.int .u32 (.ofNat v)] = some (Z (i + 1)) := fun i v h hv => by rw [hZ]; exact splW hA .u32 (n := 18) (wr D i) (wr D (i + 1)) h (wr_step D i v hv)
 have f7 : ∀ i, i < 100 -> bin .add .i64 (.ofNat i) 1 = Int.ofNat (i + 1) := fun i h => addI hA (a := i) (b := 1) (by omega)
 simp only [lst, Nat.reduceAdd] at f4
 have hU := u32B hP
 clear hZ
 cbv
 refine smk (hP ▸ tblOk) hg rfl rfl (show tyT 27 = some _ from rfl) rfl (show tyT 58 = some _ from rfl) hU rfl (m := 18) rfl rfl (by decide) (by decide) ?_
 rw [hZ0]
 cbv
 refine lpb Nat (fun i => i <= 9) (fun i => 9 - i) (fun i => [(4, .int .i64 (.ofNat i))]) [1, 2, 3] (fun i => [(1, Z (2 * i))]) 0 (Nat.zero_le _) ?_ ?_
 ·exact wkih (by repeat' (first | exact trivial | refine ⟨rfl, rfl, rfl, ?_⟩ | refine ⟨rfl, rfl, bZ 2 (2 * 0), ?_⟩))
 intro i hi
 by_cases hlt : i < 9
 ·obtain ⟨i2, hi2⟩ := exq (2 * i)
  obtain ⟨i3, hi3⟩ := exq (i2 + 1)
  obtain ⟨lo, hlo'⟩ := exq (a i % 4294967296)
  obtain ⟨hi', hhi'⟩ := exq (a i / 4294967296)
  have la : a i < 0x10000000000000000 := ha i hlt
  have g1 : bin .mul .i64 2 (.ofNat i) = Int.ofNat i2 := (mulI hA (a := 2) (b := i) (by omega)).trans (by rw [hi2])
  have g2 : bin .and .u64 (.ofNat (a i)) 4294967295 = Int.ofNat lo := lo32 hA la hlo'
  have g3 : cvt .u32 (.ofNat lo) = Int.ofNat lo := c32 hA (by omega)
  have g4 : sh .shr .u64 (.ofNat (a i)) 32 = Int.ofNat hi' := hi32 hA hhi'
  have g5 : cvt .u32 (.ofNat hi') = Int.ofNat hi' := c32 hA (by omega)
  have g6 := f6 i2 lo (by omega) (by rw [hlo', hi2]; exact hlo i hlt)
  have g7 := f6 i3 hi' (by omega) (by rw [hhi', hi3, hi2]; exact hhi i hlt)
  have g8 := f7 i2 (by omega)
  have g9 := f7 i (by omega)
  rw [<- hi3] at g6 g8
  obtain ⟨Zn, hZn⟩ := exq (Z (i3 + 1))
  rw [<- hZn] at g7
  rw [<- hi2]
  cbv
  rw [f1 i hlt]
  cbv
  rw [g1]
  cbv
  rw [f2 i hlt]
  cbv
  rw [f3, f4 i hlt]
  cbv
  rw [g2]
  cbv
  rw [g3]
  cbv
  rw [f5 i2 (by omega)]
  cbv
  rw [f3, g6]
  cbv
  rw [g1]
  cbv
  rw [g8]
  cbv
  rw [f2 i hlt]
  cbv
  rw [f3, f4 i hlt]
  cbv
  rw [g4]
  cbv
  rw [g5]
  cbv
  rw [f5 i3 (by omega)]
  cbv
  rw [f3, g7]
  cbv
  rw [g9]
  refine ⟨i + 1, _root_.id, hlt, (by show 9 - (i + 1) < 9 - i; omega), ?_⟩
  rw [show 2 * (i + 1) = i3 + 1 by omega, <- hZn]
  have bZn : ∀ m, bdLB m Zn = true := fun m => by rw [hZn]; exact bZ m _
  exact wkih (by repeat' (first | exact trivial | refine ⟨rfl, rfl, rfl, ?_⟩ | refine ⟨rfl, rfl, bZn 2, ?_⟩))
 ·obtain rfl : i = 9 := by omega
  obtain ⟨Ze, hZe⟩ := exq (Z 18)
  rw [show 2 * 9 = 18 from rfl, <- hZe]
  rw [<- hZe] at hTr
  have bZe : ∀ m, bdLB m Ze = true := fun m => by rw [hZe]; exact bZ m _
  cbv
  rw [f1f]
  cbv
  refine cro rfl hg rfl rfl hTr (fun _ => 1) rfl (ft1 (bZe 0) rfl) ?_
  rintro _ _ _ rfl
  refine ⟨by simp [bd], by simp [bd, ren], ?_⟩
  cbv
  exact hK _ _ _ ⟨rfl, by rw [hZe]; rfl⟩
theorem mNat {x c : Nat} (hx : x < 4294967296 ^ c) (r : Nat -> Nat) (hr : Wn 9 r) (hrx : V 9 r = x) : Con P 22 [.slice 0 0 (S x) c] [⟨0, H x c, 58⟩] 1 [] (fun w _ _ => w = .agg (ws r 9)) := by
 have hn := hs.nm hx
 have hdx : ∀ i, Con P 49 [.slice 0 0 (S x) c, .int .i64 (.ofNat i)] [⟨0, H x c, 58⟩] 1 [] (fun w _ _ => w = .int .u64 (.ofNat (dg x i))) := fun i => by
  rw [hs.h]
  exact cRDigit hP (dg x) (S x) c i _ hn.le hn.w (by
   by_cases h : i < S x
   ·rw [if_pos h]
   ·rw [if_neg h, hn.digz (by omega)])
 obtain ⟨D, hD⟩ := exq (dg x)
 have lD : ∀ i, D i < 4294967296 := fun i => by rw [hD]; exact dg_lt _ _
 have hw : ∀ i, i < 9 -> D (2 * i) + D (2 * i + 1) * 4294967296 = r i := fun i h => by
  rw [hD, dg_even, dg_odd, <- word_of hr hrx h]; omega
 rw [<- hD] at hdx
 obtain ⟨C, hC⟩ := exq (H x c)
 have bC : ∀ m, bdLB m C = true := fun m => by rw [hC]; exact hs.b m x c
 obtain ⟨n, hnn⟩ := exq (S x)
 rw [<- hC, <- hnn] at hdx ⊢
 clear hC hnn hD hn
 refine cof hP Tryz.func22 ⟨blq rfl, trivial⟩ (by simpa [bdL, bd] using bdb _ (bC 1)) ?_
 intro A g K hA hg hK
 obtain ⟨bin, sh, cmp, _, _, ix, _, _, _, _, _, _, _, _, _, off⟩ := A
 have f1 : ∀ i, i < 9 -> cmp .lss (.ofNat i) 9 = true := fun i h => lss_t hA (b := 9) h
 have f1f : cmp .lss (.ofNat 9) 9 = false := lss_f hA (a := 9) (b := 9) (by omega)
 have f2 : ∀ i, i < 9 -> ix (.ofNat i) 9 = some i := fun i h => ix_of hA h
 have f3 : ∀ i, off 0 i 1 = i := fun i => (off_of hA 0 i 1).trans (by omega)
 have f5 := fun (f g : Nat -> Nat) (i v : Nat) (h : i < 9) (e : g = fun j => if j = i then v else f j) => splW hA .u64 (n := 9) f g h e
 have f7 : ∀ i, i < 100 -> bin .add .i64 (.ofNat i) 1 = Int.ofNat (i + 1) := fun i h => addI hA (a := i) (b := 1) (by omega)
 simp only [lst, Nat.reduceAdd] at f5
 cbv
 refine lpb (Nat × (Nat -> Nat)) (fun s => s.1 <= 9 /\ s.2 = wr r s.1) (fun s => 9 - s.1) (fun s => [(4, .int .i64 (.ofNat s.1))]) [0, 2, 3] (fun s => [(2, ws s.2 9)]) (0, fun _ => 0) ⟨Nat.zero_le _, (wr_zero r).symm⟩ ?_ ?_
 ·exact wkih (by repeat' (first | exact trivial | refine ⟨rfl, rfl, rfl, ?_⟩ | refine ⟨rfl, rfl, bC 3, ?_⟩))
 rintro ⟨i, f⟩ ⟨hi, hf⟩
 change i <= 9 at hi
 change f = wr r i at hf
 by_cases hlt : i < 9
 ·obtain ⟨i2, hi2⟩ := exq (2 * i)
  obtain ⟨i3, hi3⟩ := exq (i2 + 1)
  obtain ⟨w1, hw1⟩ := exq (D i3 * 4294967296)
  obtain ⟨w2, hw2⟩ := exq (D i2 + w1)
  have l1 := lD i2
  have l2 := lD i3
  have hv : w2 = r i := by rw [hw2, hw1, hi3, hi2]; exact hw i hlt
  have g1 : bin .mul .i64 2 (.ofNat i) = Int.ofNat i2 := (mulI hA (a := 2) (b := i) (by omega)).trans (by rw [hi2])
  have g2 := f7 i2 (by omega)
  have g3 : sh .shl .u64 (.ofNat (D i3)) 32 = Int.ofNat w1 := (shlW hA (k := .u64) rfl (D i3) (s := 32) (by decide)).trans (congrArg Int.ofNat (by rw [hw1]; show D i3 * 4294967296 % 0x10000000000000000 = _; omega))
  have g4 : bin .or .u64 (.ofNat (D i2)) (.ofNat w1) = Int.ofNat w2 := (orW hA (k := .u64) rfl (a := D i2) (b := w1) (by show D i2 < 0x10000000000000000; omega) (by show w1 < 0x10000000000000000; omega)).trans (congrArg Int.ofNat (by rw [hw2, hw1, Nat.or_comm, show (4294967296 : Nat) = 2 ^ 32 from rfl, or_add (s := 32) l1, Nat.add_comm]))
  have hfn : wr r (i + 1) = fun j => if j = i then w2 else f j := by rw [hf]; exact wr_step r i w2 hv
  obtain ⟨fn, hfn2⟩ := exq (wr r (i + 1))
  rw [<- hfn2] at hfn
  have g5 := f5 f fn i w2 hlt hfn
  have g6 := f7 i (by omega)
  rw [<- hi3] at g2
  cbv
  rw [f1 i hlt]
  cbv
  rw [g1]
  cbv
  refine cro rfl hg rfl rfl (hdx i2) (fun _ => 0) rfl (ft1 (bC 0) rfl) ?_
  rintro _ _ _ rfl
  refine ⟨trivial, trivial, ?_⟩
  cbv
  rw [g1]
  cbv
  rw [g2]
  cbv
  refine cro rfl hg rfl rfl (hdx i3) (fun _ => 0) rfl (ft1 (bC 0) rfl) ?_
  rintro _ _ _ rfl
  refine ⟨trivial, trivial, ?_⟩
  cbv
  rw [g3]
  cbv
  rw [g4]
  cbv
  rw [f2 i hlt]
  cbv
  rw [f3, g5]
  cbv
  rw [g6]
  refine ⟨(i + 1, fn), _root_.id, ⟨hlt, hfn2⟩, (by show 9 - (i + 1) < 9 - i; omega), ?_⟩
  exact wkih (by repeat' (first | exact trivial | refine ⟨rfl, rfl, rfl, ?_⟩ | refine ⟨rfl, rfl, bC 3, ?_⟩))
 ·obtain rfl : i = 9 := by omega
  have e : ws f 9 = ws r 9 := by rw [hf]; exact lcg fun j _ hj => by unfold wr; rw [if_pos (by omega)]
  cbv
  rw [f1f]
  cbv
  exact hK _ _ _ (by rw [<- e]; rfl)
end
theorem cRHexDigit {P : Program} (hP : P = Tryz.prog) (d c : Nat) (hd : d < 16) (hc : c = if d < 10 then 48 + d else 87 + d) : Con P 56 [.int .u8 (.ofNat c)] [] 0 [] (fun w _ _ => w = .int .u32 (.ofNat d)) := by
 refine cof hP Tryz.func56 (bdb _ rfl) (bkb rfl) ?_
 intro A g K hA hg hK
 obtain ⟨bin, _, cmp, _, cvt, _, _, _, _, _, _, _, _, _, _, _, _, _, sub⟩ := A
 by_cases h10 : d < 10
 ·rw [if_pos h10] at hc
  have g1 : bin .sub .u8 (.ofNat c) 48 = Int.ofNat d := (subW hA (k := .u8) rfl (a := c) (b := 48) (by decide)).trans (congrArg Int.ofNat (by show (c + 256 - 48) % 256 = d; omega))
  have g2 : cvt .u32 (.ofNat d) = Int.ofNat d := c32 hA (by omega)
  cbv
  rw [show cmp .geq (.ofNat c) 97 = false from geq_f hA (b := 97) (by omega)]
  cbv
  rw [g1]
  cbv
  rw [g2]
  exact hK _ _ _ rfl
 ·rw [if_neg h10] at hc
  obtain ⟨e, he⟩ := exq (d - 10)
  have g1 : bin .sub .u8 (.ofNat c) 97 = Int.ofNat e := (subW hA (k := .u8) rfl (a := c) (b := 97) (by decide)).trans (congrArg Int.ofNat (by show (c + 256 - 97) % 256 = e; omega))
  have g2 : cvt .u32 (.ofNat e) = Int.ofNat e := c32 hA (by omega)
  have g3 : bin .add .u32 (.ofNat e) 10 = Int.ofNat d := (addW hA (k := .u32) rfl e 10).trans (congrArg Int.ofNat (by show (e + 10) % 4294967296 = d; omega))
  cbv
  rw [show cmp .geq (.ofNat c) 97 = true from geq_t hA (b := 97) (by omega)]
  cbv
  rw [g1]
  cbv
  rw [g2]
  cbv
  rw [g3]
  exact hK _ _ _ rfl
section
variable {P : Program} (hP : P = Tryz.prog) {H : Nat -> Nat -> List SV} {S : Nat -> Nat} (hs : HS H S)
include hP hs
theorem mHex (n x : Nat) (hn : n <= 144) (hx : x < 16 ^ n) (s : ByteArray) (hsx : s = hexS x n) (c : Nat) (hc : c = n / 8 + 1) : x < 4294967296 ^ c /\ Con P 38 [.str s] [] 0 [] (fun w L q => w = .slice 0 0 (S x) c /\ L = [⟨0, H x c, 58⟩] /\ q = 1) := by
 have hpc : 16 ^ n <= 4294967296 ^ c := by
  rw [show (4294967296 : Nat) = 16 ^ 8 from by decide, <- Nat.pow_mul]
  exact Nat.pow_le_pow_right (by decide) (by omega)
 have hxc : x < 4294967296 ^ c := Nat.lt_of_lt_of_le hx hpc
 refine ⟨hxc, ?_⟩
 have hsz : s.size = n := by rw [hsx, hexS_size]
 obtain ⟨T, hT⟩ := exq (fun i => topN 16 x (n - i) : Nat -> Nat)
 obtain ⟨Dd, hDd⟩ := exq (fun k => x / 16 ^ k % 16 : Nat -> Nat)
 have lDd : ∀ k, Dd k < 16 := fun k => by rw [hDd]; exact Nat.mod_lt _ (by decide)
 obtain ⟨Z, hZ⟩ := exq (fun i => Vg.hs (dg (T i)) c : Nat -> List SV)
 have bZ : ∀ m i, bdLB m (Z i) = true := fun m i => by rw [hZ]; exact hs_bd _ _ m
 have hZ0 : List.replicate c (SV.int .u32 0) = Z 0 := by
  rw [hZ, hs_zero, hT]; show _ = Vg.hs (dg (topN 16 x (n - 0))) c
  rw [Nat.sub_zero, topN_all hx]
  exact hs_congr fun j _ => by unfold dg Dg.dig; rw [Nat.zero_div]
 have hTn : T n = x := by rw [hT]; show topN 16 x (n - n) = x; rw [Nat.sub_self, topN_zero]
 have hZn : Z n = Vg.hs (dg x) c := by rw [hZ]; show Vg.hs (dg (T n)) c = _; rw [hTn]
 have hSh := cRShr hP (n := c) (c := c) (f := dg x) (x := x) ⟨Nat.le_refl c, fun j _ => dg_lt x j, num_dgW hxc⟩ (by omega) (by omega) 0 (by decide) x (S x) (by rw [Nat.pow_zero, Nat.div_one]) (by rw [hs.s])
 rw [<- hZn] at hSh
 rw [hs.h]
 show Con P _ _ _ _ _ (fun w L q => w = .slice 0 0 (S x) c /\ L = [⟨0, Vg.hs (dg x) c, 58⟩] /\ q = 1)
 rw [<- hZn]
 suffices raw : Con P 38 [.str s] [] 0 [] (fun w L q => w = .slice 1 0 (S x) c /\ find L 1 = some ⟨1, Z n, 58⟩) from
  raw.weak fun v L q ⟨h1, h2⟩ => ⟨fun l => l + 1, .slice 0 0 (S x) c, [⟨0, Z n, 58⟩], 1, by subst h1; exact wkr ⟨rfl, rfl, trivial⟩ ⟨by rw [rcl (Z n) (bZ 0 n)]; exact h2, rfl, rfl, bZ 1 n, trivial⟩ rfl rfl rfl, rfl, rfl, rfl⟩
 have hst : ∀ i k q r, i < n -> k = n - 1 - i -> q = k / 8 -> r = 4 * (k % 8) -> (∀ j, dg (T (i + 1)) j = if j = q then dg (T i) q + Dd k * 2 ^ r else dg (T i) j) /\ dg (T i) q ||| Dd k * 2 ^ r = dg (T i) q + Dd k * 2 ^ r /\ dg (T i) q + Dd k * 2 ^ r < 4294967296 := fun i k q r hi hk hq hr => by
  have e1 : T i = topN 16 x (k + 1) := by rw [hT]; show topN 16 x (n - i) = _; congr 1; omega
  have e2 : T (i + 1) = T i + Dd k * 2 ^ (4 * k) := by
   rw [e1, hT, hDd]; show topN 16 x (n - (i + 1)) = _ + x / 16 ^ k % 16 * _
   rw [show n - (i + 1) = k by omega, topN_succ, Nat.pow_mul]
  rw [e2]
  refine or_dig (t := x / 16 ^ (k + 1)) (w := 4) (by omega) (by omega) (lDd k) ?_
  rw [e1]; unfold topN
  rw [show 4 * k + 4 = 4 * (k + 1) by omega, Nat.pow_mul 2 4]
 have hdg := fun d c hd hc => cRHexDigit hP d c hd hc
 have hes : ∀ i k, i < n -> k = n - 1 - i -> s[i]? = some (hexc (Dd k)) := fun i k hi hk => by
  have := hexS_at x n k (by omega)
  rw [show n - 1 - k = i by omega] at this
  rw [hsx, hDd]; exact this
 clear hT hDd hZn hTn hsx
 refine cof hP Tryz.func38 (bdb _ rfl) (bkb rfl) ?_
 intro A g K hA hg hK
 obtain ⟨bin, sh, cmp, _, _, ix, nn, _, _, _, _, _, slen, six, nat, off, get, _, sub, spl⟩ := A
 have en : slen s = Int.ofNat n := (slen_of hA s).trans (by rw [hsz])
 have e0 : nat c = Int.ofNat c := nat_of hA c
 have e1 : bin .quo .i64 (.ofNat n) 8 = Int.ofNat (n / 8) := quoI hA (a := n) (b := 8) (by omega)
 have e2 : bin .add .i64 (.ofNat (n / 8)) 1 = Int.ofNat c := (addI hA (a := n / 8) (b := 1) (by omega)).trans (by rw [hc])
 have e3 : ∀ j, off 0 j 1 = j := fun j => (off_of hA 0 j 1).trans (by omega)
 have e4 : ∀ i m, i < m -> ix (.ofNat i) m = some i := fun i m h => ix_of hA h
 have e5 : ∀ i j, j < c -> get (Z i) j = some (.int .u32 (.ofNat (dg (T i) j))) := fun i j h => by rw [hZ]; exact getW hA .u32 (dg (T i)) h
 have e6 : ∀ i q v, q < c -> (dg (T (i + 1)) = fun j => if j = q then v else dg (T i) j) -> spl (Z i) q [.int .u32 (.ofNat v)] = some (Z (i + 1)) := fun i q v h hv => by rw [hZ]; exact splW hA .u32 (n := c) (dg (T i)) (dg (T (i + 1))) h hv
 have e7 : ∀ i, i < n -> cmp .lss (.ofNat i) (.ofNat n) = true := fun i h => lss_t hA h
 have e7f : cmp .lss (.ofNat n) (.ofNat n) = false := lss_f hA (Nat.lt_irrefl n)
 have e8 : ∀ i, i < n -> bin .add .i64 (.ofNat i) 1 = Int.ofNat (i + 1) := fun i h => addI hA (a := i) (b := 1) (by omega)
 have es : ∀ i b, s[i]? = some b -> six s (Int.ofNat i) = some (Int.ofNat b.toNat) := fun i b h => by
  have e : six = Ar.real.six := congrArg Ar.six hA
  rw [e]
  show (if 0 <= Int.ofNat i then (s[(Int.ofNat i).toNat]?).map fun b => (b.toNat : Int) else none) = _
  rw [if_pos (show (0 : Int) <= Int.ofNat i from Int.natCast_nonneg _)]
  show (s[i]?).map _ = _
  rw [h]; rfl
 have hU := u32B hP
 clear hZ
 cbv
 rw [en, e1, e2]
 cbv
 refine smk (hP ▸ tblOk) hg rfl rfl (show tyT 27 = some _ from rfl) rfl (show tyT 58 = some _ from rfl) hU rfl (m := c) rfl rfl (by omega) (by omega) ?_
 rw [hZ0]
 cbv
 refine lpb Nat (fun i => i <= n) (fun i => n - i) (fun i => [(4, .int .i64 (.ofNat i))]) [0, 2, 3] (fun i => [(0, Z i)]) 0 (Nat.zero_le _) ?_ ?_
 ·exact wkih (by repeat' (first | exact trivial | refine ⟨rfl, rfl, rfl, ?_⟩ | refine ⟨rfl, rfl, bZ 1 0, ?_⟩))
 intro i hi
 by_cases hlt : i < n
 ·obtain ⟨n1, hn1⟩ := exq (n - 1)
  obtain ⟨k, hk⟩ := exq (n - 1 - i)
  obtain ⟨q, hq⟩ := exq (k / 8)
  obtain ⟨r8, hr8⟩ := exq (k % 8)
  obtain ⟨r, hr⟩ := exq (4 * r8)
  have hqc : q < c := by omega
  obtain ⟨t1, t2, t3⟩ := hst i k q r hlt hk hq (by rw [hr, hr8])
  obtain ⟨d, hd⟩ := exq (Dd k)
  have ld : d < 16 := by rw [hd]; exact lDd k
  obtain ⟨ch, hch⟩ := exq ((hexc d).toNat)
  have hch2 : ch = if d < 10 then 48 + d else 87 + d := by rw [hch]; exact hexc_nat ld
  have hsi := es i (hexc d) (by rw [hd]; exact hes i k hlt hk)
  rw [<- hch] at hsi
  rw [<- hd] at t1 t2 t3
  obtain ⟨O, hO⟩ := exq (dg (T i) q)
  have gO := e5 i q hqc
  rw [<- hO] at t1 t2 t3 gO
  obtain ⟨y, hy⟩ := exq (d * 2 ^ r)
  obtain ⟨w, hw⟩ := exq (O + y)
  rw [<- hy] at t1 t2 t3
  rw [<- hw] at t1 t2 t3
  have hdc := hdg d ch ld hch2
  have g1 : bin .sub .i64 (.ofNat n) 1 = Int.ofNat n1 := (subI hA (a := n) (b := 1) (by omega) (by omega)).trans (by rw [hn1])
  have g2 : bin .sub .i64 (.ofNat n1) (.ofNat i) = Int.ofNat k := (subI hA (a := n1) (b := i) (by omega) (by omega)).trans (by rw [hk, hn1])
  have g3 : bin .quo .i64 (.ofNat k) 8 = Int.ofNat q := (quoI hA (a := k) (b := 8) (by omega)).trans (by rw [hq])
  have g4 : bin .rem .i64 (.ofNat k) 8 = Int.ofNat r8 := (remW hA k 8).trans (by rw [hr8])
  have g5 : bin .mul .i64 (.ofNat r8) 4 = Int.ofNat r := (mulI hA (a := r8) (b := 4) (by omega)).trans (by rw [hr, Nat.mul_comm])
  have g6 : nn (.ofNat r) = true := nn_t hA r
  have g7 : sh .shl .u32 (.ofNat d) (.ofNat r) = Int.ofNat y := (shlW hA (k := .u32) rfl d (s := r) (by show r <= 32; omega)).trans (congrArg Int.ofNat (by rw [<- hy]; exact Nat.mod_eq_of_lt (by show y < 4294967296; omega)))
  have g8 : bin .or .u32 (.ofNat O) (.ofNat y) = Int.ofNat w := (orW hA (k := .u32) rfl (a := O) (b := y) (by show O < 4294967296; omega) (by show y < 4294967296; omega)).trans (congrArg Int.ofNat t2)
  have g9 := e6 i q w hqc (funext t1)
  have g10 := e8 i hlt
  obtain ⟨Zn, hZn⟩ := exq (Z (i + 1))
  rw [<- hZn] at g9
  have bZn : ∀ m, bdLB m Zn = true := fun m => by rw [hZn]; exact bZ m _
  cbv
  rw [en]
  cbv
  rw [e7 i hlt]
  cbv
  rw [en, g1, g2]
  cbv
  refine reg_A (hP ▸ tblOk) hA hg (hP ▸ mixed) rfl rfl ?_
  cbv
  rw [g3]
  cbv
  rw [e4 q c hqc]
  cbv
  rw [e3, gO]
  cbv
  rw [hsi]
  cbv
  refine sdv hg hdc ?_
  cbv
  rw [g4]
  cbv
  rw [g5]
  cbv
  rw [g6]
  cbv
  rw [g7]
  cbv
  rw [g8]
  cbv
  rw [e4 q c hqc]
  cbv
  rw [e3, g9]
  cbv
  rw [g10]
  refine ⟨i + 1, _root_.id, hlt, (by show n - (i + 1) < n - i; omega), ?_⟩
  rw [<- hZn]
  exact wkih (by repeat' (first | exact trivial | refine ⟨rfl, rfl, rfl, ?_⟩ | refine ⟨rfl, rfl, bZn 1, ?_⟩))
 ·have hin : n = i := by omega
  subst hin
  cbv
  rw [en]
  cbv
  rw [e7f]
  cbv
  refine cgn rfl hg rfl rfl hSh (fun _ => 0) rfl (ft1 (bZ 0 n) rfl) rfl rfl rfl ?_
  rintro _ _ _ ⟨rfl, rfl, rfl⟩ _
  refine ⟨rfl, ?_⟩
  simp only [renB, rcl (Z n) (bZ 0 n)]
  cbv
  exact hK _ _ _ ⟨rfl, rfl⟩
end
def minusS : ByteArray := ⟨⟨[45]⟩⟩
def rowRA (k : Nat) : ByteArray := if rowAL k = 0 then minusS else hexS (rowA k) (rowAL k)
theorem mRow {P : Program} (hP : P = Tryz.prog) (k : Nat) (hk : 1 <= k /\ k <= 15) (p a b n x y : ByteArray) (hp : p = hexS (primeN k) (primeL k)) (ha : a = rowRA k) (hb : b = hexS (rowB k) (rowBL k)) (hn : n = hexS (rowN k) (rowNL k)) (hx : x = hexS (rowX k) (rowXL k)) (hy : y = hexS (rowY k) (rowYL k)) :
 Con P 37 [.int .i64 (.ofNat k)] [] 0 [] (fun w L q => w = .slice 0 0 6 6 /\ L = [⟨0, [.str p, .str a, .str b, .str n, .str x, .str y], 9⟩] /\ q = 1) := by
 have : k = 1 \/ k = 2 \/ k = 3 \/ k = 4 \/ k = 5 \/ k = 6 \/ k = 7 \/ k = 8 \/ k = 9 \/ k = 10 \/ k = 11 \/ k = 12 \/ k = 13 \/ k = 14 \/ k = 15 := by omega
 refine cof hP Tryz.func37 (bdb _ rfl) (bkb rfl) ?_
 intro A g K hA hg hK
 obtain ⟨_, _, cmp⟩ := A
 have f : ∀ y z, cmp .eql y z = decide (y = z) := fun y z => congrFun (congrFun (congrFun (cmp_of hA) .eql) y) z
 rcases this with rfl | rfl | rfl | rfl | rfl | rfl | rfl | rfl | rfl | rfl | rfl | rfl | rfl | rfl | rfl <;> (cbv; repeat (rw [f]; cbv)) <;> exact hK _ _ _ ⟨rfl, by rw [hp, ha, hb, hn, hx, hy]; kernel_rfl, rfl⟩
end Go.Proofs.YtdhmihfefgcbeaaGreat
