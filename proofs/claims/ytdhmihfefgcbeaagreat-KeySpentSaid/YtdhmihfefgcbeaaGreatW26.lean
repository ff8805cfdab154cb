/-
  This text proves what these texts prove: Lb, Lc, Ld. Conditions: those of each theorem.
-/
import Derived.Test.YtdhmihfefgcbeaaGreatW25
section
namespace Go.Proofs.YtdhmihfefgcbeaaGreat
open Go.Vg Go.RowKit
set_option maxRecDepth 200000
set_option cbv.maxSteps 100000000
def awD : Sh.Dr := Sh.new 2 (seedL [101])
theorem awR : (mkS 1 0 223 64 awD).1 = 141 /\ (mkS 1 0 223 64 awD).2.1 = 1 /\ (mkS 1 0 223 64 awD).2.2.1 = 0 := by decide +kernel
def sm (x j : Nat) : Nat := if j = 0 then x else 0
theorem sm_V (x : Nat) : V 9 (sm x) = x := by
 have : ∀ n, V (n + 1) (sm x) = x := fun n => by
  induction n with
  | zero => show 0 + x * 18446744073709551616 ^ 0 = x; omega
  | succ n ih =>
    show V (n + 1) (sm x) + 0 * _ = x
    rw [ih, Nat.zero_mul, Nat.add_zero]
 exact this 8
theorem sm_W {x : Nat} (h : x < 18446744073709551616) : Wn 9 (sm x) := fun j _ => by
 unfold sm; split
 ·exact h
 ·decide
theorem awP : ptx (EC.G 13) = 2 /\ pty (EC.G 13) = 84 /\ ptinf (EC.G 13) = false := by decide +kernel
theorem awN : EC.cn 13 = 223 := by decide +kernel
def valsP (f g : Nat -> Nat) (b : Bool) : Array Value := #[.int .u64 (Int.ofNat (f 0)), .int .u64 (Int.ofNat (f 1)), .int .u64 (Int.ofNat (f 2)), .int .u64 (Int.ofNat (f 3)), .int .u64 (Int.ofNat (f 4)), .int .u64 (Int.ofNat (f 5)), .int .u64 (Int.ofNat (f 6)), .int .u64 (Int.ofNat (f 7)), .int .u64 (Int.ofNat (f 8)), .int .u64 (Int.ofNat (g 0)), .int .u64 (Int.ofNat (g 1)), .int .u64 (Int.ofNat (g 2)), .int .u64 (Int.ofNat (g 3)), .int .u64 (Int.ofNat (g 4)), .int .u64 (Int.ofNat (g 5)), .int .u64 (Int.ofNat (g 6)), .int .u64 (Int.ofNat (g 7)), .int .u64 (Int.ofNat (g 8)), .bool b]
theorem eq_natD (f g : Nat -> Nat) (d : Nat) (w : World) : (Op.equalIn (d + 3) 25 (.agg (vals9 f)) (.agg (vals9 g))).run Tryz.prog w = .ok (eq9 f g) w := by
 rw [run_equalIn_struct w (d + 2) 25 _ _ (by kernel_rfl) (by kernel_rfl)]
 have hf : (Tryz.prog.fieldsOf 25).toList = [{ name := "W", type := 23, offset := 0, embedded := false, tag := "", pkgPath := "", byteOffset := 0 }] := by kernel_rfl
 have hp : ∀ h : Nat -> Nat, (part 23 (vals9 h) 0).run Tryz.prog w = .ok (.agg (vals9 h)) w := fun h => by kernel_rfl
 rw [hf]
 simp only [Op.eqFields, Sem.run_bind, Sem.run_ite, hp, Result.andThen_ok, eq_words9 f g d w]
 cases eq9 f g <;> rfl
theorem eq_pt (f g : Nat -> Nat) (b : Bool) (f' g' : Nat -> Nat) (b' : Bool) (w : World) : (Op.equalIn 10000 35 (.agg (valsP f g b)) (.agg (valsP f' g' b'))).run Tryz.prog w = .ok (eq9 f f' && eq9 g g' && (b == b')) w := by
 rw [run_equalIn_struct w 9999 35 _ _ (by kernel_rfl) (by kernel_rfl)]
 have hf : (Tryz.prog.fieldsOf 35).toList = [{ name := "X", type := 25, offset := 0, embedded := false, tag := "", pkgPath := "", byteOffset := 0 }, { name := "Y", type := 25, offset := 9, embedded := false, tag := "", pkgPath := "", byteOffset := 72 }, { name := "Inf", type := 4, offset := 18, embedded := false, tag := "", pkgPath := "", byteOffset := 144 }] := by kernel_rfl
 have h1 : ∀ f g b, (part 25 (valsP f g b) 0).run Tryz.prog w = .ok (.agg (vals9 f)) w := fun f g b => by kernel_rfl
 have h2 : ∀ f g b, (part 25 (valsP f g b) 9).run Tryz.prog w = .ok (.agg (vals9 g)) w := fun f g b => by kernel_rfl
 have h3 : ∀ f g b, (part 4 (valsP f g b) 18).run Tryz.prog w = .ok (.bool b) w := fun f g b => by kernel_rfl
 rw [hf]
 simp only [Op.eqFields, Sem.run_bind, Sem.run_ite, h1, h2, h3, Result.andThen_ok, eq_natD _ _ 9996 w, eqIn_bool (d := 9998) (show Tryz.prog.underlying 4 = some .bool by kernel_rfl)]
 cases eq9 f f' <;> cases eq9 g g' <;> cases b == b' <;> rfl
theorem en_cmp_pt {P : Program} (hP : P = Tryz.prog) {g : G} {o : Oper} {x y : Operand} {yt : TypeId} {N m0 : Nat} {ms : List Nat} (hg : GI g m0 ms N) (hd' : dstLt N o.dst = true) {F : Nat -> Option SV} {M : Nat -> Option Blk} {f h f' h' : Nat -> Nat} {b b' r : Bool}
 (ho : o.op = .binOp .eql 35 x y yt) (hr : r = (eq9 f f' && eq9 h h' && (b == b')))
 (hx : ev F x = some (.agg (ptS f h b))) (hy : ev F y = some (.agg (ptS f' h' b'))) : EN g P o F M (.bool r) [] := by
 subst hP
 refine en_out hg hd' fun β p F' L' act W hF hM hm hf => ?_
 have E : ∀ z ∈ o.op.operands.toList, ev F' z = ev F z := fun z hz => ev_congr fun t ht => hF t (tmpsL_mem hz ht)
 have h4 : Tryz.prog.eqGuardType Tryz.prog.depth 35 = false := by kernel_rfl
 rw [ho] at E
 obtain ⟨e1, _⟩ := ev_sound hf ((E x (by simp [Op.operands])).trans hx)
 obtain ⟨e2, _⟩ := ev_sound hf ((E y (by simp [Op.operands])).trans hy)
 refine ⟨?_, trivial⟩
 have h1 : act.eval x = .agg (valsP f h b) := e1
 have h2 : act.eval y = .agg (valsP f' h' b') := e2
 have h3 : ∀ xs ys, (eqGuard .eql 35 x y (.agg xs) (.agg ys)).run Tryz.prog W = .ok () W := fun xs ys => run_eqGuard_agg W .eql 35 x y xs ys h4
 unfold execOp
 simp only [ho, h1, h2, Sem.run_bind, h3, Result.andThen_ok, run_eql_struct, eq_pt, Sem.run_pure, den, hr]
theorem awD_eq : (⟨2, awD.k, awD.v, 1⟩ : Sh.Dr) = awD := by
 have h1 : awD.id = 2 := Sh.upd_id _ _
 have h2 : awD.n = 1 := Sh.upd_n _ _
 generalize awD = D at h1 h2
 cases D
 simp only at h1 h2
 subst h1 h2
 rfl
theorem awOk : Sh.Ok awD := Sh.Ok.new (by decide) _
set_option maxHeartbeats 1000000 in
theorem cAwake {P : Program} (hP : P = Tryz.prog) : Con P 15 [] [] 0 [] (fun v _ _ => v = .bool true) := by
 have hid : awD.id = 2 := Sh.upd_id _ _
 obtain ⟨k0, hk0⟩ : ∃ b, bl b = awD.k := ⟨mkB awD.k, bl_mkB awOk.kb⟩
 obtain ⟨v0, hv0⟩ : ∃ b, bl b = awD.v := ⟨mkB awD.v, bl_mkB awOk.vb⟩
 have hks : k0.size = Sh.size 2 := by rw [<- bl_len, hk0, awOk.kl, hid]
 have hvs : v0.size = Sh.size 2 := by rw [<- bl_len, hv0, awOk.vl, hid]
 have hSe := cSeeded hP ⟨#[101]⟩ k0 v0 (by decide) hk0 hv0
 obtain ⟨d, k', v', wd, vd, _, _, _, _, _, _, hMk⟩ := cMake hP 13 (by decide) 8 1 0 223 (by unfold IsBl; decide) awN.symm (by decide) rfl rfl 2 (by decide) k0 v0 1 hks hvs (by decide) (mkS 1 0 223 64 awD) (by rw [hk0, hv0, awD_eq])
 obtain ⟨r1, r2, r3⟩ := awR
 rw [r1] at vd
 rw [r2, r3] at hMk
 obtain ⟨nr, hnr⟩ : ∃ x, x = (mkS 1 0 223 64 awD).2.2.2.n := ⟨_, rfl⟩
 rw [<- hnr] at hMk
 obtain ⟨a1, ha1⟩ : ∃ f, f = sm 1 := ⟨_, rfl⟩
 obtain ⟨a2, ha2⟩ : ∃ f, f = sm 2 := ⟨_, rfl⟩
 obtain ⟨a84, ha84⟩ : ∃ f, f = sm 84 := ⟨_, rfl⟩
 obtain ⟨a223, ha223⟩ : ∃ f, f = sm 223 := ⟨_, rfl⟩
 have w1 : Wn 9 a1 := by rw [ha1]; exact sm_W (by decide)
 have w2 : Wn 9 a2 := by rw [ha2]; exact sm_W (by decide)
 have w84 : Wn 9 a84 := by rw [ha84]; exact sm_W (by decide)
 have w223 : Wn 9 a223 := by rw [ha223]; exact sm_W (by decide)
 have v1 : V 9 a1 = 1 := by rw [ha1]; exact sm_V 1
 have v2 : V 9 a2 = 2 := by rw [ha2]; exact sm_V 2
 have v84 : V 9 a84 = 84 := by rw [ha84]; exact sm_V 84
 have v223 : V 9 a223 = 223 := by rw [ha223]; exact sm_V 223
 have hO1 := cOne hP 1 a1 ha1
 have hO2 := cOne hP 2 a2 ha2
 have hO84 := cOne hP 84 a84 ha84
 have hO223 := cOne hP 223 a223 ha223
 have hCk := cCheck hP 13 (by decide) a223 w223 2401 (by rw [v223, awN]; rfl)
 have hPt : PtW 13 (EC.smul EC.finv (EC.ca 13) (V 9 a1) (EC.G 13)) a2 a84 false := by
  rw [v1, show EC.smul EC.finv (EC.ca 13) 1 (EC.G 13) = EC.G 13 from rfl]
  exact ⟨w2, w84, v2.trans awP.1.symm, v84.trans awP.2.1.symm, awP.2.2.symm⟩
 have hPu := cPublic hP 13 (by decide) a1 w1 (by rw [v1, awN]; decide) hPt
 have hMn := cMakeN hP 13 (by decide)
 have hC0 := cCheck0 hP 0 rfl a1
 have hN := fun x => cNum hP x
 have q1 : (!eq9 d (fun _ => 0)) = true := by
  rw [eq9_V wd (fun _ _ => by show 0 < 18446744073709551616; decide), vd]; rfl
 have q2 : ∀ f, eq9 f f = true := fun f => by simp [eq9]
 clear ha1 ha2 ha84 ha223 hk0 hv0 hnr hPt vd
 refine Con.of (hP ▸ tblOk) (hP ▸ Tryz.func15) rfl rfl rfl rfl (by decide) rfl rfl (bdLB_bd _ rfl) (blks_bd rfl) ?_
 intro A g K hA hg hK
 obtain ⟨_, _, cmp, _, _, _, _, _, bnot⟩ := A
 have e1 : bnot true = false := bnot_of hA true
 cbv
 refine call_gen rfl hg rfl rfl hSe _root_.id rfl trivial rfl rfl rfl ?_
 rintro _ _ _ ⟨rfl, rfl, rfl⟩ _
 refine ⟨rfl, ?_⟩
 cbv
 rw [e1]
 cbv
 refine call_gen rfl hg rfl rfl hMk (fun _ => 0) rfl ⟨rfl, trivial⟩ rfl rfl rfl ?_
 rintro _ _ _ ⟨rfl, rfl, rfl⟩ _
 refine ⟨rfl, ?_⟩
 cbv
 refine call_val rfl hg rfl rfl hO223 ?_
 rintro _ _ _ rfl
 refine ⟨by simp [bd, bdL, ws, lst], ?_⟩
 cbv
 refine call_val rfl hg rfl rfl hCk ?_
 rintro _ _ _ rfl
 refine ⟨trivial, ?_⟩
 cbv
 refine call_val rfl hg rfl rfl hO1 ?_
 rintro _ _ _ rfl
 refine ⟨by simp [bd, bdL, ws, lst], ?_⟩
 cbv
 refine call_val rfl hg rfl rfl hPu ?_
 rintro _ _ _ rfl
 refine ⟨by simp [bd, bdL, ptS, ws, lst], ?_⟩
 cbv
 refine call_val rfl hg rfl rfl hMn ?_
 rintro _ _ _ rfl
 refine ⟨by simp [bd, bdL, ws, lst], ?_⟩
 cbv
 refine call_val rfl hg rfl rfl hO1 ?_
 rintro _ _ _ rfl
 refine ⟨by simp [bd, bdL, ws, lst], ?_⟩
 cbv
 refine call_val rfl hg rfl rfl hC0 ?_
 rintro _ _ _ rfl
 refine ⟨trivial, ?_⟩
 have t0 : cmp .eql 0 0 = true := eql_t hA (a := 0) (b := 0) rfl
 have t1 : cmp .eql 1 1 = true := eql_t hA (a := 1) (b := 1) rfl
 have t2 : cmp .eql 2401 2401 = true := eql_t hA (a := 2401) (b := 2401) rfl
 have t3 : cmp .eql 2400 2400 = true := eql_t hA (a := 2400) (b := 2400) rfl
 have t4 : cmp .geq (Int.ofNat 1) 1 = true := geq_t hA (a := 1) (b := 1) (by decide)
 have t5 : cmp .eql (Int.ofNat 0) 0 = true := t0
 have t6 : cmp .eql (Int.ofNat 1) 1 = true := t1
 cbv
 refine reg_A (hP ▸ tblOk) hA hg (hP ▸ mixed) rfl rfl ?_
 cbv
 refine stepD (en_val rfl hg rfl rfl (hN 0) (fun _ _ _ h => h) trivial) ?_
 cbv
 rw [t0]
 cbv
 rw [t4]
 cbv
 refine stepD (en_cmp_nat hP hg rfl (a := d) (b := fun _ => 0) (r := true) (Or.inl ⟨rfl, q1.symm⟩) rfl rfl) ?_
 cbv
 refine stepD (en_val rfl hg rfl rfl (hN 2401) (fun _ _ _ h => h) trivial) ?_
 cbv
 rw [t2]
 cbv
 refine stepD (en_val rfl hg rfl rfl hO2 (fun _ _ _ h => h) (by simp [bd, bdL, ws, lst])) ?_
 cbv
 refine stepD (en_val rfl hg rfl rfl hO84 (fun _ _ _ h => h) (by simp [bd, bdL, ws, lst])) ?_
 cbv
 refine stepD (en_cmp_pt hP hg rfl (f := a2) (h := a84) (b := false) (f' := a2) (h' := a84) (b' := false) (r := true) rfl (by rw [q2, q2]; rfl) rfl rfl) ?_
 cbv
 refine stepD (en_val rfl hg rfl rfl (hN 0) (fun _ _ _ h => h) trivial) ?_
 cbv
 rw [t0]
 cbv
 refine stepD (en_val rfl hg rfl rfl (hN 1) (fun _ _ _ h => h) trivial) ?_
 cbv
 rw [t1]
 cbv
 refine stepD (en_val rfl hg rfl rfl (hN 2400) (fun _ _ _ h => h) trivial) ?_
 cbv
 rw [t3]
 cbv
 exact hK _ _ _ rfl
def spent (D : Sh.Dr) : Nat -> Sh.Dr
 | 0 => D
 | i + 1 => (Sh.generate (spent D i) 1 []).2
theorem spent_ok {D : Sh.Dr} (h : Sh.Ok D) : ∀ i, Sh.Ok (spent D i)
 | 0 => h
 | i + 1 => generate_ok (spent_ok h i) 1
theorem spent_n (D : Sh.Dr) : ∀ i, (spent D i).id = D.id /\ (spent D i).n = D.n + i
 | 0 => ⟨rfl, rfl⟩
 | i + 1 => by
   obtain ⟨h1, h2⟩ := spent_n D i
   obtain ⟨g1, g2⟩ := generate_n (spent D i) 1
   exact ⟨g1.trans h1, by rw [show (spent D (i + 1)).n = (spent D i).n + 1 from g2, h2]; omega⟩
theorem mkS_spent (sz sh N f : Nat) (D : Sh.Dr) (h : 64 < D.n) : mkS sz sh N (f + 1) D = (0, 0, 2402, D) := by
 rw [mkS, if_pos h]
theorem bits_all {c : Nat} (hc : 1 <= c /\ c <= 15) {bits : Nat} (hb : IsBl (EC.cn c) bits) : 1 <= bits /\ bits <= 576 := by
 have hn := cn_small hc
 have h2 : 2 <= EC.cn c := (EC.prime_cn c).1
 constructor
 ·rcases Nat.eq_zero_or_pos bits with h0 | h0
  ·have := hb.1; rw [h0] at this; simp at this; omega
  ·exact h0
 ·have := bl_le16 hb hn
  omega
theorem wrap_u64 (x : Int) : 0 <= IntKind.u64.wrap x /\ IntKind.u64.wrap x < 18446744073709551616 := by
 simp only [IntKind.wrap, IntKind.bits, IntKind.signed]
 simp
 omega
theorem rem_at (x : Int) (m : Nat) (hm : 0 < m) : ∃ k : Nat, k < m /\ intBin .rem .u64 (IntKind.u64.wrap x) (Int.ofNat m) = Int.ofNat k := by
 obtain ⟨h0, _⟩ := wrap_u64 x
 obtain ⟨w, hw⟩ := Int.eq_ofNat_of_zero_le h0
 refine ⟨w % m, Nat.mod_lt _ hm, ?_⟩
 rw [hw]
 rfl
theorem cv15 {A : Ar} (hA : A = Ar.real) (x : Int) (hx : -9223372036854775808 <= x /\ x <= 9223372036854775807) : ∃ c : Nat, 1 <= c /\ c <= 15 /\ A.bin .add .i64 1 (A.cvt .i64 (A.bin .rem .u64 (A.cvt .u64 x) 15)) = Int.ofNat c := by
 obtain ⟨k, hk, he⟩ := rem_at x 15 (by decide)
 refine ⟨1 + k, by omega, by omega, ?_⟩
 have h1 : A.bin .rem .u64 (A.cvt .u64 x) 15 = Int.ofNat k := by rw [bin_of hA, cvt_of hA]; exact he
 rw [h1, cvtI hA (k := .i64) (a := k) (fun _ => by show k < 2 ^ 63; omega) (fun h => by cases h)]
 exact addI hA (a := 1) (b := k) (by omega)
set_option maxHeartbeats 1000000 in
theorem cKeySpent {P : Program} (hP : P = Tryz.prog) (x : Int) (hx : -9223372036854775808 <= x /\ x <= 9223372036854775807) (s : ByteArray) (hs : s.size < 2 ^ 62) : Con P 9 [.int .i64 x, .str s] [] 0 [] (fun v _ _ => v = .bool true) := by
 obtain ⟨D, hD⟩ : ∃ D, D = Sh.new 2 (seedL (bl s)) := ⟨_, rfl⟩
 have hDo : Sh.Ok D := by rw [hD]; exact Sh.Ok.new (by decide) _
 have hDi : D.id = 2 := by rw [hD]; exact Sh.upd_id _ _
 have hDn : D.n = 1 := by rw [hD]; exact Sh.upd_n _ _
 obtain ⟨kk, hkk⟩ : ∃ f : Nat -> ByteArray, f = fun i => mkB (spent D i).k := ⟨_, rfl⟩
 obtain ⟨vv, hvv⟩ : ∃ f : Nat -> ByteArray, f = fun i => mkB (spent D i).v := ⟨_, rfl⟩
 have bk : ∀ i, bl (kk i) = (spent D i).k := fun i => by rw [hkk]; exact bl_mkB (spent_ok hDo i).kb
 have bv : ∀ i, bl (vv i) = (spent D i).v := fun i => by rw [hvv]; exact bl_mkB (spent_ok hDo i).vb
 have ks : ∀ i, (kk i).size = Sh.size 2 := fun i => by rw [<- bl_len, bk, (spent_ok hDo i).kl, (spent_n D i).1, hDi]
 have vs : ∀ i, (vv i).size = Sh.size 2 := fun i => by rw [<- bl_len, bv, (spent_ok hDo i).vl, (spent_n D i).1, hDi]
 have hSe := cSeeded hP s (kk 0) (vv 0) hs (by rw [bk, <- hD]; rfl) (by rw [bv, <- hD]; rfl)
 have hAw := cAwake hP
 obtain ⟨ct, hct⟩ : ∃ f : Nat -> Nat, f = fun i => 1 + i := ⟨_, rfl⟩
 have eD : ∀ i, (⟨2, bl (kk i), bl (vv i), 1 + i⟩ : Sh.Dr) = spent D i := fun i => by
  obtain ⟨h1, h2⟩ := spent_n D i
  rw [hDi] at h1
  rw [hDn] at h2
  rw [bk, bv]
  generalize spent D i = Z at h1 h2
  cases Z
  simp only at h1 h2
  subst h1 h2
  rfl
 have hGb : ∀ i, ∀ y ∈ (Sh.generate (spent D i) 1 []).1, y < 256 := fun i y hy => by
  unfold Sh.generate at hy
  exact Sh.gen_b _ _ _ _ y (List.mem_of_mem_take hy)
 obtain ⟨rr, hrr⟩ : ∃ f : Nat -> ByteArray, f = fun i => mkB (Sh.generate (spent D i) 1 []).1 := ⟨_, rfl⟩
 have br : ∀ i, bl (rr i) = (Sh.generate (spent D i) 1 []).1 := fun i => by rw [hrr]; exact bl_mkB (hGb i)
 have hGe : ∀ i, i < 64 -> Con P 29 [.ptr 0 0, .int .i64 (Int.ofNat 1), .str ⟨#[]⟩] [⟨0, [.int .i64 (Int.ofNat 2), .str (kk i), .str (vv i), .int .i64 (Int.ofNat (1 + i))], 100⟩] 1 [0] _ := fun i h =>
  cDGen hP 2 (by decide) (kk i) (vv i) ⟨#[]⟩ (1 + i) 1 (ks i) (vs i) (by decide) (by decide) (by omega) (rr i) (kk (i + 1)) (vv (i + 1)) (by rw [eD, br]; rfl) (by rw [eD, bk]; rfl) (by rw [eD, bv]; rfl)
 obtain ⟨z9, hz9⟩ : ∃ f : Nat -> Nat, f = fun _ => 0 := ⟨_, rfl⟩
 have hM : ∀ c, 1 <= c -> c <= 15 -> Con P 21 [.int .i64 (Int.ofNat c), .ptr 0 0] [⟨0, [.int .i64 (Int.ofNat 2), .str (kk 64), .str (vv 64), .int .i64 (Int.ofNat (ct 64))], 100⟩] 1 [0] (fun w L q => w = .tup [.agg (ws z9 9), .int .i64 0, .int .i64 2402] /\ L = [⟨0, [.int .i64 (Int.ofNat 2), .str (kk 64), .str (vv 64), .int .i64 (Int.ofNat (ct 64))], 100⟩] /\ q = 1) := fun c h1 h2 => by
  obtain ⟨bits, hb⟩ := bl_ex (EC.cn c)
  have hbb := bits_all ⟨h1, h2⟩ hb
  obtain ⟨R, hR⟩ : ∃ R, R = mkS ((bits + 7) / 8) (8 * ((bits + 7) / 8) - bits) (EC.cn c) 64 ⟨2, bl (kk 64), bl (vv 64), ct 64⟩ := ⟨_, rfl⟩
  obtain ⟨d, k', v', wd, vd, hk', hv', _, _, _, _, hMk⟩ := cMake hP c ⟨h1, h2⟩ bits _ _ (EC.cn c) hb rfl hbb rfl rfl 2 (by decide) (kk 64) (vv 64) (ct 64) (ks 64) (vs 64) (by rw [hct]; decide) R hR
  rw [mkS_spent _ _ _ _ _ (by show 64 < ct 64; rw [hct]; decide)] at hR
  subst hR
  obtain rfl := bl_inj hk'
  obtain rfl := bl_inj hv'
  have h9 : ws d 9 = ws z9 9 := V_inj wd (fun _ _ => by rw [hz9]; show 0 < 18446744073709551616; decide) (by rw [vd, hz9]; rfl)
  rw [h9] at hMk
  exact hMk
 have hM0 := cMake0 hP 0 rfl
 have hCo := cDCount hP 2 (ct 64) (kk 64) (vv 64)
 have hN := fun x => cNum hP x
 have q2 : true = eq9 z9 (fun _ => 0) := by rw [hz9]; simp [eq9]
 have c64 : ct 64 = 65 := by rw [hct]
 have hGc : ∀ i, i < 64 -> Con P 29 [.ptr 0 0, .int .i64 (Int.ofNat 1), .str ⟨#[]⟩] [⟨0, [.int .i64 (Int.ofNat 2), .str (kk i), .str (vv i), .int .i64 (Int.ofNat (ct i))], 100⟩] 1 [0] (fun w L q => w = .tup [.str (rr i), .int .i64 0] /\ L = [⟨0, [.int .i64 (Int.ofNat 2), .str (kk (i + 1)), .str (vv (i + 1)), .int .i64 (Int.ofNat (ct (i + 1)))], 100⟩] /\ q = 1) := fun i h => by
  rw [hct]; exact hGe i h
 have c0 : ct 0 = 1 := by rw [hct]
 clear hSe
 have hSe := cSeeded hP s (kk 0) (vv 0) hs (by rw [bk, <- hD]; rfl) (by rw [bv, <- hD]; rfl)
 refine Con.of (hP ▸ tblOk) (hP ▸ Tryz.func9) rfl rfl rfl rfl (by decide) rfl rfl (bdLB_bd _ rfl) (blks_bd rfl) ?_
 intro A g K hA hg hK
 obtain ⟨bin, _, cmp, _, cvt, _, _, _, bnot⟩ := A
 have e1 : bnot true = false := bnot_of hA true
 have f1 : ∀ i, i < 64 -> cmp .lss (Int.ofNat i) 64 = true := fun i h => lss_t hA (b := 64) h
 have f2 : cmp .lss (Int.ofNat 64) 64 = false := lss_f hA (a := 64) (b := 64) (by omega)
 have f3 : ∀ i, i < 64 -> bin .add .i64 (Int.ofNat i) 1 = Int.ofNat (i + 1) := fun i h => add_of hA (by omega)
 clear bk bv eD br hGb hkk hvv hrr
 cbv
 refine call_val rfl hg rfl rfl hAw ?_
 rintro _ _ _ rfl
 refine ⟨trivial, ?_⟩
 cbv
 rw [e1]
 cbv
 refine call_gen rfl hg rfl rfl hSe _root_.id rfl trivial rfl rfl rfl ?_
 rintro _ _ _ ⟨rfl, rfl, rfl⟩ _
 refine ⟨rfl, ?_⟩
 cbv
 refine loop_by Nat (fun i => i <= 64) (fun i => 64 - i) (fun i => [(8, .int .i64 (Int.ofNat i))]) [0, 5, 6, 7] (fun i => [(0, [.int .i64 (Int.ofNat 2), .str (kk i), .str (vv i), .int .i64 (Int.ofNat (ct i))])]) 0 (Nat.zero_le _) ?_ ?_
 ·rw [c0]
  exact wkid
 intro i hi
 by_cases hlt : i < 64
 ·have hG := hGc i hlt
  obtain ⟨c1, hc1⟩ : ∃ c, c = ct (i + 1) := ⟨_, rfl⟩
  obtain ⟨k1, hk1⟩ : ∃ c, c = kk (i + 1) := ⟨_, rfl⟩
  obtain ⟨v1, hv1⟩ : ∃ c, c = vv (i + 1) := ⟨_, rfl⟩
  rw [<- hc1, <- hk1, <- hv1] at hG
  cbv
  rw [f1 i hlt]
  cbv
  refine call_gen rfl hg rfl rfl hG _root_.id rfl ⟨rfl, trivial⟩ rfl rfl rfl ?_
  rintro _ _ _ ⟨rfl, rfl, rfl⟩ _
  refine ⟨rfl, ?_⟩
  cbv
  rw [f3 i hlt]
  refine ⟨i + 1, _root_.id, hlt, (by show 64 - (i + 1) < 64 - i; omega), ?_⟩
  rw [hc1, hk1, hv1]
  exact wkid
 ·obtain rfl : i = 64 := by omega
  obtain ⟨c, hc1, hc2, hc⟩ := cv15 hA x hx
  cbv
  rw [f2]
  cbv
  have hc' : bin .add .i64 1 (cvt .i64 (bin .rem .u64 (cvt .u64 x) 15)) = Int.ofNat c := hc
  rw [hc']
  refine call_gen rfl hg rfl rfl (hM c hc1 hc2) (fun _ => 0) rfl ⟨rfl, trivial⟩ rfl rfl rfl ?_
  rintro _ _ _ ⟨rfl, rfl, rfl⟩ _
  refine ⟨rfl, ?_⟩
  cbv
  refine call_ro rfl hg rfl rfl hM0 (fun _ => 0) rfl trivial ?_
  rintro _ _ _ rfl
  refine ⟨by simp [bd, bdL, ws, lst], by simp [bd, bdL, ren, renL, ws, lst], ?_⟩
  have t0 : cmp .eql 0 0 = true := eql_t hA (a := 0) (b := 0) rfl
  have t1 : cmp .eql 2402 2402 = true := eql_t hA (a := 2402) (b := 2402) rfl
  have t3 : cmp .eql 2400 2400 = true := eql_t hA (a := 2400) (b := 2400) rfl
  have t4 : cmp .eql (Int.ofNat (ct 64)) 65 = true := eql_t hA (a := ct 64) (b := 65) c64
  cbv
  refine call_val rfl hg rfl rfl (hN 2402) ?_
  rintro _ _ _ rfl
  refine ⟨trivial, ?_⟩
  cbv
  rw [t1]
  cbv
  rw [t0]
  cbv
  refine step_eq_nat hP rfl hg rfl (a := z9) (b := fun _ => 0) q2 rfl rfl ?_
  cbv
  refine call_val rfl hg rfl rfl (hN 2400) ?_
  rintro _ _ _ rfl
  refine ⟨trivial, ?_⟩
  cbv
  rw [t3]
  cbv
  refine call_ro rfl hg rfl rfl hCo (fun _ => 0) rfl ⟨rfl, trivial⟩ ?_
  rintro _ _ _ rfl
  refine ⟨trivial, trivial, ?_⟩
  cbv
  rw [t4]
  cbv
  exact hK _ _ _ rfl
end Go.Proofs.YtdhmihfefgcbeaaGreat
end
