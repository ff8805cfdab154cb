/-
  This text proves what these texts prove: Lb, Lc, Ld, Le. Conditions: those of each theorem.
-/
import Derived.Test.YtdhmihfefgcbeaaGreatW25
section
namespace Go.Proofs.YtdhmihfefgcbeaaGreat
open Go.Vg Go.RowKit
set_option maxRecDepth 200000
set_option cbv.maxSteps 100000000
def awD : Sh.Dr := Sh.new 2 (seedL [101])
theorem awR : (mkS 1 0 223 64 awD).1 = 141 /\ (mkS 1 0 223 64 awD).2.1 = 1 /\ (mkS 1 0 223 64 awD).2.2.1 = 0 := by decide +kernel
def sm (x j : Nat) : Nat := if j = 0 then x else 0
theorem sm_V (x : Nat) : V 9 (sm x) = x := by
 have : ∀ n, V (n + 1) (sm x) = x := fun n => by
  induction n with
  | zero => show 0 + x * 18446744073709551616 ^ 0 = x; omega
  | succ n ih =>
    show V (n + 1) (sm x) + 0 * _ = x
    rw [ih, Nat.zero_mul, Nat.add_zero]
 exact this 8
theorem sm_W {x : Nat} (h : x < 18446744073709551616) : Wn 9 (sm x) := fun j _ => by
 unfold sm; split
 ·exact h
 ·decide
theorem awP : ptx (EC.G 13) = 2 /\ pty (EC.G 13) = 84 /\ ptinf (EC.G 13) = false := by decide +kernel
theorem awN : EC.cn 13 = 223 := by decide +kernel
def valsP (f g : Nat -> Nat) (b : Bool) : Array Value := #[.int .u64 (Int.ofNat (f 0)), .int .u64 (Int.ofNat (f 1)), .int .u64 (Int.ofNat (f 2)), .int .u64 (Int.ofNat (f 3)), .int .u64 (Int.ofNat (f 4)), .int .u64 (Int.ofNat (f 5)), .int .u64 (Int.ofNat (f 6)), .int .u64 (Int.ofNat (f 7)), .int .u64 (Int.ofNat (f 8)), .int .u64 (Int.ofNat (g 0)), .int .u64 (Int.ofNat (g 1)), .int .u64 (Int.ofNat (g 2)), .int .u64 (Int.ofNat (g 3)), .int .u64 (Int.ofNat (g 4)), .int .u64 (Int.ofNat (g 5)), .int .u64 (Int.ofNat (g 6)), .int .u64 (Int.ofNat (g 7)), .int .u64 (Int.ofNat (g 8)), .bool b]
theorem eq_natD (f g : Nat -> Nat) (d : Nat) (w : World) : (Op.equalIn (d + 3) 25 (.agg (vals9 f)) (.agg (vals9 g))).run Tryz.prog w = .ok (eq9 f g) w := by
 rw [run_equalIn_struct w (d + 2) 25 _ _ (by kernel_rfl) (by kernel_rfl)]
 have hf : (Tryz.prog.fieldsOf 25).toList = [{ name := "W", type := 23, offset := 0, embedded := false, tag := "", pkgPath := "", byteOffset := 0 }] := by kernel_rfl
 have hp : ∀ h : Nat -> Nat, (part 23 (vals9 h) 0).run Tryz.prog w = .ok (.agg (vals9 h)) w := fun h => by kernel_rfl
 rw [hf]
 simp only [Op.eqFields, Sem.run_bind, Sem.run_ite, hp, Result.andThen_ok, eq_words9 f g d w]
 cases eq9 f g <;> rfl
theorem eq_pt (f g : Nat -> Nat) (b : Bool) (f' g' : Nat -> Nat) (b' : Bool) (w : World) : (Op.equalIn 10000 35 (.agg (valsP f g b)) (.agg (valsP f' g' b'))).run Tryz.prog w = .ok (eq9 f f' && eq9 g g' && (b == b')) w := by
 rw [run_equalIn_struct w 9999 35 _ _ (by kernel_rfl) (by kernel_rfl)]
 have hf : (Tryz.prog.fieldsOf 35).toList = [{ name := "X", type := 25, offset := 0, embedded := false, tag := "", pkgPath := "", byteOffset := 0 }, { name := "Y", type := 25, offset := 9, embedded := false, tag := "", pkgPath := "", byteOffset := 72 }, { name := "Inf", type := 4, offset := 18, embedded := false, tag := "", pkgPath := "", byteOffset := 144 }] := by kernel_rfl
 have h1 : ∀ f g b, (part 25 (valsP f g b) 0).run Tryz.prog w = .ok (.agg (vals9 f)) w := fun f g b => by kernel_rfl
 have h2 : ∀ f g b, (part 25 (valsP f g b) 9).run Tryz.prog w = .ok (.agg (vals9 g)) w := fun f g b => by kernel_rfl
 have h3 : ∀ f g b, (part 4 (valsP f g b) 18).run Tryz.prog w = .ok (.bool b) w := fun f g b => by kernel_rfl
 rw [hf]
 simp only [Op.eqFields, Sem.run_bind, Sem.run_ite, h1, h2, h3, Result.andThen_ok, eq_natD _ _ 9996 w, eqIn_bool (d := 9998) (show Tryz.prog.underlying 4 = some .bool by kernel_rfl)]
 cases eq9 f f' <;> cases eq9 g g' <;> cases b == b' <;> rfl
theorem en_cmp_pt {P : Program} (hP : P = Tryz.prog) {g : G} {o : Oper} {x y : Operand} {yt : TypeId} {N m0 : Nat} {ms : List Nat} (hg : GI g m0 ms N) (hd' : dstLt N o.dst = true) {F : Nat -> Option SV} {M : Nat -> Option Blk} {f h f' h' : Nat -> Nat} {b b' r : Bool}
 (ho : o.op = .binOp .eql 35 x y yt) (hr : r = (eq9 f f' && eq9 h h' && (b == b')))
 (hx : ev F x = some (.agg (ptS f h b))) (hy : ev F y = some (.agg (ptS f' h' b'))) : EN g P o F M (.bool r) [] := by
 subst hP
 refine en_out hg hd' fun β p F' L' act W hF hM hm hf => ?_
 have E : ∀ z ∈ o.op.operands.toList, ev F' z = ev F z := fun z hz => ev_congr fun t ht => hF t (tmpsL_mem hz ht)
 have h4 : Tryz.prog.eqGuardType Tryz.prog.depth 35 = false := by kernel_rfl
 rw [ho] at E
 obtain ⟨e1, _⟩ := ev_sound hf ((E x (by simp [Op.operands])).trans hx)
 obtain ⟨e2, _⟩ := ev_sound hf ((E y (by simp [Op.operands])).trans hy)
 refine ⟨?_, trivial⟩
 have h1 : act.eval x = .agg (valsP f h b) := e1
 have h2 : act.eval y = .agg (valsP f' h' b') := e2
 have h3 : ∀ xs ys, (eqGuard .eql 35 x y (.agg xs) (.agg ys)).run Tryz.prog W = .ok () W := fun xs ys => run_eqGuard_agg W .eql 35 x y xs ys h4
 unfold execOp
 simp only [ho, h1, h2, Sem.run_bind, h3, Result.andThen_ok, run_eql_struct, eq_pt, Sem.run_pure, den, hr]
theorem awD_eq : (⟨2, awD.k, awD.v, 1⟩ : Sh.Dr) = awD := by
 have h1 : awD.id = 2 := Sh.upd_id _ _
 have h2 : awD.n = 1 := Sh.upd_n _ _
 generalize awD = D at h1 h2
 cases D
 simp only at h1 h2
 subst h1 h2
 rfl
theorem awOk : Sh.Ok awD := Sh.Ok.new (by decide) _
set_option maxHeartbeats 1000000 in
theorem cAwake {P : Program} (hP : P = Tryz.prog) : Con P 15 [] [] 0 [] (fun v _ _ => v = .bool true) := by
 have hid : awD.id = 2 := Sh.upd_id _ _
 obtain ⟨k0, hk0⟩ : ∃ b, bl b = awD.k := ⟨mkB awD.k, bl_mkB awOk.kb⟩
 obtain ⟨v0, hv0⟩ : ∃ b, bl b = awD.v := ⟨mkB awD.v, bl_mkB awOk.vb⟩
 have hks : k0.size = Sh.size 2 := by rw [<- bl_len, hk0, awOk.kl, hid]
 have hvs : v0.size = Sh.size 2 := by rw [<- bl_len, hv0, awOk.vl, hid]
 have hSe := cSeeded hP ⟨#[101]⟩ k0 v0 (by decide) hk0 hv0
 obtain ⟨d, k', v', wd, vd, _, _, _, _, _, _, hMk⟩ := cMake hP 13 (by decide) 8 1 0 223 (by unfold IsBl; decide) awN.symm (by decide) rfl rfl 2 (by decide) k0 v0 1 hks hvs (by decide) (mkS 1 0 223 64 awD) (by rw [hk0, hv0, awD_eq])
 obtain ⟨r1, r2, r3⟩ := awR
 rw [r1] at vd
 rw [r2, r3] at hMk
 obtain ⟨nr, hnr⟩ : ∃ x, x = (mkS 1 0 223 64 awD).2.2.2.n := ⟨_, rfl⟩
 rw [<- hnr] at hMk
 obtain ⟨a1, ha1⟩ : ∃ f, f = sm 1 := ⟨_, rfl⟩
 obtain ⟨a2, ha2⟩ : ∃ f, f = sm 2 := ⟨_, rfl⟩
 obtain ⟨a84, ha84⟩ : ∃ f, f = sm 84 := ⟨_, rfl⟩
 obtain ⟨a223, ha223⟩ : ∃ f, f = sm 223 := ⟨_, rfl⟩
 have w1 : Wn 9 a1 := by rw [ha1]; exact sm_W (by decide)
 have w2 : Wn 9 a2 := by rw [ha2]; exact sm_W (by decide)
 have w84 : Wn 9 a84 := by rw [ha84]; exact sm_W (by decide)
 have w223 : Wn 9 a223 := by rw [ha223]; exact sm_W (by decide)
 have v1 : V 9 a1 = 1 := by rw [ha1]; exact sm_V 1
 have v2 : V 9 a2 = 2 := by rw [ha2]; exact sm_V 2
 have v84 : V 9 a84 = 84 := by rw [ha84]; exact sm_V 84
 have v223 : V 9 a223 = 223 := by rw [ha223]; exact sm_V 223
 have hO1 := cOne hP 1 a1 ha1
 have hO2 := cOne hP 2 a2 ha2
 have hO84 := cOne hP 84 a84 ha84
 have hO223 := cOne hP 223 a223 ha223
 have hCk := cCheck hP 13 (by decide) a223 w223 2401 (by rw [v223, awN]; rfl)
 have hPt : PtW 13 (EC.smul EC.finv (EC.ca 13) (V 9 a1) (EC.G 13)) a2 a84 false := by
  rw [v1, show EC.smul EC.finv (EC.ca 13) 1 (EC.G 13) = EC.G 13 from rfl]
  exact ⟨w2, w84, v2.trans awP.1.symm, v84.trans awP.2.1.symm, awP.2.2.symm⟩
 have hPu := cPublic hP 13 (by decide) a1 w1 (by rw [v1, awN]; decide) hPt
 have hMn := cMakeN hP 13 (by decide)
 have hC0 := cCheck0 hP 0 rfl a1
 have hN := fun x => cNum hP x
 have q1 : (!eq9 d (fun _ => 0)) = true := by
  rw [eq9_V wd (fun _ _ => by show 0 < 18446744073709551616; decide), vd]; rfl
 have q2 : ∀ f, eq9 f f = true := fun f => by simp [eq9]
 clear ha1 ha2 ha84 ha223 hk0 hv0 hnr hPt vd
 refine Con.of (hP ▸ tblOk) (hP ▸ Tryz.func15) rfl rfl rfl rfl (by decide) rfl rfl (bdLB_bd _ rfl) (blks_bd rfl) ?_
 intro A g K hA hg hK
 obtain ⟨_, _, cmp, _, _, _, _, _, bnot⟩ := A
 have e1 : bnot true = false := bnot_of hA true
 cbv
 refine call_gen rfl hg rfl rfl hSe _root_.id rfl trivial rfl rfl rfl ?_
 rintro _ _ _ ⟨rfl, rfl, rfl⟩ _
 refine ⟨rfl, ?_⟩
 cbv
 rw [e1]
 cbv
 refine call_gen rfl hg rfl rfl hMk (fun _ => 0) rfl ⟨rfl, trivial⟩ rfl rfl rfl ?_
 rintro _ _ _ ⟨rfl, rfl, rfl⟩ _
 refine ⟨rfl, ?_⟩
 cbv
 refine call_val rfl hg rfl rfl hO223 ?_
 rintro _ _ _ rfl
 refine ⟨by simp [bd, bdL, ws, lst], ?_⟩
 cbv
 refine call_val rfl hg rfl rfl hCk ?_
 rintro _ _ _ rfl
 refine ⟨trivial, ?_⟩
 cbv
 refine call_val rfl hg rfl rfl hO1 ?_
 rintro _ _ _ rfl
 refine ⟨by simp [bd, bdL, ws, lst], ?_⟩
 cbv
 refine call_val rfl hg rfl rfl hPu ?_
 rintro _ _ _ rfl
 refine ⟨by simp [bd, bdL, ptS, ws, lst], ?_⟩
 cbv
 refine call_val rfl hg rfl rfl hMn ?_
 rintro _ _ _ rfl
 refine ⟨by simp [bd, bdL, ws, lst], ?_⟩
 cbv
 refine call_val rfl hg rfl rfl hO1 ?_
 rintro _ _ _ rfl
 refine ⟨by simp [bd, bdL, ws, lst], ?_⟩
 cbv
 refine call_val rfl hg rfl rfl hC0 ?_
 rintro _ _ _ rfl
 refine ⟨trivial, ?_⟩
 have t0 : cmp .eql 0 0 = true := eql_t hA (a := 0) (b := 0) rfl
 have t1 : cmp .eql 1 1 = true := eql_t hA (a := 1) (b := 1) rfl
 have t2 : cmp .eql 2401 2401 = true := eql_t hA (a := 2401) (b := 2401) rfl
 have t3 : cmp .eql 2400 2400 = true := eql_t hA (a := 2400) (b := 2400) rfl
 have t4 : cmp .geq (Int.ofNat 1) 1 = true := geq_t hA (a := 1) (b := 1) (by decide)
 have t5 : cmp .eql (Int.ofNat 0) 0 = true := t0
 have t6 : cmp .eql (Int.ofNat 1) 1 = true := t1
 cbv
 refine reg_A (hP ▸ tblOk) hA hg (hP ▸ mixed) rfl rfl ?_
 cbv
 refine stepD (en_val rfl hg rfl rfl (hN 0) (fun _ _ _ h => h) trivial) ?_
 cbv
 rw [t0]
 cbv
 rw [t4]
 cbv
 refine stepD (en_cmp_nat hP hg rfl (a := d) (b := fun _ => 0) (r := true) (Or.inl ⟨rfl, q1.symm⟩) rfl rfl) ?_
 cbv
 refine stepD (en_val rfl hg rfl rfl (hN 2401) (fun _ _ _ h => h) trivial) ?_
 cbv
 rw [t2]
 cbv
 refine stepD (en_val rfl hg rfl rfl hO2 (fun _ _ _ h => h) (by simp [bd, bdL, ws, lst])) ?_
 cbv
 refine stepD (en_val rfl hg rfl rfl hO84 (fun _ _ _ h => h) (by simp [bd, bdL, ws, lst])) ?_
 cbv
 refine stepD (en_cmp_pt hP hg rfl (f := a2) (h := a84) (b := false) (f' := a2) (h' := a84) (b' := false) (r := true) rfl (by rw [q2, q2]; rfl) rfl rfl) ?_
 cbv
 refine stepD (en_val rfl hg rfl rfl (hN 0) (fun _ _ _ h => h) trivial) ?_
 cbv
 rw [t0]
 cbv
 refine stepD (en_val rfl hg rfl rfl (hN 1) (fun _ _ _ h => h) trivial) ?_
 cbv
 rw [t1]
 cbv
 refine stepD (en_val rfl hg rfl rfl (hN 2400) (fun _ _ _ h => h) trivial) ?_
 cbv
 rw [t3]
 cbv
 exact hK _ _ _ rfl
theorem bits_all {c : Nat} (hc : 1 <= c /\ c <= 15) {bits : Nat} (hb : IsBl (EC.cn c) bits) : 1 <= bits /\ bits <= 576 := by
 have hn := cn_small hc
 have h2 : 2 <= EC.cn c := (EC.prime_cn c).1
 constructor
 ·rcases Nat.eq_zero_or_pos bits with h0 | h0
  ·have := hb.1; rw [h0] at this; simp at this; omega
  ·exact h0
 ·have := bl_le16 hb hn
  omega
theorem wrap_u64 (x : Int) : 0 <= IntKind.u64.wrap x /\ IntKind.u64.wrap x < 18446744073709551616 := by
 simp only [IntKind.wrap, IntKind.bits, IntKind.signed]
 simp
 omega
theorem rem_at (x : Int) (m : Nat) (hm : 0 < m) : ∃ k : Nat, k < m /\ intBin .rem .u64 (IntKind.u64.wrap x) (Int.ofNat m) = Int.ofNat k := by
 obtain ⟨h0, _⟩ := wrap_u64 x
 obtain ⟨w, hw⟩ := Int.eq_ofNat_of_zero_le h0
 refine ⟨w % m, Nat.mod_lt _ hm, ?_⟩
 rw [hw]
 rfl
theorem cv15 {A : Ar} (hA : A = Ar.real) (x : Int) (hx : -9223372036854775808 <= x /\ x <= 9223372036854775807) : ∃ c : Nat, 1 <= c /\ c <= 15 /\ A.bin .add .i64 1 (A.cvt .i64 (A.bin .rem .u64 (A.cvt .u64 x) 15)) = Int.ofNat c := by
 obtain ⟨k, hk, he⟩ := rem_at x 15 (by decide)
 refine ⟨1 + k, by omega, by omega, ?_⟩
 have h1 : A.bin .rem .u64 (A.cvt .u64 x) 15 = Int.ofNat k := by rw [bin_of hA, cvt_of hA]; exact he
 rw [h1, cvtI hA (k := .i64) (a := k) (fun _ => by show k < 2 ^ 63; omega) (fun h => by cases h)]
 exact addI hA (a := 1) (b := k) (by omega)
theorem mkS_res (sz sh N : Nat) : ∀ f (D : Sh.Dr), ((mkS sz sh N f D).2.2.1 = 0 /\ (mkS sz sh N f D).1 ≠ 0 /\ (mkS sz sh N f D).1 < N /\ 1 <= (mkS sz sh N f D).2.1 /\ (mkS sz sh N f D).2.1 <= f) \/ (mkS sz sh N f D).2.2.1 = 2402 \/ (mkS sz sh N f D).2.2.1 = 2403
 | 0, _ => Or.inr (Or.inr rfl)
 | f + 1, D => by
   unfold mkS
   split
   ·exact Or.inr (Or.inl rfl)
   ·split
    ·rename_i hgood
     exact Or.inl ⟨rfl, hgood.1, hgood.2, Nat.le_refl _, by show 1 <= f + 1; omega⟩
    ·rcases mkS_res sz sh N f (tryD sz sh D).2 with ⟨h1, h2, h3, h4, h5⟩ | h | h
     ·exact Or.inl ⟨h1, h2, h3, by show 1 <= _ + 1; omega, by show _ + 1 <= f + 1; omega⟩
     ·exact Or.inr (Or.inl h)
     ·exact Or.inr (Or.inr h)
theorem cMake2 {P : Program} (hP : P = Tryz.prog) (c : Nat) (hc : 1 <= c /\ c <= 15) (kb vb : ByteArray) (n : Nat) (hk : kb.size = Sh.size 2) (hv : vb.size = Sh.size 2) (hn : n < 2 ^ 30) :
 ∃ (d : Nat -> Nat) (k' v' : ByteArray) (many code n' : Nat), Wn 9 d /\ k'.size = Sh.size 2 /\ v'.size = Sh.size 2 /\ n' <= n + 64 /\ ((code = 0 /\ V 9 d ≠ 0 /\ V 9 d < EC.cn c /\ 1 <= many /\ many <= 64) \/ code = 2402 \/ code = 2403) /\
 Con P 21 [.int .i64 (Int.ofNat c), .ptr 0 0] [⟨0, [.int .i64 (Int.ofNat 2), .str kb, .str vb, .int .i64 (Int.ofNat n)], 100⟩] 1 [0] (fun w L q => w = .tup [.agg (ws d 9), .int .i64 (Int.ofNat many), .int .i64 (Int.ofNat code)] /\ L = [⟨0, [.int .i64 (Int.ofNat 2), .str k', .str v', .int .i64 (Int.ofNat n')], 100⟩] /\ q = 1) := by
 obtain ⟨bits, hb⟩ := bl_ex (EC.cn c)
 obtain ⟨R, hR⟩ : ∃ R, R = mkS ((bits + 7) / 8) (8 * ((bits + 7) / 8) - bits) (EC.cn c) 64 ⟨2, bl kb, bl vb, n⟩ := ⟨_, rfl⟩
 obtain ⟨d, k', v', wd, vd, hk', hv', sk, sv, _, hn', hMk⟩ := cMake hP c hc bits _ _ (EC.cn c) hb rfl (bits_all hc hb) rfl rfl 2 (by decide) kb vb n hk hv hn R hR
 refine ⟨d, k', v', R.2.1, R.2.2.1, R.2.2.2.n, wd, sk, sv, hn', ?_, hMk⟩
 rw [vd, hR]
 exact mkS_res _ _ _ 64 _
set_option maxHeartbeats 1000000 in
theorem cKeyWide {P : Program} (hP : P = Tryz.prog) (x : Int) (hx : -9223372036854775808 <= x /\ x <= 9223372036854775807) (s : ByteArray) (hs : s.size < 2 ^ 62) : Con P 4 [.int .i64 x, .str s] [] 0 [] (fun v _ _ => v = .bool true) := by
 obtain ⟨D, hD⟩ : ∃ D, D = Sh.new 2 (seedL (bl s)) := ⟨_, rfl⟩
 have hDo : Sh.Ok D := by rw [hD]; exact Sh.Ok.new (by decide) _
 have hDi : D.id = 2 := by rw [hD]; exact Sh.upd_id _ _
 obtain ⟨k0, hk0⟩ : ∃ b, bl b = D.k := ⟨mkB D.k, bl_mkB hDo.kb⟩
 obtain ⟨v0, hv0⟩ : ∃ b, bl b = D.v := ⟨mkB D.v, bl_mkB hDo.vb⟩
 have hks : k0.size = Sh.size 2 := by rw [<- bl_len, hk0, hDo.kl, hDi]
 have hvs : v0.size = Sh.size 2 := by rw [<- bl_len, hv0, hDo.vl, hDi]
 have hSe := cSeeded hP s k0 v0 hs (by rw [hk0, hD]) (by rw [hv0, hD])
 have hAw := cAwake hP
 have hM := fun c hc kb vb n hk hv hn => cMake2 hP c hc kb vb n hk hv hn
 have hCh := fun c hc e he r hr => cCheck hP c hc e he r hr
 have hN := fun x => cNum hP x
 clear hk0 hv0 hDo hDi
 clear hD D
 refine Con.of (hP ▸ tblOk) (hP ▸ Tryz.func4) rfl rfl rfl rfl (by decide) rfl rfl (bdLB_bd _ rfl) (blks_bd rfl) ?_
 intro A g K hA hg hK
 obtain ⟨bin, _, cmp, _, cvt, _, _, _, bnot⟩ := A
 obtain ⟨c, hc1, hc2, hc⟩ := cv15 hA x hx
 have hc' : bin .add .i64 1 (cvt .i64 (bin .rem .u64 (cvt .u64 x) 15)) = Int.ofNat c := hc
 have e1 : bnot true = false := bnot_of hA true
 have f1 : ∀ i, i < 5 -> cmp .lss (Int.ofNat i) 5 = true := fun i h => lss_t hA (b := 5) h
 have f2 : cmp .lss (Int.ofNat 5) 5 = false := lss_f hA (a := 5) (b := 5) (by omega)
 have f3 : ∀ i, i < 5 -> bin .add .i64 (Int.ofNat i) 1 = Int.ofNat (i + 1) := fun i h => add_of hA (by omega)
 have t0 : cmp .neq 0 0 = false := neq_f hA (a := 0) (b := 0) rfl
 cbv
 refine call_val rfl hg rfl rfl hAw ?_
 rintro _ _ _ rfl
 refine ⟨trivial, ?_⟩
 cbv
 rw [e1]
 cbv
 refine call_gen rfl hg rfl rfl hSe _root_.id rfl trivial rfl rfl rfl ?_
 rintro _ _ _ ⟨rfl, rfl, rfl⟩ _
 refine ⟨rfl, ?_⟩
 cbv
 rw [hc']
 refine loop_by (Nat × ByteArray × ByteArray × Nat) (fun s => s.1 <= 5 /\ s.2.1.size = Sh.size 2 /\ s.2.2.1.size = Sh.size 2 /\ s.2.2.2 <= 1 + 64 * s.1) (fun s => 5 - s.1) (fun s => [(9, .int .i64 (Int.ofNat s.1))]) [0, 5, 7, 8] (fun s => [(0, [.int .i64 (Int.ofNat 2), .str s.2.1, .str s.2.2.1, .int .i64 (Int.ofNat s.2.2.2)])]) (0, k0, v0, 1) ⟨Nat.zero_le _, hks, hvs, Nat.le_refl _⟩ ?_ ?_
 ·exact wkid
 rintro ⟨i, kb, vb, m⟩ ⟨hi, hk, hv, hm⟩
 change i <= 5 at hi
 change kb.size = Sh.size 2 at hk
 change vb.size = Sh.size 2 at hv
 change m <= 1 + 64 * i at hm
 by_cases hlt : i < 5
 ·obtain ⟨d, k', v', many, code, n', wd, sk, sv, hn', hcode, hMk⟩ := hM c ⟨hc1, hc2⟩ kb vb m hk hv (by omega)
  obtain ⟨r, hr⟩ : ∃ r : Int, r = if V 9 d ≠ 0 /\ V 9 d < EC.cn c then 0 else 2401 := ⟨_, rfl⟩
  have hC := hCh c ⟨hc1, hc2⟩ d wd r hr
  cbv
  rw [f1 i hlt]
  cbv
  refine call_gen rfl hg rfl rfl hMk _root_.id rfl ⟨rfl, trivial⟩ rfl rfl rfl ?_
  rintro _ _ _ ⟨rfl, rfl, rfl⟩ _
  refine ⟨rfl, ?_⟩
  cbv
  refine call_val rfl hg rfl rfl hC ?_
  rintro _ _ _ rfl
  refine ⟨trivial, ?_⟩
  cbv
  refine call_val rfl hg rfl rfl (hN (Int.ofNat code)) ?_
  rintro _ _ _ rfl
  refine ⟨trivial, ?_⟩
  rcases hcode with ⟨h0, h1, h2, h3, h4⟩ | hbad
  ·obtain rfl : r = 0 := by rw [hr, if_pos ⟨h1, h2⟩]
   cbv
   rw [show cmp .neq (Int.ofNat code) 0 = false from neq_f hA (a := code) (b := 0) h0]
   cbv
   refine call_val rfl hg rfl rfl (hN 0) ?_
   rintro _ _ _ rfl
   refine ⟨trivial, ?_⟩
   cbv
   rw [t0]
   cbv
   rw [show cmp .lss (Int.ofNat many) 1 = false from lss_f hA (a := many) (b := 1) (by omega)]
   cbv
   rw [show cmp .gtr (Int.ofNat many) 64 = false from gtr_f hA (a := many) (b := 64) (by omega)]
   cbv
   rw [f3 i hlt]
   refine ⟨(i + 1, k', v', n'), _root_.id, ⟨hlt, sk, sv, ?_⟩, (by show 5 - (i + 1) < 5 - i; omega), ?_⟩
   ·show n' <= 1 + 64 * (i + 1); omega
   exact wkid
  ·cbv
   rw [show cmp .neq (Int.ofNat code) 0 = true from neq_t hA (a := code) (b := 0) (by omega)]
   cbv
   refine call_val rfl hg rfl rfl (hN (Int.ofNat code)) ?_
   rintro _ _ _ rfl
   refine ⟨trivial, ?_⟩
   cbv
   rcases hbad with h | h
   ·rw [show cmp .eql (Int.ofNat code) 2402 = true from eql_t hA (a := code) (b := 2402) h]
    cbv
    exact hK _ _ _ rfl
   ·rw [show cmp .eql (Int.ofNat code) 2402 = false from eql_f hA (a := code) (b := 2402) (by omega)]
    cbv
    refine call_val rfl hg rfl rfl (hN (Int.ofNat code)) ?_
    rintro _ _ _ rfl
    refine ⟨trivial, ?_⟩
    cbv
    rw [show cmp .eql (Int.ofNat code) 2403 = true from eql_t hA (a := code) (b := 2403) h]
    cbv
    exact hK _ _ _ rfl
 ·obtain rfl : i = 5 := by omega
  cbv
  rw [f2]
  cbv
  exact hK _ _ _ rfl
end Go.Proofs.YtdhmihfefgcbeaaGreat
end
