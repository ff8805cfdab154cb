/-
  This text proves what these texts prove: La, Lb, Lc, Ld, Pt. Conditions: those of each theorem.
-/
import Derived.Test.YtdhmihfefgcbeaaGreatV27
set_option maxHeartbeats 8000000
namespace Go.Proofs.YtdhmihfefgcbeaaGreat
open Go.Vg Go.RowKit
set_option maxRecDepth 200000
set_option cbv.maxSteps 100000000
theorem cNum {P : Program} (hP : P = Tryz.prog) (x : Int) : Con P 14 [.int .i64 x] [] 0 [] (fun v _ _ => v = .int .i64 x) := by
 refine cof hP Tryz.func14 (bdb _ rfl) (bkb rfl) ?_
 intro A g K hA hg hK
 cases A
 cbv
 exact hK _ _ _ rfl
theorem cOne {P : Program} (hP : P = Tryz.prog) (x : Nat) (r : Nat -> Nat) (hr : r = fun j => if j = 0 then x else 0) : Con P 26 [.int .u64 (.ofNat x)] [] 0 [] (fun v _ _ => v = .agg (ws r 9)) := by
 have e : ws r 9 = [.int .u64 (.ofNat x), .int .u64 0, .int .u64 0, .int .u64 0, .int .u64 0, .int .u64 0, .int .u64 0, .int .u64 0, .int .u64 0] := by rw [hr]; rfl
 rw [e]
 clear hr e
 refine cof hP Tryz.func26 (bdb _ rfl) (bkb rfl) ?_
 intro A g K hA hg hK
 cases A
 cbv
 exact hK _ _ _ rfl
def seedL (l : List Nat) : List Nat := (l ++ [48, 49, 50, 51, 52, 53, 54, 55, 56, 57, 97, 98, 99, 100, 101, 102]).take 200
theorem cSeeded {P : Program} (hP : P = Tryz.prog) (s k v : ByteArray) (hs : s.size < 2 ^ 62) (hk : bl k = (Sh.new 2 (seedL (bl s))).k) (hv : bl v = (Sh.new 2 (seedL (bl s))).v) :
 Con P 20 [.str s] [] 0 [] (fun w L q => w = .tup [.ptr 0 0, .ptr 1 0, .bool true] /\ L = [⟨0, [.int .i64 (.ofNat 2), .str k, .str v, .int .i64 1], 100⟩, ⟨1, [.int .i64 (.ofNat 2), .str k, .str v, .int .i64 1], 73⟩] /\ q = 2) := by
 obtain ⟨lit, hlit⟩ := exq (⟨#[48, 49, 50, 51, 52, 53, 54, 55, 56, 57, 97, 98, 99, 100, 101, 102]⟩ : ByteArray)
 have hlb : bl lit = [48, 49, 50, 51, 52, 53, 54, 55, 56, 57, 97, 98, 99, 100, 101, 102] := by rw [hlit]; rfl
 have hls : lit.size = 16 := by rw [hlit]; rfl
 obtain ⟨t, ht⟩ := exq (s ++ lit)
 have hts : t.size = s.size + 16 := by rw [ht, ByteArray.size_append, hls]
 have htb : bl t = bl s ++ [48, 49, 50, 51, 52, 53, 54, 55, 56, 57, 97, 98, 99, 100, 101, 102] := by rw [ht, bl_app, hlb]
 obtain ⟨u, hu⟩ := exq (t.extract 0 200)
 have hub : bl u = seedL (bl s) := by rw [hu, bl_extract, htb]; rfl
 have hus : 16 <= u.size /\ u.size <= 200 := by
  rw [<- bll, hu, bl_extract, List.length_take, bll, hts]; omega
 have hN : Con P 46 [.int .i64 (.ofNat 2), .str u, .str ⟨#[]⟩, .str ⟨#[]⟩] [] 0 [] _ := cDNew hP 2 (by decide) u ⟨#[]⟩ ⟨#[]⟩ ⟨by show 16 <= _; omega, by omega⟩ (by decide) (by decide) k v (by rw [hk, hub]; show _ = (Sh.new 2 (seedL (bl s) ++ [] ++ [])).k; rw [List.append_nil, List.append_nil]) (by rw [hv, hub]; show _ = (Sh.new 2 (seedL (bl s) ++ [] ++ [])).v; rw [List.append_nil, List.append_nil])
 have hR : Con P 47 [.int .i64 (.ofNat 2), .str u, .str ⟨#[]⟩, .str ⟨#[]⟩] [] 0 [] _ := cRNew hP 2 (by decide) (ro32 hP (Or.inr rfl)) u ⟨#[]⟩ ⟨#[]⟩ ⟨by show 32 <= _; omega, by omega⟩ (by decide) (by decide) k v (by rw [hk, hub]; show _ = (Sh.new 2 (seedL (bl s) ++ [] ++ [])).k; rw [List.append_nil, List.append_nil]) (by rw [hv, hub]; show _ = (Sh.new 2 (seedL (bl s) ++ [] ++ [])).v; rw [List.append_nil, List.append_nil])
 have hNu := cNum hP 0
 obtain ⟨tz, htz⟩ := exq t.size
 clear hk hv hub hlb
 refine cof hP Tryz.func20 (bdb _ rfl) (bkb rfl) ?_
 intro A g K hA hg hK
 obtain ⟨_, _, cmp, _, _, _, _, _, _, _, scat, _, slen⟩ := A
 have e1 : scat s ⟨#[48, 49, 50, 51, 52, 53, 54, 55, 56, 57, 97, 98, 99, 100, 101, 102]⟩ = some t := by
  rw [<- hlit]; exact (scat_of hA (by omega)).trans (by rw [ht])
 have e2 : slen t = Int.ofNat tz := (slen_of hA t).trans (by rw [htz])
 have e3 : cmp .eql 0 0 = true := eql_t hA (a := 0) (b := 0) rfl
 cbv
 rw [e1]
 cbv
 rw [e2]
 by_cases hlong : 200 < tz
 ·have hSl : SlR P 9 (.str t) none (some (.i64, 200)) (.str u) := by
   rw [hu]; exact slr_str (hP ▸ tblOk) (show tyT 9 = some _ from rfl) rfl t (j := 200) (by omega)
  cbv
  rw [show cmp .gtr (.ofNat tz) 200 = true from gtr_t hA (a := tz) (b := 200) hlong]
  cbv
  refine ssl hg rfl rfl rfl rfl rfl hSl ?_
  cbv
  refine cgn rfl hg rfl rfl hN _root_.id rfl trivial rfl rfl rfl ?_
  rintro _ _ _ ⟨rfl, rfl, rfl⟩ _
  refine ⟨rfl, ?_⟩
  cbv
  refine cgn rfl hg rfl rfl hR _root_.id rfl trivial rfl rfl rfl ?_
  rintro _ _ _ ⟨rfl, rfl, rfl⟩ _
  refine ⟨rfl, ?_⟩
  cbv
  refine cva rfl hg rfl rfl hNu ?_
  rintro _ _ _ rfl
  refine ⟨trivial, ?_⟩
  cbv
  rw [e3]
  cbv
  rw [e3]
  cbv
  exact hK _ _ _ ⟨rfl, rfl, rfl⟩
 ·obtain rfl : t = u := by
   rw [hu]; exact bl_inj (by rw [bl_extract, List.take_of_length_le (by rw [bll]; omega)])
  cbv
  rw [show cmp .gtr (.ofNat tz) 200 = false from gtr_f hA (a := tz) (b := 200) hlong]
  cbv
  refine cgn rfl hg rfl rfl hN _root_.id rfl trivial rfl rfl rfl ?_
  rintro _ _ _ ⟨rfl, rfl, rfl⟩ _
  refine ⟨rfl, ?_⟩
  cbv
  refine cgn rfl hg rfl rfl hR _root_.id rfl trivial rfl rfl rfl ?_
  rintro _ _ _ ⟨rfl, rfl, rfl⟩ _
  refine ⟨rfl, ?_⟩
  cbv
  refine cva rfl hg rfl rfl hNu ?_
  rintro _ _ _ rfl
  refine ⟨trivial, ?_⟩
  cbv
  rw [e3]
  cbv
  rw [e3]
  cbv
  exact hK _ _ _ ⟨rfl, rfl, rfl⟩
def awD : Sh.Dr := Sh.new 2 (seedL [101])
theorem awR : (mkS 1 0 223 64 awD).1 = 141 /\ (mkS 1 0 223 64 awD).2.1 = 1 /\ (mkS 1 0 223 64 awD).2.2.1 = 0 := by decide +kernel
def sm (x j : Nat) : Nat := if j = 0 then x else 0
theorem sm_V (x : Nat) : V 9 (sm x) = x := by
 have : ∀ n, V (n + 1) (sm x) = x := fun n => by
  induction n with
  | zero => show 0 + x * 0x10000000000000000 ^ 0 = x; omega
  | succ n ih =>
    show V (n + 1) (sm x) + 0 * _ = x
    rw [ih, Nat.zero_mul, Nat.add_zero]
 exact this 8
theorem sm_W {x : Nat} (h : x < 0x10000000000000000) : Wn 9 (sm x) := fun j _ => by
 unfold sm; split
 ·exact h
 ·decide
theorem awP : ptx (EC.G 13) = 2 /\ pty (EC.G 13) = 84 /\ ptinf (EC.G 13) = false := by decide +kernel
theorem awN : EC.cn 13 = 223 := by decide +kernel
def valsP (f g : Nat -> Nat) (b : Bool) : Array Value := #[.int .u64 (.ofNat (f 0)), .int .u64 (.ofNat (f 1)), .int .u64 (.ofNat (f 2)), .int .u64 (.ofNat (f 3)), .int .u64 (.ofNat (f 4)), .int .u64 (.ofNat (f 5)), .int .u64 (.ofNat (f 6)), .int .u64 (.ofNat (f 7)), .int .u64 (.ofNat (f 8)), .int .u64 (.ofNat (g 0)), .int .u64 (.ofNat (g 1)), .int .u64 (.ofNat (g 2)), .int .u64 (.ofNat (g 3)), .int .u64 (.ofNat (g 4)), .int .u64 (.ofNat (g 5)), .int .u64 (.ofNat (g 6)), .int .u64 (.ofNat (g 7)), .int .u64 (.ofNat (g 8)), .bool b]
theorem eq_natD (f g : Nat -> Nat) (d : Nat) (w : World) : (Op.equalIn (d + 3) 25 (.agg (vals9 f)) (.agg (vals9 g))).run Tryz.prog w = .ok (eq9 f g) w := by
 rw [run_equalIn_struct w (d + 2) 25 _ _ (by kernel_rfl) (by kernel_rfl)]
 have hf : (Tryz.prog.fieldsOf 25).toList = [{ name := "W", type := 23, offset := 0, embedded := false, tag := "", pkgPath := "", byteOffset := 0 }] := by kernel_rfl
 have hp : ∀ h : Nat -> Nat, (part 23 (vals9 h) 0).run Tryz.prog w = .ok (.agg (vals9 h)) w := fun h => by kernel_rfl
 rw [hf]
 simp only [Op.eqFields, Sem.run_bind, Sem.run_ite, hp, Result.andThen_ok, eq_words9 f g d w]
 cases eq9 f g <;> rfl
theorem eq_pt (f g : Nat -> Nat) (b : Bool) (f' g' : Nat -> Nat) (b' : Bool) (w : World) : (Op.equalIn 10000 35 (.agg (valsP f g b)) (.agg (valsP f' g' b'))).run Tryz.prog w = .ok (eq9 f f' && eq9 g g' && (b == b')) w := by
 rw [run_equalIn_struct w 9999 35 _ _ (by kernel_rfl) (by kernel_rfl)]
 have hf : (Tryz.prog.fieldsOf 35).toList = [{ name := "X", type := 25, offset := 0, embedded := false, tag := "", pkgPath := "", byteOffset := 0 }, { name := "Y", type := 25, offset := 9, embedded := false, tag := "", pkgPath := "", byteOffset := 72 }, { name := "Inf", type := 4, offset := 18, embedded := false, tag := "", pkgPath := "", byteOffset := 144 }] := by kernel_rfl
 have h1 : ∀ f g b, (part 25 (valsP f g b) 0).run Tryz.prog w = .ok (.agg (vals9 f)) w := fun f g b => by kernel_rfl
 have h2 : ∀ f g b, (part 25 (valsP f g b) 9).run Tryz.prog w = .ok (.agg (vals9 g)) w := fun f g b => by kernel_rfl
 have h3 : ∀ f g b, (part 4 (valsP f g b) 18).run Tryz.prog w = .ok (.bool b) w := fun f g b => by kernel_rfl
 rw [hf]
 simp only [Op.eqFields, Sem.run_bind, Sem.run_ite, h1, h2, h3, Result.andThen_ok, eq_natD _ _ 9996 w, eqIn_bool (d := 9998) (show Tryz.prog.underlying 4 = some .bool by kernel_rfl)]
 cases eq9 f f' <;> cases eq9 g g' <;> cases b == b' <;> rfl
theorem en_cmp_pt {P : Program} (hP : P = Tryz.prog) {g : G} {o : Oper} {x y : Operand} {yt : TypeId} {N m0 : Nat} {ms : List Nat} (hg : GI g m0 ms N) (hd' : dstLt N o.dst = true) {F : Nat -> Option SV} {M : Nat -> Option Blk} {f h f' h' : Nat -> Nat} {b b' r : Bool}
 (ho : o.op = .binOp .eql 35 x y yt) (hr : r = (eq9 f f' && eq9 h h' && (b == b')))
 (hx : ev F x = some (.agg (ptS f h b))) (hy : ev F y = some (.agg (ptS f' h' b'))) : EN g P o F M (.bool r) [] := by
 subst hP
 refine en_out hg hd' fun β p F' L' act W hF hM hm hf => ?_
 have E : ∀ z ∈ o.op.operands.toList, ev F' z = ev F z := fun z hz => ev_congr fun t ht => hF t (tmpsL_mem hz ht)
 have h4 : Tryz.prog.eqGuardType Tryz.prog.depth 35 = false := by kernel_rfl
 rw [ho] at E
 obtain ⟨e1, _⟩ := evd hf ((E x (by simp [Op.operands])).trans hx)
 obtain ⟨e2, _⟩ := evd hf ((E y (by simp [Op.operands])).trans hy)
 refine ⟨?_, trivial⟩
 have h1 : act.eval x = .agg (valsP f h b) := e1
 have h2 : act.eval y = .agg (valsP f' h' b') := e2
 have h3 : ∀ xs ys, (eqGuard .eql 35 x y (.agg xs) (.agg ys)).run Tryz.prog W = .ok () W := fun xs ys => run_eqGuard_agg W .eql 35 x y xs ys h4
 unfold execOp
 simp only [ho, h1, h2, Sem.run_bind, h3, Result.andThen_ok, run_eql_struct, eq_pt, Sem.run_pure, den, hr]
theorem awD_eq : (⟨2, awD.k, awD.v, 1⟩ : Sh.Dr) = awD := by
 have h1 : awD.id = 2 := Sh.upd_id _ _
 have h2 : awD.n = 1 := Sh.upd_n _ _
 generalize awD = D at h1 h2
 cases D
 simp only at h1 h2
 subst h1 h2
 rfl
theorem awOk : Sh.Ok awD := Sh.Ok.new (by decide) _
theorem cAwake {P : Program} (hP : P = Tryz.prog) : Con P 15 [] [] 0 [] (fun v _ _ => v = .bool true) := by
 have hid : awD.id = 2 := Sh.upd_id _ _
 obtain ⟨k0, hk0⟩ : ∃ b, bl b = awD.k := ⟨mkB awD.k, bmk awOk.kb⟩
 obtain ⟨v0, hv0⟩ : ∃ b, bl b = awD.v := ⟨mkB awD.v, bmk awOk.vb⟩
 have hks : k0.size = Sh.size 2 := by rw [<- bll, hk0, awOk.kl, hid]
 have hvs : v0.size = Sh.size 2 := by rw [<- bll, hv0, awOk.vl, hid]
 have hSe := cSeeded hP ⟨#[101]⟩ k0 v0 (by decide) hk0 hv0
 obtain ⟨d, k', v', wd, vd, _, _, _, _, _, _, hMk⟩ := cMake hP 13 (by decide) 8 1 0 223 (by unfold IsBl; decide) awN.symm (by decide) rfl rfl 2 (by decide) k0 v0 1 hks hvs (by decide) (mkS 1 0 223 64 awD) (by rw [hk0, hv0, awD_eq])
 obtain ⟨r1, r2, r3⟩ := awR
 rw [r1] at vd
 rw [r2, r3] at hMk
 obtain ⟨nr, hnr⟩ := exq ((mkS 1 0 223 64 awD).2.2.2.n)
 rw [<- hnr] at hMk
 obtain ⟨a1, ha1⟩ := exq (sm 1)
 obtain ⟨a2, ha2⟩ := exq (sm 2)
 obtain ⟨a84, ha84⟩ := exq (sm 84)
 obtain ⟨a223, ha223⟩ := exq (sm 223)
 have w1 : Wn 9 a1 := by rw [ha1]; exact sm_W (by decide)
 have w2 : Wn 9 a2 := by rw [ha2]; exact sm_W (by decide)
 have w84 : Wn 9 a84 := by rw [ha84]; exact sm_W (by decide)
 have w223 : Wn 9 a223 := by rw [ha223]; exact sm_W (by decide)
 have v1 : V 9 a1 = 1 := by rw [ha1]; exact sm_V 1
 have v2 : V 9 a2 = 2 := by rw [ha2]; exact sm_V 2
 have v84 : V 9 a84 = 84 := by rw [ha84]; exact sm_V 84
 have v223 : V 9 a223 = 223 := by rw [ha223]; exact sm_V 223
 have hO1 := cOne hP 1 a1 ha1
 have hO2 := cOne hP 2 a2 ha2
 have hO84 := cOne hP 84 a84 ha84
 have hO223 := cOne hP 223 a223 ha223
 have hCk := cCheck hP 13 (by decide) a223 w223 2401 (by rw [v223, awN]; rfl)
 have hPt : PtW 13 (EC.smul EC.finv (EC.ca 13) (V 9 a1) (EC.G 13)) a2 a84 false := by
  rw [v1, show EC.smul EC.finv (EC.ca 13) 1 (EC.G 13) = EC.G 13 from rfl]
  exact ⟨w2, w84, v2.trans awP.1.symm, v84.trans awP.2.1.symm, awP.2.2.symm⟩
 have hPu := cPublic hP 13 (by decide) a1 w1 (by rw [v1, awN]; decide) hPt
 have hMn := cMakeN hP 13 (by decide)
 have hC0 := cCheck0 hP 0 rfl a1
 have hN := fun x => cNum hP x
 have q1 : (!eq9 d (fun _ => 0)) = true := by
  rw [eq9_V wd (fun _ _ => by show 0 < 0x10000000000000000; decide), vd]; rfl
 have q2 : ∀ f, eq9 f f = true := fun f => by simp [eq9]
 clear ha1 ha2 ha84 ha223 hk0 hv0 hnr hPt vd
 refine cof hP Tryz.func15 (bdb _ rfl) (bkb rfl) ?_
 intro A g K hA hg hK
 obtain ⟨_, _, cmp, _, _, _, _, _, bnot⟩ := A
 have e1 : bnot true = false := bnot_of hA true
 cbv
 refine cgn rfl hg rfl rfl hSe _root_.id rfl trivial rfl rfl rfl ?_
 rintro _ _ _ ⟨rfl, rfl, rfl⟩ _
 refine ⟨rfl, ?_⟩
 cbv
 rw [e1]
 cbv
 refine cgn rfl hg rfl rfl hMk (fun _ => 0) rfl ⟨rfl, trivial⟩ rfl rfl rfl ?_
 rintro _ _ _ ⟨rfl, rfl, rfl⟩ _
 refine ⟨rfl, ?_⟩
 cbv
 refine cva rfl hg rfl rfl hO223 ?_
 rintro _ _ _ rfl
 refine ⟨by simp [bd, bdL, ws, lst], ?_⟩
 cbv
 refine cva rfl hg rfl rfl hCk ?_
 rintro _ _ _ rfl
 refine ⟨trivial, ?_⟩
 cbv
 refine cva rfl hg rfl rfl hO1 ?_
 rintro _ _ _ rfl
 refine ⟨by simp [bd, bdL, ws, lst], ?_⟩
 cbv
 refine cva rfl hg rfl rfl hPu ?_
 rintro _ _ _ rfl
 refine ⟨by simp [bd, bdL, ptS, ws, lst], ?_⟩
 cbv
 refine cva rfl hg rfl rfl hMn ?_
 rintro _ _ _ rfl
 refine ⟨by simp [bd, bdL, ws, lst], ?_⟩
 cbv
 refine cva rfl hg rfl rfl hO1 ?_
 rintro _ _ _ rfl
 refine ⟨by simp [bd, bdL, ws, lst], ?_⟩
 cbv
 refine cva rfl hg rfl rfl hC0 ?_
 rintro _ _ _ rfl
 refine ⟨trivial, ?_⟩
 have t0 : cmp .eql 0 0 = true := eql_t hA (a := 0) (b := 0) rfl
 have t1 : cmp .eql 1 1 = true := eql_t hA (a := 1) (b := 1) rfl
 have t2 : cmp .eql 2401 2401 = true := eql_t hA (a := 2401) (b := 2401) rfl
 have t3 : cmp .eql 2400 2400 = true := eql_t hA (a := 2400) (b := 2400) rfl
 have t4 : cmp .geq (.ofNat 1) 1 = true := geq_t hA (a := 1) (b := 1) (by decide)
 have t5 : cmp .eql (.ofNat 0) 0 = true := t0
 have t6 : cmp .eql (.ofNat 1) 1 = true := t1
 cbv
 refine reg_A (hP ▸ tblOk) hA hg (hP ▸ mixed) rfl rfl ?_
 cbv
 refine sdv hg (hN 0) ?_
 cbv
 rw [t0]
 cbv
 rw [t4]
 cbv
 refine stepD (en_cmp_nat hP hg rfl (a := d) (b := fun _ => 0) (r := true) (Or.inl ⟨rfl, q1.symm⟩) rfl rfl) ?_
 cbv
 refine sdv hg (hN 2401) ?_
 cbv
 rw [t2]
 cbv
 refine stepD (en_val rfl hg rfl rfl hO2 (fun _ _ _ h => h) (by simp [bd, bdL, ws, lst])) ?_
 cbv
 refine stepD (en_val rfl hg rfl rfl hO84 (fun _ _ _ h => h) (by simp [bd, bdL, ws, lst])) ?_
 cbv
 refine stepD (en_cmp_pt hP hg rfl (f := a2) (h := a84) (b := false) (f' := a2) (h' := a84) (b' := false) (r := true) rfl (by rw [q2, q2]; rfl) rfl rfl) ?_
 cbv
 refine sdv hg (hN 0) ?_
 cbv
 rw [t0]
 cbv
 refine sdv hg (hN 1) ?_
 cbv
 rw [t1]
 cbv
 refine sdv hg (hN 2400) ?_
 cbv
 rw [t3]
 cbv
 exact hK _ _ _ rfl
theorem wrap_u64 (x : Int) : 0 <= IntKind.u64.wrap x /\ IntKind.u64.wrap x < 0x10000000000000000 := by
 simp only [IntKind.wrap, IntKind.bits, IntKind.signed]
 simp
 omega
theorem rem_at (x : Int) (m : Nat) (hm : 0 < m) : ∃ k : Nat, k < m /\ intBin .rem .u64 (IntKind.u64.wrap x) (Int.ofNat m) = Int.ofNat k := by
 obtain ⟨h0, _⟩ := wrap_u64 x
 obtain ⟨w, hw⟩ := Int.eq_ofNat_of_zero_le h0
 refine ⟨w % m, Nat.mod_lt _ hm, ?_⟩
 rw [hw]
 rfl
theorem cv15 {A : Ar} (hA : A = Ar.real) (x : Int) (hx : -9223372036854775808 <= x /\ x <= 9223372036854775807) : ∃ c : Nat, 1 <= c /\ c <= 15 /\ A.bin .add .i64 1 (A.cvt .i64 (A.bin .rem .u64 (A.cvt .u64 x) 15)) = Int.ofNat c := by
 obtain ⟨k, hk, he⟩ := rem_at x 15 (by decide)
 refine ⟨1 + k, by omega, by omega, ?_⟩
 have h1 : A.bin .rem .u64 (A.cvt .u64 x) 15 = Int.ofNat k := by rw [bin_of hA, cvt_of hA]; exact he
 rw [h1, cvtI hA (k := .i64) (a := k) (fun _ => by show k < 2 ^ 63; omega) (fun h => by cases h)]
 exact addI hA (a := 1) (b := k) (by omega)
theorem g_last (k : Nat) : EC.smul EC.finv (EC.ca k) (EC.cn k - 1) (EC.G k) = EC.neg (EC.G k) := by
 have K := EC.okc k
 have o := EC.G_on k
 have h2 : 2 <= EC.cn k := (EC.prime_cn k).1
 have oQ := EC.smul_on K o (EC.cn k - 1)
 have h := EC.smul_add K o 1 (EC.cn k - 1)
 rw [show 1 + (EC.cn k - 1) = EC.cn k by omega, EC.nG] at h
 have e1 : EC.smul EC.finv (EC.ca k) 1 (EC.G k) = EC.G k := rfl
 rw [e1, EC.add_comm' K o oQ] at h
 have h3 := EC.add_sub' K oQ o
 rw [<- h] at h3
 exact h3.symm
structure GN (k x y : Nat) : Prop where
 gx : ptx (EC.G k) = x
 gy : pty (EC.G k) = y
 gi : ptinf (EC.G k) = false
 nx : ptx (EC.neg (EC.G k)) = x
 ny : pty (EC.neg (EC.G k)) = EC.cp k - y
 ni : ptinf (EC.neg (EC.G k)) = false
 y0 : 0 < y
 yl : y < EC.cp k
 xl : x < EC.cp k
theorem gn (k : Nat) : GN k (EC.cxN k) (EC.cyN k) := by
 have hs := EC.small k
 simp only [Bool.and_eq_true, decide_eq_true_eq] at hs
 have hx := hs.1.1.1.1.2
 have hy := hs.1.1.1.2
 have e2 : pty (EC.G k) = EC.cyN k := EC.val_nf _ hy
 have hy0 : (EC.nf (EC.cyN k) : Fin (EC.cp k)) ≠ 0 := EC.Ok.y0 (EC.okc k) (EC.G_on k)
 have hyp : 0 < EC.cyN k := by
  refine Nat.pos_of_ne_zero fun h => hy0 ?_
  rw [h]
  exact Fin.ext (EC.val_nf 0 (pos_cp k) |>.trans EC.val_zero.symm)
 refine ⟨EC.val_nf _ hx, e2, rfl, EC.val_nf _ hx, ?_, rfl, hyp, hy, hx⟩
 show (-(EC.nf (EC.cyN k) : Fin (EC.cp k))).val = _
 rw [Fin.val_neg, EC.val_nf _ hy]
 rw [if_neg hy0]
theorem ft6 {ρ : Nat -> Nat} {M : Nat -> Option Blk} {l0 l1 l2 l3 l4 l5 : Nat} {C0 C1 C2 C3 C4 C5 : List SV} {t : TypeId} (b0 : bdLB 0 C0 = true) (b1 : bdLB 0 C1 = true) (b2 : bdLB 0 C2 = true) (b3 : bdLB 0 C3 = true) (b4 : bdLB 0 C4 = true) (b5 : bdLB 0 C5 = true)
 (h0 : M (ρ l0) = some ⟨ρ l0, C0, t⟩) (h1 : M (ρ l1) = some ⟨ρ l1, C1, t⟩) (h2 : M (ρ l2) = some ⟨ρ l2, C2, t⟩) (h3 : M (ρ l3) = some ⟨ρ l3, C3, t⟩) (h4 : M (ρ l4) = some ⟨ρ l4, C4, t⟩) (h5 : M (ρ l5) = some ⟨ρ l5, C5, t⟩) : foot ρ M [⟨l0, C0, t⟩, ⟨l1, C1, t⟩, ⟨l2, C2, t⟩, ⟨l3, C3, t⟩, ⟨l4, C4, t⟩, ⟨l5, C5, t⟩] :=
 ⟨by rw [rcl _ b0]; exact h0, by rw [rcl _ b1]; exact h1, by rw [rcl _ b2]; exact h2, by rw [rcl _ b3]; exact h3, by rw [rcl _ b4]; exact h4, by rw [rcl _ b5]; exact h5, trivial⟩
theorem ft8 {ρ : Nat -> Nat} {M : Nat -> Option Blk} {l0 l1 l2 l3 l4 l5 l6 l7 : Nat} {C0 C1 C2 C3 C4 C5 C6 C7 : List SV} {t : TypeId} (b0 : bdLB 0 C0 = true) (b1 : bdLB 0 C1 = true) (b2 : bdLB 0 C2 = true) (b3 : bdLB 0 C3 = true) (b4 : bdLB 0 C4 = true) (b5 : bdLB 0 C5 = true) (b6 : bdLB 0 C6 = true) (b7 : bdLB 0 C7 = true)
 (h0 : M (ρ l0) = some ⟨ρ l0, C0, t⟩) (h1 : M (ρ l1) = some ⟨ρ l1, C1, t⟩) (h2 : M (ρ l2) = some ⟨ρ l2, C2, t⟩) (h3 : M (ρ l3) = some ⟨ρ l3, C3, t⟩) (h4 : M (ρ l4) = some ⟨ρ l4, C4, t⟩) (h5 : M (ρ l5) = some ⟨ρ l5, C5, t⟩) (h6 : M (ρ l6) = some ⟨ρ l6, C6, t⟩) (h7 : M (ρ l7) = some ⟨ρ l7, C7, t⟩) : foot ρ M [⟨l0, C0, t⟩, ⟨l1, C1, t⟩, ⟨l2, C2, t⟩, ⟨l3, C3, t⟩, ⟨l4, C4, t⟩, ⟨l5, C5, t⟩, ⟨l6, C6, t⟩, ⟨l7, C7, t⟩] :=
 ⟨by rw [rcl _ b0]; exact h0, by rw [rcl _ b1]; exact h1, by rw [rcl _ b2]; exact h2, by rw [rcl _ b3]; exact h3, by rw [rcl _ b4]; exact h4, by rw [rcl _ b5]; exact h5, by rw [rcl _ b6]; exact h6, by rw [rcl _ b7]; exact h7, trivial⟩
theorem cKeyEnds {P : Program} (hP : P = Tryz.prog) (i : Int) (hi : -9223372036854775808 <= i /\ i <= 9223372036854775807) (a : Nat -> Nat) (ha : Wn 9 a) : Con P 5 [.int .i64 i, .agg (ws a 9)] [] 0 [] (fun v _ _ => v = .bool true) := by
 obtain ⟨H, hH⟩ := exq (fun x c => hs (dg x) c : Nat -> Nat -> List SV)
 obtain ⟨S, hS⟩ := exq (Vg.sz : Nat -> Nat)
 have hs' : HS H S := ⟨hH, hS⟩
 clear hH hS
 have hAw := cAwake hP
 have hN := fun x => cNum hP x
 obtain ⟨x, hx⟩ := exq (V 9 a)
 obtain ⟨hx18, hFrom⟩ := mFrom hP hs' a ha x hx.symm
 obtain ⟨z9, hz9⟩ := exq (fun _ => 0 : Nat -> Nat)
 obtain ⟨a1, ha1⟩ := exq (sm 1)
 have w1 : Wn 9 a1 := by rw [ha1]; exact sm_W (by decide)
 have v1 : V 9 a1 = 1 := by rw [ha1]; exact sm_V 1
 have hO1 := cOne hP 1 a1 ha1
 have wz : Wn 9 z9 := by rw [hz9]; exact fun _ _ => by show 0 < 0x10000000000000000; decide
 have vz : V 9 z9 = 0 := by rw [hz9]; rfl
 have h1B : (1 : Nat) < 4294967296 := by decide
 have hrow1 := oneRow hP hs' h1B
 have hS1 := hs'.one h1B (by decide)
 refine cof hP Tryz.func5 (bdb _ rfl) (bkb rfl) ?_
 intro A g K hA hg hK
 obtain ⟨bin, _, cmp, _, cvt, _, _, _, bnot⟩ := A
 obtain ⟨c, hc1, hc2, hc⟩ := cv15 hA i hi
 have hc' : bin .add .i64 1 (cvt .i64 (bin .rem .u64 (cvt .u64 i) 15)) = Int.ofNat c := hc
 obtain ⟨sp, sa, sb, sn, sx, sy⟩ := same_nums ⟨hc1, hc2⟩
 obtain ⟨p, hp⟩ := exq (primeN c)
 obtain ⟨va, hva⟩ := exq (curA c)
 obtain ⟨vb, hvb⟩ := exq (rowB c)
 obtain ⟨n, hn⟩ := exq (rowN c)
 obtain ⟨gx, hgx⟩ := exq (rowX c)
 obtain ⟨gy, hgy⟩ := exq (rowY c)
 obtain ⟨pc, ac, bc, nc, xc, yc, bp, ba, bb, bn, bx, by', hGet⟩ := mGet hP hs' c ⟨hc1, hc2⟩ p va vb n gx gy hp hva hvb hn hgx hgy
 rw [<- hp] at sp
 rw [<- hn] at sn
 rw [<- hgx] at sx
 rw [<- hgy] at sy
 have GNc := gn c
 rw [sx, sy] at GNc
 obtain ⟨n2, n40, n9⟩ : 2 <= n /\ n < 4294967296 ^ 40 /\ 2 * n < 0x10000000000000000 ^ 9 := by
  rw [<- sn]
  have h : ((List.range 16).all fun k => decide (2 <= EC.cn k /\ EC.cn k < 4294967296 ^ 40 /\ 2 * EC.cn k < 0x10000000000000000 ^ 9)) = true := by decide +kernel
  exact of_decide_eq_true (List.all_eq_true.1 h c (List.mem_range.2 (by omega)))
 obtain ⟨l, hl⟩ := exq (n - 1)
 obtain ⟨lc, bl', hSub⟩ := mSub hP hs' (x := n) (c := nc) (y := 1) (e := 1) bn (by decide) n40 (by omega) l hl
 rw [hS1, hrow1] at hSub
 obtain ⟨la, wla, vla⟩ := exV 9 l (by omega)
 have hNl := mNat hP hs' bl' la wla vla
 have vN : ∀ m, bdLB m (H n nc) = true := fun m => hs'.b m n nc
 have vP : ∀ m, bdLB m (H p pc) = true := fun m => hs'.b m p pc
 have vA : ∀ m, bdLB m (H va ac) = true := fun m => hs'.b m va ac
 have vB : ∀ m, bdLB m (H vb bc) = true := fun m => hs'.b m vb bc
 have vX : ∀ m, bdLB m (H gx xc) = true := fun m => hs'.b m gx xc
 have vY : ∀ m, bdLB m (H gy yc) = true := fun m => hs'.b m gy yc
 have vL : ∀ m, bdLB m (H l lc) = true := fun m => hs'.b m l lc
 have hnc : n = EC.cn c := sn.symm
 obtain ⟨X1, wX1, vX1⟩ := exV 9 gx (Nat.lt_trans GNc.xl (cp_small ⟨hc1, hc2⟩))
 obtain ⟨Y1, wY1, vY1⟩ := exV 9 gy (Nat.lt_trans GNc.yl (cp_small ⟨hc1, hc2⟩))
 obtain ⟨yn, hyn⟩ := exq (p - gy)
 have hpc : p = EC.cp c := sp.symm
 obtain ⟨Y2, wY2, vY2⟩ := exV 9 yn (Nat.lt_of_le_of_lt (show yn <= EC.cp c by omega) (cp_small ⟨hc1, hc2⟩))
 have hCk := fun e he r hr => cCheck hP c ⟨hc1, hc2⟩ e he r hr
 have hE := hCk (fun _ => 0) (fun _ _ => by show 0 < 0x10000000000000000; decide) 2401 (if_neg (fun h => h.1 rfl)).symm
 have hF := hCk a1 w1 0 (if_pos ⟨by rw [v1]; decide, by rw [v1]; omega⟩).symm
 have hG := hCk la wla 0 (if_pos ⟨by rw [vla]; omega, by rw [vla]; omega⟩).symm
 have hP1 := cPublic hP c ⟨hc1, hc2⟩ a1 w1 ⟨by rw [v1]; decide, by rw [v1]; omega⟩ (x := X1) (y := Y1) (inf := false) (by rw [v1]; exact ⟨wX1, wY1, by rw [vX1]; exact GNc.gx.symm, by rw [vY1]; exact GNc.gy.symm, GNc.gi.symm⟩)
 have hP2 := cPublic hP c ⟨hc1, hc2⟩ la wla ⟨by rw [vla]; omega, by rw [vla]; omega⟩ (x := X1) (y := Y2) (inf := false) (by rw [vla, hl, hnc, g_last]; exact ⟨wX1, wY2, by rw [vX1]; exact GNc.nx.symm, by rw [vY2, hyn, hpc]; exact GNc.ny.symm, GNc.ni.symm⟩)
 have hp18 : p < 4294967296 ^ 18 := by
  rw [hpc]; exact Nat.lt_of_lt_of_le (cp_small ⟨hc1, hc2⟩) (by decide)
 have hgx18 : gx < 4294967296 ^ 18 := Nat.lt_trans GNc.xl (by rw [<- hpc]; exact hp18)
 have hgy18 : gy < 4294967296 ^ 18 := Nat.lt_trans GNc.yl (by rw [<- hpc]; exact hp18)
 have hIn := mIn hP hs' X1 Y1 wX1 wY1 gx gy vX1 vY1 false
 have vX18 : ∀ m, bdLB m (H gx 18) = true := fun m => hs'.b m gx 18
 have vY18 : ∀ m, bdLB m (H gy 18) = true := fun m => hs'.b m gy 18
 obtain ⟨kc, bkc, hNeg⟩ := mNeg hP hs' c (S va) (S vb) (S n) (S gx) (S gy) ac bc nc xc yc (H va ac) (H vb bc) (H n nc) (H gx xc) (H gy yc) (x := gx) (xc := 18) bp hgy18 hp18 (by rw [hpc]; exact Nat.le_of_lt GNc.yl) GNc.y0 yn hyn vA vB vN vX vY
 have vZ : ∀ m, bdLB m (H yn kc) = true := fun m => hs'.b m yn kc
 have hOut := mOut hP hs' (x := gx) (c := 18) (y := yn) (e := kc) hgx18 bkc X1 Y2 wX1 wY2 vX1 vY2 false
 have hOG := mOut hP hs' (x := gx) (c := xc) (y := gy) (e := yc) bx by' X1 Y1 wX1 wY1 vX1 vY1 false
 have hGG := mG hP hs' c (S p) (S va) (S vb) (S n) (S gx) (S gy) pc ac bc nc xc yc (H p pc) (H va ac) (H vb bc) (H n nc) (H gx xc) (H gy yc) vP vA vB vN vX vY
 have e1 : bnot true = false := bnot_of hA true
 cbv
 refine cva rfl hg rfl rfl hAw ?_
 rintro _ _ _ rfl
 refine ⟨trivial, ?_⟩
 cbv
 rw [e1]
 cbv
 rw [hc']
 refine cgn rfl hg rfl rfl hGet _root_.id rfl trivial rfl rfl rfl ?_
 rintro _ _ _ ⟨rfl, rfl, rfl⟩ _
 refine ⟨rfl, ?_⟩
 simp only [renB, rcl _ (vP 0), rcl _ (vA 0), rcl _ (vB 0), rcl _ (vN 0), rcl _ (vX 0), rcl _ (vY 0)]
 cbv
 rw [e1]
 cbv
 refine cgn rfl hg rfl rfl hSub (fun l => if l = 0 then 4 else 8) rfl (ft2 (vN 0) rfl rfl rfl) rfl rfl rfl ?_
 rintro _ _ _ ⟨rfl, rfl, rfl⟩ _
 refine ⟨rfl, ?_⟩
 simp only [renB, rcl _ (vL 0)]
 cbv
 refine cro rfl hg rfl rfl hNl (fun _ => 9) rfl (ft1 (vL 0) rfl) ?_
 rintro _ _ _ rfl
 refine ⟨by simp [bd, bdL, ws, lst], by simp [bd, bdL, ren, renL, ws, lst], ?_⟩
 cbv
 obtain ⟨r, hr⟩ := exq (x % n)
 have hrn : r < n := by rw [hr]; exact Nat.mod_lt _ (by omega)
 obtain ⟨sm', hsm⟩ := exq (n + r)
 have hx40 : x < 4294967296 ^ 40 := pow40 hP hs' hx18
 have vF : ∀ m, bdLB m (H x 18) = true := fun m => hs'.b m x 18
 obtain ⟨bg, wbg, vbg⟩ := exV 9 sm' (by omega)
 have hHc := hCk bg wbg 2401 (if_neg (by rw [vbg]; intro h; omega)).symm
 have t0 : cmp .eql 0 0 = true := eql_t hA (a := 0) (b := 0) rfl
 have t1 : cmp .eql 2401 2401 = true := eql_t hA (a := 2401) (b := 2401) rfl
 have q2 : ∀ f, eq9 f f = true := fun f => by simp [eq9]
 refine reg_A (hP ▸ tblOk) hA hg (hP ▸ mixed) rfl rfl ?_
 cbv
 refine stepD_one rfl hg rfl rfl hFrom (vF 0) (by intro b hb; cases hb) _root_.id rfl trivial rfl ?_
 cbv
 by_cases hxn : x < n
 focus
  have hrx : r = x := by rw [hr, Nat.mod_eq_of_lt hxn]
  have hMd := mModL hP hs' (x := x) (c := 18) (y := n) (e := nc) hx18 bn hx40 hxn
  obtain ⟨sc, bsc, hAd⟩ := mAdd hP hs' (x := n) (c := nc) (y := x) (e := 18) bn hx18 n40 hx40 sm' (by rw [hsm, hrx])
  have bS : ∀ m, bdLB m (H sm' sc) = true := fun m => hs'.b m sm' sc
  have hNb := mNat hP hs' bsc bg wbg vbg
  refine stepD (en_ro rfl hg rfl rfl hMd (fun l => if l = 0 then 11 else 4) rfl (ftM2 (vF 0) (vN 0) rfl rfl) rfl (fun _ _ _ h => h) (blq rfl)) ?_
  cbv
  refine stepD_one rfl hg rfl rfl hAd (bS 0) (by intro b hb; rcases List.mem_cons.1 hb with rfl | hb; exact ⟨blq rfl, vN 2⟩; obtain rfl := List.mem_singleton.1 hb; exact ⟨blq rfl, vF 2⟩) (fun l => if l = 0 then 4 else 11) rfl (ftM2 (vN 0) (vF 0) rfl rfl) rfl ?_
  cbv
  refine stepD (enr rfl hg rfl rfl hNb (fun _ => 12) rfl (ftM (bS 0) rfl) (fun _ _ _ h => h) (by simp [bd, bdL, ws, lst])) ?_
  cbv
 rotate_left
 by_cases hr0 : r = 0 /\ 4294967296 <= n
 focus
  have hMd := mModZ hP hs' (x := x) (c := 18) (y := n) (e := nc) hx18 bn hx40 (by omega) hr0.2 (by rw [<- hr]; exact hr0.1)
  obtain ⟨sc, bsc, hAd⟩ := mAddN hP hs' (x := n) (c := nc) bn n40
  have bS : ∀ m, bdLB m (H n sc) = true := fun m => hs'.b m n sc
  have hNb := mNat hP hs' bsc bg wbg (by rw [vbg]; omega)
  refine stepD (enr rfl hg rfl rfl hMd (fun l => if l = 0 then 11 else 4) rfl (ftM2 (vF 0) (vN 0) rfl rfl) (fun _ _ _ h => h) trivial) ?_
  cbv
  refine stepD_one rfl hg rfl rfl hAd (bS 0) (by intro b hb; obtain rfl := List.mem_singleton.1 hb; exact ⟨blq rfl, vN 1⟩) (fun _ => 4) rfl (ftM (vN 0) rfl) rfl ?_
  cbv
  refine stepD (enr rfl hg rfl rfl hNb (fun _ => 12) rfl (ftM (bS 0) rfl) (fun _ _ _ h => h) (by simp [bd, bdL, ws, lst])) ?_
  cbv
 rotate_left
 focus
  have hMd' : ∃ rc, r < 4294967296 ^ rc /\ Con P 25 [.slice 0 0 (S x) 18, .slice 1 0 (S n) nc] [⟨0, H x 18, 58⟩, ⟨1, H n nc, 58⟩] 2 [] (fun w L q => w = .slice 2 0 (S r) rc /\ L = [⟨2, H r rc, 58⟩] /\ q = 3) := by
   rcases Nat.lt_or_ge n 4294967296 with h | h
   ·exact ⟨1, by rw [Nat.pow_one]; omega, mModS hP hs' hx18 bn hx40 (by omega) (by omega) h r hr⟩
   ·exact mModK hP hs' hx18 bn hx40 (by omega) h r hr (fun h0 => hr0 ⟨h0, h⟩)
  obtain ⟨rc, brc, hMd⟩ := hMd'
  have vR : ∀ m, bdLB m (H r rc) = true := fun m => hs'.b m r rc
  obtain ⟨sc, bsc, hAd⟩ := mAdd hP hs' (x := n) (c := nc) (y := r) (e := rc) bn brc n40 (by omega) sm' hsm
  have bS : ∀ m, bdLB m (H sm' sc) = true := fun m => hs'.b m sm' sc
  have hNb := mNat hP hs' bsc bg wbg vbg
  refine stepD_one rfl hg rfl rfl hMd (vR 0) (by intro b hb; rcases List.mem_cons.1 hb with rfl | hb; exact ⟨blq rfl, vF 2⟩; obtain rfl := List.mem_singleton.1 hb; exact ⟨blq rfl, vN 2⟩) (fun l => if l = 0 then 11 else 4) rfl (ftM2 (vF 0) (vN 0) rfl rfl) rfl ?_
  cbv
  refine stepD_one rfl hg rfl rfl hAd (bS 0) (by intro b hb; rcases List.mem_cons.1 hb with rfl | hb; exact ⟨blq rfl, vN 2⟩; obtain rfl := List.mem_singleton.1 hb; exact ⟨blq rfl, vR 2⟩) (fun l => if l = 0 then 4 else 12) rfl (ftM2 (vN 0) (vR 0) rfl rfl) rfl ?_
  cbv
  refine stepD (enr rfl hg rfl rfl hNb (fun _ => 13) rfl (ftM (bS 0) rfl) (fun _ _ _ h => h) (by simp [bd, bdL, ws, lst])) ?_
  cbv
 all_goals
  refine reg_A (hP ▸ tblOk) hA hg (hP ▸ mixed) rfl rfl ?_
  cbv
  refine sdv hg hE ?_
  cbv
  refine stepD (en_val rfl hg rfl rfl hO1 (fun _ _ _ h => h) (by simp [bd, bdL, ws, lst])) ?_
  cbv
  refine sdv hg hF ?_
  cbv
  refine sdv hg hG ?_
  cbv
  refine sdv hg hHc ?_
  cbv
  refine reg_A (hP ▸ tblOk) hA hg (hP ▸ mixed) rfl rfl ?_
  cbv
  refine stepD (en_val rfl hg rfl rfl hO1 (fun _ _ _ h => h) (by simp [bd, bdL, ws, lst])) ?_
  cbv
  refine stepD (en_val rfl hg rfl rfl hP1 (fun _ _ _ h => h) (by simp [bd, bdL, ptS, ws, lst])) ?_
  cbv
  refine cva rfl hg rfl rfl hP2 ?_
  rintro _ _ _ rfl
  refine ⟨by simp [bd, bdL, ptS, ws, lst], ?_⟩
  cbv
  refine reg_A (hP ▸ tblOk) hA hg (hP ▸ mixed) rfl rfl ?_
  cbv
  refine stepD_gen rfl hg rfl rfl hIn (by intro b hb; cases hb) (by intro b hb; rcases List.mem_cons.1 hb with rfl | hb; exact ⟨Nat.zero_le _, blq rfl⟩; obtain rfl := List.mem_singleton.1 hb; exact ⟨Nat.zero_le _, blq rfl⟩) (by intro l h1 h2; rcases (show l = 0 \/ l = 1 by omega) with rfl | rfl; exact ⟨_, List.mem_cons_self, rfl⟩; exact ⟨_, List.mem_cons_of_mem _ (List.mem_singleton.2 rfl), rfl⟩) (by simp) (by decide) _root_.id rfl trivial rfl ?_
  simp only [renB, rcl _ (vX18 0), rcl _ (vY18 0)]
  cbv
  first
   | refine stepD_gen rfl hg rfl rfl hNeg (by intro b hb; rcases List.mem_cons.1 hb with rfl | hb; exact ⟨blq rfl, vP 8⟩; rcases List.mem_cons.1 hb with rfl | hb; exact ⟨blq rfl, vA 8⟩; rcases List.mem_cons.1 hb with rfl | hb; exact ⟨blq rfl, vB 8⟩; rcases List.mem_cons.1 hb with rfl | hb; exact ⟨blq rfl, vN 8⟩; rcases List.mem_cons.1 hb with rfl | hb; exact ⟨blq rfl, vX 8⟩; rcases List.mem_cons.1 hb with rfl | hb; exact ⟨blq rfl, vY 8⟩; rcases List.mem_cons.1 hb with rfl | hb; exact ⟨blq rfl, vX18 8⟩; obtain rfl := List.mem_singleton.1 hb; exact ⟨blq rfl, vY18 8⟩) (by intro b hb; obtain rfl := List.mem_singleton.1 hb; exact ⟨Nat.le_refl _, blq rfl⟩) (by intro l h1 h2; exact ⟨_, List.mem_singleton.2 rfl, by show 8 = l; omega⟩) (by simp) (by decide) (fun l => if l < 6 then l + 1 else l + 10) rfl (ft8 (vP 0) (vA 0) (vB 0) (vN 0) (vX 0) (vY 0) (vX18 0) (vY18 0) rfl rfl rfl rfl rfl rfl rfl rfl) rfl ?_
   | refine stepD_gen rfl hg rfl rfl hNeg (by intro b hb; rcases List.mem_cons.1 hb with rfl | hb; exact ⟨blq rfl, vP 8⟩; rcases List.mem_cons.1 hb with rfl | hb; exact ⟨blq rfl, vA 8⟩; rcases List.mem_cons.1 hb with rfl | hb; exact ⟨blq rfl, vB 8⟩; rcases List.mem_cons.1 hb with rfl | hb; exact ⟨blq rfl, vN 8⟩; rcases List.mem_cons.1 hb with rfl | hb; exact ⟨blq rfl, vX 8⟩; rcases List.mem_cons.1 hb with rfl | hb; exact ⟨blq rfl, vY 8⟩; rcases List.mem_cons.1 hb with rfl | hb; exact ⟨blq rfl, vX18 8⟩; obtain rfl := List.mem_singleton.1 hb; exact ⟨blq rfl, vY18 8⟩) (by intro b hb; obtain rfl := List.mem_singleton.1 hb; exact ⟨Nat.le_refl _, blq rfl⟩) (by intro l h1 h2; exact ⟨_, List.mem_singleton.2 rfl, by show 8 = l; omega⟩) (by simp) (by decide) (fun l => if l < 6 then l + 1 else l + 11) rfl (ft8 (vP 0) (vA 0) (vB 0) (vN 0) (vX 0) (vY 0) (vX18 0) (vY18 0) rfl rfl rfl rfl rfl rfl rfl rfl) rfl ?_
  simp only [renB, rcl _ (vZ 0)]
  cbv
  first
   | refine stepD (enr rfl hg rfl rfl hOut (fun l => if l = 0 then 16 else 18) rfl (ftM2 (vX18 0) (vZ 0) rfl rfl) (fun _ _ _ h => h) (by simp [bd, bdL, ptS, ws, lst])) ?_
   | refine stepD (enr rfl hg rfl rfl hOut (fun l => if l = 0 then 17 else 19) rfl (ftM2 (vX18 0) (vZ 0) rfl rfl) (fun _ _ _ h => h) (by simp [bd, bdL, ptS, ws, lst])) ?_
  cbv
  refine reg_A (hP ▸ tblOk) hA hg (hP ▸ mixed) rfl rfl ?_
  cbv
  refine sdv hg (hN 2401) ?_
  cbv
  rw [t1]
  cbv
  refine sdv hg (hN 0) ?_
  cbv
  rw [t0]
  cbv
  refine sdv hg (hN 0) ?_
  cbv
  rw [t0]
  cbv
  refine sdv hg (hN 2401) ?_
  cbv
  rw [t1]
  cbv
  refine sdv hg (hN 0) ?_
  cbv
  rw [t0]
  cbv
  refine sdv hg (hN 0) ?_
  cbv
  rw [t0]
  cbv
  refine stepD (en_ro rfl hg rfl rfl hGG (fun l => l + 1) rfl (ft6 (vP 0) (vA 0) (vB 0) (vN 0) (vX 0) (vY 0) rfl rfl rfl rfl rfl rfl) rfl (fun _ _ _ h => h) ⟨blq rfl, blq rfl, trivial, trivial⟩) ?_
  cbv
  refine stepD (enr rfl hg rfl rfl hOG (fun l => l + 5) rfl (ftM2 (vX 0) (vY 0) rfl rfl) (fun _ _ _ h => h) (by simp [bd, bdL, ptS, ws, lst])) ?_
  cbv
  refine stepD (en_cmp_pt hP hg rfl (f := X1) (h := Y1) (b := false) (f' := X1) (h' := Y1) (b' := false) (r := true) rfl (by rw [q2, q2]; rfl) rfl rfl) ?_
  cbv
  refine stepD (en_cmp_pt hP hg rfl (f := X1) (h := Y2) (b := false) (f' := X1) (h' := Y2) (b' := false) (r := true) rfl (by rw [q2, q2]; rfl) rfl rfl) ?_
  cbv
  exact hK _ _ _ rfl
end Go.Proofs.YtdhmihfefgcbeaaGreat
