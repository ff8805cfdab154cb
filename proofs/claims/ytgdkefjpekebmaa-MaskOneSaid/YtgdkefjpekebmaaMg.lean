/-
  This text proves that package mask tells texts that differ in one byte, or in length, from one another: the statement MaskOne. Condition: the text is shorter than 2^62.
-/
import Derived.Test.YtgdkefjpekebmaaVgT
import Derived.Test.YtgdkefjpekebmaaVgU
import Derived.Test.YtgdkefjpekebmaaMc
namespace Go.Proofs.Ytgdkefjpekebmaa
open Go.Vg
set_option maxRecDepth 200000
set_option cbv.maxSteps 100000000
theorem cSame {P : Program} (hP : P = Try.prog) (a b : ByteArray) (ha : a.size ≤ 9223372036854775807) (r : Int) (hr : r = msk (decide (a = b))) : Con P 16 [.str a, .str b] [] 0 [] (fun v _ _ => v = .int .u64 r) := by
  subst hP
  exact Con.from_calls (Callable.of Try.func16 rfl) (fun W => same_any a b ha r hr W) ⟨trivial, trivial, trivial⟩ trivial
theorem cAwake {P : Program} (hP : P = Try.prog) : Con P 17 [] [] 0 [] (fun v _ _ => v = .bool true) := by
  subst hP
  exact Con.from_calls (Callable.of Try.func17 rfl) (fun W => awake_any W) trivial trivial
theorem wrap_u64 (x : Int) : 0 ≤ IntKind.u64.wrap x ∧ IntKind.u64.wrap x < 18446744073709551616 := by
  simp only [IntKind.wrap, IntKind.bits, IntKind.signed]
  simp
  omega
theorem wrap_id64 (k : Nat) (h : k < 18446744073709551616) : IntKind.u64.wrap (k : Int) = (k : Int) := by
  simp only [IntKind.wrap, IntKind.bits, IntKind.signed]
  simp
  omega
theorem wrap_u8 (k : Nat) (h : k < 256) : IntKind.u8.wrap (k : Int) = (k : Int) := by
  simp only [IntKind.wrap, IntKind.bits, IntKind.signed]
  simp
  omega
theorem rem_at (x : Int) (m : Nat) (hm : 0 < m) : ∃ k : Nat, k < m ∧ intBin .rem .u64 (IntKind.u64.wrap x) (Int.ofNat m) = Int.ofNat k := by
  obtain ⟨h0, _⟩ := wrap_u64 x
  obtain ⟨w, hw⟩ := Int.eq_ofNat_of_zero_le h0
  refine ⟨w % m, Nat.mod_lt _ hm, ?_⟩
  rw [hw]
  rfl
theorem xor_at (b : UInt8) (d : Nat) (h0 : 0 < d) (h1 : d < 256) : ∃ y : UInt8, y ≠ b ∧ intBin .xor .u8 (b.toNat : Int) (Int.ofNat d) = (y.toNat : Int) := by
  have hd : BitVec.ofInt 8 (Int.ofNat d) = BitVec.ofNat 8 d := by simp
  have hb : BitVec.ofInt 8 (b.toNat : Int) = b.toBitVec := by
    apply BitVec.eq_of_toNat_eq
    simp
  refine ⟨⟨b.toBitVec ^^^ BitVec.ofNat 8 d⟩, fun h => ?_, ?_⟩
  · have h2 : b.toBitVec ^^^ BitVec.ofNat 8 d = b.toBitVec := congrArg UInt8.toBitVec h
    have h3 : BitVec.ofNat 8 d = 0 := by
      have := congrArg (b.toBitVec ^^^ ·) h2
      simp only [← BitVec.xor_assoc, BitVec.xor_self, BitVec.zero_xor] at this
      exact this
    have h4 := congrArg BitVec.toNat h3
    simp at h4
    omega
  · show IntKind.u8.wrap ((BitVec.ofInt 8 (b.toNat : Int) ^^^ BitVec.ofInt 8 (Int.ofNat d)).toNat : Nat) = _
    rw [hd, hb, wrap_u8 _ (BitVec.isLt _)]
    rfl
/-- a text with one byte set -/
def setB (t : ByteArray) (k : Nat) (y : UInt8) : ByteArray := ⟨(t.data.toList.set k y).toArray⟩
theorem setB_size (t : ByteArray) (k : Nat) (y : UInt8) : (setB t k y).size = t.size := by
  show (t.data.toList.set k y).toArray.size = t.data.size
  simp
theorem bts_get {t : ByteArray} {Z : List SV} {k : Nat} (h : k < t.data.toList.length) : (bts t ++ Z)[k]? = some (.int .u8 (t.data.toList[k].toNat : Int)) := by
  rw [List.getElem?_append_left (by simpa [bts] using h), bts, List.getElem?_map, List.getElem?_eq_getElem h]
  rfl
theorem bts_set {t : ByteArray} {Z : List SV} {k : Nat} (h : k < t.data.toList.length) (y : UInt8) : Vg.splice (bts t ++ Z) k [.int .u8 (y.toNat : Int)] = bts (setB t k y) ++ Z := by
  have h1 : Vg.splice (bts t ++ Z) k [.int .u8 (y.toNat : Int)] = (bts t ++ Z).set k (.int .u8 (y.toNat : Int)) := by
    simp only [Vg.splice, List.length_cons, List.length_nil]
    rw [List.set_eq_take_append_cons_drop, if_pos (by simp [bts] at h ⊢; omega)]
    simp
  rw [h1, List.set_append_left _ _ (by simpa [bts] using h)]
  congr 1
  simp only [bts, setB, List.map_set]
theorem setB_ne {t : ByteArray} {k : Nat} (h : k < t.data.toList.length) {y : UInt8} (hy : y ≠ t.data.toList[k]) : t ≠ setB t k y := by
  intro e
  have h1 : t.data.toList = t.data.toList.set k y := congrArg (fun b : ByteArray => b.data.toList) e
  have h2 : t.data.toList[k]? = some y := by rw [h1, List.getElem?_set_self h]
  rw [List.getElem?_eq_getElem h] at h2
  exact hy (Option.some.inj h2).symm
theorem bts_length (t : ByteArray) : (bts t).length = t.size := by
  rw [bts, List.length_map]; rfl
theorem cOne {P : Program} (hP : P = Try.prog) (s : ByteArray) (at' by' : Int) (hs : s.size < 4611686018427387904) : Con P 4 [.str s, .int .i64 at', .int .i64 by'] [] 0 [] (fun v _ _ => v = .bool true) := by
  refine Con.of (hP ▸ tblOk) (hP ▸ Try.func4) rfl rfl rfl rfl (by decide) rfl rfl ⟨trivial, trivial, trivial, trivial⟩ (by simp) ?_
  intro A g K hA hg hK
  obtain ⟨bin, sh, cmp, una, cvt, ix, nn, nz, bnot, beq, scat, scmp, slen, six, nat, off, get, set, sub, spl⟩ := A
  cbv
  refine call_val rfl hg rfl rfl (cAwake hP) ?_
  rintro _ _ _ rfl
  refine ⟨trivial, ?_⟩
  cbv
  rw [show bnot true = false from bnot_of hA true]
  cbv
  obtain ⟨t, ht⟩ : ∃ t, t = s ++ ⟨#[113]⟩ := ⟨_, rfl⟩
  have hts : t.size = s.size + 1 := by rw [ht, ByteArray.size_append]; rfl
  rw [show scat s ⟨#[113]⟩ = some t from (scat_of hA (by show s.size + 1 < _; omega)).trans (by rw [ht])]
  cbv
  obtain ⟨m, hm⟩ : ∃ m, m = t.size := ⟨_, rfl⟩
  have e1 : slen t = Int.ofNat m := (slen_of hA t).trans (by rw [hm])
  have e2 : ∀ x, cvt .u64 x = IntKind.u64.wrap x := cvt_of hA .u64
  have e2i : ∀ x, cvt .i64 x = IntKind.i64.wrap x := cvt_of hA .i64
  have e2b : ∀ x, cvt .u8 x = IntKind.u8.wrap x := cvt_of hA .u8
  have e3 : cvt .u64 (Int.ofNat m) = Int.ofNat m := (e2 _).trans (wrap_id64 m (by omega))
  have e4 : bin = intBin := bin_of hA
  obtain ⟨k, hk, hke⟩ := rem_at at' m (by omega)
  have e5 : bin .rem .u64 (cvt .u64 at') (Int.ofNat m) = Int.ofNat k := by rw [e4, e2]; exact hke
  have e6 : cvt .i64 (Int.ofNat k) = Int.ofNat k := (e2i _).trans (wrap_of k (by omega))
  rw [e1, e3, show nz (Int.ofNat m) = true from nz_of hA (by simp; omega)]
  cbv
  rw [e5, e6]
  refine step_bytes (hP ▸ tblOk) hg rfl rfl (show tyT 9 = some _ from rfl) rfl (show tyT 30 = some _ from rfl) rfl (hP ▸ Try.underlying5) rfl ?_
  intro c hc
  rw [← hm] at hc ⊢
  generalize hC : bts t ++ List.replicate (c - m) (.int .u8 0) = C
  cbv
  have hkl : k < t.data.toList.length := by show k < t.size; omega
  obtain ⟨b, hb⟩ : ∃ b, b = t.data.toList[k] := ⟨_, rfl⟩
  obtain ⟨d, hd, hde⟩ := rem_at by' 255 (by omega)
  obtain ⟨y, hy, hye⟩ := xor_at b (d + 1) (by omega) (by omega)
  have f1 : ix (Int.ofNat k) m = some k := ix_of hA hk
  have f2 : off 0 k 1 = k := (off_of hA 0 k 1).trans (by omega)
  have f3 : get C k = some (.int .u8 (b.toNat : Int)) := (get_of hA _ _).trans (by rw [← hC, bts_get hkl, hb])
  have f4 : bin .rem .u64 (cvt .u64 by') 255 = Int.ofNat d := by rw [e4, e2]; exact hde
  have f5 : cvt .i64 (Int.ofNat d) = Int.ofNat d := (e2i _).trans (wrap_of d (by omega))
  have f6 : bin .add .i64 1 (Int.ofNat d) = Int.ofNat (d + 1) := by rw [e4]; exact (congrArg IntKind.i64.wrap (by show (1 : Int) + (d : Int) = ((d + 1 : Nat) : Int); omega)).trans (wrap_of (d + 1) (by omega))
  have f7 : cvt .u8 (Int.ofNat (d + 1)) = Int.ofNat (d + 1) := (e2b _).trans (wrap_u8 (d + 1) (by omega))
  have f8 : bin .xor .u8 (b.toNat : Int) (Int.ofNat (d + 1)) = (y.toNat : Int) := by rw [e4]; exact hye
  obtain ⟨D, hD⟩ : ∃ D, D = Vg.splice C k [.int .u8 (y.toNat : Int)] := ⟨_, rfl⟩
  have f9 : spl C k [.int .u8 (y.toNat : Int)] = some D := (spl_of hA (by rw [← hC, List.length_append, bts_length]; omega) _).trans (by rw [hD])
  have hD' : D = bts (setB t k y) ++ List.replicate (c - m) (.int .u8 0) := by rw [hD, ← hC, bts_set hkl]
  generalize hyi : (y.toNat : Int) = yi at f8 f9
  generalize hbi : (b.toNat : Int) = bi at f3 f8
  rw [f1]
  cbv
  rw [f2, f3]
  cbv
  rw [f4, f5, f6, f7, f8, f1]
  cbv
  rw [f2, f9]
  cbv
  refine step_string (hP ▸ tblOk) hg rfl rfl (show tyT 9 = some _ from rfl) rfl (show tyT 30 = some _ from rfl) rfl (hP ▸ Try.underlying5) (show ev _ _ = some (.slice 0 0 m c) from rfl) rfl (s := setB t k y) (by
    show (D.drop 0).take m = _
    rw [hD', List.drop_zero, List.take_left' (by rw [bts_length, setB_size, hm])]) (by rw [setB_size, hm]) ?_
  generalize hu : setB t k y = u
  have hut : t ≠ u := hu ▸ setB_ne hkl (hb ▸ hy)
  have hst : t ≠ s := fun e => by have := congrArg ByteArray.size e; omega
  cbv
  refine call_val rfl hg rfl rfl (cSame hP t u (by omega) 0 (by rw [decide_eq_false hut]; rfl)) ?_
  rintro _ _ _ rfl
  refine ⟨trivial, ?_⟩
  have g1 : cmp .eql 0 0 = true := (eql_of hA _ _).trans rfl
  have g2 : cmp .eql 18446744073709551615 18446744073709551615 = true := (eql_of hA _ _).trans rfl
  cbv
  rw [g1]
  cbv
  refine call_val rfl hg rfl rfl (cSame hP t s (by omega) 0 (by rw [decide_eq_false hst]; rfl)) ?_
  rintro _ _ _ rfl
  refine ⟨trivial, ?_⟩
  cbv
  rw [g1]
  cbv
  refine call_val rfl hg rfl rfl (cSame hP t t (by omega) 18446744073709551615 (by rw [decide_eq_true rfl]; rfl)) ?_
  rintro _ _ _ rfl
  refine ⟨trivial, ?_⟩
  cbv
  rw [g2]
  cbv
  exact hK _ _ _ rfl
end Go.Proofs.Ytgdkefjpekebmaa
