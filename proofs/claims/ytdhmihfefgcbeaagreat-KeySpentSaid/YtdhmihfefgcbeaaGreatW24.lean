/-
  This text proves what these texts prove: Ja, Jb, Jc. Conditions: those of each theorem.
-/
import Derived.Test.YtdhmihfefgcbeaaGreatW09
import Derived.Test.YtdhmihfefgcbeaaGreatW23
section
namespace Go.Proofs.YtdhmihfefgcbeaaGreat
open Go.Vg Go.RowKit
set_option maxRecDepth 200000
set_option cbv.maxSteps 100000000
theorem cRot32 {P : Program} (hP : P = Tryz.prog) (x k : Nat) (hx : x < 4294967296) (hk : 1 <= k /\ k < 32) (r : Nat) (hr : r = Sh.rotr 32 x k) :
 Con P 138 [.int .u32 (Int.ofNat x), .int .i64 (Int.ofNat k)] [] 0 [] (fun v _ _ => v = .int .u32 (Int.ofNat r)) := by
 obtain ⟨k', hk'⟩ : ∃ c, c = 32 - k := ⟨_, rfl⟩
 obtain ⟨u, hu⟩ : ∃ u, u = x * 2 ^ k' % 4294967296 := ⟨_, rfl⟩
 obtain ⟨w, hw⟩ : ∃ u, u = x / 2 ^ k := ⟨_, rfl⟩
 have hul : u < 4294967296 := by rw [hu]; exact Nat.mod_lt _ (by decide)
 have hwl : w < 4294967296 := by rw [hw]; exact Nat.lt_of_le_of_lt (Nat.div_le_self _ _) hx
 have hr2 : r = w ||| u := by
  rw [hr, Sh.rotr, Nat.shiftRight_eq_div_pow, Nat.shiftLeft_eq, hu, hw, hk']
 refine Con.of (hP ▸ tblOk) (hP ▸ Tryz.func138) rfl rfl rfl rfl (by decide) rfl rfl (bdLB_bd _ rfl) (blks_bd rfl) ?_
 intro A g K hA hg hK
 obtain ⟨bin, sh, _, _, _, _, nn, _, _, _, _, _, _, _, _, _, _, _, sub⟩ := A
 have e3 : nn (Int.ofNat k') = true := nn_t hA k'
 have e4 : sh .shl .u32 (Int.ofNat x) (Int.ofNat k') = Int.ofNat u := (shlW hA (k := .u32) rfl x (s := k') (by show k' <= 32; omega)).trans (by rw [hu]; rfl)
 have e5 : bin .sub .i64 32 (Int.ofNat k) = Int.ofNat k' := (subI hA (a := 32) (b := k) (by omega) (by decide)).trans (by rw [hk'])
 have e6 : nn (Int.ofNat k) = true := nn_t hA k
 have e7 : sh .shr .u32 (Int.ofNat x) (Int.ofNat k) = Int.ofNat w := (shrI hA (k := .u32) (a := x) (b := k) (by show k <= 32; omega)).trans (by rw [hw])
 have e8 : bin .or .u32 (Int.ofNat w) (Int.ofNat u) = Int.ofNat r := (orW hA (k := .u32) rfl (a := w) (b := u) hwl hul).trans (by rw [hr2])
 cbv
 refine reg_M (hP ▸ tblOk) hA hg (hP ▸ mixed) rfl rfl fun mk _ => ?_
 cbv
 rw [e6]
 cbv
 rw [e7, e5]
 cbv
 rw [e3]
 cbv
 rw [e4]
 cbv
 rw [e8]
 exact hK _ _ _ rfl
theorem cRSize {P : Program} (hP : P = Tryz.prog) (id : Nat) (h : 1 <= id /\ id <= 4) (z : Nat) (hz : z = Sh.size id) : Con P 74 [.int .i64 (Int.ofNat id)] [] 0 [] (fun v _ _ => v = .int .i64 (Int.ofNat z)) := by
 refine Con.of (hP ▸ tblOk) (hP ▸ Tryz.func74) rfl rfl rfl rfl (by decide) rfl rfl (bdLB_bd _ rfl) (blks_bd rfl) ?_
 intro A g K hA hg hK
 obtain ⟨_, _, cmp⟩ := A
 have t1 : ∀ x, cmp .eql (Int.ofNat x) (Int.ofNat x) = true := fun x => eql_t hA (a := x) (b := x) rfl
 have f1 : ∀ x y, x ≠ y -> cmp .eql (Int.ofNat x) (Int.ofNat y) = false := fun x y h => eql_f hA (a := x) (b := y) h
 have c21 : cmp .eql (Int.ofNat 2) 1 = false := f1 2 1 (by decide)
 have c31 : cmp .eql (Int.ofNat 3) 1 = false := f1 3 1 (by decide)
 have c41 : cmp .eql (Int.ofNat 4) 1 = false := f1 4 1 (by decide)
 have c32 : cmp .eql (Int.ofNat 3) 2 = false := f1 3 2 (by decide)
 have c42 : cmp .eql (Int.ofNat 4) 2 = false := f1 4 2 (by decide)
 have c43 : cmp .eql (Int.ofNat 4) 3 = false := f1 4 3 (by decide)
 have c11 : cmp .eql (Int.ofNat 1) 1 = true := t1 1
 have c22 : cmp .eql (Int.ofNat 2) 2 = true := t1 2
 have c33 : cmp .eql (Int.ofNat 3) 3 = true := t1 3
 have c44 : cmp .eql (Int.ofNat 4) 4 = true := t1 4
 obtain rfl | rfl | rfl | rfl : id = 1 \/ id = 2 \/ id = 3 \/ id = 4 := by omega
 ·subst hz
  cbv
  rw [c11]
  cbv
  exact hK _ _ _ rfl
 ·subst hz
  cbv
  rw [c21]
  cbv
  rw [c22]
  cbv
  exact hK _ _ _ rfl
 ·subst hz
  cbv
  rw [c31]
  cbv
  rw [c32]
  cbv
  rw [c33]
  cbv
  exact hK _ _ _ rfl
 ·subst hz
  cbv
  rw [c41]
  cbv
  rw [c42]
  cbv
  rw [c43]
  cbv
  rw [c44]
  cbv
  exact hK _ _ _ rfl
theorem cRBlock {P : Program} (hP : P = Tryz.prog) (id : Nat) (h : 1 <= id /\ id <= 4) (z : Nat) (hz : z = Sh.blk id) : Con P 108 [.int .i64 (Int.ofNat id)] [] 0 [] (fun v _ _ => v = .int .i64 (Int.ofNat z)) := by
 refine Con.of (hP ▸ tblOk) (hP ▸ Tryz.func108) rfl rfl rfl rfl (by decide) rfl rfl (bdLB_bd _ rfl) (blks_bd rfl) ?_
 intro A g K hA hg hK
 obtain ⟨_, _, cmp⟩ := A
 have t1 : ∀ x, cmp .eql (Int.ofNat x) (Int.ofNat x) = true := fun x => eql_t hA (a := x) (b := x) rfl
 have f1 : ∀ x y, x ≠ y -> cmp .eql (Int.ofNat x) (Int.ofNat y) = false := fun x y h => eql_f hA (a := x) (b := y) h
 have c21 : cmp .eql (Int.ofNat 2) 1 = false := f1 2 1 (by decide)
 have c31 : cmp .eql (Int.ofNat 3) 1 = false := f1 3 1 (by decide)
 have c41 : cmp .eql (Int.ofNat 4) 1 = false := f1 4 1 (by decide)
 have c32 : cmp .eql (Int.ofNat 3) 2 = false := f1 3 2 (by decide)
 have c42 : cmp .eql (Int.ofNat 4) 2 = false := f1 4 2 (by decide)
 have c43 : cmp .eql (Int.ofNat 4) 3 = false := f1 4 3 (by decide)
 have c11 : cmp .eql (Int.ofNat 1) 1 = true := t1 1
 have c22 : cmp .eql (Int.ofNat 2) 2 = true := t1 2
 have c33 : cmp .eql (Int.ofNat 3) 3 = true := t1 3
 have c44 : cmp .eql (Int.ofNat 4) 4 = true := t1 4
 obtain rfl | rfl | rfl | rfl : id = 1 \/ id = 2 \/ id = 3 \/ id = 4 := by omega
 ·subst hz
  cbv
  rw [c11]
  cbv
  exact hK _ _ _ rfl
 ·subst hz
  cbv
  rw [c21]
  cbv
  rw [c22]
  cbv
  exact hK _ _ _ rfl
 ·subst hz
  cbv
  rw [c31]
  cbv
  rw [c32]
  cbv
  rw [c33]
  cbv
  exact hK _ _ _ rfl
 ·subst hz
  cbv
  rw [c41]
  cbv
  rw [c42]
  cbv
  rw [c43]
  cbv
  rw [c44]
  cbv
  exact hK _ _ _ rfl
theorem cK32 {P : Program} (hP : P = Tryz.prog) (kf : Nat -> Nat) (hkf : kf = fun j => Sh.K256.ks.getD j 0) : Con P 110 [] [] 0 [] (fun v L q => v = .slice 0 0 64 64 /\ L = [⟨0, lst .u32 (fun j => Int.ofNat (kf j)) 0 64, 58⟩] /\ q = 1) := by
 subst hkf
 refine Con.of (hP ▸ tblOk) (hP ▸ Tryz.func110) rfl rfl rfl rfl (by decide) rfl rfl (bdLB_bd _ rfl) (blks_bd rfl) ?_
 intro A g K hA hg hK
 cases A
 cbv
 exact hK _ _ _ ⟨rfl, rfl, rfl⟩
theorem cBegin32 {P : Program} (hP : P = Tryz.prog) (id : Nat) (h0 : Nat -> Nat) (hb : (id = 1 /\ soA h0 = Sh.i224) \/ (id = 2 /\ soA h0 = Sh.i256)) : Con P 109 [.int .i64 (Int.ofNat id)] [] 0 [] (fun v L q => v = .slice 0 0 8 8 /\ L = [⟨0, lst .u32 (fun j => Int.ofNat (h0 j)) 0 8, 58⟩] /\ q = 1) := by
 have fin : ∀ s, soA h0 = s -> lst .u32 (fun j => Int.ofNat (h0 j)) 0 8 = lst .u32 (fun j => Int.ofNat (f8A s j)) 0 8 := fun s hs => lst_congr fun j _ hj => by
  rw [soA_eq (hs.trans (soA_f8 s).symm) j (by omega)]
 refine Con.of (hP ▸ tblOk) (hP ▸ Tryz.func109) rfl rfl rfl rfl (by decide) rfl rfl (bdLB_bd _ rfl) (blks_bd rfl) ?_
 intro A g K hA hg hK
 obtain ⟨_, _, cmp⟩ := A
 rcases hb with ⟨rfl, hs⟩ | ⟨rfl, hs⟩
 ·have e1 : cmp .eql (Int.ofNat 1) 1 = true := eql_t hA (a := 1) (b := 1) rfl
  rw [fin _ hs] at hK
  cbv
  rw [e1]
  cbv
  exact hK _ _ _ ⟨rfl, rfl, rfl⟩
 ·have e1 : cmp .eql (Int.ofNat 2) 1 = false := eql_f hA (a := 2) (b := 1) (by decide)
  rw [fin _ hs] at hK
  cbv
  rw [e1]
  cbv
  exact hK _ _ _ ⟨rfl, rfl, rfl⟩
theorem set_reps (m x i : Nat) (h : i < m) : Vg.splice (by8 (List.replicate i x ++ List.replicate (m - i) 0)) i [.int .u8 (Int.ofNat x)] = by8 (List.replicate (i + 1) x ++ List.replicate (m - (i + 1)) 0) := by
 obtain ⟨j, hj⟩ : ∃ j, m - i = j + 1 := ⟨m - i - 1, by omega⟩
 rw [hj, show m - (i + 1) = j by omega, List.replicate_succ, by8_app]
 simp only [Vg.splice, List.length_cons, List.length_nil]
 rw [List.take_left' (by rw [by8_len, List.length_replicate]), show by8 (List.replicate i x) ++ by8 (0 :: List.replicate j 0) = (by8 (List.replicate i x) ++ [SV.int .u8 (Int.ofNat 0)]) ++ by8 (List.replicate j 0) by simp [by8], List.drop_left' (by rw [List.length_append, by8_len, List.length_replicate]; rfl), List.replicate_succ', by8_app, by8_app]
 rfl
theorem cSame {P : Program} (hP : P = Tryz.prog) (z x : Nat) (hx : x < 256) (hz : z <= 1000) (r : ByteArray) (hr : bl r = List.replicate z x) :
 Con P 75 [.int .i64 (Int.ofNat z), .int .u8 (Int.ofNat x)] [] 0 [] (fun v _ _ => v = .str r) := by
 have hU := bytesU8 hP
 obtain ⟨C, hC⟩ : ∃ C : Nat -> List SV, C = fun i => by8 (List.replicate i x ++ List.replicate (z - i) 0) := ⟨_, rfl⟩
 have bC : ∀ q i, bdLB q (C i) = true := fun q i => by rw [hC]; exact by8_bd q _
 have C0 : C 0 = List.replicate z (.int .u8 0) := by rw [hC]; simp [by8]
 have hrs : r.size = z := by rw [<- bl_len, hr, List.length_replicate]
 have hCz : ((C z).drop 0).take z = bts r := by
  rw [hC, List.drop_zero]
  show (by8 (List.replicate z x ++ List.replicate (z - z) 0)).take z = _
  rw [Nat.sub_self, List.replicate_zero, List.append_nil, List.take_of_length_le (by rw [by8_len, List.length_replicate]; exact Nat.le_refl z), bts_by8, hr]
 refine Con.of (hP ▸ tblOk) (hP ▸ Tryz.func75) rfl rfl rfl rfl (by decide) rfl rfl (bdLB_bd _ rfl) (blks_bd rfl) ?_
 intro A g K hA hg hK
 obtain ⟨bin, _, cmp, _, _, ix, _, _, _, _, _, _, _, _, _, off, _, _, _, spl⟩ := A
 have f0 : ∀ i, i < z -> ix (Int.ofNat i) z = some i := fun i h => ix_of hA h
 have f1 : ∀ i, off 0 i 1 = i := fun i => (off_of hA 0 i 1).trans (by omega)
 have f2 : ∀ i, i < z -> cmp .lss (Int.ofNat i) (Int.ofNat z) = true := fun i h => lss_t hA h
 have f3 : cmp .lss (Int.ofNat z) (Int.ofNat z) = false := lss_f hA (by omega)
 have f4 : ∀ i, i < z -> bin .add .i64 (Int.ofNat i) 1 = Int.ofNat (i + 1) := fun i h => add_of hA (by omega)
 have sC : ∀ i, i < z -> spl (C i) i [.int .u8 (Int.ofNat x)] = some (C (i + 1)) := fun i h => by
  rw [hC]
  refine (spl_of hA (by rw [by8_len, List.length_append, List.length_replicate, List.length_replicate]; omega) _).trans ?_
  rw [set_reps z x i h]
 clear hC hr
 cbv
 refine step_make (hP ▸ tblOk) hg rfl rfl (show tyT 143 = some _ from rfl) rfl (show tyT 5 = some _ from rfl) hU rfl rfl rfl (by omega) (by omega) ?_
 rw [<- C0]
 cbv
 refine loop_by Nat (fun i => i <= z) (fun i => z - i) (fun i => [(6, .int .i64 (Int.ofNat i))]) [0, 1, 5] (fun i => [(0, C i)]) 0 (Nat.zero_le _) ?_ ?_
 ·exact wkih (by repeat' (first | exact trivial | refine ⟨rfl, rfl, rfl, ?_⟩ | refine ⟨rfl, rfl, bC 1 0, ?_⟩))
 intro i hi
 by_cases hlt : i < z
 ·have g2 := sC i hlt
  cbv
  rw [f2 i hlt]
  cbv
  rw [f0 i hlt]
  cbv
  rw [f1 i, g2]
  cbv
  rw [f4 i hlt]
  refine ⟨i + 1, _root_.id, hlt, (by show z - (i + 1) < z - i; omega), ?_⟩
  exact wkih (by repeat' (first | exact trivial | refine ⟨rfl, rfl, rfl, ?_⟩ | refine ⟨rfl, rfl, bC 1 (i + 1), ?_⟩))
 ·obtain rfl : i = z := by omega
  cbv
  rw [f3]
  cbv
  refine step_string (hP ▸ tblOk) hg rfl rfl (show tyT 9 = some _ from rfl) rfl (show tyT 143 = some _ from rfl) rfl (hP ▸ Tryz.underlying5) rfl (show find _ 0 = some _ from rfl) hCz hrs ?_
  cbv
  exact hK _ _ _ rfl
theorem word4 {b0 b1 b2 b3 : Nat} (h1 : b1 < 256) (h2 : b2 < 256) (h3 : b3 < 256) : ((b0 * 16777216 ||| b1 * 65536) ||| b2 * 256) ||| b3 = ((b0 * 256 + b1) * 256 + b2) * 256 + b3 := by
 rw [show b0 * 16777216 ||| b1 * 65536 = (b0 * 256 + b1) * 65536 from by
  rw [show (16777216 : Nat) = 2 ^ 24 from rfl, or_add (s := 24) (by omega)]; omega]
 rw [show (b0 * 256 + b1) * 65536 ||| b2 * 256 = ((b0 * 256 + b1) * 256 + b2) * 256 from by
  rw [show (65536 : Nat) = 2 ^ 16 from rfl, or_add (s := 16) (by omega)]; omega]
 rw [show (256 : Nat) = 2 ^ 8 from rfl, or_add (s := 8) h3]
theorem word_four {b : List Nat} {i : Nat} (h : 4 * i + 4 <= b.length) : Sh.word ((b.drop (4 * i)).take 4) = ((b.getD (4 * i) 0 * 256 + b.getD (4 * i + 1) 0) * 256 + b.getD (4 * i + 2) 0) * 256 + b.getD (4 * i + 3) 0 := by
 have g : ∀ k, (b.drop (4 * i)).getD k 0 = b.getD (4 * i + k) 0 := fun k => by
  rw [List.getD_eq_getElem?_getD, List.getD_eq_getElem?_getD, List.getElem?_drop]
 have hl : ∀ k, k < 4 -> k < (b.drop (4 * i)).length := fun k hk => by rw [List.length_drop]; omega
 rw [Sh.word_take _ (hl 3 (by decide)), Sh.word_take _ (hl 2 (by decide)), Sh.word_take _ (hl 1 (by decide)), Sh.word_take _ (hl 0 (by decide)), g, g, g, g]
 simp [Sh.word]
set_option maxHeartbeats 2000000 in
theorem cWords32 {P : Program} (hP : P = Tryz.prog) {t : TypeId} (o c : Nat) (C : List SV) (b : List Nat) (hb : ∀ x ∈ b, x < 256) (hl : b.length = 64) (hC : (C.drop o).take 64 = by8 b) (bC : ∀ m, bdLB m C = true) (W : Nat -> Nat) (hW : W = Sh.wd Sh.K256 b) :
 Con P 137 [.slice 0 o 64 c] [⟨0, C, t⟩] 1 [] (fun v L q => v = .slice 1 0 64 64 /\ L = [⟨1, lst .u32 (fun j => Int.ofNat (W j)) 0 64, 58⟩] /\ q = 2) := by
 suffices raw : Con P 137 [.slice 0 o 64 c] [⟨0, C, t⟩] 1 [] (fun v L _ => v = .slice 1 0 64 64 /\ find L 1 = some ⟨1, lst .u32 (fun j => Int.ofNat (W j)) 0 64, 58⟩) from
  raw.weak fun v L q ⟨h1, h2⟩ => ⟨id, .slice 1 0 64 64, _, 2, by subst h1; exact weak_id ⟨rfl, rfl, trivial⟩ ⟨h2, rfl, lst_bd _ _ _ _ _, trivial⟩ rfl rfl, rfl, rfl, rfl⟩
 have hwd : ∀ j, j < 64 -> Sh.wd Sh.K256 b j < 4294967296 := fun j hj => Sh.wd_lt b hb (by rw [hl]; decide) (by decide) (by decide) hj
 obtain ⟨wA, hwA⟩ : ∃ f, f = swA b := ⟨_, rfl⟩
 have z0 : wA 0 = fun _ => 0 := by rw [hwA]; funext j; unfold swA; rw [if_neg (Nat.not_lt_zero j)]
 have zA1 : ∀ i v, v = Sh.wd Sh.K256 b i -> wA (i + 1) = fun j => if j = i then v else wA i j := fun i v hv => by
  rw [hwA]; funext j; unfold swA
  by_cases h : j = i
  ·rw [if_pos h, if_pos (by omega), hv, h]
  ·rw [if_neg h]
   by_cases h2 : j < i
   ·rw [if_pos h2, if_pos (by omega)]
   ·rw [if_neg h2, if_neg (by omega)]
 have zAg : ∀ i j, j < i -> wA i j = Sh.wd Sh.K256 b j := fun i j h => by rw [hwA]; unfold swA; rw [if_pos h]
 have hend : lst .u32 (fun j => Int.ofNat (wA 64 j)) 0 64 = lst .u32 (fun j => Int.ofNat (W j)) 0 64 := lst_congr fun j _ hj => by rw [zAg 64 j (by omega), hW]
 have hU32 : (P.info? 58).map (·.bytes) = some 4 := by subst hP; kernel_rfl
 clear hwA
 refine Con.of (hP ▸ tblOk) (hP ▸ Tryz.func137) rfl rfl rfl rfl (by decide) rfl rfl ⟨blt_lt rfl, trivial⟩ (by simpa [bdL, bd] using bdLB_bd _ (bC 1)) ?_
 intro A g K hA hg hK
 obtain ⟨bin, sh, cmp, _, cvt, ix, _, _, _, _, _, _, _, _, _, off, get, _, sub⟩ := A
 have f1 : ∀ i, i < 16 -> cmp .lss (Int.ofNat i) 16 = true := fun i h => lss_t hA (b := 16) h
 have f1f : cmp .lss (Int.ofNat 16) 16 = false := lss_f hA (a := 16) (b := 16) (by omega)
 have f3 : ∀ i, i < 64 -> cmp .lss (Int.ofNat i) 64 = true := fun i h => lss_t hA (b := 64) h
 have f3f : cmp .lss (Int.ofNat 64) 64 = false := lss_f hA (a := 64) (b := 64) (by omega)
 have f4 : ∀ i, i < 200 -> bin .add .i64 (Int.ofNat i) 1 = Int.ofNat (i + 1) := fun i h => add_of hA (by omega)
 have f5 : ∀ i, i < 64 -> ix (Int.ofNat i) 64 = some i := fun i h => ix_of hA h
 have f6 : ∀ i, off 0 i 1 = i := fun i => (off_of hA 0 i 1).trans (by omega)
 have f7 := fun (f : Nat -> Nat) (k : Nat) (h : k < 64) => getW hA .u32 (n := 64) f h
 have f8 := fun (f g : Nat -> Nat) (k v : Nat) (h : k < 64) (e : g = fun j => if j = k then v else f j) => splW hA .u32 (n := 64) f g h e
 have f9 : ∀ j, j < 64 -> ix (Int.ofNat j) 64 = some j := fun i h => ix_of hA h
 have f10 : ∀ j, off o j 1 = o + j := fun j => (off_of hA o j 1).trans (by omega)
 have f11 : ∀ j, j < 64 -> get C (o + j) = some (.int .u8 (Int.ofNat (b.getD j 0))) := fun j h => (get_of hA _ _).trans (byA_get hC hl h)
 simp only [lst, Nat.reduceAdd] at f7 f8 hend
 cbv
 refine step_make (hP ▸ tblOk) hg rfl rfl (show tyT 26 = some _ from rfl) rfl (show tyT 58 = some _ from rfl) hU32 rfl (m := 64) rfl rfl (by decide) (by decide) ?_
 cbv
 refine loop_by (Nat × (Nat -> Nat)) (fun s => s.1 <= 16 /\ s.2 = wA s.1) (fun s => 16 - s.1) (fun s => [(4, .int .i64 (Int.ofNat s.1))]) [0, 2, 3] (fun s => [(1, lst .u32 (fun j => Int.ofNat (s.2 j)) 0 64)]) (0, fun _ => 0) ⟨Nat.zero_le _, z0.symm⟩ ?_ ?_
 ·exact wkih (by repeat' (first | exact trivial | refine ⟨rfl, rfl, rfl, ?_⟩ | refine ⟨rfl, rfl, bC 2, ?_⟩))
 rintro ⟨i, w⟩ ⟨hi, hw⟩
 change i <= 16 at hi
 change w = wA i at hw
 subst hw
 by_cases h16 : i < 16
 ·obtain ⟨j0, hj0⟩ : ∃ x, x = 4 * i := ⟨_, rfl⟩
  obtain ⟨j1, hj1⟩ : ∃ x, x = j0 + 1 := ⟨_, rfl⟩
  obtain ⟨j2, hj2⟩ : ∃ x, x = j0 + 2 := ⟨_, rfl⟩
  obtain ⟨j3, hj3⟩ : ∃ x, x = j0 + 3 := ⟨_, rfl⟩
  obtain ⟨y0, hy0⟩ : ∃ y, y = b.getD j0 0 := ⟨_, rfl⟩
  obtain ⟨y1, hy1⟩ : ∃ y, y = b.getD j1 0 := ⟨_, rfl⟩
  obtain ⟨y2, hy2⟩ : ∃ y, y = b.getD j2 0 := ⟨_, rfl⟩
  obtain ⟨y3, hy3⟩ : ∃ y, y = b.getD j3 0 := ⟨_, rfl⟩
  have l0 : y0 < 256 := by rw [hy0]; exact biteA hb j0
  have l1 : y1 < 256 := by rw [hy1]; exact biteA hb j1
  have l2 : y2 < 256 := by rw [hy2]; exact biteA hb j2
  have l3 : y3 < 256 := by rw [hy3]; exact biteA hb j3
  obtain ⟨s0, hs0⟩ : ∃ x, x = y0 * 16777216 := ⟨_, rfl⟩
  obtain ⟨s1, hs1⟩ : ∃ x, x = y1 * 65536 := ⟨_, rfl⟩
  obtain ⟨s2, hs2⟩ : ∃ x, x = y2 * 256 := ⟨_, rfl⟩
  obtain ⟨u1, hu1⟩ : ∃ x, x = s0 ||| s1 := ⟨_, rfl⟩
  obtain ⟨u2, hu2⟩ : ∃ x, x = u1 ||| s2 := ⟨_, rfl⟩
  obtain ⟨v, hv⟩ : ∃ x, x = u2 ||| y3 := ⟨_, rfl⟩
  have u1l : u1 < 4294967296 := by rw [hu1]; exact Nat.or_lt_two_pow (n := 32) (by omega) (by omega)
  have u2l : u2 < 4294967296 := by rw [hu2]; exact Nat.or_lt_two_pow (n := 32) u1l (by omega)
  have hvw : v = Sh.wd Sh.K256 b i := by
   rw [Sh.wd_lo (K := Sh.K256) b h16 (by decide), hv, hu2, hu1, hs0, hs1, hs2, word4 l1 l2 l3]
   have := word_four (b := b) (i := i) (by omega)
   rw [<- hj0, <- hj1, <- hj2, <- hj3, <- hy0, <- hy1, <- hy2, <- hy3] at this
   rw [<- this, hj0]; rfl
  have g0 : bin .mul .i64 4 (Int.ofNat i) = Int.ofNat j0 := (mulI hA (a := 4) (b := i) (by omega)).trans (by rw [hj0])
  have g1 : bin .add .i64 (Int.ofNat j0) 1 = Int.ofNat j1 := (addI hA (a := j0) (b := 1) (by omega)).trans (by rw [hj1])
  have g2 : bin .add .i64 (Int.ofNat j0) 2 = Int.ofNat j2 := (addI hA (a := j0) (b := 2) (by omega)).trans (by rw [hj2])
  have g3 : bin .add .i64 (Int.ofNat j0) 3 = Int.ofNat j3 := (addI hA (a := j0) (b := 3) (by omega)).trans (by rw [hj3])
  have gb : ∀ y, y < 256 -> cvt .u32 (Int.ofNat y) = Int.ofNat y := fun y h => cvtI hA (fun h => by cases h) (fun _ => by show y < 4294967296; omega)
  have gs0 : sh .shl .u32 (Int.ofNat y0) 24 = Int.ofNat s0 := (shlW hA (k := .u32) rfl y0 (s := 24) (by decide)).trans (congrArg Int.ofNat (by rw [hs0]; show y0 * 16777216 % 4294967296 = _; omega))
  have gs1 : sh .shl .u32 (Int.ofNat y1) 16 = Int.ofNat s1 := (shlW hA (k := .u32) rfl y1 (s := 16) (by decide)).trans (congrArg Int.ofNat (by rw [hs1]; show y1 * 65536 % 4294967296 = _; omega))
  have gs2 : sh .shl .u32 (Int.ofNat y2) 8 = Int.ofNat s2 := (shlW hA (k := .u32) rfl y2 (s := 8) (by decide)).trans (congrArg Int.ofNat (by rw [hs2]; show y2 * 256 % 4294967296 = _; omega))
  have go1 : bin .or .u32 (Int.ofNat s0) (Int.ofNat s1) = Int.ofNat u1 := (orW hA (k := .u32) rfl (a := s0) (b := s1) (by show s0 < 4294967296; omega) (by show s1 < 4294967296; omega)).trans (by rw [hu1])
  have go2 : bin .or .u32 (Int.ofNat u1) (Int.ofNat s2) = Int.ofNat u2 := (orW hA (k := .u32) rfl (a := u1) (b := s2) u1l (by show s2 < 4294967296; omega)).trans (by rw [hu2])
  have go3 : bin .or .u32 (Int.ofNat u2) (Int.ofNat y3) = Int.ofNat v := (orW hA (k := .u32) rfl (a := u2) (b := y3) u2l (by show y3 < 4294967296; omega)).trans (by rw [hv])
  have c0 := f11 j0 (by omega)
  have c1 := f11 j1 (by omega)
  have c2 := f11 j2 (by omega)
  have c3 := f11 j3 (by omega)
  rw [<- hy0] at c0
  rw [<- hy1] at c1
  rw [<- hy2] at c2
  rw [<- hy3] at c3
  have hwn := zA1 i v hvw
  obtain ⟨wn, hwn2⟩ : ∃ wn, wn = wA (i + 1) := ⟨_, rfl⟩
  rw [<- hwn2] at hwn
  cbv
  rw [f1 i h16]
  cbv
  refine reg_M (hP ▸ tblOk) hA hg (hP ▸ mixed) rfl rfl fun mk _ => ?_
  cbv
  rw [g0]
  cbv
  rw [f9 j0 (by omega)]
  cbv
  rw [f10 j0, c0]
  cbv
  rw [gb y0 l0]
  cbv
  rw [gs0]
  cbv
  rw [g0]
  cbv
  rw [g1]
  cbv
  rw [f9 j1 (by omega)]
  cbv
  rw [f10 j1, c1]
  cbv
  rw [gb y1 l1]
  cbv
  rw [gs1]
  cbv
  rw [go1]
  cbv
  rw [g0]
  cbv
  rw [g2]
  cbv
  rw [f9 j2 (by omega)]
  cbv
  rw [f10 j2, c2]
  cbv
  rw [gb y2 l2]
  cbv
  rw [gs2]
  cbv
  rw [go2]
  cbv
  rw [g0]
  cbv
  rw [g3]
  cbv
  rw [f9 j3 (by omega)]
  cbv
  rw [f10 j3, c3]
  cbv
  rw [gb y3 l3]
  cbv
  rw [go3]
  cbv
  rw [f5 i (by omega)]
  cbv
  rw [f6 i, f8 (wA i) wn i v (by omega) hwn]
  cbv
  rw [f4 i (by omega)]
  refine ⟨(i + 1, wn), id, ⟨h16, hwn2⟩, (by show 16 - (i + 1) < 16 - i; omega), ?_⟩
  exact wkih (by repeat' (first | exact trivial | refine ⟨rfl, rfl, rfl, ?_⟩ | refine ⟨rfl, rfl, bC 2, ?_⟩))
 ·obtain rfl : i = 16 := by omega
  obtain ⟨w16, hw16⟩ : ∃ w, w = wA 16 := ⟨_, rfl⟩
  rw [<- hw16]
  cbv
  rw [f1f]
  cbv
  refine loop_by (Nat × (Nat -> Nat)) (fun s => 16 <= s.1 /\ s.1 <= 64 /\ s.2 = wA s.1) (fun s => 64 - s.1) (fun s => [(5, .int .i64 (Int.ofNat s.1))]) [0, 2, 3] (fun s => [(1, lst .u32 (fun j => Int.ofNat (s.2 j)) 0 64)]) (16, w16) ⟨Nat.le_refl _, by show 16 <= 64; decide, hw16⟩ ?_ ?_
  ·exact wkih (by repeat' (first | exact trivial | refine ⟨rfl, rfl, rfl, ?_⟩ | refine ⟨rfl, rfl, bC 2, ?_⟩))
  rintro ⟨i, w⟩ ⟨h16, hi, hw⟩
  change 16 <= i at h16
  change i <= 64 at hi
  change w = wA i at hw
  subst hw
  by_cases hlt : i < 64
  ·obtain ⟨i16, hi16⟩ : ∃ x, x = i - 16 := ⟨_, rfl⟩
   obtain ⟨i15, hi15⟩ : ∃ x, x = i - 15 := ⟨_, rfl⟩
   obtain ⟨i7, hi7⟩ : ∃ x, x = i - 7 := ⟨_, rfl⟩
   obtain ⟨i2, hi2⟩ : ∃ x, x = i - 2 := ⟨_, rfl⟩
   obtain ⟨a, ha⟩ : ∃ x, x = Sh.wd Sh.K256 b i15 := ⟨_, rfl⟩
   obtain ⟨c, hc⟩ : ∃ x, x = Sh.wd Sh.K256 b i2 := ⟨_, rfl⟩
   obtain ⟨d, hd⟩ : ∃ x, x = Sh.wd Sh.K256 b i16 := ⟨_, rfl⟩
   obtain ⟨e, he⟩ : ∃ x, x = Sh.wd Sh.K256 b i7 := ⟨_, rfl⟩
   have hal : a < 4294967296 := by rw [ha]; exact hwd _ (by omega)
   have hcl : c < 4294967296 := by rw [hc]; exact hwd _ (by omega)
   have hdl : d < 4294967296 := by rw [hd]; exact hwd _ (by omega)
   have hel : e < 4294967296 := by rw [he]; exact hwd _ (by omega)
   have hrl : ∀ x k, x < 4294967296 -> Sh.rotr 32 x k < 4294967296 := fun x k hx => by
    unfold Sh.rotr
    exact Nat.or_lt_two_pow (n := 32) (by rw [Nat.shiftRight_eq_div_pow]; exact Nat.lt_of_le_of_lt (Nat.div_le_self _ _) hx) (Nat.mod_lt _ (by decide))
   obtain ⟨a1, ha1⟩ : ∃ x, x = Sh.rotr 32 a 7 := ⟨_, rfl⟩
   obtain ⟨a2, ha2⟩ : ∃ x, x = Sh.rotr 32 a 18 := ⟨_, rfl⟩
   obtain ⟨c1, hc1⟩ : ∃ x, x = Sh.rotr 32 c 17 := ⟨_, rfl⟩
   obtain ⟨c2, hc2⟩ : ∃ x, x = Sh.rotr 32 c 19 := ⟨_, rfl⟩
   have ha1l : a1 < 4294967296 := by rw [ha1]; exact hrl _ _ hal
   have ha2l : a2 < 4294967296 := by rw [ha2]; exact hrl _ _ hal
   have hc1l : c1 < 4294967296 := by rw [hc1]; exact hrl _ _ hcl
   have hc2l : c2 < 4294967296 := by rw [hc2]; exact hrl _ _ hcl
   obtain ⟨a3, ha3⟩ : ∃ x, x = a / 2 ^ 3 := ⟨_, rfl⟩
   obtain ⟨c3, hc3⟩ : ∃ x, x = c / 2 ^ 10 := ⟨_, rfl⟩
   have ha3l : a3 < 4294967296 := by rw [ha3]; exact Nat.lt_of_le_of_lt (Nat.div_le_self _ _) hal
   have hc3l : c3 < 4294967296 := by rw [hc3]; exact Nat.lt_of_le_of_lt (Nat.div_le_self _ _) hcl
   obtain ⟨a4, ha4⟩ : ∃ x, x = a1 ^^^ a2 := ⟨_, rfl⟩
   obtain ⟨c4, hc4⟩ : ∃ x, x = c1 ^^^ c2 := ⟨_, rfl⟩
   have ha4l : a4 < 4294967296 := by rw [ha4]; exact Nat.xor_lt_two_pow (n := 32) ha1l ha2l
   have hc4l : c4 < 4294967296 := by rw [hc4]; exact Nat.xor_lt_two_pow (n := 32) hc1l hc2l
   obtain ⟨a5, ha5⟩ : ∃ x, x = a4 ^^^ a3 := ⟨_, rfl⟩
   obtain ⟨c5, hc5⟩ : ∃ x, x = c4 ^^^ c3 := ⟨_, rfl⟩
   have ha5l : a5 < 4294967296 := by rw [ha5]; exact Nat.xor_lt_two_pow (n := 32) ha4l ha3l
   have hc5l : c5 < 4294967296 := by rw [hc5]; exact Nat.xor_lt_two_pow (n := 32) hc4l hc3l
   obtain ⟨u1, hu1⟩ : ∃ x, x = (d + a5) % 4294967296 := ⟨_, rfl⟩
   obtain ⟨u2, hu2⟩ : ∃ x, x = (u1 + e) % 4294967296 := ⟨_, rfl⟩
   obtain ⟨u3, hu3⟩ : ∃ x, x = (u2 + c5) % 4294967296 := ⟨_, rfl⟩
   have hv : u3 = Sh.wd Sh.K256 b i := by
    rw [Sh.wd_hi (K := Sh.K256) b h16 (show i < Sh.K256.ks.length from hlt), <- hi16, <- hi15, <- hi7, <- hi2, <- ha, <- hc, <- hd, <- he]
    have e1 : Sh.small Sh.K256.wb Sh.K256.s0 a = a5 := by
     rw [ha5, ha4, ha3, ha1, ha2, <- Nat.shiftRight_eq_div_pow]; rfl
    have e2 : Sh.small Sh.K256.wb Sh.K256.s1 c = c5 := by
     rw [hc5, hc4, hc3, hc1, hc2, <- Nat.shiftRight_eq_div_pow]; rfl
    rw [e1, e2, hu3, hu2, hu1]
    show _ = _ % 4294967296
    omega
   have hR1 := cRot32 hP a 7 hal (by decide) a1 ha1
   have hR2 := cRot32 hP a 18 hal (by decide) a2 ha2
   have hR3 := cRot32 hP c 17 hcl (by decide) c1 hc1
   have hR4 := cRot32 hP c 19 hcl (by decide) c2 hc2
   have g15 := f7 (wA i) i15 (by omega)
   have g2 := f7 (wA i) i2 (by omega)
   have g16 := f7 (wA i) i16 (by omega)
   have g7 := f7 (wA i) i7 (by omega)
   rw [zAg i i15 (by omega), <- ha] at g15
   rw [zAg i i2 (by omega), <- hc] at g2
   rw [zAg i i16 (by omega), <- hd] at g16
   rw [zAg i i7 (by omega), <- he] at g7
   have q15 : bin .sub .i64 (Int.ofNat i) 15 = Int.ofNat i15 := (subI hA (a := i) (b := 15) (by omega) (by omega)).trans (by rw [hi15])
   have q2 : bin .sub .i64 (Int.ofNat i) 2 = Int.ofNat i2 := (subI hA (a := i) (b := 2) (by omega) (by omega)).trans (by rw [hi2])
   have q16 : bin .sub .i64 (Int.ofNat i) 16 = Int.ofNat i16 := (subI hA (a := i) (b := 16) (by omega) (by omega)).trans (by rw [hi16])
   have q7 : bin .sub .i64 (Int.ofNat i) 7 = Int.ofNat i7 := (subI hA (a := i) (b := 7) (by omega) (by omega)).trans (by rw [hi7])
   have r1 : bin .xor .u32 (Int.ofNat a1) (Int.ofNat a2) = Int.ofNat a4 := (xorW hA (k := .u32) rfl (a := a1) (b := a2) ha1l ha2l).trans (by rw [ha4])
   have r2 : sh .shr .u32 (Int.ofNat a) 3 = Int.ofNat a3 := (shrI hA (k := .u32) (a := a) (b := 3) (by decide)).trans (by rw [ha3])
   have r3 : bin .xor .u32 (Int.ofNat a4) (Int.ofNat a3) = Int.ofNat a5 := (xorW hA (k := .u32) rfl (a := a4) (b := a3) ha4l ha3l).trans (by rw [ha5])
   have r4 : bin .xor .u32 (Int.ofNat c1) (Int.ofNat c2) = Int.ofNat c4 := (xorW hA (k := .u32) rfl (a := c1) (b := c2) hc1l hc2l).trans (by rw [hc4])
   have r5 : sh .shr .u32 (Int.ofNat c) 10 = Int.ofNat c3 := (shrI hA (k := .u32) (a := c) (b := 10) (by decide)).trans (by rw [hc3])
   have r6 : bin .xor .u32 (Int.ofNat c4) (Int.ofNat c3) = Int.ofNat c5 := (xorW hA (k := .u32) rfl (a := c4) (b := c3) hc4l hc3l).trans (by rw [hc5])
   have r7 : bin .add .u32 (Int.ofNat d) (Int.ofNat a5) = Int.ofNat u1 := (addW hA (k := .u32) rfl d a5).trans (by rw [hu1]; rfl)
   have r8 : bin .add .u32 (Int.ofNat u1) (Int.ofNat e) = Int.ofNat u2 := (addW hA (k := .u32) rfl u1 e).trans (by rw [hu2]; rfl)
   have r9 : bin .add .u32 (Int.ofNat u2) (Int.ofNat c5) = Int.ofNat u3 := (addW hA (k := .u32) rfl u2 c5).trans (by rw [hu3]; rfl)
   have hwn := zA1 i u3 hv
   obtain ⟨wn, hwn2⟩ : ∃ wn, wn = wA (i + 1) := ⟨_, rfl⟩
   rw [<- hwn2] at hwn
   cbv
   rw [f3 i hlt]
   cbv
   refine reg_M (hP ▸ tblOk) hA hg (hP ▸ mixed) rfl rfl fun mk _ => ?_
   cbv
   rw [q15]
   cbv
   rw [f5 i15 (by omega)]
   cbv
   rw [f6 i15, g15]
   cbv
   rw [q2]
   cbv
   rw [f5 i2 (by omega)]
   cbv
   rw [f6 i2, g2]
   cbv
   refine reg_M (hP ▸ tblOk) hA hg (hP ▸ mixed) rfl rfl fun mk _ => ?_
   cbv
   rw [q16]
   cbv
   rw [f5 i16 (by omega)]
   cbv
   rw [f6 i16, g16]
   cbv
   refine stepD (en_val rfl hg rfl rfl hR1 (fun _ _ _ h => h) trivial) ?_
   cbv
   refine stepD (en_val rfl hg rfl rfl hR2 (fun _ _ _ h => h) trivial) ?_
   cbv
   rw [r1]
   cbv
   rw [r2]
   cbv
   rw [r3]
   cbv
   rw [r7]
   cbv
   rw [q7]
   cbv
   rw [f5 i7 (by omega)]
   cbv
   rw [f6 i7, g7]
   cbv
   rw [r8]
   cbv
   refine stepD (en_val rfl hg rfl rfl hR3 (fun _ _ _ h => h) trivial) ?_
   cbv
   refine stepD (en_val rfl hg rfl rfl hR4 (fun _ _ _ h => h) trivial) ?_
   cbv
   rw [r4]
   cbv
   rw [r5]
   cbv
   rw [r6]
   cbv
   rw [r9]
   cbv
   rw [f5 i (by omega)]
   cbv
   rw [f6 i, f8 (wA i) wn i u3 (by omega) hwn]
   cbv
   rw [f4 i (by omega)]
   refine ⟨(i + 1, wn), id, ⟨by show 16 <= i + 1; omega, hlt, hwn2⟩, (by show 64 - (i + 1) < 64 - i; omega), ?_⟩
   exact wkih (by repeat' (first | exact trivial | refine ⟨rfl, rfl, rfl, ?_⟩ | refine ⟨rfl, rfl, bC 2, ?_⟩))
  ·obtain rfl : i = 64 := by omega
   obtain ⟨wr, hwr⟩ : ∃ w, w = wA 64 := ⟨_, rfl⟩
   rw [<- hwr] at hend ⊢
   cbv
   rw [f3f]
   cbv
   rw [hend]
   exact hK _ _ _ ⟨rfl, rfl⟩
theorem xor_ones {x : Nat} (h : x < 4294967296) : x ^^^ 4294967295 = 4294967296 - 1 - x := by
 apply Nat.eq_of_testBit_eq
 intro i
 rw [Nat.testBit_xor, show (4294967295 : Nat) = 2 ^ 32 - 1 from rfl, Nat.testBit_two_pow_sub_one, show 4294967296 - 1 - x = 2 ^ 32 - (x + 1) by omega, Nat.testBit_two_pow_sub_succ (show x < 2 ^ 32 from h)]
 by_cases hi : i < 32
 ·simp [hi]
 ·have : x.testBit i = false := Nat.testBit_lt_two_pow (Nat.lt_of_lt_of_le h (Nat.pow_le_pow_right (n := 2) (by decide) (show 32 <= i by omega)))
  simp [hi, this]
theorem lst_tl_get {f : Nat -> Nat} {tl : List SV} {i : Nat} (h : i < 8) : (lst .u32 (fun j => Int.ofNat (f j)) 0 8 ++ tl)[i]? = some (.int .u32 (Int.ofNat (f i))) := by
 rw [List.getElem?_append_left (by rw [lst_length]; exact h), lst_get _ _ h, Nat.zero_add]
theorem lst_tl_set {f g : Nat -> Nat} {tl : List SV} {i v : Nat} (h : i < 8) (hg : g = fun j => if j = i then v else f j) : Vg.splice (lst .u32 (fun j => Int.ofNat (f j)) 0 8 ++ tl) i [.int .u32 (Int.ofNat v)] = lst .u32 (fun j => Int.ofNat (g j)) 0 8 ++ tl := by
 rw [<- lst_set (K := .u32) (f := fun j => Int.ofNat (f j)) (g := fun j => Int.ofNat (g j)) (v := Int.ofNat v) (k := i) (s := 0) (n := 8) h (by rw [hg]; simp) (fun j _ _ h3 => by rw [hg]; simp only; rw [if_neg (by omega)])]
 have hl := lst_length .u32 (fun j => Int.ofNat (f j)) 0 8
 simp only [Vg.splice, List.length_cons, List.length_nil]
 rw [List.take_append_of_le_length (by omega), List.drop_append_of_le_length (by omega)]
 simp only [List.append_assoc]
set_option maxHeartbeats 4000000 in
theorem cBlock32 {P : Program} (hP : P = Tryz.prog) {t : TypeId} (hf hf' kf : Nat -> Nat) (hkf : kf = fun j => Sh.K256.ks.getD j 0) (o c : Nat) (C : List SV) (b : List Nat) (hb : ∀ x ∈ b, x < 256) (hl : b.length = 64) (hC : (C.drop o).take 64 = by8 b) (bC : ∀ m, bdLB m C = true) (h8 : Sh.ok8 32 (soA hf)) (hS : soA hf' = Sh.turn Sh.K256 (soA hf) b) :
 Con P 112 [.slice 0 0 8 8, .slice 1 o 64 c, .slice 2 0 64 64] [⟨0, lst .u32 (fun j => Int.ofNat (hf j)) 0 8, 58⟩, ⟨1, C, t⟩, ⟨2, lst .u32 (fun j => Int.ofNat (kf j)) 0 64, 58⟩] 3 [0] (fun v L q => v = .tup [] /\ L = [⟨0, lst .u32 (fun j => Int.ofNat (hf' j)) 0 8, 58⟩] /\ q = 3) := by
 suffices raw : Con P 112 [.slice 0 0 8 8, .slice 1 o 64 c, .slice 2 0 64 64] [⟨0, lst .u32 (fun j => Int.ofNat (hf j)) 0 8, 58⟩, ⟨1, C, t⟩, ⟨2, lst .u32 (fun j => Int.ofNat (kf j)) 0 64, 58⟩] 3 [0] (fun v L _ => v = .tup [] /\ find L 0 = some ⟨0, lst .u32 (fun j => Int.ofNat (hf' j)) 0 8, 58⟩) from
  raw.weak fun v L q ⟨h1, h2⟩ => ⟨id, .tup [], _, 3, by subst h1; exact weak_id ⟨rfl, rfl, trivial⟩ ⟨h2, rfl, lst_bd _ _ _ _ _, trivial⟩ rfl rfl, rfl, rfl, rfl⟩
 obtain ⟨W, hW⟩ : ∃ W, W = Sh.wd Sh.K256 b := ⟨_, rfl⟩
 have hSch := cWords32 hP (t := t) o c C b hb hl hC bC W hW
 have hwl : ∀ j, j < 64 -> W j < 4294967296 := fun j hj => by rw [hW]; exact Sh.wd_lt b hb (by rw [hl]; decide) (by decide) (by decide) hj
 have hU32 : (P.info? 58).map (·.bytes) = some 4 := by subst hP; kernel_rfl
 refine Con.of (hP ▸ tblOk) (hP ▸ Tryz.func112) rfl rfl rfl rfl (by decide) rfl rfl ⟨blt_lt rfl, blt_lt rfl, blt_lt rfl, trivial⟩ (blks_bd (by simp only [List.all_cons, List.all_nil, bC 3, lst_bd]; rfl)) ?_
 intro A g K hA hg hK
 obtain ⟨bin, _, cmp, _, _, ix, _, _, _, _, _, _, _, _, _, off, get, _, _, spl⟩ := A
 have f1 : ∀ i, i < 64 -> cmp .lss (Int.ofNat i) 64 = true := fun i h => lss_t hA (b := 64) h
 have f1f : cmp .lss (Int.ofNat 64) 64 = false := lss_f hA (a := 64) (b := 64) (by omega)
 have f2 : ∀ i, i < 8 -> cmp .lss (Int.ofNat i) 8 = true := fun i h => lss_t hA (b := 8) h
 have f2f : cmp .lss (Int.ofNat 8) 8 = false := lss_f hA (a := 8) (b := 8) (by omega)
 have f3 : ∀ i, i < 200 -> bin .add .i64 (Int.ofNat i) 1 = Int.ofNat (i + 1) := fun i h => add_of hA (by omega)
 have f4 : ∀ i, i < 64 -> ix (Int.ofNat i) 64 = some i := fun i h => ix_of hA h
 have f5 : ∀ i, i < 8 -> ix (Int.ofNat i) 8 = some i := fun i h => ix_of hA h
 have f6 : ∀ i, off 0 i 1 = i := fun i => (off_of hA 0 i 1).trans (by omega)
 have f7 := fun (f : Nat -> Nat) (k : Nat) (h : k < 64) => getW hA .u32 (n := 64) f h
 have f7h := fun (f : Nat -> Nat) (k : Nat) (h : k < 8) => getW hA .u32 (n := 8) f h
 have f8h := fun (f g : Nat -> Nat) (k v : Nat) (h : k < 8) (e : g = fun j => if j = k then v else f j) => splW hA .u32 (n := 8) f g h e
 simp only [lst, Nat.reduceAdd] at f7 f7h f8h
 have i0 : ix 0 8 = some 0 := f5 0 (by decide)
 have i1 : ix 1 8 = some 1 := f5 1 (by decide)
 have i2 : ix 2 8 = some 2 := f5 2 (by decide)
 have i3 : ix 3 8 = some 3 := f5 3 (by decide)
 have i4 : ix 4 8 = some 4 := f5 4 (by decide)
 have i5 : ix 5 8 = some 5 := f5 5 (by decide)
 have i6 : ix 6 8 = some 6 := f5 6 (by decide)
 have i7 : ix 7 8 = some 7 := f5 7 (by decide)
 have fx : ∀ a b, a < 4294967296 -> b < 4294967296 -> bin .xor .u32 (Int.ofNat a) (Int.ofNat b) = Int.ofNat (a ^^^ b) := fun a b h1 h2 => xorW hA (k := .u32) rfl h1 h2
 have fa : ∀ a b, a < 4294967296 -> b < 4294967296 -> bin .and .u32 (Int.ofNat a) (Int.ofNat b) = Int.ofNat (a &&& b) := fun a b h1 h2 => andW hA (k := .u32) rfl h1 h2
 have fp : ∀ a b, bin .add .u32 (Int.ofNat a) (Int.ofNat b) = Int.ofNat ((a + b) % 4294967296) := fun a b => addW hA (k := .u32) rfl a b
 have lx : ∀ a b, a < 4294967296 -> b < 4294967296 -> a ^^^ b < 4294967296 := fun a b h1 h2 => Nat.xor_lt_two_pow (n := 32) h1 h2
 have la : ∀ a b, b < 4294967296 -> a &&& b < 4294967296 := fun a b h2 => Nat.and_lt_two_pow (n := 32) a h2
 have lr : ∀ x k, x < 4294967296 -> Sh.rotr 32 x k < 4294967296 := fun x k hx => by
  unfold Sh.rotr
  exact Nat.or_lt_two_pow (n := 32) (by rw [Nat.shiftRight_eq_div_pow]; exact Nat.lt_of_le_of_lt (Nat.div_le_self _ _) hx) (Nat.mod_lt _ (by decide))
 cbv
 refine call_gen rfl hg rfl rfl hSch (fun l => l + 1) rfl ⟨by rw [renL_cl C (bC 0)]; rfl, trivial⟩ rfl rfl rfl ?_
 rintro _ _ _ ⟨rfl, rfl, rfl⟩ _
 refine ⟨rfl, ?_⟩
 cbv
 refine step_buildSlice0 (hP ▸ tblOk) hg rfl rfl (show tyT 26 = some _ from rfl) rfl ?_
 cbv
 refine step_app_own (hP ▸ tblOk) hg rfl rfl (show tyT 26 = some _ from rfl) rfl (show tyT 58 = some _ from rfl) hU32 (by decide) (show ev _ _ = some (.slice 4 0 0 0) from rfl) (show find _ 4 = some _ from rfl) rfl (Nat.le_refl 0) rfl (by decide) (show ev _ _ = some (.slice 0 0 8 8) from rfl) (show find _ 0 = some _ from rfl) (by exact Nat.le_refl 8) rfl (by decide) (by decide) ?_
 intro c' tl X M hX hM hMc hc' hXl hXb
 obtain rfl : M = 8 := hM
 have btl : ∀ q, bdLB q tl = true := fun q => by
  have h1 := hXb q rfl (by rfl) rfl
  have h2 : X.drop 8 = tl := by rw [hX]; rfl
  rw [<- h2]; exact bdLB_drop h1
 obtain ⟨VC, hVC⟩ : ∃ VC : (Nat -> Nat) -> List SV, VC = fun f => lst .u32 (fun j => Int.ofNat (f j)) 0 8 ++ tl := ⟨_, rfl⟩
 have bV : ∀ f q, bdLB q (VC f) = true := fun f q => by rw [hVC]; exact bdLB_append (lst_bd _ _ _ _ _) (btl q)
 have gV : ∀ f i, i < 8 -> get (VC f) i = some (.int .u32 (Int.ofNat (f i))) := fun f i h => by rw [hVC]; exact (get_of hA _ _).trans (lst_tl_get h)
 have sV : ∀ f f' i v, i < 8 -> f' = (fun j => if j = i then v else f j) -> spl (VC f) i [.int .u32 (Int.ofNat v)] = some (VC f') := fun f f' i v h e => by
  rw [hVC]
  refine (spl_of hA (by rw [List.length_append, lst_length]; omega) _).trans ?_
  rw [lst_tl_set h e]
 have hXV : X = VC hf := by rw [hX, hVC]; rfl
 rw [hXV]
 clear hX hXl hXb hXV hVC
 clear X
 cbv
 refine loop_by (Nat × (Nat -> Nat)) (fun s => s.1 <= 64 /\ soA s.2 = Sh.rnd Sh.K256 b (soA hf) s.1) (fun s => 64 - s.1) (fun s => [(8, .int .i64 (Int.ofNat s.1))]) [0, 1, 2, 6, 7] (fun s => [(5, VC s.2)]) (0, hf) ⟨Nat.zero_le _, rfl⟩ ?_ ?_
 ·exact wkih (by repeat' (first | exact trivial | refine ⟨rfl, rfl, rfl, ?_⟩ | refine ⟨rfl, rfl, bC 6, ?_⟩ | refine ⟨rfl, rfl, bV hf 6, ?_⟩))
 rintro ⟨i, x⟩ ⟨hi, hx⟩
 change i <= 64 at hi
 change soA x = Sh.rnd Sh.K256 b (soA hf) i at hx
 have hx8 : Sh.ok8 32 (soA x) := by rw [hx]; exact Sh.ok8_rnd (K := Sh.K256) b h8 (by decide) i hi
 by_cases hlt : i < 64
 ·have hl4 : x 4 < 4294967296 := hx8.2.2.2.2.1
  have hl0 : x 0 < 4294967296 := hx8.1
  have hl1 : x 1 < 4294967296 := hx8.2.1
  have hl2 : x 2 < 4294967296 := hx8.2.2.1
  have hl5 : x 5 < 4294967296 := hx8.2.2.2.2.2.1
  have hl6 : x 6 < 4294967296 := hx8.2.2.2.2.2.2.1
  obtain ⟨p1, hp1⟩ : ∃ v, v = Sh.rotr 32 (x 4) 6 := ⟨_, rfl⟩
  obtain ⟨p2, hp2⟩ : ∃ v, v = Sh.rotr 32 (x 4) 11 := ⟨_, rfl⟩
  obtain ⟨p3, hp3⟩ : ∃ v, v = Sh.rotr 32 (x 4) 25 := ⟨_, rfl⟩
  obtain ⟨q1, hq1⟩ : ∃ v, v = Sh.rotr 32 (x 0) 2 := ⟨_, rfl⟩
  obtain ⟨q2, hq2⟩ : ∃ v, v = Sh.rotr 32 (x 0) 13 := ⟨_, rfl⟩
  obtain ⟨q3, hq3⟩ : ∃ v, v = Sh.rotr 32 (x 0) 22 := ⟨_, rfl⟩
  have hP1 := cRot32 hP (x 4) 6 hl4 (by decide) p1 hp1
  have hP2 := cRot32 hP (x 4) 11 hl4 (by decide) p2 hp2
  have hP3 := cRot32 hP (x 4) 25 hl4 (by decide) p3 hp3
  have hQ1 := cRot32 hP (x 0) 2 hl0 (by decide) q1 hq1
  have hQ2 := cRot32 hP (x 0) 13 hl0 (by decide) q2 hq2
  have hQ3 := cRot32 hP (x 0) 22 hl0 (by decide) q3 hq3
  have lp1 : p1 < 4294967296 := by rw [hp1]; exact lr _ _ hl4
  have lp2 : p2 < 4294967296 := by rw [hp2]; exact lr _ _ hl4
  have lp3 : p3 < 4294967296 := by rw [hp3]; exact lr _ _ hl4
  have lq1 : q1 < 4294967296 := by rw [hq1]; exact lr _ _ hl0
  have lq2 : q2 < 4294967296 := by rw [hq2]; exact lr _ _ hl0
  have lq3 : q3 < 4294967296 := by rw [hq3]; exact lr _ _ hl0
  obtain ⟨p4, hp4⟩ : ∃ v, v = p1 ^^^ p2 := ⟨_, rfl⟩
  have lp4 : p4 < 4294967296 := by rw [hp4]; exact lx _ _ lp1 lp2
  obtain ⟨s1, hs1⟩ : ∃ v, v = p4 ^^^ p3 := ⟨_, rfl⟩
  obtain ⟨q4, hq4⟩ : ∃ v, v = q1 ^^^ q2 := ⟨_, rfl⟩
  have lq4 : q4 < 4294967296 := by rw [hq4]; exact lx _ _ lq1 lq2
  obtain ⟨s0, hs0⟩ : ∃ v, v = q4 ^^^ q3 := ⟨_, rfl⟩
  obtain ⟨a1, ha1⟩ : ∃ v, v = x 4 &&& x 5 := ⟨_, rfl⟩
  obtain ⟨ne, hne⟩ : ∃ v, v = 4294967296 - 1 - x 4 := ⟨_, rfl⟩
  have lne : ne < 4294967296 := by omega
  obtain ⟨a2, ha2⟩ : ∃ v, v = ne &&& x 6 := ⟨_, rfl⟩
  have la1 : a1 < 4294967296 := by rw [ha1]; exact la _ _ hl5
  have la2 : a2 < 4294967296 := by rw [ha2]; exact la _ _ hl6
  obtain ⟨ch, hch⟩ : ∃ v, v = a1 ^^^ a2 := ⟨_, rfl⟩
  obtain ⟨b1, hb1⟩ : ∃ v, v = x 0 &&& x 1 := ⟨_, rfl⟩
  obtain ⟨b2, hb2⟩ : ∃ v, v = x 0 &&& x 2 := ⟨_, rfl⟩
  obtain ⟨b3, hb3⟩ : ∃ v, v = x 1 &&& x 2 := ⟨_, rfl⟩
  have lb1 : b1 < 4294967296 := by rw [hb1]; exact la _ _ hl1
  have lb2 : b2 < 4294967296 := by rw [hb2]; exact la _ _ hl2
  have lb3 : b3 < 4294967296 := by rw [hb3]; exact la _ _ hl2
  obtain ⟨b4, hb4⟩ : ∃ v, v = b1 ^^^ b2 := ⟨_, rfl⟩
  have lb4 : b4 < 4294967296 := by rw [hb4]; exact lx _ _ lb1 lb2
  obtain ⟨mj, hmj⟩ : ∃ v, v = b4 ^^^ b3 := ⟨_, rfl⟩
  obtain ⟨m1, hm1⟩ : ∃ v, v = (x 7 + s1) % 4294967296 := ⟨_, rfl⟩
  obtain ⟨m2, hm2⟩ : ∃ v, v = (m1 + ch) % 4294967296 := ⟨_, rfl⟩
  obtain ⟨m3, hm3⟩ : ∃ v, v = (m2 + kf i) % 4294967296 := ⟨_, rfl⟩
  obtain ⟨t1, ht1⟩ : ∃ v, v = (m3 + W i) % 4294967296 := ⟨_, rfl⟩
  obtain ⟨m4, hm4⟩ : ∃ v, v = (t1 + s0) % 4294967296 := ⟨_, rfl⟩
  obtain ⟨u, hu⟩ : ∃ v, v = (m4 + mj) % 4294967296 := ⟨_, rfl⟩
  obtain ⟨v, hv⟩ : ∃ w, w = (x 3 + t1) % 4294967296 := ⟨_, rfl⟩
  have hrnd := rndA_parts (soA x) (kf i) (W i) (s1 := s1) (ch := ch) (m1 := m1) (m2 := m2) (m3 := m3) (m4 := m4) (t1 := t1) (s0 := s0) (maj := mj) (u := u) (v := v) (by rw [hs1, hp4, hp1, hp2, hp3]; rfl) (by rw [hch, ha1, ha2, hne]; rfl) hm1 hm2 hm3 ht1 (by rw [hs0, hq4, hq1, hq2, hq3]; rfl) (by rw [hmj, hb4, hb1, hb2, hb3]; rfl) hm4 hu hv
  obtain ⟨ki, hki⟩ : ∃ v, v = kf i := ⟨_, rfl⟩
  obtain ⟨wi, hwi⟩ : ∃ v, v = W i := ⟨_, rfl⟩
  have g8 := f7 kf i hlt
  have g7 := f7 W i hlt
  rw [<- hki] at g8 hm3
  rw [<- hwi] at g7 ht1
  have r1 : bin .xor .u32 (Int.ofNat p1) (Int.ofNat p2) = Int.ofNat p4 := (fx _ _ lp1 lp2).trans (by rw [hp4])
  have r2 : bin .xor .u32 (Int.ofNat p4) (Int.ofNat p3) = Int.ofNat s1 := (fx _ _ lp4 lp3).trans (by rw [hs1])
  have r3 : bin .and .u32 (Int.ofNat (x 4)) (Int.ofNat (x 5)) = Int.ofNat a1 := (fa _ _ hl4 hl5).trans (by rw [ha1])
  have r4 : bin .xor .u32 (Int.ofNat (x 4)) 4294967295 = Int.ofNat ne := (fx (x 4) 4294967295 hl4 (by decide)).trans (by rw [hne, xor_ones hl4])
  have r5 : bin .and .u32 (Int.ofNat ne) (Int.ofNat (x 6)) = Int.ofNat a2 := (fa _ _ lne hl6).trans (by rw [ha2])
  have r6 : bin .xor .u32 (Int.ofNat a1) (Int.ofNat a2) = Int.ofNat ch := (fx _ _ la1 la2).trans (by rw [hch])
  have r7 : bin .add .u32 (Int.ofNat (x 7)) (Int.ofNat s1) = Int.ofNat m1 := (fp _ _).trans (by rw [hm1])
  have r8 : bin .add .u32 (Int.ofNat m1) (Int.ofNat ch) = Int.ofNat m2 := (fp _ _).trans (by rw [hm2])
  have r9 : bin .add .u32 (Int.ofNat m2) (Int.ofNat ki) = Int.ofNat m3 := (fp _ _).trans (by rw [hm3])
  have r10 : bin .add .u32 (Int.ofNat m3) (Int.ofNat wi) = Int.ofNat t1 := (fp _ _).trans (by rw [ht1])
  have r11 : bin .xor .u32 (Int.ofNat q1) (Int.ofNat q2) = Int.ofNat q4 := (fx _ _ lq1 lq2).trans (by rw [hq4])
  have r12 : bin .xor .u32 (Int.ofNat q4) (Int.ofNat q3) = Int.ofNat s0 := (fx _ _ lq4 lq3).trans (by rw [hs0])
  have r13 : bin .and .u32 (Int.ofNat (x 0)) (Int.ofNat (x 1)) = Int.ofNat b1 := (fa _ _ hl0 hl1).trans (by rw [hb1])
  have r14 : bin .and .u32 (Int.ofNat (x 0)) (Int.ofNat (x 2)) = Int.ofNat b2 := (fa _ _ hl0 hl2).trans (by rw [hb2])
  have r15 : bin .and .u32 (Int.ofNat (x 1)) (Int.ofNat (x 2)) = Int.ofNat b3 := (fa _ _ hl1 hl2).trans (by rw [hb3])
  have r16 : bin .xor .u32 (Int.ofNat b1) (Int.ofNat b2) = Int.ofNat b4 := (fx _ _ lb1 lb2).trans (by rw [hb4])
  have r17 : bin .xor .u32 (Int.ofNat b4) (Int.ofNat b3) = Int.ofNat mj := (fx _ _ lb4 lb3).trans (by rw [hmj])
  have r18 : bin .add .u32 (Int.ofNat t1) (Int.ofNat s0) = Int.ofNat m4 := (fp _ _).trans (by rw [hm4])
  have r19 : bin .add .u32 (Int.ofNat m4) (Int.ofNat mj) = Int.ofNat u := (fp _ _).trans (by rw [hu])
  have r20 : bin .add .u32 (Int.ofNat (x 3)) (Int.ofNat t1) = Int.ofNat v := (fp _ _).trans (by rw [hv])
  obtain ⟨x1, hx1⟩ : ∃ f : Nat -> Nat, f = fun j => if j = 7 then x 6 else x j := ⟨_, rfl⟩
  obtain ⟨x2, hx2⟩ : ∃ f : Nat -> Nat, f = fun j => if j = 6 then x 5 else x1 j := ⟨_, rfl⟩
  obtain ⟨x3, hx3⟩ : ∃ f : Nat -> Nat, f = fun j => if j = 5 then x 4 else x2 j := ⟨_, rfl⟩
  obtain ⟨x4, hx4⟩ : ∃ f : Nat -> Nat, f = fun j => if j = 4 then v else x3 j := ⟨_, rfl⟩
  obtain ⟨x5, hx5⟩ : ∃ f : Nat -> Nat, f = fun j => if j = 3 then x 2 else x4 j := ⟨_, rfl⟩
  obtain ⟨x6, hx6⟩ : ∃ f : Nat -> Nat, f = fun j => if j = 2 then x 1 else x5 j := ⟨_, rfl⟩
  obtain ⟨x7, hx7⟩ : ∃ f : Nat -> Nat, f = fun j => if j = 1 then x 0 else x6 j := ⟨_, rfl⟩
  obtain ⟨x9, hx9⟩ : ∃ f : Nat -> Nat, f = fun j => if j = 0 then u else x7 j := ⟨_, rfl⟩
  have v0 := gV x 0 (by decide)
  have v1 := gV x 1 (by decide)
  have v2 := gV x 2 (by decide)
  have v4 := gV x 4 (by decide)
  have v5 := gV x 5 (by decide)
  have v6 := gV x 6 (by decide)
  have v7 := gV x 7 (by decide)
  have w5 := gV x1 5 (by decide)
  rw [show x1 5 = x 5 by rw [hx1]; rfl] at w5
  have w4 := gV x2 4 (by decide)
  rw [show x2 4 = x 4 by rw [hx2, hx1]; rfl] at w4
  have w3 := gV x3 3 (by decide)
  rw [show x3 3 = x 3 by rw [hx3, hx2, hx1]; rfl] at w3
  have w2 := gV x4 2 (by decide)
  rw [show x4 2 = x 2 by rw [hx4, hx3, hx2, hx1]; rfl] at w2
  have w1 := gV x5 1 (by decide)
  rw [show x5 1 = x 1 by rw [hx5, hx4, hx3, hx2, hx1]; rfl] at w1
  have w0 := gV x6 0 (by decide)
  rw [show x6 0 = x 0 by rw [hx6, hx5, hx4, hx3, hx2, hx1]; rfl] at w0
  have s7 := sV x x1 7 (x 6) (by decide) hx1
  have s6 := sV x1 x2 6 (x 5) (by decide) hx2
  have s5 := sV x2 x3 5 (x 4) (by decide) hx3
  have s4 := sV x3 x4 4 v (by decide) hx4
  have s3 := sV x4 x5 3 (x 2) (by decide) hx5
  have s2 := sV x5 x6 2 (x 1) (by decide) hx6
  have z1 := sV x6 x7 1 (x 0) (by decide) hx7
  have z0 := sV x7 x9 0 u (by decide) hx9
  have hx10 : soA x9 = ⟨u, x 0, x 1, x 2, v, x 4, x 5, x 6⟩ := by rw [hx9, hx7, hx6, hx5, hx4, hx3, hx2, hx1]; rfl
  cbv
  rw [f1 i hlt]
  cbv
  refine reg_M (hP ▸ tblOk) hA hg (hP ▸ mixed) rfl rfl fun mk _ => ?_
  cbv
  rw [i4]
  cbv
  rw [f6 4, v4]
  cbv
  refine stepD (en_val rfl hg rfl rfl hP1 (fun _ _ _ h => h) trivial) ?_
  cbv
  rw [i4]
  cbv
  rw [f6 4, v4]
  cbv
  refine stepD (en_val rfl hg rfl rfl hP2 (fun _ _ _ h => h) trivial) ?_
  cbv
  rw [r1]
  cbv
  rw [i4]
  cbv
  rw [f6 4, v4]
  cbv
  refine stepD (en_val rfl hg rfl rfl hP3 (fun _ _ _ h => h) trivial) ?_
  cbv
  rw [r2]
  cbv
  refine reg_M (hP ▸ tblOk) hA hg (hP ▸ mixed) rfl rfl fun mk _ => ?_
  cbv
  rw [i4]
  cbv
  rw [f6 4, v4]
  cbv
  rw [i5]
  cbv
  rw [f6 5, v5]
  cbv
  rw [r3]
  cbv
  rw [i4]
  cbv
  rw [f6 4, v4]
  cbv
  rw [r4]
  cbv
  rw [i6]
  cbv
  rw [f6 6, v6]
  cbv
  rw [r5]
  cbv
  rw [r6]
  cbv
  refine reg_M (hP ▸ tblOk) hA hg (hP ▸ mixed) rfl rfl fun mk _ => ?_
  cbv
  rw [i7]
  cbv
  rw [f6 7, v7]
  cbv
  rw [r7]
  cbv
  rw [r8]
  cbv
  rw [f4 i hlt]
  cbv
  rw [f6 i, g8]
  cbv
  rw [r9]
  cbv
  rw [f4 i hlt]
  cbv
  rw [f6 i, g7]
  cbv
  rw [r10]
  cbv
  refine reg_M (hP ▸ tblOk) hA hg (hP ▸ mixed) rfl rfl fun mk _ => ?_
  cbv
  rw [i0]
  cbv
  rw [f6 0, v0]
  cbv
  refine stepD (en_val rfl hg rfl rfl hQ1 (fun _ _ _ h => h) trivial) ?_
  cbv
  rw [i0]
  cbv
  rw [f6 0, v0]
  cbv
  refine stepD (en_val rfl hg rfl rfl hQ2 (fun _ _ _ h => h) trivial) ?_
  cbv
  rw [r11]
  cbv
  rw [i0]
  cbv
  rw [f6 0, v0]
  cbv
  refine stepD (en_val rfl hg rfl rfl hQ3 (fun _ _ _ h => h) trivial) ?_
  cbv
  rw [r12]
  cbv
  refine reg_M (hP ▸ tblOk) hA hg (hP ▸ mixed) rfl rfl fun mk _ => ?_
  cbv
  rw [i0]
  cbv
  rw [f6 0, v0]
  cbv
  rw [i1]
  cbv
  rw [f6 1, v1]
  cbv
  rw [r13]
  cbv
  rw [i0]
  cbv
  rw [f6 0, v0]
  cbv
  rw [i2]
  cbv
  rw [f6 2, v2]
  cbv
  rw [r14]
  cbv
  rw [r16]
  cbv
  rw [i1]
  cbv
  rw [f6 1, v1]
  cbv
  rw [i2]
  cbv
  rw [f6 2, v2]
  cbv
  rw [r15]
  cbv
  rw [r17]
  cbv
  rw [i6]
  cbv
  rw [f6 6, v6]
  cbv
  rw [i7]
  cbv
  rw [f6 7, s7]
  cbv
  rw [i5]
  cbv
  rw [f6 5, w5]
  cbv
  rw [i6]
  cbv
  rw [f6 6, s6]
  cbv
  rw [i4]
  cbv
  rw [f6 4, w4]
  cbv
  rw [i5]
  cbv
  rw [f6 5, s5]
  cbv
  rw [i3]
  cbv
  rw [f6 3, w3]
  cbv
  rw [r20]
  cbv
  rw [i4]
  cbv
  rw [f6 4, s4]
  cbv
  rw [i2]
  cbv
  rw [f6 2, w2]
  cbv
  rw [i3]
  cbv
  rw [f6 3, s3]
  cbv
  rw [i1]
  cbv
  rw [f6 1, w1]
  cbv
  rw [i2]
  cbv
  rw [f6 2, s2]
  cbv
  rw [i0]
  cbv
  rw [f6 0, w0]
  cbv
  rw [i1]
  cbv
  rw [f6 1, z1]
  cbv
  rw [r18]
  cbv
  rw [r19]
  cbv
  rw [i0]
  cbv
  rw [f6 0, z0]
  cbv
  rw [f3 i (by omega)]
  refine ⟨(i + 1, x9), id, ⟨hlt, ?_⟩, (by show 64 - (i + 1) < 64 - i; omega), ?_⟩
  ·show soA x9 = Sh.rnd Sh.K256 b (soA hf) (i + 1)
   rw [Sh.rnd_succ (K := Sh.K256) b _ (by decide) (show i < Sh.K256.ks.length from hlt), <- hx, show Sh.K256.ks.getD i 0 = kf i by rw [hkf], show Sh.wd Sh.K256 b i = W i by rw [hW], hrnd, hx10]
   rfl
  ·exact wkih (by repeat' (first | exact trivial | refine ⟨rfl, rfl, rfl, ?_⟩ | refine ⟨rfl, rfl, bC 6, ?_⟩ | refine ⟨rfl, rfl, bV x9 6, ?_⟩))
 ·obtain rfl : i = 64 := by omega
  have hfin : Sh.turn Sh.K256 (soA hf) b = Sh.add8 32 (soA hf) (soA x) := by
   rw [Sh.turn_rnd (K := Sh.K256) b _ (by decide), hx]; rfl
  obtain ⟨hc, hhc⟩ : ∃ f : Nat -> Nat -> Nat, f = fun i j => if j < i then (hf j + x j) % 4294967296 else hf j := ⟨_, rfl⟩
  have hc0 : hc 0 = hf := by rw [hhc]; rfl
  have hcS : ∀ i v, v = (hf i + x i) % 4294967296 -> hc (i + 1) = fun j => if j = i then v else hc i j := fun i v hv => by
   rw [hhc]; funext j
   show (if j < i + 1 then _ else _) = if j = i then v else if j < i then _ else _
   by_cases h : j = i
   ·rw [if_pos h, if_pos (by omega), hv, h]
   ·rw [if_neg h]
    by_cases h2 : j < i
    ·rw [if_pos h2, if_pos (by omega)]
    ·rw [if_neg h2, if_neg (by omega)]
  have hcg : ∀ i, hc i i = hf i := fun i => by rw [hhc]; exact if_neg (Nat.lt_irrefl i)
  have hend : lst .u32 (fun j => Int.ofNat (hc 8 j)) 0 8 = lst .u32 (fun j => Int.ofNat (hf' j)) 0 8 := lst_congr fun j _ hj => by
   have e : soA (hc 8) = soA hf' := by
    rw [hS, hfin, hhc]; rfl
   rw [soA_eq e j (by omega)]
  clear hhc
  simp only [lst, Nat.reduceAdd] at hend
  cbv
  rw [f1f]
  cbv
  refine loop_by (Nat × (Nat -> Nat)) (fun s => s.1 <= 8 /\ s.2 = hc s.1) (fun s => 8 - s.1) (fun s => [(14, .int .i64 (Int.ofNat s.1))]) [0, 7] (fun s => [(0, lst .u32 (fun j => Int.ofNat (s.2 j)) 0 8)]) (0, hf) ⟨Nat.zero_le _, hc0.symm⟩ ?_ ?_
  ·exact wkih (by repeat' (first | exact trivial | refine ⟨rfl, rfl, rfl, ?_⟩ | refine ⟨rfl, rfl, bC 6, ?_⟩ | refine ⟨rfl, rfl, bV x 6, ?_⟩))
  rintro ⟨i, h⟩ ⟨hi, hh⟩
  change i <= 8 at hi
  change h = hc i at hh
  subst hh
  by_cases h8 : i < 8
  ·obtain ⟨hi0, hhi0⟩ : ∃ v, v = hf i := ⟨_, rfl⟩
   obtain ⟨xi, hxi⟩ : ∃ v, v = x i := ⟨_, rfl⟩
   obtain ⟨v, hv⟩ : ∃ v, v = (hi0 + xi) % 4294967296 := ⟨_, rfl⟩
   have hn := hcS i v (by rw [hv, hhi0, hxi])
   obtain ⟨hnx, hnx2⟩ : ∃ f, f = hc (i + 1) := ⟨_, rfl⟩
   rw [<- hnx2] at hn
   have g9 := f7h (hc i) i h8
   rw [hcg i, <- hhi0] at g9
   have g7 := gV x i h8
   rw [<- hxi] at g7
   have r1 : bin .add .u32 (Int.ofNat hi0) (Int.ofNat xi) = Int.ofNat v := (fp _ _).trans (by rw [hv])
   cbv
   rw [f2 i h8]
   cbv
   refine reg_M (hP ▸ tblOk) hA hg (hP ▸ mixed) rfl rfl fun mk _ => ?_
   cbv
   rw [f5 i h8]
   cbv
   rw [f6 i, g9]
   cbv
   rw [f5 i h8]
   cbv
   rw [f6 i, g7]
   cbv
   rw [r1]
   cbv
   rw [f5 i h8]
   cbv
   rw [f6 i, f8h (hc i) hnx i v h8 hn]
   cbv
   rw [f3 i (by omega)]
   refine ⟨(i + 1, hnx), id, ⟨h8, hnx2⟩, (by show 8 - (i + 1) < 8 - i; omega), ?_⟩
   exact wkih (by repeat' (first | exact trivial | refine ⟨rfl, rfl, rfl, ?_⟩ | refine ⟨rfl, rfl, bC 6, ?_⟩ | refine ⟨rfl, rfl, bV x 6, ?_⟩))
  ·obtain rfl : i = 8 := by omega
   obtain ⟨h9, hh9⟩ : ∃ f, f = hc 8 := ⟨_, rfl⟩
   rw [<- hh9] at hend ⊢
   cbv
   rw [f2f]
   cbv
   rw [hend]
   exact hK _ _ _ ⟨rfl, rfl⟩
end Go.Proofs.YtdhmihfefgcbeaaGreat
end
