/-
  This text proves what these texts prove: Jd, Je, Jf, Jg, Jh, La. Conditions: those of each theorem.
-/
import Derived.Test.YtdhmihfefgcbeaaGreatW24
section
namespace Go.Vg
open Go.RowKit Go.Lib
section
variable {P : Program} {g : G} {T : Nat -> Option Ty} {F : FF} {L : LL} {n : Nat}
theorem step_bytes2 (hT : TOk P T) {o : Oper} {m0 N : Nat} {ms : List Nat} (hg : GI g m0 ms N) (hd' : dstLt N o.dst = true) {x : Operand} {src dst : Nat} (ho : o.op = .convert src dst x) {i j : Ty} (hs : T src = some i) (hsd : i.d = .s) {e es : Nat} (ht : T dst = some j) (hd : j.d = .sl e es) (he : P.underlying e = some (.int .u8))
 {s : ByteArray} (hx : ev (look F) x = some (.str s)) (hsz : s.size <= 140737488355328) {K : FF -> LL -> Nat -> Prop} (hK : ∀ c, s.size <= c -> c <= maxLen -> K (putO F o.dst (.slice n 0 s.size c)) (L ++ [⟨n, bts s ++ List.replicate (c - s.size) (.int .u8 0), e⟩]) (n + 1)) : Step g P o K F L n := by
 have h1 := str_of hT hs hsd
 have h2 := (sl_of hT ht hd).1
 refine step_new hg hd' fun β a W hm hf => ?_
 obtain ⟨e1, b1⟩ := ev_sound hf hx
 have hrun := run_bytes_of_string (P := P) W src dst e s h1 h2 he
 have hge := grownCap_ge W s.size 0 e
 have hle := grownCap_le_maxLen W s.size 0 e (by simp only [maxLen]; omega)
 have hsz : (bytesRow s (grownCap W s.size 0 e)).size = (bts s ++ List.replicate (grownCap W s.size 0 e - s.size) (SV.int .u8 0)).length := by
  simp [bytesRow, bts]
 refine ⟨.slice n 0 s.size (grownCap W s.size 0 e), _, W.heap.size, _, e, ((bytesRow s (grownCap W s.size 0 e)).size, (bytesRow s (grownCap W s.size 0 e)).size + 1), fun γ hγ => run_convert_op ho (W' := W.drew.alloc (.cells (bytesRow s (grownCap W s.size 0 e)) e ((bytesRow s (grownCap W s.size 0 e)).size, (bytesRow s (grownCap W s.size 0 e)).size + 1))) ?_, upd_drew W _, Nat.le_refl _, Or.inr ?_, ?_, ?_, Nat.lt_succ_self n, hK _ hge hle⟩
 ·rw [e1]
  simp only [den, hγ]
  exact hrun
 ·rw [hsz]; exact Nat.le_refl _
 ·rw [show (W.drew.alloc (.cells (bytesRow s (grownCap W s.size 0 e)) e ((bytesRow s (grownCap W s.size 0 e)).size, (bytesRow s (grownCap W s.size 0 e)).size + 1))).heap[W.heap.size]? = some (.cells (bytesRow s (grownCap W s.size 0 e)) e ((bytesRow s (grownCap W s.size 0 e)).size, (bytesRow s (grownCap W s.size 0 e)).size + 1)) from heap_alloc_new W.drew _]
  congr 2
  apply Array.ext'
  simp only [bytesRow, Array.toList_append, Array.toList_map, Array.toList_replicate, denL_eq, List.map_append, List.map_replicate, bts, List.map_map]
  rfl
 ·rw [bdL_iff]
  intro v hv
  rcases List.mem_append.1 hv with hv | hv
  ·exact (bdL_iff _ _).1 (bts_bd _ _) v hv
  ·rw [(List.mem_replicate.1 hv).2]; trivial
end
end Go.Vg
namespace Go.Proofs.YtdhmihfefgcbeaaGreat
open Go.Vg Go.RowKit
set_option maxRecDepth 200000
set_option cbv.maxSteps 100000000
theorem rowX_bytes (s : ByteArray) {c : Nat} (h1 : s.size <= c) (h2 : c <= maxLen) : RowX (bl s) c (bts s ++ List.replicate (c - s.size) (.int .u8 0)) where
 dat := by rw [bts_by8, List.take_left' (by rw [by8_len])]
 len := by rw [List.length_append, bts_len, List.length_replicate]; omega
 le := by rw [bl_len]; exact h1
 max := h2
 b := fun m => bdLB_append (bts_bdLB m s) (bdLB_reps m _)
set_option maxHeartbeats 2000000 in
theorem cPadded {P : Program} (hP : P = Tryz.prog) (s : ByteArray) (hs : s.size < 2 ^ 40) (pl : List Nat) (hpl : pl = Sh.pad Sh.K256 (bl s)) :
 Con P 111 [.str s] [] 0 [] (fun v L q => ∃ k c X, k = pl.length /\ RowX pl c X /\ v = .slice 0 0 k c /\ L = [⟨0, X, 5⟩] /\ q = 1) := by
 have hU8 := bytesU8 hP
 obtain ⟨r0, hr0⟩ : ∃ r, r = bl s := ⟨_, rfl⟩
 obtain ⟨n, hn⟩ : ∃ n, n = s.size := ⟨_, rfl⟩
 have hr0l : r0.length = n := by rw [hr0, bl_len, hn]
 rw [<- hr0] at hpl
 have hpe := padA_eq r0
 rw [<- hpl] at hpe
 obtain ⟨n8, hn8⟩ : ∃ x, x = n * 8 % 18446744073709551616 := ⟨_, rfl⟩
 obtain ⟨l1, hl1⟩ : ∃ l, l = r0 ++ [128] := ⟨_, rfl⟩
 have hl1l : l1.length = n + 1 := by rw [hl1, List.length_append, hr0l]; rfl
 obtain ⟨zt, hzt⟩ : ∃ z, z = (64 - (l1.length + 8) % 64) % 64 := ⟨_, rfl⟩
 obtain ⟨l2, hl2⟩ : ∃ l, l = l1 ++ List.replicate zt 0 := ⟨_, rfl⟩
 have hl2l : l2.length = l1.length + zt := by rw [hl2, List.length_append, List.length_replicate]
 have hfin : pl = l2 ++ Sh.be 8 n8 := by
  rw [hpe, hl2, hl1, hzt, hl1l, hn8, hr0l]
  simp only [List.append_assoc, Nat.add_zero]
 obtain ⟨IV, hIV⟩ : ∃ IV : Nat -> Int, IV = fun j : Nat => (7 : Int) - (j : Int) := ⟨_, rfl⟩
 have iv : ∀ j, j < 8 -> IV j = Int.ofNat (7 - j) := fun j h => by rw [hIV]; show (7 : Int) - (j : Int) = ((7 - j : Nat) : Int); omega
 have iv0 : IV 0 = 7 := by rw [hIV]; rfl
 have iv8 : IV 8 = -1 := by rw [hIV]; rfl
 suffices raw : Con P 111 [.str s] [] 0 [] (fun v L q => ∃ k c X, k = pl.length /\ RowX pl c X /\ v = .slice 2 0 k c /\ find L 2 = some ⟨2, X, 5⟩) by
  refine raw.weak fun v L q hq => ?_
  obtain ⟨k, c, X, h1, h2, rfl, h4⟩ := hq
  refine ⟨fun _ => 2, .slice 0 0 k c, [⟨0, X, 5⟩], 1, weak_rho ⟨rfl, rfl, trivial⟩ ⟨by rw [renL_cl X (h2.b 0)]; exact h4, rfl, rfl, h2.b 1, trivial⟩ rfl rfl rfl, k, c, X, h1, h2, rfl, rfl, rfl⟩
 clear hpe hpl
 have hsb : ∀ c, s.size <= c -> c <= maxLen -> RowX r0 c (bts s ++ List.replicate (c - s.size) (.int .u8 0)) := fun c h1 h2 => by rw [hr0]; exact rowX_bytes s h1 h2
 clear hr0
 refine Con.of (hP ▸ tblOk) (hP ▸ Tryz.func111) rfl rfl rfl rfl (by decide) rfl rfl (bdLB_bd _ rfl) (blks_bd rfl) ?_
 intro A g K hA hg hK
 obtain ⟨bin, sh, cmp, _, cvt, _, nn, _, _, _, _, _, slen, _, nat, _, _, _, sub⟩ := A
 have e0 : slen s = Int.ofNat n := (slen_of hA s).trans (by rw [hn])
 have e1 : ∀ k, nat k = Int.ofNat k := fun k => nat_of hA k
 have e2 : ∀ k, bin .rem .i64 (Int.ofNat k) 64 = Int.ofNat (k % 64) := fun k => remW hA k 64
 have e3 : ∀ k, k ≠ 56 -> cmp .neq (Int.ofNat k) 56 = true := fun k h => neq_t hA (b := 56) h
 have e3f : cmp .neq (Int.ofNat 56) 56 = false := neq_f hA (a := 56) (b := 56) rfl
 have e4 : cvt .u64 (Int.ofNat n) = Int.ofNat n := cvtI hA (fun h => by cases h) (fun _ => by show n < 18446744073709551616; omega)
 have e5 : bin .mul .u64 (Int.ofNat n) 8 = Int.ofNat n8 := (mulW hA (k := .u64) rfl n 8).trans (by rw [hn8]; rfl)
 have e6 : ∀ j, j < 8 -> cmp .geq (Int.ofNat (7 - j)) 0 = true := fun j h => geq_t hA (b := 0) (Nat.zero_le _)
 have e6f : cmp .geq (-1) 0 = false := (congrFun (congrFun (congrFun (cmp_of hA) .geq) (-1)) 0).trans rfl
 have e7 : ∀ j, j < 8 -> bin .sub .i64 (IV j) 1 = IV (j + 1) := fun j h => by
  have hb : bin = intBin := bin_of hA
  rw [hb, hIV]
  show IntKind.i64.wrap ((7 - (j : Int)) - 1) = 7 - ((j + 1 : Nat) : Int)
  rw [IntKind.wrap_i64]; omega
 cbv
 refine step_bytes2 (hP ▸ tblOk) hg rfl rfl (show tyT 9 = some _ from rfl) rfl (show tyT 143 = some _ from rfl) rfl (hP ▸ Tryz.underlying5) rfl (by omega) ?_
 intro c0 hc0 hc0m
 have hX0 := hsb c0 hc0 hc0m
 rw [<- hn] at hX0 ⊢
 obtain ⟨X0, hXe⟩ : ∃ X : List SV, X = bts s ++ List.replicate (c0 - n) (.int .u8 0) := ⟨_, rfl⟩
 rw [<- hXe] at hX0 ⊢
 clear hXe
 cbv
 refine step_bapp (hP ▸ tblOk) hg rfl rfl (show tyT 143 = some _ from rfl) rfl (show tyT 5 = some _ from rfl) hU8 rfl (L0 := [⟨1, [.int .u8 128], 5⟩]) (B1 := [⟨0, X0, 5⟩]) (lb := 0) ((hX0.row hr0l.symm 5 0).mid (A := []) (C := [⟨1, [.int .u8 128], 5⟩]) rfl) rfl rfl (hX0.row hr0l.symm _ 0) rfl rfl (d := [128]) (Or.inr ⟨1, 0, 1, 1, _, rfl, rfl, rfl, rfl⟩) (by show r0.length + 1 <= _; omega) ?_
 intro v2 B2 hR2
 obtain ⟨k2, c2, X2, hk2, rfl, rfl, hX2⟩ := hR2.some (by simp)
 rw [<- hl1] at hk2 hX2
 cbv
 refine loop_by (List Nat × Nat × Nat × List SV) (fun s => (∃ z, z <= zt /\ s.1 = l1 ++ List.replicate z 0) /\ s.2.1 = s.1.length /\ RowX s.1 s.2.2.1 s.2.2.2) (fun s => 2 * 64 + n - s.2.1) (fun s => [(3, .slice 2 0 s.2.1 s.2.2.1)]) [0] (fun s => [(2, s.2.2.2)]) (l1, k2, c2, X2) ⟨⟨0, Nat.zero_le _, by simp⟩, hk2, hX2⟩ ?_ ?_
 ·exact wkih (by repeat' (first | exact trivial | refine ⟨rfl, rfl, rfl, ?_⟩ | refine ⟨rfl, rfl, hX2.b 3, ?_⟩))
 rintro ⟨l, k, c, X⟩ ⟨⟨z, hz, hl⟩, hk, hX⟩
 change l = l1 ++ List.replicate z 0 at hl
 change k = l.length at hk
 change RowX l c X at hX
 have hkz : k = l1.length + z := by rw [hk, hl, List.length_append, List.length_replicate]
 by_cases hzz : k % 64 = 56
 ·have hze : z = zt := by omega
  rw [hze, <- hl2] at hl
  cbv
  rw [e1 k]
  cbv
  rw [e2 k, hzz]
  cbv
  rw [e3f]
  cbv
  rw [e0]
  cbv
  rw [e4]
  cbv
  rw [e5]
  cbv
  rw [<- iv0]
  refine loop_by (Nat × List Nat × Nat × Nat × List SV) (fun s => s.1 <= 8 /\ s.2.1 = l2 ++ (Sh.be 8 n8).take s.1 /\ s.2.2.1 = s.2.1.length /\ RowX s.2.1 s.2.2.2.1 s.2.2.2.2) (fun s => 8 - s.1) (fun s => [(3, .slice 2 0 s.2.2.1 s.2.2.2.1), (5, .int .i64 (IV s.1))]) [0, 4] (fun s => [(2, s.2.2.2.2)]) (0, l, k, c, X) ⟨Nat.zero_le _, by show l = l2 ++ []; rw [List.append_nil, hl], hk, hX⟩ ?_ ?_
  ·exact wkih (by repeat' (first | exact trivial | refine ⟨rfl, rfl, rfl, ?_⟩ | refine ⟨rfl, rfl, hX.b 3, ?_⟩))
  clear hX hkz hk hl
  rintro ⟨i, l, k, c, X⟩ ⟨hi, hl, hk, hX⟩
  change i <= 8 at hi
  change l = l2 ++ (Sh.be 8 n8).take i at hl
  change k = l.length at hk
  change RowX l c X at hX
  have hkz : k = l2.length + i := by rw [hk, hl, List.length_append, List.length_take, beA_len]; omega
  by_cases hlt : i < 8
  ·obtain ⟨i7, hi7⟩ : ∃ x, x = 7 - i := ⟨_, rfl⟩
   obtain ⟨b8, hb8⟩ : ∃ x, x = 8 * i7 := ⟨_, rfl⟩
   obtain ⟨y, hy⟩ : ∃ x, x = n8 / 2 ^ b8 := ⟨_, rfl⟩
   obtain ⟨yb, hyb⟩ : ∃ x, x = y % 256 := ⟨_, rfl⟩
   have hn8l : n8 < 18446744073709551616 := by rw [hn8]; exact Nat.mod_lt _ (by decide)
   have hyl : y < 18446744073709551616 := by rw [hy]; exact Nat.lt_of_le_of_lt (Nat.div_le_self _ _) hn8l
   have g1 := iv i hlt
   rw [<- hi7] at g1
   have g2 : bin .mul .i64 8 (Int.ofNat i7) = Int.ofNat b8 := (mulI hA (a := 8) (b := i7) (by omega)).trans (by rw [hb8])
   have g4 : nn (Int.ofNat b8) = true := nn_t hA b8
   have g5 : sh .shr .u64 (Int.ofNat n8) (Int.ofNat b8) = Int.ofNat y := (shrI hA (k := .u64) (a := n8) (b := b8) (by show b8 <= 64; omega)).trans (by rw [hy])
   have g6 : bin .and .u64 (Int.ofNat y) 255 = Int.ofNat yb := (andW hA (k := .u64) rfl (a := y) (b := 255) hyl (by decide)).trans (congrArg Int.ofNat (by
    rw [hyb, show (255 : Nat) = 2 ^ 8 - 1 from rfl, Nat.and_two_pow_sub_one_eq_mod]))
   have g7 : cvt .u8 (Int.ofNat yb) = Int.ofNat yb := (cvt8A hA yb).trans (by rw [Nat.mod_eq_of_lt (by omega)])
   have g8 := e6 i hlt
   rw [<- hi7] at g8
   have g9 := e7 i hlt
   rw [g1] at g9
   rw [g1]
   cbv
   rw [g8]
   cbv
   rw [g2]
   cbv
   rw [g4]
   cbv
   rw [g5]
   cbv
   rw [g6]
   cbv
   rw [g7]
   cbv
   refine step_bapp (hP ▸ tblOk) hg rfl rfl (show tyT 143 = some _ from rfl) rfl (show tyT 5 = some _ from rfl) hU8 rfl (L0 := [⟨1, [.int .u8 128], 5⟩, ⟨3, [.int .u8 (Int.ofNat yb)], 5⟩]) (B1 := [⟨2, X, 5⟩]) (lb := 2) ((hX.row hk 5 2).mid (A := [⟨1, [.int .u8 128], 5⟩]) (C := [⟨3, [.int .u8 (Int.ofNat yb)], 5⟩]) rfl) rfl rfl (hX.row hk _ 2) rfl rfl (d := [yb]) (Or.inr ⟨3, 0, 1, 1, _, rfl, rfl, rfl, rfl⟩) (by show l.length + 1 <= _; omega) ?_
   intro v' B' hR'
   obtain ⟨k', c', X', hk', rfl, rfl, hX'⟩ := hR'.some (by simp)
   cbv
   rw [g9]
   refine ⟨(i + 1, l ++ [yb], k', c', X'), fun l => if l = 2 then 4 else l, ⟨hlt, ?_, hk', hX'⟩, (by show 8 - (i + 1) < 8 - i; omega), ?_⟩
   ·show l ++ [yb] = l2 ++ (Sh.be 8 n8).take (i + 1)
    rw [hl, beA_take 8 n8 hlt, List.append_assoc, hyb, hy, hb8, hi7, show 7 - i = 8 - 1 - i by omega, Nat.pow_mul]
   exact weak_rho (by repeat' (first | exact trivial | refine ⟨rfl, rfl, ?_⟩)) ⟨rfl, rfl, rfl, rfl, by rw [renL_cl X' (hX'.b 0)]; rfl, rfl, rfl, hX'.b 3, trivial⟩ rfl rfl rfl
  ·obtain rfl : i = 8 := by omega
   rw [List.take_of_length_le (by rw [beA_len]; exact Nat.le_refl 8), <- hfin] at hl
   rw [hl] at hk hX
   rw [iv8]
   cbv
   rw [e6f]
   cbv
   exact hK _ _ _ ⟨k, c, X, hk, hX, rfl, rfl⟩
 ·have hzl : z < zt := by omega
  cbv
  rw [e1 k]
  cbv
  rw [e2 k]
  cbv
  rw [e3 _ hzz]
  cbv
  refine step_bapp (hP ▸ tblOk) hg rfl rfl (show tyT 143 = some _ from rfl) rfl (show tyT 5 = some _ from rfl) hU8 rfl (L0 := [⟨1, [.int .u8 128], 5⟩, ⟨3, [.int .u8 0], 5⟩]) (B1 := [⟨2, X, 5⟩]) (lb := 2) ((hX.row hk 5 2).mid (A := [⟨1, [.int .u8 128], 5⟩]) (C := [⟨3, [.int .u8 0], 5⟩]) rfl) rfl rfl (hX.row hk _ 2) rfl rfl (d := [0]) (Or.inr ⟨3, 0, 1, 1, _, rfl, rfl, rfl, rfl⟩) (by show l.length + 1 <= _; omega) ?_
  intro v' B' hR'
  obtain ⟨k', c', X', hk', rfl, rfl, hX'⟩ := hR'.some (by simp)
  cbv
  refine ⟨(l ++ [0], k', c', X'), fun l => if l = 2 then 4 else l, ⟨⟨z + 1, hzl, by rw [hl, List.append_assoc, List.replicate_succ']⟩, hk', hX'⟩, ?_, ?_⟩
  ·show 2 * 64 + n - k' < 2 * 64 + n - k
   have : k' = k + 1 := by rw [hk', hk, List.length_append]; rfl
   omega
  exact weak_rho (by repeat' (first | exact trivial | refine ⟨rfl, rfl, ?_⟩)) ⟨rfl, rfl, rfl, rfl, by rw [renL_cl X' (hX'.b 0)]; rfl, rfl, rfl, hX'.b 3, trivial⟩ rfl rfl rfl
end Go.Proofs.YtdhmihfefgcbeaaGreat
end
section
namespace Go.Vg
open Go.RowKit
section
variable {P : Program} {T : Nat -> Option Ty}
theorem slr_lh (hT : TOk P T) {t : Nat} {i : Ty} (ht : T t = some i) {e es : Nat} (hd : i.d = .sl e es) (l o m c : Nat) {k k' : IntKind} {j h : Nat} (hj : j < h) (hh : h <= c) : SlR P t (.slice l o m c) (some (k, Int.ofNat j)) (some (k', Int.ofNat h)) (.slice l (o + j * es) (h - j) (c - j)) := by
 obtain ⟨hu, hs⟩ := sl_of hT ht hd
 have he : P.elem t = e := by simp [Program.elem, hu]
 refine ⟨fun β W => ?_, fun p h => h⟩
 show (Instr.sliceAt t (.slice (some ⟨β l, o, none⟩) m c) (some (.int k (Int.ofNat j))) (some (.int k' (Int.ofNat h))) none).run P W = _
 rw [run_sliceAt_slice W t _ _ _ _ (by rw [he]; exact hu), run_slice_lh W t _ m c (by rw [he]; exact hu) k k' (Int.ofNat j) (Int.ofNat h) (by simp) (by simp; omega) (by simpa using hh), he, run_sizeOf hs]
 simp only [Result.andThen, sliced, den]
 rw [if_neg (by simp; omega)]
 simp [addr_add']
end
end Go.Vg
namespace Go.Proofs.YtdhmihfefgcbeaaGreat
open Go.Vg Go.RowKit
set_option maxRecDepth 200000
set_option cbv.maxSteps 100000000
theorem be4 (x : Nat) : Sh.be 4 x = [x / 2 ^ 24 % 256, x / 2 ^ 16 % 256, x / 2 ^ 8 % 256, x % 256] := by
 show [x / 256 ^ 3 % 256, x / 256 ^ 2 % 256, x / 256 ^ 1 % 256, x / 256 ^ 0 % 256] = _
 rw [Nat.pow_zero, Nat.div_one]
set_option maxHeartbeats 4000000 in
theorem cROf32 {P : Program} (hP : P = Tryz.prog) (id : Nat) (h0 : Nat -> Nat) (hid : (id = 1 /\ soA h0 = Sh.i224) \/ (id = 2 /\ soA h0 = Sh.i256)) (h8 : Sh.ok8 32 (soA h0)) (s dg : ByteArray) (hs : s.size < 2 ^ 40) (hdg : bl dg = Sh.of id (bl s)) :
 Con P 83 [.int .i64 (Int.ofNat id), .str s] [] 0 [] (fun v _ _ => v = .str dg) := by
 have hid4 : 1 <= id /\ id <= 4 := by omega
 obtain ⟨pl, hpl⟩ : ∃ l, l = Sh.pad Sh.K256 (bl s) := ⟨_, rfl⟩
 obtain ⟨z, hz⟩ : ∃ z, z = Sh.size id := ⟨_, rfl⟩
 obtain ⟨bk, hbk, hbk2⟩ : ∃ b, b = Sh.blk id /\ b = 64 := ⟨_, rfl, by rcases hid with ⟨rfl, _⟩ | ⟨rfl, _⟩ <;> rfl⟩
 have hzl : z <= 32 := by rw [hz]; rcases hid with ⟨rfl, _⟩ | ⟨rfl, _⟩ <;> decide
 have hBl := cRBlock hP id hid4 bk hbk
 have hSz := cRSize hP id hid4 z hz
 have hBe := cBegin32 hP id h0 hid
 obtain ⟨kf, hkf⟩ : ∃ kf, kf = fun j => Sh.K256.ks.getD j 0 := ⟨_, rfl⟩
 have hK32 := cK32 hP kf hkf
 have hPa := cPadded hP s hs pl hpl
 obtain ⟨m, hm⟩ : ∃ m, m = pl.length := ⟨_, rfl⟩
 have hml : m % 64 = 0 /\ m / 64 <= (bl s).length + 1 /\ m < 2 ^ 41 := by
  rw [hm, hpl, padA_eq]
  simp only [List.length_append, List.length_replicate, beA_len, List.length_cons, List.length_nil, bl_len]
  omega
 have hpb : ∀ x ∈ pl, x < 256 := fun x hx => by
  rw [hpl, padA_eq] at hx
  rcases List.mem_append.1 hx with h | h
  ·exact bl_lt s x h
  ·rcases List.mem_append.1 h with h | h
   ·obtain rfl := List.mem_singleton.1 h; decide
   ·rcases List.mem_append.1 h with h | h
    ·rw [(List.mem_replicate.1 h).2]; decide
    ·exact beA_b _ _ x h
 have hof : bl dg = (Sh.out 4 (Sh.tq Sh.K256 (soA h0) pl (m / 64))).take z := by
  have e : ∀ size s0, soA h0 = s0 -> Sh.hash Sh.K256 s0 size (bl s) = (Sh.out 4 (Sh.tq Sh.K256 (soA h0) pl (m / 64))).take size := fun size s0 he => by
   rw [Sh.hash_hst (by decide) s0 size (bl s) (by rw [<- hpl, <- hm]; exact hml.2.1), Sh.hst, <- hpl, <- hm, he]; rfl
  rw [hdg, hz]
  rcases hid with ⟨rfl, h⟩ | ⟨rfl, h⟩
  ·exact e 28 _ h
  ·exact e 32 _ h
 have hU8 := bytesU8 hP
 clear hpl hdg
 refine Con.of (hP ▸ tblOk) (hP ▸ Tryz.func83) rfl rfl rfl rfl (by decide) rfl rfl (bdLB_bd _ rfl) (blks_bd rfl) ?_
 intro A g K hA hg hK
 obtain ⟨bin, sh, cmp, _, cvt, ix, _, _, _, _, _, _, _, _, nat, off⟩ := A
 have e0 : cmp .eql (Int.ofNat bk) 64 = true := eql_t hA (b := 64) hbk2
 have e1 : nat m = Int.ofNat m := nat_of hA m
 have e2 : ∀ i, i < m -> cmp .lss (Int.ofNat i) (Int.ofNat m) = true := fun i h => lss_t hA h
 have e2f : cmp .lss (Int.ofNat m) (Int.ofNat m) = false := lss_f hA (by omega)
 have e3 : ∀ i, i < m -> bin .add .i64 (Int.ofNat i) 64 = Int.ofNat (i + 64) := fun i h => addI hA (b := 64) (by omega)
 have e4 : ∀ i, i < 8 -> cmp .lss (Int.ofNat i) 8 = true := fun i h => lss_t hA (b := 8) h
 have e4f : cmp .lss (Int.ofNat 8) 8 = false := lss_f hA (a := 8) (b := 8) (by omega)
 have e5 : ∀ i, i < 8 -> bin .add .i64 (Int.ofNat i) 1 = Int.ofNat (i + 1) := fun i h => add_of hA (by omega)
 have e6 : ∀ i, i < 8 -> ix (Int.ofNat i) 8 = some i := fun i h => ix_of hA h
 have e7 : ∀ i, off 0 i 1 = i := fun i => (off_of hA 0 i 1).trans (by omega)
 have e8 := fun (f : Nat -> Nat) (k : Nat) (h : k < 8) => getW hA .u32 (n := 8) f h
 simp only [lst, Nat.reduceAdd] at e8
 cbv
 refine call_val rfl hg rfl rfl hBl ?_
 rintro _ _ _ rfl
 refine ⟨trivial, ?_⟩
 cbv
 rw [e0]
 cbv
 refine call_gen rfl hg rfl rfl hBe _root_.id rfl trivial rfl rfl rfl ?_
 rintro _ _ _ ⟨rfl, rfl, rfl⟩ _
 refine ⟨rfl, ?_⟩
 cbv
 refine call_gen rfl hg rfl rfl hK32 _root_.id rfl trivial rfl rfl rfl ?_
 rintro _ _ _ ⟨rfl, rfl, rfl⟩ _
 refine ⟨rfl, ?_⟩
 cbv
 refine call_gen rfl hg rfl rfl hPa _root_.id rfl trivial rfl rfl rfl ?_
 rintro _ _ _ ⟨km, c, X, hkm, hX, rfl, rfl, rfl⟩ _
 obtain rfl : km = m := by rw [hkm, hm]
 have rX : ∀ ρ, renL ρ X = X := fun ρ => renL_cl X (hX.b 0)
 refine ⟨rfl, ?_⟩
 simp only [renB, rX]
 cbv
 refine loop_by (Nat × Nat × (Nat -> Nat)) (fun s => s.2.1 = s.1 * 64 /\ s.2.1 <= km /\ soA s.2.2 = Sh.tq Sh.K256 (soA h0) pl s.1) (fun s => km - s.2.1) (fun s => [(9, .int .i64 (Int.ofNat s.2.1))]) [0, 1, 5, 6, 7, 8] (fun s => [(0, lst .u32 (fun j => Int.ofNat (s.2.2 j)) 0 8)]) (0, 0, h0) ⟨rfl, Nat.zero_le _, rfl⟩ ?_ ?_
 ·exact wkih (by repeat' (first | exact trivial | refine ⟨rfl, rfl, rfl, ?_⟩ | refine ⟨rfl, rfl, hX.b 3, ?_⟩))
 rintro ⟨j, iv, h⟩ ⟨hiv, hil, hh⟩
 change iv = j * 64 at hiv
 change iv <= km at hil
 change soA h = Sh.tq Sh.K256 (soA h0) pl j at hh
 by_cases hlt : iv < km
 ·obtain ⟨i2, hi2⟩ : ∃ x, x = iv + 64 := ⟨_, rfl⟩
  have hi2m : i2 <= km := by omega
  have hcm : km <= c := by rw [hm]; exact hX.le
  obtain ⟨h', hh'⟩ : ∃ f, f = f8A (Sh.turn Sh.K256 (soA h) ((pl.drop (j * 64)).take 64)) := ⟨_, rfl⟩
  obtain ⟨c2, hc2⟩ : ∃ x, x = c - iv := ⟨_, rfl⟩
  have hB := cBlock32 hP (t := 5) h h' kf hkf iv c2 X ((pl.drop (j * 64)).take 64) (fun x hx => hpb x (List.mem_of_mem_drop (List.mem_of_mem_take hx))) (by rw [List.length_take, List.length_drop, <- hm]; omega) (by
   have h1 := hX.dat
   rw [by8_take, by8_drop, <- h1, <- hiv, List.drop_take, List.take_take]
   congr 1
   rw [<- hm]; omega) hX.b (by rw [hh]; exact Sh.ok8_tq (K := Sh.K256) (by decide) h8 pl j) (by rw [hh', soA_f8])
  have hSl : SlR P 143 (.slice 2 0 km c) (some (.i64, Int.ofNat iv)) (some (.i64, Int.ofNat i2)) (.slice 2 iv 64 c2) := by
   have := slr_lh (hP ▸ tblOk) (show tyT 143 = some _ from rfl) rfl 2 0 km c (k := .i64) (k' := .i64) (j := iv) (h := i2) (by omega) (by omega)
   rw [Nat.zero_add, Nat.mul_one, show i2 - iv = 64 by omega, <- hc2] at this
   exact this
  have g3 := e3 iv hlt
  rw [<- hi2] at g3
  cbv
  rw [e1]
  cbv
  rw [e2 iv hlt]
  cbv
  rw [g3]
  cbv
  refine step_slice hg rfl rfl rfl rfl rfl hSl ?_
  cbv
  refine call_gen rfl hg rfl rfl hB (fun l => if l = 0 then 0 else if l = 1 then 2 else 1) rfl ⟨rfl, by rw [rX]; rfl, rfl, trivial⟩ rfl rfl rfl ?_
  rintro _ _ _ ⟨rfl, rfl, rfl⟩ _
  refine ⟨rfl, ?_⟩
  cbv
  rw [g3]
  refine ⟨(j + 1, i2, h'), _root_.id, ⟨by show i2 = (j + 1) * 64; omega, hi2m, ?_⟩, (by show km - i2 < km - iv; omega), ?_⟩
  ·show soA h' = Sh.tq Sh.K256 (soA h0) pl (j + 1)
   rw [hh', soA_f8, Sh.tq, hh]; rfl
  ·exact wkih (by repeat' (first | exact trivial | refine ⟨rfl, rfl, rfl, ?_⟩ | refine ⟨rfl, rfl, hX.b 3, ?_⟩))
 ·obtain rfl : iv = km := by omega
  have hj : j = iv / 64 := by omega
  rw [<- hj, <- hh] at hof
  have h8h : Sh.ok8 32 (soA h) := by rw [hh]; exact Sh.ok8_tq (K := Sh.K256) (by decide) h8 pl j
  have hhl : ∀ i, i < 8 -> h i < 4294967296 := fun i hi => by
   have : i = 0 \/ i = 1 \/ i = 2 \/ i = 3 \/ i = 4 \/ i = 5 \/ i = 6 \/ i = 7 := by omega
   rcases this with rfl | rfl | rfl | rfl | rfl | rfl | rfl | rfl
   ·exact h8h.1
   ·exact h8h.2.1
   ·exact h8h.2.2.1
   ·exact h8h.2.2.2.1
   ·exact h8h.2.2.2.2.1
   ·exact h8h.2.2.2.2.2.1
   ·exact h8h.2.2.2.2.2.2.1
   ·exact h8h.2.2.2.2.2.2.2
  cbv
  rw [e1]
  cbv
  rw [e2f]
  cbv
  refine ⟨Nat × SV × LL, fun s => s.1 <= 8 /\ BRow 5 3 (obA h s.1) s.2.1 s.2.2, fun s => 8 - s.1, fun s => [(0, .int .i64 (Int.ofNat id)), (5, s.2.1), (6, .slice 0 0 8 8), (10, .int .i64 (Int.ofNat s.1))], fun s => ⟨0, lst .u32 (fun j => Int.ofNat (h j)) 0 8, 58⟩ :: s.2.2, 4, ⟨(0, .nils, []), _root_.id, ⟨Nat.zero_le _, BRow.nil _ _⟩, ?_⟩, ?_⟩
  ·exact wkid
  rintro ⟨i, v, B⟩ ⟨hi, hR⟩
  change i <= 8 at hi
  change BRow 5 3 (obA h i) v B at hR
  by_cases hlt : i < 8
  ·obtain ⟨x, hx⟩ : ∃ x, x = h i := ⟨_, rfl⟩
   have hxl : x < 4294967296 := by rw [hx]; exact hhl i hlt
   obtain ⟨a0, ha0⟩ : ∃ y, y = x / 2 ^ 24 := ⟨_, rfl⟩
   obtain ⟨a1, ha1⟩ : ∃ y, y = x / 2 ^ 16 := ⟨_, rfl⟩
   obtain ⟨a2, ha2⟩ : ∃ y, y = x / 2 ^ 8 := ⟨_, rfl⟩
   obtain ⟨y0, hy0⟩ : ∃ y, y = a0 % 256 := ⟨_, rfl⟩
   obtain ⟨y1, hy1⟩ : ∃ y, y = a1 % 256 := ⟨_, rfl⟩
   obtain ⟨y2, hy2⟩ : ∃ y, y = a2 % 256 := ⟨_, rfl⟩
   obtain ⟨y3, hy3⟩ : ∃ y, y = x % 256 := ⟨_, rfl⟩
   have g0 := e8 h i hlt
   rw [<- hx] at g0
   have p0 : sh .shr .u32 (Int.ofNat x) 24 = Int.ofNat a0 := (shrI hA (k := .u32) (a := x) (b := 24) (by decide)).trans (by rw [ha0])
   have p1 : sh .shr .u32 (Int.ofNat x) 16 = Int.ofNat a1 := (shrI hA (k := .u32) (a := x) (b := 16) (by decide)).trans (by rw [ha1])
   have p2 : sh .shr .u32 (Int.ofNat x) 8 = Int.ofNat a2 := (shrI hA (k := .u32) (a := x) (b := 8) (by decide)).trans (by rw [ha2])
   have fand : ∀ y, y < 4294967296 -> bin .and .u32 (Int.ofNat y) 255 = Int.ofNat (y % 256) := fun y h => (andW hA (k := .u32) rfl (a := y) (b := 255) h (by decide)).trans (congrArg Int.ofNat (by rw [show (255 : Nat) = 2 ^ 8 - 1 from rfl, Nat.and_two_pow_sub_one_eq_mod]))
   have q1 : bin .and .u32 (Int.ofNat a1) 255 = Int.ofNat y1 := (fand a1 (by omega)).trans (by rw [hy1])
   have q2 : bin .and .u32 (Int.ofNat a2) 255 = Int.ofNat y2 := (fand a2 (by omega)).trans (by rw [hy2])
   have q3 : bin .and .u32 (Int.ofNat x) 255 = Int.ofNat y3 := (fand x hxl).trans (by rw [hy3])
   have c0' : cvt .u8 (Int.ofNat a0) = Int.ofNat y0 := (cvt8A hA a0).trans (by rw [hy0])
   have cc : ∀ y, y < 256 -> cvt .u8 (Int.ofNat y) = Int.ofNat y := fun y h => (cvt8A hA y).trans (by rw [Nat.mod_eq_of_lt h])
   have k1 := cc y1 (by omega)
   have k2 := cc y2 (by omega)
   have k3 := cc y3 (by omega)
   have hnext : obA h (i + 1) = obA h i ++ [y0, y1, y2, y3] := by rw [obA_succ, be4, <- hx, hy0, hy1, hy2, hy3, ha0, ha1, ha2]
   have hbl := obA_len h i
   cbv
   rw [e4 i hlt]
   cbv
   refine reg_cA (hP ▸ tblOk) hA hg (hP ▸ mixed) rfl rfl [(28, [])] rfl ?_
   cbv
   rw [e6 i hlt]
   cbv
   rw [e7 i, g0]
   cbv
   rw [p0]
   cbv
   rw [c0']
   cbv
   rw [e6 i hlt]
   cbv
   rw [e7 i, g0]
   cbv
   rw [p1]
   cbv
   rw [q1]
   cbv
   rw [k1]
   cbv
   rw [e6 i hlt]
   cbv
   rw [e7 i, g0]
   cbv
   rw [p2]
   cbv
   rw [q2]
   cbv
   rw [k2]
   cbv
   rw [e6 i hlt]
   cbv
   rw [e7 i, g0]
   cbv
   rw [q3]
   cbv
   rw [k3]
   cbv
   refine step_bapp (hP ▸ tblOk) hg rfl rfl (show tyT 143 = some _ from rfl) rfl (show tyT 5 = some _ from rfl) hU8 rfl (L0 := [⟨0, lst .u32 (fun j => Int.ofNat (h j)) 0 8, 58⟩, ⟨4, [.int .u8 (Int.ofNat y0), .int .u8 (Int.ofNat y1), .int .u8 (Int.ofNat y2), .int .u8 (Int.ofNat y3)], 5⟩]) (B1 := B) (lb := 3) (Eq.trans (by cases B <;> rfl) (hR.mid (A := [⟨0, lst .u32 (fun j => Int.ofNat (h j)) 0 8, 58⟩]) (C := [⟨4, [.int .u8 (Int.ofNat y0), .int .u8 (Int.ofNat y1), .int .u8 (Int.ofNat y2), .int .u8 (Int.ofNat y3)], 5⟩]) rfl)) rfl rfl hR rfl rfl (d := [y0, y1, y2, y3]) (Or.inr ⟨4, 0, 4, 4, _, rfl, rfl, rfl, rfl⟩) (by show (obA h i).length + 4 <= _; rw [hbl]; omega) ?_
   intro v' B' hR'
   obtain ⟨k', c', X', hk', rfl, rfl, hX'⟩ := hR'.some (by simp)
   rw [<- hnext] at hk' hX'
   cbv
   rw [e5 i hlt]
   refine ⟨(i + 1, .slice 3 0 k' c', [⟨3, X', 5⟩]), fun l => if l = 3 then 5 else l, ⟨hlt, hX'.row hk' _ 3⟩, (by show 8 - (i + 1) < 8 - i; omega), ?_⟩
   exact weak_rho (by repeat' (first | exact trivial | refine ⟨rfl, rfl, ?_⟩)) ⟨rfl, rfl, rfl, rfl, by rw [renL_cl X' (hX'.b 0)]; rfl, rfl, rfl, hX'.b 4, trivial⟩ rfl rfl rfl
  ·obtain rfl : i = 8 := by omega
   have hol : (obA h 8).length = 32 := obA_len h 8
   obtain ⟨k4, c4, X4, hk4, rfl, rfl, hX4⟩ := hR.some (fun h => by rw [h] at hol; simp at hol)
   have hdgl : dg.size = z := by
    rw [<- bl_len, hof, <- obA_out, List.length_take, hol]; omega
   have hbt : X4.take z = bts dg := by
    have h1 := hX4.dat
    rw [bts_by8, hof, <- obA_out, by8_take, <- h1, List.take_take, Nat.min_eq_left (by rw [hol]; omega)]
   have hc4 : z <= c4 := by have := hX4.le; rw [hol] at this; omega
   cbv
   rw [e4f]
   cbv
   refine call_val rfl hg rfl rfl hSz ?_
   rintro _ _ _ rfl
   refine ⟨trivial, ?_⟩
   cbv
   refine step_slice hg rfl rfl rfl rfl rfl (slr_h (hP ▸ tblOk) (show tyT 143 = some _ from rfl) rfl 3 0 k4 c4 (j := z) hc4) ?_
   cbv
   refine step_string (hP ▸ tblOk) hg rfl rfl (show tyT 9 = some _ from rfl) rfl (show tyT 143 = some _ from rfl) rfl (hP ▸ Tryz.underlying5) rfl (show find _ 3 = some _ from rfl) (s := dg) (by rw [List.drop_zero]; exact hbt) hdgl ?_
   cbv
   exact hK _ _ _ rfl
def RO (P : Program) (id : Nat) : Prop := ∀ (s dg : ByteArray), s.size < 2 ^ 40 -> bl dg = Sh.of id (bl s) -> Con P 83 [.int .i64 (Int.ofNat id), .str s] [] 0 [] (fun v _ _ => v = .str dg)
theorem ro32 {P : Program} (hP : P = Tryz.prog) {id : Nat} (h : id = 1 \/ id = 2) : RO P id := fun s dg hs hd => by
 rcases h with rfl | rfl
 ·exact cROf32 hP 1 (f8A Sh.i224) (Or.inl ⟨rfl, rfl⟩) (by unfold Sh.ok8; decide) s dg hs hd
 ·exact cROf32 hP 2 (f8A Sh.i256) (Or.inr ⟨rfl, rfl⟩) (by unfold Sh.ok8; decide) s dg hs hd
set_option maxHeartbeats 1000000 in
theorem cRXor {P : Program} (hP : P = Tryz.prog) (id : Nat) (hid : 1 <= id /\ id <= 4) (hOf : RO P id) (key r : ByteArray) (x : Nat) (hx : x < 256) (hks : key.size < 2 ^ 40) (hr : bl r = (Sh.key id (bl key)).map (· ^^^ x)) :
 Con P 84 [.int .i64 (Int.ofNat id), .str key, .int .u8 (Int.ofNat x)] [] 0 [] (fun v _ _ => v = .str r) := by
 obtain ⟨k, hk⟩ : ∃ k, k = Sh.blk id := ⟨_, rfl⟩
 have hkb := Sh.size_blk hid
 rw [<- hk] at hkb
 have hBk := cRBlock hP id hid k hk
 obtain ⟨kz, hkz⟩ : ∃ x, x = key.size := ⟨_, rfl⟩
 have hU := bytesU8 hP
 refine Con.of (hP ▸ tblOk) (hP ▸ Tryz.func84) rfl rfl rfl rfl (by decide) rfl rfl (bdLB_bd _ rfl) (blks_bd rfl) ?_
 intro A g K hA hg hK
 obtain ⟨bin, _, cmp, _, _, ix, _, _, _, _, _, _, slen, _, nat, off, get, _, _, spl⟩ := A
 have f0 : ∀ i, i < k -> ix (Int.ofNat i) k = some i := fun i h => ix_of hA h
 have f1 : ∀ i, off 0 i 1 = i := fun i => (off_of hA 0 i 1).trans (by omega)
 have f2 : ∀ i, i < k -> cmp .lss (Int.ofNat i) (Int.ofNat k) = true := fun i h => lss_t hA h
 have f3 : cmp .lss (Int.ofNat k) (Int.ofNat k) = false := lss_f hA (by omega)
 have f4 : ∀ i, i < k -> bin .add .i64 (Int.ofNat i) 1 = Int.ofNat (i + 1) := fun i h => add_of hA (by omega)
 have f5 : nat k = Int.ofNat k := nat_of hA k
 have e1 : slen key = Int.ofNat kz := (slen_of hA key).trans (by rw [hkz])
 cbv
 rw [e1]
 cbv
 refine call_val rfl hg rfl rfl hBk ?_
 rintro _ _ _ rfl
 refine ⟨trivial, ?_⟩
 by_cases hlong : k < kz
 ·obtain ⟨kb, hkbb⟩ : ∃ b, bl b = Sh.of id (bl key) := ⟨mkB (Sh.of id (bl key)), bl_mkB (Sh.of_b _ _)⟩
  obtain ⟨m, hm⟩ : ∃ m, m = kb.size := ⟨_, rfl⟩
  have hmk : m <= k := by rw [hm, <- bl_len, hkbb, Sh.of_len hid]; exact hkb.1
  have hHo := hOf key kb hks hkbb
  cbv
  rw [show cmp .gtr (Int.ofNat kz) (Int.ofNat k) = true from gtr_t hA hlong]
  cbv
  refine call_val rfl hg rfl rfl hHo ?_
  rintro _ _ _ rfl
  refine ⟨trivial, ?_⟩
  obtain ⟨l, hl⟩ : ∃ l, l = bl kb ++ List.replicate (k - m) 0 := ⟨_, rfl⟩
  have hlk : l = Sh.key id (bl key) := by
   rw [hl]; unfold Sh.key; rw [bl_len, <- hk]
   rw [if_pos (by omega : k < key.size), hkbb, hm, <- bl_len, hkbb]
  have hll : l.length = k := by rw [hlk, Sh.key_len hid, hk]
  have hlb : ∀ i, l.getD i 0 < 256 := fun i => by
   rw [List.getD_eq_getElem?_getD]
   cases hq : l[i]? with
   | none => decide
   | some y => exact Sh.key_b id (bl key) (bl_lt key) y (by rw [<- hlk]; exact List.mem_of_getElem? hq)
  obtain ⟨C, hC⟩ : ∃ C : Nat -> List SV, C = fun i => by8 (XR l x i) := ⟨_, rfl⟩
  have bC : ∀ q i, bdLB q (C i) = true := fun q i => by rw [hC]; exact by8_bd q _
  have gC : ∀ i, i < k -> get (C i) i = some (.int .u8 (Int.ofNat (l.getD i 0))) := fun i h => by
   rw [hC]; have := XR_get (l := l) (x := x) (i := i) (by omega) []; rw [List.append_nil] at this; exact (get_of hA _ _).trans this
  have sC : ∀ i, i < k -> spl (C i) i [.int .u8 (Int.ofNat (l.getD i 0 ^^^ x))] = some (C (i + 1)) := fun i h => by
   rw [hC]
   refine (spl_of hA (by rw [by8_len, XR_len]; omega) _).trans ?_
   have := XR_set (l := l) (x := x) (i := i) (by omega) []
   rw [List.append_nil, List.append_nil] at this
   rw [this]
  have hC0 : bts kb ++ (List.replicate k (SV.int .u8 0)).drop kb.size = C 0 := by
   rw [hC, <- hm, List.drop_replicate, bts_by8]
   show _ = by8 ([].map _ ++ l.drop 0)
   rw [List.drop_zero, hl]
   simp [by8]
  have hCk : ((C k).drop 0).take k = bts r := by
   rw [hC, List.drop_zero]
   show (by8 (XR l x k)).take k = _
   unfold XR
   rw [<- hll, List.take_length, List.drop_length, List.append_nil, List.take_of_length_le (by rw [by8_len, List.length_map]; exact Nat.le_refl _), bts_by8, hr, hlk]
  have hrs : r.size = k := by rw [<- bl_len, hr, List.length_map, Sh.key_len hid, hk]
  clear hC
  cbv
  refine call_val rfl hg rfl rfl hBk ?_
  rintro _ _ _ rfl
  refine ⟨trivial, ?_⟩
  cbv
  refine step_make (hP ▸ tblOk) hg rfl rfl (show tyT 143 = some _ from rfl) rfl (show tyT 5 = some _ from rfl) hU rfl rfl rfl (by omega) (by omega) ?_
  obtain ⟨Z, hZ⟩ : ∃ Z : List SV, Z = List.replicate k (SV.int .u8 0) := ⟨_, rfl⟩
  have hZl : Z.length = k := by rw [hZ, List.length_replicate]
  rw [<- hZ] at hC0 ⊢
  cbv
  refine step_copy_str (hP ▸ tblOk) hg rfl rfl (show tyT 143 = some _ from rfl) rfl (show ev _ _ = some (.slice 0 0 k k) from rfl) (show find _ 0 = some _ from rfl) rfl (d := kb) rfl (by omega) (by omega) ?_
  rw [hC0]
  clear hC0 hZ hZl
  cbv
  refine loop_by Nat (fun i => i <= k) (fun i => k - i) (fun i => [(8, .int .i64 (Int.ofNat i))]) [2, 7] (fun i => [(0, C i)]) 0 (Nat.zero_le _) ?_ ?_
  ·exact wkih (by repeat' (first | exact trivial | refine ⟨rfl, rfl, rfl, ?_⟩ | refine ⟨rfl, rfl, bC 1 0, ?_⟩))
  intro i hi
  by_cases hlt : i < k
  ·obtain ⟨y, hy⟩ : ∃ y, y = l.getD i 0 := ⟨_, rfl⟩
   obtain ⟨w, hw⟩ : ∃ w, w = y ^^^ x := ⟨_, rfl⟩
   have hx8 : bin .xor .u8 (Int.ofNat y) (Int.ofNat x) = Int.ofNat w := (xorW hA rfl (by rw [hy]; exact hlb i) hx).trans (by rw [hw])
   have g1 := gC i hlt
   have g2 := sC i hlt
   rw [<- hy] at g1 g2
   rw [<- hw] at g2
   cbv
   rw [f5]
   cbv
   rw [f2 i hlt]
   cbv
   rw [f0 i hlt]
   cbv
   rw [f1 i, g1]
   cbv
   rw [hx8, f0 i hlt]
   cbv
   rw [f1 i, g2]
   cbv
   rw [f4 i hlt]
   refine ⟨i + 1, _root_.id, hlt, (by show k - (i + 1) < k - i; omega), ?_⟩
   exact wkih (by repeat' (first | exact trivial | refine ⟨rfl, rfl, rfl, ?_⟩ | refine ⟨rfl, rfl, bC 1 (i + 1), ?_⟩))
  ·obtain rfl : i = k := by omega
   cbv
   rw [f5]
   cbv
   rw [f3]
   cbv
   refine step_string (hP ▸ tblOk) hg rfl rfl (show tyT 9 = some _ from rfl) rfl (show tyT 143 = some _ from rfl) rfl (hP ▸ Tryz.underlying5) rfl (show find _ 0 = some _ from rfl) hCk hrs ?_
   cbv
   exact hK _ _ _ rfl
 ·obtain ⟨kb, hkbb⟩ : ∃ b, b = key := ⟨_, rfl⟩
  obtain ⟨m, hm⟩ : ∃ m, m = kb.size := ⟨_, rfl⟩
  have hmk : m <= k := by rw [hm, hkbb]; omega
  rw [<- hkbb] at e1 ⊢
  cbv
  rw [show cmp .gtr (Int.ofNat kz) (Int.ofNat k) = false from gtr_f hA (by omega)]
  obtain ⟨l, hl⟩ : ∃ l, l = bl kb ++ List.replicate (k - m) 0 := ⟨_, rfl⟩
  have hlk : l = Sh.key id (bl key) := by
   rw [hl]; unfold Sh.key; rw [bl_len, <- hk]
   rw [if_neg (by omega : ¬ k < key.size), hm, hkbb, <- bl_len]
  have hll : l.length = k := by rw [hlk, Sh.key_len hid, hk]
  have hlb : ∀ i, l.getD i 0 < 256 := fun i => by
   rw [List.getD_eq_getElem?_getD]
   cases hq : l[i]? with
   | none => decide
   | some y => exact Sh.key_b id (bl key) (bl_lt key) y (by rw [<- hlk]; exact List.mem_of_getElem? hq)
  obtain ⟨C, hC⟩ : ∃ C : Nat -> List SV, C = fun i => by8 (XR l x i) := ⟨_, rfl⟩
  have bC : ∀ q i, bdLB q (C i) = true := fun q i => by rw [hC]; exact by8_bd q _
  have gC : ∀ i, i < k -> get (C i) i = some (.int .u8 (Int.ofNat (l.getD i 0))) := fun i h => by
   rw [hC]; have := XR_get (l := l) (x := x) (i := i) (by omega) []; rw [List.append_nil] at this; exact (get_of hA _ _).trans this
  have sC : ∀ i, i < k -> spl (C i) i [.int .u8 (Int.ofNat (l.getD i 0 ^^^ x))] = some (C (i + 1)) := fun i h => by
   rw [hC]
   refine (spl_of hA (by rw [by8_len, XR_len]; omega) _).trans ?_
   have := XR_set (l := l) (x := x) (i := i) (by omega) []
   rw [List.append_nil, List.append_nil] at this
   rw [this]
  have hC0 : bts kb ++ (List.replicate k (SV.int .u8 0)).drop kb.size = C 0 := by
   rw [hC, <- hm, List.drop_replicate, bts_by8]
   show _ = by8 ([].map _ ++ l.drop 0)
   rw [List.drop_zero, hl]
   simp [by8]
  have hCk : ((C k).drop 0).take k = bts r := by
   rw [hC, List.drop_zero]
   show (by8 (XR l x k)).take k = _
   unfold XR
   rw [<- hll, List.take_length, List.drop_length, List.append_nil, List.take_of_length_le (by rw [by8_len, List.length_map]; exact Nat.le_refl _), bts_by8, hr, hlk]
  have hrs : r.size = k := by rw [<- bl_len, hr, List.length_map, Sh.key_len hid, hk]
  clear hC
  cbv
  refine call_val rfl hg rfl rfl hBk ?_
  rintro _ _ _ rfl
  refine ⟨trivial, ?_⟩
  cbv
  refine step_make (hP ▸ tblOk) hg rfl rfl (show tyT 143 = some _ from rfl) rfl (show tyT 5 = some _ from rfl) hU rfl rfl rfl (by omega) (by omega) ?_
  obtain ⟨Z, hZ⟩ : ∃ Z : List SV, Z = List.replicate k (SV.int .u8 0) := ⟨_, rfl⟩
  have hZl : Z.length = k := by rw [hZ, List.length_replicate]
  rw [<- hZ] at hC0 ⊢
  cbv
  refine step_copy_str (hP ▸ tblOk) hg rfl rfl (show tyT 143 = some _ from rfl) rfl (show ev _ _ = some (.slice 0 0 k k) from rfl) (show find _ 0 = some _ from rfl) rfl (d := kb) rfl (by omega) (by omega) ?_
  rw [hC0]
  clear hC0 hZ hZl
  cbv
  refine loop_by Nat (fun i => i <= k) (fun i => k - i) (fun i => [(8, .int .i64 (Int.ofNat i))]) [2, 7] (fun i => [(0, C i)]) 0 (Nat.zero_le _) ?_ ?_
  ·exact wkih (by repeat' (first | exact trivial | refine ⟨rfl, rfl, rfl, ?_⟩ | refine ⟨rfl, rfl, bC 1 0, ?_⟩))
  intro i hi
  by_cases hlt : i < k
  ·obtain ⟨y, hy⟩ : ∃ y, y = l.getD i 0 := ⟨_, rfl⟩
   obtain ⟨w, hw⟩ : ∃ w, w = y ^^^ x := ⟨_, rfl⟩
   have hx8 : bin .xor .u8 (Int.ofNat y) (Int.ofNat x) = Int.ofNat w := (xorW hA rfl (by rw [hy]; exact hlb i) hx).trans (by rw [hw])
   have g1 := gC i hlt
   have g2 := sC i hlt
   rw [<- hy] at g1 g2
   rw [<- hw] at g2
   cbv
   rw [f5]
   cbv
   rw [f2 i hlt]
   cbv
   rw [f0 i hlt]
   cbv
   rw [f1 i, g1]
   cbv
   rw [hx8, f0 i hlt]
   cbv
   rw [f1 i, g2]
   cbv
   rw [f4 i hlt]
   refine ⟨i + 1, _root_.id, hlt, (by show k - (i + 1) < k - i; omega), ?_⟩
   exact wkih (by repeat' (first | exact trivial | refine ⟨rfl, rfl, rfl, ?_⟩ | refine ⟨rfl, rfl, bC 1 (i + 1), ?_⟩))
  ·obtain rfl : i = k := by omega
   cbv
   rw [f5]
   cbv
   rw [f3]
   cbv
   refine step_string (hP ▸ tblOk) hg rfl rfl (show tyT 9 = some _ from rfl) rfl (show tyT 143 = some _ from rfl) rfl (hP ▸ Tryz.underlying5) rfl (show find _ 0 = some _ from rfl) hCk hrs ?_
   cbv
   exact hK _ _ _ rfl
theorem cRHmac {P : Program} (hP : P = Tryz.prog) (id : Nat) (hid : 1 <= id /\ id <= 4) (hOf : RO P id) (key msg dg : ByteArray) (hks : key.size < 2 ^ 40) (hms : msg.size < 2 ^ 39) (hdg : bl dg = Sh.hmac id (bl key) (bl msg)) :
 Con P 54 [.int .i64 (Int.ofNat id), .str key, .str msg] [] 0 [] (fun v _ _ => v = .str dg) := by
 have hkk := Sh.key_b id (bl key) (bl_lt key)
 have hkb := Sh.size_blk hid
 obtain ⟨ip, hip⟩ : ∃ b, bl b = (Sh.key id (bl key)).map (· ^^^ 54) := ⟨mkB ((Sh.key id (bl key)).map (· ^^^ 54)), bl_mkB (Sh.xor_b hkk (by decide))⟩
 obtain ⟨ok, hok⟩ : ∃ b, bl b = (Sh.key id (bl key)).map (· ^^^ 92) := ⟨mkB ((Sh.key id (bl key)).map (· ^^^ 92)), bl_mkB (Sh.xor_b hkk (by decide))⟩
 have his : ip.size <= 128 := by rw [<- bl_len, hip, List.length_map, Sh.key_len hid]; omega
 have hos : ok.size <= 128 := by rw [<- bl_len, hok, List.length_map, Sh.key_len hid]; omega
 obtain ⟨m1, hm1⟩ : ∃ x, x = ip ++ msg := ⟨_, rfl⟩
 obtain ⟨d1, hd1⟩ : ∃ b, bl b = Sh.of id (bl m1) := ⟨mkB (Sh.of id (bl m1)), bl_mkB (Sh.of_b _ _)⟩
 obtain ⟨m2, hm2⟩ : ∃ x, x = ok ++ d1 := ⟨_, rfl⟩
 have hm1s : m1.size = ip.size + msg.size := by rw [hm1, ByteArray.size_append]
 have hd1s : d1.size = Sh.size id := by rw [<- bl_len, hd1, Sh.of_len hid]
 have hm2s : m2.size = ok.size + d1.size := by rw [hm2, ByteArray.size_append]
 have hXi := cRXor hP id hid hOf key ip 54 (by decide) hks hip
 have hXo := cRXor hP id hid hOf key ok 92 (by decide) hks hok
 have hO1 := hOf m1 d1 (by omega) hd1
 have hO2 := hOf m2 dg (by omega) (by rw [hdg, hm2, bl_app, hok, hd1, hm1, bl_app, hip]; rfl)
 clear hip hok hd1 hdg hkk
 refine Con.of (hP ▸ tblOk) (hP ▸ Tryz.func54) rfl rfl rfl rfl (by decide) rfl rfl (bdLB_bd _ rfl) (blks_bd rfl) ?_
 intro A g K hA hg hK
 obtain ⟨_, _, _, _, _, _, _, _, _, _, scat⟩ := A
 have e1 : scat ip msg = some m1 := (scat_of hA (by omega)).trans (by rw [hm1])
 have e2 : scat ok d1 = some m2 := (scat_of hA (by omega)).trans (by rw [hm2])
 cbv
 refine call_val rfl hg rfl rfl hXo ?_
 rintro _ _ _ rfl
 refine ⟨trivial, ?_⟩
 cbv
 refine call_val rfl hg rfl rfl hXi ?_
 rintro _ _ _ rfl
 refine ⟨trivial, ?_⟩
 cbv
 rw [e1]
 cbv
 refine call_val rfl hg rfl rfl hO1 ?_
 rintro _ _ _ rfl
 refine ⟨trivial, ?_⟩
 cbv
 rw [e2]
 cbv
 refine call_val rfl hg rfl rfl hO2 ?_
 rintro _ _ _ rfl
 refine ⟨trivial, ?_⟩
 cbv
 exact hK _ _ _ rfl
set_option maxHeartbeats 1000000 in
theorem cRUpd {P : Program} (hP : P = Tryz.prog) (id : Nat) (hid : 1 <= id /\ id <= 4) (hOf : RO P id) (k v s : ByteArray) (n : Nat) (hks : k.size <= 64) (hvs : v.size <= 64) (hss : s.size < 2 ^ 20) (k' v' : ByteArray) (hk' : bl k' = (Sh.upd ⟨id, bl k, bl v, n⟩ (bl s)).k) (hv' : bl v' = (Sh.upd ⟨id, bl k, bl v, n⟩ (bl s)).v) :
 Con P 53 [.ptr 0 0, .str s] [⟨0, [.int .i64 (Int.ofNat id), .str k, .str v, .int .i64 (Int.ofNat n)], 73⟩] 1 [0] (fun w L q => w = .tup [] /\ L = [⟨0, [.int .i64 (Int.ofNat id), .str k', .str v', .int .i64 (Int.ofNat n)], 73⟩] /\ q = 1) := by
 suffices raw : Con P 53 [.ptr 0 0, .str s] [⟨0, [.int .i64 (Int.ofNat id), .str k, .str v, .int .i64 (Int.ofNat n)], 73⟩] 1 [0] (fun w L q => w = .tup [] /\ find L 0 = some ⟨0, [.int .i64 (Int.ofNat id), .str k', .str v', .int .i64 (Int.ofNat n)], 73⟩) from
  raw.weak fun w L q ⟨h1, h2⟩ => ⟨_root_.id, .tup [], _, 1, by subst h1; exact weak_id ⟨rfl, rfl, trivial⟩ ⟨h2, rfl, rfl, trivial⟩ rfl rfl, rfl, rfl, rfl⟩
 have hsz := kvB_sz id hid (bl s) k v hks hvs
 have hu := fun i hi => kvB_upd id (bl s) k v n i hi
 have hK1 : ∀ i, bl (kvB id (bl s) k v (i + 1)).1 = Sh.hmac id (bl (kvB id (bl s) k v i).1) (bl (kvB id (bl s) k v i).2 ++ [i] ++ bl s) := fun i => by rw [kvB, bl_mkB (Sh.hmac_b _ _ _)]
 have hV1 : ∀ i, bl (kvB id (bl s) k v (i + 1)).2 = Sh.hmac id (bl (kvB id (bl s) k v (i + 1)).1) (bl (kvB id (bl s) k v i).2) := fun i => by rw [kvB, bl_mkB (Sh.hmac_b _ _ _)]
 obtain ⟨k1, hk1⟩ : ∃ x, x = (kvB id (bl s) k v 1).1 := ⟨_, rfl⟩
 obtain ⟨v1, hv1⟩ : ∃ x, x = (kvB id (bl s) k v 1).2 := ⟨_, rfl⟩
 obtain ⟨k2, hk2⟩ : ∃ x, x = (kvB id (bl s) k v 2).1 := ⟨_, rfl⟩
 obtain ⟨v2, hv2⟩ : ∃ x, x = (kvB id (bl s) k v 2).2 := ⟨_, rfl⟩
 have s1 := hsz 1
 have s2 := hsz 2
 have b1 := hK1 0
 have c1 := hV1 0
 have b2 := hK1 1
 have c2 := hV1 1
 simp only [Nat.zero_add, Nat.reduceAdd] at b1 c1 b2 c2
 rw [<- hk1, <- hv1] at s1
 rw [<- hk2, <- hv2] at s2
 rw [<- hk1] at b1
 rw [<- hk1, <- hv1] at c1
 rw [<- hk1, <- hv1, <- hk2] at b2
 rw [<- hk2, <- hv1, <- hv2] at c2
 have u1 : bl s = [] -> k1 = k' /\ v1 = v' := fun h => by
  have := hu 1 (by rw [if_pos h])
  rw [<- hk1, <- hv1] at this
  exact ⟨bl_inj (this.1.trans hk'.symm), bl_inj (this.2.trans hv'.symm)⟩
 have u2 : bl s ≠ [] -> k2 = k' /\ v2 = v' := fun h => by
  have := hu 2 (by rw [if_neg h])
  rw [<- hk2, <- hv2] at this
  exact ⟨bl_inj (this.1.trans hk'.symm), bl_inj (this.2.trans hv'.symm)⟩
 obtain ⟨m1, hm1⟩ : ∃ m, m = v ++ ByteArray.mk #[0] := ⟨_, rfl⟩
 obtain ⟨m2, hm2⟩ : ∃ m, m = m1 ++ s := ⟨_, rfl⟩
 obtain ⟨m3, hm3⟩ : ∃ m, m = v1 ++ ByteArray.mk #[1] := ⟨_, rfl⟩
 obtain ⟨m4, hm4⟩ : ∃ m, m = m3 ++ s := ⟨_, rfl⟩
 have z1 : m1.size <= 65 := by rw [hm1, ByteArray.size_append]; show v.size + 1 <= 65; omega
 have z2 : m2.size < 2 ^ 21 := by rw [hm2, ByteArray.size_append]; omega
 have z3 : m3.size <= 65 := by rw [hm3, ByteArray.size_append]; show v1.size + 1 <= 65; omega
 have z4 : m4.size < 2 ^ 21 := by rw [hm4, ByteArray.size_append]; omega
 have hA1 := cRHmac hP id hid hOf k m2 k1 (by omega) (by omega) (by rw [b1, hm2, bl_app, hm1, bl_app]; rfl)
 have hB1 := cRHmac hP id hid hOf k1 v v1 (by omega) (by omega) c1
 have hA2 := cRHmac hP id hid hOf k1 m4 k2 (by omega) (by omega) (by rw [b2, hm4, bl_app, hm3, bl_app]; rfl)
 have hB2 := cRHmac hP id hid hOf k2 v1 v2 (by omega) (by omega) c2
 clear hu hK1 hV1 hk1 hv1 hk2 hv2 b1 c1 b2 c2 hsz hk' hv'
 refine Con.of (hP ▸ tblOk) (hP ▸ Tryz.func53) rfl rfl rfl rfl (by decide) rfl rfl ⟨(by show 0 < 1; decide), trivial, trivial⟩ (blks_bd rfl) ?_
 intro A g K hA hg hK
 obtain ⟨_, _, _, _, _, _, _, _, _, _, scat, scmp⟩ := A
 have e1 : scat v (ByteArray.mk #[0]) = some m1 := (scat_of hA (by show v.size + 1 < _; omega)).trans (by rw [hm1])
 have e2 : scat m1 s = some m2 := (scat_of hA (by omega)).trans (by rw [hm2])
 have e3 : scat v1 (ByteArray.mk #[1]) = some m3 := (scat_of hA (by show v1.size + 1 < _; omega)).trans (by rw [hm3])
 have e4 : scat m3 s = some m4 := (scat_of hA (by omega)).trans (by rw [hm4])
 have f6 : scmp .neq s (ByteArray.mk #[]) = !decide (bl s = []) := by
  have e : scmp = Ar.real.scmp := congrArg Ar.scmp hA
  rw [e]
  exact strCmp_nilN s
 cbv
 refine reg_A (hP ▸ tblOk) hA hg (hP ▸ mixed) rfl rfl ?_
 cbv
 rw [e1]
 cbv
 rw [e2]
 cbv
 refine stepD (en_val rfl hg rfl rfl hA1 (fun _ _ _ h => h) trivial) ?_
 cbv
 refine reg_A (hP ▸ tblOk) hA hg (hP ▸ mixed) rfl rfl ?_
 cbv
 refine stepD (en_val rfl hg rfl rfl hB1 (fun _ _ _ h => h) trivial) ?_
 cbv
 rw [f6]
 by_cases hs : bl s = []
 ·rw [decide_eq_true hs]
  cbv
  exact hK _ _ _ ⟨rfl, by rw [<- (u1 hs).1, <- (u1 hs).2]; rfl⟩
 ·rw [decide_eq_false hs]
  cbv
  refine reg_A (hP ▸ tblOk) hA hg (hP ▸ mixed) rfl rfl ?_
  cbv
  rw [e3]
  cbv
  rw [e4]
  cbv
  refine stepD (en_val rfl hg rfl rfl hA2 (fun _ _ _ h => h) trivial) ?_
  cbv
  refine reg_A (hP ▸ tblOk) hA hg (hP ▸ mixed) rfl rfl ?_
  cbv
  refine stepD (en_val rfl hg rfl rfl hB2 (fun _ _ _ h => h) trivial) ?_
  cbv
  exact hK _ _ _ ⟨rfl, by rw [<- (u2 hs).1, <- (u2 hs).2]; rfl⟩
set_option maxHeartbeats 1000000 in
theorem cRNew {P : Program} (hP : P = Tryz.prog) (id : Nat) (hid : 1 <= id /\ id <= 4) (hOf : RO P id) (e a b : ByteArray) (he : Sh.size id <= 2 * e.size /\ e.size <= 256) (ha : a.size <= 256) (hb : b.size <= 256) (k v : ByteArray) (hk : bl k = (Sh.new id (bl e ++ bl a ++ bl b)).k) (hv : bl v = (Sh.new id (bl e ++ bl a ++ bl b)).v) :
 Con P 47 [.int .i64 (Int.ofNat id), .str e, .str a, .str b] [] 0 [] (fun w L q => w = .tup [.ptr 0 0, .int .i64 0] /\ L = [⟨0, [.int .i64 (Int.ofNat id), .str k, .str v, .int .i64 1], 73⟩] /\ q = 1) := by
 obtain ⟨z, hz⟩ : ∃ z, z = Sh.size id := ⟨_, rfl⟩
 have hzb := Sh.size_blk hid
 rw [<- hz] at hzb he
 have hS := cRSize hP id hid z hz
 obtain ⟨k0, hk0⟩ : ∃ b, bl b = List.replicate z 0 := ⟨mkB (List.replicate z 0), bl_mkB fun x hx => by rw [(List.mem_replicate.1 hx).2]; decide⟩
 obtain ⟨v0, hv0⟩ : ∃ b, bl b = List.replicate z 1 := ⟨mkB (List.replicate z 1), bl_mkB fun x hx => by rw [(List.mem_replicate.1 hx).2]; decide⟩
 have hk0s : k0.size = z := by rw [<- bl_len, hk0, List.length_replicate]
 have hv0s : v0.size = z := by rw [<- bl_len, hv0, List.length_replicate]
 have hR0 := cSame hP z 0 (by decide) (by omega) k0 hk0
 have hR1 := cSame hP z 1 (by decide) (by omega) v0 hv0
 obtain ⟨m1, hm1⟩ : ∃ x, x = e ++ a := ⟨_, rfl⟩
 obtain ⟨m2, hm2⟩ : ∃ x, x = m1 ++ b := ⟨_, rfl⟩
 have hm1s : m1.size = e.size + a.size := by rw [hm1, ByteArray.size_append]
 have hm2s : m2.size = m1.size + b.size := by rw [hm2, ByteArray.size_append]
 have hm2b : bl m2 = bl e ++ bl a ++ bl b := by rw [hm2, bl_app, hm1, bl_app]
 have hU : Con P 53 [.ptr 0 0, .str m2] [⟨0, [.int .i64 (Int.ofNat id), .str k0, .str v0, .int .i64 1], 73⟩] 1 [0] (fun w L q => w = .tup [] /\ L = [⟨0, [.int .i64 (Int.ofNat id), .str k, .str v, .int .i64 1], 73⟩] /\ q = 1) :=
  cRUpd hP id hid hOf k0 v0 m2 1 (by omega) (by omega) (by omega) k v (by rw [hk, hm2b, hk0, hv0, hz]; rfl) (by rw [hv, hm2b, hk0, hv0, hz]; rfl)
 suffices raw : Con P 47 [.int .i64 (Int.ofNat id), .str e, .str a, .str b] [] 0 [] (fun w L q => ∃ l, w = .tup [.ptr l 0, .int .i64 0] /\ find L l = some ⟨l, [.int .i64 (Int.ofNat id), .str k, .str v, .int .i64 1], 73⟩) from
  raw.weak fun w L q ⟨l, h1, h2⟩ => ⟨fun _ => l, .tup [.ptr 0 0, .int .i64 0], _, 1, by subst h1; exact weak_rho ⟨rfl, rfl, trivial⟩ ⟨h2, rfl, rfl, rfl, trivial⟩ rfl rfl rfl, rfl, rfl, rfl⟩
 clear hk hv hk0 hv0
 obtain ⟨ez, hez⟩ : ∃ x, x = e.size := ⟨_, rfl⟩
 obtain ⟨az, haz⟩ : ∃ x, x = a.size := ⟨_, rfl⟩
 obtain ⟨bz, hbz⟩ : ∃ x, x = b.size := ⟨_, rfl⟩
 obtain ⟨e2, he2⟩ : ∃ x, x = 2 * ez := ⟨_, rfl⟩
 refine Con.of (hP ▸ tblOk) (hP ▸ Tryz.func47) rfl rfl rfl rfl (by decide) rfl rfl (bdLB_bd _ rfl) (blks_bd rfl) ?_
 intro A g K hA hg hK
 obtain ⟨bin, _, cmp, _, _, _, _, _, _, _, scat, _, slen⟩ := A
 have g1 : cmp .eql (Int.ofNat z) 0 = false := eql_f hA (a := z) (b := 0) (by omega)
 have g2 : scat e a = some m1 := (scat_of hA (by omega)).trans (by rw [hm1])
 have g3 : scat m1 b = some m2 := (scat_of hA (by omega)).trans (by rw [hm2])
 have s1 : slen e = Int.ofNat ez := (slen_of hA e).trans (by rw [hez])
 have s2 : slen a = Int.ofNat az := (slen_of hA a).trans (by rw [haz])
 have s3 : slen b = Int.ofNat bz := (slen_of hA b).trans (by rw [hbz])
 have g4 : bin .mul .i64 2 (Int.ofNat ez) = Int.ofNat e2 := (mulI hA (a := 2) (b := ez) (by omega)).trans (by rw [he2])
 have g5 : cmp .lss (Int.ofNat e2) (Int.ofNat z) = false := lss_f hA (by omega)
 have g6 : ∀ x, x <= 256 -> cmp .gtr (Int.ofNat x) 256 = false := fun x h => gtr_f hA (a := x) (b := 256) (by omega)
 have g7 := g6 ez (by omega)
 have g8 := g6 az (by omega)
 have g9 := g6 bz (by omega)
 cbv
 refine call_val rfl hg rfl rfl hS ?_
 rintro _ _ _ rfl
 refine ⟨trivial, ?_⟩
 cbv
 rw [g1]
 cbv
 rw [s1]
 cbv
 rw [g4]
 cbv
 refine call_val rfl hg rfl rfl hS ?_
 rintro _ _ _ rfl
 refine ⟨trivial, ?_⟩
 cbv
 rw [g5]
 cbv
 rw [s1]
 cbv
 rw [g7]
 cbv
 rw [s2]
 cbv
 rw [g8]
 cbv
 rw [s3]
 cbv
 rw [g9]
 cbv
 refine call_val rfl hg rfl rfl hS ?_
 rintro _ _ _ rfl
 refine ⟨trivial, ?_⟩
 cbv
 refine call_val rfl hg rfl rfl hR0 ?_
 rintro _ _ _ rfl
 refine ⟨trivial, ?_⟩
 cbv
 refine call_val rfl hg rfl rfl hS ?_
 rintro _ _ _ rfl
 refine ⟨trivial, ?_⟩
 cbv
 refine call_val rfl hg rfl rfl hR1 ?_
 rintro _ _ _ rfl
 refine ⟨trivial, ?_⟩
 cbv
 rw [g2]
 cbv
 rw [g3]
 cbv
 refine call_gen rfl hg rfl rfl hU (fun _ => 0) rfl ⟨rfl, trivial⟩ rfl rfl rfl ?_
 rintro _ _ _ ⟨rfl, rfl, rfl⟩ _
 refine ⟨rfl, ?_⟩
 cbv
 exact hK _ _ _ ⟨0, rfl, rfl⟩
theorem cNum {P : Program} (hP : P = Tryz.prog) (x : Int) : Con P 14 [.int .i64 x] [] 0 [] (fun v _ _ => v = .int .i64 x) := by
 refine Con.of (hP ▸ tblOk) (hP ▸ Tryz.func14) rfl rfl rfl rfl (by decide) rfl rfl (bdLB_bd _ rfl) (blks_bd rfl) ?_
 intro A g K hA hg hK
 cases A
 cbv
 exact hK _ _ _ rfl
theorem cOne {P : Program} (hP : P = Tryz.prog) (x : Nat) (r : Nat -> Nat) (hr : r = fun j => if j = 0 then x else 0) : Con P 26 [.int .u64 (Int.ofNat x)] [] 0 [] (fun v _ _ => v = .agg (ws r 9)) := by
 have e : ws r 9 = [.int .u64 (Int.ofNat x), .int .u64 0, .int .u64 0, .int .u64 0, .int .u64 0, .int .u64 0, .int .u64 0, .int .u64 0, .int .u64 0] := by rw [hr]; rfl
 rw [e]
 clear hr e
 refine Con.of (hP ▸ tblOk) (hP ▸ Tryz.func26) rfl rfl rfl rfl (by decide) rfl rfl (bdLB_bd _ rfl) (blks_bd rfl) ?_
 intro A g K hA hg hK
 cases A
 cbv
 exact hK _ _ _ rfl
def seedL (l : List Nat) : List Nat := (l ++ [48, 49, 50, 51, 52, 53, 54, 55, 56, 57, 97, 98, 99, 100, 101, 102]).take 200
theorem cSeeded {P : Program} (hP : P = Tryz.prog) (s k v : ByteArray) (hs : s.size < 2 ^ 62) (hk : bl k = (Sh.new 2 (seedL (bl s))).k) (hv : bl v = (Sh.new 2 (seedL (bl s))).v) :
 Con P 20 [.str s] [] 0 [] (fun w L q => w = .tup [.ptr 0 0, .ptr 1 0, .bool true] /\ L = [⟨0, [.int .i64 (Int.ofNat 2), .str k, .str v, .int .i64 1], 100⟩, ⟨1, [.int .i64 (Int.ofNat 2), .str k, .str v, .int .i64 1], 73⟩] /\ q = 2) := by
 obtain ⟨lit, hlit⟩ : ∃ b : ByteArray, b = ⟨#[48, 49, 50, 51, 52, 53, 54, 55, 56, 57, 97, 98, 99, 100, 101, 102]⟩ := ⟨_, rfl⟩
 have hlb : bl lit = [48, 49, 50, 51, 52, 53, 54, 55, 56, 57, 97, 98, 99, 100, 101, 102] := by rw [hlit]; rfl
 have hls : lit.size = 16 := by rw [hlit]; rfl
 obtain ⟨t, ht⟩ : ∃ t, t = s ++ lit := ⟨_, rfl⟩
 have hts : t.size = s.size + 16 := by rw [ht, ByteArray.size_append, hls]
 have htb : bl t = bl s ++ [48, 49, 50, 51, 52, 53, 54, 55, 56, 57, 97, 98, 99, 100, 101, 102] := by rw [ht, bl_app, hlb]
 obtain ⟨u, hu⟩ : ∃ u, u = t.extract 0 200 := ⟨_, rfl⟩
 have hub : bl u = seedL (bl s) := by rw [hu, bl_extract, htb]; rfl
 have hus : 16 <= u.size /\ u.size <= 200 := by
  rw [<- bl_len, hu, bl_extract, List.length_take, bl_len, hts]; omega
 have hN : Con P 46 [.int .i64 (Int.ofNat 2), .str u, .str ⟨#[]⟩, .str ⟨#[]⟩] [] 0 [] _ := cDNew hP 2 (by decide) u ⟨#[]⟩ ⟨#[]⟩ ⟨by show 16 <= _; omega, by omega⟩ (by decide) (by decide) k v (by rw [hk, hub]; show _ = (Sh.new 2 (seedL (bl s) ++ [] ++ [])).k; rw [List.append_nil, List.append_nil]) (by rw [hv, hub]; show _ = (Sh.new 2 (seedL (bl s) ++ [] ++ [])).v; rw [List.append_nil, List.append_nil])
 have hR : Con P 47 [.int .i64 (Int.ofNat 2), .str u, .str ⟨#[]⟩, .str ⟨#[]⟩] [] 0 [] _ := cRNew hP 2 (by decide) (ro32 hP (Or.inr rfl)) u ⟨#[]⟩ ⟨#[]⟩ ⟨by show 32 <= _; omega, by omega⟩ (by decide) (by decide) k v (by rw [hk, hub]; show _ = (Sh.new 2 (seedL (bl s) ++ [] ++ [])).k; rw [List.append_nil, List.append_nil]) (by rw [hv, hub]; show _ = (Sh.new 2 (seedL (bl s) ++ [] ++ [])).v; rw [List.append_nil, List.append_nil])
 have hNu := cNum hP 0
 obtain ⟨tz, htz⟩ : ∃ x, x = t.size := ⟨_, rfl⟩
 clear hk hv hub hlb
 refine Con.of (hP ▸ tblOk) (hP ▸ Tryz.func20) rfl rfl rfl rfl (by decide) rfl rfl (bdLB_bd _ rfl) (blks_bd rfl) ?_
 intro A g K hA hg hK
 obtain ⟨_, _, cmp, _, _, _, _, _, _, _, scat, _, slen⟩ := A
 have e1 : scat s ⟨#[48, 49, 50, 51, 52, 53, 54, 55, 56, 57, 97, 98, 99, 100, 101, 102]⟩ = some t := by
  rw [<- hlit]; exact (scat_of hA (by omega)).trans (by rw [ht])
 have e2 : slen t = Int.ofNat tz := (slen_of hA t).trans (by rw [htz])
 have e3 : cmp .eql 0 0 = true := eql_t hA (a := 0) (b := 0) rfl
 cbv
 rw [e1]
 cbv
 rw [e2]
 by_cases hlong : 200 < tz
 ·have hSl : SlR P 9 (.str t) none (some (.i64, 200)) (.str u) := by
   rw [hu]; exact slr_str (hP ▸ tblOk) (show tyT 9 = some _ from rfl) rfl t (j := 200) (by omega)
  cbv
  rw [show cmp .gtr (Int.ofNat tz) 200 = true from gtr_t hA (a := tz) (b := 200) hlong]
  cbv
  refine step_slice hg rfl rfl rfl rfl rfl hSl ?_
  cbv
  refine call_gen rfl hg rfl rfl hN _root_.id rfl trivial rfl rfl rfl ?_
  rintro _ _ _ ⟨rfl, rfl, rfl⟩ _
  refine ⟨rfl, ?_⟩
  cbv
  refine call_gen rfl hg rfl rfl hR _root_.id rfl trivial rfl rfl rfl ?_
  rintro _ _ _ ⟨rfl, rfl, rfl⟩ _
  refine ⟨rfl, ?_⟩
  cbv
  refine call_val rfl hg rfl rfl hNu ?_
  rintro _ _ _ rfl
  refine ⟨trivial, ?_⟩
  cbv
  rw [e3]
  cbv
  rw [e3]
  cbv
  exact hK _ _ _ ⟨rfl, rfl, rfl⟩
 ·obtain rfl : t = u := by
   rw [hu]; exact bl_inj (by rw [bl_extract, List.take_of_length_le (by rw [bl_len]; omega)])
  cbv
  rw [show cmp .gtr (Int.ofNat tz) 200 = false from gtr_f hA (a := tz) (b := 200) hlong]
  cbv
  refine call_gen rfl hg rfl rfl hN _root_.id rfl trivial rfl rfl rfl ?_
  rintro _ _ _ ⟨rfl, rfl, rfl⟩ _
  refine ⟨rfl, ?_⟩
  cbv
  refine call_gen rfl hg rfl rfl hR _root_.id rfl trivial rfl rfl rfl ?_
  rintro _ _ _ ⟨rfl, rfl, rfl⟩ _
  refine ⟨rfl, ?_⟩
  cbv
  refine call_val rfl hg rfl rfl hNu ?_
  rintro _ _ _ rfl
  refine ⟨trivial, ?_⟩
  cbv
  rw [e3]
  cbv
  rw [e3]
  cbv
  exact hK _ _ _ ⟨rfl, rfl, rfl⟩
end Go.Proofs.YtdhmihfefgcbeaaGreat
end
