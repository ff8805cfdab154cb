/-
  This text proves what these texts prove: Pq, Pr, Ps, Jf, Jg, Jh. Conditions: those of each theorem.
-/
import Derived.Test.YtdhmihfefgcbeaaGreatV26
import Derived.Test.YtdhmihfefgcbeaaGreatV23
set_option maxHeartbeats 8000000
namespace Go.Proofs.YtdhmihfefgcbeaaGreat
open Go.Vg Go.RowKit
set_option maxRecDepth 200000
set_option cbv.maxSteps 100000000
theorem rowRA_minus (k : Nat) (h : 1 <= k /\ k <= 15) : strCmp .eql (rowRA k) ⟨⟨[45]⟩⟩ = decide (rowAL k = 0) := by
 obtain ⟨h1, h2⟩ := h
 show ((rowRA k).toList == (ByteArray.mk ⟨[45]⟩).toList) = _
 rw [ByteArray.toList_eq, ByteArray.toList_eq]
 have : k = 1 \/ k = 2 \/ k = 3 \/ k = 4 \/ k = 5 \/ k = 6 \/ k = 7 \/ k = 8 \/ k = 9 \/ k = 10 \/ k = 11 \/ k = 12 \/ k = 13 \/ k = 14 \/ k = 15 := by omega
 rcases this with rfl | rfl | rfl | rfl | rfl | rfl | rfl | rfl | rfl | rfl | rfl | rfl | rfl | rfl | rfl <;> decide +kernel
section
variable {P : Program} (hP : P = Tryz.prog) {H : Nat -> Nat -> List SV} {S : Nat -> Nat} (hs : HS H S)
include hP hs
theorem oneRow {y : Nat} (h : y < 4294967296) : H y 1 = [.int .u32 (.ofNat y)] := by
 have := hP
 rw [hs.h]
 show [SV.int .u32 (.ofNat (dg y 0))] = _
 rw [show dg y 0 = y from by unfold dg Dg.dig; rw [Nat.pow_zero, Nat.div_one]; exact Nat.mod_eq_of_lt h]
theorem mGet (k : Nat) (hk : 1 <= k /\ k <= 15) (p a b n x y : Nat) (hp : p = primeN k) (ha : a = curA k) (hb : b = rowB k) (hn : n = rowN k) (hx : x = rowX k) (hy : y = rowY k) : ∃ pc ac bc nc xc yc, p < 4294967296 ^ pc /\ a < 4294967296 ^ ac /\ b < 4294967296 ^ bc /\ n < 4294967296 ^ nc /\ x < 4294967296 ^ xc /\ y < 4294967296 ^ yc /\
 Con P 10 [.int .i64 (.ofNat k)] [] 0 [] (fun w L q => w = .tup [.agg [.int .i64 (.ofNat k), .slice 0 0 (S p) pc, .slice 1 0 (S a) ac, .slice 2 0 (S b) bc, .slice 3 0 (S n) nc, .slice 4 0 (S x) xc, .slice 5 0 (S y) yc], .bool true] /\
  L = [⟨0, H p pc, 58⟩, ⟨1, H a ac, 58⟩, ⟨2, H b bc, 58⟩, ⟨3, H n nc, 58⟩, ⟨4, H x xc, 58⟩, ⟨5, H y yc, 58⟩] /\ q = 6) := by
 obtain ⟨r1, r2, r3, r4, r5, l1, l2, l3, l4, l5, hbp, hp3⟩ := row_num k hk
 obtain ⟨_, _, lp, _, rp⟩ := fld_num k hk
 obtain ⟨ps, hps⟩ := exq (hexS (primeN k) (primeL k))
 obtain ⟨sa, has⟩ := exq (rowRA k)
 obtain ⟨bs, hbs⟩ := exq (hexS (rowB k) (rowBL k))
 obtain ⟨ns, hns⟩ := exq (hexS (rowN k) (rowNL k))
 obtain ⟨xs, hxs⟩ := exq (hexS (rowX k) (rowXL k))
 obtain ⟨ys, hys⟩ := exq (hexS (rowY k) (rowYL k))
 have hR := mRow hP k hk ps sa bs ns xs ys hps has hbs hns hxs hys
 obtain ⟨pc, hpc⟩ := exq (primeL k / 8 + 1)
 obtain ⟨bc, hbc⟩ := exq (rowBL k / 8 + 1)
 obtain ⟨nc, hnc⟩ := exq (rowNL k / 8 + 1)
 obtain ⟨xc, hxc⟩ := exq (rowXL k / 8 + 1)
 obtain ⟨yc, hyc⟩ := exq (rowYL k / 8 + 1)
 obtain ⟨bp, hHp⟩ := mHex hP hs (primeL k) (primeN k) lp rp ps hps pc hpc
 obtain ⟨bb, hHb⟩ := mHex hP hs (rowBL k) (rowB k) l2 r2 bs hbs bc hbc
 obtain ⟨bn, hHn⟩ := mHex hP hs (rowNL k) (rowN k) l3 r3 ns hns nc hnc
 obtain ⟨bx, hHx⟩ := mHex hP hs (rowXL k) (rowX k) l4 r4 xs hxs xc hxc
 obtain ⟨by', hHy⟩ := mHex hP hs (rowYL k) (rowY k) l5 r5 ys hys yc hyc
 rw [<- hp] at hHp bp
 rw [<- hb] at hHb bb
 rw [<- hn] at hHn bn
 rw [<- hx] at hHx bx
 rw [<- hy] at hHy by'
 have vP : ∀ m, bdLB m (H p pc) = true := fun m => hs.b m p pc
 have vB : ∀ m, bdLB m (H b bc) = true := fun m => hs.b m b bc
 have vN : ∀ m, bdLB m (H n nc) = true := fun m => hs.b m n nc
 have vX : ∀ m, bdLB m (H x xc) = true := fun m => hs.b m x xc
 have vY : ∀ m, bdLB m (H y yc) = true := fun m => hs.b m y yc
 have h13 : (3 : Nat) < 4294967296 := by decide
 have hrow3 := oneRow hP hs h13
 have hS3 := hs.one h13 (by decide)
 have hmi := rowRA_minus k hk
 rw [<- has] at hmi
 by_cases hAL : rowAL k = 0
 ·have hap : a = p - 3 := by rw [ha, hp, curA, if_pos hAL]
  have hp40 : p < 4294967296 ^ 40 := by
   rw [hp]; refine Nat.lt_of_lt_of_le rp (Nat.le_trans (Nat.pow_le_pow_right (by decide) lp) (by decide))
  obtain ⟨ac, bac, hSb⟩ := mSub hP hs (x := p) (c := pc) (y := 3) (e := 1) bp (by decide) hp40 (by rw [hp]; exact hp3) a hap
  rw [hS3, hrow3] at hSb
  have vA : ∀ m, bdLB m (H a ac) = true := fun m => hs.b m a ac
  refine ⟨pc, ac, bc, nc, xc, yc, bp, bac, bb, bn, bx, by', ?_⟩
  suffices raw : Con P 10 [.int .i64 (.ofNat k)] [] 0 [] (fun w L q => w = .tup [.agg [.int .i64 (.ofNat k), .slice 2 0 (S p) pc, .slice 9 0 (S a) ac, .slice 3 0 (S b) bc, .slice 4 0 (S n) nc, .slice 5 0 (S x) xc, .slice 6 0 (S y) yc], .bool true] /\ find L 2 = some ⟨2, H p pc, 58⟩ /\ find L 9 = some ⟨9, H a ac, 58⟩ /\ find L 3 = some ⟨3, H b bc, 58⟩ /\ find L 4 = some ⟨4, H n nc, 58⟩ /\ find L 5 = some ⟨5, H x xc, 58⟩ /\ find L 6 = some ⟨6, H y yc, 58⟩) by
   refine raw.weak fun v L q ⟨h1, h2, h3, h4, h5, h6, h7⟩ => ⟨fun l => if l = 0 then 2 else if l = 1 then 9 else l + 1, .tup [.agg [.int .i64 (.ofNat k), .slice 0 0 (S p) pc, .slice 1 0 (S a) ac, .slice 2 0 (S b) bc, .slice 3 0 (S n) nc, .slice 4 0 (S x) xc, .slice 5 0 (S y) yc], .bool true], [⟨0, H p pc, 58⟩, ⟨1, H a ac, 58⟩, ⟨2, H b bc, 58⟩, ⟨3, H n nc, 58⟩, ⟨4, H x xc, 58⟩, ⟨5, H y yc, 58⟩], 6, ?_, rfl, rfl, rfl⟩
   subst h1
   exact wkr ⟨rfl, rfl, trivial⟩ ⟨by rw [rcl _ (vP 0)]; exact h2, rfl, rfl, vP 6, by rw [rcl _ (vA 0)]; exact h3, rfl, rfl, vA 6, by rw [rcl _ (vB 0)]; exact h4, rfl, rfl, vB 6, by rw [rcl _ (vN 0)]; exact h5, rfl, rfl, vN 6, by rw [rcl _ (vX 0)]; exact h6, rfl, rfl, vX 6, by rw [rcl _ (vY 0)]; exact h7, rfl, rfl, vY 6, trivial⟩ rfl rfl rfl
  refine cof hP Tryz.func10 (bdb _ rfl) (bkb rfl) ?_
  intro A g K hA hg hK
  obtain ⟨_, _, _, _, _, ix, _, _, _, _, _, scmp, _, _, _, off, get⟩ := A
  have e4 : ∀ j, off 0 j 1 = j := fun j => (off_of hA 0 j 1).trans (by omega)
  have i0 : ix 0 6 = some 0 := ix_of hA (k := 0) (n := 6) (by decide)
  have i1 : ix 1 6 = some 1 := ix_of hA (k := 1) (n := 6) (by decide)
  have i2 : ix 2 6 = some 2 := ix_of hA (k := 2) (n := 6) (by decide)
  have i3 : ix 3 6 = some 3 := ix_of hA (k := 3) (n := 6) (by decide)
  have i4 : ix 4 6 = some 4 := ix_of hA (k := 4) (n := 6) (by decide)
  have i5 : ix 5 6 = some 5 := ix_of hA (k := 5) (n := 6) (by decide)
  have q0 : get [.str ps, .str sa, .str bs, .str ns, .str xs, .str ys] 0 = some (.str ps) := (get_of hA _ _).trans rfl
  have q1 : get [.str ps, .str sa, .str bs, .str ns, .str xs, .str ys] 1 = some (.str sa) := (get_of hA _ _).trans rfl
  have q2 : get [.str ps, .str sa, .str bs, .str ns, .str xs, .str ys] 2 = some (.str bs) := (get_of hA _ _).trans rfl
  have q3 : get [.str ps, .str sa, .str bs, .str ns, .str xs, .str ys] 3 = some (.str ns) := (get_of hA _ _).trans rfl
  have q4 : get [.str ps, .str sa, .str bs, .str ns, .str xs, .str ys] 4 = some (.str xs) := (get_of hA _ _).trans rfl
  have q5 : get [.str ps, .str sa, .str bs, .str ns, .str xs, .str ys] 5 = some (.str ys) := (get_of hA _ _).trans rfl
  have hmin : scmp .eql sa ⟨⟨[45]⟩⟩ = true := by
   have e : scmp = Ar.real.scmp := congrArg Ar.scmp hA
   rw [e]
   exact hmi.trans (decide_eq_true hAL)
  clear  hp ha hb hn hx hy hps has hbs hns hxs hys hpc hbc hnc hxc hyc
  cbv
  refine cgn rfl hg rfl rfl hR _root_.id rfl trivial rfl rfl rfl ?_
  rintro _ _ _ ⟨rfl, rfl, rfl⟩ _
  refine ⟨rfl, ?_⟩
  cbv
  refine reg_A (hP ▸ tblOk) hA hg (hP ▸ mixed) rfl rfl ?_
  cbv
  rw [i0]
  cbv
  rw [e4, q0]
  cbv
  refine stepDn (n' := 3) (en_new rfl hg rfl rfl hHp _root_.id rfl trivial rfl (val := .slice 0 0 (S p) pc) (NB := [⟨0, H p pc, 58⟩]) (n := 2) (n1 := 1) (fun _ _ _ h => ⟨h.1, h.2.1, h.2.2⟩) rfl rfl (fun l h1 h2 => ⟨_, List.mem_singleton.2 rfl, by show 0 = l; omega⟩)) (by decide) rfl (by simp [renB]) ?_
  simp only [renB, rcl (H p pc) (vP 0)]
  cbv
  rw [i2]
  cbv
  rw [e4, q2]
  cbv
  refine stepDn (n' := 4) (en_new rfl hg rfl rfl hHb _root_.id rfl trivial rfl (val := .slice 0 0 (S b) bc) (NB := [⟨0, H b bc, 58⟩]) (n := 3) (n1 := 1) (fun _ _ _ h => ⟨h.1, h.2.1, h.2.2⟩) rfl rfl (fun l h1 h2 => ⟨_, List.mem_singleton.2 rfl, by show 0 = l; omega⟩)) (by decide) rfl (by simp [renB]) ?_
  simp only [renB, rcl (H b bc) (vB 0)]
  cbv
  rw [i3]
  cbv
  rw [e4, q3]
  cbv
  refine stepDn (n' := 5) (en_new rfl hg rfl rfl hHn _root_.id rfl trivial rfl (val := .slice 0 0 (S n) nc) (NB := [⟨0, H n nc, 58⟩]) (n := 4) (n1 := 1) (fun _ _ _ h => ⟨h.1, h.2.1, h.2.2⟩) rfl rfl (fun l h1 h2 => ⟨_, List.mem_singleton.2 rfl, by show 0 = l; omega⟩)) (by decide) rfl (by simp [renB]) ?_
  simp only [renB, rcl (H n nc) (vN 0)]
  cbv
  rw [i4]
  cbv
  rw [e4, q4]
  cbv
  refine stepDn (n' := 6) (en_new rfl hg rfl rfl hHx _root_.id rfl trivial rfl (val := .slice 0 0 (S x) xc) (NB := [⟨0, H x xc, 58⟩]) (n := 5) (n1 := 1) (fun _ _ _ h => ⟨h.1, h.2.1, h.2.2⟩) rfl rfl (fun l h1 h2 => ⟨_, List.mem_singleton.2 rfl, by show 0 = l; omega⟩)) (by decide) rfl (by simp [renB]) ?_
  simp only [renB, rcl (H x xc) (vX 0)]
  cbv
  rw [i5]
  cbv
  rw [e4, q5]
  cbv
  refine stepDn (n' := 7) (en_new rfl hg rfl rfl hHy _root_.id rfl trivial rfl (val := .slice 0 0 (S y) yc) (NB := [⟨0, H y yc, 58⟩]) (n := 6) (n1 := 1) (fun _ _ _ h => ⟨h.1, h.2.1, h.2.2⟩) rfl rfl (fun l h1 h2 => ⟨_, List.mem_singleton.2 rfl, by show 0 = l; omega⟩)) (by decide) rfl (by simp [renB]) ?_
  simp only [renB, rcl (H y yc) (vY 0)]
  cbv
  rw [i1]
  cbv
  rw [e4, q1]
  cbv
  rw [hmin]
  cbv
  refine cgn rfl hg rfl rfl hSb (fun l => if l = 0 then 2 else 8) rfl (ft2 (vP 0) rfl rfl rfl) rfl rfl rfl ?_
  rintro _ _ _ ⟨rfl, rfl, rfl⟩ _
  refine ⟨rfl, ?_⟩
  simp only [renB, rcl (H a ac) (vA 0)]
  cbv
  exact hK _ _ _ ⟨rfl, rfl, rfl, rfl, rfl, rfl, rfl⟩
 ·have hap : a = rowA k := by rw [ha, curA, if_neg hAL]
  obtain ⟨ac, hac⟩ := exq (rowAL k / 8 + 1)
  obtain ⟨ba, hHa⟩ := mHex hP hs (rowAL k) (rowA k) l1 r1 sa (by rw [has, rowRA, if_neg hAL]) ac hac
  rw [<- hap] at hHa ba
  have vA : ∀ m, bdLB m (H a ac) = true := fun m => hs.b m a ac
  refine ⟨pc, ac, bc, nc, xc, yc, bp, ba, bb, bn, bx, by', ?_⟩
  suffices raw : Con P 10 [.int .i64 (.ofNat k)] [] 0 [] (fun w L q => w = .tup [.agg [.int .i64 (.ofNat k), .slice 2 0 (S p) pc, .slice 8 0 (S a) ac, .slice 3 0 (S b) bc, .slice 4 0 (S n) nc, .slice 5 0 (S x) xc, .slice 6 0 (S y) yc], .bool true] /\ find L 2 = some ⟨2, H p pc, 58⟩ /\ find L 8 = some ⟨8, H a ac, 58⟩ /\ find L 3 = some ⟨3, H b bc, 58⟩ /\ find L 4 = some ⟨4, H n nc, 58⟩ /\ find L 5 = some ⟨5, H x xc, 58⟩ /\ find L 6 = some ⟨6, H y yc, 58⟩) by
   refine raw.weak fun v L q ⟨h1, h2, h3, h4, h5, h6, h7⟩ => ⟨fun l => if l = 0 then 2 else if l = 1 then 8 else l + 1, .tup [.agg [.int .i64 (.ofNat k), .slice 0 0 (S p) pc, .slice 1 0 (S a) ac, .slice 2 0 (S b) bc, .slice 3 0 (S n) nc, .slice 4 0 (S x) xc, .slice 5 0 (S y) yc], .bool true], [⟨0, H p pc, 58⟩, ⟨1, H a ac, 58⟩, ⟨2, H b bc, 58⟩, ⟨3, H n nc, 58⟩, ⟨4, H x xc, 58⟩, ⟨5, H y yc, 58⟩], 6, ?_, rfl, rfl, rfl⟩
   subst h1
   exact wkr ⟨rfl, rfl, trivial⟩ ⟨by rw [rcl _ (vP 0)]; exact h2, rfl, rfl, vP 6, by rw [rcl _ (vA 0)]; exact h3, rfl, rfl, vA 6, by rw [rcl _ (vB 0)]; exact h4, rfl, rfl, vB 6, by rw [rcl _ (vN 0)]; exact h5, rfl, rfl, vN 6, by rw [rcl _ (vX 0)]; exact h6, rfl, rfl, vX 6, by rw [rcl _ (vY 0)]; exact h7, rfl, rfl, vY 6, trivial⟩ rfl rfl rfl
  refine cof hP Tryz.func10 (bdb _ rfl) (bkb rfl) ?_
  intro A g K hA hg hK
  obtain ⟨_, _, _, _, _, ix, _, _, _, _, _, scmp, _, _, _, off, get⟩ := A
  have e4 : ∀ j, off 0 j 1 = j := fun j => (off_of hA 0 j 1).trans (by omega)
  have i0 : ix 0 6 = some 0 := ix_of hA (k := 0) (n := 6) (by decide)
  have i1 : ix 1 6 = some 1 := ix_of hA (k := 1) (n := 6) (by decide)
  have i2 : ix 2 6 = some 2 := ix_of hA (k := 2) (n := 6) (by decide)
  have i3 : ix 3 6 = some 3 := ix_of hA (k := 3) (n := 6) (by decide)
  have i4 : ix 4 6 = some 4 := ix_of hA (k := 4) (n := 6) (by decide)
  have i5 : ix 5 6 = some 5 := ix_of hA (k := 5) (n := 6) (by decide)
  have q0 : get [.str ps, .str sa, .str bs, .str ns, .str xs, .str ys] 0 = some (.str ps) := (get_of hA _ _).trans rfl
  have q1 : get [.str ps, .str sa, .str bs, .str ns, .str xs, .str ys] 1 = some (.str sa) := (get_of hA _ _).trans rfl
  have q2 : get [.str ps, .str sa, .str bs, .str ns, .str xs, .str ys] 2 = some (.str bs) := (get_of hA _ _).trans rfl
  have q3 : get [.str ps, .str sa, .str bs, .str ns, .str xs, .str ys] 3 = some (.str ns) := (get_of hA _ _).trans rfl
  have q4 : get [.str ps, .str sa, .str bs, .str ns, .str xs, .str ys] 4 = some (.str xs) := (get_of hA _ _).trans rfl
  have q5 : get [.str ps, .str sa, .str bs, .str ns, .str xs, .str ys] 5 = some (.str ys) := (get_of hA _ _).trans rfl
  have hmin : scmp .eql sa ⟨⟨[45]⟩⟩ = false := by
   have e : scmp = Ar.real.scmp := congrArg Ar.scmp hA
   rw [e]
   exact hmi.trans (decide_eq_false hAL)
  clear hac hp ha hb hn hx hy hps has hbs hns hxs hys hpc hbc hnc hxc hyc
  cbv
  refine cgn rfl hg rfl rfl hR _root_.id rfl trivial rfl rfl rfl ?_
  rintro _ _ _ ⟨rfl, rfl, rfl⟩ _
  refine ⟨rfl, ?_⟩
  cbv
  refine reg_A (hP ▸ tblOk) hA hg (hP ▸ mixed) rfl rfl ?_
  cbv
  rw [i0]
  cbv
  rw [e4, q0]
  cbv
  refine stepDn (n' := 3) (en_new rfl hg rfl rfl hHp _root_.id rfl trivial rfl (val := .slice 0 0 (S p) pc) (NB := [⟨0, H p pc, 58⟩]) (n := 2) (n1 := 1) (fun _ _ _ h => ⟨h.1, h.2.1, h.2.2⟩) rfl rfl (fun l h1 h2 => ⟨_, List.mem_singleton.2 rfl, by show 0 = l; omega⟩)) (by decide) rfl (by simp [renB]) ?_
  simp only [renB, rcl (H p pc) (vP 0)]
  cbv
  rw [i2]
  cbv
  rw [e4, q2]
  cbv
  refine stepDn (n' := 4) (en_new rfl hg rfl rfl hHb _root_.id rfl trivial rfl (val := .slice 0 0 (S b) bc) (NB := [⟨0, H b bc, 58⟩]) (n := 3) (n1 := 1) (fun _ _ _ h => ⟨h.1, h.2.1, h.2.2⟩) rfl rfl (fun l h1 h2 => ⟨_, List.mem_singleton.2 rfl, by show 0 = l; omega⟩)) (by decide) rfl (by simp [renB]) ?_
  simp only [renB, rcl (H b bc) (vB 0)]
  cbv
  rw [i3]
  cbv
  rw [e4, q3]
  cbv
  refine stepDn (n' := 5) (en_new rfl hg rfl rfl hHn _root_.id rfl trivial rfl (val := .slice 0 0 (S n) nc) (NB := [⟨0, H n nc, 58⟩]) (n := 4) (n1 := 1) (fun _ _ _ h => ⟨h.1, h.2.1, h.2.2⟩) rfl rfl (fun l h1 h2 => ⟨_, List.mem_singleton.2 rfl, by show 0 = l; omega⟩)) (by decide) rfl (by simp [renB]) ?_
  simp only [renB, rcl (H n nc) (vN 0)]
  cbv
  rw [i4]
  cbv
  rw [e4, q4]
  cbv
  refine stepDn (n' := 6) (en_new rfl hg rfl rfl hHx _root_.id rfl trivial rfl (val := .slice 0 0 (S x) xc) (NB := [⟨0, H x xc, 58⟩]) (n := 5) (n1 := 1) (fun _ _ _ h => ⟨h.1, h.2.1, h.2.2⟩) rfl rfl (fun l h1 h2 => ⟨_, List.mem_singleton.2 rfl, by show 0 = l; omega⟩)) (by decide) rfl (by simp [renB]) ?_
  simp only [renB, rcl (H x xc) (vX 0)]
  cbv
  rw [i5]
  cbv
  rw [e4, q5]
  cbv
  refine stepDn (n' := 7) (en_new rfl hg rfl rfl hHy _root_.id rfl trivial rfl (val := .slice 0 0 (S y) yc) (NB := [⟨0, H y yc, 58⟩]) (n := 6) (n1 := 1) (fun _ _ _ h => ⟨h.1, h.2.1, h.2.2⟩) rfl rfl (fun l h1 h2 => ⟨_, List.mem_singleton.2 rfl, by show 0 = l; omega⟩)) (by decide) rfl (by simp [renB]) ?_
  simp only [renB, rcl (H y yc) (vY 0)]
  cbv
  rw [i1]
  cbv
  rw [e4, q1]
  cbv
  rw [hmin]
  cbv
  rw [i1]
  cbv
  rw [e4, q1]
  cbv
  refine cgn rfl hg rfl rfl hHa _root_.id rfl trivial rfl rfl rfl ?_
  rintro _ _ _ ⟨rfl, rfl, rfl⟩ _
  refine ⟨rfl, ?_⟩
  simp only [renB, rcl (H a ac) (vA 0)]
  cbv
  exact hK _ _ _ ⟨rfl, rfl, rfl, rfl, rfl, rfl, rfl⟩
end
end Go.Proofs.YtdhmihfefgcbeaaGreat
namespace Go.Vg
open Go.RowKit Go.Lib
section
variable {P : Program} {g : G}
theorem stepD_one {o : Oper} {c : Call} (ho : o.op = .call c) {m0 N : Nat} {ms : List Nat} (hg : GI g m0 ms N) (hd' : dstLt N o.dst = true) {F : FF} {M : LL} {n : Nat} {f : FuncId} {us args : List SV} (hc : callee (look F) c = some (f, us)) {Lp : LL} {n0 a b : Nat} {C : List SV} {t : TypeId}
 (hcon : Con P f args Lp n0 [] (fun w L q => w = .slice n0 0 a b /\ L = [⟨n0, C, t⟩] /\ q = n0 + 1)) (bC : bdLB 0 C = true) (hlo : ∀ b ∈ Lp, b.l < n0 /\ bdLB n0 b.cs = true)
 (ρ : Nat -> Nat) (hus : us = renL ρ args) (hft : foot ρ (selM o (find M)) Lp) (hcov : below (fun l => memN (Lp.map Blk.l) l) n0 = true) {K : SV -> LL -> Nat -> Prop} (hK : K (.slice n 0 a b) [⟨n, C, t⟩] (n + 1)) : StepD g P o F M n K := by
 have hk := hcon.keep (fun b hb => ⟨(hlo b hb).1, bdb _ (hlo b hb).2⟩) (fun v L q h b hb => by obtain ⟨_, rfl, _⟩ := h; obtain rfl := List.mem_singleton.1 hb; exact Nat.le_refl _)
 have hen := en_new (n := n) (n1 := n0 + 1) (val := .slice n0 0 a b) (NB := [⟨n0, C, t⟩]) ho hg hd' hc hk ρ hus hft hcov (fun v L1 k h => by
  obtain ⟨NB, ⟨h1, h2, h3⟩, h4⟩ := h
  rw [h2] at h4
  exact ⟨h1, h4, h3⟩) (by simp) (List.all_eq_true.2 fun b hb => by simpa using (hlo b hb).1) (fun l h1 h2 => ⟨_, List.mem_singleton.2 rfl, by show n0 = l; omega⟩)
 have hbl : Nat.blt n0 n0 = false := by
  cases h : Nat.blt n0 n0 with
  | false => rfl
  | true => exact absurd (Nat.le_of_ble_eq_true h) (Nat.lt_irrefl _)
 have hr : rho ρ n0 n n0 = n := by unfold rho; rw [hbl]; simp
 rw [show ren (rho ρ n0 n) (.slice n0 0 a b) = .slice n 0 a b from by simp [ren, hr], show renB (rho ρ n0 n) [⟨n0, C, t⟩] = [⟨n, C, t⟩] from by simp [renB, hr, rcl C bC]] at hen
 exact stepDn (n' := n + 1) hen (by omega) (by simp) (by simp) hK
theorem stepD_gen {o : Oper} {c : Call} (ho : o.op = .call c) {m0 N : Nat} {ms : List Nat} (hg : GI g m0 ms N) (hd' : dstLt N o.dst = true) {F : FF} {M : LL} {n : Nat} {f : FuncId} {us args : List SV} (hc : callee (look F) c = some (f, us)) {Lp NB : LL} {n0 n1 : Nat} {val : SV}
 (hcon : Con P f args Lp n0 [] (fun w L q => w = val /\ L = NB /\ q = n1)) (hlo : ∀ b ∈ Lp, b.l < n0 /\ bdLB n0 b.cs = true) (hNB : ∀ b ∈ NB, n0 <= b.l /\ b.l < n1) (hcv : ∀ l, n0 <= l -> l < n1 -> ∃ b ∈ NB, b.l = l) (hnd : (NB.map Blk.l).Nodup) (hle : n0 <= n1)
 (ρ : Nat -> Nat) (hus : us = renL ρ args) (hft : foot ρ (selM o (find M)) Lp) (hcov : below (fun l => memN (Lp.map Blk.l) l) n0 = true) {K : SV -> LL -> Nat -> Prop} (hK : K (ren (rho ρ n0 n) val) (renB (rho ρ n0 n) NB) (n + (n1 - n0))) : StepD g P o F M n K := by
 have hk := hcon.keep (fun b hb => ⟨(hlo b hb).1, bdb _ (hlo b hb).2⟩) (fun v L q h b hb => by obtain ⟨_, rfl, _⟩ := h; exact (hNB b hb).1)
 have hen := en_new (n := n) (n1 := n1) (val := val) (NB := NB) ho hg hd' hc hk ρ hus hft hcov (fun v L1 k h => by
  obtain ⟨NB', ⟨h1, h2, h3⟩, h4⟩ := h
  rw [h2] at h4
  exact ⟨h1, h4, h3⟩) (List.all_eq_true.2 fun b hb => by simpa using (hNB b hb).1) (List.all_eq_true.2 fun b hb => by simpa using (hlo b hb).1) hcv
 have hr : ∀ l, n0 <= l -> rho ρ n0 n l = n + (l - n0) := fun l hl => by
  have hbl : Nat.blt l n0 = false := by
   cases h : Nat.blt l n0 with
   | false => rfl
   | true => have := Nat.le_of_ble_eq_true h; omega
  unfold rho; rw [hbl]
 have hrb : ∀ (L : LL), (∀ b ∈ L, n0 <= b.l) -> (renB (rho ρ n0 n) L).map Blk.l = (L.map Blk.l).map fun l => n + (l - n0) := fun L => by
  induction L with
  | nil => intro _; rfl
  | cons b L ih =>
    intro h
    show rho ρ n0 n b.l :: (renB (rho ρ n0 n) L).map Blk.l = (n + (b.l - n0)) :: _
    rw [hr _ (h b List.mem_cons_self), ih fun b hb => h b (List.mem_cons_of_mem _ hb)]
 have hm := hrb NB (fun b hb => (hNB b hb).1)
 refine stepDn (n' := n + (n1 - n0)) hen (by omega) (List.all_eq_true.2 fun b hb => ?_) ?_ hK
 ·have h1 : b.l ∈ (renB (rho ρ n0 n) NB).map Blk.l := List.mem_map_of_mem hb
  rw [hm] at h1
  obtain ⟨l, h2, h3⟩ := List.mem_map.1 h1
  obtain ⟨b', h4, rfl⟩ := List.mem_map.1 h2
  have := hNB b' h4
  simp only [Bool.and_eq_true]
  exact ⟨Nat.ble_eq_true_of_le (by omega), Nat.ble_eq_true_of_le (by show b.l + 1 <= _; omega)⟩
 ·rw [hm]
  refine List.pairwise_map.2 (hnd.imp_of_mem fun {x y} hx hy hxy => ?_)
  obtain ⟨b, h1, rfl⟩ := List.mem_map.1 hx
  obtain ⟨b', h2, rfl⟩ := List.mem_map.1 hy
  have := (hNB b h1).1
  have := (hNB b' h2).1
  omega
end
end Go.Vg
namespace Go.Proofs.YtdhmihfefgcbeaaGreat
open Go.Vg Go.RowKit
set_option maxRecDepth 200000
set_option cbv.maxSteps 100000000
def cvS (k : Nat) (sp sa sb sn sx sy : SV) : List SV := [.int .i64 (.ofNat k), sp, sa, sb, sn, sx, sy]
section
variable {P : Program} (hP : P = Tryz.prog) {H : Nat -> Nat -> List SV} {S : Nat -> Nat} (hs : HS H S)
include hP hs
theorem mOut {x c y e : Nat} (hx : x < 4294967296 ^ c) (hy : y < 4294967296 ^ e) (X Y : Nat -> Nat) (wX : Wn 9 X) (wY : Wn 9 Y) (vX : V 9 X = x) (vY : V 9 Y = y) (inf : Bool) : Con P 17 [.agg [.slice 0 0 (S x) c, .slice 1 0 (S y) e, .bool inf]] [⟨0, H x c, 58⟩, ⟨1, H y e, 58⟩] 2 [] (fun w _ _ => w = .agg (ptS X Y inf)) := by
 have h1 := mNat hP hs hx X wX vX
 have h2 := mNat hP hs hy Y wY vY
 obtain ⟨C, hC⟩ := exq (H x c)
 have bC : ∀ m, bdLB m C = true := fun m => by rw [hC]; exact hs.b m x c
 obtain ⟨E, hE⟩ := exq (H y e)
 have bE : ∀ m, bdLB m E = true := fun m => by rw [hE]; exact hs.b m y e
 rw [<- hC] at h1 ⊢
 rw [<- hE] at h2 ⊢
 clear hC hE
 refine cof hP Tryz.func17 ⟨⟨blq rfl, ⟨blq rfl, ⟨trivial, trivial⟩⟩⟩, trivial⟩ (by simpa [bdL, bd] using ⟨bdb _ (bC 2), bdb _ (bE 2)⟩) ?_
 intro A g K hA hg hK
 cases A
 cbv
 refine reg_A (hP ▸ tblOk) hA hg (hP ▸ mixed) rfl rfl ?_
 cbv
 refine stepD (enr rfl hg rfl rfl h1 (fun _ => 0) rfl (ftM (bC 0) rfl) (fun _ _ _ h => h) (by simp [bd, bdL, ws, lst])) ?_
 cbv
 refine stepD (enr rfl hg rfl rfl h2 (fun _ => 1) rfl (ftM (bE 0) rfl) (fun _ _ _ h => h) (by simp [bd, bdL, ws, lst])) ?_
 cbv
 exact hK _ _ _ rfl
theorem mIn (X Y : Nat -> Nat) (wX : Wn 9 X) (wY : Wn 9 Y) (x y : Nat) (vX : V 9 X = x) (vY : V 9 Y = y) (inf : Bool) : Con P 28 [.agg (ptS X Y inf)] [] 0 [] (fun w L q => w = .agg [.slice 0 0 (S x) 18, .slice 1 0 (S y) 18, .bool inf] /\ L = [⟨0, H x 18, 58⟩, ⟨1, H y 18, 58⟩] /\ q = 2) := by
 obtain ⟨_, h1⟩ := mFrom hP hs X wX x vX
 obtain ⟨_, h2⟩ := mFrom hP hs Y wY y vY
 obtain ⟨C, hC⟩ := exq (H x 18)
 have bC : ∀ m, bdLB m C = true := fun m => by rw [hC]; exact hs.b m x 18
 obtain ⟨E, hE⟩ := exq (H y 18)
 have bE : ∀ m, bdLB m E = true := fun m => by rw [hE]; exact hs.b m y 18
 rw [<- hC] at h1 ⊢
 rw [<- hE] at h2 ⊢
 clear hC hE
 suffices raw : Con P 28 [.agg (ptS X Y inf)] [] 0 [] (fun w L q => w = .agg [.slice 2 0 (S x) 18, .slice 3 0 (S y) 18, .bool inf] /\ find L 2 = some ⟨2, C, 58⟩ /\ find L 3 = some ⟨3, E, 58⟩) from
  raw.weak fun v L q ⟨h1, h2, h3⟩ => ⟨fun l => l + 2, .agg [.slice 0 0 (S x) 18, .slice 1 0 (S y) 18, .bool inf], [⟨0, C, 58⟩, ⟨1, E, 58⟩], 2, by subst h1; exact wkr ⟨rfl, rfl, trivial⟩ ⟨by rw [rcl C (bC 0)]; exact h2, rfl, rfl, bC 2, by rw [rcl E (bE 0)]; exact h3, rfl, rfl, bE 2, trivial⟩ rfl rfl rfl, rfl, rfl, rfl⟩
 refine cof hP Tryz.func28 (bdb _ rfl) (bkb rfl) ?_
 intro A g K hA hg hK
 cases A
 cbv
 refine reg_A (hP ▸ tblOk) hA hg (hP ▸ mixed) rfl rfl ?_
 cbv
 refine stepD_one rfl hg rfl rfl h1 (bC 0) (fun _ h => by cases h) _root_.id rfl trivial rfl ?_
 cbv
 refine stepD_one rfl hg rfl rfl h2 (bE 0) (fun _ h => by cases h) _root_.id rfl trivial rfl ?_
 cbv
 exact hK _ _ _ ⟨rfl, rfl, rfl⟩
theorem mG (k : Nat) (np na nb nm nx ny cp ca cb cn cx cy : Nat) (r0 r1 r2 r3 r4 r5 : List SV) (b0 : ∀ m, bdLB m r0 = true) (b1 : ∀ m, bdLB m r1 = true) (b2 : ∀ m, bdLB m r2 = true) (b3 : ∀ m, bdLB m r3 = true) (b4 : ∀ m, bdLB m r4 = true) (b5 : ∀ m, bdLB m r5 = true) : Con P 19 [.agg (cvS k (.slice 0 0 np cp) (.slice 1 0 na ca) (.slice 2 0 nb cb) (.slice 3 0 nm cn) (.slice 4 0 nx cx) (.slice 5 0 ny cy))]
 [⟨0, r0, 58⟩, ⟨1, r1, 58⟩, ⟨2, r2, 58⟩, ⟨3, r3, 58⟩, ⟨4, r4, 58⟩, ⟨5, r5, 58⟩] 6 [] (fun w _ _ => w = .agg [.slice 4 0 nx cx, .slice 5 0 ny cy, .bool false]) := by
 have := hs.h
 refine cof hP Tryz.func19 ⟨⟨trivial, blq rfl, blq rfl, blq rfl, blq rfl, blq rfl, blq rfl, trivial⟩, trivial⟩ (by simpa [bdL, bd] using ⟨bdb _ (b0 6), bdb _ (b1 6), bdb _ (b2 6), bdb _ (b3 6), bdb _ (b4 6), bdb _ (b5 6)⟩) ?_
 intro A g K hA hg hK
 cases A
 cbv
 exact hK _ _ _ rfl
end
theorem ftM2 {ρ : Nat -> Nat} {M : Nat -> Option Blk} {l l' : Nat} {C C' : List SV} {t t' : TypeId} (bC : bdLB 0 C = true) (bC' : bdLB 0 C' = true) (h : M (ρ l) = some ⟨ρ l, C, t⟩) (h' : M (ρ l') = some ⟨ρ l', C', t'⟩) : foot ρ M [⟨l, C, t⟩, ⟨l', C', t'⟩] :=
 ⟨by show M (ρ l) = some ⟨ρ l, renL ρ C, t⟩; rw [rcl C bC]; exact h, by show M (ρ l') = some ⟨ρ l', renL ρ C', t'⟩; rw [rcl C' bC']; exact h', trivial⟩
theorem cRAddN {P : Program} (hP : P = Tryz.prog) {n c x : Nat} {f : Nat -> Nat} (hx : Nm n c f x) (hn : n < 2 ^ 20) (k k1 : Nat) (hk : k = n) (hk1 : k1 = k + 1) (r : Nat) (hr : r = Vg.sz x) :
 Con P 24 [.slice 0 0 n c, .nils] [⟨0, hs f c, 58⟩] 1 [] (fun w L q => w = .slice 1 0 r k1 /\ L = [⟨1, hs (dg x) k1, 58⟩] /\ q = 2) := by
 obtain ⟨Z, hZ⟩ := exq (fun i => hs (wr (dg x) i) k1 : Nat -> List SV)
 have bZ : ∀ m i, bdLB m (Z i) = true := fun m i => by rw [hZ]; exact hs_bd _ _ m
 have hZ0 : List.replicate k1 (SV.int .u32 0) = Z 0 := by rw [hZ, hs_zero]; show _ = hs (wr _ 0) k1; rw [wr_zero]
 have hZn : Z k1 = hs (dg x) k1 := by rw [hZ]; exact hs_wr _ _
 suffices raw : Con P 24 [.slice 0 0 n c, .nils] [⟨0, hs f c, 58⟩] 1 [] (fun w L q => w = .slice 1 0 r k1 /\ find L 1 = some ⟨1, Z k1, 58⟩) from
  raw.weak fun v L q ⟨h1, h2⟩ => ⟨_root_.id, .slice 1 0 r k1, [⟨1, Z k1, 58⟩], 2, by subst h1; exact weak_id ⟨rfl, rfl, trivial⟩ ⟨h2, rfl, bZ 2 k1, trivial⟩ rfl rfl, rfl, by rw [hZn], rfl⟩
 have hnk : n <= k := by omega
 have hkb : k < 2 ^ 20 := by omega
 have hmax : Int.ofNat k = if (0 : Int) > Int.ofNat n then (0 : Int) else Int.ofNat n := by
  rw [if_neg (by have := Int.natCast_nonneg n; intro h; exact absurd h (Int.not_lt.2 this)), hk]
 have hxy : x < 4294967296 ^ k1 := by
  exact Nat.lt_of_lt_of_le hx.lt (Nat.pow_le_pow_right (by decide) (by omega))
 have hTr : Con P 42 [.slice 0 0 k1 k1] [⟨0, Z k1, 58⟩] 1 [] (fun w _ _ => w = .slice 0 0 r k1) := by
  rw [hZn]; exact cTrim hP (dg x) k1 k1 r (Nat.le_refl _) (by omega) (by rw [hr, tl_dg hxy])
 have hdx : ∀ i, Con P 49 [.slice 0 0 n c, .int .i64 (.ofNat i)] [⟨0, hs f c, 58⟩] 1 [] (fun w _ _ => w = .int .u64 (.ofNat (dg x i))) := fun i => cRDigit hP f n c i _ hx.le hx.w (by
  by_cases h : i < n
  ·rw [if_pos h, hx.dig h]
  ·rw [if_neg h, hx.digz (by omega)])
 have hd0 : ∀ i, dg 0 i = 0 := fun i => by unfold dg Dg.dig; rw [Nat.zero_div]
 have hdy : ∀ i, Con P 49 [.nils, .int .i64 (.ofNat i)] [] 0 [] (fun w _ _ => w = .int .u64 (.ofNat (dg 0 i))) := fun i => by
  rw [hd0]; exact cRDigitN hP i
 have hlast : cyA x 0 k = dg x k := by
  have h1 := (sumDig x 0 k _ rfl).1
  rw [hx.digz hnk, hd0, Nat.add_zero x] at h1
  have := cyA_le x 0 k
  omega
 obtain ⟨cy, hcy⟩ := exq (fun i => cyA x 0 i : Nat -> Nat)
 have cy0 : cy 0 = 0 := by rw [hcy]; exact cyA_zero x 0
 have cyl : ∀ i, cy i <= 1 := fun i => by rw [hcy]; exact cyA_le x 0 i
 have cys : ∀ i s, s = dg x i + dg 0 i + cy i -> dg x i = s % 4294967296 /\ cy (i + 1) = s / 4294967296 := fun i s h => by rw [hcy] at *; have h3 := sumDig x 0 i s h; rwa [Nat.add_zero] at h3
 have cyk : cy k = dg x k := by rw [hcy]; exact hlast
 have dxl := dg_lt x
 have dyl := dg_lt 0
 have dzl := dg_lt (x)
 have hZs : ∀ i v, v = dg x i -> wr (dg x) (i + 1) = fun j => if j = i then v else wr (dg x) i j := fun i v h => wr_step _ i v h
 obtain ⟨X, hX⟩ := exq (dg x)
 obtain ⟨Y, hY⟩ := exq (dg 0)
 rw [<- hX] at hdx dxl cys
 rw [<- hY] at hdy dyl cys
 rw [<- hX] at hZ dzl hZs cyk
 obtain ⟨C, hC⟩ := exq (hs f c)
 have bC : ∀ m, bdLB m C = true := fun m => by rw [hC]; exact hs_bd f c m
 rw [<- hC] at hdx ⊢
 clear hC hX hY hZn
 refine cof hP Tryz.func24 ⟨blq rfl, ⟨trivial, trivial⟩⟩ (by simpa [bdL, bd] using bdb _ (bC 1)) ?_
 intro A g K hA hg hK
 obtain ⟨bin, sh, cmp, _, cvt, ix, _, _, _, _, _, _, _, _, nat, off, _, _, _, spl⟩ := A
 have e0 : ∀ n, nat n = Int.ofNat n := fun n => nat_of hA n
 have e1 : bin .add .i64 (.ofNat k) 1 = Int.ofNat k1 := (addI hA (a := k) (b := 1) (by omega)).trans (by rw [hk1])
 have e2 : ∀ i, i < k -> cmp .lss (.ofNat i) (.ofNat k) = true := fun i h => lss_t hA h
 have e2f : cmp .lss (.ofNat k) (.ofNat k) = false := lss_f hA (Nat.lt_irrefl k)
 have e3 : ∀ i, i < k -> bin .add .i64 (.ofNat i) 1 = Int.ofNat (i + 1) := fun i h => addI hA (a := i) (b := 1) (by omega)
 have e4 : ∀ j, off 0 j 1 = j := fun j => (off_of hA 0 j 1).trans (by omega)
 have e5 : ∀ i, i < k1 -> ix (.ofNat i) k1 = some i := fun i h => ix_of hA h
 have e6 : ∀ i v, i < k1 -> v = X i -> spl (Z i) i [.int .u32 (.ofNat v)] = some (Z (i + 1)) := fun i v h hv => by rw [hZ]; exact splW hA .u32 (n := k1) (wr X i) (wr X (i + 1)) h (hZs i v hv)
 have hU := u32B hP
 clear hZ
 cbv
 rw [e0]
 refine step_max hg rfl rfl rfl rfl (r := Int.ofNat k) hmax ?_
 cbv
 rw [e1]
 cbv
 refine smk (hP ▸ tblOk) hg rfl rfl (show tyT 27 = some _ from rfl) rfl (show tyT 58 = some _ from rfl) hU rfl (m := k1) rfl rfl (by omega) (by omega) ?_
 rw [hZ0]
 cbv
 refine lpb Nat (fun i => i <= k) (fun i => k - i) (fun i => [(7, .int .u64 (.ofNat (cy i))), (8, .int .i64 (.ofNat i))]) [0, 1, 4, 5, 6] (fun i => [(1, Z i)]) 0 (Nat.zero_le _) ?_ ?_
 ·rw [cy0]
  exact wkih (by repeat' (first | exact trivial | refine ⟨rfl, rfl, rfl, ?_⟩ | refine ⟨rfl, rfl, bC 2, ?_⟩ | refine ⟨rfl, rfl, bZ 2 0, ?_⟩))
 intro i hi
 by_cases hlt : i < k
 ·obtain ⟨s1, hs1⟩ := exq (X i + Y i)
  obtain ⟨s2, hs2⟩ := exq (s1 + cy i)
  obtain ⟨s3, hs3⟩ := exq (s2 % 4294967296)
  have hl1 := dxl i
  have hl2 := dyl i
  have hl3 := cyl i
  obtain ⟨q1, q2⟩ := cys i s2 (by rw [hs2, hs1])
  have g1 : bin .add .u64 (.ofNat (X i)) (.ofNat (Y i)) = Int.ofNat s1 := addV hA (by omega) hs1
  have g2 : bin .add .u64 (.ofNat s1) (.ofNat (cy i)) = Int.ofNat s2 := addV hA (by omega) hs2
  have g3 : bin .and .u64 (.ofNat s2) 4294967295 = Int.ofNat s3 := lo32 hA (by omega) hs3
  have g4 : cvt .u32 (.ofNat s3) = Int.ofNat s3 := c32 hA (by omega)
  have g5 : sh .shr .u64 (.ofNat s2) 32 = Int.ofNat (cy (i + 1)) := hi32 hA q2
  have g6 := e6 i s3 (by omega) (by rw [q1, hs3])
  obtain ⟨cn, hcn⟩ := exq (cy (i + 1))
  obtain ⟨Zn, hZn⟩ := exq (Z (i + 1))
  rw [<- hcn] at g5
  rw [<- hZn] at g6
  cbv
  rw [e2 i hlt]
  cbv
  refine cro rfl hg rfl rfl (hdx i) (fun _ => 0) rfl (ft1 (bC 0) rfl) ?_
  rintro _ _ _ rfl
  refine ⟨trivial, trivial, ?_⟩
  cbv
  refine cva rfl hg rfl rfl (hdy i) ?_
  rintro _ _ _ rfl
  refine ⟨trivial, ?_⟩
  cbv
  rw [g1]
  cbv
  rw [g2]
  cbv
  rw [g3]
  cbv
  rw [g4]
  cbv
  rw [e5 i (by omega)]
  cbv
  rw [e4, g6]
  cbv
  rw [g5]
  cbv
  rw [e3 i hlt]
  refine ⟨i + 1, _root_.id, hlt, (by show k - (i + 1) < k - i; omega), ?_⟩
  rw [hcn, hZn]
  exact wkih (by repeat' (first | exact trivial | refine ⟨rfl, rfl, rfl, ?_⟩ | refine ⟨rfl, rfl, bC 2, ?_⟩ | refine ⟨rfl, rfl, bZ 2 (i + 1), ?_⟩))
 ·obtain rfl : i = k := by omega
  cbv
  rw [e2f]
  cbv
  have g4 : cvt .u32 (.ofNat (cy i)) = Int.ofNat (cy i) := c32 hA (by have := cyl i; omega)
  have g6 := e6 i (cy i) (by omega) cyk
  rw [<- hk1] at g6
  rw [g4]
  cbv
  rw [e5 i (by omega)]
  cbv
  rw [e4, g6]
  cbv
  refine cro rfl hg rfl rfl hTr (fun _ => 1) rfl (ft1 (bZ 0 k1) rfl) ?_
  rintro _ _ _ rfl
  refine ⟨by simp [bd], by simp [bd, ren], ?_⟩
  cbv
  exact hK _ _ _ ⟨rfl, rfl⟩
section
variable {P : Program} (hP : P = Tryz.prog) {H : Nat -> Nat -> List SV} {S : Nat -> Nat} (hs : HS H S)
include hP hs
theorem mAddN {x c : Nat} (hx : x < 4294967296 ^ c) (hb : x < 4294967296 ^ 40) : ∃ k, x < 4294967296 ^ k /\ Con P 24 [.slice 0 0 (S x) c, .nils] [⟨0, H x c, 58⟩] 1 [] (fun w L q => w = .slice 1 0 (S x) k /\ L = [⟨1, H x k, 58⟩] /\ q = 2) := by
 refine ⟨S x + 1, Nat.lt_trans (hs.nm hx).lt (Nat.pow_lt_pow_right (by decide) (by omega)), ?_⟩
 rw [hs.h]; exact cRAddN hP (hs.nm hx) (by have := hs.le hb; omega) _ _ rfl rfl _ (by rw [hs.s])
theorem mNeg (k nA nB nN nX nY cA cB cN cX cY : Nat) (rA rB rN rX rY : List SV) {p pc x xc y yc : Nat} (hp : p < 4294967296 ^ pc) (hy : y < 4294967296 ^ yc) (hpb : p < 4294967296 ^ 18) (hyp : y <= p) (hy0 : 0 < y) (z : Nat) (hz : z = p - y)
 (b1 : ∀ m, bdLB m rA = true) (b2 : ∀ m, bdLB m rB = true) (b3 : ∀ m, bdLB m rN = true) (b4 : ∀ m, bdLB m rX = true) (b5 : ∀ m, bdLB m rY = true) : ∃ kc, z < 4294967296 ^ kc /\
 Con P 27 [.agg (cvS k (.slice 0 0 (S p) pc) (.slice 1 0 nA cA) (.slice 2 0 nB cB) (.slice 3 0 nN cN) (.slice 4 0 nX cX) (.slice 5 0 nY cY)), .agg [.slice 6 0 (S x) xc, .slice 7 0 (S y) yc, .bool false]]
  [⟨0, H p pc, 58⟩, ⟨1, rA, 58⟩, ⟨2, rB, 58⟩, ⟨3, rN, 58⟩, ⟨4, rX, 58⟩, ⟨5, rY, 58⟩, ⟨6, H x xc, 58⟩, ⟨7, H y yc, 58⟩] 8 [] (fun w L q => w = .agg [.slice 6 0 (S x) xc, .slice 8 0 (S z) kc, .bool false] /\ L = [⟨8, H z kc, 58⟩] /\ q = 9) := by
 obtain ⟨kc, hk, hSb⟩ := mSub hP hs hp hy (pow40 hP hs hpb) hyp z hz
 refine ⟨kc, hk, ?_⟩
 obtain ⟨mm, hmm⟩ := exq (S y)
 have hm0 : mm ≠ 0 := by rw [hmm]; intro h; have := (hs.nm hy).zero.1 h; omega
 rw [<- hmm] at hSb ⊢
 obtain ⟨Np, hNp⟩ := exq (S p)
 obtain ⟨Nx, hNx⟩ := exq (S x)
 obtain ⟨Nz, hNz⟩ := exq (S z)
 obtain ⟨Nn, hNn⟩ := exq nN
 rw [<- hNp, <- hNz] at hSb
 rw [<- hNp, <- hNx, <- hNz, <- hNn]
 have bP : ∀ m, bdLB m (H p pc) = true := fun m => hs.b m p pc
 have bX : ∀ m, bdLB m (H x xc) = true := fun m => hs.b m x xc
 have bY : ∀ m, bdLB m (H y yc) = true := fun m => hs.b m y yc
 have bZ : ∀ m, bdLB m (H z kc) = true := fun m => hs.b m z kc
 suffices raw : Con P 27 [.agg (cvS k (.slice 0 0 Np pc) (.slice 1 0 nA cA) (.slice 2 0 nB cB) (.slice 3 0 Nn cN) (.slice 4 0 nX cX) (.slice 5 0 nY cY)), .agg [.slice 6 0 Nx xc, .slice 7 0 mm yc, .bool false]]
  [⟨0, H p pc, 58⟩, ⟨1, rA, 58⟩, ⟨2, rB, 58⟩, ⟨3, rN, 58⟩, ⟨4, rX, 58⟩, ⟨5, rY, 58⟩, ⟨6, H x xc, 58⟩, ⟨7, H y yc, 58⟩] 8 [] (fun w L q => w = .agg [.slice 6 0 Nx xc, .slice 11 0 Nz kc, .bool false] /\ find L 11 = some ⟨11, H z kc, 58⟩) from
  raw.weak fun v L q ⟨h1, h2⟩ => ⟨fun l => if l = 8 then 11 else l, .agg [.slice 6 0 Nx xc, .slice 8 0 Nz kc, .bool false], [⟨8, H z kc, 58⟩], 9, by subst h1; exact wkr ⟨rfl, rfl, trivial⟩ ⟨by rw [rcl (H z kc) (bZ 0)]; exact h2, rfl, rfl, bZ 9, trivial⟩ rfl rfl rfl, rfl, rfl, rfl⟩
 refine cof hP Tryz.func27 ⟨⟨trivial, blq rfl, blq rfl, blq rfl, blq rfl, blq rfl, blq rfl, trivial⟩, ⟨blq rfl, blq rfl, trivial, trivial⟩, trivial⟩ (by simpa [bdL, bd] using ⟨bdb _ (bP 8), bdb _ (b1 8), bdb _ (b2 8), bdb _ (b3 8), bdb _ (b4 8), bdb _ (b5 8), bdb _ (bX 8), bdb _ (bY 8)⟩) ?_
 intro A g K hA hg hK
 obtain ⟨_, _, cmp, _, _, _, _, _, _, _, _, _, _, _, nat⟩ := A
 have e0 : nat mm = Int.ofNat mm := nat_of hA mm
 have e1 : cmp .eql (.ofNat mm) 0 = false := eql_f hA (b := 0) hm0
 cbv
 rw [e0, e1]
 cbv
 refine reg_A (hP ▸ tblOk) hA hg (hP ▸ mixed) rfl rfl ?_
 cbv
 refine stepD_one rfl hg rfl rfl hSb (bZ 0) (by intro b hb; rcases List.mem_cons.1 hb with rfl | hb; exact ⟨blq rfl, bP 2⟩; obtain rfl := List.mem_singleton.1 hb; exact ⟨blq rfl, bY 2⟩) (fun l => if l = 0 then 0 else 7) rfl (ftM2 (bP 0) (bY 0) rfl rfl) rfl ?_
 cbv
 exact hK _ _ _ ⟨rfl, rfl⟩
end
def RO (P : Program) (id : Nat) : Prop := ∀ (s dg : ByteArray), s.size < 2 ^ 40 -> bl dg = Sh.of id (bl s) -> Con P 83 [.int .i64 (.ofNat id), .str s] [] 0 [] (fun v _ _ => v = .str dg)
theorem ro32 {P : Program} (hP : P = Tryz.prog) {id : Nat} (h : id = 1 \/ id = 2) : RO P id := fun s dg hs hd => by
 rcases h with rfl | rfl
 ·exact cROf32 hP 1 (f8A Sh.i224) (Or.inl ⟨rfl, rfl⟩) (by unfold Sh.ok8; decide) s dg hs hd
 ·exact cROf32 hP 2 (f8A Sh.i256) (Or.inr ⟨rfl, rfl⟩) (by unfold Sh.ok8; decide) s dg hs hd
theorem cRXor {P : Program} (hP : P = Tryz.prog) (id : Nat) (hid : 1 <= id /\ id <= 4) (hOf : RO P id) (key r : ByteArray) (x : Nat) (hx : x < 256) (hks : key.size < 2 ^ 40) (hr : bl r = (Sh.key id (bl key)).map (· ^^^ x)) :
 Con P 84 [.int .i64 (.ofNat id), .str key, .int .u8 (.ofNat x)] [] 0 [] (fun v _ _ => v = .str r) := by
 obtain ⟨k, hk⟩ := exq (Sh.blk id)
 have hkb := Sh.size_blk hid
 rw [<- hk] at hkb
 have hBk := cRBlock hP id hid k hk
 obtain ⟨kz, hkz⟩ := exq key.size
 have hU := bytesU8 hP
 refine cof hP Tryz.func84 (bdb _ rfl) (bkb rfl) ?_
 intro A g K hA hg hK
 obtain ⟨bin, _, cmp, _, _, ix, _, _, _, _, _, _, slen, _, nat, off, get, _, _, spl⟩ := A
 have f0 : ∀ i, i < k -> ix (.ofNat i) k = some i := fun i h => ix_of hA h
 have f1 : ∀ i, off 0 i 1 = i := fun i => (off_of hA 0 i 1).trans (by omega)
 have f2 : ∀ i, i < k -> cmp .lss (.ofNat i) (.ofNat k) = true := fun i h => lss_t hA h
 have f3 : cmp .lss (.ofNat k) (.ofNat k) = false := lss_f hA (by omega)
 have f4 : ∀ i, i < k -> bin .add .i64 (.ofNat i) 1 = Int.ofNat (i + 1) := fun i h => add_of hA (by omega)
 have f5 : nat k = Int.ofNat k := nat_of hA k
 have e1 : slen key = Int.ofNat kz := (slen_of hA key).trans (by rw [hkz])
 cbv
 rw [e1]
 cbv
 refine cva rfl hg rfl rfl hBk ?_
 rintro _ _ _ rfl
 refine ⟨trivial, ?_⟩
 by_cases hlong : k < kz
 ·obtain ⟨kb, hkbb⟩ : ∃ b, bl b = Sh.of id (bl key) := ⟨mkB (Sh.of id (bl key)), bmk (Sh.of_b _ _)⟩
  obtain ⟨m, hm⟩ := exq kb.size
  have hmk : m <= k := by rw [hm, <- bll, hkbb, Sh.of_len hid]; exact hkb.1
  have hHo := hOf key kb hks hkbb
  cbv
  rw [show cmp .gtr (.ofNat kz) (.ofNat k) = true from gtr_t hA hlong]
  cbv
  refine cva rfl hg rfl rfl hHo ?_
  rintro _ _ _ rfl
  refine ⟨trivial, ?_⟩
  obtain ⟨l, hl⟩ := exq (bl kb ++ List.replicate (k - m) 0)
  have hlk : l = Sh.key id (bl key) := by
   rw [hl]; unfold Sh.key; rw [bll, <- hk]
   rw [if_pos (by omega : k < key.size), hkbb, hm, <- bll, hkbb]
  have hll : l.length = k := by rw [hlk, Sh.key_len hid, hk]
  have hlb : ∀ i, l.getD i 0 < 256 := fun i => by
   rw [List.getD_eq_getElem?_getD]
   cases hq : l[i]? with
   | none => decide
   | some y => exact Sh.key_b id (bl key) (bl_lt key) y (by rw [<- hlk]; exact List.mem_of_getElem? hq)
  obtain ⟨C, hC⟩ := exq (fun i => by8 (XR l x i) : Nat -> List SV)
  have bC : ∀ q i, bdLB q (C i) = true := fun q i => by rw [hC]; exact by8_bd q _
  have gC : ∀ i, i < k -> get (C i) i = some (.int .u8 (.ofNat (l.getD i 0))) := fun i h => by
   rw [hC]; have := XR_get (l := l) (x := x) (i := i) (by omega) []; rw [List.append_nil] at this; exact (get_of hA _ _).trans this
  have sC : ∀ i, i < k -> spl (C i) i [.int .u8 (.ofNat (l.getD i 0 ^^^ x))] = some (C (i + 1)) := fun i h => by
   rw [hC]
   refine (spl_of hA (by rw [by8_len, XR_len]; omega) _).trans ?_
   have := XR_set (l := l) (x := x) (i := i) (by omega) []
   rw [List.append_nil, List.append_nil] at this
   rw [this]
  have hC0 : bts kb ++ (List.replicate k (SV.int .u8 0)).drop kb.size = C 0 := by
   rw [hC, <- hm, List.drop_replicate, bts_by8]
   show _ = by8 ([].map _ ++ l.drop 0)
   rw [List.drop_zero, hl]
   simp [by8]
  have hCk : ((C k).drop 0).take k = bts r := by
   rw [hC, List.drop_zero]
   show (by8 (XR l x k)).take k = _
   unfold XR
   rw [<- hll, List.take_length, List.drop_length, List.append_nil, List.take_of_length_le (by rw [by8_len, List.length_map]; exact Nat.le_refl _), bts_by8, hr, hlk]
  have hrs : r.size = k := by rw [<- bll, hr, List.length_map, Sh.key_len hid, hk]
  clear hC
  cbv
  refine cva rfl hg rfl rfl hBk ?_
  rintro _ _ _ rfl
  refine ⟨trivial, ?_⟩
  cbv
  refine smk (hP ▸ tblOk) hg rfl rfl (show tyT 143 = some _ from rfl) rfl (show tyT 5 = some _ from rfl) hU rfl rfl rfl (by omega) (by omega) ?_
  obtain ⟨Z, hZ⟩ := exq (List.replicate k (SV.int .u8 0) : List SV)
  have hZl : Z.length = k := by rw [hZ, List.length_replicate]
  rw [<- hZ] at hC0 ⊢
  cbv
  refine step_copy_str (hP ▸ tblOk) hg rfl rfl (show tyT 143 = some _ from rfl) rfl (show ev _ _ = some (.slice 0 0 k k) from rfl) (show find _ 0 = some _ from rfl) rfl (d := kb) rfl (by omega) (by omega) ?_
  rw [hC0]
  clear hC0 hZ hZl
  cbv
  refine lpb Nat (fun i => i <= k) (fun i => k - i) (fun i => [(8, .int .i64 (.ofNat i))]) [2, 7] (fun i => [(0, C i)]) 0 (Nat.zero_le _) ?_ ?_
  ·exact wkih (by repeat' (first | exact trivial | refine ⟨rfl, rfl, rfl, ?_⟩ | refine ⟨rfl, rfl, bC 1 0, ?_⟩))
  intro i hi
  by_cases hlt : i < k
  ·obtain ⟨y, hy⟩ := exq (l.getD i 0)
   obtain ⟨w, hw⟩ := exq (y ^^^ x)
   have hx8 : bin .xor .u8 (.ofNat y) (.ofNat x) = Int.ofNat w := (xorW hA rfl (by rw [hy]; exact hlb i) hx).trans (by rw [hw])
   have g1 := gC i hlt
   have g2 := sC i hlt
   rw [<- hy] at g1 g2
   rw [<- hw] at g2
   cbv
   rw [f5]
   cbv
   rw [f2 i hlt]
   cbv
   rw [f0 i hlt]
   cbv
   rw [f1 i, g1]
   cbv
   rw [hx8, f0 i hlt]
   cbv
   rw [f1 i, g2]
   cbv
   rw [f4 i hlt]
   refine ⟨i + 1, _root_.id, hlt, (by show k - (i + 1) < k - i; omega), ?_⟩
   exact wkih (by repeat' (first | exact trivial | refine ⟨rfl, rfl, rfl, ?_⟩ | refine ⟨rfl, rfl, bC 1 (i + 1), ?_⟩))
  ·obtain rfl : i = k := by omega
   cbv
   rw [f5]
   cbv
   rw [f3]
   cbv
   refine step_string (hP ▸ tblOk) hg rfl rfl (show tyT 9 = some _ from rfl) rfl (show tyT 143 = some _ from rfl) rfl (hP ▸ Tryz.underlying5) rfl (show find _ 0 = some _ from rfl) hCk hrs ?_
   cbv
   exact hK _ _ _ rfl
 ·obtain ⟨kb, hkbb⟩ := exq key
  obtain ⟨m, hm⟩ := exq kb.size
  have hmk : m <= k := by rw [hm, hkbb]; omega
  rw [<- hkbb] at e1 ⊢
  cbv
  rw [show cmp .gtr (.ofNat kz) (.ofNat k) = false from gtr_f hA (by omega)]
  obtain ⟨l, hl⟩ := exq (bl kb ++ List.replicate (k - m) 0)
  have hlk : l = Sh.key id (bl key) := by
   rw [hl]; unfold Sh.key; rw [bll, <- hk]
   rw [if_neg (by omega : ¬ k < key.size), hm, hkbb, <- bll]
  have hll : l.length = k := by rw [hlk, Sh.key_len hid, hk]
  have hlb : ∀ i, l.getD i 0 < 256 := fun i => by
   rw [List.getD_eq_getElem?_getD]
   cases hq : l[i]? with
   | none => decide
   | some y => exact Sh.key_b id (bl key) (bl_lt key) y (by rw [<- hlk]; exact List.mem_of_getElem? hq)
  obtain ⟨C, hC⟩ := exq (fun i => by8 (XR l x i) : Nat -> List SV)
  have bC : ∀ q i, bdLB q (C i) = true := fun q i => by rw [hC]; exact by8_bd q _
  have gC : ∀ i, i < k -> get (C i) i = some (.int .u8 (.ofNat (l.getD i 0))) := fun i h => by
   rw [hC]; have := XR_get (l := l) (x := x) (i := i) (by omega) []; rw [List.append_nil] at this; exact (get_of hA _ _).trans this
  have sC : ∀ i, i < k -> spl (C i) i [.int .u8 (.ofNat (l.getD i 0 ^^^ x))] = some (C (i + 1)) := fun i h => by
   rw [hC]
   refine (spl_of hA (by rw [by8_len, XR_len]; omega) _).trans ?_
   have := XR_set (l := l) (x := x) (i := i) (by omega) []
   rw [List.append_nil, List.append_nil] at this
   rw [this]
  have hC0 : bts kb ++ (List.replicate k (SV.int .u8 0)).drop kb.size = C 0 := by
   rw [hC, <- hm, List.drop_replicate, bts_by8]
   show _ = by8 ([].map _ ++ l.drop 0)
   rw [List.drop_zero, hl]
   simp [by8]
  have hCk : ((C k).drop 0).take k = bts r := by
   rw [hC, List.drop_zero]
   show (by8 (XR l x k)).take k = _
   unfold XR
   rw [<- hll, List.take_length, List.drop_length, List.append_nil, List.take_of_length_le (by rw [by8_len, List.length_map]; exact Nat.le_refl _), bts_by8, hr, hlk]
  have hrs : r.size = k := by rw [<- bll, hr, List.length_map, Sh.key_len hid, hk]
  clear hC
  cbv
  refine cva rfl hg rfl rfl hBk ?_
  rintro _ _ _ rfl
  refine ⟨trivial, ?_⟩
  cbv
  refine smk (hP ▸ tblOk) hg rfl rfl (show tyT 143 = some _ from rfl) rfl (show tyT 5 = some _ from rfl) hU rfl rfl rfl (by omega) (by omega) ?_
  obtain ⟨Z, hZ⟩ := exq (List.replicate k (SV.int .u8 0) : List SV)
  have hZl : Z.length = k := by rw [hZ, List.length_replicate]
  rw [<- hZ] at hC0 ⊢
  cbv
  refine step_copy_str (hP ▸ tblOk) hg rfl rfl (show tyT 143 = some _ from rfl) rfl (show ev _ _ = some (.slice 0 0 k k) from rfl) (show find _ 0 = some _ from rfl) rfl (d := kb) rfl (by omega) (by omega) ?_
  rw [hC0]
  clear hC0 hZ hZl
  cbv
  refine lpb Nat (fun i => i <= k) (fun i => k - i) (fun i => [(8, .int .i64 (.ofNat i))]) [2, 7] (fun i => [(0, C i)]) 0 (Nat.zero_le _) ?_ ?_
  ·exact wkih (by repeat' (first | exact trivial | refine ⟨rfl, rfl, rfl, ?_⟩ | refine ⟨rfl, rfl, bC 1 0, ?_⟩))
  intro i hi
  by_cases hlt : i < k
  ·obtain ⟨y, hy⟩ := exq (l.getD i 0)
   obtain ⟨w, hw⟩ := exq (y ^^^ x)
   have hx8 : bin .xor .u8 (.ofNat y) (.ofNat x) = Int.ofNat w := (xorW hA rfl (by rw [hy]; exact hlb i) hx).trans (by rw [hw])
   have g1 := gC i hlt
   have g2 := sC i hlt
   rw [<- hy] at g1 g2
   rw [<- hw] at g2
   cbv
   rw [f5]
   cbv
   rw [f2 i hlt]
   cbv
   rw [f0 i hlt]
   cbv
   rw [f1 i, g1]
   cbv
   rw [hx8, f0 i hlt]
   cbv
   rw [f1 i, g2]
   cbv
   rw [f4 i hlt]
   refine ⟨i + 1, _root_.id, hlt, (by show k - (i + 1) < k - i; omega), ?_⟩
   exact wkih (by repeat' (first | exact trivial | refine ⟨rfl, rfl, rfl, ?_⟩ | refine ⟨rfl, rfl, bC 1 (i + 1), ?_⟩))
  ·obtain rfl : i = k := by omega
   cbv
   rw [f5]
   cbv
   rw [f3]
   cbv
   refine step_string (hP ▸ tblOk) hg rfl rfl (show tyT 9 = some _ from rfl) rfl (show tyT 143 = some _ from rfl) rfl (hP ▸ Tryz.underlying5) rfl (show find _ 0 = some _ from rfl) hCk hrs ?_
   cbv
   exact hK _ _ _ rfl
theorem cRHmac {P : Program} (hP : P = Tryz.prog) (id : Nat) (hid : 1 <= id /\ id <= 4) (hOf : RO P id) (key msg dg : ByteArray) (hks : key.size < 2 ^ 40) (hms : msg.size < 2 ^ 39) (hdg : bl dg = Sh.hmac id (bl key) (bl msg)) :
 Con P 54 [.int .i64 (.ofNat id), .str key, .str msg] [] 0 [] (fun v _ _ => v = .str dg) := by
 have hkk := Sh.key_b id (bl key) (bl_lt key)
 have hkb := Sh.size_blk hid
 obtain ⟨ip, hip⟩ : ∃ b, bl b = (Sh.key id (bl key)).map (· ^^^ 54) := ⟨mkB ((Sh.key id (bl key)).map (· ^^^ 54)), bmk (Sh.xor_b hkk (by decide))⟩
 obtain ⟨ok, hok⟩ : ∃ b, bl b = (Sh.key id (bl key)).map (· ^^^ 92) := ⟨mkB ((Sh.key id (bl key)).map (· ^^^ 92)), bmk (Sh.xor_b hkk (by decide))⟩
 have his : ip.size <= 128 := by rw [<- bll, hip, List.length_map, Sh.key_len hid]; omega
 have hos : ok.size <= 128 := by rw [<- bll, hok, List.length_map, Sh.key_len hid]; omega
 obtain ⟨m1, hm1⟩ := exq (ip ++ msg)
 obtain ⟨d1, hd1⟩ : ∃ b, bl b = Sh.of id (bl m1) := ⟨mkB (Sh.of id (bl m1)), bmk (Sh.of_b _ _)⟩
 obtain ⟨m2, hm2⟩ := exq (ok ++ d1)
 have hm1s : m1.size = ip.size + msg.size := by rw [hm1, ByteArray.size_append]
 have hd1s : d1.size = Sh.size id := by rw [<- bll, hd1, Sh.of_len hid]
 have hm2s : m2.size = ok.size + d1.size := by rw [hm2, ByteArray.size_append]
 have hXi := cRXor hP id hid hOf key ip 54 (by decide) hks hip
 have hXo := cRXor hP id hid hOf key ok 92 (by decide) hks hok
 have hO1 := hOf m1 d1 (by omega) hd1
 have hO2 := hOf m2 dg (by omega) (by rw [hdg, hm2, bl_app, hok, hd1, hm1, bl_app, hip]; rfl)
 clear hip hok hd1 hdg hkk
 refine cof hP Tryz.func54 (bdb _ rfl) (bkb rfl) ?_
 intro A g K hA hg hK
 obtain ⟨_, _, _, _, _, _, _, _, _, _, scat⟩ := A
 have e1 : scat ip msg = some m1 := (scat_of hA (by omega)).trans (by rw [hm1])
 have e2 : scat ok d1 = some m2 := (scat_of hA (by omega)).trans (by rw [hm2])
 cbv
 refine cva rfl hg rfl rfl hXo ?_
 rintro _ _ _ rfl
 refine ⟨trivial, ?_⟩
 cbv
 refine cva rfl hg rfl rfl hXi ?_
 rintro _ _ _ rfl
 refine ⟨trivial, ?_⟩
 cbv
 rw [e1]
 cbv
 refine cva rfl hg rfl rfl hO1 ?_
 rintro _ _ _ rfl
 refine ⟨trivial, ?_⟩
 cbv
 rw [e2]
 cbv
 refine cva rfl hg rfl rfl hO2 ?_
 rintro _ _ _ rfl
 refine ⟨trivial, ?_⟩
 cbv
 exact hK _ _ _ rfl
theorem cRUpd {P : Program} (hP : P = Tryz.prog) (id : Nat) (hid : 1 <= id /\ id <= 4) (hOf : RO P id) (k v s : ByteArray) (n : Nat) (hks : k.size <= 64) (hvs : v.size <= 64) (hss : s.size < 2 ^ 20) (k' v' : ByteArray) (hk' : bl k' = (Sh.upd ⟨id, bl k, bl v, n⟩ (bl s)).k) (hv' : bl v' = (Sh.upd ⟨id, bl k, bl v, n⟩ (bl s)).v) :
 Con P 53 [.ptr 0 0, .str s] [⟨0, [.int .i64 (.ofNat id), .str k, .str v, .int .i64 (.ofNat n)], 73⟩] 1 [0] (fun w L q => w = .tup [] /\ L = [⟨0, [.int .i64 (.ofNat id), .str k', .str v', .int .i64 (.ofNat n)], 73⟩] /\ q = 1) := by
 suffices raw : Con P 53 [.ptr 0 0, .str s] [⟨0, [.int .i64 (.ofNat id), .str k, .str v, .int .i64 (.ofNat n)], 73⟩] 1 [0] (fun w L q => w = .tup [] /\ find L 0 = some ⟨0, [.int .i64 (.ofNat id), .str k', .str v', .int .i64 (.ofNat n)], 73⟩) from
  raw.weak fun w L q ⟨h1, h2⟩ => ⟨_root_.id, .tup [], _, 1, by subst h1; exact weak_id ⟨rfl, rfl, trivial⟩ ⟨h2, rfl, rfl, trivial⟩ rfl rfl, rfl, rfl, rfl⟩
 have hsz := kvB_sz id hid (bl s) k v hks hvs
 have hu := fun i hi => kvB_upd id (bl s) k v n i hi
 have hK1 : ∀ i, bl (kvB id (bl s) k v (i + 1)).1 = Sh.hmac id (bl (kvB id (bl s) k v i).1) (bl (kvB id (bl s) k v i).2 ++ [i] ++ bl s) := fun i => by rw [kvB, bmk (Sh.hmac_b _ _ _)]
 have hV1 : ∀ i, bl (kvB id (bl s) k v (i + 1)).2 = Sh.hmac id (bl (kvB id (bl s) k v (i + 1)).1) (bl (kvB id (bl s) k v i).2) := fun i => by rw [kvB, bmk (Sh.hmac_b _ _ _)]
 obtain ⟨k1, hk1⟩ := exq ((kvB id (bl s) k v 1).1)
 obtain ⟨v1, hv1⟩ := exq ((kvB id (bl s) k v 1).2)
 obtain ⟨k2, hk2⟩ := exq ((kvB id (bl s) k v 2).1)
 obtain ⟨v2, hv2⟩ := exq ((kvB id (bl s) k v 2).2)
 have s1 := hsz 1
 have s2 := hsz 2
 have b1 := hK1 0
 have c1 := hV1 0
 have b2 := hK1 1
 have c2 := hV1 1
 simp only [Nat.zero_add, Nat.reduceAdd] at b1 c1 b2 c2
 rw [<- hk1, <- hv1] at s1
 rw [<- hk2, <- hv2] at s2
 rw [<- hk1] at b1
 rw [<- hk1, <- hv1] at c1
 rw [<- hk1, <- hv1, <- hk2] at b2
 rw [<- hk2, <- hv1, <- hv2] at c2
 have u1 : bl s = [] -> k1 = k' /\ v1 = v' := fun h => by
  have := hu 1 (by rw [if_pos h])
  rw [<- hk1, <- hv1] at this
  exact ⟨bl_inj (this.1.trans hk'.symm), bl_inj (this.2.trans hv'.symm)⟩
 have u2 : bl s ≠ [] -> k2 = k' /\ v2 = v' := fun h => by
  have := hu 2 (by rw [if_neg h])
  rw [<- hk2, <- hv2] at this
  exact ⟨bl_inj (this.1.trans hk'.symm), bl_inj (this.2.trans hv'.symm)⟩
 obtain ⟨m1, hm1⟩ := exq (v ++ ByteArray.mk #[0])
 obtain ⟨m2, hm2⟩ := exq (m1 ++ s)
 obtain ⟨m3, hm3⟩ := exq (v1 ++ ByteArray.mk #[1])
 obtain ⟨m4, hm4⟩ := exq (m3 ++ s)
 have z1 : m1.size <= 65 := by rw [hm1, ByteArray.size_append]; show v.size + 1 <= 65; omega
 have z2 : m2.size < 2 ^ 21 := by rw [hm2, ByteArray.size_append]; omega
 have z3 : m3.size <= 65 := by rw [hm3, ByteArray.size_append]; show v1.size + 1 <= 65; omega
 have z4 : m4.size < 2 ^ 21 := by rw [hm4, ByteArray.size_append]; omega
 have hA1 := cRHmac hP id hid hOf k m2 k1 (by omega) (by omega) (by rw [b1, hm2, bl_app, hm1, bl_app]; rfl)
 have hB1 := cRHmac hP id hid hOf k1 v v1 (by omega) (by omega) c1
 have hA2 := cRHmac hP id hid hOf k1 m4 k2 (by omega) (by omega) (by rw [b2, hm4, bl_app, hm3, bl_app]; rfl)
 have hB2 := cRHmac hP id hid hOf k2 v1 v2 (by omega) (by omega) c2
 clear hu hK1 hV1 hk1 hv1 hk2 hv2 b1 c1 b2 c2 hsz hk' hv'
 refine cof hP Tryz.func53 ⟨(by show 0 < 1; decide), trivial, trivial⟩ (bkb rfl) ?_
 intro A g K hA hg hK
 obtain ⟨_, _, _, _, _, _, _, _, _, _, scat, scmp⟩ := A
 have e1 : scat v (ByteArray.mk #[0]) = some m1 := (scat_of hA (by show v.size + 1 < _; omega)).trans (by rw [hm1])
 have e2 : scat m1 s = some m2 := (scat_of hA (by omega)).trans (by rw [hm2])
 have e3 : scat v1 (ByteArray.mk #[1]) = some m3 := (scat_of hA (by show v1.size + 1 < _; omega)).trans (by rw [hm3])
 have e4 : scat m3 s = some m4 := (scat_of hA (by omega)).trans (by rw [hm4])
 have f6 : scmp .neq s (ByteArray.mk #[]) = !decide (bl s = []) := by
  have e : scmp = Ar.real.scmp := congrArg Ar.scmp hA
  rw [e]
  exact strCmp_nilN s
 cbv
 refine reg_A (hP ▸ tblOk) hA hg (hP ▸ mixed) rfl rfl ?_
 cbv
 rw [e1]
 cbv
 rw [e2]
 cbv
 refine sdv hg hA1 ?_
 cbv
 refine reg_A (hP ▸ tblOk) hA hg (hP ▸ mixed) rfl rfl ?_
 cbv
 refine sdv hg hB1 ?_
 cbv
 rw [f6]
 by_cases hs : bl s = []
 ·rw [decide_eq_true hs]
  cbv
  exact hK _ _ _ ⟨rfl, by rw [<- (u1 hs).1, <- (u1 hs).2]; rfl⟩
 ·rw [decide_eq_false hs]
  cbv
  refine reg_A (hP ▸ tblOk) hA hg (hP ▸ mixed) rfl rfl ?_
  cbv
  rw [e3]
  cbv
  rw [e4]
  cbv
  refine sdv hg hA2 ?_
  cbv
  refine reg_A (hP ▸ tblOk) hA hg (hP ▸ mixed) rfl rfl ?_
  cbv
  refine sdv hg hB2 ?_
  cbv
  exact hK _ _ _ ⟨rfl, by rw [<- (u2 hs).1, <- (u2 hs).2]; rfl⟩
theorem cRNew {P : Program} (hP : P = Tryz.prog) (id : Nat) (hid : 1 <= id /\ id <= 4) (hOf : RO P id) (e a b : ByteArray) (he : Sh.size id <= 2 * e.size /\ e.size <= 256) (ha : a.size <= 256) (hb : b.size <= 256) (k v : ByteArray) (hk : bl k = (Sh.new id (bl e ++ bl a ++ bl b)).k) (hv : bl v = (Sh.new id (bl e ++ bl a ++ bl b)).v) :
 Con P 47 [.int .i64 (.ofNat id), .str e, .str a, .str b] [] 0 [] (fun w L q => w = .tup [.ptr 0 0, .int .i64 0] /\ L = [⟨0, [.int .i64 (.ofNat id), .str k, .str v, .int .i64 1], 73⟩] /\ q = 1) := by
 obtain ⟨z, hz⟩ := exq (Sh.size id)
 have hzb := Sh.size_blk hid
 rw [<- hz] at hzb he
 have hS := cRSize hP id hid z hz
 obtain ⟨k0, hk0⟩ : ∃ b, bl b = List.replicate z 0 := ⟨mkB (List.replicate z 0), bmk fun x hx => by rw [(List.mem_replicate.1 hx).2]; decide⟩
 obtain ⟨v0, hv0⟩ : ∃ b, bl b = List.replicate z 1 := ⟨mkB (List.replicate z 1), bmk fun x hx => by rw [(List.mem_replicate.1 hx).2]; decide⟩
 have hk0s : k0.size = z := by rw [<- bll, hk0, List.length_replicate]
 have hv0s : v0.size = z := by rw [<- bll, hv0, List.length_replicate]
 have hR0 := cSame hP z 0 (by decide) (by omega) k0 hk0
 have hR1 := cSame hP z 1 (by decide) (by omega) v0 hv0
 obtain ⟨m1, hm1⟩ := exq (e ++ a)
 obtain ⟨m2, hm2⟩ := exq (m1 ++ b)
 have hm1s : m1.size = e.size + a.size := by rw [hm1, ByteArray.size_append]
 have hm2s : m2.size = m1.size + b.size := by rw [hm2, ByteArray.size_append]
 have hm2b : bl m2 = bl e ++ bl a ++ bl b := by rw [hm2, bl_app, hm1, bl_app]
 have hU : Con P 53 [.ptr 0 0, .str m2] [⟨0, [.int .i64 (.ofNat id), .str k0, .str v0, .int .i64 1], 73⟩] 1 [0] (fun w L q => w = .tup [] /\ L = [⟨0, [.int .i64 (.ofNat id), .str k, .str v, .int .i64 1], 73⟩] /\ q = 1) :=
  cRUpd hP id hid hOf k0 v0 m2 1 (by omega) (by omega) (by omega) k v (by rw [hk, hm2b, hk0, hv0, hz]; rfl) (by rw [hv, hm2b, hk0, hv0, hz]; rfl)
 suffices raw : Con P 47 [.int .i64 (.ofNat id), .str e, .str a, .str b] [] 0 [] (fun w L q => ∃ l, w = .tup [.ptr l 0, .int .i64 0] /\ find L l = some ⟨l, [.int .i64 (.ofNat id), .str k, .str v, .int .i64 1], 73⟩) from
  raw.weak fun w L q ⟨l, h1, h2⟩ => ⟨fun _ => l, .tup [.ptr 0 0, .int .i64 0], _, 1, by subst h1; exact wkr ⟨rfl, rfl, trivial⟩ ⟨h2, rfl, rfl, rfl, trivial⟩ rfl rfl rfl, rfl, rfl, rfl⟩
 clear hk hv hk0 hv0
 obtain ⟨ez, hez⟩ := exq e.size
 obtain ⟨az, haz⟩ := exq a.size
 obtain ⟨bz, hbz⟩ := exq b.size
 obtain ⟨e2, he2⟩ := exq (2 * ez)
 refine cof hP Tryz.func47 (bdb _ rfl) (bkb rfl) ?_
 intro A g K hA hg hK
 obtain ⟨bin, _, cmp, _, _, _, _, _, _, _, scat, _, slen⟩ := A
 have g1 : cmp .eql (.ofNat z) 0 = false := eql_f hA (a := z) (b := 0) (by omega)
 have g2 : scat e a = some m1 := (scat_of hA (by omega)).trans (by rw [hm1])
 have g3 : scat m1 b = some m2 := (scat_of hA (by omega)).trans (by rw [hm2])
 have s1 : slen e = Int.ofNat ez := (slen_of hA e).trans (by rw [hez])
 have s2 : slen a = Int.ofNat az := (slen_of hA a).trans (by rw [haz])
 have s3 : slen b = Int.ofNat bz := (slen_of hA b).trans (by rw [hbz])
 have g4 : bin .mul .i64 2 (.ofNat ez) = Int.ofNat e2 := (mulI hA (a := 2) (b := ez) (by omega)).trans (by rw [he2])
 have g5 : cmp .lss (.ofNat e2) (.ofNat z) = false := lss_f hA (by omega)
 have g6 : ∀ x, x <= 256 -> cmp .gtr (.ofNat x) 256 = false := fun x h => gtr_f hA (a := x) (b := 256) (by omega)
 have g7 := g6 ez (by omega)
 have g8 := g6 az (by omega)
 have g9 := g6 bz (by omega)
 cbv
 refine cva rfl hg rfl rfl hS ?_
 rintro _ _ _ rfl
 refine ⟨trivial, ?_⟩
 cbv
 rw [g1]
 cbv
 rw [s1]
 cbv
 rw [g4]
 cbv
 refine cva rfl hg rfl rfl hS ?_
 rintro _ _ _ rfl
 refine ⟨trivial, ?_⟩
 cbv
 rw [g5]
 cbv
 rw [s1]
 cbv
 rw [g7]
 cbv
 rw [s2]
 cbv
 rw [g8]
 cbv
 rw [s3]
 cbv
 rw [g9]
 cbv
 refine cva rfl hg rfl rfl hS ?_
 rintro _ _ _ rfl
 refine ⟨trivial, ?_⟩
 cbv
 refine cva rfl hg rfl rfl hR0 ?_
 rintro _ _ _ rfl
 refine ⟨trivial, ?_⟩
 cbv
 refine cva rfl hg rfl rfl hS ?_
 rintro _ _ _ rfl
 refine ⟨trivial, ?_⟩
 cbv
 refine cva rfl hg rfl rfl hR1 ?_
 rintro _ _ _ rfl
 refine ⟨trivial, ?_⟩
 cbv
 rw [g2]
 cbv
 rw [g3]
 cbv
 refine cgn rfl hg rfl rfl hU (fun _ => 0) rfl ⟨rfl, trivial⟩ rfl rfl rfl ?_
 rintro _ _ _ ⟨rfl, rfl, rfl⟩ _
 refine ⟨rfl, ?_⟩
 cbv
 exact hK _ _ _ ⟨0, rfl, rfl⟩
end Go.Proofs.YtdhmihfefgcbeaaGreat
