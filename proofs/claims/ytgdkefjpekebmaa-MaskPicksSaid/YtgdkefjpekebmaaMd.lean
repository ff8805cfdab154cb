/-
  This text proves that two swaps undo one another, and that a choice between one and itself is it: the statement MaskTwice. Condition: words are below 2^64.
-/
import Derived.Test.YtgdkefjpekebmaaMc
namespace Go.Proofs.Ytgdkefjpekebmaa
open Go.ChangeShapes Go.WideShapes Go.ChangeAt Go.RowKit
theorem two_new (w : World) (xs ys zs : Array Value) (t : TypeId) :
    Below w.heap.size w ((((w.alloc (.cells zs t)).alloc (.cells zs t)).setRow w.heap.size xs).setRow (w.heap.size + 1) ys) ∧
    ((((w.alloc (.cells zs t)).alloc (.cells zs t)).setRow w.heap.size xs).setRow (w.heap.size + 1) ys).heap[w.heap.size]? = some (.cells xs t (0, 0)) ∧
    ((((w.alloc (.cells zs t)).alloc (.cells zs t)).setRow w.heap.size xs).setRow (w.heap.size + 1) ys).heap[w.heap.size + 1]? = some (.cells ys t (0, 0)) := by
  obtain ⟨h1, h2⟩ := alloc2 w (.cells zs t) (.cells zs t)
  have k2 : (((w.alloc (.cells zs t)).alloc (.cells zs t)).setRow w.heap.size xs).heap[w.heap.size + 1]? = some (.cells zs t (0, 0)) := by
    rw [setRow_other _ _ _ _ (by omega)]; exact h2
  refine ⟨below_setRow (below_setRow ?_ (by omega) _) (by omega) _, ?_, setRow_heap _ _ _ _ _ _ k2⟩
  · go_grown
  · rw [setRow_other _ _ _ _ (by omega)]; exact setRow_heap _ _ _ _ _ _ h1
/-! the words -/
theorem pick_bv (m a b : BitVec 64) : pick m.toNat a.toNat b.toNat = (((a &&& m) ||| (b &&& ~~~m)).toNat : Int) := by
  have e : ∀ x : BitVec 64, BitVec.ofInt 64 (x.toNat : Int) = x := fun x => by simp
  have u : ∀ x : BitVec 64, IntKind.u64.wrap (x.toNat : Int) = (x.toNat : Int) := fun x => by
    rw [wrap_nat .u64 rfl]; exact congrArg _ (Nat.mod_eq_of_lt x.isLt)
  simp only [pick, bits, IntKind.bits, e, u]
  rfl
theorem ofWord (n : Nat) (h : n < 18446744073709551616) : ∃ x : BitVec 64, n = x.toNat := ⟨BitVec.ofNat 64 n, by simp [Nat.mod_eq_of_lt h]⟩
theorem pick_pick (m a b : Nat) (hm : m < 18446744073709551616) (ha : a < 18446744073709551616) (hb : b < 18446744073709551616) : pick m (pick m a b) (pick m b a) = a := by
  obtain ⟨m, rfl⟩ := ofWord m hm
  obtain ⟨a, rfl⟩ := ofWord a ha
  obtain ⟨b, rfl⟩ := ofWord b hb
  rw [pick_bv, pick_bv, pick_bv]
  congr 2
  ext i hi
  simp
  cases m[i] <;> cases a[i] <;> cases b[i] <;> rfl
theorem pick_self (m a : Nat) (hm : m < 18446744073709551616) (ha : a < 18446744073709551616) : pick m a a = a := by
  obtain ⟨m, rfl⟩ := ofWord m hm
  obtain ⟨a, rfl⟩ := ofWord a ha
  rw [pick_bv]
  congr 2
  ext i hi
  simp
  cases m[i] <;> cases a[i] <;> rfl
theorem pick_not (m a b : Nat) (hm : m < 18446744073709551616) (ha : a < 18446744073709551616) (hb : b < 18446744073709551616) : pick m a b = pick (bits .xor .u64 IntKind.u64.max m) b a := by
  obtain ⟨m, rfl⟩ := ofWord m hm
  obtain ⟨a, rfl⟩ := ofWord a ha
  obtain ⟨b, rfl⟩ := ofWord b hb
  have h : bits .xor .u64 IntKind.u64.max (m.toNat : Int) = ((~~~m).toNat : Int) := by
    rw [u64_max, (ubits .u64 rfl _ _ (by decide) m.isLt).2.2, Mk.compl _ m.isLt]
    congr 1
    rw [BitVec.toNat_not]
  rw [h, pick_bv, pick_bv]
  congr 2
  ext i hi
  simp
  cases m[i] <;> cases a[i] <;> cases b[i] <;> rfl
theorem wpQuiet_load_if {P : Program} {ops : Array Oper} {C : World → Prop} {Q : Act → Prop} {a : Act} {o : Oper} {rest : List Oper} (ty : TypeId) (x : Operand) (g off : Nat) (cs : Array Value) (d : TypeDesc) (i : Nat) (hgd : o.guard = some (i, true)) (hy : yielded ops a.tmps i = some true) (ho : o.op = .load ty x)
    (hx : a.eval x = .pointer (some ⟨g, off, none⟩)) (hu : P.underlying ty = some d) (hd : (match d with | .struct _ | .array _ _ => true | _ => false) = true) (hi : (P.info? ty).map (·.size) = some cs.size)
    (hc : ∀ w, C w → ∀ j v, cs[j]? = some v → w.cell? ⟨g, off + j, none⟩ = some v) (h : wpQuiet P ops C Q rest (a.put o.dst (.agg cs))) : wpQuiet P ops C Q (o :: rest) a :=
  wpQuiet_step fun K hK => by
    have hw : Region.wanted o (yielded ops a.tmps) = true := by simp [Region.wanted, hgd, hy]
    rw [hw, if_pos rfl]
    exact quiet_load_part ty x g off cs d ho hx hu hd hi hc (hK _ h)
theorem num_ok (w : World) : Calls Try.prog 20 #[.int .i64 0] w fun e w' => e = .returned (.int .i64 0) ∧ Below w.heap.size w w' := by
  go_enter Try.func20, Try.ntmps20
  go_wp2
  go_ret
  exact ⟨rfl, Below.refl _ _⟩
/-- a fact on a world that has been made: the walk goes on from any world that meets it -/
theorem wp_any_world {P : Program} {ops : Array Oper} {Q : Exit → Act → World → Prop} {rest : List Oper} {a : Act} {w : World} (C : World → Prop) (h0 : C w) (h : ∀ w', C w' → wpList P ops Q rest a w') : wpList P ops Q rest a w := h w h0
set_option maxHeartbeats 2000000 in
theorem twice_any (a b : Nat → Nat) (m : Nat) (hm : m < 18446744073709551616) (ha : ∀ k, k < 9 → a k < 18446744073709551616) (hb : ∀ k, k < 9 → b k < 18446744073709551616) (w : World) :
    Calls Try.prog 7 #[.int .u64 m, .agg (ws fun k => a k), .agg (ws fun k => b k)] w fun e w' => e = .returned (.bool true) ∧ Below w.heap.size w w' := by
  have t1 := Lib.hid (show same9 (fun k => pick m (pick m (a k) (b k)) (pick m (b k) (a k))) (fun k => a k) = true from same9_of fun k hk => pick_pick m _ _ hm (ha k hk) (hb k hk))
  have t2 := Lib.hid (show same9 (fun k => pick m (pick m (b k) (a k)) (pick m (a k) (b k))) (fun k => b k) = true from same9_of fun k hk => pick_pick m _ _ hm (hb k hk) (ha k hk))
  have t3 := Lib.hid (show same9 (fun k => pick m (a k) (a k)) (fun k => a k) = true from same9_of fun k hk => pick_self m _ hm (ha k hk))
  have t4 := Lib.hid (show same9 (fun k => pick m (a k) (b k)) (fun k => pick (bits .xor .u64 (if IntKind.u64.signed = true then -1 else IntKind.u64.max) m) (b k) (a k)) = true from same9_of fun k hk => pick_not m _ _ hm (ha k hk) (hb k hk))
  clear ha hb hm
  obtain ⟨W, hW⟩ : ∃ W : World, W = (w.alloc (.cells (ws fun k => a k) 35)).alloc (.cells (ws fun k => b k) 35) := ⟨_, rfl⟩
  have hB : Below w.heap.size w W := by rw [hW]; go_grown
  obtain ⟨h1, h2⟩ := alloc2 w (.cells (ws fun k => a k) 35) (.cells (ws fun k => b k) 35)
  rw [← hW] at h1 h2
  have HB := Lib.hid hB
  have LA := Lib.hid h1
  have LB := Lib.hid h2
  have HW := Lib.hid hW
  clear h1 h2 hW hB
  go_enter Try.func7, Try.ntmps7
  go_wp2_with fail
  rw [← HW.out]
  refine (awake_any _).mono ?_
  rintro e w1 ⟨rfl, hb1⟩
  have HB1 := Lib.hid (HB.out.trans (hb1.mono HB.out.size))
  have LA1 := Lib.hid ((hb1.block _ (block_lt LA.out)).trans LA.out)
  have LB1 := Lib.hid ((hb1.block _ (block_lt LB.out)).trans LB.out)
  clear hb1 LA LB HB HW
  go_wp2_with (first | refine wpList_load_part 35 (.tmp 4) _ 0 (ws fun k => a k) _ rfl rfl rfl Try.underlying35 rfl info35 (cells_of LA1.out) ?_ | refine wpList_load_part 35 (.tmp 5) _ 0 (ws fun k => b k) _ rfl rfl rfl Try.underlying35 rfl info35 (cells_of LB1.out) ?_)
  refine (swap_any _ _ _ _).mono ?_
  rintro e w2 ⟨rfl, hb2⟩
  have HB2 := Lib.hid (HB1.out.trans (hb2.mono HB1.out.size))
  have LA2 := Lib.hid ((hb2.block _ (block_lt LA1.out)).trans LA1.out)
  have LB2 := Lib.hid ((hb2.block _ (block_lt LB1.out)).trans LB1.out)
  clear hb2 LA1 LB1 HB1
  obtain ⟨h3, h4⟩ := alloc2 w2 (.cells #[.int .u64 0, .int .u64 0, .int .u64 0, .int .u64 0, .int .u64 0, .int .u64 0, .int .u64 0, .int .u64 0, .int .u64 0] 35) (.cells #[.int .u64 0, .int .u64 0, .int .u64 0, .int .u64 0, .int .u64 0, .int .u64 0, .int .u64 0, .int .u64 0, .int .u64 0] 35)
  have h5 : (((w2.alloc (.cells #[.int .u64 0, .int .u64 0, .int .u64 0, .int .u64 0, .int .u64 0, .int .u64 0, .int .u64 0, .int .u64 0, .int .u64 0] 35)).alloc (.cells #[.int .u64 0, .int .u64 0, .int .u64 0, .int .u64 0, .int .u64 0, .int .u64 0, .int .u64 0, .int .u64 0, .int .u64 0] 35)).setRow w2.heap.size (ws fun k => pick m (b k) (a k))).heap[w2.heap.size + 1]? = some (.cells (ws fun _ => 0) 35 (0, 0)) := by
    rw [setRow_other _ _ _ _ (by omega)]; exact h4
  have H3 := Lib.hid h3
  have H5 := Lib.hid h5
  clear h3 h4 h5
  obtain ⟨nb, np, nq⟩ := two_new w2 (ws fun k => pick m (b k) (a k)) (ws fun k => pick m (a k) (b k)) #[.int .u64 0, .int .u64 0, .int .u64 0, .int .u64 0, .int .u64 0, .int .u64 0, .int .u64 0, .int .u64 0, .int .u64 0] 35
  have NP := Lib.hid np
  have NQ := Lib.hid nq
  have NB := Lib.hid nb
  clear np nq nb
  go_wp2_with (first | refine wpList_store_all 35 (.tmp 7) (.tmp 18) _ 35 _ (ws fun k => pick m (b k) (a k)) rfl rfl rfl rfl info35 (all_one _) H3.out rfl ?_ | refine wpList_store_all 35 (.tmp 8) (.tmp 19) _ 35 _ (ws fun k => pick m (a k) (b k)) rfl rfl rfl rfl info35 (all_one _) H5.out rfl ?_ | refine wpList_load_part 35 (.tmp 7) _ 0 (ws fun k => pick m (b k) (a k)) _ rfl rfl rfl Try.underlying35 rfl info35 (cells_of NP.out) ?_ | refine wpList_load_part 35 (.tmp 8) _ 0 (ws fun k => pick m (a k) (b k)) _ rfl rfl rfl Try.underlying35 rfl info35 (cells_of NQ.out) ?_)
  refine (swap_any _ _ _ _).mono ?_
  rintro e w3 ⟨rfl, hb3⟩
  have HB3 := Lib.hid (HB2.out.trans (NB.out.mono HB2.out.size) |>.trans (hb3.mono ((HB2.out.trans (NB.out.mono HB2.out.size)).size)))
  have LA3 := Lib.hid ((hb3.block _ (Nat.lt_of_lt_of_le (block_lt LA2.out) NB.out.size)).trans ((NB.out.block _ (block_lt LA2.out)).trans LA2.out))
  have LB3 := Lib.hid ((hb3.block _ (Nat.lt_of_lt_of_le (block_lt LB2.out) NB.out.size)).trans ((NB.out.block _ (block_lt LB2.out)).trans LB2.out))
  clear hb3 LA2 LB2 HB2 NB NP NQ H3 H5
  obtain ⟨h3, h4⟩ := alloc2 w3 (.cells #[.int .u64 0, .int .u64 0, .int .u64 0, .int .u64 0, .int .u64 0, .int .u64 0, .int .u64 0, .int .u64 0, .int .u64 0] 35) (.cells #[.int .u64 0, .int .u64 0, .int .u64 0, .int .u64 0, .int .u64 0, .int .u64 0, .int .u64 0, .int .u64 0, .int .u64 0] 35)
  have h5 : (((w3.alloc (.cells #[.int .u64 0, .int .u64 0, .int .u64 0, .int .u64 0, .int .u64 0, .int .u64 0, .int .u64 0, .int .u64 0, .int .u64 0] 35)).alloc (.cells #[.int .u64 0, .int .u64 0, .int .u64 0, .int .u64 0, .int .u64 0, .int .u64 0, .int .u64 0, .int .u64 0, .int .u64 0] 35)).setRow w3.heap.size (ws fun k => pick m (pick m (a k) (b k)) (pick m (b k) (a k)))).heap[w3.heap.size + 1]? = some (.cells (ws fun _ => 0) 35 (0, 0)) := by
    rw [setRow_other _ _ _ _ (by omega)]; exact h4
  have H3 := Lib.hid h3
  have H5 := Lib.hid h5
  clear h3 h4 h5
  obtain ⟨nb, np, nq⟩ := two_new w3 (ws fun k => pick m (pick m (a k) (b k)) (pick m (b k) (a k))) (ws fun k => pick m (pick m (b k) (a k)) (pick m (a k) (b k))) #[.int .u64 0, .int .u64 0, .int .u64 0, .int .u64 0, .int .u64 0, .int .u64 0, .int .u64 0, .int .u64 0, .int .u64 0] 35
  obtain ⟨W5, hW5⟩ : ∃ W5 : World, W5 = (((w3.alloc (.cells #[.int .u64 0, .int .u64 0, .int .u64 0, .int .u64 0, .int .u64 0, .int .u64 0, .int .u64 0, .int .u64 0, .int .u64 0] 35)).alloc (.cells #[.int .u64 0, .int .u64 0, .int .u64 0, .int .u64 0, .int .u64 0, .int .u64 0, .int .u64 0, .int .u64 0, .int .u64 0] 35)).setRow w3.heap.size (ws fun k => pick m (pick m (a k) (b k)) (pick m (b k) (a k)))).setRow (w3.heap.size + 1) (ws fun k => pick m (pick m (b k) (a k)) (pick m (a k) (b k))) := ⟨_, rfl⟩
  rw [← hW5] at nb np nq
  have HW5 := Lib.hid hW5
  clear hW5
  have LA4 := Lib.hid (cells_ext (Nat.lt_of_lt_of_le (block_lt LA3.out) nb.size) (cells_of ((nb.block _ (block_lt LA3.out)).trans LA3.out)))
  have LB4 := Lib.hid (cells_ext (Nat.lt_of_lt_of_le (block_lt LB3.out) nb.size) (cells_of ((nb.block _ (block_lt LB3.out)).trans LB3.out)))
  have LX4 := Lib.hid (cells_ext (block_lt np) (cells_of np))
  have LY4 := Lib.hid (cells_ext (block_lt nq) (cells_of nq))
  have HB4 := Lib.hid (HB3.out.trans (nb.mono HB3.out.size))
  clear np nq nb LA3 LB3 HB3
  go_wp2_with (first | refine wpList_store_all 35 (.tmp 9) (.tmp 25) _ 35 _ (ws fun k => pick m (pick m (a k) (b k)) (pick m (b k) (a k))) rfl rfl rfl rfl info35 (all_one _) H3.out rfl ?_ | refine wpList_store_all 35 (.tmp 10) (.tmp 26) _ 35 _ (ws fun k => pick m (pick m (b k) (a k)) (pick m (a k) (b k))) rfl rfl rfl rfl info35 (all_one _) H5.out rfl ?_)
  rw [← HW5.out]
  have e1 := t1.out
  have e2 := t2.out
  have e3 := t3.out
  have e4 := t4.out
  refine wp_region_quiet_tail (C := InExt _ _) 32 (by kernel_rfl) (by kernel_rfl) (Ext.start _) ?_
  simp only [List.take_succ_cons, List.take_zero, List.drop_succ_cons, List.drop_zero]
  refine wpQuiet_load_part 35 (.tmp 9) _ 0 (ws fun k => pick m (pick m (a k) (b k)) (pick m (b k) (a k))) _ rfl rfl rfl Try.underlying35 rfl info35 LX4.out ?_
  refine wpQuiet_load_part 35 (.tmp 4) _ 0 (ws fun k => a k) _ rfl rfl rfl Try.underlying35 rfl info35 LA4.out ?_
  quiet_step (fail)
  quiet_step (fail)
  refine wpQuiet_load_if 35 (.tmp 10) _ 0 (ws fun k => pick m (pick m (b k) (a k)) (pick m (a k) (b k))) _ 3 rfl rfl rfl rfl Try.underlying35 rfl info35 LY4.out ?_
  refine wpQuiet_load_if 35 (.tmp 5) _ 0 (ws fun k => b k) _ 3 rfl rfl rfl rfl Try.underlying35 rfl info35 LB4.out ?_
  quiet_step (fail)
  quiet_step (fail)
  quiet_step (fail)
  quiet_step (fail)
  refine wpQuiet_load_if 35 (.tmp 4) _ 0 (ws fun k => a k) _ 8 rfl rfl rfl rfl Try.underlying35 rfl info35 LA4.out ?_
  refine wpQuiet_load_if 35 (.tmp 4) _ 0 (ws fun k => a k) _ 8 rfl rfl rfl rfl Try.underlying35 rfl info35 LA4.out ?_
  quiet_step (exact Ext.of (select_any _ _ _ _))
  refine wpQuiet_load_if 35 (.tmp 4) _ 0 (ws fun k => a k) _ 8 rfl rfl rfl rfl Try.underlying35 rfl info35 LA4.out ?_
  quiet_step (fail)
  quiet_step (fail)
  quiet_step (fail)
  quiet_step (fail)
  refine wpQuiet_load_if 35 (.tmp 4) _ 0 (ws fun k => a k) _ 16 rfl rfl rfl rfl Try.underlying35 rfl info35 LA4.out ?_
  refine wpQuiet_load_if 35 (.tmp 5) _ 0 (ws fun k => b k) _ 16 rfl rfl rfl rfl Try.underlying35 rfl info35 LB4.out ?_
  quiet_step (exact Ext.of (select_any _ _ _ _))
  quiet_step (fail)
  quiet_step (fail)
  refine wpQuiet_load_if 35 (.tmp 5) _ 0 (ws fun k => b k) _ 16 rfl rfl rfl rfl Try.underlying35 rfl info35 LB4.out ?_
  refine wpQuiet_load_if 35 (.tmp 4) _ 0 (ws fun k => a k) _ 16 rfl rfl rfl rfl Try.underlying35 rfl info35 LA4.out ?_
  quiet_step (exact Ext.of (select_any _ _ _ _))
  quiet_step (fail)
  quiet_step (fail)
  quiet_step (fail)
  quiet_step (exact Ext.of (num_ok _))
  quiet_step (fail)
  quiet_step (fail)
  refine wpQuiet_nil ?_
  rintro w4 ⟨x, hx⟩
  have hb4 := x.ok
  rw [← hx] at hb4
  clear hx x LA4 LB4 LX4 LY4
  go_wp2_with fail
  go_ret
  exact ⟨rfl, HB4.out.trans (hb4.mono HB4.out.size)⟩
end Go.Proofs.Ytgdkefjpekebmaa
