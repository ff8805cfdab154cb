/-
  This text proves that a choice and a swap of two numbers answer bit by bit: the statement MaskPicks. Condition: none beyond the arguments' types.
-/
import Derived.Test.YtgdkefjpekebmaaMd
namespace Go.Proofs.Ytgdkefjpekebmaa
open Go.ChangeShapes Go.WideShapes Go.ChangeAt Go.RowKit
/-- filled up to k -/
def fz (k : Nat) (f : Nat → Int) : Nat → Int := fun j => if j < k then f j else 0
theorem fz_step (k : Nat) (f : Nat → Int) : (fun j => if j = k then f k else fz k f j) = fz (k + 1) f := by
  funext j
  simp only [fz]
  by_cases h : j = k
  · subst h; rw [if_pos rfl, if_pos (by omega)]
  · rw [if_neg h]
    by_cases h2 : j < k
    · rw [if_pos h2, if_pos (by omega)]
    · rw [if_neg h2, if_neg (by omega)]
theorem fz_end (f : Nat → Int) : ws (fz 9 f) = ws f := ws_congr fun _ hk => if_pos hk
set_option maxHeartbeats 4000000 in
theorem picks_any (a b : Nat → Int) (m : Int) (w : World) :
    Calls Try.prog 6 #[.int .u64 m, .agg (ws a), .agg (ws b)] w fun e w' => e = .returned (.bool true) ∧ Below w.heap.size w w' := by
  go_enter Try.func6, Try.ntmps6
  go_wp2_with fail
  go_loopw [9] (fun i wr => ∃ k : Nat, k ≤ 9 ∧ i = .int .i64 k ∧ wr.heap[w.heap.size]? = some (.cells (ws a) 35 (0, 0)) ∧ wr.heap[w.heap.size + 1]? = some (.cells (ws b) 35 (0, 0)) ∧ wr.heap[w.heap.size + 1 + 1]? = some (.cells (ws (fz k fun j => pick m (a j) (b j))) 35 (0, 0)) ∧ wr.heap[w.heap.size + 1 + 1 + 1]? = some (.cells (ws (fz k fun j => pick m (b j) (a j))) 35 (0, 0)) ∧ Below w.heap.size w wr) (fun i _ => 9 - (intOf i).toNat)
  case atStart =>
    obtain ⟨h1, h2, h3⟩ := alloc3 w (.cells (ws a) 35) (.cells (ws b) 35) (.cells #[.int .u64 0, .int .u64 0, .int .u64 0, .int .u64 0, .int .u64 0, .int .u64 0, .int .u64 0, .int .u64 0, .int .u64 0] 35)
    refine ⟨0, by omega, rfl, ?_, ?_, ?_, ?_, ?_⟩
    · rw [heap_alloc_old _ _ (block_lt h1)]; exact h1
    · rw [heap_alloc_old _ _ (block_lt h2)]; exact h2
    · rw [heap_alloc_old _ _ (block_lt h3)]; exact h3
    · have := heap_alloc_new (((w.alloc (.cells (ws a) 35)).alloc (.cells (ws b) 35)).alloc (.cells #[.int .u64 0, .int .u64 0, .int .u64 0, .int .u64 0, .int .u64 0, .int .u64 0, .int .u64 0, .int .u64 0, .int .u64 0] 35)) (.cells #[.int .u64 0, .int .u64 0, .int .u64 0, .int .u64 0, .int .u64 0, .int .u64 0, .int .u64 0, .int .u64 0, .int .u64 0] 35)
      simpa [ws, fz] using this
    · go_grown
  case round =>
    obtain ⟨k, hk, rfl, h1, h2, h3, h4, hb⟩ := hrel
    by_cases hlt : k < 9
    · have c1 : wr.cell? ⟨w.heap.size, k, none⟩ = some (.int .u64 (a k)) := by rw [cell_of_row _ _ _ _ _ _ h1, ws_get _ _ hlt]
      have c2 : wr.cell? ⟨w.heap.size + 1, k, none⟩ = some (.int .u64 (b k)) := by rw [cell_of_row _ _ _ _ _ _ h2, ws_get _ _ hlt]
      have f3 := frozen_of_row wr (w.heap.size + 1 + 1) k _ _ h3
      have c3 : wr.cell? ⟨w.heap.size + 1 + 1, k, none⟩ = some (.int .u64 (fz k (fun j => pick m (a j) (b j)) k)) := by rw [cell_of_row _ _ _ _ _ _ h3, ws_get _ _ hlt]
      have H1 := Lib.hid h1
      have H2 := Lib.hid h2
      have H3 := Lib.hid h3
      have H4 := Lib.hid h4
      clear h1 h2 h3 h4
      go_wp2_with fail
      have xc := fun x : Ext wr.heap.size wr => x.cell
      have s1 := block_lt H1.out
      have s2 := block_lt H2.out
      have s3 := block_lt H3.out
      have s4 := block_lt H4.out
      refine wp_region_quiet_tail (C := InExt wr.heap.size wr) 16 (by kernel_rfl) (by kernel_rfl) (Ext.start _) ?_
      simp only [List.take_succ_cons, List.take_zero, List.drop_succ_cons, List.drop_zero]
      repeat (quiet_step (fail))
      refine wpQuiet_nil ?_
      rintro w1 ⟨x, hx⟩
      have hb1 := x.ok
      rw [← hx] at hb1
      clear hx x xc
      have g3 := (hb1.block _ s3).trans H3.out
      have G1 := Lib.hid ((hb1.block _ s1).trans H1.out)
      have G2 := Lib.hid ((hb1.block _ s2).trans H2.out)
      have G4 := Lib.hid ((hb1.block _ s4).trans H4.out)
      have c5 : w1.cell? ⟨w.heap.size + 1 + 1, k, none⟩ = some (.int .u64 (fz k (fun j => pick m (a j) (b j)) k)) := (hb1.cell (p := ⟨w.heap.size + 1 + 1, k, none⟩) s3).trans c3
      have f5 := frozen_of_row w1 (w.heap.size + 1 + 1) k _ _ g3
      have G3 := Lib.hid g3
      clear g3 c1 c2 c3 f3 H1 H2 H3 H4
      go_wp2_with fail
      generalize hW : w1.setCell ⟨w.heap.size + 1 + 1, k, none⟩ (.int .u64 (bits .or .u64 (bits .and .u64 (a k) m) (bits .andNot .u64 (b k) m))) = W2
      have q1 : W2.heap[w.heap.size]? = some (.cells (ws a) 35 (0, 0)) := by rw [← hW, heap_setCell_other _ _ _ _ (by show w.heap.size ≠ w.heap.size + 1 + 1; omega)]; exact G1.out
      have q2 : W2.heap[w.heap.size + 1]? = some (.cells (ws b) 35 (0, 0)) := by rw [← hW, heap_setCell_other _ _ _ _ (by show w.heap.size + 1 ≠ w.heap.size + 1 + 1; omega)]; exact G2.out
      have q3 : W2.heap[w.heap.size + 1 + 1]? = some (.cells (ws (fz (k + 1) fun j => pick m (a j) (b j))) 35 (0, 0)) := by
        rw [← hW, heap_setCell_same _ _ _ _ _ _ G3.out, ws_set _ _ _ hlt]
        exact congrArg (fun f => some (Obj.cells (ws f) 35 (0, 0))) (fz_step k fun j => pick m (a j) (b j))
      have q4 : W2.heap[w.heap.size + 1 + 1 + 1]? = some (.cells (ws (fz k fun j => pick m (b j) (a j))) 35 (0, 0)) := by rw [← hW, heap_setCell_other _ _ _ _ (by show w.heap.size + 1 + 1 + 1 ≠ w.heap.size + 1 + 1; omega)]; exact G4.out
      have qb : Below w.heap.size w W2 := by rw [← hW]; exact (hb.trans (hb1.mono hb.size)).setCell (by show w.heap.size ≤ w.heap.size + 1 + 1; omega) _
      have c1 : W2.cell? ⟨w.heap.size, k, none⟩ = some (.int .u64 (a k)) := by rw [cell_of_row _ _ _ _ _ _ q1, ws_get _ _ hlt]
      have c2 : W2.cell? ⟨w.heap.size + 1, k, none⟩ = some (.int .u64 (b k)) := by rw [cell_of_row _ _ _ _ _ _ q2, ws_get _ _ hlt]
      have c3 : W2.cell? ⟨w.heap.size + 1 + 1 + 1, k, none⟩ = some (.int .u64 (fz k (fun j => pick m (b j) (a j)) k)) := by rw [cell_of_row _ _ _ _ _ _ q4, ws_get _ _ hlt]
      have s1 := block_lt q1
      have s2 := block_lt q2
      have s3 := block_lt q3
      have s4 := block_lt q4
      have H1 := Lib.hid q1
      have H2 := Lib.hid q2
      have H3 := Lib.hid q3
      have H4 := Lib.hid q4
      have xc := fun x : Ext W2.heap.size W2 => x.cell
      clear q1 q2 q3 q4 hW hb1 hb c5 f5 G1 G2 G3 G4
      refine wp_region_quiet_tail (C := InExt W2.heap.size W2) 16 (by kernel_rfl) (by kernel_rfl) (Ext.start _) ?_
      simp only [List.take_succ_cons, List.take_zero, List.drop_succ_cons, List.drop_zero]
      repeat (quiet_step (fail))
      refine wpQuiet_nil ?_
      rintro w3 ⟨x, hx⟩
      have hb3 := x.ok
      rw [← hx] at hb3
      clear hx x xc
      have g4 := (hb3.block _ s4).trans H4.out
      have G1 := Lib.hid ((hb3.block _ s1).trans H1.out)
      have G2 := Lib.hid ((hb3.block _ s2).trans H2.out)
      have G3 := Lib.hid ((hb3.block _ s3).trans H3.out)
      have c5 : w3.cell? ⟨w.heap.size + 1 + 1 + 1, k, none⟩ = some (.int .u64 (fz k (fun j => pick m (b j) (a j)) k)) := (hb3.cell (p := ⟨w.heap.size + 1 + 1 + 1, k, none⟩) s4).trans c3
      have f5 := frozen_of_row w3 (w.heap.size + 1 + 1 + 1) k _ _ g4
      have G4 := Lib.hid g4
      clear g4 c1 c2 c3 H1 H2 H3 H4
      go_wp2_with fail
      go_roundw
      case rel =>
        refine ⟨k + 1, by omega, by go_num, ?_, ?_, ?_, ?_, ?_⟩
        · rw [heap_setCell_other _ _ _ _ (by show w.heap.size ≠ w.heap.size + 1 + 1 + 1; omega)]; exact G1.out
        · rw [heap_setCell_other _ _ _ _ (by show w.heap.size + 1 ≠ w.heap.size + 1 + 1 + 1; omega)]; exact G2.out
        · rw [heap_setCell_other _ _ _ _ (by show w.heap.size + 1 + 1 ≠ w.heap.size + 1 + 1 + 1; omega)]; exact G3.out
        · rw [heap_setCell_same _ _ _ _ _ _ G4.out, ws_set _ _ _ hlt]
          exact congrArg (fun f => some (Obj.cells (ws f) 35 (0, 0))) (fz_step k fun j => pick m (b j) (a j))
        · exact (qb.trans (hb3.mono qb.size)).setCell (by show w.heap.size ≤ w.heap.size + 1 + 1 + 1; omega) _
      case measure => simp [intOf]; omega
    · obtain rfl : k = 9 := by omega
      have LA := Lib.hid h1
      have LB := Lib.hid h2
      rw [fz_end] at h3 h4
      have LX := Lib.hid h3
      have LY := Lib.hid h4
      have HB := Lib.hid hb
      clear h1 h2 h3 h4 hb
      go_wp2_with (first | refine wpList_load_part 35 (.tmp 4) _ 0 (ws a) _ rfl rfl rfl Try.underlying35 rfl info35 (cells_of LA.out) ?_ | refine wpList_load_part 35 (.tmp 5) _ 0 (ws b) _ rfl rfl rfl Try.underlying35 rfl info35 (cells_of LB.out) ?_)
      refine (swap_any _ _ _ _).mono ?_
      rintro e w2 ⟨rfl, hb2⟩
      obtain ⟨h3, h4⟩ := alloc2 w2 (.cells #[.int .u64 0, .int .u64 0, .int .u64 0, .int .u64 0, .int .u64 0, .int .u64 0, .int .u64 0, .int .u64 0, .int .u64 0] 35) (.cells #[.int .u64 0, .int .u64 0, .int .u64 0, .int .u64 0, .int .u64 0, .int .u64 0, .int .u64 0, .int .u64 0, .int .u64 0] 35)
      have h5 : (((w2.alloc (.cells #[.int .u64 0, .int .u64 0, .int .u64 0, .int .u64 0, .int .u64 0, .int .u64 0, .int .u64 0, .int .u64 0, .int .u64 0] 35)).alloc (.cells #[.int .u64 0, .int .u64 0, .int .u64 0, .int .u64 0, .int .u64 0, .int .u64 0, .int .u64 0, .int .u64 0, .int .u64 0] 35)).setRow w2.heap.size (ws fun k => pick m (b k) (a k))).heap[w2.heap.size + 1]? = some (.cells (ws fun _ => 0) 35 (0, 0)) := by
        rw [setRow_other _ _ _ _ (by omega)]; exact h4
      obtain ⟨nb, np, nq⟩ := two_new w2 (ws fun k => pick m (b k) (a k)) (ws fun k => pick m (a k) (b k)) #[.int .u64 0, .int .u64 0, .int .u64 0, .int .u64 0, .int .u64 0, .int .u64 0, .int .u64 0, .int .u64 0, .int .u64 0] 35
      obtain ⟨W5, hW5⟩ : ∃ W5 : World, W5 = (((w2.alloc (.cells #[.int .u64 0, .int .u64 0, .int .u64 0, .int .u64 0, .int .u64 0, .int .u64 0, .int .u64 0, .int .u64 0, .int .u64 0] 35)).alloc (.cells #[.int .u64 0, .int .u64 0, .int .u64 0, .int .u64 0, .int .u64 0, .int .u64 0, .int .u64 0, .int .u64 0, .int .u64 0] 35)).setRow w2.heap.size (ws fun k => pick m (b k) (a k))).setRow (w2.heap.size + 1) (ws fun k => pick m (a k) (b k)) := ⟨_, rfl⟩
      rw [← hW5] at nb np nq
      have MA := Lib.hid (cells_ext (Nat.lt_of_lt_of_le (Nat.lt_of_lt_of_le (block_lt LA.out) hb2.size) nb.size) (cells_of ((nb.block _ (Nat.lt_of_lt_of_le (block_lt LA.out) hb2.size)).trans ((hb2.block _ (block_lt LA.out)).trans LA.out))))
      have MB := Lib.hid (cells_ext (Nat.lt_of_lt_of_le (Nat.lt_of_lt_of_le (block_lt LB.out) hb2.size) nb.size) (cells_of ((nb.block _ (Nat.lt_of_lt_of_le (block_lt LB.out) hb2.size)).trans ((hb2.block _ (block_lt LB.out)).trans LB.out))))
      have MX := Lib.hid (cells_ext (Nat.lt_of_lt_of_le (Nat.lt_of_lt_of_le (block_lt LX.out) hb2.size) nb.size) (cells_of ((nb.block _ (Nat.lt_of_lt_of_le (block_lt LX.out) hb2.size)).trans ((hb2.block _ (block_lt LX.out)).trans LX.out))))
      have MY := Lib.hid (cells_ext (Nat.lt_of_lt_of_le (Nat.lt_of_lt_of_le (block_lt LY.out) hb2.size) nb.size) (cells_of ((nb.block _ (Nat.lt_of_lt_of_le (block_lt LY.out) hb2.size)).trans ((hb2.block _ (block_lt LY.out)).trans LY.out))))
      have MP := Lib.hid (cells_ext (block_lt np) (cells_of np))
      have MQ := Lib.hid (cells_ext (block_lt nq) (cells_of nq))
      have c2 := HB.out.trans (hb2.mono HB.out.size)
      have H5 := Lib.hid (c2.trans (nb.mono c2.size))
      have K3 := Lib.hid h3
      have K5 := Lib.hid h5
      have KW := Lib.hid hW5
      clear np nq nb hb2 LA LB LX LY HB c2 h4 h3 h5 hW5
      go_wp2_with (first | refine wpList_store_all 35 (.tmp 10) (.tmp 53) _ 35 _ (ws fun k => pick m (b k) (a k)) rfl rfl rfl rfl info35 (all_one _) K3.out rfl ?_ | refine wpList_store_all 35 (.tmp 11) (.tmp 54) _ 35 _ (ws fun k => pick m (a k) (b k)) rfl rfl rfl rfl info35 (all_one _) K5.out rfl ?_)
      rw [← KW.out]
      have e1 : same9 (fun k => pick m (a k) (b k)) (fun k => pick m (a k) (b k)) = true := same9_self _
      have e2 : same9 (fun k => pick m (b k) (a k)) (fun k => pick m (b k) (a k)) = true := same9_self _
      refine wp_region_quiet_tail (C := InExt _ _) 19 (by kernel_rfl) (by kernel_rfl) (Ext.start _) ?_
      simp only [List.take_succ_cons, List.take_zero, List.drop_succ_cons, List.drop_zero]
      quiet_step (fail)
      refine wpQuiet_load_part 35 (.tmp 4) _ 0 (ws a) _ rfl rfl rfl Try.underlying35 rfl info35 MA.out ?_
      refine wpQuiet_load_part 35 (.tmp 5) _ 0 (ws b) _ rfl rfl rfl Try.underlying35 rfl info35 MB.out ?_
      quiet_step (exact Ext.of (select_any _ _ _ _))
      refine wpQuiet_load_part 35 (.tmp 7) _ 0 (ws fun k => pick m (a k) (b k)) _ rfl rfl rfl Try.underlying35 rfl info35 MX.out ?_
      quiet_step (fail)
      quiet_step (fail)
      refine wpQuiet_load_if 35 (.tmp 10) _ 0 (ws fun k => pick m (b k) (a k)) _ 6 rfl rfl rfl rfl Try.underlying35 rfl info35 MP.out ?_
      refine wpQuiet_load_if 35 (.tmp 8) _ 0 (ws fun k => pick m (b k) (a k)) _ 6 rfl rfl rfl rfl Try.underlying35 rfl info35 MY.out ?_
      quiet_step (fail)
      quiet_step (fail)
      quiet_step (fail)
      refine wpQuiet_load_if 35 (.tmp 11) _ 0 (ws fun k => pick m (a k) (b k)) _ 11 rfl rfl rfl rfl Try.underlying35 rfl info35 MQ.out ?_
      refine wpQuiet_load_if 35 (.tmp 7) _ 0 (ws fun k => pick m (a k) (b k)) _ 11 rfl rfl rfl rfl Try.underlying35 rfl info35 MX.out ?_
      quiet_step (fail)
      quiet_step (fail)
      quiet_step (fail)
      quiet_step (exact Ext.of (awake_any _))
      quiet_step (fail)
      refine wpQuiet_nil ?_
      rintro w4 ⟨x, hx⟩
      have hb4 := x.ok
      rw [← hx] at hb4
      clear hx x MA MB MX MY MP MQ
      go_wp2_with fail
      go_ret
      exact ⟨rfl, H5.out.trans (hb4.mono H5.out.size)⟩
end Go.Proofs.Ytgdkefjpekebmaa
