/-
  This text proves what the functions of package mask return that choose numbers, for all numbers and masks. No condition.
-/
import Derived.Test.YtgdkefjpekebmaaMa
namespace Go.Proofs.Ytgdkefjpekebmaa
open Go.ChangeShapes Go.WideShapes Go.ChangeAt Go.RowKit
/-- behind k words -/
def fk (m : Int) (a b : Nat → Int) (k : Nat) : Nat → Int := fun j => if j < k then pick m (a j) (b j) else a j
theorem fk_zero (m : Int) (a b : Nat → Int) : fk m a b 0 = a := by funext j; simp [fk]
theorem fk_same (m : Int) (a b : Nat → Int) (k : Nat) : fk m a b k k = a k := by simp [fk]
theorem fk_step (m : Int) (a b : Nat → Int) (k : Nat) : (fun j => if j = k then pick m (a k) (b k) else fk m a b k j) = fk m a b (k + 1) := by
  funext j
  simp only [fk]
  by_cases h : j = k
  · subst h; simp
  · by_cases h2 : j < k
    · simp [h, h2, show j < k + 1 by omega]
    · simp [h, h2, show ¬ j < k + 1 by omega]
theorem fk_end (m : Int) (a b : Nat → Int) : ws (fk m a b 9) = ws fun k => pick m (a k) (b k) := ws_congr fun k hk => by simp [fk, hk]
theorem info35 : (Try.prog.info? 35).map (·.size) = some 9 := by kernel_rfl
theorem all_one (f : Nat → Int) : (ws f).all (·.oneCell') = true := by simp [ws, Value.oneCell']
theorem nat_any (a b : Nat → Int) (m : Int) (w : World) : Calls Try.prog 34 #[.func (.func 35) #[.agg #[.int .u64 m]] #[], .agg (ws a), .agg (ws b)] w fun e w' =>
    e = .returned (.agg (ws fun k => pick m (a k) (b k))) ∧ Below w.heap.size w w' := by
  go_enter Try.func34, Try.ntmps34
  go_wp2_with fail
  go_loopw [8] (fun i wr => ∃ k : Nat, k ≤ 9 ∧ i = .int .i64 k ∧ wr.heap[w.heap.size]? = some (.cells (ws (fk m a b k)) 35 (0, 0)) ∧ wr.heap[w.heap.size + 1]? = some (.cells (ws b) 35 (0, 0)) ∧
      wr.heap[w.heap.size + 1 + 1]? = some (.cells (ws fun _ => 0) 35 (0, 0)) ∧ Below w.heap.size w wr) (fun i _ => 9 - (intOf i).toNat)
  case atStart =>
    refine ⟨0, by omega, rfl, ?_, ?_, ?_, ?_⟩
    · rw [fk_zero, heap_alloc_old _ _ (by first | (simp; done) | (simp; omega)), heap_alloc_old _ _ (by first | (simp; done) | (simp; omega)), heap_alloc_new]
    · rw [heap_alloc_old _ _ (by first | (simp; done) | (simp; omega))]
      have := heap_alloc_new (w.alloc (.cells (ws a) 35)) (.cells (ws b) 35)
      simpa using this
    · have := heap_alloc_new ((w.alloc (.cells (ws a) 35)).alloc (.cells (ws b) 35)) (.cells (ws fun _ => 0) 35)
      simpa [ws] using this
    · go_grown
  case round =>
    obtain ⟨k, hk, rfl, h1, h2, h3, hb⟩ := hrel
    have s1 := block_lt h1
    have s2 := block_lt h2
    have s3 := block_lt h3
    by_cases hlt : k < 9
    · have c1 : wr.cell? ⟨w.heap.size, k, none⟩ = some (.int .u64 (a k)) := by rw [cell_of_row _ _ _ _ _ _ h1, ws_get _ _ hlt, fk_same]
      have c2 : wr.cell? ⟨w.heap.size + 1, k, none⟩ = some (.int .u64 (b k)) := by rw [cell_of_row _ _ _ _ _ _ h2, ws_get _ _ hlt]
      have xc := fun x : Ext wr.heap.size wr => x.cell
      have H1 := Lib.hid h1
      have H2 := Lib.hid h2
      have H3 := Lib.hid h3
      clear h1 h2 h3
      go_wp2_with fail
      refine wp_region_quiet_tail (C := InExt wr.heap.size wr) 13 (by kernel_rfl) (by kernel_rfl) (Ext.start _) ?_
      simp only [List.take_succ_cons, List.take_zero, List.drop_succ_cons, List.drop_zero]
      repeat (quiet_step ((go_at_call 35; exact Ext.of (word_any _ _ _ _))))
      refine wpQuiet_nil ?_
      rintro w1 ⟨x, hx⟩
      have hb1 := x.ok
      rw [← hx] at hb1
      clear hx x xc
      have g1 := (hb1.block _ s1).trans H1.out
      have G2 := Lib.hid ((hb1.block _ s2).trans H2.out)
      have G3 := Lib.hid ((hb1.block _ s3).trans H3.out)
      have c3 : w1.cell? ⟨w.heap.size, k, none⟩ = some (.int .u64 (a k)) := (hb1.cell (p := ⟨w.heap.size, k, none⟩) s1).trans c1
      have f3 := frozen_of_row w1 w.heap.size k _ _ g1
      have G1 := Lib.hid g1
      clear g1 c1 c2 H1 H2 H3
      go_wp2_with fail
      go_roundw
      case rel =>
        refine ⟨k + 1, by omega, by go_num, ?_, ?_, ?_, ?_⟩
        · rw [heap_setCell_same _ _ _ _ _ _ G1.out, ws_set _ _ _ hlt, fk_step]
        · rw [heap_setCell_other _ _ _ _ (by show w.heap.size + 1 ≠ w.heap.size; omega)]; exact G2.out
        · rw [heap_setCell_other _ _ _ _ (by show w.heap.size + 1 + 1 ≠ w.heap.size; omega)]; exact G3.out
        · exact (hb.trans (hb1.mono hb.size)).setCell (Nat.le_refl _) _
      case measure => simp [intOf]; omega
    · obtain rfl : k = 9 := by omega
      have lc : ∀ j v, (ws (fk m a b 9))[j]? = some v → wr.cell? ⟨w.heap.size, 0 + j, none⟩ = some v := fun j v hv => by rw [Nat.zero_add, cell_of_row _ _ _ _ _ _ h1]; exact hv
      have H1 := Lib.hid h1
      have H2 := Lib.hid h2
      have H3 := Lib.hid h3
      have LC := Lib.hid lc
      clear h1 h2 h3 lc
      go_wp2_with (first | (refine wpList_load_part 35 _ _ 0 (ws (fk m a b 9)) _ rfl rfl rfl Try.underlying35 rfl info35 LC.out ?_) | (refine wpList_store_all 35 _ _ _ 35 (ws fun _ => 0) (ws (fk m a b 9)) rfl rfl rfl rfl info35 (all_one _) H3.out rfl ?_))
      refine bodyPost_ret (results_cell_row rfl _ _ _ _ _ _ _ rfl (setRow_heap _ _ _ _ _ _ H3.out) Try.underlying35 rfl info35) rfl ⟨?_, ?_⟩
      · rw [fk_end]
      · exact below_setRow hb (by omega) _
theorem zeros : (#[.int .u64 0, .int .u64 0, .int .u64 0, .int .u64 0, .int .u64 0, .int .u64 0, .int .u64 0, .int .u64 0, .int .u64 0] : Array Value) = ws fun _ => 0 := rfl
theorem select_any (a b : Nat → Int) (m : Int) (w : World) : Calls Try.prog 19 #[.int .u64 m, .agg (ws a), .agg (ws b)] w fun e w' =>
    e = .returned (.agg (ws fun k => pick m (a k) (b k))) ∧ Below w.heap.size w w' := by
  obtain ⟨h1, h2, h3⟩ := alloc3 w (.cells (ws a) 35) (.cells (ws b) 35) (.cells #[.int .u64 0, .int .u64 0, .int .u64 0, .int .u64 0, .int .u64 0, .int .u64 0, .int .u64 0, .int .u64 0, .int .u64 0] 35)
  have LA := Lib.hid (cells_of h1)
  have LB := Lib.hid (cells_of h2)
  have H3 := Lib.hid h3
  have s3 := block_lt h3
  clear h1 h2 h3
  go_enter Try.func19, Try.ntmps19
  go_wp2_with (first | (refine wpList_load_part 35 (.tmp 4) _ 0 (ws a) _ rfl rfl rfl Try.underlying35 rfl info35 LA.out ?_) | (refine wpList_load_part 35 (.tmp 5) _ 0 (ws b) _ rfl rfl rfl Try.underlying35 rfl info35 LB.out ?_))
  refine (nat_any a b m _).mono ?_
  rintro e w1 ⟨rfl, hb⟩
  have g3 := (hb.block _ s3).trans H3.out
  rw [zeros] at g3
  have G3 := Lib.hid g3
  clear g3
  go_wp2_with (first | (refine wpList_store_all 35 _ _ _ 35 (ws fun _ => 0) (ws fun k => pick m (a k) (b k)) rfl rfl rfl rfl info35 (all_one _) G3.out rfl ?_))
  refine bodyPost_ret (results_cell_row rfl _ _ _ _ _ _ _ rfl (setRow_heap _ _ _ _ _ _ G3.out) Try.underlying35 rfl info35) rfl ⟨?_, ?_⟩
  · rfl
  · refine below_setRow (Below.trans ?_ (hb.mono (by simp; omega))) (by omega) _
    go_grown
theorem one_any (x : Int) (w : World) : Calls Try.prog 33 #[.int .u64 x] w fun e w' =>
    e = .returned (.agg (ws fun k => if k = 0 then x else 0)) ∧ Below w.heap.size w w' := by
  go_enter Try.func33, Try.ntmps33
  go_wp2_with fail
  refine bodyPost_ret (results_cell_row rfl _ _ _ _ _ _ _ rfl (alloc2 _ _ _).1 Try.underlying35 rfl info35) rfl ⟨rfl, ?_⟩
  go_grown
theorem swap_any (a b : Nat → Int) (m : Int) (w : World) : Calls Try.prog 18 #[.int .u64 m, .agg (ws a), .agg (ws b)] w fun e w' =>
    e = .returned (.tuple #[.agg (ws fun k => pick m (b k) (a k)), .agg (ws fun k => pick m (a k) (b k))]) ∧ Below w.heap.size w w' := by
  obtain ⟨W, hW⟩ : ∃ W : World, W = (((w.alloc (.cells (ws a) 35)).alloc (.cells (ws b) 35)).alloc (.cells #[.int .u64 0, .int .u64 0, .int .u64 0, .int .u64 0, .int .u64 0, .int .u64 0, .int .u64 0, .int .u64 0, .int .u64 0] 35)).alloc (.cells #[.int .u64 0, .int .u64 0, .int .u64 0, .int .u64 0, .int .u64 0, .int .u64 0, .int .u64 0, .int .u64 0, .int .u64 0] 35) := ⟨_, rfl⟩
  have hB : Below w.heap.size w W := by rw [hW]; go_grown
  obtain ⟨h1, h2, h3⟩ := alloc3 w (.cells (ws a) 35) (.cells (ws b) 35) (.cells #[.int .u64 0, .int .u64 0, .int .u64 0, .int .u64 0, .int .u64 0, .int .u64 0, .int .u64 0, .int .u64 0, .int .u64 0] 35)
  have g1 : W.heap[w.heap.size]? = some (.cells (ws a) 35 (0, 0)) := by rw [hW, heap_alloc_old _ _ (block_lt h1)]; exact h1
  have g2 : W.heap[w.heap.size + 1]? = some (.cells (ws b) 35 (0, 0)) := by rw [hW, heap_alloc_old _ _ (block_lt h2)]; exact h2
  have g3 : W.heap[w.heap.size + 1 + 1]? = some (.cells (ws fun _ => 0) 35 (0, 0)) := by rw [hW, heap_alloc_old _ _ (block_lt h3)]; exact h3
  have g4 : W.heap[w.heap.size + 1 + 1 + 1]? = some (.cells (ws fun _ => 0) 35 (0, 0)) := by
    rw [hW]
    have := heap_alloc_new (((w.alloc (.cells (ws a) 35)).alloc (.cells (ws b) 35)).alloc (.cells #[.int .u64 0, .int .u64 0, .int .u64 0, .int .u64 0, .int .u64 0, .int .u64 0, .int .u64 0, .int .u64 0, .int .u64 0] 35)) (.cells #[.int .u64 0, .int .u64 0, .int .u64 0, .int .u64 0, .int .u64 0, .int .u64 0, .int .u64 0, .int .u64 0, .int .u64 0] 35)
    simpa [ws] using this
  have LA := Lib.hid (cells_ext (block_lt g1) (cells_of g1))
  have LB := Lib.hid (cells_ext (block_lt g2) (cells_of g2))
  have s3 := block_lt g3
  have s4 := block_lt g4
  have G3 := Lib.hid g3
  have G4 := Lib.hid g4
  have HW := Lib.hid hW
  clear h1 h2 h3 g1 g2 g3 g4 hW
  go_enter Try.func18, Try.ntmps18
  go_wp2_with fail
  rw [← HW.out]
  refine wp_region_quiet_tail (C := InExt W.heap.size W) 8 (by kernel_rfl) (by kernel_rfl) (Ext.start _) ?_
  simp only [List.take_succ_cons, List.take_zero, List.drop_succ_cons, List.drop_zero]
  quiet_step (fail)
  refine wpQuiet_load_part 35 (.tmp 5) _ 0 (ws b) _ rfl rfl rfl Try.underlying35 rfl info35 LB.out ?_
  refine wpQuiet_load_part 35 (.tmp 4) _ 0 (ws a) _ rfl rfl rfl Try.underlying35 rfl info35 LA.out ?_
  quiet_step (exact Ext.of (select_any b a _ _))
  quiet_step (fail)
  refine wpQuiet_load_part 35 (.tmp 4) _ 0 (ws a) _ rfl rfl rfl Try.underlying35 rfl info35 LA.out ?_
  refine wpQuiet_load_part 35 (.tmp 5) _ 0 (ws b) _ rfl rfl rfl Try.underlying35 rfl info35 LB.out ?_
  quiet_step (exact Ext.of (select_any a b _ _))
  refine wpQuiet_nil ?_
  rintro w1 ⟨x, hx⟩
  have hb1 := x.ok
  rw [← hx] at hb1
  clear hx x LA LB
  have k3 := (hb1.block _ s3).trans G3.out
  have k4 := (hb1.block _ s4).trans G4.out
  have K3 := Lib.hid k3
  have K4 := Lib.hid (show (w1.setRow (w.heap.size + 1 + 1) (ws fun k => pick m (b k) (a k))).heap[w.heap.size + 1 + 1 + 1]? = some (.cells (ws fun _ => 0) 35 (0, 0)) by
    rw [setRow_other _ _ _ _ (by omega)]; exact k4)
  have R3 := Lib.hid (setRow_heap w1 (w.heap.size + 1 + 1) _ (ws fun k => pick m (b k) (a k)) _ _ k3)
  clear k3 k4
  refine wpList_store_all 35 _ (.tmp 11) _ 35 (ws fun _ => 0) (ws fun k => pick m (b k) (a k)) rfl rfl rfl rfl info35 (all_one _) K3.out rfl ?_
  refine wpList_store_all 35 _ (.tmp 15) _ 35 (ws fun _ => 0) (ws fun k => pick m (a k) (b k)) rfl rfl rfl rfl info35 (all_one _) K4.out rfl ?_
  go_wp2_with fail
  refine bodyPost_ret (results_2 rfl (ResIs.cell (cs := ws fun k => pick m (b k) (a k)) rfl ((setRow_other _ _ _ _ (by omega)).trans R3.out) Try.underlying35 rfl info35) (ResIs.cell rfl (setRow_heap _ _ _ _ _ _ K4.out) Try.underlying35 rfl info35)) rfl ⟨rfl, ?_⟩
  exact below_setRow (below_setRow (hB.trans (hb1.mono hB.size)) (by omega) _) (by omega) _
/-- are nine words the same -/
def same9 (f g : Nat → Int) : Bool := (List.range 9).all fun k => f k == g k
theorem eq_words (f g : Nat → Int) (d : Nat) (w : World) : (Op.equalIn (d + 2) 33 (.agg (ws f)) (.agg (ws g))).run Try.prog w = .ok (same9 f g) w :=
  equalIn_array (m := 1) Try.underlying33 (by kernel_rfl) fun i hi => ⟨_, _, part_cell (by kernel_rfl) (by rw [Nat.mul_one]; exact ws_get f i hi), part_cell (by kernel_rfl) (by rw [Nat.mul_one]; exact ws_get g i hi), run_equalIn_int w d 22 .u64 .u64 (f i) (g i) Try.underlying22⟩
theorem eq_nat (f g : Nat → Int) (w : World) : (Op.equalIn 10000 35 (.agg (ws f)) (.agg (ws g))).run Try.prog w = .ok (same9 f g) w := by
  rw [run_equalIn_struct w 9999 35 _ _ (by kernel_rfl) (by kernel_rfl)]
  have hf : (Try.prog.fieldsOf 35).toList = [{ name := "W", type := 33, offset := 0, embedded := false, tag := "", pkgPath := "", byteOffset := 0 }] := by kernel_rfl
  have hp : ∀ h : Nat → Int, (part 33 (ws h) 0).run Try.prog w = .ok (.agg (ws h)) w := fun h => by kernel_rfl
  rw [hf]
  simp only [Op.eqFields, Sem.run_bind, Sem.run_ite, hp, Result.andThen_ok, eq_words f g 9997 w]
  cases same9 f g <;> rfl
@[go_sem high] theorem eql_nat (f g : Nat → Int) (w : World) : (binOp .eql 35 (.agg (ws f)) (.agg (ws g))).run Try.prog w = .ok (.bool (same9 f g)) w := by
  rw [run_eql_struct, eq_nat]; rfl
@[go_sem high] theorem neq_nat (f g : Nat → Int) (w : World) : (binOp .neq 35 (.agg (ws f)) (.agg (ws g))).run Try.prog w = .ok (.bool (!same9 f g)) w := by
  rw [run_neq_struct, eq_nat]; rfl
theorem same9_self (f : Nat → Int) : same9 f f = true := by simp [same9]
theorem same9_of {f g : Nat → Int} (h : ∀ k, k < 9 → f k = g k) : same9 f g = true := by
  simp only [same9, List.all_eq_true, List.mem_range, beq_iff_eq]; exact h
end Go.Proofs.Ytgdkefjpekebmaa
