/-
  This text proves that the statements on package mask return true, for all words, numbers and texts. Condition: texts are shorter than 2^63.
-/
import Derived.Test.YtgdkefjpekebmaaMb
namespace Go.Proofs.Ytgdkefjpekebmaa
open Go.ChangeShapes Go.WideShapes Go.ChangeAt Go.RowKit
theorem zero_at (x : Int) (n : Nat) (hx : x = n) (hn : n < 18446744073709551616) (r : Int) (hr : r = msk (decide (n = 0))) (w : World) : Calls Try.prog 12 #[.int .u64 x] w fun e w' => e = .returned (.int .u64 r) ∧ w' = w := hx ▸ zero_any n hn r hr w
theorem equal_at (x y : Int) (m n : Nat) (hx : x = m) (hy : y = n) (hm : m < 18446744073709551616) (hn : n < 18446744073709551616) (r : Int) (hr : r = msk (decide (m = n))) (w : World) : Calls Try.prog 14 #[.int .u64 x, .int .u64 y] w fun e w' => e = .returned (.int .u64 r) ∧ w' = w := by
  subst hx; subst hy; exact equal_any m n hm hn r hr w
theorem less_at (x y : Int) (m n : Nat) (hx : x = m) (hy : y = n) (hm : m < 18446744073709551616) (hn : n < 18446744073709551616) (r : Int) (hr : r = msk (decide (m < n))) (w : World) : Calls Try.prog 15 #[.int .u64 x, .int .u64 y] w fun e w' => e = .returned (.int .u64 r) ∧ w' = w := by
  subst hx; subst hy; exact less_any m n hm hn r hr w
theorem awake_any (w : World) : Calls Try.prog 17 #[] w fun e w' => e = .returned (.bool true) ∧ Below w.heap.size w w' := by
  go_enter Try.func17, Try.ntmps17
  go_wp2_with fail
  refine (zero_at 0 0 rfl (by omega) 18446744073709551615 rfl _).mono ?_
  rintro e w1 ⟨rfl, rfl⟩
  go_wp2_with fail
  refine (zero_at 5 5 rfl (by omega) 0 rfl _).mono ?_
  rintro e w1 ⟨rfl, rfl⟩
  go_wp2_with fail
  refine (equal_at 3 3 3 3 rfl rfl (by omega) (by omega) 18446744073709551615 rfl _).mono ?_
  rintro e w1 ⟨rfl, rfl⟩
  go_wp2_with fail
  refine (less_at 2 3 2 3 rfl rfl (by omega) (by omega) 18446744073709551615 rfl _).mono ?_
  rintro e w1 ⟨rfl, rfl⟩
  go_wp2_with fail
  refine (less_at 3 3 3 3 rfl rfl (by omega) (by omega) 0 rfl _).mono ?_
  rintro e w1 ⟨rfl, rfl⟩
  go_wp2_with fail
  refine (same_any ⟨#[97]⟩ ⟨#[97]⟩ (by decide) 18446744073709551615 (by simp [msk]) _).mono ?_
  rintro e w2 ⟨rfl, hb2⟩
  go_wp2_with fail
  refine (one_any 4 _).mono ?_
  rintro e w3 ⟨rfl, hb3⟩
  go_wp2_with fail
  refine (one_any 5 _).mono ?_
  rintro e w4 ⟨rfl, hb4⟩
  go_wp2_with fail
  refine (select_any (fun k => if k = 0 then 4 else 0) (fun k => if k = 0 then 5 else 0) 18446744073709551615 _).mono ?_
  rintro e w5 ⟨rfl, hb5⟩
  go_wp2_with fail
  refine (one_any 4 _).mono ?_
  rintro e w6 ⟨rfl, hb6⟩
  have hs : same9 (fun k => pick 18446744073709551615 (if k = 0 then 4 else 0) (if k = 0 then 5 else 0)) (fun k => if k = 0 then 4 else 0) = true := by decide +kernel
  go_wp2
  go_ret
  have c3 := hb2.trans (hb3.mono hb2.size)
  have c4 := c3.trans (hb4.mono c3.size)
  have c5 := c4.trans (hb5.mono c4.size)
  exact ⟨rfl, c5.trans (hb6.mono c5.size)⟩
theorem all_any (c : Bool) (w : World) : Calls Try.prog 13 #[.bool c] w fun e w' => e = .returned (.int .u64 (msk c)) ∧ w' = w := by
  cases c
  all_goals
    go_enter Try.func13, Try.ntmps13
    go_wp2
    go_ret
    exact ⟨rfl, rfl⟩
@[go_sem high] theorem or_00 : bits .or .u64 0 0 = 0 := by decide +kernel
@[go_sem high] theorem or_01 : bits .or .u64 0 18446744073709551615 = 18446744073709551615 := by decide +kernel
@[go_sem high] theorem or_10 : bits .or .u64 18446744073709551615 0 = 18446744073709551615 := by decide +kernel
@[go_sem high] theorem or_11 : bits .or .u64 18446744073709551615 18446744073709551615 = 18446744073709551615 := by decide +kernel
@[go_sem high] theorem and_00 : bits .and .u64 0 0 = 0 := by decide +kernel
@[go_sem high] theorem and_01 : bits .and .u64 0 18446744073709551615 = 0 := by decide +kernel
@[go_sem high] theorem and_10 : bits .and .u64 18446744073709551615 0 = 0 := by decide +kernel
@[go_sem high] theorem and_11 : bits .and .u64 18446744073709551615 18446744073709551615 = 18446744073709551615 := by decide +kernel
theorem msk_t {c : Prop} [Decidable c] (h : c) : (18446744073709551615 : Int) = msk (decide c) := by rw [decide_eq_true h]; rfl
theorem msk_f {c : Prop} [Decidable c] (h : ¬ c) : (0 : Int) = msk (decide c) := by rw [decide_eq_false h]; rfl
set_option maxHeartbeats 2000000 in
theorem order_lt (m n : Nat) (hm : m < 18446744073709551616) (hn : n < 18446744073709551616) (h : m < n) (w : World) : Calls Try.prog 5 #[.int .u64 m, .int .u64 n] w fun e w' => e = .returned (.bool true) ∧ Below w.heap.size w w' := by
  have c1 := Lib.hid (show m < n by omega)
  have c2 := Lib.hid (show ¬ n < m by omega)
  have c3 := Lib.hid (show ¬ m = n by omega)
  have c4 := Lib.hid (show ¬ (m + 18446744073709551616 - n) % 18446744073709551616 = 0 by omega)
  clear h
  have hz := wrap_sub m n hn
  have hz2 : (m + 18446744073709551616 - n) % 18446744073709551616 < 18446744073709551616 := Nat.mod_lt _ (by omega)
  go_enter Try.func5, Try.ntmps5
  go_wp2_with fail
  refine (awake_any _).mono ?_
  rintro e w0 ⟨rfl, hb1⟩
  go_wp2_with fail
  refine ((less_any m n hm hn 18446744073709551615 (msk_t c1.out)) _).mono ?_
  rintro e w1 ⟨rfl, rfl⟩
  go_wp2_with fail
  refine ((less_any n m hn hm 0 (msk_f c2.out)) _).mono ?_
  rintro e w1 ⟨rfl, rfl⟩
  go_wp2_with fail
  refine ((equal_any m n hm hn 0 (msk_f c3.out)) _).mono ?_
  rintro e w1 ⟨rfl, rfl⟩
  go_wp2_with fail
  refine ((less_any m n hm hn 18446744073709551615 (msk_t c1.out)) _).mono ?_
  rintro e w1 ⟨rfl, rfl⟩
  go_wp2_with fail
  refine ((less_any n m hn hm 0 (msk_f c2.out)) _).mono ?_
  rintro e w1 ⟨rfl, rfl⟩
  go_wp2_with fail
  refine ((less_any m n hm hn 18446744073709551615 (msk_t c1.out)) _).mono ?_
  rintro e w1 ⟨rfl, rfl⟩
  go_wp2_with fail
  refine ((equal_any m n hm hn 0 (msk_f c3.out)) _).mono ?_
  rintro e w1 ⟨rfl, rfl⟩
  go_wp2_with fail
  refine ((zero_at _ ((m + 18446744073709551616 - n) % 18446744073709551616) (by first | rfl | exact (Int.natCast_emod _ _).symm | simp) hz2 0 (msk_f c4.out)) _).mono ?_
  rintro e w1 ⟨rfl, rfl⟩
  go_wp2_with fail
  refine ((equal_any m n hm hn 0 (msk_f c3.out)) _).mono ?_
  rintro e w1 ⟨rfl, rfl⟩
  go_wp2_with fail
  go_ret
  exact ⟨rfl, hb1⟩
set_option maxHeartbeats 2000000 in
theorem order_eq (m n : Nat) (hm : m < 18446744073709551616) (hn : n < 18446744073709551616) (h : m = n) (w : World) : Calls Try.prog 5 #[.int .u64 m, .int .u64 n] w fun e w' => e = .returned (.bool true) ∧ Below w.heap.size w w' := by
  have c1 := Lib.hid (show ¬ m < n by omega)
  have c2 := Lib.hid (show ¬ n < m by omega)
  have c3 := Lib.hid (show m = n by omega)
  have c4 := Lib.hid (show (m + 18446744073709551616 - n) % 18446744073709551616 = 0 by omega)
  clear h
  have hz := wrap_sub m n hn
  have hz2 : (m + 18446744073709551616 - n) % 18446744073709551616 < 18446744073709551616 := Nat.mod_lt _ (by omega)
  go_enter Try.func5, Try.ntmps5
  go_wp2_with fail
  refine (awake_any _).mono ?_
  rintro e w0 ⟨rfl, hb1⟩
  go_wp2_with fail
  refine ((less_any m n hm hn 0 (msk_f c1.out)) _).mono ?_
  rintro e w1 ⟨rfl, rfl⟩
  go_wp2_with fail
  refine ((less_any n m hn hm 0 (msk_f c2.out)) _).mono ?_
  rintro e w1 ⟨rfl, rfl⟩
  go_wp2_with fail
  refine ((equal_any m n hm hn 18446744073709551615 (msk_t c3.out)) _).mono ?_
  rintro e w1 ⟨rfl, rfl⟩
  go_wp2_with fail
  refine ((less_any m n hm hn 0 (msk_f c1.out)) _).mono ?_
  rintro e w1 ⟨rfl, rfl⟩
  go_wp2_with fail
  refine ((less_any n m hn hm 0 (msk_f c2.out)) _).mono ?_
  rintro e w1 ⟨rfl, rfl⟩
  go_wp2_with fail
  refine ((less_any m n hm hn 0 (msk_f c1.out)) _).mono ?_
  rintro e w1 ⟨rfl, rfl⟩
  go_wp2_with fail
  refine ((equal_any m n hm hn 18446744073709551615 (msk_t c3.out)) _).mono ?_
  rintro e w1 ⟨rfl, rfl⟩
  go_wp2_with fail
  refine ((zero_at _ ((m + 18446744073709551616 - n) % 18446744073709551616) (by first | rfl | exact (Int.natCast_emod _ _).symm | simp) hz2 18446744073709551615 (msk_t c4.out)) _).mono ?_
  rintro e w1 ⟨rfl, rfl⟩
  go_wp2_with fail
  refine ((equal_any m n hm hn 18446744073709551615 (msk_t c3.out)) _).mono ?_
  rintro e w1 ⟨rfl, rfl⟩
  go_wp2_with fail
  go_ret
  exact ⟨rfl, hb1⟩
set_option maxHeartbeats 2000000 in
theorem order_gt (m n : Nat) (hm : m < 18446744073709551616) (hn : n < 18446744073709551616) (h : n < m) (w : World) : Calls Try.prog 5 #[.int .u64 m, .int .u64 n] w fun e w' => e = .returned (.bool true) ∧ Below w.heap.size w w' := by
  have c1 := Lib.hid (show ¬ m < n by omega)
  have c2 := Lib.hid (show n < m by omega)
  have c3 := Lib.hid (show ¬ m = n by omega)
  have c4 := Lib.hid (show ¬ (m + 18446744073709551616 - n) % 18446744073709551616 = 0 by omega)
  clear h
  have hz := wrap_sub m n hn
  have hz2 : (m + 18446744073709551616 - n) % 18446744073709551616 < 18446744073709551616 := Nat.mod_lt _ (by omega)
  go_enter Try.func5, Try.ntmps5
  go_wp2_with fail
  refine (awake_any _).mono ?_
  rintro e w0 ⟨rfl, hb1⟩
  go_wp2_with fail
  refine ((less_any m n hm hn 0 (msk_f c1.out)) _).mono ?_
  rintro e w1 ⟨rfl, rfl⟩
  go_wp2_with fail
  refine ((less_any n m hn hm 18446744073709551615 (msk_t c2.out)) _).mono ?_
  rintro e w1 ⟨rfl, rfl⟩
  go_wp2_with fail
  refine ((equal_any m n hm hn 0 (msk_f c3.out)) _).mono ?_
  rintro e w1 ⟨rfl, rfl⟩
  go_wp2_with fail
  refine ((less_any m n hm hn 0 (msk_f c1.out)) _).mono ?_
  rintro e w1 ⟨rfl, rfl⟩
  go_wp2_with fail
  refine ((less_any n m hn hm 18446744073709551615 (msk_t c2.out)) _).mono ?_
  rintro e w1 ⟨rfl, rfl⟩
  go_wp2_with fail
  refine ((less_any m n hm hn 0 (msk_f c1.out)) _).mono ?_
  rintro e w1 ⟨rfl, rfl⟩
  go_wp2_with fail
  refine ((equal_any m n hm hn 0 (msk_f c3.out)) _).mono ?_
  rintro e w1 ⟨rfl, rfl⟩
  go_wp2_with fail
  refine ((zero_at _ ((m + 18446744073709551616 - n) % 18446744073709551616) (by first | rfl | exact (Int.natCast_emod _ _).symm | simp) hz2 0 (msk_f c4.out)) _).mono ?_
  rintro e w1 ⟨rfl, rfl⟩
  go_wp2_with fail
  refine ((equal_any m n hm hn 0 (msk_f c3.out)) _).mono ?_
  rintro e w1 ⟨rfl, rfl⟩
  go_wp2_with fail
  go_ret
  exact ⟨rfl, hb1⟩
theorem order_any (m n : Nat) (hm : m < 18446744073709551616) (hn : n < 18446744073709551616) (w : World) : Calls Try.prog 5 #[.int .u64 m, .int .u64 n] w fun e w' => e = .returned (.bool true) ∧ Below w.heap.size w w' := by
  rcases Nat.lt_trichotomy m n with h | h | h
  · exact order_lt m n hm hn h w
  · exact order_eq m n hm hn h w
  · exact order_gt m n hm hn h w
end Go.Proofs.Ytgdkefjpekebmaa
