/-
  This text proves that package mask's choices answer as the tests that they stand for: the statement Masks. Condition: texts are shorter than 2^63.
-/
import Derived.Test.YtgdkefjpekebmaaMc
namespace Go.Proofs.Ytgdkefjpekebmaa
open Go.ChangeShapes Go.WideShapes Go.ChangeAt Go.RowKit
theorem str_eq (s t : ByteArray) : decide (s = t) = (s.toList == t.toList) := by
  rw [Bool.eq_iff_iff, decide_eq_true_iff, beq_iff_eq, ByteArray.toList_eq, ByteArray.toList_eq]
  exact ⟨fun h => by rw [h], fun h => Go.WideShapes.bytes_inj h⟩
theorem all_at (c : Bool) (r : Int) (hr : r = msk c) (w : World) : Calls Try.prog 13 #[.bool c] w fun e w' => e = .returned (.int .u64 r) ∧ w' = w := hr ▸ all_any c w
set_option maxHeartbeats 4000000 in
theorem masks_any (m n : Nat) (s t : ByteArray) (hm : m < 18446744073709551616) (hn : n < 18446744073709551616) (hs : s.size ≤ 9223372036854775807) (ht : t.size ≤ 9223372036854775807) (w : World) :
    Calls Try.prog 3 #[.int .u64 m, .int .u64 n, .string s, .string t] w fun e w' => e = .returned (.bool true) ∧ Below w.heap.size w w' := by
  obtain ⟨r1, hr1⟩ : ∃ x : Int, Hid (x = msk (decide (m = 0))) := ⟨_, Lib.hid rfl⟩
  obtain ⟨r2, hr2⟩ : ∃ x : Int, Hid (x = msk (decide (m = n))) := ⟨_, Lib.hid rfl⟩
  obtain ⟨r3, hr3⟩ : ∃ x : Int, Hid (x = msk (decide (m < n))) := ⟨_, Lib.hid rfl⟩
  obtain ⟨r4, hr4⟩ : ∃ x : Int, Hid (x = msk (decide (n < m))) := ⟨_, Lib.hid rfl⟩
  obtain ⟨r5, hr5⟩ : ∃ x : Int, Hid (x = msk (decide (n = n))) := ⟨_, Lib.hid rfl⟩
  obtain ⟨r6, hr6⟩ : ∃ x : Int, Hid (x = msk (decide (s = t))) := ⟨_, Lib.hid rfl⟩
  obtain ⟨r7, hr7⟩ : ∃ x : Int, Hid (x = msk (decide (t = t))) := ⟨_, Lib.hid rfl⟩
  have Hm := Lib.hid hm
  have Hn := Lib.hid hn
  have Hs := Lib.hid hs
  have Ht := Lib.hid ht
  clear hm hn hs ht
  go_enter Try.func3, Try.ntmps3
  go_wp2_with fail
  refine (zero_any m Hm.out r1 hr1.out _).mono ?_
  rintro e w1 ⟨rfl, rfl⟩
  go_wp2_with fail
  refine (all_at _ r1 (hr1.out.trans (congrArg msk (by first | rfl | (rw [Bool.eq_iff_iff]; simp; done) | (rw [Bool.eq_iff_iff]; simp; omega)))) _).mono ?_
  rintro e w1 ⟨rfl, rfl⟩
  go_wp2_with fail
  refine (equal_any m n Hm.out Hn.out r2 hr2.out _).mono ?_
  rintro e w1 ⟨rfl, rfl⟩
  go_wp2_with fail
  refine (all_at _ r2 (hr2.out.trans (congrArg msk (by first | rfl | (rw [Bool.eq_iff_iff]; simp; done) | (rw [Bool.eq_iff_iff]; simp; omega)))) _).mono ?_
  rintro e w1 ⟨rfl, rfl⟩
  go_wp2_with fail
  refine (less_any m n Hm.out Hn.out r3 hr3.out _).mono ?_
  rintro e w1 ⟨rfl, rfl⟩
  go_wp2_with fail
  refine (all_at _ r3 (hr3.out.trans (congrArg msk (by first | rfl | (rw [Bool.eq_iff_iff]; simp; done) | (rw [Bool.eq_iff_iff]; simp; omega)))) _).mono ?_
  rintro e w1 ⟨rfl, rfl⟩
  go_wp2_with fail
  refine (less_any n m Hn.out Hm.out r4 hr4.out _).mono ?_
  rintro e w1 ⟨rfl, rfl⟩
  go_wp2_with fail
  refine (all_at _ r4 (hr4.out.trans (congrArg msk (by first | rfl | (rw [Bool.eq_iff_iff]; simp; done) | (rw [Bool.eq_iff_iff]; simp; omega)))) _).mono ?_
  rintro e w1 ⟨rfl, rfl⟩
  go_wp2_with fail
  refine (equal_any n n Hn.out Hn.out r5 (hr5.out.trans (congrArg msk (by simp))) _).mono ?_
  rintro e w1 ⟨rfl, rfl⟩
  go_wp2_with fail
  refine (all_at _ r5 (hr5.out.trans (congrArg msk (by first | rfl | (rw [Bool.eq_iff_iff]; simp; done) | (rw [Bool.eq_iff_iff]; simp; omega)))) _).mono ?_
  rintro e w1 ⟨rfl, rfl⟩
  go_wp2_with fail
  refine (same_any s t Hs.out r6 hr6.out _).mono ?_
  rintro e w2 ⟨rfl, hb2⟩
  go_wp2_with fail
  refine (all_at _ r6 (hr6.out.trans (congrArg msk (str_eq s t))) _).mono ?_
  rintro e w1 ⟨rfl, rfl⟩
  go_wp2_with fail
  refine (same_any t t Ht.out r7 (hr7.out.trans (congrArg msk (by simp))) _).mono ?_
  rintro e w3 ⟨rfl, hb3⟩
  go_wp2_with fail
  refine (all_at _ r7 (hr7.out.trans (congrArg msk (by first | rfl | (rw [Bool.eq_iff_iff]; simp; done) | (rw [Bool.eq_iff_iff]; simp; omega)))) _).mono ?_
  rintro e w1 ⟨rfl, rfl⟩
  go_wp2_with fail
  refine (awake_any _).mono ?_
  rintro e w4 ⟨rfl, hb4⟩
  go_wp2_with fail
  go_ret
  have c3 := hb2.trans (hb3.mono hb2.size)
  exact ⟨rfl, c3.trans (hb4.mono c3.size)⟩
end Go.Proofs.Ytgdkefjpekebmaa
