/-
  This text proves what the functions of package mask return, for all words, numbers and texts. Condition: words are below 2^64.
-/
import Derived.Test.YtgdkefjpekebmaaKB
import Derived.Test.YtgdkefjpekebmaaMaP
namespace Go.Proofs.Ytgdkefjpekebmaa
open Go.ChangeShapes Go.WideShapes Go.ChangeAt Go.RowKit
/-- nine words -/
def ws (f : Nat → Int) : Array Value := #[.int .u64 (f 0), .int .u64 (f 1), .int .u64 (f 2), .int .u64 (f 3), .int .u64 (f 4), .int .u64 (f 5), .int .u64 (f 6), .int .u64 (f 7), .int .u64 (f 8)]
theorem nine {k : Nat} (h : k < 9) : k = 0 ∨ k = 1 ∨ k = 2 ∨ k = 3 ∨ k = 4 ∨ k = 5 ∨ k = 6 ∨ k = 7 ∨ k = 8 := by omega
theorem ws_get (f : Nat → Int) (k : Nat) (h : k < 9) : (ws f)[k]? = some (.int .u64 (f k)) := by
  rcases nine h with rfl | rfl | rfl | rfl | rfl | rfl | rfl | rfl | rfl <;> rfl
theorem ws_set (f : Nat → Int) (k : Nat) (v : Int) (h : k < 9) : (ws f).setIfInBounds k (.int .u64 v) = ws fun j => if j = k then v else f j := by
  rcases nine h with rfl | rfl | rfl | rfl | rfl | rfl | rfl | rfl | rfl <;> rfl
theorem ws_congr {f g : Nat → Int} (h : ∀ k, k < 9 → f k = g k) : ws f = ws g := by
  simp only [ws, h 0 (by omega), h 1 (by omega), h 2 (by omega), h 3 (by omega), h 4 (by omega), h 5 (by omega), h 6 (by omega), h 7 (by omega), h 8 (by omega)]
theorem ws_size (f : Nat → Int) : (ws f).size = 9 := rfl
def pick (m a b : Int) : Int := bits .or .u64 (bits .and .u64 a m) (bits .andNot .u64 b m)
/-- all ones, or none -/
def msk (c : Bool) : Int := if c then 18446744073709551615 else 0
theorem word_any (m a b : Int) (w : World) : Calls Try.prog 35 #[.agg #[.int .u64 m], .int .u64 a, .int .u64 b] w fun e w' => e = .returned (.int .u64 (pick m a b)) ∧ Below w.heap.size w w' := by
  go_enter Try.func35, Try.ntmps35
  go_wp2_with fail
  go_ret
  exact ⟨rfl, (Below.refl _ _).alloc (Nat.le_refl _) _⟩
theorem wrap_bit (c : Bool) : IntKind.u64.wrap (-(bits .and .u64 (if c then 1 else 0 : Int) 1)) = msk c := by cases c <;> rfl
theorem spread_any (c : Bool) (x : Int) (hx : x = if c then 1 else 0) (r : Int) (hr : r = msk c) (w : World) : Calls Try.prog 32 #[.int .u64 x] w fun e w' => e = .returned (.int .u64 r) ∧ w' = w := by
  have hw := wrap_bit c
  rw [← hr, ← hx] at hw
  clear hr hx
  have H := Lib.hid hw
  clear hw
  go_enter Try.func32, Try.ntmps32
  go_wp2_with fail
  go_ret
  rw [← H.out]
  exact ⟨rfl, rfl⟩
theorem u64_max : IntKind.u64.max = ((18446744073709551615 : Nat) : Int) := by decide
theorem wrap_neg (n : Nat) (h : n < 18446744073709551616) : IntKind.u64.wrap (-(n : Int)) = (((18446744073709551616 - n) % 18446744073709551616 : Nat) : Int) := by
  rw [IntKind.wrap_u64]; omega
theorem wrap_sub (x y : Nat) (h : y < 18446744073709551616) : IntKind.u64.wrap ((x : Int) - (y : Int)) = (((x + 18446744073709551616 - y) % 18446744073709551616 : Nat) : Int) := by
  rw [IntKind.wrap_u64]; omega
theorem ite_cast (c : Prop) [Decidable c] : (((if c then 1 else 0 : Nat) : Nat) : Int) = if decide c then 1 else 0 := by
  by_cases h : c <;> simp [h]
theorem xor_lt (x y : Nat) (hx : x < 18446744073709551616) (hy : y < 18446744073709551616) : x ^^^ y < 18446744073709551616 := Nat.xor_lt_two_pow (n := 64) hx hy
theorem or_lt (x y : Nat) (hx : x < 18446744073709551616) (hy : y < 18446744073709551616) : x ||| y < 18446744073709551616 := Nat.or_lt_two_pow (n := 64) hx hy
theorem and_lt (x y : Nat) (hy : y < 18446744073709551616) : x &&& y < 18446744073709551616 := Nat.and_lt_two_pow (n := 64) x hy
theorem zero_word (n : Nat) (h : n < 18446744073709551616) : bits .xor .u64 IntKind.u64.max (bits .or .u64 (n : Int) (IntKind.u64.wrap (-(n : Int)))) / 9223372036854775808 = if decide (n = 0) then 1 else 0 := by
  have h1 : (18446744073709551616 - n) % 18446744073709551616 < 18446744073709551616 := Nat.mod_lt _ (by omega)
  rw [wrap_neg n h, bits_or_u64_nat _ _ h h1, u64_max, bits_xor_u64_nat _ _ (by omega) (or_lt _ _ h h1), ← ite_cast, ← Mk.zero_bit n h]
  rfl
theorem zero_any (n : Nat) (hn : n < 18446744073709551616) (r : Int) (hr : r = msk (decide (n = 0))) (w : World) : Calls Try.prog 12 #[.int .u64 n] w fun e w' => e = .returned (.int .u64 r) ∧ w' = w := by
  have hz := Lib.hid (zero_word n hn)
  clear hn
  have hr' := Lib.hid hr
  clear hr
  go_enter Try.func12, Try.ntmps12
  go_wp2_with fail
  refine (spread_any _ _ hz.out r hr'.out _).mono ?_
  rintro e w' ⟨rfl, rfl⟩
  go_wp2_with fail
  go_ret
  exact ⟨rfl, rfl⟩
theorem xor_zero {x y : Nat} : (x ^^^ y = 0) ↔ x = y := by
  constructor
  · intro h
    have h2 : x ^^^ y ^^^ y = 0 ^^^ y := by rw [h]
    rwa [Nat.xor_assoc, Nat.xor_self, Nat.xor_zero, Nat.zero_xor] at h2
  · rintro rfl; exact Nat.xor_self x
theorem equal_any (x y : Nat) (hx : x < 18446744073709551616) (hy : y < 18446744073709551616) (r : Int) (hr : r = msk (decide (x = y))) (w : World) : Calls Try.prog 14 #[.int .u64 x, .int .u64 y] w fun e w' => e = .returned (.int .u64 r) ∧ w' = w := by
  have hb := Lib.hid (bits_xor_u64_nat x y hx hy)
  have hl := xor_lt x y hx hy
  clear hx hy
  have hr' := Lib.hid hr
  clear hr
  go_enter Try.func14, Try.ntmps14
  go_wp2_with fail
  rw [hb.out]
  refine (zero_any _ hl r (by rw [hr'.out]; simp only [xor_zero]) _).mono ?_
  rintro e w' ⟨rfl, rfl⟩
  go_wp2_with fail
  go_ret
  exact ⟨rfl, rfl⟩
theorem less_word (x y : Nat) (hx : x < 18446744073709551616) (hy : y < 18446744073709551616) :
    bits .or .u64 (bits .and .u64 (bits .xor .u64 IntKind.u64.max (x : Int)) (y : Int)) (bits .and .u64 (bits .xor .u64 IntKind.u64.max (bits .xor .u64 (x : Int) (y : Int))) (IntKind.u64.wrap ((x : Int) - (y : Int)))) / 9223372036854775808 = if decide (x < y) then 1 else 0 := by
  have h1 : (x + 18446744073709551616 - y) % 18446744073709551616 < 18446744073709551616 := Nat.mod_lt _ (by omega)
  have hm : 18446744073709551615 < 18446744073709551616 := by omega
  rw [wrap_sub x y hy, u64_max, bits_xor_u64_nat _ _ hm hx, bits_xor_u64_nat _ _ hx hy, bits_xor_u64_nat _ _ hm (xor_lt _ _ hx hy), bits_and_u64_nat _ _ (xor_lt _ _ hm hx) hy, bits_and_u64_nat _ _ (xor_lt _ _ hm (xor_lt _ _ hx hy)) h1,
    bits_or_u64_nat _ _ (and_lt _ _ hy) (and_lt _ _ h1), ← ite_cast, ← Mk.less_bit x y hx hy]
  rfl
theorem less_any (x y : Nat) (hx : x < 18446744073709551616) (hy : y < 18446744073709551616) (r : Int) (hr : r = msk (decide (x < y))) (w : World) : Calls Try.prog 15 #[.int .u64 x, .int .u64 y] w fun e w' => e = .returned (.int .u64 r) ∧ w' = w := by
  have hb := Lib.hid (less_word x y hx hy)
  clear hx hy
  have hr' := Lib.hid hr
  clear hr
  go_enter Try.func15, Try.ntmps15
  go_wp2_with fail
  refine (spread_any _ _ hb.out r hr'.out _).mono ?_
  rintro e w' ⟨rfl, rfl⟩
  go_wp2_with fail
  go_ret
  exact ⟨rfl, rfl⟩
/-- behind k bytes: 0 just if they are the same -/
def SameTo (a b : ByteArray) (k X : Nat) : Prop := X < 256 ∧ (X = 0 ↔ ∀ j, j < k → a[j]! = b[j]!)
theorem or_zero {x y : Nat} : x ||| y = 0 ↔ x = 0 ∧ y = 0 := by
  constructor
  · intro h
    have h1 : x ≤ x ||| y := Nat.left_le_or
    have h2 : y ≤ x ||| y := Nat.right_le_or
    omega
  · rintro ⟨rfl, rfl⟩; rfl
theorem same_step (a b : ByteArray) (k X : Nat) (hk : k < a.size) (hk2 : k < b.size) (h : SameTo a b k X) :
    ∃ X' : Nat, bits .or .u64 (X : Int) (IntKind.u64.wrap (bits .xor .u8 (a[k].toNat : Int) (b[k].toNat : Int))) = (X' : Int) ∧ SameTo a b (k + 1) X' := by
  obtain ⟨h1, h2⟩ := h
  have la : a[k].toNat < 2 ^ IntKind.u8.bits := a[k].toNat_lt
  have lb : b[k].toNat < 2 ^ IntKind.u8.bits := b[k].toNat_lt
  have lx : a[k].toNat ^^^ b[k].toNat < 256 := Nat.xor_lt_two_pow (n := 8) la lb
  have e64 : (2 : Nat) ^ IntKind.u64.bits = 18446744073709551616 := rfl
  rw [(ubits .u8 rfl _ _ la lb).2.2, wrap_nat .u64 rfl, e64, Nat.mod_eq_of_lt (by omega), (ubits .u64 rfl _ _ (by omega) (by omega)).2.1]
  refine ⟨_, rfl, Nat.or_lt_two_pow (n := 8) h1 lx, ?_⟩
  rw [or_zero, h2, xor_zero, UInt8.toNat_inj]
  have ea : a[k]! = a[k] := getElem!_pos a k hk
  have eb : b[k]! = b[k] := getElem!_pos b k hk2
  constructor
  · rintro ⟨h3, h4⟩ j hj
    by_cases e : j = k
    · subst e; rw [ea, eb, h4]
    · exact h3 j (by omega)
  · intro h3
    exact ⟨fun j hj => h3 j (by omega), by rw [← ea, ← eb]; exact h3 k (by omega)⟩
theorem same_end (a b : ByteArray) (X : Nat) (hs : a.size = b.size) (h : SameTo a b a.size X) : (X = 0) ↔ a = b := by
  rw [h.2]
  constructor
  · intro h1
    apply ByteArray.ext
    apply Array.ext (by exact hs)
    intro i h2 h3
    have h4 := h1 i h2
    rw [getElem!_pos a i h2, getElem!_pos b i h3] at h4
    exact h4
  · rintro rfl j _; rfl
theorem same_any (a b : ByteArray) (ha : a.size ≤ 9223372036854775807) (r : Int) (hr : r = msk (decide (a = b))) (w : World) :
    Calls Try.prog 16 #[.string a, .string b] w fun e w' => e = .returned (.int .u64 r) ∧ Below w.heap.size w w' := by
  by_cases hs : a.size = b.size
  · have hend := fun X => same_end a b X hs
    have hr' := Lib.hid hr
    have hs1 : a.size ≤ b.size := by omega
    have hs2 : b.size ≤ a.size := by omega
    have hs' : ((a.size : Int) != (b.size : Int)) = false := by rw [hs]; simp
    have hE := Lib.hid hend
    clear hr hs hend
    go_enter Try.func16, Try.ntmps16
    go_wp2_with fail
    go_loopw [5, 14] (fun x i wr => ∃ k X : Nat, k ≤ a.size ∧ i = .int .i64 k ∧ x = .int .u64 X ∧ SameTo a b k X ∧ Below w.heap.size w wr) (fun _ i _ => a.size - (intOf i).toNat)
    case atStart => exact ⟨0, 0, by omega, rfl, rfl, ⟨by omega, by simp⟩, Below.refl _ _⟩
    case round =>
      obtain ⟨k, X, hk, rfl, rfl, hX, hb⟩ := hrel
      by_cases hlt : k < a.size
      · have hlt2 : k < b.size := by omega
        have hi1 : (k : Int) < (a.size : Int) := by omega
        have hi2 : (k : Int) < (b.size : Int) := by omega
        go_wp2_with fail
        go_quiet (fail)
        go_wp2_with fail
        go_roundw
        case rel =>
          obtain ⟨X', e, hX'⟩ := same_step a b k X hlt hlt2 hX
          exact ⟨k + 1, X', by omega, by go_num, by rw [e], hX', ⟨hb.os, hb.tape, hb.output, hb.size, hb.block⟩⟩
        case measure => simp [intOf]; omega
      · obtain rfl : k = a.size := by omega
        have h0 : r = msk (decide (X = 0)) := by rw [hr'.out]; congr 1; exact decide_eq_decide.2 (hE.out X hX).symm
        have hx := hX.1
        clear hX hE
        have h0' := Lib.hid h0
        clear h0
        go_wp2_with fail
        refine (zero_any X (by omega) r h0'.out _).mono ?_
        rintro e w' ⟨rfl, rfl⟩
        go_wp2_with fail
        go_ret
        exact ⟨rfl, hb⟩
  · have hs' : ((a.size : Int) != (b.size : Int)) = true := by simp; omega
    have h0 : r = 0 := by
      rw [hr]
      have : ¬ a = b := fun e => hs (by rw [e])
      simp [msk, this]
    subst h0
    clear hr hs
    go_enter Try.func16, Try.ntmps16
    go_wp2_with fail
    go_ret
    exact ⟨rfl, Below.refl _ _⟩
end Go.Proofs.Ytgdkefjpekebmaa
