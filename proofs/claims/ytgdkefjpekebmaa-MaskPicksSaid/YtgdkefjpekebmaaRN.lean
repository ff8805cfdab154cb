/-
  This text proves that an argument of the numbers' type is nine words, each below 2^64. Condition: the argument is a value of its type.
-/
import Derived.Test.YtgdkefjpekebmaaRB
import Derived.Test.YtgdkefjpekebmaaMa
namespace Go.Proofs.Ytgdkefjpekebmaa
open Go.ChangeShapes Go.WideShapes Go.ChangeAt Go.RowKit
theorem nat_cells : Try.prog.cellTypes Try.prog.depth 35 = some (List.replicate 9 22) := by kernel_rfl
theorem nat_size : Try.prog.cellsOf 35 = 9 := by kernel_rfl
theorem open_nat {W : World} {r : Reach} {b : Nat} {v : Value} (h : Value.okWide Try.prog W r b 35 v) :
    ∃ f : Nat → Nat, v = .agg (ws fun k => (f k : Int)) ∧ ∀ k, k < 9 → f k < 18446744073709551616 := by
  simp only [Value.okWide, Try.underlying35] at h
  obtain ⟨cs, rfl, hs, ts, hts, hn, hc⟩ := h
  rw [nat_size] at hs
  rw [nat_cells] at hts
  obtain rfl := Option.some.inj hts
  have hall : ∀ k, ∃ n : Nat, k < 9 → cs[k]? = some (.int .u64 n) ∧ n < 18446744073709551616 := by
    intro k
    by_cases hk : k < 9
    · obtain ⟨v, hv⟩ : ∃ v, cs[k]? = some v := ⟨cs[k]'(by omega), Array.getElem?_eq_getElem (by omega)⟩
      obtain ⟨u, hu, hw⟩ := hc k v hv
      have e : u = 22 := by
        rw [List.length_replicate, Nat.mod_eq_of_lt hk, List.getElem?_replicate, if_pos hk] at hu
        exact (Option.some.inj hu).symm
      subst e
      obtain ⟨n, rfl, hl⟩ := open_word Try.underlying22 hw
      exact ⟨n, fun _ => ⟨hv, hl⟩⟩
    · exact ⟨0, fun h => absurd h hk⟩
  obtain ⟨f, hf⟩ := Classical.axiomOfChoice hall
  refine ⟨f, ?_, fun k hk => (hf k hk).2⟩
  congr 1
  apply Array.ext_getElem?
  intro k
  by_cases hk : k < 9
  · rw [(hf k hk).1, ws_get _ _ hk]
  · rw [Array.getElem?_eq_none (by omega), Array.getElem?_eq_none (by rw [ws_size]; omega)]
end Go.Proofs.Ytgdkefjpekebmaa
