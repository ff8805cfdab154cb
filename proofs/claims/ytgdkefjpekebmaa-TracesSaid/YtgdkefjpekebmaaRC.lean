/-
  This text proves what a claim's inputs are once more: an int, and how long a text may be. Condition: what the claim's form says of its inputs.
-/
import Derived.Test.YtgdkefjpekebmaaRB
import Derived.SizedLaws
import Derived.HandedShaped
import Derived.ChangeMaps5
namespace Go.RowKit
open Go.ChangeShapes Go.WideShapes Go.ChangeAt
theorem open_i64 {P : Program} {w : World} {r : Reach} {b : Nat} {t : TypeId} {v : Value} (ht : P.underlying t = some (.int .i64)) (h : Cell.okWide P w r b t v) : ∃ n : Int, v = .int .i64 n ∧ -9223372036854775808 ≤ n ∧ n ≤ 9223372036854775807 := by
  simp only [Cell.okWide, ht] at h
  cases v
  all_goals simp only [Cell.ok, ht] at h
  rename_i k n
  obtain ⟨rfl, h1, h2⟩ := h
  exact ⟨n, rfl, h1, h2⟩
theorem open_bit {P : Program} {w : World} {r : Reach} {b : Nat} {t : TypeId} {v : Value} (ht : P.underlying t = some .bool) (h : Cell.okWide P w r b t v) : ∃ x : Bool, v = .bool x := by
  simp only [Cell.okWide, ht] at h
  cases v
  all_goals simp only [Cell.ok, ht] at h
  rename_i x
  exact ⟨x, rfl⟩
section
variable {H : Type} {enc : TypeId × Value → H} {P : Program} {w : World} {base : Nat} {sp : Nat → Bool} {held : Bool}
theorem trod_at : ∀ {ts : List TypeId} {vs : List Value} {ds : List (DataW H)} {ps : List MemPlace}, DataW.TrodAll enc P w base sp held ts vs ds ps → ∀ {j : Nat} {t : TypeId} {v : Value}, ts[j]? = some t → vs[j]? = some v → ∃ d p, ds[j]? = some d ∧ DataW.Trod enc P w base sp held t v d p ∧ ∀ x ∈ p, x ∈ ps
  | [], [], [], _, _, _, _, _, ht, _ => by simp at ht
  | t :: ts, v :: vs, d :: ds, ps, h, j, t', v', ht, hv => by
    obtain ⟨p, q, h1, h2, rfl⟩ := h
    cases j with
    | zero =>
      obtain rfl : t = t' := by simpa using ht
      obtain rfl : v = v' := by simpa using hv
      exact ⟨d, p, rfl, h1, fun x hx => List.mem_append.2 (Or.inl hx)⟩
    | succ j =>
      obtain ⟨d', p', k1, k2, k3⟩ := trod_at h2 (j := j) (by simpa using ht) (by simpa using hv)
      exact ⟨d', p', by simpa using k1, k2, fun x hx => List.mem_append.2 (Or.inr (k3 x hx))⟩
  | [], _ :: _, _, _, h, _, _, _, _, _ => h.elim
  | [], [], _ :: _, _, h, _, _, _, _, _ => h.elim
  | _ :: _, [], _, _, h, _, _, _, _, _ => h.elim
  | _ :: _, _ :: _, [], _, h, _, _, _, _, _ => h.elim
theorem text_size {ts us : List TypeId} {vs : List Value} {ds gs : List (DataW H)} {ps : List MemPlace} (hA : DataW.TrodAll enc P w base sp held ts vs ds ps) (hsz : (DataW.weightsEach P (ts ++ us) (ds ++ gs)).all (· ≤ reachBytes) = true) {r : Reach} {b : Nat} {j : Nat} {t : TypeId} {v : Value}
    (ht : ts[j]? = some t) (hv : vs[j]? = some v) (hu : P.underlying t = some .string) (hval : Value.okWide P w r b t v) : ∃ s : ByteArray, v = .string s ∧ s.size ≤ 140737488351232 := by
  obtain ⟨d, p, k1, k2, _⟩ := trod_at hA ht hv
  obtain ⟨s, rfl, rfl, _⟩ := Go.ChangeMaps.open_string hu hval k2
  refine ⟨s, rfl, ?_⟩
  have hj : j < ts.length := (List.getElem?_eq_some_iff.1 ht).1
  have hj' : j < ds.length := (List.getElem?_eq_some_iff.1 k1).1
  exact sized_string hsz (j := j) (by rw [List.getElem?_append_left hj]; exact ht) (by rw [List.getElem?_append_left hj']; exact k1)
end
end Go.RowKit
