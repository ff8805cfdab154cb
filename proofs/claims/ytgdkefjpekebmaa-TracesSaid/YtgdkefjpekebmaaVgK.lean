/-
  This text proves that a region that draws its order ends, in whatever order, where its text's order ends, if operations that may change places do not look at what the other writes. Condition: the hypotheses of the last theorem, which a symbolic run meets.
-/
import Derived.Test.YtgdkefjpekebmaaVgJ
import Derived.RegionTactic
import Derived.StillTailTactics
namespace Go.Vg
open Go.RowKit
/-- what one operation of a region does: its slot, its value, its new blocks, or the one that it writes -/
structure E where
  d : Option Nat
  v : SV
  nw : LL
  w : Option (Nat × Nat × List SV)
def fo {α : Type} (f : E → α → α) (D : Nat → Bool) : Nat → List E → α → α
  | _, [], x => x
  | k, e :: es, x => fo f D (k + 1) es (if D k then f e x else x)
theorem fo_congr {α : Type} {f : E → α → α} {D D' : Nat → Bool} : ∀ {es : List E} {s : Nat} {x : α}, (∀ k, s ≤ k → D k = D' k) → fo f D s es x = fo f D' s es x
  | [], _, _, _ => rfl
  | e :: es, s, x, h => by
    simp only [fo]
    rw [h s (Nat.le_refl _)]
    exact fo_congr fun k hk => h k (by omega)
theorem fo_congr2 {α : Type} {f : E → α → α} {D D' : Nat → Bool} : ∀ {es : List E} {s : Nat} {x : α}, (∀ k e, es[k]? = some e → D (s + k) = D' (s + k)) → fo f D s es x = fo f D' s es x
  | [], _, _, _ => rfl
  | e :: es, s, x, h => by
    simp only [fo]
    have h0 := h 0 e rfl
    simp only [Nat.add_zero] at h0
    rw [h0]
    exact fo_congr2 fun k e' hk => by rw [show s + 1 + k = s + (k + 1) by omega]; exact h (k + 1) e' (by simpa using hk)
theorem fo_comm {α : Type} {f : E → α → α} {D : Nat → Bool} {e0 : E} : ∀ {es : List E} {s : Nat} {x : α}, (∀ k e, es[k]? = some e → D (s + k) = true → ∀ y, f e (f e0 y) = f e0 (f e y)) → fo f D s es (f e0 x) = f e0 (fo f D s es x)
  | [], _, _, _ => rfl
  | e :: es, s, x, h => by
    simp only [fo]
    have h0 := h 0 e rfl
    have hr : ∀ k e', es[k]? = some e' → D (s + 1 + k) = true → ∀ y, f e' (f e0 y) = f e0 (f e' y) := fun k e' hk hD => h (k + 1) e' (by simpa using hk) (by rw [← hD]; congr 1; omega)
    by_cases hD : D s = true
    · rw [if_pos hD, if_pos hD, h0 (by simpa using hD), fo_comm hr]
    · rw [if_neg hD, if_neg hD, fo_comm hr]
/-- one more is done -/
def add (D : Nat → Bool) (i : Nat) : Nat → Bool := fun k => if k = i then true else D k
theorem fo_insert {α : Type} {f : E → α → α} {D : Nat → Bool} {i : Nat} {e0 : E} (hD : D i = false) : ∀ {es : List E} {s : Nat} {x : α}, s ≤ i → es[i - s]? = some e0 →
    (∀ k e, i < k → es[k - s]? = some e → D k = true → ∀ y, f e (f e0 y) = f e0 (f e y)) → fo f (add D i) s es x = f e0 (fo f D s es x)
  | [], _, _, _, h, _ => by simp at h
  | e :: es, s, x, hs, h, hc => by
    simp only [fo]
    by_cases hsi : s = i
    · subst hsi
      have he : e = e0 := by simpa using h
      subst he
      rw [show add D s s = true from if_pos rfl, if_pos rfl, hD, if_neg (by simp)]
      rw [fo_congr (D := add D s) (D' := D) fun k hk => if_neg (by omega)]
      exact fo_comm fun k e' hk hDk => hc (s + 1 + k) e' (by omega) (by rw [show s + 1 + k - s = k + 1 by omega]; simpa using hk) hDk
    · rw [show add D i s = D s from if_neg hsi]
      exact fo_insert hD (by omega) (by rw [show i - (s + 1) = i - s - 1 by omega]; rw [show i - s = (i - s - 1) + 1 by omega] at h; simpa using h)
        (fun k e' hk hk2 hDk => hc k e' hk (by rw [show k - s = (k - (s + 1)) + 1 by omega]; simpa using hk2) hDk)
/-! slots -/
def ft (t : Nat) (e : E) (x : Option SV) : Option SV := if e.d = some t then some e.v else x
theorem ft_none {D : Nat → Bool} {t : Nat} : ∀ {es : List E} {s : Nat} {x : Option SV}, (∀ k e, es[k]? = some e → D (s + k) = true → e.d ≠ some t) → fo (ft t) D s es x = x
  | [], _, _, _ => rfl
  | e :: es, s, x, h => by
    simp only [fo]
    have hx : (if D s = true then ft t e x else x) = x := by
      by_cases hD : D s = true
      · rw [if_pos hD]; exact if_neg (h 0 e rfl hD)
      · rw [if_neg hD]
    rw [hx]
    exact ft_none fun k e' hk hDk => h (k + 1) e' (by simpa using hk) (by rw [← hDk]; congr 1; omega)
theorem ft_some {D : Nat → Bool} {t : Nat} {e0 : E} : ∀ {es : List E} {s k : Nat} {x : Option SV}, es[k]? = some e0 → D (s + k) = true → e0.d = some t → (∀ j e, es[j]? = some e → j ≠ k → e.d ≠ some t) → fo (ft t) D s es x = some e0.v
  | [], _, _, _, h, _, _, _ => by simp at h
  | e :: es, s, k, x, h, hD, hd, hu => by
    simp only [fo]
    cases k with
    | zero =>
      have he : e = e0 := by simpa using h
      subst he
      rw [if_pos (by simpa using hD)]
      rw [show ft t e x = some e.v from if_pos hd]
      exact ft_none fun j e' hj _ => hu (j + 1) e' (by simpa using hj) (by omega)
    | succ k =>
      exact ft_some (k := k) (by simpa using h) (by rw [← hD]; congr 1; omega) hd fun j e' hj hjk => hu (j + 1) e' (by simpa using hj) (by omega)
/-! blocks -/
def gl (l : Nat) (e : E) (x : Option Blk) : Option Blk :=
  match e.w with
  | some (k, q, vs) => if l = k then x.map fun b => ⟨b.l, splice b.cs q vs, b.t⟩ else x
  | none => match x with
    | some b => some b
    | none => find e.nw l
def pl (l : Nat) (e : E) (x : Prop) : Prop := x ∨ ∃ b ∈ e.nw, b.l = l
def aF (e : E) (F : Nat → Option SV) : Nat → Option SV := fun t => ft t e (F t)
def aL (e : E) (L : Nat → Option Blk) : Nat → Option Blk := fun l => gl l e (L l)
def aP (e : E) (p : Nat → Prop) : Nat → Prop := fun l => pl l e (p l)
def FD (es : List E) (D : Nat → Bool) (F : Nat → Option SV) : Nat → Option SV := fun t => fo (ft t) D 0 es (F t)
def LD (es : List E) (D : Nat → Bool) (L : Nat → Option Blk) : Nat → Option Blk := fun l => fo (gl l) D 0 es (L l)
def PD (es : List E) (D : Nat → Bool) (p : Nat → Prop) : Nat → Prop := fun l => fo (pl l) D 0 es (p l)
theorem PD_iff {D : Nat → Bool} {l : Nat} : ∀ {es : List E} {s : Nat} {x : Prop}, fo (pl l) D s es x ↔ x ∨ ∃ k e, es[k]? = some e ∧ D (s + k) = true ∧ ∃ b ∈ e.nw, b.l = l
  | [], _, _ => by simp [fo]
  | e :: es, s, x => by
    simp only [fo]
    rw [PD_iff]
    constructor
    · rintro (h | ⟨k, e', h1, h2, h3⟩)
      · by_cases hD : D s = true
        · rw [if_pos hD] at h
          rcases h with h | h
          · exact Or.inl h
          · exact Or.inr ⟨0, e, rfl, hD, h⟩
        · rw [if_neg hD] at h; exact Or.inl h
      · exact Or.inr ⟨k + 1, e', by simpa using h1, by rw [← h2]; congr 1; omega, h3⟩
    · rintro (h | ⟨k, e', h1, h2, h3⟩)
      · left
        by_cases hD : D s = true
        · rw [if_pos hD]; exact Or.inl h
        · rw [if_neg hD]; exact h
      · cases k with
        | zero =>
          have he : e = e' := by simpa using h1
          subst he
          left
          rw [if_pos (by simpa using h2)]
          exact Or.inr h3
        | succ k => exact Or.inr ⟨k, e', by simpa using h1, by rw [← h2]; congr 1; omega, h3⟩
theorem find_some_label {L : LL} {l : Nat} {b : Blk} (h : find L l = some b) : ∃ c ∈ L, c.l = l := ⟨b, (find_mem h).1, (find_mem h).2⟩
/-- what is known of a label where less was done is known where more was done, if the more writes nothing -/
theorem gl_mono {l : Nat} {D' D : Nat → Bool} (nn : Nat → Nat) : ∀ {es : List E} {s : Nat} {x' x : Option Blk}, (∀ k e, es[k]? = some e → (∀ b ∈ e.nw, nn (s + k) ≤ b.l ∧ b.l < nn (s + k + 1)) ∧ nn (s + k) ≤ nn (s + k + 1)) →
    (∀ k e, es[k]? = some e → D' (s + k) = true → D (s + k) = true) → (∀ k e, es[k]? = some e → D (s + k) = true → D' (s + k) = false → e.w = none) → (x' = none ∨ x' = x) → (∀ b, x = some b → l < nn s) →
    ∀ b, fo (gl l) D' s es x' = some b → fo (gl l) D s es x = some b
  | [], _, x', x, _, _, _, hx, _, b, h => by
    simp only [fo] at h ⊢
    rcases hx with rfl | rfl
    · cases h
    · exact h
  | e :: es, s, x', x, hl, hs, hw, hx, hb, b, h => by
    simp only [fo] at h ⊢
    have shift : ∀ k, s + 1 + k = s + (k + 1) := fun k => by omega
    have hl0 := hl 0 e rfl
    refine gl_mono nn (es := es) (s := s + 1) (fun k e' hk => by rw [shift, show s + (k + 1) + 1 = s + (k + 1) + 1 from rfl]; exact hl (k + 1) e' (by simpa using hk)) (fun k e' hk hd => by rw [shift] at hd ⊢; exact hs (k + 1) e' (by simpa using hk) hd)
      (fun k e' hk hd hd' => by rw [shift] at hd hd'; exact hw (k + 1) e' (by simpa using hk) hd hd') ?_ ?_ b h
    · have hs0 := hs 0 e rfl
      have hw0 := hw 0 e rfl
      simp only [Nat.add_zero] at hs0 hw0 hl0
      by_cases hd' : D' s = true
      · rw [if_pos hd', if_pos (hs0 hd')]
        unfold gl
        cases hew : e.w with
        | some q =>
          obtain ⟨k, q, vs⟩ := q
          simp only
          by_cases hlk : l = k
          · rw [if_pos hlk, if_pos hlk]
            rcases hx with rfl | rfl
            · left; rfl
            · right; rfl
          · rw [if_neg hlk, if_neg hlk]; exact hx
        | none =>
          simp only
          rcases hx with rfl | rfl
          · cases x with
            | none => right; rfl
            | some c =>
              have := hb c rfl
              cases hf : find e.nw l with
              | none => left; rfl
              | some c' =>
                obtain ⟨d, hd, e1⟩ := find_some_label hf
                have := (hl0.1 d hd).1
                omega
          · right; rfl
      · rw [if_neg hd']
        by_cases hd : D s = true
        · rw [if_pos hd]
          have hew := hw0 hd (by simpa using hd')
          unfold gl
          rw [hew]
          simp only
          rcases hx with rfl | rfl
          · left; rfl
          · cases x' with
            | none => left; rfl
            | some c => right; rfl
        · rw [if_neg hd]; exact hx
    · intro c hc
      simp only [Nat.add_zero] at hl0
      by_cases hd : D s = true
      · rw [if_pos hd] at hc
        unfold gl at hc
        cases hew : e.w with
        | some q =>
          obtain ⟨k, q, vs⟩ := q
          rw [hew] at hc
          simp only at hc
          have : ∃ d, x = some d := by
            by_cases hlk : l = k
            · rw [if_pos hlk] at hc
              obtain ⟨d, hd, _⟩ := Option.map_eq_some_iff.1 hc
              exact ⟨d, hd⟩
            · rw [if_neg hlk] at hc; exact ⟨c, hc⟩
          obtain ⟨d, hd⟩ := this
          have := hb d hd
          omega
        | none =>
          rw [hew] at hc
          cases x with
          | some d => have := hb d rfl; omega
          | none =>
            simp only at hc
            obtain ⟨d, hd, e1⟩ := find_some_label hc
            have := (hl0.1 d hd).2
            omega
      · rw [if_neg hd] at hc
        have := hb c hc
        omega
end Go.Vg
