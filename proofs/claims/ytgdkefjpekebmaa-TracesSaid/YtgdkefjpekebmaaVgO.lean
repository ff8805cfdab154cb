/-
  This text proves that what the symbolic run tells of a region that draws its order holds of the region in the model. Condition: the region passes the check of its edges.
-/
import Derived.Test.YtgdkefjpekebmaaVgN
namespace Go.Vg
open Go.RowKit
theorem fo_append {α : Type} {f : E → α → α} {D : Nat → Bool} {e : E} : ∀ {es : List E} {s : Nat} {x : α}, fo f D s (es ++ [e]) x = if D (s + es.length) then f e (fo f D s es x) else fo f D s es x
  | [], s, x => by simp [fo]
  | e' :: es, s, x => by
    simp only [List.cons_append, fo, List.length_cons]
    rw [fo_append, show s + 1 + es.length = s + (es.length + 1) by omega]
theorem fo_false {α : Type} {f : E → α → α} {D : Nat → Bool} (hD : ∀ k, D k = false) : ∀ {es : List E} {s : Nat} {x : α}, fo f D s es x = x
  | [], _, _ => rfl
  | e :: es, s, x => by
    simp only [fo, hD s]
    exact fo_false hD
theorem fo_take {α : Type} {f : E → α → α} {D : Nat → Bool} {i : Nat} (hD : ∀ k, i ≤ k → D k = false) : ∀ {es : List E} {s : Nat} {x : α}, s ≤ i → fo f D s es x = fo f D s (es.take (i - s)) x
  | [], _, _, _ => by simp [fo]
  | e :: es, s, x, hs => by
    by_cases h : s = i
    · subst h
      simp only [Nat.sub_self, List.take_zero, fo]
      rw [hD s (Nat.le_refl _)]
      simp only [Bool.false_eq_true, if_false]
      have : ∀ (es : List E) (s' : Nat) (x : α), s ≤ s' → fo f D s' es x = x := by
        intro es
        induction es with
        | nil => intros; rfl
        | cons e es ih =>
          intro s' x hs'
          simp only [fo, hD s' hs']
          exact ih _ _ (by omega)
      exact this es _ _ (by omega)
    · rw [show i - s = (i - (s + 1)) + 1 by omega, List.take_succ_cons]
      simp only [fo]
      exact fo_take hD (by omega)
def filP (D : Nat → Bool) : NL → LL
  | [] => []
  | (k, b) :: N => match D k with
    | true => b :: filP D N
    | false => filP D N
theorem filN_eq (m : List Nat) (i : Nat) : ∀ N, filN m i N = filP (befB m i) N
  | [] => rfl
  | (k, b) :: N => by simp only [filN, filP, filN_eq m i N]; cases befB m i k <;> rfl
theorem allN_eq : ∀ N, allN N = filP (fun _ => true) N
  | [] => rfl
  | (k, b) :: N => by simp only [allN, filP, allN_eq N]
theorem filP_append (D : Nat → Bool) : ∀ N M, filP D (N ++ M) = filP D N ++ filP D M
  | [], _ => rfl
  | (k, b) :: N, M => by
    simp only [List.cons_append, filP, filP_append D N M]
    cases D k <;> rfl
theorem filP_own (D : Nat → Bool) (i : Nat) : ∀ nw, filP D (ownN i nw) = if D i then nw else []
  | [] => by simp [ownN, filP]
  | b :: nw => by
    simp only [ownN, filP, filP_own D i nw]
    cases D i <;> rfl
theorem filP_mem {D : Nat → Bool} {b : Blk} : ∀ {N}, b ∈ filP D N → ∃ k, (k, b) ∈ N
  | [], h => by cases h
  | (k, c) :: N, h => by
    simp only [filP] at h
    cases hD : D k with
    | true =>
      rw [hD] at h
      rcases List.mem_cons.1 h with rfl | h
      · exact ⟨k, List.mem_cons_self⟩
      · obtain ⟨j, hj⟩ := filP_mem h; exact ⟨j, List.mem_cons_of_mem _ hj⟩
    | false =>
      rw [hD] at h
      obtain ⟨j, hj⟩ := filP_mem h; exact ⟨j, List.mem_cons_of_mem _ hj⟩
theorem find_updA (l0 : Nat) (cs : List SV) (l : Nat) : ∀ X, find (updA l0 cs X) l = if l = l0 then (find X l).map fun c => ⟨c.l, cs, c.t⟩ else find X l
  | [] => by by_cases h : l = l0 <;> simp [updA, find, h]
  | b :: X => by
    simp only [updA, find, find_updA l0 cs l X]
    by_cases hb : b.l = l0
    · rw [if_pos hb]
      by_cases hl : l = l0
      · subst hl; simp [hb]
      · simp [hb, hl, Ne.symm hl]
    · rw [if_neg hb]
      by_cases hl : l = l0
      · subst hl; simp [hb]
      · simp [hl]
theorem updA_append (l0 : Nat) (cs : List SV) : ∀ X Y, updA l0 cs (X ++ Y) = updA l0 cs X ++ updA l0 cs Y
  | [], _ => rfl
  | b :: X, Y => by simp only [List.cons_append, updA, updA_append l0 cs X Y]
theorem filP_updN (D : Nat → Bool) (l0 : Nat) (cs : List SV) : ∀ N, filP D (updN l0 cs N) = updA l0 cs (filP D N)
  | [] => rfl
  | (k, b) :: N => by
    simp only [updN, filP, filP_updN D l0 cs N]
    cases D k <;> rfl
theorem updN_mem {l0 : Nat} {cs : List SV} {k : Nat} {b : Blk} : ∀ {N}, (k, b) ∈ updN l0 cs N → ∃ c, (k, c) ∈ N ∧ c.l = b.l
  | [], h => by cases h
  | (j, c) :: N, h => by
    simp only [updN] at h
    rcases List.mem_cons.1 h with e | h
    · simp only [Prod.mk.injEq] at e
      obtain ⟨rfl, rfl⟩ := e
      refine ⟨c, List.mem_cons_self, ?_⟩
      by_cases hc : c.l = l0 <;> simp [hc]
    · obtain ⟨d, hd, e⟩ := updN_mem h
      exact ⟨d, List.mem_cons_of_mem _ hd, e⟩
theorem updN_map (l0 : Nat) (cs : List SV) : ∀ N : NL, (updN l0 cs N).map (fun p => p.2.l) = N.map fun p => p.2.l
  | [] => rfl
  | (k, b) :: N => by
    simp only [updN, List.map_cons, updN_map l0 cs N]
    by_cases hb : b.l = l0 <;> simp [hb]
theorem ownN_mem {i k : Nat} {b : Blk} : ∀ {nw}, (k, b) ∈ ownN i nw → k = i ∧ b ∈ nw
  | [], h => by cases h
  | c :: nw, h => by
    simp only [ownN] at h
    rcases List.mem_cons.1 h with e | h
    · simp only [Prod.mk.injEq] at e
      obtain ⟨rfl, rfl⟩ := e
      exact ⟨rfl, List.mem_cons_self⟩
    · obtain ⟨h1, h2⟩ := ownN_mem h
      exact ⟨h1, List.mem_cons_of_mem _ h2⟩
theorem ownN_map (i : Nat) : ∀ nw, (ownN i nw).map (fun p => p.2.l) = nw.map Blk.l
  | [] => rfl
  | b :: nw => by simp [ownN, ownN_map i nw]
theorem nl_uniq {N : NL} (h : (N.map fun p => p.2.l).Nodup) {p q : Nat × Blk} (hp : p ∈ N) (hq : q ∈ N) (e : p.2.l = q.2.l) : p = q := by
  induction N with
  | nil => cases hp
  | cons x xs ih =>
    simp only [List.map_cons, List.nodup_cons] at h
    rcases List.mem_cons.1 hp with hp | hp <;> rcases List.mem_cons.1 hq with hq | hq
    · rw [hp, hq]
    · exact (h.1 (List.mem_map.2 ⟨q, hq, by rw [← e, hp]⟩)).elim
    · exact (h.1 (List.mem_map.2 ⟨p, hp, by rw [e, hq]⟩)).elim
    · exact ih h.2 hp hq
/-- what has been told of the operations before -/
structure Told (done : List E) (F0 : FF) (B0 : LL) (n0 : Nat) (F : FF) (B : LL) (N : NL) (n : Nat) : Prop where
  fr : look F = FD done (fun _ => true) (look F0)
  bl : ∀ D : Nat → Bool, (∀ (k : Nat) (e : E), done[k]? = some e → e.w ≠ none → D k = true) → ∀ l, LD done D (find B0) l = find (B ++ filP D N) l
  lb : ∀ (k : Nat) (b : Blk), (k, b) ∈ N → n0 ≤ b.l ∧ b.l < n
  nd : (N.map fun p => p.2.l).Nodup
  old : ∀ (l : Nat) (b : Blk), find B l = some b → l < n0
  le : n0 ≤ n
  pd : ∀ (k : Nat) (e : E), done[k]? = some e → ∀ b : Blk, b ∈ e.nw → b.l < n
section
variable {done : List E} {F0 F : FF} {B0 B : LL} {n0 n : Nat} {N : NL}
theorem Told.app (h : Told done F0 B0 n0 F B N n) {d : Option Nat} {v : SV} {nw : LL} {n' : Nat} (hn : n ≤ n') (hnw : ∀ b ∈ nw, n ≤ b.l ∧ b.l < n') (hnd : (nw.map Blk.l).Nodup) : Told (done ++ [⟨d, v, nw, none⟩]) F0 B0 n0 (putO F d v) B (N ++ ownN done.length nw) n' := by
  refine ⟨?_, ?_, ?_, ?_, h.old, Nat.le_trans h.le hn, ?_⟩
  · rw [look_putO, h.fr]
    funext t
    simp only [FD, fo_append, if_true, upF, ft]
  · intro D hD l
    have h1 := h.bl D (fun k e hk hw => hD k e (by rw [List.getElem?_append_left (List.getElem?_eq_some_iff.1 hk).1]; exact hk) hw) l
    simp only [LD, fo_append, Nat.zero_add] at h1 ⊢
    rw [filP_append, filP_own, ← List.append_assoc, find_append, ← h1]
    by_cases hd : D done.length = true
    · rw [if_pos hd, if_pos hd]; rfl
    · rw [if_neg hd, if_neg hd]
      cases fo (gl l) D 0 done (find B0 l) <;> rfl
  · intro k b hb
    rcases List.mem_append.1 hb with hb | hb
    · have := h.lb k b hb; omega
    · have := hnw b (ownN_mem hb).2
      have := h.le
      omega
  · rw [List.map_append, ownN_map, List.nodup_append]
    refine ⟨h.nd, hnd, ?_⟩
    intro x hx y hy
    obtain ⟨p, hp, rfl⟩ := List.mem_map.1 hx
    obtain ⟨b, hb, rfl⟩ := List.mem_map.1 hy
    have h1 := (h.lb p.1 p.2 hp).2
    have h2 := (hnw b hb).1
    omega
  · intro k e hk b hb
    by_cases hlt : k < done.length
    · rw [List.getElem?_append_left hlt] at hk
      have := h.pd k e hk b hb; omega
    · rw [List.getElem?_append_right (by omega)] at hk
      cases hkk : k - done.length with
      | zero =>
        rw [hkk] at hk
        simp only [List.getElem?_cons_zero, Option.some.injEq] at hk
        subst hk
        exact (hnw b hb).2
      | succ j => rw [hkk] at hk; simp at hk
theorem Told.val (h : Told done F0 B0 n0 F B N n) {d : Option Nat} {v : SV} : Told (done ++ [⟨d, v, [], none⟩]) F0 B0 n0 (putO F d v) B N n := by
  have := h.app (d := d) (v := v) (nw := []) (Nat.le_refl n) (fun b hb => by cases hb) (by simp)
  simpa [ownN] using this
theorem Told.wr (h : Told done F0 B0 n0 F B N n) {d : Option Nat} {l0 q : Nat} {vs : List SV} {b : Blk} {D' : Nat → Bool} (hb : find (B ++ filP D' N) l0 = some b) :
    Told (done ++ [⟨d, .raw undef, [], some (l0, q, vs)⟩]) F0 B0 n0 (putO F d (.raw undef)) (updA l0 (splice b.cs q vs) B) (updN l0 (splice b.cs q vs) N) n := by
  refine ⟨?_, ?_, ?_, ?_, ?_, h.le, ?_⟩
  · rw [look_putO, h.fr]
    funext t
    simp only [FD, fo_append, if_true, upF, ft]
  · intro D hD l
    have h1 := h.bl D (fun k e hk hw => hD k e (by rw [List.getElem?_append_left (List.getElem?_eq_some_iff.1 hk).1]; exact hk) hw) l
    have hDi := hD done.length ⟨d, .raw undef, [], some (l0, q, vs)⟩ (by simp) (by simp)
    simp only [LD, fo_append, Nat.zero_add] at h1 ⊢
    rw [if_pos hDi, filP_updN, ← updA_append, find_updA, h1]
    simp only [gl]
    by_cases hl : l = l0
    · subst hl
      rw [if_pos rfl, if_pos rfl]
      cases hq : find (B ++ filP D N) l with
      | none => rfl
      | some c =>
        have : c = b := by
          rw [find_append] at hq hb
          cases hB : find B l with
          | some c' =>
            rw [hB] at hq hb
            simp only [Option.some.injEq] at hq hb
            rw [← hq, ← hb]
          | none =>
            rw [hB] at hq hb
            simp only at hq hb
            obtain ⟨m1, e1⟩ := find_mem hq
            obtain ⟨m2, e2⟩ := find_mem hb
            obtain ⟨k1, p1⟩ := filP_mem m1
            obtain ⟨k2, p2⟩ := filP_mem m2
            have := nl_uniq h.nd p1 p2 (by rw [e1, e2])
            simp only [Prod.mk.injEq] at this
            exact this.2
        subst this
        rfl
    · rw [if_neg hl, if_neg hl]
  · intro k c hc
    obtain ⟨c', hc', e⟩ := updN_mem hc
    rw [← e]; exact h.lb k c' hc'
  · rw [updN_map]; exact h.nd
  · intro l c hc
    rw [find_updA] at hc
    by_cases hl : l = l0
    · rw [if_pos hl] at hc
      obtain ⟨c', hc', _⟩ := Option.map_eq_some_iff.1 hc
      exact h.old l c' hc'
    · rw [if_neg hl] at hc; exact h.old l c hc
  · intro k e hk b' hb'
    by_cases hlt : k < done.length
    · rw [List.getElem?_append_left hlt] at hk
      exact h.pd k e hk b' hb'
    · rw [List.getElem?_append_right (by omega)] at hk
      cases hkk : k - done.length with
      | zero =>
        rw [hkk] at hk
        simp only [List.getElem?_cons_zero, Option.some.injEq] at hk
        subst hk
        cases hb'
      | succ j => rw [hkk] at hk; simp at hk
end
end Go.Vg
