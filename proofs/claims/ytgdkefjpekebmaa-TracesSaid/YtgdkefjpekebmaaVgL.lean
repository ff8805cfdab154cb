/-
  This text proves the theorem on regions that draw their order, out of the lemmas of the text before it. Condition: the hypotheses of the structure Fits, which a symbolic run meets.
-/
import Derived.Test.YtgdkefjpekebmaaVgK
namespace Go.Vg
open Go.RowKit
/-- what a symbolic run of a region tells, operation by operation -/
structure Fits (P : Program) (g : G) (ops : Array Oper) (es : List E) (F0 : Nat → Option SV) (L0 : Nat → Option Blk) (n : Nat) (lk : Nat → List Nat) (mem : Nat → Bool) (bef : Nat → Nat → Bool) (nn : Nat → Nat) : Prop where
  len : es.length = ops.size
  clos : ∀ (i : Nat) (o : Oper) (k : Nat), ops[i]? = some o → bef i k = true → ∃ e ∈ o.after, Region.binds .any e = true ∧ (e.on = k ∨ bef e.on k = true)
  back : ∀ (i : Nat) (o : Oper) (e : Edge), ops[i]? = some o → e ∈ o.after → Region.binds .any e = true → e.on < i
  dst : ∀ (i k : Nat) (e e' : E) (t : Nat), es[i]? = some e → es[k]? = some e' → i ≠ k → e.d = some t → e'.d ≠ some t
  look : ∀ (i k : Nat) (e : E) (t : Nat), i < es.length → es[k]? = some e → i ≠ k → e.d = some t → t ∈ lk i → (k < i ∧ bef i k = true) ∨ (i < k ∧ bef k i = true)
  ord : ∀ (i k : Nat) (e : E), mem i = true → i < es.length → es[k]? = some e → e.w ≠ none → i ≠ k → (k < i ∧ bef i k = true) ∨ (i < k ∧ bef k i = true)
  memw : ∀ (i : Nat) (e : E), es[i]? = some e → e.w ≠ none → mem i = true
  lab : ∀ (k : Nat) (e : E), es[k]? = some e → (∀ b ∈ e.nw, nn k ≤ b.l ∧ b.l < nn (k + 1)) ∧ nn k ≤ nn (k + 1)
  nn0 : nn 0 = n
  tgt : ∀ (i : Nat) (e : E) (k q : Nat) (vs : List SV), es[i]? = some e → e.w = some (k, q, vs) → ∃ b, LD es (fun j => bef i j) L0 k = some b
  old : ∀ (l : Nat) (b : Blk), L0 l = some b → l < n
  ex : ∀ (i : Nat) (e : E), es[i]? = some e → ∀ (β : Nat → Nat) (p : Nat → Prop) (F' : Nat → Option SV) (L' : Nat → Option Blk) (a : Act) (W : World), (∀ t ∈ lk i, F' t = FD es (fun k => decide (k < i)) F0 t) → (mem i = true → ∀ l b, LD es (fun k => bef i k) L0 l = some b → L' l = some b) → (∀ b ∈ e.nw, ¬ p b.l) → (∀ l, l < n → p l) →
    Mem g β L' p W → Fra g β F' p a → ∀ (K : Act → World → Prop) (Q : Exit → Act → World → Prop), (∀ γ a' W', Mem g γ (aL e L') (aP e p) W' → Fra g γ (aF e F') (aP e p) a' → K a' W') → wpOp P ops Q i K a W
section
variable {P : Program} {g : G} {ops : Array Oper} {es : List E} {F0 : Nat → Option SV} {L0 : Nat → Option Blk} {n : Nat} {lk : Nat → List Nat} {mem : Nat → Bool} {bef : Nat → Nat → Bool} {nn : Nat → Nat}
theorem nn_mono (h : Fits P g ops es F0 L0 n lk mem bef nn) {i k : Nat} (hik : i ≤ k) (hk : k ≤ es.length) : nn i ≤ nn k := by
  induction k with
  | zero => rw [show i = 0 by omega]; exact Nat.le_refl _
  | succ k ih =>
    by_cases e : i = k + 1
    · rw [e]; exact Nat.le_refl _
    · have h1 := ih (by omega) (by omega)
      have h2 := (h.lab k (es[k]'(by omega)) (List.getElem?_eq_getElem (by omega))).2
      omega
theorem lab_at (h : Fits P g ops es F0 L0 n lk mem bef nn) {i : Nat} {e : E} (he : es[i]? = some e) {b : Blk} (hb : b ∈ e.nw) : n ≤ b.l ∧ nn i ≤ b.l ∧ b.l < nn (i + 1) := by
  have h1 := (h.lab i e he).1 b hb
  have hi : i < es.length := (List.getElem?_eq_some_iff.1 he).1
  have h2 := nn_mono h (Nat.zero_le i) (by omega)
  rw [h.nn0] at h2
  omega
theorem lab_ne (h : Fits P g ops es F0 L0 n lk mem bef nn) {i k : Nat} {e e' : E} (he : es[i]? = some e) (he' : es[k]? = some e') (hik : i ≠ k) {b b' : Blk} (hb : b ∈ e.nw) (hb' : b' ∈ e'.nw) : b.l ≠ b'.l := by
  have h1 := lab_at h he hb
  have h2 := lab_at h he' hb'
  have hi : i < es.length := (List.getElem?_eq_some_iff.1 he).1
  have hk : k < es.length := (List.getElem?_eq_some_iff.1 he').1
  rcases Nat.lt_or_ge i k with hlt | hge
  · have := nn_mono h (show i + 1 ≤ k from hlt) (by omega); omega
  · have := nn_mono h (show k + 1 ≤ i by omega) (by omega); omega
/-- what is done holds with each operation those that it waits for -/
def Closed (ops : Array Oper) (D : Nat → Bool) : Prop := ∀ i o, D i = true → ops[i]? = some o → ∀ e ∈ o.after, Region.binds .any e = true → D e.on = true
theorem closed_bef (h : Fits P g ops es F0 L0 n lk mem bef nn) {D : Nat → Bool} (hD : Closed ops D) (hb : ∀ i, D i = true → i < ops.size) {k : Nat} : ∀ {i : Nat}, D i = true → bef i k = true → D k = true := by
  intro i
  induction i using Nat.strongRecOn with
  | _ i ih =>
    intro hi hbef
    obtain ⟨o, ho⟩ : ∃ o, ops[i]? = some o := ⟨ops[i]'(hb i hi), Array.getElem?_eq_getElem (hb i hi)⟩
    obtain ⟨e, he, hbi, hor⟩ := h.clos i o k ho hbef
    have h1 := hD i o hi ho e he hbi
    rcases hor with rfl | h2
    · exact h1
    · exact ih e.on (h.back i o e ho he hbi) h1 h2
theorem ready_bef (h : Fits P g ops es F0 L0 n lk mem bef nn) {D : Nat → Bool} (hD : Closed ops D) (hb : ∀ i, D i = true → i < ops.size) {i : Nat} {o : Oper} (ho : ops[i]? = some o) (hall : ∀ e ∈ o.after, Region.binds .any e = true → D e.on = true) {k : Nat} (hk : bef i k = true) : D k = true := by
  obtain ⟨e, he, hbi, hor⟩ := h.clos i o k ho hk
  have h1 := hall e he hbi
  rcases hor with rfl | h2
  · exact h1
  · exact closed_bef h hD hb h1 h2
theorem FD_at {D : Nat → Bool} {t : Nat} (h : Fits P g ops es F0 L0 n lk mem bef nn) : (∃ k e, es[k]? = some e ∧ D k = true ∧ e.d = some t ∧ FD es D F0 t = some e.v) ∨ ((∀ k e, es[k]? = some e → D k = true → e.d ≠ some t) ∧ FD es D F0 t = F0 t) := by
  by_cases hex : ∃ k e, es[k]? = some e ∧ D k = true ∧ e.d = some t
  · obtain ⟨k, e, h1, h2, h3⟩ := hex
    exact Or.inl ⟨k, e, h1, h2, h3, ft_some h1 (by simpa using h2) h3 fun j e' hj hjk => h.dst k j e e' t h1 hj (Ne.symm hjk) h3⟩
  · have hn : ∀ k e, es[k]? = some e → D k = true → e.d ≠ some t := fun k e h1 h2 h3 => hex ⟨k, e, h1, h2, h3⟩
    exact Or.inr ⟨hn, ft_none fun k e h1 h2 => hn k e h1 (by simpa using h2)⟩
theorem look_agree (h : Fits P g ops es F0 L0 n lk mem bef nn) {D : Nat → Bool} (hD : Closed ops D) (hb : ∀ i, D i = true → i < ops.size) {i : Nat} {o : Oper} (ho : ops[i]? = some o) (hall : ∀ e ∈ o.after, Region.binds .any e = true → D e.on = true) (hi : D i = false) {t : Nat} (ht : t ∈ lk i) :
    FD es D F0 t = FD es (fun k => decide (k < i)) F0 t := by
  have hil : i < es.length := by rw [h.len]; exact (Array.getElem?_eq_some_iff.1 ho).1
  have key : ∀ k e, es[k]? = some e → e.d = some t → k ≠ i → (D k = true ↔ k < i) := by
    intro k e hk hd hki
    rcases h.look i k e t hil hk (Ne.symm hki) hd ht with ⟨h1, h2⟩ | ⟨h1, h2⟩
    · exact ⟨fun _ => h1, fun _ => ready_bef h hD hb ho hall h2⟩
    · refine ⟨fun h3 => ?_, fun h3 => by omega⟩
      have := closed_bef h hD hb h3 h2
      rw [hi] at this; cases this
  rcases FD_at (D := D) (t := t) h with ⟨k, e, h1, h2, h3, h4⟩ | ⟨h1, h2⟩
  · have hki : k ≠ i := fun e => by rw [e, hi] at h2; cases h2
    rcases FD_at (D := fun k => decide (k < i)) (t := t) h with ⟨k', e', k1, k2, k3, k4⟩ | ⟨k1, _⟩
    · have : k = k' := by
        refine Classical.byContradiction fun hne => h.dst k k' e e' t h1 k1 hne h3 k3
      subst this
      rw [h1] at k1
      obtain rfl := Option.some.inj k1
      rw [h4, k4]
    · exact (k1 k e h1 (by simpa using (key k e h1 h3 hki).1 h2) h3).elim
  · rcases FD_at (D := fun k => decide (k < i)) (t := t) h with ⟨k', e', k1, k2, k3, k4⟩ | ⟨_, k2⟩
    · have hlt : k' < i := by simpa using k2
      exact (h1 k' e' k1 ((key k' e' k1 k3 (by omega)).2 hlt) k3).elim
    · rw [h2, k2]
theorem mem_agree (h : Fits P g ops es F0 L0 n lk mem bef nn) {D : Nat → Bool} (hD : Closed ops D) (hb : ∀ i, D i = true → i < ops.size) {i : Nat} {o : Oper} (ho : ops[i]? = some o) (hall : ∀ e ∈ o.after, Region.binds .any e = true → D e.on = true) (hi : D i = false) (hm : mem i = true)
    {l : Nat} {b : Blk} (hl : LD es (fun k => bef i k) L0 l = some b) : LD es D L0 l = some b := by
  have hil : i < es.length := by rw [h.len]; exact (Array.getElem?_eq_some_iff.1 ho).1
  refine gl_mono nn (fun k e hk => by simpa using h.lab k e hk) (fun k e hk hd => ?_) (fun k e hk hd hn => ?_) (Or.inr rfl) (fun b hb => by rw [h.nn0]; exact h.old l b hb) b hl
  · simp only [Nat.zero_add] at hd ⊢
    exact ready_bef h hD hb ho hall hd
  · simp only [Nat.zero_add] at hd hn
    refine Classical.byContradiction fun hw => ?_
    have hki : i ≠ k := fun e => by rw [← e, hi] at hd; cases hd
    rcases h.ord i k e hm hil hk hw hki with ⟨_, h2⟩ | ⟨_, h2⟩
    · rw [hn] at h2; cases h2
    · have := closed_bef h hD hb hd h2
      rw [hi] at this; cases this
theorem FD_add (h : Fits P g ops es F0 L0 n lk mem bef nn) {D : Nat → Bool} {i : Nat} {e : E} (he : es[i]? = some e) (hi : D i = false) : FD es (add D i) F0 = aF e (FD es D F0) := by
  funext t
  refine fo_insert hi (Nat.zero_le i) (by simpa using he) ?_
  intro k e' hik hk _ y
  simp only [Nat.sub_zero] at hk
  unfold ft
  by_cases h1 : e.d = some t
  · have := h.dst i k e e' t he hk (by omega) h1
    rw [if_neg this, if_neg this]
  · rw [if_neg h1, if_neg h1]
theorem PD_add {D : Nat → Bool} {p : Nat → Prop} {i : Nat} {e : E} (he : es[i]? = some e) (hi : D i = false) : PD es (add D i) p = aP e (PD es D p) := by
  funext l
  refine fo_insert hi (Nat.zero_le i) (by simpa using he) ?_
  intro k e' hik hk _ y
  simp only [pl]
  exact propext ⟨fun h => by rcases h with (h | h) | h <;> simp [h], fun h => by rcases h with (h | h) | h <;> simp [h]⟩
theorem LD_label (h : Fits P g ops es F0 L0 n lk mem bef nn) {D : Nat → Bool} {l : Nat} {b : Blk} (hl : LD es D L0 l = some b) : l < n ∨ ∃ k e, es[k]? = some e ∧ D k = true ∧ ∃ c ∈ e.nw, c.l = l := by
  have key : ∀ (es : List E) (s : Nat) (x : Option Blk), (∃ b, fo (gl l) D s es x = some b) → (∃ b, x = some b) ∨ ∃ k e, es[k]? = some e ∧ D (s + k) = true ∧ ∃ c ∈ e.nw, c.l = l := by
    intro es
    induction es with
    | nil => intro s x hx; exact Or.inl hx
    | cons e es ih =>
      intro s x hx
      simp only [fo] at hx
      rcases ih _ _ hx with ⟨b, hb⟩ | ⟨k, e', h1, h2, h3⟩
      · by_cases hD : D s = true
        · rw [if_pos hD] at hb
          unfold gl at hb
          cases hw : e.w with
          | some q =>
            obtain ⟨k, q, vs⟩ := q
            rw [hw] at hb
            simp only at hb
            left
            by_cases hlk : l = k
            · rw [if_pos hlk] at hb
              obtain ⟨d, hd, _⟩ := Option.map_eq_some_iff.1 hb
              exact ⟨d, hd⟩
            · rw [if_neg hlk] at hb; exact ⟨b, hb⟩
          | none =>
            rw [hw] at hb
            cases x with
            | some c => exact Or.inl ⟨c, rfl⟩
            | none =>
              simp only at hb
              exact Or.inr ⟨0, e, rfl, hD, find_some_label hb⟩
        · rw [if_neg hD] at hb; exact Or.inl ⟨b, hb⟩
      · exact Or.inr ⟨k + 1, e', by simpa using h1, by rw [← h2]; congr 1; omega, h3⟩
  rcases key es 0 (L0 l) ⟨b, hl⟩ with ⟨b, hb⟩ | ⟨k, e, h1, h2, h3⟩
  · exact Or.inl (h.old l b hb)
  · exact Or.inr ⟨k, e, h1, by simpa using h2, h3⟩
theorem LD_add (h : Fits P g ops es F0 L0 n lk mem bef nn) {D : Nat → Bool} (hD : Closed ops D) (hb : ∀ i, D i = true → i < ops.size) {i : Nat} {e : E} (he : es[i]? = some e) (hi : D i = false) : LD es (add D i) L0 = aL e (LD es D L0) := by
  funext l
  refine fo_insert hi (Nat.zero_le i) (by simpa using he) ?_
  intro k e' hik hk hDk y
  simp only [Nat.sub_zero] at hk
  have hil : i < es.length := (List.getElem?_eq_some_iff.1 he).1
  have nob : bef k i = true → False := fun hb' => by
    have := closed_bef h hD hb hDk hb'
    rw [hi] at this; cases this
  -- one of the two leaves the label alone
  have hid : (∀ y, gl l e y = y) ∨ (∀ y, gl l e' y = y) := by
    cases hw : e.w with
    | some q =>
      obtain ⟨m, q, vs⟩ := q
      by_cases hlm : l = m
      · right
        intro y
        cases hw' : e'.w with
        | some q' =>
          rcases h.ord i k e' (h.memw i e he (by rw [hw]; simp)) hil hk (by rw [hw']; simp) (by omega) with ⟨h1, _⟩ | ⟨_, h2⟩
          · omega
          · exact (nob h2).elim
        | none =>
          unfold gl
          rw [hw']
          cases y with
          | some c => rfl
          | none =>
            simp only
            cases hf : find e'.nw l with
            | none => rfl
            | some c =>
              exfalso
              obtain ⟨d, hd, e1⟩ := find_some_label hf
              have h1 := lab_at h hk hd
              obtain ⟨b, hb'⟩ := h.tgt i e m q vs he hw
              rw [← hlm] at hb'
              have hnk := nn_mono h (show i + 1 ≤ k by omega) (Nat.le_of_lt (List.getElem?_eq_some_iff.1 hk).1)
              rcases LD_label h hb' with h2 | ⟨j, ej, h2, h3, c', hc', e2⟩
              · omega
              · have hj := lab_at h h2 hc'
                by_cases hjk : j = k
                · subst hjk
                  have h3' : bef i j = true := h3
                  have : ∃ o, ops[i]? = some o := ⟨ops[i]'(by rw [← h.len]; exact hil), Array.getElem?_eq_getElem (by rw [← h.len]; exact hil)⟩
                  -- what i waits for lies before i
                  have hbk : ∀ i, bef i j = true → i < ops.size → j < i := by
                    intro i
                    induction i using Nat.strongRecOn with
                    | _ i ih =>
                      intro hbi hlt
                      obtain ⟨ee, he1, he2, hor⟩ := h.clos i (ops[i]'hlt) j (Array.getElem?_eq_getElem hlt) hbi
                      have hlt2 := h.back i _ ee (Array.getElem?_eq_getElem hlt) he1 he2
                      rcases hor with h5 | h5
                      · omega
                      · have := ih ee.on hlt2 h5 (by omega)
                        omega
                  have := hbk i h3' (by rw [← h.len]; exact hil)
                  omega
                · exact lab_ne h h2 hk hjk hc' hd (by rw [e1, e2])
      · left
        intro y
        unfold gl
        rw [hw]
        simp only
        rw [if_neg hlm]
    | none =>
      cases hf : find e.nw l with
      | none =>
        left
        intro y
        unfold gl
        rw [hw]
        cases y with
        | some c => rfl
        | none => exact hf
      | some c =>
        right
        obtain ⟨d, hd, e1⟩ := find_some_label hf
        intro y
        cases hw' : e'.w with
        | some q' =>
          obtain ⟨m, q, vs⟩ := q'
          unfold gl
          rw [hw']
          simp only
          refine if_neg fun hlm => ?_
          obtain ⟨b, hb'⟩ := h.tgt k e' m q vs hk hw'
          rw [← hlm] at hb'
          have h1 := lab_at h he hd
          rcases LD_label h hb' with h2 | ⟨j, ej, h2, h3, c', hc', e2⟩
          · omega
          · by_cases hji : j = i
            · subst hji; exact nob h3
            · exact lab_ne h h2 he hji hc' hd (by rw [e1, e2])
        | none =>
          unfold gl
          rw [hw']
          cases y with
          | some c => rfl
          | none =>
            simp only
            cases hf' : find e'.nw l with
            | none => rfl
            | some c' =>
              obtain ⟨d', hd', e2⟩ := find_some_label hf'
              exact (lab_ne h he hk (by omega) hd hd' (by rw [e1, e2])).elim
  rcases hid with h1 | h1
  · rw [h1, h1]
  · rw [h1, h1]
theorem wpAny_fits (h : Fits P g ops es F0 L0 n lk mem bef nn) {Q : Exit → Act → World → Prop} (hQ : ∀ β a W, Mem g β (LD es (fun _ => true) L0) (PD es (fun _ => true) (fun l => l < n)) W → Fra g β (FD es (fun _ => true) F0) (PD es (fun _ => true) (fun l => l < n)) a → Q .normal a W) :
    ∀ (fuel : Nat) (ls : Array Bool) (a : Act) (W : World) (β : Nat → Nat), ls.size = ops.size → ls.toList.count false = fuel → Closed ops (fun i => ls.getD i false) →
      Mem g β (LD es (fun i => ls.getD i false) L0) (PD es (fun i => ls.getD i false) (fun l => l < n)) W → Fra g β (FD es (fun i => ls.getD i false) F0) (PD es (fun i => ls.getD i false) (fun l => l < n)) a → wpAny P .any ops Q fuel ls a W := by
  have mono : ∀ {D D' : Nat → Bool}, (∀ k, k < es.length → D k = D' k) → FD es D F0 = FD es D' F0 ∧ LD es D L0 = LD es D' L0 ∧ PD es D (fun l => l < n) = PD es D' (fun l => l < n) := by
    intro D D' hd
    have hd' : ∀ k e, es[k]? = some e → D (0 + k) = D' (0 + k) := fun k e hk => by rw [Nat.zero_add]; exact hd k (List.getElem?_eq_some_iff.1 hk).1
    exact ⟨funext fun t => fo_congr2 hd', funext fun l => fo_congr2 hd', funext fun l => fo_congr2 hd'⟩
  have inb : ∀ {ls : Array Bool}, ls.size = ops.size → ∀ i, ls.getD i false = true → i < ops.size := by
    intro ls hs i hi
    refine Nat.lt_of_not_le fun hge => ?_
    rw [Array.getD_eq_getD_getElem?, Array.getElem?_eq_none (by omega)] at hi
    cases hi
  intro fuel
  induction fuel with
  | zero =>
    intro ls a W β hs hc hcl hm hf
    have hall : ∀ i, i < ops.size → ls.getD i false = true := by
      intro i hi
      have h0 := List.count_eq_zero.1 hc
      have : ls[i]? = some ls[i] := Array.getElem?_eq_getElem (by omega)
      rw [Array.getD_eq_getD_getElem?, this]
      simp only [Option.getD_some]
      refine Classical.byContradiction fun hne => h0 ?_
      have h1 : ls[i] = false := by simpa using hne
      rw [← h1]
      exact Array.getElem_mem_toList _
    refine ⟨?_, ?_⟩
    · refine List.eq_nil_iff_forall_not_mem.2 fun i hi => ?_
      obtain ⟨h1, o, ho, _⟩ := mem_ready.1 hi
      have h2 := hall i (Array.getElem?_eq_some_iff.1 ho).1
      rw [Array.getD_eq_getD_getElem?] at h1 h2
      have h3 : i < ls.size := by rw [hs]; exact (Array.getElem?_eq_some_iff.1 ho).1
      rw [Array.getElem?_eq_getElem h3] at h1 h2
      simp only [Option.getD_some] at h1 h2
      rw [h1] at h2; cases h2
    · obtain ⟨e1, e2, e3⟩ := mono (D := fun i => ls.getD i false) (D' := fun _ => true) fun k hk => hall k (by rw [← h.len]; exact hk)
      rw [e1, e3] at hf
      rw [e2, e3] at hm
      exact hQ β a W hm hf
  | succ fuel ih =>
    intro ls a W β hs hc hcl hm hf
    have hin := inb hs
    refine ⟨fun hr => ?_, fun i hi => ?_⟩
    · exfalso
      have hex : ∃ i, i < ops.size ∧ ls.getD i false = false := by
        have hpos : 0 < ls.toList.count false := by omega
        obtain ⟨i, hi, he⟩ := List.getElem_of_mem (List.count_pos_iff.1 hpos)
        refine ⟨i, by rw [← hs]; simpa using hi, ?_⟩
        rw [Array.getD_eq_getD_getElem?, Array.getElem?_eq_getElem (by simpa using hi)]
        simpa using he
      have none : ∀ i, i < ops.size → ls.getD i false = false → False := by
        intro i
        induction i using Nat.strongRecOn with
        | _ i ihi =>
          intro hi hf
          have ho := Array.getElem?_eq_getElem hi
          by_cases hd : ∀ e ∈ (ops[i]'hi).after, Region.binds .any e = true → ls.getD e.on false = true
          · have : i ∈ Region.ready .any ops ls := mem_ready.2 ⟨by
              rw [Array.getD_eq_getD_getElem?] at hf ⊢
              rw [Array.getElem?_eq_getElem (show i < ls.size by omega)] at hf ⊢
              exact hf, _, ho, hd⟩
            rw [hr] at this
            cases this
          · simp only [Classical.not_forall] at hd
            obtain ⟨e, he, hb, hne⟩ := hd
            have hlt := h.back i _ e ho he hb
            exact ihi e.on hlt (by omega) (by simpa using hne)
      obtain ⟨i, hi, hfa⟩ := hex
      exact none i hi hfa
    · obtain ⟨hun, o, ho, hall⟩ := mem_ready.1 hi
      have hio : i < ops.size := (Array.getElem?_eq_some_iff.1 ho).1
      have hDi : ls.getD i false = false := by
        rw [Array.getD_eq_getD_getElem?] at hun ⊢
        rw [Array.getElem?_eq_getElem (show i < ls.size by omega)] at hun ⊢
        exact hun
      have he : es[i]? = some (es[i]'(by rw [h.len]; exact hio)) := List.getElem?_eq_getElem _
      have hset : (fun k => (ls.setIfInBounds i true).getD k false) = add (fun k => ls.getD k false) i := by
        funext k
        simp only [add]
        by_cases hk : k = i
        · subst hk
          rw [if_pos rfl, Array.getD_eq_getD_getElem?]
          simp [show k < ls.size by omega]
        · rw [if_neg hk, getD_set_ne false (Ne.symm hk)]
      refine h.ex i _ he β _ _ _ a W (fun t ht => look_agree h hcl hin ho hall hDi ht) (fun hmm l b hl => mem_agree h hcl hin ho hall hDi hmm hl) ?_ (fun l hl => PD_iff.2 (Or.inl hl)) hm hf _ Q ?_
      · intro b hb hp
        rcases PD_iff.1 hp with hp | ⟨k, e', h1, h2, c, hc', h3⟩
        · have := (lab_at h he hb).1; omega
        · simp only [Nat.zero_add] at h2
          have hki : i ≠ k := fun e => by rw [← e, hDi] at h2; cases h2
          exact lab_ne h he h1 hki hb hc' h3.symm
      · intro γ a' W' hm' hf'
        refine ih _ a' W' γ (by simpa using hs) ?_ ?_ ?_ ?_
        · have h1 : ls.toList[i]? = some false := by
            rw [Array.getElem?_toList, Array.getElem?_eq_getElem (show i < ls.size by omega)]
            rw [Array.getD_eq_getD_getElem?, Array.getElem?_eq_getElem (show i < ls.size by omega)] at hDi
            simpa using hDi
          have h2 : i < ls.toList.length := (List.getElem?_eq_some_iff.1 h1).1
          have h3 : ls.toList[i] = false := (List.getElem?_eq_some_iff.1 h1).2
          rw [Array.toList_setIfInBounds, List.count_set h2, h3, hc]
          simp
        · rw [hset]
          intro k o' hk ho' e' he' hb'
          simp only [add] at hk ⊢
          by_cases hke : e'.on = i
          · rw [if_pos hke]
          · rw [if_neg hke]
            by_cases hki : k = i
            · subst hki
              rw [ho] at ho'
              obtain rfl := Option.some.inj ho'
              exact hall e' he' hb'
            · rw [if_neg hki] at hk
              exact hcl k o' hk ho' e' he' hb'
        · rw [hset, LD_add h hcl hin he hDi, PD_add he hDi]; exact hm'
        · rw [hset, FD_add h he hDi, PD_add he hDi]; exact hf'
end
end Go.Vg
