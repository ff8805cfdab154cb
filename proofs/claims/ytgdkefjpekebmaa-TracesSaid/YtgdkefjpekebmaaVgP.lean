/-
  This text proves the soundness of the symbolic run of a drawn region, put together. Condition: the program follows mixed orders, and the region passes the check of its edges.
-/
import Derived.Test.YtgdkefjpekebmaaVgO
namespace Go.Vg
open Go.RowKit
theorem maskOf_bit {acc : List Nat} {k : Nat} : ∀ {es : List Edge}, (maskOf acc es).testBit k = true → ∃ e ∈ es, Region.binds .any e = true ∧ (e.on = k ∨ (acc.getD e.on 0).testBit k = true)
  | [], h => by simp [maskOf] at h
  | e :: es, h => by
    simp only [maskOf] at h
    cases hb : Region.binds .any e with
    | false =>
      rw [hb] at h
      obtain ⟨e', h1, h2⟩ := maskOf_bit h
      exact ⟨e', List.mem_cons_of_mem _ h1, h2⟩
    | true =>
      rw [hb] at h
      simp only [Nat.testBit_or, Bool.or_eq_true] at h
      rcases h with (h | h) | h
      · rw [Nat.testBit_two_pow] at h
        exact ⟨e, List.mem_cons_self, hb, Or.inl (by simpa using h)⟩
      · exact ⟨e, List.mem_cons_self, hb, Or.inr h⟩
      · obtain ⟨e', h1, h2⟩ := maskOf_bit h
        exact ⟨e', List.mem_cons_of_mem _ h1, h2⟩
theorem maskL_len : ∀ (os : List Oper) (acc : List Nat), (maskL acc os).length = acc.length + os.length
  | [], acc => by simp [maskL]
  | o :: os, acc => by simp only [maskL, maskL_len os, List.length_append, List.length_cons, List.length_nil]; omega
theorem maskL_old : ∀ (os : List Oper) (acc : List Nat) (i : Nat), i < acc.length → (maskL acc os).getD i 0 = acc.getD i 0
  | [], acc, i, _ => rfl
  | o :: os, acc, i, h => by
    simp only [maskL]
    rw [maskL_old os _ i (by simp; omega)]
    simp [List.getD_eq_getElem?_getD, List.getElem?_append_left h]
theorem maskL_new : ∀ (os : List Oper) (acc : List Nat) (i : Nat) (o : Oper), os[i]? = some o → ∃ acc' : List Nat, acc'.length = acc.length + i ∧ (maskL acc os).getD (acc.length + i) 0 = maskOf acc' o.after.toList ∧ ∀ j, j < acc'.length → acc'.getD j 0 = (maskL acc os).getD j 0
  | [], acc, i, o, h => by simp at h
  | o' :: os, acc, 0, o, h => by
    simp only [List.getElem?_cons_zero, Option.some.injEq] at h
    subst h
    refine ⟨acc, by simp, ?_, fun j hj => ?_⟩
    · simp only [maskL, Nat.add_zero]
      rw [maskL_old os _ _ (by simp)]
      simp [List.getD_eq_getElem?_getD]
    · simp only [maskL]
      rw [maskL_old os _ j (by simp; omega)]
      simp [List.getD_eq_getElem?_getD, List.getElem?_append_left hj]
  | o' :: os, acc, i + 1, o, h => by
    obtain ⟨acc', h1, h2, h3⟩ := maskL_new os (acc ++ [maskOf acc o'.after.toList]) i o (by simpa using h)
    refine ⟨acc', by simp at h1; omega, ?_, fun j hj => ?_⟩
    · simp only [maskL]
      rw [← h2]
      congr 1
      simp
      omega
    · simp only [maskL]; exact h3 j hj
/-- what the check of the edges says -/
structure Edges (all : List Oper) (m : List Nat) : Prop where
  clos : ∀ (i : Nat) (o : Oper) (k : Nat), all[i]? = some o → befB m i k = true → ∃ e ∈ o.after, Region.binds .any e = true ∧ (e.on = k ∨ befB m e.on k = true)
  back : ∀ (i : Nat) (o : Oper) (e : Edge), all[i]? = some o → e ∈ o.after → Region.binds .any e = true → e.on < i
  dst : ∀ (i k : Nat) (o o' : Oper) (t : Nat), all[i]? = some o → all[k]? = some o' → i ≠ k → o'.dst = some t → o.dst ≠ some t ∧ (t ∈ lkOf all o → (k < i ∧ befB m i k = true) ∨ (i < k ∧ befB m k i = true))
  ord : ∀ (i k : Nat) (o o' : Oper), all[i]? = some o → all[k]? = some o' → i ≠ k → isStore o' = true → memOf o = true → (k < i ∧ befB m i k = true) ∨ (i < k ∧ befB m k i = true)
theorem ordB_or {m : List Nat} {i k : Nat} (h : ordB m i k = true) : (k < i ∧ befB m i k = true) ∨ (i < k ∧ befB m k i = true) := by
  simp only [ordB, Bool.or_eq_true, Bool.and_eq_true] at h
  rcases h with ⟨h1, h2⟩ | ⟨h1, h2⟩
  · exact Or.inl ⟨Nat.le_of_ble_eq_true h1, h2⟩
  · exact Or.inr ⟨Nat.le_of_ble_eq_true h1, h2⟩
theorem Edges.of {all : List Oper} (h : drawB all = true) : Edges all (maskL [] all) := by
  have h0 : ∀ i o, all[i]? = some o → (∀ e ∈ o.after, Region.binds .any e = true → e.on < i) ∧ ∀ k o', all[k]? = some o' → i ≠ k → (∀ t, o'.dst = some t → o.dst ≠ some t ∧ (t ∈ lkOf all o → ordB (maskL [] all) i k = true)) ∧ (isStore o' = true → memOf o = true → ordB (maskL [] all) i k = true) := by
    intro i o hi
    have hil : i < all.length := (List.getElem?_eq_some_iff.1 hi).1
    simp only [drawB, List.all_eq_true, List.mem_range] at h
    have h1 := h i hil
    rw [hi] at h1
    simp only [Bool.and_eq_true, List.all_eq_true] at h1
    refine ⟨fun e he hb => ?_, fun k o' hk hik => ?_⟩
    · have := h1.1 e (by simpa using he)
      rw [hb] at this
      simpa using this
    · have hkl : k < all.length := (List.getElem?_eq_some_iff.1 hk).1
      have h2 := h1.2 k (List.mem_range.2 hkl)
      rw [hk] at h2
      have hne : Nat.beq i k = false := by
        cases hb : Nat.beq i k with
        | false => rfl
        | true => exact (hik (Nat.eq_of_beq_eq_true hb)).elim
      rw [hne] at h2
      simp only [Bool.false_or, Bool.and_eq_true] at h2
      refine ⟨fun t ht => ?_, fun hs hmm => ?_⟩
      · have h3 := h2.1
        rw [ht] at h3
        simp only [Bool.and_eq_true, Bool.not_eq_true', Bool.or_eq_true] at h3
        refine ⟨fun e => by rw [e] at h3; simp at h3, fun hm => ?_⟩
        rcases h3.2 with h4 | h4
        · rw [memN_iff.2 hm] at h4; cases h4
        · exact h4
      · have h3 := h2.2
        rw [hs, hmm] at h3
        simpa using h3
  refine ⟨?_, fun i o e hi => (h0 i o hi).1 e, ?_, ?_⟩
  · intro i o k hi hb
    obtain ⟨acc', h1, h2, h3⟩ := maskL_new all [] i o hi
    simp only [List.length_nil, Nat.zero_add] at h1 h2
    unfold befB at hb
    rw [h2] at hb
    obtain ⟨e, he, hbi, hor⟩ := maskOf_bit hb
    refine ⟨e, by simpa using he, hbi, ?_⟩
    rcases hor with h4 | h4
    · exact Or.inl h4
    · right
      have hlt := (h0 i o hi).1 e (by simpa using he) hbi
      unfold befB
      rw [← h3 e.on (by omega)]
      exact h4
  · intro i k o o' t hi hk hik ht
    obtain ⟨h1, h2⟩ := ((h0 i o hi).2 k o' hk hik).1 t ht
    exact ⟨h1, fun hm => ordB_or (h2 hm)⟩
  · intro i k o o' hi hk hik hs hm
    exact ordB_or (((h0 i o hi).2 k o' hk hik).2 hs hm)
section
variable {P : Program} {g : G} {T : Nat → Option Ty}
/-- an operation's case, as op_ex wants it -/
def Case (T : Nat → Option Ty) (P : Program) (g : G) (all : List Oper) (o : Oper) (e : E) (Ft : Nat → Option SV) (V : Nat → Option Blk) : Prop :=
  ((∃ x, o.guard = none ∨ ∃ j oj d, o.guard = some (j, x) ∧ all[j]? = some oj ∧ oj.dst = some d ∧ d ∈ lkOf all o ∧ Ft d = some (.bool x)) ∧
      ((∃ v, Runs T Ft V o.op (.val v) ∧ e = ⟨o.dst, v, [], none⟩) ∨ (∃ f cs t k, Runs T Ft V o.op (.new f cs t) ∧ e = ⟨o.dst, f k, [⟨k, cs, t⟩], none⟩) ∨
        (∃ l q vs b, Runs T Ft V o.op (.wr l q vs) ∧ V l = some b ∧ own g.n0 g.ms l = true ∧ e = ⟨o.dst, .raw undef, [], some (l, q, vs)⟩) ∨ (∃ v nw, EN g P o Ft (selM o V) v nw ∧ e = ⟨o.dst, v, nw, none⟩))) ∨
      ((∃ j x oj d, o.guard = some (j, !x) ∧ all[j]? = some oj ∧ oj.dst = some d ∧ d ∈ lkOf all o ∧ Ft d = some (.bool x)) ∧ e = ⟨o.dst, .raw undef, [], none⟩)
theorem Runs.wr_store {op : Op} {F : Nat → Option SV} {L : Nat → Option Blk} {l q : Nat} {vs : List SV} (h : Runs T F L op (.wr l q vs)) : ∃ t x y, op = .store t x y := by
  cases h
  exact ⟨_, _, _, rfl⟩
theorem vcD_run {all : List Oper} {m : List Nat} (hE : Edges all m) {F0 : FF} {B0 : LL} {nS : Nat} {K : FF → LL → Nat → Prop} : ∀ (rest : List Oper) (done : List E) (F : FF) (B : LL) (N : NL) (n : Nat), all.drop done.length = rest → Told done F0 B0 nS F B N n →
    (∀ (k : Nat) (e : E), done[k]? = some e → e.w ≠ none → ∃ o, all[k]? = some o ∧ isStore o = true) → vcD T Ar.real P g g.n0 g.ms all m K rest done.length F B N n →
    ∃ (es : List E) (F' : FF) (B' : LL) (N' : NL) (n' : Nat) (nnf : Nat → Nat), es.length = rest.length ∧ Told (done ++ es) F0 B0 nS F' B' N' n' ∧ K F' (B' ++ allN N') n' ∧ nnf 0 = n ∧
      (∀ (j : Nat) (e : E) (o : Oper), es[j]? = some e → rest[j]? = some o → e.d = o.dst ∧ (e.w ≠ none → isStore o = true ∧ memOf o = true) ∧ Case T P g all o e (FD (done ++ es.take j) (fun _ => true) (look F0)) (LD (done ++ es.take j) (befB m (done.length + j)) (find B0)) ∧
        (∀ l q vs, e.w = some (l, q, vs) → ∃ b, LD (done ++ es.take j) (befB m (done.length + j)) (find B0) l = some b) ∧ (∀ b ∈ e.nw, nnf j ≤ b.l ∧ b.l < nnf (j + 1)) ∧ nnf j ≤ nnf (j + 1)) := by
  intro rest
  induction rest with
  | nil =>
    intro done F B N n _ ht _ h
    exact ⟨[], F, B, N, n, fun _ => n, rfl, by simpa using ht, h, rfl, fun j e o hj => by simp at hj⟩
  | cons o rest ih =>
    intro done F B N n hdrop ht hst h
    have hoi : all[done.length]? = some o := by
      have := congrArg (fun l => l[0]?) hdrop
      simpa using this
    have hdrop' : all.drop (done.length + 1) = rest := by
      have := congrArg (List.drop 1) hdrop
      simpa [Nat.add_comm] using this
    have hV : memOf o = true → LD done (befB m done.length) (find B0) = find (B ++ filN m done.length N) := by
      intro hm
      funext l
      rw [filN_eq]
      refine ht.bl _ (fun k e hk hw => ?_) l
      obtain ⟨o', ho', hs⟩ := hst k e hk hw
      have hkl : k < done.length := (List.getElem?_eq_some_iff.1 hk).1
      rcases hE.ord _ _ _ _ hoi ho' (by omega) hs hm with ⟨_, h2⟩ | ⟨h1, _⟩
      · exact h2
      · omega
    have conv : ∀ {e : Eff}, Runs T (look F) (find (B ++ filN m done.length N)) o.op e → Runs T (FD done (fun _ => true) (look F0)) (LD done (befB m done.length) (find B0)) o.op e := by
      intro e hr
      rw [← ht.fr]
      exact hr.congr (fun _ _ => rfl) (fun hm l b hl => by rw [hV hm]; exact hl)
    -- one operation's effect, then the rest
    have step : ∀ (e : E) (F1 : FF) (B1 : LL) (N1 : NL) (n1 : Nat), e.d = o.dst → (e.w ≠ none → isStore o = true ∧ memOf o = true) → Case T P g all o e (FD done (fun _ => true) (look F0)) (LD done (befB m done.length) (find B0)) →
        (∀ l q vs, e.w = some (l, q, vs) → ∃ b, LD done (befB m done.length) (find B0) l = some b) → (∀ b ∈ e.nw, n ≤ b.l ∧ b.l < n1) → n ≤ n1 → Told (done ++ [e]) F0 B0 nS F1 B1 N1 n1 →
        vcD T Ar.real P g g.n0 g.ms all m K rest (done.length + 1) F1 B1 N1 n1 → ∃ (es : List E) (F' : FF) (B' : LL) (N' : NL) (n' : Nat) (nnf : Nat → Nat), es.length = (o :: rest).length ∧ Told (done ++ es) F0 B0 nS F' B' N' n' ∧ K F' (B' ++ allN N') n' ∧ nnf 0 = n ∧
      (∀ (j : Nat) (e : E) (o' : Oper), es[j]? = some e → (o :: rest)[j]? = some o' → e.d = o'.dst ∧ (e.w ≠ none → isStore o' = true ∧ memOf o' = true) ∧ Case T P g all o' e (FD (done ++ es.take j) (fun _ => true) (look F0)) (LD (done ++ es.take j) (befB m (done.length + j)) (find B0)) ∧
        (∀ l q vs, e.w = some (l, q, vs) → ∃ b, LD (done ++ es.take j) (befB m (done.length + j)) (find B0) l = some b) ∧ (∀ b ∈ e.nw, nnf j ≤ b.l ∧ b.l < nnf (j + 1)) ∧ nnf j ≤ nnf (j + 1)) := by
      intro e F1 B1 N1 n1 h1 h2 h3 h4 h5 h6 h7 h8
      obtain ⟨es, F', B', N', n', nnf, k1, k2, k3, k4, k5⟩ := ih (done ++ [e]) F1 B1 N1 n1 (by simpa using hdrop') h7 (fun k e' hk hw => by
        by_cases hlt : k < done.length
        · rw [List.getElem?_append_left hlt] at hk
          exact hst k e' hk hw
        · rw [List.getElem?_append_right (by omega)] at hk
          cases hkk : k - done.length with
          | zero =>
            rw [hkk] at hk
            simp only [List.getElem?_cons_zero, Option.some.injEq] at hk
            subst hk
            exact ⟨o, by rw [show k = done.length by omega]; exact hoi, (h2 hw).1⟩
          | succ j => rw [hkk] at hk; simp at hk) (by simpa using h8)
      refine ⟨e :: es, F', B', N', n', fun j => if j = 0 then n else nnf (j - 1), by simp [k1], by simpa using k2, k3, rfl, ?_⟩
      intro j e' o' hj ho'
      cases j with
      | zero =>
        simp only [List.getElem?_cons_zero, Option.some.injEq] at hj ho'
        subst hj ho'
        refine ⟨h1, h2, by simpa using h3, by simpa using h4, ?_, ?_⟩
        · intro b hb
          have := h5 b hb
          simp only [if_true, Nat.zero_add, Nat.one_ne_zero, if_false, Nat.sub_self, k4]
          exact this
        · simp only [if_true, Nat.zero_add, Nat.one_ne_zero, if_false, Nat.sub_self, k4]
          exact h6
      | succ j =>
        have := k5 j e' o' (by simpa using hj) (by simpa using ho')
        simp only [List.take_succ_cons, List.length_append, List.length_cons, List.length_nil, List.append_assoc, List.cons_append, List.nil_append] at this ⊢
        rw [show done.length + (0 + 1) + j = done.length + (j + 1) by omega] at this
        refine ⟨this.1, this.2.1, this.2.2.1, this.2.2.2.1, ?_, ?_⟩
        · simpa using this.2.2.2.2.1
        · simpa using this.2.2.2.2.2
    have exec : (∃ x, o.guard = none ∨ ∃ j oj d, o.guard = some (j, x) ∧ all[j]? = some oj ∧ oj.dst = some d ∧ d ∈ lkOf all o ∧ FD done (fun _ => true) (look F0) d = some (.bool x)) →
        vcOpG T Ar.real g.n0 g.ms (StepD g P o F (B ++ filN m done.length N) n fun v nw n' => vcD T Ar.real P g g.n0 g.ms all m K rest (done.length + 1) (putO F o.dst v) B (N ++ ownN done.length nw) n') (fun F' => vcD T Ar.real P g g.n0 g.ms all m K rest (done.length + 1) F' B N n)
          (fun F' b => vcD T Ar.real P g g.n0 g.ms all m K rest (done.length + 1) F' B (N ++ [(done.length, b)]) (n + 1)) (fun F' l cs => vcD T Ar.real P g g.n0 g.ms all m K rest (done.length + 1) F' (updA l cs B) (updN l cs N) n) o F (B ++ filN m done.length N) n →
        ∃ (es : List E) (F' : FF) (B' : LL) (N' : NL) (n' : Nat) (nnf : Nat → Nat), es.length = (o :: rest).length ∧ Told (done ++ es) F0 B0 nS F' B' N' n' ∧ K F' (B' ++ allN N') n' ∧ nnf 0 = n ∧
      (∀ (j : Nat) (e : E) (o' : Oper), es[j]? = some e → (o :: rest)[j]? = some o' → e.d = o'.dst ∧ (e.w ≠ none → isStore o' = true ∧ memOf o' = true) ∧ Case T P g all o' e (FD (done ++ es.take j) (fun _ => true) (look F0)) (LD (done ++ es.take j) (befB m (done.length + j)) (find B0)) ∧
        (∀ l q vs, e.w = some (l, q, vs) → ∃ b, LD (done ++ es.take j) (befB m (done.length + j)) (find B0) l = some b) ∧ (∀ b ∈ e.nw, nnf j ≤ b.l ∧ b.l < nnf (j + 1)) ∧ nnf j ≤ nnf (j + 1)) := by
      intro hg hv
      rcases vcOp_cases hv with ⟨v, nw, n1, hen, hn, hnw, hnd, hk⟩ | ⟨v, hr, hk⟩ | ⟨f, cs, t, hr, hk⟩ | ⟨l, q, vs, b, hr, hb, hown, hk⟩
      · refine step ⟨o.dst, v, nw, none⟩ _ B _ n1 rfl (fun h => (h rfl).elim) (Or.inl ⟨hg, Or.inr (Or.inr (Or.inr ⟨v, nw, ?_, rfl⟩))⟩) (fun _ _ _ h => by cases h) hnw hn (ht.app hn hnw hnd) hk
        rw [← ht.fr]
        have : selM o (LD done (befB m done.length) (find B0)) = selM o (find (B ++ filN m done.length N)) := by
          unfold selM
          cases hm : memOf o with
          | true => exact hV hm
          | false => rfl
        rw [this]; exact hen
      · exact step ⟨o.dst, v, [], none⟩ _ B N n rfl (fun h => (h rfl).elim) (Or.inl ⟨hg, Or.inl ⟨v, conv hr, rfl⟩⟩) (fun _ _ _ h => by cases h) (fun b hb => by cases hb) (Nat.le_refl n) ht.val hk
      · refine step ⟨o.dst, f n, [⟨n, cs, t⟩], none⟩ _ B (N ++ [(done.length, ⟨n, cs, t⟩)]) (n + 1) rfl (fun h => (h rfl).elim) (Or.inl ⟨hg, Or.inr (Or.inl ⟨f, cs, t, n, conv hr, rfl⟩)⟩) (fun _ _ _ h => by cases h) (fun b hb => ?_) (Nat.le_succ n) ?_ hk
        · obtain rfl := List.mem_singleton.1 hb; simp
        · have := ht.app (d := o.dst) (v := f n) (nw := [⟨n, cs, t⟩]) (Nat.le_succ n) (fun b hb => by obtain rfl := List.mem_singleton.1 hb; simp) (by simp)
          simpa [ownN] using this
      · obtain ⟨t', x', y', hop⟩ := hr.wr_store
        have hs : isStore o = true := by simp [isStore, hop]
        have hm : memOf o = true := by simp [memOf, hop]
        have hVl : LD done (befB m done.length) (find B0) l = some b := by rw [hV hm]; exact hb
        refine step ⟨o.dst, .raw undef, [], some (l, q, vs)⟩ _ _ _ n rfl (fun _ => ⟨hs, hm⟩) (Or.inl ⟨hg, Or.inr (Or.inr (Or.inl ⟨l, q, vs, b, conv hr, hVl, hown, rfl⟩))⟩) (fun l' q' vs' h => ?_) (fun b hb => by cases hb) (Nat.le_refl n) (ht.wr (by rw [← filN_eq]; exact hb)) hk
        simp only [Option.some.injEq, Prod.mk.injEq] at h
        obtain ⟨rfl, _, _⟩ := h
        exact ⟨b, hVl⟩
    simp only [vcD, vcR] at h
    cases hgd : o.guard with
    | none =>
      simp only [hgd] at h
      exact exec ⟨true, Or.inl hgd⟩ h
    | some p =>
      obtain ⟨j, bb⟩ := p
      simp only [hgd] at h
      cases hj : all[j]? with
      | none => simp [hj] at h
      | some oj =>
        simp only [hj] at h
        cases hdj : oj.dst with
        | none => simp [hdj] at h
        | some d =>
          simp only [hdj] at h
          have hlk : d ∈ lkOf all o := by
            unfold lkOf
            simp [hgd, hj, hdj]
          cases hl : look F d with
          | none => simp [hl] at h
          | some v =>
            cases v with
            | bool x =>
              have hFd : FD done (fun _ => true) (look F0) d = some (.bool x) := by rw [← ht.fr]; exact hl
              have skip : bb = !x → vcD T Ar.real P g g.n0 g.ms all m K rest (done.length + 1) (putO F o.dst (.raw undef)) B N n → _ := fun hbb hk =>
                step ⟨o.dst, .raw undef, [], none⟩ _ B N n rfl (fun h => (h rfl).elim) (Or.inr ⟨⟨j, x, oj, d, by rw [hgd, hbb], hj, hdj, hlk, hFd⟩, rfl⟩) (fun _ _ _ h => by cases h) (fun b hb => by cases hb) (Nat.le_refl n) ht.val hk
              simp only [hl] at h
              cases x <;> cases bb <;> simp only at h
              · exact exec ⟨false, Or.inr ⟨j, oj, d, hgd, hj, hdj, hlk, hFd⟩⟩ h
              · exact skip rfl h
              · exact skip rfl h
              · exact exec ⟨true, Or.inr ⟨j, oj, d, hgd, hj, hdj, hlk, hFd⟩⟩ h
            | _ => simp [hl] at h
end
end Go.Vg
