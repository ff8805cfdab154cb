/-
  This text proves what these texts prove: VgQ, VgR, VgS. Conditions: those of each theorem.
-/
import Derived.Test.YtdhmihfefgcbeaaGreatW05
section
namespace Go.Vg
open Go.RowKit
section
variable {P : Program} {g : G} {T : Nat -> Option Ty}
theorem Mem.pmono {β : Nat -> Nat} {L : Nat -> Option Blk} {p q : Nat -> Prop} {W : World} (hm : Mem g β L p W) (h : ∀ l, p l -> q l) : Mem g β L q W :=
 ⟨fun l hl => h l (hm.low l hl), hm.old, hm.new, hm.inj, hm.cell, fun l b hb => ⟨h l (hm.bL l b hb).1, bdL_mono h _ (hm.bL l b hb).2⟩, hm.up⟩
theorem Mem.drawn {β : Nat -> Nat} {L : Nat -> Option Blk} {p : Nat -> Prop} {W : World} (hm : Mem g β L p W) : Mem g β L p { W with drawn := W.drawn + 1 } :=
 ⟨hm.low, hm.old, hm.new, hm.inj, hm.cell, hm.bL, ⟨hm.up.os, hm.up.tape, hm.up.output, hm.up.size, hm.up.block⟩⟩
theorem Edges.lt {all : List Oper} {m : List Nat} {fl : Nat -> Option Nat} {ck : Nat -> Nat -> Bool} (h : Edges all m fl ck) {k : Nat} : ∀ {i : Nat}, i < all.length -> befB m i k = true -> k < i := by
 intro i
 induction i using Nat.strongRecOn with
 | _ i ih =>
   intro hi hb
   obtain ⟨e, he, hbi, hor⟩ := h.clos i (all[i]'hi) k (List.getElem?_eq_getElem hi) hb
   have hlt := h.back i _ e (List.getElem?_eq_getElem hi) he hbi
   rcases hor with h1 | h1
   ·omega
   ·have := ih e.on hlt (by omega) h1
    omega
theorem fits_of (hT : TOk P T) {ops : Array Oper} {fl : Nat -> Option Nat} {ck : Nat -> Nat -> Bool} {sk : Nat -> Bool} (hE : Edges ops.toList (maskL [] ops.toList) fl ck) (hd : ∀ o ∈ ops.toList, ∀ t, o.dst = some t -> t < g.N) {F : FF} {L : LL} {n : Nat} (hL : ∀ l b, find L l = some b -> l < n) {es : List E} {nnf : Nat -> Nat} (hlen : es.length <= ops.size) (k4 : nnf 0 = n)
 (k5 : ∀ (j : Nat) (e : E) (o : Oper), es[j]? = some e -> ops.toList[j]? = some o -> ((sk j = false /\ e.d = o.dst /\ (e.w ≠ none -> isStore o = true /\ memOf o = true) /\ Case T P g ops.toList o e (FD (es.take j) (fun _ => true) (look F)) (visV fl j (LD (es.take j) (befB (maskL [] ops.toList) j) (find L)))) \/ (sk j = true /\ e = ⟨none, .nilp, [], none⟩)) /\
     (∀ l q vs, e.w = some (l, q, vs) -> (∃ b, LD (es.take j) (befB (maskL [] ops.toList) j) (find L) l = some b) /\ ck j l = true) /\ (∀ b ∈ e.nw, nnf j <= b.l /\ b.l < nnf (j + 1)) /\ nnf j <= nnf (j + 1) /\ (quiet o = true -> e.nw = [] /\ e.w = none))
 (hfl : ∀ i a, fl i = some a -> ∃ o t x, ops.toList[i]? = some o /\ o.op = .load t (.tmp x) /\ (∀ o' ∈ ops.toList, o'.dst ≠ some x) /\ labS (look F) x = some a) :
 Fits P g ops es (look F) (find L) n (fun i => match ops[i]? with | some o => lkOf ops.toList o | none => []) (fun i l => match ops[i]? with | some o => memOf o && (match fl i with | none => true | some a => Nat.beq l a) | none => false) (befB (maskL [] ops.toList)) nnf (fun i => sk i = false) := by
 have hops : ∀ (i : Nat) (o : Oper), ops[i]? = some o ↔ ops.toList[i]? = some o := fun i o => by rw [Array.getElem?_toList]
 have hpair : ∀ (i : Nat) (e : E), es[i]? = some e -> ∃ o, ops.toList[i]? = some o := fun i e he => by
  have h1 := (List.getElem?_eq_some_iff.1 he).1
  have : i < ops.toList.length := by rw [Array.length_toList]; omega
  exact ⟨_, List.getElem?_eq_getElem this⟩
 have hdd : ∀ (i : Nat) (e : E) (o : Oper) (t : Nat), es[i]? = some e -> ops.toList[i]? = some o -> e.d = some t -> o.dst = some t := fun i e o t he ho ht => by
  rcases (k5 i e o he ho).1 with h | h
  ·rw [<- h.2.1]; exact ht
  ·rw [h.2] at ht; cases ht
 have hww : ∀ (i : Nat) (e : E) (o : Oper), es[i]? = some e -> ops.toList[i]? = some o -> e.w ≠ none -> isStore o = true /\ memOf o = true := fun i e o he ho hw => by
  rcases (k5 i e o he ho).1 with h | h
  ·exact h.2.2.1 hw
  ·rw [h.2] at hw; exact (hw rfl).elim
 have hFt : ∀ i, FD es (fun k => decide (k < i)) (look F) = FD (es.take i) (fun _ => true) (look F) := fun i => funext fun t => by
  simp only [FD]
  rw [fo_take (i := i) (fun k hk => by simp; omega) (Nat.zero_le i), Nat.sub_zero]
  refine fo_congr2 fun k e hk => ?_
  have : k < i := by
   have := (List.getElem?_eq_some_iff.1 hk).1
   rw [List.length_take] at this
   omega
  simp [this]
 have hLt : ∀ i, i < ops.size -> LD es (fun k => befB (maskL [] ops.toList) i k) (find L) = LD (es.take i) (befB (maskL [] ops.toList) i) (find L) := fun i hi => funext fun l => by
  simp only [LD]
  rw [fo_take (i := i) (fun k hk => ?_) (Nat.zero_le i), Nat.sub_zero]
  cases hb : befB (maskL [] ops.toList) i k with
  | false => rfl
  | true => have := hE.lt (by simpa using hi) hb; omega
 refine ⟨hlen, fun i o k ho hb => hE.clos i o k ((hops i o).1 ho) hb, fun i o e ho he hb => hE.back i o e ((hops i o).1 ho) he hb, ?_, ?_, ?_, ?_, ?_, k4, ?_, hL, ?_⟩
 ·intro i k e e' t he he' hik hdt hdt'
  obtain ⟨o, ho⟩ := hpair i e he
  obtain ⟨o', ho'⟩ := hpair k e' he'
  exact (hE.dst i k o o' t ho ho' hik (hdd k e' o' t he' ho' hdt')).1 (hdd i e o t he ho hdt)
 ·intro i k e t hio he hik hdt ht
  obtain ⟨o', ho'⟩ := hpair k e he
  have ho := Array.getElem?_eq_getElem hio
  rw [ho] at ht
  exact (hE.dst i k _ o' t ((hops i _).1 ho) ho' hik (hdd k e o' t he ho' hdt)).2 ht
 ·intro i k e l q vs hmem hio he hw hik
  obtain ⟨o', ho'⟩ := hpair k e he
  have ho := Array.getElem?_eq_getElem hio
  rw [ho] at hmem
  simp only [Bool.and_eq_true] at hmem
  rcases hE.ord i k _ o' ((hops i _).1 ho) ho' hik (hww k e o' he ho' (by rw [hw]; simp)).1 hmem.1 with h3 | h3
  ·exact h3
  ·exfalso
   obtain ⟨a, ha, hne⟩ := h3 l ((k5 k e o' he ho').2.1 l q vs hw).2
   have h4 := hmem.2
   rw [ha] at h4
   exact hne (Nat.eq_of_beq_eq_true h4)
 ·intro i e l q vs he hw
  obtain ⟨o, ho⟩ := hpair i e he
  have h3 := hww i e o he ho (by rw [hw]; simp)
  have hf : fl i = none := by
   cases hf : fl i with
   | none => rfl
   | some a =>
     obtain ⟨o', t, x, ho', hop, _, _⟩ := hfl _ _ hf
     rw [ho] at ho'
     obtain rfl := Option.some.inj ho'
     have := h3.1
     rw [isStore, hop] at this; cases this
  rw [(hops i o).2 ho]
  simp only [h3.2, hf, Bool.and_self]
 ·intro i e he
  obtain ⟨o, ho⟩ := hpair i e he
  exact ⟨(k5 i e o he ho).2.2.1, (k5 i e o he ho).2.2.2.1⟩
 ·intro i e k q vs he hw
  obtain ⟨o, ho⟩ := hpair i e he
  have hio : i < ops.size := Nat.lt_of_lt_of_le (List.getElem?_eq_some_iff.1 he).1 hlen
  have := ((k5 i e o he ho).2.1 k q vs hw).1
  rw [<- hLt i hio] at this
  exact this
 ·intro i e hun he
  obtain ⟨o, ho⟩ := hpair i e he
  have hio : i < ops.size := Nat.lt_of_lt_of_le (List.getElem?_eq_some_iff.1 he).1 hlen
  obtain ⟨hed, _, hc⟩ : e.d = o.dst /\ (e.w ≠ none -> isStore o = true /\ memOf o = true) /\ Case T P g ops.toList o e (FD (es.take i) (fun _ => true) (look F)) (visV fl i (LD (es.take i) (befB (maskL [] ops.toList) i) (find L))) := by
   rcases (k5 i e o he ho).1 with h | h
   ·exact h.2
   ·rw [h.1] at hun; cases hun
  rw [<- hFt i, <- hLt i hio] at hc
  have ho2 := (hops i o).2 ho
  intro β p F1 L1 a W hF hM hfr hlow hm hf
  simp only [ho2] at hF hM
  refine op_ex hT ho2 (hd o (List.mem_of_getElem? ho)) hed (V := visV fl i (LD es (fun k => befB (maskL [] ops.toList) i k) (find L))) ?_ β p F1 L1 a W hF (fun hmo l b hl => ?_) hfr hlow hm hf
  rotate_left
  ·unfold visV at hl
   cases hf : fl i with
   | none => rw [hf] at hl; exact hM l b (by simp [hmo, hf]) hl
   | some a =>
     rw [hf] at hl
     simp only at hl
     by_cases hla : l = a
     ·rw [if_pos hla] at hl; exact hM l b (by simp [hmo, hf, hla]) hl
     ·rw [if_neg hla] at hl; cases hl
  unfold Case at hc
  simpa only [hops] using hc
structure Later (es : List E) (U : Nat -> Prop) (F' : FF) (F1 : Nat -> Option SV) (es' : List E) (un' : Nat -> Prop) : Prop where
 val : ∀ (k : Nat) (e : E) (t : Nat), U k -> es[k]? = some e -> e.d = some t -> look F' t = some e.v /\ F1 t = none
 le : ∀ t v, F1 t = some v -> look F' t = some v
 same : ∀ (k : Nat) (e e' : E), U k -> es[k]? = some e -> es'[k]? = some e' -> e'.d = e.d /\ e'.v = e.v /\ e'.nw = [] /\ e'.w = none
 blank : ∀ (k : Nat) (e' : E), k <= es.length -> ¬ (U k /\ k < es.length) -> es'[k]? = some e' -> e' = ⟨none, .nilp, [], none⟩
 len : es.length < es'.length
 un : ∀ k, (U k /\ k < es.length) \/ es.length < k -> un' k
inductive Tree (P : Program) (g : G) (ops : Array Oper) (Q : Exit -> Act -> World -> Prop) : (Nat -> Option SV) -> (Nat -> Option Blk) -> Nat -> List E -> (Nat -> Prop) -> Prop
 | fin {F0 : Nat -> Option SV} {L0 : Nat -> Option Blk} {n : Nat} {es : List E} {un : Nat -> Prop} {lk : Nat -> List Nat} {mem : Nat -> Nat -> Bool} {bef : Nat -> Nat -> Bool} {nn : Nat -> Nat} (hl : es.length = ops.size) (hF : Fits P g ops es F0 L0 n lk mem bef nn un)
  (hQ : ∀ β a W, Mem g β (LD es (fun _ => true) L0) (PD es (fun _ => true) (fun l => l < n)) W -> Fra g β (FD es (fun _ => true) F0) (PD es (fun _ => true) (fun l => l < n)) a -> Q .normal a W) : Tree P g ops Q F0 L0 n es un
 | cut {F0 : Nat -> Option SV} {L0 : Nat -> Option Blk} {n : Nat} {es : List E} {un : Nat -> Prop} {lk : Nat -> List Nat} {mem : Nat -> Nat -> Bool} {bef : Nat -> Nat -> Bool} {nn : Nat -> Nat} {o : Oper} {F : FF} {L : LL} {n1 : Nat} {U : Nat -> Prop} {R : FF -> LL -> Nat -> Prop}
  (ho : ops[es.length]? = some o) (hg : o.guard = none) (hF : Fits P g ops es F0 L0 n lk mem bef nn un)
  (late : ∀ k, es.length < k -> k < ops.size -> bef k es.length = true) (hU : ∀ k, k < es.length -> bef es.length k = true \/ U k)
  (hsel : ∀ cs b, o.op ≠ .select cs b) (hUe : ∀ (k : Nat) (e : E), U k -> es[k]? = some e -> e.nw = [] /\ e.w = none /\ bd (fun l => l < n1) e.v) (hlk : ∀ t ∈ tmpsL o.op.operands.toList, t ∈ lk es.length)
  (hdN : ∀ (k : Nat) (e : E) (t : Nat), es[k]? = some e -> e.d = some t -> t < g.N)
  (hFF : look F = FD es (fun _ => true) F0) (hLL : find L = LD es (fun _ => true) L0) (hp : ∀ l, PD es (fun _ => true) (fun l => l < n) l -> l < n1) (hS : Step g P o R F L n1)
  (X : FF -> LL -> Nat -> (Nat -> Option SV) × List E × (Nat -> Prop)) (next : ∀ F' L' n', R F' L' n' -> (∀ l b, find L' l = some b -> l < n') -> Later es U F' (X F' L' n').1 (X F' L' n').2.1 (X F' L' n').2.2) (rest : ∀ F' L' n', R F' L' n' -> (∀ l b, find L' l = some b -> l < n') -> Tree P g ops Q (X F' L' n').1 (find L') n' (X F' L' n').2.1 (X F' L' n').2.2) : Tree P g ops Q F0 L0 n es un
theorem fo_same {α : Type} {f : E -> α -> α} {D : Nat -> Bool} : ∀ {es : List E} {s : Nat} {x : α}, (∀ k e, es[k]? = some e -> D (s + k) = true -> ∀ y, f e y = y) -> fo f D s es x = x
 | [], _, _, _ => rfl
 | e :: es, s, x, h => by
   simp only [fo]
   have h0 : (if D s = true then f e x else x) = x := by
    by_cases hD : D s = true
    ·rw [if_pos hD]; exact h 0 e rfl (by simpa using hD) x
    ·rw [if_neg hD]
   rw [h0]
   exact fo_same fun k e' hk hD => h (k + 1) e' (by simpa using hk) (by rw [<- hD]; congr 1; omega)
theorem wp_agree {o : Oper} {a a2 : Act} {W : World} {next next2 : Act -> World -> Prop} {Q : Exit -> Act -> World -> Prop} (hev : (execOp a.eval o).run P W = (execOp a2.eval o).run P W) (h : o.wp P a2 W next2 (fun _ _ _ => False)) (hn : ∀ v W', next2 (a2.put o.dst v) W' -> next (a.put o.dst v) W') (hdef : ∀ b W', next2 b W' -> b.defers = []) : o.wp P a W next Q := by
 unfold Oper.wp at h ⊢
 rw [hev]
 revert h
 generalize (execOp a2.eval o).run P W = r
 intro h
 cases r with
 | ok nx w' =>
   cases nx with
   | value v => exact hn _ _ h
   | skip => exact hn _ _ h
   | defer d =>
     have := hdef _ _ h
     cases hd : o.dst with
     | none => rw [hd] at this; cases this
     | some t => rw [hd] at this; cases this
   | enter f args =>
     refine Calls.mono h fun e w'' he => ?_
     cases e with
     | returned v => exact hn _ _ he
     | panicked _ => exact he.elim
     | outgrown => obtain ⟨_, _, h⟩ := he; exact h.elim
   | row row args =>
     refine Rows.mono h fun v w'' he => ?_
     exact hn _ _ he
   | _ => exact h.elim
 | halt hh w' =>
   cases hh with
   | panic v => exact h.elim
   | _ => exact h.elim
theorem fo_skip {α : Type} {f : E -> α -> α} {D : Nat -> Bool} : ∀ {es : List E} {s : Nat} {x : α}, (∀ k e, es[k]? = some e -> D (s + k) = false -> ∀ y, f e y = y) -> fo f D s es x = fo f (fun _ => true) s es x
 | [], _, _, _ => rfl
 | e :: es, s, x, h => by
   simp only [fo]
   have h0 : (if D s = true then f e x else x) = f e x := by
    by_cases hD : D s = true
    ·rw [if_pos hD]
    ·rw [if_neg hD, h 0 e rfl (by simpa using hD) x]
   rw [h0, if_pos trivial]
   exact fo_skip fun k e' hk hD => h (k + 1) e' (by simpa using hk) (by rw [<- hD]; congr 1; omega)
theorem eval_agree {a a2 : Act} {xs : Array Operand} (h : ∀ t ∈ tmpsL xs.toList, a.tmps[t]? = a2.tmps[t]?) : ∀ x ∈ xs, a.eval x = a2.eval x := by
 intro x hx
 cases x with
 | tmp t =>
   have := h t (tmpsL_mem (x := .tmp t) (by simpa using hx) (by simp [tmpOf]))
   simp only [Act.eval, Array.getD_eq_getD_getElem?, this]
 | _ => rfl
theorem ft_cases {D : Nat -> Bool} {t : Nat} {v : SV} : ∀ {es : List E} {s : Nat} {x : Option SV}, fo (ft t) D s es x = some v -> (∃ k e, es[k]? = some e /\ D (s + k) = true /\ e.d = some t /\ e.v = v) \/ x = some v
 | [], _, _, h => Or.inr h
 | e :: es, s, x, h => by
   simp only [fo] at h
   rcases ft_cases h with ⟨k, e', h1, h2, h3⟩ | h
   ·exact Or.inl ⟨k + 1, e', by simpa using h1, by rw [<- h2]; congr 1; omega, h3⟩
   ·by_cases hD : D s = true
    ·rw [if_pos hD] at h
     unfold ft at h
     by_cases ht : e.d = some t
     ·rw [if_pos ht] at h
      exact Or.inl ⟨0, e, rfl, hD, ht, Option.some.inj h⟩
     ·rw [if_neg ht] at h; exact Or.inr h
    ·rw [if_neg hD] at h; exact Or.inr h
theorem catch_up {ops : Array Oper} {es : List E} {F0 : Nat -> Option SV} {L0 : Nat -> Option Blk} {n : Nat} {lk : Nat -> List Nat} {mem : Nat -> Nat -> Bool} {bef : Nat -> Nat -> Bool} {nn : Nat -> Nat} {un : Nat -> Prop} (hF : Fits P g ops es F0 L0 n lk mem bef nn un) (hdN : ∀ (k : Nat) (e : E) (t : Nat), es[k]? = some e -> e.d = some t -> t < g.N)
 {D : Nat -> Bool} {β : Nat -> Nat} {p : Nat -> Prop} (hun : ∀ (k : Nat) (e : E), D k = false -> es[k]? = some e -> bd p e.v) {a : Act} (hf : Fra g β (FD es D F0) p a) : ∀ j, j <= es.length ->
 ∃ a2 : Act, Fra g β (FD es (fun k => D k || decide (k < j)) F0) p a2 /\ a2.defers = a.defers /\ ∀ t, (∀ (k : Nat) (e : E), D k = false -> es[k]? = some e -> e.d ≠ some t) -> a2.tmps[t]? = a.tmps[t]? := by
 intro j
 induction j with
 | zero => exact fun _ => ⟨a, by simpa using hf, rfl, fun _ _ => rfl⟩
 | succ j ih =>
   intro hj
   obtain ⟨a2, h1, h2, h3⟩ := ih (by omega)
   cases hD : D j with
   | true =>
     refine ⟨a2, ?_, h2, h3⟩
     have : (fun k => D k || decide (k < j + 1)) = fun k => D k || decide (k < j) := funext fun k => by
      by_cases hk : k = j
      ·subst hk; simp [hD]
      ·have : decide (k < j + 1) = decide (k < j) := decide_eq_decide.2 (by omega)
       rw [this]
     rw [this]; exact h1
   | false =>
     have he : es[j]? = some (es[j]'(by omega)) := List.getElem?_eq_getElem _
     generalize hee : es[j]'(by omega) = e at he
     refine ⟨a2.put e.d (den β e.v), ?_, ?_, ?_⟩
     ·have : (fun k => D k || decide (k < j + 1)) = add (fun k => D k || decide (k < j)) j := funext fun k => by
       simp only [add]
       by_cases hk : k = j
       ·subst hk; simp
       ·rw [if_neg hk]
        have : decide (k < j + 1) = decide (k < j) := decide_eq_decide.2 (by omega)
        rw [this]
      rw [this, FD_add hF he (by simp [hD])]
      exact h1.put (fun t ht => hdN j e t he ht) (hun j e hD he)
     ·rw [<- h2]
      cases e.d <;> rfl
     ·intro t ht
      rw [<- h3 t ht]
      have hne := ht j e hD he
      cases hd : e.d with
      | none => rfl
      | some t' =>
        rw [hd] at hne
        simp only [Act.put]
        rw [Array.getElem?_setIfInBounds_ne (fun e => hne (by rw [e]))]
theorem wpAny_tree {ops : Array Oper} {Q : Exit -> Act -> World -> Prop} :
 ∀ (fuel : Nat) {F0 : Nat -> Option SV} {L0 : Nat -> Option Blk} {n : Nat} {es : List E} {un : Nat -> Prop}, Tree P g ops Q F0 L0 n es un -> ∀ (ls : Array Bool) (a : Act) (W : World) (β : Nat -> Nat), ls.size = ops.size -> ls.toList.count false = fuel -> Closed ops (fun i => ls.getD i false) ->
   (∀ i, i < es.length -> ¬ un i -> ls.getD i false = true) -> (∀ i, ls.getD i false = true -> i < es.length) ->
   Mem g β (LD es (fun i => ls.getD i false) L0) (PD es (fun i => ls.getD i false) (fun l => l < n)) W -> Fra g β (FD es (fun i => ls.getD i false) F0) (PD es (fun i => ls.getD i false) (fun l => l < n)) a -> wpAny P .any ops Q fuel ls a W := by
 intro fuel
 induction fuel with
 | zero =>
   intro F0 L0 n es un h ls a W β hs hc hcl hsk hbd hm hf
   have hall := all_listed hs hc
   cases h with
   | fin hl hF hQ =>
     refine ⟨none_ready hs hall, ?_⟩
     obtain ⟨e1, e2, e3⟩ := mono_D (es := es) (F0 := F0) (L0 := L0) (n := n) (D := fun i => ls.getD i false) (D' := fun _ => true) fun k hk => hall k (by omega)
     rw [e1, e3] at hf
     rw [e2, e3] at hm
     exact hQ β a W hm hf
   | cut ho hg hF late hU hsel hUe hlk hdN hFF hLL hp hS X next rest =>
     have := hbd _ (hall es.length (Array.getElem?_eq_some_iff.1 ho).1)
     omega
 | succ fuel ih =>
   intro F0 L0 n es un h ls a W β hs hc hcl hsk hbd hm hf
   have hin := listed_lt hs
   have hgo : ∀ {lk : Nat -> List Nat} {mem : Nat -> Nat -> Bool} {bef : Nat -> Nat -> Bool} {nn : Nat -> Nat}, Fits P g ops es F0 L0 n lk mem bef nn un -> ∀ i ∈ Region.ready .any ops ls, i < es.length -> wpOp P ops Q i (wpAny P .any ops Q fuel (ls.setIfInBounds i true)) a W := by
    intro lk mem bef nn hF i hi hil
    obtain ⟨hDi, o, ho, hall⟩ := unlisted hs hi
    have hio : i < ops.size := (Array.getElem?_eq_some_iff.1 ho).1
    have hset := set_add hs hio
    have hui : un i := Classical.byContradiction fun hn => by rw [hsk i hil hn] at hDi; cases hDi
    refine fits_step hF hcl hin ho hall hDi hil hui hm hf fun γ a' W' hm' hf' => ih h _ a' W' γ (by simpa using hs) (set_count hs hio hDi hc) ?_ ?_ ?_ ?_ ?_
    ·rw [hset]; exact closed_add hcl ho hall
    ·intro k hk hn
     rw [congrFun hset k]
     simp only [add]
     split
     ·rfl
     ·exact hsk k hk hn
    ·intro k hk
     rw [congrFun hset k] at hk
     simp only [add] at hk
     by_cases hki : k = i
     ·omega
     ·rw [if_neg hki] at hk; exact hbd k hk
    ·rw [hset]; exact hm'
    ·rw [hset]; exact hf'
   have hh := h
   cases h with
   | fin hl hF hQ =>
     refine ⟨fun hr => (some_ready hs hF.back hc hr).elim, fun i hi => ?_⟩
     obtain ⟨hDi, o, ho, hall⟩ := unlisted hs hi
     exact hgo hF i hi (by have := (Array.getElem?_eq_some_iff.1 ho).1; omega)
   | @cut _ _ _ _ _ lk mem bef nn o F L n1 U R ho hg hF late hU hsel hUe hlk hdN hFF hLL hp hS X next rest =>
     refine ⟨fun hr => (some_ready hs hF.back hc hr).elim, fun i hi => ?_⟩
     obtain ⟨hDi, o', ho', hall⟩ := unlisted hs hi
     have hio : i < ops.size := (Array.getElem?_eq_some_iff.1 ho').1
     rcases Nat.lt_trichotomy i es.length with hlt | rfl | hgt
     ·exact hgo hF i hi hlt
     ·rw [ho] at ho'
      obtain rfl := Option.some.inj ho'
      have hpre : ∀ k, bef es.length k = true -> ls.getD k false = true := fun k hk => ready_bef hF hcl hin ho hall hk
      have hUn : ∀ k, ls.getD k false = false -> k < es.length -> U k := fun k hk hkl => by
       rcases hU k hkl with h1 | h1
       ·rw [hpre k h1] at hk; cases hk
       ·exact h1
      have hPD : ∀ l, PD es (fun i => ls.getD i false) (fun l => l < n) l -> l < n1 := by
       intro l hl
       refine hp l ?_
       rcases PD_iff.1 hl with h1 | ⟨k, e, h1, _, h2⟩
       ·exact PD_iff.2 (Or.inl h1)
       ·exact PD_iff.2 (Or.inr ⟨k, e, h1, rfl, h2⟩)
      have hf1 : Fra g β (FD es (fun i => ls.getD i false) F0) (fun l => l < n1) a := hf.mono (fun _ _ => rfl) hPD
      obtain ⟨a2, hf2, hdf, hag⟩ := catch_up hF hdN (D := fun i => ls.getD i false) (p := fun l => l < n1) (fun k e hk he => (hUe k e (hUn k hk (List.getElem?_eq_some_iff.1 he).1) he).2.2) hf1 es.length (Nat.le_refl _)
      have hall2 : FD es (fun k => ls.getD k false || decide (k < es.length)) F0 = look F := by
       rw [hFF]
       exact (mono_D (L0 := L0) (n := n) fun k hk => by simp [hk]).1
      rw [hall2] at hf2
      have hm2 : Mem g β (find L) (fun l => l < n1) W := by
       have e2 : LD es (fun i => ls.getD i false) L0 = find L := by
        rw [hLL]
        funext l
        simp only [LD]
        refine (fo_skip (es := es) (s := 0) (D := fun i => ls.getD i false) fun k e he hk y => ?_)
        rw [Nat.zero_add] at hk
        obtain ⟨h1, h2, _⟩ := hUe k e (hUn k hk (List.getElem?_eq_some_iff.1 he).1) he
        unfold gl
        rw [h1, h2]
        cases y <;> rfl
       rw [e2] at hm
       exact hm.pmono hPD
      have hst : St g F L n1 a2 W := ⟨β, hm2, hf2⟩
      have hag2 : ∀ t ∈ tmpsL o.op.operands.toList, a.tmps[t]? = a2.tmps[t]? := fun t ht => (hag t fun k e hk he hd => by
       have hkl := (List.getElem?_eq_some_iff.1 he).1
       rcases hF.look es.length k e t hio he (by omega) hd (hlk t ht) with ⟨_, h1⟩ | ⟨h1, _⟩
       ·have h2 := hpre k h1
        rw [h2] at hk; cases hk
       ·omega).symm
      have hev : (execOp a.eval o).run P W = (execOp a2.eval o).run P W := by
       rw [execOp_congr o hsel (eval_agree hag2)]
      unfold wpOp
      simp only [ho, Region.wanted, hg, if_true]
      left
      refine wp_agree hev (hS.run a2 W hst (fun b W' => b.defers = [] /\ ∀ v, b = a2.put o.dst v -> wpAny P .any ops Q fuel (ls.setIfInBounds es.length true) (a.put o.dst v) W') _ ?_) (fun v W' h => h.2 v rfl) (fun b W' h => h.1)
      rintro F' L' n' b W' hR ⟨γ, hm3, hf3⟩
      refine ⟨hf3.defs, fun v hb => ?_⟩
      subst hb
      have hL' : ∀ l b, find L' l = some b -> l < n' := fun l b hb => (hm3.bL l b hb).1
      obtain ⟨k1, k2, k4, k5, k6, k7⟩ := next F' L' n' hR hL'
      have hT := rest F' L' n' hR hL'
      revert k1 k2 k4 k5 k6 k7 hT
      generalize (X F' L' n').1 = F1
      generalize (X F' L' n').2.1 = es'
      generalize (X F' L' n').2.2 = un'
      intro k1 k2 k4 k5 k6 k7 hT
      have hset := set_add hs hio
      have hD' : ∀ k, (add (fun k => ls.getD k false) es.length) k = true -> k <= es.length := by
       intro k hk
       simp only [add] at hk
       by_cases h1 : k = es.length
       ·omega
       ·rw [if_neg h1] at hk
        have := hbd k hk
        omega
      have hnoeff : ∀ (k : Nat) (e' : E), es'[k]? = some e' -> (add (fun k => ls.getD k false) es.length) k = true -> e'.nw = [] /\ e'.w = none := by
       intro k e' he' hk
       have hk2 := hD' k hk
       by_cases hUk : U k /\ k < es.length
       ·have he : es[k]? = some (es[k]'hUk.2) := List.getElem?_eq_getElem _
        exact (k4 k _ e' hUk.1 he he').2.2
       ·rw [k5 k e' hk2 hUk he']; exact ⟨rfl, rfl⟩
      refine ih hT _ _ W' γ (by simpa using hs) (set_count hs hio hDi hc) ?_ ?_ ?_ ?_ ?_
      ·rw [hset]; exact closed_add hcl ho hall
      ·intro k hk hn
       rw [congrFun hset k]
       simp only [add]
       split
       ·rfl
       ·rename_i hne
        have h1 : ¬ ((U k /\ k < es.length) \/ es.length < k) := fun h => hn (k7 k h)
        have hkl : k < es.length := by
         rcases Nat.lt_trichotomy k es.length with h2 | h2 | h2
         ·exact h2
         ·exact (hne h2).elim
         ·exact (h1 (Or.inr h2)).elim
        rcases hU k hkl with h2 | h2
        ·exact hpre k h2
        ·exact (h1 (Or.inl ⟨h2, hkl⟩)).elim
      ·intro k hk
       rw [congrFun hset k] at hk
       have := hD' k hk
       omega
      ·rw [hset]
       have e2 : LD es' (add (fun k => ls.getD k false) es.length) (find L') = find L' := by
        funext l
        refine fo_same fun k e' he' hk y => ?_
        rw [Nat.zero_add] at hk
        obtain ⟨h1, h2⟩ := hnoeff k e' he' hk
        unfold gl
        rw [h1, h2]
        cases y <;> rfl
       rw [e2]
       exact hm3.pmono fun l hl => PD_iff.2 (Or.inl hl)
      ·rw [hset]
       have key : ∀ t w, FD es' (add (fun k => ls.getD k false) es.length) F1 t = some w -> look F' t = some w /\ (∀ (k : Nat) (e : E), ls.getD k false = false -> es[k]? = some e -> e.d ≠ some t) := by
        intro t w hw
        rcases ft_cases hw with ⟨k, e', h1, h2, h3, h4⟩ | h1
        ·rw [Nat.zero_add] at h2
         have hk2 := hD' k h2
         by_cases hUk : U k /\ k < es.length
         ·have he : es[k]? = some (es[k]'hUk.2) := List.getElem?_eq_getElem _
          obtain ⟨q1, q2, _⟩ := k4 k _ e' hUk.1 he h1
          have q3 := (k1 k _ t hUk.1 he (by rw [<- q1]; exact h3)).1
          refine ⟨by rw [q3, <- q2, h4], fun j ej hj hej hd => ?_⟩
          have hjk : j ≠ k := by
           rintro rfl
           simp only [add] at h2
           rw [if_neg (by omega), hj] at h2
           cases h2
          exact hF.dst k j _ ej t he hej (fun e => hjk e.symm) (by rw [<- q1]; exact h3) hd
         ·rw [k5 k e' hk2 hUk h1] at h3; cases h3
        ·refine ⟨k2 t w h1, fun j ej hj hej hd => ?_⟩
         have := (k1 j ej t (hUn j hj (List.getElem?_eq_some_iff.1 hej).1) hej hd).2
         rw [this] at h1; cases h1
       refine ⟨?_, ?_, ?_, ?_⟩
       ·rw [<- hf.size]
        cases o.dst <;> simp [Act.put]
       ·have := hf.defs
        cases o.dst <;> simpa [Act.put] using this
       ·intro t w hw
        exact bd_mono (fun l hl => PD_iff.2 (Or.inl hl)) w (hf3.bF t w (key t w hw).1)
       ·intro t w hw
        obtain ⟨h1, h2⟩ := key t w hw
        have h3 := hf3.fr t w h1
        have h4 := hag t h2
        rw [<- h3]
        cases hd : o.dst with
        | none => simp only [Act.put]; exact h4.symm
        | some t' =>
          simp only [Act.put]
          by_cases htt : t' = t
          ·subst htt
           have hsz : a.tmps.size = a2.tmps.size := by rw [hf.size, hf2.size]
           simp only [Array.getElem?_setIfInBounds, if_true, hsz]
          ·rw [Array.getElem?_setIfInBounds_ne htt, Array.getElem?_setIfInBounds_ne htt, h4]
     ·exfalso
      have := ready_bef hF hcl hin ho' hall (late i hgt hio)
      have := hbd _ this
      omega
theorem reg_gen (hT : TOk P T) {n0 : Nat} {ms : List Nat} (h0 : g.n0 = n0) (h1 : g.ms = ms) (hmix : P.follows .mixedOrders = true) {id : Nat} {ops : Array Oper} {fl : Nat -> Option Nat} {ck : Nat -> Nat -> Bool} (hE : Edges ops.toList (maskL [] ops.toList) fl ck) (hd : ∀ o ∈ ops.toList, ∀ t, o.dst = some t -> t < g.N) {K : FF -> LL -> Nat -> Prop} {F : FF} {L : LL} {n : Nat}
 (hfl : ∀ i a, fl i = some a -> ∃ o t x, ops.toList[i]? = some o /\ o.op = .load t (.tmp x) /\ (∀ o' ∈ ops.toList, o'.dst ≠ some x) /\ labS (look F) x = some a)
 (h : vcD T Ar.real P g n0 ms ck ops.toList (maskL [] ops.toList) K ops.toList 0 F L [] n) : Reg g P id ops K F L n := by
 subst h0 h1
 refine ⟨?_⟩
 rintro a W ⟨β, hm, hf⟩
 have hbL : ∀ l b, find L l = some b -> l < n := fun l b hb => (hm.bL l b hb).1
 have told0 : Told [] F L n F L [] n := by
  refine ⟨rfl, fun D l _ => ?_, fun k b hb => (by cases hb), List.nodup_nil, hbL, Nat.le_refl n, fun k e hk => (by simp at hk)⟩
  simp [LD, fo, filP]
 obtain ⟨sk0, hsk0⟩ : ∃ s : Nat -> Bool, s = fun _ => false := ⟨_, rfl⟩
 rw [vcD_eq, <- hsk0] at h
 obtain ⟨es, F', B', N', n', nnf, k1, k2, k3, k4, k5⟩ := vcT_run (g := g) (P := P) (T := T) hE hfl ops.toList [] F L [] n ⟨[], by simp⟩ told0 (fun k e hk => by simp at hk) h
 simp only [List.nil_append, List.length_nil, Nat.zero_add] at k2 k5
 have hlen : es.length = ops.size := by rw [k1]; simp
 have hF := fits_of hT hE hd hbL (Nat.le_of_eq hlen) k4 k5 hfl
 have e0 : ∀ k, (Array.replicate ops.size false).getD k false = false := fun k => getD_replicate_false _ _
 refine wp_region_any hmix (wpAny_tree ops.size (Tree.fin hlen hF ?_) (Array.replicate ops.size false) a _ β (by simp) (by simp) (fun i o hi => ?_) (fun i _ h => (h (by rw [hsk0])).elim) (fun i hi => ?_) ?_ ?_)
 ·intro γ a' W' hm' hf'
  have e1 : LD es (fun _ => true) (find L) = find (B' ++ allN N') := by
   funext l
   rw [k2.bl (fun _ => true) l (fun _ _ _ _ _ _ => rfl), allN_eq]
  have hPD : ∀ l, PD es (fun _ => true) (fun l => l < n) l -> l < n' := by
   intro l hl
   rcases PD_iff.1 hl with h | ⟨k, e, hk, _, b, hb, rfl⟩
   ·have := k2.le; omega
   ·exact k2.pd k e hk b hb
  refine ⟨F', B' ++ allN N', n', k3, γ, ?_, ?_⟩
  ·rw [<- e1]; exact hm'.pmono hPD
  ·rw [k2.fr]; exact hf'.mono (fun _ _ => rfl) hPD
 ·have h2 : (Array.replicate ops.size false).getD i false = true := hi
  rw [e0] at h2; cases h2
 ·rw [e0] at hi; cases hi
 ·have e1 : LD es (fun i => (Array.replicate ops.size false).getD i false) (find L) = find L := funext fun l => fo_false e0
  have e2 : PD es (fun i => (Array.replicate ops.size false).getD i false) (fun l => l < n) = fun l => l < n := funext fun l => fo_false e0
  rw [e1, e2]; exact hm.drawn
 ·have e1 : FD es (fun i => (Array.replicate ops.size false).getD i false) (look F) = look F := funext fun l => fo_false e0
  have e2 : PD es (fun i => (Array.replicate ops.size false).getD i false) (fun l => l < n) = fun l => l < n := funext fun l => fo_false e0
  rw [e1, e2]; exact hf
theorem reg_of (hT : TOk P T) {n0 : Nat} {ms : List Nat} (h0 : g.n0 = n0) (h1 : g.ms = ms) (hmix : P.follows .mixedOrders = true) {id : Nat} {ops : Array Oper} (hB : drawB ops.toList = true) (hd : ∀ o ∈ ops.toList, ∀ t, o.dst = some t -> t < g.N) {K : FF -> LL -> Nat -> Prop} {F : FF} {L : LL} {n : Nat}
 (h : vcD T Ar.real P g n0 ms (fun _ _ => true) ops.toList (maskL [] ops.toList) K ops.toList 0 F L [] n) : Reg g P id ops K F L n :=
 reg_gen hT h0 h1 hmix (Edges.of hB) hd (fun i a h => by cases h) h
theorem freeL_spec {all : List Oper} {o : Oper} {t : Nat} (h : freeL all o = some t) : (∃ ty, o.op = .load ty (.tmp t)) /\ ∀ o' ∈ all, o'.dst ≠ some t := by
 unfold freeL at h
 split at h
 ·rename_i ty t' hop
  split at h
  ·rename_i hall
   obtain rfl := Option.some.inj h
   refine ⟨⟨ty, hop⟩, fun o' ho' hd => ?_⟩
   have := List.all_eq_true.1 hall o' ho'
   rw [hd] at this
   simp at this
  ·cases h
 ·cases h
theorem reg_C (hT : TOk P T) {n0 : Nat} {ms : List Nat} (h0 : g.n0 = n0) (h1 : g.ms = ms) (hmix : P.follows .mixedOrders = true) {id : Nat} {ops : Array Oper} (hB : drawC ops.toList = true) (hd : ∀ o ∈ ops.toList, ∀ t, o.dst = some t -> t < g.N) {K : FF -> LL -> Nat -> Prop} {F : FF} {L : LL} {n : Nat}
 (h : vcD T Ar.real P g n0 ms (ckC ops.toList (maskL [] ops.toList) (look F)) ops.toList (maskL [] ops.toList) K ops.toList 0 F L [] n) : Reg g P id ops K F L n := by
 refine reg_gen hT h0 h1 hmix (Edges.ofC (F := look F) hB) hd (fun i a hfa => ?_) h
 unfold frL at hfa
 cases ho : ops.toList[i]? with
 | none => rw [ho] at hfa; cases hfa
 | some o =>
   rw [ho] at hfa
   simp only at hfa
   cases hf : freeL ops.toList o with
   | none => rw [hf] at hfa; cases hfa
   | some t =>
     rw [hf] at hfa
     obtain ⟨⟨ty, hop⟩, h2⟩ := freeL_spec hf
     exact ⟨o, ty, t, rfl, hop, h2, hfa⟩
end
end Go.Vg
end
section
namespace Go.Vg
open Go.RowKit
theorem callee_congr {F F' : Nat -> Option SV} {o : Oper} {c : Call} (ho : o.op = .call c) (h : ∀ t ∈ tmpsL o.op.operands.toList, F' t = F t) : callee F' c = callee F c := by
 rw [ho] at h
 have E : ∀ x ∈ (Op.call c).operands.toList, ev F' x = ev F x := fun x hx => ev_congr fun t ht => h t (tmpsL_mem hx ht)
 unfold callee
 split
 ·rename_i f hf
  have h1 : ev F' f = ev F f := E f (by simp [Op.operands, Call.operands, hf])
  have h2 : evs F' c.args.toList = evs F c.args.toList := evs_congr fun x hx => E x (by
   simp only [Op.operands, Call.operands, Array.toList_append, List.mem_append]
   exact Or.inr hx)
  rw [h1, h2]
 ·rfl
theorem foot_mono {ρ : Nat -> Nat} {M L : Nat -> Option Blk} (h : ∀ l b, M l = some b -> L l = some b) : ∀ {Lp : LL}, foot ρ M Lp -> foot ρ L Lp
 | [], _ => trivial
 | _ :: _, hf => ⟨h _ _ hf.1, foot_mono h hf.2⟩
section
variable {P : Program} {g : G}
theorem en_val {o : Oper} {c : Call} (ho : o.op = .call c) {m0 N : Nat} {ms : List Nat} (hg : GI g m0 ms N) (hd' : dstLt N o.dst = true) {F : Nat -> Option SV} {f : FuncId} {args : List SV} (hc : callee F c = some (f, args)) {R : SV -> LL -> Nat -> Prop} (hcon : Con P f args [] 0 [] R)
 {M : Nat -> Option Blk} {val : SV} (hv : ∀ v L1 n1, R v L1 n1 -> v = val) (hb0 : bd (fun _ => False) val) : EN g P o F M val [] := by
 have hd := hg.dst hd'
 obtain ⟨hcb, hcon⟩ := hcon
 refine EN.of_step fun β p F' L' a W hF hM hm hf next Q hnext => ?_
 obtain ⟨r1, r2⟩ := callee_run (P := P) (W := W) hf ho ((callee_congr ho hF).trans hc) hcb
 unfold Oper.wp
 rw [r1, Oper.upon_enter]
 refine (hcon β W ⟨fun b h => (by cases h), fun b h => (by cases h)⟩).mono ?_
 rintro e W' ⟨v, L1, n1, β1, hR, rfl, _, hm1⟩
 obtain rfl := hv v L1 n1 hR
 have hvd : den β1 v = den β v := den_congr (p := fun _ => False) (fun l hl => hl.elim) v hb0
 simp only [hvd]
 exact hnext _ _ (hm.call hm1.up (by rintro k ⟨l, hl, _⟩; cases hl)) (hf.put hd (bd_mono (fun l h => h.elim) v hb0))
theorem en_roc {o : Oper} {c : Call} (ho : o.op = .call c) {m0 N : Nat} {ms : List Nat} (hg : GI g m0 ms N) (hd' : dstLt N o.dst = true) {F : Nat -> Option SV} {f : FuncId} {us args : List SV} (hc : callee F c = some (f, us)) {Lp : LL} {n0 : Nat} {R : SV -> LL -> Nat -> Prop} (hcon : Con P f args Lp n0 [] R)
 (ρ : Nat -> Nat) (hus : us = renL ρ args) {M : Nat -> Option Blk} (hft : foot ρ M Lp) {val : SV} (hv : ∀ v L1 n1, R v L1 n1 -> v = val) (hb0 : bd (fun _ => False) val) : EN g P o F M val [] := by
 have hd := hg.dst hd'
 obtain ⟨hcb, hcon⟩ := hcon
 refine EN.of_step fun β p F' L' a W hF hM hm hf next Q hnext => ?_
 obtain ⟨r1, r2⟩ := callee_run (P := P) (W := W) hf ho ((callee_congr ho hF).trans hc) hcb
 unfold Oper.wp
 rw [r1, Oper.upon_enter]
 have hden : denL β us = denL (fun l => β (ρ l)) args := by rw [hus, denL_ren]
 have hft' := foot_mono hM hft
 rw [hden]
 refine (hcon (fun l => β (ρ l)) W (foot_pre hm hft' (injB_nil ρ Lp) (fun m h => by cases h))).mono ?_
 rintro e W' ⟨v, L1, n1, β1, hR, rfl, _, hm1⟩
 obtain rfl := hv v L1 n1 hR
 have hvd : den β1 v = den β v := den_congr (p := fun _ => False) (fun l hl => hl.elim) v hb0
 simp only [hvd]
 exact hnext _ _ (hm.call hm1.up (by rintro k ⟨l, hl, _⟩; cases hl)) (hf.put hd (bd_mono (fun l h => h.elim) v hb0))
theorem stepD {o : Oper} {F : FF} {M : LL} {n : Nat} {K : SV -> LL -> Nat -> Prop} {v : SV} (h : EN g P o (look F) (selM o (find M)) v []) (hk : K v [] n) : StepD g P o F M n K :=
 ⟨v, [], n, h, Nat.le_refl n, fun b hb => (by cases hb), List.nodup_nil, hk⟩
theorem Con.weak {f : FuncId} {args : List SV} {Lp : LL} {n0 : Nat} {ms : List Nat} {R R' : SV -> LL -> Nat -> Prop} (h : Con P f args Lp n0 ms R) (hw : ∀ v L n, R v L n -> ∃ (ρ : Nat -> Nat) (v' : SV) (L' : LL) (n' : Nat), Weak n0 ρ [(0, v')] L' n' [(0, v)] L n /\ R' v' L' n') : Con P f args Lp n0 ms R' := by
 refine ⟨h.1, fun β0 W0 hpre => (h.2 β0 W0 hpre).mono ?_⟩
 rintro e W ⟨v, L, n, β, hR, rfl, hbv, hm⟩
 obtain ⟨ρ, v', L', n', ⟨hF, hL, hni, hn, hb⟩, hR'⟩ := hw v L n hR
 have h0 := wkF_look (t := 0) (v := v') hF rfl
 have hv : v = ren ρ v' := Option.some.inj h0.1
 refine ⟨v', L', n', fun l => β (ρ l), hR', ?_, h0.2, hm.weak hL hni hn hb⟩
 rw [hv, den_ren]
theorem Con.calls {f : FuncId} {args : List SV} {R : SV -> LL -> Nat -> Prop} (h : Con P f args [] 0 [] R) {val : SV} (hv : ∀ v L n, R v L n -> v = val) (hb0 : bd (fun _ => False) val) (W : World) : Calls P f (denL id args).toArray W fun e W' => e = .returned (den id val) /\ Below W.heap.size W W' := by
 refine (h.2 id W ⟨fun b h => (by cases h), fun b h => (by cases h)⟩).mono ?_
 rintro e W' ⟨v, L, n, β, hR, rfl, hbv, hm⟩
 obtain rfl := hv v L n hR
 rw [den_congr (p := fun _ => False) (β := id) (γ := β) (fun l hl => hl.elim) v hb0]
 exact ⟨rfl, hm.up.os, hm.up.tape, hm.up.output, hm.up.size, fun k hk => hm.up.block k hk (by rintro ⟨l, hl, _⟩; cases hl)⟩
end
end Go.Vg
end
section
namespace Go.Vg
open Go.RowKit
mutual
/-- its labels are below m -/
def bdB (m : Nat) : SV -> Bool
 | .ptr l _ | .ptrS l _ | .slice l _ _ _ => Nat.blt l m
 | .fn _ a b => bdLB m a && bdLB m b
 | .agg cs => bdLB m cs
 | .tup vs => bdLB m vs
 | _ => true
def bdLB (m : Nat) : List SV -> Bool
 | [] => true
 | v :: vs => bdB m v && bdLB m vs
end
theorem blt_lt {a b : Nat} (h : Nat.blt a b = true) : a < b := Nat.le_of_ble_eq_true h
mutual
theorem bdB_bd {m : Nat} : ∀ v, bdB m v = true -> bd (fun l => l < m) v
 | .bool _, _ | .int _ _, _ | .str _, _ | .nilp, _ | .nils, _ | .nilfn, _ | .raw _, _ => trivial
 | .ptr _ _, h | .ptrS _ _, h | .slice _ _ _ _, h => blt_lt (by simpa only [bdB] using h)
 | .fn _ a b, h => by
   simp only [bdB, Bool.and_eq_true] at h
   exact ⟨bdLB_bd a h.1, bdLB_bd b h.2⟩
 | .agg cs, h => bdLB_bd cs (by simpa only [bdB] using h)
 | .tup vs, h => bdLB_bd vs (by simpa only [bdB] using h)
theorem bdLB_bd {m : Nat} : ∀ l, bdLB m l = true -> bdL (fun l => l < m) l
 | [], _ => trivial
 | v :: vs, h => by
   simp only [bdLB, Bool.and_eq_true] at h
   exact ⟨bdB_bd v h.1, bdLB_bd vs h.2⟩
end
mutual
theorem ren_id : ∀ v, ren id v = v
 | .bool _ | .int _ _ | .str _ | .nilp | .nils | .nilfn | .raw _ => rfl
 | .ptr _ _ | .ptrS _ _ | .slice _ _ _ _ => rfl
 | .fn _ a b => by rw [ren, renL_id a, renL_id b]
 | .agg cs => by rw [ren, renL_id cs]
 | .tup vs => by rw [ren, renL_id vs]
theorem renL_id : ∀ l, renL id l = l
 | [] => rfl
 | v :: vs => by rw [renL, ren_id v, renL_id vs]
end
def wkF1 (m : Nat) (F : FF) : FF -> Prop
 | [] => True
 | (t, v) :: F' => look F t = some v /\ bdB m v = true /\ wkF1 m F F'
def wkL1 (m : Nat) (L : LL) : LL -> Prop
 | [] => True
 | b :: L' => find L b.l = some b /\ Nat.blt b.l m = true /\ bdLB m b.cs = true /\ wkL1 m L L'
theorem wkF_of1 {m : Nat} {F : FF} : ∀ {F' : FF}, wkF1 m F F' -> wkF id m F F'
 | [], _ => trivial
 | (t, v) :: F', h => ⟨by rw [ren_id]; exact h.1, bdB_bd _ h.2.1, wkF_of1 h.2.2⟩
theorem wkL_of1 {n0 m : Nat} {L : LL} : ∀ {L' : LL}, wkL1 m L L' -> wkL id n0 m L L'
 | [], _ => trivial
 | b :: L', h => ⟨by rw [renL_id]; exact h.1, h.2.1, by
     rcases Nat.lt_or_ge b.l n0 with h1 | h1
     ·rw [show Nat.blt b.l n0 = true from Nat.ble_eq_true_of_le h1]; rfl
     ·rw [show Nat.ble n0 (id b.l) = true from Nat.ble_eq_true_of_le h1, Bool.or_true], bdLB_bd _ h.2.2.1, wkL_of1 h.2.2.2⟩
theorem below_of {f : Nat -> Bool} (h : ∀ l, f l = true) : ∀ n, below f n = true
 | 0 => rfl
 | n + 1 => by rw [below, h n, below_of h n]; rfl
theorem weak_id {n0 n' : Nat} {F F' : FF} {L L' : LL} {n : Nat} (hF : wkF1 n' F F') (hL : wkL1 n' L L') (hd : ndN (L'.map Blk.l) = true) (hn : Nat.ble n0 n' = true) : Weak n0 id F' L' n' F L n :=
 ⟨wkF_of1 hF, wkL_of1 hL, hd, hn, below_of (fun l => Nat.beq_refl l) n0⟩
/-- the same loop head, all parts by looking -/
theorem wkid {n0 n' : Nat} {F F' : FF} {L L' : LL} {n : Nat} (hF : wkF1 n' F F' := by repeat' (first | exact trivial | refine ⟨rfl, rfl, ?_⟩)) (hL : wkL1 n' L L' := by repeat' (first | exact trivial | refine ⟨rfl, rfl, rfl, ?_⟩)) (hd : ndN (L'.map Blk.l) = true := by rfl) (hn : Nat.ble n0 n' = true := by rfl) : Weak n0 id F' L' n' F L n :=
 weak_id hF hL hd hn
theorem wkih {n0 n' : Nat} {F F' : FF} {L L' : LL} {n : Nat} (hL : wkL1 n' L L') (hF : wkF1 n' F F' := by repeat' (first | exact trivial | refine ⟨rfl, rfl, ?_⟩)) (hd : ndN (L'.map Blk.l) = true := by rfl) (hn : Nat.ble n0 n' = true := by rfl) : Weak n0 id F' L' n' F L n :=
 weak_id hF hL hd hn
def lst (K : IntKind) (f : Nat -> Int) : Nat -> Nat -> List SV
 | _, 0 => []
 | s, n + 1 => .int K (f s) :: lst K f (s + 1) n
theorem lst_length (K : IntKind) (f : Nat -> Int) : ∀ s n, (lst K f s n).length = n
 | _, 0 => rfl
 | s, n + 1 => by rw [lst, List.length_cons, lst_length]
theorem lst_get (K : IntKind) (f : Nat -> Int) {k : Nat} : ∀ {s n : Nat}, k < n -> (lst K f s n)[k]? = some (.int K (f (s + k))) := by
 induction k with
 | zero => intro s n h; cases n with
   | zero => omega
   | succ n => rfl
 | succ k ih => intro s n h; cases n with
   | zero => omega
   | succ n => rw [lst, List.getElem?_cons_succ, ih (by omega), show s + 1 + k = s + (k + 1) by omega]
theorem lst_congr {K : IntKind} {f g : Nat -> Int} : ∀ {s n : Nat}, (∀ j, s <= j -> j < s + n -> f j = g j) -> lst K f s n = lst K g s n
 | _, 0, _ => rfl
 | s, n + 1, h => by rw [lst, lst, h s (by omega) (by omega), lst_congr fun j h1 h2 => h j (by omega) (by omega)]
theorem lst_bd (m : Nat) (K : IntKind) (f : Nat -> Int) : ∀ s n, bdLB m (lst K f s n) = true
 | _, 0 => rfl
 | s, n + 1 => by rw [lst, bdLB, lst_bd m K f (s + 1) n]; rfl
theorem lst_set {K : IntKind} {f g : Nat -> Int} {v : Int} {k : Nat} : ∀ {s n : Nat}, k < n -> g (s + k) = v -> (∀ j, s <= j -> j < s + n -> j ≠ s + k -> g j = f j) -> Vg.splice (lst K f s n) k [.int K v] = lst K g s n := by
 induction k with
 | zero => intro s n h hv hg; cases n with
   | zero => omega
   | succ n =>
     rw [Nat.add_zero] at hv
     rw [lst, lst, hv, lst_congr (f := g) (g := f) fun j h1 h2 => hg j (by omega) (by omega) (by omega)]
     rfl
 | succ k ih => intro s n h hv hg; cases n with
   | zero => omega
   | succ n =>
     rw [lst, lst, hg s (by omega) (by omega) (by omega), <- ih (s := s + 1) (n := n) (by omega) (by rw [show s + 1 + k = s + (k + 1) by omega]; exact hv) fun j h1 h2 h3 => hg j (by omega) (by omega) (by omega)]
     simp only [Vg.splice, List.take_succ_cons, List.cons_append, List.length_cons, List.length_nil]
     rw [show k + 1 + (0 + 1) = (k + (0 + 1)) + 1 by omega, List.drop_succ_cons]
section
variable {P : Program} {g : G} {T : Nat -> Option Ty} {A : Ar}
theorem reg_A (hT : TOk P T) (hA : A = Ar.real) {n0 N : Nat} {ms : List Nat} (hg : GI g n0 ms N) (hmix : P.follows .mixedOrders = true) {id : Nat} {ops : Array Oper} (hB : drawB ops.toList = true) (hd : (ops.toList.all fun o => dstLt N o.dst) = true) {K : FF -> LL -> Nat -> Prop} {F : FF} {L : LL} {n : Nat}
 (h : vcD T A P g n0 ms (fun _ _ => true) ops.toList (maskL [] ops.toList) K ops.toList 0 F L [] n) : Reg g P id ops K F L n := by
 subst hA
 exact reg_of hT hg.n0 hg.ms hmix hB (fun o ho => hg.dst (List.all_eq_true.1 hd o ho)) h
theorem reg_M (hT : TOk P T) (hA : A = Ar.real) {n0 N : Nat} {ms : List Nat} (hg : GI g n0 ms N) (hmix : P.follows .mixedOrders = true) {id : Nat} {ops : Array Oper} (hB : drawB ops.toList = true) (hd : (ops.toList.all fun o => dstLt N o.dst) = true) {K : FF -> LL -> Nat -> Prop} {F : FF} {L : LL} {n : Nat}
 (h : ∀ m, maskL [] ops.toList = m -> vcD T A P g n0 ms (fun _ _ => true) ops.toList m K ops.toList 0 F L [] n) : Reg g P id ops K F L n :=
 reg_A hT hA hg hmix hB hd (h _ rfl)
theorem reg_X (hT : TOk P T) (hA : A = Ar.real) {n0 N : Nat} {ms : List Nat} (hg : GI g n0 ms N) (hmix : P.follows .mixedOrders = true) {id : Nat} {ops : Array Oper} (hB : drawC ops.toList = true) (hd : (ops.toList.all fun o => dstLt N o.dst) = true) {K : FF -> LL -> Nat -> Prop} {F : FF} {L : LL} {n : Nat}
 (h : vcD T A P g n0 ms (ckC ops.toList (maskL [] ops.toList) (look F)) ops.toList (maskL [] ops.toList) K ops.toList 0 F L [] n) : Reg g P id ops K F L n := by
 subst hA
 exact reg_C hT hg.n0 hg.ms hmix hB (fun o ho => hg.dst (List.all_eq_true.1 hd o ho)) h
theorem bin_of (hA : A = Ar.real) : A.bin = intBin := congrArg Ar.bin hA
theorem cmp_of (hA : A = Ar.real) : A.cmp = boolCmp := congrArg Ar.cmp hA
theorem neg_of (hA : A = Ar.real) (k : IntKind) (n : Int) : A.una .neg k n = k.wrap (0 - n) := by
 rw [hA]; simp only [Ar.real]
theorem not_of (hA : A = Ar.real) (n : Int) : A.una .xor .u64 n = intBin .xor .u64 18446744073709551615 n := by
 rw [hA]; simp only [Ar.real]; rfl
theorem cvt_of (hA : A = Ar.real) (k : IntKind) (n : Int) : A.cvt k n = k.wrap n := by
 rw [hA]; simp only [Ar.real]
theorem nat_of (hA : A = Ar.real) (n : Nat) : A.nat n = Int.ofNat n := by
 rw [hA]; simp only [Ar.real]; rfl
theorem bnot_of (hA : A = Ar.real) (b : Bool) : A.bnot b = !b := by
 rw [hA]; simp only [Ar.real]
theorem ix_of (hA : A = Ar.real) {k n : Nat} (h : k < n) : A.ix (Int.ofNat k) n = some k := by
 subst hA
 have h1 : (0 : Int) <= (k : Int) /\ (k : Int) < n := by omega
 simp [Ar.real, h]
theorem off_of (hA : A = Ar.real) (o j s : Nat) : A.off o j s = o + j * s := by
 subst hA; rfl
theorem get_of (hA : A = Ar.real) (c : List SV) (k : Nat) : A.get c k = c[k]? := by
 subst hA; rfl
theorem spl_of (hA : A = Ar.real) {c : List SV} {k : Nat} (h : k < c.length) (v : SV) : A.spl c k [v] = some (Vg.splice c k [v]) := by
 subst hA
 simp only [Ar.real, List.length_cons, List.length_nil]
 rw [if_pos (by omega)]
theorem eql_of (hA : A = Ar.real) (a b : Int) : A.cmp .eql a b = decide (a = b) := by
 subst hA; show (a == b) = _
 by_cases h : a = b <;> simp [h]
theorem neq_of (hA : A = Ar.real) (a b : Int) : A.cmp .neq a b = decide (a ≠ b) := by
 subst hA; show (a != b) = _
 by_cases h : a = b <;> simp [h]
theorem scat_of (hA : A = Ar.real) {a b : ByteArray} (h : a.size + b.size < 2 ^ 63) : A.scat a b = some (a ++ b) := by
 subst hA; simp only [Ar.real]; rw [if_neg (by show ¬ _ > (9223372036854775807 : Int); omega)]
theorem slen_of (hA : A = Ar.real) (s : ByteArray) : A.slen s = Int.ofNat s.size := by
 subst hA; rfl
theorem nz_of (hA : A = Ar.real) {i : Int} (h : i ≠ 0) : A.nz i = true := by
 subst hA; simpa [Ar.real] using h
theorem lss_of (hA : A = Ar.real) (a b : Int) : A.cmp .lss a b = decide (a < b) := by
 subst hA; rfl
theorem wrap_of (k : Nat) (h : k < 2 ^ 63) : IntKind.i64.wrap (k : Int) = (k : Int) := by
 simp only [IntKind.wrap, IntKind.signed, IntKind.bits]
 have : ((k : Int) % 18446744073709551616) = k := Int.emod_eq_of_lt (by omega) (by omega)
 simp
 omega
theorem add_of (hA : A = Ar.real) {k : Nat} (h : k + 1 < 2 ^ 63) : A.bin .add .i64 (Int.ofNat k) 1 = Int.ofNat (k + 1) := by
 subst hA
 exact wrap_of (k + 1) h
end
end Go.Vg
end
