/-
  This text proves what reading and writing a part of a block does (a struct or an array of several cells at a place inside it). Condition: the block's cells are known, and may be written.
-/
import Derived.Test.YtgdkefjpekebmaaKA
import Derived.Lib.Hide
namespace Go
open Go.RowKit
section
variable {P : Program}
theorem addr_add (g off j : Nat) : (⟨g, off, none⟩ : Addr).add j = ⟨g, off + j, none⟩ := by
  unfold Addr.add
  split
  · subst_vars; simp
  · rfl
theorem run_loadVar_part (w : World) (g off : Nat) (ty : TypeId) (cs : Array Value) (d : TypeDesc) (hc : ∀ j v, cs[j]? = some v → w.cell? ⟨g, off + j, none⟩ = some v)
    (hu : P.underlying ty = some d) (hd : (match d with | .struct _ | .array _ _ => true | _ => false) = true) (hi : (P.info? ty).map (·.size) = some cs.size) :
    (loadVar ty ⟨g, off, none⟩).run P w = .ok (.agg cs) w := by
  have hl : (loadCells ⟨g, off, none⟩ cs.toList.length).run P w = .ok cs.toList.toArray w :=
    run_loadCells_list (P := P) w ⟨g, off, none⟩ cs.toList (fun j v hv => by
      rw [addr_add]
      exact hc j v (by simpa using hv))
  cases hq : P.info? ty with
  | none => simp [hq] at hi
  | some i =>
    have hs : i.size = cs.size := by simpa [hq] using hi
    have hagg : (isAgg ty).run P w = .ok true w := by
      unfold isAgg
      rw [Sem.run_bind, run_underlying hu w]
      cases d <;> simp_all
    simp only [Array.length_toList, Array.toArray_toList] at hl
    simp [loadVar, Sem.run_bind, hagg, sizeOf, typeInfo, hq, hs, hl]
theorem run_loadAt_part (w : World) (g off : Nat) (ty : TypeId) (cs : Array Value) (d : TypeDesc) (hc : ∀ j v, cs[j]? = some v → w.cell? ⟨g, off + j, none⟩ = some v)
    (hu : P.underlying ty = some d) (hd : (match d with | .struct _ | .array _ _ => true | _ => false) = true) (hi : (P.info? ty).map (·.size) = some cs.size) :
    (Instr.loadAt ty (.pointer (some ⟨g, off, none⟩))).run P w = .ok (.agg cs) w := by
  simp only [Instr.loadAt, Instr.sureAddr, Sem.run_bind, Sem.run_pure, Result.andThen_ok, run_loadVar_part w g off ty cs d hc hu hd hi]
theorem wpList_load_part {ops : Array Oper} {rest : List Oper} {o : Oper} {a : Act} {w : World} {Q : Exit → Act → World → Prop} (ty : TypeId) (x : Operand) (g off : Nat) (cs : Array Value) (d : TypeDesc) (hgd : o.guard = none) (ho : o.op = .load ty x)
    (hx : a.eval x = .pointer (some ⟨g, off, none⟩)) (hu : P.underlying ty = some d) (hd : (match d with | .struct _ | .array _ _ => true | _ => false) = true) (hi : (P.info? ty).map (·.size) = some cs.size)
    (hc : ∀ j v, cs[j]? = some v → w.cell? ⟨g, off + j, none⟩ = some v)
    (h : wpList P ops Q rest (a.put o.dst (.agg cs)) w) : wpList P ops Q (o :: rest) a w :=
  wpList_plain hgd fun _ hK => by
    unfold Oper.wp execOp
    simp only [ho, hx, Instr.loadAt, Instr.sureAddr, Sem.run_bind, Sem.run_pure, Result.andThen_ok, run_loadVar_part w g off ty cs d hc hu hd hi]
    exact hK _ _ h
/-- in a region that draws -/
theorem quiet_load_part {C : World → Prop} {o : Oper} {a : Act} {K : Act → Prop} (ty : TypeId) (x : Operand) (g off : Nat) (cs : Array Value) (d : TypeDesc) (ho : o.op = .load ty x)
    (hx : a.eval x = .pointer (some ⟨g, off, none⟩)) (hu : P.underlying ty = some d) (hd : (match d with | .struct _ | .array _ _ => true | _ => false) = true) (hi : (P.info? ty).map (·.size) = some cs.size)
    (hc : ∀ w, C w → ∀ j v, cs[j]? = some v → w.cell? ⟨g, off + j, none⟩ = some v) (h : K (a.put o.dst (.agg cs))) : o.quiet P a C K := by
  refine ⟨.agg cs, fun w hw => ?_, h⟩
  unfold Oper.quietAt execOp
  simp only [ho, hx, Instr.loadAt, Instr.sureAddr, Sem.run_bind, Sem.run_pure, Result.andThen_ok, run_loadVar_part w g off ty cs d (hc w hw) hu hd hi]
  exact ⟨rfl, rfl⟩
/-- a block written from cell off on -/
def World.setPart (w : World) (g off : Nat) (vs : List Value) : World := w.setRow g (match w.heap[g]? with | some (.cells cur _ _) => (cur.toList.take off ++ vs ++ cur.toList.drop (off + vs.length)).toArray | _ => #[])
theorem setPart_eq (w : World) (g off : Nat) (vs : List Value) (cur : Array Value) (t : TypeId) (fr : Nat × Nat) (hg : w.heap[g]? = some (.cells cur t fr)) :
    w.setPart g off vs = w.setRow g (cur.toList.take off ++ vs ++ cur.toList.drop (off + vs.length)).toArray := by
  unfold World.setPart; rw [hg]
theorem run_storeCells_part (g off : Nat) (t : TypeId) : ∀ (vs : List Value) (i : Nat) (cur : Array Value) (w : World), w.heap[g]? = some (.cells cur t (0, 0)) → off + i + vs.length ≤ cur.size → (∀ v ∈ vs, v.oneCell' = true) →
    (storeCells ⟨g, off, none⟩ vs i).run P w = .ok () (w.setRow g (cur.toList.take (off + i) ++ vs ++ cur.toList.drop (off + i + vs.length)).toArray)
  | [], i, cur, w, hg, _, _ => by
    simp only [storeCells, List.append_nil, List.length_nil, Nat.add_zero, List.take_append_drop, Array.toArray_toList]
    rw [setRow_self w g cur t (0, 0) hg]; rfl
  | v :: rest, i, cur, w, hg, hl, h1 => by
    have hi : off + i < cur.size := by simp at hl; omega
    have hcell : w.cell? ⟨g, off + i, none⟩ = some cur[off + i] := by simp [World.cell?, hg, hi]
    have hfro : w.frozen? ⟨g, off + i, none⟩ = false := by simp [World.frozen?, hg]
    have hst : (store ((⟨g, off, none⟩ : Addr).add i) v).run P w = .ok () (w.setRow g (cur.setIfInBounds (off + i) v)) := by
      rw [addr_add, run_store P w _ v _ (h1 v (by simp)), hcell]
      simp [hfro, setCell_eq_setRow w g (off + i) cur t (0, 0) v hg]
    have ih := run_storeCells_part g off t rest (i + 1) (cur.setIfInBounds (off + i) v) (w.setRow g (cur.setIfInBounds (off + i) v)) (setRow_heap w g cur _ t _ hg) (by simp at hl ⊢; omega) (fun x hx => h1 x (by simp [hx]))
    simp only [storeCells, Sem.run_bind, hst, Result.andThen_ok, ih, setRow_setRow]
    congr 3
    apply List.ext_getElem?
    intro k
    simp only [Array.toList_setIfInBounds, List.length_cons]
    rw [show off + (i + 1) = off + i + 1 from rfl, show off + i + (rest.length + 1) = off + i + 1 + rest.length from by omega]
    simp only [List.getElem?_append, List.length_append, List.length_take, List.length_set, Array.length_toList, List.getElem?_drop, List.getElem?_set, List.length_cons, show min (off + i) cur.size = off + i by omega,
      show min (off + i + 1) cur.size = off + i + 1 by simp at hl; omega]
    by_cases h2 : k < off + i
    · simp [show k < off + i + 1 by omega, show k < off + i + (rest.length + 1) by omega, show k < off + i + 1 + rest.length by omega, h2, show off + i ≠ k by omega]
    · by_cases h3 : k = off + i
      · subst h3; simp [hi, show off + i < off + i + 1 + rest.length by omega]
      · by_cases h4 : k < off + i + 1 + rest.length
        · simp [h2, h4, show ¬ k < off + i + 1 by omega, show k < off + i + (rest.length + 1) by omega, show k - (off + i) = (k - (off + i + 1)) + 1 by omega]
        · simp [h4, show ¬ k < off + i + (rest.length + 1) by omega]
          rw [if_neg (by omega)]
          congr 1
          omega
theorem run_storeVar_part (w : World) (g off : Nat) (t ty : TypeId) (old cells : Array Value) (hg : w.heap[g]? = some (.cells old t (0, 0))) (hi : (P.info? ty).map (·.size) = some cells.size)
    (ho : off + cells.size ≤ old.size) (h1 : cells.all (·.oneCell') = true) :
    (storeVar ty ⟨g, off, none⟩ (.agg cells)).run P w = .ok () (w.setRow g (old.toList.take off ++ cells.toList ++ old.toList.drop (off + cells.size)).toArray) := by
  have := run_storeCells_part (P := P) g off t cells.toList 0 old w hg (by simp; omega) (fun v hv => (Array.all_eq_true_iff_forall_mem.1 h1) v (by simpa using hv))
  cases hq : P.info? ty with
  | none => simp [hq] at hi
  | some i =>
    have hs : cells.size = i.size := by simp [hq] at hi; omega
    simp only [Nat.add_zero, Array.length_toList] at this
    simp [storeVar, sizeOf, typeInfo, hq, Value.cells, hs, this]
theorem wpList_store_part {ops : Array Oper} {rest : List Oper} {o : Oper} {a : Act} {w : World} {Q : Exit → Act → World → Prop} (ty : TypeId) (x y : Operand) (g off : Nat) (t : TypeId) (old cells : Array Value) (hgd : o.guard = none) (ho : o.op = .store ty x y)
    (hx : a.eval x = .pointer (some ⟨g, off, none⟩)) (hy : a.eval y = .agg cells) (hi : (P.info? ty).map (·.size) = some cells.size) (h1 : cells.all (·.oneCell') = true)
    (hg : w.heap[g]? = some (.cells old t (0, 0))) (hold : off + cells.size ≤ old.size)
    (h : wpList P ops Q rest (a.put o.dst undef) (w.setRow g (old.toList.take off ++ cells.toList ++ old.toList.drop (off + cells.size)).toArray)) : wpList P ops Q (o :: rest) a w :=
  wpList_plain hgd fun _ hK => by
    unfold Oper.wp execOp
    simp only [ho, hx, hy, Instr.storeAt, Instr.sureAddr, Sem.run_bind, Sem.run_pure, Result.andThen_ok, run_storeVar_part w g off t ty old cells hg hi hold h1]
    exact hK _ _ h
end
section
variable {P : Program}
theorem wpList_store_all {ops : Array Oper} {rest : List Oper} {o : Oper} {a : Act} {w : World} {Q : Exit → Act → World → Prop} (ty : TypeId) (x y : Operand) (g : Nat) (t : TypeId) (old cells : Array Value) (hgd : o.guard = none) (ho : o.op = .store ty x y)
    (hx : a.eval x = .pointer (some ⟨g, 0, none⟩)) (hy : a.eval y = .agg cells) (hi : (P.info? ty).map (·.size) = some cells.size) (h1 : cells.all (·.oneCell') = true)
    (hg : w.heap[g]? = some (.cells old t (0, 0))) (hold : old.size = cells.size)
    (h : wpList P ops Q rest (a.put o.dst undef) (w.setRow g cells)) : wpList P ops Q (o :: rest) a w :=
  wpList_store_row hgd ty x y ho g cells hx hy t old hg hi hold h1 h
end
/-! words as natural numbers -/
theorem ofInt_toNat (n a : Nat) (h : a < 2 ^ n) : (BitVec.ofInt n (a : Int)).toNat = a := by
  rw [BitVec.ofInt_natCast, BitVec.toNat_ofNat]; exact Nat.mod_eq_of_lt h
theorem wrap_nat (k : IntKind) (hk : k.signed = false) (a : Nat) : k.wrap (a : Int) = ((a % 2 ^ k.bits : Nat) : Int) := by
  simp [IntKind.wrap, hk]
theorem ubits (k : IntKind) (hk : k.signed = false) (a b : Nat) (ha : a < 2 ^ k.bits) (hb : b < 2 ^ k.bits) :
    bits .and k a b = ((a &&& b : Nat) : Int) ∧ bits .or k a b = ((a ||| b : Nat) : Int) ∧ bits .xor k a b = ((a ^^^ b : Nat) : Int) := by
  simp only [bits]
  refine ⟨?_, ?_, ?_⟩
  · rw [BitVec.toNat_and, ofInt_toNat _ _ ha, ofInt_toNat _ _ hb, wrap_nat k hk, Nat.mod_eq_of_lt (Nat.and_lt_two_pow _ hb)]
  · rw [BitVec.toNat_or, ofInt_toNat _ _ ha, ofInt_toNat _ _ hb, wrap_nat k hk, Nat.mod_eq_of_lt (Nat.or_lt_two_pow ha hb)]
  · rw [BitVec.toNat_xor, ofInt_toNat _ _ ha, ofInt_toNat _ _ hb, wrap_nat k hk, Nat.mod_eq_of_lt (Nat.xor_lt_two_pow ha hb)]
theorem block_lt {w : World} {g : Nat} {o : Obj} (h : w.heap[g]? = some o) : g < w.heap.size := (Array.getElem?_eq_some_iff.1 h).1
theorem alloc2 (w : World) (A B : Obj) : ((w.alloc A).alloc B).heap[w.heap.size]? = some A ∧ ((w.alloc A).alloc B).heap[w.heap.size + 1]? = some B := by
  refine ⟨?_, ?_⟩
  · rw [heap_alloc_old _ _ (by simp), heap_alloc_new]
  · have := heap_alloc_new (w.alloc A) B
    simpa using this
theorem alloc3 (w : World) (A B C : Obj) : (((w.alloc A).alloc B).alloc C).heap[w.heap.size]? = some A ∧ (((w.alloc A).alloc B).alloc C).heap[w.heap.size + 1]? = some B ∧ (((w.alloc A).alloc B).alloc C).heap[w.heap.size + 1 + 1]? = some C := by
  obtain ⟨h1, h2⟩ := alloc2 w A B
  refine ⟨?_, ?_, ?_⟩
  · rw [heap_alloc_old _ _ (by simp; omega), h1]
  · rw [heap_alloc_old _ _ (by simp), h2]
  · have := heap_alloc_new ((w.alloc A).alloc B) C
    simpa using this
/-- the cells of a block, from its beginning on -/
theorem cells_of {w : World} {g : Nat} {cs : Array Value} {t : TypeId} {fr : Nat × Nat} (h : w.heap[g]? = some (.cells cs t fr)) : ∀ j v, cs[j]? = some v → w.cell? ⟨g, 0 + j, none⟩ = some v := fun j v hv => by
  rw [Nat.zero_add, cell_of_row _ _ _ _ _ _ h]; exact hv
section
variable {P : Program} {ops : Array Oper} {C : World → Prop}
theorem wpQuiet_plain {Q : Act → Prop} {a : Act} {o : Oper} {rest : List Oper} (hg : o.guard = none)
    (h : ∀ K : Act → Prop, (∀ a, wpQuiet P ops C Q rest a → K a) → o.quiet P a C K) : wpQuiet P ops C Q (o :: rest) a :=
  wpQuiet_step fun K hK => by simp only [Region.wanted, hg, if_true]; exact h K hK
theorem wpQuiet_load_part {Q : Act → Prop} {a : Act} {o : Oper} {rest : List Oper} (ty : TypeId) (x : Operand) (g off : Nat) (cs : Array Value) (d : TypeDesc) (hgd : o.guard = none) (ho : o.op = .load ty x)
    (hx : a.eval x = .pointer (some ⟨g, off, none⟩)) (hu : P.underlying ty = some d) (hd : (match d with | .struct _ | .array _ _ => true | _ => false) = true) (hi : (P.info? ty).map (·.size) = some cs.size)
    (hc : ∀ w, C w → ∀ j v, cs[j]? = some v → w.cell? ⟨g, off + j, none⟩ = some v) (h : wpQuiet P ops C Q rest (a.put o.dst (.agg cs))) : wpQuiet P ops C Q (o :: rest) a :=
  wpQuiet_plain hgd fun _ hK => quiet_load_part ty x g off cs d ho hx hu hd hi hc (hK _ h)
end
theorem cells_ext {w : World} {B g off : Nat} {cs : Array Value} (hg : g < B) (h : ∀ j v, cs[j]? = some v → w.cell? ⟨g, off + j, none⟩ = some v) :
    ∀ w', InExt B w w' → ∀ j v, cs[j]? = some v → w'.cell? ⟨g, off + j, none⟩ = some v := by
  rintro _ ⟨x, rfl⟩ j v hv
  rw [x.cell _ _ hg]
  exact h j v hv
section
variable {P : Program}
/-- what a result's variable holds -/
def ResIs (P : Program) (tmps : Array Value) (w : World) (r : ResultVar) (v : Value) : Prop :=
  match r with
  | .tmp t => tmps.getD t undef = v
  | .cell a t => ∃ g off, tmps.getD a undef = .pointer (some ⟨g, off, none⟩) ∧ (loadVar t ⟨g, off, none⟩).run P w = .ok v w
theorem ResIs.tmp {tmps : Array Value} {w : World} {t : Tmp} {v : Value} (h : tmps.getD t undef = v) : ResIs P tmps w (.tmp t) v := h
theorem ResIs.cell {tmps : Array Value} {w : World} {a : Tmp} {ty : TypeId} {g : Nat} {cs : Array Value} {t : TypeId} {fr : Nat × Nat} {d : TypeDesc} (hp : tmps.getD a undef = .pointer (some ⟨g, 0, none⟩)) (hg : w.heap[g]? = some (.cells cs t fr))
    (hu : P.underlying ty = some d) (hd : (match d with | .struct _ | .array _ _ => true | _ => false) = true) (hi : (P.info? ty).map (·.size) = some cs.size) : ResIs P tmps w (.cell a ty) (.agg cs) :=
  ⟨g, 0, hp, run_loadVar_row w g t ty cs fr d hg hu hd hi⟩
theorem results_1 {fn : Func} {r1 : ResultVar} {v1 : Value} {tmps : Array Value} {w : World} (h : fn.results = #[r1]) (h1 : ResIs P tmps w r1 v1) : (results fn tmps).run P w = .ok v1 w := by
  cases r1 with
  | tmp t => simp only [ResIs] at h1; subst h1; simp [results, h]
  | cell a t =>
    obtain ⟨g, off, hp, hl⟩ := h1
    have hp' : tmps[a]?.getD undef = .pointer (some ⟨g, off, none⟩) := by simpa using hp
    simp [results, h, hp', asAddr, hl]
theorem results_2 {fn : Func} {r1 r2 : ResultVar} {v1 v2 : Value} {tmps : Array Value} {w : World} (h : fn.results = #[r1, r2]) (h1 : ResIs P tmps w r1 v1) (h2 : ResIs P tmps w r2 v2) : (results fn tmps).run P w = .ok (.tuple #[v1, v2]) w := by
  cases r1 with
  | tmp t =>
    cases r2 with
    | tmp u => simp only [ResIs] at h1 h2; subst h1; subst h2; simp [results, h]
    | cell b u =>
      obtain ⟨g, off, hp, hl⟩ := h2
      have hp' : tmps[b]?.getD undef = .pointer (some ⟨g, off, none⟩) := by simpa using hp
      simp only [ResIs] at h1; subst h1
      simp [results, h, hp', asAddr, hl]
  | cell a t =>
    obtain ⟨g, off, hp, hl⟩ := h1
    have hp' : tmps[a]?.getD undef = .pointer (some ⟨g, off, none⟩) := by simpa using hp
    cases r2 with
    | tmp u => simp only [ResIs] at h2; subst h2; simp [results, h, hp', asAddr, hl]
    | cell b u =>
      obtain ⟨g2, off2, hp2, hl2⟩ := h2
      have hp2' : tmps[b]?.getD undef = .pointer (some ⟨g2, off2, none⟩) := by simpa using hp2
      simp [results, h, hp', hp2', asAddr, hl, hl2]
theorem results_3 {fn : Func} {r1 r2 r3 : ResultVar} {v1 v2 v3 : Value} {tmps : Array Value} {w : World} (h : fn.results = #[r1, r2, r3]) (h1 : ResIs P tmps w r1 v1) (h2 : ResIs P tmps w r2 v2) (h3 : ResIs P tmps w r3 v3) :
    (results fn tmps).run P w = .ok (.tuple #[v1, v2, v3]) w := by
  cases r2 with
  | tmp t2 =>
    simp only [ResIs] at h2; subst h2
    cases r3 with
    | tmp t3 =>
      simp only [ResIs] at h3; subst h3
      cases r1 with
      | tmp t => simp only [ResIs] at h1; subst h1; simp [results, h]
      | cell a t =>
        obtain ⟨g, off, hp, hl⟩ := h1
        have hp' : tmps[a]?.getD undef = .pointer (some ⟨g, off, none⟩) := by simpa using hp
        simp [results, h, hp', asAddr, hl]
    | cell c t3 =>
      obtain ⟨g3, off3, hp3, hl3⟩ := h3
      have hp3' : tmps[c]?.getD undef = .pointer (some ⟨g3, off3, none⟩) := by simpa using hp3
      cases r1 with
      | tmp t => simp only [ResIs] at h1; subst h1; simp [results, h, hp3', asAddr, hl3]
      | cell a t =>
        obtain ⟨g, off, hp, hl⟩ := h1
        have hp' : tmps[a]?.getD undef = .pointer (some ⟨g, off, none⟩) := by simpa using hp
        simp [results, h, hp', hp3', asAddr, hl, hl3]
  | cell b t2 =>
    obtain ⟨g2, off2, hp2, hl2⟩ := h2
    have hp2' : tmps[b]?.getD undef = .pointer (some ⟨g2, off2, none⟩) := by simpa using hp2
    cases r3 with
    | tmp t3 =>
      simp only [ResIs] at h3; subst h3
      cases r1 with
      | tmp t => simp only [ResIs] at h1; subst h1; simp [results, h, hp2', asAddr, hl2]
      | cell a t =>
        obtain ⟨g, off, hp, hl⟩ := h1
        have hp' : tmps[a]?.getD undef = .pointer (some ⟨g, off, none⟩) := by simpa using hp
        simp [results, h, hp', hp2', asAddr, hl, hl2]
    | cell c t3 =>
      obtain ⟨g3, off3, hp3, hl3⟩ := h3
      have hp3' : tmps[c]?.getD undef = .pointer (some ⟨g3, off3, none⟩) := by simpa using hp3
      cases r1 with
      | tmp t => simp only [ResIs] at h1; subst h1; simp [results, h, hp2', hp3', asAddr, hl2, hl3]
      | cell a t =>
        obtain ⟨g, off, hp, hl⟩ := h1
        have hp' : tmps[a]?.getD undef = .pointer (some ⟨g, off, none⟩) := by simpa using hp
        simp [results, h, hp', hp2', hp3', asAddr, hl, hl2, hl3]
end
section
variable {P : Program}
theorem forIn_all {body : Nat → Option Bool × Unit → Sem (ForInStep (Option Bool × Unit))} {w : World} {c : Nat → Bool} : ∀ (l : List Nat),
    (∀ i ∈ l, (body i (none, ())).run P w = .ok (if c i then .yield (none, ()) else .done (some false, ())) w) → (forIn l (none, ()) body).run P w = .ok (if l.all c then (none, ()) else (some false, ())) w
  | [], _ => rfl
  | i :: l, h => by
    have h1 := h i (.head _)
    have ih := forIn_all l (fun j hj => h j (.tail _ hj))
    rw [List.forIn_cons, Sem.run_bind, h1, Result.andThen_ok]
    by_cases hc : c i = true
    · simp only [hc, if_true, List.all_cons, Bool.true_and]; exact ih
    · simp [hc]
theorem equalIn_array {w : World} {d : Nat} {t e : TypeId} {n m : Nat} {xs ys : Array Value} {c : Nat → Bool} (ht : P.underlying t = some (.array n e)) (hs : (sizeOf e).run P w = .ok m w)
    (h : ∀ i, i < n → ∃ a b, (part e xs (i * m)).run P w = .ok a w ∧ (part e ys (i * m)).run P w = .ok b w ∧ (Op.equalIn d e a b).run P w = .ok (c i) w) :
    (Op.equalIn (d + 1) t (.agg xs) (.agg ys)).run P w = .ok ((List.range n).all c) w := by
  unfold Op.equalIn
  simp only [Sem.run_bind, run_underlying ht, Result.andThen_ok, hs, Std.Legacy.Range.forIn_eq_forIn_range', Std.Legacy.Range.size]
  rw [show (n - 0 + 1 - 1) / 1 = n by simp, ← List.range_eq_range', forIn_all (c := c) (List.range n) (fun i hi => by
    obtain ⟨a, b, h1, h2, h3⟩ := h i (List.mem_range.1 hi)
    simp only [Sem.run_bind, h1, h2, h3, Result.andThen_ok]
    cases c i <;> rfl)]
  simp only [Result.andThen_ok]
  cases (List.range n).all c <;> rfl
theorem part_cell {w : World} {e : TypeId} {xs : Array Value} {i : Nat} {v : Value} (hi : (isAgg e).run P w = .ok false w) (hv : xs[i]? = some v) : (part e xs i).run P w = .ok v w := by
  unfold part
  simp [Sem.run_bind, hi, hv]
end
end Go
