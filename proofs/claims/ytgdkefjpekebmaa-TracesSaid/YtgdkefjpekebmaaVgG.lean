/-
  This text proves that the symbolic run of a row of operations is sound: where it ends in K, the model's run of the row, in the text's order, ends so too. Condition: each slot that is written lies in the frame.
-/
import Derived.Test.YtgdkefjpekebmaaVgF
namespace Go.Vg
open Go.RowKit
theorem memN_mem {ms : List Nat} {l : Nat} (h : memN ms l = true) : l ∈ ms := by
  induction ms with
  | nil => simp [memN] at h
  | cons m ms ih =>
    simp only [memN] at h
    by_cases hm : m = l
    · subst hm; exact List.mem_cons_self
    · rw [if_neg hm] at h; exact List.mem_cons_of_mem _ (ih h)
theorem own_or {n0 : Nat} {ms : List Nat} {l : Nat} (h : own n0 ms l = true) : n0 ≤ l ∨ l ∈ ms := by
  unfold own at h
  split at h
  · rename_i hb; exact Or.inl (Nat.le_of_ble_eq_true hb)
  · exact Or.inr (memN_mem h)
theorem ones_all {vs : List SV} (h : ones vs = true) : ∀ v ∈ vs, one v = true := by
  induction vs with
  | nil => simp
  | cons v vs ih =>
    simp only [ones] at h
    cases hv : one v with
    | false => simp [hv] at h
    | true =>
      simp only [hv] at h
      intro u hu
      rcases List.mem_cons.1 hu with rfl | hu
      · exact hv
      · exact ih h u hu
theorem one_den {v : SV} (β : Nat → Nat) (h : one v = true) : (den β v).oneCell' = true := by
  cases v <;> simp_all [one, den, Value.oneCell']
section
variable {P : Program} {T : Nat → Option Ty} {g : G} {β : Nat → Nat} {F : Nat → Option SV} {L : Nat → Option Blk} {n : Nat → Prop} {a : Act} {W : World}
theorem okM.frozen {m : Nat × Nat} {n : Nat} (h : okM m n) {W : World} {g : Nat} {cs : Array Value} {t : TypeId} (hg : W.heap[g]? = some (.cells cs t m)) {o : Nat} (ho : o < n) : W.frozen? ⟨g, o, none⟩ = false := by
  obtain ⟨lo, hi⟩ := m
  simp only [World.frozen?, hg, Bool.and_eq_false_iff, decide_eq_false_iff_not]
  rcases h with h | h
  · simp only at h; by_cases h2 : lo ≤ o
    · right; omega
    · left; omega
  · simp only at h; left; omega
theorem run_storeCells_ok (g off : Nat) (t : TypeId) (m : Nat × Nat) : ∀ (vs : List Value) (i : Nat) (cur : Array Value) (w : World), w.heap[g]? = some (.cells cur t m) → okM m cur.size → off + i + vs.length ≤ cur.size → (∀ v ∈ vs, v.oneCell' = true) →
    (storeCells ⟨g, off, none⟩ vs i).run P w = .ok () (w.setRow g (cur.toList.take (off + i) ++ vs ++ cur.toList.drop (off + i + vs.length)).toArray)
  | [], i, cur, w, hg, _, _, _ => by
    simp only [storeCells, List.append_nil, List.length_nil, Nat.add_zero, List.take_append_drop, Array.toArray_toList]
    rw [setRow_self w g cur t m hg]; rfl
  | v :: rest, i, cur, w, hg, hm, hl, h1 => by
    have hi : off + i < cur.size := by simp at hl; omega
    have hcell : w.cell? ⟨g, off + i, none⟩ = some cur[off + i] := by simp [World.cell?, hg, hi]
    have hfro : w.frozen? ⟨g, off + i, none⟩ = false := hm.frozen hg hi
    have hst : (store ((⟨g, off, none⟩ : Addr).add i) v).run P w = .ok () (w.setRow g (cur.setIfInBounds (off + i) v)) := by
      rw [addr_add', run_store P w _ v _ (h1 v (by simp)), hcell]
      simp [hfro, setCell_eq_setRow w g (off + i) cur t m v hg]
    have ih := run_storeCells_ok g off t m rest (i + 1) (cur.setIfInBounds (off + i) v) (w.setRow g (cur.setIfInBounds (off + i) v)) (setRow_heap w g cur _ t _ hg) (by simpa using hm) (by simp at hl ⊢; omega) (fun x hx => h1 x (by simp [hx]))
    simp only [storeCells, Sem.run_bind, hst, Result.andThen_ok, ih, setRow_setRow]
    congr 3
    apply List.ext_getElem?
    intro k
    simp only [Array.toList_setIfInBounds, List.length_cons]
    rw [show off + (i + 1) = off + i + 1 from rfl, show off + i + (rest.length + 1) = off + i + 1 + rest.length from by omega]
    simp only [List.getElem?_append, List.length_append, List.length_take, List.length_set, Array.length_toList, List.getElem?_drop, List.getElem?_set, List.length_cons, show min (off + i) cur.size = off + i by omega,
      show min (off + i + 1) cur.size = off + i + 1 by simp at hl; omega]
    by_cases h2 : k < off + i
    · simp [show k < off + i + 1 by omega, show k < off + i + (rest.length + 1) by omega, show k < off + i + 1 + rest.length by omega, h2, show off + i ≠ k by omega]
    · by_cases h3 : k = off + i
      · subst h3; simp [hi, show off + i < off + i + 1 + rest.length by omega]
      · by_cases h4 : k < off + i + 1 + rest.length
        · simp [h2, h4, show ¬ k < off + i + 1 by omega, show k < off + i + (rest.length + 1) by omega, show k - (off + i) = (k - (off + i + 1)) + 1 by omega]
        · simp [h4, show ¬ k < off + i + (rest.length + 1) by omega]
          rw [if_neg (by omega)]
          congr 1
          omega
theorem run_store_any {ty g off s : Nat} {t : TypeId} {m : Nat × Nat} {old vs : List Value} {v : Value} (hg : W.heap[g]? = some (.cells old.toArray t m)) (hm : okM m old.length) (hv : v.cells = vs.toArray) (hs : sizeB P ty = some s) (hl : vs.length = s)
    (ho : off + s ≤ old.length) (h1 : ∀ x ∈ vs, x.oneCell' = true) :
    (storeVar ty ⟨g, off, none⟩ v).run P W = .ok () (W.setRow g (old.take off ++ vs ++ old.drop (off + vs.length)).toArray) := by
  have := run_storeCells_ok (P := P) g off t m vs 0 old.toArray W hg (by simpa using hm) (by simp; omega) h1
  unfold storeVar
  simp only [Sem.run_bind, run_sizeOf hs, Result.andThen_ok, hv, List.size_toArray]
  rw [if_neg (by omega)]
  simpa using this
theorem splice_length {cs vs : List SV} {o : Nat} (h : o + vs.length ≤ cs.length) : (splice cs o vs).length = cs.length := by
  simp only [splice, List.length_append, List.length_take, List.length_drop]; omega
theorem Mem.store (hm : Mem g β L n W) {l o : Nat} {b : Blk} (hb : L l = some b) {vs : List SV} (hle : o + vs.length ≤ b.cs.length) (hown : own g.n0 g.ms l = true) (hvs : bdL n vs) :
    Mem g β (upL L l ⟨b.l, splice b.cs o vs, b.t⟩) n (W.setRow (β l) (denL β (splice b.cs o vs)).toArray) := by
  obtain ⟨mk, hmk0, hcell⟩ := hm.cell l b hb
  have hmk := hmk0 hown
  have hcase : ∀ k c, upL L l ⟨b.l, splice b.cs o vs, b.t⟩ k = some c → (k = l ∧ c = ⟨b.l, splice b.cs o vs, b.t⟩) ∨ (k ≠ l ∧ L k = some c) := by
    intro k c h
    simp only [upL] at h
    split at h
    · rename_i e; exact Or.inl ⟨e, (Option.some.inj h).symm⟩
    · rename_i e; exact Or.inr ⟨e, h⟩
  have hsome : ∀ k c, upL L l ⟨b.l, splice b.cs o vs, b.t⟩ k = some c → ∃ d, L k = some d := by
    intro k c h
    rcases hcase k c h with ⟨rfl, _⟩ | ⟨_, h⟩
    · exact ⟨b, hb⟩
    · exact ⟨c, h⟩
  refine ⟨hm.low, hm.old, ?_, ?_, ?_, ?_, ?_⟩
  · intro k c h hl
    obtain ⟨d, hd⟩ := hsome k c h
    exact hm.new k d hd hl
  · intro k c k' c' h h' ho he
    obtain ⟨d, hd⟩ := hsome k c h
    obtain ⟨d', hd'⟩ := hsome k' c' h'
    exact hm.inj k d k' d' hd hd' ho he
  · intro k c h
    rcases hcase k c h with ⟨rfl, rfl⟩ | ⟨hne, h⟩
    · exact ⟨mk, fun _ => by rw [splice_length hle]; exact hmk, setRow_heap W (β k) _ _ _ _ hcell⟩
    · obtain ⟨m, h1, h2⟩ := hm.cell k c h
      exact ⟨m, h1, by rw [setRow_other _ _ _ _ (fun e => hne (hm.inj l b k c hb h hown e.symm).symm)]; exact h2⟩
  · intro k c h
    rcases hcase k c h with ⟨rfl, rfl⟩ | ⟨_, h⟩
    · exact ⟨(hm.bL k b hb).1, bdL_splice (hm.bL k b hb).2 hvs⟩
    · exact hm.bL k c h
  · have hne : ∀ k, k < g.W0.heap.size → ¬ g.mod k → k ≠ β l := by
      intro k hk hM e
      rcases own_or hown with h | h
      · rcases hm.new l b hb h with h2 | h2
        · omega
        · exact hM (e ▸ h2)
      · by_cases h0 : l < g.n0
        · exact hM ⟨l, h, by rw [e, hm.old l h0]⟩
        · rcases hm.new l b hb (by omega) with h2 | h2
          · omega
          · exact hM (e ▸ h2)
    refine ⟨hm.up.os, hm.up.tape, hm.up.output, ?_, ?_⟩
    · have : (W.setRow (β l) (denL β (splice b.cs o vs)).toArray).heap.size = W.heap.size := by simp [World.setRow]
      rw [this]; exact hm.up.size
    · intro k hk hM
      rw [setRow_other _ _ _ _ (hne k hk hM)]
      exact hm.up.block k hk hM
theorem upon_ok {o : Oper} {next : Act → World → Prop} {Q : Exit → Act → World → Prop} {v : Value} {W' : World} (h : (execOp a.eval o).run P W = .ok (.value v) W') (hn : next (a.put o.dst v) W') : o.wp P a W next Q := by
  unfold Oper.wp
  rw [h]; exact hn
theorem upon_skip' {o : Oper} {next : Act → World → Prop} {Q : Exit → Act → World → Prop} {W' : World} (h : (execOp a.eval o).run P W = .ok .skip W') (hn : next (a.put o.dst undef) W') : o.wp P a W next Q := by
  unfold Oper.wp
  rw [h]; exact hn
theorem rep_spec (z : List SV) (hz : z ≠ []) (m : Nat) : rep m z = (List.range (m * z.length)).map fun q => z.getD (q % z.length) default := by
  have hpos : 0 < z.length := List.length_pos_iff.2 hz
  induction m with
  | zero => simp [rep]
  | succ m ih =>
    rw [rep, ih, show (m + 1) * z.length = z.length + m * z.length by rw [Nat.add_mul]; omega, List.range_add, List.map_append]
    congr 1
    · apply List.ext_getElem?
      intro q
      by_cases h : q < z.length
      · simp [h, Nat.mod_eq_of_lt h]
      · simp [Nat.not_lt.1 h]
    · rw [List.map_map]
      apply List.map_congr_left
      intro q _
      simp [Nat.add_mod_left]
theorem rep_bd {k : Nat → Prop} {z : List SV} (h : bdL k z) (m : Nat) : bdL k (rep m z) := by
  induction m with
  | zero => trivial
  | succ m ih =>
    rw [rep, bdL_iff]
    intro v hv
    rcases List.mem_append.1 hv with hv | hv
    · exact (bdL_iff _ _).1 h v hv
    · exact (bdL_iff _ _).1 ih v hv
theorem buildSlice_sound (hT : TOk P T) (hf : Fra g β F n a) {t : Nat} {i : Ty} (ht : T t = some i) {e es : Nat} (hd : i.d = .sl e es) {j : Ty} (hj : T e = some j) {m : Nat} (hm1 : m * j.sz ≤ 16777216) (hm2 : 1 ≤ m * j.sz)
    {parts : Array (Nat × Operand)} {cs : List SV} (h : fillS (place i) F (rep m j.z) parts.toList = some cs) :
    (Instr.buildSlice t m (parts.map fun p => (p.1, a.eval p.2))).run P W = .ok (.slice (some ⟨W.heap.size, 0, none⟩) m m) (W.alloc (.cells (denL β cs).toArray e)) ∧ bdL n cs := by
  obtain ⟨hu, hs⟩ := sl_of hT ht hd
  obtain ⟨info, hi, hsz, z, hz, hzc, hzb, _, hzn⟩ := ty_size (β := β) hT hj
  have hes : es = j.sz := by
    have := ty_sizeB hT hj
    rw [this] at hs
    exact (Option.some.inj hs).symm
  subst hes
  have hzl : z.cells.size = j.z.length := by rw [← Array.length_toList, hzc, denL_eq, List.length_map]
  have hpm : (parts.map fun p => (p.1, a.eval p.2)).toList = parts.toList.map fun p => (p.1, a.eval p.2) := by simp
  obtain ⟨r1, r2⟩ := fillS_sound hf (pl' := fun k => some (k * info.size, info.size)) (fun k p hk => by simp only [place, hd] at hk; rw [hsz]; exact hk) (rep_bd (hzb n) m) h
  refine ⟨run_buildSlice W t e m _ _ info z hu hi hz (by rw [hsz]; omega) (by rw [hsz]; omega) ?_, r2⟩
  rw [hpm, ← r1]
  congr 1
  apply Array.ext'
  have hne : j.z ≠ [] := by
    intro e
    rw [e] at hzn
    simp only [List.length_nil] at hzn
    rw [← hzn] at hm2
    omega
  rw [denL_eq, rep_spec _ hne, List.map_map, hzn, ← hsz]
  simp only [Array.toList_map, Array.toList_range]
  apply List.map_congr_left
  intro q _
  have hlt : q % info.size < j.z.length := by rw [hzn, ← hsz]; exact Nat.mod_lt _ (by rw [hsz, ← hzn]; exact List.length_pos_iff.2 hne)
  have hzs : z.cells.size = info.size := by rw [hzl, hzn, hsz]
  simp only [Function.comp]
  rw [hzs]
  have h1 : z.cells[q % info.size]? = some (den β (j.z.getD (q % info.size) default)) := by
    rw [← Array.getElem?_toList, hzc, denL_eq, List.getElem?_map, List.getElem?_eq_getElem hlt, List.getD_eq_getElem?_getD, List.getElem?_eq_getElem hlt]
    rfl
  have h2 : q % info.size < z.cells.size := by rw [hzl]; exact hlt
  rw [getElem!_pos z.cells _ h2]
  rw [Array.getElem?_eq_getElem h2] at h1
  exact Option.some.inj h1
/-- what an operation does: it makes a value, a block, or writes one -/
inductive Eff where
  | val (v : SV)
  | new (v : Nat → SV) (cs : List SV) (t : TypeId)
  | wr (l : Nat) (o : Nat) (vs : List SV)
/-- an operation that is no call, run alone: its effect -/
inductive Runs (T : Nat → Option Ty) (F : Nat → Option SV) (L : Nat → Option Blk) : Op → Eff → Prop
  | val {op : Op} {v : SV} : native T F op = true → valV Ar.real T F L op = some v → Runs T F L op (.val v)
  | alloc {e : Nat} {i : Ty} : T e = some i → Runs T F L (.alloc e) (.new (fun n => .ptr n 0) i.z e)
  | box {e : Nat} {x : Operand} {v : SV} : ev F x = some v → noRaw v = true → Runs T F L (.box e x) (.new (fun n => .ptr n 0) (cellsOf v) e)
  | buildSlice {t m e es : Nat} {parts : Array (Nat × Operand)} {i j : Ty} {cs : List SV} : T t = some i → i.d = .sl e es → T e = some j → m * j.sz ≤ 16777216 → 1 ≤ m * j.sz → fillS (place i) F (rep m j.z) parts.toList = some cs →
      Runs T F L (.buildSlice t m parts) (.new (fun n => .slice n 0 m m) cs e)
  | store {t : Nat} {x y : Operand} {p u : SV} {i : Ty} {l o : Nat} {b : Blk} : ev F x = some p → ev F y = some u → T t = some i → (cellsOf u).length = i.sz → ones (cellsOf u) = true → L l = some b → (p = .ptr l o ∨ p = .ptrS l o) → o + (cellsOf u).length ≤ b.cs.length →
      Runs T F L (.store t x y) (.wr l o (cellsOf u))
set_option maxHeartbeats 1000000 in
theorem Runs.sound (hT : TOk P T) (hm : Mem g β L n W) (hf : Fra g β F n a) {o : Oper} (hd : ∀ t, o.dst = some t → t < g.N) {e : Eff} (hr : Runs T F L o.op e) {next : Act → World → Prop} {Q : Exit → Act → World → Prop} :
    (∀ v, e = .val v → (∀ a' W', bd n v → Mem g β L n W' → Fra g β (upF F o.dst v) n a' → next a' W') → o.wp P a W next Q) ∧
    (∀ f cs t k, e = .new f cs t → ¬ n k → (∀ γ a' W', (∀ l, n l → γ l = β l) → bdL n cs → Mem g γ (upL L k ⟨k, cs, t⟩) (fun l => n l ∨ l = k) W' → Fra g γ (upF F o.dst (f k)) (fun l => n l ∨ l = k) a' → next a' W') → o.wp P a W next Q) ∧
    (∀ l q vs b, e = .wr l q vs → L l = some b → own g.n0 g.ms l = true → (∀ a' W', bdL n vs → Mem g β (upL L l ⟨b.l, splice b.cs q vs, b.t⟩) n W' → Fra g β (upF F o.dst (.raw undef)) n a' → next a' W') → o.wp P a W next Q) := by
  have news : ∀ {e : Nat} {cs : List SV} {f : Nat → SV} {s : Sem Value} {k : Nat}, execOp a.eval o = (do pure (.value (← s))) → bdL n cs → (∀ γ : Nat → Nat, γ k = W.heap.size → s.run P W = .ok (den γ (f k)) (W.alloc (.cells (denL β cs).toArray e))) → bd (fun l => n l ∨ l = k) (f k) → ¬ n k →
      (∀ γ a' W', (∀ l, n l → γ l = β l) → bdL n cs → Mem g γ (upL L k ⟨k, cs, e⟩) (fun l => n l ∨ l = k) W' → Fra g γ (upF F o.dst (f k)) (fun l => n l ∨ l = k) a' → next a' W') → o.wp P a W next Q := by
    intro e cs f s k he hb hs hbr hk hnext
    obtain ⟨γ, g1, g2, g3⟩ := hm.alloc hk hb e
    exact upon_ok (v_run he (hs γ g2)) (hnext γ _ _ g1 hb g3 ((hf.mono g1 (fun l hl => Or.inl hl)).put hd hbr))
  generalize hop : o.op = op at hr
  cases hr with
  | val hn hv =>
    subst hop
    refine ⟨?_, fun _ _ _ _ h => (by cases h), fun _ _ _ _ h => (by cases h)⟩
    intro v e hnext
    cases e
    obtain ⟨e1, b1⟩ := valV_sound hT hm hf hn hv
    exact upon_ok e1 (hnext _ _ b1 hm (hf.put hd b1))
  | @alloc ee ii ht =>
    refine ⟨fun _ h => (by cases h), ?_, fun _ _ _ _ h => (by cases h)⟩
    rintro f cs t k e hk hnext
    cases e
    obtain ⟨info, hi, hsz, z, hz, hzc, hzb, _⟩ := ty_size (β := β) hT ht
    have hz0 : z.cells = (denL β ii.z).toArray := by rw [← hzc]
    refine news (e := ee) (f := fun n => .ptr n 0) (s := Instr.alloc ee true (.tuple #[])) (by unfold execOp; simp only [hop]) (hzb n) ?_ (show bd (fun l => n l ∨ l = k) (.ptr k 0) from Or.inr rfl) hk hnext
    intro γ hγ
    simp [Instr.alloc, zeroValue, typeInfo, hi, hz, newVar, newRow, hz0, den, hγ]
  | @box ee x v hx hr =>
    refine ⟨fun _ h => (by cases h), ?_, fun _ _ _ _ h => (by cases h)⟩
    rintro f cs t k e hk hnext
    cases e
    obtain ⟨e0, b0⟩ := ev_sound hf hx
    refine news (e := ee) (f := fun n => .ptr n 0) (s := Instr.box ee (a.eval x)) (by unfold execOp; simp only [hop]) (bd_cells b0) ?_ (show bd (fun l => n l ∨ l = k) (.ptr k 0) from Or.inr rfl) hk hnext
    intro γ hγ
    simp [Instr.box, newVar, newRow, e0, cells_den2 β hr, den, hγ]
  | @buildSlice tt m ee es parts ii jj cs0 ht hd' hj h1 h2 hs =>
    refine ⟨fun _ h => (by cases h), ?_, fun _ _ _ _ h => (by cases h)⟩
    rintro f cs t k e hk hnext
    cases e
    obtain ⟨r1, r2⟩ := buildSlice_sound (W := W) hT hf ht hd' hj h1 h2 hs
    refine news (e := ee) (f := fun n => .slice n 0 m m) (s := Instr.buildSlice tt m (parts.map fun p => (p.1, a.eval p.2))) (by unfold execOp; simp only [hop]) r2 ?_ (show bd (fun l => n l ∨ l = k) (.slice k 0 m m) from Or.inr rfl) hk hnext
    intro γ hγ
    simpa [den, hγ] using r1
  | @store tt x y p u ii ll oo bb hx hy ht hlen hones hL hp hle =>
    refine ⟨fun _ h => (by cases h), fun _ _ _ _ h => (by cases h), ?_⟩
    rintro l q vs b e hb hown hnext
    cases e
    obtain rfl : b = bb := Option.some.inj (hb.symm.trans hL)
    obtain ⟨e0, b0⟩ := ev_sound hf hx
    obtain ⟨e1, b1⟩ := ev_sound hf hy
    have hnr : noRaw u = true := by
      cases u <;> simp_all [noRaw, cellsOf, ones, one]
    have hpd : den β p = .pointer (some ⟨β ll, oo, none⟩) := by rcases hp with rfl | rfl <;> rfl
    obtain ⟨mk, hmk, hcell⟩ := hm.cell ll b hb
    have hrun := run_store_any (P := P) (W := W) (off := oo) hcell (by simpa [denL_eq] using hmk hown) (cells_den2 β hnr) (ty_sizeB hT ht) (by rw [denL_eq, List.length_map, hlen]) (by rw [denL_eq, List.length_map]; omega)
      (fun x hx => by
        rw [denL_eq] at hx
        obtain ⟨y, hy, rfl⟩ := List.mem_map.1 hx
        exact one_den β (ones_all hones y hy))
    have he : (execOp a.eval o).run P W = .ok .skip (W.setRow (β ll) (denL β (splice b.cs oo (cellsOf u))).toArray) := by
      unfold execOp
      simp only [hop, e0, e1, hpd, Instr.storeAt, Instr.sureAddr, Sem.run_bind, Sem.run_pure, Result.andThen_ok, hrun]
      rw [splice_den]
      simp [denL_eq]
    exact upon_skip' he (hnext _ _ (bd_cells b1) (hm.store hb (by omega) hown (bd_cells b1)) (hf.put hd (v := .raw undef) (by simp [bd])))
/-- the symbolic run of an operation that is no call, taken apart -/
theorem vcOp_cases {F : FF} {L : LL} {n n0 : Nat} {ms : List Nat} {o : Oper} {S : Prop} {Kv : FF → Prop} {Kn : FF → Blk → Prop} {Kw : FF → Nat → List SV → Prop} (h : vcOpG T Ar.real n0 ms S Kv Kn Kw o F L n) :
    S ∨ (∃ v, Runs T (look F) (find L) o.op (.val v) ∧ Kv (putO F o.dst v)) ∨ (∃ f cs t, Runs T (look F) (find L) o.op (.new f cs t) ∧ Kn (putO F o.dst (f n)) ⟨n, cs, t⟩) ∨
    (∃ l q vs b, Runs T (look F) (find L) o.op (.wr l q vs) ∧ find L l = some b ∧ own n0 ms l = true ∧ Kw (putO F o.dst (.raw undef)) l (splice b.cs q vs)) := by
  have other : (match native T (look F) o.op with
      | true => match valV Ar.real T (look F) (find L) o.op with
        | some v => Kv (putO F o.dst v)
        | none => False
      | false => S) → S ∨ (∃ v, Runs T (look F) (find L) o.op (.val v) ∧ Kv (putO F o.dst v)) := by
    intro h2
    cases hn : native T (look F) o.op with
    | false => simp only [hn] at h2; exact Or.inl h2
    | true =>
      simp only [hn] at h2
      cases hv : valV Ar.real T (look F) (find L) o.op with
      | none => simp [hv] at h2
      | some r => simp only [hv] at h2; exact Or.inr ⟨r, .val hn hv, h2⟩
  unfold vcOpG at h
  split at h
  · rename_i e ho
    cases ht : T e with
    | none => simp [ht] at h
    | some i =>
      simp only [ht] at h
      exact Or.inr (Or.inr (Or.inl ⟨_, _, _, by rw [ho]; exact .alloc ht, h⟩))
  · rename_i e x ho
    cases hx : ev (look F) x with
    | none => simp [hx] at h
    | some v =>
      simp only [hx] at h
      cases hr : noRaw v with
      | false => simp [hr] at h
      | true =>
        simp only [hr] at h
        exact Or.inr (Or.inr (Or.inl ⟨_, _, _, by rw [ho]; exact .box hx hr, h⟩))
  · rename_i t m parts ho
    cases ht : T t with
    | none => simp [ht] at h
    | some i =>
      simp only [ht] at h
      cases hd' : i.d with
      | sl e es =>
        simp only [hd'] at h
        cases hj : T e with
        | none => simp [hj] at h
        | some j =>
          simp only [hj] at h
          cases hb1 : Nat.ble (m * j.sz) 16777216 with
          | false => simp [hb1] at h
          | true =>
            cases hb2 : Nat.ble 1 (m * j.sz) with
            | false =>
              simp only [hb1, hb2] at h
              exact Or.inl h
            | true =>
              simp only [hb1, hb2] at h
              cases hs : fillS (place i) (look F) (rep m j.z) parts.toList with
              | none => simp [hs] at h
              | some cs =>
                simp only [hs] at h
                exact Or.inr (Or.inr (Or.inl ⟨_, _, _, by rw [ho]; exact .buildSlice ht hd' hj (Nat.le_of_ble_eq_true hb1) (Nat.le_of_ble_eq_true hb2) hs, h⟩))
      | _ => simp [hd'] at h
  · rename_i t x v ho
    cases hx : ev (look F) x with
    | none => simp [hx] at h
    | some p =>
      cases hv : ev (look F) v with
      | none => simp [hx, hv] at h
      | some u =>
        cases ht : T t with
        | none => simp [hx, hv, ht] at h
        | some i =>
          simp only [hx, hv, ht] at h
          cases hb1 : Nat.beq (cellsOf u).length i.sz with
          | false => simp [hb1] at h
          | true =>
            cases hb2 : ones (cellsOf u) with
            | false => simp [hb1, hb2] at h
            | true =>
              simp only [hb1, hb2] at h
              cases hw : wr Ar.real (find L) (cellsOf u) p with
              | none => simp [hw] at h
              | some q =>
                obtain ⟨l, cs⟩ := q
                simp only [hw] at h
                cases ho2 : own n0 ms l with
                | false => simp [ho2] at h
                | true =>
                  simp only [ho2] at h
                  have hlen : (cellsOf u).length = i.sz := Nat.eq_of_beq_eq_true hb1
                  have key : ∃ b o', find L l = some b ∧ (p = .ptr l o' ∨ p = .ptrS l o') ∧ o' + (cellsOf u).length ≤ b.cs.length ∧ cs = splice b.cs o' (cellsOf u) := by
                    cases p with
                    | ptr l' o' =>
                      simp only [wr] at hw
                      cases hf' : find L l' with
                      | none => simp [hf'] at hw
                      | some b =>
                        simp only [hf'] at hw
                        cases hs : spl1 b.cs o' (cellsOf u) with
                        | none => simp [hs] at hw
                        | some cs' =>
                          simp only [hs, Option.some.injEq, Prod.mk.injEq] at hw
                          obtain ⟨rfl, rfl⟩ := hw
                          unfold spl1 at hs
                          split at hs
                          · rename_i hbl
                            exact ⟨b, o', hf', Or.inl rfl, Nat.le_of_ble_eq_true hbl, (Option.some.inj hs).symm⟩
                          · cases hs
                    | ptrS l' o' =>
                      simp only [wr] at hw
                      cases hf' : find L l' with
                      | none => simp [hf'] at hw
                      | some b =>
                        simp only [hf'] at hw
                        cases hs : Ar.real.spl b.cs o' (cellsOf u) with
                        | none => simp [hs] at hw
                        | some cs' =>
                          simp only [hs, Option.some.injEq, Prod.mk.injEq] at hw
                          obtain ⟨rfl, rfl⟩ := hw
                          simp only [Ar.real] at hs
                          split at hs
                          · rename_i hbl
                            exact ⟨b, o', hf', Or.inr rfl, hbl, (Option.some.inj hs).symm⟩
                          · cases hs
                    | _ => simp [wr] at hw
                  obtain ⟨b, o', hfb, hp, hle, rfl⟩ := key
                  exact Or.inr (Or.inr (Or.inr ⟨l, o', _, b, by rw [ho]; exact .store hx hv ht hlen hb2 hfb hp hle, hfb, ho2, h⟩))
  · exact (other h).imp id Or.inl
theorem vcOp_sound (hT : TOk P T) {F : FF} {L : LL} {n : Nat} {n0 : Nat} {ms : List Nat} (h0 : g.n0 = n0) (h1 : g.ms = ms) {o : Oper} (hd : ∀ t, o.dst = some t → t < g.N) {K : FF → LL → Nat → Prop} (h : vcOp T Ar.real P g n0 ms o K F L n) :
    Step g P o K F L n := by
  subst h0 h1
  rcases vcOp_cases h with h | ⟨v, hr, hk⟩ | ⟨f, cs, t, hr, hk⟩ | ⟨l, q, vs, b, hr, hb, hown, hk⟩
  · exact h
  · refine ⟨?_⟩
    rintro a W ⟨β, hm, hf⟩ next Q hK
    refine (Runs.sound hT hm hf hd hr).1 v rfl fun a' W' _ hm' hf' => hK _ _ _ _ _ hk ⟨β, hm', ?_⟩
    rw [look_putO]; exact hf'
  · refine ⟨?_⟩
    rintro a W ⟨β, hm, hf⟩ next Q hK
    refine (Runs.sound hT hm hf hd hr).2.1 f cs t n rfl (Nat.lt_irrefl n) fun γ a' W' _ _ hm' hf' => hK _ _ _ _ _ hk ⟨γ, ?_, ?_⟩
    · rw [find_new (fun l b h => (hm.bL l b h).1), ← succ_p]; exact hm'
    · rw [look_putO, ← succ_p]; exact hf'
  · refine ⟨?_⟩
    rintro a W ⟨β, hm, hf⟩ next Q hK
    refine (Runs.sound hT hm hf hd hr).2.2 l q vs b rfl hb hown fun a' W' _ hm' hf' => hK _ _ _ _ _ hk ⟨β, ?_, ?_⟩
    · have : find (updL L l (splice b.cs q vs)) = upL (find L) l ⟨b.l, splice b.cs q vs, b.t⟩ := by
        funext k
        rw [find_updL, hb]; rfl
      rw [this]; exact hm'
    · rw [look_putO]; exact hf'
end
end Go.Vg
