/-
  This text proves what these texts prove: VgG, VgH, VgI. Conditions: those of each theorem.
-/
import Derived.Test.YtdhmihfefgcbeaaGreatW02
section
namespace Go.Vg
open Go.RowKit
theorem memN_mem {ms : List Nat} {l : Nat} (h : memN ms l = true) : l ∈ ms := by
 induction ms with
 | nil => simp [memN] at h
 | cons m ms ih =>
   simp only [memN] at h
   by_cases hm : m = l
   ·subst hm; exact List.mem_cons_self
   ·rw [if_neg hm] at h; exact List.mem_cons_of_mem _ (ih h)
theorem own_or {n0 : Nat} {ms : List Nat} {l : Nat} (h : own n0 ms l = true) : n0 <= l \/ l ∈ ms := by
 unfold own at h
 split at h
 ·rename_i hb; exact Or.inl (Nat.le_of_ble_eq_true hb)
 ·exact Or.inr (memN_mem h)
theorem ones_all {vs : List SV} (h : ones vs = true) : ∀ v ∈ vs, one v = true := by
 induction vs with
 | nil => simp
 | cons v vs ih =>
   simp only [ones] at h
   cases hv : one v with
   | false => simp [hv] at h
   | true =>
     simp only [hv] at h
     intro u hu
     rcases List.mem_cons.1 hu with rfl | hu
     ·exact hv
     ·exact ih h u hu
theorem one_den {v : SV} (β : Nat -> Nat) (h : one v = true) : (den β v).oneCell' = true := by
 cases v <;> simp_all [one, den, Value.oneCell']
section
variable {P : Program} {T : Nat -> Option Ty} {g : G} {β : Nat -> Nat} {F : Nat -> Option SV} {L : Nat -> Option Blk} {n : Nat -> Prop} {a : Act} {W : World}
theorem okM.frozen {m : Nat × Nat} {n : Nat} (h : okM m n) {W : World} {g : Nat} {cs : Array Value} {t : TypeId} (hg : W.heap[g]? = some (.cells cs t m)) {o : Nat} (ho : o < n) : W.frozen? ⟨g, o, none⟩ = false := by
 obtain ⟨lo, hi⟩ := m
 simp only [World.frozen?, hg, Bool.and_eq_false_iff, decide_eq_false_iff_not]
 rcases h with h | h
 ·simp only at h; by_cases h2 : lo <= o
  ·right; omega
  ·left; omega
 ·simp only at h; left; omega
theorem run_storeCells_ok (g off : Nat) (t : TypeId) (m : Nat × Nat) : ∀ (vs : List Value) (i : Nat) (cur : Array Value) (w : World), w.heap[g]? = some (.cells cur t m) -> okM m cur.size -> off + i + vs.length <= cur.size -> (∀ v ∈ vs, v.oneCell' = true) ->
 (storeCells ⟨g, off, none⟩ vs i).run P w = .ok () (w.setRow g (cur.toList.take (off + i) ++ vs ++ cur.toList.drop (off + i + vs.length)).toArray)
 | [], i, cur, w, hg, _, _, _ => by
   simp only [storeCells, List.append_nil, List.length_nil, Nat.add_zero, List.take_append_drop, Array.toArray_toList]
   rw [setRow_self w g cur t m hg]; rfl
 | v :: rest, i, cur, w, hg, hm, hl, h1 => by
   have hi : off + i < cur.size := by simp at hl; omega
   have hcell : w.cell? ⟨g, off + i, none⟩ = some cur[off + i] := by simp [World.cell?, hg, hi]
   have hfro : w.frozen? ⟨g, off + i, none⟩ = false := hm.frozen hg hi
   have hst : (store ((⟨g, off, none⟩ : Addr).add i) v).run P w = .ok () (w.setRow g (cur.setIfInBounds (off + i) v)) := by
    rw [addr_add', run_store P w _ v _ (h1 v (by simp)), hcell]
    simp [hfro, setCell_eq_setRow w g (off + i) cur t m v hg]
   have ih := run_storeCells_ok g off t m rest (i + 1) (cur.setIfInBounds (off + i) v) (w.setRow g (cur.setIfInBounds (off + i) v)) (setRow_heap w g cur _ t _ hg) (by simpa using hm) (by simp at hl ⊢; omega) (fun x hx => h1 x (by simp [hx]))
   simp only [storeCells, Sem.run_bind, hst, Result.andThen_ok, ih, setRow_setRow]
   congr 3
   apply List.ext_getElem?
   intro k
   simp only [Array.toList_setIfInBounds, List.length_cons]
   rw [show off + (i + 1) = off + i + 1 from rfl, show off + i + (rest.length + 1) = off + i + 1 + rest.length from by omega]
   simp only [List.getElem?_append, List.length_append, List.length_take, List.length_set, Array.length_toList, List.getElem?_drop, List.getElem?_set, List.length_cons, show min (off + i) cur.size = off + i by omega,
    show min (off + i + 1) cur.size = off + i + 1 by simp at hl; omega]
   by_cases h2 : k < off + i
   ·simp [show k < off + i + 1 by omega, show k < off + i + (rest.length + 1) by omega, show k < off + i + 1 + rest.length by omega, h2, show off + i ≠ k by omega]
   ·by_cases h3 : k = off + i
    ·subst h3; simp [hi, show off + i < off + i + 1 + rest.length by omega]
    ·by_cases h4 : k < off + i + 1 + rest.length
     ·simp [h2, h4, show ¬ k < off + i + 1 by omega, show k < off + i + (rest.length + 1) by omega, show k - (off + i) = (k - (off + i + 1)) + 1 by omega]
     ·simp [h4, show ¬ k < off + i + (rest.length + 1) by omega]
      rw [if_neg (by omega)]
      congr 1
      omega
theorem run_store_any {ty g off s : Nat} {t : TypeId} {m : Nat × Nat} {old vs : List Value} {v : Value} (hg : W.heap[g]? = some (.cells old.toArray t m)) (hm : okM m old.length) (hv : v.cells = vs.toArray) (hs : sizeB P ty = some s) (hl : vs.length = s)
 (ho : off + s <= old.length) (h1 : ∀ x ∈ vs, x.oneCell' = true) :
 (storeVar ty ⟨g, off, none⟩ v).run P W = .ok () (W.setRow g (old.take off ++ vs ++ old.drop (off + vs.length)).toArray) := by
 have := run_storeCells_ok (P := P) g off t m vs 0 old.toArray W hg (by simpa using hm) (by simp; omega) h1
 unfold storeVar
 simp only [Sem.run_bind, run_sizeOf hs, Result.andThen_ok, hv, List.size_toArray]
 rw [if_neg (by omega)]
 simpa using this
theorem splice_length {cs vs : List SV} {o : Nat} (h : o + vs.length <= cs.length) : (splice cs o vs).length = cs.length := by
 simp only [splice, List.length_append, List.length_take, List.length_drop]; omega
theorem Mem.store (hm : Mem g β L n W) {l o : Nat} {b : Blk} (hb : L l = some b) {vs : List SV} (hle : o + vs.length <= b.cs.length) (hown : own g.n0 g.ms l = true) (hvs : bdL n vs) :
 Mem g β (upL L l ⟨b.l, splice b.cs o vs, b.t⟩) n (W.setRow (β l) (denL β (splice b.cs o vs)).toArray) := by
 obtain ⟨mk, hmk0, hcell⟩ := hm.cell l b hb
 have hmk := hmk0 hown
 have hcase : ∀ k c, upL L l ⟨b.l, splice b.cs o vs, b.t⟩ k = some c -> (k = l /\ c = ⟨b.l, splice b.cs o vs, b.t⟩) \/ (k ≠ l /\ L k = some c) := by
  intro k c h
  simp only [upL] at h
  split at h
  ·rename_i e; exact Or.inl ⟨e, (Option.some.inj h).symm⟩
  ·rename_i e; exact Or.inr ⟨e, h⟩
 have hsome : ∀ k c, upL L l ⟨b.l, splice b.cs o vs, b.t⟩ k = some c -> ∃ d, L k = some d := by
  intro k c h
  rcases hcase k c h with ⟨rfl, _⟩ | ⟨_, h⟩
  ·exact ⟨b, hb⟩
  ·exact ⟨c, h⟩
 refine ⟨hm.low, hm.old, ?_, ?_, ?_, ?_, ?_⟩
 ·intro k c h hl
  obtain ⟨d, hd⟩ := hsome k c h
  exact hm.new k d hd hl
 ·intro k c k' c' h h' ho he
  obtain ⟨d, hd⟩ := hsome k c h
  obtain ⟨d', hd'⟩ := hsome k' c' h'
  exact hm.inj k d k' d' hd hd' ho he
 ·intro k c h
  rcases hcase k c h with ⟨rfl, rfl⟩ | ⟨hne, h⟩
  ·exact ⟨mk, fun _ => by rw [splice_length hle]; exact hmk, setRow_heap W (β k) _ _ _ _ hcell⟩
  ·obtain ⟨m, h1, h2⟩ := hm.cell k c h
   exact ⟨m, h1, by rw [setRow_other _ _ _ _ (fun e => hne (hm.inj l b k c hb h hown e.symm).symm)]; exact h2⟩
 ·intro k c h
  rcases hcase k c h with ⟨rfl, rfl⟩ | ⟨_, h⟩
  ·exact ⟨(hm.bL k b hb).1, bdL_splice (hm.bL k b hb).2 hvs⟩
  ·exact hm.bL k c h
 ·have hne : ∀ k, k < g.W0.heap.size -> ¬ g.mod k -> k ≠ β l := by
   intro k hk hM e
   rcases own_or hown with h | h
   ·rcases hm.new l b hb h with h2 | h2
    ·omega
    ·exact hM (e ▸ h2)
   ·by_cases h0 : l < g.n0
    ·exact hM ⟨l, h, by rw [e, hm.old l h0]⟩
    ·rcases hm.new l b hb (by omega) with h2 | h2
     ·omega
     ·exact hM (e ▸ h2)
  refine ⟨hm.up.os, hm.up.tape, hm.up.output, ?_, ?_⟩
  ·have : (W.setRow (β l) (denL β (splice b.cs o vs)).toArray).heap.size = W.heap.size := by simp [World.setRow]
   rw [this]; exact hm.up.size
  ·intro k hk hM
   rw [setRow_other _ _ _ _ (hne k hk hM)]
   exact hm.up.block k hk hM
theorem upon_ok {o : Oper} {next : Act -> World -> Prop} {Q : Exit -> Act -> World -> Prop} {v : Value} {W' : World} (h : (execOp a.eval o).run P W = .ok (.value v) W') (hn : next (a.put o.dst v) W') : o.wp P a W next Q := by
 unfold Oper.wp
 rw [h]; exact hn
theorem upon_skip' {o : Oper} {next : Act -> World -> Prop} {Q : Exit -> Act -> World -> Prop} {W' : World} (h : (execOp a.eval o).run P W = .ok .skip W') (hn : next (a.put o.dst undef) W') : o.wp P a W next Q := by
 unfold Oper.wp
 rw [h]; exact hn
theorem rep_spec (z : List SV) (hz : z ≠ []) (m : Nat) : rep m z = (List.range (m * z.length)).map fun q => z.getD (q % z.length) default := by
 have hpos : 0 < z.length := List.length_pos_iff.2 hz
 induction m with
 | zero => simp [rep]
 | succ m ih =>
   rw [rep, ih, show (m + 1) * z.length = z.length + m * z.length by rw [Nat.add_mul]; omega, List.range_add, List.map_append]
   congr 1
   ·apply List.ext_getElem?
    intro q
    by_cases h : q < z.length
    ·simp [h, Nat.mod_eq_of_lt h]
    ·simp [Nat.not_lt.1 h]
   ·rw [List.map_map]
    apply List.map_congr_left
    intro q _
    simp [Nat.add_mod_left]
theorem rep_bd {k : Nat -> Prop} {z : List SV} (h : bdL k z) (m : Nat) : bdL k (rep m z) := by
 induction m with
 | zero => trivial
 | succ m ih =>
   rw [rep, bdL_iff]
   intro v hv
   rcases List.mem_append.1 hv with hv | hv
   ·exact (bdL_iff _ _).1 h v hv
   ·exact (bdL_iff _ _).1 ih v hv
theorem buildSlice_sound (hT : TOk P T) (hf : Fra g β F n a) {t : Nat} {i : Ty} (ht : T t = some i) {e es : Nat} (hd : i.d = .sl e es) {j : Ty} (hj : T e = some j) {m : Nat} (hm1 : m * j.sz <= 16777216) (hm2 : 1 <= m * j.sz)
 {parts : Array (Nat × Operand)} {cs : List SV} (h : fillS (place i) F (rep m j.z) parts.toList = some cs) :
 (Instr.buildSlice t m (parts.map fun p => (p.1, a.eval p.2))).run P W = .ok (.slice (some ⟨W.heap.size, 0, none⟩) m m) (W.alloc (.cells (denL β cs).toArray e)) /\ bdL n cs := by
 obtain ⟨hu, hs⟩ := sl_of hT ht hd
 obtain ⟨info, hi, hsz, z, hz, hzc, hzb, _, hzn⟩ := ty_size (β := β) hT hj
 have hes : es = j.sz := by
  have := ty_sizeB hT hj
  rw [this] at hs
  exact (Option.some.inj hs).symm
 subst hes
 have hzl : z.cells.size = j.z.length := by rw [<- Array.length_toList, hzc, denL_eq, List.length_map]
 have hpm : (parts.map fun p => (p.1, a.eval p.2)).toList = parts.toList.map fun p => (p.1, a.eval p.2) := by simp
 obtain ⟨r1, r2⟩ := fillS_sound hf (pl' := fun k => some (k * info.size, info.size)) (fun k p hk => by simp only [place, hd] at hk; rw [hsz]; exact hk) (rep_bd (hzb n) m) h
 refine ⟨run_buildSlice W t e m _ _ info z hu hi hz (by rw [hsz]; omega) (by rw [hsz]; omega) ?_, r2⟩
 rw [hpm, <- r1]
 congr 1
 apply Array.ext'
 have hne : j.z ≠ [] := by
  intro e
  rw [e] at hzn
  simp only [List.length_nil] at hzn
  rw [<- hzn] at hm2
  omega
 rw [denL_eq, rep_spec _ hne, List.map_map, hzn, <- hsz]
 simp only [Array.toList_map, Array.toList_range]
 apply List.map_congr_left
 intro q _
 have hlt : q % info.size < j.z.length := by rw [hzn, <- hsz]; exact Nat.mod_lt _ (by rw [hsz, <- hzn]; exact List.length_pos_iff.2 hne)
 have hzs : z.cells.size = info.size := by rw [hzl, hzn, hsz]
 simp only [Function.comp]
 rw [hzs]
 have h1 : z.cells[q % info.size]? = some (den β (j.z.getD (q % info.size) default)) := by
  rw [<- Array.getElem?_toList, hzc, denL_eq, List.getElem?_map, List.getElem?_eq_getElem hlt, List.getD_eq_getElem?_getD, List.getElem?_eq_getElem hlt]
  rfl
 have h2 : q % info.size < z.cells.size := by rw [hzl]; exact hlt
 rw [getElem!_pos z.cells _ h2]
 rw [Array.getElem?_eq_getElem h2] at h1
 exact Option.some.inj h1
inductive Eff where
 | val (v : SV)
 | new (v : Nat -> SV) (cs : List SV) (t : TypeId)
 | wr (l : Nat) (o : Nat) (vs : List SV)
inductive Runs (T : Nat -> Option Ty) (F : Nat -> Option SV) (L : Nat -> Option Blk) : Op -> Eff -> Prop
 | val {op : Op} {v : SV} : native T F op = true -> valV Ar.real T F L op = some v -> Runs T F L op (.val v)
 | alloc {e : Nat} {i : Ty} : T e = some i -> Runs T F L (.alloc e) (.new (fun n => .ptr n 0) i.z e)
 | box {e : Nat} {x : Operand} {v : SV} : ev F x = some v -> noRaw v = true -> Runs T F L (.box e x) (.new (fun n => .ptr n 0) (cellsOf v) e)
 | buildSlice {t m e es : Nat} {parts : Array (Nat × Operand)} {i j : Ty} {cs : List SV} : T t = some i -> i.d = .sl e es -> T e = some j -> m * j.sz <= 16777216 -> 1 <= m * j.sz -> fillS (place i) F (rep m j.z) parts.toList = some cs ->
  Runs T F L (.buildSlice t m parts) (.new (fun n => .slice n 0 m m) cs e)
 | store {t : Nat} {x y : Operand} {p u : SV} {i : Ty} {l o : Nat} {b : Blk} : ev F x = some p -> ev F y = some u -> T t = some i -> (cellsOf u).length = i.sz -> ones (cellsOf u) = true -> L l = some b -> (p = .ptr l o \/ p = .ptrS l o) -> o + (cellsOf u).length <= b.cs.length ->
  Runs T F L (.store t x y) (.wr l o (cellsOf u))
set_option maxHeartbeats 1000000 in
theorem Runs.sound (hT : TOk P T) (hm : Mem g β L n W) (hf : Fra g β F n a) {o : Oper} (hd : ∀ t, o.dst = some t -> t < g.N) {e : Eff} (hr : Runs T F L o.op e) {next : Act -> World -> Prop} {Q : Exit -> Act -> World -> Prop} :
 (∀ v, e = .val v -> (∀ a' W', bd n v -> Mem g β L n W' -> Fra g β (upF F o.dst v) n a' -> next a' W') -> o.wp P a W next Q) /\
 (∀ f cs t k, e = .new f cs t -> ¬ n k -> (∀ γ a' W', (∀ l, n l -> γ l = β l) -> bdL n cs -> Mem g γ (upL L k ⟨k, cs, t⟩) (fun l => n l \/ l = k) W' -> Fra g γ (upF F o.dst (f k)) (fun l => n l \/ l = k) a' -> next a' W') -> o.wp P a W next Q) /\
 (∀ l q vs b, e = .wr l q vs -> L l = some b -> own g.n0 g.ms l = true -> (∀ a' W', bdL n vs -> Mem g β (upL L l ⟨b.l, splice b.cs q vs, b.t⟩) n W' -> Fra g β (upF F o.dst (.raw undef)) n a' -> next a' W') -> o.wp P a W next Q) := by
 have news : ∀ {e : Nat} {cs : List SV} {f : Nat -> SV} {s : Sem Value} {k : Nat}, execOp a.eval o = (do pure (.value (<- s))) -> bdL n cs -> (∀ γ : Nat -> Nat, γ k = W.heap.size -> s.run P W = .ok (den γ (f k)) (W.alloc (.cells (denL β cs).toArray e))) -> bd (fun l => n l \/ l = k) (f k) -> ¬ n k ->
  (∀ γ a' W', (∀ l, n l -> γ l = β l) -> bdL n cs -> Mem g γ (upL L k ⟨k, cs, e⟩) (fun l => n l \/ l = k) W' -> Fra g γ (upF F o.dst (f k)) (fun l => n l \/ l = k) a' -> next a' W') -> o.wp P a W next Q := by
  intro e cs f s k he hb hs hbr hk hnext
  obtain ⟨γ, g1, g2, g3⟩ := hm.alloc hk hb e
  exact upon_ok (v_run he (hs γ g2)) (hnext γ _ _ g1 hb g3 ((hf.mono g1 (fun l hl => Or.inl hl)).put hd hbr))
 generalize hop : o.op = op at hr
 cases hr with
 | val hn hv =>
   subst hop
   refine ⟨?_, fun _ _ _ _ h => (by cases h), fun _ _ _ _ h => (by cases h)⟩
   intro v e hnext
   cases e
   obtain ⟨e1, b1⟩ := valV_sound hT hm hf hn hv
   exact upon_ok e1 (hnext _ _ b1 hm (hf.put hd b1))
 | @alloc ee ii ht =>
   refine ⟨fun _ h => (by cases h), ?_, fun _ _ _ _ h => (by cases h)⟩
   rintro f cs t k e hk hnext
   cases e
   obtain ⟨info, hi, hsz, z, hz, hzc, hzb, _⟩ := ty_size (β := β) hT ht
   have hz0 : z.cells = (denL β ii.z).toArray := by rw [<- hzc]
   refine news (e := ee) (f := fun n => .ptr n 0) (s := Instr.alloc ee true (.tuple #[])) (by unfold execOp; simp only [hop]) (hzb n) ?_ (show bd (fun l => n l \/ l = k) (.ptr k 0) from Or.inr rfl) hk hnext
   intro γ hγ
   simp [Instr.alloc, zeroValue, typeInfo, hi, hz, newVar, newRow, hz0, den, hγ]
 | @box ee x v hx hr =>
   refine ⟨fun _ h => (by cases h), ?_, fun _ _ _ _ h => (by cases h)⟩
   rintro f cs t k e hk hnext
   cases e
   obtain ⟨e0, b0⟩ := ev_sound hf hx
   refine news (e := ee) (f := fun n => .ptr n 0) (s := Instr.box ee (a.eval x)) (by unfold execOp; simp only [hop]) (bd_cells b0) ?_ (show bd (fun l => n l \/ l = k) (.ptr k 0) from Or.inr rfl) hk hnext
   intro γ hγ
   simp [Instr.box, newVar, newRow, e0, cells_den2 β hr, den, hγ]
 | @buildSlice tt m ee es parts ii jj cs0 ht hd' hj h1 h2 hs =>
   refine ⟨fun _ h => (by cases h), ?_, fun _ _ _ _ h => (by cases h)⟩
   rintro f cs t k e hk hnext
   cases e
   obtain ⟨r1, r2⟩ := buildSlice_sound (W := W) hT hf ht hd' hj h1 h2 hs
   refine news (e := ee) (f := fun n => .slice n 0 m m) (s := Instr.buildSlice tt m (parts.map fun p => (p.1, a.eval p.2))) (by unfold execOp; simp only [hop]) r2 ?_ (show bd (fun l => n l \/ l = k) (.slice k 0 m m) from Or.inr rfl) hk hnext
   intro γ hγ
   simpa [den, hγ] using r1
 | @store tt x y p u ii ll oo bb hx hy ht hlen hones hL hp hle =>
   refine ⟨fun _ h => (by cases h), fun _ _ _ _ h => (by cases h), ?_⟩
   rintro l q vs b e hb hown hnext
   cases e
   obtain rfl : b = bb := Option.some.inj (hb.symm.trans hL)
   obtain ⟨e0, b0⟩ := ev_sound hf hx
   obtain ⟨e1, b1⟩ := ev_sound hf hy
   have hnr : noRaw u = true := by
    cases u <;> simp_all [noRaw, cellsOf, ones, one]
   have hpd : den β p = .pointer (some ⟨β ll, oo, none⟩) := by rcases hp with rfl | rfl <;> rfl
   obtain ⟨mk, hmk, hcell⟩ := hm.cell ll b hb
   have hrun := run_store_any (P := P) (W := W) (off := oo) hcell (by simpa [denL_eq] using hmk hown) (cells_den2 β hnr) (ty_sizeB hT ht) (by rw [denL_eq, List.length_map, hlen]) (by rw [denL_eq, List.length_map]; omega)
    (fun x hx => by
     rw [denL_eq] at hx
     obtain ⟨y, hy, rfl⟩ := List.mem_map.1 hx
     exact one_den β (ones_all hones y hy))
   have he : (execOp a.eval o).run P W = .ok .skip (W.setRow (β ll) (denL β (splice b.cs oo (cellsOf u))).toArray) := by
    unfold execOp
    simp only [hop, e0, e1, hpd, Instr.storeAt, Instr.sureAddr, Sem.run_bind, Sem.run_pure, Result.andThen_ok, hrun]
    rw [splice_den]
    simp [denL_eq]
   exact upon_skip' he (hnext _ _ (bd_cells b1) (hm.store hb (by omega) hown (bd_cells b1)) (hf.put hd (v := .raw undef) (by simp [bd])))
theorem vcOp_cases {F : FF} {L : LL} {n n0 : Nat} {ms : List Nat} {o : Oper} {S : Prop} {Kv : FF -> Prop} {Kn : FF -> Blk -> Prop} {Kw : FF -> Nat -> List SV -> Prop} (h : vcOpG T Ar.real n0 ms S Kv Kn Kw o F L n) :
 S \/ (∃ v, Runs T (look F) (find L) o.op (.val v) /\ Kv (putO F o.dst v)) \/ (∃ f cs t, Runs T (look F) (find L) o.op (.new f cs t) /\ Kn (putO F o.dst (f n)) ⟨n, cs, t⟩) \/
 (∃ l q vs b, Runs T (look F) (find L) o.op (.wr l q vs) /\ find L l = some b /\ own n0 ms l = true /\ Kw (putO F o.dst (.raw undef)) l (splice b.cs q vs)) := by
 have other : (match native T (look F) o.op with
  | true => match valV Ar.real T (look F) (find L) o.op with
    | some v => Kv (putO F o.dst v)
    | none => False
  | false => S) -> S \/ (∃ v, Runs T (look F) (find L) o.op (.val v) /\ Kv (putO F o.dst v)) := by
  intro h2
  cases hn : native T (look F) o.op with
  | false => simp only [hn] at h2; exact Or.inl h2
  | true =>
    simp only [hn] at h2
    cases hv : valV Ar.real T (look F) (find L) o.op with
    | none => simp [hv] at h2
    | some r => simp only [hv] at h2; exact Or.inr ⟨r, .val hn hv, h2⟩
 unfold vcOpG at h
 split at h
 ·rename_i e ho
  cases ht : T e with
  | none => simp [ht] at h
  | some i =>
    simp only [ht] at h
    exact Or.inr (Or.inr (Or.inl ⟨_, _, _, by rw [ho]; exact .alloc ht, h⟩))
 ·rename_i e x ho
  cases hx : ev (look F) x with
  | none => simp [hx] at h
  | some v =>
    simp only [hx] at h
    cases hr : noRaw v with
    | false => simp [hr] at h
    | true =>
      simp only [hr] at h
      exact Or.inr (Or.inr (Or.inl ⟨_, _, _, by rw [ho]; exact .box hx hr, h⟩))
 ·rename_i t m parts ho
  cases ht : T t with
  | none => simp [ht] at h
  | some i =>
    simp only [ht] at h
    cases hd' : i.d with
    | sl e es =>
      simp only [hd'] at h
      cases hj : T e with
      | none => simp [hj] at h
      | some j =>
        simp only [hj] at h
        cases hb1 : Nat.ble (m * j.sz) 16777216 with
        | false => simp [hb1] at h
        | true =>
          cases hb2 : Nat.ble 1 (m * j.sz) with
          | false =>
            simp only [hb1, hb2] at h
            exact Or.inl h
          | true =>
            simp only [hb1, hb2] at h
            cases hs : fillS (place i) (look F) (rep m j.z) parts.toList with
            | none => simp [hs] at h
            | some cs =>
              simp only [hs] at h
              exact Or.inr (Or.inr (Or.inl ⟨_, _, _, by rw [ho]; exact .buildSlice ht hd' hj (Nat.le_of_ble_eq_true hb1) (Nat.le_of_ble_eq_true hb2) hs, h⟩))
    | _ => simp [hd'] at h
 ·rename_i t x v ho
  cases hx : ev (look F) x with
  | none => simp [hx] at h
  | some p =>
    cases hv : ev (look F) v with
    | none => simp [hx, hv] at h
    | some u =>
      cases ht : T t with
      | none => simp [hx, hv, ht] at h
      | some i =>
        simp only [hx, hv, ht] at h
        cases hb1 : Nat.beq (cellsOf u).length i.sz with
        | false => simp [hb1] at h
        | true =>
          cases hb2 : ones (cellsOf u) with
          | false => simp [hb1, hb2] at h
          | true =>
            simp only [hb1, hb2] at h
            cases hw : wr Ar.real (find L) (cellsOf u) p with
            | none => simp [hw] at h
            | some q =>
              obtain ⟨l, cs⟩ := q
              simp only [hw] at h
              cases ho2 : own n0 ms l with
              | false => simp [ho2] at h
              | true =>
                simp only [ho2] at h
                have hlen : (cellsOf u).length = i.sz := Nat.eq_of_beq_eq_true hb1
                have key : ∃ b o', find L l = some b /\ (p = .ptr l o' \/ p = .ptrS l o') /\ o' + (cellsOf u).length <= b.cs.length /\ cs = splice b.cs o' (cellsOf u) := by
                 cases p with
                 | ptr l' o' =>
                   simp only [wr] at hw
                   cases hf' : find L l' with
                   | none => simp [hf'] at hw
                   | some b =>
                     simp only [hf'] at hw
                     cases hs : spl1 b.cs o' (cellsOf u) with
                     | none => simp [hs] at hw
                     | some cs' =>
                       simp only [hs, Option.some.injEq, Prod.mk.injEq] at hw
                       obtain ⟨rfl, rfl⟩ := hw
                       unfold spl1 at hs
                       split at hs
                       ·rename_i hbl
                        exact ⟨b, o', hf', Or.inl rfl, Nat.le_of_ble_eq_true hbl, (Option.some.inj hs).symm⟩
                       ·cases hs
                 | ptrS l' o' =>
                   simp only [wr] at hw
                   cases hf' : find L l' with
                   | none => simp [hf'] at hw
                   | some b =>
                     simp only [hf'] at hw
                     cases hs : Ar.real.spl b.cs o' (cellsOf u) with
                     | none => simp [hs] at hw
                     | some cs' =>
                       simp only [hs, Option.some.injEq, Prod.mk.injEq] at hw
                       obtain ⟨rfl, rfl⟩ := hw
                       simp only [Ar.real] at hs
                       split at hs
                       ·rename_i hbl
                        exact ⟨b, o', hf', Or.inr rfl, hbl, (Option.some.inj hs).symm⟩
                       ·cases hs
                 | _ => simp [wr] at hw
                obtain ⟨b, o', hfb, hp, hle, rfl⟩ := key
                exact Or.inr (Or.inr (Or.inr ⟨l, o', _, b, by rw [ho]; exact .store hx hv ht hlen hb2 hfb hp hle, hfb, ho2, h⟩))
 ·exact (other h).imp id Or.inl
theorem vcOp_sound (hT : TOk P T) {F : FF} {L : LL} {n : Nat} {n0 : Nat} {ms : List Nat} (h0 : g.n0 = n0) (h1 : g.ms = ms) {o : Oper} (hd : ∀ t, o.dst = some t -> t < g.N) {K : FF -> LL -> Nat -> Prop} (h : vcOp T Ar.real P g n0 ms o K F L n) :
 Step g P o K F L n := by
 subst h0 h1
 rcases vcOp_cases h with h | ⟨v, hr, hk⟩ | ⟨f, cs, t, hr, hk⟩ | ⟨l, q, vs, b, hr, hb, hown, hk⟩
 ·exact h
 ·refine ⟨?_⟩
  rintro a W ⟨β, hm, hf⟩ next Q hK
  refine (Runs.sound hT hm hf hd hr).1 v rfl fun a' W' _ hm' hf' => hK _ _ _ _ _ hk ⟨β, hm', ?_⟩
  rw [look_putO]; exact hf'
 ·refine ⟨?_⟩
  rintro a W ⟨β, hm, hf⟩ next Q hK
  refine (Runs.sound hT hm hf hd hr).2.1 f cs t n rfl (Nat.lt_irrefl n) fun γ a' W' _ _ hm' hf' => hK _ _ _ _ _ hk ⟨γ, ?_, ?_⟩
  ·rw [find_new (fun l b h => (hm.bL l b h).1), <- succ_p]; exact hm'
  ·rw [look_putO, <- succ_p]; exact hf'
 ·refine ⟨?_⟩
  rintro a W ⟨β, hm, hf⟩ next Q hK
  refine (Runs.sound hT hm hf hd hr).2.2 l q vs b rfl hb hown fun a' W' _ hm' hf' => hK _ _ _ _ _ hk ⟨β, ?_, ?_⟩
  ·have : find (updL L l (splice b.cs q vs)) = upL (find L) l ⟨b.l, splice b.cs q vs, b.t⟩ := by
    funext k
    rw [find_updL, hb]; rfl
   rw [this]; exact hm'
  ·rw [look_putO]; exact hf'
end
end Go.Vg
end
section
namespace Go.Vg
open Go.RowKit
def Qn (g : G) (K : FF -> LL -> Nat -> Prop) : Exit -> Act -> World -> Prop
 | .normal, a, W => ∃ F L n, K F L n /\ St g F L n a W
 | _, _, _ => False
def up (g : G) (Q : Exit -> FF -> LL -> Nat -> Prop) : Exit -> Act -> World -> Prop := fun e a W => ∃ F L n, Q e F L n /\ St g F L n a W
structure Reg (g : G) (P : Program) (id : Nat) (ops : Array Oper) (K : FF -> LL -> Nat -> Prop) (F : FF) (L : LL) (n : Nat) : Prop where
 run : ∀ a W, St g F L n a W -> (Code.region id ops true).wp P (Qn g K) a W
mutual
def ren (ρ : Nat -> Nat) : SV -> SV
 | .ptr l o => .ptr (ρ l) o
 | .ptrS l o => .ptrS (ρ l) o
 | .slice l o n c => .slice (ρ l) o n c
 | .fn f a b => .fn f (renL ρ a) (renL ρ b)
 | .agg cs => .agg (renL ρ cs)
 | .tup vs => .tup (renL ρ vs)
 | v => v
def renL (ρ : Nat -> Nat) : List SV -> List SV
 | [] => []
 | v :: vs => ren ρ v :: renL ρ vs
end
mutual
theorem den_ren (β ρ : Nat -> Nat) : ∀ v, den β (ren ρ v) = den (fun l => β (ρ l)) v
 | .ptr _ _ | .ptrS _ _ | .slice _ _ _ _ | .bool _ | .int _ _ | .str _ | .nilp | .nils | .nilfn | .raw _ => by simp [ren, den]
 | .fn _ a b => by simp only [ren, den, denL_ren β ρ a, denL_ren β ρ b]
 | .agg cs => by simp only [ren, den, denL_ren β ρ cs]
 | .tup vs => by simp only [ren, den, denL_ren β ρ vs]
theorem denL_ren (β ρ : Nat -> Nat) : ∀ l, denL β (renL ρ l) = denL (fun l => β (ρ l)) l
 | [] => rfl
 | v :: vs => by simp only [renL, denL, den_ren β ρ v, denL_ren β ρ vs]
end
theorem renL_length (ρ : Nat -> Nat) : ∀ l, (renL ρ l).length = l.length
 | [] => rfl
 | v :: vs => by rw [renL, List.length_cons, List.length_cons, renL_length ρ vs]
def wkF (ρ : Nat -> Nat) (n' : Nat) (F : FF) : FF -> Prop
 | [] => True
 | (t, v) :: F' => look F t = some (ren ρ v) /\ bd (fun l => l < n') v /\ wkF ρ n' F F'
def wkL (ρ : Nat -> Nat) (n0 n' : Nat) (L : LL) : LL -> Prop
 | [] => True
 | b :: L' => find L (ρ b.l) = some ⟨ρ b.l, renL ρ b.cs, b.t⟩ /\ Nat.blt b.l n' = true /\ (Nat.blt b.l n0 || Nat.ble n0 (ρ b.l)) = true /\ bdL (fun l => l < n') b.cs /\ wkL ρ n0 n' L L'
def ndN : List Nat -> Bool
 | [] => true
 | x :: xs => (!memN xs x) && ndN xs
def below (f : Nat -> Bool) : Nat -> Bool
 | 0 => true
 | n + 1 => f n && below f n
def Weak (n0 : Nat) (ρ : Nat -> Nat) (F' : FF) (L' : LL) (n' : Nat) (F : FF) (L : LL) (_ : Nat) : Prop :=
 wkF ρ n' F F' /\ wkL ρ n0 n' L L' /\ ndN (L'.map fun b => ρ b.l) = true /\ Nat.ble n0 n' = true /\ below (fun l => Nat.beq (ρ l) l) n0 = true
theorem wkF_look {ρ : Nat -> Nat} {n' : Nat} {F F' : FF} (h : wkF ρ n' F F') {t : Nat} {v : SV} (hv : look F' t = some v) : look F t = some (ren ρ v) /\ bd (fun l => l < n') v := by
 induction F' with
 | nil => simp [look] at hv
 | cons p F' ih =>
   obtain ⟨s, u⟩ := p
   simp only [wkF] at h
   simp only [look] at hv
   by_cases hs : s = t
   ·rw [if_pos hs] at hv
    obtain rfl := Option.some.inj hv
    exact ⟨hs ▸ h.1, h.2.1⟩
   ·rw [if_neg hs] at hv
    exact ih h.2.2 hv
theorem wkL_mem {ρ : Nat -> Nat} {n0 n' : Nat} {L L' : LL} (h : wkL ρ n0 n' L L') {b : Blk} (hb : b ∈ L') : find L (ρ b.l) = some ⟨ρ b.l, renL ρ b.cs, b.t⟩ /\ b.l < n' /\ (n0 <= b.l -> n0 <= ρ b.l) /\ bdL (fun l => l < n') b.cs := by
 induction L' with
 | nil => cases hb
 | cons c L' ih =>
   simp only [wkL] at h
   rcases List.mem_cons.1 hb with rfl | hb
   ·refine ⟨h.1, Nat.le_of_ble_eq_true h.2.1, fun h2 => ?_, h.2.2.2.1⟩
    have := h.2.2.1
    simp only [Bool.or_eq_true] at this
    rcases this with h3 | h3
    ·have := Nat.le_of_ble_eq_true h3; omega
    ·exact Nat.le_of_ble_eq_true h3
   ·exact ih h.2.2.2.2 hb
theorem ndN_nodup {l : List Nat} (h : ndN l = true) : l.Nodup := by
 induction l with
 | nil => simp
 | cons x xs ih =>
   simp only [ndN, Bool.and_eq_true, Bool.not_eq_true'] at h
   refine List.nodup_cons.2 ⟨fun hx => ?_, ih h.2⟩
   have : memN xs x = true := by
    clear ih
    have h2 := hx
    clear h hx
    induction xs with
    | nil => cases h2
    | cons y ys ih =>
      simp only [memN]
      by_cases hy : y = x
      ·simp [hy]
      ·rw [if_neg hy]
       exact ih ((List.mem_cons.1 h2).resolve_left (fun e => hy e.symm))
   rw [h.1] at this
   cases this
theorem below_at {f : Nat -> Bool} {n l : Nat} (h : below f n = true) (hl : l < n) : f l = true := by
 induction n with
 | zero => omega
 | succ n ih =>
   simp only [below, Bool.and_eq_true] at h
   by_cases e : l = n
   ·subst e; exact h.1
   ·exact ih h.2 (by omega)
theorem nodup_inj {l : LL} {f : Blk -> Nat} (h : (l.map f).Nodup) {b c : Blk} (hb : b ∈ l) (hc : c ∈ l) (he : f b = f c) : b = c := by
 induction l with
 | nil => cases hb
 | cons x xs ih =>
   simp only [List.map_cons, List.nodup_cons] at h
   rcases List.mem_cons.1 hb with hb | hb <;> rcases List.mem_cons.1 hc with hc | hc
   ·rw [hb, hc]
   ·exact (h.1 (List.mem_map.2 ⟨c, hc, by rw [<- he, hb]⟩)).elim
   ·exact (h.1 (List.mem_map.2 ⟨b, hb, by rw [he, hc]⟩)).elim
   ·exact ih h.2 hb hc
theorem Mem.weak {g : G} {β ρ : Nat -> Nat} {L L' : LL} {n n' : Nat} {W : World} (hm : Mem g β (find L) (fun l => l < n) W) (hL : wkL ρ g.n0 n' L L') (hni : ndN (L'.map fun b => ρ b.l) = true) (hn : Nat.ble g.n0 n' = true) (hb : below (fun l => Nat.beq (ρ l) l) g.n0 = true) :
 Mem g (fun l => β (ρ l)) (find L') (fun l => l < n') W := by
 have hn' := Nat.le_of_ble_eq_true hn
 refine ⟨fun l hl => Nat.lt_of_lt_of_le hl hn', ?_, ?_, ?_, ?_, ?_, hm.up⟩
 ·intro l hl
  have := Nat.eq_of_beq_eq_true (below_at (f := fun l => Nat.beq (ρ l) l) hb hl)
  show β (ρ l) = _
  rw [this]; exact hm.old l hl
 ·intro l b h hl
  obtain ⟨hbm, rfl⟩ := find_mem h
  obtain ⟨h1, _, h3, _⟩ := wkL_mem hL hbm
  exact hm.new _ _ h1 (h3 hl)
 ·intro l b l' b' h h' ho he
  obtain ⟨hbm, rfl⟩ := find_mem h
  obtain ⟨hbm', rfl⟩ := find_mem h'
  have ho' : own g.n0 g.ms (ρ b.l) = true := by
   by_cases h0 : b.l < g.n0
   ·rw [Nat.eq_of_beq_eq_true (below_at (f := fun l => Nat.beq (ρ l) l) hb h0)]; exact ho
   ·unfold own
    rw [Nat.ble_eq_true_of_le ((wkL_mem hL hbm).2.2.1 (by omega))]
  have := hm.inj _ _ _ _ (wkL_mem hL hbm).1 (wkL_mem hL hbm').1 ho' he
  have := nodup_inj (f := fun b => ρ b.l) (ndN_nodup hni) hbm hbm' this
  rw [this]
 ·intro l b h
  obtain ⟨hbm, rfl⟩ := find_mem h
  obtain ⟨m, h1, h2⟩ := hm.cell _ _ (wkL_mem hL hbm).1
  rw [denL_ren] at h2
  refine ⟨m, fun ho => ?_, h2⟩
  rw [renL_length] at h1
  refine h1 ?_
  by_cases h0 : b.l < g.n0
  ·show own g.n0 g.ms (ρ b.l) = true
   rw [Nat.eq_of_beq_eq_true (below_at (f := fun l => Nat.beq (ρ l) l) hb h0)]; exact ho
  ·show own g.n0 g.ms (ρ b.l) = true
   unfold own
   rw [Nat.ble_eq_true_of_le ((wkL_mem hL hbm).2.2.1 (by omega))]
 ·intro l b h
  obtain ⟨hbm, rfl⟩ := find_mem h
  obtain ⟨_, h2, _, h4⟩ := wkL_mem hL hbm
  exact ⟨h2, h4⟩
theorem St.weak {g : G} {ρ : Nat -> Nat} {F' F : FF} {L' L : LL} {n' n : Nat} {a : Act} {W : World} (h : Weak g.n0 ρ F' L' n' F L n) (hs : St g F L n a W) : St g F' L' n' a W := by
 obtain ⟨β, hm, hf⟩ := hs
 obtain ⟨hF, hL, hni, hn, hb⟩ := h
 refine ⟨fun l => β (ρ l), hm.weak hL hni hn hb, ⟨hf.size, hf.defs, ?_, ?_⟩⟩
 ·intro t v hv
  exact (wkF_look hF hv).2
 ·intro t v hv
  have := hf.fr t _ (wkF_look hF hv).1
  rw [den_ren] at this
  exact this
section
variable (T : Nat -> Option Ty) (A : Ar) (P : Program) (g : G) (n0 : Nat) (ms : List Nat)
def onSeq (next : FF -> LL -> Nat -> Prop) (Q : Exit -> FF -> LL -> Nat -> Prop) : Exit -> FF -> LL -> Nat -> Prop
 | .normal => next
 | .exit i => Q (.exit i)
 | .goto l => Q (.goto l)
 | .ret => Q .ret
 | .panic c => Q (.panic c)
 | .outgrown => Q .outgrown
def onBlock (id : Nat) (Q : Exit -> FF -> LL -> Nat -> Prop) : Exit -> FF -> LL -> Nat -> Prop
 | .exit i => match Nat.beq i id with
   | true => Q .normal
   | false => Q (.exit i)
 | .normal => Q .normal
 | .goto l => Q (.goto l)
 | .ret => Q .ret
 | .panic c => Q (.panic c)
 | .outgrown => Q .outgrown
def onLoop (I : FF -> LL -> Nat -> Prop) (Q : Exit -> FF -> LL -> Nat -> Prop) : Exit -> FF -> LL -> Nat -> Prop
 | .normal => I
 | .exit i => Q (.exit i)
 | .goto l => Q (.goto l)
 | .ret => Q .ret
 | .panic c => Q (.panic c)
 | .outgrown => Q .outgrown
structure LoopP (n0 : Nat) (c : Code) (body : (Exit -> FF -> LL -> Nat -> Prop) -> FF -> LL -> Nat -> Prop) (Q : Exit -> FF -> LL -> Nat -> Prop) (F : FF) (L : LL) (n : Nat) : Prop where
 out : ∃ (σ : Type) (ok : σ -> Prop) (m : σ -> Nat) (IF : σ -> FF) (IL : σ -> LL) (nI : Nat), (∃ s ρ, ok s /\ Weak n0 ρ (IF s) (IL s) nI F L n) /\
  ∀ s, ok s -> body (onLoop (fun F' L' n' => ∃ s' ρ, ok s' /\ m s' < m s /\ Weak n0 ρ (IF s') (IL s') nI F' L' n') Q) (IF s) (IL s) nI
def vcC : Code -> (Exit -> FF -> LL -> Nat -> Prop) -> FF -> LL -> Nat -> Prop
 | .skip, Q, F, L, n => Q .normal F L n
 | .region id ops draw, Q, F, L, n => match draw with
   | false => vcL T A P g n0 ms ops.toList ops.toList (Q .normal) F L n
   | true => Reg g P id ops (Q .normal) F L n
 | .seq x y, Q, F, L, n => vcC x (onSeq (vcC y Q) Q) F L n
 | .cond c x y, Q, F, L, n => match ev (look F) c with
   | some (.bool t) => match t with
     | true => vcC x Q F L n
     | false => vcC y Q F L n
   | _ => False
 | .block id c, Q, F, L, n => vcC c (onBlock id Q) F L n
 | .loop c, Q, F, L, n => LoopP n0 c (vcC c) Q F L n
 | .exit id, Q, F, L, n => Q (.exit id) F L n
 | .ret, Q, F, L, n => Q .ret F L n
 | _, _, _, _, _ => False
def dstsB (N : Nat) : Code -> Bool
 | .region _ ops _ => ops.toList.all fun o => match o.dst with
   | some d => Nat.blt d N
   | none => true
 | .seq x y | .cond _ x y => dstsB N x && dstsB N y
 | .block _ c | .loop c | .scope c => dstsB N c
 | _ => true
end
section
variable {T : Nat -> Option Ty} {P : Program} {g : G} {n0 : Nat} {ms : List Nat}
theorem vcL_sound (hT : TOk P T) (h0 : g.n0 = n0) (h1 : g.ms = ms) {all : List Oper} {K : FF -> LL -> Nat -> Prop} : ∀ {rest : List Oper}, (∀ o ∈ rest, ∀ t, o.dst = some t -> t < g.N) -> ∀ {F : FF} {L : LL} {n : Nat}, vcL T Ar.real P g n0 ms all rest K F L n ->
 ∀ {a : Act} {W : World}, St g F L n a W -> wpList P all.toArray (Qn g K) rest a W
 | [], _, F, L, n, h, a, W, hs => ⟨F, L, n, h, hs⟩
 | o :: rest, hd, F, L, n, h, a, W, hs => by
   have hd1 := hd o List.mem_cons_self
   have ih := @vcL_sound hT h0 h1 all K rest (fun o ho => hd o (List.mem_cons_of_mem _ ho))
   have exec : vcOp T Ar.real P g n0 ms o (vcL T Ar.real P g n0 ms all rest K) F L n -> o.wp P a W (wpList P all.toArray (Qn g K) rest) (Qn g K) := fun h2 =>
    (vcOp_sound hT h0 h1 hd1 h2).run a W hs _ _ fun F' L' n' a' W' hk hs' => ih hk hs'
   have skip : vcL T Ar.real P g n0 ms all rest K (putO F o.dst (.raw undef)) L n -> wpList P all.toArray (Qn g K) rest (a.put o.dst undef) W := fun h2 => by
    obtain ⟨β, hm, hf⟩ := hs
    exact ih h2 ⟨β, hm, by rw [look_putO]; exact hf.put hd1 (v := .raw undef) (by simp [bd])⟩
   simp only [vcL] at h
   unfold wpList
   cases hgd : o.guard with
   | none =>
     simp only [hgd] at h
     rw [if_pos (by simp [Region.wanted, hgd])]
     exact .inl (exec h)
   | some p =>
     obtain ⟨j, b⟩ := p
     simp only [hgd] at h
     cases hj : all[j]? with
     | none => simp [hj] at h
     | some oj =>
       simp only [hj] at h
       cases hdj : oj.dst with
       | none => simp [hdj] at h
       | some d =>
         simp only [hdj] at h
         cases hl : look F d with
         | none => simp [hl] at h
         | some v =>
           cases v with
           | bool x =>
             have hy : yielded all.toArray a.tmps j = some x := by
              obtain ⟨β, hm, hf⟩ := hs
              have := hf.fr d _ hl
              unfold yielded
              simp [hj, hdj, this, den]
             simp only [hl] at h
             cases x <;> cases b <;> simp only at h
             ·rw [if_pos (by simp [Region.wanted, hgd, hy])]; exact .inl (exec h)
             ·rw [if_neg (by simp [Region.wanted, hgd, hy])]; exact skip h
             ·rw [if_neg (by simp [Region.wanted, hgd, hy])]; exact skip h
             ·rw [if_pos (by simp [Region.wanted, hgd, hy])]; exact .inl (exec h)
           | raw u =>
             simp only [hl] at h
             cases hu : notB u with
             | false => simp [hu] at h
             | true =>
               simp only [hu] at h
               have hy : yielded all.toArray a.tmps j = none := by
                obtain ⟨β, hm, hf⟩ := hs
                have := hf.fr d _ hl
                unfold yielded
                cases u <;> simp_all [den, notB]
               rw [if_neg (by simp [Region.wanted, hgd, hy])]; exact skip h
           | _ => simp [hl] at h
theorem vcC_sound (hT : TOk P T) (h0 : g.n0 = n0) (h1 : g.ms = ms) : ∀ {c : Code} {Q : Exit -> FF -> LL -> Nat -> Prop}, dstsB g.N c = true -> ∀ {F : FF} {L : LL} {n : Nat}, vcC T Ar.real P g n0 ms c Q F L n ->
 ∀ {a : Act} {W : World}, St g F L n a W -> c.wp P (up g Q) a W := by
 intro c
 induction c with
 | skip => intro Q _ F L n h a W hs; exact wp_skip ⟨F, L, n, h, hs⟩
 | exit id => intro Q _ F L n h a W hs; exact wp_exit ⟨F, L, n, h, hs⟩
 | ret => intro Q _ F L n h a W hs; exact wp_ret ⟨F, L, n, h, hs⟩
 | region id ops draw =>
   intro Q hd F L n h a W hs
   have fin : ∀ e a' W', Qn g (Q .normal) e a' W' -> up g Q e a' W' := by
    intro e a' W' hq
    cases e <;> first | exact hq | exact hq.elim
   cases draw with
   | true => exact wp_mono (Reg.run h a W hs) fin
   | false =>
     refine wp_mono (wp_region_list ?_) fin
     have := vcL_sound hT h0 h1 (all := ops.toList) (K := Q .normal) (rest := ops.toList) (fun o ho t ht => by
      simp only [dstsB, List.all_eq_true] at hd
      have := hd o ho
      simp only [ht] at this
      exact Nat.le_of_ble_eq_true this) (show vcL T Ar.real P g n0 ms ops.toList ops.toList (Q .normal) F L n from h) hs
     simpa using this
 | seq x y ihx ihy =>
   intro Q hd F L n h a W hs
   simp only [dstsB, Bool.and_eq_true] at hd
   refine wp_seq (wp_mono (ihx hd.1 h hs) ?_)
   rintro e a' W' ⟨F', L', n', hq, hs'⟩
   cases e with
   | normal => exact ihy hd.2 hq hs'
   | _ => exact ⟨F', L', n', hq, hs'⟩
 | cond c x y ihx ihy =>
   intro Q hd F L n h a W hs
   simp only [dstsB, Bool.and_eq_true] at hd
   simp only [vcC] at h
   cases he : ev (look F) c with
   | none => simp [he] at h
   | some v =>
     have hs2 := hs
     obtain ⟨β, hm, hf⟩ := hs2
     obtain ⟨e0, _⟩ := ev_sound hf he
     cases v with
     | bool t =>
       simp only [he] at h
       cases t with
       | true => exact wp_cond (t := true) (by rw [e0]; rfl) (ihx hd.1 h hs)
       | false => exact wp_cond (t := false) (by rw [e0]; rfl) (ihy hd.2 h hs)
     | _ => simp [he] at h
 | block id c ih =>
   intro Q hd F L n h a W hs
   refine wp_block (wp_mono (ih hd h hs) ?_)
   rintro e a' W' ⟨F', L', n', hq, hs'⟩
   cases e with
   | exit i =>
     simp only [onBlock] at hq
     simp only [Exit.inBlock]
     cases hb : Nat.beq i id with
     | true =>
       simp only [hb] at hq
       rw [if_pos (Nat.eq_of_beq_eq_true hb)]
       exact ⟨F', L', n', hq, hs'⟩
     | false =>
       simp only [hb] at hq
       rw [if_neg (fun e => by rw [e, Nat.beq_refl] at hb; cases hb)]
       exact ⟨F', L', n', hq, hs'⟩
   | _ => exact ⟨F', L', n', hq, hs'⟩
 | loop c ih =>
   intro Q hd F L n h a W hs
   obtain ⟨⟨σ, ok, m, IF, IL, nI, ⟨s0, ρ0, hok0, hw0⟩, hr⟩⟩ := h
   subst h0
   have st0 : St g (IF s0) (IL s0) nI a W := hs.weak hw0
   have key : ∀ k : Nat, ∀ s, m s = k -> ok s -> ∀ a W, St g (IF s) (IL s) nI a W -> ∀ b kk cs, ∃ e a' w', up g Q e a' w' /\ Arrives P (lone (b.at a (.code c :: .inLoop c :: kk)) cs W) b kk cs e a' w' := by
    intro k
    induction k using Nat.strongRecOn with
    | _ k ihk =>
      intro s hs2 hok a W hst b kk cs
      obtain ⟨e, a1, W1, hq, harr⟩ := ih (show dstsB g.N c = true from hd) (hr s hok) hst b (.inLoop c :: kk) cs
      obtain ⟨F', L', n', hq, hst'⟩ := hq
      cases e with
      | normal =>
        obtain ⟨s', ρ, hok', hlt, hw⟩ := hq
        obtain ⟨e2, a2, W2, hq2, harr2⟩ := ihk (m s') (by omega) s' rfl hok' a1 W1 (hst'.weak hw) b kk cs
        exact ⟨e2, a2, W2, hq2, .of_steps (Steps.trans harr (.one step_inLoop)) harr2⟩
      | exit id => exact ⟨_, a1, W1, ⟨F', L', n', hq, hst'⟩, .pass (x := .inLoop c) rfl (fun _ _ => .inl (by simp)) harr⟩
      | goto l => exact ⟨_, a1, W1, ⟨F', L', n', hq, hst'⟩, .pass (x := .inLoop c) rfl (fun _ _ => .inl (by simp)) harr⟩
      | ret => exact ⟨_, a1, W1, ⟨F', L', n', hq, hst'⟩, .pass (x := .inLoop c) rfl (fun _ _ => .inl (by simp)) harr⟩
      | panic ch => exact ⟨_, a1, W1, ⟨F', L', n', hq, hst'⟩, .pass (x := .inLoop c) rfl (fun _ _ => .inl (by simp)) harr⟩
      | outgrown => exact ⟨_, a1, W1, ⟨F', L', n', hq, hst'⟩, .pass (x := .inLoop c) rfl (fun _ _ => .inl (by simp)) harr⟩
   intro b kk cs
   obtain ⟨e, a', w', hq, harr⟩ := key _ s0 rfl hok0 a W st0 b kk cs
   exact ⟨e, a', w', hq, .of_steps (.one step_loop) harr⟩
 | _ => intro Q _ F L n h; exact h.elim
end
end Go.Vg
end
section
namespace Go.Vg
open Go.RowKit
structure Pre (β : Nat -> Nat) (L : LL) (ms : List Nat) (W : World) : Prop where
 inj : ∀ b ∈ L, ∀ c ∈ L, memN ms b.l = true -> β b.l = β c.l -> b.l = c.l
 cell : ∀ b ∈ L, ∃ m, (memN ms b.l = true -> okM m b.cs.length) /\ W.heap[β b.l]? = some (.cells (denL β b.cs).toArray b.t m)
def Callable (P : Program) (f : FuncId) : Prop := ∃ fn, P.funcs[f]? = some fn /\ fn.body.isNone = false /\ (fn.name == "runtime.NumGoroutine") = false
theorem Callable.of {P : Program} {f : FuncId} {fn : Func} (h : P.funcs[f]? = some fn) (h2 : (fn.body.isNone || fn.name == "runtime.NumGoroutine") = false) : Callable P f := by
 simp only [Bool.or_eq_false_iff] at h2
 exact ⟨fn, h, h2.1, h2.2⟩
structure GI (g : G) (n0 : Nat) (ms : List Nat) (N : Nat) : Prop where
 n0 : g.n0 = n0
 ms : g.ms = ms
 N : g.N = N
def dstLt (N : Nat) (d : Option Nat) : Bool :=
 match d with
 | some d => Nat.blt d N
 | none => true
theorem GI.dst {g : G} {n0 : Nat} {ms : List Nat} {N : Nat} (h : GI g n0 ms N) {d : Option Nat} (hd : dstLt N d = true) : ∀ t, d = some t -> t < g.N := by
 rintro t rfl
 rw [h.N]
 exact Nat.le_of_ble_eq_true hd
def Con (P : Program) (f : FuncId) (args : List SV) (Lp : LL) (n0 : Nat) (ms : List Nat) (R : SV -> LL -> Nat -> Prop) : Prop :=
 Callable P f /\ ∀ (β0 : Nat -> Nat) (W0 : World), Pre β0 Lp ms W0 -> Calls P f (denL β0 args).toArray W0 fun e W => ∃ v L n β, R v L n /\ e = .returned (den β v) /\ bd (fun l => l < n) v /\ Mem ⟨W0, β0, n0, 0, ms⟩ β (find L) (fun l => l < n) W
def resV (T : Nat -> Option Ty) (A : Ar) (F : FF) (L : LL) : ResultVar -> Option SV
 | .tmp t => look F t
 | .cell a t => match look F a with
   | some v => match T t with
     | some i => rd A (find L) i v
     | none => none
   | none => none
def resVs (T : Nat -> Option Ty) (A : Ar) (F : FF) (L : LL) : List ResultVar -> Option (List SV)
 | [] => some []
 | r :: rs => match resV T A F L r with
   | some v => match resVs T A F L rs with
     | some vs => some (v :: vs)
     | none => none
   | none => none
def oneOr : List SV -> SV
 | [v] => v
 | vs => .tup vs
def retK (T : Nat -> Option Ty) (A : Ar) (rs : List ResultVar) (R : SV -> LL -> Nat -> Prop) (F : FF) (L : LL) (n : Nat) : Prop :=
 match resVs T A F L rs with
 | some vs => R (oneOr vs) L n
 | none => False
def retQ (T : Nat -> Option Ty) (A : Ar) (rs : List ResultVar) (R : SV -> LL -> Nat -> Prop) : Exit -> FF -> LL -> Nat -> Prop
 | .normal => retK T A rs R
 | .ret => retK T A rs R
 | _ => fun _ _ _ => False
def argF : Nat -> List SV -> FF
 | _, [] => []
 | k, v :: vs => (k, v) :: argF (k + 1) vs
theorem look_argF {k : Nat} {vs : List SV} {t : Nat} {v : SV} (h : look (argF k vs) t = some v) : k <= t /\ vs[t - k]? = some v := by
 induction vs generalizing k with
 | nil => simp [argF, look] at h
 | cons u vs ih =>
   simp only [argF, look] at h
   by_cases hk : k = t
   ·subst hk; rw [if_pos rfl] at h; simpa using h
   ·rw [if_neg hk] at h
    obtain ⟨h1, h2⟩ := ih h
    refine ⟨by omega, ?_⟩
    rw [show t - k = (t - (k + 1)) + 1 by omega]
    simpa using h2
def resS (tmps : Array Value) : ResultVar -> Sem Value
 | .tmp t => pure (tmps.getD t undef)
 | .cell x t => do loadVar t (<- asAddr (tmps.getD x undef))
theorem results_eq (fn : Func) (tmps : Array Value) : results fn tmps = (do let vs <- fn.results.mapM (resS tmps); pure (if h : vs.size = 1 then vs[0] else .tuple vs)) := by
 unfold results
 congr 1
def lblsB (n0 : Nat) (Lp : LL) : Bool := Lp.all fun b => Nat.blt b.l n0
section
variable {P : Program} {T : Nat -> Option Ty} {g : G} {β : Nat -> Nat} {F : FF} {L : LL} {n : Nat -> Prop} {a : Act} {W : World}
theorem res_sound (hT : TOk P T) (hm : Mem g β (find L) n W) (hf : Fra g β (look F) n a) {r : ResultVar} {v : SV} (h : resV T Ar.real F L r = some v) :
 (resS a.tmps r).run P W = .ok (den β v) W /\ bd n v := by
 cases r with
 | tmp t =>
   have h1 := hf.fr t v h
   exact ⟨by simp [resS, h1], hf.bF t v h⟩
 | cell x t =>
   simp only [resV] at h
   cases hx : look F x with
   | none => simp [hx] at h
   | some u =>
     cases ht : T t with
     | none => simp [hx, ht] at h
     | some i =>
       simp only [hx, ht] at h
       have h1 := hf.fr x u hx
       obtain ⟨r1, r2⟩ := rd_sound hT hm ht h
       refine ⟨?_, r2⟩
       have hp : ∃ ad, den β u = .pointer (some ad) := by
        cases u <;> simp [rd] at h <;> exact ⟨_, rfl⟩
       obtain ⟨ad, had⟩ := hp
       rw [had] at r1
       simp only [Instr.loadAt, Instr.sureAddr, Sem.run_bind, Sem.run_pure, Result.andThen_ok] at r1
       have h2 : a.tmps.getD x undef = .pointer (some ad) := by simp [h1, had]
       simp only [resS, Sem.run_bind, h2, asAddr, Sem.run_pure, Result.andThen_ok, r1]
theorem resVs_sound (hT : TOk P T) (hm : Mem g β (find L) n W) (hf : Fra g β (look F) n a) : ∀ {rs : List ResultVar} {vs : List SV}, resVs T Ar.real F L rs = some vs ->
 (rs.mapM (resS a.tmps)).run P W = .ok (denL β vs) W /\ bdL n vs
 | [], vs, h => by simp only [resVs, Option.some.injEq] at h; subst h; exact ⟨by simp [denL], trivial⟩
 | r :: rs, vs, h => by
   simp only [resVs] at h
   cases h1 : resV T Ar.real F L r with
   | none => simp [h1] at h
   | some v =>
     cases h2 : resVs T Ar.real F L rs with
     | none => simp [h1, h2] at h
     | some us =>
       simp only [h1, h2, Option.some.injEq] at h
       subst h
       obtain ⟨e1, b1⟩ := res_sound hT hm hf h1
       obtain ⟨e2, b2⟩ := resVs_sound hT hm hf h2
       refine ⟨?_, b1, b2⟩
       rw [List.mapM_cons]
       simp only [Sem.run_bind, e1, Result.andThen_ok, e2, Sem.run_pure, denL]
theorem ret_sound (hT : TOk P T) (hm : Mem g β (find L) n W) (hf : Fra g β (look F) n a) {fn : Func} {rs : List ResultVar} (hr : fn.results.toList = rs) {vs : List SV} (h : resVs T Ar.real F L rs = some vs) :
 (results fn a.tmps).run P W = .ok (den β (oneOr vs)) W /\ bd n (oneOr vs) := by
 obtain ⟨e1, b1⟩ := resVs_sound hT hm hf h
 rw [results_eq, Array.mapM_eq_mapM_toList, hr]
 refine ⟨?_, ?_⟩
 ·have e2 : (List.toArray <$> rs.mapM (resS a.tmps)).run P W = .ok (denL β vs).toArray W := by
   rw [Sem.run_map, e1]; rfl
  simp only [Sem.run_bind, e2, Result.andThen_ok, Sem.run_pure]
  congr 1
  match vs with
  | [] => rfl
  | [v] => rfl
  | u :: v :: vs => rfl
 ·match vs, b1 with
  | [], _ => trivial
  | [v], b1 => exact b1.1
  | _ :: _ :: _, b1 => exact b1
theorem Con.of (hT : TOk P T) {f : FuncId} {fn : Func} {c : Code} {rs : List ResultVar} {N n0 : Nat} {ms : List Nat} {args : List SV} {Lp : LL} {R : SV -> LL -> Nat -> Prop} (hf : P.funcs[f]? = some fn) (hb : fn.body = some c) (hrs : fn.results.toList = rs)
 (hcall : (fn.body.isNone || fn.name == "runtime.NumGoroutine") = false) (hN : fn.ntmps = N) (hd : dstsB N c = true) (hargs : Nat.ble args.length N = true) (hlb : lblsB n0 Lp = true) (hba : bdL (fun l => l < n0) args) (hbl : ∀ b ∈ Lp, bdL (fun l => l < n0) b.cs)
 (h : ∀ (A : Ar) (g : G) (K : SV -> LL -> Nat -> Prop), A = Ar.real -> GI g n0 ms N -> (∀ v L n, R v L n -> K v L n) -> vcC T A P g n0 ms c (retQ T A rs K) (argF 0 args) Lp n0) : Con P f args Lp n0 ms R := by
 refine ⟨Callable.of hf hcall, ?_⟩
 intro β0 W0 hpre
 simp only [lblsB, List.all_eq_true] at hlb
 have hlen : args.length <= N := Nat.le_of_ble_eq_true hargs
 let g : G := ⟨W0, β0, n0, N, ms⟩
 have hlt : ∀ l b, find Lp l = some b -> b ∈ Lp /\ b.l = l /\ l < n0 := fun l b h => by
  obtain ⟨h1, rfl⟩ := find_mem h
  exact ⟨h1, rfl, Nat.le_of_ble_eq_true (hlb b h1)⟩
 have hm : Mem g β0 (find Lp) (fun l => l < n0) W0 := by
  refine ⟨fun _ h => h, fun _ _ => rfl, ?_, ?_, ?_, ?_, ⟨rfl, rfl, rfl, Nat.le_refl _, fun _ _ _ => rfl⟩⟩
  ·intro l b h hl
   obtain ⟨_, _, h3⟩ := hlt l b h
   have : n0 <= l := hl
   omega
  ·intro l b l' b' h h' ho he
   obtain ⟨h1, rfl, h3⟩ := hlt l b h
   obtain ⟨h2, rfl, _⟩ := hlt l' b' h'
   refine hpre.inj b h1 b' h2 ?_ he
   unfold own at ho
   cases hq : Nat.ble n0 b.l with
   | true => have := Nat.le_of_ble_eq_true hq; omega
   | false => simpa only [g, hq] using ho
  ·intro l b h
   obtain ⟨h1, rfl, h3⟩ := hlt l b h
   obtain ⟨m, q1, q2⟩ := hpre.cell b h1
   refine ⟨m, fun ho => q1 ?_, q2⟩
   unfold own at ho
   cases hq : Nat.ble n0 b.l with
   | true => have := Nat.le_of_ble_eq_true hq; omega
   | false => simpa only [g, hq] using ho
  ·intro l b h
   obtain ⟨h1, rfl, h3⟩ := hlt l b h
   exact ⟨h3, hbl b h1⟩
 have hfr : Fra g β0 (look (argF 0 args)) (fun l => l < n0) { tmps := (denL β0 args).toArray ++ Array.replicate (fn.ntmps - (denL β0 args).toArray.size) undef, defers := [] } := by
  refine ⟨?_, rfl, ?_, ?_⟩
  ·simp [denL_eq, hN, g]; omega
  ·intro t v hv
   obtain ⟨_, h2⟩ := look_argF hv
   exact (bdL_iff _ _).1 hba v (List.mem_of_getElem? h2)
  ·intro t v hv
   obtain ⟨_, h2⟩ := look_argF hv
   simp only [Nat.sub_zero] at h2
   have hlt : t < args.length := (List.getElem?_eq_some_iff.1 h2).1
   rw [Array.getElem?_append_left (by simp [denL_eq]; omega)]
   simp [denL_eq, h2]
 refine calls_of_wp hf hb (wp_mono (vcC_sound (g := g) hT rfl rfl hd (h Ar.real g R rfl ⟨rfl, rfl, rfl⟩ (fun _ _ _ h => h)) ⟨β0, hm, hfr⟩) ?_)
 rintro e a' W' ⟨F', L', n', hq, β, hm', hf'⟩
 have fin : retK T Ar.real rs R F' L' n' -> a'.defers = [] /\ ∃ v, (results fn a'.tmps).run P W' = .ok v W' /\ ∃ v' L n β, R v' L n /\ Ending.returned v = .returned (den β v') /\ bd (fun l => l < n) v' /\ Mem ⟨W0, β0, n0, 0, ms⟩ β (find L) (fun l => l < n) W' := by
  intro hk
  unfold retK at hk
  cases hv : resVs T Ar.real F' L' rs with
  | none => simp [hv] at hk
  | some vs =>
    simp only [hv] at hk
    obtain ⟨r1, r2⟩ := ret_sound hT hm' hf' hrs hv
    exact ⟨hf'.defs, _, r1, _, _, _, β, hk, rfl, r2, ⟨hm'.low, hm'.old, hm'.new, hm'.inj, hm'.cell, hm'.bL, hm'.up⟩⟩
 cases e with
 | normal => exact fin hq
 | ret => exact fin hq
 | _ => exact hq.elim
end
end Go.Vg
end
