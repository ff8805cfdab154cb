/-
  This text proves that what the symbolic run tells of values made of parts, and of all operations that make a value, is what the model's run gives. Condition: as in the texts before it.
-/
import Derived.Test.YtgdkefjpekebmaaVgD
namespace Go.Vg
open Go.RowKit
theorem foldl_put (off : Nat) : ∀ (vs : List Value) (k : Nat) (cells : Array Value), off + k + vs.length ≤ cells.size →
    ((vs.zipIdx k).foldl (fun cs (p : Value × Nat) => cs.setIfInBounds (off + p.2) p.1) cells) = (cells.toList.take (off + k) ++ vs ++ cells.toList.drop (off + k + vs.length)).toArray
  | [], k, cells, _ => by simp
  | v :: vs, k, cells, h => by
    simp only [List.length_cons] at h
    rw [List.zipIdx_cons, List.foldl_cons, foldl_put off vs (k + 1) _ (by simp; omega)]
    congr 1
    apply List.ext_getElem?
    intro q
    simp only [Array.toList_setIfInBounds, List.length_cons]
    rw [show off + (k + 1) = off + k + 1 from rfl, show off + k + (vs.length + 1) = off + k + 1 + vs.length from by omega]
    simp only [List.getElem?_append, List.length_append, List.length_take, List.length_set, Array.length_toList, List.getElem?_drop, List.getElem?_take, List.getElem?_set, List.length_cons, show min (off + k) cells.size = off + k by omega,
      show min (off + k + 1) cells.size = off + k + 1 by omega]
    by_cases h2 : q < off + k
    · simp [show q < off + k + 1 by omega, show q < off + k + (vs.length + 1) by omega, show q < off + k + 1 + vs.length by omega, h2, show off + k ≠ q by omega]
    · by_cases h3 : q = off + k
      · subst h3; simp [show off + k < cells.size by omega, show off + k < off + k + 1 + vs.length by omega]
      · by_cases h4 : q < off + k + 1 + vs.length
        · simp [h2, h4, show ¬ q < off + k + 1 by omega, show q < off + k + (vs.length + 1) by omega, show q - (off + k) = (q - (off + k + 1)) + 1 by omega]
        · simp [h4, show ¬ q < off + k + (vs.length + 1) by omega]
          rw [if_neg (by omega)]
          congr 1
          omega
theorem cells_den (β : Nat → Nat) {v : SV} (h : one v = true ∨ ∃ cs, v = .agg cs) : (den β v).cells = (denL β (cellsOf v)).toArray := by
  cases v <;> simp_all [one, den, cellsOf, Value.cells, denL]
section
variable {P : Program} {T : Nat → Option Ty} {g : G} {β : Nat → Nat} {F : Nat → Option SV} {L : Nat → Option Blk} {n : Nat → Prop} {a : Act} {W : World}
theorem cells_den' (β : Nat → Nat) (v : SV) (h : ∀ u, v = .raw u → u.cells = #[u]) : (den β v).cells = (denL β (cellsOf v)).toArray := by
  cases v <;> simp_all [den, cellsOf, Value.cells, denL]
theorem cells_den2 (β : Nat → Nat) {v : SV} (h : noRaw v = true) : (den β v).cells = (denL β (cellsOf v)).toArray := by
  cases v <;> simp_all [noRaw, den, cellsOf, Value.cells, denL]
theorem bd_cells {n : Nat → Prop} {v : SV} (h : bd n v) : bdL n (cellsOf v) := by
  cases v <;> simp_all [cellsOf, bd, bdL]
theorem splice_den (β : Nat → Nat) (cs vs : List SV) (o : Nat) : denL β (splice cs o vs) = (denL β cs).take o ++ denL β vs ++ (denL β cs).drop (o + vs.length) := by
  simp [splice, denL_eq]
theorem bdL_splice {n : Nat → Prop} {o : Nat} {cs vs : List SV} (h1 : bdL n cs) (h2 : bdL n vs) : bdL n (splice cs o vs) := by
  rw [bdL_iff] at *
  intro v hv
  simp only [splice, List.mem_append] at hv
  rcases hv with (hv | hv) | hv
  · exact h1 v (List.mem_of_mem_take hv)
  · exact h2 v hv
  · exact h1 v (List.mem_of_mem_drop hv)
/-- no operand that is read bears a value that is not laid open -/
theorem fillS_sound (hf : Fra g β F n a) {pl pl' : Nat → Option (Nat × Nat)} (hp : ∀ i p, pl i = some p → pl' i = some p) : ∀ {parts : List (Nat × Operand)} {cs r : List SV}, bdL n cs → fillS pl F cs parts = some r →
    Instr.fill pl' (denL β cs).toArray (parts.map fun p => (p.1, a.eval p.2)) = some (denL β r).toArray ∧ bdL n r := by
  intro parts
  induction parts with
  | nil => intro cs r hb h; simp only [fillS, Option.some.injEq] at h; subst h; exact ⟨rfl, hb⟩
  | cons p parts ih =>
    obtain ⟨i, x⟩ := p
    intro cs r hb h
    simp only [fillS] at h
    cases h1 : ev F x with
    | none => simp [h1] at h
    | some v =>
      cases h2 : pl i with
      | none => cases h0 : noRaw v <;> simp [h1, h2, h0] at h
      | some q =>
        obtain ⟨o, s⟩ := q
        cases h0 : noRaw v with
        | false => simp [h1, h0] at h
        | true =>
        simp only [h1, h2, h0] at h
        cases h3 : Nat.beq (cellsOf v).length s with
        | false => simp [h3] at h
        | true =>
          cases h4 : Nat.ble (o + s) cs.length with
          | false => simp [h3, h4] at h
          | true =>
            simp only [h3, h4] at h
            obtain ⟨e1, b1⟩ := ev_sound hf h1
            have h5 : (cellsOf v).length = s := Nat.eq_of_beq_eq_true h3
            have h6 : o + s ≤ cs.length := Nat.le_of_ble_eq_true h4
            have hc : (den β v).cells = (denL β (cellsOf v)).toArray := cells_den2 β h0
            have hl : (denL β (cellsOf v)).length = s := by rw [denL_eq, List.length_map, h5]
            have hl2 : (denL β cs).length = cs.length := by rw [denL_eq, List.length_map]
            obtain ⟨r1, r2⟩ := ih (bdL_splice hb (bd_cells b1)) h
            refine ⟨?_, r2⟩
            rw [List.map_cons]
            simp only [Instr.fill, hp _ _ h2, e1, hc]
            rw [if_neg (by simp [hl, hl2]; omega)]
            rw [← r1]
            congr 1
            rw [splice_den, h5]
            have := foldl_put o (denL β (cellsOf v)) 0 (denL β cs).toArray (by simp [hl, hl2]; omega)
            simp only [Nat.add_zero, hl] at this
            rw [← this]
            rw [← Array.foldl_toList]
            simp
theorem mapM_fld {fl : List Field} {fs : List (Nat × Nat × Bool)} (h : fldOk P fl fs = true) : fl.mapM (fun f => (P.info? f.type).map fun i => (f.offset, i.size)) = some (fs.map fun p => (p.1, p.2.1)) := by
  induction fl generalizing fs with
  | nil => cases fs <;> simp_all [fldOk]
  | cons f fl ih =>
    cases fs with
    | nil => simp [fldOk] at h
    | cons p fs =>
      obtain ⟨o1, s1, a1⟩ := p
      simp only [fldOk, Bool.and_eq_true, beq_iff_eq] at h
      obtain ⟨⟨⟨h1, h2⟩, h3⟩, h4⟩ := h
      unfold sizeB at h2
      obtain ⟨i, hi, hs⟩ := Option.map_eq_some_iff.1 h2
      simp [List.mapM_cons, ih h4, hi, hs, h1]
theorem build_sound (hT : TOk P T) (hf : Fra g β F n a) {t : Nat} {i : Ty} (ht : T t = some i) {parts : Array (Nat × Operand)} {cs : List SV} (hg : i.d.agg = true)
    (h : fillS (place i) F i.z parts.toList = some cs) : (Instr.build t (parts.map fun p => (p.1, a.eval p.2))).run P W = .ok (.agg (denL β cs).toArray) W ∧ bdL n cs := by
  obtain ⟨info, hi, hsz, z, hz, hzc, hzb, _⟩ := ty_size (β := β) hT ht
  have h1 := hT t i ht
  simp only [okTyB, Bool.and_eq_true] at h1
  obtain ⟨_, h2⟩ := h1
  have hz0 : z.cells = (denL β i.z).toArray := by rw [← hzc]
  have hzn : bdL n i.z := hzb n
  have hpm : (parts.map fun p => (p.1, a.eval p.2)).toList = parts.toList.map fun p => (p.1, a.eval p.2) := by simp
  cases hd : i.d with
  | ar m e es ag =>
    rw [hd] at h2
    cases hq : P.underlying t with
    | none => simp [hq] at h2
    | some d =>
      cases d <;> simp [hq] at h2
      rename_i m' e'
      obtain ⟨⟨⟨rfl, rfl⟩, h3⟩, h4⟩ := h2
      unfold sizeB at h3
      obtain ⟨ie, hie, hes⟩ := Option.map_eq_some_iff.1 h3
      obtain ⟨r1, r2⟩ := fillS_sound hf (pl' := fun i => some (i * ie.size, ie.size)) (fun k p hk => by simp only [place, hd] at hk; rw [hes]; exact hk) hzn h
      refine ⟨run_build W t _ _ ?_, r2⟩
      simp only [Program.built, hi, hq, hz, hie, hpm, hz0]
      exact r1
  | st fs =>
    obtain ⟨fl, hu, hfl⟩ := fld_of hT ht hd
    obtain ⟨r1, r2⟩ := fillS_sound hf (pl' := fun k => (fs.map fun p => (p.1, p.2.1)).toArray[k]?) (fun k p hk => by
      simp only [place, hd] at hk
      cases hk2 : fs[k]? with
      | none => simp [hk2] at hk
      | some q => obtain ⟨o, s, ag⟩ := q; simp only [hk2, Option.some.injEq] at hk; subst hk; simp [hk2]) hzn h
    refine ⟨run_build W t _ _ ?_, r2⟩
    simp only [Program.built, hi, hu, hz, mapM_fld hfl, hpm, hz0]
    exact r1
  | _ => simp [hd, TyD.agg] at hg
theorem ixd_sound {x : Operand} {v : SV} (hf : Fra g β F n a) (he : ev F x = some v) {len : Nat} : (∀ j, ixd Ar.real x v len = .st j → ∃ k, a.eval x = .int k j ∧ j < len) ∧ (∀ j, ixd Ar.real x v len = .dy j → ∃ k, a.eval x = .int k j ∧ j < len) := by
  have he2 := (ev_sound hf he).1
  have key : ∀ k q j, v = .int k q → Ar.real.ix q len = some j → a.eval x = .int k j ∧ j < len := by
    intro k q j hv hq
    simp only [Ar.real] at hq
    split at hq
    · rename_i hb
      obtain rfl := Option.some.inj hq
      rw [he2, hv]
      refine ⟨?_, by omega⟩
      simp only [den]
      congr 1
      omega
    · cases hq
  have hdy : ∀ j, ixdy Ar.real v len = .dy j → ∃ k, a.eval x = .int k j ∧ j < len := by
    intro j h
    unfold ixdy at h
    cases v with
    | int k q =>
      simp only at h
      cases hq : Ar.real.ix q len with
      | none => simp [hq] at h
      | some i =>
        simp only [hq, Ixd.dy.injEq] at h
        subst h
        exact ⟨k, key k q i rfl hq⟩
    | _ => simp at h
  have hst : ∀ j, ixdy Ar.real v len = .st j → False := by
    intro j h
    unfold ixdy at h
    cases v with
    | int k q => simp only at h; cases hq : Ar.real.ix q len <;> simp [hq] at h
    | _ => simp at h
  unfold ixd
  split
  · rename_i k m
    constructor
    · intro j h
      cases hb : Nat.blt m len with
      | false => simp [hb] at h
      | true =>
        simp only [hb, Ixd.st.injEq] at h
        subst h
        exact ⟨k, rfl, Nat.le_of_ble_eq_true hb⟩
    · intro j h
      cases hb : Nat.blt m len <;> simp [hb] at h
  · exact ⟨fun j h => (hst j h).elim, hdy⟩
theorem indexAt_arr {t m e es : Nat} (hu : P.underlying t = some (.array m e)) (hs : sizeB P e = some es) (b o j : Nat) (k : IntKind) (hj : j < m) (w : World) :
    (Instr.indexAt t (.pointer (some ⟨b, o, none⟩)) (.int k j)).run P w = .ok (.pointer (some ⟨b, o + j * es, none⟩)) w := by
  unfold Instr.indexAt
  simp [Sem.run_bind, run_underlying hu, asIntOf, Instr.sureAddr, run_sizeOf hs, addr_add', hj, show (0 : Int) ≤ j from Int.natCast_nonneg j]
theorem indexAt_sl {t e es : Nat} (hu : P.underlying t = some (.slice e)) (hs : sizeB P e = some es) (b o m c j : Nat) (k : IntKind) (hj : j < m) (w : World) :
    (Instr.indexAt t (.slice (some ⟨b, o, none⟩) m c) (.int k j)).run P w = .ok (.pointer (some ⟨b, o + j * es, none⟩)) w := by
  unfold Instr.indexAt
  simp [Sem.run_bind, run_underlying hu, asIntOf, run_sizeOf hs, addr_add', hj, show (0 : Int) ≤ j from Int.natCast_nonneg j]
theorem arr_of (hT : TOk P T) {t : Nat} {i : Ty} (ht : T t = some i) {m e es : Nat} {ag : Bool} (hd : i.d = .ar m e es ag) : P.underlying t = some (.array m e) ∧ sizeB P e = some es ∧ aggB P e = some ag := by
  have h1 := hT t i ht
  simp only [okTyB, Bool.and_eq_true] at h1
  obtain ⟨_, h2⟩ := h1
  rw [hd] at h2
  cases hq : P.underlying t with
  | none => simp [hq] at h2
  | some d =>
    cases d <;> simp [hq] at h2
    obtain ⟨⟨⟨rfl, rfl⟩, h3⟩, h4⟩ := h2
    exact ⟨rfl, h3, h4⟩
theorem sl_of (hT : TOk P T) {t : Nat} {i : Ty} (ht : T t = some i) {e es : Nat} (hd : i.d = .sl e es) : P.underlying t = some (.slice e) ∧ sizeB P e = some es := by
  have h1 := hT t i ht
  simp only [okTyB, Bool.and_eq_true] at h1
  obtain ⟨_, h2⟩ := h1
  rw [hd] at h2
  cases hq : P.underlying t with
  | none => simp [hq] at h2
  | some d =>
    cases d <;> simp [hq] at h2
    obtain ⟨rfl, h3⟩ := h2
    exact ⟨rfl, h3⟩
theorem ixAddr_sound (hT : TOk P T) (hf : Fra g β F n a) {t : Nat} {u r iv : SV} {ix : Operand} (hiv : ev F ix = some iv) (hbu : bd n u) (h : ixAddr Ar.real T t u ix iv = some r) :
    (Instr.indexAt t (den β u) (a.eval ix)).run P W = .ok (den β r) W ∧ bd n r := by
  unfold ixAddr at h
  cases ht : T t with
  | none => simp [ht] at h
  | some i =>
    simp only [ht] at h
    obtain ⟨s1, s2⟩ := ixd_sound hf hiv (len := (match i.d with | .ar m _ _ _ => m | _ => 0))
    cases hd : i.d with
    | ar m e es ag =>
      obtain ⟨hu, hs, _⟩ := arr_of hT ht hd
      simp only [hd] at h s1 s2
      cases u with
      | ptr l o =>
        simp only at h
        cases hx : ixd Ar.real ix iv m with
        | no => simp [hx] at h
        | st j =>
          simp only [hx, Option.some.injEq] at h; subst h
          obtain ⟨k, hk, hj⟩ := s1 j hx
          rw [hk]
          exact ⟨indexAt_arr hu hs _ _ _ _ hj _, hbu⟩
        | dy j =>
          simp only [hx, Option.some.injEq] at h; subst h
          obtain ⟨k, hk, hj⟩ := s2 j hx
          rw [hk]
          exact ⟨indexAt_arr hu hs _ _ _ _ hj _, hbu⟩
      | ptrS l o =>
        simp only at h
        cases hx : ixd Ar.real ix iv m with
        | no => simp [hx] at h
        | st j =>
          simp only [hx, Option.some.injEq] at h; subst h
          obtain ⟨k, hk, hj⟩ := s1 j hx
          rw [hk]
          exact ⟨indexAt_arr hu hs _ _ _ _ hj _, hbu⟩
        | dy j =>
          simp only [hx, Option.some.injEq] at h; subst h
          obtain ⟨k, hk, hj⟩ := s2 j hx
          rw [hk]
          exact ⟨indexAt_arr hu hs _ _ _ _ hj _, hbu⟩
      | _ => simp at h
    | sl e es =>
      obtain ⟨hu, hs⟩ := sl_of hT ht hd
      simp only [hd] at h
      cases u with
      | slice l o m c =>
        simp only at h
        cases iv with
        | int k q =>
          simp only at h
          cases hx : Ar.real.ix q m with
          | none => simp [hx] at h
          | some j =>
            simp only [hx, Option.some.injEq] at h; subst h
            have he := (ev_sound hf hiv).1
            simp only [Ar.real] at hx
            split at hx
            · rename_i hb
              obtain rfl := Option.some.inj hx
              have : a.eval ix = .int k (q.toNat : Int) := by rw [he]; simp only [den]; congr 1; omega
              rw [this]
              exact ⟨indexAt_sl hu hs _ _ _ _ _ _ (by omega) _, hbu⟩
            · cases hx
        | _ => simp at h
      | _ => simp at h
    | _ => simp [hd] at h
end
end Go.Vg
