/-
  This text proves that an operation that makes a value makes just the value that the symbolic run tells. Condition: the types' rows are as the program's table has them.
-/
import Derived.Test.YtgdkefjpekebmaaVgB
namespace Go.Vg
open Go.RowKit
def sizeB (P : Program) (t : Nat) : Option Nat := (P.info? t).map (·.size)
def aggB (P : Program) (t : Nat) : Option Bool :=
  match P.underlying t with
  | some (.struct _) | some (.array _ _) => some true
  | some _ => some false
  | none => none
def zOk : Value → SV → Bool
  | .int k n, .int k' m => k == k' && n == m
  | .bool a, .bool b => a == b
  | .string a, .str b => a.size == 0 && b.size == 0
  | .pointer none, .nilp => true
  | .slice none 0 0, .nils => true
  | .nilFunc, .nilfn => true
  | .nilIface, .raw .nilIface => true
  | _, _ => false
def zsOk : List Value → List SV → Bool
  | [], [] => true
  | v :: vs, s :: ss => zOk v s && zsOk vs ss
  | _, _ => false
def fldOk (P : Program) : List Field → List (Nat × Nat × Bool) → Bool
  | [], [] => true
  | f :: fs, (o, s, ag) :: r => f.offset == o && sizeB P f.type == some s && aggB P f.type == some ag && fldOk P fs r
  | _, _ => false
def okTyB (P : Program) (t : Nat) (i : Ty) : Bool :=
  sizeB P t == some i.sz && (match (P.info? t).bind (·.zero) with | some v => zsOk v.cells.toList i.z && i.z.length == i.sz | none => false) &&
  match i.d, P.underlying t with
  | .i k, some (.int k') => k == k'
  | .b, some .bool => true
  | .s, some .string => true
  | .p, some (.pointer _) => true
  | .f, some (.func _ _ _) => true
  | .o, some d => (match d with | .struct _ | .array _ _ => false | _ => true)
  | .sl e es, some (.slice e') => e == e' && sizeB P e == some es
  | .ar n e es ag, some (.array n' e') => n == n' && e == e' && sizeB P e == some es && aggB P e == some ag
  | .st fs, some (.struct fl) => fldOk P fl.toList fs
  | _, _ => false
def TOk (P : Program) (T : Nat → Option Ty) : Prop := ∀ t i, T t = some i → okTyB P t i = true
theorem TOk.of {P : Program} {T : List (Nat × Ty)} (h : (T.all fun p => okTyB P p.1 p.2) = true) : TOk P (fun k => ty T k) := by
  intro t i hi
  induction T with
  | nil => simp [ty] at hi
  | cons p T ih =>
    obtain ⟨s, j⟩ := p
    simp only [List.all_cons, Bool.and_eq_true] at h
    simp only [ty] at hi
    by_cases hs : s = t
    · rw [if_pos hs] at hi
      obtain rfl := Option.some.inj hi
      subst hs
      exact h.1
    · rw [if_neg hs] at hi
      exact ih h.2 hi
def aggD : TypeDesc → Bool
  | .struct _ | .array _ _ => true
  | _ => false
theorem zOk_den {v : Value} {s : SV} (h : zOk v s = true) (β : Nat → Nat) (p : Nat → Prop) : v = den β s ∧ bd p s ∧ v.oneCell' = true := by
  unfold zOk at h
  split at h <;> simp_all [den, bd, Value.oneCell']
theorem zsOk_den {vs : List Value} {ss : List SV} (β : Nat → Nat) (p : Nat → Prop) : zsOk vs ss = true → vs = denL β ss ∧ bdL p ss ∧ ∀ v ∈ vs, v.oneCell' = true := by
  induction vs generalizing ss with
  | nil => cases ss <;> simp [zsOk, denL, bdL]
  | cons v vs ih =>
    cases ss with
    | nil => simp [zsOk]
    | cons s ss =>
      simp only [zsOk, Bool.and_eq_true]
      rintro ⟨h1, h2⟩
      obtain ⟨a1, a2, a3⟩ := zOk_den h1 β p
      obtain ⟨b1, b2, b3⟩ := ih h2
      refine ⟨by rw [denL, ← a1, ← b1], ⟨a2, b2⟩, ?_⟩
      intro x hx
      rcases List.mem_cons.1 hx with rfl | hx
      · exact a3
      · exact b3 x hx
section
variable {P : Program} {T : Nat → Option Ty} {g : G} {β : Nat → Nat} {F : Nat → Option SV} {L : Nat → Option Blk} {n : Nat → Prop} {a : Act} {W : World}
theorem ty_size {t : Nat} {i : Ty} (hT : TOk P T) (h : T t = some i) : ∃ info, P.info? t = some info ∧ info.size = i.sz ∧ ∃ v, info.zero = some v ∧ v.cells.toList = denL β i.z ∧ (∀ p, bdL p i.z) ∧ (∀ x ∈ v.cells.toList, x.oneCell' = true) ∧ i.z.length = i.sz := by
  have h1 := hT t i h
  simp only [okTyB, Bool.and_eq_true] at h1
  obtain ⟨⟨h2, h3⟩, _⟩ := h1
  cases hi : P.info? t with
  | none => simp [sizeB, hi] at h2
  | some info =>
    simp only [hi, Option.bind_some] at h3
    cases hz : info.zero with
    | none => simp [hz] at h3
    | some v =>
      simp only [hz, Bool.and_eq_true, beq_iff_eq] at h3
      obtain ⟨b1, _, b3⟩ := zsOk_den β (fun _ => True) h3.1
      exact ⟨info, rfl, by simpa [sizeB, hi] using h2, v, hz, b1, fun p => (zsOk_den β p h3.1).2.1, b3, h3.2⟩
theorem ty_agg {t : Nat} {i : Ty} (hT : TOk P T) (h : T t = some i) : ∃ d, P.underlying t = some d ∧ aggD d = i.d.agg := by
  have h1 := hT t i h
  simp only [okTyB, Bool.and_eq_true] at h1
  obtain ⟨_, h2⟩ := h1
  cases hu : P.underlying t with
  | none => rw [hu] at h2; cases hd : i.d <;> simp [hd] at h2
  | some d => rw [hu] at h2; cases hd : i.d <;> cases d <;> simp_all [TyD.agg, aggD]
theorem run_isAgg {t : Nat} {b : Bool} (h : aggB P t = some b) (w : World) : (isAgg t).run P w = .ok b w := by
  unfold aggB at h
  unfold isAgg
  rw [Sem.run_bind]
  cases hu : P.underlying t with
  | none => simp [hu] at h
  | some d =>
    rw [run_underlying hu w]
    rw [hu] at h
    cases d <;> simp_all
theorem run_sizeOf {t s : Nat} (h : sizeB P t = some s) (w : World) : (sizeOf t).run P w = .ok s w := by
  unfold sizeB at h
  cases hq : P.info? t with
  | none => simp [hq] at h
  | some i => simp [sizeOf, typeInfo, Sem.run_bind, hq]; simpa [hq] using h
theorem aggB_of {t : Nat} {d : TypeDesc} {b : Bool} (hu : P.underlying t = some d) (hd : aggD d = b) : aggB P t = some b := by
  unfold aggB
  rw [hu]
  cases d <;> simp_all [aggD]
theorem ty_sizeB {t : Nat} {i : Ty} (hT : TOk P T) (h : T t = some i) : sizeB P t = some i.sz := by
  obtain ⟨info, h1, h2, _⟩ := ty_size (β := id) hT h
  simp [sizeB, h1, h2]
theorem ty_aggB {t : Nat} {i : Ty} (hT : TOk P T) (h : T t = some i) : aggB P t = some i.d.agg := by
  obtain ⟨d, h1, h2⟩ := ty_agg hT h
  exact aggB_of h1 h2
theorem ev_sound (hf : Fra g β F n a) {x : Operand} {v : SV} (h : ev F x = some v) : a.eval x = den β v ∧ bd n v := by
  cases x with
  | tmp t =>
    have h1 := hf.fr t v h
    refine ⟨?_, hf.bF t v h⟩
    simp [Act.eval, h1]
  | const c =>
    simp only [ev] at h
    unfold ofV at h
    split at h <;> simp_all [Act.eval]
    all_goals (subst h; simp [den, bd])
  | global _ => simp [ev] at h
  | func f =>
    simp only [ev, Option.some.injEq] at h
    subst h
    simp [Act.eval, den, denL, bd, bdL]
theorem evs_sound (hf : Fra g β F n a) : ∀ {xs : List Operand} {vs : List SV}, evs F xs = some vs → xs.map a.eval = denL β vs ∧ bdL n vs := by
  intro xs
  induction xs with
  | nil => intro vs h; simp [evs] at h; subst h; simp [denL, bdL]
  | cons x xs ih =>
    intro vs h
    simp only [evs] at h
    cases h1 : ev F x with
    | none => simp [h1] at h
    | some v =>
      cases h2 : evs F xs with
      | none => simp [h1, h2] at h
      | some us =>
        simp only [h1, h2, Option.some.injEq] at h
        subst h
        obtain ⟨e1, b1⟩ := ev_sound hf h1
        obtain ⟨e2, b2⟩ := ih h2
        exact ⟨by rw [List.map_cons, e1, e2, denL], ⟨b1, b2⟩⟩
theorem cell_at (hm : Mem g β L n W) {l : Nat} {b : Blk} (h : L l = some b) (o : Nat) : W.cell? ⟨β l, o, none⟩ = (b.cs[o]?).map (den β) := by
  obtain ⟨m, _, hc⟩ := hm.cell l b h
  simp [World.cell?, hc, denL_eq]
theorem run_load_cell {ad : Addr} {v : Value} (h : W.cell? ad = some v) : (load ad).run P W = .ok v W := by
  simp [load, Sem.run, h]
theorem bdL_get {n : Nat → Prop} {cs : List SV} (h : bdL n cs) {o : Nat} {v : SV} (hv : cs[o]? = some v) : bd n v := (bdL_iff n cs).1 h v (List.mem_of_getElem? hv)
theorem bdL_sub {n : Nat → Prop} {cs : List SV} (h : bdL n cs) (o m : Nat) : bdL n ((cs.drop o).take m) := by
  rw [bdL_iff] at h ⊢
  intro v hv
  exact h v (List.mem_of_mem_drop (List.mem_of_mem_take hv))
theorem sub1_eq {cs vs : List SV} {o m : Nat} (h : sub1 cs o m = some vs) : o + m ≤ cs.length ∧ vs = (cs.drop o).take m := by
  unfold sub1 at h
  split at h
  · rename_i hb; exact ⟨Nat.le_of_ble_eq_true hb, (Option.some.inj h).symm⟩
  · cases h
theorem subr_eq {cs vs : List SV} {o m : Nat} (h : Ar.real.sub cs o m = some vs) : o + m ≤ cs.length ∧ vs = (cs.drop o).take m := by
  simp only [Ar.real] at h
  split at h
  · rename_i hb; exact ⟨hb, (Option.some.inj h).symm⟩
  · cases h
/-- a load of several cells, or of one -/
theorem load_sound (hT : TOk P T) (hm : Mem g β L n W) {t : Nat} {i : Ty} (ht : T t = some i) {l o : Nat} {b : Blk} (hb : L l = some b) {v : SV}
    (hag : ∀ vs, i.d.agg = true → v = .agg vs → o + i.sz ≤ b.cs.length ∧ vs = (b.cs.drop o).take i.sz) (hag2 : i.d.agg = true → ∃ vs, v = .agg vs) (hone : i.d.agg = false → b.cs[o]? = some v) :
    (loadVar t ⟨β l, o, none⟩).run P W = .ok (den β v) W ∧ bd n v := by
  obtain ⟨info, hi, hsz, _⟩ := ty_size (β := β) hT ht
  obtain ⟨d, hu, hd⟩ := ty_agg hT ht
  have hbL := (hm.bL l b hb).2
  cases hg : i.d.agg with
  | true =>
    obtain ⟨vs, rfl⟩ := hag2 hg
    obtain ⟨h1, h2⟩ := hag vs hg rfl
    have hlen : vs.length = i.sz := by rw [h2, List.length_take, List.length_drop]; omega
    have h3 : ∀ j x, (denL β vs).toArray[j]? = some x → W.cell? ⟨β l, o + j, none⟩ = some x := by
      intro j x hx
      rw [cell_at hm hb]
      simp only [denL_eq, List.getElem?_toArray, List.getElem?_map] at hx
      obtain ⟨s, hs, rfl⟩ := Option.map_eq_some_iff.1 hx
      rw [h2, List.getElem?_take] at hs
      split at hs
      · rw [List.getElem?_drop] at hs
        rw [hs]; rfl
      · cases hs
    refine ⟨?_, by simp only [bd]; rw [h2]; exact bdL_sub hbL _ _⟩
    have := run_loadVar_part (P := P) W (β l) o t (denL β vs).toArray d h3 hu (by rw [hg] at hd; cases d <;> simp_all [aggD]) (by rw [hi]; simp [hsz, denL_eq, hlen])
    rw [this]; rfl
  | false =>
    have h1 := hone hg
    refine ⟨?_, bdL_get hbL h1⟩
    unfold loadVar
    rw [Sem.run_bind, run_isAgg (aggB_of hu (hd.trans hg))]
    simp only [Result.andThen_ok, if_false, Bool.false_eq_true]
    exact run_load_cell (by rw [cell_at hm hb, h1]; rfl)
theorem rd_sound (hT : TOk P T) (hm : Mem g β L n W) {t : Nat} {i : Ty} (ht : T t = some i) {u v : SV} (h : rd Ar.real L i u = some v) :
    (Instr.loadAt t (den β u)).run P W = .ok (den β v) W ∧ bd n v := by
  have key : ∀ l o b, L l = some b → den β u = .pointer (some ⟨β l, o, none⟩) →
      (∀ vs, i.d.agg = true → v = .agg vs → o + i.sz ≤ b.cs.length ∧ vs = (b.cs.drop o).take i.sz) → (i.d.agg = true → ∃ vs, v = .agg vs) → (i.d.agg = false → b.cs[o]? = some v) →
      (Instr.loadAt t (den β u)).run P W = .ok (den β v) W ∧ bd n v := by
    intro l o b hb hd h1 h2 h3
    obtain ⟨r1, r2⟩ := load_sound hT hm ht hb h1 h2 h3
    refine ⟨?_, r2⟩
    rw [hd]
    simp only [Instr.loadAt, Instr.sureAddr, Sem.run_bind, Sem.run_pure, Result.andThen_ok, r1]
  cases u with
  | ptr l o =>
    simp only [rd] at h
    cases hb : L l with
    | none => simp [hb] at h
    | some b =>
      simp only [hb] at h
      cases hg : i.d.agg with
      | true =>
        simp only [hg, wrapO] at h
        cases hs : sub1 b.cs o i.sz with
        | none => simp [hs] at h
        | some vs =>
          simp only [hs, Option.some.injEq] at h
          subst h
          exact key l o b hb rfl (fun vs' _ e => by cases e; exact sub1_eq hs) (fun _ => ⟨_, rfl⟩) (fun e => by rw [hg] at e; cases e)
      | false =>
        simp only [hg] at h
        exact key l o b hb rfl (fun vs' e => by rw [hg] at e; cases e) (fun e => by rw [hg] at e; cases e) (fun _ => h)
  | ptrS l o =>
    simp only [rd] at h
    cases hb : L l with
    | none => simp [hb] at h
    | some b =>
      simp only [hb] at h
      cases hg : i.d.agg with
      | true =>
        simp only [hg, wrapO] at h
        cases hs : Ar.real.sub b.cs o i.sz with
        | none => simp [hs] at h
        | some vs =>
          simp only [hs, Option.some.injEq] at h
          subst h
          exact key l o b hb rfl (fun vs' _ e => by cases e; exact subr_eq hs) (fun _ => ⟨_, rfl⟩) (fun e => by rw [hg] at e; cases e)
      | false =>
        simp only [hg] at h
        exact key l o b hb rfl (fun vs' e => by rw [hg] at e; cases e) (fun e => by rw [hg] at e; cases e) (fun _ => h)
  | _ => simp [rd] at h
end
end Go.Vg
