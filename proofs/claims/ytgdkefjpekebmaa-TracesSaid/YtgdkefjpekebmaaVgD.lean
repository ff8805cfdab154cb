/-
  This text proves, for each operation that only makes a value, that the model's run gives the value that the symbolic run tells. Condition: as in the text before it.
-/
import Derived.Test.YtgdkefjpekebmaaVgC
namespace Go.Vg
open Go.RowKit
section
variable {P : Program} {T : Nat → Option Ty} {g : G} {β : Nat → Nat} {F : Nat → Option SV} {L : Nat → Option Blk} {n : Nat → Prop} {a : Act} {W : World}
theorem sameK_eq {k k' : IntKind} (h : sameK k k' = true) : k = k' := by cases k <;> cases k' <;> simp_all [sameK]
theorem eqGuard_int (op : BinOp) (t : TypeId) (x y : Operand) {u v : Value} (hu : u ≠ .nilIface) (hv : ∀ c d, ¬ (u = .agg c ∧ v = .agg d)) (w : World) : (eqGuard op t x y u v).run P w = .ok () w := by
  unfold eqGuard
  cases op <;> simp
  all_goals (cases u <;> cases v <;> simp_all)
theorem okSh_sound {y : Operand} {b : Int} (hy : ∀ k c, y = .const (.int k c) → b = c) (h : okSh Ar.real y b = true) : ¬ b < 0 := by
  unfold okSh at h
  split at h
  · rename_i k m
    rw [hy k _ rfl]
    show ¬ ((m : Nat) : Int) < 0
    omega
  · simpa [Ar.real] using h
theorem okQu_sound {y : Operand} {b : Int} (hy : ∀ k c, y = .const (.int k c) → b = c) (h : okQu Ar.real y b = true) : ¬ b = 0 := by
  unfold okQu at h
  split at h
  · rename_i k m
    rw [hy k _ rfl]
    show ¬ (((m + 1 : Nat)) : Int) = 0
    omega
  · simpa [Ar.real] using h
theorem binV_sound {op : BinOp} {xt : TypeId} {yo : Operand} {u v r : SV} (hy : ∀ k c, yo = .const (.int k c) → v = .int k c) (h : binV Ar.real op yo u v = some r) (w : World) : (binOp op xt (den β u) (den β v)).run P w = .ok (den β r) w ∧ bd n r := by
  cases u with
  | int k x =>
    cases v with
    | int k' y =>
      have hy' : ∀ k c, yo = .const (.int k c) → y = c := fun k c e => by have := hy k c e; cases this; rfl
      by_cases hs : op = .shl ∨ op = .shr
      · have h2 : (match okSh Ar.real yo y with | true => some (SV.int k (Ar.real.sh op k x y)) | false => none) = some r := by
          rcases hs with rfl | rfl <;> exact h
        cases hn : okSh Ar.real yo y with
        | false => simp [hn] at h2
        | true =>
          simp only [hn, Option.some.injEq] at h2
          subst h2
          have hy := okSh_sound hy' hn
          rcases hs with rfl | rfl <;> simp [binOp, Op.shift, den, bd, hy, Ar.real]
      · have h2 : (match sameK k k' with
            | true => match isCmp op with
              | true => some (SV.bool (Ar.real.cmp op x y))
              | false => match op with
                | .quo | .rem => match okQu Ar.real yo y with
                  | true => some (.int k (Ar.real.bin op k x y))
                  | false => none
                | _ => some (.int k (Ar.real.bin op k x y))
            | false => none) = some r := by
          cases op <;> first | exact h | exact absurd (Or.inl rfl) hs | exact absurd (Or.inr rfl) hs
        cases hk : sameK k k' with
        | false => simp [hk] at h2
        | true =>
          obtain rfl := sameK_eq hk
          simp only [hk] at h2
          cases op <;> simp only [isCmp, Option.some.injEq] at h2 <;> first
            | exact absurd (Or.inl rfl) hs
            | exact absurd (Or.inr rfl) hs
            | (subst h2; simp [binOp, Op.intArith, Op.intBits, Op.intCmp, den, bd, Ar.real, intBin, boolCmp]; done)
            | (cases hz : okQu Ar.real yo y with
               | false => simp [hz] at h2
               | true =>
                 simp only [hz, Option.some.injEq] at h2
                 subst h2
                 have hy := okQu_sound hy' hz
                 simp [binOp, Op.intDiv, den, bd, Ar.real, intBin, hy])
    | _ => simp [binV] at h
  | str x =>
    cases v with
    | str y =>
      cases hc : isCmp op with
      | true =>
        simp only [binV, hc, Option.some.injEq] at h
        subst h
        cases op <;> simp [isCmp] at hc <;> simp [binOp, Op.stringOp, den, bd, Ar.real, strCmp]
      | false =>
        simp only [binV, hc] at h
        cases op <;> simp at h
        cases hs : Ar.real.scat x y with
        | none => simp [hs] at h
        | some z =>
          simp only [hs, Option.some.injEq] at h
          subst h
          simp only [Ar.real] at hs
          split at hs
          · cases hs
          · rename_i hb
            obtain rfl := Option.some.inj hs
            simp only [binOp, Op.stringOp, den, bd]
            rw [if_neg hb]
            simp
    | _ => simp [binV] at h
  | _ => simp [binV] at h
theorem eqIn_bool {d : Nat} {t : TypeId} (hu : P.underlying t = some .bool) (x y : Bool) (w : World) : (Op.equalIn (d + 1) t (.bool x) (.bool y)).run P w = .ok (x == y) w := by
  simp [Op.equalIn, run_underlying hu]
theorem eqIn_pp {d : Nat} {t e : TypeId} (hu : P.underlying t = some (.pointer e)) (w : World) : (Op.equalIn (d + 1) t (.pointer none) (.pointer none)).run P w = .ok true w := by
  simp [Op.equalIn, run_underlying hu]
theorem eqIn_np {d : Nat} {t e : TypeId} (hu : P.underlying t = some (.pointer e)) (x : Addr) (w : World) : (Op.equalIn (d + 1) t (.pointer none) (.pointer (some x))).run P w = .ok false w := by
  simp [Op.equalIn, run_underlying hu]
theorem eqIn_pn {d : Nat} {t e : TypeId} (hu : P.underlying t = some (.pointer e)) (x : Addr) (w : World) : (Op.equalIn (d + 1) t (.pointer (some x)) (.pointer none)).run P w = .ok false w := by
  simp [Op.equalIn, run_underlying hu]
theorem eqIn_ss {d : Nat} {t e : TypeId} (hu : P.underlying t = some (.slice e)) (w : World) : (Op.equalIn (d + 1) t (.slice none 0 0) (.slice none 0 0)).run P w = .ok true w := by
  simp [Op.equalIn, run_underlying hu]
theorem eqIn_ns {d : Nat} {t e : TypeId} (hu : P.underlying t = some (.slice e)) (x : Addr) (m c : Nat) (w : World) : (Op.equalIn (d + 1) t (.slice none 0 0) (.slice (some x) m c)).run P w = .ok false w := by
  simp [Op.equalIn, run_underlying hu]
theorem eqIn_sn {d : Nat} {t e : TypeId} (hu : P.underlying t = some (.slice e)) (x : Addr) (m c : Nat) (w : World) : (Op.equalIn (d + 1) t (.slice (some x) m c) (.slice none 0 0)).run P w = .ok false w := by
  simp [Op.equalIn, run_underlying hu]
theorem eqIn_ff {d : Nat} {t : TypeId} {p q : Array TypeId} {v : Bool} (hu : P.underlying t = some (.func p q v)) (w : World) : (Op.equalIn (d + 1) t .nilFunc .nilFunc).run P w = .ok true w := by
  simp [Op.equalIn, run_underlying hu]
theorem eqIn_nf {d : Nat} {t : TypeId} {p q : Array TypeId} {v : Bool} (hu : P.underlying t = some (.func p q v)) (f : Fn) (x y : Array Value) (w : World) : (Op.equalIn (d + 1) t .nilFunc (.func f x y)).run P w = .ok false w := by
  simp [Op.equalIn, run_underlying hu]
theorem eqIn_fn {d : Nat} {t : TypeId} {p q : Array TypeId} {v : Bool} (hu : P.underlying t = some (.func p q v)) (f : Fn) (x y : Array Value) (w : World) : (Op.equalIn (d + 1) t (.func f x y) .nilFunc).run P w = .ok false w := by
  simp [Op.equalIn, run_underlying hu]
theorem eq_run {t : TypeId} {u v : Value} {b : Bool} {w : World} (h : (Op.equalIn (9999 + 1) t u v).run P w = .ok b w) (h1 : binOp .eql t u v = (do pure (.bool (← Op.equal t u v)))) (h2 : binOp .neq t u v = (do pure (.bool (!(← Op.equal t u v))))) :
    (binOp .eql t u v).run P w = .ok (.bool b) w ∧ (binOp .neq t u v).run P w = .ok (.bool (!b)) w := by
  have h' : (Op.equal t u v).run P w = .ok b w := h
  rw [h1, h2]
  simp only [Sem.run_bind, h', Result.andThen_ok, Sem.run_pure, and_self]
theorem nil_of {op : BinOp} {b : Bool} {u v : Value} {t : TypeId} {w : World} {r : SV} (h : (match nilCmp op b with | some b => some (SV.bool b) | none => none) = some r)
    (hr : (binOp .eql t u v).run P w = .ok (.bool b) w ∧ (binOp .neq t u v).run P w = .ok (.bool (!b)) w) : (binOp op t u v).run P w = .ok (den β r) w ∧ bd n r := by
  cases op <;> simp [nilCmp] at h <;> subst h
  · exact ⟨hr.1, by simp [bd]⟩
  · exact ⟨hr.2, by simp [bd]⟩
theorem binT_sound (hT : TOk P T) {op : BinOp} {xt : TypeId} {i : Ty} (hi : T xt = some i) {u v r : SV} (h : binT Ar.real i.d op u v = some r) (w : World) : (binOp op xt (den β u) (den β v)).run P w = .ok (den β r) w ∧ bd n r := by
  have h1 := hT xt i hi
  simp only [okTyB, Bool.and_eq_true] at h1
  obtain ⟨_, h2⟩ := h1
  generalize i.d = dd at h h2
  cases hq : P.underlying xt with
  | none => rw [hq] at h2; cases dd <;> cases h2
  | some d =>
    rw [hq] at h2
    unfold binT at h
    split at h
    · cases d <;> first | (cases h2; done) | skip
      rename_i x y
      have hr := eq_run (eqIn_bool hq x y w) rfl rfl
      split at h
      · obtain rfl := Option.some.inj h
        exact ⟨hr.1, by simp [bd]⟩
      · obtain rfl := Option.some.inj h
        exact ⟨hr.2, by simp [bd]⟩
      · cases h
    · cases d <;> first | (cases h2; done) | skip
      exact nil_of h (eq_run (eqIn_pp hq w) rfl rfl)
    · cases d <;> first | (cases h2; done) | skip
      exact nil_of h (eq_run (eqIn_ss hq w) rfl rfl)
    · cases d <;> first | (cases h2; done) | skip
      exact nil_of h (eq_run (eqIn_ff hq w) rfl rfl)
    · cases d <;> first | (cases h2; done) | skip
      exact nil_of h (eq_run (eqIn_pn hq _ w) rfl rfl)
    · cases d <;> first | (cases h2; done) | skip
      exact nil_of h (eq_run (eqIn_np hq _ w) rfl rfl)
    · cases d <;> first | (cases h2; done) | skip
      exact nil_of h (eq_run (eqIn_pn hq _ w) rfl rfl)
    · cases d <;> first | (cases h2; done) | skip
      exact nil_of h (eq_run (eqIn_np hq _ w) rfl rfl)
    · cases d <;> first | (cases h2; done) | skip
      exact nil_of h (eq_run (eqIn_sn hq _ _ _ w) rfl rfl)
    · cases d <;> first | (cases h2; done) | skip
      exact nil_of h (eq_run (eqIn_ns hq _ _ _ w) rfl rfl)
    · cases d <;> first | (cases h2; done) | skip
      exact nil_of h (eq_run (eqIn_fn hq _ _ _ w) rfl rfl)
    · cases d <;> first | (cases h2; done) | skip
      exact nil_of h (eq_run (eqIn_nf hq _ _ _ w) rfl rfl)
    · cases h
theorem unV_sound {op : UnOp} {u r : SV} (h : unV Ar.real op u = some r) (w : World) : (Op.unary op (den β u)).run P w = .ok (den β r) w ∧ bd n r := by
  unfold unV at h
  split at h
  · simp only [Option.some.injEq] at h; subst h
    simp [Op.unary, Op.intArith, den, bd, Ar.real]
  · simp only [Option.some.injEq] at h; subst h
    simp [Op.unary, Op.intBits, den, bd, Ar.real, intBin]
  · simp only [Option.some.injEq] at h; subst h
    simp [Op.unary, den, bd, Ar.real]
  · cases h
theorem fld_of (hT : TOk P T) {t : Nat} {i : Ty} (ht : T t = some i) {fs : List (Nat × Nat × Bool)} (hd : i.d = .st fs) : ∃ fl, P.underlying t = some (.struct fl) ∧ fldOk P fl.toList fs = true := by
  have h1 := hT t i ht
  simp only [okTyB, Bool.and_eq_true] at h1
  obtain ⟨_, h2⟩ := h1
  rw [hd] at h2
  cases hq : P.underlying t with
  | none => simp [hq] at h2
  | some d => cases d <;> simp_all
theorem fldOk_get {fl : List Field} {fs : List (Nat × Nat × Bool)} (h : fldOk P fl fs = true) {k o s : Nat} {ag : Bool} (hk : fs[k]? = some (o, s, ag)) : ∃ f, fl[k]? = some f ∧ f.offset = o ∧ sizeB P f.type = some s ∧ aggB P f.type = some ag := by
  induction fl generalizing fs k with
  | nil => cases fs <;> simp_all [fldOk]
  | cons f fl ih =>
    cases fs with
    | nil => simp [fldOk] at h
    | cons p fs =>
      obtain ⟨o1, s1, a1⟩ := p
      simp only [fldOk, Bool.and_eq_true, beq_iff_eq] at h
      obtain ⟨⟨⟨h1, h2⟩, h3⟩, h4⟩ := h
      cases k with
      | zero =>
        simp only [List.getElem?_cons_zero, Option.some.injEq, Prod.mk.injEq] at hk
        obtain ⟨rfl, rfl, rfl⟩ := hk
        exact ⟨f, rfl, h1, h2, h3⟩
      | succ k => exact ih h4 (by simpa using hk)
theorem fldOk_len {fl : List Field} {fs : List (Nat × Nat × Bool)} (h : fldOk P fl fs = true) : fl.length = fs.length := by
  induction fl generalizing fs with
  | nil => cases fs <;> simp_all [fldOk]
  | cons f fl ih =>
    cases fs with
    | nil => simp [fldOk] at h
    | cons p fs =>
      obtain ⟨o1, s1, a1⟩ := p
      simp only [fldOk, Bool.and_eq_true] at h
      simp [ih h.2]
theorem addr_add' (b o k : Nat) : (⟨b, o, none⟩ : Addr).add k = ⟨b, o + k, none⟩ := addr_add b o k
theorem fieldAddr_sound (hT : TOk P T) {t : Nat} {i : Ty} (ht : T t = some i) {fs : List (Nat × Nat × Bool)} (hd : i.d = .st fs) {k o s : Nat} {ag : Bool} (hk : fs[k]? = some (o, s + 1, ag)) (b q : Nat) (w : World) :
    (Instr.fieldAt t (.pointer (some ⟨b, q, none⟩)) k).run P w = .ok (.pointer (some ⟨b, q + o, none⟩)) w := by
  obtain ⟨fl, hu, hf⟩ := fld_of hT ht hd
  obtain ⟨f, h1, h2, h3, _⟩ := fldOk_get hf hk
  have h1' : fl[k]? = some f := by simpa using h1
  unfold Instr.fieldAt
  simp [Sem.run_bind, run_underlying hu, h1', Instr.sureAddr, fieldPlace, run_sizeOf h3, addr_add', h2]
theorem part_sound {t s : Nat} {ag : Bool} {cs : List SV} {o : Nat} {r : SV} (hs : sizeB P t = some s) (ha : aggB P t = some ag) (hb : bdL n cs)
    (h : prt ag cs o s = some r ∨ prtD Ar.real ag cs o s = some r) (w : World) :
    (part t (denL β cs).toArray o).run P w = .ok (den β r) w ∧ bd n r := by
  unfold part
  rw [Sem.run_bind, run_isAgg ha]
  simp only [Result.andThen_ok]
  cases ag with
  | true =>
    have h2 : ∃ vs, r = .agg vs ∧ o + s ≤ cs.length ∧ vs = (cs.drop o).take s := by
      rcases h with h | h
      · simp only [prt, wrapO] at h
        cases hq : sub1 cs o s with
        | none => simp [hq] at h
        | some vs => simp only [hq, Option.some.injEq] at h; exact ⟨vs, h.symm, sub1_eq hq⟩
      · simp only [prtD, wrapO] at h
        cases hq : Ar.real.sub cs o s with
        | none => simp [hq] at h
        | some vs => simp only [hq, Option.some.injEq] at h; exact ⟨vs, h.symm, subr_eq hq⟩
    obtain ⟨vs, rfl, h3, rfl⟩ := h2
    refine ⟨?_, by simp only [bd]; exact bdL_sub hb _ _⟩
    simp only [if_true, Sem.run_bind, run_sizeOf hs, Result.andThen_ok, Sem.run_pure, den]
    congr 2
    apply Array.ext_getElem?
    intro j
    simp only [denL_eq, Array.getElem?_extract, List.getElem?_toArray, List.getElem?_map, List.getElem?_take, List.getElem?_drop, List.size_toArray, List.length_map]
    by_cases hj : j < s
    · rw [if_pos (by omega), if_pos hj]
    · rw [if_neg (by omega), if_neg hj]; rfl
  | false =>
    have h2 : cs[o]? = some r := by rcases h with h | h <;> exact h
    refine ⟨?_, bdL_get hb h2⟩
    simp [denL_eq, h2]
end
end Go.Vg
