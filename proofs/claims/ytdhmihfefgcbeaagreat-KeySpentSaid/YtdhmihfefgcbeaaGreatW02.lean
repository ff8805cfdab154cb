/-
  This text proves what these texts prove: VgD, VgE, VgF. Conditions: those of each theorem.
-/
import Derived.Great.BuildSlice
import Derived.Test.YtdhmihfefgcbeaaGreatW01
section
namespace Go.Vg
open Go.RowKit
section
variable {P : Program} {T : Nat -> Option Ty} {g : G} {β : Nat -> Nat} {F : Nat -> Option SV} {L : Nat -> Option Blk} {n : Nat -> Prop} {a : Act} {W : World}
theorem sameK_eq {k k' : IntKind} (h : sameK k k' = true) : k = k' := by cases k <;> cases k' <;> simp_all [sameK]
theorem eqGuard_int (op : BinOp) (t : TypeId) (x y : Operand) {u v : Value} (hu : u ≠ .nilIface) (hv : ∀ c d, ¬ (u = .agg c /\ v = .agg d)) (w : World) : (eqGuard op t x y u v).run P w = .ok () w := by
 unfold eqGuard
 cases op <;> simp
 all_goals (cases u <;> cases v <;> simp_all)
theorem okSh_sound {y : Operand} {b : Int} (hy : ∀ k c, y = .const (.int k c) -> b = c) (h : okSh Ar.real y b = true) : ¬ b < 0 := by
 unfold okSh at h
 split at h
 ·rename_i k m
  rw [hy k _ rfl]
  show ¬ ((m : Nat) : Int) < 0
  omega
 ·simpa [Ar.real] using h
theorem okQu_sound {y : Operand} {b : Int} (hy : ∀ k c, y = .const (.int k c) -> b = c) (h : okQu Ar.real y b = true) : ¬ b = 0 := by
 unfold okQu at h
 split at h
 ·rename_i k m
  rw [hy k _ rfl]
  show ¬ (((m + 1 : Nat)) : Int) = 0
  omega
 ·simpa [Ar.real] using h
theorem binV_sound {op : BinOp} {xt : TypeId} {yo : Operand} {u v r : SV} (hy : ∀ k c, yo = .const (.int k c) -> v = .int k c) (h : binV Ar.real op yo u v = some r) (w : World) : (binOp op xt (den β u) (den β v)).run P w = .ok (den β r) w /\ bd n r := by
 cases u with
 | int k x =>
   cases v with
   | int k' y =>
     have hy' : ∀ k c, yo = .const (.int k c) -> y = c := fun k c e => by have := hy k c e; cases this; rfl
     by_cases hs : op = .shl \/ op = .shr
     ·have h2 : (match okSh Ar.real yo y with | true => some (SV.int k (Ar.real.sh op k x y)) | false => none) = some r := by
       rcases hs with rfl | rfl <;> exact h
      cases hn : okSh Ar.real yo y with
      | false => simp [hn] at h2
      | true =>
        simp only [hn, Option.some.injEq] at h2
        subst h2
        have hy := okSh_sound hy' hn
        rcases hs with rfl | rfl <;> simp [binOp, Op.shift, den, bd, hy, Ar.real]
     ·have h2 : (match sameK k k' with
       | true => match isCmp op with
         | true => some (SV.bool (Ar.real.cmp op x y))
         | false => match op with
           | .quo | .rem => match okQu Ar.real yo y with
             | true => some (.int k (Ar.real.bin op k x y))
             | false => none
           | _ => some (.int k (Ar.real.bin op k x y))
       | false => none) = some r := by
       cases op <;> first | exact h | exact absurd (Or.inl rfl) hs | exact absurd (Or.inr rfl) hs
      cases hk : sameK k k' with
      | false => simp [hk] at h2
      | true =>
        obtain rfl := sameK_eq hk
        simp only [hk] at h2
        cases op <;> simp only [isCmp, Option.some.injEq] at h2 <;> first
         | exact absurd (Or.inl rfl) hs
         | exact absurd (Or.inr rfl) hs
         | (subst h2; simp [binOp, Op.intArith, Op.intBits, Op.intCmp, den, bd, Ar.real, intBin, boolCmp]; done)
         | (cases hz : okQu Ar.real yo y with
            | false => simp [hz] at h2
            | true =>
              simp only [hz, Option.some.injEq] at h2
              subst h2
              have hy := okQu_sound hy' hz
              simp [binOp, Op.intDiv, den, bd, Ar.real, intBin, hy])
   | _ => simp [binV] at h
 | str x =>
   cases v with
   | str y =>
     cases hc : isCmp op with
     | true =>
       simp only [binV, hc, Option.some.injEq] at h
       subst h
       cases op <;> simp [isCmp] at hc <;> simp [binOp, Op.stringOp, den, bd, Ar.real, strCmp]
     | false =>
       simp only [binV, hc] at h
       cases op <;> simp at h
       cases hs : Ar.real.scat x y with
       | none => simp [hs] at h
       | some z =>
         simp only [hs, Option.some.injEq] at h
         subst h
         simp only [Ar.real] at hs
         split at hs
         ·cases hs
         ·rename_i hb
          obtain rfl := Option.some.inj hs
          simp only [binOp, Op.stringOp, den, bd]
          rw [if_neg hb]
          simp
   | _ => simp [binV] at h
 | _ => simp [binV] at h
theorem eqIn_bool {d : Nat} {t : TypeId} (hu : P.underlying t = some .bool) (x y : Bool) (w : World) : (Op.equalIn (d + 1) t (.bool x) (.bool y)).run P w = .ok (x == y) w := by
 simp [Op.equalIn, run_underlying hu]
theorem eqIn_pp {d : Nat} {t e : TypeId} (hu : P.underlying t = some (.pointer e)) (w : World) : (Op.equalIn (d + 1) t (.pointer none) (.pointer none)).run P w = .ok true w := by
 simp [Op.equalIn, run_underlying hu]
theorem eqIn_np {d : Nat} {t e : TypeId} (hu : P.underlying t = some (.pointer e)) (x : Addr) (w : World) : (Op.equalIn (d + 1) t (.pointer none) (.pointer (some x))).run P w = .ok false w := by
 simp [Op.equalIn, run_underlying hu]
theorem eqIn_pn {d : Nat} {t e : TypeId} (hu : P.underlying t = some (.pointer e)) (x : Addr) (w : World) : (Op.equalIn (d + 1) t (.pointer (some x)) (.pointer none)).run P w = .ok false w := by
 simp [Op.equalIn, run_underlying hu]
theorem eqIn_ss {d : Nat} {t e : TypeId} (hu : P.underlying t = some (.slice e)) (w : World) : (Op.equalIn (d + 1) t (.slice none 0 0) (.slice none 0 0)).run P w = .ok true w := by
 simp [Op.equalIn, run_underlying hu]
theorem eqIn_ns {d : Nat} {t e : TypeId} (hu : P.underlying t = some (.slice e)) (x : Addr) (m c : Nat) (w : World) : (Op.equalIn (d + 1) t (.slice none 0 0) (.slice (some x) m c)).run P w = .ok false w := by
 simp [Op.equalIn, run_underlying hu]
theorem eqIn_sn {d : Nat} {t e : TypeId} (hu : P.underlying t = some (.slice e)) (x : Addr) (m c : Nat) (w : World) : (Op.equalIn (d + 1) t (.slice (some x) m c) (.slice none 0 0)).run P w = .ok false w := by
 simp [Op.equalIn, run_underlying hu]
theorem eqIn_ff {d : Nat} {t : TypeId} {p q : Array TypeId} {v : Bool} (hu : P.underlying t = some (.func p q v)) (w : World) : (Op.equalIn (d + 1) t .nilFunc .nilFunc).run P w = .ok true w := by
 simp [Op.equalIn, run_underlying hu]
theorem eqIn_nf {d : Nat} {t : TypeId} {p q : Array TypeId} {v : Bool} (hu : P.underlying t = some (.func p q v)) (f : Fn) (x y : Array Value) (w : World) : (Op.equalIn (d + 1) t .nilFunc (.func f x y)).run P w = .ok false w := by
 simp [Op.equalIn, run_underlying hu]
theorem eqIn_fn {d : Nat} {t : TypeId} {p q : Array TypeId} {v : Bool} (hu : P.underlying t = some (.func p q v)) (f : Fn) (x y : Array Value) (w : World) : (Op.equalIn (d + 1) t (.func f x y) .nilFunc).run P w = .ok false w := by
 simp [Op.equalIn, run_underlying hu]
theorem eq_run {t : TypeId} {u v : Value} {b : Bool} {w : World} (h : (Op.equalIn (9999 + 1) t u v).run P w = .ok b w) (h1 : binOp .eql t u v = (do pure (.bool (<- Op.equal t u v)))) (h2 : binOp .neq t u v = (do pure (.bool (!(<- Op.equal t u v))))) :
 (binOp .eql t u v).run P w = .ok (.bool b) w /\ (binOp .neq t u v).run P w = .ok (.bool (!b)) w := by
 have h' : (Op.equal t u v).run P w = .ok b w := h
 rw [h1, h2]
 simp only [Sem.run_bind, h', Result.andThen_ok, Sem.run_pure, and_self]
theorem nil_of {op : BinOp} {b : Bool} {u v : Value} {t : TypeId} {w : World} {r : SV} (h : (match nilCmp op b with | some b => some (SV.bool b) | none => none) = some r)
 (hr : (binOp .eql t u v).run P w = .ok (.bool b) w /\ (binOp .neq t u v).run P w = .ok (.bool (!b)) w) : (binOp op t u v).run P w = .ok (den β r) w /\ bd n r := by
 cases op <;> simp [nilCmp] at h <;> subst h
 ·exact ⟨hr.1, by simp [bd]⟩
 ·exact ⟨hr.2, by simp [bd]⟩
theorem binT_sound (hT : TOk P T) {op : BinOp} {xt : TypeId} {i : Ty} (hi : T xt = some i) {u v r : SV} (h : binT Ar.real i.d op u v = some r) (w : World) : (binOp op xt (den β u) (den β v)).run P w = .ok (den β r) w /\ bd n r := by
 have h1 := hT xt i hi
 simp only [okTyB, Bool.and_eq_true] at h1
 obtain ⟨_, h2⟩ := h1
 generalize i.d = dd at h h2
 cases hq : P.underlying xt with
 | none => rw [hq] at h2; cases dd <;> cases h2
 | some d =>
   rw [hq] at h2
   unfold binT at h
   split at h
   ·cases d <;> first | (cases h2; done) | skip
    rename_i x y
    have hr := eq_run (eqIn_bool hq x y w) rfl rfl
    split at h
    ·obtain rfl := Option.some.inj h
     exact ⟨hr.1, by simp [bd]⟩
    ·obtain rfl := Option.some.inj h
     exact ⟨hr.2, by simp [bd]⟩
    ·cases h
   ·cases d <;> first | (cases h2; done) | skip
    exact nil_of h (eq_run (eqIn_pp hq w) rfl rfl)
   ·cases d <;> first | (cases h2; done) | skip
    exact nil_of h (eq_run (eqIn_ss hq w) rfl rfl)
   ·cases d <;> first | (cases h2; done) | skip
    exact nil_of h (eq_run (eqIn_ff hq w) rfl rfl)
   ·cases d <;> first | (cases h2; done) | skip
    exact nil_of h (eq_run (eqIn_pn hq _ w) rfl rfl)
   ·cases d <;> first | (cases h2; done) | skip
    exact nil_of h (eq_run (eqIn_np hq _ w) rfl rfl)
   ·cases d <;> first | (cases h2; done) | skip
    exact nil_of h (eq_run (eqIn_pn hq _ w) rfl rfl)
   ·cases d <;> first | (cases h2; done) | skip
    exact nil_of h (eq_run (eqIn_np hq _ w) rfl rfl)
   ·cases d <;> first | (cases h2; done) | skip
    exact nil_of h (eq_run (eqIn_sn hq _ _ _ w) rfl rfl)
   ·cases d <;> first | (cases h2; done) | skip
    exact nil_of h (eq_run (eqIn_ns hq _ _ _ w) rfl rfl)
   ·cases d <;> first | (cases h2; done) | skip
    exact nil_of h (eq_run (eqIn_fn hq _ _ _ w) rfl rfl)
   ·cases d <;> first | (cases h2; done) | skip
    exact nil_of h (eq_run (eqIn_nf hq _ _ _ w) rfl rfl)
   ·cases h
theorem unV_sound {op : UnOp} {u r : SV} (h : unV Ar.real op u = some r) (w : World) : (Op.unary op (den β u)).run P w = .ok (den β r) w /\ bd n r := by
 unfold unV at h
 split at h
 ·simp only [Option.some.injEq] at h; subst h
  simp [Op.unary, Op.intArith, den, bd, Ar.real]
 ·simp only [Option.some.injEq] at h; subst h
  simp [Op.unary, Op.intBits, den, bd, Ar.real, intBin]
 ·simp only [Option.some.injEq] at h; subst h
  simp [Op.unary, den, bd, Ar.real]
 ·cases h
theorem fld_of (hT : TOk P T) {t : Nat} {i : Ty} (ht : T t = some i) {fs : List (Nat × Nat × Bool)} (hd : i.d = .st fs) : ∃ fl, P.underlying t = some (.struct fl) /\ fldOk P fl.toList fs = true := by
 have h1 := hT t i ht
 simp only [okTyB, Bool.and_eq_true] at h1
 obtain ⟨_, h2⟩ := h1
 rw [hd] at h2
 cases hq : P.underlying t with
 | none => simp [hq] at h2
 | some d => cases d <;> simp_all
theorem fldOk_get {fl : List Field} {fs : List (Nat × Nat × Bool)} (h : fldOk P fl fs = true) {k o s : Nat} {ag : Bool} (hk : fs[k]? = some (o, s, ag)) : ∃ f, fl[k]? = some f /\ f.offset = o /\ sizeB P f.type = some s /\ aggB P f.type = some ag := by
 induction fl generalizing fs k with
 | nil => cases fs <;> simp_all [fldOk]
 | cons f fl ih =>
   cases fs with
   | nil => simp [fldOk] at h
   | cons p fs =>
     obtain ⟨o1, s1, a1⟩ := p
     simp only [fldOk, Bool.and_eq_true, beq_iff_eq] at h
     obtain ⟨⟨⟨h1, h2⟩, h3⟩, h4⟩ := h
     cases k with
     | zero =>
       simp only [List.getElem?_cons_zero, Option.some.injEq, Prod.mk.injEq] at hk
       obtain ⟨rfl, rfl, rfl⟩ := hk
       exact ⟨f, rfl, h1, h2, h3⟩
     | succ k => exact ih h4 (by simpa using hk)
theorem addr_add' (b o k : Nat) : (⟨b, o, none⟩ : Addr).add k = ⟨b, o + k, none⟩ := addr_add b o k
theorem fieldAddr_sound (hT : TOk P T) {t : Nat} {i : Ty} (ht : T t = some i) {fs : List (Nat × Nat × Bool)} (hd : i.d = .st fs) {k o s : Nat} {ag : Bool} (hk : fs[k]? = some (o, s + 1, ag)) (b q : Nat) (w : World) :
 (Instr.fieldAt t (.pointer (some ⟨b, q, none⟩)) k).run P w = .ok (.pointer (some ⟨b, q + o, none⟩)) w := by
 obtain ⟨fl, hu, hf⟩ := fld_of hT ht hd
 obtain ⟨f, h1, h2, h3, _⟩ := fldOk_get hf hk
 have h1' : fl[k]? = some f := by simpa using h1
 unfold Instr.fieldAt
 simp [Sem.run_bind, run_underlying hu, h1', Instr.sureAddr, fieldPlace, run_sizeOf h3, addr_add', h2]
theorem part_sound {t s : Nat} {ag : Bool} {cs : List SV} {o : Nat} {r : SV} (hs : sizeB P t = some s) (ha : aggB P t = some ag) (hb : bdL n cs)
 (h : prt ag cs o s = some r \/ prtD Ar.real ag cs o s = some r) (w : World) :
 (part t (denL β cs).toArray o).run P w = .ok (den β r) w /\ bd n r := by
 unfold part
 rw [Sem.run_bind, run_isAgg ha]
 simp only [Result.andThen_ok]
 cases ag with
 | true =>
   have h2 : ∃ vs, r = .agg vs /\ o + s <= cs.length /\ vs = (cs.drop o).take s := by
    rcases h with h | h
    ·simp only [prt, wrapO] at h
     cases hq : sub1 cs o s with
     | none => simp [hq] at h
     | some vs => simp only [hq, Option.some.injEq] at h; exact ⟨vs, h.symm, sub1_eq hq⟩
    ·simp only [prtD, wrapO] at h
     cases hq : Ar.real.sub cs o s with
     | none => simp [hq] at h
     | some vs => simp only [hq, Option.some.injEq] at h; exact ⟨vs, h.symm, subr_eq hq⟩
   obtain ⟨vs, rfl, h3, rfl⟩ := h2
   refine ⟨?_, by simp only [bd]; exact bdL_sub hb _ _⟩
   simp only [if_true, Sem.run_bind, run_sizeOf hs, Result.andThen_ok, Sem.run_pure, den]
   congr 2
   apply Array.ext_getElem?
   intro j
   simp only [denL_eq, Array.getElem?_extract, List.getElem?_toArray, List.getElem?_map, List.getElem?_take, List.getElem?_drop, List.size_toArray, List.length_map]
   by_cases hj : j < s
   ·rw [if_pos (by omega), if_pos hj]
   ·rw [if_neg (by omega), if_neg hj]; rfl
 | false =>
   have h2 : cs[o]? = some r := by rcases h with h | h <;> exact h
   refine ⟨?_, bdL_get hb h2⟩
   simp [denL_eq, h2]
end
end Go.Vg
end
section
namespace Go.Vg
open Go.RowKit
theorem foldl_put (off : Nat) : ∀ (vs : List Value) (k : Nat) (cells : Array Value), off + k + vs.length <= cells.size ->
 ((vs.zipIdx k).foldl (fun cs (p : Value × Nat) => cs.setIfInBounds (off + p.2) p.1) cells) = (cells.toList.take (off + k) ++ vs ++ cells.toList.drop (off + k + vs.length)).toArray
 | [], k, cells, _ => by simp
 | v :: vs, k, cells, h => by
   simp only [List.length_cons] at h
   rw [List.zipIdx_cons, List.foldl_cons, foldl_put off vs (k + 1) _ (by simp; omega)]
   congr 1
   apply List.ext_getElem?
   intro q
   simp only [Array.toList_setIfInBounds, List.length_cons]
   rw [show off + (k + 1) = off + k + 1 from rfl, show off + k + (vs.length + 1) = off + k + 1 + vs.length from by omega]
   simp only [List.getElem?_append, List.length_append, List.length_take, List.length_set, Array.length_toList, List.getElem?_drop, List.getElem?_take, List.getElem?_set, List.length_cons, show min (off + k) cells.size = off + k by omega,
    show min (off + k + 1) cells.size = off + k + 1 by omega]
   by_cases h2 : q < off + k
   ·simp [show q < off + k + 1 by omega, show q < off + k + (vs.length + 1) by omega, show q < off + k + 1 + vs.length by omega, h2, show off + k ≠ q by omega]
   ·by_cases h3 : q = off + k
    ·subst h3; simp [show off + k < cells.size by omega, show off + k < off + k + 1 + vs.length by omega]
    ·by_cases h4 : q < off + k + 1 + vs.length
     ·simp [h2, h4, show ¬ q < off + k + 1 by omega, show q < off + k + (vs.length + 1) by omega, show q - (off + k) = (q - (off + k + 1)) + 1 by omega]
     ·simp [h4, show ¬ q < off + k + (vs.length + 1) by omega]
      rw [if_neg (by omega)]
      congr 1
      omega
section
variable {P : Program} {T : Nat -> Option Ty} {g : G} {β : Nat -> Nat} {F : Nat -> Option SV} {L : Nat -> Option Blk} {n : Nat -> Prop} {a : Act} {W : World}
theorem cells_den2 (β : Nat -> Nat) {v : SV} (h : noRaw v = true) : (den β v).cells = (denL β (cellsOf v)).toArray := by
 cases v <;> simp_all [noRaw, den, cellsOf, Value.cells, denL]
theorem bd_cells {n : Nat -> Prop} {v : SV} (h : bd n v) : bdL n (cellsOf v) := by
 cases v <;> simp_all [cellsOf, bd, bdL]
theorem splice_den (β : Nat -> Nat) (cs vs : List SV) (o : Nat) : denL β (splice cs o vs) = (denL β cs).take o ++ denL β vs ++ (denL β cs).drop (o + vs.length) := by
 simp [splice, denL_eq]
theorem bdL_splice {n : Nat -> Prop} {o : Nat} {cs vs : List SV} (h1 : bdL n cs) (h2 : bdL n vs) : bdL n (splice cs o vs) := by
 rw [bdL_iff] at *
 intro v hv
 simp only [splice, List.mem_append] at hv
 rcases hv with (hv | hv) | hv
 ·exact h1 v (List.mem_of_mem_take hv)
 ·exact h2 v hv
 ·exact h1 v (List.mem_of_mem_drop hv)
theorem fillS_sound (hf : Fra g β F n a) {pl pl' : Nat -> Option (Nat × Nat)} (hp : ∀ i p, pl i = some p -> pl' i = some p) : ∀ {parts : List (Nat × Operand)} {cs r : List SV}, bdL n cs -> fillS pl F cs parts = some r ->
 Instr.fill pl' (denL β cs).toArray (parts.map fun p => (p.1, a.eval p.2)) = some (denL β r).toArray /\ bdL n r := by
 intro parts
 induction parts with
 | nil => intro cs r hb h; simp only [fillS, Option.some.injEq] at h; subst h; exact ⟨rfl, hb⟩
 | cons p parts ih =>
   obtain ⟨i, x⟩ := p
   intro cs r hb h
   simp only [fillS] at h
   cases h1 : ev F x with
   | none => simp [h1] at h
   | some v =>
     cases h2 : pl i with
     | none => cases h0 : noRaw v <;> simp [h1, h2, h0] at h
     | some q =>
       obtain ⟨o, s⟩ := q
       cases h0 : noRaw v with
       | false => simp [h1, h0] at h
       | true =>
       simp only [h1, h2, h0] at h
       cases h3 : Nat.beq (cellsOf v).length s with
       | false => simp [h3] at h
       | true =>
         cases h4 : Nat.ble (o + s) cs.length with
         | false => simp [h3, h4] at h
         | true =>
           simp only [h3, h4] at h
           obtain ⟨e1, b1⟩ := ev_sound hf h1
           have h5 : (cellsOf v).length = s := Nat.eq_of_beq_eq_true h3
           have h6 : o + s <= cs.length := Nat.le_of_ble_eq_true h4
           have hc : (den β v).cells = (denL β (cellsOf v)).toArray := cells_den2 β h0
           have hl : (denL β (cellsOf v)).length = s := by rw [denL_eq, List.length_map, h5]
           have hl2 : (denL β cs).length = cs.length := by rw [denL_eq, List.length_map]
           obtain ⟨r1, r2⟩ := ih (bdL_splice hb (bd_cells b1)) h
           refine ⟨?_, r2⟩
           rw [List.map_cons]
           simp only [Instr.fill, hp _ _ h2, e1, hc]
           rw [if_neg (by simp [hl, hl2]; omega)]
           rw [<- r1]
           congr 1
           rw [splice_den, h5]
           have := foldl_put o (denL β (cellsOf v)) 0 (denL β cs).toArray (by simp [hl, hl2]; omega)
           simp only [Nat.add_zero, hl] at this
           rw [<- this]
           rw [<- Array.foldl_toList]
           simp
theorem mapM_fld {fl : List Field} {fs : List (Nat × Nat × Bool)} (h : fldOk P fl fs = true) : fl.mapM (fun f => (P.info? f.type).map fun i => (f.offset, i.size)) = some (fs.map fun p => (p.1, p.2.1)) := by
 induction fl generalizing fs with
 | nil => cases fs <;> simp_all [fldOk]
 | cons f fl ih =>
   cases fs with
   | nil => simp [fldOk] at h
   | cons p fs =>
     obtain ⟨o1, s1, a1⟩ := p
     simp only [fldOk, Bool.and_eq_true, beq_iff_eq] at h
     obtain ⟨⟨⟨h1, h2⟩, h3⟩, h4⟩ := h
     unfold sizeB at h2
     obtain ⟨i, hi, hs⟩ := Option.map_eq_some_iff.1 h2
     simp [List.mapM_cons, ih h4, hi, hs, h1]
theorem build_sound (hT : TOk P T) (hf : Fra g β F n a) {t : Nat} {i : Ty} (ht : T t = some i) {parts : Array (Nat × Operand)} {cs : List SV} (hg : i.d.agg = true)
 (h : fillS (place i) F i.z parts.toList = some cs) : (Instr.build t (parts.map fun p => (p.1, a.eval p.2))).run P W = .ok (.agg (denL β cs).toArray) W /\ bdL n cs := by
 obtain ⟨info, hi, hsz, z, hz, hzc, hzb, _⟩ := ty_size (β := β) hT ht
 have h1 := hT t i ht
 simp only [okTyB, Bool.and_eq_true] at h1
 obtain ⟨_, h2⟩ := h1
 have hz0 : z.cells = (denL β i.z).toArray := by rw [<- hzc]
 have hzn : bdL n i.z := hzb n
 have hpm : (parts.map fun p => (p.1, a.eval p.2)).toList = parts.toList.map fun p => (p.1, a.eval p.2) := by simp
 cases hd : i.d with
 | ar m e es ag =>
   rw [hd] at h2
   cases hq : P.underlying t with
   | none => simp [hq] at h2
   | some d =>
     cases d <;> simp [hq] at h2
     rename_i m' e'
     obtain ⟨⟨⟨rfl, rfl⟩, h3⟩, h4⟩ := h2
     unfold sizeB at h3
     obtain ⟨ie, hie, hes⟩ := Option.map_eq_some_iff.1 h3
     obtain ⟨r1, r2⟩ := fillS_sound hf (pl' := fun i => some (i * ie.size, ie.size)) (fun k p hk => by simp only [place, hd] at hk; rw [hes]; exact hk) hzn h
     refine ⟨run_build W t _ _ ?_, r2⟩
     simp only [Program.built, hi, hq, hz, hie, hpm, hz0]
     exact r1
 | st fs =>
   obtain ⟨fl, hu, hfl⟩ := fld_of hT ht hd
   obtain ⟨r1, r2⟩ := fillS_sound hf (pl' := fun k => (fs.map fun p => (p.1, p.2.1)).toArray[k]?) (fun k p hk => by
    simp only [place, hd] at hk
    cases hk2 : fs[k]? with
    | none => simp [hk2] at hk
    | some q => obtain ⟨o, s, ag⟩ := q; simp only [hk2, Option.some.injEq] at hk; subst hk; simp [hk2]) hzn h
   refine ⟨run_build W t _ _ ?_, r2⟩
   simp only [Program.built, hi, hu, hz, mapM_fld hfl, hpm, hz0]
   exact r1
 | _ => simp [hd, TyD.agg] at hg
theorem ixd_sound {x : Operand} {v : SV} (hf : Fra g β F n a) (he : ev F x = some v) {len : Nat} : (∀ j, ixd Ar.real x v len = .st j -> ∃ k, a.eval x = .int k j /\ j < len) /\ (∀ j, ixd Ar.real x v len = .dy j -> ∃ k, a.eval x = .int k j /\ j < len) := by
 have he2 := (ev_sound hf he).1
 have key : ∀ k q j, v = .int k q -> Ar.real.ix q len = some j -> a.eval x = .int k j /\ j < len := by
  intro k q j hv hq
  simp only [Ar.real] at hq
  split at hq
  ·rename_i hb
   obtain rfl := Option.some.inj hq
   rw [he2, hv]
   refine ⟨?_, by omega⟩
   simp only [den]
   congr 1
   omega
  ·cases hq
 have hdy : ∀ j, ixdy Ar.real v len = .dy j -> ∃ k, a.eval x = .int k j /\ j < len := by
  intro j h
  unfold ixdy at h
  cases v with
  | int k q =>
    simp only at h
    cases hq : Ar.real.ix q len with
    | none => simp [hq] at h
    | some i =>
      simp only [hq, Ixd.dy.injEq] at h
      subst h
      exact ⟨k, key k q i rfl hq⟩
  | _ => simp at h
 have hst : ∀ j, ixdy Ar.real v len = .st j -> False := by
  intro j h
  unfold ixdy at h
  cases v with
  | int k q => simp only at h; cases hq : Ar.real.ix q len <;> simp [hq] at h
  | _ => simp at h
 unfold ixd
 split
 ·rename_i k m
  constructor
  ·intro j h
   cases hb : Nat.blt m len with
   | false => simp [hb] at h
   | true =>
     simp only [hb, Ixd.st.injEq] at h
     subst h
     exact ⟨k, rfl, Nat.le_of_ble_eq_true hb⟩
  ·intro j h
   cases hb : Nat.blt m len <;> simp [hb] at h
 ·exact ⟨fun j h => (hst j h).elim, hdy⟩
theorem indexAt_arr {t m e es : Nat} (hu : P.underlying t = some (.array m e)) (hs : sizeB P e = some es) (b o j : Nat) (k : IntKind) (hj : j < m) (w : World) :
 (Instr.indexAt t (.pointer (some ⟨b, o, none⟩)) (.int k j)).run P w = .ok (.pointer (some ⟨b, o + j * es, none⟩)) w := by
 unfold Instr.indexAt
 simp [Sem.run_bind, run_underlying hu, asIntOf, Instr.sureAddr, run_sizeOf hs, addr_add', hj, show (0 : Int) <= j from Int.natCast_nonneg j]
theorem indexAt_sl {t e es : Nat} (hu : P.underlying t = some (.slice e)) (hs : sizeB P e = some es) (b o m c j : Nat) (k : IntKind) (hj : j < m) (w : World) :
 (Instr.indexAt t (.slice (some ⟨b, o, none⟩) m c) (.int k j)).run P w = .ok (.pointer (some ⟨b, o + j * es, none⟩)) w := by
 unfold Instr.indexAt
 simp [Sem.run_bind, run_underlying hu, asIntOf, run_sizeOf hs, addr_add', hj, show (0 : Int) <= j from Int.natCast_nonneg j]
theorem arr_of (hT : TOk P T) {t : Nat} {i : Ty} (ht : T t = some i) {m e es : Nat} {ag : Bool} (hd : i.d = .ar m e es ag) : P.underlying t = some (.array m e) /\ sizeB P e = some es /\ aggB P e = some ag := by
 have h1 := hT t i ht
 simp only [okTyB, Bool.and_eq_true] at h1
 obtain ⟨_, h2⟩ := h1
 rw [hd] at h2
 cases hq : P.underlying t with
 | none => simp [hq] at h2
 | some d =>
   cases d <;> simp [hq] at h2
   obtain ⟨⟨⟨rfl, rfl⟩, h3⟩, h4⟩ := h2
   exact ⟨rfl, h3, h4⟩
theorem sl_of (hT : TOk P T) {t : Nat} {i : Ty} (ht : T t = some i) {e es : Nat} (hd : i.d = .sl e es) : P.underlying t = some (.slice e) /\ sizeB P e = some es := by
 have h1 := hT t i ht
 simp only [okTyB, Bool.and_eq_true] at h1
 obtain ⟨_, h2⟩ := h1
 rw [hd] at h2
 cases hq : P.underlying t with
 | none => simp [hq] at h2
 | some d =>
   cases d <;> simp [hq] at h2
   obtain ⟨rfl, h3⟩ := h2
   exact ⟨rfl, h3⟩
theorem ixAddr_sound (hT : TOk P T) (hf : Fra g β F n a) {t : Nat} {u r iv : SV} {ix : Operand} (hiv : ev F ix = some iv) (hbu : bd n u) (h : ixAddr Ar.real T t u ix iv = some r) :
 (Instr.indexAt t (den β u) (a.eval ix)).run P W = .ok (den β r) W /\ bd n r := by
 unfold ixAddr at h
 cases ht : T t with
 | none => simp [ht] at h
 | some i =>
   simp only [ht] at h
   obtain ⟨s1, s2⟩ := ixd_sound hf hiv (len := (match i.d with | .ar m _ _ _ => m | _ => 0))
   cases hd : i.d with
   | ar m e es ag =>
     obtain ⟨hu, hs, _⟩ := arr_of hT ht hd
     simp only [hd] at h s1 s2
     cases u with
     | ptr l o =>
       simp only at h
       cases hx : ixd Ar.real ix iv m with
       | no => simp [hx] at h
       | st j =>
         simp only [hx, Option.some.injEq] at h; subst h
         obtain ⟨k, hk, hj⟩ := s1 j hx
         rw [hk]
         exact ⟨indexAt_arr hu hs _ _ _ _ hj _, hbu⟩
       | dy j =>
         simp only [hx, Option.some.injEq] at h; subst h
         obtain ⟨k, hk, hj⟩ := s2 j hx
         rw [hk]
         exact ⟨indexAt_arr hu hs _ _ _ _ hj _, hbu⟩
     | ptrS l o =>
       simp only at h
       cases hx : ixd Ar.real ix iv m with
       | no => simp [hx] at h
       | st j =>
         simp only [hx, Option.some.injEq] at h; subst h
         obtain ⟨k, hk, hj⟩ := s1 j hx
         rw [hk]
         exact ⟨indexAt_arr hu hs _ _ _ _ hj _, hbu⟩
       | dy j =>
         simp only [hx, Option.some.injEq] at h; subst h
         obtain ⟨k, hk, hj⟩ := s2 j hx
         rw [hk]
         exact ⟨indexAt_arr hu hs _ _ _ _ hj _, hbu⟩
     | _ => simp at h
   | sl e es =>
     obtain ⟨hu, hs⟩ := sl_of hT ht hd
     simp only [hd] at h
     cases u with
     | slice l o m c =>
       simp only at h
       cases iv with
       | int k q =>
         simp only at h
         cases hx : Ar.real.ix q m with
         | none => simp [hx] at h
         | some j =>
           simp only [hx, Option.some.injEq] at h; subst h
           have he := (ev_sound hf hiv).1
           simp only [Ar.real] at hx
           split at hx
           ·rename_i hb
            obtain rfl := Option.some.inj hx
            have : a.eval ix = .int k (q.toNat : Int) := by rw [he]; simp only [den]; congr 1; omega
            rw [this]
            exact ⟨indexAt_sl hu hs _ _ _ _ _ _ (by omega) _, hbu⟩
           ·cases hx
       | _ => simp at h
     | _ => simp at h
   | _ => simp [hd] at h
end
end Go.Vg
end
section
namespace Go.Vg
open Go.RowKit
section
variable {P : Program} {T : Nat -> Option Ty} {g : G} {β : Nat -> Nat} {F : Nat -> Option SV} {L : Nat -> Option Blk} {n : Nat -> Prop} {a : Act} {W : World}
theorem v_run {o : Oper} {s : Sem Value} {v : Value} {W' : World} (he : execOp a.eval o = (do pure (.value (<- s)))) (hs : s.run P W = .ok v W') : (execOp a.eval o).run P W = .ok (.value v) W' := by
 rw [he]; simp [hs]
set_option maxHeartbeats 1000000 in
theorem valV_sound (hT : TOk P T) (hm : Mem g β L n W) (hf : Fra g β F n a) {o : Oper} (hn : native T F o.op = true) {r : SV} (h : valV Ar.real T F L o.op = some r) :
 (execOp a.eval o).run P W = .ok (.value (den β r)) W /\ bd n r := by
 cases ho : o.op with
 | move x =>
   rw [ho] at h
   obtain ⟨e1, b1⟩ := ev_sound hf (show ev F x = some r from h)
   exact ⟨by unfold execOp; simp [ho, e1], b1⟩
 | assign x =>
   rw [ho] at h
   obtain ⟨e1, b1⟩ := ev_sound hf (show ev F x = some r from h)
   exact ⟨by unfold execOp; simp [ho, e1], b1⟩
 | pick c x y =>
   rw [ho] at h
   simp only [valV] at h
   cases hc : ev F c with
   | none => simp [hc] at h
   | some u =>
     obtain ⟨e0, _⟩ := ev_sound hf hc
     cases u with
     | bool t =>
       simp only [hc] at h
       cases t with
       | true =>
         obtain ⟨e1, b1⟩ := ev_sound hf (show ev F x = some r from h)
         exact ⟨by unfold execOp; simp [ho, e0, e1, den, asBool], b1⟩
       | false =>
         obtain ⟨e1, b1⟩ := ev_sound hf (show ev F y = some r from h)
         exact ⟨by unfold execOp; simp [ho, e0, e1, den, asBool], b1⟩
     | _ => simp [hc] at h
 | load t x =>
   rw [ho] at h
   simp only [valV] at h
   cases hc : ev F x with
   | none => simp [hc] at h
   | some u =>
     cases ht : T t with
     | none => simp [hc, ht] at h
     | some i =>
       simp only [hc, ht] at h
       obtain ⟨e0, _⟩ := ev_sound hf hc
       obtain ⟨r1, r2⟩ := rd_sound hT hm ht h
       exact ⟨by unfold execOp; simp [ho, e0, r1], r2⟩
 | nilCheck x =>
   rw [ho] at h
   simp only [valV] at h
   split at h
   all_goals first
    | (cases h; done)
    | (rename_i hc
       obtain rfl := Option.some.inj h
       obtain ⟨e0, b0⟩ := ev_sound hf hc
       exact ⟨by unfold execOp; simp [ho, e0, den], b0⟩)
 | unOp op t x =>
   rw [ho] at h
   simp only [valV] at h
   cases hc : ev F x with
   | none => simp [hc] at h
   | some u =>
     simp only [hc] at h
     obtain ⟨e0, _⟩ := ev_sound hf hc
     obtain ⟨r1, r2⟩ := unV_sound (P := P) (β := β) (n := n) h W
     exact ⟨by unfold execOp; simp [ho, e0, r1], r2⟩
 | makeFunc f x y =>
   rw [ho] at h
   simp only [valV] at h
   cases h1 : evs F x.toList with
   | none => simp [h1] at h
   | some xs =>
     cases h2 : evs F y.toList with
     | none => simp [h1, h2] at h
     | some ys =>
       simp only [h1, h2, Option.some.injEq] at h
       subst h
       obtain ⟨e1, b1⟩ := evs_sound hf h1
       obtain ⟨e2, b2⟩ := evs_sound hf h2
       have m1 : x.map a.eval = (denL β xs).toArray := by rw [<- e1, <- Array.toList_map]
       have m2 : y.map a.eval = (denL β ys).toArray := by rw [<- e2, <- Array.toList_map]
       exact ⟨by unfold execOp; simp [ho, Instr.makeFunc, den, m1, m2], ⟨b1, b2⟩⟩
 | fieldAddr s x f =>
   rw [ho] at h
   simp only [valV] at h
   cases hc : ev F x with
   | none => simp [hc] at h
   | some u =>
     cases ht : T s with
     | none => simp [hc, ht] at h
     | some i =>
       simp only [hc, ht] at h
       obtain ⟨e0, b0⟩ := ev_sound hf hc
       cases hd : i.d with
       | st fs =>
         simp only [hd] at h
         cases hk : fs[f]? with
         | none => simp [hk] at h
         | some q =>
           obtain ⟨o', s', ag⟩ := q
           simp only [hk] at h
           cases s' with
           | zero => simp at h
           | succ s' =>
             cases u with
             | ptr l q =>
               simp only [Option.some.injEq] at h
               subst h
               have := fieldAddr_sound hT ht hd hk (β l) q W
               exact ⟨by unfold execOp; simp [ho, e0, den, this], b0⟩
             | ptrS l q =>
               simp only [Option.some.injEq] at h
               subst h
               have := fieldAddr_sound hT ht hd hk (β l) q W
               exact ⟨by unfold execOp; simp [ho, e0, den, this, Ar.real], b0⟩
             | _ => simp at h
       | _ => simp [hd] at h
 | field t x f =>
   rw [ho] at h
   simp only [valV] at h
   cases hc : ev F x with
   | none => simp [hc] at h
   | some u =>
     cases ht : T t with
     | none => cases u <;> simp [hc, ht] at h
     | some i =>
       obtain ⟨e0, b0⟩ := ev_sound hf hc
       cases u with
       | agg cs =>
         simp only [hc, ht] at h
         cases hd : i.d with
         | st fs =>
           simp only [hd] at h
           cases hk : fs[f]? with
           | none => simp [hk] at h
           | some q =>
             obtain ⟨o', s', ag⟩ := q
             simp only [hk] at h
             obtain ⟨fl, hu, hfl⟩ := fld_of hT ht hd
             obtain ⟨ff, h1, h2, h3, h4⟩ := fldOk_get hfl hk
             have h1' : fl[f]? = some ff := by simpa using h1
             obtain ⟨r1, r2⟩ := part_sound (n := n) (β := β) h3 h4 (show bdL n cs from b0) (o := o') (r := r) (Or.inl h) W
             refine ⟨?_, r2⟩
             unfold execOp
             simp [ho, e0, den, Instr.field, run_underlying hu, h1', asAgg, h2, r1]
         | _ => simp [hd] at h
       | _ => simp [hc, ht] at h
 | indexAddr t x ix =>
   rw [ho] at h
   simp only [valV] at h
   cases hc : ev F x with
   | none => simp [hc] at h
   | some u =>
     cases hi : ev F ix with
     | none => simp [hc, hi] at h
     | some iv =>
       simp only [hc, hi] at h
       obtain ⟨e0, b0⟩ := ev_sound hf hc
       obtain ⟨r1, r2⟩ := ixAddr_sound hT hf (W := W) hi b0 h
       exact ⟨by unfold execOp; simp [ho, e0, r1], r2⟩
 | index t x ix =>
   rw [ho] at h
   simp only [valV] at h
   cases hc : ev F x with
   | none => simp [hc] at h
   | some u =>
     obtain ⟨e0, b0⟩ := ev_sound hf hc
     cases hi : ev F ix with
     | none => cases u <;> simp [hc, hi] at h
     | some iv =>
       obtain ⟨e1, b1⟩ := ev_sound hf hi
       cases u with
       | str s =>
         cases iv with
         | int k q =>
           simp only [hc, hi] at h
           cases ht : T t with
           | none => simp [ht] at h
           | some i =>
             simp only [ht] at h
             have h1 := hT t i ht
             simp only [okTyB, Bool.and_eq_true] at h1
             obtain ⟨_, h2⟩ := h1
             cases hd : i.d with
             | s =>
               rw [hd] at h2
               simp only [hd] at h
               cases hu : P.underlying t with
               | none => simp [hu] at h2
               | some d =>
                 cases d <;> simp [hu] at h2
                 cases hx : Ar.real.six s q with
                 | none => simp [hx] at h
                 | some b =>
                   simp only [hx, Option.some.injEq] at h
                   subst h
                   simp only [Ar.real] at hx
                   split at hx
                   ·rename_i hq
                    obtain ⟨c, hc2, rfl⟩ := Option.map_eq_some_iff.1 hx
                    refine ⟨?_, by simp [bd]⟩
                    unfold execOp
                    simp only [ho, e0, e1, den]
                    have : (Instr.index t (.string s) (.int k q)).run P W = .ok (.int .u8 c.toNat) W := by
                     unfold Instr.index
                     simp [asIntOf, run_underlying hu, hq, hc2]
                    simp [this]
                   ·cases hx
             | _ => simp [hd] at h
         | _ => simp [hc, hi] at h
       | agg cs =>
         have h' : ixPart Ar.real T t cs ix iv = some r := by simpa only [hc, hi] using h
         clear h
         unfold ixPart at h'
         cases ht : T t with
         | none => simp [ht] at h'
         | some q =>
           simp only [ht] at h'
           cases hd : q.d with
           | ar len e es ag =>
             simp only [hd] at h'
             obtain ⟨hu, hs, hag⟩ := arr_of hT ht hd
             obtain ⟨s1, s2⟩ := ixd_sound hf hi (len := len)
             have fin : ∀ (k : IntKind) (j : Nat), a.eval ix = .int k j -> j < len -> (part e (denL β cs).toArray (j * es)).run P W = .ok (den β r) W /\ bd n r -> (execOp a.eval o).run P W = .ok (.value (den β r)) W /\ bd n r := by
              intro k j hk hj hp
              refine ⟨?_, hp.2⟩
              unfold execOp
              simp [ho, e0, den, Instr.index, hk, asIntOf, run_underlying hu, hj, show (0 : Int) <= j from Int.natCast_nonneg j, run_sizeOf hs, hp.1]
             cases hx : ixd Ar.real ix iv len with
             | no => simp [hx] at h'
             | st j =>
               simp only [hx] at h'
               obtain ⟨k, hk, hj⟩ := s1 j hx
               exact fin k j hk hj (part_sound hs hag (show bdL n cs from b0) (Or.inl h') W)
             | dy j =>
               simp only [hx] at h'
               obtain ⟨k, hk, hj⟩ := s2 j hx
               have h3 : Ar.real.off 0 j es = j * es := by simp [Ar.real]
               rw [h3] at h'
               exact fin k j hk hj (part_sound hs hag (show bdL n cs from b0) (Or.inr h') W)
           | _ => simp [hd] at h'
       | _ => simp [hc, hi] at h
 | extract x i =>
   rw [ho] at h
   simp only [valV] at h
   cases hc : ev F x with
   | none => simp [hc] at h
   | some u =>
     obtain ⟨e0, b0⟩ := ev_sound hf hc
     cases u with
     | tup vs =>
       simp only [hc] at h
       refine ⟨?_, bdL_get (show bdL n vs from b0) h⟩
       unfold execOp
       simp [ho, e0, den, Instr.extract, denL_eq, h]
     | _ => simp [hc] at h
 | build t parts =>
   rw [ho] at h
   simp only [valV] at h
   cases ht : T t with
   | none => simp [ht] at h
   | some i =>
     simp only [ht] at h
     cases hg : i.d.agg with
     | false => simp [hg] at h
     | true =>
       simp only [hg] at h
       cases hs : fillS (place i) F i.z parts.toList with
       | none => simp [hs] at h
       | some cs =>
         simp only [hs, Option.some.injEq] at h
         subst h
         obtain ⟨r1, r2⟩ := build_sound (W := W) hT hf ht hg hs
         refine ⟨?_, r2⟩
         unfold execOp
         simp [ho, den, r1]
 | binOp op xt x y yt =>
   rw [ho] at h hn
   simp only [valV, native] at h hn
   cases hc : ev F x with
   | none => simp [hc] at h
   | some u =>
     cases hi : ev F y with
     | none => simp [hc, hi] at h
     | some v =>
       simp only [hc, hi] at h hn
       obtain ⟨e0, b0⟩ := ev_sound hf hc
       obtain ⟨e1, b1⟩ := ev_sound hf hi
       have hg : (eqGuard op xt x y (den β u) (den β v)).run P W = .ok () W := by
        refine eqGuard_int op xt x y ?_ ?_ W
        ·cases u <;> first | (simp [den]; done) | (exfalso; cases v <;> simp at hn)
        ·cases u <;> first | (simp [den]; done) | (exfalso; cases v <;> simp at hn)
       have hr : (binOp op xt (den β u) (den β v)).run P W = .ok (den β r) W /\ bd n r := by
        have hyc : ∀ k c, y = .const (.int k c) -> v = .int k c := fun k c e => by rw [e] at hi; simpa [ev, ofV, eq_comm] using hi
        split at h
        ·exact binV_sound hyc h W
        ·exact binV_sound hyc h W
        ·cases ht : T xt with
         | none => simp [ht] at h
         | some i => simp only [ht] at h; exact binT_sound hT ht h W
       exact ⟨by unfold execOp; simp [ho, e0, e1, hg, hr.1], hr.2⟩
 | convert s d x =>
   rw [ho] at h
   simp only [valV] at h
   cases hc : ev F x with
   | none => simp [hc] at h
   | some u =>
     obtain ⟨e0, b0⟩ := ev_sound hf hc
     cases hs : T s with
     | none => cases u <;> simp [hc, hs] at h
     | some i0 =>
     cases ht : T d with
     | none => cases u <;> simp [hc, hs, ht] at h
     | some i =>
       cases u with
       | int k m =>
         simp only [hc, hs, ht] at h
         obtain ⟨d0, hu0, _⟩ := ty_agg hT hs
         have h1 := hT d i ht
         simp only [okTyB, Bool.and_eq_true] at h1
         obtain ⟨_, h2⟩ := h1
         cases hd : i.d with
         | i k' =>
           rw [hd] at h2
           simp only [hd, Option.some.injEq] at h
           subst h
           cases hu : P.underlying d with
           | none => simp [hu] at h2
           | some dd =>
             cases dd <;> simp [hu] at h2
             subst h2
             refine ⟨?_, by simp [bd]⟩
             have : (convert s d (.int k m)).run P W = .ok (.int k' (k'.wrap m)) W := by
              unfold convert
              simp [run_underlying hu0, run_underlying hu, Conv.intToInt]
             unfold execOp
             simp [ho, e0, den, this, Ar.real]
         | _ => simp [hd] at h
       | _ => simp [hc, hs, ht] at h
 | call c =>
   rw [ho] at h hn
   simp only [valV] at h
   have hb : c.callee = .builtin .len := by
    simp only [native] at hn
    split at hn
    ·rename_i b hb
     split at hn
     ·exact hb
     ·cases hn
    ·cases hn
   obtain ⟨callee, args, ats⟩ := c
   simp only at hb
   subst hb
   split at h
   ·rename_i x t hx hat
    have hx' : args = #[x] := by
     apply Array.ext'; exact hx
    have hat' : ats = #[t] := by
     apply Array.ext'; exact hat
    subst hx' hat'
    cases hc : ev F x with
    | none => simp [hc] at h
    | some u =>
      cases ht : T t with
      | none => simp [hc, ht] at h
      | some i =>
        simp only [hc, ht] at h
        obtain ⟨e0, b0⟩ := ev_sound hf hc
        have h1 := hT t i ht
        simp only [okTyB, Bool.and_eq_true] at h1
        obtain ⟨_, h2⟩ := h1
        have fin : ∀ v, (Builtin.len_ #[t] o.type #[den β u]).run P W = .ok v W -> (execOp a.eval o).run P W = .ok (.value v) W := by
         intro v hv
         unfold execOp
         simp [ho, resolve, invoke, builtin, e0, hv]
        split at h
        ·rename_i s hd
         rw [hd] at h2
         obtain rfl := Option.some.inj h
         refine ⟨fin _ ?_, by simp [bd]⟩
         cases hu : P.underlying t with
         | none => simp [hu] at h2
         | some dd =>
           cases dd <;> simp [hu] at h2
           simp [Builtin.len_, run_underlying hu, den, goInt, Ar.real]
        ·rename_i l o m cc hd
         obtain ⟨hu, _⟩ := sl_of hT ht hd
         obtain rfl := Option.some.inj h
         refine ⟨fin _ ?_, by simp [bd]⟩
         simp [Builtin.len_, run_underlying hu, den, goInt, Ar.real]
        ·rename_i hd
         obtain ⟨hu, _⟩ := sl_of hT ht hd
         obtain rfl := Option.some.inj h
         refine ⟨fin _ ?_, by simp [bd]⟩
         simp [Builtin.len_, run_underlying hu, den, goInt]
        ·cases h
   ·cases h
 | _ => rw [ho] at hn; simp [native] at hn
def upF (F : Nat -> Option SV) (d : Option Nat) (v : SV) : Nat -> Option SV := fun t => if d = some t then some v else F t
def upL (L : Nat -> Option Blk) (k : Nat) (b : Blk) : Nat -> Option Blk := fun l => if l = k then some b else L l
theorem look_putO (F : FF) (d : Option Nat) (v : SV) : look (putO F d v) = upF (look F) d v := by
 funext t
 cases d with
 | none => simp [putO, upF]
 | some d => simp [putO, upF, look_put]
theorem Fra.put (hf : Fra g β F n a) {d : Option Nat} (hd : ∀ t, d = some t -> t < g.N) {v : SV} (hv : bd n v) : Fra g β (upF F d v) n (a.put d (den β v)) := by
 refine ⟨?_, ?_, ?_, ?_⟩
 ·cases d <;> simp [Act.put, hf.size]
 ·cases d <;> simp [Act.put, hf.defs]
 ·intro t u h
  simp only [upF] at h
  split at h
  ·obtain rfl := Option.some.inj h; exact hv
  ·exact hf.bF t u h
 ·intro t u h
  simp only [upF] at h
  split at h
  ·rename_i hdt
   obtain rfl := Option.some.inj h
   subst hdt
   have := hd t rfl
   simp [Act.put, hf.size, this]
  ·rename_i hdt
   have h2 := hf.fr t u h
   cases d with
   | none => exact h2
   | some d =>
     have : d ≠ t := by simpa using hdt
     simp only [Act.put, Array.getElem?_setIfInBounds, if_neg this]
     exact h2
theorem Fra.mono (hf : Fra g β F n a) {γ : Nat -> Nat} {m : Nat -> Prop} (h : ∀ l, n l -> γ l = β l) (hn : ∀ l, n l -> m l) : Fra g γ F m a :=
 ⟨hf.size, hf.defs, fun t v hv => bd_mono hn v (hf.bF t v hv), fun t v hv => by rw [den_congr h v (hf.bF t v hv)]; exact hf.fr t v hv⟩
theorem Mem.alloc (hm : Mem g β L n W) {k : Nat} (hk : ¬ n k) {cs : List SV} (hb : bdL n cs) (t : TypeId) :
 ∃ γ, (∀ l, n l -> γ l = β l) /\ γ k = W.heap.size /\ Mem g γ (upL L k ⟨k, cs, t⟩) (fun l => n l \/ l = k) (W.alloc (.cells (denL β cs).toArray t)) := by
 obtain ⟨γ, hag, hγn⟩ : ∃ γ : Nat -> Nat, (∀ l, n l -> γ l = β l) /\ γ k = W.heap.size := ⟨fun l => if l = k then W.heap.size else β l, fun l hl => if_neg (by rintro rfl; exact hk hl), if_pos rfl⟩
 refine ⟨γ, hag, hγn, ?_⟩
 have hlt : ∀ l b, L l = some b -> β l < W.heap.size := fun l b hb => by
  obtain ⟨m, _, hc⟩ := hm.cell l b hb
  exact block_lt hc
 have hcase : ∀ l b, upL L k ⟨k, cs, t⟩ l = some b -> (l = k /\ b = ⟨k, cs, t⟩) \/ (l ≠ k /\ L l = some b) := by
  intro l b h
  simp only [upL] at h
  split at h
  ·rename_i e; exact Or.inl ⟨e, (Option.some.inj h).symm⟩
  ·rename_i e; exact Or.inr ⟨e, h⟩
 refine ⟨fun l hl => Or.inl (hm.low l hl), ?_, ?_, ?_, ?_, ?_, ?_⟩
 ·intro l hl
  rw [hag l (hm.low l hl)]; exact hm.old l hl
 ·intro l b h hl
  rcases hcase l b h with ⟨rfl, rfl⟩ | ⟨_, h⟩
  ·rw [hγn]; exact Or.inl hm.up.size
  ·rw [hag _ (hm.bL l b h).1]; exact hm.new l b h hl
 ·intro l b l' b' h h' ho he
  rcases hcase l b h with ⟨e1, e2⟩ | ⟨_, h2⟩ <;> rcases hcase l' b' h' with ⟨e3, e4⟩ | ⟨_, h3⟩
  ·rw [e1, e3]
  ·rw [e1, hγn, hag _ (hm.bL l' b' h3).1] at he
   have := hlt l' b' h3
   omega
  ·rw [e3, hγn, hag _ (hm.bL l b h2).1] at he
   have := hlt l b h2
   omega
  ·rw [hag _ (hm.bL l b h2).1, hag _ (hm.bL l' b' h3).1] at he
   exact hm.inj l b l' b' h2 h3 ho he
 ·intro l b h
  rcases hcase l b h with ⟨rfl, rfl⟩ | ⟨_, h⟩
  ·exact ⟨(0, 0), fun _ => Or.inl (Nat.le_refl 0), by rw [hγn, heap_alloc_new, denL_congr hag _ hb]⟩
  ·obtain ⟨m, h1, h2⟩ := hm.cell l b h
   exact ⟨m, h1, by rw [hag _ (hm.bL l b h).1, heap_alloc_old _ _ (hlt l b h), h2, denL_congr hag _ (hm.bL l b h).2]⟩
 ·intro l b h
  rcases hcase l b h with ⟨rfl, rfl⟩ | ⟨_, h⟩
  ·exact ⟨Or.inr rfl, bdL_mono (fun l hl => Or.inl hl) _ hb⟩
  ·exact ⟨Or.inl (hm.bL l b h).1, bdL_mono (fun l hl => Or.inl hl) _ (hm.bL l b h).2⟩
 ·refine ⟨hm.up.os, hm.up.tape, hm.up.output, ?_, ?_⟩
  ·have := hm.up.size; simp; omega
  ·intro i hi hM
   rw [heap_alloc_old _ _ (by have := hm.up.size; omega)]
   exact hm.up.block i hi hM
theorem succ_p (n : Nat) : (fun l => l < n \/ l = n) = fun l => l < n + 1 := by
 funext l; exact propext (by omega)
theorem find_new {L : LL} {n : Nat} (h : ∀ l b, find L l = some b -> l < n) (cs : List SV) (t : TypeId) : find (L ++ [⟨n, cs, t⟩]) = upL (find L) n ⟨n, cs, t⟩ := by
 funext l
 rw [find_append]
 simp only [upL, find]
 by_cases hl : l = n
 ·subst hl
  cases hq : find L l with
  | none => simp
  | some b => have := h l b hq; omega
 ·rw [if_neg hl, if_neg (fun e => hl e.symm)]
  cases find L l <;> rfl
end
end Go.Vg
end
