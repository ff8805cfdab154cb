/-
  This text proves that the symbolic run of a row of operations is sound: if it ends in K, then so does the model's. Condition: the row's order is that of the text; each slot that is written lies in the frame.
-/
import Derived.Test.YtgdkefjpekebmaaVgE
import Derived.Great.BuildSlice
namespace Go.Vg
open Go.RowKit
section
variable {P : Program} {T : Nat → Option Ty} {g : G} {β : Nat → Nat} {F : Nat → Option SV} {L : Nat → Option Blk} {n : Nat → Prop} {a : Act} {W : World}
theorem v_run {o : Oper} {s : Sem Value} {v : Value} {W' : World} (he : execOp a.eval o = (do pure (.value (← s)))) (hs : s.run P W = .ok v W') : (execOp a.eval o).run P W = .ok (.value v) W' := by
  rw [he]; simp [hs]
set_option maxHeartbeats 1000000 in
theorem valV_sound (hT : TOk P T) (hm : Mem g β L n W) (hf : Fra g β F n a) {o : Oper} (hn : native T F o.op = true) {r : SV} (h : valV Ar.real T F L o.op = some r) :
    (execOp a.eval o).run P W = .ok (.value (den β r)) W ∧ bd n r := by
  cases ho : o.op with
  | move x =>
    rw [ho] at h
    obtain ⟨e1, b1⟩ := ev_sound hf (show ev F x = some r from h)
    exact ⟨by unfold execOp; simp [ho, e1], b1⟩
  | assign x =>
    rw [ho] at h
    obtain ⟨e1, b1⟩ := ev_sound hf (show ev F x = some r from h)
    exact ⟨by unfold execOp; simp [ho, e1], b1⟩
  | pick c x y =>
    rw [ho] at h
    simp only [valV] at h
    cases hc : ev F c with
    | none => simp [hc] at h
    | some u =>
      obtain ⟨e0, _⟩ := ev_sound hf hc
      cases u with
      | bool t =>
        simp only [hc] at h
        cases t with
        | true =>
          obtain ⟨e1, b1⟩ := ev_sound hf (show ev F x = some r from h)
          exact ⟨by unfold execOp; simp [ho, e0, e1, den, asBool], b1⟩
        | false =>
          obtain ⟨e1, b1⟩ := ev_sound hf (show ev F y = some r from h)
          exact ⟨by unfold execOp; simp [ho, e0, e1, den, asBool], b1⟩
      | _ => simp [hc] at h
  | load t x =>
    rw [ho] at h
    simp only [valV] at h
    cases hc : ev F x with
    | none => simp [hc] at h
    | some u =>
      cases ht : T t with
      | none => simp [hc, ht] at h
      | some i =>
        simp only [hc, ht] at h
        obtain ⟨e0, _⟩ := ev_sound hf hc
        obtain ⟨r1, r2⟩ := rd_sound hT hm ht h
        exact ⟨by unfold execOp; simp [ho, e0, r1], r2⟩
  | nilCheck x =>
    rw [ho] at h
    simp only [valV] at h
    split at h
    all_goals first
      | (cases h; done)
      | (rename_i hc
         obtain rfl := Option.some.inj h
         obtain ⟨e0, b0⟩ := ev_sound hf hc
         exact ⟨by unfold execOp; simp [ho, e0, den], b0⟩)
  | unOp op t x =>
    rw [ho] at h
    simp only [valV] at h
    cases hc : ev F x with
    | none => simp [hc] at h
    | some u =>
      simp only [hc] at h
      obtain ⟨e0, _⟩ := ev_sound hf hc
      obtain ⟨r1, r2⟩ := unV_sound (P := P) (β := β) (n := n) h W
      exact ⟨by unfold execOp; simp [ho, e0, r1], r2⟩
  | makeFunc f x y =>
    rw [ho] at h
    simp only [valV] at h
    cases h1 : evs F x.toList with
    | none => simp [h1] at h
    | some xs =>
      cases h2 : evs F y.toList with
      | none => simp [h1, h2] at h
      | some ys =>
        simp only [h1, h2, Option.some.injEq] at h
        subst h
        obtain ⟨e1, b1⟩ := evs_sound hf h1
        obtain ⟨e2, b2⟩ := evs_sound hf h2
        have m1 : x.map a.eval = (denL β xs).toArray := by rw [← e1, ← Array.toList_map]
        have m2 : y.map a.eval = (denL β ys).toArray := by rw [← e2, ← Array.toList_map]
        exact ⟨by unfold execOp; simp [ho, Instr.makeFunc, den, m1, m2], ⟨b1, b2⟩⟩
  | fieldAddr s x f =>
    rw [ho] at h
    simp only [valV] at h
    cases hc : ev F x with
    | none => simp [hc] at h
    | some u =>
      cases ht : T s with
      | none => simp [hc, ht] at h
      | some i =>
        simp only [hc, ht] at h
        obtain ⟨e0, b0⟩ := ev_sound hf hc
        cases hd : i.d with
        | st fs =>
          simp only [hd] at h
          cases hk : fs[f]? with
          | none => simp [hk] at h
          | some q =>
            obtain ⟨o', s', ag⟩ := q
            simp only [hk] at h
            cases s' with
            | zero => simp at h
            | succ s' =>
              cases u with
              | ptr l q =>
                simp only [Option.some.injEq] at h
                subst h
                have := fieldAddr_sound hT ht hd hk (β l) q W
                exact ⟨by unfold execOp; simp [ho, e0, den, this], b0⟩
              | ptrS l q =>
                simp only [Option.some.injEq] at h
                subst h
                have := fieldAddr_sound hT ht hd hk (β l) q W
                exact ⟨by unfold execOp; simp [ho, e0, den, this, Ar.real], b0⟩
              | _ => simp at h
        | _ => simp [hd] at h
  | field t x f =>
    rw [ho] at h
    simp only [valV] at h
    cases hc : ev F x with
    | none => simp [hc] at h
    | some u =>
      cases ht : T t with
      | none => cases u <;> simp [hc, ht] at h
      | some i =>
        obtain ⟨e0, b0⟩ := ev_sound hf hc
        cases u with
        | agg cs =>
          simp only [hc, ht] at h
          cases hd : i.d with
          | st fs =>
            simp only [hd] at h
            cases hk : fs[f]? with
            | none => simp [hk] at h
            | some q =>
              obtain ⟨o', s', ag⟩ := q
              simp only [hk] at h
              obtain ⟨fl, hu, hfl⟩ := fld_of hT ht hd
              obtain ⟨ff, h1, h2, h3, h4⟩ := fldOk_get hfl hk
              have h1' : fl[f]? = some ff := by simpa using h1
              obtain ⟨r1, r2⟩ := part_sound (n := n) (β := β) h3 h4 (show bdL n cs from b0) (o := o') (r := r) (Or.inl h) W
              refine ⟨?_, r2⟩
              unfold execOp
              simp [ho, e0, den, Instr.field, run_underlying hu, h1', asAgg, h2, r1]
          | _ => simp [hd] at h
        | _ => simp [hc, ht] at h
  | indexAddr t x ix =>
    rw [ho] at h
    simp only [valV] at h
    cases hc : ev F x with
    | none => simp [hc] at h
    | some u =>
      cases hi : ev F ix with
      | none => simp [hc, hi] at h
      | some iv =>
        simp only [hc, hi] at h
        obtain ⟨e0, b0⟩ := ev_sound hf hc
        obtain ⟨r1, r2⟩ := ixAddr_sound hT hf (W := W) hi b0 h
        exact ⟨by unfold execOp; simp [ho, e0, r1], r2⟩
  | index t x ix =>
    rw [ho] at h
    simp only [valV] at h
    cases hc : ev F x with
    | none => simp [hc] at h
    | some u =>
      obtain ⟨e0, b0⟩ := ev_sound hf hc
      cases hi : ev F ix with
      | none => cases u <;> simp [hc, hi] at h
      | some iv =>
        obtain ⟨e1, b1⟩ := ev_sound hf hi
        cases u with
        | str s =>
          cases iv with
          | int k q =>
            simp only [hc, hi] at h
            cases ht : T t with
            | none => simp [ht] at h
            | some i =>
              simp only [ht] at h
              have h1 := hT t i ht
              simp only [okTyB, Bool.and_eq_true] at h1
              obtain ⟨_, h2⟩ := h1
              cases hd : i.d with
              | s =>
                rw [hd] at h2
                simp only [hd] at h
                cases hu : P.underlying t with
                | none => simp [hu] at h2
                | some d =>
                  cases d <;> simp [hu] at h2
                  cases hx : Ar.real.six s q with
                  | none => simp [hx] at h
                  | some b =>
                    simp only [hx, Option.some.injEq] at h
                    subst h
                    simp only [Ar.real] at hx
                    split at hx
                    · rename_i hq
                      obtain ⟨c, hc2, rfl⟩ := Option.map_eq_some_iff.1 hx
                      refine ⟨?_, by simp [bd]⟩
                      unfold execOp
                      simp only [ho, e0, e1, den]
                      have : (Instr.index t (.string s) (.int k q)).run P W = .ok (.int .u8 c.toNat) W := by
                        unfold Instr.index
                        simp [asIntOf, run_underlying hu, hq, hc2]
                      simp [this]
                    · cases hx
              | _ => simp [hd] at h
          | _ => simp [hc, hi] at h
        | agg cs =>
          have h' : ixPart Ar.real T t cs ix iv = some r := by simpa only [hc, hi] using h
          clear h
          unfold ixPart at h'
          cases ht : T t with
          | none => simp [ht] at h'
          | some q =>
            simp only [ht] at h'
            cases hd : q.d with
            | ar len e es ag =>
              simp only [hd] at h'
              obtain ⟨hu, hs, hag⟩ := arr_of hT ht hd
              obtain ⟨s1, s2⟩ := ixd_sound hf hi (len := len)
              have fin : ∀ (k : IntKind) (j : Nat), a.eval ix = .int k j → j < len → (part e (denL β cs).toArray (j * es)).run P W = .ok (den β r) W ∧ bd n r → (execOp a.eval o).run P W = .ok (.value (den β r)) W ∧ bd n r := by
                intro k j hk hj hp
                refine ⟨?_, hp.2⟩
                unfold execOp
                simp [ho, e0, den, Instr.index, hk, asIntOf, run_underlying hu, hj, show (0 : Int) ≤ j from Int.natCast_nonneg j, run_sizeOf hs, hp.1]
              cases hx : ixd Ar.real ix iv len with
              | no => simp [hx] at h'
              | st j =>
                simp only [hx] at h'
                obtain ⟨k, hk, hj⟩ := s1 j hx
                exact fin k j hk hj (part_sound hs hag (show bdL n cs from b0) (Or.inl h') W)
              | dy j =>
                simp only [hx] at h'
                obtain ⟨k, hk, hj⟩ := s2 j hx
                have h3 : Ar.real.off 0 j es = j * es := by simp [Ar.real]
                rw [h3] at h'
                exact fin k j hk hj (part_sound hs hag (show bdL n cs from b0) (Or.inr h') W)
            | _ => simp [hd] at h'
        | _ => simp [hc, hi] at h
  | extract x i =>
    rw [ho] at h
    simp only [valV] at h
    cases hc : ev F x with
    | none => simp [hc] at h
    | some u =>
      obtain ⟨e0, b0⟩ := ev_sound hf hc
      cases u with
      | tup vs =>
        simp only [hc] at h
        refine ⟨?_, bdL_get (show bdL n vs from b0) h⟩
        unfold execOp
        simp [ho, e0, den, Instr.extract, denL_eq, h]
      | _ => simp [hc] at h
  | build t parts =>
    rw [ho] at h
    simp only [valV] at h
    cases ht : T t with
    | none => simp [ht] at h
    | some i =>
      simp only [ht] at h
      cases hg : i.d.agg with
      | false => simp [hg] at h
      | true =>
        simp only [hg] at h
        cases hs : fillS (place i) F i.z parts.toList with
        | none => simp [hs] at h
        | some cs =>
          simp only [hs, Option.some.injEq] at h
          subst h
          obtain ⟨r1, r2⟩ := build_sound (W := W) hT hf ht hg hs
          refine ⟨?_, r2⟩
          unfold execOp
          simp [ho, den, r1]
  | binOp op xt x y yt =>
    rw [ho] at h hn
    simp only [valV, native] at h hn
    cases hc : ev F x with
    | none => simp [hc] at h
    | some u =>
      cases hi : ev F y with
      | none => simp [hc, hi] at h
      | some v =>
        simp only [hc, hi] at h hn
        obtain ⟨e0, b0⟩ := ev_sound hf hc
        obtain ⟨e1, b1⟩ := ev_sound hf hi
        have hg : (eqGuard op xt x y (den β u) (den β v)).run P W = .ok () W := by
          refine eqGuard_int op xt x y ?_ ?_ W
          · cases u <;> first | (simp [den]; done) | (exfalso; cases v <;> simp at hn)
          · cases u <;> first | (simp [den]; done) | (exfalso; cases v <;> simp at hn)
        have hr : (binOp op xt (den β u) (den β v)).run P W = .ok (den β r) W ∧ bd n r := by
          have hyc : ∀ k c, y = .const (.int k c) → v = .int k c := fun k c e => by rw [e] at hi; simpa [ev, ofV, eq_comm] using hi
          split at h
          · exact binV_sound hyc h W
          · exact binV_sound hyc h W
          · cases ht : T xt with
            | none => simp [ht] at h
            | some i => simp only [ht] at h; exact binT_sound hT ht h W
        exact ⟨by unfold execOp; simp [ho, e0, e1, hg, hr.1], hr.2⟩
  | convert s d x =>
    rw [ho] at h
    simp only [valV] at h
    cases hc : ev F x with
    | none => simp [hc] at h
    | some u =>
      obtain ⟨e0, b0⟩ := ev_sound hf hc
      cases hs : T s with
      | none => cases u <;> simp [hc, hs] at h
      | some i0 =>
      cases ht : T d with
      | none => cases u <;> simp [hc, hs, ht] at h
      | some i =>
        cases u with
        | int k m =>
          simp only [hc, hs, ht] at h
          obtain ⟨d0, hu0, _⟩ := ty_agg hT hs
          have h1 := hT d i ht
          simp only [okTyB, Bool.and_eq_true] at h1
          obtain ⟨_, h2⟩ := h1
          cases hd : i.d with
          | i k' =>
            rw [hd] at h2
            simp only [hd, Option.some.injEq] at h
            subst h
            cases hu : P.underlying d with
            | none => simp [hu] at h2
            | some dd =>
              cases dd <;> simp [hu] at h2
              subst h2
              refine ⟨?_, by simp [bd]⟩
              have : (convert s d (.int k m)).run P W = .ok (.int k' (k'.wrap m)) W := by
                unfold convert
                simp [run_underlying hu0, run_underlying hu, Conv.intToInt]
              unfold execOp
              simp [ho, e0, den, this, Ar.real]
          | _ => simp [hd] at h
        | _ => simp [hc, hs, ht] at h
  | call c =>
    rw [ho] at h hn
    simp only [valV] at h
    have hb : c.callee = .builtin .len := by
      simp only [native] at hn
      split at hn
      · rename_i b hb
        split at hn
        · exact hb
        · cases hn
      · cases hn
    obtain ⟨callee, args, ats⟩ := c
    simp only at hb
    subst hb
    split at h
    · rename_i x t hx hat
      have hx' : args = #[x] := by
        apply Array.ext'; exact hx
      have hat' : ats = #[t] := by
        apply Array.ext'; exact hat
      subst hx' hat'
      cases hc : ev F x with
      | none => simp [hc] at h
      | some u =>
        cases ht : T t with
        | none => simp [hc, ht] at h
        | some i =>
          simp only [hc, ht] at h
          obtain ⟨e0, b0⟩ := ev_sound hf hc
          have h1 := hT t i ht
          simp only [okTyB, Bool.and_eq_true] at h1
          obtain ⟨_, h2⟩ := h1
          have fin : ∀ v, (Builtin.len_ #[t] o.type #[den β u]).run P W = .ok v W → (execOp a.eval o).run P W = .ok (.value v) W := by
            intro v hv
            unfold execOp
            simp [ho, resolve, invoke, builtin, e0, hv]
          split at h
          · rename_i s hd
            rw [hd] at h2
            obtain rfl := Option.some.inj h
            refine ⟨fin _ ?_, by simp [bd]⟩
            cases hu : P.underlying t with
            | none => simp [hu] at h2
            | some dd =>
              cases dd <;> simp [hu] at h2
              simp [Builtin.len_, run_underlying hu, den, goInt, Ar.real]
          · rename_i l o m cc hd
            obtain ⟨hu, _⟩ := sl_of hT ht hd
            obtain rfl := Option.some.inj h
            refine ⟨fin _ ?_, by simp [bd]⟩
            simp [Builtin.len_, run_underlying hu, den, goInt, Ar.real]
          · rename_i hd
            obtain ⟨hu, _⟩ := sl_of hT ht hd
            obtain rfl := Option.some.inj h
            refine ⟨fin _ ?_, by simp [bd]⟩
            simp [Builtin.len_, run_underlying hu, den, goInt]
          · cases h
    · cases h
  | _ => rw [ho] at hn; simp [native] at hn
def upF (F : Nat → Option SV) (d : Option Nat) (v : SV) : Nat → Option SV := fun t => if d = some t then some v else F t
def upL (L : Nat → Option Blk) (k : Nat) (b : Blk) : Nat → Option Blk := fun l => if l = k then some b else L l
theorem look_putO (F : FF) (d : Option Nat) (v : SV) : look (putO F d v) = upF (look F) d v := by
  funext t
  cases d with
  | none => simp [putO, upF]
  | some d => simp [putO, upF, look_put]
/-- a slot is written -/
theorem Fra.put (hf : Fra g β F n a) {d : Option Nat} (hd : ∀ t, d = some t → t < g.N) {v : SV} (hv : bd n v) : Fra g β (upF F d v) n (a.put d (den β v)) := by
  refine ⟨?_, ?_, ?_, ?_⟩
  · cases d <;> simp [Act.put, hf.size]
  · cases d <;> simp [Act.put, hf.defs]
  · intro t u h
    simp only [upF] at h
    split at h
    · obtain rfl := Option.some.inj h; exact hv
    · exact hf.bF t u h
  · intro t u h
    simp only [upF] at h
    split at h
    · rename_i hdt
      obtain rfl := Option.some.inj h
      subst hdt
      have := hd t rfl
      simp [Act.put, hf.size, this]
    · rename_i hdt
      have h2 := hf.fr t u h
      cases d with
      | none => exact h2
      | some d =>
        have : d ≠ t := by simpa using hdt
        simp only [Act.put, Array.getElem?_setIfInBounds, if_neg this]
        exact h2
theorem Fra.mono (hf : Fra g β F n a) {γ : Nat → Nat} {m : Nat → Prop} (h : ∀ l, n l → γ l = β l) (hn : ∀ l, n l → m l) : Fra g γ F m a :=
  ⟨hf.size, hf.defs, fun t v hv => bd_mono hn v (hf.bF t v hv), fun t v hv => by rw [den_congr h v (hf.bF t v hv)]; exact hf.fr t v hv⟩
/-- a new block -/
theorem Mem.alloc (hm : Mem g β L n W) {k : Nat} (hk : ¬ n k) {cs : List SV} (hb : bdL n cs) (t : TypeId) :
    ∃ γ, (∀ l, n l → γ l = β l) ∧ γ k = W.heap.size ∧ Mem g γ (upL L k ⟨k, cs, t⟩) (fun l => n l ∨ l = k) (W.alloc (.cells (denL β cs).toArray t)) := by
  obtain ⟨γ, hag, hγn⟩ : ∃ γ : Nat → Nat, (∀ l, n l → γ l = β l) ∧ γ k = W.heap.size := ⟨fun l => if l = k then W.heap.size else β l, fun l hl => if_neg (by rintro rfl; exact hk hl), if_pos rfl⟩
  refine ⟨γ, hag, hγn, ?_⟩
  have hlt : ∀ l b, L l = some b → β l < W.heap.size := fun l b hb => by
    obtain ⟨m, _, hc⟩ := hm.cell l b hb
    exact block_lt hc
  have hcase : ∀ l b, upL L k ⟨k, cs, t⟩ l = some b → (l = k ∧ b = ⟨k, cs, t⟩) ∨ (l ≠ k ∧ L l = some b) := by
    intro l b h
    simp only [upL] at h
    split at h
    · rename_i e; exact Or.inl ⟨e, (Option.some.inj h).symm⟩
    · rename_i e; exact Or.inr ⟨e, h⟩
  refine ⟨fun l hl => Or.inl (hm.low l hl), ?_, ?_, ?_, ?_, ?_, ?_⟩
  · intro l hl
    rw [hag l (hm.low l hl)]; exact hm.old l hl
  · intro l b h hl
    rcases hcase l b h with ⟨rfl, rfl⟩ | ⟨_, h⟩
    · rw [hγn]; exact Or.inl hm.up.size
    · rw [hag _ (hm.bL l b h).1]; exact hm.new l b h hl
  · intro l b l' b' h h' ho he
    rcases hcase l b h with ⟨e1, e2⟩ | ⟨_, h2⟩ <;> rcases hcase l' b' h' with ⟨e3, e4⟩ | ⟨_, h3⟩
    · rw [e1, e3]
    · rw [e1, hγn, hag _ (hm.bL l' b' h3).1] at he
      have := hlt l' b' h3
      omega
    · rw [e3, hγn, hag _ (hm.bL l b h2).1] at he
      have := hlt l b h2
      omega
    · rw [hag _ (hm.bL l b h2).1, hag _ (hm.bL l' b' h3).1] at he
      exact hm.inj l b l' b' h2 h3 ho he
  · intro l b h
    rcases hcase l b h with ⟨rfl, rfl⟩ | ⟨_, h⟩
    · exact ⟨(0, 0), fun _ => Or.inl (Nat.le_refl 0), by rw [hγn, heap_alloc_new, denL_congr hag _ hb]⟩
    · obtain ⟨m, h1, h2⟩ := hm.cell l b h
      exact ⟨m, h1, by rw [hag _ (hm.bL l b h).1, heap_alloc_old _ _ (hlt l b h), h2, denL_congr hag _ (hm.bL l b h).2]⟩
  · intro l b h
    rcases hcase l b h with ⟨rfl, rfl⟩ | ⟨_, h⟩
    · exact ⟨Or.inr rfl, bdL_mono (fun l hl => Or.inl hl) _ hb⟩
    · exact ⟨Or.inl (hm.bL l b h).1, bdL_mono (fun l hl => Or.inl hl) _ (hm.bL l b h).2⟩
  · refine ⟨hm.up.os, hm.up.tape, hm.up.output, ?_, ?_⟩
    · have := hm.up.size; simp; omega
    · intro i hi hM
      rw [heap_alloc_old _ _ (by have := hm.up.size; omega)]
      exact hm.up.block i hi hM
theorem succ_p (n : Nat) : (fun l => l < n ∨ l = n) = fun l => l < n + 1 := by
  funext l; exact propext (by omega)
theorem find_new {L : LL} {n : Nat} (h : ∀ l b, find L l = some b → l < n) (cs : List SV) (t : TypeId) : find (L ++ [⟨n, cs, t⟩]) = upL (find L) n ⟨n, cs, t⟩ := by
  funext l
  rw [find_append]
  simp only [upL, find]
  by_cases hl : l = n
  · subst hl
    cases hq : find L l with
    | none => simp
    | some b => have := h l b hq; omega
  · rw [if_neg hl, if_neg (fun e => hl e.symm)]
    cases find L l <;> rfl
end
end Go.Vg
