/-
  This text proves that the symbolic run of a region that draws its order is sound: the region ends as it tells, in whatever order. Condition: the region passes the check of its edges.
-/
import Derived.Test.YtgdkefjpekebmaaVgM
namespace Go.Vg
open Go.RowKit
theorem ev_congr {F F' : Nat → Option SV} {x : Operand} (h : ∀ t ∈ tmpOf x, F' t = F t) : ev F' x = ev F x := by
  cases x with
  | tmp t => exact h t (by simp [tmpOf])
  | _ => rfl
theorem tmpsL_mem {xs : List Operand} {x : Operand} (hx : x ∈ xs) {t : Nat} (ht : t ∈ tmpOf x) : t ∈ tmpsL xs := by
  induction xs with
  | nil => cases hx
  | cons y ys ih =>
    simp only [tmpsL, List.mem_append]
    rcases List.mem_cons.1 hx with rfl | hx
    · exact Or.inl ht
    · exact Or.inr (ih hx)
theorem evs_congr {F F' : Nat → Option SV} : ∀ {xs : List Operand}, (∀ x ∈ xs, ev F' x = ev F x) → evs F' xs = evs F xs
  | [], _ => rfl
  | x :: xs, h => by
    simp only [evs]
    rw [h x List.mem_cons_self, evs_congr fun y hy => h y (List.mem_cons_of_mem _ hy)]
theorem fillS_congr {F F' : Nat → Option SV} {pl : Nat → Option (Nat × Nat)} : ∀ {parts : List (Nat × Operand)} {cs : List SV}, (∀ p ∈ parts, ev F' p.2 = ev F p.2) → fillS pl F' cs parts = fillS pl F cs parts
  | [], _, _ => rfl
  | (i, x) :: rest, cs, h => by
    have h1 : ev F' x = ev F x := h (i, x) List.mem_cons_self
    have h2 : ∀ cs, fillS pl F' cs rest = fillS pl F cs rest := fun cs => fillS_congr fun p hp => h p (List.mem_cons_of_mem _ hp)
    simp only [fillS, h1, h2]
theorem rd_mono {A : Ar} {M L : Nat → Option Blk} (h : ∀ l b, M l = some b → L l = some b) {i : Ty} {u v : SV} (hr : rd A M i u = some v) : rd A L i u = some v := by
  cases u with
  | ptr l o =>
    simp only [rd] at hr ⊢
    cases hl : M l with
    | none => simp [hl] at hr
    | some b => rw [h l b hl]; simpa only [hl] using hr
  | ptrS l o =>
    simp only [rd] at hr ⊢
    cases hl : M l with
    | none => simp [hl] at hr
    | some b => rw [h l b hl]; simpa only [hl] using hr
  | _ => simp [rd] at hr
section
variable {T : Nat → Option Ty} {F F' : Nat → Option SV} {M L : Nat → Option Blk}
theorem native_congr {op : Op} (E : ∀ x ∈ op.operands.toList, ev F' x = ev F x) : native T F' op = native T F op := by
  cases op with
  | binOp op xt x y yt => simp only [native, E x (by simp [Op.operands]), E y (by simp [Op.operands])]
  | _ => rfl
set_option maxHeartbeats 1000000 in
theorem valV_congr {A : Ar} {op : Op} (E : ∀ x ∈ op.operands.toList, ev F' x = ev F x) (hM : (∀ l b, M l = some b → L l = some b) ∨ (∀ t x, op ≠ .load t x)) {v : SV} (h : valV A T F M op = some v) : valV A T F' L op = some v := by
  cases op with
  | load t x =>
    have E1 := E x (by simp [Op.operands])
    simp only [valV, E1] at h ⊢
    cases hx : ev F x with
    | none => simp [hx] at h
    | some u =>
      cases ht : T t with
      | none => simp [hx, ht] at h
      | some i =>
        simp only [hx, ht] at h ⊢
        rcases hM with hM | hM
        · exact rd_mono hM h
        · exact (hM t x rfl).elim
  | move x => simpa only [valV, E x (by simp [Op.operands])] using h
  | assign x => simpa only [valV, E x (by simp [Op.operands])] using h
  | pick c x y => simpa only [valV, E c (by simp [Op.operands]), E x (by simp [Op.operands]), E y (by simp [Op.operands])] using h
  | nilCheck x => simpa only [valV, E x (by simp [Op.operands])] using h
  | binOp op xt x y yt => simpa only [valV, E x (by simp [Op.operands]), E y (by simp [Op.operands])] using h
  | unOp op t x => simpa only [valV, E x (by simp [Op.operands])] using h
  | convert s d x => simpa only [valV, E x (by simp [Op.operands])] using h
  | makeFunc f x y =>
    have h1 : evs F' x.toList = evs F x.toList := evs_congr fun z hz => E z (by simp [Op.operands] at hz ⊢; exact Or.inl hz)
    have h2 : evs F' y.toList = evs F y.toList := evs_congr fun z hz => E z (by simp [Op.operands] at hz ⊢; exact Or.inr hz)
    simpa only [valV, h1, h2] using h
  | fieldAddr s x f => simpa only [valV, E x (by simp [Op.operands])] using h
  | field t x f => simpa only [valV, E x (by simp [Op.operands])] using h
  | indexAddr t x ix => simpa only [valV, E x (by simp [Op.operands]), E ix (by simp [Op.operands])] using h
  | index t x ix => simpa only [valV, E x (by simp [Op.operands]), E ix (by simp [Op.operands])] using h
  | extract x i => simpa only [valV, E x (by simp [Op.operands])] using h
  | build t parts =>
    have h1 : ∀ pl cs, fillS pl F' cs parts.toList = fillS pl F cs parts.toList := fun pl cs => fillS_congr fun p hp => E p.2 (by
      simp only [Op.operands]
      exact List.mem_map.2 ⟨p, hp, rfl⟩)
    simpa only [valV, h1] using h
  | call c =>
    simp only [valV] at h ⊢
    split at h
    · rename_i x t hx hat
      have hc : x ∈ (Op.call c).operands.toList := by
        simp only [Op.operands, Call.operands, Array.toList_append, List.mem_append]
        right; rw [hx]; exact List.mem_cons_self
      simpa only [hx, hat, E x hc] using h
    · cases h
  | _ => simp [valV] at h
theorem memOf_load {o : Oper} (h : memOf o = false) (t : TypeId) (x : Operand) : o.op ≠ .load t x := by
  intro e
  simp [memOf, e] at h
theorem Runs.congr {o : Oper} {e : Eff} (hr : Runs T F M o.op e) (hF : ∀ t ∈ tmpsL o.op.operands.toList, F' t = F t) (hM : memOf o = true → ∀ l b, M l = some b → L l = some b) : Runs T F' L o.op e := by
  have E : ∀ x ∈ o.op.operands.toList, ev F' x = ev F x := fun x hx => ev_congr fun t ht => hF t (tmpsL_mem hx ht)
  have hM2 : (∀ l b, M l = some b → L l = some b) ∨ (∀ t x, o.op ≠ .load t x) := by
    cases hm : memOf o with
    | true => exact Or.inl (hM hm)
    | false => exact Or.inr (memOf_load hm)
  generalize hop : o.op = op at hr E hM2
  cases hr with
  | val hn hv => exact .val (by rw [native_congr E]; exact hn) (valV_congr E hM2 hv)
  | alloc ht => exact .alloc ht
  | box hx hr => exact .box (by rw [E _ (by simp [Op.operands])]; exact hx) hr
  | buildSlice ht hd hj h1 h2 hs =>
    refine .buildSlice ht hd hj h1 h2 ?_
    rw [fillS_congr fun p hp => E p.2 (by
      simp only [Op.operands]
      exact List.mem_map.2 ⟨p, hp, rfl⟩)]
    exact hs
  | store hx hy ht hl h1 hL hp hle =>
    have hmem : memOf o = true := by simp [memOf, hop]
    exact .store (by rw [E _ (by simp [Op.operands])]; exact hx) (by rw [E _ (by simp [Op.operands])]; exact hy) ht hl h1 (hM hmem _ _ hL) hp hle
end
section
variable {P : Program} {g : G} {T : Nat → Option Ty}
theorem EN.of_step {o : Oper} {F : Nat → Option SV} {M : Nat → Option Blk} {v : SV} (h : ∀ (β : Nat → Nat) (p : Nat → Prop) (F' : Nat → Option SV) (L' : Nat → Option Blk) (a : Act) (W : World), (∀ t ∈ tmpsL o.op.operands.toList, F' t = F t) → (∀ l b, M l = some b → L' l = some b) → Mem g β L' p W → Fra g β F' p a →
    ∀ (next : Act → World → Prop) (Q : Exit → Act → World → Prop), (∀ a' W', Mem g β L' p W' → Fra g β (upF F' o.dst v) p a' → next a' W') → o.wp P a W next Q) : EN g P o F M v [] := by
  refine ⟨?_⟩
  intro β p F' L' a W h1 h2 _ hm hf next Q hn
  refine h β p F' L' a W h1 h2 hm hf next Q fun a' W' hm' hf' => hn β a' W' ?_ ?_
  · have e1 : addN L' [] = L' := by
      funext l; unfold addN; cases L' l <;> rfl
    have e2 : (fun l => p l ∨ ∃ b ∈ ([] : LL), b.l = l) = p := by funext l; simp
    rw [e1, e2]; exact hm'
  · have e2 : (fun l => p l ∨ ∃ b ∈ ([] : LL), b.l = l) = p := by funext l; simp
    rw [e2]; exact hf'
/-- one operation, run where others may have run: by its effect -/
theorem op_ex (hT : TOk P T) {ops : Array Oper} {i : Nat} {o : Oper} (ho : ops[i]? = some o) (hd : ∀ t, o.dst = some t → t < g.N) {e : E} (hed : e.d = o.dst) {Ft : Nat → Option SV} {V : Nat → Option Blk} {n : Nat}
    (hcase : ((∃ x, o.guard = none ∨ ∃ j oj d, o.guard = some (j, x) ∧ ops[j]? = some oj ∧ oj.dst = some d ∧ d ∈ lkOf ops.toList o ∧ Ft d = some (.bool x)) ∧
      ((∃ v, Runs T Ft V o.op (.val v) ∧ e = ⟨o.dst, v, [], none⟩) ∨ (∃ f cs t k, Runs T Ft V o.op (.new f cs t) ∧ e = ⟨o.dst, f k, [⟨k, cs, t⟩], none⟩) ∨
        (∃ l q vs b, Runs T Ft V o.op (.wr l q vs) ∧ V l = some b ∧ own g.n0 g.ms l = true ∧ e = ⟨o.dst, .raw undef, [], some (l, q, vs)⟩) ∨ (∃ v nw, EN g P o Ft (selM o V) v nw ∧ e = ⟨o.dst, v, nw, none⟩))) ∨
      ((∃ j x oj d, o.guard = some (j, !x) ∧ ops[j]? = some oj ∧ oj.dst = some d ∧ d ∈ lkOf ops.toList o ∧ Ft d = some (.bool x)) ∧ e = ⟨o.dst, .raw undef, [], none⟩)) :
    ∀ (β : Nat → Nat) (p : Nat → Prop) (F' : Nat → Option SV) (L' : Nat → Option Blk) (a : Act) (W : World), (∀ t ∈ lkOf ops.toList o, F' t = Ft t) → (memOf o = true → ∀ l b, V l = some b → L' l = some b) → (∀ b ∈ e.nw, ¬ p b.l) → (∀ l, l < n → p l) →
    Mem g β L' p W → Fra g β F' p a → ∀ (K : Act → World → Prop) (Q : Exit → Act → World → Prop), (∀ γ a' W', Mem g γ (aL e L') (aP e p) W' → Fra g γ (aF e F') (aP e p) a' → K a' W') → wpOp P ops Q i K a W := by
  intro β p F' L' a W hF hM hfr hlow hm hf K Q hK
  have nil1 : ∀ v : SV, aL ⟨o.dst, v, [], none⟩ L' = L' := by
    intro v; funext l; simp only [aL, gl]; cases L' l <;> rfl
  have nil2 : ∀ (v : SV) w, aP ⟨o.dst, v, [], w⟩ p = p := by
    intro v w; funext l; simp [aP, pl]
  have fr : ∀ (v : SV) nw w, aF ⟨o.dst, v, nw, w⟩ F' = upF F' o.dst v := fun v nw w => rfl
  have hops : ∀ t ∈ tmpsL o.op.operands.toList, F' t = Ft t := fun t ht => hF t (List.mem_append.2 (Or.inl ht))
  unfold wpOp
  simp only [ho]
  rcases hcase with ⟨⟨x, hg⟩, hc⟩ | ⟨⟨j, x, oj, d, hg, hj, hdj, hlk, hd2⟩, rfl⟩
  · have hw : Region.wanted o (yielded ops a.tmps) = true := by
      rcases hg with hg | ⟨j, oj, d, hg, hj, hdj, hlk, hd2⟩
      · simp [Region.wanted, hg]
      · have := hf.fr d (.bool x) (by rw [hF d hlk]; exact hd2)
        have hy : yielded ops a.tmps j = some x := by
          unfold yielded
          simp [hj, hdj, this, den]
        simp [Region.wanted, hg, hy]
    rw [if_pos hw]
    left
    rcases hc with ⟨v, hr, rfl⟩ | ⟨f, cs, t, k, hr, rfl⟩ | ⟨l, q, vs, b, hr, hV, hown, rfl⟩ | ⟨v, nw, hen, rfl⟩
    · refine (Runs.sound hT hm hf hd (hr.congr hops hM)).1 v rfl fun a' W' _ hm' hf' => hK β a' W' ?_ ?_
      · rw [nil1, nil2]; exact hm'
      · rw [nil2]; exact hf'
    · have hk : ¬ p k := hfr ⟨k, cs, t⟩ List.mem_cons_self
      refine (Runs.sound hT hm hf hd (hr.congr hops hM)).2.1 f cs t k rfl hk fun γ a' W' _ _ hm' hf' => hK γ a' W' ?_ ?_
      · have e1 : aL ⟨o.dst, f k, [⟨k, cs, t⟩], none⟩ L' = upL L' k ⟨k, cs, t⟩ := by
          funext l
          simp only [aL, gl, upL]
          by_cases hl : l = k
          · subst hl
            cases hq : L' l with
            | some c => exact (hk (hm.bL l c hq).1).elim
            | none => simp [find]
          · cases hq : L' l with
            | some c => simp [hl]
            | none => simp [find, hl, Ne.symm hl]
        have e2 : aP ⟨o.dst, f k, [⟨k, cs, t⟩], none⟩ p = fun l => p l ∨ l = k := by
          funext l; simp [aP, pl, eq_comm]
        rw [e1, e2]; exact hm'
      · have e2 : aP ⟨o.dst, f k, [⟨k, cs, t⟩], none⟩ p = fun l => p l ∨ l = k := by
          funext l; simp [aP, pl, eq_comm]
        rw [e2]; exact hf'
    · have hmm : memOf o = true := by
        generalize hop : o.op = op at hr
        cases hr
        simp [memOf, hop]
      have hL := hM hmm l b hV
      refine (Runs.sound hT hm hf hd (hr.congr hops hM)).2.2 l q vs b rfl hL hown fun a' W' _ hm' hf' => hK β a' W' ?_ ?_
      · have e1 : aL ⟨o.dst, .raw undef, [], some (l, q, vs)⟩ L' = upL L' l ⟨b.l, splice b.cs q vs, b.t⟩ := by
          funext k
          simp only [aL, gl, upL]
          by_cases hk : k = l
          · subst hk; simp [hL]
          · simp [hk]
        rw [e1, nil2]; exact hm'
      · rw [nil2]; exact hf'
    · refine hen.run β p F' L' a W hops (fun l b hl => by unfold selM at hl; cases hmo : memOf o with | true => rw [hmo] at hl; exact hM hmo l b hl | false => rw [hmo] at hl; cases hl) hfr hm hf _ _ fun γ a' W' hm' hf' => hK γ a' W' ?_ ?_
      · have e1 : aL ⟨o.dst, v, nw, none⟩ L' = addN L' nw := by
          funext l; simp only [aL, gl, addN]; cases L' l <;> rfl
        rw [e1]; exact hm'
      · exact hf'
  · have := hf.fr d (.bool x) (by rw [hF d hlk]; exact hd2)
    have hy : yielded ops a.tmps j = some x := by
      unfold yielded
      simp [hj, hdj, this, den]
    have hw : Region.wanted o (yielded ops a.tmps) = false := by
      simp [Region.wanted, hg, hy]
    rw [if_neg (by rw [hw]; simp)]
    refine hK β _ W ?_ ?_
    · rw [nil1, nil2]; exact hm
    · rw [nil2]
      exact hf.put hd (v := .raw undef) (by simp [bd])
end
end Go.Vg
