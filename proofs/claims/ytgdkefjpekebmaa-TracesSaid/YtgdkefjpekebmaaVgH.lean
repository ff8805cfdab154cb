/-
  This text defines the symbolic run of a whole function body and proves it sound: what it tells of the result holds of every call in the model. Condition: each slot that is written lies in the frame.
-/
import Derived.Test.YtgdkefjpekebmaaVgG
namespace Go.Vg
open Go.RowKit
def Qn (g : G) (K : FF → LL → Nat → Prop) : Exit → Act → World → Prop
  | .normal, a, W => ∃ F L n, K F L n ∧ St g F L n a W
  | _, _, _ => False
def up (g : G) (Q : Exit → FF → LL → Nat → Prop) : Exit → Act → World → Prop := fun e a W => ∃ F L n, Q e F L n ∧ St g F L n a W
/-- a region that draws its order -/
structure Reg (g : G) (P : Program) (id : Nat) (ops : Array Oper) (K : FF → LL → Nat → Prop) (F : FF) (L : LL) (n : Nat) : Prop where
  run : ∀ a W, St g F L n a W → (Code.region id ops true).wp P (Qn g K) a W
mutual
def ren (ρ : Nat → Nat) : SV → SV
  | .ptr l o => .ptr (ρ l) o
  | .ptrS l o => .ptrS (ρ l) o
  | .slice l o n c => .slice (ρ l) o n c
  | .fn f a b => .fn f (renL ρ a) (renL ρ b)
  | .agg cs => .agg (renL ρ cs)
  | .tup vs => .tup (renL ρ vs)
  | v => v
def renL (ρ : Nat → Nat) : List SV → List SV
  | [] => []
  | v :: vs => ren ρ v :: renL ρ vs
end
mutual
theorem den_ren (β ρ : Nat → Nat) : ∀ v, den β (ren ρ v) = den (fun l => β (ρ l)) v
  | .ptr _ _ | .ptrS _ _ | .slice _ _ _ _ | .bool _ | .int _ _ | .str _ | .nilp | .nils | .nilfn | .raw _ => by simp [ren, den]
  | .fn _ a b => by simp only [ren, den, denL_ren β ρ a, denL_ren β ρ b]
  | .agg cs => by simp only [ren, den, denL_ren β ρ cs]
  | .tup vs => by simp only [ren, den, denL_ren β ρ vs]
theorem denL_ren (β ρ : Nat → Nat) : ∀ l, denL β (renL ρ l) = denL (fun l => β (ρ l)) l
  | [] => rfl
  | v :: vs => by simp only [renL, denL, den_ren β ρ v, denL_ren β ρ vs]
end
theorem renL_length (ρ : Nat → Nat) : ∀ l, (renL ρ l).length = l.length
  | [] => rfl
  | v :: vs => by rw [renL, List.length_cons, List.length_cons, renL_length ρ vs]
def wkF (ρ : Nat → Nat) (n' : Nat) (F : FF) : FF → Prop
  | [] => True
  | (t, v) :: F' => look F t = some (ren ρ v) ∧ bd (fun l => l < n') v ∧ wkF ρ n' F F'
def wkL (ρ : Nat → Nat) (n0 n' : Nat) (L : LL) : LL → Prop
  | [] => True
  | b :: L' => find L (ρ b.l) = some ⟨ρ b.l, renL ρ b.cs, b.t⟩ ∧ Nat.blt b.l n' = true ∧ (Nat.blt b.l n0 || Nat.ble n0 (ρ b.l)) = true ∧ bdL (fun l => l < n') b.cs ∧ wkL ρ n0 n' L L'
def ndN : List Nat → Bool
  | [] => true
  | x :: xs => (!memN xs x) && ndN xs
def below (f : Nat → Bool) : Nat → Bool
  | 0 => true
  | n + 1 => f n && below f n
/-- less is known, under other labels -/
def Weak (n0 : Nat) (ρ : Nat → Nat) (F' : FF) (L' : LL) (n' : Nat) (F : FF) (L : LL) (_ : Nat) : Prop :=
  wkF ρ n' F F' ∧ wkL ρ n0 n' L L' ∧ ndN (L'.map fun b => ρ b.l) = true ∧ Nat.ble n0 n' = true ∧ below (fun l => Nat.beq (ρ l) l) n0 = true
theorem wkF_look {ρ : Nat → Nat} {n' : Nat} {F F' : FF} (h : wkF ρ n' F F') {t : Nat} {v : SV} (hv : look F' t = some v) : look F t = some (ren ρ v) ∧ bd (fun l => l < n') v := by
  induction F' with
  | nil => simp [look] at hv
  | cons p F' ih =>
    obtain ⟨s, u⟩ := p
    simp only [wkF] at h
    simp only [look] at hv
    by_cases hs : s = t
    · rw [if_pos hs] at hv
      obtain rfl := Option.some.inj hv
      exact ⟨hs ▸ h.1, h.2.1⟩
    · rw [if_neg hs] at hv
      exact ih h.2.2 hv
theorem wkL_mem {ρ : Nat → Nat} {n0 n' : Nat} {L L' : LL} (h : wkL ρ n0 n' L L') {b : Blk} (hb : b ∈ L') : find L (ρ b.l) = some ⟨ρ b.l, renL ρ b.cs, b.t⟩ ∧ b.l < n' ∧ (n0 ≤ b.l → n0 ≤ ρ b.l) ∧ bdL (fun l => l < n') b.cs := by
  induction L' with
  | nil => cases hb
  | cons c L' ih =>
    simp only [wkL] at h
    rcases List.mem_cons.1 hb with rfl | hb
    · refine ⟨h.1, Nat.le_of_ble_eq_true h.2.1, fun h2 => ?_, h.2.2.2.1⟩
      have := h.2.2.1
      simp only [Bool.or_eq_true] at this
      rcases this with h3 | h3
      · have := Nat.le_of_ble_eq_true h3; omega
      · exact Nat.le_of_ble_eq_true h3
    · exact ih h.2.2.2.2 hb
theorem ndN_nodup {l : List Nat} (h : ndN l = true) : l.Nodup := by
  induction l with
  | nil => simp
  | cons x xs ih =>
    simp only [ndN, Bool.and_eq_true, Bool.not_eq_true'] at h
    refine List.nodup_cons.2 ⟨fun hx => ?_, ih h.2⟩
    have : memN xs x = true := by
      clear ih
      have h2 := hx
      clear h hx
      induction xs with
      | nil => cases h2
      | cons y ys ih =>
        simp only [memN]
        by_cases hy : y = x
        · simp [hy]
        · rw [if_neg hy]
          exact ih ((List.mem_cons.1 h2).resolve_left (fun e => hy e.symm))
    rw [h.1] at this
    cases this
theorem below_at {f : Nat → Bool} {n l : Nat} (h : below f n = true) (hl : l < n) : f l = true := by
  induction n with
  | zero => omega
  | succ n ih =>
    simp only [below, Bool.and_eq_true] at h
    by_cases e : l = n
    · subst e; exact h.1
    · exact ih h.2 (by omega)
theorem nodup_inj {l : LL} {f : Blk → Nat} (h : (l.map f).Nodup) {b c : Blk} (hb : b ∈ l) (hc : c ∈ l) (he : f b = f c) : b = c := by
  induction l with
  | nil => cases hb
  | cons x xs ih =>
    simp only [List.map_cons, List.nodup_cons] at h
    rcases List.mem_cons.1 hb with hb | hb <;> rcases List.mem_cons.1 hc with hc | hc
    · rw [hb, hc]
    · exact (h.1 (List.mem_map.2 ⟨c, hc, by rw [← he, hb]⟩)).elim
    · exact (h.1 (List.mem_map.2 ⟨b, hb, by rw [he, hc]⟩)).elim
    · exact ih h.2 hb hc
theorem Mem.weak {g : G} {β ρ : Nat → Nat} {L L' : LL} {n n' : Nat} {W : World} (hm : Mem g β (find L) (fun l => l < n) W) (hL : wkL ρ g.n0 n' L L') (hni : ndN (L'.map fun b => ρ b.l) = true) (hn : Nat.ble g.n0 n' = true) (hb : below (fun l => Nat.beq (ρ l) l) g.n0 = true) :
    Mem g (fun l => β (ρ l)) (find L') (fun l => l < n') W := by
  have hn' := Nat.le_of_ble_eq_true hn
  refine ⟨fun l hl => Nat.lt_of_lt_of_le hl hn', ?_, ?_, ?_, ?_, ?_, hm.up⟩
  · intro l hl
    have := Nat.eq_of_beq_eq_true (below_at (f := fun l => Nat.beq (ρ l) l) hb hl)
    show β (ρ l) = _
    rw [this]; exact hm.old l hl
  · intro l b h hl
    obtain ⟨hbm, rfl⟩ := find_mem h
    obtain ⟨h1, _, h3, _⟩ := wkL_mem hL hbm
    exact hm.new _ _ h1 (h3 hl)
  · intro l b l' b' h h' ho he
    obtain ⟨hbm, rfl⟩ := find_mem h
    obtain ⟨hbm', rfl⟩ := find_mem h'
    have ho' : own g.n0 g.ms (ρ b.l) = true := by
      by_cases h0 : b.l < g.n0
      · rw [Nat.eq_of_beq_eq_true (below_at (f := fun l => Nat.beq (ρ l) l) hb h0)]; exact ho
      · unfold own
        rw [Nat.ble_eq_true_of_le ((wkL_mem hL hbm).2.2.1 (by omega))]
    have := hm.inj _ _ _ _ (wkL_mem hL hbm).1 (wkL_mem hL hbm').1 ho' he
    have := nodup_inj (f := fun b => ρ b.l) (ndN_nodup hni) hbm hbm' this
    rw [this]
  · intro l b h
    obtain ⟨hbm, rfl⟩ := find_mem h
    obtain ⟨m, h1, h2⟩ := hm.cell _ _ (wkL_mem hL hbm).1
    rw [denL_ren] at h2
    refine ⟨m, fun ho => ?_, h2⟩
    rw [renL_length] at h1
    refine h1 ?_
    by_cases h0 : b.l < g.n0
    · show own g.n0 g.ms (ρ b.l) = true
      rw [Nat.eq_of_beq_eq_true (below_at (f := fun l => Nat.beq (ρ l) l) hb h0)]; exact ho
    · show own g.n0 g.ms (ρ b.l) = true
      unfold own
      rw [Nat.ble_eq_true_of_le ((wkL_mem hL hbm).2.2.1 (by omega))]
  · intro l b h
    obtain ⟨hbm, rfl⟩ := find_mem h
    obtain ⟨_, h2, _, h4⟩ := wkL_mem hL hbm
    exact ⟨h2, h4⟩
theorem St.weak {g : G} {ρ : Nat → Nat} {F' F : FF} {L' L : LL} {n' n : Nat} {a : Act} {W : World} (h : Weak g.n0 ρ F' L' n' F L n) (hs : St g F L n a W) : St g F' L' n' a W := by
  obtain ⟨β, hm, hf⟩ := hs
  obtain ⟨hF, hL, hni, hn, hb⟩ := h
  refine ⟨fun l => β (ρ l), hm.weak hL hni hn hb, ⟨hf.size, hf.defs, ?_, ?_⟩⟩
  · intro t v hv
    exact (wkF_look hF hv).2
  · intro t v hv
    have := hf.fr t _ (wkF_look hF hv).1
    rw [den_ren] at this
    exact this
section
variable (T : Nat → Option Ty) (A : Ar) (P : Program) (g : G) (n0 : Nat) (ms : List Nat)
def onSeq (next : FF → LL → Nat → Prop) (Q : Exit → FF → LL → Nat → Prop) : Exit → FF → LL → Nat → Prop
  | .normal => next
  | .exit i => Q (.exit i)
  | .goto l => Q (.goto l)
  | .ret => Q .ret
  | .panic c => Q (.panic c)
  | .outgrown => Q .outgrown
def onBlock (id : Nat) (Q : Exit → FF → LL → Nat → Prop) : Exit → FF → LL → Nat → Prop
  | .exit i => match Nat.beq i id with
    | true => Q .normal
    | false => Q (.exit i)
  | .normal => Q .normal
  | .goto l => Q (.goto l)
  | .ret => Q .ret
  | .panic c => Q (.panic c)
  | .outgrown => Q .outgrown
def onLoop (I : FF → LL → Nat → Prop) (Q : Exit → FF → LL → Nat → Prop) : Exit → FF → LL → Nat → Prop
  | .normal => I
  | .exit i => Q (.exit i)
  | .goto l => Q (.goto l)
  | .ret => Q .ret
  | .panic c => Q (.panic c)
  | .outgrown => Q .outgrown
/-- a loop: what holds of a state s at each round's head, and a measure -/
structure LoopP (n0 : Nat) (c : Code) (body : (Exit → FF → LL → Nat → Prop) → FF → LL → Nat → Prop) (Q : Exit → FF → LL → Nat → Prop) (F : FF) (L : LL) (n : Nat) : Prop where
  out : ∃ (σ : Type) (ok : σ → Prop) (m : σ → Nat) (IF : σ → FF) (IL : σ → LL) (nI : Nat), (∃ s ρ, ok s ∧ Weak n0 ρ (IF s) (IL s) nI F L n) ∧
    ∀ s, ok s → body (onLoop (fun F' L' n' => ∃ s' ρ, ok s' ∧ m s' < m s ∧ Weak n0 ρ (IF s') (IL s') nI F' L' n') Q) (IF s) (IL s) nI
def vcC : Code → (Exit → FF → LL → Nat → Prop) → FF → LL → Nat → Prop
  | .skip, Q, F, L, n => Q .normal F L n
  | .region id ops draw, Q, F, L, n => match draw with
    | false => vcL T A P g n0 ms ops.toList ops.toList (Q .normal) F L n
    | true => Reg g P id ops (Q .normal) F L n
  | .seq x y, Q, F, L, n => vcC x (onSeq (vcC y Q) Q) F L n
  | .cond c x y, Q, F, L, n => match ev (look F) c with
    | some (.bool t) => match t with
      | true => vcC x Q F L n
      | false => vcC y Q F L n
    | _ => False
  | .block id c, Q, F, L, n => vcC c (onBlock id Q) F L n
  | .loop c, Q, F, L, n => LoopP n0 c (vcC c) Q F L n
  | .exit id, Q, F, L, n => Q (.exit id) F L n
  | .ret, Q, F, L, n => Q .ret F L n
  | _, _, _, _, _ => False
def dstsB (N : Nat) : Code → Bool
  | .region _ ops _ => ops.toList.all fun o => match o.dst with
    | some d => Nat.blt d N
    | none => true
  | .seq x y | .cond _ x y => dstsB N x && dstsB N y
  | .block _ c | .loop c | .scope c => dstsB N c
  | _ => true
end
section
variable {T : Nat → Option Ty} {P : Program} {g : G} {n0 : Nat} {ms : List Nat}
theorem vcL_sound (hT : TOk P T) (h0 : g.n0 = n0) (h1 : g.ms = ms) {all : List Oper} {K : FF → LL → Nat → Prop} : ∀ {rest : List Oper}, (∀ o ∈ rest, ∀ t, o.dst = some t → t < g.N) → ∀ {F : FF} {L : LL} {n : Nat}, vcL T Ar.real P g n0 ms all rest K F L n →
    ∀ {a : Act} {W : World}, St g F L n a W → wpList P all.toArray (Qn g K) rest a W
  | [], _, F, L, n, h, a, W, hs => ⟨F, L, n, h, hs⟩
  | o :: rest, hd, F, L, n, h, a, W, hs => by
    have hd1 := hd o List.mem_cons_self
    have ih := @vcL_sound hT h0 h1 all K rest (fun o ho => hd o (List.mem_cons_of_mem _ ho))
    have exec : vcOp T Ar.real P g n0 ms o (vcL T Ar.real P g n0 ms all rest K) F L n → o.wp P a W (wpList P all.toArray (Qn g K) rest) (Qn g K) := fun h2 =>
      (vcOp_sound hT h0 h1 hd1 h2).run a W hs _ _ fun F' L' n' a' W' hk hs' => ih hk hs'
    have skip : vcL T Ar.real P g n0 ms all rest K (putO F o.dst (.raw undef)) L n → wpList P all.toArray (Qn g K) rest (a.put o.dst undef) W := fun h2 => by
      obtain ⟨β, hm, hf⟩ := hs
      exact ih h2 ⟨β, hm, by rw [look_putO]; exact hf.put hd1 (v := .raw undef) (by simp [bd])⟩
    simp only [vcL] at h
    unfold wpList
    cases hgd : o.guard with
    | none =>
      simp only [hgd] at h
      rw [if_pos (by simp [Region.wanted, hgd])]
      exact .inl (exec h)
    | some p =>
      obtain ⟨j, b⟩ := p
      simp only [hgd] at h
      cases hj : all[j]? with
      | none => simp [hj] at h
      | some oj =>
        simp only [hj] at h
        cases hdj : oj.dst with
        | none => simp [hdj] at h
        | some d =>
          simp only [hdj] at h
          cases hl : look F d with
          | none => simp [hl] at h
          | some v =>
            cases v with
            | bool x =>
              have hy : yielded all.toArray a.tmps j = some x := by
                obtain ⟨β, hm, hf⟩ := hs
                have := hf.fr d _ hl
                unfold yielded
                simp [hj, hdj, this, den]
              simp only [hl] at h
              cases x <;> cases b <;> simp only at h
              · rw [if_pos (by simp [Region.wanted, hgd, hy])]; exact .inl (exec h)
              · rw [if_neg (by simp [Region.wanted, hgd, hy])]; exact skip h
              · rw [if_neg (by simp [Region.wanted, hgd, hy])]; exact skip h
              · rw [if_pos (by simp [Region.wanted, hgd, hy])]; exact .inl (exec h)
            | _ => simp [hl] at h
theorem vcC_sound (hT : TOk P T) (h0 : g.n0 = n0) (h1 : g.ms = ms) : ∀ {c : Code} {Q : Exit → FF → LL → Nat → Prop}, dstsB g.N c = true → ∀ {F : FF} {L : LL} {n : Nat}, vcC T Ar.real P g n0 ms c Q F L n →
    ∀ {a : Act} {W : World}, St g F L n a W → c.wp P (up g Q) a W := by
  intro c
  induction c with
  | skip => intro Q _ F L n h a W hs; exact wp_skip ⟨F, L, n, h, hs⟩
  | exit id => intro Q _ F L n h a W hs; exact wp_exit ⟨F, L, n, h, hs⟩
  | ret => intro Q _ F L n h a W hs; exact wp_ret ⟨F, L, n, h, hs⟩
  | region id ops draw =>
    intro Q hd F L n h a W hs
    have fin : ∀ e a' W', Qn g (Q .normal) e a' W' → up g Q e a' W' := by
      intro e a' W' hq
      cases e <;> first | exact hq | exact hq.elim
    cases draw with
    | true => exact wp_mono (Reg.run h a W hs) fin
    | false =>
      refine wp_mono (wp_region_list ?_) fin
      have := vcL_sound hT h0 h1 (all := ops.toList) (K := Q .normal) (rest := ops.toList) (fun o ho t ht => by
        simp only [dstsB, List.all_eq_true] at hd
        have := hd o ho
        simp only [ht] at this
        exact Nat.le_of_ble_eq_true this) (show vcL T Ar.real P g n0 ms ops.toList ops.toList (Q .normal) F L n from h) hs
      simpa using this
  | seq x y ihx ihy =>
    intro Q hd F L n h a W hs
    simp only [dstsB, Bool.and_eq_true] at hd
    refine wp_seq (wp_mono (ihx hd.1 h hs) ?_)
    rintro e a' W' ⟨F', L', n', hq, hs'⟩
    cases e with
    | normal => exact ihy hd.2 hq hs'
    | _ => exact ⟨F', L', n', hq, hs'⟩
  | cond c x y ihx ihy =>
    intro Q hd F L n h a W hs
    simp only [dstsB, Bool.and_eq_true] at hd
    simp only [vcC] at h
    cases he : ev (look F) c with
    | none => simp [he] at h
    | some v =>
      have hs2 := hs
      obtain ⟨β, hm, hf⟩ := hs2
      obtain ⟨e0, _⟩ := ev_sound hf he
      cases v with
      | bool t =>
        simp only [he] at h
        cases t with
        | true => exact wp_cond (t := true) (by rw [e0]; rfl) (ihx hd.1 h hs)
        | false => exact wp_cond (t := false) (by rw [e0]; rfl) (ihy hd.2 h hs)
      | _ => simp [he] at h
  | block id c ih =>
    intro Q hd F L n h a W hs
    refine wp_block (wp_mono (ih hd h hs) ?_)
    rintro e a' W' ⟨F', L', n', hq, hs'⟩
    cases e with
    | exit i =>
      simp only [onBlock] at hq
      simp only [Exit.inBlock]
      cases hb : Nat.beq i id with
      | true =>
        simp only [hb] at hq
        rw [if_pos (Nat.eq_of_beq_eq_true hb)]
        exact ⟨F', L', n', hq, hs'⟩
      | false =>
        simp only [hb] at hq
        rw [if_neg (fun e => by rw [e, Nat.beq_refl] at hb; cases hb)]
        exact ⟨F', L', n', hq, hs'⟩
    | _ => exact ⟨F', L', n', hq, hs'⟩
  | loop c ih =>
    intro Q hd F L n h a W hs
    obtain ⟨⟨σ, ok, m, IF, IL, nI, ⟨s0, ρ0, hok0, hw0⟩, hr⟩⟩ := h
    subst h0
    have st0 : St g (IF s0) (IL s0) nI a W := hs.weak hw0
    have key : ∀ k : Nat, ∀ s, m s = k → ok s → ∀ a W, St g (IF s) (IL s) nI a W → ∀ b kk cs, ∃ e a' w', up g Q e a' w' ∧ Arrives P (lone (b.at a (.code c :: .inLoop c :: kk)) cs W) b kk cs e a' w' := by
      intro k
      induction k using Nat.strongRecOn with
      | _ k ihk =>
        intro s hs2 hok a W hst b kk cs
        obtain ⟨e, a1, W1, hq, harr⟩ := ih (show dstsB g.N c = true from hd) (hr s hok) hst b (.inLoop c :: kk) cs
        obtain ⟨F', L', n', hq, hst'⟩ := hq
        cases e with
        | normal =>
          obtain ⟨s', ρ, hok', hlt, hw⟩ := hq
          obtain ⟨e2, a2, W2, hq2, harr2⟩ := ihk (m s') (by omega) s' rfl hok' a1 W1 (hst'.weak hw) b kk cs
          exact ⟨e2, a2, W2, hq2, .of_steps (Steps.trans harr (.one step_inLoop)) harr2⟩
        | exit id => exact ⟨_, a1, W1, ⟨F', L', n', hq, hst'⟩, .pass (x := .inLoop c) rfl (fun _ _ => .inl (by simp)) harr⟩
        | goto l => exact ⟨_, a1, W1, ⟨F', L', n', hq, hst'⟩, .pass (x := .inLoop c) rfl (fun _ _ => .inl (by simp)) harr⟩
        | ret => exact ⟨_, a1, W1, ⟨F', L', n', hq, hst'⟩, .pass (x := .inLoop c) rfl (fun _ _ => .inl (by simp)) harr⟩
        | panic ch => exact ⟨_, a1, W1, ⟨F', L', n', hq, hst'⟩, .pass (x := .inLoop c) rfl (fun _ _ => .inl (by simp)) harr⟩
        | outgrown => exact ⟨_, a1, W1, ⟨F', L', n', hq, hst'⟩, .pass (x := .inLoop c) rfl (fun _ _ => .inl (by simp)) harr⟩
    intro b kk cs
    obtain ⟨e, a', w', hq, harr⟩ := key _ s0 rfl hok0 a W st0 b kk cs
    exact ⟨e, a', w', hq, .of_steps (.one step_loop) harr⟩
  | _ => intro Q _ F L n h; exact h.elim
end
end Go.Vg
