/-
  This text proves how a call is met by its callee's contract, in the symbolic run. No condition.
-/
import Derived.Test.YtgdkefjpekebmaaVgI
namespace Go.Vg
open Go.RowKit
theorem run_callFunc {P : Program} {f : FuncId} (h : Callable P f) (args : Array Value) (w : World) : (callFunc f args).run P w = .ok (.enter f args) w := by
  obtain ⟨fn, h1, h2, h3⟩ := h
  have h3' : ¬ fn.name = "runtime.NumGoroutine" := by simpa using h3
  have h2' : ¬ fn.body = none := by intro e; rw [e] at h2; cases h2
  unfold callFunc
  simp [h1, h2', h3']
/-- what is called, with all its arguments -/
def callee (F : Nat → Option SV) (c : Call) : Option (FuncId × List SV) :=
  match c.callee with
  | .value f => match ev F f with
    | some (.fn (.func f) a b) => match evs F c.args.toList with
      | some vs => some (f, a ++ vs ++ b)
      | none => none
    | _ => none
  | _ => none
section
variable {P : Program} {T : Nat → Option Ty} {g : G} {β : Nat → Nat} {F : FF} {L : LL} {n : Nat} {a : Act} {W : World}
theorem callee_run {F : Nat → Option SV} {q : Nat → Prop} (hf : Fra g β F q a) {o : Oper} {c : Call} (ho : o.op = .call c) {f : FuncId} {args : List SV} (hc : callee F c = some (f, args)) (hcb : Callable P f) : (execOp a.eval o).run P W = .ok (.enter f (denL β args).toArray) W ∧ bdL q args := by
  unfold callee at hc
  split at hc
  · rename_i fo hfo
    split at hc
    · rename_i f' x y hev
      cases hvs : evs F c.args.toList with
      | none => simp [hvs] at hc
      | some vs =>
        simp only [hvs, Option.some.injEq, Prod.mk.injEq] at hc
        obtain ⟨rfl, rfl⟩ := hc
        obtain ⟨e0, b0⟩ := ev_sound hf hev
        obtain ⟨e1, b1⟩ := evs_sound hf hvs
        have m1 : c.args.map a.eval = (denL β vs).toArray := by rw [← e1, ← Array.toList_map]
        simp only [bd] at b0
        refine ⟨?_, ?_⟩
        · unfold execOp
          have hr : (resolve a.eval c o.type).run P W = .ok { target := .fn (.func f') (denL β y).toArray, args := (denL β x).toArray ++ (denL β vs).toArray } W := by
            unfold resolve
            simp [hfo, e0, den, Deferred.ofValue, m1]
          have h2 := run_callFunc hcb ((denL β x).toArray ++ (denL β vs).toArray ++ (denL β y).toArray) W
          simp only [ho, Sem.run_bind, hr, Result.andThen_ok, invoke, h2]
          simp [denL_eq]
        · rw [bdL_iff]
          intro v hv
          simp only [List.mem_append] at hv
          rcases hv with (hv | hv) | hv
          · exact (bdL_iff _ _).1 b0.1 v hv
          · exact (bdL_iff _ _).1 b1 v hv
          · exact (bdL_iff _ _).1 b0.2 v hv
    · cases hc
  · cases hc
theorem Upd.trans {W0 W1 W2 : World} {M N : Nat → Prop} (h : Upd W0 W1 M) (k : Upd W1 W2 N) (hN : ∀ k, k < W0.heap.size → ¬ M k → ¬ N k) : Upd W0 W2 M :=
  ⟨k.os.trans h.os, k.tape.trans h.tape, k.output.trans h.output, Nat.le_trans h.size k.size, fun i hi hM => (k.block i (Nat.lt_of_lt_of_le hi h.size) (hN i hi hM)).trans (h.block i hi hM)⟩
/-- memory is as it was behind a call that writes nothing that was there -/
theorem Mem.call {L : Nat → Option Blk} {q : Nat → Prop} (hm : Mem g β L q W) {W' : World} {M : Nat → Prop} (hu : Upd W W' M) (hM : ∀ k, ¬ M k) : Mem g β L q W' :=
  ⟨hm.low, hm.old, hm.new, hm.inj, fun l b hb => by
    obtain ⟨m, h1, h2⟩ := hm.cell l b hb
    exact ⟨m, h1, by rw [hu.block _ (block_lt h2) (hM _)]; exact h2⟩, hm.bL, hm.up.trans hu (fun k _ _ => hM k)⟩
def foot (ρ : Nat → Nat) (L : Nat → Option Blk) : LL → Prop
  | [] => True
  | b :: Lp => L (ρ b.l) = some ⟨ρ b.l, renL ρ b.cs, b.t⟩ ∧ foot ρ L Lp
theorem foot_mem {ρ : Nat → Nat} {L : Nat → Option Blk} {Lp : LL} (h : foot ρ L Lp) {b : Blk} (hb : b ∈ Lp) : L (ρ b.l) = some ⟨ρ b.l, renL ρ b.cs, b.t⟩ := by
  induction Lp with
  | nil => cases hb
  | cons c Lp ih =>
    rcases List.mem_cons.1 hb with rfl | hb
    · exact h.1
    · exact ih h.2 hb
/-- no two labels name a block that is written -/
def injB (mc : List Nat) (ρ : Nat → Nat) (Lp : LL) : Bool := Lp.all fun b => !memN mc b.l || Lp.all fun c => !Nat.beq (ρ b.l) (ρ c.l) || Nat.beq b.l c.l
theorem injB_nil (ρ : Nat → Nat) (Lp : LL) : injB [] ρ Lp = true := List.all_eq_true.2 fun _ _ => rfl
theorem foot_pre {L : Nat → Option Blk} {q : Nat → Prop} (hm : Mem g β L q W) {ρ : Nat → Nat} {Lp : LL} {mc : List Nat} (h : foot ρ L Lp) (hi : injB mc ρ Lp = true) (ho : ∀ m ∈ mc, own g.n0 g.ms (ρ m) = true) : Pre (fun l => β (ρ l)) Lp mc W := by
  refine ⟨?_, ?_⟩
  · intro b hb c hc hmc he
    have h1 := hm.inj _ _ _ _ (foot_mem h hb) (foot_mem h hc) (ho _ (memN_mem hmc)) he
    have h2 := List.all_eq_true.1 hi b hb
    rw [hmc] at h2
    simp only [Bool.not_true, Bool.false_or, List.all_eq_true] at h2
    have h3 := h2 c hc
    rw [h1, Nat.beq_refl] at h3
    exact Nat.eq_of_beq_eq_true h3
  · intro b hb
    obtain ⟨m, h1, h2⟩ := hm.cell _ _ (foot_mem h hb)
    rw [denL_ren] at h2
    exact ⟨m, fun hmc => by rw [renL_length] at h1; exact h1 (ho _ (memN_mem hmc)), h2⟩
/-- a call of a function that writes nothing that was there; its result is plain data, or leads to what the caller has -/
theorem call_ro {o : Oper} {c : Call} (ho : o.op = .call c) {m0 N : Nat} {ms : List Nat} (hg : GI g m0 ms N) (hd' : dstLt N o.dst = true) {f : FuncId} {us args : List SV} (hc : callee (look F) c = some (f, us)) {Lp : LL} {n0 : Nat} {R : SV → LL → Nat → Prop} (hcon : Con P f args Lp n0 [] R)
    (ρ : Nat → Nat) (hus : us = renL ρ args) (hft : foot ρ (find L) Lp) {K : FF → LL → Nat → Prop} (hK : ∀ v L1 n1, R v L1 n1 → bd (fun l => l < n0) v ∧ bd (fun l => l < n) (ren ρ v) ∧ K (putO F o.dst (ren ρ v)) L n) : Step g P o K F L n := by
  have hd := hg.dst hd'
  obtain ⟨hcb, hcon⟩ := hcon
  refine ⟨?_⟩
  intro a W ⟨β, hm, hf⟩ next Q hnext
  obtain ⟨r1, r2⟩ := callee_run (P := P) (W := W) hf ho hc hcb
  unfold Oper.wp
  rw [r1, Oper.upon_enter]
  have hden : denL β us = denL (fun l => β (ρ l)) args := by rw [hus, denL_ren]
  rw [hden]
  refine (hcon (fun l => β (ρ l)) W (foot_pre hm hft (injB_nil ρ Lp) (fun m h => by cases h))).mono ?_
  rintro e W' ⟨v, L1, n1, β1, hR, rfl, _, hm1⟩
  obtain ⟨b0, b1, hk⟩ := hK v L1 n1 hR
  have hv : den β1 v = den β (ren ρ v) := by
    rw [den_ren]
    exact den_congr (fun l hl => hm1.old l hl) v b0
  simp only [hv]
  exact hnext _ _ _ _ _ hk ⟨β, hm.call hm1.up (by rintro k ⟨l, hl, _⟩; cases hl), by rw [look_putO]; exact hf.put hd b1⟩
/-- the same where the arguments are plain data -/
theorem call_val {o : Oper} {c : Call} (ho : o.op = .call c) {m0 N : Nat} {ms : List Nat} (hg : GI g m0 ms N) (hd' : dstLt N o.dst = true) {f : FuncId} {args : List SV} (hc : callee (look F) c = some (f, args)) {R : SV → LL → Nat → Prop} (hcon : Con P f args [] 0 [] R)
    {K : FF → LL → Nat → Prop} (hK : ∀ v L1 n1, R v L1 n1 → bd (fun _ => False) v ∧ K (putO F o.dst v) L n) : Step g P o K F L n := by
  have hd := hg.dst hd'
  obtain ⟨hcb, hcon⟩ := hcon
  refine ⟨?_⟩
  intro a W ⟨β, hm, hf⟩ next Q hnext
  obtain ⟨r1, r2⟩ := callee_run (P := P) (W := W) hf ho hc hcb
  unfold Oper.wp
  rw [r1, Oper.upon_enter]
  refine (hcon β W ⟨fun b h => (by cases h), fun b h => (by cases h)⟩).mono ?_
  rintro e W' ⟨v, L1, n1, β1, hR, rfl, _, hm1⟩
  obtain ⟨b0, hk⟩ := hK v L1 n1 hR
  have hv : den β1 v = den β v := den_congr (p := fun _ => False) (fun l hl => hl.elim) v b0
  simp only [hv]
  exact hnext _ _ _ _ _ hk ⟨β, hm.call hm1.up (by rintro k ⟨l, hl, _⟩; cases hl), by rw [look_putO]; exact hf.put hd (bd_mono (fun l h => h.elim) v b0)⟩
def remL (ls : List Nat) : LL → LL
  | [] => []
  | b :: L => match memN ls b.l with
    | true => remL ls L
    | false => b :: remL ls L
theorem memN_iff {ms : List Nat} {l : Nat} : memN ms l = true ↔ l ∈ ms := by
  constructor
  · exact memN_mem
  · intro h
    induction ms with
    | nil => cases h
    | cons m ms ih =>
      simp only [memN]
      by_cases hm : m = l
      · rw [if_pos hm]
      · rw [if_neg hm]
        exact ih ((List.mem_cons.1 h).resolve_left fun e => hm e.symm)
theorem find_remL {ls : List Nat} (l : Nat) : find (remL ls L) l = if memN ls l then none else find L l := by
  induction L with
  | nil => cases memN ls l <;> rfl
  | cons c L ih =>
    simp only [remL]
    cases hc : memN ls c.l with
    | true =>
      simp only [ih, find]
      by_cases hl : c.l = l
      · subst hl; simp [hc]
      · rw [if_neg hl]
    | false =>
      simp only [find, ih]
      by_cases hl : c.l = l
      · subst hl; simp [hc]
      · rw [if_neg hl, if_neg hl]
def rho (ρ : Nat → Nat) (n0 n : Nat) (l : Nat) : Nat :=
  match Nat.blt l n0 with
  | true => ρ l
  | false => n + (l - n0)
theorem rho_lt {ρ : Nat → Nat} {n0 n l : Nat} (h : l < n0) : rho ρ n0 n l = ρ l := by
  unfold rho
  rw [show Nat.blt l n0 = true from Nat.ble_eq_true_of_le h]
theorem rho_ge {ρ : Nat → Nat} {n0 n l : Nat} (h : n0 ≤ l) : rho ρ n0 n l = n + (l - n0) := by
  unfold rho
  cases hb : Nat.blt l n0 with
  | false => rfl
  | true => have := Nat.le_of_ble_eq_true hb; omega
def oldL (n0 : Nat) : LL → List Nat
  | [] => []
  | b :: L => match Nat.blt b.l n0 with
    | true => b.l :: oldL n0 L
    | false => oldL n0 L
theorem mem_oldL {n0 l : Nat} (hl : l < n0) (h : ∃ b ∈ L, b.l = l) : l ∈ oldL n0 L := by
  induction L with
  | nil => obtain ⟨b, hb, _⟩ := h; cases hb
  | cons c L ih =>
    obtain ⟨b, hb, e⟩ := h
    simp only [oldL]
    rcases List.mem_cons.1 hb with rfl | hb
    · rw [show Nat.blt b.l n0 = true from Nat.ble_eq_true_of_le (e ▸ hl)]
      rw [e]; exact List.mem_cons_self
    · cases Nat.blt c.l n0 with
      | true => exact List.mem_cons_of_mem _ (ih ⟨b, hb, e⟩)
      | false => exact ih ⟨b, hb, e⟩
def renB (ρ : Nat → Nat) : LL → LL
  | [] => []
  | b :: L => ⟨ρ b.l, renL ρ b.cs, b.t⟩ :: renB ρ L
theorem find_renB {ρ : Nat → Nat} {l : Nat} {c : Blk} (h : find (renB ρ L) l = some c) : ∃ b ∈ L, find L b.l = some b ∧ ρ b.l = l ∧ c = ⟨ρ b.l, renL ρ b.cs, b.t⟩ := by
  induction L with
  | nil => cases h
  | cons b L ih =>
    simp only [renB, find] at h
    by_cases hb : ρ b.l = l
    · rw [if_pos hb] at h
      exact ⟨b, List.mem_cons_self, by simp [find], hb, (Option.some.inj h).symm⟩
    · rw [if_neg hb] at h
      obtain ⟨d, hd, h1, h2, h3⟩ := ih h
      refine ⟨d, List.mem_cons_of_mem _ hd, ?_, h2, h3⟩
      simp only [find]
      rw [if_neg (fun e => hb (by rw [e, h2]))]
      exact h1
mutual
theorem bd_ren {ρ : Nat → Nat} {n m : Nat → Prop} (h : ∀ l, n l → m (ρ l)) : ∀ v, bd n v → bd m (ren ρ v)
  | .bool _, _ | .int _ _, _ | .str _, _ | .nilp, _ | .nils, _ | .nilfn, _ | .raw _, _ => by simp [bd, ren]
  | .ptr _ _, hv | .ptrS _ _, hv | .slice _ _ _ _, hv => h _ (by simpa [bd] using hv)
  | .fn _ x y, hv => by
    simp only [bd] at hv
    exact ⟨bdL_ren h x hv.1, bdL_ren h y hv.2⟩
  | .agg cs, hv => by simp only [bd] at hv; exact bdL_ren h cs hv
  | .tup vs, hv => by simp only [bd] at hv; exact bdL_ren h vs hv
theorem bdL_ren {ρ : Nat → Nat} {n m : Nat → Prop} (h : ∀ l, n l → m (ρ l)) : ∀ l, bdL n l → bdL m (renL ρ l)
  | [], _ => trivial
  | v :: vs, hl => by
    simp only [bdL] at hl
    exact ⟨bd_ren h v hl.1, bdL_ren h vs hl.2⟩
end
/-- a call of a function that may write what it is led to, and make blocks that its result leads to -/
theorem call_gen {o : Oper} {c : Call} (ho : o.op = .call c) {m0 N : Nat} {ms : List Nat} (hg : GI g m0 ms N) (hd' : dstLt N o.dst = true) {f : FuncId} {us args : List SV} (hc : callee (look F) c = some (f, us)) {Lp : LL} {n0 : Nat} {mc : List Nat} {R : SV → LL → Nat → Prop} (hcon : Con P f args Lp n0 mc R)
    (ρ : Nat → Nat) (hus : us = renL ρ args) (hft : foot ρ (find L) Lp) (hi : injB mc ρ Lp = true) (hρ : below (fun l => Nat.blt (ρ l) n) n0 = true)
    (hmc : mc.all (fun m => own m0 ms (ρ m) && memN (Lp.map Blk.l) m && Nat.blt m n0) = true) {K : FF → LL → Nat → Prop}
    (hK : ∀ v L1 n1, R v L1 n1 → n0 ≤ n1 → L1.all (fun b => Nat.ble n0 b.l || memN (Lp.map Blk.l) b.l) = true ∧
      K (putO F o.dst (ren (rho ρ n0 n) v)) (remL (mc.map ρ ++ (oldL n0 L1).map ρ) L ++ renB (rho ρ n0 n) L1) (n + (n1 - n0))) : Step g P o K F L n := by
  have hd := hg.dst hd'
  rw [← hg.n0, ← hg.ms] at hmc
  obtain ⟨hcb, hcon⟩ := hcon
  refine ⟨?_⟩
  intro a W ⟨β, hm, hf⟩ next Q hnext
  obtain ⟨r1, r2⟩ := callee_run (P := P) (W := W) hf ho hc hcb
  unfold Oper.wp
  rw [r1, Oper.upon_enter]
  have hden : denL β us = denL (fun l => β (ρ l)) args := by rw [hus, denL_ren]
  rw [hden]
  refine (hcon (fun l => β (ρ l)) W (foot_pre hm hft hi (fun m h => by
    have := (List.all_eq_true.1 hmc) m h
    simp only [Bool.and_eq_true] at this
    exact this.1.1))).mono ?_
  rintro e W' ⟨v, L1, n1, β1, hR, rfl, hbv, hm1⟩
  have hn01 : n0 ≤ n1 := Nat.le_of_not_lt fun h => Nat.lt_irrefl n1 (hm1.low n1 h)
  obtain ⟨hL1, hk⟩ := hK v L1 n1 hR hn01
  have hgn : g.n0 ≤ n := Nat.le_of_not_lt fun h => Nat.lt_irrefl n (hm.low n h)
  obtain ⟨γ, hg1, hg2⟩ : ∃ γ : Nat → Nat, (∀ l, l < n → γ l = β l) ∧ ∀ l, n ≤ l → γ l = β1 (n0 + (l - n)) := ⟨fun l => if l < n then β l else β1 (n0 + (l - n)), fun l hl => if_pos hl, fun l hl => if_neg (by omega)⟩
  have hρ' : ∀ l, l < n0 → ρ l < n := fun l hl => Nat.le_of_ble_eq_true (below_at (f := fun l => Nat.blt (ρ l) n) hρ hl)
  have hγ : ∀ l, l < n1 → γ (rho ρ n0 n l) = β1 l := by
    intro l _
    by_cases h : l < n0
    · rw [rho_lt h, hg1 _ (hρ' l h)]; exact (hm1.old l h).symm
    · rw [rho_ge (by omega), hg2 _ (by omega)]; congr 1; omega
  have hlt : ∀ l, l < n1 → rho ρ n0 n l < n + (n1 - n0) := by
    intro l hl
    by_cases h : l < n0
    · rw [rho_lt h]; have := hρ' l h; omega
    · rw [rho_ge (by omega)]; omega
  have hdv : ∀ u, bd (fun l => l < n1) u → den γ (ren (rho ρ n0 n) u) = den β1 u := by
    intro u hu
    rw [den_ren]; exact den_congr hγ u hu
  have hdL : ∀ us, bdL (fun l => l < n1) us → denL γ (renL (rho ρ n0 n) us) = denL β1 us := by
    intro us hu
    rw [denL_ren]; exact denL_congr hγ us hu
  have hmods : ∀ k, (∃ l ∈ mc, β (ρ l) = k) → ∃ m ∈ mc, m < n0 ∧ own g.n0 g.ms (ρ m) = true ∧ (∃ b ∈ Lp, b.l = m) ∧ k = β (ρ m) := by
    rintro k ⟨m, hm', rfl⟩
    have := (List.all_eq_true.1 hmc) m hm'
    simp only [Bool.and_eq_true] at this
    obtain ⟨b, hb, e⟩ := List.mem_map.1 (memN_mem this.1.2)
    exact ⟨m, hm', Nat.le_of_ble_eq_true this.2, this.1.1, ⟨b, hb, e⟩, rfl⟩
  have hfoot : ∀ b ∈ Lp, ∃ c, find L (ρ b.l) = some c := fun b hb => ⟨_, foot_mem hft hb⟩
  have hblk : ∀ l b, find L l = some b → l ∉ (mc.map ρ) → W'.heap[β l]? = W.heap[β l]? := by
    intro l b hb hnm
    obtain ⟨_, _, hcell⟩ := hm.cell l b hb
    refine hm1.up.block _ (block_lt hcell) ?_
    rintro ⟨m, hm', e⟩
    obtain ⟨m2, hm2, _, hown2, ⟨b2, hb2, e2⟩, e3⟩ := hmods _ ⟨m, hm', rfl⟩
    have e' : β (ρ m) = β l := e
    obtain ⟨c, hc⟩ := hfoot b2 hb2
    have e5 := hm.inj _ _ _ _ hc hb (by rw [e2]; exact hown2) (by rw [e2, ← e3, e'])
    exact hnm (List.mem_map.2 ⟨m2, hm2, by rw [← e5, e2]⟩)
  have hL1' : ∀ b ∈ L1, n0 ≤ b.l ∨ (b.l < n0 ∧ ∃ d ∈ Lp, d.l = b.l) := by
    intro b hb
    have := (List.all_eq_true.1 hL1) b hb
    simp only [Bool.or_eq_true] at this
    by_cases h : n0 ≤ b.l
    · exact Or.inl h
    · rcases this with h2 | h2
      · exact (h (Nat.le_of_ble_eq_true h2)).elim
      · obtain ⟨d, hd', e⟩ := List.mem_map.1 (memN_mem h2)
        exact Or.inr ⟨by omega, d, hd', e⟩
  have hcase : ∀ l b, find (remL (mc.map ρ ++ (oldL n0 L1).map ρ) L ++ renB (rho ρ n0 n) L1) l = some b →
      (find L l = some b ∧ l ∉ mc.map ρ ∧ l ∉ (oldL n0 L1).map ρ) ∨ (∃ b1 ∈ L1, find L1 b1.l = some b1 ∧ l = rho ρ n0 n b1.l ∧ b = ⟨rho ρ n0 n b1.l, renL (rho ρ n0 n) b1.cs, b1.t⟩) := by
    intro l b h
    rw [find_append, find_remL] at h
    cases hmem : memN (mc.map ρ ++ (oldL n0 L1).map ρ) l with
    | true =>
      simp only [hmem, if_true] at h
      obtain ⟨b1, h1, h2, h3, h4⟩ := find_renB h
      exact Or.inr ⟨b1, h1, h2, h3.symm, h4⟩
    | false =>
      have hn : l ∉ mc.map ρ ++ (oldL n0 L1).map ρ := fun h => by rw [memN_iff.2 h] at hmem; cases hmem
      simp only [hmem, Bool.false_eq_true, if_false] at h
      cases hq : find L l with
      | some c =>
        simp only [hq] at h
        exact Or.inl ⟨h, fun h => hn (List.mem_append.2 (Or.inl h)), fun h => hn (List.mem_append.2 (Or.inr h))⟩
      | none =>
        simp only [hq] at h
        obtain ⟨b1, h1, h2, h3, h4⟩ := find_renB h
        exact Or.inr ⟨b1, h1, h2, h3.symm, h4⟩
  have hb1n : ∀ b1, find L1 b1.l = some b1 → b1.l < n1 ∧ bdL (fun l => l < n1) b1.cs := fun b1 h => hm1.bL _ b1 h
  have hdis : ∀ l b b1, find L l = some b → l ∉ mc.map ρ → l ∉ (oldL n0 L1).map ρ → b1 ∈ L1 → find L1 b1.l = some b1 → (own g.n0 g.ms l = true ∨ own g.n0 g.ms (ρ b1.l) = true) → β l ≠ β1 b1.l := by
    intro l b b1 hb hnm hno hb1 hf1 ho e
    rcases hL1' b1 hb1 with h | ⟨h, d, hd', ed⟩
    · obtain ⟨_, _, hcell⟩ := hm.cell l b hb
      have k2 := block_lt hcell
      rcases hm1.new b1.l b1 hf1 h with k1 | k1
      · have k3 : W.heap.size ≤ β1 b1.l := k1
        omega
      · obtain ⟨m2, hm2, _, hown2, ⟨b2, hb2, e2⟩, e3⟩ := hmods _ k1
        obtain ⟨c, hc⟩ := hfoot b2 hb2
        have e5 := hm.inj _ _ _ _ hc hb (by rw [e2]; exact hown2) (by rw [e2, ← e3, e])
        exact hnm (List.mem_map.2 ⟨m2, hm2, by rw [← e5, e2]⟩)
    · have k1 : β1 b1.l = β (ρ b1.l) := hm1.old b1.l h
      obtain ⟨c, hc⟩ := hfoot d hd'
      have k2 : l = ρ d.l := by
        rcases ho with ho | ho
        · exact hm.inj _ _ _ _ hb hc ho (by rw [e, k1, ed])
        · exact (hm.inj _ _ _ _ hc hb (by rw [ed]; exact ho) (by rw [e, k1, ed])).symm
      exact hno (List.mem_map.2 ⟨b1.l, mem_oldL h ⟨b1, hb1, rfl⟩, by rw [k2, ed]⟩)
  simp only [← hdv v hbv]
  refine hnext _ _ _ _ _ hk ⟨γ, ⟨fun l hl => Nat.lt_of_lt_of_le hl (by omega), ?_, ?_, ?_, ?_, ?_, ?_⟩, by rw [look_putO]; exact (hf.mono hg1 (fun l hl => Nat.lt_of_lt_of_le hl (by omega))).put hd (bd_ren hlt v hbv)⟩
  · intro l hl
    rw [hg1 l (by omega)]; exact hm.old l hl
  · intro l b hb hl
    rcases hcase l b hb with ⟨h1, _⟩ | ⟨b1, hb1, hf1, rfl, rfl⟩
    · rw [hg1 _ (hm.bL l b h1).1]; exact hm.new l b h1 hl
    · rw [hγ _ (hb1n b1 hf1).1]
      rcases hL1' b1 hb1 with h | ⟨h, d, hd', e⟩
      · have h2 := hm.up.size
        rcases hm1.new b1.l b1 hf1 h with h1 | h1
        · exact Or.inl (Nat.le_trans h2 h1)
        · obtain ⟨m2, hm2, _, hown2, ⟨b2, hb2, e2⟩, e3⟩ := hmods _ h1
          obtain ⟨c, hc⟩ := hfoot b2 hb2
          rw [e2] at hc
          rw [e3]
          rcases own_or hown2 with h | h
          · exact hm.new _ c hc h
          · by_cases h0 : ρ m2 < g.n0
            · exact Or.inr ⟨ρ m2, h, (hm.old _ h0).symm⟩
            · exact hm.new _ c hc (by omega)
      · rw [rho_lt h] at hl
        obtain ⟨c, hc⟩ := hfoot d hd'
        have h1 := hm.new _ c hc (by rw [e]; exact hl)
        have h2 : β1 b1.l = β (ρ b1.l) := hm1.old b1.l h
        rw [h2, ← e]; exact h1
  · intro l b l' b' hb hb' ho e
    rcases hcase l b hb with ⟨h1, h1m, h1'⟩ | ⟨b1, hb1, hf1, rfl, rfl⟩ <;> rcases hcase l' b' hb' with ⟨k1, k1m, k1'⟩ | ⟨c1, hc1, hf2, rfl, rfl⟩
    · rw [hg1 _ (hm.bL l b h1).1, hg1 _ (hm.bL l' b' k1).1] at e
      exact hm.inj l b l' b' h1 k1 ho e
    · rw [hg1 _ (hm.bL l b h1).1, hγ _ (hb1n c1 hf2).1] at e
      exact (hdis l b c1 h1 h1m h1' hc1 hf2 (Or.inl ho) e).elim
    · rw [hg1 _ (hm.bL l' b' k1).1, hγ _ (hb1n b1 hf1).1] at e
      by_cases hb0 : b1.l < n0
      · rw [rho_lt hb0] at ho
        exact (hdis l' b' b1 k1 k1m k1' hb1 hf1 (Or.inr ho) e.symm).elim
      · obtain ⟨_, _, hcell⟩ := hm.cell l' b' k1
        have k2 := block_lt hcell
        rcases hm1.new b1.l b1 hf1 (by show n0 ≤ _; omega) with k3 | k3
        · have k4 : W.heap.size ≤ β1 b1.l := k3
          omega
        · obtain ⟨m2, hm2, _, hown2, ⟨b2, hb2, e2⟩, e3⟩ := hmods _ k3
          obtain ⟨c, hc⟩ := hfoot b2 hb2
          have e5 := hm.inj _ _ _ _ hc k1 (by rw [e2]; exact hown2) (by rw [e2, ← e3, e])
          exact (k1m (List.mem_map.2 ⟨m2, hm2, by rw [← e5, e2]⟩)).elim
    · rw [hγ _ (hb1n b1 hf1).1, hγ _ (hb1n c1 hf2).1] at e
      have hold : ∀ x ∈ L1, x.l < n0 → ∃ d, find L (ρ x.l) = some d ∧ β1 x.l = β (ρ x.l) ∧ β (ρ x.l) < W.heap.size := by
        intro x hx h
        rcases hL1' x hx with h2 | ⟨_, d, hd', ed⟩
        · omega
        · obtain ⟨c, hc⟩ := hfoot d hd'
          rw [ed] at hc
          obtain ⟨_, _, hcell⟩ := hm.cell _ c hc
          exact ⟨c, hc, hm1.old x.l h, block_lt hcell⟩
      by_cases hb0 : b1.l < n0
      · obtain ⟨d, k1, k2, k3⟩ := hold b1 hb1 hb0
        rw [rho_lt hb0] at ho ⊢
        by_cases hc0 : c1.l < n0
        · obtain ⟨d', q1, q2, _⟩ := hold c1 hc1 hc0
          rw [rho_lt hc0]
          exact hm.inj _ _ _ _ k1 q1 ho (by rw [← k2, ← q2, e])
        · have q := hm1.inj _ _ _ _ hf2 hf1 (by
            show own n0 mc c1.l = true
            unfold own
            rw [Nat.ble_eq_true_of_le (show n0 ≤ c1.l by omega)]) e.symm
          omega
      · rw [hm1.inj _ _ _ _ hf1 hf2 (by
          show own n0 mc b1.l = true
          unfold own
          rw [Nat.ble_eq_true_of_le (show n0 ≤ b1.l by omega)]) e]
  · intro l b hb
    rcases hcase l b hb with ⟨h1, h2, _⟩ | ⟨b1, hb1, hf1, rfl, rfl⟩
    · obtain ⟨m, q1, q2⟩ := hm.cell l b h1
      exact ⟨m, q1, by rw [hg1 _ (hm.bL l b h1).1, hblk l b h1 h2, q2, denL_congr hg1 _ (hm.bL l b h1).2]⟩
    · obtain ⟨m, q1, q2⟩ := hm1.cell _ b1 hf1
      refine ⟨m, fun ho => ?_, ?_⟩
      · show okM m (renL _ b1.cs).length
        rw [renL_length]
        by_cases hb0 : b1.l < n0
        · rw [rho_lt hb0] at ho
          rcases hL1' b1 hb1 with h2 | ⟨_, d, hd', ed⟩
          · omega
          obtain ⟨c, hc⟩ := hfoot d hd'
          rw [ed] at hc
          obtain ⟨m0, p1, p2⟩ := hm.cell _ c hc
          have hk : β1 b1.l = β (ρ b1.l) := hm1.old b1.l hb0
          rw [hk] at q2
          by_cases hmod : (⟨W, fun l => β (ρ l), n0, 0, mc⟩ : G).mod (β (ρ b1.l))
          · obtain ⟨m2, hm2, _, hown2, ⟨b2, hb2, e2⟩, e3⟩ := hmods _ hmod
            obtain ⟨c2, hc2⟩ := hfoot b2 hb2
            rw [e2] at hc2
            have e5 := hm.inj _ _ _ _ hc2 hc hown2 e3.symm
            refine q1 ?_
            have h3 := List.all_eq_true.1 hi b2 hb2
            rw [e2, memN_iff.2 hm2] at h3
            simp only [Bool.not_true, Bool.false_or, List.all_eq_true] at h3
            have h4 := h3 d hd'
            rw [ed, e5, Nat.beq_refl] at h4
            have h5 : m2 = b1.l := Nat.eq_of_beq_eq_true (by simpa using h4)
            show own n0 mc b1.l = true
            unfold own
            cases Nat.ble n0 b1.l with
            | true => rfl
            | false => rw [← h5]; exact memN_iff.2 hm2
          · have h6 := hm1.up.block _ (block_lt p2) hmod
            rw [q2, p2] at h6
            simp only [Option.some.injEq, Obj.cells.injEq] at h6
            obtain ⟨h7, _, rfl⟩ := h6
            have h8 : b1.cs.length = c.cs.length := by
              have := congrArg Array.size h7
              simpa [denL_eq] using this
            rw [h8]; exact p1 ho
        · refine q1 ?_
          show own n0 mc b1.l = true
          unfold own
          rw [Nat.ble_eq_true_of_le (show n0 ≤ b1.l by omega)]
      show W'.heap[γ (rho ρ n0 n b1.l)]? = some (.cells (denL γ (renL (rho ρ n0 n) b1.cs)).toArray b1.t m)
      rw [hγ _ (hb1n b1 hf1).1, hdL _ (hb1n b1 hf1).2]
      exact q2
  · intro l b hb
    rcases hcase l b hb with ⟨h1, _⟩ | ⟨b1, hb1, hf1, rfl, rfl⟩
    · exact ⟨Nat.lt_of_lt_of_le (hm.bL l b h1).1 (by omega), bdL_mono (fun l hl => Nat.lt_of_lt_of_le hl (by omega)) _ (hm.bL l b h1).2⟩
    · exact ⟨hlt _ (hb1n b1 hf1).1, bdL_ren hlt _ (hb1n b1 hf1).2⟩
  · refine hm.up.trans hm1.up ?_
    rintro k hk hM hmod
    obtain ⟨m, hm', hlt', hown, ⟨b, hb, eb⟩, rfl⟩ := hmods k hmod
    obtain ⟨c, hc⟩ := hfoot b hb
    rw [eb] at hc
    rcases own_or hown with h | h
    · rcases hm.new _ c hc h with h2 | h2
      · omega
      · exact hM h2
    · by_cases h0 : ρ m < g.n0
      · exact hM ⟨ρ m, h, (hm.old _ h0).symm⟩
      · rcases hm.new _ c hc (by omega) with h2 | h2
        · omega
        · exact hM h2
end
end Go.Vg
