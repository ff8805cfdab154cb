/-
  This text proves what these texts prove: VgJ, VgK, VgL. Conditions: those of each theorem.
-/
import Derived.RegionTactic
import Derived.StillTailTactics
import Derived.Test.YtdhmihfefgcbeaaGreatW03
section
namespace Go.Vg
open Go.RowKit
theorem run_callFunc {P : Program} {f : FuncId} (h : Callable P f) (args : Array Value) (w : World) : (callFunc f args).run P w = .ok (.enter f args) w := by
 obtain ⟨fn, h1, h2, h3⟩ := h
 have h3' : ¬ fn.name = "runtime.NumGoroutine" := by simpa using h3
 have h2' : ¬ fn.body = none := by intro e; rw [e] at h2; cases h2
 unfold callFunc
 simp [h1, h2', h3']
def callee (F : Nat -> Option SV) (c : Call) : Option (FuncId × List SV) :=
 match c.callee with
 | .value f => match ev F f with
   | some (.fn (.func f) a b) => match evs F c.args.toList with
     | some vs => some (f, a ++ vs ++ b)
     | none => none
   | _ => none
 | _ => none
section
variable {P : Program} {T : Nat -> Option Ty} {g : G} {β : Nat -> Nat} {F : FF} {L : LL} {n : Nat} {a : Act} {W : World}
theorem callee_run {F : Nat -> Option SV} {q : Nat -> Prop} (hf : Fra g β F q a) {o : Oper} {c : Call} (ho : o.op = .call c) {f : FuncId} {args : List SV} (hc : callee F c = some (f, args)) (hcb : Callable P f) : (execOp a.eval o).run P W = .ok (.enter f (denL β args).toArray) W /\ bdL q args := by
 unfold callee at hc
 split at hc
 ·rename_i fo hfo
  split at hc
  ·rename_i f' x y hev
   cases hvs : evs F c.args.toList with
   | none => simp [hvs] at hc
   | some vs =>
     simp only [hvs, Option.some.injEq, Prod.mk.injEq] at hc
     obtain ⟨rfl, rfl⟩ := hc
     obtain ⟨e0, b0⟩ := ev_sound hf hev
     obtain ⟨e1, b1⟩ := evs_sound hf hvs
     have m1 : c.args.map a.eval = (denL β vs).toArray := by rw [<- e1, <- Array.toList_map]
     simp only [bd] at b0
     refine ⟨?_, ?_⟩
     ·unfold execOp
      have hr : (resolve a.eval c o.type).run P W = .ok { target := .fn (.func f') (denL β y).toArray, args := (denL β x).toArray ++ (denL β vs).toArray } W := by
       unfold resolve
       simp [hfo, e0, den, Deferred.ofValue, m1]
      have h2 := run_callFunc hcb ((denL β x).toArray ++ (denL β vs).toArray ++ (denL β y).toArray) W
      simp only [ho, Sem.run_bind, hr, Result.andThen_ok, invoke, h2]
      simp [denL_eq]
     ·rw [bdL_iff]
      intro v hv
      simp only [List.mem_append] at hv
      rcases hv with (hv | hv) | hv
      ·exact (bdL_iff _ _).1 b0.1 v hv
      ·exact (bdL_iff _ _).1 b1 v hv
      ·exact (bdL_iff _ _).1 b0.2 v hv
  ·cases hc
 ·cases hc
theorem Upd.trans {W0 W1 W2 : World} {M N : Nat -> Prop} (h : Upd W0 W1 M) (k : Upd W1 W2 N) (hN : ∀ k, k < W0.heap.size -> ¬ M k -> ¬ N k) : Upd W0 W2 M :=
 ⟨k.os.trans h.os, k.tape.trans h.tape, k.output.trans h.output, Nat.le_trans h.size k.size, fun i hi hM => (k.block i (Nat.lt_of_lt_of_le hi h.size) (hN i hi hM)).trans (h.block i hi hM)⟩
theorem Mem.call {L : Nat -> Option Blk} {q : Nat -> Prop} (hm : Mem g β L q W) {W' : World} {M : Nat -> Prop} (hu : Upd W W' M) (hM : ∀ k, ¬ M k) : Mem g β L q W' :=
 ⟨hm.low, hm.old, hm.new, hm.inj, fun l b hb => by
  obtain ⟨m, h1, h2⟩ := hm.cell l b hb
  exact ⟨m, h1, by rw [hu.block _ (block_lt h2) (hM _)]; exact h2⟩, hm.bL, hm.up.trans hu (fun k _ _ => hM k)⟩
def foot (ρ : Nat -> Nat) (L : Nat -> Option Blk) : LL -> Prop
 | [] => True
 | b :: Lp => L (ρ b.l) = some ⟨ρ b.l, renL ρ b.cs, b.t⟩ /\ foot ρ L Lp
theorem foot_mem {ρ : Nat -> Nat} {L : Nat -> Option Blk} {Lp : LL} (h : foot ρ L Lp) {b : Blk} (hb : b ∈ Lp) : L (ρ b.l) = some ⟨ρ b.l, renL ρ b.cs, b.t⟩ := by
 induction Lp with
 | nil => cases hb
 | cons c Lp ih =>
   rcases List.mem_cons.1 hb with rfl | hb
   ·exact h.1
   ·exact ih h.2 hb
def injB (mc : List Nat) (ρ : Nat -> Nat) (Lp : LL) : Bool := Lp.all fun b => !memN mc b.l || Lp.all fun c => !Nat.beq (ρ b.l) (ρ c.l) || Nat.beq b.l c.l
theorem injB_nil (ρ : Nat -> Nat) (Lp : LL) : injB [] ρ Lp = true := List.all_eq_true.2 fun _ _ => rfl
theorem foot_pre {L : Nat -> Option Blk} {q : Nat -> Prop} (hm : Mem g β L q W) {ρ : Nat -> Nat} {Lp : LL} {mc : List Nat} (h : foot ρ L Lp) (hi : injB mc ρ Lp = true) (ho : ∀ m ∈ mc, own g.n0 g.ms (ρ m) = true) : Pre (fun l => β (ρ l)) Lp mc W := by
 refine ⟨?_, ?_⟩
 ·intro b hb c hc hmc he
  have h1 := hm.inj _ _ _ _ (foot_mem h hb) (foot_mem h hc) (ho _ (memN_mem hmc)) he
  have h2 := List.all_eq_true.1 hi b hb
  rw [hmc] at h2
  simp only [Bool.not_true, Bool.false_or, List.all_eq_true] at h2
  have h3 := h2 c hc
  rw [h1, Nat.beq_refl] at h3
  exact Nat.eq_of_beq_eq_true h3
 ·intro b hb
  obtain ⟨m, h1, h2⟩ := hm.cell _ _ (foot_mem h hb)
  rw [denL_ren] at h2
  exact ⟨m, fun hmc => by rw [renL_length] at h1; exact h1 (ho _ (memN_mem hmc)), h2⟩
theorem call_ro {o : Oper} {c : Call} (ho : o.op = .call c) {m0 N : Nat} {ms : List Nat} (hg : GI g m0 ms N) (hd' : dstLt N o.dst = true) {f : FuncId} {us args : List SV} (hc : callee (look F) c = some (f, us)) {Lp : LL} {n0 : Nat} {R : SV -> LL -> Nat -> Prop} (hcon : Con P f args Lp n0 [] R)
 (ρ : Nat -> Nat) (hus : us = renL ρ args) (hft : foot ρ (find L) Lp) {K : FF -> LL -> Nat -> Prop} (hK : ∀ v L1 n1, R v L1 n1 -> bd (fun l => l < n0) v /\ bd (fun l => l < n) (ren ρ v) /\ K (putO F o.dst (ren ρ v)) L n) : Step g P o K F L n := by
 have hd := hg.dst hd'
 obtain ⟨hcb, hcon⟩ := hcon
 refine ⟨?_⟩
 intro a W ⟨β, hm, hf⟩ next Q hnext
 obtain ⟨r1, r2⟩ := callee_run (P := P) (W := W) hf ho hc hcb
 unfold Oper.wp
 rw [r1, Oper.upon_enter]
 have hden : denL β us = denL (fun l => β (ρ l)) args := by rw [hus, denL_ren]
 rw [hden]
 refine (hcon (fun l => β (ρ l)) W (foot_pre hm hft (injB_nil ρ Lp) (fun m h => by cases h))).mono ?_
 rintro e W' ⟨v, L1, n1, β1, hR, rfl, _, hm1⟩
 obtain ⟨b0, b1, hk⟩ := hK v L1 n1 hR
 have hv : den β1 v = den β (ren ρ v) := by
  rw [den_ren]
  exact den_congr (fun l hl => hm1.old l hl) v b0
 simp only [hv]
 exact hnext _ _ _ _ _ hk ⟨β, hm.call hm1.up (by rintro k ⟨l, hl, _⟩; cases hl), by rw [look_putO]; exact hf.put hd b1⟩
theorem call_val {o : Oper} {c : Call} (ho : o.op = .call c) {m0 N : Nat} {ms : List Nat} (hg : GI g m0 ms N) (hd' : dstLt N o.dst = true) {f : FuncId} {args : List SV} (hc : callee (look F) c = some (f, args)) {R : SV -> LL -> Nat -> Prop} (hcon : Con P f args [] 0 [] R)
 {K : FF -> LL -> Nat -> Prop} (hK : ∀ v L1 n1, R v L1 n1 -> bd (fun _ => False) v /\ K (putO F o.dst v) L n) : Step g P o K F L n := by
 have hd := hg.dst hd'
 obtain ⟨hcb, hcon⟩ := hcon
 refine ⟨?_⟩
 intro a W ⟨β, hm, hf⟩ next Q hnext
 obtain ⟨r1, r2⟩ := callee_run (P := P) (W := W) hf ho hc hcb
 unfold Oper.wp
 rw [r1, Oper.upon_enter]
 refine (hcon β W ⟨fun b h => (by cases h), fun b h => (by cases h)⟩).mono ?_
 rintro e W' ⟨v, L1, n1, β1, hR, rfl, _, hm1⟩
 obtain ⟨b0, hk⟩ := hK v L1 n1 hR
 have hv : den β1 v = den β v := den_congr (p := fun _ => False) (fun l hl => hl.elim) v b0
 simp only [hv]
 exact hnext _ _ _ _ _ hk ⟨β, hm.call hm1.up (by rintro k ⟨l, hl, _⟩; cases hl), by rw [look_putO]; exact hf.put hd (bd_mono (fun l h => h.elim) v b0)⟩
def remL (ls : List Nat) : LL -> LL
 | [] => []
 | b :: L => match memN ls b.l with
   | true => remL ls L
   | false => b :: remL ls L
theorem memN_iff {ms : List Nat} {l : Nat} : memN ms l = true ↔ l ∈ ms := by
 constructor
 ·exact memN_mem
 ·intro h
  induction ms with
  | nil => cases h
  | cons m ms ih =>
    simp only [memN]
    by_cases hm : m = l
    ·rw [if_pos hm]
    ·rw [if_neg hm]
     exact ih ((List.mem_cons.1 h).resolve_left fun e => hm e.symm)
theorem find_remL {ls : List Nat} (l : Nat) : find (remL ls L) l = if memN ls l then none else find L l := by
 induction L with
 | nil => cases memN ls l <;> rfl
 | cons c L ih =>
   simp only [remL]
   cases hc : memN ls c.l with
   | true =>
     simp only [ih, find]
     by_cases hl : c.l = l
     ·subst hl; simp [hc]
     ·rw [if_neg hl]
   | false =>
     simp only [find, ih]
     by_cases hl : c.l = l
     ·subst hl; simp [hc]
     ·rw [if_neg hl, if_neg hl]
def rho (ρ : Nat -> Nat) (n0 n : Nat) (l : Nat) : Nat :=
 match Nat.blt l n0 with
 | true => ρ l
 | false => n + (l - n0)
theorem rho_lt {ρ : Nat -> Nat} {n0 n l : Nat} (h : l < n0) : rho ρ n0 n l = ρ l := by
 unfold rho
 rw [show Nat.blt l n0 = true from Nat.ble_eq_true_of_le h]
theorem rho_ge {ρ : Nat -> Nat} {n0 n l : Nat} (h : n0 <= l) : rho ρ n0 n l = n + (l - n0) := by
 unfold rho
 cases hb : Nat.blt l n0 with
 | false => rfl
 | true => have := Nat.le_of_ble_eq_true hb; omega
def oldL (n0 : Nat) : LL -> List Nat
 | [] => []
 | b :: L => match Nat.blt b.l n0 with
   | true => b.l :: oldL n0 L
   | false => oldL n0 L
theorem mem_oldL {n0 l : Nat} (hl : l < n0) (h : ∃ b ∈ L, b.l = l) : l ∈ oldL n0 L := by
 induction L with
 | nil => obtain ⟨b, hb, _⟩ := h; cases hb
 | cons c L ih =>
   obtain ⟨b, hb, e⟩ := h
   simp only [oldL]
   rcases List.mem_cons.1 hb with rfl | hb
   ·rw [show Nat.blt b.l n0 = true from Nat.ble_eq_true_of_le (e ▸ hl)]
    rw [e]; exact List.mem_cons_self
   ·cases Nat.blt c.l n0 with
    | true => exact List.mem_cons_of_mem _ (ih ⟨b, hb, e⟩)
    | false => exact ih ⟨b, hb, e⟩
def renB (ρ : Nat -> Nat) : LL -> LL
 | [] => []
 | b :: L => ⟨ρ b.l, renL ρ b.cs, b.t⟩ :: renB ρ L
theorem find_renB {ρ : Nat -> Nat} {l : Nat} {c : Blk} (h : find (renB ρ L) l = some c) : ∃ b ∈ L, find L b.l = some b /\ ρ b.l = l /\ c = ⟨ρ b.l, renL ρ b.cs, b.t⟩ := by
 induction L with
 | nil => cases h
 | cons b L ih =>
   simp only [renB, find] at h
   by_cases hb : ρ b.l = l
   ·rw [if_pos hb] at h
    exact ⟨b, List.mem_cons_self, by simp [find], hb, (Option.some.inj h).symm⟩
   ·rw [if_neg hb] at h
    obtain ⟨d, hd, h1, h2, h3⟩ := ih h
    refine ⟨d, List.mem_cons_of_mem _ hd, ?_, h2, h3⟩
    simp only [find]
    rw [if_neg (fun e => hb (by rw [e, h2]))]
    exact h1
mutual
theorem bd_ren {ρ : Nat -> Nat} {n m : Nat -> Prop} (h : ∀ l, n l -> m (ρ l)) : ∀ v, bd n v -> bd m (ren ρ v)
 | .bool _, _ | .int _ _, _ | .str _, _ | .nilp, _ | .nils, _ | .nilfn, _ | .raw _, _ => by simp [bd, ren]
 | .ptr _ _, hv | .ptrS _ _, hv | .slice _ _ _ _, hv => h _ (by simpa [bd] using hv)
 | .fn _ x y, hv => by
   simp only [bd] at hv
   exact ⟨bdL_ren h x hv.1, bdL_ren h y hv.2⟩
 | .agg cs, hv => by simp only [bd] at hv; exact bdL_ren h cs hv
 | .tup vs, hv => by simp only [bd] at hv; exact bdL_ren h vs hv
theorem bdL_ren {ρ : Nat -> Nat} {n m : Nat -> Prop} (h : ∀ l, n l -> m (ρ l)) : ∀ l, bdL n l -> bdL m (renL ρ l)
 | [], _ => trivial
 | v :: vs, hl => by
   simp only [bdL] at hl
   exact ⟨bd_ren h v hl.1, bdL_ren h vs hl.2⟩
end
theorem call_gen {o : Oper} {c : Call} (ho : o.op = .call c) {m0 N : Nat} {ms : List Nat} (hg : GI g m0 ms N) (hd' : dstLt N o.dst = true) {f : FuncId} {us args : List SV} (hc : callee (look F) c = some (f, us)) {Lp : LL} {n0 : Nat} {mc : List Nat} {R : SV -> LL -> Nat -> Prop} (hcon : Con P f args Lp n0 mc R)
 (ρ : Nat -> Nat) (hus : us = renL ρ args) (hft : foot ρ (find L) Lp) (hi : injB mc ρ Lp = true) (hρ : below (fun l => Nat.blt (ρ l) n) n0 = true)
 (hmc : mc.all (fun m => own m0 ms (ρ m) && memN (Lp.map Blk.l) m && Nat.blt m n0) = true) {K : FF -> LL -> Nat -> Prop}
 (hK : ∀ v L1 n1, R v L1 n1 -> n0 <= n1 -> L1.all (fun b => Nat.ble n0 b.l || memN (Lp.map Blk.l) b.l) = true /\
  K (putO F o.dst (ren (rho ρ n0 n) v)) (remL (mc.map ρ ++ (oldL n0 L1).map ρ) L ++ renB (rho ρ n0 n) L1) (n + (n1 - n0))) : Step g P o K F L n := by
 have hd := hg.dst hd'
 rw [<- hg.n0, <- hg.ms] at hmc
 obtain ⟨hcb, hcon⟩ := hcon
 refine ⟨?_⟩
 intro a W ⟨β, hm, hf⟩ next Q hnext
 obtain ⟨r1, r2⟩ := callee_run (P := P) (W := W) hf ho hc hcb
 unfold Oper.wp
 rw [r1, Oper.upon_enter]
 have hden : denL β us = denL (fun l => β (ρ l)) args := by rw [hus, denL_ren]
 rw [hden]
 refine (hcon (fun l => β (ρ l)) W (foot_pre hm hft hi (fun m h => by
  have := (List.all_eq_true.1 hmc) m h
  simp only [Bool.and_eq_true] at this
  exact this.1.1))).mono ?_
 rintro e W' ⟨v, L1, n1, β1, hR, rfl, hbv, hm1⟩
 have hn01 : n0 <= n1 := Nat.le_of_not_lt fun h => Nat.lt_irrefl n1 (hm1.low n1 h)
 obtain ⟨hL1, hk⟩ := hK v L1 n1 hR hn01
 have hgn : g.n0 <= n := Nat.le_of_not_lt fun h => Nat.lt_irrefl n (hm.low n h)
 obtain ⟨γ, hg1, hg2⟩ : ∃ γ : Nat -> Nat, (∀ l, l < n -> γ l = β l) /\ ∀ l, n <= l -> γ l = β1 (n0 + (l - n)) := ⟨fun l => if l < n then β l else β1 (n0 + (l - n)), fun l hl => if_pos hl, fun l hl => if_neg (by omega)⟩
 have hρ' : ∀ l, l < n0 -> ρ l < n := fun l hl => Nat.le_of_ble_eq_true (below_at (f := fun l => Nat.blt (ρ l) n) hρ hl)
 have hγ : ∀ l, l < n1 -> γ (rho ρ n0 n l) = β1 l := by
  intro l _
  by_cases h : l < n0
  ·rw [rho_lt h, hg1 _ (hρ' l h)]; exact (hm1.old l h).symm
  ·rw [rho_ge (by omega), hg2 _ (by omega)]; congr 1; omega
 have hlt : ∀ l, l < n1 -> rho ρ n0 n l < n + (n1 - n0) := by
  intro l hl
  by_cases h : l < n0
  ·rw [rho_lt h]; have := hρ' l h; omega
  ·rw [rho_ge (by omega)]; omega
 have hdv : ∀ u, bd (fun l => l < n1) u -> den γ (ren (rho ρ n0 n) u) = den β1 u := by
  intro u hu
  rw [den_ren]; exact den_congr hγ u hu
 have hdL : ∀ us, bdL (fun l => l < n1) us -> denL γ (renL (rho ρ n0 n) us) = denL β1 us := by
  intro us hu
  rw [denL_ren]; exact denL_congr hγ us hu
 have hmods : ∀ k, (∃ l ∈ mc, β (ρ l) = k) -> ∃ m ∈ mc, m < n0 /\ own g.n0 g.ms (ρ m) = true /\ (∃ b ∈ Lp, b.l = m) /\ k = β (ρ m) := by
  rintro k ⟨m, hm', rfl⟩
  have := (List.all_eq_true.1 hmc) m hm'
  simp only [Bool.and_eq_true] at this
  obtain ⟨b, hb, e⟩ := List.mem_map.1 (memN_mem this.1.2)
  exact ⟨m, hm', Nat.le_of_ble_eq_true this.2, this.1.1, ⟨b, hb, e⟩, rfl⟩
 have hfoot : ∀ b ∈ Lp, ∃ c, find L (ρ b.l) = some c := fun b hb => ⟨_, foot_mem hft hb⟩
 have hblk : ∀ l b, find L l = some b -> l ∉ (mc.map ρ) -> W'.heap[β l]? = W.heap[β l]? := by
  intro l b hb hnm
  obtain ⟨_, _, hcell⟩ := hm.cell l b hb
  refine hm1.up.block _ (block_lt hcell) ?_
  rintro ⟨m, hm', e⟩
  obtain ⟨m2, hm2, _, hown2, ⟨b2, hb2, e2⟩, e3⟩ := hmods _ ⟨m, hm', rfl⟩
  have e' : β (ρ m) = β l := e
  obtain ⟨c, hc⟩ := hfoot b2 hb2
  have e5 := hm.inj _ _ _ _ hc hb (by rw [e2]; exact hown2) (by rw [e2, <- e3, e'])
  exact hnm (List.mem_map.2 ⟨m2, hm2, by rw [<- e5, e2]⟩)
 have hL1' : ∀ b ∈ L1, n0 <= b.l \/ (b.l < n0 /\ ∃ d ∈ Lp, d.l = b.l) := by
  intro b hb
  have := (List.all_eq_true.1 hL1) b hb
  simp only [Bool.or_eq_true] at this
  by_cases h : n0 <= b.l
  ·exact Or.inl h
  ·rcases this with h2 | h2
   ·exact (h (Nat.le_of_ble_eq_true h2)).elim
   ·obtain ⟨d, hd', e⟩ := List.mem_map.1 (memN_mem h2)
    exact Or.inr ⟨by omega, d, hd', e⟩
 have hcase : ∀ l b, find (remL (mc.map ρ ++ (oldL n0 L1).map ρ) L ++ renB (rho ρ n0 n) L1) l = some b ->
  (find L l = some b /\ l ∉ mc.map ρ /\ l ∉ (oldL n0 L1).map ρ) \/ (∃ b1 ∈ L1, find L1 b1.l = some b1 /\ l = rho ρ n0 n b1.l /\ b = ⟨rho ρ n0 n b1.l, renL (rho ρ n0 n) b1.cs, b1.t⟩) := by
  intro l b h
  rw [find_append, find_remL] at h
  cases hmem : memN (mc.map ρ ++ (oldL n0 L1).map ρ) l with
  | true =>
    simp only [hmem, if_true] at h
    obtain ⟨b1, h1, h2, h3, h4⟩ := find_renB h
    exact Or.inr ⟨b1, h1, h2, h3.symm, h4⟩
  | false =>
    have hn : l ∉ mc.map ρ ++ (oldL n0 L1).map ρ := fun h => by rw [memN_iff.2 h] at hmem; cases hmem
    simp only [hmem, Bool.false_eq_true, if_false] at h
    cases hq : find L l with
    | some c =>
      simp only [hq] at h
      exact Or.inl ⟨h, fun h => hn (List.mem_append.2 (Or.inl h)), fun h => hn (List.mem_append.2 (Or.inr h))⟩
    | none =>
      simp only [hq] at h
      obtain ⟨b1, h1, h2, h3, h4⟩ := find_renB h
      exact Or.inr ⟨b1, h1, h2, h3.symm, h4⟩
 have hb1n : ∀ b1, find L1 b1.l = some b1 -> b1.l < n1 /\ bdL (fun l => l < n1) b1.cs := fun b1 h => hm1.bL _ b1 h
 have hdis : ∀ l b b1, find L l = some b -> l ∉ mc.map ρ -> l ∉ (oldL n0 L1).map ρ -> b1 ∈ L1 -> find L1 b1.l = some b1 -> (own g.n0 g.ms l = true \/ own g.n0 g.ms (ρ b1.l) = true) -> β l ≠ β1 b1.l := by
  intro l b b1 hb hnm hno hb1 hf1 ho e
  rcases hL1' b1 hb1 with h | ⟨h, d, hd', ed⟩
  ·obtain ⟨_, _, hcell⟩ := hm.cell l b hb
   have k2 := block_lt hcell
   rcases hm1.new b1.l b1 hf1 h with k1 | k1
   ·have k3 : W.heap.size <= β1 b1.l := k1
    omega
   ·obtain ⟨m2, hm2, _, hown2, ⟨b2, hb2, e2⟩, e3⟩ := hmods _ k1
    obtain ⟨c, hc⟩ := hfoot b2 hb2
    have e5 := hm.inj _ _ _ _ hc hb (by rw [e2]; exact hown2) (by rw [e2, <- e3, e])
    exact hnm (List.mem_map.2 ⟨m2, hm2, by rw [<- e5, e2]⟩)
  ·have k1 : β1 b1.l = β (ρ b1.l) := hm1.old b1.l h
   obtain ⟨c, hc⟩ := hfoot d hd'
   have k2 : l = ρ d.l := by
    rcases ho with ho | ho
    ·exact hm.inj _ _ _ _ hb hc ho (by rw [e, k1, ed])
    ·exact (hm.inj _ _ _ _ hc hb (by rw [ed]; exact ho) (by rw [e, k1, ed])).symm
   exact hno (List.mem_map.2 ⟨b1.l, mem_oldL h ⟨b1, hb1, rfl⟩, by rw [k2, ed]⟩)
 simp only [<- hdv v hbv]
 refine hnext _ _ _ _ _ hk ⟨γ, ⟨fun l hl => Nat.lt_of_lt_of_le hl (by omega), ?_, ?_, ?_, ?_, ?_, ?_⟩, by rw [look_putO]; exact (hf.mono hg1 (fun l hl => Nat.lt_of_lt_of_le hl (by omega))).put hd (bd_ren hlt v hbv)⟩
 ·intro l hl
  rw [hg1 l (by omega)]; exact hm.old l hl
 ·intro l b hb hl
  rcases hcase l b hb with ⟨h1, _⟩ | ⟨b1, hb1, hf1, rfl, rfl⟩
  ·rw [hg1 _ (hm.bL l b h1).1]; exact hm.new l b h1 hl
  ·rw [hγ _ (hb1n b1 hf1).1]
   rcases hL1' b1 hb1 with h | ⟨h, d, hd', e⟩
   ·have h2 := hm.up.size
    rcases hm1.new b1.l b1 hf1 h with h1 | h1
    ·exact Or.inl (Nat.le_trans h2 h1)
    ·obtain ⟨m2, hm2, _, hown2, ⟨b2, hb2, e2⟩, e3⟩ := hmods _ h1
     obtain ⟨c, hc⟩ := hfoot b2 hb2
     rw [e2] at hc
     rw [e3]
     rcases own_or hown2 with h | h
     ·exact hm.new _ c hc h
     ·by_cases h0 : ρ m2 < g.n0
      ·exact Or.inr ⟨ρ m2, h, (hm.old _ h0).symm⟩
      ·exact hm.new _ c hc (by omega)
   ·rw [rho_lt h] at hl
    obtain ⟨c, hc⟩ := hfoot d hd'
    have h1 := hm.new _ c hc (by rw [e]; exact hl)
    have h2 : β1 b1.l = β (ρ b1.l) := hm1.old b1.l h
    rw [h2, <- e]; exact h1
 ·intro l b l' b' hb hb' ho e
  rcases hcase l b hb with ⟨h1, h1m, h1'⟩ | ⟨b1, hb1, hf1, rfl, rfl⟩ <;> rcases hcase l' b' hb' with ⟨k1, k1m, k1'⟩ | ⟨c1, hc1, hf2, rfl, rfl⟩
  ·rw [hg1 _ (hm.bL l b h1).1, hg1 _ (hm.bL l' b' k1).1] at e
   exact hm.inj l b l' b' h1 k1 ho e
  ·rw [hg1 _ (hm.bL l b h1).1, hγ _ (hb1n c1 hf2).1] at e
   exact (hdis l b c1 h1 h1m h1' hc1 hf2 (Or.inl ho) e).elim
  ·rw [hg1 _ (hm.bL l' b' k1).1, hγ _ (hb1n b1 hf1).1] at e
   by_cases hb0 : b1.l < n0
   ·rw [rho_lt hb0] at ho
    exact (hdis l' b' b1 k1 k1m k1' hb1 hf1 (Or.inr ho) e.symm).elim
   ·obtain ⟨_, _, hcell⟩ := hm.cell l' b' k1
    have k2 := block_lt hcell
    rcases hm1.new b1.l b1 hf1 (by show n0 <= _; omega) with k3 | k3
    ·have k4 : W.heap.size <= β1 b1.l := k3
     omega
    ·obtain ⟨m2, hm2, _, hown2, ⟨b2, hb2, e2⟩, e3⟩ := hmods _ k3
     obtain ⟨c, hc⟩ := hfoot b2 hb2
     have e5 := hm.inj _ _ _ _ hc k1 (by rw [e2]; exact hown2) (by rw [e2, <- e3, e])
     exact (k1m (List.mem_map.2 ⟨m2, hm2, by rw [<- e5, e2]⟩)).elim
  ·rw [hγ _ (hb1n b1 hf1).1, hγ _ (hb1n c1 hf2).1] at e
   have hold : ∀ x ∈ L1, x.l < n0 -> ∃ d, find L (ρ x.l) = some d /\ β1 x.l = β (ρ x.l) /\ β (ρ x.l) < W.heap.size := by
    intro x hx h
    rcases hL1' x hx with h2 | ⟨_, d, hd', ed⟩
    ·omega
    ·obtain ⟨c, hc⟩ := hfoot d hd'
     rw [ed] at hc
     obtain ⟨_, _, hcell⟩ := hm.cell _ c hc
     exact ⟨c, hc, hm1.old x.l h, block_lt hcell⟩
   by_cases hb0 : b1.l < n0
   ·obtain ⟨d, k1, k2, k3⟩ := hold b1 hb1 hb0
    rw [rho_lt hb0] at ho ⊢
    by_cases hc0 : c1.l < n0
    ·obtain ⟨d', q1, q2, _⟩ := hold c1 hc1 hc0
     rw [rho_lt hc0]
     exact hm.inj _ _ _ _ k1 q1 ho (by rw [<- k2, <- q2, e])
    ·have q := hm1.inj _ _ _ _ hf2 hf1 (by
      show own n0 mc c1.l = true
      unfold own
      rw [Nat.ble_eq_true_of_le (show n0 <= c1.l by omega)]) e.symm
     omega
   ·rw [hm1.inj _ _ _ _ hf1 hf2 (by
     show own n0 mc b1.l = true
     unfold own
     rw [Nat.ble_eq_true_of_le (show n0 <= b1.l by omega)]) e]
 ·intro l b hb
  rcases hcase l b hb with ⟨h1, h2, _⟩ | ⟨b1, hb1, hf1, rfl, rfl⟩
  ·obtain ⟨m, q1, q2⟩ := hm.cell l b h1
   exact ⟨m, q1, by rw [hg1 _ (hm.bL l b h1).1, hblk l b h1 h2, q2, denL_congr hg1 _ (hm.bL l b h1).2]⟩
  ·obtain ⟨m, q1, q2⟩ := hm1.cell _ b1 hf1
   refine ⟨m, fun ho => ?_, ?_⟩
   ·show okM m (renL _ b1.cs).length
    rw [renL_length]
    by_cases hb0 : b1.l < n0
    ·rw [rho_lt hb0] at ho
     rcases hL1' b1 hb1 with h2 | ⟨_, d, hd', ed⟩
     ·omega
     obtain ⟨c, hc⟩ := hfoot d hd'
     rw [ed] at hc
     obtain ⟨m0, p1, p2⟩ := hm.cell _ c hc
     have hk : β1 b1.l = β (ρ b1.l) := hm1.old b1.l hb0
     rw [hk] at q2
     by_cases hmod : (⟨W, fun l => β (ρ l), n0, 0, mc⟩ : G).mod (β (ρ b1.l))
     ·obtain ⟨m2, hm2, _, hown2, ⟨b2, hb2, e2⟩, e3⟩ := hmods _ hmod
      obtain ⟨c2, hc2⟩ := hfoot b2 hb2
      rw [e2] at hc2
      have e5 := hm.inj _ _ _ _ hc2 hc hown2 e3.symm
      refine q1 ?_
      have h3 := List.all_eq_true.1 hi b2 hb2
      rw [e2, memN_iff.2 hm2] at h3
      simp only [Bool.not_true, Bool.false_or, List.all_eq_true] at h3
      have h4 := h3 d hd'
      rw [ed, e5, Nat.beq_refl] at h4
      have h5 : m2 = b1.l := Nat.eq_of_beq_eq_true (by simpa using h4)
      show own n0 mc b1.l = true
      unfold own
      cases Nat.ble n0 b1.l with
      | true => rfl
      | false => rw [<- h5]; exact memN_iff.2 hm2
     ·have h6 := hm1.up.block _ (block_lt p2) hmod
      rw [q2, p2] at h6
      simp only [Option.some.injEq, Obj.cells.injEq] at h6
      obtain ⟨h7, _, rfl⟩ := h6
      have h8 : b1.cs.length = c.cs.length := by
       have := congrArg Array.size h7
       simpa [denL_eq] using this
      rw [h8]; exact p1 ho
    ·refine q1 ?_
     show own n0 mc b1.l = true
     unfold own
     rw [Nat.ble_eq_true_of_le (show n0 <= b1.l by omega)]
   show W'.heap[γ (rho ρ n0 n b1.l)]? = some (.cells (denL γ (renL (rho ρ n0 n) b1.cs)).toArray b1.t m)
   rw [hγ _ (hb1n b1 hf1).1, hdL _ (hb1n b1 hf1).2]
   exact q2
 ·intro l b hb
  rcases hcase l b hb with ⟨h1, _⟩ | ⟨b1, hb1, hf1, rfl, rfl⟩
  ·exact ⟨Nat.lt_of_lt_of_le (hm.bL l b h1).1 (by omega), bdL_mono (fun l hl => Nat.lt_of_lt_of_le hl (by omega)) _ (hm.bL l b h1).2⟩
  ·exact ⟨hlt _ (hb1n b1 hf1).1, bdL_ren hlt _ (hb1n b1 hf1).2⟩
 ·refine hm.up.trans hm1.up ?_
  rintro k hk hM hmod
  obtain ⟨m, hm', hlt', hown, ⟨b, hb, eb⟩, rfl⟩ := hmods k hmod
  obtain ⟨c, hc⟩ := hfoot b hb
  rw [eb] at hc
  rcases own_or hown with h | h
  ·rcases hm.new _ c hc h with h2 | h2
   ·omega
   ·exact hM h2
  ·by_cases h0 : ρ m < g.n0
   ·exact hM ⟨ρ m, h, (hm.old _ h0).symm⟩
   ·rcases hm.new _ c hc (by omega) with h2 | h2
    ·omega
    ·exact hM h2
end
end Go.Vg
end
section
namespace Go.Vg
open Go.RowKit
structure E where
 d : Option Nat
 v : SV
 nw : LL
 w : Option (Nat × Nat × List SV)
def fo {α : Type} (f : E -> α -> α) (D : Nat -> Bool) : Nat -> List E -> α -> α
 | _, [], x => x
 | k, e :: es, x => fo f D (k + 1) es (if D k then f e x else x)
theorem fo_congr {α : Type} {f : E -> α -> α} {D D' : Nat -> Bool} : ∀ {es : List E} {s : Nat} {x : α}, (∀ k, s <= k -> D k = D' k) -> fo f D s es x = fo f D' s es x
 | [], _, _, _ => rfl
 | e :: es, s, x, h => by
   simp only [fo]
   rw [h s (Nat.le_refl _)]
   exact fo_congr fun k hk => h k (by omega)
theorem fo_congr2 {α : Type} {f : E -> α -> α} {D D' : Nat -> Bool} : ∀ {es : List E} {s : Nat} {x : α}, (∀ k e, es[k]? = some e -> D (s + k) = D' (s + k)) -> fo f D s es x = fo f D' s es x
 | [], _, _, _ => rfl
 | e :: es, s, x, h => by
   simp only [fo]
   have h0 := h 0 e rfl
   simp only [Nat.add_zero] at h0
   rw [h0]
   exact fo_congr2 fun k e' hk => by rw [show s + 1 + k = s + (k + 1) by omega]; exact h (k + 1) e' (by simpa using hk)
theorem fo_comm {α : Type} {f : E -> α -> α} {D : Nat -> Bool} {e0 : E} : ∀ {es : List E} {s : Nat} {x : α}, (∀ k e, es[k]? = some e -> D (s + k) = true -> ∀ y, f e (f e0 y) = f e0 (f e y)) -> fo f D s es (f e0 x) = f e0 (fo f D s es x)
 | [], _, _, _ => rfl
 | e :: es, s, x, h => by
   simp only [fo]
   have h0 := h 0 e rfl
   have hr : ∀ k e', es[k]? = some e' -> D (s + 1 + k) = true -> ∀ y, f e' (f e0 y) = f e0 (f e' y) := fun k e' hk hD => h (k + 1) e' (by simpa using hk) (by rw [<- hD]; congr 1; omega)
   by_cases hD : D s = true
   ·rw [if_pos hD, if_pos hD, h0 (by simpa using hD), fo_comm hr]
   ·rw [if_neg hD, if_neg hD, fo_comm hr]
def add (D : Nat -> Bool) (i : Nat) : Nat -> Bool := fun k => if k = i then true else D k
theorem fo_insert {α : Type} {f : E -> α -> α} {D : Nat -> Bool} {i : Nat} {e0 : E} (hD : D i = false) : ∀ {es : List E} {s : Nat} {x : α}, s <= i -> es[i - s]? = some e0 ->
 (∀ k e, i < k -> es[k - s]? = some e -> D k = true -> ∀ y, f e (f e0 y) = f e0 (f e y)) -> fo f (add D i) s es x = f e0 (fo f D s es x)
 | [], _, _, _, h, _ => by simp at h
 | e :: es, s, x, hs, h, hc => by
   simp only [fo]
   by_cases hsi : s = i
   ·subst hsi
    have he : e = e0 := by simpa using h
    subst he
    rw [show add D s s = true from if_pos rfl, if_pos rfl, hD, if_neg (by simp)]
    rw [fo_congr (D := add D s) (D' := D) fun k hk => if_neg (by omega)]
    exact fo_comm fun k e' hk hDk => hc (s + 1 + k) e' (by omega) (by rw [show s + 1 + k - s = k + 1 by omega]; simpa using hk) hDk
   ·rw [show add D i s = D s from if_neg hsi]
    exact fo_insert hD (by omega) (by rw [show i - (s + 1) = i - s - 1 by omega]; rw [show i - s = (i - s - 1) + 1 by omega] at h; simpa using h)
     (fun k e' hk hk2 hDk => hc k e' hk (by rw [show k - s = (k - (s + 1)) + 1 by omega]; simpa using hk2) hDk)
/-! slots -/
def ft (t : Nat) (e : E) (x : Option SV) : Option SV := if e.d = some t then some e.v else x
theorem ft_none {D : Nat -> Bool} {t : Nat} : ∀ {es : List E} {s : Nat} {x : Option SV}, (∀ k e, es[k]? = some e -> D (s + k) = true -> e.d ≠ some t) -> fo (ft t) D s es x = x
 | [], _, _, _ => rfl
 | e :: es, s, x, h => by
   simp only [fo]
   have hx : (if D s = true then ft t e x else x) = x := by
    by_cases hD : D s = true
    ·rw [if_pos hD]; exact if_neg (h 0 e rfl hD)
    ·rw [if_neg hD]
   rw [hx]
   exact ft_none fun k e' hk hDk => h (k + 1) e' (by simpa using hk) (by rw [<- hDk]; congr 1; omega)
theorem ft_some {D : Nat -> Bool} {t : Nat} {e0 : E} : ∀ {es : List E} {s k : Nat} {x : Option SV}, es[k]? = some e0 -> D (s + k) = true -> e0.d = some t -> (∀ j e, es[j]? = some e -> j ≠ k -> e.d ≠ some t) -> fo (ft t) D s es x = some e0.v
 | [], _, _, _, h, _, _, _ => by simp at h
 | e :: es, s, k, x, h, hD, hd, hu => by
   simp only [fo]
   cases k with
   | zero =>
     have he : e = e0 := by simpa using h
     subst he
     rw [if_pos (by simpa using hD)]
     rw [show ft t e x = some e.v from if_pos hd]
     exact ft_none fun j e' hj _ => hu (j + 1) e' (by simpa using hj) (by omega)
   | succ k =>
     exact ft_some (k := k) (by simpa using h) (by rw [<- hD]; congr 1; omega) hd fun j e' hj hjk => hu (j + 1) e' (by simpa using hj) (by omega)
/-! blocks -/
def gl (l : Nat) (e : E) (x : Option Blk) : Option Blk :=
 match e.w with
 | some (k, q, vs) => if l = k then x.map fun b => ⟨b.l, splice b.cs q vs, b.t⟩ else x
 | none => match x with
   | some b => some b
   | none => find e.nw l
def pl (l : Nat) (e : E) (x : Prop) : Prop := x \/ ∃ b ∈ e.nw, b.l = l
def aF (e : E) (F : Nat -> Option SV) : Nat -> Option SV := fun t => ft t e (F t)
def aL (e : E) (L : Nat -> Option Blk) : Nat -> Option Blk := fun l => gl l e (L l)
def aP (e : E) (p : Nat -> Prop) : Nat -> Prop := fun l => pl l e (p l)
def FD (es : List E) (D : Nat -> Bool) (F : Nat -> Option SV) : Nat -> Option SV := fun t => fo (ft t) D 0 es (F t)
def LD (es : List E) (D : Nat -> Bool) (L : Nat -> Option Blk) : Nat -> Option Blk := fun l => fo (gl l) D 0 es (L l)
def PD (es : List E) (D : Nat -> Bool) (p : Nat -> Prop) : Nat -> Prop := fun l => fo (pl l) D 0 es (p l)
theorem PD_iff {D : Nat -> Bool} {l : Nat} : ∀ {es : List E} {s : Nat} {x : Prop}, fo (pl l) D s es x ↔ x \/ ∃ k e, es[k]? = some e /\ D (s + k) = true /\ ∃ b ∈ e.nw, b.l = l
 | [], _, _ => by simp [fo]
 | e :: es, s, x => by
   simp only [fo]
   rw [PD_iff]
   constructor
   ·rintro (h | ⟨k, e', h1, h2, h3⟩)
    ·by_cases hD : D s = true
     ·rw [if_pos hD] at h
      rcases h with h | h
      ·exact Or.inl h
      ·exact Or.inr ⟨0, e, rfl, hD, h⟩
     ·rw [if_neg hD] at h; exact Or.inl h
    ·exact Or.inr ⟨k + 1, e', by simpa using h1, by rw [<- h2]; congr 1; omega, h3⟩
   ·rintro (h | ⟨k, e', h1, h2, h3⟩)
    ·left
     by_cases hD : D s = true
     ·rw [if_pos hD]; exact Or.inl h
     ·rw [if_neg hD]; exact h
    ·cases k with
     | zero =>
       have he : e = e' := by simpa using h1
       subst he
       left
       rw [if_pos (by simpa using h2)]
       exact Or.inr h3
     | succ k => exact Or.inr ⟨k, e', by simpa using h1, by rw [<- h2]; congr 1; omega, h3⟩
theorem find_some_label {L : LL} {l : Nat} {b : Blk} (h : find L l = some b) : ∃ c ∈ L, c.l = l := ⟨b, (find_mem h).1, (find_mem h).2⟩
theorem gl_mono {l : Nat} {D' D : Nat -> Bool} (nn : Nat -> Nat) : ∀ {es : List E} {s : Nat} {x' x : Option Blk}, (∀ k e, es[k]? = some e -> (∀ b ∈ e.nw, nn (s + k) <= b.l /\ b.l < nn (s + k + 1)) /\ nn (s + k) <= nn (s + k + 1)) ->
 (∀ k e, es[k]? = some e -> D' (s + k) = true -> D (s + k) = true) -> (∀ k e, es[k]? = some e -> D (s + k) = true -> D' (s + k) = false -> ∀ l' q vs, e.w = some (l', q, vs) -> l' ≠ l) -> (x' = none \/ x' = x) -> (∀ b, x = some b -> l < nn s) ->
 ∀ b, fo (gl l) D' s es x' = some b -> fo (gl l) D s es x = some b
 | [], _, x', x, _, _, _, hx, _, b, h => by
   simp only [fo] at h ⊢
   rcases hx with rfl | rfl
   ·cases h
   ·exact h
 | e :: es, s, x', x, hl, hs, hw, hx, hb, b, h => by
   simp only [fo] at h ⊢
   have shift : ∀ k, s + 1 + k = s + (k + 1) := fun k => by omega
   have hl0 := hl 0 e rfl
   refine gl_mono nn (es := es) (s := s + 1) (fun k e' hk => by rw [shift, show s + (k + 1) + 1 = s + (k + 1) + 1 from rfl]; exact hl (k + 1) e' (by simpa using hk)) (fun k e' hk hd => by rw [shift] at hd ⊢; exact hs (k + 1) e' (by simpa using hk) hd)
    (fun k e' hk hd hd' => by rw [shift] at hd hd'; exact hw (k + 1) e' (by simpa using hk) hd hd') ?_ ?_ b h
   ·have hs0 := hs 0 e rfl
    have hw0 := hw 0 e rfl
    simp only [Nat.add_zero] at hs0 hw0 hl0
    by_cases hd' : D' s = true
    ·rw [if_pos hd', if_pos (hs0 hd')]
     unfold gl
     cases hew : e.w with
     | some q =>
       obtain ⟨k, q, vs⟩ := q
       simp only
       by_cases hlk : l = k
       ·rw [if_pos hlk, if_pos hlk]
        rcases hx with rfl | rfl
        ·left; rfl
        ·right; rfl
       ·rw [if_neg hlk, if_neg hlk]; exact hx
     | none =>
       simp only
       rcases hx with rfl | rfl
       ·cases x with
        | none => right; rfl
        | some c =>
          have := hb c rfl
          cases hf : find e.nw l with
          | none => left; rfl
          | some c' =>
            obtain ⟨d, hd, e1⟩ := find_some_label hf
            have := (hl0.1 d hd).1
            omega
       ·right; rfl
    ·rw [if_neg hd']
     by_cases hd : D s = true
     ·rw [if_pos hd]
      have hew := hw0 hd (by simpa using hd')
      unfold gl
      cases hqw : e.w with
      | some q =>
        obtain ⟨k, q, vs⟩ := q
        simp only
        rw [if_neg (fun h => hew k q vs hqw h.symm)]
        exact hx
      | none =>
        simp only
        rcases hx with rfl | rfl
        ·left; rfl
        ·cases x' with
         | none => left; rfl
         | some c => right; rfl
     ·rw [if_neg hd]; exact hx
   ·intro c hc
    simp only [Nat.add_zero] at hl0
    by_cases hd : D s = true
    ·rw [if_pos hd] at hc
     unfold gl at hc
     cases hew : e.w with
     | some q =>
       obtain ⟨k, q, vs⟩ := q
       rw [hew] at hc
       simp only at hc
       have : ∃ d, x = some d := by
        by_cases hlk : l = k
        ·rw [if_pos hlk] at hc
         obtain ⟨d, hd, _⟩ := Option.map_eq_some_iff.1 hc
         exact ⟨d, hd⟩
        ·rw [if_neg hlk] at hc; exact ⟨c, hc⟩
       obtain ⟨d, hd⟩ := this
       have := hb d hd
       omega
     | none =>
       rw [hew] at hc
       cases x with
       | some d => have := hb d rfl; omega
       | none =>
         simp only at hc
         obtain ⟨d, hd, e1⟩ := find_some_label hc
         have := (hl0.1 d hd).2
         omega
    ·rw [if_neg hd] at hc
     have := hb c hc
     omega
end Go.Vg
end
section
namespace Go.Vg
open Go.RowKit
structure Fits (P : Program) (g : G) (ops : Array Oper) (es : List E) (F0 : Nat -> Option SV) (L0 : Nat -> Option Blk) (n : Nat) (lk : Nat -> List Nat) (mem : Nat -> Nat -> Bool) (bef : Nat -> Nat -> Bool) (nn : Nat -> Nat) (un : Nat -> Prop) : Prop where
 len : es.length <= ops.size
 clos : ∀ (i : Nat) (o : Oper) (k : Nat), ops[i]? = some o -> bef i k = true -> ∃ e ∈ o.after, Region.binds .any e = true /\ (e.on = k \/ bef e.on k = true)
 back : ∀ (i : Nat) (o : Oper) (e : Edge), ops[i]? = some o -> e ∈ o.after -> Region.binds .any e = true -> e.on < i
 dst : ∀ (i k : Nat) (e e' : E) (t : Nat), es[i]? = some e -> es[k]? = some e' -> i ≠ k -> e.d = some t -> e'.d ≠ some t
 look : ∀ (i k : Nat) (e : E) (t : Nat), i < ops.size -> es[k]? = some e -> i ≠ k -> e.d = some t -> t ∈ lk i -> (k < i /\ bef i k = true) \/ (i < k /\ bef k i = true)
 ord : ∀ (i k : Nat) (e : E) (l q : Nat) (vs : List SV), mem i l = true -> i < ops.size -> es[k]? = some e -> e.w = some (l, q, vs) -> i ≠ k -> (k < i /\ bef i k = true) \/ (i < k /\ bef k i = true)
 memw : ∀ (i : Nat) (e : E) (l q : Nat) (vs : List SV), es[i]? = some e -> e.w = some (l, q, vs) -> mem i l = true
 lab : ∀ (k : Nat) (e : E), es[k]? = some e -> (∀ b ∈ e.nw, nn k <= b.l /\ b.l < nn (k + 1)) /\ nn k <= nn (k + 1)
 nn0 : nn 0 = n
 tgt : ∀ (i : Nat) (e : E) (k q : Nat) (vs : List SV), es[i]? = some e -> e.w = some (k, q, vs) -> ∃ b, LD es (fun j => bef i j) L0 k = some b
 old : ∀ (l : Nat) (b : Blk), L0 l = some b -> l < n
 ex : ∀ (i : Nat) (e : E), un i -> es[i]? = some e -> ∀ (β : Nat -> Nat) (p : Nat -> Prop) (F' : Nat -> Option SV) (L' : Nat -> Option Blk) (a : Act) (W : World), (∀ t ∈ lk i, F' t = FD es (fun k => decide (k < i)) F0 t) -> (∀ l b, mem i l = true -> LD es (fun k => bef i k) L0 l = some b -> L' l = some b) -> (∀ b ∈ e.nw, ¬ p b.l) -> (∀ l, l < n -> p l) ->
  Mem g β L' p W -> Fra g β F' p a -> ∀ (K : Act -> World -> Prop) (Q : Exit -> Act -> World -> Prop), (∀ γ a' W', Mem g γ (aL e L') (aP e p) W' -> Fra g γ (aF e F') (aP e p) a' -> K a' W') -> wpOp P ops Q i K a W
section
variable {P : Program} {g : G} {ops : Array Oper} {es : List E} {F0 : Nat -> Option SV} {L0 : Nat -> Option Blk} {n : Nat} {lk : Nat -> List Nat} {mem : Nat -> Nat -> Bool} {bef : Nat -> Nat -> Bool} {nn : Nat -> Nat} {un : Nat -> Prop}
theorem nn_mono (h : Fits P g ops es F0 L0 n lk mem bef nn un) {i k : Nat} (hik : i <= k) (hk : k <= es.length) : nn i <= nn k := by
 induction k with
 | zero => rw [show i = 0 by omega]; exact Nat.le_refl _
 | succ k ih =>
   by_cases e : i = k + 1
   ·rw [e]; exact Nat.le_refl _
   ·have h1 := ih (by omega) (by omega)
    have h2 := (h.lab k (es[k]'(by omega)) (List.getElem?_eq_getElem (by omega))).2
    omega
theorem lab_at (h : Fits P g ops es F0 L0 n lk mem bef nn un) {i : Nat} {e : E} (he : es[i]? = some e) {b : Blk} (hb : b ∈ e.nw) : n <= b.l /\ nn i <= b.l /\ b.l < nn (i + 1) := by
 have h1 := (h.lab i e he).1 b hb
 have hi : i < es.length := (List.getElem?_eq_some_iff.1 he).1
 have h2 := nn_mono h (Nat.zero_le i) (by omega)
 rw [h.nn0] at h2
 omega
theorem lab_ne (h : Fits P g ops es F0 L0 n lk mem bef nn un) {i k : Nat} {e e' : E} (he : es[i]? = some e) (he' : es[k]? = some e') (hik : i ≠ k) {b b' : Blk} (hb : b ∈ e.nw) (hb' : b' ∈ e'.nw) : b.l ≠ b'.l := by
 have h1 := lab_at h he hb
 have h2 := lab_at h he' hb'
 have hi : i < es.length := (List.getElem?_eq_some_iff.1 he).1
 have hk : k < es.length := (List.getElem?_eq_some_iff.1 he').1
 rcases Nat.lt_or_ge i k with hlt | hge
 ·have := nn_mono h (show i + 1 <= k from hlt) (by omega); omega
 ·have := nn_mono h (show k + 1 <= i by omega) (by omega); omega
def Closed (ops : Array Oper) (D : Nat -> Bool) : Prop := ∀ i o, D i = true -> ops[i]? = some o -> ∀ e ∈ o.after, Region.binds .any e = true -> D e.on = true
theorem closed_bef (h : Fits P g ops es F0 L0 n lk mem bef nn un) {D : Nat -> Bool} (hD : Closed ops D) (hb : ∀ i, D i = true -> i < ops.size) {k : Nat} : ∀ {i : Nat}, D i = true -> bef i k = true -> D k = true := by
 intro i
 induction i using Nat.strongRecOn with
 | _ i ih =>
   intro hi hbef
   obtain ⟨o, ho⟩ : ∃ o, ops[i]? = some o := ⟨ops[i]'(hb i hi), Array.getElem?_eq_getElem (hb i hi)⟩
   obtain ⟨e, he, hbi, hor⟩ := h.clos i o k ho hbef
   have h1 := hD i o hi ho e he hbi
   rcases hor with rfl | h2
   ·exact h1
   ·exact ih e.on (h.back i o e ho he hbi) h1 h2
theorem ready_bef (h : Fits P g ops es F0 L0 n lk mem bef nn un) {D : Nat -> Bool} (hD : Closed ops D) (hb : ∀ i, D i = true -> i < ops.size) {i : Nat} {o : Oper} (ho : ops[i]? = some o) (hall : ∀ e ∈ o.after, Region.binds .any e = true -> D e.on = true) {k : Nat} (hk : bef i k = true) : D k = true := by
 obtain ⟨e, he, hbi, hor⟩ := h.clos i o k ho hk
 have h1 := hall e he hbi
 rcases hor with rfl | h2
 ·exact h1
 ·exact closed_bef h hD hb h1 h2
theorem FD_at {D : Nat -> Bool} {t : Nat} (h : Fits P g ops es F0 L0 n lk mem bef nn un) : (∃ k e, es[k]? = some e /\ D k = true /\ e.d = some t /\ FD es D F0 t = some e.v) \/ ((∀ k e, es[k]? = some e -> D k = true -> e.d ≠ some t) /\ FD es D F0 t = F0 t) := by
 by_cases hex : ∃ k e, es[k]? = some e /\ D k = true /\ e.d = some t
 ·obtain ⟨k, e, h1, h2, h3⟩ := hex
  exact Or.inl ⟨k, e, h1, h2, h3, ft_some h1 (by simpa using h2) h3 fun j e' hj hjk => h.dst k j e e' t h1 hj (Ne.symm hjk) h3⟩
 ·have hn : ∀ k e, es[k]? = some e -> D k = true -> e.d ≠ some t := fun k e h1 h2 h3 => hex ⟨k, e, h1, h2, h3⟩
  exact Or.inr ⟨hn, ft_none fun k e h1 h2 => hn k e h1 (by simpa using h2)⟩
theorem look_agree (h : Fits P g ops es F0 L0 n lk mem bef nn un) {D : Nat -> Bool} (hD : Closed ops D) (hb : ∀ i, D i = true -> i < ops.size) {i : Nat} {o : Oper} (ho : ops[i]? = some o) (hall : ∀ e ∈ o.after, Region.binds .any e = true -> D e.on = true) (hi : D i = false) {t : Nat} (ht : t ∈ lk i) :
 FD es D F0 t = FD es (fun k => decide (k < i)) F0 t := by
 have hil : i < ops.size := (Array.getElem?_eq_some_iff.1 ho).1
 have key : ∀ k e, es[k]? = some e -> e.d = some t -> k ≠ i -> (D k = true ↔ k < i) := by
  intro k e hk hd hki
  rcases h.look i k e t hil hk (Ne.symm hki) hd ht with ⟨h1, h2⟩ | ⟨h1, h2⟩
  ·exact ⟨fun _ => h1, fun _ => ready_bef h hD hb ho hall h2⟩
  ·refine ⟨fun h3 => ?_, fun h3 => by omega⟩
   have := closed_bef h hD hb h3 h2
   rw [hi] at this; cases this
 rcases FD_at (D := D) (t := t) h with ⟨k, e, h1, h2, h3, h4⟩ | ⟨h1, h2⟩
 ·have hki : k ≠ i := fun e => by rw [e, hi] at h2; cases h2
  rcases FD_at (D := fun k => decide (k < i)) (t := t) h with ⟨k', e', k1, k2, k3, k4⟩ | ⟨k1, _⟩
  ·have : k = k' := by
    refine Classical.byContradiction fun hne => h.dst k k' e e' t h1 k1 hne h3 k3
   subst this
   rw [h1] at k1
   obtain rfl := Option.some.inj k1
   rw [h4, k4]
  ·exact (k1 k e h1 (by simpa using (key k e h1 h3 hki).1 h2) h3).elim
 ·rcases FD_at (D := fun k => decide (k < i)) (t := t) h with ⟨k', e', k1, k2, k3, k4⟩ | ⟨_, k2⟩
  ·have hlt : k' < i := by simpa using k2
   exact (h1 k' e' k1 ((key k' e' k1 k3 (by omega)).2 hlt) k3).elim
  ·rw [h2, k2]
theorem mem_agree (h : Fits P g ops es F0 L0 n lk mem bef nn un) {D : Nat -> Bool} (hD : Closed ops D) (hb : ∀ i, D i = true -> i < ops.size) {i : Nat} {o : Oper} (ho : ops[i]? = some o) (hall : ∀ e ∈ o.after, Region.binds .any e = true -> D e.on = true) (hi : D i = false)
 {l : Nat} {b : Blk} (hm : mem i l = true) (hl : LD es (fun k => bef i k) L0 l = some b) : LD es D L0 l = some b := by
 have hil : i < ops.size := (Array.getElem?_eq_some_iff.1 ho).1
 refine gl_mono nn (fun k e hk => by simpa using h.lab k e hk) (fun k e hk hd => ?_) (fun k e hk hd hn => ?_) (Or.inr rfl) (fun b hb => by rw [h.nn0]; exact h.old l b hb) b hl
 ·simp only [Nat.zero_add] at hd ⊢
  exact ready_bef h hD hb ho hall hd
 ·simp only [Nat.zero_add] at hd hn
  rintro l' q vs hw rfl
  have hki : i ≠ k := fun e => by rw [<- e, hi] at hd; cases hd
  rcases h.ord i k e l' q vs hm hil hk hw hki with ⟨_, h2⟩ | ⟨_, h2⟩
  ·rw [hn] at h2; cases h2
  ·have := closed_bef h hD hb hd h2
   rw [hi] at this; cases this
theorem FD_add (h : Fits P g ops es F0 L0 n lk mem bef nn un) {D : Nat -> Bool} {i : Nat} {e : E} (he : es[i]? = some e) (hi : D i = false) : FD es (add D i) F0 = aF e (FD es D F0) := by
 funext t
 refine fo_insert hi (Nat.zero_le i) (by simpa using he) ?_
 intro k e' hik hk _ y
 simp only [Nat.sub_zero] at hk
 unfold ft
 by_cases h1 : e.d = some t
 ·have := h.dst i k e e' t he hk (by omega) h1
  rw [if_neg this, if_neg this]
 ·rw [if_neg h1, if_neg h1]
theorem PD_add {D : Nat -> Bool} {p : Nat -> Prop} {i : Nat} {e : E} (he : es[i]? = some e) (hi : D i = false) : PD es (add D i) p = aP e (PD es D p) := by
 funext l
 refine fo_insert hi (Nat.zero_le i) (by simpa using he) ?_
 intro k e' hik hk _ y
 simp only [pl]
 exact propext ⟨fun h => by rcases h with (h | h) | h <;> simp [h], fun h => by rcases h with (h | h) | h <;> simp [h]⟩
theorem LD_label (h : Fits P g ops es F0 L0 n lk mem bef nn un) {D : Nat -> Bool} {l : Nat} {b : Blk} (hl : LD es D L0 l = some b) : l < n \/ ∃ k e, es[k]? = some e /\ D k = true /\ ∃ c ∈ e.nw, c.l = l := by
 have key : ∀ (es : List E) (s : Nat) (x : Option Blk), (∃ b, fo (gl l) D s es x = some b) -> (∃ b, x = some b) \/ ∃ k e, es[k]? = some e /\ D (s + k) = true /\ ∃ c ∈ e.nw, c.l = l := by
  intro es
  induction es with
  | nil => intro s x hx; exact Or.inl hx
  | cons e es ih =>
    intro s x hx
    simp only [fo] at hx
    rcases ih _ _ hx with ⟨b, hb⟩ | ⟨k, e', h1, h2, h3⟩
    ·by_cases hD : D s = true
     ·rw [if_pos hD] at hb
      unfold gl at hb
      cases hw : e.w with
      | some q =>
        obtain ⟨k, q, vs⟩ := q
        rw [hw] at hb
        simp only at hb
        left
        by_cases hlk : l = k
        ·rw [if_pos hlk] at hb
         obtain ⟨d, hd, _⟩ := Option.map_eq_some_iff.1 hb
         exact ⟨d, hd⟩
        ·rw [if_neg hlk] at hb; exact ⟨b, hb⟩
      | none =>
        rw [hw] at hb
        cases x with
        | some c => exact Or.inl ⟨c, rfl⟩
        | none =>
          simp only at hb
          exact Or.inr ⟨0, e, rfl, hD, find_some_label hb⟩
     ·rw [if_neg hD] at hb; exact Or.inl ⟨b, hb⟩
    ·exact Or.inr ⟨k + 1, e', by simpa using h1, by rw [<- h2]; congr 1; omega, h3⟩
 rcases key es 0 (L0 l) ⟨b, hl⟩ with ⟨b, hb⟩ | ⟨k, e, h1, h2, h3⟩
 ·exact Or.inl (h.old l b hb)
 ·exact Or.inr ⟨k, e, h1, by simpa using h2, h3⟩
theorem LD_add (h : Fits P g ops es F0 L0 n lk mem bef nn un) {D : Nat -> Bool} (hD : Closed ops D) (hb : ∀ i, D i = true -> i < ops.size) {i : Nat} {e : E} (he : es[i]? = some e) (hi : D i = false) : LD es (add D i) L0 = aL e (LD es D L0) := by
 funext l
 refine fo_insert hi (Nat.zero_le i) (by simpa using he) ?_
 intro k e' hik hk hDk y
 simp only [Nat.sub_zero] at hk
 have hil : i < es.length := (List.getElem?_eq_some_iff.1 he).1
 have nob : bef k i = true -> False := fun hb' => by
  have := closed_bef h hD hb hDk hb'
  rw [hi] at this; cases this
 -- one of the two leaves the label alone
 have hid : (∀ y, gl l e y = y) \/ (∀ y, gl l e' y = y) := by
  cases hw : e.w with
  | some q =>
    obtain ⟨m, q, vs⟩ := q
    by_cases hlm : l = m
    ·right
     intro y
     cases hw' : e'.w with
     | some q' =>
       obtain ⟨m', q', vs'⟩ := q'
       by_cases hmm : m' = m
       ·rcases h.ord i k e' m q' vs' (h.memw i e m q vs he hw) (Nat.lt_of_lt_of_le hil h.len) hk (by rw [hw', hmm]) (by omega) with ⟨h1, _⟩ | ⟨_, h2⟩
        ·omega
        ·exact (nob h2).elim
       ·unfold gl
        rw [hw']
        exact if_neg (by rw [hlm]; exact fun e => hmm e.symm)
     | none =>
       unfold gl
       rw [hw']
       cases y with
       | some c => rfl
       | none =>
         simp only
         cases hf : find e'.nw l with
         | none => rfl
         | some c =>
           exfalso
           obtain ⟨d, hd, e1⟩ := find_some_label hf
           have h1 := lab_at h hk hd
           obtain ⟨b, hb'⟩ := h.tgt i e m q vs he hw
           rw [<- hlm] at hb'
           have hnk := nn_mono h (show i + 1 <= k by omega) (Nat.le_of_lt (List.getElem?_eq_some_iff.1 hk).1)
           rcases LD_label h hb' with h2 | ⟨j, ej, h2, h3, c', hc', e2⟩
           ·omega
           ·have hj := lab_at h h2 hc'
            by_cases hjk : j = k
            ·subst hjk
             have h3' : bef i j = true := h3
             have : ∃ o, ops[i]? = some o := ⟨ops[i]'(Nat.lt_of_lt_of_le hil h.len), Array.getElem?_eq_getElem (Nat.lt_of_lt_of_le hil h.len)⟩
             -- what i waits for lies before i
             have hbk : ∀ i, bef i j = true -> i < ops.size -> j < i := by
              intro i
              induction i using Nat.strongRecOn with
              | _ i ih =>
                intro hbi hlt
                obtain ⟨ee, he1, he2, hor⟩ := h.clos i (ops[i]'hlt) j (Array.getElem?_eq_getElem hlt) hbi
                have hlt2 := h.back i _ ee (Array.getElem?_eq_getElem hlt) he1 he2
                rcases hor with h5 | h5
                ·omega
                ·have := ih ee.on hlt2 h5 (by omega)
                 omega
             have := hbk i h3' (Nat.lt_of_lt_of_le hil h.len)
             omega
            ·exact lab_ne h h2 hk hjk hc' hd (by rw [e1, e2])
    ·left
     intro y
     unfold gl
     rw [hw]
     simp only
     rw [if_neg hlm]
  | none =>
    cases hf : find e.nw l with
    | none =>
      left
      intro y
      unfold gl
      rw [hw]
      cases y with
      | some c => rfl
      | none => exact hf
    | some c =>
      right
      obtain ⟨d, hd, e1⟩ := find_some_label hf
      intro y
      cases hw' : e'.w with
      | some q' =>
        obtain ⟨m, q, vs⟩ := q'
        unfold gl
        rw [hw']
        simp only
        refine if_neg fun hlm => ?_
        obtain ⟨b, hb'⟩ := h.tgt k e' m q vs hk hw'
        rw [<- hlm] at hb'
        have h1 := lab_at h he hd
        rcases LD_label h hb' with h2 | ⟨j, ej, h2, h3, c', hc', e2⟩
        ·omega
        ·by_cases hji : j = i
         ·subst hji; exact nob h3
         ·exact lab_ne h h2 he hji hc' hd (by rw [e1, e2])
      | none =>
        unfold gl
        rw [hw']
        cases y with
        | some c => rfl
        | none =>
          simp only
          cases hf' : find e'.nw l with
          | none => rfl
          | some c' =>
            obtain ⟨d', hd', e2⟩ := find_some_label hf'
            exact (lab_ne h he hk (by omega) hd hd' (by rw [e1, e2])).elim
 rcases hid with h1 | h1
 ·rw [h1, h1]
 ·rw [h1, h1]
theorem fits_step (h : Fits P g ops es F0 L0 n lk mem bef nn un) {D : Nat -> Bool} (hcl : Closed ops D) (hin : ∀ i, D i = true -> i < ops.size) {i : Nat} {o : Oper} (ho : ops[i]? = some o) (hall : ∀ e ∈ o.after, Region.binds .any e = true -> D e.on = true) (hDi : D i = false) (hil : i < es.length) (hu : un i)
 {a : Act} {W : World} {β : Nat -> Nat} (hm : Mem g β (LD es D L0) (PD es D (fun l => l < n)) W) (hf : Fra g β (FD es D F0) (PD es D (fun l => l < n)) a) {K : Act -> World -> Prop} {Q : Exit -> Act -> World -> Prop}
 (hK : ∀ γ a' W', Mem g γ (LD es (add D i) L0) (PD es (add D i) (fun l => l < n)) W' -> Fra g γ (FD es (add D i) F0) (PD es (add D i) (fun l => l < n)) a' -> K a' W') : wpOp P ops Q i K a W := by
 have he : es[i]? = some (es[i]'hil) := List.getElem?_eq_getElem _
 refine h.ex i _ hu he β _ _ _ a W (fun t ht => look_agree h hcl hin ho hall hDi ht) (fun l b hmm hl => mem_agree h hcl hin ho hall hDi hmm hl) ?_ (fun l hl => PD_iff.2 (Or.inl hl)) hm hf _ Q ?_
 ·intro b hb hp
  rcases PD_iff.1 hp with hp | ⟨k, e', h1, h2, c, hc', h3⟩
  ·have := (lab_at h he hb).1; omega
  ·simp only [Nat.zero_add] at h2
   have hki : i ≠ k := fun e => by rw [<- e, hDi] at h2; cases h2
   exact lab_ne h he h1 hki hb hc' h3.symm
 ·intro γ a' W' hm' hf'
  refine hK γ a' W' ?_ ?_
  ·rw [LD_add h hcl hin he hDi, PD_add he hDi]; exact hm'
  ·rw [FD_add h he hDi, PD_add he hDi]; exact hf'
theorem set_add {ls : Array Bool} {s i : Nat} (hs : ls.size = s) (hi : i < s) : (fun k => (ls.setIfInBounds i true).getD k false) = add (fun k => ls.getD k false) i := by
 funext k
 simp only [add]
 by_cases hk : k = i
 ·subst hk
  rw [if_pos rfl, Array.getD_eq_getD_getElem?]
  simp [show k < ls.size by omega]
 ·rw [if_neg hk, getD_set_ne false (Ne.symm hk)]
theorem set_count {ls : Array Bool} {s i fuel : Nat} (hs : ls.size = s) (hi : i < s) (hDi : ls.getD i false = false) (hc : ls.toList.count false = fuel + 1) : (ls.setIfInBounds i true).toList.count false = fuel := by
 have h1 : ls.toList[i]? = some false := by
  rw [Array.getElem?_toList, Array.getElem?_eq_getElem (show i < ls.size by omega)]
  rw [Array.getD_eq_getD_getElem?, Array.getElem?_eq_getElem (show i < ls.size by omega)] at hDi
  simpa using hDi
 have h2 : i < ls.toList.length := (List.getElem?_eq_some_iff.1 h1).1
 have h3 : ls.toList[i] = false := (List.getElem?_eq_some_iff.1 h1).2
 rw [Array.toList_setIfInBounds, List.count_set h2, h3, hc]
 simp
theorem closed_add {D : Nat -> Bool} (hcl : Closed ops D) {i : Nat} {o : Oper} (ho : ops[i]? = some o) (hall : ∀ e ∈ o.after, Region.binds .any e = true -> D e.on = true) : Closed ops (add D i) := by
 intro k o' hk ho' e' he' hb'
 simp only [add] at hk ⊢
 by_cases hke : e'.on = i
 ·rw [if_pos hke]
 ·rw [if_neg hke]
  by_cases hki : k = i
  ·subst hki
   rw [ho] at ho'
   obtain rfl := Option.some.inj ho'
   exact hall e' he' hb'
  ·rw [if_neg hki] at hk
   exact hcl k o' hk ho' e' he' hb'
theorem listed_lt {ls : Array Bool} {s : Nat} (hs : ls.size = s) : ∀ i, ls.getD i false = true -> i < s := by
 intro i hi
 refine Nat.lt_of_not_le fun hge => ?_
 rw [Array.getD_eq_getD_getElem?, Array.getElem?_eq_none (by omega)] at hi
 cases hi
theorem all_listed {ls : Array Bool} {s : Nat} (hs : ls.size = s) (hc : ls.toList.count false = 0) : ∀ i, i < s -> ls.getD i false = true := by
 intro i hi
 have h0 := List.count_eq_zero.1 hc
 have : ls[i]? = some ls[i] := Array.getElem?_eq_getElem (by omega)
 rw [Array.getD_eq_getD_getElem?, this]
 simp only [Option.getD_some]
 refine Classical.byContradiction fun hne => h0 ?_
 have h1 : ls[i] = false := by simpa using hne
 rw [<- h1]
 exact Array.getElem_mem_toList _
theorem none_ready {ls : Array Bool} (hs : ls.size = ops.size) (hall : ∀ i, i < ops.size -> ls.getD i false = true) : Region.ready .any ops ls = [] := by
 refine List.eq_nil_iff_forall_not_mem.2 fun i hi => ?_
 obtain ⟨h1, o, ho, _⟩ := mem_ready.1 hi
 have h2 := hall i (Array.getElem?_eq_some_iff.1 ho).1
 rw [Array.getD_eq_getD_getElem?] at h1 h2
 have h3 : i < ls.size := by rw [hs]; exact (Array.getElem?_eq_some_iff.1 ho).1
 rw [Array.getElem?_eq_getElem h3] at h1 h2
 simp only [Option.getD_some] at h1 h2
 rw [h1] at h2; cases h2
theorem some_ready {ls : Array Bool} (hs : ls.size = ops.size) (hback : ∀ (i : Nat) (o : Oper) (e : Edge), ops[i]? = some o -> e ∈ o.after -> Region.binds .any e = true -> e.on < i) {fuel : Nat} (hc : ls.toList.count false = fuel + 1) : Region.ready .any ops ls ≠ [] := by
 intro hr
 have hex : ∃ i, i < ops.size /\ ls.getD i false = false := by
  have hpos : 0 < ls.toList.count false := by omega
  obtain ⟨i, hi, he⟩ := List.getElem_of_mem (List.count_pos_iff.1 hpos)
  refine ⟨i, by rw [<- hs]; simpa using hi, ?_⟩
  rw [Array.getD_eq_getD_getElem?, Array.getElem?_eq_getElem (by simpa using hi)]
  simpa using he
 have none : ∀ i, i < ops.size -> ls.getD i false = false -> False := by
  intro i
  induction i using Nat.strongRecOn with
  | _ i ihi =>
    intro hi hf
    have ho := Array.getElem?_eq_getElem hi
    by_cases hd : ∀ e ∈ (ops[i]'hi).after, Region.binds .any e = true -> ls.getD e.on false = true
    ·have : i ∈ Region.ready .any ops ls := mem_ready.2 ⟨by
      rw [Array.getD_eq_getD_getElem?] at hf ⊢
      rw [Array.getElem?_eq_getElem (show i < ls.size by omega)] at hf ⊢
      exact hf, _, ho, hd⟩
     rw [hr] at this
     cases this
    ·simp only [Classical.not_forall] at hd
     obtain ⟨e, he, hb, hne⟩ := hd
     have hlt := hback i _ e ho he hb
     exact ihi e.on hlt (by omega) (by simpa using hne)
 obtain ⟨i, hi, hfa⟩ := hex
 exact none i hi hfa
theorem unlisted {ls : Array Bool} (hs : ls.size = ops.size) {i : Nat} (hi : i ∈ Region.ready .any ops ls) : ls.getD i false = false /\ ∃ o, ops[i]? = some o /\ ∀ e ∈ o.after, Region.binds .any e = true -> ls.getD e.on false = true := by
 obtain ⟨hun, o, ho, hall⟩ := mem_ready.1 hi
 have hio : i < ops.size := (Array.getElem?_eq_some_iff.1 ho).1
 refine ⟨?_, o, ho, hall⟩
 rw [Array.getD_eq_getD_getElem?] at hun ⊢
 rw [Array.getElem?_eq_getElem (show i < ls.size by omega)] at hun ⊢
 exact hun
theorem mono_D {D D' : Nat -> Bool} (hd : ∀ k, k < es.length -> D k = D' k) : FD es D F0 = FD es D' F0 /\ LD es D L0 = LD es D' L0 /\ PD es D (fun l => l < n) = PD es D' (fun l => l < n) := by
 have hd' : ∀ k e, es[k]? = some e -> D (0 + k) = D' (0 + k) := fun k e hk => by rw [Nat.zero_add]; exact hd k (List.getElem?_eq_some_iff.1 hk).1
 exact ⟨funext fun t => fo_congr2 hd', funext fun l => fo_congr2 hd', funext fun l => fo_congr2 hd'⟩
end
end Go.Vg
end
