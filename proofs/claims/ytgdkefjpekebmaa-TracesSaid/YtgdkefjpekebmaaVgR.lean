/-
  This text proves how calls of a drawn region are met by contracts, and how a contract is said anew. No condition.
-/
import Derived.Test.YtgdkefjpekebmaaVgQ
namespace Go.Vg
open Go.RowKit
theorem callee_congr {F F' : Nat → Option SV} {o : Oper} {c : Call} (ho : o.op = .call c) (h : ∀ t ∈ tmpsL o.op.operands.toList, F' t = F t) : callee F' c = callee F c := by
  rw [ho] at h
  have E : ∀ x ∈ (Op.call c).operands.toList, ev F' x = ev F x := fun x hx => ev_congr fun t ht => h t (tmpsL_mem hx ht)
  unfold callee
  split
  · rename_i f hf
    have h1 : ev F' f = ev F f := E f (by simp [Op.operands, Call.operands, hf])
    have h2 : evs F' c.args.toList = evs F c.args.toList := evs_congr fun x hx => E x (by
      simp only [Op.operands, Call.operands, Array.toList_append, List.mem_append]
      exact Or.inr hx)
    rw [h1, h2]
  · rfl
theorem foot_mono {ρ : Nat → Nat} {M L : Nat → Option Blk} (h : ∀ l b, M l = some b → L l = some b) : ∀ {Lp : LL}, foot ρ M Lp → foot ρ L Lp
  | [], _ => trivial
  | _ :: _, hf => ⟨h _ _ hf.1, foot_mono h hf.2⟩
section
variable {P : Program} {g : G}
/-- a call of a drawn region that writes nothing and makes nothing that its result leads to -/
theorem en_ro {o : Oper} {c : Call} (ho : o.op = .call c) {m0 N : Nat} {ms : List Nat} (hg : GI g m0 ms N) (hd' : dstLt N o.dst = true) {F : Nat → Option SV} {f : FuncId} {us args : List SV} (hc : callee F c = some (f, us)) {Lp : LL} {n0 : Nat} {R : SV → LL → Nat → Prop} (hcon : Con P f args Lp n0 [] R)
    (ρ : Nat → Nat) (hus : us = renL ρ args) {M : Nat → Option Blk} (hft : foot ρ M Lp) (hcov : below (fun l => memN (Lp.map Blk.l) l) n0 = true) {val : SV} (hv : ∀ v L1 n1, R v L1 n1 → v = val) (hb0 : bd (fun l => l < n0) val) : EN g P o F M (ren ρ val) [] := by
  have hd := hg.dst hd'
  obtain ⟨hcb, hcon⟩ := hcon
  refine EN.of_step fun β p F' L' a W hF hM hm hf next Q hnext => ?_
  obtain ⟨r1, r2⟩ := callee_run (P := P) (W := W) hf ho ((callee_congr ho hF).trans hc) hcb
  unfold Oper.wp
  rw [r1, Oper.upon_enter]
  have hden : denL β us = denL (fun l => β (ρ l)) args := by rw [hus, denL_ren]
  have hft' := foot_mono hM hft
  rw [hden]
  refine (hcon (fun l => β (ρ l)) W (foot_pre hm hft' (injB_nil ρ Lp) (fun m h => by cases h))).mono ?_
  rintro e W' ⟨v, L1, n1, β1, hR, rfl, _, hm1⟩
  obtain rfl := hv v L1 n1 hR
  have hpv : bd p (ren ρ v) := bd_ren (fun l hl => by
    have := below_at (f := fun l => memN (Lp.map Blk.l) l) hcov hl
    obtain ⟨b, hb, rfl⟩ := List.mem_map.1 (memN_mem this)
    exact (hm.bL _ _ (foot_mem hft' hb)).1) v hb0
  have hvd : den β1 v = den β (ren ρ v) := by
    rw [den_ren]
    exact den_congr (fun l hl => hm1.old l hl) v hb0
  simp only [hvd]
  exact hnext _ _ (hm.call hm1.up (by rintro k ⟨l, hl, _⟩; cases hl)) (hf.put hd hpv)
/-- the same where the arguments are plain data -/
theorem en_val {o : Oper} {c : Call} (ho : o.op = .call c) {m0 N : Nat} {ms : List Nat} (hg : GI g m0 ms N) (hd' : dstLt N o.dst = true) {F : Nat → Option SV} {f : FuncId} {args : List SV} (hc : callee F c = some (f, args)) {R : SV → LL → Nat → Prop} (hcon : Con P f args [] 0 [] R)
    {M : Nat → Option Blk} {val : SV} (hv : ∀ v L1 n1, R v L1 n1 → v = val) (hb0 : bd (fun _ => False) val) : EN g P o F M val [] := by
  have hd := hg.dst hd'
  obtain ⟨hcb, hcon⟩ := hcon
  refine EN.of_step fun β p F' L' a W hF hM hm hf next Q hnext => ?_
  obtain ⟨r1, r2⟩ := callee_run (P := P) (W := W) hf ho ((callee_congr ho hF).trans hc) hcb
  unfold Oper.wp
  rw [r1, Oper.upon_enter]
  refine (hcon β W ⟨fun b h => (by cases h), fun b h => (by cases h)⟩).mono ?_
  rintro e W' ⟨v, L1, n1, β1, hR, rfl, _, hm1⟩
  obtain rfl := hv v L1 n1 hR
  have hvd : den β1 v = den β v := den_congr (p := fun _ => False) (fun l hl => hl.elim) v hb0
  simp only [hvd]
  exact hnext _ _ (hm.call hm1.up (by rintro k ⟨l, hl, _⟩; cases hl)) (hf.put hd (bd_mono (fun l h => h.elim) v hb0))
/-- a call of a drawn region whose result is plain data -/
theorem en_roc {o : Oper} {c : Call} (ho : o.op = .call c) {m0 N : Nat} {ms : List Nat} (hg : GI g m0 ms N) (hd' : dstLt N o.dst = true) {F : Nat → Option SV} {f : FuncId} {us args : List SV} (hc : callee F c = some (f, us)) {Lp : LL} {n0 : Nat} {R : SV → LL → Nat → Prop} (hcon : Con P f args Lp n0 [] R)
    (ρ : Nat → Nat) (hus : us = renL ρ args) {M : Nat → Option Blk} (hft : foot ρ M Lp) {val : SV} (hv : ∀ v L1 n1, R v L1 n1 → v = val) (hb0 : bd (fun _ => False) val) : EN g P o F M val [] := by
  have hd := hg.dst hd'
  obtain ⟨hcb, hcon⟩ := hcon
  refine EN.of_step fun β p F' L' a W hF hM hm hf next Q hnext => ?_
  obtain ⟨r1, r2⟩ := callee_run (P := P) (W := W) hf ho ((callee_congr ho hF).trans hc) hcb
  unfold Oper.wp
  rw [r1, Oper.upon_enter]
  have hden : denL β us = denL (fun l => β (ρ l)) args := by rw [hus, denL_ren]
  have hft' := foot_mono hM hft
  rw [hden]
  refine (hcon (fun l => β (ρ l)) W (foot_pre hm hft' (injB_nil ρ Lp) (fun m h => by cases h))).mono ?_
  rintro e W' ⟨v, L1, n1, β1, hR, rfl, _, hm1⟩
  obtain rfl := hv v L1 n1 hR
  have hvd : den β1 v = den β v := den_congr (p := fun _ => False) (fun l hl => hl.elim) v hb0
  simp only [hvd]
  exact hnext _ _ (hm.call hm1.up (by rintro k ⟨l, hl, _⟩; cases hl)) (hf.put hd (bd_mono (fun l h => h.elim) v hb0))
/-- an operation's step in a drawn region, by its outcome -/
theorem stepD {o : Oper} {F : FF} {M : LL} {n : Nat} {K : SV → LL → Nat → Prop} {v : SV} (h : EN g P o (look F) (selM o (find M)) v []) (hk : K v [] n) : StepD g P o F M n K :=
  ⟨v, [], n, h, Nat.le_refl n, fun b hb => (by cases hb), List.nodup_nil, hk⟩
/-- what a contract says may be said under other labels, or less of it -/
theorem Con.weak {f : FuncId} {args : List SV} {Lp : LL} {n0 : Nat} {ms : List Nat} {R R' : SV → LL → Nat → Prop} (h : Con P f args Lp n0 ms R) (hw : ∀ v L n, R v L n → ∃ (ρ : Nat → Nat) (v' : SV) (L' : LL) (n' : Nat), Weak n0 ρ [(0, v')] L' n' [(0, v)] L n ∧ R' v' L' n') : Con P f args Lp n0 ms R' := by
  refine ⟨h.1, fun β0 W0 hpre => (h.2 β0 W0 hpre).mono ?_⟩
  rintro e W ⟨v, L, n, β, hR, rfl, hbv, hm⟩
  obtain ⟨ρ, v', L', n', ⟨hF, hL, hni, hn, hb⟩, hR'⟩ := hw v L n hR
  have h0 := wkF_look (t := 0) (v := v') hF rfl
  have hv : v = ren ρ v' := Option.some.inj h0.1
  refine ⟨v', L', n', fun l => β (ρ l), hR', ?_, h0.2, hm.weak hL hni hn hb⟩
  rw [hv, den_ren]
theorem Con.mono {f : FuncId} {args : List SV} {Lp : LL} {n0 : Nat} {ms : List Nat} {R R' : SV → LL → Nat → Prop} (h : Con P f args Lp n0 ms R) (hw : ∀ v L n, R v L n → R' v L n) : Con P f args Lp n0 ms R' :=
  ⟨h.1, fun β0 W0 hpre => (h.2 β0 W0 hpre).mono fun _ _ ⟨v, L, n, β, hR, r⟩ => ⟨v, L, n, β, hw v L n hR, r⟩⟩
/-- a pure function's contract, at the model's own values -/
theorem Con.calls {f : FuncId} {args : List SV} {R : SV → LL → Nat → Prop} (h : Con P f args [] 0 [] R) {val : SV} (hv : ∀ v L n, R v L n → v = val) (hb0 : bd (fun _ => False) val) (W : World) : Calls P f (denL id args).toArray W fun e W' => e = .returned (den id val) ∧ Below W.heap.size W W' := by
  refine (h.2 id W ⟨fun b h => (by cases h), fun b h => (by cases h)⟩).mono ?_
  rintro e W' ⟨v, L, n, β, hR, rfl, hbv, hm⟩
  obtain rfl := hv v L n hR
  rw [den_congr (p := fun _ => False) (β := id) (γ := β) (fun l hl => hl.elim) v hb0]
  exact ⟨rfl, hm.up.os, hm.up.tape, hm.up.output, hm.up.size, fun k hk => hm.up.block k hk (by rintro ⟨l, hl, _⟩; cases hl)⟩
end
end Go.Vg
