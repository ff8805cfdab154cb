/-
  This text proves that a drawn region is met by its symbolic run, and how a call in such a region is met by its callee's contract. Condition: the program follows mixed orders; the region passes the check of its edges.
-/
import Derived.Test.YtgdkefjpekebmaaVgP
namespace Go.Vg
open Go.RowKit
section
variable {P : Program} {g : G} {T : Nat → Option Ty}
theorem Mem.pmono {β : Nat → Nat} {L : Nat → Option Blk} {p q : Nat → Prop} {W : World} (hm : Mem g β L p W) (h : ∀ l, p l → q l) : Mem g β L q W :=
  ⟨fun l hl => h l (hm.low l hl), hm.old, hm.new, hm.inj, hm.cell, fun l b hb => ⟨h l (hm.bL l b hb).1, bdL_mono h _ (hm.bL l b hb).2⟩, hm.up⟩
theorem Mem.drawn {β : Nat → Nat} {L : Nat → Option Blk} {p : Nat → Prop} {W : World} (hm : Mem g β L p W) : Mem g β L p { W with drawn := W.drawn + 1 } :=
  ⟨hm.low, hm.old, hm.new, hm.inj, hm.cell, hm.bL, ⟨hm.up.os, hm.up.tape, hm.up.output, hm.up.size, hm.up.block⟩⟩
theorem Edges.lt {all : List Oper} {m : List Nat} (h : Edges all m) {k : Nat} : ∀ {i : Nat}, i < all.length → befB m i k = true → k < i := by
  intro i
  induction i using Nat.strongRecOn with
  | _ i ih =>
    intro hi hb
    obtain ⟨e, he, hbi, hor⟩ := h.clos i (all[i]'hi) k (List.getElem?_eq_getElem hi) hb
    have hlt := h.back i _ e (List.getElem?_eq_getElem hi) he hbi
    rcases hor with h1 | h1
    · omega
    · have := ih e.on hlt (by omega) h1
      omega
theorem reg_of (hT : TOk P T) {n0 : Nat} {ms : List Nat} (h0 : g.n0 = n0) (h1 : g.ms = ms) (hmix : P.follows .mixedOrders = true) {id : Nat} {ops : Array Oper} (hB : drawB ops.toList = true) (hd : ∀ o ∈ ops.toList, ∀ t, o.dst = some t → t < g.N) {K : FF → LL → Nat → Prop} {F : FF} {L : LL} {n : Nat}
    (h : vcD T Ar.real P g n0 ms ops.toList (maskL [] ops.toList) K ops.toList 0 F L [] n) : Reg g P id ops K F L n := by
  subst h0 h1
  refine ⟨?_⟩
  rintro a W ⟨β, hm, hf⟩
  have hE := Edges.of hB
  have told0 : Told [] F L n F L [] n := by
    refine ⟨rfl, fun D _ l => ?_, fun k b hb => (by cases hb), List.nodup_nil, fun l b hb => (hm.bL l b hb).1, Nat.le_refl n, fun k e hk => (by simp at hk)⟩
    simp [LD, fo, filP]
  obtain ⟨es, F', B', N', n', nnf, k1, k2, k3, k4, k5⟩ := vcD_run (g := g) (P := P) (T := T) hE ops.toList [] F L [] n rfl told0 (fun k e hk => by simp at hk) h
  simp only [List.nil_append, List.length_nil, Nat.zero_add] at k2 k5
  have hlen : es.length = ops.size := by rw [k1]; simp
  have hops : ∀ (i : Nat) (o : Oper), ops[i]? = some o ↔ ops.toList[i]? = some o := fun i o => by rw [Array.getElem?_toList]
  have hpair : ∀ (i : Nat) (e : E), es[i]? = some e → ∃ o, ops.toList[i]? = some o := fun i e he => by
    have : i < ops.toList.length := by rw [← k1]; exact (List.getElem?_eq_some_iff.1 he).1
    exact ⟨_, List.getElem?_eq_getElem this⟩
  have hFt : ∀ i, FD es (fun k => decide (k < i)) (look F) = FD (es.take i) (fun _ => true) (look F) := fun i => funext fun t => by
    simp only [FD]
    rw [fo_take (i := i) (fun k hk => by simp; omega) (Nat.zero_le i), Nat.sub_zero]
    refine fo_congr2 fun k e hk => ?_
    have : k < i := by
      have := (List.getElem?_eq_some_iff.1 hk).1
      rw [List.length_take] at this
      omega
    simp [this]
  have hLt : ∀ i, i < ops.size → LD es (fun k => befB (maskL [] ops.toList) i k) (find L) = LD (es.take i) (befB (maskL [] ops.toList) i) (find L) := fun i hi => funext fun l => by
    simp only [LD]
    rw [fo_take (i := i) (fun k hk => ?_) (Nat.zero_le i), Nat.sub_zero]
    cases hb : befB (maskL [] ops.toList) i k with
    | false => rfl
    | true => have := hE.lt (by simpa using hi) hb; omega
  have fits : Fits P g ops es (look F) (find L) n (fun i => match ops[i]? with | some o => lkOf ops.toList o | none => []) (fun i => match ops[i]? with | some o => memOf o | none => false) (befB (maskL [] ops.toList)) nnf := by
    refine ⟨hlen, fun i o k ho hb => hE.clos i o k ((hops i o).1 ho) hb, fun i o e ho he hb => hE.back i o e ((hops i o).1 ho) he hb, ?_, ?_, ?_, ?_, ?_, k4, ?_, fun l b hb => (hm.bL l b hb).1, ?_⟩
    · intro i k e e' t he he' hik hdt hdt'
      obtain ⟨o, ho⟩ := hpair i e he
      obtain ⟨o', ho'⟩ := hpair k e' he'
      rw [(k5 i e o he ho).1] at hdt
      rw [(k5 k e' o' he' ho').1] at hdt'
      exact (hE.dst i k o o' t ho ho' hik hdt').1 hdt
    · intro i k e t hi he hik hdt ht
      obtain ⟨o', ho'⟩ := hpair k e he
      have hio : i < ops.size := by rw [← hlen]; exact hi
      have ho := Array.getElem?_eq_getElem hio
      rw [ho] at ht
      rw [(k5 k e o' he ho').1] at hdt
      exact (hE.dst i k _ o' t ((hops i _).1 ho) ho' hik hdt).2 ht
    · intro i k e hmem hi he hw hik
      obtain ⟨o', ho'⟩ := hpair k e he
      have hio : i < ops.size := by rw [← hlen]; exact hi
      have ho := Array.getElem?_eq_getElem hio
      rw [ho] at hmem
      exact hE.ord i k _ o' ((hops i _).1 ho) ho' hik ((k5 k e o' he ho').2.1 hw).1 hmem
    · intro i e he hw
      obtain ⟨o, ho⟩ := hpair i e he
      rw [(hops i o).2 ho]
      exact ((k5 i e o he ho).2.1 hw).2
    · intro i e he
      obtain ⟨o, ho⟩ := hpair i e he
      exact (k5 i e o he ho).2.2.2.2
    · intro i e k q vs he hw
      obtain ⟨o, ho⟩ := hpair i e he
      have hio : i < ops.size := by rw [← hlen]; exact (List.getElem?_eq_some_iff.1 he).1
      have := (k5 i e o he ho).2.2.2.1 k q vs hw
      rw [← hLt i hio] at this
      exact this
    · intro i e he
      obtain ⟨o, ho⟩ := hpair i e he
      have hio : i < ops.size := by rw [← hlen]; exact (List.getElem?_eq_some_iff.1 he).1
      have hc := (k5 i e o he ho).2.2.1
      rw [← hFt i, ← hLt i hio] at hc
      have ho2 := (hops i o).2 ho
      intro β p F1 L1 a W hF hM hfr hlow hm hf
      simp only [ho2] at hF hM
      refine op_ex hT ho2 (hd o (List.mem_of_getElem? ho)) (k5 i e o he ho).1 ?_ β p F1 L1 a W hF hM hfr hlow hm hf
      unfold Case at hc
      simpa only [hops] using hc
  have hPD : ∀ l, PD es (fun _ => true) (fun l => l < n) l → l < n' := by
    intro l hl
    rcases PD_iff.1 hl with h | ⟨k, e, hk, _, b, hb, rfl⟩
    · have := k2.le; omega
    · exact k2.pd k e hk b hb
  refine wp_region_any hmix (wpAny_fits fits ?_ ops.size (Array.replicate ops.size false) a _ β (by simp) (by simp) (fun i o hi => ?_) ?_ ?_)
  · intro γ a' W' hm' hf'
    have e1 : LD es (fun _ => true) (find L) = find (B' ++ allN N') := by
      funext l
      rw [k2.bl (fun _ => true) (fun _ _ _ _ => rfl) l, allN_eq]
    refine ⟨F', B' ++ allN N', n', k3, γ, ?_, ?_⟩
    · rw [← e1]; exact hm'.pmono hPD
    · rw [k2.fr]; exact hf'.mono (fun _ _ => rfl) hPD
  · have hi' : (Array.replicate ops.size false).getD i false = true := hi
    rw [getD_replicate_false] at hi'; cases hi'
  · have e0 : ∀ k, (Array.replicate ops.size false).getD k false = false := fun k => getD_replicate_false _ _
    have e1 : LD es (fun i => (Array.replicate ops.size false).getD i false) (find L) = find L := funext fun l => fo_false e0
    have e2 : PD es (fun i => (Array.replicate ops.size false).getD i false) (fun l => l < n) = fun l => l < n := funext fun l => fo_false e0
    rw [e1, e2]; exact hm.drawn
  · have e0 : ∀ k, (Array.replicate ops.size false).getD k false = false := fun k => getD_replicate_false _ _
    have e1 : FD es (fun i => (Array.replicate ops.size false).getD i false) (look F) = look F := funext fun l => fo_false e0
    have e2 : PD es (fun i => (Array.replicate ops.size false).getD i false) (fun l => l < n) = fun l => l < n := funext fun l => fo_false e0
    rw [e1, e2]; exact hf
end
end Go.Vg
