/-
  This text proves, for any program, that a call which returns true and turns nothing below the old heap's size meets a statement 'it returns true and its inputs read as they did'. Condition: the arguments' types can be read without an end.
-/
import Derived.WalkKit
import Derived.ProofKit
import Derived.OpenShut
import Derived.Carry
import Derived.ChangeMaps5
import Derived.ChangeCalls
namespace Go.Proofs.Ytgdkefjpekebmaa
open Go.ChangeShapes Go.WideShapes Go.ChangeAt Go.RowKit
theorem stays_all {H : Type} {enc : TypeId × Value → H} {P : Program} (hl : laidOutB P = true) {W W' : World} (hB : Below W.heap.size W W') (sp : Nat → Bool) :
    ∀ {ts : List TypeId} {vs : List Value} {ds : List (DataW H)} {ps : List MemPlace}, (∀ t ∈ ts, P.readableRec t = true ∧ t < P.types.size) →
      DataW.TrodAll enc P W 0 (fun _ => true) true ts vs ds ps → (∀ p ∈ ps, p.block < W.heap.size) → (∀ p ∈ ps, sp p.block = true) → DataW.TrodAll enc P W' 0 sp true ts vs ds ps
  | [], _, _, _, _, h, _, _ => by
    obtain ⟨rfl, rfl, rfl⟩ := trodAll_nil h
    exact trodAll_mk0
  | t :: ts, _, _, _, ht, h, hlt, hs => by
    obtain ⟨v, vs1, d, ds1, p, q, rfl, rfl, rfl, h1, h2⟩ := trodAll_cons h
    have hk := ht t List.mem_cons_self
    exact trodAll_cons_mk (WideElems.Trod_stays hl hk.1 hk.2 h1 (fun x hx => hB.same (hlt x (List.mem_append_left _ hx))) (fun x hx => hs x (List.mem_append_left _ hx)))
      (stays_all hl hB sp (fun t h => ht t (List.mem_cons_of_mem _ h)) h2 (fun x hx => hlt x (List.mem_append_right _ hx)) (fun x hx => hs x (List.mem_append_right _ hx)))
theorem true_post {H : Type} {enc : TypeId × Value → H} {P : Program} {f : Func} {s : ChangeSpec} {W W' : World} {args : Array Value} {ds gs : List (DataW H)} {before : List MemPlace} {apart fresh handsOn again : Bool} (bt : TypeId)
    (hl : laidOutB P = true) (hts : ∀ t ∈ f.params.toList, P.readableRec t = true ∧ t < P.types.size) (hvars : s.vars = []) (hbt : P.underlying bt = some .bool) (hrt : f.resultTypes = #[bt])
    (hfn : ∀ ds : List (DataW H), ds.length = f.params.toList.length → s.fn H ds = { results := [.lit (.bool true)], args := ds })
    (hW : DataW.Whole enc P f.params.toList s.vars apart W args.toList ds gs before) (hB : Below W.heap.size W W') : s.post enc P f apart fresh handsOn again W args (.bool true) W' := by
  have hW0 := hW
  have hlt := hW.lt
  obtain ⟨p, q, hA, hV, rfl, hz, hn⟩ := hW
  rw [hvars] at hV
  obtain ⟨rfl, rfl⟩ := trodVars_none hV
  have hlen : ds.length = f.params.toList.length := (trodAll_length hA).2
  have hf : s.fn H (ds ++ []) = { results := [.lit (.bool true)], args := ds } := by rw [List.append_nil]; exact hfn ds hlen
  rw [List.append_nil] at hlt
  have hold : ∀ x ∈ p, (fun b => decide (b < W.heap.size)) x.block = true := fun x hx => by simpa using hlt x hx
  have hargs : ∀ sp : Nat → Bool, (∀ x ∈ p, sp x.block = true) → DataW.TrodAll enc P W' 0 sp true f.params.toList args.toList ds p := fun sp hs => stays_all hl hB sp hts hA hlt hs
  have hres : ∀ (b : Nat) (sp : Nat → Bool) (hd : Bool), DataW.TrodAll enc P W' b sp hd f.resultTypes.toList ((Value.bool true).resultList f.resultTypes.size) (s.fn H (ds ++ [])).results [] := by
    intro b sp hd
    rw [hf, hrt]
    exact trodAll_cons_mk (shut_bool hbt _) trodAll_mk0
  refine ⟨ds, [], p ++ [], [], p, [], hW0, hres _ _ _, by rw [hf]; exact hargs _ hold, ?_, hB.frame _, fun _ => ?_⟩
  · rw [hvars, hf]; exact hV
  · refine ⟨ok_one (t := bt) hrt rfl (okWide_bool_mk hbt _), _, [], ([] ++ p) ++ [], ⟨[] ++ p, [], trodAll_append (hargs _ (fun _ _ => rfl)) (hres _ _ _), ?_, rfl, ?_, ?_⟩, ?_⟩
    · rw [hvars]; exact hV
    · intro b off hp
      have hp' : MemPlace.cell b off ∈ p := by simpa using hp
      rw [hB.frozen (hlt _ hp')]
      exact hz b off (by simpa using hp')
    · intro ha
      simpa using hn ha
    · intro x hx _
      simpa using hx
theorem open_text {P : Program} {w : World} {r : Reach} {b : Nat} {t : TypeId} {v : Value} (ht : P.underlying t = some .string) (h : Value.okWide P w r b t v) : ∃ s : ByteArray, v = .string s ∧ s.size ≤ 9223372036854775807 := by
  obtain ⟨s, rfl⟩ := okWide_string ht h
  refine ⟨s, rfl, ?_⟩
  simp only [Value.okWide, ht, Cell.okWide, Cell.ok] at h
  exact Int.ofNat_le.1 h
theorem open_word {P : Program} {w : World} {r : Reach} {b : Nat} {t : TypeId} {v : Value} (ht : P.underlying t = some (.int .u64)) (h : Cell.okWide P w r b t v) : ∃ n : Nat, v = .int .u64 n ∧ n < 18446744073709551616 := by
  simp only [Cell.okWide, ht] at h
  cases v
  all_goals simp only [Cell.ok, ht] at h
  rename_i k n
  obtain ⟨rfl, h1, h2⟩ := h
  have h3 : (0 : Int) ≤ n := h1
  have h4 : n ≤ 18446744073709551615 := h2
  exact ⟨n.toNat, by rw [Int.toNat_of_nonneg h3], by omega⟩
theorem args1 {xs : Array Value} (h : xs.size = 1) : ∃ v0, xs = #[v0] := by
  rcases xs with ⟨l⟩
  match l, h with
  | [v0], _ => exact ⟨v0, rfl⟩
theorem args2 {xs : Array Value} (h : xs.size = 2) : ∃ v0 v1, xs = #[v0, v1] := by
  rcases xs with ⟨l⟩
  match l, h with
  | [v0, v1], _ => exact ⟨v0, v1, rfl⟩
theorem args3 {xs : Array Value} (h : xs.size = 3) : ∃ v0 v1 v2, xs = #[v0, v1, v2] := by
  rcases xs with ⟨l⟩
  match l, h with
  | [v0, v1, v2], _ => exact ⟨v0, v1, v2, rfl⟩
theorem args4 {xs : Array Value} (h : xs.size = 4) : ∃ v0 v1 v2 v3, xs = #[v0, v1, v2, v3] := by
  rcases xs with ⟨l⟩
  match l, h with
  | [v0, v1, v2, v3], _ => exact ⟨v0, v1, v2, v3, rfl⟩
theorem args5 {xs : Array Value} (h : xs.size = 5) : ∃ v0 v1 v2 v3 v4, xs = #[v0, v1, v2, v3, v4] := by
  rcases xs with ⟨l⟩
  match l, h with
  | [v0, v1, v2, v3, v4], _ => exact ⟨v0, v1, v2, v3, v4, rfl⟩
theorem args6 {xs : Array Value} (h : xs.size = 6) : ∃ v0 v1 v2 v3 v4 v5, xs = #[v0, v1, v2, v3, v4, v5] := by
  rcases xs with ⟨l⟩
  match l, h with
  | [v0, v1, v2, v3, v4, v5], _ => exact ⟨v0, v1, v2, v3, v4, v5, rfl⟩
theorem args7 {xs : Array Value} (h : xs.size = 7) : ∃ v0 v1 v2 v3 v4 v5 v6, xs = #[v0, v1, v2, v3, v4, v5, v6] := by
  rcases xs with ⟨l⟩
  match l, h with
  | [v0, v1, v2, v3, v4, v5, v6], _ => exact ⟨v0, v1, v2, v3, v4, v5, v6, rfl⟩
theorem args8 {xs : Array Value} (h : xs.size = 8) : ∃ v0 v1 v2 v3 v4 v5 v6 v7, xs = #[v0, v1, v2, v3, v4, v5, v6, v7] := by
  rcases xs with ⟨l⟩
  match l, h with
  | [v0, v1, v2, v3, v4, v5, v6, v7], _ => exact ⟨v0, v1, v2, v3, v4, v5, v6, v7, rfl⟩
end Go.Proofs.Ytgdkefjpekebmaa
