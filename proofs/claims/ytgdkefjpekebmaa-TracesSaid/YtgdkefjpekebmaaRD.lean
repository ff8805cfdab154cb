/-
  This text proves what an input is that is a row of pairs of ints, and how a contract over memory that is only read serves a statement's row. Condition: what the claim's form says of its inputs.
-/
import Derived.Test.YtgdkefjpekebmaaRC
import Derived.Test.YtgdkefjpekebmaaVgS
import Derived.Deep.SlicePairs
namespace Go.Vg
open Go.RowKit
/-- a cell's value, laid open where it is plain -/
def toSV : Value → SV
  | .int k n => .int k n
  | .bool b => .bool b
  | .string s => .str s
  | v => .raw v
theorem den_toSV (β : Nat → Nat) (v : Value) : den β (toSV v) = v := by
  cases v <;> rfl
theorem bdB_toSV (m : Nat) (v : Value) : bdB m (toSV v) = true := by
  cases v <;> rfl
def toSVs (cs : Array Value) : List SV := cs.toList.map toSV
theorem denL_toSVs (β : Nat → Nat) (cs : Array Value) : (denL β (toSVs cs)).toArray = cs := by
  rw [denL_eq, toSVs, List.map_map]
  have : (den β ∘ toSV) = id := funext fun v => den_toSV β v
  rw [this, List.map_id]
theorem bdLB_map (m : Nat) : ∀ l : List Value, bdLB m (l.map toSV) = true
  | [] => rfl
  | v :: l => by rw [List.map_cons, bdLB, bdB_toSV, bdLB_map m l]; rfl
theorem toSVs_get (cs : Array Value) (j : Nat) : (toSVs cs)[j]? = (cs[j]?).map toSV := by
  simp [toSVs]
section
variable {P : Program}
/-- a contract over memory that is only read, at the model's own values -/
theorem Con.calls_ro {f : FuncId} {args : List SV} {Lp : LL} {n0 : Nat} {R : SV → LL → Nat → Prop} (h : Con P f args Lp n0 [] R) {val : SV} (hv : ∀ v L n, R v L n → v = val) (hb0 : bd (fun _ => False) val) {β0 : Nat → Nat} {W : World} (hp : Pre β0 Lp [] W) :
    Calls P f (denL β0 args).toArray W fun e W' => e = .returned (den id val) ∧ Below W.heap.size W W' := by
  refine (h.2 β0 W hp).mono ?_
  rintro e W' ⟨v, L, n, β, hR, rfl, hbv, hm⟩
  obtain rfl := hv v L n hR
  rw [den_congr (p := fun _ => False) (β := id) (γ := β) (fun l hl => hl.elim) v hb0]
  exact ⟨rfl, hm.up.os, hm.up.tape, hm.up.output, hm.up.size, fun k hk => hm.up.block k hk (by rintro ⟨l, hl, _⟩; cases hl)⟩
end
end Go.Vg
namespace Go.RowKit
open Go.ChangeShapes Go.WideShapes Go.ChangeAt Go.Vg
section
variable {H : Type} {enc : TypeId × Value → H} {P : Program} {w : World} {base : Nat} {sp : Nat → Bool} {held : Bool}
theorem add_spot {b o : Nat} (i : Nat) : (⟨b, o, none⟩ : Addr).add i = ⟨b, o + i, none⟩ := by
  unfold Addr.add
  by_cases h : i = 0
  · subst h; rfl
  · rw [if_neg h]
theorem two_at {E : List SV} {q : Nat} {x y : SV} (h0 : E[q]? = some x) (h1 : E[q + 1]? = some y) : (E.drop q).take 2 = [x, y] := by
  apply List.ext_getElem?
  intro j
  simp only [List.getElem?_take, List.getElem?_drop]
  match j with
  | 0 => simpa using h0
  | 1 => simpa using h1
  | j + 2 => simp; intro h; omega
/-- an input that is a row of pairs of ints -/
theorem open_pairs {ts us : List TypeId} {vs : List Value} {ds gs : List (DataW H)} {ps : List MemPlace} (hA : DataW.TrodAll enc P w base (fun _ => true) held ts vs ds ps) (hsz : (DataW.weightsEach P (ts ++ us) (ds ++ gs)).all (· ≤ reachBytes) = true) {r : Reach} {b0 : Nat} {j : Nat} {t e it : TypeId} {v : Value} {f0 f1 : Field} {B : Nat}
    (ht : ts[j]? = some t) (hv : vs[j]? = some v) (hu : P.underlying t = some (.slice e)) (he : P.underlying e = some (.struct #[f0, f1])) (ce : P.cellsOf e = 2) (o0 : f0.offset = 0) (o1 : f1.offset = 1) (t0 : f0.type = it) (t1 : f1.type = it) (hit : P.underlying it = some (.int .i64)) (ci : P.cellsOf it = 1) (hB : P.bytesOf e = B)
    (hval : Value.okWide P w r b0 t v) :
    v = .slice none 0 0 ∨ ∃ (b o n c : Nat) (cs : Array Value) (te : TypeId) (fr : Nat × Nat) (ea eb : Nat → Int), v = .slice (some ⟨b, o, none⟩) n c ∧ n ≤ c ∧ c ≤ maxLen ∧ n * B ≤ 140737488351232 ∧ w.heap[b]? = some (.cells cs te fr) ∧ (0 < n → o + n * 2 ≤ (toSVs cs).length) ∧ ∀ j, j < n → ((toSVs cs).drop (o + j * 2)).take 2 = [.int .i64 (ea j), .int .i64 (eb j)] := by
  obtain ⟨d, p, k1, ⟨fuel, k2⟩, _⟩ := trod_at hA ht hv
  have hj : j < ts.length := (List.getElem?_eq_some_iff.1 ht).1
  have hj' : j < ds.length := (List.getElem?_eq_some_iff.1 k1).1
  have hok : Cell.ok P w r b0 t v := by
    simp only [Value.okWide, hu] at hval
    simp only [Cell.okWide, hu] at hval
    exact hval
  obtain ⟨av, nv, cv, rfl⟩ : ∃ a n c, v = .slice a n c := by
    cases v with
    | slice a n c => exact ⟨a, n, c, rfl⟩
    | _ => simp only [Cell.ok, hu] at hok
  rcases Go.Deep.open_slice_pairs hu he ce o0 o1 (by rw [t0]; exact ci) (by rw [t1]; exact ci) k2 with ⟨h, _⟩ | ⟨a, len, cap, m, n, V0, V1, D0, D1, P0, P1, h, hb, hl, hm, hmm, hx, hc⟩
  · left
    simpa [Value.cells] using h
  · right
    obtain ⟨h1, h2, h3⟩ : some a = av ∧ len = nv ∧ cap = cv := by simpa [Value.cells, eq_comm] using h
    subst h1
    subst h2
    subst h3
    simp only [Cell.ok, hu] at hok
    obtain ⟨_, _, _, hspot, row, cells, hsh, _⟩ := hok
    obtain ⟨ab, ao, asp⟩ := a
    simp only at hspot hsh
    subst hspot
    simp only [if_true] at hmm
    subst hmm
    obtain ⟨cs, te, fr, hcs⟩ : ∃ cs te fr, w.heap[ab]? = some (.cells cs te fr) := by
      unfold World.shape? at hsh
      cases hh : w.heap[ab]? with
      | none => simp [hh] at hsh
      | some o => cases o <;> simp [hh] at hsh; exact ⟨_, _, _, rfl⟩
    have hat : ∀ q x, w.cell? ⟨ab, q, none⟩ = some x → (toSVs cs)[q]? = some (toSV x) := by
      intro q x hq
      rw [toSVs_get]
      simp only [World.cell?, hcs] at hq
      simp at hq
      rw [hq]; rfl
    have hpair : ∀ i, i < m → ∃ x y : Int, (toSVs cs)[ao + i * 2]? = some (.int .i64 x) ∧ (toSVs cs)[ao + i * 2 + 1]? = some (.int .i64 y) := by
      intro i hi
      obtain ⟨q0, q1, q2, q3⟩ := hc i hi
      rw [add_spot] at q0
      rw [add_spot] at q1
      rw [t0] at q2
      rw [t1] at q3
      obtain ⟨x, hx0, _⟩ := DataW.trod_int hit q2
      obtain ⟨y, hy0, _⟩ := DataW.trod_int hit q3
      simp only [List.cons.injEq, and_true] at hx0 hy0
      rw [hx0] at q0
      rw [hy0] at q1
      exact ⟨x, y, hat _ _ q0, hat _ _ q1⟩
    obtain ⟨f, hf⟩ := Go.Deep.choose_lt (α := Int × Int) (n := m) (p := fun i q => (toSVs cs)[ao + i * 2]? = some (.int .i64 q.1) ∧ (toSVs cs)[ao + i * 2 + 1]? = some (.int .i64 q.2)) (fun i hi => by
      obtain ⟨x, y, h1, h2⟩ := hpair i hi
      exact ⟨(x, y), h1, h2⟩)
    refine ⟨ab, ao, len, m, cs, te, fr, fun i => (f i).1, fun i => (f i).2, rfl, hl, hm, ?_, hcs, ?_, ?_⟩
    · have hd : ds[j]? = some (.slice ((List.range len).map fun i => .agg [D0 i, D1 i]) ((List.range (m - len)).map fun j => .agg [D0 (len + j), D1 (len + j)])) := by rw [k1]; exact congrArg some (congrArg Prod.fst hx)
      have h1 := sized_slice hsz (j := j) (by rw [List.getElem?_append_left hj]; exact ht) (by rw [List.getElem?_append_left hj']; exact hd) hu
      simp only [List.length_map, List.length_range, hB] at h1
      rw [show len + (m - len) = m by omega] at h1
      exact Nat.le_trans (Nat.mul_le_mul_right _ hl) h1
    · intro hn
      have h2 := (hf (len - 1) (by omega)).2
      have h3 := (List.getElem?_eq_some_iff.1 h2).1
      omega
    · intro i hi
      exact two_at (hf i (by omega)).1 (hf i (by omega)).2
end
end Go.RowKit
