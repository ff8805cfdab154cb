/-
  This text proves how a function's contract over labelled memory comes of the symbolic run of its body, and how a call is met by such a contract. No condition.
-/
import Derived.Test.YtgdkefjpekebmaaVgH
namespace Go.Vg
open Go.RowKit
/-- what a contract takes for given of memory -/
structure Pre (β : Nat → Nat) (L : LL) (ms : List Nat) (W : World) : Prop where
  inj : ∀ b ∈ L, ∀ c ∈ L, memN ms b.l = true → β b.l = β c.l → b.l = c.l
  cell : ∀ b ∈ L, ∃ m, (memN ms b.l = true → okM m b.cs.length) ∧ W.heap[β b.l]? = some (.cells (denL β b.cs).toArray b.t m)
/-- a function that is entered when it is called -/
def Callable (P : Program) (f : FuncId) : Prop := ∃ fn, P.funcs[f]? = some fn ∧ fn.body.isNone = false ∧ (fn.name == "runtime.NumGoroutine") = false
theorem Callable.of {P : Program} {f : FuncId} {fn : Func} (h : P.funcs[f]? = some fn) (h2 : (fn.body.isNone || fn.name == "runtime.NumGoroutine") = false) : Callable P f := by
  simp only [Bool.or_eq_false_iff] at h2
  exact ⟨fn, h, h2.1, h2.2⟩
structure GI (g : G) (n0 : Nat) (ms : List Nat) (N : Nat) : Prop where
  n0 : g.n0 = n0
  ms : g.ms = ms
  N : g.N = N
def dstLt (N : Nat) (d : Option Nat) : Bool :=
  match d with
  | some d => Nat.blt d N
  | none => true
theorem GI.dst {g : G} {n0 : Nat} {ms : List Nat} {N : Nat} (h : GI g n0 ms N) {d : Option Nat} (hd : dstLt N d = true) : ∀ t, d = some t → t < g.N := by
  rintro t rfl
  rw [h.N]
  exact Nat.le_of_ble_eq_true hd
def Con (P : Program) (f : FuncId) (args : List SV) (Lp : LL) (n0 : Nat) (ms : List Nat) (R : SV → LL → Nat → Prop) : Prop :=
  Callable P f ∧ ∀ (β0 : Nat → Nat) (W0 : World), Pre β0 Lp ms W0 → Calls P f (denL β0 args).toArray W0 fun e W => ∃ v L n β, R v L n ∧ e = .returned (den β v) ∧ bd (fun l => l < n) v ∧ Mem ⟨W0, β0, n0, 0, ms⟩ β (find L) (fun l => l < n) W
def resV (T : Nat → Option Ty) (A : Ar) (F : FF) (L : LL) : ResultVar → Option SV
  | .tmp t => look F t
  | .cell a t => match look F a with
    | some v => match T t with
      | some i => rd A (find L) i v
      | none => none
    | none => none
def resVs (T : Nat → Option Ty) (A : Ar) (F : FF) (L : LL) : List ResultVar → Option (List SV)
  | [] => some []
  | r :: rs => match resV T A F L r with
    | some v => match resVs T A F L rs with
      | some vs => some (v :: vs)
      | none => none
    | none => none
def oneOr : List SV → SV
  | [v] => v
  | vs => .tup vs
def retK (T : Nat → Option Ty) (A : Ar) (rs : List ResultVar) (R : SV → LL → Nat → Prop) (F : FF) (L : LL) (n : Nat) : Prop :=
  match resVs T A F L rs with
  | some vs => R (oneOr vs) L n
  | none => False
def retQ (T : Nat → Option Ty) (A : Ar) (rs : List ResultVar) (R : SV → LL → Nat → Prop) : Exit → FF → LL → Nat → Prop
  | .normal => retK T A rs R
  | .ret => retK T A rs R
  | _ => fun _ _ _ => False
def argF : Nat → List SV → FF
  | _, [] => []
  | k, v :: vs => (k, v) :: argF (k + 1) vs
theorem look_argF {k : Nat} {vs : List SV} {t : Nat} {v : SV} (h : look (argF k vs) t = some v) : k ≤ t ∧ vs[t - k]? = some v := by
  induction vs generalizing k with
  | nil => simp [argF, look] at h
  | cons u vs ih =>
    simp only [argF, look] at h
    by_cases hk : k = t
    · subst hk; rw [if_pos rfl] at h; simpa using h
    · rw [if_neg hk] at h
      obtain ⟨h1, h2⟩ := ih h
      refine ⟨by omega, ?_⟩
      rw [show t - k = (t - (k + 1)) + 1 by omega]
      simpa using h2
def resS (tmps : Array Value) : ResultVar → Sem Value
  | .tmp t => pure (tmps.getD t undef)
  | .cell x t => do loadVar t (← asAddr (tmps.getD x undef))
theorem results_eq (fn : Func) (tmps : Array Value) : results fn tmps = (do let vs ← fn.results.mapM (resS tmps); pure (if h : vs.size = 1 then vs[0] else .tuple vs)) := by
  unfold results
  congr 1
def lblsB (n0 : Nat) (Lp : LL) : Bool := Lp.all fun b => Nat.blt b.l n0
section
variable {P : Program} {T : Nat → Option Ty} {g : G} {β : Nat → Nat} {F : FF} {L : LL} {n : Nat → Prop} {a : Act} {W : World}
theorem res_sound (hT : TOk P T) (hm : Mem g β (find L) n W) (hf : Fra g β (look F) n a) {r : ResultVar} {v : SV} (h : resV T Ar.real F L r = some v) :
    (resS a.tmps r).run P W = .ok (den β v) W ∧ bd n v := by
  cases r with
  | tmp t =>
    have h1 := hf.fr t v h
    exact ⟨by simp [resS, h1], hf.bF t v h⟩
  | cell x t =>
    simp only [resV] at h
    cases hx : look F x with
    | none => simp [hx] at h
    | some u =>
      cases ht : T t with
      | none => simp [hx, ht] at h
      | some i =>
        simp only [hx, ht] at h
        have h1 := hf.fr x u hx
        obtain ⟨r1, r2⟩ := rd_sound hT hm ht h
        refine ⟨?_, r2⟩
        have hp : ∃ ad, den β u = .pointer (some ad) := by
          cases u <;> simp [rd] at h <;> exact ⟨_, rfl⟩
        obtain ⟨ad, had⟩ := hp
        rw [had] at r1
        simp only [Instr.loadAt, Instr.sureAddr, Sem.run_bind, Sem.run_pure, Result.andThen_ok] at r1
        have h2 : a.tmps.getD x undef = .pointer (some ad) := by simp [h1, had]
        simp only [resS, Sem.run_bind, h2, asAddr, Sem.run_pure, Result.andThen_ok, r1]
theorem resVs_sound (hT : TOk P T) (hm : Mem g β (find L) n W) (hf : Fra g β (look F) n a) : ∀ {rs : List ResultVar} {vs : List SV}, resVs T Ar.real F L rs = some vs →
    (rs.mapM (resS a.tmps)).run P W = .ok (denL β vs) W ∧ bdL n vs
  | [], vs, h => by simp only [resVs, Option.some.injEq] at h; subst h; exact ⟨by simp [denL], trivial⟩
  | r :: rs, vs, h => by
    simp only [resVs] at h
    cases h1 : resV T Ar.real F L r with
    | none => simp [h1] at h
    | some v =>
      cases h2 : resVs T Ar.real F L rs with
      | none => simp [h1, h2] at h
      | some us =>
        simp only [h1, h2, Option.some.injEq] at h
        subst h
        obtain ⟨e1, b1⟩ := res_sound hT hm hf h1
        obtain ⟨e2, b2⟩ := resVs_sound hT hm hf h2
        refine ⟨?_, b1, b2⟩
        rw [List.mapM_cons]
        simp only [Sem.run_bind, e1, Result.andThen_ok, e2, Sem.run_pure, denL]
theorem ret_sound (hT : TOk P T) (hm : Mem g β (find L) n W) (hf : Fra g β (look F) n a) {fn : Func} {rs : List ResultVar} (hr : fn.results.toList = rs) {vs : List SV} (h : resVs T Ar.real F L rs = some vs) :
    (results fn a.tmps).run P W = .ok (den β (oneOr vs)) W ∧ bd n (oneOr vs) := by
  obtain ⟨e1, b1⟩ := resVs_sound hT hm hf h
  rw [results_eq, Array.mapM_eq_mapM_toList, hr]
  refine ⟨?_, ?_⟩
  · have e2 : (List.toArray <$> rs.mapM (resS a.tmps)).run P W = .ok (denL β vs).toArray W := by
      rw [Sem.run_map, e1]; rfl
    simp only [Sem.run_bind, e2, Result.andThen_ok, Sem.run_pure]
    congr 1
    match vs with
    | [] => rfl
    | [v] => rfl
    | u :: v :: vs => rfl
  · match vs, b1 with
    | [], _ => trivial
    | [v], b1 => exact b1.1
    | _ :: _ :: _, b1 => exact b1
theorem Con.of (hT : TOk P T) {f : FuncId} {fn : Func} {c : Code} {rs : List ResultVar} {N n0 : Nat} {ms : List Nat} {args : List SV} {Lp : LL} {R : SV → LL → Nat → Prop} (hf : P.funcs[f]? = some fn) (hb : fn.body = some c) (hrs : fn.results.toList = rs)
    (hcall : (fn.body.isNone || fn.name == "runtime.NumGoroutine") = false) (hN : fn.ntmps = N) (hd : dstsB N c = true) (hargs : Nat.ble args.length N = true) (hlb : lblsB n0 Lp = true) (hba : bdL (fun l => l < n0) args) (hbl : ∀ b ∈ Lp, bdL (fun l => l < n0) b.cs)
    (h : ∀ (A : Ar) (g : G) (K : SV → LL → Nat → Prop), A = Ar.real → GI g n0 ms N → (∀ v L n, R v L n → K v L n) → vcC T A P g n0 ms c (retQ T A rs K) (argF 0 args) Lp n0) : Con P f args Lp n0 ms R := by
  refine ⟨Callable.of hf hcall, ?_⟩
  intro β0 W0 hpre
  simp only [lblsB, List.all_eq_true] at hlb
  have hlen : args.length ≤ N := Nat.le_of_ble_eq_true hargs
  let g : G := ⟨W0, β0, n0, N, ms⟩
  have hlt : ∀ l b, find Lp l = some b → b ∈ Lp ∧ b.l = l ∧ l < n0 := fun l b h => by
    obtain ⟨h1, rfl⟩ := find_mem h
    exact ⟨h1, rfl, Nat.le_of_ble_eq_true (hlb b h1)⟩
  have hm : Mem g β0 (find Lp) (fun l => l < n0) W0 := by
    refine ⟨fun _ h => h, fun _ _ => rfl, ?_, ?_, ?_, ?_, ⟨rfl, rfl, rfl, Nat.le_refl _, fun _ _ _ => rfl⟩⟩
    · intro l b h hl
      obtain ⟨_, _, h3⟩ := hlt l b h
      have : n0 ≤ l := hl
      omega
    · intro l b l' b' h h' ho he
      obtain ⟨h1, rfl, h3⟩ := hlt l b h
      obtain ⟨h2, rfl, _⟩ := hlt l' b' h'
      refine hpre.inj b h1 b' h2 ?_ he
      unfold own at ho
      cases hq : Nat.ble n0 b.l with
      | true => have := Nat.le_of_ble_eq_true hq; omega
      | false => simpa only [g, hq] using ho
    · intro l b h
      obtain ⟨h1, rfl, h3⟩ := hlt l b h
      obtain ⟨m, q1, q2⟩ := hpre.cell b h1
      refine ⟨m, fun ho => q1 ?_, q2⟩
      unfold own at ho
      cases hq : Nat.ble n0 b.l with
      | true => have := Nat.le_of_ble_eq_true hq; omega
      | false => simpa only [g, hq] using ho
    · intro l b h
      obtain ⟨h1, rfl, h3⟩ := hlt l b h
      exact ⟨h3, hbl b h1⟩
  have hfr : Fra g β0 (look (argF 0 args)) (fun l => l < n0) { tmps := (denL β0 args).toArray ++ Array.replicate (fn.ntmps - (denL β0 args).toArray.size) undef, defers := [] } := by
    refine ⟨?_, rfl, ?_, ?_⟩
    · simp [denL_eq, hN, g]; omega
    · intro t v hv
      obtain ⟨_, h2⟩ := look_argF hv
      exact (bdL_iff _ _).1 hba v (List.mem_of_getElem? h2)
    · intro t v hv
      obtain ⟨_, h2⟩ := look_argF hv
      simp only [Nat.sub_zero] at h2
      have hlt : t < args.length := (List.getElem?_eq_some_iff.1 h2).1
      rw [Array.getElem?_append_left (by simp [denL_eq]; omega)]
      simp [denL_eq, h2]
  refine calls_of_wp hf hb (wp_mono (vcC_sound (g := g) hT rfl rfl hd (h Ar.real g R rfl ⟨rfl, rfl, rfl⟩ (fun _ _ _ h => h)) ⟨β0, hm, hfr⟩) ?_)
  rintro e a' W' ⟨F', L', n', hq, β, hm', hf'⟩
  have fin : retK T Ar.real rs R F' L' n' → a'.defers = [] ∧ ∃ v, (results fn a'.tmps).run P W' = .ok v W' ∧ ∃ v' L n β, R v' L n ∧ Ending.returned v = .returned (den β v') ∧ bd (fun l => l < n) v' ∧ Mem ⟨W0, β0, n0, 0, ms⟩ β (find L) (fun l => l < n) W' := by
    intro hk
    unfold retK at hk
    cases hv : resVs T Ar.real F' L' rs with
    | none => simp [hv] at hk
    | some vs =>
      simp only [hv] at hk
      obtain ⟨r1, r2⟩ := ret_sound hT hm' hf' hrs hv
      exact ⟨hf'.defs, _, r1, _, _, _, β, hk, rfl, r2, ⟨hm'.low, hm'.old, hm'.new, hm'.inj, hm'.cell, hm'.bL, hm'.up⟩⟩
  cases e with
  | normal => exact fin hq
  | ret => exact fin hq
  | _ => exact hq.elim
end
end Go.Vg
