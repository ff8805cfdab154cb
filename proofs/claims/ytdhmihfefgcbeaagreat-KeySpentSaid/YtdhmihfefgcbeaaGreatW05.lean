/-
  This text proves what these texts prove: VgM, VgN, VgO, VgP. Conditions: those of each theorem.
-/
import Derived.Test.YtdhmihfefgcbeaaGreatW04
section
namespace Go.Vg
open Go.RowKit
def tmpOf : Operand -> List Nat
 | .tmp t => [t]
 | _ => []
def tmpsL : List Operand -> List Nat
 | [] => []
 | x :: xs => tmpOf x ++ tmpsL xs
def lkOf (all : List Oper) (o : Oper) : List Nat :=
 tmpsL o.op.operands.toList ++ match o.guard with
  | some (j, _) => match all[j]? with
    | some oj => match oj.dst with
      | some d => [d]
      | none => []
    | none => []
  | none => []
def memOf (o : Oper) : Bool :=
 match o.op with
 | .move _ | .assign _ | .pick _ _ _ | .nilCheck _ | .unOp _ _ _ | .makeFunc _ _ _ | .fieldAddr _ _ _ | .field _ _ _ | .indexAddr _ _ _ | .index _ _ _ | .extract _ _ | .build _ _ | .alloc _ | .box _ _ | .buildSlice _ _ _ => false
 | .binOp _ _ _ _ _ => false
 | .call c => match c.callee with
   | .builtin .len => false
   | _ => true
 | _ => true
def quiet (o : Oper) : Bool :=
 match o.op with
 | .move _ | .assign _ | .load _ _ | .fieldAddr _ _ _ | .nilCheck _ | .extract _ _ => true
 | _ => false
def isStore (o : Oper) : Bool :=
 match o.op with
 | .store _ _ _ => true
 | _ => false
def maskOf (acc : List Nat) : List Edge -> Nat
 | [] => 0
 | e :: es => match Region.binds .any e with
   | true => 2 ^ e.on ||| acc.getD e.on 0 ||| maskOf acc es
   | false => maskOf acc es
def maskL (acc : List Nat) : List Oper -> List Nat
 | [] => acc
 | o :: os => maskL (acc ++ [maskOf acc o.after.toList]) os
def befB (m : List Nat) (i k : Nat) : Bool := (m.getD i 0).testBit k
def ordB (m : List Nat) (i k : Nat) : Bool := (Nat.blt k i && befB m i k) || (Nat.blt i k && befB m k i)
def drawB (all : List Oper) : Bool :=
 let m := maskL [] all
 let is := List.range all.length
 is.all fun i => match all[i]? with
  | none => false
  | some o => (o.after.toList.all fun e => !Region.binds .any e || Nat.blt e.on i) &&
    is.all fun k => Nat.beq i k || match all[k]? with
     | none => false
     | some o' => (match o'.dst with
       | some t => !(o.dst == some t) && (!memN (lkOf all o) t || ordB m i k)
       | none => true) && (!isStore o' || !memOf o || ordB m i k)
def freeL (all : List Oper) (o : Oper) : Option Nat :=
 match o.op with
 | .load _ (.tmp t) => match all.all fun o' => match o'.dst with | some d => !Nat.beq d t | none => true with
   | true => some t
   | false => none
 | _ => none
def drawC (all : List Oper) : Bool :=
 let m := maskL [] all
 let is := List.range all.length
 is.all fun i => match all[i]? with
  | none => false
  | some o => (o.after.toList.all fun e => !Region.binds .any e || Nat.blt e.on i) &&
    is.all fun k => Nat.beq i k || match all[k]? with
     | none => false
     | some o' => (match o'.dst with
       | some t => !(o.dst == some t) && (!memN (lkOf all o) t || ordB m i k)
       | none => true) && (!isStore o' || !memOf o || ordB m i k || (freeL all o).isSome)
def labS (F : Nat -> Option SV) (t : Nat) : Option Nat :=
 match F t with
 | some (.ptr a _) => some a
 | some (.ptrS a _) => some a
 | _ => none
def frL (all : List Oper) (F : Nat -> Option SV) (i : Nat) : Option Nat :=
 match all[i]? with
 | some o => match freeL all o with
   | some t => labS F t
   | none => none
 | none => none
def ckC (all : List Oper) (m : List Nat) (F : Nat -> Option SV) (k l : Nat) : Bool :=
 (List.range all.length).all fun i => match all[i]? with
  | some o => match freeL all o with
    | some t => ordB m i k || match labS F t with
      | some a => !Nat.beq a l
      | none => false
    | none => true
  | none => true
abbrev NL := List (Nat × Blk)
def filN (m : List Nat) (i : Nat) : NL -> LL
 | [] => []
 | (k, b) :: N => match befB m i k with
   | true => b :: filN m i N
   | false => filN m i N
def allN : NL -> LL
 | [] => []
 | (_, b) :: N => b :: allN N
def updA (l : Nat) (cs : List SV) : LL -> LL
 | [] => []
 | b :: L => (if b.l = l then ⟨b.l, cs, b.t⟩ else b) :: updA l cs L
def updN (l : Nat) (cs : List SV) : NL -> NL
 | [] => []
 | (k, b) :: N => (k, if b.l = l then ⟨b.l, cs, b.t⟩ else b) :: updN l cs N
def ownN (i : Nat) : LL -> NL
 | [] => []
 | b :: L => (i, b) :: ownN i L
def addN (L : Nat -> Option Blk) (nw : LL) (l : Nat) : Option Blk :=
 match L l with
 | some b => some b
 | none => find nw l
structure EN (g : G) (P : Program) (o : Oper) (F : Nat -> Option SV) (M : Nat -> Option Blk) (v : SV) (nw : LL) : Prop where
 run : ∀ (β : Nat -> Nat) (p : Nat -> Prop) (F' : Nat -> Option SV) (L' : Nat -> Option Blk) (a : Act) (W : World), (∀ t ∈ tmpsL o.op.operands.toList, F' t = F t) -> (∀ l b, M l = some b -> L' l = some b) -> (∀ b ∈ nw, ¬ p b.l) -> Mem g β L' p W -> Fra g β F' p a ->
  ∀ (next : Act -> World -> Prop) (Q : Exit -> Act -> World -> Prop), (∀ γ a' W', Mem g γ (addN L' nw) (fun l => p l \/ ∃ b ∈ nw, b.l = l) W' ->
    Fra g γ (upF F' o.dst v) (fun l => p l \/ ∃ b ∈ nw, b.l = l) a' -> next a' W') -> o.wp P a W next Q
def selM (o : Oper) (M : Nat -> Option Blk) : Nat -> Option Blk :=
 match memOf o with
 | true => M
 | false => fun _ => none
def StepD (g : G) (P : Program) (o : Oper) (F : FF) (M : LL) (n : Nat) (K : SV -> LL -> Nat -> Prop) : Prop :=
 ∃ v nw n', EN g P o (look F) (selM o (find M)) v nw /\ n <= n' /\ (∀ b ∈ nw, n <= b.l /\ b.l < n') /\ (nw.map Blk.l).Nodup /\ K v nw n'
section
variable (T : Nat -> Option Ty) (A : Ar) (P : Program) (g : G) (n0 : Nat) (ms : List Nat) (ck : Nat -> Nat -> Bool)
def vcR (R : FF -> LL -> NL -> Nat -> Prop) (m : List Nat) (i : Nat) (o : Oper) (F : FF) (B : LL) (N : NL) (n : Nat) : Prop :=
 vcOpG T A n0 ms (StepD g P o F (B ++ filN m i N) n fun v nw n' => R (putO F o.dst v) B (N ++ ownN i nw) n') (fun F' => R F' B N n)
  (fun F' b => R F' B (N ++ [(i, b)]) (n + 1)) (fun F' l cs => ck i l = true /\ R F' (updA l cs B) (updN l cs N) n) o F (B ++ filN m i N) n
def vcD (all : List Oper) (m : List Nat) (K : FF -> LL -> Nat -> Prop) : List Oper -> Nat -> FF -> LL -> NL -> Nat -> Prop
 | [], _, F, B, N, n => K F (B ++ allN N) n
 | o :: rest, i, F, B, N, n =>
   match o.guard with
   | none => vcR T A P g n0 ms ck (vcD all m K rest (i + 1)) m i o F B N n
   | some (j, b) => match all[j]? with
     | some oj => match oj.dst with
       | some d => match look F d with
         | some (.bool x) => match x with
           | true => match b with
             | true => vcR T A P g n0 ms ck (vcD all m K rest (i + 1)) m i o F B N n
             | false => vcD all m K rest (i + 1) (putO F o.dst (.raw undef)) B N n
           | false => match b with
             | true => vcD all m K rest (i + 1) (putO F o.dst (.raw undef)) B N n
             | false => vcR T A P g n0 ms ck (vcD all m K rest (i + 1)) m i o F B N n
         | _ => False
       | none => False
     | none => False
def vcT (sk : Nat -> Bool) (all : List Oper) (m : List Nat) (K : FF -> LL -> NL -> Nat -> Prop) : List Oper -> Nat -> FF -> LL -> NL -> Nat -> Prop
 | [], _, F, B, N, n => K F B N n
 | o :: rest, i, F, B, N, n =>
   match sk i with
   | true => vcT sk all m K rest (i + 1) F B N n
   | false => match o.guard with
     | none => vcR T A P g n0 ms ck (vcT sk all m K rest (i + 1)) m i o F B N n
     | some (j, b) => match all[j]? with
       | some oj => match oj.dst with
         | some d => match look F d with
           | some (.bool x) => match x with
             | true => match b with
               | true => vcR T A P g n0 ms ck (vcT sk all m K rest (i + 1)) m i o F B N n
               | false => vcT sk all m K rest (i + 1) (putO F o.dst (.raw undef)) B N n
             | false => match b with
               | true => vcT sk all m K rest (i + 1) (putO F o.dst (.raw undef)) B N n
               | false => vcR T A P g n0 ms ck (vcT sk all m K rest (i + 1)) m i o F B N n
           | _ => False
         | none => False
       | none => False
theorem vcD_eq (all : List Oper) (m : List Nat) (K : FF -> LL -> Nat -> Prop) : ∀ (rest : List Oper) (i : Nat), vcD T A P g n0 ms ck all m K rest i = vcT T A P g n0 ms ck (fun _ => false) all m (fun F B N n => K F (B ++ allN N) n) rest i
 | [], _ => rfl
 | o :: rest, i => by
   funext F B N n
   simp only [vcD, vcT, vcD_eq all m K rest (i + 1)]
end
end Go.Vg
end
section
namespace Go.Vg
open Go.RowKit
theorem ev_congr {F F' : Nat -> Option SV} {x : Operand} (h : ∀ t ∈ tmpOf x, F' t = F t) : ev F' x = ev F x := by
 cases x with
 | tmp t => exact h t (by simp [tmpOf])
 | _ => rfl
theorem tmpsL_mem {xs : List Operand} {x : Operand} (hx : x ∈ xs) {t : Nat} (ht : t ∈ tmpOf x) : t ∈ tmpsL xs := by
 induction xs with
 | nil => cases hx
 | cons y ys ih =>
   simp only [tmpsL, List.mem_append]
   rcases List.mem_cons.1 hx with rfl | hx
   ·exact Or.inl ht
   ·exact Or.inr (ih hx)
theorem evs_congr {F F' : Nat -> Option SV} : ∀ {xs : List Operand}, (∀ x ∈ xs, ev F' x = ev F x) -> evs F' xs = evs F xs
 | [], _ => rfl
 | x :: xs, h => by
   simp only [evs]
   rw [h x List.mem_cons_self, evs_congr fun y hy => h y (List.mem_cons_of_mem _ hy)]
theorem fillS_congr {F F' : Nat -> Option SV} {pl : Nat -> Option (Nat × Nat)} : ∀ {parts : List (Nat × Operand)} {cs : List SV}, (∀ p ∈ parts, ev F' p.2 = ev F p.2) -> fillS pl F' cs parts = fillS pl F cs parts
 | [], _, _ => rfl
 | (i, x) :: rest, cs, h => by
   have h1 : ev F' x = ev F x := h (i, x) List.mem_cons_self
   have h2 : ∀ cs, fillS pl F' cs rest = fillS pl F cs rest := fun cs => fillS_congr fun p hp => h p (List.mem_cons_of_mem _ hp)
   simp only [fillS, h1, h2]
theorem rd_mono {A : Ar} {M L : Nat -> Option Blk} (h : ∀ l b, M l = some b -> L l = some b) {i : Ty} {u v : SV} (hr : rd A M i u = some v) : rd A L i u = some v := by
 cases u with
 | ptr l o =>
   simp only [rd] at hr ⊢
   cases hl : M l with
   | none => simp [hl] at hr
   | some b => rw [h l b hl]; simpa only [hl] using hr
 | ptrS l o =>
   simp only [rd] at hr ⊢
   cases hl : M l with
   | none => simp [hl] at hr
   | some b => rw [h l b hl]; simpa only [hl] using hr
 | _ => simp [rd] at hr
section
variable {T : Nat -> Option Ty} {F F' : Nat -> Option SV} {M L : Nat -> Option Blk}
theorem native_congr {op : Op} (E : ∀ x ∈ op.operands.toList, ev F' x = ev F x) : native T F' op = native T F op := by
 cases op with
 | binOp op xt x y yt => simp only [native, E x (by simp [Op.operands]), E y (by simp [Op.operands])]
 | _ => rfl
set_option maxHeartbeats 1000000 in
theorem valV_congr {A : Ar} {op : Op} (E : ∀ x ∈ op.operands.toList, ev F' x = ev F x) (hM : (∀ l b, M l = some b -> L l = some b) \/ (∀ t x, op ≠ .load t x)) {v : SV} (h : valV A T F M op = some v) : valV A T F' L op = some v := by
 cases op with
 | load t x =>
   have E1 := E x (by simp [Op.operands])
   simp only [valV, E1] at h ⊢
   cases hx : ev F x with
   | none => simp [hx] at h
   | some u =>
     cases ht : T t with
     | none => simp [hx, ht] at h
     | some i =>
       simp only [hx, ht] at h ⊢
       rcases hM with hM | hM
       ·exact rd_mono hM h
       ·exact (hM t x rfl).elim
 | move x => simpa only [valV, E x (by simp [Op.operands])] using h
 | assign x => simpa only [valV, E x (by simp [Op.operands])] using h
 | pick c x y => simpa only [valV, E c (by simp [Op.operands]), E x (by simp [Op.operands]), E y (by simp [Op.operands])] using h
 | nilCheck x => simpa only [valV, E x (by simp [Op.operands])] using h
 | binOp op xt x y yt => simpa only [valV, E x (by simp [Op.operands]), E y (by simp [Op.operands])] using h
 | unOp op t x => simpa only [valV, E x (by simp [Op.operands])] using h
 | convert s d x => simpa only [valV, E x (by simp [Op.operands])] using h
 | makeFunc f x y =>
   have h1 : evs F' x.toList = evs F x.toList := evs_congr fun z hz => E z (by simp [Op.operands] at hz ⊢; exact Or.inl hz)
   have h2 : evs F' y.toList = evs F y.toList := evs_congr fun z hz => E z (by simp [Op.operands] at hz ⊢; exact Or.inr hz)
   simpa only [valV, h1, h2] using h
 | fieldAddr s x f => simpa only [valV, E x (by simp [Op.operands])] using h
 | field t x f => simpa only [valV, E x (by simp [Op.operands])] using h
 | indexAddr t x ix => simpa only [valV, E x (by simp [Op.operands]), E ix (by simp [Op.operands])] using h
 | index t x ix => simpa only [valV, E x (by simp [Op.operands]), E ix (by simp [Op.operands])] using h
 | extract x i => simpa only [valV, E x (by simp [Op.operands])] using h
 | build t parts =>
   have h1 : ∀ pl cs, fillS pl F' cs parts.toList = fillS pl F cs parts.toList := fun pl cs => fillS_congr fun p hp => E p.2 (by
    simp only [Op.operands]
    exact List.mem_map.2 ⟨p, hp, rfl⟩)
   simpa only [valV, h1] using h
 | call c =>
   simp only [valV] at h ⊢
   split at h
   ·rename_i x t hx hat
    have hc : x ∈ (Op.call c).operands.toList := by
     simp only [Op.operands, Call.operands, Array.toList_append, List.mem_append]
     right; rw [hx]; exact List.mem_cons_self
    simpa only [hx, hat, E x hc] using h
   ·cases h
 | _ => simp [valV] at h
theorem memOf_load {o : Oper} (h : memOf o = false) (t : TypeId) (x : Operand) : o.op ≠ .load t x := by
 intro e
 simp [memOf, e] at h
theorem Runs.congr {o : Oper} {e : Eff} (hr : Runs T F M o.op e) (hF : ∀ t ∈ tmpsL o.op.operands.toList, F' t = F t) (hM : memOf o = true -> ∀ l b, M l = some b -> L l = some b) : Runs T F' L o.op e := by
 have E : ∀ x ∈ o.op.operands.toList, ev F' x = ev F x := fun x hx => ev_congr fun t ht => hF t (tmpsL_mem hx ht)
 have hM2 : (∀ l b, M l = some b -> L l = some b) \/ (∀ t x, o.op ≠ .load t x) := by
  cases hm : memOf o with
  | true => exact Or.inl (hM hm)
  | false => exact Or.inr (memOf_load hm)
 generalize hop : o.op = op at hr E hM2
 cases hr with
 | val hn hv => exact .val (by rw [native_congr E]; exact hn) (valV_congr E hM2 hv)
 | alloc ht => exact .alloc ht
 | box hx hr => exact .box (by rw [E _ (by simp [Op.operands])]; exact hx) hr
 | buildSlice ht hd hj h1 h2 hs =>
   refine .buildSlice ht hd hj h1 h2 ?_
   rw [fillS_congr fun p hp => E p.2 (by
    simp only [Op.operands]
    exact List.mem_map.2 ⟨p, hp, rfl⟩)]
   exact hs
 | store hx hy ht hl h1 hL hp hle =>
   have hmem : memOf o = true := by simp [memOf, hop]
   exact .store (by rw [E _ (by simp [Op.operands])]; exact hx) (by rw [E _ (by simp [Op.operands])]; exact hy) ht hl h1 (hM hmem _ _ hL) hp hle
end
section
variable {P : Program} {g : G} {T : Nat -> Option Ty}
theorem EN.of_step {o : Oper} {F : Nat -> Option SV} {M : Nat -> Option Blk} {v : SV} (h : ∀ (β : Nat -> Nat) (p : Nat -> Prop) (F' : Nat -> Option SV) (L' : Nat -> Option Blk) (a : Act) (W : World), (∀ t ∈ tmpsL o.op.operands.toList, F' t = F t) -> (∀ l b, M l = some b -> L' l = some b) -> Mem g β L' p W -> Fra g β F' p a ->
 ∀ (next : Act -> World -> Prop) (Q : Exit -> Act -> World -> Prop), (∀ a' W', Mem g β L' p W' -> Fra g β (upF F' o.dst v) p a' -> next a' W') -> o.wp P a W next Q) : EN g P o F M v [] := by
 refine ⟨?_⟩
 intro β p F' L' a W h1 h2 _ hm hf next Q hn
 refine h β p F' L' a W h1 h2 hm hf next Q fun a' W' hm' hf' => hn β a' W' ?_ ?_
 ·have e1 : addN L' [] = L' := by
   funext l; unfold addN; cases L' l <;> rfl
  have e2 : (fun l => p l \/ ∃ b ∈ ([] : LL), b.l = l) = p := by funext l; simp
  rw [e1, e2]; exact hm'
 ·have e2 : (fun l => p l \/ ∃ b ∈ ([] : LL), b.l = l) = p := by funext l; simp
  rw [e2]; exact hf'
theorem op_ex (hT : TOk P T) {ops : Array Oper} {i : Nat} {o : Oper} (ho : ops[i]? = some o) (hd : ∀ t, o.dst = some t -> t < g.N) {e : E} (hed : e.d = o.dst) {Ft : Nat -> Option SV} {V : Nat -> Option Blk} {n : Nat}
 (hcase : ((∃ x, o.guard = none \/ ∃ j oj d, o.guard = some (j, x) /\ ops[j]? = some oj /\ oj.dst = some d /\ d ∈ lkOf ops.toList o /\ Ft d = some (.bool x)) /\
  ((∃ v, Runs T Ft V o.op (.val v) /\ e = ⟨o.dst, v, [], none⟩) \/ (∃ f cs t k, Runs T Ft V o.op (.new f cs t) /\ e = ⟨o.dst, f k, [⟨k, cs, t⟩], none⟩) \/
    (∃ l q vs b, Runs T Ft V o.op (.wr l q vs) /\ V l = some b /\ own g.n0 g.ms l = true /\ e = ⟨o.dst, .raw undef, [], some (l, q, vs)⟩) \/ (∃ v nw, EN g P o Ft (selM o V) v nw /\ e = ⟨o.dst, v, nw, none⟩))) \/
  ((∃ j x oj d, o.guard = some (j, !x) /\ ops[j]? = some oj /\ oj.dst = some d /\ d ∈ lkOf ops.toList o /\ Ft d = some (.bool x)) /\ e = ⟨o.dst, .raw undef, [], none⟩)) :
 ∀ (β : Nat -> Nat) (p : Nat -> Prop) (F' : Nat -> Option SV) (L' : Nat -> Option Blk) (a : Act) (W : World), (∀ t ∈ lkOf ops.toList o, F' t = Ft t) -> (memOf o = true -> ∀ l b, V l = some b -> L' l = some b) -> (∀ b ∈ e.nw, ¬ p b.l) -> (∀ l, l < n -> p l) ->
 Mem g β L' p W -> Fra g β F' p a -> ∀ (K : Act -> World -> Prop) (Q : Exit -> Act -> World -> Prop), (∀ γ a' W', Mem g γ (aL e L') (aP e p) W' -> Fra g γ (aF e F') (aP e p) a' -> K a' W') -> wpOp P ops Q i K a W := by
 intro β p F' L' a W hF hM hfr hlow hm hf K Q hK
 have nil1 : ∀ v : SV, aL ⟨o.dst, v, [], none⟩ L' = L' := by
  intro v; funext l; simp only [aL, gl]; cases L' l <;> rfl
 have nil2 : ∀ (v : SV) w, aP ⟨o.dst, v, [], w⟩ p = p := by
  intro v w; funext l; simp [aP, pl]
 have fr : ∀ (v : SV) nw w, aF ⟨o.dst, v, nw, w⟩ F' = upF F' o.dst v := fun v nw w => rfl
 have hops : ∀ t ∈ tmpsL o.op.operands.toList, F' t = Ft t := fun t ht => hF t (List.mem_append.2 (Or.inl ht))
 unfold wpOp
 simp only [ho]
 rcases hcase with ⟨⟨x, hg⟩, hc⟩ | ⟨⟨j, x, oj, d, hg, hj, hdj, hlk, hd2⟩, rfl⟩
 ·have hw : Region.wanted o (yielded ops a.tmps) = true := by
   rcases hg with hg | ⟨j, oj, d, hg, hj, hdj, hlk, hd2⟩
   ·simp [Region.wanted, hg]
   ·have := hf.fr d (.bool x) (by rw [hF d hlk]; exact hd2)
    have hy : yielded ops a.tmps j = some x := by
     unfold yielded
     simp [hj, hdj, this, den]
    simp [Region.wanted, hg, hy]
  rw [if_pos hw]
  left
  rcases hc with ⟨v, hr, rfl⟩ | ⟨f, cs, t, k, hr, rfl⟩ | ⟨l, q, vs, b, hr, hV, hown, rfl⟩ | ⟨v, nw, hen, rfl⟩
  ·refine (Runs.sound hT hm hf hd (hr.congr hops hM)).1 v rfl fun a' W' _ hm' hf' => hK β a' W' ?_ ?_
   ·rw [nil1, nil2]; exact hm'
   ·rw [nil2]; exact hf'
  ·have hk : ¬ p k := hfr ⟨k, cs, t⟩ List.mem_cons_self
   refine (Runs.sound hT hm hf hd (hr.congr hops hM)).2.1 f cs t k rfl hk fun γ a' W' _ _ hm' hf' => hK γ a' W' ?_ ?_
   ·have e1 : aL ⟨o.dst, f k, [⟨k, cs, t⟩], none⟩ L' = upL L' k ⟨k, cs, t⟩ := by
     funext l
     simp only [aL, gl, upL]
     by_cases hl : l = k
     ·subst hl
      cases hq : L' l with
      | some c => exact (hk (hm.bL l c hq).1).elim
      | none => simp [find]
     ·cases hq : L' l with
      | some c => simp [hl]
      | none => simp [find, hl, Ne.symm hl]
    have e2 : aP ⟨o.dst, f k, [⟨k, cs, t⟩], none⟩ p = fun l => p l \/ l = k := by
     funext l; simp [aP, pl, eq_comm]
    rw [e1, e2]; exact hm'
   ·have e2 : aP ⟨o.dst, f k, [⟨k, cs, t⟩], none⟩ p = fun l => p l \/ l = k := by
     funext l; simp [aP, pl, eq_comm]
    rw [e2]; exact hf'
  ·have hmm : memOf o = true := by
    generalize hop : o.op = op at hr
    cases hr
    simp [memOf, hop]
   have hL := hM hmm l b hV
   refine (Runs.sound hT hm hf hd (hr.congr hops hM)).2.2 l q vs b rfl hL hown fun a' W' _ hm' hf' => hK β a' W' ?_ ?_
   ·have e1 : aL ⟨o.dst, .raw undef, [], some (l, q, vs)⟩ L' = upL L' l ⟨b.l, splice b.cs q vs, b.t⟩ := by
     funext k
     simp only [aL, gl, upL]
     by_cases hk : k = l
     ·subst hk; simp [hL]
     ·simp [hk]
    rw [e1, nil2]; exact hm'
   ·rw [nil2]; exact hf'
  ·refine hen.run β p F' L' a W hops (fun l b hl => by unfold selM at hl; cases hmo : memOf o with | true => rw [hmo] at hl; exact hM hmo l b hl | false => rw [hmo] at hl; cases hl) hfr hm hf _ _ fun γ a' W' hm' hf' => hK γ a' W' ?_ ?_
   ·have e1 : aL ⟨o.dst, v, nw, none⟩ L' = addN L' nw := by
     funext l; simp only [aL, gl, addN]; cases L' l <;> rfl
    rw [e1]; exact hm'
   ·exact hf'
 ·have := hf.fr d (.bool x) (by rw [hF d hlk]; exact hd2)
  have hy : yielded ops a.tmps j = some x := by
   unfold yielded
   simp [hj, hdj, this, den]
  have hw : Region.wanted o (yielded ops a.tmps) = false := by
   simp [Region.wanted, hg, hy]
  rw [if_neg (by rw [hw]; simp)]
  refine hK β _ W ?_ ?_
  ·rw [nil1, nil2]; exact hm
  ·rw [nil2]
   exact hf.put hd (v := .raw undef) (by simp [bd])
end
end Go.Vg
end
section
namespace Go.Vg
open Go.RowKit
theorem fo_append {α : Type} {f : E -> α -> α} {D : Nat -> Bool} {e : E} : ∀ {es : List E} {s : Nat} {x : α}, fo f D s (es ++ [e]) x = if D (s + es.length) then f e (fo f D s es x) else fo f D s es x
 | [], s, x => by simp [fo]
 | e' :: es, s, x => by
   simp only [List.cons_append, fo, List.length_cons]
   rw [fo_append, show s + 1 + es.length = s + (es.length + 1) by omega]
theorem fo_false {α : Type} {f : E -> α -> α} {D : Nat -> Bool} (hD : ∀ k, D k = false) : ∀ {es : List E} {s : Nat} {x : α}, fo f D s es x = x
 | [], _, _ => rfl
 | e :: es, s, x => by
   simp only [fo, hD s]
   exact fo_false hD
theorem fo_take {α : Type} {f : E -> α -> α} {D : Nat -> Bool} {i : Nat} (hD : ∀ k, i <= k -> D k = false) : ∀ {es : List E} {s : Nat} {x : α}, s <= i -> fo f D s es x = fo f D s (es.take (i - s)) x
 | [], _, _, _ => by simp [fo]
 | e :: es, s, x, hs => by
   by_cases h : s = i
   ·subst h
    simp only [Nat.sub_self, List.take_zero, fo]
    rw [hD s (Nat.le_refl _)]
    simp only [Bool.false_eq_true, if_false]
    have : ∀ (es : List E) (s' : Nat) (x : α), s <= s' -> fo f D s' es x = x := by
     intro es
     induction es with
     | nil => intros; rfl
     | cons e es ih =>
       intro s' x hs'
       simp only [fo, hD s' hs']
       exact ih _ _ (by omega)
    exact this es _ _ (by omega)
   ·rw [show i - s = (i - (s + 1)) + 1 by omega, List.take_succ_cons]
    simp only [fo]
    exact fo_take hD (by omega)
def filP (D : Nat -> Bool) : NL -> LL
 | [] => []
 | (k, b) :: N => match D k with
   | true => b :: filP D N
   | false => filP D N
theorem filN_eq (m : List Nat) (i : Nat) : ∀ N, filN m i N = filP (befB m i) N
 | [] => rfl
 | (k, b) :: N => by simp only [filN, filP, filN_eq m i N]; all_goals (cases befB m i k <;> rfl)
theorem allN_eq : ∀ N, allN N = filP (fun _ => true) N
 | [] => rfl
 | (k, b) :: N => by simp only [allN, filP, allN_eq N]
theorem filP_append (D : Nat -> Bool) : ∀ N M, filP D (N ++ M) = filP D N ++ filP D M
 | [], _ => rfl
 | (k, b) :: N, M => by
   simp only [List.cons_append, filP, filP_append D N M]
   cases D k <;> rfl
theorem filP_own (D : Nat -> Bool) (i : Nat) : ∀ nw, filP D (ownN i nw) = if D i then nw else []
 | [] => by simp [ownN, filP]
 | b :: nw => by
   simp only [ownN, filP, filP_own D i nw]
   cases D i <;> rfl
theorem filP_mem {D : Nat -> Bool} {b : Blk} : ∀ {N}, b ∈ filP D N -> ∃ k, (k, b) ∈ N
 | [], h => by cases h
 | (k, c) :: N, h => by
   simp only [filP] at h
   cases hD : D k with
   | true =>
     rw [hD] at h
     rcases List.mem_cons.1 h with rfl | h
     ·exact ⟨k, List.mem_cons_self⟩
     ·obtain ⟨j, hj⟩ := filP_mem h; exact ⟨j, List.mem_cons_of_mem _ hj⟩
   | false =>
     rw [hD] at h
     obtain ⟨j, hj⟩ := filP_mem h; exact ⟨j, List.mem_cons_of_mem _ hj⟩
theorem find_updA (l0 : Nat) (cs : List SV) (l : Nat) : ∀ X, find (updA l0 cs X) l = if l = l0 then (find X l).map fun c => ⟨c.l, cs, c.t⟩ else find X l
 | [] => by by_cases h : l = l0 <;> simp [updA, find, h]
 | b :: X => by
   simp only [updA, find, find_updA l0 cs l X]
   by_cases hb : b.l = l0
   ·rw [if_pos hb]
    by_cases hl : l = l0
    ·subst hl; simp [hb]
    ·simp [hb, hl, Ne.symm hl]
   ·rw [if_neg hb]
    by_cases hl : l = l0
    ·subst hl; simp [hb]
    ·simp [hl]
theorem updA_append (l0 : Nat) (cs : List SV) : ∀ X Y, updA l0 cs (X ++ Y) = updA l0 cs X ++ updA l0 cs Y
 | [], _ => rfl
 | b :: X, Y => by simp only [List.cons_append, updA, updA_append l0 cs X Y]
theorem filP_updN (D : Nat -> Bool) (l0 : Nat) (cs : List SV) : ∀ N, filP D (updN l0 cs N) = updA l0 cs (filP D N)
 | [] => rfl
 | (k, b) :: N => by
   simp only [updN, filP, filP_updN D l0 cs N]
   cases D k <;> rfl
theorem updN_mem {l0 : Nat} {cs : List SV} {k : Nat} {b : Blk} : ∀ {N}, (k, b) ∈ updN l0 cs N -> ∃ c, (k, c) ∈ N /\ c.l = b.l
 | [], h => by cases h
 | (j, c) :: N, h => by
   simp only [updN] at h
   rcases List.mem_cons.1 h with e | h
   ·simp only [Prod.mk.injEq] at e
    obtain ⟨rfl, rfl⟩ := e
    refine ⟨c, List.mem_cons_self, ?_⟩
    by_cases hc : c.l = l0 <;> simp [hc]
   ·obtain ⟨d, hd, e⟩ := updN_mem h
    exact ⟨d, List.mem_cons_of_mem _ hd, e⟩
theorem updN_map (l0 : Nat) (cs : List SV) : ∀ N : NL, (updN l0 cs N).map (fun p => p.2.l) = N.map fun p => p.2.l
 | [] => rfl
 | (k, b) :: N => by
   simp only [updN, List.map_cons, updN_map l0 cs N]
   by_cases hb : b.l = l0 <;> simp [hb]
theorem ownN_mem {i k : Nat} {b : Blk} : ∀ {nw}, (k, b) ∈ ownN i nw -> k = i /\ b ∈ nw
 | [], h => by cases h
 | c :: nw, h => by
   simp only [ownN] at h
   rcases List.mem_cons.1 h with e | h
   ·simp only [Prod.mk.injEq] at e
    obtain ⟨rfl, rfl⟩ := e
    exact ⟨rfl, List.mem_cons_self⟩
   ·obtain ⟨h1, h2⟩ := ownN_mem h
    exact ⟨h1, List.mem_cons_of_mem _ h2⟩
theorem ownN_map (i : Nat) : ∀ nw, (ownN i nw).map (fun p => p.2.l) = nw.map Blk.l
 | [] => rfl
 | b :: nw => by simp [ownN, ownN_map i nw]
theorem nl_uniq {N : NL} (h : (N.map fun p => p.2.l).Nodup) {p q : Nat × Blk} (hp : p ∈ N) (hq : q ∈ N) (e : p.2.l = q.2.l) : p = q := by
 induction N with
 | nil => cases hp
 | cons x xs ih =>
   simp only [List.map_cons, List.nodup_cons] at h
   rcases List.mem_cons.1 hp with hp | hp <;> rcases List.mem_cons.1 hq with hq | hq
   ·rw [hp, hq]
   ·exact (h.1 (List.mem_map.2 ⟨q, hq, by rw [<- e, hp]⟩)).elim
   ·exact (h.1 (List.mem_map.2 ⟨p, hp, by rw [e, hq]⟩)).elim
   ·exact ih h.2 hp hq
structure Told (done : List E) (F0 : FF) (B0 : LL) (n0 : Nat) (F : FF) (B : LL) (N : NL) (n : Nat) : Prop where
 fr : look F = FD done (fun _ => true) (look F0)
 bl : ∀ (D : Nat -> Bool) (l : Nat), (∀ (k : Nat) (e : E) (q : Nat) (vs : List SV), done[k]? = some e -> e.w = some (l, q, vs) -> D k = true) -> LD done D (find B0) l = find (B ++ filP D N) l
 lb : ∀ (k : Nat) (b : Blk), (k, b) ∈ N -> n0 <= b.l /\ b.l < n
 nd : (N.map fun p => p.2.l).Nodup
 old : ∀ (l : Nat) (b : Blk), find B l = some b -> l < n0
 le : n0 <= n
 pd : ∀ (k : Nat) (e : E), done[k]? = some e -> ∀ b : Blk, b ∈ e.nw -> b.l < n
section
variable {done : List E} {F0 F : FF} {B0 B : LL} {n0 n : Nat} {N : NL}
theorem Told.app (h : Told done F0 B0 n0 F B N n) {d : Option Nat} {v : SV} {nw : LL} {n' : Nat} (hn : n <= n') (hnw : ∀ b ∈ nw, n <= b.l /\ b.l < n') (hnd : (nw.map Blk.l).Nodup) : Told (done ++ [⟨d, v, nw, none⟩]) F0 B0 n0 (putO F d v) B (N ++ ownN done.length nw) n' := by
 refine ⟨?_, ?_, ?_, ?_, h.old, Nat.le_trans h.le hn, ?_⟩
 ·rw [look_putO, h.fr]
  funext t
  simp only [FD, fo_append, if_true, upF, ft]
 ·intro D l hD
  have h1 := h.bl D l (fun k e q vs hk hw => hD k e q vs (by rw [List.getElem?_append_left (List.getElem?_eq_some_iff.1 hk).1]; exact hk) hw)
  simp only [LD, fo_append, Nat.zero_add] at h1 ⊢
  rw [filP_append, filP_own, <- List.append_assoc, find_append, <- h1]
  by_cases hd : D done.length = true
  ·rw [if_pos hd, if_pos hd]; rfl
  ·rw [if_neg hd, if_neg hd]
   cases fo (gl l) D 0 done (find B0 l) <;> rfl
 ·intro k b hb
  rcases List.mem_append.1 hb with hb | hb
  ·have := h.lb k b hb; omega
  ·have := hnw b (ownN_mem hb).2
   have := h.le
   omega
 ·rw [List.map_append, ownN_map, List.nodup_append]
  refine ⟨h.nd, hnd, ?_⟩
  intro x hx y hy
  obtain ⟨p, hp, rfl⟩ := List.mem_map.1 hx
  obtain ⟨b, hb, rfl⟩ := List.mem_map.1 hy
  have h1 := (h.lb p.1 p.2 hp).2
  have h2 := (hnw b hb).1
  omega
 ·intro k e hk b hb
  by_cases hlt : k < done.length
  ·rw [List.getElem?_append_left hlt] at hk
   have := h.pd k e hk b hb; omega
  ·rw [List.getElem?_append_right (by omega)] at hk
   cases hkk : k - done.length with
   | zero =>
     rw [hkk] at hk
     simp only [List.getElem?_cons_zero, Option.some.injEq] at hk
     subst hk
     exact (hnw b hb).2
   | succ j => rw [hkk] at hk; simp at hk
theorem Told.val (h : Told done F0 B0 n0 F B N n) {d : Option Nat} {v : SV} : Told (done ++ [⟨d, v, [], none⟩]) F0 B0 n0 (putO F d v) B N n := by
 have := h.app (d := d) (v := v) (nw := []) (Nat.le_refl n) (fun b hb => by cases hb) (by simp)
 simpa [ownN] using this
theorem Told.wr (h : Told done F0 B0 n0 F B N n) {d : Option Nat} {l0 q : Nat} {vs : List SV} {b : Blk} {D' : Nat -> Bool} (hb : find (B ++ filP D' N) l0 = some b) :
 Told (done ++ [⟨d, .raw undef, [], some (l0, q, vs)⟩]) F0 B0 n0 (putO F d (.raw undef)) (updA l0 (splice b.cs q vs) B) (updN l0 (splice b.cs q vs) N) n := by
 refine ⟨?_, ?_, ?_, ?_, ?_, h.le, ?_⟩
 ·rw [look_putO, h.fr]
  funext t
  simp only [FD, fo_append, if_true, upF, ft]
 ·intro D l hD
  have h1 := h.bl D l (fun k e q vs hk hw => hD k e q vs (by rw [List.getElem?_append_left (List.getElem?_eq_some_iff.1 hk).1]; exact hk) hw)
  by_cases hl : l = l0
  ·have hDi := hD done.length ⟨d, .raw undef, [], some (l0, q, vs)⟩ q vs (by simp) (by rw [hl])
   simp only [LD, fo_append, Nat.zero_add] at h1 ⊢
   rw [if_pos hDi, filP_updN, <- updA_append, find_updA, h1]
   simp only [gl]
   subst hl
   rw [if_pos rfl, if_pos rfl]
   cases hq : find (B ++ filP D N) l with
   | none => rfl
   | some c =>
     have : c = b := by
      rw [find_append] at hq hb
      cases hB : find B l with
      | some c' =>
        rw [hB] at hq hb
        simp only [Option.some.injEq] at hq hb
        rw [<- hq, <- hb]
      | none =>
        rw [hB] at hq hb
        simp only at hq hb
        obtain ⟨m1, e1⟩ := find_mem hq
        obtain ⟨m2, e2⟩ := find_mem hb
        obtain ⟨k1, p1⟩ := filP_mem m1
        obtain ⟨k2, p2⟩ := filP_mem m2
        have := nl_uniq h.nd p1 p2 (by rw [e1, e2])
        simp only [Prod.mk.injEq] at this
        exact this.2
     subst this
     rfl
  ·simp only [LD, fo_append, Nat.zero_add] at h1 ⊢
   rw [filP_updN, <- updA_append, find_updA, if_neg hl, <- h1]
   split
   ·simp only [gl]; rw [if_neg hl]
   ·rfl
 ·intro k c hc
  obtain ⟨c', hc', e⟩ := updN_mem hc
  rw [<- e]; exact h.lb k c' hc'
 ·rw [updN_map]; exact h.nd
 ·intro l c hc
  rw [find_updA] at hc
  by_cases hl : l = l0
  ·rw [if_pos hl] at hc
   obtain ⟨c', hc', _⟩ := Option.map_eq_some_iff.1 hc
   exact h.old l c' hc'
  ·rw [if_neg hl] at hc; exact h.old l c hc
 ·intro k e hk b' hb'
  by_cases hlt : k < done.length
  ·rw [List.getElem?_append_left hlt] at hk
   exact h.pd k e hk b' hb'
  ·rw [List.getElem?_append_right (by omega)] at hk
   cases hkk : k - done.length with
   | zero =>
     rw [hkk] at hk
     simp only [List.getElem?_cons_zero, Option.some.injEq] at hk
     subst hk
     cases hb'
   | succ j => rw [hkk] at hk; simp at hk
end
end Go.Vg
end
section
namespace Go.Vg
open Go.RowKit
theorem maskOf_bit {acc : List Nat} {k : Nat} : ∀ {es : List Edge}, (maskOf acc es).testBit k = true -> ∃ e ∈ es, Region.binds .any e = true /\ (e.on = k \/ (acc.getD e.on 0).testBit k = true)
 | [], h => by simp [maskOf] at h
 | e :: es, h => by
   simp only [maskOf] at h
   cases hb : Region.binds .any e with
   | false =>
     rw [hb] at h
     obtain ⟨e', h1, h2⟩ := maskOf_bit h
     exact ⟨e', List.mem_cons_of_mem _ h1, h2⟩
   | true =>
     rw [hb] at h
     simp only [Nat.testBit_or, Bool.or_eq_true] at h
     rcases h with (h | h) | h
     ·rw [Nat.testBit_two_pow] at h
      exact ⟨e, List.mem_cons_self, hb, Or.inl (by simpa using h)⟩
     ·exact ⟨e, List.mem_cons_self, hb, Or.inr h⟩
     ·obtain ⟨e', h1, h2⟩ := maskOf_bit h
      exact ⟨e', List.mem_cons_of_mem _ h1, h2⟩
theorem maskL_old : ∀ (os : List Oper) (acc : List Nat) (i : Nat), i < acc.length -> (maskL acc os).getD i 0 = acc.getD i 0
 | [], acc, i, _ => rfl
 | o :: os, acc, i, h => by
   simp only [maskL]
   rw [maskL_old os _ i (by simp; omega)]
   simp [List.getD_eq_getElem?_getD, List.getElem?_append_left h]
theorem maskL_new : ∀ (os : List Oper) (acc : List Nat) (i : Nat) (o : Oper), os[i]? = some o -> ∃ acc' : List Nat, acc'.length = acc.length + i /\ (maskL acc os).getD (acc.length + i) 0 = maskOf acc' o.after.toList /\ ∀ j, j < acc'.length -> acc'.getD j 0 = (maskL acc os).getD j 0
 | [], acc, i, o, h => by simp at h
 | o' :: os, acc, 0, o, h => by
   simp only [List.getElem?_cons_zero, Option.some.injEq] at h
   subst h
   refine ⟨acc, by simp, ?_, fun j hj => ?_⟩
   ·simp only [maskL, Nat.add_zero]
    rw [maskL_old os _ _ (by simp)]
    simp [List.getD_eq_getElem?_getD]
   ·simp only [maskL]
    rw [maskL_old os _ j (by simp; omega)]
    simp [List.getD_eq_getElem?_getD, List.getElem?_append_left hj]
 | o' :: os, acc, i + 1, o, h => by
   obtain ⟨acc', h1, h2, h3⟩ := maskL_new os (acc ++ [maskOf acc o'.after.toList]) i o (by simpa using h)
   refine ⟨acc', by simp at h1; omega, ?_, fun j hj => ?_⟩
   ·simp only [maskL]
    rw [<- h2]
    congr 1
    simp
    omega
   ·simp only [maskL]; exact h3 j hj
structure Edges (all : List Oper) (m : List Nat) (fl : Nat -> Option Nat) (ck : Nat -> Nat -> Bool) : Prop where
 clos : ∀ (i : Nat) (o : Oper) (k : Nat), all[i]? = some o -> befB m i k = true -> ∃ e ∈ o.after, Region.binds .any e = true /\ (e.on = k \/ befB m e.on k = true)
 back : ∀ (i : Nat) (o : Oper) (e : Edge), all[i]? = some o -> e ∈ o.after -> Region.binds .any e = true -> e.on < i
 dst : ∀ (i k : Nat) (o o' : Oper) (t : Nat), all[i]? = some o -> all[k]? = some o' -> i ≠ k -> o'.dst = some t -> o.dst ≠ some t /\ (t ∈ lkOf all o -> (k < i /\ befB m i k = true) \/ (i < k /\ befB m k i = true))
 ord : ∀ (i k : Nat) (o o' : Oper), all[i]? = some o -> all[k]? = some o' -> i ≠ k -> isStore o' = true -> memOf o = true -> ((k < i /\ befB m i k = true) \/ (i < k /\ befB m k i = true)) \/ ∀ l, ck k l = true -> ∃ a, fl i = some a /\ l ≠ a
theorem ordB_or {m : List Nat} {i k : Nat} (h : ordB m i k = true) : (k < i /\ befB m i k = true) \/ (i < k /\ befB m k i = true) := by
 simp only [ordB, Bool.or_eq_true, Bool.and_eq_true] at h
 rcases h with ⟨h1, h2⟩ | ⟨h1, h2⟩
 ·exact Or.inl ⟨Nat.le_of_ble_eq_true h1, h2⟩
 ·exact Or.inr ⟨Nat.le_of_ble_eq_true h1, h2⟩
theorem Edges.of {all : List Oper} {ck : Nat -> Nat -> Bool} (h : drawB all = true) : Edges all (maskL [] all) (fun _ => none) ck := by
 have h0 : ∀ i o, all[i]? = some o -> (∀ e ∈ o.after, Region.binds .any e = true -> e.on < i) /\ ∀ k o', all[k]? = some o' -> i ≠ k -> (∀ t, o'.dst = some t -> o.dst ≠ some t /\ (t ∈ lkOf all o -> ordB (maskL [] all) i k = true)) /\ (isStore o' = true -> memOf o = true -> ordB (maskL [] all) i k = true) := by
  intro i o hi
  have hil : i < all.length := (List.getElem?_eq_some_iff.1 hi).1
  simp only [drawB, List.all_eq_true, List.mem_range] at h
  have h1 := h i hil
  rw [hi] at h1
  simp only [Bool.and_eq_true, List.all_eq_true] at h1
  refine ⟨fun e he hb => ?_, fun k o' hk hik => ?_⟩
  ·have := h1.1 e (by simpa using he)
   rw [hb] at this
   simpa using this
  ·have hkl : k < all.length := (List.getElem?_eq_some_iff.1 hk).1
   have h2 := h1.2 k (List.mem_range.2 hkl)
   rw [hk] at h2
   have hne : Nat.beq i k = false := by
    cases hb : Nat.beq i k with
    | false => rfl
    | true => exact (hik (Nat.eq_of_beq_eq_true hb)).elim
   rw [hne] at h2
   simp only [Bool.false_or, Bool.and_eq_true] at h2
   refine ⟨fun t ht => ?_, fun hs hmm => ?_⟩
   ·have h3 := h2.1
    rw [ht] at h3
    simp only [Bool.and_eq_true, Bool.not_eq_true', Bool.or_eq_true] at h3
    refine ⟨fun e => by rw [e] at h3; simp at h3, fun hm => ?_⟩
    rcases h3.2 with h4 | h4
    ·rw [memN_iff.2 hm] at h4; cases h4
    ·exact h4
   ·have h3 := h2.2
    rw [hs, hmm] at h3
    simpa using h3
 refine ⟨?_, fun i o e hi => (h0 i o hi).1 e, ?_, ?_⟩
 ·intro i o k hi hb
  obtain ⟨acc', h1, h2, h3⟩ := maskL_new all [] i o hi
  simp only [List.length_nil, Nat.zero_add] at h1 h2
  unfold befB at hb
  rw [h2] at hb
  obtain ⟨e, he, hbi, hor⟩ := maskOf_bit hb
  refine ⟨e, by simpa using he, hbi, ?_⟩
  rcases hor with h4 | h4
  ·exact Or.inl h4
  ·right
   have hlt := (h0 i o hi).1 e (by simpa using he) hbi
   unfold befB
   rw [<- h3 e.on (by omega)]
   exact h4
 ·intro i k o o' t hi hk hik ht
  obtain ⟨h1, h2⟩ := ((h0 i o hi).2 k o' hk hik).1 t ht
  exact ⟨h1, fun hm => ordB_or (h2 hm)⟩
 ·intro i k o o' hi hk hik hs hm
  exact Or.inl (ordB_or (((h0 i o hi).2 k o' hk hik).2 hs hm))
theorem Edges.ofC {all : List Oper} {F : Nat -> Option SV} (h : drawC all = true) : Edges all (maskL [] all) (frL all F) (ckC all (maskL [] all) F) := by
 have h0 : ∀ i o, all[i]? = some o -> (∀ e ∈ o.after, Region.binds .any e = true -> e.on < i) /\ ∀ k o', all[k]? = some o' -> i ≠ k -> (∀ t, o'.dst = some t -> o.dst ≠ some t /\ (t ∈ lkOf all o -> ordB (maskL [] all) i k = true)) /\ (isStore o' = true -> memOf o = true -> ordB (maskL [] all) i k = true \/ (freeL all o).isSome = true) := by
  intro i o hi
  have hil : i < all.length := (List.getElem?_eq_some_iff.1 hi).1
  simp only [drawC, List.all_eq_true, List.mem_range] at h
  have h1 := h i hil
  rw [hi] at h1
  simp only [Bool.and_eq_true, List.all_eq_true] at h1
  refine ⟨fun e he hb => ?_, fun k o' hk hik => ?_⟩
  ·have := h1.1 e (by simpa using he)
   rw [hb] at this
   simpa using this
  ·have hkl : k < all.length := (List.getElem?_eq_some_iff.1 hk).1
   have h2 := h1.2 k (List.mem_range.2 hkl)
   rw [hk] at h2
   have hne : Nat.beq i k = false := by
    cases hb : Nat.beq i k with
    | false => rfl
    | true => exact (hik (Nat.eq_of_beq_eq_true hb)).elim
   rw [hne] at h2
   simp only [Bool.false_or, Bool.and_eq_true] at h2
   refine ⟨fun t ht => ?_, fun hs hmm => ?_⟩
   ·have h3 := h2.1
    rw [ht] at h3
    simp only [Bool.and_eq_true, Bool.not_eq_true', Bool.or_eq_true] at h3
    refine ⟨fun e => by rw [e] at h3; simp at h3, fun hm => ?_⟩
    rcases h3.2 with h4 | h4
    ·rw [memN_iff.2 hm] at h4; cases h4
    ·exact h4
   ·have h3 := h2.2
    rw [hs, hmm] at h3
    simpa using h3
 refine ⟨?_, fun i o e hi => (h0 i o hi).1 e, ?_, ?_⟩
 ·intro i o k hi hb
  obtain ⟨acc', h1, h2, h3⟩ := maskL_new all [] i o hi
  simp only [List.length_nil, Nat.zero_add] at h1 h2
  unfold befB at hb
  rw [h2] at hb
  obtain ⟨e, he, hbi, hor⟩ := maskOf_bit hb
  refine ⟨e, by simpa using he, hbi, ?_⟩
  rcases hor with h4 | h4
  ·exact Or.inl h4
  ·right
   have hlt := (h0 i o hi).1 e (by simpa using he) hbi
   unfold befB
   rw [<- h3 e.on (by omega)]
   exact h4
 ·intro i k o o' t hi hk hik ht
  obtain ⟨h1, h2⟩ := ((h0 i o hi).2 k o' hk hik).1 t ht
  exact ⟨h1, fun hm => ordB_or (h2 hm)⟩
 ·intro i k o o' hi hk hik hs hm
  rcases ((h0 i o hi).2 k o' hk hik).2 hs hm with h1 | h1
  ·exact Or.inl (ordB_or h1)
  ·cases hb : ordB (maskL [] all) i k with
   | true => exact Or.inl (ordB_or hb)
   | false =>
     right
     intro l hl
     obtain ⟨t, ht⟩ := Option.isSome_iff_exists.1 h1
     simp only [ckC, List.all_eq_true, List.mem_range] at hl
     have h2 := hl i (List.getElem?_eq_some_iff.1 hi).1
     rw [hi] at h2
     simp only [ht, hb, Bool.false_or] at h2
     cases hlab : labS F t with
     | none => rw [hlab] at h2; cases h2
     | some a =>
       rw [hlab] at h2
       refine ⟨a, by simp [frL, hi, ht, hlab], fun e => ?_⟩
       subst e
       simp at h2
section
variable {P : Program} {g : G} {T : Nat -> Option Ty}
def Case (T : Nat -> Option Ty) (P : Program) (g : G) (all : List Oper) (o : Oper) (e : E) (Ft : Nat -> Option SV) (V : Nat -> Option Blk) : Prop :=
 ((∃ x, o.guard = none \/ ∃ j oj d, o.guard = some (j, x) /\ all[j]? = some oj /\ oj.dst = some d /\ d ∈ lkOf all o /\ Ft d = some (.bool x)) /\
     ((∃ v, Runs T Ft V o.op (.val v) /\ e = ⟨o.dst, v, [], none⟩) \/ (∃ f cs t k, Runs T Ft V o.op (.new f cs t) /\ e = ⟨o.dst, f k, [⟨k, cs, t⟩], none⟩) \/
       (∃ l q vs b, Runs T Ft V o.op (.wr l q vs) /\ V l = some b /\ own g.n0 g.ms l = true /\ e = ⟨o.dst, .raw undef, [], some (l, q, vs)⟩) \/ (∃ v nw, EN g P o Ft (selM o V) v nw /\ e = ⟨o.dst, v, nw, none⟩))) \/
     ((∃ j x oj d, o.guard = some (j, !x) /\ all[j]? = some oj /\ oj.dst = some d /\ d ∈ lkOf all o /\ Ft d = some (.bool x)) /\ e = ⟨o.dst, .raw undef, [], none⟩)
theorem Runs.wr_store {op : Op} {F : Nat -> Option SV} {L : Nat -> Option Blk} {l q : Nat} {vs : List SV} (h : Runs T F L op (.wr l q vs)) : ∃ t x y, op = .store t x y := by
 cases h
 exact ⟨_, _, _, rfl⟩
def visV (fl : Nat -> Option Nat) (i : Nat) (V : Nat -> Option Blk) (l : Nat) : Option Blk :=
 match fl i with
 | none => V l
 | some a => if l = a then V l else none
theorem visV_none {fl : Nat -> Option Nat} {i : Nat} (h : fl i = none) (V : Nat -> Option Blk) : visV fl i V = V := by
 funext l; simp only [visV, h]
theorem load_vis {F : Nat -> Option SV} {M V : Nat -> Option Blk} {t x a : Nat} {e : Eff} (hr : Runs T F M (.load t (.tmp x)) e) (hlab : labS F x = some a) (h : V a = M a) : Runs T F V (.load t (.tmp x)) e := by
 generalize hop : Op.load t (.tmp x) = op at hr
 cases hr with
 | val hn hv =>
   subst hop
   refine .val hn ?_
   have hx : ev F (.tmp x) = F x := rfl
   simp only [valV, hx] at hv ⊢
   unfold labS at hlab
   cases hF : F x with
   | none => rw [hF] at hlab; cases hlab
   | some v =>
     rw [hF] at hlab hv
     simp only at hv ⊢
     cases hT : T t with
     | none => rw [hT] at hv; cases hv
     | some i =>
       rw [hT] at hv
       simp only at hv ⊢
       cases v with
       | ptr l o => simp only [Option.some.injEq] at hlab; subst hlab; simp only [rd, h] at hv ⊢; exact hv
       | ptrS l o => simp only [Option.some.injEq] at hlab; subst hlab; simp only [rd, h] at hv ⊢; exact hv
       | _ => simp at hlab
 | _ => cases hop
theorem vcOp_load {F : FF} {L : LL} {n n0 : Nat} {ms : List Nat} {o : Oper} {S : Prop} {Kv : FF -> Prop} {Kn : FF -> Blk -> Prop} {Kw : FF -> Nat -> List SV -> Prop} {t : Nat} {x : Operand} (hop : o.op = .load t x) (h : vcOpG T Ar.real n0 ms S Kv Kn Kw o F L n) :
 ∃ v, Runs T (look F) (find L) o.op (.val v) /\ Kv (putO F o.dst v) := by
 unfold vcOpG at h
 rw [hop] at h ⊢
 simp only [native] at h
 cases hv : valV Ar.real T (look F) (find L) (.load t x) with
 | none => rw [hv] at h; exact h.elim
 | some v => rw [hv] at h; exact ⟨v, .val rfl hv, h⟩
theorem vcOp_cases2 {F : FF} {L : LL} {n n0 : Nat} {ms : List Nat} {o : Oper} {S p : Prop} {Kv : FF -> Prop} {Kn : FF -> Blk -> Prop} {Kw : FF -> Nat -> List SV -> Prop} (hor : p \/ ∃ t x, o.op = .load t x) (h : vcOpG T Ar.real n0 ms S Kv Kn Kw o F L n) :
 (p /\ S) \/ (∃ v, Runs T (look F) (find L) o.op (.val v) /\ Kv (putO F o.dst v)) \/ (∃ f cs t, Runs T (look F) (find L) o.op (.new f cs t) /\ Kn (putO F o.dst (f n)) ⟨n, cs, t⟩) \/
 (∃ l q vs b, Runs T (look F) (find L) o.op (.wr l q vs) /\ find L l = some b /\ own n0 ms l = true /\ Kw (putO F o.dst (.raw undef)) l (splice b.cs q vs)) := by
 rcases hor with hp | ⟨t, x, hop⟩
 ·rcases vcOp_cases h with h | h
  ·exact Or.inl ⟨hp, h⟩
  ·exact Or.inr h
 ·exact Or.inr (Or.inl (vcOp_load hop h))
theorem Runs.quiet_new {o : Oper} {F : Nat -> Option SV} {L : Nat -> Option Blk} {f : Nat -> SV} {cs : List SV} {t : Nat} (h : Runs T F L o.op (.new f cs t)) (hq : quiet o = true) : False := by
 unfold quiet at hq
 generalize o.op = op at h hq
 cases h <;> simp at hq
theorem vcOp_cases3 {F : FF} {L : LL} {n n0 : Nat} {ms : List Nat} {o : Oper} {S p : Prop} {Kv : FF -> Prop} {Kn : FF -> Blk -> Prop} {Kw : FF -> Nat -> List SV -> Prop} (hor : p \/ ∃ t x, o.op = .load t x) (h : vcOpG T Ar.real n0 ms S Kv Kn Kw o F L n) :
 ((p /\ quiet o = false) /\ S) \/ (∃ v, Runs T (look F) (find L) o.op (.val v) /\ Kv (putO F o.dst v)) \/ (∃ f cs t, Runs T (look F) (find L) o.op (.new f cs t) /\ Kn (putO F o.dst (f n)) ⟨n, cs, t⟩) \/
 (∃ l q vs b, Runs T (look F) (find L) o.op (.wr l q vs) /\ find L l = some b /\ own n0 ms l = true /\ Kw (putO F o.dst (.raw undef)) l (splice b.cs q vs)) := by
 cases hq : quiet o with
 | false =>
   rcases vcOp_cases2 hor h with ⟨hp, hs⟩ | h
   ·exact Or.inl ⟨⟨hp, rfl⟩, hs⟩
   ·exact Or.inr h
 | true =>
   right; left
   unfold quiet at hq
   unfold vcOpG at h
   cases ho : o.op with
   | move _ | assign _ | load _ _ | fieldAddr _ _ _ | nilCheck _ | extract _ _ =>
     rw [ho] at h
     simp only [native] at h
     split at h
     ·rename_i v hv
      exact ⟨v, .val rfl hv, h⟩
     ·exact h.elim
   | _ => rw [ho] at hq; simp at hq
theorem vcT_run {sk : Nat -> Bool} {all : List Oper} {m : List Nat} {fl : Nat -> Option Nat} {ck : Nat -> Nat -> Bool} (hE : Edges all m fl ck) {F0 : FF} {B0 : LL} {nS : Nat} {K : FF -> LL -> NL -> Nat -> Prop} (hfl : ∀ i a, fl i = some a -> ∃ o t x, all[i]? = some o /\ o.op = .load t (.tmp x) /\ (∀ o' ∈ all, o'.dst ≠ some x) /\ labS (look F0) x = some a) : ∀ (rest : List Oper) (done : List E) (F : FF) (B : LL) (N : NL) (n : Nat), (∃ tl, all.drop done.length = rest ++ tl) -> Told done F0 B0 nS F B N n ->
 (∀ (k : Nat) (e : E), done[k]? = some e -> ∃ o, all[k]? = some o /\ (∀ t, e.d = some t -> o.dst = some t) /\ ∀ l q vs, e.w = some (l, q, vs) -> isStore o = true /\ ck k l = true) -> vcT T Ar.real P g g.n0 g.ms ck sk all m K rest done.length F B N n ->
 ∃ (es : List E) (F' : FF) (B' : LL) (N' : NL) (n' : Nat) (nnf : Nat -> Nat), es.length = rest.length /\ Told (done ++ es) F0 B0 nS F' B' N' n' /\ K F' B' N' n' /\ nnf 0 = n /\
   (∀ (j : Nat) (e : E) (o : Oper), es[j]? = some e -> rest[j]? = some o -> ((sk (done.length + j) = false /\ e.d = o.dst /\ (e.w ≠ none -> isStore o = true /\ memOf o = true) /\ Case T P g all o e (FD (done ++ es.take j) (fun _ => true) (look F0)) (visV fl (done.length + j) (LD (done ++ es.take j) (befB m (done.length + j)) (find B0)))) \/ (sk (done.length + j) = true /\ e = ⟨none, .nilp, [], none⟩)) /\
    (∀ l q vs, e.w = some (l, q, vs) -> (∃ b, LD (done ++ es.take j) (befB m (done.length + j)) (find B0) l = some b) /\ ck (done.length + j) l = true) /\ (∀ b ∈ e.nw, nnf j <= b.l /\ b.l < nnf (j + 1)) /\ nnf j <= nnf (j + 1) /\ (quiet o = true -> e.nw = [] /\ e.w = none)) := by
 intro rest
 induction rest with
 | nil =>
   intro done F B N n _ ht _ h
   exact ⟨[], F, B, N, n, fun _ => n, rfl, by simpa using ht, h, rfl, fun j e o hj => by simp at hj⟩
 | cons o rest ih =>
   intro done F B N n hdrop ht hst h
   obtain ⟨tl, hdrop⟩ := hdrop
   have hoi : all[done.length]? = some o := by
    have := congrArg (fun l => l[0]?) hdrop
    simpa using this
   have hdrop' : all.drop (done.length + 1) = rest ++ tl := by
    have := congrArg (List.drop 1) hdrop
    simpa [Nat.add_comm] using this
   have hV : memOf o = true -> ∀ l, (fl done.length = none \/ fl done.length = some l) -> LD done (befB m done.length) (find B0) l = find (B ++ filN m done.length N) l := by
    intro hm l hor
    rw [filN_eq]
    refine ht.bl _ l (fun k e q vs hk hw => ?_)
    obtain ⟨o', ho', _, hst'⟩ := hst k e hk
    obtain ⟨hs, hck⟩ := hst' l q vs hw
    have hkl : k < done.length := (List.getElem?_eq_some_iff.1 hk).1
    rcases hE.ord _ _ _ _ hoi ho' (by omega) hs hm with (⟨_, h2⟩ | ⟨h1, _⟩) | h3
    ·exact h2
    ·omega
    ·obtain ⟨a, ha, hne⟩ := h3 l hck
     rcases hor with h | h
     ·rw [h] at ha; cases ha
     ·rw [h] at ha; exact (hne (Option.some.inj ha)).elim
   have conv : ∀ {e : Eff}, Runs T (look F) (find (B ++ filN m done.length N)) o.op e -> Runs T (FD done (fun _ => true) (look F0)) (visV fl done.length (LD done (befB m done.length) (find B0))) o.op e := by
    intro e hr
    cases hf : fl done.length with
    | none =>
      rw [<- ht.fr, visV_none hf]
      exact hr.congr (fun _ _ => rfl) (fun hm l b hl => by rw [hV hm l (Or.inl hf)]; exact hl)
    | some a =>
      obtain ⟨o', t, x, ho', hop, hx, hlab⟩ := hfl _ _ hf
      rw [hoi] at ho'
      obtain rfl := Option.some.inj ho'
      have hFx : look F x = look F0 x := by
       rw [ht.fr]
       refine ft_none fun k e h1 _ => ?_
       obtain ⟨o'', h2, h3, _⟩ := hst k e h1
       intro h4
       exact hx o'' (List.mem_of_getElem? h2) (h3 _ h4)
      have hlab' : labS (look F) x = some a := by unfold labS at hlab ⊢; rw [hFx]; exact hlab
      rw [<- ht.fr]
      rw [hop] at hr ⊢
      refine load_vis hr hlab' ?_
      simp only [visV, hf, if_true]
      exact hV (by simp [memOf, hop]) a (Or.inr hf)
   -- one operation's effect, then the rest
   have step : ∀ (e : E) (F1 : FF) (B1 : LL) (N1 : NL) (n1 : Nat), ((sk done.length = false /\ e.d = o.dst /\ (e.w ≠ none -> isStore o = true /\ memOf o = true) /\ Case T P g all o e (FD done (fun _ => true) (look F0)) (visV fl done.length (LD done (befB m done.length) (find B0)))) \/ (sk done.length = true /\ e = ⟨none, .nilp, [], none⟩)) ->
    (∀ l q vs, e.w = some (l, q, vs) -> (∃ b, LD done (befB m done.length) (find B0) l = some b) /\ ck done.length l = true) -> (quiet o = true -> e.nw = [] /\ e.w = none) -> (∀ b ∈ e.nw, n <= b.l /\ b.l < n1) -> n <= n1 -> Told (done ++ [e]) F0 B0 nS F1 B1 N1 n1 ->
    vcT T Ar.real P g g.n0 g.ms ck sk all m K rest (done.length + 1) F1 B1 N1 n1 -> ∃ (es : List E) (F' : FF) (B' : LL) (N' : NL) (n' : Nat) (nnf : Nat -> Nat), es.length = (o :: rest).length /\ Told (done ++ es) F0 B0 nS F' B' N' n' /\ K F' B' N' n' /\ nnf 0 = n /\
    (∀ (j : Nat) (e : E) (o' : Oper), es[j]? = some e -> (o :: rest)[j]? = some o' -> ((sk (done.length + j) = false /\ e.d = o'.dst /\ (e.w ≠ none -> isStore o' = true /\ memOf o' = true) /\ Case T P g all o' e (FD (done ++ es.take j) (fun _ => true) (look F0)) (visV fl (done.length + j) (LD (done ++ es.take j) (befB m (done.length + j)) (find B0)))) \/ (sk (done.length + j) = true /\ e = ⟨none, .nilp, [], none⟩)) /\
     (∀ l q vs, e.w = some (l, q, vs) -> (∃ b, LD (done ++ es.take j) (befB m (done.length + j)) (find B0) l = some b) /\ ck (done.length + j) l = true) /\ (∀ b ∈ e.nw, nnf j <= b.l /\ b.l < nnf (j + 1)) /\ nnf j <= nnf (j + 1) /\ (quiet o' = true -> e.nw = [] /\ e.w = none)) := by
    intro e F1 B1 N1 n1 h1 h4 hqt h5 h6 h7 h8
    obtain ⟨es, F', B', N', n', nnf, k1, k2, k3, k4, k5⟩ := ih (done ++ [e]) F1 B1 N1 n1 ⟨tl, by simpa using hdrop'⟩ h7 (fun k e' hk => by
     by_cases hlt : k < done.length
     ·rw [List.getElem?_append_left hlt] at hk
      exact hst k e' hk
     ·rw [List.getElem?_append_right (by omega)] at hk
      cases hkk : k - done.length with
      | zero =>
        rw [hkk] at hk
        simp only [List.getElem?_cons_zero, Option.some.injEq] at hk
        subst hk
        have hk' : k = done.length := by omega
        refine ⟨o, by rw [hk']; exact hoi, fun t ht => ?_, fun l q vs hw => ⟨?_, by rw [hk']; exact (h4 l q vs hw).2⟩⟩
        ·rcases h1 with h1 | h1
         ·rw [<- h1.2.1]; exact ht
         ·rw [h1.2] at ht; cases ht
        ·rcases h1 with h1 | h1
         ·exact (h1.2.2.1 (by rw [hw]; simp)).1
         ·rw [h1.2] at hw; cases hw
      | succ j => rw [hkk] at hk; simp at hk) (by simpa using h8)
    refine ⟨e :: es, F', B', N', n', fun j => if j = 0 then n else nnf (j - 1), by simp [k1], by simpa using k2, k3, rfl, ?_⟩
    intro j e' o' hj ho'
    cases j with
    | zero =>
      simp only [List.getElem?_cons_zero, Option.some.injEq] at hj ho'
      subst hj ho'
      refine ⟨by simpa using h1, by simpa using h4, ?_, ?_, hqt⟩
      ·intro b hb
       have := h5 b hb
       simp only [if_true, Nat.zero_add, Nat.one_ne_zero, if_false, Nat.sub_self, k4]
       exact this
      ·simp only [if_true, Nat.zero_add, Nat.one_ne_zero, if_false, Nat.sub_self, k4]
       exact h6
    | succ j =>
      have := k5 j e' o' (by simpa using hj) (by simpa using ho')
      simp only [List.take_succ_cons, List.length_append, List.length_cons, List.length_nil, List.append_assoc, List.cons_append, List.nil_append] at this ⊢
      rw [show done.length + (0 + 1) + j = done.length + (j + 1) by omega] at this
      refine ⟨this.1, this.2.1, ?_, ?_, this.2.2.2.2⟩
      ·simpa using this.2.2.1
      ·simpa using this.2.2.2.1
   simp only [vcT, vcR] at h
   cases hsk : sk done.length with
   | true =>
     simp only [hsk] at h
     refine step ⟨none, .nilp, [], none⟩ F B N n (Or.inr ⟨hsk, rfl⟩) (fun _ _ _ h => by cases h) (fun _ => ⟨rfl, rfl⟩) (fun b hb => by cases hb) (Nat.le_refl n) ?_ h
     exact ht.val (d := none) (v := .nilp)
   | false =>
   simp only [hsk] at h
   have exec : (∃ x, o.guard = none \/ ∃ j oj d, o.guard = some (j, x) /\ all[j]? = some oj /\ oj.dst = some d /\ d ∈ lkOf all o /\ FD done (fun _ => true) (look F0) d = some (.bool x)) ->
    vcOpG T Ar.real g.n0 g.ms (StepD g P o F (B ++ filN m done.length N) n fun v nw n' => vcT T Ar.real P g g.n0 g.ms ck sk all m K rest (done.length + 1) (putO F o.dst v) B (N ++ ownN done.length nw) n') (fun F' => vcT T Ar.real P g g.n0 g.ms ck sk all m K rest (done.length + 1) F' B N n)
     (fun F' b => vcT T Ar.real P g g.n0 g.ms ck sk all m K rest (done.length + 1) F' B (N ++ [(done.length, b)]) (n + 1)) (fun F' l cs => ck done.length l = true /\ vcT T Ar.real P g g.n0 g.ms ck sk all m K rest (done.length + 1) F' (updA l cs B) (updN l cs N) n) o F (B ++ filN m done.length N) n ->
    ∃ (es : List E) (F' : FF) (B' : LL) (N' : NL) (n' : Nat) (nnf : Nat -> Nat), es.length = (o :: rest).length /\ Told (done ++ es) F0 B0 nS F' B' N' n' /\ K F' B' N' n' /\ nnf 0 = n /\
    (∀ (j : Nat) (e : E) (o' : Oper), es[j]? = some e -> (o :: rest)[j]? = some o' -> ((sk (done.length + j) = false /\ e.d = o'.dst /\ (e.w ≠ none -> isStore o' = true /\ memOf o' = true) /\ Case T P g all o' e (FD (done ++ es.take j) (fun _ => true) (look F0)) (visV fl (done.length + j) (LD (done ++ es.take j) (befB m (done.length + j)) (find B0)))) \/ (sk (done.length + j) = true /\ e = ⟨none, .nilp, [], none⟩)) /\
     (∀ l q vs, e.w = some (l, q, vs) -> (∃ b, LD (done ++ es.take j) (befB m (done.length + j)) (find B0) l = some b) /\ ck (done.length + j) l = true) /\ (∀ b ∈ e.nw, nnf j <= b.l /\ b.l < nnf (j + 1)) /\ nnf j <= nnf (j + 1) /\ (quiet o' = true -> e.nw = [] /\ e.w = none)) := by
    intro hg hv
    have hcs := vcOp_cases3 (p := fl done.length = none) (by
     cases hf : fl done.length with
     | none => exact Or.inl rfl
     | some a =>
       obtain ⟨o', t, x, ho', hop, _, _⟩ := hfl _ _ hf
       rw [hoi] at ho'
       obtain rfl := Option.some.inj ho'
       exact Or.inr ⟨t, _, hop⟩) hv
    rcases hcs with ⟨⟨hf, hqf⟩, v, nw, n1, hen, hn, hnw, hnd, hk⟩ | ⟨v, hr, hk⟩ | ⟨f, cs, t, hr, hk⟩ | ⟨l, q, vs, b, hr, hb, hown, hck, hk⟩
    ·refine step ⟨o.dst, v, nw, none⟩ _ B _ n1 (Or.inl ⟨hsk, rfl, fun h => (h rfl).elim, Or.inl ⟨hg, Or.inr (Or.inr (Or.inr ⟨v, nw, ?_, rfl⟩))⟩⟩) (fun _ _ _ h => by cases h) (fun hq => by rw [hqf] at hq; cases hq) hnw hn (ht.app hn hnw hnd) hk
     rw [<- ht.fr]
     have : selM o (visV fl done.length (LD done (befB m done.length) (find B0))) = selM o (find (B ++ filN m done.length N)) := by
      rw [visV_none hf]
      unfold selM
      cases hm : memOf o with
      | true => exact funext fun l => hV hm l (Or.inl hf)
      | false => rfl
     rw [this]; exact hen
    ·exact step ⟨o.dst, v, [], none⟩ _ B N n (Or.inl ⟨hsk, rfl, fun h => (h rfl).elim, Or.inl ⟨hg, Or.inl ⟨v, conv hr, rfl⟩⟩⟩) (fun _ _ _ h => by cases h) (fun _ => ⟨rfl, rfl⟩) (fun b hb => by cases hb) (Nat.le_refl n) ht.val hk
    ·refine step ⟨o.dst, f n, [⟨n, cs, t⟩], none⟩ _ B (N ++ [(done.length, ⟨n, cs, t⟩)]) (n + 1) (Or.inl ⟨hsk, rfl, fun h => (h rfl).elim, Or.inl ⟨hg, Or.inr (Or.inl ⟨f, cs, t, n, conv hr, rfl⟩)⟩⟩) (fun _ _ _ h => by cases h) (fun hq => (hr.quiet_new hq).elim) (fun b hb => ?_) (Nat.le_succ n) ?_ hk
     ·obtain rfl := List.mem_singleton.1 hb; simp
     ·have := ht.app (d := o.dst) (v := f n) (nw := [⟨n, cs, t⟩]) (Nat.le_succ n) (fun b hb => by obtain rfl := List.mem_singleton.1 hb; simp) (by simp)
      simpa [ownN] using this
    ·obtain ⟨t', x', y', hop⟩ := hr.wr_store
     have hs : isStore o = true := by simp [isStore, hop]
     have hm : memOf o = true := by simp [memOf, hop]
     have hf : fl done.length = none := by
      cases hf : fl done.length with
      | none => rfl
      | some a =>
        obtain ⟨o', t, x, ho', hop2, _, _⟩ := hfl _ _ hf
        rw [hoi] at ho'
        obtain rfl := Option.some.inj ho'
        rw [hop] at hop2; cases hop2
     have hVl : LD done (befB m done.length) (find B0) l = some b := by rw [hV hm l (Or.inl hf)]; exact hb
     refine step ⟨o.dst, .raw undef, [], some (l, q, vs)⟩ _ _ _ n (Or.inl ⟨hsk, rfl, fun _ => ⟨hs, hm⟩, Or.inl ⟨hg, Or.inr (Or.inr (Or.inl ⟨l, q, vs, b, conv hr, by rw [visV_none hf]; exact hVl, hown, rfl⟩))⟩⟩) (fun l' q' vs' h => ?_) (fun hq => by simp [quiet, hop] at hq) (fun b hb => by cases hb) (Nat.le_refl n) (ht.wr (by rw [<- filN_eq]; exact hb)) hk
     simp only [Option.some.injEq, Prod.mk.injEq] at h
     obtain ⟨rfl, _, _⟩ := h
     exact ⟨⟨b, hVl⟩, hck⟩
   cases hgd : o.guard with
   | none =>
     simp only [hgd] at h
     exact exec ⟨true, Or.inl hgd⟩ h
   | some p =>
     obtain ⟨j, bb⟩ := p
     simp only [hgd] at h
     cases hj : all[j]? with
     | none => simp [hj] at h
     | some oj =>
       simp only [hj] at h
       cases hdj : oj.dst with
       | none => simp [hdj] at h
       | some d =>
         simp only [hdj] at h
         have hlk : d ∈ lkOf all o := by
          unfold lkOf
          simp [hgd, hj, hdj]
         cases hl : look F d with
         | none => simp [hl] at h
         | some v =>
           cases v with
           | bool x =>
             have hFd : FD done (fun _ => true) (look F0) d = some (.bool x) := by rw [<- ht.fr]; exact hl
             have skip : bb = !x -> vcT T Ar.real P g g.n0 g.ms ck sk all m K rest (done.length + 1) (putO F o.dst (.raw undef)) B N n -> _ := fun hbb hk =>
              step ⟨o.dst, .raw undef, [], none⟩ _ B N n (Or.inl ⟨hsk, rfl, fun h => (h rfl).elim, Or.inr ⟨⟨j, x, oj, d, by rw [hgd, hbb], hj, hdj, hlk, hFd⟩, rfl⟩⟩) (fun _ _ _ h => by cases h) (fun _ => ⟨rfl, rfl⟩) (fun b hb => by cases hb) (Nat.le_refl n) ht.val hk
             simp only [hl] at h
             cases x <;> cases bb <;> simp only at h
             ·exact exec ⟨false, Or.inr ⟨j, oj, d, hgd, hj, hdj, hlk, hFd⟩⟩ h
             ·exact skip rfl h
             ·exact skip rfl h
             ·exact exec ⟨true, Or.inr ⟨j, oj, d, hgd, hj, hdj, hlk, hFd⟩⟩ h
           | _ => simp [hl] at h
end
end Go.Vg
end
