/-
  This text proves that the statement 'curvetlaw24.KeyTries' returns true for all its inputs, which read afterwards as before. Condition: none beyond what the statement's row says.
-/
import Derived.Test.YtdhmihfefgcbeaaGreatU01
import Derived.Test.YtdhmihfefgcbeaaGreatU23
import Derived.Test.YtdhmihfefgcbeaaGreatRows
set_option maxHeartbeats 8000000
namespace Go.Proofs.YtdhmihfefgcbeaaGreat.keyTries
open Go.ChangeShapes Go.WideShapes Go.ChangeAt Go.RowKit
set_option linter.unusedVariables false
theorem own:ownKnob Tryz.prog.godebug=none:=by kernel_rfl
theorem laid:laidOutB Tryz.prog=true:=by kernel_rfl
theorem kinds:∀t∈Tryz.f8.params.toList,Tryz.prog.readableRec t=true/\t<Tryz.prog.types.size:=by
 have h:(Tryz.f8.params.toList.all fun t=>Tryz.prog.readableRec t&&decide (t<Tryz.prog.types.size))=true:=by kernel_rfl
 intro t ht
 simpa using List.all_eq_true.1 h t ht
set_option maxRecDepth 100000 in
theorem lifted(os:Os)(started:os.Started)(H:Type)(enc:TypeId×Value->H):
 ReturnsInHanded {} Tryz.checked os 8 .any (Rows.keyTriesSpec.pre6 enc Tryz.prog Tryz.f8 Rows.keyTriesRow.domain false) (Rows.keyTriesSpec.post enc Tryz.prog Tryz.f8 false true false false):=by
 refine returnsInHanded_of_change_shaped (C:=Tryz.checked) own started (by kernel_rfl) Tryz.func8
  (ChangeSpec.witness6 (enc:=enc) (C:=Tryz.checked) false ⟨#[],#[.int .i64 0,.string ⟨#[]⟩],[]⟩ 8 (by kernel_rfl) (by kernel_rfl) (by kernel_rfl) (by kernel_rfl)) ?_
 intro W base args ds gs before hval0 hW hcnd hsz hshaped _
 have hval:∀ (j:Nat) t v,Tryz.f8.params[j]? =some t->args[j]? =some v->Value.okWide Tryz.prog W .any base t v:=hval0
 have hsize:args.size=Tryz.f8.params.size:=by
  obtain⟨p,q,hA,_⟩:=hW
  have h:=(trodAll_length hA).1
  simpa using h
 obtain⟨_,_,hA,_⟩:=id hW
 rw[Tryz.params8]at hval hsize hA hsz
 obtain⟨v0,v1,rfl⟩:=args2 hsize
 have k0:=hval 0 3 v0 rfl rfl
 have k1:=hval 1 9 v1 rfl rfl
 simp only[Value.okWide,Tryz.underlying3]at k0
 obtain⟨n1,rfl,h1,h2⟩:=open_i64 Tryz.underlying3 k0
 obtain⟨s,rfl,h0⟩:=text_size hA hsz (j:=1) rfl rfl Tryz.underlying9 k1
 have walked:=Vg.Con.calls (cKeyTries rfl n1 ⟨h1,h2⟩ s (by omega)) (fun _ _ _ h=>h) trivial W
 refine walked.mono fun e W' ⟨he,hB⟩=> ?_
 subst he
 exact⟨_,rfl,true_post 4 laid kinds rfl Tryz.underlying4 (by kernel_rfl) (fun ds h=>by rw[Tryz.params8]at h;match ds,h with| [d1,d2],_=>rfl) hW hB⟩
theorem over:Rows.keyTriesRow.holds Tryz.pinned (OpenSpec.ofChange Rows.keyTriesSpec):=
 OpenClaim.holds_of_wide 8 Tryz.f8 rfl rfl rfl rfl rfl rfl rfl ⟨rfl,rfl,rfl,rfl,rfl⟩ rfl rfl rfl rfl rfl (by kernel_rfl) Tryz.func8 (by kernel_rfl)
  (of_decide_eq_true (by kernel_rfl)) (by unfold Func.isWrapper;first|(rw[if_pos (by decide +kernel)];kernel_rfl)|(rw[if_neg (by decide +kernel)];exact⟨rfl,rfl⟩))
  (fun os started H enc _=>lifted os started H enc)
theorem proved:Rows.KeyTriesSaid:=
 over
#print axioms proved
end Go.Proofs.YtdhmihfefgcbeaaGreat.keyTries
