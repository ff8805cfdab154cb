/-
  This text proves that the statement 'curvetlaw24.KeyTiny' returns true for all its inputs, which read afterwards as before. Condition: none beyond what the statement's row says.
-/
import Derived.Test.YtdhmihfefgcbeaaGreatY01
import Derived.Test.YtdhmihfefgcbeaaGreatY23
import Derived.Test.YtdhmihfefgcbeaaGreatRows
set_option maxHeartbeats 8000000
set_option linter.all false
namespace Go.Proofs.YtdhmihfefgcbeaaGreat.keyTiny
open Go.ChangeShapes Go.WideShapes Go.ChangeAt Go.RowKit
set_option linter.unusedVariables false
theorem own:ownKnob Tryz.prog.godebug=none:=by kernel_rfl
theorem laid:laidOutB Tryz.prog=true:=by kernel_rfl
theorem kinds:∀t∈Tryz.f6.params.toList,Tryz.prog.readableRec t=true/\t<Tryz.prog.types.size:=by
 have h:(Tryz.f6.params.toList.all fun t=>Tryz.prog.readableRec t&&decide (t<Tryz.prog.types.size))=true:=by kernel_rfl
 intro t ht
 simpa using List.all_eq_true.1 h t ht
set_option maxRecDepth 100000 in
theorem lifted(os:Os)(started:os.Started)(H:Type)(enc:TypeId×Value->H):
 ReturnsInHanded {} Tryz.checked os 6 .any (Rows.keyTinySpec.pre6 enc Tryz.prog Tryz.f6 Rows.keyTinyRow.domain false) (Rows.keyTinySpec.post enc Tryz.prog Tryz.f6 false true false false):=by
 refine returnsInHanded_of_change_shaped (C:=Tryz.checked) own started (by kernel_rfl) Tryz.func6
  (ChangeSpec.witness6 (enc:=enc) (C:=Tryz.checked) false ⟨#[],#[.int .i64 0],[]⟩ 8 (by kernel_rfl) (by kernel_rfl) (by kernel_rfl) (by kernel_rfl)) ?_
 intro W base args ds gs before hval0 hW hcnd hsz hshaped _
 have hval:∀ (j:Nat) t v,Tryz.f6.params[j]? =some t->args[j]? =some v->Value.okWide Tryz.prog W .any base t v:=hval0
 have hsize:args.size=Tryz.f6.params.size:=by
  obtain⟨p,q,hA,_⟩:=hW
  have h:=(trodAll_length hA).1
  simpa using h
 obtain⟨_,_,hA,_⟩:=id hW
 rw[Tryz.params6]at hval hsize hA hsz
 obtain⟨v0,rfl⟩:=args1 hsize
 have k0:=hval 0 3 v0 rfl rfl
 simp only[Value.okWide,Tryz.underlying3]at k0
 obtain⟨n1,rfl,h1,h2⟩:=open_i64 Tryz.underlying3 k0
 have walked:=Vg.Con.calls (cKeyTiny rfl n1) (fun _ _ _ h=>h) trivial W
 refine walked.mono fun e W' ⟨he,hB⟩=> ?_
 subst he
 exact⟨_,rfl,true_post 4 laid kinds rfl Tryz.underlying4 (by kernel_rfl) (fun ds h=>by rw[Tryz.params6]at h;match ds,h with| [d1],_=>rfl) hW hB⟩
theorem over:Rows.keyTinyRow.holds Tryz.pinned (OpenSpec.ofChange Rows.keyTinySpec):=
 OpenClaim.holds_of_wide 6 Tryz.f6 rfl rfl rfl rfl rfl rfl rfl ⟨rfl,rfl,rfl,rfl,rfl⟩ rfl rfl rfl rfl rfl (by kernel_rfl) Tryz.func6 (by kernel_rfl)
  (of_decide_eq_true (by kernel_rfl)) (by unfold Func.isWrapper;first|(rw[if_pos (by decide +kernel)];kernel_rfl)|(rw[if_neg (by decide +kernel)];exact⟨rfl,rfl⟩))
  (fun os started H enc _=>lifted os started H enc)
theorem proved:Rows.KeyTinySaid:=
 over
#print axioms proved
end Go.Proofs.YtdhmihfefgcbeaaGreat.keyTiny
