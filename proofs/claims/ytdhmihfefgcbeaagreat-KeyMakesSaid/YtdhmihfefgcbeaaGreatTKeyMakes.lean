/-
  This text proves that the statement 'curvetlaw24.KeyMakes' returns true for all its inputs, which read afterwards as before. Condition: none beyond what the statement's row says.
-/
import Derived.Test.YtdhmihfefgcbeaaGreatT01
import Derived.Test.YtdhmihfefgcbeaaGreatT06
import Derived.Test.YtdhmihfefgcbeaaGreatT25
import Derived.Test.YtdhmihfefgcbeaaGreatRows
set_option maxHeartbeats 8000000
set_option linter.all false
namespace Go.Proofs.YtdhmihfefgcbeaaGreat.keyMakes
open Go.ChangeShapes Go.WideShapes Go.ChangeAt Go.RowKit
set_option linter.unusedVariables false
theorem own:ownKnob Tryz.prog.godebug=none:=by kernel_rfl
theorem laid:laidOutB Tryz.prog=true:=by kernel_rfl
theorem kinds:∀t∈Tryz.f7.params.toList,Tryz.prog.readableRec t=true/\t<Tryz.prog.types.size:=by
 have h:(Tryz.f7.params.toList.all fun t=>Tryz.prog.readableRec t&&decide (t<Tryz.prog.types.size))=true:=by kernel_rfl
 intro t ht
 simpa using List.all_eq_true.1 h t ht
set_option maxRecDepth 100000 in
theorem lifted(os:Os)(started:os.Started)(H:Type)(enc:TypeId×Value->H):
 ReturnsInHanded {} Tryz.checked os 7 .any (Rows.keyMakesSpec.pre6 enc Tryz.prog Tryz.f7 Rows.keyMakesRow.domain false) (Rows.keyMakesSpec.post enc Tryz.prog Tryz.f7 false true false false):=by
 refine returnsInHanded_of_change_shaped (C:=Tryz.checked) own started (by kernel_rfl) Tryz.func7
  (ChangeSpec.witness6 (enc:=enc) (C:=Tryz.checked) false ⟨#[],#[.slice none 0 0,.string ⟨#[]⟩,.int .i64 0],[]⟩ 8 (by kernel_rfl) (by kernel_rfl) (by kernel_rfl) (by kernel_rfl)) ?_
 intro W base args ds gs before hval0 hW hcnd hsz hshaped _
 have hval:∀ (j:Nat) t v,Tryz.f7.params[j]? =some t->args[j]? =some v->Value.okWide Tryz.prog W .any base t v:=hval0
 have hsize:args.size=Tryz.f7.params.size:=by
  obtain⟨p,q,hA,_⟩:=hW
  have h:=(trodAll_length hA).1
  simpa using h
 obtain⟨_,_,hA,_⟩:=id hW
 rw[Tryz.params7]at hval hsize hA hsz
 obtain⟨v0,v1,v2,rfl⟩:=args3 hsize
 have k0:=hval 0 64 v0 rfl rfl
 have k1:=hval 1 9 v1 rfl rfl
 have k2:=hval 2 3 v2 rfl rfl
 simp only[Value.okWide,Tryz.underlying3]at k2
 obtain⟨n1,rfl,_⟩:=open_i64 Tryz.underlying3 k2
 obtain⟨s,rfl,h0⟩:=text_size hA hsz (j:=1) rfl rfl Tryz.underlying9 k1
 have walked:Calls Tryz.prog 7 #[v0,.string s,.int .i64 n1] W fun e W'=>e= .returned (.bool true)/\Below W.heap.size W W':=by
  rcases open_ints (j:=0) (e:=3) hA hsz rfl rfl Tryz.underlying64 Tryz.underlying3 (by kernel_rfl) (B:=8) (by kernel_rfl) k0 with rfl|⟨b,o,n,c,cs,te,fr,ea,rfl,hnc,hcm,hnb,hcell,hlen,hone⟩
  ·exact Vg.Con.calls (cKeyMakesN rfl s (by omega) n1) (fun _ _ _ h=>h) trivial W
  ·refine Vg.Con.calls_ro (β0:=fun _=>b) (cKeyMakes (t:=te) rfl o n c (by omega) (Vg.toSVs cs) ea hone (fun m=>Vg.bdLB_map m _) s (by omega) n1) (fun _ _ _ h=>h) trivial ⟨?_,?_⟩
   ·rintro x hx y hy hm
    cases hm
   ·rintro x hx
    simp only[List.mem_singleton]at hx
    subst hx
    exact⟨fr,fun h=>(by cases h),(by rw[Vg.denL_toSVs];exact hcell)⟩
 refine walked.mono fun e W' ⟨he,hB⟩=> ?_
 subst he
 exact⟨_,rfl,true_post 4 laid kinds rfl Tryz.underlying4 (by kernel_rfl) (fun ds h=>by rw[Tryz.params7]at h;match ds,h with| [d1,d2,d3],_=>rfl) hW hB⟩
theorem over:Rows.keyMakesRow.holds Tryz.pinned (OpenSpec.ofChange Rows.keyMakesSpec):=
 OpenClaim.holds_of_wide 7 Tryz.f7 rfl rfl rfl rfl rfl rfl rfl ⟨rfl,rfl,rfl,rfl,rfl⟩ rfl rfl rfl rfl rfl (by kernel_rfl) Tryz.func7 (by kernel_rfl)
  (of_decide_eq_true (by kernel_rfl)) (by unfold Func.isWrapper;first|(rw[if_pos (by decide +kernel)];kernel_rfl)|(rw[if_neg (by decide +kernel)];exact⟨rfl,rfl⟩))
  (fun os started H enc _=>lifted os started H enc)
theorem proved:Rows.KeyMakesSaid:=
 over
#print axioms proved
end Go.Proofs.YtdhmihfefgcbeaaGreat.keyMakes
