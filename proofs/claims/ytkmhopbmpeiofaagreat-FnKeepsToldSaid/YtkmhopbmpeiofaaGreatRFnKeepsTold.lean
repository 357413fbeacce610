/- FnKeepsTold answers as its reference for all arguments: no condition beyond those of the given row. -/
import Derived.Test.YtkmhopbmpeiofaaGreatRows
import Derived.Test.YtkmhopbmpeiofaaGreatHFnKeepsTold
import Derived.Test.YtkmhopbmpeiofaaGreatPFnKeepsTold
import Derived.WalkKit
import Derived.ProofKit
import Derived.OpenShut
import Derived.ShutString
import Derived.ChangeOld
import Derived.Below
import Derived.SizedLaws
import Derived.KernelRfl
namespace Go.Proofs.YtkmhopbmpeiofaaGreat.fnKeepsTold
open Go.ChangeShapes Go.WideShapes Go.ChangeAt Go.RowKit Go.Proofs.YtkmhopbmpeiofaaGreat.Nx
open Go.ChangeMaps (open_string shut_string)
set_option linter.unusedVariables false
theorem own:ownKnob Tryz.prog.godebug=none:=by kernel_rfl
theorem C66:laidOutB Tryz.prog=true:=by kernel_rfl
set_option maxRecDepth 100000 in
theorem C8h(os:Os)(started:os.Started)(H:Type)(enc:TypeId×Value→H) :
  ReturnsInHanded {} Tryz.checked os 3 .any (Rows.fnKeepsToldSpec.pre6 enc Tryz.prog Tryz.f3 Rows.fnKeepsToldRow.domain false) (Rows.fnKeepsToldSpec.post enc Tryz.prog Tryz.f3 false true false false):=by
 refine returnsInHanded_of_change_sized (C:=Tryz.checked) own started (by kernel_rfl) Tryz.func3
  (ChangeSpec.witness6 (enc:=enc) (C:=Tryz.checked) false ⟨#[],#[.slice none 0 0],[]⟩ 8 (by kernel_rfl) (by kernel_rfl) (by kernel_rfl) (by kernel_rfl)) ?_
 intro W base args ds gs before hval0 hW hcnd hsz0 _;have hsz:(DataW.weightsEach Tryz.prog (Tryz.f3.params.toList++Rows.fnKeepsToldSpec.plain.varTypes Tryz.prog) (ds++gs)).all (· ≤ reachBytes)=true:=hsz0;have hval:∀ (j:Nat) t v,Tryz.f3.params[j]? = some t→args[j]? = some v→Value.okWide Tryz.prog W .any base t v:=hval0;have hW':=hW;obtain⟨p,q,hA0,hV,rfl,hfz,hnd⟩:=hW
 have hA:DataW.TrodAll enc Tryz.prog W 0 (fun _=>true) true Tryz.f3.params.toList args.toList ds p:=hA0;rw[Tryz.params3] at hA hval hsz;obtain⟨v0,vs0,d0,ds0,p0,q0,hargs,rfl,rfl,h0,r0⟩:=trodAll_cons hA;obtain⟨rfl,rfl,rfl⟩:=trodAll_nil r0;obtain rfl:args = #[v0]:=by cases args;simp_all
 obtain⟨rfl,rfl⟩:=trodVars_none hV;have lt0:∀ x∈p0,x.block<W.heap.size:=by obtain⟨m,hm⟩:=h0;exact DataW.trod_lt m _ _ _ hm
 obtain⟨x0,g0,e0⟩:=C62 (M:=fun _=>none) (m:=30) (T:=(.sl (.i .u8))) (by kernel_rfl) (hval 0 22 v0 rfl rfl) h0 (B9v hsz (j:=0) rfl rfl);obtain⟨N,hN⟩:=C.pure_FnKeepsTold x0 g0;clear hA0 hval0 hsz0 hsz;refine(C19 (C.c_laws_FnKeepsTold N) (a:=x0) hN (.cons (L1:=[]) (L2:=[]) e0 (.nil))).mono fun e W' ⟨he,bel⟩ => ?_;subst he
 exact⟨_,rfl,_,_,_,[],_,[],hW',trodAll_mk1 (shut_bool Tryz.underlying4 _),(trodAll_cons_mk (Below.trod C66 (by kernel_rfl) (I9 (by kernel_rfl)) h0 bel lt0) trodAll_mk0),rfl,bel.frame _,fun h=>by cases h⟩
theorem D0f:Rows.fnKeepsToldRow.holds Tryz.pinned (OpenSpec.ofChange Rows.fnKeepsToldSpec) :=
 OpenClaim.holds_of_wide 3 Tryz.f3 rfl rfl rfl rfl rfl rfl rfl ⟨rfl,rfl,rfl,rfl,rfl⟩ rfl rfl rfl rfl rfl (by kernel_rfl) Tryz.func3 (by kernel_rfl)
  (I9 (by kernel_rfl)) (by unfold Func.isWrapper;first|(rw[E9 (by decide +kernel)];kernel_rfl)|(rw[G6 (by decide +kernel)];exact⟨rfl,rfl⟩))
  (fun os started H enc _=>C8h os started H enc)
theorem proved:Rows.FnKeepsToldSaid:=D0f
end Go.Proofs.YtkmhopbmpeiofaaGreat.fnKeepsTold
namespace Go.Proofs.YtkmhopbmpeiofaaGreat
theorem fnKeepsTold_holds:Rows.FnKeepsToldSaid:=fnKeepsTold.proved
end Go.Proofs.YtkmhopbmpeiofaaGreat
