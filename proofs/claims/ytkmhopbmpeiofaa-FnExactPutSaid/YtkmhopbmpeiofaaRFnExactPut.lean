/- FnExactPut answers as its reference for all arguments: no condition beyond those of the given row. -/
import Derived.Test.YtkmhopbmpeiofaaRows
import Derived.Test.YtkmhopbmpeiofaaHFnExactPut
import Derived.Test.YtkmhopbmpeiofaaPFnExactPut
import Derived.WalkKit
import Derived.ProofKit
import Derived.OpenShut
import Derived.ShutString
import Derived.ChangeOld
import Derived.Below
import Derived.SizedLaws
import Derived.KernelRfl
namespace Go.Proofs.Ytkmhopbmpeiofaa.fnExactPut
open Go.ChangeShapes Go.WideShapes Go.ChangeAt Go.RowKit Go.Proofs.Ytkmhopbmpeiofaa.Nx
open Go.ChangeMaps (open_string shut_string)
set_option linter.unusedVariables false
theorem own : ownKnob Try.prog.godebug = none := by kernel_rfl
theorem laidOut : laidOutB Try.prog = true := by kernel_rfl
set_option maxRecDepth 100000 in
theorem lifted (os : Os) (started : os.Started) (H : Type) (enc : TypeId × Value → H) :
  ReturnsInHanded {} Try.checked os 3 .any (Rows.fnExactPutSpec.pre6 enc Try.prog Try.f3 Rows.fnExactPutRow.domain false) (Rows.fnExactPutSpec.post enc Try.prog Try.f3 false true false false) := by
 refine returnsInHanded_of_change_sized (C := Try.checked) own started (by kernel_rfl) Try.func3
  (ChangeSpec.witness6 (enc := enc) (C := Try.checked) false ⟨#[],#[.agg #[.int .i64 0,.bool false,.int .i64 0,.slice none 0 0,.slice none 0 0,.slice none 0 0],.int .i64 0,.slice none 0 0],[]⟩ 8 (by kernel_rfl) (by kernel_rfl) (by kernel_rfl) (by kernel_rfl)) ?_
 intro W base args ds gs before hval0 hW hcnd hsz0 _
 have hsz : (DataW.weightsEach Try.prog (Try.f3.params.toList ++ Rows.fnExactPutSpec.plain.varTypes Try.prog) (ds ++ gs)).all (· ≤ reachBytes) = true := hsz0
 have hval : ∀ (j : Nat) t v,Try.f3.params[j]? = some t → args[j]? = some v → Value.okWide Try.prog W .any base t v := hval0
 have hW' := hW
 obtain ⟨p,q,hA0,hV,rfl,hfz,hnd⟩ := hW
 have hA : DataW.TrodAll enc Try.prog W 0 (fun _ => true) true Try.f3.params.toList args.toList ds p := hA0
 rw [Try.params3] at hA hval hsz
 obtain ⟨v0,vs0,d0,ds0,p0,q0,hargs,rfl,rfl,h0,r0⟩ := trodAll_cons hA
 obtain ⟨v1,vs1,d1,ds1,p1,q1,rfl,rfl,rfl,h1,r1⟩ := trodAll_cons r0
 obtain ⟨v2,vs2,d2,ds2,p2,q2,rfl,rfl,rfl,h2,r2⟩ := trodAll_cons r1
 obtain ⟨rfl,rfl,rfl⟩ := trodAll_nil r2
 obtain rfl : args = #[v0,v1,v2] := by cases args; simp_all
 obtain ⟨rfl,rfl⟩ := trodVars_none hV
 have lt0 : ∀ x ∈ p0,x.block < W.heap.size := by obtain ⟨m,hm⟩ := h0; exact DataW.trod_lt m _ _ _ hm
 obtain ⟨x0,g0,e0⟩ := arg_den (M := fun _ => none) (m := 30) (T := C.tPeer) (by kernel_rfl) (hval 0 25 v0 rfl rfl) h0 (weights_of hsz (j := 0) rfl rfl)
 have lt1 : ∀ x ∈ p1,x.block < W.heap.size := by obtain ⟨m,hm⟩ := h1; exact DataW.trod_lt m _ _ _ hm
 obtain ⟨x1,g1,e1⟩ := arg_den (M := fun _ => none) (m := 30) (T := C.I) (by kernel_rfl) (hval 1 3 v1 rfl rfl) h1 (weights_of hsz (j := 1) rfl rfl)
 have lt2 : ∀ x ∈ p2,x.block < W.heap.size := by obtain ⟨m,hm⟩ := h2; exact DataW.trod_lt m _ _ _ hm
 obtain ⟨x2,g2,e2⟩ := arg_den (M := fun _ => none) (m := 30) (T := (.sl C.tItem)) (by kernel_rfl) (hval 2 26 v2 rfl rfl) h2 (weights_of hsz (j := 2) rfl rfl)
 obtain ⟨N,hN⟩ := C.pure_FnExactPut x0 x1 x2 g0 g1 g2
 clear hA0 hval0 hsz0 hsz
 refine (law_calls (C.c_laws_FnExactPut N) (a := (x0,x1,x2)) hN (.cons (L1 := []) (L2 := []) e0 (.cons (L1 := []) (L2 := []) e1 (.cons (L1 := []) (L2 := []) e2 (.nil))))).mono fun e W' ⟨he,bel⟩ => ?_
 subst he
 exact ⟨_,rfl,_,_,_,[],_,[],hW',trodAll_mk1 (shut_bool Try.underlying4 _),(trodAll_cons_mk (Below.trod laidOut (by kernel_rfl) (of_decide_eq_true (by kernel_rfl)) h0 bel lt0) (trodAll_cons_mk (Below.trod laidOut (by kernel_rfl) (of_decide_eq_true (by kernel_rfl)) h1 bel lt1) (trodAll_cons_mk (Below.trod laidOut (by kernel_rfl) (of_decide_eq_true (by kernel_rfl)) h2 bel lt2) trodAll_mk0))),rfl,bel.frame _,fun h => by cases h⟩
theorem over : Rows.fnExactPutRow.holds Try.pinned (OpenSpec.ofChange Rows.fnExactPutSpec) :=
 OpenClaim.holds_of_wide 3 Try.f3 rfl rfl rfl rfl rfl rfl rfl ⟨rfl,rfl,rfl,rfl,rfl⟩ rfl rfl rfl rfl rfl (by kernel_rfl) Try.func3 (by kernel_rfl)
  (of_decide_eq_true (by kernel_rfl)) (by unfold Func.isWrapper; first | (rw [if_pos (by decide +kernel)]; kernel_rfl) | (rw [if_neg (by decide +kernel)]; exact ⟨rfl,rfl⟩))
  (fun os started H enc _ => lifted os started H enc)
theorem proved : Rows.FnExactPutSaid := over
end Go.Proofs.Ytkmhopbmpeiofaa.fnExactPut
namespace Go.Proofs.Ytkmhopbmpeiofaa
theorem fnExactPut_holds : Rows.FnExactPutSaid := fnExactPut.proved
end Go.Proofs.Ytkmhopbmpeiofaa
