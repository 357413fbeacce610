/- The data that the two functions compute are alike, for all arguments that memory can hold. -/
import Derived.Test.YtflmdpbhmmohiaaGreatHFnVouches
set_option linter.unusedVariables false
set_option linter.unusedSimpArgs false
namespace Go.Proofs.YtflmdpbhmmohiaaGreat.C
open Go Go.Proofs.YtflmdpbhmmohiaaGreat.Nx Go.RowKit
end Go.Proofs.YtflmdpbhmmohiaaGreat.C
namespace Go.Proofs.YtflmdpbhmmohiaaGreat.C
open Go Go.Proofs.YtflmdpbhmmohiaaGreat.Nx Go.RowKit
set_option linter.unusedVariables false
set_option linter.unusedSimpArgs false
theorem and255 (a : Int) : 0 ≤ andI .i64 a 255 ∧ andI .i64 a 255 ≤ 255 := by
 unfold andI
 rw [pin_eq]
 have h : (BitVec.ofInt 64 a &&& BitVec.ofInt 64 255).toNat ≤ 255 := by
  rw [BitVec.toNat_and]
  exact Nat.and_le_right
 show 0 ≤ IntKind.i64.wrap ((BitVec.ofInt 64 a &&& BitVec.ofInt 64 255).toNat : Int) ∧ IntKind.i64.wrap ((BitVec.ofInt 64 a &&& BitVec.ofInt 64 255).toNat : Int) ≤ 255
 generalize (BitVec.ofInt 64 a &&& BitVec.ofInt 64 255).toNat = x at h
 rw [IntWalk.i64_left,w64 (by omega) (by omega)]
 omega
def okC (c : Den tL01Cur) : Prop := 0 ≤ c.2.1 ∧ c.1.length ≤ 1048576
theorem byte_ok (N : Nat) (c : Den tL01Cur) (h : okC c) : ∃ x c',x_f69 N c = some (x,c') ∧ 0 ≤ x ∧ x ≤ 255 ∧ okC c' := by
 obtain ⟨b,i,s⟩ : List Int × Int × Int := c
 have h0 : 0 ≤ i := h.1
 have hb : b.length ≤ 1048576 := h.2
 unfold x_f69
 simp only
 cases hd : decide (i < (b.length : Int)) with
 | true =>
  have hd' : i < (b.length : Int) := of_decide_eq_true hd
  rw [dT h0]
  simp only [cond_true,Bool.and_self,Option.bind_some]
  refine ⟨_,_,rfl,(and255 _).1,(and255 _).2,?_,hb⟩
  show (0:Int) ≤ wrap64 (i + 1)
  rw [w64 (by omega) (by omega)]; omega
 | false =>
  simp only [cond_false,cond_true,Option.bind_some]
  exact ⟨_,_,rfl,(and255 _).1,(and255 _).2,h0,hb⟩
theorem below_ok (N : Nat) (c : Den tL01Cur) (h : okC c) (n : Int) (hn : 0 < n) : ∃ x c',x_f68 N c n = some (x,c',()) ∧ 0 ≤ x ∧ x < n ∧ okC c' := by
 unfold x_f68
 rw [dF (p := n ≤ 0) (by omega),dF (p := n = 0) (by omega)]
 simp only [cond_false,Bool.not_false,cond_true]
 cases hd : decide (n ≤ 256) with
 | true =>
  obtain ⟨x,c',e,h0,h1,hc⟩ := byte_ok N c h
  rw [e]
  exact ⟨x.tmod n,c',rfl,Int.tmod_nonneg _ h0,Int.tmod_lt_of_pos _ hn,hc⟩
 | false =>
  obtain ⟨x,c1,e1,a0,a1,hc1⟩ := byte_ok N c h
  obtain ⟨y,c2,e2,b0,b1,hc2⟩ := byte_ok N c1 hc1
  obtain ⟨z,c3,e3,d0,d1,hc3⟩ := byte_ok N c2 hc2
  obtain ⟨u,c4,e4,f0,f1,hc4⟩ := byte_ok N c3 hc3
  simp only [e1,e2,e3,e4,Option.bind_some,cond_false]
  have hw : 0 ≤ wrap64 ((wrap64 ((wrap64 ((wrap64 (x * (16777216:Int))) + (wrap64 (y * (65536:Int))))) + (wrap64 (z * (256:Int))))) + u) := by
   rw [w64 (x := x * 16777216) (by omega) (by omega),w64 (x := y * 65536) (by omega) (by omega),w64 (x := z * 256) (by omega) (by omega),w64 (x := x * 16777216 + y * 65536) (by omega) (by omega),w64 (x := x * 16777216 + y * 65536 + z * 256) (by omega) (by omega),w64 (by omega) (by omega)]
   omega
  exact ⟨_,c4,rfl,Int.tmod_nonneg _ hw,Int.tmod_lt_of_pos _ hn,hc4⟩
theorem new_ok {N : Nat} (hN : Big N) (L : List Int) (hL : L.length ≤ 1048576) : ∃ c,x_f71 N L = some (c,()) ∧ okC c := by
 have hN' : 1099511627776 ≤ N := hN
 unfold x_f71
 have key := iter_to (B := B_f71_L0 N (fun (x1,x2) => some ((x1,(0:Int),x2),())) (fun ρ3 => some (ρ3))) (A := Int) (fun i a => (L,a,(i : Int))) (fun i a r => ∃ s : Int,r = some ((L,(0:Int),s),())) L.length
  (fun i a rec_ hi h => by
   show ∃ s : Int,(bif _ then _ else _) = _
   rw [lt_rows _ hi,le_rows i,w64_up (Nat.le_refl i) (by omega)]
   simp only [cond_true,Bool.and_self]
   cases decide ((i : Int) < 4000)
   ·exact ⟨a,rfl⟩
   ·exact h _)
  (fun a rec_ => by
   show ∃ s : Int,(bif _ then _ else _) = _
   rw [at_end]
   exact ⟨a,rfl⟩)
  N (by omega) (wrap64 ((95501:Int) + (L.length : Int)))
 obtain ⟨s,e⟩ := key
 have e' : iter (B_f71_L0 N (fun (x1,x2) => some ((x1,(0:Int),x2),())) (fun ρ3 => some (ρ3))) N (L,wrap64 ((95501:Int) + (L.length : Int)),(0:Int)) = some ((L,(0:Int),s),()) := e
 rw [e']
 exact ⟨_,rfl,Int.le_refl _,hL⟩
theorem pick_ok (N : Nat) (c : Den tL01Cur) (h : okC c) (l : List Int) (hl : 0 < l.length) : ∃ x c',x_f73 N c l = some (x,c',()) ∧ x ∈ l ∧ okC c' := by
 obtain ⟨x,c',e,h0,h1,hc⟩ := below_ok N c h (l.length : Int) (by omega)
 unfold x_f73
 rw [e]
 simp only [Option.bind_some]
 rw [dT h0,dT h1]
 refine ⟨_,c',rfl,?_,hc⟩
 rw [List.getD_eq_getElem?_getD,List.getElem?_eq_getElem (by omega)]
 exact List.getElem_mem _
theorem num_ok (N : Nat) (c : Den tL01Cur) (h : okC c) : ∃ x c',x_f91 N c = some (x,c') ∧ okC c' := by
 unfold x_f91
 obtain ⟨x,c',e,_,hc⟩ := pick_ok N c h [(0:Int),(5:Int),(100:Int),(128:Int),(255:Int),(256:Int),(-1:Int),(9223372036854775807:Int),(-9223372036854775808:Int)] (by simp)
 rw [e]
 exact ⟨x,c',rfl,hc⟩
theorem places_ok {N : Nat} (hN : Big N) (L : List Int) (hL : L.length ≤ 1048576) : ∃ p,x_f46 N L = some p ∧ p.length = 12 ∧ ∀ x ∈ p,0 ≤ x ∧ x < 10000 := by
 have hN' : 1099511627776 ≤ N := hN
 unfold x_f46
 obtain ⟨c,e,hc⟩ := new_ok hN L hL
 obtain ⟨x,c1,e1,_,_,hc1⟩ := byte_ok N c hc
 rw [e,Option.bind_some]
 simp only
 rw [e1,Option.bind_some]
 simp only
 obtain ⟨n,hn⟩ : ∃ n : Nat,n = 12 := ⟨12,rfl⟩
 have key := iter_to (B := B_f46_L0 N (fun x4 => some x4) (fun ρ5 => some (ρ5))) (A := {p : Den tL01Cur × List Int // okC p.1 ∧ ∀ x ∈ p.2,0 ≤ x ∧ x < 10000}) (fun i a => (a.1.1,a.1.2,(i : Int))) (fun i a r => a.1.2.length = i → ∃ p,r = some p ∧ p.length = 12 ∧ ∀ x ∈ p,0 ≤ x ∧ x < 10000) n
  (fun i a rec_ hi ih hl => by
   obtain ⟨⟨s0,s3⟩,hc,hs⟩ := a
   simp only at hl hs
   obtain ⟨x,c1,e1,a0,a1,hc1⟩ := below_ok N s0 hc 10000 (by omega)
   show ∃ p,(bif _ then _ else _) = _ ∧ _
   rw [dT (p := (i : Int) < 12) (by omega),e1]
   simp only [cond_true,Option.bind_some]
   rw [dT (p := (s3.length + [x].length) * 8 ≤ 140737488355328) (by simp only [List.length_cons,List.length_nil]; omega),w64_up (Nat.le_refl i) (by omega)]
   exact ih ⟨(c1,s3 ++ [x]),hc1,fun y hy => by
    rcases List.mem_append.1 hy with h | h
    ·exact hs y h
    ·rw [List.mem_singleton.1 h]; exact ⟨a0,a1⟩⟩ (by simp only [List.length_append,List.length_cons,List.length_nil]; omega))
  (fun a rec_ hl => by
   obtain ⟨⟨s0,s3⟩,hc,hs⟩ := a
   simp only at hl hs
   show ∃ p,(bif _ then _ else _) = _ ∧ _
   rw [dF (p := (n : Int) < 12) (by omega)]
   exact ⟨s3,rfl,by omega,hs⟩)
  N (by omega) ⟨(c1,[]),hc1,fun _ h => by cases h⟩
 exact key rfl
end Go.Proofs.YtflmdpbhmmohiaaGreat.C
namespace Go.Proofs.YtflmdpbhmmohiaaGreat.C
open Go Go.Proofs.YtflmdpbhmmohiaaGreat.Nx Go.RowKit
set_option linter.unusedVariables false
set_option linter.unusedSimpArgs false
def inR (n a b : Int) : Bool := decide (a ≤ n) && decide (n ≤ b)
theorem in_eq (N : Nat) (n a b : Int) : x_f23 N n a b = some (inR n a b) := by
 unfold x_f23 inR
 cases decide (a ≤ n) <;> rfl
theorem l01In_eq (N : Nat) (n a b : Int) : x_f70 N n a b = some (inR n a b) := by
 unfold x_f70 inR
 cases decide (a ≤ n) <;> rfl
end Go.Proofs.YtflmdpbhmmohiaaGreat.C
namespace Go.Proofs.YtflmdpbhmmohiaaGreat.C
open Go Go.Proofs.YtflmdpbhmmohiaaGreat.Nx Go.RowKit
set_option linter.unusedVariables false
set_option linter.unusedSimpArgs false
def roleOk (r : Den tRole) : Bool := inR r.1 0 5 && inR r.2 0 3
theorem roleOk_i (N : Nat) (r : Den tRole) : x_f13 N r = some (roleOk r) := by
 unfold x_f13 roleOk
 simp only [in_eq,Option.bind_some]
 cases inR r.1 0 5 <;> rfl
theorem roleOk_s (N : Nat) (r : Den tRole) : x_f60 N r = some (roleOk r) := by
 unfold x_f60 roleOk
 simp only [l01In_eq,Option.bind_some]
 cases inR r.1 0 5 <;> rfl
theorem isPerson_i (N : Nat) (n : Int) : x_f24 N n = some (inR n 0 5) := by
 unfold x_f24
 simp only [in_eq,Option.bind_some]
def credOk (c : Den tCred) : Bool :=
 roleOk c.2.1 && (inR c.2.2.2.2.2.1 1 9999 && (inR c.2.2.2.2.2.2 0 99 &&
 (bif decide (c.1 = 1) then inR c.2.2.1 0 5 && ((decide (c.2.2.2.1.1 = 0) && decide (c.2.2.2.1.2 = 0)) && (decide (c.2.2.2.2.1.1 = 0) && decide (c.2.2.2.2.1.2 = 0)))
  else bif decide (c.1 = 2) then decide (c.2.2.1 = 0) && (roleOk c.2.2.2.1 && (decide (c.2.2.2.2.1.1 = 0) && decide (c.2.2.2.2.1.2 = 0)))
  else bif decide (c.1 = 3) then decide (c.2.2.1 = 0) && (roleOk c.2.2.2.1 && (roleOk c.2.2.2.2.1 && decide (c.2.2.2.2.1.1 = 0)))
  else bif decide (c.1 = 4) then decide (c.2.2.1 = 0) && (roleOk c.2.2.2.1 && roleOk c.2.2.2.2.1)
  else false)))
theorem credOk_i (N : Nat) (c : Den tCred) : x_f1 N c = some (credOk c) := by
 unfold x_f1 credOk
 simp only [in_eq,roleOk_i,isPerson_i,Option.bind_some]
 generalize roleOk c.2.1 = a1
 generalize inR c.2.2.2.2.2.1 1 9999 = a2
 generalize inR c.2.2.2.2.2.2 0 99 = a3
 generalize inR c.2.2.1 0 5 = a4
 generalize decide (c.1 = 1) = b1
 generalize decide (c.1 = 2) = b2
 generalize decide (c.1 = 3) = b3
 generalize decide (c.1 = 4) = b4
 generalize decide (c.2.2.1 = 0) = d1
 generalize roleOk c.2.2.2.1 = r1
 generalize roleOk c.2.2.2.2.1 = r2
 generalize (decide (c.2.2.2.1.1 = 0) && decide (c.2.2.2.1.2 = 0)) = z1
 generalize (decide (c.2.2.2.2.1.1 = 0) && decide (c.2.2.2.2.1.2 = 0)) = z2
 cases a1 <;> cases a2 <;> cases a3 <;> try rfl
 cases b1 <;> cases b2 <;> cases b3 <;> cases b4 <;> cases d1 <;> cases r1 <;> cases r2 <;> cases a4 <;> cases z1 <;> rfl
theorem credOk_s (N : Nat) (c : Den tCred) : x_f42 N c = some (credOk c) := by
 rw [← credOk_i N c]
 unfold x_f42 x_f1
 simp only [in_eq,l01In_eq,roleOk_i,roleOk_s,isPerson_i,Option.bind_some]
end Go.Proofs.YtflmdpbhmmohiaaGreat.C
namespace Go.Proofs.YtflmdpbhmmohiaaGreat.C
open Go Go.Proofs.YtflmdpbhmmohiaaGreat.Nx Go.RowKit
set_option linter.unusedVariables false
set_option linter.unusedSimpArgs false
theorem iw {x : Int} (h0 : 0 ≤ x) (h1 : x ≤ 9223372036854775807) : IntKind.i64.wrap x = x := by
 rw [← wr_eq]
 exact w64 (by omega) h1
theorem p64 : ((2 ^ 64 : Nat) : Int) = 18446744073709551616 := rfl
theorem andI127 {a : Int} (h0 : 0 ≤ a) (h1 : a ≤ 9223372036854775807) : andI .i64 a 127 = a % 128 := by
 have e : (BitVec.ofInt 64 a &&& BitVec.ofInt 64 127).toNat = a.toNat % 128 := by
  rw [BitVec.toNat_and,BitVec.toNat_ofInt,BitVec.toNat_ofInt]
  have e1 : (a % ((2 ^ 64 : Nat) : Int)).toNat = a.toNat := by
   rw [p64,Int.emod_eq_of_lt h0 (by omega)]
  have e2 : ((127:Int) % ((2 ^ 64 : Nat) : Int)).toNat = 2 ^ 7 - 1 := by decide
  rw [e1,e2,Nat.and_two_pow_sub_one_eq_mod]
 unfold andI
 rw [pin_eq]
 show IntKind.i64.wrap ((BitVec.ofInt 64 a &&& BitVec.ofInt 64 127).toNat : Int) = _
 rw [e,iw (by omega) (by omega)]
 omega
theorem orI128 {x : Int} (h0 : 0 ≤ x) (h1 : x < 128) : orI .i64 x 128 = x + 128 := by
 have e : (BitVec.ofInt 64 x ||| BitVec.ofInt 64 128).toNat = x.toNat + 128 := by
  rw [BitVec.toNat_or,BitVec.toNat_ofInt,BitVec.toNat_ofInt]
  have e1 : (x % ((2 ^ 64 : Nat) : Int)).toNat = x.toNat := by
   rw [p64,Int.emod_eq_of_lt h0 (by omega)]
  have e2 : ((128:Int) % ((2 ^ 64 : Nat) : Int)).toNat = 2 ^ 7 * 1 := by decide
  rw [e1,e2,Nat.or_comm,← Nat.two_pow_add_eq_or_of_lt (by omega)]
  omega
 unfold orI
 rw [pin_eq]
 show IntKind.i64.wrap ((BitVec.ofInt 64 x ||| BitVec.ofInt 64 128).toNat : Int) = _
 rw [e,iw (by omega) (by omega)]
 omega
theorem shr7 {a : Int} (h0 : 0 ≤ a) : shrI .i64 a 7 = a / 128 := by
 unfold shrI
 have : (2:Int) ^ (min (7:Int).toNat IntKind.i64.bits) = 128 := by decide
 rw [this,pin_eq,Int.fdiv_eq_ediv_of_nonneg _ (by omega)]
theorem byte_eq {s0 : Int} (h0 : 127 < s0) (h : s0 ≤ 9223372036854775807) : orI .i64 (andI .i64 s0 (127:Int)) (128:Int) = wrap64 ((s0.tmod (128:Int)) + (128:Int)) := by
 have e : s0.tmod 128 = s0 % 128 := Int.tmod_eq_emod_of_nonneg (by omega)
 rw [andI127 (by omega) h,orI128 (by omega) (by omega),e,w64 (x := s0 % 128 + 128) (by omega) (by omega)]
theorem step_eq {s0 : Int} (h0 : 127 < s0) (h : s0 ≤ 9223372036854775807) : shrI .i64 s0 (7:Int) = wrap64 (s0.tdiv (128:Int)) := by
 have e : s0.tdiv 128 = s0 / 128 := Int.tdiv_eq_ediv_of_nonneg (by omega)
 rw [shr7 (by omega),e,w64 (x := s0 / 128) (by omega) (by omega)]
theorem step_le {s0 : Int} (h0 : 127 < s0) (h : s0 ≤ 9223372036854775807) : wrap64 (s0.tdiv (128:Int)) ≤ 9223372036854775807 := by
 have e : s0.tdiv 128 = s0 / 128 := Int.tdiv_eq_ediv_of_nonneg (by omega)
 rw [e,w64 (x := s0 / 128) (by omega) (by omega)]; omega
theorem var_step {Ω : Type} (N : Nat) (kx : DenS (.pr (.d 0 I) (.o 3 (.i .u8))) → Option Ω) (kr) (f g) {s0 : Int} (s3 : List Int) (h : s0 ≤ 9223372036854775807) (hfg : ∀ a l,a ≤ 9223372036854775807 → f (a,l) = g (a,l)) :
  B_f34_L0 (Ω := Ω) N kx kr f (s0,s3) = B_f75_L0 N kx kr g (s0,s3) := by
 unfold B_f34_L0 B_f75_L0
 by_cases h1 : 127 < s0
 ·simp only [decide_eq_true h1,cond_true,byte_eq h1 h,step_eq h1 h,hfg _ _ (step_le h1 h)]
 ·simp only [decide_eq_false h1,cond_false]
theorem iter_zero {S Ω : Type} (B : (S → Option Ω) → S → Option Ω) (s : S) : iter B 0 s = none := rfl
theorem iter_succ {S Ω : Type} (B : (S → Option Ω) → S → Option Ω) (N : Nat) (s : S) : iter B (N + 1) s = B (iter B N) s := rfl
theorem var_iter {Ω : Type} (N : Nat) (kx : DenS (.pr (.d 0 I) (.o 3 (.i .u8))) → Option Ω) (kr) : ∀ (M : Nat) (s0 : Int) (s3 : List Int),s0 ≤ 9223372036854775807 → iter (B_f34_L0 N kx kr) M (s0,s3) = iter (B_f75_L0 N kx kr) M (s0,s3) := by
 intro M
 induction M with
 | zero => intro s0 s3 _; rw [iter_zero,iter_zero]
 | succ M ih =>
  intro s0 s3 h
  rw [iter_succ,iter_succ]
  exact var_step N kx kr _ _ s3 h ih
theorem varText_eq (N : Nat) {n : Int} (h : n ≤ 9223372036854775807) : x_f34 N n = x_f75 N n := by
 unfold x_f34
 rw [var_iter N _ _ N n [] h]
 rfl
def vt (N : Nat) (n : Int) : ByteArray := (x_f75 N n).getD ByteArray.empty
theorem vt_some {N : Nat} (hN : Big N) {n : Int} (h : n ≤ 9223372036854775807) : x_f75 N n = some (vt N n) ∧ (vt N n).size ≤ 100 ∧ 0 < (vt N n).size := by
 have hN' : 1099511627776 ≤ N := hN
 have key : ∀ (d M : Nat) (s0 : Int) (s3 : List Int),d < M → s0 < ((128 ^ (d + 1) : Nat) : Int) → s0 ≤ 9223372036854775807 → s3.length + d ≤ 90 →
   ∃ r : ByteArray,iter (B_f75_L0 N (fun (x1,x2) => (bif (decide ((x2.length + [(x1 % 256)].length) * 1 ≤ 140737488355328)) then some (txt (x2 ++ [(x1 % 256)])) else none)) (fun ρ3 => some (ρ3))) M (s0,s3) = some r ∧ r.size ≤ 100 ∧ 0 < r.size := by
  intro d
  induction d with
  | zero =>
   intro M s0 s3 hM h1 h2 hl
   obtain ⟨M,rfl⟩ : ∃ K,M = K + 1 := ⟨M - 1,by omega⟩
   show ∃ r,(bif _ then _ else (bif _ then _ else _)) = _ ∧ _
   rw [dF (by simp at h1; omega)]
   simp only [cond_false]
   rw [dT (by simp only [List.length_cons,List.length_nil]; omega)]
   have hs : ∀ l : List Int,(txt l).size = l.length := fun l => by simp [txt,ByteArray.size]
   exact ⟨_,rfl,by rw [hs]; simp; omega,by rw [hs]; simp⟩
  | succ d ih =>
   intro M s0 s3 hM h1 h2 hl
   obtain ⟨M,rfl⟩ : ∃ K,M = K + 1 := ⟨M - 1,by omega⟩
   show ∃ r,(bif _ then _ else (bif _ then _ else _)) = _ ∧ _
   by_cases h3 : 127 < s0
   ·rw [dT h3]
    simp only [cond_true]
    rw [dT (by simp only [List.length_cons,List.length_nil]; omega)]
    simp only [cond_true]
    refine ih M _ _ (by omega) ?_ ?_ (by simp; omega)
    ·rw [Int.tdiv_eq_ediv_of_nonneg (by omega),w64 (by omega) (by omega)]
     rw [Nat.pow_succ] at h1
     generalize 128 ^ (d + 1) = q at h1 ⊢
     omega
    ·rw [Int.tdiv_eq_ediv_of_nonneg (by omega),w64 (by omega) (by omega)]; omega
   ·rw [dF h3]
    simp only [cond_false]
    rw [dT (by simp only [List.length_cons,List.length_nil]; omega)]
    have hs : ∀ l : List Int,(txt l).size = l.length := fun l => by simp [txt,ByteArray.size]
    exact ⟨_,rfl,by rw [hs]; simp; omega,by rw [hs]; simp⟩
 obtain ⟨r,h1,h2,h3⟩ := key 9 N n [] (by omega) (by omega) h (by simp)
 have e : x_f75 N n = some r := h1
 unfold vt
 rw [e]
 exact ⟨rfl,h2,h3⟩
end Go.Proofs.YtflmdpbhmmohiaaGreat.C
namespace Go.Proofs.YtflmdpbhmmohiaaGreat.C
open Go Go.Proofs.YtflmdpbhmmohiaaGreat.Nx Go.RowKit
set_option linter.unusedVariables false
set_option linter.unusedSimpArgs false
def smallC (c : Den tCred) : Prop := ∀ x ∈ [c.1,c.2.1.1,c.2.1.2,c.2.2.1,c.2.2.2.1.1,c.2.2.2.1.2,c.2.2.2.2.1.1,c.2.2.2.2.1.2,c.2.2.2.2.2.1,c.2.2.2.2.2.2],x ≤ 9223372036854775807
def ctext (N : Nat) (c : Den tCred) : ByteArray := (((((((((vt N c.1 ++ vt N c.2.1.1) ++ vt N c.2.1.2) ++ vt N c.2.2.1) ++ vt N c.2.2.2.1.1) ++ vt N c.2.2.2.1.2) ++ vt N c.2.2.2.2.1.1) ++ vt N c.2.2.2.2.1.2) ++ vt N c.2.2.2.2.2.1) ++ vt N c.2.2.2.2.2.2)
theorem spec_CredText {N : Nat} (hN : Big N) (c : Den tCred) (hc : smallC c) : x_f43 N c = some (bif credOk c then ctext N c else ByteArray.empty) ∧ (ctext N c).size ≤ 1000 ∧ 0 < (ctext N c).size := by
 obtain ⟨v1,s1,p1⟩ := vt_some hN (hc c.1 (by simp))
 obtain ⟨v2,s2,p2⟩ := vt_some hN (hc c.2.1.1 (by simp))
 obtain ⟨v3,s3,p3⟩ := vt_some hN (hc c.2.1.2 (by simp))
 obtain ⟨v4,s4,p4⟩ := vt_some hN (hc c.2.2.1 (by simp))
 obtain ⟨v5,s5,p5⟩ := vt_some hN (hc c.2.2.2.1.1 (by simp))
 obtain ⟨v6,s6,p6⟩ := vt_some hN (hc c.2.2.2.1.2 (by simp))
 obtain ⟨v7,s7,p7⟩ := vt_some hN (hc c.2.2.2.2.1.1 (by simp))
 obtain ⟨v8,s8,p8⟩ := vt_some hN (hc c.2.2.2.2.1.2 (by simp))
 obtain ⟨v9,s9,p9⟩ := vt_some hN (hc c.2.2.2.2.2.1 (by simp))
 obtain ⟨v10,s10,p10⟩ := vt_some hN (hc c.2.2.2.2.2.2 (by simp))
 refine ⟨?_,by unfold ctext; simp only [ByteArray.size_append]; omega,by unfold ctext; simp only [ByteArray.size_append]; omega⟩
 unfold x_f43
 rw [credOk_s,Option.bind_some]
 cases credOk c with
 | false => rfl
 | true =>
  simp only [Bool.not_true,cond_false,cond_true]
  rw [v1,Option.bind_some,v2,Option.bind_some,dT (by omega),cond_true,v3,Option.bind_some,dT (by simp only [ByteArray.size_append]; omega),cond_true,v4,Option.bind_some,dT (by simp only [ByteArray.size_append]; omega),cond_true,
   v5,Option.bind_some,dT (by simp only [ByteArray.size_append]; omega),cond_true,v6,Option.bind_some,dT (by simp only [ByteArray.size_append]; omega),cond_true,v7,Option.bind_some,dT (by simp only [ByteArray.size_append]; omega),cond_true,
   v8,Option.bind_some,dT (by simp only [ByteArray.size_append]; omega),cond_true,v9,Option.bind_some,dT (by simp only [ByteArray.size_append]; omega),cond_true,v10,Option.bind_some,dT (by simp only [ByteArray.size_append]; omega),cond_true]
  rfl
theorem impl_CredText {N : Nat} (hN : Big N) (c : Den tCred) (hc : smallC c) : x_f2 N c = some (bif credOk c then ctext N c else ByteArray.empty) := by
 have hN' : 1099511627776 ≤ N := hN
 unfold x_f2
 rw [credOk_i,Option.bind_some]
 cases credOk c with
 | false => rfl
 | true =>
  simp only [Bool.not_true,cond_false,cond_true]
  have key : ∀ (l R pre : List Int) (s : ByteArray) (M : Nat),l = pre ++ R → R.length < M → (∀ x ∈ R,x ≤ 9223372036854775807) → s.size + 100 * R.length ≤ 100000 → l.length ≤ 1000 →
    iter (B_f2_L0 N (fun x3 => some x3) (fun ρ4 => some (ρ4))) M (s,l,(l.length : Int),(pre.length : Int)) = some (R.foldl (fun s x => s ++ vt N x) s) := by
   intro l R
   induction R with
   | nil =>
    intro pre s M ho hM hx hs hl
    obtain ⟨M,rfl⟩ : ∃ K,M = K + 1 := ⟨M - 1,by omega⟩
    rw [iter_succ]
    show (bif _ then _ else _) = _
    rw [dF (by rw [ho]; simp)]; rfl
   | cons x R ih =>
    intro pre s M ho hM hx hs hl
    obtain ⟨M,rfl⟩ : ∃ K,M = K + 1 := ⟨M - 1,by omega⟩
    simp only [List.length_cons] at hM hs
    have hpo : pre.length < l.length := by rw [ho]; simp
    have g1 : l.getD pre.length 0 = x := by rw [ho]; exact gD0 _ _ _ _
    obtain ⟨v,sv,pv⟩ := vt_some hN (hx x (by simp))
    rw [iter_succ]
    show (bif _ then _ else _) = _
    rw [lt_rows l hpo,le_rows pre.length,Int.toNat_natCast,g1,w64_up (Nat.le_refl _) (by omega),varText_eq N (hx x (by simp)),v,Option.bind_some]
    simp only [cond_true,Bool.and_self]
    rw [dT (by omega),cond_true]
    have := ih (pre ++ [x]) (s ++ vt N x) M (by rw [ho]; simp) (by omega) (fun y hy => hx y (by simp [hy])) (by rw [ByteArray.size_append]; omega) hl
    rw [List.length_append] at this
    exact this
  have := key _ _ [] ByteArray.empty N (List.nil_append _).symm (by simp; omega) hc (by simp) (by simp)
  refine Eq.trans this ?_
  simp only [List.foldl_cons,List.foldl_nil,ByteArray.empty_append]
  rfl
def eights (l : List ByteArray) : Bool := l.all fun e => decide ((e.size : Int) = 8)
theorem spec_Long {N : Nat} (hN : Big N) (l : List ByteArray) (hl : l.length ≤ 1048576) : x_f84 N l = some (eights l) := by
 have hN' : 1099511627776 ≤ N := hN
 unfold x_f84
 refine iter_row l (fun i => (l,(i : Int))) (fun i r => some (eights r)) (fun i hi rec_ h => ?_) (fun rec_ => ?_) (by omega)
 ·show (bif _ then _ else _) = _
  rw [lt_rows l hi,le_rows i,getD_at l hi,w64_up (Nat.le_refl i) (by omega),h]
  unfold eights
  rw [List.all_cons]
  cases decide ((l[i].size : Int) = 8) <;> rfl
 ·show (bif _ then _ else _) = _
  rw [dF (Int.lt_irrefl _)]; rfl
theorem impl_Long {N : Nat} (hN : Big N) (l : List ByteArray) (hl : l.length ≤ 1048576) : x_f39 N l = some (!eights l) := by
 have := index_func (d := ByteArray.empty) (L := l) (by omega) () (f := fun x => x_f32 N x) (fun x : ByteArray => !decide ((x.size : Int) = 8)) (fun x _ => rfl) hN (B := B_f40_L0 N (fun _ => some (-1:Int)) (fun ρ2 => some (ρ2))) (fun _ _ _ _ => rfl)
 unfold x_f39 x_f40
 rw [this,Option.bind_some,findI_any]
 unfold eights
 rw [← List.not_all_eq_any_not]
def formF (s : Den tSignature) : Bool := inR s.1 0 3 && (decide ((s.2.1.length : Int) = 11) && (decide ((s.2.2.length : Int) = 2) && (eights s.2.1 && eights s.2.2)))
theorem steps_round {N : Nat} {Ω : Type} (kx kr : Int → Option Ω) (rec_ : DenS (.pr (.d 1 I) (.d 2 I)) → Option Ω) (a b c d : Int) (h : (1:Int) < b) (hc : wrap64 (a + 1) = c) (hd : wrap64 (b.tdiv 2) = d) : B_f86_L0 N kx kr rec_ (a,b) = rec_ (c,d) := by
 subst hc hd
 show (bif decide ((1:Int) < b) then _ else _) = _
 rw [dT h]; rfl
theorem steps_last {N : Nat} {Ω : Type} (kx kr : Int → Option Ω) (rec_ : DenS (.pr (.d 1 I) (.d 2 I)) → Option Ω) (a b : Int) (h : ¬ (1:Int) < b) : B_f86_L0 N kx kr rec_ (a,b) = kx a := by
 show (bif decide ((1:Int) < b) then _ else _) = _
 rw [dF h]; rfl
theorem steps_two {N : Nat} (hN : Big N) : x_f86 N = some 2 := by
 have hN' : 1099511627776 ≤ N := hN
 have key : ∀ K M,M = K + 1 + 1 + 1 → iter (B_f86_L0 N (fun x1 => some x1) (fun ρ2 => some ρ2)) M ((0:Int),(4:Int)) = some 2 := by
  intro K M h
  subst h
  rw [iter_succ,steps_round _ _ _ 0 4 1 2 (by decide) (by decide +kernel) (by decide +kernel),iter_succ,steps_round _ _ _ 1 2 2 1 (by decide) (by decide +kernel) (by decide +kernel),iter_succ,steps_last _ _ _ _ _ (by decide)]
 exact key (N - 3) N (by omega)
theorem spec_Form {N : Nat} (hN : Big N) (s : Den tSignature) (h1 : s.2.1.length ≤ 1048576) (h2 : s.2.2.length ≤ 1048576) : x_f83 N s = some (formF s) := by
 unfold x_f83 formF
 simp only [l01In_eq,steps_two hN,spec_Long hN _ h1,spec_Long hN _ h2,Option.bind_some]
 cases inR s.1 0 3 <;> cases decide ((s.2.1.length : Int) = 11) <;> cases decide ((s.2.2.length : Int) = 2) <;> cases eights s.2.1 <;> rfl
theorem impl_Form {N : Nat} (hN : Big N) (s : Den tSignature) (h1 : s.2.1.length ≤ 1048576) (h2 : s.2.2.length ≤ 1048576) : x_f31 N s = some (formF s) := by
 unfold x_f31 formF
 simp only [in_eq,impl_Long hN _ h1,impl_Long hN _ h2,Option.bind_some,Bool.not_not]
 cases inR s.1 0 3 <;> cases decide ((s.2.1.length : Int) = 11) <;> cases decide ((s.2.2.length : Int) = 2) <;> cases eights s.2.1 <;> rfl
def catF (N : Nat) (s : ByteArray) (l : List ByteArray) : ByteArray := l.foldl (fun s e => s ++ (vt N (e.size : Int) ++ e)) s
theorem catF_app (N : Nat) (s : ByteArray) (a b : List ByteArray) : catF N s (a ++ b) = catF N (catF N s a) b := List.foldl_append
theorem catF_size {N : Nat} (hN : Big N) : ∀ (l : List ByteArray) (s : ByteArray),eights l = true → (catF N s l).size ≤ s.size + 108 * l.length
 | [],s,_ => Nat.le_refl _
 | e :: l,s,h => by
  unfold eights at h
  rw [List.all_cons,Bool.and_eq_true,decide_eq_true_eq] at h
  have := catF_size hN l (s ++ (vt N (e.size : Int) ++ e)) h.2
  obtain ⟨v,sv,pv⟩ := vt_some hN (n := (e.size : Int)) (by omega)
  unfold catF at this ⊢
  simp only [List.foldl_cons,List.length_cons,ByteArray.size_append] at this ⊢
  omega
def vtext (N : Nat) (v : Den tVouched) : ByteArray := catF N ((vt N ((ctext N v.1).size : Int) ++ ctext N v.1) ++ vt N v.2.1) (v.2.2.1 ++ v.2.2.2)
theorem spec_loop {N : Nat} (hN : Big N) {B : ((Den tVouched × ByteArray × Int) → Option ByteArray) → (Den tVouched × ByteArray × Int) → Option ByteArray} (v : Den tVouched) (l : List ByteArray) (kx : ByteArray → Option ByteArray) (hl : l.length ≤ 1000)
  (hB : ∀ rec_ s4 s5,B rec_ (v,s4,s5) = (bif (decide (s5 < (l.length : Int))) then (bif (decide (0 ≤ s5) && decide (s5 < l.length)) then (x_f75 N (8:Int)).bind fun r5 => (bif (decide (s4.size + r5.size ≤ 4611686018427387904)) then (bif (decide ((s4 ++ r5).size + (l.getD s5.toNat ByteArray.empty).size ≤ 4611686018427387904)) then rec_ (v,((s4 ++ r5) ++ (l.getD s5.toNat ByteArray.empty)),(wrap64 (s5 + (1:Int)))) else none) else none) else none) else kx s4)) :
  ∀ (R pre : List ByteArray) (s : ByteArray) (M : Nat),l = pre ++ R → R.length < M → eights R = true → s.size + 108 * R.length ≤ 1000000000 → iter B M (v,s,(pre.length : Int)) = kx (catF N s R) := by
 intro R
 induction R with
 | nil =>
  intro pre s M ho hM he hs
  obtain ⟨M,rfl⟩ : ∃ K,M = K + 1 := ⟨M - 1,by omega⟩
  rw [iter_succ,hB,dF (by rw [ho]; simp)]; rfl
 | cons e R ih =>
  intro pre s M ho hM he hs
  obtain ⟨M,rfl⟩ : ∃ K,M = K + 1 := ⟨M - 1,by omega⟩
  simp only [List.length_cons] at hM hs
  unfold eights at he
  rw [List.all_cons,Bool.and_eq_true,decide_eq_true_eq] at he
  have hpo : pre.length < l.length := by rw [ho]; simp
  have g1 : l.getD pre.length ByteArray.empty = e := by rw [ho]; exact gD0 _ _ _ _
  obtain ⟨w,sv,pv⟩ := vt_some hN (n := 8) (by omega)
  rw [iter_succ,hB,lt_rows l hpo,le_rows pre.length,Int.toNat_natCast,g1,w64_up (Nat.le_refl _) (by omega),w,Option.bind_some]
  simp only [cond_true,Bool.and_self]
  rw [dT (by omega),dT (by rw [ByteArray.size_append]; omega)]
  simp only [cond_true]
  have := ih (pre ++ [e]) ((s ++ vt N 8) ++ e) M (by rw [ho]; simp) (by omega) he.2 (by simp only [ByteArray.size_append]; omega)
  rw [List.length_append] at this
  refine Eq.trans this ?_
  unfold catF
  rw [List.foldl_cons,he.1,ByteArray.append_assoc]
theorem spec_VouchedText {N : Nat} (hN : Big N) (v : Den tVouched) (hc : smallC v.1) (hf : v.2.1 ≤ 9223372036854775807) (h1 : v.2.2.1.length ≤ 1048576) (h2 : v.2.2.2.length ≤ 1048576) : x_f67 N v = some (bif credOk v.1 && formF v.2 then vtext N v else ByteArray.empty) := by
 have hN' : 1099511627776 ≤ N := hN
 obtain ⟨e1,e2,e3⟩ := spec_CredText hN v.1 hc
 unfold x_f67
 rw [e1,Option.bind_some]
 cases credOk v.1 with
 | false => rfl
 | true =>
  have hne : ¬ ctext N v.1 = ByteArray.empty := fun h => by rw [h] at e3; exact absurd e3 (by decide)
  simp only [cond_true,Bool.true_and]
  rw [dF hne,spec_Form hN v.2 h1 h2,Option.bind_some]
  cases hF : formF v.2 with
  | false => rfl
  | true =>
   unfold formF at hF
   simp only [Bool.and_eq_true,decide_eq_true_eq] at hF
   obtain ⟨_,f1,f2,f3,f4⟩ := hF
   obtain ⟨v1,s1,p1⟩ := vt_some hN (n := ((ctext N v.1).size : Int)) (by omega)
   obtain ⟨v2,s2,p2⟩ := vt_some hN hf
   simp only [cond_false,Bool.not_true,cond_true]
   rw [v1,Option.bind_some,dT (by omega),cond_true,v2,Option.bind_some,dT (by rw [ByteArray.size_append]; omega),cond_true]
   have c1 := catF_size hN v.2.2.1 ((vt N ((ctext N v.1).size : Int) ++ ctext N v.1) ++ vt N v.2.1) f3
   simp only [ByteArray.size_append] at c1
   refine (spec_loop hN (B := B_f67_L0 N (fun (x6,x7) => iter (B_f67_L2 N (fun x9 => some x9) (fun ρ10 => some (ρ10))) N (x6,x7,(0:Int))) (fun ρ11 => some (ρ11))) v v.2.2.1 (fun s => iter (B_f67_L2 N (fun x9 => some x9) (fun ρ10 => some (ρ10))) N (v,s,(0:Int))) (by omega) (fun _ _ _ => rfl) v.2.2.1 [] _ N rfl (by omega) f3 (by simp only [ByteArray.size_append]; omega)).trans ?_
   refine (spec_loop hN (B := B_f67_L2 N (fun x9 => some x9) (fun ρ10 => some (ρ10))) v v.2.2.2 (fun s => some s) (by omega) (fun _ _ _ => rfl) v.2.2.2 [] _ N rfl (by omega) f4 (by omega)).trans ?_
   unfold vtext
   rw [catF_app]
theorem clone_str (N : Nat) (L : List ByteArray) (hL : L.length ≤ 1048576) : x_f38 N L = some L := by
 unfold x_f38
 simp only [List.length_nil,List.nil_append]
 rw [dT (p := (0 + L.length) * 16 ≤ 140737488355328) (by omega)]
 by_cases h : L.length = 0
 ·obtain rfl : L = [] := List.length_eq_zero_iff.1 h
  rw [dT h]
  exact agree_self _
 ·rw [dF h]; rfl
theorem eights_app {a b : List ByteArray} (h : eights a = true) (k : eights b = true) : eights (a ++ b) = true := by
 unfold eights at *
 rw [List.all_append,h,k]; rfl
theorem impl_VouchedText {N : Nat} (hN : Big N) (v : Den tVouched) (hc : smallC v.1) (hf : v.2.1 ≤ 9223372036854775807) (h1 : v.2.2.1.length ≤ 1048576) (h2 : v.2.2.2.length ≤ 1048576) : x_f22 N v = some (bif credOk v.1 && formF v.2 then vtext N v else ByteArray.empty) := by
 have hN' : 1099511627776 ≤ N := hN
 obtain ⟨e1,e2,e3⟩ := spec_CredText hN v.1 hc
 unfold x_f22
 rw [credOk_i,Option.bind_some]
 cases hC : credOk v.1 with
 | false => rfl
 | true =>
  simp only [cond_false,Bool.not_true,cond_true,Bool.true_and]
  rw [impl_Form hN v.2 h1 h2,Option.bind_some]
  cases hF : formF v.2 with
  | false => rfl
  | true =>
   unfold formF at hF
   simp only [Bool.and_eq_true,decide_eq_true_eq] at hF
   obtain ⟨_,f1,f2,f3,f4⟩ := hF
   obtain ⟨v1,s1,p1⟩ := vt_some hN (n := ((ctext N v.1).size : Int)) (by omega)
   obtain ⟨v2,s2,p2⟩ := vt_some hN hf
   simp only [cond_false,Bool.not_true,cond_true]
   rw [impl_CredText hN v.1 hc,hC,Option.bind_some]
   simp only [cond_true]
   rw [varText_eq N (by omega),v1,Option.bind_some,dT (by omega),cond_true,varText_eq N hf,v2,Option.bind_some,dT (by rw [ByteArray.size_append]; omega),cond_true,clone_str N _ h1,Option.bind_some,dT (by omega),cond_true]
   have key : ∀ (l R pre : List ByteArray) (s : ByteArray) (M : Nat),l = pre ++ R → R.length < M → eights R = true → s.size + 108 * R.length ≤ 1000000000 → l.length ≤ 1000 →
     iter (B_f22_L0 N (fun x8 => some x8) (fun ρ9 => some (ρ9))) M (s,l,(l.length : Int),(pre.length : Int)) = some (catF N s R) := by
    intro l R
    induction R with
    | nil =>
     intro pre s M ho hM he hs hl
     obtain ⟨M,rfl⟩ : ∃ K,M = K + 1 := ⟨M - 1,by omega⟩
     rw [iter_succ]
     show (bif _ then _ else _) = _
     rw [dF (by rw [ho]; simp)]; rfl
    | cons e R ih =>
     intro pre s M ho hM he hs hl
     obtain ⟨M,rfl⟩ : ∃ K,M = K + 1 := ⟨M - 1,by omega⟩
     simp only [List.length_cons] at hM hs
     unfold eights at he
     rw [List.all_cons,Bool.and_eq_true,decide_eq_true_eq] at he
     have hpo : pre.length < l.length := by rw [ho]; simp
     have g1 : l.getD pre.length ByteArray.empty = e := by rw [ho]; exact gD0 _ _ _ _
     obtain ⟨w,sv,pv⟩ := vt_some hN (n := (e.size : Int)) (by omega)
     rw [iter_succ]
     show (bif _ then _ else _) = _
     rw [lt_rows l hpo,le_rows pre.length,Int.toNat_natCast,g1,w64_up (Nat.le_refl _) (by omega),varText_eq N (by omega),w,Option.bind_some]
     simp only [cond_true,Bool.and_self]
     rw [dT (by omega),dT (by rw [ByteArray.size_append]; omega)]
     simp only [cond_true]
     have := ih (pre ++ [e]) (s ++ (vt N (e.size : Int) ++ e)) M (by rw [ho]; simp) (by omega) he.2 (by simp only [ByteArray.size_append]; omega) hl
     rw [List.length_append] at this
     exact this
   refine (key _ _ [] _ N (List.nil_append _).symm (by simp; omega) (eights_app f3 f4) (by simp only [ByteArray.size_append,List.length_append]; omega) (by simp; omega)).trans ?_
   rfl
end Go.Proofs.YtflmdpbhmmohiaaGreat.C
namespace Go.Proofs.YtflmdpbhmmohiaaGreat.C
open Go Go.Proofs.YtflmdpbhmmohiaaGreat.Nx Go.RowKit
set_option linter.unusedVariables false
set_option linter.unusedSimpArgs false
/-! Bytes of texts. -/
theorem byteL_len (s : ByteArray) : (byteL s).length = s.size := by
 unfold byteL
 rw [List.length_map]; rfl
theorem byteL_inj {s t : ByteArray} (h : byteL s = byteL t) : s = t := by
 have e : s.data.toList = t.data.toList := by
  have hi : Function.Injective (fun b : UInt8 => (b.toNat : Int)) := fun a b h => by
   have h : (a.toNat : Int) = (b.toNat : Int) := h
   exact UInt8.toNat_inj.1 (by omega)
  exact List.map_inj_right (fun a b h => hi h) |>.1 h
 cases s; cases t
 simp only [ByteArray.mk.injEq] at *
 exact Array.toList_inj.1 e
theorem byteL_app (s t : ByteArray) : byteL (s ++ t) = byteL s ++ byteL t := by simp [byteL,ByteArray.data_append]
theorem byteL_ext (s : ByteArray) (a b : Nat) : byteL (s.extract a b) = ((byteL s).drop a).take (b - a) := by
 simp [byteL,ByteArray.data_extract,List.extract_eq_take_drop]
theorem byteL_in (s : ByteArray) : ∀ x ∈ byteL s,0 ≤ x ∧ x ≤ 255 := fun x h => by
 obtain ⟨b,_,rfl⟩ := List.mem_map.1 h
 have := b.toNat_lt
 omega
theorem byteL_txt {l : List Int} (h : ∀ x ∈ l,0 ≤ x ∧ x ≤ 255) : byteL (txt l) = l := by
 simp only [byteL,txt,List.map_map]
 refine (List.map_congr_left (g := id) fun x hx => ?_).trans (List.map_id _)
 have := h x hx
 simp only [Function.comp,id,UInt8.toNat_ofNat']
 omega
theorem bu_at (s : ByteArray) (i : Nat) : bu s (i : Int) = (byteL s).getD i 0 := by
 rw [bu_eq]
 simp only [bt,byteL,List.getD,List.getElem?_map,Int.toNat_natCast]
 cases s.data.toList[i]? <;> rfl
/-! Numbers as bytes. -/
def val : List Int → Int
 | [] => 0
 | b :: l => b % 128 + 128 * val l
def vl : Nat → Int → List Int
 | 0,n => [n]
 | d + 1,n => if 127 < n then (n % 128 + 128) :: vl d (n / 128) else [n]
theorem val_app (l : List Int) (x : Int) : val (l ++ [x]) = val l + x % 128 * 128 ^ l.length := by
 induction l with
 | nil => simp [val]
 | cons b l ih =>
  rw [List.cons_append,val,ih,val,List.length_cons,Int.pow_succ,Int.mul_add,Int.add_assoc,Int.mul_left_comm]
  congr 2
  rw [Int.mul_comm 128]
theorem val_nn : ∀ l : List Int,0 ≤ val l ∧ val l < 128 ^ l.length
 | [] => ⟨Int.le_refl _,by decide⟩
 | b :: l => by
  have := val_nn l
  rw [val,List.length_cons,Int.pow_succ]
  omega
theorem vl_in : ∀ d n,0 ≤ n → n < 128 ^ (d + 1) → ∀ x ∈ vl d n,0 ≤ x ∧ x ≤ 255
 | 0,n,h0,h1,x,hx => by
  simp only [vl,List.mem_singleton] at hx
  subst hx
  simp at h1
  omega
 | d + 1,n,h0,h1,x,hx => by
  rw [vl] at hx
  split at hx
  ·rcases List.mem_cons.1 hx with rfl | hx
   ·omega
   ·rw [Int.pow_succ] at h1
    exact vl_in d (n / 128) (by omega) (by omega) x hx
  ·simp only [List.mem_singleton] at hx
   omega
theorem vl_val : ∀ (d : Nat) (P : List Int) (x : Int),P.length ≤ d → (∀ b ∈ P,128 ≤ b ∧ b ≤ 255) → 0 ≤ x → x ≤ 127 → (P = [] ∨ x ≠ 0) → vl d (val (P ++ [x])) = P ++ [x]
 | d,[],x,_,_,h0,h1,_ => by
  have : val ([] ++ [x]) = x := by simp [val]; omega
  rw [this]
  cases d with
  | zero => rfl
  | succ d => rw [vl,if_neg (by omega)]; rfl
 | 0,b :: P,x,hd,_,_,_,_ => by simp at hd
 | d + 1,b :: P,x,hd,hP,h0,h1,h2 => by
  have hx : x ≠ 0 := by rcases h2 with h | h; cases h; exact h
  have hb := hP b (by simp)
  have e : val (b :: P ++ [x]) = b % 128 + 128 * val (P ++ [x]) := rfl
  have hp : 0 < val (P ++ [x]) := by
   rw [val_app]
   have := val_nn P
   have h3 : 0 < x % 128 * 128 ^ P.length := Int.mul_pos (by omega) (Int.pow_pos (by decide))
   omega
  rw [e,vl,if_pos (by omega)]
  have e1 : (b % 128 + 128 * val (P ++ [x])) % 128 + 128 = b := by omega
  have e2 : (b % 128 + 128 * val (P ++ [x])) / 128 = val (P ++ [x]) := by omega
  rw [e1,e2,vl_val d P x (by simpa using hd) (fun y hy => hP y (by simp [hy])) h0 h1 (.inr hx)]
  rfl
theorem vl_last : ∀ (d : Nat) (n : Int),0 < n → ∀ P,vl d n ≠ P ++ [0]
 | 0,n,h,P,e => by
  cases P with
  | nil => simp [vl] at e; omega
  | cons a P => simp [vl] at e
 | d + 1,n,h,P,e => by
  rw [vl] at e
  split at e
  ·cases P with
   | nil =>
    have := congrArg List.length e
    have h2 : ∀ d n,0 < (vl d n).length := fun d n => by
     cases d with
     | zero => simp [vl]
     | succ d => rw [vl]; split <;> simp
    have := h2 d (n / 128)
    simp at *
    omega
   | cons a P =>
    rw [List.cons_append,List.cons.injEq] at e
    exact vl_last d (n / 128) (by omega) P e.2
  ·cases P with
   | nil => simp at e; omega
   | cons a P => simp at e
theorem vl_bad {d : Nat} {P : List Int} (hP : P ≠ []) : vl d (val (P ++ [0])) ≠ P ++ [0] := by
 have h := (val_nn (P ++ [0])).1
 rcases Int.lt_or_eq_of_le h with h | h
 ·exact vl_last d _ h P
 ·rw [← h]
  intro e
  have := congrArg List.length e
  have h1 : vl d 0 = [0] := by cases d with | zero => rfl | succ d => rw [vl,if_neg (by omega)]
  rw [h1] at this
  cases P with
  | nil => exact hP rfl
  | cons a P => simp at this
theorem vt_vl {N : Nat} (hN : Big N) {n : Int} (h0 : 0 ≤ n) (h : n ≤ 9223372036854775807) : vt N n = txt (vl 9 n) := by
 have hN' : 1099511627776 ≤ N := hN
 have key : ∀ (d M : Nat) (s0 : Int) (s3 : List Int),d < M → 0 ≤ s0 → s0 < 128 ^ (d + 1) → s0 ≤ 9223372036854775807 → s3.length + d ≤ 90 →
   iter (B_f75_L0 N (fun (x1,x2) => (bif (decide ((x2.length + [(x1 % 256)].length) * 1 ≤ 140737488355328)) then some (txt (x2 ++ [(x1 % 256)])) else none)) (fun ρ3 => some (ρ3))) M (s0,s3) = some (txt (s3 ++ vl d s0)) := by
  intro d
  induction d with
  | zero =>
   intro M s0 s3 hM h0 h1 h2 hl
   obtain ⟨M,rfl⟩ : ∃ K,M = K + 1 := ⟨M - 1,by omega⟩
   rw [iter_succ]
   show (bif _ then _ else (bif _ then _ else _)) = _
   rw [dF (by simp at h1; omega)]
   simp only [cond_false]
   rw [dT (by simp only [List.length_cons,List.length_nil]; omega),cond_true]
   have : s0 % 256 = s0 := by simp at h1; omega
   rw [this]; rfl
  | succ d ih =>
   intro M s0 s3 hM h0 h1 h2 hl
   obtain ⟨M,rfl⟩ : ∃ K,M = K + 1 := ⟨M - 1,by omega⟩
   rw [iter_succ]
   show (bif _ then _ else (bif _ then _ else _)) = _
   by_cases h3 : 127 < s0
   ·rw [dT h3]
    simp only [cond_true]
    rw [dT (by simp only [List.length_cons,List.length_nil]; omega)]
    simp only [cond_true]
    have e1 : s0.tdiv 128 = s0 / 128 := Int.tdiv_eq_ediv_of_nonneg h0
    have e2 : s0.tmod 128 = s0 % 128 := Int.tmod_eq_emod_of_nonneg h0
    rw [e1,e2,w64 (x := s0 / 128) (by omega) (by omega),w64 (x := s0 % 128 + 128) (by omega) (by omega)]
    rw [Int.pow_succ] at h1
    refine (ih M _ _ (by omega) (by omega) (by omega) (by omega) (by simp; omega)).trans ?_
    have e3 : (s0 % 128 + 128) % 256 = s0 % 128 + 128 := by omega
    rw [vl,if_pos h3,e3,List.append_assoc]; rfl
   ·rw [dF h3]
    simp only [cond_false]
    rw [dT (by simp only [List.length_cons,List.length_nil]; omega),cond_true]
    have : s0 % 256 = s0 := by omega
    rw [this,vl,if_neg h3]
 have e : x_f75 N n = some (txt (vl 9 n)) := key 9 N n [] (by omega) h0 (by have : (128:Int) ^ (9 + 1) = 1180591620717411303424 := (by decide); omega) h (by simp)
 unfold vt
 rw [e]; rfl
/-! Numbers read. -/
def rvG (L : List Int) (a : Nat) : Nat → Int → Nat → Int × Int × Bool
 | 0,_,_ => (0,0,false)
 | f + 1,n,k =>
  if a + k < L.length then
   if 127 < L.getD (a + k) 0 then rvG L a f (n + L.getD (a + k) 0 % 128 * 128 ^ k) (k + 1)
   else if (L.getD (a + k) 0 = 0 ∧ 0 < k) ∨ 1000000000 < n + L.getD (a + k) 0 * 128 ^ k then (0,0,false)
   else (n + L.getD (a + k) 0 * 128 ^ k,((a + k + 1 : Nat) : Int),true)
  else (0,0,false)
def rdV (s : ByteArray) (a : Int) : Int × Int × Bool := bif inR a 0 (s.size : Int) then rvG (byteL s) a.toNat 5 0 0 else (0,0,false)
theorem getD_in (s : ByteArray) (i : Nat) : 0 ≤ (byteL s).getD i 0 ∧ (byteL s).getD i 0 ≤ 255 := by
 rw [List.getD]
 cases h : (byteL s)[i]? with
 | none => simp
 | some x => exact byteL_in s x (List.mem_of_getElem? h)
theorem take_snoc (L : List Int) (a k : Nat) (h : a + k < L.length) : (L.drop a).take (k + 1) = (L.drop a).take k ++ [L.getD (a + k) 0] := by
 rw [List.take_add_one]
 congr 1
 rw [List.getElem?_drop,List.getD,List.getElem?_eq_getElem h]
 rfl
theorem pow_k {k : Nat} (h : k ≤ 4) : (1:Int) ≤ 128 ^ k ∧ (128:Int) ^ k ≤ 268435456 := by
 rcases Nat.lt_or_ge k 1 with h | h
 ·obtain rfl : k = 0 := by omega
  decide
 rcases Nat.lt_or_ge k 2 with h | h
 ·obtain rfl : k = 1 := by omega
  decide
 rcases Nat.lt_or_ge k 3 with h | h
 ·obtain rfl : k = 2 := by omega
  decide
 rcases Nat.lt_or_ge k 4 with h | h
 ·obtain rfl : k = 3 := by omega
  decide
 ·obtain rfl : k = 4 := by omega
  decide
theorem mul_k {k : Nat} (h : k ≤ 4) {y : Int} (h0 : 0 ≤ y) (h1 : y ≤ 127) : 0 ≤ y * 128 ^ k ∧ y * 128 ^ k ≤ 34091302912 ∧ y * 128 ^ k ≤ 127 * 128 ^ k := by
 have hp := pow_k h
 have m1 : y * 128 ^ k ≤ 127 * 128 ^ k := Int.mul_le_mul_of_nonneg_right h1 (by omega)
 have m0 : 0 ≤ y * 128 ^ k := Int.mul_nonneg h0 (by omega)
 omega
theorem inB_ok {a b c : Nat} (h1 : a ≤ b) (h2 : b ≤ c) : inB (a : Int) (b : Int) (c : Int) = true := by
 unfold inB
 rw [dT (p := (0:Int) ≤ (a : Int)) (by omega),dT (p := (a : Int) ≤ (b : Int)) (by omega),dT (p := (b : Int) ≤ (c : Int)) (by omega)]; rfl
theorem spec_RVloop {N : Nat} (hN : Big N) (s : ByteArray) (a : Nat) (hs : s.size ≤ 1048576) (ha : a ≤ s.size) :
  ∀ (f k M : Nat) (n : Int),f + k = 5 → f < M → ((byteL s).drop a).take k = ((byteL s).drop a).take k → n = val (((byteL s).drop a).take k) → a + k ≤ s.size → (∀ b ∈ ((byteL s).drop a).take k,128 ≤ b ∧ b ≤ 255) →
   iter (B_f58_L0 N (fun _ => some ((0:Int),(0:Int),false)) (fun ρ3 => some (ρ3))) M (s,(a : Int),n,(128:Int) ^ k,((a + k : Nat) : Int)) = some (rvG (byteL s) a f n k) := by
 have hL := byteL_len s
 intro f
 induction f with
 | zero =>
  intro k M n hf hM _ hn hk hP
  obtain ⟨M,rfl⟩ : ∃ K,M = K + 1 := ⟨M - 1,by omega⟩
  obtain rfl : k = 5 := by omega
  rw [iter_succ]
  show (bif _ then (bif _ then _ else _) else _) = _
  rw [dF (p := ((a + 5 : Nat) : Int) < wrap64 ((a : Int) + 5)) (by rw [w64 (by omega) (by omega)]; omega)]
  cases decide (((a + 5 : Nat) : Int) < (s.size : Int)) <;> rfl
 | succ f ih =>
  intro k M n hf hM _ hn hk hP
  obtain ⟨M,rfl⟩ : ∃ K,M = K + 1 := ⟨M - 1,by omega⟩
  have hk4 : k ≤ 4 := by omega
  have hlen : (((byteL s).drop a).take k).length = k := by rw [List.length_take,List.length_drop]; omega
  rw [iter_succ,rvG]
  show (bif _ then (bif _ then (bif _ then (bif _ then _ else _) else _) else _) else _) = _
  by_cases h1 : a + k < s.size
  ·rw [dT (p := ((a + k : Nat) : Int) < (s.size : Int)) (by omega),dT (p := ((a + k : Nat) : Int) < wrap64 ((a : Int) + 5)) (by rw [w64 (by omega) (by omega)]; omega),le_rows (a + k),if_pos (by omega)]
   simp only [Bool.and_self,cond_true]
   rw [bu_at]
   have hx := getD_in s (a + k)
   have hts := take_snoc (byteL s) a k (by omega)
   have hva := val_app (((byteL s).drop a).take k) ((byteL s).getD (a + k) 0)
   generalize hxe : (byteL s).getD (a + k) 0 = x at hx hts hva ⊢
   have hnn := val_nn (((byteL s).drop a).take k)
   rw [← hn,hlen] at hnn
   rw [hlen,← hts,← hn] at hva
   have hp := pow_k hk4
   have hm := mul_k hk4 (y := x % 128) (by omega) (by omega)
   have e1 : wrap64 x = x := w64 (by omega) (by omega)
   have e2 : x.tmod 128 = x % 128 := Int.tmod_eq_emod_of_nonneg (by omega)
   have e3 : wrap64 (x % 128 * 128 ^ k) = x % 128 * 128 ^ k := w64 (by omega) (by omega)
   have e4 : wrap64 (n + x % 128 * 128 ^ k) = n + x % 128 * 128 ^ k := w64 (by omega) (by omega)
   rw [e1,e2,e3,e4]
   by_cases h2 : x < 128
   ·have e5 : x % 128 = x := by omega
    rw [dT h2,if_neg (by omega),e5]
    rw [e5] at hva hm
    rw [cond_true]
    by_cases h3 : 1000000000 < n + x * 128 ^ k
    ·rw [dT h3,if_pos (.inr h3)]; rfl
    ·have e6 : wrap64 (((a + k : Nat) : Int) + 1) = ((a + k + 1 : Nat) : Int) := w64_up (Nat.le_refl _) (by omega)
     have e7 : inB (a : Int) ((a + k + 1 : Nat) : Int) (s.size : Int) = true := inB_ok (Nat.le_trans (Nat.le_add_right a k) (Nat.le_succ _)) h1
     rw [dF h3,e6,e7]
     rw [cond_false,cond_true]
     rw [(vt_some hN (by omega)).1,Option.bind_some,vt_vl hN (by omega) (by omega)]
     have e8 : byteL (s.extract (a : Int).toNat ((a + k + 1 : Nat) : Int).toNat) = ((byteL s).drop a).take k ++ [x] := by
      rw [byteL_ext,Int.toNat_natCast,Int.toNat_natCast,← hts]
      congr 1
      omega
     have e9 : byteL (txt (vl 9 (n + x * 128 ^ k))) = vl 9 (n + x * 128 ^ k) := byteL_txt (vl_in 9 _ (by omega) (by
      have : (128:Int) ^ (9 + 1) = 1180591620717411303424 := by decide
      omega))
     have e10 : n + x * 128 ^ k = val (((byteL s).drop a).take k ++ [x]) := by rw [← hts,hva]
     by_cases h4 : x = 0 ∧ 0 < k
     ·rw [if_pos (.inl h4),dF (fun h => by
       have h5 := congrArg byteL h
       rw [e8,e9,e10,h4.1] at h5
       exact vl_bad (by intro h6; rw [h6] at hlen; simp at hlen; omega) h5)]
      rfl
     ·rw [if_neg (by rintro (h | h); exact h4 h; exact h3 h),dT (byteL_inj (by
       rw [e8,e9,e10]
       refine vl_val 9 _ x (by omega) hP (by omega) (by omega) ?_
       by_cases h5 : k = 0
       ·subst h5; exact .inl (List.length_eq_zero_iff.1 hlen)
       ·exact .inr (fun h6 => h4 ⟨h6,by omega⟩)))]
      rfl
   ·rw [dF h2,if_pos (by omega),cond_false]
    have e5 : wrap64 (128 ^ k * 128) = (128:Int) ^ (k + 1) := by rw [w64 (by omega) (by omega),Int.pow_succ]
    rw [e5,w64_up (Nat.le_refl _) (by omega)]
    refine ih (k + 1) M _ (by omega) (by omega) rfl hva.symm (by omega) (fun b hb => ?_)
    rw [hts,List.mem_append,List.mem_singleton] at hb
    rcases hb with hb | rfl
    ·exact hP b hb
    ·omega
  ·rw [dF (p := ((a + k : Nat) : Int) < (s.size : Int)) (by omega),if_neg (by omega)]; rfl
theorem spec_RV {N : Nat} (hN : Big N) (s : ByteArray) (hs : s.size ≤ 1048576) (a : Int) : x_f58 N s a = some (rdV s a) := by
 have hN' : 1099511627776 ≤ N := hN
 unfold x_f58 rdV
 rw [l01In_eq,Option.bind_some]
 cases h : inR a 0 (s.size : Int) with
 | false => rfl
 | true =>
  simp only [inR,Bool.and_eq_true,decide_eq_true_eq] at h
  obtain ⟨a,rfl⟩ := Int.eq_ofNat_of_zero_le h.1
  simp only [Bool.not_true,cond_false,cond_true]
  exact spec_RVloop hN s a hs (by omega) 5 0 N 0 rfl (by omega) rfl rfl (by omega) (fun b hb => by simp at hb)
theorem or_add {n y : Int} {k : Nat} (hk : k ≤ 4) (h0 : 0 ≤ n) (h1 : n < 128 ^ k) (hy0 : 0 ≤ y) (hy1 : y ≤ 127) : orI .i64 n (shlI .i64 y (wrap64 (7 * (k : Int)))) = n + y * 128 ^ k := by
 have hp := pow_k hk
 have hm := mul_k hk hy0 hy1
 have e0 : wrap64 (7 * (k : Int)) = ((7 * k : Nat) : Int) := by rw [w64 (by omega) (by omega)]; omega
 have e1 : (2:Int) ^ (min ((7 * k : Nat) : Int).toNat IntKind.i64.bits) = 128 ^ k := by
  have : min ((7 * k : Nat) : Int).toNat IntKind.i64.bits = 7 * k := by
   show min _ 64 = _
   rw [Int.toNat_natCast]; omega
  rw [this,Int.pow_mul]; rfl
 have e2 : shlI .i64 y (wrap64 (7 * (k : Int))) = y * 128 ^ k := by
  unfold shlI
  rw [pin_eq,e0,e1,iw (by omega) (by omega)]
 rw [e2]
 unfold orI
 rw [pin_eq]
 obtain ⟨m,rfl⟩ := Int.eq_ofNat_of_zero_le h0
 obtain ⟨z,rfl⟩ := Int.eq_ofNat_of_zero_le hy0
 have e3 : ((128:Int) ^ k) = ((2 ^ (7 * k) : Nat) : Int) := by
  rw [Nat.pow_mul,Int.natCast_pow]; rfl
 rw [e3] at h1 hm ⊢
 rw [← Int.natCast_mul] at hm ⊢
 have e4 : (BitVec.ofInt 64 (m : Int) ||| BitVec.ofInt 64 ((z * 2 ^ (7 * k) : Nat) : Int)).toNat = m + z * 2 ^ (7 * k) := by
  rw [BitVec.toNat_or,BitVec.toNat_ofInt,BitVec.toNat_ofInt,p64]
  have f1 : ((m : Int) % 18446744073709551616).toNat = m := by omega
  have f2 : (((z * 2 ^ (7 * k) : Nat) : Int) % 18446744073709551616).toNat = z * 2 ^ (7 * k) := by omega
  rw [f1,f2,Nat.or_comm,Nat.mul_comm,← Nat.two_pow_add_eq_or_of_lt (by omega)]
  omega
 show IntKind.i64.wrap (((BitVec.ofInt 64 (m : Int) ||| BitVec.ofInt 64 ((z * 2 ^ (7 * k) : Nat) : Int)).toNat : Nat) : Int) = _
 rw [e4,iw (by omega) (by omega)]
 omega
theorem impl_RVloop {N : Nat} (hN : Big N) (s : ByteArray) (a : Nat) (hs : s.size ≤ 1048576) (ha : a ≤ s.size) :
  ∀ (f k M : Nat) (n : Int),f + k = 5 → f < M → 0 ≤ n → n < 128 ^ k →
   iter (B_f11_L0 N (fun _ => some ((0:Int),(0:Int),false)) (fun ρ3 => some (ρ3))) M (s,(a : Int),n,(k : Int)) = some (rvG (byteL s) a f n k) := by
 have hL := byteL_len s
 intro f
 induction f with
 | zero =>
  intro k M n hf hM h0 h1
  obtain ⟨M,rfl⟩ : ∃ K,M = K + 1 := ⟨M - 1,by omega⟩
  rw [iter_succ]
  show (bif _ then _ else _) = _
  rw [dF (p := (k : Int) < 5) (by omega)]; rfl
 | succ f ih =>
  intro k M n hf hM h0 hn
  obtain ⟨M,rfl⟩ : ∃ K,M = K + 1 := ⟨M - 1,by omega⟩
  have hk4 : k ≤ 4 := by omega
  rw [iter_succ,rvG]
  show (bif _ then (bif _ then (bif _ then (bif _ then (bif _ then _ else (bif _ then (bif _ then _ else (bif _ then _ else _)) else (bif _ then _ else _))) else _) else _) else _) else _) = _
  have e0 : wrap64 ((a : Int) + (k : Int)) = ((a + k : Nat) : Int) := by rw [w64 (by omega) (by omega)]; omega
  rw [e0,dT (p := (k : Int) < 5) (by omega),cond_true]
  by_cases h1 : a + k < s.size
  ·rw [dT (p := ((a + k : Nat) : Int) < (s.size : Int)) (by omega),le_rows (a + k),dT (p := 0 ≤ wrap64 (7 * (k : Int))) (by rw [w64 (by omega) (by omega)]; omega),if_pos (by omega)]
   simp only [Bool.and_self,cond_true]
   rw [bu_at]
   have hx := getD_in s (a + k)
   generalize hxe : (byteL s).getD (a + k) 0 = x at hx ⊢
   have hp := pow_k hk4
   have hm := mul_k hk4 (y := x % 128) (by omega) (by omega)
   have e1 : wrap64 x = x := w64 (by omega) (by omega)
   have e2 : wrap64 (((a + k : Nat) : Int) + 1) = ((a + k + 1 : Nat) : Int) := w64_up (Nat.le_refl _) (by omega)
   rw [e1,andI127 (by omega) (by omega),or_add hk4 h0 hn (by omega) (by omega),e2]
   by_cases h2 : 127 < x
   ·rw [dT h2,if_pos h2,cond_true,w64_up (Nat.le_refl _) (by omega)]
    refine ih (k + 1) M _ (by omega) (by omega) (by omega) ?_
    rw [Int.pow_succ]
    omega
   ·have e5 : x % 128 = x := by omega
    rw [dF h2,if_neg h2,e5,cond_false]
    by_cases h3 : 1000000000 < n + x * 128 ^ k
    ·rw [dT h3,if_pos (.inr h3)]
     cases decide (x = 0) <;> cases decide ((0:Int) < (k : Int)) <;> rfl
    ·rw [dF h3]
     by_cases h4 : x = 0
     ·rw [dT h4]
      by_cases h5 : 0 < k
      ·rw [dT (by omega),if_pos (.inl ⟨h4,h5⟩)]; rfl
      ·rw [dF (by omega),if_neg (by rintro (h | h); exact h5 h.2; exact h3 h)]; rfl
     ·rw [dF h4,if_neg (by rintro (h | h); exact h4 h.1; exact h3 h)]; rfl
  ·rw [dF (p := ((a + k : Nat) : Int) < (s.size : Int)) (by omega),if_neg (by omega)]; rfl
theorem impl_RV {N : Nat} (hN : Big N) (s : ByteArray) (hs : s.size ≤ 1048576) (a : Int) : x_f11 N s a = some (rdV s a) := by
 have hN' : 1099511627776 ≤ N := hN
 unfold x_f11 rdV
 rw [in_eq,Option.bind_some]
 cases h : inR a 0 (s.size : Int) with
 | false => rfl
 | true =>
  simp only [inR,Bool.and_eq_true,decide_eq_true_eq] at h
  obtain ⟨a,rfl⟩ := Int.eq_ofNat_of_zero_le h.1
  simp only [Bool.not_true,cond_false,cond_true]
  exact impl_RVloop hN s a hs (by omega) 5 0 N 0 rfl (by omega) (by omega) (by decide)
theorem rvG_ok {N : Nat} (hN : Big N) (s : ByteArray) (a : Nat) (ha : a ≤ s.size) : ∀ (f k : Nat) (n : Int),f + k = 5 → n = val (((byteL s).drop a).take k) → a + k ≤ s.size → (∀ b ∈ ((byteL s).drop a).take k,128 ≤ b ∧ b ≤ 255) →
  (rvG (byteL s) a f n k).2.2 = true → ∃ m : Nat,(rvG (byteL s) a f n k).2.1 = (m : Int) ∧ a < m ∧ m ≤ s.size ∧ 0 ≤ (rvG (byteL s) a f n k).1 ∧ (rvG (byteL s) a f n k).1 ≤ 1000000000 ∧ vt N (rvG (byteL s) a f n k).1 = s.extract a m := by
 have hL := byteL_len s
 intro f
 induction f with
 | zero => intro k n hf hn hk hP h; cases h
 | succ f ih =>
  intro k n hf hn hk hP
  have hk4 : k ≤ 4 := by omega
  rw [rvG]
  by_cases h1 : a + k < s.size
  ·rw [if_pos (by omega)]
   have hlen : (((byteL s).drop a).take k).length = k := by rw [List.length_take,List.length_drop]; omega
   have hx := getD_in s (a + k)
   have hts := take_snoc (byteL s) a k (by omega)
   have hva := val_app (((byteL s).drop a).take k) ((byteL s).getD (a + k) 0)
   generalize hxe : (byteL s).getD (a + k) 0 = x at hx hts hva ⊢
   have hnn := val_nn (((byteL s).drop a).take k)
   rw [← hn,hlen] at hnn
   rw [hlen,← hts,← hn] at hva
   have hp := pow_k hk4
   by_cases h2 : 127 < x
   ·rw [if_pos h2]
    refine ih (k + 1) _ (by omega) hva.symm (by omega) (fun b hb => ?_)
    rw [hts,List.mem_append,List.mem_singleton] at hb
    rcases hb with hb | rfl
    ·exact hP b hb
    ·omega
   ·rw [if_neg h2]
    have e5 : x % 128 = x := by omega
    rw [e5] at hva
    have hm := mul_k hk4 (y := x) (by omega) (by omega)
    by_cases h3 : (x = 0 ∧ 0 < k) ∨ 1000000000 < n + x * 128 ^ k
    ·rw [if_pos h3]; intro h; cases h
    ·rw [if_neg h3]
     intro _
     have h4 : ¬ (x = 0 ∧ 0 < k) := fun h => h3 (.inl h)
     have h5 : ¬ 1000000000 < n + x * 128 ^ k := fun h => h3 (.inr h)
     refine ⟨a + k + 1,rfl,by omega,by omega,by dsimp only; omega,by dsimp only; omega,?_⟩
     dsimp only
     rw [vt_vl hN (by omega) (by omega)]
     refine byteL_inj ?_
     have e10 : n + x * 128 ^ k = val (((byteL s).drop a).take k ++ [x]) := by rw [← hts,hva]
     rw [byteL_txt (vl_in 9 _ (by omega) (by
      have : (128:Int) ^ (9 + 1) = 1180591620717411303424 := by decide
      omega)),e10,vl_val 9 _ x (by omega) hP (by omega) (by omega) (by
       by_cases h5 : k = 0
       ·subst h5; exact .inl (List.length_eq_zero_iff.1 hlen)
       ·exact .inr (fun h6 => h4 ⟨h6,by omega⟩)),byteL_ext,← hts]
     congr 1
     omega
  ·rw [if_neg (by omega)]; intro h; cases h
theorem rdV_ok {N : Nat} (hN : Big N) (s : ByteArray) (a : Int) (h : (rdV s a).2.2 = true) : ∃ k m : Nat,a = (k : Int) ∧ (rdV s a).2.1 = (m : Int) ∧ k < m ∧ m ≤ s.size ∧ 0 ≤ (rdV s a).1 ∧ (rdV s a).1 ≤ 1000000000 ∧ vt N (rdV s a).1 = s.extract k m := by
 unfold rdV at h ⊢
 cases h1 : inR a 0 (s.size : Int) with
 | false => rw [h1] at h; cases h
 | true =>
  rw [h1] at h
  simp only [inR,Bool.and_eq_true,decide_eq_true_eq] at h1
  obtain ⟨a,rfl⟩ := Int.eq_ofNat_of_zero_le h1.1
  obtain ⟨m,h⟩ := rvG_ok hN s a (by omega) 5 0 0 rfl rfl (by omega) (fun b hb => by simp at hb) h
  exact ⟨a,m,rfl,h⟩
end Go.Proofs.YtflmdpbhmmohiaaGreat.C
namespace Go.Proofs.YtflmdpbhmmohiaaGreat.C
open Go Go.Proofs.YtflmdpbhmmohiaaGreat.Nx Go.RowKit
set_option linter.unusedVariables false
set_option linter.unusedSimpArgs false
def rdS (s : ByteArray) (a : Int) : ByteArray × Int × Bool :=
 bif !(rdV s a).2.2 then (ByteArray.empty,0,false) else bif decide (20000 < (rdV s a).1) then (ByteArray.empty,0,false)
 else bif decide (((s.size : Int) - (rdV s a).2.1) < (rdV s a).1) then (ByteArray.empty,0,false)
 else (s.extract (rdV s a).2.1.toNat ((rdV s a).2.1 + (rdV s a).1).toNat,(rdV s a).2.1 + (rdV s a).1,true)
theorem spec_RS {N : Nat} (hN : Big N) (s : ByteArray) (hs : s.size ≤ 1048576) (a : Int) : x_f57 N s a = some (rdS s a) := by
 unfold x_f57 rdS
 rw [spec_RV hN s hs a,Option.bind_some]
 cases h : (rdV s a).2.2 with
 | false => rfl
 | true =>
  obtain ⟨k,m,_,h2,h3,h4,h5,h6,_⟩ := rdV_ok hN s a h
  have e1 : wrap64 ((s.size : Int) - (rdV s a).2.1) = (s.size : Int) - (rdV s a).2.1 := w64 (by omega) (by omega)
  have e2 : wrap64 ((rdV s a).2.1 + (rdV s a).1) = (rdV s a).2.1 + (rdV s a).1 := w64 (by omega) (by omega)
  rw [e1,e2]
  by_cases h7 : 20000 < (rdV s a).1
  ·rw [dT h7]; rfl
  ·rw [dF h7]
   by_cases h8 : ((s.size : Int) - (rdV s a).2.1) < (rdV s a).1
   ·rw [dT h8]; rfl
   ·rw [dF h8]
    have e3 : inB (rdV s a).2.1 ((rdV s a).2.1 + (rdV s a).1) (s.size : Int) = true := by
     unfold inB
     rw [dT (p := 0 ≤ (rdV s a).2.1) (by omega),dT (p := (rdV s a).2.1 ≤ (rdV s a).2.1 + (rdV s a).1) (by omega),dT (p := (rdV s a).2.1 + (rdV s a).1 ≤ (s.size : Int)) (by omega)]; rfl
    rw [e3]; rfl
theorem impl_RS {N : Nat} (hN : Big N) (s : ByteArray) (hs : s.size ≤ 1048576) (a : Int) : x_f10 N s a = some (rdS s a) := by
 rw [← spec_RS hN s hs a]
 unfold x_f10 x_f57
 rw [spec_RV hN s hs a,impl_RV hN s hs a]
theorem rdS_size (s : ByteArray) (hs : s.size ≤ 1048576) (a : Int) : (rdS s a).1.size ≤ 1048576 := by
 unfold rdS
 cases (!(rdV s a).2.2) with
 | true => exact (by decide : ByteArray.empty.size ≤ 1048576)
 | false =>
  cases decide (20000 < (rdV s a).1) with
  | true => exact (by decide : ByteArray.empty.size ≤ 1048576)
  | false =>
   cases decide (((s.size : Int) - (rdV s a).2.1) < (rdV s a).1) with
   | true => exact (by decide : ByteArray.empty.size ≤ 1048576)
   | false =>
    show (s.extract _ _).size ≤ _
    rw [ByteArray.size_extract]
    omega
def reads (s : ByteArray) : Nat → Int → Option (List Int × Int)
 | 0,a => some ([],a)
 | c + 1,a => bif (rdV s a).2.2 then (reads s c (rdV s a).2.1).map (fun q => ((rdV s a).1 :: q.1,q.2)) else none
theorem reads_ok {N : Nat} (hN : Big N) (s : ByteArray) : ∀ (c k : Nat) (l : List Int) (e : Int) (t : ByteArray),k ≤ s.size → reads s c (k : Int) = some (l,e) →
  l.length = c ∧ (∀ x ∈ l,0 ≤ x ∧ x ≤ 1000000000) ∧ ∃ m : Nat,e = (m : Int) ∧ k ≤ m ∧ m ≤ s.size ∧ l.foldl (fun t n => t ++ vt N n) t = t ++ s.extract k m
 | 0,k,l,e,t,hk,h => by
  simp only [reads,Option.some.injEq,Prod.mk.injEq] at h
  obtain ⟨rfl,rfl⟩ := h
  refine ⟨rfl,fun x hx => by simp at hx,k,rfl,Nat.le_refl _,hk,?_⟩
  have : s.extract k k = ByteArray.empty := byteL_inj (by rw [byteL_ext,Nat.sub_self,List.take_zero]; rfl)
  rw [this,ByteArray.append_empty]; rfl
 | c + 1,k,l,e,t,hk,h => by
  rw [reads] at h
  cases h1 : (rdV s (k : Int)).2.2 with
  | false => rw [h1] at h; cases h
  | true =>
   rw [h1,cond_true] at h
   obtain ⟨k',m,hk',h2,h3,h4,h5,h6,h7⟩ := rdV_ok hN s k h1
   obtain rfl : k = k' := by omega
   rw [h2] at h
   cases h8 : reads s c (m : Int) with
   | none => rw [h8] at h; cases h
   | some q =>
    obtain ⟨l',e'⟩ := q
    rw [h8] at h
    simp only [Option.map_some,Option.some.injEq,Prod.mk.injEq] at h
    obtain ⟨rfl,rfl⟩ := h
    obtain ⟨g1,g2,m',g3,g4,g5,g6⟩ := reads_ok hN s c m l' e' (t ++ vt N (rdV s (k : Int)).1) h4 h8
    refine ⟨by rw [List.length_cons,g1],fun x hx => ?_,m',g3,by omega,g5,?_⟩
    ·rcases List.mem_cons.1 hx with rfl | hx
     ·exact ⟨h5,h6⟩
     ·exact g2 x hx
    ·rw [List.foldl_cons,g6,h7,ByteArray.append_assoc]
     congr 1
     refine byteL_inj ?_
     rw [byteL_app,byteL_ext,byteL_ext,byteL_ext]
     have e1 : m' - k = (m - k) + (m' - m) := by omega
     have e2 : (byteL s).drop m = ((byteL s).drop k).drop (m - k) := by rw [List.drop_drop]; congr 1; omega
     rw [e1,e2,List.take_add]
theorem spec_reads {N : Nat} (hN : Big N) (s : ByteArray) (hs : s.size ≤ 1048576) (c0 : Den tCred) (kx : DenS (.pr (.d 0 .tx) (.pr (.bx 2 tCred) (.o 4 I))) → Option ((Den tCred) × Bool)) :
  ∀ (c i M : Nat) (acc : List Int) (a : Int),c + i = 10 → c < M → acc.length = i →
   iter (B_f56_L0 N kx (fun ρ7 => some (ρ7))) M (s,c0,acc,a,(i : Int)) = match reads s c a with | none => some (((0:Int),((0:Int),(0:Int)),(0:Int),((0:Int),(0:Int)),((0:Int),(0:Int)),(0:Int),(0:Int)),false) | some q => kx (s,c0,acc ++ q.1)
 | 0,i,M,acc,a,hc,hM,ha => by
  obtain ⟨M,rfl⟩ : ∃ K,M = K + 1 := ⟨M - 1,by omega⟩
  rw [iter_succ]
  show (bif _ then _ else _) = _
  rw [dF (p := (i : Int) < 10) (by omega),cond_false,reads]
  show kx _ = kx _
  rw [List.append_nil]
 | c + 1,i,M,acc,a,hc,hM,ha => by
  obtain ⟨M,rfl⟩ : ∃ K,M = K + 1 := ⟨M - 1,by omega⟩
  rw [iter_succ]
  show (bif _ then _ else _) = _
  rw [dT (p := (i : Int) < 10) (by omega),cond_true,spec_RV hN s hs a,Option.bind_some,reads]
  cases h : (rdV s a).2.2 with
  | false => rfl
  | true =>
   rw [Bool.not_true,cond_false,cond_true,dT (p := (acc.length + [(rdV s a).1].length) * 8 ≤ 140737488355328) (by simp only [List.length_cons,List.length_nil]; omega),cond_true,w64_up (Nat.le_refl _) (by omega)]
   refine (spec_reads hN s hs c0 kx c (i + 1) M (acc ++ [(rdV s a).1]) (rdV s a).2.1 (by omega) (by omega) (by simp [ha])).trans ?_
   cases reads s c (rdV s a).2.1 with
   | none => rfl
   | some q => show kx _ = kx _; rw [List.append_assoc]; rfl
theorem impl_reads {N : Nat} (hN : Big N) (s : ByteArray) (hs : s.size ≤ 1048576) :
  ∀ (c i M : Nat) (acc : List Int) (a : Int),c + i = 10 → c < M → acc.length = i →
   iter (B_f27_L0 N (fun (x2,x3) => some (x3,x2,true)) (fun ρ4 => some (ρ4))) M (s,a,acc,(10:Int),(i : Int)) = match reads s c a with | none => some ([],(0:Int),false) | some q => some (acc ++ q.1,q.2,true)
 | 0,i,M,acc,a,hc,hM,ha => by
  obtain ⟨M,rfl⟩ : ∃ K,M = K + 1 := ⟨M - 1,by omega⟩
  rw [iter_succ]
  show (bif _ then _ else _) = _
  rw [dF (p := (i : Int) < 10) (by omega),cond_false,reads]
  show some _ = some _
  rw [List.append_nil]
 | c + 1,i,M,acc,a,hc,hM,ha => by
  obtain ⟨M,rfl⟩ : ∃ K,M = K + 1 := ⟨M - 1,by omega⟩
  rw [iter_succ]
  show (bif _ then _ else _) = _
  rw [dT (p := (i : Int) < 10) (by omega),cond_true,impl_RV hN s hs a,Option.bind_some,reads]
  cases h : (rdV s a).2.2 with
  | false => rfl
  | true =>
   rw [Bool.not_true,cond_false,cond_true,dT (p := (acc.length + [(rdV s a).1].length) * 8 ≤ 140737488355328) (by simp only [List.length_cons,List.length_nil]; omega),cond_true,w64_up (Nat.le_refl _) (by omega)]
   refine (impl_reads hN s hs c (i + 1) M (acc ++ [(rdV s a).1]) (rdV s a).2.1 (by omega) (by omega) (by simp [ha])).trans ?_
   cases reads s c (rdV s a).2.1 with
   | none => rfl
   | some q => show some _ = some _; rw [List.append_assoc]; rfl
def noCred : Den tCred := ((0:Int),((0:Int),(0:Int)),(0:Int),((0:Int),(0:Int)),((0:Int),(0:Int)),(0:Int),(0:Int))
def credAt (l : List Int) : Den tCred := (l.getD 0 0,(l.getD 1 0,l.getD 2 0),l.getD 3 0,(l.getD 4 0,l.getD 5 0),(l.getD 6 0,l.getD 7 0),l.getD 8 0,l.getD 9 0)
def rdC (s : ByteArray) : Den tCred × Bool := match reads s 10 0 with
 | none => (noCred,false)
 | some q => bif decide (q.2 = (s.size : Int)) && credOk (credAt q.1) then (credAt q.1,true) else (noCred,false)
theorem ten {l : List Int} (h : l.length = 10) : ∃ a b c d e f g i j k,l = [a,b,c,d,e,f,g,i,j,k] := by
 match l,h with
 | [a,b,c,d,e,f,g,i,j,k],_ => exact ⟨a,b,c,d,e,f,g,i,j,k,rfl⟩
theorem bnd {n k : Nat} (h : k < n) : (decide (0 ≤ ((k : Nat) : Int)) && decide (((k : Nat) : Int) < (n : Int))) = true := inr h
theorem rdC_small {N : Nat} (hN : Big N) (s : ByteArray) : smallC (rdC s).1 := by
 unfold rdC
 have hz : smallC noCred := fun x hx => by
  simp only [noCred,List.mem_cons,List.not_mem_nil,or_false] at hx
  rcases hx with rfl | rfl | rfl | rfl | rfl | rfl | rfl | rfl | rfl | rfl <;> decide
 cases h : reads s 10 0 with
 | none => exact hz
 | some q =>
  obtain ⟨l,e⟩ := q
  obtain ⟨h1,h2,_⟩ := reads_ok hN s 10 0 l e ByteArray.empty (by omega) h
  dsimp only
  cases decide (e = (s.size : Int)) && credOk (credAt l) with
  | false => exact hz
  | true =>
   obtain ⟨a,b,c,d,e,f,g,i,j,k,rfl⟩ := ten h1
   intro x hx
   have : x ∈ [a,b,c,d,e,f,g,i,j,k] := hx
   exact Int.le_trans (h2 x this).2 (by decide)
set_option maxHeartbeats 1000000 in
theorem spec_RC {N : Nat} (hN : Big N) (s : ByteArray) (hs : s.size ≤ 1048576) : x_f56 N s = some (rdC s) := by
 have hN' : 1099511627776 ≤ N := hN
 unfold x_f56
 refine (spec_reads hN s hs _ _ 10 0 N [] 0 rfl (by omega) rfl).trans ?_
 unfold rdC
 cases h : reads s 10 0 with
 | none => rfl
 | some q =>
  obtain ⟨l,e⟩ := q
  obtain ⟨h1,h2,m,rfl,_,h3,h4⟩ := reads_ok hN s 10 0 l e ByteArray.empty (by omega) h
  have hsm : smallC (credAt l) := by
   obtain ⟨a,b,c,d,e,f,g,i,j,k,rfl⟩ := ten h1
   intro x hx
   have : x ∈ [a,b,c,d,e,f,g,i,j,k] := hx
   exact Int.le_trans (h2 x this).2 (by decide)
  have hct : ctext N (credAt l) = s.extract 0 m := by
   rw [ByteArray.empty_append] at h4
   rw [← h4]
   obtain ⟨a,b,c,d,e,f,g,i,j,k,rfl⟩ := ten h1
   simp only [List.foldl_cons,List.foldl_nil,ByteArray.empty_append]
   rfl
  have hem : decide (ctext N (credAt l) = s) = decide ((m : Int) = (s.size : Int)) := by
   rw [hct]
   by_cases hm : m = s.size
   ·subst hm
    rw [dT rfl,dT (byteL_inj (by rw [byteL_ext,List.drop_zero,Nat.sub_zero,← byteL_len,List.take_length]))]
   ·rw [dF (p := (m : Int) = (s.size : Int)) (by omega),dF (p := s.extract 0 m = s) (fun h => hm (by rw [← congrArg ByteArray.size h,ByteArray.size_extract]; omega))]
  dsimp only
  rw [List.nil_append]
  have b : ∀ k : Nat,k < 10 → (decide (0 ≤ ((k : Nat) : Int)) && decide (((k : Nat) : Int) < l.length)) = true := fun k hk => by rw [h1]; exact bnd hk
  rw [show (decide (0 ≤ (0:Int)) && decide ((0:Int) < l.length)) = true from b 0 (by decide),cond_true,
   show (decide (0 ≤ (1:Int)) && decide ((1:Int) < l.length)) = true from b 1 (by decide),cond_true,
   show (decide (0 ≤ (2:Int)) && decide ((2:Int) < l.length)) = true from b 2 (by decide),cond_true,
   show (decide (0 ≤ (3:Int)) && decide ((3:Int) < l.length)) = true from b 3 (by decide),cond_true,
   show (decide (0 ≤ (4:Int)) && decide ((4:Int) < l.length)) = true from b 4 (by decide),cond_true,
   show (decide (0 ≤ (5:Int)) && decide ((5:Int) < l.length)) = true from b 5 (by decide),cond_true,
   show (decide (0 ≤ (6:Int)) && decide ((6:Int) < l.length)) = true from b 6 (by decide),cond_true,
   show (decide (0 ≤ (7:Int)) && decide ((7:Int) < l.length)) = true from b 7 (by decide),cond_true,
   show (decide (0 ≤ (8:Int)) && decide ((8:Int) < l.length)) = true from b 8 (by decide),cond_true,
   show (decide (0 ≤ (9:Int)) && decide ((9:Int) < l.length)) = true from b 9 (by decide),cond_true]
  have hr := (spec_CredText hN (credAt l) hsm).1
  have hk := credOk_s N (credAt l)
  refine (congrArg (fun o => Option.bind o _) hk).trans ?_
  rw [Option.bind_some]
  cases hC : credOk (credAt l) with
  | false => rw [Bool.and_false]; rfl
  | true =>
   rw [hC,cond_true] at hr
   rw [Bool.not_true,cond_false,Bool.and_true]
   refine (congrArg (fun o => Option.bind o _) hr).trans ?_
   rw [Option.bind_some,hem]
   cases decide ((m : Int) = (s.size : Int)) <;> rfl
set_option maxHeartbeats 1000000 in
theorem impl_RC {N : Nat} (hN : Big N) (s : ByteArray) (hs : s.size ≤ 1048576) : x_f9 N s = some (rdC s) := by
 have hN' : 1099511627776 ≤ N := hN
 unfold x_f9
 have e : x_f27 N s (0:Int) (10:Int) = match reads s 10 0 with | none => some ([],(0:Int),false) | some q => some ([] ++ q.1,q.2,true) := impl_reads hN s hs 10 0 N [] 0 rfl (by omega) rfl
 rw [e]
 unfold rdC
 cases h : reads s 10 0 with
 | none => rfl
 | some q =>
  obtain ⟨l,e⟩ := q
  obtain ⟨h1,h2,m,rfl,_,h3,h4⟩ := reads_ok hN s 10 0 l e ByteArray.empty (by omega) h
  dsimp only
  rw [List.nil_append,Option.bind_some]
  dsimp only
  rw [Bool.not_true,cond_false]
  cases decide ((m : Int) = (s.size : Int)) with
  | false => rfl
  | true =>
   rw [Bool.not_true,cond_false,Bool.true_and]
   have b : ∀ k : Nat,k < 10 → (decide (0 ≤ ((k : Nat) : Int)) && decide (((k : Nat) : Int) < l.length)) = true := fun k hk => by rw [h1]; exact bnd hk
   rw [show (decide (0 ≤ (0:Int)) && decide ((0:Int) < l.length)) = true from b 0 (by decide),cond_true,
    show (decide (0 ≤ (1:Int)) && decide ((1:Int) < l.length)) = true from b 1 (by decide),cond_true,
    show (decide (0 ≤ (2:Int)) && decide ((2:Int) < l.length)) = true from b 2 (by decide),cond_true,
    show (decide (0 ≤ (3:Int)) && decide ((3:Int) < l.length)) = true from b 3 (by decide),cond_true,
    show (decide (0 ≤ (4:Int)) && decide ((4:Int) < l.length)) = true from b 4 (by decide),cond_true,
    show (decide (0 ≤ (5:Int)) && decide ((5:Int) < l.length)) = true from b 5 (by decide),cond_true,
    show (decide (0 ≤ (6:Int)) && decide ((6:Int) < l.length)) = true from b 6 (by decide),cond_true,
    show (decide (0 ≤ (7:Int)) && decide ((7:Int) < l.length)) = true from b 7 (by decide),cond_true,
    show (decide (0 ≤ (8:Int)) && decide ((8:Int) < l.length)) = true from b 8 (by decide),cond_true,
    show (decide (0 ≤ (9:Int)) && decide ((9:Int) < l.length)) = true from b 9 (by decide),cond_true]
   have hk := credOk_i N (credAt l)
   refine (congrArg (fun o => Option.bind o _) hk).trans ?_
   rw [Option.bind_some]
   cases credOk (credAt l) <;> rfl
end Go.Proofs.YtflmdpbhmmohiaaGreat.C
namespace Go.Proofs.YtflmdpbhmmohiaaGreat.C
open Go Go.Proofs.YtflmdpbhmmohiaaGreat.Nx Go.RowKit
set_option linter.unusedVariables false
set_option linter.unusedSimpArgs false
def shorts (s : ByteArray) : Nat → Int → Option (List ByteArray)
 | 0,a => some []
 | c + 1,a => bif (rdS s a).2.2 then (shorts s c (rdS s a).2.1).map (fun q => (rdS s a).1 :: q) else none
theorem shorts_ok (s : ByteArray) (hs : s.size ≤ 1048576) : ∀ (c : Nat) (a : Int) (l : List ByteArray),shorts s c a = some l → l.length = c ∧ ∀ x ∈ l,x.size ≤ 1048576
 | 0,a,l,h => by
  simp only [shorts,Option.some.injEq] at h
  subst h
  exact ⟨rfl,fun x hx => by simp at hx⟩
 | c + 1,a,l,h => by
  rw [shorts] at h
  cases h1 : (rdS s a).2.2 with
  | false => rw [h1] at h; cases h
  | true =>
   rw [h1,cond_true] at h
   cases h2 : shorts s c (rdS s a).2.1 with
   | none => rw [h2] at h; cases h
   | some q =>
    rw [h2] at h
    simp only [Option.map_some,Option.some.injEq] at h
    subst h
    obtain ⟨g1,g2⟩ := shorts_ok s hs c _ q h2
    refine ⟨by rw [List.length_cons,g1],fun x hx => ?_⟩
    rcases List.mem_cons.1 hx with rfl | hx
    ·exact rdS_size s hs a
    ·exact g2 x hx
def noV : Den tVouched := (((0:Int),((0:Int),(0:Int)),(0:Int),((0:Int),(0:Int)),((0:Int),(0:Int)),(0:Int),(0:Int)),(0:Int),[],[])
theorem spec_shorts {N : Nat} (hN : Big N) (s : ByteArray) (hs : s.size ≤ 1048576) (n1 n2 : Den tVouched) (c1 : Den tCred) (leaf : Int) (kx : DenS (.pr (.d 0 .tx) (.pr (.bx 2 tVouched) (.pr (.bx 4 tVouched) (.bx 13 tVouched)))) → Option ((Den tVouched) × Bool)) :
  ∀ (c i M : Nat) (E W : List ByteArray) (a : Int),c + i = 13 → c < M → E.length + W.length = i →
   iter (B_f59_L0 N kx (fun ρ11 => some (ρ11))) M (s,n1,n2,a,(c1,leaf,E,W),(i : Int)) = match shorts s c a with | none => some (n2,false) | some q => kx (s,n1,n2,(c1,leaf,E ++ q.take (11 - i),W ++ q.drop (11 - i)))
 | 0,i,M,E,W,a,hc,hM,ha => by
  obtain ⟨M,rfl⟩ : ∃ K,M = K + 1 := ⟨M - 1,by omega⟩
  rw [iter_succ]
  show (x_f86 N).bind _ = _
  rw [steps_two hN,Option.bind_some]
  show (bif _ then _ else _) = _
  have e : wrap64 ((11:Int) + 2) = 13 := by decide +kernel
  rw [e,dF (p := (i : Int) < 13) (by omega),cond_false,shorts]
  show kx _ = kx _
  rw [List.take_nil,List.drop_nil,List.append_nil,List.append_nil]
 | c + 1,i,M,E,W,a,hc,hM,ha => by
  obtain ⟨M,rfl⟩ : ∃ K,M = K + 1 := ⟨M - 1,by omega⟩
  rw [iter_succ]
  show (x_f86 N).bind _ = _
  rw [steps_two hN,Option.bind_some]
  show (bif _ then _ else _) = _
  have e : wrap64 ((11:Int) + 2) = 13 := by decide +kernel
  rw [e,dT (p := (i : Int) < 13) (by omega),cond_true,spec_RS hN s hs a,Option.bind_some,shorts]
  cases h : (rdS s a).2.2 with
  | false => rfl
  | true =>
   rw [Bool.not_true,cond_false,cond_true]
   by_cases h11 : i < 11
   ·rw [dT (p := (i : Int) < 11) (by omega),cond_true]
    show (bif decide ((E.length + [(rdS s a).1].length) * 16 ≤ 140737488355328) then _ else _) = _
    rw [dT (p := (E.length + [(rdS s a).1].length) * 16 ≤ 140737488355328) (by simp only [List.length_cons,List.length_nil]; omega),cond_true,w64_up (Nat.le_refl _) (by omega)]
    refine (spec_shorts hN s hs n1 n2 c1 leaf kx c (i + 1) M (E ++ [(rdS s a).1]) W (rdS s a).2.1 (by omega) (by omega) (by simp; omega)).trans ?_
    cases shorts s c (rdS s a).2.1 with
    | none => rfl
    | some q =>
     show kx _ = kx _
     have e1 : 11 - i = (11 - (i + 1)) + 1 := by omega
     rw [e1,List.take_succ_cons,List.drop_succ_cons,List.append_assoc]; rfl
   ·rw [dF (p := (i : Int) < 11) (by omega),cond_false]
    show (bif decide ((W.length + [(rdS s a).1].length) * 16 ≤ 140737488355328) then _ else _) = _
    rw [dT (p := (W.length + [(rdS s a).1].length) * 16 ≤ 140737488355328) (by simp only [List.length_cons,List.length_nil]; omega),cond_true,w64_up (Nat.le_refl _) (by omega)]
    refine (spec_shorts hN s hs n1 n2 c1 leaf kx c (i + 1) M E (W ++ [(rdS s a).1]) (rdS s a).2.1 (by omega) (by omega) (by simp; omega)).trans ?_
    cases shorts s c (rdS s a).2.1 with
    | none => rfl
    | some q =>
     show kx _ = kx _
     have e1 : 11 - i = 0 := by omega
     have e2 : 11 - (i + 1) = 0 := by omega
     rw [e1,e2,List.take_zero,List.take_zero,List.drop_zero,List.drop_zero,List.append_assoc]; rfl
theorem impl_shorts {N : Nat} (hN : Big N) (s : ByteArray) (hs : s.size ≤ 1048576) (n1 : Den tVouched) (c1 : Den tCred) (leaf : Int) (kx : DenS (.pr (.d 0 .tx) (.pr (.bx 2 tVouched) (.pr (.bx 7 tCred) (.pr (.d 9 I) (.o 11 .tx))))) → Option ((Den tVouched) × Bool)) :
  ∀ (c i M : Nat) (E : List ByteArray) (a : Int),c + i = 13 → c < M → E.length = i →
   iter (B_f12_L0 N kx (fun ρ18 => some (ρ18))) M (s,n1,a,c1,leaf,E,(i : Int)) = match shorts s c a with | none => some (noV,false) | some q => kx (s,n1,c1,leaf,E ++ q)
 | 0,i,M,E,a,hc,hM,ha => by
  obtain ⟨M,rfl⟩ : ∃ K,M = K + 1 := ⟨M - 1,by omega⟩
  rw [iter_succ]
  show (bif _ then _ else _) = _
  rw [dF (p := (i : Int) < 13) (by omega),cond_false,shorts]
  show kx _ = kx _
  rw [List.append_nil]
 | c + 1,i,M,E,a,hc,hM,ha => by
  obtain ⟨M,rfl⟩ : ∃ K,M = K + 1 := ⟨M - 1,by omega⟩
  rw [iter_succ]
  show (bif _ then _ else _) = _
  rw [dT (p := (i : Int) < 13) (by omega),cond_true,impl_RS hN s hs a,Option.bind_some,shorts]
  cases h : (rdS s a).2.2 with
  | false => rfl
  | true =>
   rw [Bool.not_true,cond_false,cond_true,dT (p := (E.length + [(rdS s a).1].length) * 16 ≤ 140737488355328) (by simp only [List.length_cons,List.length_nil]; omega),cond_true,w64_up (Nat.le_refl _) (by omega)]
   refine (impl_shorts hN s hs n1 c1 leaf kx c (i + 1) M (E ++ [(rdS s a).1]) (rdS s a).2.1 (by omega) (by omega) (by simp [ha])).trans ?_
   cases shorts s c (rdS s a).2.1 with
   | none => rfl
   | some q => show kx _ = kx _; rw [List.append_assoc]; rfl
def vText (N : Nat) (v : Den tVouched) : ByteArray := bif credOk v.1 && formF v.2 then vtext N v else ByteArray.empty
def rdVo (N : Nat) (t : ByteArray) : Den tVouched × Bool :=
 bif (rdS t 0).2.2 && ((rdC (rdS t 0).1).2 && (rdV t (rdS t 0).2.1).2.2) then
  (match shorts t 13 (rdV t (rdS t 0).2.1).2.1 with
  | none => (noV,false)
  | some q => bif decide (vText N ((rdC (rdS t 0).1).1,(rdV t (rdS t 0).2.1).1,q.take 11,q.drop 11) = t) then (((rdC (rdS t 0).1).1,(rdV t (rdS t 0).2.1).1,q.take 11,q.drop 11),true) else (noV,false))
 else (noV,false)
theorem rdV_le {N : Nat} (hN : Big N) (t : ByteArray) (a : Int) (h : (rdV t a).2.2 = true) : (rdV t a).1 ≤ 9223372036854775807 := by
 obtain ⟨_,_,_,_,_,_,_,h,_⟩ := rdV_ok hN t a h
 exact Int.le_trans h (by decide)
theorem spec_RVo {N : Nat} (hN : Big N) (t : ByteArray) (hs : t.size ≤ 1048576) : x_f59 N t = some (rdVo N t) := by
 have hN' : 1099511627776 ≤ N := hN
 unfold x_f59 rdVo
 rw [spec_RS hN t hs,Option.bind_some]
 cases h1 : (rdS t 0).2.2 with
 | false => rfl
 | true =>
  rw [Bool.not_true,cond_false,spec_RC hN _ (rdS_size t hs 0),Option.bind_some,spec_RV hN t hs,Option.bind_some,Bool.true_and]
  cases h2 : (rdC (rdS t 0).1).2 with
  | false => rfl
  | true =>
   rw [Bool.not_true,cond_false,Bool.true_and]
   cases h3 : (rdV t (rdS t 0).2.1).2.2 with
   | false => rfl
   | true =>
    rw [Bool.not_true,cond_false,cond_true]
    refine (spec_shorts hN t hs noV noV (rdC (rdS t 0).1).1 (rdV t (rdS t 0).2.1).1 _ 13 0 N [] [] (rdV t (rdS t 0).2.1).2.1 rfl (by omega) rfl).trans ?_
    cases h4 : shorts t 13 (rdV t (rdS t 0).2.1).2.1 with
    | none => rfl
    | some q =>
     obtain ⟨h5,h6⟩ := shorts_ok t hs 13 _ q h4
     have e := spec_VouchedText hN ((rdC (rdS t 0).1).1,(rdV t (rdS t 0).2.1).1,q.take 11,q.drop 11) (rdC_small hN _) (rdV_le hN t _ h3) (by rw [List.length_take]; omega) (by rw [List.length_drop]; omega)
     refine (congrArg (fun o => Option.bind o _) e).trans ?_
     rw [Option.bind_some]
     show (bif !decide (vText N ((rdC (rdS t 0).1).1,(rdV t (rdS t 0).2.1).1,q.take 11,q.drop 11) = t) then _ else _) = some (bif decide (vText N ((rdC (rdS t 0).1).1,(rdV t (rdS t 0).2.1).1,q.take 11,q.drop 11) = t) then _ else _)
     cases decide (vText N ((rdC (rdS t 0).1).1,(rdV t (rdS t 0).2.1).1,q.take 11,q.drop 11) = t) <;> rfl
theorem impl_RVo {N : Nat} (hN : Big N) (t : ByteArray) (hs : t.size ≤ 1048576) : x_f12 N t = some (rdVo N t) := by
 have hN' : 1099511627776 ≤ N := hN
 unfold x_f12 rdVo
 rw [impl_RS hN t hs,Option.bind_some,impl_RC hN _ (rdS_size t hs 0),Option.bind_some,impl_RV hN t hs,Option.bind_some]
 cases h1 : (rdS t 0).2.2 with
 | false => rfl
 | true =>
  rw [Bool.not_true,cond_false,Bool.true_and]
  cases h2 : (rdC (rdS t 0).1).2 with
  | false => rfl
  | true =>
   rw [Bool.not_true,cond_false,Bool.true_and]
   cases h3 : (rdV t (rdS t 0).2.1).2.2 with
   | false => rfl
   | true =>
    rw [Bool.not_true,cond_false,cond_true]
    refine (impl_shorts hN t hs noV (rdC (rdS t 0).1).1 (rdV t (rdS t 0).2.1).1 _ 13 0 N [] (rdV t (rdS t 0).2.1).2.1 rfl (by omega) rfl).trans ?_
    cases h4 : shorts t 13 (rdV t (rdS t 0).2.1).2.1 with
    | none => rfl
    | some q =>
     obtain ⟨h5,h6⟩ := shorts_ok t hs 13 _ q h4
     have e := impl_VouchedText hN ((rdC (rdS t 0).1).1,(rdV t (rdS t 0).2.1).1,q.take 11,q.drop 11) (rdC_small hN _) (rdV_le hN t _ h3) (by rw [List.length_take]; omega) (by rw [List.length_drop]; omega)
     dsimp only
     rw [List.nil_append]
     have f1 : (q.drop ((0:Int).toNat)).take ((11:Int).toNat - (0:Int).toNat) = q.take 11 := rfl
     have f2 : (q.drop ((11:Int).toNat)).take ((q.length : Int).toNat - (11:Int).toNat) = q.drop 11 := by
      rw [h5]
      exact List.take_of_length_le (by rw [List.length_drop,h5]; decide)
     have f3 : inB (0:Int) (11:Int) (q.length : Int) = true := by rw [h5]; rfl
     have f4 : inB (11:Int) (q.length : Int) (q.length : Int) = true := by rw [h5]; rfl
     rw [f1,f2,f3,f4,clone_str N (q.take 11) (by rw [List.length_take]; omega),clone_str N (q.drop 11) (by rw [List.length_drop]; omega)]
     simp only [Option.bind_some,agree_self]
     rw [cond_true,cond_true]
     refine (congrArg (fun o => Option.bind o _) e).trans ?_
     rw [Option.bind_some]
     show (bif !decide (vText N ((rdC (rdS t 0).1).1,(rdV t (rdS t 0).2.1).1,q.take 11,q.drop 11) = t) then _ else _) = some (bif decide (vText N ((rdC (rdS t 0).1).1,(rdV t (rdS t 0).2.1).1,q.take 11,q.drop 11) = t) then _ else _)
     cases decide (vText N ((rdC (rdS t 0).1).1,(rdV t (rdS t 0).2.1).1,q.take 11,q.drop 11) = t) <;> rfl
theorem noV_ok : okz tVouched noV := by
 refine ⟨⟨trivial,⟨trivial,trivial⟩,trivial,⟨trivial,trivial⟩,⟨trivial,trivial⟩,trivial,trivial⟩,trivial,⟨by decide,fun x hx => ?_⟩,by decide,fun x hx => ?_⟩
 ·cases hx
 ·cases hx
theorem rdVo_ok (N : Nat) (t : ByteArray) (hs : t.size ≤ 1048576) : okz tVouched (rdVo N t).1 := by
 unfold rdVo
 cases (rdS t 0).2.2 && ((rdC (rdS t 0).1).2 && (rdV t (rdS t 0).2.1).2.2) with
 | false => exact noV_ok
 | true =>
  rw [cond_true]
  cases h4 : shorts t 13 (rdV t (rdS t 0).2.1).2.1 with
  | none => exact noV_ok
  | some q =>
   obtain ⟨h5,h6⟩ := shorts_ok t hs 13 _ q h4
   dsimp only
   cases decide (vText N ((rdC (rdS t 0).1).1,(rdV t (rdS t 0).2.1).1,q.take 11,q.drop 11) = t) with
   | false => exact noV_ok
   | true =>
    refine ⟨⟨trivial,⟨trivial,trivial⟩,trivial,⟨trivial,trivial⟩,⟨trivial,trivial⟩,trivial,trivial⟩,trivial,⟨?_,fun x hx => ?_⟩,?_,fun x hx => ?_⟩
    ·show (q.take 11).length ≤ _
     rw [List.length_take]; omega
    ·exact h6 x (List.mem_of_mem_take hx)
    ·show (q.drop 11).length ≤ _
     rw [List.length_drop]; omega
    ·exact h6 x (List.mem_of_mem_drop hx)
/-! Marks. -/
end Go.Proofs.YtflmdpbhmmohiaaGreat.C
namespace Go.Proofs.YtflmdpbhmmohiaaGreat.C
open Go Go.Proofs.YtflmdpbhmmohiaaGreat.Nx Go.RowKit
set_option linter.unusedVariables false
set_option linter.unusedSimpArgs false
/-! SHA-256. -/
theorem iter_cnt {σ R : Type} {B : (σ → Option R) → σ → Option R} (st : Nat → σ) (n : Nat) {X : Option R} (h1 : ∀ i rec_,i < n → B rec_ (st i) = rec_ (st (i + 1))) (h2 : ∀ rec_,B rec_ (st n) = X) {N : Nat} (hN : n < N) : iter B N (st 0) = X :=
 iter_to (B := B) (A := Unit) (fun i _ => st i) (fun _ _ r => r = X) n (fun i a rec_ hi h => by rw [h1 i rec_ hi]; exact h ()) (fun a rec_ => h2 rec_) N hN ()
def turnI (x k : Int) : Int := orI .u32 (shrI .u32 x k) (shlI .u32 x (32 - k))
theorem turn_i (N : Nat) (x : Int) {k : Int} (h0 : 0 ≤ k) (h1 : k ≤ 32) : x_f33 N x k = some (turnI x k) := by
 unfold x_f33
 rw [w64 (x := 32 - k) (by omega) (by omega),dT h0,dT (show 0 ≤ 32 - k by omega)]; rfl
theorem turn_s (N : Nat) (x : Int) {k : Int} (h0 : 0 ≤ k) (h1 : k ≤ 32) : x_f80 N x k = some (turnI x k) := by
 unfold x_f80
 rw [show ((32:Int) - k) % 18446744073709551616 = 32 - k from by omega,dT h0,dT (show 0 ≤ 32 - k by omega)]; rfl
theorem ix {i : Nat} (hi : i < 64) : wrap64 ((4:Int) * (i : Int)) = ((4 * i : Nat) : Int) := by
 rw [w64 (by omega) (by omega)]; omega
theorem ixa {m c : Nat} (hm : m < 1000) (hc : c < 1000) : wrap64 (((m : Nat) : Int) + ((c : Nat) : Int)) = ((m + c : Nat) : Int) := by
 rw [w64 (by omega) (by omega)]; omega
theorem ix1 {m : Nat} (hm : m < 1000) : wrap64 (((m : Nat) : Int) + (1:Int)) = ((m + 1 : Nat) : Int) := ixa (c := 1) hm (by omega)
theorem ix2 {m : Nat} (hm : m < 1000) : wrap64 (((m : Nat) : Int) + (2:Int)) = ((m + 2 : Nat) : Int) := ixa (c := 2) hm (by omega)
theorem ix3 {m : Nat} (hm : m < 1000) : wrap64 (((m : Nat) : Int) + (3:Int)) = ((m + 3 : Nat) : Int) := ixa (c := 3) hm (by omega)
theorem bn {m n : Nat} (h : m < n) : (decide (0 ≤ ((m : Nat) : Int)) && decide (((m : Nat) : Int) < ((n : Nat) : Int))) = true := by
 simp only [Bool.and_eq_true,decide_eq_true_eq]; omega
theorem bt64 {m : Nat} (h : m < 64) : decide (m < 64) = true := decide_eq_true h
theorem lt64 {m : Nat} (h : m < 64) : decide (((m : Nat) : Int) < (64:Int)) = true := decide_eq_true (by omega)
def w0 (b : ByteArray) (i : Nat) : Int := orI .u32 (orI .u32 (orI .u32 (shlI .u32 ((bu b ((4 * i : Nat) : Int)) % 4294967296) (24:Int)) (shlI .u32 ((bu b ((4 * i + 1 : Nat) : Int)) % 4294967296) (16:Int))) (shlI .u32 ((bu b ((4 * i + 2 : Nat) : Int)) % 4294967296) (8:Int))) ((bu b ((4 * i + 3 : Nat) : Int)) % 4294967296)
def sch0 (b : ByteArray) (i : Nat) : List Int := (List.range i).map (w0 b)
theorem sch0_len (b : ByteArray) (i : Nat) : (sch0 b i).length = i := by simp [sch0]
theorem sch0_succ (b : ByteArray) (i : Nat) : sch0 b (i + 1) = sch0 b i ++ [w0 b i] := by simp [sch0,List.range_succ]
def nxw (w : List Int) (i : Nat) : Int :=
 (((((((w.getD i 0) + (xorI .u32 (xorI .u32 (turnI (w.getD (i + 1) 0) 7) (turnI (w.getD (i + 1) 0) 18)) (shrI .u32 (w.getD (i + 1) 0) (3:Int)))) % 4294967296) + (w.getD (i + 9) 0)) % 4294967296) + (xorI .u32 (xorI .u32 (turnI (w.getD (i + 14) 0) 17) (turnI (w.getD (i + 14) 0) 19)) (shrI .u32 (w.getD (i + 14) 0) (10:Int)))) % 4294967296)
def sch (b : ByteArray) : Nat → List Int
 | 0 => sch0 b 16
 | k + 1 => sch b k ++ [nxw (sch b k) k]
theorem sch_len (b : ByteArray) : ∀ k,(sch b k).length = 16 + k
 | 0 => sch0_len b 16
 | k + 1 => by rw [sch,List.length_append,sch_len b k]; rfl
theorem impl_sch0 {N : Nat} (hN : 100 < N) {Ω : Type} (kx : DenS (.o 3 (.i .u32)) → Option Ω) (kr : List Int → Option Ω) (b : ByteArray) (hb : b.size = 64) : iter (B_f29_L0 N kx kr) N (b,[],(0:Int)) = kx (sch0 b 16) := by
 refine iter_cnt (fun i => (b,sch0 b i,((i : Nat) : Int))) 16 (fun i rec_ hi => ?_) (fun rec_ => ?_) (by omega)
 ·show B_f29_L0 N kx kr rec_ (b,sch0 b i,((i : Nat) : Int)) = rec_ (b,sch0 b (i + 1),((i + 1 : Nat) : Int))
  unfold B_f29_L0
  have hL : decide ((i + 1) * 4 ≤ 140737488355328) = true := decide_eq_true (by omega)
  simp only [ix (show i < 64 by omega),ix1 (show 4 * i < 1000 by omega),ix2 (show 4 * i < 1000 by omega),ix3 (show 4 * i < 1000 by omega),hb,bn (show 4 * i < 64 by omega),bn (show 4 * i + 1 < 64 by omega),bn (show 4 * i + 2 < 64 by omega),bn (show 4 * i + 3 < 64 by omega),dT (show ((i : Nat) : Int) < 16 by omega),sch0_len,List.length_singleton,hL,cond_true,ix1 (show i < 1000 by omega),sch0_succ]
  rfl
 ·show B_f29_L0 N kx kr rec_ (b,sch0 b 16,((16 : Nat) : Int)) = _
  rfl
theorem impl_sch1 {N : Nat} (hN : 100 < N) {Ω : Type} (kx : DenS (.o 3 (.i .u32)) → Option Ω) (kr : List Int → Option Ω) (b : ByteArray) : iter (B_f29_L2 N kx kr) N (sch0 b 16,(16:Int)) = kx (sch b 48) := by
 refine iter_cnt (fun i => (sch b i,((16 + i : Nat) : Int))) 48 (fun i rec_ hi => ?_) (fun rec_ => ?_) (by omega)
 ·show B_f29_L2 N kx kr rec_ (sch b i,((16 + i : Nat) : Int)) = rec_ (sch b i ++ [nxw (sch b i) i],((16 + (i + 1) : Nat) : Int))
  unfold B_f29_L2
  have hL : decide ((16 + i + 1) * 4 ≤ 140737488355328) = true := decide_eq_true (by omega)
  have e15 : wrap64 (((16 + i : Nat) : Int) - (15:Int)) = ((i + 1 : Nat) : Int) := by rw [w64 (by omega) (by omega)]; omega
  have e2 : wrap64 (((16 + i : Nat) : Int) - (2:Int)) = ((i + 14 : Nat) : Int) := by rw [w64 (by omega) (by omega)]; omega
  have e16 : wrap64 (((16 + i : Nat) : Int) - (16:Int)) = ((i : Nat) : Int) := by rw [w64 (by omega) (by omega)]; omega
  have e7 : wrap64 (((16 + i : Nat) : Int) - (7:Int)) = ((i + 9 : Nat) : Int) := by rw [w64 (by omega) (by omega)]; omega
  simp only [lt64 (show 16 + i < 64 by omega),e15,e2,e16,e7,sch_len,bn (show i + 1 < 16 + i by omega),bn (show i + 14 < 16 + i by omega),bn (show i < 16 + i by omega),bn (show i + 9 < 16 + i by omega),cond_true,Int.toNat_natCast,
   turn_i N _ (show (0:Int) ≤ 7 by decide) (by decide),turn_i N _ (show (0:Int) ≤ 18 by decide) (by decide),turn_i N _ (show (0:Int) ≤ 17 by decide) (by decide),turn_i N _ (show (0:Int) ≤ 19 by decide) (by decide),Option.bind_some,List.length_singleton,hL,ix1 (show 16 + i < 1000 by omega)]
  rfl
 ·show B_f29_L2 N kx kr rec_ (sch b 48,((64 : Nat) : Int)) = _
  rfl
theorem impl_sched {N : Nat} (hN : 100 < N) (b : ByteArray) (hb : b.size = 64) : x_f29 N b = some (sch b 48) := by
 unfold x_f29
 rw [impl_sch0 hN _ _ b hb,impl_sch1 hN]
theorem set_mid (A : List Int) (m : Nat) (v : Int) : (A ++ List.replicate (m + 1) (0:Int)).set A.length v = (A ++ [v]) ++ List.replicate m 0 := by
 simp [List.set_append,List.replicate_succ]
theorem getD_left (A B : List Int) {j : Nat} (h : j < A.length) : (A ++ B).getD j 0 = A.getD j 0 := by
 simp [List.getD,List.getElem?_append_left h]
theorem padL_len {n : Nat} {L : List Int} (h : L.length = n) : padL n L = L := by
 unfold padL
 apply List.ext_getElem
 ·simp [h]
 ·intro i h1 h2
  simp [List.getD,h2]
theorem spec_sch0 {N : Nat} (hN : 100 < N) {Ω : Type} (kx kr) (b : ByteArray) (hb : b.size = 64) (h k z : List Int) :
  iter (B_f77_L0 (Ω := Ω) N kx kr) N (b,h,k,z,List.replicate 64 (0:Int),(0:Int)) = kx (h,k,z,sch0 b 16 ++ List.replicate 48 0) := by
 refine iter_cnt (fun i => (b,h,k,z,sch0 b i ++ List.replicate (64 - i) (0:Int),((i : Nat) : Int))) 16 (fun i rec_ hi => ?_) (fun rec_ => ?_) (by omega)
 ·show B_f77_L0 N kx kr rec_ (b,h,k,z,sch0 b i ++ List.replicate (64 - i) (0:Int),((i : Nat) : Int)) = rec_ (b,h,k,z,sch0 b (i + 1) ++ List.replicate (64 - (i + 1)) (0:Int),((i + 1 : Nat) : Int))
  have hs : ∀ v,(padL 64 (sch0 b i ++ List.replicate (64 - i) (0:Int))).set i v = (sch0 b i ++ [v]) ++ List.replicate (64 - (i + 1)) 0 := fun v => by
   rw [padL_len (by rw [List.length_append,sch0_len,List.length_replicate]; omega)]
   have := set_mid (sch0 b i) (64 - (i + 1)) v
   rw [sch0_len,show 64 - (i + 1) + 1 = 64 - i from by omega] at this
   exact this
  unfold B_f77_L0
  simp only [ix (show i < 64 by omega),ix1 (show 4 * i < 1000 by omega),ix2 (show 4 * i < 1000 by omega),ix3 (show 4 * i < 1000 by omega),hb,bn (show 4 * i < 64 by omega),bn (show 4 * i + 1 < 64 by omega),bn (show 4 * i + 2 < 64 by omega),bn (show 4 * i + 3 < 64 by omega),bn (show i < 64 by omega),bt64 (show i < 64 by omega),dT (show ((i : Nat) : Int) < 16 by omega),cond_true,Int.toNat_natCast,hs,ix1 (show i < 1000 by omega),sch0_succ]
  rfl
 ·show B_f77_L0 N kx kr rec_ (b,h,k,z,sch0 b 16 ++ List.replicate 48 (0:Int),((16 : Nat) : Int)) = _
  rfl
theorem spec_sch1 {N : Nat} (hN : 100 < N) {Ω : Type} (kx kr) (b : ByteArray) (h k z : List Int) :
  iter (B_f77_L2 (Ω := Ω) N kx kr) N (h,k,z,sch0 b 16 ++ List.replicate 48 (0:Int),(16:Int)) = kx (h,k,z,sch b 48) := by
 refine iter_cnt (fun i => (h,k,z,sch b i ++ List.replicate (48 - i) (0:Int),((16 + i : Nat) : Int))) 48 (fun i rec_ hi => ?_) (fun rec_ => ?_) (by omega)
 ·show B_f77_L2 N kx kr rec_ (h,k,z,sch b i ++ List.replicate (48 - i) (0:Int),((16 + i : Nat) : Int)) = rec_ (h,k,z,(sch b i ++ [nxw (sch b i) i]) ++ List.replicate (48 - (i + 1)) (0:Int),((16 + (i + 1) : Nat) : Int))
  have hs : ∀ v,(padL 64 (sch b i ++ List.replicate (48 - i) (0:Int))).set (16 + i) v = (sch b i ++ [v]) ++ List.replicate (48 - (i + 1)) 0 := fun v => by
   rw [padL_len (by rw [List.length_append,sch_len,List.length_replicate]; omega)]
   have := set_mid (sch b i) (48 - (i + 1)) v
   rw [sch_len,show 48 - (i + 1) + 1 = 48 - i from by omega] at this
   exact this
  have e15 : wrap64 (((16 + i : Nat) : Int) - (15:Int)) = ((i + 1 : Nat) : Int) := by rw [w64 (by omega) (by omega)]; omega
  have e2 : wrap64 (((16 + i : Nat) : Int) - (2:Int)) = ((i + 14 : Nat) : Int) := by rw [w64 (by omega) (by omega)]; omega
  have e16 : wrap64 (((16 + i : Nat) : Int) - (16:Int)) = ((i : Nat) : Int) := by rw [w64 (by omega) (by omega)]; omega
  have e7 : wrap64 (((16 + i : Nat) : Int) - (7:Int)) = ((i + 9 : Nat) : Int) := by rw [w64 (by omega) (by omega)]; omega
  have g1 := getD_left (sch b i) (List.replicate (48 - i) (0:Int)) (show i + 1 < _ by rw [sch_len]; omega)
  have g14 := getD_left (sch b i) (List.replicate (48 - i) (0:Int)) (show i + 14 < _ by rw [sch_len]; omega)
  have g0 := getD_left (sch b i) (List.replicate (48 - i) (0:Int)) (show i < _ by rw [sch_len]; omega)
  have g9 := getD_left (sch b i) (List.replicate (48 - i) (0:Int)) (show i + 9 < _ by rw [sch_len]; omega)
  unfold B_f77_L2
  simp only [lt64 (show 16 + i < 64 by omega),e15,e2,e16,e7,bn (show i + 1 < 64 by omega),bn (show i + 14 < 64 by omega),bn (show i < 64 by omega),bn (show i + 9 < 64 by omega),bn (show 16 + i < 64 by omega),bt64 (show i + 1 < 64 by omega),bt64 (show i + 14 < 64 by omega),bt64 (show i < 64 by omega),bt64 (show i + 9 < 64 by omega),bt64 (show 16 + i < 64 by omega),cond_true,Int.toNat_natCast,g0,g1,g9,g14,
   turn_s N _ (show (0:Int) ≤ 7 by decide) (by decide),turn_s N _ (show (0:Int) ≤ 18 by decide) (by decide),turn_s N _ (show (0:Int) ≤ 17 by decide) (by decide),turn_s N _ (show (0:Int) ≤ 19 by decide) (by decide),Option.bind_some,hs,ix1 (show 16 + i < 1000 by omega)]
  rfl
 ·show B_f77_L2 N kx kr rec_ (h,k,z,sch b 48 ++ List.replicate 0 (0:Int),((64 : Nat) : Int)) = _
  rw [List.replicate_zero,List.append_nil]
  rfl
theorem xor_cpl (a : Int) : xorI .u32 a 4294967295 = cplI .u32 a := by
 unfold xorI cplI
 rw [pin_eq,BitVec.xor_comm]
 rfl
def rnd (s : List Int) (k w : Int) : List Int :=
 [(((((((((((s.getD 7 0) + (xorI .u32 (xorI .u32 (turnI (s.getD 4 0) 6) (turnI (s.getD 4 0) 11)) (turnI (s.getD 4 0) 25))) % 4294967296) + (xorI .u32 (andI .u32 (s.getD 4 0) (s.getD 5 0)) (andI .u32 (cplI .u32 (s.getD 4 0)) (s.getD 6 0)))) % 4294967296) + k) % 4294967296) + w) % 4294967296) + (((xorI .u32 (xorI .u32 (turnI (s.getD 0 0) 2) (turnI (s.getD 0 0) 13)) (turnI (s.getD 0 0) 22)) + (xorI .u32 (xorI .u32 (andI .u32 (s.getD 0 0) (s.getD 1 0)) (andI .u32 (s.getD 0 0) (s.getD 2 0))) (andI .u32 (s.getD 1 0) (s.getD 2 0)))) % 4294967296)) % 4294967296),s.getD 0 0,s.getD 1 0,s.getD 2 0,
  (((s.getD 3 0) + (((((((((s.getD 7 0) + (xorI .u32 (xorI .u32 (turnI (s.getD 4 0) 6) (turnI (s.getD 4 0) 11)) (turnI (s.getD 4 0) 25))) % 4294967296) + (xorI .u32 (andI .u32 (s.getD 4 0) (s.getD 5 0)) (andI .u32 (cplI .u32 (s.getD 4 0)) (s.getD 6 0)))) % 4294967296) + k) % 4294967296) + w) % 4294967296)) % 4294967296),s.getD 4 0,s.getD 5 0,s.getD 6 0]
theorem eight {l : List Int} (h : l.length = 8) : ∃ a b c d e f g i,l = [a,b,c,d,e,f,g,i] := by
 match l,h with
 | [a,b,c,d,e,f,g,i],_ => exact ⟨a,b,c,d,e,f,g,i,rfl⟩
def rdL (k w h : List Int) : Nat → List Int
 | 0 => h
 | i + 1 => rnd (rdL k w h i) (k.getD i 0) (w.getD i 0)
theorem rdL_len (k w : List Int) {h : List Int} (hh : h.length = 8) : ∀ i,(rdL k w h i).length = 8
 | 0 => hh
 | i + 1 => rfl
end Go.Proofs.YtflmdpbhmmohiaaGreat.C
namespace Go.Proofs.YtflmdpbhmmohiaaGreat.C
open Go Go.Proofs.YtflmdpbhmmohiaaGreat.Nx Go.RowKit
set_option linter.unusedVariables false
set_option linter.unusedSimpArgs false
set_option maxRecDepth 100000
theorem c0 : (decide (0 ≤ (0:Int)) && decide ((0:Int) < ((8 : Nat) : Int))) = true := rfl
theorem c1' : (decide (0 ≤ (1:Int)) && decide ((1:Int) < ((8 : Nat) : Int))) = true := rfl
theorem c2' : (decide (0 ≤ (2:Int)) && decide ((2:Int) < ((8 : Nat) : Int))) = true := rfl
theorem c3' : (decide (0 ≤ (3:Int)) && decide ((3:Int) < ((8 : Nat) : Int))) = true := rfl
theorem c4' : (decide (0 ≤ (4:Int)) && decide ((4:Int) < ((8 : Nat) : Int))) = true := rfl
theorem c5' : (decide (0 ≤ (5:Int)) && decide ((5:Int) < ((8 : Nat) : Int))) = true := rfl
theorem c6' : (decide (0 ≤ (6:Int)) && decide ((6:Int) < ((8 : Nat) : Int))) = true := rfl
theorem c7' : (decide (0 ≤ (7:Int)) && decide ((7:Int) < ((8 : Nat) : Int))) = true := rfl
theorem impl_rds {N : Nat} (hN : 100 < N) {Ω : Type} (kx kr) (o : List Int) {h : List Int} (hh : h.length = 8) (k w : List Int) (hk : k.length = 64) (hw : w.length = 64) :
  iter (B_f16_L2 (Ω := Ω) N kx kr) N (o,h,k,w,(64:Int),(0:Int)) = kx (o,rdL k w h 64) := by
 refine iter_cnt (fun i => (o,rdL k w h i,k,w,(64:Int),((i : Nat) : Int))) 64 (fun i rec_ hi => ?_) (fun rec_ => ?_) (by omega)
 ·show B_f16_L2 N kx kr rec_ (o,rdL k w h i,k,w,(64:Int),((i : Nat) : Int)) = rec_ (o,rnd (rdL k w h i) (k.getD i 0) (w.getD i 0),k,w,(64:Int),((i + 1 : Nat) : Int))
  have hl := rdL_len k w hh i
  generalize rdL k w h i = s at hl ⊢
  unfold B_f16_L2
  simp only [lt64 hi,hl,hk,hw,bn hi,c0,c1',c2',c3',c4',c5',c6',c7',cond_true,turn_i N _ (show (0:Int) ≤ 6 by decide) (by decide),turn_i N _ (show (0:Int) ≤ 11 by decide) (by decide),turn_i N _ (show (0:Int) ≤ 25 by decide) (by decide),turn_i N _ (show (0:Int) ≤ 2 by decide) (by decide),turn_i N _ (show (0:Int) ≤ 13 by decide) (by decide),turn_i N _ (show (0:Int) ≤ 22 by decide) (by decide),Option.bind_some,ix1 (show i < 1000 by omega),Int.toNat_natCast]
  rfl
 ·show B_f16_L2 N kx kr rec_ (o,rdL k w h 64,k,w,(64:Int),((64 : Nat) : Int)) = _
  rfl
theorem spec_rds {N : Nat} (hN : 100 < N) {Ω : Type} (kx kr) (o z : List Int) {h : List Int} (hh : h.length = 8) (k w : List Int) :
  iter (B_f77_L4 (Ω := Ω) N kx kr) N (o,k,z,w,h,(0:Int)) = kx (o,z,rdL k w h 64) := by
 refine iter_cnt (fun i => (o,k,z,w,rdL k w h i,((i : Nat) : Int))) 64 (fun i rec_ hi => ?_) (fun rec_ => ?_) (by omega)
 ·show B_f77_L4 N kx kr rec_ (o,k,z,w,rdL k w h i,((i : Nat) : Int)) = rec_ (o,k,z,w,rnd (rdL k w h i) (k.getD i 0) (w.getD i 0),((i + 1 : Nat) : Int))
  have hl := rdL_len k w hh i
  generalize rdL k w h i = s at hl ⊢
  obtain ⟨a,b,c,d,e,f,g,j,rfl⟩ := eight hl
  unfold B_f77_L4
  simp (config := { zeta := false }) only [lt64 hi,bn hi,bt64 hi,c0,c1',c2',c3',c4',c5',c6',c7',cond_true,xor_cpl,ix1 (show i < 1000 by omega),Int.toNat_natCast]
  rfl
 ·show B_f77_L4 N kx kr rec_ (o,k,z,w,rdL k w h 64,((64 : Nat) : Int)) = _
  rfl
theorem set_build (f : Nat → Int) (L : List Int) {i : Nat} (hi : i < L.length) : ((List.range i).map f ++ L.drop i).set i (f i) = (List.range (i + 1)).map f ++ L.drop (i + 1) := by
 rw [List.drop_eq_getElem_cons hi,List.range_succ,List.map_append,List.set_append_right _ _ (by simp)]
 simp only [List.length_map,List.length_range,Nat.sub_self,List.set_cons_zero,List.append_assoc,List.map_cons,List.map_nil,List.cons_append,List.nil_append]
theorem getD_build (f : Nat → Int) (L : List Int) (i : Nat) : ((List.range i).map f ++ L.drop i).getD i 0 = L.getD i 0 := by
 simp [List.getD,List.getElem?_append_right,List.getElem?_drop]
theorem len_build (f : Nat → Int) (L : List Int) {i n : Nat} (hL : L.length = n) (hi : i ≤ n) : ((List.range i).map f ++ L.drop i).length = n := by
 simp; omega
def blkF (s h : List Int) (i : Nat) : Int := ((h.getD i 0) + (s.getD i 0)) % 4294967296
def K64 : List Int := (x_f79 0).getD []
theorem K64_len : K64.length = 64 := rfl
def blk (h : List Int) (b : ByteArray) : List Int := (List.range 8).map (blkF (rdL K64 (sch b 48) h 64) h)
theorem blk_len (h : List Int) (b : ByteArray) : (blk h b).length = 8 := by simp [blk]
def in32 (h : List Int) : Prop := ∀ x ∈ h,0 ≤ x ∧ x ≤ 4294967295
theorem blk_in (h : List Int) (b : ByteArray) : in32 (blk h b) := fun x hx => by
 obtain ⟨i,_,rfl⟩ := List.mem_map.1 hx
 unfold blkF
 omega
theorem lt8 {m : Nat} (h : m < 8) : decide (((m : Nat) : Int) < (8:Int)) = true := decide_eq_true (by omega)
theorem bt8 {m : Nat} (h : m < 8) : decide (m < 8) = true := decide_eq_true h
theorem spec_add {N : Nat} (hN : 100 < N) {Ω : Type} (kx kr) (z : List Int) {h : List Int} (hh : h.length = 8) (s : List Int) :
  iter (B_f77_L6 (Ω := Ω) N kx kr) N (h,z,s,(0:Int)) = kx ((List.range 8).map (blkF s h),z) := by
 refine iter_cnt (fun i => ((List.range i).map (blkF s h) ++ h.drop i,z,s,((i : Nat) : Int))) 8 (fun i rec_ hi => ?_) (fun rec_ => ?_) (by omega)
 ·show B_f77_L6 N kx kr rec_ ((List.range i).map (blkF s h) ++ h.drop i,z,s,((i : Nat) : Int)) = rec_ ((List.range (i + 1)).map (blkF s h) ++ h.drop (i + 1),z,s,((i + 1 : Nat) : Int))
  have e1 := padL_len (len_build (blkF s h) h hh (Nat.le_of_lt hi))
  have e2 := set_build (blkF s h) h (show i < h.length by omega)
  have e3 := getD_build (blkF s h) h i
  unfold B_f77_L6
  simp only [lt8 hi,bn hi,bt8 hi,cond_true,Int.toNat_natCast,e1,e3,ix1 (show i < 1000 by omega)]
  rw [← e2]
  rfl
 ·show B_f77_L6 N kx kr rec_ ((List.range 8).map (blkF s h) ++ h.drop 8,z,s,((8 : Nat) : Int)) = _
  rw [List.drop_eq_nil_of_le (by omega),List.append_nil]
  rfl
theorem spec_block {N : Nat} (hN : 100 < N) {h : List Int} (hh : h.length = 8) (b : ByteArray) (hb : b.size = 64) : x_f77 N h b K64 = some (blk h b) := by
 unfold x_f77
 have e := fun kx kr => spec_sch0 (Ω := List Int) hN kx kr b hb h K64 (List.replicate 8 (0:Int))
 refine (e _ _).trans ?_
 refine (spec_sch1 hN _ _ b h K64 (List.replicate 8 (0:Int))).trans ?_
 refine (spec_rds hN _ _ h (List.replicate 8 (0:Int)) hh K64 (sch b 48)).trans ?_
 exact spec_add hN _ _ (List.replicate 8 (0:Int)) hh _
theorem in32_get {h : List Int} (hi : in32 h) {i : Nat} (hl : i < h.length) : 0 ≤ h.getD i 0 ∧ h.getD i 0 ≤ 4294967295 := by
 have : h.getD i 0 = h[i] := by simp [List.getD,hl]
 rw [this]
 exact hi _ (List.getElem_mem hl)
theorem in32_mod {h : List Int} (hi : in32 h) {i : Nat} (hl : i < h.length) : h.getD i 0 % 4294967296 = h.getD i 0 := by
 have := in32_get hi hl
 omega
theorem impl_add {N : Nat} (hN : 100 < N) {Ω : Type} (kx kr) {h : List Int} (hh : h.length = 8) (hi32 : in32 h) (s : List Int) (hs : s.length = 8) :
  iter (B_f16_L4 (Ω := Ω) N kx kr) N (h,s,(8:Int),(0:Int)) = kx ((List.range 8).map (blkF s h)) := by
 refine iter_cnt (fun i => ((List.range i).map (blkF s h) ++ h.drop i,s,(8:Int),((i : Nat) : Int))) 8 (fun i rec_ hi => ?_) (fun rec_ => ?_) (by omega)
 ·show B_f16_L4 N kx kr rec_ ((List.range i).map (blkF s h) ++ h.drop i,s,(8:Int),((i : Nat) : Int)) = rec_ ((List.range (i + 1)).map (blkF s h) ++ h.drop (i + 1),s,(8:Int),((i + 1 : Nat) : Int))
  have e1 := len_build (blkF s h) h hh (Nat.le_of_lt hi)
  have e2 := set_build (blkF s h) h (show i < h.length by omega)
  have e3 := getD_build (blkF s h) h i
  have e4 : wrap64 (((h.getD i 0) + (s.getD i 0)) % 4294967296) = blkF s h i := by
   unfold blkF
   rw [w64 (by omega) (by omega)]
  unfold B_f16_L4
  simp only [lt8 hi,hs,bn hi,e1,cond_true,Int.toNat_natCast,e3,ix1 (show i < 1000 by omega),in32_mod hi32 (show i < h.length by omega),e4,e2]
 ·show B_f16_L4 N kx kr rec_ ((List.range 8).map (blkF s h) ++ h.drop 8,s,(8:Int),((8 : Nat) : Int)) = _
  rw [List.drop_eq_nil_of_le (by omega),List.append_nil]
  rfl
theorem impl_take {N : Nat} (hN : 100 < N) {Ω : Type} (kx kr) (b : ByteArray) (o : List Int) {h : List Int} (hh : h.length = 8) (hi32 : in32 h) :
  iter (B_f16_L0 (Ω := Ω) N kx kr) N (b,o,List.replicate 8 (0:Int),h,(8:Int),(0:Int)) = kx (b,o,h) := by
 have hr : (List.replicate 8 (0:Int)).length = 8 := rfl
 have fin : (List.range 8).map (fun i => h.getD i 0) = h := by
  obtain ⟨a,b,c,d,e,f,g,j,rfl⟩ := eight hh
  rfl
 refine iter_cnt (fun i => (b,o,(List.range i).map (fun i => h.getD i 0) ++ (List.replicate 8 (0:Int)).drop i,h,(8:Int),((i : Nat) : Int))) 8 (fun i rec_ hi => ?_) (fun rec_ => ?_) (by omega)
 ·show B_f16_L0 N kx kr rec_ (b,o,(List.range i).map (fun i => h.getD i 0) ++ (List.replicate 8 (0:Int)).drop i,h,(8:Int),((i : Nat) : Int)) = rec_ (b,o,(List.range (i + 1)).map (fun i => h.getD i 0) ++ (List.replicate 8 (0:Int)).drop (i + 1),h,(8:Int),((i + 1 : Nat) : Int))
  have e1 := len_build (fun i => h.getD i 0) (List.replicate 8 (0:Int)) hr (Nat.le_of_lt hi)
  have e2 := set_build (fun i => h.getD i 0) (List.replicate 8 (0:Int)) (show i < (List.replicate 8 (0:Int)).length by rw [hr]; omega)
  have e5 : x_f23 N (h.getD i 0) 0 4294967295 = some true := by
   have := in32_get hi32 (show i < h.length by omega)
   unfold x_f23
   rw [dT this.1,dT this.2]; rfl
  unfold B_f16_L0
  simp only [lt8 hi,hh,bn hi,e1,cond_true,Int.toNat_natCast,ix1 (show i < 1000 by omega),in32_mod hi32 (show i < h.length by omega),e5,Option.bind_some,Bool.not_true,cond_false]
  rw [← e2]
 ·show B_f16_L0 N kx kr rec_ (b,o,(List.range 8).map (fun i => h.getD i 0) ++ [],h,(8:Int),((8 : Nat) : Int)) = _
  rw [List.append_nil,fin]
  rfl
theorem impl_block {N : Nat} (hN : 100 < N) {h : List Int} (hh : h.length = 8) (hi32 : in32 h) (b : ByteArray) (hb : b.size = 64) : x_f16 N h b = some (blk h b) := by
 unfold x_f16
 have e0 : decide ((([] : List Int).length + 8) * 8 ≤ 140737488355328) = true := rfl
 have e1 : (!decide (((8 : Nat) : Int) = (8:Int))) = false := rfl
 have e2 : (!decide (((64 : Nat) : Int) = (64:Int))) = false := rfl
 rw [hh,hb,e0,e1,e2,cond_true,cond_false,cond_false]
 have e3 := fun kx kr => impl_take (Ω := List Int) hN kx kr b h hh hi32
 refine (e3 _ _).trans ?_
 show (x_f28 N).bind _ = _
 rw [show x_f28 N = some K64 from rfl,Option.bind_some,impl_sched hN b hb,Option.bind_some]
 have hw : (sch b 48).length = 64 := sch_len b 48
 have e4 := fun kx kr => impl_rds (Ω := List Int) hN kx kr h hh K64 (sch b 48) K64_len hw
 rw [hw]
 refine (e4 _ _).trans ?_
 show iter _ N (h,rdL K64 (sch b 48) h 64,_,_) = _
 rw [rdL_len K64 (sch b 48) hh 64]
 exact impl_add hN _ _ hh hi32 _ (rdL_len K64 (sch b 48) hh 64)
end Go.Proofs.YtflmdpbhmmohiaaGreat.C
namespace Go.Proofs.YtflmdpbhmmohiaaGreat.C
open Go Go.Proofs.YtflmdpbhmmohiaaGreat.Nx Go.RowKit
set_option linter.unusedVariables false
set_option linter.unusedSimpArgs false
set_option maxRecDepth 100000
/-! Padding, and the digest. -/
def padZ (L : Nat) : Nat := (119 - L % 64) % 64
def lb (n : Int) (j : Nat) : Int := shrI .i64 n ((8 * (7 - j) : Nat) : Int) % 256
def lens (n : Int) (i : Nat) : List Int := (List.range i).map (lb n)
theorem lens_len (n : Int) (i : Nat) : (lens n i).length = i := by simp [lens]
theorem lens_succ (n : Int) (i : Nat) : lens n (i + 1) = lens n i ++ [lb n i] := by simp [lens,List.range_succ]
def padL8 (t : ByteArray) : List Int := ((byteL t ++ [128]) ++ List.replicate (padZ t.size) 0) ++ lens (8 * (t.size : Int)) 8
def pad (t : ByteArray) : ByteArray := txt (padL8 t)
theorem lens_in (n : Int) (i : Nat) : ∀ x ∈ lens n i,0 ≤ x ∧ x ≤ 255 := fun x hx => by
 obtain ⟨j,_,rfl⟩ := List.mem_map.1 hx
 unfold lb
 omega
theorem padL8_in (t : ByteArray) : ∀ x ∈ padL8 t,0 ≤ x ∧ x ≤ 255 := fun x hx => by
 unfold padL8 at hx
 simp only [List.mem_append,List.mem_singleton,List.mem_replicate] at hx
 rcases hx with ((h | h) | h) | h
 ·exact byteL_in t x h
 ·omega
 ·omega
 ·exact lens_in _ _ x h
theorem padL8_len (t : ByteArray) : (padL8 t).length = t.size + 1 + padZ t.size + 8 := by
 unfold padL8
 simp only [List.length_append,byteL_len,List.length_singleton,List.length_replicate,lens_len]
theorem txt_size (l : List Int) : (txt l).size = l.length := by
 show ((l.map fun x => UInt8.ofNat x.toNat).toArray).size = _
 simp
theorem pad_size (t : ByteArray) : (pad t).size % 64 = 0 ∧ (pad t).size ≤ t.size + 73 := by
 unfold pad
 rw [txt_size,padL8_len]
 unfold padZ
 omega
theorem spec_pad0 {N : Nat} (hN : 100 < N) {Ω : Type} (kx kr) (t : ByteArray) (ht : t.size ≤ 4194304) :
  iter (B_f54_L0 (Ω := Ω) N kx kr) N (t,byteL t ++ [(128:Int)]) = kx (t,(byteL t ++ [128]) ++ List.replicate (padZ t.size) 0) := by
 have hl : ∀ i,((byteL t ++ [(128:Int)]) ++ List.replicate i (0:Int)).length = t.size + 1 + i := fun i => by
  simp only [List.length_append,byteL_len,List.length_singleton,List.length_replicate]
 have hz : padZ t.size < 64 := by unfold padZ; omega
 refine (congrArg (iter _ N) (show (t,byteL t ++ [(128:Int)]) = (t,(byteL t ++ [(128:Int)]) ++ List.replicate 0 (0:Int)) by rw [List.replicate_zero,List.append_nil])).trans ?_
 refine iter_cnt (fun i => (t,(byteL t ++ [(128:Int)]) ++ List.replicate i (0:Int))) (padZ t.size) (fun i rec_ hi => ?_) (fun rec_ => ?_) (by omega)
 ·show B_f54_L0 N kx kr rec_ (t,(byteL t ++ [(128:Int)]) ++ List.replicate i (0:Int)) = rec_ (t,(byteL t ++ [(128:Int)]) ++ List.replicate (i + 1) (0:Int))
  have e1 : (((t.size + 1 + i : Nat) : Int).tmod 64) = (((t.size + 1 + i) % 64 : Nat) : Int) := by
   rw [Int.tmod_eq_emod_of_nonneg (by omega)]; omega
  have e2 : (!decide ((((t.size + 1 + i) % 64 : Nat) : Int) = 56)) = true := by
   unfold padZ at hi
   rw [dF (by omega)]; rfl
  have e3 : decide ((t.size + 1 + i + 1) * 1 ≤ 140737488355328) = true := decide_eq_true (by omega)
  unfold B_f54_L0
  simp only [hl,e1,e2,List.length_singleton,e3,cond_true]
  rw [List.replicate_succ',← List.append_assoc]
 ·show B_f54_L0 N kx kr rec_ (t,(byteL t ++ [(128:Int)]) ++ List.replicate (padZ t.size) (0:Int)) = _
  have e1 : (((t.size + 1 + padZ t.size : Nat) : Int).tmod 64) = 56 := by
   rw [Int.tmod_eq_emod_of_nonneg (by omega)]; unfold padZ; omega
  unfold B_f54_L0
  simp only [hl,e1,decide_true,Bool.not_true,cond_false]
theorem spec_pad1 {N : Nat} (hN : 100 < N) {Ω : Type} (kx kr) (l : List Int) (hl : l.length ≤ 100000000) (n : Int) :
  iter (B_f54_L2 (Ω := Ω) N kx kr) N (l,n,(7:Int)) = kx (l ++ lens n 8) := by
 refine (congrArg (iter _ N) (show (l,n,(7:Int)) = (l ++ lens n 0,n,(7:Int) - ((0 : Nat) : Int)) by rw [show lens n 0 = [] from rfl,List.append_nil]; rfl)).trans ?_
 refine iter_cnt (fun i => (l ++ lens n i,n,(7:Int) - ((i : Nat) : Int))) 8 (fun i rec_ hi => ?_) (fun rec_ => ?_) (by omega)
 ·show B_f54_L2 N kx kr rec_ (l ++ lens n i,n,(7:Int) - ((i : Nat) : Int)) = rec_ (l ++ lens n (i + 1),n,(7:Int) - ((i + 1 : Nat) : Int))
  have e1 : ((8:Int) * (((7:Int) - ((i : Nat) : Int)) % 18446744073709551616)) % 18446744073709551616 = ((8 * (7 - i) : Nat) : Int) := by omega
  have e2 : wrap64 ((7:Int) - ((i : Nat) : Int) - 1) = (7:Int) - ((i + 1 : Nat) : Int) := by rw [w64 (by omega) (by omega)]; omega
  have e3 : decide ((l.length + i + 1) * 1 ≤ 140737488355328) = true := decide_eq_true (by omega)
  unfold B_f54_L2
  simp only [dT (show (0:Int) ≤ (7:Int) - ((i : Nat) : Int) by omega),e1,dT (show (0:Int) ≤ ((8 * (7 - i) : Nat) : Int) by omega),List.length_append,lens_len,List.length_singleton,e3,cond_true,e2]
  rw [lens_succ,← List.append_assoc]
  rfl
 ·show B_f54_L2 N kx kr rec_ (l ++ lens n 8,n,(7:Int) - ((8 : Nat) : Int)) = _
  rfl
theorem spec_Pad {N : Nat} (hN : 100 < N) (t : ByteArray) (ht : t.size ≤ 4194304) : x_f54 N t = some (pad t) := by
 unfold x_f54
 have hz : padZ t.size < 64 := by unfold padZ; omega
 rw [dT (show ((byteL t).length + [(128:Int)].length) * 1 ≤ 140737488355328 by rw [byteL_len,List.length_singleton]; omega),cond_true]
 refine (spec_pad0 hN _ _ t ht).trans ?_
 show iter _ N (_,wrap64 (8 * (t.size : Int)),7) = _
 rw [w64 (x := 8 * (t.size : Int)) (by omega) (by omega)]
 refine (spec_pad1 hN _ _ _ ?_ _).trans rfl
 simp only [List.length_append,byteL_len,List.length_singleton,List.length_replicate]
 omega
theorem shr_div {n : Int} (h0 : 0 ≤ n) {k : Nat} (hk : k ≤ 64) : shrI .i64 n ((k : Nat) : Int) = n / 2 ^ k := by
 unfold shrI
 rw [pin_eq,Int.toNat_natCast,show min k IntKind.i64.bits = k from by show min k 64 = k; omega,Int.fdiv_eq_ediv_of_nonneg _ (Int.le_of_lt (Int.pow_pos (by omega)))]
theorem impl_pad0 {M : Nat} {Ω : Type} (N : Nat) (kx kr) (p : ByteArray) (n : Int) :
  iter (B_f7_L0 (Ω := Ω) N kx kr) (M + 9) (p,n,List.replicate 8 (0:Int),(7:Int)) = kx (p,[shrI .i64 (shrI .i64 (shrI .i64 (shrI .i64 (shrI .i64 (shrI .i64 (shrI .i64 n 8) 8) 8) 8) 8) 8) 8 % 256,shrI .i64 (shrI .i64 (shrI .i64 (shrI .i64 (shrI .i64 (shrI .i64 n 8) 8) 8) 8) 8) 8 % 256,shrI .i64 (shrI .i64 (shrI .i64 (shrI .i64 (shrI .i64 n 8) 8) 8) 8) 8 % 256,shrI .i64 (shrI .i64 (shrI .i64 (shrI .i64 n 8) 8) 8) 8 % 256,shrI .i64 (shrI .i64 (shrI .i64 n 8) 8) 8 % 256,shrI .i64 (shrI .i64 n 8) 8 % 256,shrI .i64 n 8 % 256,n % 256]) := by
 kernel_rfl
theorem lens_eq {n : Int} (h0 : 0 ≤ n) : [shrI .i64 (shrI .i64 (shrI .i64 (shrI .i64 (shrI .i64 (shrI .i64 (shrI .i64 n 8) 8) 8) 8) 8) 8) 8 % 256,shrI .i64 (shrI .i64 (shrI .i64 (shrI .i64 (shrI .i64 (shrI .i64 n 8) 8) 8) 8) 8) 8 % 256,shrI .i64 (shrI .i64 (shrI .i64 (shrI .i64 (shrI .i64 n 8) 8) 8) 8) 8 % 256,shrI .i64 (shrI .i64 (shrI .i64 (shrI .i64 n 8) 8) 8) 8 % 256,shrI .i64 (shrI .i64 (shrI .i64 n 8) 8) 8 % 256,shrI .i64 (shrI .i64 n 8) 8 % 256,shrI .i64 n 8 % 256,n % 256] = lens n 8 := by
 have s8 : ∀ {m : Int},0 ≤ m → shrI .i64 m 8 = m / 256 := fun h => shr_div (k := 8) h (by omega)
 have e : lens n 8 = [shrI .i64 n ((56 : Nat) : Int) % 256,shrI .i64 n ((48 : Nat) : Int) % 256,shrI .i64 n ((40 : Nat) : Int) % 256,shrI .i64 n ((32 : Nat) : Int) % 256,shrI .i64 n ((24 : Nat) : Int) % 256,shrI .i64 n ((16 : Nat) : Int) % 256,shrI .i64 n ((8 : Nat) : Int) % 256,shrI .i64 n ((0 : Nat) : Int) % 256] := rfl
 rw [e,shr_div h0 (by omega),shr_div h0 (by omega),shr_div h0 (by omega),shr_div h0 (by omega),shr_div h0 (by omega),shr_div h0 (by omega),shr_div h0 (by omega),shr_div h0 (by omega)]
 have q1 : 0 ≤ n / 256 := by omega
 have q2 : 0 ≤ n / 256 / 256 := by omega
 have q3 : 0 ≤ n / 256 / 256 / 256 := by omega
 have q4 : 0 ≤ n / 256 / 256 / 256 / 256 := by omega
 have q5 : 0 ≤ n / 256 / 256 / 256 / 256 / 256 := by omega
 have q6 : 0 ≤ n / 256 / 256 / 256 / 256 / 256 / 256 := by omega
 rw [s8 h0,s8 q1,s8 q2,s8 q3,s8 q4,s8 q5,s8 q6]
 simp only [List.cons.injEq,and_true]
 refine ⟨?_,?_,?_,?_,?_,?_,?_,?_⟩ <;> omega
theorem rep0 : ∀ z,(Lib.repeatL ((⟨#[0]⟩ : ByteArray).data.toList) z).map (fun b => (b.toNat : Int)) = List.replicate z (0:Int)
 | 0 => rfl
 | z + 1 => by
  rw [Lib.repeatL,List.map_append,rep0 z,List.replicate_succ]; rfl
theorem impl_Pad {N : Nat} (hN : 100 < N) (t : ByteArray) (ht : t.size ≤ 4194304) : x_f7 N t = some (pad t) := by
 unfold x_f7
 have hz : padZ t.size < 64 := by unfold padZ; omega
 have h1 : (⟨#[128]⟩ : ByteArray).size = 1 := rfl
 have hs : (t ++ (⟨#[128]⟩ : ByteArray)).size = t.size + 1 := by rw [ByteArray.size_append]; rfl
 have ez : (wrap64 ((wrap64 ((56:Int) - (((t.size + 1 : Nat) : Int).tmod (64:Int)))) + (64:Int))).tmod (64:Int) = ((padZ t.size : Nat) : Int) := by
  rw [Int.tmod_eq_emod_of_nonneg (a := ((t.size + 1 : Nat) : Int)) (by omega),w64 (x := (56:Int) - ((t.size + 1 : Nat) : Int) % 64) (by omega) (by omega),w64 (x := (56:Int) - ((t.size + 1 : Nat) : Int) % 64 + 64) (by omega) (by omega),Int.tmod_eq_emod_of_nonneg (by omega)]
  unfold padZ
  omega
 rw [hs,h1,dT (show t.size + 1 ≤ 4611686018427387904 by omega),cond_true,ez]
 have er : x_f94 N (⟨#[0]⟩ : ByteArray) ((padZ t.size : Nat) : Int) = some ⟨(Lib.repeatL ((⟨#[0]⟩ : ByteArray).data.toList) (padZ t.size)).toArray⟩ := by
  unfold x_f94
  rw [show (⟨#[0]⟩ : ByteArray).size = 1 from rfl,dT (show (0:Int) ≤ ((padZ t.size : Nat) : Int) by omega),dT (show ((1 : Nat) : Int) * ((padZ t.size : Nat) : Int) ≤ 140737488355328 by omega),dT (show ((padZ t.size : Nat) : Int) ≤ 140737488355328 by omega)]
  rfl
 rw [er,Option.bind_some]
 generalize hR : (⟨(Lib.repeatL ((⟨#[0]⟩ : ByteArray).data.toList) (padZ t.size)).toArray⟩ : ByteArray) = R
 have bR : byteL R = List.replicate (padZ t.size) 0 := by rw [← hR]; exact rep0 _
 have sR : R.size = padZ t.size := by rw [← byteL_len,bR,List.length_replicate]
 rw [dT (show (t.size + 1) + R.size ≤ 4611686018427387904 by omega),cond_true]
 rw [show (decide ((8:Int) = (8:Int)) && (decide (0 ≤ (8:Int)) && (decide ((8:Int) * (1 : Nat) ≤ 140737488355328) && decide ((8:Int) ≤ 9223372036854775807)))) = true from rfl,cond_true]
 obtain ⟨M,rfl⟩ : ∃ M,N = M + 9 := ⟨N - 9,by omega⟩
 refine (impl_pad0 (M + 9) _ _ _ _).trans ?_
 rw [w64 (x := 8 * (t.size : Int)) (by omega) (by omega)]
 simp only []
 rw [lens_eq (show (0:Int) ≤ 8 * (t.size : Int) by omega)]
 have es : ((t ++ (⟨#[128]⟩ : ByteArray)) ++ R).size = t.size + 1 + padZ t.size := by rw [ByteArray.size_append,hs,sR]
 rw [es,txt_size,lens_len,dT (show t.size + 1 + padZ t.size + 8 ≤ 4611686018427387904 by omega),cond_true]
 congr 1
 apply byteL_inj
 unfold pad
 rw [byteL_txt (padL8_in t),byteL_app,byteL_app,byteL_app,byteL_txt (lens_in _ _),bR]
 rfl
def H0 : List Int := (x_f78 0).getD []
def dgL (p : ByteArray) : Nat → List Int
 | 0 => H0
 | i + 1 => blk (dgL p i) (p.extract (64 * i) (64 * i + 64))
theorem dgL_ok (p : ByteArray) : ∀ i,(dgL p i).length = 8 ∧ in32 (dgL p i)
 | 0 => ⟨rfl,fun x hx => by
  have h : ∀ x ∈ [(1779033703:Int),(3144134277:Int),(1013904242:Int),(2773480762:Int),(1359893119:Int),(2600822924:Int),(528734635:Int),(1541459225:Int)],0 ≤ x ∧ x ≤ 4294967295 := by decide
  exact h x hx⟩
 | i + 1 => ⟨blk_len _ _,blk_in _ _⟩
def dgB : List Int → List Int
 | [] => []
 | n :: l => (shrI .u32 n (24:Int)) % 256 :: (shrI .u32 n (16:Int)) % 256 :: (shrI .u32 n (8:Int)) % 256 :: n % 256 :: dgB l
def dig (t : ByteArray) : ByteArray := txt (dgB (dgL (pad t) ((pad t).size / 64)))
theorem dig_size (t : ByteArray) : (dig t).size = 32 := by
 unfold dig
 rw [txt_size]
 obtain ⟨a,b,c,d,e,f,g,j,h⟩ := eight (dgL_ok (pad t) ((pad t).size / 64)).1
 rw [h]; rfl
theorem spec_out {M : Nat} {Ω : Type} (N : Nat) (kx kr) (a b c d e f g j : Int) :
  iter (B_f45_L2 (Ω := Ω) N kx kr) (M + 9) ([a,b,c,d,e,f,g,j],List.replicate 32 (0:Int),(0:Int)) = kx (dgB [a,b,c,d,e,f,g,j]) := by
 kernel_rfl
theorem impl_out {M : Nat} {Ω : Type} (N : Nat) (kx kr) (a b c d e f g j : Int) :
  iter (B_f4_L2 (Ω := Ω) N kx kr) (M + 9) ([],[a,b,c,d,e,f,g,j],(8:Int),(0:Int)) = kx (dgB [a,b,c,d,e,f,g,j]) := by
 kernel_rfl
theorem sub64 {p : ByteArray} {i : Nat} (h : 64 * i + 64 ≤ p.size) : (p.extract (64 * i) (64 * i + 64)).size = 64 := by
 rw [ByteArray.size_extract]; omega
theorem spec_Digest {N : Nat} (hN : 1000000 < N) (t : ByteArray) (ht : t.size ≤ 4194304) : x_f45 N t = some (dig t) := by
 unfold x_f45
 rw [show x_f78 N = some H0 from rfl,show x_f79 N = some K64 from rfl,spec_Pad (by omega) t ht,Option.bind_some,Option.bind_some,Option.bind_some]
 obtain ⟨p1,p2⟩ := pad_size t
 generalize hp : pad t = p at p1 p2
 have key : ∀ kx kr,iter (B_f45_L0 (Ω := ByteArray) N kx kr) N (H0,K64,p,(0:Int)) = kx (dgL p (p.size / 64)) := fun kx kr => by
  refine iter_cnt (fun i => (dgL p i,K64,p,((64 * i : Nat) : Int))) (p.size / 64) (fun i rec_ hi => ?_) (fun rec_ => ?_) (by omega)
  ·show B_f45_L0 N kx kr rec_ (dgL p i,K64,p,((64 * i : Nat) : Int)) = rec_ (blk (dgL p i) (p.extract (64 * i) (64 * i + 64)),K64,p,((64 * (i + 1) : Nat) : Int))
   have e1 : wrap64 (((64 * i : Nat) : Int) + 64) = ((64 * i + 64 : Nat) : Int) := by rw [w64 (by omega) (by omega)]; omega
   unfold B_f45_L0
   simp only [dT (show ((64 * i : Nat) : Int) < (p.size : Int) by omega),e1,inB_ok (show 64 * i ≤ 64 * i + 64 by omega) (show 64 * i + 64 ≤ p.size by omega),cond_true,Int.toNat_natCast,spec_block (show 100 < N by omega) (dgL_ok p i).1 _ (sub64 (show 64 * i + 64 ≤ p.size by omega)),Option.bind_some]
   rfl
  ·show B_f45_L0 N kx kr rec_ (dgL p (p.size / 64),K64,p,((64 * (p.size / 64) : Nat) : Int)) = _
   unfold B_f45_L0
   simp only [dF (show ¬ ((64 * (p.size / 64) : Nat) : Int) < (p.size : Int) by omega),cond_false]
 rw [key]
 rw [show (decide ((32:Int) = (32:Int)) && (decide (0 ≤ (32:Int)) && (decide ((32:Int) * (1 : Nat) ≤ 140737488355328) && decide ((32:Int) ≤ 9223372036854775807)))) = true from rfl,cond_true]
 obtain ⟨M,rfl⟩ : ∃ M,N = M + 9 := ⟨N - 9,by omega⟩
 unfold dig
 rw [hp]
 obtain ⟨a,b,c,d,e,f,g,j,h⟩ := eight (dgL_ok p (p.size / 64)).1
 rw [h]
 exact spec_out (M + 9) _ _ a b c d e f g j
theorem impl_Digest {N : Nat} (hN : 1000000 < N) (t : ByteArray) (ht : t.size ≤ 4194304) : x_f4 N t = some (dig t) := by
 unfold x_f4
 rw [show x_f17 N = some H0 from rfl,impl_Pad (by omega) t ht,Option.bind_some,Option.bind_some]
 obtain ⟨p1,p2⟩ := pad_size t
 generalize hp : pad t = p at p1 p2
 have key : ∀ kx kr,iter (B_f4_L0 (Ω := ByteArray) N kx kr) N (H0,p,(0:Int)) = kx (dgL p (p.size / 64)) := fun kx kr => by
  refine iter_cnt (fun i => (dgL p i,p,((64 * i : Nat) : Int))) (p.size / 64) (fun i rec_ hi => ?_) (fun rec_ => ?_) (by omega)
  ·show B_f4_L0 N kx kr rec_ (dgL p i,p,((64 * i : Nat) : Int)) = rec_ (blk (dgL p i) (p.extract (64 * i) (64 * i + 64)),p,((64 * (i + 1) : Nat) : Int))
   have e1 : wrap64 (((64 * i : Nat) : Int) + 64) = ((64 * i + 64 : Nat) : Int) := by rw [w64 (by omega) (by omega)]; omega
   unfold B_f4_L0
   simp only [dT (show ((64 * i : Nat) : Int) < (p.size : Int) by omega),e1,inB_ok (show 64 * i ≤ 64 * i + 64 by omega) (show 64 * i + 64 ≤ p.size by omega),cond_true,Int.toNat_natCast,impl_block (show 100 < N by omega) (dgL_ok p i).1 (dgL_ok p i).2 _ (sub64 (show 64 * i + 64 ≤ p.size by omega)),Option.bind_some]
   rfl
  ·show B_f4_L0 N kx kr rec_ (dgL p (p.size / 64),p,((64 * (p.size / 64) : Nat) : Int)) = _
   unfold B_f4_L0
   simp only [dF (show ¬ ((64 * (p.size / 64) : Nat) : Int) < (p.size : Int) by omega),cond_false]
 rw [key]
 obtain ⟨M,rfl⟩ : ∃ M,N = M + 9 := ⟨N - 9,by omega⟩
 unfold dig
 rw [hp]
 obtain ⟨a,b,c,d,e,f,g,j,h⟩ := eight (dgL_ok p (p.size / 64)).1
 rw [h]
 exact impl_out (M + 9) _ _ a b c d e f g j
end Go.Proofs.YtflmdpbhmmohiaaGreat.C
namespace Go.Proofs.YtflmdpbhmmohiaaGreat.C
open Go Go.Proofs.YtflmdpbhmmohiaaGreat.Nx Go.RowKit
set_option linter.unusedVariables false
set_option linter.unusedSimpArgs false
set_option maxRecDepth 100000
/-! Keys and chains. -/
def fCut (s : ByteArray) : ByteArray := (dig s).extract 0 8
theorem fCut_size (s : ByteArray) : (fCut s).size = 8 := by
 unfold fCut
 rw [ByteArray.size_extract,dig_size]; rfl
theorem spec_cut {N : Nat} (hN : 1000000 < N) (s : ByteArray) (hs : s.size ≤ 4194304) : x_f81 N s = some (fCut s) := by
 unfold x_f81 x_f44
 rw [show x_f70 N (8:Int) (1:Int) (32:Int) = some true from rfl,Option.bind_some,spec_Digest hN s hs]
 simp only [Bool.not_true,cond_false,Option.bind_some,dig_size]
 rfl
theorem impl_short {N : Nat} (hN : 1000000 < N) (k : Int) (s : ByteArray) (hs : s.size ≤ 4194303) : x_f30 N k s = some (fCut (txt [k] ++ s)) := by
 have h1 : (txt [k]).size = 1 := rfl
 unfold x_f30 x_f3
 rw [h1,dT (show 1 + s.size ≤ 4611686018427387904 by omega),cond_true,show x_f23 N (8:Int) (1:Int) (32:Int) = some true from rfl,Option.bind_some,impl_Digest hN _ (by rw [ByteArray.size_append,h1]; omega)]
 simp only [Bool.not_true,cond_false,Option.bind_some,dig_size]
 rfl
def kC : ByteArray := ⟨#[99]⟩
def kN : ByteArray := ⟨#[110]⟩
def kL : ByteArray := ⟨#[108]⟩
def kS : ByteArray := ⟨#[115]⟩
theorem txtC : txt [(99:Int)] = kC := rfl
theorem txtN : txt [(110:Int)] = kN := rfl
theorem txtL : txt [(108:Int)] = kL := rfl
theorem txtS : txt [(115:Int)] = kS := rfl
def fChN (s : ByteArray) : Nat → ByteArray
 | 0 => s
 | k + 1 => fCut (kC ++ fChN s k)
theorem fChN_size (s : ByteArray) (k : Nat) : (fChN s k).size ≤ s.size + 8 := by
 cases k with
 | zero => exact Nat.le_add_right _ _
 | succ k => rw [fChN,fCut_size]; omega
theorem fChN_add (s : ByteArray) (a : Nat) : ∀ b,fChN s (a + b) = fChN (fChN s a) b
 | 0 => rfl
 | b + 1 => by rw [← Nat.add_assoc,fChN,fChN_add s a b]; rfl
def fCh (s : ByteArray) (n : Int) : ByteArray := fChN s (min n.toNat 3)
theorem fCh_size (s : ByteArray) (n : Int) : (fCh s n).size ≤ s.size + 8 := fChN_size s _
theorem spec_Chain {N : Nat} (hN : 1000000 < N) (s : ByteArray) (hs : s.size ≤ 1000000) (n : Int) : x_f41 N s n = some (fCh s n) := by
 unfold x_f41 fCh
 refine iter_cnt (fun i => (fChN s i,n,((i : Nat) : Int))) (min n.toNat 3) (fun i rec_ hi => ?_) (fun rec_ => ?_) (by omega)
 ·show B_f41_L0 N _ _ rec_ (fChN s i,n,((i : Nat) : Int)) = rec_ (fChN s (i + 1),n,((i + 1 : Nat) : Int))
  have := fChN_size s i
  have h1 : (⟨#[99]⟩ : ByteArray).size = 1 := rfl
  unfold B_f41_L0
  simp only [dT (show ((i : Nat) : Int) < n by omega),dT (show ((i : Nat) : Int) < 3 by omega),h1,dT (show 1 + (fChN s i).size ≤ 4611686018427387904 by omega),cond_true,ix1 (show i < 1000 by omega)]
  rw [spec_cut hN _ (by rw [ByteArray.size_append,h1]; omega),Option.bind_some]
  rfl
 ·show B_f41_L0 N _ _ rec_ (fChN s (min n.toNat 3),n,((min n.toNat 3 : Nat) : Int)) = _
  unfold B_f41_L0
  by_cases h : ((min n.toNat 3 : Nat) : Int) < n
  ·simp only [dT h,dF (show ¬ ((min n.toNat 3 : Nat) : Int) < 3 by omega),cond_true,cond_false]
  ·simp only [dF h,cond_false]
theorem impl_Chain {N : Nat} (hN : 1000000 < N) (s : ByteArray) (hs : s.size ≤ 1000000) (n : Int) : x_f0 N s n = some (fCh s n) := by
 unfold x_f0 fCh
 rw [show (if (if (3:Int) < n then (3:Int) else n) > (0:Int) then (if (3:Int) < n then (3:Int) else n) else (0:Int)) = ((min n.toNat 3 : Nat) : Int) by split <;> split <;> omega]
 refine iter_cnt (fun i => (fChN s i,((min n.toNat 3 : Nat) : Int),((i : Nat) : Int))) (min n.toNat 3) (fun i rec_ hi => ?_) (fun rec_ => ?_) (by omega)
 ·show B_f0_L0 N _ _ rec_ (fChN s i,((min n.toNat 3 : Nat) : Int),((i : Nat) : Int)) = rec_ (fChN s (i + 1),((min n.toNat 3 : Nat) : Int),((i + 1 : Nat) : Int))
  have := fChN_size s i
  unfold B_f0_L0
  simp only [dT (show ((i : Nat) : Int) < ((min n.toNat 3 : Nat) : Int) by omega),cond_true,impl_short hN 99 (fChN s i) (by omega),Option.bind_some,txtC,ix1 (show i < 1000 by omega)]
  rfl
 ·show B_f0_L0 N _ _ rec_ (fChN s (min n.toNat 3),((min n.toNat 3 : Nat) : Int),((min n.toNat 3 : Nat) : Int)) = _
  unfold B_f0_L0
  simp only [dF (show ¬ ((min n.toNat 3 : Nat) : Int) < ((min n.toNat 3 : Nat) : Int) by omega),cond_false]
def fSec (N : Nat) (seed leaf i : Int) : ByteArray :=
 bif inR seed 0 1000000 && (inR leaf 0 1000000 && inR i 0 1000000) then fCut (((kS ++ vt N seed) ++ vt N leaf) ++ vt N i) else ByteArray.empty
theorem fSec_size (N : Nat) (seed leaf i : Int) : (fSec N seed leaf i).size ≤ 8 := by
 unfold fSec
 cases inR seed 0 1000000 && (inR leaf 0 1000000 && inR i 0 1000000) with
 | false => exact Nat.zero_le _
 | true => rw [cond_true,fCut_size]; exact Nat.le_refl _
theorem inR_le {n a b : Int} (h : inR n a b = true) : a ≤ n ∧ n ≤ b := by
 unfold inR at h
 simpa using h
theorem spec_Sec {N : Nat} (hN : Big N) (seed leaf i : Int) : x_f61 N seed leaf i = some (fSec N seed leaf i) := by
 have hN' : 1099511627776 ≤ N := hN
 unfold x_f61 x_f82 fSec
 rw [l01In_eq,l01In_eq,l01In_eq]
 simp only [Option.bind_some]
 cases h1 : inR seed 0 1000000 with
 | false => rfl
 | true =>
  cases h2 : inR leaf 0 1000000 with
  | false => rfl
  | true =>
   cases h3 : inR i 0 1000000 with
   | false => rfl
   | true =>
    have g1 := inR_le h1
    have g2 := inR_le h2
    have g3 := inR_le h3
    obtain ⟨v1,s1,p1⟩ := vt_some hN (show seed ≤ 9223372036854775807 by omega)
    obtain ⟨v2,s2,p2⟩ := vt_some hN (show leaf ≤ 9223372036854775807 by omega)
    obtain ⟨v3,s3,p3⟩ := vt_some hN (show i ≤ 9223372036854775807 by omega)
    have hk : (⟨#[115]⟩ : ByteArray).size = 1 := rfl
    simp only [Bool.not_true,cond_false,v1,v2,v3,Option.bind_some,ByteArray.size_append,hk,dT (show 1 + (vt N seed).size ≤ 4611686018427387904 by omega),dT (show 1 + (vt N seed).size + (vt N leaf).size ≤ 4611686018427387904 by omega),dT (show 1 + (vt N seed).size + (vt N leaf).size + (vt N i).size ≤ 4611686018427387904 by omega),cond_true]
    rw [spec_cut (by omega) _ (by simp only [ByteArray.size_append,hk]; omega),Option.bind_some]
    rfl
theorem impl_Sec {N : Nat} (hN : Big N) (seed leaf i : Int) : x_f14 N seed leaf i = some (fSec N seed leaf i) := by
 have hN' : 1099511627776 ≤ N := hN
 unfold x_f14 fSec
 rw [in_eq,in_eq,in_eq]
 simp only [Option.bind_some]
 cases h1 : inR seed 0 1000000 with
 | false => rfl
 | true =>
  cases h2 : inR leaf 0 1000000 with
  | false => rfl
  | true =>
   cases h3 : inR i 0 1000000 with
   | false => rfl
   | true =>
    have g1 := inR_le h1
    have g2 := inR_le h2
    have g3 := inR_le h3
    obtain ⟨v1,s1,p1⟩ := vt_some hN (show seed ≤ 9223372036854775807 by omega)
    obtain ⟨v2,s2,p2⟩ := vt_some hN (show leaf ≤ 9223372036854775807 by omega)
    obtain ⟨v3,s3,p3⟩ := vt_some hN (show i ≤ 9223372036854775807 by omega)
    simp only [Bool.not_true,cond_false,varText_eq N (show seed ≤ 9223372036854775807 by omega),varText_eq N (show leaf ≤ 9223372036854775807 by omega),varText_eq N (show i ≤ 9223372036854775807 by omega),v1,v2,v3,Option.bind_some,ByteArray.size_append,dT (show (vt N seed).size + (vt N leaf).size ≤ 4611686018427387904 by omega),dT (show (vt N seed).size + (vt N leaf).size + (vt N i).size ≤ 4611686018427387904 by omega),cond_true]
    rw [impl_short (by omega) _ _ (by simp only [ByteArray.size_append]; omega),Option.bind_some,txtS]
    simp only [Bool.and_self,cond_true,ByteArray.append_assoc]
def catL (N : Nat) (seed leaf : Int) : Nat → ByteArray
 | 0 => ByteArray.empty
 | i + 1 => catL N seed leaf i ++ fCh (fSec N seed leaf ((i : Nat) : Int)) 3
theorem catL_size (N : Nat) (seed leaf : Int) : ∀ i,(catL N seed leaf i).size ≤ 16 * i
 | 0 => Nat.zero_le _
 | i + 1 => by
  have h1 := catL_size N seed leaf i
  have h2 := fCh_size (fSec N seed leaf ((i : Nat) : Int)) 3
  have h3 := fSec_size N seed leaf ((i : Nat) : Int)
  rw [catL,ByteArray.size_append]; omega
def fLeaf (N : Nat) (seed leaf : Int) : ByteArray := fCut (kL ++ catL N seed leaf 11)
theorem spec_Leaf {N : Nat} (hN : Big N) (seed leaf : Int) : x_f53 N seed leaf = some (fLeaf N seed leaf) := by
 have hN' : 1099511627776 ≤ N := hN
 have hk : kL.size = 1 := rfl
 unfold x_f53
 refine (congrArg (iter _ N) (show (seed,leaf,(⟨#[108]⟩ : ByteArray),(0:Int)) = (seed,leaf,kL ++ catL N seed leaf 0,((0 : Nat) : Int)) by rw [catL,ByteArray.append_empty]; rfl)).trans ?_
 refine iter_cnt (fun i => (seed,leaf,kL ++ catL N seed leaf i,((i : Nat) : Int))) 11 (fun i rec_ hi => ?_) (fun rec_ => ?_) (by omega)
 ·show B_f53_L0 N _ _ rec_ (seed,leaf,kL ++ catL N seed leaf i,((i : Nat) : Int)) = rec_ (seed,leaf,kL ++ catL N seed leaf (i + 1),((i + 1 : Nat) : Int))
  have h1 := catL_size N seed leaf i
  have h2 := fCh_size (fSec N seed leaf ((i : Nat) : Int)) 3
  have h3 := fSec_size N seed leaf ((i : Nat) : Int)
  unfold B_f53_L0
  simp only [dT (show ((i : Nat) : Int) < 11 by omega),cond_true,spec_Sec hN,Option.bind_some,spec_Chain (show 1000000 < N by omega) (fSec N seed leaf ((i : Nat) : Int)) (by omega) 3,ByteArray.size_append,hk,dT (show 1 + (catL N seed leaf i).size + (fCh (fSec N seed leaf ((i : Nat) : Int)) 3).size ≤ 4611686018427387904 by omega),ix1 (show i < 1000 by omega),catL,ByteArray.append_assoc]
 ·show B_f53_L0 N _ _ rec_ (seed,leaf,kL ++ catL N seed leaf 11,((11 : Nat) : Int)) = _
  have h1 := catL_size N seed leaf 11
  unfold B_f53_L0
  simp only [dF (show ¬ ((11 : Nat) : Int) < 11 by omega),cond_false]
  rw [spec_cut (by omega) _ (by rw [ByteArray.size_append,hk]; omega),Option.bind_some]
  rfl
theorem impl_Leaf {N : Nat} (hN : Big N) (seed leaf : Int) : x_f6 N seed leaf = some (fLeaf N seed leaf) := by
 have hN' : 1099511627776 ≤ N := hN
 unfold x_f6
 refine iter_cnt (fun i => (seed,leaf,catL N seed leaf i,((i : Nat) : Int))) 11 (fun i rec_ hi => ?_) (fun rec_ => ?_) (by omega)
 ·show B_f6_L0 N _ _ rec_ (seed,leaf,catL N seed leaf i,((i : Nat) : Int)) = rec_ (seed,leaf,catL N seed leaf (i + 1),((i + 1 : Nat) : Int))
  have h1 := catL_size N seed leaf i
  have h2 := fCh_size (fSec N seed leaf ((i : Nat) : Int)) 3
  have h3 := fSec_size N seed leaf ((i : Nat) : Int)
  unfold B_f6_L0
  simp only [dT (show ((i : Nat) : Int) < 11 by omega),cond_true,impl_Sec hN,Option.bind_some,impl_Chain (show 1000000 < N by omega) (fSec N seed leaf ((i : Nat) : Int)) (by omega) 3,dT (show (catL N seed leaf i).size + (fCh (fSec N seed leaf ((i : Nat) : Int)) 3).size ≤ 4611686018427387904 by omega),ix1 (show i < 1000 by omega),catL]
 ·show B_f6_L0 N _ _ rec_ (seed,leaf,catL N seed leaf 11,((11 : Nat) : Int)) = _
  have h1 := catL_size N seed leaf 11
  unfold B_f6_L0
  simp only [dF (show ¬ ((11 : Nat) : Int) < 11 by omega),cond_false]
  rw [impl_short (by omega) _ _ (by omega),Option.bind_some,txtL]
  rfl
end Go.Proofs.YtflmdpbhmmohiaaGreat.C
namespace Go.Proofs.YtflmdpbhmmohiaaGreat.C
open Go Go.Proofs.YtflmdpbhmmohiaaGreat.Nx Go.RowKit
set_option linter.unusedVariables false
set_option linter.unusedSimpArgs false
set_option maxRecDepth 100000
/-! The tree of keys. -/
def nd (a b : ByteArray) : ByteArray := fCut (kN ++ (a ++ b))
theorem nd_size (a b : ByteArray) : (nd a b).size = 8 := fCut_size _
theorem spec_nd {N : Nat} (hN : 1000000 < N) {a b : ByteArray} (ha : a.size = 8) (hb : b.size = 8) : x_f81 N (((⟨#[110]⟩ : ByteArray) ++ a) ++ b) = some (nd a b) := by
 have hk : (⟨#[110]⟩ : ByteArray).size = 1 := rfl
 rw [spec_cut hN _ (by simp only [ByteArray.size_append,hk,ha,hb]; omega),ByteArray.append_assoc]
 rfl
theorem impl_nd {N : Nat} (hN : 1000000 < N) {a b : ByteArray} (ha : a.size = 8) (hb : b.size = 8) : x_f30 N (110:Int) (a ++ b) = some (nd a b) := by
 rw [impl_short hN _ _ (by simp only [ByteArray.size_append,ha,hb]; omega),txtN]
 rfl
theorem spec_L4a {N M : Nat} (hN : 1000000 < N) {Ω : Type} (kx kr) {a b c d : ByteArray} (ha : a.size = 8) (hb : b.size = 8) (hc : c.size = 8) (hd : d.size = 8) (s5 : List (List ByteArray)) :
  iter (B_f85_L4 (Ω := Ω) N kx kr) (M + 3) ([a,b,c,d],s5,[],(0:Int)) = kx (s5,[nd a b,nd c d]) := by
 have hk : (⟨#[110]⟩ : ByteArray).size = 1 := rfl
 have e0 : ∀ g,B_f85_L4 (Ω := Ω) N kx kr g ([a,b,c,d],s5,[],(0:Int)) = g ([a,b,c,d],s5,[nd a b],(2:Int)) := fun g => by
  have q : B_f85_L4 (Ω := Ω) N kx kr g ([a,b,c,d],s5,[],(0:Int)) = (bif decide ((⟨#[110]⟩ : ByteArray).size + a.size ≤ 4611686018427387904) then (bif decide (((⟨#[110]⟩ : ByteArray) ++ a).size + b.size ≤ 4611686018427387904) then (x_f81 N (((⟨#[110]⟩ : ByteArray) ++ a) ++ b)).bind fun r => g ([a,b,c,d],s5,[r],(2:Int)) else none) else none) := by
   kernel_rfl
  rw [q,spec_nd hN ha hb,ByteArray.size_append,hk,ha,hb,dT (show 1 + 8 ≤ 4611686018427387904 by decide),dT (show 1 + 8 + 8 ≤ 4611686018427387904 by decide)]
  rfl
 have e1 : ∀ g,B_f85_L4 (Ω := Ω) N kx kr g ([a,b,c,d],s5,[nd a b],(2:Int)) = g ([a,b,c,d],s5,[nd a b,nd c d],(4:Int)) := fun g => by
  have q : B_f85_L4 (Ω := Ω) N kx kr g ([a,b,c,d],s5,[nd a b],(2:Int)) = (bif decide ((⟨#[110]⟩ : ByteArray).size + c.size ≤ 4611686018427387904) then (bif decide (((⟨#[110]⟩ : ByteArray) ++ c).size + d.size ≤ 4611686018427387904) then (x_f81 N (((⟨#[110]⟩ : ByteArray) ++ c) ++ d)).bind fun r => g ([a,b,c,d],s5,[nd a b,r],(4:Int)) else none) else none) := by
   kernel_rfl
  rw [q,spec_nd hN hc hd,ByteArray.size_append,hk,hc,hd,dT (show 1 + 8 ≤ 4611686018427387904 by decide),dT (show 1 + 8 + 8 ≤ 4611686018427387904 by decide)]
  rfl
 have z : B_f85_L4 (Ω := Ω) N kx kr (iter (B_f85_L4 N kx kr) M) ([a,b,c,d],s5,[nd a b,nd c d],(4:Int)) = kx (s5,[nd a b,nd c d]) := by
  kernel_rfl
 rw [iter_succ,e0,iter_succ,e1,iter_succ,z]
theorem spec_L4b {N M : Nat} (hN : 1000000 < N) {Ω : Type} (kx kr) {a b : ByteArray} (ha : a.size = 8) (hb : b.size = 8) (s5 : List (List ByteArray)) :
  iter (B_f85_L4 (Ω := Ω) N kx kr) (M + 2) ([a,b],s5,[],(0:Int)) = kx (s5,[nd a b]) := by
 have hk : (⟨#[110]⟩ : ByteArray).size = 1 := rfl
 have e0 : ∀ g,B_f85_L4 (Ω := Ω) N kx kr g ([a,b],s5,[],(0:Int)) = g ([a,b],s5,[nd a b],(2:Int)) := fun g => by
  have q : B_f85_L4 (Ω := Ω) N kx kr g ([a,b],s5,[],(0:Int)) = (bif decide ((⟨#[110]⟩ : ByteArray).size + a.size ≤ 4611686018427387904) then (bif decide (((⟨#[110]⟩ : ByteArray) ++ a).size + b.size ≤ 4611686018427387904) then (x_f81 N (((⟨#[110]⟩ : ByteArray) ++ a) ++ b)).bind fun r => g ([a,b],s5,[r],(2:Int)) else none) else none) := by
   kernel_rfl
  rw [q,spec_nd hN ha hb,ByteArray.size_append,hk,ha,hb,dT (show 1 + 8 ≤ 4611686018427387904 by decide),dT (show 1 + 8 + 8 ≤ 4611686018427387904 by decide)]
  rfl
 have z : B_f85_L4 (Ω := Ω) N kx kr (iter (B_f85_L4 N kx kr) M) ([a,b],s5,[nd a b],(2:Int)) = kx (s5,[nd a b]) := by
  kernel_rfl
 rw [iter_succ,e0,iter_succ,z]
theorem impl_L4a {N M : Nat} (hN : 1000000 < N) {Ω : Type} (kx kr) {a b c d : ByteArray} (ha : a.size = 8) (hb : b.size = 8) (hc : c.size = 8) (hd : d.size = 8) (s5 : List (List ByteArray)) :
  iter (B_f25_L4 (Ω := Ω) N kx kr) (M + 3) ([a,b,c,d],s5,[],(0:Int)) = kx (s5,[nd a b,nd c d]) := by
 have hk : (⟨#[110]⟩ : ByteArray).size = 1 := rfl
 have e0 : ∀ g,B_f25_L4 (Ω := Ω) N kx kr g ([a,b,c,d],s5,[],(0:Int)) = g ([a,b,c,d],s5,[nd a b],(2:Int)) := fun g => by
  have q : B_f25_L4 (Ω := Ω) N kx kr g ([a,b,c,d],s5,[],(0:Int)) = (bif decide (a.size + b.size ≤ 4611686018427387904) then (x_f30 N (110:Int) (a ++ b)).bind fun r => g ([a,b,c,d],s5,[r],(2:Int)) else none) := by
   kernel_rfl
  rw [q,impl_nd hN ha hb,ha,hb,dT (show 8 + 8 ≤ 4611686018427387904 by decide)]
  rfl
 have e1 : ∀ g,B_f25_L4 (Ω := Ω) N kx kr g ([a,b,c,d],s5,[nd a b],(2:Int)) = g ([a,b,c,d],s5,[nd a b,nd c d],(4:Int)) := fun g => by
  have q : B_f25_L4 (Ω := Ω) N kx kr g ([a,b,c,d],s5,[nd a b],(2:Int)) = (bif decide (c.size + d.size ≤ 4611686018427387904) then (x_f30 N (110:Int) (c ++ d)).bind fun r => g ([a,b,c,d],s5,[nd a b,r],(4:Int)) else none) := by
   kernel_rfl
  rw [q,impl_nd hN hc hd,hc,hd,dT (show 8 + 8 ≤ 4611686018427387904 by decide)]
  rfl
 have z : B_f25_L4 (Ω := Ω) N kx kr (iter (B_f25_L4 N kx kr) M) ([a,b,c,d],s5,[nd a b,nd c d],(4:Int)) = kx (s5,[nd a b,nd c d]) := by
  kernel_rfl
 rw [iter_succ,e0,iter_succ,e1,iter_succ,z]
theorem impl_L4b {N M : Nat} (hN : 1000000 < N) {Ω : Type} (kx kr) {a b : ByteArray} (ha : a.size = 8) (hb : b.size = 8) (s5 : List (List ByteArray)) :
  iter (B_f25_L4 (Ω := Ω) N kx kr) (M + 2) ([a,b],s5,[],(0:Int)) = kx (s5,[nd a b]) := by
 have hk : (⟨#[110]⟩ : ByteArray).size = 1 := rfl
 have e0 : ∀ g,B_f25_L4 (Ω := Ω) N kx kr g ([a,b],s5,[],(0:Int)) = g ([a,b],s5,[nd a b],(2:Int)) := fun g => by
  have q : B_f25_L4 (Ω := Ω) N kx kr g ([a,b],s5,[],(0:Int)) = (bif decide (a.size + b.size ≤ 4611686018427387904) then (x_f30 N (110:Int) (a ++ b)).bind fun r => g ([a,b],s5,[r],(2:Int)) else none) := by
   kernel_rfl
  rw [q,impl_nd hN ha hb,ha,hb,dT (show 8 + 8 ≤ 4611686018427387904 by decide)]
  rfl
 have z : B_f25_L4 (Ω := Ω) N kx kr (iter (B_f25_L4 N kx kr) M) ([a,b],s5,[nd a b],(2:Int)) = kx (s5,[nd a b]) := by
  kernel_rfl
 rw [iter_succ,e0,iter_succ,z]
def row0 (N : Nat) (seed : Int) : List ByteArray := [fLeaf N seed 0,fLeaf N seed 1,fLeaf N seed 2,fLeaf N seed 3]
def row1 (N : Nat) (seed : Int) : List ByteArray := [nd (fLeaf N seed 0) (fLeaf N seed 1),nd (fLeaf N seed 2) (fLeaf N seed 3)]
def fKey (N : Nat) (seed : Int) : ByteArray := nd (nd (fLeaf N seed 0) (fLeaf N seed 1)) (nd (fLeaf N seed 2) (fLeaf N seed 3))
def fRows (N : Nat) (seed : Int) : List (List ByteArray) := [row0 N seed,row1 N seed,[fKey N seed]]
theorem fLeaf_size (N : Nat) (seed leaf : Int) : (fLeaf N seed leaf).size = 8 := fCut_size _
theorem sub_add {N k : Nat} (h : k ≤ N) : N - k + k = N := Nat.sub_add_cancel h
theorem spec_Rows {N : Nat} (hN : Big N) (seed : Int) : x_f85 N seed = some (fRows N seed,()) := by
 have hN' : 1099511627776 ≤ N := hN
 have key : ∀ kx kr,iter (B_f85_L0 (Ω := List (List ByteArray) × Unit) N kx kr) N (seed,[],(0:Int)) = kx (row0 N seed) := fun kx kr => by
  refine iter_cnt (fun i => (seed,(List.range i).map (fun j : Nat => fLeaf N seed ((j : Nat) : Int)),((i : Nat) : Int))) 4 (fun i rec_ hi => ?_) (fun rec_ => ?_) (by omega)
  ·show B_f85_L0 N kx kr rec_ (seed,(List.range i).map (fun j : Nat => fLeaf N seed ((j : Nat) : Int)),((i : Nat) : Int)) = rec_ (seed,(List.range (i + 1)).map (fun j : Nat => fLeaf N seed ((j : Nat) : Int)),((i + 1 : Nat) : Int))
   unfold B_f85_L0
   simp only [dT (show ((i : Nat) : Int) < 4 by omega),cond_true,spec_Leaf hN,Option.bind_some,List.length_map,List.length_range,List.length_singleton,dT (show (i + 1) * 16 ≤ 140737488355328 by omega),ix1 (show i < 1000 by omega),List.range_succ,List.map_append,List.map_cons,List.map_nil]
  ·rfl
 unfold x_f85
 rw [key]
 have a1 := fun kx kr => spec_L4a (M := N - 3) (N := N) (Ω := List (List ByteArray) × Unit) (by omega) kx kr (fLeaf_size N seed 0) (fLeaf_size N seed 1) (fLeaf_size N seed 2) (fLeaf_size N seed 3) [row0 N seed]
 have a2 := fun kx kr => spec_L4b (M := N - 2) (N := N) (Ω := List (List ByteArray) × Unit) (by omega) kx kr (nd_size (fLeaf N seed 0) (fLeaf N seed 1)) (nd_size (fLeaf N seed 2) (fLeaf N seed 3)) [row0 N seed,row1 N seed]
 rw [sub_add (show 3 ≤ N by omega)] at a1
 rw [sub_add (show 2 ≤ N by omega)] at a2
 have key2 : ∀ (K : Nat) kx kr,iter (B_f85_L2 (Ω := List (List ByteArray) × Unit) N kx kr) (K + 3) (row0 N seed,[row0 N seed]) = kx (fRows N seed) := fun K kx kr => by
  rw [iter_succ]
  show iter (B_f85_L4 N _ _) N ([fLeaf N seed 0,fLeaf N seed 1,fLeaf N seed 2,fLeaf N seed 3],[row0 N seed],[],(0:Int)) = _
  rw [a1]
  show iter (B_f85_L2 N kx kr) (K + 2) (row1 N seed,[row0 N seed,row1 N seed]) = _
  rw [iter_succ]
  show iter (B_f85_L4 N _ _) N ([nd (fLeaf N seed 0) (fLeaf N seed 1),nd (fLeaf N seed 2) (fLeaf N seed 3)],[row0 N seed,row1 N seed],[],(0:Int)) = _
  rw [a2]
  show iter (B_f85_L2 N kx kr) (K + 1) ([fKey N seed],fRows N seed) = _
  rw [iter_succ]
  rfl
 have := fun kx kr => key2 (N - 3) kx kr
 rw [sub_add (show 3 ≤ N by omega)] at this
 rw [this]
 rfl
theorem impl_Rows {N : Nat} (hN : Big N) (seed : Int) : x_f25 N seed = some (fRows N seed,()) := by
 have hN' : 1099511627776 ≤ N := hN
 have key : ∀ kx kr,iter (B_f25_L0 (Ω := List (List ByteArray) × Unit) N kx kr) N (seed,[],(0:Int)) = kx (row0 N seed) := fun kx kr => by
  refine iter_cnt (fun i => (seed,(List.range i).map (fun j : Nat => fLeaf N seed ((j : Nat) : Int)),((i : Nat) : Int))) 4 (fun i rec_ hi => ?_) (fun rec_ => ?_) (by omega)
  ·show B_f25_L0 N kx kr rec_ (seed,(List.range i).map (fun j : Nat => fLeaf N seed ((j : Nat) : Int)),((i : Nat) : Int)) = rec_ (seed,(List.range (i + 1)).map (fun j : Nat => fLeaf N seed ((j : Nat) : Int)),((i + 1 : Nat) : Int))
   unfold B_f25_L0
   simp only [dT (show ((i : Nat) : Int) < 4 by omega),cond_true,impl_Leaf hN,Option.bind_some,List.length_map,List.length_range,List.length_singleton,dT (show (i + 1) * 16 ≤ 140737488355328 by omega),ix1 (show i < 1000 by omega),List.range_succ,List.map_append,List.map_cons,List.map_nil]
  ·rfl
 unfold x_f25
 rw [key]
 have a1 := fun kx kr => impl_L4a (M := N - 3) (N := N) (Ω := List (List ByteArray) × Unit) (by omega) kx kr (fLeaf_size N seed 0) (fLeaf_size N seed 1) (fLeaf_size N seed 2) (fLeaf_size N seed 3) [row0 N seed]
 have a2 := fun kx kr => impl_L4b (M := N - 2) (N := N) (Ω := List (List ByteArray) × Unit) (by omega) kx kr (nd_size (fLeaf N seed 0) (fLeaf N seed 1)) (nd_size (fLeaf N seed 2) (fLeaf N seed 3)) [row0 N seed,row1 N seed]
 rw [sub_add (show 3 ≤ N by omega)] at a1
 rw [sub_add (show 2 ≤ N by omega)] at a2
 have key2 : ∀ (K : Nat) kx kr,iter (B_f25_L2 (Ω := List (List ByteArray) × Unit) N kx kr) (K + 3) (row0 N seed,[row0 N seed]) = kx (fRows N seed) := fun K kx kr => by
  rw [iter_succ]
  show iter (B_f25_L4 N _ _) N ([fLeaf N seed 0,fLeaf N seed 1,fLeaf N seed 2,fLeaf N seed 3],[row0 N seed],[],(0:Int)) = _
  rw [a1]
  show iter (B_f25_L2 N kx kr) (K + 2) (row1 N seed,[row0 N seed,row1 N seed]) = _
  rw [iter_succ]
  show iter (B_f25_L4 N _ _) N ([nd (fLeaf N seed 0) (fLeaf N seed 1),nd (fLeaf N seed 2) (fLeaf N seed 3)],[row0 N seed,row1 N seed],[],(0:Int)) = _
  rw [a2]
  show iter (B_f25_L2 N kx kr) (K + 1) ([fKey N seed],fRows N seed) = _
  rw [iter_succ]
  rfl
 have := fun kx kr => key2 (N - 3) kx kr
 rw [sub_add (show 3 ≤ N by omega)] at this
 rw [this]
 rfl
theorem spec_Key {N : Nat} (hN : Big N) (seed : Int) : x_f52 N seed = some (fKey N seed) := by
 unfold x_f52
 rw [spec_Rows hN]; kernel_rfl
theorem impl_Key {N : Nat} (hN : Big N) (seed : Int) : x_f5 N seed = some (fKey N seed) := by
 unfold x_f5
 rw [impl_Rows hN]; kernel_rfl
/-! Quads. -/
theorem and3 (a : Int) : 0 ≤ andI .i64 a 3 ∧ andI .i64 a 3 ≤ 3 := by
 have e : (BitVec.ofInt 64 a &&& BitVec.ofInt 64 3).toNat ≤ 3 := by
  rw [BitVec.toNat_and]
  have e2 : (BitVec.ofInt 64 3).toNat = 2 ^ 2 - 1 := by decide
  rw [e2,Nat.and_two_pow_sub_one_eq_mod]
  omega
 unfold andI
 rw [pin_eq]
 show 0 ≤ IntKind.i64.wrap ((BitVec.ofInt 64 a &&& BitVec.ofInt 64 3).toNat : Int) ∧ IntKind.i64.wrap ((BitVec.ofInt 64 a &&& BitVec.ofInt 64 3).toNat : Int) ≤ 3
 rw [iw (by omega) (by omega)]
 omega
theorem and3_mod {a : Int} (h0 : 0 ≤ a) (h1 : a ≤ 1000) : andI .i64 a 3 = a % 4 := by
 have e : (BitVec.ofInt 64 a &&& BitVec.ofInt 64 3).toNat = a.toNat % 4 := by
  rw [BitVec.toNat_and,BitVec.toNat_ofInt]
  have e1 : (a % ((2 ^ 64 : Nat) : Int)).toNat = a.toNat := by
   rw [p64,Int.emod_eq_of_lt h0 (by omega)]
  have e2 : (BitVec.ofInt 64 3).toNat = 2 ^ 2 - 1 := by decide
  rw [e1,e2,Nat.and_two_pow_sub_one_eq_mod]
 unfold andI
 rw [pin_eq]
 show IntKind.i64.wrap ((BitVec.ofInt 64 a &&& BitVec.ofInt 64 3).toNat : Int) = _
 rw [e,iw (by omega) (by omega)]
 omega
def qq (d : ByteArray) (i : Nat) (k : Int) : Int := andI .i64 (shrI .i64 (wrap64 (bu d ((i : Nat) : Int))) k) 3
theorem qq_in (d : ByteArray) (i : Nat) (k : Int) : 0 ≤ qq d i k ∧ qq d i k ≤ 3 := and3 _
def qs (d : ByteArray) : List Int := [qq d 0 6,qq d 0 4,qq d 0 2,qq d 0 0,qq d 1 6,qq d 1 4,qq d 1 2,qq d 1 0]
def qsum (d : ByteArray) : Int := qq d 0 6 + qq d 0 4 + qq d 0 2 + qq d 0 0 + qq d 1 6 + qq d 1 4 + qq d 1 2 + qq d 1 0
theorem qsum_in (d : ByteArray) : 0 ≤ qsum d ∧ qsum d ≤ 24 := by
 have a1 := qq_in d 0 6
 have a2 := qq_in d 0 4
 have a3 := qq_in d 0 2
 have a4 := qq_in d 0 0
 have a5 := qq_in d 1 6
 have a6 := qq_in d 1 4
 have a7 := qq_in d 1 2
 have a8 := qq_in d 1 0
 unfold qsum
 omega
def fQ (t : ByteArray) : List Int := qs (dig t) ++ [(24 - qsum (dig t)) / 16,(24 - qsum (dig t)) / 4 % 4,(24 - qsum (dig t)) % 4]
theorem fQ_len (t : ByteArray) : (fQ t).length = 11 := rfl
theorem fQ_in (t : ByteArray) : ∀ x ∈ fQ t,0 ≤ x ∧ x ≤ 3 := by
 have hs := qsum_in (dig t)
 intro x hx
 unfold fQ qs at hx
 simp only [List.cons_append,List.nil_append,List.mem_cons,List.not_mem_nil,or_false] at hx
 rcases hx with rfl | rfl | rfl | rfl | rfl | rfl | rfl | rfl | rfl | rfl | rfl
 all_goals first | exact qq_in _ _ _ | omega
theorem spec_q {N : Nat} {Ω : Type} (kx kr) (g) (d : ByteArray) (hd : d.size = 32) (s4 : List Int) (h4 : s4.length ≤ 100) (s5 : Int) (h5 : 0 ≤ s5) (h5' : s5 ≤ 100) {i : Nat} (hi : i < 2) {k : Int} (hk0 : 0 ≤ k) (hk1 : k ≤ 6) :
  B_f55_L2 (Ω := Ω) N kx kr g (d,s4,s5,((i : Nat) : Int),k) = g (d,s4 ++ [qq d i k],s5 + qq d i k,((i : Nat) : Int),k - 2) := by
 have hq := qq_in d i k
 have e1 : k % 18446744073709551616 = k := by omega
 unfold B_f55_L2
 simp only [dT hk0,hd,bn (show i < 32 by omega),e1,List.length_singleton,dT (show (s4.length + 1) * 8 ≤ 140737488355328 by omega),cond_true,w64 (x := k - 2) (by omega) (by omega)]
 show g (d,s4 ++ [qq d i k],wrap64 (s5 + qq d i k),_,_) = _
 rw [w64 (by omega) (by omega)]
theorem spec_q4 {N M : Nat} {Ω : Type} (kx kr) (d : ByteArray) (hd : d.size = 32) (s4 : List Int) (h4 : s4.length ≤ 50) (s5 : Int) (h5 : 0 ≤ s5) (h5' : s5 ≤ 50) {i : Nat} (hi : i < 2) :
  iter (B_f55_L2 (Ω := Ω) N kx kr) (M + 5) (d,s4,s5,((i : Nat) : Int),(6:Int)) = kx (d,(((s4 ++ [qq d i 6]) ++ [qq d i 4]) ++ [qq d i 2]) ++ [qq d i 0],s5 + qq d i 6 + qq d i 4 + qq d i 2 + qq d i 0,((i : Nat) : Int)) := by
 have a1 := qq_in d i 6
 have a2 := qq_in d i 4
 have a3 := qq_in d i 2
 have a4 := qq_in d i 0
 rw [iter_succ,spec_q kx kr _ d hd s4 (by omega) s5 h5 (by omega) hi (k := 6) (by omega) (by omega),show (6:Int) - 2 = 4 from rfl,
  iter_succ,spec_q kx kr _ d hd _ (by simp; omega) _ (by omega) (by omega) hi (k := 4) (by omega) (by omega),show (4:Int) - 2 = 2 from rfl,
  iter_succ,spec_q kx kr _ d hd _ (by simp; omega) _ (by omega) (by omega) hi (k := 2) (by omega) (by omega),show (2:Int) - 2 = 0 from rfl,
  iter_succ,spec_q kx kr _ d hd _ (by simp; omega) _ (by omega) (by omega) hi (k := 0) (by omega) (by omega),show (0:Int) - 2 = -2 from rfl,iter_succ]
 rfl
theorem spec_Quads {N : Nat} (hN : 1000000 < N) (t : ByteArray) (ht : t.size ≤ 4194304) : x_f55 N t = some (fQ t) := by
 unfold x_f55
 rw [spec_Digest hN t ht,Option.bind_some]
 have hd := dig_size t
 have hs := qsum_in (dig t)
 unfold fQ
 generalize dig t = d at hd hs
 have a1 := qq_in d 0 6
 have a2 := qq_in d 0 4
 have a3 := qq_in d 0 2
 have a4 := qq_in d 0 0
 have b0 := fun kx kr => spec_q4 (N := N) (M := N - 5) (Ω := List Int) kx kr d hd [] (by simp) 0 (by omega) (by omega) (i := 0) (by omega)
 have b1 := fun kx kr => spec_q4 (N := N) (M := N - 5) (Ω := List Int) kx kr d hd [qq d 0 6,qq d 0 4,qq d 0 2,qq d 0 0] (by simp) (0 + qq d 0 6 + qq d 0 4 + qq d 0 2 + qq d 0 0) (by omega) (by omega) (i := 1) (by omega)
 rw [sub_add (show 5 ≤ N by omega)] at b0 b1
 have key : ∀ (K : Nat) kx kr,iter (B_f55_L0 (Ω := List Int) N kx kr) (K + 3) (d,[],(0:Int),(0:Int)) = kx (qs d,qsum d) := fun K kx kr => by
  rw [iter_succ]
  refine (b0 _ _).trans ?_
  show iter (B_f55_L0 N kx kr) (K + 2) (d,[qq d 0 6,qq d 0 4,qq d 0 2,qq d 0 0],0 + qq d 0 6 + qq d 0 4 + qq d 0 2 + qq d 0 0,wrap64 (((0 : Nat) : Int) + 1)) = _
  rw [ix1 (m := 0) (by omega),iter_succ]
  refine (b1 _ _).trans ?_
  show iter (B_f55_L0 N kx kr) (K + 1) (d,qs d,0 + qq d 0 6 + qq d 0 4 + qq d 0 2 + qq d 0 0 + qq d 1 6 + qq d 1 4 + qq d 1 2 + qq d 1 0,wrap64 (((1 : Nat) : Int) + 1)) = _
  rw [ix1 (m := 1) (by omega),iter_succ]
  show kx (qs d,0 + qq d 0 6 + qq d 0 4 + qq d 0 2 + qq d 0 0 + qq d 1 6 + qq d 1 4 + qq d 1 2 + qq d 1 0) = _
  rw [Int.zero_add]; rfl
 have k3 := fun kx kr => key (N - 3) kx kr
 rw [sub_add (show 3 ≤ N by omega)] at k3
 rw [k3]
 generalize qsum d = q at hs
 show some (qs d ++ [wrap64 ((wrap64 (24 - q)).tdiv 16),((wrap64 ((wrap64 (24 - q)).tdiv 4)).tmod 4),((wrap64 (24 - q)).tmod 4)]) = _
 rw [w64 (x := 24 - q) (by omega) (by omega),Int.tdiv_eq_ediv_of_nonneg (by omega),Int.tdiv_eq_ediv_of_nonneg (by omega),w64 (x := (24 - q) / 16) (by omega) (by omega),w64 (x := (24 - q) / 4) (by omega) (by omega),Int.tmod_eq_emod_of_nonneg (by omega),Int.tmod_eq_emod_of_nonneg (by omega)]
theorem impl_q {N : Nat} {Ω : Type} (kx kr) (g) (d : ByteArray) (L : List Int) (s4 : List Int) (h4 : s4.length ≤ 100) (s5 : Int) (h5 : -100 ≤ s5) (h5' : s5 ≤ 100) {i : Nat} (s16 s17 : Int) {k : Int} (hk0 : 0 ≤ k) (hk1 : k ≤ 6) :
  B_f8_L2 (Ω := Ω) N kx kr g (s4,s5,bu d ((i : Nat) : Int),k,L,s16,s17) = g (s4 ++ [qq d i k],s5 - qq d i k,bu d ((i : Nat) : Int),k - 2,L,s16,s17) := by
 have hq := qq_in d i k
 unfold B_f8_L2
 simp only [dT hk0,List.length_singleton,dT (show (s4.length + 1) * 8 ≤ 140737488355328 by omega),cond_true,w64 (x := k - 2) (by omega) (by omega)]
 show g (s4 ++ [qq d i k],wrap64 (s5 - qq d i k),_,_,_,_,_) = _
 rw [w64 (by omega) (by omega)]
theorem impl_q4 {N M : Nat} {Ω : Type} (kx kr) (d : ByteArray) (L : List Int) (s4 : List Int) (h4 : s4.length ≤ 50) (s5 : Int) (h5 : -50 ≤ s5) (h5' : s5 ≤ 50) {i : Nat} (s16 s17 : Int) :
  iter (B_f8_L2 (Ω := Ω) N kx kr) (M + 5) (s4,s5,bu d ((i : Nat) : Int),(6:Int),L,s16,s17) = kx ((((s4 ++ [qq d i 6]) ++ [qq d i 4]) ++ [qq d i 2]) ++ [qq d i 0],s5 - qq d i 6 - qq d i 4 - qq d i 2 - qq d i 0,L,s16,s17) := by
 have a1 := qq_in d i 6
 have a2 := qq_in d i 4
 have a3 := qq_in d i 2
 have a4 := qq_in d i 0
 rw [iter_succ,impl_q kx kr _ d L s4 (by omega) s5 (by omega) (by omega) s16 s17 (k := 6) (by omega) (by omega),show (6:Int) - 2 = 4 from rfl,
  iter_succ,impl_q kx kr _ d L _ (by simp; omega) _ (by omega) (by omega) s16 s17 (k := 4) (by omega) (by omega),show (4:Int) - 2 = 2 from rfl,
  iter_succ,impl_q kx kr _ d L _ (by simp; omega) _ (by omega) (by omega) s16 s17 (k := 2) (by omega) (by omega),show (2:Int) - 2 = 0 from rfl,
  iter_succ,impl_q kx kr _ d L _ (by simp; omega) _ (by omega) (by omega) s16 s17 (k := 0) (by omega) (by omega),show (0:Int) - 2 = -2 from rfl,iter_succ]
 rfl
theorem impl_Quads {N : Nat} (hN : 1000000 < N) (t : ByteArray) (ht : t.size ≤ 4194304) : x_f8 N t = some (fQ t) := by
 unfold x_f8
 rw [impl_Digest hN t ht,Option.bind_some]
 have hd := dig_size t
 have hs := qsum_in (dig t)
 unfold fQ
 generalize dig t = d at hd hs
 have a1 := qq_in d 0 6
 have a2 := qq_in d 0 4
 have a3 := qq_in d 0 2
 have a4 := qq_in d 0 0
 have hL : byteL (d.extract (0:Int).toNat (2:Int).toNat) = [bu d ((0 : Nat) : Int),bu d ((1 : Nat) : Int)] := by
  rw [byteL_ext,bu_at,bu_at]
  have hl : (byteL d).length = 32 := by rw [byteL_len,hd]
  show ((byteL d).drop 0).take 2 = _
  match byteL d,hl with
  | a :: b :: l,_ => rfl
 rw [hd,show inB (0:Int) (2:Int) ((32 : Nat) : Int) = true from rfl,cond_true,hL]
 have b0 := fun kx kr => impl_q4 (N := N) (M := N - 5) (Ω := List Int) kx kr d [bu d ((0 : Nat) : Int),bu d ((1 : Nat) : Int)] [] (by simp) 24 (by omega) (by omega) (i := 0) 2 0
 have b1 := fun kx kr => impl_q4 (N := N) (M := N - 5) (Ω := List Int) kx kr d [bu d ((0 : Nat) : Int),bu d ((1 : Nat) : Int)] [qq d 0 6,qq d 0 4,qq d 0 2,qq d 0 0] (by simp) (24 - qq d 0 6 - qq d 0 4 - qq d 0 2 - qq d 0 0) (by omega) (by omega) (i := 1) 2 1
 rw [sub_add (show 5 ≤ N by omega)] at b0 b1
 have key : ∀ (K : Nat) kx kr,iter (B_f8_L0 (Ω := List Int) N kx kr) (K + 3) ([],(24:Int),[bu d ((0 : Nat) : Int),bu d ((1 : Nat) : Int)],(2:Int),(0:Int)) = kx (qs d,24 - qsum d) := fun K kx kr => by
  rw [iter_succ]
  refine (b0 _ _).trans ?_
  show iter (B_f8_L0 N kx kr) (K + 2) ([qq d 0 6,qq d 0 4,qq d 0 2,qq d 0 0],24 - qq d 0 6 - qq d 0 4 - qq d 0 2 - qq d 0 0,[bu d ((0 : Nat) : Int),bu d ((1 : Nat) : Int)],(2:Int),wrap64 ((0:Int) + 1)) = _
  rw [show wrap64 ((0:Int) + 1) = 1 from ix1 (m := 0) (by omega),iter_succ]
  refine (b1 _ _).trans ?_
  show iter (B_f8_L0 N kx kr) (K + 1) (qs d,24 - qq d 0 6 - qq d 0 4 - qq d 0 2 - qq d 0 0 - qq d 1 6 - qq d 1 4 - qq d 1 2 - qq d 1 0,[bu d ((0 : Nat) : Int),bu d ((1 : Nat) : Int)],(2:Int),wrap64 ((1:Int) + 1)) = _
  rw [show wrap64 ((1:Int) + 1) = 2 from ix1 (m := 1) (by omega),iter_succ]
  show kx (qs d,24 - qq d 0 6 - qq d 0 4 - qq d 0 2 - qq d 0 0 - qq d 1 6 - qq d 1 4 - qq d 1 2 - qq d 1 0) = _
  have e : 24 - qq d 0 6 - qq d 0 4 - qq d 0 2 - qq d 0 0 - qq d 1 6 - qq d 1 4 - qq d 1 2 - qq d 1 0 = 24 - qsum d := by unfold qsum; omega
  rw [e]
 have k3 := fun kx kr => key (N - 3) kx kr
 rw [sub_add (show 3 ≤ N by omega)] at k3
 refine (k3 _ _).trans ?_
 generalize qsum d = q at hs
 show some (qs d ++ [andI .i64 (shrI .i64 (24 - q) ((4 : Nat) : Int)) 3,andI .i64 (shrI .i64 (24 - q) ((2 : Nat) : Int)) 3,andI .i64 (24 - q) 3]) = _
 rw [shr_div (by omega) (by omega),shr_div (by omega) (by omega),and3_mod (by omega) (by omega),and3_mod (by omega) (by omega),and3_mod (by omega) (by omega)]
 rw [show ((24:Int) - q) / 2 ^ 4 % 4 = (24 - q) / 16 by omega,show ((24:Int) - q) / 2 ^ 2 % 4 = (24 - q) / 4 % 4 by omega]
end Go.Proofs.YtflmdpbhmmohiaaGreat.C
namespace Go.Proofs.YtflmdpbhmmohiaaGreat.C
open Go Go.Proofs.YtflmdpbhmmohiaaGreat.Nx Go.RowKit
set_option linter.unusedVariables false
set_option linter.unusedSimpArgs false
set_option maxRecDepth 100000
/-! Signatures. -/
theorem spec_mod_sg (N : Nat) (x : Int) : x_f90 N x = some (x % 256) := by
 unfold x_f90
 rw [Int.tmod_eq_emod]
 by_cases h : 0 ≤ x ∨ (256:Int) ∣ x
 ·rw [if_pos h,dF (by omega)]; simp
 ·rw [if_neg h,dT (by simp; omega),cond_true,w64 (by simp; omega) (by simp; omega)]
  simp
theorem impl_place_sg (N : Nat) (x : Int) : x_f26 N x = some (x % 256) := by
 unfold x_f26
 have h0 : x.tmod 256 = x % 256 - (if 0 ≤ x ∨ (256:Int) ∣ x then (0:Int) else 256) := by rw [Int.tmod_eq_emod]; split <;> rfl
 rw [h0]
 by_cases h : 0 ≤ x ∨ (256:Int) ∣ x
 ·rw [if_pos h,w64 (by omega) (by omega),Int.tmod_eq_emod,if_pos (.inl (by omega))]
  congr 1; omega
 ·rw [if_neg h,w64 (by omega) (by omega),Int.tmod_eq_emod,if_pos (.inl (by omega))]
  congr 1; omega
def fSeed (x : Int) : Int := 7 * (x % 256) + 1000
theorem spec_Seed (N : Nat) (x : Int) : x_f62 N x = some (fSeed x) := by
 unfold x_f62 fSeed
 rw [spec_mod_sg,Option.bind_some,w64 (x := 7 * (x % 256)) (by omega) (by omega),w64 (x := 7 * (x % 256) + 1000) (by omega) (by omega)]
theorem impl_Seed (N : Nat) (x : Int) : x_f15 N x = some (fSeed x) := by
 unfold x_f15 fSeed
 rw [impl_place_sg,Option.bind_some,w64 (x := 7 * (x % 256)) (by omega) (by omega),w64 (x := 7 * (x % 256) + 1000) (by omega) (by omega)]
theorem fSeed_in (x : Int) : inR (fSeed x) 0 1000000 = true := by
 unfold inR fSeed
 simp only [Bool.and_eq_true,decide_eq_true_eq]
 omega
def endF (N : Nat) (seed leaf : Int) (q : List Int) (j : Nat) : ByteArray := fCh (fSec N seed leaf ((j : Nat) : Int)) (q.getD j 0)
def ends (N : Nat) (seed leaf : Int) (q : List Int) (i : Nat) : List ByteArray := (List.range i).map (endF N seed leaf q)
theorem ends_len (N : Nat) (seed leaf : Int) (q : List Int) (i : Nat) : (ends N seed leaf q i).length = i := by simp [ends]
theorem ends_succ (N : Nat) (seed leaf : Int) (q : List Int) (i : Nat) : ends N seed leaf q (i + 1) = ends N seed leaf q i ++ [endF N seed leaf q i] := by simp [ends,List.range_succ]
def fWay (N : Nat) (seed : Int) : Nat → List ByteArray
 | 0 => [fLeaf N seed 1,nd (fLeaf N seed 2) (fLeaf N seed 3)]
 | 1 => [fLeaf N seed 0,nd (fLeaf N seed 2) (fLeaf N seed 3)]
 | 2 => [fLeaf N seed 3,nd (fLeaf N seed 0) (fLeaf N seed 1)]
 | _ => [fLeaf N seed 2,nd (fLeaf N seed 0) (fLeaf N seed 1)]
theorem spec_S0 {N : Nat} (hN : Big N) {Ω : Type} (kx kr) (seed leaf : Int) (z : Den tSignature) (q : List Int) (hq : q.length = 11) :
  iter (B_f63_L0 (Ω := Ω) N kx kr) N (seed,leaf,z,(leaf,[],[]),q,(0:Int)) = kx (seed,leaf,z,(leaf,ends N seed leaf q 11,[])) := by
 have hN' : 1099511627776 ≤ N := hN
 refine iter_cnt (fun i => (seed,leaf,z,(leaf,ends N seed leaf q i,[]),q,((i : Nat) : Int))) 11 (fun i rec_ hi => ?_) (fun rec_ => ?_) (by omega)
 ·show B_f63_L0 N kx kr rec_ (seed,leaf,z,(leaf,ends N seed leaf q i,[]),q,((i : Nat) : Int)) = rec_ (seed,leaf,z,(leaf,ends N seed leaf q (i + 1),[]),q,((i + 1 : Nat) : Int))
  have h3 := fSec_size N seed leaf ((i : Nat) : Int)
  unfold B_f63_L0
  simp only [dT (show ((i : Nat) : Int) < 11 by omega),hq,bn (show i < 11 by omega),cond_true,spec_Sec hN,Option.bind_some,Int.toNat_natCast,spec_Chain (show 1000000 < N by omega) (fSec N seed leaf ((i : Nat) : Int)) (by omega),ends_len,List.length_singleton,dT (show (i + 1) * 16 ≤ 140737488355328 by omega),ix1 (show i < 1000 by omega),ends_succ]
  rfl
 ·rfl
theorem impl_S0 {N : Nat} (hN : Big N) {Ω : Type} (kx kr) (seed leaf : Int) (z : Den tSignature) (q : List Int) (hq : q.length = 11) :
  iter (B_f18_L0 (Ω := Ω) N kx kr) N (seed,leaf,z,(leaf,[],[]),q,(11:Int),(0:Int)) = kx (seed,leaf,z,(leaf,ends N seed leaf q 11,[])) := by
 have hN' : 1099511627776 ≤ N := hN
 refine iter_cnt (fun i => (seed,leaf,z,(leaf,ends N seed leaf q i,[]),q,(11:Int),((i : Nat) : Int))) 11 (fun i rec_ hi => ?_) (fun rec_ => ?_) (by omega)
 ·show B_f18_L0 N kx kr rec_ (seed,leaf,z,(leaf,ends N seed leaf q i,[]),q,(11:Int),((i : Nat) : Int)) = rec_ (seed,leaf,z,(leaf,ends N seed leaf q (i + 1),[]),q,(11:Int),((i + 1 : Nat) : Int))
  have h3 := fSec_size N seed leaf ((i : Nat) : Int)
  unfold B_f18_L0
  simp only [dT (show ((i : Nat) : Int) < 11 by omega),hq,bn (show i < 11 by omega),cond_true,impl_Sec hN,Option.bind_some,Int.toNat_natCast,impl_Chain (show 1000000 < N by omega) (fSec N seed leaf ((i : Nat) : Int)) (by omega),ends_len,List.length_singleton,dT (show (i + 1) * 16 ≤ 140737488355328 by omega),ix1 (show i < 1000 by omega),ends_succ]
  rfl
 ·rfl
theorem spec_S2 {N M : Nat} {Ω : Type} (kx kr) (seed : Int) (z : Den tSignature) (a : Int) (e : List ByteArray) : ∀ l,l < 4 →
  iter (B_f63_L2 (Ω := Ω) N kx kr) (M + 3) (z,(a,e,[]),fRows N seed,((l : Nat) : Int),(0:Int)) = kx (z,(a,e,fWay N seed l)) := by
 intro l hl
 obtain rfl | rfl | rfl | rfl : l = 0 ∨ l = 1 ∨ l = 2 ∨ l = 3 := by omega
 all_goals kernel_rfl
theorem impl_S2 {N M : Nat} {Ω : Type} (kx kr) (seed : Int) (z : Den tSignature) (a : Int) (e : List ByteArray) : ∀ l,l < 4 →
  iter (B_f18_L2 (Ω := Ω) N kx kr) (M + 3) (z,(a,e,[]),fRows N seed,((l : Nat) : Int),(0:Int)) = kx (z,(a,e,fWay N seed l)) := by
 intro l hl
 obtain rfl | rfl | rfl | rfl : l = 0 ∨ l = 1 ∨ l = 2 ∨ l = 3 := by omega
 all_goals kernel_rfl
def fSign (N : Nat) (seed leaf : Int) (t : ByteArray) : Den tSignature × Bool :=
 bif inR leaf 0 3 && inR seed 0 1000000 then ((leaf,ends N seed leaf (fQ t) 11,fWay N seed leaf.toNat),true) else (((0:Int),[],[]),false)
theorem spec_Sign {N : Nat} (hN : Big N) (seed leaf : Int) (t : ByteArray) (ht : t.size ≤ 4194304) : x_f63 N seed leaf t = some (fSign N seed leaf t) := by
 have hN' : 1099511627776 ≤ N := hN
 unfold x_f63 x_f82 fSign
 rw [l01In_eq,l01In_eq]
 simp only [Option.bind_some]
 cases h1 : inR leaf 0 3 with
 | false => rfl
 | true =>
  cases h2 : inR seed 0 1000000 with
  | false => rfl
  | true =>
   have g1 := inR_le h1
   obtain ⟨l,rfl⟩ := Int.eq_ofNat_of_zero_le g1.1
   simp only [Bool.not_true,cond_false,Bool.and_self,cond_true]
   rw [spec_Quads (by omega) t ht,Option.bind_some]
   refine (spec_S0 hN _ _ seed ((l : Nat) : Int) _ (fQ t) (fQ_len t)).trans ?_
   show (x_f85 N seed).bind _ = _
   rw [spec_Rows hN,Option.bind_some]
   have := fun kx kr => spec_S2 (M := N - 3) (N := N) (Ω := Den tSignature × Bool) kx kr seed ((0:Int),[],[]) ((l : Nat) : Int) (ends N seed ((l : Nat) : Int) (fQ t) 11) l (by omega)
   rw [sub_add (show 3 ≤ N by omega)] at this
   exact this _ _
theorem impl_Sign {N : Nat} (hN : Big N) (seed leaf : Int) (t : ByteArray) (ht : t.size ≤ 4194304) : x_f18 N seed leaf t = some (fSign N seed leaf t) := by
 have hN' : 1099511627776 ≤ N := hN
 unfold x_f18 fSign
 rw [in_eq,in_eq]
 simp only [Option.bind_some]
 cases h1 : inR leaf 0 3 with
 | false => rfl
 | true =>
  cases h2 : inR seed 0 1000000 with
  | false => rfl
  | true =>
   have g1 := inR_le h1
   obtain ⟨l,rfl⟩ := Int.eq_ofNat_of_zero_le g1.1
   simp only [Bool.not_true,cond_false,Bool.and_self,cond_true]
   rw [impl_Quads (by omega) t ht,Option.bind_some,fQ_len]
   refine (impl_S0 hN _ _ seed ((l : Nat) : Int) _ (fQ t) (fQ_len t)).trans ?_
   show (x_f25 N seed).bind _ = _
   rw [impl_Rows hN,Option.bind_some]
   have := fun kx kr => impl_S2 (M := N - 3) (N := N) (Ω := Den tSignature × Bool) kx kr seed ((0:Int),[],[]) ((l : Nat) : Int) (ends N seed ((l : Nat) : Int) (fQ t) 11) l (by omega)
   rw [sub_add (show 3 ≤ N by omega)] at this
   exact this _ _
/-! Signed by. -/
def catE (e : List ByteArray) (q : List Int) : Nat → ByteArray
 | 0 => ByteArray.empty
 | i + 1 => catE e q i ++ fCh (e.getD i ByteArray.empty) (3 - q.getD i 0)
theorem getD_size {e : List ByteArray} (h : eights e = true) (i : Nat) : (e.getD i ByteArray.empty).size ≤ 8 := by
 by_cases hi : i < e.length
 ·have : e.getD i ByteArray.empty = e[i] := by simp [List.getD,hi]
  rw [this]
  have := List.all_eq_true.1 h _ (List.getElem_mem hi)
  simp at this
  omega
 ·have : e.getD i ByteArray.empty = ByteArray.empty := by simp [List.getD,List.getElem?_eq_none (Nat.le_of_not_lt hi)]
  rw [this]; decide
theorem catE_size {e : List ByteArray} (h : eights e = true) (q : List Int) : ∀ i,(catE e q i).size ≤ 16 * i
 | 0 => Nat.zero_le _
 | i + 1 => by
  have h1 := catE_size h q i
  have h2 := fCh_size (e.getD i ByteArray.empty) (3 - q.getD i 0)
  have h3 := getD_size h i
  rw [catE,ByteArray.size_append]; omega
theorem spec_B0 {N : Nat} (hN : Big N) {Ω : Type} (kx kr) (key : ByteArray) (s : Den tSignature) (q : List Int) (hq : q.length = 11) (hqi : ∀ x ∈ q,0 ≤ x ∧ x ≤ 3) (hs : s.2.1.length = 11) (he : eights s.2.1 = true) :
  iter (B_f64_L0 (Ω := Ω) N kx kr) N (key,s,q,(⟨#[108]⟩ : ByteArray),(0:Int)) = kx (key,s,kL ++ catE s.2.1 q 11) := by
 have hN' : 1099511627776 ≤ N := hN
 have hk : kL.size = 1 := rfl
 refine (congrArg (iter _ N) (show (key,s,q,(⟨#[108]⟩ : ByteArray),(0:Int)) = (key,s,q,kL ++ catE s.2.1 q 0,((0 : Nat) : Int)) by rw [catE,ByteArray.append_empty]; rfl)).trans ?_
 refine iter_cnt (fun i => (key,s,q,kL ++ catE s.2.1 q i,((i : Nat) : Int))) 11 (fun i rec_ hi => ?_) (fun rec_ => ?_) (by omega)
 ·show B_f64_L0 N kx kr rec_ (key,s,q,kL ++ catE s.2.1 q i,((i : Nat) : Int)) = rec_ (key,s,q,kL ++ catE s.2.1 q (i + 1),((i + 1 : Nat) : Int))
  have h1 := catE_size he q i
  have h2 := fCh_size (s.2.1.getD i ByteArray.empty) (3 - q.getD i 0)
  have h3 := getD_size he i
  have h4 : 0 ≤ q.getD i 0 ∧ q.getD i 0 ≤ 3 := by
   have : q.getD i 0 = q[i] := by simp [List.getD,show i < q.length by omega]
   rw [this]; exact hqi _ (List.getElem_mem _)
  unfold B_f64_L0
  simp only [dT (show ((i : Nat) : Int) < 11 by omega),hs,hq,bn (show i < 11 by omega),cond_true,Int.toNat_natCast,w64 (x := 3 - q.getD i 0) (by omega) (by omega),spec_Chain (show 1000000 < N by omega) (s.2.1.getD i ByteArray.empty) (by omega),Option.bind_some,ByteArray.size_append,hk,dT (show 1 + (catE s.2.1 q i).size + (fCh (s.2.1.getD i ByteArray.empty) (3 - q.getD i 0)).size ≤ 4611686018427387904 by omega),ix1 (show i < 1000 by omega),catE,ByteArray.append_assoc]
 ·rfl
theorem impl_B0 {N : Nat} (hN : Big N) {Ω : Type} (kx kr) (key : ByteArray) (s : Den tSignature) (q : List Int) (hq : q.length = 11) (hqi : ∀ x ∈ q,0 ≤ x ∧ x ≤ 3) (hs : s.2.1.length = 11) (he : eights s.2.1 = true) :
  iter (B_f19_L0 (Ω := Ω) N kx kr) N (key,s,ByteArray.empty,q,(11:Int),(0:Int)) = kx (key,s,catE s.2.1 q 11) := by
 have hN' : 1099511627776 ≤ N := hN
 refine iter_cnt (fun i => (key,s,catE s.2.1 q i,q,(11:Int),((i : Nat) : Int))) 11 (fun i rec_ hi => ?_) (fun rec_ => ?_) (by omega)
 ·show B_f19_L0 N kx kr rec_ (key,s,catE s.2.1 q i,q,(11:Int),((i : Nat) : Int)) = rec_ (key,s,catE s.2.1 q (i + 1),q,(11:Int),((i + 1 : Nat) : Int))
  have h1 := catE_size he q i
  have h2 := fCh_size (s.2.1.getD i ByteArray.empty) (3 - q.getD i 0)
  have h3 := getD_size he i
  have h4 : 0 ≤ q.getD i 0 ∧ q.getD i 0 ≤ 3 := by
   have : q.getD i 0 = q[i] := by simp [List.getD,show i < q.length by omega]
   rw [this]; exact hqi _ (List.getElem_mem _)
  unfold B_f19_L0
  simp only [dT (show ((i : Nat) : Int) < 11 by omega),hs,hq,bn (show i < 11 by omega),cond_true,Int.toNat_natCast,w64 (x := 3 - q.getD i 0) (by omega) (by omega),impl_Chain (show 1000000 < N by omega) (s.2.1.getD i ByteArray.empty) (by omega),Option.bind_some,dT (show (catE s.2.1 q i).size + (fCh (s.2.1.getD i ByteArray.empty) (3 - q.getD i 0)).size ≤ 4611686018427387904 by omega),ix1 (show i < 1000 by omega),catE]
 ·rfl
def fUp (t w : ByteArray) (l : Nat) : ByteArray := bif decide (l % 2 = 0) then nd t w else nd w t
theorem fUp_size (t w : ByteArray) (l : Nat) : (fUp t w l).size = 8 := by
 unfold fUp
 cases decide (l % 2 = 0) <;> exact nd_size _ _
theorem tm2 (l : Nat) : decide ((((l : Nat) : Int).tmod 2) = 0) = decide (l % 2 = 0) := by
 rw [Int.tmod_eq_emod_of_nonneg (by omega)]
 by_cases h : l % 2 = 0
 ·rw [dT h,dT (by omega)]
 ·rw [dF h,dF (by omega)]
theorem td2 {l : Nat} (hl : l < 1000) : wrap64 (((l : Nat) : Int).tdiv 2) = ((l / 2 : Nat) : Int) := by
 rw [Int.tdiv_eq_ediv_of_nonneg (by omega),w64 (by omega) (by omega)]; omega
theorem spec_B2s {N : Nat} (hN : 1000000 < N) {Ω : Type} (kx kr) (g) (key : ByteArray) (s : Den tSignature) {t w : ByteArray} (ht : t.size = 8) (hw : w.size = 8) {l : Nat} (hl : l < 1000) {i : Nat} (hi : i < 2) (h2 : s.2.2.length = 2) (hwi : s.2.2.getD i ByteArray.empty = w) :
  B_f64_L2 (Ω := Ω) N kx kr g (key,s,t,((l : Nat) : Int),((i : Nat) : Int)) = g (key,s,fUp t w l,((l / 2 : Nat) : Int),((i + 1 : Nat) : Int)) := by
 have hk : (⟨#[110]⟩ : ByteArray).size = 1 := rfl
 unfold B_f64_L2 fUp
 simp only [h2,dT (show ((i : Nat) : Int) < ((2 : Nat) : Int) by omega),tm2,hk,ht,hw,hwi,ByteArray.size_append,bn hi,Int.toNat_natCast,dT (show 1 + 8 ≤ 4611686018427387904 by decide),dT (show 1 + 8 + 8 ≤ 4611686018427387904 by decide),cond_true,spec_nd hN ht hw,spec_nd hN hw ht,Option.bind_some,td2 hl,ix1 (show i < 1000 by omega)]
 cases decide (l % 2 = 0) <;> rfl
theorem impl_B2s {N : Nat} (hN : 1000000 < N) {Ω : Type} (kx kr) (g) (key : ByteArray) (W : List ByteArray) {t w : ByteArray} (ht : t.size = 8) (hw : w.size = 8) {l : Nat} (hl : l < 1000) {i : Nat} (hi : i < 2) (h2 : W.length = 2) (hwi : W.getD i ByteArray.empty = w) :
  B_f19_L2 (Ω := Ω) N kx kr g (key,t,((l : Nat) : Int),W,(2:Int),((i : Nat) : Int)) = g (key,fUp t w l,((l / 2 : Nat) : Int),W,(2:Int),((i + 1 : Nat) : Int)) := by
 unfold B_f19_L2 fUp
 simp only [h2,dT (show ((i : Nat) : Int) < 2 by omega),tm2,ht,hw,hwi,bn hi,Int.toNat_natCast,dT (show 8 + 8 ≤ 4611686018427387904 by decide),cond_true,impl_nd hN ht hw,impl_nd hN hw ht,Option.bind_some,td2 hl,ix1 (show i < 1000 by omega)]
 cases decide (l % 2 = 0) <;> rfl
def fSB (key text : ByteArray) (s : Den tSignature) : Bool :=
 bif formF s then decide (fUp (fUp (fCut (kL ++ catE s.2.1 (fQ text) 11)) (s.2.2.getD 0 ByteArray.empty) s.1.toNat) (s.2.2.getD 1 ByteArray.empty) (s.1.toNat / 2) = key) else false
theorem two {α : Type} {l : List α} (h : l.length = 2) : ∃ a b,l = [a,b] := by
 match l,h with
 | [a,b],_ => exact ⟨a,b,rfl⟩
theorem form_parts {s : Den tSignature} (h : formF s = true) : (∃ l : Nat,s.1 = ((l : Nat) : Int) ∧ l < 4) ∧ s.2.1.length = 11 ∧ s.2.2.length = 2 ∧ eights s.2.1 = true ∧ eights s.2.2 = true := by
 unfold formF at h
 simp only [Bool.and_eq_true,decide_eq_true_eq] at h
 obtain ⟨h1,h2,h3,h4,h5⟩ := h
 have g := inR_le h1
 obtain ⟨l,e⟩ := Int.eq_ofNat_of_zero_le g.1
 exact ⟨⟨l,e,by omega⟩,by omega,by omega,h4,h5⟩
theorem spec_SB {N : Nat} (hN : Big N) (key text : ByteArray) (s : Den tSignature) (ht : text.size ≤ 4194304) (h1 : s.2.1.length ≤ 1048576) (h2 : s.2.2.length ≤ 1048576) : x_f64 N key text s = some (fSB key text s) := by
 have hN' : 1099511627776 ≤ N := hN
 unfold x_f64 fSB
 rw [spec_Form hN s h1 h2,Option.bind_some]
 cases hf : formF s with
 | false => rfl
 | true =>
  obtain ⟨⟨l,e1,e2⟩,e3,e4,e5,e6⟩ := form_parts hf
  have hcs := catE_size e5 (fQ text) 11
  have hk : kL.size = 1 := rfl
  simp only [Bool.not_true,cond_false,cond_true]
  rw [spec_Quads (by omega) text ht,Option.bind_some]
  refine (spec_B0 hN _ _ key s (fQ text) (fQ_len text) (fQ_in text) e3 e5).trans ?_
  show (x_f81 N (kL ++ catE s.2.1 (fQ text) 11)).bind _ = _
  rw [spec_cut (by omega) _ (by rw [ByteArray.size_append,hk]; omega),Option.bind_some]
  obtain ⟨w0,w1,ew⟩ := two e4
  have s0 : w0.size = 8 := by
   have := List.all_eq_true.1 e6 w0 (by rw [ew]; simp)
   simp at this; omega
  have s1 : w1.size = 8 := by
   have := List.all_eq_true.1 e6 w1 (by rw [ew]; simp)
   simp at this; omega
  have g0 : s.2.2.getD 0 ByteArray.empty = w0 := by rw [ew]; rfl
  have g1 : s.2.2.getD 1 ByteArray.empty = w1 := by rw [ew]; rfl
  have hc := fCut_size (kL ++ catE s.2.1 (fQ text) 11)
  generalize fCut (kL ++ catE s.2.1 (fQ text) 11) = t at hc
  have k : ∀ (K : Nat) kx kr,iter (B_f64_L2 (Ω := Bool) N kx kr) (K + 3) (key,s,t,s.1,(0:Int)) = kx (key,fUp (fUp t w0 l) w1 (l / 2)) := fun K kx kr => by
   rw [e1,iter_succ,show (0:Int) = ((0 : Nat) : Int) from rfl,spec_B2s (by omega) kx kr _ key s hc s0 (by omega) (by omega) e4 g0,iter_succ,spec_B2s (by omega) kx kr _ key s (fUp_size t w0 l) s1 (by omega) (by omega) e4 g1,iter_succ]
   unfold B_f64_L2
   simp only [e4,dF (show ¬ ((0 + 1 + 1 : Nat) : Int) < ((2 : Nat) : Int) by omega),cond_false]
  have k3 := fun kx kr => k (N - 3) kx kr
  rw [sub_add (show 3 ≤ N by omega)] at k3
  refine (k3 _ _).trans ?_
  rw [g0,g1,e1,Int.toNat_natCast]
theorem impl_SB {N : Nat} (hN : Big N) (key text : ByteArray) (s : Den tSignature) (ht : text.size ≤ 4194304) (h1 : s.2.1.length ≤ 1048576) (h2 : s.2.2.length ≤ 1048576) : x_f19 N key text s = some (fSB key text s) := by
 have hN' : 1099511627776 ≤ N := hN
 unfold x_f19 fSB
 rw [impl_Form hN s h1 h2,Option.bind_some]
 cases hf : formF s with
 | false => rfl
 | true =>
  obtain ⟨⟨l,e1,e2⟩,e3,e4,e5,e6⟩ := form_parts hf
  have hcs := catE_size e5 (fQ text) 11
  simp only [Bool.not_true,cond_false,cond_true]
  rw [impl_Quads (by omega) text ht,Option.bind_some,fQ_len]
  refine (impl_B0 hN _ _ key s (fQ text) (fQ_len text) (fQ_in text) e3 e5).trans ?_
  show (x_f30 N (108:Int) (catE s.2.1 (fQ text) 11)).bind _ = _
  rw [impl_short (by omega) _ _ (by omega),Option.bind_some,txtL]
  obtain ⟨w0,w1,ew⟩ := two e4
  have s0 : w0.size = 8 := by
   have := List.all_eq_true.1 e6 w0 (by rw [ew]; simp)
   simp at this; omega
  have s1 : w1.size = 8 := by
   have := List.all_eq_true.1 e6 w1 (by rw [ew]; simp)
   simp at this; omega
  have g0 : s.2.2.getD 0 ByteArray.empty = w0 := by rw [ew]; rfl
  have g1 : s.2.2.getD 1 ByteArray.empty = w1 := by rw [ew]; rfl
  have hc := fCut_size (kL ++ catE s.2.1 (fQ text) 11)
  generalize fCut (kL ++ catE s.2.1 (fQ text) 11) = t at hc
  have k : ∀ (K : Nat) kx kr,iter (B_f19_L2 (Ω := Bool) N kx kr) (K + 3) (key,t,s.1,s.2.2,(2:Int),(0:Int)) = kx (key,fUp (fUp t w0 l) w1 (l / 2)) := fun K kx kr => by
   rw [e1,iter_succ,show (0:Int) = ((0 : Nat) : Int) from rfl,impl_B2s (by omega) kx kr _ key s.2.2 hc s0 (by omega) (by omega) e4 g0,iter_succ,impl_B2s (by omega) kx kr _ key s.2.2 (fUp_size t w0 l) s1 (by omega) (by omega) e4 g1,iter_succ]
   unfold B_f19_L2
   simp only [dF (show ¬ ((0 + 1 + 1 : Nat) : Int) < 2 by omega),cond_false]
  have k3 := fun kx kr => k (N - 3) kx kr
  rw [sub_add (show 3 ≤ N by omega)] at k3
  show iter _ N (key,t,s.1,s.2.2,((s.2.2.length : Nat) : Int),(0:Int)) = _
  rw [e4]
  refine (k3 _ _).trans ?_
  rw [g0,g1,e1,Int.toNat_natCast]
/-! Words, signed and verified. -/
def zV : Den tVouched := (((0:Int),((0:Int),(0:Int)),(0:Int),((0:Int),(0:Int)),((0:Int),(0:Int)),(0:Int),(0:Int)),(0:Int),[],[])
def fVF (N : Nat) (c : Den tCred) (leaf : Int) : Den tVouched × Bool :=
 bif credOk c && inR leaf 0 3 then ((c,(fSign N (fSeed c.2.1.1) leaf (ctext N c)).1),true) else (zV,false)
theorem fSign_2 (N : Nat) (x leaf : Int) (t : ByteArray) : (fSign N (fSeed x) leaf t).2 = inR leaf 0 3 := by
 unfold fSign
 rw [fSeed_in,Bool.and_true]
 cases inR leaf 0 3 <;> rfl
theorem spec_VF {N : Nat} (hN : Big N) (c : Den tCred) (hc : smallC c) (leaf : Int) : x_f66 N c leaf = some (fVF N c leaf) := by
 have hN' : 1099511627776 ≤ N := hN
 obtain ⟨t1,t2,t3⟩ := spec_CredText hN c hc
 unfold x_f66 fVF
 simp only [spec_Seed,t1,Option.bind_some]
 rw [credOk_s,Option.bind_some]
 cases credOk c with
 | false => rfl
 | true =>
  simp only [Bool.not_true,cond_false,cond_true,spec_Sign hN _ leaf (ctext N c) (by omega),Option.bind_some,agree_self,Bool.true_and]
  rw [fSign_2]
  cases inR leaf 0 3 <;> rfl
theorem impl_VF {N : Nat} (hN : Big N) (c : Den tCred) (hc : smallC c) (leaf : Int) : x_f21 N c leaf = some (fVF N c leaf) := by
 have hN' : 1099511627776 ≤ N := hN
 obtain ⟨t1,t2,t3⟩ := spec_CredText hN c hc
 have ht : (bif credOk c then ctext N c else ByteArray.empty).size ≤ 1000 := by
  cases credOk c
  ·show ByteArray.empty.size ≤ 1000
   decide
  ·exact t2
 unfold x_f21 fVF
 simp only [impl_Seed,impl_CredText hN c hc,Option.bind_some,impl_Sign hN _ leaf _ (show (bif credOk c then ctext N c else ByteArray.empty).size ≤ 4194304 by omega),agree_self,fSign_2,credOk_i]
 cases inR leaf 0 3 with
 | false => cases credOk c <;> rfl
 | true => cases credOk c <;> rfl
def fVer (N : Nat) (v : Den tVouched) (now : Int) : Bool :=
 bif credOk v.1 then bif decide (now ≤ v.1.2.2.2.2.2.1) then fSB (fKey N (fSeed v.1.2.1.1)) (ctext N v.1) v.2 else false else false
theorem spec_Ver {N : Nat} (hN : Big N) (v : Den tVouched) (hc : smallC v.1) (h1 : v.2.2.1.length ≤ 1048576) (h2 : v.2.2.2.length ≤ 1048576) (now : Int) : x_f65 N v now = some (fVer N v now) := by
 obtain ⟨t1,t2,t3⟩ := spec_CredText hN v.1 hc
 unfold x_f65 fVer
 rw [credOk_s,Option.bind_some]
 cases hk : credOk v.1 with
 | false => rfl
 | true =>
  rw [hk] at t1
  cases decide (now ≤ v.1.2.2.2.2.2.1) with
  | false => rfl
  | true =>
   simp only [cond_true,spec_Seed,Option.bind_some,spec_Key hN,t1,spec_SB hN _ (ctext N v.1) v.2 (by omega) h1 h2]
theorem impl_Ver {N : Nat} (hN : Big N) (v : Den tVouched) (hc : smallC v.1) (h1 : v.2.2.1.length ≤ 1048576) (h2 : v.2.2.2.length ≤ 1048576) (now : Int) : x_f20 N v now = some (fVer N v now) := by
 obtain ⟨t1,t2,t3⟩ := spec_CredText hN v.1 hc
 have t4 := impl_CredText hN v.1 hc
 unfold x_f20 fVer
 rw [credOk_i,Option.bind_some]
 cases hk : credOk v.1 with
 | false => rfl
 | true =>
  rw [hk] at t4
  cases decide (now ≤ v.1.2.2.2.2.2.1) with
  | false => rfl
  | true =>
   simp only [cond_true,impl_Seed,Option.bind_some,impl_Key hN,t4,impl_SB hN _ (ctext N v.1) v.2 (by omega) h1 h2]
end Go.Proofs.YtflmdpbhmmohiaaGreat.C
namespace Go.Proofs.YtflmdpbhmmohiaaGreat.C
open Go Go.Proofs.YtflmdpbhmmohiaaGreat.Nx Go.RowKit
set_option linter.unusedVariables false
set_option linter.unusedSimpArgs false
theorem fWay_ok (N : Nat) (seed : Int) (l : Nat) : (fWay N seed l).length = 2 ∧ ∀ x ∈ fWay N seed l,x.size = 8 := by
 have h : ∀ a b c d : ByteArray,∀ x ∈ [fCut a,nd b c],x.size = 8 := fun a b c d x hx => by
  simp only [List.mem_cons,List.not_mem_nil,or_false] at hx
  rcases hx with rfl | rfl
  ·exact fCut_size _
  ·exact nd_size _ _
 unfold fWay
 split <;> exact ⟨rfl,h _ _ _ ByteArray.empty⟩
theorem ends_ok (N : Nat) (seed leaf : Int) (q : List Int) (i : Nat) : ∀ x ∈ ends N seed leaf q i,x.size ≤ 16 := fun x hx => by
 obtain ⟨j,_,rfl⟩ := List.mem_map.1 hx
 have h1 := fSec_size N seed leaf ((j : Nat) : Int)
 have h2 := fCh_size (fSec N seed leaf ((j : Nat) : Int)) (q.getD j 0)
 unfold endF
 omega
theorem okz_word (c : Den tCred) : okz tCred c := ⟨trivial,⟨trivial,trivial⟩,trivial,⟨trivial,trivial⟩,⟨trivial,trivial⟩,trivial,trivial⟩
theorem fSign_ok (N : Nat) (seed leaf : Int) (t : ByteArray) : okz tSignature (fSign N seed leaf t).1 := by
 unfold fSign
 cases inR leaf 0 3 && inR seed 0 1000000 with
 | false => exact ⟨trivial,⟨Nat.zero_le _,fun x hx => by cases hx⟩,Nat.zero_le _,fun x hx => by cases hx⟩
 | true =>
  obtain ⟨w1,w2⟩ := fWay_ok N seed leaf.toNat
  refine ⟨trivial,⟨?_,fun x hx => ?_⟩,?_,fun x hx => ?_⟩
  ·show (ends N seed leaf (fQ t) 11).length ≤ 1048576
   rw [ends_len]; decide
  ·exact Nat.le_trans (ends_ok N seed leaf (fQ t) 11 x hx) (by decide)
  ·show (fWay N seed leaf.toNat).length ≤ 1048576
   rw [w1]; decide
  ·exact Nat.le_trans (Nat.le_of_eq (w2 x hx)) (by decide)
theorem fVF_ok (N : Nat) (c : Den tCred) (leaf : Int) : okz tVouched (fVF N c leaf).1 := by
 unfold fVF
 cases credOk c && inR leaf 0 3 with
 | false => exact ⟨okz_word _,trivial,⟨Nat.zero_le _,fun x hx => by cases hx⟩,Nat.zero_le _,fun x hx => by cases hx⟩
 | true => exact ⟨okz_word _,fSign_ok _ _ _ _⟩
end Go.Proofs.YtflmdpbhmmohiaaGreat.C
namespace Go.Proofs.YtflmdpbhmmohiaaGreat.C
open Go Go.Proofs.YtflmdpbhmmohiaaGreat.Nx Go.RowKit
set_option linter.unusedVariables false
set_option linter.unusedSimpArgs false
set_option maxRecDepth 100000
/-! What was told is read back. -/
theorem vtB {N : Nat} (hN : Big N) {n : Int} (h0 : 0 ≤ n) (h1 : n < 16384) : byteL (vt N n) = if n < 128 then [n] else [n % 128 + 128,n / 128] := by
 rw [vt_vl hN h0 (by omega),byteL_txt (vl_in 9 n h0 (Int.lt_of_lt_of_le h1 (by decide)))]
 by_cases h : n < 128
 ·rw [if_pos h,vl,if_neg (by omega)]
 ·rw [if_neg h,vl,if_pos (by omega),vl,if_neg (by omega)]
theorem getD_app (P S : List Int) (x : Int) : (P ++ (x :: S)).getD P.length 0 = x := by simp [List.getD]
theorem rdV_at {N : Nat} (hN : Big N) {t : ByteArray} {P S : List Int} {n : Int} (h0 : 0 ≤ n) (h1 : n < 16384) (ht : byteL t = P ++ (byteL (vt N n) ++ S)) :
  rdV t ((P.length : Nat) : Int) = (n,((P.length + (byteL (vt N n)).length : Nat) : Int),true) := by
 have hl : t.size = P.length + ((byteL (vt N n)).length + S.length) := by rw [← byteL_len,ht]; simp
 unfold rdV
 rw [show inR ((P.length : Nat) : Int) 0 (t.size : Int) = true from by unfold inR; simp; omega,cond_true,Int.toNat_natCast,ht]
 rw [vtB hN h0 h1] at hl ⊢
 by_cases h : n < 128
 ·rw [if_pos h] at hl ⊢
  have g0 : (P ++ ([n] ++ S)).getD (P.length + 0) 0 = n := getD_app P S n
  rw [rvG,if_pos (by simp),g0,if_neg (by omega),if_neg (by simp; omega)]
  simp
 ·rw [if_neg h] at hl ⊢
  have g0 : (P ++ ([n % 128 + 128,n / 128] ++ S)).getD (P.length + 0) 0 = n % 128 + 128 := getD_app P _ _
  have g1 : (P ++ ([n % 128 + 128,n / 128] ++ S)).getD (P.length + (0 + 1)) 0 = n / 128 := by
   have := getD_app (P ++ [n % 128 + 128]) S (n / 128)
   simp at this ⊢
  rw [rvG,if_pos (by simp),g0,if_pos (by omega),rvG,if_pos (by simp),g1,if_neg (by omega),if_neg (by simp; omega)]
  simp only [Prod.mk.injEq,and_true]
  refine ⟨?_,by simp; omega⟩
  simp
  omega
theorem rdS_at {N : Nat} (hN : Big N) {t e : ByteArray} {P S : List Int} (he : e.size < 16384) (ht : byteL t = P ++ (byteL (vt N (e.size : Int)) ++ (byteL e ++ S))) :
  rdS t ((P.length : Nat) : Int) = (e,((P.length + (byteL (vt N (e.size : Int)) ++ byteL e).length : Nat) : Int),true) := by
 have hv := rdV_at hN (t := t) (P := P) (S := byteL e ++ S) (n := (e.size : Int)) (by omega) (by omega) ht
 have hl : t.size = P.length + ((byteL (vt N (e.size : Int))).length + (e.size + S.length)) := by rw [← byteL_len,ht]; simp [byteL_len]
 unfold rdS
 rw [hv]
 simp only [Bool.not_true,cond_false]
 rw [dF (show ¬ (20000:Int) < (e.size : Int) by omega),dF (show ¬ ((t.size : Int) - ((P.length + (byteL (vt N (e.size : Int))).length : Nat) : Int)) < (e.size : Int) by omega),cond_false,cond_false]
 simp only [Prod.mk.injEq,and_true]
 refine ⟨?_,by rw [List.length_append,byteL_len e]; omega⟩
 apply byteL_inj
 rw [byteL_ext,Int.toNat_natCast,show (((P.length + (byteL (vt N (e.size : Int))).length : Nat) : Int) + (e.size : Int)).toNat = P.length + (byteL (vt N (e.size : Int))).length + e.size from by omega,ht,← List.append_assoc,List.drop_left' (by simp),Nat.add_sub_cancel_left,List.take_left' (byteL_len e)]
def bN (N : Nat) (l : List Int) : List Int := l.flatMap fun n => byteL (vt N n)
theorem reads_at {N : Nat} (hN : Big N) {t : ByteArray} {S : List Int} : ∀ (l P : List Int),(∀ n ∈ l,0 ≤ n ∧ n < 16384) → byteL t = P ++ (bN N l ++ S) → reads t l.length ((P.length : Nat) : Int) = some (l,((P.length + (bN N l).length : Nat) : Int))
 | [],P,_,_ => by simp [reads,bN]
 | n :: l,P,hl,ht => by
  have h0 := hl n (by simp)
  have e : bN N (n :: l) = byteL (vt N n) ++ bN N l := rfl
  rw [e,List.append_assoc] at ht
  have hv := rdV_at hN h0.1 h0.2 ht
  have := reads_at hN l (P ++ byteL (vt N n)) (fun m hm => hl m (by simp [hm])) (by rw [ht,List.append_assoc])
  rw [List.length_append] at this
  rw [List.length_cons,reads,hv]
  simp only [cond_true]
  rw [this,e,List.length_append,Nat.add_assoc]
  rfl
def bE (N : Nat) (l : List ByteArray) : List Int := l.flatMap fun e => byteL (vt N (e.size : Int)) ++ byteL e
theorem shorts_at {N : Nat} (hN : Big N) {t : ByteArray} : ∀ (l : List ByteArray) (P : List Int),(∀ e ∈ l,e.size < 16384) → byteL t = P ++ bE N l → shorts t l.length ((P.length : Nat) : Int) = some l
 | [],P,_,_ => rfl
 | e :: l,P,hl,ht => by
  have h0 := hl e (by simp)
  have q : bE N (e :: l) = (byteL (vt N (e.size : Int)) ++ byteL e) ++ bE N l := rfl
  rw [q] at ht
  have hv := rdS_at hN (t := t) (e := e) (P := P) (S := bE N l) h0 (by rw [ht]; simp only [List.append_assoc])
  have := shorts_at hN l (P ++ (byteL (vt N (e.size : Int)) ++ byteL e)) (fun m hm => hl m (by simp [hm])) (by rw [ht]; simp only [List.append_assoc])
  rw [List.length_append] at this
  rw [List.length_cons,shorts,hv]
  simp only [cond_true]
  rw [this]; rfl
theorem catF_bytes (N : Nat) : ∀ (l : List ByteArray) (s : ByteArray),byteL (catF N s l) = byteL s ++ bE N l
 | [],s => by simp [catF,bE]
 | e :: l,s => by
  have h : catF N s (e :: l) = catF N (s ++ (vt N (e.size : Int) ++ e)) l := rfl
  have q : bE N (e :: l) = (byteL (vt N (e.size : Int)) ++ byteL e) ++ bE N l := rfl
  rw [h,catF_bytes N l,q,byteL_app,byteL_app]
  simp only [List.append_assoc]
def numsC (c : Den tCred) : List Int := [c.1,c.2.1.1,c.2.1.2,c.2.2.1,c.2.2.2.1.1,c.2.2.2.1.2,c.2.2.2.2.1.1,c.2.2.2.2.1.2,c.2.2.2.2.2.1,c.2.2.2.2.2.2]
theorem ctext_bytes (N : Nat) (c : Den tCred) : byteL (ctext N c) = bN N (numsC c) := by
 unfold ctext bN numsC
 simp only [byteL_app,List.flatMap_cons,List.flatMap_nil,List.append_nil,List.append_assoc]
theorem credOk_few {c : Den tCred} (h : credOk c = true) : ∀ n ∈ numsC c,0 ≤ n ∧ n < 16384 := by
 obtain ⟨k,⟨w,nm⟩,who,⟨aw,an⟩,⟨bw,bn'⟩,u,x⟩ : Int × (Int × Int) × Int × (Int × Int) × (Int × Int) × Int × Int := c
 have role : ∀ {r : Int × Int},roleOk r = true → (0 ≤ r.1 ∧ r.1 ≤ 5) ∧ 0 ≤ r.2 ∧ r.2 ≤ 3 := fun {r} h => by
  unfold roleOk at h
  simp only [Bool.and_eq_true] at h
  exact ⟨inR_le h.1,inR_le h.2⟩
 have h : (roleOk (w,nm) && (inR u 1 9999 && (inR x 0 99 &&
  (bif decide (k = 1) then inR who 0 5 && ((decide (aw = 0) && decide (an = 0)) && (decide (bw = 0) && decide (bn' = 0)))
   else bif decide (k = 2) then decide (who = 0) && (roleOk (aw,an) && (decide (bw = 0) && decide (bn' = 0)))
   else bif decide (k = 3) then decide (who = 0) && (roleOk (aw,an) && (roleOk (bw,bn') && decide (bw = 0)))
   else bif decide (k = 4) then decide (who = 0) && (roleOk (aw,an) && roleOk (bw,bn'))
   else false)))) = true := h
 simp only [Bool.and_eq_true] at h
 obtain ⟨h1,h2,h3,h4⟩ := h
 have g1 := role h1
 have g2 := inR_le h2
 have g3 := inR_le h3
 have key : (1 ≤ k ∧ k ≤ 4) ∧ (0 ≤ who ∧ who ≤ 5) ∧ ((0 ≤ aw ∧ aw ≤ 5) ∧ 0 ≤ an ∧ an ≤ 5) ∧ (0 ≤ bw ∧ bw ≤ 5) ∧ 0 ≤ bn' ∧ bn' ≤ 5 := by
  by_cases k1 : k = 1
  ·rw [dT k1,cond_true] at h4
   simp only [Bool.and_eq_true,decide_eq_true_eq] at h4
   have := inR_le h4.1
   omega
  ·rw [dF k1,cond_false] at h4
   by_cases k2 : k = 2
   ·rw [dT k2,cond_true] at h4
    simp only [Bool.and_eq_true,decide_eq_true_eq] at h4
    have := role h4.2.1
    omega
   ·rw [dF k2,cond_false] at h4
    by_cases k3 : k = 3
    ·rw [dT k3,cond_true] at h4
     simp only [Bool.and_eq_true,decide_eq_true_eq] at h4
     have := role h4.2.1
     have := role h4.2.2.1
     omega
    ·rw [dF k3,cond_false] at h4
     by_cases k4 : k = 4
     ·rw [dT k4,cond_true] at h4
      simp only [Bool.and_eq_true,decide_eq_true_eq] at h4
      have := role h4.2.1
      have := role h4.2.2
      omega
     ·rw [dF k4] at h4; cases h4
 intro n hn
 have hn : n ∈ [k,w,nm,who,aw,an,bw,bn',u,x] := hn
 simp only [List.mem_cons,List.not_mem_nil,or_false] at hn
 have g1 : (0 ≤ w ∧ w ≤ 5) ∧ 0 ≤ nm ∧ nm ≤ 3 := g1
 rcases hn with rfl | rfl | rfl | rfl | rfl | rfl | rfl | rfl | rfl | rfl <;> omega
theorem credOk_small {c : Den tCred} (h : credOk c = true) : smallC c := fun n hn =>
 Int.le_trans (Int.le_of_lt (credOk_few h n hn).2) (by decide)
theorem rdC_back {N : Nat} (hN : Big N) {c : Den tCred} (h : credOk c = true) : rdC (ctext N c) = (c,true) := by
 have hr := reads_at hN (t := ctext N c) (S := []) (numsC c) [] (credOk_few h) (by rw [ctext_bytes,List.append_nil,List.nil_append])
 unfold rdC
 have hr' : reads (ctext N c) 10 0 = some (numsC c,(((bN N (numsC c)).length : Nat) : Int)) := by
  rw [List.length_nil,Nat.zero_add] at hr
  exact hr
 rw [hr']
 have e : credAt (numsC c) = c := rfl
 simp only [e,h,Bool.and_true]
 rw [dT (by rw [← ctext_bytes,byteL_len])]
 rfl
theorem rdVo_back {N : Nat} (hN : Big N) {v : Den tVouched} (hc : credOk v.1 = true) (hf : formF v.2 = true) : rdVo N (vText N v) = (v,true) := by
 obtain ⟨⟨l,e1,e2⟩,e3,e4,e5,e6⟩ := form_parts hf
 obtain ⟨t1,t2,t3⟩ := spec_CredText hN v.1 (credOk_small hc)
 have hvt : vText N v = vtext N v := by unfold vText; rw [hc,hf]; rfl
 have hb : byteL (vtext N v) = byteL (vt N ((ctext N v.1).size : Int)) ++ (byteL (ctext N v.1) ++ (byteL (vt N v.2.1) ++ bE N (v.2.2.1 ++ v.2.2.2))) := by
  unfold vtext
  rw [catF_bytes,byteL_app,byteL_app]
  simp only [List.append_assoc]
 have s1 := rdS_at hN (t := vtext N v) (e := ctext N v.1) (P := []) (S := byteL (vt N v.2.1) ++ bE N (v.2.2.1 ++ v.2.2.2)) (by omega) (by rw [hb,List.nil_append])
 have e1' : (v.2.1 : Int) = ((l : Nat) : Int) := e1
 have s2 := rdV_at hN (t := vtext N v) (P := byteL (vt N ((ctext N v.1).size : Int)) ++ byteL (ctext N v.1)) (S := bE N (v.2.2.1 ++ v.2.2.2)) (n := v.2.1) (by rw [e1']; omega) (by rw [e1']; omega) (by rw [hb]; simp only [List.append_assoc])
 have sz : ∀ e ∈ v.2.2.1 ++ v.2.2.2,e.size < 16384 := fun e he => by
  have : eights (v.2.2.1 ++ v.2.2.2) = true := eights_app e5 e6
  have := List.all_eq_true.1 this e he
  simp at this
  omega
 have s3 := shorts_at hN (t := vtext N v) (v.2.2.1 ++ v.2.2.2) ((byteL (vt N ((ctext N v.1).size : Int)) ++ byteL (ctext N v.1)) ++ byteL (vt N v.2.1)) sz (by rw [hb]; simp only [List.append_assoc])
 rw [List.length_append,e3,e4] at s3
 rw [hvt]
 unfold rdVo
 have s1' : rdS (vtext N v) 0 = (ctext N v.1,(((byteL (vt N ((ctext N v.1).size : Int)) ++ byteL (ctext N v.1)).length : Nat) : Int),true) := by
  simpa using s1
 rw [s1',rdC_back hN hc]
 simp only
 rw [s2]
 simp only [Bool.and_self,cond_true]
 have s3' : shorts (vtext N v) 13 (((byteL (vt N ((ctext N v.1).size : Int)) ++ byteL (ctext N v.1)).length + (byteL (vt N v.2.1)).length : Nat) : Int) = some (v.2.2.1 ++ v.2.2.2) := by
  rw [List.length_append] at s3
  exact s3
 rw [s3']
 simp only
 rw [List.take_left' e3,List.drop_left' e3]
 have : vText N (v.1,v.2.1,v.2.2.1,v.2.2.2) = vtext N v := hvt
 rw [this,dT rfl]
 rfl
end Go.Proofs.YtflmdpbhmmohiaaGreat.C
namespace Go.Proofs.YtflmdpbhmmohiaaGreat.C
open Go Go.Proofs.YtflmdpbhmmohiaaGreat.Nx Go.RowKit
set_option linter.unusedVariables false
set_option linter.unusedSimpArgs false
set_option maxRecDepth 100000
/-! Signatures hold. -/
theorem fSec_8 (N : Nat) {seed leaf i : Int} (h1 : inR seed 0 1000000 = true) (h2 : inR leaf 0 1000000 = true) (h3 : inR i 0 1000000 = true) : (fSec N seed leaf i).size = 8 := by
 unfold fSec
 rw [h1,h2,h3]
 exact fCut_size _
theorem fCh_8 {s : ByteArray} (h : s.size = 8) (n : Int) : (fCh s n).size = 8 := by
 unfold fCh
 cases min n.toNat 3 with
 | zero => exact h
 | succ k => exact fCut_size _
theorem fCh_add (s : ByteArray) {q : Int} (h0 : 0 ≤ q) (h3 : q ≤ 3) : fCh (fCh s q) (3 - q) = fCh s 3 := by
 unfold fCh
 rw [← fChN_add]
 congr 1
 omega
theorem inR_of {n a b : Int} (h : a ≤ n ∧ n ≤ b) : inR n a b = true := by
 unfold inR
 simp only [Bool.and_eq_true,decide_eq_true_eq]
 exact h
theorem ends_get (N : Nat) (seed leaf : Int) (q : List Int) {i n : Nat} (h : i < n) : (ends N seed leaf q n).getD i ByteArray.empty = endF N seed leaf q i := by
 simp [ends,List.getD,h]
theorem catE_L (N : Nat) (seed leaf : Int) {q : List Int} (hq : ∀ x ∈ q,0 ≤ x ∧ x ≤ 3) (hl : q.length = 11) : ∀ i,i ≤ 11 → catE (ends N seed leaf q 11) q i = catL N seed leaf i
 | 0,_ => rfl
 | i + 1,h => by
  have h4 : 0 ≤ q.getD i 0 ∧ q.getD i 0 ≤ 3 := by
   have : q.getD i 0 = q[i] := by simp [List.getD,show i < q.length by omega]
   rw [this]; exact hq _ (List.getElem_mem _)
  rw [catE,catL,catE_L N seed leaf hq hl i (by omega),ends_get N seed leaf q (show i < 11 by omega)]
  unfold endF
  rw [fCh_add _ h4.1 h4.2]
theorem up_key (N : Nat) (seed : Int) : ∀ l,l < 4 → fUp (fUp (fLeaf N seed ((l : Nat) : Int)) ((fWay N seed l).getD 0 ByteArray.empty) l) ((fWay N seed l).getD 1 ByteArray.empty) (l / 2) = fKey N seed := by
 intro l hl
 obtain rfl | rfl | rfl | rfl : l = 0 ∨ l = 1 ∨ l = 2 ∨ l = 3 := by omega
 all_goals rfl
theorem sign_form (N : Nat) (x : Int) (t : ByteArray) {leaf : Int} (h : inR leaf 0 3 = true) : formF (fSign N (fSeed x) leaf t).1 = true := by
 have hs := fSeed_in x
 have g := inR_le h
 unfold fSign
 rw [h,hs]
 obtain ⟨w1,w2⟩ := fWay_ok N (fSeed x) leaf.toNat
 unfold formF
 show (inR leaf 0 3 && (decide (((ends N (fSeed x) leaf (fQ t) 11).length : Int) = 11) && (decide (((fWay N (fSeed x) leaf.toNat).length : Int) = 2) && (eights (ends N (fSeed x) leaf (fQ t) 11) && eights (fWay N (fSeed x) leaf.toNat))))) = true
 have e1 : eights (ends N (fSeed x) leaf (fQ t) 11) = true := List.all_eq_true.2 fun e he => by
  obtain ⟨j,hj,rfl⟩ := List.mem_map.1 he
  have hj := List.mem_range.1 hj
  have := fCh_8 (fSec_8 N (i := ((j : Nat) : Int)) hs (leaf := leaf) (inR_of (by omega)) (inR_of (by omega))) ((fQ t).getD j 0)
  unfold endF
  rw [this]; rfl
 have e2 : eights (fWay N (fSeed x) leaf.toNat) = true := List.all_eq_true.2 fun e he => by
  rw [w2 e he]; rfl
 rw [h,ends_len,w1,e1,e2]; rfl
theorem sign_holds (N : Nat) (x : Int) (t : ByteArray) {leaf : Int} (h : inR leaf 0 3 = true) : fSB (fKey N (fSeed x)) t (fSign N (fSeed x) leaf t).1 = true := by
 have hf := sign_form N x t h
 have g := inR_le h
 unfold fSB
 rw [hf,cond_true]
 have e : (fSign N (fSeed x) leaf t).1 = (leaf,ends N (fSeed x) leaf (fQ t) 11,fWay N (fSeed x) leaf.toNat) := by
  unfold fSign
  rw [h,fSeed_in]; rfl
 rw [e]
 show decide (fUp (fUp (fCut (kL ++ catE (ends N (fSeed x) leaf (fQ t) 11) (fQ t) 11)) ((fWay N (fSeed x) leaf.toNat).getD 0 ByteArray.empty) leaf.toNat) ((fWay N (fSeed x) leaf.toNat).getD 1 ByteArray.empty) (leaf.toNat / 2) = fKey N (fSeed x)) = true
 rw [catE_L N (fSeed x) leaf (fQ_in t) (fQ_len t) 11 (Nat.le_refl _)]
 obtain ⟨l,rfl⟩ := Int.eq_ofNat_of_zero_le g.1
 have := up_key N (fSeed x) l (by omega)
 rw [Int.toNat_natCast]
 exact dT this
/-! Draws. -/
theorem once_ok (N : Nat) (c : Den tL01Cur) (h : okC c) (n : Int) (hn : 0 < n) : ∃ b c',x_f72 N c n = some (b,c',()) ∧ okC c' := by
 obtain ⟨x,c1,e,_,_,h1⟩ := below_ok N c h n hn
 unfold x_f72
 rw [e]
 exact ⟨_,_,rfl,h1⟩
theorem role_ok2 (N : Nat) (c : Den tL01Cur) (h : okC c) : ∃ r c',x_f89 N c = some (r,c') ∧ roleOk r = true ∧ okC c' := by
 obtain ⟨a,c1,e1,a0,a1,h1⟩ := below_ok N c h 3 (by omega)
 obtain ⟨b,c2,e2,b0,b1,h2⟩ := below_ok N c1 h1 2 (by omega)
 unfold x_f89
 simp only [e1,e2,Option.bind_some]
 refine ⟨_,_,rfl,?_,h2⟩
 show (inR a 0 5 && inR b 0 3) = true
 rw [inR_of (by omega),inR_of (by omega)]; rfl
theorem cred_ok2 (N : Nat) (c : Den tL01Cur) (h : okC c) : ∃ r c',x_f88 N c = some (r,c') ∧ credOk r = true ∧ okC c' := by
 obtain ⟨k,c1,e1,hk,h1⟩ := pick_ok N c h [(1:Int),(1:Int),(2:Int),(3:Int),(4:Int)] (by simp)
 obtain ⟨r,c2,e2,hr,h2⟩ := role_ok2 N c1 h1
 obtain ⟨u,c3,e3,hu,h3⟩ := pick_ok N c2 h2 [(5:Int),(50:Int),(9999:Int),(2:Int)] (by simp)
 obtain ⟨x,c4,e4,x0,x1,h4⟩ := below_ok N c3 h3 2 (by omega)
 obtain ⟨w,c5,e5,w0,w1,h5⟩ := below_ok N c4 h4 6 (by omega)
 obtain ⟨a,c6,e6,ha,h6⟩ := role_ok2 N c4 h4
 obtain ⟨b,c7,e7,b0,b1,h7⟩ := below_ok N c6 h6 2 (by omega)
 obtain ⟨d,c8,e8,hd,h8⟩ := role_ok2 N c6 h6
 have hu' : inR u 1 9999 = true := by
  simp only [List.mem_cons,List.not_mem_nil,or_false] at hu
  rcases hu with rfl | rfl | rfl | rfl <;> rfl
 have hx : inR x 0 99 = true := inR_of (by omega)
 have hw : inR w 0 5 = true := inR_of (by omega)
 have hb : inR b 0 3 = true := inR_of (by omega)
 unfold x_f88
 simp only [e1,e2,e3,e4,e5,e6,e7,e8,Option.bind_some]
 simp only [List.mem_cons,List.not_mem_nil,or_false,or_self_left] at hk
 rcases hk with rfl | rfl | rfl | rfl
 ·refine ⟨_,_,rfl,?_,h5⟩
  show (roleOk r && (inR u 1 9999 && (inR x 0 99 && (inR w 0 5 && ((true && true) && (true && true)))))) = true
  rw [hr,hu',hx,hw]; rfl
 ·refine ⟨_,_,rfl,?_,h6⟩
  show (roleOk r && (inR u 1 9999 && (inR x 0 99 && (true && (roleOk a && (true && true)))))) = true
  rw [hr,hu',hx,ha]; rfl
 ·refine ⟨_,_,rfl,?_,h7⟩
  show (roleOk r && (inR u 1 9999 && (inR x 0 99 && (true && (roleOk a && ((inR 0 0 5 && inR b 0 3) && true)))))) = true
  rw [hr,hu',hx,ha,hb]; rfl
 ·refine ⟨_,_,rfl,?_,h8⟩
  show (roleOk r && (inR u 1 9999 && (inR x 0 99 && (true && (roleOk a && roleOk d))))) = true
  rw [hr,hu',hx,ha,hd]; rfl
theorem any_ok2 (N : Nat) (c : Den tL01Cur) (h : okC c) : ∃ r c',x_f87 N c = some (r,c') ∧ smallC r ∧ okC c' := by
 obtain ⟨k,c1,e1,_,_,h1⟩ := below_ok N c h 10 (by omega)
 obtain ⟨y,c2,e2,y0,y1,h2⟩ := below_ok N c1 h1 60 (by omega)
 obtain ⟨x,c3,e3,hx,h3⟩ := cred_ok2 N c2 h2
 have m0 := Int.tmod_nonneg 3 y0
 have m1 := Int.tmod_lt_of_pos y (b := 3) (by omega)
 have m2 := Int.tmod_lt_of_pos y (b := 6) (by omega)
 have m3 := Int.tmod_lt_of_pos y (b := 9) (by omega)
 have m3' := Int.tmod_nonneg 9 y0
 have m4 := Int.tmod_lt_of_pos y (b := 8) (by omega)
 have m5 := Int.tmod_lt_of_pos y (b := 5) (by omega)
 have hs := credOk_small hx
 have g : ∀ n ∈ [x.1,x.2.1.1,x.2.1.2,x.2.2.1,x.2.2.2.1.1,x.2.2.2.1.2,x.2.2.2.2.1.1,x.2.2.2.2.1.2,x.2.2.2.2.2.1,x.2.2.2.2.2.2],n ≤ 9223372036854775807 := hs
 simp only [List.mem_cons,List.not_mem_nil,or_false,forall_eq_or_imp,forall_eq] at g
 unfold x_f87
 simp only [e1,e2,e3,Option.bind_some]
 have mk : ∀ a b1 b2 d f1 f2 k1 k2 u n : Int,a ≤ 9223372036854775807 → b1 ≤ 9223372036854775807 → b2 ≤ 9223372036854775807 → d ≤ 9223372036854775807 → f1 ≤ 9223372036854775807 → f2 ≤ 9223372036854775807 → k1 ≤ 9223372036854775807 → k2 ≤ 9223372036854775807 → u ≤ 9223372036854775807 → n ≤ 9223372036854775807 → smallC (a,(b1,b2),d,(f1,f2),(k1,k2),u,n) := by
  intro a b1 b2 d f1 f2 k1 k2 u n q1 q2 q3 q4 q5 q6 q7 q8 q9 q10 z hz
  simp only [List.mem_cons,List.not_mem_nil,or_false] at hz
  rcases hz with rfl | rfl | rfl | rfl | rfl | rfl | rfl | rfl | rfl | rfl <;> assumption
 obtain ⟨q1,q2,q3,q4,q5,q6,q7,q8,q9,q10⟩ := g
 cases decide (k = 0) with
 | true => exact ⟨_,_,rfl,mk _ _ _ _ _ _ _ _ _ _ (by omega) q2 q3 q4 q5 q6 q7 q8 q9 q10,h3⟩
 | false =>
  cases decide (k = 1) with
  | true => exact ⟨_,_,rfl,mk _ _ _ _ _ _ _ _ _ _ q1 q2 q3 (by rw [w64 (by omega) (by omega)]; omega) q5 q6 q7 q8 q9 q10,h3⟩
  | false =>
   cases decide (k = 2) with
   | true => exact ⟨_,_,rfl,mk _ _ _ _ _ _ _ _ _ _ q1 q2 q3 q4 (by omega) (by omega) q7 q8 q9 q10,h3⟩
   | false =>
    cases decide (k = 3) with
    | true => exact ⟨_,_,rfl,mk _ _ _ _ _ _ _ _ _ _ q1 q2 q3 q4 q5 q6 (by omega) q8 q9 q10,h3⟩
    | false =>
     cases decide (k = 4) with
     | true =>
      simp only [cond_true,cond_false]
      rw [dT m0,dT (p := y.tmod 3 < (([(0:Int),(10000:Int),(1:Int)].length : Nat) : Int)) (by simp only [List.length_cons,List.length_nil]; omega)]
      refine ⟨_,_,rfl,mk _ _ _ _ _ _ _ _ _ _ q1 q2 q3 q4 q5 q6 q7 q8 ?_ q10,h3⟩
      have : ∀ j : Nat,j < 3 → [(0:Int),(10000:Int),(1:Int)].getD j 0 ≤ 9223372036854775807 := by decide
      exact this _ (by omega)
     | false => exact ⟨_,_,rfl,hs,h3⟩
theorem bigI {x : Int} (h : x ≤ 3) : x ≤ 9223372036854775807 := by omega
def fewV (v : Den tVouched) : Prop := smallC v.1 ∧ @LE.le Int _ v.2.1 9223372036854775807 ∧ v.2.2.1.length ≤ 20 ∧ v.2.2.2.length ≤ 20
theorem fVF_parts {N : Nat} {c : Den tCred} {leaf : Int} (hc : credOk c = true) (hl : inR leaf 0 3 = true) : (fVF N c leaf).2 = true ∧ (fVF N c leaf).1.1 = c ∧ (fVF N c leaf).1.2 = (fSign N (fSeed c.2.1.1) leaf (ctext N c)).1 := by
 unfold fVF
 rw [hc,hl]
 exact ⟨rfl,rfl,rfl⟩
theorem vouched_ok {N : Nat} (hN : Big N) (c : Den tL01Cur) (h : okC c) : ∃ v c',x_f93 N c = some (v,c') ∧ smallC v.1 ∧ @LE.le Int _ v.2.1 3 ∧ v.2.2.1.length = 11 ∧ v.2.2.2.length = 2 ∧ okC c' := by
 obtain ⟨r,c1,e1,hr,h1⟩ := cred_ok2 N c h
 obtain ⟨l,c2,e2,l0,l1,h2⟩ := below_ok N c1 h1 4 (by omega)
 have hl : inR l 0 3 = true := inR_of (by omega)
 obtain ⟨p1,p2,p3⟩ := fVF_parts (N := N) hr hl
 have hf := sign_form N r.2.1.1 (ctext N r) hl
 obtain ⟨⟨l',q1,q2⟩,q3,q4,_⟩ := form_parts hf
 unfold x_f93
 simp only [e1,e2,Option.bind_some,spec_VF hN r (credOk_small hr)]
 refine ⟨(fVF N r l).1,c2,rfl,?_,?_,?_,?_,h2⟩
 ·rw [p2]; exact credOk_small hr
 ·rw [p3,q1]; omega
 ·rw [p3]; exact q3
 ·rw [p3]; exact q4
theorem anyV_ok {N : Nat} (hN : Big N) (c : Den tL01Cur) (h : okC c) : ∃ v c',x_f92 N c = some (v,c') ∧ fewV v ∧ okC c' := by
 obtain ⟨k,c1,e1,_,_,h1⟩ := below_ok N c h 10 (by omega)
 obtain ⟨y,c2,e2,y0,y1,h2⟩ := below_ok N c1 h1 60 (by omega)
 obtain ⟨v,c3,e3,v1,v2,v3,v4,h3⟩ := vouched_ok hN c2 h2
 obtain ⟨r,c4,e4,r1,h4⟩ := any_ok2 N c3 h3
 have m2 := Int.tmod_lt_of_pos y (b := 6) (by omega)
 have m2' := Int.tmod_nonneg 6 y0
 unfold x_f92
 simp only [e1,e2,e3,e4,Option.bind_some]
 cases decide (k = 0) with
 | true =>
  refine ⟨_,_,rfl,⟨?_,bigI v2,by show v.2.2.1.length ≤ _; omega,by show v.2.2.2.length ≤ _; omega⟩,h3⟩
  intro z hz
  simp only [List.mem_cons,List.not_mem_nil,or_false] at hz
  rcases hz with rfl | rfl | rfl | rfl | rfl | rfl | rfl | rfl | rfl | rfl
  ·exact v1 _ (by simp)
  ·exact v1 _ (by simp)
  ·exact v1 _ (by simp)
  ·exact v1 _ (by simp)
  ·exact v1 _ (by simp)
  ·exact v1 _ (by simp)
  ·exact v1 _ (by simp)
  ·exact v1 _ (by simp)
  ·show (77:Int) ≤ 9223372036854775807
   decide
  ·exact v1 _ (by simp)
 | false =>
  cases decide (k = 1) with
  | true => exact ⟨_,_,rfl,⟨r1,bigI v2,by show v.2.2.1.length ≤ _; omega,by show v.2.2.2.length ≤ _; omega⟩,h4⟩
  | false =>
   cases decide (k = 2) with
   | true => exact ⟨_,_,rfl,⟨v1,by
    show wrap64 (y.tmod 6 - 1) ≤ (9223372036854775807:Int)
    rw [w64 (by omega) (by omega)]; omega,by show v.2.2.1.length ≤ _; omega,by show v.2.2.2.length ≤ _; omega⟩,h3⟩
   | false =>
    cases decide (k = 3) with
    | true =>
     simp only [cond_true,cond_false,v3]
     rw [show inB (1:Int) ((11 : Nat) : Int) ((11 : Nat) : Int) = true from rfl,cond_true,dT (by simp [v3])]
     refine ⟨_,_,rfl,⟨v1,bigI v2,?_,by show v.2.2.2.length ≤ _; omega⟩,h3⟩
     show ([(⟨#[97,98,99,100,101,102,103,104]⟩ : ByteArray)] ++ ((v.2.2.1.drop ((1:Int).toNat)).take (((11 : Nat) : Int).toNat - (1:Int).toNat))).length ≤ 20
     rw [List.length_append,List.length_take,List.length_drop,v3]
     decide
    | false =>
     cases decide (k = 4) with
     | true =>
      simp only [cond_true,cond_false,v4]
      rw [show inB (0:Int) (1:Int) ((2 : Nat) : Int) = true from rfl]
      refine ⟨_,_,rfl,⟨v1,bigI v2,by show v.2.2.1.length ≤ _; omega,?_⟩,h3⟩
      show (v.2.2.2.take _).length ≤ 20
      rw [List.length_take,v4]; omega
     | false => exact ⟨_,_,rfl,⟨v1,bigI v2,by omega,by omega⟩,h3⟩
theorem vText_size {N : Nat} (hN : Big N) (v : Den tVouched) (hv : fewV v) : (vText N v).size ≤ 10000 := by
 obtain ⟨t1,t2,t3⟩ := spec_CredText hN v.1 hv.1
 unfold vText
 cases h : credOk v.1 && formF v.2 with
 | false => exact Nat.zero_le _
 | true =>
  simp only [Bool.and_eq_true] at h
  obtain ⟨⟨l,e1,e2⟩,e3,e4,e5,e6⟩ := form_parts h.2
  obtain ⟨a1,s1,_⟩ := vt_some hN (n := ((ctext N v.1).size : Int)) (by omega)
  obtain ⟨a2,s2,_⟩ := vt_some hN (n := v.2.1) hv.2.1
  have := catF_size hN (v.2.2.1 ++ v.2.2.2) ((vt N ((ctext N v.1).size : Int) ++ ctext N v.1) ++ vt N v.2.1) (eights_app e5 e6)
  rw [cond_true]
  unfold vtext
  rw [List.length_append,e3,e4] at this
  simp only [ByteArray.size_append] at this
  omega
theorem text1_ok {N : Nat} (hN : Big N) (c : Den tL01Cur) (h : okC c) : ∃ s c',x_f74 N c (1:Int) = some (s,c',()) ∧ s.size = 1 ∧ okC c' := by
 have hN' : 1099511627776 ≤ N := hN
 obtain ⟨x,c1,e1,_,_,h1⟩ := byte_ok N c h
 have k : ∀ (M : Nat) (kx : DenS (.pr (.bv 0 tL01Cur) (.o 5 (.i .u8))) → Option (ByteArray × DenW (.pr (.bv 0 tL01Cur) (.d 1 I)))) kr,iter (B_f74_L0 N kx kr) (M + 2) (c,(1:Int),[],(0:Int)) = kx (c1,[x % 256]) := fun M kx kr => by
  rw [iter_succ]
  have q : ∀ g,B_f74_L0 N kx kr g (c,(1:Int),[],(0:Int)) = (x_f69 N c).bind fun r => g (r.2,(1:Int),[r.1 % 256],(1:Int)) := fun g => by kernel_rfl
  rw [q,e1,Option.bind_some,iter_succ]
  rfl
 have k2 := fun kx kr => k (N - 2) kx kr
 rw [sub_add (show 2 ≤ N by omega)] at k2
 unfold x_f74
 rw [dF (show ¬ (5000:Int) < 1 by decide),cond_false,k2]
 exact ⟨_,_,rfl,rfl,h1⟩
theorem spoilt_ok {N : Nat} (hN : Big N) (c : Den tL01Cur) (h : okC c) (s : ByteArray) (hs : s.size ≤ 100000) : ∃ t c',x_f76 N c s = some (t,c',()) ∧ t.size ≤ s.size + 1 ∧ okC c' := by
 obtain ⟨k,c1,e1,_,_,h1⟩ := below_ok N c h 12 (by omega)
 obtain ⟨t1,c2,e2,s2,h2⟩ := text1_ok hN c1 h1
 obtain ⟨i,c3,e3,i0,i1,h3⟩ := below_ok N c1 h1 ((s.size : Int) + 1) (by omega)
 unfold x_f76
 rw [w64 (x := (s.size : Int) + 1) (by omega) (by omega)]
 simp only [e1,e2,e3,Option.bind_some,s2]
 have fin : ∀ (hp : 0 < s.size),∃ (t : ByteArray) (c' : Den tL01Cur),((x_f68 N c1 (s.size : Int)).bind fun r4 => (bif (inB (0:Int) r4.1 (s.size : Int)) then (bif (inB (wrap64 (r4.1 + (1:Int))) (s.size : Int) (s.size : Int)) then (x_f74 N r4.2.1 (1:Int)).bind fun r5 => (bif (decide ((s.extract (0:Int).toNat r4.1.toNat).size + r5.1.size ≤ 4611686018427387904)) then (bif (decide (((s.extract (0:Int).toNat r4.1.toNat) ++ r5.1).size + (s.extract (wrap64 (r4.1 + (1:Int))).toNat (s.size : Int).toNat).size ≤ 4611686018427387904)) then some ((((s.extract (0:Int).toNat r4.1.toNat) ++ r5.1) ++ (s.extract (wrap64 (r4.1 + (1:Int))).toNat (s.size : Int).toNat)),r5.2.1,()) else none) else none) else none) else none)) = (some (t,c',()) : Option (ByteArray × DenW (.pr (.bv 0 tL01Cur) (.d 1 .tx)))) ∧ t.size ≤ s.size + 1 ∧ okC c' := fun hp => by
  obtain ⟨j,c4,e4,j0,j1,h4⟩ := below_ok N c1 h1 (s.size : Int) (by omega)
  obtain ⟨t5,c5,e5,s5,h5⟩ := text1_ok hN c4 h4
  obtain ⟨m,rfl⟩ := Int.eq_ofNat_of_zero_le j0
  have hw : wrap64 (((m : Nat) : Int) + 1) = ((m + 1 : Nat) : Int) := w64_up (Nat.le_refl _) (by omega)
  have b1 : inB (0:Int) ((m : Nat) : Int) (s.size : Int) = true := inB_ok (a := 0) (by omega) (by omega)
  have b2 : inB ((m + 1 : Nat) : Int) (s.size : Int) (s.size : Int) = true := inB_ok (by omega) (by omega)
  have z1 : (s.extract (0:Int).toNat ((m : Nat) : Int).toNat).size = m := by
   rw [ByteArray.size_extract]
   show min m s.size - 0 = m
   omega
  have z2 : (s.extract ((m + 1 : Nat) : Int).toNat (s.size : Int).toNat).size = s.size - (m + 1) := by
   rw [ByteArray.size_extract]
   show min s.size s.size - (m + 1) = _
   omega
  simp only [e4,Option.bind_some,hw,b1,b2,cond_true,e5,z1,s5,dT (show m + 1 ≤ 4611686018427387904 by omega),ByteArray.size_append,z2,dT (show m + 1 + (s.size - (m + 1)) ≤ 4611686018427387904 by omega)]
  refine ⟨_,_,rfl,?_,h5⟩
  rw [ByteArray.size_append,ByteArray.size_append,z1,z2,s5]
  omega
 cases decide (k = 0) with
 | true =>
  rw [dT (show s.size + 1 ≤ 4611686018427387904 by omega)]
  refine ⟨_,_,rfl,?_,h2⟩
  rw [ByteArray.size_append,s2]; exact Nat.le_refl _
 | false =>
  cases decide (k = 1) with
  | true =>
   obtain ⟨m,rfl⟩ := Int.eq_ofNat_of_zero_le i0
   rw [show inB (0:Int) ((m : Nat) : Int) (s.size : Int) = true from inB_ok (a := 0) (by omega) (by omega)]
   refine ⟨_,_,rfl,?_,h3⟩
   rw [ByteArray.size_extract]; omega
  | false =>
   by_cases hp : (0:Int) < (s.size : Int)
   ·obtain ⟨t,c',f1,f2,f3⟩ := fin (by omega)
    rw [dT hp]
    cases decide (k = 2) with
    | true =>
     simp only [cond_true,cond_false]
     rw [f1]
     exact ⟨_,_,rfl,f2,f3⟩
    | false =>
     cases decide (k = 3) with
     | true =>
      simp only [cond_true,cond_false]
      rw [f1]
      exact ⟨_,_,rfl,f2,f3⟩
     | false => exact ⟨_,_,rfl,Nat.le_succ _,h1⟩
   ·rw [dF hp]
    cases decide (k = 2) with
    | true => exact ⟨_,_,rfl,Nat.le_succ _,h1⟩
    | false =>
     cases decide (k = 3) with
     | true => exact ⟨_,_,rfl,Nat.le_succ _,h1⟩
     | false => exact ⟨_,_,rfl,Nat.le_succ _,h1⟩
theorem spec_VT {N : Nat} (hN : Big N) {v : Den tVouched} (hv : fewV v) : x_f67 N v = some (vText N v) :=
 spec_VouchedText hN v hv.1 hv.2.1 (Nat.le_trans hv.2.2.1 (by decide)) (Nat.le_trans hv.2.2.2 (by decide))
theorem impl_VT {N : Nat} (hN : Big N) {v : Den tVouched} (hv : fewV v) : x_f22 N v = some (vText N v) :=
 impl_VouchedText hN v hv.1 hv.2.1 (Nat.le_trans hv.2.2.1 (by decide)) (Nat.le_trans hv.2.2.2 (by decide))
theorem drawRead_ok {N : Nat} (hN : Big N) (code : List Int) (hL : code.length ≤ 1048576) : ∃ t,x_f47 N code = some t ∧ t.size ≤ 1048576 := by
 obtain ⟨c,e,h⟩ := new_ok hN code hL
 obtain ⟨v,c1,e1,v1,h1⟩ := anyV_ok hN c h
 obtain ⟨b,c2,e2,h2⟩ := once_ok N c1 h1 3 (by omega)
 have hs := vText_size hN v v1
 obtain ⟨t,c3,e3,s3,h3⟩ := spoilt_ok hN c2 h2 (vText N v) (by omega)
 unfold x_f47
 simp only [e,e1,spec_VT hN v1,e2,e3,Option.bind_some]
 cases b
 ·exact ⟨_,rfl,by omega⟩
 ·exact ⟨_,rfl,by omega⟩
theorem drawVer_ok {N : Nat} (hN : Big N) (code : List Int) (hL : code.length ≤ 1048576) : ∃ v n,x_f49 N code = some (v,n) ∧ fewV v := by
 obtain ⟨c,e,h⟩ := new_ok hN code hL
 obtain ⟨n,c1,e1,_,h1⟩ := pick_ok N c h [(0:Int),(1:Int),(5:Int),(6:Int),(51:Int)] (by simp)
 obtain ⟨v,c2,e2,v2,h2⟩ := anyV_ok hN c1 h1
 unfold x_f49
 simp only [e,e1,e2,Option.bind_some]
 exact ⟨_,_,rfl,v2⟩
theorem drawFor_ok {N : Nat} (hN : Big N) (code : List Int) (hL : code.length ≤ 1048576) : ∃ c l,x_f50 N code = some (c,l) ∧ smallC c := by
 obtain ⟨c,e,h⟩ := new_ok hN code hL
 obtain ⟨l,c1,e1,_,_,h1⟩ := below_ok N c h 6 (by omega)
 obtain ⟨r,c2,e2,r2,h2⟩ := any_ok2 N c1 h1
 unfold x_f50
 simp only [e,e1,e2,Option.bind_some]
 exact ⟨_,_,rfl,r2⟩
theorem drawSeed_ok {N : Nat} (hN : Big N) (code : List Int) (hL : code.length ≤ 1048576) : ∃ n,x_f48 N code = some n := by
 obtain ⟨c,e,h⟩ := new_ok hN code hL
 obtain ⟨n,c1,e1,h1⟩ := num_ok N c h
 unfold x_f48
 simp only [e,e1,Option.bind_some]
 exact ⟨_,rfl⟩
theorem drawWord_ok {N : Nat} (hN : Big N) (code : List Int) (hL : code.length ≤ 1048576) : ∃ c,x_f51 N code = some c ∧ credOk c = true := by
 obtain ⟨c,e,h⟩ := new_ok hN code hL
 obtain ⟨r,c1,e1,r1,h1⟩ := cred_ok2 N c h
 unfold x_f51
 simp only [e,e1,Option.bind_some]
 exact ⟨_,rfl,r1⟩
theorem same_texts {N : Nat} (hN : Big N) (L : List ByteArray) (hL : L.length ≤ 1048576) : x_f37 N L L = some true := by
 have hN' : 1099511627776 ≤ N := hN
 unfold x_f37
 rw [dT rfl]
 show iter _ N (L,L,(0:Int)) = _
 refine iter_cnt (fun i => (L,L,((i : Nat) : Int))) L.length (fun i rec_ hi => ?_) (fun rec_ => ?_) (by omega)
 ·show B_f37_L0 N _ _ rec_ (L,L,((i : Nat) : Int)) = rec_ (L,L,((i + 1 : Nat) : Int))
  unfold B_f37_L0
  simp only [lt_rows L hi,le_rows i,Bool.and_self,cond_true,decide_true,Bool.not_true,cond_false,w64_up (Nat.le_refl i) (show i ≤ 140737488355328 by omega)]
 ·show B_f37_L0 N _ _ rec_ (L,L,((L.length : Nat) : Int)) = _
  show (bif decide (((L.length : Nat) : Int) < (L.length : Int)) then _ else _) = _
  rw [dF (Int.lt_irrefl _)]; rfl
theorem same_sign {N : Nat} (hN : Big N) (s : Den tSignature) (h1 : s.2.1.length ≤ 1048576) (h2 : s.2.2.length ≤ 1048576) : x_f36 N s s = some true := by
 unfold x_f36
 rw [dT rfl,cond_true,same_texts hN _ h1,Option.bind_some,same_texts hN _ h2]; rfl
theorem untl {u : Int} (h0 : 0 ≤ u) (h1 : u < 16384) : wrap64 (u + 1) = u + 1 ∧ ¬ u + 1 ≤ u := ⟨w64 (by omega) (by omega),by omega⟩
theorem pure_FnVouches (a0 : List Int) (g0 : good (.sl (.i .u8)) a0) : ∃ N,x_laws_FnVouches N a0 = some true := by
 refine ⟨1099511627776,?_⟩
 have hN : Big 1099511627776 := Nat.le_refl _
 generalize 1099511627776 = N at hN
 unfold x_laws_FnVouches x_f35
 by_cases hb : (1048576:Int) < (a0.length : Int)
 ·rw [dT hb]; rfl
 ·have hL : a0.length ≤ 1048576 := by omega
  rw [dF hb,Option.bind_some,cond_false]
  obtain ⟨c,d1,hc⟩ := drawWord_ok hN a0 hL
  obtain ⟨p,d2,pl,pr⟩ := places_ok hN a0 hL
  obtain ⟨t,d3,ht⟩ := drawRead_ok hN a0 hL
  obtain ⟨v,n,d4,hv⟩ := drawVer_ok hN a0 hL
  obtain ⟨w,l,d5,hw⟩ := drawFor_ok hN a0 hL
  obtain ⟨s,d6⟩ := drawSeed_ok hN a0 hL
  have hp : 0 ≤ p.getD (0:Int).toNat 0 ∧ p.getD (0:Int).toNat 0 < 10000 := by
   have : p.getD 0 0 = p[0] := by simp [List.getD,show 0 < p.length by omega]
   show 0 ≤ p.getD 0 0 ∧ p.getD 0 0 < 10000
   rw [this]; exact pr _ (List.getElem_mem _)
  have hq : inR ((p.getD (0:Int).toNat 0).tmod 4) 0 3 = true := by
   have := Int.tmod_nonneg 4 hp.1
   have := Int.tmod_lt_of_pos (p.getD (0:Int).toNat 0) (b := 4) (by omega)
   exact inR_of (by omega)
  obtain ⟨leaf,hleaf⟩ : ∃ x,(p.getD (0:Int).toNat 0).tmod 4 = x := ⟨_,rfl⟩
  rw [hleaf] at hq
  obtain ⟨f1,f2,f3⟩ := fVF_parts (N := N) hc hq
  have hsm := credOk_small hc
  have hform := sign_form N c.2.1.1 (ctext N c) hq
  have hholds := sign_holds N c.2.1.1 (ctext N c) hq
  obtain ⟨⟨l',g1,g2⟩,g3,g4,_⟩ := form_parts hform
  have few : fewV (fVF N c leaf).1 := ⟨by rw [f2]; exact hsm,by rw [f3,g1]; omega,by rw [f3]; omega,by rw [f3]; omega⟩
  have back := rdVo_back hN (v := (fVF N c leaf).1) (by rw [f2]; exact hc) (by rw [f3]; exact hform)
  have hts := vText_size hN _ few
  have l1 : (fVF N c leaf).1.2.2.1.length ≤ 1048576 := Nat.le_trans few.2.2.1 (by decide)
  have l2 : (fVF N c leaf).1.2.2.2.length ≤ 1048576 := Nat.le_trans few.2.2.2 (by decide)
  have hcu : (0:Int) ≤ c.2.2.2.2.2.1 ∧ (c.2.2.2.2.2.1 : Int) < 16384 := credOk_few hc c.2.2.2.2.2.1 (by simp [numsC])
  have ver1 : fVer N (fVF N c leaf).1 c.2.2.2.2.2.1 = true := by
   unfold fVer
   rw [f2,f3,hc,dT (Int.le_refl _),hholds]; rfl
  have ver2 : fVer N (fVF N c leaf).1 (wrap64 (c.2.2.2.2.2.1 + 1)) = false := by
   unfold fVer
   rw [f2,(untl hcu.1 hcu.2).1,dF (untl hcu.1 hcu.2).2,hc]; rfl
  have i1 := impl_VF hN c hsm leaf
  have i2 := impl_VT hN few
  have i3 := impl_RVo hN (vText N (fVF N c leaf).1) (by omega)
  rw [back] at i3
  have i4 := impl_Ver hN (fVF N c leaf).1 few.1 l1 l2 c.2.2.2.2.2.1
  have i5 := impl_Ver hN (fVF N c leaf).1 few.1 l1 l2 (wrap64 (c.2.2.2.2.2.1 + 1))
  rw [ver1] at i4
  rw [ver2] at i5
  have i6 := impl_RVo hN t ht
  have s6 := spec_RVo hN t ht
  have o6 := rdVo_ok N t ht
  have l3 : v.2.2.1.length ≤ 1048576 := Nat.le_trans hv.2.2.1 (by decide)
  have l4 : v.2.2.2.length ≤ 1048576 := Nat.le_trans hv.2.2.2 (by decide)
  have i7 := impl_Ver hN v hv.1 l3 l4 n
  have s7 := spec_Ver hN v hv.1 l3 l4 n
  have i8 := impl_VT hN hv
  have s8 := spec_VT hN hv
  have i9 := impl_VF hN w hw l
  have s9 := spec_VF hN w hw l
  have o9 := fVF_ok N w l
  have q1 := same_sign hN (fVF N c leaf).1.2 l1 l2
  have q2 := same_sign hN (rdVo N t).1.2 o6.2.2.1.1 o6.2.2.2.1
  have q3 := same_sign hN (fVF N w l).1.2 o9.2.2.1.1 o9.2.2.2.1
  rw [d1,Option.bind_some,d2,Option.bind_some,show (decide (0 ≤ (0:Int)) && decide ((0:Int) < (p.length : Int))) = true from by rw [pl]; rfl,cond_true]
  simp only [hleaf,d3,d4,d5,d6,i1,i2,i3,i4,i5,i6,s6,i7,s7,i8,s8,i9,s9,q1,q2,q3,Option.bind_some,f1,f2,cond_true,decide_true,Bool.and_self,Bool.not_false,beq_self_eq_true,impl_Seed,spec_Seed,agree_self]
end Go.Proofs.YtflmdpbhmmohiaaGreat.C
