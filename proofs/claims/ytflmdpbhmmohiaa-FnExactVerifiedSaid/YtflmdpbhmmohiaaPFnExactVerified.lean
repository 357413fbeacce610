/- The data that the two functions compute are alike, for all arguments that memory can hold. -/
import Derived.Test.YtflmdpbhmmohiaaHFnExactVerified
set_option linter.unusedVariables false
set_option linter.unusedSimpArgs false
namespace Go.Proofs.Ytflmdpbhmmohiaa.C
open Go Go.Proofs.Ytflmdpbhmmohiaa.Nx Go.RowKit
theorem bind_sz {w : Int} {g : Int → Option Int} : ((bif decide (w < 0) then some (-1:Int) else some w).bind fun r1 => bif decide (r1 < 0) then some (-1) else g r1) = bif decide (w < 0) then some (-1) else g w := by
 cases h : decide (w < 0) <;> simp [h]
theorem sz_StringS {N : Nat} (hN : Big N) (x : Den (.sl .tx)) (g : good (.sl .tx) x) : SzOk (x_f33 N x) (okz (.sl .tx) x) :=
 sz_rows g (f := fun y a => bif decide (wrap64 (a - (y.size : Int)) < 0) then some (-1) else some (wrap64 (a - (y.size : Int)))) (fun y gy => SzOk.len gy) hN (d := ByteArray.empty) (fun _ _ _ _ => by show _ = (bif _ then (bif _ then (Option.bind (bif _ then _ else _) _) else _) else _); rw [bind_sz]; rfl)
theorem sz_Signature {N : Nat} (hN : Big N) (x : Den tSignature) (g : good tSignature x) : SzOk (x_f32 N x) (okz tSignature x) :=
 (SzOk.bind (sz_StringS hN _ g.2.1) (SzOk.last (sz_StringS hN _ g.2.2))).mono fun h => by
  obtain ⟨h0,h1⟩ := h; repeat' (first | exact trivial | assumption | refine And.intro ?_ ?_)
theorem sz_Vouched {N : Nat} (hN : Big N) (x : Den tVouched) (g : good tVouched x) : SzOk (x_f34 N x) (okz tVouched x) :=
 (SzOk.last (sz_Signature hN _ g.2)).mono fun h => by
  repeat' (first | exact trivial | assumption | refine And.intro ?_ ?_)
theorem to_Role {N : Nat} (hN : Big N) (x : Den tRole) (h : okz tRole x) : x_f36 N x = some x := rfl
theorem to_Cred {N : Nat} (hN : Big N) (x : Den tCred) (h : okz tCred x) : x_f35 N x = some x := by
 unfold x_f35
 simp only [to_Role hN _ h.2.1,to_Role hN _ h.2.2.2.1,to_Role hN _ h.2.2.2.2.1,Option.bind_some] <;> rfl
theorem to_StringS {N : Nat} (hN : Big N) (x : Den (.sl .tx)) (h : okz (.sl .tx) x) : x_f38 N x = some x :=
 to_rows h (f := fun y => some y) (fun y hy => rfl) hN (by decide) (fun _ _ _ _ => rfl)
theorem to_Signature {N : Nat} (hN : Big N) (x : Den tSignature) (h : okz tSignature x) : x_f37 N x = some x := by
 unfold x_f37
 simp only [to_StringS hN _ h.2.1,to_StringS hN _ h.2.2,Option.bind_some] <;> rfl
theorem to_Vouched {N : Nat} (hN : Big N) (x : Den tVouched) (h : okz tVouched x) : x_f39 N x = some x := by
 unfold x_f39
 simp only [to_Cred hN _ h.1,to_Signature hN _ h.2,Option.bind_some] <;> rfl
theorem eq_Role {N : Nat} (hN : Big N) (x : Den tRole) (h : okz tRole x) : x_f28 N x x = some true := by
 unfold x_f28
 simp
theorem eq_Cred {N : Nat} (hN : Big N) (x : Den tCred) (h : okz tCred x) : x_f27 N x x = some true := by
 unfold x_f27
 simp [eq_Role hN _ h.2.1,eq_Role hN _ h.2.2.2.1,eq_Role hN _ h.2.2.2.2.1]
theorem eq_StringS {N : Nat} (hN : Big N) (x : Den (.sl .tx)) (h : okz (.sl .tx) x) : x_f30 N x x = some true :=
 eq_rows h (f := fun y z => some (decide (y = z))) (fun y hy => by simp) hN (fun _ _ _ _ => rfl)
theorem eq_Signature {N : Nat} (hN : Big N) (x : Den tSignature) (h : okz tSignature x) : x_f29 N x x = some true := by
 unfold x_f29
 simp [eq_StringS hN _ h.2.1,eq_StringS hN _ h.2.2]
theorem eq_Vouched {N : Nat} (hN : Big N) (x : Den tVouched) (h : okz tVouched x) : x_f31 N x x = some true := by
 unfold x_f31
 simp [eq_Cred hN _ h.1,eq_Signature hN _ h.2]
end Go.Proofs.Ytflmdpbhmmohiaa.C
namespace Go.Proofs.Ytflmdpbhmmohiaa.C
open Go Go.Proofs.Ytflmdpbhmmohiaa.Nx Go.RowKit
set_option linter.unusedVariables false
set_option linter.unusedSimpArgs false
def inR (n a b : Int) : Bool := decide (a ≤ n) && decide (n ≤ b)
theorem in_eq (N : Nat) (n a b : Int) : x_f16 N n a b = some (inR n a b) := by
 unfold x_f16 inR
 cases decide (a ≤ n) <;> rfl
theorem l01In_eq (N : Nat) (n a b : Int) : x_f56 N n a b = some (inR n a b) := by
 unfold x_f56 inR
 cases decide (a ≤ n) <;> rfl
end Go.Proofs.Ytflmdpbhmmohiaa.C
namespace Go.Proofs.Ytflmdpbhmmohiaa.C
open Go Go.Proofs.Ytflmdpbhmmohiaa.Nx Go.RowKit
set_option linter.unusedVariables false
set_option linter.unusedSimpArgs false
def roleOk (r : Den tRole) : Bool := inR r.1 0 5 && inR r.2 0 3
theorem roleOk_i (N : Nat) (r : Den tRole) : x_f9 N r = some (roleOk r) := by
 unfold x_f9 roleOk
 simp only [in_eq,Option.bind_some]
 cases inR r.1 0 5 <;> rfl
theorem roleOk_s (N : Nat) (r : Den tRole) : x_f51 N r = some (roleOk r) := by
 unfold x_f51 roleOk
 simp only [l01In_eq,Option.bind_some]
 cases inR r.1 0 5 <;> rfl
theorem isPerson_i (N : Nat) (n : Int) : x_f17 N n = some (inR n 0 5) := by
 unfold x_f17
 simp only [in_eq,Option.bind_some]
def credOk (c : Den tCred) : Bool :=
 roleOk c.2.1 && (inR c.2.2.2.2.2.1 1 9999 && (inR c.2.2.2.2.2.2 0 99 &&
 (bif decide (c.1 = 1) then inR c.2.2.1 0 5 && ((decide (c.2.2.2.1.1 = 0) && decide (c.2.2.2.1.2 = 0)) && (decide (c.2.2.2.2.1.1 = 0) && decide (c.2.2.2.2.1.2 = 0)))
  else bif decide (c.1 = 2) then decide (c.2.2.1 = 0) && (roleOk c.2.2.2.1 && (decide (c.2.2.2.2.1.1 = 0) && decide (c.2.2.2.2.1.2 = 0)))
  else bif decide (c.1 = 3) then decide (c.2.2.1 = 0) && (roleOk c.2.2.2.1 && (roleOk c.2.2.2.2.1 && decide (c.2.2.2.2.1.1 = 0)))
  else bif decide (c.1 = 4) then decide (c.2.2.1 = 0) && (roleOk c.2.2.2.1 && roleOk c.2.2.2.2.1)
  else false)))
theorem credOk_i (N : Nat) (c : Den tCred) : x_f1 N c = some (credOk c) := by
 unfold x_f1 credOk
 simp only [in_eq,roleOk_i,isPerson_i,Option.bind_some]
 generalize roleOk c.2.1 = a1
 generalize inR c.2.2.2.2.2.1 1 9999 = a2
 generalize inR c.2.2.2.2.2.2 0 99 = a3
 generalize inR c.2.2.1 0 5 = a4
 generalize decide (c.1 = 1) = b1
 generalize decide (c.1 = 2) = b2
 generalize decide (c.1 = 3) = b3
 generalize decide (c.1 = 4) = b4
 generalize decide (c.2.2.1 = 0) = d1
 generalize roleOk c.2.2.2.1 = r1
 generalize roleOk c.2.2.2.2.1 = r2
 generalize (decide (c.2.2.2.1.1 = 0) && decide (c.2.2.2.1.2 = 0)) = z1
 generalize (decide (c.2.2.2.2.1.1 = 0) && decide (c.2.2.2.2.1.2 = 0)) = z2
 cases a1 <;> cases a2 <;> cases a3 <;> try rfl
 cases b1 <;> cases b2 <;> cases b3 <;> cases b4 <;> cases d1 <;> cases r1 <;> cases r2 <;> cases a4 <;> cases z1 <;> rfl
theorem credOk_s (N : Nat) (c : Den tCred) : x_f43 N c = some (credOk c) := by
 rw [← credOk_i N c]
 unfold x_f43 x_f1
 simp only [in_eq,l01In_eq,roleOk_i,roleOk_s,isPerson_i,Option.bind_some]
end Go.Proofs.Ytflmdpbhmmohiaa.C
namespace Go.Proofs.Ytflmdpbhmmohiaa.C
open Go Go.Proofs.Ytflmdpbhmmohiaa.Nx Go.RowKit
set_option linter.unusedVariables false
set_option linter.unusedSimpArgs false
theorem iw {x : Int} (h0 : 0 ≤ x) (h1 : x ≤ 9223372036854775807) : IntKind.i64.wrap x = x := by
 rw [← wr_eq]
 exact w64 (by omega) h1
theorem p64 : ((2 ^ 64 : Nat) : Int) = 18446744073709551616 := rfl
theorem andI127 {a : Int} (h0 : 0 ≤ a) (h1 : a ≤ 9223372036854775807) : andI .i64 a 127 = a % 128 := by
 have e : (BitVec.ofInt 64 a &&& BitVec.ofInt 64 127).toNat = a.toNat % 128 := by
  rw [BitVec.toNat_and,BitVec.toNat_ofInt,BitVec.toNat_ofInt]
  have e1 : (a % ((2 ^ 64 : Nat) : Int)).toNat = a.toNat := by
   rw [p64,Int.emod_eq_of_lt h0 (by omega)]
  have e2 : ((127:Int) % ((2 ^ 64 : Nat) : Int)).toNat = 2 ^ 7 - 1 := by decide
  rw [e1,e2,Nat.and_two_pow_sub_one_eq_mod]
 unfold andI
 rw [pin_eq]
 show IntKind.i64.wrap ((BitVec.ofInt 64 a &&& BitVec.ofInt 64 127).toNat : Int) = _
 rw [e,iw (by omega) (by omega)]
 omega
theorem orI128 {x : Int} (h0 : 0 ≤ x) (h1 : x < 128) : orI .i64 x 128 = x + 128 := by
 have e : (BitVec.ofInt 64 x ||| BitVec.ofInt 64 128).toNat = x.toNat + 128 := by
  rw [BitVec.toNat_or,BitVec.toNat_ofInt,BitVec.toNat_ofInt]
  have e1 : (x % ((2 ^ 64 : Nat) : Int)).toNat = x.toNat := by
   rw [p64,Int.emod_eq_of_lt h0 (by omega)]
  have e2 : ((128:Int) % ((2 ^ 64 : Nat) : Int)).toNat = 2 ^ 7 * 1 := by decide
  rw [e1,e2,Nat.or_comm,← Nat.two_pow_add_eq_or_of_lt (by omega)]
  omega
 unfold orI
 rw [pin_eq]
 show IntKind.i64.wrap ((BitVec.ofInt 64 x ||| BitVec.ofInt 64 128).toNat : Int) = _
 rw [e,iw (by omega) (by omega)]
 omega
theorem shr7 {a : Int} (h0 : 0 ≤ a) : shrI .i64 a 7 = a / 128 := by
 unfold shrI
 have : (2:Int) ^ (min (7:Int).toNat IntKind.i64.bits) = 128 := by decide
 rw [this,pin_eq,Int.fdiv_eq_ediv_of_nonneg _ (by omega)]
theorem byte_eq {s0 : Int} (h0 : 127 < s0) (h : s0 ≤ 9223372036854775807) : orI .i64 (andI .i64 s0 (127:Int)) (128:Int) = wrap64 ((s0.tmod (128:Int)) + (128:Int)) := by
 have e : s0.tmod 128 = s0 % 128 := Int.tmod_eq_emod_of_nonneg (by omega)
 rw [andI127 (by omega) h,orI128 (by omega) (by omega),e,w64 (x := s0 % 128 + 128) (by omega) (by omega)]
theorem step_eq {s0 : Int} (h0 : 127 < s0) (h : s0 ≤ 9223372036854775807) : shrI .i64 s0 (7:Int) = wrap64 (s0.tdiv (128:Int)) := by
 have e : s0.tdiv 128 = s0 / 128 := Int.tdiv_eq_ediv_of_nonneg (by omega)
 rw [shr7 (by omega),e,w64 (x := s0 / 128) (by omega) (by omega)]
theorem step_le {s0 : Int} (h0 : 127 < s0) (h : s0 ≤ 9223372036854775807) : wrap64 (s0.tdiv (128:Int)) ≤ 9223372036854775807 := by
 have e : s0.tdiv 128 = s0 / 128 := Int.tdiv_eq_ediv_of_nonneg (by omega)
 rw [e,w64 (x := s0 / 128) (by omega) (by omega)]; omega
theorem var_step {Ω : Type} (N : Nat) (kx : DenS (.pr (.d 0 I) (.o 3 (.i .u8))) → Option Ω) (kr) (f g) {s0 : Int} (s3 : List Int) (h : s0 ≤ 9223372036854775807) (hfg : ∀ a l,a ≤ 9223372036854775807 → f (a,l) = g (a,l)) :
  B_f26_L0 (Ω := Ω) N kx kr f (s0,s3) = B_f57_L0 N kx kr g (s0,s3) := by
 unfold B_f26_L0 B_f57_L0
 by_cases h1 : 127 < s0
 ·simp only [decide_eq_true h1,cond_true,byte_eq h1 h,step_eq h1 h,hfg _ _ (step_le h1 h)]
 ·simp only [decide_eq_false h1,cond_false]
theorem iter_zero {S Ω : Type} (B : (S → Option Ω) → S → Option Ω) (s : S) : iter B 0 s = none := rfl
theorem iter_succ {S Ω : Type} (B : (S → Option Ω) → S → Option Ω) (N : Nat) (s : S) : iter B (N + 1) s = B (iter B N) s := rfl
theorem var_iter {Ω : Type} (N : Nat) (kx : DenS (.pr (.d 0 I) (.o 3 (.i .u8))) → Option Ω) (kr) : ∀ (M : Nat) (s0 : Int) (s3 : List Int),s0 ≤ 9223372036854775807 → iter (B_f26_L0 N kx kr) M (s0,s3) = iter (B_f57_L0 N kx kr) M (s0,s3) := by
 intro M
 induction M with
 | zero => intro s0 s3 _; rw [iter_zero,iter_zero]
 | succ M ih =>
  intro s0 s3 h
  rw [iter_succ,iter_succ]
  exact var_step N kx kr _ _ s3 h ih
theorem varText_eq (N : Nat) {n : Int} (h : n ≤ 9223372036854775807) : x_f26 N n = x_f57 N n := by
 unfold x_f26
 rw [var_iter N _ _ N n [] h]
 rfl
def vt (N : Nat) (n : Int) : ByteArray := (x_f57 N n).getD ByteArray.empty
theorem vt_some {N : Nat} (hN : Big N) {n : Int} (h : n ≤ 9223372036854775807) : x_f57 N n = some (vt N n) ∧ (vt N n).size ≤ 100 ∧ 0 < (vt N n).size := by
 have hN' : 1099511627776 ≤ N := hN
 have key : ∀ (d M : Nat) (s0 : Int) (s3 : List Int),d < M → s0 < ((128 ^ (d + 1) : Nat) : Int) → s0 ≤ 9223372036854775807 → s3.length + d ≤ 90 →
   ∃ r : ByteArray,iter (B_f57_L0 N (fun (x1,x2) => (bif (decide ((x2.length + [(x1 % 256)].length) * 1 ≤ 140737488355328)) then some (txt (x2 ++ [(x1 % 256)])) else none)) (fun ρ3 => some (ρ3))) M (s0,s3) = some r ∧ r.size ≤ 100 ∧ 0 < r.size := by
  intro d
  induction d with
  | zero =>
   intro M s0 s3 hM h1 h2 hl
   obtain ⟨M,rfl⟩ : ∃ K,M = K + 1 := ⟨M - 1,by omega⟩
   show ∃ r,(bif _ then _ else (bif _ then _ else _)) = _ ∧ _
   rw [dF (by simp at h1; omega)]
   simp only [cond_false]
   rw [dT (by simp only [List.length_cons,List.length_nil]; omega)]
   have hs : ∀ l : List Int,(txt l).size = l.length := fun l => by simp [txt,ByteArray.size]
   exact ⟨_,rfl,by rw [hs]; simp; omega,by rw [hs]; simp⟩
  | succ d ih =>
   intro M s0 s3 hM h1 h2 hl
   obtain ⟨M,rfl⟩ : ∃ K,M = K + 1 := ⟨M - 1,by omega⟩
   show ∃ r,(bif _ then _ else (bif _ then _ else _)) = _ ∧ _
   by_cases h3 : 127 < s0
   ·rw [dT h3]
    simp only [cond_true]
    rw [dT (by simp only [List.length_cons,List.length_nil]; omega)]
    simp only [cond_true]
    refine ih M _ _ (by omega) ?_ ?_ (by simp; omega)
    ·rw [Int.tdiv_eq_ediv_of_nonneg (by omega),w64 (by omega) (by omega)]
     rw [Nat.pow_succ] at h1
     generalize 128 ^ (d + 1) = q at h1 ⊢
     omega
    ·rw [Int.tdiv_eq_ediv_of_nonneg (by omega),w64 (by omega) (by omega)]; omega
   ·rw [dF h3]
    simp only [cond_false]
    rw [dT (by simp only [List.length_cons,List.length_nil]; omega)]
    have hs : ∀ l : List Int,(txt l).size = l.length := fun l => by simp [txt,ByteArray.size]
    exact ⟨_,rfl,by rw [hs]; simp; omega,by rw [hs]; simp⟩
 obtain ⟨r,h1,h2,h3⟩ := key 9 N n [] (by omega) (by omega) h (by simp)
 have e : x_f57 N n = some r := h1
 unfold vt
 rw [e]
 exact ⟨rfl,h2,h3⟩
end Go.Proofs.Ytflmdpbhmmohiaa.C
namespace Go.Proofs.Ytflmdpbhmmohiaa.C
open Go Go.Proofs.Ytflmdpbhmmohiaa.Nx Go.RowKit
set_option linter.unusedVariables false
set_option linter.unusedSimpArgs false
def smallC (c : Den tCred) : Prop := ∀ x ∈ [c.1,c.2.1.1,c.2.1.2,c.2.2.1,c.2.2.2.1.1,c.2.2.2.1.2,c.2.2.2.2.1.1,c.2.2.2.2.1.2,c.2.2.2.2.2.1,c.2.2.2.2.2.2],x ≤ 9223372036854775807
def ctext (N : Nat) (c : Den tCred) : ByteArray := (((((((((vt N c.1 ++ vt N c.2.1.1) ++ vt N c.2.1.2) ++ vt N c.2.2.1) ++ vt N c.2.2.2.1.1) ++ vt N c.2.2.2.1.2) ++ vt N c.2.2.2.2.1.1) ++ vt N c.2.2.2.2.1.2) ++ vt N c.2.2.2.2.2.1) ++ vt N c.2.2.2.2.2.2)
theorem spec_CredText {N : Nat} (hN : Big N) (c : Den tCred) (hc : smallC c) : x_f44 N c = some (bif credOk c then ctext N c else ByteArray.empty) ∧ (ctext N c).size ≤ 1000 ∧ 0 < (ctext N c).size := by
 obtain ⟨v1,s1,p1⟩ := vt_some hN (hc c.1 (by simp))
 obtain ⟨v2,s2,p2⟩ := vt_some hN (hc c.2.1.1 (by simp))
 obtain ⟨v3,s3,p3⟩ := vt_some hN (hc c.2.1.2 (by simp))
 obtain ⟨v4,s4,p4⟩ := vt_some hN (hc c.2.2.1 (by simp))
 obtain ⟨v5,s5,p5⟩ := vt_some hN (hc c.2.2.2.1.1 (by simp))
 obtain ⟨v6,s6,p6⟩ := vt_some hN (hc c.2.2.2.1.2 (by simp))
 obtain ⟨v7,s7,p7⟩ := vt_some hN (hc c.2.2.2.2.1.1 (by simp))
 obtain ⟨v8,s8,p8⟩ := vt_some hN (hc c.2.2.2.2.1.2 (by simp))
 obtain ⟨v9,s9,p9⟩ := vt_some hN (hc c.2.2.2.2.2.1 (by simp))
 obtain ⟨v10,s10,p10⟩ := vt_some hN (hc c.2.2.2.2.2.2 (by simp))
 refine ⟨?_,by unfold ctext; simp only [ByteArray.size_append]; omega,by unfold ctext; simp only [ByteArray.size_append]; omega⟩
 unfold x_f44
 rw [credOk_s,Option.bind_some]
 cases credOk c with
 | false => rfl
 | true =>
  simp only [Bool.not_true,cond_false,cond_true]
  rw [v1,Option.bind_some,v2,Option.bind_some,dT (by omega),cond_true,v3,Option.bind_some,dT (by simp only [ByteArray.size_append]; omega),cond_true,v4,Option.bind_some,dT (by simp only [ByteArray.size_append]; omega),cond_true,
   v5,Option.bind_some,dT (by simp only [ByteArray.size_append]; omega),cond_true,v6,Option.bind_some,dT (by simp only [ByteArray.size_append]; omega),cond_true,v7,Option.bind_some,dT (by simp only [ByteArray.size_append]; omega),cond_true,
   v8,Option.bind_some,dT (by simp only [ByteArray.size_append]; omega),cond_true,v9,Option.bind_some,dT (by simp only [ByteArray.size_append]; omega),cond_true,v10,Option.bind_some,dT (by simp only [ByteArray.size_append]; omega),cond_true]
  rfl
theorem impl_CredText {N : Nat} (hN : Big N) (c : Den tCred) (hc : smallC c) : x_f2 N c = some (bif credOk c then ctext N c else ByteArray.empty) := by
 have hN' : 1099511627776 ≤ N := hN
 unfold x_f2
 rw [credOk_i,Option.bind_some]
 cases credOk c with
 | false => rfl
 | true =>
  simp only [Bool.not_true,cond_false,cond_true]
  have key : ∀ (l R pre : List Int) (s : ByteArray) (M : Nat),l = pre ++ R → R.length < M → (∀ x ∈ R,x ≤ 9223372036854775807) → s.size + 100 * R.length ≤ 100000 → l.length ≤ 1000 →
    iter (B_f2_L0 N (fun x3 => some x3) (fun ρ4 => some (ρ4))) M (s,l,(l.length : Int),(pre.length : Int)) = some (R.foldl (fun s x => s ++ vt N x) s) := by
   intro l R
   induction R with
   | nil =>
    intro pre s M ho hM hx hs hl
    obtain ⟨M,rfl⟩ : ∃ K,M = K + 1 := ⟨M - 1,by omega⟩
    rw [iter_succ]
    show (bif _ then _ else _) = _
    rw [dF (by rw [ho]; simp)]; rfl
   | cons x R ih =>
    intro pre s M ho hM hx hs hl
    obtain ⟨M,rfl⟩ : ∃ K,M = K + 1 := ⟨M - 1,by omega⟩
    simp only [List.length_cons] at hM hs
    have hpo : pre.length < l.length := by rw [ho]; simp
    have g1 : l.getD pre.length 0 = x := by rw [ho]; exact gD0 _ _ _ _
    obtain ⟨v,sv,pv⟩ := vt_some hN (hx x (by simp))
    rw [iter_succ]
    show (bif _ then _ else _) = _
    rw [lt_rows l hpo,le_rows pre.length,Int.toNat_natCast,g1,w64_up (Nat.le_refl _) (by omega),varText_eq N (hx x (by simp)),v,Option.bind_some]
    simp only [cond_true,Bool.and_self]
    rw [dT (by omega),cond_true]
    have := ih (pre ++ [x]) (s ++ vt N x) M (by rw [ho]; simp) (by omega) (fun y hy => hx y (by simp [hy])) (by rw [ByteArray.size_append]; omega) hl
    rw [List.length_append] at this
    exact this
  have := key _ _ [] ByteArray.empty N (List.nil_append _).symm (by simp; omega) hc (by simp) (by simp)
  refine Eq.trans this ?_
  simp only [List.foldl_cons,List.foldl_nil,ByteArray.empty_append]
  rfl
def eights (l : List ByteArray) : Bool := l.all fun e => decide ((e.size : Int) = 8)
theorem spec_Long {N : Nat} (hN : Big N) (l : List ByteArray) (hl : l.length ≤ 1048576) : x_f65 N l = some (eights l) := by
 have hN' : 1099511627776 ≤ N := hN
 unfold x_f65
 refine iter_row l (fun i => (l,(i : Int))) (fun i r => some (eights r)) (fun i hi rec_ h => ?_) (fun rec_ => ?_) (by omega)
 ·show (bif _ then _ else _) = _
  rw [lt_rows l hi,le_rows i,getD_at l hi,w64_up (Nat.le_refl i) (by omega),h]
  unfold eights
  rw [List.all_cons]
  cases decide ((l[i].size : Int) = 8) <;> rfl
 ·show (bif _ then _ else _) = _
  rw [dF (Int.lt_irrefl _)]; rfl
theorem impl_Long {N : Nat} (hN : Big N) (l : List ByteArray) (hl : l.length ≤ 1048576) : x_f40 N l = some (!eights l) := by
 have := index_func (d := ByteArray.empty) (L := l) (by omega) () (f := fun x => x_f24 N x) (fun x : ByteArray => !decide ((x.size : Int) = 8)) (fun x _ => rfl) hN (B := B_f41_L0 N (fun _ => some (-1:Int)) (fun ρ2 => some (ρ2))) (fun _ _ _ _ => rfl)
 unfold x_f40 x_f41
 rw [this,Option.bind_some,findI_any]
 unfold eights
 rw [← List.not_all_eq_any_not]
def formF (s : Den tSignature) : Bool := inR s.1 0 3 && (decide ((s.2.1.length : Int) = 11) && (decide ((s.2.2.length : Int) = 2) && (eights s.2.1 && eights s.2.2)))
theorem steps_round {N : Nat} {Ω : Type} (kx kr : Int → Option Ω) (rec_ : DenS (.pr (.d 1 I) (.d 2 I)) → Option Ω) (a b c d : Int) (h : (1:Int) < b) (hc : wrap64 (a + 1) = c) (hd : wrap64 (b.tdiv 2) = d) : B_f67_L0 N kx kr rec_ (a,b) = rec_ (c,d) := by
 subst hc hd
 show (bif decide ((1:Int) < b) then _ else _) = _
 rw [dT h]; rfl
theorem steps_last {N : Nat} {Ω : Type} (kx kr : Int → Option Ω) (rec_ : DenS (.pr (.d 1 I) (.d 2 I)) → Option Ω) (a b : Int) (h : ¬ (1:Int) < b) : B_f67_L0 N kx kr rec_ (a,b) = kx a := by
 show (bif decide ((1:Int) < b) then _ else _) = _
 rw [dF h]; rfl
theorem steps_two {N : Nat} (hN : Big N) : x_f67 N = some 2 := by
 have hN' : 1099511627776 ≤ N := hN
 have key : ∀ K M,M = K + 1 + 1 + 1 → iter (B_f67_L0 N (fun x1 => some x1) (fun ρ2 => some ρ2)) M ((0:Int),(4:Int)) = some 2 := by
  intro K M h
  subst h
  rw [iter_succ,steps_round _ _ _ 0 4 1 2 (by decide) (by decide +kernel) (by decide +kernel),iter_succ,steps_round _ _ _ 1 2 2 1 (by decide) (by decide +kernel) (by decide +kernel),iter_succ,steps_last _ _ _ _ _ (by decide)]
 exact key (N - 3) N (by omega)
theorem spec_Form {N : Nat} (hN : Big N) (s : Den tSignature) (h1 : s.2.1.length ≤ 1048576) (h2 : s.2.2.length ≤ 1048576) : x_f64 N s = some (formF s) := by
 unfold x_f64 formF
 simp only [l01In_eq,steps_two hN,spec_Long hN _ h1,spec_Long hN _ h2,Option.bind_some]
 cases inR s.1 0 3 <;> cases decide ((s.2.1.length : Int) = 11) <;> cases decide ((s.2.2.length : Int) = 2) <;> cases eights s.2.1 <;> rfl
theorem impl_Form {N : Nat} (hN : Big N) (s : Den tSignature) (h1 : s.2.1.length ≤ 1048576) (h2 : s.2.2.length ≤ 1048576) : x_f23 N s = some (formF s) := by
 unfold x_f23 formF
 simp only [in_eq,impl_Long hN _ h1,impl_Long hN _ h2,Option.bind_some,Bool.not_not]
 cases inR s.1 0 3 <;> cases decide ((s.2.1.length : Int) = 11) <;> cases decide ((s.2.2.length : Int) = 2) <;> cases eights s.2.1 <;> rfl
theorem goodI {x : Int} (g : good I x) : x ≤ 9223372036854775807 := Int.le_trans g.2 (by decide)
theorem smallC_good (c : Den tCred) (g : good tCred c) : smallC c := by
 obtain ⟨g1,g2,g3,g4,g5,g6,g7⟩ := g
 intro x hx
 simp only [List.mem_cons,List.not_mem_nil,or_false] at hx
 rcases hx with rfl | rfl | rfl | rfl | rfl | rfl | rfl | rfl | rfl | rfl
 ·exact goodI g1
 ·exact goodI g2.1
 ·exact goodI g2.2
 ·exact goodI g3
 ·exact goodI g4.1
 ·exact goodI g4.2
 ·exact goodI g5.1
 ·exact goodI g5.2
 ·exact goodI g6
 ·exact goodI g7
end Go.Proofs.Ytflmdpbhmmohiaa.C
namespace Go.Proofs.Ytflmdpbhmmohiaa.C
open Go Go.Proofs.Ytflmdpbhmmohiaa.Nx Go.RowKit
set_option linter.unusedVariables false
set_option linter.unusedSimpArgs false
/-! Bytes of texts. -/
theorem byteL_len (s : ByteArray) : (byteL s).length = s.size := by
 unfold byteL
 rw [List.length_map]; rfl
theorem byteL_inj {s t : ByteArray} (h : byteL s = byteL t) : s = t := by
 have e : s.data.toList = t.data.toList := by
  have hi : Function.Injective (fun b : UInt8 => (b.toNat : Int)) := fun a b h => by
   have h : (a.toNat : Int) = (b.toNat : Int) := h
   exact UInt8.toNat_inj.1 (by omega)
  exact List.map_inj_right (fun a b h => hi h) |>.1 h
 cases s; cases t
 simp only [ByteArray.mk.injEq] at *
 exact Array.toList_inj.1 e
theorem byteL_app (s t : ByteArray) : byteL (s ++ t) = byteL s ++ byteL t := by simp [byteL,ByteArray.data_append]
theorem byteL_ext (s : ByteArray) (a b : Nat) : byteL (s.extract a b) = ((byteL s).drop a).take (b - a) := by
 simp [byteL,ByteArray.data_extract,List.extract_eq_take_drop]
theorem byteL_in (s : ByteArray) : ∀ x ∈ byteL s,0 ≤ x ∧ x ≤ 255 := fun x h => by
 obtain ⟨b,_,rfl⟩ := List.mem_map.1 h
 have := b.toNat_lt
 omega
theorem byteL_txt {l : List Int} (h : ∀ x ∈ l,0 ≤ x ∧ x ≤ 255) : byteL (txt l) = l := by
 simp only [byteL,txt,List.map_map]
 refine (List.map_congr_left (g := id) fun x hx => ?_).trans (List.map_id _)
 have := h x hx
 simp only [Function.comp,id,UInt8.toNat_ofNat']
 omega
theorem bu_at (s : ByteArray) (i : Nat) : bu s (i : Int) = (byteL s).getD i 0 := by
 rw [bu_eq]
 simp only [bt,byteL,List.getD,List.getElem?_map,Int.toNat_natCast]
 cases s.data.toList[i]? <;> rfl
/-! Numbers as bytes. -/
def val : List Int → Int
 | [] => 0
 | b :: l => b % 128 + 128 * val l
/-! Numbers read. -/
theorem inB_ok {a b c : Nat} (h1 : a ≤ b) (h2 : b ≤ c) : inB (a : Int) (b : Int) (c : Int) = true := by
 unfold inB
 rw [dT (p := (0:Int) ≤ (a : Int)) (by omega),dT (p := (a : Int) ≤ (b : Int)) (by omega),dT (p := (b : Int) ≤ (c : Int)) (by omega)]; rfl
end Go.Proofs.Ytflmdpbhmmohiaa.C
namespace Go.Proofs.Ytflmdpbhmmohiaa.C
open Go Go.Proofs.Ytflmdpbhmmohiaa.Nx Go.RowKit
set_option linter.unusedVariables false
set_option linter.unusedSimpArgs false
/-! SHA-256. -/
theorem iter_cnt {σ R : Type} {B : (σ → Option R) → σ → Option R} (st : Nat → σ) (n : Nat) {X : Option R} (h1 : ∀ i rec_,i < n → B rec_ (st i) = rec_ (st (i + 1))) (h2 : ∀ rec_,B rec_ (st n) = X) {N : Nat} (hN : n < N) : iter B N (st 0) = X :=
 iter_to (B := B) (A := Unit) (fun i _ => st i) (fun _ _ r => r = X) n (fun i a rec_ hi h => by rw [h1 i rec_ hi]; exact h ()) (fun a rec_ => h2 rec_) N hN ()
def turnI (x k : Int) : Int := orI .u32 (shrI .u32 x k) (shlI .u32 x (32 - k))
theorem turn_i (N : Nat) (x : Int) {k : Int} (h0 : 0 ≤ k) (h1 : k ≤ 32) : x_f25 N x k = some (turnI x k) := by
 unfold x_f25
 rw [w64 (x := 32 - k) (by omega) (by omega),dT h0,dT (show 0 ≤ 32 - k by omega)]; rfl
theorem turn_s (N : Nat) (x : Int) {k : Int} (h0 : 0 ≤ k) (h1 : k ≤ 32) : x_f61 N x k = some (turnI x k) := by
 unfold x_f61
 rw [show ((32:Int) - k) % 18446744073709551616 = 32 - k from by omega,dT h0,dT (show 0 ≤ 32 - k by omega)]; rfl
theorem ix {i : Nat} (hi : i < 64) : wrap64 ((4:Int) * (i : Int)) = ((4 * i : Nat) : Int) := by
 rw [w64 (by omega) (by omega)]; omega
theorem ixa {m c : Nat} (hm : m < 1000) (hc : c < 1000) : wrap64 (((m : Nat) : Int) + ((c : Nat) : Int)) = ((m + c : Nat) : Int) := by
 rw [w64 (by omega) (by omega)]; omega
theorem ix1 {m : Nat} (hm : m < 1000) : wrap64 (((m : Nat) : Int) + (1:Int)) = ((m + 1 : Nat) : Int) := ixa (c := 1) hm (by omega)
theorem ix2 {m : Nat} (hm : m < 1000) : wrap64 (((m : Nat) : Int) + (2:Int)) = ((m + 2 : Nat) : Int) := ixa (c := 2) hm (by omega)
theorem ix3 {m : Nat} (hm : m < 1000) : wrap64 (((m : Nat) : Int) + (3:Int)) = ((m + 3 : Nat) : Int) := ixa (c := 3) hm (by omega)
theorem bn {m n : Nat} (h : m < n) : (decide (0 ≤ ((m : Nat) : Int)) && decide (((m : Nat) : Int) < ((n : Nat) : Int))) = true := by
 simp only [Bool.and_eq_true,decide_eq_true_eq]; omega
theorem bt64 {m : Nat} (h : m < 64) : decide (m < 64) = true := decide_eq_true h
theorem lt64 {m : Nat} (h : m < 64) : decide (((m : Nat) : Int) < (64:Int)) = true := decide_eq_true (by omega)
def w0 (b : ByteArray) (i : Nat) : Int := orI .u32 (orI .u32 (orI .u32 (shlI .u32 ((bu b ((4 * i : Nat) : Int)) % 4294967296) (24:Int)) (shlI .u32 ((bu b ((4 * i + 1 : Nat) : Int)) % 4294967296) (16:Int))) (shlI .u32 ((bu b ((4 * i + 2 : Nat) : Int)) % 4294967296) (8:Int))) ((bu b ((4 * i + 3 : Nat) : Int)) % 4294967296)
def sch0 (b : ByteArray) (i : Nat) : List Int := (List.range i).map (w0 b)
theorem sch0_len (b : ByteArray) (i : Nat) : (sch0 b i).length = i := by simp [sch0]
theorem sch0_succ (b : ByteArray) (i : Nat) : sch0 b (i + 1) = sch0 b i ++ [w0 b i] := by simp [sch0,List.range_succ]
def nxw (w : List Int) (i : Nat) : Int :=
 (((((((w.getD i 0) + (xorI .u32 (xorI .u32 (turnI (w.getD (i + 1) 0) 7) (turnI (w.getD (i + 1) 0) 18)) (shrI .u32 (w.getD (i + 1) 0) (3:Int)))) % 4294967296) + (w.getD (i + 9) 0)) % 4294967296) + (xorI .u32 (xorI .u32 (turnI (w.getD (i + 14) 0) 17) (turnI (w.getD (i + 14) 0) 19)) (shrI .u32 (w.getD (i + 14) 0) (10:Int)))) % 4294967296)
def sch (b : ByteArray) : Nat → List Int
 | 0 => sch0 b 16
 | k + 1 => sch b k ++ [nxw (sch b k) k]
theorem sch_len (b : ByteArray) : ∀ k,(sch b k).length = 16 + k
 | 0 => sch0_len b 16
 | k + 1 => by rw [sch,List.length_append,sch_len b k]; rfl
theorem impl_sch0 {N : Nat} (hN : 100 < N) {Ω : Type} (kx : DenS (.o 3 (.i .u32)) → Option Ω) (kr : List Int → Option Ω) (b : ByteArray) (hb : b.size = 64) : iter (B_f21_L0 N kx kr) N (b,[],(0:Int)) = kx (sch0 b 16) := by
 refine iter_cnt (fun i => (b,sch0 b i,((i : Nat) : Int))) 16 (fun i rec_ hi => ?_) (fun rec_ => ?_) (by omega)
 ·show B_f21_L0 N kx kr rec_ (b,sch0 b i,((i : Nat) : Int)) = rec_ (b,sch0 b (i + 1),((i + 1 : Nat) : Int))
  unfold B_f21_L0
  have hL : decide ((i + 1) * 4 ≤ 140737488355328) = true := decide_eq_true (by omega)
  simp only [ix (show i < 64 by omega),ix1 (show 4 * i < 1000 by omega),ix2 (show 4 * i < 1000 by omega),ix3 (show 4 * i < 1000 by omega),hb,bn (show 4 * i < 64 by omega),bn (show 4 * i + 1 < 64 by omega),bn (show 4 * i + 2 < 64 by omega),bn (show 4 * i + 3 < 64 by omega),dT (show ((i : Nat) : Int) < 16 by omega),sch0_len,List.length_singleton,hL,cond_true,ix1 (show i < 1000 by omega),sch0_succ]
  rfl
 ·show B_f21_L0 N kx kr rec_ (b,sch0 b 16,((16 : Nat) : Int)) = _
  rfl
theorem impl_sch1 {N : Nat} (hN : 100 < N) {Ω : Type} (kx : DenS (.o 3 (.i .u32)) → Option Ω) (kr : List Int → Option Ω) (b : ByteArray) : iter (B_f21_L2 N kx kr) N (sch0 b 16,(16:Int)) = kx (sch b 48) := by
 refine iter_cnt (fun i => (sch b i,((16 + i : Nat) : Int))) 48 (fun i rec_ hi => ?_) (fun rec_ => ?_) (by omega)
 ·show B_f21_L2 N kx kr rec_ (sch b i,((16 + i : Nat) : Int)) = rec_ (sch b i ++ [nxw (sch b i) i],((16 + (i + 1) : Nat) : Int))
  unfold B_f21_L2
  have hL : decide ((16 + i + 1) * 4 ≤ 140737488355328) = true := decide_eq_true (by omega)
  have e15 : wrap64 (((16 + i : Nat) : Int) - (15:Int)) = ((i + 1 : Nat) : Int) := by rw [w64 (by omega) (by omega)]; omega
  have e2 : wrap64 (((16 + i : Nat) : Int) - (2:Int)) = ((i + 14 : Nat) : Int) := by rw [w64 (by omega) (by omega)]; omega
  have e16 : wrap64 (((16 + i : Nat) : Int) - (16:Int)) = ((i : Nat) : Int) := by rw [w64 (by omega) (by omega)]; omega
  have e7 : wrap64 (((16 + i : Nat) : Int) - (7:Int)) = ((i + 9 : Nat) : Int) := by rw [w64 (by omega) (by omega)]; omega
  simp only [lt64 (show 16 + i < 64 by omega),e15,e2,e16,e7,sch_len,bn (show i + 1 < 16 + i by omega),bn (show i + 14 < 16 + i by omega),bn (show i < 16 + i by omega),bn (show i + 9 < 16 + i by omega),cond_true,Int.toNat_natCast,
   turn_i N _ (show (0:Int) ≤ 7 by decide) (by decide),turn_i N _ (show (0:Int) ≤ 18 by decide) (by decide),turn_i N _ (show (0:Int) ≤ 17 by decide) (by decide),turn_i N _ (show (0:Int) ≤ 19 by decide) (by decide),Option.bind_some,List.length_singleton,hL,ix1 (show 16 + i < 1000 by omega)]
  rfl
 ·show B_f21_L2 N kx kr rec_ (sch b 48,((64 : Nat) : Int)) = _
  rfl
theorem impl_sched {N : Nat} (hN : 100 < N) (b : ByteArray) (hb : b.size = 64) : x_f21 N b = some (sch b 48) := by
 unfold x_f21
 rw [impl_sch0 hN _ _ b hb,impl_sch1 hN]
theorem set_mid (A : List Int) (m : Nat) (v : Int) : (A ++ List.replicate (m + 1) (0:Int)).set A.length v = (A ++ [v]) ++ List.replicate m 0 := by
 simp [List.set_append,List.replicate_succ]
theorem getD_left (A B : List Int) {j : Nat} (h : j < A.length) : (A ++ B).getD j 0 = A.getD j 0 := by
 simp [List.getD,List.getElem?_append_left h]
theorem padL_len {n : Nat} {L : List Int} (h : L.length = n) : padL n L = L := by
 unfold padL
 apply List.ext_getElem
 ·simp [h]
 ·intro i h1 h2
  simp [List.getD,h2]
theorem spec_sch0 {N : Nat} (hN : 100 < N) {Ω : Type} (kx kr) (b : ByteArray) (hb : b.size = 64) (h k z : List Int) :
  iter (B_f58_L0 (Ω := Ω) N kx kr) N (b,h,k,z,List.replicate 64 (0:Int),(0:Int)) = kx (h,k,z,sch0 b 16 ++ List.replicate 48 0) := by
 refine iter_cnt (fun i => (b,h,k,z,sch0 b i ++ List.replicate (64 - i) (0:Int),((i : Nat) : Int))) 16 (fun i rec_ hi => ?_) (fun rec_ => ?_) (by omega)
 ·show B_f58_L0 N kx kr rec_ (b,h,k,z,sch0 b i ++ List.replicate (64 - i) (0:Int),((i : Nat) : Int)) = rec_ (b,h,k,z,sch0 b (i + 1) ++ List.replicate (64 - (i + 1)) (0:Int),((i + 1 : Nat) : Int))
  have hs : ∀ v,(padL 64 (sch0 b i ++ List.replicate (64 - i) (0:Int))).set i v = (sch0 b i ++ [v]) ++ List.replicate (64 - (i + 1)) 0 := fun v => by
   rw [padL_len (by rw [List.length_append,sch0_len,List.length_replicate]; omega)]
   have := set_mid (sch0 b i) (64 - (i + 1)) v
   rw [sch0_len,show 64 - (i + 1) + 1 = 64 - i from by omega] at this
   exact this
  unfold B_f58_L0
  simp only [ix (show i < 64 by omega),ix1 (show 4 * i < 1000 by omega),ix2 (show 4 * i < 1000 by omega),ix3 (show 4 * i < 1000 by omega),hb,bn (show 4 * i < 64 by omega),bn (show 4 * i + 1 < 64 by omega),bn (show 4 * i + 2 < 64 by omega),bn (show 4 * i + 3 < 64 by omega),bn (show i < 64 by omega),bt64 (show i < 64 by omega),dT (show ((i : Nat) : Int) < 16 by omega),cond_true,Int.toNat_natCast,hs,ix1 (show i < 1000 by omega),sch0_succ]
  rfl
 ·show B_f58_L0 N kx kr rec_ (b,h,k,z,sch0 b 16 ++ List.replicate 48 (0:Int),((16 : Nat) : Int)) = _
  rfl
theorem spec_sch1 {N : Nat} (hN : 100 < N) {Ω : Type} (kx kr) (b : ByteArray) (h k z : List Int) :
  iter (B_f58_L2 (Ω := Ω) N kx kr) N (h,k,z,sch0 b 16 ++ List.replicate 48 (0:Int),(16:Int)) = kx (h,k,z,sch b 48) := by
 refine iter_cnt (fun i => (h,k,z,sch b i ++ List.replicate (48 - i) (0:Int),((16 + i : Nat) : Int))) 48 (fun i rec_ hi => ?_) (fun rec_ => ?_) (by omega)
 ·show B_f58_L2 N kx kr rec_ (h,k,z,sch b i ++ List.replicate (48 - i) (0:Int),((16 + i : Nat) : Int)) = rec_ (h,k,z,(sch b i ++ [nxw (sch b i) i]) ++ List.replicate (48 - (i + 1)) (0:Int),((16 + (i + 1) : Nat) : Int))
  have hs : ∀ v,(padL 64 (sch b i ++ List.replicate (48 - i) (0:Int))).set (16 + i) v = (sch b i ++ [v]) ++ List.replicate (48 - (i + 1)) 0 := fun v => by
   rw [padL_len (by rw [List.length_append,sch_len,List.length_replicate]; omega)]
   have := set_mid (sch b i) (48 - (i + 1)) v
   rw [sch_len,show 48 - (i + 1) + 1 = 48 - i from by omega] at this
   exact this
  have e15 : wrap64 (((16 + i : Nat) : Int) - (15:Int)) = ((i + 1 : Nat) : Int) := by rw [w64 (by omega) (by omega)]; omega
  have e2 : wrap64 (((16 + i : Nat) : Int) - (2:Int)) = ((i + 14 : Nat) : Int) := by rw [w64 (by omega) (by omega)]; omega
  have e16 : wrap64 (((16 + i : Nat) : Int) - (16:Int)) = ((i : Nat) : Int) := by rw [w64 (by omega) (by omega)]; omega
  have e7 : wrap64 (((16 + i : Nat) : Int) - (7:Int)) = ((i + 9 : Nat) : Int) := by rw [w64 (by omega) (by omega)]; omega
  have g1 := getD_left (sch b i) (List.replicate (48 - i) (0:Int)) (show i + 1 < _ by rw [sch_len]; omega)
  have g14 := getD_left (sch b i) (List.replicate (48 - i) (0:Int)) (show i + 14 < _ by rw [sch_len]; omega)
  have g0 := getD_left (sch b i) (List.replicate (48 - i) (0:Int)) (show i < _ by rw [sch_len]; omega)
  have g9 := getD_left (sch b i) (List.replicate (48 - i) (0:Int)) (show i + 9 < _ by rw [sch_len]; omega)
  unfold B_f58_L2
  simp only [lt64 (show 16 + i < 64 by omega),e15,e2,e16,e7,bn (show i + 1 < 64 by omega),bn (show i + 14 < 64 by omega),bn (show i < 64 by omega),bn (show i + 9 < 64 by omega),bn (show 16 + i < 64 by omega),bt64 (show i + 1 < 64 by omega),bt64 (show i + 14 < 64 by omega),bt64 (show i < 64 by omega),bt64 (show i + 9 < 64 by omega),bt64 (show 16 + i < 64 by omega),cond_true,Int.toNat_natCast,g0,g1,g9,g14,
   turn_s N _ (show (0:Int) ≤ 7 by decide) (by decide),turn_s N _ (show (0:Int) ≤ 18 by decide) (by decide),turn_s N _ (show (0:Int) ≤ 17 by decide) (by decide),turn_s N _ (show (0:Int) ≤ 19 by decide) (by decide),Option.bind_some,hs,ix1 (show 16 + i < 1000 by omega)]
  rfl
 ·show B_f58_L2 N kx kr rec_ (h,k,z,sch b 48 ++ List.replicate 0 (0:Int),((64 : Nat) : Int)) = _
  rw [List.replicate_zero,List.append_nil]
  rfl
theorem xor_cpl (a : Int) : xorI .u32 a 4294967295 = cplI .u32 a := by
 unfold xorI cplI
 rw [pin_eq,BitVec.xor_comm]
 rfl
def rnd (s : List Int) (k w : Int) : List Int :=
 [(((((((((((s.getD 7 0) + (xorI .u32 (xorI .u32 (turnI (s.getD 4 0) 6) (turnI (s.getD 4 0) 11)) (turnI (s.getD 4 0) 25))) % 4294967296) + (xorI .u32 (andI .u32 (s.getD 4 0) (s.getD 5 0)) (andI .u32 (cplI .u32 (s.getD 4 0)) (s.getD 6 0)))) % 4294967296) + k) % 4294967296) + w) % 4294967296) + (((xorI .u32 (xorI .u32 (turnI (s.getD 0 0) 2) (turnI (s.getD 0 0) 13)) (turnI (s.getD 0 0) 22)) + (xorI .u32 (xorI .u32 (andI .u32 (s.getD 0 0) (s.getD 1 0)) (andI .u32 (s.getD 0 0) (s.getD 2 0))) (andI .u32 (s.getD 1 0) (s.getD 2 0)))) % 4294967296)) % 4294967296),s.getD 0 0,s.getD 1 0,s.getD 2 0,
  (((s.getD 3 0) + (((((((((s.getD 7 0) + (xorI .u32 (xorI .u32 (turnI (s.getD 4 0) 6) (turnI (s.getD 4 0) 11)) (turnI (s.getD 4 0) 25))) % 4294967296) + (xorI .u32 (andI .u32 (s.getD 4 0) (s.getD 5 0)) (andI .u32 (cplI .u32 (s.getD 4 0)) (s.getD 6 0)))) % 4294967296) + k) % 4294967296) + w) % 4294967296)) % 4294967296),s.getD 4 0,s.getD 5 0,s.getD 6 0]
theorem eight {l : List Int} (h : l.length = 8) : ∃ a b c d e f g i,l = [a,b,c,d,e,f,g,i] := by
 match l,h with
 | [a,b,c,d,e,f,g,i],_ => exact ⟨a,b,c,d,e,f,g,i,rfl⟩
def rdL (k w h : List Int) : Nat → List Int
 | 0 => h
 | i + 1 => rnd (rdL k w h i) (k.getD i 0) (w.getD i 0)
theorem rdL_len (k w : List Int) {h : List Int} (hh : h.length = 8) : ∀ i,(rdL k w h i).length = 8
 | 0 => hh
 | i + 1 => rfl
end Go.Proofs.Ytflmdpbhmmohiaa.C
namespace Go.Proofs.Ytflmdpbhmmohiaa.C
open Go Go.Proofs.Ytflmdpbhmmohiaa.Nx Go.RowKit
set_option linter.unusedVariables false
set_option linter.unusedSimpArgs false
set_option maxRecDepth 100000
theorem c0 : (decide (0 ≤ (0:Int)) && decide ((0:Int) < ((8 : Nat) : Int))) = true := rfl
theorem c1' : (decide (0 ≤ (1:Int)) && decide ((1:Int) < ((8 : Nat) : Int))) = true := rfl
theorem c2' : (decide (0 ≤ (2:Int)) && decide ((2:Int) < ((8 : Nat) : Int))) = true := rfl
theorem c3' : (decide (0 ≤ (3:Int)) && decide ((3:Int) < ((8 : Nat) : Int))) = true := rfl
theorem c4' : (decide (0 ≤ (4:Int)) && decide ((4:Int) < ((8 : Nat) : Int))) = true := rfl
theorem c5' : (decide (0 ≤ (5:Int)) && decide ((5:Int) < ((8 : Nat) : Int))) = true := rfl
theorem c6' : (decide (0 ≤ (6:Int)) && decide ((6:Int) < ((8 : Nat) : Int))) = true := rfl
theorem c7' : (decide (0 ≤ (7:Int)) && decide ((7:Int) < ((8 : Nat) : Int))) = true := rfl
theorem impl_rds {N : Nat} (hN : 100 < N) {Ω : Type} (kx kr) (o : List Int) {h : List Int} (hh : h.length = 8) (k w : List Int) (hk : k.length = 64) (hw : w.length = 64) :
  iter (B_f12_L2 (Ω := Ω) N kx kr) N (o,h,k,w,(64:Int),(0:Int)) = kx (o,rdL k w h 64) := by
 refine iter_cnt (fun i => (o,rdL k w h i,k,w,(64:Int),((i : Nat) : Int))) 64 (fun i rec_ hi => ?_) (fun rec_ => ?_) (by omega)
 ·show B_f12_L2 N kx kr rec_ (o,rdL k w h i,k,w,(64:Int),((i : Nat) : Int)) = rec_ (o,rnd (rdL k w h i) (k.getD i 0) (w.getD i 0),k,w,(64:Int),((i + 1 : Nat) : Int))
  have hl := rdL_len k w hh i
  generalize rdL k w h i = s at hl ⊢
  unfold B_f12_L2
  simp only [lt64 hi,hl,hk,hw,bn hi,c0,c1',c2',c3',c4',c5',c6',c7',cond_true,turn_i N _ (show (0:Int) ≤ 6 by decide) (by decide),turn_i N _ (show (0:Int) ≤ 11 by decide) (by decide),turn_i N _ (show (0:Int) ≤ 25 by decide) (by decide),turn_i N _ (show (0:Int) ≤ 2 by decide) (by decide),turn_i N _ (show (0:Int) ≤ 13 by decide) (by decide),turn_i N _ (show (0:Int) ≤ 22 by decide) (by decide),Option.bind_some,ix1 (show i < 1000 by omega),Int.toNat_natCast]
  rfl
 ·show B_f12_L2 N kx kr rec_ (o,rdL k w h 64,k,w,(64:Int),((64 : Nat) : Int)) = _
  rfl
theorem spec_rds {N : Nat} (hN : 100 < N) {Ω : Type} (kx kr) (o z : List Int) {h : List Int} (hh : h.length = 8) (k w : List Int) :
  iter (B_f58_L4 (Ω := Ω) N kx kr) N (o,k,z,w,h,(0:Int)) = kx (o,z,rdL k w h 64) := by
 refine iter_cnt (fun i => (o,k,z,w,rdL k w h i,((i : Nat) : Int))) 64 (fun i rec_ hi => ?_) (fun rec_ => ?_) (by omega)
 ·show B_f58_L4 N kx kr rec_ (o,k,z,w,rdL k w h i,((i : Nat) : Int)) = rec_ (o,k,z,w,rnd (rdL k w h i) (k.getD i 0) (w.getD i 0),((i + 1 : Nat) : Int))
  have hl := rdL_len k w hh i
  generalize rdL k w h i = s at hl ⊢
  obtain ⟨a,b,c,d,e,f,g,j,rfl⟩ := eight hl
  unfold B_f58_L4
  simp (config := { zeta := false }) only [lt64 hi,bn hi,bt64 hi,c0,c1',c2',c3',c4',c5',c6',c7',cond_true,xor_cpl,ix1 (show i < 1000 by omega),Int.toNat_natCast]
  rfl
 ·show B_f58_L4 N kx kr rec_ (o,k,z,w,rdL k w h 64,((64 : Nat) : Int)) = _
  rfl
theorem set_build (f : Nat → Int) (L : List Int) {i : Nat} (hi : i < L.length) : ((List.range i).map f ++ L.drop i).set i (f i) = (List.range (i + 1)).map f ++ L.drop (i + 1) := by
 rw [List.drop_eq_getElem_cons hi,List.range_succ,List.map_append,List.set_append_right _ _ (by simp)]
 simp only [List.length_map,List.length_range,Nat.sub_self,List.set_cons_zero,List.append_assoc,List.map_cons,List.map_nil,List.cons_append,List.nil_append]
theorem getD_build (f : Nat → Int) (L : List Int) (i : Nat) : ((List.range i).map f ++ L.drop i).getD i 0 = L.getD i 0 := by
 simp [List.getD,List.getElem?_append_right,List.getElem?_drop]
theorem len_build (f : Nat → Int) (L : List Int) {i n : Nat} (hL : L.length = n) (hi : i ≤ n) : ((List.range i).map f ++ L.drop i).length = n := by
 simp; omega
def blkF (s h : List Int) (i : Nat) : Int := ((h.getD i 0) + (s.getD i 0)) % 4294967296
def K64 : List Int := (x_f60 0).getD []
theorem K64_len : K64.length = 64 := rfl
def blk (h : List Int) (b : ByteArray) : List Int := (List.range 8).map (blkF (rdL K64 (sch b 48) h 64) h)
theorem blk_len (h : List Int) (b : ByteArray) : (blk h b).length = 8 := by simp [blk]
def in32 (h : List Int) : Prop := ∀ x ∈ h,0 ≤ x ∧ x ≤ 4294967295
theorem blk_in (h : List Int) (b : ByteArray) : in32 (blk h b) := fun x hx => by
 obtain ⟨i,_,rfl⟩ := List.mem_map.1 hx
 unfold blkF
 omega
theorem lt8 {m : Nat} (h : m < 8) : decide (((m : Nat) : Int) < (8:Int)) = true := decide_eq_true (by omega)
theorem bt8 {m : Nat} (h : m < 8) : decide (m < 8) = true := decide_eq_true h
theorem spec_add {N : Nat} (hN : 100 < N) {Ω : Type} (kx kr) (z : List Int) {h : List Int} (hh : h.length = 8) (s : List Int) :
  iter (B_f58_L6 (Ω := Ω) N kx kr) N (h,z,s,(0:Int)) = kx ((List.range 8).map (blkF s h),z) := by
 refine iter_cnt (fun i => ((List.range i).map (blkF s h) ++ h.drop i,z,s,((i : Nat) : Int))) 8 (fun i rec_ hi => ?_) (fun rec_ => ?_) (by omega)
 ·show B_f58_L6 N kx kr rec_ ((List.range i).map (blkF s h) ++ h.drop i,z,s,((i : Nat) : Int)) = rec_ ((List.range (i + 1)).map (blkF s h) ++ h.drop (i + 1),z,s,((i + 1 : Nat) : Int))
  have e1 := padL_len (len_build (blkF s h) h hh (Nat.le_of_lt hi))
  have e2 := set_build (blkF s h) h (show i < h.length by omega)
  have e3 := getD_build (blkF s h) h i
  unfold B_f58_L6
  simp only [lt8 hi,bn hi,bt8 hi,cond_true,Int.toNat_natCast,e1,e3,ix1 (show i < 1000 by omega)]
  rw [← e2]
  rfl
 ·show B_f58_L6 N kx kr rec_ ((List.range 8).map (blkF s h) ++ h.drop 8,z,s,((8 : Nat) : Int)) = _
  rw [List.drop_eq_nil_of_le (by omega),List.append_nil]
  rfl
theorem spec_block {N : Nat} (hN : 100 < N) {h : List Int} (hh : h.length = 8) (b : ByteArray) (hb : b.size = 64) : x_f58 N h b K64 = some (blk h b) := by
 unfold x_f58
 have e := fun kx kr => spec_sch0 (Ω := List Int) hN kx kr b hb h K64 (List.replicate 8 (0:Int))
 refine (e _ _).trans ?_
 refine (spec_sch1 hN _ _ b h K64 (List.replicate 8 (0:Int))).trans ?_
 refine (spec_rds hN _ _ h (List.replicate 8 (0:Int)) hh K64 (sch b 48)).trans ?_
 exact spec_add hN _ _ (List.replicate 8 (0:Int)) hh _
theorem in32_get {h : List Int} (hi : in32 h) {i : Nat} (hl : i < h.length) : 0 ≤ h.getD i 0 ∧ h.getD i 0 ≤ 4294967295 := by
 have : h.getD i 0 = h[i] := by simp [List.getD,hl]
 rw [this]
 exact hi _ (List.getElem_mem hl)
theorem in32_mod {h : List Int} (hi : in32 h) {i : Nat} (hl : i < h.length) : h.getD i 0 % 4294967296 = h.getD i 0 := by
 have := in32_get hi hl
 omega
theorem impl_add {N : Nat} (hN : 100 < N) {Ω : Type} (kx kr) {h : List Int} (hh : h.length = 8) (hi32 : in32 h) (s : List Int) (hs : s.length = 8) :
  iter (B_f12_L4 (Ω := Ω) N kx kr) N (h,s,(8:Int),(0:Int)) = kx ((List.range 8).map (blkF s h)) := by
 refine iter_cnt (fun i => ((List.range i).map (blkF s h) ++ h.drop i,s,(8:Int),((i : Nat) : Int))) 8 (fun i rec_ hi => ?_) (fun rec_ => ?_) (by omega)
 ·show B_f12_L4 N kx kr rec_ ((List.range i).map (blkF s h) ++ h.drop i,s,(8:Int),((i : Nat) : Int)) = rec_ ((List.range (i + 1)).map (blkF s h) ++ h.drop (i + 1),s,(8:Int),((i + 1 : Nat) : Int))
  have e1 := len_build (blkF s h) h hh (Nat.le_of_lt hi)
  have e2 := set_build (blkF s h) h (show i < h.length by omega)
  have e3 := getD_build (blkF s h) h i
  have e4 : wrap64 (((h.getD i 0) + (s.getD i 0)) % 4294967296) = blkF s h i := by
   unfold blkF
   rw [w64 (by omega) (by omega)]
  unfold B_f12_L4
  simp only [lt8 hi,hs,bn hi,e1,cond_true,Int.toNat_natCast,e3,ix1 (show i < 1000 by omega),in32_mod hi32 (show i < h.length by omega),e4,e2]
 ·show B_f12_L4 N kx kr rec_ ((List.range 8).map (blkF s h) ++ h.drop 8,s,(8:Int),((8 : Nat) : Int)) = _
  rw [List.drop_eq_nil_of_le (by omega),List.append_nil]
  rfl
theorem impl_take {N : Nat} (hN : 100 < N) {Ω : Type} (kx kr) (b : ByteArray) (o : List Int) {h : List Int} (hh : h.length = 8) (hi32 : in32 h) :
  iter (B_f12_L0 (Ω := Ω) N kx kr) N (b,o,List.replicate 8 (0:Int),h,(8:Int),(0:Int)) = kx (b,o,h) := by
 have hr : (List.replicate 8 (0:Int)).length = 8 := rfl
 have fin : (List.range 8).map (fun i => h.getD i 0) = h := by
  obtain ⟨a,b,c,d,e,f,g,j,rfl⟩ := eight hh
  rfl
 refine iter_cnt (fun i => (b,o,(List.range i).map (fun i => h.getD i 0) ++ (List.replicate 8 (0:Int)).drop i,h,(8:Int),((i : Nat) : Int))) 8 (fun i rec_ hi => ?_) (fun rec_ => ?_) (by omega)
 ·show B_f12_L0 N kx kr rec_ (b,o,(List.range i).map (fun i => h.getD i 0) ++ (List.replicate 8 (0:Int)).drop i,h,(8:Int),((i : Nat) : Int)) = rec_ (b,o,(List.range (i + 1)).map (fun i => h.getD i 0) ++ (List.replicate 8 (0:Int)).drop (i + 1),h,(8:Int),((i + 1 : Nat) : Int))
  have e1 := len_build (fun i => h.getD i 0) (List.replicate 8 (0:Int)) hr (Nat.le_of_lt hi)
  have e2 := set_build (fun i => h.getD i 0) (List.replicate 8 (0:Int)) (show i < (List.replicate 8 (0:Int)).length by rw [hr]; omega)
  have e5 : x_f16 N (h.getD i 0) 0 4294967295 = some true := by
   have := in32_get hi32 (show i < h.length by omega)
   unfold x_f16
   rw [dT this.1,dT this.2]; rfl
  unfold B_f12_L0
  simp only [lt8 hi,hh,bn hi,e1,cond_true,Int.toNat_natCast,ix1 (show i < 1000 by omega),in32_mod hi32 (show i < h.length by omega),e5,Option.bind_some,Bool.not_true,cond_false]
  rw [← e2]
 ·show B_f12_L0 N kx kr rec_ (b,o,(List.range 8).map (fun i => h.getD i 0) ++ [],h,(8:Int),((8 : Nat) : Int)) = _
  rw [List.append_nil,fin]
  rfl
theorem impl_block {N : Nat} (hN : 100 < N) {h : List Int} (hh : h.length = 8) (hi32 : in32 h) (b : ByteArray) (hb : b.size = 64) : x_f12 N h b = some (blk h b) := by
 unfold x_f12
 have e0 : decide ((([] : List Int).length + 8) * 8 ≤ 140737488355328) = true := rfl
 have e1 : (!decide (((8 : Nat) : Int) = (8:Int))) = false := rfl
 have e2 : (!decide (((64 : Nat) : Int) = (64:Int))) = false := rfl
 rw [hh,hb,e0,e1,e2,cond_true,cond_false,cond_false]
 have e3 := fun kx kr => impl_take (Ω := List Int) hN kx kr b h hh hi32
 refine (e3 _ _).trans ?_
 show (x_f20 N).bind _ = _
 rw [show x_f20 N = some K64 from rfl,Option.bind_some,impl_sched hN b hb,Option.bind_some]
 have hw : (sch b 48).length = 64 := sch_len b 48
 have e4 := fun kx kr => impl_rds (Ω := List Int) hN kx kr h hh K64 (sch b 48) K64_len hw
 rw [hw]
 refine (e4 _ _).trans ?_
 show iter _ N (h,rdL K64 (sch b 48) h 64,_,_) = _
 rw [rdL_len K64 (sch b 48) hh 64]
 exact impl_add hN _ _ hh hi32 _ (rdL_len K64 (sch b 48) hh 64)
end Go.Proofs.Ytflmdpbhmmohiaa.C
namespace Go.Proofs.Ytflmdpbhmmohiaa.C
open Go Go.Proofs.Ytflmdpbhmmohiaa.Nx Go.RowKit
set_option linter.unusedVariables false
set_option linter.unusedSimpArgs false
set_option maxRecDepth 100000
/-! Padding, and the digest. -/
def padZ (L : Nat) : Nat := (119 - L % 64) % 64
def lb (n : Int) (j : Nat) : Int := shrI .i64 n ((8 * (7 - j) : Nat) : Int) % 256
def lens (n : Int) (i : Nat) : List Int := (List.range i).map (lb n)
theorem lens_len (n : Int) (i : Nat) : (lens n i).length = i := by simp [lens]
theorem lens_succ (n : Int) (i : Nat) : lens n (i + 1) = lens n i ++ [lb n i] := by simp [lens,List.range_succ]
def padL8 (t : ByteArray) : List Int := ((byteL t ++ [128]) ++ List.replicate (padZ t.size) 0) ++ lens (8 * (t.size : Int)) 8
def pad (t : ByteArray) : ByteArray := txt (padL8 t)
theorem lens_in (n : Int) (i : Nat) : ∀ x ∈ lens n i,0 ≤ x ∧ x ≤ 255 := fun x hx => by
 obtain ⟨j,_,rfl⟩ := List.mem_map.1 hx
 unfold lb
 omega
theorem padL8_in (t : ByteArray) : ∀ x ∈ padL8 t,0 ≤ x ∧ x ≤ 255 := fun x hx => by
 unfold padL8 at hx
 simp only [List.mem_append,List.mem_singleton,List.mem_replicate] at hx
 rcases hx with ((h | h) | h) | h
 ·exact byteL_in t x h
 ·omega
 ·omega
 ·exact lens_in _ _ x h
theorem padL8_len (t : ByteArray) : (padL8 t).length = t.size + 1 + padZ t.size + 8 := by
 unfold padL8
 simp only [List.length_append,byteL_len,List.length_singleton,List.length_replicate,lens_len]
theorem txt_size (l : List Int) : (txt l).size = l.length := by
 show ((l.map fun x => UInt8.ofNat x.toNat).toArray).size = _
 simp
theorem pad_size (t : ByteArray) : (pad t).size % 64 = 0 ∧ (pad t).size ≤ t.size + 73 := by
 unfold pad
 rw [txt_size,padL8_len]
 unfold padZ
 omega
theorem spec_pad0 {N : Nat} (hN : 100 < N) {Ω : Type} (kx kr) (t : ByteArray) (ht : t.size ≤ 4194304) :
  iter (B_f49_L0 (Ω := Ω) N kx kr) N (t,byteL t ++ [(128:Int)]) = kx (t,(byteL t ++ [128]) ++ List.replicate (padZ t.size) 0) := by
 have hl : ∀ i,((byteL t ++ [(128:Int)]) ++ List.replicate i (0:Int)).length = t.size + 1 + i := fun i => by
  simp only [List.length_append,byteL_len,List.length_singleton,List.length_replicate]
 have hz : padZ t.size < 64 := by unfold padZ; omega
 refine (congrArg (iter _ N) (show (t,byteL t ++ [(128:Int)]) = (t,(byteL t ++ [(128:Int)]) ++ List.replicate 0 (0:Int)) by rw [List.replicate_zero,List.append_nil])).trans ?_
 refine iter_cnt (fun i => (t,(byteL t ++ [(128:Int)]) ++ List.replicate i (0:Int))) (padZ t.size) (fun i rec_ hi => ?_) (fun rec_ => ?_) (by omega)
 ·show B_f49_L0 N kx kr rec_ (t,(byteL t ++ [(128:Int)]) ++ List.replicate i (0:Int)) = rec_ (t,(byteL t ++ [(128:Int)]) ++ List.replicate (i + 1) (0:Int))
  have e1 : (((t.size + 1 + i : Nat) : Int).tmod 64) = (((t.size + 1 + i) % 64 : Nat) : Int) := by
   rw [Int.tmod_eq_emod_of_nonneg (by omega)]; omega
  have e2 : (!decide ((((t.size + 1 + i) % 64 : Nat) : Int) = 56)) = true := by
   unfold padZ at hi
   rw [dF (by omega)]; rfl
  have e3 : decide ((t.size + 1 + i + 1) * 1 ≤ 140737488355328) = true := decide_eq_true (by omega)
  unfold B_f49_L0
  simp only [hl,e1,e2,List.length_singleton,e3,cond_true]
  rw [List.replicate_succ',← List.append_assoc]
 ·show B_f49_L0 N kx kr rec_ (t,(byteL t ++ [(128:Int)]) ++ List.replicate (padZ t.size) (0:Int)) = _
  have e1 : (((t.size + 1 + padZ t.size : Nat) : Int).tmod 64) = 56 := by
   rw [Int.tmod_eq_emod_of_nonneg (by omega)]; unfold padZ; omega
  unfold B_f49_L0
  simp only [hl,e1,decide_true,Bool.not_true,cond_false]
theorem spec_pad1 {N : Nat} (hN : 100 < N) {Ω : Type} (kx kr) (l : List Int) (hl : l.length ≤ 100000000) (n : Int) :
  iter (B_f49_L2 (Ω := Ω) N kx kr) N (l,n,(7:Int)) = kx (l ++ lens n 8) := by
 refine (congrArg (iter _ N) (show (l,n,(7:Int)) = (l ++ lens n 0,n,(7:Int) - ((0 : Nat) : Int)) by rw [show lens n 0 = [] from rfl,List.append_nil]; rfl)).trans ?_
 refine iter_cnt (fun i => (l ++ lens n i,n,(7:Int) - ((i : Nat) : Int))) 8 (fun i rec_ hi => ?_) (fun rec_ => ?_) (by omega)
 ·show B_f49_L2 N kx kr rec_ (l ++ lens n i,n,(7:Int) - ((i : Nat) : Int)) = rec_ (l ++ lens n (i + 1),n,(7:Int) - ((i + 1 : Nat) : Int))
  have e1 : ((8:Int) * (((7:Int) - ((i : Nat) : Int)) % 18446744073709551616)) % 18446744073709551616 = ((8 * (7 - i) : Nat) : Int) := by omega
  have e2 : wrap64 ((7:Int) - ((i : Nat) : Int) - 1) = (7:Int) - ((i + 1 : Nat) : Int) := by rw [w64 (by omega) (by omega)]; omega
  have e3 : decide ((l.length + i + 1) * 1 ≤ 140737488355328) = true := decide_eq_true (by omega)
  unfold B_f49_L2
  simp only [dT (show (0:Int) ≤ (7:Int) - ((i : Nat) : Int) by omega),e1,dT (show (0:Int) ≤ ((8 * (7 - i) : Nat) : Int) by omega),List.length_append,lens_len,List.length_singleton,e3,cond_true,e2]
  rw [lens_succ,← List.append_assoc]
  rfl
 ·show B_f49_L2 N kx kr rec_ (l ++ lens n 8,n,(7:Int) - ((8 : Nat) : Int)) = _
  rfl
theorem spec_Pad {N : Nat} (hN : 100 < N) (t : ByteArray) (ht : t.size ≤ 4194304) : x_f49 N t = some (pad t) := by
 unfold x_f49
 have hz : padZ t.size < 64 := by unfold padZ; omega
 rw [dT (show ((byteL t).length + [(128:Int)].length) * 1 ≤ 140737488355328 by rw [byteL_len,List.length_singleton]; omega),cond_true]
 refine (spec_pad0 hN _ _ t ht).trans ?_
 show iter _ N (_,wrap64 (8 * (t.size : Int)),7) = _
 rw [w64 (x := 8 * (t.size : Int)) (by omega) (by omega)]
 refine (spec_pad1 hN _ _ _ ?_ _).trans rfl
 simp only [List.length_append,byteL_len,List.length_singleton,List.length_replicate]
 omega
theorem shr_div {n : Int} (h0 : 0 ≤ n) {k : Nat} (hk : k ≤ 64) : shrI .i64 n ((k : Nat) : Int) = n / 2 ^ k := by
 unfold shrI
 rw [pin_eq,Int.toNat_natCast,show min k IntKind.i64.bits = k from by show min k 64 = k; omega,Int.fdiv_eq_ediv_of_nonneg _ (Int.le_of_lt (Int.pow_pos (by omega)))]
theorem impl_pad0 {M : Nat} {Ω : Type} (N : Nat) (kx kr) (p : ByteArray) (n : Int) :
  iter (B_f7_L0 (Ω := Ω) N kx kr) (M + 9) (p,n,List.replicate 8 (0:Int),(7:Int)) = kx (p,[shrI .i64 (shrI .i64 (shrI .i64 (shrI .i64 (shrI .i64 (shrI .i64 (shrI .i64 n 8) 8) 8) 8) 8) 8) 8 % 256,shrI .i64 (shrI .i64 (shrI .i64 (shrI .i64 (shrI .i64 (shrI .i64 n 8) 8) 8) 8) 8) 8 % 256,shrI .i64 (shrI .i64 (shrI .i64 (shrI .i64 (shrI .i64 n 8) 8) 8) 8) 8 % 256,shrI .i64 (shrI .i64 (shrI .i64 (shrI .i64 n 8) 8) 8) 8 % 256,shrI .i64 (shrI .i64 (shrI .i64 n 8) 8) 8 % 256,shrI .i64 (shrI .i64 n 8) 8 % 256,shrI .i64 n 8 % 256,n % 256]) := by
 kernel_rfl
theorem lens_eq {n : Int} (h0 : 0 ≤ n) : [shrI .i64 (shrI .i64 (shrI .i64 (shrI .i64 (shrI .i64 (shrI .i64 (shrI .i64 n 8) 8) 8) 8) 8) 8) 8 % 256,shrI .i64 (shrI .i64 (shrI .i64 (shrI .i64 (shrI .i64 (shrI .i64 n 8) 8) 8) 8) 8) 8 % 256,shrI .i64 (shrI .i64 (shrI .i64 (shrI .i64 (shrI .i64 n 8) 8) 8) 8) 8 % 256,shrI .i64 (shrI .i64 (shrI .i64 (shrI .i64 n 8) 8) 8) 8 % 256,shrI .i64 (shrI .i64 (shrI .i64 n 8) 8) 8 % 256,shrI .i64 (shrI .i64 n 8) 8 % 256,shrI .i64 n 8 % 256,n % 256] = lens n 8 := by
 have s8 : ∀ {m : Int},0 ≤ m → shrI .i64 m 8 = m / 256 := fun h => shr_div (k := 8) h (by omega)
 have e : lens n 8 = [shrI .i64 n ((56 : Nat) : Int) % 256,shrI .i64 n ((48 : Nat) : Int) % 256,shrI .i64 n ((40 : Nat) : Int) % 256,shrI .i64 n ((32 : Nat) : Int) % 256,shrI .i64 n ((24 : Nat) : Int) % 256,shrI .i64 n ((16 : Nat) : Int) % 256,shrI .i64 n ((8 : Nat) : Int) % 256,shrI .i64 n ((0 : Nat) : Int) % 256] := rfl
 rw [e,shr_div h0 (by omega),shr_div h0 (by omega),shr_div h0 (by omega),shr_div h0 (by omega),shr_div h0 (by omega),shr_div h0 (by omega),shr_div h0 (by omega),shr_div h0 (by omega)]
 have q1 : 0 ≤ n / 256 := by omega
 have q2 : 0 ≤ n / 256 / 256 := by omega
 have q3 : 0 ≤ n / 256 / 256 / 256 := by omega
 have q4 : 0 ≤ n / 256 / 256 / 256 / 256 := by omega
 have q5 : 0 ≤ n / 256 / 256 / 256 / 256 / 256 := by omega
 have q6 : 0 ≤ n / 256 / 256 / 256 / 256 / 256 / 256 := by omega
 rw [s8 h0,s8 q1,s8 q2,s8 q3,s8 q4,s8 q5,s8 q6]
 simp only [List.cons.injEq,and_true]
 refine ⟨?_,?_,?_,?_,?_,?_,?_,?_⟩ <;> omega
theorem rep0 : ∀ z,(Lib.repeatL ((⟨#[0]⟩ : ByteArray).data.toList) z).map (fun b => (b.toNat : Int)) = List.replicate z (0:Int)
 | 0 => rfl
 | z + 1 => by
  rw [Lib.repeatL,List.map_append,rep0 z,List.replicate_succ]; rfl
theorem impl_Pad {N : Nat} (hN : 100 < N) (t : ByteArray) (ht : t.size ≤ 4194304) : x_f7 N t = some (pad t) := by
 unfold x_f7
 have hz : padZ t.size < 64 := by unfold padZ; omega
 have h1 : (⟨#[128]⟩ : ByteArray).size = 1 := rfl
 have hs : (t ++ (⟨#[128]⟩ : ByteArray)).size = t.size + 1 := by rw [ByteArray.size_append]; rfl
 have ez : (wrap64 ((wrap64 ((56:Int) - (((t.size + 1 : Nat) : Int).tmod (64:Int)))) + (64:Int))).tmod (64:Int) = ((padZ t.size : Nat) : Int) := by
  rw [Int.tmod_eq_emod_of_nonneg (a := ((t.size + 1 : Nat) : Int)) (by omega),w64 (x := (56:Int) - ((t.size + 1 : Nat) : Int) % 64) (by omega) (by omega),w64 (x := (56:Int) - ((t.size + 1 : Nat) : Int) % 64 + 64) (by omega) (by omega),Int.tmod_eq_emod_of_nonneg (by omega)]
  unfold padZ
  omega
 rw [hs,h1,dT (show t.size + 1 ≤ 4611686018427387904 by omega),cond_true,ez]
 have er : x_f69 N (⟨#[0]⟩ : ByteArray) ((padZ t.size : Nat) : Int) = some ⟨(Lib.repeatL ((⟨#[0]⟩ : ByteArray).data.toList) (padZ t.size)).toArray⟩ := by
  unfold x_f69
  rw [show (⟨#[0]⟩ : ByteArray).size = 1 from rfl,dT (show (0:Int) ≤ ((padZ t.size : Nat) : Int) by omega),dT (show ((1 : Nat) : Int) * ((padZ t.size : Nat) : Int) ≤ 140737488355328 by omega),dT (show ((padZ t.size : Nat) : Int) ≤ 140737488355328 by omega)]
  rfl
 rw [er,Option.bind_some]
 generalize hR : (⟨(Lib.repeatL ((⟨#[0]⟩ : ByteArray).data.toList) (padZ t.size)).toArray⟩ : ByteArray) = R
 have bR : byteL R = List.replicate (padZ t.size) 0 := by rw [← hR]; exact rep0 _
 have sR : R.size = padZ t.size := by rw [← byteL_len,bR,List.length_replicate]
 rw [dT (show (t.size + 1) + R.size ≤ 4611686018427387904 by omega),cond_true]
 rw [show (decide ((8:Int) = (8:Int)) && (decide (0 ≤ (8:Int)) && (decide ((8:Int) * (1 : Nat) ≤ 140737488355328) && decide ((8:Int) ≤ 9223372036854775807)))) = true from rfl,cond_true]
 obtain ⟨M,rfl⟩ : ∃ M,N = M + 9 := ⟨N - 9,by omega⟩
 refine (impl_pad0 (M + 9) _ _ _ _).trans ?_
 rw [w64 (x := 8 * (t.size : Int)) (by omega) (by omega)]
 simp only []
 rw [lens_eq (show (0:Int) ≤ 8 * (t.size : Int) by omega)]
 have es : ((t ++ (⟨#[128]⟩ : ByteArray)) ++ R).size = t.size + 1 + padZ t.size := by rw [ByteArray.size_append,hs,sR]
 rw [es,txt_size,lens_len,dT (show t.size + 1 + padZ t.size + 8 ≤ 4611686018427387904 by omega),cond_true]
 congr 1
 apply byteL_inj
 unfold pad
 rw [byteL_txt (padL8_in t),byteL_app,byteL_app,byteL_app,byteL_txt (lens_in _ _),bR]
 rfl
def H0 : List Int := (x_f59 0).getD []
def dgL (p : ByteArray) : Nat → List Int
 | 0 => H0
 | i + 1 => blk (dgL p i) (p.extract (64 * i) (64 * i + 64))
theorem dgL_ok (p : ByteArray) : ∀ i,(dgL p i).length = 8 ∧ in32 (dgL p i)
 | 0 => ⟨rfl,fun x hx => by
  have h : ∀ x ∈ [(1779033703:Int),(3144134277:Int),(1013904242:Int),(2773480762:Int),(1359893119:Int),(2600822924:Int),(528734635:Int),(1541459225:Int)],0 ≤ x ∧ x ≤ 4294967295 := by decide
  exact h x hx⟩
 | i + 1 => ⟨blk_len _ _,blk_in _ _⟩
def dgB : List Int → List Int
 | [] => []
 | n :: l => (shrI .u32 n (24:Int)) % 256 :: (shrI .u32 n (16:Int)) % 256 :: (shrI .u32 n (8:Int)) % 256 :: n % 256 :: dgB l
def dig (t : ByteArray) : ByteArray := txt (dgB (dgL (pad t) ((pad t).size / 64)))
theorem dig_size (t : ByteArray) : (dig t).size = 32 := by
 unfold dig
 rw [txt_size]
 obtain ⟨a,b,c,d,e,f,g,j,h⟩ := eight (dgL_ok (pad t) ((pad t).size / 64)).1
 rw [h]; rfl
theorem spec_out {M : Nat} {Ω : Type} (N : Nat) (kx kr) (a b c d e f g j : Int) :
  iter (B_f46_L2 (Ω := Ω) N kx kr) (M + 9) ([a,b,c,d,e,f,g,j],List.replicate 32 (0:Int),(0:Int)) = kx (dgB [a,b,c,d,e,f,g,j]) := by
 kernel_rfl
theorem impl_out {M : Nat} {Ω : Type} (N : Nat) (kx kr) (a b c d e f g j : Int) :
  iter (B_f4_L2 (Ω := Ω) N kx kr) (M + 9) ([],[a,b,c,d,e,f,g,j],(8:Int),(0:Int)) = kx (dgB [a,b,c,d,e,f,g,j]) := by
 kernel_rfl
theorem sub64 {p : ByteArray} {i : Nat} (h : 64 * i + 64 ≤ p.size) : (p.extract (64 * i) (64 * i + 64)).size = 64 := by
 rw [ByteArray.size_extract]; omega
theorem spec_Digest {N : Nat} (hN : 1000000 < N) (t : ByteArray) (ht : t.size ≤ 4194304) : x_f46 N t = some (dig t) := by
 unfold x_f46
 rw [show x_f59 N = some H0 from rfl,show x_f60 N = some K64 from rfl,spec_Pad (by omega) t ht,Option.bind_some,Option.bind_some,Option.bind_some]
 obtain ⟨p1,p2⟩ := pad_size t
 generalize hp : pad t = p at p1 p2
 have key : ∀ kx kr,iter (B_f46_L0 (Ω := ByteArray) N kx kr) N (H0,K64,p,(0:Int)) = kx (dgL p (p.size / 64)) := fun kx kr => by
  refine iter_cnt (fun i => (dgL p i,K64,p,((64 * i : Nat) : Int))) (p.size / 64) (fun i rec_ hi => ?_) (fun rec_ => ?_) (by omega)
  ·show B_f46_L0 N kx kr rec_ (dgL p i,K64,p,((64 * i : Nat) : Int)) = rec_ (blk (dgL p i) (p.extract (64 * i) (64 * i + 64)),K64,p,((64 * (i + 1) : Nat) : Int))
   have e1 : wrap64 (((64 * i : Nat) : Int) + 64) = ((64 * i + 64 : Nat) : Int) := by rw [w64 (by omega) (by omega)]; omega
   unfold B_f46_L0
   simp only [dT (show ((64 * i : Nat) : Int) < (p.size : Int) by omega),e1,inB_ok (show 64 * i ≤ 64 * i + 64 by omega) (show 64 * i + 64 ≤ p.size by omega),cond_true,Int.toNat_natCast,spec_block (show 100 < N by omega) (dgL_ok p i).1 _ (sub64 (show 64 * i + 64 ≤ p.size by omega)),Option.bind_some]
   rfl
  ·show B_f46_L0 N kx kr rec_ (dgL p (p.size / 64),K64,p,((64 * (p.size / 64) : Nat) : Int)) = _
   unfold B_f46_L0
   simp only [dF (show ¬ ((64 * (p.size / 64) : Nat) : Int) < (p.size : Int) by omega),cond_false]
 rw [key]
 rw [show (decide ((32:Int) = (32:Int)) && (decide (0 ≤ (32:Int)) && (decide ((32:Int) * (1 : Nat) ≤ 140737488355328) && decide ((32:Int) ≤ 9223372036854775807)))) = true from rfl,cond_true]
 obtain ⟨M,rfl⟩ : ∃ M,N = M + 9 := ⟨N - 9,by omega⟩
 unfold dig
 rw [hp]
 obtain ⟨a,b,c,d,e,f,g,j,h⟩ := eight (dgL_ok p (p.size / 64)).1
 rw [h]
 exact spec_out (M + 9) _ _ a b c d e f g j
theorem impl_Digest {N : Nat} (hN : 1000000 < N) (t : ByteArray) (ht : t.size ≤ 4194304) : x_f4 N t = some (dig t) := by
 unfold x_f4
 rw [show x_f13 N = some H0 from rfl,impl_Pad (by omega) t ht,Option.bind_some,Option.bind_some]
 obtain ⟨p1,p2⟩ := pad_size t
 generalize hp : pad t = p at p1 p2
 have key : ∀ kx kr,iter (B_f4_L0 (Ω := ByteArray) N kx kr) N (H0,p,(0:Int)) = kx (dgL p (p.size / 64)) := fun kx kr => by
  refine iter_cnt (fun i => (dgL p i,p,((64 * i : Nat) : Int))) (p.size / 64) (fun i rec_ hi => ?_) (fun rec_ => ?_) (by omega)
  ·show B_f4_L0 N kx kr rec_ (dgL p i,p,((64 * i : Nat) : Int)) = rec_ (blk (dgL p i) (p.extract (64 * i) (64 * i + 64)),p,((64 * (i + 1) : Nat) : Int))
   have e1 : wrap64 (((64 * i : Nat) : Int) + 64) = ((64 * i + 64 : Nat) : Int) := by rw [w64 (by omega) (by omega)]; omega
   unfold B_f4_L0
   simp only [dT (show ((64 * i : Nat) : Int) < (p.size : Int) by omega),e1,inB_ok (show 64 * i ≤ 64 * i + 64 by omega) (show 64 * i + 64 ≤ p.size by omega),cond_true,Int.toNat_natCast,impl_block (show 100 < N by omega) (dgL_ok p i).1 (dgL_ok p i).2 _ (sub64 (show 64 * i + 64 ≤ p.size by omega)),Option.bind_some]
   rfl
  ·show B_f4_L0 N kx kr rec_ (dgL p (p.size / 64),p,((64 * (p.size / 64) : Nat) : Int)) = _
   unfold B_f4_L0
   simp only [dF (show ¬ ((64 * (p.size / 64) : Nat) : Int) < (p.size : Int) by omega),cond_false]
 rw [key]
 obtain ⟨M,rfl⟩ : ∃ M,N = M + 9 := ⟨N - 9,by omega⟩
 unfold dig
 rw [hp]
 obtain ⟨a,b,c,d,e,f,g,j,h⟩ := eight (dgL_ok p (p.size / 64)).1
 rw [h]
 exact impl_out (M + 9) _ _ a b c d e f g j
end Go.Proofs.Ytflmdpbhmmohiaa.C
namespace Go.Proofs.Ytflmdpbhmmohiaa.C
open Go Go.Proofs.Ytflmdpbhmmohiaa.Nx Go.RowKit
set_option linter.unusedVariables false
set_option linter.unusedSimpArgs false
set_option maxRecDepth 100000
/-! Keys and chains. -/
def fCut (s : ByteArray) : ByteArray := (dig s).extract 0 8
theorem fCut_size (s : ByteArray) : (fCut s).size = 8 := by
 unfold fCut
 rw [ByteArray.size_extract,dig_size]; rfl
theorem spec_cut {N : Nat} (hN : 1000000 < N) (s : ByteArray) (hs : s.size ≤ 4194304) : x_f62 N s = some (fCut s) := by
 unfold x_f62 x_f45
 rw [show x_f56 N (8:Int) (1:Int) (32:Int) = some true from rfl,Option.bind_some,spec_Digest hN s hs]
 simp only [Bool.not_true,cond_false,Option.bind_some,dig_size]
 rfl
theorem impl_short {N : Nat} (hN : 1000000 < N) (k : Int) (s : ByteArray) (hs : s.size ≤ 4194303) : x_f22 N k s = some (fCut (txt [k] ++ s)) := by
 have h1 : (txt [k]).size = 1 := rfl
 unfold x_f22 x_f3
 rw [h1,dT (show 1 + s.size ≤ 4611686018427387904 by omega),cond_true,show x_f16 N (8:Int) (1:Int) (32:Int) = some true from rfl,Option.bind_some,impl_Digest hN _ (by rw [ByteArray.size_append,h1]; omega)]
 simp only [Bool.not_true,cond_false,Option.bind_some,dig_size]
 rfl
def kC : ByteArray := ⟨#[99]⟩
def kN : ByteArray := ⟨#[110]⟩
def kL : ByteArray := ⟨#[108]⟩
def kS : ByteArray := ⟨#[115]⟩
theorem txtC : txt [(99:Int)] = kC := rfl
theorem txtN : txt [(110:Int)] = kN := rfl
theorem txtL : txt [(108:Int)] = kL := rfl
theorem txtS : txt [(115:Int)] = kS := rfl
def fChN (s : ByteArray) : Nat → ByteArray
 | 0 => s
 | k + 1 => fCut (kC ++ fChN s k)
theorem fChN_size (s : ByteArray) (k : Nat) : (fChN s k).size ≤ s.size + 8 := by
 cases k with
 | zero => exact Nat.le_add_right _ _
 | succ k => rw [fChN,fCut_size]; omega
def fCh (s : ByteArray) (n : Int) : ByteArray := fChN s (min n.toNat 3)
theorem fCh_size (s : ByteArray) (n : Int) : (fCh s n).size ≤ s.size + 8 := fChN_size s _
theorem spec_Chain {N : Nat} (hN : 1000000 < N) (s : ByteArray) (hs : s.size ≤ 1000000) (n : Int) : x_f42 N s n = some (fCh s n) := by
 unfold x_f42 fCh
 refine iter_cnt (fun i => (fChN s i,n,((i : Nat) : Int))) (min n.toNat 3) (fun i rec_ hi => ?_) (fun rec_ => ?_) (by omega)
 ·show B_f42_L0 N _ _ rec_ (fChN s i,n,((i : Nat) : Int)) = rec_ (fChN s (i + 1),n,((i + 1 : Nat) : Int))
  have := fChN_size s i
  have h1 : (⟨#[99]⟩ : ByteArray).size = 1 := rfl
  unfold B_f42_L0
  simp only [dT (show ((i : Nat) : Int) < n by omega),dT (show ((i : Nat) : Int) < 3 by omega),h1,dT (show 1 + (fChN s i).size ≤ 4611686018427387904 by omega),cond_true,ix1 (show i < 1000 by omega)]
  rw [spec_cut hN _ (by rw [ByteArray.size_append,h1]; omega),Option.bind_some]
  rfl
 ·show B_f42_L0 N _ _ rec_ (fChN s (min n.toNat 3),n,((min n.toNat 3 : Nat) : Int)) = _
  unfold B_f42_L0
  by_cases h : ((min n.toNat 3 : Nat) : Int) < n
  ·simp only [dT h,dF (show ¬ ((min n.toNat 3 : Nat) : Int) < 3 by omega),cond_true,cond_false]
  ·simp only [dF h,cond_false]
theorem impl_Chain {N : Nat} (hN : 1000000 < N) (s : ByteArray) (hs : s.size ≤ 1000000) (n : Int) : x_f0 N s n = some (fCh s n) := by
 unfold x_f0 fCh
 rw [show (if (if (3:Int) < n then (3:Int) else n) > (0:Int) then (if (3:Int) < n then (3:Int) else n) else (0:Int)) = ((min n.toNat 3 : Nat) : Int) by split <;> split <;> omega]
 refine iter_cnt (fun i => (fChN s i,((min n.toNat 3 : Nat) : Int),((i : Nat) : Int))) (min n.toNat 3) (fun i rec_ hi => ?_) (fun rec_ => ?_) (by omega)
 ·show B_f0_L0 N _ _ rec_ (fChN s i,((min n.toNat 3 : Nat) : Int),((i : Nat) : Int)) = rec_ (fChN s (i + 1),((min n.toNat 3 : Nat) : Int),((i + 1 : Nat) : Int))
  have := fChN_size s i
  unfold B_f0_L0
  simp only [dT (show ((i : Nat) : Int) < ((min n.toNat 3 : Nat) : Int) by omega),cond_true,impl_short hN 99 (fChN s i) (by omega),Option.bind_some,txtC,ix1 (show i < 1000 by omega)]
  rfl
 ·show B_f0_L0 N _ _ rec_ (fChN s (min n.toNat 3),((min n.toNat 3 : Nat) : Int),((min n.toNat 3 : Nat) : Int)) = _
  unfold B_f0_L0
  simp only [dF (show ¬ ((min n.toNat 3 : Nat) : Int) < ((min n.toNat 3 : Nat) : Int) by omega),cond_false]
def fSec (N : Nat) (seed leaf i : Int) : ByteArray :=
 bif inR seed 0 1000000 && (inR leaf 0 1000000 && inR i 0 1000000) then fCut (((kS ++ vt N seed) ++ vt N leaf) ++ vt N i) else ByteArray.empty
theorem fSec_size (N : Nat) (seed leaf i : Int) : (fSec N seed leaf i).size ≤ 8 := by
 unfold fSec
 cases inR seed 0 1000000 && (inR leaf 0 1000000 && inR i 0 1000000) with
 | false => exact Nat.zero_le _
 | true => rw [cond_true,fCut_size]; exact Nat.le_refl _
theorem inR_le {n a b : Int} (h : inR n a b = true) : a ≤ n ∧ n ≤ b := by
 unfold inR at h
 simpa using h
theorem spec_Sec {N : Nat} (hN : Big N) (seed leaf i : Int) : x_f52 N seed leaf i = some (fSec N seed leaf i) := by
 have hN' : 1099511627776 ≤ N := hN
 unfold x_f52 x_f63 fSec
 rw [l01In_eq,l01In_eq,l01In_eq]
 simp only [Option.bind_some]
 cases h1 : inR seed 0 1000000 with
 | false => rfl
 | true =>
  cases h2 : inR leaf 0 1000000 with
  | false => rfl
  | true =>
   cases h3 : inR i 0 1000000 with
   | false => rfl
   | true =>
    have g1 := inR_le h1
    have g2 := inR_le h2
    have g3 := inR_le h3
    obtain ⟨v1,s1,p1⟩ := vt_some hN (show seed ≤ 9223372036854775807 by omega)
    obtain ⟨v2,s2,p2⟩ := vt_some hN (show leaf ≤ 9223372036854775807 by omega)
    obtain ⟨v3,s3,p3⟩ := vt_some hN (show i ≤ 9223372036854775807 by omega)
    have hk : (⟨#[115]⟩ : ByteArray).size = 1 := rfl
    simp only [Bool.not_true,cond_false,v1,v2,v3,Option.bind_some,ByteArray.size_append,hk,dT (show 1 + (vt N seed).size ≤ 4611686018427387904 by omega),dT (show 1 + (vt N seed).size + (vt N leaf).size ≤ 4611686018427387904 by omega),dT (show 1 + (vt N seed).size + (vt N leaf).size + (vt N i).size ≤ 4611686018427387904 by omega),cond_true]
    rw [spec_cut (by omega) _ (by simp only [ByteArray.size_append,hk]; omega),Option.bind_some]
    rfl
theorem impl_Sec {N : Nat} (hN : Big N) (seed leaf i : Int) : x_f10 N seed leaf i = some (fSec N seed leaf i) := by
 have hN' : 1099511627776 ≤ N := hN
 unfold x_f10 fSec
 rw [in_eq,in_eq,in_eq]
 simp only [Option.bind_some]
 cases h1 : inR seed 0 1000000 with
 | false => rfl
 | true =>
  cases h2 : inR leaf 0 1000000 with
  | false => rfl
  | true =>
   cases h3 : inR i 0 1000000 with
   | false => rfl
   | true =>
    have g1 := inR_le h1
    have g2 := inR_le h2
    have g3 := inR_le h3
    obtain ⟨v1,s1,p1⟩ := vt_some hN (show seed ≤ 9223372036854775807 by omega)
    obtain ⟨v2,s2,p2⟩ := vt_some hN (show leaf ≤ 9223372036854775807 by omega)
    obtain ⟨v3,s3,p3⟩ := vt_some hN (show i ≤ 9223372036854775807 by omega)
    simp only [Bool.not_true,cond_false,varText_eq N (show seed ≤ 9223372036854775807 by omega),varText_eq N (show leaf ≤ 9223372036854775807 by omega),varText_eq N (show i ≤ 9223372036854775807 by omega),v1,v2,v3,Option.bind_some,ByteArray.size_append,dT (show (vt N seed).size + (vt N leaf).size ≤ 4611686018427387904 by omega),dT (show (vt N seed).size + (vt N leaf).size + (vt N i).size ≤ 4611686018427387904 by omega),cond_true]
    rw [impl_short (by omega) _ _ (by simp only [ByteArray.size_append]; omega),Option.bind_some,txtS]
    simp only [Bool.and_self,cond_true,ByteArray.append_assoc]
def catL (N : Nat) (seed leaf : Int) : Nat → ByteArray
 | 0 => ByteArray.empty
 | i + 1 => catL N seed leaf i ++ fCh (fSec N seed leaf ((i : Nat) : Int)) 3
theorem catL_size (N : Nat) (seed leaf : Int) : ∀ i,(catL N seed leaf i).size ≤ 16 * i
 | 0 => Nat.zero_le _
 | i + 1 => by
  have h1 := catL_size N seed leaf i
  have h2 := fCh_size (fSec N seed leaf ((i : Nat) : Int)) 3
  have h3 := fSec_size N seed leaf ((i : Nat) : Int)
  rw [catL,ByteArray.size_append]; omega
def fLeaf (N : Nat) (seed leaf : Int) : ByteArray := fCut (kL ++ catL N seed leaf 11)
theorem spec_Leaf {N : Nat} (hN : Big N) (seed leaf : Int) : x_f48 N seed leaf = some (fLeaf N seed leaf) := by
 have hN' : 1099511627776 ≤ N := hN
 have hk : kL.size = 1 := rfl
 unfold x_f48
 refine (congrArg (iter _ N) (show (seed,leaf,(⟨#[108]⟩ : ByteArray),(0:Int)) = (seed,leaf,kL ++ catL N seed leaf 0,((0 : Nat) : Int)) by rw [catL,ByteArray.append_empty]; rfl)).trans ?_
 refine iter_cnt (fun i => (seed,leaf,kL ++ catL N seed leaf i,((i : Nat) : Int))) 11 (fun i rec_ hi => ?_) (fun rec_ => ?_) (by omega)
 ·show B_f48_L0 N _ _ rec_ (seed,leaf,kL ++ catL N seed leaf i,((i : Nat) : Int)) = rec_ (seed,leaf,kL ++ catL N seed leaf (i + 1),((i + 1 : Nat) : Int))
  have h1 := catL_size N seed leaf i
  have h2 := fCh_size (fSec N seed leaf ((i : Nat) : Int)) 3
  have h3 := fSec_size N seed leaf ((i : Nat) : Int)
  unfold B_f48_L0
  simp only [dT (show ((i : Nat) : Int) < 11 by omega),cond_true,spec_Sec hN,Option.bind_some,spec_Chain (show 1000000 < N by omega) (fSec N seed leaf ((i : Nat) : Int)) (by omega) 3,ByteArray.size_append,hk,dT (show 1 + (catL N seed leaf i).size + (fCh (fSec N seed leaf ((i : Nat) : Int)) 3).size ≤ 4611686018427387904 by omega),ix1 (show i < 1000 by omega),catL,ByteArray.append_assoc]
 ·show B_f48_L0 N _ _ rec_ (seed,leaf,kL ++ catL N seed leaf 11,((11 : Nat) : Int)) = _
  have h1 := catL_size N seed leaf 11
  unfold B_f48_L0
  simp only [dF (show ¬ ((11 : Nat) : Int) < 11 by omega),cond_false]
  rw [spec_cut (by omega) _ (by rw [ByteArray.size_append,hk]; omega),Option.bind_some]
  rfl
theorem impl_Leaf {N : Nat} (hN : Big N) (seed leaf : Int) : x_f6 N seed leaf = some (fLeaf N seed leaf) := by
 have hN' : 1099511627776 ≤ N := hN
 unfold x_f6
 refine iter_cnt (fun i => (seed,leaf,catL N seed leaf i,((i : Nat) : Int))) 11 (fun i rec_ hi => ?_) (fun rec_ => ?_) (by omega)
 ·show B_f6_L0 N _ _ rec_ (seed,leaf,catL N seed leaf i,((i : Nat) : Int)) = rec_ (seed,leaf,catL N seed leaf (i + 1),((i + 1 : Nat) : Int))
  have h1 := catL_size N seed leaf i
  have h2 := fCh_size (fSec N seed leaf ((i : Nat) : Int)) 3
  have h3 := fSec_size N seed leaf ((i : Nat) : Int)
  unfold B_f6_L0
  simp only [dT (show ((i : Nat) : Int) < 11 by omega),cond_true,impl_Sec hN,Option.bind_some,impl_Chain (show 1000000 < N by omega) (fSec N seed leaf ((i : Nat) : Int)) (by omega) 3,dT (show (catL N seed leaf i).size + (fCh (fSec N seed leaf ((i : Nat) : Int)) 3).size ≤ 4611686018427387904 by omega),ix1 (show i < 1000 by omega),catL]
 ·show B_f6_L0 N _ _ rec_ (seed,leaf,catL N seed leaf 11,((11 : Nat) : Int)) = _
  have h1 := catL_size N seed leaf 11
  unfold B_f6_L0
  simp only [dF (show ¬ ((11 : Nat) : Int) < 11 by omega),cond_false]
  rw [impl_short (by omega) _ _ (by omega),Option.bind_some,txtL]
  rfl
end Go.Proofs.Ytflmdpbhmmohiaa.C
namespace Go.Proofs.Ytflmdpbhmmohiaa.C
open Go Go.Proofs.Ytflmdpbhmmohiaa.Nx Go.RowKit
set_option linter.unusedVariables false
set_option linter.unusedSimpArgs false
set_option maxRecDepth 100000
/-! The tree of keys. -/
def nd (a b : ByteArray) : ByteArray := fCut (kN ++ (a ++ b))
theorem nd_size (a b : ByteArray) : (nd a b).size = 8 := fCut_size _
theorem spec_nd {N : Nat} (hN : 1000000 < N) {a b : ByteArray} (ha : a.size = 8) (hb : b.size = 8) : x_f62 N (((⟨#[110]⟩ : ByteArray) ++ a) ++ b) = some (nd a b) := by
 have hk : (⟨#[110]⟩ : ByteArray).size = 1 := rfl
 rw [spec_cut hN _ (by simp only [ByteArray.size_append,hk,ha,hb]; omega),ByteArray.append_assoc]
 rfl
theorem impl_nd {N : Nat} (hN : 1000000 < N) {a b : ByteArray} (ha : a.size = 8) (hb : b.size = 8) : x_f22 N (110:Int) (a ++ b) = some (nd a b) := by
 rw [impl_short hN _ _ (by simp only [ByteArray.size_append,ha,hb]; omega),txtN]
 rfl
theorem spec_L4a {N M : Nat} (hN : 1000000 < N) {Ω : Type} (kx kr) {a b c d : ByteArray} (ha : a.size = 8) (hb : b.size = 8) (hc : c.size = 8) (hd : d.size = 8) (s5 : List (List ByteArray)) :
  iter (B_f66_L4 (Ω := Ω) N kx kr) (M + 3) ([a,b,c,d],s5,[],(0:Int)) = kx (s5,[nd a b,nd c d]) := by
 have hk : (⟨#[110]⟩ : ByteArray).size = 1 := rfl
 have e0 : ∀ g,B_f66_L4 (Ω := Ω) N kx kr g ([a,b,c,d],s5,[],(0:Int)) = g ([a,b,c,d],s5,[nd a b],(2:Int)) := fun g => by
  have q : B_f66_L4 (Ω := Ω) N kx kr g ([a,b,c,d],s5,[],(0:Int)) = (bif decide ((⟨#[110]⟩ : ByteArray).size + a.size ≤ 4611686018427387904) then (bif decide (((⟨#[110]⟩ : ByteArray) ++ a).size + b.size ≤ 4611686018427387904) then (x_f62 N (((⟨#[110]⟩ : ByteArray) ++ a) ++ b)).bind fun r => g ([a,b,c,d],s5,[r],(2:Int)) else none) else none) := by
   kernel_rfl
  rw [q,spec_nd hN ha hb,ByteArray.size_append,hk,ha,hb,dT (show 1 + 8 ≤ 4611686018427387904 by decide),dT (show 1 + 8 + 8 ≤ 4611686018427387904 by decide)]
  rfl
 have e1 : ∀ g,B_f66_L4 (Ω := Ω) N kx kr g ([a,b,c,d],s5,[nd a b],(2:Int)) = g ([a,b,c,d],s5,[nd a b,nd c d],(4:Int)) := fun g => by
  have q : B_f66_L4 (Ω := Ω) N kx kr g ([a,b,c,d],s5,[nd a b],(2:Int)) = (bif decide ((⟨#[110]⟩ : ByteArray).size + c.size ≤ 4611686018427387904) then (bif decide (((⟨#[110]⟩ : ByteArray) ++ c).size + d.size ≤ 4611686018427387904) then (x_f62 N (((⟨#[110]⟩ : ByteArray) ++ c) ++ d)).bind fun r => g ([a,b,c,d],s5,[nd a b,r],(4:Int)) else none) else none) := by
   kernel_rfl
  rw [q,spec_nd hN hc hd,ByteArray.size_append,hk,hc,hd,dT (show 1 + 8 ≤ 4611686018427387904 by decide),dT (show 1 + 8 + 8 ≤ 4611686018427387904 by decide)]
  rfl
 have z : B_f66_L4 (Ω := Ω) N kx kr (iter (B_f66_L4 N kx kr) M) ([a,b,c,d],s5,[nd a b,nd c d],(4:Int)) = kx (s5,[nd a b,nd c d]) := by
  kernel_rfl
 rw [iter_succ,e0,iter_succ,e1,iter_succ,z]
theorem spec_L4b {N M : Nat} (hN : 1000000 < N) {Ω : Type} (kx kr) {a b : ByteArray} (ha : a.size = 8) (hb : b.size = 8) (s5 : List (List ByteArray)) :
  iter (B_f66_L4 (Ω := Ω) N kx kr) (M + 2) ([a,b],s5,[],(0:Int)) = kx (s5,[nd a b]) := by
 have hk : (⟨#[110]⟩ : ByteArray).size = 1 := rfl
 have e0 : ∀ g,B_f66_L4 (Ω := Ω) N kx kr g ([a,b],s5,[],(0:Int)) = g ([a,b],s5,[nd a b],(2:Int)) := fun g => by
  have q : B_f66_L4 (Ω := Ω) N kx kr g ([a,b],s5,[],(0:Int)) = (bif decide ((⟨#[110]⟩ : ByteArray).size + a.size ≤ 4611686018427387904) then (bif decide (((⟨#[110]⟩ : ByteArray) ++ a).size + b.size ≤ 4611686018427387904) then (x_f62 N (((⟨#[110]⟩ : ByteArray) ++ a) ++ b)).bind fun r => g ([a,b],s5,[r],(2:Int)) else none) else none) := by
   kernel_rfl
  rw [q,spec_nd hN ha hb,ByteArray.size_append,hk,ha,hb,dT (show 1 + 8 ≤ 4611686018427387904 by decide),dT (show 1 + 8 + 8 ≤ 4611686018427387904 by decide)]
  rfl
 have z : B_f66_L4 (Ω := Ω) N kx kr (iter (B_f66_L4 N kx kr) M) ([a,b],s5,[nd a b],(2:Int)) = kx (s5,[nd a b]) := by
  kernel_rfl
 rw [iter_succ,e0,iter_succ,z]
theorem impl_L4a {N M : Nat} (hN : 1000000 < N) {Ω : Type} (kx kr) {a b c d : ByteArray} (ha : a.size = 8) (hb : b.size = 8) (hc : c.size = 8) (hd : d.size = 8) (s5 : List (List ByteArray)) :
  iter (B_f18_L4 (Ω := Ω) N kx kr) (M + 3) ([a,b,c,d],s5,[],(0:Int)) = kx (s5,[nd a b,nd c d]) := by
 have hk : (⟨#[110]⟩ : ByteArray).size = 1 := rfl
 have e0 : ∀ g,B_f18_L4 (Ω := Ω) N kx kr g ([a,b,c,d],s5,[],(0:Int)) = g ([a,b,c,d],s5,[nd a b],(2:Int)) := fun g => by
  have q : B_f18_L4 (Ω := Ω) N kx kr g ([a,b,c,d],s5,[],(0:Int)) = (bif decide (a.size + b.size ≤ 4611686018427387904) then (x_f22 N (110:Int) (a ++ b)).bind fun r => g ([a,b,c,d],s5,[r],(2:Int)) else none) := by
   kernel_rfl
  rw [q,impl_nd hN ha hb,ha,hb,dT (show 8 + 8 ≤ 4611686018427387904 by decide)]
  rfl
 have e1 : ∀ g,B_f18_L4 (Ω := Ω) N kx kr g ([a,b,c,d],s5,[nd a b],(2:Int)) = g ([a,b,c,d],s5,[nd a b,nd c d],(4:Int)) := fun g => by
  have q : B_f18_L4 (Ω := Ω) N kx kr g ([a,b,c,d],s5,[nd a b],(2:Int)) = (bif decide (c.size + d.size ≤ 4611686018427387904) then (x_f22 N (110:Int) (c ++ d)).bind fun r => g ([a,b,c,d],s5,[nd a b,r],(4:Int)) else none) := by
   kernel_rfl
  rw [q,impl_nd hN hc hd,hc,hd,dT (show 8 + 8 ≤ 4611686018427387904 by decide)]
  rfl
 have z : B_f18_L4 (Ω := Ω) N kx kr (iter (B_f18_L4 N kx kr) M) ([a,b,c,d],s5,[nd a b,nd c d],(4:Int)) = kx (s5,[nd a b,nd c d]) := by
  kernel_rfl
 rw [iter_succ,e0,iter_succ,e1,iter_succ,z]
theorem impl_L4b {N M : Nat} (hN : 1000000 < N) {Ω : Type} (kx kr) {a b : ByteArray} (ha : a.size = 8) (hb : b.size = 8) (s5 : List (List ByteArray)) :
  iter (B_f18_L4 (Ω := Ω) N kx kr) (M + 2) ([a,b],s5,[],(0:Int)) = kx (s5,[nd a b]) := by
 have hk : (⟨#[110]⟩ : ByteArray).size = 1 := rfl
 have e0 : ∀ g,B_f18_L4 (Ω := Ω) N kx kr g ([a,b],s5,[],(0:Int)) = g ([a,b],s5,[nd a b],(2:Int)) := fun g => by
  have q : B_f18_L4 (Ω := Ω) N kx kr g ([a,b],s5,[],(0:Int)) = (bif decide (a.size + b.size ≤ 4611686018427387904) then (x_f22 N (110:Int) (a ++ b)).bind fun r => g ([a,b],s5,[r],(2:Int)) else none) := by
   kernel_rfl
  rw [q,impl_nd hN ha hb,ha,hb,dT (show 8 + 8 ≤ 4611686018427387904 by decide)]
  rfl
 have z : B_f18_L4 (Ω := Ω) N kx kr (iter (B_f18_L4 N kx kr) M) ([a,b],s5,[nd a b],(2:Int)) = kx (s5,[nd a b]) := by
  kernel_rfl
 rw [iter_succ,e0,iter_succ,z]
def row0 (N : Nat) (seed : Int) : List ByteArray := [fLeaf N seed 0,fLeaf N seed 1,fLeaf N seed 2,fLeaf N seed 3]
def row1 (N : Nat) (seed : Int) : List ByteArray := [nd (fLeaf N seed 0) (fLeaf N seed 1),nd (fLeaf N seed 2) (fLeaf N seed 3)]
def fKey (N : Nat) (seed : Int) : ByteArray := nd (nd (fLeaf N seed 0) (fLeaf N seed 1)) (nd (fLeaf N seed 2) (fLeaf N seed 3))
def fRows (N : Nat) (seed : Int) : List (List ByteArray) := [row0 N seed,row1 N seed,[fKey N seed]]
theorem fLeaf_size (N : Nat) (seed leaf : Int) : (fLeaf N seed leaf).size = 8 := fCut_size _
theorem sub_add {N k : Nat} (h : k ≤ N) : N - k + k = N := Nat.sub_add_cancel h
theorem spec_Rows {N : Nat} (hN : Big N) (seed : Int) : x_f66 N seed = some (fRows N seed,()) := by
 have hN' : 1099511627776 ≤ N := hN
 have key : ∀ kx kr,iter (B_f66_L0 (Ω := List (List ByteArray) × Unit) N kx kr) N (seed,[],(0:Int)) = kx (row0 N seed) := fun kx kr => by
  refine iter_cnt (fun i => (seed,(List.range i).map (fun j : Nat => fLeaf N seed ((j : Nat) : Int)),((i : Nat) : Int))) 4 (fun i rec_ hi => ?_) (fun rec_ => ?_) (by omega)
  ·show B_f66_L0 N kx kr rec_ (seed,(List.range i).map (fun j : Nat => fLeaf N seed ((j : Nat) : Int)),((i : Nat) : Int)) = rec_ (seed,(List.range (i + 1)).map (fun j : Nat => fLeaf N seed ((j : Nat) : Int)),((i + 1 : Nat) : Int))
   unfold B_f66_L0
   simp only [dT (show ((i : Nat) : Int) < 4 by omega),cond_true,spec_Leaf hN,Option.bind_some,List.length_map,List.length_range,List.length_singleton,dT (show (i + 1) * 16 ≤ 140737488355328 by omega),ix1 (show i < 1000 by omega),List.range_succ,List.map_append,List.map_cons,List.map_nil]
  ·rfl
 unfold x_f66
 rw [key]
 have a1 := fun kx kr => spec_L4a (M := N - 3) (N := N) (Ω := List (List ByteArray) × Unit) (by omega) kx kr (fLeaf_size N seed 0) (fLeaf_size N seed 1) (fLeaf_size N seed 2) (fLeaf_size N seed 3) [row0 N seed]
 have a2 := fun kx kr => spec_L4b (M := N - 2) (N := N) (Ω := List (List ByteArray) × Unit) (by omega) kx kr (nd_size (fLeaf N seed 0) (fLeaf N seed 1)) (nd_size (fLeaf N seed 2) (fLeaf N seed 3)) [row0 N seed,row1 N seed]
 rw [sub_add (show 3 ≤ N by omega)] at a1
 rw [sub_add (show 2 ≤ N by omega)] at a2
 have key2 : ∀ (K : Nat) kx kr,iter (B_f66_L2 (Ω := List (List ByteArray) × Unit) N kx kr) (K + 3) (row0 N seed,[row0 N seed]) = kx (fRows N seed) := fun K kx kr => by
  rw [iter_succ]
  show iter (B_f66_L4 N _ _) N ([fLeaf N seed 0,fLeaf N seed 1,fLeaf N seed 2,fLeaf N seed 3],[row0 N seed],[],(0:Int)) = _
  rw [a1]
  show iter (B_f66_L2 N kx kr) (K + 2) (row1 N seed,[row0 N seed,row1 N seed]) = _
  rw [iter_succ]
  show iter (B_f66_L4 N _ _) N ([nd (fLeaf N seed 0) (fLeaf N seed 1),nd (fLeaf N seed 2) (fLeaf N seed 3)],[row0 N seed,row1 N seed],[],(0:Int)) = _
  rw [a2]
  show iter (B_f66_L2 N kx kr) (K + 1) ([fKey N seed],fRows N seed) = _
  rw [iter_succ]
  rfl
 have := fun kx kr => key2 (N - 3) kx kr
 rw [sub_add (show 3 ≤ N by omega)] at this
 rw [this]
 rfl
theorem impl_Rows {N : Nat} (hN : Big N) (seed : Int) : x_f18 N seed = some (fRows N seed,()) := by
 have hN' : 1099511627776 ≤ N := hN
 have key : ∀ kx kr,iter (B_f18_L0 (Ω := List (List ByteArray) × Unit) N kx kr) N (seed,[],(0:Int)) = kx (row0 N seed) := fun kx kr => by
  refine iter_cnt (fun i => (seed,(List.range i).map (fun j : Nat => fLeaf N seed ((j : Nat) : Int)),((i : Nat) : Int))) 4 (fun i rec_ hi => ?_) (fun rec_ => ?_) (by omega)
  ·show B_f18_L0 N kx kr rec_ (seed,(List.range i).map (fun j : Nat => fLeaf N seed ((j : Nat) : Int)),((i : Nat) : Int)) = rec_ (seed,(List.range (i + 1)).map (fun j : Nat => fLeaf N seed ((j : Nat) : Int)),((i + 1 : Nat) : Int))
   unfold B_f18_L0
   simp only [dT (show ((i : Nat) : Int) < 4 by omega),cond_true,impl_Leaf hN,Option.bind_some,List.length_map,List.length_range,List.length_singleton,dT (show (i + 1) * 16 ≤ 140737488355328 by omega),ix1 (show i < 1000 by omega),List.range_succ,List.map_append,List.map_cons,List.map_nil]
  ·rfl
 unfold x_f18
 rw [key]
 have a1 := fun kx kr => impl_L4a (M := N - 3) (N := N) (Ω := List (List ByteArray) × Unit) (by omega) kx kr (fLeaf_size N seed 0) (fLeaf_size N seed 1) (fLeaf_size N seed 2) (fLeaf_size N seed 3) [row0 N seed]
 have a2 := fun kx kr => impl_L4b (M := N - 2) (N := N) (Ω := List (List ByteArray) × Unit) (by omega) kx kr (nd_size (fLeaf N seed 0) (fLeaf N seed 1)) (nd_size (fLeaf N seed 2) (fLeaf N seed 3)) [row0 N seed,row1 N seed]
 rw [sub_add (show 3 ≤ N by omega)] at a1
 rw [sub_add (show 2 ≤ N by omega)] at a2
 have key2 : ∀ (K : Nat) kx kr,iter (B_f18_L2 (Ω := List (List ByteArray) × Unit) N kx kr) (K + 3) (row0 N seed,[row0 N seed]) = kx (fRows N seed) := fun K kx kr => by
  rw [iter_succ]
  show iter (B_f18_L4 N _ _) N ([fLeaf N seed 0,fLeaf N seed 1,fLeaf N seed 2,fLeaf N seed 3],[row0 N seed],[],(0:Int)) = _
  rw [a1]
  show iter (B_f18_L2 N kx kr) (K + 2) (row1 N seed,[row0 N seed,row1 N seed]) = _
  rw [iter_succ]
  show iter (B_f18_L4 N _ _) N ([nd (fLeaf N seed 0) (fLeaf N seed 1),nd (fLeaf N seed 2) (fLeaf N seed 3)],[row0 N seed,row1 N seed],[],(0:Int)) = _
  rw [a2]
  show iter (B_f18_L2 N kx kr) (K + 1) ([fKey N seed],fRows N seed) = _
  rw [iter_succ]
  rfl
 have := fun kx kr => key2 (N - 3) kx kr
 rw [sub_add (show 3 ≤ N by omega)] at this
 rw [this]
 rfl
theorem spec_Key {N : Nat} (hN : Big N) (seed : Int) : x_f47 N seed = some (fKey N seed) := by
 unfold x_f47
 rw [spec_Rows hN]; kernel_rfl
theorem impl_Key {N : Nat} (hN : Big N) (seed : Int) : x_f5 N seed = some (fKey N seed) := by
 unfold x_f5
 rw [impl_Rows hN]; kernel_rfl
/-! Quads. -/
theorem and3 (a : Int) : 0 ≤ andI .i64 a 3 ∧ andI .i64 a 3 ≤ 3 := by
 have e : (BitVec.ofInt 64 a &&& BitVec.ofInt 64 3).toNat ≤ 3 := by
  rw [BitVec.toNat_and]
  have e2 : (BitVec.ofInt 64 3).toNat = 2 ^ 2 - 1 := by decide
  rw [e2,Nat.and_two_pow_sub_one_eq_mod]
  omega
 unfold andI
 rw [pin_eq]
 show 0 ≤ IntKind.i64.wrap ((BitVec.ofInt 64 a &&& BitVec.ofInt 64 3).toNat : Int) ∧ IntKind.i64.wrap ((BitVec.ofInt 64 a &&& BitVec.ofInt 64 3).toNat : Int) ≤ 3
 rw [iw (by omega) (by omega)]
 omega
theorem and3_mod {a : Int} (h0 : 0 ≤ a) (h1 : a ≤ 1000) : andI .i64 a 3 = a % 4 := by
 have e : (BitVec.ofInt 64 a &&& BitVec.ofInt 64 3).toNat = a.toNat % 4 := by
  rw [BitVec.toNat_and,BitVec.toNat_ofInt]
  have e1 : (a % ((2 ^ 64 : Nat) : Int)).toNat = a.toNat := by
   rw [p64,Int.emod_eq_of_lt h0 (by omega)]
  have e2 : (BitVec.ofInt 64 3).toNat = 2 ^ 2 - 1 := by decide
  rw [e1,e2,Nat.and_two_pow_sub_one_eq_mod]
 unfold andI
 rw [pin_eq]
 show IntKind.i64.wrap ((BitVec.ofInt 64 a &&& BitVec.ofInt 64 3).toNat : Int) = _
 rw [e,iw (by omega) (by omega)]
 omega
def qq (d : ByteArray) (i : Nat) (k : Int) : Int := andI .i64 (shrI .i64 (wrap64 (bu d ((i : Nat) : Int))) k) 3
theorem qq_in (d : ByteArray) (i : Nat) (k : Int) : 0 ≤ qq d i k ∧ qq d i k ≤ 3 := and3 _
def qs (d : ByteArray) : List Int := [qq d 0 6,qq d 0 4,qq d 0 2,qq d 0 0,qq d 1 6,qq d 1 4,qq d 1 2,qq d 1 0]
def qsum (d : ByteArray) : Int := qq d 0 6 + qq d 0 4 + qq d 0 2 + qq d 0 0 + qq d 1 6 + qq d 1 4 + qq d 1 2 + qq d 1 0
theorem qsum_in (d : ByteArray) : 0 ≤ qsum d ∧ qsum d ≤ 24 := by
 have a1 := qq_in d 0 6
 have a2 := qq_in d 0 4
 have a3 := qq_in d 0 2
 have a4 := qq_in d 0 0
 have a5 := qq_in d 1 6
 have a6 := qq_in d 1 4
 have a7 := qq_in d 1 2
 have a8 := qq_in d 1 0
 unfold qsum
 omega
def fQ (t : ByteArray) : List Int := qs (dig t) ++ [(24 - qsum (dig t)) / 16,(24 - qsum (dig t)) / 4 % 4,(24 - qsum (dig t)) % 4]
theorem fQ_len (t : ByteArray) : (fQ t).length = 11 := rfl
theorem fQ_in (t : ByteArray) : ∀ x ∈ fQ t,0 ≤ x ∧ x ≤ 3 := by
 have hs := qsum_in (dig t)
 intro x hx
 unfold fQ qs at hx
 simp only [List.cons_append,List.nil_append,List.mem_cons,List.not_mem_nil,or_false] at hx
 rcases hx with rfl | rfl | rfl | rfl | rfl | rfl | rfl | rfl | rfl | rfl | rfl
 all_goals first | exact qq_in _ _ _ | omega
theorem spec_q {N : Nat} {Ω : Type} (kx kr) (g) (d : ByteArray) (hd : d.size = 32) (s4 : List Int) (h4 : s4.length ≤ 100) (s5 : Int) (h5 : 0 ≤ s5) (h5' : s5 ≤ 100) {i : Nat} (hi : i < 2) {k : Int} (hk0 : 0 ≤ k) (hk1 : k ≤ 6) :
  B_f50_L2 (Ω := Ω) N kx kr g (d,s4,s5,((i : Nat) : Int),k) = g (d,s4 ++ [qq d i k],s5 + qq d i k,((i : Nat) : Int),k - 2) := by
 have hq := qq_in d i k
 have e1 : k % 18446744073709551616 = k := by omega
 unfold B_f50_L2
 simp only [dT hk0,hd,bn (show i < 32 by omega),e1,List.length_singleton,dT (show (s4.length + 1) * 8 ≤ 140737488355328 by omega),cond_true,w64 (x := k - 2) (by omega) (by omega)]
 show g (d,s4 ++ [qq d i k],wrap64 (s5 + qq d i k),_,_) = _
 rw [w64 (by omega) (by omega)]
theorem spec_q4 {N M : Nat} {Ω : Type} (kx kr) (d : ByteArray) (hd : d.size = 32) (s4 : List Int) (h4 : s4.length ≤ 50) (s5 : Int) (h5 : 0 ≤ s5) (h5' : s5 ≤ 50) {i : Nat} (hi : i < 2) :
  iter (B_f50_L2 (Ω := Ω) N kx kr) (M + 5) (d,s4,s5,((i : Nat) : Int),(6:Int)) = kx (d,(((s4 ++ [qq d i 6]) ++ [qq d i 4]) ++ [qq d i 2]) ++ [qq d i 0],s5 + qq d i 6 + qq d i 4 + qq d i 2 + qq d i 0,((i : Nat) : Int)) := by
 have a1 := qq_in d i 6
 have a2 := qq_in d i 4
 have a3 := qq_in d i 2
 have a4 := qq_in d i 0
 rw [iter_succ,spec_q kx kr _ d hd s4 (by omega) s5 h5 (by omega) hi (k := 6) (by omega) (by omega),show (6:Int) - 2 = 4 from rfl,
  iter_succ,spec_q kx kr _ d hd _ (by simp; omega) _ (by omega) (by omega) hi (k := 4) (by omega) (by omega),show (4:Int) - 2 = 2 from rfl,
  iter_succ,spec_q kx kr _ d hd _ (by simp; omega) _ (by omega) (by omega) hi (k := 2) (by omega) (by omega),show (2:Int) - 2 = 0 from rfl,
  iter_succ,spec_q kx kr _ d hd _ (by simp; omega) _ (by omega) (by omega) hi (k := 0) (by omega) (by omega),show (0:Int) - 2 = -2 from rfl,iter_succ]
 rfl
theorem spec_Quads {N : Nat} (hN : 1000000 < N) (t : ByteArray) (ht : t.size ≤ 4194304) : x_f50 N t = some (fQ t) := by
 unfold x_f50
 rw [spec_Digest hN t ht,Option.bind_some]
 have hd := dig_size t
 have hs := qsum_in (dig t)
 unfold fQ
 generalize dig t = d at hd hs
 have a1 := qq_in d 0 6
 have a2 := qq_in d 0 4
 have a3 := qq_in d 0 2
 have a4 := qq_in d 0 0
 have b0 := fun kx kr => spec_q4 (N := N) (M := N - 5) (Ω := List Int) kx kr d hd [] (by simp) 0 (by omega) (by omega) (i := 0) (by omega)
 have b1 := fun kx kr => spec_q4 (N := N) (M := N - 5) (Ω := List Int) kx kr d hd [qq d 0 6,qq d 0 4,qq d 0 2,qq d 0 0] (by simp) (0 + qq d 0 6 + qq d 0 4 + qq d 0 2 + qq d 0 0) (by omega) (by omega) (i := 1) (by omega)
 rw [sub_add (show 5 ≤ N by omega)] at b0 b1
 have key : ∀ (K : Nat) kx kr,iter (B_f50_L0 (Ω := List Int) N kx kr) (K + 3) (d,[],(0:Int),(0:Int)) = kx (qs d,qsum d) := fun K kx kr => by
  rw [iter_succ]
  refine (b0 _ _).trans ?_
  show iter (B_f50_L0 N kx kr) (K + 2) (d,[qq d 0 6,qq d 0 4,qq d 0 2,qq d 0 0],0 + qq d 0 6 + qq d 0 4 + qq d 0 2 + qq d 0 0,wrap64 (((0 : Nat) : Int) + 1)) = _
  rw [ix1 (m := 0) (by omega),iter_succ]
  refine (b1 _ _).trans ?_
  show iter (B_f50_L0 N kx kr) (K + 1) (d,qs d,0 + qq d 0 6 + qq d 0 4 + qq d 0 2 + qq d 0 0 + qq d 1 6 + qq d 1 4 + qq d 1 2 + qq d 1 0,wrap64 (((1 : Nat) : Int) + 1)) = _
  rw [ix1 (m := 1) (by omega),iter_succ]
  show kx (qs d,0 + qq d 0 6 + qq d 0 4 + qq d 0 2 + qq d 0 0 + qq d 1 6 + qq d 1 4 + qq d 1 2 + qq d 1 0) = _
  rw [Int.zero_add]; rfl
 have k3 := fun kx kr => key (N - 3) kx kr
 rw [sub_add (show 3 ≤ N by omega)] at k3
 rw [k3]
 generalize qsum d = q at hs
 show some (qs d ++ [wrap64 ((wrap64 (24 - q)).tdiv 16),((wrap64 ((wrap64 (24 - q)).tdiv 4)).tmod 4),((wrap64 (24 - q)).tmod 4)]) = _
 rw [w64 (x := 24 - q) (by omega) (by omega),Int.tdiv_eq_ediv_of_nonneg (by omega),Int.tdiv_eq_ediv_of_nonneg (by omega),w64 (x := (24 - q) / 16) (by omega) (by omega),w64 (x := (24 - q) / 4) (by omega) (by omega),Int.tmod_eq_emod_of_nonneg (by omega),Int.tmod_eq_emod_of_nonneg (by omega)]
theorem impl_q {N : Nat} {Ω : Type} (kx kr) (g) (d : ByteArray) (L : List Int) (s4 : List Int) (h4 : s4.length ≤ 100) (s5 : Int) (h5 : -100 ≤ s5) (h5' : s5 ≤ 100) {i : Nat} (s16 s17 : Int) {k : Int} (hk0 : 0 ≤ k) (hk1 : k ≤ 6) :
  B_f8_L2 (Ω := Ω) N kx kr g (s4,s5,bu d ((i : Nat) : Int),k,L,s16,s17) = g (s4 ++ [qq d i k],s5 - qq d i k,bu d ((i : Nat) : Int),k - 2,L,s16,s17) := by
 have hq := qq_in d i k
 unfold B_f8_L2
 simp only [dT hk0,List.length_singleton,dT (show (s4.length + 1) * 8 ≤ 140737488355328 by omega),cond_true,w64 (x := k - 2) (by omega) (by omega)]
 show g (s4 ++ [qq d i k],wrap64 (s5 - qq d i k),_,_,_,_,_) = _
 rw [w64 (by omega) (by omega)]
theorem impl_q4 {N M : Nat} {Ω : Type} (kx kr) (d : ByteArray) (L : List Int) (s4 : List Int) (h4 : s4.length ≤ 50) (s5 : Int) (h5 : -50 ≤ s5) (h5' : s5 ≤ 50) {i : Nat} (s16 s17 : Int) :
  iter (B_f8_L2 (Ω := Ω) N kx kr) (M + 5) (s4,s5,bu d ((i : Nat) : Int),(6:Int),L,s16,s17) = kx ((((s4 ++ [qq d i 6]) ++ [qq d i 4]) ++ [qq d i 2]) ++ [qq d i 0],s5 - qq d i 6 - qq d i 4 - qq d i 2 - qq d i 0,L,s16,s17) := by
 have a1 := qq_in d i 6
 have a2 := qq_in d i 4
 have a3 := qq_in d i 2
 have a4 := qq_in d i 0
 rw [iter_succ,impl_q kx kr _ d L s4 (by omega) s5 (by omega) (by omega) s16 s17 (k := 6) (by omega) (by omega),show (6:Int) - 2 = 4 from rfl,
  iter_succ,impl_q kx kr _ d L _ (by simp; omega) _ (by omega) (by omega) s16 s17 (k := 4) (by omega) (by omega),show (4:Int) - 2 = 2 from rfl,
  iter_succ,impl_q kx kr _ d L _ (by simp; omega) _ (by omega) (by omega) s16 s17 (k := 2) (by omega) (by omega),show (2:Int) - 2 = 0 from rfl,
  iter_succ,impl_q kx kr _ d L _ (by simp; omega) _ (by omega) (by omega) s16 s17 (k := 0) (by omega) (by omega),show (0:Int) - 2 = -2 from rfl,iter_succ]
 rfl
theorem impl_Quads {N : Nat} (hN : 1000000 < N) (t : ByteArray) (ht : t.size ≤ 4194304) : x_f8 N t = some (fQ t) := by
 unfold x_f8
 rw [impl_Digest hN t ht,Option.bind_some]
 have hd := dig_size t
 have hs := qsum_in (dig t)
 unfold fQ
 generalize dig t = d at hd hs
 have a1 := qq_in d 0 6
 have a2 := qq_in d 0 4
 have a3 := qq_in d 0 2
 have a4 := qq_in d 0 0
 have hL : byteL (d.extract (0:Int).toNat (2:Int).toNat) = [bu d ((0 : Nat) : Int),bu d ((1 : Nat) : Int)] := by
  rw [byteL_ext,bu_at,bu_at]
  have hl : (byteL d).length = 32 := by rw [byteL_len,hd]
  show ((byteL d).drop 0).take 2 = _
  match byteL d,hl with
  | a :: b :: l,_ => rfl
 rw [hd,show inB (0:Int) (2:Int) ((32 : Nat) : Int) = true from rfl,cond_true,hL]
 have b0 := fun kx kr => impl_q4 (N := N) (M := N - 5) (Ω := List Int) kx kr d [bu d ((0 : Nat) : Int),bu d ((1 : Nat) : Int)] [] (by simp) 24 (by omega) (by omega) (i := 0) 2 0
 have b1 := fun kx kr => impl_q4 (N := N) (M := N - 5) (Ω := List Int) kx kr d [bu d ((0 : Nat) : Int),bu d ((1 : Nat) : Int)] [qq d 0 6,qq d 0 4,qq d 0 2,qq d 0 0] (by simp) (24 - qq d 0 6 - qq d 0 4 - qq d 0 2 - qq d 0 0) (by omega) (by omega) (i := 1) 2 1
 rw [sub_add (show 5 ≤ N by omega)] at b0 b1
 have key : ∀ (K : Nat) kx kr,iter (B_f8_L0 (Ω := List Int) N kx kr) (K + 3) ([],(24:Int),[bu d ((0 : Nat) : Int),bu d ((1 : Nat) : Int)],(2:Int),(0:Int)) = kx (qs d,24 - qsum d) := fun K kx kr => by
  rw [iter_succ]
  refine (b0 _ _).trans ?_
  show iter (B_f8_L0 N kx kr) (K + 2) ([qq d 0 6,qq d 0 4,qq d 0 2,qq d 0 0],24 - qq d 0 6 - qq d 0 4 - qq d 0 2 - qq d 0 0,[bu d ((0 : Nat) : Int),bu d ((1 : Nat) : Int)],(2:Int),wrap64 ((0:Int) + 1)) = _
  rw [show wrap64 ((0:Int) + 1) = 1 from ix1 (m := 0) (by omega),iter_succ]
  refine (b1 _ _).trans ?_
  show iter (B_f8_L0 N kx kr) (K + 1) (qs d,24 - qq d 0 6 - qq d 0 4 - qq d 0 2 - qq d 0 0 - qq d 1 6 - qq d 1 4 - qq d 1 2 - qq d 1 0,[bu d ((0 : Nat) : Int),bu d ((1 : Nat) : Int)],(2:Int),wrap64 ((1:Int) + 1)) = _
  rw [show wrap64 ((1:Int) + 1) = 2 from ix1 (m := 1) (by omega),iter_succ]
  show kx (qs d,24 - qq d 0 6 - qq d 0 4 - qq d 0 2 - qq d 0 0 - qq d 1 6 - qq d 1 4 - qq d 1 2 - qq d 1 0) = _
  have e : 24 - qq d 0 6 - qq d 0 4 - qq d 0 2 - qq d 0 0 - qq d 1 6 - qq d 1 4 - qq d 1 2 - qq d 1 0 = 24 - qsum d := by unfold qsum; omega
  rw [e]
 have k3 := fun kx kr => key (N - 3) kx kr
 rw [sub_add (show 3 ≤ N by omega)] at k3
 refine (k3 _ _).trans ?_
 generalize qsum d = q at hs
 show some (qs d ++ [andI .i64 (shrI .i64 (24 - q) ((4 : Nat) : Int)) 3,andI .i64 (shrI .i64 (24 - q) ((2 : Nat) : Int)) 3,andI .i64 (24 - q) 3]) = _
 rw [shr_div (by omega) (by omega),shr_div (by omega) (by omega),and3_mod (by omega) (by omega),and3_mod (by omega) (by omega),and3_mod (by omega) (by omega)]
 rw [show ((24:Int) - q) / 2 ^ 4 % 4 = (24 - q) / 16 by omega,show ((24:Int) - q) / 2 ^ 2 % 4 = (24 - q) / 4 % 4 by omega]
end Go.Proofs.Ytflmdpbhmmohiaa.C
namespace Go.Proofs.Ytflmdpbhmmohiaa.C
open Go Go.Proofs.Ytflmdpbhmmohiaa.Nx Go.RowKit
set_option linter.unusedVariables false
set_option linter.unusedSimpArgs false
set_option maxRecDepth 100000
/-! Signatures. -/
theorem spec_mod_sg (N : Nat) (x : Int) : x_f68 N x = some (x % 256) := by
 unfold x_f68
 rw [Int.tmod_eq_emod]
 by_cases h : 0 ≤ x ∨ (256:Int) ∣ x
 ·rw [if_pos h,dF (by omega)]; simp
 ·rw [if_neg h,dT (by simp; omega),cond_true,w64 (by simp; omega) (by simp; omega)]
  simp
theorem impl_place_sg (N : Nat) (x : Int) : x_f19 N x = some (x % 256) := by
 unfold x_f19
 have h0 : x.tmod 256 = x % 256 - (if 0 ≤ x ∨ (256:Int) ∣ x then (0:Int) else 256) := by rw [Int.tmod_eq_emod]; split <;> rfl
 rw [h0]
 by_cases h : 0 ≤ x ∨ (256:Int) ∣ x
 ·rw [if_pos h,w64 (by omega) (by omega),Int.tmod_eq_emod,if_pos (.inl (by omega))]
  congr 1; omega
 ·rw [if_neg h,w64 (by omega) (by omega),Int.tmod_eq_emod,if_pos (.inl (by omega))]
  congr 1; omega
def fSeed (x : Int) : Int := 7 * (x % 256) + 1000
theorem spec_Seed (N : Nat) (x : Int) : x_f53 N x = some (fSeed x) := by
 unfold x_f53 fSeed
 rw [spec_mod_sg,Option.bind_some,w64 (x := 7 * (x % 256)) (by omega) (by omega),w64 (x := 7 * (x % 256) + 1000) (by omega) (by omega)]
theorem impl_Seed (N : Nat) (x : Int) : x_f11 N x = some (fSeed x) := by
 unfold x_f11 fSeed
 rw [impl_place_sg,Option.bind_some,w64 (x := 7 * (x % 256)) (by omega) (by omega),w64 (x := 7 * (x % 256) + 1000) (by omega) (by omega)]
def endF (N : Nat) (seed leaf : Int) (q : List Int) (j : Nat) : ByteArray := fCh (fSec N seed leaf ((j : Nat) : Int)) (q.getD j 0)
def ends (N : Nat) (seed leaf : Int) (q : List Int) (i : Nat) : List ByteArray := (List.range i).map (endF N seed leaf q)
def catE (e : List ByteArray) (q : List Int) : Nat → ByteArray
 | 0 => ByteArray.empty
 | i + 1 => catE e q i ++ fCh (e.getD i ByteArray.empty) (3 - q.getD i 0)
theorem getD_size {e : List ByteArray} (h : eights e = true) (i : Nat) : (e.getD i ByteArray.empty).size ≤ 8 := by
 by_cases hi : i < e.length
 ·have : e.getD i ByteArray.empty = e[i] := by simp [List.getD,hi]
  rw [this]
  have := List.all_eq_true.1 h _ (List.getElem_mem hi)
  simp at this
  omega
 ·have : e.getD i ByteArray.empty = ByteArray.empty := by simp [List.getD,List.getElem?_eq_none (Nat.le_of_not_lt hi)]
  rw [this]; decide
theorem catE_size {e : List ByteArray} (h : eights e = true) (q : List Int) : ∀ i,(catE e q i).size ≤ 16 * i
 | 0 => Nat.zero_le _
 | i + 1 => by
  have h1 := catE_size h q i
  have h2 := fCh_size (e.getD i ByteArray.empty) (3 - q.getD i 0)
  have h3 := getD_size h i
  rw [catE,ByteArray.size_append]; omega
theorem spec_B0 {N : Nat} (hN : Big N) {Ω : Type} (kx kr) (key : ByteArray) (s : Den tSignature) (q : List Int) (hq : q.length = 11) (hqi : ∀ x ∈ q,0 ≤ x ∧ x ≤ 3) (hs : s.2.1.length = 11) (he : eights s.2.1 = true) :
  iter (B_f54_L0 (Ω := Ω) N kx kr) N (key,s,q,(⟨#[108]⟩ : ByteArray),(0:Int)) = kx (key,s,kL ++ catE s.2.1 q 11) := by
 have hN' : 1099511627776 ≤ N := hN
 have hk : kL.size = 1 := rfl
 refine (congrArg (iter _ N) (show (key,s,q,(⟨#[108]⟩ : ByteArray),(0:Int)) = (key,s,q,kL ++ catE s.2.1 q 0,((0 : Nat) : Int)) by rw [catE,ByteArray.append_empty]; rfl)).trans ?_
 refine iter_cnt (fun i => (key,s,q,kL ++ catE s.2.1 q i,((i : Nat) : Int))) 11 (fun i rec_ hi => ?_) (fun rec_ => ?_) (by omega)
 ·show B_f54_L0 N kx kr rec_ (key,s,q,kL ++ catE s.2.1 q i,((i : Nat) : Int)) = rec_ (key,s,q,kL ++ catE s.2.1 q (i + 1),((i + 1 : Nat) : Int))
  have h1 := catE_size he q i
  have h2 := fCh_size (s.2.1.getD i ByteArray.empty) (3 - q.getD i 0)
  have h3 := getD_size he i
  have h4 : 0 ≤ q.getD i 0 ∧ q.getD i 0 ≤ 3 := by
   have : q.getD i 0 = q[i] := by simp [List.getD,show i < q.length by omega]
   rw [this]; exact hqi _ (List.getElem_mem _)
  unfold B_f54_L0
  simp only [dT (show ((i : Nat) : Int) < 11 by omega),hs,hq,bn (show i < 11 by omega),cond_true,Int.toNat_natCast,w64 (x := 3 - q.getD i 0) (by omega) (by omega),spec_Chain (show 1000000 < N by omega) (s.2.1.getD i ByteArray.empty) (by omega),Option.bind_some,ByteArray.size_append,hk,dT (show 1 + (catE s.2.1 q i).size + (fCh (s.2.1.getD i ByteArray.empty) (3 - q.getD i 0)).size ≤ 4611686018427387904 by omega),ix1 (show i < 1000 by omega),catE,ByteArray.append_assoc]
 ·rfl
theorem impl_B0 {N : Nat} (hN : Big N) {Ω : Type} (kx kr) (key : ByteArray) (s : Den tSignature) (q : List Int) (hq : q.length = 11) (hqi : ∀ x ∈ q,0 ≤ x ∧ x ≤ 3) (hs : s.2.1.length = 11) (he : eights s.2.1 = true) :
  iter (B_f14_L0 (Ω := Ω) N kx kr) N (key,s,ByteArray.empty,q,(11:Int),(0:Int)) = kx (key,s,catE s.2.1 q 11) := by
 have hN' : 1099511627776 ≤ N := hN
 refine iter_cnt (fun i => (key,s,catE s.2.1 q i,q,(11:Int),((i : Nat) : Int))) 11 (fun i rec_ hi => ?_) (fun rec_ => ?_) (by omega)
 ·show B_f14_L0 N kx kr rec_ (key,s,catE s.2.1 q i,q,(11:Int),((i : Nat) : Int)) = rec_ (key,s,catE s.2.1 q (i + 1),q,(11:Int),((i + 1 : Nat) : Int))
  have h1 := catE_size he q i
  have h2 := fCh_size (s.2.1.getD i ByteArray.empty) (3 - q.getD i 0)
  have h3 := getD_size he i
  have h4 : 0 ≤ q.getD i 0 ∧ q.getD i 0 ≤ 3 := by
   have : q.getD i 0 = q[i] := by simp [List.getD,show i < q.length by omega]
   rw [this]; exact hqi _ (List.getElem_mem _)
  unfold B_f14_L0
  simp only [dT (show ((i : Nat) : Int) < 11 by omega),hs,hq,bn (show i < 11 by omega),cond_true,Int.toNat_natCast,w64 (x := 3 - q.getD i 0) (by omega) (by omega),impl_Chain (show 1000000 < N by omega) (s.2.1.getD i ByteArray.empty) (by omega),Option.bind_some,dT (show (catE s.2.1 q i).size + (fCh (s.2.1.getD i ByteArray.empty) (3 - q.getD i 0)).size ≤ 4611686018427387904 by omega),ix1 (show i < 1000 by omega),catE]
 ·rfl
def fUp (t w : ByteArray) (l : Nat) : ByteArray := bif decide (l % 2 = 0) then nd t w else nd w t
theorem fUp_size (t w : ByteArray) (l : Nat) : (fUp t w l).size = 8 := by
 unfold fUp
 cases decide (l % 2 = 0) <;> exact nd_size _ _
theorem tm2 (l : Nat) : decide ((((l : Nat) : Int).tmod 2) = 0) = decide (l % 2 = 0) := by
 rw [Int.tmod_eq_emod_of_nonneg (by omega)]
 by_cases h : l % 2 = 0
 ·rw [dT h,dT (by omega)]
 ·rw [dF h,dF (by omega)]
theorem td2 {l : Nat} (hl : l < 1000) : wrap64 (((l : Nat) : Int).tdiv 2) = ((l / 2 : Nat) : Int) := by
 rw [Int.tdiv_eq_ediv_of_nonneg (by omega),w64 (by omega) (by omega)]; omega
theorem spec_B2s {N : Nat} (hN : 1000000 < N) {Ω : Type} (kx kr) (g) (key : ByteArray) (s : Den tSignature) {t w : ByteArray} (ht : t.size = 8) (hw : w.size = 8) {l : Nat} (hl : l < 1000) {i : Nat} (hi : i < 2) (h2 : s.2.2.length = 2) (hwi : s.2.2.getD i ByteArray.empty = w) :
  B_f54_L2 (Ω := Ω) N kx kr g (key,s,t,((l : Nat) : Int),((i : Nat) : Int)) = g (key,s,fUp t w l,((l / 2 : Nat) : Int),((i + 1 : Nat) : Int)) := by
 have hk : (⟨#[110]⟩ : ByteArray).size = 1 := rfl
 unfold B_f54_L2 fUp
 simp only [h2,dT (show ((i : Nat) : Int) < ((2 : Nat) : Int) by omega),tm2,hk,ht,hw,hwi,ByteArray.size_append,bn hi,Int.toNat_natCast,dT (show 1 + 8 ≤ 4611686018427387904 by decide),dT (show 1 + 8 + 8 ≤ 4611686018427387904 by decide),cond_true,spec_nd hN ht hw,spec_nd hN hw ht,Option.bind_some,td2 hl,ix1 (show i < 1000 by omega)]
 cases decide (l % 2 = 0) <;> rfl
theorem impl_B2s {N : Nat} (hN : 1000000 < N) {Ω : Type} (kx kr) (g) (key : ByteArray) (W : List ByteArray) {t w : ByteArray} (ht : t.size = 8) (hw : w.size = 8) {l : Nat} (hl : l < 1000) {i : Nat} (hi : i < 2) (h2 : W.length = 2) (hwi : W.getD i ByteArray.empty = w) :
  B_f14_L2 (Ω := Ω) N kx kr g (key,t,((l : Nat) : Int),W,(2:Int),((i : Nat) : Int)) = g (key,fUp t w l,((l / 2 : Nat) : Int),W,(2:Int),((i + 1 : Nat) : Int)) := by
 unfold B_f14_L2 fUp
 simp only [h2,dT (show ((i : Nat) : Int) < 2 by omega),tm2,ht,hw,hwi,bn hi,Int.toNat_natCast,dT (show 8 + 8 ≤ 4611686018427387904 by decide),cond_true,impl_nd hN ht hw,impl_nd hN hw ht,Option.bind_some,td2 hl,ix1 (show i < 1000 by omega)]
 cases decide (l % 2 = 0) <;> rfl
def fSB (key text : ByteArray) (s : Den tSignature) : Bool :=
 bif formF s then decide (fUp (fUp (fCut (kL ++ catE s.2.1 (fQ text) 11)) (s.2.2.getD 0 ByteArray.empty) s.1.toNat) (s.2.2.getD 1 ByteArray.empty) (s.1.toNat / 2) = key) else false
theorem two {α : Type} {l : List α} (h : l.length = 2) : ∃ a b,l = [a,b] := by
 match l,h with
 | [a,b],_ => exact ⟨a,b,rfl⟩
theorem form_parts {s : Den tSignature} (h : formF s = true) : (∃ l : Nat,s.1 = ((l : Nat) : Int) ∧ l < 4) ∧ s.2.1.length = 11 ∧ s.2.2.length = 2 ∧ eights s.2.1 = true ∧ eights s.2.2 = true := by
 unfold formF at h
 simp only [Bool.and_eq_true,decide_eq_true_eq] at h
 obtain ⟨h1,h2,h3,h4,h5⟩ := h
 have g := inR_le h1
 obtain ⟨l,e⟩ := Int.eq_ofNat_of_zero_le g.1
 exact ⟨⟨l,e,by omega⟩,by omega,by omega,h4,h5⟩
theorem spec_SB {N : Nat} (hN : Big N) (key text : ByteArray) (s : Den tSignature) (ht : text.size ≤ 4194304) (h1 : s.2.1.length ≤ 1048576) (h2 : s.2.2.length ≤ 1048576) : x_f54 N key text s = some (fSB key text s) := by
 have hN' : 1099511627776 ≤ N := hN
 unfold x_f54 fSB
 rw [spec_Form hN s h1 h2,Option.bind_some]
 cases hf : formF s with
 | false => rfl
 | true =>
  obtain ⟨⟨l,e1,e2⟩,e3,e4,e5,e6⟩ := form_parts hf
  have hcs := catE_size e5 (fQ text) 11
  have hk : kL.size = 1 := rfl
  simp only [Bool.not_true,cond_false,cond_true]
  rw [spec_Quads (by omega) text ht,Option.bind_some]
  refine (spec_B0 hN _ _ key s (fQ text) (fQ_len text) (fQ_in text) e3 e5).trans ?_
  show (x_f62 N (kL ++ catE s.2.1 (fQ text) 11)).bind _ = _
  rw [spec_cut (by omega) _ (by rw [ByteArray.size_append,hk]; omega),Option.bind_some]
  obtain ⟨w0,w1,ew⟩ := two e4
  have s0 : w0.size = 8 := by
   have := List.all_eq_true.1 e6 w0 (by rw [ew]; simp)
   simp at this; omega
  have s1 : w1.size = 8 := by
   have := List.all_eq_true.1 e6 w1 (by rw [ew]; simp)
   simp at this; omega
  have g0 : s.2.2.getD 0 ByteArray.empty = w0 := by rw [ew]; rfl
  have g1 : s.2.2.getD 1 ByteArray.empty = w1 := by rw [ew]; rfl
  have hc := fCut_size (kL ++ catE s.2.1 (fQ text) 11)
  generalize fCut (kL ++ catE s.2.1 (fQ text) 11) = t at hc
  have k : ∀ (K : Nat) kx kr,iter (B_f54_L2 (Ω := Bool) N kx kr) (K + 3) (key,s,t,s.1,(0:Int)) = kx (key,fUp (fUp t w0 l) w1 (l / 2)) := fun K kx kr => by
   rw [e1,iter_succ,show (0:Int) = ((0 : Nat) : Int) from rfl,spec_B2s (by omega) kx kr _ key s hc s0 (by omega) (by omega) e4 g0,iter_succ,spec_B2s (by omega) kx kr _ key s (fUp_size t w0 l) s1 (by omega) (by omega) e4 g1,iter_succ]
   unfold B_f54_L2
   simp only [e4,dF (show ¬ ((0 + 1 + 1 : Nat) : Int) < ((2 : Nat) : Int) by omega),cond_false]
  have k3 := fun kx kr => k (N - 3) kx kr
  rw [sub_add (show 3 ≤ N by omega)] at k3
  refine (k3 _ _).trans ?_
  rw [g0,g1,e1,Int.toNat_natCast]
theorem impl_SB {N : Nat} (hN : Big N) (key text : ByteArray) (s : Den tSignature) (ht : text.size ≤ 4194304) (h1 : s.2.1.length ≤ 1048576) (h2 : s.2.2.length ≤ 1048576) : x_f14 N key text s = some (fSB key text s) := by
 have hN' : 1099511627776 ≤ N := hN
 unfold x_f14 fSB
 rw [impl_Form hN s h1 h2,Option.bind_some]
 cases hf : formF s with
 | false => rfl
 | true =>
  obtain ⟨⟨l,e1,e2⟩,e3,e4,e5,e6⟩ := form_parts hf
  have hcs := catE_size e5 (fQ text) 11
  simp only [Bool.not_true,cond_false,cond_true]
  rw [impl_Quads (by omega) text ht,Option.bind_some,fQ_len]
  refine (impl_B0 hN _ _ key s (fQ text) (fQ_len text) (fQ_in text) e3 e5).trans ?_
  show (x_f22 N (108:Int) (catE s.2.1 (fQ text) 11)).bind _ = _
  rw [impl_short (by omega) _ _ (by omega),Option.bind_some,txtL]
  obtain ⟨w0,w1,ew⟩ := two e4
  have s0 : w0.size = 8 := by
   have := List.all_eq_true.1 e6 w0 (by rw [ew]; simp)
   simp at this; omega
  have s1 : w1.size = 8 := by
   have := List.all_eq_true.1 e6 w1 (by rw [ew]; simp)
   simp at this; omega
  have g0 : s.2.2.getD 0 ByteArray.empty = w0 := by rw [ew]; rfl
  have g1 : s.2.2.getD 1 ByteArray.empty = w1 := by rw [ew]; rfl
  have hc := fCut_size (kL ++ catE s.2.1 (fQ text) 11)
  generalize fCut (kL ++ catE s.2.1 (fQ text) 11) = t at hc
  have k : ∀ (K : Nat) kx kr,iter (B_f14_L2 (Ω := Bool) N kx kr) (K + 3) (key,t,s.1,s.2.2,(2:Int),(0:Int)) = kx (key,fUp (fUp t w0 l) w1 (l / 2)) := fun K kx kr => by
   rw [e1,iter_succ,show (0:Int) = ((0 : Nat) : Int) from rfl,impl_B2s (by omega) kx kr _ key s.2.2 hc s0 (by omega) (by omega) e4 g0,iter_succ,impl_B2s (by omega) kx kr _ key s.2.2 (fUp_size t w0 l) s1 (by omega) (by omega) e4 g1,iter_succ]
   unfold B_f14_L2
   simp only [dF (show ¬ ((0 + 1 + 1 : Nat) : Int) < 2 by omega),cond_false]
  have k3 := fun kx kr => k (N - 3) kx kr
  rw [sub_add (show 3 ≤ N by omega)] at k3
  show iter _ N (key,t,s.1,s.2.2,((s.2.2.length : Nat) : Int),(0:Int)) = _
  rw [e4]
  refine (k3 _ _).trans ?_
  rw [g0,g1,e1,Int.toNat_natCast]
/-! Words, signed and verified. -/
def fVer (N : Nat) (v : Den tVouched) (now : Int) : Bool :=
 bif credOk v.1 then bif decide (now ≤ v.1.2.2.2.2.2.1) then fSB (fKey N (fSeed v.1.2.1.1)) (ctext N v.1) v.2 else false else false
theorem spec_Ver {N : Nat} (hN : Big N) (v : Den tVouched) (hc : smallC v.1) (h1 : v.2.2.1.length ≤ 1048576) (h2 : v.2.2.2.length ≤ 1048576) (now : Int) : x_f55 N v now = some (fVer N v now) := by
 obtain ⟨t1,t2,t3⟩ := spec_CredText hN v.1 hc
 unfold x_f55 fVer
 rw [credOk_s,Option.bind_some]
 cases hk : credOk v.1 with
 | false => rfl
 | true =>
  rw [hk] at t1
  cases decide (now ≤ v.1.2.2.2.2.2.1) with
  | false => rfl
  | true =>
   simp only [cond_true,spec_Seed,Option.bind_some,spec_Key hN,t1,spec_SB hN _ (ctext N v.1) v.2 (by omega) h1 h2]
theorem impl_Ver {N : Nat} (hN : Big N) (v : Den tVouched) (hc : smallC v.1) (h1 : v.2.2.1.length ≤ 1048576) (h2 : v.2.2.2.length ≤ 1048576) (now : Int) : x_f15 N v now = some (fVer N v now) := by
 obtain ⟨t1,t2,t3⟩ := spec_CredText hN v.1 hc
 have t4 := impl_CredText hN v.1 hc
 unfold x_f15 fVer
 rw [credOk_i,Option.bind_some]
 cases hk : credOk v.1 with
 | false => rfl
 | true =>
  rw [hk] at t4
  cases decide (now ≤ v.1.2.2.2.2.2.1) with
  | false => rfl
  | true =>
   simp only [cond_true,impl_Seed,Option.bind_some,impl_Key hN,t4,impl_SB hN _ (ctext N v.1) v.2 (by omega) h1 h2]
theorem pure_FnExactVerified (a0 : Den tVouched) (a1 : Int) (g0 : good tVouched a0) (g1 : good I a1) : ∃ N,x_laws_FnExactVerified N a0 a1 = some true := by
 refine ⟨1099511627776,?_⟩
 have hN : Big 1099511627776 := Nat.le_refl _
 generalize 1099511627776 = N at hN
 unfold x_laws_FnExactVerified
 obtain ⟨k,e,hk⟩ := sz_Vouched hN a0 g0 1048576 (by omega) (by omega)
 rw [e,Option.bind_some]
 rcases hk with hk | ⟨h1,h2,h⟩
 ·rw [dT hk]; rfl
 ·rw [dF (by omega)]
  have hc : smallC a0.1 := smallC_good a0.1 g0.1
  have l1 : a0.2.2.1.length ≤ 1048576 := h.2.2.1.1
  have l2 : a0.2.2.2.length ≤ 1048576 := h.2.2.2.1
  simp only [cond_false,to_Vouched hN a0 h,Option.bind_some,spec_Ver hN a0 hc l1 l2,impl_Ver hN a0 hc l1 l2,eq_Vouched hN a0 h,beq_self_eq_true,Bool.not_true]
end Go.Proofs.Ytflmdpbhmmohiaa.C
