/- The evaluator of typed data, and its reads: sound, with no condition beyond those each lemma names. -/
import Derived.Test.YtkmhopbmpeiofaaNxg
set_option linter.unusedVariables false
set_option linter.unusedSimpArgs false
namespace Go.Proofs.Ytkmhopbmpeiofaa.Nx
open Go Go.RowKit
mutual
def flt (p : Nat → Bool) : TV → TV
 | .own j => bif p j then .own j else .any
 | .sub j o l => bif p j then .sub j o l else .any
 | .ptr j r o => bif p j then .ptr j r o else .any
 | .ag cs => .ag (fltL p cs)
 | .tp cs => .tp (fltL p cs)
 | .ipt cs => .ipt (fltL p cs)
 | .fn f cs => .fn f (fltL p cs)
 | .any => .any
 | .v T x => .v T x
 | .c v => .c v
 | .nil => .nil
 | .emp => .emp
 | .ipv T x o => .ipv T x o
def fltL (p : Nat → Bool) : List TV → List TV
 | [] => []
 | x :: xs => flt p x :: fltL p xs
end
def TB.flt (p : Nat → Bool) : TB → TB
 | .box cs => .box (fltL p cs)
 | .arr T o L => .arr T o L
 | .rws T R => .rws T (R.map (fltL p))
 | .hol T L row off c => .hol T L row off (Nx.flt p c)
 | .tld T L row cs => .tld T L row (fltL p cs)
 | .log T L => .log T L
 | .ara n k L => .ara n k L
def fltU (p : Nat → Bool) : List (Nat × TV) → List (Nat × TV)
 | [] => []
 | x :: u => (x.1,flt p x.2) :: fltU p u
def fltH (p : Nat → Bool) : THP → THP
 | [] => []
 | b :: hp => b.map (TB.flt p) :: fltH p hp
def TS.flt (t : TS) (p : Nat → Bool) : TS := ⟨fltU p t.u,fltH p t.hp⟩
def TS.new (t : TS) (bs : List TB) : TS :=
 let n := t.hp.length
 ⟨fltU (fun i => Nat.blt i n) t.u,fltH (fun i => Nat.blt i n) t.hp ++ bs.map some⟩
def memB (l : List Nat) (i : Nat) : Bool := l.any (Nat.beq i)
def setAll (hp : THP) : List Nat → THP
 | [] => hp
 | j :: l => setAll (hp.set j none) l
def TS.kill (t : TS) (l : List Nat) : TS :=
 let t' := t.flt fun i => !memB l i
 ⟨t'.u,setAll t'.hp l⟩
def TS.grow (t : TS) (j : Nat) (b : TB) : TS :=
 let t' := t.flt fun i => !Nat.beq i j
 ⟨t'.u,t'.hp.set j (some b)⟩
def nodupB : List Nat → Bool
 | [] => true
 | x :: xs => !(xs.any (Nat.beq x)) && nodupB xs
def asOwnC (hp : THP) : (T : Ty) → List TV → Option (Den T × List Nat × List TV)
 | .pr a b,cs => match asOwnC hp a cs with
  | some (x,l,cs) => match asOwnC hp b cs with
   | some (y,m,cs) => some ((x,y),l ++ m,cs)
   | none => none
  | none => none
 | .st t,cs => asOwnC hp t cs
 | .i k,c :: cs => match c with | .v A x => (match cst (.i k) x with | some x => some (x,[],cs) | none => none) | _ => none
 | .bl,c :: cs => match c with | .v A x => (match cst .bl x with | some x => some (x,[],cs) | none => none) | _ => none
 | .tx,c :: cs => match c with | .v A x => (match cst .tx x with | some x => some (x,[],cs) | none => none) | _ => none
 | .sl t,c :: cs => match c with
  | .own j => (match hp[j]? with
   | some (some (.arr A o L)) => bif (o || A.flat) then (match cst (A := .sl A) (.sl t) L with | some x => some (x,[j],cs) | none => none) else none
   | _ => none)
  | .nil => some ([],[],cs)
  | _ => none
 | .sv t,c :: cs => match c with | .v A x => (match cst (.sl t) x with | some x => some (x,[],cs) | none => none) | .nil => some ([],[],cs) | _ => none
 | .ar _ _,_ :: _ => none
 | _,[] => none
def asRowsO (hp : THP) (T : Ty) : List (List TV) → Option (List (Den T) × List Nat)
 | [] => some ([],[])
 | cs :: R => match asOwnC hp T cs with
  | some (x,l,[]) => match asRowsO hp T R with
   | some (xs,m) => some (x :: xs,l ++ m)
   | none => none
  | _ => none
def setG (f : (T : Ty) → TV → Option (Den T × List Nat)) : (T : Ty) → Den T → Nat → Nat → TV → Option (Den T × List Nat)
 | .st t,x,off,n,y => bif (Nat.beq off 0 && Nat.beq n t.sz) then f (.st t) y else setG f t x off n y
 | .pr a b,x,off,n,y => bif Nat.ble (off + n) a.sz then (setG f a x.1 off n y).map fun z => ((z.1,x.2),z.2) else bif Nat.ble a.sz off then (setG f b x.2 (off - a.sz) n y).map fun z => ((x.1,z.1),z.2) else none
 | .i k,_,off,n,y => bif (Nat.beq off 0 && Nat.beq n 1) then f (.i k) y else none
 | .bl,_,off,n,y => bif (Nat.beq off 0 && Nat.beq n 1) then f .bl y else none
 | .tx,_,off,n,y => bif (Nat.beq off 0 && Nat.beq n 1) then f .tx y else none
 | .sl t,_,off,n,y => bif (Nat.beq off 0 && Nat.beq n 1) then f (.sl t) y else none
 | .sv t,_,off,n,y => bif (Nat.beq off 0 && Nat.beq n 1) then f (.sv t) y else none
 | .ar _ _,_,_,_,_ => none
def fV (T : Ty) (y : TV) : Option (Den T × List Nat) := (asDen T y).map fun z => (z,[])
def fO (hp : THP) (T : Ty) (y : TV) : Option (Den T × List Nat) :=
 match asOwnC hp T y.cs with
 | some (z,l,[]) => some (z,l)
 | _ => none
def getL : (T : Ty) → Den T → Nat → Option ((t : Ty) × List (Den t))
 | .st t,x,off => getL t x off
 | .pr a b,x,off => bif Nat.blt off a.sz then getL a x.1 off else getL b x.2 (off - a.sz)
 | .sl t,x,off => bif Nat.beq off 0 then some ⟨t,x⟩ else none
 | _,_,_ => none
def settle1 (t : TS) (j : Nat) : TS :=
 match t.hp[j]? with
 | some (some (.hol T L row off (.own k))) => bif (Nat.ble (off + 1) T.sz && isArr t.hp k) then
   (match setG (fO t.hp) T (L.getD row (dft T)) off 1 (.own k) with
   | some (z,l) => bif nodupB (j :: l) then (({ t with hp := t.hp.set j (some (.arr T true (L.set row z))) } : TS).kill l) else t
   | none => t) else t
 | some (some (.tld T L row cs)) => (match asOwnC t.hp T cs with
  | some (z,l,[]) => bif (cs.all (TV.c1 t.hp) && nodupB (j :: l)) then (({ t with hp := t.hp.set j (some (.arr T true (L.set row z))) } : TS).kill l) else t
  | _ => t)
 | _ => t
def settleN : Nat → TS → TS
 | 0,t => t
 | i + 1,t => settleN i (settle1 t i)
def settle (t : TS) : TS := settleN t.hp.length t
def holAt (hp : THP) (j : Nat) : Bool :=
 match hp[j]? with
 | some (some (.hol _ _ _ _ _)) => true
 | some (some (.tld _ _ _ _)) => true
 | _ => false
def hits1 (hp : THP) : TV → Bool
 | .own j => holAt hp j
 | .sub j _ _ => holAt hp j
 | .ptr j _ _ => holAt hp j
 | _ => false
def hits (hp : THP) : TV → Bool
 | .ag cs => cs.any (hits1 hp)
 | x => hits1 hp x
def wants : NO → List Operand
 | .ld _ _ x => [x]
 | .st _ x y => [x,y]
 | .iad _ x _ => [x]
 | .app _ _ _ x y => [x,y]
 | .len x => [x]
 | .slc _ x _ _ => [x]
 | .call _ l => l
 | .callv _ l => l
 | _ => []
def takeT (n : Nat) (t : TS) (x : Operand) : TS :=
 match t.ev n x with
 | .ptr j row off => match t.hp[j]? with
  | some (some (.arr T o L)) => bif (o && !T.flat) then
    (match getL T (L.getD row (dft T)) off with
    | some ⟨t',xs⟩ => { t.new [.arr t' true xs] with hp := (t.new [.arr t' true xs]).hp.set j (some (.hol T L row off (.own t.hp.length))) }
    | none => t) else t
  | _ => t
 | _ => t
abbrev TyO := List (Nat × Ty)
def tyAt : TyO → Nat → Option Ty
 | [],_ => none
 | p :: l,d => bif Nat.beq p.1 d then some p.2 else tyAt l d
def rsC (base : Nat) : (T : Ty) → Den T → List TV × List TB
 | .sl t,x => ([.own base],[.arr t true x])
 | .pr a b,x => ((rsC base a x.1).1 ++ (rsC (base + (rsC base a x.1).2.length) b x.2).1,(rsC base a x.1).2 ++ (rsC (base + (rsC base a x.1).2.length) b x.2).2)
 | .st t,x => rsC base t x
 | .i k,x => ([.v (.i k) x],[])
 | .bl,x => ([.v .bl x],[])
 | .tx,x => ([.v .tx x],[])
 | .sv t,x => ([.v (.sl t) x],[])
 | .ar n k,x => (tcls (.ar n k) x,[])
def takeR (n : Nat) (t : TS) (m : Nat) (x : Operand) : TS :=
 match t.ev n x with
 | .ptr j row off => (match t.hp[j]? with
  | some (some (.arr T o L)) => bif ((o && !T.flat) && (Nat.beq off 0 && Nat.beq m T.sz)) then
    { t.new (rsC t.hp.length T (L.getD row (dft T))).2 with hp := (t.new (rsC t.hp.length T (L.getD row (dft T))).2).hp.set j (some (.tld T L row (rsC t.hp.length T (L.getD row (dft T))).1)) } else t
  | _ => t)
 | _ => t
def ownz (Θ : TyO) (n : Nat) (t : TS) : Operand → TS
 | .tmp k => match tyAt Θ k with
  | some _ => (match t.get n k with
   | .sub j off len => (match t.hp[j]? with
    | some (some (.arr T o L)) => bif (Nat.beq off 0 && (o || T.flat)) then ((t.kill [j]).new [.arr T true (L.take len)]).put (some k) (.own t.hp.length) else t
    | _ => t)
   | _ => t)
  | none => t
 | _ => t
def arrz (n : Nat) (t : TS) (x : Operand) : TS :=
 match t.ev n x with
 | .own j => (match t.hp[j]? with
  | some (some (.rws T R)) => (match asRowsO t.hp T R with
   | some (L,l) => bif nodupB (j :: l) then ({ t with hp := t.hp.set j (some (.arr T true L)) } : TS).kill l else t
   | none => t)
  | _ => t)
 | _ => t
def arrN (n : Nat) (t : TS) (x : Operand) : TS :=
 match t.ev n x with
 | .own j => (match t.hp[j]? with
  | some (some (.rws T _)) => bif T.flat then t else arrz n t x
  | _ => t)
 | _ => t
def arrC (n : Nat) : TS → List Operand → TS
 | t,[] => t
 | t,x :: xs => arrC n (arrN n t x) xs
def seeV (hp : THP) : TV → Option (Nat × ((T : Ty) × List (Den T)))
 | .own j => (match hp[j]? with
  | some (some (.arr T _ L)) => some (j,⟨T,L⟩)
  | some (some (.log T L)) => some (j,⟨T,L⟩)
  | _ => none)
 | .sub j off len => (match hp[j]? with
  | some (some (.arr T _ L)) => some (j,⟨T,(L.drop off).take len⟩)
  | _ => none)
 | _ => none
def see (n : Nat) (t : TS) (k : Nat) : TS :=
 match seeV t.hp (t.get n k) with
 | some (j,⟨T,L⟩) => (t.kill [j]).put (some k) (.v (.sl T) L)
 | none => t
def isSee : Option Ty → Bool
 | some (.st (.st .bl)) => true
 | _ => false
def isSeeA : Option Ty → Bool
 | some (.st (.st (.st .bl))) => true
 | _ => false
def seeU (n : Nat) (t : TS) (j : Nat) : List Nat → TS → TS
 | [],t' => t'
 | k :: ks,t' => match seeV t.hp (t.get n k) with
  | some (j',⟨T,L⟩) => bif Nat.beq j j' then seeU n t j ks (t'.put (some k) (.v (.sl T) L)) else seeU n t j ks t'
  | none => seeU n t j ks t'
def seeA (n : Nat) (t : TS) (k : Nat) : TS :=
 match seeV t.hp (t.get n k) with
 | some (j,_) => seeU n t j (t.u.map Prod.fst) (t.kill [j])
 | none => t
def seeO (Θ : TyO) (n : Nat) (t : TS) : Operand → TS
 | .tmp k => bif isSee (tyAt Θ k) then see n t k else bif isSeeA (tyAt Θ k) then seeA n t k else t
 | _ => t
def seeQ (Θ : TyO) (n : Nat) : TS → List (Nat × Operand) → TS
 | t,[] => t
 | t,(_,x) :: ps => seeQ Θ n (seeO Θ n t x) ps
def seeP (Θ : TyO) (n : Nat) : TS → List (Nat × Nat × Operand) → TS
 | t,[] => t
 | t,(_,_,x) :: ps => seeP Θ n (seeO Θ n t x) ps
def prep (Θ : TyO) (n : Nat) (t : TS) (no : NO) : TS :=
 match no with
 | .iad sz x i => arrz n (bif (wants (.iad sz x i)).any (fun x => hits t.hp (t.ev n x)) then settle t else t) x
 | .st m x y => seeO Θ n (ownz Θ n (bif (wants (.st m x y)).any (fun x => hits t.hp (t.ev n x)) then settle t else t) y) y
 | .bld _ ps => seeP Θ n t ps
 | .bsl _ _ _ _ ps => seeQ Θ n t ps
 | .call f xs => arrC n (bif (wants (.call f xs)).any (fun x => hits t.hp (t.ev n x)) then settle t else t) xs
 | .ld m ag x => bif (Nat.beq m 1 && !ag) then takeT n (bif (wants no).any (fun x => hits t.hp (t.ev n x)) then settle t else t) x
   else takeR n (bif (wants no).any (fun x => hits t.hp (t.ev n x)) then settle t else t) m x
 | no => bif (wants no).any (fun x => hits t.hp (t.ev n x)) then settle t else t
def bslT (n : Nat) (t : TS) (T : Ty) : List (Nat × Operand) → List (Den T) → Option (List (Den T))
 | [],L => some L
 | (i,x) :: ps,L => match asDen T (t.ev n x) with
  | some y => bif (Nat.blt i L.length && (t.ev n x).fits t.hp T.sz) then bslT n t T ps (L.set i y) else none
  | none => none
def srcT (hp : THP) (T : Ty) : TV → Option (List (Den T))
 | .v (.sl A) L => cst (A := .sl A) (.sl T) L
 | .own j => match hp[j]? with
  | some (some (.arr A o L)) => bif (!o || A.flat) then cst (A := .sl A) (.sl T) L else none
  | _ => none
 | .sub j off len => match hp[j]? with
  | some (some (.arr A o L)) => bif (!o || A.flat) then cst (A := .sl A) (.sl T) ((L.drop off).take len) else none
  | _ => none
 | .nil => some []
 | .emp => some []
 | _ => none
def byteL (t : ByteArray) : List Int := t.data.toList.map fun b => (b.toNat : Int)
def srcY (hp : THP) : (T : Ty) → TV → Option (List (Den T))
 | .i k,.v .tx s => bif decide (k = .u8) then some (byteL s) else none
 | T,y => srcT hp T y
def zeroOk : (T : Ty) → List AV → Option (List AV)
 | .i k,z => match z with
  | .val (.int k' n) :: r => bif (decide (k = k') && decide (n = 0)) then some r else none
  | _ => none
 | .bl,z => match z with
  | .val (.bool b) :: r => bif b then none else some r
  | _ => none
 | .tx,z => match z with
  | .val (.string s) :: r => bif decide (s = ByteArray.empty) then some r else none
  | _ => none
 | .sl _,z => match z with
  | .val (.slice none 0 0) :: r => some r
  | _ => none
 | .sv _,z => match z with
  | .val (.slice none 0 0) :: r => some r
  | _ => none
 | .ar _ _,_ => none
 | .pr a b,z => match zeroOk a z with
  | some r => zeroOk b r
  | none => none
 | .st t,z => zeroOk t z
def zOk (T : Ty) (z : List AV) : Bool := match zeroOk T z with | some [] => true | _ => false
def bslR' (n : Nat) (t : TS) (sz : Nat) : List (Nat × Operand) → List (List TV) → Option (List (List TV))
 | [],R => some R
 | (i,x) :: ps,R => bif (Nat.blt i R.length && (t.ev n x).fits t.hp sz) then bslR' n t sz ps (R.set i (t.ev n x).cs) else none
def rowsOwn (hp : THP) (T : Ty) : TV → Option (List (Den T) × List Nat)
 | .own j => match hp[j]? with
  | some (some (.rws A R)) => bif decide (A = T) then (match asRowsO hp T R with
   | some (L,l) => some (L,j :: l)
   | none => none) else none
  | _ => none
 | _ => none
def strC (str : Bool) : TV → Bool
 | .v .tx _ => str
 | _ => !str
def appNew {Ω : Type} (Θ : TyO) (t : TS) (d : Option Nat) (k : TS → Option Ω) (sz by_ : Nat) (y : TV) : Option Ω :=
 match d.bind (tyAt Θ) with
 | some T => bif Nat.beq T.sz sz then
   (match srcY t.hp T y with
   | some L2 => chk (some (decide (L2.length * by_ ≤ 140737488355328))) (k ((t.new [.arr T T.flat L2]).put d (.own t.hp.length)))
   | none => match rowsOwn t.hp T y with
    | some (L2,l) => bif (nodupB l && l.all fun i => Nat.blt i t.hp.length) then chk (some (decide (L2.length * by_ ≤ 140737488355328))) (k (((t.new [.arr T true L2]).kill l).put d (.own t.hp.length))) else none
    | none => none) else none
 | none => none
noncomputable def agree {Ω : Type} (a b : Option Ω) : Option Ω := @ite _ (a = b) (Classical.propDecidable _) a none
theorem agree_self {Ω : Type} (a : Option Ω) : agree a a = a := if_pos rfl
theorem agree_some {Ω : Type} {a b : Option Ω} {r : Ω} (h : agree a b = some r) : a = some r ∧ b = some r := by
 unfold agree at h
 split at h
 ·rename_i e; exact ⟨h,e ▸ h⟩
 ·cases h
def cpyL (L : List Int) (off len : Nat) (L2 : List Int) : List Int := L.take off ++ (L2.take (min L2.length len) ++ L.drop (off + min L2.length len))
def cpyT {Ω : Type} (t : TS) (d : Option Nat) (k : TS → Option Ω) (j off : Nat) (len : Option Nat) (y : TV) : Option Ω :=
 match t.hp[j]? with
 | some (some (.arr (.i K) o L)) => (match srcT t.hp (.i K) y with
  | some L2 => chk (len.map fun l => Nat.ble (off + l) (List.length (α := Int) L)) (k (({ t with hp := t.hp.set j (some (.arr (.i K) o (cpyL L off (len.getD (List.length (α := Int) L)) L2))) } : TS).put d (.v (.i .i64) (min (List.length (α := Int) L2) (len.getD (List.length (α := Int) L)) : Nat))))
  | none => none)
 | _ => none
def dIn (d : Option Nat) (n : Nat) : Bool := match d with
 | some d => Nat.blt d n
 | none => false
def padL (n : Nat) (L : List Int) : List Int := (List.range n).map fun i => L.getD i 0
def arT : Option Ty → Option (Nat × IntKind)
 | some (.ar n k) => some (n,k)
 | _ => none
def zAr (m : Nat) (K : IntKind) (z : List AV) : Bool := Nat.beq z.length m && z.all fun c => match c with
 | .val (.int k x) => decide (k = K) && decide (x = 0)
 | _ => false
noncomputable def xeff {Ω : Type} (n : Nat) (Θ : TyO) (t : TS) (d : Option Nat) (k : TS → Option Ω) : NO → Option Ω
 | .al z => match arT (d.bind (tyAt Θ)) with
  | some (m,K) => bif zAr m K z then k ((t.new [.ara m K (List.replicate m 0)]).put d (.ptr t.hp.length 0 0)) else none
  | none => bif z.all isVal then k ((t.new [.box (z.map cAVt)]).put d (.ptr t.hp.length 0 0)) else none
 | .bx m x => match t.ev n x with
  | .v (.ar m' K) L => bif Nat.beq m m' then k ((t.new [.ara m' K L]).put d (.ptr t.hp.length 0 0)) else none
  | _ => bif (t.ev n x).fits t.hp m then k ((t.new [.box (fltL (fun i => Nat.blt i t.hp.length) (t.ev n x).cs)]).put d (.ptr t.hp.length 0 0)) else none
 | .bsl sz m ag z ps => match d.bind (tyAt Θ) with
  | some T => bif (Nat.beq T.sz sz && (T.ag == ag)) then
    (bif (T.flat && (zOk T z || Nat.beq m 0) || Nat.beq m 0) then
     (match bslT n t T ps (List.replicate m (dft T)) with
     | some L => k ((t.new [.arr T true L]).put d (.own t.hp.length))
     | none => none)
    else bif z.all isVal then bif Nat.beq z.length T.sz then
     (match bslR' n t sz ps (List.replicate m (z.map cAVt)) with
     | some R => k ((t.new [.rws T (R.map (fltL (fun i => Nat.blt i t.hp.length)))]).put d (.own t.hp.length))
     | none => none)
    else none else none) else none
  | none => none
 | .mk sz by_ ag z l c => match d.bind (tyAt Θ),t.ev n l,t.ev n c with
  | some T,.v (.i _) m,.v (.i _) m' => bif (Nat.beq T.sz sz && ((T.ag == ag) && zOk T z)) then
    chk (some (decide (m = m') && (decide (0 ≤ m) && (decide (m * by_ ≤ 140737488355328) && decide (m ≤ 9223372036854775807)))))
     (k ((t.new [.arr T true (List.replicate m.toNat (dft T))]).put d (.own t.hp.length))) else none
  | _,_,_ => none
 | .st m x y => match t.ev n x with
  | .ptr j row off => match t.hp[j]? with
   | some (some (.box cs)) => bif (Nat.beq row 0 && (Nat.ble (off + m) cs.length && (t.ev n y).fits t.hp m)) then
     k (({ t with hp := t.hp.set j (some (.box (cs.take off ++ ((t.ev n y).cs ++ cs.drop (off + m))))) } : TS).put d .any) else none
   | some (some (.ara m' K L)) => bif Nat.beq row 0 then (match t.ev n y with
    | .v A z => (match cst (.i K) z with
     | some v => bif Nat.beq m 1 then chk (some (decide (off < m'))) (k (({ t with hp := t.hp.set j (some (.ara m' K ((padL m' L).set off v))) } : TS).put d .any)) else none
     | none => (match cst (.ar m' K) z with
      | some L2 => bif (Nat.beq off 0 && Nat.beq m m') then k (({ t with hp := t.hp.set j (some (.ara m' K L2)) } : TS).put d .any) else none
      | none => none))
    | .ag cs => (match arOf m' K cs with
     | some L2 => bif (Nat.beq off 0 && Nat.beq m m') then k (({ t with hp := t.hp.set j (some (.ara m' K L2)) } : TS).put d .any) else none
     | none => none)
    | _ => none) else none
   | some (some (.arr T o L)) => bif (Nat.ble (off + m) T.sz && (t.ev n y).fits t.hp m) then
     (bif (!o || T.flat) then
      (match setG fV T (L.getD row (dft T)) off m (t.ev n y) with
      | some (z,_) => k (({ t with hp := t.hp.set j (some (.arr T o (L.set row z))) } : TS).put d .any)
      | none => none)
     else (match setG (fO t.hp) T (L.getD row (dft T)) off m (t.ev n y) with
      | some (z,l) => bif nodupB (j :: l) then k ((({ t with hp := t.hp.set j (some (.arr T o (L.set row z))) } : TS).kill l).put d .any) else none
      | none => none)) else none
   | some (some (.hol T L row' off' _)) => (match t.ev n y with
    | .own q => bif (Nat.beq off off' && (Nat.beq m 1 && (Nat.ble (off' + 1) T.sz && isArr t.hp q))) then
      chk (some (Nat.beq row row')) (k (({ t with hp := t.hp.set j (some (.hol T L row' off' (.own q))) } : TS).put d .any)) else none
    | _ => none)
   | _ => none
  | _ => none
 | .app str sz by_ x y => bif strC str (t.ev n y) then
   (match t.ev n x with
   | .own j => match t.hp[j]? with
    | some (some (.arr T o L)) => bif Nat.beq T.sz sz then
      (bif (!o || T.flat) then
       (match srcY t.hp T (t.ev n y) with
       | some L2 => chk (some (decide ((L.length + L2.length) * by_ ≤ 140737488355328)))
         (k ((t.grow j (.arr T o (L ++ L2))).put d (.own j)))
       | none => none)
      else (match rowsOwn t.hp T (t.ev n y) with
       | some (L2,l) => bif nodupB (j :: l) then chk (some (decide ((L.length + L2.length) * by_ ≤ 140737488355328)))
         (k (((t.grow j (.arr T o (L ++ L2))).kill l).put d (.own j))) else none
       | none => none)) else none
    | some (some (.log T L)) => bif (Nat.beq T.sz sz && dIn d n) then
      (match srcY t.hp T (t.ev n y) with
       | some L2 => chk (some (decide ((L.length + L2.length) * by_ ≤ 140737488355328)))
         (k (((t.kill [j]).new [.log T (L ++ L2)]).put d (.own t.hp.length)))
       | none => none) else none
    | _ => none
   | .nil => appNew Θ t d k sz by_ (t.ev n y)
   | .emp => appNew Θ t d k sz by_ (t.ev n y)
   | _ => none) else none
 | .csb x => match t.ev n x with
  | .v .tx s => k ((t.new [.arr (.i .u8) true (byteL s)]).put d (.own t.hp.length))
  | _ => none
 | .cpy x y => match t.ev n x with
  | .own j => cpyT t d k j 0 none (t.ev n y)
  | .sub j off len => cpyT t d k j off (some len) (t.ev n y)
  | _ => none
 | .isn neg x => match t.ev n x with
  | .v (.sl _) L => bif decide (L.length = 0) then agree (k (t.put d (.v .bl !neg))) (k (t.put d (.v .bl neg))) else k (t.put d (.v .bl neg))
  | _ => none
 | _ => none
inductive PK where
 | un
 | d (T : Ty)
 | ip (T : Ty)
 | fn (f : FuncId) (c : PK)
 | pr (a b : PK)
@[reducible] def DenP : PK → Type
 | .un => Unit
 | .d T => Den T
 | .ip T => Den T
 | .fn _ c => DenP c
 | .pr a b => DenP a × DenP b
inductive RK where
 | un
 | t (T : Ty)
 | pv (T : Ty)
 | pr (a b : RK)
def noPv : RK → Bool
 | .pv _ => false
 | .pr a b => noPv a && noPv b
 | .un => true
 | .t T => T.nov
@[reducible] def DenR : RK → Type
 | .un => Unit
 | .t T => Den T
 | .pv T => Den T
 | .pr a b => DenR a × DenR b
def asArg (hp : THP) : (T : Ty) → TV → Option (Den T)
 | .st t,.ag cs => match asArgC hp t cs with
  | some (x,[]) => some x
  | _ => none
 | .ar n k,.ag cs => arOf n k cs
 | T,.v A x => cstU T x
 | .sl T,.own j => match hp[j]? with
  | some (some (.arr A _ L)) => cstU (A := .sl A) (.sl T) L
  | _ => none
 | .sl T,.sub j off len => match hp[j]? with
  | some (some (.arr A _ L)) => cstU (A := .sl A) (.sl T) ((L.drop off).take len)
  | _ => none
 | .sl _,.nil => some []
 | .sl _,.emp => some []
 | _,_ => none
where
 asArgC (hp : THP) : (T : Ty) → List TV → Option (Den T × List TV)
 | .pr a b,cs => match asArgC hp a cs with
  | some (x,cs) => match asArgC hp b cs with
   | some (y,cs) => some ((x,y),cs)
   | none => none
  | none => none
 | .st t,cs => asArgC hp t cs
 | .i k,c :: cs => match c with | .v A x => (match cst (.i k) x with | some x => some (x,cs) | none => none) | _ => none
 | .bl,c :: cs => match c with | .v A x => (match cst .bl x with | some x => some (x,cs) | none => none) | _ => none
 | .tx,c :: cs => match c with | .v A x => (match cst .tx x with | some x => some (x,cs) | none => none) | _ => none
 | .sl t,c :: cs => match c with
  | .v A x => (match cstU (.sl t) x with | some x => some (x,cs) | none => none)
  | .own j => (match hp[j]? with
   | some (some (.arr A _ L)) => (match cstU (A := .sl A) (.sl t) L with | some x => some (x,cs) | none => none)
   | _ => none)
  | .sub j off len => (match hp[j]? with
   | some (some (.arr A _ L)) => (match cstU (A := .sl A) (.sl t) ((L.drop off).take len) with | some x => some (x,cs) | none => none)
   | _ => none)
  | .nil => some ([],cs) | _ => none
 | .sv t,c :: cs => match c with | .v A x => (match cst (.sl t) x with | some x => some (x,cs) | none => none) | .nil => some ([],cs) | _ => none
 | .ar _ _,_ :: _ => none
 | _,[] => none
def need : PK → Nat
 | .fn _ c => need c + 1
 | .pr a b => max (need a) (need b)
 | _ => 2
def asPs (hp : THP) : (p : PK) → List TV → Option (DenP p × List TV)
 | .un,xs => some ((),xs)
 | .d T,x :: xs => match asArg hp T x with
  | some y => some (y,xs)
  | none => none
 | .ip T,x :: xs => match x with
  | .ipv A y off => bif Nat.beq off 0 then (match cst T y with | some y => some (y,xs) | none => none) else none
  | .ipt cs => (match asArg.asArgC hp T cs with | some (y,[]) => some (y,xs) | _ => none)
  | .ptr j row off => bif (Nat.beq row 0 && Nat.beq off 0) then (match hp[j]? with
   | some (some (.box cs)) => (match asArg.asArgC hp T cs with | some (y,[]) => some (y,xs) | _ => none)
   | _ => none) else none
  | _ => none
 | .fn f c,x :: xs => match x with
  | .fn g cs => bif Nat.beq f g then (match asPs hp c cs with | some (y,[]) => some (y,xs) | _ => none) else none
  | _ => none
 | .pr a b,xs => match asPs hp a xs with
  | some (x,xs) => match asPs hp b xs with
   | some (y,xs) => some ((x,y),xs)
   | none => none
  | none => none
 | _,[] => none
def isSv : Ty → Bool
 | .sv _ => true
 | _ => false
def nrmT : (T : Ty) → Den T → TV
 | .sv t,x => .v (.sl t) x
 | T,x => .v T x
def resT (base : Nat) (T : Ty) (x : Den T) : TV × List TB :=
 bif T.flat then (nrmT T x,[]) else bif T.ag then (.ag (rsC base T x).1,(rsC base T x).2) else ((rsC base T x).1.headD .any,(rsC base T x).2)
def resR (base : Nat) : (R : RK) → DenR R → List TV × List TB
 | .un,_ => ([],[])
 | .t T,x => ([(resT base T x).1],(resT base T x).2)
 | .pv T,x => ([.ptr base 0 0],[.box (tcls T x)])
 | .pr a b,x => ((resR base a x.1).1 ++ (resR (base + (resR base a x.1).2.length) b x.2).1,(resR base a x.1).2 ++ (resR (base + (resR base a x.1).2.length) b x.2).2)
def tupT : List TV → TV
 | [x] => x
 | l => .tp l
def numT : Nat → List TV → List (Nat × TV)
 | _,[] => []
 | k,x :: xs => (k,x) :: numT (k + 1) xs
inductive SK where
 | un
 | d (k : Nat) (T : Ty)
 | o (k : Nat) (T : Ty)
 | mo (k : Nat) (T : Ty)
 | lg (k : Nat) (T : Ty)
 | av (k : Nat) (n : Nat) (K : IntKind)
 | bx (k : Nat) (T : Ty)
 | bv (k : Nat) (T : Ty)
 | fn (k : Nat) (f : FuncId) (c : PK)
 | ip (k : Nat) (T : Ty)
 | ow (k : Nat) (T : Ty)
 | al (k : Nat) (f : FuncId) (ks : List Nat)
 | sum (a b : SK)
 | pr (a b : SK)
@[reducible] def DenS : SK → Type
 | .un => Unit
 | .d _ T => Den T
 | .o _ T => List (Den T)
 | .mo _ T => List (Den T)
 | .lg _ T => List (Den T)
 | .av _ _ _ => List Int
 | .bx _ T => Den T
 | .bv _ T => Den T
 | .fn _ _ c => DenP c
 | .ip _ T => Den T
 | .ow _ T => Den T
 | .al _ _ _ => Unit
 | .sum a b => DenS a ⊕ DenS b
 | .pr a b => DenS a × DenS b
def capT : (p : PK) → DenP p → List TV
 | .un,_ => []
 | .d T,x => [.v T x]
 | .ip T,x => [.ipv T x 0]
 | .fn f c,x => [.fn f (capT c x)]
 | .pr a b,x => capT a x.1 ++ capT b x.2
def ust (base : Nat) : (s : SK) → DenS s → List (Nat × TV) × List TB
 | .un,_ => ([],[])
 | .d k T,x => ([(k,.v T x)],[])
 | .o k T,x => ([(k,.own base)],[.arr T true x])
 | .mo k T,x => ([(k,.own base)],[.arr T true x])
 | .lg k T,x => ([(k,.own base)],[.log T x])
 | .av k n K,x => ([(k,.ptr base 0 0)],[.ara n K x])
 | .bx k T,x => ([(k,.ptr (base + (rsC base T x).2.length) 0 0)],(rsC base T x).2 ++ [.box (rsC base T x).1])
 | .bv k T,x => ([(k,.ptr base 0 0)],[.box (tcls T x)])
 | .fn k f c,x => ([(k,.fn f (capT c x))],[])
 | .ip k T,x => ([(k,.ipv T x 0)],[])
 | .ow k T,x => ([(k,.ag (rsC base T x).1)],(rsC base T x).2)
 | .al _ _ _,_ => ([],[])
 | .sum _ _,_ => ([],[])
 | .pr a b,x => ((ust base a x.1).1 ++ (ust (base + (ust base a x.1).2.length) b x.2).1,(ust base a x.1).2 ++ (ust (base + (ust base a x.1).2.length) b x.2).2)
def mkS (s : SK) (x : DenS s) : TS := ⟨(ust 0 s x).1,(ust 0 s x).2.map some⟩
def srcC (hp : THP) : (T : Ty) → List TV → Option (Den T × List (Option Nat) × List TV)
 | .pr a b,cs => match srcC hp a cs with
  | some (x,l,cs) => match srcC hp b cs with
   | some (y,m,cs) => some ((x,y),l ++ m,cs)
   | none => none
  | none => none
 | .st t,cs => srcC hp t cs
 | .i k,c :: cs => match c with | .v A x => (match cst (.i k) x with | some x => some (x,[],cs) | none => none) | _ => none
 | .bl,c :: cs => match c with | .v A x => (match cst .bl x with | some x => some (x,[],cs) | none => none) | _ => none
 | .tx,c :: cs => match c with | .v A x => (match cst .tx x with | some x => some (x,[],cs) | none => none) | _ => none
 | .sl t,c :: cs => match c with
  | .own j => (match hp[j]? with
   | some (some (.arr A o L)) => bif (o || A.flat) then (match cst (A := .sl A) (.sl t) L with | some x => some (x,[some j],cs) | none => none) else none
   | _ => none)
  | .nil => some ([],[none],cs)
  | _ => none
 | .sv t,c :: cs => match c with | .v A x => (match cst (.sl t) x with | some x => some (x,[],cs) | none => none) | _ => none
 | .ar _ _,_ :: _ => none
 | _,[] => none
def keep (n : Nat) (t : TS) : SK → List (Option Nat)
 | .o k _ => match t.get n k with
  | .own j => [some j]
  | _ => [none]
 | .mo k _ => match t.get n k with
  | .own j => [some j]
  | _ => [none]
 | .lg k _ => match t.get n k with
  | .own j => [some j]
  | _ => [none]
 | .av k _ _ => match t.get n k with
  | .ptr j _ _ => [some j]
  | _ => []
 | .bx k T => match t.get n k with
  | .ptr j _ _ => match t.hp[j]? with
   | some (some (.box cs)) => match srcC t.hp T cs with
    | some (_,l,_) => l ++ [some j]
    | none => []
   | _ => []
  | _ => []
 | .bv k _ => match t.get n k with
  | .ptr j _ _ => [some j]
  | _ => []
 | .ow k T => match t.get n k with
  | .ag cs => match srcC t.hp T cs with
   | some (_,l,_) => l
   | none => []
  | _ => []
 | .pr a b => keep n t a ++ keep n t b
 | _ => []
def canon (n : Nat) (t t' : TS) : (s : SK) → Option (DenS s)
 | .un => some ()
 | .d k T => asArg t'.hp T (t'.get n k)
 | .o k T => match t.get n k with
  | .own j => match t.hp[j]? with
   | some (some (.arr A o L)) => bif (o || A.flat) then cst (A := .sl A) (.sl T) L else none
   | _ => none
  | .nil => some []
  | _ => none
 | .mo k T => match t.get n k with
  | .own j => match t.hp[j]? with
   | some (some (.arr A o L)) => bif (o || A.flat) then cst (A := .sl A) (.sl T) L else none
   | _ => none
  | .nil => some []
  | _ => none
 | .lg k T => match t.get n k with
  | .own j => match t.hp[j]? with
   | some (some (.log A L)) => cst (A := .sl A) (.sl T) L
   | some (some (.arr A _ L)) => bif (decide (A = T) && L.isEmpty) then some [] else none
   | _ => none
  | .nil => some []
  | _ => none
 | .av k m K => match t.get n k with
  | .ptr j row off => bif (Nat.beq row 0 && Nat.beq off 0) then (match t.hp[j]? with
   | some (some (.ara m' K' L)) => bif (Nat.beq m m' && decide (K = K')) then some L else none
   | _ => none) else none
  | _ => none
 | .bx k T => match t.get n k with
  | .ptr j row off => bif (Nat.beq row 0 && Nat.beq off 0) then (match t.hp[j]? with
   | some (some (.box cs)) => match srcC t.hp T cs with
    | some (x,_,[]) => some x
    | _ => none
   | _ => none) else none
  | _ => none
 | .bv k T => match t.get n k with
  | .ptr j row off => bif (Nat.beq row 0 && Nat.beq off 0) then (match t.hp[j]? with
   | some (some (.box cs)) => match asCls T cs with
    | some (x,[]) => some x
    | _ => none
   | _ => none) else none
  | _ => none
 | .fn k f c => match t'.get n k with
  | .fn g cs => bif (Nat.beq f g && Nat.ble (need c) 7) then (match asPs t'.hp c cs with | some (y,[]) => some y | _ => none) else none
  | _ => none
 | .ip k T => match asPs t'.hp (.ip T) [t'.get n k] with
  | some (y,[]) => some y
  | _ => none
 | .ow k T => match t.get n k with
  | .ag cs => match srcC t.hp T cs with
   | some (x,_,[]) => some x
   | _ => none
  | _ => none
 | .al _ _ _ => some ()
 | .sum _ _ => none
 | .pr a b => match canon n t t' a,canon n t t' b with
  | some x,some y => some (x,y)
  | _,_ => none
def somes : List (Option Nat) → List Nat
 | [] => []
 | some j :: l => j :: somes l
 | none :: l => somes l
def mask (n : Nat) (s : SK) (t : TS) : Option (DenS s) :=
 let l := somes (keep n t s)
 bif nodupB l then canon n t (t.kill l) s else none
def isPre : Nat → Nat → List (Option Nat) → Bool
 | 0,_,_ => true
 | q + 1,i,some j :: l => Nat.beq j i && isPre q (i + 1) l
 | _ + 1,_,_ => false
def maskQ (n q : Nat) (s : SK) (t : TS) : Option (DenS s) := bif isPre q 0 (keep n (settle t) s) then mask n s (settle t) else none
def alsS : SK → List (Nat × FuncId × List Nat)
 | .al k f ks => [(k,f,ks)]
 | .pr a b => alsS a ++ alsS b
 | _ => []
def isBox (hp : THP) (j : Nat) : Bool :=
 match hpk hp j with
 | some none => true
 | _ => false
def al2 (n : Nat) (t : TS) : List TV → List Nat → Bool
 | [],[] => true
 | c :: cs,q :: ks => (match c with
  | .ptr j row off => (match t.get n q with
   | .ptr j' row' off' => Nat.beq j j' && (Nat.beq row row' && (Nat.beq off off' && (Nat.beq row 0 && (isBox t.hp j && Nat.blt q n))))
   | _ => false)
  | _ => false) && al2 n t cs ks
 | _,_ => false
def alOk (n : Nat) (t : TS) : List (Nat × FuncId × List Nat) → Bool
 | [] => true
 | (k,f,ks) :: l => (match t.get n k with
  | .fn g cs => Nat.beq f g && al2 n t cs ks
  | _ => false) && alOk n t l
def addAl : List (Nat × FuncId × List Nat) → TS → TS
 | [],t => t
 | (k,f,ks) :: l,t => addAl l (t.put (some k) (.fn f (ks.map (fnd t.u))))
def stL : (s : SK) → DenS s → TS
 | .sum a b,x => (match x with
  | .inl y => stL a y
  | .inr y => stL b y)
 | s,x => addAl (alsS s) (mkS s x)
def splitL {Ω : Type} (k : TS → Ω) : (s : SK) → DenS s → Ω
 | .sum a b,x => (match x with
  | .inl y => splitL k a y
  | .inr y => splitL k b y)
 | s,x => k (addAl (alsS s) (mkS s x))
def lgsS : SK → List Nat
 | .lg k _ => [k]
 | .pr a b => lgsS a ++ lgsS b
 | _ => []
def look1 (hp : THP) : TV → TV
 | .own j => match hp[j]? with
  | some (some (.log T L)) => .v (.sl T) L
  | _ => .own j
 | x => x
def lookU (ks : List Nat) (hp : THP) : List (Nat × TV) → List (Nat × TV)
 | [] => []
 | p :: u => (p.1,bif memB ks p.1 then p.2 else look1 hp p.2) :: lookU ks hp u
def look (s : SK) (t : TS) : TS :=
 match lgsS s with
 | [] => t
 | ks => ⟨lookU ks t.hp t.u,t.hp⟩
def maskL (n q : Nat) : (s : SK) → TS → Option (DenS s)
 | .sum a b,t => (match maskL n q a t with
  | some x => some (.inl x)
  | none => (match maskL n q b t with
   | some y => some (.inr y)
   | none => none))
 | s,t => bif alOk n (settle (look s t)) (alsS s) then maskQ n q s (look s t) else none
structure CT where
 f : FuncId
 p : PK
 R : RK
 F : DenP p → Option (DenR R)
@[reducible] def DenW : SK → Type
 | .o _ T => List (Den T)
 | .ow _ T => DenL T
 | .bx _ T => Den T
 | .bv _ T => Den T
 | .pr a b => DenW a × DenW b
 | _ => Unit
structure CM where
 f : FuncId
 s : SK
 R : RK
 F : DenS s → Option (DenR R × DenW s)
inductive CX where
 | c (ct : CT)
 | m (cm : CM)
def onlyC : List CX → List CX
 | [] => []
 | .c ct :: Γ => .c ct :: onlyC Γ
 | .m _ :: Γ => onlyC Γ
def lows (S : Bool) (Γ : List CX) : List CX :=
 match S with
 | true => Γ
 | false => onlyC Γ
def pick (hp : THP) : List CX → FuncId → List TV → Option ((ct : CT) × DenP ct.p)
 | [],_,_ => none
 | .m _ :: Γ,f,xs => pick hp Γ f xs
 | .c ct :: Γ,f,xs => bif (Nat.beq ct.f f && (Nat.ble (need ct.p) 8 && noPv ct.R)) then (match asPs hp ct.p xs with
   | some (a,[]) => some ⟨ct,a⟩
   | _ => pick hp Γ f xs) else pick hp Γ f xs
def blen : SK → Nat
 | .o _ _ => 1
 | .mo _ _ => 1
 | .lg _ _ => 1
 | .av _ _ _ => 1
 | .ow _ T => T.nsl
 | .bx _ T => T.nsl + 1
 | .bv _ _ => 1
 | .pr a b => blen a + blen b
 | _ => 0
def slen : SK → Nat
 | .bx _ T => T.nsl
 | .pr a b => slen a + slen b
 | _ => 0
def fixL : SK → Nat → List Nat
 | .o _ _,i => [i]
 | .ow _ T,i => (List.range T.nsl).map fun j => i + j
 | .bx _ T,i => [i + T.nsl]
 | .bv _ _,i => [i]
 | .pr a b,i => fixL a i ++ fixL b (i + blen a)
 | _,_ => []
def slotsS : SK → List Nat
 | .un => []
 | .d k _ => [k]
 | .o k _ => [k]
 | .mo k _ => [k]
 | .lg k _ => [k]
 | .av k _ _ => [k]
 | .bx k _ => [k]
 | .bv k _ => [k]
 | .fn k _ _ => [k]
 | .ip k _ => [k]
 | .al _ _ _ => []
 | .sum _ _ => []
 | .ow k _ => [k]
 | .pr a b => slotsS a ++ slotsS b
def blkL : (T : Ty) → DenL T → List TB
 | .sl t,y => [.arr t true y]
 | .pr a b,y => blkL a y.1 ++ blkL b y.2
 | .st t,y => blkL t y
 | .i _,_ => []
 | .bl,_ => []
 | .tx,_ => []
 | .sv _,_ => []
 | .ar _ _,_ => []
def slW : (s : SK) → Nat → DenW s → List TB
 | .bx _ T,base,y => (rsC base T y).2
 | .bv _ _,_,_ => []
 | .pr a b,base,y => slW a base y.1 ++ slW b (base + slen a) y.2
 | .un,_,_ => []
 | .d _ _,_,_ => []
 | .o _ _,_,_ => []
 | .mo _ _,_,_ => []
 | .lg _ _,_,_ => []
 | .av _ _ _,_,_ => []
 | .al _ _ _,_,_ => []
 | .sum _ _,_,_ => []
 | .fn _ _ _,_,_ => []
 | .ip _ _,_,_ => []
 | .ow _ _,_,_ => []
def fxW : (s : SK) → Nat → DenW s → List (Option TB)
 | .o _ T,_,y => [some (.arr T true y)]
 | .mo _ _,_,_ => [none]
 | .lg _ _,_,_ => [none]
 | .av _ _ _,_,_ => [none]
 | .al _ _ _,_,_ => []
 | .sum _ _,_,_ => []
 | .ow _ T,_,y => (blkL T y).map some
 | .bx _ T,base,y => List.replicate T.nsl none ++ [some (.box (rsC base T y).1)]
 | .bv _ T,_,y => [some (.box (tcls T y))]
 | .pr a b,base,y => fxW a base y.1 ++ fxW b (base + slen a) y.2
 | .un,_,_ => []
 | .d _ _,_,_ => []
 | .fn _ _ _,_,_ => []
 | .ip _ _,_,_ => []
def putM : THP → List (Option Nat) → List (Option TB) → THP
 | hp,some j :: l,b :: B => putM (hp.set j b) l B
 | hp,none :: l,_ :: B => putM hp l B
 | hp,_,_ => hp
def goneM : List (Option Nat) → List (Option TB) → List Nat
 | some j :: l,b :: B => bif b.isSome then goneM l B else j :: goneM l B
 | none :: l,_ :: B => goneM l B
 | _,_ => []
def noBv : SK → Bool
 | .bv _ _ => false
 | .pr a b => noBv a && noBv b
 | .un => true
 | .d _ _ => true
 | .o _ T => T.nov
 | .mo _ _ => true
 | .lg _ _ => false
 | .av _ _ _ => false
 | .bx _ T => T.nov
 | .fn _ _ _ => true
 | .ip _ _ => true
 | .al _ _ _ => true
 | .sum _ _ => true
 | .ow _ T => T.nov
mutual
def refsT : TV → List Nat
 | .own j => [j]
 | .sub j _ _ => [j]
 | .ptr j _ _ => [j]
 | .ag cs => refsL cs
 | .tp cs => refsL cs
 | .ipt cs => refsL cs
 | .fn _ cs => refsL cs
 | _ => []
def refsL : List TV → List Nat
 | [] => []
 | x :: xs => refsT x ++ refsL xs
end
def refsB (hp : THP) (j : Nat) : List Nat :=
 match hp[j]? with
 | some (some (.box cs)) => refsL cs
 | _ => []
def refsA (hp : THP) (xs : List TV) : List Nat := refsL xs ++ (refsL xs).flatMap (refsB hp)
def unref (hp : THP) (xs : List TV) : List Nat := (List.range hp.length).filter fun j => !memB (refsA hp xs) j
def seenA (hp : THP) (xs : List TV) (l : List (Option Nat)) : List Nat := (refsA hp xs).filter fun j => !memB (somes l) j
def TS.backV (t : TS) (c : List Nat) (l : List (Option Nat)) (B : List (Option TB)) (bs : List TB) : TS :=
 let n := t.hp.length
 let g := goneM l B ++ c
 ⟨fltU (fun i => Nat.blt i n && !memB g i) t.u,putM (setAll (fltH (fun i => Nat.blt i n && !memB g i) t.hp) c) l B ++ bs.map some⟩
def TS.back (t : TS) (l : List (Option Nat)) (B : List (Option TB)) (bs : List TB) : TS :=
 let n := t.hp.length
 let g := goneM l B
 ⟨fltU (fun i => Nat.blt i n && !memB g i) t.u,putM (fltH (fun i => Nat.blt i n && !memB g i) t.hp) l B ++ bs.map some⟩
def pickM : List CX → FuncId → Option CM
 | [],_ => none
 | .c _ :: Γ,f => pickM Γ f
 | .m cm :: Γ,f => bif Nat.beq cm.f f then some cm else pickM Γ f
def xcallM {Ω : Type} (Γ : List CX) (t : TS) (f : FuncId) (xs : List TV) (d : Option Nat) (k : TS → Option Ω) : Option Ω :=
 match pickM Γ f with
 | some cm => bif Nat.beq xs.length (slotsS cm.s).length then (bif (noBv cm.s && noPv cm.R) then (match mask xs.length cm.s ⟨numT 0 xs,t.hp⟩ with
  | some x => (cm.F x).bind fun r => k ((t.back (keep xs.length ⟨numT 0 xs,t.hp⟩ cm.s) (fxW cm.s (t.hp.length + (resR t.hp.length cm.R r.1).2.length) r.2)
    ((resR t.hp.length cm.R r.1).2 ++ slW cm.s (t.hp.length + (resR t.hp.length cm.R r.1).2.length) r.2)).put d (tupT (resR t.hp.length cm.R r.1).1))
  | none => none)
  else (match mask xs.length cm.s ((⟨numT 0 xs,t.hp⟩ : TS).kill (unref t.hp xs)) with
  | some x => (cm.F x).bind fun r => k ((t.backV (seenA t.hp xs (keep xs.length ((⟨numT 0 xs,t.hp⟩ : TS).kill (unref t.hp xs)) cm.s)) (keep xs.length ((⟨numT 0 xs,t.hp⟩ : TS).kill (unref t.hp xs)) cm.s) (fxW cm.s (t.hp.length + (resR t.hp.length cm.R r.1).2.length) r.2)
    ((resR t.hp.length cm.R r.1).2 ++ slW cm.s (t.hp.length + (resR t.hp.length cm.R r.1).2.length) r.2)).put d (tupT (resR t.hp.length cm.R r.1).1))
  | none => none))
  else none
 | none => none
def xcall {Ω : Type} (Γ : List CX) (t : TS) (f : FuncId) (xs : List TV) (d : Option Nat) (k : TS → Option Ω) : Option Ω :=
 match pick t.hp Γ f xs with
 | some ⟨ct,a⟩ => (ct.F a).bind fun r => k ((t.new (resR t.hp.length ct.R r).2).put d (tupT (resR t.hp.length ct.R r).1))
 | none => xcallM Γ t f xs d k
noncomputable def xact {Ω : Type} (Γ : List CX) (Θ : TyO) (n : Nat) (t : TS) (o : NOp) (k : TS → Option Ω) : Option Ω :=
 match o.n with
 | .call f args => xcall Γ t f (args.map (t.ev n)) o.d k
 | .callv x args => match t.ev n x with
  | .fn f cap => xcall Γ t f (args.map (t.ev n) ++ cap) o.d k
  | _ => none
 | no => bif no.reads then chk (rd n t no).1 (k (t.put o.d (rd n t no).2)) else xeff n Θ t o.d k no
noncomputable def xst {Ω : Type} (Γ : List CX) (Θ : TyO) (n : Nat) (t : TS) (o : NOp) (k : TS → Option Ω) : Option Ω :=
 match o.g with
 | none => xact Γ Θ n t o k
 | some (g,want) => match t.get n g with
  | .v .bl b => match want with
   | true => cond b (xact Γ Θ n (t.put (some g) (.v .bl true)) o k) (k ((t.put (some g) (.v .bl false)).put o.d (.c undef)))
   | false => cond b (k ((t.put (some g) (.v .bl true)).put o.d (.c undef))) (xact Γ Θ n (t.put (some g) (.v .bl false)) o k)
  | .c (.tuple ⟨[]⟩) => k (t.put o.d (.c undef))
  | _ => none
noncomputable def xreg {Ω : Type} (Γ : List CX) (Θ : TyO) (n : Nat) : RT → (TS → Option Ω) → TS → Option Ω
 | .done,k,t => k t
 | .op o r,k,t => xst Γ Θ n (prep Θ n t o.n) o (xreg Γ Θ n r k)
 | .both a b,k,t => agree (xreg Γ Θ n a k t) (xreg Γ Θ n b k t)
def callsM (Γ : List CX) : RT → Bool
 | .done => false
 | .op o k => (match o.n with
  | .call f _ => (match pickM Γ f with
   | some _ => true
   | none => false)
  | _ => false) || callsM Γ k
 | .both a b => callsM Γ a || callsM Γ b
structure LC (R : Type) where
 id : Nat
 q : Nat
 s : SK
 x : SK
 run : {Ω : Type} → (DenS x → Option Ω) → (R → Option Ω) → DenS s → Option Ω
def lcAt {R : Type} : List (LC R) → Nat → Option (LC R)
 | [],_ => none
 | l :: Λ,id => bif Nat.beq l.id id then some l else lcAt Λ id
noncomputable def xrun {R Ω : Type} (Γ : List CX) (Θ : TyO) (Λ : List (LC R)) (n : Nat) (res : TS → Option R) : NC → (TS → Option Ω) → (Nat → TS → Option Ω) → (R → Option Ω) → TS → Option Ω
 | .skip,kn,_,_,t => kn t
 | .reg S r,kn,_,_,t => xreg (lows S Γ) Θ n r kn t
 | .regs r s,kn,_,_,t => bif callsM Γ r then xreg (lows true Γ) Θ n s kn t else xreg (lows false Γ) Θ n r kn t
 | .seq a b,kn,ke,kr,t => xrun Γ Θ Λ n res a (fun t => xrun Γ Θ Λ n res b kn ke kr t) ke kr t
 | .cond c a b,kn,ke,kr,t => match t.ev n c with
  | .v .bl p => cond p (xrun Γ Θ Λ n res a kn ke kr t) (xrun Γ Θ Λ n res b kn ke kr t)
  | _ => none
 | .block id b,kn,ke,kr,t => match b with
  | .loop _ => match lcAt Λ id with
   | some l => (maskL n l.q l.s t).bind fun s => l.run (splitL kn l.x) kr s
   | none => none
  | b => xrun Γ Θ Λ n res b kn (fun i t => bif Nat.beq i id then kn t else ke i t) kr t
 | .loop _,_,_,_,_ => none
 | .exit id,_,ke,_,t => ke id t
 | .ret,_,_,kr,t => match res (settle t) with
  | some ρ => kr ρ
  | none => (res t).bind kr
def iter {S Ω : Type} (B : (S → Option Ω) → S → Option Ω) : Nat → S → Option Ω
 | 0,_ => none
 | N + 1,s => B (iter B N) s
def resNR (n : Nat) (t : TS) : NR → RV
 | .t x => (none,t.get n x)
 | .c a m ag => rd n t (.ld m ag (.tmp a))
def resOne' (hp : THP) (T : Ty) (x : TV) : Option (Den T × List (Option Nat)) :=
 bif T.flat then (asDen T x).map fun x => (x,[]) else match srcC hp T x.cs with
  | some (y,l,[]) => bif (T.ag == x.isA) then some (y,l) else none
  | _ => none
def resDec (n : Nat) (t : TS) : (R : RK) → List NR → Option (DenR R × List (Option Nat) × List NR)
 | .un,rs => some ((),[],rs)
 | .t T,r :: rs => chk (resNR n t r).1 (match resOne' t.hp T (resNR n t r).2 with
  | some (x,l) => some (x,l,rs)
  | none => none)
 | .pv T,r :: rs => chk (resNR n t r).1 (match (resNR n t r).2 with
  | .ptr j row off => bif (Nat.beq row 0 && Nat.beq off 0) then (match t.hp[j]? with
   | some (some (.box cs)) => (match asCls T cs with
    | some (x,[]) => some (x,[some j],rs)
    | _ => none)
   | _ => none) else none
  | _ => none)
 | .pr a b,rs => match resDec n t a rs with
  | some (x,l,rs) => match resDec n t b rs with
   | some (y,m,rs) => some ((x,y),l ++ m,rs)
   | none => none
  | none => none
 | _,[] => none
def ownzR (n : Nat) : TS → List NR → TS
 | t,[] => t
 | t,r :: rs => (match r with
  | .t k => ownzR n (ownz [(k,.bl)] n t (.tmp k)) rs
  | .c _ _ _ => ownzR n t rs)
def resOf0 (n : Nat) (R : RK) (rs : List NR) (t : TS) : Option (DenR R) :=
 match resDec n t R rs with
 | some (x,l,[]) => bif nodupB (somes l) then some x else none
 | _ => none
def svsR : RK → List Bool
 | .un => []
 | .t T => [isSv T]
 | .pv _ => [false]
 | .pr a b => svsR a ++ svsR b
def seeR (n : Nat) : TS → List Bool → List NR → TS
 | t,true :: bs,.t k :: rs => seeR n (see n t k) bs rs
 | t,_ :: bs,_ :: rs => seeR n t bs rs
 | t,_,_ => t
def resOf (n : Nat) (R : RK) (rs : List NR) (t : TS) : Option (DenR R) := resOf0 n R rs (seeR n (ownzR n t rs) (svsR R) rs)
def argT : (p : PK) → DenP p → List TV := capT
noncomputable def xfn (Γ : List CX) (Θ : TyO) (nf : NF) (p : PK) (R : RK) (Λ : List (LC (DenR R))) (a : DenP p) : Option (DenR R) :=
 xrun Γ Θ Λ nf.n (resOf nf.n R nf.res) nf.body (resOf nf.n R nf.res) (fun _ _ => none) some ⟨numT 0 (argT p a),[]⟩
def outL (hp : THP) : Nat → (T : Ty) → Option (DenL T)
 | i,.sl t => match hp[i]? with
  | some (some (.arr A o L)) => bif (o || A.flat) then cst (A := .sl A) (.sl t) L else none
  | _ => none
 | i,.pr a b => match outL hp i a,outL hp (i + a.nsl) b with
  | some x,some y => some (x,y)
  | _,_ => none
 | i,.st t => outL hp i t
 | _,.i _ => some ()
 | _,.bl => some ()
 | _,.tx => some ()
 | _,.sv _ => some ()
 | _,.ar _ _ => some ()
def lenL : (T : Ty) → Den T → DenL T → Bool
 | .sl _,x,y => Nat.beq x.length y.length
 | .pr a b,x,y => lenL a x.1 y.1 && lenL b x.2 y.2
 | .st t,x,y => lenL t x y
 | .i _,_,_ => true
 | .bl,_,_ => true
 | .tx,_,_ => true
 | .sv _,_,_ => true
 | .ar _ _,_,_ => true
def outW (hp : THP) : Nat → (s : SK) → Option (DenW s × List (Option Nat))
 | i,.o _ T => match hp[i]? with
  | some (some (.arr A o L)) => bif (o || A.flat) then (match cst (A := .sl A) (.sl T) L with | some x => some (x,[]) | none => none) else none
  | _ => none
 | i,.ow _ T => match outL hp i T with
  | some x => some (x,[])
  | none => none
 | i,.pr a b => match outW hp i a,outW hp (i + blen a) b with
  | some (x,l),some (y,m) => some ((x,y),l ++ m)
  | _,_ => none
 | _,.un => some ((),[])
 | _,.d _ _ => some ((),[])
 | _,.mo _ _ => some ((),[])
 | _,.lg _ _ => some ((),[])
 | _,.av _ _ _ => some ((),[])
 | _,.al _ _ _ => some ((),[])
 | _,.sum _ _ => some ((),[])
 | i,.bx _ T => match hp[i + T.nsl]? with
  | some (some (.box cs)) => match srcC hp T cs with
   | some (x,l,[]) => some (x,l)
   | _ => none
  | _ => none
 | i,.bv _ T => match hp[i]? with
  | some (some (.box cs)) => match asCls T cs with
   | some (x,[]) => some (x,[])
   | _ => none
  | _ => none
 | _,.fn _ _ _ => some ((),[])
 | _,.ip _ _ => some ((),[])
def lenW : (s : SK) → DenS s → DenW s → Bool
 | .o _ _,x,y => Nat.beq x.length y.length
 | .ow _ T,x,y => lenL T x y
 | .pr a b,x,y => lenW a x.1 y.1 && lenW b x.2 y.2
 | _,_,_ => true
def resOfM0 (n : Nat) (R : RK) (rs : List NR) (s : SK) (t : TS) : Option (DenR R × DenW s) :=
 match resDec n t R rs with
 | some (ρ,l,[]) => match outW t.hp 0 s with
   | some (y,m) => bif nodupB (somes (l ++ m) ++ fixL s 0) then some (ρ,y) else none
   | none => none
 | _ => none
def resOfM (n : Nat) (R : RK) (rs : List NR) (s : SK) (t : TS) : Option (DenR R × DenW s) := resOfM0 n R rs s (seeR n (ownzR n t rs) (svsR R) rs)
noncomputable def xfnM (Γ : List CX) (Θ : TyO) (nf : NF) (s : SK) (R : RK) (Λ : List (LC (DenR R × DenW s))) (x : DenS s) : Option (DenR R × DenW s) :=
 (xrun Γ Θ Λ nf.n (resOfM nf.n R nf.res s) nf.body (resOfM nf.n R nf.res s) (fun _ _ => none) some (mkS s x)).bind fun r => bif lenW s x r.2 then some r else none
def nfOf (P : Program) (f : FuncId) : NF := (nFn P f).getD ⟨.skip,[],0⟩
end Go.Proofs.Ytkmhopbmpeiofaa.Nx
namespace Go.Proofs.Ytkmhopbmpeiofaa.Nx
open Go Go.RowKit
def Hc (c : Option Bool) : Prop := c = none ∨ c = some true
theorem chk_some {Ω : Type} {c : Option Bool} {k : Option Ω} {r : Ω} (h : chk c k = some r) : Hc c ∧ k = some r := by
 cases c with
 | none => exact ⟨.inl rfl,h⟩
 | some b => cases b with
  | true => exact ⟨.inr rfl,h⟩
  | false => cases h
theorem Hc.and2 {a b : Option Bool} (h : Hc (and2 a b)) : Hc a ∧ Hc b := by
 unfold Nx.and2 at h
 split at h
 ·exact ⟨.inl rfl,h⟩
 ·exact ⟨h,.inl rfl⟩
 ·rename_i x y
  rcases h with h | h
  ·cases h
  ·have h' : (x && y) = true := by simpa using h
   simp only [Bool.and_eq_true] at h'
   exact ⟨.inr (by rw [h'.1]),.inr (by rw [h'.2])⟩
theorem Hc.ok {b : Bool} (h : Hc (ok_ b)) : b = true := by
 cases b with
 | true => rfl
 | false => rcases h with h | h <;> cases h
theorem Hc.sm {b : Bool} (h : Hc (some b)) : b = true := by
 rcases h with h | h
 ·cases h
 ·simpa using h
theorem Hc.bad (h : Hc (some false)) : False := by rcases h with h | h <;> cases h
theorem av_any (hp : THP) : av hp .any = .any := rfl
theorem lk_map {n : Nat} {f : TV → AV} (hf : f .any = .any) (k : Nat) : ∀ u : List (Nat × TV),lk n k (u.map fun p => (p.1,f p.2)) = bif Nat.blt k n then f (fnd u k) else .any
 | [] => by simp [lk,fnd,hf]
 | p :: u => by
  simp only [List.map_cons,lk,fnd]
  by_cases e : p.1 = k
  ·subst e
   simp only [if_true,Nat.beq_refl,cond_true]
   by_cases h : p.1 < n
   ·have : Nat.blt p.1 n = true := by simp [Nat.blt_eq,h]
    simp [this,h]
   ·have : Nat.blt p.1 n = false := by
     rw [← Bool.not_eq_true,Nat.blt_eq]; exact h
    simp [this,h]
  ·have : Nat.beq p.1 k = false := by
    rw [← Bool.not_eq_true,Nat.beq_eq]; exact e
   rw [if_neg e,this,cond_false]
   exact lk_map hf k u
theorem toAS_get (n : Nat) (t : TS) (k : Nat) : (toAS n t).sl.getD k .any = av t.hp (t.get n k) := by
 have h := E_get (n := n) k (t.u.map fun p => (p.1,av t.hp p.2))
 rw [lk_map (av_any t.hp)] at h
 unfold toAS E TS.get
 rw [h]
 cases Nat.blt k n <;> rfl
theorem toAS_len (n : Nat) (t : TS) : (toAS n t).sl.length = n := E_len _
theorem toAS_put (n : Nat) (t : TS) (d : Option Nat) (x : TV) : toAS n (t.put d x) = (toAS n t).put d (av t.hp x) := by
 cases d <;> rfl
theorem av_leaf (hp : THP) (v : Value) : av hp (leaf v) = .val v := by
 unfold leaf
 split <;> rfl
theorem av_tvOf (hp : THP) (v : Value) : av hp (tvOf v) = cAV v := by
 unfold tvOf
 split
 ·rename_i cs
  simp only [av,avL_map,cAV,List.map_map]
  congr 1
  refine List.map_congr_left fun x _ => ?_
  simp only [Function.comp,av_leaf]
 ·rename_i h
  rw [av_leaf]
  unfold cAV
  split
  ·rename_i cs; exact absurd rfl (h cs)
  ·rfl
theorem toAS_ev (n : Nat) (t : TS) (x : Operand) : (toAS n t).ev x = av t.hp (t.ev n x) := by
 cases x with
 | tmp k => exact toAS_get n t k
 | const v => exact (av_tvOf t.hp v).symm
 | func f => rfl
 | global g => rfl
theorem toHP_get (hp : THP) (j : Nat) : (toHP hp)[j]? = (hp[j]?).map (Option.map (tb hp)) := by
 unfold toHP; simp
theorem toHP_len (hp : THP) : (toHP hp).length = hp.length := by simp [toHP]
theorem at_arr {hp : THP} {j : Nat} {T : Ty} {o : Bool} {L : List (Den T)} (h : hp[j]? = some (some (.arr T o L))) : (toHP hp).at j L.length = some ⟨T.sz,0,L.map (enc o T),0⟩ := by
 unfold HP.at
 rw [toHP_get,h]
 simp [tb]
theorem at_box {hp : THP} {j : Nat} {cs : List TV} (h : hp[j]? = some (some (.box cs))) : (toHP hp).at j 1 = some ⟨cs.length,0,[.agg (cs.map (cav hp))],0⟩ := by
 unfold HP.at
 rw [toHP_get,h]
 simp [tb]
theorem at_rws {hp : THP} {j : Nat} {T : Ty} {R : List (List TV)} (h : hp[j]? = some (some (.rws T R))) : (toHP hp).at j R.length = some ⟨T.sz,0,R.map fun cs => mkr T.ag (cs.map (cav hp)),0⟩ := by
 unfold HP.at
 rw [toHP_get,h]
 simp [tb]
theorem hpk_arr {hp : THP} {j : Nat} {T : Ty} {o : Bool} {L : List (Den T)} (h : hp[j]? = some (some (.arr T o L))) : hpk hp j = some (some L.length) := by simp [hpk,h,TB.rlen]
theorem hpk_rws {hp : THP} {j : Nat} {T : Ty} {R : List (List TV)} (h : hp[j]? = some (some (.rws T R))) : hpk hp j = some (some R.length) := by simp [hpk,h,TB.rlen]
theorem hpk_hol {hp : THP} {j : Nat} {T : Ty} {L : List (Den T)} {row off : Nat} {c : TV} (h : hp[j]? = some (some (.hol T L row off c))) : hpk hp j = some (some L.length) := by simp [hpk,h,TB.rlen]
theorem at_hol {hp : THP} {j : Nat} {T : Ty} {L : List (Den T)} {row off : Nat} {c : TV} (h : hp[j]? = some (some (.hol T L row off c))) : (toHP hp).at j L.length = some (tb hp (.hol T L row off c)) := by
 unfold HP.at
 rw [toHP_get,h]
 simp [tb]
theorem hpk_tld {hp : THP} {j : Nat} {T : Ty} {L : List (Den T)} {row : Nat} {cs : List TV} (h : hp[j]? = some (some (.tld T L row cs))) : hpk hp j = some (some L.length) := by simp [hpk,h,TB.rlen]
theorem at_tld {hp : THP} {j : Nat} {T : Ty} {L : List (Den T)} {row : Nat} {cs : List TV} (h : hp[j]? = some (some (.tld T L row cs))) : (toHP hp).at j L.length = some (tb hp (.tld T L row cs)) := by
 unfold HP.at
 rw [toHP_get,h]
 simp [tb]
theorem hpk_log {hp : THP} {j : Nat} {T : Ty} {L : List (Den T)} (h : hp[j]? = some (some (.log T L))) : hpk hp j = some (some L.length) := by simp [hpk,h,TB.rlen]
theorem at_log {hp : THP} {j : Nat} {T : Ty} {L : List (Den T)} (h : hp[j]? = some (some (.log T L))) : (toHP hp).at j L.length = some ⟨T.sz,L.length,L.map (enc false T),L.length⟩ := by
 unfold HP.at
 rw [toHP_get,h]
 simp [tb]
theorem hpk_ara {hp : THP} {j : Nat} {n : Nat} {k : IntKind} {L : List Int} (h : hp[j]? = some (some (.ara n k L))) : hpk hp j = some none := by simp [hpk,h,TB.rlen]
theorem at_ara {hp : THP} {j : Nat} {n : Nat} {k : IntKind} {L : List Int} (h : hp[j]? = some (some (.ara n k L))) : (toHP hp).at j 1 = some ⟨n,0,[.agg (arC n k L)],0⟩ := by
 unfold HP.at
 rw [toHP_get,h]
 simp [tb]
theorem hpk_box {hp : THP} {j : Nat} {cs : List TV} (h : hp[j]? = some (some (.box cs))) : hpk hp j = some none := by simp [hpk,h,TB.rlen]
theorem toAS_hp (n : Nat) (t : TS) : (toAS n t).hp = toHP t.hp := rfl
theorem cls_len (o : Bool) : ∀ (T : Ty) (x : Den T),(cls o T x).length = T.sz
 | .i _,_ => rfl
 | .bl,_ => rfl
 | .tx,_ => rfl
 | .sv _,_ => rfl
 | .sl _,_ => rfl
 | .ar n k,x => by simp [cls,arC,Ty.sz]
 | .pr a b,x => by simp [cls,Ty.sz,cls_len o a,cls_len o b]
 | .st t,x => by simp [cls,Ty.sz,cls_len o t]
theorem tcls_len : ∀ (T : Ty) (x : Den T),(tcls T x).length = T.sz
 | .i _,_ => rfl
 | .bl,_ => rfl
 | .tx,_ => rfl
 | .sv _,_ => rfl
 | .sl _,_ => rfl
 | .ar n k,x => by simp [tcls,Ty.sz]
 | .pr a b,x => by simp [tcls,Ty.sz,tcls_len a,tcls_len b]
 | .st t,x => by simp [tcls,Ty.sz,tcls_len t]
theorem av_tcls (hp : THP) : ∀ (T : Ty) (x : Den T),(tcls T x).map (av hp) = cls false T x
 | .i _,_ => rfl
 | .bl,_ => rfl
 | .tx,_ => rfl
 | .sv _,_ => rfl
 | .sl _,_ => rfl
 | .ar n k,x => by
  simp only [tcls,cls,arC,List.map_map]
  rfl
 | .pr a b,x => by simp [tcls,cls,av_tcls hp a,av_tcls hp b]
 | .st t,x => by simp [tcls,cls,av_tcls hp t]
theorem cls_cell1 (o : Bool) : ∀ (T : Ty) (x : Den T),∀ c ∈ cls o T x,c.cell1 = true ∧ c.cells = [c]
 | .i _,_ => by simp [cls,AV.cell1,AV.cells]
 | .bl,_ => by simp [cls,AV.cell1,AV.cells]
 | .tx,_ => by simp [cls,AV.cell1,AV.cells]
 | .sv _,_ => by simp [cls,AV.cell1,AV.cells]
 | .sl _,_ => by simp [cls,AV.cell1,AV.cells]
 | .ar n k,x => by
  intro c hc
  obtain ⟨i,_,rfl⟩ := List.mem_map.1 hc
  exact ⟨rfl,rfl⟩
 | .pr a b,x => by
  intro c hc
  rcases List.mem_append.1 hc with h | h
  ·exact cls_cell1 o a _ c h
  ·exact cls_cell1 o b _ c h
 | .st t,x => cls_cell1 o t x
theorem cls_bare (T : Ty) (x : Den T) : ∀ c ∈ cls false T x,c.bare1 = true := by
 induction T with
 | i | bl | tx | sl | sv => simp [cls,AV.bare1]
 | ar n k =>
  intro c hc
  obtain ⟨i,_,rfl⟩ := List.mem_map.1 hc
  rfl
 | pr a b iha ihb =>
  intro c hc
  rcases List.mem_append.1 hc with h | h
  ·exact iha _ c h
  ·exact ihb _ c h
 | st t ih => exact ih x
theorem cls_flat {T : Ty} (h : T.flat = true) (x : Den T) : cls true T x = cls false T x := by
 induction T with
 | i | bl | tx | sv | ar => rfl
 | sl => cases h
 | pr a b iha ihb =>
  simp only [Ty.flat,Bool.and_eq_true] at h
  simp only [cls,iha h.1,ihb h.2]
 | st t ih => exact ih h x
theorem cls_o {T : Ty} {o : Bool} (h : (!o || T.flat) = true) (x : Den T) : cls o T x = cls false T x := by
 cases o with
 | false => rfl
 | true => exact cls_flat (by simpa using h) x
theorem enc_cells (o : Bool) (T : Ty) (x : Den T) : (enc o T x).cells = cls o T x := by
 cases T <;> rfl
theorem un_sz : ∀ T : Ty,T.un.sz = T.sz
 | .sl _ | .sv _ | .i _ | .bl | .tx | .ar _ _ => rfl
 | .pr a b => by simp only [Ty.un,Ty.sz,un_sz a,un_sz b]
 | .st t => un_sz t
theorem un_ag (T : Ty) : T.un.ag = T.ag := by cases T <;> rfl
theorem map_heq {α β γ : Type} (h : α = β) {f : α → γ} {g : β → γ} (hf : ∀ a b,HEq a b → f a = g b) {z : List α} {x : List β} (hz : HEq z x) : z.map f = x.map g := by
 subst h
 have := eq_of_heq hz
 subst this
 exact List.map_congr_left fun a _ => hf a a HEq.rfl
theorem pair_heq {α α' β β' : Type} (h1 : α = α') (h2 : β = β') {z : α × β} {x : α' × β'} (hz : HEq z x) : HEq z.1 x.1 ∧ HEq z.2 x.2 := by
 subst h1 h2
 have := eq_of_heq hz
 subst this
 exact ⟨HEq.rfl,HEq.rfl⟩
theorem cls_un : ∀ (A : Ty) (z : Den A.un) (x : Den A),HEq z x → cls false A.un z = cls false A x
 | .i _,z,x,h => by have := eq_of_heq h; subst this; rfl
 | .bl,z,x,h => by have := eq_of_heq h; subst this; rfl
 | .tx,z,x,h => by have := eq_of_heq h; subst this; rfl
 | .ar n k,z,x,h => by have := eq_of_heq h; subst this; rfl
 | .st t,z,x,h => cls_un t z x h
 | .pr a b,z,x,h => by
  obtain ⟨h1,h2⟩ := pair_heq (den_un a) (den_un b) h
  show cls false a.un z.1 ++ cls false b.un z.2 = _
  rw [cls_un a _ _ h1,cls_un b _ _ h2]; rfl
 | .sl t,z,x,h => by
  have := map_heq (den_un t) (f := fun y => mkr t.un.ag (cls false t.un y)) (g := fun y => mkr t.ag (cls false t y)) (fun a b e => by simp only [un_ag,cls_un t a b e]) h
  show [AV.sl false t.un.sz (List.map (fun y => mkr t.un.ag (cls false t.un y)) z)] = _
  rw [this,un_sz]; rfl
 | .sv t,z,x,h => by
  have := map_heq (den_un t) (f := fun y => mkr t.un.ag (cls false t.un y)) (g := fun y => mkr t.ag (cls false t y)) (fun a b e => by simp only [un_ag,cls_un t a b e]) h
  show [AV.sl false t.un.sz (List.map (fun y => mkr t.un.ag (cls false t.un y)) z)] = _
  rw [this,un_sz]; rfl
theorem cls_heq {A B : Ty} (h : A = B) {a : Den A} {b : Den B} (e : HEq a b) : cls false A a = cls false B b := by
 subst h
 have := eq_of_heq e
 subst this; rfl
theorem castU_cls {A T : Ty} {x : Den A} {y : Den T} (h : castU T x = some y) : cls false A x = cls false T y ∧ A.un = T.un := by
 unfold castU at h
 split at h
 ·rename_i e
  simp only [Option.some.injEq] at h
  have hy : HEq y x := by rw [← h]; exact cast_heq _ _
  let zA : Den A.un := cast (den_un A).symm x
  let zT : Den T.un := cast (den_un T).symm y
  have hA : HEq zA x := cast_heq _ _
  have hT : HEq zT y := cast_heq _ _
  have e1 := cls_un A zA x hA
  have e2 := cls_un T zT y hT
  have e3 := cls_heq e (hA.trans (hy.symm.trans hT.symm))
  exact ⟨by rw [← e1,← e2,e3],e⟩
 ·cases h
theorem cstU_cls {A T : Ty} {x : Den A} {y : Den T} (h : cstU T x = some y) : cls false A x = cls false T y ∧ A.un = T.un := by
 unfold cstU at h
 split at h
 ·rename_i z hz
  cases h
  unfold cst at hz
  split at hz
  ·rename_i e
   subst e
   cases hz
   exact ⟨rfl,rfl⟩
  ·cases hz
 ·exact castU_cls h
theorem cstU_enc {A T : Ty} {x : Den A} {y : Den T} (h : cstU T x = some y) : enc false A x = enc false T y := by
 obtain ⟨e,hu⟩ := cstU_cls h
 unfold enc
 rw [e,← un_ag A,hu,un_ag T]
end Go.Proofs.Ytkmhopbmpeiofaa.Nx
namespace Go.Proofs.Ytkmhopbmpeiofaa.Nx
open Go Go.RowKit
theorem cst_some {A B : Ty} {x : Den A} {y : Den B} (h : cst B x = some y) : A = B ∧ HEq x y := by
 unfold cst at h
 split at h
 ·rename_i e
  subst e
  cases h
  exact ⟨rfl,HEq.rfl⟩
 ·cases h
theorem cst_self (A : Ty) (x : Den A) : cst A x = some x := by simp [cst]
theorem av_cond (hp : THP) (p : Bool) (x y : TV) : av hp (cond p x y) = bif p then av hp x else av hp y := by cases p <;> rfl
section
variable {C : Ctx} {n : Nat} {t : TS} {a : Act} {w : World} {N : NT} {M : MT} {L : List (Nat × Nat)}
def RdOk (n : Nat) (t : TS) (no : NO) : Prop := Hc (rd n t no).1 → apc (toAS n t) no ∧ apv (toAS n t) no = av t.hp (rd n t no).2
theorem rd_mv (x : Operand) : RdOk n t (.mv x) := fun _ => ⟨trivial,toAS_ev n t x⟩
theorem pickT_spec {hp : THP} {p : Bool} {x y : TV} (h : Hc (pickT p x y).1) : av hp (pickT p x y).2 = bif p then av hp x else av hp y := by
 unfold pickT at h ⊢
 split at h
 ·rename_i A x' B y'
  split at h
  ·rename_i z hz
   obtain ⟨rfl,hz⟩ := cst_some hz
   cases hz
   simp only [cst_self]
   cases p <;> rfl
  ·exact h.bad.elim
 ·exact av_cond hp p _ _
theorem rd_pick (c x y : Operand) : RdOk n t (.pick c x y) := by
 intro h
 simp only [rd] at h ⊢
 simp only [apc,apv,toAS_ev]
 generalize t.ev n c = tc at *
 generalize t.ev n x = tx at *
 generalize t.ev n y = ty at *
 split at h
 ·rename_i p
  refine ⟨trivial,?_⟩
  rw [pickT_spec h]
  cases p <;> rfl
 ·exact h.bad.elim
theorem rd_bin (b : BinOp) (x y : Operand) : RdOk n t (.bin b x y) := by
 intro h
 simp only [rd] at h ⊢
 simp only [apc,apv,toAS_ev]
 generalize t.ev n x = tx at *
 generalize t.ev n y = ty at *
 split at h
 ·rename_i k m k' m'
  obtain ⟨h1,h2⟩ := h.and2
  have h1 := h1.ok
  show binC b (.val (.int k m)) (.val (.int k' m')) ∧ binV b (.val (.int k m)) (.val (.int k' m')) = av t.hp (binI b k m m')
  cases b <;> simp only [binC,binV,binI,wrV_eq,shiftB,andI,orI,xorI,andnI,shlI,shrI,pin_eq,Bool.false_or,Bool.true_or,decide_eq_true_eq] at h1 ⊢ <;> simp only [binIC] at h2 <;>
   first
   | exact ⟨h1,rfl⟩
   | exact ⟨⟨h1,by simpa using h2.sm⟩,rfl⟩
   | exact ⟨by simpa using h2.sm,rfl⟩
 ·rename_i s s'
  show binC b (.val (.string s)) (.val (.string s')) ∧ binV b (.val (.string s)) (.val (.string s')) = av t.hp (binS b s s')
  cases b <;> simp only [binC,binV,binS,binSC] at h ⊢ <;>
   first
   | exact ⟨trivial,rfl⟩
   | exact ⟨by simpa using h.sm,rfl⟩
   | exact h.bad.elim
 ·exact h.bad.elim
theorem rd_eqb (neg : Bool) (x y : Operand) : RdOk n t (.eqb neg x y) := by
 intro h
 simp only [rd] at h ⊢
 simp only [apc,apv,toAS_ev]
 generalize t.ev n x = tx at *
 generalize t.ev n y = ty at *
 split at h
 ·refine ⟨trivial,?_⟩
  cases neg <;> rename_i a b <;> cases a <;> cases b <;> rfl
 ·exact h.bad.elim
theorem andO_get (a : Bool) (o : Option Bool) : (andO a o).getD true = (a && o.getD true) := by cases o <;> simp [andO]
theorem eqL_spec (hp : THP) : ∀ {ks : List CK} {xs ys : List TV} {e : Option Bool},eqL ks xs ys = some e → eqC ks (xs.map (av hp)) ∧ eqC ks (ys.map (av hp)) ∧ eqV (xs.map (av hp)) (ys.map (av hp)) = e.getD true := by
 intro ks
 induction ks with
 | nil =>
  intro xs ys e h
  cases xs <;> cases ys <;> simp only [eqL] at h <;> first | (cases h; done) | skip
  cases h
  exact ⟨trivial,trivial,rfl⟩
 | cons c ks ih =>
  intro xs ys e h
  unfold eqL at h
  split at h
  ·rename_i e1; cases e1
  ·rename_i k ks' k1 a xs k2 b ys e1
   cases e1
   by_cases hd : k = k1 ∧ k = k2
   ·obtain ⟨rfl,rfl⟩ := hd
    simp only [decide_true,Bool.and_self,cond_true] at h
    obtain ⟨e',h1,rfl⟩ := Option.map_eq_some_iff.1 h
    obtain ⟨k1,k2,k3⟩ := ih h1
    exact ⟨⟨rfl,k1⟩,⟨rfl,k2⟩,by rw [andO_get,← k3]; rfl⟩
   ·have : (decide (k = k1) && decide (k = k2)) = false := by simpa using hd
    rw [this] at h
    cases h
  ·rename_i e1
   cases e1
   obtain ⟨e',h1,rfl⟩ := Option.map_eq_some_iff.1 h
   obtain ⟨k1,k2,k3⟩ := ih h1
   exact ⟨k1,k2,by rw [andO_get,← k3]; rfl⟩
  ·rename_i e1
   cases e1
   obtain ⟨e',h1,rfl⟩ := Option.map_eq_some_iff.1 h
   obtain ⟨k1,k2,k3⟩ := ih h1
   exact ⟨k1,k2,by rw [andO_get,← k3]; rfl⟩
  ·cases h
theorem cs_av (hp : THP) (x : TV) : x.cs.map (av hp) = (av hp x).cells ∨ x.c1 hp = false := by
 cases x with
 | v T x => cases T with
  | st t => exact .inl (av_tcls hp t x)
  | ar n k => exact .inl (av_tcls hp (.ar n k) x)
  | pr a b => exact .inr rfl
  | _ => exact .inl rfl
 | ag cs => exact .inl (avL_map hp cs).symm
 | c v => cases v <;> first | exact .inl rfl | exact .inr rfl
 | own j =>
  simp only [TV.cs,List.map_cons,List.map_nil,av]
  split <;> exact .inl rfl
 | sub j o l =>
  simp only [TV.cs,List.map_cons,List.map_nil,av]
  split <;> exact .inl rfl
 | ptr j o l =>
  simp only [TV.cs,List.map_cons,List.map_nil,av]
  split <;> exact .inl rfl
 | tp vs => exact .inr rfl
 | any => exact .inl rfl
 | _ => exact .inl rfl
theorem agg_of_eqC {hp : THP} {ks : List CK} {x : TV} (h : eqC ks (x.cs.map (av hp))) (ha : x.isA = true) : av hp x = .agg (x.cs.map (av hp)) := by
 cases x with
 | v T x => cases T with
  | st t => simp only [TV.cs,av_tcls]; rfl
  | ar n k => simp only [TV.cs,av_tcls]; rfl
  | _ => cases ha
 | ag cs => simp only [TV.cs,av,avL_map]
 | _ => cases ha
theorem rd_eqs (ks : List CK) (neg : Bool) (x y : Operand) : RdOk n t (.eqs ks neg x y) := by
 intro h
 simp only [rd] at h ⊢
 simp only [apc,apv,toAS_ev]
 generalize t.ev n x = tx at *
 generalize t.ev n y = ty at *
 split at h
 ·rename_i e he
  have h := h.ok
  simp only [Bool.and_eq_true] at h
  obtain ⟨h1,h2,h3⟩ := eqL_spec t.hp he
  rw [agg_of_eqC h1 h.1,agg_of_eqC h2 h.2]
  refine ⟨⟨h1,h2⟩,?_⟩
  simp only [h3]
  generalize e.getD true = b
  cases neg <;> cases b <;> rfl
 ·exact h.bad.elim
theorem rd_un (u : UnOp) (x : Operand) : RdOk n t (.un u x) := by
 intro h
 simp only [rd] at h ⊢
 simp only [apc,apv,toAS_ev]
 generalize t.ev n x = tx at *
 split at h <;> first | exact ⟨trivial,rfl⟩ | exact ⟨trivial,by simp only [wrV_eq]; rfl⟩ | exact h.bad.elim
theorem rd_cvi (k : IntKind) (x : Operand) : RdOk n t (.cvi k x) := by
 intro h
 simp only [rd] at h ⊢
 simp only [apc,apv,toAS_ev]
 generalize t.ev n x = tx at *
 split at h <;> first | exact ⟨trivial,rfl⟩ | exact ⟨trivial,by simp only [wrV_eq]; rfl⟩ | exact h.bad.elim
theorem rd_idx (x i : Operand) : RdOk n t (.idx x i) := by
 intro h
 simp only [rd] at h ⊢
 simp only [apc,apv,toAS_ev]
 generalize t.ev n x = tx at *
 generalize t.ev n i = ti at *
 split at h
 ·have h := h.sm
  simp only [Bool.and_eq_true,decide_eq_true_eq] at h
  rw [bu_eq]
  exact ⟨h,rfl⟩
 ·exact h.bad.elim
theorem arC_getD {n : Nat} {k : IntKind} {L : List Int} {i : Nat} (h : i < n) : (arC n k L).getD i .any = .val (.int k (L.getD i 0)) := by
 unfold arC
 rw [List.getD_eq_getElem?_getD,List.getElem?_map,List.getElem?_range h]; rfl
theorem arC_len (n : Nat) (k : IntKind) (L : List Int) : (arC n k L).length = n := by simp [arC]
theorem toNat_lt' {m : Int} {len n : Nat} (h : 0 ≤ m ∧ m < (len : Int)) (h3 : len ≤ n) : m.toNat < n := by omega
theorem rd_ixa (sz len : Nat) (ag : Bool) (x i : Operand) : RdOk n t (.ixa sz len ag x i) := by
 intro h
 simp only [rd] at h ⊢
 simp only [apc,apv,toAS_ev]
 generalize t.ev n x = tx at *
 generalize t.ev n i = ti at *
 split at h
 ·rename_i n' k L k2 m
  obtain ⟨h1,h2⟩ := h.and2
  have h1 := h1.ok
  have h2 := h2.sm
  simp only [Nat.beq_eq,Bool.and_eq_true,decide_eq_true_eq,Bool.not_eq_true'] at h1 h2
  obtain ⟨rfl,h3,rfl⟩ := h1
  have h3 := Nat.le_of_ble_eq_true h3
  have e1 : av t.hp (.v (.ar n' k) L) = .agg (arC n' k L) := rfl
  have e2 : av t.hp (.v (.i k2) m) = .val (.int k2 m) := rfl
  rw [e1,e2]
  refine ⟨⟨by rw [arC_len]; omega,by omega,h2⟩,?_⟩
  show (arC n' k L).getD (m.toNat * 1) .any = .val (.int k (L.getD m.toNat 0))
  rw [Nat.mul_one,arC_getD (toNat_lt' h2 h3)]
 ·exact h.bad.elim
theorem rd_lns (x : Operand) : RdOk n t (.lns x) := by
 intro h
 simp only [rd] at h ⊢
 simp only [apc,apv,toAS_ev]
 generalize t.ev n x = tx at *
 split at h <;> first | exact ⟨trivial,rfl⟩ | exact h.bad.elim
theorem rd_mnx (mx : Bool) (x y : Operand) : RdOk n t (.mnx mx x y) := by
 intro h
 simp only [rd] at h ⊢
 simp only [apc,apv,toAS_ev]
 generalize t.ev n x = tx at *
 generalize t.ev n y = ty at *
 split at h
 ·have h := h.ok
  simp only [decide_eq_true_eq] at h
  exact ⟨h,rfl⟩
 ·exact h.bad.elim
theorem rd_mkf (f : FuncId) (cap : List Operand) : RdOk n t (.mkf f cap) := by
 intro h
 refine ⟨trivial,?_⟩
 simp only [rd,apv,av,avL_map,List.map_map]
 congr 1
 refine List.map_congr_left fun x _ => ?_
 exact toAS_ev n t x
theorem getD_map {α β : Type} {f : α → β} {xs : List α} {i : Nat} {d : α} {e : β} (h : i < xs.length) : (xs.map f).getD i e = f (xs.getD i d) := by
 simp [List.getD_eq_getElem?_getD,h]
theorem rd_ext (x : Operand) (i : Nat) : RdOk n t (.ext x i) := by
 intro h
 simp only [rd] at h ⊢
 simp only [apc,apv,toAS_ev]
 generalize t.ev n x = tx at *
 split at h
 ·have h := h.ok
  rw [Nat.blt_eq] at h
  simp only [av,avL_map,List.length_map]
  exact ⟨h,getD_map h⟩
 ·exact h.bad.elim
theorem len_spec {hp : THP} {x : TV} (h : Hc (lenT hp x).1) : lenC (av hp x) ∧ lenV (av hp x) = av hp (lenT hp x).2 := by
 unfold lenT at h ⊢
 split at h
 ·rename_i T L
  refine ⟨trivial,?_⟩
  show AV.val (.int .i64 ((L.map fun y => mkr T.ag (cls false T y)).length : Nat)) = AV.val (.int .i64 (L.length : Nat))
  rw [List.length_map]
 ·rename_i j
  split at h
  ·rename_i T o L e
   simp only [av,hpk,TB.rlen,e]
   exact ⟨trivial,rfl⟩
  ·rename_i T R e
   simp only [av,hpk,TB.rlen,e]
   exact ⟨trivial,rfl⟩
  ·exact h.bad.elim
 ·rename_i j off len
  unfold isArr at h ⊢
  split at h
  ·rename_i l e
   simp only [av,e,cond_true]
   exact ⟨trivial,rfl⟩
  ·exact h.bad.elim
 ·exact ⟨trivial,rfl⟩
 ·exact ⟨trivial,rfl⟩
 ·exact h.bad.elim
theorem rd_len (x : Operand) : RdOk n t (.len x) := by
 intro h
 simp only [rd] at h ⊢
 simp only [apc,apv,toAS_ev]
 exact len_spec h
theorem zeroA_spec {x : Operand} (h : zeroA n t x = true) : zeroB (toAS n t) x := by
 unfold zeroA at h
 unfold zeroB
 rw [toAS_ev]
 generalize t.ev n x = tx at *
 split at h
 ·have h' := of_decide_eq_true h
  exact h'
 ·cases h
theorem rd_slz (x lo hi mx : Operand) : RdOk n t (.slz x lo hi mx) := by
 intro h
 simp only [rd] at h ⊢
 simp only [apc,apv,toAS_ev]
 obtain ⟨h1,h2⟩ := h.and2
 have h2 := h2.ok
 simp only [Bool.and_eq_true] at h2
 exact ⟨⟨(len_spec h1).1,zeroA_spec h2.1,zeroA_spec h2.2.1,zeroA_spec h2.2.2⟩,rfl⟩
end
end Go.Proofs.Ytkmhopbmpeiofaa.Nx
namespace Go.Proofs.Ytkmhopbmpeiofaa.Nx
open Go Go.RowKit
theorem avL_drop (hp : THP) (cs : List TV) (k : Nat) : avL hp (cs.drop k) = (avL hp cs).drop k := by simp [avL_map,List.map_drop]
theorem avL_take (hp : THP) (cs : List TV) (k : Nat) : avL hp (cs.take k) = (avL hp cs).take k := by simp [avL_map,List.map_take]
theorem avL_len (hp : THP) (cs : List TV) : (avL hp cs).length = cs.length := by simp [avL_map]
theorem avL_getD (hp : THP) (cs : List TV) (k : Nat) : (avL hp cs).getD k .any = av hp (cs.getD k .any) := by
 rw [avL_map]
 rcases Nat.lt_or_ge k cs.length with h | h
 ·exact getD_map h
 ·simp [List.getD_eq_getElem?_getD,h,av]
theorem isBlk_spec {hp : THP} {j : Nat} (h : isBlk hp j = true) : (∃ T o L,hp[j]? = some (some (.arr T o L))) ∨ (∃ cs,hp[j]? = some (some (.box cs))) ∨ (∃ T R,hp[j]? = some (some (.rws T R))) ∨ (∃ T L row off c,hp[j]? = some (some (.hol T L row off c))) ∨ (∃ T L row cs,hp[j]? = some (some (.tld T L row cs))) ∨ (∃ T L,hp[j]? = some (some (.log T L))) ∨ ∃ n k L,hp[j]? = some (some (.ara n k L)) := by
 unfold isBlk at h
 split at h
 ·rename_i b e
  cases b with
  | box cs => exact .inr (.inl ⟨cs,e⟩)
  | arr T o L => exact .inl ⟨T,o,L,e⟩
  | rws T R => exact .inr (.inr (.inl ⟨T,R,e⟩))
  | hol T L row off c => exact .inr (.inr (.inr (.inl ⟨T,L,row,off,c,e⟩)))
  | tld T L row cs => exact .inr (.inr (.inr (.inr (.inl ⟨T,L,row,cs,e⟩))))
  | log T L => exact .inr (.inr (.inr (.inr (.inr (.inl ⟨T,L,e⟩)))))
  | ara n k L => exact .inr (.inr (.inr (.inr (.inr (.inr ⟨n,k,L,e⟩)))))
 ·cases h
section
variable {C : Ctx} {n : Nat} {t : TS} {a : Act} {w : World} {N : NT} {M : MT} {L : List (Nat × Nat)}
theorem ptr_blk {j : Nat} (h : isBlk t.hp j = true) (row off : Nat) : ∃ ver,av t.hp (.ptr j row off) = .ptr j ver row off ∧ ((toAS n t).hp.at j ver).isSome = true := by
 rcases isBlk_spec h with ⟨T,o,L,e⟩ | ⟨cs,e⟩ | ⟨T,R,e⟩ | ⟨T,L,r',o',c,e⟩ | ⟨T,L,r',cs,e⟩ | ⟨T,L,e⟩ | ⟨n',k',L,e⟩
 ·exact ⟨L.length,by simp [av,hpk,TB.rlen,e],by rw [toAS_hp,at_arr e]; rfl⟩
 ·exact ⟨1,by simp [av,hpk,TB.rlen,e],by rw [toAS_hp,at_box e]; rfl⟩
 ·exact ⟨R.length,by simp [av,hpk,TB.rlen,e],by rw [toAS_hp,at_rws e]; rfl⟩
 ·exact ⟨L.length,by simp [av,hpk,TB.rlen,e],by rw [toAS_hp,at_hol e]; rfl⟩
 ·exact ⟨L.length,by simp [av,hpk,TB.rlen,e],by rw [toAS_hp,at_tld e]; rfl⟩
 ·exact ⟨L.length,by simp [av,hpk,TB.rlen,e],by rw [toAS_hp,at_log e]; rfl⟩
 ·exact ⟨1,by simp [av,hpk,TB.rlen,e],by rw [toAS_hp,at_ara e]; rfl⟩
theorem ptr_blk' {hp : THP} {j : Nat} (h : isBlk hp j = true) : ∃ ver,∀ row off,av hp (.ptr j row off) = .ptr j ver row off := by
 rcases isBlk_spec h with ⟨T,o,L,e⟩ | ⟨cs,e⟩ | ⟨T,R,e⟩ | ⟨T,L,r',o',c,e⟩ | ⟨T,L,r',cs,e⟩ | ⟨T,L,e⟩ | ⟨n',k',L,e⟩
 ·exact ⟨L.length,fun row off => by simp [av,hpk,TB.rlen,e]⟩
 ·exact ⟨1,fun row off => by simp [av,hpk,TB.rlen,e]⟩
 ·exact ⟨R.length,fun row off => by simp [av,hpk,TB.rlen,e]⟩
 ·exact ⟨L.length,fun row off => by simp [av,hpk,TB.rlen,e]⟩
 ·exact ⟨L.length,fun row off => by simp [av,hpk,TB.rlen,e]⟩
 ·exact ⟨L.length,fun row off => by simp [av,hpk,TB.rlen,e]⟩
 ·exact ⟨1,fun row off => by simp [av,hpk,TB.rlen,e]⟩
theorem rd_fad (off : Nat) (x : Operand) : RdOk n t (.fad off x) := by
 intro h
 simp only [rd] at h ⊢
 simp only [apc,apv,toAS_ev]
 generalize t.ev n x = tx at *
 split at h
 ·rename_i j row o
  have h := h.ok
  obtain ⟨v,h1,h2⟩ := ptr_blk (n := n) h row o
  obtain ⟨v',h3⟩ := ptr_blk' h
  have := (h3 row o).symm.trans h1
  cases this
  simp only [h3]
  exact ⟨h2,trivial⟩
 ·simp only [av]
  exact ⟨trivial,by rw [List.drop_drop]⟩
 ·simp only [av]
  exact ⟨trivial,by rw [avL_drop]⟩
 ·exact h.bad.elim
theorem rd_aad (sz len : Nat) (x i : Operand) : RdOk n t (.aad sz len x i) := by
 intro h
 simp only [rd] at h ⊢
 simp only [apc,apv,toAS_ev]
 generalize t.ev n x = tx at *
 generalize t.ev n i = ti at *
 split at h
 ·rename_i j row o k m
  split at h
  ·rename_i n' k' L e
   obtain ⟨h1,h2⟩ := h.and2
   have h1 := h1.ok
   have h2 := h2.sm
   simp only [Nat.beq_eq,Bool.and_eq_true,decide_eq_true_eq] at h1 h2
   obtain ⟨rfl,h3,rfl,rfl⟩ := h1
   have e1 : ∀ o,av t.hp (.ptr j 0 o) = .ptr j 1 0 o := fun o => by simp only [av,hpk_ara e]
   have e2 : av t.hp (.v (.i k) m) = .val (.int k m) := rfl
   rw [e1,e1,e2]
   refine ⟨⟨?_,h2⟩,by simp⟩
   show ((toAS n t).hp.at j 1).isSome = true
   rw [toAS_hp,at_ara e]; rfl
  ·exact h.bad.elim
 ·exact h.bad.elim
theorem rd_nck (x : Operand) : RdOk n t (.nck x) := by
 intro h
 simp only [rd] at h ⊢
 simp only [apc,apv,toAS_ev]
 generalize t.ev n x = tx at *
 split at h
 ·rename_i j row o
  have h := h.ok
  obtain ⟨v,h1,h2⟩ := ptr_blk (n := n) h row o
  simp only [h1]
  exact ⟨h2,trivial⟩
 ·exact ⟨trivial,rfl⟩
 ·exact ⟨trivial,rfl⟩
 ·exact h.bad.elim
theorem subV_av (hp : THP) : ∀ (T : Ty) (x : Den T) (off m : Nat) (ag : Bool),off + m ≤ T.sz → 0 < m → (ag = true ∨ m = 1) →
  av hp (subV T x off m ag) = if ag then .agg (((cls false T x).drop off).take m) else (cls false T x).getD off .any := by
 intro T
 induction T with
 | i k =>
  intro x off m ag h1 h2 h3
  simp only [Ty.sz] at h1
  obtain rfl : off = 0 := by omega
  obtain rfl : m = 1 := by omega
  cases ag <;> rfl
 | bl =>
  intro x off m ag h1 h2 h3
  simp only [Ty.sz] at h1
  obtain rfl : off = 0 := by omega
  obtain rfl : m = 1 := by omega
  cases ag <;> rfl
 | tx =>
  intro x off m ag h1 h2 h3
  simp only [Ty.sz] at h1
  obtain rfl : off = 0 := by omega
  obtain rfl : m = 1 := by omega
  cases ag <;> rfl
 | sv t _ =>
  intro x off m ag h1 h2 h3
  simp only [Ty.sz] at h1
  obtain rfl : off = 0 := by omega
  obtain rfl : m = 1 := by omega
  cases ag <;> rfl
 | sl t ih =>
  intro x off m ag h1 h2 h3
  simp only [Ty.sz] at h1
  obtain rfl : off = 0 := by omega
  obtain rfl : m = 1 := by omega
  cases ag <;> rfl
 | ar n k =>
  intro x off m ag h1 h2 h3
  simp only [Ty.sz] at h1
  have e : cls false (.ar n k) x = arC n k x := rfl
  cases ag with
  | false =>
   obtain rfl : m = 1 := by
    rcases h3 with h | h
    ·cases h
    ·exact h
   simp only [subV,cond_false,Bool.false_eq_true,if_false]
   rw [e,arC_getD (by omega)]; rfl
  | true =>
   simp only [subV,cond_true,if_true]
   cases hc : (Nat.beq off 0 && Nat.beq m n) with
   | true =>
    simp only [Bool.and_eq_true,Nat.beq_eq] at hc
    obtain ⟨rfl,rfl⟩ := hc
    simp only [cond_true,List.drop_zero]
    rw [e,List.take_of_length_le (by rw [arC_len]; exact Nat.le_refl _)]
    rfl
   | false => simp only [cond_false,av,avL_map,List.map_take,List.map_drop,av_tcls]
 | st t ih =>
  intro x off m ag h1 h2 h3
  simp only [subV]
  cases hc : (Nat.beq off 0 && (Nat.beq m t.sz && ag)) with
  | false => simp only [cond_false]; exact ih x off m ag h1 h2 h3
  | true =>
   simp only [Bool.and_eq_true,Nat.beq_eq] at hc
   obtain ⟨rfl,rfl,rfl⟩ := hc
   simp only [cond_true,if_true,List.drop_zero]
   rw [List.take_of_length_le (by rw [cls_len]; exact Nat.le_refl _)]
   rfl
 | pr a b iha ihb =>
  intro x off m ag h1 h2 h3
  simp only [Ty.sz] at h1
  simp only [subV]
  cases hc : Nat.ble (off + m) a.sz with
  | true =>
   have hc := Nat.le_of_ble_eq_true hc
   simp only [cond_true]
   rw [iha x.1 off m ag hc h2 h3]
   have hl := cls_len false a x.1
   simp only [cls]
   cases ag with
   | true =>
    simp only [if_true]
    rw [List.drop_append_of_le_length (by omega),List.take_append_of_le_length (by simp; omega)]
   | false =>
    simp only [Bool.false_eq_true,if_false]
    simp only [List.getD_eq_getElem?_getD]
    rw [List.getElem?_append_left (by omega)]
  | false =>
   simp only [cond_false]
   have hc : ¬ off + m ≤ a.sz := by
    intro h; rw [Nat.ble_eq_true_of_le h] at hc; cases hc
   have hl := cls_len false a x.1
   cases hd : Nat.ble a.sz off with
   | true =>
    have hd := Nat.le_of_ble_eq_true hd
    simp only [cond_true]
    rw [ihb x.2 (off - a.sz) m ag (by omega) h2 h3]
    simp only [cls]
    cases ag with
    | true =>
     simp only [if_true]
     rw [List.drop_append,show List.drop off (cls false a x.1) = [] from List.drop_eq_nil_of_le (by omega),List.nil_append,hl]
    | false =>
     simp only [Bool.false_eq_true,if_false]
     simp only [List.getD_eq_getElem?_getD]
     rw [List.getElem?_append_right (by omega),hl]
   | false =>
    simp only [cond_false]
    have hd : ¬ a.sz ≤ off := by
     intro h; rw [Nat.ble_eq_true_of_le h] at hd; cases hd
    rcases h3 with rfl | rfl
    ·simp only [if_true,av,avL_map,List.map_take,List.map_drop,List.map_append,av_tcls]; rfl
    ·omega
theorem ag1 {ag : Bool} {m : Nat} (h : (ag || Nat.beq m 1) = true) : ag = true ∨ m = 1 := by
 cases ag with
 | true => exact .inl rfl
 | false => exact .inr (by simpa using h)
theorem rd_fld (off m : Nat) (ag : Bool) (x : Operand) : RdOk n t (.fld off m ag x) := by
 intro h
 simp only [rd] at h ⊢
 simp only [apc,apv,toAS_ev]
 generalize t.ev n x = tx at *
 split at h
 ·rename_i T x
  have h := h.ok
  simp only [Bool.and_eq_true] at h
  have h1 := Nat.le_of_ble_eq_true h.1
  have h2 : 0 < m := by have := h.2.1; rw [Nat.blt_eq] at this; exact this
  refine ⟨?_,?_⟩
  ·show off + m ≤ (cls false T x).length ∧ 0 < m
   rw [cls_len]; exact ⟨h1,h2⟩
  ·rw [subV_av t.hp T x off m ag h1 h2 (ag1 h.2.2)]; rfl
 ·rename_i cs
  have h := h.ok
  simp only [Bool.and_eq_true] at h
  have h1 := Nat.le_of_ble_eq_true h.1
  have h2 : 0 < m := by have := h.2; rw [Nat.blt_eq] at this; exact this
  simp only [av,avL_len]
  refine ⟨⟨h1,h2⟩,?_⟩
  cases ag with
  | true => simp only [if_true,cond_true,av,avL_take,avL_drop]
  | false => simp only [Bool.false_eq_true,if_false,cond_false]; exact avL_getD _ _ _
 ·exact h.bad.elim
theorem rd_iad (sz : Nat) (x i : Operand) : RdOk n t (.iad sz x i) := by
 intro h
 simp only [rd] at h ⊢
 simp only [apc,apv,toAS_ev]
 generalize t.ev n x = tx at *
 generalize t.ev n i = ti at *
 split at h
 ·rename_i T Lx k m
  obtain ⟨h1,h2⟩ := h.and2
  have h1 := h1.ok
  have h2 := h2.sm
  simp only [Nat.beq_eq,Bool.and_eq_true,decide_eq_true_eq] at h1 h2
  show ((T.sz = sz ∨ Lx.map (enc false T) = []) ∧ 0 ≤ m ∧ m < ((Lx.map (enc false T)).length : Int)) ∧ AV.ipt ((Lx.map (enc false T)).getD m.toNat .any).cells = .ipt ((cls false T (Lx.getD m.toNat (dft T))).drop 0)
  rw [List.length_map]
  refine ⟨⟨.inl h1,h2⟩,?_⟩
  rw [getD_map (d := dft T) ((Int.toNat_lt h2.1).2 h2.2),enc_cells,List.drop_zero]
 ·rename_i j k m
  split at h
  ·rename_i T o Lx e
   obtain ⟨h1,h2⟩ := h.and2
   have h1 := h1.ok
   have h2 := h2.sm
   simp only [Nat.beq_eq,Bool.and_eq_true,decide_eq_true_eq] at h1 h2
   rw [show av t.hp (.own j) = .ref j Lx.length 0 Lx.length from by simp only [av,hpk,TB.rlen,e]]
   show ((match (toAS n t).hp.at j Lx.length with | some b => b.sz = sz | none => False) ∧ 0 ≤ m ∧ m < (Lx.length : Int)) ∧ AV.ptr j Lx.length (0 + m.toNat) 0 = av t.hp (.ptr j m.toNat 0)
   rw [toAS_hp,at_arr e]
   refine ⟨⟨h1,h2⟩,?_⟩
   simp only [av,hpk,TB.rlen,e,Nat.zero_add]
  ·rename_i T Lx r0 o0 c0 e
   obtain ⟨h1,h2⟩ := h.and2
   have h1 := h1.ok
   have h2 := h2.sm
   simp only [Nat.beq_eq,Bool.and_eq_true,decide_eq_true_eq] at h1 h2
   rw [show av t.hp (.own j) = .ref j Lx.length 0 Lx.length from by simp only [av,hpk,TB.rlen,e]]
   show ((match (toAS n t).hp.at j Lx.length with | some b => b.sz = sz | none => False) ∧ 0 ≤ m ∧ m < (Lx.length : Int)) ∧ AV.ptr j Lx.length (0 + m.toNat) 0 = av t.hp (.ptr j m.toNat 0)
   rw [toAS_hp,at_hol e]
   refine ⟨⟨h1,h2⟩,?_⟩
   simp only [av,hpk,TB.rlen,e,Nat.zero_add]
  ·rename_i T Lx r0 cs0 e
   obtain ⟨h1,h2⟩ := h.and2
   have h1 := h1.ok
   have h2 := h2.sm
   simp only [Nat.beq_eq,Bool.and_eq_true,decide_eq_true_eq] at h1 h2
   rw [show av t.hp (.own j) = .ref j Lx.length 0 Lx.length from by simp only [av,hpk,TB.rlen,e]]
   show ((match (toAS n t).hp.at j Lx.length with | some b => b.sz = sz | none => False) ∧ 0 ≤ m ∧ m < (Lx.length : Int)) ∧ AV.ptr j Lx.length (0 + m.toNat) 0 = av t.hp (.ptr j m.toNat 0)
   rw [toAS_hp,at_tld e]
   refine ⟨⟨h1,h2⟩,?_⟩
   simp only [av,hpk,TB.rlen,e,Nat.zero_add]
  ·exact h.bad.elim
 ·rename_i j off len k m
  split at h
  ·rename_i T o Lx e
   obtain ⟨h1,h2⟩ := h.and2
   have h1 := h1.ok
   have h2 := h2.sm
   simp only [Nat.beq_eq,Bool.and_eq_true,decide_eq_true_eq] at h1 h2
   rw [show av t.hp (.sub j off len) = .ref j Lx.length off len from by simp only [av,hpk,TB.rlen,e]]
   show ((match (toAS n t).hp.at j Lx.length with | some b => b.sz = sz | none => False) ∧ 0 ≤ m ∧ m < (len : Int)) ∧ AV.ptr j Lx.length (off + m.toNat) 0 = av t.hp (.ptr j (off + m.toNat) 0)
   rw [toAS_hp,at_arr e]
   refine ⟨⟨h1,h2⟩,?_⟩
   simp only [av,hpk,TB.rlen,e]
  ·exact h.bad.elim
 ·exact h.bad.elim
end
end Go.Proofs.Ytkmhopbmpeiofaa.Nx
