/- A part of the proof: T0, R0, R1, R2, R3, R4, R5, R6, R6b, R6c, R6d, R6e, R6f, R6g. -/
import Derived.LoopN
import Derived.Laws.AppendOwn
import Derived.Laws.Cells
import Derived.Below
import Derived.Deep.Quiet
import Derived.WalkKit
set_option linter.unusedVariables false
set_option linter.unusedSimpArgs false
section
namespace Go.TM
inductive Hdr where
  | sl (A : Option Addr) (n c : Nat)
  | mp (r : Option Nat)
def Hdr.val : Hdr → Value
  | .sl A n c => .slice A n c
  | .mp r => .map r
inductive V where
  | int (k : IntKind) (n : Int)
  | bool (b : Bool)
  | str (s : ByteArray)
  | lst (xs : List V)
  | inl (sz : Nat) (xs : List V)
  | own (t : Nat)
  | ladr (xs : List V) (i off : Nat)
  | oadr (t sz i off : Nat)
  | sub (t i off : Nat)
  | sadr (t i off sz j o : Nat)
  | ptr (b off : Nat)
  | agg (xs : List V)
  | tup (xs : List V)
  | fn (f : Nat) (caps : List V)
  | nilp
  | nili
  | cnd (g : Bool) (v : V)
  | bx (c : V)
  | anyB
  | raw (h : Hdr)
  | bad
  deriving Inhabited
def leaves : V → List V
  | .agg xs => xs
  | v => [v]
def vw : V → V
  | .inl _ xs => .lst xs
  | v => v
mutual
def norm : V → V
  | .lst xs => .lst (norms xs)
  | .inl _ xs => .lst (norms xs)
  | .agg xs => .agg (norms xs)
  | v => v
def norms : List V → List V
  | [] => []
  | v :: vs => norm v :: norms vs
end
def leafAt (xs : List V) (j i : Nat) : Option V := (xs[j]?).bind fun e => (leaves e)[i]?
structure Rw where
  sz : Nat
  xs : List V
  wr : Bool
structure S where
  e : Nat → V
  B : Nat → Option V
  R : Nat → Option Rw
  nt : Nat
  nb : Nat
def S.put (s : S) (d : Option Nat) (v : V) : S :=
  match d with
  | some d => { s with e := fun x => if x = d then v else s.e x }
  | none => s
def S.setR (s : S) (t : Nat) (r : Option Rw) : S := { s with R := fun x => if x = t then r else s.R x }
def S.setB (s : S) (b : Nat) (c : Option V) : S := { s with B := fun x => if x = b then c else s.B x }
def S.newR (s : S) (z : Nat) (xs : List V) : S := { s.setR s.nt (some ⟨z, xs, true⟩) with nt := s.nt + 1 }
def S.newB (s : S) (c : V) : S := { s.setB s.nb (some c) with nb := s.nb + 1 }
def onL1 (f : V → V) : V → V
  | .agg xs => .agg (xs.map f)
  | v => f v
def onL (f : V → V) : V → V
  | .tup xs => .tup (xs.map (onL1 f))
  | v => onL1 f v
def onC (f : V → V) : V → V
  | .cnd g v => .cnd g (onL f v)
  | v => onL f v
def S.mapE (s : S) (f : V → V) : S := { s with e := fun x => onC f (s.e x), B := fun b => (s.B b).map (onL1 f) }
def flatL : V → Bool
  | .int _ _ | .bool _ | .str _ | .raw _ => true
  | _ => false
def flat1 : V → Bool
  | .agg xs => xs.all flatL
  | v => flatL v
def flatV : V → Bool
  | .tup xs => xs.all flat1
  | v => flat1 v
def killL (t i o n : Nat) : V → V
  | .sub t' i' o' => if t' = t ∧ i' = i ∧ o ≤ o' ∧ o' < o + n then .bad else .sub t' i' o'
  | .sadr t' i' o' z j p => if t' = t ∧ i' = i ∧ o ≤ o' ∧ o' < o + n then .bad else .sadr t' i' o' z j p
  | v => v
def killT (t : Nat) : V → V
  | .sub t' i' o' => if t' = t then .bad else .sub t' i' o'
  | .sadr t' i' o' z j p => if t' = t then .bad else .sadr t' i' o' z j p
  | v => v
def adL (v : V) (s : S) : V × S :=
  match v with
  | .inl z xs => (.own s.nt, s.newR z xs)
  | v => (v, s)
def adLs : List V → S → List V × S
  | [], s => ([], s)
  | v :: vs, s => ((adL v s).1 :: (adLs vs (adL v s).2).1, (adLs vs (adL v s).2).2)
def adC (v : V) (s : S) : V × S :=
  match v with
  | .agg xs => (.agg (adLs xs s).1, (adLs xs s).2)
  | v => adL v s
def ad1 (v : V) (s : S) : V × S :=
  match v with
  | .bx c => (.ptr (adC c s).2.nb 0, (adC c s).2.newB (adC c s).1)
  | v => adC v s
def ad1s : List V → S → List V × S
  | [], s => ([], s)
  | v :: vs, s => ((ad1 v s).1 :: (ad1s vs (ad1 v s).2).1, (ad1s vs (ad1 v s).2).2)
def ad (v : V) (s : S) : V × S :=
  match v with
  | .tup xs => (.tup (ad1s xs s).1, (ad1s xs s).2)
  | v => ad1 v s
def tokL : V → List Nat
  | .own t => [t]
  | _ => []
def toks1 : V → List Nat
  | .agg xs => xs.flatMap tokL
  | v => tokL v
def toks : V → List Nat
  | .tup xs => xs.flatMap toks1
  | v => toks1 v
def boxesL : V → List Nat
  | .ptr b _ => [b]
  | .fn _ caps => caps.flatMap fun v => match v with | .ptr b _ => [b] | _ => []
  | _ => []
def boxes1 : V → List Nat
  | .agg xs => xs.flatMap boxesL
  | v => boxesL v
def boxes2 : V → List Nat
  | .tup xs => xs.flatMap boxes1
  | v => boxes1 v
def S.nest (s : S) (t i o : Nat) : Option (Nat × List V) :=
  match s.R t with
  | some ⟨_, xs, true⟩ => match leafAt xs i o with
    | some (.inl z ys) => some (z, ys)
    | _ => none
  | _ => none
def showL (s : S) : V → V
  | .own t => match s.R t with
    | some r => .lst (norms r.xs)
    | none => .bad
  | .sub t i o => match s.nest t i o with
    | some p => .lst (norms p.2)
    | none => .bad
  | .inl _ xs => .lst (norms xs)
  | .lst xs => .lst (norms xs)
  | .int k n => .int k n
  | .bool b => .bool b
  | .str b => .str b
  | .raw h => .raw h
  | .fn f [] => .fn f []
  | .nilp => .nilp
  | .nili => .nili
  | .ladr xs i off => .ladr (norms xs) i off
  | _ => .bad
def frL : V → Bool
  | .int _ _ | .bool _ | .str _ | .raw _ | .lst _ => true
  | _ => false
def showP (s : S) : V → V
  | .ptr b off => match s.B b with
    | some c => if (leaves (onL1 (showL s) c)).all frL = true then .ladr [onL1 (showL s) c] 0 off else .bad
    | none => .bad
  | .ladr xs i off => .ladr (norms xs) i off
  | _ => .bad
def isLad : V → Bool
  | .ladr _ _ _ => true
  | _ => false
def showQ (s : S) : V → V
  | .ptr b off => showP s (.ptr b off)
  | .ladr xs i off => showP s (.ladr xs i off)
  | .fn f (c :: cs) => if ((c :: cs).map (showP s)).all isLad = true then .fn f ((c :: cs).map (showP s)) else .bad
  | v => showL s v
def giveL (s : S) : V → V
  | .own t => match s.R t with
    | some ⟨z, xs, true⟩ => .inl z xs
    | some ⟨_, xs, false⟩ => .lst (norms xs)
    | none => .bad
  | .sub t i o => match s.nest t i o with
    | some p => .inl p.1 p.2
    | none => .bad
  | v => showL s v
def givenL (s : S) : V → List V
  | .own t => match s.R t with
    | some ⟨_, _, true⟩ => [.own t]
    | _ => []
  | .sub t i o => match s.nest t i o with
    | some _ => [.sub t i o]
    | none => []
  | _ => []
def closeL (s : S) : V → V
  | .own t => match s.R t with
    | some ⟨z, xs, true⟩ => .inl z xs
    | some ⟨_, xs, false⟩ => .lst xs
    | none => .bad
  | .inl z xs => .inl z xs
  | .lst xs => .lst xs
  | .int k n => .int k n
  | .bool b => .bool b
  | .str b => .str b
  | .raw h => .raw h
  | .fn f [] => .fn f []
  | .nilp => .nilp
  | .nili => .nili
  | _ => .bad
def contL (s : S) : V → V
  | .inl _ _ => .bad
  | v => closeL s v
def closeB (s : S) (k : Nat) : V → V
  | .ptr b 0 => if k ≤ b then (match s.B b with | some c => .bx (onL1 (contL s) c) | none => .bad) else .bad
  | v => onL1 (closeL s) v
def closeR (s : S) (k : Nat) : V → V
  | .tup xs => .tup (xs.map (closeB s k))
  | v => closeB s k v
def renP (bs : List Nat) : V → V
  | .ptr b o => if b ∈ bs then .ptr (bs.idxOf b) o else .bad
  | _ => .bad
def isPtrIn (bs : List Nat) : V → Bool
  | .ptr b _ => decide (b ∈ bs)
  | _ => false
def renL (bs : List Nat) (s : S) : V → V
  | .ptr b o => renP bs (.ptr b o)
  | .fn f caps => if caps.all (isPtrIn bs) = true then .fn f (caps.map (renP bs)) else .bad
  | v => showL s v
def valL : V → Value
  | .int k n => .int k n
  | .bool b => .bool b
  | .str s => .string s
  | .raw h => h.val
  | _ => undef
def sameK : V → V → Bool
  | .int k _, .int k' _ => k == k'
  | .bool _, .bool _ => true
  | .str _, .str _ => true
  | _, _ => false
def sameKs : List V → List V → Bool
  | [], [] => true
  | x :: xs, y :: ys => sameK x y && sameKs xs ys
  | _, _ => false
def eqL : V → V → Bool
  | .int _ a, .int _ b => a == b
  | .bool a, .bool b => a == b
  | .str a, .str b => decide (a = b)
  | _, _ => false
def eqLs : List V → List V → Bool
  | x :: xs, y :: ys => eqL x y && eqLs xs ys
  | _, _ => true
def st : V → V
  | .cnd _ v => v
  | v => v
def isInlL : V → Bool
  | .inl _ _ => true
  | _ => false
def isInl : V → Bool
  | .agg xs => xs.any isInlL
  | v => isInlL v
def cst0 : Value → V
  | .int k n => .int k n
  | .bool b => .bool b
  | .string s => .str s
  | .slice none 0 0 => .inl 0 []
  | .pointer none => .nilp
  | .nilIface => .nili
  | _ => .bad
def cst : Value → V
  | .agg cs => .agg (cs.toList.map cst0)
  | v => cst0 v
def opnd (s : S) : Operand → V
  | .tmp t => st (s.e t)
  | .const v => cst v
  | .func f => .fn f []
  | .global _ => .bad
def needs (G : Bool) (s : S) : List Operand → Prop
  | [] => True
  | .tmp t :: r => (match s.e t with | .cnd g _ => (G = true → g = true) | _ => True) ∧ needs G s r
  | _ :: r => needs G s r
structure TI where
  sz : Nat
  ag : Bool
  by_ : Nat
  z : V
def getAt (i : TI) (ls : List V) (off : Nat) : Option V :=
  if i.ag then (if off + i.sz ≤ ls.length then some (.agg ((ls.drop off).take i.sz)) else none)
  else ls[off]?
def putAt (c : V) (off : Nat) (v : V) : V :=
  match c with
  | .agg ls => .agg (ls.take off ++ leaves v ++ ls.drop (off + (leaves v).length))
  | _ => v
def rdL (t i : Nat) (wr : Bool) (k : Nat) (l : V) : V :=
  match wr, l with
  | true, .inl _ _ => .sub t i k
  | _, l => vw l
def rdLs (t i : Nat) (wr : Bool) : Nat → List V → List V
  | _, [] => []
  | k, l :: ls => rdL t i wr k l :: rdLs t i wr (k + 1) ls
def ownL : V → V
  | .inl _ _ => .bad
  | v => v
structure Ans where
  sh : Bool
  r : V
  outs : List V
  boxes : List V
inductive TT where
  | done
  | one (q : Bool) (i : Nat) (k : TT)
  | two (q : Bool) (i : Nat) (a : TT) (q' : Bool) (j : Nat) (b : TT)
  | three (q : Bool) (i : Nat) (a : TT) (q' : Bool) (j : Nat) (b : TT) (q'' : Bool) (l : Nat) (d : TT)
  | bare (k : TT)
  | rig (i : Nat) (k : TT)
def TT.seq : List Nat → TT
  | [] => .done
  | i :: l => .one false i (TT.seq l)
def TT.depth : TT → Nat
  | .done => 0
  | .one _ _ k => k.depth + 1
  | .two _ _ a _ _ b => max a.depth b.depth + 1
  | .three _ _ a _ _ b _ _ d => max (max a.depth b.depth) d.depth + 1
  | .bare k => k.depth
  | .rig _ k => k.depth + 1
structure Pl where
  rg : List Nat
  pr : List (Nat × Bool)
  ea : List Nat
  la : List Nat
  tt : TT
structure Env where
  ti : TypeId → Option TI
  el : TypeId → Option TypeId
  fld : TypeId → Nat → Option (Nat × TypeId)
  str : TypeId → Bool
  bol : TypeId → Bool
  int : TypeId → Option IntKind
  eqs : TypeId → Option (List V)
  ifc : TypeId → Bool
  bld : TypeId → Bool
  call : Nat → List V → Option (Bool × V)
  rw : Nat → Option (List Bool)
  gen : Nat → List V → List V → Option Ans
  plan : Nat → Option (List (Nat × Bool))
  pln : Nat → Option Pl
structure R where
  c : Prop
  v : V
  s : S
  p : Bool
  q : Bool
def R.no (s : S) : R := ⟨False, .bad, s, true, true⟩
def R.ok (v : V) (s : S) : R := ⟨True, v, s, true, true⟩
def R.if_ (c : Prop) (v : V) (s : S) : R := ⟨c, v, s, true, true⟩
def R.ad (c : Prop) (v : V) (s : S) : R := ⟨c, v, s, false, true⟩
def R.st (c : Prop) (v : V) (s : S) : R := ⟨c, v, s, false, false⟩
def binR (E : Env) (op : BinOp) (t : TypeId) (x y : V) (s : S) : R :=
  match x, y with
  | .int k a, .int k' b =>
    match op with
    | .shl => .if_ (0 ≤ b) (.int k (k.wrap (a * 2 ^ (min b.toNat k.bits)))) s
    | .shr => .if_ (0 ≤ b) (.int k (a.fdiv (2 ^ (min b.toNat k.bits)))) s
    | .add => .if_ (k = k') (.int k (k.wrap (a + b))) s
    | .sub => .if_ (k = k') (.int k (k.wrap (a - b))) s
    | .mul => .if_ (k = k') (.int k (k.wrap (a * b))) s
    | .quo => .if_ (k = k' ∧ b ≠ 0) (.int k (k.wrap (a.tdiv b))) s
    | .rem => .if_ (k = k' ∧ b ≠ 0) (.int k (a.tmod b)) s
    | .and => .if_ (k = k') (.int k (k.wrap ((BitVec.ofInt k.bits a &&& BitVec.ofInt k.bits b).toNat))) s
    | .or => .if_ (k = k') (.int k (k.wrap ((BitVec.ofInt k.bits a ||| BitVec.ofInt k.bits b).toNat))) s
    | .xor => .if_ (k = k') (.int k (k.wrap ((BitVec.ofInt k.bits a ^^^ BitVec.ofInt k.bits b).toNat))) s
    | .eql => .if_ (k = k') (.bool (a == b)) s
    | .neq => .if_ (k = k') (.bool (a != b)) s
    | .lss => .if_ (k = k') (.bool (decide (a < b))) s
    | .leq => .if_ (k = k') (.bool (decide (a ≤ b))) s
    | .gtr => .if_ (k = k') (.bool (decide (a > b))) s
    | .geq => .if_ (k = k') (.bool (decide (a ≥ b))) s
    | _ => .no s
  | .str a, .str b =>
    match op with
    | .add => .if_ (a.size + b.size ≤ 9223372036854775807) (.str (a ++ b)) s
    | .eql => .ok (.bool (decide (a = b))) s
    | .neq => .ok (.bool (!decide (a = b))) s
    | .lss => .ok (.bool (Op.bytesLess a.toList b.toList)) s
    | .gtr => .ok (.bool (!(Op.bytesLess a.toList b.toList || decide (a = b)))) s
    | .geq => .ok (.bool (!(Op.bytesLess a.toList b.toList))) s
    | .leq => .ok (.bool (Op.bytesLess a.toList b.toList || decide (a = b))) s
    | _ => .no s
  | .bool a, .bool b =>
    match op with
    | .eql => .if_ (E.bol t = true) (.bool (a == b)) s
    | .neq => .if_ (E.bol t = true) (.bool (a != b)) s
    | _ => .no s
  | .agg xs, .agg ys =>
    match op with
    | .eql => .if_ (∃ ks, E.eqs t = some ks ∧ sameKs ks xs = true ∧ sameKs ks ys = true) (.bool (eqLs xs ys)) s
    | .neq => .if_ (∃ ks, E.eqs t = some ks ∧ sameKs ks xs = true ∧ sameKs ks ys = true) (.bool (!eqLs xs ys)) s
    | _ => .no s
  | _, _ => .no s
def nilB (n : Bool) : List V → V
  | [] => .anyB
  | _ :: _ => .bool n
def nilCmpR (E : Env) (op : BinOp) (t : TypeId) (x : V) (s : S) : R :=
  match op, x with
  | .eql, .lst xs => .if_ ((E.el t).isSome = true) (nilB false xs) s
  | .neq, .lst xs => .if_ ((E.el t).isSome = true) (nilB true xs) s
  | .eql, .own r => match s.R r with
    | some w => .if_ ((E.el t).isSome = true) (nilB false w.xs) s
    | none => .no s
  | .neq, .own r => match s.R r with
    | some w => .if_ ((E.el t).isSome = true) (nilB true w.xs) s
    | none => .no s
  | _, _ => .no s
def nilIR (E : Env) (op : BinOp) (t : TypeId) (x : V) (s : S) : R :=
  match op, x with
  | .eql, .nili => .if_ (E.ifc t = true) (.bool true) s
  | .neq, .nili => .if_ (E.ifc t = true) (.bool false) s
  | _, _ => .no s
def argsR (s : S) (args : List V) : List V := args.map (onL1 (showL s))
def argsQ (s : S) (args : List V) : List V := args.map (onL1 (showQ s))
def argsG (s : S) (bs : List Nat) : List Bool → List V → List V
  | true :: w, v :: vs => onL1 (giveL s) v :: argsG s bs w vs
  | _ :: w, v :: vs => onL1 (renL bs s) v :: argsG s bs w vs
  | [], v :: vs => onL1 (renL bs s) v :: argsG s bs [] vs
  | _, [] => []
def given (s : S) : List Bool → List V → List V
  | true :: w, v :: vs => (leaves v).flatMap (givenL s) ++ given s w vs
  | _ :: w, _ :: vs => given s w vs
  | _, _ => []
def kept : List Bool → List V → List V
  | true :: w, _ :: vs => kept w vs
  | _ :: w, v :: vs => v :: kept w vs
  | [], v :: vs => v :: kept [] vs
  | _, [] => []
def tokG : V → List Nat
  | .own t => [t]
  | .sub t _ _ => [t]
  | _ => []
def setLeaf (xs : List V) (i o : Nat) (v : V) : List V := xs.set i (putAt (xs.getD i .bad) o v)
def S.back (s s0 : S) (g o : V) : S :=
  match g with
  | .own t => match o with
    | .inl z ys => (s.setR t (some ⟨z, ys, true⟩)).mapE (killT t)
    | _ => s
  | .sub t i p => match o, s0.R t with
    | .inl z ys, some r => s.setR t (some ⟨r.sz, setLeaf r.xs i p (.inl z ys), r.wr⟩)
    | _, _ => s
  | _ => s
def S.backs (s s0 : S) : List V → List V → S
  | g :: gs, o :: os => (s.back s0 g o).backs s0 gs os
  | _, _ => s
def S.drops (s : S) : List Nat → S
  | [] => s
  | t :: ts => (s.setR t none).drops ts
def S.still (s : S) (t : Nat) : S :=
  match s.R t with
  | some r => s.setR t (some ⟨r.sz, norms r.xs, false⟩)
  | none => s
def S.stills (s : S) : List Nat → S
  | [] => s
  | t :: ts => (s.still t).stills ts
def S.fills (s : S) : List Nat → List V → S
  | b :: bs, c :: cs => ((adC c s).2.setB b (some (adC c s).1)).fills bs cs
  | _, _ => s
def S.wrT (s : S) (t : Nat) : Bool := match s.R t with
  | some r => r.wr
  | none => false
def S.boxToks (s : S) (b : Nat) : List Nat := match s.B b with
  | some c => (toks1 c).filter s.wrT
  | none => []
def S.cont (s : S) (b : Nat) : V := match s.B b with
  | some c => onL1 (contL s) c
  | none => .bad
mutual
def noL : V → Bool
  | .lst xs => xs.isEmpty
  | .inl _ xs => noLs xs
  | .agg xs => noLs xs
  | .tup xs => noLs xs
  | .bx c => noL c
  | .int _ _ | .bool _ | .str _ | .raw _ | .nilp | .nili => true
  | _ => false
def noLs : List V → Bool
  | [] => true
  | x :: xs => noL x && noLs xs
end
def ftoks (args : List V) : List Nat := args.flatMap fun v => (leaves v).flatMap tokG
def ansR (a : Ans) (bs : List Nat) (w : List Bool) (args : List V) (s : S) : R :=
  let gs := given s w args
  let bt := bs.flatMap s.boxToks
  let ft := ftoks (kept w args)
  let s1 := ((if a.sh = true then s.stills ft else s).drops (gs.flatMap tokG)).drops bt
  let s2 := (s1.backs s gs a.outs).fills bs a.boxes
  .st (bs.Nodup ∧ (bs.all fun b => (s.B b).isSome) = true ∧ (gs.flatMap tokG ++ bt).Nodup ∧ (∀ t ∈ ft, t ∉ gs.flatMap tokG ++ bt) ∧ a.outs.length = gs.length ∧ a.boxes.length = bs.length ∧ (ft = [] ∨ a.sh = true ∨ noLs a.boxes = true))
    (ad a.r s2).1 (ad a.r s2).2
def genR (E : Env) (f : Nat) (w : List Bool) (args : List V) (s : S) : R :=
  match E.gen f (argsG s (args.flatMap boxes2) w args) ((args.flatMap boxes2).map s.cont) with
  | some a => ansR a (args.flatMap boxes2) w args s
  | none => .no s
def callR (E : Env) (f : Nat) (args : List V) (s : S) : R :=
  match E.rw f with
  | some w => genR E f w args s
  | none => match E.call f (argsQ s args) with
    | some (sh, r) => if flatV r = true then .ok r s else
        .st (argsQ s args = argsR s args) (ad r (if sh = true then s.stills (ftoks args) else s)).1 (ad r (if sh = true then s.stills (ftoks args) else s)).2
    | none => .no s
def adR (ty : Option Nat) (v : V) (s : S) : R :=
  match v with
  | .inl 0 [] => .ad True (.own s.nt) (s.newR (ty.getD 0) [])
  | v => if isInl v = true then .ad True (adC v s).1 (adC v s).2 else .ok v s
def unR (op : UnOp) (x : V) (s : S) : R :=
  match op, x with
  | .not, .bool b => .ok (.bool (!b)) s
  | .neg, .int k n => .ok (.int k (k.wrap (0 - n))) s
  | _, _ => .no s
def indexR (E : Env) (t : TypeId) (x y : V) (s : S) : R :=
  match x, y with
  | .str a, .int _ j => .if_ (E.str t = true ∧ 0 ≤ j ∧ j < a.size) (.int .u8 ((a.data.getD j.toNat 0).toNat)) s
  | _, _ => .no s
def indexAddrR (E : Env) (t : TypeId) (x y : V) (s : S) : R :=
  match x, y, (E.el t).bind E.ti with
  | .lst xs, .int _ j, some tt => .if_ ((0 ≤ j ∧ j < xs.length) ∧ (leaves (xs.getD j.toNat .bad)).length = tt.sz) (.ladr xs j.toNat 0) s
  | .own r, .int _ j, some tt => match s.R r with
    | some w => .if_ ((0 ≤ j ∧ j < w.xs.length) ∧ w.sz = tt.sz) (.oadr r w.sz j.toNat 0) s
    | none => .no s
  | .sub r i o, .int _ j, some tt => match s.nest r i o with
    | some p => .if_ ((0 ≤ j ∧ j < p.2.length) ∧ p.1 = tt.sz) (.sadr r i o p.1 j.toNat 0) s
    | none => .no s
  | _, _, _ => .no s
def fieldAddrR (E : Env) (t : TypeId) (x : V) (f : Nat) (s : S) : R :=
  match x, E.fld t f with
  | .ladr xs i off, some (o, _) => .ok (.ladr xs i (off + o)) s
  | .oadr r sz i off, some (o, _) => .ok (.oadr r sz i (off + o)) s
  | .sadr r i p sz j off, some (o, _) => .ok (.sadr r i p sz j (off + o)) s
  | .ptr b off, some (o, _) => .ok (.ptr b (off + o)) s
  | _, _ => .no s
def optR (v : Option V) (s : S) : R :=
  match v with
  | some v => .ok v s
  | none => .no s
def fieldR (E : Env) (t : TypeId) (x : V) (f : Nat) (s : S) : R :=
  match x, E.fld t f with
  | .agg ls, some (o, u) => optR ((E.ti u).bind fun i => getAt i ls o) s
  | _, _ => .no s
def loadR (E : Env) (t : TypeId) (x : V) (s : S) : R :=
  match x, E.ti t with
  | .ladr xs i off, some tt => optR (getAt tt ((leaves (xs.getD i .bad)).map vw) off) s
  | .oadr r sz i off, some tt => match s.R r with
    | some w => if i < w.xs.length ∧ w.sz = sz then optR (getAt tt (rdLs r i w.wr 0 (leaves (w.xs.getD i .bad))) off) s else .no s
    | none => .no s
  | .sadr r i o sz j off, some tt => match s.nest r i o with
    | some p => if j < p.2.length ∧ p.1 = sz then optR (getAt tt ((leaves (p.2.getD j .bad)).map ownL) off) s else .no s
    | none => .no s
  | .ptr b off, some tt => optR ((s.B b).bind (fun c => getAt tt (leaves c) off)) s
  | _, _ => .no s
def nilR (x : V) (s : S) : R :=
  match x with
  | .ptr b o => .ok (.ptr b o) s
  | .ladr xs i o => .ok (.ladr xs i o) s
  | _ => .no s
def extractR (x : V) (n : Nat) (s : S) : R :=
  match x with
  | .tup vs => optR vs[n]? s
  | _ => .no s
def cutR (E : Env) (t : TypeId) (x l h : V) (s : S) : R :=
  match x, l, h with
  | .str a, .int _ l, .int _ h => .if_ (E.str t = true ∧ 0 ≤ l ∧ l ≤ h ∧ h ≤ a.size) (.str (a.extract l.toNat h.toNat)) s
  | .lst xs, .int _ l, .int _ h => match (E.el t).bind E.ti with
    | some tt => .if_ ((0 ≤ l ∧ l ≤ h ∧ h ≤ xs.length) ∧ (xs = [] ∨ (leaves (xs.getD 0 .bad)).length = tt.sz)) (.lst ((xs.take h.toNat).drop l.toNat)) s
    | none => .no s
  | .own r, .int _ l, .int _ h => match (E.el t).bind E.ti, s.R r with
    | some tt, some ⟨z, xs, true⟩ => .ad ((0 ≤ l ∧ l ≤ h ∧ h ≤ xs.length) ∧ z = tt.sz ∧ 0 < tt.sz) (.own s.nt) ((s.setR r none).newR z ((xs.take h.toNat).drop l.toNat))
    | some tt, some ⟨z, xs, false⟩ => .if_ ((0 ≤ l ∧ l ≤ h ∧ h ≤ xs.length) ∧ z = tt.sz) (.lst ((xs.take h.toNat).drop l.toNat)) s
    | _, _ => .no s
  | _, _, _ => .no s
def cut0R (E : Env) (t : TypeId) (x h m : V) (s : S) : R :=
  match x, h, m, (E.el t).bind E.ti with
  | .lst _, .int _ 0, .int _ 0, some tt => .ad True (.own s.nt) (s.newR tt.sz [])
  | .own r, .int _ 0, .int _ 0, some tt => match s.R r with
    | some _ => .ad True (.own s.nt) (s.newR tt.sz [])
    | none => .no s
  | _, _, _, _ => .no s
def highR (x : V) (s : S) : V :=
  match x with
  | .str a => .int .i64 a.size
  | .lst xs => .int .i64 xs.length
  | .own t => match s.R t with
    | some r => .int .i64 r.xs.length
    | none => .bad
  | _ => .bad
def lenR (E : Env) (t : TypeId) (x : V) (s : S) : R :=
  match x with
  | .str a => .if_ (E.str t = true) (.int .i64 a.size) s
  | .lst xs => .if_ ((E.el t).isSome = true) (.int .i64 xs.length) s
  | .own r => match s.R r with
    | some w => .if_ ((E.el t).isSome = true) (.int .i64 w.xs.length) s
    | none => .no s
  | .sub r i o => match s.nest r i o with
    | some p => .if_ ((E.el t).isSome = true) (.int .i64 p.2.length) s
    | none => .no s
  | _ => .no s
def valueR (E : Env) (g : V) (args : List V) (s : S) : R :=
  match g with
  | .fn f caps => callR E f (args ++ caps) s
  | _ => .no s
def rowL (s : S) : V → Bool
  | .int _ _ | .bool _ | .str _ | .raw _ | .lst _ => true
  | .own t => (s.R t).isSome
  | .inl _ xs => xs.isEmpty
  | _ => false
def rowV (s : S) : V → Bool
  | .agg xs => xs.all (rowL s)
  | v => rowL s v
def eatL (s : S) : V → List Nat
  | .own t => match s.R t with
    | some ⟨_, _, true⟩ => [t]
    | _ => []
  | _ => []
def eat1 (s : S) (v : V) : List Nat := (leaves v).flatMap (eatL s)
def isRowL (s : S) : V → Bool
  | .inl _ _ => true
  | .own t => s.wrT t
  | _ => false
def vwE (v : V) : V := onL1 vw v
def room (tt : TI) (n : Nat) : Prop := 0 < tt.sz ∧ n ≤ 4294967296 ∧ n * tt.by_ ≤ 140737488355328
def buildSliceR (tt : Option TI) (len : Nat) (ps : List (Nat × V)) (s : S) : R :=
  match tt with
  | some tt => .st ((0 < tt.sz ∧ len * tt.sz ≤ 16777216 ∧ (leaves tt.z).length = tt.sz) ∧ (ps.map (·.1) = List.range len) ∧ (ps.all fun p => rowV s p.2 && ((leaves p.2).length == tt.sz)) = true ∧ (ps.flatMap fun p => eat1 s p.2).Nodup)
      (.own s.nt) ((s.drops (ps.flatMap fun p => eat1 s p.2)).newR tt.sz (ps.map fun p => onL1 (closeL s) p.2))
  | none => .no s
def makeSliceR (tt : Option TI) (l c : V) (s : S) : R :=
  match tt, l, c with
  | some tt, .int _ l, .int _ c => .st ((0 ≤ l ∧ l ≤ c ∧ room tt c.toNat) ∧ (leaves tt.z).length = tt.sz ∧ rowV s tt.z = true) (.own s.nt) (s.newR tt.sz (List.replicate l.toNat tt.z))
  | _, _, _ => .no s
def srcR (y : V) (s : S) : Option (List V × List Nat) :=
  match y with
  | .own t => match s.R t with
    | some ⟨_, ys, true⟩ => some (ys, [t])
    | some ⟨_, ys, false⟩ => some (ys.map vwE, [])
    | none => none
  | .lst ys => some (ys.map vwE, [])
  | .inl _ [] => some ([], [])
  | _ => none
def appendR (tt : Option TI) (x y : V) (s : S) : R :=
  match tt, x, srcR y s with
  | some tt, .own t, some (ys, T) => match s.R t with
    | some ⟨z, xs, true⟩ => .st (t ∉ T ∧ z = tt.sz ∧ room tt (xs.length + ys.length) ∧ ∀ y ∈ ys, (leaves y).length = tt.sz) (.own s.nt) ((s.drops (t :: T)).newR tt.sz (xs ++ ys))
    | _ => .no s
  | some tt, .inl 0 [], some (ys, T) => .st (room tt ys.length ∧ ∀ y ∈ ys, (leaves y).length = tt.sz) (.own s.nt) ((s.drops T).newR tt.sz ys)
  | _, _, _ => .no s
def boxL (s : S) : V → Bool
  | .int _ _ | .bool _ | .str _ | .raw _ | .lst _ | .inl _ _ | .ptr _ _ | .fn _ _ | .nilp | .nili => true
  | .own t => (s.R t).isSome
  | .sub t i o => (s.nest t i o).isSome
  | _ => false
def boxV (s : S) : V → Bool
  | .agg xs => xs.all (boxL s)
  | v => boxL s v
def allocR (tt : Option TI) (s : S) : R :=
  match tt with
  | some tt => .st (boxV s tt.z = true) (.ptr s.nb 0) ((adC tt.z s).2.newB (adC tt.z s).1)
  | none => .no s
def boxOpR (tt : Option TI) (x : V) (s : S) : R :=
  match tt with
  | some tt => .st (boxV s x = true ∧ (leaves x).length = tt.sz) (.ptr s.nb 0) ((adC x s).2.newB (adC x s).1)
  | none => .no s
def storeR (tt : Option TI) (a x : V) (s : S) : R :=
  match tt, a with
  | some tt, .ptr b off => match s.B b with
    | some c => .st (boxV s x = true ∧ (leaves x).length = tt.sz ∧ 0 < tt.sz ∧ off + tt.sz ≤ (leaves c).length) (.tup [])
        ((adC x s).2.setB b (some (putAt c off (adC x s).1)))
    | none => .no s
  | some tt, .oadr t sz i off => match s.R t with
    | some ⟨z, xs, true⟩ => .st ((rowV s x = true ∧ (leaves x).length = tt.sz ∧ off + tt.sz ≤ sz ∧ z = sz ∧ i < xs.length) ∧ 0 < tt.sz ∧ (eat1 s x).Nodup ∧ t ∉ eat1 s x) (.tup [])
        (if (leaves x).any (isRowL s) = true then (((s.drops (eat1 s x)).setR t (some ⟨z, xs.set i (putAt (xs.getD i .bad) off (onL1 (closeL s) x)), true⟩)).mapE (killL t i off tt.sz))
         else s.setR t (some ⟨z, xs.set i (putAt (xs.getD i .bad) off (onL1 (closeL s) x)), true⟩))
    | _ => .no s
  | some tt, .sadr t i o sz j off => match s.R t, s.nest t i o with
    | some r, some (z, ys) => .st (flat1 x = true ∧ (leaves x).length = tt.sz ∧ 0 < tt.sz ∧ off + tt.sz ≤ sz ∧ z = sz ∧ j < ys.length) (.tup [])
        (s.setR t (some ⟨r.sz, setLeaf r.xs i o (.inl z (ys.set j (putAt (ys.getD j .bad) off x))), true⟩))
    | _, _ => .no s
  | _, _ => .no s
def buildFill (E : Env) (t : TypeId) : List V → List (Nat × V) → Option (List V)
  | ls, [] => some ls
  | ls, (f, v) :: r => match E.fld t f with
    | some (o, u) => match E.ti u with
      | some i => if (leaves v).length = i.sz ∧ o + i.sz ≤ ls.length then buildFill E t (ls.take o ++ leaves v ++ ls.drop (o + i.sz)) r else none
      | none => none
    | none => none
def buildR (E : Env) (t : TypeId) (ps : List (Nat × V)) (s : S) : R :=
  match E.ti t with
  | some tt => match tt.z with
    | .agg zs => match buildFill E t zs ps with
      | some ls => .ad ((ps.all fun p => boxV s p.2) = true ∧ E.bld t = true) (.agg (adLs ls s).1) (adLs ls s).2
      | none => .no s
    | _ => .no s
  | none => .no s
def byteL : V → Option UInt8
  | .int .u8 n => some (UInt8.ofNat n.toNat)
  | _ => none
def bytesL : List V → Option (List UInt8)
  | [] => some []
  | v :: vs => match byteL v, bytesL vs with
    | some b, some bs => some (b :: bs)
    | _, _ => none
def convR (E : Env) (t u : TypeId) (x : V) (s : S) : R :=
  match x with
  | .int _ n => match E.int t, E.int u with
    | some _, some k => .ok (.int k (k.wrap n)) s
    | _, _ => .no s
  | .str a => .st ((E.str t = true ∧ (E.el u).bind E.int = some .u8) ∧ a.size ≤ 1000000000) (.lst (a.data.toList.map fun b => .int .u8 b.toNat)) s
  | .own r => match s.R r with
    | some ⟨_, xs, true⟩ => match bytesL xs with
      | some bs => .if_ (E.str u = true ∧ (E.el t).bind E.int = some .u8) (.str ⟨bs.toArray⟩) s
      | none => .no s
    | _ => .no s
  | _ => .no s
def isPtr : V → Bool
  | .ptr _ _ => true
  | _ => false
def opR (E : Env) (s : S) (ty : TypeId) : Op → R
  | .move x | .assign x => adR (((E.el ty).bind E.ti).map (·.sz)) (opnd s x) s
  | .binOp op t x (.const (.slice none 0 0)) _ => nilCmpR E op t (opnd s x) s
  | .binOp op t x (.const .nilIface) _ => nilIR E op t (opnd s x) s
  | .binOp op t x y _ => binR E op t (opnd s x) (opnd s y) s
  | .unOp op _ x => unR op (opnd s x) s
  | .index t x i => indexR E t (opnd s x) (opnd s i) s
  | .indexAddr t x i => indexAddrR E t (opnd s x) (opnd s i) s
  | .fieldAddr t x f => fieldAddrR E t (opnd s x) f s
  | .field t x f => fieldR E t (opnd s x) f s
  | .load t a => loadR E t (opnd s a) s
  | .nilCheck x => nilR (opnd s x) s
  | .extract x n => extractR (opnd s x) n s
  | .makeFunc (.func f) fs cs => match fs.toList with
    | [] => .if_ ((cs.toList.map (opnd s)).all isPtr = true) (.fn f (cs.toList.map (opnd s))) s
    | _ => .no s
  | .slice t x lo hi none => cutR E t (opnd s x) ((lo.map (opnd s)).getD (.int .i64 0)) ((hi.map (opnd s)).getD (highR (opnd s x) s)) s
  | .slice t x none (some hi) (some mx) => cut0R E t (opnd s x) (opnd s hi) (opnd s mx) s
  | .alloc t => allocR (E.ti t) s
  | .box t x => boxOpR (E.ti t) (opnd s x) s
  | .store t a x => storeR (E.ti t) (opnd s a) (opnd s x) s
  | .build t ps => buildR E t (ps.toList.map fun p => (p.1, opnd s p.2)) s
  | .buildSlice t len ps => buildSliceR ((E.el t).bind E.ti) len (ps.toList.map fun p => (p.1, opnd s p.2)) s
  | .makeSlice t l c => makeSliceR ((E.el t).bind E.ti) (opnd s l) (opnd s c) s
  | .convert t u x => convR E t u (opnd s x) s
  | .call c => match c.callee with
    | .value g => valueR E (opnd s g) (c.args.toList.map (opnd s)) s
    | .builtin .len => match c.args.toList, c.argTypes.toList with
      | [x], [t] => lenR E t (opnd s x) s
      | _, _ => .no s
    | .builtin .append => match c.args.toList, c.argTypes.toList with
      | [x, y], [t, t'] => if t = t' then appendR ((E.el t).bind E.ti) (opnd s x) (opnd s y) s else .no s
      | _, _ => .no s
    | _ => .no s
  | _ => .no s
def killS : V → V
  | .sub _ _ _ => .bad
  | .sadr _ _ _ _ _ _ => .bad
  | v => v
def nsL : V → Bool
  | .sub _ _ _ => false
  | .sadr _ _ _ _ _ _ => false
  | _ => true
def S.bareK (s : S) : S := ⟨fun x => onC killS (s.e x), fun _ => none, fun _ => none, s.nt, s.nb⟩
def newBx (c : Option V) : Option V := match c with
  | some c => if (leaves c).all nsL = true then some c else none
  | none => none
def joinS (s s1 : S) : S := ⟨fun x => onC killS (s1.e x), fun b => if b < s.nb then s.B b else newBx (s1.B b), fun t => if t < s.nt then s.R t else s1.R t, s1.nt, s1.nb⟩
inductive X where
  | normal
  | exit (id : Nat)
  | ret
def grd (all : Array Oper) (s : S) : Option (Nat × Bool) → Option Bool
  | none => some true
  | some (j, want) => match ((all[j]?).bind (·.dst)).map s.e with
    | some (.bool b) => some (b == want)
    | some (.cnd g (.bool b)) => some (g && (b == want))
    | some (.cnd false _) => some false
    | some (.tup []) => some false
    | _ => none
def pickR (c a b : V) (xa xb : List Operand) (s : S) (K : V → Prop) : Prop :=
  match c, a, b with
  | .bool g, .bool x, .bool y => (needs g s xa ∧ needs (!g) s xb) ∧ K (.bool (bif g then x else y))
  | .bool g, v, w => (needs g s xa ∧ needs (!g) s xb) ∧ (if g = true then K v else K w)
  | _, _, _ => False
def pickG (G : Option Bool) (c a b : V) (xc xa xb : List Operand) (s : S) (K : V → Prop) : Prop :=
  match G, c, a, b with
  | some G, .bool g, .bool x, .bool y => (needs G s xc ∧ needs (G && g) s xa ∧ needs (G && !g) s xb) ∧ K (.cnd G (.bool (bif g then x else y)))
  | some G, c, a, b => if G = true then (match c with
    | .bool g => (needs true s xc ∧ needs g s xa ∧ needs (!g) s xb) ∧ (if g = true then K (.cnd true a) else K (.cnd true b))
    | _ => False) else K (.cnd false .bad)
  | none, _, _, _ => False
def stepR (dr : Bool) (d : Option Tmp) (r : R) (us : List Operand) (s : S) (K : S → Prop) : Prop := needs true s us ∧ (r.c ∧ (dr = true → r.q = true)) ∧ K (r.s.put d r.v)
def stepG (dr : Bool) (G : Option Bool) (d : Option Tmp) (r : R) (us : List Operand) (s : S) (K : S → Prop) : Prop :=
  match G with
  | some G => (needs G s us ∧ (G = true → r.c ∧ (dr = true → r.q = true))) ∧
      (if r.p = true ∧ r.q = true then K (s.put d (.cnd G r.v)) else if G = true then K (r.s.put d r.v) else K (s.put d (.tup [])))
  | none => False
def bareB (s : S) : Operand → V
  | .tmp t => s.e t
  | x => opnd s x
section
variable (E : Env)
def opsW (dr : Bool) (all : Array Oper) : List Oper → S → (S → Prop) → Prop
  | [], s, K => K s
  | o :: os, s, K => match o.op, o.guard with
    | .pick c a b, none => pickR (bareB s c) (opnd s a) (opnd s b) [a] [b] s fun v => opsW dr all os (s.put o.dst v) K
    | .pick c a b, some jw => pickG (grd all s (some jw)) (opnd s c) (opnd s a) (opnd s b) [c] [a] [b] s fun v => opsW dr all os (s.put o.dst v) K
    | op, none => stepR dr o.dst (opR E s o.type op) op.operands.toList s fun s' => opsW dr all os s' K
    | op, some jw => stepG dr (grd all s (some jw)) o.dst (opR E s o.type op) op.operands.toList s fun s' => opsW dr all os s' K
def seeL (s : S) : V → V
  | .own t => match s.R t with
    | some r => .lst (norms r.xs)
    | none => .bad
  | .sub t i o => match s.nest t i o with
    | some p => .lst (norms p.2)
    | none => .bad
  | .oadr _ _ _ _ => .bad
  | .sadr _ _ _ _ _ _ => .bad
  | v => v
def S.see (s : S) : S := { s.mapE (seeL s) with R := fun _ => none, nt := 0 }
def pureOp (E : Env) (s : S) (o : Oper) : Prop :=
  match o.op with
  | .pick _ _ _ => True
  | .call c => match c.callee with
    | .builtin .len => (opR E s o.type (.call c)).p = true
    | _ => False
  | op => (opR E s o.type op).p = true
def flatC : V → V
  | .cnd g v => if flatV v = true then .cnd g v else .cnd g .bad
  | .tup [] => .tup []
  | v => if flatV v = true then v else .bad
def planW (all : Array Oper) : List (Nat × Bool) → S → S → (S → Prop) → Prop
  | [], u, _, K => K u
  | (i, false) :: pl, u, s, K => match all[i]? with
    | some o => pureOp E u o ∧ opsW E true all [o] u fun u' => match o.dst with
      | some d => planW all pl u' (s.put (some d) (u'.e d)) K
      | none => planW all pl u' s K
    | none => False
  | (i, true) :: pl, u, s, K => match all[i]? with
    | some o => opsW E false all [o] s fun s' => match o.dst with
      | some d => planW all pl (u.put (some d) (flatC (s'.e d))) s' K
      | none => planW all pl u s' K
    | none => False
def S.after (s u : S) (all : Array Oper) : S := { s with e := fun x => if all.any (fun o => o.dst == some x) then flatC (u.e x) else s.e x }
def preW (all : Array Oper) : List (Nat × Bool) → S → (S → Prop) → Prop
  | [], u, K => K u
  | (i, b) :: pl, u, K => match all[i]? with
    | some o => (b = false → pureOp E u o) ∧ opsW E true all [o] u fun u' => preW all pl u' K
    | none => False
def memW (all : Array Oper) (q : Bool) (i : Nat) (s : S) (K : S → Prop) : Prop :=
  match all[i]? with
  | some o => opsW E q all [o] s K
  | none => False
def rigW (all : Array Oper) (i : Nat) (s : S) (K : S → Prop) : Prop :=
  match all[i]? with
  | some o => pureOp E s o ∧ opsW E true all [o] s K
  | none => False
def treeW (all : Array Oper) : TT → S → (S → Prop) → Prop
  | .done, s, K => K s
  | .one q i k, s, K => memW E all q i s fun s' => treeW all k s' K
  | .two q i a q' j b, s, K => memW E all q i s (fun s' => treeW all a s' K) ∧ memW E all q' j s (fun s' => treeW all b s' K)
  | .three q i a q' j b q'' l d, s, K => memW E all q i s (fun s' => treeW all a s' K) ∧ memW E all q' j s (fun s' => treeW all b s' K) ∧ memW E all q'' l s (fun s' => treeW all d s' K)
  | .bare k, s, K => treeW all k s.bareK fun s' => K (joinS s s')
  | .rig i k, s, K => rigW E all i s fun s' => treeW all k s' K
def cutL (p : Pl) : List (Nat × Bool) := p.rg.map (fun i => (i, false)) ++ p.pr
def codeW : Code → S → (X → S → Prop) → Prop
  | .skip, s, K => K .normal s
  | .region id ops dr, s, K => match dr, E.pln id, E.plan id with
    | true, some p, _ => preW E ops (cutL p) s fun u => treeW E ops p.tt u (K .normal)
    | true, none, some pl => planW E ops pl s.see { s.see with B := fun _ => none } fun u => K .normal (s.after u ops)
    | dr, _, _ => opsW E dr ops ops.toList s (K .normal)
  | .seq a b, s, K => codeW a s fun x s' => match x with
    | .normal => codeW b s' K
    | x => K x s'
  | .cond c a b, s, K => match opnd s c with
    | .bool v => needs true s [c] ∧ (if v = true then codeW a s K else codeW b s K)
    | .anyB => needs true s [c] ∧ codeW a s K ∧ codeW b s K
    | _ => False
  | .block id c, s, K => codeW c s fun x s' => match x with
    | .exit id' => if id' = id then K .normal s' else K (.exit id') s'
    | x => K x s'
  | .loop c, s, K => ∀ I : S → Prop, (∀ s', codeW c s' (fun x s'' => match x with | .normal => I s'' | x => K x s'') → I s') → I s
  | .exit id, s, K => K (.exit id) s
  | .ret, s, K => K .ret s
  | _, _, _ => False
inductive Fr where
  | code (c : Code)
  | ops (dr : Bool) (all : Array Oper) (os : List Oper)
  | blk (id : Nat)
  | lp (c : Code)
def kont : List Fr → (X → S → Prop) → X → S → Prop
  | [], Q, x, s => Q x s
  | .code c :: k, Q, .normal, s => codeW E c s (kont k Q)
  | .ops dr all os :: k, Q, .normal, s => opsW E dr all os s (kont k Q .normal)
  | .blk id :: k, Q, .exit id', s => if id' = id then kont k Q .normal s else kont k Q (.exit id') s
  | .lp c :: k, Q, .normal, s => codeW E (.loop c) s (kont k Q)
  | _ :: k, Q, x, s => kont k Q x s
end
def S.zero : S := ⟨fun _ => .tup [], fun _ => none, fun _ => none, 0, 0⟩
def adCs : List V → S → List V × S
  | [], s => ([], s)
  | v :: vs, s => ((adC v s).1 :: (adCs vs (adC v s).2).1, (adCs vs (adC v s).2).2)
def start (args cs : List V) : S :=
  let a := adCs args S.zero
  let b := adCs cs a.2
  { b.2 with e := fun x => a.1.getD x (.tup []), B := fun i => b.1[i]?, nb := cs.length }
def resR (E : Env) (s : S) : ResultVar → R
  | .tmp t => .ok (st (s.e t)) s
  | .cell a t => loadR E t (st (s.e a)) s
def isTup : V → Bool
  | .tup _ => true
  | _ => false
def resN (s : S) : ResultVar → Prop
  | .tmp t => needs true s [.tmp t]
  | .cell a t => needs true s [.tmp a]
def resOf (E : Env) (f : Func) (s : S) : V :=
  match f.results.toList.map (resR E s) with
  | [r] => r.v
  | rs => .tup (rs.map (·.v))
def S.outR (s : S) (k : Nat) : V := match s.R k with
  | some ⟨z, xs, true⟩ => .inl z xs
  | _ => .bad
def isBad : V → Bool
  | .bad => true
  | _ => false
def resToks1 (s : S) : V → List Nat
  | .ptr b _ => s.boxToks b
  | v => (toks1 v).filter s.wrT
def resToks (s : S) : V → List Nat
  | .tup xs => xs.flatMap (resToks1 s)
  | v => resToks1 s v
def resBoxes : V → List Nat
  | .tup xs => xs.flatMap boxesL
  | v => boxesL v
def EndsC (E : Env) (f : Func) (s : S) : Prop := ∀ v ∈ f.results.toList, resN s v ∧ (resR E s v).c ∧ isTup (resR E s v).v = false
def liveOuts (s : S) : Nat → List V → List Nat
  | _, [] => []
  | k, o :: os => if isBad o = true then liveOuts s (k + 1) os else k :: liveOuts s (k + 1) os
def outsOk (s : S) : Nat → List V → Prop
  | _, [] => True
  | k, o :: os => (isBad o = true ∨ s.outR k = o) ∧ outsOk s (k + 1) os
def boxOuts (s : S) (n : Nat) : List V := (List.range n).map s.cont
def EndsG (E : Env) (f : Func) (k : Nat) (a : Ans) (x : X) (s : S) : Prop :=
  match x with
  | .exit _ => False
  | _ => (EndsC E f s ∧ (resToks s (resOf E f s) ++ liveOuts s 0 a.outs ++ (List.range k).flatMap s.boxToks).Nodup ∧ (resBoxes (resOf E f s)).Nodup ∧
      (a.sh = false → noL a.r = true ∧ noLs a.outs = true) ∧ ((List.range k).all fun i => (s.B i).isSome) = true) ∧ outsOk s 0 a.outs ∧ boxOuts s k = a.boxes ∧ closeR s k (resOf E f s) = a.r
def FunW (E : Env) (f : Func) (args : List V) (sh : Bool) (r : V) : Prop :=
  match f.body with
  | some c => codeW E c (start args []) (EndsG E f 0 ⟨sh, r, [], []⟩)
  | none => False
def FunG (E : Env) (f : Func) (args cs : List V) (a : Ans) : Prop :=
  match f.body with
  | some c => codeW E c (start args cs) (EndsG E f cs.length a)
  | none => False
end Go.TM
end
section
namespace Go.TM
def All2 {α β : Type} (R : α → β → Prop) : List α → List β → Prop
  | [], [] => True
  | a :: as, b :: bs => R a b ∧ All2 R as bs
  | _, _ => False
section
variable {α β : Type} {R R' : α → β → Prop}
theorem All2.length : ∀ {as : List α} {bs : List β}, All2 R as bs → as.length = bs.length
  | [], [], _ => rfl
  | _ :: _, _ :: _, h => by simp [All2.length h.2]
theorem All2.get : ∀ {as : List α} {bs : List β}, All2 R as bs → ∀ (i : Nat) (a : α), as[i]? = some a → ∃ b, bs[i]? = some b ∧ R a b
  | [], [], _, i, a, h => by simp at h
  | _ :: _, _ :: _, h, 0, a, ha => by
    simp at ha
    subst ha
    exact ⟨_, rfl, h.1⟩
  | _ :: _, _ :: _, h, i + 1, a, ha => by simpa using All2.get h.2 i a (by simpa using ha)
theorem All2.of_get : ∀ {as : List α} {bs : List β}, as.length = bs.length → (∀ (i : Nat) (a : α) (b : β), as[i]? = some a → bs[i]? = some b → R a b) → All2 R as bs
  | [], [], _, _ => trivial
  | [], _ :: _, h, _ => by simp at h
  | _ :: _, [], h, _ => by simp at h
  | a :: as, b :: bs, h, hg => ⟨hg 0 a b rfl rfl, All2.of_get (by simpa using h) fun i a b h1 h2 => hg (i + 1) a b (by simpa using h1) (by simpa using h2)⟩
theorem All2.imp (hR : ∀ a b, R a b → R' a b) : ∀ {as : List α} {bs : List β}, All2 R as bs → All2 R' as bs
  | [], [], _ => trivial
  | _ :: _, _ :: _, h => ⟨hR _ _ h.1, All2.imp hR h.2⟩
theorem All2.imp_mem : ∀ {as : List α} {bs : List β}, (∀ a b, a ∈ as → R a b → R' a b) → All2 R as bs → All2 R' as bs
  | [], [], _, _ => trivial
  | _ :: _, _ :: _, hR, h => ⟨hR _ _ (by simp) h.1, All2.imp_mem (fun a b ha => hR a b (by simp [ha])) h.2⟩
theorem All2.append : ∀ {as : List α} {bs : List β} {as' : List α} {bs' : List β}, All2 R as bs → All2 R as' bs' → All2 R (as ++ as') (bs ++ bs')
  | [], [], _, _, _, h => h
  | _ :: _, _ :: _, _, _, h, h' => ⟨h.1, All2.append h.2 h'⟩
theorem All2.take : ∀ (n : Nat) {as : List α} {bs : List β}, All2 R as bs → All2 R (as.take n) (bs.take n)
  | 0, _, _, _ => by simp [All2]
  | n + 1, [], [], _ => trivial
  | n + 1, _ :: _, _ :: _, h => ⟨h.1, All2.take n h.2⟩
theorem All2.drop : ∀ (n : Nat) {as : List α} {bs : List β}, All2 R as bs → All2 R (as.drop n) (bs.drop n)
  | 0, _, _, h => h
  | n + 1, [], [], _ => trivial
  | n + 1, _ :: _, _ :: _, h => All2.drop n h.2
theorem All2.map {γ δ : Type} {S : γ → δ → Prop} (f : α → γ) (g : β → δ) (hf : ∀ a b, R a b → S (f a) (g b)) : ∀ {as : List α} {bs : List β}, All2 R as bs → All2 S (as.map f) (bs.map g)
  | [], [], _ => trivial
  | _ :: _, _ :: _, h => ⟨hf _ _ h.1, All2.map f g hf h.2⟩
end
inductive Root where
  | tok (t : Nat)
  | box (b : Nat)
  deriving DecidableEq
inductive FR (W : World) (F : Nat → Prop) : V → Value → Prop
  | int (k : IntKind) (n : Int) : FR W F (.int k n) (.int k n)
  | bool (b : Bool) : FR W F (.bool b) (.bool b)
  | str (s : ByteArray) : FR W F (.str s) (.string s)
  | raw (h : Hdr) : FR W F (.raw h) h.val
  | nil (A : Option Addr) (c : Nat) : FR W F (.lst []) (.slice A 0 c)
  | lst (xs : List V) (b o c sz : Nat) (u : Nat → Nat → Value) (hF : F b) (hn : xs.length ≤ c) (hm : xs.length ≤ maxLen)
      (hs : ∀ e ∈ xs, (leaves e).length = sz)
      (hc : ∀ j i l, leafAt xs j i = some l → W.cell? ⟨b, o + j * sz + i, none⟩ = some (u j i))
      (hl : ∀ j i l, leafAt xs j i = some l → FR W F (vw l) (u j i)) : FR W F (.lst xs) (.slice (some ⟨b, o, none⟩) xs.length c)
inductive OwnN (W : World) (F : Nat → Prop) : (Nat → Prop) → Nat → Value → List V → Prop
  | nil (B : Nat → Prop) (sz : Nat) (A : Option Addr) : OwnN W F B sz (.slice A 0 0) []
  | row (B : Nat → Prop) (sz : Nat) (xs : List V) (b o c : Nat) (cs : Array Value) (ty : TypeId) (u : Nat → Nat → Value) (Bs : Nat → Nat → Nat → Prop)
      (hB : B b) (hBs : ∀ j i x, Bs j i x → B x ∧ x ≠ b) (hd : ∀ j i j' i' x, Bs j i x → Bs j' i' x → j = j' ∧ i = i')
      (hb : W.heap[b]? = some (.cells cs ty (0, 0))) (hn : xs.length ≤ c) (hm : c ≤ maxLen) (hcs : cs.size = o + c * sz)
      (hs : ∀ e ∈ xs, (leaves e).length = sz)
      (hc : ∀ j i l, leafAt xs j i = some l → cs[o + j * sz + i]? = some (u j i))
      (hl : ∀ j i l, leafAt xs j i = some l → (∀ z ys, l ≠ .inl z ys) → FR W F l (u j i))
      (hN : ∀ j i z ys, leafAt xs j i = some (.inl z ys) → OwnN W F (Bs j i) z (u j i) ys) :
      OwnN W F B sz (.slice (some ⟨b, o, none⟩) xs.length c) xs
structure Mem where
  F : Nat → Prop
  ω : Nat → Option Root
  β : Nat → Nat
  ρ : Nat → Value
  σ : Nat → Nat → Nat → Value
  nt : Nat
  nb : Nat
def LadR (F : Nat → Prop) (W : World) (xs : List V) (i off : Nat) (v : Value) : Prop :=
  ∃ b o c sz, FR W F (.lst xs) (.slice (some ⟨b, o, none⟩) xs.length c) ∧ (∀ e ∈ xs, (leaves e).length = sz) ∧
      (∀ j i l, leafAt xs j i = some l → ∃ u, W.cell? ⟨b, o + j * sz + i, none⟩ = some u ∧ FR W F (vw l) u) ∧ i < xs.length ∧ v = .pointer (some ⟨b, o + i * sz + off, none⟩)
def CapR (M : Mem) (W : World) (x : V) (y : Value) : Prop :=
  (∃ b off, x = .ptr b off ∧ b < M.nb ∧ y = .pointer (some ⟨M.β b, off, none⟩)) ∨ ∃ xs i off, x = .ladr xs i off ∧ LadR M.F W xs i off y
def SRL (M : Mem) (W : World) : V → Value → Prop
  | .int k n, v => v = .int k n
  | .bool b, v => v = .bool b
  | .str s, v => v = .string s
  | .raw h, v => v = h.val
  | .lst xs, v => FR W M.F (.lst xs) v
  | .inl _ xs, v => xs = [] ∧ ∃ A, v = .slice A 0 0
  | .own t, v => t < M.nt ∧ v = M.ρ t
  | .ladr xs i off, v => LadR M.F W xs i off v
  | .oadr t sz i off, v => t < M.nt ∧ ∃ b o n c, M.ρ t = .slice (some ⟨b, o, none⟩) n c ∧ v = .pointer (some ⟨b, o + i * sz + off, none⟩)
  | .sub t i off, v => t < M.nt ∧ v = M.σ t i off
  | .sadr t i off sz j p, v => t < M.nt ∧ ∃ b o n c, M.σ t i off = .slice (some ⟨b, o, none⟩) n c ∧ v = .pointer (some ⟨b, o + j * sz + p, none⟩)
  | .ptr b off, v => b < M.nb ∧ v = .pointer (some ⟨M.β b, off, none⟩)
  | .fn f caps, v => ∃ cs : List Value, v = .func (.func f) #[] cs.toArray ∧ All2 (CapR M W) caps cs
  | .nilp, v => v = .pointer none
  | .nili, v => v = .nilIface
  | .anyB, v => ∃ b, v = .bool b
  | .bad, _ => True
  | _, _ => False
def SR1 (M : Mem) (W : World) : V → Value → Prop
  | .agg xs, v => ∃ vs : List Value, v = .agg vs.toArray ∧ All2 (SRL M W) xs vs
  | x, v => SRL M W x v
def SR2 (M : Mem) (W : World) : V → Value → Prop
  | .tup xs, v => ∃ vs : List Value, v = .tuple vs.toArray ∧ All2 (SR1 M W) xs vs
  | x, v => SR1 M W x v
def SR (M : Mem) (W : World) : V → Value → Prop
  | .cnd g x, v => if g = true then SR2 M W x v else v = undef
  | x, v => SR2 M W x v
theorem FR.mono {W W' : World} {F F' : Nat → Prop} {x : V} {v : Value} (h : FR W F x v) (hW : ∀ b, F b → W'.heap[b]? = W.heap[b]?) (hF : ∀ b, F b → F' b) : FR W' F' x v := by
  induction h with
  | int k n => exact .int k n
  | bool b => exact .bool b
  | str s => exact .str s
  | raw h => exact .raw h
  | nil A c => exact .nil A c
  | lst xs b o c sz u hFb hn hm hs hc hl ih =>
    refine .lst xs b o c sz u (hF _ hFb) hn hm hs (fun j i l h => ?_) ih
    rw [World.cell?_of_block (hW b hFb)]
    exact hc j i l h
theorem LadR.mono {W W' : World} {F F' : Nat → Prop} {xs : List V} {i off : Nat} {v : Value} (hs : LadR F W xs i off v) (hW : ∀ b, F b → W'.heap[b]? = W.heap[b]?) (hF : ∀ b, F b → F' b) : LadR F' W' xs i off v := by
  obtain ⟨b, o, c, sz, hf, hs, hc, hi, rfl⟩ := hs
  refine ⟨b, o, c, sz, hf.mono hW hF, hs, fun j k l hl => ?_, hi, rfl⟩
  obtain ⟨u, hu, hr⟩ := hc j k l hl
  refine ⟨u, ?_, hr.mono hW hF⟩
  have hFb : F b := by
    cases hf with
    | nil => simp at hi
    | lst _ _ _ _ _ _ hF => exact hF
  rw [World.cell?_of_block (hW b hFb)]
  exact hu
theorem OwnN.mono {W W' : World} {F F' : Nat → Prop} {B : Nat → Prop} {sz : Nat} {v : Value} {xs : List V} (h : OwnN W F B sz v xs)
    (hW : ∀ b, F b → W'.heap[b]? = W.heap[b]?) (hF : ∀ b, F b → F' b) : ∀ {B' : Nat → Prop}, (∀ b, B b → B' b ∧ W'.heap[b]? = W.heap[b]?) → OwnN W' F' B' sz v xs := by
  induction h with
  | nil B sz A => intro B' _; exact .nil B' sz A
  | row B sz xs b o c cs ty u Bs hB hBs hd hb hn hm hcs hs hc hl hN ih =>
    intro B' hB'
    exact .row B' sz xs b o c cs ty u Bs (hB' b hB).1 (fun j i x hx => ⟨(hB' x (hBs j i x hx).1).1, (hBs j i x hx).2⟩) hd ((hB' b hB).2.trans hb) hn hm hcs hs hc (fun j i l h1 h2 => (hl j i l h1 h2).mono hW hF)
      fun j i z ys h1 => ih j i z ys h1 fun x hx => ⟨hx, (hB' x (hBs j i x hx).1).2⟩
theorem OwnN.head {W : World} {F B : Nat → Prop} {sz : Nat} {v : Value} {xs : List V} (h : OwnN W F B sz v xs) {b o n c : Nat} (hv : v = .slice (some ⟨b, o, none⟩) n c) (hx : xs ≠ []) : B b ∧ n = xs.length := by
  cases h with
  | nil => exact absurd rfl hx
  | row =>
    cases hv
    exact ⟨by assumption, rfl⟩
theorem leafAt_ne {xs : List V} {j i : Nat} {l : V} (h : leafAt xs j i = some l) : xs ≠ [] := by
  rintro rfl
  simp [leafAt] at h
structure Keep (M : Mem) (W : World) (M' : Mem) (W' : World) : Prop where
  F : ∀ b, M.F b → M'.F b
  FW : ∀ b, M.F b → W'.heap[b]? = W.heap[b]?
  ρ : ∀ t, t < M.nt → M'.ρ t = M.ρ t
  σ : ∀ t i o, t < M.nt → M'.σ t i o = M.σ t i o
  β : ∀ b, b < M.nb → M'.β b = M.β b
  nt : M.nt ≤ M'.nt
  nb : M.nb ≤ M'.nb
theorem Keep.refl (M : Mem) (W : World) : Keep M W M W :=
  ⟨fun _ h => h, fun _ _ => rfl, fun _ _ => rfl, fun _ _ _ _ => rfl, fun _ _ => rfl, Nat.le_refl _, Nat.le_refl _⟩
theorem Keep.trans {M M' M'' : Mem} {W W' W'' : World} (h : Keep M W M' W') (h' : Keep M' W' M'' W'') : Keep M W M'' W'' where
  F b hb := h'.F b (h.F b hb)
  FW b hb := (h'.FW b (h.F b hb)).trans (h.FW b hb)
  ρ t ht := (h'.ρ t (Nat.lt_of_lt_of_le ht h.nt)).trans (h.ρ t ht)
  σ t i o ht := (h'.σ t i o (Nat.lt_of_lt_of_le ht h.nt)).trans (h.σ t i o ht)
  β t ht := (h'.β t (Nat.lt_of_lt_of_le ht h.nb)).trans (h.β t ht)
  nt := Nat.le_trans h.nt h'.nt
  nb := Nat.le_trans h.nb h'.nb
section
variable {M M' : Mem} {W W' : World} (h : Keep M W M' W') {x : V} {v : Value}
include h
theorem Keep.leaf (hs : SRL M W x v) : SRL M' W' x v := by
  cases x with
  | lst xs => exact hs.mono h.FW h.F
  | own t =>
    obtain ⟨ht, rfl⟩ := hs
    exact ⟨Nat.lt_of_lt_of_le ht h.nt, (h.ρ t ht).symm⟩
  | ladr xs i off => exact LadR.mono hs h.FW h.F
  | oadr t sz i off =>
    obtain ⟨ht, b, o, n, c, hρ, rfl⟩ := hs
    exact ⟨Nat.lt_of_lt_of_le ht h.nt, b, o, n, c, (h.ρ t ht).trans hρ, rfl⟩
  | sub t i off =>
    obtain ⟨ht, rfl⟩ := hs
    exact ⟨Nat.lt_of_lt_of_le ht h.nt, (h.σ t i off ht).symm⟩
  | sadr t i off sz j p =>
    obtain ⟨ht, b, o, n, c, hσ, rfl⟩ := hs
    exact ⟨Nat.lt_of_lt_of_le ht h.nt, b, o, n, c, (h.σ t i off ht).trans hσ, rfl⟩
  | ptr b off =>
    obtain ⟨hb, rfl⟩ := hs
    exact ⟨Nat.lt_of_lt_of_le hb h.nb, by rw [h.β b hb]⟩
  | fn f caps =>
    obtain ⟨cs, rfl, hc⟩ := hs
    refine ⟨cs, rfl, hc.imp ?_⟩
    rintro a b (⟨k, off, rfl, hk, rfl⟩ | ⟨xs, i, off, rfl, hl⟩)
    · exact .inl ⟨k, off, rfl, Nat.lt_of_lt_of_le hk h.nb, by rw [h.β k hk]⟩
    · exact .inr ⟨xs, i, off, rfl, hl.mono h.FW h.F⟩
  | _ => exact hs
theorem Keep.leaves {xs : List V} {vs : List Value} (hs : All2 (SRL M W) xs vs) : All2 (SRL M' W') xs vs := hs.imp fun _ _ hv => h.leaf hv
theorem Keep.one (hs : SR1 M W x v) : SR1 M' W' x v := by
  cases x with
  | agg xs =>
    obtain ⟨vs, rfl, ha⟩ := hs
    exact ⟨vs, rfl, h.leaves ha⟩
  | _ => simp only [SR1] at hs ⊢; exact h.leaf hs
theorem Keep.two (hs : SR2 M W x v) : SR2 M' W' x v := by
  cases x with
  | tup xs =>
    obtain ⟨vs, rfl, ha⟩ := hs
    exact ⟨vs, rfl, ha.imp fun _ _ hv => h.one hv⟩
  | _ => simp only [SR2] at hs ⊢; exact h.one hs
theorem Keep.all (hs : SR M W x v) : SR M' W' x v := by
  cases x with
  | cnd g x =>
    simp only [SR] at hs ⊢
    split
    · rename_i hg
      rw [if_pos hg] at hs
      exact h.two hs
    · rename_i hg
      rw [if_neg hg] at hs
      exact hs
  | _ => simp only [SR] at hs ⊢; exact h.two hs
end
def Row (M : Mem) (W : World) (t : Nat) (r : Rw) : Prop :=
  (r.wr = true ∧ ∃ B, OwnN W M.F B r.sz (M.ρ t) r.xs ∧ (∀ b, B b → M.ω b = some (.tok t)) ∧
    ∀ j i z ys, leafAt r.xs j i = some (.inl z ys) → ∀ b o n c, M.ρ t = .slice (some ⟨b, o, none⟩) n c → W.cell? ⟨b, o + j * r.sz + i, none⟩ = some (M.σ t j i)) ∨
  (r.wr = false ∧ FR W M.F (.lst r.xs) (M.ρ t) ∧ ∀ e ∈ r.xs, (leaves e).length = r.sz)
theorem Keep.row {M M' : Mem} {W W' : World} (h : Keep M W M' W') {t : Nat} {r : Rw} (ht : t < M.nt) (hω : r.wr = true → ∀ b, M.ω b = some (.tok t) → M'.ω b = some (.tok t) ∧ W'.heap[b]? = W.heap[b]?) (hr : Row M W t r) : Row M' W' t r := by
  rcases hr with ⟨hw, B, h1, h2, h3⟩ | ⟨hw, h1, h2⟩
  · refine .inl ⟨hw, B, ?_, fun b hb => (hω hw b (h2 b hb)).1, fun j i z ys hl b o n c hρ => ?_⟩
    · rw [h.ρ t ht]
      exact h1.mono h.FW h.F fun b hb => ⟨hb, (hω hw b (h2 b hb)).2⟩
    · rw [h.ρ t ht] at hρ
      have hb : B b := (h1.head hρ (leafAt_ne hl)).1
      rw [h.σ t j i ht, World.cell?_of_block (hω hw b (h2 b hb)).2]
      exact h3 j i z ys hl b o n c hρ
  · refine .inr ⟨hw, ?_, h2⟩
    rw [h.ρ t ht]
    exact h1.mono h.FW h.F
structure MemOK (M : Mem) (W : World) (s : S) : Prop where
  nt : M.nt = s.nt
  nb : M.nb = s.nb
  box : ∀ b c, s.B b = some c → b < M.nb ∧ ∃ (cs : Array Value) (ty : TypeId), W.heap[M.β b]? = some (.cells cs ty (0, 0)) ∧ M.ω (M.β b) = some (.box b) ∧ All2 (SRL M W) (leaves c) cs.toList
  row : ∀ t r, s.R t = some r → t < M.nt ∧ Row M W t r
  frz : ∀ b, M.F b → M.ω b = none ∧ b < W.heap.size
  lt : ∀ b l, M.ω b = some l → b < W.heap.size
  tok : ∀ b t, M.ω b = some (.tok t) → t < M.nt
  bx : ∀ b k, M.ω b = some (.box k) → k < M.nb
structure St (n : Nat) (M : Mem) (W : World) (s : S) (a : Act) : Prop where
  size : a.tmps.size = n
  defers : a.defers = []
  slot : ∀ x, x < n → SR M W (s.e x) (a.tmps.getD x undef)
  mem : MemOK M W s
theorem MemOK.slots {M : Mem} {W : World} {s : S} (h : MemOK M W s) (e : Nat → V) : MemOK M W { s with e := e } := ⟨h.nt, h.nb, h.box, h.row, h.frz, h.lt, h.tok, h.bx⟩
structure Evo (M : Mem) (W : World) (M' : Mem) (W' : World) : Prop where
  os : W'.os = W.os
  tape : W'.tape = W.tape
  output : W'.output = W.output
  size : W.heap.size ≤ W'.heap.size
  old : ∀ b, b < W.heap.size → M.ω b = none → W'.heap[b]? = W.heap[b]?
  lab : ∀ b l, M'.ω b = some l → M.ω b ≠ none ∨ W.heap.size ≤ b
  frz : ∀ b, M'.F b → M.F b ∨ M.ω b ≠ none ∨ W.heap.size ≤ b
  frz0 : ∀ b, M.F b → M'.F b
  nt : M.nt ≤ M'.nt
  nb : M.nb ≤ M'.nb
  ρ : ∀ t, t < M.nt → M'.ρ t = M.ρ t
  β : ∀ b, b < M.nb → M'.β b = M.β b
theorem Evo.refl (M : Mem) (W : World) : Evo M W M W := ⟨rfl, rfl, rfl, Nat.le_refl _, fun _ _ _ => rfl, fun _ _ h => .inl (by simp [h]), fun _ h => .inl h, fun _ h => h, Nat.le_refl _, Nat.le_refl _, fun _ _ => rfl, fun _ _ => rfl⟩
theorem Evo.trans {M M' M'' : Mem} {W W' W'' : World} (h : Evo M W M' W') (k : Evo M' W' M'' W'') : Evo M W M'' W'' where
  os := k.os.trans h.os
  tape := k.tape.trans h.tape
  output := k.output.trans h.output
  size := Nat.le_trans h.size k.size
  old b hb hω := by
    have : M'.ω b = none := by
      cases e : M'.ω b with
      | none => rfl
      | some l =>
        rcases h.lab b l e with h1 | h1
        · exact absurd hω h1
        · omega
    exact (k.old b (Nat.lt_of_lt_of_le hb h.size) this).trans (h.old b hb hω)
  lab b l hl := by
    rcases k.lab b l hl with h1 | h1
    · cases e : M'.ω b with
      | none => exact absurd e h1
      | some l' => exact h.lab b l' e
    · exact .inr (Nat.le_trans h.size h1)
  frz b hb := by
    rcases k.frz b hb with h1 | h1 | h1
    · exact h.frz b h1
    · cases e : M'.ω b with
      | none => exact absurd e h1
      | some l' => exact .inr (h.lab b l' e)
    · exact .inr (.inr (Nat.le_trans h.size h1))
  frz0 b hb := k.frz0 b (h.frz0 b hb)
  nt := Nat.le_trans h.nt k.nt
  nb := Nat.le_trans h.nb k.nb
  ρ t ht := (k.ρ t (Nat.lt_of_lt_of_le ht h.nt)).trans (h.ρ t ht)
  β t ht := (k.β t (Nat.lt_of_lt_of_le ht h.nb)).trans (h.β t ht)
end Go.TM
end
section
namespace Go.TM
open Go
def zL : V → Value → Prop
  | .int k n, v => v = .int k n
  | .bool b, v => v = .bool b
  | .str s, v => v = .string s
  | .inl _ xs, v => xs = [] ∧ v = .slice none 0 0
  | .nilp, v => v = .pointer none
  | .nili, v => v = .nilIface
  | .raw h, v => v = h.val
  | _, _ => False
def zR : V → Value → Prop
  | .agg xs, v => ∃ vs : List Value, v = .agg vs.toArray ∧ All2 zL xs vs
  | x, v => zL x v
structure TiOK (P : Program) (t : TypeId) (i : TI) : Prop where
  info : ∃ f, P.info? t = some f ∧ f.size = i.sz ∧ f.bytes = i.by_ ∧ ∃ z, f.zero = some z ∧ zR i.z z
  ag : ∀ w, (isAgg t).run P w = .ok i.ag w
  zs : (leaves i.z).length = i.sz
structure StaOK (P : Program) (E : Env) : Prop where
  mixed : P.follows .mixedOrders = true
  ti : ∀ t i, E.ti t = some i → TiOK P t i
  el : ∀ t e, E.el t = some e → P.underlying t = some (.slice e)
  fld : ∀ t f o u, E.fld t f = some (o, u) → ∃ fs fd i, P.underlying t = some (.struct fs) ∧ fs[f]? = some fd ∧ fd.offset = o ∧ fd.type = u ∧ P.info? u = some i ∧ i.size ≠ 0
  str : ∀ t, E.str t = true → P.underlying t = some .string
  bol : ∀ t, E.bol t = true → P.underlying t = some .bool
  int : ∀ t k, E.int t = some k → P.underlying t = some (.int k)
  bld : ∀ t, E.bld t = true → ∃ (fs : Array Field) (places : List (Nat × Nat)), P.underlying t = some (.struct fs) ∧ fs.toList.mapM (fun f => (P.info? f.type).map fun i => (f.offset, i.size)) = some places
  ifc : ∀ t, E.ifc t = true → ∃ ms, P.underlying t = some (.interface ms)
  eqs : ∀ t ks, E.eqs t = some ks → P.eqGuardType P.depth t = false ∧ ∀ xs ys, sameKs ks xs = true → sameKs ks ys = true → ∀ w, (Op.equal t (.agg (xs.map valL).toArray) (.agg (ys.map valL).toArray)).run P w = .ok (eqLs xs ys) w
theorem run_und {P : Program} {t : TypeId} {d : TypeDesc} (h : P.underlying t = some d) (w : World) : (underlying t).run P w = .ok d w := by
  simp [underlying, h]
theorem TiOK.size {P : Program} {t : TypeId} {i : TI} (h : TiOK P t i) (w : World) : (sizeOf t).run P w = .ok i.sz w := by
  obtain ⟨f, hf, hs, -⟩ := h.info
  simp [sizeOf, typeInfo, hf, hs]
section
variable {n : Nat} {M : Mem} {W : World} {s : S} {a : Act}
def okOp (n : Nat) : Operand → Bool
  | .tmp t => decide (t < n)
  | _ => true
theorem cst0_sound (v : Value) : SRL M W (cst0 v) v := by
  unfold cst0
  split <;> simp [SRL]
theorem cst0_noAgg (v : Value) : ∀ ys, cst0 v ≠ .agg ys := by
  intro ys
  unfold cst0
  split <;> simp
theorem SR1_of_L {x : V} {v : Value} (hx : ∀ ys, x ≠ .agg ys) (h : SRL M W x v) : SR1 M W x v := by
  cases x <;> first | exact h | exact absurd rfl (hx _)
theorem cst_sound (v : Value) : SR1 M W (cst v) v := by
  cases v with
  | agg cs =>
    refine ⟨cs.toList, by simp, ?_⟩
    refine All2.of_get (by simp) fun i a b h1 h2 => ?_
    simp only [List.getElem?_map, h2, Option.map_some, Option.some.injEq] at h1
    subst h1
    exact cst0_sound b
  | _ =>
    simp only [cst]
    exact SR1_of_L (cst0_noAgg _) (cst0_sound _)
theorem opnd_sound (h : St n M W s a) {x : Operand} (hx : okOp n x = true) (hn : needs true s [x]) : SR2 M W (opnd s x) (a.eval x) := by
  cases x with
  | tmp t =>
    have ht : t < n := by simpa [okOp] using hx
    have hs := h.slot t ht
    simp only [opnd, Act.eval]
    simp only [needs, and_true] at hn
    cases he : s.e t with
    | cnd g v =>
      rw [he] at hs hn
      simp only [SR] at hs
      rw [if_pos (by simpa using hn)] at hs
      exact hs
    | _ => rw [he] at hs; exact hs
  | const v =>
    have := cst_sound (M := M) (W := W) v
    simp only [opnd, Act.eval]
    cases hc : cst v with
    | tup xs =>
      rw [hc] at this
      simp [SR1, SRL] at this
    | _ => rw [hc] at this; exact this
  | func f => exact ⟨[], rfl, trivial⟩
  | global g => exact trivial
theorem needs_cons {G : Bool} {x : Operand} {r : List Operand} : needs G s (x :: r) ↔ needs G s [x] ∧ needs G s r := by
  cases x <;> simp [needs]
theorem needs_mem {G : Bool} {us : List Operand} (h : needs G s us) {x : Operand} (hx : x ∈ us) : needs G s [x] := by
  induction us with
  | nil => cases hx
  | cons u us ih =>
    rw [needs_cons] at h
    cases hx with
    | head => exact h.1
    | tail _ hx => exact ih h.2 hx
theorem opnds_sound (h : St n M W s a) {us : List Operand} (hx : us.all (okOp n) = true) (hn : needs true s us) : All2 (SR2 M W) (us.map (opnd s)) (us.map a.eval) := by
  induction us with
  | nil => trivial
  | cons u us ih =>
    rw [needs_cons] at hn
    simp only [List.all_cons, Bool.and_eq_true] at hx
    exact ⟨opnd_sound h hx.1 hn.1, ih hx.2 hn.2⟩
theorem St.put (h : St n M W s a) {d : Nat} (hd : d < n) {x : V} {v : Value} (hv : SR M W x v) : St n M W (s.put (some d) x) (a.put (some d) v) where
  size := by simp [Act.put, h.size]
  defers := h.defers
  slot y hy := by
    simp only [S.put, Act.put]
    by_cases e : y = d
    · subst e
      simpa [Array.getD, h.size, hy] using hv
    · have := h.slot y hy
      simp only [e, if_false]
      simpa [Array.getD, h.size, hy, Array.getElem_setIfInBounds, Ne.symm e] using this
  mem := h.mem.slots _
theorem St.putO (h : St n M W s a) {d : Option Nat} (hd : d.all (fun d => decide (d < n)) = true) {x : V} {v : Value} (hv : SR M W x v) : St n M W (s.put d x) (a.put d v) := by
  cases d with
  | none => exact h
  | some d => exact h.put (by simpa using hd) hv
end
abbrev Cls (W w : World) : Prop := RowKit.Below W.heap.size W w
def Pur (P : Program) (M : Mem) (W : World) (s : S) (r : R) (x : Sem Value) : Prop :=
  r.c → r.s = s ∧ r.p = true ∧ ∃ val, (∀ w, Cls W w → x.run P w = .ok val w) ∧ SR2 M W r.v val
section
variable {P : Program} {E : Env} {M : Mem} {W : World} {s : S}
theorem Pur.no (x : Sem Value) : Pur P M W s (.no s) x := fun h => h.elim
theorem Pur.if_ {c : Prop} {v : V} {x : Sem Value} (h : c → ∃ val, (∀ w, Cls W w → x.run P w = .ok val w) ∧ SR2 M W v val) : Pur P M W s (.if_ c v s) x := fun hc => ⟨rfl, rfl, h hc⟩
theorem Pur.ok {v : V} {x : Sem Value} (h : ∃ val, (∀ w, Cls W w → x.run P w = .ok val w) ∧ SR2 M W v val) : Pur P M W s (.ok v s) x := fun _ => ⟨rfl, rfl, h⟩
theorem ba_inj {a b : ByteArray} (h : a.data.toList = b.data.toList) : a = b := by
  cases a; cases b
  simpa using Array.toList_inj.1 h
theorem ba_beq (a b : ByteArray) : (a.toList == b.toList) = decide (a = b) := by
  by_cases h : a = b
  · subst h
    simp
  · have h1 : ¬ a.toList = b.toList := by
      intro e
      rw [ByteArray.toList_eq, ByteArray.toList_eq] at e
      exact h (ba_inj e)
    rw [decide_eq_false h, beq_eq_false_iff_ne.2 h1]
theorem SR2_of_L {x : V} {v : Value} (h : SRL M W x v) : SR2 M W x v := by
  cases x <;> first | exact h | exact h.elim
def GuardOk (P : Program) (op : BinOp) (t : TypeId) (ox oy : Operand) (a b : Value) : Prop := ∀ w, (eqGuard op t ox oy a b).run P w = .ok () w
theorem Pur.guard {op : BinOp} {t : TypeId} {ox oy : Operand} {a b : Value} {r : R} (hg : GuardOk P op t ox oy a b) (h : Pur P M W s r (binOp op t a b)) :
    Pur P M W s r (do eqGuard op t ox oy a b; binOp op t a b) := by
  intro hc
  obtain ⟨h1, h2, val, h3, h4⟩ := h hc
  refine ⟨h1, h2, val, fun w hw => ?_, h4⟩
  rw [Sem.run_bind, hg]
  exact h3 w hw
theorem bin_int (op : BinOp) (t : TypeId) (ox oy : Operand) (k k' : IntKind) (a b : Int) :
    Pur P M W s (binR E op t (.int k a) (.int k' b) s) (do eqGuard op t ox oy (.int k a) (.int k' b); binOp op t (.int k a) (.int k' b)) := by
  refine Pur.guard (fun w => by cases op <;> rfl) ?_
  cases op
  case shl => exact Pur.if_ fun h => ⟨_, fun w _ => by simp [binOp, Op.shift, show ¬ b < 0 by omega], rfl⟩
  case shr => exact Pur.if_ fun h => ⟨_, fun w _ => by simp [binOp, Op.shift, show ¬ b < 0 by omega], rfl⟩
  case quo => exact Pur.if_ fun h => ⟨_, fun w _ => by obtain ⟨rfl, h0⟩ := h; simp [binOp, Op.intDiv, h0], rfl⟩
  case rem => exact Pur.if_ fun h => ⟨_, fun w _ => by obtain ⟨rfl, h0⟩ := h; simp [binOp, Op.intDiv, h0], rfl⟩
  all_goals first
    | exact Pur.if_ fun h => ⟨_, fun w _ => by obtain rfl := h; simp [binOp, Op.intArith, Op.intBits, Op.intCmp]; rfl, rfl⟩
    | exact Pur.if_ fun h => ⟨_, fun w _ => by obtain rfl := h; simp [binOp, Op.intArith, Op.intBits, Op.intCmp], rfl⟩
    | exact Pur.no _
theorem bin_str (op : BinOp) (t : TypeId) (ox oy : Operand) (a b : ByteArray) :
    Pur P M W s (binR E op t (.str a) (.str b) s) (do eqGuard op t ox oy (.string a) (.string b); binOp op t (.string a) (.string b)) := by
  refine Pur.guard (fun w => by cases op <;> rfl) ?_
  cases op
  case add => exact Pur.if_ fun h => ⟨_, fun w _ => by
    have hm : IntKind.i64.max = 9223372036854775807 := by decide
    have h0 : ¬ ((a.size + b.size : Nat) : Int) > IntKind.i64.max := by rw [hm]; omega
    simp only [binOp, Op.stringOp, h0, if_false, Sem.run_pure], rfl⟩
  case eql => exact Pur.ok ⟨_, fun w _ => by simp only [binOp, Op.stringOp, ba_beq, Sem.run_pure], rfl⟩
  case neq => exact Pur.ok ⟨_, fun w _ => by simp only [binOp, Op.stringOp, ba_beq, Sem.run_pure], rfl⟩
  case lss => exact Pur.ok ⟨_, fun w _ => by simp only [binOp, Op.stringOp, Sem.run_pure], rfl⟩
  case leq => exact Pur.ok ⟨_, fun w _ => by simp only [binOp, Op.stringOp, ba_beq, Sem.run_pure], rfl⟩
  case gtr => exact Pur.ok ⟨_, fun w _ => by simp only [binOp, Op.stringOp, ba_beq, Sem.run_pure], rfl⟩
  case geq => exact Pur.ok ⟨_, fun w _ => by simp only [binOp, Op.stringOp, Sem.run_pure], rfl⟩
  all_goals exact Pur.no _
theorem equalIn_bool (d : Nat) (t : TypeId) (ht : P.underlying t = some .bool) (a b : Bool) (w : World) : (Op.equalIn (d + 1) t (.bool a) (.bool b)).run P w = .ok (a == b) w := by
  unfold Op.equalIn
  rw [Sem.run_bind, run_und ht]
  rfl
theorem equal_bool (t : TypeId) (ht : P.underlying t = some .bool) (a b : Bool) (w : World) : (Op.equal t (.bool a) (.bool b)).run P w = .ok (a == b) w := equalIn_bool 9999 t ht a b w
theorem bin_bool (sta : StaOK P E) (op : BinOp) (t : TypeId) (ox oy : Operand) (a b : Bool) :
    Pur P M W s (binR E op t (.bool a) (.bool b) s) (do eqGuard op t ox oy (.bool a) (.bool b); binOp op t (.bool a) (.bool b)) := by
  refine Pur.guard (fun w => by cases op <;> rfl) ?_
  cases op
  case eql => exact Pur.if_ fun h => ⟨_, fun w _ => by
    show (do pure (Value.bool (← Op.equal t (.bool a) (.bool b))) : Sem Value).run P w = _
    rw [Sem.run_bind, equal_bool t (sta.bol t h)]; rfl, rfl⟩
  case neq => exact Pur.if_ fun h => ⟨_, fun w _ => by
    show (do pure (Value.bool (!(← Op.equal t (.bool a) (.bool b)))) : Sem Value).run P w = _
    rw [Sem.run_bind, equal_bool t (sta.bol t h)]; rfl, rfl⟩
  all_goals exact Pur.no _
theorem flat_val {x : V} {v : Value} (hf : flatL x = true) (h : SRL M W x v) : v = valL x := by
  cases x <;> first | exact h | simp [flatL] at hf
theorem sameK_flat {k x : V} (h : sameK k x = true) : flatL x = true := by
  cases k <;> cases x <;> first | rfl | simp [sameK] at h
theorem sameKs_vals : ∀ {ks xs : List V} {vs : List Value}, sameKs ks xs = true → All2 (SRL M W) xs vs → vs = xs.map valL
  | [], [], [], _, _ => rfl
  | k :: ks, x :: xs, v :: vs, hk, h => by
    simp only [sameKs, Bool.and_eq_true] at hk
    rw [List.map_cons, flat_val (sameK_flat hk.1) h.1, sameKs_vals hk.2 h.2]
  | [], _ :: _, _, hk, _ => by simp [sameKs] at hk
  | _ :: _, [], _, hk, _ => by simp [sameKs] at hk
theorem bin_agg (sta : StaOK P E) (op : BinOp) (t : TypeId) (ox oy : Operand) (xs ys : List V) (vs us : List Value) (hx : All2 (SRL M W) xs vs) (hy : All2 (SRL M W) ys us) :
    Pur P M W s (binR E op t (.agg xs) (.agg ys) s) (do eqGuard op t ox oy (.agg vs.toArray) (.agg us.toArray); binOp op t (.agg vs.toArray) (.agg us.toArray)) := by
  have key : ∀ op', (∃ ks, E.eqs t = some ks ∧ sameKs ks xs = true ∧ sameKs ks ys = true) → GuardOk P op' t ox oy (.agg vs.toArray) (.agg us.toArray) := by
    rintro op' ⟨ks, h1, h2, h3⟩ w
    have := (sta.eqs t ks h1).1
    unfold eqGuard
    cases op' <;> simp [this]
  have key2 : (∃ ks, E.eqs t = some ks ∧ sameKs ks xs = true ∧ sameKs ks ys = true) → ∀ w, (Op.equal t (.agg vs.toArray) (.agg us.toArray)).run P w = .ok (eqLs xs ys) w := by
    rintro ⟨ks, h1, h2, h3⟩ w
    rw [sameKs_vals h2 hx, sameKs_vals h3 hy]
    exact (sta.eqs t ks h1).2 xs ys h2 h3 w
  cases op
  case eql =>
    intro hc
    refine Pur.guard (key _ hc) (r := .if_ _ _ s) (Pur.if_ fun h => ⟨_, fun w _ => ?_, rfl⟩) hc
    show (do pure (Value.bool (← Op.equal t (.agg vs.toArray) (.agg us.toArray))) : Sem Value).run P w = _
    rw [Sem.run_bind, key2 h]; rfl
  case neq =>
    intro hc
    refine Pur.guard (key _ hc) (r := .if_ _ _ s) (Pur.if_ fun h => ⟨_, fun w _ => ?_, rfl⟩) hc
    show (do pure (Value.bool (!(← Op.equal t (.agg vs.toArray) (.agg us.toArray)))) : Sem Value).run P w = _
    rw [Sem.run_bind, key2 h]; rfl
  all_goals exact Pur.no _
theorem bin_sound (sta : StaOK P E) (op : BinOp) (t : TypeId) (ox oy : Operand) {x y : V} {a b : Value} (hx : SR2 M W x a) (hy : SR2 M W y b) :
    Pur P M W s (binR E op t x y s) (do eqGuard op t ox oy a b; binOp op t a b) := by
  unfold binR
  split
  · cases hx; cases hy
    exact bin_int op t ox oy _ _ _ _ (E := E)
  · cases hx; cases hy
    exact bin_str op t ox oy _ _ (E := E)
  · cases hx; cases hy
    exact bin_bool sta op t ox oy _ _
  · obtain ⟨vs, rfl, hx⟩ := hx
    obtain ⟨us, rfl, hy⟩ := hy
    exact bin_agg sta op t ox oy _ _ _ _ hx hy
  · exact Pur.no _
end
end Go.TM
end
section
namespace Go.TM
open Go
section
variable {P : Program} {E : Env} {M : Mem} {W : World} {s : S} {n : Nat} {a : Act}
noncomputable def fun_of {α : Type} (p : Nat → α → Prop) [Inhabited α] (k : Nat) : α := by
  classical exact if h : ∃ u, p k u then Classical.choose h else default
theorem fun_of_spec {α : Type} {p : Nat → α → Prop} [Inhabited α] {k : Nat} (h : ∃ u, p k u) : p k (fun_of p k) := by
  unfold fun_of
  rw [dif_pos h]
  exact Classical.choose_spec h
theorem add_eq (b o k : Nat) : (⟨b, o, none⟩ : Addr).add k = ⟨b, o + k, none⟩ := by
  unfold Addr.add
  by_cases h : k = 0 <;> simp [h]
def Reads (M : Mem) (W : World) (b base : Nat) (ls : List V) : Prop :=
  ∀ k l, ls[k]? = some l → ∃ u, (∀ w, Cls W w → w.cell? ⟨b, base + k, none⟩ = some u) ∧ SRL M W l u
theorem load_sound {t : TypeId} {tt : TI} {b base off : Nat} {ls : List V} {v : V} (hti : TiOK P t tt) (hr : Reads M W b base ls) (hg : getAt tt ls off = some v) :
    ∃ val, (∀ w, Cls W w → (Instr.loadAt t (.pointer (some ⟨b, base + off, none⟩))).run P w = .ok val w) ∧ SR2 M W v val := by
  have red : ∀ w, (Instr.loadAt t (.pointer (some ⟨b, base + off, none⟩))).run P w = (loadVar t ⟨b, base + off, none⟩).run P w := fun w => rfl
  unfold getAt at hg
  by_cases hag : tt.ag = true
  · rw [if_pos hag] at hg
    split at hg
    · rename_i hle
      simp only [Option.some.injEq] at hg
      subst hg
      let p : Nat → Value → Prop := fun k u => (∀ w, Cls W w → w.cell? ⟨b, base + k, none⟩ = some u) ∧ ∀ l, ls[k]? = some l → SRL M W l u
      have hp : ∀ k, k < ls.length → p k (fun_of p k) := fun k hk => fun_of_spec (by
        obtain ⟨u, h1, h2⟩ := hr k ls[k] (List.getElem?_eq_getElem hk)
        exact ⟨u, h1, fun l hl => by rw [List.getElem?_eq_getElem hk] at hl; cases hl; exact h2⟩)
      let cs : List Value := (List.range tt.sz).map fun j => fun_of p (off + j)
      refine ⟨.agg cs.toArray, fun w hw => ?_, cs, rfl, ?_⟩
      · rw [red]
        have h1 : (loadCells ⟨b, base + off, none⟩ cs.length).run P w = .ok cs.toArray w := by
          refine run_loadCells_list w _ _ fun j v hv => ?_
          have hj : j < tt.sz := by
            have := (List.getElem?_eq_some_iff.1 hv).1
            simpa [cs] using this
          have hv' : v = fun_of p (off + j) := by
            simp only [cs, List.getElem?_map, List.getElem?_range hj, Option.map_some, Option.some.injEq] at hv
            exact hv.symm
          rw [hv']
          have := (hp (off + j) (by omega)).1 w hw
          rw [add_eq, Nat.add_assoc]
          exact this
        have hl : cs.length = tt.sz := by simp [cs]
        rw [hl] at h1
        unfold loadVar
        rw [Sem.run_bind, hti.ag]
        simp only [hag, Result.andThen, if_true]
        rw [Sem.run_bind, hti.size]
        simp only [Result.andThen]
        rw [Sem.run_bind, h1]
        rfl
      · refine All2.of_get (by simp [cs]; omega) fun i l u h1 h2 => ?_
        have hi : i < tt.sz := by
          have := (List.getElem?_eq_some_iff.1 h2).1
          simpa [cs] using this
        have hu : u = fun_of p (off + i) := by
          simp only [cs, List.getElem?_map, List.getElem?_range hi, Option.map_some, Option.some.injEq] at h2
          exact h2.symm
        rw [hu]
        refine (hp (off + i) (by omega)).2 l ?_
        rw [List.getElem?_take_of_lt hi, List.getElem?_drop] at h1
        exact h1
    · cases hg
  · rw [if_neg hag] at hg
    obtain ⟨u, h1, h2⟩ := hr off v hg
    refine ⟨u, fun w hw => ?_, SR2_of_L h2⟩
    rw [red]
    unfold loadVar
    rw [Sem.run_bind, hti.ag]
    have hf : tt.ag = false := by simpa using hag
    simp only [hf, Result.andThen, Bool.false_eq_true, if_false]
    rw [run_load, h1 w hw]
theorem SRL_of_FR {x : V} {v : Value} (h : FR W M.F (vw x) v) : SRL M W (vw x) v := by
  generalize hy : vw x = y at *
  cases h with
  | int => exact rfl
  | bool => exact rfl
  | str => exact rfl
  | raw => exact rfl
  | nil A c => exact .nil A c
  | lst _ _ _ _ _ u hF hn hm hs hc hl => exact .lst _ _ _ _ _ u hF hn hm hs hc hl
theorem SRL_of_FR' {x : V} {v : Value} (h : FR W M.F x v) : SRL M W x v := by
  cases h with
  | int => exact rfl
  | bool => exact rfl
  | str => exact rfl
  | raw => exact rfl
  | nil A c => exact .nil A c
  | lst _ _ _ _ _ u hF hn hm hs hc hl => exact .lst _ _ _ _ _ u hF hn hm hs hc hl
theorem leafAt_eq {xs : List V} {j i : Nat} {l : V} (hj : j < xs.length) : leafAt xs j i = some l ↔ (leaves (xs.getD j .bad))[i]? = some l := by
  simp [leafAt, List.getElem?_eq_getElem hj, List.getD]
theorem FR.lt (h : St n M W s a) {b : Nat} (hb : M.F b) {w : World} (hw : Cls W w) (off : Nat) : w.cell? ⟨b, off, none⟩ = W.cell? ⟨b, off, none⟩ :=
  hw.cell (p := ⟨b, off, none⟩) (h.mem.frz b hb).2
theorem cell_own (h : St n M W s a) {b : Nat} {l : Root} (hb : M.ω b = some l) {w : World} (hw : Cls W w) (off : Nat) : w.cell? ⟨b, off, none⟩ = W.cell? ⟨b, off, none⟩ :=
  hw.cell (p := ⟨b, off, none⟩) (h.mem.lt b l hb)
theorem cell_of {b off : Nat} {cs : Array Value} {ty : TypeId} {f : Nat × Nat} (h : W.heap[b]? = some (.cells cs ty f)) : W.cell? ⟨b, off, none⟩ = cs[off]? := by
  simp [World.cell?, h]
theorem Pur.opt {v : Option V} {x : Sem Value} (h : ∀ r, v = some r → ∃ val, (∀ w, Cls W w → x.run P w = .ok val w) ∧ SR2 M W r val) : Pur P M W s (optR v s) x := by
  unfold optR
  split
  · exact Pur.ok (h _ rfl)
  · exact Pur.no _
theorem Row.len {t : Nat} {r : Rw} (h : Row M W t r) : ∃ A c, M.ρ t = .slice A r.xs.length c := by
  rcases h with ⟨-, B, h1, -, -⟩ | ⟨-, h1, -⟩
  · generalize M.ρ t = v at h1
    generalize hx : r.xs = xs at h1
    cases h1 with
    | nil => exact ⟨_, _, rfl⟩
    | row => exact ⟨_, _, rfl⟩
  · generalize M.ρ t = v at h1
    generalize hx : r.xs = xs at h1
    cases h1 with
    | nil => exact ⟨_, _, rfl⟩
    | lst => exact ⟨_, _, rfl⟩
theorem Row.hdr {t : Nat} {r : Rw} (h : Row M W t r) (hx : r.xs ≠ []) : ∃ b o c, M.ρ t = .slice (some ⟨b, o, none⟩) r.xs.length c := by
  rcases h with ⟨-, B, h1, -, -⟩ | ⟨-, h1, -⟩
  · generalize M.ρ t = v at h1
    generalize hx' : r.xs = xs at h1 hx
    cases h1 with
    | nil => exact absurd rfl hx
    | row => exact ⟨_, _, _, rfl⟩
  · generalize M.ρ t = v at h1
    generalize hx' : r.xs = xs at h1 hx
    cases h1 with
    | nil => exact absurd rfl hx
    | lst => exact ⟨_, _, _, rfl⟩
theorem Row.sizes {t : Nat} {r : Rw} (h : Row M W t r) : ∀ e ∈ r.xs, (leaves e).length = r.sz := by
  rcases h with ⟨-, B, h1, -, -⟩ | ⟨-, -, h1⟩
  · generalize M.ρ t = v at h1
    generalize r.xs = xs at *
    generalize r.sz = z at *
    cases h1 with
    | nil => simp
    | row => assumption
  · exact h1
theorem Row.reads (h : St n M W s a) {t : Nat} {r : Rw} (hr : s.R t = some r) {b o m c : Nat} (hρ : M.ρ t = .slice (some ⟨b, o, none⟩) m c) {i : Nat} (hi : i < r.xs.length) {k : Nat} {l : V}
    (hk : (leaves (r.xs.getD i .bad))[k]? = some l) : ∃ u, (∀ w, Cls W w → w.cell? ⟨b, o + i * r.sz + k, none⟩ = some u) ∧ SRL M W (rdL t i r.wr k l) u := by
  obtain ⟨ht, hrow⟩ := h.mem.row t r hr
  have hat := (leafAt_eq hi).2 hk
  rcases hrow with ⟨hw, B, h1, h2, h3⟩ | ⟨hw, h1, h2⟩
  · rw [hw]
    have hσ := h3 i k
    obtain ⟨z, xs, wr⟩ := r
    simp only at hi hat h1 h2 hσ ⊢
    rw [hρ] at h1
    cases h1 with
    | nil => simp at hi
    | row _ _ _ _ _ _ cs ty u Bs hB hBs hd hb hn hm hcs hs hc hl hN =>
      have hω := h2 _ hB
      have hcell : ∀ w, Cls W w → w.cell? ⟨b, o + i * z + k, none⟩ = some (u i k) := fun w hw => by
        rw [cell_own h hω hw, cell_of hb]
        exact hc i k l hat
      refine ⟨u i k, hcell, ?_⟩
      by_cases hi' : ∃ z' ys, l = .inl z' ys
      · obtain ⟨z', ys, rfl⟩ := hi'
        have := hσ z' ys hat b o xs.length c hρ
        rw [hcell W (RowKit.Below.refl _ _)] at this
        exact ⟨ht, Option.some.inj this⟩
      · have e : rdL t i true k l = l := by
          cases l <;> first | rfl | exact absurd ⟨_, _, rfl⟩ hi'
        rw [e]
        exact SRL_of_FR' (hl i k _ hat fun z ys e => hi' ⟨z, ys, e⟩)
  · rw [hw]
    obtain ⟨z, xs, wr⟩ := r
    simp only at hi hat h1 h2 ⊢
    rw [hρ] at h1
    cases h1 with
    | nil => simp at hi
    | lst _ _ _ _ z' u hF hn hm hs hc hl =>
      have hz : z' = z := (hs xs[i] (List.getElem_mem hi)).symm.trans (h2 xs[i] (List.getElem_mem hi))
      subst hz
      refine ⟨u i k, fun w hw => ?_, SRL_of_FR (hl i k _ hat)⟩
      rw [FR.lt h hF hw]
      exact hc i k _ hat
theorem nest_spec {t i o : Nat} {p : Nat × List V} (h : s.nest t i o = some p) : ∃ r, s.R t = some r ∧ r.wr = true ∧ leafAt r.xs i o = some (.inl p.1 p.2) := by
  unfold S.nest at h
  split at h
  · rename_i z xs hr
    split at h
    · rename_i z' ys hl
      cases h
      exact ⟨_, hr, rfl, hl⟩
    · cases h
  · cases h
theorem Row.nested {t i o : Nat} {r : Rw} (h : Row M W t r) (hw : r.wr = true) {z : Nat} {ys : List V} (hl : leafAt r.xs i o = some (.inl z ys)) :
    ∃ B, OwnN W M.F B z (M.σ t i o) ys ∧ ∀ b, B b → M.ω b = some (.tok t) := by
  rcases h with ⟨-, B, h1, h2, h3⟩ | ⟨hw', -⟩
  · have hh : ∃ b p m c, M.ρ t = .slice (some ⟨b, p, none⟩) m c := by
      obtain ⟨b, o, c, e⟩ := Row.hdr (.inl ⟨hw, B, h1, h2, h3⟩) (leafAt_ne hl)
      exact ⟨_, _, _, _, e⟩
    obtain ⟨b, p, m, c, hρ⟩ := hh
    have hσ := h3 i o z ys hl b p m c hρ
    obtain ⟨z0, xs, wr⟩ := r
    simp only at hl h1 h2 hσ ⊢
    rw [hρ] at h1
    cases h1 with
    | nil => simp [leafAt] at hl
    | row _ _ _ _ _ _ cs ty u Bs hB hBs hd hb hn hm hcs hs hc hl' hN =>
      rw [cell_of hb, hc i o _ hl] at hσ
      rw [← Option.some.inj hσ]
      exact ⟨_, hN i o z ys hl, fun x hx => h2 x (hBs i o x hx).1⟩
  · rw [hw] at hw'; cases hw'
theorem own_reads (h : St n M W s a) {B : Nat → Prop} {z : Nat} {v : Value} {ys : List V} {t b o m c : Nat} (ho : OwnN W M.F B z v ys) (hB : ∀ b, B b → M.ω b = some (.tok t)) (hv : v = .slice (some ⟨b, o, none⟩) m c) {j : Nat}
    (hj : j < ys.length) {k : Nat} {l : V} (hk : (leaves (ys.getD j .bad))[k]? = some l) : ∃ u, (∀ w, Cls W w → w.cell? ⟨b, o + j * z + k, none⟩ = some u) ∧ SRL M W (ownL l) u := by
  have hat := (leafAt_eq hj).2 hk
  cases ho with
  | nil => simp at hj
  | row _ _ _ _ _ _ cs ty u Bs hBb hBs hd hb hn hm hcs hs hc hl hN =>
    cases hv
    refine ⟨u j k, fun w hw => ?_, ?_⟩
    · rw [cell_own h (hB _ hBb) hw, cell_of hb]
      exact hc j k l hat
    · cases l with
      | inl z ys => exact trivial
      | _ => exact SRL_of_FR' (hl j k _ hat (by intro z ys e; cases e))
theorem OwnN.hdr {F B : Nat → Prop} {z : Nat} {v : Value} {ys : List V} (ho : OwnN W F B z v ys) (hx : ys ≠ []) : ∃ b o c, v = .slice (some ⟨b, o, none⟩) ys.length c := by
  cases ho with
  | nil => exact absurd rfl hx
  | row => exact ⟨_, _, _, rfl⟩
theorem OwnN.len {F B : Nat → Prop} {z : Nat} {v : Value} {ys : List V} (ho : OwnN W F B z v ys) : ∃ A c, v = .slice A ys.length c := by
  cases ho with
  | nil => exact ⟨_, _, rfl⟩
  | row => exact ⟨_, _, rfl⟩
theorem rdLs_get (t i : Nat) (wr : Bool) : ∀ (ls : List V) (k0 k : Nat) (x : V), (rdLs t i wr k0 ls)[k]? = some x → ∃ l, ls[k]? = some l ∧ x = rdL t i wr (k0 + k) l
  | [], _, _, _, h => by simp [rdLs] at h
  | l :: ls, k0, 0, x, h => by simp [rdLs] at h; exact ⟨l, rfl, h.symm⟩
  | l :: ls, k0, k + 1, x, h => by
    obtain ⟨l', h1, h2⟩ := rdLs_get t i wr ls (k0 + 1) k x (by simpa [rdLs] using h)
    exact ⟨l', by simpa using h1, by rw [h2]; congr 1; omega⟩
theorem load_pure (sta : StaOK P E) (h : St n M W s a) (t : TypeId) {x : V} {v : Value} (hx : SR2 M W x v) :
    Pur P M W s (loadR E t x s) (Instr.loadAt t v) := by
  revert hx
  unfold loadR
  split
  · rename_i xs i off tt ht
    intro hx
    obtain ⟨b, o, c, sz, hf, hs, hc, hi, rfl⟩ := hx
    refine Pur.opt fun r hr => ?_
    · refine (load_sound (sta.ti t tt ht) (fun k l hk => ?_) hr)
      simp only [List.getElem?_map, Option.map_eq_some_iff] at hk
      obtain ⟨l', hk, rfl⟩ := hk
      obtain ⟨u, h1, h2⟩ := hc i k l' ((leafAt_eq hi).2 hk)
      refine ⟨u, fun w hw => ?_, SRL_of_FR h2⟩
      have hF : M.F b := by
        cases hf with
        | nil => simp at hi
        | lst _ _ _ _ _ _ hF => exact hF
      rw [FR.lt h hF hw]
      exact h1
  · rename_i t' z i off tt ht
    intro hx
    obtain ⟨ht0, b, o, m, c, hρ, rfl⟩ := hx
    split
    · rename_i r hR
      split
      · rename_i hi
        obtain ⟨hi, rfl⟩ := hi
        refine Pur.opt fun v hv => load_sound (sta.ti t tt ht) (fun k l hk => ?_) hv
        obtain ⟨l', h1, rfl⟩ := rdLs_get _ _ _ _ _ _ _ hk
        rw [Nat.zero_add]
        exact Row.reads h hR hρ hi h1
      · exact Pur.no _
    · exact Pur.no _
  · rename_i t' i p z j off tt ht
    intro hx
    obtain ⟨ht0, b, o, m, c, hσ, rfl⟩ := hx
    split
    · rename_i q hN
      split
      · rename_i hi
        obtain ⟨hi, rfl⟩ := hi
        refine Pur.opt fun v hv => load_sound (sta.ti t tt ht) (fun k l hk => ?_) hv
        simp only [List.getElem?_map, Option.map_eq_some_iff] at hk
        obtain ⟨l', hk, rfl⟩ := hk
        obtain ⟨r, hR, hw, hl⟩ := nest_spec hN
        obtain ⟨B, hB1, hB2⟩ := (h.mem.row _ _ hR).2.nested hw hl
        exact own_reads h hB1 hB2 hσ hi hk
      · exact Pur.no _
    · exact Pur.no _
  · rename_i b off tt ht
    intro hx
    obtain ⟨hb0, rfl⟩ := hx
    refine Pur.opt fun r hr => ?_
    · rw [Option.bind_eq_some_iff] at hr
      obtain ⟨c, hB, hr⟩ := hr
      obtain ⟨-, cs, ty, hb, hω, ha⟩ := h.mem.box b c hB
      have := load_sound (M := M) (W := W) (b := M.β b) (base := 0) (sta.ti t tt ht) (fun k l hk => ?_) hr
      · simpa using this
      · obtain ⟨u, h1, h2⟩ := ha.get k l hk
        refine ⟨u, fun w hw => ?_, h2⟩
        rw [cell_own h hω hw, cell_of hb]
        simpa using h1
  · exact fun _ => Pur.no _
theorem un_pure (op : UnOp) {x : V} {v : Value} (hx : SR2 M W x v) : Pur P M W s (unR op x s) (Op.unary op v) := by
  revert hx
  unfold unR
  split
  · intro hx
    cases hx
    exact Pur.ok ⟨_, fun w _ => rfl, rfl⟩
  · intro hx
    cases hx
    exact Pur.ok ⟨_, fun w _ => rfl, rfl⟩
  · exact fun _ => Pur.no _
theorem index_pure (sta : StaOK P E) (t : TypeId) {x y : V} {v u : Value} (hx : SR2 M W x v) (hy : SR2 M W y u) : Pur P M W s (indexR E t x y s) (Instr.index t v u) := by
  unfold indexR
  revert hx hy
  split
  · rename_i b k j
    intro hx hy
    cases hx; cases hy
    refine Pur.if_ fun ⟨h1, h2, h3⟩ => ⟨_, fun w _ => ?_, rfl⟩
    unfold Instr.index
    have hj : j.toNat < b.size := by omega
    have hb : b[j.toNat]? = some b[j.toNat] := by simp [hj]
    rw [Sem.run_bind]
    simp only [asIntOf, Sem.run_pure, Result.andThen]
    rw [Sem.run_bind, run_und (sta.str t h1)]
    simp only [Result.andThen, h2, if_true, hb, Sem.run_pure]
    have e : b.data.getD j.toNat 0 = b[j.toNat] := by
      have : j.toNat < b.data.size := hj
      simp only [Array.getD, this, dif_pos]
      rfl
    rw [e]
  · exact fun _ _ => Pur.no _
theorem indexAddr_pure (sta : StaOK P E) (hst : St n M W s a) (t : TypeId) {x y : V} {v u : Value} (hx : SR2 M W x v) (hy : SR2 M W y u) : Pur P M W s (indexAddrR E t x y s) (Instr.indexAt t v u) := by
  have key : ∀ (e : TypeId) (tt : TI) (k : IntKind) (j : Int) (b o m c : Nat), E.el t = some e → E.ti e = some tt → 0 ≤ j → j < m → ∀ w,
      (Instr.indexAt t (.slice (some ⟨b, o, none⟩) m c) (.int k j)).run P w = .ok (.pointer (some ⟨b, o + j.toNat * tt.sz, none⟩)) w := by
    intro e tt k j b o m c he ht h0 h1 w
    have hu := sta.el t e he
    unfold Instr.indexAt
    simp [asIntOf, run_und hu, (sta.ti e tt ht).size, h0, h1, add_eq]
  revert hx hy
  unfold indexAddrR
  split
  · rename_i xs k j tt ht
    intro hx hy
    cases hy
    rw [Option.bind_eq_some_iff] at ht
    obtain ⟨e, he, ht⟩ := ht
    refine Pur.if_ fun ⟨⟨h0, h1⟩, h2⟩ => ?_
    have hf : FR W M.F (.lst xs) v := hx
    cases hf with
    | nil => simp at h1; omega
    | lst _ b o c sz u hF hn hm hs hc hl =>
      refine ⟨_, fun w _ => key e tt k j b o xs.length c he ht h0 h1 w, ?_⟩
      have hj : j.toNat < xs.length := by omega
      have hsz : sz = tt.sz := by
        rw [← h2]
        simp only [List.getD, List.getElem?_eq_getElem hj, Option.getD_some]
        exact (hs _ (List.getElem_mem hj)).symm
      subst hsz
      exact ⟨b, o, c, tt.sz, .lst xs b o c tt.sz u hF hn hm hs hc hl, hs, fun j i l h => ⟨u j i, hc j i l h, hl j i l h⟩, hj, rfl⟩
  · rename_i r k j tt ht
    intro hx hy
    cases hy
    rw [Option.bind_eq_some_iff] at ht
    obtain ⟨e, he, ht⟩ := ht
    split
    · rename_i w hR
      refine Pur.if_ fun ⟨⟨h0, h1⟩, h2⟩ => ?_
      obtain ⟨ht0, rfl⟩ := hx
      have hne : w.xs ≠ [] := by intro e; rw [e] at h1; simp at h1; omega
      obtain ⟨b, o, c, hρ⟩ := (hst.mem.row r w hR).2.hdr hne
      rw [hρ]
      refine ⟨_, fun w' _ => key e tt k j b o _ c he ht h0 h1 w', ht0, b, o, _, c, hρ, by rw [h2, Nat.add_zero]⟩
    · exact Pur.no _
  · rename_i r i o k j tt ht
    intro hx hy
    cases hy
    rw [Option.bind_eq_some_iff] at ht
    obtain ⟨e, he, ht⟩ := ht
    split
    · rename_i p hN
      refine Pur.if_ fun ⟨⟨h0, h1⟩, h2⟩ => ?_
      obtain ⟨ht0, rfl⟩ := hx
      obtain ⟨w, hR, hw, hl⟩ := nest_spec hN
      obtain ⟨B, hB1, hB2⟩ := (hst.mem.row _ _ hR).2.nested hw hl
      have hne : p.2 ≠ [] := by intro e; rw [e] at h1; simp at h1; omega
      obtain ⟨b, o', c, hσ⟩ := hB1.hdr hne
      rw [hσ]
      exact ⟨_, fun w' _ => key e tt k j b o' _ c he ht h0 h1 w', ht0, b, o', _, c, hσ, by rw [h2, Nat.add_zero]⟩
    · exact Pur.no _
  · exact fun _ _ => Pur.no _
theorem fieldAddr_pure (sta : StaOK P E) (t : TypeId) (f : Nat) {x : V} {v : Value} (hx : SR2 M W x v) : Pur P M W s (fieldAddrR E t x f s) (Instr.fieldAt t v f) := by
  have key : ∀ (o : Nat) (u : TypeId) (b off : Nat), E.fld t f = some (o, u) → ∀ w,
      (Instr.fieldAt t (.pointer (some ⟨b, off, none⟩)) f).run P w = .ok (.pointer (some ⟨b, off + o, none⟩)) w := by
    intro o u b off h w
    obtain ⟨fs, fd, i, h1, h2, rfl, rfl, h3, h4⟩ := sta.fld t f o u h
    unfold Instr.fieldAt
    simp [run_und h1, h2, Instr.sureAddr, fieldPlace, sizeOf, typeInfo, h3, h4, add_eq]
  revert hx
  unfold fieldAddrR
  split
  · rename_i xs i off o u hf
    intro hx
    obtain ⟨b, o', c, sz, h1, h2, h3, h4, rfl⟩ := hx
    exact Pur.ok ⟨_, fun w _ => key o u _ _ hf w, b, o', c, sz, h1, h2, h3, h4, by rw [Nat.add_assoc]⟩
  · rename_i r sz i off o u hf
    intro hx
    obtain ⟨h1, b, o', m, c, h2, rfl⟩ := hx
    exact Pur.ok ⟨_, fun w _ => key o u _ _ hf w, h1, b, o', m, c, h2, by rw [Nat.add_assoc]⟩
  · rename_i r i p sz j off o u hf
    intro hx
    obtain ⟨h1, b, o', m, c, h2, rfl⟩ := hx
    exact Pur.ok ⟨_, fun w _ => key o u _ _ hf w, h1, b, o', m, c, h2, by rw [Nat.add_assoc]⟩
  · rename_i b off o u hf
    intro hx
    obtain ⟨hb0, rfl⟩ := hx
    exact Pur.ok ⟨_, fun w _ => key o u _ _ hf w, hb0, rfl⟩
  · exact fun _ => Pur.no _
theorem part_sound {t : TypeId} {tt : TI} {xs : List V} {vs : List Value} {off : Nat} {r : V} (hti : TiOK P t tt) (ha : All2 (SRL M W) xs vs) (hg : getAt tt xs off = some r) :
    ∃ val, (∀ w, (part t vs.toArray off).run P w = .ok val w) ∧ SR2 M W r val := by
  unfold getAt at hg
  by_cases hag : tt.ag = true
  · rw [if_pos hag] at hg
    split at hg
    · simp only [Option.some.injEq] at hg
      subst hg
      refine ⟨.agg (vs.toArray.extract off (off + tt.sz)), fun w => ?_, (vs.drop off).take tt.sz, ?_, (ha.drop off).take tt.sz⟩
      · unfold part
        rw [Sem.run_bind, hti.ag]
        simp only [hag, Result.andThen, if_true]
        rw [Sem.run_bind, hti.size]
        rfl
      · congr 1
        apply Array.ext'
        simp
    · cases hg
  · rw [if_neg hag] at hg
    obtain ⟨u, h1, h2⟩ := ha.get off r hg
    refine ⟨u, fun w => ?_, SR2_of_L h2⟩
    unfold part
    rw [Sem.run_bind, hti.ag]
    have hf : tt.ag = false := by simpa using hag
    simp [hf, h1]
theorem field_pure (sta : StaOK P E) (t : TypeId) (f : Nat) {x : V} {v : Value} (hx : SR2 M W x v) : Pur P M W s (fieldR E t x f s) (Instr.field t v f) := by
  revert hx
  unfold fieldR
  split
  · rename_i ls o u hf
    intro hx
    obtain ⟨vs, rfl, ha⟩ := hx
    refine Pur.opt fun r hr => ?_
    rw [Option.bind_eq_some_iff] at hr
    obtain ⟨tt, ht, hr⟩ := hr
    obtain ⟨val, h1, h2⟩ := part_sound (sta.ti u tt ht) ha hr
    refine ⟨val, fun w _ => ?_, h2⟩
    obtain ⟨fs, fd, i, k1, k2, rfl, rfl, k3, k4⟩ := sta.fld t f o u hf
    unfold Instr.field
    simp [run_und k1, k2, asAgg, h1]
  · exact fun _ => Pur.no _
theorem nil_pure {x : V} {v : Value} (hx : SR2 M W x v) : (nilR x s).c → (nilR x s).s = s ∧ (nilR x s).p = true ∧ SR2 M W (nilR x s).v v ∧ ∃ ad, v = .pointer (some ad) := by
  revert hx
  unfold nilR
  split
  · intro hx _
    exact ⟨rfl, rfl, hx, _, hx.2⟩
  · intro hx _
    have hx' := hx
    obtain ⟨b, o, c, sz, -, -, -, -, e⟩ := hx'
    exact ⟨rfl, rfl, hx, _, e⟩
  · exact fun _ h => h.elim
theorem extract_pure {x : V} {v : Value} (k : Nat) (hx : SR2 M W x v) : Pur P M W s (extractR x k s) (Instr.extract v k) := by
  revert hx
  unfold extractR
  split
  · intro hx
    obtain ⟨vs, rfl, ha⟩ := hx
    refine Pur.opt fun r hr => ?_
    obtain ⟨u, h1, h2⟩ := ha.get k r hr
    refine ⟨u, fun w _ => by simp [Instr.extract, h1], ?_⟩
    cases r <;> first | exact h2 | exact h2.elim
  · exact fun _ => Pur.no _
theorem len_pure (sta : StaOK P E) (hst : St n M W s a) (t ty : TypeId) {x : V} {v : Value} (hx : SR2 M W x v) : Pur P M W s (lenR E t x s) (Builtin.len_ #[t] ty #[v]) := by
  revert hx
  unfold lenR
  split
  · intro hx
    cases hx
    refine Pur.if_ fun h => ⟨_, fun w _ => ?_, rfl⟩
    simp [Builtin.len_, run_und (sta.str t h), goInt]
  · rename_i xs
    intro hx
    refine Pur.if_ fun h => ⟨_, fun w _ => ?_, rfl⟩
    obtain ⟨e, he⟩ := Option.isSome_iff_exists.1 h
    have hf : FR W M.F (.lst xs) v := hx
    cases hf <;> simp [Builtin.len_, run_und (sta.el t e he), goInt]
  · rename_i r
    intro hx
    split
    · rename_i w hR
      refine Pur.if_ fun h => ⟨_, fun w _ => ?_, rfl⟩
      obtain ⟨e, he⟩ := Option.isSome_iff_exists.1 h
      obtain ⟨ht0, rfl⟩ := hx
      obtain ⟨A, c, hρ⟩ := (hst.mem.row _ _ hR).2.len
      rw [hρ]
      simp [Builtin.len_, run_und (sta.el t e he), goInt]
    · exact Pur.no _
  · rename_i r i o
    intro hx
    split
    · rename_i p hN
      refine Pur.if_ fun h => ⟨_, fun w _ => ?_, rfl⟩
      obtain ⟨e, he⟩ := Option.isSome_iff_exists.1 h
      obtain ⟨ht0, rfl⟩ := hx
      obtain ⟨w, hR, hw, hl⟩ := nest_spec hN
      obtain ⟨B, hB1, hB2⟩ := (hst.mem.row _ _ hR).2.nested hw hl
      obtain ⟨A, c, hσ⟩ := hB1.len
      rw [hσ]
      simp [Builtin.len_, run_und (sta.el t e he), goInt]
    · exact Pur.no _
  · exact fun _ => Pur.no _
end
end Go.TM
end
section
namespace Go.TM
open Go Go.Instr
section
variable {P : Program} {E : Env} {M : Mem} {W : World} {s : S} {n : Nat} {a : Act}
theorem run_bound {k : IntKind} {i : Int} {y : Nat} (code : BoundsCode) (h : 0 ≤ i ∧ i ≤ y) (w : World) : (sliceBound (.int k i) y code).run P w = .ok i.toNat w := by
  unfold sliceBound
  simp [asIntOf, h]
def LoOk (M : Mem) (W : World) (l : V) (lo : Option Value) : Prop := (lo = none ∧ l = .int .i64 0) ∨ ∃ v, lo = some v ∧ SR2 M W l v
def HiOk (M : Mem) (W : World) (s : S) (x h : V) (hi : Option Value) : Prop := (hi = none ∧ h = highR x s) ∨ ∃ v, hi = some v ∧ SR2 M W h v
theorem run_bounds {b : Bool} {len cap : Nat} {lo hi : Option Value} {k k' : IntKind} {l h : Int} (hl : LoOk M W (.int k l) lo) (hh : (hi = none ∧ h = len) ∨ ∃ v, hi = some v ∧ SR2 M W (.int k' h) v)
    (h0 : 0 ≤ l) (h1 : l ≤ h) (h2 : h ≤ len) (h3 : len ≤ cap) (w : World) : (sliceBounds b len cap lo hi none).run P w = .ok (l.toNat, h.toNat, cap) w := by
  unfold sliceBounds
  rcases hh with ⟨rfl, rfl⟩ | ⟨v, rfl, hv⟩
  · rcases hl with ⟨rfl, e⟩ | ⟨v', rfl, hv'⟩
    · cases e
      simp
    · cases hv'
      simp [run_bound (P := P) (k := k) (i := l) (y := len) _ ⟨h0, by omega⟩]
  · cases hv
    have hb : ∀ code, (sliceBound (.int k' h) cap code).run P w = .ok h.toNat w := fun code => run_bound code ⟨by omega, by omega⟩ w
    rcases hl with ⟨rfl, e⟩ | ⟨v', rfl, hv'⟩
    · cases e
      simp [hb]
    · cases hv'
      simp [hb, run_bound (P := P) (k := k) (i := l) (y := h.toNat) _ ⟨h0, by omega⟩]
theorem take_drop_get {α : Type} (xs : List α) (l h j : Nat) : ((xs.take h).drop l)[j]? = if l + j < h then xs[l + j]? else none := by
  rw [List.getElem?_drop, List.getElem?_take]
theorem cut_run (sta : StaOK P E) {t e : TypeId} {tt : TI} (he : E.el t = some e) (ht : E.ti e = some tt) {k k' : IntKind} {l h : Int} {lo hi : Option Value} {len : Nat} (hl : LoOk M W (.int k l) lo)
    (hh : (hi = none ∧ h = len) ∨ ∃ v, hi = some v ∧ SR2 M W (.int k' h) v) (h2 : 0 ≤ l) (h3 : l ≤ h) (h4 : h ≤ len) (A : Option Addr) (c : Nat) (hc : len ≤ c) (w : World) :
    (Instr.sliceAt t (.slice A len c) lo hi none).run P w = .ok (.slice (if c = l.toNat then A else A.map (·.add (l.toNat * tt.sz))) (h.toNat - l.toNat) (c - l.toNat)) w := by
  have hu := sta.el t e he
  have hsz := (sta.ti e tt ht).size
  have hb := run_bounds (P := P) (b := true) (hi := hi) (k' := k') (h := h) (len := len) (cap := c) hl hh h2 h3 h4 hc w
  unfold Instr.sliceAt
  rw [Sem.run_bind, run_und hu]
  simp only [Result.andThen]
  unfold Instr.slice
  rw [Sem.run_bind, run_und hu]
  simp [hb, hsz]
theorem leafAt_cut {xs : List V} {l h j i : Nat} {r : V} (hr : leafAt ((xs.take h).drop l) j i = some r) : leafAt xs (l + j) i = some r := by
  unfold leafAt at hr ⊢
  rw [take_drop_get] at hr
  split at hr
  · exact hr
  · simp at hr
theorem cut_length {α : Type} (xs : List α) (l h : Nat) (hh : h ≤ xs.length) : ((xs.take h).drop l).length = h - l := by
  rw [List.length_drop, List.length_take]
  omega
theorem FR.cut {F : Nat → Prop} {xs : List V} {A : Option Addr} {len c sz : Nat} (hf : FR W F (.lst xs) (.slice A len c)) {l h : Nat} (h3 : l ≤ h) (h4 : h ≤ xs.length) (h5 : xs = [] ∨ (leaves (xs.getD 0 .bad)).length = sz) :
    FR W F (.lst ((xs.take h).drop l)) (.slice (if c = l then A else A.map (·.add (l * sz))) (h - l) (c - l)) := by
  have hlen := cut_length xs l h h4
  cases hf with
  | nil A c =>
    have e0 : h - l = 0 := by simp at h4; omega
    rw [e0]
    simp only [List.take_nil, List.drop_nil]
    exact FR.nil _ _
  | lst _ b o c sz' u hF hn hm hs hc hlf =>
    by_cases hz : h - l = 0
    · have : (xs.take h).drop l = [] := List.eq_nil_of_length_eq_zero (by rw [hlen, hz])
      rw [hz, this]
      exact FR.nil _ _
    · rw [if_neg (by omega), ← hlen]
      simp only [Option.map_some, add_eq]
      have hsz' : sz' = sz := by
        rcases h5 with h5 | h5
        · subst h5; simp at h4; omega
        · rw [← h5]
          have : 0 < xs.length := by omega
          simp only [List.getD, List.getElem?_eq_getElem this, Option.getD_some]
          exact (hs _ (List.getElem_mem this)).symm
      subst hsz'
      refine FR.lst _ b _ _ sz' (fun j i => u (l + j) i) hF (by rw [hlen]; omega) (by rw [hlen]; omega) (fun e he => hs e (List.mem_of_mem_take (List.mem_of_mem_drop he))) (fun j i r hr => ?_) (fun j i r hr => hlf _ _ _ (leafAt_cut hr))
      rw [← hc _ _ _ (leafAt_cut hr)]
      congr 2
      rw [Nat.add_mul]
      omega
theorem FR.cap {F : Nat → Prop} {xs : List V} {v : Value} (hf : FR W F (.lst xs) v) : ∃ A c, v = .slice A xs.length c ∧ xs.length ≤ c := by
  cases hf with
  | nil A c => exact ⟨A, c, rfl, Nat.zero_le _⟩
  | lst _ b o c sz u hF hn => exact ⟨_, c, rfl, hn⟩
theorem cut_pure (sta : StaOK P E) (hst : St n M W s a) (t : TypeId) {x l h : V} {v : Value} {lo hi : Option Value} (hx : SR2 M W x v) (hl : LoOk M W l lo) (hh : HiOk M W s x h hi)
    (hno : ∀ r z xs, x = .own r → s.R r ≠ some ⟨z, xs, true⟩) :
    Pur P M W s (cutR E t x l h s) (Instr.sliceAt t v lo hi none) := by
  revert hx hl hh
  unfold cutR
  split
  · rename_i b k l k' h
    intro hx hl hh
    cases hx
    refine Pur.if_ fun ⟨h1, h2, h3, h4⟩ => ⟨_, fun w _ => ?_, rfl⟩
    have hb := run_bounds (P := P) (b := false) (hi := hi) (k' := k') (h := h) (cap := b.size) hl (by
      rcases hh with ⟨rfl, e⟩ | h
      · cases e
        exact .inl ⟨rfl, rfl⟩
      · exact .inr h) h2 h3 h4 (Nat.le_refl _) w
    unfold Instr.sliceAt
    rw [Sem.run_bind, run_und (sta.str t h1)]
    simp only [Result.andThen]
    unfold Instr.slice
    rw [Sem.run_bind, run_und (sta.str t h1)]
    simp [hb]
  · rename_i xs k l k' h
    intro hx hl hh
    split
    · rename_i tt ht
      rw [Option.bind_eq_some_iff] at ht
      obtain ⟨e, he, ht⟩ := ht
      refine Pur.if_ fun ⟨⟨h2, h3, h4⟩, h5⟩ => ?_
      have hf : FR W M.F (.lst xs) v := hx
      obtain ⟨A, c, rfl, hc⟩ := hf.cap
      refine ⟨_, fun w _ => cut_run (k' := k') sta he ht hl ?_ h2 h3 h4 A c hc w, hf.cut (by omega) (by omega) h5⟩
      · rcases hh with ⟨rfl, e⟩ | h
        · cases e
          exact .inl ⟨rfl, rfl⟩
        · exact .inr h
    · exact Pur.no _
  · rename_i r k l k' h
    intro hx hl hh
    split
    · rename_i tt z xs ht hR
      exact absurd hR (hno r z xs rfl)
    · rename_i tt z xs ht hR
      rw [Option.bind_eq_some_iff] at ht
      obtain ⟨e, he, ht⟩ := ht
      refine Pur.if_ fun ⟨⟨h2, h3, h4⟩, h5⟩ => ?_
      obtain ⟨ht0, hv⟩ := hx
      have hf : FR W M.F (.lst xs) v := by
        rw [hv]
        rcases (hst.mem.row r _ hR).2 with ⟨hw, -⟩ | ⟨-, h6, -⟩
        · cases hw
        · exact h6
      have hsz := (hst.mem.row r _ hR).2.sizes
      obtain ⟨A, c, rfl, hc⟩ := hf.cap
      refine ⟨_, fun w _ => cut_run (k' := k') sta he ht hl ?_ h2 h3 h4 A c hc w, hf.cut (by omega) (by omega) ?_⟩
      · rcases hh with ⟨rfl, e⟩ | h
        · simp only [highR, hR] at e
          cases e
          exact .inl ⟨rfl, rfl⟩
        · exact .inr h
      · by_cases hn : xs = []
        · exact .inl hn
        · right
          rw [← h5]
          have : 0 < xs.length := List.length_pos_iff.2 hn
          simp only [List.getD, List.getElem?_eq_getElem this, Option.getD_some]
          exact hsz _ (List.getElem_mem this)
    · exact Pur.no _
  · exact fun _ _ _ => Pur.no _
end
end Go.TM
end
section
namespace Go.TM
open Go
theorem norms_eq : ∀ xs : List V, norms xs = xs.map norm
  | [] => by simp [norms]
  | x :: xs => by simp [norms, norms_eq xs]
theorem leaves_norm (e : V) : leaves (norm e) = (leaves e).map norm := by
  cases e <;> simp [norm, leaves, norms_eq]
theorem vw_norm (l : V) : vw (norm l) = norm (vw l) := by
  cases l <;> simp [norm, vw]
theorem leafAt_norms {xs : List V} {j i : Nat} {l : V} (h : leafAt (norms xs) j i = some l) : ∃ l', leafAt xs j i = some l' ∧ l = norm l' := by
  unfold leafAt at *
  rw [norms_eq, List.getElem?_map] at h
  cases he : xs[j]? with
  | none => simp [he] at h
  | some e =>
    simp only [he, Option.map_some, Option.bind_some, leaves_norm, List.getElem?_map, Option.map_eq_some_iff] at h
    obtain ⟨l', h1, h2⟩ := h
    exact ⟨l', by simpa using h1, h2.symm⟩
section
variable {P : Program} {E : Env} {M : Mem} {W : World} {s : S} {n : Nat} {a : Act}
theorem FR.norm {F : Nat → Prop} {x : V} {v : Value} (h : FR W F x v) : FR W F (TM.norm x) v := by
  induction h with
  | int k n => exact .int k n
  | bool b => exact .bool b
  | str s => exact .str s
  | raw h => exact .raw h
  | nil A c => simp only [TM.norm, norms]; exact .nil A c
  | lst xs b o c sz u hF hn hm hs hc hl ih =>
    simp only [TM.norm]
    have hlen : (norms xs).length = xs.length := by rw [norms_eq, List.length_map]
    rw [← hlen]
    refine .lst (norms xs) b o c sz u hF (by rw [hlen]; exact hn) (by rw [hlen]; exact hm) (fun e he => ?_) (fun j i l h => ?_) (fun j i l h => ?_)
    · rw [norms_eq, List.mem_map] at he
      obtain ⟨e', h1, rfl⟩ := he
      rw [leaves_norm, List.length_map]
      exact hs e' h1
    · obtain ⟨l', h1, rfl⟩ := leafAt_norms h
      exact hc j i l' h1
    · obtain ⟨l', h1, rfl⟩ := leafAt_norms h
      rw [vw_norm]
      exact ih j i l' h1
theorem OwnN.fr {F B G : Nat → Prop} {sz : Nat} {v : Value} {xs : List V} (h : OwnN W F B sz v xs) : (∀ b, F b → G b) → (∀ b, B b → G b) → FR W G (.lst (norms xs)) v := by
  induction h with
  | nil B sz A => intro _ _; simp only [norms]; exact .nil _ _
  | row B sz xs b o c cs ty u Bs hB hBs hd hb hn hm hcs hs hc hl hN ih =>
    intro hF hG
    have hlen : (norms xs).length = xs.length := by rw [norms_eq, List.length_map]
    rw [← hlen]
    refine .lst (norms xs) b o c sz u (hG b hB) (by rw [hlen]; exact hn) (by rw [hlen]; exact Nat.le_trans hn hm) (fun e he => ?_) (fun j i l h => ?_) (fun j i l h => ?_)
    · rw [norms_eq, List.mem_map] at he
      obtain ⟨e', h1, rfl⟩ := he
      rw [leaves_norm, List.length_map]
      exact hs e' h1
    · obtain ⟨l', h1, rfl⟩ := leafAt_norms h
      rw [cell_of hb]
      exact hc j i l' h1
    · obtain ⟨l', h1, rfl⟩ := leafAt_norms h
      cases l' with
      | inl z ys =>
        simp only [TM.norm, vw]
        exact ih j i z ys h1 hF fun x hx => hG x (hBs j i x hx).1
      | _ =>
        have := (hl j i _ h1 (by intro z ys e; cases e)).norm.mono (F' := G) (fun _ _ => rfl) hF
        first
          | exact this
          | simpa [vw, TM.norm] using this
theorem norms_length (xs : List V) : (norms xs).length = xs.length := by rw [norms_eq, List.length_map]
theorem SR1_of_L' {x : V} {v : Value} (h : SRL M W x v) : SR1 M W x v := by
  cases x <;> first | exact h | exact h.elim
theorem SR2_of_1' {x : V} {v : Value} (h : SR1 M W x v) : SR2 M W x v := by
  cases x <;> first | exact h | exact h.elim
theorem SR_of_2 {x : V} {v : Value} (h : SR2 M W x v) : SR M W x v := by
  cases x <;> first | exact h | exact h.elim
theorem SR1_of_2 {x : V} {v : Value} (h : SR2 M W x v) (hx : isTup x = false) : SR1 M W x v := by
  cases x <;> first | exact h | simp [isTup] at hx
theorem Cls.evo {w : World} (h : Cls W w) (M : Mem) : Evo M W M w :=
  ⟨h.os, h.tape, h.output, h.size, fun b hb _ => h.block b hb, fun b l hl => .inl (by simp [hl]), fun _ hb => .inl hb, fun _ hb => hb, Nat.le_refl _, Nat.le_refl _, fun _ _ => rfl, fun _ _ => rfl⟩
theorem MemOK.keep (h : MemOK M W s) {w : World} (hw : Cls W w) : Keep M W M w :=
  ⟨fun _ hb => hb, fun b hb => hw.block b (h.frz b hb).2, fun _ _ => rfl, fun _ _ _ _ => rfl, fun _ _ => rfl, Nat.le_refl _, Nat.le_refl _⟩
theorem MemOK.cls (h : MemOK M W s) {w : World} (hw : Cls W w) : MemOK M w s where
  nt := h.nt
  nb := h.nb
  box b c hb := by
    obtain ⟨h1, cs, ty, h2, h3, h4⟩ := h.box b c hb
    exact ⟨h1, cs, ty, (hw.block _ (h.lt _ _ h3)).trans h2, h3, (h.keep hw).leaves h4⟩
  row t r hr := ⟨(h.row t r hr).1, (h.keep hw).row (h.row t r hr).1 (fun _ b hb => ⟨hb, hw.block b (h.lt b _ hb)⟩) (h.row t r hr).2⟩
  frz b hb := ⟨(h.frz b hb).1, Nat.lt_of_lt_of_le (h.frz b hb).2 hw.size⟩
  lt b l hl := Nat.lt_of_lt_of_le (h.lt b l hl) hw.size
  tok := h.tok
  bx := h.bx
theorem St.cls (h : St n M W s a) {w : World} (hw : Cls W w) : St n M w s a where
  size := h.size
  defers := h.defers
  slot x hx := (h.mem.keep hw).all (h.slot x hx)
  mem := h.mem.cls hw
end
structure Post (k : Nat) (a : Ans) (M : Mem) (W : World) (M' : Mem) (W' : World) (s' : S) (sv : V) (v : Value) : Prop where
  rel : SR2 M' W' sv v
  mem : MemOK M' W' s'
  evo : Evo M W M' W'
  nodup : (resToks s' sv ++ liveOuts s' 0 a.outs ++ (List.range k).flatMap s'.boxToks).Nodup
  bnodup : (resBoxes sv).Nodup
  sh : a.sh = false → noL a.r = true ∧ noLs a.outs = true
  hasB : ((List.range k).all fun i => (s'.B i).isSome) = true
  outs : outsOk s' 0 a.outs
  boxes : boxOuts s' k = a.boxes
  res : closeR s' k sv = a.r
structure GenOK (P : Program) (f : FuncId) (args cs : List V) (a : Ans) : Prop where
  has : ∃ fn, P.funcs[f]? = some fn ∧ (fn.name == "runtime.NumGoroutine") = false ∧ fn.body.isNone = false
  calls : ∀ (M : Mem) (W : World) (vs : List Value), MemOK M W (start args cs) → All2 (SR1 M W) (adCs args S.zero).1 vs →
    Calls P f vs.toArray W fun e W' => ∃ v M' s' sv, e = .returned v ∧ Post cs.length a M W M' W' s' sv v
def FunOK (P : Program) (f : FuncId) (args : List V) (sh : Bool) (r : V) : Prop := GenOK P f args [] ⟨sh, r, [], []⟩
structure EnvOK (P : Program) (E : Env) : Prop extends StaOK P E where
  call : ∀ f args sh r, E.call f args = some (sh, r) → FunOK P f args sh r
  gen : ∀ f args cs a, E.gen f args cs = some a → GenOK P f args cs a
end Go.TM
end
section
namespace Go.TM
open Go
section
variable {P : Program} {E : Env} {M : Mem} {W : World} {s : S} {n : Nat} {a : Act}
def cellOf (W : World) (v : Value) (z j i : Nat) : Value :=
  match v with
  | .slice (some ⟨b, o, none⟩) _ _ => (W.cell? ⟨b, o + j * z + i, none⟩).getD undef
  | _ => undef
open Classical in
noncomputable def Mem.adopt (M : Mem) (W : World) (t : Nat) (B : Nat → Prop) (z : Nat) (v : Value) : Mem :=
  { M with ω := fun b => if B b then some (.tok t) else M.ω b, ρ := fun x => if x = t then v else M.ρ x, σ := fun x j i => if x = t then cellOf W v z j i else M.σ x j i, nt := max M.nt (t + 1) }
theorem adopt_in {t : Nat} {B : Nat → Prop} {z : Nat} {v : Value} {b : Nat} (hb : B b) : (M.adopt W t B z v).ω b = some (.tok t) := if_pos hb
theorem adopt_out {t : Nat} {B : Nat → Prop} {z : Nat} {v : Value} {b : Nat} (hb : ¬ B b) : (M.adopt W t B z v).ω b = M.ω b := if_neg hb
theorem row_of {t z : Nat} {xs : List V} {v : Value} {B : Nat → Prop} (ho : OwnN W M.F B z v xs) (hω : ∀ b, B b → M.ω b = some (.tok t)) (hρ : M.ρ t = v) (hσ : ∀ j i, M.σ t j i = cellOf W v z j i) : Row M W t ⟨z, xs, true⟩ := by
  refine .inl ⟨rfl, B, by rw [hρ]; exact ho, hω, fun j i z' ys hl b o m c hv => ?_⟩
  rw [hρ] at hv
  rw [hσ]
  subst hv
  simp only [cellOf]
  simp only at hl ⊢
  cases ho with
  | nil => simp [leafAt] at hl
  | row _ _ _ _ _ _ cs ty u Bs hBb hBs hd hb hn hm hcs hs hc hl' hN =>
    rw [cell_of hb, hc j i _ hl]
    rfl
theorem adopt_row (h : MemOK M W s) {z : Nat} {xs : List V} {v : Value} {B : Nat → Prop} (ho : OwnN W M.F B z v xs) (hB : ∀ b, B b → M.ω b = none ∧ ¬ M.F b ∧ b < W.heap.size) :
    MemOK (M.adopt W M.nt B z v) W (s.newR z xs) ∧ Keep M W (M.adopt W M.nt B z v) W ∧ SRL (M.adopt W M.nt B z v) W (.own s.nt) v ∧ Evo { M with ω := fun b => (M.adopt W M.nt B z v).ω b } W (M.adopt W M.nt B z v) W := by
  have hmax : max M.nt (M.nt + 1) = M.nt + 1 := Nat.max_eq_right (Nat.le_succ _)
  have hk : Keep M W (M.adopt W M.nt B z v) W := ⟨fun _ h => h, fun _ _ => rfl, fun t ht => if_neg (Nat.ne_of_lt ht), fun t i o ht => if_neg (Nat.ne_of_lt ht), fun _ _ => rfl, by simp only [Mem.adopt, hmax]; exact Nat.le_succ _, Nat.le_refl _⟩
  have hlab : ∀ b l, M.ω b = some l → (M.adopt W M.nt B z v).ω b = some l := fun b l hl => by
    rw [adopt_out fun hb => by rw [(hB b hb).1] at hl; cases hl]
    exact hl
  refine ⟨?_, hk, ⟨?_, ?_⟩, ?_⟩
  · exact {
      nt := by rw [show (s.newR z xs).nt = s.nt + 1 from rfl, ← h.nt]; exact hmax
      nb := h.nb
      box := fun b c hb => by
        obtain ⟨h1, cs, ty, h2, h3, h4⟩ := h.box b c hb
        exact ⟨h1, cs, ty, h2, hlab _ _ h3, hk.leaves h4⟩
      row := fun t r hr => by
        simp only [S.newR, S.setR] at hr
        by_cases e : t = s.nt
        · rw [if_pos e] at hr
          cases hr
          rw [← h.nt] at e
          subst e
          refine ⟨by simp only [Mem.adopt, hmax]; exact Nat.lt_succ_self _, ?_⟩
          exact row_of (v := v) ho (fun b hb => adopt_in hb) (if_pos rfl) (fun j i => if_pos rfl)
        · rw [if_neg e] at hr
          obtain ⟨h1, h2⟩ := h.row t r hr
          exact ⟨by simp only [Mem.adopt, hmax]; omega, hk.row h1 (fun _ b hb => ⟨hlab b _ hb, rfl⟩) h2⟩
      frz := fun b hb => ⟨by rw [adopt_out fun hb' => (hB b hb').2.1 hb]; exact (h.frz b hb).1, (h.frz b hb).2⟩
      lt := fun b l hl => by
        by_cases hb : B b
        · exact (hB b hb).2.2
        · rw [adopt_out hb] at hl; exact h.lt b l hl
      tok := fun b t hl => by
        simp only [Mem.adopt, hmax]
        by_cases hb : B b
        · have := adopt_in (M := M) (W := W) (t := M.nt) (z := z) (v := v) hb
          rw [hl] at this
          cases this
          exact Nat.lt_succ_self _
        · rw [adopt_out hb] at hl
          exact Nat.lt_succ_of_lt (h.tok b t hl)
      bx := fun b k hl => by
        by_cases hb : B b
        · rw [adopt_in hb] at hl; cases hl
        · rw [adopt_out hb] at hl; exact h.bx b k hl }
  · rw [← h.nt]; simp only [Mem.adopt, hmax]; exact Nat.lt_succ_self _
  · rw [← h.nt]; simp only [Mem.adopt, if_true]
  · exact ⟨rfl, rfl, rfl, Nat.le_refl _, fun _ _ _ => rfl, fun b l hl => .inl (by simp only; rw [hl]; simp), fun b hb => .inl hb, fun b hb => hb, hk.nt, hk.nb, hk.ρ, hk.β⟩
theorem nil_row (h : MemOK M W s) (z : Nat) (A : Option Addr) :
    ∃ M', MemOK M' W (s.newR z []) ∧ Keep M W M' W ∧ SRL M' W (.own s.nt) (.slice A 0 0) ∧ M'.ω = M.ω ∧ M'.F = M.F := by
  obtain ⟨h1, h2, h3, -⟩ := adopt_row h (.nil (fun _ => False) z A) (fun b hb => hb.elim)
  exact ⟨_, h1, h2, h3, by funext b; exact adopt_out fun h => h, rfl⟩
structure Same (M : Mem) (W : World) (M' : Mem) : Prop extends Keep M W M' W where
  ωs : M'.ω = M.ω
  Fs : M'.F = M.F
theorem Same.refl : Same M W M := ⟨Keep.refl M W, rfl, rfl⟩
theorem Same.trans {M' M'' : Mem} (h : Same M W M') (k : Same M' W M'') : Same M W M'' := ⟨h.toKeep.trans k.toKeep, k.ωs.trans h.ωs, k.Fs.trans h.Fs⟩
theorem Same.evo {M' : Mem} (h : Same M W M') : Evo M W M' W :=
  ⟨rfl, rfl, rfl, Nat.le_refl _, fun _ _ _ => rfl, fun b l hl => .inl (by rw [← h.ωs, hl]; simp), fun b hb => .inl (h.Fs ▸ hb), h.F, h.nt, h.nb, h.ρ, h.β⟩
theorem adL_nil (h : MemOK M W s) {x : V} {v : Value} (hx : SRL M W x v) : ∃ M', MemOK M' W (adL x s).2 ∧ Same M W M' ∧ SRL M' W (adL x s).1 v := by
  by_cases hi : ∃ z ys, x = .inl z ys
  · obtain ⟨z, ys, rfl⟩ := hi
    obtain ⟨rfl, A, rfl⟩ := hx
    obtain ⟨M', h1, h2, h3, h4, h5⟩ := nil_row h z A
    exact ⟨M', h1, ⟨h2, h4, h5⟩, h3⟩
  · have e : adL x s = (x, s) := by
      cases x <;> first | rfl | exact absurd ⟨_, _, rfl⟩ hi
    rw [e]
    exact ⟨M, h, Same.refl, hx⟩
theorem adLs_nil : ∀ {xs : List V} {vs : List Value} {M : Mem} {s : S}, MemOK M W s → All2 (SRL M W) xs vs → ∃ M', MemOK M' W (adLs xs s).2 ∧ Same M W M' ∧ All2 (SRL M' W) (adLs xs s).1 vs
  | [], [], M, s, h, _ => ⟨M, h, Same.refl, trivial⟩
  | x :: xs, v :: vs, M, s, h, hx => by
    obtain ⟨M1, h1, h2, h3⟩ := adL_nil h hx.1
    obtain ⟨M2, h4, h5, h6⟩ := adLs_nil h1 (h2.toKeep.leaves hx.2)
    exact ⟨M2, h4, h2.trans h5, h5.toKeep.leaf h3, h6⟩
theorem adC_nil (h : MemOK M W s) {x : V} {v : Value} (hx : SR1 M W x v) : ∃ M', MemOK M' W (adC x s).2 ∧ Same M W M' ∧ SR1 M' W (adC x s).1 v := by
  cases x with
  | agg xs =>
    obtain ⟨vs, rfl, ha⟩ := hx
    obtain ⟨M', h1, h2, h3⟩ := adLs_nil h ha
    exact ⟨M', h1, h2, vs, rfl, h3⟩
  | _ =>
    simp only [SR1] at hx
    obtain ⟨M', h1, h2, h3⟩ := adL_nil h hx
    exact ⟨M', h1, h2, SR1_of_L' h3⟩
theorem adL_e (x : V) (s : S) : (adL x s).2.e = s.e := by
  unfold adL
  split <;> rfl
theorem adLs_e : ∀ (xs : List V) (s : S), (adLs xs s).2.e = s.e
  | [], s => rfl
  | x :: xs, s => by simp only [adLs]; rw [adLs_e, adL_e]
theorem adC_e (x : V) (s : S) : (adC x s).2.e = s.e := by
  unfold adC
  split
  · exact adLs_e _ _
  · exact adL_e _ _
theorem St.same {M' : Mem} {s' : S} (h : St n M W s a) (hm : MemOK M' W s') (hs : Keep M W M' W) (he : s'.e = s.e) : St n M' W s' a where
  size := h.size
  defers := h.defers
  slot x hx := by rw [he]; exact hs.all (h.slot x hx)
  mem := hm
def QOK (P : Program) (n : Nat) (M : Mem) (W : World) (s : S) (a : Act) (o : Oper) (r : R) : Prop :=
  ∃ M' val, (∀ w, Cls W w → o.quietAt P a (Cls W) w val) ∧ St n M' W r.s a ∧ SR2 M' W r.v val ∧ Evo M W M' W ∧ (r.p = true → r.s = s ∧ M' = M)
theorem quietAt_value {o : Oper} {w : World} {v : Value} {C : World → Prop} (h : (execOp a.eval o).run P w = .ok (.value v) w) : o.quietAt P a C w v := by
  unfold Oper.quietAt
  rw [h]
  exact ⟨rfl, rfl⟩
theorem QOK.pur {o : Oper} {r : R} {x : Sem Value} (h : St n M W s a) (hx : ∀ w, (execOp a.eval o).run P w = (do pure (Next.value (← x)) : Sem Next).run P w) (hp : Pur P M W s r x) (hc : r.c) : QOK P n M W s a o r := by
  obtain ⟨h1, h2, val, h3, h4⟩ := hp hc
  refine ⟨M, val, fun w hw => quietAt_value ?_, by rw [h1]; exact h, h4, Evo.refl _ _, fun _ => ⟨h1, rfl⟩⟩
  rw [hx, Sem.run_bind, h3 w hw]
  rfl
theorem move_quiet (h : St n M W s a) {o : Oper} {x : V} {v : Value} {ty : Option Nat} (ho : ∀ w, (execOp a.eval o).run P w = .ok (.value v) w) (hx : SR2 M W x v) (hc : (adR ty x s).c) : QOK P n M W s a o (adR ty x s) := by
  have hq : ∀ w, Cls W w → o.quietAt P a (Cls W) w v := fun w _ => quietAt_value (ho w)
  unfold adR
  split
  · obtain ⟨-, A, rfl⟩ := hx
    obtain ⟨M', h1, h2, h3, h4, h5⟩ := nil_row h.mem (ty.getD 0) A
    exact ⟨M', _, hq, h.same h1 h2 rfl, h3, Same.evo ⟨h2, h4, h5⟩, fun hp => by cases hp⟩
  · split
    · rename_i hi
      have hx1 : SR1 M W x v := SR1_of_2 hx (by cases x <;> first | rfl | simp [isInl, isInlL] at hi)
      obtain ⟨M', h1, h2, h3⟩ := adC_nil h.mem hx1
      exact ⟨M', v, hq, h.same h1 h2.toKeep (adC_e _ _), SR2_of_1' h3, h2.evo, fun hp => by cases hp⟩
    · exact ⟨M, v, hq, h, hx, Evo.refl _ _, fun _ => ⟨rfl, rfl⟩⟩
theorem OwnN.cut {F B : Nat → Prop} {xs : List V} {A : Option Addr} {len c z : Nat} (ho : OwnN W F B z (.slice A len c) xs) {l h : Nat} (h3 : l ≤ h) (h4 : h ≤ xs.length) :
    OwnN W F B z (.slice (if c = l then A else A.map (·.add (l * z))) (h - l) (c - l)) ((xs.take h).drop l) := by
  have hlen := cut_length xs l h h4
  cases ho with
  | nil =>
    have e0 : l = 0 ∧ h = 0 := by simp at h4; omega
    obtain ⟨rfl, rfl⟩ := e0
    simp only [List.take_nil, List.drop_nil, Nat.sub_self, if_true]
    exact .nil _ _ _
  | row _ _ _ b o c cs ty u Bs hB hBs hd hb hn hm hcs hs hc hl hN =>
    by_cases hz : c = l
    · have e0 : (xs.take h).drop l = [] := List.eq_nil_of_length_eq_zero (by rw [hlen]; omega)
      rw [if_pos hz, e0, show h - l = 0 by omega, show c - l = 0 by omega]
      exact .nil _ _ _
    · rw [if_neg hz, ← hlen]
      simp only [Option.map_some, add_eq]
      refine .row _ _ _ _ _ _ cs ty (fun j i => u (l + j) i) (fun j i => Bs (l + j) i) hB (fun j i x hx => hBs _ _ x hx) (fun j i j' i' x hx hx' => ?_) hb (by rw [hlen]; omega) (by omega) ?_ (fun e he => hs e (List.mem_of_mem_take (List.mem_of_mem_drop he)))
        (fun j i r hr => ?_) (fun j i r hr hne => hl _ _ _ (leafAt_cut hr) hne) (fun j i z' ys hr => hN _ _ _ _ (leafAt_cut hr))
      · obtain ⟨e1, e2⟩ := hd _ _ _ _ x hx hx'
        exact ⟨by omega, e2⟩
      · rw [hcs, Nat.sub_mul, Nat.add_assoc]
        have : l * z ≤ c * z := Nat.mul_le_mul_right _ (by omega)
        omega
      · rw [← hc _ _ _ (leafAt_cut hr)]
        congr 1
        rw [Nat.add_mul]
        omega
theorem MemOK.drop (h : MemOK M W s) (t : Nat) : MemOK M W (s.setR t none) where
  nt := h.nt
  nb := h.nb
  box := h.box
  row t' r hr := by
    simp only [S.setR] at hr
    split at hr
    · cases hr
    · exact h.row t' r hr
  frz := h.frz
  lt := h.lt
  tok := h.tok
  bx := h.bx
open Classical in
noncomputable def Mem.free (M : Mem) (B : Nat → Prop) : Mem := { M with ω := fun b => if B b then none else M.ω b }
theorem free_in {B : Nat → Prop} {b : Nat} (hb : B b) : (M.free B).ω b = none := if_pos hb
theorem free_out {B : Nat → Prop} {b : Nat} (hb : ¬ B b) : (M.free B).ω b = M.ω b := if_neg hb
theorem free_some {B : Nat → Prop} {b : Nat} {l : Root} (h : (M.free B).ω b = some l) : ¬ B b ∧ M.ω b = some l := by
  by_cases hb : B b
  · rw [free_in hb] at h; cases h
  · rw [free_out hb] at h; exact ⟨hb, h⟩
theorem free_keep (B : Nat → Prop) : Keep M W (M.free B) W := ⟨fun _ h => h, fun _ _ => rfl, fun _ _ => rfl, fun _ _ _ _ => rfl, fun _ _ => rfl, Nat.le_refl _, Nat.le_refl _⟩
theorem MemOK.free (h : MemOK M W s) {B : Nat → Prop} (hR : ∀ b t, B b → M.ω b = some (.tok t) → s.R t = none) (hB : ∀ b k, B b → M.ω b = some (.box k) → s.B k = none) : MemOK (M.free B) W s where
  nt := h.nt
  nb := h.nb
  box b c hb := by
    obtain ⟨h1, cs, ty, h2, h3, h4⟩ := h.box b c hb
    refine ⟨h1, cs, ty, h2, ?_, (free_keep B).leaves h4⟩
    rw [← h3]
    refine free_out fun hx => ?_
    rw [hB _ _ hx h3] at hb
    cases hb
  row t r hr := by
    refine ⟨(h.row t r hr).1, (free_keep B).row (h.row t r hr).1 (fun _ b hb => ⟨?_, rfl⟩) (h.row t r hr).2⟩
    rw [← hb]
    refine free_out fun hx => ?_
    rw [hR b t hx hb] at hr
    cases hr
  frz b hb := by
    refine ⟨?_, (h.frz b hb).2⟩
    by_cases hx : B b
    · exact free_in hx
    · rw [free_out hx]
      exact (h.frz b hb).1
  lt b l hl := h.lt b l (free_some hl).2
  tok b t hl := h.tok b t (free_some hl).2
  bx b k hl := h.bx b k (free_some hl).2
theorem St.slots_keep {M' : Mem} {W' : World} {s' : S} (h : St n M W s a) (hm : MemOK M' W' s') (hs : Keep M W M' W') (he : s'.e = s.e) : St n M' W' s' a where
  size := h.size
  defers := h.defers
  slot x hx := by rw [he]; exact hs.all (h.slot x hx)
  mem := hm
theorem retell (h : MemOK M W s) {t : Nat} {z z' : Nat} {xs ys : List V} {v : Value} (hR : s.R t = some ⟨z, xs, true⟩) (hv : ∀ B, OwnN W M.F B z (M.ρ t) xs → OwnN W M.F B z' v ys) :
    ∃ M', MemOK M' W ((s.setR t none).newR z' ys) ∧ Keep M W M' W ∧ SRL M' W (.own s.nt) v ∧ Evo M W M' W := by
  rcases (h.row t _ hR).2 with ⟨-, B, h1, h2, h3⟩ | ⟨hw, -⟩
  · have hf : MemOK (M.free B) W (s.setR t none) := (h.drop t).free (fun b t' hb hl => by
      rw [h2 b hb] at hl
      cases hl
      simp [S.setR]) (fun b k hb hl => by rw [h2 b hb] at hl; cases hl)
    obtain ⟨k1, k2, k3, -⟩ := adopt_row hf (z := z') (xs := ys) (v := v) (B := B) (hv B h1) (fun b hb => ⟨free_in hb, fun hF => (by
      have := (h.frz b hF).1
      rw [h2 b hb] at this
      cases this), h.lt b _ (h2 b hb)⟩)
    have hk := (free_keep B).trans k2
    refine ⟨_, k1, hk, k3, rfl, rfl, rfl, Nat.le_refl _, fun _ _ _ => rfl, fun b l hl => ?_, fun b hb => .inl hb, fun b hb => hb, hk.nt, hk.nb, hk.ρ, hk.β⟩
    by_cases hb : B b
    · left; rw [h2 b hb]; simp
    · rw [adopt_out hb, free_out hb] at hl
      left; rw [hl]; simp
  · cases hw
theorem cut_quiet (sta : StaOK P E) (h : St n M W s a) {o : Oper} {t r z : Nat} {xs : List V} {l hh : V} {v : Value} {lo hi : Option Value} (hR : s.R r = some ⟨z, xs, true⟩) (hx : SR2 M W (.own r) v) (hl : LoOk M W l lo) (hhi : HiOk M W s (.own r) hh hi)
    (ho : ∀ w, (execOp a.eval o).run P w = (do pure (Next.value (← Instr.sliceAt t v lo hi none)) : Sem Next).run P w) (hc : (cutR E t (.own r) l hh s).c) : QOK P n M W s a o (cutR E t (.own r) l hh s) := by
  cases l <;> try exact hc.elim
  cases hh <;> try exact hc.elim
  rename_i k l k' h'
  simp only [cutR, hR] at hc ⊢
  cases hb : (E.el t).bind E.ti with
  | none => simp only [hb] at hc; exact hc.elim
  | some tt =>
    simp only [hb] at hc ⊢
    obtain ⟨⟨h2, h3, h4⟩, h5, h6⟩ := hc
    rw [Option.bind_eq_some_iff] at hb
    obtain ⟨e, he, ht⟩ := hb
    obtain ⟨ht0, hv⟩ := hx
    have hrow := (h.mem.row r _ hR).2
    obtain ⟨A, c, hρ⟩ := hrow.len
    have hcap : xs.length ≤ c := by
      rcases hrow with ⟨-, B, h1, -, -⟩ | ⟨hw, -⟩
      · rw [hρ] at h1
        generalize hx : xs.length = m at h1
        cases h1 with
        | nil => simp at hx; omega
        | row => omega
      · cases hw
    simp only at hρ
    rw [hρ] at hv
    subst hv
    obtain ⟨M', k1, k2, k3, k4⟩ := retell h.mem hR (z' := z) (ys := (xs.take h'.toNat).drop l.toNat) (v := .slice (if c = l.toNat then A else A.map (·.add (l.toNat * z))) (h'.toNat - l.toNat) (c - l.toNat)) (fun B hB => by
      rw [hρ] at hB
      exact hB.cut (by omega) (by omega))
    refine ⟨M', _, fun w hw => quietAt_value ?_, h.slots_keep k1 k2 rfl, k3, k4, fun hp => by cases hp⟩
    rw [ho, Sem.run_bind, cut_run (k' := k') sta he ht hl ?_ h2 h3 h4 A c hcap w, ← h5]
    · rfl
    · rcases hhi with ⟨rfl, e⟩ | h
      · simp only [highR, hR] at e
        cases e
        exact .inl ⟨rfl, rfl⟩
      · exact .inr h
end
end Go.TM
end
section
namespace Go.TM
open Go
section
variable {P : Program} {E : Env} {M : Mem} {W : World} {s : S} {n : Nat} {a : Act}
def S.adds (s : S) : List (Nat × List V) → S
  | [] => s
  | p :: ps => (s.newR p.1 p.2).adds ps
theorem adds_append (s : S) : ∀ (ps qs : List (Nat × List V)), s.adds (ps ++ qs) = (s.adds ps).adds qs := by
  intro ps
  induction ps generalizing s with
  | nil => intro qs; rfl
  | cons p ps ih => intro qs; simp only [List.cons_append, S.adds]; exact ih _ qs
theorem adds_nt (s : S) : ∀ ps : List (Nat × List V), (s.adds ps).nt = s.nt + ps.length := by
  intro ps
  induction ps generalizing s with
  | nil => rfl
  | cons p ps ih => simp only [S.adds, ih, S.newR, List.length_cons]; omega
theorem adds_R (s : S) : ∀ (ps : List (Nat × List V)) (t : Nat), (s.adds ps).R t = if s.nt ≤ t ∧ t < s.nt + ps.length then (ps[t - s.nt]?).map fun p => ⟨p.1, p.2, true⟩ else s.R t := by
  intro ps
  induction ps generalizing s with
  | nil => intro t; rw [if_neg (by simp)]; rfl
  | cons p ps ih =>
    intro t
    simp only [S.adds, ih]
    show (if s.nt + 1 ≤ t ∧ t < s.nt + 1 + ps.length then (ps[t - (s.nt + 1)]?).map fun p => (⟨p.1, p.2, true⟩ : Rw) else if t = s.nt then some ⟨p.1, p.2, true⟩ else s.R t) = _
    by_cases h : t = s.nt
    · subst h
      rw [if_neg (by omega), if_pos rfl, if_pos (by simp)]
      simp
    · by_cases h2 : s.nt + 1 ≤ t ∧ t < s.nt + 1 + ps.length
      · rw [if_pos h2, if_pos (by simp; omega)]
        rw [show t - s.nt = (t - (s.nt + 1)) + 1 by omega]
        simp
      · rw [if_neg h2, if_neg h, if_neg (by simp; omega)]
def rowOf (s : S) : V → Option (Nat × List V)
  | .own t => match s.R t with
    | some ⟨z, xs, true⟩ => some (z, xs)
    | _ => none
  | .sub t i o => s.nest t i o
  | _ => none
def hdr (M : Mem) : V → Value
  | .own t => M.ρ t
  | .sub t i o => M.σ t i o
  | _ => undef
def tokU : V → Nat
  | .own t => t
  | .sub t _ _ => t
  | _ => 0
structure Way (M : Mem) (W : World) (s : S) (Mc : Mem) (m : V → V) (un : V → List V) (ok : V → Prop) : Prop where
  go : ∀ x v, ok x → SRL M W x v → (un x = [] ∧ (∀ sc, adL (m x) sc = (m x, sc)) ∧ SRL Mc W (m x) v) ∨
    (∃ u p, un x = [u] ∧ m x = .inl p.1 p.2 ∧ rowOf s u = some p ∧ v = hdr M u)
def At (U : List V) (k : Nat) (us : List V) : Prop := ∀ j u, us[j]? = some u → U[k + j]? = some u
theorem At.left {U us us' : List V} {k : Nat} (h : At U k (us ++ us')) : At U k us := fun j u hj => h j u (by
  rw [List.getElem?_append_left (List.getElem?_eq_some_iff.1 hj).1]
  exact hj)
theorem At.right {U us us' : List V} {k : Nat} (h : At U k (us ++ us')) : At U (k + us.length) us' := fun j u hj => by
  have := h (us.length + j) u (by rw [List.getElem?_append_right (by omega)]; simpa using hj)
  rwa [← Nat.add_assoc] at this
structure Rows' (M : Mem) (s : S) (Mc : Mem) (U : List V) : Prop where
  nt : Mc.nt = U.length
  ρ : ∀ k u, U[k]? = some u → Mc.ρ k = hdr M u
theorem way_leaf {Mc : Mem} {m : V → V} {un : V → List V} {ok : V → Prop} {U : List V} (hw : Way M W s Mc m un ok) (hr : Rows' M s Mc U) {x : V} {v : Value} (hk0 : ok x) (hx : SRL M W x v) {sc : S} (hat : At U sc.nt (un x)) :
    SRL Mc W (adL (m x) sc).1 v ∧ (adL (m x) sc).2 = sc.adds ((un x).filterMap (rowOf s)) ∧ (∀ u ∈ un x, (rowOf s u).isSome) := by
  rcases hw.go x v hk0 hx with ⟨h1, h2, h3⟩ | ⟨u, p, h1, h2, h3, h4⟩
  · rw [h2, h1]
    exact ⟨h3, rfl, by simp⟩
  · rw [h1] at hat
    have hk := hat 0 u rfl
    rw [Nat.add_zero] at hk
    rw [h2, h1]
    refine ⟨⟨?_, ?_⟩, ?_, ?_⟩
    · rw [hr.nt]
      exact (List.getElem?_eq_some_iff.1 hk).1
    · rw [h4, hr.ρ _ _ hk]
    · simp [h3, S.adds, adL]
    · simp [h3]
theorem way_leaves {Mc : Mem} {m : V → V} {un : V → List V} {ok : V → Prop} {U : List V} (hw : Way M W s Mc m un ok) (hr : Rows' M s Mc U) : ∀ {xs : List V} {vs : List Value}, (∀ x ∈ xs, ok x) → All2 (SRL M W) xs vs → ∀ {sc : S}, At U sc.nt (xs.flatMap un) →
    All2 (SRL Mc W) (adLs (xs.map m) sc).1 vs ∧ (adLs (xs.map m) sc).2 = sc.adds ((xs.flatMap un).filterMap (rowOf s)) ∧ (∀ u ∈ xs.flatMap un, (rowOf s u).isSome)
  | [], [], _, _, sc, _ => ⟨trivial, rfl, by simp⟩
  | x :: xs, v :: vs, hok, hx, sc, hat => by
    rw [List.flatMap_cons] at hat
    obtain ⟨h1, h2, h3⟩ := way_leaf hw hr (hok x (by simp)) hx.1 hat.left
    have hlen : ((un x).filterMap (rowOf s)).length = (un x).length := by
      have : ∀ l : List V, (∀ u ∈ l, (rowOf s u).isSome) → (l.filterMap (rowOf s)).length = l.length := by
        intro l
        induction l with
        | nil => intro _; rfl
        | cons y l ih =>
          intro hy
          obtain ⟨p, hp⟩ := Option.isSome_iff_exists.1 (hy y (by simp))
          rw [List.filterMap_cons, hp]
          simp only [List.length_cons]
          rw [ih fun u hu => hy u (by simp [hu])]
      exact this _ h3
    obtain ⟨h4, h5, h6⟩ := way_leaves hw hr (fun y hy => hok y (by simp [hy])) hx.2 (sc := (adL (m x) sc).2) (by
      rw [h2, adds_nt, hlen]
      exact hat.right)
    refine ⟨⟨h1, h4⟩, ?_, ?_⟩
    · simp only [List.map_cons, adLs]
      rw [h5, h2, List.flatMap_cons, List.filterMap_append, adds_append]
    · intro u hu
      rw [List.flatMap_cons, List.mem_append] at hu
      rcases hu with hu | hu
      · exact h3 u hu
      · exact h6 u hu
theorem units_length {us : List V} (h : ∀ u ∈ us, (rowOf s u).isSome) : (us.filterMap (rowOf s)).length = us.length := by
  induction us with
  | nil => rfl
  | cons y l ih =>
    obtain ⟨p, hp⟩ := Option.isSome_iff_exists.1 (h y (by simp))
    rw [List.filterMap_cons, hp]
    simp only [List.length_cons]
    rw [ih fun u hu => h u (by simp [hu])]
theorem adC_leaves (c : V) (sc : S) (m : V → V) (hm : ∀ x ys, m x ≠ .agg ys) : leaves (adC (onL1 m c) sc).1 = (adLs ((leaves c).map m) sc).1 ∧ (adC (onL1 m c) sc).2 = (adLs ((leaves c).map m) sc).2 := by
  by_cases hc : ∃ xs, c = .agg xs
  · obtain ⟨xs, rfl⟩ := hc
    exact ⟨rfl, rfl⟩
  · have e1 : onL1 m c = m c := by
      cases c <;> first | rfl | exact absurd ⟨_, rfl⟩ hc
    have e2 : leaves c = [c] := by
      cases c <;> first | rfl | exact absurd ⟨_, rfl⟩ hc
    have e3 : adC (m c) sc = adL (m c) sc := by
      unfold adC
      split
      · rename_i h; exact absurd h (hm _ _)
      · rfl
    have e4 : ∀ ys, (adL (m c) sc).1 ≠ .agg ys := by
      intro ys
      unfold adL
      split
      · simp
      · rename_i h
        exact hm _ _
    rw [e1, e2, e3]
    have e5 : leaves (adL (m c) sc).1 = [(adL (m c) sc).1] := by
      generalize (adL (m c) sc).1 = y at *
      cases y <;> first | rfl | exact absurd rfl (e4 _)
    rw [e5]
    exact ⟨rfl, rfl⟩
theorem way_one {Mc : Mem} {m : V → V} {un : V → List V} {ok : V → Prop} {U : List V} (hw : Way M W s Mc m un ok) (hm : ∀ x ys, m x ≠ .agg ys) (hr : Rows' M s Mc U) {x : V} {v : Value} (hk0 : ∀ y ∈ leaves x, ok y) (hx : SR1 M W x v) {sc : S} (hat : At U sc.nt ((leaves x).flatMap un)) :
    SR1 Mc W (adC (onL1 m x) sc).1 v ∧ (adC (onL1 m x) sc).2 = sc.adds (((leaves x).flatMap un).filterMap (rowOf s)) ∧ (∀ u ∈ (leaves x).flatMap un, (rowOf s u).isSome) := by
  cases x with
  | agg xs =>
    obtain ⟨vs, rfl, ha⟩ := hx
    obtain ⟨h1, h2, h3⟩ := way_leaves hw hr hk0 ha hat
    exact ⟨⟨vs, rfl, h1⟩, h2, h3⟩
  | _ =>
    simp only [SR1] at hx
    simp only [leaves, List.flatMap_cons, List.flatMap_nil, List.append_nil, onL1] at hat ⊢
    obtain ⟨h1, h2, h3⟩ := way_leaf hw hr (hk0 _ (by simp [leaves])) hx hat
    have e3 : ∀ y : V, (∀ ys, y ≠ .agg ys) → adC y sc = adL y sc := by
      intro y hy
      unfold adC
      split
      · exact absurd rfl (hy _)
      · rfl
    rw [e3 _ (hm _)]
    exact ⟨SR1_of_L' h1, h2, h3⟩
theorem showL_noAgg (s : S) (x : V) : ∀ ys, showL s x ≠ .agg ys := by
  intro ys
  unfold showL
  split <;> (try split) <;> simp
theorem giveL_noAgg (s : S) (x : V) : ∀ ys, giveL s x ≠ .agg ys := by
  intro ys
  unfold giveL
  split
  · split <;> simp
  · split <;> simp
  · exact showL_noAgg s _ ys
theorem closeL_noAgg (s : S) (x : V) : ∀ ys, closeL s x ≠ .agg ys := by
  intro ys
  unfold closeL
  split <;> (try split) <;> simp
theorem contL_noAgg (s : S) (x : V) : ∀ ys, contL s x ≠ .agg ys := by
  intro ys
  unfold contL
  split
  · simp
  · exact closeL_noAgg s _ ys
theorem renL_noAgg (bs : List Nat) (s : S) (x : V) : ∀ ys, renL bs s x ≠ .agg ys := by
  intro ys
  unfold renL
  split
  · unfold renP
    split <;> (try split) <;> simp
  · split <;> simp
  · exact showL_noAgg s _ ys
def Recon (M : Mem) (W : World) (s : S) (u : V) (B : Nat → Prop) : Prop :=
  match u with
  | .sub t i o => ∀ r, s.R t = some r → ∀ (W' : World) (F' : Nat → Prop) (B' : Nat → Prop) (z : Nat) (ys : List V), (∀ b, M.F b → W'.heap[b]? = W.heap[b]?) → (∀ b, M.F b → F' b) →
      (∀ b, M.ω b = some (.tok t) → ¬ B b → W'.heap[b]? = W.heap[b]?) → OwnN W' F' B' z (M.σ t i o) ys → (∀ b, B' b → M.ω b ≠ some (.tok t) ∨ B b) →
      (∃ B'', OwnN W' F' B'' r.sz (M.ρ t) (setLeaf r.xs i o (.inl z ys)) ∧ ∀ b, B'' b → B' b ∨ (M.ω b = some (.tok t) ∧ ¬ B b)) ∧
      ∀ j k z' ys', leafAt (setLeaf r.xs i o (.inl z ys)) j k = some (.inl z' ys') → ∀ b p m c, M.ρ t = .slice (some ⟨b, p, none⟩) m c → W'.cell? ⟨b, p + j * r.sz + k, none⟩ = some (M.σ t j k)
  | _ => True
theorem leaves_ne {c : V} (hc : ¬ ∃ xs, c = .agg xs) : leaves c = [c] := by
  cases c <;> first | rfl | exact absurd ⟨_, rfl⟩ hc
theorem putAt_leaves {c v : V} {o : Nat} (h : o + (leaves v).length ≤ (leaves c).length) (hv : 0 < (leaves v).length) : leaves (putAt c o v) = (leaves c).take o ++ leaves v ++ (leaves c).drop (o + (leaves v).length) := by
  by_cases hc : ∃ xs, c = .agg xs
  · obtain ⟨xs, rfl⟩ := hc
    rfl
  · have e1 : putAt c o v = v := by cases c <;> first | rfl | exact absurd ⟨_, rfl⟩ hc
    have e2 := leaves_ne hc
    rw [e2] at h ⊢
    simp only [List.length_singleton] at h
    obtain rfl : o = 0 := by omega
    have e3 : (leaves v).length = 1 := by omega
    rw [e1, e3]
    simp
theorem leafAt_setLeaf {xs : List V} {i o : Nat} {l0 v : V} (h0 : leafAt xs i o = some l0) (hv : leaves v = [v]) (j k : Nat) : leafAt (setLeaf xs i o v) j k = if j = i ∧ k = o then some v else leafAt xs j k := by
  unfold leafAt at h0
  rw [Option.bind_eq_some_iff] at h0
  obtain ⟨e, he, hl⟩ := h0
  have hi := (List.getElem?_eq_some_iff.1 he).1
  have ho := (List.getElem?_eq_some_iff.1 hl).1
  have hg : xs.getD i .bad = e := by simp [List.getD, he]
  have hput : leaves (putAt e o v) = (leaves e).take o ++ v :: (leaves e).drop (o + 1) := by
    rw [putAt_leaves (by rw [hv]; simp only [List.length_singleton]; omega) (by rw [hv]; simp), hv]
    simp
  unfold leafAt setLeaf
  rw [hg]
  by_cases hj : j = i
  · subst hj
    rw [List.getElem?_set_self hi]
    simp only [Option.bind_some, hput, true_and, he]
    by_cases hk : k = o
    · subst hk
      rw [if_pos rfl, List.getElem?_append_right (by simp; omega)]
      simp [Nat.min_eq_left (Nat.le_of_lt ho)]
    · rw [if_neg hk]
      rcases Nat.lt_or_ge k o with h | h
      · rw [List.getElem?_append_left (by simp; omega), List.getElem?_take_of_lt h]
      · rw [List.getElem?_append_right (by simp; omega)]
        have e1 : k - ((leaves e).take o).length = (k - o - 1) + 1 := by simp; omega
        rw [e1, List.getElem?_cons_succ, List.getElem?_drop]
        congr 1
        omega
  · rw [List.getElem?_set_ne (by omega), if_neg (by omega)]
theorem setLeaf_length (xs : List V) (i o : Nat) (v : V) : (setLeaf xs i o v).length = xs.length := by simp [setLeaf]
theorem setLeaf_sizes {xs : List V} {i o z : Nat} {l0 v : V} (h0 : leafAt xs i o = some l0) (hv : leaves v = [v]) (hs : ∀ e ∈ xs, (leaves e).length = z) : ∀ e ∈ setLeaf xs i o v, (leaves e).length = z := by
  intro e he
  unfold leafAt at h0
  rw [Option.bind_eq_some_iff] at h0
  obtain ⟨e0, he0, hl⟩ := h0
  have ho := (List.getElem?_eq_some_iff.1 hl).1
  have hg : xs.getD i .bad = e0 := by simp [List.getD, he0]
  have h1 := hs e0 (List.mem_of_getElem? he0)
  rcases List.mem_or_eq_of_mem_set he with he | rfl
  · exact hs e he
  · rw [hg, putAt_leaves (by rw [hv]; simp only [List.length_singleton]; omega) (by rw [hv]; simp), hv]
    simp
    omega
theorem Row.recon {t i o : Nat} {r : Rw} (hr0 : s.R t = some r) (h : Row M W t r) (hw : r.wr = true) {z : Nat} {ys : List V} (hl : leafAt r.xs i o = some (.inl z ys)) :
    ∃ B, OwnN W M.F B z (M.σ t i o) ys ∧ (∀ b, B b → M.ω b = some (.tok t)) ∧ Recon M W s (.sub t i o) B := by
  rcases h with ⟨-, B, h1, h2, h3⟩ | ⟨hw', -⟩
  · obtain ⟨b, p, c, hρ⟩ := Row.hdr (M := M) (W := W) (.inl ⟨hw, B, h1, h2, h3⟩) (leafAt_ne hl)
    have hσ := h3 i o z ys hl b p _ c hρ
    have hr1 := hr0
    obtain ⟨z0, xs, wr⟩ := r
    simp only at hl h1 h2 h3 hσ hρ
    have hhdr := h1.head hρ (leafAt_ne hl)
    rw [hρ] at h1
    generalize hlen : xs.length = m at h1 hρ
    cases h1 with
    | nil => simp [leafAt] at hl
    | row _ _ _ _ _ _ cs ty u Bs hB hBs hd hb hn hm hcs hs hc hl' hN =>
      rw [cell_of hb, hc i o _ hl] at hσ
      have hσ' := Option.some.inj hσ
      refine ⟨Bs i o, by rw [← hσ']; exact hN i o z ys hl, fun x hx => h2 x (hBs i o x hx).1, ?_⟩
      intro r' hr' W' F' B' z' ys' hFW hFF hold hnew hB'
      rw [hr0] at hr'
      cases hr'
      simp only
      have hbnot : ¬ Bs i o b := fun hx => (hBs i o b hx).2 rfl
      have hbW := hold b (h2 b hB) hbnot
      have hat := fun j k => leafAt_setLeaf (v := .inl z' ys') hl rfl j k
      refine ⟨⟨fun x => x = b ∨ B' x ∨ ∃ j k, ¬ (j = i ∧ k = o) ∧ Bs j k x, ?_, fun x hx => ?_⟩, fun j k z2 ys2 hl2 b2 p2 m2 c2 hρ2 => ?_⟩
      · rw [hρ, ← hlen, ← setLeaf_length xs i o (.inl z' ys')]
        refine .row _ z0 _ b p c cs ty u (fun j k => if j = i ∧ k = o then B' else Bs j k) (.inl rfl) (fun j k x hx => ?_) (fun j k j' k' x hx hx' => ?_) (hbW.trans hb) (by rw [setLeaf_length]; exact hn) hm hcs (setLeaf_sizes hl rfl hs) (fun j k l hjk => ?_) (fun j k l hjk hne => ?_) (fun j k z2 ys2 hjk => ?_)
        · split at hx
          · refine ⟨.inr (.inl hx), ?_⟩
            rintro rfl
            rcases hB' _ hx with h4 | h4
            · exact h4 (h2 _ hB)
            · exact hbnot h4
          · rename_i hne
            exact ⟨.inr (.inr ⟨j, k, hne, hx⟩), (hBs j k x hx).2⟩
        · have clash : ∀ j k, ¬ (j = i ∧ k = o) → Bs j k x → ¬ B' x := fun j k hne h4 h5 => by
            rcases hB' x h5 with h6 | h6
            · exact h6 (h2 x (hBs j k x h4).1)
            · exact hne (hd _ _ _ _ x h4 h6)
          split at hx
          · split at hx'
            · rename_i e1 e2; exact ⟨e1.1.trans e2.1.symm, e1.2.trans e2.2.symm⟩
            · rename_i hne; exact absurd hx (clash _ _ hne hx')
          · rename_i hne
            split at hx'
            · exact absurd hx' (clash _ _ hne hx)
            · exact hd _ _ _ _ x hx hx'
        · rw [hat] at hjk
          split at hjk
          · rename_i e; obtain ⟨rfl, rfl⟩ := e; exact hc _ _ _ hl
          · exact hc _ _ _ hjk
        · rw [hat] at hjk
          split at hjk
          · cases hjk; exact absurd rfl (hne _ _)
          · exact (hl' _ _ _ hjk hne).mono hFW hFF
        · rw [hat] at hjk
          by_cases e : j = i ∧ k = o
          · rw [if_pos e] at hjk
            cases hjk
            simp only [if_pos e]
            obtain ⟨rfl, rfl⟩ := e
            rw [hσ']
            exact hnew
          · rw [if_neg e] at hjk
            simp only [if_neg e]
            exact (hN _ _ _ _ hjk).mono hFW hFF fun x hx => ⟨hx, hold x (h2 x (hBs j k x hx).1) fun h4 => e (hd _ _ _ _ x hx h4)⟩
      · rcases hx with rfl | hx | ⟨j, k, hne, hx⟩
        · exact .inr ⟨h2 _ hB, hbnot⟩
        · exact .inl hx
        · exact .inr ⟨h2 x (hBs j k x hx).1, fun h4 => hne (hd _ _ _ _ x hx h4)⟩
      · rw [hρ] at hρ2
        cases hρ2
        rw [World.cell?_of_block hbW]
        rw [hat] at hl2
        split at hl2
        · rename_i e
          obtain ⟨rfl, rfl⟩ := e
          rw [cell_of hb, hc _ _ _ hl, hσ']
        · exact h3 j k z2 ys2 hl2 _ _ _ _ (by rw [hρ])
  · rw [hw] at hw'; cases hw'
theorem unit_recon (h : MemOK M W s) {u : V} {z : Nat} {ys : List V} (hu : rowOf s u = some (z, ys)) :
    ∃ B, OwnN W M.F B z (hdr M u) ys ∧ (∀ b, B b → M.ω b = some (.tok (tokU u))) ∧ Recon M W s u B := by
  unfold rowOf at hu
  split at hu
  · rename_i t
    split at hu
    · rename_i z' xs hR
      cases hu
      obtain ⟨h1, h2⟩ := h.row t _ hR
      rcases h2 with ⟨-, B, h3, h4, -⟩ | ⟨hw, -⟩
      · exact ⟨B, h3, h4, trivial⟩
      · cases hw
    · cases hu
  · rename_i t i o
    obtain ⟨r, h1, h2, h3⟩ := nest_spec hu
    obtain ⟨h4, h5⟩ := h.row t r h1
    exact Row.recon h1 h5 h2 h3
  · cases hu
noncomputable def unitB (M : Mem) (W : World) (s : S) (u : V) : Nat → Prop := by
  classical exact if h : ∃ p : Nat × List V, rowOf s u = some p ∧ ∃ B, OwnN W M.F B p.1 (hdr M u) p.2 ∧ (∀ b, B b → M.ω b = some (.tok (tokU u))) ∧ Recon M W s u B then Classical.choose (Classical.choose_spec h).2 else fun _ => False
theorem unitB_spec' (h : MemOK M W s) {u : V} {p : Nat × List V} (hu : rowOf s u = some p) : OwnN W M.F (unitB M W s u) p.1 (hdr M u) p.2 ∧ (∀ b, unitB M W s u b → M.ω b = some (.tok (tokU u))) ∧ Recon M W s u (unitB M W s u) := by
  have hex : ∃ p : Nat × List V, rowOf s u = some p ∧ ∃ B, OwnN W M.F B p.1 (hdr M u) p.2 ∧ (∀ b, B b → M.ω b = some (.tok (tokU u))) ∧ Recon M W s u B := ⟨p, hu, unit_recon h (by rw [hu])⟩
  unfold unitB
  rw [dif_pos hex]
  have h1 := Classical.choose_spec hex
  have h2 := Classical.choose_spec h1.2
  have e : Classical.choose hex = p := Option.some.inj (h1.1.symm.trans hu)
  rw [← e]
  exact h2
theorem unitB_spec (h : MemOK M W s) {u : V} {p : Nat × List V} (hu : rowOf s u = some p) : OwnN W M.F (unitB M W s u) p.1 (hdr M u) p.2 ∧ ∀ b, unitB M W s u b → M.ω b = some (.tok (tokU u)) :=
  ⟨(unitB_spec' h hu).1, (unitB_spec' h hu).2.1⟩
def isGiven (M : Mem) (W : World) (s : S) (U : List V) (bs : List Nat) (b : Nat) : Prop := (∃ u ∈ U, unitB M W s u b) ∨ ∃ k ∈ bs, M.ω b = some (.box k) ∧ M.β k = b
open Classical in
noncomputable def Mem.enter (M : Mem) (W : World) (s : S) (U : List V) (bs ft : List Nat) : Mem where
  F := fun b => M.F b ∨ ∃ t ∈ ft, M.ω b = some (.tok t)
  ω := fun b => match M.ω b with
    | some (.box k) => if k ∈ bs ∧ M.β k = b then some (.box (bs.idxOf k)) else none
    | some (.tok t) => if h : ∃ j : Nat, ∃ u, U[j]? = some u ∧ unitB M W s u b then some (.tok (Classical.choose h)) else none
    | none => none
  β := fun i => M.β (bs.getD i 0)
  ρ := fun k => hdr M (U.getD k .bad)
  σ := fun k j i => cellOf W (hdr M (U.getD k .bad)) (((rowOf s (U.getD k .bad)).map (·.1)).getD 0) j i
  nt := U.length
  nb := bs.length
section
variable {U : List V} {bs ft : List Nat}
theorem enter_rows : Rows' M s (M.enter W s U bs ft) U := ⟨rfl, fun k u hk => by simp [Mem.enter, List.getD, hk]⟩
theorem enter_tok (h : MemOK M W s) (hU : ∀ u ∈ U, (rowOf s u).isSome) (hnd : (U.map tokU).Nodup) {j : Nat} {u : V} (hj : U[j]? = some u) {b : Nat} (hb : unitB M W s u b) : (M.enter W s U bs ft).ω b = some (.tok j) := by
  obtain ⟨p, hp⟩ := Option.isSome_iff_exists.1 (hU u (List.mem_of_getElem? hj))
  have h1 := (unitB_spec h hp).2 b hb
  have hex : ∃ j : Nat, ∃ u, U[j]? = some u ∧ unitB M W s u b := ⟨j, u, hj, hb⟩
  have e : (M.enter W s U bs ft).ω b = some (.tok (Classical.choose hex)) := by
    simp only [Mem.enter, h1]
    rw [dif_pos hex]
  rw [e]
  obtain ⟨u', h2, h3⟩ := Classical.choose_spec hex
  obtain ⟨p', hp'⟩ := Option.isSome_iff_exists.1 (hU u' (List.mem_of_getElem? h2))
  have h4 := (unitB_spec h hp').2 b h3
  rw [h1] at h4
  have h5 : tokU u = tokU u' := Root.tok.inj (Option.some.inj h4)
  have h6 : (U.map tokU)[j]? = some (tokU u) := by rw [List.getElem?_map, hj]; rfl
  have h7 : (U.map tokU)[Classical.choose hex]? = some (tokU u) := by rw [List.getElem?_map, h2]; simp [h5]
  have h8 : j < (U.map tokU).length := (List.getElem?_eq_some_iff.1 h6).1
  have := (List.getElem?_inj h8 hnd).1 (h6.trans h7.symm)
  rw [← this]
theorem enter_some (h : MemOK M W s) (hU : ∀ u ∈ U, (rowOf s u).isSome) {b : Nat} {l : Root} (hl : (M.enter W s U bs ft).ω b = some l) :
    (∃ j u, U[j]? = some u ∧ unitB M W s u b ∧ l = .tok j) ∨ (∃ k, k ∈ bs ∧ M.ω b = some (.box k) ∧ M.β k = b ∧ l = .box (bs.idxOf k)) := by
  cases hb : M.ω b with
  | none => simp only [Mem.enter, hb] at hl; cases hl
  | some r =>
    cases r with
    | tok t =>
      simp only [Mem.enter, hb] at hl
      split at hl
      · rename_i hex
        obtain ⟨u, h1, h2⟩ := Classical.choose_spec hex
        cases hl
        exact .inl ⟨_, u, h1, h2, rfl⟩
      · cases hl
    | box k =>
      simp only [Mem.enter, hb] at hl
      split at hl
      · rename_i hk
        cases hl
        exact .inr ⟨k, hk.1, rfl, hk.2, rfl⟩
      · cases hl
theorem enter_given (h : MemOK M W s) (hU : ∀ u ∈ U, (rowOf s u).isSome) {b : Nat} (hl : (M.enter W s U bs ft).ω b ≠ none) : isGiven M W s U bs b := by
  obtain ⟨l, hl⟩ := Option.ne_none_iff_exists'.1 hl
  rcases enter_some h hU hl with ⟨j, u, h1, h2, -⟩ | ⟨k, h1, h2, h3, -⟩
  · exact .inl ⟨u, List.mem_of_getElem? h1, h2⟩
  · exact .inr ⟨k, h1, h2, h3⟩
theorem given_lab (h : MemOK M W s) (hU : ∀ u ∈ U, (rowOf s u).isSome) {b : Nat} (hb : isGiven M W s U bs b) : (∃ u ∈ U, unitB M W s u b ∧ M.ω b = some (.tok (tokU u))) ∨ ∃ k ∈ bs, M.ω b = some (.box k) ∧ M.β k = b := by
  rcases hb with ⟨u, hu, hb⟩ | hb
  · obtain ⟨p, hp⟩ := Option.isSome_iff_exists.1 (hU u hu)
    exact .inl ⟨u, hu, hb, (unitB_spec h hp).2 b hb⟩
  · exact .inr hb
theorem enter_frz (h : MemOK M W s) (hU : ∀ u ∈ U, (rowOf s u).isSome) (hft : ∀ t ∈ ft, t ∉ U.map tokU) {b : Nat} (hb : (M.enter W s U bs ft).F b) : (M.enter W s U bs ft).ω b = none ∧ b < W.heap.size := by
  have hlt : b < W.heap.size := by
    rcases hb with hb | ⟨t, -, hb⟩
    · exact (h.frz b hb).2
    · exact h.lt b _ hb
  refine ⟨?_, hlt⟩
  cases e : (M.enter W s U bs ft).ω b with
  | none => rfl
  | some l =>
    exfalso
    rcases enter_some h hU e with ⟨j, u, h1, h2, -⟩ | ⟨k, h1, h2, h3, -⟩
    · obtain ⟨p, hp⟩ := Option.isSome_iff_exists.1 (hU u (List.mem_of_getElem? h1))
      have h4 := (unitB_spec h hp).2 b h2
      rcases hb with hb | ⟨t, h5, hb⟩
      · rw [(h.frz b hb).1] at h4; cases h4
      · rw [hb] at h4
        cases h4
        exact hft _ h5 (List.mem_map.2 ⟨u, List.mem_of_getElem? h1, rfl⟩)
    · rcases hb with hb | ⟨t, h5, hb⟩
      · rw [(h.frz b hb).1] at h2; cases h2
      · rw [hb] at h2; cases h2
theorem enter_F : ∀ b, M.F b → (M.enter W s U bs ft).F b := fun b hb => .inl hb
theorem frow (h : MemOK M W s) {t : Nat} {r : Rw} (hr : s.R t = some r) (ht : r.wr = true → t ∈ ft) : FR W (M.enter W s U bs ft).F (.lst (norms r.xs)) (M.ρ t) := by
  rcases (h.row t r hr).2 with ⟨hw, B, h1, h2, -⟩ | ⟨-, h1, -⟩
  · exact h1.fr (fun b hb => .inl hb) fun b hb => .inr ⟨t, ht hw, h2 b hb⟩
  · exact (FR.norm h1).mono (fun _ _ => rfl) fun b hb => .inl hb
theorem fnest (h : MemOK M W s) {t i o : Nat} {p : Nat × List V} (hr : s.nest t i o = some p) (ht : t ∈ ft) : FR W (M.enter W s U bs ft).F (.lst (norms p.2)) (M.σ t i o) := by
  obtain ⟨r, h1, h2, h3⟩ := nest_spec hr
  obtain ⟨B, h4, h5⟩ := (h.row t r h1).2.nested h2 h3
  exact h4.fr (fun b hb => .inl hb) fun b hb => .inr ⟨t, ht, h5 b hb⟩
theorem FR.toEnter {x : V} {v : Value} (h : FR W M.F x v) : FR W (M.enter W s U bs ft).F x v := h.mono (fun _ _ => rfl) enter_F
theorem LadR.norm {F F' : Nat → Prop} {xs : List V} {i off : Nat} {v : Value} (h : LadR F W xs i off v) (hF : ∀ b, F b → F' b) : LadR F' W (norms xs) i off v := by
  obtain ⟨b, o, c, sz, h1, h2, h3, h4, rfl⟩ := h
  refine ⟨b, o, c, sz, ?_, ?_, fun j k l hl => ?_, by rw [norms_length]; exact h4, rfl⟩
  · have := h1.norm.mono (F' := F') (fun _ _ => rfl) hF
    simp only [TM.norm] at this
    rw [norms_length]
    exact this
  · intro e he
    rw [norms_eq, List.mem_map] at he
    obtain ⟨e', h5, rfl⟩ := he
    rw [leaves_norm, List.length_map]
    exact h2 e' h5
  · obtain ⟨l', h5, rfl⟩ := leafAt_norms hl
    obtain ⟨u, h6, h7⟩ := h3 j k l' h5
    refine ⟨u, h6, ?_⟩
    rw [vw_norm]
    exact h7.norm.mono (F' := F') (fun _ _ => rfl) hF
theorem show_go (h : MemOK M W s) {x : V} {v : Value} (hok : ∀ t, t ∈ tokG x → t ∈ ft) (hx : SRL M W x v) : (∀ sc, adL (showL s x) sc = (showL s x, sc)) ∧ SRL (M.enter W s U bs ft) W (showL s x) v := by
  unfold showL
  split
  · rename_i t
    split
    · rename_i r hr
      obtain ⟨-, rfl⟩ := hx
      exact ⟨fun _ => rfl, frow h hr fun _ => hok t (by simp [tokG])⟩
    · exact ⟨fun _ => rfl, trivial⟩
  · rename_i t i o
    split
    · rename_i p hp
      obtain ⟨-, rfl⟩ := hx
      exact ⟨fun _ => rfl, fnest h hp (hok t (by simp [tokG]))⟩
    · exact ⟨fun _ => rfl, trivial⟩
  · obtain ⟨rfl, A, rfl⟩ := hx
    exact ⟨fun _ => rfl, .nil _ _⟩
  · have hf : FR W M.F (.lst _) v := hx
    exact ⟨fun _ => rfl, hf.norm.toEnter⟩
  · exact ⟨fun _ => rfl, hx⟩
  · exact ⟨fun _ => rfl, hx⟩
  · exact ⟨fun _ => rfl, hx⟩
  · exact ⟨fun _ => rfl, hx⟩
  · obtain ⟨cs, rfl, hc⟩ := hx
    cases cs with
    | nil => exact ⟨fun _ => rfl, [], rfl, trivial⟩
    | cons => exact hc.elim
  · exact ⟨fun _ => rfl, hx⟩
  · exact ⟨fun _ => rfl, hx⟩
  · exact ⟨fun _ => rfl, LadR.norm hx enter_F⟩
  · exact ⟨fun _ => rfl, trivial⟩
theorem way_give (h : MemOK M W s) : Way M W s (M.enter W s U bs ft) (giveL s) (givenL s) (fun _ => True) := ⟨fun x v _ hx => by
  by_cases ho : ∃ t, x = .own t
  · obtain ⟨t, rfl⟩ := ho
    simp only [giveL, givenL]
    cases hr : s.R t with
    | none =>
      left
      exact ⟨rfl, fun _ => rfl, trivial⟩
    | some r =>
      obtain ⟨z, xs, wr⟩ := r
      cases wr with
      | true =>
        right
        exact ⟨_, (z, xs), rfl, rfl, by simp [rowOf, hr], hx.2⟩
      | false =>
        left
        obtain ⟨-, rfl⟩ := hx
        exact ⟨rfl, fun _ => rfl, frow h hr fun e => by cases e⟩
  · by_cases hs : ∃ t i o, x = .sub t i o
    · obtain ⟨t, i, o, rfl⟩ := hs
      simp only [giveL, givenL]
      cases hp : s.nest t i o with
      | some p =>
        right
        exact ⟨_, p, rfl, rfl, hp, hx.2⟩
      | none =>
        left
        exact ⟨rfl, fun _ => rfl, trivial⟩
    · left
      have e1 : givenL s x = [] := by
        cases x <;> first | rfl | exact absurd ⟨_, rfl⟩ ho | exact absurd ⟨_, _, _, rfl⟩ hs
      have e2 : giveL s x = showL s x := by
        cases x <;> first | rfl | exact absurd ⟨_, rfl⟩ ho | exact absurd ⟨_, _, _, rfl⟩ hs
      have e3 : tokG x = [] := by
        cases x <;> first | rfl | exact absurd ⟨_, rfl⟩ ho | exact absurd ⟨_, _, _, rfl⟩ hs
      obtain ⟨h1, h2⟩ := show_go (U := U) (bs := bs) (ft := ft) h (by simp [e3]) hx
      rw [e1, e2]
      exact ⟨rfl, h1, h2⟩⟩
theorem ren_ptr (hx : (b : Nat) → b ∈ bs → True) {b off : Nat} {v : Value} (h : SRL M W (.ptr b off) v) : SRL (M.enter W s U bs ft) W (renP bs (.ptr b off)) v := by
  unfold renP
  simp only
  split
  · rename_i hb
    obtain ⟨h1, rfl⟩ := h
    have hlt := List.idxOf_lt_length_of_mem hb
    refine ⟨hlt, ?_⟩
    have : bs.getD (bs.idxOf b) 0 = b := by
      simp [List.getD, List.getElem?_eq_getElem hlt]
    simp only [Mem.enter, this]
  · trivial
theorem way_ren (h : MemOK M W s) : Way M W s (M.enter W s U bs ft) (renL bs s) (fun _ => []) (fun x => ∀ t, t ∈ tokG x → t ∈ ft) := ⟨fun x v hok hx => by
  left
  refine ⟨rfl, ?_⟩
  unfold renL
  split
  · rename_i b o
    refine ⟨fun sc => ?_, ren_ptr (fun _ _ => trivial) hx⟩
    unfold renP
    simp only
    split <;> rfl
  · rename_i f caps
    split
    · rename_i hc
      refine ⟨fun _ => rfl, ?_⟩
      obtain ⟨cs, rfl, ha⟩ := hx
      refine ⟨cs, rfl, ?_⟩
      have : ∀ (caps : List V) (cs : List Value), caps.all (isPtrIn bs) = true → All2 (CapR M W) caps cs →
          All2 (CapR (M.enter W s U bs ft) W) (caps.map (renP bs)) cs := by
        intro caps
        induction caps with
        | nil => intro cs _ h; cases cs with | nil => trivial | cons => exact h.elim
        | cons c caps ih =>
          intro cs hall ha
          cases cs with
          | nil => exact ha.elim
          | cons w cs =>
            simp only [List.all_cons, Bool.and_eq_true] at hall
            refine ⟨?_, ih cs hall.2 ha.2⟩
            rcases ha.1 with ⟨b, off, rfl, h1, rfl⟩ | ⟨xs, i, off, rfl, -⟩
            rotate_left
            · simp [isPtrIn] at hall
            have hb : b ∈ bs := by simpa [isPtrIn] using hall.1
            have := ren_ptr (M := M) (W := W) (s := s) (U := U) (bs := bs) (ft := ft) (fun _ _ => trivial) (b := b) (off := off) ⟨h1, rfl⟩
            have e : renP bs (.ptr b off) = .ptr (bs.idxOf b) off := by simp [renP, hb]
            rw [e] at this ⊢
            exact .inl ⟨_, _, rfl, this.1, this.2⟩
      exact this caps cs hc ha
    · exact ⟨fun _ => rfl, trivial⟩
  · exact show_go h hok hx⟩
def contU (s : S) : V → List V
  | .own t => match s.R t with
    | some ⟨_, _, true⟩ => [.own t]
    | _ => []
  | _ => []
theorem way_cont (h : MemOK M W s) : Way M W s (M.enter W s U bs ft) (contL s) (contU s) (fun _ => True) := ⟨fun x v _ hx => by
  by_cases ho : ∃ t, x = .own t
  · obtain ⟨t, rfl⟩ := ho
    simp only [contL, closeL, contU]
    cases hr : s.R t with
    | none =>
      left
      exact ⟨rfl, fun _ => rfl, trivial⟩
    | some r =>
      obtain ⟨z, xs, wr⟩ := r
      cases wr with
      | true =>
        right
        exact ⟨_, (z, xs), rfl, rfl, by simp [rowOf, hr], hx.2⟩
      | false =>
        left
        obtain ⟨-, rfl⟩ := hx
        refine ⟨rfl, fun _ => rfl, ?_⟩
        rcases (h.row t _ hr).2 with ⟨hw, -⟩ | ⟨-, h1, -⟩
        · cases hw
        · exact h1.toEnter
  · left
    have e1 : contU s x = [] := by
      cases x <;> first | rfl | exact absurd ⟨_, rfl⟩ ho
    rw [e1]
    refine ⟨rfl, ?_⟩
    unfold contL
    split
    · exact ⟨fun _ => rfl, trivial⟩
    · rename_i hinl
      unfold closeL
      split
      · exact absurd ⟨_, rfl⟩ ho
      · exact absurd rfl (hinl _ _)
      · have hf : FR W M.F (.lst _) v := hx
        exact ⟨fun _ => rfl, hf.toEnter⟩
      · exact ⟨fun _ => rfl, hx⟩
      · exact ⟨fun _ => rfl, hx⟩
      · exact ⟨fun _ => rfl, hx⟩
      · exact ⟨fun _ => rfl, hx⟩
      · obtain ⟨cs, rfl, hc⟩ := hx
        cases cs with
        | nil => exact ⟨fun _ => rfl, [], rfl, trivial⟩
        | cons => exact hc.elim
      · exact ⟨fun _ => rfl, hx⟩
      · exact ⟨fun _ => rfl, hx⟩
      · exact ⟨fun _ => rfl, trivial⟩⟩
end
end
end Go.TM
end
section
namespace Go.TM
open Go
section
variable {P : Program} {E : Env} {M : Mem} {W : World} {s : S} {n : Nat} {a : Act} {U : List V} {bs ft : List Nat}
theorem way_arg {Mc : Mem} {m : V → V} {un : V → List V} {ok : V → Prop} (hw : Way M W s Mc m un ok) (hm : ∀ x ys, m x ≠ .agg ys) (hmt : ∀ xs, m (.tup xs) = .bad ∧ un (.tup xs) = []) (hr : Rows' M s Mc U) {x : V} {v : Value}
    (hk0 : ∀ y ∈ leaves x, ok y) (hx : SR2 M W x v) {sc : S} (hat : At U sc.nt ((leaves x).flatMap un)) :
    SR1 Mc W (adC (onL1 m x) sc).1 v ∧ (adC (onL1 m x) sc).2 = sc.adds (((leaves x).flatMap un).filterMap (rowOf s)) ∧ (∀ u ∈ (leaves x).flatMap un, (rowOf s u).isSome) := by
  by_cases ht : ∃ xs, x = .tup xs
  · obtain ⟨xs, rfl⟩ := ht
    have e1 : onL1 m (.tup xs) = .bad := (hmt xs).1
    have e2 : (leaves (.tup xs)).flatMap un = [] := by simp [leaves, (hmt xs).2]
    rw [e1, e2]
    exact ⟨trivial, rfl, by simp⟩
  · exact way_one hw hm hr hk0 (SR1_of_2 hx (by cases x <;> first | rfl | exact absurd ⟨_, rfl⟩ ht)) hat
theorem args_enter (h : MemOK M W s) (hr : Rows' M s (M.enter W s U bs ft) U) : ∀ (w : List Bool) (args : List V) (vs : List Value) (sc : S), All2 (SR2 M W) args vs → (∀ t ∈ ftoks (kept w args), t ∈ ft) → At U sc.nt (given s w args) →
    All2 (SR1 (M.enter W s U bs ft) W) (adCs (argsG s bs w args) sc).1 vs ∧ (adCs (argsG s bs w args) sc).2 = sc.adds ((given s w args).filterMap (rowOf s)) ∧ (∀ u ∈ given s w args, (rowOf s u).isSome) := by
  have hgt : ∀ xs, giveL s (.tup xs) = .bad ∧ givenL s (.tup xs) = [] := fun xs => ⟨rfl, rfl⟩
  have hrt : ∀ xs, renL bs s (.tup xs) = .bad ∧ (fun _ : V => ([] : List V)) (.tup xs) = [] := fun xs => ⟨rfl, rfl⟩
  have ren : ∀ (x : V) (v : Value) (sc : S), SR2 M W x v → (∀ t ∈ (leaves x).flatMap tokG, t ∈ ft) → SR1 (M.enter W s U bs ft) W (adC (onL1 (renL bs s) x) sc).1 v ∧ (adC (onL1 (renL bs s) x) sc).2 = sc := fun x v sc hx hf => by
    obtain ⟨h1, h2, -⟩ := way_arg (way_ren (U := U) (bs := bs) (ft := ft) h) (renL_noAgg bs s) hrt hr (fun y hy t ht => hf t (List.mem_flatMap.2 ⟨y, hy, ht⟩)) hx (sc := sc) (by
      intro j u hj
      have : ∀ l : List V, (l.flatMap fun _ => ([] : List V)) = [] := fun l => by induction l <;> simp [*]
      rw [this] at hj
      simp at hj)
    refine ⟨h1, ?_⟩
    rw [h2]
    have : ∀ l : List V, (l.flatMap fun _ => ([] : List V)) = [] := fun l => by induction l <;> simp [*]
    rw [this]
    rfl
  intro w args
  induction args generalizing w with
  | nil =>
    intro vs sc ha _ _
    cases vs with
    | cons => exact ha.elim
    | nil =>
      have : argsG s bs w [] = [] ∧ given s w [] = [] := by cases w with | nil => exact ⟨rfl, rfl⟩ | cons b w => cases b <;> exact ⟨rfl, rfl⟩
      rw [this.1, this.2]
      exact ⟨trivial, rfl, by simp⟩
  | cons x args ih =>
    intro vs sc ha hf hat
    cases vs with
    | nil => exact ha.elim
    | cons v vs =>
      have other : ∀ w', argsG s bs w (x :: args) = onL1 (renL bs s) x :: argsG s bs w' args → given s w (x :: args) = given s w' args → kept w (x :: args) = x :: kept w' args → 
          All2 (SR1 (M.enter W s U bs ft) W) (adCs (argsG s bs w (x :: args)) sc).1 (v :: vs) ∧ (adCs (argsG s bs w (x :: args)) sc).2 = sc.adds ((given s w (x :: args)).filterMap (rowOf s)) ∧ (∀ u ∈ given s w (x :: args), (rowOf s u).isSome) := by
        intro w' e1 e2 e3
        rw [e3] at hf
        obtain ⟨h1, h2⟩ := ren x v sc ha.1 fun t ht => hf t (by simp only [ftoks, List.flatMap_cons, List.mem_append]; exact .inl ht)
        obtain ⟨h3, h4, h5⟩ := ih w' vs sc ha.2 (fun t ht => hf t (by simp only [ftoks, List.flatMap_cons, List.mem_append]; exact .inr ht)) (by rw [← e2]; exact hat)
        rw [e1, e2]
        simp only [adCs]
        rw [h2]
        exact ⟨⟨h1, h3⟩, h4, h5⟩
      cases w with
      | nil => exact other [] rfl rfl rfl
      | cons b w =>
        cases b with
        | false => exact other w rfl rfl rfl
        | true =>
          have e1 : argsG s bs (true :: w) (x :: args) = onL1 (giveL s) x :: argsG s bs w args := rfl
          have e2 : given s (true :: w) (x :: args) = (leaves x).flatMap (givenL s) ++ given s w args := rfl
          have e3 : kept (true :: w) (x :: args) = kept w args := rfl
          rw [e2] at hat
          rw [e3] at hf
          obtain ⟨h1, h2, h6⟩ := way_arg (way_give (U := U) (bs := bs) (ft := ft) h) (giveL_noAgg s) hgt hr (fun _ _ => trivial) ha.1 hat.left
          obtain ⟨h3, h4, h5⟩ := ih w vs (adC (onL1 (giveL s) x) sc).2 ha.2 hf (by rw [h2, adds_nt, units_length h6]; exact hat.right)
          rw [e1, e2]
          simp only [adCs]
          refine ⟨⟨h1, h3⟩, ?_, ?_⟩
          · rw [h4, h2, List.filterMap_append, adds_append]
          · intro u hu
            rcases List.mem_append.1 hu with hu | hu
            · exact h6 u hu
            · exact h5 u hu
def boxU (s : S) (b : Nat) : List V := match s.B b with
  | some c => (leaves c).flatMap (contU s)
  | none => []
theorem boxU_toks (s : S) (b : Nat) : (boxU s b).map tokU = s.boxToks b := by
  unfold boxU S.boxToks
  cases s.B b with
  | none => rfl
  | some c =>
    have key : ∀ l : List V, (l.flatMap (contU s)).map tokU = (l.flatMap tokL).filter s.wrT := by
      intro l
      induction l with
      | nil => rfl
      | cons x l ih =>
        rw [List.flatMap_cons, List.flatMap_cons, List.map_append, List.filter_append, ih]
        congr 1
        cases x <;> try rfl
        rename_i t
        simp only [contU, tokL]
        cases hr : s.R t with
        | none => simp [hr, S.wrT]
        | some r =>
          obtain ⟨z, xs, wr⟩ := r
          cases wr <;> simp [hr, tokU, S.wrT]
    rw [key]
    have : toks1 c = (leaves c).flatMap tokL := by cases c <;> simp [toks1, leaves]
    show _ = (toks1 c).filter _
    rw [this]
theorem conts_enter (h : MemOK M W s) (hr : Rows' M s (M.enter W s U bs ft) U) : ∀ (ks : List Nat) (sc : S), (∀ k ∈ ks, (s.B k).isSome) → At U sc.nt (ks.flatMap (boxU s)) →
    (adCs (ks.map s.cont) sc).2 = sc.adds ((ks.flatMap (boxU s)).filterMap (rowOf s)) ∧ (∀ u ∈ ks.flatMap (boxU s), (rowOf s u).isSome) ∧ (adCs (ks.map s.cont) sc).1.length = ks.length ∧
      ∀ (i : Nat) (c' : V), (adCs (ks.map s.cont) sc).1[i]? = some c' → ∃ (k : Nat) (c : V), ks[i]? = some k ∧ s.B k = some c ∧ ∀ vs, All2 (SRL M W) (leaves c) vs → All2 (SRL (M.enter W s U bs ft) W) (leaves c') vs := by
  intro ks
  induction ks with
  | nil => intro sc _ _; exact ⟨rfl, by simp, rfl, by simp [adCs]⟩
  | cons k ks ih =>
    intro sc hB hat
    obtain ⟨c, hc⟩ := Option.isSome_iff_exists.1 (hB k (by simp))
    obtain ⟨hlt, cs, ty, -, -, hcs⟩ := h.box k c hc
    have e1 : s.cont k = onL1 (contL s) c := by simp [S.cont, hc]
    have e2 : boxU s k = (leaves c).flatMap (contU s) := by simp [boxU, hc]
    rw [List.flatMap_cons] at hat
    obtain ⟨hl1, hl2⟩ := adC_leaves c sc (contL s) (contL_noAgg s)
    have hway := way_cont (U := U) (bs := bs) (ft := ft) h
    obtain ⟨-, h2, h3⟩ := way_leaves hway hr (fun _ _ => trivial) hcs (sc := sc) (by rw [← e2]; exact hat.left)
    obtain ⟨h4, h5, h6, h7⟩ := ih (adC (onL1 (contL s) c) sc).2 (fun k hk => hB k (by simp [hk])) (by
      rw [hl2, h2, adds_nt, units_length h3, ← e2]
      exact hat.right)
    simp only [List.map_cons, adCs, e1]
    refine ⟨?_, ?_, ?_, ?_⟩
    · rw [h4, hl2, h2, List.flatMap_cons, List.filterMap_append, adds_append, e2]
    · intro u hu
      rw [List.flatMap_cons] at hu
      rcases List.mem_append.1 hu with hu | hu
      · rw [e2] at hu; exact h3 u hu
      · exact h5 u hu
    · simp [h6]
    · intro i c' hi
      cases i with
      | zero =>
        simp only [List.getElem?_cons_zero, Option.some.injEq] at hi
        subst hi
        refine ⟨k, c, rfl, hc, fun vs hvs => ?_⟩
        rw [hl1]
        exact (way_leaves hway hr (fun _ _ => trivial) hvs (sc := sc) (by rw [← e2]; exact hat.left)).1
      | succ i =>
        simp only [List.getElem?_cons_succ] at hi
        obtain ⟨k', c0, h8, h9, h10⟩ := h7 i c' hi
        exact ⟨k', c0, by simpa using h8, h9, h10⟩
theorem enter_ok (h : MemOK M W s) {w : List Bool} {args : List V} {vs : List Value} {bs : List Nat} (ha : All2 (SR2 M W) args vs) (hbs : bs.Nodup) (hB : ∀ k ∈ bs, (s.B k).isSome)
    (hnd : ((given s w args ++ bs.flatMap (boxU s)).map tokU).Nodup) (hft : ∀ t ∈ ftoks (kept w args), t ∉ (given s w args ++ bs.flatMap (boxU s)).map tokU) :
    let U := given s w args ++ bs.flatMap (boxU s)
    let Mc := M.enter W s U bs (ftoks (kept w args))
    MemOK Mc W (start (argsG s bs w args) (bs.map s.cont)) ∧ All2 (SR1 Mc W) (adCs (argsG s bs w args) S.zero).1 vs ∧ (∀ u ∈ U, (rowOf s u).isSome) := by
  intro U Mc
  have hr : Rows' M s Mc U := enter_rows
  have hat0 : At U 0 (given s w args ++ bs.flatMap (boxU s)) := fun j u hj => by rw [Nat.zero_add]; exact hj
  obtain ⟨h1, h2, h3⟩ := args_enter h hr w args vs S.zero ha (fun _ ht => ht) hat0.left
  have hnt1 : (adCs (argsG s bs w args) S.zero).2.nt = (given s w args).length := by
    rw [h2, adds_nt, units_length h3]
    simp [S.zero]
  obtain ⟨h4, h5, h6, h7⟩ := conts_enter h hr bs (adCs (argsG s bs w args) S.zero).2 hB (by
    rw [hnt1]
    have := hat0.right
    rwa [Nat.zero_add] at this)
  have hU : ∀ u ∈ U, (rowOf s u).isSome := fun u hu => by
    rcases List.mem_append.1 hu with hu | hu
    · exact h3 u hu
    · exact h5 u hu
  have hst : (adCs (bs.map s.cont) (adCs (argsG s bs w args) S.zero).2).2 = S.zero.adds (U.filterMap (rowOf s)) := by
    rw [h4, h2, ← adds_append, ← List.filterMap_append]
  refine ⟨?_, h1, hU⟩
  exact {
    nt := by
      show U.length = (adCs (bs.map s.cont) (adCs (argsG s bs w args) S.zero).2).2.nt
      rw [hst, adds_nt, units_length hU]
      simp [S.zero]
    nb := by simp [start]; rfl
    box := fun i c' hi => by
      have hi' : (adCs (bs.map s.cont) (adCs (argsG s bs w args) S.zero).2).1[i]? = some c' := hi
      obtain ⟨k, c, h8, h9, h10⟩ := h7 i c' hi'
      obtain ⟨h11, cs, ty, h12, h13, h14⟩ := h.box k c h9
      have hlt := (List.getElem?_eq_some_iff.1 h8).1
      have hk : bs.getD i 0 = k := by simp [List.getD, h8]
      have hβ : Mc.β i = M.β k := by simp [Mc, Mem.enter, List.getD, h8]
      refine ⟨hlt, cs, ty, by rw [hβ]; exact h12, ?_, h10 _ h14⟩
      rw [hβ]
      have hmem : k ∈ bs := List.mem_of_getElem? h8
      have hidx : bs.idxOf k = i := by
        have h15 := List.idxOf_lt_length_of_mem hmem
        have h16 : bs[bs.idxOf k]? = some k := by rw [List.getElem?_eq_getElem h15]; simp
        exact ((List.getElem?_inj h15 hbs).1 (h16.trans h8.symm))
      simp only [Mc, Mem.enter, h13]
      simp [hmem, hidx]
    row := fun t r hR => by
      have hR' : (adCs (bs.map s.cont) (adCs (argsG s bs w args) S.zero).2).2.R t = some r := hR
      rw [hst, adds_R] at hR'
      simp only [S.zero, Nat.zero_le, true_and, Nat.zero_add, units_length hU, Nat.sub_zero] at hR'
      split at hR'
      · rename_i hlt
        rw [Option.map_eq_some_iff] at hR'
        obtain ⟨p, hp, rfl⟩ := hR'
        have hidx : ∀ (us : List V), (∀ u ∈ us, (rowOf s u).isSome) → ∀ (t : Nat) (p : Nat × List V), (us.filterMap (rowOf s))[t]? = some p → ∃ u : V, us[t]? = some u ∧ rowOf s u = some p := by
          intro us
          induction us with
          | nil => intro _ t p h; simp at h
          | cons u us ih =>
            intro hu t p ht
            obtain ⟨q, hq⟩ := Option.isSome_iff_exists.1 (hu u (by simp))
            rw [List.filterMap_cons, hq] at ht
            cases t with
            | zero => simp at ht; subst ht; exact ⟨u, rfl, hq⟩
            | succ t =>
              simp only [List.getElem?_cons_succ] at ht
              obtain ⟨u', h8, h9⟩ := ih (fun u hu' => hu u (by simp [hu'])) t p ht
              exact ⟨u', by simpa using h8, h9⟩
        obtain ⟨u, hu1, hu2⟩ := hidx U hU t p hp
        refine ⟨hlt, ?_⟩
        obtain ⟨h8, h9⟩ := unitB_spec h hu2
        have hρ : Mc.ρ t = hdr M u := hr.ρ t u hu1
        refine row_of (v := hdr M u) (h8.mono (fun _ _ => rfl) enter_F fun b hb => ⟨hb, rfl⟩) (fun b hb => enter_tok h hU hnd hu1 hb) hρ (fun j i => ?_)
        simp [Mc, Mem.enter, List.getD, hu1, hu2]
      · cases hR'
    frz := fun b hb => enter_frz h hU hft hb
    lt := fun b l hl => by
      rcases enter_some h hU hl with ⟨j, u, h8, h9, -⟩ | ⟨k, -, h8, -, -⟩
      · obtain ⟨p, hp⟩ := Option.isSome_iff_exists.1 (hU u (List.mem_of_getElem? h8))
        exact h.lt b _ ((unitB_spec h hp).2 b h9)
      · exact h.lt b _ h8
    tok := fun b t hl => by
      rcases enter_some h hU hl with ⟨j, u, h8, h9, h10⟩ | ⟨k, -, -, -, h10⟩
      · cases h10
        exact (List.getElem?_eq_some_iff.1 h8).1
      · cases h10
    bx := fun b k hl => by
      rcases enter_some h hU hl with ⟨j, u, h8, h9, h10⟩ | ⟨k', h8, -, -, h10⟩
      · cases h10
      · cases h10
        exact List.idxOf_lt_length_of_mem h8 }
end
end Go.TM
end
section
namespace Go.TM
open Go
section
variable {P : Program} {E : Env} {M : Mem} {W : World} {s : S} {n : Nat} {a : Act}
theorem noLs_mem : ∀ {xs : List V} {x : V}, noLs xs = true → x ∈ xs → noL x = true
  | y :: ys, x, h, hx => by
    simp only [noLs, Bool.and_eq_true] at h
    cases hx with
    | head => exact h.1
    | tail _ hx => exact noLs_mem h.2 hx
theorem noL_leafAt {xs : List V} (h : noLs xs = true) {j i : Nat} {l : V} (hl : leafAt xs j i = some l) : noL l = true := by
  unfold leafAt at hl
  rw [Option.bind_eq_some_iff] at hl
  obtain ⟨e, h1, h2⟩ := hl
  have he := noLs_mem h (List.mem_of_getElem? h1)
  have hm := List.mem_of_getElem? h2
  cases e with
  | agg ys =>
    simp only [noL] at he
    exact noLs_mem he hm
  | _ =>
    simp only [leaves, List.mem_singleton] at hm
    rw [hm]
    exact he
theorem FR.drop {F F' : Nat → Prop} {x : V} {v : Value} (h : FR W F x v) (hx : noL x = true) : FR W F' x v := by
  cases h with
  | int k n => exact .int k n
  | bool b => exact .bool b
  | str s => exact .str s
  | raw h => exact .raw h
  | nil A c => exact .nil A c
  | lst xs b o c sz u hF hn hm hs hc hl =>
    simp only [noL, List.isEmpty_iff] at hx
    subst hx
    exact .nil _ _
theorem OwnN.drop {F F' : Nat → Prop} {B : Nat → Prop} {sz : Nat} {v : Value} {xs : List V} (h : OwnN W F B sz v xs) (hx : noLs xs = true) : OwnN W F' B sz v xs := by
  induction h with
  | nil B sz A => exact .nil B sz A
  | row B sz xs b o c cs ty u Bs hB hBs hd hb hn hm hcs hs hc hl hN ih =>
    refine .row B sz xs b o c cs ty u Bs hB hBs hd hb hn hm hcs hs hc (fun j i l h1 h2 => (hl j i l h1 h2).drop (noL_leafAt hx h1)) (fun j i z ys h1 => ih j i z ys h1 ?_)
    have := noL_leafAt hx h1
    simpa only [noL] using this
structure Mid (W : World) (M' M2 : Mem) (us ub : List Nat) : Prop where
  tok : ∀ b j, M'.ω b = some (.tok j) → j ∉ us → M2.ω b = none ∧ ¬ M2.F b
  box : ∀ b k, M'.ω b = some (.box k) → k ∉ ub → M2.ω b = none ∧ ¬ M2.F b
structure Trk (M' M2 M3 : Mem) : Prop where
  lab : ∀ b l, M3.ω b = some l → M2.ω b = some l ∨ M'.ω b ≠ none
  ext : ∀ b l, M2.ω b = some l → M3.ω b = some l
theorem Trk.refl {M' M2 : Mem} : Trk M' M2 M2 := ⟨fun b l h => .inl h, fun b l h => h⟩
theorem Trk.trans {M' M2 M3 M4 : Mem} (h : Trk M' M2 M3) (k : Trk M' M3 M4) : Trk M' M2 M4 :=
  ⟨fun b l hl => (k.lab b l hl).elim (fun h1 => h.lab b l h1) .inr, fun b l hl => k.ext b l (h.ext b l hl)⟩
def FOk (M' M2 : Mem) (x : V) : Prop := (∀ b, M'.F b → M2.F b) ∨ noL x = true
theorem FR.fok {M' M2 : Mem} {x : V} {v : Value} (h : FR W M'.F x v) (hf : FOk M' M2 x) : FR W M2.F x v := by
  rcases hf with hf | hf
  · exact h.mono (fun _ _ => rfl) hf
  · exact h.drop hf
theorem OwnN.fok {M' M2 : Mem} {B : Nat → Prop} {z : Nat} {v : Value} {xs : List V} (h : OwnN W M'.F B z v xs) (hf : FOk M' M2 (.inl z xs)) : OwnN W M2.F B z v xs := by
  rcases hf with hf | hf
  · exact h.mono (fun _ _ => rfl) hf fun b hb => ⟨hb, rfl⟩
  · exact h.drop (by simpa only [noL] using hf)
theorem take_own {M' M2 : Mem} {s' s2 : S} {us ub : List Nat} (hc : MemOK M' W s') (h : MemOK M2 W s2) (hm : Mid W M' M2 us ub) {j z : Nat} {xs : List V} (hj : j ∉ us) (hR : s'.R j = some ⟨z, xs, true⟩) (hf : FOk M' M2 (.inl z xs)) :
    ∃ M3, MemOK M3 W (s2.newR z xs) ∧ Keep M2 W M3 W ∧ SRL M3 W (.own s2.nt) (M'.ρ j) ∧ Mid W M' M3 (j :: us) ub ∧ M3.F = M2.F ∧ Trk M' M2 M3 := by
  rcases (hc.row j _ hR).2 with ⟨-, B, h1, h2, -⟩ | ⟨hw, -⟩
  · have hB : ∀ b, B b → M2.ω b = none ∧ ¬ M2.F b ∧ b < W.heap.size := fun b hb => ⟨(hm.tok b j (h2 b hb) hj).1, (hm.tok b j (h2 b hb) hj).2, hc.lt b _ (h2 b hb)⟩
    obtain ⟨k1, k2, k3, -⟩ := adopt_row h (h1.fok hf) hB
    refine ⟨_, k1, k2, k3, ⟨fun b i hb hi => ?_, fun b i hb hi => ?_⟩, rfl, ⟨fun b l hl => ?_, fun b l hl => ?_⟩⟩
    · simp only [List.mem_cons, not_or] at hi
      have hnB : ¬ B b := fun hx => by
        have := h2 b hx
        rw [hb] at this
        cases this
        exact hi.1 rfl
      rw [adopt_out hnB]
      exact hm.tok b i hb hi.2
    · have hnB : ¬ B b := fun hx => by
        have := h2 b hx
        rw [hb] at this
        cases this
      rw [adopt_out hnB]
      exact hm.box b i hb hi
    · by_cases hb : B b
      · right; rw [h2 b hb]; simp
      · left; rw [adopt_out hb] at hl; exact hl
    · rw [adopt_out fun hb => by rw [(hB b hb).1] at hl; cases hl]
      exact hl
  · cases hw
theorem take_nil {M' M2 : Mem} {s2 : S} {us ub : List Nat} (h : MemOK M2 W s2) (hm : Mid W M' M2 us ub) (z : Nat) (A : Option Addr) :
    ∃ M3, MemOK M3 W (s2.newR z []) ∧ Keep M2 W M3 W ∧ SRL M3 W (.own s2.nt) (.slice A 0 0) ∧ Mid W M' M3 us ub ∧ M3.F = M2.F ∧ Trk M' M2 M3 := by
  obtain ⟨M3, h1, h2, h3, h4, h5⟩ := nil_row h z A
  exact ⟨M3, h1, h2, h3, ⟨fun b i hb hi => by rw [h4, h5]; exact hm.tok b i hb hi, fun b i hb hi => by rw [h4, h5]; exact hm.box b i hb hi⟩, h5, ⟨fun b l hl => .inl (h4 ▸ hl), fun b l hl => h4 ▸ hl⟩⟩
theorem FOk.mono {M' M2 M3 : Mem} {x : V} (h : FOk M' M2 x) (hF : M3.F = M2.F) : FOk M' M3 x := by
  unfold FOk
  rw [hF]
  exact h
theorem take_leaf {M' M2 : Mem} {s' s2 : S} {us ub : List Nat} (hc : MemOK M' W s') (h : MemOK M2 W s2) (hm : Mid W M' M2 us ub) {x : V} {v : Value} (hx : SRL M' W x v) (hj : ∀ j ∈ (tokL x).filter s'.wrT, j ∉ us) (hf : FOk M' M2 (closeL s' x)) :
    ∃ M3, MemOK M3 W (adL (closeL s' x) s2).2 ∧ Keep M2 W M3 W ∧ SRL M3 W (adL (closeL s' x) s2).1 v ∧ Mid W M' M3 ((tokL x).filter s'.wrT ++ us) ub ∧ M3.F = M2.F ∧ Trk M' M2 M3 := by
  have same : ∀ y, closeL s' x = y → (∀ sc, adL y sc = (y, sc)) → SRL M2 W y v → ∃ M3, MemOK M3 W (adL (closeL s' x) s2).2 ∧ Keep M2 W M3 W ∧ SRL M3 W (adL (closeL s' x) s2).1 v ∧ Mid W M' M3 ((tokL x).filter s'.wrT ++ us) ub ∧ M3.F = M2.F ∧ Trk M' M2 M3 := by
    intro y e1 e2 e3
    rw [e1, e2]
    exact ⟨M2, h, Keep.refl _ _, e3, ⟨fun b i hb hi => hm.tok b i hb fun hi' => hi (by simp [hi']), hm.box⟩, rfl, Trk.refl⟩
  cases x with
  | own t =>
    cases hR : s'.R t with
    | none => exact same .bad (by simp [closeL, hR]) (fun _ => rfl) trivial
    | some r =>
      obtain ⟨z, xs, wr⟩ := r
      cases wr with
      | true =>
        have e1 : closeL s' (.own t) = .inl z xs := by simp [closeL, hR]
        rw [e1] at hf ⊢
        obtain ⟨M3, h1, h2, h3, h4, h5, h6⟩ := take_own hc h hm (hj t (by simp [tokL, S.wrT, hR])) hR hf
        obtain ⟨-, rfl⟩ := hx
        have e2 : (tokL (.own t)).filter s'.wrT = [t] := by simp [tokL, S.wrT, hR]
        rw [e2]
        exact ⟨M3, h1, h2, h3, h4, h5, h6⟩
      | false =>
        have e1 : closeL s' (.own t) = .lst xs := by simp [closeL, hR]
        refine same (.lst xs) e1 (fun _ => rfl) ?_
        obtain ⟨-, rfl⟩ := hx
        rcases (hc.row t _ hR).2 with ⟨hw, -⟩ | ⟨-, h1, -⟩
        · cases hw
        · rw [e1] at hf
          exact h1.fok hf
  | inl z ys =>
    obtain ⟨rfl, A, rfl⟩ := hx
    exact take_nil h hm z A
  | lst xs => exact same (.lst xs) rfl (fun _ => rfl) (FR.fok hx hf)
  | int k m => exact same _ rfl (fun _ => rfl) hx
  | bool b => exact same _ rfl (fun _ => rfl) hx
  | str b => exact same _ rfl (fun _ => rfl) hx
  | raw h => exact same _ rfl (fun _ => rfl) hx
  | nilp => exact same _ rfl (fun _ => rfl) hx
  | nili => exact same _ rfl (fun _ => rfl) hx
  | fn f caps =>
    cases caps with
    | nil =>
      refine same (.fn f []) rfl (fun _ => rfl) ?_
      obtain ⟨cs, rfl, hcs⟩ := hx
      cases cs with
      | nil => exact ⟨[], rfl, trivial⟩
      | cons => exact hcs.elim
    | cons c cs => exact same .bad rfl (fun _ => rfl) trivial
  | _ => exact same .bad rfl (fun _ => rfl) trivial
def closeOr (cont : Bool) (s : S) : V → V := if cont = true then contL s else closeL s
theorem take_leaf' {M' M2 : Mem} {s' s2 : S} {us ub : List Nat} (cont : Bool) (hc : MemOK M' W s') (h : MemOK M2 W s2) (hm : Mid W M' M2 us ub) {x : V} {v : Value} (hx : SRL M' W x v) (hj : ∀ j ∈ (tokL x).filter s'.wrT, j ∉ us) (hf : FOk M' M2 (closeOr cont s' x)) :
    ∃ M3, MemOK M3 W (adL (closeOr cont s' x) s2).2 ∧ Keep M2 W M3 W ∧ SRL M3 W (adL (closeOr cont s' x) s2).1 v ∧ Mid W M' M3 ((tokL x).filter s'.wrT ++ us) ub ∧ M3.F = M2.F ∧ Trk M' M2 M3 := by
  cases cont with
  | false => exact take_leaf hc h hm hx hj hf
  | true =>
    by_cases hi : ∃ z ys, x = .inl z ys
    · obtain ⟨z, ys, rfl⟩ := hi
      exact ⟨M2, h, Keep.refl _ _, trivial, hm, rfl, Trk.refl⟩
    · have e : closeOr true s' x = closeL s' x := by
        cases x <;> first | rfl | exact absurd ⟨_, _, rfl⟩ hi
      rw [e] at hf ⊢
      exact take_leaf hc h hm hx hj hf
theorem Mid.perm {M' M2 : Mem} {us us' ub : List Nat} (h : Mid W M' M2 us ub) (hs : ∀ j, j ∈ us → j ∈ us') : Mid W M' M2 us' ub := ⟨fun b j hb hj => h.tok b j hb fun hx => hj (hs j hx), h.box⟩
theorem take_leaves {M' : Mem} {s' : S} {ub : List Nat} (cont : Bool) (hc : MemOK M' W s') : ∀ {xs : List V} {vs : List Value} {M2 : Mem} {s2 : S} {us : List Nat}, MemOK M2 W s2 → Mid W M' M2 us ub → All2 (SRL M' W) xs vs →
    ((xs.flatMap tokL).filter s'.wrT).Nodup → (∀ j ∈ (xs.flatMap tokL).filter s'.wrT, j ∉ us) → (∀ x ∈ xs, FOk M' M2 (closeOr cont s' x)) →
    ∃ M3, MemOK M3 W (adLs (xs.map (closeOr cont s')) s2).2 ∧ Keep M2 W M3 W ∧ All2 (SRL M3 W) (adLs (xs.map (closeOr cont s')) s2).1 vs ∧ Mid W M' M3 ((xs.flatMap tokL).filter s'.wrT ++ us) ub ∧ M3.F = M2.F ∧ Trk M' M2 M3
  | [], [], M2, s2, us, h, hm, _, _, _, _ => ⟨M2, h, Keep.refl _ _, trivial, hm, rfl, Trk.refl⟩
  | x :: xs, v :: vs, M2, s2, us, h, hm, hx, hnd, hj, hf => by
    rw [List.flatMap_cons, List.filter_append, List.nodup_append] at hnd
    rw [List.flatMap_cons, List.filter_append] at hj
    obtain ⟨M3, h1, h2, h3, h4, h5, h6⟩ := take_leaf' cont hc h hm hx.1 (fun j hj' => hj j (List.mem_append.2 (.inl hj'))) (hf x (by simp))
    obtain ⟨M4, k1, k2, k3, k4, k5, k6⟩ := take_leaves cont hc h1 h4 hx.2 hnd.2.1 (fun j hj' hmem => by
      rw [List.mem_append] at hmem
      rcases hmem with hmem | hmem
      · exact hnd.2.2 j hmem j hj' rfl
      · exact hj j (List.mem_append.2 (.inr hj')) hmem) (fun y hy => (hf y (by simp [hy])).mono h5)
    refine ⟨M4, k1, h2.trans k2, ⟨k2.leaf h3, k3⟩, k4.perm fun j hj' => ?_, k5.trans h5, h6.trans k6⟩
    · simp only [List.flatMap_cons, List.filter_append, List.mem_append] at hj' ⊢
      rcases hj' with h | h | h
      · exact .inl (.inr h)
      · exact .inl (.inl h)
      · exact .inr h
theorem closeOr_noAgg (cont : Bool) (s : S) (x : V) : ∀ ys, closeOr cont s x ≠ .agg ys := by
  unfold closeOr
  split
  · exact contL_noAgg s x
  · exact closeL_noAgg s x
theorem onL1_leaves (m : V → V) (c : V) (hm : ∀ x ys, m x ≠ .agg ys) : leaves (onL1 m c) = (leaves c).map m := by
  by_cases hc : ∃ xs, c = .agg xs
  · obtain ⟨xs, rfl⟩ := hc
    rfl
  · have e1 : onL1 m c = m c := by cases c <;> first | rfl | exact absurd ⟨_, rfl⟩ hc
    have e2 : leaves c = [c] := by cases c <;> first | rfl | exact absurd ⟨_, rfl⟩ hc
    rw [e1, e2]
    show leaves (m c) = [m c]
    have h3 := hm c
    generalize m c = y at h3 ⊢
    cases y <;> first | rfl | exact absurd rfl (h3 _)
theorem FOk.leaf {M' M2 : Mem} {c : V} (h : FOk M' M2 c) : ∀ x ∈ leaves c, FOk M' M2 x := by
  intro x hx
  rcases h with h | h
  · exact .inl h
  · right
    cases c with
    | agg xs =>
      simp only [noL] at h
      exact noLs_mem h hx
    | _ =>
      simp only [leaves, List.mem_singleton] at hx
      subst hx
      exact h
theorem take_cont {M' M2 : Mem} {s' s2 : S} {us ub : List Nat} (cont : Bool) (hc : MemOK M' W s') (h : MemOK M2 W s2) (hm : Mid W M' M2 us ub) {c : V} {cs : List Value} (hx : All2 (SRL M' W) (leaves c) cs)
    (hnd : (((leaves c).flatMap tokL).filter s'.wrT).Nodup) (hj : ∀ j ∈ ((leaves c).flatMap tokL).filter s'.wrT, j ∉ us) (hf : FOk M' M2 (onL1 (closeOr cont s') c)) :
    ∃ M3, MemOK M3 W (adC (onL1 (closeOr cont s') c) s2).2 ∧ Keep M2 W M3 W ∧ All2 (SRL M3 W) (leaves (adC (onL1 (closeOr cont s') c) s2).1) cs ∧ Mid W M' M3 (((leaves c).flatMap tokL).filter s'.wrT ++ us) ub ∧ M3.F = M2.F ∧ Trk M' M2 M3 := by
  obtain ⟨e1, e2⟩ := adC_leaves c s2 (closeOr cont s') (closeOr_noAgg cont s')
  rw [e1, e2]
  refine take_leaves cont hc h hm hx hnd hj fun x hx => hf.leaf _ ?_
  rw [onL1_leaves _ _ (closeOr_noAgg cont s')]
  exact List.mem_map.2 ⟨x, hx, rfl⟩
theorem take_one {M' M2 : Mem} {s' s2 : S} {us ub : List Nat} (hc : MemOK M' W s') (h : MemOK M2 W s2) (hm : Mid W M' M2 us ub) {x : V} {v : Value} (hx : SR1 M' W x v)
    (hnd : ((toks1 x).filter s'.wrT).Nodup) (hj : ∀ j ∈ (toks1 x).filter s'.wrT, j ∉ us) (hf : FOk M' M2 (onL1 (closeL s') x)) :
    ∃ M3, MemOK M3 W (adC (onL1 (closeL s') x) s2).2 ∧ Keep M2 W M3 W ∧ SR1 M3 W (adC (onL1 (closeL s') x) s2).1 v ∧ Mid W M' M3 ((toks1 x).filter s'.wrT ++ us) ub ∧ M3.F = M2.F ∧ Trk M' M2 M3 := by
  cases x with
  | agg xs =>
    obtain ⟨vs, rfl, ha⟩ := hx
    obtain ⟨M3, h1, h2, h3, h4, h5, h6⟩ := take_leaves false hc h hm ha hnd hj (fun y hy => hf.leaf _ (List.mem_map.2 ⟨y, hy, rfl⟩))
    exact ⟨M3, h1, h2, ⟨vs, rfl, h3⟩, h4, h5, h6⟩
  | _ =>
    simp only [SR1] at hx
    obtain ⟨M3, h1, h2, h3, h4, h5, h6⟩ := take_leaf hc h hm hx hj hf
    have e : ∀ y : V, (∀ ys, y ≠ .agg ys) → adC y s2 = adL y s2 := by
      intro y hy
      unfold adC
      split
      · exact absurd rfl (hy _)
      · rfl
    simp only [onL1]
    rw [e _ (closeL_noAgg s' _)]
    exact ⟨M3, h1, h2, SR1_of_L' h3, h4, h5, h6⟩
end
end Go.TM
end
section
namespace Go.TM
open Go
section
variable {P : Program} {E : Env} {M : Mem} {W : World} {s : S} {n : Nat} {a : Act}
def Leafy (f : V → V) (M : Mem) (W : World) (M' : Mem) (W' : World) : Prop := ∀ x v, SRL M W x v → SRL M' W' (f x) v
section
variable {f : V → V} {M' : Mem} {W' : World} (hf : Leafy f M W M' W')
include hf
theorem Leafy.list {xs : List V} {vs : List Value} (h : All2 (SRL M W) xs vs) : All2 (SRL M' W') (xs.map f) vs := by
  induction xs generalizing vs with
  | nil => cases vs with | nil => trivial | cons => exact h.elim
  | cons x xs ih => cases vs with | nil => exact h.elim | cons v vs => exact ⟨hf _ _ h.1, ih h.2⟩
theorem Leafy.one {x : V} {v : Value} (h : SR1 M W x v) : SR1 M' W' (onL1 f x) v := by
  cases x with
  | agg xs =>
    obtain ⟨vs, rfl, ha⟩ := h
    exact ⟨vs, rfl, hf.list ha⟩
  | _ => simp only [SR1] at h; exact SR1_of_L' (hf _ _ h)
theorem Leafy.ones {xs : List V} {vs : List Value} (h : All2 (SR1 M W) xs vs) : All2 (SR1 M' W') (xs.map (onL1 f)) vs := by
  induction xs generalizing vs with
  | nil => cases vs with | nil => trivial | cons => exact h.elim
  | cons x xs ih => cases vs with | nil => exact h.elim | cons v vs => exact ⟨hf.one h.1, ih h.2⟩
theorem Leafy.two {x : V} {v : Value} (h : SR2 M W x v) : SR2 M' W' (onL f x) v := by
  cases x with
  | tup xs =>
    obtain ⟨vs, rfl, ha⟩ := h
    exact ⟨vs, rfl, hf.ones ha⟩
  | _ => simp only [SR2] at h; exact SR2_of_1' (hf.one h)
theorem Leafy.all {x : V} {v : Value} (h : SR M W x v) : SR M' W' (onC f x) v := by
  cases x with
  | cnd g x =>
    simp only [SR, onC] at h ⊢
    split
    · rename_i hg
      rw [if_pos hg] at h
      exact hf.two h
    · rename_i hg
      rw [if_neg hg] at h
      exact h
  | _ => simp only [SR] at h; exact SR_of_2 (hf.two h)
theorem Leafy.cont {c : V} {cs : List Value} (h : All2 (SRL M W) (leaves c) cs) : All2 (SRL M' W') (leaves (onL1 f c)) cs := by
  by_cases hc : ∃ xs, c = .agg xs
  · obtain ⟨xs, rfl⟩ := hc
    exact hf.list h
  · have e1 : onL1 f c = f c := by cases c <;> first | rfl | exact absurd ⟨_, rfl⟩ hc
    rw [leaves_ne hc] at h
    rw [e1]
    cases cs with
    | nil => exact h.elim
    | cons v cs =>
      have h1 := hf _ _ h.1
      have e2 : leaves (f c) = [f c] := leaves_ne (by
        rintro ⟨xs, e⟩
        rw [e] at h1
        exact h1)
      rw [e2]
      cases cs with
      | nil => exact ⟨h1, trivial⟩
      | cons => exact h.2.elim
end
open Classical in
noncomputable def Mem.regain (M : Mem) (W : World) (t : Nat) (B : Nat → Prop) (z : Nat) : Mem :=
  { M with ω := fun b => if B b then some (.tok t) else M.ω b, σ := fun x j i => if x = t then cellOf W (M.ρ t) z j i else M.σ x j i }
theorem regain_in {t : Nat} {B : Nat → Prop} {z : Nat} {b : Nat} (hb : B b) : (M.regain W t B z).ω b = some (.tok t) := if_pos hb
theorem regain_out {t : Nat} {B : Nat → Prop} {z : Nat} {b : Nat} (hb : ¬ B b) : (M.regain W t B z).ω b = M.ω b := if_neg hb
theorem kill_leafy {t : Nat} {M' : Mem} (h1 : M'.F = M.F) (h2 : M'.ρ = M.ρ) (h3 : M'.β = M.β) (h4 : M'.nt = M.nt) (h5 : M'.nb = M.nb) (h6 : ∀ x j i, x ≠ t → M'.σ x j i = M.σ x j i) : Leafy (killT t) M W M' W := by
  intro x v h
  cases x with
  | sub t' i o =>
    simp only [killT]
    split
    · trivial
    · rename_i hne
      obtain ⟨h7, rfl⟩ := h
      exact ⟨h4 ▸ h7, (h6 _ _ _ hne).symm⟩
  | sadr t' i o z j p =>
    simp only [killT]
    split
    · trivial
    · rename_i hne
      obtain ⟨h7, b, o', m, c, h8, rfl⟩ := h
      exact ⟨h4 ▸ h7, b, o', m, c, (h6 _ _ _ hne).trans h8, rfl⟩
  | lst xs => simp only [killT, SRL] at h ⊢; rw [h1]; exact h
  | own t' => simp only [killT, SRL] at h ⊢; rw [h4, h2]; exact h
  | ladr xs i off => simp only [killT, SRL] at h ⊢; rw [h1]; exact h
  | oadr t' z i off => simp only [killT, SRL] at h ⊢; rw [h4, h2]; exact h
  | ptr b off => simp only [killT, SRL] at h ⊢; rw [h5, h3]; exact h
  | fn f caps =>
    simp only [killT]
    obtain ⟨cs, rfl, hc⟩ := h
    refine ⟨cs, rfl, hc.imp ?_⟩
    rintro a b (⟨k, off, rfl, hk, rfl⟩ | ⟨xs, i, off, rfl, hl⟩)
    · exact .inl ⟨k, off, rfl, h5 ▸ hk, by rw [h3]⟩
    · exact .inr ⟨xs, i, off, rfl, h1 ▸ hl⟩
  | _ => exact h
structure Sames (M2 M3 : Mem) : Prop where
  F : M3.F = M2.F
  ρ : M3.ρ = M2.ρ
  β : M3.β = M2.β
  nt : M3.nt = M2.nt
  nb : M3.nb = M2.nb
theorem back_own {M' M2 : Mem} {s' s2 : S} {us ub : List Nat} (hc : MemOK M' W s') (h : St n M2 W s2 a) (hm : Mid W M' M2 us ub) {t k z : Nat} {xs : List V} (ht : t < M2.nt) (hρ : M'.ρ k = M2.ρ t) (hk : k ∉ us)
    (hR : s'.R k = some ⟨z, xs, true⟩) (hf : FOk M' M2 (.inl z xs)) :
    ∃ M3, St n M3 W ((s2.setR t (some ⟨z, xs, true⟩)).mapE (killT t)) a ∧ Mid W M' M3 (k :: us) ub ∧ Sames M2 M3 ∧ (∀ x j i, x ≠ t → M3.σ x j i = M2.σ x j i) ∧ Trk M' M2 M3 := by
  rcases (hc.row k _ hR).2 with ⟨-, B, h1, h2, -⟩ | ⟨hw, -⟩
  · have hB : ∀ b, B b → M2.ω b = none ∧ ¬ M2.F b := fun b hb => hm.tok b k (h2 b hb) hk
    have hlab : ∀ b l, M2.ω b = some l → (M2.regain W t B z).ω b = some l := fun b l hl => by
      rw [regain_out fun hb => by rw [(hB b hb).1] at hl; cases hl]
      exact hl
    have hσ : ∀ x j i, x ≠ t → (M2.regain W t B z).σ x j i = M2.σ x j i := fun x j i hx => if_neg hx
    have hleaf : Leafy (killT t) M2 W (M2.regain W t B z) W := kill_leafy rfl rfl rfl rfl rfl hσ
    refine ⟨M2.regain W t B z, ⟨h.size, h.defers, fun x hx => hleaf.all (h.slot x hx), ?_⟩, ⟨fun b i hb hi => ?_, fun b i hb hi => ?_⟩, ⟨rfl, rfl, rfl, rfl, rfl⟩, hσ, ⟨fun b l hl => ?_, hlab⟩⟩
    · exact {
        nt := h.mem.nt
        nb := h.mem.nb
        box := fun b c hb => by
          have hb' : (s2.B b).map (onL1 (killT t)) = some c := hb
          rw [Option.map_eq_some_iff] at hb'
          obtain ⟨c0, h3, rfl⟩ := hb'
          obtain ⟨h4, cs, ty, h5, h6, h7⟩ := h.mem.box b c0 h3
          exact ⟨h4, cs, ty, h5, hlab _ _ h6, hleaf.cont h7⟩
        row := fun x r hr => by
          have hr' : (if x = t then some ⟨z, xs, true⟩ else s2.R x) = some r := hr
          by_cases e : x = t
          · rw [if_pos e] at hr'
            cases hr'
            subst e
            refine ⟨ht, row_of (v := M2.ρ x) ?_ (fun b hb => regain_in hb) rfl (fun j i => if_pos rfl)⟩
            rw [← hρ]
            exact h1.fok hf
          · rw [if_neg e] at hr'
            obtain ⟨h3, h4⟩ := h.mem.row x r hr'
            refine ⟨h3, ?_⟩
            rcases h4 with ⟨hw, B', h5, h6, h7⟩ | ⟨hw, h5, h6⟩
            · exact .inl ⟨hw, B', h5, fun b hb => hlab b _ (h6 b hb), fun j i z' ys hl b o m c hv => by rw [hσ _ _ _ e]; exact h7 j i z' ys hl b o m c hv⟩
            · exact .inr ⟨hw, h5, h6⟩
        frz := fun b hb => ⟨by rw [regain_out fun hb' => (hB b hb').2 hb]; exact (h.mem.frz b hb).1, (h.mem.frz b hb).2⟩
        lt := fun b l hl => by
          by_cases hb : B b
          · exact hc.lt b _ (h2 b hb)
          · rw [regain_out hb] at hl; exact h.mem.lt b l hl
        tok := fun b t' hl => by
          by_cases hb : B b
          · rw [regain_in hb] at hl; cases hl; exact ht
          · rw [regain_out hb] at hl; exact h.mem.tok b t' hl
        bx := fun b k' hl => by
          by_cases hb : B b
          · rw [regain_in hb] at hl; cases hl
          · rw [regain_out hb] at hl; exact h.mem.bx b k' hl }
    · simp only [List.mem_cons, not_or] at hi
      have hnB : ¬ B b := fun hx => by
        have := h2 b hx
        rw [hb] at this
        cases this
        exact hi.1 rfl
      rw [regain_out hnB]
      exact hm.tok b i hb hi.2
    · have hnB : ¬ B b := fun hx => by
        have := h2 b hx
        rw [hb] at this
        cases this
      rw [regain_out hnB]
      exact hm.box b i hb hi
    · by_cases hb : B b
      · right; rw [h2 b hb]; simp
      · left; rw [regain_out hb] at hl; exact hl
  · cases hw
open Classical in
noncomputable def Mem.relab (M : Mem) (t : Nat) (B : Nat → Prop) : Mem := { M with ω := fun b => if B b then some (.tok t) else M.ω b }
theorem relab_in {t : Nat} {B : Nat → Prop} {b : Nat} (hb : B b) : (M.relab t B).ω b = some (.tok t) := if_pos hb
theorem relab_out {t : Nat} {B : Nat → Prop} {b : Nat} (hb : ¬ B b) : (M.relab t B).ω b = M.ω b := if_neg hb
theorem relab_keep (t : Nat) (B : Nat → Prop) : Keep M W (M.relab t B) W := ⟨fun _ h => h, fun _ _ => rfl, fun _ _ => rfl, fun _ _ _ _ => rfl, fun _ _ => rfl, Nat.le_refl _, Nat.le_refl _⟩
theorem back_sub {M' M2 : Mem} {s' s2 : S} {us ub : List Nat} (hc : MemOK M' W s') (h : St n M2 W s2 a) (hm : Mid W M' M2 us ub) {M0 : Mem} {W0 : World} {s0 : S} {Bu : Nat → Prop} {t i p k z : Nat} {ys : List V} {r : Rw}
    (hrec : Recon M0 W0 s0 (.sub t i p) Bu) (hR0 : s0.R t = some r) (hw0 : r.wr = true) (hFW : ∀ b, M0.F b → W.heap[b]? = W0.heap[b]?) (hFF : ∀ b, M0.F b → M2.F b)
    (hold : ∀ b, M0.ω b = some (.tok t) → ¬ Bu b → W.heap[b]? = W0.heap[b]? ∧ M2.ω b = some (.tok t)) (hnew : ∀ b j, M'.ω b = some (.tok j) → M0.ω b ≠ some (.tok t) ∨ Bu b)
    (ht : t < M2.nt) (hρt : M2.ρ t = M0.ρ t) (hσt : ∀ j i, M2.σ t j i = M0.σ t j i) (hρ : M'.ρ k = M0.σ t i p) (hk : k ∉ us)
    (hR : s'.R k = some ⟨z, ys, true⟩) (hf : FOk M' M2 (.inl z ys)) :
    ∃ M3, St n M3 W (s2.setR t (some ⟨r.sz, setLeaf r.xs i p (.inl z ys), r.wr⟩)) a ∧ Mid W M' M3 (k :: us) ub ∧ Sames M2 M3 ∧ M3.σ = M2.σ ∧ Trk M' M2 M3 := by
  rcases (hc.row k _ hR).2 with ⟨-, B, h1, h2, -⟩ | ⟨hw, -⟩
  · have hB : ∀ b, B b → M2.ω b = none ∧ ¬ M2.F b := fun b hb => hm.tok b k (h2 b hb) hk
    have hlab : ∀ b l, M2.ω b = some l → (M2.relab t B).ω b = some l := fun b l hl => by
      rw [relab_out fun hb => by rw [(hB b hb).1] at hl; cases hl]
      exact hl
    have hk3 := relab_keep (M := M2) (W := W) t B
    obtain ⟨⟨B'', h3, h4⟩, h5⟩ := hrec r hR0 W M2.F B z ys hFW hFF (fun b hb hn => (hold b hb hn).1) (by rw [← hρ]; exact h1.fok hf) (fun b hb => hnew b k (h2 b hb))
    refine ⟨M2.relab t B, ⟨h.size, h.defers, fun x hx => hk3.all (h.slot x hx), ?_⟩, ⟨fun b i hb hi => ?_, fun b i hb hi => ?_⟩, ⟨rfl, rfl, rfl, rfl, rfl⟩, rfl, ⟨fun b l hl => ?_, hlab⟩⟩
    · exact {
        nt := h.mem.nt
        nb := h.mem.nb
        box := fun b c hb => by
          obtain ⟨h6, cs, ty, h7, h8, h9⟩ := h.mem.box b c hb
          exact ⟨h6, cs, ty, h7, hlab _ _ h8, hk3.leaves h9⟩
        row := fun x r' hr => by
          have hr' : (if x = t then some ⟨r.sz, setLeaf r.xs i p (.inl z ys), r.wr⟩ else s2.R x) = some r' := hr
          by_cases e : x = t
          · rw [if_pos e] at hr'
            cases hr'
            subst e
            refine ⟨ht, .inl ⟨hw0, B'', ?_, fun b hb => ?_, fun j k' z' ys' hl b o m c hv => ?_⟩⟩
            · show OwnN W M2.F B'' r.sz (M2.ρ x) _
              rw [hρt]; exact h3
            · rcases h4 b hb with h6 | h6
              · exact relab_in h6
              · exact hlab b _ (hold b h6.1 h6.2).2
            · show _ = some (M2.σ x j k')
              rw [hσt]
              exact h5 j k' z' ys' hl b o m c (by rw [← hρt]; exact hv)
          · rw [if_neg e] at hr'
            obtain ⟨h6, h7⟩ := h.mem.row x r' hr'
            exact ⟨h6, hk3.row h6 (fun _ b hb => ⟨hlab b _ hb, rfl⟩) h7⟩
        frz := fun b hb => ⟨by rw [relab_out fun hb' => (hB b hb').2 hb]; exact (h.mem.frz b hb).1, (h.mem.frz b hb).2⟩
        lt := fun b l hl => by
          by_cases hb : B b
          · exact hc.lt b _ (h2 b hb)
          · rw [relab_out hb] at hl; exact h.mem.lt b l hl
        tok := fun b t' hl => by
          by_cases hb : B b
          · rw [relab_in hb] at hl; cases hl; exact ht
          · rw [relab_out hb] at hl; exact h.mem.tok b t' hl
        bx := fun b k' hl => by
          by_cases hb : B b
          · rw [relab_in hb] at hl; cases hl
          · rw [relab_out hb] at hl; exact h.mem.bx b k' hl }
    · simp only [List.mem_cons, not_or] at hi
      have hnB : ¬ B b := fun hx => by
        have := h2 b hx
        rw [hb] at this
        cases this
        exact hi.1 rfl
      rw [relab_out hnB]
      exact hm.tok b i hb hi.2
    · have hnB : ¬ B b := fun hx => by
        have := h2 b hx
        rw [hb] at this
        cases this
      rw [relab_out hnB]
      exact hm.box b i hb hi
    · by_cases hb : B b
      · right; rw [h2 b hb]; simp
      · left; rw [relab_out hb] at hl; exact hl
  · cases hw
end
end Go.TM
end
section
namespace Go.TM
open Go
section
variable {P : Program} {E : Env} {M : Mem} {W : World} {s : S} {n : Nat} {a : Act}
theorem toks1_leaves (c : V) : toks1 c = (leaves c).flatMap tokL := by cases c <;> simp [toks1, leaves]
def Mem.boxed (M : Mem) (k blk : Nat) : Mem := { M with ω := fun b => if b = blk then some (.box k) else M.ω b }
theorem boxed_keep (k blk : Nat) : Keep M W (M.boxed k blk) W := ⟨fun _ h => h, fun _ _ => rfl, fun _ _ => rfl, fun _ _ _ _ => rfl, fun _ _ => rfl, Nat.le_refl _, Nat.le_refl _⟩
theorem set_box (h : MemOK M W s) {b : Nat} {c : V} {cs : Array Value} {ty : TypeId} (hb : b < M.nb) (hblk : W.heap[M.β b]? = some (.cells cs ty (0, 0))) (hω : M.ω (M.β b) = none) (hF : ¬ M.F (M.β b)) (hc : All2 (SRL M W) (leaves c) cs.toList) :
    MemOK (M.boxed b (M.β b)) W (s.setB b (some c)) where
  nt := h.nt
  nb := h.nb
  box x c' hx := by
    have hx' : (if x = b then some c else s.B x) = some c' := hx
    by_cases e : x = b
    · rw [if_pos e] at hx'
      cases hx'
      subst e
      exact ⟨hb, cs, ty, hblk, by simp [Mem.boxed], (boxed_keep _ _).leaves hc⟩
    · rw [if_neg e] at hx'
      obtain ⟨h1, cs', ty', h2, h3, h4⟩ := h.box x c' hx'
      refine ⟨h1, cs', ty', h2, ?_, (boxed_keep _ _).leaves h4⟩
      have : M.β x ≠ M.β b := fun e => by rw [e, hω] at h3; cases h3
      simp only [Mem.boxed]
      rw [if_neg this]
      exact h3
  row t r hr := by
    obtain ⟨h1, h2⟩ := h.row t r hr
    refine ⟨h1, (boxed_keep _ _).row h1 (fun _ x hx => ⟨?_, rfl⟩) h2⟩
    have : x ≠ M.β b := fun e => by rw [e, hω] at hx; cases hx
    simp only [Mem.boxed]
    rw [if_neg this]
    exact hx
  frz x hx := by
    refine ⟨?_, (h.frz x hx).2⟩
    have : x ≠ M.β b := fun e => hF (e ▸ hx)
    simp only [Mem.boxed]
    rw [if_neg this]
    exact (h.frz x hx).1
  lt x l hl := by
    simp only [Mem.boxed] at hl
    split at hl
    · rename_i e; subst e
      rcases Nat.lt_or_ge (M.β b) W.heap.size with h1 | h1
      · exact h1
      · rw [Array.getElem?_eq_none h1] at hblk; cases hblk
    · exact h.lt x l hl
  tok x t hl := by
    simp only [Mem.boxed] at hl
    split at hl
    · cases hl
    · exact h.tok x t hl
  bx x k hl := by
    simp only [Mem.boxed] at hl
    split at hl
    · cases hl; exact hb
    · exact h.bx x k hl
theorem take_fills {M' : Mem} {s' : S} (hc : MemOK M' W s') : ∀ (bs : List Nat) (i0 : Nat) {M2 : Mem} {s2 : S} {us ub : List Nat}, St n M2 W s2 a → Mid W M' M2 us ub → 
    (∀ j b, bs[j]? = some b → b < M2.nb ∧ M2.β b = M'.β (i0 + j) ∧ (s'.B (i0 + j)).isSome ∧ i0 + j ∉ ub) →
    ((List.range' i0 bs.length).flatMap s'.boxToks).Nodup → (∀ t ∈ (List.range' i0 bs.length).flatMap s'.boxToks, t ∉ us) → (∀ x ∈ (List.range' i0 bs.length).map s'.cont, FOk M' M2 x) →
    ∃ M3, St n M3 W (s2.fills bs ((List.range' i0 bs.length).map s'.cont)) a ∧ Keep M2 W M3 W ∧ Mid W M' M3 ((List.range' i0 bs.length).flatMap s'.boxToks ++ us) (List.range' i0 bs.length ++ ub) ∧ M3.F = M2.F ∧ Trk M' M2 M3
  | [], i0, M2, s2, us, ub, h, hm, _, _, _, _ => ⟨M2, h, Keep.refl _ _, hm, rfl, Trk.refl⟩
  | b :: bs, i0, M2, s2, us, ub, h, hm, hb, hnd, hj, hf => by
    simp only [List.length_cons, List.range'_succ, List.flatMap_cons, List.map_cons] at hnd hj hf ⊢
    rw [List.nodup_append] at hnd
    obtain ⟨hb1, hb2, hb3, hb4⟩ := hb 0 b rfl
    rw [Nat.add_zero] at hb2 hb3 hb4
    obtain ⟨c', hc'⟩ := Option.isSome_iff_exists.1 hb3
    obtain ⟨h1, cs, ty, h2, h3, h4⟩ := hc.box i0 c' hc'
    have e1 : s'.cont i0 = onL1 (closeOr true s') c' := by simp [S.cont, hc', closeOr]
    have e2 : s'.boxToks i0 = ((leaves c').flatMap tokL).filter s'.wrT := by simp [S.boxToks, hc', toks1_leaves]
    obtain ⟨M3, k1, k2, k3, k4, k5, k6⟩ := take_cont true hc h.mem hm h4 (by rw [← e2]; exact hnd.1) (fun j hj' => hj j (List.mem_append.2 (.inl (by rw [e2]; exact hj')))) (by rw [← e1]; exact hf _ (by simp))
    rw [← e1] at k1 k3
    rw [← e2] at k4
    have hβ3 : M3.β b = M'.β i0 := (k2.β b hb1).trans hb2
    have hfree := k4.box (M'.β i0) i0 h3 hb4
    have hbox := set_box (b := b) k1 (c := (adC (s'.cont i0) s2).1) (cs := cs) (ty := ty) (Nat.lt_of_lt_of_le hb1 k2.nb) (by rw [hβ3]; exact h2) (by rw [hβ3]; exact hfree.1) (by rw [hβ3]; exact hfree.2) k3
    have hk4 : Keep M2 W (M3.boxed b (M3.β b)) W := k2.trans (boxed_keep _ _)
    have hst : St n (M3.boxed b (M3.β b)) W ((adC (s'.cont i0) s2).2.setB b (some (adC (s'.cont i0) s2).1)) a := h.slots_keep hbox hk4 (by
      show (adC (s'.cont i0) s2).2.e = s2.e
      exact adC_e _ _)
    have hm4 : Mid W M' (M3.boxed b (M3.β b)) (s'.boxToks i0 ++ us) (i0 :: ub) := ⟨fun x j hx hj' => by
      have hne : x ≠ M3.β b := fun e => by rw [e, hβ3, h3] at hx; cases hx
      simp only [Mem.boxed]
      rw [if_neg hne]
      exact k4.tok x j hx hj', fun x j hx hj' => by
      simp only [List.mem_cons, not_or] at hj'
      have hne : x ≠ M3.β b := fun e => by rw [e, hβ3, h3] at hx; cases hx; exact hj'.1 rfl
      simp only [Mem.boxed]
      rw [if_neg hne]
      exact k4.box x j hx hj'.2⟩
    have htrk : Trk M' M2 (M3.boxed b (M3.β b)) := k6.trans ⟨fun x l hl => by
      simp only [Mem.boxed] at hl
      split at hl
      · rename_i e; right; rw [e, hβ3, h3]; simp
      · exact .inl hl, fun x l hl => by
      have hne : x ≠ M3.β b := fun e => by rw [e, hβ3, hfree.1] at hl; cases hl
      simp only [Mem.boxed]
      rw [if_neg hne]
      exact hl⟩
    obtain ⟨M5, l1, l2, l3, l4, l5⟩ := take_fills hc bs (i0 + 1) hst hm4 (fun j b' hj' => by
      obtain ⟨g1, g2, g3, g4⟩ := hb (j + 1) b' (by simpa using hj')
      have e3 : i0 + (j + 1) = i0 + 1 + j := by omega
      rw [e3] at g2 g3 g4
      refine ⟨Nat.lt_of_lt_of_le g1 k2.nb, (k2.β b' g1).trans g2, g3, ?_⟩
      simp only [List.mem_cons, not_or]
      exact ⟨by omega, g4⟩) hnd.2.1 (fun t ht => by
      simp only [List.mem_append, not_or]
      exact ⟨fun hx => hnd.2.2 t hx t ht rfl, hj t (List.mem_append.2 (.inr ht))⟩) (fun x hx => (hf x (by simp only [List.mem_cons]; exact .inr hx)).mono k5)
    refine ⟨M5, l1, hk4.trans l2, ⟨fun x j hx hj' => l3.tok x j hx fun hh => hj' ?_, fun x j hx hj' => l3.box x j hx fun hh => hj' ?_⟩, l4.trans k5, htrk.trans l5⟩
    · simp only [List.mem_append] at hh ⊢
      rcases hh with h | h | h
      · exact .inl (.inr h)
      · exact .inl (.inl h)
      · exact .inr h
    · simp only [List.mem_append, List.mem_cons, List.cons_append] at hh ⊢
      rcases hh with h | h | h
      · exact .inr (.inl h)
      · exact .inl h
      · exact .inr (.inr h)
def Mem.newbox (M : Mem) (blk : Nat) : Mem := { M with ω := fun b => if b = blk then some (.box M.nb) else M.ω b, β := fun x => if x = M.nb then blk else M.β x, nb := M.nb + 1 }
theorem newbox_keep (blk : Nat) : Keep M W (M.newbox blk) W := ⟨fun _ h => h, fun _ _ => rfl, fun _ _ => rfl, fun _ _ _ _ => rfl, fun b hb => if_neg (Nat.ne_of_lt hb), Nat.le_refl _, Nat.le_succ _⟩
theorem new_box (h : MemOK M W s) {blk : Nat} {c : V} {cs : Array Value} {ty : TypeId} (hblk : W.heap[blk]? = some (.cells cs ty (0, 0))) (hω : M.ω blk = none) (hF : ¬ M.F blk) (hc : All2 (SRL M W) (leaves c) cs.toList) :
    MemOK (M.newbox blk) W (s.newB c) ∧ SRL (M.newbox blk) W (.ptr s.nb 0) (.pointer (some ⟨blk, 0, none⟩)) := by
  refine ⟨?_, ?_, ?_⟩
  · exact {
      nt := h.nt
      nb := by show M.nb + 1 = s.nb + 1; rw [h.nb]
      box := fun x c' hx => by
        have hx' : (if x = s.nb then some c else s.B x) = some c' := hx
        by_cases e : x = s.nb
        · rw [if_pos e] at hx'
          cases hx'
          rw [← h.nb] at e
          subst e
          exact ⟨Nat.lt_succ_self _, cs, ty, by simpa [Mem.newbox] using hblk, by simp [Mem.newbox], (newbox_keep _).leaves hc⟩
        · rw [if_neg e] at hx'
          obtain ⟨h1, cs', ty', h2, h3, h4⟩ := h.box x c' hx'
          have hβ : (M.newbox blk).β x = M.β x := if_neg (Nat.ne_of_lt h1)
          refine ⟨Nat.lt_succ_of_lt h1, cs', ty', by rw [hβ]; exact h2, ?_, (newbox_keep _).leaves h4⟩
          rw [hβ]
          have : M.β x ≠ blk := fun e => by rw [e, hω] at h3; cases h3
          simp only [Mem.newbox]
          rw [if_neg this]
          exact h3
      row := fun t r hr => by
        obtain ⟨h1, h2⟩ := h.row t r hr
        refine ⟨h1, (newbox_keep _).row h1 (fun _ x hx => ⟨?_, rfl⟩) h2⟩
        have : x ≠ blk := fun e => by rw [e, hω] at hx; cases hx
        simp only [Mem.newbox]
        rw [if_neg this]
        exact hx
      frz := fun x hx => by
        refine ⟨?_, (h.frz x hx).2⟩
        have : x ≠ blk := fun e => hF (e ▸ hx)
        simp only [Mem.newbox]
        rw [if_neg this]
        exact (h.frz x hx).1
      lt := fun x l hl => by
        simp only [Mem.newbox] at hl
        split at hl
        · rename_i e; subst e
          rcases Nat.lt_or_ge x W.heap.size with h1 | h1
          · exact h1
          · rw [Array.getElem?_eq_none h1] at hblk; cases hblk
        · exact h.lt x l hl
      tok := fun x t hl => by
        simp only [Mem.newbox] at hl
        split at hl
        · cases hl
        · exact h.tok x t hl
      bx := fun x k hl => by
        simp only [Mem.newbox] at hl ⊢
        split at hl
        · cases hl; exact Nat.lt_succ_self _
        · exact Nat.lt_succ_of_lt (h.bx x k hl) }
  · show s.nb < M.nb + 1
    rw [h.nb]; exact Nat.lt_succ_self _
  · show _ = Value.pointer (some ⟨(if s.nb = M.nb then blk else M.β s.nb), 0, none⟩)
    rw [if_pos h.nb.symm]
theorem ad1_noBx (v : V) (s : S) (h : ∀ c, v ≠ .bx c) : ad1 v s = adC v s := by
  unfold ad1
  split
  · exact absurd rfl (h _)
  · rfl
theorem onL1_noBx (m : V → V) (hm : ∀ x c, m x ≠ .bx c) (v : V) : ∀ c, onL1 m v ≠ .bx c := by
  intro c
  unfold onL1
  split
  · simp
  · exact hm _ _
theorem closeL_noBx (s : S) (x : V) : ∀ c, closeL s x ≠ .bx c := by
  intro ys
  unfold closeL
  split <;> (try split) <;> simp
theorem adC_nb (x : V) (s : S) : (adC x s).2.nb = s.nb := by
  have hl : ∀ (x : V) (s : S), (adL x s).2.nb = s.nb := fun x s => by unfold adL; split <;> rfl
  have hls : ∀ (xs : List V) (s : S), (adLs xs s).2.nb = s.nb := by
    intro xs
    induction xs with
    | nil => intro s; rfl
    | cons x xs ih => intro s; simp only [adLs]; rw [ih, hl]
  unfold adC
  split
  · exact hls _ _
  · exact hl _ _
theorem take_res1 {M' M2 : Mem} {s' s2 : S} {us ub : List Nat} {k : Nat} (hc : MemOK M' W s') (h : MemOK M2 W s2) (hm : Mid W M' M2 us ub) {x : V} {v : Value} (hx : SR1 M' W x v)
    (hnd : (resToks1 s' x).Nodup) (hj : ∀ j ∈ resToks1 s' x, j ∉ us) (hb : ∀ b ∈ boxesL x, k ≤ b → b ∉ ub) (hf : FOk M' M2 (closeB s' k x)) :
    ∃ M3, MemOK M3 W (ad1 (closeB s' k x) s2).2 ∧ Keep M2 W M3 W ∧ SR1 M3 W (ad1 (closeB s' k x) s2).1 v ∧ Mid W M' M3 (resToks1 s' x ++ us) (boxesL x ++ ub) ∧ M3.F = M2.F ∧ Trk M' M2 M3 := by
  have hmid : ∀ {M3 : Mem} {l : List Nat}, Mid W M' M3 (l ++ us) ub → Mid W M' M3 (l ++ us) (boxesL x ++ ub) := fun hm3 => ⟨hm3.tok, fun y j hy hj => hm3.box y j hy fun hh => hj (List.mem_append.2 (.inr hh))⟩
  by_cases hp : ∃ b o, x = .ptr b o
  · obtain ⟨b, o, rfl⟩ := hp
    have bad : closeB s' k (.ptr b o) = .bad → ∃ M3, MemOK M3 W (ad1 (closeB s' k (.ptr b o)) s2).2 ∧ Keep M2 W M3 W ∧ SR1 M3 W (ad1 (closeB s' k (.ptr b o)) s2).1 v ∧ Mid W M' M3 (resToks1 s' (.ptr b o) ++ us) (boxesL (.ptr b o) ++ ub) ∧ M3.F = M2.F ∧ Trk M' M2 M3 := by
      intro e
      rw [e]
      exact ⟨M2, h, Keep.refl _ _, trivial, ⟨fun y j hy hj => hm.tok y j hy fun hh => hj (List.mem_append.2 (.inr hh)), fun y j hy hj => hm.box y j hy fun hh => hj (List.mem_append.2 (.inr hh))⟩, rfl, Trk.refl⟩
    by_cases ho : o = 0
    · subst ho
      by_cases hk : k ≤ b
      · cases hB : s'.B b with
        | none => exact bad (by simp [closeB, hk, hB])
        | some c =>
          have e0 : closeB s' k (.ptr b 0) = .bx (onL1 (closeOr true s') c) := by simp [closeB, hk, hB, closeOr]
          have e2 : resToks1 s' (.ptr b 0) = ((leaves c).flatMap tokL).filter s'.wrT := by simp [resToks1, S.boxToks, hB, toks1_leaves]
          obtain ⟨h1, cs, ty, h2, h3, h4⟩ := hc.box b c hB
          rw [e0] at hf ⊢
          have hf' : FOk M' M2 (onL1 (closeOr true s') c) := by
            rcases hf with hf | hf
            · exact .inl hf
            · exact .inr (by simpa only [noL] using hf)
          rw [e2] at hnd hj
          obtain ⟨M3, k1, k2, k3, k4, k5, k6⟩ := take_cont true hc h hm h4 hnd hj hf'
          have hfree := k4.box (M'.β b) b h3 (hb b (by simp [boxesL]) hk)
          obtain ⟨l1, l2⟩ := new_box k1 (blk := M'.β b) h2 hfree.1 hfree.2 k3
          obtain ⟨-, rfl⟩ := hx
          refine ⟨M3.newbox (M'.β b), l1, k2.trans (newbox_keep _), l2, ⟨fun y j hy hj' => ?_, fun y j hy hj' => ?_⟩, k5, k6.trans ⟨fun y l hl => ?_, fun y l hl => ?_⟩⟩
          · have hne : y ≠ M'.β b := fun e => by rw [e, h3] at hy; cases hy
            simp only [Mem.newbox]
            rw [if_neg hne]
            exact k4.tok y j hy (by rw [e2] at hj'; exact hj')
          · simp only [boxesL, List.singleton_append, List.mem_cons, not_or] at hj'
            have hne : y ≠ M'.β b := fun e => by rw [e, h3] at hy; cases hy; exact hj'.1 rfl
            simp only [Mem.newbox]
            rw [if_neg hne]
            exact k4.box y j hy hj'.2
          · simp only [Mem.newbox] at hl
            split at hl
            · rename_i e; right; rw [e, h3]; simp
            · exact .inl hl
          · have hne : y ≠ M'.β b := fun e => by rw [e, hfree.1] at hl; cases hl
            simp only [Mem.newbox]
            rw [if_neg hne]
            exact hl
      · exact bad (by simp [closeB, hk])
    · refine bad ?_
      cases o with
      | zero => exact absurd rfl ho
      | succ o => simp [closeB, onL1, closeL]
  · have e0 : closeB s' k x = onL1 (closeL s') x := by
      cases x <;> first | rfl | exact absurd ⟨_, _, rfl⟩ hp
    have e2 : resToks1 s' x = (toks1 x).filter s'.wrT := by
      cases x <;> first | rfl | exact absurd ⟨_, _, rfl⟩ hp
    rw [e0] at hf ⊢
    rw [ad1_noBx _ _ (onL1_noBx _ (closeL_noBx s') x)]
    rw [e2] at hnd hj ⊢
    obtain ⟨M3, k1, k2, k3, k4, k5, k6⟩ := take_one hc h hm hx hnd hj hf
    exact ⟨M3, k1, k2, k3, hmid k4, k5, k6⟩
theorem take_res1s {M' : Mem} {s' : S} {k : Nat} (hc : MemOK M' W s') : ∀ {xs : List V} {vs : List Value} {M2 : Mem} {s2 : S} {us ub : List Nat}, MemOK M2 W s2 → Mid W M' M2 us ub → All2 (SR1 M' W) xs vs →
    (xs.flatMap (resToks1 s')).Nodup → (∀ j ∈ xs.flatMap (resToks1 s'), j ∉ us) → (xs.flatMap boxesL).Nodup → (∀ b ∈ xs.flatMap boxesL, k ≤ b → b ∉ ub) → (∀ x ∈ xs, FOk M' M2 (closeB s' k x)) →
    ∃ M3, MemOK M3 W (ad1s (xs.map (closeB s' k)) s2).2 ∧ Keep M2 W M3 W ∧ All2 (SR1 M3 W) (ad1s (xs.map (closeB s' k)) s2).1 vs ∧ M3.F = M2.F ∧ Trk M' M2 M3
  | [], [], M2, s2, us, ub, h, hm, _, _, _, _, _, _ => ⟨M2, h, Keep.refl _ _, trivial, rfl, Trk.refl⟩
  | x :: xs, v :: vs, M2, s2, us, ub, h, hm, hx, hnd, hj, hbn, hb, hf => by
    rw [List.flatMap_cons, List.nodup_append] at hnd hbn
    rw [List.flatMap_cons] at hj hb
    obtain ⟨M3, h1, h2, h3, h4, h5, h6⟩ := take_res1 hc h hm hx.1 hnd.1 (fun j hj' => hj j (List.mem_append.2 (.inl hj'))) (fun b hb' => hb b (List.mem_append.2 (.inl hb'))) (hf x (by simp))
    obtain ⟨M4, k1, k2, k3, k4, k5⟩ := take_res1s hc h1 h4 hx.2 hnd.2.1 (fun j hj' => by
      simp only [List.mem_append, not_or]
      exact ⟨fun hh => hnd.2.2 j hh j hj' rfl, hj j (List.mem_append.2 (.inr hj'))⟩) hbn.2.1 (fun b hb' hk => by
      simp only [List.mem_append, not_or]
      exact ⟨fun hh => hbn.2.2 b hh b hb' rfl, hb b (List.mem_append.2 (.inr hb')) hk⟩) (fun y hy => (hf y (by simp [hy])).mono h5)
    exact ⟨M4, k1, h2.trans k2, ⟨k2.one h3, k3⟩, k4.trans h5, h6.trans k5⟩
theorem take_res {M' M2 : Mem} {s' s2 : S} {us ub : List Nat} {k : Nat} (hc : MemOK M' W s') (h : MemOK M2 W s2) (hm : Mid W M' M2 us ub) {x : V} {v : Value} (hx : SR2 M' W x v)
    (hnd : (resToks s' x).Nodup) (hj : ∀ j ∈ resToks s' x, j ∉ us) (hbn : (resBoxes x).Nodup) (hb : ∀ b ∈ resBoxes x, k ≤ b → b ∉ ub) (hf : FOk M' M2 (closeR s' k x)) :
    ∃ M3, MemOK M3 W (ad (closeR s' k x) s2).2 ∧ Keep M2 W M3 W ∧ SR2 M3 W (ad (closeR s' k x) s2).1 v ∧ M3.F = M2.F ∧ Trk M' M2 M3 := by
  by_cases ht : ∃ xs, x = .tup xs
  · obtain ⟨xs, rfl⟩ := ht
    obtain ⟨vs, rfl, ha⟩ := hx
    obtain ⟨M3, h1, h2, h3, h4, h5⟩ := take_res1s hc h hm ha hnd hj hbn hb (fun y hy => by
      rcases hf with hf | hf
      · exact .inl hf
      · right
        have hf' : noLs (xs.map (closeB s' k)) = true := by simpa only [closeR, noL] using hf
        exact noLs_mem hf' (List.mem_map.2 ⟨y, hy, rfl⟩))
    exact ⟨M3, h1, h2, ⟨vs, rfl, h3⟩, h4, h5⟩
  · have e1 : closeR s' k x = closeB s' k x := by cases x <;> first | rfl | exact absurd ⟨_, rfl⟩ ht
    have e2 : resToks s' x = resToks1 s' x := by cases x <;> first | rfl | exact absurd ⟨_, rfl⟩ ht
    have e3 : resBoxes x = boxesL x := by cases x <;> first | rfl | exact absurd ⟨_, rfl⟩ ht
    have hx1 : SR1 M' W x v := SR1_of_2 hx (by cases x <;> first | rfl | exact absurd ⟨_, rfl⟩ ht)
    rw [e1] at hf ⊢
    rw [e2] at hnd hj
    rw [e3] at hb
    obtain ⟨M3, h1, h2, h3, h4, h5, h6⟩ := take_res1 hc h hm hx1 hnd hj hb hf
    have e4 : ad (closeB s' k x) s2 = ad1 (closeB s' k x) s2 := by
      unfold ad
      split
      · rename_i xs e
        exfalso
        revert e
        unfold closeB
        split
        · split
          · split <;> simp
          · simp
        · unfold onL1
          split
          · simp
          · unfold closeL
            split <;> (try split) <;> simp
      · rfl
    rw [e4]
    exact ⟨M3, h1, h2, SR2_of_1' h3, h5, h6⟩
end
end Go.TM
end
section
namespace Go.TM
open Go
section
variable {P : Program} {E : Env} {M : Mem} {W : World} {s : S} {n : Nat} {a : Act}
theorem stills_R : ∀ (ts : List Nat) (s : S) (t : Nat) (r : Rw), (s.stills ts).R t = some r →
    (t ∉ ts ∧ s.R t = some r) ∨ (t ∈ ts ∧ r.wr = false ∧ ∃ r0, s.R t = some r0 ∧ r.sz = r0.sz ∧ (∀ (W : World) (F : Nat → Prop) v, FR W F (.lst (norms r0.xs)) v → FR W F (.lst r.xs) v) ∧ ((∀ e ∈ r0.xs, (leaves e).length = r0.sz) → ∀ e ∈ r.xs, (leaves e).length = r.sz))
  | [], s, t, r, h => .inl ⟨by simp, h⟩
  | u :: ts, s, t, r, h => by
    have hsz : ∀ (xs : List V) (z : Nat), (∀ e ∈ xs, (leaves e).length = z) → ∀ e ∈ norms xs, (leaves e).length = z := by
      intro xs z hx e he
      rw [norms_eq, List.mem_map] at he
      obtain ⟨e', h1, rfl⟩ := he
      rw [leaves_norm, List.length_map]
      exact hx e' h1
    have hstill : ∀ r, (s.still u).R t = some r → (t ≠ u ∧ s.R t = some r) ∨ (t = u ∧ ∃ r0, s.R t = some r0 ∧ r = ⟨r0.sz, norms r0.xs, false⟩) := by
      intro r hr
      unfold S.still at hr
      split at hr
      · rename_i r0 h0
        simp only [S.setR] at hr
        split at hr
        · rename_i e; subst e; cases hr; exact .inr ⟨rfl, r0, h0, rfl⟩
        · rename_i e; exact .inl ⟨e, hr⟩
      · rename_i h0
        refine .inl ⟨?_, hr⟩
        rintro rfl
        rw [h0] at hr; cases hr
    rcases stills_R ts (s.still u) t r h with ⟨h1, h2⟩ | ⟨h1, h2, r0, h3, h4, h5, h6⟩
    · rcases hstill r h2 with ⟨h7, h8⟩ | ⟨h7, r0, h8, rfl⟩
      · exact .inl ⟨by simp [h7, h1], h8⟩
      · exact .inr ⟨by simp [h7], rfl, r0, h8, rfl, fun W F v hv => hv, fun hx => hsz _ _ hx⟩
    · rcases hstill r0 h3 with ⟨h7, h8⟩ | ⟨h7, r1, h8, rfl⟩
      · exact .inr ⟨by simp [h1], h2, r0, h8, h4, h5, h6⟩
      · exact .inr ⟨by simp [h7], h2, r1, h8, h4, fun W F v hv => h5 W F v (by
          have := FR.norm hv
          simpa only [TM.norm] using this), fun hx => h6 (hsz _ _ hx)⟩
theorem stills_same : ∀ (ts : List Nat) (s : S), (s.stills ts).e = s.e ∧ (s.stills ts).B = s.B ∧ (s.stills ts).nt = s.nt ∧ (s.stills ts).nb = s.nb
  | [], s => ⟨rfl, rfl, rfl, rfl⟩
  | u :: ts, s => by
    obtain ⟨h1, h2, h3, h4⟩ := stills_same ts (s.still u)
    have : (s.still u).e = s.e ∧ (s.still u).B = s.B ∧ (s.still u).nt = s.nt ∧ (s.still u).nb = s.nb := by
      unfold S.still
      split <;> exact ⟨rfl, rfl, rfl, rfl⟩
    exact ⟨h1.trans this.1, h2.trans this.2.1, h3.trans this.2.2.1, h4.trans this.2.2.2⟩
theorem drops_R : ∀ (ts : List Nat) (s : S) (t : Nat), (s.drops ts).R t = if t ∈ ts then none else s.R t
  | [], s, t => by simp [S.drops]
  | u :: ts, s, t => by
    simp only [S.drops, drops_R ts, S.setR, List.mem_cons]
    by_cases h1 : t ∈ ts
    · simp [h1]
    · by_cases h2 : t = u <;> simp [h1, h2]
theorem drops_same : ∀ (ts : List Nat) (s : S), (s.drops ts).e = s.e ∧ (s.drops ts).B = s.B ∧ (s.drops ts).nt = s.nt ∧ (s.drops ts).nb = s.nb
  | [], s => ⟨rfl, rfl, rfl, rfl⟩
  | u :: ts, s => drops_same ts (s.setR u none)
def S.clearB (s : S) (bs : List Nat) : S := { s with B := fun x => if x ∈ bs then none else s.B x }
theorem backs_clear (s0 : S) (bs : List Nat) : ∀ (gs os : List V) (s : S), (s.clearB bs).backs s0 gs os = (s.backs s0 gs os).clearB bs
  | [], os, s => by cases os <;> rfl
  | g :: gs, [], s => rfl
  | g :: gs, o :: os, s => by
    simp only [S.backs]
    have : (s.clearB bs).back s0 g o = (s.back s0 g o).clearB bs := by
      unfold S.back
      split
      · split
        · unfold S.clearB S.mapE S.setR
          simp only [S.mk.injEq, true_and, and_true]
          funext x
          split <;> rfl
        · rfl
      · split <;> rfl
      · rfl
    rw [this]
    exact backs_clear s0 bs gs os _
theorem adC_B (x : V) (s : S) : (adC x s).2.B = s.B := by
  have hl : ∀ (x : V) (s : S), (adL x s).2.B = s.B := fun x s => by unfold adL; split <;> rfl
  have hls : ∀ (xs : List V) (s : S), (adLs xs s).2.B = s.B := by
    intro xs
    induction xs with
    | nil => intro s; rfl
    | cons x xs ih => intro s; simp only [adLs]; rw [ih, hl]
  unfold adC
  split
  · exact hls _ _
  · exact hl _ _
theorem adC_withB (x : V) (s : S) (B : Nat → Option V) : adC x { s with B := B } = ((adC x s).1, { (adC x s).2 with B := B }) := by
  have hl : ∀ (x : V) (s : S), adL x { s with B := B } = ((adL x s).1, { (adL x s).2 with B := B }) := fun x s => by unfold adL; split <;> rfl
  have hls : ∀ (xs : List V) (s : S), adLs xs { s with B := B } = ((adLs xs s).1, { (adLs xs s).2 with B := B }) := by
    intro xs
    induction xs with
    | nil => intro s; rfl
    | cons x xs ih => intro s; simp only [adLs, hl, ih]
  unfold adC
  split
  · rw [hls]
  · exact hl _ _
theorem fills_B : ∀ (bs : List Nat) (cs : List V) (s : S) (B : Nat → Option V), bs.length = cs.length → (∀ x, x ∉ bs → B x = s.B x) → ({ s with B := B } : S).fills bs cs = s.fills bs cs
  | [], [], s, B, _, h => by
    have : B = s.B := funext fun x => h x (by simp)
    rw [this]
  | [], _ :: _, s, B, h, _ => by simp at h
  | _ :: _, [], s, B, h, _ => by simp at h
  | b :: bs, c :: cs, s, B, h, hB => by
    simp only [S.fills, adC_withB]
    have e : (({ (adC c s).2 with B := B } : S).setB b (some (adC c s).1)) = { ((adC c s).2.setB b (some (adC c s).1)) with B := fun x => if x = b then some (adC c s).1 else B x } := rfl
    rw [e]
    refine fills_B bs cs _ _ (by simpa using h) fun x hx => ?_
    show (if x = b then some (adC c s).1 else B x) = if x = b then some (adC c s).1 else (adC c s).2.B x
    split
    · rfl
    · rename_i hne
      rw [hB x (by simp [hne, hx]), adC_B]
theorem fills_clear (bs : List Nat) (cs : List V) (s : S) (h : bs.length = cs.length) : (s.clearB bs).fills bs cs = s.fills bs cs :=
  fills_B bs cs s _ h fun x hx => by simp [hx]
theorem given_rows {w : List Bool} {args : List V} : ∀ u ∈ given s w args, (∃ t, u = .own t ∧ ∃ z xs, s.R t = some ⟨z, xs, true⟩) ∨ (∃ t i o p, u = .sub t i o ∧ s.nest t i o = some p) := by
  have hl : ∀ x, ∀ u ∈ givenL s x, (∃ t, u = .own t ∧ ∃ z xs, s.R t = some ⟨z, xs, true⟩) ∨ (∃ t i o p, u = .sub t i o ∧ s.nest t i o = some p) := by
    intro x u hu
    unfold givenL at hu
    split at hu
    · split at hu
      · rename_i z xs hr
        simp only [List.mem_singleton] at hu
        exact .inl ⟨_, hu, z, xs, hr⟩
      · cases hu
    · split at hu
      · rename_i p hp
        simp only [List.mem_singleton] at hu
        exact .inr ⟨_, _, _, p, hu, hp⟩
      · cases hu
    · cases hu
  induction args generalizing w with
  | nil => intro u hu; cases w with | nil => cases hu | cons b w => cases b <;> cases hu
  | cons x args ih =>
    intro u hu
    cases w with
    | nil => cases hu
    | cons b w =>
      cases b with
      | false => exact ih (w := w) u hu
      | true =>
        rcases List.mem_append.1 hu with hu | hu
        · obtain ⟨y, -, hy⟩ := List.mem_flatMap.1 hu
          exact hl y u hy
        · exact ih (w := w) u hu
theorem given_tok {w : List Bool} {args : List V} : (given s w args).flatMap tokG = (given s w args).map tokU := by
  have : ∀ l : List V, (∀ u ∈ l, (∃ t, u = .own t) ∨ ∃ t i o, u = .sub t i o) → l.flatMap tokG = l.map tokU := by
    intro l
    induction l with
    | nil => intro _; rfl
    | cons u l ih =>
      intro h
      rw [List.flatMap_cons, List.map_cons, ih fun v hv => h v (by simp [hv])]
      rcases h u (by simp) with ⟨t, rfl⟩ | ⟨t, i, o, rfl⟩ <;> rfl
  refine this _ fun u hu => ?_
  rcases given_rows u hu with ⟨t, rfl, -⟩ | ⟨t, i, o, -, rfl, -⟩
  · exact .inl ⟨t, rfl⟩
  · exact .inr ⟨t, i, o, rfl⟩
open Classical in
noncomputable def Mem.rel (M : Mem) (W : World) (s : S) (U : List V) (bs ft : List Nat) (sh : Bool) (F : Nat → Prop) : Mem :=
  { M with F := F, ω := fun b => if isGiven M W s U bs b ∨ (sh = true ∧ ∃ t ∈ ft, M.ω b = some (.tok t)) then none else M.ω b }
section
variable {U : List V} {bs ft : List Nat} {k : Nat} {ans : Ans} {M' : Mem} {W' : World} {s' : S} {sv : V} {v : Value}
structure Back (M : Mem) (W : World) (s : S) (U : List V) (bs ft : List Nat) (ans : Ans) (M' : Mem) (W' : World) (s' : S) (sv : V) (v : Value) : Prop where
  mem : MemOK M W s
  en : MemOK (M.enter W s U bs ft) W (start [] [])  ∨ True
  frzc : ∀ b, (M.enter W s U bs ft).F b → (M.enter W s U bs ft).ω b = none ∧ b < W.heap.size
  hU : ∀ u ∈ U, (rowOf s u).isSome
  hnd : (U.map tokU).Nodup
  hft : ∀ t ∈ ft, t ∉ U.map tokU
  post : Post bs.length ans (M.enter W s U bs ft) W M' W' s' sv v
noncomputable def newF (M M' : Mem) (sh : Bool) (ft : List Nat) : Nat → Prop := if sh = true ∨ ft = [] then M'.F else M.F
variable (hB : Back M W s U bs ft ans M' W' s' sv v)
include hB
theorem Back.same {b : Nat} (hb : b < W.heap.size) (hg : ¬ isGiven M W s U bs b) : W'.heap[b]? = W.heap[b]? := by
  refine hB.post.evo.old b hb ?_
  cases e : (M.enter W s U bs ft).ω b with
  | none => rfl
  | some l => exact absurd (enter_given hB.mem hB.hU (by rw [e]; simp)) hg
theorem Back.FW {b : Nat} (hb : M.F b) : W'.heap[b]? = W.heap[b]? := by
  refine hB.same (hB.mem.frz b hb).2 fun hg => ?_
  rcases given_lab hB.mem hB.hU hg with ⟨u, -, -, h⟩ | ⟨k, -, h, -⟩ <;> (rw [(hB.mem.frz b hb).1] at h; cases h)
theorem Back.Fle : ∀ b, M.F b → newF M M' ans.sh ft b := by
  intro b hb
  unfold newF
  split
  · exact hB.post.evo.frz0 b (.inl hb)
  · exact hb
theorem Back.labOf {b : Nat} {l : Root} (hl : M'.ω b = some l) : (isGiven M W s U bs b) ∨ W.heap.size ≤ b := by
  rcases hB.post.evo.lab b l hl with h | h
  · exact .inl (enter_given hB.mem hB.hU h)
  · exact .inr h
theorem Back.relω_none {b : Nat} {F : Nat → Prop} (h : isGiven M W s U bs b ∨ W.heap.size ≤ b) : (M.rel W s U bs ft ans.sh F).ω b = none := by
  simp only [Mem.rel]
  split
  · rfl
  · rename_i hn
    rcases h with h | h
    · exact absurd (.inl h) hn
    · cases e : M.ω b with
      | none => rfl
      | some l => have := hB.mem.lt b l e; omega
theorem Back.mid : Mid W' M' (M.rel W s U bs ft ans.sh (newF M M' ans.sh ft)) [] [] := by
  have key : ∀ b l, M'.ω b = some l → (M.rel W s U bs ft ans.sh (newF M M' ans.sh ft)).ω b = none ∧ ¬ (M.rel W s U bs ft ans.sh (newF M M' ans.sh ft)).F b := by
    intro b l hl
    have h1 := hB.labOf hl
    refine ⟨hB.relω_none h1, fun hF => ?_⟩
    have hF' : newF M M' ans.sh ft b := hF
    unfold newF at hF'
    split at hF'
    · rw [(hB.post.mem.frz b hF').1] at hl; cases hl
    · rcases h1 with h1 | h1
      · rcases given_lab hB.mem hB.hU h1 with ⟨u, -, -, h⟩ | ⟨k, -, h, -⟩ <;> (rw [(hB.mem.frz b hF').1] at h; cases h)
      · have := (hB.mem.frz b hF').2; omega
  exact ⟨fun b j hb _ => key b _ hb, fun b j hb _ => key b _ hb⟩
theorem Back.keep : Keep M W (M.rel W s U bs ft ans.sh (newF M M' ans.sh ft)) W' :=
  ⟨hB.Fle, fun b hb => hB.FW hb, fun _ _ => rfl, fun _ _ _ _ => rfl, fun _ _ => rfl, Nat.le_refl _, Nat.le_refl _⟩
theorem Back.notGiven {b t : Nat} (hb : M.ω b = some (.tok t)) (ht : t ∉ U.map tokU) : ¬ isGiven M W s U bs b := by
  intro hg
  rcases given_lab hB.mem hB.hU hg with ⟨u, hu, -, h⟩ | ⟨k, -, h, -⟩
  · rw [hb] at h; cases h; exact ht (List.mem_map.2 ⟨u, hu, rfl⟩)
  · rw [hb] at h; cases h
theorem Back.rows {s1 : S} (h1 : s1 = ((if ans.sh = true then s.stills ft else s).drops (U.map tokU)).clearB bs) : MemOK (M.rel W s U bs ft ans.sh (newF M M' ans.sh ft)) W' s1 := by
  have hsame : s1.nt = s.nt ∧ s1.nb = s.nb ∧ (∀ x, s1.B x = if x ∈ bs then none else s.B x) ∧ ∀ t, s1.R t = if t ∈ U.map tokU then none else (if ans.sh = true then s.stills ft else s).R t := by
    subst h1
    obtain ⟨k1, k2, k3, k4⟩ := drops_same (U.map tokU) (if ans.sh = true then s.stills ft else s)
    have k5 : (if ans.sh = true then s.stills ft else s).nt = s.nt ∧ (if ans.sh = true then s.stills ft else s).nb = s.nb ∧ (if ans.sh = true then s.stills ft else s).B = s.B := by
      obtain ⟨l1, l2, l3, l4⟩ := stills_same ft s
      split
      · exact ⟨l3, l4, l2⟩
      · exact ⟨rfl, rfl, rfl⟩
    refine ⟨k3.trans k5.1, k4.trans k5.2.1, fun x => ?_, fun t => drops_R _ _ _⟩
    simp only [S.clearB, k2, k5.2.2]
  obtain ⟨hnt, hnb, hBx, hRx⟩ := hsame
  have hlab : ∀ b l, M.ω b = some l → ¬ isGiven M W s U bs b → (ans.sh = true → ∀ t ∈ ft, l ≠ .tok t) → (M.rel W s U bs ft ans.sh (newF M M' ans.sh ft)).ω b = some l := by
    intro b l hl hg hs
    simp only [Mem.rel]
    rw [if_neg]
    · exact hl
    · rintro (h | ⟨h, t, ht, h2⟩)
      · exact hg h
      · rw [hl] at h2; cases h2; exact hs h t ht rfl
  have hrelsome : ∀ b l, (M.rel W s U bs ft ans.sh (newF M M' ans.sh ft)).ω b = some l → M.ω b = some l := by
    intro b l hl
    simp only [Mem.rel] at hl
    split at hl
    · cases hl
    · exact hl
  exact {
    nt := hB.mem.nt.trans hnt.symm
    nb := hB.mem.nb.trans hnb.symm
    box := fun b c hb => by
      rw [hBx] at hb
      split at hb
      · cases hb
      · rename_i hnb'
        obtain ⟨h2, cs, ty, h3, h4, h5⟩ := hB.mem.box b c hb
        have hg : ¬ isGiven M W s U bs (M.β b) := by
          intro hg
          rcases given_lab hB.mem hB.hU hg with ⟨u, hu, -, h⟩ | ⟨k, hk, h, -⟩
          · rw [h4] at h; cases h
          · rw [h4] at h; cases h; exact hnb' hk
        exact ⟨h2, cs, ty, (hB.same (hB.mem.lt _ _ h4) hg).trans h3, hlab _ _ h4 hg (fun _ t _ e => by cases e), hB.keep.leaves h5⟩
    row := fun t r hr => by
      rw [hRx] at hr
      split at hr
      · cases hr
      · rename_i htU
        have plain : s.R t = some r → (ans.sh = true → t ∉ ft) → t < M.nt ∧ Row (M.rel W s U bs ft ans.sh (newF M M' ans.sh ft)) W' t r := by
          intro hr0 hs
          obtain ⟨h2, h3⟩ := hB.mem.row t r hr0
          refine ⟨h2, hB.keep.row h2 (fun _ b hb => ?_) h3⟩
          have hg := hB.notGiven hb htU
          exact ⟨hlab b _ hb hg (fun h x hx e => by cases e; exact hs h hx), hB.same (hB.mem.lt b _ hb) hg⟩
        by_cases hsh : ans.sh = true
        · rw [if_pos hsh] at hr
          rcases stills_R ft s t r hr with ⟨h2, h3⟩ | ⟨h2, h3, r0, h4, h5, h6, h7⟩
          · exact plain h3 fun _ => h2
          · obtain ⟨h8, h9⟩ := hB.mem.row t r0 h4
            refine ⟨h8, .inr ⟨h3, ?_, h7 h9.sizes⟩⟩
            have h10 := h6 W _ _ (frow (U := U) (bs := bs) (ft := ft) hB.mem h4 fun _ => h2)
            refine h10.mono (fun b hb => ?_) fun b hb => ?_
            · exact hB.post.evo.old b (hB.frzc b hb).2 (hB.frzc b hb).1
            · show newF M M' ans.sh ft b
              unfold newF
              rw [if_pos (.inl hsh)]
              exact hB.post.evo.frz0 b hb
        · rw [if_neg hsh] at hr
          exact plain hr fun h => absurd h hsh
    frz := fun b hb => by
      have hb' : newF M M' ans.sh ft b := hb
      unfold newF at hb'
      split at hb'
      · rename_i hc
        refine ⟨?_, (hB.post.mem.frz b hb').2⟩
        rcases hB.post.evo.frz b hb' with h | h | h
        · rcases h with h | ⟨t, ht, h⟩
          · have h2 := (hB.mem.frz b h).1
            cases e : (M.rel W s U bs ft ans.sh (newF M M' ans.sh ft)).ω b with
            | none => rfl
            | some l => rw [hrelsome b l e] at h2; cases h2
          · rcases hc with hc | hc
            · simp only [Mem.rel]
              rw [if_pos (.inr ⟨hc, t, ht, h⟩)]
            · rw [hc] at ht; cases ht
        · exact hB.relω_none (.inl (enter_given hB.mem hB.hU h))
        · exact hB.relω_none (.inr h)
      · have h2 := (hB.mem.frz b hb').1
        refine ⟨?_, Nat.lt_of_lt_of_le (hB.mem.frz b hb').2 hB.post.evo.size⟩
        cases e : (M.rel W s U bs ft ans.sh (newF M M' ans.sh ft)).ω b with
        | none => rfl
        | some l => rw [hrelsome b l e] at h2; cases h2
    lt := fun b l hl => Nat.lt_of_lt_of_le (hB.mem.lt b l (hrelsome b l hl)) hB.post.evo.size
    tok := fun b t hl => hB.mem.tok b t (hrelsome b _ hl)
    bx := fun b t hl => hB.mem.bx b t (hrelsome b _ hl) }
end
end
end Go.TM
end
section
namespace Go.TM
open Go
section
variable {P : Program} {E : Env} {M : Mem} {W : World} {s : S} {n : Nat} {a : Act}
theorem Sames.trans {M2 M3 M4 : Mem} (h : Sames M2 M3) (k : Sames M3 M4) : Sames M2 M4 := ⟨k.F.trans h.F, k.ρ.trans h.ρ, k.β.trans h.β, k.nt.trans h.nt, k.nb.trans h.nb⟩
theorem Sames.refl {M2 : Mem} : Sames M2 M2 := ⟨rfl, rfl, rfl, rfl, rfl⟩
section
variable {U : List V} {bs ft : List Nat} {ans : Ans} {M' : Mem} {W' : World} {s' : S} {sv : V} {v : Value}
theorem Back.outs (hB : Back M W s U bs ft ans M' W' s' sv v) : ∀ (gs os : List V) (k0 : Nat) {M2 : Mem} {s2 : S} {us : List Nat}, (∀ u ∈ gs, (∃ t, u = .own t ∧ ∃ z xs, s.R t = some ⟨z, xs, true⟩) ∨ (∃ t i o p, u = .sub t i o ∧ s.nest t i o = some p)) →
    At U k0 gs → os.length = gs.length → outsOk s' k0 os → St n M2 W' s2 a → Mid W' M' M2 us [] → Sames (M.rel W s U bs ft ans.sh (newF M M' ans.sh ft)) M2 → (∀ u ∈ gs, ∀ j i, M2.σ (tokU u) j i = M.σ (tokU u) j i) →
    Trk M' (M.rel W s U bs ft ans.sh (newF M M' ans.sh ft)) M2 → (∀ j ∈ us, j < k0) → (∀ o ∈ os, FOk M' M2 o) →
    ∃ M3 us', St n M3 W' (s2.backs s gs os) a ∧ Mid W' M' M3 us' [] ∧ Sames (M.rel W s U bs ft ans.sh (newF M M' ans.sh ft)) M3 ∧ Trk M' (M.rel W s U bs ft ans.sh (newF M M' ans.sh ft)) M3 ∧ ∀ j ∈ us', j ∈ us ∨ j ∈ liveOuts s' k0 os
  | [], [], k0, M2, s2, us, _, _, _, _, h, hm, hs, _, ht, _, _ => ⟨M2, us, h, hm, hs, ht, fun j hj => .inl hj⟩
  | [], _ :: _, _, _, _, _, _, _, hl, _, _, _, _, _, _, _, _ => by simp at hl
  | _ :: _, [], _, _, _, _, _, _, hl, _, _, _, _, _, _, _, _ => by simp at hl
  | g :: gs, o :: os, k0, M2, s2, us, hg, hat, hl, ho, h, hm, hs, hσ, ht, hus, hf => by
    have hgk : U[k0]? = some g := by simpa using hat 0 g rfl
    have hat' : At U (k0 + 1) gs := fun j u hj => by
      have := hat (j + 1) u (by simpa using hj)
      rw [← this]; congr 1; omega
    obtain ⟨ho1, ho2⟩ := ho
    have hkU : k0 < U.length := (List.getElem?_eq_some_iff.1 hgk).1
    have hρk : M'.ρ k0 = hdr M g := by
      rw [hB.post.evo.ρ k0 (by show k0 < U.length; exact hkU)]
      exact (enter_rows (U := U) (bs := bs) (ft := ft) (M := M) (W := W) (s := s)).ρ k0 g hgk
    have hgU : g ∈ U := List.mem_of_getElem? hgk
    have htoks : ∀ u ∈ gs, tokU u ≠ tokU g := by
      intro u hu e
      obtain ⟨j, hj⟩ := List.mem_iff_getElem?.1 hu
      have h1 := hat' j u hj
      have h2 : (U.map tokU)[k0]? = some (tokU g) := by rw [List.getElem?_map, hgk]; rfl
      have h3 : (U.map tokU)[k0 + 1 + j]? = some (tokU g) := by rw [List.getElem?_map, h1, ← e]; rfl
      have h4 := (List.getElem?_inj (by simpa using hkU) hB.hnd).1 (h2.trans h3.symm)
      omega
    have next : ∀ {M3 : Mem} {s3 : S} {us' : List Nat}, St n M3 W' s3 a → Mid W' M' M3 us' [] → Sames (M.rel W s U bs ft ans.sh (newF M M' ans.sh ft)) M3 → (∀ u ∈ gs, ∀ j i, M3.σ (tokU u) j i = M.σ (tokU u) j i) →
        Trk M' (M.rel W s U bs ft ans.sh (newF M M' ans.sh ft)) M3 → (∀ j ∈ us', j < k0 + 1) → M3.F = M2.F → s3 = s2.back s g o → (∀ j ∈ us', j ∈ us ∨ (isBad o = false ∧ j = k0)) →
        ∃ M4 us'', St n M4 W' (s2.backs s (g :: gs) (o :: os)) a ∧ Mid W' M' M4 us'' [] ∧ Sames (M.rel W s U bs ft ans.sh (newF M M' ans.sh ft)) M4 ∧ Trk M' (M.rel W s U bs ft ans.sh (newF M M' ans.sh ft)) M4 ∧ ∀ j ∈ us'', j ∈ us ∨ j ∈ liveOuts s' k0 (o :: os) := by
      intro M3 s3 us' h3 hm3 hs3 hσ3 ht3 hus3 hF e hlive
      obtain ⟨M4, us'', k1, k2, k3, k4, k5⟩ := Back.outs hB gs os (k0 + 1) (fun u hu => hg u (by simp [hu])) hat' (by simpa using hl) ho2 h3 hm3 hs3 hσ3 ht3 hus3 (fun o' ho' => (hf o' (by simp [ho'])).mono hF)
      refine ⟨M4, us'', by simp only [S.backs]; rw [← e]; exact k1, k2, k3, k4, fun j hj => ?_⟩
      simp only [liveOuts]
      rcases k5 j hj with h5 | h5
      · rcases hlive j h5 with h6 | ⟨h6, rfl⟩
        · exact .inl h6
        · right; simp [h6]
      · right
        split
        · exact h5
        · simp [h5]
    by_cases hbad : isBad o = true
    · have e : o = .bad := by cases o <;> first | rfl | simp [isBad] at hbad
      subst e
      refine next h hm hs (fun u hu => hσ u (by simp [hu])) ht (fun j hj => Nat.lt_succ_of_lt (hus j hj)) rfl ?_ (fun j hj => .inl hj)
      rcases hg g (by simp) with ⟨t, rfl, -⟩ | ⟨t, i, p, q, rfl, -⟩ <;> rfl
    · have hbad' : isBad o = false := by simpa using hbad
      rcases ho1 with ho1 | ho1
      · exact absurd ho1 hbad
      have hR : ∃ z ys, o = .inl z ys ∧ s'.R k0 = some ⟨z, ys, true⟩ := by
        unfold S.outR at ho1
        split at ho1
        · rename_i z ys hr
          exact ⟨z, ys, ho1.symm, hr⟩
        · subst ho1; simp [isBad] at hbad
      obtain ⟨z, ys, rfl, hR⟩ := hR
      have hkus : k0 ∉ us := fun hk => by have := hus k0 hk; omega
      have hMnt : M2.nt = M.nt := hs.nt
      have hMρ : M2.ρ = M.ρ := hs.ρ
      have hMF : M2.F = newF M M' ans.sh ft := hs.F
      rcases hg g (by simp) with ⟨t, rfl, z0, xs0, hR0⟩ | ⟨t, i, p, q, rfl, hN⟩
      · obtain ⟨M3, k1, k2, k3, k4, k5⟩ := back_own hB.post.mem h hm (t := t) (k := k0) (by rw [hMnt]; exact (hB.mem.row t _ hR0).1) (by rw [hρk, hMρ]; rfl) hkus hR (hf _ (by simp))
        refine next k1 k2 (hs.trans k3) (fun u hu j i => ?_) (ht.trans k5) (fun j hj => ?_) k3.F rfl (fun j hj => ?_)
        · rw [k4 _ _ _ (htoks u hu)]
          exact hσ u (by simp [hu]) j i
        · simp only [List.mem_cons] at hj
          rcases hj with rfl | hj
          · omega
          · have := hus j hj; omega
        · simp only [List.mem_cons] at hj
          rcases hj with rfl | hj
          · exact .inr ⟨rfl, rfl⟩
          · exact .inl hj
      · obtain ⟨r, hR0, hw0, hl0⟩ := nest_spec hN
        have hrow : rowOf s (.sub t i p) = some q := hN
        obtain ⟨hu1, hu2, hu3⟩ := unitB_spec' hB.mem hrow
        have hgiv : ∀ b, M.ω b = some (.tok t) → isGiven M W s U bs b → unitB M W s (.sub t i p) b := by
          intro b hb hgv
          rcases given_lab hB.mem hB.hU hgv with ⟨u', hu', h6, h7⟩ | ⟨k, -, h6, -⟩
          · rw [hb] at h7
            have e : t = tokU u' := by cases h7; rfl
            have : u' = .sub t i p := by
              obtain ⟨j, hj⟩ := List.mem_iff_getElem?.1 hu'
              have h8 : (U.map tokU)[k0]? = some t := by rw [List.getElem?_map, hgk]; rfl
              have h9 : (U.map tokU)[j]? = some t := by rw [List.getElem?_map, hj, e]; rfl
              have h10 := (List.getElem?_inj (by simpa using hkU) hB.hnd).1 (h8.trans h9.symm)
              subst h10
              rw [hgk] at hj
              cases hj
              rfl
            rw [← this]
            exact h6
          · rw [hb] at h6; cases h6
        have htU : t ∈ U.map tokU := List.mem_map.2 ⟨_, hgU, rfl⟩
        obtain ⟨M3, k1, k2, k3, k4, k5⟩ := back_sub hB.post.mem h hm (M0 := M) (W0 := W) (s0 := s) (k := k0) hu3 hR0 hw0 (fun b hb => hB.FW hb) (fun b hb => by rw [hMF]; exact hB.Fle b hb)
          (fun b hb hnu => by
            have hng : ¬ isGiven M W s U bs b := fun hgv => hnu (hgiv b hb hgv)
            refine ⟨hB.same (hB.mem.lt b _ hb) hng, ht.ext b _ ?_⟩
            simp only [Mem.rel]
            rw [if_neg]
            · exact hb
            · rintro (h6 | ⟨-, t', h6, h7⟩)
              · exact hng h6
              · rw [hb] at h7; cases h7; exact hB.hft _ h6 htU)
          (fun b j hb => by
            rcases hB.labOf hb with h6 | h6
            · by_cases h7 : M.ω b = some (.tok t)
              · exact .inr (hgiv b h7 h6)
              · exact .inl h7
            · left
              intro h7
              have := hB.mem.lt b _ h7
              omega)
          (by rw [hMnt]; exact (hB.mem.row t r hR0).1) (by rw [hMρ]) (fun j i' => hσ (.sub t i p) (by simp) j i') hρk hkus hR (hf _ (by simp))
        refine next k1 k2 (hs.trans k3) (fun u hu j i' => ?_) (ht.trans k5) (fun j hj => ?_) k3.F ?_ (fun j hj => ?_)
        · rw [k4]
          exact hσ u (by simp [hu]) j i'
        · simp only [List.mem_cons] at hj
          rcases hj with rfl | hj
          · omega
          · have := hus j hj; omega
        · simp only [S.back, hR0]
        · simp only [List.mem_cons] at hj
          rcases hj with rfl | hj
          · exact .inr ⟨rfl, rfl⟩
          · exact .inl hj
end
theorem call_end (h : St n M W s a) {ans : Ans} {bs : List Nat} {w : List Bool} {args : List V} {M' : Mem} {W' : World} {s' : S} {sv : V} {v : Value} (hc : (ansR ans bs w args s).c)
    (post : Post bs.length ans (M.enter W s (given s w args ++ bs.flatMap (boxU s)) bs (ftoks (kept w args))) W M' W' s' sv v)
    (hU : ∀ u ∈ given s w args ++ bs.flatMap (boxU s), (rowOf s u).isSome) :
    ∃ M'', St n M'' W' (ansR ans bs w args s).s a ∧ SR2 M'' W' (ansR ans bs w args s).v v ∧ Evo M W M'' W' := by
  obtain ⟨c1, c2, c3, c4, c5, c6, c7⟩ := hc
  have hUt : (given s w args ++ bs.flatMap (boxU s)).map tokU = (given s w args).flatMap tokG ++ bs.flatMap s.boxToks := by
    rw [List.map_append, given_tok]
    congr 1
    have : ∀ l : List Nat, (l.flatMap (boxU s)).map tokU = l.flatMap s.boxToks := by
      intro l
      induction l with
      | nil => rfl
      | cons b l ih => rw [List.flatMap_cons, List.flatMap_cons, List.map_append, ih, boxU_toks]
    exact this bs
  have hnd : ((given s w args ++ bs.flatMap (boxU s)).map tokU).Nodup := by rw [hUt]; exact c3
  have hft : ∀ t ∈ ftoks (kept w args), t ∉ (given s w args ++ bs.flatMap (boxU s)).map tokU := by rw [hUt]; exact c4
  have hB : Back M W s (given s w args ++ bs.flatMap (boxU s)) bs (ftoks (kept w args)) ans M' W' s' sv v :=
    ⟨h.mem, .inr trivial, fun b hb => enter_frz h.mem hU hft hb, hU, hnd, hft, post⟩
  have hrows := hB.rows (s1 := (((if ans.sh = true then s.stills (ftoks (kept w args)) else s).drops ((given s w args).flatMap tokG)).drops (bs.flatMap s.boxToks)).clearB bs) (by
    rw [hUt]
    congr 1
    have : ∀ (l1 l2 : List Nat) (x : S), (x.drops l1).drops l2 = x.drops (l1 ++ l2) := by
      intro l1
      induction l1 with
      | nil => intro l2 x; rfl
      | cons t l1 ih => intro l2 x; exact ih l2 _
    exact this _ _ _)
  generalize hs1 : (((if ans.sh = true then s.stills (ftoks (kept w args)) else s).drops ((given s w args).flatMap tokG)).drops (bs.flatMap s.boxToks)) = s1 at hrows
  have he1 : s1.e = s.e := by
    rw [← hs1, (drops_same _ _).1, (drops_same _ _).1]
    split
    · exact (stills_same _ _).1
    · rfl
  have hst1 : St n (M.rel W s (given s w args ++ bs.flatMap (boxU s)) bs (ftoks (kept w args)) ans.sh (newF M M' ans.sh (ftoks (kept w args)))) W' (s1.clearB bs) a :=
    h.slots_keep hrows hB.keep he1
  have hA : ∀ x, ((ans.sh = false → noL x = true) ∨ ans.sh = true ∨ ftoks (kept w args) = []) → FOk M' (M.rel W s (given s w args ++ bs.flatMap (boxU s)) bs (ftoks (kept w args)) ans.sh (newF M M' ans.sh (ftoks (kept w args)))) x := by
    intro x hx
    by_cases hc : ans.sh = true ∨ ftoks (kept w args) = []
    · left
      intro b hb
      show newF M M' ans.sh (ftoks (kept w args)) b
      unfold newF
      rw [if_pos hc]
      exact hb
    · right
      rcases hx with hx | hx | hx
      · exact hx (by
          cases hh : ans.sh with
          | false => rfl
          | true => exact absurd (.inl hh) hc)
      · exact absurd (.inl hx) hc
      · exact absurd (.inr hx) hc
  obtain ⟨M2, us, k1, k2, k3, k4, k5⟩ := hB.outs (given s w args) ans.outs 0 given_rows (fun j u hj => by
    rw [Nat.zero_add, List.getElem?_append_left (List.getElem?_eq_some_iff.1 hj).1]
    exact hj) c5 post.outs hst1 hB.mid Sames.refl (fun _ _ _ _ => rfl) Trk.refl (fun j hj => by cases hj) (fun o ho => hA o (.inl fun hsh => noLs_mem (post.sh hsh).2 ho))
  rw [backs_clear] at k1
  have hnodup := post.nodup
  rw [List.nodup_append, List.nodup_append] at hnodup
  obtain ⟨⟨hn1, hn2, hn3⟩, hn4, hn5⟩ := hnodup
  have hM2β : M2.β = M.β := k3.β
  have hM2nb : M2.nb = M.nb := k3.nb
  have hM2F := k3.F
  have hboxes : ans.boxes = (List.range' 0 bs.length).map s'.cont := by rw [← post.boxes]; simp [boxOuts, List.range_eq_range']
  obtain ⟨M3, l1, l2, l3, l4, l5⟩ := take_fills post.mem bs 0 k1 k2 (fun j b hj => by
    have hlt := (List.getElem?_eq_some_iff.1 hj).1
    have hmem := List.mem_of_getElem? hj
    obtain ⟨c, hcb⟩ := Option.isSome_iff_exists.1 (List.all_eq_true.1 c2 b hmem)
    refine ⟨by rw [hM2nb]; exact (h.mem.box b c hcb).1, ?_, ?_, by simp⟩
    · rw [hM2β, Nat.zero_add, post.evo.β j hlt]
      simp [Mem.enter, List.getD, hj]
    · rw [Nat.zero_add]
      exact List.all_eq_true.1 post.hasB j (List.mem_range.2 hlt)) (by rw [← List.range_eq_range']; exact hn4) (fun t ht hmem => by
    rw [← List.range_eq_range'] at ht
    rcases k5 t hmem with h6 | h6
    · cases h6
    · exact hn5 t (List.mem_append.2 (.inr h6)) t ht rfl) (fun x hx => by
    rw [← hboxes] at hx
    refine FOk.mono (hA x ?_) hM2F
    rcases c7 with h6 | h6 | h6
    · exact .inr (.inr h6)
    · exact .inr (.inl h6)
    · exact .inl fun _ => noLs_mem h6 hx)
  rw [← hboxes, fills_clear _ _ _ c6.symm] at l1
  obtain ⟨M4, m1, m2, m3, m4, m5⟩ := take_res (k := bs.length) post.mem l1.mem l3 post.rel hn1 (fun j hj hmem => by
    rw [← List.range_eq_range'] at hmem
    rcases List.mem_append.1 hmem with h6 | h6
    · exact hn5 j (List.mem_append.2 (.inl hj)) j h6 rfl
    · rcases k5 j h6 with h7 | h7
      · cases h7
      · exact hn3 j hj j h7 rfl) post.bnodup (fun b _ hk hmem => by
    simp only [List.mem_append, List.not_mem_nil, or_false] at hmem
    have := (List.mem_range'_1.1 hmem).2
    omega) (by
    rw [post.res]
    exact (FOk.mono (hA ans.r (.inl fun hsh => (post.sh hsh).1)) hM2F).mono l4)
  rw [post.res] at m1 m3
  have hk34 : Keep M2 W' M4 W' := l2.trans m2
  have hadl : ∀ (x : V) (y : S), (ad x y).2.e = y.e := by
    have h1 : ∀ (x : V) (y : S), (ad1 x y).2.e = y.e := fun x y => by
      unfold ad1
      split
      · exact adC_e _ _
      · exact adC_e _ _
    have h2 : ∀ (xs : List V) (y : S), (ad1s xs y).2.e = y.e := by
      intro xs
      induction xs with
      | nil => intro y; rfl
      | cons x xs ih => intro y; simp only [ad1s]; rw [ih, h1]
    intro x y
    unfold ad
    split
    · exact h2 _ _
    · exact h1 _ _
  have hfinal : St n M4 W' (ansR ans bs w args s).s a := by
    have hs : (ansR ans bs w args s).s = (ad ans.r ((s1.backs s (given s w args) ans.outs).fills bs ans.boxes)).2 := by
      simp only [ansR, R.st]
      rw [hs1]
    rw [hs]
    exact l1.slots_keep m1 m2 (hadl _ _)
  have hv : (ansR ans bs w args s).v = (ad ans.r ((s1.backs s (given s w args) ans.outs).fills bs ans.boxes)).1 := by
    simp only [ansR, R.st]
    rw [hs1]
  refine ⟨M4, hfinal, by rw [hv]; exact m3, ?_⟩
  have hρ : ∀ t, t < M.nt → M4.ρ t = M.ρ t := fun t ht => by
    rw [hk34.ρ t (by rw [k3.nt]; exact ht), k3.ρ]
    rfl
  have hβ : ∀ b, b < M.nb → M4.β b = M.β b := fun b hb => by
    rw [hk34.β b (by rw [hM2nb]; exact hb), hM2β]
  have hF4 : M4.F = newF M M' ans.sh (ftoks (kept w args)) := m4.trans (l4.trans hM2F)
  have htrk := (k4.trans l5).trans m5
  refine ⟨post.evo.os, post.evo.tape, post.evo.output, post.evo.size, fun b hb hω => ?_, fun b l hl => ?_, fun b hb => ?_, fun b hb => ?_, ?_, ?_, hρ, hβ⟩
  · refine post.evo.old b hb ?_
    simp only [Mem.enter, hω]
  · have given_ne : ∀ b, isGiven M W s (given s w args ++ bs.flatMap (boxU s)) bs b → M.ω b ≠ none := by
      intro b hg
      rcases given_lab h.mem hU hg with ⟨u, -, -, h6⟩ | ⟨k, -, h6, -⟩ <;> (rw [h6]; simp)
    rcases htrk.lab b l hl with h6 | h6
    · left
      simp only [Mem.rel] at h6
      split at h6
      · cases h6
      · rw [h6]; simp
    · obtain ⟨l', h7⟩ := Option.ne_none_iff_exists'.1 h6
      rcases hB.labOf h7 with h8 | h8
      · exact .inl (given_ne b h8)
      · exact .inr h8
  · rw [hF4] at hb
    unfold newF at hb
    split at hb
    · rcases post.evo.frz b hb with h6 | h6 | h6
      · rcases h6 with h6 | ⟨t, -, h6⟩
        · exact .inl h6
        · right; left; rw [h6]; simp
      · right; left
        rcases given_lab h.mem hU (enter_given h.mem hU h6) with ⟨u, -, -, h7⟩ | ⟨k, -, h7, -⟩ <;> (rw [h7]; simp)
      · exact .inr (.inr h6)
    · exact .inl hb
  · rw [hF4]
    exact hB.Fle b hb
  · have := hk34.nt; rw [k3.nt] at this; exact this
  · have := hk34.nb; rw [k3.nb] at this; exact this
end
end Go.TM
end
