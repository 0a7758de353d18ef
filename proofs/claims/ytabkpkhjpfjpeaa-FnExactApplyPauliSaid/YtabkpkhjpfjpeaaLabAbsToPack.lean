/- Part of the proof of FnExactApplyPauli: that for every input the law answers true and leaves what it reads as it was. Conditions: none beyond the given statement. -/
import Derived.Still
import Derived.Laws.CopyRow
import Derived.Laws.Slices
import Derived.ChangeKeysEq
import Derived.Laws.AppendOwn
import Derived.LoopN
set_option linter.all false
/- An abstract interpreter over the model's code: deterministic memory, slices as places in numbered blocks, locals apart. -/
namespace Go.Abs

structure Sl where
  b : Nat
  o : Nat
  n : Nat
  c : Nat
  x : Bool
deriving DecidableEq

inductive Sc where
  | int (k : IntKind) (n : Int)
  | bool (b : Bool)
  | str (s : ByteArray)
  | sl (s : Sl)
  | hp (b o : Nat)
  | nilp
  | fn (f : Nat)
deriving DecidableEq

inductive PV where
  | sc (s : Sc)
  | agg (l : List Sc)

inductive AV where
  | pv (p : PV)
  | lp (t o : Nat)
  | tup (l : List PV)
  | undef

inductive BS where
  | dead | res | ro | rw
deriving DecidableEq

structure Blk where
  cells : List Sc
  st : BS
  z : Nat
deriving DecidableEq

abbrev AH := List Blk

inductive A (α : Type) : Type 1 where
  | ret (a : α)
  | fail
  | get (β : Type) (x : Option β) (k : β → A α)
  | br (b : Bool) (x y : A α)
  | tail (x : Option α)

namespace A
variable {α β : Type}
def bind : A α → (α → A β) → A β
  | .ret a, f => f a
  | .fail, _ => .fail
  | .get γ x k, f => .get γ x fun c => (k c).bind f
  | .br b x y, f => .br b (x.bind f) (y.bind f)
  | .tail x, f => .get α x f
def run : A α → Option α
  | .ret a => some a
  | .fail => none
  | .get _ x k => x.bind fun c => (k c).run
  | .br b x y => cond b x.run y.run
  | .tail x => x
end A

inductive Proc where
  | fn (f : Nat)
  | loop (f id : Nat)
deriving DecidableEq

structure Out where
  e : Nat
  vs : List PV
  H : AH

abbrev Oracle := Proc → List PV → AH → Option Out

/- Memory. -/
def rdB (H : AH) (b : Nat) : Option (List Sc) :=
  H[b]?.bind fun k => match k.st with | .ro | .rw => some k.cells | _ => none
def rwB (H : AH) (b : Nat) (z : Nat) : Option (List Sc) :=
  H[b]?.bind fun k => match k.st with | .rw => if k.z = z then some k.cells else none | _ => none
def rng (H : AH) (b o m : Nat) : Option (List Sc) :=
  if m = 0 then some [] else (rdB H b).bind fun cs => if o + m ≤ cs.length then some ((cs.drop o).take m) else none
def setAll (cs : List Sc) (o : Nat) : List Sc → List Sc
  | [] => cs
  | v :: vs => setAll (cs.set o v) (o + 1) vs
def putR (H : AH) (b o : Nat) (vs : List Sc) : Option AH :=
  match vs with
  | [] => some H
  | _ => H[b]?.bind fun k => match k.st with
    | .rw => if o + vs.length ≤ k.cells.length then some (H.set b { k with cells := setAll k.cells o vs }) else none
    | _ => none
def killB (H : AH) (b : Nat) : AH := H.modify b fun k => { k with st := .dead }
def deadB : Blk := ⟨[], .dead, 0⟩
def restB (H H' : AH) (b : Nat) : AH := H'.set b (H[b]?.getD deadB)

def most : Nat := 1099511627776   -- 2^40

def appB (H : AH) (z by_ : Nat) (s : Sl) (src : List Sc) (m : Nat) : Option (Sl × AH) :=
  if s.n + m ≤ s.c then (putR H s.b (s.o + s.n * z) src).map fun H' => ({ s with n := s.n + m }, H')
  else if z ≠ 0 ∧ by_ ≠ 0 ∧ (s.n + m) * by_ ≤ most then
    (rng H s.b s.o (s.n * z)).bind fun old =>
      match s.x with
      | true => some (⟨H.length, 0, s.n + m, s.n + m, false⟩, H ++ [⟨old ++ src, .rw, z⟩])
      | false => (rwB H s.b z).bind fun _ => some (⟨H.length, 0, s.n + m, s.n + m, false⟩, killB H s.b ++ [⟨old ++ src, .rw, z⟩])
  else none

def ixA (s : Sl) (i : Int) (z : Nat) : Option Nat := if 0 ≤ i ∧ i < s.n then some (s.o + i.toNat * z) else none
def slB (s : Sl) (lo hi : Option Int) (mx : Option Int) (z : Nat) : Option Sl :=
  let m : Option Int := match mx with | some v => if 0 ≤ v ∧ v ≤ s.c then some v else none | none => some s.c
  m.bind fun m =>
    let h : Int := hi.getD s.n
    let l : Int := lo.getD 0
    if 0 ≤ h ∧ h ≤ m ∧ 0 ≤ l ∧ l ≤ h then some ⟨s.b, s.o + l.toNat * z, (h - l).toNat, (m - l).toNat, s.x || mx.isSome⟩ else none
/- The block's elements are of this size. -/
def zOk (H : AH) (s : Sl) (z : Nat) : Option Unit := if s.c = 0 ∧ s.x = true then some () else H[s.b]?.bind fun k => match k.st with | .ro | .rw => if k.z = z then some () else none | _ => none
def mkB (H : AH) (z by_ : Nat) (zero : List Sc) (l c : Int) : Option (Sl × AH) :=
  if z ≠ 0 ∧ by_ ≠ 0 ∧ 0 ≤ l ∧ l ≤ c ∧ c * by_ ≤ most then some (⟨H.length, 0, l.toNat, c.toNat, true⟩, H ++ [⟨(List.replicate c.toNat zero).flatten, .rw, z⟩]) else none
def clrB (H : AH) (s : Sl) (zero : List Sc) : Option AH := putR H s.b s.o (List.replicate s.n zero).flatten
def cpB (H : AH) (z : Nat) (d s : Sl) : Option (Int × AH) :=
  (rng H s.b s.o (min s.n d.n * z)).bind fun cs => (putR H d.b d.o cs).map fun H' => ((min s.n d.n : Nat), H')

/- Kinds. -/
inductive Kd where
  | int (k : IntKind) | bool | str | sl | ptr | fn
deriving DecidableEq

def intAt (k : IntKind) (l : List Sc) (i : Nat) : Option Int := match l[i]? with | some (.int k' n) => if k' = k then some n else none | _ => none
def boolAt (l : List Sc) (i : Nat) : Option Bool := match l[i]? with | some (.bool b) => some b | _ => none
def strAt (l : List Sc) (i : Nat) : Option ByteArray := match l[i]? with | some (.str b) => some b | _ => none
def slAt (l : List Sc) (i : Nat) : Option Sl := match l[i]? with | some (.sl b) => some b | _ => none
def fnAt (l : List Sc) (i : Nat) : Option Nat := match l[i]? with | some (.fn b) => some b | _ => none
def ptrAt (l : List Sc) (i : Nat) : Option (Nat × Nat) := match l[i]? with | some (.hp b o) => some (b, o) | _ => none

def rdK (l : List Sc) (i : Nat) : Kd → A Sc
  | .int k => .get Int (intAt k l i) fun n => .ret (.int k n)
  | .bool => .get Bool (boolAt l i) fun n => .ret (.bool n)
  | .str => .get ByteArray (strAt l i) fun n => .ret (.str n)
  | .sl => .get Sl (slAt l i) fun n => .ret (.sl n)
  | .fn => .get Nat (fnAt l i) fun n => .ret (.fn n)
  | .ptr => .get (Nat × Nat) (ptrAt l i) fun n => .ret (.hp n.1 n.2)
def rdKs (l : List Sc) (i : Nat) : List Kd → A (List Sc)
  | [] => .ret []
  | k :: ks => (rdK l i k).bind fun s => (rdKs l (i + 1) ks).bind fun r => .ret (s :: r)

def kdOf (P : Program) (t : TypeId) : Option Kd :=
  match P.underlying t with
  | some (.int k) => some (.int k)
  | some .bool => some .bool
  | some .string => some .str
  | some (.slice _) => some .sl
  | some (.pointer _) => some .ptr
  | some (.func ..) => some .fn
  | _ => none
/- What a type's cells are: one scalar; the scalars of a struct; an array's cells, untold. -/
inductive Sh where
  | one (k : Kd) | many (ks : List Kd) | big | no
def kinds (P : Program) : Nat → TypeId → Option (List Kd)
  | 0, _ => none
  | n + 1, t => match P.underlying t with
    | some (.struct fs) => fs.toList.foldr (fun f acc => match kinds P n f.type, acc with | some a, some b => some (a ++ b) | _, _ => none) (some [])
    | _ => (kdOf P t).map fun k => [k]
def shape (P : Program) (t : TypeId) : Sh :=
  match P.underlying t with
  | some (.struct _) => match kinds P 6 t with | some ks => .many ks | none => .big
  | some (.array ..) => .big
  | _ => match kdOf P t with | some k => .one k | none => .no
def tsz (P : Program) (t : TypeId) : Nat := ((P.info? t).map (·.size)).getD 0
def tby (P : Program) (t : TypeId) : Nat := ((P.info? t).map (·.bytes)).getD most
def hasI (P : Program) (t : TypeId) : Bool := (P.info? t).isSome
def elemT (P : Program) (t : TypeId) : Option TypeId := match P.underlying t with | some (.slice e) => cond (hasI P e) (some e) none | _ => none

def scOf : Value → Option Sc
  | .int k n => some (.int k n)
  | .bool b => some (.bool b)
  | .string s => some (.str s)
  | .slice none 0 0 => some (.sl ⟨0, 0, 0, 0, true⟩)
  | .pointer none => some .nilp
  | _ => none
def scsOf : List Value → Option (List Sc)
  | [] => some []
  | v :: vs => match scOf v, scsOf vs with | some a, some b => some (a :: b) | _, _ => none
def pvOf : Value → Option PV
  | .agg cs => (scsOf cs.toList).map .agg
  | v => (scOf v).map .sc
def avOf (v : Value) : AV := match pvOf v with | some p => .pv p | none => .undef
def zeroC (P : Program) (t : TypeId) : Option (List Sc) :=
  ((P.info? t).bind (·.zero)).bind fun v => (scsOf v.cells.toList).bind fun l => cond (Nat.beq l.length (tsz P t)) (some l) none
def isAggT (P : Program) (t : TypeId) : Bool := match P.underlying t with | some (.struct _) | some (.array ..) => true | _ => false
def zeroP (P : Program) (t : TypeId) : Option PV := (zeroC P t).map fun l => match isAggT P t, l with | false, s :: _ => .sc s | _, l => .agg l

def PV.cells : PV → List Sc
  | .sc s => [s]
  | .agg l => l
def PV.agg? : PV → Option (List Sc)
  | .agg l => some l
  | .sc _ => none
def PV.sc? : PV → Option Sc
  | .agg _ => none
  | .sc s => some s

/- A value of a known type, told by its parts. -/
def castP (P : Program) (t : TypeId) (p : PV) : A PV :=
  match shape P t with
  | .one k => .get Sc p.sc? fun s => (rdK [s] 0 k).bind fun s' => .ret (.sc s')
  | .many ks => .get (List Sc) p.agg? fun l => .br (decide (l.length = ks.length)) ((rdKs l 0 ks).bind fun l' => .ret (.agg l')) .fail
  | .big => .get (List Sc) p.agg? fun l => .br (decide (l.length = tsz P t)) (.ret (.agg l)) .fail
  | .no => .fail
def loadP (P : Program) (t : TypeId) (cs : List Sc) (o : Nat) : A PV :=
  match shape P t with
  | .one k => (rdK cs o k).bind fun s => .ret (.sc s)
  | .many ks => .br (Nat.beq ks.length (tsz P t)) ((rdKs cs o ks).bind fun l => .ret (.agg l)) .fail
  | .big => .br (decide (o + tsz P t ≤ cs.length)) (.ret (.agg ((cs.drop o).take (tsz P t)))) .fail
  | .no => .fail
def nthP (l : List PV) (i : Nat) : Option PV := l[i]?
/- The same for a list that is not yet told apart. -/
def castN (P : Program) (l : List PV) : Nat → List TypeId → A (List PV)
  | _, [] => .ret []
  | i, t :: ts => .get PV (nthP l i) fun p => (castP P t p).bind fun a => (castN P l (i + 1) ts).bind fun b => .ret (a :: b)

/- Locals. -/
structure LB where
  cells : List Sc
  ro : Bool
abbrev LM := Nat → Option LB
abbrev Env := Nat → AV
def updE (e : Env) (t : Nat) (v : AV) : Env := fun i => cond (Nat.beq i t) v (e i)
def updL (e : LM) (t : Nat) (v : Option LB) : LM := fun i => cond (Nat.beq i t) v (e i)

structure Cfg where
  f : Nat
  nt : Nat
  heap : List Nat

def evO (e : Env) : Operand → AV
  | .tmp t => e t
  | .const v => avOf v
  | .func f => .pv (.sc (.fn f))
  | .global _ => .undef

def asPV : AV → A PV
  | .pv p => .ret p
  | _ => .fail
def asSc : AV → A Sc
  | .pv (.sc s) => .ret s
  | _ => .fail
def asInt : AV → A Int
  | .pv (.sc (.int _ n)) => .ret n
  | _ => .fail
def asB : AV → A Bool
  | .pv (.sc (.bool n)) => .ret n
  | _ => .fail
def asSl : AV → A Sl
  | .pv (.sc (.sl n)) => .ret n
  | _ => .fail
def asPVs : List AV → A (List PV)
  | [] => .ret []
  | a :: l => (asPV a).bind fun p => (asPVs l).bind fun ps => .ret (p :: ps)
def mInt (n : Int) : A AV := .ret (.pv (.sc (.int .i64 n)))
def mSc (s : Sc) : A AV := .ret (.pv (.sc s))
def mB (b : Bool) : A AV := .ret (.pv (.sc (.bool b)))
def ofOpt {α : Type} : Option α → A α
  | some a => .ret a
  | none => .fail

def bitAnd (k : IntKind) (a b : Int) : Int := k.wrap (BitVec.ofInt k.bits a &&& BitVec.ofInt k.bits b).toNat
def bitOr (k : IntKind) (a b : Int) : Int := k.wrap (BitVec.ofInt k.bits a ||| BitVec.ofInt k.bits b).toNat
def bitXor (k : IntKind) (a b : Int) : Int := k.wrap (BitVec.ofInt k.bits a ^^^ BitVec.ofInt k.bits b).toNat
def bitAndNot (k : IntKind) (a b : Int) : Int := k.wrap (BitVec.ofInt k.bits a &&& ~~~ (BitVec.ofInt k.bits b)).toNat
def shlL (k : IntKind) (x y : Int) : Int := k.wrap (x * 2 ^ (min y.toNat k.bits))
def shlR (k : IntKind) (x y : Int) : Int := x.fdiv (2 ^ (min y.toNat k.bits))
def zc (P : Program) (t : TypeId) : List Sc := (zeroC P t).getD []
def binI (op : BinOp) (k : IntKind) (a b : Int) : A AV :=
  match op with
  | .add => mSc (.int k (k.wrap (a + b)))
  | .sub => mSc (.int k (k.wrap (a - b)))
  | .mul => mSc (.int k (k.wrap (a * b)))
  | .quo => .br (b == 0) .fail (mSc (.int k (k.wrap (a.tdiv b))))
  | .rem => .br (b == 0) .fail (mSc (.int k (a.tmod b)))
  | .and => mSc (.int k (bitAnd k a b))
  | .or => mSc (.int k (bitOr k a b))
  | .xor => mSc (.int k (bitXor k a b))
  | .andNot => mSc (.int k (bitAndNot k a b))
  | .eql => mB (a == b)
  | .neq => mB (a != b)
  | .lss => mB (decide (a < b))
  | .leq => mB (decide (a ≤ b))
  | .gtr => mB (decide (a > b))
  | .geq => mB (decide (a ≥ b))
  | _ => .fail

def shiftI (op : BinOp) (k : IntKind) (x y : Int) : A AV :=
  match op with
  | .shl => .br (decide (y < 0)) .fail (mSc (.int k (shlL k x y)))
  | .shr => .br (decide (y < 0)) .fail (mSc (.int k (shlR k x y)))
  | _ => .fail

def binM (P : Program) (op : BinOp) (t : TypeId) (x y : AV) : A AV :=
  match x, y with
  | .pv (.sc (.int k a)), .pv (.sc (.int k' b)) =>
    match op with
    | .shl | .shr => shiftI op k a b
    | _ => if k = k' then binI op k a b else .fail
  | .pv (.sc (.bool a)), .pv (.sc (.bool b)) =>
    match op, P.underlying t with
    | .eql, some .bool => mB (a == b)
    | .neq, some .bool => mB (a != b)
    | _, _ => .fail
  | _, _ => .fail

def unM (op : UnOp) (x : AV) : A AV :=
  match op, x with
  | .neg, .pv (.sc (.int k n)) => mSc (.int k (k.wrap (0 - n)))
  | .xor, .pv (.sc (.int k n)) => binI .xor k (if k.signed then -1 else k.max) n
  | .not, .pv (.sc (.bool b)) => mB !b
  | _, _ => .fail

def convM (P : Program) (src dst : TypeId) (x : AV) : A AV :=
  match P.underlying src, P.underlying dst, x with
  | some (.int _), some (.int k), .pv (.sc (.int _ n)) => mSc (.int k (k.wrap n))
  | _, _, _ => .fail

/- The parts of a struct that is built. -/
def fillC (place : Nat → Option (Nat × Nat)) (cells : List Sc) : List (Nat × PV) → Option (List Sc)
  | [] => some cells
  | (i, v) :: rest =>
    match place i with
    | none => none
    | some (off, size) => if Nat.beq v.cells.length size && Nat.ble (off + size) cells.length then fillC place (setAll cells off v.cells) rest else none
def fillB (pl : List (Nat × Nat)) (zr : List Sc) (ps : List (Nat × PV)) : Option (List Sc) := fillC (pl[·]?) zr ps
def getO {α : Type} (o : Option α) : A α := .get α o .ret
def partsM (e : Operand → AV) : List (Nat × Operand) → A (List (Nat × PV))
  | [] => .ret []
  | (i, x) :: r => (asPV (e x)).bind fun p => (partsM e r).bind fun ps => .ret ((i, p) :: ps)
def placesS (P : Program) (fs : Array Field) : Option (List (Nat × Nat)) := fs.toList.mapM fun f => (P.info? f.type).map fun i => (f.offset, i.size)

structure Fx where
  v : AV
  L : LM
  H : AH

def newB (H : AH) (z : Nat) (cs : List Sc) : Option (Nat × AH) := if z = 0 then none else some (H.length, H ++ [⟨cs, .rw, z⟩])
def isRes (H : AH) (i : Nat) : Bool := match H[i]? with | some k => k.st == .res | none => false
def newAt (H : AH) (i z : Nat) (cs : List Sc) : Option (Nat × AH) := if isRes H i = true ∧ z ≠ 0 then some (i, H.set i ⟨cs, .rw, z⟩) else none
def freshM (H : AH) (fid : Option Nat) (z : Nat) (cs : List Sc) : A (Nat × AH) :=
  match fid with
  | none => .get (Nat × AH) (newB H z cs) .ret
  | some i => .get (Nat × AH) (newAt H i z cs) .ret
def mkAt (H : AH) (i z by_ : Nat) (zero : List Sc) (l c : Int) : Option (Sl × AH) :=
  if isRes H i = true ∧ z ≠ 0 ∧ by_ ≠ 0 ∧ 0 ≤ l ∧ l ≤ c ∧ c * by_ ≤ most then some (⟨i, 0, l.toNat, c.toNat, true⟩, H.set i ⟨(List.replicate c.toNat zero).flatten, .rw, z⟩) else none

def rows (v : AV) : Option (List Sc) := match v with | .pv p => some p.cells | _ => none

def optI (e : Operand → AV) : Option Operand → A (Option Int)
  | none => .ret none
  | some x => (asInt (e x)).bind fun n => .ret (some n)

def oneP : List PV → Option PV
  | [p] => some p
  | _ => none
def lenP (l : List PV) (n : Nat) : Option Unit := if l.length = n then some () else none
def callRes (P : Program) (t : TypeId) (o : Out) : A AV :=
  match P.underlying t with
  | some (.tuple ts) => match ts.toList with
    | [] => .ret .undef
    | [t] => .get PV (oneP o.vs) fun p => (castP P t p).bind fun p => .ret (.pv p)
    | ts => .get Unit (lenP o.vs ts.length) fun _ => (castN P o.vs 0 ts).bind fun l => .ret (.tup l)
  | _ => .get PV (oneP o.vs) fun p => (castP P t p).bind fun p => .ret (.pv p)

def minM (x y : AV) : A AV := match x, y with
  | .pv (.sc (.int k a)), .pv (.sc (.int _ b)) => mSc (.int k (if b < a then b else a))
  | _, _ => .fail
def maxM (x y : AV) : A AV := match x, y with
  | .pv (.sc (.int k a)), .pv (.sc (.int _ b)) => mSc (.int k (if b > a then b else a))
  | _, _ => .fail
def foldM2 (f : AV → AV → A AV) : AV → List AV → A AV
  | a, [] => .ret a
  | a, b :: l => (f a b).bind fun c => foldM2 f c l

def srcM (P : Program) (H : AH) (t : TypeId) (z : Nat) (x : AV) : A (List Sc × Nat) :=
  match P.underlying t, x with
  | some (.slice _), .pv (.sc (.sl s)) => .get (List Sc) (rng H s.b s.o (s.n * z)) fun l => .ret (l, s.n)
  | _, _ => .fail

def builtinM (P : Program) (b : Builtin) (ts : List TypeId) (xs : List AV) (L : LM) (H : AH) : A Fx :=
  match b, ts, xs with
  | .len, [t], [x] => match P.underlying t, x with
    | some (.slice _), .pv (.sc (.sl s)) => .ret ⟨.pv (.sc (.int .i64 s.n)), L, H⟩
    | some .string, .pv (.sc (.str s)) => .ret ⟨.pv (.sc (.int .i64 s.size)), L, H⟩
    | some (.array n _), _ => .ret ⟨.pv (.sc (.int .i64 n)), L, H⟩
    | _, _ => .fail
  | .append, [t, u], [x, y] => (asSl x).bind fun s => match elemT P t with
    | some e => (ofOpt (zeroC P e)).bind fun _ => (srcM P H u (tsz P e) y).bind fun (src, m) => .get (Sl × AH) (appB H (tsz P e) (tby P e) s src m) fun r => .ret ⟨.pv (.sc (.sl r.1)), L, r.2⟩
    | none => .fail
  | .copy, [t, u], [x, y] => (asSl x).bind fun d => (asSl y).bind fun s => match elemT P t, elemT P u with
    | some e, some _ => .get (Int × AH) (cpB H (tsz P e) d s) fun r => .ret ⟨.pv (.sc (.int .i64 r.1)), L, r.2⟩
    | _, _ => .fail
  | .clear, [t], [x] => (asSl x).bind fun s => match elemT P t with
    | some e => (ofOpt (zeroC P e)).bind fun zr => .get AH (clrB H s zr) fun H' => .ret ⟨.tup [], L, H'⟩
    | none => .fail
  | .min, _, x :: y :: xs => (foldM2 minM x (y :: xs)).bind fun v => .ret ⟨v, L, H⟩
  | .max, _, x :: y :: xs => (foldM2 maxM x (y :: xs)).bind fun v => .ret ⟨v, L, H⟩
  | _, _, _ => .fail

def storeM (P : Program) (t : TypeId) (a v : AV) (L : LM) (H : AH) : A Fx :=
  match rows v with
  | none => .fail
  | some cs => .br (Nat.beq cs.length (tsz P t)) (match a with
    | .lp d o => match L d with
      | some ⟨c, false⟩ => .br (decide (o + cs.length ≤ c.length)) (.ret ⟨.undef, updL L d (some ⟨setAll c o cs, false⟩), H⟩) .fail
      | _ => .fail
    | .pv (.sc (.hp b o)) => .get AH (putR H b o cs) fun H' => .ret ⟨.undef, L, H'⟩
    | _ => .fail) .fail

def loadM (P : Program) (t : TypeId) (a : AV) (L : LM) (H : AH) : A AV :=
  match a with
  | .lp d o => match L d with
    | some c => (loadP P t c.cells o).bind fun p => .ret (.pv p)
    | none => .fail
  | .pv (.sc (.hp b o)) => .get (List Sc) (rdB H b) fun cs => (loadP P t cs o).bind fun p => .ret (.pv p)
  | _ => .fail

def allocM (P : Program) (cf : Cfg) (dst : Option Tmp) (fid : Option Nat) (elem : TypeId) (cs : List Sc) (L : LM) (H : AH) : A Fx :=
  match dst with
  | none => .fail
  | some d =>
    if cf.heap.contains d then (freshM H fid (tsz P elem) cs).bind fun r => .ret ⟨.pv (.sc (.hp r.1 0)), L, r.2⟩
    else match L d with
      | none => .ret ⟨.lp d 0, updL L d (some ⟨cs, false⟩), H⟩
      | some _ => .fail

def opM (P : Program) (C : Oracle) (cf : Cfg) (fid : Option Nat) (o : Oper) (e : Operand → AV) (L : LM) (H : AH) : A Fx :=
  match o.op with
  | .move x | .assign x => .ret ⟨e x, L, H⟩
  | .pick c a b => (asB (e c)).bind fun t => .br t (.ret ⟨e a, L, H⟩) (.ret ⟨e b, L, H⟩)
  | .nilCheck x => match e x with
    | .pv (.sc (.hp b o)) => .ret ⟨.pv (.sc (.hp b o)), L, H⟩
    | .lp d o => .ret ⟨.lp d o, L, H⟩
    | _ => .fail
  | .alloc t => (ofOpt (zeroC P t)).bind fun cs => allocM P cf o.dst fid t cs L H
  | .box t x => (ofOpt (rows (e x))).bind fun cs => allocM P cf o.dst fid t cs L H
  | .build t parts => match P.underlying t with
    | some (.struct fs) => (ofOpt (zeroC P t)).bind fun zr => (partsM e parts.toList).bind fun ps => (ofOpt (placesS P fs)).bind fun pl => (getO (fillB pl zr ps)).bind fun cs => .ret ⟨.pv (.agg cs), L, H⟩
    | _ => .fail
  | .buildSlice t len parts => match P.underlying t with
    | some (.slice el) => (ofOpt (zeroC P el)).bind fun zr => (partsM e parts.toList).bind fun ps =>
        (ofOpt (fillC (fun i => some (i * tsz P el, tsz P el)) (List.replicate len zr).flatten ps)).bind fun cs =>
          .br (Nat.ble (len * tsz P el) 65536) ((freshM H fid (tsz P el) cs).bind fun r => .ret ⟨.pv (.sc (.sl ⟨r.1, 0, len, len, true⟩)), L, r.2⟩) .fail
    | _ => .fail
  | .load t a => (loadM P t (e a) L H).bind fun v => .ret ⟨v, L, H⟩
  | .store t a v => .br (hasI P t) (storeM P t (e a) (e v) L H) .fail
  | .binOp op t x y _ => (binM P op t (e x) (e y)).bind fun v => .ret ⟨v, L, H⟩
  | .unOp op _ x => (unM op (e x)).bind fun v => .ret ⟨v, L, H⟩
  | .convert s d x => (convM P s d (e x)).bind fun v => .ret ⟨v, L, H⟩
  | .makeSlice t l c => match elemT P t with
    | some el => (asInt (e l)).bind fun l => (asInt (e c)).bind fun c => (ofOpt (zeroC P el)).bind fun zr =>
        match fid with
        | none => .get (Sl × AH) (mkB H (tsz P el) (tby P el) zr l c) fun r => .ret ⟨.pv (.sc (.sl r.1)), L, r.2⟩
        | some i => .get (Sl × AH) (mkAt H i (tsz P el) (tby P el) zr l c) fun r => .ret ⟨.pv (.sc (.sl r.1)), L, r.2⟩
    | none => .fail
  | .slice t x lo hi mx => match P.underlying t with
    | some (.slice el) => .br (hasI P el && (!mx.isSome || hi.isSome)) ((asSl (e x)).bind fun s => (optI e lo).bind fun lo' => (optI e hi).bind fun hi => (optI e mx).bind fun mx =>
        (match Nat.beq (tsz P el) 1, lo with
         | false, some _ => A.get Unit (zOk H s (tsz P el)) A.ret
         | _, _ => A.ret ()).bind fun _ => .get Sl (slB s lo' hi mx (tsz P el)) fun r => .ret ⟨.pv (.sc (.sl r)), L, H⟩) .fail
    | _ => .fail
  | .fieldAddr s x i => match P.underlying s with
    | some (.struct fs) => match fs[i]? with
      | some f => .br (Nat.beq (tsz P f.type) 0) .fail (match e x with
        | .lp d o => .ret ⟨.lp d (o + f.offset), L, H⟩
        | .pv (.sc (.hp b o)) => .ret ⟨.pv (.sc (.hp b (o + f.offset))), L, H⟩
        | _ => .fail)
      | none => .fail
    | _ => .fail
  | .field t x i => match P.underlying t, e x with
    | some (.struct fs), .pv (.agg l) => match fs[i]? with
      | some f => (loadP P f.type l f.offset).bind fun p => .ret ⟨.pv p, L, H⟩
      | none => .fail
    | _, _ => .fail
  | .indexAddr t x i => (asInt (e i)).bind fun i => match P.underlying t, e x with
    | some (.slice el), .pv (.sc (.sl s)) => .br (hasI P el) (.get Nat (ixA s i (tsz P el)) fun o => .ret ⟨.pv (.sc (.hp s.b o)), L, H⟩) .fail
    | some (.array n el), .lp d o => .br (hasI P el) (.get Nat (ixA ⟨0, o, n, n, true⟩ i (tsz P el)) fun o' => .ret ⟨.lp d o', L, H⟩) .fail
    | some (.array n el), .pv (.sc (.hp b o)) => .br (hasI P el) (.get Nat (ixA ⟨0, o, n, n, true⟩ i (tsz P el)) fun o' => .ret ⟨.pv (.sc (.hp b o')), L, H⟩) .fail
    | _, _ => .fail
  | .index t x i => (asInt (e i)).bind fun i => match P.underlying t, e x with
    | some (.array n el), .pv (.agg l) => .br (hasI P el) (.get Nat (ixA ⟨0, 0, n, n, true⟩ i (tsz P el)) fun o => (loadP P el l o).bind fun p => .ret ⟨.pv p, L, H⟩) .fail
    | _, _ => .fail
  | .extract x i => match e x with
    | .tup l => (ofOpt (l[i]?)).bind fun p => .ret ⟨.pv p, L, H⟩
    | _ => .fail
  | .call c => match c.callee with
    | .builtin b => builtinM P b c.argTypes.toList (c.args.toList.map e) L H
    | .value f => match e f with
      | .pv (.sc (.fn g)) => (asPVs (c.args.toList.map e)).bind fun xs => .get Out (C (.fn g) xs H) fun r => (callRes P o.type r).bind fun v => .ret ⟨v, L, r.H⟩
      | _ => .fail
    | _ => .fail
  | _ => .fail

structure St where
  env : Env
  L : LM
  H : AH

def putM (cf : Cfg) (s : St) (dst : Option Tmp) (x : Fx) : A St :=
  match dst with
  | none => .ret ⟨s.env, x.L, x.H⟩
  | some d => .br (Nat.ble (d + 1) cf.nt) (.ret ⟨updE s.env d x.v, x.L, x.H⟩) .fail

/- The operation's guard: in each way its Bool is told. -/
def wantM (ops : List Oper) (cf : Cfg) (o : Oper) (s : St) : A (Bool × St) :=
  match o.guard with
  | none => .ret (true, s)
  | some (j, want) => match (ops[j]?).bind (·.dst) with
    | none => .fail
    | some d => .br (Nat.ble (d + 1) cf.nt) (match s.env d with
      | .tup [] => .ret (false, s)
      | v => (asB v).bind fun b => .br b (.ret (want, ⟨updE s.env d (.pv (.sc (.bool true))), s.L, s.H⟩)) (.ret (!want, ⟨updE s.env d (.pv (.sc (.bool false))), s.L, s.H⟩))) .fail

def stepM (P : Program) (C : Oracle) (cf : Cfg) (ops : List Oper) (o : Oper) (s : St) : A St :=
  (wantM ops cf o s).bind fun r => match r.1 with
    | true => (opM P C cf none o (evO r.2.env) r.2.L r.2.H).bind fun x => putM cf r.2 o.dst x
    | false => putM cf r.2 o.dst ⟨.tup [], r.2.L, r.2.H⟩

def foldA {β : Type} (f : β → St → A St) : List β → St → A St
  | [], s => .ret s
  | o :: l, s => (f o s).bind fun s' => foldA f l s'

/- A region that draws its order. -/
inductive Cls where
  | pure | load | alloc | fresh | act | store
deriving DecidableEq
def clsOf (cf : Cfg) (o : Oper) : Cls :=
  match o.op with
  | .slice _ _ (some _) _ _ => .load
  | .move _ | .assign _ | .nilCheck _ | .pick .. | .build .. | .binOp .. | .unOp .. | .convert .. | .slice .. | .fieldAddr .. | .field .. | .indexAddr .. | .index .. | .extract .. => .pure
  | .call { callee := .builtin .len, .. } | .call { callee := .builtin .min, .. } | .call { callee := .builtin .max, .. } => .pure
  | .load .. => .load
  | .alloc _ | .box .. => match o.dst with | some d => if cf.heap.contains d then .fresh else .alloc | none => .act
  | .makeSlice .. | .buildSlice .. => .fresh
  | .store .. => .store
  | _ => .act
def bindsAny (e : Edge) : Bool := Region.binds .any e
/- For each operation, the set (as a number's bits) of those that come before it in every order. -/
def ancs : List Oper → List Nat → List Nat
  | [], acc => acc.reverse
  | o :: l, acc => ancs l (o.after.toList.foldl (fun s ed => if bindsAny ed then s ||| 2 ^ ed.on ||| (acc.reverse.getD ed.on 0) else s) 0 :: acc)
def unord (an : List Nat) (i j : Nat) : Bool := !Nat.beq i j && !(an.getD i 0).testBit j && !(an.getD j 0).testBit i
def fits : Cls → Cls → Bool
  | .pure, _ | _, .pure => true
  | .store, _ | _, .store => false
  | .act, .act => false
  | _, _ => true
def drawOk (cf : Cfg) (ops : Array Oper) : Bool :=
  let an := ancs ops.toList []
  (ops.toList.zipIdx.all fun (o, i) => o.after.toList.all fun ed => !bindsAny ed || Nat.ble (ed.on + 1) i) &&
  ops.toList.zipIdx.all fun (o, i) => ops.toList.zipIdx.all fun (q, j) => !(Nat.ble (j + 1) i && unord an i j) || (q.apart ops o && fits (clsOf cf q) (clsOf cf o))
def freshNo (cf : Cfg) (ops : List Oper) (i : Nat) : Nat := ((ops.take i).filter fun o => clsOf cf o == .fresh).length
structure Msk where
  lu : List Nat      -- locals made in open order with it
  hu : List Nat      -- places of new blocks made in open order with it
  au : Bool          -- an act in open order with it, its blocks not held
  ag : Bool          -- an act in open order with it, held
  hold : Bool
def mskOf (cf : Cfg) (ops : List Oper) (ext : List Nat) (i : Nat) : Msk :=
  let an := ancs ops []
  let z := ops.zipIdx
  { lu := z.filterMap fun (o, j) => if unord an i j && clsOf cf o == .alloc then o.dst else none
    hu := z.filterMap fun (o, j) => if unord an i j && clsOf cf o == .fresh then some (freshNo cf ops j) else none
    au := z.any fun (o, j) => unord an i j && clsOf cf o == .act && !ext.contains j
    ag := z.any fun (o, j) => unord an i j && clsOf cf o == .act && ext.contains j
    hold := ext.contains i }
def maskL (L : LM) (l : List Nat) : LM := match l with | [] => L | _ => fun t => cond (l.contains t) none (L t)
def killAll (H : AH) (base : Nat) : List Nat → AH
  | [] => H
  | r :: l => killAll (H.set (base + r) deadB) base l
def restAll (H H' : AH) (base : Nat) : List Nat → AH
  | [] => H'
  | r :: l => restAll H (restB H H' (base + r)) base l
def seenAt (o : Oper) : Operand := match o.op with | .load _ a => a | .slice _ x .. => x | _ => .const undef
def drawM (P : Program) (C : Oracle) (cf : Cfg) (ops : List Oper) (base : Nat) (m : Msk) (i : Nat) (o : Oper) (e : Operand → AV) (L : LM) (H : AH) : A Fx :=
  match clsOf cf o with
  | .load =>
    (match e (seenAt o) with
     | .pv (.sc (.hp b _)) => A.br m.au A.fail (A.br (!m.ag || decide (b < base)) (A.ret ()) A.fail)
     | .pv (.sc (.sl s)) => A.br m.au A.fail (A.br (!m.ag || decide (s.b < base)) (A.ret ()) A.fail)
     | _ => A.ret ()).bind fun _ => (opM P C cf none o e (maskL L m.lu) (killAll H base m.hu)).bind fun x => .ret ⟨x.v, L, H⟩
  | .act => (opM P C cf none o e L (killAll H base m.hu)).bind fun x =>
      (A.br (!m.hold || decide (x.H.take base = H.take base)) (.ret ()) .fail).bind fun _ =>
        (A.br (m.hu.isEmpty || decide (x.H.length ≥ H.length)) (.ret ()) .fail).bind fun _ => .ret ⟨x.v, L, restAll H x.H base m.hu⟩
  | .fresh => opM P C cf (some (base + freshNo cf ops i)) o e L H
  | _ => opM P C cf none o e L H
def stepD (P : Program) (C : Oracle) (cf : Cfg) (ops : List Oper) (ext : List Nat) (base : Nat) (io : Oper × Nat) (s : St) : A St :=
  (wantM ops cf io.1 s).bind fun r => match r.1 with
    | true => (drawM P C cf ops base (mskOf cf ops ext io.2) io.2 io.1 (evO r.2.env) r.2.L r.2.H).bind fun x => putM cf r.2 io.1.dst x
    | false => putM cf r.2 io.1.dst ⟨.tup [], r.2.L, r.2.H⟩
def resB : Blk := ⟨[], .res, 0⟩
def freshes (cf : Cfg) (ops : List Oper) : Nat := (ops.filter fun o => clsOf cf o == .fresh).length
def reserve (H : AH) : Nat → AH
  | 0 => H
  | n + 1 => reserve (H ++ [resB]) n

def regionM (P : Program) (C : Oracle) (cf : Cfg) (ext : List Nat) (ops : Array Oper) (draw : Bool) (s : St) : A St :=
  match draw with
  | false => foldA (stepM P C cf ops.toList) ops.toList s
  | true => .br (drawOk cf ops) (foldA (stepD P C cf ops.toList ext s.H.length) ops.toList.zipIdx ⟨s.env, s.L, reserve s.H (freshes cf ops.toList)⟩) .fail

/- What a program of ours tells of a function's code: where ways meet again, and what a loop hands on. -/
structure Ways where
  e : Nat                          -- 0 goes on, 1 returns, k + 2 leaves block k
  outs : List (Nat × TypeId)       -- slots
  louts : List (Nat × TypeId)      -- locals that may have changed
inductive Hint where
  | no
  | sq (x y : Hint)
  | bl (x : Hint)
  | dr (ext : List Nat)
  | cut (ws : List Ways) (x y : Hint)
  | lp (id : Nat) (ins : List (Nat × TypeId)) (lins : List (Nat × TypeId × Bool)) (ws : List Ways) (x : Hint)

def Hint.lt : Hint → Hint | .sq x _ => x | .bl x => x | _ => .no
def Hint.rt : Hint → Hint | .sq _ y => y | _ => .no

def packOuts (e : Env) : List (Nat × TypeId) → A (List PV)
  | [] => .ret []
  | (t, _) :: l => (asPV (e t)).bind fun p => (packOuts e l).bind fun ps => .ret (p :: ps)
def packLs (e : Env) (L : LM) : List (Nat × TypeId) → A (List PV)
  | [] => .ret []
  | (t, _) :: l => match L t, e t with
    | some c, .lp t' o => .br (Nat.beq t t' && Nat.beq o 0) ((packLs e L l).bind fun ps => .ret (.agg c.cells :: ps)) .fail
    | _, _ => .fail
def packW (ws : List Ways) (r : Nat × St) : A Out :=
  match ws.find? fun w => Nat.beq w.e r.1 with
  | none => .fail
  | some w => (packOuts r.2.env w.outs).bind fun a => (packLs r.2.env r.2.L w.louts).bind fun b => .ret ⟨r.1, a ++ b, r.2.H⟩
def zipE (e : Env) : List (Nat × TypeId) → List PV → Env
  | (t, _) :: l, p :: ps => zipE (updE e t (.pv p)) l ps
  | _, _ => e
def ptrE (e : Env) : List (Nat × TypeId) → Env
  | [] => e
  | (t, _) :: l => ptrE (updE e t (.lp t 0)) l
def roOf (L : LM) (t : Nat) : Bool := match L t with | some c => c.ro | none => false
def zipL (L0 L : LM) : List (Nat × TypeId) → List PV → LM
  | (t, _) :: l, p :: ps => zipL L0 (updL L t (some ⟨p.cells, roOf L0 t⟩)) l ps
  | _, _ => L
def writes : Code → List Nat
  | .region _ ops _ => ops.toList.filterMap (·.dst) ++ ops.toList.filterMap fun o => o.guard.bind fun g => (ops[g.1]?).bind (·.dst)
  | .seq a b | .cond _ a b => writes a ++ writes b
  | .block _ c | .loop c | .scope c => writes c
  | _ => []
def forget (e : Env) (l : List Nat) : Env := fun t => cond (l.contains t) .undef (e t)
def castC (P : Program) (t : TypeId) (cs : List Sc) : A (List Sc) :=
  match shape P t with
  | .one k => (rdK cs 0 k).bind fun s => .br (Nat.beq cs.length 1) (.ret [s]) .fail
  | .many ks => .br (decide (cs.length = ks.length)) (rdKs cs 0 ks) .fail
  | .big => .br (decide (cs.length = tsz P t)) (.ret cs) .fail
  | .no => .fail
/- A local's cells, as they come out of a list of values (a local is never one scalar there: a row of cells). -/
def castLs (P : Program) (l : List PV) : Nat → List (Nat × TypeId) → A (List PV)
  | _, [] => .ret []
  | i, (_, t) :: ts => .get (List Sc) ((nthP l i).bind PV.agg?) fun cs => (castC P t cs).bind fun c => (castLs P l (i + 1) ts).bind fun r => .ret (.agg c :: r)
/- Each local of the list that is there before is among those that come back. -/
def backL (L : LM) (w : Ways) : List Nat → Bool
  | [] => true
  | t :: l => (match L t with | some _ => (w.louts.map (·.1)).contains t | none => true) && backL L w l
def unpackW (P : Program) (all wr : List Nat) (s : St) (r : Out) : List Ways → A (Nat × St)
  | [] => .fail
  | w :: ws => .br (Nat.beq r.e w.e) (.br (backL s.L w all) ((castN P r.vs 0 (w.outs.map (·.2))).bind fun a => (castLs P r.vs w.outs.length w.louts).bind fun b =>
      .ret (w.e, ⟨ptrE (zipE (forget s.env wr) w.outs a) w.louts, zipL s.L s.L w.louts b, r.H⟩)) .fail) (unpackW P all wr s r ws)
def roL (L : LM) (keep : List Nat) : LM := fun t => (L t).map fun c => ⟨c.cells, c.ro || !keep.contains t⟩
def loutsOf (ws : List Ways) : List Nat := ws.flatMap fun w => w.louts.map (·.1)

def aev (P : Program) (C : Oracle) (cf : Cfg) : Code → Hint → St → A (Nat × St)
  | .skip, _, s => .ret (0, s)
  | .label _, _, s => .ret (0, s)
  | .ret, _, s => .ret (1, s)
  | .exit id, _, s => .ret (id + 2, s)
  | .region _ ops draw, h, s => (regionM P C cf (match h with | .dr l => l | _ => []) ops draw s).bind fun s' => .ret (0, s')
  | .seq a b, .cut ws ha hb, s =>
    .get Out ((aev P C cf a ha ⟨s.env, roL s.L (loutsOf ws), s.H⟩).bind (packW ws)).run fun r =>
      (unpackW P (loutsOf ws) (writes a) s r ws).bind fun q => match q.1 with | 0 => aev P C cf b hb q.2 | _ => .ret q
  | .seq a b, h, s => (aev P C cf a h.lt s).bind fun q => match q.1 with | 0 => aev P C cf b h.rt q.2 | _ => .ret q
  | .cond c a b, h, s => (asB (evO s.env c)).bind fun t => .br t (aev P C cf a h.lt s) (aev P C cf b h.rt s)
  | .block id c, h, s => (aev P C cf c h.lt s).bind fun q => .ret (cond (Nat.beq q.1 (id + 2)) 0 q.1, q.2)
  | .scope c, h, s => aev P C cf c h.lt s
  | .loop c, .lp id ins lins ws _, s =>
    (packOuts s.env ins).bind fun a => (packLs s.env s.L (lins.map fun x => (x.1, x.2.1))).bind fun b =>
      .br ((lins.all fun x => !x.2.2 || !roOf s.L x.1) && ws.all fun w => w.louts.all fun x => !(s.L x.1).isSome || (lins.map (·.1)).contains x.1) (.get Out (C (.loop cf.f id) (a ++ b) s.H) fun r =>
        (unpackW P (lins.filterMap fun x => cond x.2.2 (some x.1) none) (writes c) s r ws).bind fun q => .br (Nat.beq q.1 0) .fail (.ret q)) .fail
  | _, _, _ => .fail

structure Fn where
  heap : List Nat
  hint : Hint
abbrev Table := Nat → Fn

def occs : Code → Hint → List (Nat × Code × Hint)
  | .seq a b, .cut _ ha hb => occs a ha ++ occs b hb
  | .seq a b, h => occs a h.lt ++ occs b h.rt
  | .cond _ a b, h => occs a h.lt ++ occs b h.rt
  | .block _ c, h => occs c h.lt
  | .scope c, h => occs c h.lt
  | .loop c, .lp id ins lins ws h => (id, c, .lp id ins lins ws h) :: occs c h
  | _, _ => []
def distinct : List Nat → Bool
  | [] => true
  | a :: l => l.all (fun b => !Nat.beq a b) && distinct l
def findLoop (c : Code) (h : Hint) (i : Nat) : Option (Code × Hint) := ((occs c h).find? fun x => Nat.beq x.1 i).map (·.2)

def argE (n : Nat) : List PV → Env
  | [] => fun _ => .undef
  | p :: ps => updE (argE (n + 1) ps) n (.pv p)
def resM (rs : List ResultVar) (P : Program) (s : St) : A (List PV) :=
  match rs with
  | [] => .ret []
  | .tmp t :: l => (asPV (s.env t)).bind fun p => (resM l P s).bind fun ps => .ret (p :: ps)
  | .cell a t :: l => (loadM P t (s.env a) s.L s.H).bind fun v => (asPV v).bind fun p => (resM l P s).bind fun ps => .ret (p :: ps)

def linsL : List (Nat × TypeId × Bool) → List PV → LM
  | (t, _, w) :: l, p :: ps => updL (linsL l ps) t (some ⟨p.cells, !w⟩)
  | _, _ => fun _ => none

def procM (P : Program) (T : Table) (C : Oracle) : Proc → List PV → AH → A Out
  | .fn f, xs, H => match P.funcs[f]? with
    | some fn => match fn.body with
      | some c => .br (Nat.ble xs.length fn.ntmps && distinct ((occs c (T f).hint).map (·.1))) ((aev P C ⟨f, fn.ntmps, (T f).heap⟩ c (T f).hint ⟨argE 0 xs, fun _ => none, H⟩).bind fun q =>
          .br (Nat.ble q.1 1) ((resM fn.results.toList P q.2).bind fun vs => .ret ⟨1, vs, q.2.H⟩) .fail) .fail
      | none => .fail
    | none => .fail
  | .loop f id, xs, H => match P.funcs[f]? with
    | some fn => match fn.body with
      | none => .fail
      | some c0 => match findLoop c0 (T f).hint id with
      | some (c, .lp _ ins lins ws h) =>
        .br (Nat.beq xs.length (ins.length + lins.length) && distinct ((occs c0 (T f).hint).map (·.1))) ((aev P C ⟨f, fn.ntmps, (T f).heap⟩ c h ⟨ptrE (zipE (fun _ => .undef) ins (xs.take ins.length)) (lins.map fun x => (x.1, x.2.1)), linsL lins (xs.drop ins.length), H⟩).bind fun q =>
          match q.1 with
          | 0 => (packOuts q.2.env ins).bind fun a => (packLs q.2.env q.2.L (lins.map fun x => (x.1, x.2.1))).bind fun b => .tail (C (.loop f id) (a ++ b) q.2.H)
          | _ => packW ws q) .fail
      | _ => .fail
    | none => .fail

end Go.Abs
/- What the abstract interpreter answers: the least oracle that is closed under its own step; each answer hangs on finitely many calls. -/
namespace Go.Abs

theorem A.run_bind {α β : Type} (x : A α) (f : α → A β) : (x.bind f).run = x.run.bind fun a => (f a).run := by
  induction x with
  | ret a => rfl
  | fail => rfl
  | get γ o k ih => cases o <;> simp [A.bind, A.run, ih]
  | br b x y hx hy => cases b <;> simp [A.bind, A.run, hx, hy]
  | tail o => rfl

abbrev Seen := List (Proc × List PV × AH × Out)
def Seen.of (S : Seen) (C : Oracle) : Prop := ∀ s ∈ S, C s.1 s.2.1 s.2.2.1 = some s.2.2.2

/-- Each answer hangs on finitely many calls. -/
def Sup {α : Type} (x : Oracle → A α) : Prop :=
  ∀ C r, (x C).run = some r → ∃ S : Seen, S.of C ∧ ∀ C', S.of C' → (x C').run = some r

section
variable {α β : Type}
theorem sup_const (x : A α) : Sup fun _ => x := fun _ _ h => ⟨[], by simp [Seen.of], fun _ _ => h⟩

theorem sup_bind {x : Oracle → A α} {f : Oracle → α → A β} (hx : Sup x) (hf : ∀ a, Sup fun C => f C a) : Sup fun C => (x C).bind (f C) := by
  intro C r h
  simp only [A.run_bind, Option.bind_eq_some_iff] at h
  obtain ⟨a, h1, h2⟩ := h
  obtain ⟨S1, s1, k1⟩ := hx C a h1
  obtain ⟨S2, s2, k2⟩ := hf a C r h2
  refine ⟨S1 ++ S2, fun s hs => ?_, fun C' h' => ?_⟩
  · rcases List.mem_append.1 hs with h | h
    · exact s1 s h
    · exact s2 s h
  · simp only [A.run_bind, Option.bind_eq_some_iff]
    exact ⟨a, k1 C' (fun s hs => h' s (List.mem_append.2 (.inl hs))), k2 C' (fun s hs => h' s (List.mem_append.2 (.inr hs)))⟩

theorem sup_br (b : Bool) {x y : Oracle → A α} (hx : Sup x) (hy : Sup y) : Sup fun C => .br b (x C) (y C) := by
  cases b
  · exact hy
  · exact hx

theorem sup_get {γ : Type} (o : Option γ) {k : Oracle → γ → A α} (hk : ∀ b, Sup fun C => k C b) : Sup fun C => .get γ o (k C) := by
  cases o with
  | none => intro C r h; simp [A.run] at h
  | some b => exact hk b

theorem sup_run {γ : Type} {x : Oracle → A γ} {k : Oracle → γ → A α} (hx : Sup x) (hk : ∀ b, Sup fun C => k C b) : Sup fun C => .get γ (x C).run (k C) := by
  have := sup_bind hx hk
  intro C r h
  have h' : ((x C).bind (k C)).run = some r := by rw [A.run_bind]; exact h
  obtain ⟨S, s, k'⟩ := this C r h'
  exact ⟨S, s, fun C' hc => by have := k' C' hc; rw [A.run_bind] at this; exact this⟩

theorem sup_call (p : Proc) (xs : List PV) (H : AH) {k : Oracle → Out → A α} (hk : ∀ b, Sup fun C => k C b) : Sup fun C => .get Out (C p xs H) (k C) := by
  intro C r h
  simp only [A.run, Option.bind_eq_some_iff] at h
  obtain ⟨o, h1, h2⟩ := h
  obtain ⟨S, s, k'⟩ := hk o C r h2
  refine ⟨(p, xs, H, o) :: S, fun t ht => ?_, fun C' hc => ?_⟩
  · rcases List.mem_cons.1 ht with rfl | ht
    · exact h1
    · exact s t ht
  · simp only [A.run, Option.bind_eq_some_iff]
    exact ⟨o, hc _ (List.mem_cons.2 (.inl rfl)), k' C' (fun t ht => hc t (List.mem_cons.2 (.inr ht)))⟩

theorem sup_tail (p : Proc) (xs : List PV) (H : AH) : Sup fun C => (.tail (C p xs H) : A Out) := by
  intro C r h
  refine ⟨[(p, xs, H, r)], fun s hs => ?_, fun C' hc => hc _ (List.mem_cons.2 (.inl rfl))⟩
  rcases List.mem_singleton.1 hs with rfl
  exact h
end

section
variable (P : Program)
theorem sup_opM (cf : Cfg) (fid : Option Nat) (o : Oper) (e : Operand → AV) (L : LM) (H : AH) : Sup fun C => opM P C cf fid o e L H := by
  unfold opM
  split
  all_goals first
    | exact sup_const _
    | (split <;> first
        | exact sup_const _
        | (split <;> first
            | exact sup_const _
            | exact sup_bind (sup_const _) fun xs => sup_call _ _ _ fun r => sup_const _))

theorem sup_stepM (cf : Cfg) (ops : List Oper) (o : Oper) (s : St) : Sup fun C => stepM P C cf ops o s := by
  unfold stepM
  refine sup_bind (sup_const _) fun r => ?_
  split
  · exact sup_bind (sup_opM P _ _ _ _ _ _) fun _ => sup_const _
  · exact sup_const _

theorem sup_foldA {γ : Type} {f : Oracle → γ → St → A St} (hf : ∀ b s, Sup fun C => f C b s) : ∀ (l : List γ) (s : St), Sup fun C => foldA (f C) l s
  | [], s => sup_const _
  | b :: l, s => sup_bind (hf b s) fun s' => sup_foldA hf l s'

theorem sup_drawM (cf : Cfg) (ops : List Oper) (base : Nat) (m : Msk) (i : Nat) (o : Oper) (e : Operand → AV) (L : LM) (H : AH) : Sup fun C => drawM P C cf ops base m i o e L H := by
  unfold drawM
  split
  · exact sup_bind (sup_const _) fun _ => sup_bind (sup_opM P _ _ _ _ _ _) fun _ => sup_const _
  · exact sup_bind (sup_opM P _ _ _ _ _ _) fun _ => sup_const _
  · exact sup_opM P _ _ _ _ _ _
  · exact sup_opM P _ _ _ _ _ _

theorem sup_stepD (cf : Cfg) (ops : List Oper) (ext : List Nat) (base : Nat) (io : Oper × Nat) (s : St) : Sup fun C => stepD P C cf ops ext base io s := by
  unfold stepD
  refine sup_bind (sup_const _) fun r => ?_
  split
  · exact sup_bind (sup_drawM P _ _ _ _ _ _ _ _ _) fun _ => sup_const _
  · exact sup_const _

theorem sup_regionM (cf : Cfg) (ext : List Nat) (ops : Array Oper) (draw : Bool) (s : St) : Sup fun C => regionM P C cf ext ops draw s := by
  unfold regionM
  split
  · exact sup_foldA (fun _ _ => sup_stepM P _ _ _ _) _ _
  · exact sup_br _ (sup_foldA (fun _ _ => sup_stepD P _ _ _ _ _ _) _ _) (sup_const _)

theorem sup_next {f : Oracle → Nat × St → A (Nat × St)} (q : Nat × St) (hf : ∀ q, Sup fun C => f C q) : Sup fun C => (match q.1 with | 0 => f C q | _ => .ret q : A (Nat × St)) := by
  obtain ⟨n, s⟩ := q
  cases n
  · exact hf _
  · exact sup_const _

theorem sup_aev (cf : Cfg) : ∀ (c : Code) (h : Hint) (s : St), Sup fun C => aev P C cf c h s
  | .skip, _, s => by simp only [aev]; exact sup_const _
  | .label _, _, s => by simp only [aev]; exact sup_const _
  | .ret, _, s => by simp only [aev]; exact sup_const _
  | .exit id, _, s => by simp only [aev]; exact sup_const _
  | .region _ ops draw, h, s => by simp only [aev]; exact sup_bind (sup_regionM P _ _ _ _ _) fun _ => sup_const _
  | .seq a b, h, s => by
    cases h
    case cut ws ha hb =>
      simp only [aev]
      exact sup_run (sup_bind (sup_aev cf a ha _) fun _ => sup_const _) fun r => sup_bind (sup_const _) fun q => sup_next q fun q => sup_aev cf b hb q.2
    all_goals
      simp only [aev]
      exact sup_bind (sup_aev cf a _ _) fun q => sup_next q fun q => sup_aev cf b _ q.2
  | .cond c a b, h, s => by simp only [aev]; exact sup_bind (sup_const _) fun t => sup_br _ (sup_aev cf a _ _) (sup_aev cf b _ _)
  | .block id c, h, s => by simp only [aev]; exact sup_bind (sup_aev cf c _ _) fun _ => sup_const _
  | .scope c, h, s => by simp only [aev]; exact sup_aev cf c _ _
  | .loop c, h, s => by
    cases h
    case lp id ins lins ws h =>
      simp only [aev]
      exact sup_bind (sup_const _) fun a => sup_bind (sup_const _) fun b => sup_br _ (sup_call _ _ _ fun r => sup_const _) (sup_const _)
    all_goals exact sup_const _
  | .goto _, h, s => by simp only [aev]; exact sup_const _
  | .refuse _, h, s => by simp only [aev]; exact sup_const _
  | .rangeFunc .., h, s => by simp only [aev]; exact sup_const _

theorem sup_procM (T : Table) (p : Proc) (xs : List PV) (H : AH) : Sup fun C => procM P T C p xs H := by
  cases p with
  | fn f =>
    simp only [procM]
    split
    · split
      · exact sup_br _ (sup_bind (sup_aev P _ _ _ _) fun q => sup_br _ (sup_const _) (sup_const _)) (sup_const _)
      · exact sup_const _
    · exact sup_const _
  | loop f id =>
    simp only [procM]
    split
    · split
      · exact sup_const _
      split
      · refine sup_br _ (sup_bind (sup_aev P _ _ _ _) fun q => ?_) (sup_const _)
        obtain ⟨n, s⟩ := q
        cases n
        · exact sup_bind (sup_const _) fun a => sup_bind (sup_const _) fun b => sup_tail _ _ _
        · exact sup_const _
      · exact sup_const _
    · exact sup_const _

def runN (T : Table) : Nat → Oracle
  | 0 => fun _ _ _ => none
  | n + 1 => fun p xs H => (procM P T (runN T n) p xs H).run

open Classical in
noncomputable def run (T : Table) : Oracle := fun p xs H => if h : ∃ r, ∃ n, runN P T n p xs H = some r then some h.choose else none

variable {P}
theorem runN_mono {T : Table} : ∀ (n : Nat) (p : Proc) (xs : List PV) (H : AH) (r : Out), runN P T n p xs H = some r → runN P T (n + 1) p xs H = some r
  | 0, _, _, _, _, h => by simp [runN] at h
  | n + 1, p, xs, H, r, h => by
    obtain ⟨S, s, k⟩ := sup_procM P T p xs H _ r h
    exact k _ fun t ht => runN_mono n _ _ _ _ (s t ht)

theorem runN_le {T : Table} {n m : Nat} (h : n ≤ m) {p : Proc} {xs : List PV} {H : AH} {r : Out} (hr : runN P T n p xs H = some r) : runN P T m p xs H = some r := by
  induction h with
  | refl => exact hr
  | step _ ih => exact runN_mono _ _ _ _ _ ih

theorem run_some {T : Table} {p : Proc} {xs : List PV} {H : AH} {r : Out} : run P T p xs H = some r ↔ ∃ n, runN P T n p xs H = some r := by
  unfold run
  by_cases h : ∃ r, ∃ n, runN P T n p xs H = some r
  · rw [dif_pos h]
    have hc := h.choose_spec
    constructor
    · intro e; rw [← Option.some.inj e]; exact hc
    · rintro ⟨n, hn⟩
      obtain ⟨m, hm⟩ := hc
      have h1 := runN_le (Nat.le_max_left n m) hn
      have h2 := runN_le (Nat.le_max_right n m) hm
      rw [h1] at h2; exact h2.symm
  · rw [dif_neg h]
    exact ⟨fun e => by simp at e, fun e => absurd ⟨r, e⟩ h⟩

/-- The equation by which everything is told of `run`. -/
theorem run_eq (T : Table) (p : Proc) (xs : List PV) (H : AH) : run P T p xs H = (procM P T (run P T) p xs H).run := by
  apply Option.ext
  intro r
  rw [run_some]
  constructor
  · rintro ⟨n, hn⟩
    cases n with
    | zero => simp [runN] at hn
    | succ n =>
      obtain ⟨S, s, k⟩ := sup_procM P T p xs H _ r hn
      exact k _ fun t ht => run_some.2 ⟨n, s t ht⟩
  · intro h
    obtain ⟨S, s, k⟩ := sup_procM P T p xs H _ r h
    have : ∃ n, Seen.of S (runN P T n) := by
      clear k
      induction S with
      | nil => exact ⟨0, by simp [Seen.of]⟩
      | cons t S ih =>
        obtain ⟨n, hn⟩ := ih fun t ht => s t (List.mem_cons.2 (.inr ht))
        obtain ⟨m, hm⟩ := run_some.1 (s t (List.mem_cons.2 (.inl rfl)))
        refine ⟨max n m, fun u hu => ?_⟩
        rcases List.mem_cons.1 hu with rfl | hu
        · exact runN_le (Nat.le_max_right n m) hm
        · exact runN_le (Nat.le_max_left n m) (hn u hu)
    obtain ⟨n, hn⟩ := this
    exact ⟨n + 1, k _ hn⟩
end
end Go.Abs
/- What an abstract state says of a world; the abstract memory's steps are steps of the world's. -/
namespace Go.Abs
set_option linter.unusedVariables false

inductive All2 {α β : Type} (R : α → β → Prop) : List α → List β → Prop where
  | nil : All2 R [] []
  | cons {a : α} {b : β} {l : List α} {m : List β} (h : R a b) (t : All2 R l m) : All2 R (a :: l) (b :: m)
theorem All2.length {α β : Type} {R : α → β → Prop} {l : List α} {m : List β} (h : All2 R l m) : l.length = m.length := by
  induction h with
  | nil => rfl
  | cons _ _ ih => simp [ih]

structure Bs where
  blk : Nat
  off : Nat
  ext : Nat
  z : Nat
abbrev RM := Nat → Option Bs
abbrev MM := Nat → Option Nat

def VS (ρ : RM) : Sc → Value → Prop
  | .int k n, v => v = .int k n
  | .bool b, v => v = .bool b
  | .str s, v => v = .string s
  | .hp b o, v => ∃ bs, ρ b = some bs ∧ v = .pointer (some ⟨bs.blk, bs.off + o, none⟩)
  | .nilp, v => v = .pointer none
  | .fn f, v => v = .func (.func f) #[] #[]
  | .sl s, v => ∃ A cap, v = .slice A s.n cap ∧ s.n ≤ s.c ∧ s.c ≤ cap ∧ (s.x = true → cap = s.c) ∧
      (cap = 0 ∨ ∃ bs, ρ s.b = some bs ∧ A = some ⟨bs.blk, bs.off + s.o, none⟩ ∧ s.o + cap * bs.z ≤ bs.ext ∧ 1 ≤ bs.z)

abbrev VSs (ρ : RM) (l : List Sc) (vs : List Value) : Prop := All2 (VS ρ) l vs

def VP (ρ : RM) : PV → Value → Prop
  | .sc s, v => VS ρ s v
  | .agg l, v => ∃ cs : Array Value, v = .agg cs ∧ VSs ρ l cs.toList

def V (ρ : RM) (μ : MM) : AV → Value → Prop
  | .pv p, v => VP ρ p v
  | .lp t o, v => ∃ k, μ t = some k ∧ v = .pointer (some ⟨k, o, none⟩)
  | .tup l, v => ∃ vs : Array Value, v = .tuple vs ∧ All2 (VP ρ) l vs.toList
  | .undef, _ => True

def Sub (ρ ρ' : RM) : Prop := ∀ b bs, ρ b = some bs → ρ' b = some bs
theorem Sub.refl (ρ : RM) : Sub ρ ρ := fun _ _ h => h
theorem Sub.trans {a b c : RM} (h : Sub a b) (k : Sub b c) : Sub a c := fun x y z => k x y (h x y z)

theorem VS.mono {ρ ρ' : RM} (h : Sub ρ ρ') {s : Sc} {v : Value} (hv : VS ρ s v) : VS ρ' s v := by
  cases s with
  | hp b o => obtain ⟨bs, e, r⟩ := hv; exact ⟨bs, h _ _ e, r⟩
  | sl s =>
    obtain ⟨A, cap, e, h1, h2, h3, h4⟩ := hv
    refine ⟨A, cap, e, h1, h2, h3, ?_⟩
    rcases h4 with h4 | ⟨bs, e2, r⟩
    · exact .inl h4
    · exact .inr ⟨bs, h _ _ e2, r⟩
  | _ => exact hv

theorem VSs.mono {ρ ρ' : RM} (h : Sub ρ ρ') {l : List Sc} {vs : List Value} (hv : VSs ρ l vs) : VSs ρ' l vs := by
  induction hv with
  | nil => exact .nil
  | cons a _ ih => exact .cons (a.mono h) ih

theorem VP.mono {ρ ρ' : RM} (h : Sub ρ ρ') {p : PV} {v : Value} (hv : VP ρ p v) : VP ρ' p v := by
  cases p with
  | sc s => exact VS.mono h hv
  | agg l => obtain ⟨cs, e, r⟩ := hv; exact ⟨cs, e, VSs.mono h r⟩

theorem VPs.mono {ρ ρ' : RM} (h : Sub ρ ρ') {l : List PV} {vs : List Value} (hv : All2 (VP ρ) l vs) : All2 (VP ρ') l vs := by
  induction hv with
  | nil => exact .nil
  | cons a _ ih => exact .cons (a.mono h) ih

theorem V.mono {ρ ρ' : RM} {μ μ' : MM} (h : Sub ρ ρ') {x : AV} {v : Value} (hm : ∀ t o, x = .lp t o → μ' t = μ t) (hv : V ρ μ x v) : V ρ' μ' x v := by
  cases x with
  | pv p => exact VP.mono h hv
  | lp t o => obtain ⟨k, e, r⟩ := hv; exact ⟨k, by rw [hm t o rfl]; exact e, r⟩
  | tup l => obtain ⟨vs, e, r⟩ := hv; exact ⟨vs, e, VPs.mono h r⟩
  | undef => trivial

theorem VS.one {ρ : RM} {s : Sc} {v : Value} (h : VS ρ s v) : v.oneCell' = true := by
  cases s with
  | hp b o => obtain ⟨bs, _, rfl⟩ := h; rfl
  | sl s => obtain ⟨A, cap, rfl, _⟩ := h; rfl
  | _ => cases h; rfl

theorem VS.cells {ρ : RM} {s : Sc} {v : Value} (h : VS ρ s v) : v.cells = #[v] := by
  cases s with
  | hp b o => obtain ⟨bs, _, rfl⟩ := h; rfl
  | sl s => obtain ⟨A, cap, rfl, _⟩ := h; rfl
  | _ => cases h; rfl

theorem VP.cells {ρ : RM} {p : PV} {v : Value} (h : VP ρ p v) : VSs ρ p.cells v.cells.toList := by
  cases p with
  | sc s => rw [VS.cells h]; exact .cons h .nil
  | agg l => obtain ⟨cs, rfl, r⟩ := h; exact r

theorem VSs.one {ρ : RM} {l : List Sc} {vs : List Value} (h : VSs ρ l vs) : ∀ v ∈ vs, v.oneCell' = true := by
  induction h with
  | nil => simp
  | cons a _ ih => intro v hv
                   rcases List.mem_cons.1 hv with rfl | hv
                   · exact a.one
                   · exact ih v hv

theorem VSs.length {ρ : RM} {l : List Sc} {vs : List Value} (h : VSs ρ l vs) : l.length = vs.length := All2.length h

theorem VSs.get {ρ : RM} {l : List Sc} {vs : List Value} (h : VSs ρ l vs) {i : Nat} {s : Sc} (hi : l[i]? = some s) : ∃ v, vs[i]? = some v ∧ VS ρ s v := by
  induction h generalizing i with
  | nil => simp at hi
  | cons a _ ih =>
    cases i with
    | zero => simp at hi; subst hi; exact ⟨_, rfl, a⟩
    | succ i => simp at hi; simpa using ih hi

theorem VSs.of_get {ρ : RM} {l : List Sc} {vs : List Value} (hl : l.length = vs.length) (h : ∀ (i : Nat) (s : Sc), l[i]? = some s → ∃ v, vs[i]? = some v ∧ VS ρ s v) : VSs ρ l vs := by
  induction l generalizing vs with
  | nil => cases vs with | nil => exact .nil | cons => simp at hl
  | cons s l ih =>
    cases vs with
    | nil => simp at hl
    | cons v vs =>
      obtain ⟨u, e, r⟩ := h 0 s rfl
      simp at e; subst e
      exact .cons r (ih (by simpa using hl) fun i s hi => by simpa using h (i + 1) s (by simpa using hi))

theorem VSs.append {ρ : RM} {a b : List Sc} {c d : List Value} (h : VSs ρ a c) (k : VSs ρ b d) : VSs ρ (a ++ b) (c ++ d) := by
  induction h with
  | nil => exact k
  | cons x _ ih => exact .cons x ih

/- ## The heap -/
def live (k : Blk) : Prop := k.st = .ro ∨ k.st = .rw

/-- A row of abstract cells lies in a block of the world from a place on. -/
def Lies (ρ : RM) (cs : List Sc) (c : Array Value) (off : Nat) : Prop := ∀ i s, cs[i]? = some s → ∃ v, c[off + i]? = some v ∧ VS ρ s v

theorem Lies.mono {ρ ρ' : RM} (h : Sub ρ ρ') {cs : List Sc} {c : Array Value} {off : Nat} (hl : Lies ρ cs c off) : Lies ρ' cs c off :=
  fun i s hi => let ⟨v, e, r⟩ := hl i s hi; ⟨v, e, r.mono h⟩

structure RH (ρ : RM) (H : AH) (w : World) : Prop where
  dom : ∀ b bs, ρ b = some bs → b < H.length
  res : ∀ b k, H[b]? = some k → k.st = .res → ρ b = none
  blk : ∀ b k, H[b]? = some k → live k → ∃ bs c ty fz, ρ b = some bs ∧ w.heap[bs.blk]? = some (.cells c ty fz) ∧ bs.z = k.z ∧ 1 ≤ bs.z ∧ k.cells.length ≤ bs.ext ∧
    bs.off + bs.ext ≤ c.size ∧ Lies ρ k.cells c bs.off ∧ (k.st = .rw → fz = (0, 0))
  apart : ∀ b b' k k' bs bs', H[b]? = some k → H[b']? = some k' → k.st = .rw → live k' → b ≠ b' → ρ b = some bs → ρ b' = some bs' → bs.blk ≠ bs'.blk

structure RL (ρ : RM) (μ : MM) (L : LM) (H : AH) (w : World) : Prop where
  blk : ∀ t c, L t = some c → ∃ k cs ty, μ t = some k ∧ w.heap[k]? = some (.cells cs ty (0, 0)) ∧ c.cells.length ≤ cs.size ∧ Lies ρ c.cells cs 0
  apart : ∀ t c k b kk bs, L t = some c → μ t = some k → H[b]? = some kk → live kk → ρ b = some bs → bs.blk ≠ k
  inj : ∀ t t' c c' k, L t = some c → L t' = some c' → μ t = some k → μ t' = some k → t = t'

def HostRw (ρ : RM) (H : AH) (n : Nat) : Prop := ∃ b k bs, H[b]? = some k ∧ k.st = .rw ∧ ρ b = some bs ∧ bs.blk = n
def HostL (μ : MM) (L : LM) (n : Nat) : Prop := ∃ t c, L t = some c ∧ c.ro = false ∧ μ t = some n

structure Evo (ρ : RM) (μ : MM) (L : LM) (H : AH) (w : World) (ρ' : RM) (μ' : MM) (L' : LM) (H' : AH) (w' : World) : Prop where
  size : w.heap.size ≤ w'.heap.size
  os : w'.os = w.os
  tape : w'.tape = w.tape
  output : w'.output = w.output
  keep : ∀ n, n < w.heap.size → ¬ HostRw ρ H n → ¬ HostL μ L n → w'.heap[n]? = w.heap[n]?
  len : H.length ≤ H'.length
  old : ∀ b, b < H.length → (∀ k, H[b]? = some k → k.st ≠ .res) → ρ' b = ρ b
  nres : ∀ (b : Nat) (k' : Blk), b < H.length → H'[b]? = some k' → k'.st = .res → ∃ k, H[b]? = some k ∧ k.st = .res
  rw : ∀ n, HostRw ρ' H' n → w.heap.size ≤ n ∨ HostRw ρ H n
  ro : ∀ (b : Nat) (k : Blk), H'[b]? = some k → k.st = .ro → H[b]? = some k
  lok : ∀ t, (L t).isSome = true → (L' t).isSome = true ∧ μ' t = μ t
  lw : ∀ n, HostL μ' L' n → w.heap.size ≤ n ∨ HostL μ L n
  lnew : ∀ t k, (L' t).isSome = true → (L t).isSome = false → μ' t = some k → w.heap.size ≤ k

theorem Evo.refl (ρ : RM) (μ : MM) (L : LM) (H : AH) (w : World) : Evo ρ μ L H w ρ μ L H w :=
  ⟨Nat.le_refl _, rfl, rfl, rfl, fun _ _ _ _ => rfl, Nat.le_refl _, fun _ _ _ => rfl, fun _ k _ h e => ⟨k, h, e⟩, fun _ h => .inr h, fun _ _ h _ => h, fun _ h => ⟨h, rfl⟩, fun _ h => .inr h, fun _ _ h1 h2 => by rw [h2] at h1; cases h1⟩

theorem Evo.trans {ρ ρ' ρ'' : RM} {μ μ' μ'' : MM} {L L' L'' : LM} {H H' H'' : AH} {w w' w'' : World}
    (a : Evo ρ μ L H w ρ' μ' L' H' w') (b : Evo ρ' μ' L' H' w' ρ'' μ'' L'' H'' w'') : Evo ρ μ L H w ρ'' μ'' L'' H'' w'' where
  size := Nat.le_trans a.size b.size
  os := b.os.trans a.os
  tape := b.tape.trans a.tape
  output := b.output.trans a.output
  keep n hn h1 h2 := by
    rw [b.keep n (Nat.lt_of_lt_of_le hn a.size) ?_ ?_, a.keep n hn h1 h2]
    · intro h; rcases a.rw n h with h | h
      · omega
      · exact h1 h
    · intro h; rcases a.lw n h with h | h
      · omega
      · exact h2 h
  len := Nat.le_trans a.len b.len
  old n hn hr := by
    rw [b.old n (Nat.lt_of_lt_of_le hn a.len) ?_, a.old n hn hr]
    intro k hk e
    obtain ⟨k0, h0, e0⟩ := a.nres n k hn hk e
    exact hr k0 h0 e0
  nres n k hn hk e := by
    obtain ⟨k1, h1, e1⟩ := b.nres n k (Nat.lt_of_lt_of_le hn a.len) hk e
    exact a.nres n k1 hn h1 e1
  rw n h := by
    rcases b.rw n h with h | h
    · exact .inl (Nat.le_trans a.size h)
    · exact a.rw n h
  ro n k h hr := a.ro n k (b.ro n k h hr) hr
  lok t h := by
    obtain ⟨h1, e1⟩ := a.lok t h
    obtain ⟨h2, e2⟩ := b.lok t h1
    exact ⟨h2, e2.trans e1⟩
  lw n h := by
    rcases b.lw n h with h | h
    · exact .inl (Nat.le_trans a.size h)
    · exact a.lw n h
  lnew t k h1 h2 h3 := by
    cases h' : (L' t).isSome with
    | true => exact a.lnew t k h' h2 (by rw [← (b.lok t h').2]; exact h3)
    | false => exact Nat.le_trans a.size (b.lnew t k h1 h' h3)

theorem Evo.sub {ρ ρ' : RM} {μ μ' : MM} {L L' : LM} {H H' : AH} {w w' : World} (a : Evo ρ μ L H w ρ' μ' L' H' w') (h : RH ρ H w) : Sub ρ ρ' :=
  fun b bs e => by
    rw [a.old b (h.dom b bs e) (fun k hk hr => by rw [h.res b k hk hr] at e; cases e)]; exact e

/-- A world that differs from another one in one block at most. -/
structure Only (w w' : World) (n : Nat) : Prop where
  size : w'.heap.size = w.heap.size
  os : w'.os = w.os
  tape : w'.tape = w.tape
  output : w'.output = w.output
  blk : ∀ m, m ≠ n → w'.heap[m]? = w.heap[m]?

theorem Only.setRow (w : World) (n : Nat) (cs : Array Value) : Only w (w.setRow n cs) n :=
  ⟨setRow_size .., rfl, rfl, rfl, fun m h => setRow_other w n m cs h⟩

/-- What grows by one block. -/
structure Grew (w w' : World) (o : Obj) : Prop where
  size : w'.heap.size = w.heap.size + 1
  os : w'.os = w.os
  tape : w'.tape = w.tape
  output : w'.output = w.output
  old : ∀ m, m < w.heap.size → w'.heap[m]? = w.heap[m]?
  new : w'.heap[w.heap.size]? = some o

theorem Grew.alloc (w : World) (o : Obj) : Grew w { w with heap := w.heap.push o } o :=
  ⟨by simp, rfl, rfl, rfl, fun m h => by simp [Array.getElem?_push, Nat.ne_of_lt h], by simp⟩
theorem Grew.drew (w : World) (o : Obj) : Grew w { ({ w with drawn := w.drawn + 1 } : World) with heap := w.heap.push o } o :=
  ⟨by simp, rfl, rfl, rfl, fun m h => by simp [Array.getElem?_push, Nat.ne_of_lt h], by simp⟩

theorem block_lt {w : World} {n : Nat} {o : Obj} (h : w.heap[n]? = some o) : n < w.heap.size := by
  rcases Nat.lt_or_ge n w.heap.size with h' | h'
  · exact h'
  · simp [Array.getElem?_eq_none h'] at h

/-- Blocks in which nothing of the relation lies may change. -/
theorem RH.world {ρ : RM} {H : AH} {w w' : World} (h : RH ρ H w) (hw : ∀ (b : Nat) (k : Blk) (bs : Bs), H[b]? = some k → live k → ρ b = some bs → w'.heap[bs.blk]? = w.heap[bs.blk]?) : RH ρ H w' where
  dom := h.dom
  res := h.res
  blk b k hb hl := by
    obtain ⟨bs, c, ty, fz, h1, h2, r⟩ := h.blk b k hb hl
    exact ⟨bs, c, ty, fz, h1, by rw [hw b k bs hb hl h1]; exact h2, r⟩
  apart := h.apart

theorem RL.world {ρ : RM} {μ : MM} {L : LM} {H : AH} {w w' : World} (h : RL ρ μ L H w) (hw : ∀ t c k, L t = some c → μ t = some k → w'.heap[k]? = w.heap[k]?) : RL ρ μ L H w' where
  blk t c ht := by
    obtain ⟨k, cs, ty, h1, h2, r⟩ := h.blk t c ht
    exact ⟨k, cs, ty, h1, by rw [hw t c k ht h1]; exact h2, r⟩
  apart := h.apart
  inj := h.inj

theorem RH.lt {ρ : RM} {H : AH} {w : World} (h : RH ρ H w) {b : Nat} {k : Blk} {bs : Bs} (hb : H[b]? = some k) (hl : live k) (e : ρ b = some bs) : bs.blk < w.heap.size := by
  obtain ⟨bs', c, ty, fz, h1, h2, _⟩ := h.blk b k hb hl
  rw [e] at h1; cases h1
  exact block_lt h2
theorem RL.lt {ρ : RM} {μ : MM} {L : LM} {H : AH} {w : World} (h : RL ρ μ L H w) {t : Nat} {c : LB} {k : Nat} (ht : L t = some c) (e : μ t = some k) : k < w.heap.size := by
  obtain ⟨k', cs, ty, h1, h2, _⟩ := h.blk t c ht
  rw [e] at h1; cases h1
  exact block_lt h2

def updR (ρ : RM) (b : Nat) (x : Option Bs) : RM := fun i => if i = b then x else ρ i
theorem updR_self {ρ : RM} {b : Nat} {x : Option Bs} : updR ρ b x b = x := by simp [updR]
theorem updR_ne {ρ : RM} {b i : Nat} {x : Option Bs} (h : i ≠ b) : updR ρ b x i = ρ i := by simp [updR, h]
theorem Sub.upd {ρ : RM} {b : Nat} {x : Option Bs} (h : ρ b = none) : Sub ρ (updR ρ b x) := fun i bs e => by
  by_cases hi : i = b
  · subst hi; rw [h] at e; cases e
  · rw [updR_ne hi]; exact e

theorem RH.none_len {ρ : RM} {H : AH} {w : World} (h : RH ρ H w) {b : Nat} (hb : H.length ≤ b) : ρ b = none := by
  cases e : ρ b with
  | none => rfl
  | some bs => exact absurd (h.dom b bs e) (by omega)

theorem Lies.of_VSs {ρ : RM} {cs : List Sc} {vs : List Value} (h : VSs ρ cs vs) : Lies ρ cs vs.toArray 0 := fun i s hi => by
  obtain ⟨v, e, r⟩ := h.get hi
  exact ⟨v, by simpa using e, r⟩

/-- A new block of the heap, at the end or at a place that was kept for it, lies in a block of the world in which nothing else lies. -/
theorem RH.place {ρ : RM} {H : AH} {w : World} (h : RH ρ H w) {i : Nat} {H' : AH} {kb : Blk} {bs : Bs} {c : Array Value} {ty : TypeId}
    (hi : ρ i = none) (hget : H'[i]? = some kb) (hoth : ∀ (b : Nat), b ≠ i → H'[b]? = H[b]?) (hlen : H.length ≤ H'.length) (hil : i < H'.length)
    (hst : kb.st = .rw) (hw : w.heap[bs.blk]? = some (.cells c ty (0, 0))) (hz : bs.z = kb.z) (hz1 : 1 ≤ bs.z) (hext : kb.cells.length ≤ bs.ext) (hsz : bs.off + bs.ext ≤ c.size)
    (hlies : Lies ρ kb.cells c bs.off) (hfar : ∀ (b : Nat) (k : Blk) (bs' : Bs), b ≠ i → H[b]? = some k → live k → ρ b = some bs' → bs'.blk ≠ bs.blk) : RH (updR ρ i (some bs)) H' w where
  dom b bs' e := by
    by_cases hb : b = i
    · subst hb; exact hil
    · rw [updR_ne hb] at e; exact Nat.lt_of_lt_of_le (h.dom b bs' e) hlen
  res b k hb hk := by
    by_cases e : b = i
    · subst e; rw [hget] at hb; cases hb; rw [hst] at hk; cases hk
    · rw [updR_ne e]; rw [hoth b e] at hb; exact h.res b k hb hk
  blk b k hb hl := by
    by_cases e : b = i
    · subst e; rw [hget] at hb; cases hb
      exact ⟨bs, c, ty, (0, 0), updR_self, hw, hz, hz1, hext, hsz, hlies.mono (.upd hi), fun _ => rfl⟩
    · rw [hoth b e] at hb
      obtain ⟨bs', c', ty', fz', h1, h2, h3, h4, h5, h6, h7, h8⟩ := h.blk b k hb hl
      exact ⟨bs', c', ty', fz', by rw [updR_ne e]; exact h1, h2, h3, h4, h5, h6, h7.mono (.upd hi), h8⟩
  apart b b' k k' x x' hb hb' hr hl hne e e' := by
    by_cases h1 : b = i
    · subst h1
      have h2 : b' ≠ b := Ne.symm hne
      rw [updR_self] at e; cases e
      rw [updR_ne h2] at e'; rw [hoth b' h2] at hb'
      exact Ne.symm (hfar b' k' x' h2 hb' hl e')
    · rw [updR_ne h1] at e; rw [hoth b h1] at hb
      by_cases h2 : b' = i
      · subst h2; rw [updR_self] at e'; cases e'
        exact hfar b k x h1 hb (.inr hr) e
      · rw [updR_ne h2] at e'; rw [hoth b' h2] at hb'
        exact h.apart b b' k k' x x' hb hb' hr hl hne e e'

theorem RL.heap {ρ ρ' : RM} {μ : MM} {L : LM} {H H' : AH} {w : World} (h : RL ρ μ L H w) (hs : Sub ρ ρ')
    (hap : ∀ (t : Nat) (c : LB) (k b : Nat) (kk : Blk) (bs : Bs), L t = some c → μ t = some k → H'[b]? = some kk → live kk → ρ' b = some bs → bs.blk ≠ k) : RL ρ' μ L H' w where
  blk t c ht := by
    obtain ⟨k, cs, ty, h1, h2, h3, h4⟩ := h.blk t c ht
    exact ⟨k, cs, ty, h1, h2, h3, h4.mono hs⟩
  apart := hap
  inj := h.inj

/-- The heap less what may not be touched. -/
theorem RH.less {ρ : RM} {H H' : AH} {w : World} (h : RH ρ H w) (hlen : H'.length = H.length) (hres : ∀ (b : Nat) (k' : Blk), H'[b]? = some k' → k'.st = .res → ∃ k, H[b]? = some k ∧ k.st = .res)
    (hlv : ∀ (b : Nat) (k' : Blk), H'[b]? = some k' → live k' → H[b]? = some k') : RH ρ H' w where
  dom b bs e := by rw [hlen]; exact h.dom b bs e
  res b k' hb hk := by obtain ⟨k, h1, h2⟩ := hres b k' hb hk; exact h.res b k h1 h2
  blk b k hb hl := h.blk b k (hlv b k hb hl) hl
  apart b b' k k' x x' hb hb' hr hl := h.apart b b' k k' x x' (hlv b k hb (.inr hr)) (hlv b' k' hb' hl) hr hl

end Go.Abs
/- Reading and writing, in the model and in the abstract memory. -/
namespace Go.Abs
set_option linter.unusedVariables false
set_option linter.unusedSimpArgs false

section
variable {P : Program} {ρ : RM} {w : World}

theorem add_at (b o n : Nat) : (⟨b, o, none⟩ : Addr).add n = ⟨b, o + n, none⟩ := by
  unfold Addr.add; split <;> simp_all

theorem cell_at {b o : Nat} {c : Array Value} {ty : TypeId} {fz : Nat × Nat} (h : w.heap[b]? = some (.cells c ty fz)) : w.cell? ⟨b, o, none⟩ = c[o]? := by
  simp [World.cell?, h]

/-- A row of abstract cells that lies in a block is read as values that stand for it. -/
theorem lies_load {l : List Sc} {b off : Nat} {c : Array Value} {ty : TypeId} {fz : Nat × Nat} (hb : w.heap[b]? = some (.cells c ty fz)) (hl : Lies ρ l c off) :
    ∃ vs, VSs ρ l vs ∧ ∀ w' : World, w'.heap = w.heap → (loadCells ⟨b, off, none⟩ l.length).run P w' = .ok vs.toArray w' := by
  let f : Nat → Value := fun j => (c[off + j]?).getD undef
  refine ⟨(List.range l.length).map f, VSs.of_get (by simp) fun i s hi => ?_, ?_⟩
  · obtain ⟨v, e, r⟩ := hl i s hi
    have hlt : i < l.length := by
      rcases Nat.lt_or_ge i l.length with h | h
      · exact h
      · rw [List.getElem?_eq_none h] at hi; cases hi
    exact ⟨v, by simp [f, hlt, e], r⟩
  · intro w' hw'
    refine run_loadCells w' _ _ f fun j hj => ?_
    rw [add_at, cell_at (by rw [hw']; exact hb)]
    obtain ⟨v, e, r⟩ := hl j l[j] (List.getElem?_eq_getElem hj)
    simp [f, e]

theorem rdK_get {l : List Sc} {i : Nat} {k : Kd} {s : Sc} (h : (rdK l i k).run = some s) : l[i]? = some s := by
  cases k <;> simp only [rdK, A.run, Option.bind_eq_some_iff, Option.some.injEq] at h <;> obtain ⟨n, h1, rfl⟩ := h
  · unfold intAt at h1; split at h1
    · rename_i k' n' e; split at h1
      · rename_i hk; subst hk; cases h1; exact e
      · cases h1
    · cases h1
  · unfold boolAt at h1; split at h1
    · rename_i e; cases h1; exact e
    · cases h1
  · unfold strAt at h1; split at h1
    · rename_i e; cases h1; exact e
    · cases h1
  · unfold slAt at h1; split at h1
    · rename_i e; cases h1; exact e
    · cases h1
  · unfold ptrAt at h1; split at h1
    · rename_i e; cases h1; exact e
    · cases h1
  · unfold fnAt at h1; split at h1
    · rename_i e; cases h1; exact e
    · cases h1

theorem rdKs_get {l : List Sc} : ∀ {ks : List Kd} {i : Nat} {r : List Sc}, (rdKs l i ks).run = some r → r.length = ks.length ∧ ∀ (j : Nat) (s : Sc), r[j]? = some s → l[i + j]? = some s
  | [], i, r, h => by simp only [rdKs, A.run, Option.some.injEq] at h; subst h; simp
  | k :: ks, i, r, h => by
    simp only [rdKs, A.run_bind, Option.bind_eq_some_iff, A.run, Option.some.injEq] at h
    obtain ⟨s, h1, r', h2, rfl⟩ := h
    obtain ⟨e, g⟩ := rdKs_get h2
    refine ⟨by simp [e], fun j s' hj => ?_⟩
    cases j with
    | zero => simp at hj; subst hj; exact rdK_get h1
    | succ j => simp at hj; have := g j s' hj; rwa [show i + (j + 1) = i + 1 + j by omega]

theorem info_of_under {t : TypeId} {d : TypeDesc} (h : P.underlying t = some d) : ∃ i, P.info? t = some i := by
  unfold Program.underlying at h
  cases e : P.info? t with
  | none => simp [e] at h
  | some i => exact ⟨i, rfl⟩

theorem run_sz {t : TypeId} {d : TypeDesc} (h : P.underlying t = some d) : (sizeOf t).run P w = .ok (tsz P t) w := by
  obtain ⟨i, hi⟩ := info_of_under h
  simp [sizeOf, typeInfo, hi, tsz]

theorem run_agg {t : TypeId} {d : TypeDesc} (h : P.underlying t = some d) : (isAgg t).run P w = .ok (isAggT P t) w := by
  unfold isAgg isAggT
  rw [Sem.run_bind, run_underlying h, Result.andThen_ok, h]
  cases d <;> rfl

/-- What the abstract reading of a type gives, as a list of cells. -/
theorem loadP_cells {t : TypeId} {cs : List Sc} {o : Nat} {p : PV} (h : (loadP P t cs o).run = some p) :
    ∃ d, P.underlying t = some d ∧ ((isAggT P t = false ∧ ∃ s, p = .sc s ∧ cs[o]? = some s) ∨
      (isAggT P t = true ∧ ∃ l, p = .agg l ∧ l.length = tsz P t ∧ ∀ (j : Nat) (s : Sc), l[j]? = some s → cs[o + j]? = some s)) := by
  unfold loadP at h
  unfold shape at h
  cases hu : P.underlying t with
  | none => simp [hu, kdOf, A.run] at h
  | some d =>
    refine ⟨d, rfl, ?_⟩
    cases d
    case struct fs =>
      right
      refine ⟨by simp [isAggT, hu], ?_⟩
      simp only [hu] at h
      cases hk : kinds P 6 t with
      | some ks =>
        simp only [hk, A.run] at h
        cases hb : Nat.beq ks.length (tsz P t) with
        | false => simp [hb] at h
        | true =>
          simp only [hb, cond_true, A.run_bind, Option.bind_eq_some_iff, A.run, Option.some.injEq] at h
          obtain ⟨l, h1, rfl⟩ := h
          obtain ⟨e, g⟩ := rdKs_get h1
          exact ⟨l, rfl, by rw [e]; exact Nat.eq_of_beq_eq_true hb, g⟩
      | none =>
        simp only [hk, A.run] at h
        cases hb : decide (o + tsz P t ≤ cs.length) with
        | false => simp [hb] at h
        | true =>
          simp only [hb, cond_true, Option.some.injEq] at h
          have hb' : o + tsz P t ≤ cs.length := by simpa using hb
          refine ⟨_, h.symm, by simp; omega, fun j s hj => ?_⟩
          rw [List.getElem?_take] at hj
          split at hj
          · simpa using hj
          · cases hj
    case array n e =>
      right
      refine ⟨by simp [isAggT, hu], ?_⟩
      simp only [hu, A.run] at h
      cases hb : decide (o + tsz P t ≤ cs.length) with
      | false => simp [hb] at h
      | true =>
        simp only [hb, cond_true, Option.some.injEq] at h
        have hb' : o + tsz P t ≤ cs.length := by simpa using hb
        refine ⟨_, h.symm, by simp; omega, fun j s hj => ?_⟩
        rw [List.getElem?_take] at hj
        split at hj
        · simpa using hj
        · cases hj
    all_goals
      simp only [hu, kdOf] at h
      first
        | (simp [A.run] at h; done)
        | (left
           refine ⟨by simp [isAggT, hu], ?_⟩
           simp only [A.run_bind, Option.bind_eq_some_iff, A.run, Option.some.injEq] at h
           obtain ⟨s, h1, rfl⟩ := h
           exact ⟨s, rfl, rdK_get h1⟩)

theorem loadP_sound {t : TypeId} {cs : List Sc} {o : Nat} {p : PV} (h : (loadP P t cs o).run = some p) {b off : Nat} {c : Array Value} {ty : TypeId} {fz : Nat × Nat}
    (hb : w.heap[b]? = some (.cells c ty fz)) (hl : Lies ρ cs c off) : ∃ v, (loadVar t ⟨b, off + o, none⟩).run P w = .ok v w ∧ VP ρ p v := by
  obtain ⟨d, hu, h⟩ := loadP_cells h
  unfold loadVar
  rw [Sem.run_bind, run_agg hu, Result.andThen_ok]
  rcases h with ⟨ha, s, rfl, hs⟩ | ⟨ha, l, rfl, hlen, hs⟩
  · obtain ⟨v, e, r⟩ := hl o s hs
    refine ⟨v, ?_, r⟩
    rw [ha]
    simp only [Bool.false_eq_true, if_false]
    rw [run_load, cell_at hb, e]
  · obtain ⟨vs, hv, hr⟩ := lies_load (P := P) (w := w) (l := l) (off := off + o) hb (fun i s hi => by
      obtain ⟨v, e, r⟩ := hl (o + i) s (hs i s hi)
      exact ⟨v, by rwa [Nat.add_assoc], r⟩)
    refine ⟨.agg vs.toArray, ?_, vs.toArray, rfl, by simpa using hv⟩
    rw [ha]
    simp only [if_true, Sem.run_bind, run_sz hu, Result.andThen_ok, ← hlen, hr w rfl, Sem.run_pure]

theorem part_sound {t : TypeId} {l : List Sc} {o : Nat} {p : PV} (h : (loadP P t l o).run = some p) {cs : Array Value} (hl : VSs ρ l cs.toList) :
    ∃ v, (part t cs o).run P w = .ok v w ∧ VP ρ p v := by
  obtain ⟨d, hu, h⟩ := loadP_cells h
  unfold part
  rw [Sem.run_bind, run_agg hu, Result.andThen_ok]
  rcases h with ⟨ha, s, rfl, hs⟩ | ⟨ha, l', rfl, hlen, hs⟩
  · obtain ⟨v, e, r⟩ := hl.get hs
    refine ⟨v, ?_, r⟩
    have e' : cs[o]? = some v := by simpa using e
    rw [ha]; simp [e']
  · refine ⟨.agg (cs.extract o (o + tsz P t)), by rw [ha]; simp [run_sz hu], _, rfl, ?_⟩
    have hle : tsz P t = 0 ∨ o + tsz P t ≤ cs.size := by
      rcases Nat.eq_zero_or_pos (tsz P t) with h0 | h0
      · exact .inl h0
      · right
        have h1 := hs (tsz P t - 1) (l'[tsz P t - 1]'(by omega)) (List.getElem?_eq_getElem (by omega))
        have h2 : l.length = cs.size := by have := VSs.length hl; simpa using this
        rcases Nat.lt_or_ge (o + (tsz P t - 1)) l.length with h3 | h3
        · omega
        · rw [List.getElem?_eq_none h3] at h1; cases h1
    refine VSs.of_get (by simp; omega) fun i s hi => ?_
    obtain ⟨v, e, r⟩ := hl.get (hs i s hi)
    have hi' : i < tsz P t := by
      rcases Nat.lt_or_ge i l'.length with h | h
      · omega
      · rw [List.getElem?_eq_none h] at hi; cases hi
    refine ⟨v, ?_, r⟩
    rw [Array.getElem?_toList] at e ⊢
    rw [Array.getElem?_extract]
    rw [if_pos (by omega)]
    exact e

/- ## Writing -/
theorem setAll_length (cs : List Sc) (o : Nat) (vs : List Sc) : (setAll cs o vs).length = cs.length := by
  induction vs generalizing cs o with
  | nil => rfl
  | cons v vs ih => simp [setAll, ih]

theorem setAll_get (cs : List Sc) (o : Nat) (vs : List Sc) (i : Nat) : (setAll cs o vs)[i]? = if o ≤ i ∧ i < o + vs.length ∧ i < cs.length then vs[i - o]? else cs[i]? := by
  induction vs generalizing cs o with
  | nil => simp [setAll]; omega
  | cons v vs ih =>
    rw [setAll, ih]
    simp only [List.length_set, List.length_cons]
    by_cases h1 : i = o
    · subst h1
      rw [if_neg (by omega)]
      by_cases h2 : i < cs.length
      · rw [if_pos (by omega)]; simp [h2]
      · rw [if_neg (by omega)]; simp [h2]
    · by_cases h2 : o + 1 ≤ i ∧ i < o + 1 + vs.length ∧ i < cs.length
      · rw [if_pos h2, if_pos (by omega)]
        rw [show i - o = (i - (o + 1)) + 1 by omega]; rfl
      · rw [if_neg h2]
        by_cases h3 : o ≤ i ∧ i < o + (vs.length + 1) ∧ i < cs.length
        · omega
        · rw [if_neg h3]; simp [Ne.symm h1]

/-- The concrete row behind a store. -/
def wrote (c : Array Value) (o : Nat) (ws : List Value) : Array Value := (c.toList.take o ++ ws ++ c.toList.drop (o + ws.length)).toArray
theorem wrote_size {c : Array Value} {o : Nat} {ws : List Value} (h : o + ws.length ≤ c.size) : (wrote c o ws).size = c.size := by
  simp [wrote]; omega
theorem wrote_get {c : Array Value} {o : Nat} {ws : List Value} (h : o + ws.length ≤ c.size) (i : Nat) : (wrote c o ws)[i]? = if o ≤ i ∧ i < o + ws.length then ws[i - o]? else c[i]? := by
  simp only [wrote, List.getElem?_toArray, List.append_assoc, List.getElem?_append, List.length_take, Array.length_toList]
  have hm : min o c.size = o := by omega
  rw [hm]
  by_cases h1 : i < o
  · rw [if_pos h1, if_neg (by omega)]; simp [h1]
  · rw [if_neg h1]
    by_cases h2 : i - o < ws.length
    · rw [if_pos h2, if_pos (by omega)]
    · rw [if_neg h2, if_neg (by omega)]
      simp only [List.getElem?_drop, Array.getElem?_toList]
      congr 1; omega

theorem lies_wrote {cs vs : List Sc} {c : Array Value} {ws : List Value} {off o : Nat} (hl : Lies ρ cs c off) (hv : VSs ρ vs ws) (ho : o + vs.length ≤ cs.length) (hc : off + o + ws.length ≤ c.size) :
    Lies ρ (setAll cs o vs) (wrote c (off + o) ws) off := by
  intro i s hi
  have hlen := hv.length
  rw [setAll_get] at hi
  rw [wrote_get hc]
  split at hi
  · rename_i h
    obtain ⟨v, e, r⟩ := hv.get hi
    exact ⟨v, by rw [if_pos (by omega), show off + i - (off + o) = i - o by omega]; exact e, r⟩
  · rename_i h
    obtain ⟨v, e, r⟩ := hl i s hi
    refine ⟨v, ?_, r⟩
    have hi' : i < cs.length := by
      rcases Nat.lt_or_ge i cs.length with h | h
      · exact h
      · rw [List.getElem?_eq_none h] at hi; cases hi
    rw [if_neg (by omega)]; exact e

theorem store_cells {b o : Nat} {c : Array Value} {ty : TypeId} {ws : List Value} (hb : w.heap[b]? = some (.cells c ty (0, 0))) (h : o + ws.length ≤ c.size) (h1 : ∀ v ∈ ws, v.oneCell' = true) :
    (storeCells ⟨b, o, none⟩ ws).run P w = .ok () (w.setRow b (wrote c o ws)) := by
  have := run_storeCells_at (P := P) b o ty ws 0 c w hb (by omega) h1
  simpa [wrote] using this

end
end Go.Abs
/- The abstract memory's steps, each against the model's. -/
namespace Go.Abs
set_option linter.unusedVariables false
set_option linter.unusedSimpArgs false

section
variable {P : Program} {ρ : RM} {μ : MM} {L : LM} {H : AH} {w : World}

theorem live_rw {k : Blk} (h : k.st = .rw) : live k := .inr h

theorem putR_nil {H : AH} {b o : Nat} : putR H b o [] = some H := rfl
theorem putR_some {H H' : AH} {b o : Nat} {vs : List Sc} (h : putR H b o vs = some H') :
    (vs = [] ∧ H' = H) ∨ ∃ k, H[b]? = some k ∧ k.st = .rw ∧ o + vs.length ≤ k.cells.length ∧ H' = H.set b { k with cells := setAll k.cells o vs } := by
  cases vs with
  | nil => left; simp [putR] at h; exact ⟨rfl, h.symm⟩
  | cons v vs =>
    right
    simp only [putR, Option.bind_eq_some_iff] at h
    obtain ⟨k, hk, h⟩ := h
    split at h
    · rename_i e
      split at h
      · rename_i hl; cases h; exact ⟨k, hk, e, hl, rfl⟩
      · cases h
    · cases h

theorem set_get_ne {H : AH} {b i : Nat} {x : Blk} (h : i ≠ b) : (H.set b x)[i]? = H[i]? := by
  simp [Ne.symm h]
theorem set_get_self {H : AH} {b : Nat} {x k : Blk} (h : H[b]? = some k) : (H.set b x)[b]? = some x := by
  have : b < H.length := by
    rcases Nat.lt_or_ge b H.length with h' | h'
    · exact h'
    · rw [List.getElem?_eq_none h'] at h; cases h
  simp [this]

/-- A store into the heap. -/
theorem putR_sound (hH : RH ρ H w) (hL : RL ρ μ L H w) {b o : Nat} {vs : List Sc} {H' : AH} (h : putR H b o vs = some H') {ws : List Value} (hv : VSs ρ vs ws) :
    ∃ w', (∀ bs, (vs = [] ∨ ρ b = some bs) → (storeCells ⟨bs.blk, bs.off + o, none⟩ ws).run P w = .ok () w') ∧ RH ρ H' w' ∧ RL ρ μ L H' w' ∧ Evo ρ μ L H w ρ μ L H' w' := by
  rcases putR_some h with ⟨rfl, rfl⟩ | ⟨k, hk, hr, ho, rfl⟩
  · cases hv
    exact ⟨w, fun bs _ => rfl, hH, hL, Evo.refl ..⟩
  · obtain ⟨bs, c, ty, fz, h1, h2, h3, h4, h5, h6, h7, h8⟩ := hH.blk b k hk (live_rw hr)
    have hfz := h8 hr
    subst hfz
    have hlen := hv.length
    have hfit : bs.off + o + ws.length ≤ c.size := by omega
    have hon := Only.setRow w bs.blk (wrote c (bs.off + o) ws)
    have hself : (w.setRow bs.blk (wrote c (bs.off + o) ws)).heap[bs.blk]? = some (.cells (wrote c (bs.off + o) ws) ty (0, 0)) := setRow_heap w bs.blk _ _ _ _ h2
    have hl := lies_wrote h7 hv ho hfit
    refine ⟨w.setRow bs.blk (wrote c (bs.off + o) ws), fun bs' hb' => ?_, ?_, ?_, ?_⟩
    · rcases hb' with rfl | hb'
      · cases hv
        simp only [storeCells, Sem.run_pure]
        congr 1
        have hz : wrote c (bs.off + o) [] = c := by simp [wrote]
        rw [hz, setRow_self w bs.blk c ty (0, 0) h2]
      · rw [h1] at hb'; cases hb'
        exact store_cells h2 hfit hv.one
    · refine ⟨fun b' bs' e => by rw [List.length_set]; exact hH.dom b' bs' e, fun b' k' hb' hk' => ?_, fun b' k' hb' hl' => ?_, fun b1 b2 k1 k2 x1 x2 e1 e2 r1 l2 hne f1 f2 => ?_⟩
      · by_cases e : b' = b
        · subst e; rw [set_get_self hk] at hb'; cases hb'; rw [hr] at hk'; cases hk'
        · rw [set_get_ne e] at hb'; exact hH.res b' k' hb' hk'
      · by_cases e : b' = b
        · subst e; rw [set_get_self hk] at hb'; cases hb'
          exact ⟨bs, _, ty, (0, 0), h1, hself, h3, h4, by simp only [setAll_length]; exact h5, by rw [wrote_size hfit]; exact h6, hl, fun _ => rfl⟩
        · rw [set_get_ne e] at hb'
          obtain ⟨bs', c', ty', fz', g1, g2, r⟩ := hH.blk b' k' hb' hl'
          have hne : bs'.blk ≠ bs.blk := Ne.symm (hH.apart b b' k k' bs bs' hk hb' hr hl' (Ne.symm e) h1 g1)
          exact ⟨bs', c', ty', fz', g1, by rw [hon.blk _ hne]; exact g2, r⟩
      · have f : ∀ (i : Nat) (x : Blk), (H.set b { k with cells := setAll k.cells o vs })[i]? = some x → ∃ y, H[i]? = some y ∧ y.st = x.st := fun i x hx => by
          by_cases e : i = b
          · subst e; rw [set_get_self hk] at hx; cases hx; exact ⟨k, hk, rfl⟩
          · rw [set_get_ne e] at hx; exact ⟨x, hx, rfl⟩
        obtain ⟨y1, g1, s1⟩ := f b1 k1 e1
        obtain ⟨y2, g2, s2⟩ := f b2 k2 e2
        exact hH.apart b1 b2 y1 y2 x1 x2 g1 g2 (by rw [s1]; exact r1) (by unfold live; rw [s2]; exact l2) hne f1 f2
    · have hL' := hL.world (w' := w.setRow bs.blk (wrote c (bs.off + o) ws)) fun t c' k' ht hm => hon.blk _ (Ne.symm (hL.apart t c' k' b k bs ht hm hk (live_rw hr) h1))
      refine ⟨hL'.blk, fun t c' k' b' kk bs' ht hm hb' hl' e => ?_, hL'.inj⟩
      by_cases he : b' = b
      · subst he; rw [h1] at e; cases e; exact hL.apart t c' k' b' k bs ht hm hk (live_rw hr) h1
      · rw [set_get_ne he] at hb'; exact hL.apart t c' k' b' kk bs' ht hm hb' hl' e
    · have f : ∀ (i : Nat) (x : Blk), (H.set b { k with cells := setAll k.cells o vs })[i]? = some x → ∃ y, H[i]? = some y ∧ y.st = x.st := fun i x hx => by
        by_cases e : i = b
        · subst e; rw [set_get_self hk] at hx; cases hx; exact ⟨k, hk, rfl⟩
        · rw [set_get_ne e] at hx; exact ⟨x, hx, rfl⟩
      refine ⟨Nat.le_of_eq hon.size.symm, hon.os, hon.tape, hon.output, fun n hn hnr hnl => hon.blk n fun e => hnr ⟨b, k, bs, hk, hr, h1, e.symm⟩, by simp, fun _ _ _ => rfl, fun i x hi hx e => ?_, fun n hn => ?_, fun i x hx e => ?_, fun t ht => ⟨ht, rfl⟩, fun n hn => .inr hn, fun t k h1 h2 => by rw [h2] at h1; cases h1⟩
      · obtain ⟨y, g, s⟩ := f i x hx; exact ⟨y, g, by rw [s]; exact e⟩
      · obtain ⟨i, x, bs', hx, e, g, r⟩ := hn
        obtain ⟨y, g', s⟩ := f i x hx
        exact .inr ⟨i, y, bs', g', by rw [s]; exact e, g, r⟩
      · by_cases he : i = b
        · subst he; rw [set_get_self hk] at hx; cases hx; rw [hr] at e; cases e
        · rwa [set_get_ne he] at hx

/-- A new block. -/
theorem fresh_sound (hH : RH ρ H w) (hL : RL ρ μ L H w) {w' : World} {c : Array Value} {ty : TypeId} (g : Grew w w' (.cells c ty)) {i : Nat} {H' : AH} {kb : Blk}
    (hi : i = H.length ∨ ∃ k, H[i]? = some k ∧ k.st = .res) (hget : H'[i]? = some kb) (hoth : ∀ (b : Nat), b ≠ i → H'[b]? = H[b]?) (hlen : H.length ≤ H'.length) (hil : i < H'.length)
    (hst : kb.st = .rw) (hz1 : 1 ≤ kb.z) (hsz : kb.cells.length ≤ c.size) (hl : Lies ρ kb.cells c 0) :
    RH (updR ρ i (some ⟨w.heap.size, 0, c.size, kb.z⟩)) H' w' ∧ RL (updR ρ i (some ⟨w.heap.size, 0, c.size, kb.z⟩)) μ L H' w' ∧ Evo ρ μ L H w (updR ρ i (some ⟨w.heap.size, 0, c.size, kb.z⟩)) μ L H' w' := by
  have hi0 : ρ i = none := by
    rcases hi with rfl | ⟨k, h1, h2⟩
    · exact hH.none_len (Nat.le_refl _)
    · exact hH.res i k h1 h2
  have hH' : RH ρ H w' := hH.world fun b k bs hb hlv e => g.old _ (hH.lt hb hlv e)
  have hL' : RL ρ μ L H w' := hL.world fun t c k ht e => g.old _ (hL.lt ht e)
  have hHn := hH'.place (bs := ⟨w.heap.size, 0, c.size, kb.z⟩) (c := c) (ty := ty) hi0 hget hoth hlen hil hst g.new rfl hz1 hsz (by simp) hl (fun b k bs' hne hb hlv e => Nat.ne_of_lt (hH.lt hb hlv e))
  refine ⟨hHn, ?_, ?_⟩
  · refine hL'.heap (.upd hi0) fun t c' k b kk bs ht hm hb hlv e => ?_
    have hk := hL.lt ht hm
    by_cases hbi : b = i
    · subst hbi; rw [updR_self] at e; cases e; exact Ne.symm (Nat.ne_of_lt hk)
    · rw [updR_ne hbi] at e; rw [hoth b hbi] at hb; exact hL.apart t c' k b kk bs ht hm hb hlv e
  · refine ⟨by rw [g.size]; omega, g.os, g.tape, g.output, fun n hn _ _ => g.old n hn, hlen, fun b hb hr => ?_, fun b k hb hk e => ?_, fun n hn => ?_, fun b k hb e => ?_, fun t ht => ⟨ht, rfl⟩, fun n hn => .inr hn, fun t k h1 h2 => by rw [h2] at h1; cases h1⟩
    · have : b ≠ i := by
        rintro rfl
        rcases hi with rfl | ⟨k, h1, h2⟩
        · omega
        · exact hr k h1 h2
      exact updR_ne this
    · by_cases hbi : b = i
      · subst hbi; rw [hget] at hk; cases hk; rw [hst] at e; cases e
      · rw [hoth b hbi] at hk; exact ⟨k, hk, e⟩
    · obtain ⟨b, k, bs, hb, e, h1, rfl⟩ := hn
      by_cases hbi : b = i
      · subst hbi; rw [updR_self] at h1; cases h1; exact .inl (Nat.le_refl _)
      · rw [updR_ne hbi] at h1; rw [hoth b hbi] at hb; exact .inr ⟨b, k, bs, hb, e, h1, rfl⟩
    · by_cases hbi : b = i
      · subst hbi; rw [hget] at hb; cases hb; rw [hst] at e; cases e
      · rwa [hoth b hbi] at hb

theorem push_get {H : AH} {x : Blk} : (H ++ [x])[H.length]? = some x := by simp
theorem push_ne {H : AH} {x : Blk} {b : Nat} (h : b ≠ H.length) : (H ++ [x])[b]? = H[b]? := by
  rcases Nat.lt_or_ge b H.length with h' | h'
  · simp [List.getElem?_append_left h']
  · rw [List.getElem?_append_right h', List.getElem?_eq_none h', List.getElem?_eq_none]
    simp; omega

theorem rng_some {H : AH} {b o m : Nat} {l : List Sc} (h : rng H b o m = some l) :
    (m = 0 ∧ l = []) ∨ (m ≠ 0 ∧ ∃ k, H[b]? = some k ∧ live k ∧ o + m ≤ k.cells.length ∧ l = (k.cells.drop o).take m) := by
  unfold rng at h
  split at h
  · rename_i e; cases h; exact .inl ⟨e, rfl⟩
  · rename_i e
    right
    refine ⟨e, ?_⟩
    simp only [rdB, Option.bind_eq_some_iff] at h
    obtain ⟨cs, ⟨k, hk, h1⟩, h2⟩ := h
    split at h2
    · rename_i hl
      cases h2
      cases hs : k.st <;> simp [hs] at h1
      · subst h1; exact ⟨k, hk, .inl hs, hl, rfl⟩
      · subst h1; exact ⟨k, hk, .inr hs, hl, rfl⟩
    · cases h2

theorem rdB_some {H : AH} {b : Nat} {cs : List Sc} (h : rdB H b = some cs) : ∃ k, H[b]? = some k ∧ live k ∧ cs = k.cells := by
  simp only [rdB, Option.bind_eq_some_iff] at h
  obtain ⟨k, hk, h1⟩ := h
  cases hs : k.st <;> simp [hs] at h1
  · exact ⟨k, hk, .inl hs, h1.symm⟩
  · exact ⟨k, hk, .inr hs, h1.symm⟩

theorem Lies.sub {cs : List Sc} {c : Array Value} {off o m : Nat} (h : Lies ρ cs c off) : Lies ρ ((cs.drop o).take m) c (off + o) := fun i s hi => by
  rw [List.getElem?_take] at hi
  split at hi
  · rw [List.getElem?_drop] at hi
    obtain ⟨v, e, r⟩ := h (o + i) s hi
    exact ⟨v, by rwa [Nat.add_assoc], r⟩
  · cases hi

/-- A slice's elements, as append and copy read them. -/
theorem rng_sound (hH : RH ρ H w) {s : Sl} {A : Option Addr} {cap m z : Nat} (hs : VS ρ (.sl s) (.slice A s.n cap)) {l : List Sc} (h : rng H s.b s.o (m * z) = some l) (hm : m ≤ s.n) :
    l.length = m * z ∧ ∃ vs, VSs ρ l vs ∧ ∀ w' : World, w'.heap = w.heap → (Builtin.firstCells z m (.slice A s.n cap)).run P w' = .ok vs.toArray w' := by
  obtain ⟨A', cap', e, h1, h2, h3, h4⟩ := hs
  cases e
  rcases rng_some h with ⟨h0, rfl⟩ | ⟨h0, k, hk, hl, hlen, rfl⟩
  · refine ⟨by simp [h0], [], .nil, fun w' _ => ?_⟩
    cases A with
    | none => rfl
    | some a => simp [Builtin.firstCells, h0, loadCells, loadCellsFrom]
  · have hmz : m ≠ 0 := by rintro rfl; simp at h0
    rcases h4 with h4 | ⟨bs, e1, rfl, e2⟩
    · omega
    · obtain ⟨bs', c, ty, fz, g1, g2, g3, g4, g5, g6, g7, g8⟩ := hH.blk s.b k hk hl
      rw [e1] at g1; cases g1
      have hll : ((k.cells.drop s.o).take (m * z)).length = m * z := by simp; omega
      obtain ⟨vs, hv, hr⟩ := lies_load (P := P) (w := w) g2 (g7.sub (o := s.o) (m := m * z))
      refine ⟨hll, vs, hv, fun w' hw' => ?_⟩
      rw [hll] at hr
      simpa [Builtin.firstCells] using hr w' hw'

/-- The heap without a block. -/
theorem kill_get (H : AH) (b i : Nat) : (killB H b)[i]? = if i = b then (H[i]?).map (fun k => { k with st := .dead }) else H[i]? := by
  simp only [killB, List.getElem?_modify]
  by_cases h : i = b
  · subst h; simp
  · simp [h, Ne.symm h]
theorem kill_len (H : AH) (b : Nat) : (killB H b).length = H.length := by simp [killB]

theorem kill_RH (hH : RH ρ H w) (b : Nat) : RH ρ (killB H b) w := by
  refine hH.less (kill_len H b) (fun i k hk e => ?_) fun i k hk hl => ?_
  · rw [kill_get] at hk
    split at hk
    · cases h : H[i]? with
      | none => simp [h] at hk
      | some x => simp [h] at hk; subst hk; cases e
    · exact ⟨k, hk, e⟩
  · rw [kill_get] at hk
    split at hk
    · cases h : H[i]? with
      | none => simp [h] at hk
      | some x => simp [h] at hk; subst hk; rcases hl with hl | hl <;> cases hl
    · exact hk
theorem kill_live {b i : Nat} {k : Blk} (h : (killB H b)[i]? = some k) (hl : live k) : i ≠ b ∧ H[i]? = some k := by
  rw [kill_get] at h
  split at h
  · cases h' : H[i]? with
    | none => simp [h'] at h
    | some x => simp [h'] at h; subst h; rcases hl with hl | hl <;> cases hl
  · exact ⟨‹_›, h⟩
theorem kill_RL (hL : RL ρ μ L H w) (b : Nat) : RL ρ μ L (killB H b) w :=
  ⟨hL.blk, fun t c k i kk bs ht hm hi hl e => hL.apart t c k i kk bs ht hm (kill_live hi hl).2 hl e, hL.inj⟩
theorem kill_Evo (b : Nat) (hb : ∀ k, H[b]? = some k → k.st ≠ .res) : Evo ρ μ L H w ρ μ L (killB H b) w :=
  ⟨Nat.le_refl _, rfl, rfl, rfl, fun _ _ _ _ => rfl, by rw [kill_len]; exact Nat.le_refl _, fun _ _ _ => rfl, fun i k hi hk e => by
    rw [kill_get] at hk
    split at hk
    · cases h' : H[i]? with
      | none => simp [h'] at hk
      | some x => simp [h'] at hk; subst hk; cases e
    · exact ⟨k, hk, e⟩, fun n ⟨i, k, bs, hk, e, r⟩ => .inr ⟨i, k, bs, (kill_live hk (.inr e)).2, e, r⟩, fun i k hk e => (kill_live hk (.inl e)).2, fun t ht => ⟨ht, rfl⟩, fun n hn => .inr hn, fun t k h1 h2 => by rw [h2] at h1; cases h1⟩
end
end Go.Abs
/- append, make, copy, clear. -/
namespace Go.Abs
set_option linter.unusedVariables false
set_option linter.unusedSimpArgs false

section
variable {P : Program} {ρ : RM} {μ : MM} {L : LM} {H : AH} {w : World}

theorem growBy_le (n : Nat) : ∀ (r c : Nat), c ≤ 2 * n + 192 → Builtin.growBy n r c ≤ 2 * n + 192
  | 0, c, h => h
  | r + 1, c, h => by
    unfold Builtin.growBy
    split
    · exact h
    · exact growBy_le n r _ (by omega)
theorem nextslicecap_le {need cap : Nat} (h : cap < need) : Builtin.nextslicecap need cap ≤ 2 * need + 192 := by
  unfold Builtin.nextslicecap
  split
  · omega
  · split
    · omega
    · exact growBy_le need 4 cap (by omega)

theorem run_pure_andThen {α β : Type} (a : α) (f : α → Sem β) : ((Pure.pure a : Sem α) >>= f).run P w = (f a).run P w := by simp

/-- What an append comes to where the source has been read: the parts of the model's text that do not look at memory. -/
theorem run_append_in {sT xT ty e : TypeId} {base : Option Addr} {sLen sCap : Nat} {x : Value} {m : Nat} {vs : List Value} {w' : World}
    (hu : P.underlying sT = some (.slice e)) (hx : ∃ ex, P.underlying xT = some (.slice ex)) (hi : ∃ i, P.info? e = some i)
    (hlen : (Builtin.lenOf x).run P w = .ok m w) (hsrc : (Builtin.firstCells (tsz P e) m x).run P w = .ok vs.toArray w) (hle : sLen + m ≤ sCap)
    (hst : (match base with | some a => storeCells (a.add (sLen * tsz P e)) vs | none => pure ()).run P w = .ok () w') :
    (Builtin.append_ #[sT, xT] ty #[.slice base sLen sCap, x]).run P w = .ok (.slice base (sLen + m) sCap) w' := by
  obtain ⟨ex, hx⟩ := hx
  obtain ⟨i, hi⟩ := hi
  have hsz : tsz P e = i.size := by simp [tsz, hi]
  unfold Builtin.append_
  simp only [List.getElem?_toArray, List.getElem?_cons_zero, List.getElem?_cons_succ]
  simp only [Sem.run_bind, run_underlying hu, run_underlying hx, Result.andThen_ok, sizeOf, typeInfo, run_program, hi, Sem.run_pure, ← hsz, hlen, Bool.false_eq_true, if_false, Bool.not_false, if_true, hle]
  rw [hsrc, Result.andThen_ok]
  cases base with
  | none => simp at hst; subst hst; rfl
  | some a => simp only at hst; simp [hst]

theorem VSs.size {l : List Sc} {c : Array Value} (h : VSs ρ l c.toList) : l.length = c.size := by have := VSs.length h; simpa using this

theorem scOf_VS {v : Value} {s : Sc} (h : scOf v = some s) : VS ρ s v := by
  unfold scOf at h
  split at h <;> first | (cases h; done) | (cases h; exact rfl) | (cases h; exact ⟨none, 0, rfl, Nat.le_refl _, Nat.le_refl _, fun _ => rfl, .inl rfl⟩)
theorem scsOf_VSs : ∀ {vs : List Value} {l : List Sc}, scsOf vs = some l → VSs ρ l vs
  | [], l, h => by simp [scsOf] at h; subst h; exact .nil
  | v :: vs, l, h => by
    unfold scsOf at h
    split at h
    · rename_i a b ha hb; cases h; exact .cons (scOf_VS ha) (scsOf_VSs hb)
    · cases h
theorem zeroC_cells {t : TypeId} {l : List Sc} (h : zeroC P t = some l) {i : TypeInfo} (hi : P.info? t = some i) {z : Value} (hz : i.zero = some z) : VSs ρ l z.cells.toList ∧ l.length = tsz P t := by
  simp only [zeroC, hi, Option.bind_some, hz, Option.bind_eq_some_iff] at h
  obtain ⟨l', h1, h2⟩ := h
  cases hb : Nat.beq l'.length (tsz P t) <;> simp only [hb, cond_false, cond_true] at h2
  · cases h2
  · cases h2; exact ⟨scsOf_VSs h1, Nat.eq_of_beq_eq_true hb⟩
theorem zeroC_info {t : TypeId} {l : List Sc} (h : zeroC P t = some l) : ∃ i z, P.info? t = some i ∧ i.zero = some z := by
  unfold zeroC at h
  cases hi : P.info? t with
  | none => simp [hi] at h
  | some i =>
    cases hz : i.zero with
    | none => simp [hi, hz] at h
    | some z => exact ⟨i, z, rfl, hz⟩
/-- The zero value of a type, in the model. -/
theorem run_zero {t : TypeId} {l : List Sc} (h : zeroC P t = some l) : ∃ z, (zeroValue t).run P w = .ok z w ∧ VSs ρ l z.cells.toList ∧ l.length = tsz P t ∧ z.cells.size = tsz P t := by
  obtain ⟨i, z, hi, hz⟩ := zeroC_info h
  obtain ⟨h1, h2⟩ := zeroC_cells (ρ := ρ) h hi hz
  refine ⟨z, by simp [zeroValue, typeInfo, hi, hz], h1, h2, ?_⟩
  have := VSs.size h1
  omega

theorem zeroCells_size (zero : Array Value) (n : Nat) : (Builtin.zeroCells zero n).size = n * zero.size := by simp [Builtin.zeroCells]

theorem run_append_new {sT xT ty e : TypeId} {base : Option Addr} {sLen sCap : Nat} {x : Value} {m : Nat} {vs olds : List Value}
    (hu : P.underlying sT = some (.slice e)) (hx : ∃ ex, P.underlying xT = some (.slice ex)) {zr : List Sc} (hz : zeroC P e = some zr)
    (hlen : (Builtin.lenOf x).run P w = .ok m w)
    (hsrc : ∀ w', w'.heap = w.heap → (Builtin.firstCells (tsz P e) m x).run P w' = .ok vs.toArray w')
    (hold : ∀ w', w'.heap = w.heap → (Builtin.firstCells (tsz P e) sLen (.slice base sLen sCap)).run P w' = .ok olds.toArray w')
    (hle : sCap < sLen + m) (hby : tby P e ≠ 0) (hmost : (sLen + m) * tby P e ≤ most) :
    ∃ newCap rest w', sLen + m ≤ newCap ∧ rest.length = (newCap - (sLen + m)) * tsz P e ∧ Grew w w' (.cells (olds ++ vs ++ rest).toArray e) ∧
      (Builtin.append_ #[sT, xT] ty #[.slice base sLen sCap, x]).run P w = .ok (.slice (some ⟨w.heap.size, 0, none⟩) (sLen + m) newCap) w' := by
  obtain ⟨ex, hx⟩ := hx
  obtain ⟨i, z, hi, hzero⟩ := zeroC_info hz
  · ·
      have hsz : tsz P e = i.size := by simp [tsz, hi]
      have hbz : tby P e = i.bytes := by simp [tby, hi]
      have hzz : z.cells.size = tsz P e := by
        have := VSs.size (zeroC_cells (ρ := fun _ => none) hz hi hzero).1
        have := (zeroC_cells (ρ := fun _ => none) hz hi hzero).2
        omega
      rw [hbz] at hby hmost
      let newCap := Question.cut (.appendCap (sLen + m) sCap e) (w.tape w.drawn (.appendCap (sLen + m) sCap e))
      have hcap : sLen + m ≤ newCap := by simp only [newCap, Question.cut]; omega
      have hneed : sLen + m ≤ most := by
        have : (sLen + m) * 1 ≤ (sLen + m) * i.bytes := Nat.mul_le_mul_left _ (Nat.one_le_iff_ne_zero.2 hby)
        omega
      have hbytes : i.bytes ≤ most := by
        have : 1 * i.bytes ≤ (sLen + m) * i.bytes := Nat.mul_le_mul_right _ (by omega)
        omega
      have hnext : ¬ (Builtin.nextslicecap (sLen + m) sCap * i.bytes > 2 ^ 48) := by
        have h1 := Nat.mul_le_mul_right i.bytes (nextslicecap_le hle)
        have h2 : (2 * (sLen + m) + 192) * i.bytes = 2 * ((sLen + m) * i.bytes) + 192 * i.bytes := by rw [Nat.add_mul, Nat.mul_assoc]
        have h3 : most = 1099511627776 := rfl
        omega
      have hmax : ¬ (((sLen + m : Nat) : Int) > IntKind.i64.max) := by
        have h3 : most = 1099511627776 := rfl
        have : IntKind.i64.max = 9223372036854775807 := by decide
        omega
      refine ⟨newCap, (Builtin.zeroCells z.cells (newCap - (sLen + m))).toList, _, hcap, by rw [Array.length_toList, zeroCells_size, hzz], Grew.drew w _, ?_⟩
      unfold Builtin.append_
      simp only [List.getElem?_toArray, List.getElem?_cons_zero, List.getElem?_cons_succ]
      simp only [Sem.run_bind, run_underlying hu, run_underlying hx, Result.andThen_ok, sizeOf, typeInfo, run_program, hi, Sem.run_pure, ← hsz, hlen, Bool.false_eq_true, if_false, Bool.not_false, if_true, Nat.not_le.2 hle, zeroValue]
      simp only [Sem.run_ite, Sem.run_bind, run_program, Result.andThen_ok, hi, Sem.run_pure, hmax, false_and, if_false, hnext, run_askRoom]
      have hch : (choose (Question.appendCap (sLen + m) sCap e)).run P w = .ok newCap { w with drawn := w.drawn + 1 } := by simp [choose, Sem.run, Question.forced, newCap]
      rw [hch, Result.andThen_ok, hold { w with drawn := w.drawn + 1 } rfl, Result.andThen_ok, hsrc { w with drawn := w.drawn + 1 } rfl, Result.andThen_ok, hzero]
      have harr : (olds ++ vs).toArray ++ Builtin.zeroCells z.cells (newCap - (sLen + m)) = (olds ++ (vs ++ (Builtin.zeroCells z.cells (newCap - (sLen + m))).toList)).toArray := by apply Array.ext'; simp
      simp [newRow]
      rw [harr]
      rfl

theorem append_old {A : Option Addr} {sLen cap z : Nat} {vs : List Value} (h : ∀ w' : World, w'.heap = w.heap → (Builtin.firstCells z sLen (.slice A sLen cap)).run P w' = .ok vs.toArray w') :
    ∀ w' : World, w'.heap = w.heap → (Builtin.firstCells z sLen (.slice A sLen cap)).run P w' = .ok vs.toArray w' := h

theorem RH.heap {w' : World} (h : RH ρ H w) (e : w'.heap = w.heap) : RH ρ H w' := h.world fun _ _ _ _ _ _ => by rw [e]
theorem RL.heap' {w' : World} (h : RL ρ μ L H w) (e : w'.heap = w.heap) : RL ρ μ L H w' := h.world fun _ _ _ _ _ => by rw [e]

theorem kill_rw {b : Nat} {k : Blk} (hk : H[b]? = some k) (hr : k.st = .rw) : ∀ k', H[b]? = some k' → k'.st ≠ .res := fun k' h e => by rw [hk] at h; cases h; rw [hr] at e; cases e

/-- Only the abstract block that a slice lies in goes on, under a new name: the old one is dead. -/
theorem take_over (hH : RH ρ H w) (hL : RL ρ μ L H w) {b : Nat} {k : Blk} {bs : Bs} {c : Array Value} {ty : TypeId} (hk : H[b]? = some k) (hr : k.st = .rw) (e1 : ρ b = some bs)
    (hb : w.heap[bs.blk]? = some (.cells c ty (0, 0))) (hz1 : 1 ≤ bs.z) (hsz : bs.off + bs.ext ≤ c.size) {o : Nat} (ho : o ≤ bs.ext) {ws : List Value} {at_ : Nat} (hat : bs.off + at_ + ws.length ≤ c.size) {cs : List Sc} (hcs : cs.length ≤ bs.ext - o)
    (hl : Lies ρ cs (wrote c (bs.off + at_) ws) (bs.off + o)) (hone : ∀ v ∈ ws, v.oneCell' = true) :
    ∃ w' ρ', (storeCells ⟨bs.blk, bs.off + at_, none⟩ ws).run P w = .ok () w' ∧ ρ' H.length = some ⟨bs.blk, bs.off + o, bs.ext - o, bs.z⟩ ∧ RH ρ' (killB H b ++ [⟨cs, .rw, bs.z⟩]) w' ∧ RL ρ' μ L (killB H b ++ [⟨cs, .rw, bs.z⟩]) w' ∧
      Evo ρ μ L H w ρ' μ L (killB H b ++ [⟨cs, .rw, bs.z⟩]) w' := by
  have hon := Only.setRow w bs.blk (wrote c (bs.off + at_) ws)
  have hself : (w.setRow bs.blk (wrote c (bs.off + at_) ws)).heap[bs.blk]? = some (.cells (wrote c (bs.off + at_) ws) ty (0, 0)) := setRow_heap w bs.blk _ _ _ _ hb
  have hkl : (killB H b).length = H.length := kill_len H b
  have hnone : ρ H.length = none := hH.none_len (Nat.le_refl _)
  have hHk : RH ρ (killB H b) (w.setRow bs.blk (wrote c (bs.off + at_) ws)) := (kill_RH hH b).world fun i k' bs' hi hl' e => by
    obtain ⟨hne, hi'⟩ := kill_live hi hl'
    exact hon.blk _ (Ne.symm (hH.apart b i k k' bs bs' hk hi' hr hl' (Ne.symm hne) e1 e))
  refine ⟨_, updR ρ H.length (some ⟨bs.blk, bs.off + o, bs.ext - o, bs.z⟩), store_cells hb hat hone, updR_self, ?_, ?_, ?_⟩
  · refine hHk.place (i := H.length) (kb := ⟨cs, .rw, bs.z⟩) (bs := ⟨bs.blk, bs.off + o, bs.ext - o, bs.z⟩) hnone (by rw [← hkl]; exact push_get) (fun i hi => push_ne (by rw [hkl]; exact hi)) (by simp) (by simp [hkl]) rfl hself rfl hz1 hcs ?_ hl ?_
    · rw [wrote_size hat]; simp only; omega
    · intro i k' bs' hne hi hl' e
      obtain ⟨hne', hi'⟩ := kill_live hi hl'
      exact Ne.symm (hH.apart b i k k' bs bs' hk hi' hr hl' (Ne.symm hne') e1 e)
  · have hL' : RL ρ μ L (killB H b) (w.setRow bs.blk (wrote c (bs.off + at_) ws)) := (kill_RL hL b).world fun t c' k' ht hm => hon.blk _ (Ne.symm (hL.apart t c' k' b k bs ht hm hk (live_rw hr) e1))
    refine hL'.heap (.upd hnone) fun t c' k' i kk bs' ht hm hi hl' e => ?_
    by_cases hil : i = H.length
    · subst hil; rw [updR_self] at e; cases e
      exact hL.apart t c' k' b k bs ht hm hk (live_rw hr) e1
    · rw [updR_ne hil] at e
      rw [push_ne (by rw [hkl]; exact hil)] at hi
      exact hL'.apart t c' k' i kk bs' ht hm hi hl' e
  · refine ⟨Nat.le_of_eq hon.size.symm, hon.os, hon.tape, hon.output, fun n hn hnr hnl => hon.blk n fun e => hnr ⟨b, k, bs, hk, hr, e1, e.symm⟩, by simp [hkl], fun i hi _ => updR_ne (Nat.ne_of_lt hi), fun i k' hi hk' e => ?_, fun n hn => ?_, fun i k' hi e => ?_, fun t ht => ⟨ht, rfl⟩, fun n hn => .inr hn, fun t k h1 h2 => by rw [h2] at h1; cases h1⟩
    · rw [push_ne (by rw [hkl]; exact Nat.ne_of_lt hi)] at hk'
      exact (kill_Evo (ρ := ρ) (μ := μ) (L := L) (w := w) b (kill_rw hk hr)).nres i k' hi hk' e
    · obtain ⟨i, k', bs', hi, e, h1, rfl⟩ := hn
      by_cases hil : i = H.length
      · subst hil; rw [updR_self] at h1; cases h1; exact .inr ⟨b, k, bs, hk, hr, e1, rfl⟩
      · rw [updR_ne hil] at h1; rw [push_ne (by rw [hkl]; exact hil)] at hi
        exact .inr ⟨i, k', bs', (kill_live hi (.inr e)).2, e, h1, rfl⟩
    · by_cases hil : i = H.length
      · subst hil; rw [← hkl, push_get] at hi; cases hi; cases e
      · rw [push_ne (by rw [hkl]; exact hil)] at hi
        exact (kill_live hi (.inl e)).2
end
end Go.Abs
/- append, make, copy, clear: the abstract memory's against the model's. -/
namespace Go.Abs
set_option linter.unusedVariables false
set_option linter.unusedSimpArgs false

section
variable {P : Program} {ρ : RM} {μ : MM} {L : LM} {H : AH} {w : World}

theorem Lies.of_VSs_app {a : List Sc} {vs rest : List Value} (h : VSs ρ a vs) : Lies ρ a (vs ++ rest).toArray 0 := fun i s hi => by
  obtain ⟨v, e, r⟩ := VSs.get h hi
  have hl : i < vs.length := by
    rcases Nat.lt_or_ge i vs.length with h | h
    · exact h
    · rw [List.getElem?_eq_none h] at e; cases e
  exact ⟨v, by simp only [Nat.zero_add, List.getElem?_toArray, List.getElem?_append_left hl]; exact e, r⟩

/-- A new slice over a new block at the heap's end. -/
theorem new_slice (hH : RH ρ H w) (hL : RL ρ μ L H w) {w' : World} {vs rest : List Value} {ty : TypeId} {cells : List Sc} {z n cap : Nat} (x : Bool) (hv : VSs ρ cells vs) (g : Grew w w' (.cells (vs ++ rest).toArray ty))
    (hz : 1 ≤ z) (hcap : cap * z ≤ (vs ++ rest).length) (hn : n ≤ cap) {c : Nat} (hnc : n ≤ c) (hcc : c ≤ cap) (hx : x = true → cap = c) :
    ∃ ρ', VS ρ' (.sl ⟨H.length, 0, n, c, x⟩) (.slice (some ⟨w.heap.size, 0, none⟩) n cap) ∧ RH ρ' (H ++ [⟨cells, .rw, z⟩]) w' ∧ RL ρ' μ L (H ++ [⟨cells, .rw, z⟩]) w' ∧ Evo ρ μ L H w ρ' μ L (H ++ [⟨cells, .rw, z⟩]) w' := by
  obtain ⟨h1, h2, h3⟩ := fresh_sound hH hL g (i := H.length) (kb := ⟨cells, .rw, z⟩) (.inl rfl) push_get (fun b hb => push_ne hb) (by simp) (by simp) rfl hz (by have := VSs.length hv; simp; omega) (Lies.of_VSs_app hv)
  refine ⟨_, ⟨some ⟨w.heap.size, 0, none⟩, cap, rfl, hnc, hcc, hx, .inr ⟨_, updR_self, rfl, ?_, hz⟩⟩, h1, h2, h3⟩
  simp only [Nat.zero_add, List.size_toArray]
  exact hcap

theorem rwB_some {b z : Nat} {cs : List Sc} (h : rwB H b z = some cs) : ∃ k, H[b]? = some k ∧ k.st = .rw ∧ k.z = z := by
  simp only [rwB, Option.bind_eq_some_iff] at h
  obtain ⟨k, hk, h1⟩ := h
  cases hs : k.st <;> simp [hs] at h1
  exact ⟨k, hk, hs, h1.1⟩

theorem appB_sound (hH : RH ρ H w) (hL : RL ρ μ L H w) {s : Sl} {A : Option Addr} {cap : Nat} (hs : VS ρ (.sl s) (.slice A s.n cap)) {e sT xT ty : TypeId} (hu : P.underlying sT = some (.slice e))
    (hxt : ∃ ex, P.underlying xT = some (.slice ex)) {zr : List Sc} (hzr : zeroC P e = some zr) {src : List Sc} {vs : List Value} {m : Nat} {x : Value} (hv : VSs ρ src vs) (hm : src.length = m * tsz P e)
    (hlen : (Builtin.lenOf x).run P w = .ok m w) (hsrc : ∀ w', w'.heap = w.heap → (Builtin.firstCells (tsz P e) m x).run P w' = .ok vs.toArray w') {s' : Sl} {H' : AH}
    (h : appB H (tsz P e) (tby P e) s src m = some (s', H')) :
    ∃ v w' ρ', (Builtin.append_ #[sT, xT] ty #[.slice A s.n cap, x]).run P w = .ok v w' ∧ VS ρ' (.sl s') v ∧ RH ρ' H' w' ∧ RL ρ' μ L H' w' ∧ Evo ρ μ L H w ρ' μ L H' w' := by
  have hvl := VSs.length hv
  have hs0 := hs
  obtain ⟨A', cap', e0, h1, h2, h3, h4⟩ := hs0
  cases e0
  unfold appB at h
  split at h
  · rename_i hle
    simp only [Option.map_eq_some_iff, Prod.mk.injEq] at h
    obtain ⟨H1, hp, rfl, rfl⟩ := h
    obtain ⟨w', hst, hH', hL', hE⟩ := putR_sound (P := P) hH hL hp hv
    refine ⟨_, w', ρ, run_append_in (w' := w') hu hxt (let ⟨i, _, h, _⟩ := zeroC_info hzr; ⟨i, h⟩) hlen (hsrc w rfl) (by omega) ?_, ⟨A, cap, rfl, hle, h2, h3, h4⟩, hH', hL', hE⟩
    rcases h4 with h4 | ⟨bs, e1, rfl, e2⟩
    · have hm0 : m = 0 := by omega
      have : vs = [] := by rw [hm0, Nat.zero_mul] at hm; exact List.length_eq_zero_iff.1 (by omega)
      subst this
      have hsrc0 : src = [] := List.length_eq_zero_iff.1 (by simpa using hvl)
      have := hst ⟨0, 0, 0, 0⟩ (.inl hsrc0)
      simp only [storeCells, Sem.run_pure] at this
      cases A with
      | none => simpa using this
      | some a => simpa [storeCells] using this
    · have := hst bs (.inr e1)
      simp only [add_at]
      rw [show bs.off + s.o + s.n * tsz P e = bs.off + (s.o + s.n * tsz P e) by omega]
      exact this
  · rename_i hgt
    split at h
    · rename_i hb
      obtain ⟨hz0, hby, hmost⟩ := hb
      simp only [Option.bind_eq_some_iff] at h
      obtain ⟨old, hold, h⟩ := h
      have hnew : cap < s.n + m → ∃ newCap rest w' olds, VSs ρ old olds ∧ s.n + m ≤ newCap ∧ rest.length = (newCap - (s.n + m)) * tsz P e ∧ Grew w w' (.cells ((olds ++ vs) ++ rest).toArray e) ∧ old.length = s.n * tsz P e ∧
          (Builtin.append_ #[sT, xT] ty #[.slice A s.n cap, x]).run P w = .ok (.slice (some ⟨w.heap.size, 0, none⟩) (s.n + m) newCap) w' := fun hc => by
        obtain ⟨hol, olds, hv1, hr1⟩ := rng_sound (P := P) hH hs hold (Nat.le_refl _)
        obtain ⟨nc, rest, w', a1, a2, a3, a4⟩ := run_append_new (P := P) (w := w) (ty := ty) hu hxt hzr hlen hsrc hr1 hc hby hmost
        exact ⟨nc, rest, w', olds, hv1, a1, a2, a3, hol, a4⟩
      have hz1 : 1 ≤ tsz P e := Nat.one_le_iff_ne_zero.2 hz0
      have fin : ∀ {H1 : AH} (hH1 : RH ρ H1 w) (hL1 : RL ρ μ L H1 w) (hE1 : Evo ρ μ L H w ρ μ L H1 w), H1.length = H.length → cap < s.n + m →
          ∃ v w' ρ', (Builtin.append_ #[sT, xT] ty #[.slice A s.n cap, x]).run P w = .ok v w' ∧ VS ρ' (.sl ⟨H.length, 0, s.n + m, s.n + m, false⟩) v ∧ RH ρ' (H1 ++ [⟨old ++ src, .rw, tsz P e⟩]) w' ∧
            RL ρ' μ L (H1 ++ [⟨old ++ src, .rw, tsz P e⟩]) w' ∧ Evo ρ μ L H w ρ' μ L (H1 ++ [⟨old ++ src, .rw, tsz P e⟩]) w' := by
        intro H1 hH1 hL1 hE1 hlen1 hc
        obtain ⟨nc, rest, w', olds, hv1, a1, a2, a3, a4, a5⟩ := hnew hc
        have hol := VSs.length hv1
        obtain ⟨ρ', b1, b2, b3, b4⟩ := new_slice (z := tsz P e) (n := s.n + m) (cap := nc) (c := s.n + m) hH1 hL1 false (hv1.append hv) a3 hz1 (by
          simp only [List.length_append]
          rw [a2, ← hol, ← hvl, a4, hm, ← Nat.add_mul, ← Nat.add_mul]
          exact Nat.le_of_eq (by congr 1; omega)) a1 (Nat.le_refl _) a1 (by simp)
        exact ⟨_, w', ρ', a5, by rw [← hlen1]; exact b1, b2, b3, hE1.trans b4⟩
      cases hx : s.x with
      | true =>
        simp only [hx, Option.some.injEq, Prod.mk.injEq] at h
        obtain ⟨rfl, rfl⟩ := h
        exact fin hH hL (Evo.refl ..) rfl (by have := h3 hx; omega)
      | false =>
        simp only [hx, Option.bind_eq_some_iff, Option.some.injEq, Prod.mk.injEq] at h
        obtain ⟨cs, hrw, rfl, rfl⟩ := h
        obtain ⟨k, hk, hr, hkz⟩ := rwB_some hrw
        rcases Nat.lt_or_ge cap (s.n + m) with hc | hc
        · exact fin (kill_RH hH s.b) (kill_RL hL s.b) (kill_Evo s.b (kill_rw hk hr)) (kill_len H s.b) hc
        · obtain ⟨bs, c, ty', fz, g1, g2, g3, g4, g5, g6, g7, g8⟩ := hH.blk s.b k hk (live_rw hr)
          have hfz := g8 hr
          subst hfz
          rcases h4 with h4 | ⟨bs', e1, rfl, e2⟩
          · omega
          rw [g1] at e1; cases e1
          have hzz : bs.z = tsz P e := g3.trans hkz
          obtain ⟨hol, olds, hv1, hr1⟩ := rng_sound (P := P) hH hs hold (Nat.le_refl _)
          have hmul : (s.n + m) * tsz P e ≤ cap * tsz P e := Nat.mul_le_mul_right _ hc
          rw [Nat.add_mul] at hmul
          replace e2 := e2.1
          rw [hzz] at e2
          have hfit : bs.off + (s.o + s.n * tsz P e) + vs.length ≤ c.size := by omega
          obtain ⟨w', ρ', q1, q2, q3, q4, q5⟩ := take_over (P := P) hH hL hk hr g1 g2 g4 g6 (o := s.o) (by omega) (ws := vs) (at_ := s.o + s.n * tsz P e) hfit (cs := old ++ src) (by simp; omega) (by
            intro i sc hi
            rw [wrote_get hfit]
            rcases Nat.lt_or_ge i old.length with hio | hio
            · rw [List.getElem?_append_left hio] at hi
              rcases rng_some hold with ⟨_, rfl⟩ | ⟨_, k', hk', hl', hle', rfl⟩
              · simp at hio
              · rw [hk] at hk'; cases hk'
                obtain ⟨v, e3, r⟩ := g7.sub (o := s.o) (m := s.n * tsz P e) i sc hi
                exact ⟨v, by rw [if_neg (by omega)]; exact e3, r⟩
            · rw [List.getElem?_append_right hio] at hi
              obtain ⟨v, e3, r⟩ := hv.get hi
              have hiv : i - old.length < vs.length := by
                rcases Nat.lt_or_ge (i - old.length) vs.length with h | h
                · exact h
                · rw [List.getElem?_eq_none h] at e3; cases e3
              exact ⟨v, by rw [if_pos (by omega), show bs.off + s.o + i - (bs.off + (s.o + s.n * tsz P e)) = i - old.length by omega]; exact e3, r⟩) hv.one
          refine ⟨_, w', ρ', run_append_in (w' := w') hu hxt (let ⟨i, _, h, _⟩ := zeroC_info hzr; ⟨i, h⟩) hlen (hsrc w rfl) hc ?_, ⟨_, cap, rfl, Nat.le_refl _, hc, by simp, .inr ⟨_, q2, by simp, ?_, g4⟩⟩, ?_, ?_, ?_⟩
          · simp only [add_at]
            rw [show bs.off + s.o + s.n * tsz P e = bs.off + (s.o + s.n * tsz P e) by omega]
            exact q1
          · simp only [Nat.zero_add]; rw [hzz]; omega
          · rw [← hzz]; exact q3
          · rw [← hzz]; exact q4
          · rw [← hzz]; exact q5
    · cases h
end
end Go.Abs
/- make, copy, clear, struct and slice literals: the abstract against the model's. -/
namespace Go.Abs
set_option linter.unusedVariables false
set_option linter.unusedSimpArgs false

section
variable {P : Program} {ρ : RM} {μ : MM} {L : LM} {H : AH} {w : World}

theorem flat_get (z : List Sc) : ∀ (c i : Nat), i < c * z.length → ((List.replicate c z).flatten)[i]? = z[i % z.length]?
  | 0, i, h => by simp at h
  | c + 1, i, h => by
    rw [List.replicate_succ, List.flatten_cons]
    rcases Nat.lt_or_ge i z.length with h1 | h1
    · rw [List.getElem?_append_left h1, Nat.mod_eq_of_lt h1]
    · rw [List.getElem?_append_right h1, flat_get z c (i - z.length) (by rw [Nat.add_mul] at h; omega), Nat.mod_eq_sub_mod h1]
theorem flat_len (z : List Sc) (c : Nat) : ((List.replicate c z).flatten).length = c * z.length := by simp

/-- The cells of a row that is made. -/
theorem zeros_VSs {zr : List Sc} {zero : Array Value} (h : VSs ρ zr zero.toList) (c : Nat) :
    VSs ρ (List.replicate c zr).flatten ((Array.range (c * zero.size)).map (zero[· % zero.size]!)).toList := by
  have hs := VSs.size h
  refine VSs.of_get (by simp [hs]) fun i s hi => ?_
  have hil : i < c * zr.length := by
    rcases Nat.lt_or_ge i (c * zr.length) with h | h
    · exact h
    · rw [List.getElem?_eq_none (by rw [flat_len]; exact h)] at hi; cases hi
  rw [flat_get zr c i hil] at hi
  obtain ⟨v, e, r⟩ := VSs.get h hi
  refine ⟨v, ?_, r⟩
  rw [hs] at hil
  rw [Array.getElem?_toList] at e
  rw [hs] at e
  have hne : i % zero.size < zero.size := by
    rcases Nat.lt_or_ge (i % zero.size) zero.size with h | h
    · exact h
    · rw [Array.getElem?_eq_none h] at e; cases e
  have e2 : zero[i % zero.size]! = v := by
    rw [getElem!_pos zero (i % zero.size) hne]
    rw [Array.getElem?_eq_getElem hne] at e
    exact Option.some.inj e
  simp [hil, e2]

theorem zeroCells_VSs {zr : List Sc} {zero : Array Value} (h : VSs ρ zr zero.toList) (c : Nat) : VSs ρ (List.replicate c zr).flatten (Builtin.zeroCells zero c).toList := zeros_VSs h c

theorem wrap_small {n : Int} (h0 : 0 ≤ n) (h1 : n ≤ most) : IntKind.i64.wrap n = n := by
  have h3 : (most : Int) = 1099511627776 := rfl
  simp [IntKind.wrap, IntKind.bits, IntKind.signed]
  omega

theorem run_make {t e : TypeId} {kl kc : IntKind} {l c : Int} {zr : List Sc} (hu : P.underlying t = some (.slice e)) (hz : zeroC P e = some zr) (hz1 : tsz P e ≠ 0) (hby : tby P e ≠ 0) (h0 : 0 ≤ l) (h1 : l ≤ c) (h2 : c * tby P e ≤ most) :
    ∃ vs w', VSs ρ (List.replicate c.toNat zr).flatten vs ∧ vs.length = c.toNat * tsz P e ∧ Grew w w' (.cells (vs ++ []).toArray e) ∧
      (Instr.makeSlice t (.int kl l) (.int kc c)).run P w = .ok (.slice (some ⟨w.heap.size, 0, none⟩) l.toNat c.toNat) w' := by
  obtain ⟨i, hi⟩ : ∃ i, P.info? e = some i := let ⟨i, _, h, _⟩ := zeroC_info hz; ⟨i, h⟩
  obtain ⟨z, hz2, hv, hzl, hzs⟩ := run_zero (ρ := ρ) (w := w) hz
  have hbz : tby P e = i.bytes := by simp [tby, hi]
  have hsz : tsz P e = i.size := by simp [tsz, hi]
  have hm : (most : Int) = 1099511627776 := rfl
  have hb1 : (1 : Int) ≤ i.bytes := by rw [hbz] at hby; omega
  rw [hbz] at h2
  have hc : c ≤ most := by
    have : c * 1 ≤ c * i.bytes := Int.mul_le_mul_of_nonneg_left hb1 (by omega)
    omega
  have hwl := wrap_small h0 (by omega : l ≤ most)
  have hwc := wrap_small (by omega : 0 ≤ c) hc
  let vs := ((Array.range (c.toNat * i.size)).map (z.cells[· % z.cells.size]!)).toList
  have hvs : VSs ρ (List.replicate c.toNat zr).flatten vs := by
    have := zeros_VSs hv c.toNat
    rw [hzs, hsz] at this
    simp only [vs, hzs, hsz]
    exact this
  refine ⟨vs, _, hvs, by simp [vs, hsz], by rw [List.append_nil]; exact Grew.alloc w _, ?_⟩
  have hn1 : ¬ ((i.bytes : Int) * c > 2 ^ 48) := by rw [Int.mul_comm]; omega
  have hn2 : ¬ (l > c) := by omega
  have hn3 : ¬ (c < 0) := by omega
  have hn4 : ¬ (l < 0) := by omega
  have hn0 : c.toNat * i.size = 0 → z.cells.size = 0 ∨ c.toNat = 0 := fun h => by rcases Nat.mul_eq_zero.1 h with h | h; exact .inr h; exact .inl (by omega)
  unfold Instr.makeSlice
  simp only [Sem.run_bind, run_underlying hu, Result.andThen_ok, Go.asInt, Go.asIntOf, Sem.run_pure, typeInfo, run_program, hi, hwl, hwc, sizeOf, run_askRoom]
  simp only [hn1, hn2, hn3, hn4, decide_false, Bool.or_self, Bool.or_false, Bool.false_or, Bool.false_eq_true, if_false, or_self, false_or, or_false]
  simp only [Sem.run_bind, run_askRoom, Result.andThen_ok, run_program, hi, Sem.run_pure]
  by_cases hn : c.toNat * i.size = 0
  · simp only [hn, if_true, Sem.run_pure, Result.andThen_ok, newRow, Sem.run_bind, run_newObj]
    simp [vs, hn]
    congr 2
    apply Array.ext'
    simp
  · simp only [hn, if_false, Sem.run_bind, hz2, Result.andThen_ok, Sem.run_pure, newRow, run_newObj]
    simp [vs]
    congr 2
    apply Array.ext'
    simp

theorem mkB_sound (hH : RH ρ H w) (hL : RL ρ μ L H w) {t e : TypeId} {kl kc : IntKind} {l c : Int} {zr : List Sc} (hu : P.underlying t = some (.slice e)) (hz : zeroC P e = some zr) {s : Sl} {H' : AH}
    (h : mkB H (tsz P e) (tby P e) zr l c = some (s, H')) :
    ∃ v w' ρ', (Instr.makeSlice t (.int kl l) (.int kc c)).run P w = .ok v w' ∧ VS ρ' (.sl s) v ∧ RH ρ' H' w' ∧ RL ρ' μ L H' w' ∧ Evo ρ μ L H w ρ' μ L H' w' := by
  unfold mkB at h
  split at h
  · rename_i hc
    obtain ⟨h1, h2, h3, h4, h5⟩ := hc
    cases h
    obtain ⟨vs, w', hv, hvl, g, hr⟩ := run_make (P := P) (ρ := ρ) (w := w) (kl := kl) (kc := kc) hu hz h1 h2 h3 h4 h5
    obtain ⟨ρ', b1, b2, b3, b4⟩ := new_slice (z := tsz P e) (n := l.toNat) (cap := c.toNat) (c := c.toNat) hH hL true hv g (by omega) (by simp; omega) (by omega) (by omega) (Nat.le_refl _) (fun _ => rfl)
    exact ⟨_, w', ρ', hr, b1, b2, b3, b4⟩
  · cases h

theorem isRes_some {i : Nat} (h : isRes H i = true) : ∃ k, H[i]? = some k ∧ k.st = .res ∧ i < H.length := by
  unfold isRes at h
  cases hk : H[i]? with
  | none => simp [hk] at h
  | some k =>
    simp [hk] at h
    refine ⟨k, rfl, h, ?_⟩
    rcases Nat.lt_or_ge i H.length with h' | h'
    · exact h'
    · rw [List.getElem?_eq_none h'] at hk; cases hk

/-- A new slice at a place that was kept. -/
theorem new_slice_at (hH : RH ρ H w) (hL : RL ρ μ L H w) {w' : World} {vs : List Value} {ty : TypeId} {cells : List Sc} {i z n cap : Nat} (hv : VSs ρ cells vs) (g : Grew w w' (.cells (vs ++ []).toArray ty)) (hi : isRes H i = true)
    (hz : 1 ≤ z) (hcap : cap * z ≤ vs.length) (hn : n ≤ cap) :
    ∃ ρ', VS ρ' (.sl ⟨i, 0, n, cap, true⟩) (.slice (some ⟨w.heap.size, 0, none⟩) n cap) ∧ VS ρ' (.hp i 0) (.pointer (some ⟨w.heap.size, 0, none⟩)) ∧ RH ρ' (H.set i ⟨cells, .rw, z⟩) w' ∧ RL ρ' μ L (H.set i ⟨cells, .rw, z⟩) w' ∧ Evo ρ μ L H w ρ' μ L (H.set i ⟨cells, .rw, z⟩) w' := by
  obtain ⟨k, hk, hr, hl⟩ := isRes_some hi
  obtain ⟨h1, h2, h3⟩ := fresh_sound hH hL g (i := i) (kb := ⟨cells, .rw, z⟩) (H' := H.set i ⟨cells, .rw, z⟩) (.inr ⟨k, hk, hr⟩) (set_get_self hk) (fun b hb => set_get_ne hb) (by simp) (by simpa using hl) rfl hz (by have := VSs.length hv; simp; omega) (Lies.of_VSs_app hv)
  refine ⟨_, ⟨some ⟨w.heap.size, 0, none⟩, cap, rfl, hn, Nat.le_refl _, fun _ => rfl, .inr ⟨_, updR_self, rfl, ?_, hz⟩⟩, ⟨_, updR_self, rfl⟩, h1, h2, h3⟩
  simp; exact hcap

theorem mkAt_sound (hH : RH ρ H w) (hL : RL ρ μ L H w) {t e : TypeId} {kl kc : IntKind} {l c : Int} {zr : List Sc} (hu : P.underlying t = some (.slice e)) (hz : zeroC P e = some zr) {i : Nat} {s : Sl} {H' : AH}
    (h : mkAt H i (tsz P e) (tby P e) zr l c = some (s, H')) :
    ∃ v w' ρ', (Instr.makeSlice t (.int kl l) (.int kc c)).run P w = .ok v w' ∧ VS ρ' (.sl s) v ∧ RH ρ' H' w' ∧ RL ρ' μ L H' w' ∧ Evo ρ μ L H w ρ' μ L H' w' := by
  unfold mkAt at h
  split at h
  · rename_i hc
    obtain ⟨h0, h1, h2, h3, h4, h5⟩ := hc
    cases h
    obtain ⟨vs, w', hv, hvl, g, hr⟩ := run_make (P := P) (ρ := ρ) (w := w) (kl := kl) (kc := kc) hu hz h1 h2 h3 h4 h5
    obtain ⟨ρ', b1, _, b2, b3, b4⟩ := new_slice_at (z := tsz P e) (n := l.toNat) (cap := c.toNat) hH hL hv g h0 (by omega) (by omega) (by omega)
    exact ⟨_, w', ρ', hr, b1, b2, b3, b4⟩
  · cases h

/-- A new block for a variable or a literal, at the end or at a place that was kept. -/
theorem freshM_sound (hH : RH ρ H w) (hL : RL ρ μ L H w) {fid : Option Nat} {z : Nat} {cs : List Sc} {r : Nat × AH} (h : (freshM H fid z cs).run = some r) {w' : World} {vs : List Value} {ty : TypeId} (hv : VSs ρ cs vs) (g : Grew w w' (.cells vs.toArray ty)) :
    ∃ ρ', (∀ n, n * z ≤ vs.length → VS ρ' (.sl ⟨r.1, 0, n, n, true⟩) (.slice (some ⟨w.heap.size, 0, none⟩) n n)) ∧ VS ρ' (.hp r.1 0) (.pointer (some ⟨w.heap.size, 0, none⟩)) ∧ RH ρ' r.2 w' ∧ RL ρ' μ L r.2 w' ∧ Evo ρ μ L H w ρ' μ L r.2 w' := by
  cases fid with
  | none =>
    simp only [freshM, A.run, Option.bind_eq_some_iff, Option.some.injEq] at h
    obtain ⟨x, h, rfl⟩ := h
    unfold newB at h
    split at h
    · cases h
    · rename_i hz
      cases h
      obtain ⟨h1, h2, h3⟩ := fresh_sound hH hL g (i := H.length) (kb := ⟨cs, .rw, z⟩) (.inl rfl) push_get (fun b hb => push_ne hb) (by simp) (by simp) rfl (by simp; omega) (by have := VSs.length hv; simp; omega) (Lies.of_VSs hv)
      refine ⟨_, fun n hn => ⟨some ⟨w.heap.size, 0, none⟩, n, rfl, Nat.le_refl _, Nat.le_refl _, fun _ => rfl, .inr ⟨_, updR_self, rfl, ?_, by simp; omega⟩⟩, ⟨_, updR_self, rfl⟩, h1, h2, h3⟩
      simp; exact hn
  | some i =>
    simp only [freshM, A.run, Option.bind_eq_some_iff, Option.some.injEq] at h
    obtain ⟨x, h, rfl⟩ := h
    unfold newAt at h
    split at h
    · rename_i hz
      cases h
      obtain ⟨k, hk, hr, hl⟩ := isRes_some hz.1
      obtain ⟨h1, h2, h3⟩ := fresh_sound hH hL g (i := i) (kb := ⟨cs, .rw, z⟩) (H' := H.set i ⟨cs, .rw, z⟩) (.inr ⟨k, hk, hr⟩) (set_get_self hk) (fun b hb => set_get_ne hb) (by simp) (by simpa using hl) rfl (by simp; omega) (by have := VSs.length hv; simp; omega) (Lies.of_VSs hv)
      refine ⟨_, fun n hn => ⟨some ⟨w.heap.size, 0, none⟩, n, rfl, Nat.le_refl _, Nat.le_refl _, fun _ => rfl, .inr ⟨_, updR_self, rfl, ?_, by simp; omega⟩⟩, ⟨_, updR_self, rfl⟩, h1, h2, h3⟩
      simp; exact hn
    · cases h

/- ## copy, clear -/
theorem slice_store (hH : RH ρ H w) (hL : RL ρ μ L H w) {s : Sl} {A : Option Addr} {cap : Nat} (hs : VS ρ (.sl s) (.slice A s.n cap)) {cs : List Sc} {vs : List Value} (hv : VSs ρ cs vs) (hn : s.n = 0 → cs = []) {H' : AH} (h : putR H s.b s.o cs = some H') :
    ∃ w', (∀ a, A = some a → (storeCells a vs).run P w = .ok () w') ∧ (A = none → w' = w) ∧ RH ρ H' w' ∧ RL ρ μ L H' w' ∧ Evo ρ μ L H w ρ μ L H' w' := by
  obtain ⟨A', cap', e0, h1, h2, h3, h4⟩ := hs
  cases e0
  obtain ⟨w', hst, a, b, c⟩ := putR_sound (P := P) hH hL h hv
  rcases h4 with h4 | ⟨bs, e1, rfl, e2⟩
  · have hc0 := hn (by omega)
    subst hc0
    cases hv
    simp [putR] at h
    subst h
    exact ⟨w, fun a _ => rfl, fun _ => rfl, hH, hL, Evo.refl ..⟩
  · exact ⟨w', (fun a ha => by cases ha; exact hst bs (.inr e1)), (fun h => by cases h), a, b, c⟩

theorem cpB_sound (hH : RH ρ H w) (hL : RL ρ μ L H w) {d s : Sl} {A B : Option Addr} {cd cs : Nat} (hd : VS ρ (.sl d) (.slice A d.n cd)) (hs : VS ρ (.sl s) (.slice B s.n cs)) {dT sT ty e : TypeId} (hu : P.underlying dT = some (.slice e)) (hinfo : P.info? e ≠ none) {r : Int × AH}
    (h : cpB H (tsz P e) d s = some r) : ∃ w', (Builtin.copy_ #[dT, sT] ty #[.slice A d.n cd, .slice B s.n cs]).run P w = .ok (.int .i64 r.1) w' ∧ RH ρ r.2 w' ∧ RL ρ μ L r.2 w' ∧ Evo ρ μ L H w ρ μ L r.2 w' := by
  simp only [cpB, Option.bind_eq_some_iff, Option.map_eq_some_iff] at h
  obtain ⟨l, h1, H', h2, rfl⟩ := h
  obtain ⟨hl, vs, hv, hr⟩ := rng_sound (P := P) hH hs h1 (Nat.min_le_left _ _)
  obtain ⟨w', g1, g2, g3, g4, g5⟩ := slice_store (P := P) hH hL hd hv (fun h0 => List.length_eq_zero_iff.1 (by rw [hl, h0]; simp)) h2
  refine ⟨w', ?_, g3, g4, g5⟩
  obtain ⟨i, hi⟩ : ∃ i, P.info? dT = some i := info_of_under hu
  unfold Builtin.copy_
  simp only [List.getElem?_toArray, List.getElem?_cons_zero, List.getElem?_cons_succ]
  simp only [Sem.run_bind, run_underlying hu, Result.andThen_ok, Builtin.lenOf, Sem.run_pure, sizeOf, typeInfo, run_program]
  obtain ⟨ie, hie⟩ : ∃ i, P.info? e = some i := by
    cases he : P.info? e with
    | some i => exact ⟨i, rfl⟩
    | none => exact absurd he hinfo
  have hsz : tsz P e = ie.size := by simp [tsz, hie]
  have hr' := hr w rfl
  rw [hsz] at hr'
  have hmin : Nat.min s.n d.n = min s.n d.n := rfl
  simp only [hie, Sem.run_bind, Sem.run_pure, Result.andThen_ok, hmin, hr']
  cases A with
  | none => rw [g2 rfl]; simp [goInt]
  | some a => simp only [Sem.run_bind]; rw [g1 a rfl]; simp [goInt]

theorem clrB_sound (hH : RH ρ H w) (hL : RL ρ μ L H w) {s : Sl} {A : Option Addr} {cap : Nat} (hs : VS ρ (.sl s) (.slice A s.n cap)) {t ty e : TypeId} (hu : P.underlying t = some (.slice e)) {zr : List Sc} (hz : zeroC P e = some zr) {H' : AH}
    (h : clrB H s zr = some H') : ∃ w', (Builtin.clear_ #[t] ty #[.slice A s.n cap]).run P w = .ok (.tuple #[]) w' ∧ RH ρ H' w' ∧ RL ρ μ L H' w' ∧ Evo ρ μ L H w ρ μ L H' w' := by
  unfold clrB at h
  obtain ⟨z, hz2, hv, hzl, hzs⟩ := run_zero (ρ := ρ) (w := w) hz
  have hzz := zeroCells_VSs hv s.n
  obtain ⟨w', g1, g2, g3, g4, g5⟩ := slice_store (P := P) hH hL hs hzz (fun h0 => by rw [h0]; rfl) h
  refine ⟨w', ?_, g3, g4, g5⟩
  unfold Builtin.clear_
  simp only [List.getElem?_toArray, List.getElem?_cons_zero]
  simp only [Sem.run_bind, run_underlying hu, Result.andThen_ok]
  cases A with
  | none => rw [g2 rfl]; simp
  | some a =>
    cases hn : s.n with
    | zero =>
      have := g1 a rfl
      rw [hn] at this
      have h0 : (Builtin.zeroCells z.cells 0).toList = [] := by simp [Builtin.zeroCells]
      rw [h0] at this
      simp only [storeCells, Sem.run_pure, Result.ok.injEq, true_and] at this
      simp [this]
    | succ n =>
      simp only [Sem.run_bind, hz2, Result.andThen_ok]
      rw [← hn, g1 a rfl]
      simp
end
end Go.Abs
/- Literals: the parts laid into the zero cells. -/
namespace Go.Abs
set_option linter.unusedVariables false
set_option linter.unusedSimpArgs false

section
variable {P : Program} {ρ : RM} {μ : MM} {w : World}

theorem getO_run {α : Type} {o : Option α} {a : α} (h : (getO o).run = some a) : o = some a := by
  cases o with
  | none => simp [getO, A.run] at h
  | some b => simpa [getO, A.run] using h
theorem ofOpt_run {α : Type} {o : Option α} {a : α} (h : (ofOpt o).run = some a) : o = some a := by
  cases o with
  | none => simp [ofOpt, A.run] at h
  | some b => simpa [ofOpt, A.run] using h
theorem asPV_run {x : AV} {p : PV} (h : (asPV x).run = some p) : x = .pv p := by
  cases x <;> simp [asPV, A.run] at h
  rw [h]
theorem asSc_run {x : AV} {s : Sc} (h : (asSc x).run = some s) : x = .pv (.sc s) := by
  unfold asSc at h; split at h <;> simp [A.run] at h; rw [h]
theorem asInt_run {x : AV} {n : Int} (h : (asInt x).run = some n) : ∃ k, x = .pv (.sc (.int k n)) := by
  unfold asInt at h; split at h <;> simp [A.run] at h; exact ⟨_, by rw [h]⟩
theorem asB_run {x : AV} {b : Bool} (h : (asB x).run = some b) : x = .pv (.sc (.bool b)) := by
  unfold asB at h; split at h <;> simp [A.run] at h; rw [h]
theorem asSl_run {x : AV} {s : Sl} (h : (asSl x).run = some s) : x = .pv (.sc (.sl s)) := by
  unfold asSl at h; split at h <;> simp [A.run] at h; rw [h]
theorem asPVs_run : ∀ {l : List AV} {ps : List PV}, (asPVs l).run = some ps → l = ps.map .pv
  | [], ps, h => by simp [asPVs, A.run] at h; subst h; rfl
  | a :: l, ps, h => by
    simp only [asPVs, A.run_bind, Option.bind_eq_some_iff, A.run, Option.some.injEq] at h
    obtain ⟨p, h1, ps', h2, rfl⟩ := h
    rw [asPV_run h1, asPVs_run h2]; rfl

def PartR (ρ : RM) (a : Nat × PV) (b : Nat × Value) : Prop := a.1 = b.1 ∧ VP ρ a.2 b.2

theorem partsM_run {e : Operand → AV} {f : Operand → Value} (hv : ∀ x, V ρ μ (e x) (f x)) : ∀ {l : List (Nat × Operand)} {ps : List (Nat × PV)}, (partsM e l).run = some ps → All2 (PartR ρ) ps (l.map fun x => (x.1, f x.2))
  | [], ps, h => by simp [partsM, A.run] at h; subst h; exact .nil
  | (i, x) :: l, ps, h => by
    simp only [partsM, A.run_bind, Option.bind_eq_some_iff, A.run, Option.some.injEq] at h
    obtain ⟨p, h1, ps', h2, rfl⟩ := h
    have := hv x
    rw [asPV_run h1] at this
    exact .cons ⟨rfl, this⟩ (partsM_run hv h2)

theorem VSs.set {l : List Sc} {c : List Value} (h : VSs ρ l c) (i : Nat) {s : Sc} {v : Value} (hs : VS ρ s v) : VSs ρ (l.set i s) (c.set i v) := by
  induction h generalizing i with
  | nil => exact .nil
  | cons a _ ih =>
    cases i with
    | zero => exact .cons hs ‹_›
    | succ i => exact .cons a (ih i)

theorem fold_set (off : Nat) : ∀ (vs : List Sc) (cs : List Value) (k : Nat) (l : List Sc) (c : Array Value), VSs ρ vs cs → VSs ρ l c.toList →
    VSs ρ (setAll l (off + k) vs) ((cs.zipIdx k).foldl (fun a (x, j) => a.setIfInBounds (off + j) x) c).toList
  | [], _, k, l, c, h, hl => by cases h; exact hl
  | v :: vs, _, k, l, c, h, hl => by
    cases h with
    | cons a t =>
      simp only [setAll, List.zipIdx_cons, List.foldl_cons]
      rw [show off + k + 1 = off + (k + 1) by omega]
      refine fold_set off vs _ (k + 1) _ _ t ?_
      rw [Array.toList_setIfInBounds]
      exact hl.set _ a

theorem fill_sound {place place' : Nat → Option (Nat × Nat)} (hp : ∀ i x, place i = some x → place' i = some x) : ∀ {ps : List (Nat × PV)} {vs : List (Nat × Value)} {cells : List Sc} {c : Array Value} {r : List Sc}, All2 (PartR ρ) ps vs → VSs ρ cells c.toList →
    fillC place cells ps = some r → ∃ r', Instr.fill place' c vs = some r' ∧ VSs ρ r r'.toList
  | [], _, cells, c, r, h, hc, hf => by cases h; simp [fillC] at hf; subst hf; exact ⟨c, rfl, hc⟩
  | (i, v) :: ps, _, cells, c, r, h, hc, hf => by
    cases h with
    | @cons _ b _ vs' a t =>
      obtain ⟨j, u⟩ := b
      obtain ⟨e0, hv⟩ := a
      dsimp only at e0 hv
      subst e0
      simp only [fillC] at hf
      cases hpl : place i with
      | none => simp [hpl] at hf
      | some x =>
        obtain ⟨off, size⟩ := x
        simp only [hpl] at hf
        split at hf
        · rename_i hb
          simp only [Bool.and_eq_true] at hb
          have h1 := Nat.eq_of_beq_eq_true hb.1
          have h2 := Nat.le_of_ble_eq_true hb.2
          have hvc := VP.cells hv
          have hvs := VSs.size hvc
          have hcs := VSs.size hc
          have hfold := fold_set (ρ := ρ) off v.cells u.cells.toList 0 cells c hvc hc
          obtain ⟨r', e1, e2⟩ := fill_sound hp t (c := u.cells.zipIdx.foldl (fun cs (x, j) => cs.setIfInBounds (off + j) x) c) (by
            rw [← Array.foldl_toList, Array.toList_zipIdx]; exact hfold) hf
          refine ⟨r', ?_, e2⟩
          simp only [Instr.fill, hp i _ hpl]
          rw [if_neg]
          · exact e1
          · simp only [ne_eq, Bool.or_eq_true, decide_eq_true_eq]
            omega
        · cases hf
end
end Go.Abs
/- One operation: what the abstract interpreter answers, the model does. -/
namespace Go.Abs
set_option linter.unusedVariables false
set_option linter.unusedSimpArgs false

structure Got (ρ : RM) (μ : MM) (L : LM) (H : AH) (w : World) (x : Fx) (ρ' : RM) (μ' : MM) (v : Value) (w' : World) : Prop where
  val : V ρ' μ' x.v v
  lp : ∀ t o, x.v = .lp t o → (x.L t).isSome = true
  rl : RL ρ' μ' x.L x.H w'
  rh : RH ρ' x.H w'
  evo : Evo ρ μ L H w ρ' μ' x.L x.H w'

/-- An operation hands a value back, in the frame that runs or by a call that returns. -/
def Does (P : Program) (o : Oper) (a : Act) (w : World) (R : Value → World → Prop) : Prop :=
  (∃ v w', (execOp a.eval o).run P w = .ok (.value v) w' ∧ R v w') ∨ (∃ w', (execOp a.eval o).run P w = .ok .skip w' ∧ R undef w') ∨
  ∃ f args w1, (execOp a.eval o).run P w = .ok (.enter f args) w1 ∧ Calls P f args w1 fun e w' => ∃ v, e = .returned v ∧ R v w'

theorem Does.wp {P : Program} {o : Oper} {a : Act} {w : World} {R : Value → World → Prop} (h : Does P o a w R) {next : Act → World → Prop} {Q : Exit → Act → World → Prop}
    (hk : ∀ v w', R v w' → next (a.put o.dst v) w') : o.wp P a w next Q := by
  unfold Oper.wp
  rcases h with ⟨v, w', e, r⟩ | ⟨w', e, r⟩ | ⟨f, args, w1, e, r⟩
  · rw [e]; exact hk _ _ r
  · rw [e]; exact hk _ _ r
  · rw [e]
    exact r.mono fun e w' ⟨v, he, hr⟩ => by subst he; exact hk _ _ hr

section
variable {P : Program} {ρ : RM} {μ : MM} {L : LM} {H : AH} {w : World}

theorem Got.same (hL : RL ρ μ L H w) (hH : RH ρ H w) {x : AV} {v : Value} (hv : V ρ μ x v) (hlp : ∀ t o, x = .lp t o → (L t).isSome = true) : Got ρ μ L H w ⟨x, L, H⟩ ρ μ v w :=
  ⟨hv, hlp, hL, hH, Evo.refl ..⟩
theorem Got.pure (hL : RL ρ μ L H w) (hH : RH ρ H w) {p : PV} {v : Value} (hv : VP ρ p v) : Got ρ μ L H w ⟨.pv p, L, H⟩ ρ μ v w :=
  Got.same hL hH hv fun _ _ h => by cases h
theorem Got.mem {ρ' : RM} {H' : AH} {w' : World} {p : PV} {v : Value} (hv : VP ρ' p v) (hL : RL ρ' μ L H' w') (hH : RH ρ' H' w') (hE : Evo ρ μ L H w ρ' μ L H' w') : Got ρ μ L H w ⟨.pv p, L, H'⟩ ρ' μ v w' :=
  ⟨hv, (fun _ _ h => by cases h), hL, hH, hE⟩

theorem V_const (v : Value) : V ρ μ (avOf v) v := by
  unfold avOf
  cases h : pvOf v with
  | none => trivial
  | some p =>
    show VP ρ p v
    unfold pvOf at h
    split at h
    · rename_i cs
      simp only [Option.map_eq_some_iff] at h
      obtain ⟨l, h1, rfl⟩ := h
      exact ⟨cs, rfl, scsOf_VSs h1⟩
    · simp only [Option.map_eq_some_iff] at h
      obtain ⟨s, h1, rfl⟩ := h
      exact scOf_VS h1

theorem V_eval {e : Env} {a : Act} (h : ∀ t, V ρ μ (e t) (a.tmps.getD t undef)) (x : Operand) : V ρ μ (evO e x) (a.eval x) := by
  cases x with
  | tmp t => exact h t
  | const v => exact V_const v
  | global g => trivial
  | func f => exact rfl

theorem updL_self {d : Nat} {v : Option LB} : updL L d v d = v := by simp [updL]
theorem updL_ne {d t : Nat} {v : Option LB} (h : t ≠ d) : updL L d v t = L t := by
  have : Nat.beq t d = false := by
    cases e : Nat.beq t d with
    | false => rfl
    | true => exact absurd (Nat.eq_of_beq_eq_true e) h
  simp only [updL, this, cond_false]

/-- A new local. -/
theorem alloc_local (hL : RL ρ μ L H w) (hH : RH ρ H w) {d : Nat} (hd : L d = none) {cs : List Sc} {vs : Array Value} {ty : TypeId} (hv : VSs ρ cs vs.toList) {w' : World} (g : Grew w w' (.cells vs ty)) :
    Got ρ μ L H w ⟨.lp d 0, updL L d (some ⟨cs, false⟩), H⟩ ρ (fun t => if t = d then some w.heap.size else μ t) (.pointer (some ⟨w.heap.size, 0, none⟩)) w' := by
  have hH' : RH ρ H w' := hH.world fun b k bs hb hl e => g.old _ (hH.lt hb hl e)
  have hset : ∀ t c, updL L d (some ⟨cs, false⟩) t = some c → (t = d ∧ c = ⟨cs, false⟩) ∨ (t ≠ d ∧ L t = some c) := fun t c h => by
    by_cases e : t = d
    · subst e; rw [updL_self] at h; cases h; exact .inl ⟨rfl, rfl⟩
    · rw [updL_ne e] at h; exact .inr ⟨e, h⟩
  have hsz := VSs.size hv
  refine ⟨⟨w.heap.size, by simp, rfl⟩, fun t o h => ?_, ⟨fun t c h => ?_, fun t c k b kk bs h hm hb hl e => ?_, fun t t' c c' k h h' hm hm' => ?_⟩, hH', ⟨by rw [g.size]; omega, g.os, g.tape, g.output, fun n hn _ _ => g.old n hn, Nat.le_refl _, fun _ _ _ => rfl, fun b k _ hk e => ⟨k, hk, e⟩, fun n h => .inr h, fun b k h _ => h, fun t ht => ?_, fun n hn => ?_, fun t k h1 h2 h3 => ?_⟩⟩
  · cases h; simp only [updL_self, Option.isSome_some]
  · rcases hset t c h with ⟨rfl, rfl⟩ | ⟨hne, h⟩
    · exact ⟨_, vs, ty, by simp, g.new, by simp; omega, by
        have := Lies.of_VSs hv
        simpa using this⟩
    · obtain ⟨k, cs', ty', h1, h2, h3, h4⟩ := hL.blk t c h
      exact ⟨k, cs', ty', by simp [hne, h1], by rw [g.old k (block_lt h2)]; exact h2, h3, h4⟩
  · rcases hset t c h with ⟨rfl, rfl⟩ | ⟨hne, h⟩
    · simp at hm; subst hm; exact Nat.ne_of_lt (hH.lt hb hl e)
    · simp [hne] at hm; exact hL.apart t c k b kk bs h hm hb hl e
  · rcases hset t c h with ⟨rfl, rfl⟩ | ⟨hne, h⟩
    · simp at hm; subst hm
      rcases hset t' c' h' with ⟨rfl, rfl⟩ | ⟨hne', h'⟩
      · rfl
      · simp [hne'] at hm'; exact absurd (hL.lt (c := c') h' hm') (by omega)
    · simp [hne] at hm
      have hlt := hL.lt h hm
      rcases hset t' c' h' with ⟨rfl, rfl⟩ | ⟨hne', h'⟩
      · simp at hm'; omega
      · simp [hne'] at hm'; exact hL.inj t t' c c' k h h' hm hm'
  · have hne : t ≠ d := by rintro rfl; rw [hd] at ht; cases ht
    simp only [updL_ne hne, hne, if_false, ht, and_self]
  · obtain ⟨t, c, h, hr, hm⟩ := hn
    rcases hset t c h with ⟨rfl, rfl⟩ | ⟨hne, h⟩
    · simp at hm; omega
    · simp [hne] at hm; exact .inr ⟨t, c, h, hr, hm⟩
  · by_cases e : t = d
    · subst e; simp at h3; omega
    · simp only [updL_ne e] at h1; rw [h2] at h1; cases h1

theorem allocM_sound (hL : RL ρ μ L H w) (hH : RH ρ H w) {cf : Cfg} {dst : Option Tmp} {fid : Option Nat} {elem : TypeId} {cs : List Sc} {x : Fx} (h : (allocM P cf dst fid elem cs L H).run = some x) {vs : Array Value} (hv : VSs ρ cs vs.toList) :
    ∃ ρ' μ', Got ρ μ L H w x ρ' μ' (.pointer (some ⟨w.heap.size, 0, none⟩)) { w with heap := w.heap.push (.cells vs elem) } := by
  unfold allocM at h
  cases dst with
  | none => simp [A.run] at h
  | some d =>
    simp only at h
    split at h
    · simp only [A.run_bind, Option.bind_eq_some_iff, A.run, Option.some.injEq] at h
      obtain ⟨r, h1, rfl⟩ := h
      obtain ⟨ρ', _, b1, b2, b3, b4⟩ := freshM_sound hH hL h1 hv (Grew.alloc w (.cells vs elem))
      exact ⟨ρ', μ, Got.mem b1 b3 b2 b4⟩
    · split at h
      · rename_i hd
        simp only [A.run, Option.some.injEq] at h
        subst h
        exact ⟨ρ, _, alloc_local hL hH hd hv (Grew.alloc w _)⟩
      · simp [A.run] at h

theorem load_sound (hL : RL ρ μ L H w) (hH : RH ρ H w) {t : TypeId} {x : AV} {u : Value} (hu : V ρ μ x u) {r : AV} (h : (loadM P t x L H).run = some r) :
    ∃ v, (Instr.loadAt t u).run P w = .ok v w ∧ V ρ μ r v ∧ ∃ p, r = .pv p := by
  unfold loadM at h
  split at h
  · rename_i d o
    obtain ⟨k, hm, rfl⟩ := hu
    split at h
    · rename_i c hc
      simp only [A.run_bind, Option.bind_eq_some_iff, A.run, Option.some.injEq] at h
      obtain ⟨p, h1, rfl⟩ := h
      obtain ⟨k', cs, ty, e1, e2, e3, e4⟩ := hL.blk d c hc
      rw [hm] at e1; cases e1
      obtain ⟨v, hr, hv⟩ := loadP_sound h1 e2 e4
      refine ⟨v, ?_, hv, p, rfl⟩
      simpa [Instr.loadAt, Instr.sureAddr] using hr
    · simp [A.run] at h
  · rename_i b o
    obtain ⟨bs, hb, rfl⟩ := hu
    simp only [A.run_bind, Option.bind_eq_some_iff, A.run, Option.some.injEq] at h
    obtain ⟨cs, h0, p, h1, rfl⟩ := h
    obtain ⟨k, hk, hl, rfl⟩ := rdB_some h0
    obtain ⟨bs', c, ty, fz, g1, g2, g3, g4, g5, g6, g7, g8⟩ := hH.blk b k hk hl
    rw [hb] at g1; cases g1
    obtain ⟨v, hr, hv⟩ := loadP_sound h1 g2 g7
    refine ⟨v, ?_, hv, p, rfl⟩
    simpa [Instr.loadAt, Instr.sureAddr] using hr
  · simp [A.run] at h

/-- A store into a local. -/
theorem store_local (hL : RL ρ μ L H w) (hH : RH ρ H w) {d o : Nat} {c : List Sc} (hd : L d = some ⟨c, false⟩) {k : Nat} (hm : μ d = some k) {cs : List Sc} {vs : List Value} (hv : VSs ρ cs vs) (hle : o + cs.length ≤ c.length) :
    ∃ w', (storeCells ⟨k, o, none⟩ vs).run P w = .ok () w' ∧ Got ρ μ L H w ⟨.undef, updL L d (some ⟨setAll c o cs, false⟩), H⟩ ρ μ undef w' := by
  obtain ⟨k', row, ty, e1, e2, e3, e4⟩ := hL.blk d _ hd
  rw [hm] at e1; cases e1
  have hvl := VSs.length hv
  simp only at e3
  have hfit : 0 + o + vs.length ≤ row.size := by omega
  have hon := Only.setRow w k (wrote row (0 + o) vs)
  have hself := setRow_heap w k row (wrote row (0 + o) vs) ty (0, 0) e2
  have hset : ∀ t x, updL L d (some ⟨setAll c o cs, false⟩) t = some x → (t = d ∧ x = ⟨setAll c o cs, false⟩) ∨ (t ≠ d ∧ L t = some x) := fun t x h => by
    by_cases e : t = d
    · subst e; rw [updL_self] at h; cases h; exact .inl ⟨rfl, rfl⟩
    · rw [updL_ne e] at h; exact .inr ⟨e, h⟩
  have hHw : RH ρ H (w.setRow k (wrote row (0 + o) vs)) := hH.world fun b kk bs hb hl e => hon.blk _ (hL.apart d _ k b kk bs hd hm hb hl e)
  refine ⟨w.setRow k (wrote row (0 + o) vs), by have := store_cells (P := P) e2 hfit hv.one; simpa only [Nat.zero_add] using this, trivial, (fun t o h => by cases h), ⟨fun t x h => ?_, fun t x k2 b kk bs h hm2 hb hl e => ?_, fun t t' x x' k2 h h' hm2 hm' => ?_⟩, hHw, ⟨by simp, rfl, rfl, rfl, fun n hn _ hnl => ?_, Nat.le_refl _, fun _ _ _ => rfl, fun b k _ hk e => ⟨k, hk, e⟩, fun n h => .inr h, fun b k h _ => h, fun t ht => ⟨?_, rfl⟩, fun n hn => ?_, fun t k h1 h2 h3 => ?_⟩⟩
  · rcases hset t x h with ⟨rfl, rfl⟩ | ⟨hne, h⟩
    · refine ⟨k, _, ty, hm, hself, ?_, ?_⟩
      · rw [wrote_size hfit]; simp only [setAll_length]; exact e3
      · exact lies_wrote e4 hv hle hfit
    · obtain ⟨k2, cs', ty', h1, h2, h3, h4⟩ := hL.blk t x h
      have hk2 : k2 ≠ k := fun e => hne (hL.inj t d x _ k2 h hd h1 (by rw [e]; exact hm))
      exact ⟨k2, cs', ty', h1, by rw [hon.blk k2 hk2]; exact h2, h3, h4⟩
  · rcases hset t x h with ⟨rfl, rfl⟩ | ⟨hne, h⟩
    · exact hL.apart t _ k2 b kk bs hd hm2 hb hl e
    · exact hL.apart t x k2 b kk bs h hm2 hb hl e
  · have f : ∀ t x, updL L d (some ⟨setAll c o cs, false⟩) t = some x → ∃ y, L t = some y := fun t x h => by
      rcases hset t x h with ⟨rfl, rfl⟩ | ⟨hne, h⟩
      · exact ⟨_, hd⟩
      · exact ⟨_, h⟩
    obtain ⟨y, hy⟩ := f t x h
    obtain ⟨y', hy'⟩ := f t' x' h'
    exact hL.inj t t' y y' k2 hy hy' hm2 hm'
  · exact hon.blk n (fun e => hnl ⟨d, _, hd, rfl, by rw [e]; exact hm⟩)
  · by_cases e : t = d
    · subst e; simp only [updL_self, Option.isSome_some]
    · simp only [updL_ne e, ht]
  · obtain ⟨t, x, h, hr, hm2⟩ := hn
    rcases hset t x h with ⟨rfl, rfl⟩ | ⟨hne, h⟩
    · exact .inr ⟨t, _, hd, rfl, hm2⟩
    · exact .inr ⟨t, x, h, hr, hm2⟩
  · by_cases e : t = d
    · subst e; rw [hd] at h2; cases h2
    · simp only [updL_ne e] at h1; rw [h2] at h1; cases h1

theorem rows_VSs {x : AV} {v : Value} (hv : V ρ μ x v) {cs : List Sc} (h : rows x = some cs) : VSs ρ cs v.cells.toList := by
  unfold rows at h
  split at h
  · cases h; exact VP.cells hv
  · cases h

theorem store_sound (hL : RL ρ μ L H w) (hH : RH ρ H w) {t : TypeId} (ht : ∃ i, P.info? t = some i) {a x : AV} {ua ux : Value} (ha : V ρ μ a ua) (hx : V ρ μ x ux) {r : Fx} (h : (storeM P t a x L H).run = some r) :
    ∃ w', (Instr.storeAt t ua ux).run P w = .ok () w' ∧ Got ρ μ L H w r ρ μ undef w' := by
  obtain ⟨i, hi⟩ := ht
  unfold storeM at h
  split at h
  · simp [A.run] at h
  · rename_i cs hcs
    have hv := rows_VSs hx hcs
    simp only [A.run] at h
    cases hb : Nat.beq cs.length (tsz P t) with
    | false => simp [hb, A.run] at h
    | true =>
      have hlen := Nat.eq_of_beq_eq_true hb
      have hvs := VSs.size hv
      have hsz : tsz P t = i.size := by simp [tsz, hi]
      simp only [hb, cond_true] at h
      have hst : ∀ (ad : Addr) w', (storeCells ad ux.cells.toList).run P w = .ok () w' → (storeVar t ad ux).run P w = .ok () w' := fun ad w' hr => by
        unfold storeVar
        simp only [Sem.run_bind, sizeOf, typeInfo, run_program, Result.andThen_ok, hi, Sem.run_pure]
        rw [if_neg (by simp; omega)]
        exact hr
      split at h
      · rename_i d o
        obtain ⟨k, hm, rfl⟩ := ha
        split at h
        · rename_i c hc
          simp only [A.run] at h
          cases hle : decide (o + cs.length ≤ c.length) with
          | false => simp [hle] at h
          | true =>
            simp only [hle, cond_true, Option.some.injEq] at h
            subst h
            obtain ⟨w', hr, hg⟩ := store_local (P := P) hL hH hc hm hv (by simpa using hle)
            exact ⟨w', by simpa [Instr.storeAt, Instr.sureAddr] using hst _ _ hr, hg⟩
        · simp [A.run] at h
      · rename_i b o
        obtain ⟨bs, hb2, rfl⟩ := ha
        simp only [A.run, Option.bind_eq_some_iff, Option.some.injEq] at h
        obtain ⟨H', hp, rfl⟩ := h
        obtain ⟨w', hr, b1, b2, b3⟩ := putR_sound (P := P) hH hL hp hv
        refine ⟨w', by simpa [Instr.storeAt, Instr.sureAddr] using hst _ _ (hr bs (.inr hb2)), trivial, (fun _ _ h => by cases h), b2, b1, b3⟩
      · simp [A.run] at h
end
end Go.Abs
/- The operations that look at no memory. -/
namespace Go.Abs
set_option linter.unusedVariables false
set_option linter.unusedSimpArgs false

section
variable {P : Program} {ρ : RM} {μ : MM} {L : LM} {H : AH} {w : World}

/-- The result is a told value. -/
def Tells (ρ : RM) (r : AV) (v : Value) : Prop := ∃ p, r = .pv p ∧ VP ρ p v

theorem binI_sound {op : BinOp} {k : IntKind} {a b : Int} {t : TypeId} {r : AV} (h : (binI op k a b).run = some r) :
    ∃ v, (Go.binOp op t (.int k a) (.int k b)).run P w = .ok v w ∧ Tells ρ r v := by
  cases op <;> simp only [binI, mSc, mB, A.run] at h
  case quo | rem =>
    cases hb : (b == 0) with
    | true => simp [hb] at h
    | false =>
      simp only [hb, cond_false, Option.some.injEq] at h
      have hb' : ¬ b = 0 := by simpa using hb
      subst h
      exact ⟨_, by simp [Go.binOp, Op.intDiv, hb'], _, rfl, rfl⟩
  all_goals first
    | (cases h; done)
    | (simp only [Option.some.injEq] at h
       subst h
       exact ⟨_, by simp [Go.binOp, Op.intArith, Op.intBits, Op.intCmp, bitAnd, bitOr, bitXor, bitAndNot], _, rfl, rfl⟩)

theorem shiftI_sound {op : BinOp} {k k' : IntKind} {a b : Int} {t : TypeId} {r : AV} (h : (shiftI op k a b).run = some r) :
    ∃ v, (Go.binOp op t (.int k a) (.int k' b)).run P w = .ok v w ∧ Tells ρ r v := by
  cases op <;> simp only [shiftI, mSc, A.run] at h
  case shl | shr =>
    cases hb : decide (b < 0) with
    | true => simp [hb] at h
    | false =>
      simp only [hb, cond_false, Option.some.injEq] at h
      have hb' : ¬ b < 0 := by simpa using hb
      subst h
      exact ⟨_, by simp [Go.binOp, Op.shift, hb', shlL, shlR], _, rfl, rfl⟩
  all_goals cases h

theorem eqGuard_int {op : BinOp} {t : TypeId} {x y : Operand} {k k' : IntKind} {a b : Int} : (eqGuard op t x y (.int k a) (.int k' b)).run P w = .ok () w := by
  cases op <;> simp [eqGuard]
theorem eqGuard_bool {op : BinOp} {t : TypeId} {x y : Operand} {a b : Bool} : (eqGuard op t x y (.bool a) (.bool b)).run P w = .ok () w := by
  cases op <;> simp [eqGuard]

theorem run_equalIn_bool {t : TypeId} (hu : P.underlying t = some .bool) (a b : Bool) (d : Nat) : (Op.equalIn (d + 1) t (.bool a) (.bool b)).run P w = .ok (a == b) w := by
  simp [Op.equalIn, run_underlying hu]
theorem run_equal_bool {t : TypeId} (hu : P.underlying t = some .bool) (a b : Bool) : (Op.equal t (.bool a) (.bool b)).run P w = .ok (a == b) w := run_equalIn_bool hu a b 9999

theorem binM_sound {op : BinOp} {t : TypeId} {x y : AV} {ux uy : Value} {ox oy : Operand} (hx : V ρ μ x ux) (hy : V ρ μ y uy) {r : AV} (h : (binM P op t x y).run = some r) :
    ∃ v, (do eqGuard op t ox oy ux uy; Go.binOp op t ux uy : Sem Value).run P w = .ok v w ∧ Tells ρ r v := by
  unfold binM at h
  split at h
  · rename_i k a k' b
    cases hx; cases hy
    simp only [Sem.run_bind, eqGuard_int, Result.andThen_ok]
    split at h
    · exact shiftI_sound h
    · exact shiftI_sound h
    · split at h
      · rename_i e; subst e; exact binI_sound h
      · simp [A.run] at h
  · rename_i a b
    cases hx; cases hy
    simp only [Sem.run_bind, eqGuard_bool, Result.andThen_ok]
    split at h
    · rename_i hu
      simp [mB, A.run] at h; subst h
      exact ⟨_, by simp only [Go.binOp, Sem.run_bind, run_equal_bool hu, Result.andThen_ok, Sem.run_pure], _, rfl, rfl⟩
    · rename_i hu
      simp [mB, A.run] at h; subst h
      exact ⟨.bool (a != b), by simp only [Go.binOp, Sem.run_bind, run_equal_bool hu, Result.andThen_ok, Sem.run_pure]; rfl, _, rfl, rfl⟩
    · simp [A.run] at h
  · simp [A.run] at h

theorem unM_sound {op : UnOp} {x : AV} {ux : Value} (hx : V ρ μ x ux) {r : AV} (h : (unM op x).run = some r) : ∃ v, (Op.unary op ux).run P w = .ok v w ∧ Tells ρ r v := by
  unfold unM at h
  split at h
  · cases hx
    simp [mSc, A.run] at h; subst h
    exact ⟨_, by simp [Op.unary, Op.intArith], _, rfl, rfl⟩
  · rename_i k n
    cases hx
    simp only [binI, mSc, A.run, Option.some.injEq] at h; subst h
    exact ⟨_, by simp [Op.unary, Op.intBits, bitXor], _, rfl, rfl⟩
  · cases hx
    simp [mB, A.run] at h; subst h
    exact ⟨_, by simp [Op.unary], _, rfl, rfl⟩
  · simp [A.run] at h

theorem convM_sound {s d : TypeId} {x : AV} {ux : Value} (hx : V ρ μ x ux) {r : AV} (h : (convM P s d x).run = some r) : ∃ v, (Go.convert s d ux).run P w = .ok v w ∧ Tells ρ r v := by
  unfold convM at h
  split at h
  · rename_i k1 k k2 n hs hd
    cases hx
    simp [mSc, A.run] at h; subst h
    exact ⟨_, by simp [Go.convert, run_underlying hs, run_underlying hd, Conv.intToInt], _, rfl, rfl⟩
  · simp [A.run] at h

theorem ixA_some {s : Sl} {i : Int} {z o : Nat} (h : ixA s i z = some o) : 0 ≤ i ∧ i < s.n ∧ o = s.o + i.toNat * z := by
  unfold ixA at h
  split at h
  · rename_i hc; cases h; exact ⟨hc.1, hc.2, rfl⟩
  · cases h

/-- A bound of a slice, told or not. -/
theorem optI_run {e : Operand → AV} {f : Operand → Value} (hv : ∀ x, V ρ μ (e x) (f x)) {o : Option Operand} {n : Option Int} (h : (optI e o).run = some n) :
    (o = none ∧ n = none) ∨ ∃ x k m, o = some x ∧ n = some m ∧ f x = .int k m := by
  cases o with
  | none => simp [optI, A.run] at h; exact .inl ⟨rfl, h.symm⟩
  | some x =>
    right
    simp only [optI, A.run_bind, Option.bind_eq_some_iff, A.run, Option.some.injEq] at h
    obtain ⟨m, h1, rfl⟩ := h
    obtain ⟨k, hk⟩ := asInt_run h1
    have := hv x
    rw [hk] at this
    exact ⟨x, k, m, rfl, rfl, this⟩

theorem slB_some {s : Sl} {lo hi mx : Option Int} {z : Nat} {r : Sl} (h : slB s lo hi mx z = some r) :
    ∃ m : Int, m = mx.getD (s.c : Int) ∧ 0 ≤ m ∧ m ≤ s.c ∧ 0 ≤ hi.getD s.n ∧ hi.getD s.n ≤ m ∧ 0 ≤ lo.getD 0 ∧ lo.getD 0 ≤ hi.getD s.n ∧
      r = ⟨s.b, s.o + (lo.getD 0).toNat * z, (hi.getD s.n - lo.getD 0).toNat, (m - lo.getD 0).toNat, s.x || mx.isSome⟩ := by
  unfold slB at h
  simp only [Option.bind_eq_some_iff] at h
  obtain ⟨m, h1, h2⟩ := h
  split at h2
  · rename_i hc
    cases h2
    cases mx with
    | none => simp at h1; subst h1; exact ⟨(s.c : Int), rfl, by omega, by omega, hc.1, hc.2.1, hc.2.2.1, hc.2.2.2, rfl⟩
    | some v =>
      simp only at h1
      split at h1
      · cases h1; exact ⟨m, rfl, by omega, by omega, hc.1, hc.2.1, hc.2.2.1, hc.2.2.2, rfl⟩
      · cases h1
  · cases h2

/-- The model's bounds, where they are in range. -/
theorem run_bounds {len cap : Nat} {lo hi mx : Option Value} {l h m : Nat} (hm : mx = none ∧ m = cap ∨ ∃ k, mx = some (.int k m) ∧ m ≤ cap)
    (hh : hi = none ∧ mx = none ∧ h = len ∨ ∃ k, hi = some (.int k h)) (hhm : h ≤ m ∨ (hi = none)) (hl : lo = none ∧ l = 0 ∨ ∃ k, lo = some (.int k l)) (hlh : l ≤ h) :
    (Instr.sliceBounds true len cap lo hi mx).run P w = .ok (l, h, m) w := by
  unfold Instr.sliceBounds
  rcases hm with ⟨rfl, rfl⟩ | ⟨k, rfl, hmc⟩
  · rcases hh with ⟨rfl, _, rfl⟩ | ⟨k, rfl⟩
    · rcases hl with ⟨rfl, rfl⟩ | ⟨k2, rfl⟩
      · simp
      · simp [Instr.sliceBound, Go.asIntOf, hlh]
    · have hhm' : h ≤ m := by simpa using hhm
      rcases hl with ⟨rfl, rfl⟩ | ⟨k2, rfl⟩
      · simp [Instr.sliceBound, Go.asIntOf, hhm']
      · simp [Instr.sliceBound, Go.asIntOf, hhm', hlh]
  · rcases hh with ⟨_, h0, _⟩ | ⟨k1, rfl⟩
    · cases h0
    · have hhm' : h ≤ m := by simpa using hhm
      rcases hl with ⟨rfl, rfl⟩ | ⟨k2, rfl⟩
      · simp [Instr.sliceBound, Go.asIntOf, hhm', hmc]
      · simp [Instr.sliceBound, Go.asIntOf, hhm', hlh, hmc]

theorem zOk_some (hH : RH ρ H w) {s : Sl} {z : Nat} (h : zOk H s z = some ()) : (s.c = 0 ∧ s.x = true) ∨ ∃ bs, ρ s.b = some bs ∧ bs.z = z := by
  unfold zOk at h
  split at h
  · rename_i hc; exact .inl hc
  · simp only [Option.bind_eq_some_iff] at h
    obtain ⟨k, hk, h⟩ := h
    right
    have : live k ∧ k.z = z := by
      cases hs : k.st <;> simp [hs] at h
      · exact ⟨.inl hs, h⟩
      · exact ⟨.inr hs, h⟩
    obtain ⟨bs, c, ty, fz, g1, g2, g3, _⟩ := hH.blk s.b k hk this.1
    exact ⟨bs, g1, g3.trans this.2⟩

/-- A slice of a slice. -/
theorem slice_sound (hH : RH ρ H w) {t el : TypeId} (hu : P.underlying t = some (.slice el)) (hi : ∃ i, P.info? el = some i) {s : Sl} {u : Value} (hs : VS ρ (.sl s) u)
    {e : Operand → AV} {f : Operand → Value} (hv : ∀ x, V ρ μ (e x) (f x)) {lo hi' mx : Option Operand} {nlo nhi nmx : Option Int} (h1 : (optI e lo).run = some nlo) (h2 : (optI e hi').run = some nhi) (h3 : (optI e mx).run = some nmx)
    (hmh : mx.isSome = true → hi'.isSome = true) (hz : tsz P el = 1 ∨ lo = none ∨ zOk H s (tsz P el) = some ()) {r : Sl} (h : slB s nlo nhi nmx (tsz P el) = some r) :
    ∃ v, (Instr.sliceAt t u (lo.map f) (hi'.map f) (mx.map f)).run P w = .ok v w ∧ VS ρ (.sl r) v := by
  obtain ⟨A, cap, rfl, g1, g2, g3, g4⟩ := hs
  obtain ⟨m, em, m0, m1, b1, b2, b3, b4, rfl⟩ := slB_some h
  obtain ⟨i, hinfo⟩ := hi
  have hsz : (sizeOf el).run P w = .ok (tsz P el) w := by simp [sizeOf, typeInfo, hinfo, tsz]
  -- the three bounds as numbers
  obtain ⟨l', hl'⟩ : ∃ l' : Nat, nlo.getD 0 = l' := ⟨(nlo.getD 0).toNat, by omega⟩
  obtain ⟨h', hh'⟩ : ∃ h' : Nat, nhi.getD s.n = h' := ⟨(nhi.getD s.n).toNat, by omega⟩
  obtain ⟨m', hm'⟩ : ∃ m' : Nat, m = m' := ⟨m.toNat, by omega⟩
  have hlo : lo.map f = none ∧ l' = 0 ∨ ∃ k, lo.map f = some (.int k l') := by
    rcases optI_run hv h1 with ⟨rfl, rfl⟩ | ⟨x, k, n, rfl, rfl, hx⟩
    · left; simp at hl'; exact ⟨rfl, by omega⟩
    · right; simp at hl'; subst hl'; exact ⟨k, by simp [hx]⟩
  have hhi : hi'.map f = none ∧ mx.map f = none ∧ h' = s.n ∨ ∃ k, hi'.map f = some (.int k h') := by
    rcases optI_run hv h2 with ⟨rfl, rfl⟩ | ⟨x, k, n, rfl, rfl, hx⟩
    · left
      simp at hh'
      refine ⟨rfl, ?_, by omega⟩
      cases mx with
      | none => rfl
      | some y => exact absurd (hmh rfl) (by simp)
    · right; simp at hh'; subst hh'; exact ⟨k, by simp [hx]⟩
  -- the model's third bound
  obtain ⟨M, hM, hMm, hMx⟩ : ∃ M : Nat, (mx.map f = none ∧ M = cap ∨ ∃ k, mx.map f = some (.int k M) ∧ M ≤ cap) ∧ m' ≤ M ∧ ((s.x || nmx.isSome) = true → M = m') := by
    rcases optI_run hv h3 with ⟨rfl, rfl⟩ | ⟨x, k, n, rfl, rfl, hx⟩
    · simp at em
      exact ⟨cap, .inl ⟨rfl, rfl⟩, by omega, fun hx => by have := g3 (by simpa using hx); omega⟩
    · simp at em
      subst em
      exact ⟨m', .inr ⟨k, by simp [hx, hm'], by omega⟩, Nat.le_refl _, fun _ => rfl⟩
  have hrun := run_bounds (P := P) (w := w) (len := s.n) (cap := cap) hM hhi (.inl (by omega)) hlo (by omega)
  refine ⟨.slice (if M = l' then A else A.map (·.add (l' * tsz P el))) (h' - l') (M - l'), by rw [run_sliceAt_slice w t _ _ _ _ (by rw [hu]; simp [Program.elem, hu])]; simp only [Instr.slice, Sem.run_bind, run_underlying hu, Result.andThen_ok, hrun, hsz, Sem.run_pure], ?_⟩
  simp only [hl', hh', hm']
  refine ⟨_, M - l', by congr 1; dsimp only; omega, by dsimp only; omega, by dsimp only; omega, fun hx => by have := hMx hx; dsimp only; omega, ?_⟩
  by_cases hz0 : M = l'
  · left; omega
  · right
    rcases g4 with g4 | ⟨bs, e1, rfl, e2⟩
    · have : M ≤ cap := by rcases hM with ⟨_, h⟩ | ⟨_, _, h⟩ <;> omega
      omega
    · have hMc : M ≤ cap := by rcases hM with ⟨_, h⟩ | ⟨_, _, h⟩ <;> omega
      refine ⟨bs, e1, ?_, ?_⟩
      · rw [if_neg hz0]
        simp only [Option.map_some, add_at]
        congr 2
        simp
        omega
      · have hmul : M * bs.z ≤ cap * bs.z := Nat.mul_le_mul_right _ hMc
        have hsplit : M * bs.z = l' * bs.z + (M - l') * bs.z := by rw [← Nat.add_mul]; congr 1; omega
        have hzz : l' * tsz P el ≤ l' * bs.z := by
          rcases hz with hz | hz | hz
          · rw [hz]
            exact Nat.mul_le_mul_left _ e2.2
          · subst hz
            rcases hlo with ⟨_, h0⟩ | ⟨_, h0⟩
            · simp [h0]
            · simp at h0
          · rcases zOk_some hH hz with ⟨h0, hx⟩ | ⟨bs', e3, e4⟩
            · have := g3 hx; omega
            · rw [e1] at e3; cases e3; rw [e4]; exact Nat.le_refl _
        refine ⟨?_, e2.2⟩
        have e3 := e2.1
        simp only [Int.toNat_natCast]
        omega
end
end Go.Abs
/- Places, parts and literals. -/
namespace Go.Abs
set_option linter.unusedVariables false
set_option linter.unusedSimpArgs false

section
variable {P : Program} {ρ : RM} {μ : MM} {L : LM} {H : AH} {w : World}

theorem info_of_size {t : TypeId} (h : Nat.beq (tsz P t) 0 = false) : ∃ i, P.info? t = some i := by
  cases hi : P.info? t with
  | some i => exact ⟨i, rfl⟩
  | none => simp [tsz, hi] at h

theorem hasI_some {t : TypeId} (h : hasI P t = true) : ∃ i, P.info? t = some i := Option.isSome_iff_exists.1 h

theorem run_sizeI {t : TypeId} {i : TypeInfo} (hi : P.info? t = some i) : (sizeOf t).run P w = .ok (tsz P t) w := by simp [sizeOf, typeInfo, hi, tsz]

theorem fieldAt_sound {s : TypeId} {fs : Array Field} {f : Field} {n : Nat} (hu : P.underlying s = some (.struct fs)) (hf : fs[n]? = some f) (hz : Nat.beq (tsz P f.type) 0 = false) {b o : Nat} :
    (Instr.fieldAt s (.pointer (some ⟨b, o, none⟩)) n).run P w = .ok (.pointer (some ⟨b, o + f.offset, none⟩)) w := by
  obtain ⟨i, hi⟩ := info_of_size hz
  have hz' : ¬ tsz P f.type = 0 := fun e => by rw [e] at hz; cases hz
  unfold Instr.fieldAt fieldPlace
  simp only [Sem.run_bind, run_underlying hu, Result.andThen_ok, hf, Instr.sureAddr, Sem.run_pure, run_sizeI hi, hz', if_false, add_at]

theorem indexAt_slice {t el : TypeId} (hu : P.underlying t = some (.slice el)) {i : TypeInfo} (hi : P.info? el = some i) {k : IntKind} {n : Int} {len cap : Nat} {b o : Nat} (h0 : 0 ≤ n) (h1 : n < len) :
    (Instr.indexAt t (.slice (some ⟨b, o, none⟩) len cap) (.int k n)).run P w = .ok (.pointer (some ⟨b, o + n.toNat * tsz P el, none⟩)) w := by
  unfold Instr.indexAt
  simp only [Sem.run_bind, Go.asIntOf, Sem.run_pure, run_underlying hu, Result.andThen_ok, h0, h1, and_self, if_true, run_sizeI hi, add_at]

theorem indexAt_array {t el : TypeId} {m : Nat} (hu : P.underlying t = some (.array m el)) {i : TypeInfo} (hi : P.info? el = some i) {k : IntKind} {n : Int} {b o : Nat} (h0 : 0 ≤ n) (h1 : n < m) :
    (Instr.indexAt t (.pointer (some ⟨b, o, none⟩)) (.int k n)).run P w = .ok (.pointer (some ⟨b, o + n.toNat * tsz P el, none⟩)) w := by
  unfold Instr.indexAt
  simp only [Sem.run_bind, Go.asIntOf, Sem.run_pure, run_underlying hu, Result.andThen_ok, h0, h1, and_self, if_true, run_sizeI hi, add_at, Instr.sureAddr]

theorem run_places' {fs : Array Field} {pl : List (Nat × Nat)} (h : placesS P fs = some pl) :
    (fs.mapM fun f => do pure (f.offset, ← sizeOf f.type) : Sem (Array (Nat × Nat))).run P w = .ok pl.toArray w := by
  have := run_places (P := P) w fs.toList pl h
  rw [Array.mapM_eq_mapM_toList]
  simp only [Sem.run_map, bind_pure_comp]
  rw [this]; rfl

theorem build_sound {t : TypeId} {fs : Array Field} (hu : P.underlying t = some (.struct fs)) {zr : List Sc} (hz : zeroC P t = some zr) {pl : List (Nat × Nat)} (hp : placesS P fs = some pl) {ps : List (Nat × PV)} {vs : List (Nat × Value)}
    (hr : All2 (PartR ρ) ps vs) {cs : List Sc} (hf : fillC (pl[·]?) zr ps = some cs) : ∃ r, (Instr.build t vs.toArray).run P w = .ok (.agg r) w ∧ VSs ρ cs r.toList := by
  obtain ⟨z, hz2, hv, hzl, hzs⟩ := run_zero (ρ := ρ) (w := w) hz
  obtain ⟨r, e1, e2⟩ := fill_sound (place' := fun i => (pl.toArray)[i]?) (fun i x h => by simpa using h) hr hv hf
  refine ⟨r, ?_, e2⟩
  unfold Instr.build
  simp only [Sem.run_bind, hz2, Result.andThen_ok, run_underlying hu, run_places' hp, e1, Sem.run_pure]

theorem fillC_length {place : Nat → Option (Nat × Nat)} : ∀ {ps : List (Nat × PV)} {cells r : List Sc}, fillC place cells ps = some r → r.length = cells.length
  | [], cells, r, h => by simp [fillC] at h; rw [h]
  | (i, v) :: ps, cells, r, h => by
    simp only [fillC] at h
    split at h
    · cases h
    · split at h
      · rw [fillC_length h, setAll_length]
      · cases h

theorem buildSlice_sound {t el : TypeId} (hu : P.underlying t = some (.slice el)) {zr : List Sc} (hz : zeroC P el = some zr) {len : Nat} (hlen : Nat.ble (len * tsz P el) 65536 = true) {ps : List (Nat × PV)} {vs : List (Nat × Value)}
    (hr : All2 (PartR ρ) ps vs) {cs : List Sc} (hf : fillC (fun i => some (i * tsz P el, tsz P el)) (List.replicate len zr).flatten ps = some cs) :
    ∃ r : Array Value, (Instr.buildSlice t len vs.toArray).run P w = .ok (.slice (some ⟨w.heap.size, 0, none⟩) len len) { w with heap := w.heap.push (.cells r el) } ∧ VSs ρ cs r.toList ∧ len * tsz P el ≤ r.size := by
  obtain ⟨z, hz2, hv, hzl, hzs⟩ := run_zero (ρ := ρ) (w := w) hz
  obtain ⟨i, z', hi, hz'⟩ := zeroC_info hz
  have hl := Nat.le_of_ble_eq_true hlen
  have hzv := zeros_VSs hv len
  rw [hzs] at hzv
  by_cases h0 : len * tsz P el = 0
  · -- nothing is laid
    have hnil : (List.replicate len zr).flatten = [] := by
      apply List.length_eq_zero_iff.1
      rw [flat_len, hzl]; exact h0
    obtain ⟨r, e1, e2⟩ := fill_sound (ρ := ρ) (place' := fun i => some (i * tsz P el, tsz P el)) (fun i x h => h) hr (c := (Array.range 0).map ((#[] : Array Value)[· % (#[] : Array Value).size]!)) (by rw [hnil]; simp; exact .nil) hf
    refine ⟨r, ?_, e2, by omega⟩
    unfold Instr.buildSlice
    simp only [Sem.run_bind, run_underlying hu, Result.andThen_ok, run_sizeI hi, h0]
    rw [if_neg (by omega)]
    simp only [if_true, Sem.run_bind, Sem.run_pure, Result.andThen_ok]
    rw [e1]
    simp [newRow]
  · obtain ⟨r, e1, e2⟩ := fill_sound (ρ := ρ) (place' := fun i => some (i * tsz P el, tsz P el)) (fun i x h => h) hr hzv hf
    have hrs : r.size = len * tsz P el := by
      rw [← VSs.size e2, fillC_length hf, flat_len, hzl]
    refine ⟨r, ?_, e2, by omega⟩
    have hn : ¬ (len * tsz P el > 2 ^ 24) := by omega
    unfold Instr.buildSlice
    simp only [Sem.run_bind, run_underlying hu, Result.andThen_ok, run_sizeI hi]
    rw [if_neg hn]
    simp only [Sem.run_bind, h0, if_false, hz2, Result.andThen_ok, Sem.run_pure]
    rw [hzs, e1]
    simp [newRow]
end
end Go.Abs
/- One operation, whatever it is: what the abstract interpreter answers, the model does. -/
namespace Go.Abs
set_option linter.unusedVariables false
set_option linter.unusedSimpArgs false

def noM : MM := fun _ => none
def noL : LM := fun _ => none

def ResV (ρ : RM) (vs : List PV) (v : Value) : Prop := (∃ p, vs = [p] ∧ VP ρ p v) ∨ (vs.length ≠ 1 ∧ ∃ cs : Array Value, v = .tuple cs ∧ All2 (VP ρ) vs cs.toList)

/-- What is asked of an oracle's word on a function. -/
def SndFn (P : Program) (C : Oracle) : Prop :=
  ∀ f xs H r, C (.fn f) xs H = some r → (∃ fn, P.funcs[f]? = some fn ∧ fn.body.isSome = true ∧ fn.name ≠ "runtime.NumGoroutine") ∧
    ∀ ρ w (cargs : Array Value), RH ρ H w → All2 (VP ρ) xs cargs.toList → Calls P f cargs w fun e w' => ∃ v ρ', e = .returned v ∧ ResV ρ' r.vs v ∧ RH ρ' r.H w' ∧ Evo ρ noM noL H w ρ' noM noL r.H w'

section
variable {P : Program} {ρ : RM} {μ : MM} {L : LM} {H : AH} {w : World}

/-- A call leaves the caller's locals alone. -/
theorem call_rl {ρ' : RM} {H' : AH} {w' : World} (hL : RL ρ μ L H w) (hH : RH ρ H w) (hE : Evo ρ noM noL H w ρ' noM noL H' w') : RL ρ' μ L H' w' := by
  have hL' : RL ρ μ L H w' := hL.world fun t c k ht hm => hE.keep k (hL.lt ht hm) (fun ⟨b, kk, bs, hb, hr, e, h⟩ => hL.apart t c k b kk bs ht hm hb (live_rw hr) e h) (fun ⟨t, c, h, _⟩ => by cases h)
  refine hL'.heap (hE.sub hH) fun t c k b kk bs ht hm hb hl e => ?_
  rcases hl with hr | hr
  · have h0 := hE.ro b kk hb hr
    have hlen : b < H.length := by
      rcases Nat.lt_or_ge b H.length with h | h
      · exact h
      · rw [List.getElem?_eq_none h] at h0; cases h0
    rw [hE.old b hlen (fun k' h' e' => by rw [h0] at h'; cases h'; rw [hr] at e'; cases e')] at e
    exact hL.apart t c k b kk bs ht hm h0 (.inl hr) e
  · rcases hE.rw bs.blk ⟨b, kk, bs, hb, hr, e, rfl⟩ with h | ⟨b2, k2, bs2, g1, g2, g3, g4⟩
    · have := hL.lt ht hm; omega
    · rw [← g4]; exact hL.apart t c k b2 k2 bs2 ht hm g1 (live_rw g2) g3
theorem call_evo {ρ' : RM} {H' : AH} {w' : World} (hE : Evo ρ noM noL H w ρ' noM noL H' w') : Evo ρ μ L H w ρ' μ L H' w' :=
  ⟨hE.size, hE.os, hE.tape, hE.output, fun n hn h1 _ => hE.keep n hn h1 (fun ⟨t, c, h, _⟩ => by cases h), hE.len, hE.old, hE.nres, hE.rw, hE.ro, fun t h => ⟨h, rfl⟩, fun n h => .inr h, fun t k h1 h2 => by rw [h2] at h1; cases h1⟩

theorem sc?_some {p : PV} {s : Sc} (h : p.sc? = some s) : p = .sc s := by cases p <;> simp [PV.sc?] at h; rw [h]
theorem agg?_some {p : PV} {l : List Sc} (h : p.agg? = some l) : p = .agg l := by cases p <;> simp [PV.agg?] at h; rw [h]

theorem rdKs_all {l r : List Sc} {ks : List Kd} (h : (rdKs l 0 ks).run = some r) (hl : l.length = ks.length) : r = l := by
  obtain ⟨e, g⟩ := rdKs_get h
  refine List.ext_getElem? fun j => ?_
  cases hj : r[j]? with
  | some s => have := g j s hj; rw [Nat.zero_add] at this; exact this.symm
  | none =>
    have : l.length ≤ j := by
      rcases Nat.lt_or_ge j r.length with h | h
      · rw [List.getElem?_eq_getElem h] at hj; cases hj
      · omega
    rw [List.getElem?_eq_none this]

theorem castP_eq {t : TypeId} {p q : PV} (h : (castP P t p).run = some q) : q = p := by
  unfold castP at h
  split at h
  · simp only [A.run, A.run_bind, Option.bind_eq_some_iff, Option.some.injEq] at h
    obtain ⟨s, h1, s', h2, rfl⟩ := h
    have := rdK_get h2
    simp at this
    rw [sc?_some h1, this]
  · rename_i ks hk
    simp only [A.run, Option.bind_eq_some_iff] at h
    obtain ⟨l, h1, h2⟩ := h
    cases hb : decide (l.length = ks.length) with
    | false => simp [hb, A.run] at h2
    | true =>
      simp only [hb, cond_true, A.run_bind, Option.bind_eq_some_iff, A.run, Option.some.injEq] at h2
      obtain ⟨l', h3, rfl⟩ := h2
      rw [rdKs_all h3 (by simpa using hb), agg?_some h1]
  · simp only [A.run, Option.bind_eq_some_iff] at h
    obtain ⟨l, h1, h2⟩ := h
    cases hb : decide (l.length = tsz P t) with
    | false => simp [hb, A.run] at h2
    | true => simp only [hb, cond_true, A.run, Option.some.injEq] at h2; rw [← h2, agg?_some h1]
  · simp [A.run] at h

theorem castN_get {l : List PV} : ∀ {ts : List TypeId} {i : Nat} {r : List PV}, (castN P l i ts).run = some r → r.length = ts.length ∧ ∀ (j : Nat) (p : PV), r[j]? = some p → l[i + j]? = some p
  | [], i, r, h => by simp [castN, A.run] at h; subst h; simp
  | t :: ts, i, r, h => by
    simp only [castN, A.run, A.run_bind, Option.bind_eq_some_iff, Option.some.injEq] at h
    obtain ⟨p, h1, p', h2, r', h3, rfl⟩ := h
    obtain ⟨e, g⟩ := castN_get h3
    refine ⟨by simp [e], fun j q hj => ?_⟩
    cases j with
    | zero => simp at hj; subst hj; rw [castP_eq h2]; exact h1
    | succ j => simp at hj; have := g j q hj; rwa [show i + (j + 1) = i + 1 + j by omega]

theorem ext_get {α : Type} {a b : List α} (hl : a.length = b.length) (h : ∀ (j : Nat) (p : α), a[j]? = some p → b[j]? = some p) : a = b := by
  refine List.ext_getElem? fun j => ?_
  cases hj : a[j]? with
  | some s => exact (h j s hj).symm
  | none =>
    have : b.length ≤ j := by
      rcases Nat.lt_or_ge j a.length with h | h
      · rw [List.getElem?_eq_getElem h] at hj; cases hj
      · omega
    rw [List.getElem?_eq_none this]

theorem oneP_some {l : List PV} {p : PV} (h : oneP l = some p) : l = [p] := by
  unfold oneP at h; split at h
  · cases h; rfl
  · cases h
theorem lenP_some {l : List PV} {n : Nat} (h : lenP l n = some ()) : l.length = n := by
  unfold lenP at h; split at h
  · assumption
  · cases h

theorem callRes_sound {t : TypeId} {o : Out} {x : AV} (h : (callRes P t o).run = some x) {v : Value} (hv : ResV ρ o.vs v) : V ρ μ x v ∧ ∀ t o, x ≠ .lp t o := by
  have single : ∀ {t : TypeId} {x : AV}, (A.get PV (oneP o.vs) fun p => (castP P t p).bind fun p => .ret (.pv p)).run = some x → V ρ μ x v ∧ ∀ t o, x ≠ .lp t o := fun {t x} h => by
    simp only [A.run, A.run_bind, Option.bind_eq_some_iff, Option.some.injEq] at h
    obtain ⟨p, h1, p', h2, rfl⟩ := h
    rw [castP_eq h2]
    have := oneP_some h1
    rcases hv with ⟨q, e, r⟩ | ⟨hn, _⟩
    · rw [this] at e; cases e; exact ⟨r, fun _ _ h => by cases h⟩
    · rw [this] at hn; exact absurd rfl hn
  unfold callRes at h
  split at h
  · split at h
    · simp [A.run] at h; subst h; exact ⟨trivial, fun _ _ h => by cases h⟩
    · exact single h
    · rename_i ts hts1 hts2
      simp only [A.run, A.run_bind, Option.bind_eq_some_iff, Option.some.injEq] at h
      obtain ⟨u, h0, l, h1, rfl⟩ := h
      have hlen := lenP_some h0
      obtain ⟨e, g⟩ := castN_get h1
      have : l = o.vs := ext_get (by omega) fun j p hj => by have := g j p hj; rwa [Nat.zero_add] at this
      subst this
      refine ⟨?_, fun _ _ h => by cases h⟩
      rcases hv with ⟨q, e', r⟩ | ⟨_, cs, e', r⟩
      · exfalso
        rw [e'] at e
        obtain ⟨a, ha⟩ := List.length_eq_one_iff.1 e.symm
        exact hts2 a ha
      · exact ⟨cs, e', r⟩
  · exact single h

theorem run_callFunc {f : Nat} {fn : Func} {args : Array Value} (h1 : P.funcs[f]? = some fn) (h2 : fn.body.isSome = true) (h3 : fn.name ≠ "runtime.NumGoroutine") : (callFunc f args).run P w = .ok (.enter f args) w := by
  unfold callFunc
  have hb : fn.body ≠ none := fun e => by rw [e] at h2; cases h2
  simp [h1, h3, hb]

theorem foldM2_sound {f : AV → AV → A AV} {g : Value → Value → Sem Value} (hfg : ∀ {x y : AV} {u v : Value} {r : AV}, V ρ μ x u → V ρ μ y v → (f x y).run = some r → ∃ z, (g u v).run P w = .ok z w ∧ Tells ρ r z) :
    ∀ {xs : List AV} {us : List Value} {x : AV} {u : Value} {r : AV}, V ρ μ x u → (Tells ρ x u ∨ xs ≠ []) → All2 (V ρ μ) xs us → (foldM2 f x xs).run = some r → ∃ z, (us.foldlM g u).run P w = .ok z w ∧ Tells ρ r z
  | [], _, x, u, r, hx, ht, h, hr => by
    cases h
    simp [foldM2, A.run] at hr; subst hr
    exact ⟨u, by simp, by rcases ht with h | h; exact h; exact absurd rfl h⟩
  | y :: xs, _, x, u, r, hx, ht, h, hr => by
    cases h with
    | cons a t =>
      simp only [foldM2, A.run_bind, Option.bind_eq_some_iff] at hr
      obtain ⟨c, h1, h2⟩ := hr
      obtain ⟨z, e1, p, rfl, hz⟩ := hfg hx a h1
      obtain ⟨z', e2, h3⟩ := foldM2_sound hfg (x := .pv p) hz (.inl ⟨p, rfl, hz⟩) t h2
      exact ⟨z', by simp [List.foldlM_cons, e1, e2], h3⟩

theorem maxM_sound {x y : AV} {u v : Value} {r : AV} (hx : V ρ μ x u) (hy : V ρ μ y v) (h : (maxM x y).run = some r) : ∃ z, (Builtin.max2 u v).run P w = .ok z w ∧ Tells ρ r z := by
  unfold maxM at h
  split at h
  · cases hx; cases hy; simp [mSc, A.run] at h; subst h
    exact ⟨_, by simp [Builtin.max2], _, rfl, rfl⟩
  · simp [A.run] at h
theorem minM_sound {x y : AV} {u v : Value} {r : AV} (hx : V ρ μ x u) (hy : V ρ μ y v) (h : (minM x y).run = some r) : ∃ z, (Builtin.min2 u v).run P w = .ok z w ∧ Tells ρ r z := by
  unfold minM at h
  split at h
  · cases hx; cases hy; simp [mSc, A.run] at h; subst h
    exact ⟨_, by simp [Builtin.min2], _, rfl, rfl⟩
  · simp [A.run] at h

theorem elemT_some {t e : TypeId} (h : elemT P t = some e) : P.underlying t = some (.slice e) ∧ ∃ i, P.info? e = some i := by
  unfold elemT at h
  split at h
  · rename_i e' hu
    cases hi : hasI P e' with
    | false => simp [hi] at h
    | true => simp [hi] at h; subst h; exact ⟨hu, hasI_some hi⟩
  · cases h

theorem VS_sl {s : Sl} {v : Value} (h : VS ρ (.sl s) v) : ∃ A cap, v = .slice A s.n cap := let ⟨A, cap, e, _⟩ := h; ⟨A, cap, e⟩

/-- The builtins. -/
theorem builtin_sound (hL : RL ρ μ L H w) (hH : RH ρ H w) {b : Builtin} {ts : List TypeId} {ty : TypeId} {xs : List AV} {us : List Value} (hx : All2 (V ρ μ) xs us) {x : Fx} (h : (builtinM P b ts xs L H).run = some x) :
    ∃ v w' ρ', (∀ cs : Array Bool, (Go.builtin b ts.toArray ty cs us.toArray).run P w = .ok (.value v) w') ∧ Got ρ μ L H w x ρ' μ v w' := by
  unfold builtinM at h
  split at h
  · -- len
    rename_i t x0
    cases hx with
    | @cons _ u _ _ a tl =>
      cases tl
      split at h
      · rename_i e s hu
        simp [A.run] at h; subst h
        obtain ⟨A, cap, rfl⟩ := VS_sl a
        exact ⟨.int .i64 s.n, w, ρ, fun cs => by simp [Go.builtin, Builtin.len_, run_underlying hu, goInt], Got.pure hL hH rfl⟩
      · rename_i s hu
        cases a
        simp [A.run] at h; subst h
        exact ⟨.int .i64 s.size, w, ρ, fun cs => by simp [Go.builtin, Builtin.len_, run_underlying hu, goInt], Got.pure hL hH rfl⟩
      · rename_i n e hu
        simp [A.run] at h; subst h
        exact ⟨.int .i64 n, w, ρ, fun cs => by simp [Go.builtin, Builtin.len_, run_underlying hu, goInt], Got.pure hL hH rfl⟩
      · simp [A.run] at h
  · -- append
    rename_i t u x0 y0
    cases hx with
    | @cons _ ux _ _ a tl =>
      cases tl with
      | @cons _ uy _ _ b tl =>
        cases tl
        simp only [A.run_bind, Option.bind_eq_some_iff] at h
        obtain ⟨s, h1, h⟩ := h
        rw [asSl_run h1] at a
        split at h
        · rename_i e he
          obtain ⟨hu, hi⟩ := elemT_some he
          simp only [A.run_bind, Option.bind_eq_some_iff] at h
          obtain ⟨zr, h2, src, h3, h⟩ := h
          have hzr := ofOpt_run h2
          unfold srcM at h3
          split at h3
          · rename_i eu sx hux
            simp only [A.run, Option.bind_eq_some_iff, Option.some.injEq] at h3
            obtain ⟨l, h4, rfl⟩ := h3
            simp only [A.run, Option.bind_eq_some_iff, Option.some.injEq] at h
            obtain ⟨r, h5, rfl⟩ := h
            obtain ⟨A, cap, rfl⟩ := VS_sl a
            obtain ⟨B, capB, rfl⟩ := VS_sl b
            obtain ⟨hl, vs, hv, hr⟩ := rng_sound (P := P) hH b h4 (Nat.le_refl _)
            obtain ⟨v, w', ρ', e1, e2, e3, e4, e5⟩ := appB_sound (P := P) (ty := ty) hH hL a hu ⟨eu, hux⟩ hzr hv hl (x := .slice B sx.n capB) (by simp [Builtin.lenOf]) hr h5
            exact ⟨v, w', ρ', fun cs => by simp [Go.builtin, e1], Got.mem e2 e4 e3 e5⟩
          · simp [A.run] at h3
        · simp [A.run] at h
  · -- copy
    rename_i t u x0 y0
    cases hx with
    | @cons _ ux _ _ a tl =>
      cases tl with
      | @cons _ uy _ _ b tl =>
        cases tl
        simp only [A.run_bind, Option.bind_eq_some_iff] at h
        obtain ⟨d, h1, s, h2, h⟩ := h
        rw [asSl_run h1] at a
        rw [asSl_run h2] at b
        split at h
        · rename_i e eu he heu
          obtain ⟨hu, i, hi⟩ := elemT_some he
          simp only [A.run, Option.bind_eq_some_iff, Option.some.injEq] at h
          obtain ⟨r, h5, rfl⟩ := h
          obtain ⟨A, cap, rfl⟩ := VS_sl a
          obtain ⟨B, capB, rfl⟩ := VS_sl b
          obtain ⟨w', e1, e2, e3, e4⟩ := cpB_sound (P := P) (ty := ty) (sT := u) hH hL a b hu (by rw [hi]; simp) h5
          exact ⟨_, w', ρ, fun cs => by simp [Go.builtin, e1], Got.mem rfl e3 e2 e4⟩
        · simp [A.run] at h
  · -- clear
    rename_i t x0
    cases hx with
    | @cons _ ux _ _ a tl =>
      cases tl
      simp only [A.run_bind, Option.bind_eq_some_iff] at h
      obtain ⟨s, h1, h⟩ := h
      rw [asSl_run h1] at a
      split at h
      · rename_i e he
        obtain ⟨hu, hi⟩ := elemT_some he
        simp only [A.run_bind, Option.bind_eq_some_iff, A.run, Option.some.injEq] at h
        obtain ⟨zr, h2, H', h5, rfl⟩ := h
        obtain ⟨A, cap, rfl⟩ := VS_sl a
        obtain ⟨w', e1, e2, e3, e4⟩ := clrB_sound (P := P) (ty := ty) hH hL a hu (ofOpt_run h2) h5
        exact ⟨_, w', ρ, fun cs => by simp [Go.builtin, e1], ⟨#[], rfl, .nil⟩, (fun _ _ h => by cases h), e3, e2, e4⟩
      · simp [A.run] at h
  · -- min
    rename_i x0 y0 xs
    cases hx with
    | @cons _ u _ us a us' =>
      simp only [A.run_bind, Option.bind_eq_some_iff, A.run, Option.some.injEq] at h
      obtain ⟨r, h1, rfl⟩ := h
      obtain ⟨z, e1, p, rfl, hz⟩ := foldM2_sound (P := P) (w := w) (g := Builtin.min2) (fun h1 h2 h3 => minM_sound h1 h2 h3) a (.inr (by simp)) us' h1
      exact ⟨z, w, ρ, fun cs => by simp [Go.builtin, Builtin.min_, e1], Got.pure hL hH hz⟩
  · -- max
    rename_i x0 y0 xs
    cases hx with
    | @cons _ u _ us a us' =>
      simp only [A.run_bind, Option.bind_eq_some_iff, A.run, Option.some.injEq] at h
      obtain ⟨r, h1, rfl⟩ := h
      obtain ⟨z, e1, p, rfl, hz⟩ := foldM2_sound (P := P) (w := w) (g := Builtin.max2) (fun h1 h2 h3 => maxM_sound h1 h2 h3) a (.inr (by simp)) us' h1
      exact ⟨z, w, ρ, fun cs => by simp [Go.builtin, Builtin.max_, e1], Got.pure hL hH hz⟩
  · simp [A.run] at h
end
end Go.Abs
/- One operation, whatever it is: what the abstract interpreter answers, the model does. -/
namespace Go.Abs
set_option linter.unusedVariables false
set_option linter.unusedSimpArgs false

section
variable {P : Program} {ρ : RM} {μ : MM} {L : LM} {H : AH} {w : World}

theorem asPVs_all {e : Operand → AV} {f : Operand → Value} (hv : ∀ x, V ρ μ (e x) (f x)) : ∀ {l : List Operand} {ps : List PV}, (asPVs (l.map e)).run = some ps → All2 (VP ρ) ps (l.map f)
  | [], ps, h => by simp [asPVs, A.run] at h; subst h; exact .nil
  | x :: l, ps, h => by
    simp only [List.map_cons, asPVs, A.run_bind, Option.bind_eq_some_iff, A.run, Option.some.injEq] at h
    obtain ⟨p, h1, ps', h2, rfl⟩ := h
    have := hv x
    rw [asPV_run h1] at this
    exact .cons this (asPVs_all hv h2)
theorem all_V {e : Operand → AV} {f : Operand → Value} (hv : ∀ x, V ρ μ (e x) (f x)) (l : List Operand) : All2 (V ρ μ) (l.map e) (l.map f) := by
  induction l with
  | nil => exact .nil
  | cons x l ih => exact .cons (hv x) ih

theorem br_run {α : Type} {b : Bool} {x : A α} {r : α} (h : (A.br b x .fail).run = some r) : b = true ∧ x.run = some r := by
  cases b
  · simp [A.run] at h
  · exact ⟨rfl, h⟩
theorem br_run' {α : Type} {b : Bool} {x : A α} {r : α} (h : (A.br b .fail x).run = some r) : b = false ∧ x.run = some r := by
  cases b
  · exact ⟨rfl, h⟩
  · simp [A.run] at h

theorem op_sound {C : Oracle} (hC : SndFn P C) (hL : RL ρ μ L H w) (hH : RH ρ H w) {cf : Cfg} {fid : Option Nat} {o : Oper} {a : Act} {e : Operand → AV} (hv : ∀ x, V ρ μ (e x) (a.eval x)) (hlp : ∀ x t n, e x = .lp t n → (L t).isSome = true)
    {x : Fx} (h : (opM P C cf fid o e L H).run = some x) : Does P o a w fun v w' => ∃ ρ' μ', Got ρ μ L H w x ρ' μ' v w' := by
  obtain ⟨dst, op, type, pos, after, guard⟩ := o
  cases op with
  | move y =>
    simp only [opM, A.run, Option.some.injEq] at h; subst h
    exact .inl ⟨_, w, by simp [execOp], ρ, μ, Got.same hL hH (hv y) (hlp y)⟩
  | assign y =>
    simp only [opM, A.run, Option.some.injEq] at h; subst h
    exact .inl ⟨_, w, by simp [execOp], ρ, μ, Got.same hL hH (hv y) (hlp y)⟩
  | nilCheck y =>
    simp only [opM] at h
    split at h
    · rename_i b o he
      simp only [A.run, Option.some.injEq] at h; subst h
      have hy := hv y
      rw [he] at hy
      obtain ⟨bs, h1, h2⟩ := hy
      have hy' := hv y
      have hl' := hlp y
      rw [he] at hy' hl'
      exact .inl ⟨_, w, by simp only [execOp, h2]; rfl, ρ, μ, Got.same hL hH (by rw [← h2]; exact hy') hl'⟩
    · rename_i d o he
      simp only [A.run, Option.some.injEq] at h; subst h
      have hy := hv y
      rw [he] at hy
      obtain ⟨bs, h1, h2⟩ := hy
      have hy' := hv y
      have hl' := hlp y
      rw [he] at hy' hl'
      exact .inl ⟨_, w, by simp only [execOp, h2]; rfl, ρ, μ, Got.same hL hH (by rw [← h2]; exact hy') hl'⟩
    · simp [A.run] at h
  | pick c y z =>
    simp only [opM, A.run_bind, Option.bind_eq_some_iff, A.run] at h
    obtain ⟨t, h1, h2⟩ := h
    have hc := hv c
    rw [asB_run h1] at hc
    have hc' : a.eval c = .bool t := hc
    cases t
    · simp only [cond_false, Option.some.injEq] at h2; subst h2
      exact .inl ⟨_, w, by simp [execOp, hc', Go.asBool], ρ, μ, Got.same hL hH (hv z) (hlp z)⟩
    · simp only [cond_true, Option.some.injEq] at h2; subst h2
      exact .inl ⟨_, w, by simp [execOp, hc', Go.asBool], ρ, μ, Got.same hL hH (hv y) (hlp y)⟩
  | alloc t =>
    simp only [opM, A.run_bind, Option.bind_eq_some_iff] at h
    obtain ⟨cs, h1, h2⟩ := h
    obtain ⟨z, hz, hzv, _, _⟩ := run_zero (ρ := ρ) (w := w) (ofOpt_run h1)
    obtain ⟨ρ', μ', g⟩ := allocM_sound hL hH h2 hzv
    exact .inl ⟨_, _, by simp only [execOp, Instr.alloc, Sem.run_bind, hz, Result.andThen_ok, newVar, newRow, run_newObj, Sem.run_pure], ρ', μ', g⟩
  | box t y =>
    simp only [opM, A.run_bind, Option.bind_eq_some_iff] at h
    obtain ⟨cs, h1, h2⟩ := h
    obtain ⟨ρ', μ', g⟩ := allocM_sound hL hH h2 (rows_VSs (hv y) (ofOpt_run h1))
    exact .inl ⟨_, _, by simp only [execOp, Instr.box, Sem.run_bind, Result.andThen_ok, newVar, newRow, run_newObj, Sem.run_pure], ρ', μ', g⟩
  | build t parts =>
    simp only [opM] at h
    split at h
    · rename_i fs hu
      simp only [A.run_bind, Option.bind_eq_some_iff, A.run, Option.some.injEq] at h
      obtain ⟨zr, h1, ps, h2, pl, h3, cs, h4, rfl⟩ := h
      obtain ⟨r, hr, hrv⟩ := build_sound (w := w) hu (ofOpt_run h1) (ofOpt_run h3) (partsM_run hv h2) (getO_run h4)
      refine .inl ⟨.agg r, w, ?_, ρ, μ, Got.pure hL hH ⟨r, rfl, hrv⟩⟩
      have e1 : (parts.map fun x => (x.1, a.eval x.2)) = (parts.toList.map fun x => (x.1, a.eval x.2)).toArray := by apply Array.ext'; simp
      simp only [execOp, Sem.run_bind]
      rw [e1, hr]; rfl
    · simp [A.run] at h
  | buildSlice t len parts =>
    simp only [opM] at h
    split at h
    · rename_i el hu
      simp only [A.run_bind, Option.bind_eq_some_iff] at h
      obtain ⟨zr, h1, ps, h2, cs, h4, h⟩ := h
      obtain ⟨hb, h⟩ := br_run h
      simp only [A.run_bind, Option.bind_eq_some_iff, A.run, Option.some.injEq] at h
      obtain ⟨r0, h5, rfl⟩ := h
      obtain ⟨r, hr, hrv, hrs⟩ := buildSlice_sound (w := w) hu (ofOpt_run h1) hb (partsM_run hv h2) (ofOpt_run h4)
      obtain ⟨ρ', g1, _, g3, g4, g5⟩ := freshM_sound (w' := { w with heap := w.heap.push (.cells r el) }) (vs := r.toList) (ty := el) hH hL h5 hrv (by
        have := Grew.alloc w (.cells r el); simpa using this)
      refine .inl ⟨_, _, ?_, ρ', μ, Got.mem (g1 len (by simpa using hrs)) g4 g3 g5⟩
      have e1 : (parts.map fun x => (x.1, a.eval x.2)) = (parts.toList.map fun x => (x.1, a.eval x.2)).toArray := by apply Array.ext'; simp
      simp only [execOp, Sem.run_bind]
      rw [e1, hr]; rfl
    · simp [A.run] at h
  | load t y =>
    simp only [opM, A.run_bind, Option.bind_eq_some_iff, A.run, Option.some.injEq] at h
    obtain ⟨r, h1, rfl⟩ := h
    obtain ⟨v, hr, hvv, p, rfl⟩ := load_sound (P := P) hL hH (hv y) h1
    exact .inl ⟨v, w, by simp [execOp, hr], ρ, μ, Got.pure hL hH hvv⟩
  | store t y z =>
    simp only [opM] at h
    obtain ⟨hb, h⟩ := br_run h
    have hi := hasI_some hb
    obtain ⟨w', hr, g⟩ := store_sound (P := P) hL hH hi (hv y) (hv z) h
    exact .inr (.inl ⟨w', by simp [execOp, hr], ρ, μ, g⟩)
  | binOp op t y z _ =>
    simp only [opM, A.run_bind, Option.bind_eq_some_iff, A.run, Option.some.injEq] at h
    obtain ⟨r, h1, rfl⟩ := h
    obtain ⟨v, hr, p, rfl, hp⟩ := binM_sound (P := P) (w := w) (ox := y) (oy := z) (hv y) (hv z) h1
    refine .inl ⟨v, w, ?_, ρ, μ, Got.pure hL hH hp⟩
    simp only [execOp]
    rw [Sem.run_bind, hr]; rfl
  | unOp op t y =>
    simp only [opM, A.run_bind, Option.bind_eq_some_iff, A.run, Option.some.injEq] at h
    obtain ⟨r, h1, rfl⟩ := h
    obtain ⟨v, hr, p, rfl, hp⟩ := unM_sound (P := P) (w := w) (hv y) h1
    exact .inl ⟨v, w, by simp [execOp, hr], ρ, μ, Got.pure hL hH hp⟩
  | convert s d y =>
    simp only [opM, A.run_bind, Option.bind_eq_some_iff, A.run, Option.some.injEq] at h
    obtain ⟨r, h1, rfl⟩ := h
    obtain ⟨v, hr, p, rfl, hp⟩ := convM_sound (P := P) (w := w) (hv y) h1
    exact .inl ⟨v, w, by simp [execOp, hr], ρ, μ, Got.pure hL hH hp⟩
  | makeSlice t l c =>
    simp only [opM] at h
    split at h
    · rename_i el he
      obtain ⟨hu, hi⟩ := elemT_some he
      simp only [A.run_bind, Option.bind_eq_some_iff] at h
      obtain ⟨nl, h1, nc, h2, zr, h3, h⟩ := h
      obtain ⟨kl, hkl⟩ := asInt_run h1
      obtain ⟨kc, hkc⟩ := asInt_run h2
      have el := hv l
      have ec := hv c
      rw [hkl] at el; rw [hkc] at ec
      have el' : a.eval l = .int kl nl := el
      have ec' : a.eval c = .int kc nc := ec
      split at h
      · simp only [A.run, Option.bind_eq_some_iff, Option.some.injEq] at h
        obtain ⟨r, h4, rfl⟩ := h
        obtain ⟨v, w', ρ', e1, e2, e3, e4, e5⟩ := mkB_sound (P := P) (kl := kl) (kc := kc) hH hL hu (ofOpt_run h3) h4
        exact .inl ⟨v, w', by simp [execOp, el', ec', e1], ρ', μ, Got.mem e2 e4 e3 e5⟩
      · simp only [A.run, Option.bind_eq_some_iff, Option.some.injEq] at h
        obtain ⟨r, h4, rfl⟩ := h
        obtain ⟨v, w', ρ', e1, e2, e3, e4, e5⟩ := mkAt_sound (P := P) (kl := kl) (kc := kc) hH hL hu (ofOpt_run h3) h4
        exact .inl ⟨v, w', by simp [execOp, el', ec', e1], ρ', μ, Got.mem e2 e4 e3 e5⟩
    · simp [A.run] at h
  | slice t y lo hi mx =>
    simp only [opM] at h
    split at h
    · rename_i el hu
      obtain ⟨hb, h⟩ := br_run h
      simp only [Bool.and_eq_true] at hb
      simp only [A.run_bind, Option.bind_eq_some_iff] at h
      obtain ⟨s, h1, nlo, h2, nhi, h3, nmx, h4, u, h5, h⟩ := h
      simp only [A.run, Option.bind_eq_some_iff, Option.some.injEq] at h
      obtain ⟨r, h6, rfl⟩ := h
      have hs := hv y
      rw [asSl_run h1] at hs
      have hz : tsz P el = 1 ∨ lo = none ∨ zOk H s (tsz P el) = some () := by
        cases hq : Nat.beq (tsz P el) 1 with
        | true => exact .inl (Nat.eq_of_beq_eq_true hq)
        | false =>
          cases lo with
          | none => exact .inr (.inl rfl)
          | some z =>
            simp only [hq, A.run, Option.bind_eq_some_iff, Option.some.injEq] at h5
            obtain ⟨q, h5, _⟩ := h5
            exact .inr (.inr h5)
      obtain ⟨v, hr, hvv⟩ := slice_sound (P := P) (w := w) hH hu (hasI_some hb.1) hs hv h2 h3 h4 (fun h => by
        have := hb.2
        rw [h] at this
        simpa using this) hz h6
      exact .inl ⟨v, w, by simp [execOp, hr], ρ, μ, Got.pure hL hH hvv⟩
    · simp [A.run] at h
  | fieldAddr s y n =>
    simp only [opM] at h
    split at h
    · rename_i fs hu
      split at h
      · rename_i f hf
        obtain ⟨hb, h⟩ := br_run' h
        split at h
        · rename_i d q hy
          simp only [A.run, Option.some.injEq] at h; subst h
          have hvy := hv y
          rw [hy] at hvy
          obtain ⟨k, hm, e1⟩ := hvy
          exact .inl ⟨_, w, by simp [execOp, e1, fieldAt_sound (w := w) hu hf hb], ρ, μ, Got.same hL hH ⟨k, hm, rfl⟩ fun t o he => by cases he; exact hlp y d q hy⟩
        · rename_i b q hy
          simp only [A.run, Option.some.injEq] at h; subst h
          have hvy := hv y
          rw [hy] at hvy
          obtain ⟨bs, hm, e1⟩ := hvy
          exact .inl ⟨.pointer (some ⟨bs.blk, bs.off + q + f.offset, none⟩), w, by simp [execOp, e1, fieldAt_sound (w := w) hu hf hb], ρ, μ, Got.pure hL hH ⟨bs, hm, by rw [Nat.add_assoc]⟩⟩
        · simp [A.run] at h
      · simp [A.run] at h
    · simp [A.run] at h
  | field t y n =>
    simp only [opM] at h
    split at h
    · rename_i fs l hu hy
      split at h
      · rename_i f hf
        simp only [A.run_bind, Option.bind_eq_some_iff, A.run, Option.some.injEq] at h
        obtain ⟨p, h1, rfl⟩ := h
        have hvy := hv y
        rw [hy] at hvy
        obtain ⟨cs, e1, hcs⟩ := hvy
        obtain ⟨v, hr, hp⟩ := part_sound (P := P) (w := w) h1 hcs
        exact .inl ⟨v, w, by simp [execOp, e1, Instr.field, run_underlying hu, hf, Go.asAgg, hr], ρ, μ, Got.pure hL hH hp⟩
      · simp [A.run] at h
    · simp [A.run] at h
  | indexAddr t y i =>
    simp only [opM, A.run_bind, Option.bind_eq_some_iff] at h
    obtain ⟨n, h1, h⟩ := h
    obtain ⟨k, hk⟩ := asInt_run h1
    have hn := hv i
    rw [hk] at hn
    have hn' : a.eval i = .int k n := hn
    have hvy := hv y
    split at h
    · rename_i el s hu hy
      obtain ⟨hb, h⟩ := br_run h
      obtain ⟨ie, hie⟩ := hasI_some hb
      simp only [A.run, Option.bind_eq_some_iff, Option.some.injEq] at h
      obtain ⟨q, h2, rfl⟩ := h
      obtain ⟨i0, i1, rfl⟩ := ixA_some h2
      rw [hy] at hvy
      obtain ⟨A, cap, e1, g1, g2, g3, g4⟩ := hvy
      rcases g4 with g4 | ⟨bs, f1, rfl, f2⟩
      · omega
      · exact .inl ⟨.pointer (some ⟨bs.blk, bs.off + s.o + n.toNat * tsz P el, none⟩), w, by simp [execOp, hn', e1, indexAt_slice (w := w) hu hie i0 i1], ρ, μ, Got.pure hL hH ⟨bs, f1, by rw [Nat.add_assoc]⟩⟩
    · rename_i m el d q hu hy
      obtain ⟨hb, h⟩ := br_run h
      obtain ⟨ie, hie⟩ := hasI_some hb
      simp only [A.run, Option.bind_eq_some_iff, Option.some.injEq] at h
      obtain ⟨q', h2, rfl⟩ := h
      obtain ⟨i0, i1, rfl⟩ := ixA_some h2
      rw [hy] at hvy
      obtain ⟨kk, hm, e1⟩ := hvy
      exact .inl ⟨_, w, by simp [execOp, hn', e1, indexAt_array (w := w) hu hie i0 i1], ρ, μ, Got.same hL hH ⟨kk, hm, rfl⟩ fun t o he => by cases he; exact hlp y d q hy⟩
    · rename_i m el b q hu hy
      obtain ⟨hb, h⟩ := br_run h
      obtain ⟨ie, hie⟩ := hasI_some hb
      simp only [A.run, Option.bind_eq_some_iff, Option.some.injEq] at h
      obtain ⟨q', h2, rfl⟩ := h
      obtain ⟨i0, i1, rfl⟩ := ixA_some h2
      rw [hy] at hvy
      obtain ⟨bs, hm, e1⟩ := hvy
      exact .inl ⟨.pointer (some ⟨bs.blk, bs.off + q + n.toNat * tsz P el, none⟩), w, by simp [execOp, hn', e1, indexAt_array (w := w) hu hie i0 i1], ρ, μ, Got.pure hL hH ⟨bs, hm, by simp [Nat.add_assoc]⟩⟩
    · simp [A.run] at h
  | index t y i =>
    simp only [opM, A.run_bind, Option.bind_eq_some_iff] at h
    obtain ⟨n, h1, h⟩ := h
    obtain ⟨k, hk⟩ := asInt_run h1
    have hn := hv i
    rw [hk] at hn
    have hn' : a.eval i = .int k n := hn
    have hvy := hv y
    split at h
    · rename_i m el l hu hy
      obtain ⟨hb, h⟩ := br_run h
      obtain ⟨ie, hie⟩ := hasI_some hb
      simp only [A.run, A.run_bind, Option.bind_eq_some_iff, Option.some.injEq] at h
      obtain ⟨q', h2, p, h3, rfl⟩ := h
      obtain ⟨i0, i1, rfl⟩ := ixA_some h2
      rw [hy] at hvy
      obtain ⟨cs, e1, hcs⟩ := hvy
      obtain ⟨v, hr, hp⟩ := part_sound (P := P) (w := w) h3 hcs
      simp only [Nat.zero_add] at hr
      refine .inl ⟨v, w, ?_, ρ, μ, Got.pure hL hH hp⟩
      simp only at i1
      simp [execOp, hn', e1, Instr.index, Go.asIntOf, run_underlying hu, i0, i1, run_sizeI hie, hr]
    · simp [A.run] at h
  | extract y i =>
    simp only [opM] at h
    split at h
    · rename_i l hy
      simp only [A.run_bind, Option.bind_eq_some_iff, A.run, Option.some.injEq] at h
      obtain ⟨p, h1, rfl⟩ := h
      have h2 := ofOpt_run h1
      have hvy := hv y
      rw [hy] at hvy
      obtain ⟨vs, e1, hvs⟩ := hvy
      have : ∃ v, vs[i]? = some v ∧ VP ρ p v := by
        have gen : ∀ {l : List PV} {us : List Value} {i : Nat}, All2 (VP ρ) l us → l[i]? = some p → ∃ v, us[i]? = some v ∧ VP ρ p v := by
          intro l us i h
          induction h generalizing i with
          | nil => intro h; simp at h
          | cons a _ ih =>
            intro h
            cases i with
            | zero => simp at h; subst h; exact ⟨_, rfl, a⟩
            | succ i => simp at h; simpa using ih h
        obtain ⟨v, hv1, hv2⟩ := gen hvs h2
        exact ⟨v, by simpa using hv1, hv2⟩
      obtain ⟨v, hv1, hv2⟩ := this
      exact .inl ⟨v, w, by simp [execOp, e1, Instr.extract, hv1], ρ, μ, Got.pure hL hH hv2⟩
    · simp [A.run] at h
  | call c =>
    obtain ⟨callee, args, argTypes⟩ := c
    have hargs : args.map a.eval = (args.toList.map a.eval).toArray := by apply Array.ext'; simp
    simp only [opM] at h
    split at h
    · rename_i b
      obtain ⟨v, w', ρ', e1, g⟩ := builtin_sound (P := P) (ty := type) hL hH (all_V hv args.toList) h
      refine .inl ⟨v, w', ?_, ρ', μ, g⟩
      simp only [execOp, resolve, Sem.run_bind, Sem.run_pure, Result.andThen_ok, invoke]
      rw [hargs]
      have e2 := e1 (args.map fun | .const _ => true | _ => false)
      rw [Array.toArray_toList] at e2
      exact e2
    · rename_i f
      split at h
      · rename_i g hg
        simp only [A.run_bind, Option.bind_eq_some_iff, A.run, Option.some.injEq] at h
        obtain ⟨xs, h1, r, h2, v', h3, rfl⟩ := h
        obtain ⟨⟨fn, f1, f2, f3⟩, hS⟩ := hC g xs H r h2
        have hvf := hv f
        rw [hg] at hvf
        have hvf' : a.eval f = .func (.func g) #[] #[] := hvf
        refine .inr (.inr ⟨g, _, w, ?_, (hS ρ w _ hH (asPVs_all hv h1)).mono ?_⟩)
        · simp only [execOp, resolve, Sem.run_bind, hvf', Deferred.ofValue, Sem.run_pure, Result.andThen_ok, invoke, hargs]
          have : (#[] ++ (args.toList.map a.eval).toArray ++ #[] : Array Value) = (args.toList.map a.eval).toArray := by simp
          rw [this]
          exact run_callFunc f1 f2 f3
        · rintro e' w' ⟨v, ρ', rfl, hres, hH', hE⟩
          obtain ⟨c1, c2⟩ := callRes_sound (μ := μ) h3 hres
          exact ⟨v, rfl, ρ', μ, c1, fun t o h => absurd h (c2 t o), call_rl hL hH hE, hH', call_evo hE⟩
      · simp [A.run] at h
    · simp [A.run] at h
  | _ => simp [opM, A.run] at h
end
end Go.Abs
/- Regions in the order of the text. -/
namespace Go.Abs
set_option linter.unusedVariables false
set_option linter.unusedSimpArgs false

structure Rel (cf : Cfg) (ρ : RM) (μ : MM) (s : St) (a : Act) (w : World) : Prop where
  size : a.tmps.size = cf.nt
  slot : ∀ t, V ρ μ (s.env t) (a.tmps.getD t undef)
  lps : ∀ t t' o, s.env t = .lp t' o → (s.L t').isSome = true
  rl : RL ρ μ s.L s.H w
  rh : RH ρ s.H w
  defers : a.defers = []

def Keeps (wr : List Nat) (a a' : Act) : Prop := ∀ t, t ∉ wr → a'.tmps.getD t undef = a.tmps.getD t undef
theorem Keeps.refl (wr : List Nat) (a : Act) : Keeps wr a a := fun _ _ => rfl
theorem Keeps.trans {wr : List Nat} {a b c : Act} (h : Keeps wr a b) (k : Keeps wr b c) : Keeps wr a c := fun t ht => (k t ht).trans (h t ht)
theorem Keeps.mono {wr wr' : List Nat} {a b : Act} (h : Keeps wr a b) (hs : ∀ t, t ∈ wr → t ∈ wr') : Keeps wr' a b := fun t ht => h t fun h' => ht (hs t h')

section
variable {P : Program} {ρ : RM} {μ : MM} {w : World} {cf : Cfg}

theorem updE_self {e : Env} {d : Nat} {v : AV} : updE e d v d = v := by simp [updE]
theorem updE_ne {e : Env} {d t : Nat} {v : AV} (h : t ≠ d) : updE e d v t = e t := by
  have : Nat.beq t d = false := by
    cases e : Nat.beq t d with
    | false => rfl
    | true => exact absurd (Nat.eq_of_beq_eq_true e) h
  simp only [updE, this, cond_false]

theorem put_size (a : Act) (dst : Option Tmp) (v : Value) : (a.put dst v).tmps.size = a.tmps.size := by cases dst <;> simp [Act.put]
theorem put_defers (a : Act) (dst : Option Tmp) (v : Value) : (a.put dst v).defers = a.defers := by cases dst <;> rfl
theorem put_self {a : Act} {d : Nat} {v : Value} (h : d < a.tmps.size) : (a.put (some d) v).tmps.getD d undef = v := by simp [Act.put, h]
theorem put_ne {a : Act} {d t : Nat} {v : Value} (h : t ≠ d) : (a.put (some d) v).tmps.getD t undef = a.tmps.getD t undef := by
  simp [Act.put, Array.getElem?_setIfInBounds, Ne.symm h]
theorem put_keeps (a : Act) (dst : Option Tmp) (v : Value) : Keeps dst.toList a (a.put dst v) := fun t ht => by
  cases dst with
  | none => rfl
  | some d => exact put_ne (by rintro rfl; simp at ht)

/-- A value is put where the operation says. -/
theorem putM_sound {s : St} {a : Act} (hR : Rel cf ρ μ s a w) {x : Fx} {ρ' : RM} {μ' : MM} {v : Value} {w' : World} (g : Got ρ μ s.L s.H w x ρ' μ' v w') {dst : Option Tmp} {s' : St} (h : (putM cf s dst x).run = some s') :
    Rel cf ρ' μ' s' (a.put dst v) w' ∧ s'.L = x.L ∧ s'.H = x.H := by
  have hsub := g.evo.sub hR.rh
  have hold : ∀ t, V ρ' μ' (s.env t) (a.tmps.getD t undef) := fun t => (hR.slot t).mono hsub fun t' o e => (g.evo.lok t' (hR.lps t t' o e)).2
  have hlp : ∀ t t' o, s.env t = .lp t' o → (x.L t').isSome = true := fun t t' o e => (g.evo.lok t' (hR.lps t t' o e)).1
  cases dst with
  | none =>
    simp only [putM, A.run, Option.some.injEq] at h; subst h
    exact ⟨⟨hR.size, hold, hlp, g.rl, g.rh, hR.defers⟩, rfl, rfl⟩
  | some d =>
    simp only [putM] at h
    obtain ⟨hb, h⟩ := br_run h
    simp only [A.run, Option.some.injEq] at h; subst h
    have hd : d < a.tmps.size := by rw [hR.size]; exact Nat.lt_of_succ_le (Nat.le_of_ble_eq_true hb)
    refine ⟨⟨by rw [put_size]; exact hR.size, fun t => ?_, fun t t' o e => ?_, g.rl, g.rh, by rw [put_defers]; exact hR.defers⟩, rfl, rfl⟩
    · by_cases ht : t = d
      · subst ht; simp only [updE_self]; rw [put_self hd]; exact g.val
      · simp only [updE_ne ht]; rw [put_ne ht]; exact hold t
    · by_cases ht : t = d
      · subst ht; simp only [updE_self] at e; exact g.lp t' o e
      · simp only [updE_ne ht] at e; exact hlp t t' o e

/-- A guard, in the abstract and in the model. -/
theorem wantM_sound {ops : Array Oper} {o : Oper} {s : St} {a : Act} (hR : Rel cf ρ μ s a w) {r : Bool × St} (h : (wantM ops.toList cf o s).run = some r) :
    Region.wanted o (yielded ops a.tmps) = r.1 ∧ Rel cf ρ μ r.2 a w ∧ r.2.L = s.L ∧ r.2.H = s.H := by
  unfold wantM at h
  cases hg : o.guard with
  | none =>
    simp only [hg, A.run, Option.some.injEq] at h; subst h
    exact ⟨by simp [Region.wanted, hg], hR, rfl, rfl⟩
  | some g =>
    obtain ⟨j, want⟩ := g
    simp only [hg] at h
    cases hd : (ops.toList[j]?).bind (·.dst) with
    | none => simp only [hd] at h; simp [A.run] at h
    | some d =>
      simp only [hd] at h
      obtain ⟨hb, h⟩ := br_run h
      have hdl : d < a.tmps.size := by rw [hR.size]; exact Nat.lt_of_succ_le (Nat.le_of_ble_eq_true hb)
      have hd' : (ops[j]?).bind (·.dst) = some d := by simpa using hd
      have hget : a.tmps[d]? = some (a.tmps.getD d undef) := by simp [hdl]
      have hy : ∀ b, a.tmps.getD d undef = .bool b → yielded ops a.tmps j = some b := fun b e => by
        unfold yielded; rw [hd']; simp only [Option.bind_some]; rw [hget, e]
      have hy0 : ∀ vs, a.tmps.getD d undef = .tuple vs → yielded ops a.tmps j = none := fun b e => by
        unfold yielded; rw [hd']; simp only [Option.bind_some]; rw [hget, e]
      have hw : Region.wanted o (yielded ops a.tmps) = (yielded ops a.tmps j == some want) := by simp [Region.wanted, hg]
      have hslot := hR.slot d
      split at h
      · rename_i he
        simp only [A.run, Option.some.injEq] at h; subst h
        rw [he] at hslot
        obtain ⟨vs, e, _⟩ := hslot
        refine ⟨?_, hR, rfl, rfl⟩
        rw [hw, hy0 _ e]; rfl
      · simp only [A.run_bind, Option.bind_eq_some_iff] at h
        obtain ⟨b, h1, h2⟩ := h
        have he := asB_run h1
        rw [he] at hslot
        have e : a.tmps.getD d undef = .bool b := hslot
        have hrel : ∀ b', b' = b → Rel cf ρ μ ⟨updE s.env d (.pv (.sc (.bool b'))), s.L, s.H⟩ a w := fun b' hb' => by
          subst hb'
          refine ⟨hR.size, fun t => ?_, fun t t' o' e' => ?_, hR.rl, hR.rh, hR.defers⟩
          · by_cases ht : t = d
            · subst ht; simp only [updE_self]; exact e
            · simp only [updE_ne ht]; exact hR.slot t
          · by_cases ht : t = d
            · subst ht; simp only [updE_self] at e'; cases e'
            · simp only [updE_ne ht] at e'; exact hR.lps t t' o' e'
        cases b with
        | true =>
          simp only [A.run, cond_true, Option.some.injEq] at h2; subst h2
          refine ⟨?_, hrel true rfl, rfl, rfl⟩
          rw [hw, hy _ e]; cases want <;> rfl
        | false =>
          simp only [A.run, cond_false, Option.some.injEq] at h2; subst h2
          refine ⟨?_, hrel false rfl, rfl, rfl⟩
          rw [hw, hy _ e]; cases want <;> rfl

theorem Rel.eval {s : St} {a : Act} (hR : Rel cf ρ μ s a w) (x : Operand) : V ρ μ (evO s.env x) (a.eval x) := V_eval hR.slot x
theorem Rel.evlp {s : St} {a : Act} (hR : Rel cf ρ μ s a w) (x : Operand) (t n : Nat) (h : evO s.env x = .lp t n) : (s.L t).isSome = true := by
  cases x with
  | tmp t' => exact hR.lps t' t n h
  | const v =>
    simp only [evO, avOf] at h
    split at h <;> cases h
  | global g => cases h
  | func f => cases h

theorem skip_got {s : St} {a : Act} (hR : Rel cf ρ μ s a w) : Got ρ μ s.L s.H w ⟨.tup [], s.L, s.H⟩ ρ μ undef w :=
  Got.same hR.rl hR.rh ⟨#[], rfl, .nil⟩ fun _ _ h => by cases h

/-- One operation in its place. -/
theorem stepM_sound {C : Oracle} (hC : SndFn P C) {ops : Array Oper} {i : Nat} {o : Oper} (ho : ops[i]? = some o) {s s' : St} {a : Act} (hR : Rel cf ρ μ s a w) (h : (stepM P C cf ops.toList o s).run = some s') {K : Act → World → Prop} {Q : Exit → Act → World → Prop}
    (hK : ∀ ρ' μ' a' w', Rel cf ρ' μ' s' a' w' → Evo ρ μ s.L s.H w ρ' μ' s'.L s'.H w' → Keeps o.dst.toList a a' → K a' w') : wpOp P ops Q i K a w := by
  simp only [stepM, A.run_bind, Option.bind_eq_some_iff] at h
  obtain ⟨r, h1, h2⟩ := h
  obtain ⟨hw, hR', hL, hH⟩ := wantM_sound hR h1
  unfold wpOp
  simp only [ho, hw]
  cases hb : r.1 with
  | true =>
    simp only [hb, A.run_bind, Option.bind_eq_some_iff] at h2
    obtain ⟨x, h3, h4⟩ := h2
    simp only [if_true]
    refine .inl ((op_sound hC hR'.rl hR'.rh (fun y => hR'.eval y) (fun y t n e => hR'.evlp y t n e) h3).wp fun v w' ⟨ρ', μ', g⟩ => ?_)
    obtain ⟨hR2, e1, e2⟩ := putM_sound hR' g h4
    exact hK ρ' μ' _ w' hR2 (by rw [e1, e2, ← hL, ← hH]; exact g.evo) (put_keeps _ _ _)
  | false =>
    simp only [hb] at h2
    simp only [Bool.false_eq_true, if_false]
    obtain ⟨hR2, e1, e2⟩ := putM_sound hR' (skip_got hR') h2
    exact hK ρ μ _ w hR2 (by rw [e1, e2, hL, hH]; exact Evo.refl ..) (put_keeps _ _ _)

def opWrites (ops : List Oper) : List Nat := ops.filterMap (·.dst)

theorem foldM_sound {C : Oracle} (hC : SndFn P C) {ops : Array Oper} {Q : Exit → Act → World → Prop} : ∀ (l : List Oper) (k : Nat) {ρ : RM} {μ : MM} {s s' : St} {a : Act} {w : World}, (∀ j, l[j]? = ops[k + j]?) → Rel cf ρ μ s a w → (foldA (stepM P C cf ops.toList) l s).run = some s' →
    (∀ ρ' μ' a' w', Rel cf ρ' μ' s' a' w' → Evo ρ μ s.L s.H w ρ' μ' s'.L s'.H w' → Keeps (opWrites l) a a' → Q .normal a' w') → wpOps P ops Q (List.range' k l.length) a w
  | [], k, ρ, μ, s, s', a, w, _, hR, h, hQ => by
    simp only [foldA, A.run, Option.some.injEq] at h; subst h
    exact hQ ρ μ a w hR (Evo.refl ..) (Keeps.refl _ _)
  | o :: l, k, ρ, μ, s, s', a, w, hl, hR, h, hQ => by
    simp only [foldA, A.run_bind, Option.bind_eq_some_iff] at h
    obtain ⟨s1, h1, h2⟩ := h
    simp only [List.length_cons, List.range'_succ]
    rw [wpOps_cons]
    refine stepM_sound hC (by simpa using (hl 0).symm) hR h1 fun ρ' μ' a' w' hR' hE hk => ?_
    refine foldM_sound hC l (k + 1) (fun j => by have := hl (j + 1); simpa [Nat.add_assoc, Nat.add_comm 1 j] using this) hR' h2 fun ρ'' μ'' a'' w'' hR'' hE' hk' => ?_
    refine hQ ρ'' μ'' a'' w'' hR'' (hE.trans hE') ((hk.mono fun t ht => ?_).trans (hk'.mono fun t ht => ?_))
    · cases hd : o.dst with
      | none => rw [hd] at ht; simp at ht
      | some d => rw [hd] at ht; simp at ht; subst ht; simp [opWrites, hd]
    · unfold opWrites at *
      simp only [List.filterMap_cons]
      cases o.dst with
      | none => exact ht
      | some d => exact List.mem_cons_of_mem _ ht

theorem region_sound {C : Oracle} (hC : SndFn P C) {id : Nat} {ops : Array Oper} {s s' : St} {a : Act} (hR : Rel cf ρ μ s a w) (h : (foldA (stepM P C cf ops.toList) ops.toList s).run = some s') {Q : Exit → Act → World → Prop}
    (hQ : ∀ ρ' μ' a' w', Rel cf ρ' μ' s' a' w' → Evo ρ μ s.L s.H w ρ' μ' s'.L s'.H w' → Keeps (opWrites ops.toList) a a' → Q .normal a' w') : (Code.region id ops false).wp P Q a w := by
  refine wp_region ?_
  have := foldM_sound (Q := Q) hC ops.toList 0 (fun j => by simp) hR h hQ
  rw [Array.length_toList, ← List.range_eq_range'] at this
  exact this
end
end Go.Abs
/- Where ways meet again: what is packed and opened again says the same of the world. -/
namespace Go.Abs
set_option linter.unusedVariables false
set_option linter.unusedSimpArgs false

section
variable {P : Program}

theorem beq_ne {a b : Nat} (h : a ≠ b) : Nat.beq a b = false := by
  cases e : Nat.beq a b with
  | false => rfl
  | true => exact absurd (Nat.eq_of_beq_eq_true e) h

theorem packOuts_run {e : Env} : ∀ {outs : List (Nat × TypeId)} {ps : List PV}, (packOuts e outs).run = some ps → All2 (fun x p => e x.1 = .pv p) outs ps
  | [], ps, h => by simp [packOuts, A.run] at h; subst h; exact .nil
  | (t, ty) :: l, ps, h => by
    simp only [packOuts, A.run_bind, Option.bind_eq_some_iff, A.run, Option.some.injEq] at h
    obtain ⟨p, h1, ps', h2, rfl⟩ := h
    exact .cons (asPV_run h1) (packOuts_run h2)

theorem packLs_run {e : Env} {L : LM} : ∀ {outs : List (Nat × TypeId)} {ps : List PV}, (packLs e L outs).run = some ps → All2 (fun x p => ∃ c, L x.1 = some c ∧ e x.1 = .lp x.1 0 ∧ p = .agg c.cells) outs ps
  | [], ps, h => by simp [packLs, A.run] at h; subst h; exact .nil
  | (t, ty) :: l, ps, h => by
    simp only [packLs] at h
    split at h
    · rename_i c t' o hL he
      obtain ⟨hb, h'⟩ := br_run h
      simp only [Bool.and_eq_true] at hb
      simp only [A.run_bind, Option.bind_eq_some_iff, A.run, Option.some.injEq] at h'
      obtain ⟨ps', h2, rfl⟩ := h'
      refine .cons ⟨c, hL, ?_, rfl⟩ (packLs_run h2)
      rw [← Nat.eq_of_beq_eq_true hb.1, Nat.eq_of_beq_eq_true hb.2] at he
      exact he
    · simp [A.run] at h

theorem zipE_eq {ev : Env} : ∀ {outs : List (Nat × TypeId)} {ps : List PV} (e : Env), All2 (fun x p => ev x.1 = .pv p) outs ps → ∀ t, (t ∈ outs.map (·.1) → zipE e outs ps t = ev t) ∧ (t ∉ outs.map (·.1) → zipE e outs ps t = e t)
  | [], _, e, .nil, t => by simp [zipE]
  | (u, ty) :: l, p :: ps, e, .cons h hl, t => by
    simp only [zipE, List.map_cons, List.mem_cons, not_or]
    obtain ⟨i1, i2⟩ := zipE_eq (updE e u (.pv p)) hl t
    by_cases ht : t ∈ l.map (·.1)
    · exact ⟨fun _ => i1 ht, fun hn => absurd ht hn.2⟩
    · refine ⟨fun hm => ?_, fun hn => ?_⟩
      · have : t = u := hm.resolve_right ht
        subst this
        rw [i2 ht, updE_self]; exact h.symm
      · rw [i2 ht, updE_ne hn.1]

theorem ptrE_eq : ∀ {l : List (Nat × TypeId)} (e : Env) (t : Nat), (t ∈ l.map (·.1) → ptrE e l t = .lp t 0) ∧ (t ∉ l.map (·.1) → ptrE e l t = e t)
  | [], e, t => by simp [ptrE]
  | (u, ty) :: l, e, t => by
    simp only [ptrE, List.map_cons, List.mem_cons, not_or]
    obtain ⟨i1, i2⟩ := ptrE_eq (l := l) (updE e u (.lp u 0)) t
    by_cases ht : t ∈ l.map (·.1)
    · exact ⟨fun _ => i1 ht, fun hn => absurd ht hn.2⟩
    · refine ⟨fun hm => ?_, fun hn => ?_⟩
      · have : t = u := hm.resolve_right ht
        subst this
        rw [i2 ht, updE_self]
      · rw [i2 ht, updE_ne hn.1]

theorem zipL_eq {L0 Lv : LM} : ∀ {outs : List (Nat × TypeId)} {ps : List PV} (L : LM), All2 (fun x p => ∃ c, Lv x.1 = some c ∧ p = .agg c.cells) outs ps → ∀ t, (t ∈ outs.map (·.1) → ∃ c, Lv t = some c ∧ zipL L0 L outs ps t = some ⟨c.cells, roOf L0 t⟩) ∧ (t ∉ outs.map (·.1) → zipL L0 L outs ps t = L t)
  | [], _, L, .nil, t => by simp [zipL]
  | (u, ty) :: l, p :: ps, L, .cons h hl, t => by
    simp only [zipL, List.map_cons, List.mem_cons, not_or]
    obtain ⟨i1, i2⟩ := zipL_eq (updL L u (some ⟨p.cells, roOf L0 u⟩)) hl t
    by_cases ht : t ∈ l.map (·.1)
    · exact ⟨fun _ => i1 ht, fun hn => absurd ht hn.2⟩
    · refine ⟨fun hm => ?_, fun hn => ?_⟩
      · have : t = u := hm.resolve_right ht
        subst this
        obtain ⟨c, h1, rfl⟩ := h
        exact ⟨c, h1, by rw [i2 ht, updL_self]; rfl⟩
      · rw [i2 ht, updL_ne hn.1]

theorem castC_eq {t : TypeId} {p q : List Sc} (h : (castC P t p).run = some q) : q = p := by
  unfold castC at h
  split at h
  · simp only [A.run, A.run_bind, Option.bind_eq_some_iff, Option.some.injEq] at h
    obtain ⟨s, h1, h2⟩ := h
    cases hb : p.length.beq 1 with
    | false => rw [hb] at h2; cases h2
    | true =>
    rw [hb] at h2
    simp only [cond_true, Option.some.injEq] at h2
    subst h2
    have := rdK_get h1
    have hl := Nat.eq_of_beq_eq_true hb
    cases p with
    | nil => simp at hl
    | cons a p => cases p with
      | nil => simp at this; rw [this]
      | cons b p => simp at hl
  · obtain ⟨hb, h⟩ := br_run h
    exact rdKs_all h (by simpa using hb)
  · obtain ⟨hb, h⟩ := br_run h
    simp only [A.run, Option.some.injEq] at h; exact h.symm
  · simp [A.run] at h

theorem castLs_get {l : List PV} : ∀ {ts : List (Nat × TypeId)} {i : Nat} {r : List PV}, (castLs P l i ts).run = some r → r.length = ts.length ∧ ∀ (j : Nat) (p : PV), r[j]? = some p → l[i + j]? = some p
  | [], i, r, h => by simp [castLs, A.run] at h; subst h; simp
  | (u, t) :: ts, i, r, h => by
    simp only [castLs, A.run, A.run_bind, Option.bind_eq_some_iff, Option.some.injEq] at h
    obtain ⟨cs, ⟨p, h1, h1'⟩, c, h2, r', h3, rfl⟩ := h
    obtain ⟨e, g⟩ := castLs_get h3
    refine ⟨by simp [e], fun j q hj => ?_⟩
    cases j with
    | zero =>
      simp at hj; subst hj; rw [castC_eq h2]
      have : p = .agg cs := agg?_some h1'
      rw [← this]; exact h1
    | succ j =>
      have := g j q (by simpa using hj)
      rw [← this]; congr 1; omega

theorem castN_all {a b : List PV} {ts : List TypeId} {r : List PV} (h : (castN P (a ++ b) 0 ts).run = some r) (hl : a.length = ts.length) : r = a := by
  obtain ⟨e, g⟩ := castN_get h
  refine List.ext_getElem? fun j => ?_
  rcases Nat.lt_or_ge j r.length with hj | hj
  · have := g j _ (List.getElem?_eq_getElem hj)
    rw [Nat.zero_add, List.getElem?_append_left (by omega)] at this
    rw [List.getElem?_eq_getElem hj, this]
  · rw [List.getElem?_eq_none hj, List.getElem?_eq_none (by omega)]

theorem castLs_all {a b : List PV} {ts : List (Nat × TypeId)} {r : List PV} (h : (castLs P (a ++ b) a.length ts).run = some r) (hl : b.length = ts.length) : r = b := by
  obtain ⟨e, g⟩ := castLs_get h
  refine List.ext_getElem? fun j => ?_
  rcases Nat.lt_or_ge j r.length with hj | hj
  · have := g j _ (List.getElem?_eq_getElem hj)
    rw [List.getElem?_append_right (by omega)] at this
    rw [List.getElem?_eq_getElem hj, ← this]; congr 1; omega
  · rw [List.getElem?_eq_none hj, List.getElem?_eq_none (by omega)]

theorem unpackW_run {all wr : List Nat} {s : St} {r : Out} {q : Nat × St} : ∀ {ws : List Ways}, (unpackW P all wr s r ws).run = some q → ∃ w, ws.find? (fun w => Nat.beq w.e r.e) = some w ∧ w ∈ ws ∧ backL s.L w all = true ∧ w.e = r.e ∧
    ∃ a b, (castN P r.vs 0 (w.outs.map (·.2))).run = some a ∧ (castLs P r.vs w.outs.length w.louts).run = some b ∧ q = (w.e, ⟨ptrE (zipE (forget s.env wr) w.outs a) w.louts, zipL s.L s.L w.louts b, r.H⟩)
  | [], h => by simp [unpackW, A.run] at h
  | w :: ws, h => by
    simp only [unpackW, A.run] at h
    cases hb : Nat.beq r.e w.e with
    | true =>
      rw [hb] at h
      simp only [cond_true] at h
      obtain ⟨h1, h2⟩ := br_run h
      simp only [A.run_bind, Option.bind_eq_some_iff, A.run, Option.some.injEq] at h2
      obtain ⟨a, h3, b, h4, rfl⟩ := h2
      have e := Nat.eq_of_beq_eq_true hb
      refine ⟨w, ?_, List.mem_cons_self, h1, e.symm, a, b, h3, h4, rfl⟩
      simp [List.find?, ← e]
    | false =>
      rw [hb] at h
      simp only [cond_false] at h
      obtain ⟨w', h1, h2, hr⟩ := unpackW_run h
      refine ⟨w', ?_, List.mem_cons_of_mem _ h2, hr⟩
      have : Nat.beq w.e r.e = false := beq_ne fun e => by rw [e] at hb; simp at hb
      simp [List.find?, this, h1]

theorem backL_mem {L : LM} {w : Ways} : ∀ {l : List Nat}, backL L w l = true → ∀ t ∈ l, (L t).isSome = true → t ∈ w.louts.map (·.1)
  | u :: l, h, t, ht, hs => by
    simp only [backL, Bool.and_eq_true] at h
    rcases List.mem_cons.1 ht with rfl | ht
    · cases e : L t with
      | none => rw [e] at hs; cases hs
      | some c =>
        have h1 := h.1
        rw [e] at h1
        exact List.contains_iff_mem.1 h1
    · exact backL_mem h.2 t ht hs

theorem All2.imp {α β : Type} {R S : α → β → Prop} {l : List α} {m : List β} (h : All2 R l m) (f : ∀ a b, R a b → S a b) : All2 S l m := by
  induction h with
  | nil => exact .nil
  | cons a _ ih => exact .cons (f _ _ a) ih
theorem All2.mem {α β : Type} {R : α → β → Prop} {l : List α} {m : List β} (h : All2 R l m) : ∀ a ∈ l, ∃ b, R a b := by
  induction h with
  | nil => simp
  | cons a _ ih => intro x hx
                   rcases List.mem_cons.1 hx with rfl | hx
                   · exact ⟨_, a⟩
                   · exact ih x hx

/-- What the packed way tells, opened again in the place it began. -/
theorem unpack_sound {cf : Cfg} {ws : List Ways} {all wr : List Nat} {st st' : St} {Li : LM} {e : Nat} {r : Out} {q : Nat × St} {ρ ρ' : RM} {μ μ' : MM} {a a' : Act} {w w' : World}
    (hR : Rel cf ρ μ st a w) (hR' : Rel cf ρ' μ' st' a' w') (hE : Evo ρ μ Li st.H w ρ' μ' st'.L st'.H w') (hk : Keeps wr a a')
    (hLi : ∀ t c, Li t = some c → ∃ c', st.L t = some c' ∧ (c.ro = false → c'.ro = false ∧ t ∈ all))
    (hLo : ∀ x ∈ ws, ∀ y ∈ x.louts, (st.L y.1).isSome = true → (Li y.1).isSome = true)
    (hp : (packW ws (e, st')).run = some r) (hu : (unpackW P all wr st r ws).run = some q) :
    q.1 = e ∧ ∃ μ'', Rel cf ρ' μ'' q.2 a' w' ∧ Evo ρ μ st.L st.H w ρ' μ'' q.2.L q.2.H w' := by
  obtain ⟨wy, hf, hmem, hback, hwe, vs, ls, hcn, hcl, rfl⟩ := unpackW_run hu
  simp only [packW] at hp
  cases hfw : ws.find? (fun w => Nat.beq w.e e) with
  | none => rw [hfw] at hp; simp [A.run] at hp
  | some wy' =>
  rw [hfw] at hp
  simp only [A.run_bind, Option.bind_eq_some_iff, A.run, Option.some.injEq] at hp
  obtain ⟨pa, hpa, pb, hpb, rfl⟩ := hp
  simp only at hf hwe
  have : wy = wy' := by rw [hf] at hfw; exact Option.some.inj hfw
  subst this
  have ha := packOuts_run hpa
  have hb := packLs_run hpb
  have e1 : vs = pa := castN_all hcn (by rw [List.length_map]; exact ha.length.symm)
  have e2 : ls = pb := by
    rw [ha.length] at hcl
    exact castLs_all hcl hb.length.symm
  subst e1; subst e2
  clear hcn hcl hpa hpb
  have hb' : All2 (fun (x : Nat × TypeId) p => ∃ c, st'.L x.1 = some c ∧ p = PV.agg c.cells) wy.louts ls := hb.imp fun x p ⟨c, h1, _, h2⟩ => ⟨c, h1, h2⟩
  have hzl := zipL_eq (L0 := st.L) st.L hb'
  have hze := zipE_eq (forget st.env wr) ha
  have hpt := fun t => ptrE_eq (l := wy.louts) (zipE (forget st.env wr) wy.outs vs) t
  have hlo : ∀ t, t ∈ wy.louts.map (·.1) → st'.env t = .lp t 0 ∧ (st'.L t).isSome = true := fun t ht => by
    obtain ⟨x, hx, rfl⟩ := List.mem_map.1 ht
    obtain ⟨p, c, h1, h2, _⟩ := hb.mem x hx
    exact ⟨h2, by rw [h1]; rfl⟩
  have hin : ∀ t, t ∈ wy.louts.map (·.1) → (st.L t).isSome = true → (Li t).isSome = true := fun t ht hs => by
    obtain ⟨x, hx, rfl⟩ := List.mem_map.1 ht
    exact hLo wy hmem x hx hs
  have hout : ∀ t, (st.L t).isSome = false → (Li t).isSome = false := fun t ht => by
    cases h : Li t with
    | none => rfl
    | some c =>
      obtain ⟨c', h1, _⟩ := hLi t c h
      rw [h1] at ht; cases ht
  let μ'' : MM := fun t => if t ∈ wy.louts.map (·.1) then μ' t else μ t
  have m1 : ∀ t, t ∈ wy.louts.map (·.1) → μ'' t = μ' t := fun t ht => if_pos ht
  have m2 : ∀ t, t ∉ wy.louts.map (·.1) → μ'' t = μ t := fun t ht => if_neg ht
  have hmu : ∀ t, (st.L t).isSome = true → μ'' t = μ t := fun t ht => by
    by_cases hm : t ∈ wy.louts.map (·.1)
    · rw [m1 t hm]; exact (hE.lok t (hin t hm ht)).2
    · exact m2 t hm
  have hsome : ∀ t, (st.L t).isSome = true → (zipL st.L st.L wy.louts ls t).isSome = true := fun t ht => by
    by_cases hm : t ∈ wy.louts.map (·.1)
    · obtain ⟨c, _, h2⟩ := (hzl t).1 hm; rw [h2]; rfl
    · rw [(hzl t).2 hm]; exact ht
  have hnhl : ∀ n, ¬ HostL μ st.L n → ¬ HostL μ Li n := fun n hn ⟨t, c, h1, h2, h3⟩ => by
    obtain ⟨c', h4, h5⟩ := hLi t c h1
    exact hn ⟨t, c', h4, (h5 h2).1, h3⟩
  have hnew : ∀ t k, t ∈ wy.louts.map (·.1) → (st.L t).isSome = false → μ' t = some k → w.heap.size ≤ k := fun t k ht hs hm =>
    hE.lnew t k (hlo t ht).2 (hout t hs) hm
  have hold : ∀ t c k, t ∉ wy.louts.map (·.1) → st.L t = some c → μ t = some k → w'.heap[k]? = w.heap[k]? := fun t c k ht hc hm => by
    refine hE.keep k (hR.rl.lt hc hm) (fun ⟨b, kk, bs, hb, hr, h1, h2⟩ => hR.rl.apart t c k b kk bs hc hm hb (.inr hr) h1 h2) fun ⟨t', c', h1, h2, h3⟩ => ?_
    obtain ⟨c2, h4, h5⟩ := hLi t' c' h1
    have := hR.rl.inj t t' c c2 k hc h4 hm h3
    subst this
    exact ht (backL_mem hback t (h5 h2).2 (by rw [hc]; rfl))
  have hsub := hE.sub hR.rh
  refine ⟨hwe, μ'', ⟨hR'.size, fun t => ?_, fun t t' o he => ?_, ⟨fun t c ht => ?_, fun t c k b kk bs ht hm hb hl hbs => ?_, fun t t' c c' k h1 h2 h3 h4 => ?_⟩, hR'.rh, hR'.defers⟩,
    ⟨hE.size, hE.os, hE.tape, hE.output, fun n hn h1 h2 => hE.keep n hn h1 (hnhl n h2), hE.len, hE.old, hE.nres, hE.rw, hE.ro, fun t ht => ⟨hsome t ht, hmu t ht⟩, fun n ⟨t, c, h1, h2, h3⟩ => ?_, fun t k h1 h2 h3 => ?_⟩⟩
  · -- slots
    show V ρ' μ'' (ptrE (zipE (forget st.env wr) wy.outs vs) wy.louts t) _
    by_cases hm : t ∈ wy.louts.map (·.1)
    · rw [(hpt t).1 hm]
      have := hR'.slot t
      rw [(hlo t hm).1] at this
      obtain ⟨k, h1, h2⟩ := this
      exact ⟨k, by rw [m1 t hm]; exact h1, h2⟩
    · rw [(hpt t).2 hm]
      by_cases ho : t ∈ wy.outs.map (·.1)
      · rw [(hze t).1 ho]
        have := hR'.slot t
        obtain ⟨x, hx, rfl⟩ := List.mem_map.1 ho
        obtain ⟨p, h1⟩ := ha.mem x hx
        rw [h1] at this ⊢
        exact this
      · rw [(hze t).2 ho]
        simp only [forget]
        cases hc : wr.contains t with
        | true => trivial
        | false =>
          simp only [cond_false]
          rw [hk t (fun h => by rw [List.contains_iff_mem.2 h] at hc; cases hc)]
          exact (hR.slot t).mono hsub fun t' o e => hmu t' (hR.lps t t' o e)
  · show (zipL st.L st.L wy.louts ls t').isSome = true
    simp only at he
    by_cases hm : t ∈ wy.louts.map (·.1)
    · rw [(hpt t).1 hm] at he
      cases he
      obtain ⟨c, _, h2⟩ := (hzl t).1 hm; rw [h2]; rfl
    · rw [(hpt t).2 hm] at he
      by_cases ho : t ∈ wy.outs.map (·.1)
      · rw [(hze t).1 ho] at he
        obtain ⟨x, hx, rfl⟩ := List.mem_map.1 ho
        obtain ⟨p, h1⟩ := ha.mem x hx
        rw [h1] at he; cases he
      · rw [(hze t).2 ho] at he
        simp only [forget] at he
        cases hc : wr.contains t with
        | true => rw [hc] at he; cases he
        | false => rw [hc] at he; exact hsome t' (hR.lps t t' o he)
  · -- blocks of locals
    simp only at ht
    by_cases hm : t ∈ wy.louts.map (·.1)
    · obtain ⟨c', h1, h2⟩ := (hzl t).1 hm
      rw [h2] at ht; cases ht
      obtain ⟨k, cs, ty, h3, h4⟩ := hR'.rl.blk t c' h1
      exact ⟨k, cs, ty, by rw [m1 t hm]; exact h3, h4⟩
    · rw [(hzl t).2 hm] at ht
      obtain ⟨k, cs, ty, h1, h2, h3, h4⟩ := hR.rl.blk t c ht
      exact ⟨k, cs, ty, by rw [m2 t hm]; exact h1, by rw [hold t c k hm ht h1]; exact h2, h3, h4.mono hsub⟩
  · simp only at ht hb
    by_cases hl' : t ∈ wy.louts.map (·.1)
    · obtain ⟨c', h1, h2⟩ := (hzl t).1 hl'
      rw [m1 t hl'] at hm
      exact hR'.rl.apart t c' k b kk bs h1 hm hb hl hbs
    · rw [(hzl t).2 hl'] at ht
      rw [m2 t hl'] at hm
      rcases hl with hr | hr
      · have h0 := hE.ro b kk hb hr
        have hlt : b < st.H.length := (List.getElem?_eq_some_iff.1 h0).1
        rw [hE.old b hlt (fun k hk hkr => by rw [h0] at hk; cases hk; rw [hr] at hkr; cases hkr)] at hbs
        exact hR.rl.apart t c k b kk bs ht hm h0 (.inl hr) hbs
      · have hlt := hR.rl.lt ht hm
        rcases hE.rw bs.blk ⟨b, kk, bs, hb, hr, hbs, rfl⟩ with h | ⟨b0, k0, bs0, h1, h2, h3, h4⟩
        · omega
        · rw [← h4]; exact hR.rl.apart t c k b0 k0 bs0 ht hm h1 (.inr h2) h3
  · simp only at h1 h2
    have cross : ∀ u v cu cv, u ∈ wy.louts.map (·.1) → v ∉ wy.louts.map (·.1) → zipL st.L st.L wy.louts ls u = some cu → zipL st.L st.L wy.louts ls v = some cv → μ'' u = some k → μ'' v = some k → u = v := fun u v cu cv hu hv e1 e2 e3 e4 => by
      rw [(hzl v).2 hv] at e2
      rw [m2 v hv] at e4
      cases hs : st.L u with
      | some c0 =>
        have := hmu u (by rw [hs]; rfl)
        rw [this] at e3
        exact hR.rl.inj u v c0 cv k hs e2 e3 e4
      | none =>
        rw [m1 u hu] at e3
        have := hnew u k hu (by rw [hs]; rfl) e3
        have := hR.rl.lt e2 e4
        omega
    by_cases ht : t ∈ wy.louts.map (·.1)
    · by_cases ht' : t' ∈ wy.louts.map (·.1)
      · obtain ⟨c1, e1, _⟩ := (hzl t).1 ht
        obtain ⟨c2, e2, _⟩ := (hzl t').1 ht'
        rw [m1 t ht] at h3; rw [m1 t' ht'] at h4
        exact hR'.rl.inj t t' c1 c2 k e1 e2 h3 h4
      · exact cross t t' c c' ht ht' h1 h2 h3 h4
    · by_cases ht' : t' ∈ wy.louts.map (·.1)
      · exact (cross t' t c' c ht' ht h2 h1 h4 h3).symm
      · rw [(hzl t).2 ht] at h1; rw [(hzl t').2 ht'] at h2
        rw [m2 t ht] at h3; rw [m2 t' ht'] at h4
        exact hR.rl.inj t t' c c' k h1 h2 h3 h4
  · -- writable blocks of locals
    simp only at h1
    by_cases hm : t ∈ wy.louts.map (·.1)
    · obtain ⟨c', h4, h5⟩ := (hzl t).1 hm
      rw [h5] at h1; cases h1
      simp only [roOf] at h2
      cases hs : st.L t with
      | some c0 =>
        rw [hs] at h2
        rw [hmu t (by rw [hs]; rfl)] at h3
        exact .inr ⟨t, c0, hs, h2, h3⟩
      | none =>
        rw [m1 t hm] at h3
        exact .inl (hnew t n hm (by rw [hs]; rfl) h3)
    · rw [(hzl t).2 hm] at h1
      rw [m2 t hm] at h3
      exact .inr ⟨t, c, h1, h2, h3⟩
  · simp only at h1
    by_cases hm : t ∈ wy.louts.map (·.1)
    · rw [m1 t hm] at h3
      exact hnew t k hm h2 h3
    · rw [(hzl t).2 hm, h2] at h1; cases h1
end
end Go.Abs
