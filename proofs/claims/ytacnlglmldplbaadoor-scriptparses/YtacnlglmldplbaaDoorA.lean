/- A part of the proof of the theorem in the last text of this folder: a symbolic executor over the model, and contracts of functions. -/
import Derived.WalkKit
import Derived.WalkSpells
import Derived.Deep.LoopGhost
import Derived.Laws.StructEq
set_option linter.unusedSimpArgs false
set_option linter.unusedVariables false
namespace Go.Sx
open Go

/-- What a cell is known to hold. -/
inductive CV where
  | int (k : IntKind) (n : Int)
  | bool (b : Bool)
  | str (s : List UInt8)
  | nilp
  | nils
  | lit (v : Value)
  | ro (sz n : Nat) (f : Nat → Nat → CV)
  | rop (sz n : Nat) (f : Nat → Nat → CV) (i j : Nat)
  | ref (h o : Nat)
  | osl (h : Nat)
  | rowp (h sz i j : Nat)

inductive RV where
  | c (x : CV)
  | agg (l : List CV)

inductive TV where
  | r (v : RV)
  | tup (l : List RV)
  | gd (c : Bool) (v : RV)
  | it (ok : Bool) (k c : Int)
  | undef

inductive Chunk where
  | cells (t : TypeId) (cs : List CV)
  | row (t : TypeId) (sz n : Nat) (f : Nat → Nat → CV)
  | iter (s : List UInt8) (p : Nat)

structure SS where
  env : List (Nat × TV)
  chunks : List (Nat × Chunk)
  next : Nat

inductive CK where
  | int (k : IntKind)
  | bool
  | str
  | other

inductive Sh where
  | int (k : IntKind) | bool | str | slice (e : Nat) | array (n e : Nat) | struct (fs : List (Nat × Nat)) | ptr | other

/-- What is known of a type: its cells, its bytes, whether it is a struct or an array, its cells' kinds, its zero, its shape; whether it is a struct of ints that may be compared. -/
structure TI where
  known : Bool
  size : Nat
  bytes : Nat
  agg : Bool
  kinds : List CK
  zero : List CV
  sh : Sh
  eqb : Bool

def CV.toInt : CV → Int | .int _ n => n | _ => 0
def CV.toBool : CV → Bool | .bool b => b | _ => false
def CV.toStr : CV → List UInt8 | .str s => s | _ => []

def ikEq : IntKind → IntKind → Bool
  | .i8, .i8 | .i16, .i16 | .i32, .i32 | .i64, .i64 | .u8, .u8 | .u16, .u16 | .u32, .u32 | .u64, .u64 => true
  | _, _ => false

def CK.fits : CK → CV → Bool
  | .int k, .int k' _ => ikEq k k'
  | .bool, .bool _ => true
  | .str, .str _ => true
  | .other, _ => true
  | _, _ => false
def CK.eta : CK → CV → CV
  | .int k, c => .int k c.toInt
  | .bool, c => .bool c.toBool
  | .str, c => .str c.toStr
  | .other, c => c
def etas : List CK → List CV → List CV
  | k :: ks, c :: cs => k.eta c :: etas ks cs
  | _, _ => []
def fitss : List CK → List CV → List Prop
  | k :: ks, c :: cs => (k.fits c = true) :: fitss ks cs
  | [], [] => []
  | _, _ => [False]

def nth : List CV → Nat → CV
  | [], _ => .nilp
  | c :: _, 0 => c
  | _ :: cs, n + 1 => nth cs n
def setN : List CV → Nat → CV → List CV
  | [], _, _ => []
  | _ :: cs, 0, x => x :: cs
  | c :: cs, n + 1, x => c :: setN cs n x
def cellsFrom (g : Nat → CV) (o : Nat) : Nat → List CV
  | 0 => []
  | n + 1 => g o :: cellsFrom g (o + 1) n
def setFrom : List CV → Nat → List CV → List CV
  | cs, _, [] => cs
  | cs, o, c :: r => setFrom (setN cs o c) (o + 1) r
def len' {α : Type} : List α → Nat
  | [] => 0
  | _ :: r => len' r + 1

def look {α : Type} : List (Nat × α) → Nat → Option α
  | [], _ => none
  | (k, v) :: r, t => bif k == t then some v else look r t
def chg {α : Type} : List (Nat × α) → Nat → α → List (Nat × α)
  | [], _, _ => []
  | (k, v) :: r, t, x => bif k == t then (k, x) :: r else (k, v) :: chg r t x
def del {α : Type} : List (Nat × α) → Nat → List (Nat × α)
  | [], _ => []
  | (k, v) :: r, t => bif k == t then del r t else (k, v) :: del r t
def listAt {α : Type} : List α → Nat → Option α
  | [], _ => none
  | x :: _, 0 => some x
  | _ :: r, n + 1 => listAt r n
def catP : List Prop → List Prop → List Prop
  | [], l => l
  | p :: r, l => p :: catP r l
def catE {α : Type} : List α → List α → List α
  | [], l => l
  | x :: r, l => x :: catE r l
def allP : List Prop → Prop → Prop
  | [], p => p
  | q :: l, p => q ∧ allP l p

def constCV : Value → Option CV
  | .int k n => some (.int k n)
  | .bool b => some (.bool b)
  | .string s => some (.str s.data.toList)
  | .pointer none => some .nilp
  | .slice none 0 0 => some .nils
  | .agg _ => none
  | .tuple _ => none
  | v => some (.lit v)

/-- What a function is known to do: at 'a': its arguments, the chunks that it is handed, what has to hold; how it answers ('b'), and the chunks behind it. -/
structure Spec where
  α : Type
  args : α → List RV
  ins : α → List (Nat × Chunk)
  m : Nat
  pre : α → Prop
  β : Type
  post : α → β → Prop
  res : α → β → TV
  outs : α → β → List (Nat × Chunk)
  fresh : Nat
  ro : List Nat := []
  inst : List RV → Option α := fun _ => none

/-- At which of its places a contract is taken: where its arguments tell, there; else at some. -/
def exA (s : Spec) (vs : List RV) (p : s.α → Prop) : Prop := match s.inst vs with | some a => p a | none => ∃ a, p a
theorem exA_ex {s : Spec} {vs : List RV} {p : s.α → Prop} (h : exA s vs p) : ∃ a, p a := by
  unfold exA at h
  split at h
  · exact ⟨_, h⟩
  · exact h

structure Inv where
  α : Type
  keep : List Nat
  drop : List Nat
  env : Nat → α → List (Nat × TV)
  chunks : Nat → α → List (Nat × Chunk)
  fresh : Nat
  pre : α → Prop
  μ : α → Nat

/-- In which order a region's operations are shown. -/
inductive Ord where
  | done
  | go (i : Nat) (r : Ord)
  | br (i : Nat) (a : Ord) (j : Nat) (b : Ord)
  | br3 (i : Nat) (a : Ord) (j : Nat) (b : Ord) (k : Nat) (c : Ord)

structure Cx where
  tt : Nat → TI
  gl : Nat → Option CV
  spec : Nat → Option Spec
  inv : Nat → SS → Option Inv
  ord : Nat → Option Ord
  fin : SS → Prop
  n : Nat

def evalO (cx : Cx) (st : SS) : Operand → Option TV
  | .tmp t => look st.env t
  | .const v => match constCV v with | some c => some (.r (.c c)) | none => none
  | .global g => match cx.gl g with | some c => some (.r (.c c)) | none => none
  | .func f => some (.r (.c (.lit (.func (.func f) #[] #[]))))

/-- The condition under which an operation is carried out. -/
inductive GC where
  | always
  | when (c : Bool)
  | bad

def wantB : Bool → Bool → Bool
  | true, b => b
  | false, b => !b

def gcond (ops : List Oper) (st : SS) (o : Oper) : GC :=
  match o.guard with
  | none => .always
  | some (j, want) => match listAt ops j with
    | none => .bad
    | some oj => match oj.dst with
      | none => .bad
      | some t => match look st.env t with
        | some (.r (.c (.bool b))) => .when (wantB want b)
        | some (.gd g (.c (.bool b))) => .when (g && wantB want b)
        | some .undef => .when false
        | _ => .bad

/-- An operand's value, and what has to hold for it to be there. -/
inductive OV where
  | bad
  | v (x : RV) (need : List Prop)

def GC.imp : GC → Prop → Prop
  | .when d, p => d = true → p
  | _, p => p

def getV (cx : Cx) (st : SS) (g : GC) (x : Operand) : OV :=
  match evalO cx st x with
  | some (.r v) => .v v []
  | some (.gd c v) => .v v [g.imp (c = true)]
  | _ => .bad

inductive Out where
  | fail
  | ok (vc : List Prop) (st : SS)
  | mem (vc : List Prop) (v : TV) (chunks : List (Nat × Chunk)) (fresh : Nat)
  | call (f : Nat) (args : List RV) (vc : List Prop)

def SS.put (st : SS) (g : GC) (dst : Option Nat) (v : RV) : SS :=
  match dst with
  | none => st
  | some d => { st with env := (d, match g with | .when c => .gd c v | _ => .r v) :: st.env }
def SS.putT (st : SS) (dst : Option Nat) (v : TV) : SS :=
  match dst with
  | none => st
  | some d => { st with env := (d, v) :: st.env }

def cmpI : BinOp → Int → Int → Option Bool
  | .eql, a, b => some (decide (a = b))
  | .neq, a, b => some (!decide (a = b))
  | .lss, a, b => some (decide (a < b))
  | .leq, a, b => some (decide (a ≤ b))
  | .gtr, a, b => some (decide (b < a))
  | .geq, a, b => some (decide (b ≤ a))
  | _, _, _ => none

def bop (sh : Sh) (op : BinOp) (g : GC) (x y : CV) : Option (List Prop × CV) :=
  match x, y with
  | .int k a, .int _ b => match op with
    | .add => some ([], .int k (k.wrap (a + b)))
    | .sub => some ([], .int k (k.wrap (a - b)))
    | .mul => some ([], .int k (k.wrap (a * b)))
    | .quo => some ([g.imp (b ≠ 0)], .int k (k.wrap (a.tdiv b)))
    | .rem => some ([g.imp (b ≠ 0)], .int k (a.tmod b))
    | op => match cmpI op a b with
      | some r => some ([], .bool r)
      | none => none
  | .bool a, .bool b => match sh, op with
    | .bool, .eql => some ([], .bool (a == b))
    | .bool, .neq => some ([], .bool (a != b))
    | _, _ => none
  | .str a, .str b => match op with
    | .eql => some ([], .bool (decide (a = b)))
    | .neq => some ([], .bool (!decide (a = b)))
    | .add => some ([g.imp (a.length + b.length ≤ 9223372036854775807)], .str (a ++ b))
    | _ => none
  | .nilp, .nilp => match sh, op with
    | .ptr, .eql => some ([], .bool true)
    | .ptr, .neq => some ([], .bool false)
    | _, _ => none
  | .ref _ _, .nilp => match sh, op with
    | .ptr, .eql => some ([], .bool false)
    | .ptr, .neq => some ([], .bool true)
    | _, _ => none
  | _, _ => none

/-- Whether two structs of ints are the same. -/
def eqCs : List CV → List CV → Option Bool
  | [], [] => some true
  | .int k a :: r, .int k' b :: r' => match ikEq k k', eqCs r r' with
    | true, some q => some (decide (a = b) && q)
    | _, _ => none
  | _, _ => none
def eqOp : BinOp → Bool → Option Bool
  | .eql, b => some b
  | .neq, b => some (!b)
  | _, _ => none

/-- The kinds of two ints fit (the model asks it of all but shifts). -/
def kindsOk : CV → CV → Bool
  | .int k _, .int k' _ => ikEq k k'
  | _, _ => true

def RV.cells : RV → List CV
  | .c x => [x]
  | .agg l => l

/-- Cells of a type, as a value. -/
def TI.val (t : TI) (cs : List CV) : Option RV :=
  match t.agg with
  | true => some (.agg (etas t.kinds cs))
  | false => match t.kinds, cs with
    | [k], [c] => some (.c (k.eta c))
    | _, _ => none

/-- A cell that names no handle. -/
def CV.flat : CV → Bool
  | .ref _ _ | .osl _ | .rowp _ _ _ _ => false
  | _ => true
def flats : List CV → List Prop
  | [] => []
  | c :: cs => (c.flat = true) :: flats cs
/-- The elements of a row that is written out. -/
def rowF (cs : List CV) (sz : Nat) : Nat → Nat → Nat → CV
  | 1, _, j => nth cs j
  | _, i, j => nth cs (i * sz + j)

def updR (f : Nat → Nat → CV) (i j : Nat) (new : List CV) : Nat → Nat → CV :=
  fun i' j' => if i' = i ∧ j ≤ j' ∧ j' < j + new.length then nth new (j' - j) else f i' j'

def appR (n : Nat) (f g : Nat → Nat → CV) : Nat → Nat → CV := fun i j => if i < n then f i j else g (i - n) j

/-- What may be read of a slice: its cells per element, its length, its elements. -/
def sliceOf (st : SS) : CV → Option (Nat × Nat × (Nat → Nat → CV))
  | .ro sz n f => some (sz, n, f)
  | .osl h => match look st.chunks h with
    | some (.row _ sz n f) => some (sz, n, f)
    | _ => none
  | _ => none

def fillC (offs : Nat → Option (Nat × Nat)) (cs : List CV) : List (Nat × List CV) → Option (List CV)
  | [] => some cs
  | (i, v) :: r => match offs i with
    | none => none
    | some (o, n) => bif len' v == n then fillC offs (setFrom cs o v) r else none

def getVs (cx : Cx) (st : SS) (g : GC) : List Operand → Option (List RV × List Prop)
  | [] => some ([], [])
  | x :: r => match getV cx st g x, getVs cx st g r with
    | .v v n, some (vs, ns) => some (v :: vs, catP n ns)
    | _, _ => none
def getPs (cx : Cx) (st : SS) (g : GC) : List (Nat × Operand) → Option (List (Nat × List CV) × List Prop)
  | [] => some ([], [])
  | (i, x) :: r => match getV cx st g x, getPs cx st g r with
    | .v v n, some (vs, ns) => some ((i, v.cells) :: vs, catP n ns)
    | _, _ => none

def fieldOff (t : TI) (f : Nat) : Option (Nat × Nat) :=
  match t.sh with
  | .struct fs => listAt fs f
  | _ => none

def repl (cs : List CV) : Nat → List CV
  | 0 => []
  | n + 1 => catE cs (repl cs n)

/-- An operation that hangs on its operands alone. -/
def pureOp (cx : Cx) (st : SS) (g : GC) (op : Op) : Option (List Prop × RV) :=
  match op with
  | .move x | .assign x => match getV cx st g x with
    | .v v need => some (need, v)
    | .bad => none
  | .binOp op t x y _ => match getV cx st g x, getV cx st g y with
    | .v (.c a) n1, .v (.c b) n2 => match kindsOk a b, bop (cx.tt t).sh op g a b with
      | true, some (vc, r) => some (catP n1 (catP n2 vc), .c r)
      | _, _ => none
    | .v (.agg a) n1, .v (.agg b) n2 => match (cx.tt t).eqb, eqCs a b with
      | true, some q => match eqOp op q with
        | some r => some (catP n1 (catP n2 [len' a = (cx.tt t).size]), .c (.bool r))
        | none => none
      | _, _ => none
    | _, _ => none
  | .unOp op _ x => match getV cx st g x with
    | .v (.c (.bool b)) n1 => match op with
      | .not => some (n1, .c (.bool (!b)))
      | _ => none
    | .v (.c (.int k b)) n1 => match op with
      | .neg => some (n1, .c (.int k (k.wrap (0 - b))))
      | _ => none
    | _ => none
  | .pick c a b => match getV cx st g c, evalO cx st a, evalO cx st b with
    | .v (.c (.bool bc)) n, some ta, some tb => match ta, tb with
      | .r (.c (.bool x)), .r (.c (.bool y)) => some (n, .c (.bool (bif bc then x else y)))
      | .r (.c (.bool x)), .gd cb (.c (.bool y)) => some (catP n [g.imp (bc = false → cb = true)], .c (.bool (bif bc then x else y)))
      | .gd ca (.c (.bool x)), .r (.c (.bool y)) => some (catP n [g.imp (bc = true → ca = true)], .c (.bool (bif bc then x else y)))
      | .gd ca (.c (.bool x)), .gd cb (.c (.bool y)) => some (catP n [g.imp ((bc = true → ca = true) ∧ (bc = false → cb = true))], .c (.bool (bif bc then x else y)))
      | .undef, .r (.c (.bool y)) => some (catP n [g.imp (bc = false)], .c (.bool y))
      | .undef, .gd cb (.c (.bool y)) => some (catP n [g.imp (bc = false ∧ cb = true)], .c (.bool y))
      | .r (.c (.bool x)), .undef => some (catP n [g.imp (bc = true)], .c (.bool x))
      | .gd ca (.c (.bool x)), .undef => some (catP n [g.imp (bc = true ∧ ca = true)], .c (.bool x))
      | _, _ => none
    | _, _, _ => none
  | .convert s d x => match getV cx st g x with
    | .v (.c (.int _ n)) n1 => match (cx.tt s).sh, (cx.tt d).sh with
      | .int _, .int k => some (n1, .c (.int k (k.wrap n)))
      | _, _ => none
    | .v (.c (.str s')) n1 => match (cx.tt s).sh, (cx.tt d).sh with
      | .str, .str => some (n1, .c (.str s'))
      | _, _ => none
    | _ => none
  | .index t x i => match getV cx st g x, getV cx st g i with
    | .v (.c (.str s)) n1, .v (.c (.int _ n)) n2 => match (cx.tt t).sh with
      | .str => some (catP n1 (catP n2 [g.imp (0 ≤ n ∧ n < s.length)]), .c (.int .u8 (s.getD n.toNat 0).toNat))
      | _ => none
    | _, _ => none
  | .extract t i => match evalO cx st t with
    | some (.tup l) => match listAt l i with
      | some v => some ([], v)
      | none => none
    | some (.it ok k c) => match i with
      | 0 => some ([], .c (.bool ok))
      | 1 => some ([g.imp (ok = true)], .c (.int .i64 k))
      | 2 => some ([g.imp (ok = true)], .c (.int .i32 c))
      | _ => none
    | _ => none
  | .call ⟨.builtin .len, args, ts⟩ => match args.toList, ts.toList with
    | [x], [t] => match getV cx st g x with
      | .v (.c (.str s)) n1 => match (cx.tt t).sh with
        | .str => some (n1, .c (.int .i64 s.length))
        | _ => none
      | .v (.c .nils) n1 => match (cx.tt t).sh with
        | .slice _ => some (n1, .c (.int .i64 0))
        | _ => none
      | .v (.c c) n1 => match (cx.tt t).sh, sliceOf st c with
        | .slice _, some (_, n, _) => some (n1, .c (.int .i64 n))
        | _, _ => none
      | _ => none
    | _, _ => none
  | .nilCheck x => match getV cx st g x with
    | .v (.c (.ref h o)) n => some (n, .c (.ref h o))
    | .v (.c (.rop sz m f i j)) n => some (n, .c (.rop sz m f i j))
    | .v (.c (.rowp h sz i j)) n => some (n, .c (.rowp h sz i j))
    | _ => none
  | .fieldAddr t x f => match getV cx st g x, fieldOff (cx.tt t) f with
    | .v (.c (.ref h o)) n, some (off, _) => some (n, .c (.ref h (o + off)))
    | .v (.c (.rop sz m f i j)) n, some (off, _) => some (n, .c (.rop sz m f i (j + off)))
    | .v (.c (.rowp h sz i j)) n, some (off, _) => some (n, .c (.rowp h sz i (j + off)))
    | _, _ => none
  | .indexAddr t x i => match getV cx st g x, getV cx st g i with
    | .v (.c c) n1, .v (.c (.int _ k)) n2 => match (cx.tt t).sh with
      | .slice e => match c with
        | .ro sz m f => match sz == (cx.tt e).size && (cx.tt e).known with
          | true => some (catP n1 (catP n2 [g.imp (0 ≤ k ∧ k < m)]), .c (.rop sz m f k.toNat 0))
          | false => none
        | .osl h => match look st.chunks h with
          | some (.row _ sz m _) => match sz == (cx.tt e).size && (cx.tt e).known with
            | true => some (catP n1 (catP n2 [g.imp (0 ≤ k ∧ k < m)]), .c (.rowp h sz k.toNat 0))
            | false => none
          | _ => none
        | _ => none
      | .array m e => match (cx.tt e).known, c with
        | true, .ref h o => some (catP n1 (catP n2 [g.imp (0 ≤ k ∧ k < m)]), .c (.ref h (o + k.toNat * (cx.tt e).size)))
        | true, .rop sz m' f i j => some (catP n1 (catP n2 [g.imp (0 ≤ k ∧ k < m)]), .c (.rop sz m' f i (j + k.toNat * (cx.tt e).size)))
        | true, .rowp h sz i j => some (catP n1 (catP n2 [g.imp (0 ≤ k ∧ k < m)]), .c (.rowp h sz i (j + k.toNat * (cx.tt e).size)))
        | _, _ => none
      | _ => none
    | _, _ => none
  | .slice t x lo hi none => match getV cx st g x with
    | .v (.c (.str s)) n1 =>
      match (match lo with | none => OV.v (.c (.int .i64 0)) [] | some l => getV cx st g l), (match hi with | none => OV.v (.c (.int .i64 s.length)) [] | some l => getV cx st g l), (cx.tt t).sh with
      | .v (.c (.int _ a)) n2, .v (.c (.int _ b)) n3, .str => some (catP n1 (catP n2 (catP n3 [g.imp (0 ≤ a ∧ a ≤ b ∧ b ≤ s.length)])), .c (.str ((s.take b.toNat).drop a.toNat)))
      | _, _, _ => none
    | .v (.c (.ro sz n f)) n1 =>
      match (match lo with | none => OV.v (.c (.int .i64 0)) [] | some l => getV cx st g l), (match hi with | none => OV.v (.c (.int .i64 n)) [] | some l => getV cx st g l), (cx.tt t).sh with
      | .v (.c (.int _ a)) n2, .v (.c (.int _ b)) n3, .slice e => match sz == (cx.tt e).size && (cx.tt e).known with
        | true => some (catP n1 (catP n2 (catP n3 [g.imp (0 ≤ a ∧ a ≤ b ∧ b ≤ n)])), .c (.ro sz (b.toNat - a.toNat) (fun i j => f (a.toNat + i) j)))
        | false => none
      | _, _, _ => none
    | _ => none
  | .build t parts => match getPs cx st g parts.toList with
    | none => none
    | some (ps, ns) => match (cx.tt t).sh with
      | .struct _ => match fillC (fieldOff (cx.tt t)) (cx.tt t).zero ps with
        | some cs => some (ns, .agg cs)
        | none => none
      | .array m e => match (cx.tt e).known, fillC (fun i => if i < m then some (i * (cx.tt e).size, (cx.tt e).size) else none) (cx.tt t).zero ps with
        | true, some cs => some (ns, .agg cs)
        | _, _ => none
      | _ => none
  | _ => none

/-- A load. -/
def loadOp (cx : Cx) (st : SS) (g : GC) (op : Op) : Option (List Prop × RV) :=
  match op with
  | .load t x => match getV cx st g x with
    | .v (.c (.ref h o)) n1 => match look st.chunks h with
      | some (.cells _ cs) =>
        match (cx.tt t).val (cellsFrom (nth cs) o (cx.tt t).size) with
        | some v => some (catP n1 ((o + (cx.tt t).size ≤ len' cs) :: fitss (cx.tt t).kinds (cellsFrom (nth cs) o (cx.tt t).size)), v)
        | none => none
      | _ => none
    | .v (.c (.rop sz m f i j)) n1 =>
      match (cx.tt t).val (cellsFrom (f i) j (cx.tt t).size) with
      | some v => some (catP n1 (g.imp (i < m) :: (j + (cx.tt t).size ≤ sz) :: fitss (cx.tt t).kinds (cellsFrom (f i) j (cx.tt t).size)), v)
      | none => none
    | .v (.c (.rowp h sz i j)) n1 => match look st.chunks h with
      | some (.row _ sz' m f) =>
        match (cx.tt t).val (cellsFrom (f i) j (cx.tt t).size) with
        | some v => some (catP n1 (g.imp (i < m) :: (sz' = sz) :: (j + (cx.tt t).size ≤ sz) :: fitss (cx.tt t).kinds (cellsFrom (f i) j (cx.tt t).size)), v)
        | none => none
      | _ => none
    | _ => none
  | _ => none

/-- An operation that turns memory: its value, the chunks behind it, how many handles it takes. -/
def memOp (cx : Cx) (st : SS) (op : Op) : Option (List Prop × TV × List (Nat × Chunk) × Nat) :=
  match op with
  | .alloc t => match (cx.tt t).known with
    | true => some ([], (.r (.c (.ref st.next 0))), (st.next, .cells t (cx.tt t).zero) :: st.chunks, 1)
    | false => none
  | .box t x => match getV cx st .always x with
    | .v v n => some (n, (.r (.c (.ref st.next 0))), (st.next, .cells t v.cells) :: st.chunks, 1)
    | .bad => none
  | .store t x y => match getV cx st .always x, getV cx st .always y with
    | .v (.c (.ref h o)) n1, .v v n2 => match look st.chunks h with
      | some (.cells ct cs) => some (catP n1 (catP n2 [(cx.tt t).known = true, len' v.cells = (cx.tt t).size, o + len' v.cells ≤ len' cs]), .undef, chg st.chunks h (.cells ct (setFrom cs o v.cells)), 0)
      | _ => none
    | .v (.c (.rowp h sz i j)) n1, .v v n2 => match look st.chunks h with
      | some (.row ct sz' m f) => some (catP n1 (catP n2 (((cx.tt t).known = true) :: (len' v.cells = (cx.tt t).size) :: (i < m) :: (sz' = sz) :: (j + len' v.cells ≤ sz) :: flats v.cells)), .undef, chg st.chunks h (.row ct sz' m (updR f i j v.cells)), 0)
      | _ => none
    | _, _ => none
  | .buildSlice t n parts => match getPs cx st .always parts.toList with
    | none => none
    | some (ps, ns) => match (cx.tt t).sh with
      | .slice e => match (cx.tt e).known, fillC (fun i => if i < n then some (i * (cx.tt e).size, (cx.tt e).size) else none) (repl (cx.tt e).zero n) ps with
        | true, some cs => some (catP ns ((n * (cx.tt e).size ≤ 16777216) :: (0 < (cx.tt e).size) :: flats cs), (.r (.c (.osl st.next))), (st.next, .row e (cx.tt e).size n (rowF cs (cx.tt e).size n)) :: st.chunks, 1)
        | _, _ => none
      | _ => none
  | .makeSlice t l c => match getV cx st .always l, getV cx st .always c, (cx.tt t).sh with
    | .v (.c (.int .i64 a)) n1, .v (.c (.int .i64 b)) n2, .slice e => match (cx.tt e).known with
      | false => none
      | true => some (catP n1 (catP n2 [0 ≤ a, a ≤ b, b ≤ 9223372036854775807, b * (cx.tt e).bytes ≤ 140737488355328]), (.r (.c (.osl st.next))), (st.next, .row e (cx.tt e).size a.toNat (fun _ j => nth (cx.tt e).zero j)) :: st.chunks, 1)
    | _, _, _ => none
  | .call ⟨.builtin .append, args, ts⟩ => match args.toList, ts.toList with
    | [x, y], [t, t'] => match getV cx st .always x, getV cx st .always y, (cx.tt t).sh, t == t' with
      | .v (.c a) n1, .v (.c b) n2, .slice e, true => match sliceOf st b with
        | some (sz2, m2, f2) => match sz2 == (cx.tt e).size && (cx.tt e).known with
          | false => none
          | true => match a with
            | .nils => some (catP n1 (catP n2 [m2 ≤ 9223372036854775807, m2 * (cx.tt e).bytes ≤ 140737488355328, 0 < m2, 0 < sz2]), (.r (.c (.osl st.next))), (st.next, .row e sz2 m2 f2) :: st.chunks, 1)
            | .osl h => match look st.chunks h with
              | some (.row e' sz m f) => match sz == sz2, e' == e with
                | true, true => some (catP n1 (catP n2 [m + m2 ≤ 9223372036854775807, (m + m2) * (cx.tt e).bytes ≤ 140737488355328, 0 < m2, 0 < sz2]), (.r (.c (.osl st.next))), (st.next, .row e sz (m + m2) (appR m f f2)) :: del st.chunks h, 1)
                | _, _ => none
              | _ => none
            | _ => none
        | none => none
      | _, _, _, _ => none
    | _, _ => none
  | .range t x => match getV cx st .always x, (cx.tt t).sh with
    | .v (.c (.str s)) n1, .str => some (n1, .r (.c (.ref st.next 0)), (st.next, .iter s 0) :: st.chunks, 1)
    | _, _ => none
  | .next x true => match getV cx st .always x with
    | .v (.c (.ref h 0)) n1 => match look st.chunks h with
      | some (.iter s p) => some (catP n1 [p < s.length → (s.getD p 0).toNat < 128], .it (decide (p < s.length)) p (s.getD p 0).toNat, chg st.chunks h (.iter s (if p < s.length then p + 1 else p)), 0)
      | _ => none
    | _ => none
  | _ => none

def dstB (n : Nat) : Option Nat → Bool
  | none => true
  | some d => decide (d < n)

def funcOf : TV → Option Nat
  | .r (.c (.lit (.func (.func k) x y))) => match x.toList, y.toList with
    | [], [] => some k
    | _, _ => none
  | _ => none

def stepOp0 (cx : Cx) (ops : List Oper) (o : Oper) (st : SS) : Out :=
  match dstB cx.n o.dst with
  | false => .fail
  | true => match gcond ops st o with
  | .bad => .fail
  | g => match pureOp cx st g o.op with
    | some (vc, v) => .ok vc (st.put g o.dst v)
    | none => match loadOp cx st g o.op with
      | some (vc, v) => .ok vc (st.put g o.dst v)
      | none => match memOp cx st o.op with
        | some (vc, v, ch, n) => .mem vc v ch n
        | none => match o.op with
          | .move x | .assign x => match evalO cx st x, g, o.dst with
            | some (.tup l), .always, some d => .ok [] { st with env := (d, .tup l) :: st.env }
            | _, _, _ => .fail
          | .call ⟨.value f, args, _⟩ => match evalO cx st f with
            | some fv => match funcOf fv, getVs cx st g args.toList with
              | some k, some (vs, ns) => .call k vs ns
              | _, _ => .fail
            | none => .fail
          | _ => .fail

/-- The operands of which one that was left out leaves out the operation, too. -/
def opArgs : Op → List Operand
  | .move x | .assign x => [x]
  | .binOp _ _ x y _ => [x, y]
  | .unOp _ _ x => [x]
  | .pick c _ _ => [c]
  | .convert _ _ x => [x]
  | .index _ x i => [x, i]
  | .extract x _ => [x]
  | .nilCheck x => [x]
  | .fieldAddr _ x _ => [x]
  | .indexAddr _ x i => [x, i]
  | .slice _ x _ _ _ => [x]
  | .load _ x => [x]
  | .box _ x => [x]
  | .store _ x y => [x, y]
  | .call ⟨_, args, _⟩ => args.toList
  | _ => []
def anyU (cx : Cx) (st : SS) : List Operand → Bool
  | [] => false
  | x :: r => match evalO cx st x with
    | some .undef => true
    | _ => anyU cx st r
/-- An operation whose operand was left out is left out. -/
def undefd (cx : Cx) (ops : List Oper) (st : SS) (o : Oper) : Option Bool :=
  match gcond ops st o with
  | .when c => bif anyU cx st (opArgs o.op) then some c else none
  | _ => none
def stepOp (cx : Cx) (ops : List Oper) (o : Oper) (st : SS) : Out :=
  match undefd cx ops st o with
  | some c => match dstB cx.n o.dst with
    | true => .ok [c = false] (st.putT o.dst .undef)
    | false => .fail
  | none => stepOp0 cx ops o st

/-! ### An own slice is given up: from then on it is only read -/
def CV.frz (h sz n : Nat) (f : Nat → Nat → CV) : CV → CV
  | .osl h' => bif h' == h then .ro sz n f else .osl h'
  | c => c
def frzL (h sz n : Nat) (f : Nat → Nat → CV) : List CV → List CV
  | [] => []
  | c :: r => c.frz h sz n f :: frzL h sz n f r
def RV.frz (h sz n : Nat) (f : Nat → Nat → CV) : RV → RV
  | .c x => .c (x.frz h sz n f)
  | .agg l => .agg (frzL h sz n f l)
def frzR (h sz n : Nat) (f : Nat → Nat → CV) : List RV → List RV
  | [] => []
  | c :: r => c.frz h sz n f :: frzR h sz n f r
def TV.frz (h sz n : Nat) (f : Nat → Nat → CV) : TV → TV
  | .r x => .r (x.frz h sz n f)
  | .tup l => .tup (frzR h sz n f l)
  | .gd c x => .gd c (x.frz h sz n f)
  | .it ok k c => .it ok k c
  | .undef => .undef
def frzE (h sz n : Nat) (f : Nat → Nat → CV) : List (Nat × TV) → List (Nat × TV)
  | [] => []
  | (t, v) :: r => (t, v.frz h sz n f) :: frzE h sz n f r
def frzC (h sz n : Nat) (f : Nat → Nat → CV) : List (Nat × Chunk) → List (Nat × Chunk)
  | [] => []
  | (k, .cells t cs) :: r => (k, .cells t (frzL h sz n f cs)) :: frzC h sz n f r
  | (k, .row t sz' n' g) :: r => (k, .row t sz' n' g) :: frzC h sz n f r
  | (k, .iter s p) :: r => (k, .iter s p) :: frzC h sz n f r
def SS.frz (st : SS) (h : Nat) : SS := match look st.chunks h with
  | some (.row _ sz n f) => { env := frzE h sz n f st.env, chunks := frzC h sz n f (del st.chunks h), next := st.next }
  | _ => st
def SS.frzs (st : SS) : List Nat → SS
  | [] => st
  | h :: r => (st.frz h).frzs r

def oslC : List CV → List Nat
  | [] => []
  | .osl h :: r => h :: oslC r
  | _ :: r => oslC r
def oslO (cx : Cx) (st : SS) (x : Operand) : List Nat := match evalO cx st x with
  | some (.r (.c c)) => oslC [c]
  | some (.r (.agg l)) => oslC l
  | _ => []
def oslP (cx : Cx) (st : SS) : List (Nat × Operand) → List Nat
  | [] => []
  | (_, x) :: r => catE (oslO cx st x) (oslP cx st r)
def oslA (cx : Cx) (st : SS) (args : List Operand) : List Nat → List Nat
  | [] => []
  | i :: r => match listAt args i with
    | some x => catE (oslO cx st x) (oslA cx st args r)
    | none => oslA cx st args r
/-- Which own slices an operation makes us give up. -/
def frzOp (cx : Cx) (st : SS) : Op → List Nat
  | .buildSlice _ _ parts => oslP cx st parts.toList
  | .store _ x y => match evalO cx st x with
    | some (.r (.c (.rowp _ _ _ _))) => oslO cx st y
    | _ => []
  | .slice _ x _ _ _ => oslO cx st x
  | .call ⟨.value (.func k), args, _⟩ => match cx.spec k with
    | some s => oslA cx st args.toList s.ro
    | none => []
  | _ => []

inductive It where
  | code (c : Code)
  | ops (l : List Oper) (rest : List Oper)
  | op1 (l : List Oper) (o : Oper)
  | op2 (l : List Oper) (o : Oper)
  | again (n : Nat) (c : Code)
  | ord (l : List Oper) (o : Ord)
  | blk (id : Nat)
  | back (i : Inv) (st0 : SS) (x : i.α)
  | cut (i : Inv) (st0 : SS)

def exitIt (id : Nat) : List It → Option (List It)
  | [] => none
  | .blk id' :: k => bif id' == id then some k else exitIt id k
  | _ :: k => exitIt id k

/-- Handles: which handle of the state at hand stands behind one of the state that is wanted: below 'b' the same one; none: a nil slice. -/
def tau (b : Nat) (σ : List (Nat × Nat)) (h : Nat) : Option Nat := if h < b then some h else look σ h

/-- What is asked: the first is wanted, the second is there. -/
def CV.eqv (nx : Nat) (τ : Nat → Option Nat) : CV → CV → List Prop
  | .int k n, .int k' n' => [ikEq k k' = true, n = n']
  | .bool b, .bool b' => [b = b']
  | .str s, .str s' => [s = s']
  | .nilp, .nilp => []
  | .nils, .nils => []
  | .lit v, .lit v' => [v = v']
  | .ro sz n f, .ro sz' n' f' => [sz = sz', n = n', ∀ i j, i < n → j < sz → f i j = f' i j]
  | .ro _ n _, .nils => [n = 0]
  | .rop sz n f i j, .rop sz' n' f' i' j' => [sz = sz', n = n', f = f', i = i', j = j']
  | .ref h o, .ref h' o' => [h < nx, τ h = some h', o = o']
  | .osl h, .osl h' => [h < nx, τ h = some h']
  | .osl h, .nils => [h < nx, τ h = none]
  | .rowp h sz i j, .rowp h' sz' i' j' => [h < nx, τ h = some h', sz = sz', i = i', j = j']
  | _, _ => [False]
def eqvL (nx : Nat) (τ : Nat → Option Nat) : List CV → List CV → List Prop
  | [], [] => []
  | c :: cs, d :: ds => catP (c.eqv nx τ d) (eqvL nx τ cs ds)
  | _, _ => [False]
def RV.eqv (nx : Nat) (τ : Nat → Option Nat) : RV → RV → List Prop
  | .c x, .c y => x.eqv nx τ y
  | .agg l, .agg l' => eqvL nx τ l l'
  | _, _ => [False]
def eqvR (nx : Nat) (τ : Nat → Option Nat) : List RV → List RV → List Prop
  | [], [] => []
  | c :: cs, d :: ds => catP (c.eqv nx τ d) (eqvR nx τ cs ds)
  | _, _ => [False]
def TV.eqv (nx : Nat) (τ : Nat → Option Nat) : TV → TV → List Prop
  | .r x, .r y => x.eqv nx τ y
  | .tup a, .tup b => eqvR nx τ a b
  | _, _ => [False]
def Chunk.eqv (nx : Nat) (τ : Nat → Option Nat) : Chunk → Chunk → List Prop
  | .cells t cs, .cells t' cs' => (t = t') :: eqvL nx τ cs cs'
  | .iter s p, .iter s' p' => [s = s', p = p']
  | .row t sz n f, .row t' sz' n' f' => [t = t', sz = sz', n = n', ∀ i j, i < n → j < sz → f i j = f' i j]
  | _, _ => [False]
def Chunk.nil : Chunk → List Prop
  | .row _ _ n _ => [n = 0]
  | _ => [False]

def entEnv (nx : Nat) (τ : Nat → Option Nat) (env : List (Nat × TV)) : List (Nat × TV) → List Prop
  | [] => []
  | (t, v) :: r => catP (match look env t with | some v' => v.eqv nx τ v' | none => [False]) (entEnv nx τ env r)
def entCh (nx : Nat) (τ : Nat → Option Nat) (chs : List (Nat × Chunk)) : List (Nat × Chunk) → List Prop
  | [] => []
  | (h, v) :: r => (h < nx) :: catP (match τ h with | none => v.nil | some h' => match look chs h' with | some v' => v.eqv nx τ v' | none => [False]) (entCh nx τ chs r)

def CV.coll : CV → CV → List (Nat × Nat)
  | .ref h _, .ref h' _ => [(h, h')]
  | .osl h, .osl h' => [(h, h')]
  | .rowp h _ _ _, .rowp h' _ _ _ => [(h, h')]
  | _, _ => []
def collL : List CV → List CV → List (Nat × Nat)
  | c :: cs, d :: ds => catE (c.coll d) (collL cs ds)
  | _, _ => []
def RV.coll : RV → RV → List (Nat × Nat)
  | .c x, .c y => x.coll y
  | .agg l, .agg l' => collL l l'
  | _, _ => []
def collR : List RV → List RV → List (Nat × Nat)
  | c :: cs, d :: ds => catE (c.coll d) (collR cs ds)
  | _, _ => []
def TV.coll : TV → TV → List (Nat × Nat)
  | .r x, .r y => x.coll y
  | .tup a, .tup b => collR a b
  | _, _ => []
def collE (env : List (Nat × TV)) : List (Nat × TV) → List (Nat × Nat)
  | [] => []
  | (t, v) :: r => catE (match look env t with | some v' => v.coll v' | none => []) (collE env r)
def collC (τ : Nat → Option Nat) (chs : List (Nat × Chunk)) : List (Nat × Chunk) → List (Nat × Nat)
  | [] => []
  | (h, v) :: r => catE (match τ h, v with
      | some h', .cells _ cs => match look chs h' with
        | some (.cells _ cs') => collL cs cs'
        | _ => []
      | _, _ => []) (collC τ chs r)
def coll3 (b : Nat) (σ : List (Nat × Nat)) (chs new : List (Nat × Chunk)) : List (Nat × Nat) :=
  match catE σ (collC (tau b σ) chs new) with
  | σ1 => catE σ1 (collC (tau b σ1) chs new)

def memB (n : Nat) : List Nat → Bool
  | [] => false
  | m :: r => bif m == n then true else memB n r
/-- No handle stands behind two of the wanted chunks. -/
def apartB (τ : Nat → Option Nat) : List (Nat × Chunk) → List Nat → Bool
  | [], _ => true
  | (h, _) :: r, seen => match τ h with
    | none => apartB τ r seen
    | some h' => bif memB h' seen then false else apartB τ r (h' :: seen)

/-- All that is asked where a state is to be seen as another one. -/
def entP (nx : Nat) (τ : Nat → Option Nat) (st : SS) (env : List (Nat × TV)) (chunks : List (Nat × Chunk)) : List Prop :=
  (apartB τ chunks [] = true) :: catP (entEnv nx τ st.env env) (entCh nx τ st.chunks chunks)

/-- Handles are named anew, behind a call. -/
def rnH (m fr nx : Nat) (σ : List (Nat × Nat)) (h : Nat) : Nat := if h < m then (match look σ h with | some h' => (if h' < nx then h' else nx + fr + h) | none => nx + fr + h) else nx + (h - m)
def CV.rn (r : Nat → Nat) : CV → CV
  | .ref h o => .ref (r h) o
  | .osl h => .osl (r h)
  | .rowp h sz i j => .rowp (r h) sz i j
  | c => c
def rnL (r : Nat → Nat) : List CV → List CV
  | [] => []
  | c :: cs => c.rn r :: rnL r cs
def RV.rn (r : Nat → Nat) : RV → RV
  | .c x => .c (x.rn r)
  | .agg l => .agg (rnL r l)
def rnR (r : Nat → Nat) : List RV → List RV
  | [] => []
  | c :: cs => c.rn r :: rnR r cs
def TV.rn (r : Nat → Nat) : TV → TV
  | .r x => .r (x.rn r)
  | .tup l => .tup (rnR r l)
  | .gd c x => .gd c (x.rn r)
  | .it ok k c => .it ok k c
  | .undef => .undef
def Chunk.rn (r : Nat → Nat) : Chunk → Chunk
  | .cells t cs => .cells t (rnL r cs)
  | c => c
def rnC (r : Nat → Nat) : List (Nat × Chunk) → List (Nat × Chunk)
  | [] => []
  | (h, c) :: l => (r h, c.rn r) :: rnC r l
def delIns (σ : List (Nat × Nat)) (chs : List (Nat × Chunk)) : List (Nat × Chunk) → List (Nat × Chunk)
  | [] => chs
  | (h, _) :: r => match look σ h with
    | some h' => delIns σ (del chs h') r
    | none => delIns σ chs r

def rid : Code → Nat
  | .region id _ _ => id
  | .seq a _ => rid a
  | .cond _ a _ => rid a
  | .block _ a => rid a
  | .loop a => rid a
  | .scope a => rid a
  | _ => 0

/-- Behind which code a state is to be seen anew: 1000 and a region's number: behind it alone; 2000 and the number of its first region: behind any other piece. -/
def cutKey : Code → Nat
  | .region id _ _ => 1000 + id
  | c => 2000 + rid c

def keepEnv (env : List (Nat × TV)) : List Nat → List (Nat × TV)
  | [] => []
  | t :: r => match look env t with | some v => (t, v) :: keepEnv env r | none => keepEnv env r
def delAll {α : Type} (l : List (Nat × α)) : List Nat → List (Nat × α)
  | [] => l
  | t :: r => delAll (del l t) r

def SS.at (st : SS) (i : Inv) (x : i.α) : SS :=
  { env := catE (i.env st.next x) (keepEnv st.env i.keep), chunks := catE (i.chunks st.next x) (delAll st.chunks i.drop), next := st.next + i.fresh }

def CV.giv : CV → CV → List Nat
  | .ro _ _ _, .osl h => [h]
  | _, _ => []
def givL : List CV → List CV → List Nat
  | c :: cs, d :: ds => catE (c.giv d) (givL cs ds)
  | _, _ => []
def RV.giv : RV → RV → List Nat
  | .c x, .c y => x.giv y
  | .agg l, .agg l' => givL l l'
  | _, _ => []
def givR : List RV → List RV → List Nat
  | c :: cs, d :: ds => catE (c.giv d) (givR cs ds)
  | _, _ => []
def TV.giv : TV → TV → List Nat
  | .r x, .r y => x.giv y
  | .tup a, .tup b => givR a b
  | _, _ => []
/-- Own slices that are wanted as such that are only read. -/
def givE (env : List (Nat × TV)) : List (Nat × TV) → List Nat
  | [] => []
  | (t, v) :: r => catE (match look env t with | some v' => v.giv v' | none => []) (givE env r)

/-- The state at hand is the wanted one, handles below 'b' as they are. -/
def isA0 (b : Nat) (st want : SS) : Prop :=
  allP (entP want.next (tau b (coll3 b (collE st.env want.env) st.chunks want.chunks)) st want.env want.chunks) True

def isA (b : Nat) (st want : SS) : Prop := isA0 b (st.frzs (givE st.env want.env)) want

def SS.after (st : SS) (s : Spec) (σ : List (Nat × Nat)) (a : s.α) (b : s.β) (dst : Option Nat) : SS :=
  { (st.putT dst ((s.res a b).rn (rnH s.m s.fresh st.next σ))) with
    chunks := catE (rnC (rnH s.m s.fresh st.next σ) (s.outs a b)) (delIns σ st.chunks (s.ins a)), next := st.next + s.fresh + s.m }

def callSig (st : SS) (s : Spec) (a : s.α) (vs : List RV) : List (Nat × Nat) := coll3 0 (collR (s.args a) vs) st.chunks (s.ins a)

theorem condP_iff {b : Bool} {P Q : Prop} : (bif b then P else Q) ↔ ((b = true → P) ∧ (b = false → Q)) := by cases b <;> simp
theorem condP (b : Bool) (P Q : Prop) : (bif b then P else Q) = ((b = true → P) ∧ (b = false → Q)) := propext condP_iff
def sxRun (cx : Cx) : Nat → List It → SS → Prop
  | 0, _, _ => False
  | _ + 1, [], st => cx.fin st
  | n + 1, .code c :: k, st => match c with
    | .skip => sxRun cx n k st
    | .region id ops d => match d with
      | false => sxRun cx n (.ops ops.toList ops.toList :: k) st
      | true => match cx.ord id with
        | none => False
        | some o => sxRun cx n (.ord ops.toList o :: k) st
    | .seq a b => match cx.inv (cutKey a) st with
      | none => sxRun cx n (.code a :: .code b :: k) st
      | some i => sxRun cx n (.code a :: .cut i st :: .code b :: k) st ∧ ∀ x, i.pre x → sxRun cx n (.code b :: k) (st.at i x)
    | .cond c x y => match evalO cx st c with
      | some (.r (.c (.bool b))) => bif b then sxRun cx n (.code x :: k) st else sxRun cx n (.code y :: k) st
      | _ => False
    | .block id body => sxRun cx n (.code body :: .blk id :: k) st
    | .loop body => match cx.inv (rid body) st with
      | none => sxRun cx n (.again 70 body :: k) st
      | some i => (∃ x, i.pre x ∧ isA st.next st (st.at i x)) ∧ ∀ x, i.pre x → sxRun cx n (.code body :: .back i st x :: k) (st.at i x)
    | .exit id => match exitIt id k with
      | some k' => sxRun cx n k' st
      | none => False
    | .ret => cx.fin st
    | _ => False
  | n + 1, .ops l r :: k, st => match r with
    | [] => sxRun cx n k st
    | o :: r => sxRun cx n (.op1 l o :: .ops l r :: k) st
  | n + 1, .ord l o :: k, st => match o with
    | .done => sxRun cx n k st
    | .go i r => match listAt l i with
      | some o => sxRun cx n (.op1 l o :: .ord l r :: k) st
      | none => False
    | .br i a j b => match listAt l i, listAt l j with
      | some x, some y => sxRun cx n (.op1 l x :: .ord l a :: k) st ∧ sxRun cx n (.op1 l y :: .ord l b :: k) st
      | _, _ => False
    | .br3 i a j b m c => match listAt l i, listAt l j, listAt l m with
      | some x, some y, some z => sxRun cx n (.op1 l x :: .ord l a :: k) st ∧ sxRun cx n (.op1 l y :: .ord l b :: k) st ∧ sxRun cx n (.op1 l z :: .ord l c :: k) st
      | _, _, _ => False
  | n + 1, .op1 l o :: k, st => sxRun cx n (.op2 l o :: k) (st.frzs (frzOp cx st o.op))
  | n + 1, .op2 l o :: k, st => match stepOp cx l o st with
      | .ok vc st' => allP vc (sxRun cx n k st')
      | .mem vc v ch fr => match gcond l st o with
        | .always => allP vc (sxRun cx n k { (st.putT o.dst v) with chunks := ch, next := st.next + fr })
        | .when c => bif c then allP vc (sxRun cx n k { (st.putT o.dst v) with chunks := ch, next := st.next + fr }) else sxRun cx n k (st.putT o.dst .undef)
        | .bad => False
      | .call f vs vc => match cx.spec f with
        | none => False
        | some s => match gcond l st o with
          | .always => allP vc (exA s vs fun a => s.pre a ∧ allP (catP (eqvR s.m (tau 0 (callSig st s a vs)) (s.args a) vs) ((apartB (tau 0 (callSig st s a vs)) (s.ins a) [] = true) :: entCh s.m (tau 0 (callSig st s a vs)) st.chunks (s.ins a)))
              (∀ b, s.post a b → sxRun cx n k (st.after s (callSig st s a vs) a b o.dst)))
          | .when c => bif c then allP vc (exA s vs fun a => s.pre a ∧ allP (catP (eqvR s.m (tau 0 (callSig st s a vs)) (s.args a) vs) ((apartB (tau 0 (callSig st s a vs)) (s.ins a) [] = true) :: entCh s.m (tau 0 (callSig st s a vs)) st.chunks (s.ins a)))
              (∀ b, s.post a b → sxRun cx n k (st.after s (callSig st s a vs) a b o.dst))) else sxRun cx n k (st.putT o.dst .undef)
          | .bad => False
      | .fail => False
  | n + 1, .again m c :: k, st => match m with
    | 0 => False
    | m + 1 => sxRun cx n (.code c :: .again m c :: k) st
  | n + 1, .blk _ :: k, st => sxRun cx n k st
  | _ + 1, .back i st0 x :: _, st => ∃ x', i.pre x' ∧ i.μ x' < i.μ x ∧ isA st0.next st (st0.at i x')
  | _ + 1, .cut i st0 :: _, st => ∃ x', i.pre x' ∧ isA st0.next st (st0.at i x')

/-- What is asked of a function's body: from its arguments at 'a' on. -/
def argsEnv : Nat → List RV → List (Nat × TV)
  | _, [] => []
  | n, v :: r => (n, .r v) :: argsEnv (n + 1) r


/-- What an operation may do to memory: 0 nothing, and it asks nothing of it; 1 it reads; 2 it makes new blocks; 3 it may write. -/
def opKind (pc : Nat → Bool) : Op → Nat
  | .move _ | .assign _ | .binOp .. | .unOp .. | .pick .. | .convert .. | .index .. | .extract .. | .nilCheck _ | .fieldAddr .. | .indexAddr .. | .slice .. | .build .. => 0
  | .call ⟨.builtin .len, _, _⟩ => 0
  | .load .. => 1
  | .alloc _ | .box .. | .buildSlice .. | .makeSlice .. | .range .. => 2
  | .call ⟨.value (.func k), _, _⟩ => if pc k then 2 else 3
  | _ => 3

/-- Does number 'j' wait for number 'i', directly or through others? -/
def waitsB (ops : Array Oper) : Nat → Nat → Nat → Bool
  | 0, _, _ => false
  | n + 1, j, i => match ops[j]? with
    | none => false
    | some o => o.after.any fun e => Region.binds .any e && (e.on == i || waitsB ops n e.on i)
/-- Does all that may write wait for it? -/
def lateB (pc : Nat → Bool) (ops : Array Oper) (listed : Array Bool) (i : Nat) : Bool :=
  (List.range ops.size).all fun j => match ops[j]? with
    | none => true
    | some o => j == i || listed.getD j true || decide (opKind pc o.op ≤ 2) || waitsB ops ops.size j i
/-- An order of a region that shows all of them. -/
def chkO (pc : Nat → Bool) (ops : Array Oper) : Ord → Array Bool → Bool
  | .done, listed => Region.ready .any ops listed == []
  | .go i r, listed => match ops[i]? with
    | none => false
    | some o => (Region.ready .any ops listed).contains i &&
      ((Region.free .any ops listed i && (opKind pc o.op == 0 || (opKind pc o.op == 1 && lateB pc ops listed i))) || Region.ready .any ops listed == [i]) &&
      chkO pc ops r (listed.setIfInBounds i true)
  | .br i a j b, listed => Region.ready .any ops listed == [i, j] && chkO pc ops a (listed.setIfInBounds i true) && chkO pc ops b (listed.setIfInBounds j true)
  | .br3 i a j b m c, listed => Region.ready .any ops listed == [i, j, m] && chkO pc ops a (listed.setIfInBounds i true) && chkO pc ops b (listed.setIfInBounds j true) && chkO pc ops c (listed.setIfInBounds m true)
def Ord.len : Ord → Nat
  | .done => 0
  | .go _ r => r.len + 1
  | .br _ a _ b => max a.len b.len + 1
  | .br3 _ a _ b _ c => max (max a.len b.len) c.len + 1
def ordsOk (pc : Nat → Bool) (ord : Nat → Option Ord) : Code → Bool
  | .region id ops true => match ord id with
    | some o => Region.noSelect ops && decide (o.len ≤ ops.size) && chkO pc ops o (Array.replicate ops.size false)
    | none => true
  | .seq a b => ordsOk pc ord a && ordsOk pc ord b
  | .cond _ a b => ordsOk pc ord a && ordsOk pc ord b
  | .block _ a => ordsOk pc ord a
  | .loop a => ordsOk pc ord a
  | .scope a => ordsOk pc ord a
  | _ => true

/-- A function's results. -/
def resOne (tt : Nat → TI) (st : SS) : ResultVar → Option (List Prop × RV)
  | .tmp t => match look st.env t with
    | some (.r v) => some ([], v)
    | _ => none
  | .cell x t => match look st.env x with
    | some (.r (.c (.ref h o))) => match look st.chunks h with
      | some (.cells _ cs) => match (tt t).val (cellsFrom (nth cs) o (tt t).size) with
        | some v => some ((o + (tt t).size ≤ len' cs) :: fitss (tt t).kinds (cellsFrom (nth cs) o (tt t).size), v)
        | none => none
      | _ => none
    | _ => none
def resAll (tt : Nat → TI) (st : SS) : List ResultVar → Option (List Prop × List RV)
  | [] => some ([], [])
  | x :: r => match resOne tt st x, resAll tt st r with
    | some (n, v), some (ns, vs) => some (catP n ns, v :: vs)
    | _, _ => none
def tupOf : List RV → TV
  | [v] => .r v
  | l => .tup l

/-- What is asked where a function returns. -/
def finP (tt : Nat → TI) (rs : List ResultVar) (s : Spec) (a : s.α) (st : SS) : Prop :=
  match resAll tt st rs with
  | none => False
  | some (ns, vs) => allP ns (∃ b, s.post a b ∧ isA s.m { st with env := [(0, tupOf vs)] } { env := [(0, s.res a b)], chunks := s.outs a b, next := s.m + s.fresh })

end Go.Sx
namespace Go.Sx
open Go

/-- Where the handles lie. -/
structure Env where
  nx : Nat
  blk : Nat → Option Nat
  sl : Nat → Value

def CV.den0 (S : Nat → Prop) (w : World) : CV → Value → Prop
  | .int k n, v => v = .int k n
  | .bool b, v => v = .bool b
  | .str s, v => v = .string ⟨s.toArray⟩
  | .nilp, v => v = .pointer none
  | .nils, v => v = .slice none 0 0
  | .lit u, v => v = u ∧ u.oneCell' = true
  | .ro sz n f, v => ∃ a cap, v = .slice a n cap ∧ n ≤ cap ∧ (0 < n → ∃ b off, a = some ⟨b, off, none⟩ ∧ S b ∧ ∀ i j, i < n → j < sz → ∃ u, w.cell? ⟨b, off + i * sz + j, none⟩ = some u ∧ (f i j).den0 S w u)
  | .rop sz n f i j, v => ∃ b off, v = .pointer (some ⟨b, off + i * sz + j, none⟩) ∧ S b ∧ ∀ i j, i < n → j < sz → ∃ u, w.cell? ⟨b, off + i * sz + j, none⟩ = some u ∧ (f i j).den0 S w u
  | .ref _ _, _ => False
  | .osl _, _ => False
  | .rowp _ _ _ _, _ => False

def CV.den (ρ : Env) (S : Nat → Prop) (w : World) : CV → Value → Prop
  | .ref h o, v => h < ρ.nx ∧ ∃ b, ρ.blk h = some b ∧ v = .pointer (some ⟨b, o, none⟩)
  | .osl h, v => h < ρ.nx ∧ v = ρ.sl h ∧ v.oneCell' = true
  | .rowp h sz i j, v => h < ρ.nx ∧ ∃ b, ρ.blk h = some b ∧ v = .pointer (some ⟨b, i * sz + j, none⟩)
  | c, v => c.den0 S w v

def denL (d : CV → Value → Prop) : List CV → List Value → Prop
  | [], [] => True
  | c :: cs, v :: vs => d c v ∧ denL d cs vs
  | _, _ => False

def RV.den (ρ : Env) (S : Nat → Prop) (w : World) : RV → Value → Prop
  | .c x, v => x.den ρ S w v
  | .agg l, v => ∃ vs : Array Value, v = .agg vs ∧ denL (CV.den ρ S w) l vs.toList

def denR (d : RV → Value → Prop) : List RV → List Value → Prop
  | [], [] => True
  | c :: cs, v :: vs => d c v ∧ denR d cs vs
  | _, _ => False

def TV.den (ρ : Env) (S : Nat → Prop) (w : World) : TV → Value → Prop
  | .r x, v => x.den ρ S w v
  | .tup l, v => ∃ vs : Array Value, v = .tuple vs ∧ denR (RV.den ρ S w) l vs.toList
  | .gd c x, v => (c = true → x.den ρ S w v) ∧ (c = false → v = Go.undef)
  | .it ok k c, v => v = if ok then .tuple #[.bool true, .int .i64 k, .int .i32 c] else .tuple #[.bool false]
  | .undef, v => v = Go.undef

/-- A block's cells hold a row's elements. -/
def rowSat (S : Nat → Prop) (w : World) (t : TypeId) (sz n : Nat) (f : Nat → Nat → CV) (b : Nat) (v : Value) : Prop :=
  ∃ vs cap, v = .slice (some ⟨b, 0, none⟩) n cap ∧ n ≤ cap ∧ cap ≤ 9223372036854775807 ∧ w.heap[b]? = some (.cells vs t (0, 0)) ∧ vs.size = cap * sz ∧
    (∀ u ∈ vs.toList, u.oneCell' = true) ∧ ∀ i j, i < n → j < sz → ∃ u, vs[i * sz + j]? = some u ∧ (f i j).den0 S w u

def chunkSat (ρ : Env) (S : Nat → Prop) (w : World) (h : Nat) : Chunk → Prop
  | .cells t cs => ∃ b vs, ρ.blk h = some b ∧ w.heap[b]? = some (.cells vs t (0, 0)) ∧ denL (CV.den ρ S w) cs vs.toList
  | .iter s p => ∃ b, ρ.blk h = some b ∧ w.heap[b]? = some (.stringIter ⟨s.toArray⟩ p)
  | .row t sz n f => (ρ.blk h = none ∧ ρ.sl h = .slice none 0 0 ∧ n = 0) ∨ ∃ b, ρ.blk h = some b ∧ rowSat S w t sz n f b (ρ.sl h)

structure Ext (ρ : Env) (S : Nat → Prop) (w : World) (ρ' : Env) (S' : Nat → Prop) (w' : World) : Prop where
  nx : ρ.nx ≤ ρ'.nx
  blk : ∀ h, h < ρ.nx → ρ'.blk h = ρ.blk h
  sl : ∀ h, h < ρ.nx → ρ'.sl h = ρ.sl h
  sub : ∀ b, S b → S' b
  heap : ∀ b, S b → w'.heap[b]? = w.heap[b]?

/-- Where a call began, and what stays as it is. -/
structure Fx where
  P : Program
  w0 : World
  ρ0 : Env
  S0 : Nat → Prop
  Fr : Nat → Prop
  hFr : ∀ b, Fr b → b < w0.heap.size

structure Mem (F : Fx) (ρ : Env) (S : Nat → Prop) (w : World) (chunks : List (Nat × Chunk)) : Prop where
  os : w.os = F.w0.os
  tape : w.tape = F.w0.tape
  output : w.output = F.w0.output
  size : F.w0.heap.size ≤ w.heap.size
  ext : Ext F.ρ0 F.S0 F.w0 ρ S w
  fr : ∀ b, F.Fr b → w.heap[b]? = F.w0.heap[b]?
  ro : ∀ b, S b → b < w.heap.size ∧ (F.S0 b ∨ ¬ F.Fr b)
  sat : ∀ h ch, look chunks h = some ch → h < ρ.nx ∧ chunkSat ρ S w h ch
  own : ∀ h ch b, look chunks h = some ch → ρ.blk h = some b → ¬ S b ∧ ¬ F.Fr b
  apart : ∀ h h' ch ch' b, look chunks h = some ch → look chunks h' = some ch' → ρ.blk h = some b → ρ.blk h' = some b → h = h'

structure Sat (F : Fx) (cx : Cx) (ρ : Env) (S : Nat → Prop) (st : SS) (a : Act) (w : World) : Prop where
  mem : Mem F ρ S w st.chunks
  env : ∀ t v, look st.env t = some v → t < cx.n ∧ v.den ρ S w (a.tmps.getD t undef)
  ntm : a.tmps.size = cx.n
  dfr : a.defers = []
  nxt : ρ.nx = st.next
  gl : ∀ g c, cx.gl g = some c → c.den0 S w (.pointer (some ⟨g, 0, none⟩))

def Good (F : Fx) (cx : Cx) (st : SS) (a : Act) (w : World) : Prop := ∃ ρ S, Sat F cx ρ S st a w

/-! ### Facts are kept -/

theorem look_cons {α : Type} (k : Nat) (v : α) (r : List (Nat × α)) (t : Nat) : look ((k, v) :: r) t = if k = t then some v else look r t := by
  simp only [look]
  by_cases h : k = t
  · subst h; simp
  · have : (k == t) = false := by simpa using h
    rw [this]; simp [h]

theorem Ext.refl (ρ : Env) (S : Nat → Prop) (w : World) : Ext ρ S w ρ S w := ⟨Nat.le_refl _, fun _ _ => rfl, fun _ _ => rfl, fun _ h => h, fun _ _ => rfl⟩
theorem Ext.trans {ρ ρ' ρ'' : Env} {S S' S'' : Nat → Prop} {w w' w'' : World} (e : Ext ρ S w ρ' S' w') (f : Ext ρ' S' w' ρ'' S'' w'') : Ext ρ S w ρ'' S'' w'' :=
  ⟨Nat.le_trans e.nx f.nx, fun h hh => (f.blk h (Nat.lt_of_lt_of_le hh e.nx)).trans (e.blk h hh), fun h hh => (f.sl h (Nat.lt_of_lt_of_le hh e.nx)).trans (e.sl h hh),
    fun b hb => f.sub b (e.sub b hb), fun b hb => (f.heap b (e.sub b hb)).trans (e.heap b hb)⟩

theorem CV.den0_ext {S S' : Nat → Prop} {w w' : World} (hS : ∀ b, S b → S' b) (hw : ∀ b, S b → w'.heap[b]? = w.heap[b]?) :
    ∀ (c : CV) (v : Value), c.den0 S w v → c.den0 S' w' v
  | .int _ _, _, h => h
  | .bool _, _, h => h
  | .str _, _, h => h
  | .nilp, _, h => h
  | .nils, _, h => h
  | .lit _, _, h => h
  | .ro sz n f, v, h => by
    obtain ⟨a, cap, rfl, hle, h⟩ := h
    refine ⟨a, cap, rfl, hle, fun hn => ?_⟩
    obtain ⟨b, off, rfl, hb, hc⟩ := h hn
    refine ⟨b, off, rfl, hS b hb, fun i j hi hj => ?_⟩
    obtain ⟨u, hu, hd⟩ := hc i j hi hj
    exact ⟨u, (World.cell?_of_block (hw b hb)).trans hu, CV.den0_ext hS hw _ _ hd⟩
  | .rop sz n f i j, v, h => by
    obtain ⟨b, off, rfl, hb, hc⟩ := h
    refine ⟨b, off, rfl, hS b hb, fun i j hi hj => ?_⟩
    obtain ⟨u, hu, hd⟩ := hc i j hi hj
    exact ⟨u, (World.cell?_of_block (hw b hb)).trans hu, CV.den0_ext hS hw _ _ hd⟩
  | .ref _ _, _, h => h
  | .osl _, _, h => h
  | .rowp _ _ _ _, _, h => h

theorem CV.den_ext {ρ ρ' : Env} {S S' : Nat → Prop} {w w' : World} (e : Ext ρ S w ρ' S' w') (c : CV) (v : Value) (h : c.den ρ S w v) : c.den ρ' S' w' v := by
  cases c
  case ref hh o =>
    obtain ⟨h1, b, h2, h3⟩ := h
    exact ⟨Nat.lt_of_lt_of_le h1 e.nx, b, (e.blk _ h1).trans h2, h3⟩
  case osl hh => exact ⟨Nat.lt_of_lt_of_le h.1 e.nx, h.2.1.trans (e.sl _ h.1).symm, h.2.2⟩
  case rowp hh sz i j =>
    obtain ⟨h1, b, h2, h3⟩ := h
    exact ⟨Nat.lt_of_lt_of_le h1 e.nx, b, (e.blk _ h1).trans h2, h3⟩
  all_goals exact CV.den0_ext e.sub e.heap _ _ h

theorem denL_mono {d d' : CV → Value → Prop} (h : ∀ c v, d c v → d' c v) : ∀ (cs : List CV) (vs : List Value), denL d cs vs → denL d' cs vs
  | [], [], _ => trivial
  | _ :: cs, _ :: vs, hh => ⟨h _ _ hh.1, denL_mono h cs vs hh.2⟩
  | [], _ :: _, hh => hh.elim
  | _ :: _, [], hh => hh.elim
theorem denR_mono {d d' : RV → Value → Prop} (h : ∀ c v, d c v → d' c v) : ∀ (cs : List RV) (vs : List Value), denR d cs vs → denR d' cs vs
  | [], [], _ => trivial
  | _ :: cs, _ :: vs, hh => ⟨h _ _ hh.1, denR_mono h cs vs hh.2⟩
  | [], _ :: _, hh => hh.elim
  | _ :: _, [], hh => hh.elim

theorem RV.den_ext {ρ ρ' : Env} {S S' : Nat → Prop} {w w' : World} (e : Ext ρ S w ρ' S' w') (c : RV) (v : Value) (h : c.den ρ S w v) : c.den ρ' S' w' v := by
  cases c with
  | c x => exact CV.den_ext e x v h
  | agg l => obtain ⟨vs, rfl, hl⟩ := h; exact ⟨vs, rfl, denL_mono (CV.den_ext e) _ _ hl⟩

theorem TV.den_ext {ρ ρ' : Env} {S S' : Nat → Prop} {w w' : World} (e : Ext ρ S w ρ' S' w') (c : TV) (v : Value) (h : c.den ρ S w v) : c.den ρ' S' w' v := by
  cases c with
  | r x => exact RV.den_ext e x v h
  | tup l => obtain ⟨vs, rfl, hl⟩ := h; exact ⟨vs, rfl, denR_mono (RV.den_ext e) _ _ hl⟩
  | gd c x => exact ⟨fun hc => RV.den_ext e x v (h.1 hc), h.2⟩
  | it ok k c => exact h
  | undef => exact h

/-! ### Operands -/
section
variable {F : Fx} {cx : Cx} {ρ : Env} {S : Nat → Prop} {st : SS} {a : Act} {w : World}

theorem constCV_den {v : Value} {c : CV} (h : constCV v = some c) : c.den ρ S w v := by
  unfold constCV at h
  split at h <;> first | cases h | (simp only [Option.some.injEq] at h; subst h)
  · rfl
  · rfl
  · simp [CV.den, CV.den0]
  · rfl
  · rfl
  · rename_i h1 h2
    refine ⟨rfl, ?_⟩
    cases v <;> first | rfl | exact (h1 _ rfl).elim | exact (h2 _ rfl).elim

theorem evalO_den (h : Sat F cx ρ S st a w) {x : Operand} {v : TV} (hx : evalO cx st x = some v) : v.den ρ S w (a.eval x) := by
  cases x with
  | tmp t => exact (h.env t v hx).2
  | const u =>
    simp only [evalO] at hx
    split at hx
    · rename_i c hc
      simp only [Option.some.injEq] at hx; subst hx; exact constCV_den hc
    · cases hx
  | global g =>
    simp only [evalO] at hx
    split at hx
    · rename_i c hc
      simp only [Option.some.injEq] at hx
      subst hx
      have := h.gl g c hc
      cases c <;> first | exact this | exact this.elim | skip
    · cases hx
  | func f => simp only [evalO, Option.some.injEq] at hx; subst hx; exact ⟨rfl, rfl⟩

/-! ### Guards -/
def GC.holds : GC → Prop
  | .always => True
  | .when c => c = true
  | .bad => False
def GC.wants : GC → Bool
  | .when c => c
  | _ => true

theorem listAt_eq {α : Type} : ∀ (l : List α) (n : Nat), listAt l n = l[n]?
  | [], _ => by simp [listAt]
  | _ :: _, 0 => by simp [listAt]
  | _ :: r, n + 1 => by simp [listAt, listAt_eq r n]

theorem yielded_of {l : List Oper} {j t : Nat} {oj : Oper} (h1 : listAt l j = some oj) (h2 : oj.dst = some t) (ht : t < a.tmps.size) :
    yielded l.toArray a.tmps j = match a.tmps.getD t undef with | .bool b => some b | _ => none := by
  rw [listAt_eq] at h1
  have : (a.tmps[t]?) = some (a.tmps.getD t undef) := by simp [Array.getElem?_eq_getElem ht]
  simp only [yielded, List.getElem?_toArray, h1, Option.bind_some, h2, this]
  cases a.tmps.getD t undef <;> rfl

theorem gcond_wanted (h : Sat F cx ρ S st a w) (l : List Oper) (o : Oper) (hb : gcond l st o ≠ .bad) :
    Region.wanted o (yielded l.toArray a.tmps) = (gcond l st o).wants := by
  unfold gcond at *
  unfold Region.wanted
  cases hg : o.guard with
  | none => rfl
  | some p =>
    obtain ⟨j, want⟩ := p
    simp only [hg] at hb ⊢
    cases h1 : listAt l j with
    | none => simp [h1] at hb
    | some oj =>
      simp only [h1] at hb ⊢
      cases h2 : oj.dst with
      | none => simp [h2] at hb
      | some t =>
        simp only [h2] at hb ⊢
        cases h3 : look st.env t with
        | none => simp [h3] at hb
        | some tv =>
          obtain ⟨ht, hd⟩ := h.env t tv h3
          rw [yielded_of h1 h2 (h.ntm ▸ ht)]
          simp only [h3] at hb ⊢
          cases tv with
          | it ok k c => simp at hb
          | r x =>
            cases x with
            | agg l => simp at hb
            | c x =>
              cases x <;> first | (simp at hb; done) | skip
              rename_i b
              have hv : a.tmps.getD t undef = .bool b := hd
              simp only [hv, GC.wants]
              cases want <;> cases b <;> rfl
          | gd g x =>
            cases x with
            | agg l => simp at hb
            | c x =>
              cases x <;> first | (simp at hb; done) | skip
              rename_i b
              obtain ⟨hd1, hd2⟩ := hd
              cases g
              · have hv := hd2 rfl
                rw [hv]
                simp only [GC.wants]
                cases want <;> rfl
              · have hv : a.tmps.getD t undef = .bool b := hd1 rfl
                simp only [hv, GC.wants]
                cases want <;> cases b <;> rfl
          | tup l => simp at hb
          | undef =>
            have hv : a.tmps.getD t undef = undef := hd
            rw [hv]
            simp only [GC.wants]
            cases want <;> rfl

def allOf : List Prop → Prop
  | [] => True
  | p :: r => p ∧ allOf r
theorem allP_iff : ∀ (l : List Prop) (p : Prop), allP l p ↔ allOf l ∧ p
  | [], p => by simp [allP, allOf]
  | q :: l, p => by simp [allP, allOf, allP_iff l p, and_assoc]
theorem allOf_cat : ∀ (l m : List Prop), allOf (catP l m) ↔ allOf l ∧ allOf m
  | [], m => by simp [catP, allOf]
  | p :: l, m => by simp [catP, allOf, allOf_cat l m, and_assoc]

theorem getV_den (h : Sat F cx ρ S st a w) {g : GC} {x : Operand} {v : RV} {need : List Prop} (hx : getV cx st g x = .v v need) (hn : allOf need) (hg : g.wants = true) :
    v.den ρ S w (a.eval x) := by
  unfold getV at hx
  split at hx
  · rename_i u hu
    simp only [OV.v.injEq] at hx
    obtain ⟨rfl, rfl⟩ := hx
    exact evalO_den h hu
  · rename_i c u hu
    simp only [OV.v.injEq] at hx
    obtain ⟨rfl, rfl⟩ := hx
    have hd := evalO_den h hu
    refine hd.1 ?_
    have := hn.1
    cases g with
    | when d => exact this hg
    | always => exact this
    | bad => exact this
  · cases hx

theorem GC.of_imp {g : GC} {p : Prop} (h : g.imp p) (hg : g.wants = true) : p := by
  cases g with
  | when d => exact h hg
  | always => exact h
  | bad => exact h
end

/-! ### Putting a result -/
theorem getD_put {a : Act} {d t : Nat} {v : Value} (hd : d < a.tmps.size) : (a.put (some d) v).tmps.getD t undef = if d = t then v else a.tmps.getD t undef := by
  by_cases h : d = t
  · subst h; simp [Act.put, hd]
  · simp [Act.put, h, Array.getElem?_setIfInBounds_ne h]

section
variable {F : Fx} {cx : Cx} {ρ : Env} {S : Nat → Prop} {st : SS} {a : Act} {w : World}

def dstOk (N : Nat) (o : Oper) : Prop := ∀ d, o.dst = some d → d < N

/-- A new knowledge of one temporary. -/
theorem Sat.setT (h : Sat F cx ρ S st a w) {d : Nat} (hd : d < cx.n) {tv : TV} {v : Value} (hv : tv.den ρ S w v) :
    Sat F cx ρ S { st with env := (d, tv) :: st.env } (a.put (some d) v) w where
  mem := h.mem
  env := fun t u hu => by
    have hs : d < a.tmps.size := h.ntm ▸ hd
    rw [look_cons] at hu
    rw [getD_put hs]
    by_cases e : d = t
    · subst e
      simp only [if_true, Option.some.injEq] at hu
      subst hu
      exact ⟨hd, by simpa using hv⟩
    · simp only [e, if_false] at hu ⊢
      exact h.env t u hu
  ntm := by simp [Act.put, h.ntm]
  dfr := h.dfr
  nxt := h.nxt
  gl := h.gl

theorem Sat.put (h : Sat F cx ρ S st a w) {g : GC} {dst : Option Nat} (hd : ∀ d, dst = some d → d < cx.n) {r : RV} {v : Value} (hv : r.den ρ S w v) (hg : g.wants = true) :
    Sat F cx ρ S (st.put g dst r) (a.put dst v) w := by
  cases dst with
  | none => exact h
  | some d =>
    refine h.setT (hd d rfl) ?_
    cases g with
    | when c => exact ⟨fun _ => hv, fun hc => by simp only [GC.wants] at hg; rw [hg] at hc; cases hc⟩
    | always => exact hv
    | bad => exact hv

theorem Sat.putU (h : Sat F cx ρ S st a w) {g : GC} {dst : Option Nat} (hd : ∀ d, dst = some d → d < cx.n) {r : RV} (hg : g.wants = false) :
    Sat F cx ρ S (st.put g dst r) (a.put dst undef) w := by
  cases dst with
  | none => exact h
  | some d =>
    refine h.setT (hd d rfl) ?_
    cases g with
    | when c => exact ⟨fun hc => (by simp only [GC.wants] at hg; rw [hg] at hc; cases hc), fun _ => rfl⟩
    | always => cases hg
    | bad => cases hg
end
end Go.Sx
namespace Go.Sx
open Go

/-! ### Types -/
def shOk (P : Program) : TypeDesc → Sh → Prop
  | .int k, .int k' => k = k'
  | .bool, .bool => True
  | .string, .str => True
  | .slice e, .slice e' => e = e'
  | .array n e, .array n' e' => n = n' ∧ e = e'
  | .struct fs, .struct l => fs.toList.mapM (fun f => (P.info? f.type).map fun i => (f.offset, i.size)) = some l ∧ ∀ p ∈ l, p.2 ≠ 0
  | .pointer _, .ptr => True
  | _, .other => True
  | _, _ => False

def isAggD : TypeDesc → Bool
  | .struct _ | .array _ _ => true
  | _ => false

/-- Fields that are ints, one behind the other. -/
def intFs (P : Program) : Nat → List Field → Prop
  | _, [] => True
  | n, f :: r => f.offset = n ∧ f.name ≠ "_" ∧ (∃ k, P.underlying f.type = some (.int k)) ∧ intFs P (n + 1) r
/-- A struct of ints that may be compared. -/
def EqOk (P : Program) (t n : Nat) : Prop := ∃ fs, P.underlying t = some (.struct fs) ∧ P.stoodInHeld t = false ∧ P.eqGuardType P.depth t = false ∧ fs.toList.length = n ∧ intFs P 0 fs.toList

structure TIok (P : Program) (t : Nat) (ti : TI) : Prop where
  info : ∃ i z, P.info? t = some i ∧ i.size = ti.size ∧ i.bytes = ti.bytes ∧ i.zero = some z ∧ z.cells.toList.map constCV = ti.zero.map some ∧ z.cells.size = ti.size
  und : ∃ d, P.underlying t = some d ∧ shOk P d ti.sh ∧ isAggD d = ti.agg
  klen : ti.kinds.length = ti.size
  fits : ∀ l, ti.sh = .struct l → ∀ p ∈ l, p.1 + p.2 ≤ ti.size
  arr : ∀ n e inf, ti.sh = .array n e → P.info? e = some inf → n * inf.size ≤ ti.size
  eqk : ti.eqb = true → EqOk P t ti.size

/-- The types' table fits the program. -/
def TTok (P : Program) (tt : Nat → TI) : Prop :=
  ∀ t, if (tt t).known then TIok P t (tt t) else tt t = ⟨false, 0, 0, false, [], [], .other, false⟩

section
variable {F : Fx} {cx : Cx} {ρ : Env} {S : Nat → Prop} {st : SS} {a : Act} {w : World}

theorem TTok.of_sh {P : Program} {tt : Nat → TI} (h : TTok P tt) {t : Nat} {s : Sh} (hs : (tt t).sh = s) (hne : s ≠ .other) : TIok P t (tt t) := by
  have := h t
  by_cases hk : (tt t).known = true
  · rw [if_pos hk] at this; exact this
  · rw [if_neg hk] at this; rw [this] at hs; exact absurd hs.symm hne
theorem TTok.of_known {P : Program} {tt : Nat → TI} (h : TTok P tt) {t : Nat} (hk : (tt t).known = true) : TIok P t (tt t) := by
  have := h t
  rw [if_pos hk] at this; exact this

theorem ikEq_iff {k k' : IntKind} : ikEq k k' = true ↔ k = k' := by cases k <;> cases k' <;> simp [ikEq]

theorem toList_eq_iff (a b : List UInt8) : ((⟨a.toArray⟩ : ByteArray).toList == (⟨b.toArray⟩ : ByteArray).toList) = decide (a = b) := by
  have h : ∀ l : List UInt8, (⟨l.toArray⟩ : ByteArray).toList = l := fun l => by simp [ByteArray.toList_eq]
  rw [h, h, Bool.eq_iff_iff]; simp

theorem run_value (P : Program) (s : Sem Value) (w : World) {v : Value} {w' : World} (h : s.run P w = .ok v w') :
    (do pure (Next.value (← s)) : Sem Next).run P w = .ok (.value v) w' := by simp [h]

theorem cmpI_sound {op : BinOp} {x y : Int} {r : Bool} (h : cmpI op x y = some r) (k : IntKind) (t : TypeId) (P : Program) (w : World) :
    (binOp op t (.int k x) (.int k y)).run P w = .ok (.bool r) w := by
  cases op <;> simp only [cmpI, Option.some.injEq, reduceCtorEq] at h <;> subst h <;> simp [binOp, Op.intCmp] <;> first | rfl | (rw [Bool.eq_iff_iff]; simp)

theorem eqGuard_plain {op : BinOp} {t : TypeId} {ox oy : Operand} {x y : Value} {P : Program} {w : World} (h : ∀ l, x ≠ .agg l) (h' : x ≠ .nilIface) :
    (eqGuard op t ox oy x y).run P w = .ok () w := by
  cases x <;> first | exact absurd rfl h' | exact absurd rfl (h _) | (cases op <;> simp [eqGuard])

theorem size_mk (l : List UInt8) : (⟨l.toArray⟩ : ByteArray).size = l.length := by simp [ByteArray.size]
theorem toList_mk (l : List UInt8) : (⟨l.toArray⟩ : ByteArray).toList = l := by simp [ByteArray.toList_eq]

theorem den_oneCell {c : CV} {v : Value} (h : c.den ρ S w v) : v.oneCell' = true := by
  cases c <;> simp only [CV.den, CV.den0] at h
  case lit => rw [h.1]; exact h.2
  case osl => exact h.2.2
  case ref => obtain ⟨_, b, _, rfl⟩ := h; rfl
  case rowp => obtain ⟨_, b, _, rfl⟩ := h; rfl
  case ro => obtain ⟨_, _, rfl, _⟩ := h; rfl
  case rop => obtain ⟨_, _, rfl, _⟩ := h; rfl
  all_goals (subst h; rfl)

theorem pointee_of {P : Program} {t e : TypeId} (h : P.underlying t = some (.pointer e)) : P.underlying t = some (.pointer (P.pointee t)) := by
  simp [Program.pointee, h]

/-- An operation between two cells. -/
theorem bop_sound (hT : TTok F.P cx.tt) {op : BinOp} {g : GC} {x y r : CV} {vc : List Prop} {t : TypeId} (h : bop (cx.tt t).sh op g x y = some (vc, r)) (hk : kindsOk x y = true) (hv : allOf vc) (hg : g.wants = true)
    {u v : Value} (hu : x.den ρ S w u) (hv' : y.den ρ S w v) (ox oy : Operand) :
    ∃ z, r.den ρ S w z ∧ ∀ w', (do eqGuard op t ox oy u v; binOp op t u v : Sem Value).run F.P w' = .ok z w' := by
  have key : ∀ z, (∀ w', (binOp op t u v).run F.P w' = .ok z w') → ∀ w', (do eqGuard op t ox oy u v; binOp op t u v : Sem Value).run F.P w' = .ok z w' := by
    intro z hz w'
    have h1 : (∀ l, u ≠ .agg l) := fun l e => by subst e; have := den_oneCell hu; simp [Value.oneCell'] at this
    have h2 : u ≠ .nilIface := fun e => by
      subst e
      cases x <;> simp only [CV.den, CV.den0] at hu <;> first | (simp [bop] at h; done) | skip
      all_goals first | (obtain ⟨_, _, _, hu⟩ := hu; cases hu; done) | (cases hu; done)
    have := eqGuard_plain (op := op) (t := t) (ox := ox) (oy := oy) (y := v) (P := F.P) (w := w') h1 h2
    simp [this, hz]
  cases x <;> cases y <;> first | (simp [bop] at h; done) | skip
  case int.int k m k' n =>
    simp only [CV.den, CV.den0] at hu hv'
    subst hu hv'
    have hk' : k = k' := ikEq_iff.1 hk
    subst hk'
    cases op <;> simp only [bop, cmpI, Option.some.injEq, Prod.mk.injEq, reduceCtorEq] at h <;> obtain ⟨rfl, rfl⟩ := h
    case add => exact ⟨_, rfl, key _ fun w' => by simp [binOp, Op.intArith]⟩
    case sub => exact ⟨_, rfl, key _ fun w' => by simp [binOp, Op.intArith]⟩
    case mul => exact ⟨_, rfl, key _ fun w' => by simp [binOp, Op.intArith]⟩
    case quo =>
      have hn := GC.of_imp hv.1 hg
      exact ⟨_, rfl, key _ fun w' => by simp [binOp, Op.intDiv, hn]⟩
    case rem =>
      have hn := GC.of_imp hv.1 hg
      exact ⟨_, rfl, key _ fun w' => by simp [binOp, Op.intDiv, hn]⟩
    all_goals exact ⟨_, rfl, key _ fun w' => cmpI_sound rfl _ _ _ _⟩
  case bool.bool m n =>
    simp only [CV.den, CV.den0] at hu hv'
    subst hu hv'
    cases hs : (cx.tt t).sh <;> simp only [bop, hs, reduceCtorEq] at h
    obtain ⟨d, hd, hsh, _⟩ := (hT.of_sh hs (by simp)).und
    rw [hs] at hsh
    cases d <;> simp only [shOk] at hsh
    cases op <;> simp only [Option.some.injEq, Prod.mk.injEq, reduceCtorEq] at h <;> obtain ⟨rfl, rfl⟩ := h
    · exact ⟨_, rfl, key _ fun w' => run_eql_bool _ _ _ _ hd⟩
    · exact ⟨_, rfl, key _ fun w' => run_neq_bool _ _ _ _ hd⟩
  case str.str m n =>
    simp only [CV.den, CV.den0] at hu hv'
    subst hu hv'
    cases op <;> simp only [bop, Option.some.injEq, Prod.mk.injEq, reduceCtorEq] at h <;> obtain ⟨rfl, rfl⟩ := h
    case add =>
      have hn := GC.of_imp hv.1 hg
      refine ⟨.string ⟨(m ++ n).toArray⟩, rfl, key _ fun w' => ?_⟩
      have h1 : ¬ (IntKind.i64.max < ((m.length + n.length : Nat) : Int)) := by simp [IntKind.max, IntKind.bits, IntKind.signed]; omega
      have h2 : (⟨m.toArray⟩ : ByteArray) ++ ⟨n.toArray⟩ = ⟨(m ++ n).toArray⟩ := by
        apply ByteArray.ext; simp
      simp only [binOp, Op.stringOp, size_mk, gt_iff_lt, h1, if_false, h2]
      rfl
    case eql =>
      refine ⟨_, rfl, key _ fun w' => ?_⟩
      simp only [binOp, Op.stringOp, toList_eq_iff]; rfl
    case neq =>
      refine ⟨_, rfl, key _ fun w' => ?_⟩
      simp only [binOp, Op.stringOp, toList_eq_iff]; rfl
  case nilp.nilp =>
    simp only [CV.den, CV.den0] at hu hv'
    subst hu hv'
    cases hs : (cx.tt t).sh <;> simp only [bop, hs, reduceCtorEq] at h
    obtain ⟨d, hd, hsh, _⟩ := (hT.of_sh hs (by simp)).und
    rw [hs] at hsh
    cases d <;> simp only [shOk] at hsh
    cases op <;> simp only [Option.some.injEq, Prod.mk.injEq, reduceCtorEq] at h <;> obtain ⟨rfl, rfl⟩ := h
    · exact ⟨_, rfl, key _ fun w' => run_eql_pointer_nil _ _ _ (pointee_of hd)⟩
    · exact ⟨_, rfl, key _ fun w' => run_neq_pointer_nil _ _ _ (pointee_of hd)⟩
  case ref.nilp hh o =>
    obtain ⟨_, b, _, rfl⟩ := hu
    simp only [CV.den, CV.den0] at hv'
    subst hv'
    cases hs : (cx.tt t).sh <;> simp only [bop, hs, reduceCtorEq] at h
    obtain ⟨d, hd, hsh, _⟩ := (hT.of_sh hs (by simp)).und
    rw [hs] at hsh
    cases d <;> simp only [shOk] at hsh
    cases op <;> simp only [Option.some.injEq, Prod.mk.injEq, reduceCtorEq] at h <;> obtain ⟨rfl, rfl⟩ := h
    · exact ⟨_, rfl, key _ fun w' => run_eql_pointer_nil _ _ _ (pointee_of hd)⟩
    · exact ⟨_, rfl, key _ fun w' => run_neq_pointer_nil _ _ _ (pointee_of hd)⟩

theorem run_part_int {e : TypeId} {k : IntKind} (he : F.P.underlying e = some (.int k)) {xs : Array Value} {off : Nat} {v : Value} (hx : xs[off]? = some v) (w : World) : (part e xs off).run F.P w = .ok v w := by
  simp [part, isAgg, run_underlying he, hx]

theorem denL_len {d : CV → Value → Prop} : ∀ {cs : List CV} {vs : List Value}, denL d cs vs → cs.length = vs.length
  | [], [], _ => rfl
  | _ :: _, _ :: _, h => by simp [denL_len h.2]
  | [], _ :: _, h => by cases h
  | _ :: _, [], h => by cases h

/-- The model's own loop over the fields, when all are ints. -/
theorem eqFields_sound (d : Nat) (xs ys : Array Value) : ∀ (fs : List Field) (n : Nat) (as bs : List CV) (us vs : List Value) (q : Bool), intFs F.P n fs → fs.length = as.length → eqCs as bs = some q →
    denL (CV.den ρ S w) as us → denL (CV.den ρ S w) bs vs → (∀ i, xs[n + i]? = us[i]?) → (∀ i, ys[n + i]? = vs[i]?) → ∀ w', (Op.eqFields (d + 1) xs ys fs).run F.P w' = .ok q w'
  | [], _, as, bs, us, vs, q, _, hl, hq, _, _, _, _ => fun w' => by
    match as, bs, hl with
    | [], [], _ => simp only [eqCs, Option.some.injEq] at hq; subst hq; simp [Op.eqFields]
    | [], _ :: _, _ => simp [eqCs] at hq
  | f :: fs, n, as, bs, us, vs, q, hf, hl, hq, hu, hv, hx, hy => fun w' => by
    obtain ⟨ho, hn, ⟨kk, hk⟩, hf'⟩ := hf
    match as, hl with
    | a :: as, hl =>
      match bs with
      | [] => cases a <;> simp [eqCs] at hq
      | b :: bs =>
        cases a <;> cases b <;> simp only [eqCs, reduceCtorEq] at hq
        rename_i k x k' y
        split at hq
        · rename_i q' hkk hq'
          simp only [Option.some.injEq] at hq
          subst hq
          have hkk := ikEq_iff.1 hkk
          subst hkk
          match us, vs, hu, hv with
          | u :: us, v :: vs, hu, hv =>
            obtain ⟨h1, hu⟩ := hu
            obtain ⟨h2, hv⟩ := hv
            simp only [CV.den, CV.den0] at h1 h2
            subst h1 h2
            have hx0 := hx 0
            have hy0 := hy 0
            simp only [Nat.add_zero, List.getElem?_cons_zero] at hx0 hy0
            have e1 := run_part_int hk hx0
            have e2 := run_part_int hk hy0
            have ih := eqFields_sound d xs ys fs (n + 1) as bs us vs q' hf' (by simpa using hl) hq' hu hv (fun i => by rw [show n + 1 + i = n + (i + 1) by omega, hx]; rfl) (fun i => by rw [show n + 1 + i = n + (i + 1) by omega, hy]; rfl)
            simp only [Op.eqFields, ne_eq, hn, not_false_eq_true, if_true, ho, Sem.run_bind, e1, e2, Result.andThen_ok, run_equalIn_int w' d f.type k kk x y hk]
            by_cases hxy : x = y
            · subst hxy
              simp [ih w']
            · simp [hxy]
        · cases hq

theorem eqs_sound (hT : TTok F.P cx.tt) {op : BinOp} {t : TypeId} {as bs : List CV} {q r : Bool} (ht : (cx.tt t).eqb = true) (hq : eqCs as bs = some q) (hr : eqOp op q = some r) (hl : as.length = (cx.tt t).size)
    {u v : Value} (hu : (RV.agg as).den ρ S w u) (hv : (RV.agg bs).den ρ S w v) (ox oy : Operand) : ∀ w', (do eqGuard op t ox oy u v; binOp op t u v : Sem Value).run F.P w' = .ok (.bool r) w' := by
  intro w'
  have hkn : (cx.tt t).known = true := by
    have := hT t
    by_cases hk : (cx.tt t).known = true
    · exact hk
    · rw [if_neg hk] at this; rw [this] at ht; cases ht
  obtain ⟨fs, h1, h2, h3, h4, h5⟩ := (hT.of_known hkn).eqk ht
  obtain ⟨us, rfl, hu⟩ := hu
  obtain ⟨vs, rfl, hv⟩ := hv
  have hff : F.P.fieldsOf t = fs := by simp [Program.fieldsOf, h1]
  have hund : F.P.underlying t = some (.struct (F.P.fieldsOf t)) := by rw [hff]; exact h1
  have hE : (Op.equalIn 10000 t (.agg us) (.agg vs)).run F.P w' = .ok q w' := by
    rw [run_equalIn_agg w' 9999 t us vs hund h2, hff]
    exact eqFields_sound 9998 us vs fs.toList 0 as bs us.toList vs.toList q h5 (by rw [h4, hl]) hq hu hv (fun i => by simp) (fun i => by simp) w'
  have hG := run_eqGuard_agg w' op t ox oy us vs h3
  cases op <;> simp only [eqOp, Option.some.injEq, reduceCtorEq] at hr <;> subst hr
  · simp [hG, run_eql_struct, hE]
  · simp [hG, run_neq_struct, hE]
end
end Go.Sx
namespace Go.Sx
open Go

section
variable {F : Fx} {cx : Cx} {ρ : Env} {S : Nat → Prop} {st : SS} {a : Act} {w : World}

/-- What is asked of a pure operation: its value, in whatever world. -/
def Gives (F : Fx) (a : Act) (o : Oper) (d : Value → Prop) : Prop := ∃ v, d v ∧ ∀ w', (execOp a.eval o).run F.P w' = .ok (.value v) w'

theorem pure_move (H : Sat F cx ρ S st a w) {g : GC} {x : Operand} {vc : List Prop} {r : RV} (h : pureOp cx st g (.move x) = some (vc, r)) (hv : allOf vc) (hg : g.wants = true)
    (o : Oper) (ho : o.op = .move x ∨ o.op = .assign x) : Gives F a o (r.den ρ S w) := by
  simp only [pureOp] at h
  split at h
  · rename_i v need hx
    simp only [Option.some.injEq, Prod.mk.injEq] at h
    obtain ⟨rfl, rfl⟩ := h
    refine ⟨_, getV_den H hx hv hg, fun w' => ?_⟩
    rcases ho with ho | ho <;> simp [execOp, ho]
  · cases h

theorem len'_eq0 {α : Type} : ∀ (l : List α), len' l = l.length
  | [] => rfl
  | _ :: r => by simp [len', len'_eq0 r]

theorem pure_binOp (H : Sat F cx ρ S st a w) (hT : TTok F.P cx.tt) {g : GC} {op : BinOp} {t t' : TypeId} {x y : Operand} {vc : List Prop} {r : RV}
    (h : pureOp cx st g (.binOp op t x y t') = some (vc, r)) (hv : allOf vc) (hg : g.wants = true) (o : Oper) (ho : o.op = .binOp op t x y t') : Gives F a o (r.den ρ S w) := by
  simp only [pureOp] at h
  split at h
  · rename_i c n1 d n2 hx hy
    split at h
    · rename_i vc' r' hk hb
      simp only [Option.some.injEq, Prod.mk.injEq] at h
      obtain ⟨rfl, rfl⟩ := h
      rw [allOf_cat, allOf_cat] at hv
      obtain ⟨z, hz, hrun⟩ := bop_sound hT hb hk hv.2.2 hg (getV_den H hx hv.1 hg) (getV_den H hy hv.2.1 hg) x y
      refine ⟨z, hz, fun w' => ?_⟩
      simp only [execOp, ho]
      exact run_value _ _ _ (hrun w')
    · cases h
  · rename_i as n1 bs n2 hx hy
    split at h
    · rename_i q hk hb
      split at h
      · rename_i r' hr
        simp only [Option.some.injEq, Prod.mk.injEq] at h
        obtain ⟨rfl, rfl⟩ := h
        rw [allOf_cat, allOf_cat] at hv
        refine ⟨.bool r', rfl, fun w' => ?_⟩
        simp only [execOp, ho]
        exact run_value _ _ _ (eqs_sound hT hk hb hr (by rw [← len'_eq0]; exact hv.2.2.1) (getV_den H hx hv.1 hg) (getV_den H hy hv.2.1 hg) x y w')
      · cases h
    · cases h
  · cases h

theorem pure_unOp (H : Sat F cx ρ S st a w) {g : GC} {op : UnOp} {t : TypeId} {x : Operand} {vc : List Prop} {r : RV}
    (h : pureOp cx st g (.unOp op t x) = some (vc, r)) (hv : allOf vc) (hg : g.wants = true) (o : Oper) (ho : o.op = .unOp op t x) : Gives F a o (r.den ρ S w) := by
  simp only [pureOp] at h
  split at h
  · rename_i b n1 hx
    split at h
    · simp only [Option.some.injEq, Prod.mk.injEq] at h
      obtain ⟨rfl, rfl⟩ := h
      have hd : a.eval x = .bool b := getV_den H hx hv hg
      exact ⟨.bool (!b), rfl, fun w' => by simp [execOp, ho, hd, Op.unary]⟩
    · cases h
  · rename_i k b n1 hx
    split at h
    · simp only [Option.some.injEq, Prod.mk.injEq] at h
      obtain ⟨rfl, rfl⟩ := h
      have hd : a.eval x = .int k b := getV_den H hx hv hg
      exact ⟨.int k (k.wrap (0 - b)), rfl, fun w' => by simp [execOp, ho, hd, Op.unary, Op.intArith]⟩
    · cases h
  · cases h

theorem run_pick {o : Oper} {c x y : Operand} (ho : o.op = .pick c x y) {b : Bool} (hc : a.eval c = .bool b) (P : Program) (w' : World) :
    (execOp a.eval o).run P w' = .ok (.value (if b then a.eval x else a.eval y)) w' := by
  simp [execOp, ho, hc, asBool]

theorem pure_pick (H : Sat F cx ρ S st a w) {g : GC} {c x y : Operand} {vc : List Prop} {r : RV}
    (h : pureOp cx st g (.pick c x y) = some (vc, r)) (hv : allOf vc) (hg : g.wants = true) (o : Oper) (ho : o.op = .pick c x y) : Gives F a o (r.den ρ S w) := by
  simp only [pureOp] at h
  split at h
  · rename_i bc n ta tb hc hx hy
    have dx := evalO_den H hx
    have dy := evalO_den H hy
    split at h <;> simp only [Option.some.injEq, Prod.mk.injEq, reduceCtorEq] at h
    all_goals
      obtain ⟨rfl, rfl⟩ := h
      have hc' : a.eval c = .bool bc := by first | exact getV_den H hc hv hg | exact getV_den H hc ((allOf_cat _ _).1 hv).1 hg
      refine ⟨_, ?_, run_pick ho hc' F.P⟩
    · rename_i p q
      have e1 : a.eval x = .bool p := dx
      have e2 : a.eval y = .bool q := dy
      rw [e1, e2]; cases bc <;> rfl
    · rename_i p cb q
      have e1 : a.eval x = .bool p := dx
      have hn := GC.of_imp ((allOf_cat _ _).1 hv).2.1 hg
      cases bc
      · have e2 : a.eval y = .bool q := dy.1 (hn rfl)
        exact e2
      · exact e1
    · rename_i ca p q
      have e2 : a.eval y = .bool q := dy
      have hn := GC.of_imp ((allOf_cat _ _).1 hv).2.1 hg
      cases bc
      · exact e2
      · have e1 : a.eval x = .bool p := dx.1 (hn rfl)
        exact e1
    · rename_i ca p cb q
      have hn := GC.of_imp ((allOf_cat _ _).1 hv).2.1 hg
      cases bc
      · have e2 : a.eval y = .bool q := dy.1 (hn.2 rfl)
        exact e2
      · have e1 : a.eval x = .bool p := dx.1 (hn.1 rfl)
        exact e1
    · have hn := GC.of_imp ((allOf_cat _ _).1 hv).2.1 hg
      subst hn
      exact dy
    · have hn := GC.of_imp ((allOf_cat _ _).1 hv).2.1 hg
      obtain ⟨rfl, hn⟩ := hn
      exact dy.1 hn
    · have hn := GC.of_imp ((allOf_cat _ _).1 hv).2.1 hg
      subst hn
      exact dx
    · have hn := GC.of_imp ((allOf_cat _ _).1 hv).2.1 hg
      obtain ⟨rfl, hn⟩ := hn
      exact dx.1 hn
  · cases h

theorem pure_convert (H : Sat F cx ρ S st a w) (hT : TTok F.P cx.tt) {g : GC} {s d : TypeId} {x : Operand} {vc : List Prop} {r : RV}
    (h : pureOp cx st g (.convert s d x) = some (vc, r)) (hv : allOf vc) (hg : g.wants = true) (o : Oper) (ho : o.op = .convert s d x) : Gives F a o (r.den ρ S w) := by
  simp only [pureOp] at h
  split at h
  · rename_i k0 n n1 hx
    split at h
    · rename_i k1 k hs hd
      simp only [Option.some.injEq, Prod.mk.injEq] at h
      obtain ⟨rfl, rfl⟩ := h
      have hx' : a.eval x = .int k0 n := getV_den H hx hv hg
      obtain ⟨du, hdu, hsh, _⟩ := (hT.of_sh hs (by simp)).und
      obtain ⟨dd, hdd, hdsh, _⟩ := (hT.of_sh hd (by simp)).und
      rw [hs] at hsh; rw [hd] at hdsh
      cases du <;> simp only [shOk] at hsh
      cases dd <;> simp only [shOk] at hdsh
      subst hdsh
      exact ⟨_, rfl, fun w' => by simp [execOp, ho, hx', convert, run_underlying hdu, run_underlying hdd, Conv.intToInt]⟩
    · cases h
  · rename_i s' n1 hx
    split at h
    · rename_i hs hd
      simp only [Option.some.injEq, Prod.mk.injEq] at h
      obtain ⟨rfl, rfl⟩ := h
      have hx' : a.eval x = .string ⟨s'.toArray⟩ := getV_den H hx hv hg
      obtain ⟨du, hdu, hsh, _⟩ := (hT.of_sh hs (by simp)).und
      obtain ⟨dd, hdd, hdsh, _⟩ := (hT.of_sh hd (by simp)).und
      rw [hs] at hsh; rw [hd] at hdsh
      cases du <;> simp only [shOk] at hsh
      cases dd <;> simp only [shOk] at hdsh
      exact ⟨_, rfl, fun w' => by simp [execOp, ho, hx', convert, run_underlying hdu, run_underlying hdd]⟩
    · cases h
  · cases h

theorem pure_index (H : Sat F cx ρ S st a w) (hT : TTok F.P cx.tt) {g : GC} {t : TypeId} {x i : Operand} {vc : List Prop} {r : RV}
    (h : pureOp cx st g (.index t x i) = some (vc, r)) (hv : allOf vc) (hg : g.wants = true) (o : Oper) (ho : o.op = .index t x i) : Gives F a o (r.den ρ S w) := by
  simp only [pureOp] at h
  split at h
  · rename_i s n1 k n n2 hx hi
    split at h
    · rename_i hs
      simp only [Option.some.injEq, Prod.mk.injEq] at h
      obtain ⟨rfl, rfl⟩ := h
      rw [allOf_cat, allOf_cat] at hv
      have hx' : a.eval x = .string ⟨s.toArray⟩ := getV_den H hx hv.1 hg
      have hi' : a.eval i = .int k n := getV_den H hi hv.2.1 hg
      obtain ⟨h0, h1⟩ := GC.of_imp hv.2.2.1 hg
      obtain ⟨du, hdu, hsh, _⟩ := (hT.of_sh hs (by simp)).und
      rw [hs] at hsh
      cases du <;> simp only [shOk] at hsh
      have hlt : n.toNat < s.length := by omega
      have hget : (⟨s.toArray⟩ : ByteArray)[n.toNat]? = some (s.getD n.toNat 0) := by
        have hlt' : n.toNat < (⟨s.toArray⟩ : ByteArray).size := by rw [size_mk]; exact hlt
        rw [getElem?_pos (⟨s.toArray⟩ : ByteArray) n.toNat hlt']
        simp [List.getD_eq_getElem?_getD, List.getElem?_eq_getElem hlt, ByteArray.getElem_eq_getElem_data]
      exact ⟨_, rfl, fun w' => by simp [execOp, ho, hx', hi', Instr.index, asIntOf, run_underlying hdu, h0, hget]⟩
    · cases h
  · cases h

theorem denR_at : ∀ {l : List RV} {vs : List Value} {i : Nat} {v : RV}, denR (RV.den ρ S w) l vs → listAt l i = some v → ∃ u, vs[i]? = some u ∧ v.den ρ S w u
  | [], _, _, _, _, hl => by cases hl
  | _ :: _, [], _, _, h, _ => h.elim
  | c :: cs, u :: us, 0, v, h, hl => by simp only [listAt, Option.some.injEq] at hl; subst hl; exact ⟨u, rfl, h.1⟩
  | c :: cs, u :: us, n + 1, v, h, hl => by
    obtain ⟨z, hz, hd⟩ := denR_at h.2 (show listAt cs n = some v from hl)
    exact ⟨z, by simpa using hz, hd⟩

theorem GC.imp_of {g : GC} {p : Prop} (hg : g.wants = true) (h : g.imp p) : p := by
  cases g with
  | when d => exact h hg
  | always => exact h
  | bad => exact h

theorem pure_extract (H : Sat F cx ρ S st a w) {g : GC} {t : Operand} {i : Nat} {vc : List Prop} {r : RV}
    (h : pureOp cx st g (.extract t i) = some (vc, r)) (hv0 : allOf vc) (hg : g.wants = true) (o : Oper) (ho : o.op = .extract t i) : Gives F a o (r.den ρ S w) := by
  simp only [pureOp] at h
  split at h
  · rename_i l hl
    split at h
    · rename_i v hv
      simp only [Option.some.injEq, Prod.mk.injEq] at h
      obtain ⟨rfl, rfl⟩ := h
      obtain ⟨vs, hvs, hd⟩ := evalO_den H hl
      obtain ⟨u, hu, hd⟩ := denR_at hd hv
      refine ⟨u, hd, fun w' => ?_⟩
      have : vs[i]? = some u := by simpa using hu
      simp [execOp, ho, hvs, Instr.extract, this]
    · cases h
  · rename_i ok k c hl
    have hval : a.eval t = if ok then .tuple #[.bool true, .int .i64 k, .int .i32 c] else .tuple #[.bool false] := evalO_den H hl
    split at h
    · simp only [Option.some.injEq, Prod.mk.injEq] at h
      obtain ⟨rfl, rfl⟩ := h
      refine ⟨.bool ok, rfl, fun w' => ?_⟩
      cases ok <;> simp [execOp, ho, hval, Instr.extract]
    · simp only [Option.some.injEq, Prod.mk.injEq] at h
      obtain ⟨rfl, rfl⟩ := h
      have hok : ok = true := GC.imp_of hg hv0.1
      subst hok
      exact ⟨.int .i64 k, rfl, fun w' => by simp [execOp, ho, hval, Instr.extract]⟩
    · simp only [Option.some.injEq, Prod.mk.injEq] at h
      obtain ⟨rfl, rfl⟩ := h
      have hok : ok = true := GC.imp_of hg hv0.1
      subst hok
      exact ⟨.int .i32 c, rfl, fun w' => by simp [execOp, ho, hval, Instr.extract]⟩
    · cases h
  · cases h
end
end Go.Sx
namespace Go.Sx
open Go

section
variable {F : Fx} {cx : Cx} {ρ : Env} {S : Nat → Prop} {st : SS} {a : Act} {w : World}

theorem add_none (b o n : Nat) : (⟨b, o, none⟩ : Addr).add n = ⟨b, o + n, none⟩ := by
  unfold Addr.add; split <;> simp_all

theorem den_ro {sz n : Nat} {f : Nat → Nat → CV} {v : Value} (h : (CV.ro sz n f).den ρ S w v) : ∃ ad cap, v = .slice ad n cap ∧ n ≤ cap ∧ (0 < n → ∃ b off, ad = some ⟨b, off, none⟩ ∧ S b ∧
    ∀ i j, i < n → j < sz → ∃ u, w.cell? ⟨b, off + i * sz + j, none⟩ = some u ∧ (f i j).den0 S w u) := h

theorem cell_of_heap {b o : Nat} {vs : Array Value} {t : TypeId} {u : Value} (h : w.heap[b]? = some (.cells vs t (0, 0))) (hu : vs[o]? = some u) : w.cell? ⟨b, o, none⟩ = some u := by
  simp [World.cell?, h, hu]

theorem sliceOf_sound (H : Sat F cx ρ S st a w) {c : CV} {v : Value} {sz n : Nat} {f : Nat → Nat → CV} (hc : c.den ρ S w v) (h : sliceOf st c = some (sz, n, f)) :
    ∃ ad cap, v = .slice ad n cap ∧ (0 < n → ∃ b off, ad = some ⟨b, off, none⟩ ∧ ∀ i j, i < n → j < sz → ∃ u, w.cell? ⟨b, off + i * sz + j, none⟩ = some u ∧ (f i j).den0 S w u) := by
  cases c <;> simp only [sliceOf, reduceCtorEq] at h
  case ro sz' n' f' =>
    simp only [Option.some.injEq, Prod.mk.injEq] at h
    obtain ⟨rfl, rfl, rfl⟩ := h
    obtain ⟨ad, cap, rfl, _, hh⟩ := den_ro hc
    exact ⟨ad, cap, rfl, fun hn => let ⟨b, off, e, _, hh⟩ := hh hn; ⟨b, off, e, hh⟩⟩
  case osl hd =>
    split at h
    · rename_i t sz' n' f' hl
      simp only [Option.some.injEq, Prod.mk.injEq] at h
      obtain ⟨rfl, rfl, rfl⟩ := h
      obtain ⟨_, hs⟩ := H.mem.sat _ _ hl
      have hv : v = ρ.sl hd := hc.2.1
      rcases hs with ⟨_, h2, rfl⟩ | ⟨b, _, vs, cap, h2, _, _, hb, _, _, hcell⟩
      · exact ⟨none, 0, hv.trans h2, fun hn => by omega⟩
      · refine ⟨_, cap, hv.trans h2, fun _ => ⟨b, 0, rfl, fun i j hi hj => ?_⟩⟩
        obtain ⟨u, hu, hd⟩ := hcell i j hi hj
        exact ⟨u, cell_of_heap hb (by simpa using hu), hd⟩
    · cases h

theorem und_of (hT : TTok F.P cx.tt) {t : TypeId} {s : Sh} (hs : (cx.tt t).sh = s) (hne : s ≠ .other) : ∃ d, F.P.underlying t = some d ∧ shOk F.P d s := by
  obtain ⟨d, hd, hsh, _⟩ := (hT.of_sh hs hne).und
  exact ⟨d, hd, hs ▸ hsh⟩

theorem run_len {o : Oper} {args : Array Operand} {ts : Array TypeId} {x : Operand} {t : TypeId} (ho : o.op = .call ⟨.builtin .len, args, ts⟩) (hx : args.toList = [x]) (ht : ts.toList = [t]) (P : Program) (w' : World) :
    (execOp a.eval o).run P w' = (do pure (Next.value (← Builtin.len_ #[t] o.type #[a.eval x])) : Sem Next).run P w' := by
  have e1 : args = #[x] := by rw [← Array.toArray_toList (xs := args), hx]
  have e2 : ts = #[t] := by rw [← Array.toArray_toList (xs := ts), ht]
  subst e1 e2
  simp [execOp, ho, resolve, invoke, builtin]

theorem pure_len (H : Sat F cx ρ S st a w) (hT : TTok F.P cx.tt) {g : GC} {args : Array Operand} {ts : Array TypeId} {vc : List Prop} {r : RV}
    (h : pureOp cx st g (.call ⟨.builtin .len, args, ts⟩) = some (vc, r)) (hv : allOf vc) (hg : g.wants = true) (o : Oper) (ho : o.op = .call ⟨.builtin .len, args, ts⟩) : Gives F a o (r.den ρ S w) := by
  simp only [pureOp] at h
  split at h
  · rename_i x t hargs hts
    have hrun := run_len (a := a) ho hargs hts F.P
    split at h
    · rename_i s n1 hx
      split at h
      · rename_i hs
        simp only [Option.some.injEq, Prod.mk.injEq] at h
        obtain ⟨rfl, rfl⟩ := h
        have hx' : a.eval x = .string ⟨s.toArray⟩ := getV_den H hx hv hg
        obtain ⟨d, hd, hsh⟩ := und_of hT hs (by simp)
        cases d <;> simp only [shOk] at hsh
        exact ⟨.int .i64 s.length, rfl, fun w' => by rw [hrun]; simp [Builtin.len_, hx', run_underlying hd, goInt, size_mk]⟩
      · cases h
    · rename_i n1 hx
      split at h
      · rename_i e hs
        simp only [Option.some.injEq, Prod.mk.injEq] at h
        obtain ⟨rfl, rfl⟩ := h
        have hx' : a.eval x = .slice none 0 0 := getV_den H hx hv hg
        obtain ⟨d, hd, hsh⟩ := und_of hT hs (by simp)
        cases d <;> simp only [shOk] at hsh
        exact ⟨.int .i64 0, rfl, fun w' => by rw [hrun]; simp [Builtin.len_, hx', run_underlying hd, goInt]⟩
      · cases h
    · rename_i c n1 _ _ hx
      split at h
      · rename_i e sz n f hs hsl
        simp only [Option.some.injEq, Prod.mk.injEq] at h
        obtain ⟨rfl, rfl⟩ := h
        obtain ⟨ad, cap, hx', _⟩ := sliceOf_sound H (getV_den H hx hv hg) hsl
        obtain ⟨d, hd, hsh⟩ := und_of hT hs (by simp)
        cases d <;> simp only [shOk] at hsh
        exact ⟨.int .i64 n, rfl, fun w' => by rw [hrun]; simp [Builtin.len_, hx', run_underlying hd, goInt]⟩
      · cases h
    · cases h
  · cases h

theorem pure_nilCheck (H : Sat F cx ρ S st a w) {g : GC} {x : Operand} {vc : List Prop} {r : RV}
    (h : pureOp cx st g (.nilCheck x) = some (vc, r)) (hv : allOf vc) (hg : g.wants = true) (o : Oper) (ho : o.op = .nilCheck x) : Gives F a o (r.den ρ S w) := by
  simp only [pureOp] at h
  split at h <;> simp only [Option.some.injEq, Prod.mk.injEq, reduceCtorEq] at h
  all_goals
    obtain ⟨rfl, rfl⟩ := h
    rename_i hx
    have hd := getV_den H hx hv hg
    refine ⟨a.eval x, hd, fun w' => ?_⟩
  · obtain ⟨_, b, _, hd⟩ := hd
    simp [execOp, ho, hd]
  · obtain ⟨b, off, hd, _⟩ := hd
    simp [execOp, ho, hd]
  · obtain ⟨_, b, _, hd⟩ := hd
    simp [execOp, ho, hd]

theorem mapM_at {P : Program} : ∀ {fs : List Field} {l : List (Nat × Nat)} {i : Nat} {p : Nat × Nat}, fs.mapM (fun f => (P.info? f.type).map fun i => (f.offset, i.size)) = some l → listAt l i = some p →
    ∃ f inf, fs[i]? = some f ∧ P.info? f.type = some inf ∧ p = (f.offset, inf.size)
  | [], l, i, p, h, hl => by simp at h; subst h; cases hl
  | f :: fs, l, i, p, h, hl => by
    simp only [List.mapM_cons, Option.bind_eq_bind, Option.pure_def] at h
    cases hi : P.info? f.type with
    | none => simp [hi] at h
    | some inf =>
      cases hr : fs.mapM (fun f => (P.info? f.type).map fun i => (f.offset, i.size)) with
      | none => simp [hi, hr] at h
      | some rest =>
        simp [hi, hr] at h
        subst h
        cases i with
        | zero => simp only [listAt, Option.some.injEq] at hl; exact ⟨f, inf, rfl, hi, hl.symm⟩
        | succ n =>
          obtain ⟨f', inf', h1, h2, h3⟩ := mapM_at hr (show listAt rest n = some p from hl)
          exact ⟨f', inf', by simpa using h1, h2, h3⟩

theorem struct_at {P : Program} {fs : Array Field} {l : List (Nat × Nat)} {i o n : Nat} (hsh : shOk P (.struct fs) (.struct l)) (hl : listAt l i = some (o, n)) :
    ∃ f, fs[i]? = some f ∧ f.offset = o ∧ n ≠ 0 ∧ ∃ inf, P.info? f.type = some inf ∧ inf.size = n := by
  obtain ⟨f, inf, h1, h2, h3⟩ := mapM_at hsh.1 hl
  simp only [Prod.mk.injEq] at h3
  have hm : (o, n) ∈ l := by rw [listAt_eq] at hl; exact List.mem_of_getElem? hl
  exact ⟨f, by simpa using h1, h3.1.symm, hsh.2 _ hm, inf, h2, h3.2.symm⟩

theorem run_fieldAt {P : Program} {t : TypeId} {fs : Array Field} {l : List (Nat × Nat)} {i o n : Nat} (hu : P.underlying t = some (.struct fs)) (hsh : shOk P (.struct fs) (.struct l)) (hl : listAt l i = some (o, n))
    (b off : Nat) (w' : World) : (Instr.fieldAt t (.pointer (some ⟨b, off, none⟩)) i).run P w' = .ok (.pointer (some ⟨b, off + o, none⟩)) w' := by
  obtain ⟨f, hf, rfl, hn, inf, hinf, rfl⟩ := struct_at hsh hl
  simp [Instr.fieldAt, run_underlying hu, hf, Instr.sureAddr, fieldPlace, sizeOf, typeInfo, hinf, hn, add_none]

theorem pure_fieldAddr (H : Sat F cx ρ S st a w) (hT : TTok F.P cx.tt) {g : GC} {t : TypeId} {x : Operand} {f : Nat} {vc : List Prop} {r : RV}
    (h : pureOp cx st g (.fieldAddr t x f) = some (vc, r)) (hv : allOf vc) (hg : g.wants = true) (o : Oper) (ho : o.op = .fieldAddr t x f) : Gives F a o (r.den ρ S w) := by
  simp only [pureOp] at h
  have hfield : ∀ off n, fieldOff (cx.tt t) f = some (off, n) → ∀ b o' w', (Instr.fieldAt t (.pointer (some ⟨b, o', none⟩)) f).run F.P w' = .ok (.pointer (some ⟨b, o' + off, none⟩)) w' := by
    intro off n hf b o' w'
    unfold fieldOff at hf
    split at hf
    · rename_i fs hs
      obtain ⟨d, hd, hsh⟩ := und_of hT hs (by simp)
      cases d <;> first | (simp only [shOk] at hsh; done) | skip
      exact run_fieldAt hd hsh hf b o' w'
    · cases hf
  split at h <;> simp only [Option.some.injEq, Prod.mk.injEq, reduceCtorEq] at h
  all_goals
    obtain ⟨rfl, rfl⟩ := h
  · rename_i hh o' n1 off n hx hf
    obtain ⟨h1, b, hb, hd⟩ := getV_den H hx hv hg
    refine ⟨.pointer (some ⟨b, o' + off, none⟩), ⟨h1, b, hb, rfl⟩, fun w' => ?_⟩
    simp only [execOp, ho]
    exact run_value _ _ _ (by rw [hd]; exact hfield _ _ hf _ _ _)
  · rename_i sz m f' i j n1 off n hx hf
    obtain ⟨b, o', hd, hb, hc⟩ := getV_den H hx hv hg
    refine ⟨.pointer (some ⟨b, o' + i * sz + (j + off), none⟩), ⟨b, o', rfl, hb, hc⟩, fun w' => ?_⟩
    simp only [execOp, ho]
    exact run_value _ _ _ (by rw [hd, hfield _ _ hf]; simp [Nat.add_assoc])
  · rename_i hh sz i j n1 off n hx hf
    obtain ⟨h1, b, hb, hd⟩ := getV_den H hx hv hg
    refine ⟨.pointer (some ⟨b, i * sz + (j + off), none⟩), ⟨h1, b, hb, rfl⟩, fun w' => ?_⟩
    simp only [execOp, ho]
    exact run_value _ _ _ (by rw [hd, hfield _ _ hf]; simp [Nat.add_assoc])

theorem run_indexAt_slice {P : Program} {t e : TypeId} {inf : TypeInfo} (hu : P.underlying t = some (.slice e)) (hi : P.info? e = some inf) (b off n cap : Nat) (k : IntKind) (i : Int) (h0 : 0 ≤ i) (h1 : i < n) (w' : World) :
    (Instr.indexAt t (.slice (some ⟨b, off, none⟩) n cap) (.int k i)).run P w' = .ok (.pointer (some ⟨b, off + i.toNat * inf.size, none⟩)) w' := by
  simp [Instr.indexAt, asIntOf, run_underlying hu, h0, h1, sizeOf, typeInfo, hi, add_none]

theorem run_indexAt_array {P : Program} {t e m : TypeId} {inf : TypeInfo} (hu : P.underlying t = some (.array m e)) (hi : P.info? e = some inf) (b off : Nat) (k : IntKind) (i : Int) (h0 : 0 ≤ i) (h1 : i < m) (w' : World) :
    (Instr.indexAt t (.pointer (some ⟨b, off, none⟩)) (.int k i)).run P w' = .ok (.pointer (some ⟨b, off + i.toNat * inf.size, none⟩)) w' := by
  simp [Instr.indexAt, asIntOf, run_underlying hu, h0, h1, sizeOf, typeInfo, hi, add_none, Instr.sureAddr]

theorem pure_indexAddr (H : Sat F cx ρ S st a w) (hT : TTok F.P cx.tt) {g : GC} {t : TypeId} {x i : Operand} {vc : List Prop} {r : RV}
    (h : pureOp cx st g (.indexAddr t x i) = some (vc, r)) (hv : allOf vc) (hg : g.wants = true) (o : Oper) (ho : o.op = .indexAddr t x i) : Gives F a o (r.den ρ S w) := by
  simp only [pureOp] at h
  split at h
  · rename_i c n1 kk k n2 hx hi
    split at h
    · rename_i e hs
      obtain ⟨d, hd, hsh⟩ := und_of hT hs (by simp)
      cases d <;> simp only [shOk] at hsh
      subst hsh
      split at h
      · rename_i sz m f
        split at h
        · rename_i hk
          simp only [Option.some.injEq, Prod.mk.injEq] at h
          obtain ⟨rfl, rfl⟩ := h
          rw [allOf_cat, allOf_cat] at hv
          simp only [Bool.and_eq_true, beq_iff_eq] at hk
          obtain ⟨inf, _, hinf, hsz, _⟩ := (hT.of_known hk.2).info
          obtain ⟨ad, cap, hx', _, hh⟩ := den_ro (ρ := ρ) (getV_den H hx hv.1 hg)
          have hi' : a.eval i = .int kk k := getV_den H hi hv.2.1 hg
          obtain ⟨h0, h1⟩ := GC.of_imp hv.2.2.1 hg
          obtain ⟨b, off, rfl, hb, hc⟩ := hh (by omega)
          refine ⟨.pointer (some ⟨b, off + k.toNat * sz, none⟩), ⟨b, off, rfl, hb, hc⟩, fun w' => ?_⟩
          simp only [execOp, ho]
          refine run_value _ _ _ ?_
          rw [hx', hi', run_indexAt_slice hd hinf _ _ _ _ _ _ h0 h1, hsz, hk.1]
        · cases h
      · rename_i hh'
        split at h
        · rename_i ct sz m f hl
          split at h
          · rename_i hk
            simp only [Option.some.injEq, Prod.mk.injEq] at h
            obtain ⟨rfl, rfl⟩ := h
            rw [allOf_cat, allOf_cat] at hv
            simp only [Bool.and_eq_true, beq_iff_eq] at hk
            obtain ⟨inf, _, hinf, hsz, _⟩ := (hT.of_known hk.2).info
            obtain ⟨h1', hx', _⟩ := getV_den H hx hv.1 hg
            have hi' : a.eval i = .int kk k := getV_den H hi hv.2.1 hg
            obtain ⟨h0, h1⟩ := GC.of_imp hv.2.2.1 hg
            obtain ⟨_, hs'⟩ := H.mem.sat _ _ hl
            rcases hs' with ⟨_, _, rfl⟩ | ⟨b, hb, vs, cap, hsl, _⟩
            · omega
            refine ⟨.pointer (some ⟨b, k.toNat * sz + 0, none⟩), ⟨h1', b, hb, rfl⟩, fun w' => ?_⟩
            simp only [execOp, ho]
            refine run_value _ _ _ ?_
            rw [hx', hsl, hi', run_indexAt_slice hd hinf _ _ _ _ _ _ h0 h1, hsz, hk.1]
            simp
          · cases h
        · cases h
      · cases h
    · rename_i m e hs
      obtain ⟨d, hd, hsh⟩ := und_of hT hs (by simp)
      cases d <;> simp only [shOk] at hsh
      obtain ⟨e1, e2⟩ := hsh
      rw [e1, e2] at hd
      split at h <;> simp only [Option.some.injEq, Prod.mk.injEq, reduceCtorEq] at h
      · rename_i hh' o' hk
        obtain ⟨rfl, rfl⟩ := h
        rw [allOf_cat, allOf_cat] at hv
        obtain ⟨inf, _, hinf, hsz, _⟩ := (hT.of_known hk).info
        obtain ⟨h1', b, hb, hx'⟩ := getV_den H hx hv.1 hg
        have hi' : a.eval i = .int kk k := getV_den H hi hv.2.1 hg
        obtain ⟨h0, h1⟩ := GC.of_imp hv.2.2.1 hg
        refine ⟨.pointer (some ⟨b, o' + k.toNat * (cx.tt e).size, none⟩), ⟨h1', b, hb, rfl⟩, fun w' => ?_⟩
        simp only [execOp, ho]
        refine run_value _ _ _ ?_
        rw [hx', hi', run_indexAt_array hd hinf _ _ _ _ h0 h1, hsz]
      · rename_i sz m' f i' j hk
        obtain ⟨rfl, rfl⟩ := h
        rw [allOf_cat, allOf_cat] at hv
        obtain ⟨inf, _, hinf, hsz, _⟩ := (hT.of_known hk).info
        obtain ⟨b, off, hx', hb, hc⟩ := getV_den H hx hv.1 hg
        have hi' : a.eval i = .int kk k := getV_den H hi hv.2.1 hg
        obtain ⟨h0, h1⟩ := GC.of_imp hv.2.2.1 hg
        refine ⟨.pointer (some ⟨b, off + i' * sz + (j + k.toNat * (cx.tt e).size), none⟩), ⟨b, off, rfl, hb, hc⟩, fun w' => ?_⟩
        simp only [execOp, ho]
        refine run_value _ _ _ ?_
        rw [hx', hi', run_indexAt_array hd hinf _ _ _ _ h0 h1, hsz]
        simp [Nat.add_assoc]
      · rename_i hh' sz i' j hk
        obtain ⟨rfl, rfl⟩ := h
        rw [allOf_cat, allOf_cat] at hv
        obtain ⟨inf, _, hinf, hsz, _⟩ := (hT.of_known hk).info
        obtain ⟨h1', b, hb, hx'⟩ := getV_den H hx hv.1 hg
        have hi' : a.eval i = .int kk k := getV_den H hi hv.2.1 hg
        obtain ⟨h0, h1⟩ := GC.of_imp hv.2.2.1 hg
        refine ⟨.pointer (some ⟨b, i' * sz + (j + k.toNat * (cx.tt e).size), none⟩), ⟨h1', b, hb, rfl⟩, fun w' => ?_⟩
        simp only [execOp, ho]
        refine run_value _ _ _ ?_
        rw [hx', hi', run_indexAt_array hd hinf _ _ _ _ h0 h1, hsz]
        simp [Nat.add_assoc]
    · cases h
  · cases h

/-- A bound that is an int in its range. -/
theorem run_sliceBound_ok {k : IntKind} {i : Int} {y : Nat} {c : Go.BoundsCode} (h0 : 0 ≤ i) (h1 : i ≤ y) (P : Program) (w' : World) :
    (Instr.sliceBound (.int k i) y c).run P w' = .ok i.toNat w' := by
  simp [Instr.sliceBound, asIntOf, h0, h1]

theorem run_sliceBounds_ok {b : Bool} {len cap : Nat} {lo hi : Option Value} {x y : Int} (hlo : (lo = none ∧ x = 0) ∨ ∃ k, lo = some (.int k x)) (hhi : (hi = none ∧ y = len) ∨ ∃ k, hi = some (.int k y))
    (h0 : 0 ≤ x) (h1 : x ≤ y) (h2 : y ≤ cap) (P : Program) (w' : World) : (Instr.sliceBounds b len cap lo hi none).run P w' = .ok (x.toNat, y.toNat, cap) w' := by
  have hx : x ≤ ((y.toNat : Nat) : Int) := by omega
  rcases hlo with ⟨rfl, rfl⟩ | ⟨k, rfl⟩ <;> rcases hhi with ⟨rfl, rfl⟩ | ⟨k', rfl⟩
  · simp [Instr.sliceBounds]
  · have := fun c => run_sliceBound_ok (k := k') (c := c) (show 0 ≤ y by omega) h2 P w'
    simp [Instr.sliceBounds, this]
  · have := fun c => run_sliceBound_ok (k := k) (y := len) (c := c) h0 (by omega) P w'
    simp [Instr.sliceBounds, this]
  · have e1 := fun c => run_sliceBound_ok (k := k') (c := c) (show 0 ≤ y by omega) h2 P w'
    have e2 := fun c => run_sliceBound_ok (k := k) (c := c) h0 hx P w'
    simp [Instr.sliceBounds, e1, e2]

theorem drop_take_mk (s : List UInt8) (x y : Nat) : (⟨s.toArray⟩ : ByteArray).extract x y = ⟨((s.take y).drop x).toArray⟩ := by
  apply ByteArray.ext
  simp [ByteArray.data_extract, List.extract_toArray, List.extract_eq_take_drop]
  rw [List.drop_take]

theorem bound_of (H : Sat F cx ρ S st a w) {g : GC} {lo : Option Operand} {d : Int} {k : IntKind} {x : Int} {n2 : List Prop}
    (h : (match lo with | none => OV.v (.c (.int .i64 d)) [] | some l => getV cx st g l) = .v (.c (.int k x)) n2) (hv : allOf n2) (hg : g.wants = true) :
    ((lo.map a.eval) = none ∧ x = d) ∨ ∃ k, (lo.map a.eval) = some (.int k x) := by
  cases lo with
  | none => simp only [OV.v.injEq, RV.c.injEq, CV.int.injEq] at h; exact .inl ⟨rfl, h.1.2.symm⟩
  | some l => exact .inr ⟨k, by simp only [Option.map_some, Option.some.injEq]; exact getV_den H h hv hg⟩

theorem pure_slice (H : Sat F cx ρ S st a w) (hT : TTok F.P cx.tt) {g : GC} {t : TypeId} {x : Operand} {lo hi : Option Operand} {vc : List Prop} {r : RV}
    (h : pureOp cx st g (.slice t x lo hi none) = some (vc, r)) (hv : allOf vc) (hg : g.wants = true) (o : Oper) (ho : o.op = .slice t x lo hi none) : Gives F a o (r.den ρ S w) := by
  simp only [pureOp] at h
  split at h
  · rename_i s n1 hx
    split at h
    · rename_i k1 p n2 k2 q n3 h1 h2 hs
      simp only [Option.some.injEq, Prod.mk.injEq] at h
      obtain ⟨rfl, rfl⟩ := h
      rw [allOf_cat, allOf_cat, allOf_cat] at hv
      obtain ⟨b0, b1, b2⟩ := GC.of_imp hv.2.2.2.1 hg
      obtain ⟨d, hd, hsh⟩ := und_of hT hs (by simp)
      cases d <;> simp only [shOk] at hsh
      have hx' : a.eval x = .string ⟨s.toArray⟩ := getV_den H hx hv.1 hg
      have hb := run_sliceBounds_ok (b := false) (len := s.length) (cap := s.length) (bound_of H h1 hv.2.1 hg) (bound_of H h2 hv.2.2.1 hg) b0 b1 (by omega) F.P
      refine ⟨.string ⟨((s.take q.toNat).drop p.toNat).toArray⟩, rfl, fun w' => ?_⟩
      simp only [execOp, ho]
      refine run_value _ _ _ ?_
      rw [hx', ← drop_take_mk s _ _]
      simp [Instr.sliceAt, Instr.slice, run_underlying hd, size_mk, hb]
    · cases h
  · rename_i sz n f n1 hx
    split at h
    · rename_i k1 p n2 k2 q n3 e h1 h2 hs
      split at h
      · rename_i hk
        simp only [Option.some.injEq, Prod.mk.injEq] at h
        obtain ⟨rfl, rfl⟩ := h
        rw [allOf_cat, allOf_cat, allOf_cat] at hv
        simp only [Bool.and_eq_true, beq_iff_eq] at hk
        obtain ⟨inf, _, hinf, hsz, _⟩ := (hT.of_known hk.2).info
        obtain ⟨b0, b1, b2⟩ := GC.of_imp hv.2.2.2.1 hg
        obtain ⟨d, hd, hsh⟩ := und_of hT hs (by simp)
        cases d <;> simp only [shOk] at hsh
        subst hsh
        obtain ⟨ad, cap, hx', hle, hh⟩ := den_ro (ρ := ρ) (getV_den H hx hv.1 hg)
        have hb := run_sliceBounds_ok (b := true) (len := n) (cap := cap) (bound_of H h1 hv.2.1 hg) (bound_of H h2 hv.2.2.1 hg) b0 b1 (by omega) F.P
        refine ⟨.slice (if cap = p.toNat then ad else ad.map (·.add (p.toNat * sz))) (q.toNat - p.toNat) (cap - p.toNat), ⟨_, _, rfl, by omega, fun hn => ?_⟩, fun w' => ?_⟩
        · obtain ⟨b, off, rfl, hb', hc⟩ := hh (by omega)
          refine ⟨b, off + p.toNat * sz, by rw [if_neg (by omega)]; simp [add_none], hb', fun i j hi hj => ?_⟩
          obtain ⟨u, hu, hdn⟩ := hc (p.toNat + i) j (by omega) hj
          refine ⟨u, ?_, hdn⟩
          rw [← hu]
          congr 2
          rw [Nat.add_mul]; omega
        · simp only [execOp, ho]
          refine run_value _ _ _ ?_
          rw [hx']
          simp [Instr.sliceAt, Instr.slice, run_underlying hd, hb, sizeOf, typeInfo, hinf, hsz, hk.1]
      · cases h
    · cases h
  · cases h
end
end Go.Sx
namespace Go.Sx
open Go

section
variable {F : Fx} {cx : Cx} {ρ : Env} {S : Nat → Prop} {st : SS} {a : Act} {w : World}

theorem len'_eq {α : Type} : ∀ (l : List α), len' l = l.length
  | [] => rfl
  | _ :: r => by simp [len', len'_eq r]

theorem denL_length {d : CV → Value → Prop} : ∀ {cs : List CV} {vs : List Value}, denL d cs vs → vs.length = cs.length
  | [], [], _ => rfl
  | _ :: _, _ :: _, h => by simp [denL_length h.2]
  | [], _ :: _, h => h.elim
  | _ :: _, [], h => h.elim

theorem denL_nth {d : CV → Value → Prop} : ∀ {cs : List CV} {vs : List Value} {i : Nat}, denL d cs vs → i < cs.length → ∃ u, vs[i]? = some u ∧ d (nth cs i) u
  | [], [], _, _, h => by simp at h
  | [], _ :: _, _, h, _ => h.elim
  | _ :: _, [], _, h, _ => h.elim
  | _ :: _, u :: _, 0, h, _ => ⟨u, rfl, h.1⟩
  | _ :: cs, _ :: vs, n + 1, h, hi => by
    obtain ⟨z, hz, hd⟩ := denL_nth h.2 (show n < cs.length by simpa using hi)
    exact ⟨z, by simpa using hz, hd⟩

theorem denL_setN {d : CV → Value → Prop} : ∀ {cs : List CV} {vs : List Value} {i : Nat} {c : CV} {u : Value}, denL d cs vs → d c u → denL d (setN cs i c) (vs.set i u)
  | [], [], _, _, _, h, _ => h
  | [], _ :: _, _, _, _, h, _ => h.elim
  | _ :: _, [], _, _, _, h, _ => h.elim
  | _ :: _, _ :: _, 0, _, _, h, hc => ⟨hc, h.2⟩
  | _ :: _, _ :: _, _ + 1, _, _, h, hc => ⟨h.1, denL_setN h.2 hc⟩

/-- Values stored from a place on. -/
def setV : List Value → Nat → List Value → List Value
  | vs, _, [] => vs
  | vs, o, u :: r => setV (vs.set o u) (o + 1) r

theorem denL_setFrom {d : CV → Value → Prop} : ∀ {new : List CV} {us : List Value} {cs : List CV} {vs : List Value} {o : Nat}, denL d cs vs → denL d new us → denL d (setFrom cs o new) (setV vs o us)
  | [], [], _, _, _, h, _ => h
  | [], _ :: _, _, _, _, _, h => h.elim
  | _ :: _, [], _, _, _, _, h => h.elim
  | c :: new, u :: us, cs, vs, o, h, h' => denL_setFrom (new := new) (us := us) (cs := setN cs o c) (vs := vs.set o u) (o := o + 1) (denL_setN h h'.1) h'.2

theorem setV_eq : ∀ (us vs : List Value) (o : Nat), o + us.length ≤ vs.length → setV vs o us = vs.take o ++ us ++ vs.drop (o + us.length)
  | [], vs, o, _ => by simp [setV]
  | u :: us, vs, o, h => by
    simp only [List.length_cons] at h
    simp only [setV]
    rw [setV_eq us (vs.set o u) (o + 1) (by simp; omega)]
    have e1 : (vs.set o u).take (o + 1) = vs.take o ++ [u] := by
      rw [List.take_add_one, List.take_set_of_le (Nat.le_refl _)]
      simp [List.getElem?_set_self (show o < vs.length by omega)]
    have e2 : (vs.set o u).drop (o + 1 + us.length) = vs.drop (o + 1 + us.length) := List.drop_set_of_lt (by omega)
    rw [e1, e2]
    simp [Nat.add_assoc, Nat.add_comm 1]

theorem fillC_sound {d : CV → Value → Prop} {offs : Nat → Option (Nat × Nat)} {place : Nat → Option (Nat × Nat)} (hp : ∀ i o n, offs i = some (o, n) → place i = some (o, n)) :
    ∀ (ps : List (Nat × List CV)) (vs : List (Nat × Value)) (cs : List CV) (cells : Array Value) (out : List CV), fillC offs cs ps = some out → denL d cs cells.toList →
      ps.length = vs.length → (∀ (k : Nat) (p : Nat × List CV) (v : Nat × Value), ps[k]? = some p → vs[k]? = some v → p.1 = v.1 ∧ denL d p.2 v.2.cells.toList) →
      (∀ i o n, offs i = some (o, n) → o + n ≤ cells.size) →
      ∃ res, Instr.fill place cells vs = some res ∧ denL d out res.toList ∧ res.size = cells.size
  | [], [], cs, cells, out, h, hd, _, _, _ => by
    simp only [fillC, Option.some.injEq] at h; subst h
    exact ⟨cells, rfl, hd, rfl⟩
  | [], _ :: _, _, _, _, _, _, hl, _, _ => by simp at hl
  | _ :: _, [], _, _, _, _, _, hl, _, _ => by simp at hl
  | (i, v) :: ps, (i', u) :: vs, cs, cells, out, h, hd, hl, hk, hb => by
    obtain ⟨e, hdu⟩ := hk 0 _ _ rfl rfl
    simp only at e hdu
    subst e
    simp only [fillC] at h
    split at h
    · cases h
    · rename_i o n ho
      have hlen := denL_length hdu
      simp only [Array.length_toList] at hlen
      by_cases hn : len' v = n
      · rw [show (len' v == n) = true by simpa using hn] at h
        simp only [cond_true] at h
        have hbo := hb i o n ho
        rw [len'_eq] at hn
        have hsz : u.cells.size = n := by rw [hlen, hn]
        have hfold : ∀ (us : List Value) (k : Nat) (c : Array Value), (us.zipIdx k).foldl (fun cs (x : Value × Nat) => cs.setIfInBounds (o + x.2) x.1) c = (setV c.toList (o + k) us).toArray := by
          intro us
          induction us with
          | nil => intro k c; simp [setV]
          | cons x us ih =>
            intro k c
            simp only [List.zipIdx_cons, List.foldl_cons, setV]
            rw [ih]
            simp [Nat.add_assoc]
        have hz : (u.cells.zipIdx.foldl (fun cs (c, j) => cs.setIfInBounds (o + j) c) cells) = (setV cells.toList o u.cells.toList).toArray := by
          have := hfold u.cells.toList 0 cells
          simp only [Nat.add_zero] at this
          rw [← this, ← Array.foldl_toList]
          simp
        have hd' : denL d (setFrom cs o v) ((setV cells.toList o u.cells.toList).toArray).toList := by simpa using denL_setFrom hd hdu
        have hsz' : ((setV cells.toList o u.cells.toList).toArray).size = cells.size := by
          have := denL_length hd'
          have h2 := denL_length hd
          have h3 : (setFrom cs o v).length = cs.length := by
            have key : ∀ (new : List CV) (cs : List CV) (o : Nat), (setFrom cs o new).length = cs.length := by
              have k1 : ∀ (cs : List CV) (i : Nat) (c : CV), (setN cs i c).length = cs.length := by
                intro cs
                induction cs with
                | nil => intro i c; rfl
                | cons x r ih => intro i c; cases i <;> simp [setN, ih]
              intro new
              induction new with
              | nil => intro cs o; rfl
              | cons x r ih => intro cs o; simp only [setFrom]; rw [ih, k1]
            exact key _ _ _
          rw [h3, Array.length_toList] at this
          rw [Array.length_toList] at h2
          rw [this, h2]
        obtain ⟨res, hr, hrd, hrs⟩ := fillC_sound hp ps vs (setFrom cs o v) _ out h hd' (by simpa using hl) (fun k p x h1 h2 => hk (k + 1) p x (by simpa using h1) (by simpa using h2))
          (fun i o n h => by rw [hsz']; exact hb i o n h)
        refine ⟨res, ?_, hrd, hrs.trans hsz'⟩
        simp only [Instr.fill, hp i o n ho]
        rw [if_neg (by simp [hsz]; omega), hz]
        exact hr
      · rw [show (len' v == n) = false by simpa using hn] at h
        cases h
end
end Go.Sx
