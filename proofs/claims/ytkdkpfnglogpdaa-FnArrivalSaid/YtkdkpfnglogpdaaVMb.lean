/- The evaluator of the program's code over typed pure values. -/
import Derived.Test.YtkdkpfnglogpdaaVMa
set_option linter.unusedVariables false
namespace VM
open Go

/-- What one cell of memory, or a slot, holds. -/
inductive CV where
  | undef
  | int (k : IntKind) (n : Int)
  | bool (b : Bool)
  | str (s : List UInt8)
  | nil
  | sl (e : CK) (xs : List e.den)
  | rp (c : CK) (x : c.den)
  | fn (f : FuncId)
  | vptr (id inc off : Nat)
  | map (id inc : Nat)
  | row (id inc ver : Nat) (p : Path)
  | rsub (id inc ver : Nat) (p : Path) (lo hi : Int)
  | ptr (id inc ver : Nat) (p : Path) (i : Int) (off : Nat) (c : CK)

inductive SV where
  | one (v : CV)
  | agg (vs : List CV)
  | tup (xs : List (Bool × List CV))

inductive RC where
  | none
  | row (d : Bool) (e : CK) (xs : List e.den)
  | var (cs : List CV)
  | map (k e : CK) (xs : List (k.den × e.den))
  | hole (e : CK) (xs : List e.den) (i : Int) (off : Nat)   -- the row that lies in element i at 'off' is elsewhere
  | loan (e : CK) (as cs : List e.den) (id inc ver : Nat) (lo hi : Int)   -- 'as', then the elements of another row from lo up to hi, which are that row's still, then 'cs'

/-- Of what kind a root's elements are, and whether references into them may be good. -/
def RC.kd : RC → Option (Bool × CK)
  | .row d e _ => some (d, e)
  | .hole e _ _ _ => some (false, e)
  | .loan e _ _ _ _ _ _ _ => some (false, e)
  | _ => Option.none

structure RE where
  inc : Nat
  ver : Nat
  c : RC

structure St where
  s : Nat → SV
  h : Nat → RE

structure Upd where
  v : SV
  hs : List (Nat × RE)

def look {α : Type} : List (Nat × α) → Nat → Option α
  | [], _ => none
  | (t, x) :: l, u => bif Nat.beq t u then some x else look l u
def memB : List Nat → Nat → Bool
  | [], _ => false
  | a :: l, b => bif Nat.beq a b then true else memB l b
def disB : List Nat → List Nat → Bool
  | [], _ => true
  | a :: l, m => bif memB m a then false else disB l m
def nodB : List Nat → Bool
  | [] => true
  | a :: l => bif memB l a then false else nodB l

def St.setS (σ : St) (d : Nat) (v : SV) : St := ⟨fun j => bif Nat.beq j d then v else σ.s j, σ.h⟩
def St.put (σ : St) (d : Option Nat) (v : SV) : St := match d with | some d => σ.setS d v | none => σ
def setH (h : Nat → RE) : List (Nat × RE) → Nat → RE
  | [], j => h j
  | (i, r) :: l, j => bif Nat.beq j i then r else setH h l j
def St.upd (σ : St) (d : Option Nat) (u : Upd) : St := St.put ⟨σ.s, setH σ.h u.hs⟩ d u.v

inductive TD where
  | val (c : CK) (bytes : Nat) (fs : List (Nat × CK))
  | map (k e : CK)
  | other

def inb {α : Type} (xs : List α) (i : Int) : Bool := decide (0 ≤ i) && decide (i < (xs.length : Int))
def subL {α : Type} (xs : List α) (lo hi : Int) : List α := (xs.drop lo.toNat).take (hi - lo).toNat
def fits (n bytes : Nat) : Bool := decide (n * bytes ≤ 140737488355328) && Nat.blt 0 bytes

/-! ### maps: their entries in the order in which they lie -/
section
variable {α β : Type} [DecidableEq α]
def mfd : List (α × β) → α → β → β
  | [], _, d => d
  | (a, b) :: l, x, d => bif decide (x = a) then b else mfd l x d
def mhas : List (α × β) → α → Bool
  | [], _ => false
  | (a, _) :: l, x => bif decide (x = a) then true else mhas l x
def mput : List (α × β) → α → β → List (α × β)
  | [], x, y => [(x, y)]
  | (a, b) :: l, x, y => bif decide (x = a) then (x, y) :: l else (a, b) :: mput l x y
end
def mfdK : (k e : CK) → List (k.den × e.den) → k.den → e.den
  | .str, e, xs, x => mfd (α := List UInt8) xs x e.dflt
  | .int _, e, xs, x => mfd (α := Int) xs x e.dflt
  | .bool, e, xs, x => mfd (α := Bool) xs x e.dflt
  | _, e, _, _ => e.dflt
def mhasK : (k e : CK) → List (k.den × e.den) → k.den → Bool
  | .str, e, xs, x => mhas (α := List UInt8) xs x
  | .int _, e, xs, x => mhas (α := Int) xs x
  | .bool, e, xs, x => mhas (α := Bool) xs x
  | _, e, _, _ => false
def mputK : (k e : CK) → List (k.den × e.den) → k.den → e.den → List (k.den × e.den)
  | .str, e, xs, x, y => mput (α := List UInt8) xs x y
  | .int _, e, xs, x, y => mput (α := Int) xs x y
  | .bool, e, xs, x, y => mput (α := Bool) xs x y
  | _, e, xs, _, _ => xs
/-- A kind of one cell, that leads nowhere. -/
def CK.pl : CK → Bool
  | .int _ => true
  | .bool => true
  | .str => true
  | _ => false
def cellC : (c : CK) → c.den → CV
  | .int k, n => .int k n
  | .bool, b => .bool b
  | .str, s => .str s
  | _, _ => .undef
def cellOf : (c : CK) → CV → Option c.den
  | .int k, .int k' n => if k = k' then some n else none
  | .bool, .bool b => some b
  | .str, .str s => some s
  | _, _ => none

/-- A struct of fields of one cell, that lead nowhere. -/
def CK.cmp : CK → Bool
  | .unit => true
  | .pair a b => a.pl && b.cmp
  | _ => false
def eqC : CK → CV → CV → Option Bool
  | .int k, .int k1 a, .int k2 b => if k1 = k ∧ k2 = k then some (decide (a = b)) else none
  | .bool, .bool a, .bool b => some (decide (a = b))
  | .str, .str a, .str b => some (decide (a = b))
  | _, _, _ => none
def eqCs : CK → List CV → List CV → Option Bool
  | .unit, [], [] => some true
  | .pair a b, v :: vs, u :: us => match eqC a v u with
    | some p => match eqCs b vs us with
      | some q => some (p && q)
      | none => none
    | none => none
  | _, _, _ => none

/-- Rows of flat elements. -/
def CK.isFlatSl : CK → Bool
  | .sl e => e.flat
  | _ => false
def CK.isAgg : CK → Bool
  | .pair _ _ => true
  | .unit => true
  | _ => false

def SV.cells : SV → List CV
  | .one v => [v]
  | .agg vs => vs
  | .tup _ => [.undef]
def toSV (c : CK) (cs : List CV) : SV := bif c.isAgg then .agg cs else match cs with | [v] => .one v | _ => .agg cs

/-! ### from contents to cells -/
def expS : (c : CK) → c.den → List CV
  | .int k, n => [.int k n]
  | .bool, b => [.bool b]
  | .str, s => [.str s]
  | .sl e, xs => [.sl e xs]
  | .unit, _ => []
  | .pair a b, x => expS a x.1 ++ expS b x.2
def expD (mk : Nat → CV) : (c : CK) → c.den → Nat → List CV
  | .int k, n, _ => [.int k n]
  | .bool, b, _ => [.bool b]
  | .str, s, _ => [.str s]
  | .sl _, _, off => [mk off]
  | .unit, _, _ => []
  | .pair a b, x, off => expD mk a x.1 off ++ expD mk b x.2 (off + a.size)
def expZ : CK → List CV
  | .int k => [.int k 0]
  | .bool => [.bool false]
  | .str => [.str []]
  | .sl _ => [.nil]
  | .unit => []
  | .pair a b => expZ a ++ expZ b
/-- New rows for the slices of a value; 'n' is the next new name. -/
def expN (H : Nat → RE) (d : Bool) : (c : CK) → c.den → Nat → List CV × List (Nat × RE) × Nat
  | .int k, x, n => ([.int k x], [], n)
  | .bool, b, n => ([.bool b], [], n)
  | .str, s, n => ([.str s], [], n)
  | .sl e, xs, n => ([.row n ((H n).inc + 1) 0 []], [(n, ⟨(H n).inc + 1, 0, .row d e xs⟩)], n + 1)
  | .unit, _, n => ([], [], n)
  | .pair a b, x, n =>
    let r := expN H d a x.1 n
    let q := expN H d b x.2 r.2.2
    (r.1 ++ q.1, r.2.1 ++ q.2.1, q.2.2)

/-! ### from cells to contents -/
structure Row1 where
  d : Bool
  e : CK
  xs : List e.den

def rowAt (H : Nat → RE) (id inc ver : Nat) (p : Path) : Option Row1 :=
  match H id with
  | ⟨i, v, c⟩ =>
    bif Nat.beq i inc then
      match c with
      | .row d e xs =>
        match p with
        | [] => some ⟨d, e, xs⟩
        | q :: p => bif d && Nat.beq v ver then (match getRow e xs (q :: p) with | some ⟨e', ys⟩ => some ⟨d, e', ys⟩ | none => none) else none
      | _ => none
    else none

/-- A row from which one has been taken. -/
def holeAt (H : Nat → RE) (id inc : Nat) (p : Path) : Option Row1 :=
  match p with
  | [] => match H id with
    | ⟨i, _, .hole e xs _ _⟩ => bif Nat.beq i inc then some ⟨false, e, xs⟩ else none
    | _ => none
  | _ => none

def castL {e e' : CK} (h : e = e') (xs : List e.den) : List e'.den := cast (congrArg (fun c => List (CK.den c)) h) xs
def varAt (H : Nat → RE) (id inc : Nat) : Option (List CV) :=
  match H id with
  | ⟨i, _, .var cs⟩ => bif Nat.beq i inc then some cs else none
  | _ => none
structure Map1 where
  k : CK
  e : CK
  xs : List (k.den × e.den)
def mapAt (H : Nat → RE) (id inc : Nat) : Option Map1 :=
  match H id with
  | ⟨i, _, .map k e xs⟩ => bif Nat.beq i inc then some ⟨k, e, xs⟩ else none
  | _ => none
def castM {k k' e e' : CK} (h : k = k') (h' : e = e') (xs : List (k.den × e.den)) : List (CK.pair k' e').den := cast (show List (k.den × e.den) = List (k'.den × e'.den) by rw [h, h']) xs
def Row1.as (r : Row1) (e : CK) : Option (List e.den) := if h : r.e = e then some (castL h r.xs) else none

inductive Tk where
  | deep | shr | bor | mutm

/-- The content of a slice cell, and the roots that are taken or borrowed for it. -/
def slOf (H : Nat → RE) (m : Tk) (v : CV) (e : CK) : Option (List e.den × List Nat) :=
  match v with
  | .nil => some ([], [])
  | .sl e' xs => match m with
    | .deep => none
    | .mutm => none
    | _ => if h : e' = e then some (castL h xs, []) else none
  | .row id inc ver p => match rowAt H id inc ver p with
    | some r => match r.as e with
      | some xs => match m with
        | .bor => some (xs, [id])
        | .deep => match p with
          | [] => bif r.d || e.flat then some (xs, [id]) else none
          | _ => none
        | .shr => match p with
          | [] => some (xs, [id])
          | _ => none
        | .mutm => bif r.d || e.flat then some (xs, [id]) else none
      | none => none
    | none => none
  | .rsub id inc ver p lo hi => match rowAt H id inc ver p with
    | some r => match r.as e with
      | some xs => match m with
        | .bor => some (subL xs lo hi, [id])
        | .mutm => none
        | _ => match p with
          | [] => bif e.flat then some (subL xs lo hi, [id]) else none
          | _ => none
      | none => none
    | none => none
  | _ => none

def gath (H : Nat → RE) (m : Tk) : (c : CK) → List CV → Option (c.den × List Nat × List CV)
  | .int k, .int k' n :: r => if k = k' then some (n, [], r) else none
  | .bool, .bool b :: r => some (b, [], r)
  | .str, .str s :: r => some (s, [], r)
  | .sl e, v :: r => match slOf H m v e with | some (xs, ids) => some (xs, ids, r) | none => none
  | .unit, r => some ((), [], r)
  | .pair a b, r => match gath H m a r with
    | some (x, i1, r1) => match gath H m b r1 with
      | some (y, i2, r2) => some ((x, y), i1 ++ i2, r2)
      | none => none
    | none => none
  | _, _ => none
def gathAll (H : Nat → RE) (m : Tk) (c : CK) (cs : List CV) : Option (c.den × List Nat) :=
  match gath H m c cs with
  | some (x, ids, []) => some (x, ids)
  | _ => none
/-- The elements of a row, 'n' of them, out of all its cells. -/
def gathN (H : Nat → RE) (m : Tk) (e : CK) : Nat → List CV → Option (List e.den × List Nat)
  | 0, [] => some ([], [])
  | 0, _ :: _ => none
  | n + 1, cs => match gath H m e cs with
    | some (x, i1, r) => match gathN H m e n r with
      | some (xs, i2) => some (x :: xs, i1 ++ i2)
      | none => none
    | none => none

def SV.shape (v : SV) (c : CK) : Bool := match v with | .one _ => !c.isAgg | .agg _ => c.isAgg | .tup _ => false
def gathV (H : Nat → RE) (m : Tk) (c : CK) (v : SV) : Option (c.den × List Nat) := bif v.shape c then gathAll H m c v.cells else none

def dead (H : Nat → RE) (ids : List Nat) : List (Nat × RE) := ids.map fun id => (id, ⟨(H id).inc + 1, 0, .none⟩)

/-! ### contracts -/
inductive PM where
  | imm | mut | own | ptr | pts | fn (f : FuncId)
inductive RM where
  | imm | own (d : Bool) | pts

def inK : List (PM × CK) → CK
  | [] => .unit
  | (.fn _, _) :: l => inK l
  | (_, c) :: l => .pair c (inK l)
def resK : List (RM × CK) → CK
  | [] => .unit
  | (_, c) :: l => .pair c (resK l)
def mutK : List (PM × CK) → CK
  | [] => .unit
  | (.mut, c) :: l => .pair c (mutK l)
  | (.ptr, c) :: l => .pair c (mutK l)
  | (.pts, c) :: l => .pair c (mutK l)
  | (_, _) :: l => mutK l

structure Sg where
  ps : List (PM × CK)
  rs : List (RM × CK)
@[reducible] def Sg.In (g : Sg) : Type := (inK g.ps).den
@[reducible] def Sg.Out (g : Sg) : Type := (resK g.rs).den × (mutK g.ps).den

structure Ct where
  f : FuncId
  g : Sg
  run : Nat → g.In → Option g.Out

def findC : List Ct → FuncId → Option Ct
  | [], _ => none
  | c :: l, f => bif Nat.beq c.f f then some c else findC l f

/-- What the arguments of a call come to: the contents, and the roots that are borrowed, written, taken. -/
def argsOf (H : Nat → RE) : (ps : List (PM × CK)) → List SV → Option ((inK ps).den × List Nat × List Nat × List Nat)
  | [], [] => some ((), [], [], [])
  | (m, c) :: ps, v :: vs =>
    match argsOf H ps vs with
    | none => none
    | some (xs, B, U, T) =>
      match m with
      | .imm => match gathV H .bor c v with
        | some (x, ids) => some ((x, xs), ids ++ B, U, T)
        | none => none
      | .mut => match gathV H .mutm c v with
        | some (x, ids) => some ((x, xs), B, ids ++ U, T)
        | none => none
      | .own => match gathV H .deep c v with
        | some (x, ids) => some ((x, xs), B, U, ids ++ T)
        | none => none
      | .ptr => match v with
        | .one (.vptr id inc 0) => match varAt H id inc with
          | some cs => match gathAll H .deep c cs with
              | some (x, ids) => some ((x, xs), B, id :: U, ids ++ T)
              | none => none
          | none => none
        | _ => none
      | .pts => match v with
        | .one (.vptr id inc 0) => match varAt H id inc with
          | some cs => match gathAll H .shr c cs with
              | some (x, []) => some ((x, xs), B, id :: U, T)
              | _ => none
          | none => none
        | _ => none
      | .fn f => match v with
        | .one (.fn f') => bif Nat.beq f f' then some (xs, B, U, T) else none
        | _ => none
  | _, _ => none

def resOf (H : Nat → RE) : (rs : List (RM × CK)) → (resK rs).den → Nat → List (Bool × List CV) × List (Nat × RE) × Nat
  | [], _, n => ([], [], n)
  | (.imm, c) :: l, x, n =>
    let q := resOf H l x.2 n
    ((c.isAgg, expS c x.1) :: q.1, q.2)
  | (.own d, c) :: l, x, n =>
    let r := expN H d c x.1 n
    let q := resOf H l x.2 r.2.2
    ((c.isAgg, r.1) :: q.1, r.2.1 ++ q.2.1, q.2.2)
  | (.pts, c) :: l, x, n =>
    let q := resOf H l x.2 (n + 1)
    ((false, [.vptr n ((H n).inc + 1) 0]) :: q.1, (n, ⟨(H n).inc + 1, 0, .var (expS c x.1)⟩) :: q.2.1, q.2.2)

/-- No argument is a pointer to what leads to shared rows. -/
def noPts : List (PM × CK) → Bool
  | [] => true
  | (.pts, _) :: _ => false
  | (_, _) :: l => noPts l

/-- The roots behind the slice cells of a written argument, with their new contents. -/
def updM (H : Nat → RE) : (c : CK) → List CV → c.den → Option (List (Nat × RE) × List CV)
  | .sl e, .nil :: r, _ => some ([], r)
  | .sl e, .row id inc ver p :: r, ys => match H id with
    | ⟨i, v, .row d e0 xs⟩ => bif Nat.beq i inc && (d || e.flat) then (match setRow e0 xs p e ys with | some zs => some ([(id, ⟨i, v + 1, .row d e0 zs⟩)], r) | none => none) else none
    | _ => none
  | .sl _, _, _ => none
  | .unit, r, _ => some ([], r)
  | .pair a b, r, x => match updM H a r x.1 with
    | some (h1, r1) => match updM H b r1 x.2 with
      | some (h2, r2) => some (h1 ++ h2, r2)
      | none => none
    | none => none
  | _, _ :: r, _ => some ([], r)
  | _, [], _ => none

def mutOf (H : Nat → RE) : (ps : List (PM × CK)) → List SV → (mutK ps).den → Nat → Option (List (Nat × RE) × Nat)
  | [], _, _, n => some ([], n)
  | (.mut, c) :: ps, v :: vs, x, n => match updM H c v.cells x.1 with
    | some (h1, []) => match mutOf H ps vs x.2 n with
      | some (h2, n) => some (h1 ++ h2, n)
      | none => none
    | _ => none
  | (.ptr, c) :: ps, v :: vs, x, n => match v with
    | .one (.vptr id inc 0) => match varAt H id inc with
      | some _ =>
        let r := expN H true c x.1 n
        match mutOf H ps vs x.2 r.2.2 with
        | some (h2, n) => some ((id, ⟨inc, (H id).ver, .var r.1⟩) :: (r.2.1 ++ h2), n)
        | none => none
      | none => none
    | _ => none
  | (.pts, c) :: ps, v :: vs, x, n => match v with
    | .one (.vptr id inc 0) => match varAt H id inc with
      | some _ => match mutOf H ps vs x.2 n with
        | some (h2, n) => some ((id, ⟨inc, (H id).ver, .var (expS c x.1)⟩) :: h2, n)
        | none => none
      | none => none
    | _ => none
  | (.imm, _) :: ps, _ :: vs, x, n => mutOf H ps vs x n
  | (.own, _) :: ps, _ :: vs, x, n => mutOf H ps vs x n
  | (.fn _, _) :: ps, _ :: vs, x, n => mutOf H ps vs x n
  | _, [], _, _ => none

/-- The rows in it are rows of flat values. -/
def CK.flat1 : CK → Bool
  | .sl e => e.flat
  | .pair a b => a.flat1 && b.flat1
  | _ => true
/-- No result looks at what was lent. -/
def flatRs : List (RM × CK) → Bool
  | [] => true
  | (.imm, c) :: l => c.flat && flatRs l
  | (.own d, c) :: l => (d || c.flat1) && flatRs l
  | (.pts, _) :: _ => false

def retSV : List (Bool × List CV) → SV
  | [(true, cs)] => .agg cs
  | [(false, [v])] => .one v
  | xs => .tup xs

def nid (d : Option Nat) (j : Nat) : Nat := match d with | some d => 64 * d + j + 1000000 | none => j + 2000000
def uid (d j : Nat) : Nat := 64 * d + j
def pid (d j : Nat) : Nat := 64 * d + j + 3000000

/-! ### operations -/
def cmpI (op : BinOp) (a b : Int) : Option Bool :=
  match op with
  | .eql => some (decide (a = b)) | .neq => some (!decide (a = b)) | .lss => some (decide (a < b)) | .leq => some (decide (a ≤ b))
  | .gtr => some (decide (b < a)) | .geq => some (decide (b ≤ a)) | _ => none
def ltS (a b : List UInt8) : Bool := Op.bytesLess a b
def cmpS (op : BinOp) (a b : List UInt8) : Option Bool :=
  match op with
  | .eql => some (decide (a = b)) | .neq => some (!decide (a = b)) | .lss => some (ltS a b) | .leq => some (ltS a b || decide (a = b))
  | .gtr => some (!(ltS a b || decide (a = b))) | .geq => some (!ltS a b) | _ => none

def mnI (a b : Int) : Int := if b < a then b else a
def mxI (a b : Int) : Int := if b > a then b else a
/-- A string out of bytes. -/
def bytesOf (xs : List Int) : List UInt8 := xs.map fun n => UInt8.ofNat n.toNat
def bitI (op : BinOp) (k : IntKind) (x y : Int) : Int :=
  let a := BitVec.ofInt k.bits x
  let b := BitVec.ofInt k.bits y
  match op with
  | .and => k.wrap (a &&& b).toNat
  | .or => k.wrap (a ||| b).toNat
  | .xor => k.wrap (a ^^^ b).toNat
  | _ => k.wrap (a &&& ~~~b).toNat
def shlI (k : IntKind) (x y : Int) : Int := k.wrap (x * 2 ^ (min y.toNat k.bits))
def shrI (k : IntKind) (x y : Int) : Int := x.fdiv (2 ^ (min y.toNat k.bits))

section
variable {R : Type}
def need {α : Type} (x : Option α) (K : α → Option R) : Option R := match x with | some a => K a | none => none
def bnd {α : Type} (x : Option α) (K : α → Option R) : Option R := match x with | some a => K a | none => none
def grd (c : Bool) (K : Option R) : Option R := cond c K none
def sel (c : Bool) (a b : Option R) : Option R := cond c a b

def binI (op : BinOp) (k : IntKind) (a b : Int) (K : CV → Option R) : Option R :=
  match op with
  | .add => K (.int k (k.wrap (a + b)))
  | .sub => K (.int k (k.wrap (a - b)))
  | .mul => K (.int k (k.wrap (a * b)))
  | .quo => grd (!decide (b = 0)) (K (.int k (k.wrap (a.tdiv b))))
  | .rem => grd (!decide (b = 0)) (K (.int k (a.tmod b)))
  | .and | .or | .xor | .andNot => K (.int k (bitI op k a b))
  | .shl | .shr => none
  | _ => need (cmpI op a b) fun c => K (.bool c)

def binV (tb : Bool) (op : BinOp) (x y : CV) (K : CV → Option R) : Option R :=
  match x, y with
  | .int k a, .int k' b => match op with
    | .shl => grd (decide (0 ≤ b)) (K (.int k (shlI k a b)))
    | .shr => grd (decide (0 ≤ b)) (K (.int k (shrI k a b)))
    | _ => if k = k' then binI op k a b K else none
  | .str a, .str b => match op with
    | .add => grd (decide (a.length + b.length ≤ 4611686018427387904)) (K (.str (a ++ b)))
    | _ => need (cmpS op a b) fun c => K (.bool c)
  | .bool a, .bool b => bif tb then (match op with
    | .eql => K (.bool (a == b))
    | .neq => K (.bool (!(a == b)))
    | _ => none) else none
  | _, _ => none

variable (tt : List (Nat × TD))
def kindT (t : TypeId) : Option CK := match look tt t with | some (.val c _ _) => some c | _ => none
def elemT (t : TypeId) : Option CK := match look tt t with | some (.val (.sl e) _ _) => some e | _ => none
/-- Bytes of an element of the slice type 't' (the type's own row says them). -/
def ebytes (t : TypeId) : Option Nat := match look tt t with | some (.val (.sl _) b _) => some b | _ => none

def fieldT (t : TypeId) (f : Nat) : Option (Nat × CK) := match look tt t with | some (.val _ _ fs) => fs[f]? | _ => none

def okCs : List CV → Bool
  | [] => true
  | .undef :: _ => false
  | _ :: l => okCs l
/-- The cells of 'cs' with those from 'off' on replaced. -/
def patch (cs : List CV) (off : Nat) (vs : List CV) : List CV := cs.take off ++ (vs ++ cs.drop (off + vs.length))

def buildC (fs : List (Nat × CK)) : List (Nat × SV) → List CV → Option (List CV)
  | [], cs => some cs
  | (i, v) :: l, cs => match fs[i]? with
    | some (off, d) => bif okCs v.cells && Nat.beq v.cells.length d.size then buildC fs l (patch cs off v.cells) else none
    | none => none

def intsOf : List SV → Option (List Int)
  | [] => some []
  | .one (.int .i64 n) :: l => match intsOf l with | some r => some (n :: r) | none => none
  | _ => none

/-- As many bounds as there are operands for them. -/
def okBs : Option Operand → Option Operand → List Int → Bool
  | none, none, [] => true
  | some _, none, [_] => true
  | none, some _, [_] => true
  | some _, some _, [_, _] => true
  | _, _, _ => false
def loB : Option Operand → List Int → Int
  | some _, b :: _ => b
  | _, _ => 0
def hiB : Option Operand → Option Operand → List Int → Int → Int
  | some _, some _, [_, b], _ => b
  | none, some _, [b], _ => b
  | _, _, _, n => n
def lenT (c : Option CK) (x : CV) : Bool :=
  match c, x with
  | some .str, .str _ => true
  | some (.sl _), .str _ => false
  | some (.sl _), _ => true
  | _, _ => false
def lenV (H : Nat → RE) : CV → Option Int
  | .str s => some (s.length : Int)
  | .nil => some 0
  | .sl _ xs => some (xs.length : Int)
  | .row id inc ver p => match rowAt H id inc ver p with | some r => some (r.xs.length : Int) | none => none
  | .rsub id inc ver p lo hi => match rowAt H id inc ver p with | some _ => some (hi - lo) | none => none
  | _ => none

def dOf (H : Nat → RE) : CV → Bool
  | .row id inc ver p => (match rowAt H id inc ver p with | some r => r.d | none => true)
  | _ => true
def dOfY (H : Nat → RE) : CV → Bool
  | .row id inc ver p => (match rowAt H id inc ver p with | some r => r.d | none => true)
  | .nil => true
  | .rsub _ _ _ _ _ _ => true
  | _ => false
/-- append of what is owned, of what is shared. -/
def appOld (o : Oper) (H : Nat → RE) (K : Upd → Option R) (e : CK) (b : Nat) (x y : CV) : Option R :=
  let m := nid o.dst 0
  let i := (H m).inc + 1
  match slOf H .shr x e with
  | none => none
  | some (xs, xi) =>
    match x with
    | .sl _ _ => none
    | _ => bif e.flat then
        match slOf H .bor y e with
        | some (ys, yi) => bif disB xi yi then grd (fits (xs.length + ys.length) b) (K ⟨.one (.row m i 0 []), (m, ⟨i, 0, .row true e (xs ++ ys)⟩) :: dead H xi⟩) else none
        | none => none
      else match slOf H .shr y e with
        | some (ys, yi) =>
          bif disB xi yi then grd (fits (xs.length + ys.length) b) (K ⟨.one (.row m i 0 []), (m, ⟨i, 0, .row (dOf H x && dOfY H y) e (xs ++ ys)⟩) :: dead H (xi ++ yi)⟩) else none
        | none => none
/-- .. of a row inside of a row: it leaves a hole. -/
def appNest (o : Oper) (H : Nat → RE) (K : Upd → Option R) (e : CK) (b : Nat) (id inc ver : Nat) (i : Int) (off : Nat) (y : CV) : Option R :=
  match H id with
  | ⟨i0, v0, .row true e0 xs0⟩ =>
    bif (Nat.beq i0 inc && Nat.beq v0 ver) && e.flat then
      match e0.cell off with
      | some (.sl e1) =>
        match e0.lens off (.sl e1) with
        | some L => if h : e1 = e then
            match slOf H .bor y e with
            | some (ys, yi) =>
              let xs : List e.den := castL h (L.get (rdL xs0 i e0.dflt))
              let m := nid o.dst 0
              let j := (H m).inc + 1
              bif memB yi id || Nat.beq m id then none else grd (fits (xs.length + ys.length) b)
                (K ⟨.one (.row m j 0 []), [(m, ⟨j, 0, .row true e (xs ++ ys)⟩), (id, ⟨i0, v0 + 1, .hole e0 xs0 i off⟩)]⟩)
            | none => none
          else none
        | none => none
      | _ => none
    else none
  | _ => none
/-- .. whose new elements lie in another row, and stay that row's. -/
def appMove (o : Oper) (H : Nat → RE) (K : Upd → Option R) (e : CK) (b : Nat) (x : CV) (id inc : Nat) (lo hi : Int) : Option R :=
  let m := nid o.dst 0
  let j := (H m).inc + 1
  match x with
  | .sl _ _ => none
  | _ => match slOf H .shr x e with
    | none => none
    | some (xs, xi) => bif memB xi id || Nat.beq m id then none else bif dOf H x then
        match H id with
        | ⟨i0, v0, .row true e0 xs0⟩ => bif Nat.beq i0 inc then (if h : e0 = e then
            let ys : List e.den := subL (castL h xs0) lo hi
            grd (fits (xs.length + ys.length) b)
              (K ⟨.one (.row m j 0 []), (m, ⟨j, 0, .loan e xs [] id i0 v0 lo hi⟩) :: dead H xi⟩) else none) else none
        | _ => none
      else none
/-- .. to such a row, of what is owned. -/
def appLoan (o : Oper) (H : Nat → RE) (K : Upd → Option R) (e : CK) (b : Nat) (mx ix : Nat) (y : CV) : Option R :=
  let m := nid o.dst 0
  let j := (H m).inc + 1
  match H mx with
  | ⟨i0, _, .loan e0 as cs id inc ver lo hi⟩ => bif Nat.beq i0 ix then (if h : e0 = e then
      match slOf H .shr y e with
      | some (ys, yi) => bif memB yi mx || (memB yi id || (!dOfY H y || Nat.beq m id)) || Nat.beq mx id then none else
          grd (fits (as.length + (hi - lo).toNat + cs.length + ys.length) b)
            (K ⟨.one (.row m j 0 []), (m, ⟨j, 0, .loan e (castL h as) (castL h cs ++ ys) id inc ver lo hi⟩) :: dead H (mx :: yi)⟩)
      | none => none
      else none) else none
  | _ => none
/-- .. to such a row, of a later part of the same other row. -/
def appFin (o : Oper) (H : Nat → RE) (K : Upd → Option R) (e : CK) (b : Nat) (mx ix : Nat) (id inc : Nat) (lo hi : Int) : Option R :=
  let m := nid o.dst 0
  let j := (H m).inc + 1
  match H mx, H id with
  | ⟨i0, _, .loan e0 as cs id' inc' ver' lo0 hi0⟩, ⟨i1, v1, .row true e1 xs0⟩ =>
    bif (Nat.beq i0 ix && Nat.beq id' id) && ((Nat.beq i1 inc && Nat.beq i1 inc') && (Nat.beq v1 ver' && !Nat.beq mx id)) then
      (if h : e0 = e then if h1 : e1 = e then
        let ys : List e.den := subL (castL h1 xs0) lo hi
        let zs : List e.den := castL h as ++ (subL (castL h1 xs0) lo0 hi0 ++ castL h cs)
        grd (decide (hi0 ≤ lo) && fits (zs.length + ys.length) b)
          (K ⟨.one (.row m j 0 []), (m, ⟨j, 0, .row true e (zs ++ ys)⟩) :: dead H [mx, id]⟩)
      else none else none)
    else none
  | _, _ => none
/-- .. of such a row, to an earlier part of the other one. -/
def appPart (o : Oper) (H : Nat → RE) (K : Upd → Option R) (e : CK) (b : Nat) (id inc : Nat) (lo hi : Int) (my iy : Nat) : Option R :=
  let m := nid o.dst 0
  let j := (H m).inc + 1
  match H my, H id with
  | ⟨i0, _, .loan e0 as cs id' inc' ver' lo0 hi0⟩, ⟨i1, v1, .row true e1 xs0⟩ =>
    bif (Nat.beq i0 iy && Nat.beq id' id) && ((Nat.beq i1 inc && Nat.beq i1 inc') && (Nat.beq v1 ver' && !Nat.beq my id)) then
      (if h : e0 = e then if h1 : e1 = e then
        let xs : List e.den := subL (castL h1 xs0) lo hi
        let zs : List e.den := castL h as ++ (subL (castL h1 xs0) lo0 hi0 ++ castL h cs)
        grd (decide (hi ≤ lo0) && (decide (hi0 ≤ (xs0.length : Int)) && fits (xs.length + zs.length) b))
          (K ⟨.one (.row m j 0 []), (m, ⟨j, 0, .row true e (xs ++ zs)⟩) :: dead H [id, my]⟩)
      else none else none)
    else none
  | _, _ => none
def isLoan (H : Nat → RE) (id : Nat) : Bool := match (H id).c with | .loan _ _ _ _ _ _ _ _ => true | _ => false
def actAppend (o : Oper) (H : Nat → RE) (K : Upd → Option R) (e : CK) (b : Nat) (x y : CV) : Option R :=
  match x with
  | .row id inc ver [(i, off)] => appNest o H K e b id inc ver i off y
  | .rsub id inc ver [] lo hi => bif e.flat then appOld o H K e b x y else match y with
    | .row my iy _ [] => appPart o H K e b id inc lo hi my iy
    | _ => none
  | .row mx ix _ [] => bif isLoan H mx then match y with
      | .rsub id inc ver [] lo hi => appFin o H K e b mx ix id inc lo hi
      | _ => appLoan o H K e b mx ix y
    else match y with
      | .rsub id inc ver [] lo hi => bif e.flat then appOld o H K e b x y else appMove o H K e b x id inc lo hi
      | _ => appOld o H K e b x y
  | _ => match y with
    | .rsub id inc ver [] lo hi => bif e.flat then appOld o H K e b x y else appMove o H K e b x id inc lo hi
    | _ => appOld o H K e b x y

/-- Which of the three ways a store goes. -/
inductive StoK where
  | hole (i0 v0 : Nat) (e0 : CK) (xs0 : List e0.den) (i1 : Int) (off1 : Nat)
  | cut (id2 inc2 ver2 : Nat) (i2 : Int) (off2 : Nat) (lo hi : Int)
  | other
def stoKind (H : Nat → RE) (id : Nat) (p : Path) (v : SV) : StoK :=
  match p with
  | [] => match H id with
    | ⟨i0, v0, .hole e0 xs0 i1 off1⟩ => .hole i0 v0 e0 xs0 i1 off1
    | _ => match v with
      | .one (.rsub id2 inc2 ver2 [(i2, off2)] lo hi) => .cut id2 inc2 ver2 i2 off2 lo hi
      | _ => .other
  | _ => .other
/-- A store into a hole. -/
def stoHole (H : Nat → RE) (K : Upd → Option R) (c : CK) (id inc : Nat) (i : Int) (off : Nat) (v : SV) (i0 v0 : Nat) (e0 : CK) (xs0 : List e0.den) (i1 : Int) (off1 : Nat) : Option R :=
  bif Nat.beq i0 inc && Nat.beq off off1 then
    match c with
    | .sl e1 => match e0.lens off (.sl e1) with
      | some L => match gathAll H .deep (.sl e1) v.cells with
        | some (zs, ids) => bif nodB (id :: ids) then
            grd (decide (i = i1)) (K ⟨.one .undef, (id, ⟨i0, v0 + 1, .row true e0 (wrL xs0 i1 (L.set (rdL xs0 i1 e0.dflt) zs))⟩) :: dead H ids⟩) else none
        | none => none
      | none => none
    | _ => none
  else none
/-- A row inside of a row is cut. -/
def stoCut (H : Nat → RE) (K : Upd → Option R) (c : CK) (id inc : Nat) (i : Int) (off : Nat) (id2 inc2 ver2 : Nat) (i2 : Int) (off2 : Nat) (lo hi : Int) : Option R :=
  match H id with
  | ⟨i0, v0, .row true e0 xs0⟩ =>
    bif (Nat.beq i0 inc && Nat.beq id2 id) && ((Nat.beq inc2 i0 && Nat.beq ver2 v0) && (Nat.beq off2 off && c.isFlatSl)) then
      match c with
      | .sl e1 => match e0.cell off with
        | some (.sl e2) => if e2 = e1 then
            match e0.lens off (.sl e1) with
            | some L => grd (decide (i2 = i)) (K ⟨.one .undef, [(id, ⟨i0, v0 + 1, .row true e0 (wrL xs0 i (L.set (rdL xs0 i e0.dflt) (subL (L.get (rdL xs0 i e0.dflt)) lo hi)))⟩)]⟩)
            | none => none
          else none
        | _ => none
      | _ => none
    else none
  | _ => none

variable (env : List Ct) (k : Nat)

def act (o : Oper) (vs : List SV) (H : Nat → RE) (K : Upd → Option R) : Option R :=
  let pure1 (v : CV) : Option R := K ⟨.one v, []⟩
  match o.op with
  | .move _ => match vs with
    | [v] => K ⟨v, []⟩
    | _ => none
  | .assign _ => match vs with
    | [v] => K ⟨v, []⟩
    | _ => none
  | .pick _ _ _ => match vs with
    | [.one (.bool c), a, b] => sel c (K ⟨a, []⟩) (K ⟨b, []⟩)
    | _ => none
  | .alloc t => match vs with
    | [] => match kindT tt t with
      | some c => let n := nid o.dst 0; let i := (H n).inc + 1; K ⟨.one (.vptr n i 0), [(n, ⟨i, 0, .var (expZ c)⟩)]⟩
      | none => none
    | _ => none
  | .box t _ => match vs with
    | [v] => match kindT tt t with
      | some c => bif okCs v.cells && Nat.beq v.cells.length c.size then
          let n := nid o.dst 0; let i := (H n).inc + 1; K ⟨.one (.vptr n i 0), [(n, ⟨i, 0, .var v.cells⟩)]⟩
        else none
      | none => none
    | _ => none
  | .build t ps => match look tt t with
      | some (.val c _ fs) => bif c.isAgg then match buildC fs ((ps.toList.map (·.1)).zip vs) (expZ c) with
          | some cs => K ⟨.agg cs, []⟩
          | none => none
        else none
      | _ => none
  | .buildSlice t n ps => match elemT tt t with
      | some e => bif Nat.ble (n * e.size) 16777216 then
        match buildC ((List.range n).map fun i => (i * e.size, e)) ((ps.toList.map (·.1)).zip vs) (List.replicate n (expZ e)).flatten with
        | some rows =>
          let m := nid o.dst 0
          let i := (H m).inc + 1
          match gathN H .deep e n rows with
          | some (xs, ids) => bif nodB ids then K ⟨.one (.row m i 0 []), (m, ⟨i, 0, .row true e xs⟩) :: dead H ids⟩ else none
          | none => match gathN H .shr e n rows with
            | some (xs, ids) => bif nodB ids then K ⟨.one (.row m i 0 []), (m, ⟨i, 0, .row false e xs⟩) :: dead H ids⟩ else none
            | none => none
        | none => none
        else none
      | none => none
  | .makeSlice t _ _ => match vs with
    | [.one (.int .i64 n), .one (.int .i64 n')] => match elemT tt t, ebytes tt t with
      | some e, some b => grd (decide (n = n') && decide (0 ≤ n) && fits n.toNat b)
          (let m := nid o.dst 0; let i := (H m).inc + 1; K ⟨.one (.row m i 0 []), [(m, ⟨i, 0, .row true e (List.replicate n.toNat e.dflt)⟩)]⟩)
      | _, _ => none
    | _ => none
  | .load t _ => match vs with
    | [.one a] => match kindT tt t with
      | some c => match a with
        | .vptr id inc off => match varAt H id inc with
          | some cs => bif Nat.ble (off + c.size) cs.length then K ⟨toSV c ((cs.drop off).take c.size), []⟩ else none
          | none => none
        | .rp c' x => if h : c' = c then K ⟨toSV c (expS c (cast (congrArg CK.den h) x)), []⟩ else none
        | .ptr id inc ver p i off c' => if c' = c then match rowAt H id inc ver p with
            | some r => match r.e.lens off c with
              | some L =>
                let x := L.get (rdL r.xs i r.e.dflt)
                bif c.flat || !r.d then K ⟨toSV c (expS c x), []⟩ else K ⟨toSV c (expD (fun o => .row id inc (H id).ver (p ++ [(i, o)])) c x off), []⟩
              | none => none
            | none => none
          else none
        | _ => none
      | none => none
    | _ => none
  | .store t _ _ => match vs with
    | [.one a, v] => match kindT tt t with
      | some c => match a with
        | .vptr id inc off => match varAt H id inc with
          | some cs => bif okCs v.cells && (Nat.beq v.cells.length c.size && Nat.ble (off + c.size) cs.length) then
              K ⟨.one .undef, [(id, ⟨(H id).inc, (H id).ver, .var (patch cs off v.cells)⟩)]⟩ else none
          | none => none
        | .ptr id inc ver p i off c' => if c' = c then match stoKind H id p v with
          | .hole i0 v0 e0 xs0 i1 off1 => stoHole H K c id inc i off v i0 v0 e0 xs0 i1 off1
          | .cut id2 inc2 ver2 i2 off2 lo hi => stoCut H K c id inc i off id2 inc2 ver2 i2 off2 lo hi
          | .other => match H id, rowAt H id inc ver p with
            | ⟨i0, w, .row d e0 xs0⟩, some r => match r.e.lens off c with
              | some L => match gathAll H (bif d then .deep else .shr) c v.cells with
                | some (x, ids) => match setRow e0 xs0 p r.e (wrL r.xs i (L.set (rdL r.xs i r.e.dflt) x)) with
                  | some zs => bif nodB (id :: ids) then K ⟨.one .undef, (id, ⟨i0, w + 1, .row d e0 zs⟩) :: dead H ids⟩ else none
                  | none => none
                | none => none
              | none => none
            | _, _ => none
          else none
        | _ => none
      | none => none
    | _ => none
  | .nilCheck _ => match vs with
    | [.one a] => match a with
      | .vptr id inc _ => match varAt H id inc with | some _ => pure1 a | none => none
      | .ptr _ _ _ _ _ _ _ => pure1 a
      | .rp _ _ => pure1 a
      | .fn _ => pure1 a
      | _ => none
    | _ => none
  | .binOp op t _ _ _ => match vs with
    | [.one x, .one y] => binV (match kindT tt t with | some .bool => true | _ => false) op x y pure1
    | [.agg xs, .agg ys] => match kindT tt t with
      | some c => bif c.cmp then (match eqCs c xs ys with
          | some b => match op with
            | .eql => pure1 (.bool b)
            | .neq => pure1 (.bool (!b))
            | _ => none
          | none => none) else none
      | none => none
    | _ => none
  | .unOp .not _ _ => match vs with
    | [.one (.bool b)] => pure1 (.bool (!b))
    | _ => none
  | .unOp .neg _ _ => match vs with
    | [.one (.int k n)] => pure1 (.int k (k.wrap (0 - n)))
    | _ => none
  | .convert s t _ => match vs with
    | [.one v] => match kindT tt t with
      | some (.int k) => match v, kindT tt s with
        | .int _ n, some (.int _) => pure1 (.int k (k.wrap n))
        | _, _ => none
      | some .str => match kindT tt s with
        | some (.sl (.int .u8)) => match slOf H .bor v (.int .u8) with
          | some (xs, _) => pure1 (.str (bytesOf xs))
          | none => none
        | _ => none
      | _ => none
    | _ => none
  | .fieldAddr t _ f => match vs with
    | [.one a] => match fieldT tt t f with
      | some (off, d) => match a with
        | .vptr id inc off' => match varAt H id inc with | some _ => pure1 (.vptr id inc (off' + off)) | none => none
        | .rp c x => match c.lens off d with | some L => pure1 (.rp d (L.get x)) | none => none
        | .ptr id inc ver p i off' _ => pure1 (.ptr id inc ver p i (off' + off) d)
        | _ => none
      | none => none
    | _ => none
  | .field t _ f => match vs with
    | [.agg cs] => match fieldT tt t f with
      | some (off, d) => bif Nat.ble (off + d.size) cs.length then K ⟨toSV d ((cs.drop off).take d.size), []⟩ else none
      | none => none
    | _ => none
  | .indexAddr t _ _ => match vs with
    | [.one x, .one (.int _ i)] => match elemT tt t with
      | some e' => match x with
        | .sl e xs => if e = e' then grd (inb xs i) (pure1 (.rp e (rdL xs i e.dflt))) else none
        | .row id inc ver p => match rowAt H id inc ver p with
          | some r => if r.e = e' then grd (inb r.xs i) (pure1 (.ptr id inc (H id).ver p i 0 r.e)) else none
          | none => match holeAt H id inc p with
            | some r => if r.e = e' then grd (inb r.xs i) (pure1 (.ptr id inc (H id).ver [] i 0 r.e)) else none
            | none => none
        | _ => none
      | none => none
    | _ => none
  | .index t _ _ => match vs with
    | [.one (.str s), .one (.int _ i)] => match kindT tt t with
      | some .str => grd (inb s i) (pure1 (.int .u8 ((rdL s i 0).toNat : Int)))
      | _ => none
    | _ => none
  | .slice t _ lo hi none => match vs with
    | .one x :: vs => match intsOf vs, kindT tt t, lenV H x with
      | some bs, some c, some n =>
        let l := loB lo bs
        let h := hiB lo hi bs n
        bif okBs lo hi bs then
          grd (decide (0 ≤ l) && decide (l ≤ h) && decide (h ≤ n)) (match c, x with
            | .str, .str s => pure1 (.str (subL s l h))
            | .sl _, .nil => pure1 .nil
            | .sl e', .sl e xs => if e = e' then pure1 (.sl e (subL xs l h)) else none
            | .sl e', .row id inc ver p => match rowAt H id inc ver p with
              | some r => if r.e = e' then pure1 (.rsub id inc ver p l h) else none
              | none => none
            | _, _ => none)
        else none
      | _, _, _ => none
    | _ => none
  | .extract _ i => match vs with
    | [.tup xs] => match xs[i]? with
      | some (true, cs) => K ⟨.agg cs, []⟩
      | some (false, [v]) => pure1 v
      | _ => none
    | _ => none
  | .makeMap t none => match vs with
    | [] => match look tt t with
      | some (.map k e) => let n := nid o.dst 0; let i := (H n).inc + 1; K ⟨.one (.map n i), [(n, ⟨i, 0, .map k e []⟩)]⟩
      | _ => none
    | _ => none
  | .lookup t _ _ ok => match vs with
    | [.one (.map id inc), .one kv] => match look tt t with
      | some (.map k e) => match mapAt H id inc with
        | some m => if m.k = k ∧ m.e = e then (match cellOf m.k kv with
            | some x => K ⟨bif ok then .tup [(false, [cellC m.e (mfdK m.k m.e m.xs x)]), (false, [.bool (mhasK m.k m.e m.xs x)])] else .one (cellC m.e (mfdK m.k m.e m.xs x)), []⟩
            | none => none) else none
        | none => none
      | _ => none
    | _ => none
  | .mapUpdate t _ _ _ => match vs with
    | [.one (.map id inc), .one kv, .one vv] => match look tt t with
      | some (.map k e) => match mapAt H id inc with
        | some m => if m.k = k ∧ m.e = e then (match cellOf m.k kv with
            | some x => match cellOf m.e vv with
              | some y => K ⟨.one .undef, [(id, ⟨(H id).inc, (H id).ver, .map m.k m.e (mputK m.k m.e m.xs x y)⟩)]⟩
              | none => none
            | none => none) else none
        | none => none
      | _ => none
    | _ => none
  | .call c => match c.callee with
    | .builtin .len => match vs with
      | [.one x] => match lenV H x with
        | some n => bif lenT ((c.argTypes[0]?).bind (kindT tt)) x then pure1 (.int .i64 n) else none
        | none => none
      | _ => none
    | .builtin .min => match vs with
      | [.one (.int k a), .one (.int k' b)] => if k = k' then pure1 (.int k (mnI a b)) else none
      | _ => none
    | .builtin .max => match vs with
      | [.one (.int k a), .one (.int k' b)] => if k = k' then pure1 (.int k (mxI a b)) else none
      | _ => none
    | .builtin .append => match vs with
      | [.one x, .one y] =>
        match c.argTypes.toList with
        | [t, t'] => match elemT tt t, ebytes tt t, elemT tt t' with
          | some e, some b, some _ =>
            actAppend o H K e b x y
          | _, _, _ => none
        | _ => none
      | _ => none
    | .value _ => match vs with
      | .one (.fn f) :: vs => match findC env f with
        | none => none
        | some c => match argsOf H c.g.ps vs with
          | none => none
          | some (x, B, U, T) =>
            bif nodB (U ++ T) && (disB (U ++ T) B && ((flatRs c.g.rs && noPts c.g.ps) || match B with | [] => true | _ => false)) then
              bnd (c.run k x) fun y =>
                let r := resOf H c.g.rs y.1 (nid o.dst 0)
                match mutOf H c.g.ps vs y.2 r.2.2 with
                | some (hm, n) => bif Nat.ble n (nid o.dst 16) && nodB ((hm ++ r.2.1).map (·.1)) then K ⟨retSV r.1, hm ++ r.2.1 ++ dead H T⟩ else none
                | none => none
            else none
    
      | _ => none
    | _ => none
  | _ => none
end

def ofVals : List Value → Option (List CV)
  | [] => some []
  | .bool b :: l => (ofVals l).map (.bool b :: ·)
  | .int k n :: l => (ofVals l).map (.int k n :: ·)
  | .string s :: l => (ofVals l).map (.str s.data.toList :: ·)
  | .slice none 0 0 :: l => (ofVals l).map (.nil :: ·)
  | _ => none
def ofVal : Value → SV
  | .bool b => .one (.bool b)
  | .int k n => .one (.int k n)
  | .string s => .one (.str s.data.toList)
  | .slice none 0 0 => .one .nil
  | .agg cs => match ofVals cs.toList with | some l => .agg l | none => .one .undef
  | _ => .one .undef

def St.ev (σ : St) : Operand → SV
  | .tmp t => σ.s t
  | .const v => ofVal v
  | .func f => .one (.fn f)
  | .global _ => .one .undef

def CV.ids : CV → List Nat
  | .vptr id _ _ => [id]
  | .map id _ => [id]
  | .row id _ _ _ => [id]
  | .rsub id _ _ _ _ _ => [id]
  | .ptr id _ _ _ _ _ _ => [id]
  | _ => []
def SV.all : SV → List CV
  | .one v => [v]
  | .agg vs => vs
  | .tup xs => xs.flatMap (·.2)
/-- The roots that an operation may look at: those that its operands name, and those that their variables' cells name; and the names of what it makes. -/
def consult (md : Nat) (h : Nat → RE) (d : Option Nat) (vs : List SV) : List Nat :=
  let a := bif Nat.beq md 2 then [] else (vs.flatMap SV.all).flatMap CV.ids
  let b := bif Nat.beq md 0 then a.flatMap fun id => match (h id).c with | .var cs => cs.flatMap CV.ids | _ => [] else []
  a ++ (b ++ (List.range 16).map (nid d))
/-- A move looks at no root (2); nor does what is reckoned from a pointer into a row; a load from a variable looks at that alone (1). -/
def isMove (op : Op) (vs : List SV) : Nat :=
  match op with
  | .move _ => 2
  | .nilCheck _ => match vs with | [.one (.ptr _ _ _ _ _ _ _)] => 2 | _ => 0
  | .fieldAddr _ _ _ => match vs with | [.one (.ptr _ _ _ _ _ _ _)] => 2 | _ => 1
  | .load _ _ => match vs with | [.one (.vptr _ _ _)] => 1 | _ => 0
  | _ => 0
def RE0 : RE := ⟨0, 0, .none⟩
def restrict (l : List Nat) (h : Nat → RE) : Nat → RE := fun id => bif memB l id then h id else RE0

structure Rec where
  rd : List Nat
  wr : Option Nat
  ci : List Nat
  wi : List Nat

def Rec.calm1 (a b : Rec) : Bool :=
  (match a.wr with | some d => !memB b.rd d && (match b.wr with | some d' => !Nat.beq d d' | none => true) | none => true) && (disB a.wi b.ci && disB a.wi b.wi)
def Rec.calm (a b : Rec) : Bool := a.calm1 b && b.calm1 a

def tmpsOf (o : Oper) : List Nat := o.op.operands.toList.filterMap fun | .tmp t => some t | _ => none

section
variable {R : Type} (tt : List (Nat × TD)) (env : List Ct) (k : Nat)

variable (B : St) (N : Nat)
/-- May the slot be written? (The slots of 'B' are those that stay as they are; there are 'N' slots.) -/
def okDst (d : Option Nat) : Bool := match d with | some d => (match B.s d with | .one .undef => Nat.blt d N | _ => false) | none => true
/-- One operation, run. -/
def doOp (o : Oper) (σ : St) (rd : List Nat) (K : St → Rec → Option R) : Option R :=
  bif okDst B N o.dst then
    let vs := o.op.operands.toList.map σ.ev
    let ci := consult (isMove o.op vs) σ.h o.dst vs
    act tt env k o vs (restrict ci σ.h) fun u => K (σ.upd o.dst u) ⟨rd ++ tmpsOf o, o.dst, ci, u.hs.map (·.1)⟩
  else none
def noOp (o : Oper) (σ : St) (rd : List Nat) (K : St → Rec → Option R) : Option R :=
  bif okDst B N o.dst then K (σ.put o.dst (.tup [])) ⟨rd, o.dst, [], []⟩ else none

def evOps (all : Array Oper) : List Oper → St → List Rec → (St → List Rec → Option R) → Option R
  | [], σ, rs, K => K σ rs
  | o :: rest, σ, rs, K =>
    match o.guard with
    | none => doOp tt env k B N o σ [] fun σ' r => evOps all rest σ' (r :: rs) K
    | some (j, want) =>
      match (all[j]?).bind (·.dst) with
      | some t =>
        match σ.s t with
        | .one (.bool b) =>
          sel b
            (let σ := σ.setS t (.one (.bool true))
             bif want then doOp tt env k B N o σ [t] fun σ' r => evOps all rest σ' (r :: rs) K else noOp B N o σ [t] fun σ' r => evOps all rest σ' (r :: rs) K)
            (let σ := σ.setS t (.one (.bool false))
             bif want then noOp B N o σ [t] fun σ' r => evOps all rest σ' (r :: rs) K else doOp tt env k B N o σ [t] fun σ' r => evOps all rest σ' (r :: rs) K)
        | .tup [] => noOp B N o σ [t] fun σ' r => evOps all rest σ' (r :: rs) K
        | _ => none
      | none => none

/-- Whether any order that keeps the edges comes to the same: 'rs' the records, the last operation's first; 'bs' what must stand before each. -/
def calmAgainst (a : Rec) (before : Nat) : (n : Nat) → List Rec → Bool
  | _, [] => true
  | n, b :: l => bif (before.testBit n || a.calm b) then calmAgainst a before (n - 1) l else false
def calmAll (bs : List Nat) : List Rec → Bool
  | [] => true
  | a :: l => bif calmAgainst a (bs.getD l.length 0) (l.length - 1) l then calmAll bs l else false

/-- The same, from a table that is made of the code alone. -/
def bitsDown (b : Nat) : Nat → List Bool
  | 0 => []
  | n + 1 => b.testBit n :: bitsDown b n
def bitsTab (bs : List Nat) : Nat → List (List Bool)
  | 0 => []
  | n + 1 => bitsDown (bs.getD n 0) n :: bitsTab bs n
def calmAg (a : Rec) : List Bool → List Rec → Bool
  | t :: ts, b :: l => bif (t || a.calm b) then calmAg a ts l else false
  | [], [] => true
  | _, _ => false
def calmAl : List (List Bool) → List Rec → Bool
  | t :: ts, a :: l => bif calmAg a t l then calmAl ts l else false
  | [], [] => true
  | _, _ => false

/-- Every operation stands after what it waits for. -/
def aftersOk : Nat → List Oper → Bool
  | _, [] => true
  | i, o :: l => (o.after.toList.all fun e => !(Region.binds .any e) || Nat.blt e.on i) && aftersOk (i + 1) l

/-! ### the frame at joins and loops -/
inductive LC where   -- a cell
  | int (k : IntKind) | bool | str | sl (e : CK) | row (d : Bool) (e : CK) | map (k e : CK)
inductive LS where   -- a slot
  | one (c : LC)
  | agg (cs : List LC)
  | var (cs : List LC)
  | vp (i : Nat)
  | ep (j n off : Nat) (c : CK)   -- a pointer into the row that the n-th cell of the pointer parameter j holds (cells count from 1)
  | nr (j n off : Nat) (e : CK)   -- a row inside of that row
  | fn (f : FuncId)
  | pm (c : CK)        -- a written parameter, as it came
  | pp (cs : List LC)  -- a pointer parameter, as it came

def LC.ck : LC → CK
  | .int k => .int k
  | .bool => .bool
  | .str => .str
  | .sl e => .sl e
  | .row _ e => .sl e
  | .map k e => .sl (.pair k e)
def lcsK : List LC → CK
  | [] => .unit
  | [c] => c.ck
  | c :: l => .pair c.ck (lcsK l)
def LS.ck : LS → CK
  | .one c => c.ck
  | .agg cs => lcsK cs
  | .var cs => lcsK cs
  | .vp _ => .unit
  | .ep _ _ _ _ => .int .i64
  | .nr _ _ _ _ => .int .i64
  | .fn _ => .unit
  | .pm c => c
  | .pp cs => lcsK cs
def spK : List (Nat × LS) → CK
  | [] => .unit
  | [(_, s)] => s.ck
  | (_, s) :: l => .pair s.ck (spK l)

def packC (H : Nat → RE) (v : CV) : (c : LC) → Option (c.ck.den × List Nat)
  | .int k => match v with | .int k' n => if k = k' then some (n, []) else none | _ => none
  | .bool => match v with | .bool b => some (b, []) | _ => none
  | .str => match v with | .str s => some (s, []) | _ => none
  | .sl e => slOf H .shr v e
  | .row d e => match v with
    | .sl _ _ => none
    | .row id inc ver [] => match rowAt H id inc ver [] with
      | some r => bif !d || (r.d || e.flat) then slOf H .shr v e else none
      | none => none
    | v => slOf H .shr v e
  | .map k e => match v with
    | .map id inc => match mapAt H id inc with
      | some m => if h : m.k = k ∧ m.e = e then some (castM h.1 h.2 m.xs, [id]) else none
      | none => none
    | _ => none
def packCs (H : Nat → RE) : (vs : List CV) → (cs : List LC) → Option ((lcsK cs).den × List Nat)
  | [], [] => some ((), [])
  | [v], [c] => packC H v c
  | v :: v2 :: vs, c :: c2 :: cs => match packC H v c with
    | some (x, i1) => match packCs H (v2 :: vs) (c2 :: cs) with
      | some (y, i2) => some ((x, y), i1 ++ i2)
      | none => none
    | none => none
  | _, _ => none
/-- What a written parameter holds, whose rows bear the names from 'n' on. -/
def contP (H : Nat → RE) : (c : CK) → List CV → Nat → Option (c.den × List Nat × List CV × Nat)
  | .int k, .int k' n :: r, i => if k = k' then some (n, [], r, i) else none
  | .bool, .bool b :: r, i => some (b, [], r, i)
  | .str, .str s :: r, i => some (s, [], r, i)
  | .sl e, .row id 1 _ [] :: r, i => bif Nat.beq id i then match H i with
      | ⟨1, _, .row d e' xs⟩ => bif d || e.flat then (if h : e' = e then some (castL h xs, [i], r, i + 1) else none) else none
      | _ => none
    else none
  | .unit, r, i => some ((), [], r, i)
  | .pair a b, r, i => match contP H a r i with
    | some (x, i1, r, i) => match contP H b r i with
      | some (y, i2, r, i) => some ((x, y), i1 ++ i2, r, i)
      | none => none
    | none => none
  | _, _, _ => none
/-- The rows that the cells of slot i hold. -/
def rowKeys (i : Nat) : Nat → List LC → List CV → List (Nat × Nat)
  | n, .row _ _ :: cs, .row id _ _ [] :: vs => (40000 * n + i, id) :: rowKeys i (n + 1) cs vs
  | n, _ :: cs, _ :: vs => rowKeys i (n + 1) cs vs
  | _, _, _ => []
/-- 'm': the variables met so far, by their slots; the rows, by 40000 times the cell's number and the slot. -/
def packS (H : Nat → RE) (m : List (Nat × Nat)) (i : Nat) (v : SV) : (s : LS) → Option (s.ck.den × List Nat × List (Nat × Nat))
  | .one c => match v with
    | .one v => match packC H v c with | some (x, ids) => some (x, ids, m) | none => none
    | _ => none
  | .agg cs => match v with
    | .agg vs => match packCs H vs cs with | some (x, ids) => some (x, ids, m) | none => none
    | _ => none
  | .var cs => match v with
    | .one (.vptr id inc 0) => match varAt H id inc with
      | some vs => match packCs H vs cs with | some (x, ids) => some (x, id :: ids, (i, id) :: m) | none => none
      | none => none
    | _ => none
  | .vp j => match v, look m j with
    | .one (.vptr id inc 0), some id' => bif Nat.beq id id' && (Nat.beq (H id).inc inc && Nat.blt j 40000) then some ((), [], m) else none
    | _, _ => none
  | .ep j n off c => match v, look m (40000 * n + j) with
    | .one (.ptr id inc _ [] x off' c'), some id' => bif (Nat.beq id id' && Nat.beq (H id).inc inc) && (Nat.beq off off' && (Nat.blt j 40000 && Nat.blt 0 n)) then (if c' = c then some (x, [], m) else none) else none
    | _, _ => none
  | .nr j n off e => match v, look m (40000 * n + j) with
    | .one (.row id inc ver [(x, off')]), some id' => bif (Nat.beq id id' && Nat.beq (H id).inc inc) && (Nat.beq off off' && (Nat.blt j 40000 && Nat.blt 0 n)) then (match H id with
        | ⟨_, v0, .row true _ _⟩ => bif Nat.beq v0 ver then some (x, [], m) else none
        | _ => none) else none
    | _, _ => none
  | .fn f => match v with | .one (.fn f') => bif Nat.beq f f' then some ((), [], m) else none | _ => none
  | .pm c => bif okCs v.cells && v.shape c then (match contP H c v.cells (pid i 0) with | some (x, ids, [], _) => some (x, ids, m) | _ => none) else none
  | .pp cs => match v with
    | .one (.vptr id 1 0) => bif Nat.beq id (pid i 0) then match H id with
      | ⟨1, _, .var vs⟩ => match packCs H vs cs with | some (x, ids) => some (x, id :: ids, rowKeys i 1 cs vs ++ m) | none => none
      | _ => none
      else none
    | _ => none
def LS.len : LS → Nat
  | .one _ => 1
  | .agg cs => cs.length
  | .var cs => cs.length
  | .pp cs => cs.length
  | _ => 0
def packL (σ : St) : (m : List (Nat × Nat)) → (sp : List (Nat × LS)) → Option ((spK sp).den × List Nat)
  | _, [] => some ((), [])
  | m, [(i, s)] => bif Nat.blt i 40000 && Nat.blt s.len 1000 then match packS σ.h m i (σ.s i) s with | some (x, ids, _) => some (x, ids) | none => none else none
  | m, (i, s) :: a :: l => bif Nat.blt i 40000 && Nat.blt s.len 1000 then match packS σ.h m i (σ.s i) s with
    | some (x, i1, m) => match packL σ m (a :: l) with
      | some (y, i2) => some ((x, y), i1 ++ i2)
      | none => none
    | none => none else none

def unC (n : Nat) : (c : LC) → c.ck.den → CV × List (Nat × RE)
  | .int k, x => (.int k x, [])
  | .bool, x => (.bool x, [])
  | .str, x => (.str x, [])
  | .sl e, x => (.sl e x, [])
  | .row d e, x => (.row n 1 0 [], [(n, ⟨1, 0, .row d e x⟩)])
  | .map k e, x => (.map n 1, [(n, ⟨1, 0, .map k e x⟩)])
def unCs : (n : Nat) → (cs : List LC) → (lcsK cs).den → List CV × List (Nat × RE)
  | _, [], _ => ([], [])
  | n, [c], x => let a := unC n c x; ([a.1], a.2)
  | n, c :: c2 :: cs, x => let a := unC n c x.1; let b := unCs (n + 1) (c2 :: cs) x.2; (a.1 :: b.1, a.2 ++ b.2)
def unS (i : Nat) : (s : LS) → s.ck.den → SV × List (Nat × RE)
  | .one c, x => let a := unC (uid i 0) c x; (.one a.1, a.2)
  | .agg cs, x => let a := unCs (uid i 0) cs x; (.agg a.1, a.2)
  | .var cs, x => let a := unCs (uid i 1) cs x; (.one (.vptr (uid i 0) 1 0), (uid i 0, ⟨1, 0, .var a.1⟩) :: a.2)
  | .vp j, _ => (.one (.vptr (uid j 0) 1 0), [])
  | .ep j n off c, x => (.one (.ptr (uid j n) 1 0 [] x off c), [])
  | .nr j n off e, x => (.one (.row (uid j n) 1 0 [(x, off)]), [])
  | .fn f, _ => (.one (.fn f), [])
  | .pm c, x => let r := expN (fun _ => RE0) true c x (pid i 0); (toSV c r.1, r.2.1)
  | .pp cs, x => let a := unCs (uid i 1) cs x; (.one (.vptr (pid i 0) 1 0), (pid i 0, ⟨1, 0, .var a.1⟩) :: a.2)
def unL : (sp : List (Nat × LS)) → (spK sp).den → St
  | [], _ => B
  | [(i, s)], x => let a := unS i s x; St.setS ⟨B.s, setH B.h a.2⟩ i a.1
  | (i, s) :: b :: l, x => let a := unS i s x.1; let σ := unL (b :: l) x.2; St.setS ⟨σ.s, setH σ.h a.2⟩ i a.1
/-- All the roots of such a state. -/
def unH : (sp : List (Nat × LS)) → (spK sp).den → List (Nat × RE)
  | [], _ => []
  | [(i, s)], x => (unS i s x).2
  | (i, s) :: b :: l, x => (unS i s x.1).2 ++ unH (b :: l) x.2
def pack (sp : List (Nat × LS)) (σ : St) (K : (spK sp).den → Option R) : Option R :=
  match packL σ [] sp with
  | some (x, ids) => bif nodB ids && nodB ((unH sp x).map (·.1)) then K x else none
  | none => none

inductive HT where
  | leaf
  | n (a b : HT)
  | j (sp : List (Nat × LS)) (a b : HT)
  | l (sp : List (Nat × LS)) (a : HT)
inductive Ex where
  | normal | exit (id : Nat) | ret

def iter {D R : Type} (s : (D → Option R) → D → Option R) : Nat → D → Option R
  | 0 => fun _ => none
  | n + 1 => s (iter s n)
def join {D R : Type} (J : D → Option R) (b : (D → Option R) → Option R) : Option R := b J

def ev : HT → Code → St → (Ex → St → Option R) → Option R
  | _, .skip, σ, K => K .normal σ
  | _, .region _ ops draw, σ, K => evOps tt env k B N ops ops.toList σ [] fun σ' rs =>
      bif draw then grd (aftersOk 0 ops.toList && calmAl (bitsTab (Region.before ops).toList ops.size) rs) (K .normal σ') else K .normal σ'
  | h, .seq a b, σ, K =>
    match h with
    | .j sp ha hb => join (fun d => ev hb b (unL B sp d) K) fun J => ev ha a σ fun e σ' =>
        match e with | .normal => pack sp σ' J | .exit i => K (.exit i) σ' | .ret => K .ret σ'
    | .n ha hb => ev ha a σ fun e σ' => match e with | .normal => ev hb b σ' K | .exit i => K (.exit i) σ' | .ret => K .ret σ'
    | _ => ev .leaf a σ fun e σ' => match e with | .normal => ev .leaf b σ' K | .exit i => K (.exit i) σ' | .ret => K .ret σ'
  | h, .cond c x y, σ, K =>
    match σ.ev c with
    | .one (.bool b) => sel b (ev (match h with | .n a _ => a | _ => .leaf) x σ K) (ev (match h with | .n _ b => b | _ => .leaf) y σ K)
    | _ => none
  | h, .block id c, σ, K => ev h c σ fun e σ' =>
      match e with | .exit i => bif Nat.beq i id then K .normal σ' else K (.exit i) σ' | .normal => K .normal σ' | .ret => K .ret σ'
  | h, .loop c, σ, K =>
    match h with
    | .l sp hc => pack sp σ fun d0 => iter (fun ih d => ev hc c (unL B sp d) fun e σ' =>
        match e with | .normal => pack sp σ' ih | .exit i => K (.exit i) σ' | .ret => K .ret σ') k d0
    | _ => none
  | h, .scope c, σ, K => ev h c σ K
  | _, .exit id, σ, K => K (.exit id) σ
  | _, .ret, σ, K => K .ret σ
  | _, _, _, _ => none

/-! ### a function -/
def inS (m : PM) (c : CK) (x : c.den) (i : Nat) : SV × List (Nat × RE) :=
  match m with
  | .imm => (toSV c (expS c x), [])
  | .mut => let r := expN (fun _ => RE0) true c x (pid i 0); (toSV c r.1, r.2.1)
  | .own => let r := expN (fun _ => RE0) true c x (uid i 0); (toSV c r.1, r.2.1)
  | .ptr => let r := expN (fun _ => RE0) true c x (uid i 1); (.one (.vptr (pid i 0) 1 0), (pid i 0, ⟨1, 0, .var r.1⟩) :: r.2.1)
  | .pts => (.one (.vptr (pid i 0) 1 0), [(pid i 0, ⟨1, 0, .var (expS c x)⟩)])
  | .fn f => (.one (.fn f), [])
def inSt : (ps : List (PM × CK)) → (i : Nat) → (inK ps).den → St
  | [], _, _ => ⟨fun _ => .one .undef, fun _ => RE0⟩
  | (.fn f, c) :: l, i, x => let σ := inSt l (i + 1) x; ⟨(σ.setS i (.one (.fn f))).s, σ.h⟩
  | (.imm, c) :: l, i, x => let a := inS .imm c x.1 i; let σ := inSt l (i + 1) x.2; ⟨(σ.setS i a.1).s, setH σ.h a.2⟩
  | (.mut, c) :: l, i, x => let a := inS .mut c x.1 i; let σ := inSt l (i + 1) x.2; ⟨(σ.setS i a.1).s, setH σ.h a.2⟩
  | (.own, c) :: l, i, x => let a := inS .own c x.1 i; let σ := inSt l (i + 1) x.2; ⟨(σ.setS i a.1).s, setH σ.h a.2⟩
  | (.ptr, c) :: l, i, x => let a := inS .ptr c x.1 i; let σ := inSt l (i + 1) x.2; ⟨(σ.setS i a.1).s, setH σ.h a.2⟩
  | (.pts, c) :: l, i, x => let a := inS .pts c x.1 i; let σ := inSt l (i + 1) x.2; ⟨(σ.setS i a.1).s, setH σ.h a.2⟩

def mutsOut (B : St) (H : Nat → RE) : (ps : List (PM × CK)) → (i : Nat) → Option ((mutK ps).den × List Nat)
  | [], _ => some ((), [])
  | (.mut, c) :: l, i => match contP H c (B.s i).cells (pid i 0) with
    | some (y, ids, [], _) => match mutsOut B H l (i + 1) with
      | some (z, js) => some ((y, z), ids ++ js)
      | none => none
    | _ => none
  | (.ptr, c) :: l, i => match H (pid i 0) with
    | ⟨1, _, .var cs⟩ => match gathAll H .deep c cs with
      | some (y, ids) => match mutsOut B H l (i + 1) with
        | some (z, js) => some ((y, z), pid i 0 :: (ids ++ js))
        | none => none
      | none => none
    | _ => none
  | (.pts, c) :: l, i => match H (pid i 0) with
    | ⟨1, _, .var cs⟩ => match gathAll H .shr c cs with
      | some (y, []) => match mutsOut B H l (i + 1) with
        | some (z, js) => some ((y, z), pid i 0 :: js)
        | none => none
      | _ => none
    | _ => none
  | (.imm, _) :: l, i => mutsOut B H l (i + 1)
  | (.own, _) :: l, i => mutsOut B H l (i + 1)
  | (.fn _, _) :: l, i => mutsOut B H l (i + 1)
/-- The content of an owned result, whose rows go with it. -/
def outK (H : Nat → RE) (d : Bool) : (c : CK) → List CV → Option (c.den × List Nat × List CV)
  | .int k, .int k' n :: r => if k = k' then some (n, [], r) else none
  | .bool, .bool b :: r => some (b, [], r)
  | .str, .str s :: r => some (s, [], r)
  | .sl e, v :: r => match packC H v (.row d e) with | some (xs, ids) => some (xs, ids, r) | none => none
  | .unit, r => some ((), [], r)
  | .pair a b, r => match outK H d a r with
    | some (x, i1, r1) => match outK H d b r1 with
      | some (y, i2, r2) => some ((x, y), i1 ++ i2, r2)
      | none => none
    | none => none
  | _, _ => none
def outV (H : Nat → RE) (d : Bool) (c : CK) (v : SV) : Option (c.den × List Nat) :=
  bif v.shape c && okCs v.cells then match outK H d c v.cells with | some (x, ids, []) => some (x, ids) | _ => none else none
def ressOut (H : Nat → RE) : (rs : List (RM × CK)) → List SV → Option ((resK rs).den × List Nat × List Nat)
  | [], [] => some ((), [], [])
  | (.imm, c) :: l, v :: vs => match gathV H .bor c v with
    | some (x, ids) => match ressOut H l vs with
      | some (y, T, B) => some ((x, y), T, ids ++ B)
      | none => none
    | none => none
  | (.own d, c) :: l, v :: vs => match outV H d c v with
    | some (x, ids) => match ressOut H l vs with
      | some (y, T, B) => some ((x, y), ids ++ T, B)
      | none => none
    | none => none
  | (.pts, c) :: l, v :: vs => match v with
    | .one (.vptr id inc 0) => match varAt H id inc with
      | some cs => match gathAll H .shr c cs with
        | some (x, []) => match ressOut H l vs with
          | some (y, T, B) => some ((x, y), id :: T, B)
          | none => none
        | _ => none
      | none => none
    | _ => none
  | _, _ => none
/-- The roots at the start. -/
def inH : (ps : List (PM × CK)) → (i : Nat) → (inK ps).den → List (Nat × RE)
  | [], _, _ => []
  | (.fn _, _) :: l, i, x => inH l (i + 1) x
  | (.imm, _) :: l, i, x => inH l (i + 1) x.2
  | (.mut, c) :: l, i, x => (inS .mut c x.1 i).2 ++ inH l (i + 1) x.2
  | (.own, c) :: l, i, x => (inS .own c x.1 i).2 ++ inH l (i + 1) x.2
  | (.ptr, c) :: l, i, x => (inS .ptr c x.1 i).2 ++ inH l (i + 1) x.2
  | (.pts, c) :: l, i, x => (inS .pts c x.1 i).2 ++ inH l (i + 1) x.2
/-- No parameter that is given away is among the slots 'cs'. -/
def ownOut (cs : List Nat) : List (PM × CK) → Nat → Bool
  | [], _ => true
  | (.own, _) :: l, i => !memB cs i && ownOut cs l (i + 1)
  | (_, _) :: l, i => ownOut cs l (i + 1)
def resSV (σ : St) : ResultVar → SV
  | .tmp t => σ.s t
  | .cell a t => match σ.s a, kindT tt t with
    | .one (.vptr id inc off), some c => match σ.h id with
      | ⟨i, _, .var cs⟩ => bif Nat.beq i inc && Nat.ble (off + c.size) cs.length then toSV c ((cs.drop off).take c.size) else .one .undef
      | _ => .one .undef
    | _, _ => .one .undef

def evFn (fn : Func) (cs : List Nat) (h : HT) (g : Sg) (x : g.In) : Option g.Out :=
  match fn.body with
  | some c =>
    let σ0 := inSt g.ps 0 x
    bif (nodB ((inH g.ps 0 x).map (·.1)) && ownOut cs g.ps 0) && (Nat.ble fn.ntmps 10000 && Nat.ble g.ps.length fn.ntmps) then
    ev tt env k ⟨fun i => bif memB cs i then σ0.s i else .one .undef, fun _ => ⟨2, 0, .none⟩⟩ fn.ntmps h c σ0 fun e σ =>
      match e with
      | .exit _ => none
      | _ => match ressOut σ.h g.rs (fn.results.toList.map (resSV tt σ)) with
        | some (r, T, B) => match mutsOut σ0 σ.h g.ps 0 with
          | some (m, U) => bif nodB (U ++ T) && disB (U ++ T) B then some (r, m) else none
          | none => none
        | none => none
    else none
  | none => none
end
end VM
