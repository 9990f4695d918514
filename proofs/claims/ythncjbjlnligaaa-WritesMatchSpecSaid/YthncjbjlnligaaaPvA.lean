/-
  The interpreter: definitions, what its values stand for, code brought into its form. Conditions: none.
-/
import Derived.Orders
set_option linter.unusedVariables false
set_option linter.unusedSimpArgs false
namespace Go.Pv
open Go

/-- Abstract values. 'v': a scalar; 'nils': an empty slice of capacity 0, nil or not; 'emp': one that is not nil; 'em': an empty slice that is nil, or is not; 'ro': a slice of read-only elements (their cells); nil or empty: '.ro []' serves too; 'own': n elements from s on of row r (at its mark u); 'ptr': cell o of box i; 'rop': cell o of a read-only element; 'rowp': cell o of element k of row r; 'mp': a map; 'fn': a function with what it captured; 'top': whatever. -/
inductive AV where
  | v (x : Value)
  | nils
  | emp
  | em (b : Bool)
  | ro (xs : List (List AV))
  | own (r u s n : Nat)
  | ptr (i u o : Nat)
  | rop (cs : List AV) (o : Nat)
  | rowp (r u k o : Nat)
  | mp (r u : Nat)
  | fn (f : Nat) (caps : List AV)
  | agg (cs : List AV)
  | tup (vs : List AV)
  | top
  deriving Inhabited

abbrev AV.i (n : Int) : AV := .v (.int .i64 n)
abbrev AV.b (x : Bool) : AV := .v (.bool x)
abbrev AV.s (x : ByteArray) : AV := .v (.string x)

inductive Opd where
  | t (i : Nat)
  | c (a : AV)
  | f (g : Nat)

def ev (F : List AV) : Opd → AV
  | .t i => F.getD i .top
  | .c a => a
  | .f g => .fn g []

/-- What lies in the abstract heap: a box (a variable in memory), a row (what a slice of the call's own lies in), a map over whole numbers. 'u': the mark of its present state. -/
inductive Ob where
  | box (u : Nat) (cs : List AV)
  | row (u sz : Nat) (xs : List (List AV))
  | map (u : Nat) (es : List (Int × AV))
  | dead
  deriving Inhabited

inductive Ref where
  | b (i : Nat)
  | r (i : Nat)
  deriving DecidableEq

structure Hp where
  bs : List Ob
  rs : List Ob
  nx : Nat

def Hp.get (h : Hp) : Ref → Ob
  | .b i => h.bs.getD i .dead
  | .r i => h.rs.getD i .dead

def Hp.set (h : Hp) : Ref → Ob → Hp
  | .b i, o => { h with bs := h.bs.set i o }
  | .r i, o => { h with rs := h.rs.set i o }

/-- A computation that asks the heap for objects, and nothing else. -/
inductive Pr (α : Type) where
  | ret (a : α)
  | get (x : Ref) (k : Ob → Pr α)
  | fail

namespace Pr
def bind {α β : Type} : Pr α → (α → Pr β) → Pr β
  | .ret a, f => f a
  | .get x k, f => .get x fun o => (k o).bind f
  | .fail, _ => .fail
def run {α : Type} : Pr α → Hp → Option α
  | .ret a, _ => some a
  | .get x k, h => (k (h.get x)).run h
  | .fail, _ => none
def log {α : Type} : Pr α → Hp → List Ref
  | .ret _, _ => []
  | .get x k, h => x :: (k (h.get x)).log h
  | .fail, _ => []
def map {α β : Type} (f : α → β) (p : Pr α) : Pr β := p.bind fun a => .ret (f a)
def ofOption {α : Type} : Option α → Pr α
  | some a => .ret a
  | none => .fail
def mapP {α β : Type} (f : α → Pr β) : List α → Pr (List β)
  | [] => .ret []
  | a :: l => (f a).bind fun b => (mapP f l).bind fun bs => .ret (b :: bs)
end Pr

/-- What an operation does: its value, the objects that it turns, the rows that it lays. -/
structure Eff where
  v : AV := .top
  wr : List (Ref × Ob) := []
  nw : List Ob := []

def Hp.app (h : Hp) (e : Eff) : Hp :=
  let h1 := e.wr.foldl (fun h x => h.set x.1 x.2) h
  { h1 with rs := h1.rs ++ e.nw }

/-- The kinds of scalars that are compared. -/
inductive EK where
  | b
  | i
  | s
  deriving DecidableEq

inductive AOp where
  | mv (x : Opd)
  | pick (c a b : Opd)
  | box (k : Nat) (x : Opd)
  | alloc (k : Nat) (zero : List AV)
  | load (n : Nat) (ag : Bool) (a : Opd)
  | store (n : Nat) (a x : Opd)
  | fa (off : Nat) (x : Opd)
  | fld (off n : Nat) (ag : Bool) (x : Opd)
  | ia (sz : Nat) (x i : Opd)
  | ix (x i : Opd)
  | sls (x : Opd) (lo hi : Option Opd)
  | sl (sz : Nat) (x : Opd) (lo hi : Option Opd)
  | sl3 (sz : Nat) (x : Opd) (lo hi mx : Opd)
  | build (zero : List AV) (parts : List (Nat × Nat × Opd))
  | bsl (sz n : Nat) (zero : List AV) (parts : List (Nat × Opd))
  | bin (op : BinOp) (x y : Opd)
  | beq (neg : Bool) (x y : Opd)
  | eqs (neg : Bool) (ks : List EK) (x y : Opd)
  | nilq (neg : Bool) (x : Opd)
  | un (op : UnOp) (x : Opd)
  | cvi (k : IntKind) (x : Opd)
  | ext (i : Nat) (x : Opd)
  | nilc (x : Opd)
  | len (str : Bool) (x : Opd)
  | app (sz bytes : Nat) (x y : Opd)
  | clr (sz : Nat) (zero : List AV) (x : Opd)
  | mm (mx : Bool) (xs : List Opd)
  | mkf (f : Nat) (caps : List Opd)
  | mkm
  | lk (zero : AV) (ok : Bool) (m k : Opd)
  | mu (m k x : Opd)
  | mks (sz bytes : Nat) (zero : List AV) (n : Opd)
  | call (mode f : Nat) (args : List Opd)
  | callv (x : Opd) (args : List Opd)

/-- One cell of memory holds it. -/
def one : AV → Bool
  | .agg _ => false
  | .tup _ => false
  | .top => false
  | _ => true

/-- It leads to nothing of the call's own. -/
def cln : Nat → AV → Bool
  | 0, _ => false
  | _ + 1, .v _ => true
  | _ + 1, .nils => true
  | _ + 1, .emp => true
  | _ + 1, .ro _ => true
  | _ + 1, .rop _ _ => true
  | n + 1, .agg cs => cs.all (cln n)
  | n + 1, .tup cs => cs.all (cln n)
  | n + 1, .fn _ cs => cs.all (cln n)
  | _ + 1, _ => false

/-- It leads to no memory. -/
def flat : Nat → AV → Bool
  | 0, _ => false
  | _ + 1, .v _ => true
  | _ + 1, .nils => true
  | n + 1, .agg cs => cs.all (flat n)
  | n + 1, .tup cs => cs.all (flat n)
  | _ + 1, _ => false

/-- A value read to the bottom: rows of the call's own become read-only ones. -/
def dr : Nat → AV → Pr AV
  | 0, _ => .fail
  | _ + 1, .v x => .ret (.v x)
  | _ + 1, .nils => .ret (.ro [])
  | _ + 1, .emp => .ret (.ro [])
  | _ + 1, .ro xs => .ret (.ro xs)
  | _ + 1, .rop cs o => .ret (.rop cs o)
  | n + 1, .own r u s k => .get (.r r) fun
    | .row u' sz xs => if u = u' ∧ s + k ≤ xs.length then (Pr.mapP (Pr.mapP (dr n)) ((xs.drop s).take k)).bind fun ys => .ret (.ro ys) else .fail
    | _ => .fail
  | n + 1, .agg cs => (Pr.mapP (dr n) cs).bind fun ys => .ret (.agg ys)
  | n + 1, .tup cs => (Pr.mapP (dr n) cs).bind fun ys => .ret (.tup ys)
  | _ + 1, _ => .fail

/-- A value of which nobody asks whether it is nil. -/
def nz : Nat → AV → AV
  | _ + 1, .nils => .ro []
  | _ + 1, .emp => .ro []
  | n + 1, .agg cs => .agg (cs.map (nz n))
  | n + 1, .tup cs => .tup (cs.map (nz n))
  | n + 1, .fn f cs => .fn f (cs.map (nz n))
  | _, a => a

/-- The cells that a value takes (of 'top' nobody knows how many). -/
def cells : AV → Option (List AV)
  | .agg cs => some cs
  | .top => none
  | .tup _ => none
  | a => some [a]

def splice (cs : List AV) (o : Nat) (xs : List AV) : List AV := cs.take o ++ xs ++ cs.drop (o + xs.length)

def cellsVal (ag : Bool) (cs : List AV) (o n : Nat) : Option AV :=
  if ag then if o + n ≤ cs.length then some (.agg ((cs.drop o).take n)) else none else cs[o]?

def wrap (k : IntKind) (n : Int) : Int := k.wrap n

def binInt (op : BinOp) (k : IntKind) (a b : Int) : Option Value :=
  match op with
  | .add => some (.int k (k.wrap (a + b)))
  | .sub => some (.int k (k.wrap (a - b)))
  | .mul => some (.int k (k.wrap (a * b)))
  | .quo => if b = 0 then none else some (.int k (k.wrap (a.tdiv b)))
  | .rem => if b = 0 then none else some (.int k (a.tmod b))
  | .eql => some (.bool (a == b))
  | .neq => some (.bool (a != b))
  | .lss => some (.bool (a < b))
  | .leq => some (.bool (a ≤ b))
  | .gtr => some (.bool (a > b))
  | .geq => some (.bool (a ≥ b))
  | _ => none

def binStr (op : BinOp) (a b : ByteArray) : Option Value :=
  match op with
  | .add => if ((a.size + b.size : Nat) : Int) > IntKind.i64.max then none else some (.string (a ++ b))
  | .eql => some (.bool (a.toList == b.toList))
  | .neq => some (.bool !(a.toList == b.toList))
  | .lss => some (.bool (Op.bytesLess a.toList b.toList))
  | .leq => some (.bool (Op.bytesLess a.toList b.toList || a.toList == b.toList))
  | .gtr => some (.bool !(Op.bytesLess a.toList b.toList || a.toList == b.toList))
  | .geq => some (.bool !(Op.bytesLess a.toList b.toList))
  | _ => none

def binV (op : BinOp) : AV → AV → Option AV
  | .v (.int k a), .v (.int k' b) => if k = k' then (binInt op k a b).map .v else none
  | .v (.string a), .v (.string b) => (binStr op a b).map .v
  | _, _ => none

def eq1 : EK → AV → AV → Option Bool
  | .i, .v (.int k a), .v (.int k' b) => if k = k' then some (a == b) else none
  | .s, .v (.string a), .v (.string b) => some (a == b)
  | .b, .v (.bool a), .v (.bool b) => some (a == b)
  | _, _, _ => none

def eqAll : List EK → List AV → List AV → Option Bool
  | [], [], [] => some true
  | k :: ks, x :: xs, y :: ys => match eq1 k x y, eqAll ks xs ys with
    | some a, some b => some (a && b)
    | _, _ => none
  | _, _, _ => none

def fillA : List AV → List (Nat × Nat × AV) → Option (List AV)
  | cs, [] => some cs
  | cs, (off, n, a) :: rest => match cells a with
    | some xs => if xs.length = n ∧ off + n ≤ cs.length then fillA (splice cs off xs) rest else none
    | none => none

/-- The elements of a slice that is read whole (a source of append). -/
def items (sz : Nat) : AV → Pr (List (List AV))
  | .nils => .ret []
  | .emp => .ret []
  | .em _ => .ret []
  | .ro xs => .ret xs
  | .own r u s n => .get (.r r) fun
    | .row u' sz' xs => if u = u' ∧ sz' = sz ∧ s + n ≤ xs.length then .ret ((xs.drop s).take n) else .fail
    | _ => .fail
  | .v (.string x) => if sz = 1 then .ret (x.data.toList.map fun b => [.v (.int .u8 b.toNat)]) else .fail
  | _ => .fail

def roomMax : Nat := 2 ^ 47

structure OpE where
  nb : Nat
  u : Nat
  nr : Nat

def bnd (F : List AV) (d : Nat) : Option Opd → Option Nat
  | none => some d
  | some x => match ev F x with
    | .v (.int _ n) => if 0 ≤ n then some n.toNat else none
    | _ => none

def slA (F : List AV) (sz : Nat) (x : AV) (lo hi : Option Opd) : Pr AV :=
  match x with
  | .nils => match bnd F 0 lo, bnd F 0 hi with
    | some 0, some 0 => .ret .nils
    | _, _ => .fail
  | .emp => match bnd F 0 lo, bnd F 0 hi with
    | some 0, some 0 => .ret .emp
    | _, _ => .fail
  | .ro xs => match bnd F 0 lo, bnd F xs.length hi with
    | some l, some h => if l ≤ h ∧ h ≤ xs.length ∧ xs.all (fun c => c.length == sz) = true then .ret (.ro ((xs.take h).drop l)) else .fail
    | _, _ => .fail
  | .own r u s n => match bnd F 0 lo, bnd F n hi with
    | some l, some h => .get (.r r) fun
      | .row u' sz' xs => if u = u' ∧ sz' = sz ∧ l ≤ h ∧ s + h ≤ xs.length then .ret (.own r u (s + l) (h - l)) else .fail
      | _ => .fail
    | _, _ => .fail
  | _ => .fail

def loadA (n : Nat) (ag : Bool) : AV → Pr AV
  | .ptr i u o => .get (.b i) fun
    | .box u' cs => if u = u' then .ofOption (cellsVal ag cs o n) else .fail
    | _ => .fail
  | .rop cs o => .ofOption (cellsVal ag cs o n)
  | .rowp r u k o => .get (.r r) fun
    | .row u' _ xs => if u = u' then .ofOption ((xs[k]?).bind fun cs => cellsVal ag cs o n) else .fail
    | _ => .fail
  | _ => .fail

def storeA (n : Nat) (a : AV) (xs : List AV) : Pr Eff :=
  if xs.length = n ∧ xs.all one = true then
    match a with
    | .ptr i u o => .get (.b i) fun
      | .box u' cs => if u = u' ∧ o + n ≤ cs.length then .ret { wr := [(.b i, .box u (splice cs o xs))] } else .fail
      | _ => .fail
    | .rowp r u k o => .get (.r r) fun
      | .row u' sz ys => if u = u' then match ys[k]? with
        | some cs => if o + n ≤ cs.length then .ret { wr := [(.r r, .row u sz (ys.set k (splice cs o xs)))] } else .fail
        | none => .fail
        else .fail
      | _ => .fail
    | _ => .fail
  else .fail

def appA (e : OpE) (sz bytes : Nat) (x : AV) (ys : List (List AV)) : Pr Eff :=
  if ys.all (fun c => c.length == sz && c.all one) = true then
    match x with
    | .nils => if ys.length = 0 then .ret { v := .nils } else if ys.length ≤ roomMax ∧ ys.length * bytes ≤ roomMax then .ret { v := .own e.nr e.u 0 ys.length, nw := [.row e.u sz ys] } else .fail
    | .emp => if ys.length = 0 then .ret { v := .emp } else if ys.length ≤ roomMax ∧ ys.length * bytes ≤ roomMax then .ret { v := .own e.nr e.u 0 ys.length, nw := [.row e.u sz ys] } else .fail
    | .own r u s n => .get (.r r) fun
      | .row u' sz' xs =>
        if u = u' ∧ sz' = sz ∧ s + n ≤ xs.length then
          if s + n + ys.length ≤ xs.length then .ret { v := .own r u s (n + ys.length), wr := [(.r r, .row u sz (xs.take (s + n) ++ ys ++ xs.drop (s + n + ys.length)))] }
          else if n + ys.length ≤ roomMax ∧ (n + ys.length) * bytes ≤ roomMax then .ret { v := .own r e.u 0 (n + ys.length), wr := [(.r r, .row e.u sz ((xs.drop s).take n ++ ys))] }
          else .fail
        else .fail
      | _ => .fail
    | _ => .fail
  else .fail

def lookA (zero : AV) : List (Int × AV) → Int → AV × Bool
  | [], _ => (zero, false)
  | (k, x) :: es, n => if k = n then (x, true) else lookA zero es n

def bestA (mx : Bool) : List AV → Option AV
  | [.v (.int k a)] => some (.v (.int k a))
  | .v (.int k a) :: .v (.int k' b) :: rest => if k = k' then bestA mx (.v (.int k (if mx then (if b > a then b else a) else (if b < a then b else a))) :: rest) else none
  | _ => none
termination_by l => l.length

section
variable (iso : Nat → List AV → Option AV)

/-- One operation that asks the heap alone (no call that is handed the heap). -/
def aop (e : OpE) (F : List AV) : AOp → Pr Eff
  | .mv x => .ret { v := ev F x }
  | .pick c a b => match ev F c with
    | .v (.bool t) => if t then .ret { v := ev F a } else .ret { v := ev F b }
    | _ => .fail
  | .box k x => match cells (ev F x) with
    | some cs => .ret { v := .ptr (e.nb + k) e.u 0, wr := [(.b (e.nb + k), .box e.u cs)] }
    | none => .fail
  | .alloc k zero => .ret { v := .ptr (e.nb + k) e.u 0, wr := [(.b (e.nb + k), .box e.u zero)] }
  | .load n ag a => (loadA n ag (ev F a)).map fun v => { v }
  | .store n a x => match cells (ev F x) with
    | some cs => storeA n (ev F a) cs
    | none => .fail
  | .fa off x => match ev F x with
    | .ptr i u o => .ret { v := .ptr i u (o + off) }
    | .rop cs o => .ret { v := .rop cs (o + off) }
    | .rowp r u k o => .ret { v := .rowp r u k (o + off) }
    | _ => .fail
  | .fld off n ag x => match ev F x with
    | .agg cs => .ofOption ((cellsVal ag cs off n).map fun v => { v })
    | _ => .fail
  | .ia sz x i => match ev F x, ev F i with
    | .ro xs, .v (.int _ n) => if 0 ≤ n then match xs[n.toNat]? with
      | some cs => if cs.length = sz then .ret { v := .rop cs 0 } else .fail
      | none => .fail
      else .fail
    | .own r u s len, .v (.int _ n) => .get (.r r) fun
      | .row u' sz' xs => if u = u' ∧ sz' = sz ∧ s + len ≤ xs.length ∧ 0 ≤ n ∧ n < len then .ret { v := .rowp r u (s + n.toNat) 0 } else .fail
      | _ => .fail
    | _, _ => .fail
  | .ix x i => match ev F x, ev F i with
    | .v (.string s), .v (.int _ n) => if 0 ≤ n then match s[n.toNat]? with
      | some b => .ret { v := .v (.int .u8 b.toNat) }
      | none => .fail
      else .fail
    | _, _ => .fail
  | .sls x lo hi => match ev F x with
    | .v (.string s) => match bnd F 0 lo, bnd F s.size hi with
      | some l, some h => if l ≤ h ∧ h ≤ s.size then .ret { v := .v (.string (s.extract l h)) } else .fail
      | _, _ => .fail
    | _ => .fail
  | .sl sz x lo hi => (slA F sz (ev F x) lo hi).map fun v => { v }
  | .sl3 sz x lo hi mx => match ev F x, bnd F 0 (some lo), bnd F 0 (some hi), bnd F 0 (some mx) with
    | .ro xs, some l, some h, some m => if l ≤ h ∧ h ≤ m ∧ m ≤ xs.length ∧ xs.all (fun c => c.length == sz) = true then .ret { v := if m = l then (if xs.length = 0 then .top else .emp) else .ro ((xs.take h).drop l) } else .fail
    | .own r u s _, some l, some h, some m => .get (.r r) fun
      | .row u' sz' xs => if u = u' ∧ sz' = sz ∧ l ≤ h ∧ h ≤ m ∧ s + m ≤ xs.length then .ret { v := if m = l then .emp else .top } else .fail
      | _ => .fail
    | .nils, some 0, some 0, some 0 => .ret { v := .nils }
    | _, _, _, _ => .fail
  | .build zero parts => .ofOption ((fillA zero (parts.map fun p => (p.1, p.2.1, ev F p.2.2))).map fun cs => { v := .agg cs })
  | .bsl sz n zero parts =>
    if n = 0 then (if parts.length = 0 then .ret { v := .emp } else .fail) else
    match fillA ((List.replicate n zero).flatten) (parts.map fun p => (p.1 * sz, sz, ev F p.2)) with
    | some cs => if cs.all (fun a => cln 6 a && one a) = true then .ret { v := .ro ((List.range n).map fun i => (cs.drop (i * sz)).take sz) } else .fail
    | none => .fail
  | .bin op x y => .ofOption ((binV op (ev F x) (ev F y)).map fun v => { v })
  | .beq neg x y => match ev F x, ev F y with
    | .v (.bool a), .v (.bool b) => .ret { v := .b (if neg then !(a == b) else a == b) }
    | _, _ => .fail
  | .eqs neg ks x y => match ev F x, ev F y with
    | .agg xs, .agg ys => .ofOption ((eqAll ks xs ys).map fun t => { v := .b (if neg then !t else t) })
    | _, _ => .fail
  | .nilq neg x => match ev F x with
    | .em t => .ret { v := .b (if neg then !t else t) }
    | .emp => .ret { v := .b neg }
    | .ro (_ :: _) => .ret { v := .b neg }
    | .own _ _ _ _ => .ret { v := .b neg }
    | _ => .fail
  | .un op x => match op, ev F x with
    | .neg, .v (.int k n) => .ret { v := .v (.int k (k.wrap (0 - n))) }
    | .not, .v (.bool t) => .ret { v := .b !t }
    | _, _ => .fail
  | .cvi k x => match ev F x with
    | .v (.int _ n) => .ret { v := .v (.int k (k.wrap n)) }
    | _ => .fail
  | .ext i x => match ev F x with
    | .tup vs => match vs[i]? with
      | some v => .ret { v }
      | none => .fail
    | _ => .fail
  | .nilc x => match ev F x with
    | .ptr i u o => .ret { v := .ptr i u o }
    | .rop cs o => .ret { v := .rop cs o }
    | .rowp r u k o => .ret { v := .rowp r u k o }
    | .fn f cs => .ret { v := .fn f cs }
    | _ => .fail
  | .len str x => if str then match ev F x with
      | .v (.string s) => .ret { v := .i s.size }
      | _ => .fail
    else match ev F x with
      | .nils => .ret { v := .i 0 }
      | .emp => .ret { v := .i 0 }
      | .ro xs => .ret { v := .i xs.length }
      | .own _ _ _ n => .ret { v := .i n }
      | _ => .fail
  | .app sz bytes x y => (items sz (ev F y)).bind fun ys => appA e sz bytes (ev F x) ys
  | .clr sz zero x => match ev F x with
    | .nils => .ret {}
    | .emp => .ret {}
    | .own r u s n => .get (.r r) fun
      | .row u' sz' xs => if u = u' ∧ sz' = sz ∧ s + n ≤ xs.length then .ret { wr := [(.r r, .row u sz (xs.take s ++ List.replicate n zero ++ xs.drop (s + n)))] } else .fail
      | _ => .fail
    | _ => .fail
  | .mm mx xs => .ofOption ((bestA mx (xs.map (ev F))).map fun v => { v })
  | .mkf f caps => .ret { v := .fn f (caps.map (ev F)) }
  | .mkm => .ret { v := .mp e.nr e.u, nw := [.map e.u []] }
  | .lk zero ok m k => match ev F m, ev F k with
    | .mp r u, .v (.int .i64 n) => .get (.r r) fun
      | .map u' es => if u = u' then .ret { v := if ok then .tup [(lookA zero es n).1, .b (lookA zero es n).2] else (lookA zero es n).1 } else .fail
      | _ => .fail
    | _, _ => .fail
  | .mu m k x => match ev F m, ev F k with
    | .mp r u, .v (.int .i64 n) => .get (.r r) fun
      | .map u' es => if u = u' then .ret { wr := [(.r r, .map u ((n, ev F x) :: es))] } else .fail
      | _ => .fail
    | _, _ => .fail
  | .mks sz bytes zero n => match ev F n with
    | .v (.int .i64 k) => if 0 ≤ k ∧ k.toNat ≤ roomMax ∧ k.toNat * bytes ≤ roomMax then .ret { v := .own e.nr e.u 0 k.toNat, nw := [.row e.u sz (List.replicate k.toNat zero)] } else .fail
    | _ => .fail
  | .call mode f args =>
    if mode = 0 then
      if (args.map (ev F)).all (cln 6) = true then match iso f (args.map fun x => nz 6 (ev F x)) with
        | some v => .ret { v }
        | none => .fail
      else (Pr.mapP (dr 6) (args.map (ev F))).bind fun as => match iso f as with
        | some v => if flat 6 v = true then .ret { v } else .fail
        | none => .fail
    else .fail
  | .callv _ _ => .fail
end

structure AOper where
  d : Option Nat
  op : AOp
  g : Option (Nat × Bool)

/-- What an operation looks at. -/
def AOp.opds : AOp → List Opd
  | .mv x => [x]
  | .pick c a b => [c, a, b]
  | .box _ x => [x]
  | .alloc _ _ => []
  | .load _ _ a => [a]
  | .store _ a x => [a, x]
  | .fa _ x => [x]
  | .fld _ _ _ x => [x]
  | .ia _ x i => [x, i]
  | .ix x i => [x, i]
  | .sls x lo hi => x :: (lo.toList ++ hi.toList)
  | .sl _ x lo hi => x :: (lo.toList ++ hi.toList)
  | .sl3 _ x lo hi mx => [x, lo, hi, mx]
  | .build _ parts => parts.map (·.2.2)
  | .bsl _ _ _ parts => parts.map (·.2)
  | .bin _ x y => [x, y]
  | .beq _ x y => [x, y]
  | .eqs _ _ x y => [x, y]
  | .nilq _ x => [x]
  | .un _ x => [x]
  | .cvi _ x => [x]
  | .ext _ x => [x]
  | .nilc x => [x]
  | .len _ x => [x]
  | .app _ _ x y => [x, y]
  | .clr _ _ x => [x]
  | .mm _ xs => xs
  | .mkf _ caps => caps
  | .mkm => []
  | .lk _ _ m k => [m, k]
  | .mu m k x => [m, k, x]
  | .mks _ _ _ n => [n]
  | .call _ _ args => args
  | .callv x args => x :: args

def Opd.is (d : Nat) : Opd → Bool
  | .t i => i == d
  | _ => false

/-- It looks at the temporary d. -/
def AOper.looks (o : AOper) (d : Nat) : Bool :=
  o.op.opds.any (Opd.is d) || (match o.g with
    | some (t, _) => t == d
    | none => false)

def AOper.apart (x y : AOper) : Bool :=
  (match x.d with
    | some d => !y.looks d && y.d != some d
    | none => true) &&
  (match y.d with
    | some d => !x.looks d
    | none => true)

abbrev St := List AV × Hp

def put (F : List AV) (d : Option Nat) (x : AV) : List AV :=
  match d with
  | some d => F.set d x
  | none => F

def wantedA (F : List AV) : Option (Nat × Bool) → Option Bool
  | none => some true
  | some (t, w) => match F.getD t .top with
    | .v (.bool x) => some (x == w)
    | .tup [] => some false
    | _ => none

section
variable (call : Nat → List AV → Hp → Option (AV × Hp))

/-- A call that is handed nothing of the caller's memory: what it hands back is read to the bottom. -/
def isoOf (f : Nat) (args : List AV) : Option AV :=
  match call f args ⟨[], [], 0⟩ with
  | some (v, h) => (dr 6 v).run h
  | none => none

/-- One operation, in the text's order. -/
def step1 (nb u : Nat) (o : AOper) (s : St) : Option St :=
  match o.op with
  | .call 1 f args => match call f (args.map (ev s.1)) { s.2 with bs := [] } with
    | some (v, h) => some (put s.1 o.d v, { h with bs := s.2.bs })
    | none => none
  | .call 2 f args => match call f (args.map (ev s.1)) s.2 with
    | some (v, h) => some (put s.1 o.d v, h)
    | none => none
  | .callv x args => match ev s.1 x with
    | .fn f caps => match call f (args.map (ev s.1) ++ caps) s.2 with
      | some (v, h) => some (put s.1 o.d v, h)
      | none => none
    | _ => none
  | op => match (aop (isoOf call) ⟨nb, u, s.2.rs.length⟩ s.1 op).run s.2 with
    | some ef => some (put s.1 o.d ef.v, s.2.app ef)
    | none => none

def runOps (nb u : Nat) : List AOper → Nat → St → Option St
  | [], _, s => some s
  | o :: os, i, s => match wantedA s.1 o.g with
    | some true => match step1 call nb (u + i) o s with
      | some s' => runOps nb u os (i + 1) s'
      | none => none
    | some false => runOps nb u os (i + 1) (put s.1 o.d (.tup []), s.2)
    | none => none

/-- What an operation has read, and turned. -/
abbrev FP := List Ref × List Ref

/-- One operation of a region whose order is open. -/
def step2 (nb u nr : Nat) (o : AOper) (s : St) : Option (St × FP) :=
  match wantedA s.1 o.g with
  | some true =>
    match (aop (isoOf call) ⟨nb, u, nr⟩ s.1 o.op).run s.2 with
    | some ef => if ef.nw.length ≤ 1 ∧ (ef.nw = [] ∨ s.2.rs.length = nr) then some ((put s.1 o.d ef.v, s.2.app ef), ((aop (isoOf call) ⟨nb, u, nr⟩ s.1 o.op).log s.2, ef.wr.map (·.1) ++ ef.nw.map fun _ => .r nr)) else none
    | none => none
  | some false => some ((put s.1 o.d (.tup []), s.2), ([], []))
  | none => none

def runD (nb u nr : Nat) : List AOper → Nat → St → Option (St × List FP)
  | [], _, s => some (s, [])
  | o :: os, i, s => match step2 call nb (u + i) nr o s with
    | some (s', fp) => match runD nb u nr os (i + 1) s' with
      | some (s'', fps) => some (s'', fp :: fps)
      | none => none
    | none => none

def apartFP (x y : FP) : Bool := x.2.all (fun r => !(y.1.contains r || y.2.contains r)) && y.2.all (fun r => !x.1.contains r)

def clash (fps : List FP) (prs : List (Nat × Nat)) : Bool := prs.all fun p => apartFP (fps.getD p.1 ([], [])) (fps.getD p.2 ([], []))

inductive AC where
  | skip
  | reg (nb : Nat) (ops : List AOper)
  | dreg (nb : Nat) (ops : List AOper) (prs : List (Nat × Nat))
  | seq (a b : AC)
  | cond (c : Opd) (a b : AC)
  | block (id : Nat) (a : AC)
  | loop (keep : List Bool) (a : AC)
  | exit (id : Nat)
  | ret

inductive Ex where
  | nrm
  | ex (id : Nat)
  | ret

/-- Without what nobody looks at any more: an annotation, of which nothing hangs. -/
def mask : List Bool → List AV → List AV
  | [], F => F
  | _, [] => []
  | b :: bs, x :: F => (if b then x else .top) :: mask bs F

/-- A code without annotations. -/
def AC.erase : AC → AC
  | .seq a b => .seq a.erase b.erase
  | .cond c a b => .cond c a.erase b.erase
  | .block id a => .block id a.erase
  | .loop _ a => .loop [] a.erase
  | a => a

def trunc (k : Nat) (m : List Bool) (s : St) : St := (mask m s.1, { s.2 with bs := s.2.bs.take k })

def iter (f : St → Option (Ex × St)) (k : Nat) (m : List Bool) : Nat → St → Option (Ex × St)
  | 0, _ => none
  | n + 1, s => match f s with
    | some (.nrm, s') => iter f k m n (trunc k m s')
    | r => r

def opened (nb n : Nat) (h : Hp) : Hp := { h with bs := h.bs ++ List.replicate nb .dead, nx := h.nx + n }

def acode (n : Nat) : AC → St → Option (Ex × St)
  | .skip, s => some (.nrm, s)
  | .reg nb ops, s => match runOps call s.2.bs.length s.2.nx ops 0 (s.1, opened nb ops.length s.2) with
    | some s' => some (.nrm, s')
    | none => none
  | .dreg nb ops prs, s => match runD call s.2.bs.length s.2.nx s.2.rs.length ops 0 (s.1, opened nb ops.length s.2) with
    | some (s', fps) => if clash fps prs = true then some (.nrm, s') else none
    | none => none
  | .seq a b, s => match acode n a s with
    | some (.nrm, s') => acode n b s'
    | r => r
  | .cond c a b, s => match ev s.1 c with
    | .v (.bool t) => if t then acode n a s else acode n b s
    | _ => none
  | .block id a, s => match acode n a s with
    | some (.ex id', s') => if id' = id then some (.nrm, s') else some (.ex id', s')
    | r => r
  | .loop m a, s => iter (acode n a) s.2.bs.length m n (mask m s.1, s.2)
  | .exit id, s => some (.ex id, s)
  | .ret, s => some (.ret, s)
end

inductive RV where
  | tmp (t : Nat)
  | cell (t n : Nat) (ag : Bool)

def rvA (F : List AV) (h : Hp) : RV → Option AV
  | .tmp t => some (F.getD t .top)
  | .cell t n ag => (loadA n ag (F.getD t .top)).run h

def resA (F : List AV) (h : Hp) : List RV → Option AV
  | [r] => rvA F h r
  | rs => (rs.mapM (rvA F h)).map .tup

structure AFn where
  nt : Nat
  res : List RV
  code : AC

section
variable (code : Nat → Option AFn) (ext : Nat → Option (List AV → Hp → Option (AV × Hp)))

def absCall : Nat → Nat → List AV → Hp → Option (AV × Hp)
  | 0, _, _, _ => none
  | n + 1, f, args, h => match ext f with
    | some e => e args h
    | none => match code f with
      | none => none
      | some fn => match acode (absCall n) n fn.code (args ++ List.replicate (fn.nt - args.length) .top, h) with
        | some (.ex _, _) => none
        | some (_, (F, h')) => match resA F h' fn.res with
          | some v => some (v, { h' with bs := h'.bs.take h.bs.length })
          | none => none
        | none => none
end

end Go.Pv

namespace Go.Pv
open Go

/-- A scalar. -/
def sc : Value → Bool
  | .bool _ => true
  | .int _ _ => true
  | .string _ => true
  | .pointer none => true
  | .map none => true
  | .nilFunc => true
  | .nilIface => true
  | _ => false

structure Loc where
  blk : Nat
  off : Nat
  cap : Nat
  sz : Nat

abbrev Locs := Nat → Option Loc
abbrev Imm := Nat → Option Obj

/-- A cell of the memory that nobody writes. -/
def immCell (imm : Imm) (b o : Nat) : Option Value :=
  match imm b with
  | some (.cells c _ _) => c[o]?
  | _ => none

/-- What a value that leads to nothing of the call's own stands for. -/
inductive Ro (imm : Imm) : AV → Value → Prop
  | v {x : Value} : sc x = true → Ro imm (.v x) x
  | nils {A : Option Addr} : Ro imm .nils (.slice A 0 0)
  | em {A : Option Addr} {c : Nat} {b : Bool} : A.isNone = b → Ro imm (.em b) (.slice A 0 c)
  | emp {b o : Nat} : Ro imm .emp (.slice (some ⟨b, o, none⟩) 0 0)
  | ro {sz : Nat} {xs : List (List AV)} {A : Option Addr} {c : Nat} (val : Nat → Nat → Value) : xs.length ≤ c → (∀ x ∈ xs, x.length = sz) →
      (0 < xs.length → ∃ b o, A = some ⟨b, o, none⟩ ∧ ∀ i j, i < xs.length → j < sz → immCell imm b (o + i * sz + j) = some (val i j)) →
      (∀ (i j : Nat) (cs : List AV) (a : AV), xs[i]? = some cs → cs[j]? = some a → Ro imm a (val i j)) → Ro imm (.ro xs) (.slice A xs.length c)
  | rop {cs : List AV} {o b o0 : Nat} (val : Nat → Value) : (∀ j, j < cs.length → immCell imm b (o0 + j) = some (val j)) →
      (∀ (j : Nat) (a : AV), cs[j]? = some a → Ro imm a (val j)) → Ro imm (.rop cs o) (.pointer (some ⟨b, o0 + o, none⟩))
  | agg {cs : List AV} {arr : Array Value} : cs.length = arr.size → (∀ (j : Nat) (a : AV) (x : Value), cs[j]? = some a → arr[j]? = some x → Ro imm a x) → Ro imm (.agg cs) (.agg arr)
  | tup {cs : List AV} {arr : Array Value} : cs.length = arr.size → (∀ (j : Nat) (a : AV) (x : Value), cs[j]? = some a → arr[j]? = some x → Ro imm a x) → Ro imm (.tup cs) (.tuple arr)
  | fn {f : Nat} {cs : List AV} {arr : Array Value} : cs.length = arr.size → (∀ (j : Nat) (a : AV) (x : Value), cs[j]? = some a → arr[j]? = some x → Ro imm a x) → Ro imm (.fn f cs) (.func (.func f) #[] arr)
  | top {x : Value} : Ro imm .top x

/-- What a value stands for. -/
inductive Rel (imm : Imm) (L : Locs) : AV → Value → Prop
  | of {a : AV} {x : Value} : Ro imm a x → Rel imm L a x
  | own {r u s n : Nat} {l : Loc} {a : Addr} : L u = some l → s + n ≤ l.cap → (s < l.cap → a = ⟨l.blk, l.off + s * l.sz, none⟩) → a.spot = none →
      Rel imm L (.own r u s n) (.slice (some a) n (l.cap - s))
  | ptr {i u o : Nat} {l : Loc} : L u = some l → Rel imm L (.ptr i u o) (.pointer (some ⟨l.blk, l.off + o, none⟩))
  | rowp {r u k o : Nat} {l : Loc} : L u = some l → Rel imm L (.rowp r u k o) (.pointer (some ⟨l.blk, l.off + k * l.sz + o, none⟩))
  | mp {r u : Nat} {l : Loc} : L u = some l → Rel imm L (.mp r u) (.map (some l.blk))
  | agg {cs : List AV} {arr : Array Value} : cs.length = arr.size → (∀ (j : Nat) (a : AV) (x : Value), cs[j]? = some a → arr[j]? = some x → Rel imm L a x) → Rel imm L (.agg cs) (.agg arr)
  | tup {cs : List AV} {arr : Array Value} : cs.length = arr.size → (∀ (j : Nat) (a : AV) (x : Value), cs[j]? = some a → arr[j]? = some x → Rel imm L a x) → Rel imm L (.tup cs) (.tuple arr)
  | fn {f : Nat} {cs : List AV} {arr : Array Value} : cs.length = arr.size → (∀ (j : Nat) (a : AV) (x : Value), cs[j]? = some a → arr[j]? = some x → Rel imm L a x) → Rel imm L (.fn f cs) (.func (.func f) #[] arr)

/-- A slice without elements. -/
theorem Ro.nil0 {imm : Imm} (A : Option Addr) (c : Nat) : Ro imm (.ro []) (.slice A 0 c) :=
  Ro.ro (sz := 0) (xs := []) (fun _ _ => undef) (Nat.zero_le _) (fun _ h => by cases h) (fun h => absurd h (by simp)) (fun i j cs a h => by simp at h)

/-- What an operation leaves that is passed over. -/
theorem Ro.undef {imm : Imm} : Ro imm (.tup []) Go.undef := Ro.tup rfl fun j a x h => by simp at h

def ImmLe (imm imm' : Imm) : Prop := ∀ b o, imm b = some o → imm' b = some o
def LLe (L L' : Locs) : Prop := ∀ u l, L u = some l → L' u = some l

theorem ImmLe.refl (imm : Imm) : ImmLe imm imm := fun _ _ h => h
theorem ImmLe.trans {a b c : Imm} (h : ImmLe a b) (k : ImmLe b c) : ImmLe a c := fun x o hx => k x o (h x o hx)
theorem LLe.refl (L : Locs) : LLe L L := fun _ _ h => h
theorem LLe.trans {a b c : Locs} (h : LLe a b) (k : LLe b c) : LLe a c := fun x o hx => k x o (h x o hx)

theorem immCell_mono {imm imm' : Imm} (h : ImmLe imm imm') {b o : Nat} {x : Value} (hc : immCell imm b o = some x) : immCell imm' b o = some x := by
  unfold immCell at *
  cases hb : imm b with
  | none => rw [hb] at hc; cases hc
  | some ob => rw [hb] at hc; rw [h b ob hb]; exact hc

theorem Ro.mono {imm imm' : Imm} (hi : ImmLe imm imm') {a : AV} {x : Value} (h : Ro imm a x) : Ro imm' a x := by
  induction h with
  | v h => exact .v h
  | nils => exact .nils
  | em h => exact .em h
  | emp => exact .emp
  | ro val h1 h2 h3 _ ih =>
    refine .ro val h1 h2 (fun h0 => ?_) ih
    obtain ⟨b, o, e, hc⟩ := h3 h0
    exact ⟨b, o, e, fun i j hi' hj => immCell_mono hi (hc i j hi' hj)⟩
  | rop val h1 _ ih => exact .rop val (fun j hj => immCell_mono hi (h1 j hj)) ih
  | agg h1 _ ih => exact .agg h1 ih
  | tup h1 _ ih => exact .tup h1 ih
  | fn h1 _ ih => exact .fn h1 ih
  | top => exact .top

theorem Rel.mono {imm imm' : Imm} {L L' : Locs} (hi : ImmLe imm imm') (hl : LLe L L') {a : AV} {x : Value} (h : Rel imm L a x) : Rel imm' L' a x := by
  induction h with
  | of h => exact .of (h.mono hi)
  | own h1 h2 h3 h4 => exact .own (hl _ _ h1) h2 h3 h4
  | ptr h => exact .ptr (hl _ _ h)
  | rowp h => exact .rowp (hl _ _ h)
  | mp h => exact .mp (hl _ _ h)
  | agg h1 _ ih => exact .agg h1 ih
  | tup h1 _ ih => exact .tup h1 ih
  | fn h1 _ ih => exact .fn h1 ih

/-- A list of values against an array of the model's. -/
def Rels (imm : Imm) (L : Locs) (cs : List AV) (arr : Array Value) : Prop := cs.length = arr.size ∧ ∀ (j : Nat) (a : AV) (x : Value), cs[j]? = some a → arr[j]? = some x → Rel imm L a x

theorem Rels.mono {imm imm' : Imm} {L L' : Locs} (hi : ImmLe imm imm') (hl : LLe L L') {cs : List AV} {arr : Array Value} (h : Rels imm L cs arr) : Rels imm' L' cs arr :=
  ⟨h.1, fun j a x ha hx => (h.2 j a x ha hx).mono hi hl⟩

/-! ### Inversions -/
section
variable {imm : Imm} {L : Locs}
theorem Rel.v_inv {x y : Value} (h : Rel imm L (.v x) y) : y = x ∧ sc x = true := by
  cases h with
  | of h => cases h with
    | v h => exact ⟨rfl, h⟩
theorem Rel.nils_inv {y : Value} (h : Rel imm L .nils y) : ∃ A, y = .slice A 0 0 := by
  cases h with
  | of h => cases h; exact ⟨_, rfl⟩
theorem Rel.em_inv {b : Bool} {y : Value} (h : Rel imm L (.em b) y) : ∃ A c, y = .slice A 0 c ∧ A.isNone = b := by
  cases h with
  | of h => cases h with
    | em h => exact ⟨_, _, rfl, h⟩
theorem Rel.emp_inv {y : Value} (h : Rel imm L .emp y) : ∃ b o, y = .slice (some ⟨b, o, none⟩) 0 0 := by
  cases h with
  | of h => cases h with
    | emp => exact ⟨_, _, rfl⟩
theorem Rel.ro_inv {xs : List (List AV)} {y : Value} (h : Rel imm L (.ro xs) y) : Ro imm (.ro xs) y := by
  cases h with
  | of h => exact h
theorem Rel.rop_inv {cs : List AV} {o : Nat} {y : Value} (h : Rel imm L (.rop cs o) y) : Ro imm (.rop cs o) y := by
  cases h with
  | of h => exact h
theorem Rel.own_inv {r u s n : Nat} {y : Value} (h : Rel imm L (.own r u s n) y) :
    ∃ l a, L u = some l ∧ s + n ≤ l.cap ∧ (s < l.cap → a = ⟨l.blk, l.off + s * l.sz, none⟩) ∧ a.spot = none ∧ y = .slice (some a) n (l.cap - s) := by
  cases h with
  | of h => cases h
  | own h1 h2 h3 h4 => exact ⟨_, _, h1, h2, h3, h4, rfl⟩
theorem Rel.ptr_inv {i u o : Nat} {y : Value} (h : Rel imm L (.ptr i u o) y) : ∃ l, L u = some l ∧ y = .pointer (some ⟨l.blk, l.off + o, none⟩) := by
  cases h with
  | of h => cases h
  | ptr h => exact ⟨_, h, rfl⟩
theorem Rel.rowp_inv {r u k o : Nat} {y : Value} (h : Rel imm L (.rowp r u k o) y) : ∃ l, L u = some l ∧ y = .pointer (some ⟨l.blk, l.off + k * l.sz + o, none⟩) := by
  cases h with
  | of h => cases h
  | rowp h => exact ⟨_, h, rfl⟩
theorem Rel.mp_inv {r u : Nat} {y : Value} (h : Rel imm L (.mp r u) y) : ∃ l, L u = some l ∧ y = .map (some l.blk) := by
  cases h with
  | of h => cases h
  | mp h => exact ⟨_, h, rfl⟩
theorem Rel.agg_inv {cs : List AV} {y : Value} (h : Rel imm L (.agg cs) y) : ∃ arr, y = .agg arr ∧ Rels imm L cs arr := by
  cases h with
  | of h => cases h with
    | agg h1 h2 => exact ⟨_, rfl, h1, fun j a x ha hx => .of (h2 j a x ha hx)⟩
  | agg h1 h2 => exact ⟨_, rfl, h1, h2⟩
theorem Rel.tup_inv {cs : List AV} {y : Value} (h : Rel imm L (.tup cs) y) : ∃ arr, y = .tuple arr ∧ Rels imm L cs arr := by
  cases h with
  | of h => cases h with
    | tup h1 h2 => exact ⟨_, rfl, h1, fun j a x ha hx => .of (h2 j a x ha hx)⟩
  | tup h1 h2 => exact ⟨_, rfl, h1, h2⟩
theorem Rel.fn_inv {f : Nat} {cs : List AV} {y : Value} (h : Rel imm L (.fn f cs) y) : ∃ arr, y = .func (.func f) #[] arr ∧ Rels imm L cs arr := by
  cases h with
  | of h => cases h with
    | fn h1 h2 => exact ⟨_, rfl, h1, fun j a x ha hx => .of (h2 j a x ha hx)⟩
  | fn h1 h2 => exact ⟨_, rfl, h1, h2⟩
end

/-! ### The heap -/
def Ob.mark : Ob → Option Nat
  | .box u _ => some u
  | .row u _ _ => some u
  | .map u _ => some u
  | .dead => none

/-- The first entry at a key. -/
def atKey (es : List MapEntry) (n : Int) : Option Value :=
  match es with
  | [] => none
  | e :: es => match e.key with
    | .int .i64 k => if k = n then some e.val else atKey es n
    | _ => none

def lookO : List (Int × AV) → Int → Option AV
  | [], _ => none
  | (k, x) :: es, n => if k = n then some x else lookO es n

def intKeys (es : List MapEntry) : Prop := ∀ e ∈ es, ∃ n, e.key = .int .i64 n

def MapRel (imm : Imm) (L : Locs) (es : List (Int × AV)) (ms : List MapEntry) : Prop :=
  intKeys ms ∧ ∀ n, match lookO es n, atKey ms n with
    | none, none => True
    | some a, some x => Rel imm L a x
    | _, _ => False

def ObRel (imm : Imm) (L : Locs) (w : World) : Ob → Prop
  | .box u cs => ∃ l arr T, L u = some l ∧ l.off = 0 ∧ w.heap[l.blk]? = some (.cells arr T (0, 0)) ∧ Rels imm L cs arr
  | .row u sz xs => ∃ l arr T, L u = some l ∧ l.sz = sz ∧ w.heap[l.blk]? = some (.cells arr T (0, 0)) ∧ l.off + l.cap * sz ≤ arr.size ∧ xs.length ≤ l.cap ∧
      ∀ i cs, xs[i]? = some cs → cs.length = sz ∧ ∀ j a, cs[j]? = some a → ∃ x, arr[l.off + i * sz + j]? = some x ∧ Rel imm L a x
  | .map u es => ∃ l ms c, L u = some l ∧ w.heap[l.blk]? = some (.map ms c) ∧ MapRel imm L es ms.toList
  | .dead => True

structure Inv (imm : Imm) (L : Locs) (h : Hp) (w : World) : Prop where
  fit : ∀ b o, imm b = some o → w.heap[b]? = some o
  nx : ∀ u, h.nx ≤ u → L u = none
  obs : ∀ x, ObRel imm L w (h.get x)
  apart : ∀ x y u v l m, x ≠ y → (h.get x).mark = some u → (h.get y).mark = some v → L u = some l → L v = some m → l.blk ≠ m.blk
  free : ∀ x u l, (h.get x).mark = some u → L u = some l → imm l.blk = none

/-- The blocks that the heap's objects lie in. -/
def ownB (L : Locs) (h : Hp) (b : Nat) : Prop := ∃ x u l, (h.get x).mark = some u ∧ L u = some l ∧ l.blk = b

structure Keep (own : Nat → Prop) (w w' : World) : Prop where
  os : w'.os = w.os
  tape : w'.tape = w.tape
  output : w'.output = w.output
  size : w.heap.size ≤ w'.heap.size
  block : ∀ k, k < w.heap.size → ¬ own k → w'.heap[k]? = w.heap[k]?

theorem Keep.refl (own : Nat → Prop) (w : World) : Keep own w w := ⟨rfl, rfl, rfl, Nat.le_refl _, fun _ _ _ => rfl⟩

/-- From one state to a later one. 'N': marks from N on may have been given out. -/
structure Step (N : Nat → Prop) (imm : Imm) (L : Locs) (h : Hp) (w : World) (imm' : Imm) (L' : Locs) (h' : Hp) (w' : World) : Prop where
  le : ImmLe imm imm'
  leN : ∀ b o, imm' b = some o → imm b = some o ∨ w.heap.size ≤ b
  lle : LLe L L'
  lleN : ∀ u, ¬ N u → L' u = L u
  own : ∀ b, ownB L' h' b → ownB L h b ∨ w.heap.size ≤ b
  keep : Keep (ownB L h) w w'

theorem Step.refl (N : Nat → Prop) (imm : Imm) (L : Locs) (h : Hp) (w : World) : Step N imm L h w imm L h w :=
  ⟨.refl _, fun _ _ h => .inl h, .refl _, fun _ _ => rfl, fun _ h => .inl h, .refl _ _⟩

theorem Step.trans {N : Nat → Prop} {i1 i2 i3 : Imm} {L1 L2 L3 : Locs} {h1 h2 h3 : Hp} {w1 w2 w3 : World} (a : Step N i1 L1 h1 w1 i2 L2 h2 w2) (b : Step N i2 L2 h2 w2 i3 L3 h3 w3) :
    Step N i1 L1 h1 w1 i3 L3 h3 w3 where
  le := a.le.trans b.le
  leN := fun x o h => by
    rcases b.leN x o h with h | h
    · exact a.leN x o h
    · exact .inr (Nat.le_trans a.keep.size h)
  lle := a.lle.trans b.lle
  lleN := fun u hu => (b.lleN u hu).trans (a.lleN u hu)
  own := fun x h => by
    rcases b.own x h with h | h
    · exact a.own x h
    · exact .inr (Nat.le_trans a.keep.size h)
  keep := by
    refine ⟨b.keep.os.trans a.keep.os, b.keep.tape.trans a.keep.tape, b.keep.output.trans a.keep.output, Nat.le_trans a.keep.size b.keep.size, fun k hk hn => ?_⟩
    refine (b.keep.block k (Nat.lt_of_lt_of_le hk a.keep.size) fun ho => ?_).trans (a.keep.block k hk hn)
    rcases a.own k ho with h | h
    · exact hn h
    · omega

theorem Step.weaken {N N' : Nat → Prop} {i1 i2 : Imm} {L1 L2 : Locs} {h1 h2 : Hp} {w1 w2 : World} (a : Step N i1 L1 h1 w1 i2 L2 h2 w2) (hN : ∀ u, N u → N' u) : Step N' i1 L1 h1 w1 i2 L2 h2 w2 :=
  ⟨a.le, a.leN, a.lle, fun u hu => a.lleN u fun h => hu (hN u h), a.own, a.keep⟩

end Go.Pv

namespace Go.Pv
open Go

def ofV1 : Value → AV
  | .bool b => .v (.bool b)
  | .int k n => .v (.int k n)
  | .string s => .v (.string s)
  | .pointer none => .v (.pointer none)
  | .map none => .v (.map none)
  | .nilFunc => .v .nilFunc
  | .nilIface => .v .nilIface
  | .slice none 0 0 => .nils
  | _ => .top

def ofV : Value → AV
  | .agg cs => .agg (cs.toList.map ofV1)
  | x => ofV1 x

def compOpd : Operand → Opd
  | .tmp t => .t t
  | .const v => .c (ofV v)
  | .global _ => .c .top
  | .func f => .f f

section
variable (P : Program)

def szOf (t : TypeId) : Option Nat := (P.info? t).map (·.size)

def isAggT (t : TypeId) : Option Bool :=
  match P.underlying t with
  | some (.struct _) => some true
  | some (.array _ _) => some true
  | some _ => some false
  | none => none

def zeroOf (t : TypeId) : Option Value := (P.info? t).bind (·.zero)

def elemOfSlice (t : TypeId) : Option TypeId :=
  match P.underlying t with
  | some (.slice e) => some e
  | _ => none

def fieldOf (t : TypeId) (i : Nat) : Option Field :=
  match P.underlying t with
  | some (.struct fs) => fs[i]?
  | _ => none

def isStringT (t : TypeId) : Bool :=
  match P.underlying t with
  | some .string => true
  | _ => false

def isSliceT (t : TypeId) : Bool := (elemOfSlice P t).isSome

def isNilSlice : Operand → Bool
  | .const (.slice none 0 0) => true
  | _ => false

/-- The kinds of the cells of a type's values that are compared cell by cell. -/
def eqT : Nat → TypeId → Option (List EK)
  | 0, _ => none
  | d + 1, t => match P.underlying t with
    | some .bool => some [.b]
    | some (.int _) => some [.i]
    | some .string => some [.s]
    | some (.struct fs) => if P.stoodInHeld t then none else
      fs.toList.foldl (fun acc f => match acc with
        | some l => if f.name ≠ "_" ∧ f.offset = l.length then (eqT d f.type).bind fun m => if szOf P f.type = some m.length then some (l ++ m) else none else none
        | none => none) (some [])
    | _ => none

def isStructT (t : TypeId) : Bool :=
  match P.underlying t with
  | some (.struct _) => true
  | _ => false

variable (md : Nat → Nat)

def compBin (op : BinOp) (xt : TypeId) (x y : Operand) : Option AOp :=
  match P.underlying xt with
  | some .bool => match op with
    | .eql => some (.beq false (compOpd x) (compOpd y))
    | .neq => some (.beq true (compOpd x) (compOpd y))
    | _ => none
  | some (.int _) => some (.bin op (compOpd x) (compOpd y))
  | some .string => some (.bin op (compOpd x) (compOpd y))
  | some (.slice _) => if isNilSlice y then match op with
    | .eql => some (.nilq false (compOpd x))
    | .neq => some (.nilq true (compOpd x))
    | _ => none
    else none
  | some (.struct _) => if P.eqGuardType P.depth xt = false then match op, eqT P 8 xt with
    | .eql, some n => some (.eqs false n (compOpd x) (compOpd y))
    | .neq, some n => some (.eqs true n (compOpd x) (compOpd y))
    | _, _ => none
    else none
  | _ => none

def compBuiltin (b : Builtin) (args : List Operand) (types : List TypeId) : Option AOp :=
  match b, args, types with
  | .len, [x], [t] => if isStringT P t then some (.len true (compOpd x)) else if isSliceT P t then some (.len false (compOpd x)) else none
  | .append, [x, y], [t, u] => match elemOfSlice P t with
    | some e => match P.info? e, (zeroOf P e).bind fun z => cells (ofV z) with
      | some i, some z => if (isSliceT P u || isStringT P u) = true ∧ z.length = i.size ∧ 0 < i.size then some (.app i.size i.bytes (compOpd x) (compOpd y)) else none
      | _, _ => none
    | none => none
  | .clear, [x], [t] => match elemOfSlice P t with
    | some e => match szOf P e, (zeroOf P e).bind fun z => cells (ofV z) with
      | some n, some z => if z.length = n ∧ 0 < n ∧ z.all one = true then some (.clr n z (compOpd x)) else none
      | _, _ => none
    | none => none
  | .min, xs, _ => some (.mm false (xs.map compOpd))
  | .max, xs, _ => some (.mm true (xs.map compOpd))
  | _, _, _ => none

def compOp (k : Nat) (o : Oper) : Option AOp :=
  match o.op with
  | .move x => some (.mv (compOpd x))
  | .assign x => some (.mv (compOpd x))
  | .pick c a b => some (.pick (compOpd c) (compOpd a) (compOpd b))
  | .alloc e => match (zeroOf P e).bind fun z => cells (ofV z) with
    | some cs => some (.alloc k cs)
    | none => none
  | .box _ x => some (.box k (compOpd x))
  | .build t parts => match P.underlying t with
    | some (.struct fs) => match fs.toList.mapM (fun f => (P.info? f.type).map fun i => (f.offset, i.size)), (zeroOf P t).bind fun z => cells (ofV z) with
      | some places, some zs => match parts.toList.mapM (fun p => (places[p.1]?).map fun q => (q.1, q.2, compOpd p.2)) with
        | some ps => some (.build zs ps)
        | none => none
      | _, _ => none
    | _ => none
  | .buildSlice t n parts => match elemOfSlice P t with
    | some e => match szOf P e, (zeroOf P e).bind fun z => cells (ofV z) with
      | some sz, some z => if z.length = sz ∧ n * sz ≤ 2 ^ 24 ∧ 0 < sz then some (.bsl sz n z (parts.toList.map fun p => (p.1, compOpd p.2))) else none
      | _, _ => none
    | none => none
  | .load t a => match isAggT P t, szOf P t with
    | some ag, some n => some (.load n ag (compOpd a))
    | _, _ => none
  | .store t a x => match szOf P t with
    | some n => some (.store n (compOpd a) (compOpd x))
    | none => none
  | .nilCheck x => some (.nilc (compOpd x))
  | .binOp op xt x y _ => compBin P op xt x y
  | .unOp op _ x => some (.un op (compOpd x))
  | .convert src dst x => match P.underlying src, P.underlying dst with
    | some (.int _), some (.int k) => some (.cvi k (compOpd x))
    | _, _ => none
  | .makeFunc (.func f) first caps => if first.size = 0 then some (.mkf f (caps.toList.map compOpd)) else none
  | .makeMap t none => match P.underlying t with
    | some (.map _ _) => some .mkm
    | _ => none
  | .makeSlice t l c => match l, c with
    | .tmp a, .tmp b => if a = b then match elemOfSlice P t with
      | some e => match P.info? e, (zeroOf P e).bind fun z => cells (ofV z) with
        | some i, some z => if z.length = i.size ∧ 0 < i.size then some (.mks i.size i.bytes z (.t a)) else none
        | _, _ => none
      | none => none
      else none
    | _, _ => none
  | .slice t x lo hi mx => match P.underlying t with
    | some .string => match mx with
      | none => some (.sls (compOpd x) (lo.map compOpd) (hi.map compOpd))
      | some _ => none
    | some (.slice e) => match szOf P e with
      | some n => match mx, lo, hi with
        | none, _, _ => some (.sl n (compOpd x) (lo.map compOpd) (hi.map compOpd))
        | some m, some l, some h => some (.sl3 n (compOpd x) (compOpd l) (compOpd h) (compOpd m))
        | some m, none, some h => some (.sl3 n (compOpd x) (.c (.i 0)) (compOpd h) (compOpd m))
        | _, _, _ => none
      | none => none
    | _ => none
  | .fieldAddr t x i => match fieldOf P t i with
    | some f => match szOf P f.type with
      | some n => if n = 0 then none else some (.fa f.offset (compOpd x))
      | none => none
    | none => none
  | .field t x i => match fieldOf P t i with
    | some f => match isAggT P f.type, szOf P f.type with
      | some ag, some n => some (.fld f.offset n ag (compOpd x))
      | _, _ => none
    | none => none
  | .indexAddr t x i => match elemOfSlice P t with
    | some e => match szOf P e with
      | some n => if n = 0 then none else some (.ia n (compOpd x) (compOpd i))
      | none => none
    | none => none
  | .index t x i => if isStringT P t then some (.ix (compOpd x) (compOpd i)) else none
  | .lookup t m k ok => match P.underlying t with
    | some (.map kt e) => match P.underlying kt, zeroOf P e with
      | some (.int _), some z => some (.lk (ofV z) ok (compOpd m) (compOpd k))
      | _, _ => none
    | _ => none
  | .mapUpdate t m k x => match P.underlying t with
    | some (.map kt _) => match P.underlying kt with
      | some (.int _) => some (.mu (compOpd m) (compOpd k) (compOpd x))
      | _ => none
    | _ => none
  | .insert t m k x => match P.underlying t with
    | some (.map kt _) => match P.underlying kt with
      | some (.int _) => some (.mu (compOpd m) (compOpd k) (compOpd x))
      | _ => none
    | _ => none
  | .extract x i => some (.ext i (compOpd x))
  | .call c => match c.callee with
    | .value (.func f) => some (.call (md f) f (c.args.toList.map compOpd))
    | .value x => some (.callv (compOpd x) (c.args.toList.map compOpd))
    | .builtin b => compBuiltin P b c.args.toList c.argTypes.toList
    | .invoke _ _ => none
  | _ => none

def isAlloc : Op → Bool
  | .alloc _ => true
  | .box _ _ => true
  | _ => false

/-- The operations, each with the number of its box. -/
def compOps (ops : Array Oper) : List Oper → Nat → Option (List AOper)
  | [], _ => some []
  | o :: os, k => match compOp P md k o, compOps ops os (if isAlloc o.op then k + 1 else k) with
    | some a, some l => match o.guard with
      | none => some (⟨o.dst, a, none⟩ :: l)
      | some (j, w) => match (ops[j]?).bind (·.dst) with
        | some d => some (⟨o.dst, a, some (d, w)⟩ :: l)
        | none => none
    | _, _ => none

/-- What must have come up before each: by the edges, all the way. -/
def before (ops : List Oper) : List (List Nat) :=
  ops.foldl (fun acc o => acc ++ [(o.after.toList.filter (Region.binds .any ·)).foldl (fun l e => l ++ (e.on :: acc.getD e.on []).filter (fun x => !l.contains x)) []]) []

def looseP (tbl : List (List Nat)) (n : Nat) : List (Nat × Nat) :=
  (List.range n).flatMap fun j => ((List.range j).filter fun i => !(tbl.getD j []).contains i).map fun i => (i, j)

/-- The edges go back; what is not ordered touches no temporary of the other's. -/
def drawOK (ops : Array Oper) (as : List AOper) (prs : List (Nat × Nat)) : Bool :=
  (ops.toList.zipIdx.all fun (o, i) => o.after.all fun e => !Region.binds .any e || e.on < i) &&
  (prs.all fun p => match as[p.1]?, as[p.2]? with
    | some x, some y => x.apart y
    | _, _ => false)

def allocs (ops : Array Oper) : Nat := (ops.toList.filter fun o => isAlloc o.op).length

/-- A pair that may touch memory on both sides. -/
def quiet : AOp → Bool
  | .mv _ => true
  | .pick _ _ _ => true
  | .fa _ _ => true
  | .fld _ _ _ _ => true
  | .bin _ _ _ => true
  | .beq _ _ _ => true
  | .eqs _ _ _ _ => true
  | .un _ _ => true
  | .cvi _ _ => true
  | .ext _ _ => true
  | .ix _ _ => true
  | .sls _ _ _ => true
  | .build _ _ => true
  | _ => false

def compCode : Code → Option AC
  | .skip => some .skip
  | .region _ ops draw => match compOps P (if draw then fun _ => 0 else md) ops ops.toList 0 with
    | some as =>
      if draw then
        let prs := looseP (before ops.toList) ops.size
        if drawOK ops as prs then some (.dreg (allocs ops) as (prs.filter fun p => !((as[p.1]?).any (fun o => quiet o.op) || (as[p.2]?).any fun o => quiet o.op))) else none
      else some (.reg (allocs ops) as)
    | none => none
  | .seq a b => match compCode a, compCode b with
    | some x, some y => some (.seq x y)
    | _, _ => none
  | .cond c a b => match compCode a, compCode b with
    | some x, some y => some (.cond (compOpd c) x y)
    | _, _ => none
  | .block id a => (compCode a).map (.block id)
  | .loop a => (compCode a).map (.loop [])
  | .exit id => some (.exit id)
  | .ret => some .ret
  | _ => none

def compRV : ResultVar → Option RV
  | .tmp t => some (.tmp t)
  | .cell t ty => match isAggT P ty, szOf P ty with
    | some ag, some n => some (.cell t n ag)
    | _, _ => none

def compFn (fn : Func) : Option AFn :=
  match fn.body with
  | some c => match compCode P md c, fn.results.toList.mapM (compRV P) with
    | some a, some rs => if (fn.name == "runtime.NumGoroutine") then none else some ⟨fn.ntmps, rs, a⟩
    | _, _ => none
  | none => none
end

end Go.Pv

namespace Go.Pv
open Go

section
variable {imm imm' : Imm} {L L' : Locs} {h h' : Hp} {w w' : World}

theorem MapRel.mono (hi : ImmLe imm imm') (hl : LLe L L') {es : List (Int × AV)} {ms : List MapEntry} (hm : MapRel imm L es ms) : MapRel imm' L' es ms := by
  refine ⟨hm.1, fun n => ?_⟩
  have := hm.2 n
  cases h1 : lookO es n <;> cases h2 : atKey ms n <;> rw [h1, h2] at this <;> simp only at this ⊢
  exact this.mono hi hl

theorem ObRel.loc {ob : Ob} (ho : ObRel imm L w ob) {u : Nat} (hm : ob.mark = some u) : ∃ l, L u = some l ∧ l.blk < w.heap.size := by
  cases ob with
  | box v cs =>
    obtain ⟨l, arr, T, h1, _, h3, _⟩ := ho
    cases hm
    exact ⟨l, h1, (Array.getElem?_eq_some_iff.1 h3).1⟩
  | row v sz xs =>
    obtain ⟨l, arr, T, h1, _, h3, _⟩ := ho
    cases hm
    exact ⟨l, h1, (Array.getElem?_eq_some_iff.1 h3).1⟩
  | map v es =>
    obtain ⟨l, ms, c, h1, h3, _⟩ := ho
    cases hm
    exact ⟨l, h1, (Array.getElem?_eq_some_iff.1 h3).1⟩
  | dead => cases hm

theorem ObRel.mono (hi : ImmLe imm imm') (hl : LLe L L') {ob : Ob} (hw : ∀ u l, ob.mark = some u → L u = some l → w'.heap[l.blk]? = w.heap[l.blk]?) (ho : ObRel imm L w ob) : ObRel imm' L' w' ob := by
  cases ob with
  | box u cs =>
    obtain ⟨l, arr, T, h1, h2, h3, h4⟩ := ho
    exact ⟨l, arr, T, hl _ _ h1, h2, (hw u l rfl h1).trans h3, h4.mono hi hl⟩
  | row u sz xs =>
    obtain ⟨l, arr, T, h1, h2, h3, h4, h5, h6⟩ := ho
    refine ⟨l, arr, T, hl _ _ h1, h2, (hw u l rfl h1).trans h3, h4, h5, fun i cs hc => ?_⟩
    obtain ⟨k1, k2⟩ := h6 i cs hc
    refine ⟨k1, fun j a ha => ?_⟩
    obtain ⟨x, hx, hr⟩ := k2 j a ha
    exact ⟨x, hx, hr.mono hi hl⟩
  | map u es =>
    obtain ⟨l, ms, c, h1, h2, h3⟩ := ho
    exact ⟨l, ms, c, hl _ _ h1, (hw u l rfl h1).trans h2, h3.mono hi hl⟩
  | dead => trivial

/-- One object turned, or laid: it lies in block B. -/
theorem Inv.upd (hI : Inv imm L h w) {x : Ref} {ob : Ob} {B : Nat} (hl : LLe L L') (hn : ∀ v, h.nx ≤ v → L' v = none) (hnx : h'.nx = h.nx)
    (hg : h'.get x = ob) (hg' : ∀ y, y ≠ x → h'.get y = h.get y) (hob : ObRel imm L' w' ob)
    (hk : ∀ b, b < w.heap.size → b ≠ B → w'.heap[b]? = w.heap[b]?) (hB : ∀ u l, ob.mark = some u → L' u = some l → l.blk = B) (hiB : imm B = none)
    (hoB : ∀ y v m, y ≠ x → (h.get y).mark = some v → L v = some m → m.blk ≠ B) : Inv imm L' h' w' := by
  have hlt : ∀ b o, w.heap[b]? = some o → b < w.heap.size := fun b o hb => (Array.getElem?_eq_some_iff.1 hb).1
  have hold : ∀ y v m, y ≠ x → (h.get y).mark = some v → L' v = some m → L v = some m := fun y v m hy hm hv => by
    obtain ⟨l, h1, _⟩ := (hI.obs y).loc hm
    have := hl _ _ h1
    rw [hv] at this
    rw [h1, this]
  refine ⟨fun b o hb => ?_, fun u hu => hn u (hnx ▸ hu), fun y => ?_, fun y z u v l m hyz hu hv hlu hlv => ?_, fun y u l hu hlu => ?_⟩
  · have hw := hI.fit b o hb
    rw [hk b (hlt b o hw) (fun e => by rw [e, hiB] at hb; cases hb)]
    exact hw
  · by_cases hy : y = x
    · subst hy; rw [hg]; exact hob
    · rw [hg' y hy]
      refine (hI.obs y).mono (.refl _) hl fun u l hm hu => ?_
      obtain ⟨l', h1, h2⟩ := (hI.obs y).loc hm
      rw [hu] at h1; cases h1
      exact hk _ h2 (hoB y u l hy hm hu)
  · by_cases hy : y = x
    · subst hy
      rw [hg] at hu
      have hz : z ≠ y := fun e => hyz e.symm
      rw [hg' z hz] at hv
      have := hoB z v m hz hv (hold z v m hz hv hlv)
      rw [hB u l hu hlu]
      exact fun e => this e.symm
    · rw [hg' y hy] at hu
      have hlu' := hold y u l hy hu hlu
      by_cases hz : z = x
      · subst hz
        rw [hg] at hv
        rw [hB v m hv hlv]
        exact hoB y u l hy hu hlu'
      · rw [hg' z hz] at hv
        exact hI.apart y z u v l m hyz hu hv hlu' (hold z v m hz hv hlv)
  · by_cases hy : y = x
    · subst hy
      rw [hg] at hu
      rw [hB u l hu hlu]; exact hiB
    · rw [hg' y hy] at hu
      exact hI.free y u l hu (hold y u l hy hu hlu)

theorem Step.upd {N : Nat → Prop} (hI : Inv imm L h w) {x : Ref} {ob : Ob} {B : Nat} (hl : LLe L L') (hN : ∀ u, ¬ N u → L' u = L u)
    (hg : h'.get x = ob) (hg' : ∀ y, y ≠ x → h'.get y = h.get y)
    (hk : ∀ b, b < w.heap.size → b ≠ B → w'.heap[b]? = w.heap[b]?) (hB : ∀ u l, ob.mark = some u → L' u = some l → l.blk = B)
    (hBo : ownB L h B ∨ w.heap.size ≤ B) (hos : w'.os = w.os) (htape : w'.tape = w.tape) (hout : w'.output = w.output) (hsz : w.heap.size ≤ w'.heap.size) :
    Step N imm L h w imm L' h' w' where
  le := .refl _
  leN := fun _ _ h => .inl h
  lle := hl
  lleN := hN
  own := fun b => by
    rintro ⟨y, u, l, hu, hlu, rfl⟩
    by_cases hy : y = x
    · subst hy
      rw [hg] at hu
      rw [hB u l hu hlu]; exact hBo
    · rw [hg' y hy] at hu
      obtain ⟨l', h1, _⟩ := (hI.obs y).loc hu
      have := hl _ _ h1
      rw [hlu] at this; cases this
      exact .inl ⟨y, u, l, hu, h1, rfl⟩
  keep := ⟨hos, htape, hout, hsz, fun k hk' hn => hk k hk' fun e => by
    rcases hBo with h | h
    · exact hn (e ▸ h)
    · omega⟩

/-- Heaps that are looked at alike. -/
theorem Inv.congr (hI : Inv imm L h w) (hg : ∀ x, h'.get x = h.get x) (hnx : h.nx ≤ h'.nx) : Inv imm L h' w where
  fit := hI.fit
  nx := fun u hu => hI.nx u (Nat.le_trans hnx hu)
  obs := fun x => by rw [hg]; exact hI.obs x
  apart := fun x y u v l m hxy hu hv => by rw [hg] at hu hv; exact hI.apart x y u v l m hxy hu hv
  free := fun x u l hu => by rw [hg] at hu; exact hI.free x u l hu

/-- A world with the same blocks. -/
theorem Inv.world (hI : Inv imm L h w) (hh : w'.heap = w.heap) : Inv imm L h w' where
  fit := fun b o hb => by rw [hh]; exact hI.fit b o hb
  nx := hI.nx
  obs := fun x => (hI.obs x).mono (.refl _) (.refl _) fun _ _ _ _ => by rw [hh]
  apart := hI.apart
  free := hI.free

theorem Hp.get_set_b (h : Hp) (i : Nat) (o : Ob) (hi : i < h.bs.length) : (h.set (.b i) o).get (.b i) = o := by
  simp [Hp.set, Hp.get, List.getD_eq_getElem?_getD, hi]
theorem Hp.get_set_r (h : Hp) (i : Nat) (o : Ob) (hi : i < h.rs.length) : (h.set (.r i) o).get (.r i) = o := by
  simp [Hp.set, Hp.get, List.getD_eq_getElem?_getD, hi]
theorem Hp.get_set_ne (h : Hp) (x y : Ref) (o : Ob) (hxy : y ≠ x) : (h.set x o).get y = h.get y := by
  cases x <;> cases y <;> simp [Hp.set, Hp.get, List.getD_eq_getElem?_getD] <;> rename_i i j
  · have : i ≠ j := fun e => hxy (by rw [e])
    rw [List.getElem?_set_ne this]
  · have : i ≠ j := fun e => hxy (by rw [e])
    rw [List.getElem?_set_ne this]
theorem Hp.get_lt_b {h : Hp} {i : Nat} (hd : h.get (.b i) ≠ .dead) : i < h.bs.length := by
  rcases Nat.lt_or_ge i h.bs.length with hi | hi
  · exact hi
  · exact absurd (by simp [Hp.get, List.getD_eq_getElem?_getD, List.getElem?_eq_none hi]) hd
theorem Hp.get_lt_r {h : Hp} {i : Nat} (hd : h.get (.r i) ≠ .dead) : i < h.rs.length := by
  rcases Nat.lt_or_ge i h.rs.length with hi | hi
  · exact hi
  · exact absurd (by simp [Hp.get, List.getD_eq_getElem?_getD, List.getElem?_eq_none hi]) hd
theorem Hp.get_set {h : Hp} {x : Ref} (o : Ob) (hd : h.get x ≠ .dead) : (h.set x o).get x = o := by
  cases x with
  | b i => exact h.get_set_b i o (Hp.get_lt_b hd)
  | r i => exact h.get_set_r i o (Hp.get_lt_r hd)
@[simp] theorem Hp.nx_set (h : Hp) (x : Ref) (o : Ob) : (h.set x o).nx = h.nx := by cases x <;> rfl

/-- A row more. -/
def Hp.lay (h : Hp) (o : Ob) : Hp := { h with rs := h.rs ++ [o] }
theorem Hp.get_lay (h : Hp) (o : Ob) : (h.lay o).get (.r h.rs.length) = o := by simp [Hp.lay, Hp.get, List.getD_eq_getElem?_getD]
theorem Hp.get_lay_ne (h : Hp) (o : Ob) (y : Ref) (hy : y ≠ .r h.rs.length) : (h.lay o).get y = h.get y := by
  cases y with
  | b i => rfl
  | r i =>
    have : i ≠ h.rs.length := fun e => hy (by rw [e])
    simp only [Hp.lay, Hp.get, List.getD_eq_getElem?_getD]
    rcases Nat.lt_or_ge i h.rs.length with hi | hi
    · rw [List.getElem?_append_left hi]
    · rw [List.getElem?_eq_none (by simp; omega), List.getElem?_eq_none hi]
theorem Hp.get_end (h : Hp) : h.get (.r h.rs.length) = .dead := by simp [Hp.get, List.getD_eq_getElem?_getD]

@[simp] theorem Hp.app_pure (h : Hp) (v : AV) : h.app { v } = h := by simp [Hp.app]
theorem Hp.app_one (h : Hp) (v : AV) (x : Ref) (o : Ob) : h.app { v, wr := [(x, o)] } = h.set x o := by cases x <;> simp [Hp.app, Hp.set]
theorem Hp.app_lay (h : Hp) (v : AV) (o : Ob) : h.app { v, nw := [o] } = h.lay o := by simp [Hp.app, Hp.lay]
end

/-- What becomes of an operation. -/
def OpOK (imm : Imm) (L : Locs) (h : Hp) (w : World) (u : Nat) (ef : Eff) (r : Result Next) : Prop :=
  ∃ nx w' imm' L', r = .ok nx w' ∧ ((∃ x, nx = .value x ∧ Rel imm' L' ef.v x) ∨ (nx = .skip ∧ ef.v = .top)) ∧ Inv imm' L' (h.app ef) w' ∧ Step (· = u) imm L h w imm' L' (h.app ef) w'

theorem OpOK.pure {imm : Imm} {L : Locs} {h : Hp} {w : World} {u : Nat} {v : AV} {x : Value} {r : Result Next} (hI : Inv imm L h w) (hr : r = .ok (.value x) w) (hv : Rel imm L v x) : OpOK imm L h w u { v } r :=
  ⟨_, _, imm, L, hr, .inl ⟨x, rfl, hv⟩, by rw [Hp.app_pure]; exact hI, by rw [Hp.app_pure]; exact .refl _ _ _ _ _⟩

end Go.Pv
