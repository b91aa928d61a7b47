/-
  The abstract machine: values, heap, micro-operations, code, its runner; and how the model's code becomes its code. Nothing is proved here.
-/
import GoSem.Core.Region
import GoSem.Core.View
import GoSem.Op.Shift
import GoSem.Dispatch
namespace Go.Ab

/-! ### Tries: by recursors, for runs in the kernel; a place's path is reckoned once -/
inductive L4 where
  | e
  | a (p : L4)
  | b (p : L4)
  | c (p : L4)
  | d (p : L4)

noncomputable def L4.dig (m : Nat) (p : L4) : L4 :=
  @Nat.rec (fun _ => L4) (.a p) (fun m _ => @Nat.rec (fun _ => L4) (.b p) (fun m _ => @Nat.rec (fun _ => L4) (.c p) (fun _ _ => .d p) m) m) m
noncomputable def pathR (f : Nat) : Nat → L4 :=
  @Nat.rec (fun _ => Nat → L4) (fun _ => .e) (fun _ ih n => @Nat.rec (fun _ => L4) .e (fun k _ => L4.dig (Nat.mod k 4) (ih (Nat.div k 4))) n) f
noncomputable def path (n : Nat) : L4 := pathR (Nat.succ n) n

inductive PT (α : Type) where
  | lf
  | nd (v : Option α) (a b c d : PT α)

noncomputable def PT.getL {α : Type} (t : PT α) : L4 → Option α :=
  @PT.rec α (fun _ => L4 → Option α) (fun _ => none) (fun v _ _ _ _ ga gb gc gd p => @L4.rec (fun _ => Option α) v (fun p _ => ga p) (fun p _ => gb p) (fun p _ => gc p) (fun p _ => gd p) p) t
noncomputable def PT.newL {α : Type} (x : Option α) (p : L4) : PT α :=
  @L4.rec (fun _ => PT α) (.nd x .lf .lf .lf .lf) (fun _ r => .nd none r .lf .lf .lf) (fun _ r => .nd none .lf r .lf .lf) (fun _ r => .nd none .lf .lf r .lf) (fun _ r => .nd none .lf .lf .lf r) p
noncomputable def PT.setL {α : Type} (x : Option α) (t : PT α) : L4 → PT α :=
  @PT.rec α (fun _ => L4 → PT α) (fun p => PT.newL x p) (fun v a b c d sa sb sc sd p =>
    @L4.rec (fun _ => PT α) (.nd x a b c d) (fun p _ => .nd v (sa p) b c d) (fun p _ => .nd v a (sb p) c d) (fun p _ => .nd v a b (sc p) d) (fun p _ => .nd v a b c (sd p)) p) t

noncomputable def PT.get {α : Type} (t : PT α) (n : Nat) : Option α := t.getL (path n)
noncomputable def PT.setO {α : Type} (t : PT α) (n : Nat) (x : Option α) : PT α := t.setL x (path n)
noncomputable def PT.set {α : Type} (t : PT α) (n : Nat) (x : α) : PT α := t.setL (some x) (path n)

/-! ### Values, operations, code -/
noncomputable section

def nth {α : Type} : List α → Nat → Option α
  | [], _ => none
  | x :: l, n => match n with | 0 => some x | k + 1 => nth l k

inductive AFn where
  | func (f : Nat)
  | yield (id : Nat)

/-- Values. 'ptr id g i o': row 'id' as of its generation g, element i, cell o of it. 'slc id g s len cap ex': from element s; 'cap' a lower bound of its capacity, exact where 'ex'. -/
inductive AV where
  | bool (b : Bool)
  | int (k : IntKind) (n : Int)
  | str (s : List Nat)
  | ptr (id g i o : Nat)
  | nilPtr
  | slc (id g s len cap : Nat) (ex : Bool)
  | nilSlc
  /-- A slice of no capacity that is not nil. -/
  | emp
  | map (id : Nat)
  | nilMap
  | itr (id : Nat)
  | fn (f : AFn) (first captured : List AV)
  | nilFn
  | agg (l : List AV)
  | tup (l : List AV)
  /-- The interface value nil; a value in an interface, of a type. -/
  | nilIf
  | ifc (t : Nat) (v : AV)
  /-- No value of the program's: a call ended in a panic with this one. -/
  | pan (v : AV)
  deriving Inhabited

def isPan : AV → Option AV
  | .pan x => some x
  | _ => none

def AV.cells : AV → List AV
  | .agg l => l
  | v => [v]

def AV.leaf : AV → Bool
  | .agg _ | .tup _ => false
  | _ => true

def allLeaf : List AV → Bool
  | [] => true
  | v :: l => bif v.leaf then allLeaf l else false

inductive Opd where
  | t (r : Nat)
  | c (v : AV)

inductive K0 where
  | int | str | bool

inductive KK where
  | leaf (k : K0)
  | st (ks : List K0)

inductive EqK where
  | bool | ptr | slc | map | fn
  | agg (ks : List K0)
  /-- An interface value, against nil. -/
  | ifn

inductive AOp where
  | mv (x : Opd)
  | pick (c a b : Opd)
  | alloc (z : List AV)
  | box (ty : Option Nat) (n : Nat) (x : Opd)
  | build (z : List AV) (parts : List (Nat × Nat × Opd))
  | bslice (n sz : Nat) (z : List AV) (parts : List (Nat × Opd))
  | load (ag : Bool) (n : Nat) (a : Opd)
  | store (n : Nat) (a v : Opd)
  /-- A store that does not meet what lies at 'b'. -/
  | stw (n : Nat) (a v b : Opd)
  | nilck (x : Opd)
  | bin (op : BinOp) (x y : Opd)
  | eq (neg : Bool) (k : EqK) (x y : Opd)
  | not (x : Opd)
  | neg (x : Opd)
  | conv (k : IntKind) (x : Opd)
  | b2s (x : Opd)
  | cvs (x : Opd)
  | mkfn (f : Nat) (first cap : List Opd)
  | mkmap
  | mksl (sz bytes : Nat) (z : List AV) (l c : Opd)
  | sl (sz : Nat) (x : Opd) (lo hi mx : Option Opd)
  | sls (x : Opd) (lo hi : Option Opd)
  | fadr (off : Nat) (x : Opd)
  | fld (ag : Bool) (off n : Nat) (x : Opd)
  | iadr (sz : Nat) (x i : Opd)
  | iadra (len esz : Nat) (x i : Opd)
  | idxs (x i : Opd)
  | idxa (ag : Bool) (len esz : Nat) (x i : Opd)
  | look (kk : KK) (ok : Bool) (z : AV) (m k : Opd)
  | mupd (kk : KK) (m k v : Opd)
  | ext (x : Opd) (i : Nat)
  | len (k : Nat) (x : Opd)
  | cap (x : Opd)
  | app (sz bytes : Nat) (s x : Opd)
  | appz (sz bytes : Nat) (z : List AV) (s x : Opd)
  | copy (sz : Nat) (d s : Opd)
  | del (kk : KK) (m k : Opd)
  | clr (sz : Nat) (z : List AV) (x : Opd)
  | mm (mx : Bool) (xs : List Opd)
  /-- A variable of a type that is noted; bytes appended (the elements' type is noted). -/
  | allot (t : Nat) (z : List AV)
  | appb (e : Nat) (s x : Opd)
  /-- A pointer as an unsafe one; back, to a type. -/
  | uto (x : Opd)
  | ufr (t n : Nat) (us : List (Nat × Nat × Nat)) (x : Opd)
  | sdat (x : Opd)
  | ustr (e : Nat) (p n : Opd)
  | rng (x : Opd)
  | ent (x : Opd)
  | nxt (x : Opd)
  | fail
  | call (f : Opd) (args : List Opd)
  /-- A panic; a call deferred; what a deferred call asks: what was panicked with. -/
  | pnc (x : Opd)
  | dfr (f : Opd) (args : List Opd)
  | rcv
  /-- A value laid into an interface; an interface value taken as one of a type. -/
  | mkif (t : Nat) (x : Opd)
  | tas (t : Nat) (ok : Bool) (z : AV) (x : Opd)

structure AOper where
  dst : Option Nat
  op : AOp
  grd : Option (Nat × Bool)

/-- An object, as a cut names it. -/
inductive CObj where
  | row (es : List (List AV)) (sz g m : Nat) (rw : Bool) (ty : Option Nat)
  | map (es : List (AV × AV × Nat)) (clock : Nat)
  | gvar (b : Nat)

/-- A state: temporaries, objects, how many objects there may be. -/
structure Cut where
  rs : List (Nat × AV)
  os : List (Nat × CObj)
  sz : Nat

inductive ACode where
  | skip
  | reg (ops : List AOper)
  /-- Of a region that draws its order: what comes before all that acts; then each act, the reads that may still come after it, and what may come once it is done. -/
  | dreg (n0 : List AOper) (rest : List (AOper × List AOper × List AOper))
  | seq (a b : ACode)
  | cond (c : Opd) (a b : ACode)
  | block (id : Nat) (c : ACode)
  | loop (c : ACode)
  | rf (f : Opd) (ps : List Nat) (asg body : ACode)
  | exit (id : Nat)
  | scope (c : ACode) (l : Nat) (r : ACode)
  | label (l : Nat)
  | goto (l : Nat)
  | ret
  | refuse
  /-- Only the temporaries 'ks' are kept. -/
  | keep (ks : List Nat) (c : ACode)
  /-- One of these states, with less known than there is; or the state as it is. -/
  | cut (cs : List Cut) (c : ACode)

inductive AExit where
  | normal
  | ret
  | exit (id : Nat)
  | goto (l : Nat)
  | panic (v : AV)

inductive LState where
  | ready
  | busy
  | done (x : AExit)
  | exh

structure Row where
  es : List (List AV)
  sz : Nat
  g : Nat
  m : Nat
  rw : Bool
  /-- The elements' type, where it is noted. -/
  ty : Option Nat := none

structure ALoop where
  regs : PT AV
  ps : List Nat
  asg : ACode
  body : ACode
  st : LState

inductive AObj where
  | row (r : Row)
  | map (es : List (AV × AV × Nat)) (clock : Nat)
  | iter (m : Option Nat) (since : Nat) (seen : List Nat) (stepped : Nat)
  | loop (l : ALoop)
  /-- Nothing is known of it any more. -/
  | gone
  /-- A map that is only read; what is neither read nor written. -/
  | rmap (es : List (AV × AV × Nat)) (clock : Nat)
  | dead
  /-- A variable of the program's (its block's number) that holds an interface value, not nil. -/
  | gvar (b : Nat)

def AObj.own : AObj → Bool
  | .row r => r.rw
  | .rmap _ _ => false
  | .dead => false
  | .gvar _ => false
  | _ => true

structure AHeap where
  sz : Nat
  t : PT AObj

def AHeap.get (h : AHeap) (id : Nat) : Option AObj := h.t.get id
def AHeap.put (h : AHeap) (id : Nat) (o : AObj) : AHeap := { h with t := h.t.set id o }
def AHeap.push (h : AHeap) (o : AObj) : AHeap := { sz := h.sz + 1, t := h.t.set h.sz o }
def AHeap.row (h : AHeap) (id : Nat) : Option Row := match h.get id with | some (.row r) => some r | _ => none
def AHeap.empty : AHeap := { sz := 0, t := .lf }

structure St where
  regs : PT AV
  h : AHeap

abbrev Regs := PT AV

def ev (ρ : Regs) : Opd → Option AV
  | .t r => ρ.get r
  | .c v => some v

def evs (ρ : Regs) : List Opd → Option (List AV)
  | [] => some []
  | x :: l => match ev ρ x with
    | some v => match evs ρ l with
      | some vs => some (v :: vs)
      | none => none
    | none => none

/-! ### Integers -/
def kidx : IntKind → Nat
  | .i8 => 0 | .i16 => 1 | .i32 => 2 | .i64 => 3 | .u8 => 4 | .u16 => 5 | .u32 => 6 | .u64 => 7

def fitsK : IntKind → Int → Bool
  | .i64, .ofNat m => Nat.ble m 9223372036854775807
  | .i64, .negSucc m => Nat.ble m 9223372036854775807
  | .u8, .ofNat m => Nat.ble m 255
  | .u64, .ofNat m => Nat.ble m 18446744073709551615
  | .i32, .ofNat m => Nat.ble m 2147483647
  | .u32, .ofNat m => Nat.ble m 4294967295
  | _, _ => false

def wrapA (k : IntKind) (n : Int) : Int := bif fitsK k n then n else k.wrap n

def iltb : Int → Int → Bool
  | .ofNat a, .ofNat b => Nat.blt a b
  | .ofNat _, .negSucc _ => false
  | .negSucc _, .ofNat _ => true
  | .negSucc a, .negSucc b => Nat.blt b a

def ieqb : Int → Int → Bool
  | .ofNat a, .ofNat b => Nat.beq a b
  | .negSucc a, .negSucc b => Nat.beq a b
  | _, _ => false

def bitsA (op : BinOp) (k : IntKind) (x y : Int) : Option Int :=
  match op with
  | .and => some (k.wrap (BitVec.ofInt k.bits x &&& BitVec.ofInt k.bits y).toNat)
  | .or => some (k.wrap (BitVec.ofInt k.bits x ||| BitVec.ofInt k.bits y).toNat)
  | .xor => some (k.wrap (BitVec.ofInt k.bits x ^^^ BitVec.ofInt k.bits y).toNat)
  | .andNot => some (k.wrap (BitVec.ofInt k.bits x &&& ~~~ BitVec.ofInt k.bits y).toNat)
  | _ => none

def intOp (op : BinOp) (k : IntKind) (x y : Int) : Option AV :=
  match op with
  | .add => some (.int k (wrapA k (x + y)))
  | .sub => some (.int k (wrapA k (x - y)))
  | .mul => some (.int k (wrapA k (x * y)))
  | .quo => bif ieqb y 0 then none else some (.int k (wrapA k (x.tdiv y)))
  | .rem => bif ieqb y 0 then none else some (.int k (x.tmod y))
  | .eql => some (.bool (ieqb x y))
  | .neq => some (.bool (!ieqb x y))
  | .lss => some (.bool (iltb x y))
  | .leq => some (.bool (!iltb y x))
  | .gtr => some (.bool (iltb y x))
  | .geq => some (.bool (!iltb x y))
  | .shl | .shr => none
  | op => match bitsA op k x y with
    | some n => some (.int k n)
    | none => none

def shiftA (op : BinOp) (k : IntKind) (x y : Int) : Option AV :=
  bif iltb y 0 then none else
    match op with
    | .shl => some (.int k (k.wrap (x * 2 ^ (min y.toNat k.bits))))
    | .shr => some (.int k (x.fdiv (2 ^ (min y.toNat k.bits))))
    | _ => none

def leqb : List Nat → List Nat → Bool
  | [], [] => true
  | a :: l, b :: m => bif Nat.beq a b then leqb l m else false
  | _, _ => false

def lltb : List Nat → List Nat → Bool
  | _, [] => false
  | [], _ :: _ => true
  | a :: x, b :: y => bif Nat.blt a b then true else bif Nat.beq a b then lltb x y else false

/-- No list grows beyond this. -/
def most : Nat := 1099511627776

def strOp (op : BinOp) (x y : List Nat) : Option AV :=
  match op with
  | .add => bif Nat.ble (x.length + y.length) most then some (.str (x ++ y)) else none
  | .eql => some (.bool (leqb x y))
  | .neq => some (.bool (!leqb x y))
  | .lss => some (.bool (lltb x y))
  | .leq => some (.bool (lltb x y || leqb x y))
  | .gtr => some (.bool (!(lltb x y || leqb x y)))
  | .geq => some (.bool (!lltb x y))
  | _ => none

def isShift : BinOp → Bool
  | .shl | .shr => true
  | _ => false

def binA (op : BinOp) : AV → AV → Option AV
  | .int k a, .int j b => bif isShift op then shiftA op k a b else bif Nat.beq (kidx k) (kidx j) then intOp op k a b else none
  | .str a, .str b => strOp op a b
  | _, _ => none

/-- Leaves that are told by what they say. -/
def leafEq : AV → AV → Option Bool
  | .bool a, .bool b => some (a == b)
  | .int k a, .int j b => bif Nat.beq (kidx k) (kidx j) then some (ieqb a b) else none
  | .str a, .str b => some (leqb a b)
  | _, _ => none

def leavesEq : List AV → List AV → Option Bool
  | [], [] => some true
  | a :: l, b :: m => match leafEq a b with
    | some true => leavesEq l m
    | some false => some false
    | none => none
  | _, _ => none

def fits0 : K0 → AV → Bool
  | .int, .int _ _ => true
  | .str, .str _ => true
  | .bool, .bool _ => true
  | _, _ => false

def fits0s : List K0 → List AV → Bool
  | [], [] => true
  | k :: ks, v :: l => bif fits0 k v then fits0s ks l else false
  | _, _ => false

def fitsKK : KK → AV → Bool
  | .leaf k, v => fits0 k v
  | .st ks, .agg l => fits0s ks l
  | _, _ => false

def keyEq : AV → AV → Option Bool
  | .agg l, .agg m => leavesEq l m
  | a, b => leafEq a b

def eqBool : AV → AV → Option Bool
  | .bool a, .bool b => some (a == b)
  | _, _ => none

def eqPtr (h : AHeap) : AV → AV → Option Bool
  | .nilPtr, .nilPtr => some true
  | .nilPtr, .ptr .. => some false
  | .ptr .., .nilPtr => some false
  | .ptr a g i o, .ptr b g' i' o' =>
    bif Nat.beq a b then
      match h.row a with
      | some r => bif Nat.beq g r.g && Nat.beq g' r.g && Nat.blt o r.sz && Nat.blt o' r.sz then some (Nat.beq i i' && Nat.beq o o') else none
      | none => none
    else match h.row a, h.row b with
      | some r, some r' => bif r.rw && r'.rw && Nat.beq g r.g && Nat.beq g' r'.g then some false else none
      | _, _ => none
  | _, _ => none

def eqSlc : AV → AV → Option Bool
  | .nilSlc, .nilSlc => some true
  | .slc .., .nilSlc => some false
  | .nilSlc, .slc .. => some false
  | .emp, .nilSlc => some false
  | .nilSlc, .emp => some false
  | _, _ => none

def eqMap : AV → AV → Option Bool
  | .nilMap, .nilMap => some true
  | .map _, .nilMap => some false
  | .nilMap, .map _ => some false
  | _, _ => none

def eqFn : AV → AV → Option Bool
  | .nilFn, .nilFn => some true
  | .fn .., .nilFn => some false
  | .nilFn, .fn .. => some false
  | _, _ => none

def eqAgg (ks : List K0) : AV → AV → Option Bool
  | .agg l, .agg m => bif fits0s ks l then leavesEq l m else none
  | _, _ => none

def eqIfn : AV → AV → Option Bool
  | .nilIf, .nilIf => some true
  | .ifc _ _, .nilIf => some false
  | .nilIf, .ifc _ _ => some false
  | _, _ => none

def eqA (h : AHeap) (k : EqK) (x y : AV) : Option Bool :=
  match k with
  | .ifn => eqIfn x y
  | .bool => eqBool x y
  | .ptr => eqPtr h x y
  | .slc => eqSlc x y
  | .map => eqMap x y
  | .fn => eqFn x y
  | .agg ks => eqAgg ks x y

/-! ### Memory -/
def repl {α : Type} : Nat → α → List α
  | 0, _ => []
  | n + 1, x => x :: repl n x

def partA (ag : Bool) (off n : Nat) (l : List AV) : Option AV :=
  bif ag then (bif Nat.ble (off + n) l.length then some (.agg ((l.drop off).take n)) else none)
  else nth l off

def loadA (h : AHeap) (ag : Bool) (n : Nat) : AV → Option AV
  | .ptr id g i o => match h.row id with
    | some r => bif Nat.ble r.m g then
        (match nth r.es i with
        | some e => partA ag o n e
        | none => none)
      else none
    | none => none
  | _ => none

def setNth {α : Type} : List α → Nat → α → List α
  | [], _, _ => []
  | x :: l, n, y => match n with | 0 => y :: l | k + 1 => x :: setNth l k y

/-- 'new' laid over 'l' from place n on. -/
def lay {α : Type} (l : List α) (n : Nat) (new : List α) : List α := l.take n ++ new ++ l.drop (n + new.length)

/-- What has no cells may be written anywhere. -/
def storeA (h : AHeap) (n : Nat) (a v : AV) : Option AHeap :=
  match a with
  | .ptr id g i o => match h.row id with
    | some r => bif r.rw && Nat.beq g r.g && Nat.beq v.cells.length n && allLeaf v.cells then
        (match nth r.es i with
        | some e => bif Nat.ble (o + n) e.length then some (h.put id (.row { r with es := setNth r.es i (lay e o v.cells), m := r.g })) else none
        | none => none)
      else none
    | none => bif Nat.beq n 0 && Nat.beq v.cells.length 0 then some h else none
  | _ => none

/-- Two blocks. -/
def apartP : AV → AV → Bool
  | .ptr i _ _ _, .ptr j _ _ _ => !Nat.beq i j
  | _, _ => false

def newRow (h : AHeap) (es : List (List AV)) (sz : Nat) (ty : Option Nat := none) : AHeap := h.push (.row { es, sz, g := 0, m := 0, rw := true, ty })

/-- A variable; one without cells is nothing that could be read. -/
def allocA (h : AHeap) (z : List AV) : Option (AV × AHeap) :=
  bif Nat.beq z.length 0 then some (.ptr h.sz 0 0 0, h.push .gone) else bif allLeaf z then some (.ptr h.sz 0 0 0, newRow h [z] z.length) else none

def tyJoin : Option Nat → Option Nat → Option Nat
  | some a, some b => bif Nat.beq a b then some a else none
  | _, _ => none

def boxA (h : AHeap) (ty : Option Nat) (n : Nat) (v : AV) : Option (AV × AHeap) :=
  bif Nat.beq v.cells.length n && allLeaf v.cells && Nat.blt 0 n then some (.ptr h.sz 0 0 0, newRow h [v.cells] n ty) else none

def fillA (ρ : Regs) (cells : List AV) : List (Nat × Nat × Opd) → Option (List AV)
  | [] => some cells
  | (off, n, x) :: rest => match ev ρ x with
    | some v => bif Nat.beq v.cells.length n && Nat.ble (off + n) cells.length && allLeaf v.cells then fillA ρ (lay cells off v.cells) rest else none
    | none => none

def fillRow (ρ : Regs) (sz : Nat) (es : List (List AV)) : List (Nat × Opd) → Option (List (List AV))
  | [] => some es
  | (i, x) :: rest => match ev ρ x with
    | some v => bif Nat.beq v.cells.length sz && Nat.blt i es.length && allLeaf v.cells then fillRow ρ sz (setNth es i v.cells) rest else none
    | none => none

def asNat : AV → Option Nat
  | .int _ (.ofNat n) => some n
  | _ => none

def evNat (ρ : Regs) (d : Nat) : Option Opd → Option Nat
  | none => some d
  | some x => match ev ρ x with
    | some v => asNat v
    | none => none

def rowSz (h : AHeap) (id sz : Nat) : Bool :=
  match h.row id with
  | some r => Nat.beq r.sz sz
  | none => false

def sliceA (ρ : Regs) (h : AHeap) (sz : Nat) (x : AV) (lo hi mx : Option Opd) : Option AV :=
  match x with
  | .slc id g s len cap ex =>
    bif rowSz h id sz then
    match mx with
    | some m => match evNat ρ 0 (some m), evNat ρ len hi, evNat ρ 0 lo with
      | some m, some h, some l => bif Nat.ble l h && Nat.ble h m && Nat.ble m cap && hi.isSome then some (.slc id g (s + l) (h - l) (m - l) true) else none
      | _, _, _ => none
    | none => match evNat ρ len hi, evNat ρ 0 lo with
      | some h, some l => bif Nat.ble l h && Nat.ble h cap then some (.slc id g (s + l) (h - l) (cap - l) ex) else none
      | _, _ => none
    else none
  | .nilSlc =>
    match evNat ρ 0 mx, evNat ρ 0 hi, evNat ρ 0 lo with
    | some 0, some 0, some 0 => bif mx.isNone || hi.isSome then some .nilSlc else none
    | _, _, _ => none
  | .emp =>
    match evNat ρ 0 mx, evNat ρ 0 hi, evNat ρ 0 lo with
    | some 0, some 0, some 0 => bif mx.isNone || hi.isSome then some .emp else none
    | _, _, _ => none
  | _ => none

def sliceS (ρ : Regs) (x : AV) (lo hi : Option Opd) : Option AV :=
  match x with
  | .str s => match evNat ρ s.length hi, evNat ρ 0 lo with
    | some h, some l => bif Nat.ble l h && Nat.ble h s.length then some (.str ((s.take h).drop l)) else none
    | _, _ => none
  | _ => none

/-- The elements that an append or a copy takes. -/
def source (h : AHeap) (sz : Nat) : AV → Option (List (List AV))
  | .nilSlc => some []
  | .emp => some []
  | .slc id g s len _ _ => bif Nat.beq len 0 then some [] else match h.row id with
    | some r => bif Nat.ble r.m g && Nat.beq r.sz sz then (let l := (r.es.drop s).take len; bif Nat.beq l.length len then some l else none) else none
    | none => none
  | .str s => bif Nat.beq sz 1 then some (s.map fun b => [.int .u8 (.ofNat b)]) else none
  | _ => none

def appendNew (h : AHeap) (sz bytes : Nat) (s : AV) (new : List (List AV)) (ty : Option Nat := none) : Option (AV × AHeap) :=
    match s with
    | .nilSlc => match new with
      | [] => some (.nilSlc, h)
      | _ => bif Nat.ble (new.length * bytes) most && Nat.ble new.length most then some (.slc h.sz 0 0 new.length new.length false, newRow h new sz ty) else none
    | .emp => match new with
      | [] => some (.emp, h)
      | _ => bif Nat.ble (new.length * bytes) most && Nat.ble new.length most then some (.slc h.sz 0 0 new.length new.length false, newRow h new sz ty) else none
    | .slc id g st len cap ex =>
      match new with
      | [] => some (s, h)
      | _ => match h.row id with
        | none => none
        | some r =>
          bif Nat.ble ((len + new.length) * bytes) most && Nat.ble (len + new.length) most && Nat.beq r.sz sz then
            bif Nat.ble (len + new.length) cap then
              (bif r.rw && Nat.beq g r.g then some (.slc id g st (len + new.length) cap ex, h.put id (.row { r with es := lay r.es (st + len) new, m := r.g })) else none)
            else bif ex then
              (bif Nat.ble r.m g then (let old := (r.es.drop st).take len; bif Nat.beq old.length len then some (.slc h.sz 0 0 (len + new.length) (len + new.length) false, newRow h (old ++ new) sz ty) else none) else none)
            else bif r.rw && Nat.beq g r.g && Nat.beq st 0 then
              (bif Nat.beq len r.es.length then some (.slc id (r.g + 1) 0 (len + new.length) (len + new.length) false, h.put id (.row { r with es := r.es ++ new, g := r.g + 1, ty := tyJoin r.ty ty }))
              else some (.slc id (r.g + 1) 0 (len + new.length) (len + new.length) false, h.put id (.row { r with es := r.es.take len ++ new, g := r.g + 1, m := r.g + 1, ty := tyJoin r.ty ty })))
            else none
          else none
    | _ => none

def appendA (h : AHeap) (sz bytes : Nat) (s x : AV) (ty : Option Nat := none) : Option (AV × AHeap) :=
  bif Nat.beq sz 0 then none else
  match source h sz x with
  | none => none
  | some new => appendNew h sz bytes s new ty

def storeRow (h : AHeap) (sz id g st : Nat) (new : List (List AV)) : Option AHeap :=
  match h.row id with
  | some r => bif r.rw && Nat.beq g r.g && Nat.beq r.sz sz && Nat.ble (st + new.length) r.es.length then some (h.put id (.row { r with es := lay r.es st new, m := r.g })) else none
  | none => none

def copyA (h : AHeap) (sz : Nat) (d s : AV) : Option (AV × AHeap) :=
  bif Nat.beq sz 0 then none else
  match source h sz s with
  | none => none
  | some src => match d with
    | .nilSlc => some (.int .i64 0, h)
    | .emp => some (.int .i64 0, h)
    | .slc id g st len _ _ =>
      let new := src.take len
      match new with
      | [] => some (.int .i64 0, h)
      | _ => match storeRow h sz id g st new with
        | some h' => some (.int .i64 (.ofNat new.length), h')
        | none => none
    | _ => none

def appzA (h : AHeap) (sz bytes : Nat) (z : List AV) (s x : AV) : Option (AV × AHeap) :=
  bif Nat.blt 0 sz && Nat.beq z.length sz && allLeaf z then
    (match asNat x with
    | some n => bif Nat.ble n most && Nat.ble (n * bytes) most then appendNew h sz bytes s (repl n z) else none
    | none => none)
  else none

/-! ### Maps -/
def findE (k : AV) : List (AV × AV × Nat) → Option (Option AV)
  | [] => some none
  | (k', v, _) :: l => match keyEq k k' with
    | some true => some (some v)
    | some false => findE k l
    | none => none

def setE (k v : AV) : List (AV × AV × Nat) → List (AV × AV × Nat)
  | [] => []
  | (k', v', b) :: l => match keyEq k k' with
    | some true => (k, v, b) :: l
    | _ => (k', v', b) :: setE k v l

def delE (k : AV) : List (AV × AV × Nat) → List (AV × AV × Nat)
  | [] => []
  | (k', v', b) :: l => match keyEq k k' with
    | some true => l
    | _ => (k', v', b) :: delE k l

def mapOf (h : AHeap) : AV → Option (List (AV × AV × Nat) × Nat)
  | .map id => match h.get id with
    | some (.map es c) => some (es, c)
    | some (.rmap es c) => some (es, c)
    | _ => none
  | .nilMap => some ([], 0)
  | _ => none

def lookA (h : AHeap) (kk : KK) (ok : Bool) (z m k : AV) : Option AV :=
  bif fitsKK kk k then
    match mapOf h m with
    | some (es, _) => match findE k es with
      | some (some v) => some (bif ok then .tup [v, .bool true] else v)
      | some none => some (bif ok then .tup [z, .bool false] else z)
      | none => none
    | none => none
  else none

def mupdA (h : AHeap) (kk : KK) (m k v : AV) : Option AHeap :=
  bif fitsKK kk k then
    match m with
    | .map id => match h.get id with
      | some (.map es c) => match findE k es with
        | some (some _) => some (h.put id (.map (setE k v es) c))
        | some none => some (h.put id (.map (es ++ [(k, v, c)]) (c + 1)))
        | none => none
      | _ => none
    | _ => none
  else none

def delA (h : AHeap) (kk : KK) (m k : AV) : Option AHeap :=
  bif fitsKK kk k then
    match m with
    | .nilMap => some h
    | .map id => match h.get id with
      | some (.map es c) => match findE k es with
        | some (some _) => some (h.put id (.map (delE k es) c))
        | some none => some h
        | none => none
      | _ => none
    | _ => none
  else none

/-- k: 0 of a string, 1 of a slice, 2 of a map. -/
def lenA (h : AHeap) (k : Nat) (x : AV) : Option AV :=
  match k, x with
  | 0, .str s => some (.int .i64 (.ofNat s.length))
  | 1, .slc _ _ _ n _ _ => some (.int .i64 (.ofNat n))
  | 1, .nilSlc => some (.int .i64 0)
  | 1, .emp => some (.int .i64 0)
  | 2, .nilMap => some (.int .i64 0)
  | 2, .map id => match h.get id with
    | some (.map es _) => some (.int .i64 (.ofNat es.length))
    | some (.rmap es _) => some (.int .i64 (.ofNat es.length))
    | _ => none
  | _, _ => none

def capA : AV → Option AV
  | .nilSlc => some (.int .i64 0)
  | .emp => some (.int .i64 0)
  | .slc _ _ _ _ c true => some (.int .i64 (.ofNat c))
  | _ => none

def bytesOf : List (List AV) → Option (List Nat)
  | [] => some []
  | [.int .u8 (.ofNat n)] :: l => match bytesOf l with
    | some r => bif Nat.blt n 256 then some (n :: r) else none
    | none => none
  | _ => none

def mmA (mx : Bool) : AV → List AV → Option AV
  | .int k a, [] => some (.int k a)
  | .int k a, .int j b :: l => bif Nat.beq (kidx k) (kidx j) then mmA mx (.int k (bif mx then (bif iltb a b then b else a) else (bif iltb b a then b else a))) l else none
  | _, _ => none

/-! ### One operation (but a call) -/
def pureV (o : Option AV) (h : AHeap) : Option (AV × AHeap) :=
  match o with
  | some v => some (v, h)
  | none => none

def unit (o : Option AHeap) : Option (AV × AHeap) :=
  match o with
  | some h => some (.tup [], h)
  | none => none

def ev1 (ρ : Regs) (x : Opd) (f : AV → Option AV) : Option AV :=
  match ev ρ x with
  | some v => f v
  | none => none

def ev2 (ρ : Regs) (x y : Opd) (f : AV → AV → Option AV) : Option AV :=
  match ev ρ x with
  | some v => (match ev ρ y with
    | some w => f v w
    | none => none)
  | none => none

def notA : AV → Option AV
  | .bool b => some (.bool (!b))
  | _ => none

def negA : AV → Option AV
  | .int k n => some (.int k (wrapA k (0 - n)))
  | _ => none

def convA (k : IntKind) : AV → Option AV
  | .int _ n => some (.int k (wrapA k n))
  | _ => none

def cvsA : AV → Option AV
  | .str s => some (.str s)
  | _ => none

def nilckA : AV → Option AV
  | .nilPtr => none
  | .nilFn => none
  | .nilIf => none
  | v => some v

def fadrA (off : Nat) : AV → Option AV
  | .ptr id g i o => some (.ptr id g i (o + off))
  | _ => none

def fldA (ag : Bool) (off n : Nat) : AV → Option AV
  | .agg l => partA ag off n l
  | _ => none

def iadrA (h : AHeap) (sz : Nat) : AV → AV → Option AV
  | .slc id g s len _ _, v => match asNat v with
    | some i => bif Nat.blt i len && rowSz h id sz then some (.ptr id g (s + i) 0) else none
    | none => none
  | _, _ => none

def iadraA (len esz : Nat) : AV → AV → Option AV
  | .ptr id g j o, v => match asNat v with
    | some i => bif Nat.blt i len then some (.ptr id g j (o + i * esz)) else none
    | none => none
  | _, _ => none

def idxsA : AV → AV → Option AV
  | .str s, v => match asNat v with
    | some i => match nth s i with
      | some b => some (.int .u8 (.ofNat b))
      | none => none
    | none => none
  | _, _ => none

def idxaA (ag : Bool) (len esz : Nat) : AV → AV → Option AV
  | .agg l, v => match asNat v with
    | some i => bif Nat.blt i len then partA ag (i * esz) esz l else none
    | none => none
  | _, _ => none

def extA (i : Nat) : AV → Option AV
  | .tup l => nth l i
  | _ => none

def b2sA (h : AHeap) (v : AV) : Option AV :=
  match v with
  | .nilSlc => some (.str [])
  | .emp => some (.str [])
  | .slc .. => match source h 1 v with
    | some l => match bytesOf l with
      | some s => some (.str s)
      | none => none
    | none => none
  | _ => none

/-- A pointer into a row of one's own, seen as an unsafe one. -/
def utoA (h : AHeap) : AV → Option AV
  | .nilPtr => some .nilPtr
  | .ptr id g i o => match h.row id with
    | some r => bif r.rw && Nat.ble r.m g && Nat.beq g r.g && Nat.blt i r.es.length && Nat.blt o r.sz then some (.ptr id g i o) else none
    | none => none
  | _ => none

/-- Does one of the list lie there: a type, its size, a field's place? -/
def heldIn : List (Nat × Nat × Nat) → Nat → Nat → Nat → Bool
  | [], _, _, _ => false
  | (a, b, c) :: l, u, s, o => bif Nat.beq a u && Nat.beq b s && Nat.beq c o then true else heldIn l u s o

/-- ... and back, to the type that is noted, or to a field's of it. -/
def ufrA (h : AHeap) (t n : Nat) (us : List (Nat × Nat × Nat)) : AV → Option AV
  | .nilPtr => some .nilPtr
  | .ptr id g i o => match h.row id with
    | some r => (match r.ty with
      | some u => bif r.rw && Nat.ble r.m g && Nat.beq g r.g && Nat.beq i 0 && Nat.blt 0 r.es.length && ((Nat.beq u t && Nat.beq o 0 && Nat.beq r.sz n) || heldIn us u r.sz o) then some (.ptr id g i o) else none
      | none => none)
    | none => none
  | _ => none

def sdatA : AV → Option AV
  | .nilSlc => some .nilPtr
  | .slc id g s _ cap _ => bif Nat.blt 0 cap then some (.ptr id g s 0) else none
  | _ => none

/-- The bytes from a place on, as a string: they may not be written any more. -/
def ustrA (h : AHeap) (e : Nat) (p n : AV) : Option (AV × AHeap) :=
  match n with
  | .int .i64 (.ofNat k) => match p with
    | .nilPtr => bif Nat.beq k 0 then some (.str [], h) else none
    | .ptr id g i o => bif Nat.beq k 0 then some (.str [], h) else
      match h.row id with
      | some r => (match r.ty with
        | some u => bif r.rw && Nat.beq g r.g && Nat.beq u e && Nat.beq i 0 && Nat.beq o 0 && Nat.beq r.sz 1 && Nat.ble k most then
            (let l := r.es.take k
             bif Nat.beq l.length k then
               (match bytesOf l with
               | some s => some (.str s, h.put id .gone)
               | none => none)
             else none)
          else none
        | none => none)
      | none => none
    | _ => none
  | _ => none

def mkslA (h : AHeap) (sz bytes : Nat) (z : List AV) (l c : AV) : Option (AV × AHeap) :=
  match asNat l, asNat c with
  | some l, some c => bif Nat.ble l c && Nat.ble (c * bytes) most && Nat.ble c most && Nat.beq z.length sz && Nat.blt 0 sz && allLeaf z then some (.slc h.sz 0 0 l c true, newRow h (repl c z) sz) else none
  | _, _ => none

def clrA (h : AHeap) (sz : Nat) (z : List AV) (v : AV) : Option AHeap :=
  match v with
  | .nilSlc => some h
  | .emp => some h
  | .slc id g st len _ _ => bif Nat.beq len 0 then some h else bif Nat.beq z.length sz && allLeaf z && Nat.blt 0 sz then storeRow h sz id g st (repl len z) else none
  | _ => none

def rngA (h : AHeap) (v : AV) : Option (AV × AHeap) :=
  match v with
  | .nilMap => some (.itr h.sz, h.push (.iter none 0 [] 0))
  | .map id => match h.get id with
    | some (.map _ c) => some (.itr h.sz, h.push (.iter (some id) c [] c))
    | _ => none
  | _ => none

def memN : Nat → List Nat → Bool
  | _, [] => false
  | n, m :: l => bif Nat.beq n m then true else memN n l

/-- What an iterator may come to next: 'none': the end. -/
def cands (es : List (AV × AV × Nat)) (since : Nat) (seen : List Nat) : List (Option (AV × AV × Nat)) :=
  let left := es.filter fun e => !memN e.2.2 seen
  let old := left.filter fun e => Nat.blt e.2.2 since
  let new := left.filter fun e => !Nat.blt e.2.2 since
  (bif old.isEmpty then [none] else []) ++ (old ++ new).map some

def findBorn (b : Nat) : List (AV × AV × Nat) → Option (AV × AV × Nat)
  | [] => none
  | e :: l => bif Nat.beq e.2.2 b then some e else findBorn b l

def entA (h : AHeap) : AV → Option AV
  | .itr id => match h.get id with
    | some (.iter (some m) _ (b :: _) stepped) => match h.get m with
      | some (.map es clock) => bif Nat.beq clock stepped then
          (match findBorn b es with
          | some e => some (.tup [e.1, e.2.1])
          | none => none)
        else none
      | _ => none
    | _ => none
  | _ => none

def mkifA (t : Nat) (v : AV) : Option AV :=
  match v with
  | .tup _ => none
  | .pan _ => none
  | v => some (.ifc t v)

def tasA (t : Nat) (ok : Bool) (z : AV) : AV → Option AV
  | .ifc u v => bif Nat.beq u t then some (bif ok then .tup [v, .bool true] else v) else bif ok then some (.tup [z, .bool false]) else none
  | .nilIf => bif ok then some (.tup [z, .bool false]) else none
  | _ => none

def evalA (ρ : Regs) (h : AHeap) (op : AOp) : Option (AV × AHeap) :=
  match op with
  | .mv x => pureV (ev ρ x) h
  | .pick c a b => match ev ρ c with
    | some (.bool true) => pureV (ev ρ a) h
    | some (.bool false) => pureV (ev ρ b) h
    | _ => none
  | .alloc z => allocA h z
  | .box ty n x => match ev ρ x with
    | some v => boxA h ty n v
    | none => none
  | .build z parts => match fillA ρ z parts with
    | some l => some (.agg l, h)
    | none => none
  | .bslice n sz z parts => bif Nat.beq z.length sz && Nat.blt 0 sz && Nat.ble (n * sz) 16777216 && allLeaf z then
      (match fillRow ρ sz (repl n z) parts with
      | some es => some (.slc h.sz 0 0 n n true, newRow h es sz)
      | none => none)
    else none
  | .load ag n a => pureV (ev1 ρ a (loadA h ag n)) h
  | .store n a v => match ev ρ a, ev ρ v with
    | some a, some v => unit (storeA h n a v)
    | _, _ => none
  | .stw n a v b => match ev ρ a, ev ρ v, ev ρ b with
    | some a, some v, some b => bif apartP a b then unit (storeA h n a v) else none
    | _, _, _ => none
  | .nilck x => pureV (ev1 ρ x nilckA) h
  | .bin op x y => pureV (ev2 ρ x y (binA op)) h
  | .eq neg k x y => match ev ρ x, ev ρ y with
    | some a, some b => match eqA h k a b with
      | some r => some (.bool (bif neg then !r else r), h)
      | none => none
    | _, _ => none
  | .not x => pureV (ev1 ρ x notA) h
  | .neg x => pureV (ev1 ρ x negA) h
  | .conv k x => pureV (ev1 ρ x (convA k)) h
  | .b2s x => pureV (ev1 ρ x (b2sA h)) h
  | .cvs x => pureV (ev1 ρ x cvsA) h
  | .mkfn f first cap => match evs ρ first, evs ρ cap with
    | some a, some b => some (.fn (.func f) a b, h)
    | _, _ => none
  | .mkmap => some (.map h.sz, h.push (.map [] 0))
  | .mksl sz bytes z l c => match ev ρ l, ev ρ c with
    | some l, some c => mkslA h sz bytes z l c
    | _, _ => none
  | .sl sz x lo hi mx => pureV (ev1 ρ x fun v => sliceA ρ h sz v lo hi mx) h
  | .sls x lo hi => pureV (ev1 ρ x fun v => sliceS ρ v lo hi) h
  | .fadr off x => pureV (ev1 ρ x (fadrA off)) h
  | .fld ag off n x => pureV (ev1 ρ x (fldA ag off n)) h
  | .iadr sz x i => pureV (ev2 ρ x i (iadrA h sz)) h
  | .iadra len esz x i => pureV (ev2 ρ x i (iadraA len esz)) h
  | .idxs x i => pureV (ev2 ρ x i idxsA) h
  | .idxa ag len esz x i => pureV (ev2 ρ x i (idxaA ag len esz)) h
  | .look kk ok z m k => pureV (ev2 ρ m k (lookA h kk ok z)) h
  | .mupd kk m k v => match ev ρ m, ev ρ k, ev ρ v with
    | some m, some k, some v => unit (mupdA h kk m k v)
    | _, _, _ => none
  | .ext x i => pureV (ev1 ρ x (extA i)) h
  | .len k x => pureV (ev1 ρ x (lenA h k)) h
  | .cap x => pureV (ev1 ρ x capA) h
  | .app sz bytes s x => match ev ρ s, ev ρ x with
    | some s, some x => appendA h sz bytes s x
    | _, _ => none
  | .appz sz bytes z s x => match ev ρ s, ev ρ x with
    | some s, some x => appzA h sz bytes z s x
    | _, _ => none
  | .allot t z => bif Nat.blt 0 z.length && allLeaf z then some (.ptr h.sz 0 0 0, newRow h [z] z.length (some t)) else none
  | .appb e s x => match ev ρ s, ev ρ x with
    | some s, some x => appendA h 1 1 s x (some e)
    | _, _ => none
  | .uto x => pureV (ev1 ρ x (utoA h)) h
  | .ufr t n us x => pureV (ev1 ρ x (ufrA h t n us)) h
  | .sdat x => pureV (ev1 ρ x sdatA) h
  | .ustr e p n => match ev ρ p, ev ρ n with
    | some p, some n => ustrA h e p n
    | _, _ => none
  | .copy sz d s => match ev ρ d, ev ρ s with
    | some d, some s => copyA h sz d s
    | _, _ => none
  | .rng x => match ev ρ x with
    | some v => rngA h v
    | none => none
  | .ent x => pureV (ev1 ρ x (entA h)) h
  | .nxt _ => none
  | .del kk m k => match ev ρ m, ev ρ k with
    | some m, some k => unit (delA h kk m k)
    | _, _ => none
  | .clr sz z x => match ev ρ x with
    | some v => unit (clrA h sz z v)
    | none => none
  | .mm mx xs => match evs ρ xs with
    | some (v :: l) => pureV (mmA mx v l) h
    | _ => none
  | .mkif t x => pureV (ev1 ρ x (mkifA t)) h
  | .tas t ok z x => pureV (ev1 ρ x (tasA t ok z)) h
  | .fail => none
  | .call .. => none
  | .pnc _ => none
  | .dfr .. => none
  | .rcv => none

/-! ### Equality of values, for the check of reads that may come early or late -/
def sameFn : AFn → AFn → Bool
  | .func f, .func g => Nat.beq f g
  | .yield a, .yield b => Nat.beq a b
  | _, _ => false

mutual
def AV.same : AV → AV → Bool
  | .bool a, .bool b => a == b
  | .int k a, .int j b => Nat.beq (kidx k) (kidx j) && ieqb a b
  | .str a, .str b => leqb a b
  | .ptr a b c d, .ptr a' b' c' d' => Nat.beq a a' && Nat.beq b b' && Nat.beq c c' && Nat.beq d d'
  | .nilPtr, .nilPtr => true
  | .slc a b c d e f, .slc a' b' c' d' e' f' => Nat.beq a a' && Nat.beq b b' && Nat.beq c c' && Nat.beq d d' && Nat.beq e e' && (f == f')
  | .nilSlc, .nilSlc => true
  | .emp, .emp => true
  | .map a, .map b => Nat.beq a b
  | .nilMap, .nilMap => true
  | .fn f a b, .fn f' a' b' => sameFn f f' && sames a a' && sames b b'
  | .nilFn, .nilFn => true
  | .agg l, .agg m => sames l m
  | .tup l, .tup m => sames l m
  | .nilIf, .nilIf => true
  | .ifc t v, .ifc u w => Nat.beq t u && AV.same v w
  | _, _ => false
def sames : List AV → List AV → Bool
  | [], [] => true
  | a :: l, b :: m => AV.same a b && sames l m
  | _, _ => false
end

/-! ### The runner: what it is handed at its end says whether all is well; where the model draws, it is asked at each outcome -/
abbrev Kont := AV → AHeap → Bool
abbrev CallFn := AFn → List AV → AHeap → Kont → Bool
abbrev KSt := AV → St → Bool
abbrev KEx := AExit → St → Bool

def put (ρ : Regs) (dst : Option Nat) (v : AV) : Regs :=
  match dst with
  | some d => ρ.set d v
  | none => ρ

def wantedA (ρ : Regs) : Option (Nat × Bool) → Option Bool
  | none => some true
  | some (d, b) => match ρ.get d with
    | some (.bool c) => some (c == b)
    | some _ => some false
    | none => none

/-- One step of an iterator over a map, at each outcome. -/
def nextA (h : AHeap) (v : AV) (K : Kont) : Bool :=
  match v with
  | .itr id => match h.get id with
    | some (.iter none _ _ _) => K (.tup [.bool false]) h
    | some (.iter (some m) since seen last) => match h.get m with
      | some (.map es clock) =>
        bif !seen.isEmpty && !es.isEmpty && es.all (fun e => !Nat.blt e.2.2 last) then false
        else (cands es since seen).all fun
          | none => K (.tup [.bool false]) h
          | some e => K (.tup [.bool true, e.1, e.2.1]) (h.put id (.iter (some m) since (e.2.2 :: seen) clock))
      | _ => false
    | _ => false
  | _ => false

def evalK (call : CallFn) (ρ : Regs) (h : AHeap) (op : AOp) (K : Kont) : Bool :=
  match op with
  | .call f args => match ev ρ f, evs ρ args with
    | some (.fn tgt first cap), some as => call tgt (first ++ as ++ cap) h K
    | _, _ => false
  | .nxt x => match ev ρ x with
    | some v => nextA h v K
    | none => false
  | .pnc x => match ev ρ x with
    | some (.ifc t v) => K (.pan (.ifc t v)) h
    | _ => false
  | op => match evalA ρ h op with
    | some (v, h') => K v h'
    | none => false

def isCall : AOp → Bool
  | .call .. => true
  | .nxt _ => true
  | .pnc _ => true
  | .dfr .. => true
  | .rcv => true
  | _ => false

/-- Only a call can end in a panic. -/
def panO (c : Bool) (v : AV) : Option AV := bif c then isPan v else none

/-- A panic leaves nothing. -/
def putP (ρ : Regs) (c : Bool) (dst : Option Nat) (v : AV) : Regs :=
  match panO c v with
  | some _ => ρ
  | none => put ρ dst v

def stepA (call : CallFn) (o : AOper) (σ : St) (K : KSt) : Bool :=
  match wantedA σ.regs o.grd with
  | some true => evalK call σ.regs σ.h o.op fun v h' => K v ⟨putP σ.regs (isCall o.op) o.dst v, h'⟩
  | some false => K (.tup []) ⟨put σ.regs o.dst (.tup []), σ.h⟩
  | none => false

def runR (call : CallFn) : List AOper → St → KEx → Bool
  | [], σ, K => K .normal σ
  | o :: l, σ, K => stepA call o σ fun v σ' => match panO (isCall o.op) v with
    | some x => K (.panic x) σ'
    | none => runR call l σ' K

/-- Operations that do not act, one after the other. -/
def calcA : List AOper → Regs → AHeap → Option Regs
  | [], ρ, _ => some ρ
  | o :: l, ρ, h => match wantedA ρ o.grd with
    | some true => (match evalA ρ h o.op with
      | some (v, _) => calcA l (put ρ o.dst v) h
      | none => none)
    | some false => calcA l (put ρ o.dst (.tup [])) h
    | none => none

/-- A read says the same as before. -/
def againOne (ρ : Regs) (h : AHeap) (o : AOper) : Bool :=
  match wantedA ρ o.grd with
  | some true => (match evalA ρ h o.op with
    | some (v, _) => (match o.dst with
      | some d => (match ρ.get d with
        | some u => AV.same v u
        | none => false)
      | none => true)
    | none => false)
  | some false => true
  | none => false

def again (ρ : Regs) (h : AHeap) : List AOper → Bool
  | [] => true
  | o :: l => bif againOne ρ h o then again ρ h l else false

def calcK (l : List AOper) (ρ : Regs) (h : AHeap) (K : Regs → Bool) : Bool :=
  match calcA l ρ h with
  | some ρ' => K ρ'
  | none => false

/-- What may come up ahead of its turn. -/
def isEarlyA (o : AOper) : Bool :=
  match o.grd with
  | some _ => false
  | none => match o.op with
    | .alloc _ | .allot _ _ | .box _ _ _ | .mkmap | .mksl _ _ _ _ _ | .bslice _ _ _ _ => true
    | _ => false

/-- Of these nothing is known any more. -/
def goneAll : List Nat → AHeap → Option AHeap
  | [], h => some h
  | id :: l, h => match h.get id with
    | some o => bif o.own then goneAll l (h.put id .gone) else none
    | none => none

/-- 'ρ0': what is left of the temporaries where an act ends in a panic; 'es': what has come up that may come ahead of its turn. -/
def runD (call : CallFn) (ρ0 : Regs) : List Nat → List (AOper × List AOper × List AOper) → St → KEx → Bool
  | _, [], σ, K => K .normal σ
  | es, (act, chk, ns) :: rest, σ, K => stepA call act σ fun v σ' => match panO (isCall act.op) v with
    | some x => (match goneAll es σ'.h with
      | some h => K (.panic x) ⟨ρ0, h⟩
      | none => false)
    | none =>
      bif again σ'.regs σ'.h chk then
        (match calcA ns σ'.regs σ'.h with
        | some ρ => runD call ρ0 (bif isEarlyA act then σ.h.sz :: es else es) rest ⟨ρ, σ'.h⟩ K
        | none => false)
      else false

/-- The temporaries that no operation of a region writes. -/
def unset (ρ : Regs) : Option Nat → Regs
  | some d => ρ.setO d none
  | none => ρ
def unsets : List AOper → Regs → Regs
  | [], ρ => ρ
  | o :: l, ρ => unsets l (unset ρ o.dst)
def unsetP : List (AOper × List AOper × List AOper) → Regs → Regs
  | [], ρ => ρ
  | (a, _, ns) :: l, ρ => unsetP l (unsets ns (unset ρ a.dst))

def iter (f : St → KEx → Bool) (K : KEx) : Nat → St → Bool
  | 0, _ => false
  | n + 1, σ => f σ fun x σ' => match x with
    | .normal => iter f K n σ'
    | x => K x σ'

def iterG (l : Nat) (f : St → KEx → Bool) (K : KEx) : Nat → St → Bool
  | 0, _ => false
  | n + 1, σ => f σ fun x σ' => match x with
    | .goto l' => bif Nat.beq l' l then iterG l f K n σ' else false
    | x => K x σ'

def keepR : List Nat → Regs → Regs
  | [], _ => .lf
  | k :: ks, ρ => match ρ.get k with
    | some v => (keepR ks ρ).set k v
    | none => keepR ks ρ

def rsOk (ρ : Regs) : List (Nat × AV) → Bool
  | [] => true
  | (k, v) :: l => match ρ.get k with
    | some u => bif AV.same u v then rsOk ρ l else false
    | none => false
def elsSame : List (List AV) → List (List AV) → Bool
  | [], [] => true
  | a :: l, b :: m => bif sames a b then elsSame l m else false
  | _, _ => false
def entsSame : List (AV × AV × Nat) → List (AV × AV × Nat) → Bool
  | [], [] => true
  | (a, b, n) :: l, (a', b', n') :: m => bif AV.same a a' && AV.same b b' && Nat.beq n n' then entsSame l m else false
  | _, _ => false
def tySame : Option Nat → Option Nat → Bool
  | none, none => true
  | some a, some b => Nat.beq a b
  | _, _ => false
def CObj.obj : CObj → AObj
  | .row es sz g m rw ty => .row { es, sz, g, m, rw, ty }
  | .map es c => .map es c
  | .gvar b => .gvar b
def objSame (o : AObj) : CObj → Bool
  | .row es sz g m rw ty => (match o with
    | .row r => elsSame r.es es && Nat.beq r.sz sz && Nat.beq r.g g && Nat.beq r.m m && (r.rw == rw) && tySame r.ty ty
    | _ => false)
  | .map es c => (match o with
    | .map es' c' => entsSame es' es && Nat.beq c' c
    | _ => false)
  | .gvar b => (match o with
    | .gvar b' => Nat.beq b' b
    | _ => false)
def osOk (h : AHeap) (sz : Nat) : List (Nat × CObj) → Bool
  | [] => true
  | (k, o) :: l => match h.get k with
    | some u => bif objSame u o && Nat.blt k sz then osOk h sz l else false
    | none => false
def covers (σ : St) (c : Cut) : Bool := bif Nat.ble σ.h.sz c.sz then (bif rsOk σ.regs c.rs then osOk σ.h c.sz c.os else false) else false
def regsT : List (Nat × AV) → Regs
  | [] => .lf
  | (k, v) :: l => (regsT l).set k v
def objsT : List (Nat × CObj) → PT AObj
  | [] => .lf
  | (k, o) :: l => (objsT l).set k o.obj
def Cut.st (c : Cut) : St := ⟨regsT c.rs, ⟨c.sz, objsT c.os⟩⟩
def pickC (σ : St) : List Cut → Option Cut
  | [] => none
  | c :: l => bif covers σ c then some c else pickC σ l

def runC (call : CallFn) (n : Nat) : ACode → St → KEx → Bool
  | .skip, σ, K => K .normal σ
  | .reg ops, σ, K => runR call ops σ K
  | .dreg n0 rest, σ, K => match calcA n0 σ.regs σ.h with
    | some ρ => runD call (unsetP rest (unsets n0 σ.regs)) [] rest ⟨ρ, σ.h⟩ K
    | none => false
  | .seq a b, σ, K => runC call n a σ fun x σ' => match x with
    | .normal => runC call n b σ' K
    | x => K x σ'
  | .cond c a b, σ, K => match ev σ.regs c with
    | some (.bool true) => runC call n a σ K
    | some (.bool false) => runC call n b σ K
    | _ => false
  | .block id c, σ, K => runC call n c σ fun x σ' => match x with
    | .exit i => bif Nat.beq i id then K .normal σ' else K (.exit i) σ'
    | x => K x σ'
  | .loop c, σ, K => iter (runC call n c) K n σ
  | .rf f ps asg body, σ, K => match ev σ.regs f with
    | some (.fn (.func fid) first cap) =>
      call (.func fid) (first ++ [.fn (.yield σ.h.sz) [] []] ++ cap) (σ.h.push (.loop { regs := σ.regs, ps, asg, body, st := .ready })) fun v h' =>
        match isPan v with
        | some _ => false
        | none =>
        match h'.get σ.h.sz with
        | some (.loop l) => match l.st with
          | .ready => K .normal ⟨σ.regs, h'.put σ.h.sz (.loop { l with st := .exh })⟩
          | .done x => K x ⟨σ.regs, h'.put σ.h.sz (.loop { l with st := .exh })⟩
          | _ => false
        | _ => false
    | _ => false
  | .exit id, σ, K => K (.exit id) σ
  | .scope c l r, σ, K => runC call n c σ fun x σ' => match x with
    | .goto l' => bif Nat.beq l' l then iterG l (runC call n r) K n σ' else false
    | x => K x σ'
  | .label _, σ, K => K .normal σ
  | .goto l, σ, K => K (.goto l) σ
  | .ret, σ, K => K .ret σ
  | .refuse, _, _ => false
  | .keep ks c, σ, K => runC call n c ⟨keepR ks σ.regs, σ.h⟩ K
  | .cut cs c, σ, K => match pickC σ cs with
    | some s => runC call n c s.st K
    | none => runC call n c σ K

/-- The code without what is said of the temporaries that are kept. -/
def strip : ACode → ACode
  | .keep _ c => strip c
  | .cut _ c => strip c
  | .seq a b => .seq (strip a) (strip b)
  | .cond c a b => .cond c (strip a) (strip b)
  | .block id c => .block id (strip c)
  | .loop c => .loop (strip c)
  | .rf f ps asg body => .rf f ps (strip asg) (strip body)
  | .scope c l r => .scope (strip c) l (strip r)
  | .skip => .skip
  | .reg ops => .reg ops
  | .dreg n0 rest => .dreg n0 rest
  | .exit id => .exit id
  | .label l => .label l
  | .goto l => .goto l
  | .ret => .ret
  | .refuse => .refuse

structure AFun where
  np : Nat
  res : List (Nat × Option (Bool × Nat))
  body : ACode

structure Env where
  code : Nat → Option AFun
  prim : Nat → Option (CallFn → Nat → List AV → AHeap → Kont → Bool)

def stripF (fn : AFun) : AFun := { fn with body := strip fn.body }

def initR : Nat → List AV → Regs → Regs
  | _, [], ρ => ρ
  | i, v :: l, ρ => initR (i + 1) l (ρ.set i v)

def resultA (ρ : Regs) (h : AHeap) : Nat × Option (Bool × Nat) → Option AV
  | (t, none) => ρ.get t
  | (t, some (ag, n)) => match ρ.get t with
    | some a => loadA h ag n a
    | none => none

def resultsA (ρ : Regs) (h : AHeap) : List (Nat × Option (Bool × Nat)) → Option (List AV)
  | [] => some []
  | r :: l => match resultA ρ h r with
    | some v => match resultsA ρ h l with
      | some vs => some (v :: vs)
      | none => none
    | none => none

def oneOf : List AV → AV
  | [v] => v
  | l => .tup l

def setPs : List Nat → List AV → Regs → Option Regs
  | [], [], ρ => some ρ
  | p :: ps, v :: vs, ρ => setPs ps vs (ρ.set p v)
  | _, _, _ => none

/-- No loop that ranges over a function. -/
def noRf : ACode → Bool
  | .rf _ _ _ _ => false
  | .seq a b => noRf a && noRf b
  | .cond _ a b => noRf a && noRf b
  | .block _ c => noRf c
  | .loop c => noRf c
  | .scope c _ r => noRf c && noRf r
  | .keep _ c => noRf c
  | .cut _ c => noRf c
  | _ => true

/-- Where a function ends: it returns; it panics. -/
inductive Mode where
  | ret
  | pan (v : AV)

/-- A deferred function that may recover: 'true': it has. -/
abbrev KMo := AExit → Bool → St → Bool

def rcvV (μ : Mode) (done : Bool) : AV :=
  match μ with
  | .ret => .nilIf
  | .pan v => bif done then .nilIf else v
def rcvD (μ : Mode) (done : Bool) : Bool :=
  match μ with
  | .ret => done
  | .pan _ => true

/-- A region of a deferred function: no calls; it may recover. -/
def runRS (μ : Mode) : List AOper → Bool → St → KMo → Bool
  | [], d, σ, K => K .normal d σ
  | o :: l, d, σ, K => match wantedA σ.regs o.grd with
    | some true => (match o.op with
      | .rcv => runRS μ l (rcvD μ d) ⟨put σ.regs o.dst (rcvV μ d), σ.h⟩ K
      | op => match evalA σ.regs σ.h op with
        | some (v, h') => runRS μ l d ⟨put σ.regs o.dst v, h'⟩ K
        | none => false)
    | some false => runRS μ l d ⟨put σ.regs o.dst (.tup []), σ.h⟩ K
    | none => false

def isRcv : AOp → Bool
  | .rcv => true
  | _ => false
def hasRcv : List AOper → Bool
  | [] => false
  | o :: l => bif isRcv o.op then true else hasRcv l

def runS (call : CallFn) (n : Nat) (μ : Mode) : ACode → Bool → St → KMo → Bool
  | .seq a b, d, σ, K => runS call n μ a d σ fun x d' σ' => match x with
    | .normal => runS call n μ b d' σ' K
    | x => K x d' σ'
  | .cond c a b, d, σ, K => (match ev σ.regs c with
    | some (.bool true) => runS call n μ a d σ K
    | some (.bool false) => runS call n μ b d σ K
    | _ => false)
  | .reg ops, d, σ, K => bif hasRcv ops then runRS μ ops d σ K else runC call n (.reg ops) σ fun x σ' => K x d σ'
  | c, d, σ, K => runC call n c σ fun x σ' => K x d σ'

/-- Behind a deferred call. -/
def settled (μ : Mode) (d : Bool) : Mode := bif d then .ret else μ

abbrev KEnd := Mode → AHeap → Bool
abbrev DefFn := Nat → List AV → Mode → AHeap → KEnd → Bool

/-- The deferred calls, at a function's end. -/
def ends (df : DefFn) : List (AV × List AV) → Mode → AHeap → KEnd → Bool
  | [], μ, h, K => K μ h
  | (f, as) :: l, μ, h, K => match f with
    | .fn (.func g) first cap => df g (first ++ as ++ cap) μ h fun μ' h' => ends df l μ' h' K
    | _ => false

def splitDfr : List AOper → Option (List AOper × Opd × List Opd)
  | [] => none
  | [o] => match o.op, o.grd, o.dst with
    | .dfr f as, none, none => some ([], f, as)
    | _, _, _ => none
  | o :: l => match splitDfr l with
    | some (pre, f, as) => some (o :: pre, f, as)
    | none => none

/-- A function's body, to its end. -/
def atEnd (df : DefFn) (pend : List (AV × List AV)) (x : AExit) (σ : St) (K : Mode → St → Bool) : Bool :=
  match x with
  | .normal => ends df pend .ret σ.h fun μ h => K μ ⟨σ.regs, h⟩
  | .ret => ends df pend .ret σ.h fun μ h => K μ ⟨σ.regs, h⟩
  | .panic v => ends df pend (.pan v) σ.h fun μ h => K μ ⟨σ.regs, h⟩
  | _ => false

def runT (call : CallFn) (df : DefFn) (n : Nat) : ACode → List (AV × List AV) → St → (Mode → St → Bool) → Bool
  | .seq (.reg ops) b, pend, σ, K => (match splitDfr ops with
    | some (pre, f, as) => runR call pre σ fun x σ' => (match x with
      | .normal => (match ev σ'.regs f, evs σ'.regs as with
        | some (.fn (.func g) first cap), some vs => runT call df n b ((.fn (.func g) first cap, vs) :: pend) σ' K
        | _, _ => false)
      | x => atEnd df pend x σ' K)
    | none => runC call n (.reg ops) σ fun x σ' => (match x with
      | .normal => runT call df n b pend σ' K
      | x => atEnd df pend x σ' K))
  | .seq a b, pend, σ, K => runC call n a σ fun x σ' => (match x with
    | .normal => runT call df n b pend σ' K
    | x => atEnd df pend x σ' K)
  | c, pend, σ, K => runC call n c σ fun x σ' => atEnd df pend x σ' K

def fnEnd (res : List (Nat × Option (Bool × Nat))) (K : Kont) (μ : Mode) (σ : St) : Bool :=
  match μ with
  | .ret => (match resultsA σ.regs σ.h res with
    | some l => K (oneOf l) σ.h
    | none => false)
  | .pan v => K (.pan v) σ.h

def defN (E : Env) (call : CallFn) (n : Nat) : DefFn := fun g args μ h K =>
  match E.prim g with
  | some _ => false
  | none => match E.code g with
    | none => false
    | some fn => bif Nat.beq args.length fn.np && fn.res.isEmpty && noRf fn.body then
        runS call n μ fn.body false ⟨initR 0 args .lf, h⟩ fun x d σ => match x with
          | .normal => K (settled μ d) σ.h
          | .ret => K (settled μ d) σ.h
          | _ => false
      else false

def callN (E : Env) : Nat → CallFn
  | 0 => fun _ _ _ _ => false
  | n + 1 => fun tgt args h K =>
    match tgt with
    | .func f => match E.prim f with
      | some p => p (callN E n) n args h K
      | none => match E.code f with
        | none => false
        | some fn => bif Nat.beq args.length fn.np then
            runT (callN E n) (defN E (callN E n) n) n fn.body [] ⟨initR 0 args .lf, h⟩ (fnEnd fn.res K)
          else false
    | .yield id => match h.get id with
      | some (.loop l) => match l.st with
        | .ready => match setPs l.ps args l.regs with
          | some ρ => runC (callN E n) n l.asg ⟨ρ, h⟩ fun x σ => match x with
            | .normal => (match σ.h.get id with
              | some (.loop l1) => match l1.st with
                | .ready => runC (callN E n) n l.body ⟨σ.regs, σ.h.put id (.loop { l1 with st := .busy })⟩ fun x σ2 =>
                  match σ2.h.get id with
                  | some (.loop l2) => match x with
                    | .normal => K (.bool true) (σ2.h.put id (.loop { l2 with st := .ready }))
                    | .panic _ => false
                    | x => K (.bool false) (σ2.h.put id (.loop { l2 with st := .done x }))
                  | _ => false
                | _ => false
              | _ => false)
            | _ => false
          | none => false
        | _ => false
      | _ => false

/-! ### The model's code as this machine's -/
mutual
def avOf : Value → Option AV
  | .bool b => some (.bool b)
  | .int k n => some (.int k n)
  | .string s => some (.str (s.data.toList.map UInt8.toNat))
  | .pointer none => some .nilPtr
  | .slice none 0 0 => some .nilSlc
  | .map none => some .nilMap
  | .nilFunc => some .nilFn
  | .nilIface => some .nilIf
  | .agg ⟨l⟩ => match avsOf l with
    | some r => some (.agg r)
    | none => none
  | .tuple ⟨l⟩ => match avsOf l with
    | some r => some (.tup r)
    | none => none
  | _ => none
def avsOf : List Value → Option (List AV)
  | [] => some []
  | v :: l => match avOf v with
    | some a => match avsOf l with
      | some r => some (a :: r)
      | none => none
    | none => none
end

def opdOf : Operand → Option Opd
  | .tmp t => some (.t t)
  | .const v => match avOf v with
    | some a => some (.c a)
    | none => none
  | .global _ => none
  | .func f => some (.c (.fn (.func f) [] []))

def opdsOf : List Operand → Option (List Opd)
  | [] => some []
  | x :: l => match opdOf x with
    | some a => match opdsOf l with
      | some r => some (a :: r)
      | none => none
    | none => none

def optOf : Option Operand → Option (Option Opd)
  | none => some none
  | some x => match opdOf x with
    | some a => some (some a)
    | none => none

def isAggT (P : Program) (t : TypeId) : Option Bool :=
  match P.underlying t with
  | some (.struct _) => some true
  | some (.array _ _) => some true
  | some _ => some false
  | none => none

def sizeT (P : Program) (t : TypeId) : Option Nat := (P.info? t).map (·.size)
def bytesT (P : Program) (t : TypeId) : Option Nat := (P.info? t).map (·.bytes)

def zeroT (P : Program) (t : TypeId) : Option AV :=
  match P.info? t with
  | some i => match i.zero with
    | some z => avOf z
    | none => none
  | none => none

def k0Of (P : Program) (t : TypeId) : Option K0 :=
  match P.underlying t with
  | some (.int _) => some .int
  | some .string => some .str
  | some .bool => some .bool
  | _ => none

/-- A struct whose cells are its fields, each of a type that is told by what it says; no field is blank. -/
def k0sOf (P : Program) : Nat → List Field → Option (List K0)
  | _, [] => some []
  | n, f :: l => bif Nat.beq f.offset n && (f.name != "_") then
      (match k0Of P f.type with
      | some k => match k0sOf P (n + 1) l with
        | some ks => some (k :: ks)
        | none => none
      | none => none)
    else none

def structOf (P : Program) (t : TypeId) : Option (List K0) :=
  match P.underlying t with
  | some (.struct fs) => bif !P.stoodInHeld t && !P.eqGuardType P.depth t then k0sOf P 0 fs.toList else none
  | _ => none

def kkOf (P : Program) (t : TypeId) : Option KK :=
  match k0Of P t with
  | some k => some (.leaf k)
  | none => match structOf P t with
    | some ks => some (.st ks)
    | none => none

def eqKOf (P : Program) (t : TypeId) : Option EqK :=
  match P.underlying t with
  | some .bool => some .bool
  | some (.pointer e) => match sizeT P e with
    | some (_ + 1) => some .ptr
    | _ => none
  | some (.slice _) => some .slc
  | some (.map _ _) => some .map
  | some (.func _ _ _) => some .fn
  | some (.interface _) => some .ifn
  | some (.struct _) => match structOf P t with
    | some ks => some (.agg ks)
    | none => none
  | _ => none

/-- Interface values are compared where one of the two is a constant. -/
def okIfn : EqK → Operand → Operand → Bool
  | .ifn, .const _, _ => true
  | .ifn, _, .const _ => true
  | .ifn, _, _ => false
  | _, _, _ => true
def eqKX (P : Program) (t : TypeId) (x y : Operand) : Option EqK :=
  match eqKOf P t with
  | some k => bif okIfn k x y then some k else none
  | none => none

def partsOf (places : List (Nat × Nat)) : List (Nat × Operand) → Option (List (Nat × Nat × Opd))
  | [] => some []
  | (i, x) :: l => match places[i]? with
    | some (off, n) => match opdOf x with
      | some a => match partsOf places l with
        | some r => some ((off, n, a) :: r)
        | none => none
      | none => none
    | none => none

def partsArr (esz : Nat) : List (Nat × Operand) → Option (List (Nat × Nat × Opd))
  | [] => some []
  | (i, x) :: l => match opdOf x with
    | some a => match partsArr esz l with
      | some r => some ((i * esz, esz, a) :: r)
      | none => none
    | none => none

def partsSl : List (Nat × Operand) → Option (List (Nat × Opd))
  | [] => some []
  | (i, x) :: l => match opdOf x with
    | some a => match partsSl l with
      | some r => some ((i, a) :: r)
      | none => none
    | none => none

def posT (P : Program) (t : TypeId) : Bool := match sizeT P t with | some (_ + 1) => true | _ => false
def oneT (P : Program) (t : TypeId) : Bool := match sizeT P t with | some 1 => true | _ => false

/-- Is it the type of bytes? -/
def isByteT (P : Program) (e : TypeId) : Bool := match P.underlying e with | some (.int .u8) => true | _ => false

/-- A variable of a type reads as one of that type. -/
def selfLaid (P : Program) (t : TypeId) : Bool := Nat.blt 0 P.depth && sameLayout P P.depth t t

/-- Is it a struct of a pointer and a slice (a strings.Builder is one), whose type is to be noted? -/
def isNoted : List AV → Bool
  | .nilPtr :: .nilSlc :: _ => true
  | _ :: l => isNoted l
  | [] => false

/-- A type that is noted. -/
def noteT (P : Program) (t : TypeId) : Option Nat := match zeroT P t with
  | some z => bif isNoted z.cells then some t else none
  | none => none

/-- The structs that have a field of this type. -/
def haveField (t : TypeId) : List TypeInfo → Nat → List (Nat × Nat)
  | [], _ => []
  | i :: l, u => match i.desc with
    | .struct fs => (fs.toList.filterMap fun f => bif Nat.beq f.type t then some (u, f.offset) else none) ++ haveField t l (u + 1)
    | _ => haveField t l (u + 1)

/-- .. and their names. -/
def haveNames (s : List (Nat × Nat)) : List TypeInfo → Nat → List (Nat × Nat)
  | [], _ => []
  | i :: l, u => match i.desc with
    | .named _ v => (s.filterMap fun x => bif Nat.beq x.1 v then some (u, x.2) else none) ++ haveNames s l (u + 1)
    | _ => haveNames s l (u + 1)

def heldAt (P : Program) (t : TypeId) (x : Nat × Nat × Nat) : Bool :=
  match P.underlying x.1 with
  | some (.struct fs) => (match sizeT P x.1 with | some m => Nat.beq m x.2.1 | none => false) && !P.stoodInHeld x.1 && Nat.blt x.2.2 x.2.1 && fs.toList.any fun f => Nat.beq f.type t && Nat.beq f.offset x.2.2
  | _ => false

/-- What a pointer to this type may point into: a type, its size, a field's place. -/
def holders (P : Program) (t : TypeId) : List (Nat × Nat × Nat) :=
  let s := haveField t P.types.toList 0
  ((s ++ haveNames s P.types.toList 0).map fun x => (x.1, P.cellsOf x.1, x.2)).filter (heldAt P t)

def compBuiltin (P : Program) (b : Builtin) (types : List TypeId) (args : List Operand) : Option AOp :=
  match b, types, args with
  | .len, [t], [x] => do
    let a ← opdOf x
    match P.underlying t with
    | some .string => pure (.len 0 a)
    | some (.slice _) => pure (.len 1 a)
    | some (.map _ _) => pure (.len 2 a)
    | some (.array n _) => pure (.mv (.c (.int .i64 (.ofNat n))))
    | _ => none
  | .cap, [t], [x] => do
    let a ← opdOf x
    match P.underlying t with
    | some (.slice _) => pure (.cap a)
    | _ => none
  | .append, [s, t], [x, y] =>
    match opdOf x, opdOf y, P.underlying s, P.underlying t with
    | some a, some b, some (.slice e), some d => match sizeT P e, bytesT P e, zeroT P e with
      | some sz, some bytes, some z => bif Nat.beq z.cells.length sz && Nat.blt 0 sz then
          (match d with
          | .slice _ => some (bif isByteT P e && Nat.beq sz 1 && Nat.beq bytes 1 then .appb e a b else .app sz bytes a b)
          | .string => some (bif isByteT P e && Nat.beq sz 1 && Nat.beq bytes 1 then .appb e a b else .app sz bytes a b)
          | .int _ => some (.appz sz bytes z.cells a b)
          | _ => none)
        else none
      | _, _, _ => none
    | _, _, _, _ => none
  | .copy, [s, _], [x, y] => do
    let a ← opdOf x
    let b ← opdOf y
    match P.underlying s with
    | some (.slice e) => pure (.copy (← sizeT P e) a b)
    | _ => none
  | .delete, [t, _], [x, y] => do
    let a ← opdOf x
    let b ← opdOf y
    match P.underlying t with
    | some (.map k _) => pure (.del (← kkOf P k) a b)
    | _ => none
  | .clear, [t], [x] => do
    let a ← opdOf x
    match P.underlying t with
    | some (.slice e) => pure (.clr (← sizeT P e) (← zeroT P e).cells a)
    | _ => none
  | .unsafeSliceData, [_], [x] => do pure (.sdat (← opdOf x))
  | .unsafeString, [t, _], [x, y] => match opdOf x, opdOf y, P.underlying t with
    | some a, some b, some (.pointer e) => bif isByteT P e && oneT P e then some (.ustr e a b) else none
    | _, _, _ => none
  | .max, _, xs => do pure (.mm true (← opdsOf xs))
  | .min, _, xs => do pure (.mm false (← opdsOf xs))
  | _, _, _ => none

def compRaw (P : Program) (op : Op) : Option AOp :=
  match op with
  | .move x | .assign x => do pure (.mv (← opdOf x))
  | .pick c a b => do pure (.pick (← opdOf c) (← opdOf a) (← opdOf b))
  | .alloc t => match zeroT P t with
    | some z => some (bif isNoted z.cells then .allot t z.cells else .alloc z.cells)
    | none => none
  | .box t x => do pure (.box (noteT P t) (← sizeT P t) (← opdOf x))
  | .build t parts => do
    let z ← zeroT P t
    match P.underlying t with
    | some (.struct fs) => pure (.build z.cells (← partsOf (← fs.toList.mapM (fun f => (P.info? f.type).map fun i => (f.offset, i.size))) parts.toList))
    | some (.array _ e) => pure (.build z.cells (← partsArr (← sizeT P e) parts.toList))
    | _ => none
  | .buildSlice t n parts => do
    match P.underlying t with
    | some (.slice e) => pure (.bslice n (← sizeT P e) (← zeroT P e).cells (← partsSl parts.toList))
    | _ => none
  | .load t a => do pure (.load (← isAggT P t) (← sizeT P t) (← opdOf a))
  | .store t a v => do pure (.store (← sizeT P t) (← opdOf a) (← opdOf v))
  | .nilCheck x => do pure (.nilck (← opdOf x))
  | .binOp op t x y _ => do
    let a ← opdOf x
    let b ← opdOf y
    match P.underlying t with
    | some (.int _) | some .string => pure (.bin op a b)
    | _ => match op with
      | .eql => do pure (.eq false (← eqKX P t x y) a b)
      | .neq => do pure (.eq true (← eqKX P t x y) a b)
      | _ => none
  | .unOp op _ x => do
    let a ← opdOf x
    match op with
    | .not => pure (.not a)
    | .neg => pure (.neg a)
    | _ => none
  | .convert s d x => do
    let a ← opdOf x
    match P.underlying s, P.underlying d with
    | some (.int _), some (.int k) => pure (.conv k a)
    | some .string, some .string => pure (.cvs a)
    | some (.slice e), some .string => match P.underlying e with
      | some (.int .u8) => pure (.b2s a)
      | _ => none
    | some (.pointer t), some .unsafePointer => bif posT P t then pure (.uto a) else none
    | some .unsafePointer, some (.pointer t) => match sizeT P t with
      | some (n + 1) => bif selfLaid P t then pure (.ufr t (n + 1) (holders P t) a) else none
      | _ => none
    | _, _ => none
  | .makeFunc fn first cap => match fn with
    | .func f => do pure (.mkfn f (← opdsOf first.toList) (← opdsOf cap.toList))
    | _ => none
  | .makeMap _ r => match r with
    | none => some .mkmap
    | some _ => none
  | .makeSlice t l c => do
    match P.underlying t with
    | some (.slice e) => pure (.mksl (← sizeT P e) (← bytesT P e) (← zeroT P e).cells (← opdOf l) (← opdOf c))
    | _ => none
  | .slice t x lo hi mx => do
    match P.underlying t, mx with
    | some (.slice e), _ => pure (.sl (← sizeT P e) (← opdOf x) (← optOf lo) (← optOf hi) (← optOf mx))
    | some .string, none => pure (.sls (← opdOf x) (← optOf lo) (← optOf hi))
    | _, _ => none
  | .fieldAddr s x f => do
    match P.underlying s with
    | some (.struct fs) => match fs[f]? with
      | some fl => match sizeT P fl.type with
        | some (_ + 1) => pure (.fadr fl.offset (← opdOf x))
        | _ => none
      | none => none
    | _ => none
  | .field s x f => do
    match P.underlying s with
    | some (.struct fs) => match fs[f]? with
      | some fl => pure (.fld (← isAggT P fl.type) fl.offset (← sizeT P fl.type) (← opdOf x))
      | none => none
    | _ => none
  | .indexAddr t x i => do
    match P.underlying t with
    | some (.slice e) => pure (.iadr (← sizeT P e) (← opdOf x) (← opdOf i))
    | some (.array n e) => match sizeT P e with
      | some (m + 1) => pure (.iadra n (m + 1) (← opdOf x) (← opdOf i))
      | _ => none
    | _ => none
  | .index t x i => do
    match P.underlying t with
    | some .string => pure (.idxs (← opdOf x) (← opdOf i))
    | some (.array n e) => pure (.idxa (← isAggT P e) n (← sizeT P e) (← opdOf x) (← opdOf i))
    | _ => none
  | .lookup t m k ok => do
    match P.underlying t with
    | some (.map kt e) => pure (.look (← kkOf P kt) ok (← zeroT P e) (← opdOf m) (← opdOf k))
    | _ => none
  | .mapUpdate t m k v => do
    match P.underlying t with
    | some (.map kt _) => pure (.mupd (← kkOf P kt) (← opdOf m) (← opdOf k) (← opdOf v))
    | _ => none
  | .insert t m k v => do
    match P.underlying t with
    | some (.map kt _) => pure (.mupd (← kkOf P kt) (← opdOf m) (← opdOf k) (← opdOf v))
    | _ => none
  | .extract x i => do pure (.ext (← opdOf x) i)
  | .range t x => do
    match P.underlying t with
    | some (.map _ _) => pure (.rng (← opdOf x))
    | _ => none
  | .next x str => match str with
    | false => do pure (.nxt (← opdOf x))
    | true => none
  | .entry x => do pure (.ent (← opdOf x))
  | .call c => match c.callee with
    | .builtin b => compBuiltin P b c.argTypes.toList c.args.toList
    | .value f => do pure (.call (← opdOf f) (← opdsOf c.args.toList))
    | .invoke _ _ => none
  | .makeInterface t x => match P.underlying t, opdOf x with
    | some (.interface _), _ => none
    | some _, some a => some (.mkif t a)
    | _, _ => none
  | .typeAssert x _ t ok => match P.underlying t, opdOf x, zeroT P t with
    | some (.interface _), _, _ => none
    | some _, some a, some z => some (.tas t ok z a)
    | _, _, _ => none
  | _ => none

def compChk (P : Program) (op : Op) : Option AOp :=
  match compRaw P op with
  | some a => bif isCall a then none else some a
  | none => none

def compOp (P : Program) (op : Op) : Option AOp :=
  match op with
  | .call c => match c.callee with
    | .value f => match opdOf f, opdsOf c.args.toList with
      | some g, some as => some (.call g as)
      | _, _ => none
    | .builtin b => match b with
      | .recover => some .rcv
      | _ => compChk P op
    | _ => compChk P op
  | .panic x => match opdOf x with
    | some y => some (.pnc y)
    | none => none
  | .defer c => match c.callee with
    | .value f => match opdOf f, opdsOf c.args.toList with
      | some g, some as => some (.dfr g as)
      | _, _ => none
    | _ => none
  | .next x str => match str with
    | false => match opdOf x with
      | some y => some (.nxt y)
      | none => none
    | true => none
  | op => compChk P op

def clsOf : AOp → Nat
  | .load .. | .look .. | .len .. | .eq .. | .b2s .. | .ent .. | .sl .. | .iadr .. | .uto .. | .ufr .. => 1
  | .alloc _ | .box .. | .bslice .. | .store .. | .stw .. | .mkmap | .mksl .. | .mupd .. | .app .. | .appz .. | .allot .. | .appb .. | .ustr .. | .copy .. | .del .. | .clr .. | .rng .. | .nxt .. | .fail | .call .. | .pnc _ | .dfr .. | .rcv => 2
  | _ => 0

def dstOk (N : Nat) : Option Tmp → Bool
  | none => true
  | some d => Nat.blt d N

def compOper (P : Program) (N : Nat) (ops : Array Oper) (o : Oper) : Option AOper :=
  bif dstOk N o.dst then
    match o.guard with
    | none => some ⟨o.dst, (compOp P o.op).getD .fail, none⟩
    | some (j, w) => match ops[j]? with
      | some g => match g.dst with
        | some d => some ⟨o.dst, (compOp P o.op).getD .fail, some (d, w)⟩
        | none => none
      | none => none
  else none

def compOpers (P : Program) (N : Nat) (ops : Array Oper) : List Oper → Option (List AOper)
  | [] => some []
  | o :: l => match compOper P N ops o with
    | some a => match compOpers P N ops l with
      | some r => some (a :: r)
      | none => none
    | none => none

/-! ### Regions that draw their order -/
def tsO : Opd → List Nat
  | .t r => [r]
  | .c _ => []

def tsOs : List Opd → List Nat
  | [] => []
  | x :: l => tsO x ++ tsOs l

def tsOpt : Option Opd → List Nat
  | none => []
  | some x => tsO x

def tsP : List (Nat × Nat × Opd) → List Nat
  | [] => []
  | (_, _, x) :: l => tsO x ++ tsP l

def tsQ : List (Nat × Opd) → List Nat
  | [] => []
  | (_, x) :: l => tsO x ++ tsQ l

/-- The temporaries that an operation looks at. -/
def tsA : AOp → List Nat
  | .mv x | .load _ _ x | .nilck x | .not x | .neg x | .conv _ x | .b2s x | .cvs x | .fadr _ x | .fld _ _ _ x | .ext x _ | .len _ x | .cap x | .clr _ _ x | .rng x | .ent x | .nxt x | .box _ _ x | .uto x | .ufr _ _ _ x | .sdat x => tsO x
  | .pick c a b => tsO c ++ tsO a ++ tsO b
  | .alloc _ | .allot _ _ | .mkmap | .fail => []
  | .build _ ps => tsP ps
  | .bslice _ _ _ ps => tsQ ps
  | .store _ x y | .bin _ x y | .eq _ _ x y | .mksl _ _ _ x y | .iadr _ x y | .iadra _ _ x y | .idxs x y | .idxa _ _ _ x y | .look _ _ _ x y | .app _ _ x y | .appb _ x y | .ustr _ x y | .appz _ _ _ x y | .copy _ x y | .del _ x y => tsO x ++ tsO y
  | .mkfn _ l m => tsOs l ++ tsOs m
  | .pnc x | .mkif _ x | .tas _ _ _ x => tsO x
  | .dfr f l => tsO f ++ tsOs l
  | .rcv => []
  | .sl _ x a b c => tsO x ++ tsOpt a ++ tsOpt b ++ tsOpt c
  | .sls x a b => tsO x ++ tsOpt a ++ tsOpt b
  | .mupd _ x y z => tsO x ++ tsO y ++ tsO z
  | .stw _ x y z => tsO x ++ tsO y ++ tsO z
  | .mm _ l => tsOs l
  | .call f l => tsO f ++ tsOs l

def looks (o : AOper) : List Nat :=
  match o.grd with
  | some (d, _) => d :: tsA o.op
  | none => tsA o.op

def dsts (o : AOper) : List Nat :=
  match o.dst with
  | some d => [d]
  | none => []

def maskOf (ms : List Nat) : List Edge → Nat
  | [] => 0
  | e :: l => bif Region.binds .any e then (maskOf ms l ||| 2 ^ e.on) ||| ((nth ms e.on).getD 0) else maskOf ms l

/-- What a region's operations wait for, each as a number's bits. -/
def masks : List Oper → List Nat → List Nat
  | [], ms => ms
  | o :: l, ms => masks l (ms ++ [maskOf ms o.after.toList])

def nop : AOper := ⟨none, .fail, none⟩
def ao (as : List AOper) (i : Nat) : AOper := (nth as i).getD nop
def mk (ms : List Nat) (i : Nat) : Nat := (nth ms i).getD 0

def allN (l : List Nat) (p : Nat → Bool) : Bool :=
  match l with
  | [] => true
  | i :: l => bif p i then allN l p else false

def disjN (l m : List Nat) : Bool := allN l fun i => !memN i m

/-- 'j' leaves alone what 'i' saw, and left. -/
def apartA (as : List AOper) (i j : Nat) : Bool := disjN (dsts (ao as j)) (looks (ao as i)) && disjN (dsts (ao as j)) (dsts (ao as i))

/-- What comes later does not touch what this one saw, or left; nor does it itself. -/
def orderOk (as : List AOper) : List Nat → Bool
  | [] => true
  | i :: l => bif disjN (dsts (ao as i)) (looks (ao as i)) && Nat.blt (clsOf (ao as i).op) 2 && allN l (apartA as i) then orderOk as l else false

/-- Whoever looks at what one of 'l' leaves waits for it. -/
def waitsOk (as : List AOper) (ms : List Nat) (all l : List Nat) : Bool :=
  allN all fun j => allN l fun i => disjN (dsts (ao as i)) (looks (ao as j)) || (mk ms j).testBit i

abbrev Plan := List (Nat × List Nat × List Nat)

/-- What makes something new and looks at nothing that changes: it may come up ahead of its turn. -/
def earlyO (o : Oper) : Bool :=
  match o.guard with
  | some _ => false
  | none => match o.op with
    | .alloc _ | .box .. | .makeSlice .. | .buildSlice .. => true
    | .makeMap _ none => true
    | _ => false

def earlies (ops : Array Oper) : List Nat := (List.range ops.size).filter fun i => match ops[i]? with
  | some o => earlyO o
  | none => false

def isStA (o : AOper) : Bool :=
  match o.dst, o.grd, o.op with
  | none, none, .store .. => true
  | _, _, _ => false

def isIadrA (o : AOper) : Bool :=
  match o.grd, o.op with
  | none, .iadr .. => true
  | _, _ => false

/-- Two stores that wait not for one another, one behind the other. -/
def isTwin (as : List AOper) (ms : List Nat) (a b : Nat) (chk ns cb : List Nat) : Bool :=
  Nat.blt a b && !(mk ms b).testBit a && isStA (ao as a) && isStA (ao as b) && Nat.beq ns.length 0 && Nat.beq chk.length 0 && allN cb (fun i => isIadrA (ao as i))

def twOp (x y : AOper) : AOper :=
  match x.op, y.op with
  | .store n a v, .store _ b _ => ⟨none, .stw n a v b, none⟩
  | _, _ => x

def headOp (as : List AOper) (ms : List Nat) (a : Nat) (chk ns : List Nat) : Plan → AOper
  | [] => ao as a
  | (b, cb, _) :: _ => bif isTwin as ms a b chk ns cb then twOp (ao as a) (ao as b) else ao as a

def opsOf (as : List AOper) (ms : List Nat) : Plan → List (AOper × List AOper × List AOper)
  | [] => []
  | (a, c, l) :: rest => (headOp as ms a c l rest, c.map (ao as), l.map (ao as)) :: opsOf as ms rest

/-- The second of two stores may come first. -/
def swapAt (as : List AOper) (ms el seen : List Nat) (a : Nat) (chk ns : List Nat) : Plan → Nat → Bool
  | [], _ => false
  | (b, cb, nb) :: _, c => Nat.beq b c && isTwin as ms a b chk ns cb && !memN a el && allN nb (fun j => (mk ms j).testBit a && apartA as b j) && allN seen (fun i => (mk ms a).testBit i || allN nb (apartA as i))

def planOk (as : List AOper) (ms el : List Nat) : List Nat → Plan → Bool
  | _, [] => true
  | seen, (a, chk, ns) :: rest =>
    bif !memN a seen && orderOk as ns
      && allN ns (fun i => (mk ms i).testBit a)
      && allN seen (fun i => ((mk ms a).testBit i && !memN a el) || (apartA as i a && allN ns (apartA as i) && (Nat.beq (clsOf (ao as i).op) 0 || Nat.beq (clsOf (ao as i).op) 2 || memN i chk)))
      && allN (rest.map (·.1)) (fun b => (mk ms b).testBit a || memN a el || swapAt as ms el seen a chk ns rest b)
      && (!memN a el || (disjN (dsts (ao as a)) (looks (ao as a)) && allN ns (apartA as a))) then planOk as ms el (seen ++ a :: ns) rest else false

def planOrder : Plan → List Nat
  | [] => []
  | (a, _, ns) :: rest => a :: ns ++ planOrder rest

def edgesOk : Nat → List Oper → Bool
  | _, [] => true
  | n, o :: l => o.after.toList.all (fun e => !Region.binds .any e || Nat.blt e.on n) && edgesOk (n + 1) l

/-- The last of the acts that the mask holds, counted from 1; 0: none. -/
def lastIn (m : Nat) : Nat → List Nat → Nat → Nat
  | _, [], x => x
  | k, i :: l, x => lastIn m (k + 1) l (bif m.testBit i then k else x)

/-- Acts: what changes memory, or writes what an earlier one looks at. -/
def isActA (as : List AOper) (i : Nat) : Bool :=
  Nat.beq (clsOf (ao as i).op) 2 || !allN (List.range i) fun j => disjN (dsts (ao as i)) (looks (ao as j))

def nonActs : Plan → List Nat
  | [] => []
  | (_, _, ns) :: rest => ns ++ nonActs rest

def planOf (as : List AOper) (ms el : List Nat) (all acts : List Nat) : Nat → List Nat → Plan
  | _, [] => []
  | k, a :: rest =>
    (a, all.filter (fun i => Nat.beq (clsOf (ao as i).op) 1 && !memN i acts && Nat.blt (lastIn (mk ms i) 1 acts 0) k && (memN a el || !(mk ms a).testBit i)),
      all.filter (fun i => !memN i acts && Nat.beq (lastIn (mk ms i) 1 acts 0) k)) :: planOf as ms el all acts (k + 1) rest

/-- Those that may come early as early as may be. -/
def orderActs (ms el : List Nat) : Nat → List Nat → List Nat
  | 0, l => l
  | n + 1, l => match l.find? (fun i => memN i el && allN l fun j => !(mk ms i).testBit j) with
    | some i => i :: orderActs ms el n (l.filter fun j => !Nat.beq j i)
    | none => match l with
      | [] => []
      | a :: r => a :: orderActs ms el n r

def drawOk (as : List AOper) (ms el : List Nat) (n : Nat) (ops : List Oper) (n0 : List Nat) (pl : Plan) : Bool :=
  Nat.beq as.length n && edgesOk 0 ops && orderOk as n0 && waitsOk as ms (List.range n) (n0 ++ nonActs pl ++ el) && planOk as ms el n0 pl
    && allN (List.range n) (fun i => memN i (n0 ++ planOrder pl)) && allN (n0 ++ planOrder pl) (fun i => Nat.blt i n)

def compDraw (as : List AOper) (ms el : List Nat) (n : Nat) (ops : List Oper) (n0 : List Nat) (pl : Plan) : Option ACode :=
  bif drawOk as ms el n ops n0 pl then some (.dreg (n0.map (ao as)) (opsOf as ms pl)) else none

def compDreg (as : List AOper) (ops : Array Oper) : Option ACode :=
  let ms := masks ops.toList []
  let el := earlies ops
  let all := List.range ops.size
  let acts := orderActs ms el ops.size (all.filter (isActA as))
  compDraw as ms el ops.size ops.toList (all.filter fun i => !memN i acts && Nat.beq (lastIn (mk ms i) 1 acts 0) 0) (planOf as ms el all acts 1 acts)

def findLabelA : ACode → Nat → Option ACode
  | .seq a b, l => match findLabelA a l with
    | some rest => some (.seq rest b)
    | none => findLabelA b l
  | .label l', l => if l' == l then some .skip else none
  | _, _ => none

def gotoOf : ACode → Option Nat
  | .goto l => some l
  | .seq a b => match gotoOf a with
    | some l => some l
    | none => gotoOf b
  | .cond _ a b => match gotoOf a with
    | some l => some l
    | none => gotoOf b
  | .block _ c => gotoOf c
  | .loop c => gotoOf c
  | _ => none

def labelOf : ACode → Option Nat
  | .label l => some l
  | .seq a b => match labelOf a with
    | some l => some l
    | none => labelOf b
  | _ => none

/-- The label that a scope's jumps go to; where there are none, any that it has. -/
def scopeLabel (x : ACode) : Option Nat := match gotoOf x with
  | some l => some l
  | none => labelOf x

def comp (P : Program) (N : Nat) : Code → Option ACode
  | .skip => some .skip
  | .region _ ops draw => match compOpers P N ops ops.toList with
    | some as => bif draw then compDreg as ops else some (.reg as)
    | none => none
  | .seq a b => match comp P N a, comp P N b with
    | some x, some y => some (.seq x y)
    | _, _ => none
  | .cond c a b => match opdOf c, comp P N a, comp P N b with
    | some o, some x, some y => some (.cond o x y)
    | _, _, _ => none
  | .block id c => match comp P N c with
    | some x => some (.block id x)
    | none => none
  | .loop c => match comp P N c with
    | some x => some (.loop x)
    | none => none
  | .rangeFunc f ps asg body => match opdOf f, comp P N asg, comp P N body with
    | some o, some x, some y => bif ps.toList.all (Nat.blt · N) then some (.rf o ps.toList x y) else none
    | _, _, _ => none
  | .exit id => some (.exit id)
  | .scope c => match comp P N c with
    | some x => match scopeLabel x with
      | some l => match findLabelA x l with
        | some r => some (.scope x l r)
        | none => none
      | none => none
    | none => none
  | .label l => some (.label l)
  | .goto l => some (.goto l)
  | .ret => some .ret
  | .refuse _ => some .refuse

def resOf (P : Program) : List ResultVar → Option (List (Nat × Option (Bool × Nat)))
  | [] => some []
  | .tmp t :: l => do pure ((t, none) :: (← resOf P l))
  | .cell a t :: l => do pure ((a, some (← isAggT P t, ← sizeT P t)) :: (← resOf P l))

def compFn (P : Program) (fn : Func) : Option AFun :=
  match fn.body with
  | none => none
  | some c => match comp P fn.ntmps c, resOf P fn.results.toList with
    | some x, some r => bif fn.name == "runtime.NumGoroutine" then none else some ⟨fn.params.size + fn.nfree, r, x⟩
    | _, _ => none

end
end Go.Ab
