/-
  Texts that the claim hangs on, part 1.
-/
import GoSem.Core.Region
import GoSem.Core.View
import GoSem.Op.Shift
import GoSem.Dispatch
import Derived.WalkKit
import Derived.RangeFuncLeaves
import Derived.RangeFuncRecord
namespace Go.Ab
inductive PT (α : Type) where
  | lf
  | nd (l : PT α) (v : Option α) (r : PT α)
def PT.get {α : Type} : PT α → Nat → Option α
  | .lf, _ => none
  | .nd l v r, n =>
    match n with
    | 0 => v
    | k + 1 => bif Nat.beq (Nat.mod k 2) 0 then l.get (Nat.div k 2) else r.get (Nat.div k 2)
def PT.setF {α : Type} : Nat → PT α → Nat → Option α → PT α
  | 0, t, _, _ => t
  | f + 1, .lf, n, x =>
    match n with
    | 0 => .nd .lf x .lf
    | k + 1 => bif Nat.beq (Nat.mod k 2) 0 then .nd (PT.setF f .lf (Nat.div k 2) x) none .lf else .nd .lf none (PT.setF f .lf (Nat.div k 2) x)
  | f + 1, .nd l v r, n, x =>
    match n with
    | 0 => .nd l x r
    | k + 1 => bif Nat.beq (Nat.mod k 2) 0 then .nd (PT.setF f l (Nat.div k 2) x) v r else .nd l v (PT.setF f r (Nat.div k 2) x)
def PT.set {α : Type} (t : PT α) (n : Nat) (x : α) : PT α := PT.setF (n + 1) t n (some x)
def nth {α : Type} : List α → Nat → Option α
  | [], _ => none
  | x :: l, n => match n with | 0 => some x | k + 1 => nth l k
inductive AFn where
  | func (f : Nat)
  | yield (id : Nat)
inductive AV where
  | bool (b : Bool)
  | int (k : IntKind) (n : Int)
  | str (s : List Nat)
  | ptr (id g i o : Nat)
  | nilPtr
  | slc (id g s len cap : Nat) (ex : Bool)
  | nilSlc
  /-- A slice of no capacity that is not nil. -/
  | emp
  | map (id : Nat)
  | nilMap
  | itr (id : Nat)
  | fn (f : AFn) (first captured : List AV)
  | nilFn
  | agg (l : List AV)
  | tup (l : List AV)
  /-- The interface value nil; a value in an interface, of a type. -/
  | nilIf
  | ifc (t : Nat) (v : AV)
  deriving Inhabited
def AV.cells : AV → List AV
  | .agg l => l
  | v => [v]
def AV.leaf : AV → Bool
  | .agg _ | .tup _ => false
  | _ => true
def allLeaf : List AV → Bool
  | [] => true
  | v :: l => bif v.leaf then allLeaf l else false
inductive Opd where
  | t (r : Nat)
  | c (v : AV)
inductive K0 where
  | int | str | bool
inductive KK where
  | leaf (k : K0)
  | st (ks : List K0)
inductive EqK where
  | bool | ptr | slc | map | fn
  | agg (ks : List K0)
inductive AOp where
  | mv (x : Opd)
  | pick (c a b : Opd)
  | alloc (z : List AV)
  | box (n : Nat) (x : Opd)
  | build (z : List AV) (parts : List (Nat × Nat × Opd))
  | bslice (n sz : Nat) (z : List AV) (parts : List (Nat × Opd))
  | load (ag : Bool) (n : Nat) (a : Opd)
  | store (n : Nat) (a v : Opd)
  | nilck (x : Opd)
  | bin (op : BinOp) (x y : Opd)
  | eq (neg : Bool) (k : EqK) (x y : Opd)
  | not (x : Opd)
  | neg (x : Opd)
  | conv (k : IntKind) (x : Opd)
  | b2s (x : Opd)
  | cvs (x : Opd)
  | mkfn (f : Nat) (first cap : List Opd)
  | mkmap
  | mksl (sz bytes : Nat) (z : List AV) (l c : Opd)
  | sl (sz : Nat) (x : Opd) (lo hi mx : Option Opd)
  | sls (x : Opd) (lo hi : Option Opd)
  | fadr (off : Nat) (x : Opd)
  | fld (ag : Bool) (off n : Nat) (x : Opd)
  | iadr (sz : Nat) (x i : Opd)
  | iadra (len esz : Nat) (x i : Opd)
  | idxs (x i : Opd)
  | idxa (ag : Bool) (len esz : Nat) (x i : Opd)
  | look (kk : KK) (ok : Bool) (z : AV) (m k : Opd)
  | mupd (kk : KK) (m k v : Opd)
  | ext (x : Opd) (i : Nat)
  | len (k : Nat) (x : Opd)
  | cap (x : Opd)
  | app (sz bytes : Nat) (s x : Opd)
  | appz (sz bytes : Nat) (z : List AV) (s x : Opd)
  | copy (sz : Nat) (d s : Opd)
  | del (kk : KK) (m k : Opd)
  | clr (sz : Nat) (z : List AV) (x : Opd)
  | mm (mx : Bool) (xs : List Opd)
  /-- A variable of a type that is noted; bytes appended (the elements' type is noted). -/
  | allot (t : Nat) (z : List AV)
  | appb (e : Nat) (s x : Opd)
  /-- A pointer as an unsafe one; back, to a type. -/
  | uto (x : Opd)
  | ufr (t n : Nat) (x : Opd)
  | sdat (x : Opd)
  | ustr (e : Nat) (p n : Opd)
  | rng (x : Opd)
  | ent (x : Opd)
  | nxt (x : Opd)
  | fail
  | call (f : Opd) (args : List Opd)
structure AOper where
  dst : Option Nat
  op : AOp
  grd : Option (Nat × Bool)
inductive ACode where
  | skip
  | reg (ops : List AOper)
  /-- Of a region that draws its order: what comes before all that acts; then each act, the reads that may still come after it, and what may come once it is done. -/
  | dreg (n0 : List AOper) (rest : List (AOper × List AOper × List AOper))
  | seq (a b : ACode)
  | cond (c : Opd) (a b : ACode)
  | block (id : Nat) (c : ACode)
  | loop (c : ACode)
  | rf (f : Opd) (ps : List Nat) (asg body : ACode)
  | exit (id : Nat)
  | scope (c : ACode) (l : Nat) (r : ACode)
  | label (l : Nat)
  | goto (l : Nat)
  | ret
  | refuse
  /-- Only the temporaries 'ks' are kept. -/
  | keep (ks : List Nat) (c : ACode)
inductive AExit where
  | normal
  | ret
  | exit (id : Nat)
  | goto (l : Nat)
inductive LState where
  | ready
  | busy
  | done (x : AExit)
  | exh
structure Row where
  es : List (List AV)
  sz : Nat
  g : Nat
  m : Nat
  rw : Bool
  /-- The elements' type, where it is noted. -/
  ty : Option Nat := none
structure ALoop where
  regs : PT AV
  ps : List Nat
  asg : ACode
  body : ACode
  st : LState
inductive AObj where
  | row (r : Row)
  | map (es : List (AV × AV × Nat)) (clock : Nat)
  | iter (m : Option Nat) (since : Nat) (seen : List Nat) (stepped : Nat)
  | loop (l : ALoop)
  /-- Nothing is known of it any more. -/
  | gone
  /-- A map that is only read; what is neither read nor written. -/
  | rmap (es : List (AV × AV × Nat)) (clock : Nat)
  | dead
structure AHeap where
  sz : Nat
  t : PT AObj
def AHeap.get (h : AHeap) (id : Nat) : Option AObj := h.t.get id
def AHeap.put (h : AHeap) (id : Nat) (o : AObj) : AHeap := { h with t := h.t.set id o }
def AHeap.push (h : AHeap) (o : AObj) : AHeap := { sz := h.sz + 1, t := h.t.set h.sz o }
def AHeap.row (h : AHeap) (id : Nat) : Option Row := match h.get id with | some (.row r) => some r | _ => none
def AHeap.empty : AHeap := { sz := 0, t := .lf }
structure St where
  regs : PT AV
  h : AHeap
abbrev Regs := PT AV
def ev (ρ : Regs) : Opd → Option AV
  | .t r => ρ.get r
  | .c v => some v
def evs (ρ : Regs) : List Opd → Option (List AV)
  | [] => some []
  | x :: l => match ev ρ x with
    | some v => match evs ρ l with
      | some vs => some (v :: vs)
      | none => none
    | none => none
def kidx : IntKind → Nat
  | .i8 => 0 | .i16 => 1 | .i32 => 2 | .i64 => 3 | .u8 => 4 | .u16 => 5 | .u32 => 6 | .u64 => 7
def fitsK : IntKind → Int → Bool
  | .i64, .ofNat m => Nat.ble m 9223372036854775807
  | .i64, .negSucc m => Nat.ble m 9223372036854775807
  | .u8, .ofNat m => Nat.ble m 255
  | .u64, .ofNat m => Nat.ble m 18446744073709551615
  | .i32, .ofNat m => Nat.ble m 2147483647
  | .u32, .ofNat m => Nat.ble m 4294967295
  | _, _ => false
def wrapA (k : IntKind) (n : Int) : Int := bif fitsK k n then n else k.wrap n
def iltb : Int → Int → Bool
  | .ofNat a, .ofNat b => Nat.blt a b
  | .ofNat _, .negSucc _ => false
  | .negSucc _, .ofNat _ => true
  | .negSucc a, .negSucc b => Nat.blt b a
def ieqb : Int → Int → Bool
  | .ofNat a, .ofNat b => Nat.beq a b
  | .negSucc a, .negSucc b => Nat.beq a b
  | _, _ => false
def bitsA (op : BinOp) (k : IntKind) (x y : Int) : Option Int :=
  match op with
  | .and => some (k.wrap (BitVec.ofInt k.bits x &&& BitVec.ofInt k.bits y).toNat)
  | .or => some (k.wrap (BitVec.ofInt k.bits x ||| BitVec.ofInt k.bits y).toNat)
  | .xor => some (k.wrap (BitVec.ofInt k.bits x ^^^ BitVec.ofInt k.bits y).toNat)
  | .andNot => some (k.wrap (BitVec.ofInt k.bits x &&& ~~~ BitVec.ofInt k.bits y).toNat)
  | _ => none
def intOp (op : BinOp) (k : IntKind) (x y : Int) : Option AV :=
  match op with
  | .add => some (.int k (wrapA k (x + y)))
  | .sub => some (.int k (wrapA k (x - y)))
  | .mul => some (.int k (wrapA k (x * y)))
  | .quo => bif ieqb y 0 then none else some (.int k (wrapA k (x.tdiv y)))
  | .rem => bif ieqb y 0 then none else some (.int k (x.tmod y))
  | .eql => some (.bool (ieqb x y))
  | .neq => some (.bool (!ieqb x y))
  | .lss => some (.bool (iltb x y))
  | .leq => some (.bool (!iltb y x))
  | .gtr => some (.bool (iltb y x))
  | .geq => some (.bool (!iltb x y))
  | .shl | .shr => none
  | op => match bitsA op k x y with
    | some n => some (.int k n)
    | none => none
def shiftA (op : BinOp) (k : IntKind) (x y : Int) : Option AV :=
  bif iltb y 0 then none else
    match op with
    | .shl => some (.int k (k.wrap (x * 2 ^ (min y.toNat k.bits))))
    | .shr => some (.int k (x.fdiv (2 ^ (min y.toNat k.bits))))
    | _ => none
def leqb : List Nat → List Nat → Bool
  | [], [] => true
  | a :: l, b :: m => bif Nat.beq a b then leqb l m else false
  | _, _ => false
def lltb : List Nat → List Nat → Bool
  | _, [] => false
  | [], _ :: _ => true
  | a :: x, b :: y => bif Nat.blt a b then true else bif Nat.beq a b then lltb x y else false
def most : Nat := 1099511627776
def strOp (op : BinOp) (x y : List Nat) : Option AV :=
  match op with
  | .add => bif Nat.ble (x.length + y.length) most then some (.str (x ++ y)) else none
  | .eql => some (.bool (leqb x y))
  | .neq => some (.bool (!leqb x y))
  | .lss => some (.bool (lltb x y))
  | .leq => some (.bool (lltb x y || leqb x y))
  | .gtr => some (.bool (!(lltb x y || leqb x y)))
  | .geq => some (.bool (!lltb x y))
  | _ => none
def isShift : BinOp → Bool
  | .shl | .shr => true
  | _ => false
def binA (op : BinOp) : AV → AV → Option AV
  | .int k a, .int j b => bif isShift op then shiftA op k a b else bif Nat.beq (kidx k) (kidx j) then intOp op k a b else none
  | .str a, .str b => strOp op a b
  | _, _ => none
def leafEq : AV → AV → Option Bool
  | .bool a, .bool b => some (a == b)
  | .int k a, .int j b => bif Nat.beq (kidx k) (kidx j) then some (ieqb a b) else none
  | .str a, .str b => some (leqb a b)
  | _, _ => none
def leavesEq : List AV → List AV → Option Bool
  | [], [] => some true
  | a :: l, b :: m => match leafEq a b with
    | some true => leavesEq l m
    | some false => some false
    | none => none
  | _, _ => none
def fits0 : K0 → AV → Bool
  | .int, .int _ _ => true
  | .str, .str _ => true
  | .bool, .bool _ => true
  | _, _ => false
def fits0s : List K0 → List AV → Bool
  | [], [] => true
  | k :: ks, v :: l => bif fits0 k v then fits0s ks l else false
  | _, _ => false
def fitsKK : KK → AV → Bool
  | .leaf k, v => fits0 k v
  | .st ks, .agg l => fits0s ks l
  | _, _ => false
def keyEq : AV → AV → Option Bool
  | .agg l, .agg m => leavesEq l m
  | a, b => leafEq a b
def eqBool : AV → AV → Option Bool
  | .bool a, .bool b => some (a == b)
  | _, _ => none
def eqPtr (h : AHeap) : AV → AV → Option Bool
  | .nilPtr, .nilPtr => some true
  | .nilPtr, .ptr .. => some false
  | .ptr .., .nilPtr => some false
  | .ptr a g i o, .ptr b g' i' o' =>
    bif Nat.beq a b then
      match h.row a with
      | some r => bif Nat.beq g r.g && Nat.beq g' r.g && Nat.blt o r.sz && Nat.blt o' r.sz then some (Nat.beq i i' && Nat.beq o o') else none
      | none => none
    else match h.row a, h.row b with
      | some r, some r' => bif r.rw && r'.rw && Nat.beq g r.g && Nat.beq g' r'.g then some false else none
      | _, _ => none
  | _, _ => none
def eqSlc : AV → AV → Option Bool
  | .nilSlc, .nilSlc => some true
  | .slc .., .nilSlc => some false
  | .nilSlc, .slc .. => some false
  | .emp, .nilSlc => some false
  | .nilSlc, .emp => some false
  | _, _ => none
def eqMap : AV → AV → Option Bool
  | .nilMap, .nilMap => some true
  | .map _, .nilMap => some false
  | .nilMap, .map _ => some false
  | _, _ => none
def eqFn : AV → AV → Option Bool
  | .nilFn, .nilFn => some true
  | .fn .., .nilFn => some false
  | .nilFn, .fn .. => some false
  | _, _ => none
def eqAgg (ks : List K0) : AV → AV → Option Bool
  | .agg l, .agg m => bif fits0s ks l then leavesEq l m else none
  | _, _ => none
def eqA (h : AHeap) (k : EqK) (x y : AV) : Option Bool :=
  match k with
  | .bool => eqBool x y
  | .ptr => eqPtr h x y
  | .slc => eqSlc x y
  | .map => eqMap x y
  | .fn => eqFn x y
  | .agg ks => eqAgg ks x y
def repl {α : Type} : Nat → α → List α
  | 0, _ => []
  | n + 1, x => x :: repl n x
def partA (ag : Bool) (off n : Nat) (l : List AV) : Option AV :=
  bif ag then (bif Nat.ble (off + n) l.length then some (.agg ((l.drop off).take n)) else none)
  else nth l off
def loadA (h : AHeap) (ag : Bool) (n : Nat) : AV → Option AV
  | .ptr id g i o => match h.row id with
    | some r => bif Nat.ble r.m g then
        (match nth r.es i with
        | some e => partA ag o n e
        | none => none)
      else none
    | none => none
  | _ => none
def setNth {α : Type} : List α → Nat → α → List α
  | [], _, _ => []
  | x :: l, n, y => match n with | 0 => y :: l | k + 1 => x :: setNth l k y
def lay {α : Type} (l : List α) (n : Nat) (new : List α) : List α := l.take n ++ new ++ l.drop (n + new.length)
def storeA (h : AHeap) (n : Nat) (a v : AV) : Option AHeap :=
  match a with
  | .ptr id g i o => match h.row id with
    | some r => bif r.rw && Nat.beq g r.g && Nat.beq v.cells.length n && allLeaf v.cells then
        (match nth r.es i with
        | some e => bif Nat.ble (o + n) e.length then some (h.put id (.row { r with es := setNth r.es i (lay e o v.cells), m := r.g })) else none
        | none => none)
      else none
    | none => bif Nat.beq n 0 && Nat.beq v.cells.length 0 then some h else none
  | _ => none
def newRow (h : AHeap) (es : List (List AV)) (sz : Nat) (ty : Option Nat := none) : AHeap := h.push (.row { es, sz, g := 0, m := 0, rw := true, ty })
def allocA (h : AHeap) (z : List AV) : Option (AV × AHeap) :=
  bif Nat.beq z.length 0 then some (.ptr h.sz 0 0 0, h.push .gone) else bif allLeaf z then some (.ptr h.sz 0 0 0, newRow h [z] z.length) else none
def tyJoin : Option Nat → Option Nat → Option Nat
  | some a, some b => bif Nat.beq a b then some a else none
  | _, _ => none
def boxA (h : AHeap) (n : Nat) (v : AV) : Option (AV × AHeap) :=
  bif Nat.beq v.cells.length n && allLeaf v.cells && Nat.blt 0 n then some (.ptr h.sz 0 0 0, newRow h [v.cells] n) else none
def fillA (ρ : Regs) (cells : List AV) : List (Nat × Nat × Opd) → Option (List AV)
  | [] => some cells
  | (off, n, x) :: rest => match ev ρ x with
    | some v => bif Nat.beq v.cells.length n && Nat.ble (off + n) cells.length && allLeaf v.cells then fillA ρ (lay cells off v.cells) rest else none
    | none => none
def fillRow (ρ : Regs) (sz : Nat) (es : List (List AV)) : List (Nat × Opd) → Option (List (List AV))
  | [] => some es
  | (i, x) :: rest => match ev ρ x with
    | some v => bif Nat.beq v.cells.length sz && Nat.blt i es.length && allLeaf v.cells then fillRow ρ sz (setNth es i v.cells) rest else none
    | none => none
def asNat : AV → Option Nat
  | .int _ (.ofNat n) => some n
  | _ => none
def evNat (ρ : Regs) (d : Nat) : Option Opd → Option Nat
  | none => some d
  | some x => match ev ρ x with
    | some v => asNat v
    | none => none
def rowSz (h : AHeap) (id sz : Nat) : Bool :=
  match h.row id with
  | some r => Nat.beq r.sz sz
  | none => false
def sliceA (ρ : Regs) (h : AHeap) (sz : Nat) (x : AV) (lo hi mx : Option Opd) : Option AV :=
  match x with
  | .slc id g s len cap ex =>
    bif rowSz h id sz then
    match mx with
    | some m => match evNat ρ 0 (some m), evNat ρ len hi, evNat ρ 0 lo with
      | some m, some h, some l => bif Nat.ble l h && Nat.ble h m && Nat.ble m cap && hi.isSome then some (.slc id g (s + l) (h - l) (m - l) true) else none
      | _, _, _ => none
    | none => match evNat ρ len hi, evNat ρ 0 lo with
      | some h, some l => bif Nat.ble l h && Nat.ble h cap then some (.slc id g (s + l) (h - l) (cap - l) ex) else none
      | _, _ => none
    else none
  | .nilSlc =>
    match evNat ρ 0 mx, evNat ρ 0 hi, evNat ρ 0 lo with
    | some 0, some 0, some 0 => bif mx.isNone || hi.isSome then some .nilSlc else none
    | _, _, _ => none
  | .emp =>
    match evNat ρ 0 mx, evNat ρ 0 hi, evNat ρ 0 lo with
    | some 0, some 0, some 0 => bif mx.isNone || hi.isSome then some .emp else none
    | _, _, _ => none
  | _ => none
def sliceS (ρ : Regs) (x : AV) (lo hi : Option Opd) : Option AV :=
  match x with
  | .str s => match evNat ρ s.length hi, evNat ρ 0 lo with
    | some h, some l => bif Nat.ble l h && Nat.ble h s.length then some (.str ((s.take h).drop l)) else none
    | _, _ => none
  | _ => none
def source (h : AHeap) (sz : Nat) : AV → Option (List (List AV))
  | .nilSlc => some []
  | .emp => some []
  | .slc id g s len _ _ => bif Nat.beq len 0 then some [] else match h.row id with
    | some r => bif Nat.ble r.m g && Nat.beq r.sz sz then (let l := (r.es.drop s).take len; bif Nat.beq l.length len then some l else none) else none
    | none => none
  | .str s => bif Nat.beq sz 1 then some (s.map fun b => [.int .u8 (.ofNat b)]) else none
  | _ => none
def appendNew (h : AHeap) (sz bytes : Nat) (s : AV) (new : List (List AV)) (ty : Option Nat := none) : Option (AV × AHeap) :=
    match s with
    | .nilSlc => match new with
      | [] => some (.nilSlc, h)
      | _ => bif Nat.ble (new.length * bytes) most && Nat.ble new.length most then some (.slc h.sz 0 0 new.length new.length false, newRow h new sz ty) else none
    | .emp => match new with
      | [] => some (.emp, h)
      | _ => bif Nat.ble (new.length * bytes) most && Nat.ble new.length most then some (.slc h.sz 0 0 new.length new.length false, newRow h new sz ty) else none
    | .slc id g st len cap ex =>
      match new with
      | [] => some (s, h)
      | _ => match h.row id with
        | none => none
        | some r =>
          bif Nat.ble ((len + new.length) * bytes) most && Nat.ble (len + new.length) most && Nat.beq r.sz sz then
            bif Nat.ble (len + new.length) cap then
              (bif r.rw && Nat.beq g r.g then some (.slc id g st (len + new.length) cap ex, h.put id (.row { r with es := lay r.es (st + len) new, m := r.g })) else none)
            else bif ex then
              (bif Nat.ble r.m g then (let old := (r.es.drop st).take len; bif Nat.beq old.length len then some (.slc h.sz 0 0 (len + new.length) (len + new.length) false, newRow h (old ++ new) sz ty) else none) else none)
            else bif r.rw && Nat.beq g r.g && Nat.beq st 0 then
              (bif Nat.beq len r.es.length then some (.slc id (r.g + 1) 0 (len + new.length) (len + new.length) false, h.put id (.row { r with es := r.es ++ new, g := r.g + 1, ty := tyJoin r.ty ty }))
              else some (.slc id (r.g + 1) 0 (len + new.length) (len + new.length) false, h.put id (.row { r with es := r.es.take len ++ new, g := r.g + 1, m := r.g + 1, ty := tyJoin r.ty ty })))
            else none
          else none
    | _ => none
def appendA (h : AHeap) (sz bytes : Nat) (s x : AV) (ty : Option Nat := none) : Option (AV × AHeap) :=
  bif Nat.beq sz 0 then none else
  match source h sz x with
  | none => none
  | some new => appendNew h sz bytes s new ty
def storeRow (h : AHeap) (sz id g st : Nat) (new : List (List AV)) : Option AHeap :=
  match h.row id with
  | some r => bif r.rw && Nat.beq g r.g && Nat.beq r.sz sz && Nat.ble (st + new.length) r.es.length then some (h.put id (.row { r with es := lay r.es st new, m := r.g })) else none
  | none => none
def copyA (h : AHeap) (sz : Nat) (d s : AV) : Option (AV × AHeap) :=
  bif Nat.beq sz 0 then none else
  match source h sz s with
  | none => none
  | some src => match d with
    | .nilSlc => some (.int .i64 0, h)
    | .emp => some (.int .i64 0, h)
    | .slc id g st len _ _ =>
      let new := src.take len
      match new with
      | [] => some (.int .i64 0, h)
      | _ => match storeRow h sz id g st new with
        | some h' => some (.int .i64 (.ofNat new.length), h')
        | none => none
    | _ => none
def appzA (h : AHeap) (sz bytes : Nat) (z : List AV) (s x : AV) : Option (AV × AHeap) :=
  bif Nat.blt 0 sz && Nat.beq z.length sz && allLeaf z then
    (match asNat x with
    | some n => bif Nat.ble n most && Nat.ble (n * bytes) most then appendNew h sz bytes s (repl n z) else none
    | none => none)
  else none
def findE (k : AV) : List (AV × AV × Nat) → Option (Option AV)
  | [] => some none
  | (k', v, _) :: l => match keyEq k k' with
    | some true => some (some v)
    | some false => findE k l
    | none => none
def setE (k v : AV) : List (AV × AV × Nat) → List (AV × AV × Nat)
  | [] => []
  | (k', v', b) :: l => match keyEq k k' with
    | some true => (k, v, b) :: l
    | _ => (k', v', b) :: setE k v l
def delE (k : AV) : List (AV × AV × Nat) → List (AV × AV × Nat)
  | [] => []
  | (k', v', b) :: l => match keyEq k k' with
    | some true => l
    | _ => (k', v', b) :: delE k l
def mapOf (h : AHeap) : AV → Option (List (AV × AV × Nat) × Nat)
  | .map id => match h.get id with
    | some (.map es c) => some (es, c)
    | some (.rmap es c) => some (es, c)
    | _ => none
  | .nilMap => some ([], 0)
  | _ => none
def lookA (h : AHeap) (kk : KK) (ok : Bool) (z m k : AV) : Option AV :=
  bif fitsKK kk k then
    match mapOf h m with
    | some (es, _) => match findE k es with
      | some (some v) => some (bif ok then .tup [v, .bool true] else v)
      | some none => some (bif ok then .tup [z, .bool false] else z)
      | none => none
    | none => none
  else none
def mupdA (h : AHeap) (kk : KK) (m k v : AV) : Option AHeap :=
  bif fitsKK kk k then
    match m with
    | .map id => match h.get id with
      | some (.map es c) => match findE k es with
        | some (some _) => some (h.put id (.map (setE k v es) c))
        | some none => some (h.put id (.map (es ++ [(k, v, c)]) (c + 1)))
        | none => none
      | _ => none
    | _ => none
  else none
def delA (h : AHeap) (kk : KK) (m k : AV) : Option AHeap :=
  bif fitsKK kk k then
    match m with
    | .nilMap => some h
    | .map id => match h.get id with
      | some (.map es c) => match findE k es with
        | some (some _) => some (h.put id (.map (delE k es) c))
        | some none => some h
        | none => none
      | _ => none
    | _ => none
  else none
def lenA (h : AHeap) (k : Nat) (x : AV) : Option AV :=
  match k, x with
  | 0, .str s => some (.int .i64 (.ofNat s.length))
  | 1, .slc _ _ _ n _ _ => some (.int .i64 (.ofNat n))
  | 1, .nilSlc => some (.int .i64 0)
  | 1, .emp => some (.int .i64 0)
  | 2, .nilMap => some (.int .i64 0)
  | 2, .map id => match h.get id with
    | some (.map es _) => some (.int .i64 (.ofNat es.length))
    | some (.rmap es _) => some (.int .i64 (.ofNat es.length))
    | _ => none
  | _, _ => none
def capA : AV → Option AV
  | .nilSlc => some (.int .i64 0)
  | .emp => some (.int .i64 0)
  | .slc _ _ _ _ c true => some (.int .i64 (.ofNat c))
  | _ => none
def bytesOf : List (List AV) → Option (List Nat)
  | [] => some []
  | [.int .u8 (.ofNat n)] :: l => match bytesOf l with
    | some r => bif Nat.blt n 256 then some (n :: r) else none
    | none => none
  | _ => none
def mmA (mx : Bool) : AV → List AV → Option AV
  | .int k a, [] => some (.int k a)
  | .int k a, .int j b :: l => bif Nat.beq (kidx k) (kidx j) then mmA mx (.int k (bif mx then (bif iltb a b then b else a) else (bif iltb b a then b else a))) l else none
  | _, _ => none
def pureV (o : Option AV) (h : AHeap) : Option (AV × AHeap) :=
  match o with
  | some v => some (v, h)
  | none => none
def unit (o : Option AHeap) : Option (AV × AHeap) :=
  match o with
  | some h => some (.tup [], h)
  | none => none
def ev1 (ρ : Regs) (x : Opd) (f : AV → Option AV) : Option AV :=
  match ev ρ x with
  | some v => f v
  | none => none
def ev2 (ρ : Regs) (x y : Opd) (f : AV → AV → Option AV) : Option AV :=
  match ev ρ x with
  | some v => (match ev ρ y with
    | some w => f v w
    | none => none)
  | none => none
def notA : AV → Option AV
  | .bool b => some (.bool (!b))
  | _ => none
def negA : AV → Option AV
  | .int k n => some (.int k (wrapA k (0 - n)))
  | _ => none
def convA (k : IntKind) : AV → Option AV
  | .int _ n => some (.int k (wrapA k n))
  | _ => none
def cvsA : AV → Option AV
  | .str s => some (.str s)
  | _ => none
def nilckA : AV → Option AV
  | .nilPtr => none
  | .nilFn => none
  | .nilIf => none
  | v => some v
def fadrA (off : Nat) : AV → Option AV
  | .ptr id g i o => some (.ptr id g i (o + off))
  | _ => none
def fldA (ag : Bool) (off n : Nat) : AV → Option AV
  | .agg l => partA ag off n l
  | _ => none
def iadrA (h : AHeap) (sz : Nat) : AV → AV → Option AV
  | .slc id g s len _ _, v => match asNat v with
    | some i => bif Nat.blt i len && rowSz h id sz then some (.ptr id g (s + i) 0) else none
    | none => none
  | _, _ => none
def iadraA (len esz : Nat) : AV → AV → Option AV
  | .ptr id g j o, v => match asNat v with
    | some i => bif Nat.blt i len then some (.ptr id g j (o + i * esz)) else none
    | none => none
  | _, _ => none
def idxsA : AV → AV → Option AV
  | .str s, v => match asNat v with
    | some i => match nth s i with
      | some b => some (.int .u8 (.ofNat b))
      | none => none
    | none => none
  | _, _ => none
def idxaA (ag : Bool) (len esz : Nat) : AV → AV → Option AV
  | .agg l, v => match asNat v with
    | some i => bif Nat.blt i len then partA ag (i * esz) esz l else none
    | none => none
  | _, _ => none
def extA (i : Nat) : AV → Option AV
  | .tup l => nth l i
  | _ => none
def b2sA (h : AHeap) (v : AV) : Option AV :=
  match v with
  | .nilSlc => some (.str [])
  | .emp => some (.str [])
  | .slc .. => match source h 1 v with
    | some l => match bytesOf l with
      | some s => some (.str s)
      | none => none
    | none => none
  | _ => none
def utoA (h : AHeap) : AV → Option AV
  | .nilPtr => some .nilPtr
  | .ptr id g i o => match h.row id with
    | some r => bif r.rw && Nat.ble r.m g && Nat.beq g r.g && Nat.blt i r.es.length && Nat.blt o r.sz then some (.ptr id g i o) else none
    | none => none
  | _ => none
def ufrA (h : AHeap) (t n : Nat) : AV → Option AV
  | .nilPtr => some .nilPtr
  | .ptr id g i o => match h.row id with
    | some r => (match r.ty with
      | some u => bif r.rw && Nat.ble r.m g && Nat.beq g r.g && Nat.beq u t && Nat.beq i 0 && Nat.beq o 0 && Nat.beq r.sz n && Nat.blt 0 r.es.length then some (.ptr id g i o) else none
      | none => none)
    | none => none
  | _ => none
def sdatA : AV → Option AV
  | .nilSlc => some .nilPtr
  | .slc id g s _ cap _ => bif Nat.blt 0 cap then some (.ptr id g s 0) else none
  | _ => none
def ustrA (h : AHeap) (e : Nat) (p n : AV) : Option (AV × AHeap) :=
  match n with
  | .int .i64 (.ofNat k) => match p with
    | .nilPtr => bif Nat.beq k 0 then some (.str [], h) else none
    | .ptr id g i o => bif Nat.beq k 0 then some (.str [], h) else
      match h.row id with
      | some r => (match r.ty with
        | some u => bif r.rw && Nat.beq g r.g && Nat.beq u e && Nat.beq i 0 && Nat.beq o 0 && Nat.beq r.sz 1 && Nat.ble k most then
            (let l := r.es.take k
             bif Nat.beq l.length k then
               (match bytesOf l with
               | some s => some (.str s, h.put id .gone)
               | none => none)
             else none)
          else none
        | none => none)
      | none => none
    | _ => none
  | _ => none
def mkslA (h : AHeap) (sz bytes : Nat) (z : List AV) (l c : AV) : Option (AV × AHeap) :=
  match asNat l, asNat c with
  | some l, some c => bif Nat.ble l c && Nat.ble (c * bytes) most && Nat.ble c most && Nat.beq z.length sz && Nat.blt 0 sz && allLeaf z then some (.slc h.sz 0 0 l c true, newRow h (repl c z) sz) else none
  | _, _ => none
def clrA (h : AHeap) (sz : Nat) (z : List AV) (v : AV) : Option AHeap :=
  match v with
  | .nilSlc => some h
  | .emp => some h
  | .slc id g st len _ _ => bif Nat.beq len 0 then some h else bif Nat.beq z.length sz && allLeaf z && Nat.blt 0 sz then storeRow h sz id g st (repl len z) else none
  | _ => none
def rngA (h : AHeap) (v : AV) : Option (AV × AHeap) :=
  match v with
  | .nilMap => some (.itr h.sz, h.push (.iter none 0 [] 0))
  | .map id => match h.get id with
    | some (.map _ c) => some (.itr h.sz, h.push (.iter (some id) c [] c))
    | _ => none
  | _ => none
def memN : Nat → List Nat → Bool
  | _, [] => false
  | n, m :: l => bif Nat.beq n m then true else memN n l
def cands (es : List (AV × AV × Nat)) (since : Nat) (seen : List Nat) : List (Option (AV × AV × Nat)) :=
  let left := es.filter fun e => !memN e.2.2 seen
  let old := left.filter fun e => Nat.blt e.2.2 since
  let new := left.filter fun e => !Nat.blt e.2.2 since
  (bif old.isEmpty then [none] else []) ++ (old ++ new).map some
def findBorn (b : Nat) : List (AV × AV × Nat) → Option (AV × AV × Nat)
  | [] => none
  | e :: l => bif Nat.beq e.2.2 b then some e else findBorn b l
def entA (h : AHeap) : AV → Option AV
  | .itr id => match h.get id with
    | some (.iter (some m) _ (b :: _) stepped) => match h.get m with
      | some (.map es clock) => bif Nat.beq clock stepped then
          (match findBorn b es with
          | some e => some (.tup [e.1, e.2.1])
          | none => none)
        else none
      | _ => none
    | _ => none
  | _ => none
def evalA (ρ : Regs) (h : AHeap) (op : AOp) : Option (AV × AHeap) :=
  match op with
  | .mv x => pureV (ev ρ x) h
  | .pick c a b => match ev ρ c with
    | some (.bool true) => pureV (ev ρ a) h
    | some (.bool false) => pureV (ev ρ b) h
    | _ => none
  | .alloc z => allocA h z
  | .box n x => match ev ρ x with
    | some v => boxA h n v
    | none => none
  | .build z parts => match fillA ρ z parts with
    | some l => some (.agg l, h)
    | none => none
  | .bslice n sz z parts => bif Nat.beq z.length sz && Nat.blt 0 sz && Nat.ble (n * sz) 16777216 && allLeaf z then
      (match fillRow ρ sz (repl n z) parts with
      | some es => some (.slc h.sz 0 0 n n true, newRow h es sz)
      | none => none)
    else none
  | .load ag n a => pureV (ev1 ρ a (loadA h ag n)) h
  | .store n a v => match ev ρ a, ev ρ v with
    | some a, some v => unit (storeA h n a v)
    | _, _ => none
  | .nilck x => pureV (ev1 ρ x nilckA) h
  | .bin op x y => pureV (ev2 ρ x y (binA op)) h
  | .eq neg k x y => match ev ρ x, ev ρ y with
    | some a, some b => match eqA h k a b with
      | some r => some (.bool (bif neg then !r else r), h)
      | none => none
    | _, _ => none
  | .not x => pureV (ev1 ρ x notA) h
  | .neg x => pureV (ev1 ρ x negA) h
  | .conv k x => pureV (ev1 ρ x (convA k)) h
  | .b2s x => pureV (ev1 ρ x (b2sA h)) h
  | .cvs x => pureV (ev1 ρ x cvsA) h
  | .mkfn f first cap => match evs ρ first, evs ρ cap with
    | some a, some b => some (.fn (.func f) a b, h)
    | _, _ => none
  | .mkmap => some (.map h.sz, h.push (.map [] 0))
  | .mksl sz bytes z l c => match ev ρ l, ev ρ c with
    | some l, some c => mkslA h sz bytes z l c
    | _, _ => none
  | .sl sz x lo hi mx => pureV (ev1 ρ x fun v => sliceA ρ h sz v lo hi mx) h
  | .sls x lo hi => pureV (ev1 ρ x fun v => sliceS ρ v lo hi) h
  | .fadr off x => pureV (ev1 ρ x (fadrA off)) h
  | .fld ag off n x => pureV (ev1 ρ x (fldA ag off n)) h
  | .iadr sz x i => pureV (ev2 ρ x i (iadrA h sz)) h
  | .iadra len esz x i => pureV (ev2 ρ x i (iadraA len esz)) h
  | .idxs x i => pureV (ev2 ρ x i idxsA) h
  | .idxa ag len esz x i => pureV (ev2 ρ x i (idxaA ag len esz)) h
  | .look kk ok z m k => pureV (ev2 ρ m k (lookA h kk ok z)) h
  | .mupd kk m k v => match ev ρ m, ev ρ k, ev ρ v with
    | some m, some k, some v => unit (mupdA h kk m k v)
    | _, _, _ => none
  | .ext x i => pureV (ev1 ρ x (extA i)) h
  | .len k x => pureV (ev1 ρ x (lenA h k)) h
  | .cap x => pureV (ev1 ρ x capA) h
  | .app sz bytes s x => match ev ρ s, ev ρ x with
    | some s, some x => appendA h sz bytes s x
    | _, _ => none
  | .appz sz bytes z s x => match ev ρ s, ev ρ x with
    | some s, some x => appzA h sz bytes z s x
    | _, _ => none
  | .allot t z => bif Nat.blt 0 z.length && allLeaf z then some (.ptr h.sz 0 0 0, newRow h [z] z.length (some t)) else none
  | .appb e s x => match ev ρ s, ev ρ x with
    | some s, some x => appendA h 1 1 s x (some e)
    | _, _ => none
  | .uto x => pureV (ev1 ρ x (utoA h)) h
  | .ufr t n x => pureV (ev1 ρ x (ufrA h t n)) h
  | .sdat x => pureV (ev1 ρ x sdatA) h
  | .ustr e p n => match ev ρ p, ev ρ n with
    | some p, some n => ustrA h e p n
    | _, _ => none
  | .copy sz d s => match ev ρ d, ev ρ s with
    | some d, some s => copyA h sz d s
    | _, _ => none
  | .rng x => match ev ρ x with
    | some v => rngA h v
    | none => none
  | .ent x => pureV (ev1 ρ x (entA h)) h
  | .nxt _ => none
  | .del kk m k => match ev ρ m, ev ρ k with
    | some m, some k => unit (delA h kk m k)
    | _, _ => none
  | .clr sz z x => match ev ρ x with
    | some v => unit (clrA h sz z v)
    | none => none
  | .mm mx xs => match evs ρ xs with
    | some (v :: l) => pureV (mmA mx v l) h
    | _ => none
  | .fail => none
  | .call .. => none
def sameFn : AFn → AFn → Bool
  | .func f, .func g => Nat.beq f g
  | .yield a, .yield b => Nat.beq a b
  | _, _ => false
mutual
def AV.same : AV → AV → Bool
  | .bool a, .bool b => a == b
  | .int k a, .int j b => Nat.beq (kidx k) (kidx j) && ieqb a b
  | .str a, .str b => leqb a b
  | .ptr a b c d, .ptr a' b' c' d' => Nat.beq a a' && Nat.beq b b' && Nat.beq c c' && Nat.beq d d'
  | .nilPtr, .nilPtr => true
  | .slc a b c d e f, .slc a' b' c' d' e' f' => Nat.beq a a' && Nat.beq b b' && Nat.beq c c' && Nat.beq d d' && Nat.beq e e' && (f == f')
  | .nilSlc, .nilSlc => true
  | .emp, .emp => true
  | .map a, .map b => Nat.beq a b
  | .nilMap, .nilMap => true
  | .fn f a b, .fn f' a' b' => sameFn f f' && sames a a' && sames b b'
  | .nilFn, .nilFn => true
  | .agg l, .agg m => sames l m
  | .tup l, .tup m => sames l m
  | .nilIf, .nilIf => true
  | .ifc t v, .ifc u w => Nat.beq t u && AV.same v w
  | _, _ => false
def sames : List AV → List AV → Bool
  | [], [] => true
  | a :: l, b :: m => AV.same a b && sames l m
  | _, _ => false
end
abbrev Kont := AV → AHeap → Bool
abbrev CallFn := AFn → List AV → AHeap → Kont → Bool
abbrev KSt := AV → St → Bool
abbrev KEx := AExit → St → Bool
def put (ρ : Regs) (dst : Option Nat) (v : AV) : Regs :=
  match dst with
  | some d => ρ.set d v
  | none => ρ
def wantedA (ρ : Regs) : Option (Nat × Bool) → Option Bool
  | none => some true
  | some (d, b) => match ρ.get d with
    | some (.bool c) => some (c == b)
    | some _ => some false
    | none => none
def nextA (h : AHeap) (v : AV) (K : Kont) : Bool :=
  match v with
  | .itr id => match h.get id with
    | some (.iter none _ _ _) => K (.tup [.bool false]) h
    | some (.iter (some m) since seen last) => match h.get m with
      | some (.map es clock) =>
        bif !seen.isEmpty && !es.isEmpty && es.all (fun e => !Nat.blt e.2.2 last) then false
        else (cands es since seen).all fun
          | none => K (.tup [.bool false]) h
          | some e => K (.tup [.bool true, e.1, e.2.1]) (h.put id (.iter (some m) since (e.2.2 :: seen) clock))
      | _ => false
    | _ => false
  | _ => false
def evalK (call : CallFn) (ρ : Regs) (h : AHeap) (op : AOp) (K : Kont) : Bool :=
  match op with
  | .call f args => match ev ρ f, evs ρ args with
    | some (.fn tgt first cap), some as => call tgt (first ++ as ++ cap) h K
    | _, _ => false
  | .nxt x => match ev ρ x with
    | some v => nextA h v K
    | none => false
  | op => match evalA ρ h op with
    | some (v, h') => K v h'
    | none => false
def stepA (call : CallFn) (o : AOper) (σ : St) (K : KSt) : Bool :=
  match wantedA σ.regs o.grd with
  | some true => evalK call σ.regs σ.h o.op fun v h' => K v ⟨put σ.regs o.dst v, h'⟩
  | some false => K (.tup []) ⟨put σ.regs o.dst (.tup []), σ.h⟩
  | none => false
def runR (call : CallFn) : List AOper → St → (St → Bool) → Bool
  | [], σ, K => K σ
  | o :: l, σ, K => stepA call o σ fun _ σ' => runR call l σ' K
def calcA : List AOper → Regs → AHeap → Option Regs
  | [], ρ, _ => some ρ
  | o :: l, ρ, h => match wantedA ρ o.grd with
    | some true => (match evalA ρ h o.op with
      | some (v, _) => calcA l (put ρ o.dst v) h
      | none => none)
    | some false => calcA l (put ρ o.dst (.tup [])) h
    | none => none
def againOne (ρ : Regs) (h : AHeap) (o : AOper) : Bool :=
  match wantedA ρ o.grd with
  | some true => (match evalA ρ h o.op with
    | some (v, _) => (match o.dst with
      | some d => (match ρ.get d with
        | some u => AV.same v u
        | none => false)
      | none => true)
    | none => false)
  | some false => true
  | none => false
def again (ρ : Regs) (h : AHeap) : List AOper → Bool
  | [] => true
  | o :: l => bif againOne ρ h o then again ρ h l else false
def calcK (l : List AOper) (ρ : Regs) (h : AHeap) (K : Regs → Bool) : Bool :=
  match calcA l ρ h with
  | some ρ' => K ρ'
  | none => false
def runD (call : CallFn) : List (AOper × List AOper × List AOper) → St → (St → Bool) → Bool
  | [], σ, K => K σ
  | (act, chk, ns) :: rest, σ, K => stepA call act σ fun _ σ' =>
      bif again σ'.regs σ'.h chk then
        (match calcA ns σ'.regs σ'.h with
        | some ρ => runD call rest ⟨ρ, σ'.h⟩ K
        | none => false)
      else false
def iter (f : St → KEx → Bool) (K : KEx) : Nat → St → Bool
  | 0, _ => false
  | n + 1, σ => f σ fun x σ' => match x with
    | .normal => iter f K n σ'
    | x => K x σ'
def iterG (l : Nat) (f : St → KEx → Bool) (K : KEx) : Nat → St → Bool
  | 0, _ => false
  | n + 1, σ => f σ fun x σ' => match x with
    | .goto l' => bif Nat.beq l' l then iterG l f K n σ' else false
    | x => K x σ'
def keepR : List Nat → Regs → Regs
  | [], _ => .lf
  | k :: ks, ρ => match ρ.get k with
    | some v => (keepR ks ρ).set k v
    | none => keepR ks ρ
def runC (call : CallFn) (n : Nat) : ACode → St → KEx → Bool
  | .skip, σ, K => K .normal σ
  | .reg ops, σ, K => runR call ops σ (K .normal)
  | .dreg n0 rest, σ, K => match calcA n0 σ.regs σ.h with
    | some ρ => runD call rest ⟨ρ, σ.h⟩ (K .normal)
    | none => false
  | .seq a b, σ, K => runC call n a σ fun x σ' => match x with
    | .normal => runC call n b σ' K
    | x => K x σ'
  | .cond c a b, σ, K => match ev σ.regs c with
    | some (.bool true) => runC call n a σ K
    | some (.bool false) => runC call n b σ K
    | _ => false
  | .block id c, σ, K => runC call n c σ fun x σ' => match x with
    | .exit i => bif Nat.beq i id then K .normal σ' else K (.exit i) σ'
    | x => K x σ'
  | .loop c, σ, K => iter (runC call n c) K n σ
  | .rf f ps asg body, σ, K => match ev σ.regs f with
    | some (.fn (.func fid) first cap) =>
      call (.func fid) (first ++ [.fn (.yield σ.h.sz) [] []] ++ cap) (σ.h.push (.loop { regs := σ.regs, ps, asg, body, st := .ready })) fun _ h' =>
        match h'.get σ.h.sz with
        | some (.loop l) => match l.st with
          | .ready => K .normal ⟨σ.regs, h'.put σ.h.sz (.loop { l with st := .exh })⟩
          | .done x => K x ⟨σ.regs, h'.put σ.h.sz (.loop { l with st := .exh })⟩
          | _ => false
        | _ => false
    | _ => false
  | .exit id, σ, K => K (.exit id) σ
  | .scope c l r, σ, K => runC call n c σ fun x σ' => match x with
    | .goto l' => bif Nat.beq l' l then iterG l (runC call n r) K n σ' else false
    | x => K x σ'
  | .label _, σ, K => K .normal σ
  | .goto l, σ, K => K (.goto l) σ
  | .ret, σ, K => K .ret σ
  | .refuse, _, _ => false
  | .keep ks c, σ, K => runC call n c ⟨keepR ks σ.regs, σ.h⟩ K
def strip : ACode → ACode
  | .keep _ c => strip c
  | .seq a b => .seq (strip a) (strip b)
  | .cond c a b => .cond c (strip a) (strip b)
  | .block id c => .block id (strip c)
  | .loop c => .loop (strip c)
  | .rf f ps asg body => .rf f ps (strip asg) (strip body)
  | .scope c l r => .scope (strip c) l (strip r)
  | .skip => .skip
  | .reg ops => .reg ops
  | .dreg n0 rest => .dreg n0 rest
  | .exit id => .exit id
  | .label l => .label l
  | .goto l => .goto l
  | .ret => .ret
  | .refuse => .refuse
structure AFun where
  np : Nat
  res : List (Nat × Option (Bool × Nat))
  body : ACode
structure Env where
  code : Nat → Option AFun
  prim : Nat → Option (CallFn → Nat → List AV → AHeap → Kont → Bool)
def stripF (fn : AFun) : AFun := { fn with body := strip fn.body }
def initR : Nat → List AV → Regs → Regs
  | _, [], ρ => ρ
  | i, v :: l, ρ => initR (i + 1) l (ρ.set i v)
def resultA (ρ : Regs) (h : AHeap) : Nat × Option (Bool × Nat) → Option AV
  | (t, none) => ρ.get t
  | (t, some (ag, n)) => match ρ.get t with
    | some a => loadA h ag n a
    | none => none
def resultsA (ρ : Regs) (h : AHeap) : List (Nat × Option (Bool × Nat)) → Option (List AV)
  | [] => some []
  | r :: l => match resultA ρ h r with
    | some v => match resultsA ρ h l with
      | some vs => some (v :: vs)
      | none => none
    | none => none
def oneOf : List AV → AV
  | [v] => v
  | l => .tup l
def setPs : List Nat → List AV → Regs → Option Regs
  | [], [], ρ => some ρ
  | p :: ps, v :: vs, ρ => setPs ps vs (ρ.set p v)
  | _, _, _ => none
def callN (E : Env) : Nat → CallFn
  | 0 => fun _ _ _ _ => false
  | n + 1 => fun tgt args h K =>
    match tgt with
    | .func f => match E.prim f with
      | some p => p (callN E n) n args h K
      | none => match E.code f with
        | none => false
        | some fn => bif Nat.beq args.length fn.np then
            runC (callN E n) n fn.body ⟨initR 0 args .lf, h⟩ fun x σ => match x with
              | .normal => (match resultsA σ.regs σ.h fn.res with
                | some l => K (oneOf l) σ.h
                | none => false)
              | .ret => (match resultsA σ.regs σ.h fn.res with
                | some l => K (oneOf l) σ.h
                | none => false)
              | _ => false
          else false
    | .yield id => match h.get id with
      | some (.loop l) => match l.st with
        | .ready => match setPs l.ps args l.regs with
          | some ρ => runC (callN E n) n l.asg ⟨ρ, h⟩ fun x σ => match x with
            | .normal => (match σ.h.get id with
              | some (.loop l1) => match l1.st with
                | .ready => runC (callN E n) n l.body ⟨σ.regs, σ.h.put id (.loop { l1 with st := .busy })⟩ fun x σ2 =>
                  match σ2.h.get id with
                  | some (.loop l2) => match x with
                    | .normal => K (.bool true) (σ2.h.put id (.loop { l2 with st := .ready }))
                    | x => K (.bool false) (σ2.h.put id (.loop { l2 with st := .done x }))
                  | _ => false
                | _ => false
              | _ => false)
            | _ => false
          | none => false
        | _ => false
      | _ => false
mutual
def avOf : Value → Option AV
  | .bool b => some (.bool b)
  | .int k n => some (.int k n)
  | .string s => some (.str (s.data.toList.map UInt8.toNat))
  | .pointer none => some .nilPtr
  | .slice none 0 0 => some .nilSlc
  | .map none => some .nilMap
  | .nilFunc => some .nilFn
  | .nilIface => some .nilIf
  | .agg ⟨l⟩ => match avsOf l with
    | some r => some (.agg r)
    | none => none
  | .tuple ⟨l⟩ => match avsOf l with
    | some r => some (.tup r)
    | none => none
  | _ => none
def avsOf : List Value → Option (List AV)
  | [] => some []
  | v :: l => match avOf v with
    | some a => match avsOf l with
      | some r => some (a :: r)
      | none => none
    | none => none
end
def opdOf : Operand → Option Opd
  | .tmp t => some (.t t)
  | .const v => match avOf v with
    | some a => some (.c a)
    | none => none
  | .global _ => none
  | .func f => some (.c (.fn (.func f) [] []))
def opdsOf : List Operand → Option (List Opd)
  | [] => some []
  | x :: l => match opdOf x with
    | some a => match opdsOf l with
      | some r => some (a :: r)
      | none => none
    | none => none
def optOf : Option Operand → Option (Option Opd)
  | none => some none
  | some x => match opdOf x with
    | some a => some (some a)
    | none => none
def isAggT (P : Program) (t : TypeId) : Option Bool :=
  match P.underlying t with
  | some (.struct _) => some true
  | some (.array _ _) => some true
  | some _ => some false
  | none => none
def sizeT (P : Program) (t : TypeId) : Option Nat := (P.info? t).map (·.size)
def bytesT (P : Program) (t : TypeId) : Option Nat := (P.info? t).map (·.bytes)
def zeroT (P : Program) (t : TypeId) : Option AV :=
  match P.info? t with
  | some i => match i.zero with
    | some z => avOf z
    | none => none
  | none => none
def k0Of (P : Program) (t : TypeId) : Option K0 :=
  match P.underlying t with
  | some (.int _) => some .int
  | some .string => some .str
  | some .bool => some .bool
  | _ => none
def k0sOf (P : Program) : Nat → List Field → Option (List K0)
  | _, [] => some []
  | n, f :: l => bif Nat.beq f.offset n && (f.name != "_") then
      (match k0Of P f.type with
      | some k => match k0sOf P (n + 1) l with
        | some ks => some (k :: ks)
        | none => none
      | none => none)
    else none
def structOf (P : Program) (t : TypeId) : Option (List K0) :=
  match P.underlying t with
  | some (.struct fs) => bif !P.stoodInHeld t && !P.eqGuardType P.depth t then k0sOf P 0 fs.toList else none
  | _ => none
def kkOf (P : Program) (t : TypeId) : Option KK :=
  match k0Of P t with
  | some k => some (.leaf k)
  | none => match structOf P t with
    | some ks => some (.st ks)
    | none => none
def eqKOf (P : Program) (t : TypeId) : Option EqK :=
  match P.underlying t with
  | some .bool => some .bool
  | some (.pointer e) => match sizeT P e with
    | some (_ + 1) => some .ptr
    | _ => none
  | some (.slice _) => some .slc
  | some (.map _ _) => some .map
  | some (.func _ _ _) => some .fn
  | some (.struct _) => match structOf P t with
    | some ks => some (.agg ks)
    | none => none
  | _ => none
def partsOf (places : List (Nat × Nat)) : List (Nat × Operand) → Option (List (Nat × Nat × Opd))
  | [] => some []
  | (i, x) :: l => match places[i]? with
    | some (off, n) => match opdOf x with
      | some a => match partsOf places l with
        | some r => some ((off, n, a) :: r)
        | none => none
      | none => none
    | none => none
def partsArr (esz : Nat) : List (Nat × Operand) → Option (List (Nat × Nat × Opd))
  | [] => some []
  | (i, x) :: l => match opdOf x with
    | some a => match partsArr esz l with
      | some r => some ((i * esz, esz, a) :: r)
      | none => none
    | none => none
def partsSl : List (Nat × Operand) → Option (List (Nat × Opd))
  | [] => some []
  | (i, x) :: l => match opdOf x with
    | some a => match partsSl l with
      | some r => some ((i, a) :: r)
      | none => none
    | none => none
def posT (P : Program) (t : TypeId) : Bool := match sizeT P t with | some (_ + 1) => true | _ => false
def oneT (P : Program) (t : TypeId) : Bool := match sizeT P t with | some 1 => true | _ => false
def isByteT (P : Program) (e : TypeId) : Bool := match P.underlying e with | some (.int .u8) => true | _ => false
def selfLaid (P : Program) (t : TypeId) : Bool := Nat.blt 0 P.depth && sameLayout P P.depth t t
def isNoted (z : List AV) : Bool := match z with | [.nilPtr, .nilSlc] => true | _ => false
def compBuiltin (P : Program) (b : Builtin) (types : List TypeId) (args : List Operand) : Option AOp :=
  match b, types, args with
  | .len, [t], [x] => do
    let a ← opdOf x
    match P.underlying t with
    | some .string => pure (.len 0 a)
    | some (.slice _) => pure (.len 1 a)
    | some (.map _ _) => pure (.len 2 a)
    | some (.array n _) => pure (.mv (.c (.int .i64 (.ofNat n))))
    | _ => none
  | .cap, [t], [x] => do
    let a ← opdOf x
    match P.underlying t with
    | some (.slice _) => pure (.cap a)
    | _ => none
  | .append, [s, t], [x, y] =>
    match opdOf x, opdOf y, P.underlying s, P.underlying t with
    | some a, some b, some (.slice e), some d => match sizeT P e, bytesT P e, zeroT P e with
      | some sz, some bytes, some z => bif Nat.beq z.cells.length sz && Nat.blt 0 sz then
          (match d with
          | .slice _ => some (bif isByteT P e && Nat.beq sz 1 && Nat.beq bytes 1 then .appb e a b else .app sz bytes a b)
          | .string => some (.app sz bytes a b)
          | .int _ => some (.appz sz bytes z.cells a b)
          | _ => none)
        else none
      | _, _, _ => none
    | _, _, _, _ => none
  | .copy, [s, _], [x, y] => do
    let a ← opdOf x
    let b ← opdOf y
    match P.underlying s with
    | some (.slice e) => pure (.copy (← sizeT P e) a b)
    | _ => none
  | .delete, [t, _], [x, y] => do
    let a ← opdOf x
    let b ← opdOf y
    match P.underlying t with
    | some (.map k _) => pure (.del (← kkOf P k) a b)
    | _ => none
  | .clear, [t], [x] => do
    let a ← opdOf x
    match P.underlying t with
    | some (.slice e) => pure (.clr (← sizeT P e) (← zeroT P e).cells a)
    | _ => none
  | .unsafeSliceData, [_], [x] => do pure (.sdat (← opdOf x))
  | .unsafeString, [t, _], [x, y] => match opdOf x, opdOf y, P.underlying t with
    | some a, some b, some (.pointer e) => bif isByteT P e && oneT P e then some (.ustr e a b) else none
    | _, _, _ => none
  | .max, _, xs => do pure (.mm true (← opdsOf xs))
  | .min, _, xs => do pure (.mm false (← opdsOf xs))
  | _, _, _ => none
def compRaw (P : Program) (op : Op) : Option AOp :=
  match op with
  | .move x | .assign x => do pure (.mv (← opdOf x))
  | .pick c a b => do pure (.pick (← opdOf c) (← opdOf a) (← opdOf b))
  | .alloc t => match zeroT P t with
    | some z => some (bif isNoted z.cells then .allot t z.cells else .alloc z.cells)
    | none => none
  | .box t x => do pure (.box (← sizeT P t) (← opdOf x))
  | .build t parts => do
    let z ← zeroT P t
    match P.underlying t with
    | some (.struct fs) => pure (.build z.cells (← partsOf (← fs.toList.mapM (fun f => (P.info? f.type).map fun i => (f.offset, i.size))) parts.toList))
    | some (.array _ e) => pure (.build z.cells (← partsArr (← sizeT P e) parts.toList))
    | _ => none
  | .buildSlice t n parts => do
    match P.underlying t with
    | some (.slice e) => pure (.bslice n (← sizeT P e) (← zeroT P e).cells (← partsSl parts.toList))
    | _ => none
  | .load t a => do pure (.load (← isAggT P t) (← sizeT P t) (← opdOf a))
  | .store t a v => do pure (.store (← sizeT P t) (← opdOf a) (← opdOf v))
  | .nilCheck x => do pure (.nilck (← opdOf x))
  | .binOp op t x y _ => do
    let a ← opdOf x
    let b ← opdOf y
    match P.underlying t with
    | some (.int _) | some .string => pure (.bin op a b)
    | _ => match op with
      | .eql => do pure (.eq false (← eqKOf P t) a b)
      | .neq => do pure (.eq true (← eqKOf P t) a b)
      | _ => none
  | .unOp op _ x => do
    let a ← opdOf x
    match op with
    | .not => pure (.not a)
    | .neg => pure (.neg a)
    | _ => none
  | .convert s d x => do
    let a ← opdOf x
    match P.underlying s, P.underlying d with
    | some (.int _), some (.int k) => pure (.conv k a)
    | some .string, some .string => pure (.cvs a)
    | some (.slice e), some .string => match P.underlying e with
      | some (.int .u8) => pure (.b2s a)
      | _ => none
    | some (.pointer t), some .unsafePointer => bif posT P t then pure (.uto a) else none
    | some .unsafePointer, some (.pointer t) => match sizeT P t with
      | some (n + 1) => bif selfLaid P t then pure (.ufr t (n + 1) a) else none
      | _ => none
    | _, _ => none
  | .makeFunc fn first cap => match fn with
    | .func f => do pure (.mkfn f (← opdsOf first.toList) (← opdsOf cap.toList))
    | _ => none
  | .makeMap _ r => match r with
    | none => some .mkmap
    | some _ => none
  | .makeSlice t l c => do
    match P.underlying t with
    | some (.slice e) => pure (.mksl (← sizeT P e) (← bytesT P e) (← zeroT P e).cells (← opdOf l) (← opdOf c))
    | _ => none
  | .slice t x lo hi mx => do
    match P.underlying t, mx with
    | some (.slice e), _ => pure (.sl (← sizeT P e) (← opdOf x) (← optOf lo) (← optOf hi) (← optOf mx))
    | some .string, none => pure (.sls (← opdOf x) (← optOf lo) (← optOf hi))
    | _, _ => none
  | .fieldAddr s x f => do
    match P.underlying s with
    | some (.struct fs) => match fs[f]? with
      | some fl => match sizeT P fl.type with
        | some (_ + 1) => pure (.fadr fl.offset (← opdOf x))
        | _ => none
      | none => none
    | _ => none
  | .field s x f => do
    match P.underlying s with
    | some (.struct fs) => match fs[f]? with
      | some fl => pure (.fld (← isAggT P fl.type) fl.offset (← sizeT P fl.type) (← opdOf x))
      | none => none
    | _ => none
  | .indexAddr t x i => do
    match P.underlying t with
    | some (.slice e) => pure (.iadr (← sizeT P e) (← opdOf x) (← opdOf i))
    | some (.array n e) => match sizeT P e with
      | some (m + 1) => pure (.iadra n (m + 1) (← opdOf x) (← opdOf i))
      | _ => none
    | _ => none
  | .index t x i => do
    match P.underlying t with
    | some .string => pure (.idxs (← opdOf x) (← opdOf i))
    | some (.array n e) => pure (.idxa (← isAggT P e) n (← sizeT P e) (← opdOf x) (← opdOf i))
    | _ => none
  | .lookup t m k ok => do
    match P.underlying t with
    | some (.map kt e) => pure (.look (← kkOf P kt) ok (← zeroT P e) (← opdOf m) (← opdOf k))
    | _ => none
  | .mapUpdate t m k v => do
    match P.underlying t with
    | some (.map kt _) => pure (.mupd (← kkOf P kt) (← opdOf m) (← opdOf k) (← opdOf v))
    | _ => none
  | .extract x i => do pure (.ext (← opdOf x) i)
  | .range t x => do
    match P.underlying t with
    | some (.map _ _) => pure (.rng (← opdOf x))
    | _ => none
  | .next x str => match str with
    | false => do pure (.nxt (← opdOf x))
    | true => none
  | .entry x => do pure (.ent (← opdOf x))
  | .call c => match c.callee with
    | .builtin b => compBuiltin P b c.argTypes.toList c.args.toList
    | .value f => do pure (.call (← opdOf f) (← opdsOf c.args.toList))
    | .invoke _ _ => none
  | _ => none
def isCall : AOp → Bool
  | .call .. => true
  | .nxt _ => true
  | _ => false
def compChk (P : Program) (op : Op) : Option AOp :=
  match compRaw P op with
  | some a => bif isCall a then none else some a
  | none => none
def compOp (P : Program) (op : Op) : Option AOp :=
  match op with
  | .call c => match c.callee with
    | .value f => match opdOf f, opdsOf c.args.toList with
      | some g, some as => some (.call g as)
      | _, _ => none
    | _ => compChk P op
  | .next x str => match str with
    | false => match opdOf x with
      | some y => some (.nxt y)
      | none => none
    | true => none
  | op => compChk P op
def clsOf : AOp → Nat
  | .load .. | .look .. | .len .. | .eq .. | .b2s .. | .ent .. | .sl .. | .iadr .. | .uto .. | .ufr .. => 1
  | .alloc _ | .box .. | .bslice .. | .store .. | .mkmap | .mksl .. | .mupd .. | .app .. | .appz .. | .allot .. | .appb .. | .ustr .. | .copy .. | .del .. | .clr .. | .rng .. | .nxt .. | .fail | .call .. => 2
  | _ => 0
def dstOk (N : Nat) : Option Tmp → Bool
  | none => true
  | some d => Nat.blt d N
def compOper (P : Program) (N : Nat) (ops : Array Oper) (o : Oper) : Option AOper :=
  bif dstOk N o.dst then
    match o.guard with
    | none => some ⟨o.dst, (compOp P o.op).getD .fail, none⟩
    | some (j, w) => match ops[j]? with
      | some g => match g.dst with
        | some d => some ⟨o.dst, (compOp P o.op).getD .fail, some (d, w)⟩
        | none => none
      | none => none
  else none
def compOpers (P : Program) (N : Nat) (ops : Array Oper) : List Oper → Option (List AOper)
  | [] => some []
  | o :: l => match compOper P N ops o with
    | some a => match compOpers P N ops l with
      | some r => some (a :: r)
      | none => none
    | none => none
def tsO : Opd → List Nat
  | .t r => [r]
  | .c _ => []
def tsOs : List Opd → List Nat
  | [] => []
  | x :: l => tsO x ++ tsOs l
def tsOpt : Option Opd → List Nat
  | none => []
  | some x => tsO x
def tsP : List (Nat × Nat × Opd) → List Nat
  | [] => []
  | (_, _, x) :: l => tsO x ++ tsP l
def tsQ : List (Nat × Opd) → List Nat
  | [] => []
  | (_, x) :: l => tsO x ++ tsQ l
def tsA : AOp → List Nat
  | .mv x | .load _ _ x | .nilck x | .not x | .neg x | .conv _ x | .b2s x | .cvs x | .fadr _ x | .fld _ _ _ x | .ext x _ | .len _ x | .cap x | .clr _ _ x | .rng x | .ent x | .nxt x | .box _ x | .uto x | .ufr _ _ x | .sdat x => tsO x
  | .pick c a b => tsO c ++ tsO a ++ tsO b
  | .alloc _ | .allot _ _ | .mkmap | .fail => []
  | .build _ ps => tsP ps
  | .bslice _ _ _ ps => tsQ ps
  | .store _ x y | .bin _ x y | .eq _ _ x y | .mksl _ _ _ x y | .iadr _ x y | .iadra _ _ x y | .idxs x y | .idxa _ _ _ x y | .look _ _ _ x y | .app _ _ x y | .appb _ x y | .ustr _ x y | .appz _ _ _ x y | .copy _ x y | .del _ x y => tsO x ++ tsO y
  | .mkfn _ l m => tsOs l ++ tsOs m
  | .sl _ x a b c => tsO x ++ tsOpt a ++ tsOpt b ++ tsOpt c
  | .sls x a b => tsO x ++ tsOpt a ++ tsOpt b
  | .mupd _ x y z => tsO x ++ tsO y ++ tsO z
  | .mm _ l => tsOs l
  | .call f l => tsO f ++ tsOs l
def looks (o : AOper) : List Nat :=
  match o.grd with
  | some (d, _) => d :: tsA o.op
  | none => tsA o.op
def dsts (o : AOper) : List Nat :=
  match o.dst with
  | some d => [d]
  | none => []
def maskOf (ms : List Nat) : List Edge → Nat
  | [] => 0
  | e :: l => bif Region.binds .any e then (maskOf ms l ||| 2 ^ e.on) ||| ((nth ms e.on).getD 0) else maskOf ms l
def masks : List Oper → List Nat → List Nat
  | [], ms => ms
  | o :: l, ms => masks l (ms ++ [maskOf ms o.after.toList])
def nop : AOper := ⟨none, .fail, none⟩
def ao (as : List AOper) (i : Nat) : AOper := (nth as i).getD nop
def mk (ms : List Nat) (i : Nat) : Nat := (nth ms i).getD 0
def allN (l : List Nat) (p : Nat → Bool) : Bool :=
  match l with
  | [] => true
  | i :: l => bif p i then allN l p else false
def disjN (l m : List Nat) : Bool := allN l fun i => !memN i m
def apartA (as : List AOper) (i j : Nat) : Bool := disjN (dsts (ao as j)) (looks (ao as i)) && disjN (dsts (ao as j)) (dsts (ao as i))
def orderOk (as : List AOper) : List Nat → Bool
  | [] => true
  | i :: l => bif disjN (dsts (ao as i)) (looks (ao as i)) && Nat.blt (clsOf (ao as i).op) 2 && allN l (apartA as i) then orderOk as l else false
def waitsOk (as : List AOper) (ms : List Nat) (all l : List Nat) : Bool :=
  allN all fun j => allN l fun i => disjN (dsts (ao as i)) (looks (ao as j)) || (mk ms j).testBit i
abbrev Plan := List (Nat × List Nat × List Nat)
def earlyO (o : Oper) : Bool :=
  match o.guard with
  | some _ => false
  | none => match o.op with
    | .alloc _ | .box .. | .makeSlice .. => true
    | .makeMap _ none => true
    | _ => false
def earlies (ops : Array Oper) : List Nat := (List.range ops.size).filter fun i => match ops[i]? with
  | some o => earlyO o
  | none => false
def planOk (as : List AOper) (ms el : List Nat) : List Nat → Plan → Bool
  | _, [] => true
  | seen, (a, chk, ns) :: rest =>
    bif !memN a seen && orderOk as ns
      && allN ns (fun i => (mk ms i).testBit a)
      && allN seen (fun i => ((mk ms a).testBit i && !memN a el) || (apartA as i a && allN ns (apartA as i) && (Nat.beq (clsOf (ao as i).op) 0 || Nat.beq (clsOf (ao as i).op) 2 || memN i chk)))
      && allN (rest.map (·.1)) (fun b => (mk ms b).testBit a || memN a el)
      && (!memN a el || (disjN (dsts (ao as a)) (looks (ao as a)) && allN ns (apartA as a))) then planOk as ms el (seen ++ a :: ns) rest else false
def planOrder : Plan → List Nat
  | [] => []
  | (a, _, ns) :: rest => a :: ns ++ planOrder rest
def edgesOk : Nat → List Oper → Bool
  | _, [] => true
  | n, o :: l => o.after.toList.all (fun e => !Region.binds .any e || Nat.blt e.on n) && edgesOk (n + 1) l
def lastIn (m : Nat) : Nat → List Nat → Nat → Nat
  | _, [], x => x
  | k, i :: l, x => lastIn m (k + 1) l (bif m.testBit i then k else x)
def isActA (as : List AOper) (i : Nat) : Bool :=
  Nat.beq (clsOf (ao as i).op) 2 || !allN (List.range i) fun j => disjN (dsts (ao as i)) (looks (ao as j))
def nonActs : Plan → List Nat
  | [] => []
  | (_, _, ns) :: rest => ns ++ nonActs rest
def planOf (as : List AOper) (ms el : List Nat) (all acts : List Nat) : Nat → List Nat → Plan
  | _, [] => []
  | k, a :: rest =>
    (a, all.filter (fun i => Nat.beq (clsOf (ao as i).op) 1 && !memN i acts && Nat.blt (lastIn (mk ms i) 1 acts 0) k && (memN a el || !(mk ms a).testBit i)),
      all.filter (fun i => !memN i acts && Nat.beq (lastIn (mk ms i) 1 acts 0) k)) :: planOf as ms el all acts (k + 1) rest
def orderActs (ms el : List Nat) : Nat → List Nat → List Nat
  | 0, l => l
  | n + 1, l => match l.find? (fun i => memN i el && allN l fun j => !(mk ms i).testBit j) with
    | some i => i :: orderActs ms el n (l.filter fun j => !Nat.beq j i)
    | none => match l with
      | [] => []
      | a :: r => a :: orderActs ms el n r
def drawOk (as : List AOper) (ms el : List Nat) (n : Nat) (ops : List Oper) (n0 : List Nat) (pl : Plan) : Bool :=
  Nat.beq as.length n && edgesOk 0 ops && orderOk as n0 && waitsOk as ms (List.range n) (n0 ++ nonActs pl ++ el) && planOk as ms el n0 pl
    && allN (List.range n) (fun i => memN i (n0 ++ planOrder pl)) && allN (n0 ++ planOrder pl) (fun i => Nat.blt i n)
def compDraw (as : List AOper) (ms el : List Nat) (n : Nat) (ops : List Oper) (n0 : List Nat) (pl : Plan) : Option ACode :=
  bif drawOk as ms el n ops n0 pl then some (.dreg (n0.map (ao as)) (pl.map fun (a, c, l) => (ao as a, c.map (ao as), l.map (ao as)))) else none
def compDreg (as : List AOper) (ops : Array Oper) : Option ACode :=
  let ms := masks ops.toList []
  let el := earlies ops
  let all := List.range ops.size
  let acts := orderActs ms el ops.size (all.filter (isActA as))
  compDraw as ms el ops.size ops.toList (all.filter fun i => !memN i acts && Nat.beq (lastIn (mk ms i) 1 acts 0) 0) (planOf as ms el all acts 1 acts)
def findLabelA : ACode → Nat → Option ACode
  | .seq a b, l => match findLabelA a l with
    | some rest => some (.seq rest b)
    | none => findLabelA b l
  | .label l', l => if l' == l then some .skip else none
  | _, _ => none
def gotoOf : ACode → Option Nat
  | .goto l => some l
  | .seq a b => match gotoOf a with
    | some l => some l
    | none => gotoOf b
  | .cond _ a b => match gotoOf a with
    | some l => some l
    | none => gotoOf b
  | .block _ c => gotoOf c
  | .loop c => gotoOf c
  | _ => none
def comp (P : Program) (N : Nat) : Code → Option ACode
  | .skip => some .skip
  | .region _ ops draw => match compOpers P N ops ops.toList with
    | some as => bif draw then compDreg as ops else some (.reg as)
    | none => none
  | .seq a b => match comp P N a, comp P N b with
    | some x, some y => some (.seq x y)
    | _, _ => none
  | .cond c a b => match opdOf c, comp P N a, comp P N b with
    | some o, some x, some y => some (.cond o x y)
    | _, _, _ => none
  | .block id c => match comp P N c with
    | some x => some (.block id x)
    | none => none
  | .loop c => match comp P N c with
    | some x => some (.loop x)
    | none => none
  | .rangeFunc f ps asg body => match opdOf f, comp P N asg, comp P N body with
    | some o, some x, some y => bif ps.toList.all (Nat.blt · N) then some (.rf o ps.toList x y) else none
    | _, _, _ => none
  | .exit id => some (.exit id)
  | .scope c => match comp P N c with
    | some x => match gotoOf x with
      | some l => match findLabelA x l with
        | some r => some (.scope x l r)
        | none => none
      | none => none
    | none => none
  | .label l => some (.label l)
  | .goto l => some (.goto l)
  | .ret => some .ret
  | .refuse _ => some .refuse
def resOf (P : Program) : List ResultVar → Option (List (Nat × Option (Bool × Nat)))
  | [] => some []
  | .tmp t :: l => do pure ((t, none) :: (← resOf P l))
  | .cell a t :: l => do pure ((a, some (← isAggT P t, ← sizeT P t)) :: (← resOf P l))
def compFn (P : Program) (fn : Func) : Option AFun :=
  match fn.body with
  | none => none
  | some c => match comp P fn.ntmps c, resOf P fn.results.toList with
    | some x, some r => bif fn.name == "runtime.NumGoroutine" then none else some ⟨fn.params.size + fn.nfree, r, x⟩
    | _, _ => none
end Go.Ab
namespace Go.Ab
theorem PT.get_lf {α : Type} (n : Nat) : (PT.lf : PT α).get n = none := rfl
theorem nbeq_true {a b : Nat} : Nat.beq a b = true ↔ a = b := ⟨Nat.eq_of_beq_eq_true, fun h => by subst h; exact Nat.beq_refl a⟩
theorem nbeq_false {a b : Nat} : Nat.beq a b = false ↔ a ≠ b := by
  rw [← Bool.not_eq_true, nbeq_true]
theorem nble_true {a b : Nat} : Nat.ble a b = true ↔ a ≤ b := ⟨Nat.le_of_ble_eq_true, Nat.ble_eq_true_of_le⟩
theorem nblt_true {a b : Nat} : Nat.blt a b = true ↔ a < b := by unfold Nat.blt; exact nble_true
theorem half_ne {k j : Nat} (h : k % 2 = j % 2) (hk : k ≠ j) : ¬ k / 2 = j / 2 := by omega
theorem PT.get_setF {α : Type} : ∀ (f : Nat) (t : PT α) (n m : Nat) (x : Option α), n < f → (PT.setF f t n x).get m = if m = n then x else t.get m
  | 0, _, n, _, _, h => absurd h (Nat.not_lt_zero n)
  | f + 1, t, n, m, x, h => by
    cases t with
    | lf =>
      cases n with
      | zero => cases m <;> simp [PT.setF, PT.get]
      | succ k =>
        have hd : k / 2 < f := by omega
        have ih : ∀ m x, (PT.setF f (.lf : PT α) (Nat.div k 2) x).get m = _ := fun m x => PT.get_setF f (.lf : PT α) (Nat.div k 2) m x hd
        rcases Nat.mod_two_eq_zero_or_one k with hk | hk <;> cases m with
        | zero =>
          have e : Nat.beq (Nat.mod k 2) 0 = Nat.beq (k % 2) 0 := rfl
          simp [PT.setF, PT.get, e, hk, show Nat.beq 1 0 = false from rfl]
        | succ j =>
          have e : Nat.beq (Nat.mod k 2) 0 = Nat.beq (k % 2) 0 := rfl
          have e' : Nat.beq (Nat.mod j 2) 0 = Nat.beq (j % 2) 0 := rfl
          rcases Nat.mod_two_eq_zero_or_one j with hj | hj
          all_goals
            simp only [PT.setF, PT.get, e, e', hk, hj, Nat.beq_refl, cond_true, ih, Nat.succ.injEq, show Nat.beq 1 0 = false from rfl, cond_false]
            have d1 : Nat.div k 2 = k / 2 := rfl
            have d2 : Nat.div j 2 = j / 2 := rfl
            by_cases ej : j = k
            · subst ej; first | (exfalso; omega) | simp
            · first
                | rw [if_neg ej, if_neg (by rw [d1, d2]; exact half_ne (by omega) ej)]
                | rw [if_neg ej]
    | nd l v r =>
      cases n with
      | zero => cases m <;> simp [PT.setF, PT.get]
      | succ k =>
        have hd : k / 2 < f := by omega
        have ihl : ∀ m x, (PT.setF f l (Nat.div k 2) x).get m = _ := fun m x => PT.get_setF f l (Nat.div k 2) m x hd
        have ihr : ∀ m x, (PT.setF f r (Nat.div k 2) x).get m = _ := fun m x => PT.get_setF f r (Nat.div k 2) m x hd
        rcases Nat.mod_two_eq_zero_or_one k with hk | hk <;> cases m with
        | zero =>
          have e : Nat.beq (Nat.mod k 2) 0 = Nat.beq (k % 2) 0 := rfl
          simp [PT.setF, PT.get, e, hk, show Nat.beq 1 0 = false from rfl]
        | succ j =>
          have e : Nat.beq (Nat.mod k 2) 0 = Nat.beq (k % 2) 0 := rfl
          have e' : Nat.beq (Nat.mod j 2) 0 = Nat.beq (j % 2) 0 := rfl
          rcases Nat.mod_two_eq_zero_or_one j with hj | hj
          all_goals
            simp only [PT.setF, PT.get, e, e', hk, hj, Nat.beq_refl, cond_true, ihl, ihr, Nat.succ.injEq, show Nat.beq 1 0 = false from rfl, cond_false]
            have d1 : Nat.div k 2 = k / 2 := rfl
            have d2 : Nat.div j 2 = j / 2 := rfl
            by_cases ej : j = k
            · subst ej; first | (exfalso; omega) | simp
            · first
                | rw [if_neg ej, if_neg (by rw [d1, d2]; exact half_ne (by omega) ej)]
                | rw [if_neg ej]
theorem PT.get_set {α : Type} (t : PT α) (n m : Nat) (x : α) : (t.set n x).get m = if m = n then some x else t.get m :=
  PT.get_setF (n + 1) t n m (some x) (Nat.lt_succ_self n)
theorem nth_eq {α : Type} : ∀ (l : List α) (n : Nat), nth l n = l[n]?
  | [], _ => by simp [nth]
  | x :: l, 0 => by simp [nth]
  | x :: l, n + 1 => by simp [nth, nth_eq l n]
theorem setNth_eq {α : Type} : ∀ (l : List α) (n : Nat) (y : α), setNth l n y = l.set n y
  | [], _, _ => by simp [setNth]
  | x :: l, 0, y => by simp [setNth]
  | x :: l, n + 1, y => by simp [setNth, setNth_eq l n y]
theorem repl_eq {α : Type} : ∀ (n : Nat) (x : α), repl n x = List.replicate n x
  | 0, _ => rfl
  | n + 1, x => by simp [repl, repl_eq n x, List.replicate_succ]
theorem AHeap.get_put (h : AHeap) (id j : Nat) (o : AObj) : (h.put id o).get j = if j = id then some o else h.get j := PT.get_set _ _ _ _
theorem AHeap.get_push (h : AHeap) (j : Nat) (o : AObj) : (h.push o).get j = if j = h.sz then some o else h.get j := PT.get_set _ _ _ _
@[simp] theorem AHeap.sz_put (h : AHeap) (id : Nat) (o : AObj) : (h.put id o).sz = h.sz := rfl
@[simp] theorem AHeap.sz_push (h : AHeap) (o : AObj) : (h.push o).sz = h.sz + 1 := rfl
theorem AHeap.row_some {h : AHeap} {id : Nat} {r : Row} : h.row id = some r ↔ h.get id = some (.row r) := by
  unfold AHeap.row
  constructor
  · intro e
    split at e
    · rename_i r' hr; cases e; exact hr
    · cases e
  · intro e; rw [e]
structure Loc where
  blk : Nat
  base : Nat
  sz : Nat
  ext : Nat
  tot : Nat
abbrev Phi := Nat → Nat → Option Loc
mutual
inductive RelV (φ : Phi) : AV → Value → Prop
  | bool (b : Bool) : RelV φ (.bool b) (.bool b)
  | int (k : IntKind) (n : Int) : RelV φ (.int k n) (.int k n)
  | str {l : List Nat} {s : ByteArray} (h : s.data.toList.map UInt8.toNat = l) : RelV φ (.str l) (.string s)
  | ptr {id g i o : Nat} {L : Loc} (h : φ id g = some L) (hi : i < L.ext) : RelV φ (.ptr id g i o) (.pointer (some ⟨L.blk, L.base + i * L.sz + o, none⟩))
  | nilPtr : RelV φ .nilPtr (.pointer none)
  | slc {id g s len cap c off : Nat} {ex : Bool} {L : Loc} (h : φ id g = some L) (h1 : len ≤ cap) (h2 : s + cap ≤ L.ext) (h3 : s + c ≤ L.tot) (h4 : cap ≤ c) (h5 : ex = true → c = cap) (h6 : 0 < c → off = L.base + s * L.sz) :
      RelV φ (.slc id g s len cap ex) (.slice (some ⟨L.blk, off, none⟩) len c)
  | nilSlc : RelV φ .nilSlc (.slice none 0 0)
  | emp {A : Addr} : RelV φ .emp (.slice (some A) 0 0)
  | map {id : Nat} {L : Loc} (h : φ id 0 = some L) : RelV φ (.map id) (.map (some L.blk))
  | nilMap : RelV φ .nilMap (.map none)
  | itr {id : Nat} {L : Loc} (h : φ id 0 = some L) : RelV φ (.itr id) (.pointer (some ⟨L.blk, 0, none⟩))
  | func {f : Nat} {a b : List AV} {a' b' : List Value} (ha : RelVs φ a a') (hb : RelVs φ b b') : RelV φ (.fn (.func f) a b) (.func (.func f) ⟨a'⟩ ⟨b'⟩)
  | yield {id : Nat} {L : Loc} (h : φ id 0 = some L) : RelV φ (.fn (.yield id) [] []) (.func (.yield L.blk) #[] #[])
  | nilFn : RelV φ .nilFn .nilFunc
  | agg {l : List AV} {l' : List Value} (h : RelVs φ l l') : RelV φ (.agg l) (.agg ⟨l'⟩)
  | tup {l : List AV} {l' : List Value} (h : RelVs φ l l') : RelV φ (.tup l) (.tuple ⟨l'⟩)
  | nilIf : RelV φ .nilIf .nilIface
  | ifc {t : Nat} {a : AV} {v : Value} (h : RelV φ a v) : RelV φ (.ifc t a) (.iface t v)
inductive RelVs (φ : Phi) : List AV → List Value → Prop
  | nil : RelVs φ [] []
  | cons {a : AV} {l : List AV} {v : Value} {m : List Value} (h : RelV φ a v) (t : RelVs φ l m) : RelVs φ (a :: l) (v :: m)
end
def Phi.le (φ ψ : Phi) : Prop := ∀ id g L, φ id g = some L → ψ id g = some L
theorem Phi.le_refl (φ : Phi) : φ.le φ := fun _ _ _ h => h
theorem Phi.le_trans {φ ψ χ : Phi} (h : φ.le ψ) (k : ψ.le χ) : φ.le χ := fun _ _ _ e => k _ _ _ (h _ _ _ e)
mutual
theorem RelV.mono {φ ψ : Phi} (hle : φ.le ψ) : ∀ {a : AV} {v : Value}, RelV φ a v → RelV ψ a v
  | _, _, .bool b => .bool b
  | _, _, .int k n => .int k n
  | _, _, .str h => .str h
  | _, _, .ptr h hi => .ptr (hle _ _ _ h) hi
  | _, _, .nilPtr => .nilPtr
  | _, _, .slc h h1 h2 h3 h4 h5 h6 => .slc (hle _ _ _ h) h1 h2 h3 h4 h5 h6
  | _, _, .nilSlc => .nilSlc
  | _, _, .emp => .emp
  | _, _, .map h => .map (hle _ _ _ h)
  | _, _, .nilMap => .nilMap
  | _, _, .itr h => .itr (hle _ _ _ h)
  | _, _, .func ha hb => .func (RelVs.mono hle ha) (RelVs.mono hle hb)
  | _, _, .yield h => .yield (hle _ _ _ h)
  | _, _, .nilFn => .nilFn
  | _, _, .agg h => .agg (RelVs.mono hle h)
  | _, _, .tup h => .tup (RelVs.mono hle h)
  | _, _, .nilIf => .nilIf
  | _, _, .ifc h => .ifc (RelV.mono hle h)
theorem RelVs.mono {φ ψ : Phi} (hle : φ.le ψ) : ∀ {l : List AV} {m : List Value}, RelVs φ l m → RelVs ψ l m
  | _, _, .nil => .nil
  | _, _, .cons h t => .cons (RelV.mono hle h) (RelVs.mono hle t)
end
theorem RelVs.length {φ : Phi} : ∀ {l : List AV} {m : List Value}, RelVs φ l m → l.length = m.length
  | _, _, .nil => rfl
  | _, _, .cons _ t => by simp [RelVs.length t]
theorem RelVs.append {φ : Phi} : ∀ {l : List AV} {m : List Value}, RelVs φ l m → ∀ {l' : List AV} {m' : List Value}, RelVs φ l' m' → RelVs φ (l ++ l') (m ++ m')
  | _, _, .nil, _, _, k => k
  | _, _, .cons h t, _, _, k => .cons h (RelVs.append t k)
theorem RelVs.get {φ : Phi} : ∀ {l : List AV} {m : List Value}, RelVs φ l m → ∀ {i : Nat} {a : AV}, l[i]? = some a → ∃ v, m[i]? = some v ∧ RelV φ a v
  | _, _, .nil, _, _, e => by simp at e
  | _, _, .cons h t, 0, _, e => by simp at e; subst e; exact ⟨_, by simp, h⟩
  | _, _, .cons h t, i + 1, _, e => by simp at e; simpa using RelVs.get t e
theorem RelVs.take {φ : Phi} : ∀ {l : List AV} {m : List Value}, RelVs φ l m → ∀ (n : Nat), RelVs φ (l.take n) (m.take n)
  | _, _, h, 0 => by simp; exact .nil
  | _, _, .nil, n + 1 => by simp; exact .nil
  | _, _, .cons h t, n + 1 => by simp; exact .cons h (RelVs.take t n)
theorem RelVs.drop {φ : Phi} : ∀ {l : List AV} {m : List Value}, RelVs φ l m → ∀ (n : Nat), RelVs φ (l.drop n) (m.drop n)
  | _, _, h, 0 => by simpa using h
  | _, _, .nil, n + 1 => by simp; exact .nil
  | _, _, .cons h t, n + 1 => by simpa using RelVs.drop t n
theorem RelVs.replicate {φ : Phi} {l : List AV} {m : List Value} (h : RelVs φ l m) : ∀ n, RelVs φ (List.replicate n l).flatten (List.replicate n m).flatten
  | 0 => by simp; exact .nil
  | n + 1 => by simp [List.replicate_succ]; exact h.append (RelVs.replicate h n)
theorem RelV.cells {φ : Phi} {a : AV} {v : Value} (h : RelV φ a v) : RelVs φ a.cells v.cells.toList := by
  cases h with
  | agg h => exact h
  | _ => first | exact .cons (by constructor <;> assumption) .nil | exact .cons (by constructor) .nil
theorem RelV.leaf {φ : Phi} {a : AV} {v : Value} (h : RelV φ a v) (hl : a.leaf = true) : v.oneCell' = true := by
  cases h <;> simp_all [AV.leaf, Value.oneCell']
theorem RelVs.leaf {φ : Phi} : ∀ {l : List AV} {m : List Value}, RelVs φ l m → allLeaf l = true → ∀ v ∈ m, v.oneCell' = true
  | _, _, .nil, _, v, hv => by simp at hv
  | _, _, .cons h t, hl, v, hv => by
    simp only [allLeaf] at hl
    rename_i a l _ _
    cases ha : a.leaf with
    | false => simp [ha] at hl
    | true =>
      simp [ha] at hl
      rcases List.mem_cons.1 hv with rfl | hv
      · exact h.leaf ha
      · exact RelVs.leaf t hl v hv
theorem allLeaf_iff : ∀ {l : List AV}, allLeaf l = true ↔ ∀ v ∈ l, v.leaf = true
  | [] => by simp [allLeaf]
  | a :: l => by
    simp only [allLeaf, List.mem_cons, forall_eq_or_imp]
    cases a.leaf with
    | false => simp
    | true => simp [allLeaf_iff (l := l)]
theorem allLeaf_append {l m : List AV} (h : allLeaf l = true) (k : allLeaf m = true) : allLeaf (l ++ m) = true := by
  rw [allLeaf_iff] at *
  intro v hv
  rcases List.mem_append.1 hv with h1 | h1
  · exact h v h1
  · exact k v h1
theorem allLeaf_take {l : List AV} (h : allLeaf l = true) (n : Nat) : allLeaf (l.take n) = true := by
  rw [allLeaf_iff] at *
  exact fun v hv => h v (List.mem_of_mem_take hv)
theorem allLeaf_drop {l : List AV} (h : allLeaf l = true) (n : Nat) : allLeaf (l.drop n) = true := by
  rw [allLeaf_iff] at *
  exact fun v hv => h v (List.mem_of_mem_drop hv)
theorem allLeaf_lay {l m : List AV} (h : allLeaf l = true) (k : allLeaf m = true) (n : Nat) : allLeaf (lay l n m) = true :=
  allLeaf_append (allLeaf_append (allLeaf_take h n) k) (allLeaf_drop h _)
theorem allLeaf_flatten {es : List (List AV)} (h : ∀ e ∈ es, allLeaf e = true) : allLeaf es.flatten = true := by
  rw [allLeaf_iff]
  intro v hv
  obtain ⟨e, he, hv⟩ := List.mem_flatten.1 hv
  exact allLeaf_iff.1 (h e he) v hv
def RelR (φ : Phi) (N : Nat) (ρ : Regs) (tmps : Array Value) : Prop := N ≤ tmps.size ∧ ∀ t v, ρ.get t = some v → ∃ cv, tmps[t]? = some cv ∧ RelV φ v cv
theorem RelR.mono {φ ψ : Phi} {N : Nat} {ρ : Regs} {tmps : Array Value} (hle : φ.le ψ) (h : RelR φ N ρ tmps) : RelR ψ N ρ tmps :=
  ⟨h.1, fun t v e => let ⟨cv, h1, h2⟩ := h.2 t v e; ⟨cv, h1, h2.mono hle⟩⟩
theorem RelR.set {φ : Phi} {N : Nat} {ρ : Regs} {tmps : Array Value} (h : RelR φ N ρ tmps) {d : Nat} (hd : d < N) {v : AV} {cv : Value} (hv : RelV φ v cv) : RelR φ N (ρ.set d v) (tmps.setIfInBounds d cv) := by
  refine ⟨by simpa using h.1, fun t u e => ?_⟩
  rw [PT.get_set] at e
  by_cases ht : t = d
  · subst ht
    simp at e
    subst e
    refine ⟨cv, ?_, hv⟩
    have : t < tmps.size := Nat.lt_of_lt_of_le hd h.1
    simp [this]
  · rw [if_neg ht] at e
    obtain ⟨cu, h1, h2⟩ := h.2 t u e
    exact ⟨cu, by rw [Array.getElem?_setIfInBounds_ne (Ne.symm ht)]; exact h1, h2⟩
theorem RelR.put {φ : Phi} {N : Nat} {ρ : Regs} {a : Act} (h : RelR φ N ρ a.tmps) {d : Option Nat} (hd : dstOk N d = true) {v : AV} {cv : Value} (hv : RelV φ v cv) : RelR φ N (Ab.put ρ d v) (a.put d cv).tmps := by
  cases d with
  | none => exact h
  | some d =>
    simp only [dstOk, Nat.blt_eq] at hd
    exact h.set hd hv
mutual
theorem relV_avOf {φ : Phi} : ∀ {v : Value} {a : AV}, avOf v = some a → RelV φ a v
  | .bool b, a, h => by simp [avOf] at h; subst h; exact .bool b
  | .int k n, a, h => by simp [avOf] at h; subst h; exact .int k n
  | .string s, a, h => by simp [avOf] at h; subst h; exact .str rfl
  | .pointer none, a, h => by simp [avOf] at h; subst h; exact .nilPtr
  | .pointer (some _), a, h => by simp [avOf] at h
  | .slice none 0 0, a, h => by simp [avOf] at h; subst h; exact .nilSlc
  | .slice none 0 (_ + 1), a, h => by simp [avOf] at h
  | .slice none (_ + 1) _, a, h => by simp [avOf] at h
  | .slice (some _) _ _, a, h => by simp [avOf] at h
  | .map none, a, h => by simp [avOf] at h; subst h; exact .nilMap
  | .map (some _), a, h => by simp [avOf] at h
  | .nilFunc, a, h => by simp [avOf] at h; subst h; exact .nilFn
  | .agg ⟨l⟩, a, h => by
    simp only [avOf] at h
    cases hl : avsOf l with
    | none => simp [hl] at h
    | some r => simp [hl] at h; subst h; exact .agg (relVs_avsOf hl)
  | .tuple ⟨l⟩, a, h => by
    simp only [avOf] at h
    cases hl : avsOf l with
    | none => simp [hl] at h
    | some r => simp [hl] at h; subst h; exact .tup (relVs_avsOf hl)
  | .float _ _, a, h => by simp [avOf] at h
  | .complex _ _ _, a, h => by simp [avOf] at h
  | .chan _, a, h => by simp [avOf] at h
  | .func _ _ _, a, h => by simp [avOf] at h
  | .iface _ _, a, h => by simp [avOf] at h
  | .nilIface, a, h => by simp [avOf] at h; subst h; exact .nilIf
theorem relVs_avsOf {φ : Phi} : ∀ {l : List Value} {r : List AV}, avsOf l = some r → RelVs φ r l
  | [], r, h => by simp [avsOf] at h; subst h; exact .nil
  | v :: l, r, h => by
    simp only [avsOf] at h
    cases hv : avOf v with
    | none => simp [hv] at h
    | some a =>
      cases hl : avsOf l with
      | none => simp [hv, hl] at h
      | some r' => simp [hv, hl] at h; subst h; exact .cons (relV_avOf hv) (relVs_avsOf hl)
end
theorem ev_opd {φ : Phi} {N : Nat} {ρ : Regs} {a : Act} (h : RelR φ N ρ a.tmps) {x : Operand} {y : Opd} (hx : opdOf x = some y) {v : AV} (hv : ev ρ y = some v) : RelV φ v (a.eval x) := by
  cases x with
  | tmp t =>
    simp [opdOf] at hx; subst hx
    obtain ⟨cv, h1, h2⟩ := h.2 t v hv
    have : a.eval (.tmp t) = cv := by simp [Act.eval, h1]
    rw [this]; exact h2
  | const c =>
    simp only [opdOf] at hx
    cases hc : avOf c with
    | none => simp [hc] at hx
    | some u =>
      simp [hc] at hx; subst hx
      simp [ev] at hv; subst hv
      exact relV_avOf hc
  | global g => simp [opdOf] at hx
  | func f =>
    simp [opdOf] at hx; subst hx
    simp [ev] at hv; subst hv
    exact .func .nil .nil
theorem evs_opds {φ : Phi} {N : Nat} {ρ : Regs} {a : Act} (h : RelR φ N ρ a.tmps) : ∀ {l : List Operand} {m : List Opd}, opdsOf l = some m → ∀ {vs : List AV}, evs ρ m = some vs → RelVs φ vs (l.map a.eval)
  | [], m, hm, vs, hv => by simp [opdsOf] at hm; subst hm; simp [evs] at hv; subst hv; exact .nil
  | x :: l, m, hm, vs, hv => by
    simp only [opdsOf] at hm
    cases hx : opdOf x with
    | none => simp [hx] at hm
    | some y =>
      cases hl : opdsOf l with
      | none => simp [hx, hl] at hm
      | some m' =>
        simp [hx, hl] at hm; subst hm
        simp only [evs] at hv
        cases he : ev ρ y with
        | none => simp [he] at hv
        | some v =>
          cases hes : evs ρ m' with
          | none => simp [he, hes] at hv
          | some vs' =>
            simp [he, hes] at hv; subst hv
            exact .cons (ev_opd h hx he) (evs_opds h hl hes)
def RelSt (s : LState) (r : Loop) : Prop :=
  match s with
  | .ready => r.state = .ready ∧ r.pending = none
  | .busy => r.state = .busy
  | .done x => r.state = .done ∧ (match x with | .normal => False | .ret => r.pending = some .ret | .exit id => r.pending = some (.exit id) | .goto l => r.pending = some (.goto l))
  | .exh => r.state = .exhausted
inductive RelEs (φ : Phi) : List (AV × AV × Nat) → List MapEntry → Prop
  | nil : RelEs φ [] []
  | cons {k v : AV} {b : Nat} {l : List (AV × AV × Nat)} {e : MapEntry} {m : List MapEntry} (hk : RelV φ k e.key) (hv : RelV φ v e.val) (hb : e.born = b) (t : RelEs φ l m) : RelEs φ ((k, v, b) :: l) (e :: m)
theorem RelEs.mono {φ ψ : Phi} (hle : φ.le ψ) {l : List (AV × AV × Nat)} {m : List MapEntry} (h : RelEs φ l m) : RelEs ψ l m := by
  induction h with
  | nil => exact .nil
  | cons hk hv hb _ ih => exact .cons (hk.mono hle) (hv.mono hle) hb ih
structure RelRow (φ : Phi) (id : Nat) (r : Row) (w : World) : Prop where
  mg : r.m ≤ r.g
  sz : 0 < r.sz
  es : ∀ e ∈ r.es, e.length = r.sz
  leaf : ∀ e ∈ r.es, allLeaf e = true
  cur : ∃ L, φ id r.g = some L ∧ L.ext = r.es.length
  gen : ∀ g L, φ id g = some L → g ≤ r.g ∧ L.sz = r.sz
  cells : ∀ g L, r.m ≤ g → φ id g = some L → L.ext ≤ r.es.length ∧
    ∃ vals : List Value, RelVs φ (r.es.take L.ext).flatten vals ∧ ∀ (j : Nat) (v : Value), vals[j]? = some v → w.cell? ⟨L.blk, L.base + j, none⟩ = some v
  own : r.rw = true → ∀ g L, r.m ≤ g → φ id g = some L → L.base = 0 ∧ ∃ c t, w.heap[L.blk]? = some (.cells c t (0, 0)) ∧ c.size = L.tot * L.sz ∧ L.ext ≤ L.tot
  ty : ∀ e, r.ty = some e → r.rw = true → ∀ g L, r.m ≤ g → φ id g = some L → ∃ c f, w.heap[L.blk]? = some (.cells c e f)
def RelO (P : Program) (φ : Phi) (id : Nat) (o : AObj) (w : World) : Prop :=
  match o with
  | .row r => RelRow φ id r w
  | .map es clock => ∃ L cs, φ id 0 = some L ∧ w.heap[L.blk]? = some (.map cs clock) ∧ RelEs φ es cs.toList
  | .iter m since seen stepped => ∃ L, φ id 0 = some L ∧ ∃ cm, w.heap[L.blk]? = some (.mapIter cm since seen.reverse.toArray stepped) ∧
      (match m with | none => cm = none | some k => ∃ L', φ k 0 = some L' ∧ cm = some L'.blk)
  | .gone => True
  | .rmap es clock => ∃ L cs, φ id 0 = some L ∧ w.heap[L.blk]? = some (.map cs clock) ∧ RelEs φ es cs.toList
  | .dead => True
  | .loop l => ∃ L r N, φ id 0 = some L ∧ w.heap[L.blk]? = some (.loop r) ∧ RelR φ N l.regs r.tmps ∧ r.params.toList = l.ps ∧ (∀ p ∈ l.ps, p < N) ∧ comp P N r.assign = some (strip l.asg) ∧ comp P N r.body = some (strip l.body) ∧ RelSt l.st r
def AObj.own : AObj → Bool
  | .row r => r.rw
  | .rmap _ _ => false
  | .dead => false
  | _ => true
structure Base where
  n : Nat
  gh : Nat → Option AObj
instance : Coe Base Nat := ⟨Base.n⟩
@[reducible] def Base.of (n : Nat) : Base := ⟨n, fun _ => none⟩
@[simp] theorem Base.of_n (n : Nat) : (Base.of n).n = n := rfl
@[simp] theorem Base.of_gh (n id : Nat) : (Base.of n).gh id = none := rfl
structure RelH (P : Program) (B : Base) (φ : Phi) (h : AHeap) (w : World) : Prop where
  base : B ≤ w.heap.size
  dom : ∀ id g L, φ id g = some L → id < h.sz
  there : ∀ id, id < h.sz → ∃ o, h.get id = some o
  gone : ∀ id, h.sz ≤ id → h.get id = none
  objn : ∀ id o, h.get id = some o → B.gh id = none → RelO P φ id o w
  lt : ∀ id g L, φ id g = some L → L.blk < w.heap.size
  own : ∀ id o g L, h.get id = some o → φ id g = some L → (o.own = true → B ≤ L.blk) ∧ (o.own = false → L.blk < B)
  disj : ∀ id o id' g g' L L', h.get id = some o → o.own = true → φ id g = some L → φ id' g' = some L' → L.blk = L'.blk → id = id'
  nodef : ∀ id g L, φ id g = some L → ∀ ds : Option (List Deferred), w.heap[L.blk]? ≠ some (Obj.deferred ds)
  ghost : ∀ id o, B.gh id = some o → h.get id = some o ∧ ∀ g, φ id g = none
theorem RelH.real {P : Program} {B : Base} {φ : Phi} {h : AHeap} {w : World} (H : RelH P B φ h w) {id g : Nat} {L : Loc} (hL : φ id g = some L) : B.gh id = none := by
  cases e : B.gh id with
  | none => rfl
  | some o => rw [(H.ghost id o e).2 g] at hL; cases hL
theorem RelH.obj {P : Program} {B : Base} {φ : Phi} {h : AHeap} {w : World} (H : RelH P B φ h w) (id : Nat) (o : AObj) (ho : h.get id = some o) (hd : ∃ g L, φ id g = some L := by exact ⟨_, _, by assumption⟩) : RelO P φ id o w := by
  obtain ⟨g, L, hL⟩ := hd
  exact H.objn id o ho (H.real hL)
structure Gw (B : Nat) (w w' : World) : Prop where
  os : w'.os = w.os
  tape : w'.tape = w.tape
  drawn : w.drawn ≤ w'.drawn
  output : w'.output = w.output
  size : w.heap.size ≤ w'.heap.size
  below : ∀ k : Nat, k < B → w'.heap[k]? = w.heap[k]?
  defd : ∀ (k : Nat) (ds : Option (List Deferred)), w.heap[k]? = some (Obj.deferred ds) → w'.heap[k]? = some (Obj.deferred ds)
  loops : ∀ (k : Nat) (r : Loop), w.heap[k]? = some (Obj.loop r) → ∃ r', w'.heap[k]? = some (Obj.loop r')
theorem Gw.refl (B : Nat) (w : World) : Gw B w w := ⟨rfl, rfl, Nat.le_refl _, rfl, Nat.le_refl _, fun _ _ => rfl, fun _ _ h => h, fun _ r h => ⟨r, h⟩⟩
theorem Gw.frozen {B : Nat} {w w' : World} (h : Gw B w w') (a : Addr) (ha : a.block < B) : w'.frozen? a = w.frozen? a := by simp only [World.frozen?, h.below _ ha]
theorem Gw.trans {B : Nat} {w w1 w2 : World} (h : Gw B w w1) (k : Gw B w1 w2) : Gw B w w2 :=
  ⟨k.os.trans h.os, k.tape.trans h.tape, Nat.le_trans h.drawn k.drawn, k.output.trans h.output, Nat.le_trans h.size k.size, fun i hi => (k.below i hi).trans (h.below i hi), fun i ds hd => k.defd i ds (h.defd i ds hd), fun i r hr => (let ⟨r', h'⟩ := h.loops i r hr; k.loops i r' h')⟩
theorem Gw.drew (B : Nat) (w : World) : Gw B w w.drew := ⟨rfl, rfl, Nat.le_succ _, rfl, Nat.le_refl _, fun _ _ => rfl, fun _ _ h => h, fun _ r h => ⟨r, h⟩⟩
theorem RelO.heap {P : Program} {φ : Phi} {id : Nat} {o : AObj} {w w' : World} (h : RelO P φ id o w) (e : w'.heap = w.heap) : RelO P φ id o w' := by
  have ec : ∀ a, w'.cell? a = w.cell? a := fun a => by simp [World.cell?, e]
  cases o with
  | row r =>
    refine ⟨h.mg, h.sz, h.es, h.leaf, h.cur, h.gen, fun g L h1 h2 => ?_, fun hr g L h1 h2 => by rw [e]; exact h.own hr g L h1 h2, fun t ht hr g L h1 h2 => by rw [e]; exact h.ty t ht hr g L h1 h2⟩
    obtain ⟨a, vals, b, c⟩ := h.cells g L h1 h2
    exact ⟨a, vals, b, fun j v hj => by rw [ec]; exact c j v hj⟩
  | map es c => simpa only [RelO, e] using h
  | iter m s l p => simpa only [RelO, e] using h
  | loop l => simpa only [RelO, e] using h
  | gone => trivial
  | rmap es c => simpa only [RelO, e] using h
  | dead => trivial
theorem RelH.heap {P : Program} {B : Base} {φ : Phi} {h : AHeap} {w w' : World} (k : RelH P B φ h w) (e : w'.heap = w.heap) : RelH P B φ h w' :=
  ⟨by rw [e]; exact k.base, k.dom, k.there, k.gone, fun id o ho hd => (k.objn id o ho hd).heap e, fun id g L hl => by rw [e]; exact k.lt id g L hl, k.own, k.disj, fun id g L hl => by rw [e]; exact k.nodef id g L hl, k.ghost⟩
theorem RelH.drew {P : Program} {B : Base} {φ : Phi} {h : AHeap} {w : World} (k : RelH P B φ h w) : RelH P B φ h w.drew := k.heap rfl
end Go.Ab
namespace Go.Ab
set_option linter.unusedVariables false
theorem fl_len {α : Type} {sz : Nat} : ∀ {es : List (List α)}, (∀ e ∈ es, e.length = sz) → es.flatten.length = es.length * sz
  | [], _ => by simp
  | e :: l, h => by
    have h1 := h e (by simp)
    have h2 := fl_len (es := l) (fun x hx => h x (by simp [hx]))
    simp only [List.flatten_cons, List.length_append, List.length_cons, h1, h2, Nat.add_mul]; omega
theorem fl_drop {α : Type} {sz : Nat} : ∀ {es : List (List α)}, (∀ e ∈ es, e.length = sz) → ∀ n, (es.drop n).flatten = es.flatten.drop (n * sz)
  | es, _, 0 => by simp
  | [], _, n + 1 => by simp
  | e :: l, h, n + 1 => by
    have h1 := h e (by simp)
    have h2 := fl_drop (es := l) (fun x hx => h x (by simp [hx])) n
    simp only [List.drop_succ_cons, List.flatten_cons, h2]
    have : (n + 1) * sz = e.length + n * sz := by rw [Nat.add_mul, h1]; omega
    rw [this, List.drop_length_add_append]
theorem fl_take {α : Type} {sz : Nat} : ∀ {es : List (List α)}, (∀ e ∈ es, e.length = sz) → ∀ n, (es.take n).flatten = es.flatten.take (n * sz)
  | es, _, 0 => by simp
  | [], _, n + 1 => by simp
  | e :: l, h, n + 1 => by
    have h1 := h e (by simp)
    have h2 := fl_take (es := l) (fun x hx => h x (by simp [hx])) n
    simp only [List.take_succ_cons, List.flatten_cons, h2]
    have : (n + 1) * sz = e.length + n * sz := by rw [Nat.add_mul, h1]; omega
    rw [this, List.take_length_add_append]
theorem fl_get {α : Type} {sz : Nat} : ∀ {es : List (List α)}, (∀ e ∈ es, e.length = sz) → ∀ {i o : Nat} {e : List α} {a : α}, es[i]? = some e → e[o]? = some a → es.flatten[i * sz + o]? = some a
  | [], _, _, _, _, _, hi, _ => by simp at hi
  | e :: l, h, 0, o, _, a, hi, ho => by
    simp at hi; subst hi
    have hlt : o < e.length := (List.getElem?_eq_some_iff.1 ho).1
    rw [List.flatten_cons, Nat.zero_mul, Nat.zero_add, List.getElem?_append_left hlt]; exact ho
  | e :: l, h, i + 1, o, e', a, hi, ho => by
    have h1 := h e (by simp)
    have h2 := fl_get (es := l) (fun x hx => h x (by simp [hx])) (i := i) (o := o) (e := e') (a := a) (by simpa using hi) ho
    have : (i + 1) * sz + o = e.length + (i * sz + o) := by rw [Nat.add_mul, h1]; omega
    rw [List.flatten_cons, this, List.getElem?_append_right (by omega)]
    simpa using h2
theorem lay_length {α : Type} (l : List α) (n : Nat) (new : List α) (h : n + new.length ≤ l.length) : (lay l n new).length = l.length := by
  unfold lay
  simp only [List.length_append, List.length_take, List.length_drop]
  omega
theorem fl_lay {α : Type} {sz : Nat} {es new : List (List α)} (h : ∀ e ∈ es, e.length = sz) (hn : ∀ e ∈ new, e.length = sz) (n : Nat) :
    (lay es n new).flatten = lay es.flatten (n * sz) new.flatten := by
  unfold lay
  rw [List.flatten_append, List.flatten_append, fl_take h, fl_drop h, fl_len hn, Nat.add_mul]
theorem set_eq_lay {α : Type} (l : List α) (i : Nat) (x : α) (h : i < l.length) : l.set i x = lay l i [x] := by
  unfold lay
  rw [List.set_eq_take_append_cons_drop, if_pos h]
  simp
theorem fl_set {α : Type} {sz : Nat} {es : List (List α)} (h : ∀ e ∈ es, e.length = sz) {i o : Nat} {e : List α} (hi : es[i]? = some e) {new : List α} (hn : o + new.length ≤ e.length) :
    (es.set i (lay e o new)).flatten = lay es.flatten (i * sz + o) new := by
  obtain ⟨hlt, he⟩ := List.getElem?_eq_some_iff.1 hi
  have hel : e.length = sz := h e (by rw [← he]; exact List.getElem_mem hlt)
  have h1 : ∀ x ∈ [lay e o new], x.length = sz := by
    intro x hx
    simp at hx
    subst hx
    rw [lay_length _ _ _ hn, hel]
  rw [set_eq_lay _ _ _ hlt, fl_lay h h1]
  have hes : es.flatten = (es.take i).flatten ++ (e ++ (es.drop (i + 1)).flatten) := by
    conv => lhs; rw [← List.take_append_drop i es]
    rw [List.flatten_append, List.drop_eq_getElem_cons hlt, he, List.flatten_cons]
  have hl1 : (es.take i).flatten.length = i * sz := by
    rw [fl_len (sz := sz) (fun x hx => h x (List.mem_of_mem_take hx)), List.length_take]
    congr 1; omega
  simp only [List.flatten_cons, List.flatten_nil, List.append_nil]
  unfold lay
  rw [hes]
  simp only [List.length_append, List.length_take, List.length_drop]
  have e1 : List.take (i * sz) ((es.take i).flatten ++ (e ++ (es.drop (i + 1)).flatten)) = (es.take i).flatten := by
    rw [← hl1]; exact List.take_left
  have e2 : List.take (i * sz + o) ((es.take i).flatten ++ (e ++ (es.drop (i + 1)).flatten)) = (es.take i).flatten ++ e.take o := by
    rw [← hl1, List.take_length_add_append, List.take_append_of_le_length (by omega)]
  have e3 : List.drop (i * sz + (min o e.length + new.length + (e.length - (o + new.length)))) ((es.take i).flatten ++ (e ++ (es.drop (i + 1)).flatten)) = (es.drop (i + 1)).flatten := by
    rw [show i * sz + (min o e.length + new.length + (e.length - (o + new.length))) = (es.take i).flatten.length + (e.length + 0) by omega, List.drop_length_add_append, List.drop_length_add_append]
    rfl
  have e4 : List.drop (i * sz + o + new.length) ((es.take i).flatten ++ (e ++ (es.drop (i + 1)).flatten)) = e.drop (o + new.length) ++ (es.drop (i + 1)).flatten := by
    rw [show i * sz + o + new.length = (es.take i).flatten.length + (o + new.length) by omega, List.drop_length_add_append, List.drop_append_of_le_length (by omega)]
  rw [e1, e2, e3, e4]
  simp
theorem cell_of_heap {w w' : World} {a : Addr} (h : w'.heap[a.block]? = w.heap[a.block]?) : w'.cell? a = w.cell? a := by simp [World.cell?, h]
theorem RelO.other {P : Program} {φ φ' : Phi} {id : Nat} {o : AObj} {w w' : World} (h : RelO P φ id o w) (hle : φ.le φ') (he : ∀ g, φ' id g = φ id g)
    (hb : ∀ g L, φ id g = some L → w'.heap[L.blk]? = w.heap[L.blk]?) : RelO P φ' id o w' := by
  cases o with
  | row r =>
    obtain ⟨L, h1, h2⟩ := h.cur
    refine ⟨h.mg, h.sz, h.es, h.leaf, ⟨L, by rw [he]; exact h1, h2⟩, fun g L hL => h.gen g L (by rw [← he]; exact hL), fun g L hm hL => ?_, fun hr g L hm hL => ?_, fun t ht hr g L hm hL => ?_⟩
    · rw [he] at hL
      obtain ⟨a, vals, b, c⟩ := h.cells g L hm hL
      exact ⟨a, vals, b.mono hle, fun j v hj => (cell_of_heap (hb g L hL)).trans (c j v hj)⟩
    · rw [he] at hL
      rw [hb g L hL]
      exact h.own hr g L hm hL
    · rw [he] at hL
      rw [hb g L hL]
      exact h.ty t ht hr g L hm hL
  | gone => trivial
  | dead => trivial
  | rmap es c =>
    obtain ⟨L, cs, h1, h2, h3⟩ := h
    exact ⟨L, cs, hle _ _ _ h1, (hb _ _ h1).trans h2, h3.mono hle⟩
  | map es c =>
    obtain ⟨L, cs, h1, h2, h3⟩ := h
    exact ⟨L, cs, hle _ _ _ h1, (hb _ _ h1).trans h2, h3.mono hle⟩
  | iter m s l p =>
    obtain ⟨L, h1, cm, h2, h3⟩ := h
    refine ⟨L, hle _ _ _ h1, cm, (hb _ _ h1).trans h2, ?_⟩
    cases m with
    | none => exact h3
    | some k => obtain ⟨L', a, b⟩ := h3; exact ⟨L', hle _ _ _ a, b⟩
  | loop l =>
    obtain ⟨L, r, N, h1, h2, h3, h4⟩ := h
    exact ⟨L, r, N, hle _ _ _ h1, (hb _ _ h1).trans h2, h3.mono hle, h4⟩
theorem RelH.keep {P : Program} {B : Base} {φ : Phi} {h : AHeap} {w w' : World} (H : RelH P B φ h w) (hsz : w.heap.size ≤ w'.heap.size)
    (hk : ∀ id g L, φ id g = some L → w'.heap[L.blk]? = w.heap[L.blk]?) : RelH P B φ h w' :=
  ⟨Nat.le_trans H.base hsz, H.dom, H.there, H.gone, fun id o ho hd => (H.objn id o ho hd).other φ.le_refl (fun _ => rfl) (hk id), fun id g L hl => Nat.lt_of_lt_of_le (H.lt id g L hl) hsz, H.own, H.disj, fun id g L hl => by rw [hk id g L hl]; exact H.nodef id g L hl, H.ghost⟩
theorem RelH.alloc {P : Program} {B : Base} {φ : Phi} {h : AHeap} {w : World} (H : RelH P B φ h w) (ob : Obj) : RelH P B φ h (w.alloc ob) :=
  H.keep (by simp) fun id g L hL => heap_alloc_old w ob (H.lt id g L hL)
def Phi.add (φ : Phi) (id g : Nat) (L : Loc) : Phi := fun a b => if a = id ∧ b = g then some L else φ a b
theorem Phi.add_same (φ : Phi) (id g : Nat) (L : Loc) : φ.add id g L id g = some L := by simp [Phi.add]
theorem Phi.add_other (φ : Phi) {id g : Nat} (L : Loc) {a b : Nat} (h : ¬ (a = id ∧ b = g)) : φ.add id g L a b = φ a b := by simp [Phi.add, h]
theorem Phi.le_add {φ : Phi} {id g : Nat} (L : Loc) (h : φ id g = none) : φ.le (φ.add id g L) := fun a b K e => by
  rw [Phi.add_other]
  · exact e
  · rintro ⟨rfl, rfl⟩; rw [h] at e; cases e
theorem RelH.fresh {P : Program} {B : Base} {φ : Phi} {h : AHeap} {w : World} (H : RelH P B φ h w) (g : Nat) : φ h.sz g = none := by
  cases e : φ h.sz g with
  | none => rfl
  | some L => exact absurd (H.dom _ _ _ e) (Nat.lt_irrefl _)
theorem push_inj {h : AHeap} {o o' : AObj} (e : h.push o = h.push o') : o = o' := by
  have : (h.push o).get h.sz = (h.push o').get h.sz := by rw [e]
  rw [AHeap.get_push, AHeap.get_push, if_pos rfl, if_pos rfl] at this
  exact Option.some.inj this
def Base.add (B : Base) (id : Nat) (o : AObj) : Base := ⟨B.n, fun a => if a = id then some o else B.gh a⟩
def Base.del (B : Base) (id : Nat) : Base := ⟨B.n, fun a => if a = id then none else B.gh a⟩
@[simp] theorem Base.add_n (B : Base) (id : Nat) (o : AObj) : (B.add id o).n = B.n := rfl
@[simp] theorem Base.del_n (B : Base) (id : Nat) : (B.del id).n = B.n := rfl
theorem Base.add_same (B : Base) (id : Nat) (o : AObj) : (B.add id o).gh id = some o := by simp [Base.add]
theorem Base.add_other (B : Base) {id a : Nat} (o : AObj) (h : a ≠ id) : (B.add id o).gh a = B.gh a := by simp [Base.add, h]
theorem Base.del_same (B : Base) (id : Nat) : (B.del id).gh id = none := by simp [Base.del]
theorem Base.del_other (B : Base) {id a : Nat} (h : a ≠ id) : (B.del id).gh a = B.gh a := by simp [Base.del, h]
theorem Base.del_add {B : Base} {id : Nat} {o : AObj} (h : B.gh id = none) : (B.add id o).del id = B := by
  cases B with
  | mk n gh =>
    simp only [Base.add, Base.del, Base.mk.injEq, true_and]
    funext a
    by_cases e : a = id
    · subst e; simpa using h.symm
    · simp [e]
theorem RelH.noGhost {P : Program} {B : Base} {φ : Phi} {h : AHeap} {w : World} (H : RelH P B φ h w) : B.gh h.sz = none := by
  cases e : B.gh h.sz with
  | none => rfl
  | some o => have := (H.ghost _ _ e).1; rw [H.gone _ (Nat.le_refl _)] at this; cases this
theorem RelH.pushGhost {P : Program} {B : Base} {φ : Phi} {h : AHeap} {w : World} (H : RelH P B φ h w) (o : AObj) : RelH P (B.add h.sz o) φ (h.push o) w := by
  have hget : ∀ id o', (h.push o).get id = some o' → (id = h.sz ∧ o' = o) ∨ (id < h.sz ∧ h.get id = some o') := by
    intro id o' e
    rw [AHeap.get_push] at e
    by_cases hi : id = h.sz
    · rw [if_pos hi] at e; cases e; exact .inl ⟨hi, rfl⟩
    · rw [if_neg hi] at e
      refine .inr ⟨?_, e⟩
      rcases Nat.lt_or_ge id h.sz with h1 | h1
      · exact h1
      · rw [H.gone id h1] at e; cases e
  refine ⟨H.base, fun id g K e => Nat.lt_succ_of_lt (H.dom id g K e), fun id hid => ?_, fun id hid => ?_, fun id o' e hd => ?_, H.lt, fun id o' g K e e' => ?_, fun id o' id' g g' K K' e hown' e1 e2 hblk => ?_, H.nodef, fun id o' e => ?_⟩
  · rw [AHeap.get_push]
    by_cases hi : id = h.sz
    · exact ⟨o, by rw [if_pos hi]⟩
    · rw [if_neg hi]; exact H.there id (by simp at hid; omega)
  · simp at hid
    rw [AHeap.get_push, if_neg (by omega)]
    exact H.gone id (by omega)
  · rcases hget _ _ e with ⟨rfl, rfl⟩ | ⟨h1, h2⟩
    · rw [Base.add_same] at hd; cases hd
    · rw [Base.add_other _ _ (by omega)] at hd
      exact H.objn id o' h2 hd
  · rcases hget _ _ e with ⟨rfl, rfl⟩ | ⟨h1, h2⟩
    · have := H.dom _ _ _ e'; omega
    · exact H.own id o' g K h2 e'
  · rcases hget _ _ e with ⟨rfl, rfl⟩ | ⟨h1, h2⟩
    · have := H.dom _ _ _ e1; omega
    · exact H.disj id o' id' g g' K K' h2 hown' e1 e2 hblk
  · by_cases hi : id = h.sz
    · subst hi
      rw [Base.add_same] at e; cases e
      exact ⟨by rw [AHeap.get_push, if_pos rfl], fun g => H.fresh g⟩
    · rw [Base.add_other _ _ hi] at e
      obtain ⟨h1, h2⟩ := H.ghost id o' e
      exact ⟨by rw [AHeap.get_push, if_neg hi]; exact h1, h2⟩
theorem RelH.fill {P : Program} {B : Base} {φ : Phi} {h : AHeap} {w : World} {id : Nat} {o : AObj} (H : RelH P B φ h w) (hg : B.gh id = some o) (hown : o.own = true) {L : Loc} {ob : Obj} (hL : L.blk = w.heap.size) (hob : ∀ ds, ob ≠ .deferred ds)
    (ho : RelO P (φ.add id 0 L) id o (w.alloc ob)) : RelH P (B.del id) (φ.add id 0 L) h (w.alloc ob) := by
  obtain ⟨hget, hnone⟩ := H.ghost id o hg
  have hle : φ.le (φ.add id 0 L) := Phi.le_add L (hnone 0)
  have hid : id < h.sz := by
    rcases Nat.lt_or_ge id h.sz with h1 | h1
    · exact h1
    · rw [H.gone id h1] at hget; cases hget
  have hphi : ∀ a g K, φ.add id 0 L a g = some K → (a = id ∧ g = 0 ∧ K = L) ∨ (a ≠ id ∧ φ a g = some K) := by
    intro a g K e
    by_cases hi : a = id ∧ g = 0
    · obtain ⟨rfl, rfl⟩ := hi
      rw [Phi.add_same] at e; cases e; exact .inl ⟨rfl, rfl, rfl⟩
    · rw [Phi.add_other _ _ hi] at e
      refine .inr ⟨fun ha => ?_, e⟩
      subst ha
      rw [hnone g] at e; cases e
  refine ⟨Nat.le_trans H.base (by simp), ?_, H.there, H.gone, ?_, ?_, ?_, ?_, ?_, ?_⟩
  · intro a g K e
    rcases hphi _ _ _ e with ⟨rfl, _, _⟩ | ⟨_, h1⟩
    · exact hid
    · exact H.dom _ _ _ h1
  · intro a o' e hd
    by_cases ha : a = id
    · subst ha
      rw [hget] at e; cases e
      exact ho
    · rw [Base.del_other _ ha] at hd
      exact (H.objn a o' e hd).other hle (fun g => Phi.add_other _ _ (by omega)) (fun g K hK => heap_alloc_old w ob (H.lt a g K hK))
  · intro a g K e
    rcases hphi _ _ _ e with ⟨_, _, rfl⟩ | ⟨_, h2⟩
    · rw [hL]; simp
    · have := H.lt a g K h2; simp; omega
  · intro a o' g K e e'
    rcases hphi _ _ _ e' with ⟨rfl, _, rfl⟩ | ⟨_, h3⟩
    · rw [hget] at e; cases e
      exact ⟨fun _ => by rw [hL]; exact H.base, fun hf => by rw [hown] at hf; cases hf⟩
    · exact H.own a o' g K e h3
  · intro a o' a' g g' K K' e hown' e1 e2 hblk
    rcases hphi _ _ _ e1 with ⟨rfl, _, rfl⟩ | ⟨h1, h1'⟩
    · rcases hphi _ _ _ e2 with ⟨rfl, _, _⟩ | ⟨_, h2'⟩
      · rfl
      · have := H.lt _ _ _ h2'; omega
    · rcases hphi _ _ _ e2 with ⟨rfl, _, rfl⟩ | ⟨h2, h2'⟩
      · have := H.lt _ _ _ h1'; omega
      · exact H.disj a o' a' g g' K K' e hown' h1' h2' hblk
  · intro a g K e ds hd
    rcases hphi _ _ _ e with ⟨_, _, rfl⟩ | ⟨_, h2⟩
    · rw [hL, heap_alloc_new] at hd
      exact hob ds (Option.some.inj hd)
    · rw [heap_alloc_old w ob (H.lt a g K h2)] at hd
      exact H.nodef a g K h2 ds hd
  · intro a o' e
    by_cases ha : a = id
    · subst ha; rw [Base.del_same] at e; cases e
    · rw [Base.del_other _ ha] at e
      obtain ⟨h1, h2⟩ := H.ghost a o' e
      exact ⟨h1, fun g => by rw [Phi.add_other _ _ (by omega)]; exact h2 g⟩
theorem RelH.push {P : Program} {B : Base} {φ : Phi} {h : AHeap} {w : World} (H : RelH P B φ h w) {o : AObj} (hown : o.own = true) {L : Loc} {ob : Obj} (hL : L.blk = w.heap.size) (hob : ∀ ds, ob ≠ .deferred ds)
    (ho : RelO P (φ.add h.sz 0 L) h.sz o (w.alloc ob)) : RelH P B (φ.add h.sz 0 L) (h.push o) (w.alloc ob) := by
  have := (H.pushGhost o).fill (Base.add_same _ _ _) hown hL hob ho
  rwa [Base.del_add H.noGhost] at this
def NoDef (w w' : World) : Prop := ∀ (k : Nat) (ds : Option (List Deferred)), w'.heap[k]? = some (Obj.deferred ds) → w.heap[k]? = some (Obj.deferred ds)
theorem NoDef.put (w : World) {b : Nat} {o : Obj} (ho : ∀ ds, o ≠ .deferred ds) : NoDef w (w.putObj b o) := by
  intro k ds hk
  by_cases e : k = b
  · subst e
    have hlt : k < w.heap.size := by
      have := (Array.getElem?_eq_some_iff.1 hk).1
      simpa using this
    rw [World.putObj_heap_same hlt] at hk
    exact absurd (Option.some.inj hk) (ho ds)
  · rwa [World.putObj_heap_other e] at hk
theorem NoDef.alloc (w : World) {o : Obj} (ho : ∀ ds, o ≠ .deferred ds) : NoDef w (w.alloc o) := by
  intro k ds hk
  by_cases e : k = w.heap.size
  · subst e
    rw [heap_alloc_new] at hk
    exact absurd (Option.some.inj hk) (ho ds)
  · have hlt : k < w.heap.size := by
      have := (Array.getElem?_eq_some_iff.1 hk).1
      simp at this; omega
    rwa [heap_alloc_old w o hlt] at hk
theorem NoDef.of_block {w w' : World} {g : Nat} {y : Obj} (hy : w'.heap[g]? = some y) (ho : ∀ ds, y ≠ .deferred ds) (hk : ∀ k : Nat, k ≠ g → w'.heap[k]? = w.heap[k]?) : NoDef w w' := by
  intro k ds h
  by_cases e : k = g
  · subst e; rw [hy] at h; exact absurd (Option.some.inj h) (ho ds)
  · rwa [hk k e] at h
theorem RelH.update {P : Program} {B : Base} {φ φ' : Phi} {h : AHeap} {w w' : World} (H : RelH P B φ h w) {id : Nat} {o o' : AObj} (ho : h.get id = some o) (hown : o.own = true) (hown' : o'.own = true)
    (hle : φ.le φ') (hφ : ∀ a g, a ≠ id → φ' a g = φ a g)
    (hnew : ∀ g L, φ' id g = some L → φ id g = some L ∨ (L.blk = w.heap.size ∧ L.blk < w'.heap.size) ∨ ∃ g0 L0, φ id g0 = some L0 ∧ L0.blk = L.blk)
    (hsz : w.heap.size ≤ w'.heap.size) (hkeep : ∀ k, k < w.heap.size → (∀ g L, φ id g = some L → L.blk ≠ k) → w'.heap[k]? = w.heap[k]?)
    (hkind : NoDef w w') (hobj : RelO P φ' id o' w') (hdm : ∃ g L, φ id g = some L := by exact ⟨_, _, by assumption⟩) : RelH P B φ' (h.put id o') w' := by
  have hng : B.gh id = none := (let ⟨_, _, hd⟩ := hdm; H.real hd)
  have hid : id < h.sz := by
    rcases Nat.lt_or_ge id h.sz with h1 | h1
    · exact h1
    · rw [H.gone id h1] at ho; cases ho
  have hget : ∀ a x, (h.put id o').get a = some x → (a = id ∧ x = o') ∨ (a ≠ id ∧ h.get a = some x) := by
    intro a x e
    rw [AHeap.get_put] at e
    by_cases ha : a = id
    · rw [if_pos ha] at e; cases e; exact .inl ⟨ha, rfl⟩
    · rw [if_neg ha] at e; exact .inr ⟨ha, e⟩
  have hloc : ∀ g L, φ' id g = some L → (∃ g0 L0, φ id g0 = some L0 ∧ L0.blk = L.blk) ∨ (L.blk = w.heap.size ∧ L.blk < w'.heap.size) := by
    intro g L e
    rcases hnew g L e with h1 | h1 | h1
    · exact .inl ⟨g, L, h1, rfl⟩
    · exact .inr h1
    · exact .inl h1
  refine ⟨Nat.le_trans H.base hsz, ?_, ?_, ?_, ?_, ?_, ?_, ?_, ?_, ?_⟩
  · intro a g L e
    by_cases ha : a = id
    · subst ha; simpa using hid
    · rw [hφ a g ha] at e; simpa using H.dom a g L e
  · intro a ha
    rw [AHeap.get_put]
    by_cases e : a = id
    · exact ⟨o', by rw [if_pos e]⟩
    · rw [if_neg e]; exact H.there a (by simpa using ha)
  · intro a ha
    simp at ha
    rw [AHeap.get_put, if_neg (by omega)]
    exact H.gone a ha
  · intro a x e hd
    rcases hget a x e with ⟨rfl, rfl⟩ | ⟨h1, h2⟩
    · exact hobj
    · refine (H.objn a x h2 hd).other hle (fun g => hφ a g h1) (fun g L hL => hkeep L.blk (H.lt a g L hL) fun g0 L0 h0 heq => ?_)
      exact h1 (H.disj id o a g0 g L0 L ho hown h0 hL heq).symm
  · intro a g L e
    by_cases ha : a = id
    · subst ha
      rcases hloc g L e with ⟨g0, L0, h0, hb⟩ | h1
      · have := H.lt _ _ _ h0; omega
      · exact h1.2
    · rw [hφ a g ha] at e; exact Nat.lt_of_lt_of_le (H.lt a g L e) hsz
  · intro a x g L e e'
    rcases hget a x e with ⟨rfl, rfl⟩ | ⟨h1, h2⟩
    · refine ⟨fun _ => ?_, fun hf => by rw [hown'] at hf; cases hf⟩
      rcases hloc g L e' with ⟨g0, L0, h0, hb⟩ | h1
      · rw [← hb]; exact (H.own a o g0 L0 ho h0).1 hown
      · rw [h1.1]; exact H.base
    · rw [hφ a g h1] at e'; exact H.own a x g L h2 e'
  · intro a x a' g g' L L' e hx e1 e2 hblk
    rcases hget a x e with ⟨rfl, rfl⟩ | ⟨h1, h2⟩
    · by_cases ha' : a' = a
      · exact ha'.symm
      · rw [hφ a' g' ha'] at e2
        rcases hloc g L e1 with ⟨g0, L0, h0, hb⟩ | h1
        · exact H.disj a o a' g0 g' L0 L' ho hown h0 e2 (hb.trans hblk)
        · have := H.lt _ _ _ e2; omega
    · rw [hφ a g h1] at e1
      by_cases ha' : a' = id
      · subst ha'
        rcases hloc g' L' e2 with ⟨g0, L0, h0, hb⟩ | h3
        · exact H.disj a x a' g g0 L L0 h2 hx e1 h0 (hblk.trans hb.symm)
        · have := H.lt _ _ _ e1; omega
      · rw [hφ a' g' ha'] at e2
        exact H.disj a x a' g g' L L' h2 hx e1 e2 hblk
  · intro a g L e ds hd
    have hd := hkind _ _ hd
    by_cases ha : a = id
    · subst ha
      rcases hloc g L e with ⟨g0, L0, h0, hb⟩ | h1
      · exact H.nodef a g0 L0 h0 ds (by rw [hb]; exact hd)
      · have := (Array.getElem?_eq_some_iff.1 hd).1; omega
    · rw [hφ a g ha] at e
      exact H.nodef a g L e ds hd
  · intro a x e
    obtain ⟨h1, h2⟩ := H.ghost a x e
    have ha : a ≠ id := by
      rintro rfl
      rw [hng] at e; cases e
    exact ⟨by rw [AHeap.get_put, if_neg ha]; exact h1, fun g => by rw [hφ a g ha]; exact h2 g⟩
theorem Gw.alloc {B : Nat} {w : World} (hB : B ≤ w.heap.size) {ob : Obj} (hf : ∀ c t fr, ob = .cells c t fr → fr = (0, 0)) : Gw B w (w.alloc ob) := by
  refine ⟨rfl, rfl, Nat.le_refl _, rfl, by simp, fun k hk => heap_alloc_old w ob (by omega), fun k ds hk => ?_, fun k r hk => ⟨r, ?_⟩⟩
  · have hlt : k < w.heap.size := (Array.getElem?_eq_some_iff.1 hk).1
    exact (heap_alloc_old w ob hlt).trans hk
  · have hlt : k < w.heap.size := (Array.getElem?_eq_some_iff.1 hk).1
    exact (heap_alloc_old w ob hlt).trans hk
theorem Gw.of_block {B : Nat} {w w' : World} {g : Nat} {x y : Obj} (hg : w.heap[g]? = some x) (hB : B ≤ g) (hnd : ∀ ds, x ≠ .deferred ds) (hlp : ∀ r, x = .loop r → ∃ r', y = .loop r') (hy : w'.heap[g]? = some y)
    (hfx : ∀ c t fr, x = .cells c t fr → fr = (0, 0)) (hfy : ∀ c t fr, y = .cells c t fr → fr = (0, 0))
    (ho : ∀ k : Nat, k ≠ g → w'.heap[k]? = w.heap[k]?) (hs : w'.heap.size = w.heap.size) (h1 : w'.os = w.os) (h2 : w'.tape = w.tape) (h3 : w'.output = w.output) (h4 : w.drawn ≤ w'.drawn := by exact Nat.le_refl _) : Gw B w w' := by
  refine ⟨h1, h2, h4, h3, by omega, fun k hk => ho k (by omega), fun k ds hk => ?_, fun k r hk => ?_⟩
  · by_cases e : k = g
    · subst e; rw [hg] at hk; cases hk; exact absurd rfl (hnd ds)
    · exact (ho k e).trans hk
  · by_cases e : k = g
    · subst e; rw [hg] at hk; cases hk
      obtain ⟨r', hr'⟩ := hlp r rfl
      exact ⟨r', by rw [hy, hr']⟩
    · exact ⟨r, (ho k e).trans hk⟩
end Go.Ab
namespace Go.Ab
theorem row_flat {φ : Phi} {id g : Nat} {r : Row} {w : World} (h : RelRow φ id r w) {L : Loc} (hL : φ id g = some L) (hm : r.m ≤ g) {p n : Nat} (hp : p + n ≤ L.ext * r.sz) :
    ∃ vs : List Value, RelVs φ ((r.es.flatten.drop p).take n) vs ∧ vs.length = n ∧ ∀ (j : Nat) (v : Value), vs[j]? = some v → w.cell? ((⟨L.blk, L.base + p, none⟩ : Addr).add j) = some v := by
  obtain ⟨hext, vals, hv, hc⟩ := h.cells g L hm hL
  have hlen : (r.es.take L.ext).flatten.length = L.ext * r.sz := by
    rw [fl_len (sz := r.sz) (fun e he => h.es e (List.mem_of_mem_take he)), List.length_take]
    congr 1; omega
  refine ⟨(vals.drop p).take n, ?_, ?_, ?_⟩
  · have e1 : (r.es.flatten.drop p).take n = (((r.es.take L.ext).flatten).drop p).take n := by
      rw [fl_take h.es, List.drop_take, List.take_take]
      congr 1
      omega
    rw [e1]
    exact (hv.drop p).take n
  · have := hv.length
    simp only [List.length_take, List.length_drop]
    omega
  · intro j v hj
    have hjn : j < n := by
      have := (List.getElem?_eq_some_iff.1 hj).1
      simp only [List.length_take, List.length_drop] at this
      omega
    rw [Addr.add_lit, Nat.add_assoc]
    apply hc
    rw [List.getElem?_take_of_lt hjn, List.getElem?_drop] at hj
    exact hj
theorem fl_seg {sz : Nat} {es : List (List AV)} (h : ∀ e ∈ es, e.length = sz) {i o n : Nat} {e : List AV} (hi : es[i]? = some e) (ho : o + n ≤ e.length) :
    ((es.flatten.drop (i * sz + o)).take n) = (e.drop o).take n := by
  obtain ⟨hlt, he⟩ := List.getElem?_eq_some_iff.1 hi
  have hes : es.flatten = (es.take i).flatten ++ (e ++ (es.drop (i + 1)).flatten) := by
    conv => lhs; rw [← List.take_append_drop i es]
    rw [List.flatten_append, List.drop_eq_getElem_cons hlt, he, List.flatten_cons]
  have hl1 : (es.take i).flatten.length = i * sz := by
    rw [fl_len (sz := sz) (fun x hx => h x (List.mem_of_mem_take hx)), List.length_take]
    congr 1; omega
  rw [hes, ← hl1, List.drop_length_add_append, List.drop_append_of_le_length (by omega), List.take_append_of_le_length (by simp; omega)]
theorem row_seg {φ : Phi} {id g : Nat} {r : Row} {w : World} (h : RelRow φ id r w) {L : Loc} (hL : φ id g = some L) (hm : r.m ≤ g) {i o n : Nat} {e : List AV} (hi : i < L.ext) (he : r.es[i]? = some e) (hn : o + n ≤ e.length) :
    ∃ vs : List Value, RelVs φ ((e.drop o).take n) vs ∧ vs.length = n ∧ ∀ (j : Nat) (v : Value), vs[j]? = some v → w.cell? ((⟨L.blk, L.base + i * L.sz + o, none⟩ : Addr).add j) = some v := by
  have hsz : L.sz = r.sz := (h.gen g L hL).2
  have hel : e.length = r.sz := h.es e (List.mem_of_getElem? he)
  have hp : i * r.sz + o + n ≤ L.ext * r.sz := by
    have : (i + 1) * r.sz ≤ L.ext * r.sz := Nat.mul_le_mul_right _ hi
    rw [Nat.add_mul] at this; omega
  obtain ⟨vs, h1, h2, h3⟩ := row_flat h hL hm hp
  rw [fl_seg h.es he hn] at h1
  refine ⟨vs, h1, h2, fun j v hj => ?_⟩
  have := h3 j v hj
  rw [hsz, Nat.add_assoc]
  exact this
theorem row_store {P : Program} {B : Base} {φ : Phi} {h : AHeap} {w : World} (H : RelH P B φ h w) {id : Nat} {r : Row} (hr : h.get id = some (.row r)) (hrw : r.rw = true) {L : Loc} (hL : φ id r.g = some L)
    {new : List AV} {nv : List Value} (hn : RelVs φ new nv) (hleaf : allLeaf new = true) {p : Nat} (hp : p + new.length ≤ r.es.length * r.sz) {es' : List (List AV)} (he1 : ∀ e ∈ es', e.length = r.sz)
    (he2 : es'.length = r.es.length) (he3 : es'.flatten = lay r.es.flatten p new) (he4 : ∀ e ∈ es', allLeaf e = true) :
    ∃ w', (storeCells ⟨L.blk, L.base + p, none⟩ nv).run P w = .ok () w' ∧ RelH P B φ (h.put id (.row { r with es := es', m := r.g })) w' ∧ Gw B w w' := by
  have hrow : RelRow φ id r w := H.obj id _ hr
  obtain ⟨hbase, c, t, hc, hcs, hlt⟩ := hrow.own hrw r.g L hrow.mg hL
  have hsz : L.sz = r.sz := (hrow.gen r.g L hL).2
  obtain ⟨L', hL', hext⟩ := hrow.cur
  have : L' = L := by rw [hL] at hL'; cases hL'; rfl
  subst this
  have hnl := hn.length
  have hfit : p + nv.length ≤ c.size := by
    have h1 : r.es.length * r.sz ≤ L'.tot * L'.sz := by rw [hsz]; exact Nat.mul_le_mul_right _ (by omega)
    omega
  have hst := run_storeCells_at P L'.blk p t nv 0 c w hc (by simpa using hfit) (hn.leaf hleaf)
  simp only [Nat.add_zero] at hst
  have hB : B ≤ L'.blk := (H.own id _ r.g L' hr hL).1 hrw
  generalize hc' : (c.toList.take p ++ nv ++ c.toList.drop (p + nv.length)).toArray = c' at hst
  have hheap := setRow_heap w L'.blk c c' t (0, 0) hc
  have hc's : c'.size = c.size := by
    rw [← hc']; simp; omega
  obtain ⟨hx1, vals, hv, hcv⟩ := hrow.cells r.g L' hrow.mg hL
  have hlenE : (r.es.take L'.ext).flatten.length = r.es.length * r.sz := by
    rw [fl_len (sz := r.sz) (fun e he => hrow.es e (List.mem_of_mem_take he)), List.length_take]
    congr 1; omega
  have htk : r.es.take L'.ext = r.es := List.take_of_length_le (by omega)
  rw [htk] at hv hlenE
  refine ⟨w.setRow L'.blk c', by rw [hbase, Nat.zero_add]; exact hst, ?_, ?_⟩
  · refine H.update hr hrw (by exact hrw) φ.le_refl (fun _ _ _ => rfl) (fun g K e => .inl e) (by simp) (fun k _ hk => setRow_other w L'.blk k c' (fun e => hk r.g L' hL e.symm)) (NoDef.of_block hheap (fun ds e => by cases e) (fun k hk => setRow_other w L'.blk k c' hk)) ?_
    refine ⟨Nat.le_refl _, hrow.sz, he1, he4, ⟨L', hL, by rw [he2]; exact hext⟩, hrow.gen, fun g K hm hK => ?_, fun _ g K hm hK => ?_, fun u hu _ g K hm hK => ?_⟩
    · have hg : g = r.g := Nat.le_antisymm (hrow.gen g K hK).1 hm
      subst hg
      rw [hL] at hK; cases hK
      refine ⟨by simp only; omega, ?_⟩
      refine ⟨vals.take p ++ nv ++ vals.drop (p + nv.length), ?_, ?_⟩
      · rw [List.take_of_length_le (by simp only; omega), he3]
        unfold lay
        rw [hnl]
        exact ((hv.take p).append hn).append (hv.drop _)
      · intro j v hj
        rw [cell_setRow_same w L'.blk _ c c' t (0, 0) hc, ← hc', hbase, Nat.zero_add]
        have hvl : vals.length = r.es.length * r.sz := by rw [← hv.length]; exact hlenE
        have hcell : ∀ (k : Nat) (u : Value), vals[k]? = some u → c.toList[k]? = some u := by
          intro k u hk
          have := hcv k u hk
          rw [cell_of_row w L'.blk _ c t (0, 0) hc, hbase, Nat.zero_add] at this
          simpa using this
        have hjlt := (List.getElem?_eq_some_iff.1 hj).1
        simp only [List.length_append, List.length_take, List.length_drop] at hjlt
        have hcl : c.toList.length = c.size := by simp
        simp only [List.getElem?_toArray]
        by_cases h1 : j < p
        · rw [List.append_assoc, List.getElem?_append_left (by simp; omega), List.getElem?_take_of_lt h1] at hj ⊢
          exact hcell j v hj
        · by_cases h2 : j < p + nv.length
          · rw [List.append_assoc, List.getElem?_append_right (by simp; omega), List.getElem?_append_left (by simp; omega)] at hj ⊢
            simp only [List.length_take] at hj ⊢
            rw [show min p vals.length = p by omega] at hj
            rw [show min p c.toList.length = p by omega]
            exact hj
          · rw [List.getElem?_append_right (by simp; omega), List.getElem?_drop] at hj ⊢
            simp only [List.length_append, List.length_take] at hj ⊢
            rw [show p + nv.length + (j - (min p vals.length + nv.length)) = j by omega] at hj
            rw [show p + nv.length + (j - (min p c.toList.length + nv.length)) = j by omega]
            exact hcell j v hj
    · have hg : g = r.g := Nat.le_antisymm (hrow.gen g K hK).1 hm
      subst hg
      rw [hL] at hK; cases hK
      exact ⟨hbase, c', t, hheap, by rw [hc's]; exact hcs, hlt⟩
    · have hg : g = r.g := Nat.le_antisymm (hrow.gen g K hK).1 hm
      subst hg
      obtain ⟨c0, f0, hc0⟩ := hrow.ty u hu hrw r.g K hrow.mg hK
      rw [hL] at hK; cases hK
      rw [hc] at hc0; cases hc0
      exact ⟨_, _, hheap⟩
  · refine Gw.of_block hc hB (fun ds e => by cases e) (fun r e => by cases e) hheap ?_ ?_ (fun k hk => setRow_other w L'.blk k c' hk) (by simp) rfl rfl rfl
    · intro c0 t0 fr e; cases e; rfl
    · intro c0 t0 fr e; cases e; rfl
theorem row_fillT {P : Program} {B : Base} {φ : Phi} {h : AHeap} {w : World} {id : Nat} (H : RelH P B φ h w) {es : List (List AV)} {sz : Nat} (hsz : 0 < sz) (hes : ∀ e ∈ es, e.length = sz) (hlf : ∀ e ∈ es, allLeaf e = true) {vals spare : List Value} (hv : RelVs φ es.flatten vals)
    {tot : Nat} (htot : vals.length + spare.length = tot * sz) (t : TypeId) (ty : Option Nat) (hty : ∀ e, ty = some e → e = t) (hg : B.gh id = some (.row { es, sz, g := 0, m := 0, rw := true, ty })) :
    ∃ φ', φ.le φ' ∧ φ' id 0 = some ⟨w.heap.size, 0, sz, es.length, tot⟩ ∧ RelH P (B.del id) φ' h (w.alloc (.cells (vals ++ spare).toArray t)) ∧ Gw B w (w.alloc (.cells (vals ++ spare).toArray t)) := by
  have hnone := (H.ghost id _ hg).2
  have hle : φ.le (φ.add id 0 ⟨w.heap.size, 0, sz, es.length, tot⟩) := Phi.le_add _ (hnone 0)
  refine ⟨φ.add id 0 ⟨w.heap.size, 0, sz, es.length, tot⟩, hle, Phi.add_same _ _ _ _, ?_, Gw.alloc H.base (fun c t' fr e => by cases e; rfl)⟩
  have hvl : vals.length = es.length * sz := by rw [← hv.length, fl_len hes]
  have hkey : ∀ g L, φ.add id 0 ⟨w.heap.size, 0, sz, es.length, tot⟩ id g = some L → g = 0 ∧ L = ⟨w.heap.size, 0, sz, es.length, tot⟩ := by
    intro g L e
    by_cases hg : g = 0
    · subst hg; rw [Phi.add_same] at e; cases e; exact ⟨rfl, rfl⟩
    · rw [Phi.add_other _ _ (by omega), hnone] at e; cases e
  refine H.fill hg rfl rfl (fun ds e => by cases e) ?_
  refine ⟨Nat.le_refl _, hsz, hes, hlf, ⟨_, Phi.add_same _ _ _ _, rfl⟩, fun g L e => ?_, fun g L _ e => ?_, fun _ g L _ e => ?_, fun u hu _ g L _ e => ?_⟩
  · obtain ⟨rfl, rfl⟩ := hkey g L e; exact ⟨Nat.le_refl _, rfl⟩
  · obtain ⟨rfl, rfl⟩ := hkey g L e
    refine ⟨Nat.le_refl _, vals, ?_, fun j v hj => ?_⟩
    · rw [List.take_of_length_le (Nat.le_refl _)]; exact hv.mono hle
    · have hjl := (List.getElem?_eq_some_iff.1 hj).1
      simp only [Nat.zero_add]
      rw [World.cell?_alloc_new]
      simp [List.getElem?_append_left hjl, hj]
  · obtain ⟨rfl, rfl⟩ := hkey g L e
    refine ⟨rfl, _, t, heap_alloc_new w _, by simp; omega, ?_⟩
    simp only
    rcases Nat.lt_or_ge tot es.length with h1 | h1
    · have h2 : (tot + 1) * sz ≤ es.length * sz := Nat.mul_le_mul_right _ h1
      rw [Nat.add_mul] at h2
      omega
    · exact h1
  · obtain ⟨rfl, rfl⟩ := hkey g L e
    obtain rfl := hty u hu
    exact ⟨_, _, heap_alloc_new w _⟩
theorem row_newT {P : Program} {B : Base} {φ : Phi} {h : AHeap} {w : World} (H : RelH P B φ h w) {es : List (List AV)} {sz : Nat} (hsz : 0 < sz) (hes : ∀ e ∈ es, e.length = sz) (hlf : ∀ e ∈ es, allLeaf e = true) {vals spare : List Value} (hv : RelVs φ es.flatten vals)
    {tot : Nat} (htot : vals.length + spare.length = tot * sz) (t : TypeId) (ty : Option Nat) (hty : ∀ e, ty = some e → e = t) :
    ∃ φ', φ.le φ' ∧ φ' h.sz 0 = some ⟨w.heap.size, 0, sz, es.length, tot⟩ ∧ RelH P B φ' (newRow h es sz ty) (w.alloc (.cells (vals ++ spare).toArray t)) ∧ Gw B w (w.alloc (.cells (vals ++ spare).toArray t)) := by
  obtain ⟨φ', h1, h2, h3, h4⟩ := row_fillT (H.pushGhost (.row { es, sz, g := 0, m := 0, rw := true, ty })) hsz hes hlf hv htot t ty hty (Base.add_same _ _ _)
  rw [Base.del_add H.noGhost] at h3
  exact ⟨φ', h1, h2, h3, h4⟩
theorem row_new {P : Program} {B : Base} {φ : Phi} {h : AHeap} {w : World} (H : RelH P B φ h w) {es : List (List AV)} {sz : Nat} (hsz : 0 < sz) (hes : ∀ e ∈ es, e.length = sz) (hlf : ∀ e ∈ es, allLeaf e = true) {vals spare : List Value} (hv : RelVs φ es.flatten vals)
    {tot : Nat} (htot : vals.length + spare.length = tot * sz) (t : TypeId) :
    ∃ φ', φ.le φ' ∧ φ' h.sz 0 = some ⟨w.heap.size, 0, sz, es.length, tot⟩ ∧ RelH P B φ' (newRow h es sz) (w.alloc (.cells (vals ++ spare).toArray t)) ∧ Gw B w (w.alloc (.cells (vals ++ spare).toArray t)) :=
  row_newT H hsz hes hlf hv htot t none (fun _ e => by cases e)
end Go.Ab
namespace Go.Ab
set_option linter.unusedSimpArgs false
set_option linter.unusedVariables false
def SimV (P : Program) (B : Base) (φ : Phi) (h' : AHeap) (v : AV) (w : World) (r : Result Value) : Prop :=
  ∃ cv w' φ', r = .ok cv w' ∧ RelV φ' v cv ∧ RelH P B φ' h' w' ∧ φ.le φ' ∧ Gw B w w'
def SimU (P : Program) (B : Base) (φ : Phi) (h' : AHeap) (w : World) (r : Result Unit) : Prop :=
  ∃ w' φ', r = .ok () w' ∧ RelH P B φ' h' w' ∧ φ.le φ' ∧ Gw B w w'
def Sim (P : Program) (B : Base) (φ : Phi) (h' : AHeap) (v : AV) (w : World) (r : Result Next) : Prop :=
  ∃ cv w' φ', (r = .ok (.value cv) w' ∨ (r = .ok .skip w' ∧ cv = undef)) ∧ RelV φ' v cv ∧ RelH P B φ' h' w' ∧ φ.le φ' ∧ Gw B w w'
section
variable {P : Program} {B : Base} {φ : Phi} {h h' : AHeap} {w : World} {v : AV}
theorem SimV.pure {r : Result Value} {cv : Value} (H : RelH P B φ h w) (hr : r = .ok cv w) (hv : RelV φ v cv) : SimV P B φ h v w r :=
  ⟨cv, w, φ, hr, hv, H, φ.le_refl, Gw.refl B w⟩
theorem Sim.ofV {s : Sem Value} (hs : SimV P B φ h' v w (s.run P w)) : Sim P B φ h' v w ((do let x ← s; Pure.pure (Next.value x) : Sem Next).run P w) := by
  obtain ⟨cv, w', φ', hr, rest⟩ := hs
  exact ⟨cv, w', φ', .inl (by simp [Sem.run_bind, hr]), rest⟩
theorem Sim.ofU {s : Sem Unit} (hs : SimU P B φ h' w (s.run P w)) : Sim P B φ h' (.tup []) w ((do s; Pure.pure Next.skip : Sem Next).run P w) := by
  obtain ⟨w', φ', hr, rest⟩ := hs
  exact ⟨undef, w', φ', .inr ⟨by simp [hr], rfl⟩, .tup .nil, rest⟩
theorem run_isAggT {t : TypeId} {b : Bool} (ht : isAggT P t = some b) (w : World) : (isAgg t).run P w = .ok b w := by
  unfold isAggT at ht
  unfold isAgg
  split at ht <;> rename_i hu
  · cases ht; simp [Sem.run_bind, run_underlying hu]
  · cases ht; simp [Sem.run_bind, run_underlying hu]
  · rename_i d h1 h2
    cases ht
    rw [Sem.run_bind, run_underlying hu]
    cases d <;> first | rfl | (exact absurd rfl (h1 _)) | (exact absurd rfl (h2 _ _))
  · cases ht
theorem run_sizeT {t : TypeId} {n : Nat} (ht : sizeT P t = some n) (w : World) : (sizeOf t).run P w = .ok n w := by
  unfold sizeT at ht
  cases hi : P.info? t with
  | none => simp [hi] at ht
  | some i => simp [hi] at ht; subst ht; simp [sizeOf, typeInfo, hi]
theorem run_bytesT {t : TypeId} {n : Nat} (ht : bytesT P t = some n) (w : World) : ∃ i, (typeInfo t).run P w = .ok i w ∧ i.bytes = n ∧ P.info? t = some i := by
  unfold bytesT at ht
  cases hi : P.info? t with
  | none => simp [hi] at ht
  | some i => simp [hi] at ht; exact ⟨i, by simp [typeInfo, hi], ht, rfl⟩
theorem run_zeroT {t : TypeId} {z : AV} (ht : zeroT P t = some z) (w : World) : ∃ zv i, (zeroValue t).run P w = .ok zv w ∧ avOf zv = some z ∧ P.info? t = some i ∧ i.zero = some zv := by
  unfold zeroT at ht
  cases hi : P.info? t with
  | none => simp [hi] at ht
  | some i =>
    cases hz : i.zero with
    | none => simp [hi, hz] at ht
    | some zv => simp [hi, hz] at ht; exact ⟨zv, i, by simp [zeroValue, typeInfo, hi, hz], ht, rfl, hz⟩
theorem kidx_inj {j k : IntKind} (e : kidx j = kidx k) : j = k := by
  cases j <;> cases k <;> first | rfl | (simp [kidx] at e)
theorem wrapA_eq (k : IntKind) (n : Int) : wrapA k n = k.wrap n := by
  unfold wrapA
  cases hf : fitsK k n with
  | false => rfl
  | true =>
    rw [cond_true]
    symm
    cases k <;> cases n <;> simp only [fitsK, nble_true, Bool.false_eq_true] at hf
    all_goals first
      | (rw [IntWalk.i64_in]; constructor <;> simp only [Int.ofNat_eq_natCast, Int.negSucc_eq] <;> omega)
      | (rw [IntWalk.u8_in]; constructor <;> simp only [Int.ofNat_eq_natCast] <;> omega)
      | (rw [IntWalk.u64_in]; constructor <;> simp only [Int.ofNat_eq_natCast] <;> omega)
      | (rw [IntWalk.i32_in]; constructor <;> simp only [Int.ofNat_eq_natCast] <;> omega)
      | (rw [IntWalk.u32_in]; constructor <;> simp only [Int.ofNat_eq_natCast] <;> omega)
theorem ieqb_eq (a b : Int) : ieqb a b = (a == b) := by
  rw [Bool.eq_iff_iff, beq_iff_eq]
  cases a <;> cases b <;> simp [ieqb]
  · omega
theorem iltb_iff (a b : Int) : iltb a b = true ↔ a < b := by
  cases a <;> cases b <;> simp only [iltb, nblt_true, Bool.false_eq_true, Int.ofNat_eq_natCast, Int.negSucc_eq] <;> constructor <;> intro <;> first | omega | trivial
theorem iltb_eq (a b : Int) : iltb a b = decide (a < b) := by
  rw [Bool.eq_iff_iff, iltb_iff]; simp
theorem not_iltb (a b : Int) : (!iltb a b) = decide (b ≤ a) := by
  rw [iltb_eq, ← decide_not]; congr 1; simp
theorem leqb_eq : ∀ (a b : List Nat), leqb a b = (a == b)
  | [], [] => rfl
  | [], _ :: _ => rfl
  | _ :: _, [] => rfl
  | x :: a, y :: b => by
    simp only [leqb, List.cons_beq_cons]
    cases e : Nat.beq x y with
    | true => rw [cond_true, leqb_eq a b]; have := nbeq_true.1 e; subst this; simp
    | false => rw [cond_false]; have := nbeq_false.1 e; simp [this]
theorem leqb_bytes {a b : ByteArray} {l m : List Nat} (ha : a.data.toList.map UInt8.toNat = l) (hb : b.data.toList.map UInt8.toNat = m) : leqb l m = (a.toList == b.toList) := by
  rw [leqb_eq, ByteArray.toList_eq, ByteArray.toList_eq, ← ha, ← hb]
  rw [Bool.eq_iff_iff, beq_iff_eq, beq_iff_eq]
  constructor
  · intro e
    exact List.map_inj_right (fun x y h => UInt8.toNat.inj h) |>.1 e
  · intro e; rw [e]
theorem lltb_bytes : ∀ (a b : List UInt8), lltb (a.map UInt8.toNat) (b.map UInt8.toNat) = Op.bytesLess a b
  | _, [] => by cases ‹List UInt8› <;> simp [lltb, Op.bytesLess]
  | [], _ :: _ => by simp [lltb, Op.bytesLess]
  | x :: a, y :: b => by
    simp only [List.map_cons, lltb, Op.bytesLess]
    cases e : Nat.blt x.toNat y.toNat with
    | true =>
      have h1 : x < y := UInt8.lt_iff_toNat_lt.2 (nblt_true.1 e)
      simp [h1]
    | false =>
      have h1 : ¬ x < y := fun h => by rw [nblt_true.2 (UInt8.lt_iff_toNat_lt.1 h)] at e; cases e
      cases e2 : Nat.beq x.toNat y.toNat with
      | true =>
        have h2 : x = y := UInt8.toNat.inj (nbeq_true.1 e2)
        subst h2
        simp [lltb_bytes a b]
      | false =>
        have h2 : ¬ x = y := fun h => by subst h; rw [nbeq_true.2 rfl] at e2; cases e2
        simp [h1, h2]
theorem str_size {s : ByteArray} {l : List Nat} (hs : s.data.toList.map UInt8.toNat = l) : s.size = l.length := by
  rw [← hs, List.length_map, Array.length_toList]; rfl
theorem binA_sound {op : BinOp} {x y v : AV} {cx cy : Value} (hx : RelV φ x cx) (hy : RelV φ y cy) (he : binA op x y = some v) (t : TypeId) : ∃ cv, (binOp op t cx cy).run P w = .ok cv w ∧ RelV φ v cv ∧ (∀ a b, cx ≠ .agg a ∨ cy ≠ .agg b) ∧ (cx ≠ .nilIface) := by
  unfold binA at he
  split at he
  · rename_i k a j b
    cases hx; cases hy
    refine (fun (hh : ∃ cv, (binOp op t (.int k a) (.int j b)).run P w = .ok cv w ∧ RelV φ v cv) => ?_) ?_
    · obtain ⟨cv, h1, h2⟩ := hh
      exact ⟨cv, h1, h2, fun _ _ => .inl (by simp), by simp⟩
    cases hsft : isShift op with
    | true =>
      rw [hsft, cond_true] at he
      unfold shiftA at he
      cases hneg : iltb b 0 with
      | true => rw [hneg] at he; simp at he
      | false =>
        have hb : ¬ b < 0 := fun h => by rw [(iltb_iff b 0).2 h] at hneg; cases hneg
        rw [hneg, cond_false] at he
        cases op <;> simp [isShift] at hsft <;> cases he
        · exact ⟨.int k (k.wrap (a * 2 ^ (min b.toNat k.bits))), by simp only [binOp, Op.shift, hb, if_false]; rfl, .int _ _⟩
        · exact ⟨.int k (a.fdiv (2 ^ (min b.toNat k.bits))), by simp only [binOp, Op.shift, hb, if_false]; rfl, .int _ _⟩
    | false =>
      rw [hsft, cond_false] at he
      cases hk : Nat.beq (kidx k) (kidx j) with
      | false => rw [hk] at he; simp at he
      | true =>
        rw [hk, cond_true] at he
        have := kidx_inj (nbeq_true.1 hk); subst this
        cases op <;> simp [isShift] at hsft <;> simp only [intOp, bitsA] at he
        case add => cases he; exact ⟨.int k (k.wrap (a + b)), by simp [binOp, Op.intArith], by rw [wrapA_eq]; exact .int _ _⟩
        case sub => cases he; exact ⟨.int k (k.wrap (a - b)), by simp [binOp, Op.intArith], by rw [wrapA_eq]; exact .int _ _⟩
        case mul => cases he; exact ⟨.int k (k.wrap (a * b)), by simp [binOp, Op.intArith], by rw [wrapA_eq]; exact .int _ _⟩
        case quo =>
          cases hz : ieqb b 0 with
          | true => rw [hz] at he; simp at he
          | false =>
            rw [hz] at he; simp at he; subst he
            have hb : ¬ b = 0 := fun e => by rw [ieqb_eq, e] at hz; simp at hz
            exact ⟨.int k (k.wrap (a.tdiv b)), by simp [binOp, Op.intDiv, hb], by rw [wrapA_eq]; exact .int _ _⟩
        case rem =>
          cases hz : ieqb b 0 with
          | true => rw [hz] at he; simp at he
          | false =>
            rw [hz] at he; simp at he; subst he
            have hb : ¬ b = 0 := fun e => by rw [ieqb_eq, e] at hz; simp at hz
            exact ⟨.int k (a.tmod b), by simp [binOp, Op.intDiv, hb], .int _ _⟩
        case and => cases he; exact ⟨.int k (k.wrap (BitVec.ofInt k.bits a &&& BitVec.ofInt k.bits b).toNat), by simp only [binOp, Op.intBits, ne_eq, not_true_eq_false, if_false]; rfl, .int _ _⟩
        case or => cases he; exact ⟨.int k (k.wrap (BitVec.ofInt k.bits a ||| BitVec.ofInt k.bits b).toNat), by simp only [binOp, Op.intBits, ne_eq, not_true_eq_false, if_false]; rfl, .int _ _⟩
        case xor => cases he; exact ⟨.int k (k.wrap (BitVec.ofInt k.bits a ^^^ BitVec.ofInt k.bits b).toNat), by simp only [binOp, Op.intBits, ne_eq, not_true_eq_false, if_false]; rfl, .int _ _⟩
        case andNot => cases he; exact ⟨.int k (k.wrap (BitVec.ofInt k.bits a &&& ~~~ BitVec.ofInt k.bits b).toNat), by simp only [binOp, Op.intBits, ne_eq, not_true_eq_false, if_false]; rfl, .int _ _⟩
        case eql => cases he; exact ⟨.bool (a == b), by simp [binOp, Op.intCmp], by rw [ieqb_eq]; exact .bool _⟩
        case neq => cases he; exact ⟨.bool (!(a == b)), by simp [binOp, Op.intCmp, bne], by rw [ieqb_eq]; exact .bool _⟩
        case lss => cases he; exact ⟨.bool (decide (a < b)), by simp [binOp, Op.intCmp], by rw [iltb_eq]; exact .bool _⟩
        case leq => cases he; exact ⟨.bool (decide (a ≤ b)), by simp [binOp, Op.intCmp], by rw [not_iltb]; exact .bool _⟩
        case gtr => cases he; exact ⟨.bool (decide (b < a)), by simp [binOp, Op.intCmp], by rw [iltb_eq]; exact .bool _⟩
        case geq => cases he; exact ⟨.bool (decide (b ≤ a)), by simp [binOp, Op.intCmp], by rw [not_iltb]; exact .bool _⟩
  · rename_i l m
    cases hx with
    | str ha =>
      rename_i a
      cases hy with
      | str hb =>
        rename_i b
        refine (fun (hh : ∃ cv, (binOp op t (.string a) (.string b)).run P w = .ok cv w ∧ RelV φ v cv) => ?_) ?_
        · obtain ⟨cv, h1, h2⟩ := hh
          exact ⟨cv, h1, h2, fun _ _ => .inl (by simp), by simp⟩
        have e1 := leqb_bytes ha hb
        have e2 : lltb l m = Op.bytesLess a.toList b.toList := by
          rw [← ha, ← hb, lltb_bytes, ByteArray.toList_eq, ByteArray.toList_eq]
        have hsz : ((a.size + b.size : Nat) : Int) = ((l.length + m.length : Nat) : Int) := by rw [str_size ha, str_size hb]
        cases op <;> simp only [strOp] at he <;> try (cases he; done)
        case add =>
          cases hle : Nat.ble (l.length + m.length) most with
          | false => rw [hle] at he; simp at he
          | true =>
            rw [hle] at he; simp at he; subst he
            have h1 := nble_true.1 hle
            unfold most at h1
            have h2 : ¬ (IntKind.i64.max < ((a.size : Int) + (b.size : Int))) := by
              have : ((a.size : Int) + (b.size : Int)) = ((a.size + b.size : Nat) : Int) := by omega
              rw [this, hsz]
              have : IntKind.i64.max = 9223372036854775807 := by rfl
              rw [this]; omega
            refine ⟨.string (a ++ b), by simp [binOp, Op.stringOp]; omega, .str ?_⟩
            rw [← ha, ← hb, ← List.map_append]
            simp [ByteArray.data_append]
        case eql => cases he; exact ⟨.bool (a.toList == b.toList), by simp only [binOp, Op.stringOp]; rfl, by rw [e1]; exact .bool _⟩
        case neq => cases he; exact ⟨.bool (!(a.toList == b.toList)), by simp only [binOp, Op.stringOp]; rfl, by rw [e1]; exact .bool _⟩
        case lss => cases he; exact ⟨.bool (Op.bytesLess a.toList b.toList), by simp only [binOp, Op.stringOp]; rfl, by rw [e2]; exact .bool _⟩
        case leq => cases he; exact ⟨.bool (Op.bytesLess a.toList b.toList || a.toList == b.toList), by simp only [binOp, Op.stringOp]; rfl, by rw [e1, e2]; exact .bool _⟩
        case gtr => cases he; exact ⟨.bool (!(Op.bytesLess a.toList b.toList || a.toList == b.toList)), by simp only [binOp, Op.stringOp]; rfl, by rw [e1, e2]; exact .bool _⟩
        case geq => cases he; exact ⟨.bool (!Op.bytesLess a.toList b.toList), by simp only [binOp, Op.stringOp]; rfl, by rw [e2]; exact .bool _⟩
  · cases he
theorem unops {k : IntKind} {n : Int} : (Op.unary .neg (.int k n)).run P w = .ok (.int k (k.wrap (0 - n))) w := by simp [Op.unary, Op.intArith]
theorem part_sound {t : TypeId} {ag : Bool} {n off : Nat} {l : List AV} {v : AV} {cs : List Value} (hl : RelVs φ l cs) (he : partA ag off n l = some v) (hag : isAggT P t = some ag) (hn : sizeT P t = some n) :
    ∃ cv, (part t ⟨cs⟩ off).run P w = .ok cv w ∧ RelV φ v cv := by
  unfold partA at he
  cases ag with
  | true =>
    rw [cond_true] at he
    cases hle : Nat.ble (off + n) l.length with
    | false => rw [hle] at he; cases he
    | true =>
      rw [hle, cond_true] at he; cases he
      refine ⟨.agg ⟨(cs.drop off).take n⟩, ?_, .agg ((hl.drop off).take n)⟩
      have hx : (⟨cs⟩ : Array Value).extract off (off + n) = ⟨(cs.drop off).take n⟩ := by
        apply Array.ext'
        simp [List.extract_eq_take_drop]
      simp [part, Sem.run_bind, run_isAggT hag, run_sizeT hn, hx]
  | false =>
    rw [cond_false, nth_eq] at he
    obtain ⟨cv, h1, h2⟩ := hl.get he
    refine ⟨cv, ?_, h2⟩
    have h3 : (⟨cs⟩ : Array Value)[off]? = some cv := by simpa using h1
    simp [part, Sem.run_bind, run_isAggT hag, h3]
theorem load_sound {ag : Bool} {n : Nat} {x v : AV} {cx : Value} {t : TypeId} (H : RelH P B φ h w) (hx : RelV φ x cx) (he : loadA h ag n x = some v) (hag : isAggT P t = some ag) (hn : sizeT P t = some n) :
    ∃ cv, (Instr.loadAt t cx).run P w = .ok cv w ∧ (∀ A, cx = .pointer (some A) → (loadVar t A).run P w = .ok cv w) ∧ RelV φ v cv := by
  unfold loadA at he
  split at he
  · rename_i id g i o
    cases hrow : h.row id with
    | none => simp [hrow] at he
    | some r =>
      rw [hrow] at he
      simp only at he
      cases hm : Nat.ble r.m g with
      | false => rw [hm] at he; cases he
      | true =>
        rw [hm, cond_true, nth_eq] at he
        cases hi : r.es[i]? with
        | none => simp [hi] at he
        | some e =>
          rw [hi] at he
          simp only at he
          cases hx with
          | ptr hL hlt =>
            rename_i L
            have hr : RelRow φ id r w := H.obj id _ (AHeap.row_some.1 hrow)
            refine (fun (hh : ∃ cv, (loadVar t ⟨L.blk, L.base + i * L.sz + o, none⟩).run P w = .ok cv w ∧ RelV φ v cv) => ?_) ?_
            · obtain ⟨cv, a, b⟩ := hh
              exact ⟨cv, by simp [Instr.loadAt, Instr.sureAddr, a], fun A e => by cases e; exact a, b⟩
            unfold partA at he
            cases ag with
            | true =>
              rw [cond_true] at he
              cases hle : Nat.ble (o + n) e.length with
              | false => rw [hle] at he; cases he
              | true =>
                rw [hle, cond_true] at he; cases he
                obtain ⟨vs, h1, h2, h3⟩ := row_seg hr hL (nble_true.1 hm) hlt hi (nble_true.1 hle)
                refine ⟨.agg ⟨vs⟩, ?_, .agg h1⟩
                have := run_loadCells_list (P := P) w ⟨L.blk, L.base + i * L.sz + o, none⟩ vs h3
                rw [h2] at this
                simp [loadVar, Sem.run_bind, run_isAggT hag, run_sizeT hn, this]
            | false =>
              rw [cond_false, nth_eq] at he
              have ho : o < e.length := (List.getElem?_eq_some_iff.1 he).1
              obtain ⟨vs, h1, h2, h3⟩ := row_seg hr hL (nble_true.1 hm) hlt hi (o := o) (n := 1) (by omega)
              obtain ⟨cv, h4, h5⟩ := h1.get (i := 0) (a := v) (by
                rw [List.getElem?_take_of_lt (by omega), List.getElem?_drop]; simpa using he)
              refine ⟨cv, ?_, h5⟩
              have h6 := h3 0 cv h4
              rw [Addr.add_lit, Nat.add_zero] at h6
              simp [loadVar, Sem.run_bind, run_isAggT hag, h6]
  · cases he
theorem store_sound {n : Nat} {x v : AV} {cx cv : Value} {t : TypeId} (H : RelH P B φ h w) (hx : RelV φ x cx) (hv : RelV φ v cv) (he : storeA h n x v = some h') (hn : sizeT P t = some n) :
    SimU P B φ h' w ((Instr.storeAt t cx cv).run P w) := by
  unfold storeA at he
  split at he
  · rename_i id g i o
    cases hrow : h.row id with
    | none =>
      rw [hrow] at he
      simp only at he
      cases hc : (Nat.beq n 0 && Nat.beq v.cells.length 0) with
      | false => rw [hc] at he; cases he
      | true =>
        rw [hc, cond_true] at he; cases he
        simp only [Bool.and_eq_true, nbeq_true] at hc
        obtain ⟨rfl, c2⟩ := hc
        cases hx with
        | ptr hL hlt =>
          have hcs : cv.cells.toList = [] := List.eq_nil_of_length_eq_zero (by rw [← hv.cells.length, c2])
          have hcz : cv.cells.size = 0 := by rw [← Array.length_toList, hcs]; rfl
          refine ⟨w, φ, ?_, H, φ.le_refl, Gw.refl B w⟩
          simp [Instr.storeAt, Instr.sureAddr, storeVar, Sem.run_bind, run_sizeT hn, hcz, hcs, storeCells]
    | some r =>
      rw [hrow] at he
      simp only at he
      cases hc : (r.rw && Nat.beq g r.g && Nat.beq v.cells.length n && allLeaf v.cells) with
      | false => rw [hc] at he; cases he
      | true =>
        rw [hc, cond_true, nth_eq] at he
        simp only [Bool.and_eq_true, nbeq_true] at hc
        obtain ⟨⟨⟨c1, c2⟩, c3⟩, c4⟩ := hc
        subst c2
        cases hi : r.es[i]? with
        | none => simp [hi] at he
        | some e =>
          rw [hi] at he
          simp only at he
          cases hle : Nat.ble (o + n) e.length with
          | false => rw [hle] at he; cases he
          | true =>
            rw [hle, cond_true, setNth_eq] at he; cases he
            have hle := nble_true.1 hle
            cases hx with
            | ptr hL hlt =>
              rename_i L
              have hget := AHeap.row_some.1 hrow
              have hr : RelRow φ id r w := H.obj id _ hget
              have hsz : L.sz = r.sz := (hr.gen _ L hL).2
              obtain ⟨hilt, hie⟩ := List.getElem?_eq_some_iff.1 hi
              have hel : e.length = r.sz := hr.es e (List.mem_of_getElem? hi)
              have hfit : i * r.sz + o + v.cells.length ≤ r.es.length * r.sz := by
                have : (i + 1) * r.sz ≤ r.es.length * r.sz := Nat.mul_le_mul_right _ hilt
                rw [Nat.add_mul] at this; omega
              obtain ⟨w', h1, h2, h3⟩ := row_store H hget c1 hL hv.cells c4 (p := i * r.sz + o) hfit (es' := r.es.set i (lay e o v.cells))
                (by
                  intro x hx
                  rcases List.mem_or_eq_of_mem_set hx with hx | rfl
                  · exact hr.es x hx
                  · rw [lay_length _ _ _ (by omega), hel])
                (by simp) (fl_set hr.es hi (by omega)) (by
                  intro x hx
                  rcases List.mem_or_eq_of_mem_set hx with hx | rfl
                  · exact hr.leaf x hx
                  · exact allLeaf_lay (hr.leaf e (List.mem_of_getElem? hi)) c4 o)
              refine ⟨w', φ, ?_, h2, φ.le_refl, h3⟩
              have hcs : cv.cells.size = n := by
                have := hv.cells.length
                rw [c3] at this
                simpa using this.symm
              have ha : (⟨L.blk, L.base + i * L.sz + o, none⟩ : Addr) = ⟨L.blk, L.base + (i * r.sz + o), none⟩ := by rw [hsz, Nat.add_assoc]
              simp [Instr.storeAt, Instr.sureAddr, storeVar, Sem.run_bind, run_sizeT hn, hcs, ha, h1]
  · cases he
theorem box_fill {n id : Nat} {x : AV} {cx : Value} {t : TypeId} (H : RelH P B φ h w) (hx : RelV φ x cx) (hc : (Nat.beq x.cells.length n && allLeaf x.cells && Nat.blt 0 n) = true) (hg : B.gh id = some (.row { es := [x.cells], sz := n, g := 0, m := 0, rw := true })) :
    SimV P (B.del id) φ h (.ptr id 0 0 0) w ((Instr.box t cx).run P w) := by
  simp only [Bool.and_eq_true, nbeq_true, nblt_true] at hc
  obtain ⟨⟨c1, c2⟩, c3⟩ := hc
  have hcells := hx.cells
  obtain ⟨φ', h1, h2, h3, h4⟩ := row_fillT H (es := [x.cells]) c3 (by intro e he; simp at he; subst he; exact c1) (by intro e he; simp at he; subst he; exact c2) (vals := cx.cells.toList) (spare := []) (by simpa using hcells) (tot := 1)
    (by simp; rw [← c1, hcells.length]; simp) t none (fun _ e => by cases e) hg
  refine ⟨.pointer (some ⟨w.heap.size, 0, none⟩), _, φ', ?_, ?_, h3, h1, h4⟩
  · simp [Instr.box, newVar, newRow, Go.newRow]
  · have := RelV.ptr (φ := φ') (i := 0) (o := 0) h2 (by simp)
    simpa using this
theorem box_sound {n : Nat} {x v : AV} {cx : Value} {t : TypeId} (H : RelH P B φ h w) (hx : RelV φ x cx) (he : boxA h n x = some (v, h')) : SimV P B φ h' v w ((Instr.box t cx).run P w) := by
  unfold boxA at he
  cases hc : (Nat.beq x.cells.length n && allLeaf x.cells && Nat.blt 0 n) with
  | false => rw [hc] at he; cases he
  | true =>
    rw [hc, cond_true] at he; cases he
    have := box_fill (t := t) (H.pushGhost (.row { es := [x.cells], sz := n, g := 0, m := 0, rw := true })) hx hc (Base.add_same _ _ _)
    rwa [Base.del_add H.noGhost] at this
theorem alloc0_fill {z : List AV} {t : TypeId} {id : Nat} (H : RelH P B φ h w) {za : AV} (hz : zeroT P t = some za) (hzc : za.cells = z) (hc : z.length = 0) (hg : B.gh id = some .gone) :
    SimV P (B.del id) φ h (.ptr id 0 0 0) w ((Instr.alloc t true (.tuple #[])).run P w) := by
  obtain ⟨zv, i, h1, h2, h3, h4⟩ := run_zeroT hz w
  have hnone := (H.ghost id _ hg).2
  have hle := Phi.le_add (φ := φ) (id := id) (g := 0) ⟨w.heap.size, 0, 0, 1, 0⟩ (hnone 0)
  have hp := H.fill hg rfl (L := ⟨w.heap.size, 0, 0, 1, 0⟩) (ob := .cells zv.cells t) rfl (fun ds e => by cases e) trivial
  refine ⟨.pointer (some ⟨w.heap.size, 0, none⟩), _, φ.add id 0 ⟨w.heap.size, 0, 0, 1, 0⟩, ?_, ?_, hp, hle, Gw.alloc H.base (fun _ _ _ e => by cases e; rfl)⟩
  · simp [Instr.alloc, h1, newVar, Go.newRow]
  · have := RelV.ptr (φ := φ.add id 0 ⟨w.heap.size, 0, 0, 1, 0⟩) (i := 0) (o := 0) (Phi.add_same _ _ _ _) (by simp)
    simpa using this
theorem alloc_fill {z : List AV} {t : TypeId} {id : Nat} (H : RelH P B φ h w) {za : AV} (hz : zeroT P t = some za) (hzc : za.cells = z) (hc : (Nat.blt 0 z.length && allLeaf z) = true) (hg : B.gh id = some (.row { es := [z], sz := z.length, g := 0, m := 0, rw := true })) :
    SimV P (B.del id) φ h (.ptr id 0 0 0) w ((Instr.alloc t true (.tuple #[])).run P w) := by
  obtain ⟨zv, i, h1, h2, h3, h4⟩ := run_zeroT hz w
  subst hzc
  obtain ⟨cv, w', φ', a, b⟩ := box_fill (t := t) (n := za.cells.length) H (relV_avOf h2) (by simp only [Bool.and_eq_true] at hc ⊢; exact ⟨⟨nbeq_true.2 rfl, hc.2⟩, hc.1⟩) hg
  refine ⟨cv, w', φ', ?_, b⟩
  simp [Instr.alloc, h1]
  simpa [Instr.box] using a
theorem allocA_push {z : List AV} (he : allocA h z = some (v, h')) : v = .ptr h.sz 0 0 0 ∧ ∃ ob, h' = h.push ob ∧ ((z.length = 0 ∧ ob = .gone) ∨ ((Nat.blt 0 z.length && allLeaf z) = true ∧ ob = .row { es := [z], sz := z.length, g := 0, m := 0, rw := true })) := by
  unfold allocA at he
  cases h0 : Nat.beq z.length 0 with
  | true => rw [h0, cond_true] at he; cases he; exact ⟨rfl, _, rfl, .inl ⟨nbeq_true.1 h0, rfl⟩⟩
  | false =>
    rw [h0, cond_false] at he
    cases hl : allLeaf z with
    | false => rw [hl] at he; cases he
    | true =>
      rw [hl, cond_true] at he; cases he
      have := nbeq_false.1 h0
      exact ⟨rfl, _, rfl, .inr ⟨by rw [nblt_true.2 (by omega)]; rfl, rfl⟩⟩
theorem allocA_fill {z : List AV} {t : TypeId} {hp : AHeap} {ob : AObj} (H : RelH P B φ h w) {za : AV} (hz : zeroT P t = some za) (hzc : za.cells = z) (he : allocA hp z = some (v, hp.push ob)) (hg : B.gh hp.sz = some ob) :
    SimV P (B.del hp.sz) φ h v w ((Instr.alloc t true (.tuple #[])).run P w) := by
  obtain ⟨rfl, ob', e, h1⟩ := allocA_push he
  have e := push_inj e
  subst e
  rcases h1 with ⟨h1, rfl⟩ | ⟨h1, rfl⟩
  · exact alloc0_fill H hz hzc h1 hg
  · exact alloc_fill H hz hzc h1 hg
theorem alloc_sound {z : List AV} {v : AV} {t : TypeId} (H : RelH P B φ h w) {za : AV} (hz : zeroT P t = some za) (hzc : za.cells = z) (he : allocA h z = some (v, h')) :
    SimV P B φ h' v w ((Instr.alloc t true (.tuple #[])).run P w) := by
  obtain ⟨_, ob, rfl, _⟩ := allocA_push he
  have := allocA_fill (H.pushGhost ob) hz hzc he (Base.add_same _ _ _)
  rwa [Base.del_add H.noGhost] at this
end
end Go.Ab
namespace Go.Ab
set_option linter.unusedSimpArgs false
set_option linter.unusedVariables false
theorem fold_lay (off : Nat) : ∀ (l : List Value) (k : Nat) (base : Array Value), off + k + l.length ≤ base.size →
    ((l.zipIdx k).foldl (fun (cs : Array Value) (x : Value × Nat) => cs.setIfInBounds (off + x.2) x.1) base).toList = lay base.toList (off + k) l
  | [], k, base, _ => by simp [lay]
  | v :: l, k, base, h => by
    simp only [List.length_cons] at h
    simp only [List.zipIdx_cons, List.foldl_cons]
    rw [fold_lay off l (k + 1) _ (by simp; omega)]
    unfold lay
    simp only [Array.toList_setIfInBounds, List.length_cons]
    have := list_seg_step base.toList (off + k) v l (by simp; omega)
    rw [show off + (k + 1) = off + k + 1 by omega]
    exact this
theorem fold_lay' (off : Nat) (l : Array Value) (base : Array Value) (h : off + l.size ≤ base.size) :
    (l.zipIdx.foldl (fun cs (c, j) => cs.setIfInBounds (off + j) c) base).toList = lay base.toList off l.toList := by
  rw [← Array.foldl_toList, Array.toList_zipIdx]
  exact fold_lay off l.toList 0 base (by simpa using h)
section
variable {P : Program} {B : Base} {φ : Phi} {h h' : AHeap} {w : World} {v : AV} {N : Nat} {ρ : Regs} {a : Act}
theorem fill_sound (hR : RelR φ N ρ a.tmps) (place : Nat → Option (Nat × Nat)) {comp : List (Nat × Operand) → Option (List (Nat × Nat × Opd))}
    (hnil : comp [] = some []) (hcons : ∀ i x l r, comp ((i, x) :: l) = some r → ∃ off n y r', place i = some (off, n) ∧ opdOf x = some y ∧ comp l = some r' ∧ r = (off, n, y) :: r') :
    ∀ (parts : List (Nat × Operand)) (ap : List (Nat × Nat × Opd)) (ac : List AV) (cc : Array Value) (r : List AV), comp parts = some ap → RelVs φ ac cc.toList → fillA ρ ac ap = some r →
      ∃ cc', Instr.fill place cc (parts.map fun p => (p.1, a.eval p.2)) = some cc' ∧ RelVs φ r cc'.toList
  | [], ap, ac, cc, r, hc, hv, hf => by
    rw [hnil] at hc; cases hc
    simp [fillA] at hf; subst hf
    exact ⟨cc, by simp [Instr.fill], hv⟩
  | (i, x) :: parts, ap, ac, cc, r, hc, hv, hf => by
    obtain ⟨off, n, y, r', h1, h2, h3, rfl⟩ := hcons i x parts ap hc
    simp only [fillA] at hf
    cases he : ev ρ y with
    | none => simp [he] at hf
    | some u =>
      rw [he] at hf
      simp only at hf
      cases hcnd : (Nat.beq u.cells.length n && Nat.ble (off + n) ac.length && allLeaf u.cells) with
      | false => rw [hcnd] at hf; cases hf
      | true =>
        rw [hcnd, cond_true] at hf
        simp only [Bool.and_eq_true, nbeq_true, nble_true] at hcnd
        obtain ⟨⟨c1, c2⟩, c3⟩ := hcnd
        have hu := ev_opd hR h2 he
        have hul := hu.cells.length
        have hcl := hv.length
        simp only [Array.length_toList] at hul hcl
        have hfit : off + (a.eval x).cells.size ≤ cc.size := by omega
        have hlay := fold_lay' off (a.eval x).cells cc hfit
        have hv' : RelVs φ (lay ac off u.cells) (lay cc.toList off (a.eval x).cells.toList) := by
          unfold lay
          rw [hu.cells.length]
          exact ((hv.take off).append hu.cells).append (hv.drop _)
        rw [← hlay] at hv'
        obtain ⟨cc', e1, e2⟩ := fill_sound hR place hnil hcons parts r' _ _ r h3 hv' hf
        refine ⟨cc', ?_, e2⟩
        simp only [List.map_cons, Instr.fill, h1]
        rw [if_neg (by simp; omega)]
        exact e1
theorem partsOf_cons {places : List (Nat × Nat)} : ∀ i x l r, partsOf places ((i, x) :: l) = some r → ∃ off n y r', places[i]? = some (off, n) ∧ opdOf x = some y ∧ partsOf places l = some r' ∧ r = (off, n, y) :: r' := by
  intro i x l r hr
  simp only [partsOf] at hr
  split at hr
  · rename_i off n h1
    split at hr
    · rename_i y h2
      split at hr
      · rename_i r' h3
        cases hr
        exact ⟨off, n, y, r', h1, h2, h3, rfl⟩
      · cases hr
    · cases hr
  · cases hr
theorem partsArr_cons {esz : Nat} : ∀ i x l r, partsArr esz ((i, x) :: l) = some r → ∃ off n y r', some (i * esz, esz) = some (off, n) ∧ opdOf x = some y ∧ partsArr esz l = some r' ∧ r = (off, n, y) :: r' := by
  intro i x l r hr
  simp only [partsArr] at hr
  split at hr
  · rename_i y h2
    split at hr
    · rename_i r' h3
      cases hr
      exact ⟨_, _, y, r', rfl, h2, h3, rfl⟩
    · cases hr
  · cases hr
theorem cells_avOf {zv : Value} {z : AV} (hz : avOf zv = some z) : RelVs φ z.cells zv.cells.toList := (relV_avOf hz).cells
theorem build_sound {t : TypeId} {parts : Array (Nat × Operand)} {op : AOp} (hR : RelR φ N ρ a.tmps) (H : RelH P B φ h w) (hc : compRaw P (.build t parts) = some op) (he : evalA ρ h op = some (v, h')) :
    SimV P B φ h' v w ((Instr.build t (parts.map fun (i, x) => (i, a.eval x))).run P w) := by
  simp only [compRaw, Option.bind_eq_bind, Option.pure_def] at hc
  cases hz : zeroT P t with
  | none => simp [hz] at hc
  | some z =>
    rw [hz] at hc
    simp only [Option.bind_some] at hc
    obtain ⟨zv, it, z1, z2, z3, z4⟩ := run_zeroT hz w
    have hmap : (parts.map fun (i, x) => (i, a.eval x)).toList = parts.toList.map fun p => (p.1, a.eval p.2) := by simp
    split at hc
    · rename_i fs hu
      cases hp : fs.toList.mapM (fun f => (P.info? f.type).map fun i => (f.offset, i.size)) with
      | none => simp [hp] at hc
      | some places =>
        rw [hp] at hc
        simp only [Option.bind_some] at hc
        cases hps : partsOf places parts.toList with
        | none => simp [hps] at hc
        | some ap =>
          rw [hps] at hc; simp at hc; subst hc
          simp only [evalA] at he
          cases hf : fillA ρ z.cells ap with
          | none => simp [hf] at he
          | some r =>
            rw [hf] at he; simp at he
            obtain ⟨rfl, rfl⟩ := he
            obtain ⟨cc', e1, e2⟩ := fill_sound hR (fun i => places[i]?) (comp := partsOf places) rfl partsOf_cons parts.toList ap z.cells zv.cells r hps (cells_avOf z2) hf
            refine SimV.pure H (cv := .agg cc') (run_build w t _ cc' ?_) (.agg e2)
            rw [hmap]
            unfold Program.built
            rw [z3, hu]
            simp only [z4, hp]
            simpa using e1
    · rename_i n e hu
      cases hs : sizeT P e with
      | none => simp [hs] at hc
      | some esz =>
        rw [hs] at hc
        simp only [Option.bind_some] at hc
        cases hps : partsArr esz parts.toList with
        | none => simp [hps] at hc
        | some ap =>
          rw [hps] at hc; simp at hc; subst hc
          simp only [evalA] at he
          cases hf : fillA ρ z.cells ap with
          | none => simp [hf] at he
          | some r =>
            rw [hf] at he; simp at he
            obtain ⟨rfl, rfl⟩ := he
            obtain ⟨cc', e1, e2⟩ := fill_sound hR (fun i => some (i * esz, esz)) (comp := partsArr esz) rfl partsArr_cons parts.toList ap z.cells zv.cells r hps (cells_avOf z2) hf
            refine SimV.pure H (cv := .agg cc') (run_build w t _ cc' ?_) (.agg e2)
            rw [hmap]
            unfold Program.built
            unfold sizeT at hs
            cases hi : P.info? e with
            | none => simp [hi] at hs
            | some ie =>
              simp [hi] at hs; subst hs
              rw [z3, hu]
              simp only [z4, hi]
              exact e1
    · cases hc
theorem fillRow_len {sz : Nat} : ∀ (ap : List (Nat × Opd)) (es r : List (List AV)), (∀ e ∈ es, e.length = sz ∧ allLeaf e = true) → fillRow ρ sz es ap = some r → (∀ e ∈ r, e.length = sz ∧ allLeaf e = true) ∧ r.length = es.length
  | [], es, r, hes, hf => by simp [fillRow] at hf; subst hf; exact ⟨hes, rfl⟩
  | (i, x) :: ap, es, r, hes, hf => by
    simp only [fillRow] at hf
    split at hf
    · rename_i u he
      cases hcnd : (Nat.beq u.cells.length sz && Nat.blt i es.length && allLeaf u.cells) with
      | false => rw [hcnd] at hf; cases hf
      | true =>
        rw [hcnd, cond_true, setNth_eq] at hf
        simp only [Bool.and_eq_true, nbeq_true] at hcnd
        obtain ⟨h1, h2⟩ := fillRow_len ap _ r (by
          intro e hx
          rcases List.mem_or_eq_of_mem_set hx with hx | rfl
          · exact hes e hx
          · exact ⟨hcnd.1.1, hcnd.2⟩) hf
        exact ⟨h1, by simpa using h2⟩
    · cases hf
theorem fillRow_sound (hR : RelR φ N ρ a.tmps) {sz : Nat} : ∀ (parts : List (Nat × Operand)) (ap : List (Nat × Opd)) (es : List (List AV)) (cc : Array Value) (r : List (List AV)),
    partsSl parts = some ap → (∀ e ∈ es, e.length = sz) → RelVs φ es.flatten cc.toList → fillRow ρ sz es ap = some r →
      ∃ cc', Instr.fill (fun i => some (i * sz, sz)) cc (parts.map fun p => (p.1, a.eval p.2)) = some cc' ∧ RelVs φ r.flatten cc'.toList
  | [], ap, es, cc, r, hc, hes, hv, hf => by
    simp [partsSl] at hc; subst hc
    simp [fillRow] at hf; subst hf
    exact ⟨cc, by simp [Instr.fill], hv⟩
  | (i, x) :: parts, ap, es, cc, r, hc, hes, hv, hf => by
    simp only [partsSl] at hc
    split at hc
    · rename_i y h2
      split at hc
      · rename_i r' h3
        cases hc
        simp only [fillRow] at hf
        split at hf
        · rename_i u he
          cases hcnd : (Nat.beq u.cells.length sz && Nat.blt i es.length && allLeaf u.cells) with
          | false => rw [hcnd] at hf; cases hf
          | true =>
            rw [hcnd, cond_true, setNth_eq] at hf
            simp only [Bool.and_eq_true, nbeq_true, nblt_true] at hcnd
            obtain ⟨⟨c1, c2⟩, c3⟩ := hcnd
            have hu := ev_opd hR h2 he
            have hul := hu.cells.length
            have hcl := hv.length
            have hfl := fl_len hes
            simp only [Array.length_toList] at hul hcl
            have hmul : (i + 1) * sz ≤ es.length * sz := Nat.mul_le_mul_right _ c2
            rw [Nat.add_mul] at hmul
            have hfit : i * sz + (a.eval x).cells.size ≤ cc.size := by omega
            have hlay := fold_lay' (i * sz) (a.eval x).cells cc hfit
            have hset : (es.set i u.cells).flatten = lay es.flatten (i * sz) u.cells := by
              rw [set_eq_lay _ _ _ c2, fl_lay hes (by intro e he; simp at he; subst he; exact c1)]
              simp
            have hv' : RelVs φ (es.set i u.cells).flatten (lay cc.toList (i * sz) (a.eval x).cells.toList) := by
              rw [hset]
              unfold lay
              rw [hu.cells.length]
              exact ((hv.take _).append hu.cells).append (hv.drop _)
            rw [← hlay] at hv'
            obtain ⟨cc', e1, e2⟩ := fillRow_sound hR parts r' _ _ r h3 (by
              intro e hx
              rcases List.mem_or_eq_of_mem_set hx with hx | rfl
              · exact hes e hx
              · exact c1) hv' hf
            refine ⟨cc', ?_, e2⟩
            simp only [List.map_cons, Instr.fill]
            rw [if_neg (by simp; omega)]
            exact e1
        · cases hf
      · cases hc
    · cases hc
theorem mod_replicate (z : List Value) (hz : 0 < z.length) : ∀ (n : Nat), (List.range (n * z.length)).map (fun i => z.toArray[i % z.length]!) = (List.replicate n z).flatten := by
  intro n
  apply List.ext_getElem?
  intro j
  by_cases hj : j < n * z.length
  · have hm : j % z.length < z.length := Nat.mod_lt _ hz
    have hd : j / z.length < n := by
      rw [Nat.div_lt_iff_lt_mul hz]; exact hj
    have h1 : (List.replicate n z)[j / z.length]? = some z := by simp [List.getElem?_replicate, hd]
    have h2 : z[j % z.length]? = some z[j % z.length] := List.getElem?_eq_getElem hm
    have := fl_get (sz := z.length) (es := List.replicate n z) (fun e he => by rw [List.eq_of_mem_replicate he]) h1 h2
    rw [show j / z.length * z.length + j % z.length = j by rw [Nat.mul_comm]; exact Nat.div_add_mod j z.length] at this
    rw [this]
    simp [hj, hm]
  · have h1 : (List.replicate n z).flatten.length = n * z.length := by
      rw [fl_len (sz := z.length) (fun e he => by rw [List.eq_of_mem_replicate he])]; simp
    rw [List.getElem?_eq_none (by simp; omega), List.getElem?_eq_none (by omega)]
theorem zero_cells {zv : Value} (hz : 0 < zv.cells.size) (n : Nat) : ((Array.range (n * zv.cells.size)).map (zv.cells[· % zv.cells.size]!)) = (List.replicate n zv.cells.toList).flatten.toArray := by
  apply Array.ext'
  have := mod_replicate zv.cells.toList (by simpa using hz) n
  simp only [Array.length_toList, Array.toArray_toList] at this
  simp only [Array.toList_map, Array.toList_range]
  exact this
theorem bslice_sound {t : TypeId} {n : Nat} {parts : Array (Nat × Operand)} {op : AOp} (hR : RelR φ N ρ a.tmps) (H : RelH P B φ h w) (hc : compRaw P (.buildSlice t n parts) = some op) (he : evalA ρ h op = some (v, h')) :
    SimV P B φ h' v w ((Instr.buildSlice t n (parts.map fun (i, x) => (i, a.eval x))).run P w) := by
  simp only [compRaw, Option.bind_eq_bind, Option.pure_def] at hc
  split at hc
  · rename_i e hu
    cases hs : sizeT P e with
    | none => simp [hs] at hc
    | some sz =>
      cases hz : zeroT P e with
      | none => simp [hs, hz] at hc
      | some z =>
        cases hps : partsSl parts.toList with
        | none => simp [hs, hz, hps] at hc
        | some ap =>
          simp [hs, hz, hps] at hc; subst hc
          simp only [evalA] at he
          cases hcnd : (Nat.beq z.cells.length sz && Nat.blt 0 sz && Nat.ble (n * sz) 16777216 && allLeaf z.cells) with
          | false => rw [hcnd] at he; cases he
          | true =>
            rw [hcnd, cond_true] at he
            simp only [Bool.and_eq_true, nbeq_true, nblt_true, nble_true] at hcnd
            obtain ⟨⟨⟨c1, c2⟩, c3⟩, c4⟩ := hcnd
            rw [repl_eq] at he
            cases hf : fillRow ρ sz (List.replicate n z.cells) ap with
            | none => simp [hf] at he
            | some es =>
              rw [hf] at he; simp at he
              obtain ⟨rfl, rfl⟩ := he
              obtain ⟨zv, it, z1, z2, z3, z4⟩ := run_zeroT hz w
              have hzc := cells_avOf (φ := φ) z2
              have hzl : zv.cells.size = sz := by have := hzc.length; simp only [Array.length_toList] at this; omega
              have hrep : ∀ e ∈ List.replicate n z.cells, e.length = sz := fun e he => by rw [List.eq_of_mem_replicate he]; exact c1
              obtain ⟨cc', e1, e2⟩ := fillRow_sound hR parts.toList ap _ ((List.replicate n zv.cells.toList).flatten.toArray) es hps hrep (by simpa using hzc.replicate n) hf
              obtain ⟨l0, l2⟩ := fillRow_len ap _ es (fun e he => ⟨hrep e he, by rw [List.eq_of_mem_replicate he]; exact c4⟩) hf
              have l1 : ∀ e ∈ es, e.length = sz := fun e he => (l0 e he).1
              simp only [List.length_replicate] at l2
              obtain ⟨φ', h1, h2, h3, h4⟩ := row_new H c2 l1 (fun e he => (l0 e he).2) (vals := cc'.toList) (spare := []) e2 (tot := n) (by
                have := e2.length; rw [fl_len l1] at this; simp only [List.length_nil, Nat.add_zero]; rw [← this, l2]) e
              refine ⟨.slice (some ⟨w.heap.size, 0, none⟩) n n, _, φ', ?_, ?_, h3, h1, h4⟩
              · have hnz : ¬ (n * sz > 2 ^ 24) := by omega
                have hmap : (parts.map fun (i, x) => (i, a.eval x)).toList = parts.toList.map fun p => (p.1, a.eval p.2) := by simp
                unfold Instr.buildSlice
                simp only [Sem.run_bind, run_underlying hu, Result.andThen_ok, run_sizeT hs, hnz, if_false, hmap]
                by_cases hn : n * sz = 0
                · have hn0 : n = 0 := by
                    rcases Nat.mul_eq_zero.1 hn with h0 | h0
                    · exact h0
                    · omega
                  subst hn0
                  simp only [List.replicate_zero, List.flatten_nil] at e1
                  have e0 : ∀ f : Nat → Value, Array.map f (Array.range 0) = #[] := fun f => by simp
                  simp [e0, e1, Go.newRow]
                · rw [if_neg hn]
                  have hzz : ((Array.range (n * sz)).map (zv.cells[· % zv.cells.size]!)) = (List.replicate n zv.cells.toList).flatten.toArray := by
                    rw [← hzl]; exact zero_cells (by omega) n
                  simp only [Sem.run_bind, z1, Result.andThen_ok, Sem.run_pure, hzz]
                  rw [e1]
                  simp [Go.newRow]
              · have := RelV.slc (φ := φ') (s := 0) (len := n) (cap := n) (c := n) (off := 0) (ex := true) h2 (Nat.le_refl _) (by simp only; omega) (by simp only; omega) (Nat.le_refl _) (fun _ => rfl) (fun _ => by simp)
                exact this
  · cases hc
theorem asNat_sound {x : AV} {cx : Value} {n : Nat} (hx : RelV φ x cx) (he : asNat x = some n) : ∃ k, cx = .int k n := by
  unfold asNat at he
  split at he
  · cases he; cases hx; exact ⟨_, rfl⟩
  · cases he
theorem fadr_sound {off f : Nat} {x v : AV} {cx : Value} {t : TypeId} {fs : Array Field} {fl : Field} {m : Nat} (hu : P.underlying t = some (.struct fs)) (hf : fs[f]? = some fl) (hoff : fl.offset = off) (hm : sizeT P fl.type = some (m + 1))
    (hx : RelV φ x cx) (he : fadrA off x = some v) : ∃ cv, (Instr.fieldAt t cx f).run P w = .ok cv w ∧ RelV φ v cv := by
  unfold fadrA at he
  split at he
  · rename_i id g i o
    cases he
    cases hx with
    | ptr hL hi =>
      rename_i L
      refine ⟨.pointer (some ⟨L.blk, L.base + i * L.sz + (o + off), none⟩), ?_, .ptr hL hi⟩
      simp only [Instr.fieldAt, Sem.run_bind, run_underlying hu, Result.andThen_ok, hf, Instr.sureAddr, Sem.run_pure, fieldPlace, run_sizeT hm]
      simp [Addr.add_lit, hoff, Nat.add_assoc]
  · cases he
theorem rowSz_loc {id sz : Nat} (H : RelH P B φ h w) (hs : rowSz h id sz = true) {g : Nat} {L : Loc} (hL : φ id g = some L) : L.sz = sz := by
  unfold rowSz at hs
  cases hr : h.row id with
  | none => rw [hr] at hs; cases hs
  | some r =>
    rw [hr] at hs
    have hrow : RelRow φ id r w := H.obj id _ (AHeap.row_some.1 hr)
    rw [(hrow.gen g L hL).2]
    exact nbeq_true.1 hs
theorem iadr_sound {x i v : AV} {cx ci : Value} {t e : TypeId} {sz : Nat} (hu : P.underlying t = some (.slice e)) (hs : sizeT P e = some sz) (H : RelH P B φ h w) (hx : RelV φ x cx) (hi : RelV φ i ci) (he : iadrA h sz x i = some v) :
    ∃ cv, (Instr.indexAt t cx ci).run P w = .ok cv w ∧ RelV φ v cv := by
  unfold iadrA at he
  split at he
  · rename_i id g s len cap ex
    cases hn : asNat i with
    | none => simp [hn] at he
    | some n =>
      rw [hn] at he
      simp only at he
      cases hc : (Nat.blt n len && rowSz h id sz) with
      | false => rw [hc] at he; cases he
      | true =>
        rw [hc, cond_true] at he; cases he
        simp only [Bool.and_eq_true, nblt_true] at hc
        obtain ⟨k, rfl⟩ := asNat_sound hi hn
        cases hx with
        | slc hL h1 h2 h3 h4 h5 h6 =>
          rename_i c off L
          have hsz := rowSz_loc H hc.2 hL
          have hoff := h6 (by omega)
          refine ⟨.pointer (some ⟨L.blk, L.base + (s + n) * L.sz + 0, none⟩), ?_, .ptr hL (by omega)⟩
          have hin : (0 : Int) ≤ (n : Int) ∧ (n : Int) < (len : Int) := ⟨by omega, by omega⟩
          simp only [Instr.indexAt, asIntOf, Sem.run_bind, Sem.run_pure, run_underlying hu, Result.andThen_ok, hin, and_self, if_true, run_sizeT hs, Int.toNat_natCast, Addr.add_lit, hoff, ← hsz, Nat.add_zero, Nat.add_mul, Nat.add_assoc]
  · cases he
theorem iadra_sound {x i v : AV} {cx ci : Value} {t e : TypeId} {n m : Nat} (hu : P.underlying t = some (.array n e)) (hs : sizeT P e = some m) (hx : RelV φ x cx) (hi : RelV φ i ci) (he : iadraA n m x i = some v) :
    ∃ cv, (Instr.indexAt t cx ci).run P w = .ok cv w ∧ RelV φ v cv := by
  unfold iadraA at he
  split at he
  · rename_i id g j o
    cases hn : asNat i with
    | none => simp [hn] at he
    | some k =>
      rw [hn] at he
      simp only at he
      cases hc : Nat.blt k n with
      | false => rw [hc] at he; cases he
      | true =>
        rw [hc, cond_true] at he; cases he
        obtain ⟨kd, rfl⟩ := asNat_sound hi hn
        cases hx with
        | ptr hL hlt =>
          rename_i L
          have hk := nblt_true.1 hc
          have hin : (0 : Int) ≤ (k : Int) ∧ (k : Int) < (n : Int) := ⟨by omega, by omega⟩
          refine ⟨.pointer (some ⟨L.blk, L.base + j * L.sz + (o + k * m), none⟩), ?_, .ptr hL hlt⟩
          simp only [Instr.indexAt, asIntOf, Sem.run_bind, Sem.run_pure, run_underlying hu, Result.andThen_ok, Instr.sureAddr, hin, and_self, if_true, run_sizeT hs, Int.toNat_natCast, Addr.add_lit, Nat.add_assoc]
  · cases he
theorem idxs_sound {x i v : AV} {cx ci : Value} {t : TypeId} (hu : P.underlying t = some .string) (hx : RelV φ x cx) (hi : RelV φ i ci) (he : idxsA x i = some v) :
    ∃ cv, (Instr.index t cx ci).run P w = .ok cv w ∧ RelV φ v cv := by
  unfold idxsA at he
  split at he
  · rename_i l
    cases hn : asNat i with
    | none => simp [hn] at he
    | some k =>
      rw [hn] at he
      simp only [nth_eq] at he
      cases hb : l[k]? with
      | none => simp [hb] at he
      | some b =>
        rw [hb] at he; cases he
        obtain ⟨kd, rfl⟩ := asNat_sound hi hn
        cases hx with
        | str hs =>
          rename_i s
          rw [← hs, List.getElem?_map] at hb
          cases hu8 : s.data.toList[k]? with
          | none => simp [hu8] at hb
          | some u =>
            rw [hu8] at hb; simp at hb; subst hb
            have hget : s[k]? = some u := by
              have hlt : k < s.size := by
                have := (List.getElem?_eq_some_iff.1 hu8).1
                simpa using this
              rw [getElem?_pos s k hlt]
              have : s.data.toList[k]? = some s[k] := by
                rw [List.getElem?_eq_getElem (by simpa using hlt)]
                rfl
              rw [hu8] at this
              exact this.symm ▸ rfl
            refine ⟨.int .u8 u.toNat, ?_, .int _ _⟩
            have h0 : (0 : Int) ≤ (k : Int) := by omega
            simp only [Instr.index, asIntOf, Sem.run_bind, Sem.run_pure, run_underlying hu, Result.andThen_ok, h0, if_true, Int.toNat_natCast, hget]
  · cases he
theorem idxa_sound {ag : Bool} {n m : Nat} {x i v : AV} {cx ci : Value} {t e : TypeId} (hu : P.underlying t = some (.array n e)) (hag : isAggT P e = some ag) (hs : sizeT P e = some m) (hx : RelV φ x cx) (hi : RelV φ i ci) (he : idxaA ag n m x i = some v) :
    ∃ cv, (Instr.index t cx ci).run P w = .ok cv w ∧ RelV φ v cv := by
  unfold idxaA at he
  split at he
  · rename_i l
    cases hn : asNat i with
    | none => simp [hn] at he
    | some k =>
      rw [hn] at he
      simp only at he
      cases hc : Nat.blt k n with
      | false => rw [hc] at he; cases he
      | true =>
        rw [hc, cond_true] at he
        obtain ⟨kd, rfl⟩ := asNat_sound hi hn
        cases hx with
        | agg hl =>
          rename_i cs
          have hk := nblt_true.1 hc
          have hin : (0 : Int) ≤ (k : Int) ∧ (k : Int) < (n : Int) := ⟨by omega, by omega⟩
          obtain ⟨cv, h1, h2⟩ := part_sound (w := w) hl he hag hs
          refine ⟨cv, ?_, h2⟩
          simp only [Instr.index, asIntOf, Sem.run_bind, Sem.run_pure, run_underlying hu, Result.andThen_ok, hin, and_self, if_true, run_sizeT hs, Int.toNat_natCast, h1]
  · cases he
theorem fld_sound {ag : Bool} {off n f : Nat} {x v : AV} {cx : Value} {t : TypeId} {fs : Array Field} {fl : Field} (hu : P.underlying t = some (.struct fs)) (hf : fs[f]? = some fl) (hoff : fl.offset = off) (hag : isAggT P fl.type = some ag)
    (hn : sizeT P fl.type = some n) (hx : RelV φ x cx) (he : fldA ag off n x = some v) : ∃ cv, (Instr.field t cx f).run P w = .ok cv w ∧ RelV φ v cv := by
  unfold fldA at he
  split at he
  · cases hx with
    | agg hl =>
      obtain ⟨cv, h1, h2⟩ := part_sound (w := w) hl he hag hn
      refine ⟨cv, ?_, h2⟩
      simp only [Instr.field, Sem.run_bind, run_underlying hu, Result.andThen_ok, hf, asAgg, Sem.run_pure, hoff, h1]
  · cases he
theorem ext_sound {i : Nat} {x v : AV} {cx : Value} (hx : RelV φ x cx) (he : extA i x = some v) : ∃ cv, (Instr.extract cx i).run P w = .ok cv w ∧ RelV φ v cv := by
  unfold extA at he
  split at he
  · cases hx with
    | tup hl =>
      rw [nth_eq] at he
      obtain ⟨cv, h1, h2⟩ := hl.get he
      have h3 : (⟨‹List Value›⟩ : Array Value)[i]? = some cv := by simpa using h1
      exact ⟨cv, by simp [Instr.extract, h3], h2⟩
  · cases he
theorem nilck_sound {x v : AV} {cx : Value} (hx : RelV φ x cx) (he : nilckA x = some v) : v = x ∧ cx ≠ .pointer none ∧ cx ≠ .nilFunc ∧ cx ≠ .nilIface ∧ (∀ m a b, cx ≠ .func (.method m) a b) := by
  unfold nilckA at he
  split at he
  · cases he
  · cases he
  · cases he
  · rename_i h1 h2 h3
    cases he
    refine ⟨rfl, ?_, ?_, ?_, ?_⟩
    · rintro rfl; cases hx; exact h1 rfl
    · rintro rfl; cases hx; exact h2 rfl
    · rintro rfl; cases hx; exact h3 rfl
    · rintro m a b rfl; cases hx
theorem conv_sound {k : IntKind} {x v : AV} {cx : Value} {s d : TypeId} {ks : IntKind} (hs : P.underlying s = some (.int ks)) (hd : P.underlying d = some (.int k)) (hx : RelV φ x cx) (he : convA k x = some v) :
    ∃ cv, (convert s d cx).run P w = .ok cv w ∧ RelV φ v cv := by
  unfold convA at he
  split at he
  · rename_i k0 n
    cases he
    cases hx
    exact ⟨.int k (k.wrap n), by simp [convert, Sem.run_bind, run_underlying hs, run_underlying hd, Conv.intToInt], by rw [wrapA_eq]; exact .int _ _⟩
  · cases he
theorem not_sound {x v : AV} {cx : Value} (hx : RelV φ x cx) (he : notA x = some v) : ∃ cv, (Op.unary .not cx).run P w = .ok cv w ∧ RelV φ v cv := by
  unfold notA at he
  split at he
  · cases he; cases hx; exact ⟨.bool _, by simp [Op.unary], .bool _⟩
  · cases he
theorem neg_sound {x v : AV} {cx : Value} (hx : RelV φ x cx) (he : negA x = some v) : ∃ cv, (Op.unary .neg cx).run P w = .ok cv w ∧ RelV φ v cv := by
  unfold negA at he
  split at he
  · cases he; cases hx; exact ⟨_, unops, by rw [wrapA_eq]; exact .int _ _⟩
  · cases he
theorem cap_sound {x v : AV} {cx : Value} {t ty : TypeId} {e : TypeId} (hu : P.underlying t = some (.slice e)) (hx : RelV φ x cx) (he : capA x = some v) : ∃ cv, (Builtin.cap_ #[t] ty #[cx]).run P w = .ok cv w ∧ RelV φ v cv := by
  unfold capA at he
  split at he
  · cases he; cases hx
    exact ⟨.int .i64 0, by simp [Builtin.cap_, Sem.run_bind, run_underlying hu, goInt], .int _ _⟩
  · cases he; cases hx
    exact ⟨.int .i64 0, by simp [Builtin.cap_, Sem.run_bind, run_underlying hu, goInt], .int _ _⟩
  · cases he
    cases hx with
    | slc hL h1 h2 h3 h4 h5 h6 =>
      have := h5 rfl; subst this
      exact ⟨.int .i64 _, by simp [Builtin.cap_, Sem.run_bind, run_underlying hu, goInt], .int _ _⟩
  · cases he
theorem optOf_sound {x : Option Operand} {y : Option Opd} (hx : optOf x = some y) : (x = none ∧ y = none) ∨ ∃ a b, x = some a ∧ y = some b ∧ opdOf a = some b := by
  cases x with
  | none => simp [optOf] at hx; subst hx; exact .inl ⟨rfl, rfl⟩
  | some a =>
    simp only [optOf] at hx
    cases ha : opdOf a with
    | none => simp [ha] at hx
    | some b => simp [ha] at hx; subst hx; exact .inr ⟨a, b, rfl, rfl, ha⟩
theorem evNat_sound (hR : RelR φ N ρ a.tmps) {x : Option Operand} {y : Option Opd} (hx : optOf x = some y) {d n : Nat} (he : evNat ρ d y = some n) :
    (x.map a.eval = none ∧ y = none ∧ n = d) ∨ ∃ k, x.map a.eval = some (.int k n) ∧ y.isSome = true := by
  rcases optOf_sound hx with ⟨rfl, rfl⟩ | ⟨p, q, rfl, rfl, hpq⟩
  · simp [evNat] at he; exact .inl ⟨rfl, rfl, he.symm⟩
  · simp only [evNat] at he
    cases hv : ev ρ q with
    | none => simp [hv] at he
    | some v =>
      rw [hv] at he
      obtain ⟨k, hk⟩ := asNat_sound (ev_opd hR hpq hv) he
      exact .inr ⟨k, by simp [hk], rfl⟩
theorem run_bound (k : IntKind) (n y : Nat) (code : BoundsCode) (hle : n ≤ y) : (Instr.sliceBound (.int k n) y code).run P w = .ok n w := by
  have : (0 : Int) ≤ (n : Int) ∧ (n : Int) ≤ (y : Int) := ⟨by omega, by omega⟩
  simp [Instr.sliceBound, asIntOf, this]
theorem run_bound0 (k : IntKind) (code : BoundsCode) : (Instr.sliceBound (.int k 0) 0 code).run P w = .ok 0 w := by
  simp [Instr.sliceBound, asIntOf]
theorem sliceS_sound {t : TypeId} (hR : RelR φ N ρ a.tmps) (hu : P.underlying t = some .string) {x v : AV} {cx : Value} (hx : RelV φ x cx) {lo hi : Option Operand} {lo' hi' : Option Opd} (hlo : optOf lo = some lo') (hhi : optOf hi = some hi')
    (he : sliceS ρ x lo' hi' = some v) : ∃ cv, (Instr.sliceAt t cx (lo.map a.eval) (hi.map a.eval) none).run P w = .ok cv w ∧ RelV φ v cv := by
  unfold sliceS at he
  split at he
  · rename_i l
    cases hx with
    | str hs =>
      rename_i s
      have hsz := str_size hs
      split at he
      · rename_i hn ln e1 e2
        cases hc : (Nat.ble ln hn && Nat.ble hn l.length) with
        | false => rw [hc] at he; cases he
        | true =>
          rw [hc, cond_true] at he; cases he
          simp only [Bool.and_eq_true, nble_true] at hc
          refine ⟨.string (s.extract ln hn), ?_, .str ?_⟩
          · have hb : (Instr.sliceBounds false s.size s.size (lo.map a.eval) (hi.map a.eval) none).run P w = .ok (ln, hn, s.size) w := by
              unfold Instr.sliceBounds
              rcases evNat_sound hR hhi e1 with ⟨a1, _, a2⟩ | ⟨k, a1, _⟩ <;> rcases evNat_sound hR hlo e2 with ⟨b1, _, b2⟩ | ⟨k', b1, _⟩
              · rw [a1, b1]; simp [a2, b2, hsz]
              · rw [a1, b1]; simp [a2, hsz, run_bound (P := P) (w := w) k' ln l.length .sliceB (by omega)]
              · rw [a1, b1]; simp [b2, hsz, run_bound (P := P) (w := w) k hn l.length .sliceAlen (by omega)]
              · rw [a1, b1]; simp [hsz, run_bound (P := P) (w := w) k hn l.length .sliceAlen (by omega), run_bound (P := P) (w := w) k' ln hn .sliceB (by omega)]
            simp only [Instr.sliceAt, Instr.slice, Sem.run_bind, run_underlying hu, Result.andThen_ok, Option.isSome_none, Bool.false_eq_true, if_false, hb, Sem.run_pure]
          · rw [← hs]
            simp [List.map_take, List.map_drop, ByteArray.data_extract, List.extract_eq_take_drop, List.drop_take]
      · cases he
  · cases he
theorem slice_sound {t e : TypeId} {sz : Nat} (hR : RelR φ N ρ a.tmps) (H : RelH P B φ h w) (hu : P.underlying t = some (.slice e)) (hsz : sizeT P e = some sz) {x v : AV} {cx : Value} (hx : RelV φ x cx)
    {lo hi mx : Option Operand} {lo' hi' mx' : Option Opd} (hlo : optOf lo = some lo') (hhi : optOf hi = some hi') (hmx : optOf mx = some mx')
    (he : sliceA ρ h sz x lo' hi' mx' = some v) : ∃ cv, (Instr.sliceAt t cx (lo.map a.eval) (hi.map a.eval) (mx.map a.eval)).run P w = .ok cv w ∧ RelV φ v cv := by
  have fin : ∀ (A : Option Addr) (len cap l hh m : Nat), (Instr.sliceBounds true len cap (lo.map a.eval) (hi.map a.eval) (mx.map a.eval)).run P w = .ok (l, hh, m) w →
      (Instr.sliceAt t (.slice A len cap) (lo.map a.eval) (hi.map a.eval) (mx.map a.eval)).run P w = .ok (.slice (if m = l then A else A.map (·.add (l * sz))) (hh - l) (m - l)) w := by
    intro A len cap l hh m hb
    simp only [Instr.sliceAt, Instr.slice, Sem.run_bind, run_underlying hu, Result.andThen_ok, hb, run_sizeT hsz, Sem.run_pure]
  unfold sliceA at he
  split at he
  · rename_i id g s len cap ex
    cases hrs : rowSz h id sz with
    | false => rw [hrs] at he; cases he
    | true =>
      rw [hrs, cond_true] at he
      cases hx with
      | slc hL h1 h2 h3 h4 h5 h6 =>
        rename_i c off L
        have hLs := rowSz_loc H hrs hL
        split at he
        · rename_i mo
          split at he
          · rename_i mn hn ln e0 e1 e2
            cases hc : (Nat.ble ln hn && Nat.ble hn mn && Nat.ble mn cap && hi'.isSome) with
            | false => rw [hc] at he; cases he
            | true =>
              rw [hc, cond_true] at he; cases he
              simp only [Bool.and_eq_true, nble_true] at hc
              obtain ⟨⟨⟨c1, c2⟩, c3⟩, c4⟩ := hc
              have hb : (Instr.sliceBounds true len c (lo.map a.eval) (hi.map a.eval) (mx.map a.eval)).run P w = .ok (ln, hn, mn) w := by
                unfold Instr.sliceBounds
                rcases evNat_sound hR hmx e0 with ⟨_, a2, _⟩ | ⟨km, m1, _⟩
                · cases a2
                rcases evNat_sound hR hhi e1 with ⟨_, a2, _⟩ | ⟨k, a1, _⟩
                · rw [a2] at c4; cases c4
                rcases evNat_sound hR hlo e2 with ⟨b1, _, b2⟩ | ⟨k', b1, _⟩
                · rw [m1, a1, b1]; simp [b2, run_bound (P := P) (w := w) km mn c .slice3Acap (by omega), run_bound (P := P) (w := w) k hn mn .slice3B (by omega)]
                · rw [m1, a1, b1]; simp [run_bound (P := P) (w := w) km mn c .slice3Acap (by omega), run_bound (P := P) (w := w) k hn mn .slice3B (by omega), run_bound (P := P) (w := w) k' ln hn .slice3C (by omega)]
              refine ⟨_, fin _ _ _ _ _ _ hb, ?_⟩
              by_cases hml : mn = ln
              · rw [if_pos hml]
                exact .slc hL (by omega) (by omega) (by omega) (Nat.le_refl _) (fun _ => rfl) (fun hpos => by omega)
              · rw [if_neg hml]
                simp only [Option.map_some, Addr.add_lit]
                exact .slc hL (by omega) (by omega) (by omega) (Nat.le_refl _) (fun _ => rfl) (fun hpos => by rw [h6 (by omega), hLs, Nat.add_mul, Nat.add_assoc])
          · cases he
        · split at he
          · rename_i hn ln e1 e2
            cases hc : (Nat.ble ln hn && Nat.ble hn cap) with
            | false => rw [hc] at he; cases he
            | true =>
              rw [hc, cond_true] at he; cases he
              simp only [Bool.and_eq_true, nble_true] at hc
              obtain ⟨c1, c2⟩ := hc
              have hmn : mx.map a.eval = none := by
                rcases optOf_sound hmx with ⟨rfl, _⟩ | ⟨_, _, _, e, _⟩
                · rfl
                · cases e
              have hb : (Instr.sliceBounds true len c (lo.map a.eval) (hi.map a.eval) (mx.map a.eval)).run P w = .ok (ln, hn, c) w := by
                unfold Instr.sliceBounds
                rw [hmn]
                rcases evNat_sound hR hhi e1 with ⟨a1, _, a2⟩ | ⟨k, a1, _⟩ <;> rcases evNat_sound hR hlo e2 with ⟨b1, _, b2⟩ | ⟨k', b1, _⟩
                · rw [a1, b1]; simp [a2, b2]
                · rw [a1, b1]; simp [a2, run_bound (P := P) (w := w) k' ln len .sliceB (by omega)]
                · rw [a1, b1]; simp [b2, run_bound (P := P) (w := w) k hn c .sliceAcap (by omega)]
                · rw [a1, b1]; simp [run_bound (P := P) (w := w) k hn c .sliceAcap (by omega), run_bound (P := P) (w := w) k' ln hn .sliceB (by omega)]
              refine ⟨_, fin _ _ _ _ _ _ hb, ?_⟩
              by_cases hml : c = ln
              · rw [if_pos hml]
                exact .slc hL (by omega) (by omega) (by omega) (by omega) (fun hx => by have := h5 hx; omega) (fun hpos => by omega)
              · rw [if_neg hml]
                simp only [Option.map_some, Addr.add_lit]
                exact .slc hL (by omega) (by omega) (by omega) (by omega) (fun hx => by have := h5 hx; omega) (fun hpos => by rw [h6 (by omega), hLs, Nat.add_mul, Nat.add_assoc])
          · cases he
  · cases hx
    split at he
    · rename_i e0 e1 e2
      cases hc : (mx'.isNone || hi'.isSome) with
      | false => rw [hc] at he; cases he
      | true =>
        rw [hc, cond_true] at he; cases he
        have hb : (Instr.sliceBounds true 0 0 (lo.map a.eval) (hi.map a.eval) (mx.map a.eval)).run P w = .ok (0, 0, 0) w := by
          unfold Instr.sliceBounds
          rcases evNat_sound hR hmx e0 with ⟨m1, _, _⟩ | ⟨km, m1, m2⟩ <;> rcases evNat_sound hR hhi e1 with ⟨a1, a2, _⟩ | ⟨k, a1, _⟩ <;> rcases evNat_sound hR hlo e2 with ⟨b1, _, b2⟩ | ⟨k', b1, _⟩
          · rw [m1, a1, b1]; simp
          · rw [m1, a1, b1]; simp [run_bound0 (P := P) (w := w) k' .sliceB]
          · rw [m1, a1, b1]; simp [run_bound0 (P := P) (w := w) k .sliceAcap]
          · rw [m1, a1, b1]; simp [run_bound0 (P := P) (w := w) k .sliceAcap, run_bound0 (P := P) (w := w) k' .sliceB]
          · exfalso; rw [a2] at hc; cases mx' <;> simp at hc m2
          · exfalso; rw [a2] at hc; cases mx' <;> simp at hc m2
          · rw [m1, a1, b1]; simp [run_bound0 (P := P) (w := w) km .slice3Acap, run_bound0 (P := P) (w := w) k .slice3B]
          · rw [m1, a1, b1]; simp [run_bound0 (P := P) (w := w) km .slice3Acap, run_bound0 (P := P) (w := w) k .slice3B, run_bound0 (P := P) (w := w) k' .slice3C]
        exact ⟨_, fin _ _ _ _ _ _ hb, by simpa using RelV.nilSlc⟩
    · cases he
  · cases hx
    rename_i A
    split at he
    · rename_i e0 e1 e2
      cases hc : (mx'.isNone || hi'.isSome) with
      | false => rw [hc] at he; cases he
      | true =>
        rw [hc, cond_true] at he; cases he
        have hb : (Instr.sliceBounds true 0 0 (lo.map a.eval) (hi.map a.eval) (mx.map a.eval)).run P w = .ok (0, 0, 0) w := by
          unfold Instr.sliceBounds
          rcases evNat_sound hR hmx e0 with ⟨m1, _, _⟩ | ⟨km, m1, m2⟩ <;> rcases evNat_sound hR hhi e1 with ⟨a1, a2, _⟩ | ⟨k, a1, _⟩ <;> rcases evNat_sound hR hlo e2 with ⟨b1, _, b2⟩ | ⟨k', b1, _⟩
          · rw [m1, a1, b1]; simp
          · rw [m1, a1, b1]; simp [run_bound0 (P := P) (w := w) k' .sliceB]
          · rw [m1, a1, b1]; simp [run_bound0 (P := P) (w := w) k .sliceAcap]
          · rw [m1, a1, b1]; simp [run_bound0 (P := P) (w := w) k .sliceAcap, run_bound0 (P := P) (w := w) k' .sliceB]
          · exfalso; rw [a2] at hc; cases mx' <;> simp at hc m2
          · exfalso; rw [a2] at hc; cases mx' <;> simp at hc m2
          · rw [m1, a1, b1]; simp [run_bound0 (P := P) (w := w) km .slice3Acap, run_bound0 (P := P) (w := w) k .slice3B]
          · rw [m1, a1, b1]; simp [run_bound0 (P := P) (w := w) km .slice3Acap, run_bound0 (P := P) (w := w) k .slice3B, run_bound0 (P := P) (w := w) k' .slice3C]
        exact ⟨_, fin _ _ _ _ _ _ hb, by simpa using RelV.emp⟩
    · cases he
  · cases he
theorem mm_sound {mx : Bool} : ∀ {l : List AV} {x v : AV} {cx : Value} {m : List Value}, RelV φ x cx → RelVs φ l m → mmA mx x l = some v →
    ∃ cv, (m.foldlM (if mx then Builtin.max2 else Builtin.min2) cx).run P w = .ok cv w ∧ RelV φ v cv
  | [], x, v, cx, m, hx, hl, he => by
    cases hl
    cases x <;> simp [mmA] at he
    subst he
    exact ⟨cx, by simp, hx⟩
  | y :: l, x, v, cx, m, hx, hl, he => by
    cases hl with
    | cons hy ht =>
      cases x <;> cases y <;> simp only [mmA] at he <;> try (cases he; done)
      rename_i k a j b
      cases hk : Nat.beq (kidx k) (kidx j) with
      | false => rw [hk] at he; cases he
      | true =>
        rw [hk, cond_true] at he
        have := kidx_inj (nbeq_true.1 hk); subst this
        cases hx; cases hy
        obtain ⟨cv, h1, h2⟩ := mm_sound (.int _ _) ht he
        refine ⟨cv, ?_, h2⟩
        cases mx with
        | true =>
          simp only [if_true, List.foldlM_cons, Sem.run_bind, Builtin.max2, Sem.run_pure, Result.andThen_ok] at h1 ⊢
          rw [← h1]
          congr 3
          rw [cond_true, iltb_eq]
          by_cases hab : a < b <;> simp [hab]
        | false =>
          simp only [Bool.false_eq_true, if_false, List.foldlM_cons, Sem.run_bind, Builtin.min2, Sem.run_pure, Result.andThen_ok] at h1 ⊢
          rw [← h1]
          congr 3
          rw [cond_false, iltb_eq]
          by_cases hab : b < a <;> simp [hab]
end
end Go.Ab
namespace Go.Ab
set_option linter.unusedSimpArgs false
set_option linter.unusedVariables false
section
variable {P : Program} {B : Base} {φ : Phi} {h h' : AHeap} {w : World} {v : AV}
structure SrcAt (φ : Phi) (w : World) (sz : Nat) (l : List (List AV)) (cx : Value) : Prop where
  es : ∀ e ∈ l, e.length = sz
  leaf : ∀ e ∈ l, allLeaf e = true
  len : ∀ (P : Program) (w' : World), (Builtin.lenOf cx).run P w' = .ok l.length w'
  first : ∀ n, n ≤ l.length → ∃ nv : List Value, RelVs φ (l.take n).flatten nv ∧ ∀ (P : Program) (w' : World), w'.heap = w.heap → (Builtin.firstCells sz n cx).run P w' = .ok nv.toArray w'
theorem bytes_rel (φ : Phi) : ∀ (bs : List UInt8), RelVs φ ((bs.map UInt8.toNat).map fun b => AV.int .u8 (.ofNat b)) (bs.map fun b => Value.int .u8 b.toNat)
  | [] => .nil
  | b :: bs => .cons (.int _ _) (bytes_rel φ bs)
theorem flatten_single {α : Type} : ∀ (l : List α), (l.map fun x => [x]).flatten = l
  | [] => rfl
  | x :: l => by simp only [List.map_cons, List.flatten_cons, flatten_single l]; rfl
theorem source_sound {sz : Nat} {x : AV} {cx : Value} {l : List (List AV)} (H : RelH P B φ h w) (hx : RelV φ x cx) (hs : source h sz x = some l) : SrcAt φ w sz l cx := by
  unfold source at hs
  split at hs
  · cases hs; cases hx
    refine ⟨by simp, by simp, fun P w' => by simp [Builtin.lenOf], fun n hn => ⟨[], by simp; exact .nil, fun P w' _ => by simp [Builtin.firstCells]⟩⟩
  · cases hs; cases hx
    refine ⟨by simp, by simp, fun P w' => by simp [Builtin.lenOf], fun n hn => ⟨[], by simp; exact .nil, fun P w' _ => ?_⟩⟩
    have : n = 0 := by simpa using hn
    subst this
    simp [Builtin.firstCells, loadCells, loadCellsFrom]
  · rename_i id g s len cap ex
    cases hx with
    | slc hL h1 h2 h3 h4 h5 h6 =>
      rename_i c off L
      cases h0 : Nat.beq len 0 with
      | true =>
        rw [h0, cond_true] at hs; cases hs
        have := nbeq_true.1 h0; subst this
        refine ⟨by simp, by simp, fun P w' => by simp [Builtin.lenOf], fun n hn => ⟨[], by simp; exact .nil, fun P w' _ => ?_⟩⟩
        have : n = 0 := by simpa using hn
        subst this
        simp [Builtin.firstCells, loadCells, loadCellsFrom]
      | false =>
        rw [h0, cond_false] at hs
        have hpos := nbeq_false.1 h0
        split at hs
        · rename_i r hrow
          cases hc : (Nat.ble r.m g && Nat.beq r.sz sz) with
          | false => rw [hc] at hs; cases hs
          | true =>
            rw [hc, cond_true] at hs
            simp only [Bool.and_eq_true, nble_true, nbeq_true] at hc
            obtain ⟨c1, c2⟩ := hc
            have hr : RelRow φ id r w := H.obj id _ (AHeap.row_some.1 hrow)
            cases hl : Nat.beq ((r.es.drop s).take len).length len with
            | false => simp only [hl] at hs; cases hs
            | true =>
              simp only [hl, cond_true] at hs; cases hs
              have hl := nbeq_true.1 hl
              have hsz : L.sz = r.sz := (hr.gen g L hL).2
              refine ⟨fun e he => by rw [← c2]; exact hr.es e (List.mem_of_mem_drop (List.mem_of_mem_take he)), fun e he => hr.leaf e (List.mem_of_mem_drop (List.mem_of_mem_take he)), fun P w' => by simp only [Builtin.lenOf, Sem.run_pure, hl], fun n hn => ?_⟩
              rw [hl] at hn
              have hfit : s * r.sz + n * r.sz ≤ L.ext * r.sz := by
                rw [← Nat.add_mul]; exact Nat.mul_le_mul_right _ (by omega)
              obtain ⟨vs, v1, v2, v3⟩ := row_flat hr hL c1 hfit
              have hfl : (((r.es.drop s).take len).take n).flatten = (r.es.flatten.drop (s * r.sz)).take (n * r.sz) := by
                rw [List.take_take, Nat.min_eq_left hn, fl_take (fun e he => hr.es e (List.mem_of_mem_drop he)), fl_drop hr.es]
              refine ⟨vs, by rw [hfl]; exact v1, fun P w' hw' => ?_⟩
              refine run_firstCells_some (P := P) w' sz n _ _ _ vs (by rw [v2, c2]) (fun j u hj => ?_)
              have ec : ∀ A, w'.cell? A = w.cell? A := fun A => by simp [World.cell?, hw']
              rw [ec, h6 (by omega), hsz]
              exact v3 j u hj
        · cases hs
  · rename_i s
    cases hx with
    | str hb =>
      rename_i bs
      cases hc : Nat.beq sz 1 with
      | false => rw [hc] at hs; cases hs
      | true =>
        rw [hc, cond_true] at hs; cases hs
        have := nbeq_true.1 hc; subst this
        have hsz := str_size hb
        refine ⟨by intro e he; simp at he; obtain ⟨b, _, rfl⟩ := he; rfl, by intro e he; simp at he; obtain ⟨b, _, rfl⟩ := he; rfl, fun P w' => by simp [Builtin.lenOf, hsz], fun n hn => ?_⟩
        simp only [List.length_map] at hn
        refine ⟨(bs.data.toList.take n).map fun b => Value.int .u8 b.toNat, ?_, fun P w' _ => ?_⟩
        · have e1 : ((s.map fun b => [AV.int .u8 (.ofNat b)]).take n).flatten = (((bs.data.toList.take n).map UInt8.toNat).map fun b => AV.int .u8 (.ofNat b)) := by
            rw [← List.map_take, ← hb, ← List.map_take]
            rw [show (fun b : Nat => [AV.int .u8 (.ofNat b)]) = (fun x => [x]) ∘ (fun b : Nat => AV.int .u8 (.ofNat b)) from rfl, ← List.map_map, flatten_single]
          rw [e1]
          exact bytes_rel φ _
        · simp only [Builtin.firstCells, Sem.run_pure]
          congr 1
          apply Array.ext'
          simp [ByteArray.data_extract, List.extract_eq_take_drop]
  · cases hs
theorem zeroCells_eq {z : List Value} (hz : 0 < z.length) (n : Nat) : Builtin.zeroCells z.toArray n = (List.replicate n z).flatten.toArray := by
  apply Array.ext'
  have := mod_replicate z hz n
  simp only [Builtin.zeroCells, Array.toList_map, Array.toList_range, List.size_toArray]
  exact this
def AppRoom (P : Program) (w : World) (t1 t2 ty : TypeId) (base : Option Addr) (sLen sCap m : Nat) (sz : Nat) (nv : List Value) (cx : Value) : Prop :=
  sLen + m ≤ sCap → ∀ A, base = some A → ∀ w', (storeCells (A.add (sLen * sz)) nv).run P w = .ok () w' → (Builtin.append_ #[t1, t2] ty #[.slice base sLen sCap, cx]).run P w = .ok (.slice base (sLen + m) sCap) w'
def AppGrow (P : Program) (w : World) (t1 t2 ty e : TypeId) (base : Option Addr) (sLen sCap m : Nat) (sz : Nat) (zc : Array Value) (nv : List Value) (cx : Value) : Prop :=
  sCap < sLen + m → ∀ ov : List Value, (∀ w' : World, w'.heap = w.heap → (Builtin.firstCells sz sLen (.slice base sLen sCap)).run P w' = .ok ov.toArray w') →
    (Builtin.append_ #[t1, t2] ty #[.slice base sLen sCap, cx]).run P w =
      .ok (.slice (some ⟨w.heap.size, 0, none⟩) (sLen + m) (grownCap w (sLen + m) sCap e)) (w.drew.alloc (.cells (ov ++ nv ++ (Builtin.zeroCells zc (grownCap w (sLen + m) sCap e - (sLen + m))).toList).toArray e))
theorem app_room {t1 t2 ty e : TypeId} (hu : P.underlying t1 = some (.slice e)) {sz : Nat} (hsz : sizeT P e = some sz) {d2 : TypeDesc} (hu2 : P.underlying t2 = some d2) (hni : ∀ k, d2 ≠ .int k)
    {cx : Value} {m : Nat} (hlen : ∀ w' : World, (Builtin.lenOf cx).run P w' = .ok m w') {nv : List Value} (hfirst : (Builtin.firstCells sz m cx).run P w = .ok nv.toArray w) (base : Option Addr) (sLen sCap : Nat) :
    AppRoom P w t1 t2 ty base sLen sCap m sz nv cx := by
  intro hroom A hA w' hst
  subst hA
  have hz : (d2 matches .int _) = false := by cases d2 <;> first | rfl | exact absurd rfl (hni _)
  simp only [Builtin.append_, List.getElem?_toArray, List.getElem?_cons_zero, List.getElem?_cons_succ, Sem.run_bind, run_underlying hu, run_underlying hu2, Result.andThen_ok, run_sizeT hsz, Sem.run_pure, hz, Bool.false_eq_true, if_false, hlen, hroom, if_true, Bool.not_false, hfirst, hst]
theorem app_grow {t1 t2 ty e : TypeId} (hu : P.underlying t1 = some (.slice e)) {sz : Nat} (hsz : sizeT P e = some sz) {d2 : TypeDesc} (hu2 : P.underlying t2 = some d2) (hni : ∀ k, d2 ≠ .int k)
    {i : TypeInfo} (hi : P.info? e = some i) {zv : Value} (hz0 : i.zero = some zv) {bytes : Nat} (hby : i.bytes = bytes)
    {cx : Value} {m : Nat} (hlen : ∀ w' : World, (Builtin.lenOf cx).run P w' = .ok m w') {nv : List Value} (hfirst : ∀ w' : World, w'.heap = w.heap → (Builtin.firstCells sz m cx).run P w' = .ok nv.toArray w') (base : Option Addr) (sLen sCap : Nat)
    (hmost : (sLen + m) * bytes ≤ most) (hmost2 : sLen + m ≤ most) :
    AppGrow P w t1 t2 ty e base sLen sCap m sz zv.cells nv cx := by
  intro hgrow ov hov
  have hz : (d2 matches .int _) = false := by cases d2 <;> first | rfl | exact absurd rfl (hni _)
  unfold most at hmost hmost2
  have hns : ¬ (sLen + m ≤ sCap) := by omega
  have h63 : ¬ ((((sLen + m : Nat) : Int) > IntKind.i64.max) ∧ (False ∨ i.bytes = 0)) := by
    rintro ⟨h1, _⟩
    have : IntKind.i64.max = 9223372036854775807 := by rfl
    rw [this] at h1
    omega
  have h48 : ¬ (Builtin.nextslicecap (sLen + m) sCap * i.bytes > 2 ^ 48) := by
    have := growslice_fits (bytes := i.bytes) hgrow (by rw [hby]; omega)
    omega
  have hti : ∀ w' : World, (typeInfo e).run P w' = .ok i w' := fun w' => by simp [typeInfo, hi]
  have hzv : ∀ w' : World, (zeroValue e).run P w' = .ok zv w' := fun w' => by simp [zeroValue, typeInfo, hi, hz0]
  simp only [Builtin.append_, List.getElem?_toArray, List.getElem?_cons_zero, List.getElem?_cons_succ, Sem.run_bind, run_underlying hu, run_underlying hu2, Result.andThen_ok, run_sizeT hsz, Sem.run_pure, hz, Bool.false_eq_true, if_false, hlen, hns,
    hti, Bool.not_false, if_true, h63, h48]
  have hq : (Question.appendCap (sLen + m) sCap e).forced = false := rfl
  simp only [choose, Sem.run, hq, Bool.false_eq_true, if_false, Result.andThen_ok, hti, run_askRoom]
  simp only [World.drew_eq, hov w.drew rfl, Result.andThen_ok, hfirst w.drew rfl, hzv]
  simp only [Go.newRow, Sem.run_bind, run_newObj, Result.andThen_ok, Sem.run_pure]
  congr 1
  show World.alloc _ _ = World.alloc _ _
  congr 2
  apply Array.ext'
  simp [grownCap, List.append_assoc]
theorem grown_ge (w : World) (need old : Nat) (e : TypeId) : need ≤ grownCap w need old e := by
  simp [grownCap, Question.cut]
theorem row_grow {H : RelH P B φ h w} {id : Nat} {r : Row} (hget : h.get id = some (.row r)) (hrw : r.rw = true) {es' : List (List AV)} (hes : ∀ e ∈ es', e.length = r.sz) (hlf : ∀ e ∈ es', allLeaf e = true) {m' : Nat} (hm' : m' ≤ r.g + 1)
    {w' : World} {L : Loc} (hL : L.sz = r.sz ∧ L.ext = es'.length ∧ L.base = 0) (hblk : (L.blk = w.heap.size ∧ L.blk < w'.heap.size) ∨ ∃ g0 L0, φ id g0 = some L0 ∧ L0.blk = L.blk)
    (hsz : w.heap.size ≤ w'.heap.size) (hkeep : ∀ k, k < w.heap.size → (∀ g K, φ id g = some K → K.blk ≠ k) → w'.heap[k]? = w.heap[k]?) (hkind : NoDef w w')
    (hnew : ∃ vals, RelVs φ es'.flatten vals ∧ ∀ (j : Nat) (u : Value), vals[j]? = some u → w'.cell? ⟨L.blk, j, none⟩ = some u)
    (hcells : ∃ c t, w'.heap[L.blk]? = some (.cells c t (0, 0)) ∧ c.size = L.tot * L.sz ∧ L.ext ≤ L.tot)
    (hold : ∀ g K, m' ≤ g → φ id g = some K → K.ext ≤ es'.length ∧ (∃ vals, RelVs φ (es'.take K.ext).flatten vals ∧ ∀ (j : Nat) (u : Value), vals[j]? = some u → w'.cell? ⟨K.blk, K.base + j, none⟩ = some u) ∧
      K.base = 0 ∧ ∃ c t, w'.heap[K.blk]? = some (.cells c t (0, 0)) ∧ c.size = K.tot * K.sz ∧ K.ext ≤ K.tot)
    {ty' : Option Nat} (hty : ∀ u, ty' = some u → (∃ c f, w'.heap[L.blk]? = some (.cells c u f)) ∧ ∀ g K, m' ≤ g → φ id g = some K → ∃ c f, w'.heap[K.blk]? = some (.cells c u f)) (hdm : ∃ g L, φ id g = some L := by exact ⟨_, _, by assumption⟩) :
    φ.le (φ.add id (r.g + 1) L) ∧ RelH P B (φ.add id (r.g + 1) L) (h.put id (.row { r with es := es', g := r.g + 1, m := m', ty := ty' })) w' := by
  have hrow : RelRow φ id r w := H.obj id _ hget hdm
  obtain ⟨g0, L0, hL0⟩ := hdm
  have hnone : φ id (r.g + 1) = none := by
    cases e : φ id (r.g + 1) with
    | none => rfl
    | some K => have := (hrow.gen _ K e).1; omega
  have hle := Phi.le_add (φ := φ) L hnone
  refine ⟨hle, ?_⟩
  have hkey : ∀ g K, φ.add id (r.g + 1) L id g = some K → (g = r.g + 1 ∧ K = L) ∨ φ id g = some K := by
    intro g K e
    by_cases hg : g = r.g + 1
    · subst hg; rw [Phi.add_same] at e; cases e; exact .inl ⟨rfl, rfl⟩
    · rw [Phi.add_other _ _ (by omega)] at e; exact .inr e
  refine H.update hget hrw hrw hle (fun a g ha => Phi.add_other _ _ (by omega)) ?_ hsz hkeep hkind ?_
  · intro g K e
    rcases hkey g K e with ⟨_, rfl⟩ | h1
    · exact .inr hblk
    · exact .inl h1
  · refine ⟨hm', hrow.sz, hes, hlf, ⟨L, Phi.add_same _ _ _ _, hL.2.1⟩, fun g K e => ?_, fun g K hm e => ?_, fun _ g K hm e => ?_, fun u hu _ g K hm e => ?_⟩
    · rcases hkey g K e with ⟨rfl, rfl⟩ | h1
      · exact ⟨Nat.le_refl _, hL.1⟩
      · exact ⟨Nat.le_succ_of_le (hrow.gen g K h1).1, (hrow.gen g K h1).2⟩
    · rcases hkey g K e with ⟨rfl, rfl⟩ | h1
      · obtain ⟨vals, a, b⟩ := hnew
        refine ⟨by rw [hL.2.1]; exact Nat.le_refl _, vals, ?_, fun j u hj => ?_⟩
        · rw [hL.2.1, List.take_of_length_le (Nat.le_refl _)]; exact a.mono hle
        · rw [hL.2.2, Nat.zero_add]; exact b j u hj
      · obtain ⟨a, ⟨vals, b, c⟩, _⟩ := hold g K hm h1
        exact ⟨a, vals, b.mono hle, c⟩
    · rcases hkey g K e with ⟨rfl, rfl⟩ | h1
      · exact ⟨hL.2.2, hcells⟩
      · exact (hold g K hm h1).2.2
    · rcases hkey g K e with ⟨rfl, rfl⟩ | h1
      · exact (hty u hu).1
      · exact (hty u hu).2 g K hm h1
theorem tyJoin_some {a b : Option Nat} {u : Nat} (h : tyJoin a b = some u) : a = some u ∧ b = some u := by
  unfold tyJoin at h
  split at h
  · rename_i x y
    cases hb : Nat.beq x y with
    | false => rw [hb] at h; cases h
    | true =>
      rw [hb] at h; cases h
      have := nbeq_true.1 hb
      subst this
      exact ⟨rfl, rfl⟩
  · cases h
theorem firstCells_row {id g st len cap c off : Nat} {r : Row} {L : Loc} {sz : Nat} (hr : RelRow φ id r w) (hL : φ id g = some L) (hm : r.m ≤ g) (hsz : r.sz = sz) (h1 : len ≤ cap) (h2 : st + cap ≤ L.ext) (h4 : cap ≤ c) (h6 : 0 < c → off = L.base + st * L.sz) :
    ∃ ov : List Value, RelVs φ ((r.es.drop st).take len).flatten ov ∧ ov.length = len * sz ∧ ∀ w' : World, w'.heap = w.heap → (Builtin.firstCells sz len (.slice (some ⟨L.blk, off, none⟩) len c)).run P w' = .ok ov.toArray w' := by
  have hLs : L.sz = r.sz := (hr.gen g L hL).2
  have hfit : st * r.sz + len * r.sz ≤ L.ext * r.sz := by rw [← Nat.add_mul]; exact Nat.mul_le_mul_right _ (by omega)
  obtain ⟨vs, v1, v2, v3⟩ := row_flat hr hL hm hfit
  refine ⟨vs, ?_, by rw [v2, hsz], fun w' hw' => ?_⟩
  · rw [fl_take (fun e he => hr.es e (List.mem_of_mem_drop he)), fl_drop hr.es]; exact v1
  · refine run_firstCells_some (P := P) w' sz len _ _ _ vs (by rw [v2, hsz]) (fun j u hj => ?_)
    have ec : ∀ A, w'.cell? A = w.cell? A := fun A => by simp [World.cell?, hw']
    have hjl := (List.getElem?_eq_some_iff.1 hj).1
    have hlen : 0 < len := by
      rcases Nat.eq_zero_or_pos len with h0 | h0
      · rw [h0, Nat.zero_mul] at v2; omega
      · exact h0
    rw [ec, h6 (by omega), hLs]
    exact v3 j u hj
theorem append_new {sz bytes : Nat} {s : AV} {cs cx : Value} {new : List (List AV)} {nv : List Value} {t1 t2 ty e : TypeId} {zc : Array Value} (H : RelH P B φ h w) (hs : RelV φ s cs) (hsz : 0 < sz) (hzc : zc.size = sz)
    (hne : ∀ x ∈ new, x.length = sz) (hnl : ∀ x ∈ new, allLeaf x = true) (hnv : RelVs φ new.flatten nv)
    (hroom : ∀ base sLen sCap, AppRoom P w t1 t2 ty base sLen sCap new.length sz nv cx)
    (hgrow : ∀ base sLen sCap, (sLen + new.length) * bytes ≤ most → sLen + new.length ≤ most → AppGrow P w t1 t2 ty e base sLen sCap new.length sz zc nv cx)
    (hnil : new.length = 0 → (Builtin.append_ #[t1, t2] ty #[.slice none 0 0, cx]).run P w = .ok (.slice none 0 0) w)
    {nt : Option Nat} (hnt : ∀ u, nt = some u → u = e) (he : appendNew h sz bytes s new nt = some (v, h')) : SimV P B φ h' v w ((Builtin.append_ #[t1, t2] ty #[cs, cx]).run P w) := by
  have hnvl : nv.length = new.length * sz := by rw [← hnv.length, fl_len hne]
  have hflat : allLeaf new.flatten = true := allLeaf_flatten hnl
  have hzl : ∀ n, (Builtin.zeroCells zc n).toList.length = n * sz := fun n => by simp [Builtin.zeroCells, hzc]
  unfold appendNew at he
  split at he
  · cases hs
    split at he
    · cases he
      exact SimV.pure H (hnil rfl) .nilSlc
    · rename_i hnn
      cases hc : (Nat.ble (new.length * bytes) most && Nat.ble new.length most) with
      | false => rw [hc] at he; cases he
      | true =>
        rw [hc, cond_true] at he; cases he
        simp only [Bool.and_eq_true, nble_true] at hc
        have hpos : 0 < new.length := List.length_pos_iff.2 hnn
        have hrun := hgrow none 0 0 (by simpa using hc.1) (by simpa using hc.2) (by omega) [] (fun w' _ => by simp [Builtin.firstCells])
        simp only [Nat.zero_add, List.nil_append] at hrun
        have hge := grown_ge w new.length 0 e
        obtain ⟨φ', p1, p2, p3, p4⟩ := row_newT H.drew hsz hne hnl (vals := nv) (spare := (Builtin.zeroCells zc (grownCap w new.length 0 e - new.length)).toList) hnv (tot := grownCap w new.length 0 e)
          (by rw [hzl, hnvl, ← Nat.add_mul]; congr 1; omega) e nt hnt
        refine ⟨_, _, φ', hrun, ?_, p3, p1, (Gw.drew B w).trans p4⟩
        exact .slc p2 (Nat.le_refl _) (by simp only; omega) (by simp only; omega) hge (fun e => by cases e) (fun _ => by simp)
  · cases hs
    rename_i A
    split at he
    · cases he
      have hnv0 : nv = [] := List.length_eq_zero_iff.1 (by simpa using hnvl)
      subst hnv0
      have hrun := hroom (some A) 0 0 (by simp) _ rfl w (by simp [storeCells])
      exact ⟨_, w, φ, hrun, .emp, H, φ.le_refl, Gw.refl B w⟩
    · rename_i hnn
      cases hc : (Nat.ble (new.length * bytes) most && Nat.ble new.length most) with
      | false => rw [hc] at he; cases he
      | true =>
        rw [hc, cond_true] at he; cases he
        simp only [Bool.and_eq_true, nble_true] at hc
        have hpos : 0 < new.length := List.length_pos_iff.2 hnn
        have hrun := hgrow (some A) 0 0 (by simpa using hc.1) (by simpa using hc.2) (by omega) [] (fun w' _ => by simp [Builtin.firstCells, loadCells, loadCellsFrom])
        simp only [Nat.zero_add, List.nil_append] at hrun
        have hge := grown_ge w new.length 0 e
        obtain ⟨φ', p1, p2, p3, p4⟩ := row_newT H.drew hsz hne hnl (vals := nv) (spare := (Builtin.zeroCells zc (grownCap w new.length 0 e - new.length)).toList) hnv (tot := grownCap w new.length 0 e)
          (by rw [hzl, hnvl, ← Nat.add_mul]; congr 1; omega) e nt hnt
        refine ⟨_, _, φ', hrun, ?_, p3, p1, (Gw.drew B w).trans p4⟩
        exact .slc p2 (Nat.le_refl _) (by simp only; omega) (by simp only; omega) hge (fun e => by cases e) (fun _ => by simp)
  · rename_i id g st len cap ex
    cases hs with
    | slc hL h1 h2 h3 h4 h5 h6 =>
      rename_i c off L
      split at he
      · cases he
        have hnv0 : nv = [] := List.length_eq_zero_iff.1 (by simpa using hnvl)
        subst hnv0
        have hrun := hroom (some ⟨L.blk, off, none⟩) len c (by simp; omega) _ rfl w (by simp [storeCells])
        exact ⟨_, w, φ, hrun, .slc hL h1 h2 h3 h4 h5 h6, H, φ.le_refl, Gw.refl B w⟩
      · rename_i hnn
        have hpos : 0 < new.length := List.length_pos_iff.2 hnn
        split at he
        · cases he
        · rename_i r hget
          have hrow := AHeap.row_some.1 hget
          have hr : RelRow φ id r w := H.obj id _ hrow
          cases hc : (Nat.ble ((len + new.length) * bytes) most && Nat.ble (len + new.length) most && Nat.beq r.sz sz) with
          | false => rw [hc] at he; cases he
          | true =>
            rw [hc, cond_true] at he
            simp only [Bool.and_eq_true, nble_true, nbeq_true] at hc
            obtain ⟨⟨c1, c2⟩, c3⟩ := hc
            have hLs : L.sz = sz := by rw [(hr.gen g L hL).2, c3]
            cases hin : Nat.ble (len + new.length) cap with
            | true =>
              rw [hin, cond_true] at he
              have hin := nble_true.1 hin
              cases hcc : (r.rw && Nat.beq g r.g) with
              | false => rw [hcc] at he; cases he
              | true =>
                rw [hcc, cond_true] at he; cases he
                simp only [Bool.and_eq_true, nbeq_true] at hcc
                obtain ⟨hrw, rfl⟩ := hcc
                obtain ⟨L', hL', hext⟩ := hr.cur
                rw [hL] at hL'; cases hL'
                have hfl : new.flatten.length = new.length * sz := fl_len hne
                have hfit : (st + len) * r.sz + new.flatten.length ≤ r.es.length * r.sz := by
                  rw [hfl, c3, ← Nat.add_mul]; exact Nat.mul_le_mul_right _ (by omega)
                obtain ⟨w', s1, s2, s3⟩ := row_store H hrow hrw hL hnv hflat hfit (es' := lay r.es (st + len) new)
                  (by
                    intro x hx
                    unfold lay at hx
                    rcases List.mem_append.1 hx with hx | hx
                    · rcases List.mem_append.1 hx with hx | hx
                      · exact hr.es x (List.mem_of_mem_take hx)
                      · rw [c3]; exact hne x hx
                    · exact hr.es x (List.mem_of_mem_drop hx))
                  (lay_length _ _ _ (by omega)) (by rw [c3]; exact fl_lay (by rw [← c3]; exact hr.es) hne _)
                  (by
                    intro x hx
                    unfold lay at hx
                    rcases List.mem_append.1 hx with hx | hx
                    · rcases List.mem_append.1 hx with hx | hx
                      · exact hr.leaf x (List.mem_of_mem_take hx)
                      · exact hnl x hx
                    · exact hr.leaf x (List.mem_of_mem_drop hx))
                have hA : (⟨L.blk, off, none⟩ : Addr).add (len * sz) = ⟨L.blk, L.base + (st + len) * r.sz, none⟩ := by
                  rw [Addr.add_lit, h6 (by omega), hLs, c3, Nat.add_mul, Nat.add_assoc]
                have hrun := hroom (some ⟨L.blk, off, none⟩) len c (by omega) _ rfl w' (by rw [hA]; exact s1)
                exact ⟨_, w', φ, hrun, .slc hL (by omega) h2 h3 h4 h5 h6, s2, φ.le_refl, s3⟩
            | false =>
              rw [hin, cond_false] at he
              have hin : ¬ len + new.length ≤ cap := fun h => by rw [nble_true.2 h] at hin; cases hin
              cases ex with
              | true =>
                rw [cond_true] at he
                have hcc := h5 rfl
                subst hcc
                cases hm : Nat.ble r.m g with
                | false => rw [hm] at he; cases he
                | true =>
                  rw [hm, cond_true] at he
                  have hm := nble_true.1 hm
                  cases hl : Nat.beq ((r.es.drop st).take len).length len with
                  | false => simp only [hl] at he; cases he
                  | true =>
                    simp only [hl, cond_true] at he; cases he
                    have hl := nbeq_true.1 hl
                    obtain ⟨ov, o1, o2, o3⟩ := firstCells_row (P := P) hr hL hm c3 h1 h2 h4 h6
                    have hrun := hgrow (some ⟨L.blk, off, none⟩) len c c1 c2 (by omega) ov o3
                    have hge := grown_ge w (len + new.length) c e
                    have hes' : ∀ x ∈ (r.es.drop st).take len ++ new, x.length = sz := by
                      intro x hx
                      rcases List.mem_append.1 hx with hx | hx
                      · rw [← c3]; exact hr.es x (List.mem_of_mem_drop (List.mem_of_mem_take hx))
                      · exact hne x hx
                    have hlf' : ∀ x ∈ (r.es.drop st).take len ++ new, allLeaf x = true := by
                      intro x hx
                      rcases List.mem_append.1 hx with hx | hx
                      · exact hr.leaf x (List.mem_of_mem_drop (List.mem_of_mem_take hx))
                      · exact hnl x hx
                    obtain ⟨φ', p1, p2, p3, p4⟩ := row_newT H.drew hsz hes' hlf' (vals := ov ++ nv) (spare := (Builtin.zeroCells zc (grownCap w (len + new.length) c e - (len + new.length))).toList)
                      (by rw [List.flatten_append]; exact o1.append hnv) (tot := grownCap w (len + new.length) c e)
                      (by rw [hzl, List.length_append, hnvl, o2, ← Nat.add_mul, ← Nat.add_mul]; congr 1; omega) e nt hnt
                    refine ⟨_, _, φ', hrun, ?_, p3, p1, (Gw.drew B w).trans p4⟩
                    exact .slc p2 (Nat.le_refl _) (by simp only [List.length_append, hl]; omega) (by simp only; omega) hge (fun e => by cases e) (fun _ => by simp)
              | false =>
                rw [cond_false] at he
                cases hcc : (r.rw && Nat.beq g r.g && Nat.beq st 0) with
                | false => rw [hcc] at he; cases he
                | true =>
                  rw [hcc, cond_true] at he
                  simp only [Bool.and_eq_true, nbeq_true] at hcc
                  obtain ⟨⟨hrw, rfl⟩, rfl⟩ := hcc
                  obtain ⟨L', hL', hext⟩ := hr.cur
                  rw [hL] at hL'; cases hL'
                  obtain ⟨hbase, bc, bt, hbc, hbs, hbx⟩ := hr.own hrw r.g L hr.mg hL
                  obtain ⟨_, vals, hv, hcv⟩ := hr.cells r.g L hr.mg hL
                  rw [List.take_of_length_le (by omega)] at hv
                  have hvl : vals.length = r.es.length * r.sz := by rw [← hv.length, fl_len hr.es]
                  have hlen : len ≤ r.es.length := by omega
                  have hes' : ∀ x ∈ r.es.take len ++ new, x.length = r.sz := by
                    intro x hx
                    rcases List.mem_append.1 hx with hx | hx
                    · exact hr.es x (List.mem_of_mem_take hx)
                    · rw [c3]; exact hne x hx
                  have hlf' : ∀ x ∈ r.es.take len ++ new, allLeaf x = true := by
                    intro x hx
                    rcases List.mem_append.1 hx with hx | hx
                    · exact hr.leaf x (List.mem_of_mem_take hx)
                    · exact hnl x hx
                  have hesl : (r.es.take len ++ new).length = len + new.length := by
                    rw [List.length_append, List.length_take]; omega
                  have hnewv : RelVs φ (r.es.take len ++ new).flatten (vals.take (len * r.sz) ++ nv) := by
                    rw [List.flatten_append, fl_take hr.es]; exact (hv.take _).append hnv
                  have hoff : 0 < c → off = 0 := fun hc0 => by have := h6 hc0; omega
                  have key : ∀ (m' : Nat), m' ≤ r.g + 1 → (∀ g K, m' ≤ g → φ id g = some K → r.m ≤ g ∧ K.ext ≤ len) →
                      SimV P B φ (h.put id (.row { r with es := r.es.take len ++ new, g := r.g + 1, m := m', ty := tyJoin r.ty nt })) (.slc id (r.g + 1) 0 (len + new.length) (len + new.length) false) w
                        ((Builtin.append_ #[t1, t2] ty #[.slice (some ⟨L.blk, off, none⟩) len c, cx]).run P w) := by
                    intro m' hm' hold
                    by_cases hfits : len + new.length ≤ c
                    · -- in place
                      have hsz2 : len * sz + nv.length ≤ bc.size := by
                        rw [hbs, hnvl, hLs, ← Nat.add_mul]; exact Nat.mul_le_mul_right _ (by omega)
                      have hst := run_storeCells_at P L.blk (len * sz) bt nv 0 bc w hbc (by simpa using hsz2) (hnv.leaf hflat)
                      simp only [Nat.add_zero] at hst
                      have hA : (⟨L.blk, off, none⟩ : Addr).add (len * sz) = ⟨L.blk, len * sz, none⟩ := by
                        rw [Addr.add_lit, hoff (by omega), Nat.zero_add]
                      have hrun := hroom (some ⟨L.blk, off, none⟩) len c hfits _ rfl _ (by rw [hA]; exact hst)
                      generalize hc' : (bc.toList.take (len * sz) ++ nv ++ bc.toList.drop (len * sz + nv.length)).toArray = c' at hst hrun
                      have hheap := setRow_heap w L.blk bc c' bt (0, 0) hbc
                      have hcs : c'.size = bc.size := by rw [← hc']; simp; omega
                      have hB : B ≤ L.blk := (H.own id _ r.g L hrow hL).1 hrw
                      have hcell : ∀ (j : Nat) (u : Value), vals[j]? = some u → bc.toList[j]? = some u := by
                        intro j u hj
                        have := hcv j u hj
                        rw [hbase, Nat.zero_add, cell_of_row w L.blk _ bc bt (0, 0) hbc] at this
                        simpa using this
                      have hpre : ∀ (j : Nat) (u : Value), j < len * sz → vals[j]? = some u → c'[j]? = some u := by
                        intro j u hj hu
                        rw [← hc', List.getElem?_toArray, List.append_assoc, List.getElem?_append_left (by simp; omega), List.getElem?_take_of_lt hj]
                        exact hcell j u hu
                      have hmin0 : (vals.take (len * r.sz)).length = len * sz := by
                        rw [List.length_take, hvl, c3, Nat.min_eq_left (Nat.mul_le_mul_right _ hlen)]
                      have hgrown := row_grow (H := H) hrow hrw hes' hlf' hm' (w' := w.setRow L.blk c') (L := ⟨L.blk, 0, r.sz, len + new.length, L.tot⟩) ⟨rfl, hesl.symm, rfl⟩ (.inr ⟨r.g, L, hL, rfl⟩) (by simp)
                        (fun k _ hk => setRow_other w L.blk k c' (fun e => hk r.g L hL e.symm)) (NoDef.of_block hheap (fun ds e => by cases e) (fun k hk => setRow_other w L.blk k c' hk))
                        ⟨_, hnewv, fun j u hj => by
                          rw [cell_setRow_same w L.blk _ bc c' bt (0, 0) hbc]
                          by_cases hjl : j < len * sz
                          · rw [List.getElem?_append_left (by rw [hmin0]; exact hjl), List.getElem?_take_of_lt (by rw [c3]; exact hjl)] at hj
                            exact hpre j u hjl hj
                          · rw [List.getElem?_append_right (by rw [hmin0]; omega), hmin0] at hj
                            have hjn := (List.getElem?_eq_some_iff.1 hj).1
                            rw [← hc', List.getElem?_toArray, List.append_assoc, List.getElem?_append_right (by simp; omega), List.getElem?_append_left (by simp; omega)]
                            rw [List.length_take, Nat.min_eq_left (by simp; omega)]
                            exact hj⟩
                        ⟨c', bt, hheap, by rw [hcs, hbs, hLs, c3], by simp only; omega⟩
                        (fun g K hmg hK => by
                          obtain ⟨a1, a2⟩ := hold g K hmg hK
                          obtain ⟨b1, vs, b2, b3⟩ := hr.cells g K a1 hK
                          obtain ⟨d1, dc, dt, d2, d3, d4⟩ := hr.own hrw g K a1 hK
                          have hKs : K.sz = r.sz := (hr.gen g K hK).2
                          have htk : (r.es.take len ++ new).take K.ext = r.es.take K.ext := by
                            rw [List.take_append_of_le_length (by simp; omega), List.take_take, Nat.min_eq_left a2]
                          have hvsl : vs.length = K.ext * r.sz := by
                            rw [← b2.length, fl_len (sz := r.sz) (fun x hx => hr.es x (List.mem_of_mem_take hx)), List.length_take]; congr 1; omega
                          refine ⟨by omega, ⟨vs, by rw [htk]; exact b2, fun j u hj => ?_⟩, d1, ?_⟩
                          · have hjl := (List.getElem?_eq_some_iff.1 hj).1
                            have hcu := b3 j u hj
                            rw [d1, Nat.zero_add] at hcu ⊢
                            by_cases hbk : K.blk = L.blk
                            · rw [hbk] at hcu ⊢
                              rw [cell_of_row w L.blk _ bc bt (0, 0) hbc] at hcu
                              rw [cell_setRow_same w L.blk _ bc c' bt (0, 0) hbc]
                              have hjs : j < len * sz := by
                                have : K.ext * r.sz ≤ len * sz := by rw [c3]; exact Nat.mul_le_mul_right _ a2
                                omega
                              rw [← hc', List.getElem?_toArray, List.append_assoc, List.getElem?_append_left (by simp; omega), List.getElem?_take_of_lt hjs]
                              simpa using hcu
                            · rw [cell_setRow_other w L.blk c' _ hbk]; exact hcu
                          · by_cases hbk : K.blk = L.blk
                            · refine ⟨c', bt, by rw [hbk]; exact hheap, ?_, d4⟩
                              rw [hbk, hbc] at d2
                              cases d2
                              rw [hcs]; exact d3
                            · exact ⟨dc, dt, (setRow_other w L.blk K.blk c' hbk).trans d2, d3, d4⟩)
                        (ty' := tyJoin r.ty nt) (fun u hu => by
                          obtain ⟨y1, y2⟩ := tyJoin_some hu
                          obtain ⟨c0, f0, hc0⟩ := hr.ty u y1 hrw r.g L hr.mg hL
                          rw [hbc] at hc0; cases hc0
                          refine ⟨⟨_, _, hheap⟩, fun g K hmg hK => ?_⟩
                          obtain ⟨a1, a2⟩ := hold g K hmg hK
                          obtain ⟨ck, fk, hk⟩ := hr.ty _ y1 hrw g K a1 hK
                          by_cases hbk : K.blk = L.blk
                          · rw [hbk]; exact ⟨_, _, hheap⟩
                          · exact ⟨_, _, (setRow_other w L.blk K.blk c' hbk).trans hk⟩)
                      refine ⟨_, _, _, hrun, ?_, hgrown.2, hgrown.1, Gw.of_block hbc hB (fun ds e => by cases e) (fun r e => by cases e) hheap (fun _ _ _ e => by cases e; rfl) (fun _ _ _ e => by cases e; rfl) (fun k hk => setRow_other w L.blk k c' hk) (by simp) rfl rfl rfl⟩
                      exact .slc (L := ⟨L.blk, 0, r.sz, len + new.length, L.tot⟩) (Phi.add_same _ _ _ _) (Nat.le_refl _) (by simp only; omega) (by simp only; omega) hfits (fun e => by cases e) (fun hc0 => by simp [hoff hc0])
                    · -- a new block
                      obtain ⟨ov, o1, o2, o3⟩ := firstCells_row (P := P) hr hL hr.mg c3 h1 h2 h4 h6
                      have hrun := hgrow (some ⟨L.blk, off, none⟩) len c c1 c2 (by omega) ov o3
                      have hge := grown_ge w (len + new.length) c e
                      simp only [List.drop_zero] at o1
                      generalize hgc : grownCap w (len + new.length) c e = gc at hrun hge
                      generalize hzz : (Builtin.zeroCells zc (gc - (len + new.length))).toList = zz at hrun
                      have hzzl : zz.length = (gc - (len + new.length)) * sz := by rw [← hzz]; exact hzl _
                      have hgrown := row_grow (H := H.drew) hrow hrw hes' hlf' hm' (w' := w.drew.alloc (.cells (ov ++ nv ++ zz).toArray e)) (L := ⟨w.heap.size, 0, r.sz, len + new.length, gc⟩) ⟨rfl, hesl.symm, rfl⟩ (.inl ⟨rfl, by simp⟩) (by simp)
                        (fun k hk _ => heap_alloc_old w.drew _ hk) (NoDef.alloc w.drew (fun ds e => by cases e))
                        ⟨ov ++ nv, by rw [List.flatten_append]; exact o1.append hnv, fun j u hj => by
                          have hjl := (List.getElem?_eq_some_iff.1 hj).1
                          have := World.cell?_alloc_new w.drew (ov ++ nv ++ zz).toArray e j
                          rw [show w.drew.heap.size = w.heap.size from rfl] at this
                          rw [this, List.getElem?_toArray, List.getElem?_append_left hjl]
                          exact hj⟩
                        ⟨_, e, heap_alloc_new w.drew _, by simp only [List.size_toArray, List.length_append]; rw [o2, hnvl, hzzl, c3, ← Nat.add_mul, ← Nat.add_mul]; congr 1; omega, hge⟩
                        (fun g K hmg hK => by
                          obtain ⟨a1, a2⟩ := hold g K hmg hK
                          obtain ⟨b1, vs, b2, b3⟩ := hr.cells g K a1 hK
                          obtain ⟨d1, dc, dt, d2, d3, d4⟩ := hr.own hrw g K a1 hK
                          have hlt := H.lt id g K hK
                          have htk : (r.es.take len ++ new).take K.ext = r.es.take K.ext := by
                            rw [List.take_append_of_le_length (by simp; omega), List.take_take, Nat.min_eq_left a2]
                          refine ⟨by omega, ⟨vs, by rw [htk]; exact b2, fun j u hj => ?_⟩, d1, dc, dt, (heap_alloc_old w.drew _ hlt).trans d2, d3, d4⟩
                          exact (cell_of_heap (heap_alloc_old w.drew _ hlt)).trans (b3 j u hj))
                        (ty' := tyJoin r.ty nt) (fun u hu => by
                          obtain ⟨y1, y2⟩ := tyJoin_some hu
                          obtain rfl := hnt u y2
                          refine ⟨⟨_, _, heap_alloc_new w.drew _⟩, fun g K hmg hK => ?_⟩
                          obtain ⟨a1, a2⟩ := hold g K hmg hK
                          obtain ⟨ck, fk, hk⟩ := hr.ty _ y1 hrw g K a1 hK
                          exact ⟨_, _, (heap_alloc_old w.drew _ (H.lt id g K hK)).trans hk⟩)
                      refine ⟨_, _, _, hrun, ?_, hgrown.2, hgrown.1, (Gw.drew B w).trans (Gw.alloc H.drew.base (fun _ _ _ e => by cases e; rfl))⟩
                      exact .slc (L := ⟨w.heap.size, 0, r.sz, len + new.length, gc⟩) (Phi.add_same _ _ _ _) (Nat.le_refl _) (by simp only; omega) (by simp only; omega) hge (fun e => by cases e) (fun _ => by simp)
                  cases hlr : Nat.beq len r.es.length with
                  | true =>
                    rw [hlr, cond_true] at he; cases he
                    have hlr := nbeq_true.1 hlr
                    have := key r.m (Nat.le_succ_of_le hr.mg) (fun g K hm hK => ⟨hm, by rw [hlr]; exact (hr.cells g K hm hK).1⟩)
                    rw [List.take_of_length_le (by omega)] at this
                    exact this
                  | false =>
                    rw [hlr, cond_false] at he; cases he
                    exact key (r.g + 1) (Nat.le_refl _) (fun g K hm hK => absurd (hr.gen g K hK).1 (by omega))
  · cases he
theorem app_sound {t1 t2 ty : TypeId} {x y : Operand} {op : AOp} {N : Nat} {ρ : Regs} {a : Act} (hR : RelR φ N ρ a.tmps) (H : RelH P B φ h w) (hc : compBuiltin P .append [t1, t2] [x, y] = some op) (he : evalA ρ h op = some (v, h')) :
    SimV P B φ h' v w ((Builtin.append_ #[t1, t2] ty #[a.eval x, a.eval y]).run P w) := by
  simp only [compBuiltin] at hc
  split at hc
  · rename_i p q e d hx hy hu hu2
    split at hc
    · rename_i sz bytes z hs hb hz
      cases hcc : (Nat.beq z.cells.length sz && Nat.blt 0 sz) with
      | false => rw [hcc] at hc; cases hc
      | true =>
        rw [hcc, cond_true] at hc
        simp only [Bool.and_eq_true, nbeq_true, nblt_true] at hcc
        obtain ⟨hzl, hsz⟩ := hcc
        obtain ⟨zv, it, z1, z2, z3, z4⟩ := run_zeroT hz w
        obtain ⟨it2, b1, b2, b3⟩ := run_bytesT hb w
        rw [z3] at b3; cases b3
        have hzc : zv.cells.size = sz := by have := (cells_avOf (φ := φ) z2).length; simp only [Array.length_toList] at this; omega
        have main : ∀ (hni : ∀ k, d ≠ .int k) (nt : Option Nat), (∀ u, nt = some u → u = e) → (∃ sv xv, ev ρ p = some sv ∧ ev ρ q = some xv ∧ appendA h sz bytes sv xv nt = some (v, h')) → SimV P B φ h' v w ((Builtin.append_ #[t1, t2] ty #[a.eval x, a.eval y]).run P w) := by
          intro hni nt hnt hop
          obtain ⟨sv, xv, hp, hq, he⟩ := hop
          simp only [appendA] at he
          cases h0 : Nat.beq sz 0 with
          | true => rw [h0] at he; cases he
          | false =>
            rw [h0, cond_false] at he
            cases hsrc : source h sz xv with
            | none => rw [hsrc] at he; cases he
            | some new =>
              rw [hsrc] at he
              simp only at he
              have S := source_sound H (ev_opd hR hy hq) hsrc
              obtain ⟨nv, n1, n2⟩ := S.first new.length (Nat.le_refl _)
              rw [List.take_of_length_le (Nat.le_refl _)] at n1
              refine append_new (zc := zv.cells) H (ev_opd hR hx hp) hsz hzc S.es S.leaf n1 (fun base sLen sCap => app_room hu hs hu2 hni (S.len P) (n2 P w rfl) base sLen sCap)
                (fun base sLen sCap m1 m2 => app_grow hu hs hu2 hni z3 z4 b2 (S.len P) (n2 P) base sLen sCap m1 m2) (fun hl => ?_) hnt he
              have hz : (d matches .int _) = false := by cases d <;> first | rfl | exact absurd rfl (hni _)
              have hln := S.len P w
              rw [hl] at hln
              have hnf := n2 P w rfl
              rw [hl] at hnf
              simp only [Builtin.append_, List.getElem?_toArray, List.getElem?_cons_zero, List.getElem?_cons_succ, Sem.run_bind, run_underlying hu, run_underlying hu2, Result.andThen_ok, run_sizeT hs, Sem.run_pure, hz, Bool.false_eq_true, if_false, hln,
                Nat.add_zero, Nat.le_refl, if_true, Bool.not_false, hnf]
        have two : ∀ {o : AOp} {nt : Option Nat}, (∀ u, nt = some u → u = e) → (∀ k, d ≠ .int k) → evalA ρ h o = some (v, h') → (evalA ρ h o = match ev ρ p, ev ρ q with | some s, some x => appendA h sz bytes s x nt | _, _ => none) → SimV P B φ h' v w ((Builtin.append_ #[t1, t2] ty #[a.eval x, a.eval y]).run P w) := by
          intro o nt hnt hni he heq
          rw [heq] at he
          cases hp : ev ρ p with
          | none => simp [hp] at he
          | some sv =>
            cases hq : ev ρ q with
            | none => simp [hp, hq] at he
            | some xv =>
              rw [hp, hq] at he
              exact main hni nt hnt ⟨sv, xv, hp, hq, he⟩
        split at hc
        · cases hb : (isByteT P e && Nat.beq sz 1 && Nat.beq bytes 1) with
          | true =>
            rw [hb, cond_true] at hc; cases hc
            simp only [Bool.and_eq_true, nbeq_true] at hb
            obtain ⟨⟨_, rfl⟩, rfl⟩ := hb
            exact two (nt := some e) (fun u hu => by cases hu; rfl) (fun k hk => by cases hk) he rfl
          | false =>
            rw [hb, cond_false] at hc; cases hc
            exact two (nt := none) (fun u hu => by cases hu) (fun k hk => by cases hk) he rfl
        · cases hc
          exact two (nt := none) (fun u hu => by cases hu) (fun k hk => by cases hk) he rfl
        · rename_i k
          cases hc
          simp only [evalA] at he
          cases hp : ev ρ p with
          | none => simp [hp] at he
          | some sv =>
            cases hq : ev ρ q with
            | none => simp [hp, hq] at he
            | some xv =>
              rw [hp, hq] at he
              simp only [appzA] at he
              cases hcz : (Nat.blt 0 sz && Nat.beq z.cells.length sz && allLeaf z.cells) with
              | false => rw [hcz] at he; cases he
              | true =>
                rw [hcz, cond_true] at he
                simp only [Bool.and_eq_true, nblt_true, nbeq_true] at hcz
                cases hn : asNat xv with
                | none => rw [hn] at he; cases he
                | some n =>
                  rw [hn] at he
                  simp only at he
                  cases hb2 : (Nat.ble n most && Nat.ble (n * bytes) most) with
                  | false => rw [hb2] at he; cases he
                  | true =>
                    rw [hb2, cond_true, repl_eq] at he
                    simp only [Bool.and_eq_true, nble_true] at hb2
                    obtain ⟨hm1, hm2⟩ := hb2
                    obtain ⟨ki, hki⟩ := asNat_sound (ev_opd hR hy hq) hn
                    have hlen : (List.replicate n z.cells).length = n := List.length_replicate
                    have hnv : RelVs φ (List.replicate n z.cells).flatten (List.replicate n zv.cells.toList).flatten := (cells_avOf z2).replicate n
                    have hzs : (Builtin.zeroCells zv.cells n) = (List.replicate n zv.cells.toList).flatten.toArray := by
                      have := zeroCells_eq (z := zv.cells.toList) (by simp; omega) n
                      simpa using this
                    unfold most at hm1 hm2
                    have hw : IntKind.i64.wrap (n : Int) = n := IntWalk.i64_in _ ⟨by omega, by omega⟩
                    have hz : ((TypeDesc.int k) matches .int _) = true := rfl
                    have hti : ∀ w' : World, (typeInfo e).run P w' = .ok it w' := fun w' => by simp [typeInfo, z3]
                    have hzv : ∀ w' : World, (zeroValue e).run P w' = .ok zv w' := fun w' => by simp [zeroValue, typeInfo, z3, z4]
                    have hl0 : ¬ ((n : Int) < 0) := by omega
                    have hby : ¬ ((n : Int) * (it.bytes : Int) > 2 ^ 48) := by
                      rw [b2]
                      have : (n : Int) * (bytes : Int) = ((n * bytes : Nat) : Int) := by simp
                      rw [this]; omega
                    rw [hki]
                    have hap : ∀ w' : World, (if n * sz = 0 then (Pure.pure #[] : Sem (Array Value)) else do Pure.pure (Builtin.zeroCells (← zeroValue e).cells n)).run P w' = .ok (List.replicate n zv.cells.toList).flatten.toArray w' := by
                      intro w'
                      by_cases hn0 : n * sz = 0
                      · have : n = 0 := by rcases Nat.mul_eq_zero.1 hn0 with h1 | h1 <;> omega
                        subst this
                        simp
                      · rw [if_neg hn0]; simp [hzv, hzs]
                    refine append_new (e := e) (zc := zv.cells) (new := List.replicate n z.cells) (nv := (List.replicate n zv.cells.toList).flatten) H (ev_opd hR hx hp) hsz hzc (fun x hx => by rw [List.eq_of_mem_replicate hx]; exact hzl) (fun x hx => by rw [List.eq_of_mem_replicate hx]; exact hcz.2) hnv ?_ ?_ ?_ (fun u hu => by cases hu) he
                    · intro base sLen sCap hroom A hA w' hst
                      subst hA
                      rw [hlen] at hroom ⊢
                      simp only [Builtin.append_, List.getElem?_toArray, List.getElem?_cons_zero, List.getElem?_cons_succ, Sem.run_bind, run_underlying hu, run_underlying hu2, Result.andThen_ok, run_sizeT hs, Sem.run_pure, asInt, asIntOf, hw, if_true, hl0, if_false, hti, hby, Int.toNat_natCast, hroom,
                        Bool.not_true, Bool.false_eq_true, hap, hst]
                    · intro base sLen sCap m1 m2 hgrow ov hov
                      rw [hlen] at m1 m2 hgrow ⊢
                      unfold most at m1 m2
                      have hns : ¬ (sLen + n ≤ sCap) := by omega
                      have h63 : ¬ ((((sLen + n : Nat) : Int) > IntKind.i64.max) ∧ (True ∨ it.bytes = 0)) := by
                        rintro ⟨h1, _⟩
                        have : IntKind.i64.max = 9223372036854775807 := by rfl
                        rw [this] at h1
                        omega
                      have h48 : ¬ (Builtin.nextslicecap (sLen + n) sCap * it.bytes > 2 ^ 48) := by
                        have := growslice_fits (bytes := it.bytes) hgrow (by rw [b2]; omega)
                        omega
                      have hq2 : (Question.appendCap (sLen + n) sCap e).forced = false := rfl
                      simp only [Builtin.append_, List.getElem?_toArray, List.getElem?_cons_zero, List.getElem?_cons_succ, Sem.run_bind, run_underlying hu, run_underlying hu2, Result.andThen_ok, run_sizeT hs, Sem.run_pure, asInt, asIntOf, hw, if_true, hl0, if_false, hti, hby, Int.toNat_natCast, hns,
                        Bool.not_true, Bool.false_eq_true, h63, h48, choose, Sem.run, hq2, run_askRoom, World.drew_eq, hov w.drew rfl, hap, hzv]
                      simp only [Go.newRow, Sem.run_bind, run_newObj, Result.andThen_ok, Sem.run_pure]
                      congr 1
                      show World.alloc _ _ = World.alloc _ _
                      congr 2
                      apply Array.ext'
                      simp [grownCap, List.append_assoc]
                    · intro hl
                      rw [hlen] at hl
                      subst hl
                      have hw0 : IntKind.i64.wrap ((0 : Nat) : Int) = ((0 : Nat) : Int) := hw
                      simp only [Builtin.append_, List.getElem?_toArray, List.getElem?_cons_zero, List.getElem?_cons_succ, Sem.run_bind, run_underlying hu, run_underlying hu2, Result.andThen_ok, run_sizeT hs, Sem.run_pure, asInt, asIntOf, hw0, if_true, hl0, if_false, hti, hby, Int.toNat_natCast,
                        Nat.add_zero, Nat.le_refl, Bool.not_true, Bool.false_eq_true, hap]
        · cases hc
    · cases hc
  · cases hc
theorem storeRow_sound {sz id g st : Nat} {new : List (List AV)} (H : RelH P B φ h w) (hne : ∀ x ∈ new, x.length = sz) (hnl : ∀ x ∈ new, allLeaf x = true) {nv : List Value} (hnv : RelVs φ new.flatten nv) {L : Loc} (hL : φ id g = some L)
    (he : storeRow h sz id g st new = some h') : ∃ w', (storeCells ⟨L.blk, L.base + st * L.sz, none⟩ nv).run P w = .ok () w' ∧ RelH P B φ h' w' ∧ Gw B w w' ∧ L.sz = sz := by
  unfold storeRow at he
  split at he
  · rename_i r hget
    have hrow := AHeap.row_some.1 hget
    have hr : RelRow φ id r w := H.obj id _ hrow
    cases hc : (r.rw && Nat.beq g r.g && Nat.beq r.sz sz && Nat.ble (st + new.length) r.es.length) with
    | false => rw [hc] at he; cases he
    | true =>
      rw [hc, cond_true] at he; cases he
      simp only [Bool.and_eq_true, nbeq_true, nble_true] at hc
      obtain ⟨⟨⟨hrw, rfl⟩, c3⟩, c4⟩ := hc
      have hLs : L.sz = sz := by rw [(hr.gen _ L hL).2, c3]
      have hfit : st * r.sz + new.flatten.length ≤ r.es.length * r.sz := by
        rw [fl_len hne, c3, ← Nat.add_mul]; exact Nat.mul_le_mul_right _ c4
      obtain ⟨w', s1, s2, s3⟩ := row_store H hrow hrw hL hnv (allLeaf_flatten hnl) hfit (es' := lay r.es st new)
        (by
          intro x hx
          unfold lay at hx
          rcases List.mem_append.1 hx with hx | hx
          · rcases List.mem_append.1 hx with hx | hx
            · exact hr.es x (List.mem_of_mem_take hx)
            · rw [c3]; exact hne x hx
          · exact hr.es x (List.mem_of_mem_drop hx))
        (lay_length _ _ _ c4) (by rw [c3]; exact fl_lay (by rw [← c3]; exact hr.es) hne _)
        (by
          intro x hx
          unfold lay at hx
          rcases List.mem_append.1 hx with hx | hx
          · rcases List.mem_append.1 hx with hx | hx
            · exact hr.leaf x (List.mem_of_mem_take hx)
            · exact hnl x hx
          · exact hr.leaf x (List.mem_of_mem_drop hx))
      exact ⟨w', by rw [hLs, ← c3]; exact s1, s2, s3, hLs⟩
  · cases he
theorem copy_sound {t1 t2 ty e : TypeId} {sz : Nat} {d s : AV} {cd cs : Value} (H : RelH P B φ h w) (hu : P.underlying t1 = some (.slice e)) (hs : sizeT P e = some sz) (hd : RelV φ d cd) (hss : RelV φ s cs) (he : copyA h sz d s = some (v, h')) :
    SimV P B φ h' v w ((Builtin.copy_ #[t1, t2] ty #[cd, cs]).run P w) := by
  unfold copyA at he
  cases h0 : Nat.beq sz 0 with
  | true => rw [h0] at he; cases he
  | false =>
    rw [h0, cond_false] at he
    have hsz := Nat.pos_of_ne_zero (nbeq_false.1 h0)
    split at he
    · cases he
    · rename_i src hsrc
      have S := source_sound H hss hsrc
      split at he
      · cases he; cases hd
        obtain ⟨nv, n1, n2⟩ := S.first 0 (Nat.zero_le _)
        refine SimV.pure H (cv := .int .i64 0) ?_ (.int _ _)
        simp [Builtin.copy_, Sem.run_bind, run_underlying hu, S.len P w, run_sizeT hs, n2 P w rfl, goInt]
      · cases he; cases hd
        obtain ⟨nv, n1, n2⟩ := S.first 0 (Nat.zero_le _)
        refine SimV.pure H (cv := .int .i64 0) ?_ (.int _ _)
        have hnv0 : nv = [] := by
          have := n1.length
          exact List.length_eq_zero_iff.1 (by simpa using this.symm)
        subst hnv0
        simp [Builtin.copy_, Sem.run_bind, run_underlying hu, S.len P w, run_sizeT hs, n2 P w rfl, goInt, storeCells]
      · rename_i id g st len cap ex
        cases hd with
        | slc hL h1 h2 h3 h4 h5 h6 =>
          rename_i c off L
          have htl : (src.take len).length = Nat.min src.length len := by rw [List.length_take]; exact Nat.min_comm _ _
          obtain ⟨nv, n1, n2⟩ := S.first (Nat.min src.length len) (Nat.min_le_left _ _)
          have htk : src.take (Nat.min src.length len) = src.take len := by
            show src.take (min src.length len) = src.take len
            rcases Nat.le_total src.length len with hh | hh
            · rw [Nat.min_eq_left hh, List.take_of_length_le (Nat.le_refl _), List.take_of_length_le hh]
            · rw [Nat.min_eq_right hh]
          rw [htk] at n1
          have hrun : ∀ w', (storeCells ⟨L.blk, off, none⟩ nv).run P w = .ok () w' → (Builtin.copy_ #[t1, t2] ty #[.slice (some ⟨L.blk, off, none⟩) len c, cs]).run P w = .ok (goInt (Nat.min src.length len)) w' := by
            intro w' hst
            simp only [Builtin.copy_, List.getElem?_toArray, List.getElem?_cons_zero, List.getElem?_cons_succ, Sem.run_bind, run_underlying hu, Result.andThen_ok, S.len P w, run_sizeT hs, n2 P w rfl, hst, Sem.run_pure]
          dsimp only at he
          split at he
          · rename_i hnn
            cases he
            have hnv0 : nv = [] := by
              have := n1.length
              rw [hnn] at this
              exact List.length_eq_zero_iff.1 (by simpa using this.symm)
            subst hnv0
            refine SimV.pure H (hrun w (by simp [storeCells])) ?_
            rw [hnn] at htl
            rw [← htl]
            exact .int _ _
          · rename_i hnn
            split at he
            · rename_i h2' hst
              cases he
              have hpos : 0 < (src.take len).length := List.length_pos_iff.2 hnn
              have hlen : 0 < len := by rw [List.length_take] at hpos; omega
              obtain ⟨w', s1, s2, s3, s4⟩ := storeRow_sound H (fun x hx => S.es x (List.mem_of_mem_take hx)) (fun x hx => S.leaf x (List.mem_of_mem_take hx)) n1 hL hst
              rw [← h6 (by omega)] at s1
              refine ⟨_, w', φ, hrun w' s1, ?_, s2, φ.le_refl, s3⟩
              rw [← htl]
              exact .int _ _
            · cases he
      · cases he
theorem clr_sound {t ty e : TypeId} {sz : Nat} {z x : AV} {cx : Value} (H : RelH P B φ h w) (hu : P.underlying t = some (.slice e)) (hs : sizeT P e = some sz) (hz : zeroT P e = some z) (hx : RelV φ x cx) (he : clrA h sz z.cells x = some h') :
    ∃ w', (Builtin.clear_ #[t] ty #[cx]).run P w = .ok (.tuple #[]) w' ∧ RelH P B φ h' w' ∧ Gw B w w' := by
  unfold clrA at he
  split at he
  · cases he; cases hx
    exact ⟨w, by simp [Builtin.clear_, Sem.run_bind, run_underlying hu], H, Gw.refl B w⟩
  · cases he; cases hx
    exact ⟨w, by simp [Builtin.clear_, Sem.run_bind, run_underlying hu], H, Gw.refl B w⟩
  · rename_i id g st len cap ex
    cases hx with
    | slc hL h1 h2 h3 h4 h5 h6 =>
      rename_i c off L
      cases h0 : Nat.beq len 0 with
      | true =>
        rw [h0, cond_true] at he; cases he
        have := nbeq_true.1 h0; subst this
        exact ⟨w, by simp [Builtin.clear_, Sem.run_bind, run_underlying hu], H, Gw.refl B w⟩
      | false =>
        rw [h0, cond_false] at he
        have hpos := nbeq_false.1 h0
        cases hc : (Nat.beq z.cells.length sz && allLeaf z.cells && Nat.blt 0 sz) with
        | false => rw [hc] at he; cases he
        | true =>
          rw [hc, cond_true, repl_eq] at he
          simp only [Bool.and_eq_true, nbeq_true, nblt_true] at hc
          obtain ⟨⟨c1, c2⟩, c3⟩ := hc
          obtain ⟨zv, it, z1, z2, z3, z4⟩ := run_zeroT hz w
          have hzc : zv.cells.size = sz := by have := (cells_avOf (φ := φ) z2).length; simp only [Array.length_toList] at this; omega
          obtain ⟨w', s1, s2, s3, s4⟩ := storeRow_sound H (fun x hx => by rw [List.eq_of_mem_replicate hx]; exact c1) (fun x hx => by rw [List.eq_of_mem_replicate hx]; exact c2) ((cells_avOf z2).replicate len) hL he
          rw [← h6 (by omega)] at s1
          refine ⟨w', ?_, s2, s3⟩
          have hzs : (Builtin.zeroCells zv.cells len) = (List.replicate len zv.cells.toList).flatten.toArray := by
            have := zeroCells_eq (z := zv.cells.toList) (by simp; omega) len
            simpa using this
          obtain ⟨k, rfl⟩ : ∃ k, len = k + 1 := ⟨len - 1, by omega⟩
          simp [Builtin.clear_, Sem.run_bind, run_underlying hu, z1, hzs, s1]
  · cases he
theorem RelEs.length {l : List (AV × AV × Nat)} {m : List MapEntry} (hh : RelEs φ l m) : l.length = m.length := by
  induction hh with
  | nil => rfl
  | cons _ _ _ _ ih => simp [ih]
theorem run_getObj_map {r : Nat} {cs : Array MapEntry} {clock : Nat} (hh : w.heap[r]? = some (.map cs clock)) : (getObj r).run P w = .ok (.map cs clock) w := by
  unfold getObj
  simp only [Sem.run, hh]
theorem len_sound {t ty : TypeId} {k : Nat} {x v : AV} {cx : Value} {d : TypeDesc} (H : RelH P B φ h w) (hu : P.underlying t = some d) (hd : (k = 0 ∧ d = .string) ∨ (k = 1 ∧ ∃ e, d = .slice e) ∨ (k = 2 ∧ ∃ a e, d = .map a e)) (hx : RelV φ x cx)
    (he : lenA h k x = some v) : ∃ cv, (Builtin.len_ #[t] ty #[cx]).run P w = .ok cv w ∧ RelV φ v cv := by
  rcases hd with ⟨rfl, rfl⟩ | ⟨rfl, e, rfl⟩ | ⟨rfl, a, e, rfl⟩
  · cases x <;> simp only [lenA] at he <;> try (cases he; done)
    cases he
    cases hx with
    | str hs =>
      rename_i s b
      exact ⟨goInt b.size, by simp [Builtin.len_, Sem.run_bind, run_underlying hu], by rw [str_size hs]; exact .int _ _⟩
  · cases x <;> simp only [lenA] at he <;> try (cases he; done)
    · cases he; cases hx
      exact ⟨goInt _, by simp [Builtin.len_, Sem.run_bind, run_underlying hu], .int _ _⟩
    · cases he; cases hx
      exact ⟨goInt 0, by simp [Builtin.len_, Sem.run_bind, run_underlying hu], .int _ _⟩
    · cases he; cases hx
      exact ⟨goInt 0, by simp [Builtin.len_, Sem.run_bind, run_underlying hu], .int _ _⟩
  · cases x <;> simp only [lenA] at he <;> try (cases he; done)
    · rename_i id
      split at he
      · rename_i es clock hget
        cases he
        cases hx with
        | map hL =>
          obtain ⟨L', cs, l1, l2, l3⟩ := H.obj id _ hget
          rw [hL] at l1; cases l1
          refine ⟨goInt cs.size, ?_, ?_⟩
          · simp only [Builtin.len_, List.getElem?_toArray, List.getElem?_cons_zero, Sem.run_bind, run_underlying hu, Result.andThen_ok, run_getObj_map l2, Sem.run_pure]
          · have := l3.length
            simp only [Array.length_toList] at this
            rw [← this]
            exact .int _ _
      · rename_i es clock hget
        cases he
        cases hx with
        | map hL =>
          obtain ⟨L', cs, l1, l2, l3⟩ := H.obj id _ hget
          rw [hL] at l1; cases l1
          refine ⟨goInt cs.size, ?_, ?_⟩
          · simp only [Builtin.len_, List.getElem?_toArray, List.getElem?_cons_zero, Sem.run_bind, run_underlying hu, Result.andThen_ok, run_getObj_map l2, Sem.run_pure]
          · have := l3.length
            simp only [Array.length_toList] at this
            rw [← this]
            exact .int _ _
      · cases he
    · cases he; cases hx
      exact ⟨goInt 0, by simp [Builtin.len_, Sem.run_bind, run_underlying hu], .int _ _⟩
theorem foldl_push : ∀ (bs : List Nat) (r : ByteArray), (∀ b ∈ bs, b < 256) → (bs.foldl (fun r n => r.push (UInt8.ofNat n)) r).data.toList.map UInt8.toNat = r.data.toList.map UInt8.toNat ++ bs
  | [], r, _ => by simp
  | b :: bs, r, hb => by
    rw [List.foldl_cons, foldl_push bs _ (fun x hx => hb x (by simp [hx]))]
    have : b < 256 := hb b (by simp)
    simp [ByteArray.push, UInt8.toNat_ofNat', Nat.mod_eq_of_lt this]
theorem bytesOf_sound : ∀ {l : List (List AV)} {s : List Nat} {nv : List Value}, bytesOf l = some s → RelVs φ l.flatten nv → nv = (s.map fun n : Nat => (n : Int)).map (Value.int .u8) ∧ ∀ b ∈ s, b < 256
  | [], s, nv, hb, hv => by simp [bytesOf] at hb; subst hb; simp at hv; cases hv; simp
  | e :: l, s, nv, hb, hv => by
    unfold bytesOf at hb
    split at hb
    · rename_i heq; cases heq
    · rename_i n l' heq
      cases heq
      split at hb
      · rename_i r hr
        cases hc : Nat.blt n 256 with
        | false => rw [hc] at hb; cases hb
        | true =>
          rw [hc, cond_true] at hb; cases hb
          simp only [List.flatten_cons, List.singleton_append] at hv
          cases hv with
          | cons h1 h2 =>
            obtain ⟨e1, e2⟩ := bytesOf_sound hr h2
            cases h1
            refine ⟨by rw [e1]; simp, ?_⟩
            intro b hbm
            rcases List.mem_cons.1 hbm with rfl | hbm
            · exact nblt_true.1 hc
            · exact e2 b hbm
      · cases hb
    · cases hb
theorem b2s_sound {t1 t2 e : TypeId} {x v : AV} {cx : Value} (H : RelH P B φ h w) (hs : P.underlying t1 = some (.slice e)) (hd : P.underlying t2 = some .string) (hu : P.underlying e = some (.int .u8)) (hx : RelV φ x cx) (he : b2sA h x = some v) :
    ∃ cv, (convert t1 t2 cx).run P w = .ok cv w ∧ RelV φ v cv := by
  unfold b2sA at he
  split at he
  · cases he; cases hx
    exact ⟨.string .empty, by simp [convert, Sem.run_bind, run_underlying hs, run_underlying hd, run_underlying hu, Conv.bytesToString], .str (by rfl)⟩
  · cases he; cases hx
    exact ⟨.string .empty, by simp [convert, Sem.run_bind, run_underlying hs, run_underlying hd, run_underlying hu, Conv.bytesToString, loadCells, loadCellsFrom], .str (by rfl)⟩
  · rename_i id g st len cap ex
    split at he
    · rename_i l hsrc
      split at he
      · rename_i s hb
        cases he
        have S := source_sound H hx hsrc
        obtain ⟨nv, n1, n2⟩ := S.first l.length (Nat.le_refl _)
        rw [List.take_of_length_le (Nat.le_refl _)] at n1
        obtain ⟨e1, e2⟩ := bytesOf_sound hb n1
        cases hx with
        | slc hL h1 h2 h3 h4 h5 h6 =>
          rename_i c off L
          have hln := S.len P w
          have hlen : l.length = len := by
            simp [Builtin.lenOf] at hln
            exact hln.symm
          have hf := n2 P w rfl
          rw [hlen] at hf
          simp only [Builtin.firstCells, Nat.mul_one] at hf
          rw [e1] at hf
          refine ⟨_, (run_convert_bytes_string w t1 t2 e _ _ _ hs hu hd).trans (run_bytesToString w _ len c _ hf), .str ?_⟩
          have hfold : ∀ (bs : List Nat) (r : ByteArray), (bs.map fun n : Nat => (n : Int)).foldl (fun r n => r.push (UInt8.ofNat n.toNat)) r = bs.foldl (fun r n => r.push (UInt8.ofNat n)) r := by
            intro bs
            induction bs with
            | nil => intro r; rfl
            | cons b bs ih => intro r; simp only [List.map_cons, List.foldl_cons, Int.toNat_natCast, ih]
          rw [hfold, foldl_push _ _ e2]
          simp
      · cases he
    · cases he
  · cases he
theorem mksl_fill {t e : TypeId} {sz bytes : Nat} {z l c : AV} {cl cc : Value} {hp : AHeap} {ob : AObj} (H : RelH P B φ h w) (hu : P.underlying t = some (.slice e)) (hs : sizeT P e = some sz) (hb : bytesT P e = some bytes) (hz : zeroT P e = some z) (hl : RelV φ l cl) (hc : RelV φ c cc)
    (he : mkslA hp sz bytes z.cells l c = some (v, hp.push ob)) (hg : B.gh hp.sz = some ob) : SimV P (B.del hp.sz) φ h v w ((Instr.makeSlice t cl cc).run P w) := by
  unfold mkslA at he
  split at he
  · rename_i ln cn e1 e2
    cases hcnd : (Nat.ble ln cn && Nat.ble (cn * bytes) most && Nat.ble cn most && Nat.beq z.cells.length sz && Nat.blt 0 sz && allLeaf z.cells) with
    | false => rw [hcnd] at he; cases he
    | true =>
      rw [hcnd, cond_true, repl_eq] at he
      simp only [Option.some.injEq, Prod.mk.injEq] at he
      obtain ⟨rfl, he⟩ := he
      have hob := push_inj he
      subst hob
      simp only [Bool.and_eq_true, nble_true, nbeq_true, nblt_true] at hcnd
      obtain ⟨⟨⟨⟨⟨c1, c2⟩, c3⟩, c4⟩, c5⟩, c6⟩ := hcnd
      unfold most at c2 c3
      obtain ⟨kl, rfl⟩ := asNat_sound hl e1
      obtain ⟨kc, rfl⟩ := asNat_sound hc e2
      obtain ⟨zv, it, z1, z2, z3, z4⟩ := run_zeroT hz w
      obtain ⟨it2, b1, b2, b3⟩ := run_bytesT hb w
      have hzc : zv.cells.size = sz := by have := (cells_avOf (φ := φ) z2).length; simp only [Array.length_toList] at this; omega
      have hrep : ∀ x ∈ List.replicate cn z.cells, x.length = sz := fun x hx => by rw [List.eq_of_mem_replicate hx]; exact c4
      obtain ⟨φ', p1, p2, p3, p4⟩ := row_fillT H c5 hrep (fun x hx => by rw [List.eq_of_mem_replicate hx]; exact c6) (vals := (List.replicate cn zv.cells.toList).flatten) (spare := []) ((cells_avOf z2).replicate cn) (tot := cn)
        (by rw [fl_len (sz := sz) (fun x hx => by rw [List.eq_of_mem_replicate hx]; simpa using hzc)]; simp) e none (fun _ e => by cases e) hg
      refine ⟨.slice (some ⟨w.heap.size, 0, none⟩) ln cn, _, φ', ?_, ?_, p3, p1, p4⟩
      · have hw1 : IntKind.i64.wrap (ln : Int) = ln := IntWalk.i64_in _ ⟨by omega, by omega⟩
        have hw2 : IntKind.i64.wrap (cn : Int) = cn := IntWalk.i64_in _ ⟨by omega, by omega⟩
        have ht : (((cn : Int) < 0) || ((it2.bytes : Int) * (cn : Int) > 2 ^ 48)) = false := by
          rw [b2]
          have e3 : (bytes : Int) * (cn : Int) = ((cn * bytes : Nat) : Int) := by rw [Nat.mul_comm]; simp
          rw [e3]
          simp only [Bool.or_eq_false_iff, decide_eq_false_iff_not]
          constructor <;> omega
        have hcond : ((((cn : Int) < 0) || ((it2.bytes : Int) * (cn : Int) > 2 ^ 48)) || ((ln : Int) < 0) || ((ln : Int) > (cn : Int))) = false := by
          rw [ht]
          simp only [Bool.false_or, Bool.or_eq_false_iff, decide_eq_false_iff_not]
          constructor <;> omega
        have hzz : (Array.range (cn * sz)).map (zv.cells[· % zv.cells.size]!) = (List.replicate cn zv.cells.toList).flatten.toArray := by rw [← hzc]; exact zero_cells (by omega) cn
        simp only [Instr.makeSlice, Sem.run_bind, run_underlying hu, Result.andThen_ok, asInt, asIntOf, Sem.run_pure, b1, hw1, hw2, hcond, Bool.false_eq_true, if_false, run_askRoom, run_sizeT hs, Int.toNat_natCast]
        by_cases hn : cn * sz = 0
        · have hn0 : cn = 0 := by rcases Nat.mul_eq_zero.1 hn with h0 | h0 <;> omega
          subst hn0
          have e0 : ∀ f : Nat → Value, Array.map f (Array.range 0) = #[] := fun f => by simp
          simp [e0, Go.newRow]
        · rw [if_neg hn]
          simp only [Sem.run_bind, z1, Result.andThen_ok, Sem.run_pure, hzz]
          simp [Go.newRow]
      · exact .slc p2 c1 (by simp only [List.length_replicate]; omega) (by simp only; omega) (Nat.le_refl _) (fun _ => rfl) (fun _ => by simp)
  · cases he
theorem mkslA_push {sz bytes : Nat} {z : List AV} {l c : AV} (he : mkslA h sz bytes z l c = some (v, h')) : ∃ ob, h' = h.push ob ∧ ob.own = true := by
  unfold mkslA at he
  split at he
  · rename_i ln cn e1 e2
    cases hcnd : (Nat.ble ln cn && Nat.ble (cn * bytes) most && Nat.ble cn most && Nat.beq z.length sz && Nat.blt 0 sz && allLeaf z) with
    | false => rw [hcnd] at he; cases he
    | true => rw [hcnd, cond_true] at he; cases he; exact ⟨_, rfl, rfl⟩
  · cases he
theorem mksl_sound {t e : TypeId} {sz bytes : Nat} {z l c : AV} {cl cc : Value} (H : RelH P B φ h w) (hu : P.underlying t = some (.slice e)) (hs : sizeT P e = some sz) (hb : bytesT P e = some bytes) (hz : zeroT P e = some z) (hl : RelV φ l cl) (hc : RelV φ c cc)
    (he : mkslA h sz bytes z.cells l c = some (v, h')) : SimV P B φ h' v w ((Instr.makeSlice t cl cc).run P w) := by
  obtain ⟨ob, rfl, _⟩ := mkslA_push he
  have := mksl_fill (H.pushGhost ob) hu hs hb hz hl hc he (Base.add_same _ _ _)
  rwa [Base.del_add H.noGhost] at this
end
end Go.Ab
