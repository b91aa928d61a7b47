/-
  Texts that the claim hangs on, part 1.
-/
import GoSem.Core.Region
import GoSem.Core.View
import GoSem.Op.Shift
import GoSem.Dispatch
import Derived.WalkKit
import Derived.RangeFuncLeaves
import Derived.RangeFuncRecord
set_option linter.unusedSimpArgs false
set_option linter.unusedVariables false
namespace Go.Ab
inductive PT (α:Type) where
 |lf
 |nd (l:PT α) (v:Option α) (r:PT α)
def PT.get {α:Type}:PT α→Nat→Option α
 | .lf,_=>none
 | .nd l v r,n=>
   match n with
   |0=>v
   |k+1=>bif Nat.beq (Nat.mod k 2) 0 then l.get (Nat.div k 2) else r.get (Nat.div k 2)
def PT.setF {α:Type}:Nat→PT α→Nat→Option α→PT α
 |0,t,_,_=>t
 |f+1, .lf,n,x=>
  match n with
  |0=> .nd .lf x .lf
  |k+1=>bif Nat.beq (Nat.mod k 2) 0 then .nd (PT.setF f .lf (Nat.div k 2) x) none .lf else .nd .lf none (PT.setF f .lf (Nat.div k 2) x)
 |f+1, .nd l v r,n,x=>
  match n with
  |0=> .nd l x r
  |k+1=>bif Nat.beq (Nat.mod k 2) 0 then .nd (PT.setF f l (Nat.div k 2) x) v r else .nd l v (PT.setF f r (Nat.div k 2) x)
def PT.set {α:Type} (t:PT α) (n:Nat) (x:α):PT α:=PT.setF (n+1) t n (some x)
def nth {α:Type}:List α→Nat→Option α
 | [],_=>none
 |x :: l,n=>match n with |0=>some x |k+1=>nth l k
inductive Qa where
 |func (f:Nat)
 |yield (id:Nat)
inductive AV where
 |bool (b:Bool)
 |int (k:IntKind) (n:Int)
 |str (s:List Nat)
 |ptr (id g i o:Nat)
 |nilPtr
 |slc (id g s len cap:Nat) (ex:Bool)
 |nilSlc
 |emp
 |map (id:Nat)
 |nilMap
 |itr (id:Nat)
 |fn (f:Qa) (first captured:List AV)
 |nilFn
 |agg (l:List AV)
 |tup (l:List AV)
 |nilIf
 |ifc (t:Nat) (v:AV)
 deriving Inhabited
def AV.cells:AV→List AV
 | .agg l=>l
 |v=>[v]
def AV.leaf:AV→Bool
 | .agg _ | .tup _=>false
 |_=>true
def aV:List AV→Bool
 | []=>true
 |v :: l=>bif v.leaf then aV l else false
inductive gJ where
 |t (r:Nat)
 |c (v:AV)
inductive K0 where
 |int |str |bool
inductive KK where
 |leaf (k:K0)
 |st (ks:List K0)
inductive Vp where
 |bool |ptr |slc |map |fn
 |agg (ks:List K0)
inductive rU where
 |mv (x:gJ)
 |pick (c a b:gJ)
 |alloc (z:List AV)
 |box (n:Nat) (x:gJ)
 |build (z:List AV) (parts:List (Nat×Nat×gJ))
 |bslice (n sz:Nat) (z:List AV) (parts:List (Nat×gJ))
 |load (ag:Bool) (n:Nat) (a:gJ)
 |store (n:Nat) (a v:gJ)
 |nilck (x:gJ)
 |bin (op:BinOp) (x y:gJ)
 |eq (neg:Bool) (k:Vp) (x y:gJ)
 |not (x:gJ)
 |neg (x:gJ)
 |conv (k:IntKind) (x:gJ)
 |b2s (x:gJ)
 |cvs (x:gJ)
 |mkfn (f:Nat) (first cap:List gJ)
 |mkmap
 |mksl (sz bytes:Nat) (z:List AV) (l c:gJ)
 |sl (sz:Nat) (x:gJ) (lo hi mx:Option gJ)
 |sls (x:gJ) (lo hi:Option gJ)
 |fadr (off:Nat) (x:gJ)
 |fld (ag:Bool) (off n:Nat) (x:gJ)
 |iadr (sz:Nat) (x i:gJ)
 |iadra (len esz:Nat) (x i:gJ)
 |idxs (x i:gJ)
 |idxa (ag:Bool) (len esz:Nat) (x i:gJ)
 |look (kk:KK) (ok:Bool) (z:AV) (m k:gJ)
 |mupd (kk:KK) (m k v:gJ)
 |ext (x:gJ) (i:Nat)
 |len (k:Nat) (x:gJ)
 |cap (x:gJ)
 |app (sz bytes:Nat) (s x:gJ)
 |appz (sz bytes:Nat) (z:List AV) (s x:gJ)
 |copy (sz:Nat) (d s:gJ)
 |del (kk:KK) (m k:gJ)
 |clr (sz:Nat) (z:List AV) (x:gJ)
 |mm (mx:Bool) (xs:List gJ)
 |allot (t:Nat) (z:List AV)
 |appb (e:Nat) (s x:gJ)
 |uto (x:gJ)
 |ufr (t n:Nat) (x:gJ)
 |sdat (x:gJ)
 |ustr (e:Nat) (p n:gJ)
 |rng (x:gJ)
 |ent (x:gJ)
 |nxt (x:gJ)
 |fail
 |call (f:gJ) (args:List gJ)
structure dA where
 dst:Option Nat
 op:rU
 grd:Option (Nat×Bool)
inductive dO where
 |skip
 |reg (ops:List dA)
 |dreg (n0:List dA) (rest:List (dA×List dA×List dA))
 |seq (a b:dO)
 |cond (c:gJ) (a b:dO)
 |block (id:Nat) (c:dO)
 |loop (c:dO)
 |rf (f:gJ) (ps:List Nat) (asg body:dO)
 |exit (id:Nat)
 |scope (c:dO) (l:Nat) (r:dO)
 |label (l:Nat)
 |goto (l:Nat)
 |ret
 |refuse
 |keep (ks:List Nat) (c:dO)
inductive qC where
 |normal
 |ret
 |exit (id:Nat)
 |goto (l:Nat)
inductive AX where
 |ready
 |busy
 |done (x:qC)
 |exh
structure Row where
 es:List (List AV)
 sz:Nat
 g:Nat
 m:Nat
 rw:Bool
 ty:Option Nat:=none
structure VI where
 regs:PT AV
 ps:List Nat
 asg:dO
 body:dO
 st:AX
inductive iq where
 |row (r:Row)
 |map (es:List (AV×AV×Nat)) (clock:Nat)
 |iter (m:Option Nat) (since:Nat) (seen:List Nat) (stepped:Nat)
 |loop (l:VI)
 |gone
 |rmap (es:List (AV×AV×Nat)) (clock:Nat)
 |dead
structure aj where
 sz:Nat
 t:PT iq
def aj.get (h:aj) (id:Nat):Option iq:=h.t.get id
def aj.put (h:aj) (id:Nat) (o:iq):aj:={h with t:=h.t.set id o}
def aj.push (h:aj) (o:iq):aj:={sz:=h.sz+1,t:=h.t.set h.sz o}
def aj.row (h:aj) (id:Nat):Option Row:=match h.get id with |some (.row r)=>some r |_=>none
def aj.empty:aj:={sz:=0,t:= .lf}
structure St where
 regs:PT AV
 h:aj
abbrev dY:=PT AV
def ev (ρ:dY):gJ→Option AV
 | .t r=>ρ.get r
 | .c v=>some v
def evs (ρ:dY):List gJ→Option (List AV)
 | []=>some []
 |x :: l=>match ev ρ x with
  |some v=>match evs ρ l with
   |some vs=>some (v :: vs)
   |none=>none
  |none=>none
def rC:IntKind→Nat
 | .i8=>0 | .i16=>1 | .i32=>2 | .i64=>3 | .u8=>4 | .u16=>5 | .u32=>6 | .u64=>7
def DW:IntKind→Int→Bool
 | .i64, .ofNat m=>Nat.ble m 9223372036854775807
 | .i64, .negSucc m=>Nat.ble m 9223372036854775807
 | .u8, .ofNat m=>Nat.ble m 255
 | .u64, .ofNat m=>Nat.ble m 18446744073709551615
 | .i32, .ofNat m=>Nat.ble m 2147483647
 | .u32, .ofNat m=>Nat.ble m 4294967295
 |_,_=>false
def gV (k:IntKind) (n:Int):Int:=bif DW k n then n else k.wrap n
def tF:Int→Int→Bool
 | .ofNat a, .ofNat b=>Nat.blt a b
 | .ofNat _, .negSucc _=>false
 | .negSucc _, .ofNat _=>true
 | .negSucc a, .negSucc b=>Nat.blt b a
def BG:Int→Int→Bool
 | .ofNat a, .ofNat b=>Nat.beq a b
 | .negSucc a, .negSucc b=>Nat.beq a b
 |_,_=>false
def Vo (op:BinOp) (k:IntKind) (x y:Int):Option Int:=
 match op with
 | .and=>some (k.wrap (BitVec.ofInt k.bits x&&& BitVec.ofInt k.bits y).toNat)
 | .or=>some (k.wrap (BitVec.ofInt k.bits x|||BitVec.ofInt k.bits y).toNat)
 | .xor=>some (k.wrap (BitVec.ofInt k.bits x ^^^ BitVec.ofInt k.bits y).toNat)
 | .andNot=>some (k.wrap (BitVec.ofInt k.bits x&&& ~~~ BitVec.ofInt k.bits y).toNat)
 |_=>none
def xg (op:BinOp) (k:IntKind) (x y:Int):Option AV:=
 match op with
 | .add=>some (.int k (gV k (x+y)))
 | .sub=>some (.int k (gV k (x-y)))
 | .mul=>some (.int k (gV k (x*y)))
 | .quo=>bif BG y 0 then none else some (.int k (gV k (x.tdiv y)))
 | .rem=>bif BG y 0 then none else some (.int k (x.tmod y))
 | .eql=>some (.bool (BG x y))
 | .neq=>some (.bool (!BG x y))
 | .lss=>some (.bool (tF x y))
 | .leq=>some (.bool (!tF y x))
 | .gtr=>some (.bool (tF y x))
 | .geq=>some (.bool (!tF x y))
 | .shl | .shr=>none
 |op=>match Vo op k x y with
  |some n=>some (.int k n)
  |none=>none
def wz (op:BinOp) (k:IntKind) (x y:Int):Option AV:=
 bif tF y 0 then none else
  match op with
  | .shl=>some (.int k (k.wrap (x*2 ^ (min y.toNat k.bits))))
  | .shr=>some (.int k (x.fdiv (2 ^ (min y.toNat k.bits))))
  |_=>none
def BD:List Nat→List Nat→Bool
 | [],[]=>true
 |a :: l,b :: m=>bif Nat.beq a b then BD l m else false
 |_,_=>false
def Dp:List Nat→List Nat→Bool
 |_,[]=>false
 | [],_ :: _=>true
 |a :: x,b :: y=>bif Nat.blt a b then true else bif Nat.beq a b then Dp x y else false
def most:Nat:=1099511627776
def NQ (op:BinOp) (x y:List Nat):Option AV:=
 match op with
 | .add=>bif Nat.ble (x.length+y.length) most then some (.str (x++y)) else none
 | .eql=>some (.bool (BD x y))
 | .neq=>some (.bool (!BD x y))
 | .lss=>some (.bool (Dp x y))
 | .leq=>some (.bool (Dp x y||BD x y))
 | .gtr=>some (.bool (!(Dp x y||BD x y)))
 | .geq=>some (.bool (!Dp x y))
 |_=>none
def oC:BinOp→Bool
 | .shl | .shr=>true
 |_=>false
def aR (op:BinOp):AV→AV→Option AV
 | .int k a, .int j b=>bif oC op then wz op k a b else bif Nat.beq (rC k) (rC j) then xg op k a b else none
 | .str a, .str b=>NQ op a b
 |_,_=>none
def pq:AV→AV→Option Bool
 | .bool a, .bool b=>some (a==b)
 | .int k a, .int j b=>bif Nat.beq (rC k) (rC j) then some (BG a b) else none
 | .str a, .str b=>some (BD a b)
 |_,_=>none
def mI:List AV→List AV→Option Bool
 | [],[]=>some true
 |a :: l,b :: m=>match pq a b with
  |some true=>mI l m
  |some false=>some false
  |none=>none
 |_,_=>none
def qE:K0→AV→Bool
 | .int, .int _ _=>true
 | .str, .str _=>true
 | .bool, .bool _=>true
 |_,_=>false
def qW:List K0→List AV→Bool
 | [],[]=>true
 |k :: ks,v :: l=>bif qE k v then qW ks l else false
 |_,_=>false
def jD:KK→AV→Bool
 | .leaf k,v=>qE k v
 | .st ks, .agg l=>qW ks l
 |_,_=>false
def qJ:AV→AV→Option Bool
 | .agg l, .agg m=>mI l m
 |a,b=>pq a b
def QW:AV→AV→Option Bool
 | .bool a, .bool b=>some (a==b)
 |_,_=>none
def Qr (h:aj):AV→AV→Option Bool
 | .nilPtr, .nilPtr=>some true
 | .nilPtr, .ptr .. =>some false
 | .ptr .., .nilPtr=>some false
 | .ptr a g i o, .ptr b g' i' o'=>
   bif Nat.beq a b then
    match h.row a with
    |some r=>bif Nat.beq g r.g&&Nat.beq g' r.g&&Nat.blt o r.sz&&Nat.blt o' r.sz then some (Nat.beq i i'&&Nat.beq o o') else none
    |none=>none
   else match h.row a,h.row b with
    |some r,some r'=>bif r.rw&&r'.rw&&Nat.beq g r.g&&Nat.beq g' r'.g then some false else none
    |_,_=>none
 |_,_=>none
def Vi:AV→AV→Option Bool
 | .nilSlc, .nilSlc=>some true
 | .slc .., .nilSlc=>some false
 | .nilSlc, .slc .. =>some false
 | .emp, .nilSlc=>some false
 | .nilSlc, .emp=>some false
 |_,_=>none
def Vz:AV→AV→Option Bool
 | .nilMap, .nilMap=>some true
 | .map _, .nilMap=>some false
 | .nilMap, .map _=>some false
 |_,_=>none
def eqFn:AV→AV→Option Bool
 | .nilFn, .nilFn=>some true
 | .fn .., .nilFn=>some false
 | .nilFn, .fn .. =>some false
 |_,_=>none
def VD (ks:List K0):AV→AV→Option Bool
 | .agg l, .agg m=>bif qW ks l then mI l m else none
 |_,_=>none
def TN (h:aj) (k:Vp) (x y:AV):Option Bool:=
 match k with
 | .bool=>QW x y
 | .ptr=>Qr h x y
 | .slc=>Vi x y
 | .map=>Vz x y
 | .fn=>eqFn x y
 | .agg ks=>VD ks x y
def jO {α:Type}:Nat→α→List α
 |0,_=>[]
 |n+1,x=>x :: jO n x
def iH (ag:Bool) (off n:Nat) (l:List AV):Option AV:=
 bif ag then(bif Nat.ble (off+n) l.length then some (.agg ((l.drop off).take n)) else none)
 else nth l off
def au (h:aj) (ag:Bool) (n:Nat):AV→Option AV
 | .ptr id g i o=>match h.row id with
   |some r=>bif Nat.ble r.m g then
     (match nth r.es i with
     |some e=>iH ag o n e
     |none=>none)
    else none
   |none=>none
 |_=>none
def oP {α:Type}:List α→Nat→α→List α
 | [],_,_=>[]
 |x :: l,n,y=>match n with |0=>y :: l |k+1=>x :: oP l k y
def lay {α:Type} (l:List α) (n:Nat) (new:List α):List α:=l.take n++new++l.drop (n+new.length)
def bT (h:aj) (n:Nat) (a v:AV):Option aj:=
 match a with
 | .ptr id g i o=>match h.row id with
   |some r=>bif r.rw&&Nat.beq g r.g&&Nat.beq v.cells.length n&&aV v.cells then
     (match nth r.es i with
     |some e=>bif Nat.ble (o+n) e.length then some (h.put id (.row {r with es:=oP r.es i (lay e o v.cells),m:=r.g})) else none
     |none=>none)
    else none
   |none=>bif Nat.beq n 0&&Nat.beq v.cells.length 0 then some h else none
 |_=>none
def newRow (h:aj) (es:List (List AV)) (sz:Nat) (ty:Option Nat:=none):aj:=h.push (.row {es,sz,g:=0,m:=0,rw:=true,ty})
def vO (h:aj) (z:List AV):Option (AV×aj):=
 bif Nat.beq z.length 0 then some (.ptr h.sz 0 0 0,h.push .gone) else bif aV z then some (.ptr h.sz 0 0 0,newRow h [z] z.length) else none
def ng:Option Nat→Option Nat→Option Nat
 |some a,some b=>bif Nat.beq a b then some a else none
 |_,_=>none
def iY (h:aj) (n:Nat) (v:AV):Option (AV×aj):=
 bif Nat.beq v.cells.length n&&aV v.cells&&Nat.blt 0 n then some (.ptr h.sz 0 0 0,newRow h [v.cells] n) else none
def rT (ρ:dY) (cells:List AV):List (Nat×Nat×gJ)→Option (List AV)
 | []=>some cells
 |(off,n,x) :: rest=>match ev ρ x with
  |some v=>bif Nat.beq v.cells.length n&&Nat.ble (off+n) cells.length&&aV v.cells then rT ρ (lay cells off v.cells) rest else none
  |none=>none
def jR (ρ:dY) (sz:Nat) (es:List (List AV)):List (Nat×gJ)→Option (List (List AV))
 | []=>some es
 |(i,x) :: rest=>match ev ρ x with
  |some v=>bif Nat.beq v.cells.length sz&&Nat.blt i es.length&&aV v.cells then jR ρ sz (oP es i v.cells) rest else none
  |none=>none
def asNat:AV→Option Nat
 | .int _ (.ofNat n)=>some n
 |_=>none
def kT (ρ:dY) (d:Nat):Option gJ→Option Nat
 |none=>some d
 |some x=>match ev ρ x with
  |some v=>asNat v
  |none=>none
def jo (h:aj) (id sz:Nat):Bool:=
 match h.row id with
 |some r=>Nat.beq r.sz sz
 |none=>false
def tN (ρ:dY) (h:aj) (sz:Nat) (x:AV) (lo hi mx:Option gJ):Option AV:=
 match x with
 | .slc id g s len cap ex=>
   bif jo h id sz then
   match mx with
   |some m=>match kT ρ 0 (some m),kT ρ len hi,kT ρ 0 lo with
    |some m,some h,some l=>bif Nat.ble l h&&Nat.ble h m&&Nat.ble m cap&&hi.isSome then some (.slc id g (s+l) (h-l) (m-l) true) else none
    |_,_,_=>none
   |none=>match kT ρ len hi,kT ρ 0 lo with
    |some h,some l=>bif Nat.ble l h&&Nat.ble h cap then some (.slc id g (s+l) (h-l) (cap-l) ex) else none
    |_,_=>none
   else none
 | .nilSlc=>
   match kT ρ 0 mx,kT ρ 0 hi,kT ρ 0 lo with
   |some 0,some 0,some 0=>bif mx.isNone||hi.isSome then some .nilSlc else none
   |_,_,_=>none
 | .emp=>
   match kT ρ 0 mx,kT ρ 0 hi,kT ρ 0 lo with
   |some 0,some 0,some 0=>bif mx.isNone||hi.isSome then some .emp else none
   |_,_,_=>none
 |_=>none
def Ay (ρ:dY) (x:AV) (lo hi:Option gJ):Option AV:=
 match x with
 | .str s=>match kT ρ s.length hi,kT ρ 0 lo with
   |some h,some l=>bif Nat.ble l h&&Nat.ble h s.length then some (.str ((s.take h).drop l)) else none
   |_,_=>none
 |_=>none
def source (h:aj) (sz:Nat):AV→Option (List (List AV))
 | .nilSlc=>some []
 | .emp=>some []
 | .slc id g s len _ _=>bif Nat.beq len 0 then some [] else match h.row id with
   |some r=>bif Nat.ble r.m g&&Nat.beq r.sz sz then(let l:=(r.es.drop s).take len;bif Nat.beq l.length len then some l else none) else none
   |none=>none
 | .str s=>bif Nat.beq sz 1 then some (s.map fun b=>[.int .u8 (.ofNat b)]) else none
 |_=>none
def eZ (h:aj) (sz bytes:Nat) (s:AV) (new:List (List AV)) (ty:Option Nat:=none):Option (AV×aj):=
 match s with
 | .nilSlc=>match new with
   | []=>some (.nilSlc,h)
   |_=>bif Nat.ble (new.length*bytes) most&&Nat.ble new.length most then some (.slc h.sz 0 0 new.length new.length false,newRow h new sz ty) else none
 | .emp=>match new with
   | []=>some (.emp,h)
   |_=>bif Nat.ble (new.length*bytes) most&&Nat.ble new.length most then some (.slc h.sz 0 0 new.length new.length false,newRow h new sz ty) else none
 | .slc id g st len cap ex=>
   match new with
   | []=>some (s,h)
   |_=>match h.row id with
    |none=>none
    |some r=>
     bif Nat.ble ((len+new.length)*bytes) most&&Nat.ble (len+new.length) most&&Nat.beq r.sz sz then
      bif Nat.ble (len+new.length) cap then
       (bif r.rw&&Nat.beq g r.g then some (.slc id g st (len+new.length) cap ex,h.put id (.row {r with es:=lay r.es (st+len) new,m:=r.g})) else none)
      else bif ex then
       (bif Nat.ble r.m g then(let old:=(r.es.drop st).take len;bif Nat.beq old.length len then some (.slc h.sz 0 0 (len+new.length) (len+new.length) false,newRow h (old++new) sz ty) else none) else none)
      else bif r.rw&&Nat.beq g r.g&&Nat.beq st 0 then
       (bif Nat.beq len r.es.length then some (.slc id (r.g+1) 0 (len+new.length) (len+new.length) false,h.put id (.row {r with es:=r.es++new,g:=r.g+1,ty:=ng r.ty ty}))
       else some (.slc id (r.g+1) 0 (len+new.length) (len+new.length) false,h.put id (.row {r with es:=r.es.take len++new,g:=r.g+1,m:=r.g+1,ty:=ng r.ty ty})))
      else none
     else none
 |_=>none
def cK (h:aj) (sz bytes:Nat) (s x:AV) (ty:Option Nat:=none):Option (AV×aj):=
 bif Nat.beq sz 0 then none else
 match source h sz x with
 |none=>none
 |some new=>eZ h sz bytes s new ty
def nO (h:aj) (sz id g st:Nat) (new:List (List AV)):Option aj:=
 match h.row id with
 |some r=>bif r.rw&&Nat.beq g r.g&&Nat.beq r.sz sz&&Nat.ble (st+new.length) r.es.length then some (h.put id (.row {r with es:=lay r.es st new,m:=r.g})) else none
 |none=>none
def Oi (h:aj) (sz:Nat) (d s:AV):Option (AV×aj):=
 bif Nat.beq sz 0 then none else
 match source h sz s with
 |none=>none
 |some src=>match d with
  | .nilSlc=>some (.int .i64 0,h)
  | .emp=>some (.int .i64 0,h)
  | .slc id g st len _ _=>
    let new:=src.take len
    match new with
    | []=>some (.int .i64 0,h)
    |_=>match nO h sz id g st new with
     |some h'=>some (.int .i64 (.ofNat new.length),h')
     |none=>none
  |_=>none
def DR (h:aj) (sz bytes:Nat) (z:List AV) (s x:AV):Option (AV×aj):=
 bif Nat.blt 0 sz&&Nat.beq z.length sz&&aV z then
  (match asNat x with
  |some n=>bif Nat.ble n most&&Nat.ble (n*bytes) most then eZ h sz bytes s (jO n z) else none
  |none=>none)
 else none
def jw (k:AV):List (AV×AV×Nat)→Option (Option AV)
 | []=>some none
 |(k',v,_) :: l=>match qJ k k' with
  |some true=>some (some v)
  |some false=>jw k l
  |none=>none
def sS (k v:AV):List (AV×AV×Nat)→List (AV×AV×Nat)
 | []=>[]
 |(k',v',b) :: l=>match qJ k k' with
  |some true=>(k,v,b) :: l
  |_=>(k',v',b) :: sS k v l
def Bp (k:AV):List (AV×AV×Nat)→List (AV×AV×Nat)
 | []=>[]
 |(k',v',b) :: l=>match qJ k k' with
  |some true=>l
  |_=>(k',v',b) :: Bp k l
def mapOf (h:aj):AV→Option (List (AV×AV×Nat)×Nat)
 | .map id=>match h.get id with
   |some (.map es c)=>some (es,c)
   |some (.rmap es c)=>some (es,c)
   |_=>none
 | .nilMap=>some ([],0)
 |_=>none
def fC (h:aj) (kk:KK) (ok:Bool) (z m k:AV):Option AV:=
 bif jD kk k then
  match mapOf h m with
  |some (es,_)=>match jw k es with
   |some (some v)=>some (bif ok then .tup [v, .bool true] else v)
   |some none=>some (bif ok then .tup [z, .bool false] else z)
   |none=>none
  |none=>none
 else none
def kQ (h:aj) (kk:KK) (m k v:AV):Option aj:=
 bif jD kk k then
  match m with
  | .map id=>match h.get id with
    |some (.map es c)=>match jw k es with
     |some (some _)=>some (h.put id (.map (sS k v es) c))
     |some none=>some (h.put id (.map (es++[(k,v,c)]) (c+1)))
     |none=>none
    |_=>none
  |_=>none
 else none
def Dm (h:aj) (kk:KK) (m k:AV):Option aj:=
 bif jD kk k then
  match m with
  | .nilMap=>some h
  | .map id=>match h.get id with
    |some (.map es c)=>match jw k es with
     |some (some _)=>some (h.put id (.map (Bp k es) c))
     |some none=>some h
     |none=>none
    |_=>none
  |_=>none
 else none
def dw (h:aj) (k:Nat) (x:AV):Option AV:=
 match k,x with
 |0, .str s=>some (.int .i64 (.ofNat s.length))
 |1, .slc _ _ _ n _ _=>some (.int .i64 (.ofNat n))
 |1, .nilSlc=>some (.int .i64 0)
 |1, .emp=>some (.int .i64 0)
 |2, .nilMap=>some (.int .i64 0)
 |2, .map id=>match h.get id with
  |some (.map es _)=>some (.int .i64 (.ofNat es.length))
  |some (.rmap es _)=>some (.int .i64 (.ofNat es.length))
  |_=>none
 |_,_=>none
def JK:AV→Option AV
 | .nilSlc=>some (.int .i64 0)
 | .emp=>some (.int .i64 0)
 | .slc _ _ _ _ c true=>some (.int .i64 (.ofNat c))
 |_=>none
def bytesOf:List (List AV)→Option (List Nat)
 | []=>some []
 | [.int .u8 (.ofNat n)] :: l=>match bytesOf l with
   |some r=>bif Nat.blt n 256 then some (n :: r) else none
   |none=>none
 |_=>none
def XP (mx:Bool):AV→List AV→Option AV
 | .int k a,[]=>some (.int k a)
 | .int k a, .int j b :: l=>bif Nat.beq (rC k) (rC j) then XP mx (.int k (bif mx then(bif tF a b then b else a) else(bif tF b a then b else a))) l else none
 |_,_=>none
def dQ (o:Option AV) (h:aj):Option (AV×aj):=
 match o with
 |some v=>some (v,h)
 |none=>none
def unit (o:Option aj):Option (AV×aj):=
 match o with
 |some h=>some (.tup [],h)
 |none=>none
def zK (ρ:dY) (x:gJ) (f:AV→Option AV):Option AV:=
 match ev ρ x with
 |some v=>f v
 |none=>none
def Tk (ρ:dY) (x y:gJ) (f:AV→AV→Option AV):Option AV:=
 match ev ρ x with
 |some v=>(match ev ρ y with
  |some w=>f v w
  |none=>none)
 |none=>none
def fT:AV→Option AV
 | .bool b=>some (.bool (!b))
 |_=>none
def U8:AV→Option AV
 | .int k n=>some (.int k (gV k (0-n)))
 |_=>none
def lW (k:IntKind):AV→Option AV
 | .int _ n=>some (.int k (gV k n))
 |_=>none
def WT:AV→Option AV
 | .str s=>some (.str s)
 |_=>none
def bK:AV→Option AV
 | .nilPtr=>none
 | .nilFn=>none
 | .nilIf=>none
 |v=>some v
def aH (off:Nat):AV→Option AV
 | .ptr id g i o=>some (.ptr id g i (o+off))
 |_=>none
def Qe (ag:Bool) (off n:Nat):AV→Option AV
 | .agg l=>iH ag off n l
 |_=>none
def bS (h:aj) (sz:Nat):AV→AV→Option AV
 | .slc id g s len _ _,v=>match asNat v with
   |some i=>bif Nat.blt i len&&jo h id sz then some (.ptr id g (s+i) 0) else none
   |none=>none
 |_,_=>none
def Fx (len esz:Nat):AV→AV→Option AV
 | .ptr id g j o,v=>match asNat v with
   |some i=>bif Nat.blt i len then some (.ptr id g j (o+i*esz)) else none
   |none=>none
 |_,_=>none
def C9:AV→AV→Option AV
 | .str s,v=>match asNat v with
   |some i=>match nth s i with
    |some b=>some (.int .u8 (.ofNat b))
    |none=>none
   |none=>none
 |_,_=>none
def NT (ag:Bool) (len esz:Nat):AV→AV→Option AV
 | .agg l,v=>match asNat v with
   |some i=>bif Nat.blt i len then iH ag (i*esz) esz l else none
   |none=>none
 |_,_=>none
def gX (i:Nat):AV→Option AV
 | .tup l=>nth l i
 |_=>none
def K8 (h:aj) (v:AV):Option AV:=
 match v with
 | .nilSlc=>some (.str [])
 | .emp=>some (.str [])
 | .slc .. =>match source h 1 v with
   |some l=>match bytesOf l with
    |some s=>some (.str s)
    |none=>none
   |none=>none
 |_=>none
def Uv (h:aj):AV→Option AV
 | .nilPtr=>some .nilPtr
 | .ptr id g i o=>match h.row id with
   |some r=>bif r.rw&&Nat.ble r.m g&&Nat.beq g r.g&&Nat.blt i r.es.length&&Nat.blt o r.sz then some (.ptr id g i o) else none
   |none=>none
 |_=>none
def Ux (h:aj) (t n:Nat):AV→Option AV
 | .nilPtr=>some .nilPtr
 | .ptr id g i o=>match h.row id with
   |some r=>(match r.ty with
    |some u=>bif r.rw&&Nat.ble r.m g&&Nat.beq g r.g&&Nat.beq u t&&Nat.beq i 0&&Nat.beq o 0&&Nat.beq r.sz n&&Nat.blt 0 r.es.length then some (.ptr id g i o) else none
    |none=>none)
   |none=>none
 |_=>none
def NW:AV→Option AV
 | .nilSlc=>some .nilPtr
 | .slc id g s _ cap _=>bif Nat.blt 0 cap then some (.ptr id g s 0) else none
 |_=>none
def NC (h:aj) (e:Nat) (p n:AV):Option (AV×aj):=
 match n with
 | .int .i64 (.ofNat k)=>match p with
   | .nilPtr=>bif Nat.beq k 0 then some (.str [],h) else none
   | .ptr id g i o=>bif Nat.beq k 0 then some (.str [],h) else
     match h.row id with
     |some r=>(match r.ty with
      |some u=>bif r.rw&&Nat.beq g r.g&&Nat.beq u e&&Nat.beq i 0&&Nat.beq o 0&&Nat.beq r.sz 1&&Nat.ble k most then
        (let l:=r.es.take k
         bif Nat.beq l.length k then
          (match bytesOf l with
          |some s=>some (.str s,h.put id .gone)
          |none=>none)
         else none)
       else none
      |none=>none)
     |none=>none
   |_=>none
 |_=>none
def sG (h:aj) (sz bytes:Nat) (z:List AV) (l c:AV):Option (AV×aj):=
 match asNat l,asNat c with
 |some l,some c=>bif Nat.ble l c&&Nat.ble (c*bytes) most&&Nat.ble c most&&Nat.beq z.length sz&&Nat.blt 0 sz&&aV z then some (.slc h.sz 0 0 l c true,newRow h (jO c z) sz) else none
 |_,_=>none
def K6 (h:aj) (sz:Nat) (z:List AV) (v:AV):Option aj:=
 match v with
 | .nilSlc=>some h
 | .emp=>some h
 | .slc id g st len _ _=>bif Nat.beq len 0 then some h else bif Nat.beq z.length sz&&aV z&&Nat.blt 0 sz then nO h sz id g st (jO len z) else none
 |_=>none
def U9 (h:aj) (v:AV):Option (AV×aj):=
 match v with
 | .nilMap=>some (.itr h.sz,h.push (.iter none 0 [] 0))
 | .map id=>match h.get id with
   |some (.map _ c)=>some (.itr h.sz,h.push (.iter (some id) c [] c))
   |_=>none
 |_=>none
def nI:Nat→List Nat→Bool
 |_,[]=>false
 |n,m :: l=>bif Nat.beq n m then true else nI n l
def Dv (es:List (AV×AV×Nat)) (since:Nat) (seen:List Nat):List (Option (AV×AV×Nat)):=
 let left:=es.filter fun e=> !nI e.2.2 seen
 let old:=left.filter fun e=>Nat.blt e.2.2 since
 let new:=left.filter fun e=> !Nat.blt e.2.2 since
 (bif old.isEmpty then [none] else [])++(old++new).map some
def sM (b:Nat):List (AV×AV×Nat)→Option (AV×AV×Nat)
 | []=>none
 |e :: l=>bif Nat.beq e.2.2 b then some e else sM b l
def U4 (h:aj):AV→Option AV
 | .itr id=>match h.get id with
   |some (.iter (some m) _ (b :: _) stepped)=>match h.get m with
    |some (.map es clock)=>bif Nat.beq clock stepped then
      (match sM b es with
      |some e=>some (.tup [e.1,e.2.1])
      |none=>none)
     else none
    |_=>none
   |_=>none
 |_=>none
def dz (ρ:dY) (h:aj) (op:rU):Option (AV×aj):=
 match op with
 | .mv x=>dQ (ev ρ x) h
 | .pick c a b=>match ev ρ c with
   |some (.bool true)=>dQ (ev ρ a) h
   |some (.bool false)=>dQ (ev ρ b) h
   |_=>none
 | .alloc z=>vO h z
 | .box n x=>match ev ρ x with
   |some v=>iY h n v
   |none=>none
 | .build z parts=>match rT ρ z parts with
   |some l=>some (.agg l,h)
   |none=>none
 | .bslice n sz z parts=>bif Nat.beq z.length sz&&Nat.blt 0 sz&&Nat.ble (n*sz) 16777216&&aV z then
    (match jR ρ sz (jO n z) parts with
    |some es=>some (.slc h.sz 0 0 n n true,newRow h es sz)
    |none=>none)
   else none
 | .load ag n a=>dQ (zK ρ a (au h ag n)) h
 | .store n a v=>match ev ρ a,ev ρ v with
   |some a,some v=>unit (bT h n a v)
   |_,_=>none
 | .nilck x=>dQ (zK ρ x bK) h
 | .bin op x y=>dQ (Tk ρ x y (aR op)) h
 | .eq neg k x y=>match ev ρ x,ev ρ y with
   |some a,some b=>match TN h k a b with
    |some r=>some (.bool (bif neg then !r else r),h)
    |none=>none
   |_,_=>none
 | .not x=>dQ (zK ρ x fT) h
 | .neg x=>dQ (zK ρ x U8) h
 | .conv k x=>dQ (zK ρ x (lW k)) h
 | .b2s x=>dQ (zK ρ x (K8 h)) h
 | .cvs x=>dQ (zK ρ x WT) h
 | .mkfn f first cap=>match evs ρ first,evs ρ cap with
   |some a,some b=>some (.fn (.func f) a b,h)
   |_,_=>none
 | .mkmap=>some (.map h.sz,h.push (.map [] 0))
 | .mksl sz bytes z l c=>match ev ρ l,ev ρ c with
   |some l,some c=>sG h sz bytes z l c
   |_,_=>none
 | .sl sz x lo hi mx=>dQ (zK ρ x fun v=>tN ρ h sz v lo hi mx) h
 | .sls x lo hi=>dQ (zK ρ x fun v=>Ay ρ v lo hi) h
 | .fadr off x=>dQ (zK ρ x (aH off)) h
 | .fld ag off n x=>dQ (zK ρ x (Qe ag off n)) h
 | .iadr sz x i=>dQ (Tk ρ x i (bS h sz)) h
 | .iadra len esz x i=>dQ (Tk ρ x i (Fx len esz)) h
 | .idxs x i=>dQ (Tk ρ x i C9) h
 | .idxa ag len esz x i=>dQ (Tk ρ x i (NT ag len esz)) h
 | .look kk ok z m k=>dQ (Tk ρ m k (fC h kk ok z)) h
 | .mupd kk m k v=>match ev ρ m,ev ρ k,ev ρ v with
   |some m,some k,some v=>unit (kQ h kk m k v)
   |_,_,_=>none
 | .ext x i=>dQ (zK ρ x (gX i)) h
 | .len k x=>dQ (zK ρ x (dw h k)) h
 | .cap x=>dQ (zK ρ x JK) h
 | .app sz bytes s x=>match ev ρ s,ev ρ x with
   |some s,some x=>cK h sz bytes s x
   |_,_=>none
 | .appz sz bytes z s x=>match ev ρ s,ev ρ x with
   |some s,some x=>DR h sz bytes z s x
   |_,_=>none
 | .allot t z=>bif Nat.blt 0 z.length&&aV z then some (.ptr h.sz 0 0 0,newRow h [z] z.length (some t)) else none
 | .appb e s x=>match ev ρ s,ev ρ x with
   |some s,some x=>cK h 1 1 s x (some e)
   |_,_=>none
 | .uto x=>dQ (zK ρ x (Uv h)) h
 | .ufr t n x=>dQ (zK ρ x (Ux h t n)) h
 | .sdat x=>dQ (zK ρ x NW) h
 | .ustr e p n=>match ev ρ p,ev ρ n with
   |some p,some n=>NC h e p n
   |_,_=>none
 | .copy sz d s=>match ev ρ d,ev ρ s with
   |some d,some s=>Oi h sz d s
   |_,_=>none
 | .rng x=>match ev ρ x with
   |some v=>U9 h v
   |none=>none
 | .ent x=>dQ (zK ρ x (U4 h)) h
 | .nxt _=>none
 | .del kk m k=>match ev ρ m,ev ρ k with
   |some m,some k=>unit (Dm h kk m k)
   |_,_=>none
 | .clr sz z x=>match ev ρ x with
   |some v=>unit (K6 h sz z v)
   |none=>none
 | .mm mx xs=>match evs ρ xs with
   |some (v :: l)=>dQ (XP mx v l) h
   |_=>none
 | .fail=>none
 | .call .. =>none
def Lj:Qa→Qa→Bool
 | .func f, .func g=>Nat.beq f g
 | .yield a, .yield b=>Nat.beq a b
 |_,_=>false
mutual
def AV.same:AV→AV→Bool
 | .bool a, .bool b=>a==b
 | .int k a, .int j b=>Nat.beq (rC k) (rC j)&&BG a b
 | .str a, .str b=>BD a b
 | .ptr a b c d, .ptr a' b' c' d'=>Nat.beq a a'&&Nat.beq b b'&&Nat.beq c c'&&Nat.beq d d'
 | .nilPtr, .nilPtr=>true
 | .slc a b c d e f, .slc a' b' c' d' e' f'=>Nat.beq a a'&&Nat.beq b b'&&Nat.beq c c'&&Nat.beq d d'&&Nat.beq e e'&&(f==f')
 | .nilSlc, .nilSlc=>true
 | .emp, .emp=>true
 | .map a, .map b=>Nat.beq a b
 | .nilMap, .nilMap=>true
 | .fn f a b, .fn f' a' b'=>Lj f f'&&xP a a'&&xP b b'
 | .nilFn, .nilFn=>true
 | .agg l, .agg m=>xP l m
 | .tup l, .tup m=>xP l m
 | .nilIf, .nilIf=>true
 | .ifc t v, .ifc u w=>Nat.beq t u&&AV.same v w
 |_,_=>false
def xP:List AV→List AV→Bool
 | [],[]=>true
 |a :: l,b :: m=>AV.same a b&&xP l m
 |_,_=>false
end
abbrev aC:=AV→aj→Bool
abbrev ay:=Qa→List AV→aj→aC→Bool
abbrev TL:=AV→St→Bool
abbrev sj:=qC→St→Bool
def put (ρ:dY) (dst:Option Nat) (v:AV):dY:=
 match dst with
 |some d=>ρ.set d v
 |none=>ρ
def gB (ρ:dY):Option (Nat×Bool)→Option Bool
 |none=>some true
 |some (d,b)=>match ρ.get d with
  |some (.bool c)=>some (c==b)
  |some _=>some false
  |none=>none
def AZ (h:aj) (v:AV) (K:aC):Bool:=
 match v with
 | .itr id=>match h.get id with
   |some (.iter none _ _ _)=>K (.tup [.bool false]) h
   |some (.iter (some m) since seen last)=>match h.get m with
    |some (.map es clock)=>
     bif !seen.isEmpty&& !es.isEmpty&&es.all (fun e=> !Nat.blt e.2.2 last) then false
     else(Dv es since seen).all fun
      |none=>K (.tup [.bool false]) h
      |some e=>K (.tup [.bool true,e.1,e.2.1]) (h.put id (.iter (some m) since (e.2.2 :: seen) clock))
    |_=>false
   |_=>false
 |_=>false
def kL (call:ay) (ρ:dY) (h:aj) (op:rU) (K:aC):Bool:=
 match op with
 | .call f args=>match ev ρ f,evs ρ args with
   |some (.fn tgt first cap),some as=>call tgt (first++as++cap) h K
   |_,_=>false
 | .nxt x=>match ev ρ x with
   |some v=>AZ h v K
   |none=>false
 |op=>match dz ρ h op with
  |some (v,h')=>K v h'
  |none=>false
def gu (call:ay) (o:dA) (σ:St) (K:TL):Bool:=
 match gB σ.regs o.grd with
 |some true=>kL call σ.regs σ.h o.op fun v h'=>K v ⟨put σ.regs o.dst v,h'⟩
 |some false=>K (.tup []) ⟨put σ.regs o.dst (.tup []),σ.h⟩
 |none=>false
def l8 (call:ay):List dA→St→(St→Bool)→Bool
 | [],σ,K=>K σ
 |o :: l,σ,K=>gu call o σ fun _ σ'=>l8 call l σ' K
def vk:List dA→dY→aj→Option dY
 | [],ρ,_=>some ρ
 |o :: l,ρ,h=>match gB ρ o.grd with
  |some true=>(match dz ρ h o.op with
   |some (v,_)=>vk l (put ρ o.dst v) h
   |none=>none)
  |some false=>vk l (put ρ o.dst (.tup [])) h
  |none=>none
def mh (ρ:dY) (h:aj) (o:dA):Bool:=
 match gB ρ o.grd with
 |some true=>(match dz ρ h o.op with
  |some (v,_)=>(match o.dst with
   |some d=>(match ρ.get d with
    |some u=>AV.same v u
    |none=>false)
   |none=>true)
  |none=>false)
 |some false=>true
 |none=>false
def again (ρ:dY) (h:aj):List dA→Bool
 | []=>true
 |o :: l=>bif mh ρ h o then again ρ h l else false
def jy (l:List dA) (ρ:dY) (h:aj) (K:dY→Bool):Bool:=
 match vk l ρ h with
 |some ρ'=>K ρ'
 |none=>false
def nZ (call:ay):List (dA×List dA×List dA)→St→(St→Bool)→Bool
 | [],σ,K=>K σ
 |(act,chk,ns) :: rest,σ,K=>gu call act σ fun _ σ'=>
    bif again σ'.regs σ'.h chk then
     (match vk ns σ'.regs σ'.h with
     |some ρ=>nZ call rest ⟨ρ,σ'.h⟩ K
     |none=>false)
    else false
def iter (f:St→sj→Bool) (K:sj):Nat→St→Bool
 |0,_=>false
 |n+1,σ=>f σ fun x σ'=>match x with
  | .normal=>iter f K n σ'
  |x=>K x σ'
def pJ (l:Nat) (f:St→sj→Bool) (K:sj):Nat→St→Bool
 |0,_=>false
 |n+1,σ=>f σ fun x σ'=>match x with
  | .goto l'=>bif Nat.beq l' l then pJ l f K n σ' else false
  |x=>K x σ'
def keepR:List Nat→dY→dY
 | [],_=> .lf
 |k :: ks,ρ=>match ρ.get k with
  |some v=>(keepR ks ρ).set k v
  |none=>keepR ks ρ
def dU (call:ay) (n:Nat):dO→St→sj→Bool
 | .skip,σ,K=>K .normal σ
 | .reg ops,σ,K=>l8 call ops σ (K .normal)
 | .dreg n0 rest,σ,K=>match vk n0 σ.regs σ.h with
   |some ρ=>nZ call rest ⟨ρ,σ.h⟩ (K .normal)
   |none=>false
 | .seq a b,σ,K=>dU call n a σ fun x σ'=>match x with
   | .normal=>dU call n b σ' K
   |x=>K x σ'
 | .cond c a b,σ,K=>match ev σ.regs c with
   |some (.bool true)=>dU call n a σ K
   |some (.bool false)=>dU call n b σ K
   |_=>false
 | .block id c,σ,K=>dU call n c σ fun x σ'=>match x with
   | .exit i=>bif Nat.beq i id then K .normal σ' else K (.exit i) σ'
   |x=>K x σ'
 | .loop c,σ,K=>iter (dU call n c) K n σ
 | .rf f ps asg body,σ,K=>match ev σ.regs f with
   |some (.fn (.func fid) first cap)=>
    call (.func fid) (first++[.fn (.yield σ.h.sz) [] []]++cap) (σ.h.push (.loop {regs:=σ.regs,ps,asg,body,st:= .ready})) fun _ h'=>
     match h'.get σ.h.sz with
     |some (.loop l)=>match l.st with
      | .ready=>K .normal ⟨σ.regs,h'.put σ.h.sz (.loop {l with st:= .exh})⟩
      | .done x=>K x ⟨σ.regs,h'.put σ.h.sz (.loop {l with st:= .exh})⟩
      |_=>false
     |_=>false
   |_=>false
 | .exit id,σ,K=>K (.exit id) σ
 | .scope c l r,σ,K=>dU call n c σ fun x σ'=>match x with
   | .goto l'=>bif Nat.beq l' l then pJ l (dU call n r) K n σ' else false
   |x=>K x σ'
 | .label _,σ,K=>K .normal σ
 | .goto l,σ,K=>K (.goto l) σ
 | .ret,σ,K=>K .ret σ
 | .refuse,_,_=>false
 | .keep ks c,σ,K=>dU call n c ⟨keepR ks σ.regs,σ.h⟩ K
def strip:dO→dO
 | .keep _ c=>strip c
 | .seq a b=> .seq (strip a) (strip b)
 | .cond c a b=> .cond c (strip a) (strip b)
 | .block id c=> .block id (strip c)
 | .loop c=> .loop (strip c)
 | .rf f ps asg body=> .rf f ps (strip asg) (strip body)
 | .scope c l r=> .scope (strip c) l (strip r)
 | .skip=> .skip
 | .reg ops=> .reg ops
 | .dreg n0 rest=> .dreg n0 rest
 | .exit id=> .exit id
 | .label l=> .label l
 | .goto l=> .goto l
 | .ret=> .ret
 | .refuse=> .refuse
structure dW where
 np:Nat
 res:List (Nat×Option (Bool×Nat))
 body:dO
structure Env where
 code:Nat→Option dW
 prim:Nat→Option (ay→Nat→List AV→aj→aC→Bool)
def bW (fn:dW):dW:={fn with body:=strip fn.body}
def vH:Nat→List AV→dY→dY
 |_,[],ρ=>ρ
 |i,v :: l,ρ=>vH (i+1) l (ρ.set i v)
def wM (ρ:dY) (h:aj):Nat×Option (Bool×Nat)→Option AV
 |(t,none)=>ρ.get t
 |(t,some (ag,n))=>match ρ.get t with
  |some a=>au h ag n a
  |none=>none
def iT (ρ:dY) (h:aj):List (Nat×Option (Bool×Nat))→Option (List AV)
 | []=>some []
 |r :: l=>match wM ρ h r with
  |some v=>match iT ρ h l with
   |some vs=>some (v :: vs)
   |none=>none
  |none=>none
def oneOf:List AV→AV
 | [v]=>v
 |l=> .tup l
def vw:List Nat→List AV→dY→Option dY
 | [],[],ρ=>some ρ
 |p :: ps,v :: vs,ρ=>vw ps vs (ρ.set p v)
 |_,_,_=>none
def aD (E:Env):Nat→ay
 |0=>fun _ _ _ _=>false
 |n+1=>fun tgt args h K=>
  match tgt with
  | .func f=>match E.prim f with
    |some p=>p (aD E n) n args h K
    |none=>match E.code f with
     |none=>false
     |some fn=>bif Nat.beq args.length fn.np then
       dU (aD E n) n fn.body ⟨vH 0 args .lf,h⟩ fun x σ=>match x with
        | .normal=>(match iT σ.regs σ.h fn.res with
          |some l=>K (oneOf l) σ.h
          |none=>false)
        | .ret=>(match iT σ.regs σ.h fn.res with
          |some l=>K (oneOf l) σ.h
          |none=>false)
        |_=>false
      else false
  | .yield id=>match h.get id with
    |some (.loop l)=>match l.st with
     | .ready=>match vw l.ps args l.regs with
       |some ρ=>dU (aD E n) n l.asg ⟨ρ,h⟩ fun x σ=>match x with
        | .normal=>(match σ.h.get id with
          |some (.loop l1)=>match l1.st with
           | .ready=>dU (aD E n) n l.body ⟨σ.regs,σ.h.put id (.loop {l1 with st:= .busy})⟩ fun x σ2=>
             match σ2.h.get id with
             |some (.loop l2)=>match x with
              | .normal=>K (.bool true) (σ2.h.put id (.loop {l2 with st:= .ready}))
              |x=>K (.bool false) (σ2.h.put id (.loop {l2 with st:= .done x}))
             |_=>false
           |_=>false
          |_=>false)
        |_=>false
       |none=>false
     |_=>false
    |_=>false
mutual
def mQ:Value→Option AV
 | .bool b=>some (.bool b)
 | .int k n=>some (.int k n)
 | .string s=>some (.str (s.data.toList.map UInt8.toNat))
 | .pointer none=>some .nilPtr
 | .slice none 0 0=>some .nilSlc
 | .map none=>some .nilMap
 | .nilFunc=>some .nilFn
 | .nilIface=>some .nilIf
 | .agg ⟨l⟩=>match xD l with
   |some r=>some (.agg r)
   |none=>none
 | .tuple ⟨l⟩=>match xD l with
   |some r=>some (.tup r)
   |none=>none
 |_=>none
def xD:List Value→Option (List AV)
 | []=>some []
 |v :: l=>match mQ v with
  |some a=>match xD l with
   |some r=>some (a :: r)
   |none=>none
  |none=>none
end
def bX:Operand→Option gJ
 | .tmp t=>some (.t t)
 | .const v=>match mQ v with
   |some a=>some (.c a)
   |none=>none
 | .global _=>none
 | .func f=>some (.c (.fn (.func f) [] []))
def kN:List Operand→Option (List gJ)
 | []=>some []
 |x :: l=>match bX x with
  |some a=>match kN l with
   |some r=>some (a :: r)
   |none=>none
  |none=>none
def mO:Option Operand→Option (Option gJ)
 |none=>some none
 |some x=>match bX x with
  |some a=>some (some a)
  |none=>none
def kr (P:Program) (t:TypeId):Option Bool:=
 match P.underlying t with
 |some (.struct _)=>some true
 |some (.array _ _)=>some true
 |some _=>some false
 |none=>none
def sizeT (P:Program) (t:TypeId):Option Nat:=(P.info? t).map (·.size)
def qP (P:Program) (t:TypeId):Option Nat:=(P.info? t).map (·.bytes)
def je (P:Program) (t:TypeId):Option AV:=
 match P.info? t with
 |some i=>match i.zero with
  |some z=>mQ z
  |none=>none
 |none=>none
def Du (P:Program) (t:TypeId):Option K0:=
 match P.underlying t with
 |some (.int _)=>some .int
 |some .string=>some .str
 |some .bool=>some .bool
 |_=>none
def xK (P:Program):Nat→List Field→Option (List K0)
 |_,[]=>some []
 |n,f :: l=>bif Nat.beq f.offset n&&(f.name != "_") then
   (match Du P f.type with
   |some k=>match xK P (n+1) l with
    |some ks=>some (k :: ks)
    |none=>none
   |none=>none)
  else none
def structOf (P:Program) (t:TypeId):Option (List K0):=
 match P.underlying t with
 |some (.struct fs)=>bif !P.stoodInHeld t&& !P.eqGuardType P.depth t then xK P 0 fs.toList else none
 |_=>none
def rY (P:Program) (t:TypeId):Option KK:=
 match Du P t with
 |some k=>some (.leaf k)
 |none=>match structOf P t with
  |some ks=>some (.st ks)
  |none=>none
def DN (P:Program) (t:TypeId):Option Vp:=
 match P.underlying t with
 |some .bool=>some .bool
 |some (.pointer e)=>match sizeT P e with
  |some (_+1)=>some .ptr
  |_=>none
 |some (.slice _)=>some .slc
 |some (.map _ _)=>some .map
 |some (.func _ _ _)=>some .fn
 |some (.struct _)=>match structOf P t with
  |some ks=>some (.agg ks)
  |none=>none
 |_=>none
def partsOf (places:List (Nat×Nat)):List (Nat×Operand)→Option (List (Nat×Nat×gJ))
 | []=>some []
 |(i,x) :: l=>match places[i]? with
  |some (off,n)=>match bX x with
   |some a=>match partsOf places l with
    |some r=>some ((off,n,a) :: r)
    |none=>none
   |none=>none
  |none=>none
def oO (esz:Nat):List (Nat×Operand)→Option (List (Nat×Nat×gJ))
 | []=>some []
 |(i,x) :: l=>match bX x with
  |some a=>match oO esz l with
   |some r=>some ((i*esz,esz,a) :: r)
   |none=>none
  |none=>none
def uH:List (Nat×Operand)→Option (List (Nat×gJ))
 | []=>some []
 |(i,x) :: l=>match bX x with
  |some a=>match uH l with
   |some r=>some ((i,a) :: r)
   |none=>none
  |none=>none
def Wz (P:Program) (t:TypeId):Bool:=match sizeT P t with |some (_+1)=>true |_=>false
def VU (P:Program) (t:TypeId):Bool:=match sizeT P t with |some 1=>true |_=>false
def zY (P:Program) (e:TypeId):Bool:=match P.underlying e with |some (.int .u8)=>true |_=>false
def um (P:Program) (t:TypeId):Bool:=Nat.blt 0 P.depth&&sameLayout P P.depth t t
def uE (z:List AV):Bool:=match z with | [.nilPtr, .nilSlc]=>true |_=>false
def lX (P:Program) (b:Builtin) (types:List TypeId) (args:List Operand):Option rU:=
 match b,types,args with
 | .len,[t],[x]=>do
   let a ←bX x
   match P.underlying t with
   |some .string=>pure (.len 0 a)
   |some (.slice _)=>pure (.len 1 a)
   |some (.map _ _)=>pure (.len 2 a)
   |some (.array n _)=>pure (.mv (.c (.int .i64 (.ofNat n))))
   |_=>none
 | .cap,[t],[x]=>do
   let a ←bX x
   match P.underlying t with
   |some (.slice _)=>pure (.cap a)
   |_=>none
 | .append,[s,t],[x,y]=>
   match bX x,bX y,P.underlying s,P.underlying t with
   |some a,some b,some (.slice e),some d=>match sizeT P e,qP P e,je P e with
    |some sz,some bytes,some z=>bif Nat.beq z.cells.length sz&&Nat.blt 0 sz then
      (match d with
      | .slice _=>some (bif zY P e&&Nat.beq sz 1&&Nat.beq bytes 1 then .appb e a b else .app sz bytes a b)
      | .string=>some (.app sz bytes a b)
      | .int _=>some (.appz sz bytes z.cells a b)
      |_=>none)
     else none
    |_,_,_=>none
   |_,_,_,_=>none
 | .copy,[s,_],[x,y]=>do
   let a ←bX x
   let b ←bX y
   match P.underlying s with
   |some (.slice e)=>pure (.copy (←sizeT P e) a b)
   |_=>none
 | .delete,[t,_],[x,y]=>do
   let a ←bX x
   let b ←bX y
   match P.underlying t with
   |some (.map k _)=>pure (.del (←rY P k) a b)
   |_=>none
 | .clear,[t],[x]=>do
   let a ←bX x
   match P.underlying t with
   |some (.slice e)=>pure (.clr (←sizeT P e) (←je P e).cells a)
   |_=>none
 | .unsafeSliceData,[_],[x]=>do pure (.sdat (←bX x))
 | .unsafeString,[t,_],[x,y]=>match bX x,bX y,P.underlying t with
   |some a,some b,some (.pointer e)=>bif zY P e&&VU P e then some (.ustr e a b) else none
   |_,_,_=>none
 | .max,_,xs=>do pure (.mm true (←kN xs))
 | .min,_,xs=>do pure (.mm false (←kN xs))
 |_,_,_=>none
def kF (P:Program) (op:Op):Option rU:=
 match op with
 | .move x | .assign x=>do pure (.mv (←bX x))
 | .pick c a b=>do pure (.pick (←bX c) (←bX a) (←bX b))
 | .alloc t=>match je P t with
   |some z=>some (bif uE z.cells then .allot t z.cells else .alloc z.cells)
   |none=>none
 | .box t x=>do pure (.box (←sizeT P t) (←bX x))
 | .build t parts=>do
   let z ←je P t
   match P.underlying t with
   |some (.struct fs)=>pure (.build z.cells (←partsOf (←fs.toList.mapM (fun f=>(P.info? f.type).map fun i=>(f.offset,i.size))) parts.toList))
   |some (.array _ e)=>pure (.build z.cells (←oO (←sizeT P e) parts.toList))
   |_=>none
 | .buildSlice t n parts=>do
   match P.underlying t with
   |some (.slice e)=>pure (.bslice n (←sizeT P e) (←je P e).cells (←uH parts.toList))
   |_=>none
 | .load t a=>do pure (.load (←kr P t) (←sizeT P t) (←bX a))
 | .store t a v=>do pure (.store (←sizeT P t) (←bX a) (←bX v))
 | .nilCheck x=>do pure (.nilck (←bX x))
 | .binOp op t x y _=>do
   let a ←bX x
   let b ←bX y
   match P.underlying t with
   |some (.int _)|some .string=>pure (.bin op a b)
   |_=>match op with
    | .eql=>do pure (.eq false (←DN P t) a b)
    | .neq=>do pure (.eq true (←DN P t) a b)
    |_=>none
 | .unOp op _ x=>do
   let a ←bX x
   match op with
   | .not=>pure (.not a)
   | .neg=>pure (.neg a)
   |_=>none
 | .convert s d x=>do
   let a ←bX x
   match P.underlying s,P.underlying d with
   |some (.int _),some (.int k)=>pure (.conv k a)
   |some .string,some .string=>pure (.cvs a)
   |some (.slice e),some .string=>match P.underlying e with
    |some (.int .u8)=>pure (.b2s a)
    |_=>none
   |some (.pointer t),some .unsafePointer=>bif Wz P t then pure (.uto a) else none
   |some .unsafePointer,some (.pointer t)=>match sizeT P t with
    |some (n+1)=>bif um P t then pure (.ufr t (n+1) a) else none
    |_=>none
   |_,_=>none
 | .makeFunc fn first cap=>match fn with
   | .func f=>do pure (.mkfn f (←kN first.toList) (←kN cap.toList))
   |_=>none
 | .makeMap _ r=>match r with
   |none=>some .mkmap
   |some _=>none
 | .makeSlice t l c=>do
   match P.underlying t with
   |some (.slice e)=>pure (.mksl (←sizeT P e) (←qP P e) (←je P e).cells (←bX l) (←bX c))
   |_=>none
 | .slice t x lo hi mx=>do
   match P.underlying t,mx with
   |some (.slice e),_=>pure (.sl (←sizeT P e) (←bX x) (←mO lo) (←mO hi) (←mO mx))
   |some .string,none=>pure (.sls (←bX x) (←mO lo) (←mO hi))
   |_,_=>none
 | .fieldAddr s x f=>do
   match P.underlying s with
   |some (.struct fs)=>match fs[f]? with
    |some fl=>match sizeT P fl.type with
     |some (_+1)=>pure (.fadr fl.offset (←bX x))
     |_=>none
    |none=>none
   |_=>none
 | .field s x f=>do
   match P.underlying s with
   |some (.struct fs)=>match fs[f]? with
    |some fl=>pure (.fld (←kr P fl.type) fl.offset (←sizeT P fl.type) (←bX x))
    |none=>none
   |_=>none
 | .indexAddr t x i=>do
   match P.underlying t with
   |some (.slice e)=>pure (.iadr (←sizeT P e) (←bX x) (←bX i))
   |some (.array n e)=>match sizeT P e with
    |some (m+1)=>pure (.iadra n (m+1) (←bX x) (←bX i))
    |_=>none
   |_=>none
 | .index t x i=>do
   match P.underlying t with
   |some .string=>pure (.idxs (←bX x) (←bX i))
   |some (.array n e)=>pure (.idxa (←kr P e) n (←sizeT P e) (←bX x) (←bX i))
   |_=>none
 | .lookup t m k ok=>do
   match P.underlying t with
   |some (.map kt e)=>pure (.look (←rY P kt) ok (←je P e) (←bX m) (←bX k))
   |_=>none
 | .mapUpdate t m k v=>do
   match P.underlying t with
   |some (.map kt _)=>pure (.mupd (←rY P kt) (←bX m) (←bX k) (←bX v))
   |_=>none
 | .extract x i=>do pure (.ext (←bX x) i)
 | .range t x=>do
   match P.underlying t with
   |some (.map _ _)=>pure (.rng (←bX x))
   |_=>none
 | .next x str=>match str with
   |false=>do pure (.nxt (←bX x))
   |true=>none
 | .entry x=>do pure (.ent (←bX x))
 | .call c=>match c.callee with
   | .builtin b=>lX P b c.argTypes.toList c.args.toList
   | .value f=>do pure (.call (←bX f) (←kN c.args.toList))
   | .invoke _ _=>none
 |_=>none
def mH:rU→Bool
 | .call .. =>true
 | .nxt _=>true
 |_=>false
def rM (P:Program) (op:Op):Option rU:=
 match kF P op with
 |some a=>bif mH a then none else some a
 |none=>none
def jM (P:Program) (op:Op):Option rU:=
 match op with
 | .call c=>match c.callee with
   | .value f=>match bX f,kN c.args.toList with
     |some g,some as=>some (.call g as)
     |_,_=>none
   |_=>rM P op
 | .next x str=>match str with
   |false=>match bX x with
    |some y=>some (.nxt y)
    |none=>none
   |true=>none
 |op=>rM P op
def kD:rU→Nat
 | .load .. | .look .. | .len .. | .eq .. | .b2s .. | .ent .. | .sl .. | .iadr .. | .uto .. | .ufr .. =>1
 | .alloc _ | .box .. | .bslice .. | .store .. | .mkmap | .mksl .. | .mupd .. | .app .. | .appz .. | .allot .. | .appb .. | .ustr .. | .copy .. | .del .. | .clr .. | .rng .. | .nxt .. | .fail | .call .. =>2
 |_=>0
def Dx (N:Nat):Option Tmp→Bool
 |none=>true
 |some d=>Nat.blt d N
def mK (P:Program) (N:Nat) (ops:Array Oper) (o:Oper):Option dA:=
 bif Dx N o.dst then
  match o.guard with
  |none=>some ⟨o.dst,(jM P o.op).getD .fail,none⟩
  |some (j,w)=>match ops[j]? with
   |some g=>match g.dst with
    |some d=>some ⟨o.dst,(jM P o.op).getD .fail,some (d,w)⟩
    |none=>none
   |none=>none
 else none
def iA (P:Program) (N:Nat) (ops:Array Oper):List Oper→Option (List dA)
 | []=>some []
 |o :: l=>match mK P N ops o with
  |some a=>match iA P N ops l with
   |some r=>some (a :: r)
   |none=>none
  |none=>none
def EF:gJ→List Nat
 | .t r=>[r]
 | .c _=>[]
def ME:List gJ→List Nat
 | []=>[]
 |x :: l=>EF x++ME l
def DC:Option gJ→List Nat
 |none=>[]
 |some x=>EF x
def tsP:List (Nat×Nat×gJ)→List Nat
 | []=>[]
 |(_,_,x) :: l=>EF x++tsP l
def tsQ:List (Nat×gJ)→List Nat
 | []=>[]
 |(_,x) :: l=>EF x++tsQ l
def X7:rU→List Nat
 | .mv x | .load _ _ x | .nilck x | .not x | .neg x | .conv _ x | .b2s x | .cvs x | .fadr _ x | .fld _ _ _ x | .ext x _ | .len _ x | .cap x | .clr _ _ x | .rng x | .ent x | .nxt x | .box _ x | .uto x | .ufr _ _ x | .sdat x=>EF x
 | .pick c a b=>EF c++EF a++EF b
 | .alloc _ | .allot _ _ | .mkmap | .fail=>[]
 | .build _ ps=>tsP ps
 | .bslice _ _ _ ps=>tsQ ps
 | .store _ x y | .bin _ x y | .eq _ _ x y | .mksl _ _ _ x y | .iadr _ x y | .iadra _ _ x y | .idxs x y | .idxa _ _ _ x y | .look _ _ _ x y | .app _ _ x y | .appb _ x y | .ustr _ x y | .appz _ _ _ x y | .copy _ x y | .del _ x y=>EF x++EF y
 | .mkfn _ l m=>ME l++ME m
 | .sl _ x a b c=>EF x++DC a++DC b++DC c
 | .sls x a b=>EF x++DC a++DC b
 | .mupd _ x y z=>EF x++EF y++EF z
 | .mm _ l=>ME l
 | .call f l=>EF f++ME l
def looks (o:dA):List Nat:=
 match o.grd with
 |some (d,_)=>d :: X7 o.op
 |none=>X7 o.op
def mP (o:dA):List Nat:=
 match o.dst with
 |some d=>[d]
 |none=>[]
def nU (ms:List Nat):List Edge→Nat
 | []=>0
 |e :: l=>bif Region.binds .any e then(nU ms l|||2 ^ e.on)|||((nth ms e.on).getD 0) else nU ms l
def masks:List Oper→List Nat→List Nat
 | [],ms=>ms
 |o :: l,ms=>masks l (ms++[nU ms o.after.toList])
def nop:dA:=⟨none, .fail,none⟩
def ao (as:List dA) (i:Nat):dA:=(nth as i).getD nop
def mk (ms:List Nat) (i:Nat):Nat:=(nth ms i).getD 0
def rW (l:List Nat) (p:Nat→Bool):Bool:=
 match l with
 | []=>true
 |i :: l=>bif p i then rW l p else false
def lT (l m:List Nat):Bool:=rW l fun i=> !nI i m
def pX (as:List dA) (i j:Nat):Bool:=lT (mP (ao as j)) (looks (ao as i))&&lT (mP (ao as j)) (mP (ao as i))
def uN (as:List dA):List Nat→Bool
 | []=>true
 |i :: l=>bif lT (mP (ao as i)) (looks (ao as i))&&Nat.blt (kD (ao as i).op) 2&&rW l (pX as i) then uN as l else false
def Us (as:List dA) (ms:List Nat) (all l:List Nat):Bool:=
 rW all fun j=>rW l fun i=>lT (mP (ao as i)) (looks (ao as j))||(mk ms j).testBit i
abbrev Plan:=List (Nat×List Nat×List Nat)
def mU (o:Oper):Bool:=
 match o.guard with
 |some _=>false
 |none=>match o.op with
  | .alloc _ | .box .. | .makeSlice .. =>true
  | .makeMap _ none=>true
  |_=>false
def qX (ops:Array Oper):List Nat:=(List.range ops.size).filter fun i=>match ops[i]? with
 |some o=>mU o
 |none=>false
def tC (as:List dA) (ms el:List Nat):List Nat→Plan→Bool
 |_,[]=>true
 |seen,(a,chk,ns) :: rest=>
  bif !nI a seen&&uN as ns
   &&rW ns (fun i=>(mk ms i).testBit a)
   &&rW seen (fun i=>((mk ms a).testBit i&& !nI a el)||(pX as i a&&rW ns (pX as i)&&(Nat.beq (kD (ao as i).op) 0||Nat.beq (kD (ao as i).op) 2||nI i chk)))
   &&rW (rest.map (·.1)) (fun b=>(mk ms b).testBit a||nI a el)
   &&(!nI a el||(lT (mP (ao as a)) (looks (ao as a))&&rW ns (pX as a))) then tC as ms el (seen++a :: ns) rest else false
def iw:Plan→List Nat
 | []=>[]
 |(a,_,ns) :: rest=>a :: ns++iw rest
def uP:Nat→List Oper→Bool
 |_,[]=>true
 |n,o :: l=>o.after.toList.all (fun e=> !Region.binds .any e||Nat.blt e.on n)&&uP (n+1) l
def Gn (m:Nat):Nat→List Nat→Nat→Nat
 |_,[],x=>x
 |k,i :: l,x=>Gn m (k+1) l (bif m.testBit i then k else x)
def WS (as:List dA) (i:Nat):Bool:=
 Nat.beq (kD (ao as i).op) 2|| !rW (List.range i) fun j=>lT (mP (ao as i)) (looks (ao as j))
def xU:Plan→List Nat
 | []=>[]
 |(_,_,ns) :: rest=>ns++xU rest
def Lr (as:List dA) (ms el:List Nat) (all acts:List Nat):Nat→List Nat→Plan
 |_,[]=>[]
 |k,a :: rest=>
  (a,all.filter (fun i=>Nat.beq (kD (ao as i).op) 1&& !nI i acts&&Nat.blt (Gn (mk ms i) 1 acts 0) k&&(nI a el|| !(mk ms a).testBit i)),
    all.filter (fun i=> !nI i acts&&Nat.beq (Gn (mk ms i) 1 acts 0) k)) :: Lr as ms el all acts (k+1) rest
def yM (ms el:List Nat):Nat→List Nat→List Nat
 |0,l=>l
 |n+1,l=>match l.find? (fun i=>nI i el&&rW l fun j=> !(mk ms i).testBit j) with
  |some i=>i :: yM ms el n (l.filter fun j=> !Nat.beq j i)
  |none=>match l with
   | []=>[]
   |a :: r=>a :: yM ms el n r
def Fv (as:List dA) (ms el:List Nat) (n:Nat) (ops:List Oper) (n0:List Nat) (pl:Plan):Bool:=
 Nat.beq as.length n&&uP 0 ops&&uN as n0&&Us as ms (List.range n) (n0++xU pl++el)&&tC as ms el n0 pl
  &&rW (List.range n) (fun i=>nI i (n0++iw pl))&&rW (n0++iw pl) (fun i=>Nat.blt i n)
def Iz (as:List dA) (ms el:List Nat) (n:Nat) (ops:List Oper) (n0:List Nat) (pl:Plan):Option dO:=
 bif Fv as ms el n ops n0 pl then some (.dreg (n0.map (ao as)) (pl.map fun(a,c,l)=>(ao as a,c.map (ao as),l.map (ao as)))) else none
def qp (as:List dA) (ops:Array Oper):Option dO:=
 let ms:=masks ops.toList []
 let el:=qX ops
 let all:=List.range ops.size
 let acts:=yM ms el ops.size (all.filter (WS as))
 Iz as ms el ops.size ops.toList (all.filter fun i=> !nI i acts&&Nat.beq (Gn (mk ms i) 1 acts 0) 0) (Lr as ms el all acts 1 acts)
def jl:dO→Nat→Option dO
 | .seq a b,l=>match jl a l with
   |some rest=>some (.seq rest b)
   |none=>jl b l
 | .label l',l=>if l'==l then some .skip else none
 |_,_=>none
def vW:dO→Option Nat
 | .goto l=>some l
 | .seq a b=>match vW a with
   |some l=>some l
   |none=>vW b
 | .cond _ a b=>match vW a with
   |some l=>some l
   |none=>vW b
 | .block _ c=>vW c
 | .loop c=>vW c
 |_=>none
def comp (P:Program) (N:Nat):Code→Option dO
 | .skip=>some .skip
 | .region _ ops draw=>match iA P N ops ops.toList with
   |some as=>bif draw then qp as ops else some (.reg as)
   |none=>none
 | .seq a b=>match comp P N a,comp P N b with
   |some x,some y=>some (.seq x y)
   |_,_=>none
 | .cond c a b=>match bX c,comp P N a,comp P N b with
   |some o,some x,some y=>some (.cond o x y)
   |_,_,_=>none
 | .block id c=>match comp P N c with
   |some x=>some (.block id x)
   |none=>none
 | .loop c=>match comp P N c with
   |some x=>some (.loop x)
   |none=>none
 | .rangeFunc f ps asg body=>match bX f,comp P N asg,comp P N body with
   |some o,some x,some y=>bif ps.toList.all (Nat.blt · N) then some (.rf o ps.toList x y) else none
   |_,_,_=>none
 | .exit id=>some (.exit id)
 | .scope c=>match comp P N c with
   |some x=>match vW x with
    |some l=>match jl x l with
     |some r=>some (.scope x l r)
     |none=>none
    |none=>none
   |none=>none
 | .label l=>some (.label l)
 | .goto l=>some (.goto l)
 | .ret=>some .ret
 | .refuse _=>some .refuse
def vB (P:Program):List ResultVar→Option (List (Nat×Option (Bool×Nat)))
 | []=>some []
 | .tmp t :: l=>do pure ((t,none) :: (←vB P l))
 | .cell a t :: l=>do pure ((a,some (←kr P t, ←sizeT P t)) :: (←vB P l))
def bC (P:Program) (fn:Func):Option dW:=
 match fn.body with
 |none=>none
 |some c=>match comp P fn.ntmps c,vB P fn.results.toList with
  |some x,some r=>bif fn.name== "runtime.NumGoroutine" then none else some ⟨fn.params.size+fn.nfree,r,x⟩
  |_,_=>none
theorem PT.get_lf {α:Type} (n:Nat):(PT.lf:PT α).get n=none:=rfl
theorem bJ {a b:Nat}:Nat.beq a b=true↔a=b:=⟨Nat.eq_of_beq_eq_true,fun h=>by subst h;exact Nat.beq_refl a⟩
theorem fO {a b:Nat}:Nat.beq a b=false↔a≠b:=by
 rw[←Bool.not_eq_true,bJ]
theorem bI {a b:Nat}:Nat.ble a b=true↔a≤b:=⟨Nat.le_of_ble_eq_true,Nat.ble_eq_true_of_le⟩
theorem dL {a b:Nat}:Nat.blt a b=true↔a<b:=by unfold Nat.blt;exact bI
theorem MW {k j:Nat} (h:k%2=j%2) (hk:k≠j):¬k/2=j/2:=by omega
theorem PT.get_setF {α:Type}:∀(f:Nat) (t:PT α) (n m:Nat) (x:Option α),n<f→(PT.setF f t n x).get m=if m=n then x else t.get m
 |0,_,n,_,_,h=>absurd h (Nat.not_lt_zero n)
 |f+1,t,n,m,x,h=>by
  cases t with
  |lf=>
   cases n with
   |zero=>cases m<;>simp[PT.setF,PT.get]
   |succ k=>
    have hd:k/2<f:=by omega
    have ih:∀m x,(PT.setF f (.lf:PT α) (Nat.div k 2) x).get m=_:=fun m x=>PT.get_setF f (.lf:PT α) (Nat.div k 2) m x hd
    rcases Nat.mod_two_eq_zero_or_one k with hk |hk<;>cases m with
    |zero=>
     have e:Nat.beq (Nat.mod k 2) 0=Nat.beq (k%2) 0:=rfl
     simp[PT.setF,PT.get,e,hk,show Nat.beq 1 0=false from rfl]
    |succ j=>
     have e:Nat.beq (Nat.mod k 2) 0=Nat.beq (k%2) 0:=rfl
     have e':Nat.beq (Nat.mod j 2) 0=Nat.beq (j%2) 0:=rfl
     rcases Nat.mod_two_eq_zero_or_one j with hj |hj
     all_goals
      simp only[PT.setF,PT.get,e,e',hk,hj,Nat.beq_refl,cond_true,ih,Nat.succ.injEq,show Nat.beq 1 0=false from rfl,cond_false]
      have d1:Nat.div k 2=k/2:=rfl
      have d2:Nat.div j 2=j/2:=rfl
      by_cases ej:j=k
      ·subst ej;first |(exfalso;omega)|simp
      ·first
        |rw[if_neg ej,if_neg (by rw[d1,d2];exact MW (by omega) ej)]
        |rw[if_neg ej]
  |nd l v r=>
   cases n with
   |zero=>cases m<;>simp[PT.setF,PT.get]
   |succ k=>
    have hd:k/2<f:=by omega
    have ihl:∀m x,(PT.setF f l (Nat.div k 2) x).get m=_:=fun m x=>PT.get_setF f l (Nat.div k 2) m x hd
    have ihr:∀m x,(PT.setF f r (Nat.div k 2) x).get m=_:=fun m x=>PT.get_setF f r (Nat.div k 2) m x hd
    rcases Nat.mod_two_eq_zero_or_one k with hk |hk<;>cases m with
    |zero=>
     have e:Nat.beq (Nat.mod k 2) 0=Nat.beq (k%2) 0:=rfl
     simp[PT.setF,PT.get,e,hk,show Nat.beq 1 0=false from rfl]
    |succ j=>
     have e:Nat.beq (Nat.mod k 2) 0=Nat.beq (k%2) 0:=rfl
     have e':Nat.beq (Nat.mod j 2) 0=Nat.beq (j%2) 0:=rfl
     rcases Nat.mod_two_eq_zero_or_one j with hj |hj
     all_goals
      simp only[PT.setF,PT.get,e,e',hk,hj,Nat.beq_refl,cond_true,ihl,ihr,Nat.succ.injEq,show Nat.beq 1 0=false from rfl,cond_false]
      have d1:Nat.div k 2=k/2:=rfl
      have d2:Nat.div j 2=j/2:=rfl
      by_cases ej:j=k
      ·subst ej;first |(exfalso;omega)|simp
      ·first
        |rw[if_neg ej,if_neg (by rw[d1,d2];exact MW (by omega) ej)]
        |rw[if_neg ej]
theorem PT.get_set {α:Type} (t:PT α) (n m:Nat) (x:α):(t.set n x).get m=if m=n then some x else t.get m:=
 PT.get_setF (n+1) t n m (some x) (Nat.lt_succ_self n)
theorem lJ {α:Type}:∀(l:List α) (n:Nat),nth l n=l[n]?
 | [],_=>by simp[nth]
 |x :: l,0=>by simp[nth]
 |x :: l,n+1=>by simp[nth,lJ l n]
theorem oF {α:Type}:∀(l:List α) (n:Nat) (y:α),oP l n y=l.set n y
 | [],_,_=>by simp[oP]
 |x :: l,0,y=>by simp[oP]
 |x :: l,n+1,y=>by simp[oP,oF l n y]
theorem uT {α:Type}:∀(n:Nat) (x:α),jO n x=List.replicate n x
 |0,_=>rfl
 |n+1,x=>by simp[jO,uT n x,List.replicate_succ]
theorem aj.get_put (h:aj) (id j:Nat) (o:iq):(h.put id o).get j=if j=id then some o else h.get j:=PT.get_set _ _ _ _
theorem aj.get_push (h:aj) (j:Nat) (o:iq):(h.push o).get j=if j=h.sz then some o else h.get j:=PT.get_set _ _ _ _
@[simp] theorem aj.sz_put (h:aj) (id:Nat) (o:iq):(h.put id o).sz=h.sz:=rfl
@[simp] theorem aj.sz_push (h:aj) (o:iq):(h.push o).sz=h.sz+1:=rfl
theorem aj.row_some {h:aj} {id:Nat} {r:Row}:h.row id=some r↔h.get id=some (.row r):=by
 unfold aj.row
 constructor
 ·intro e
  split at e
  ·rename_i r' hr;cases e;exact hr
  ·cases e
 ·intro e;rw[e]
structure Loc where
 blk:Nat
 base:Nat
 sz:Nat
 ext:Nat
 tot:Nat
abbrev eO:=Nat→Nat→Option Loc
mutual
inductive dn (φ:eO):AV→Value→Prop
 |bool (b:Bool):dn φ (.bool b) (.bool b)
 |int (k:IntKind) (n:Int):dn φ (.int k n) (.int k n)
 |str {l:List Nat} {s:ByteArray} (h:s.data.toList.map UInt8.toNat=l):dn φ (.str l) (.string s)
 |ptr {id g i o:Nat} {L:Loc} (h:φ id g=some L) (hi:i<L.ext):dn φ (.ptr id g i o) (.pointer (some ⟨L.blk,L.base+i*L.sz+o,none⟩))
 |nilPtr:dn φ .nilPtr (.pointer none)
 |slc {id g s len cap c off:Nat} {ex:Bool} {L:Loc} (h:φ id g=some L) (h1:len≤cap) (h2:s+cap≤L.ext) (h3:s+c≤L.tot) (h4:cap≤c) (h5:ex=true→c=cap) (h6:0<c→off=L.base+s*L.sz):
   dn φ (.slc id g s len cap ex) (.slice (some ⟨L.blk,off,none⟩) len c)
 |nilSlc:dn φ .nilSlc (.slice none 0 0)
 |emp {A:Addr}:dn φ .emp (.slice (some A) 0 0)
 |map {id:Nat} {L:Loc} (h:φ id 0=some L):dn φ (.map id) (.map (some L.blk))
 |nilMap:dn φ .nilMap (.map none)
 |itr {id:Nat} {L:Loc} (h:φ id 0=some L):dn φ (.itr id) (.pointer (some ⟨L.blk,0,none⟩))
 |func {f:Nat} {a b:List AV} {a' b':List Value} (ha:dH φ a a') (hb:dH φ b b'):dn φ (.fn (.func f) a b) (.func (.func f) ⟨a'⟩ ⟨b'⟩)
 |yield {id:Nat} {L:Loc} (h:φ id 0=some L):dn φ (.fn (.yield id) [] []) (.func (.yield L.blk) #[] #[])
 |nilFn:dn φ .nilFn .nilFunc
 |agg {l:List AV} {l':List Value} (h:dH φ l l'):dn φ (.agg l) (.agg ⟨l'⟩)
 |tup {l:List AV} {l':List Value} (h:dH φ l l'):dn φ (.tup l) (.tuple ⟨l'⟩)
 |nilIf:dn φ .nilIf .nilIface
 |ifc {t:Nat} {a:AV} {v:Value} (h:dn φ a v):dn φ (.ifc t a) (.iface t v)
inductive dH (φ:eO):List AV→List Value→Prop
 |nil:dH φ [] []
 |cons {a:AV} {l:List AV} {v:Value} {m:List Value} (h:dn φ a v) (t:dH φ l m):dH φ (a :: l) (v :: m)
end
def eO.le (φ ψ:eO):Prop:=∀id g L,φ id g=some L→ψ id g=some L
theorem eO.le_refl (φ:eO):φ.le φ:=fun _ _ _ h=>h
theorem eO.le_trans {φ ψ χ:eO} (h:φ.le ψ) (k:ψ.le χ):φ.le χ:=fun _ _ _ e=>k _ _ _ (h _ _ _ e)
mutual
theorem dn.mono {φ ψ:eO} (hle:φ.le ψ):∀{a:AV} {v:Value},dn φ a v→dn ψ a v
 |_,_, .bool b=> .bool b
 |_,_, .int k n=> .int k n
 |_,_, .str h=> .str h
 |_,_, .ptr h hi=> .ptr (hle _ _ _ h) hi
 |_,_, .nilPtr=> .nilPtr
 |_,_, .slc h h1 h2 h3 h4 h5 h6=> .slc (hle _ _ _ h) h1 h2 h3 h4 h5 h6
 |_,_, .nilSlc=> .nilSlc
 |_,_, .emp=> .emp
 |_,_, .map h=> .map (hle _ _ _ h)
 |_,_, .nilMap=> .nilMap
 |_,_, .itr h=> .itr (hle _ _ _ h)
 |_,_, .func ha hb=> .func (dH.mono hle ha) (dH.mono hle hb)
 |_,_, .yield h=> .yield (hle _ _ _ h)
 |_,_, .nilFn=> .nilFn
 |_,_, .agg h=> .agg (dH.mono hle h)
 |_,_, .tup h=> .tup (dH.mono hle h)
 |_,_, .nilIf=> .nilIf
 |_,_, .ifc h=> .ifc (dn.mono hle h)
theorem dH.mono {φ ψ:eO} (hle:φ.le ψ):∀{l:List AV} {m:List Value},dH φ l m→dH ψ l m
 |_,_, .nil=> .nil
 |_,_, .cons h t=> .cons (dn.mono hle h) (dH.mono hle t)
end
theorem dH.length {φ:eO}:∀{l:List AV} {m:List Value},dH φ l m→l.length=m.length
 |_,_, .nil=>rfl
 |_,_, .cons _ t=>by simp[dH.length t]
theorem dH.append {φ:eO}:∀{l:List AV} {m:List Value},dH φ l m→∀{l':List AV} {m':List Value},dH φ l' m'→dH φ (l++l') (m++m')
 |_,_, .nil,_,_,k=>k
 |_,_, .cons h t,_,_,k=> .cons h (dH.append t k)
theorem dH.get {φ:eO}:∀{l:List AV} {m:List Value},dH φ l m→∀{i:Nat} {a:AV},l[i]? =some a→∃v,m[i]? =some v∧dn φ a v
 |_,_, .nil,_,_,e=>by simp at e
 |_,_, .cons h t,0,_,e=>by simp at e;subst e;exact⟨_,by simp,h⟩
 |_,_, .cons h t,i+1,_,e=>by simp at e;simpa using dH.get t e
theorem dH.take {φ:eO}:∀{l:List AV} {m:List Value},dH φ l m→∀(n:Nat),dH φ (l.take n) (m.take n)
 |_,_,h,0=>by simp;exact .nil
 |_,_, .nil,n+1=>by simp;exact .nil
 |_,_, .cons h t,n+1=>by simp;exact .cons h (dH.take t n)
theorem dH.drop {φ:eO}:∀{l:List AV} {m:List Value},dH φ l m→∀(n:Nat),dH φ (l.drop n) (m.drop n)
 |_,_,h,0=>by simpa using h
 |_,_, .nil,n+1=>by simp;exact .nil
 |_,_, .cons h t,n+1=>by simpa using dH.drop t n
theorem dH.replicate {φ:eO} {l:List AV} {m:List Value} (h:dH φ l m):∀n,dH φ (List.replicate n l).flatten (List.replicate n m).flatten
 |0=>by simp;exact .nil
 |n+1=>by simp[List.replicate_succ];exact h.append (dH.replicate h n)
theorem dn.cells {φ:eO} {a:AV} {v:Value} (h:dn φ a v):dH φ a.cells v.cells.toList:=by
 cases h with
 |agg h=>exact h
 |_=>first |exact .cons (by constructor<;>assumption) .nil |exact .cons (by constructor) .nil
theorem dn.leaf {φ:eO} {a:AV} {v:Value} (h:dn φ a v) (hl:a.leaf=true):v.oneCell'=true:=by
 cases h<;>simp_all[AV.leaf,Value.oneCell']
theorem dH.leaf {φ:eO}:∀{l:List AV} {m:List Value},dH φ l m→aV l=true→∀v∈m,v.oneCell'=true
 |_,_, .nil,_,v,hv=>by simp at hv
 |_,_, .cons h t,hl,v,hv=>by
  simp only[aV] at hl
  rename_i a l _ _
  cases ha:a.leaf with
  |false=>simp[ha] at hl
  |true=>
   simp[ha] at hl
   rcases List.mem_cons.1 hv with rfl |hv
   ·exact h.leaf ha
   ·exact dH.leaf t hl v hv
theorem lU:∀{l:List AV},aV l=true↔∀v∈l,v.leaf=true
 | []=>by simp[aV]
 |a :: l=>by
  simp only[aV,List.mem_cons,forall_eq_or_imp]
  cases a.leaf with
  |false=>simp
  |true=>simp[lU (l:=l)]
theorem oL {l m:List AV} (h:aV l=true) (k:aV m=true):aV (l++m)=true:=by
 rw[lU] at *
 intro v hv
 rcases List.mem_append.1 hv with h1 |h1
 ·exact h v h1
 ·exact k v h1
theorem FE {l:List AV} (h:aV l=true) (n:Nat):aV (l.take n)=true:=by
 rw[lU] at *
 exact fun v hv=>h v (List.mem_of_mem_take hv)
theorem Gj {l:List AV} (h:aV l=true) (n:Nat):aV (l.drop n)=true:=by
 rw[lU] at *
 exact fun v hv=>h v (List.mem_of_mem_drop hv)
theorem Jw {l m:List AV} (h:aV l=true) (k:aV m=true) (n:Nat):aV (lay l n m)=true:=
 oL (oL (FE h n) k) (Gj h _)
theorem nW {es:List (List AV)} (h:∀e∈es,aV e=true):aV es.flatten=true:=by
 rw[lU]
 intro v hv
 obtain⟨e,he,hv⟩:=List.mem_flatten.1 hv
 exact lU.1 (h e he) v hv
def kI (φ:eO) (N:Nat) (ρ:dY) (tmps:Array Value):Prop:=N≤tmps.size∧∀t v,ρ.get t=some v→∃cv,tmps[t]? =some cv∧dn φ v cv
theorem kI.mono {φ ψ:eO} {N:Nat} {ρ:dY} {tmps:Array Value} (hle:φ.le ψ) (h:kI φ N ρ tmps):kI ψ N ρ tmps:=
 ⟨h.1,fun t v e=>let⟨cv,h1,h2⟩:=h.2 t v e;⟨cv,h1,h2.mono hle⟩⟩
theorem kI.set {φ:eO} {N:Nat} {ρ:dY} {tmps:Array Value} (h:kI φ N ρ tmps) {d:Nat} (hd:d<N) {v:AV} {cv:Value} (hv:dn φ v cv):kI φ N (ρ.set d v) (tmps.setIfInBounds d cv):=by
 refine⟨by simpa using h.1,fun t u e=> ?_⟩
 rw[PT.get_set] at e
 by_cases ht:t=d
 ·subst ht
  simp at e
  subst e
  refine⟨cv, ?_,hv⟩
  have:t<tmps.size:=Nat.lt_of_lt_of_le hd h.1
  simp[this]
 ·rw[if_neg ht] at e
  obtain⟨cu,h1,h2⟩:=h.2 t u e
  exact⟨cu,by rw[Array.getElem?_setIfInBounds_ne (Ne.symm ht)];exact h1,h2⟩
theorem kI.put {φ:eO} {N:Nat} {ρ:dY} {a:Act} (h:kI φ N ρ a.tmps) {d:Option Nat} (hd:Dx N d=true) {v:AV} {cv:Value} (hv:dn φ v cv):kI φ N (Ab.put ρ d v) (a.put d cv).tmps:=by
 cases d with
 |none=>exact h
 |some d=>
  simp only[Dx,Nat.blt_eq] at hd
  exact h.set hd hv
mutual
theorem nC {φ:eO}:∀{v:Value} {a:AV},mQ v=some a→dn φ a v
 | .bool b,a,h=>by simp[mQ] at h;subst h;exact .bool b
 | .int k n,a,h=>by simp[mQ] at h;subst h;exact .int k n
 | .string s,a,h=>by simp[mQ] at h;subst h;exact .str rfl
 | .pointer none,a,h=>by simp[mQ] at h;subst h;exact .nilPtr
 | .pointer (some _),a,h=>by simp[mQ] at h
 | .slice none 0 0,a,h=>by simp[mQ] at h;subst h;exact .nilSlc
 | .slice none 0 (_+1),a,h=>by simp[mQ] at h
 | .slice none (_+1) _,a,h=>by simp[mQ] at h
 | .slice (some _) _ _,a,h=>by simp[mQ] at h
 | .map none,a,h=>by simp[mQ] at h;subst h;exact .nilMap
 | .map (some _),a,h=>by simp[mQ] at h
 | .nilFunc,a,h=>by simp[mQ] at h;subst h;exact .nilFn
 | .agg ⟨l⟩,a,h=>by
   simp only[mQ] at h
   cases hl:xD l with
   |none=>simp[hl] at h
   |some r=>simp[hl] at h;subst h;exact .agg (sU hl)
 | .tuple ⟨l⟩,a,h=>by
   simp only[mQ] at h
   cases hl:xD l with
   |none=>simp[hl] at h
   |some r=>simp[hl] at h;subst h;exact .tup (sU hl)
 | .float _ _,a,h=>by simp[mQ] at h
 | .complex _ _ _,a,h=>by simp[mQ] at h
 | .chan _,a,h=>by simp[mQ] at h
 | .func _ _ _,a,h=>by simp[mQ] at h
 | .iface _ _,a,h=>by simp[mQ] at h
 | .nilIface,a,h=>by simp[mQ] at h;subst h;exact .nilIf
theorem sU {φ:eO}:∀{l:List Value} {r:List AV},xD l=some r→dH φ r l
 | [],r,h=>by simp[xD] at h;subst h;exact .nil
 |v :: l,r,h=>by
  simp only[xD] at h
  cases hv:mQ v with
  |none=>simp[hv] at h
  |some a=>
   cases hl:xD l with
   |none=>simp[hv,hl] at h
   |some r'=>simp[hv,hl] at h;subst h;exact .cons (nC hv) (sU hl)
end
theorem dF {φ:eO} {N:Nat} {ρ:dY} {a:Act} (h:kI φ N ρ a.tmps) {x:Operand} {y:gJ} (hx:bX x=some y) {v:AV} (hv:ev ρ y=some v):dn φ v (a.eval x):=by
 cases x with
 |tmp t=>
  simp[bX] at hx;subst hx
  obtain⟨cv,h1,h2⟩:=h.2 t v hv
  have:a.eval (.tmp t)=cv:=by simp[Act.eval,h1]
  rw[this];exact h2
 |const c=>
  simp only[bX] at hx
  cases hc:mQ c with
  |none=>simp[hc] at hx
  |some u=>
   simp[hc] at hx;subst hx
   simp[ev] at hv;subst hv
   exact nC hc
 |global g=>simp[bX] at hx
 |func f=>
  simp[bX] at hx;subst hx
  simp[ev] at hv;subst hv
  exact .func .nil .nil
theorem qG {φ:eO} {N:Nat} {ρ:dY} {a:Act} (h:kI φ N ρ a.tmps):∀{l:List Operand} {m:List gJ},kN l=some m→∀{vs:List AV},evs ρ m=some vs→dH φ vs (l.map a.eval)
 | [],m,hm,vs,hv=>by simp[kN] at hm;subst hm;simp[evs] at hv;subst hv;exact .nil
 |x :: l,m,hm,vs,hv=>by
  simp only[kN] at hm
  cases hx:bX x with
  |none=>simp[hx] at hm
  |some y=>
   cases hl:kN l with
   |none=>simp[hx,hl] at hm
   |some m'=>
    simp[hx,hl] at hm;subst hm
    simp only[evs] at hv
    cases he:ev ρ y with
    |none=>simp[he] at hv
    |some v=>
     cases hes:evs ρ m' with
     |none=>simp[he,hes] at hv
     |some vs'=>
      simp[he,hes] at hv;subst hv
      exact .cons (dF h hx he) (qG h hl hes)
def Nf (s:AX) (r:Loop):Prop:=
 match s with
 | .ready=>r.state= .ready∧r.pending=none
 | .busy=>r.state= .busy
 | .done x=>r.state= .done∧(match x with | .normal=>False | .ret=>r.pending=some .ret | .exit id=>r.pending=some (.exit id)| .goto l=>r.pending=some (.goto l))
 | .exh=>r.state= .exhausted
inductive iB (φ:eO):List (AV×AV×Nat)→List MapEntry→Prop
 |nil:iB φ [] []
 |cons {k v:AV} {b:Nat} {l:List (AV×AV×Nat)} {e:MapEntry} {m:List MapEntry} (hk:dn φ k e.key) (hv:dn φ v e.val) (hb:e.born=b) (t:iB φ l m):iB φ ((k,v,b) :: l) (e :: m)
theorem iB.mono {φ ψ:eO} (hle:φ.le ψ) {l:List (AV×AV×Nat)} {m:List MapEntry} (h:iB φ l m):iB ψ l m:=by
 induction h with
 |nil=>exact .nil
 |cons hk hv hb _ ih=>exact .cons (hk.mono hle) (hv.mono hle) hb ih
structure iC (φ:eO) (id:Nat) (r:Row) (w:World):Prop where
 mg:r.m≤r.g
 sz:0<r.sz
 es:∀e∈r.es,e.length=r.sz
 leaf:∀e∈r.es,aV e=true
 cur:∃L,φ id r.g=some L∧L.ext=r.es.length
 gen:∀g L,φ id g=some L→g≤r.g∧L.sz=r.sz
 cells:∀g L,r.m≤g→φ id g=some L→L.ext≤r.es.length∧
  ∃vals:List Value,dH φ (r.es.take L.ext).flatten vals∧∀(j:Nat) (v:Value),vals[j]? =some v→w.cell? ⟨L.blk,L.base+j,none⟩=some v
 own:r.rw=true→∀g L,r.m≤g→φ id g=some L→L.base=0∧∃c t,w.heap[L.blk]? =some (.cells c t (0,0))∧c.size=L.tot*L.sz∧L.ext≤L.tot
 ty:∀e,r.ty=some e→r.rw=true→∀g L,r.m≤g→φ id g=some L→∃c f,w.heap[L.blk]? =some (.cells c e f)
def uY (P:Program) (φ:eO) (id:Nat) (o:iq) (w:World):Prop:=
 match o with
 | .row r=>iC φ id r w
 | .map es clock=>∃L cs,φ id 0=some L∧w.heap[L.blk]? =some (.map cs clock)∧iB φ es cs.toList
 | .iter m since seen stepped=>∃L,φ id 0=some L∧∃cm,w.heap[L.blk]? =some (.mapIter cm since seen.reverse.toArray stepped)∧
    (match m with |none=>cm=none |some k=>∃L',φ k 0=some L'∧cm=some L'.blk)
 | .gone=>True
 | .rmap es clock=>∃L cs,φ id 0=some L∧w.heap[L.blk]? =some (.map cs clock)∧iB φ es cs.toList
 | .dead=>True
 | .loop l=>∃L r N,φ id 0=some L∧w.heap[L.blk]? =some (.loop r)∧kI φ N l.regs r.tmps∧r.params.toList=l.ps∧(∀p∈l.ps,p<N)∧comp P N r.assign=some (strip l.asg)∧comp P N r.body=some (strip l.body)∧Nf l.st r
def iq.own:iq→Bool
 | .row r=>r.rw
 | .rmap _ _=>false
 | .dead=>false
 |_=>true
structure Base where
 n:Nat
 gh:Nat→Option iq
instance:Coe Base Nat:=⟨Base.n⟩
@[reducible] def Base.of (n:Nat):Base:=⟨n,fun _=>none⟩
@[simp] theorem Base.of_n (n:Nat):(Base.of n).n=n:=rfl
@[simp] theorem Base.of_gh (n id:Nat):(Base.of n).gh id=none:=rfl
structure dI (P:Program) (B:Base) (φ:eO) (h:aj) (w:World):Prop where
 base:B≤w.heap.size
 dom:∀id g L,φ id g=some L→id<h.sz
 there:∀id,id<h.sz→∃o,h.get id=some o
 gone:∀id,h.sz≤id→h.get id=none
 objn:∀id o,h.get id=some o→B.gh id=none→uY P φ id o w
 lt:∀id g L,φ id g=some L→L.blk<w.heap.size
 own:∀id o g L,h.get id=some o→φ id g=some L→(o.own=true→B≤L.blk)∧(o.own=false→L.blk<B)
 disj:∀id o id' g g' L L',h.get id=some o→o.own=true→φ id g=some L→φ id' g'=some L'→L.blk=L'.blk→id=id'
 nodef:∀id g L,φ id g=some L→∀ds:Option (List Deferred),w.heap[L.blk]? ≠some (Obj.deferred ds)
 ghost:∀id o,B.gh id=some o→h.get id=some o∧∀g,φ id g=none
theorem dI.real {P:Program} {B:Base} {φ:eO} {h:aj} {w:World} (H:dI P B φ h w) {id g:Nat} {L:Loc} (hL:φ id g=some L):B.gh id=none:=by
 cases e:B.gh id with
 |none=>rfl
 |some o=>rw[(H.ghost id o e).2 g] at hL;cases hL
theorem dI.obj {P:Program} {B:Base} {φ:eO} {h:aj} {w:World} (H:dI P B φ h w) (id:Nat) (o:iq) (ho:h.get id=some o) (hd:∃g L,φ id g=some L:=by exact⟨_,_,by assumption⟩):uY P φ id o w:=by
 obtain⟨g,L,hL⟩:=hd
 exact H.objn id o ho (H.real hL)
structure Gw (B:Nat) (w w':World):Prop where
 os:w'.os=w.os
 tape:w'.tape=w.tape
 drawn:w.drawn≤w'.drawn
 output:w'.output=w.output
 size:w.heap.size≤w'.heap.size
 below:∀k:Nat,k<B→w'.heap[k]? =w.heap[k]?
 defd:∀(k:Nat) (ds:Option (List Deferred)),w.heap[k]? =some (Obj.deferred ds)→w'.heap[k]? =some (Obj.deferred ds)
 loops:∀(k:Nat) (r:Loop),w.heap[k]? =some (Obj.loop r)→∃r',w'.heap[k]? =some (Obj.loop r')
theorem Gw.refl (B:Nat) (w:World):Gw B w w:=⟨rfl,rfl,Nat.le_refl _,rfl,Nat.le_refl _,fun _ _=>rfl,fun _ _ h=>h,fun _ r h=>⟨r,h⟩⟩
theorem Gw.frozen {B:Nat} {w w':World} (h:Gw B w w') (a:Addr) (ha:a.block<B):w'.frozen? a=w.frozen? a:=by simp only[World.frozen?,h.below _ ha]
theorem Gw.trans {B:Nat} {w w1 w2:World} (h:Gw B w w1) (k:Gw B w1 w2):Gw B w w2:=
 ⟨k.os.trans h.os,k.tape.trans h.tape,Nat.le_trans h.drawn k.drawn,k.output.trans h.output,Nat.le_trans h.size k.size,fun i hi=>(k.below i hi).trans (h.below i hi),fun i ds hd=>k.defd i ds (h.defd i ds hd),fun i r hr=>(let⟨r',h'⟩:=h.loops i r hr;k.loops i r' h')⟩
theorem Gw.drew (B:Nat) (w:World):Gw B w w.drew:=⟨rfl,rfl,Nat.le_succ _,rfl,Nat.le_refl _,fun _ _=>rfl,fun _ _ h=>h,fun _ r h=>⟨r,h⟩⟩
theorem uY.heap {P:Program} {φ:eO} {id:Nat} {o:iq} {w w':World} (h:uY P φ id o w) (e:w'.heap=w.heap):uY P φ id o w':=by
 have ec:∀a,w'.cell? a=w.cell? a:=fun a=>by simp[World.cell?,e]
 cases o with
 |row r=>
  refine⟨h.mg,h.sz,h.es,h.leaf,h.cur,h.gen,fun g L h1 h2=> ?_,fun hr g L h1 h2=>by rw[e];exact h.own hr g L h1 h2,fun t ht hr g L h1 h2=>by rw[e];exact h.ty t ht hr g L h1 h2⟩
  obtain⟨a,vals,b,c⟩:=h.cells g L h1 h2
  exact⟨a,vals,b,fun j v hj=>by rw[ec];exact c j v hj⟩
 |map es c=>simpa only[uY,e] using h
 |iter m s l p=>simpa only[uY,e] using h
 |loop l=>simpa only[uY,e] using h
 |gone=>trivial
 |rmap es c=>simpa only[uY,e] using h
 |dead=>trivial
theorem dI.heap {P:Program} {B:Base} {φ:eO} {h:aj} {w w':World} (k:dI P B φ h w) (e:w'.heap=w.heap):dI P B φ h w':=
 ⟨by rw[e];exact k.base,k.dom,k.there,k.gone,fun id o ho hd=>(k.objn id o ho hd).heap e,fun id g L hl=>by rw[e];exact k.lt id g L hl,k.own,k.disj,fun id g L hl=>by rw[e];exact k.nodef id g L hl,k.ghost⟩
theorem dI.drew {P:Program} {B:Base} {φ:eO} {h:aj} {w:World} (k:dI P B φ h w):dI P B φ h w.drew:=k.heap rfl
theorem jP {α:Type} {sz:Nat}:∀{es:List (List α)},(∀e∈es,e.length=sz)→es.flatten.length=es.length*sz
 | [],_=>by simp
 |e :: l,h=>by
  have h1:=h e (by simp)
  have h2:=jP (es:=l) (fun x hx=>h x (by simp[hx]))
  simp only[List.flatten_cons,List.length_append,List.length_cons,h1,h2,Nat.add_mul];omega
theorem wX {α:Type} {sz:Nat}:∀{es:List (List α)},(∀e∈es,e.length=sz)→∀n,(es.drop n).flatten=es.flatten.drop (n*sz)
 |es,_,0=>by simp
 | [],_,n+1=>by simp
 |e :: l,h,n+1=>by
  have h1:=h e (by simp)
  have h2:=wX (es:=l) (fun x hx=>h x (by simp[hx])) n
  simp only[List.drop_succ_cons,List.flatten_cons,h2]
  have:(n+1)*sz=e.length+n*sz:=by rw[Nat.add_mul,h1];omega
  rw[this,List.drop_length_add_append]
theorem oz {α:Type} {sz:Nat}:∀{es:List (List α)},(∀e∈es,e.length=sz)→∀n,(es.take n).flatten=es.flatten.take (n*sz)
 |es,_,0=>by simp
 | [],_,n+1=>by simp
 |e :: l,h,n+1=>by
  have h1:=h e (by simp)
  have h2:=oz (es:=l) (fun x hx=>h x (by simp[hx])) n
  simp only[List.take_succ_cons,List.flatten_cons,h2]
  have:(n+1)*sz=e.length+n*sz:=by rw[Nat.add_mul,h1];omega
  rw[this,List.take_length_add_append]
theorem Rf {α:Type} {sz:Nat}:∀{es:List (List α)},(∀e∈es,e.length=sz)→∀{i o:Nat} {e:List α} {a:α},es[i]? =some e→e[o]? =some a→es.flatten[i*sz+o]? =some a
 | [],_,_,_,_,_,hi,_=>by simp at hi
 |e :: l,h,0,o,_,a,hi,ho=>by
  simp at hi;subst hi
  have hlt:o<e.length:=(List.getElem?_eq_some_iff.1 ho).1
  rw[List.flatten_cons,Nat.zero_mul,Nat.zero_add,List.getElem?_append_left hlt];exact ho
 |e :: l,h,i+1,o,e',a,hi,ho=>by
  have h1:=h e (by simp)
  have h2:=Rf (es:=l) (fun x hx=>h x (by simp[hx])) (i:=i) (o:=o) (e:=e') (a:=a) (by simpa using hi) ho
  have:(i+1)*sz+o=e.length+(i*sz+o):=by rw[Nat.add_mul,h1];omega
  rw[List.flatten_cons,this,List.getElem?_append_right (by omega)]
  simpa using h2
theorem mX {α:Type} (l:List α) (n:Nat) (new:List α) (h:n+new.length≤l.length):(lay l n new).length=l.length:=by
 unfold lay
 simp only[List.length_append,List.length_take,List.length_drop]
 omega
theorem FJ {α:Type} {sz:Nat} {es new:List (List α)} (h:∀e∈es,e.length=sz) (hn:∀e∈new,e.length=sz) (n:Nat):
 (lay es n new).flatten=lay es.flatten (n*sz) new.flatten:=by
 unfold lay
 rw[List.flatten_append,List.flatten_append,oz h,wX h,jP hn,Nat.add_mul]
theorem BL {α:Type} (l:List α) (i:Nat) (x:α) (h:i<l.length):l.set i x=lay l i [x]:=by
 unfold lay
 rw[List.set_eq_take_append_cons_drop,if_pos h]
 simp
theorem XK {α:Type} {sz:Nat} {es:List (List α)} (h:∀e∈es,e.length=sz) {i o:Nat} {e:List α} (hi:es[i]? =some e) {new:List α} (hn:o+new.length≤e.length):
 (es.set i (lay e o new)).flatten=lay es.flatten (i*sz+o) new:=by
 obtain⟨hlt,he⟩:=List.getElem?_eq_some_iff.1 hi
 have hel:e.length=sz:=h e (by rw[←he];exact List.getElem_mem hlt)
 have h1:∀x∈[lay e o new],x.length=sz:=by
  intro x hx
  simp at hx
  subst hx
  rw[mX _ _ _ hn,hel]
 rw[BL _ _ _ hlt,FJ h h1]
 have hes:es.flatten=(es.take i).flatten++(e++(es.drop (i+1)).flatten):=by
  conv=>lhs;rw[←List.take_append_drop i es]
  rw[List.flatten_append,List.drop_eq_getElem_cons hlt,he,List.flatten_cons]
 have hl1:(es.take i).flatten.length=i*sz:=by
  rw[jP (sz:=sz) (fun x hx=>h x (List.mem_of_mem_take hx)),List.length_take]
  congr 1;omega
 simp only[List.flatten_cons,List.flatten_nil,List.append_nil]
 unfold lay
 rw[hes]
 simp only[List.length_append,List.length_take,List.length_drop]
 have e1:List.take (i*sz) ((es.take i).flatten++(e++(es.drop (i+1)).flatten))=(es.take i).flatten:=by
  rw[←hl1];exact List.take_left
 have e2:List.take (i*sz+o) ((es.take i).flatten++(e++(es.drop (i+1)).flatten))=(es.take i).flatten++e.take o:=by
  rw[←hl1,List.take_length_add_append,List.take_append_of_le_length (by omega)]
 have e3:List.drop (i*sz+(min o e.length+new.length+(e.length-(o+new.length)))) ((es.take i).flatten++(e++(es.drop (i+1)).flatten))=(es.drop (i+1)).flatten:=by
  rw[show i*sz+(min o e.length+new.length+(e.length-(o+new.length)))=(es.take i).flatten.length+(e.length+0) by omega,List.drop_length_add_append,List.drop_length_add_append]
  rfl
 have e4:List.drop (i*sz+o+new.length) ((es.take i).flatten++(e++(es.drop (i+1)).flatten))=e.drop (o+new.length)++(es.drop (i+1)).flatten:=by
  rw[show i*sz+o+new.length=(es.take i).flatten.length+(o+new.length) by omega,List.drop_length_add_append,List.drop_append_of_le_length (by omega)]
 rw[e1,e2,e3,e4]
 simp
theorem cell_of_heap {w w':World} {a:Addr} (h:w'.heap[a.block]? =w.heap[a.block]?):w'.cell? a=w.cell? a:=by simp[World.cell?,h]
theorem uY.other {P:Program} {φ φ':eO} {id:Nat} {o:iq} {w w':World} (h:uY P φ id o w) (hle:φ.le φ') (he:∀g,φ' id g=φ id g)
 (hb:∀g L,φ id g=some L→w'.heap[L.blk]? =w.heap[L.blk]?):uY P φ' id o w':=by
 cases o with
 |row r=>
  obtain⟨L,h1,h2⟩:=h.cur
  refine⟨h.mg,h.sz,h.es,h.leaf,⟨L,by rw[he];exact h1,h2⟩,fun g L hL=>h.gen g L (by rw[←he];exact hL),fun g L hm hL=> ?_,fun hr g L hm hL=> ?_,fun t ht hr g L hm hL=> ?_⟩
  ·rw[he] at hL
   obtain⟨a,vals,b,c⟩:=h.cells g L hm hL
   exact⟨a,vals,b.mono hle,fun j v hj=>(cell_of_heap (hb g L hL)).trans (c j v hj)⟩
  ·rw[he] at hL
   rw[hb g L hL]
   exact h.own hr g L hm hL
  ·rw[he] at hL
   rw[hb g L hL]
   exact h.ty t ht hr g L hm hL
 |gone=>trivial
 |dead=>trivial
 |rmap es c=>
  obtain⟨L,cs,h1,h2,h3⟩:=h
  exact⟨L,cs,hle _ _ _ h1,(hb _ _ h1).trans h2,h3.mono hle⟩
 |map es c=>
  obtain⟨L,cs,h1,h2,h3⟩:=h
  exact⟨L,cs,hle _ _ _ h1,(hb _ _ h1).trans h2,h3.mono hle⟩
 |iter m s l p=>
  obtain⟨L,h1,cm,h2,h3⟩:=h
  refine⟨L,hle _ _ _ h1,cm,(hb _ _ h1).trans h2, ?_⟩
  cases m with
  |none=>exact h3
  |some k=>obtain⟨L',a,b⟩:=h3;exact⟨L',hle _ _ _ a,b⟩
 |loop l=>
  obtain⟨L,r,N,h1,h2,h3,h4⟩:=h
  exact⟨L,r,N,hle _ _ _ h1,(hb _ _ h1).trans h2,h3.mono hle,h4⟩
theorem dI.keep {P:Program} {B:Base} {φ:eO} {h:aj} {w w':World} (H:dI P B φ h w) (hsz:w.heap.size≤w'.heap.size)
 (hk:∀id g L,φ id g=some L→w'.heap[L.blk]? =w.heap[L.blk]?):dI P B φ h w':=
 ⟨Nat.le_trans H.base hsz,H.dom,H.there,H.gone,fun id o ho hd=>(H.objn id o ho hd).other φ.le_refl (fun _=>rfl) (hk id),fun id g L hl=>Nat.lt_of_lt_of_le (H.lt id g L hl) hsz,H.own,H.disj,fun id g L hl=>by rw[hk id g L hl];exact H.nodef id g L hl,H.ghost⟩
theorem dI.alloc {P:Program} {B:Base} {φ:eO} {h:aj} {w:World} (H:dI P B φ h w) (ob:Obj):dI P B φ h (w.alloc ob):=
 H.keep (by simp) fun id g L hL=>heap_alloc_old w ob (H.lt id g L hL)
def eO.add (φ:eO) (id g:Nat) (L:Loc):eO:=fun a b=>if a=id∧b=g then some L else φ a b
theorem eO.add_same (φ:eO) (id g:Nat) (L:Loc):φ.add id g L id g=some L:=by simp[eO.add]
theorem eO.add_other (φ:eO) {id g:Nat} (L:Loc) {a b:Nat} (h:¬(a=id∧b=g)):φ.add id g L a b=φ a b:=by simp[eO.add,h]
theorem eO.le_add {φ:eO} {id g:Nat} (L:Loc) (h:φ id g=none):φ.le (φ.add id g L):=fun a b K e=>by
 rw[eO.add_other]
 ·exact e
 ·rintro⟨rfl,rfl⟩;rw[h] at e;cases e
theorem dI.fresh {P:Program} {B:Base} {φ:eO} {h:aj} {w:World} (H:dI P B φ h w) (g:Nat):φ h.sz g=none:=by
 cases e:φ h.sz g with
 |none=>rfl
 |some L=>exact absurd (H.dom _ _ _ e) (Nat.lt_irrefl _)
theorem push_inj {h:aj} {o o':iq} (e:h.push o=h.push o'):o=o':=by
 have:(h.push o).get h.sz=(h.push o').get h.sz:=by rw[e]
 rw[aj.get_push,aj.get_push,if_pos rfl,if_pos rfl] at this
 exact Option.some.inj this
def Base.add (B:Base) (id:Nat) (o:iq):Base:=⟨B.n,fun a=>if a=id then some o else B.gh a⟩
def Base.del (B:Base) (id:Nat):Base:=⟨B.n,fun a=>if a=id then none else B.gh a⟩
@[simp] theorem Base.add_n (B:Base) (id:Nat) (o:iq):(B.add id o).n=B.n:=rfl
@[simp] theorem Base.del_n (B:Base) (id:Nat):(B.del id).n=B.n:=rfl
theorem Base.add_same (B:Base) (id:Nat) (o:iq):(B.add id o).gh id=some o:=by simp[Base.add]
theorem Base.add_other (B:Base) {id a:Nat} (o:iq) (h:a≠id):(B.add id o).gh a=B.gh a:=by simp[Base.add,h]
theorem Base.del_same (B:Base) (id:Nat):(B.del id).gh id=none:=by simp[Base.del]
theorem Base.del_other (B:Base) {id a:Nat} (h:a≠id):(B.del id).gh a=B.gh a:=by simp[Base.del,h]
theorem Base.del_add {B:Base} {id:Nat} {o:iq} (h:B.gh id=none):(B.add id o).del id=B:=by
 cases B with
 |mk n gh=>
  simp only[Base.add,Base.del,Base.mk.injEq,true_and]
  funext a
  by_cases e:a=id
  ·subst e;simpa using h.symm
  ·simp[e]
theorem dI.noGhost {P:Program} {B:Base} {φ:eO} {h:aj} {w:World} (H:dI P B φ h w):B.gh h.sz=none:=by
 cases e:B.gh h.sz with
 |none=>rfl
 |some o=>have:=(H.ghost _ _ e).1;rw[H.gone _ (Nat.le_refl _)] at this;cases this
theorem dI.pushGhost {P:Program} {B:Base} {φ:eO} {h:aj} {w:World} (H:dI P B φ h w) (o:iq):dI P (B.add h.sz o) φ (h.push o) w:=by
 have hget:∀id o',(h.push o).get id=some o'→(id=h.sz∧o'=o)∨(id<h.sz∧h.get id=some o'):=by
  intro id o' e
  rw[aj.get_push] at e
  by_cases hi:id=h.sz
  ·rw[if_pos hi] at e;cases e;exact .inl ⟨hi,rfl⟩
  ·rw[if_neg hi] at e
   refine .inr ⟨?_,e⟩
   rcases Nat.lt_or_ge id h.sz with h1 |h1
   ·exact h1
   ·rw[H.gone id h1] at e;cases e
 refine⟨H.base,fun id g K e=>Nat.lt_succ_of_lt (H.dom id g K e),fun id hid=> ?_,fun id hid=> ?_,fun id o' e hd=> ?_,H.lt,fun id o' g K e e'=> ?_,fun id o' id' g g' K K' e hown' e1 e2 hblk=> ?_,H.nodef,fun id o' e=> ?_⟩
 ·rw[aj.get_push]
  by_cases hi:id=h.sz
  ·exact⟨o,by rw[if_pos hi]⟩
  ·rw[if_neg hi];exact H.there id (by simp at hid;omega)
 ·simp at hid
  rw[aj.get_push,if_neg (by omega)]
  exact H.gone id (by omega)
 ·rcases hget _ _ e with⟨rfl,rfl⟩|⟨h1,h2⟩
  ·rw[Base.add_same] at hd;cases hd
  ·rw[Base.add_other _ _ (by omega)] at hd
   exact H.objn id o' h2 hd
 ·rcases hget _ _ e with⟨rfl,rfl⟩|⟨h1,h2⟩
  ·have:=H.dom _ _ _ e';omega
  ·exact H.own id o' g K h2 e'
 ·rcases hget _ _ e with⟨rfl,rfl⟩|⟨h1,h2⟩
  ·have:=H.dom _ _ _ e1;omega
  ·exact H.disj id o' id' g g' K K' h2 hown' e1 e2 hblk
 ·by_cases hi:id=h.sz
  ·subst hi
   rw[Base.add_same] at e;cases e
   exact⟨by rw[aj.get_push,if_pos rfl],fun g=>H.fresh g⟩
  ·rw[Base.add_other _ _ hi] at e
   obtain⟨h1,h2⟩:=H.ghost id o' e
   exact⟨by rw[aj.get_push,if_neg hi];exact h1,h2⟩
theorem dI.fill {P:Program} {B:Base} {φ:eO} {h:aj} {w:World} {id:Nat} {o:iq} (H:dI P B φ h w) (hg:B.gh id=some o) (hown:o.own=true) {L:Loc} {ob:Obj} (hL:L.blk=w.heap.size) (hob:∀ds,ob≠ .deferred ds)
 (ho:uY P (φ.add id 0 L) id o (w.alloc ob)):dI P (B.del id) (φ.add id 0 L) h (w.alloc ob):=by
 obtain⟨hget,hnone⟩:=H.ghost id o hg
 have hle:φ.le (φ.add id 0 L):=eO.le_add L (hnone 0)
 have hid:id<h.sz:=by
  rcases Nat.lt_or_ge id h.sz with h1 |h1
  ·exact h1
  ·rw[H.gone id h1] at hget;cases hget
 have hphi:∀a g K,φ.add id 0 L a g=some K→(a=id∧g=0∧K=L)∨(a≠id∧φ a g=some K):=by
  intro a g K e
  by_cases hi:a=id∧g=0
  ·obtain⟨rfl,rfl⟩:=hi
   rw[eO.add_same] at e;cases e;exact .inl ⟨rfl,rfl,rfl⟩
  ·rw[eO.add_other _ _ hi] at e
   refine .inr ⟨fun ha=> ?_,e⟩
   subst ha
   rw[hnone g] at e;cases e
 refine⟨Nat.le_trans H.base (by simp), ?_,H.there,H.gone, ?_, ?_, ?_, ?_, ?_, ?_⟩
 ·intro a g K e
  rcases hphi _ _ _ e with⟨rfl,_,_⟩|⟨_,h1⟩
  ·exact hid
  ·exact H.dom _ _ _ h1
 ·intro a o' e hd
  by_cases ha:a=id
  ·subst ha
   rw[hget] at e;cases e
   exact ho
  ·rw[Base.del_other _ ha] at hd
   exact(H.objn a o' e hd).other hle (fun g=>eO.add_other _ _ (by omega)) (fun g K hK=>heap_alloc_old w ob (H.lt a g K hK))
 ·intro a g K e
  rcases hphi _ _ _ e with⟨_,_,rfl⟩|⟨_,h2⟩
  ·rw[hL];simp
  ·have:=H.lt a g K h2;simp;omega
 ·intro a o' g K e e'
  rcases hphi _ _ _ e' with⟨rfl,_,rfl⟩|⟨_,h3⟩
  ·rw[hget] at e;cases e
   exact⟨fun _=>by rw[hL];exact H.base,fun hf=>by rw[hown] at hf;cases hf⟩
  ·exact H.own a o' g K e h3
 ·intro a o' a' g g' K K' e hown' e1 e2 hblk
  rcases hphi _ _ _ e1 with⟨rfl,_,rfl⟩|⟨h1,h1'⟩
  ·rcases hphi _ _ _ e2 with⟨rfl,_,_⟩|⟨_,h2'⟩
   ·rfl
   ·have:=H.lt _ _ _ h2';omega
  ·rcases hphi _ _ _ e2 with⟨rfl,_,rfl⟩|⟨h2,h2'⟩
   ·have:=H.lt _ _ _ h1';omega
   ·exact H.disj a o' a' g g' K K' e hown' h1' h2' hblk
 ·intro a g K e ds hd
  rcases hphi _ _ _ e with⟨_,_,rfl⟩|⟨_,h2⟩
  ·rw[hL,heap_alloc_new] at hd
   exact hob ds (Option.some.inj hd)
  ·rw[heap_alloc_old w ob (H.lt a g K h2)] at hd
   exact H.nodef a g K h2 ds hd
 ·intro a o' e
  by_cases ha:a=id
  ·subst ha;rw[Base.del_same] at e;cases e
  ·rw[Base.del_other _ ha] at e
   obtain⟨h1,h2⟩:=H.ghost a o' e
   exact⟨h1,fun g=>by rw[eO.add_other _ _ (by omega)];exact h2 g⟩
theorem dI.push {P:Program} {B:Base} {φ:eO} {h:aj} {w:World} (H:dI P B φ h w) {o:iq} (hown:o.own=true) {L:Loc} {ob:Obj} (hL:L.blk=w.heap.size) (hob:∀ds,ob≠ .deferred ds)
 (ho:uY P (φ.add h.sz 0 L) h.sz o (w.alloc ob)):dI P B (φ.add h.sz 0 L) (h.push o) (w.alloc ob):=by
 have:=(H.pushGhost o).fill (Base.add_same _ _ _) hown hL hob ho
 rwa [Base.del_add H.noGhost] at this
def kX (w w':World):Prop:=∀(k:Nat) (ds:Option (List Deferred)),w'.heap[k]? =some (Obj.deferred ds)→w.heap[k]? =some (Obj.deferred ds)
theorem kX.put (w:World) {b:Nat} {o:Obj} (ho:∀ds,o≠ .deferred ds):kX w (w.putObj b o):=by
 intro k ds hk
 by_cases e:k=b
 ·subst e
  have hlt:k<w.heap.size:=by
   have:=(Array.getElem?_eq_some_iff.1 hk).1
   simpa using this
  rw[World.putObj_heap_same hlt] at hk
  exact absurd (Option.some.inj hk) (ho ds)
 ·rwa [World.putObj_heap_other e] at hk
theorem kX.alloc (w:World) {o:Obj} (ho:∀ds,o≠ .deferred ds):kX w (w.alloc o):=by
 intro k ds hk
 by_cases e:k=w.heap.size
 ·subst e
  rw[heap_alloc_new] at hk
  exact absurd (Option.some.inj hk) (ho ds)
 ·have hlt:k<w.heap.size:=by
   have:=(Array.getElem?_eq_some_iff.1 hk).1
   simp at this;omega
  rwa [heap_alloc_old w o hlt] at hk
theorem kX.of_block {w w':World} {g:Nat} {y:Obj} (hy:w'.heap[g]? =some y) (ho:∀ds,y≠ .deferred ds) (hk:∀k:Nat,k≠g→w'.heap[k]? =w.heap[k]?):kX w w':=by
 intro k ds h
 by_cases e:k=g
 ·subst e;rw[hy] at h;exact absurd (Option.some.inj h) (ho ds)
 ·rwa [hk k e] at h
theorem dI.update {P:Program} {B:Base} {φ φ':eO} {h:aj} {w w':World} (H:dI P B φ h w) {id:Nat} {o o':iq} (ho:h.get id=some o) (hown:o.own=true) (hown':o'.own=true)
 (hle:φ.le φ') (hφ:∀a g,a≠id→φ' a g=φ a g)
 (hnew:∀g L,φ' id g=some L→φ id g=some L∨(L.blk=w.heap.size∧L.blk<w'.heap.size)∨∃g0 L0,φ id g0=some L0∧L0.blk=L.blk)
 (hsz:w.heap.size≤w'.heap.size) (hkeep:∀k,k<w.heap.size→(∀g L,φ id g=some L→L.blk≠k)→w'.heap[k]? =w.heap[k]?)
 (hkind:kX w w') (hobj:uY P φ' id o' w') (hdm:∃g L,φ id g=some L:=by exact⟨_,_,by assumption⟩):dI P B φ' (h.put id o') w':=by
 have hng:B.gh id=none:=(let⟨_,_,hd⟩:=hdm;H.real hd)
 have hid:id<h.sz:=by
  rcases Nat.lt_or_ge id h.sz with h1 |h1
  ·exact h1
  ·rw[H.gone id h1] at ho;cases ho
 have hget:∀a x,(h.put id o').get a=some x→(a=id∧x=o')∨(a≠id∧h.get a=some x):=by
  intro a x e
  rw[aj.get_put] at e
  by_cases ha:a=id
  ·rw[if_pos ha] at e;cases e;exact .inl ⟨ha,rfl⟩
  ·rw[if_neg ha] at e;exact .inr ⟨ha,e⟩
 have hloc:∀g L,φ' id g=some L→(∃g0 L0,φ id g0=some L0∧L0.blk=L.blk)∨(L.blk=w.heap.size∧L.blk<w'.heap.size):=by
  intro g L e
  rcases hnew g L e with h1 |h1 |h1
  ·exact .inl ⟨g,L,h1,rfl⟩
  ·exact .inr h1
  ·exact .inl h1
 refine⟨Nat.le_trans H.base hsz, ?_, ?_, ?_, ?_, ?_, ?_, ?_, ?_, ?_⟩
 ·intro a g L e
  by_cases ha:a=id
  ·subst ha;simpa using hid
  ·rw[hφ a g ha] at e;simpa using H.dom a g L e
 ·intro a ha
  rw[aj.get_put]
  by_cases e:a=id
  ·exact⟨o',by rw[if_pos e]⟩
  ·rw[if_neg e];exact H.there a (by simpa using ha)
 ·intro a ha
  simp at ha
  rw[aj.get_put,if_neg (by omega)]
  exact H.gone a ha
 ·intro a x e hd
  rcases hget a x e with⟨rfl,rfl⟩|⟨h1,h2⟩
  ·exact hobj
  ·refine(H.objn a x h2 hd).other hle (fun g=>hφ a g h1) (fun g L hL=>hkeep L.blk (H.lt a g L hL) fun g0 L0 h0 heq=> ?_)
   exact h1 (H.disj id o a g0 g L0 L ho hown h0 hL heq).symm
 ·intro a g L e
  by_cases ha:a=id
  ·subst ha
   rcases hloc g L e with⟨g0,L0,h0,hb⟩|h1
   ·have:=H.lt _ _ _ h0;omega
   ·exact h1.2
  ·rw[hφ a g ha] at e;exact Nat.lt_of_lt_of_le (H.lt a g L e) hsz
 ·intro a x g L e e'
  rcases hget a x e with⟨rfl,rfl⟩|⟨h1,h2⟩
  ·refine⟨fun _=> ?_,fun hf=>by rw[hown'] at hf;cases hf⟩
   rcases hloc g L e' with⟨g0,L0,h0,hb⟩|h1
   ·rw[←hb];exact(H.own a o g0 L0 ho h0).1 hown
   ·rw[h1.1];exact H.base
  ·rw[hφ a g h1] at e';exact H.own a x g L h2 e'
 ·intro a x a' g g' L L' e hx e1 e2 hblk
  rcases hget a x e with⟨rfl,rfl⟩|⟨h1,h2⟩
  ·by_cases ha':a'=a
   ·exact ha'.symm
   ·rw[hφ a' g' ha'] at e2
    rcases hloc g L e1 with⟨g0,L0,h0,hb⟩|h1
    ·exact H.disj a o a' g0 g' L0 L' ho hown h0 e2 (hb.trans hblk)
    ·have:=H.lt _ _ _ e2;omega
  ·rw[hφ a g h1] at e1
   by_cases ha':a'=id
   ·subst ha'
    rcases hloc g' L' e2 with⟨g0,L0,h0,hb⟩|h3
    ·exact H.disj a x a' g g0 L L0 h2 hx e1 h0 (hblk.trans hb.symm)
    ·have:=H.lt _ _ _ e1;omega
   ·rw[hφ a' g' ha'] at e2
    exact H.disj a x a' g g' L L' h2 hx e1 e2 hblk
 ·intro a g L e ds hd
  have hd:=hkind _ _ hd
  by_cases ha:a=id
  ·subst ha
   rcases hloc g L e with⟨g0,L0,h0,hb⟩|h1
   ·exact H.nodef a g0 L0 h0 ds (by rw[hb];exact hd)
   ·have:=(Array.getElem?_eq_some_iff.1 hd).1;omega
  ·rw[hφ a g ha] at e
   exact H.nodef a g L e ds hd
 ·intro a x e
  obtain⟨h1,h2⟩:=H.ghost a x e
  have ha:a≠id:=by
   rintro rfl
   rw[hng] at e;cases e
  exact⟨by rw[aj.get_put,if_neg ha];exact h1,fun g=>by rw[hφ a g ha];exact h2 g⟩
theorem Gw.alloc {B:Nat} {w:World} (hB:B≤w.heap.size) {ob:Obj} (hf:∀c t fr,ob= .cells c t fr→fr=(0,0)):Gw B w (w.alloc ob):=by
 refine⟨rfl,rfl,Nat.le_refl _,rfl,by simp,fun k hk=>heap_alloc_old w ob (by omega),fun k ds hk=> ?_,fun k r hk=>⟨r, ?_⟩⟩
 ·have hlt:k<w.heap.size:=(Array.getElem?_eq_some_iff.1 hk).1
  exact(heap_alloc_old w ob hlt).trans hk
 ·have hlt:k<w.heap.size:=(Array.getElem?_eq_some_iff.1 hk).1
  exact(heap_alloc_old w ob hlt).trans hk
theorem Gw.of_block {B:Nat} {w w':World} {g:Nat} {x y:Obj} (hg:w.heap[g]? =some x) (hB:B≤g) (hnd:∀ds,x≠ .deferred ds) (hlp:∀r,x= .loop r→∃r',y= .loop r') (hy:w'.heap[g]? =some y)
 (hfx:∀c t fr,x= .cells c t fr→fr=(0,0)) (hfy:∀c t fr,y= .cells c t fr→fr=(0,0))
 (ho:∀k:Nat,k≠g→w'.heap[k]? =w.heap[k]?) (hs:w'.heap.size=w.heap.size) (h1:w'.os=w.os) (h2:w'.tape=w.tape) (h3:w'.output=w.output) (h4:w.drawn≤w'.drawn:=by exact Nat.le_refl _):Gw B w w':=by
 refine⟨h1,h2,h4,h3,by omega,fun k hk=>ho k (by omega),fun k ds hk=> ?_,fun k r hk=> ?_⟩
 ·by_cases e:k=g
  ·subst e;rw[hg] at hk;cases hk;exact absurd rfl (hnd ds)
  ·exact(ho k e).trans hk
 ·by_cases e:k=g
  ·subst e;rw[hg] at hk;cases hk
   obtain⟨r',hr'⟩:=hlp r rfl
   exact⟨r',by rw[hy,hr']⟩
  ·exact⟨r,(ho k e).trans hk⟩
theorem xX {φ:eO} {id g:Nat} {r:Row} {w:World} (h:iC φ id r w) {L:Loc} (hL:φ id g=some L) (hm:r.m≤g) {p n:Nat} (hp:p+n≤L.ext*r.sz):
 ∃vs:List Value,dH φ ((r.es.flatten.drop p).take n) vs∧vs.length=n∧∀(j:Nat) (v:Value),vs[j]? =some v→w.cell? ((⟨L.blk,L.base+p,none⟩:Addr).add j)=some v:=by
 obtain⟨hext,vals,hv,hc⟩:=h.cells g L hm hL
 have hlen:(r.es.take L.ext).flatten.length=L.ext*r.sz:=by
  rw[jP (sz:=r.sz) (fun e he=>h.es e (List.mem_of_mem_take he)),List.length_take]
  congr 1;omega
 refine⟨(vals.drop p).take n, ?_, ?_, ?_⟩
 ·have e1:(r.es.flatten.drop p).take n=(((r.es.take L.ext).flatten).drop p).take n:=by
   rw[oz h.es,List.drop_take,List.take_take]
   congr 1
   omega
  rw[e1]
  exact(hv.drop p).take n
 ·have:=hv.length
  simp only[List.length_take,List.length_drop]
  omega
 ·intro j v hj
  have hjn:j<n:=by
   have:=(List.getElem?_eq_some_iff.1 hj).1
   simp only[List.length_take,List.length_drop] at this
   omega
  rw[Addr.add_lit,Nat.add_assoc]
  apply hc
  rw[List.getElem?_take_of_lt hjn,List.getElem?_drop] at hj
  exact hj
theorem Yt {sz:Nat} {es:List (List AV)} (h:∀e∈es,e.length=sz) {i o n:Nat} {e:List AV} (hi:es[i]? =some e) (ho:o+n≤e.length):
 ((es.flatten.drop (i*sz+o)).take n)=(e.drop o).take n:=by
 obtain⟨hlt,he⟩:=List.getElem?_eq_some_iff.1 hi
 have hes:es.flatten=(es.take i).flatten++(e++(es.drop (i+1)).flatten):=by
  conv=>lhs;rw[←List.take_append_drop i es]
  rw[List.flatten_append,List.drop_eq_getElem_cons hlt,he,List.flatten_cons]
 have hl1:(es.take i).flatten.length=i*sz:=by
  rw[jP (sz:=sz) (fun x hx=>h x (List.mem_of_mem_take hx)),List.length_take]
  congr 1;omega
 rw[hes, ←hl1,List.drop_length_add_append,List.drop_append_of_le_length (by omega),List.take_append_of_le_length (by simp;omega)]
theorem Gm {φ:eO} {id g:Nat} {r:Row} {w:World} (h:iC φ id r w) {L:Loc} (hL:φ id g=some L) (hm:r.m≤g) {i o n:Nat} {e:List AV} (hi:i<L.ext) (he:r.es[i]? =some e) (hn:o+n≤e.length):
 ∃vs:List Value,dH φ ((e.drop o).take n) vs∧vs.length=n∧∀(j:Nat) (v:Value),vs[j]? =some v→w.cell? ((⟨L.blk,L.base+i*L.sz+o,none⟩:Addr).add j)=some v:=by
 have hsz:L.sz=r.sz:=(h.gen g L hL).2
 have hel:e.length=r.sz:=h.es e (List.mem_of_getElem? he)
 have hp:i*r.sz+o+n≤L.ext*r.sz:=by
  have:(i+1)*r.sz≤L.ext*r.sz:=Nat.mul_le_mul_right _ hi
  rw[Nat.add_mul] at this;omega
 obtain⟨vs,h1,h2,h3⟩:=xX h hL hm hp
 rw[Yt h.es he hn] at h1
 refine⟨vs,h1,h2,fun j v hj=> ?_⟩
 have:=h3 j v hj
 rw[hsz,Nat.add_assoc]
 exact this
theorem yJ {P:Program} {B:Base} {φ:eO} {h:aj} {w:World} (H:dI P B φ h w) {id:Nat} {r:Row} (hr:h.get id=some (.row r)) (hrw:r.rw=true) {L:Loc} (hL:φ id r.g=some L)
 {new:List AV} {nv:List Value} (hn:dH φ new nv) (hleaf:aV new=true) {p:Nat} (hp:p+new.length≤r.es.length*r.sz) {es':List (List AV)} (he1:∀e∈es',e.length=r.sz)
 (he2:es'.length=r.es.length) (he3:es'.flatten=lay r.es.flatten p new) (he4:∀e∈es',aV e=true):
 ∃w',(storeCells ⟨L.blk,L.base+p,none⟩ nv).run P w= .ok () w'∧dI P B φ (h.put id (.row {r with es:=es',m:=r.g})) w'∧Gw B w w':=by
 have hrow:iC φ id r w:=H.obj id _ hr
 obtain⟨hbase,c,t,hc,hcs,hlt⟩:=hrow.own hrw r.g L hrow.mg hL
 have hsz:L.sz=r.sz:=(hrow.gen r.g L hL).2
 obtain⟨L',hL',hext⟩:=hrow.cur
 have:L'=L:=by rw[hL] at hL';cases hL';rfl
 subst this
 have hnl:=hn.length
 have hfit:p+nv.length≤c.size:=by
  have h1:r.es.length*r.sz≤L'.tot*L'.sz:=by rw[hsz];exact Nat.mul_le_mul_right _ (by omega)
  omega
 have hst:=run_storeCells_at P L'.blk p t nv 0 c w hc (by simpa using hfit) (hn.leaf hleaf)
 simp only[Nat.add_zero] at hst
 have hB:B≤L'.blk:=(H.own id _ r.g L' hr hL).1 hrw
 generalize hc':(c.toList.take p++nv++c.toList.drop (p+nv.length)).toArray=c' at hst
 have hheap:=setRow_heap w L'.blk c c' t (0,0) hc
 have hc's:c'.size=c.size:=by
  rw[←hc'];simp;omega
 obtain⟨hx1,vals,hv,hcv⟩:=hrow.cells r.g L' hrow.mg hL
 have hlenE:(r.es.take L'.ext).flatten.length=r.es.length*r.sz:=by
  rw[jP (sz:=r.sz) (fun e he=>hrow.es e (List.mem_of_mem_take he)),List.length_take]
  congr 1;omega
 have htk:r.es.take L'.ext=r.es:=List.take_of_length_le (by omega)
 rw[htk] at hv hlenE
 refine⟨w.setRow L'.blk c',by rw[hbase,Nat.zero_add];exact hst, ?_, ?_⟩
 ·refine H.update hr hrw (by exact hrw) φ.le_refl (fun _ _ _=>rfl) (fun g K e=> .inl e) (by simp) (fun k _ hk=>setRow_other w L'.blk k c' (fun e=>hk r.g L' hL e.symm)) (kX.of_block hheap (fun ds e=>by cases e) (fun k hk=>setRow_other w L'.blk k c' hk)) ?_
  refine⟨Nat.le_refl _,hrow.sz,he1,he4,⟨L',hL,by rw[he2];exact hext⟩,hrow.gen,fun g K hm hK=> ?_,fun _ g K hm hK=> ?_,fun u hu _ g K hm hK=> ?_⟩
  ·have hg:g=r.g:=Nat.le_antisymm (hrow.gen g K hK).1 hm
   subst hg
   rw[hL] at hK;cases hK
   refine⟨by simp only;omega, ?_⟩
   refine⟨vals.take p++nv++vals.drop (p+nv.length), ?_, ?_⟩
   ·rw[List.take_of_length_le (by simp only;omega),he3]
    unfold lay
    rw[hnl]
    exact((hv.take p).append hn).append (hv.drop _)
   ·intro j v hj
    rw[cell_setRow_same w L'.blk _ c c' t (0,0) hc, ←hc',hbase,Nat.zero_add]
    have hvl:vals.length=r.es.length*r.sz:=by rw[←hv.length];exact hlenE
    have hcell:∀(k:Nat) (u:Value),vals[k]? =some u→c.toList[k]? =some u:=by
     intro k u hk
     have:=hcv k u hk
     rw[cell_of_row w L'.blk _ c t (0,0) hc,hbase,Nat.zero_add] at this
     simpa using this
    have hjlt:=(List.getElem?_eq_some_iff.1 hj).1
    simp only[List.length_append,List.length_take,List.length_drop] at hjlt
    have hcl:c.toList.length=c.size:=by simp
    simp only[List.getElem?_toArray]
    by_cases h1:j<p
    ·rw[List.append_assoc,List.getElem?_append_left (by simp;omega),List.getElem?_take_of_lt h1] at hj ⊢
     exact hcell j v hj
    ·by_cases h2:j<p+nv.length
     ·rw[List.append_assoc,List.getElem?_append_right (by simp;omega),List.getElem?_append_left (by simp;omega)] at hj ⊢
      simp only[List.length_take] at hj ⊢
      rw[show min p vals.length=p by omega] at hj
      rw[show min p c.toList.length=p by omega]
      exact hj
     ·rw[List.getElem?_append_right (by simp;omega),List.getElem?_drop] at hj ⊢
      simp only[List.length_append,List.length_take] at hj ⊢
      rw[show p+nv.length+(j-(min p vals.length+nv.length))=j by omega] at hj
      rw[show p+nv.length+(j-(min p c.toList.length+nv.length))=j by omega]
      exact hcell j v hj
  ·have hg:g=r.g:=Nat.le_antisymm (hrow.gen g K hK).1 hm
   subst hg
   rw[hL] at hK;cases hK
   exact⟨hbase,c',t,hheap,by rw[hc's];exact hcs,hlt⟩
  ·have hg:g=r.g:=Nat.le_antisymm (hrow.gen g K hK).1 hm
   subst hg
   obtain⟨c0,f0,hc0⟩:=hrow.ty u hu hrw r.g K hrow.mg hK
   rw[hL] at hK;cases hK
   rw[hc] at hc0;cases hc0
   exact⟨_,_,hheap⟩
 ·refine Gw.of_block hc hB (fun ds e=>by cases e) (fun r e=>by cases e) hheap ?_ ?_ (fun k hk=>setRow_other w L'.blk k c' hk) (by simp) rfl rfl rfl
  ·intro c0 t0 fr e;cases e;rfl
  ·intro c0 t0 fr e;cases e;rfl
theorem uQ {P:Program} {B:Base} {φ:eO} {h:aj} {w:World} {id:Nat} (H:dI P B φ h w) {es:List (List AV)} {sz:Nat} (hsz:0<sz) (hes:∀e∈es,e.length=sz) (hlf:∀e∈es,aV e=true) {vals spare:List Value} (hv:dH φ es.flatten vals)
 {tot:Nat} (htot:vals.length+spare.length=tot*sz) (t:TypeId) (ty:Option Nat) (hty:∀e,ty=some e→e=t) (hg:B.gh id=some (.row {es,sz,g:=0,m:=0,rw:=true,ty})):
 ∃φ',φ.le φ'∧φ' id 0=some ⟨w.heap.size,0,sz,es.length,tot⟩∧dI P (B.del id) φ' h (w.alloc (.cells (vals++spare).toArray t))∧Gw B w (w.alloc (.cells (vals++spare).toArray t)):=by
 have hnone:=(H.ghost id _ hg).2
 have hle:φ.le (φ.add id 0 ⟨w.heap.size,0,sz,es.length,tot⟩):=eO.le_add _ (hnone 0)
 refine⟨φ.add id 0 ⟨w.heap.size,0,sz,es.length,tot⟩,hle,eO.add_same _ _ _ _, ?_,Gw.alloc H.base (fun c t' fr e=>by cases e;rfl)⟩
 have hvl:vals.length=es.length*sz:=by rw[←hv.length,jP hes]
 have hkey:∀g L,φ.add id 0 ⟨w.heap.size,0,sz,es.length,tot⟩ id g=some L→g=0∧L=⟨w.heap.size,0,sz,es.length,tot⟩:=by
  intro g L e
  by_cases hg:g=0
  ·subst hg;rw[eO.add_same] at e;cases e;exact⟨rfl,rfl⟩
  ·rw[eO.add_other _ _ (by omega),hnone] at e;cases e
 refine H.fill hg rfl rfl (fun ds e=>by cases e) ?_
 refine⟨Nat.le_refl _,hsz,hes,hlf,⟨_,eO.add_same _ _ _ _,rfl⟩,fun g L e=> ?_,fun g L _ e=> ?_,fun _ g L _ e=> ?_,fun u hu _ g L _ e=> ?_⟩
 ·obtain⟨rfl,rfl⟩:=hkey g L e;exact⟨Nat.le_refl _,rfl⟩
 ·obtain⟨rfl,rfl⟩:=hkey g L e
  refine⟨Nat.le_refl _,vals, ?_,fun j v hj=> ?_⟩
  ·rw[List.take_of_length_le (Nat.le_refl _)];exact hv.mono hle
  ·have hjl:=(List.getElem?_eq_some_iff.1 hj).1
   simp only[Nat.zero_add]
   rw[World.cell?_alloc_new]
   simp[List.getElem?_append_left hjl,hj]
 ·obtain⟨rfl,rfl⟩:=hkey g L e
  refine⟨rfl,_,t,heap_alloc_new w _,by simp;omega, ?_⟩
  simp only
  rcases Nat.lt_or_ge tot es.length with h1 |h1
  ·have h2:(tot+1)*sz≤es.length*sz:=Nat.mul_le_mul_right _ h1
   rw[Nat.add_mul] at h2
   omega
  ·exact h1
 ·obtain⟨rfl,rfl⟩:=hkey g L e
  obtain rfl:=hty u hu
  exact⟨_,_,heap_alloc_new w _⟩
theorem qz {P:Program} {B:Base} {φ:eO} {h:aj} {w:World} (H:dI P B φ h w) {es:List (List AV)} {sz:Nat} (hsz:0<sz) (hes:∀e∈es,e.length=sz) (hlf:∀e∈es,aV e=true) {vals spare:List Value} (hv:dH φ es.flatten vals)
 {tot:Nat} (htot:vals.length+spare.length=tot*sz) (t:TypeId) (ty:Option Nat) (hty:∀e,ty=some e→e=t):
 ∃φ',φ.le φ'∧φ' h.sz 0=some ⟨w.heap.size,0,sz,es.length,tot⟩∧dI P B φ' (newRow h es sz ty) (w.alloc (.cells (vals++spare).toArray t))∧Gw B w (w.alloc (.cells (vals++spare).toArray t)):=by
 obtain⟨φ',h1,h2,h3,h4⟩:=uQ (H.pushGhost (.row {es,sz,g:=0,m:=0,rw:=true,ty})) hsz hes hlf hv htot t ty hty (Base.add_same _ _ _)
 rw[Base.del_add H.noGhost] at h3
 exact⟨φ',h1,h2,h3,h4⟩
theorem UF {P:Program} {B:Base} {φ:eO} {h:aj} {w:World} (H:dI P B φ h w) {es:List (List AV)} {sz:Nat} (hsz:0<sz) (hes:∀e∈es,e.length=sz) (hlf:∀e∈es,aV e=true) {vals spare:List Value} (hv:dH φ es.flatten vals)
 {tot:Nat} (htot:vals.length+spare.length=tot*sz) (t:TypeId):
 ∃φ',φ.le φ'∧φ' h.sz 0=some ⟨w.heap.size,0,sz,es.length,tot⟩∧dI P B φ' (newRow h es sz) (w.alloc (.cells (vals++spare).toArray t))∧Gw B w (w.alloc (.cells (vals++spare).toArray t)):=
 qz H hsz hes hlf hv htot t none (fun _ e=>by cases e)
def jU (P:Program) (B:Base) (φ:eO) (h':aj) (v:AV) (w:World) (r:Result Value):Prop:=
 ∃cv w' φ',r= .ok cv w'∧dn φ' v cv∧dI P B φ' h' w'∧φ.le φ'∧Gw B w w'
def WM (P:Program) (B:Base) (φ:eO) (h':aj) (w:World) (r:Result Unit):Prop:=
 ∃w' φ',r= .ok () w'∧dI P B φ' h' w'∧φ.le φ'∧Gw B w w'
def kU (P:Program) (B:Base) (φ:eO) (h':aj) (v:AV) (w:World) (r:Result Next):Prop:=
 ∃cv w' φ',(r= .ok (.value cv) w'∨(r= .ok .skip w'∧cv=undef))∧dn φ' v cv∧dI P B φ' h' w'∧φ.le φ'∧Gw B w w'
section
variable {P:Program} {B:Base} {φ:eO} {h h':aj} {w:World} {v:AV}
theorem jU.pure {r:Result Value} {cv:Value} (H:dI P B φ h w) (hr:r= .ok cv w) (hv:dn φ v cv):jU P B φ h v w r:=
 ⟨cv,w,φ,hr,hv,H,φ.le_refl,Gw.refl B w⟩
theorem kU.ofV {s:Sem Value} (hs:jU P B φ h' v w (s.run P w)):kU P B φ h' v w ((do let x ←s;Pure.pure (Next.value x):Sem Next).run P w):=by
 obtain⟨cv,w',φ',hr,rest⟩:=hs
 exact⟨cv,w',φ', .inl (by simp[Sem.run_bind,hr]),rest⟩
theorem kU.ofU {s:Sem Unit} (hs:WM P B φ h' w (s.run P w)):kU P B φ h' (.tup []) w ((do s;Pure.pure Next.skip:Sem Next).run P w):=by
 obtain⟨w',φ',hr,rest⟩:=hs
 exact⟨undef,w',φ', .inr ⟨by simp[hr],rfl⟩, .tup .nil,rest⟩
theorem oG {t:TypeId} {b:Bool} (ht:kr P t=some b) (w:World):(isAgg t).run P w= .ok b w:=by
 unfold kr at ht
 unfold isAgg
 split at ht<;>rename_i hu
 ·cases ht;simp[Sem.run_bind,run_underlying hu]
 ·cases ht;simp[Sem.run_bind,run_underlying hu]
 ·rename_i d h1 h2
  cases ht
  rw[Sem.run_bind,run_underlying hu]
  cases d<;>first |rfl |(exact absurd rfl (h1 _))|(exact absurd rfl (h2 _ _))
 ·cases ht
theorem fK {t:TypeId} {n:Nat} (ht:sizeT P t=some n) (w:World):(sizeOf t).run P w= .ok n w:=by
 unfold sizeT at ht
 cases hi:P.info? t with
 |none=>simp[hi] at ht
 |some i=>simp[hi] at ht;subst ht;simp[sizeOf,typeInfo,hi]
theorem Ae {t:TypeId} {n:Nat} (ht:qP P t=some n) (w:World):∃i,(typeInfo t).run P w= .ok i w∧i.bytes=n∧P.info? t=some i:=by
 unfold qP at ht
 cases hi:P.info? t with
 |none=>simp[hi] at ht
 |some i=>simp[hi] at ht;exact⟨i,by simp[typeInfo,hi],ht,rfl⟩
theorem jI {t:TypeId} {z:AV} (ht:je P t=some z) (w:World):∃zv i,(zeroValue t).run P w= .ok zv w∧mQ zv=some z∧P.info? t=some i∧i.zero=some zv:=by
 unfold je at ht
 cases hi:P.info? t with
 |none=>simp[hi] at ht
 |some i=>
  cases hz:i.zero with
  |none=>simp[hi,hz] at ht
  |some zv=>simp[hi,hz] at ht;exact⟨zv,i,by simp[zeroValue,typeInfo,hi,hz],ht,rfl,hz⟩
theorem Cv {j k:IntKind} (e:rC j=rC k):j=k:=by
 cases j<;>cases k<;>first |rfl |(simp[rC] at e)
theorem mM (k:IntKind) (n:Int):gV k n=k.wrap n:=by
 unfold gV
 cases hf:DW k n with
 |false=>rfl
 |true=>
  rw[cond_true]
  symm
  cases k<;>cases n<;>simp only[DW,bI,Bool.false_eq_true] at hf
  all_goals first
   |(rw[IntWalk.i64_in];constructor<;>simp only[Int.ofNat_eq_natCast,Int.negSucc_eq]<;>omega)
   |(rw[IntWalk.u8_in];constructor<;>simp only[Int.ofNat_eq_natCast]<;>omega)
   |(rw[IntWalk.u64_in];constructor<;>simp only[Int.ofNat_eq_natCast]<;>omega)
   |(rw[IntWalk.i32_in];constructor<;>simp only[Int.ofNat_eq_natCast]<;>omega)
   |(rw[IntWalk.u32_in];constructor<;>simp only[Int.ofNat_eq_natCast]<;>omega)
theorem rG (a b:Int):BG a b=(a==b):=by
 rw[Bool.eq_iff_iff,beq_iff_eq]
 cases a<;>cases b<;>simp[BG]
 ·omega
theorem HV (a b:Int):tF a b=true↔a<b:=by
 cases a<;>cases b<;>simp only[tF,dL,Bool.false_eq_true,Int.ofNat_eq_natCast,Int.negSucc_eq]<;>constructor<;>intro<;>first |omega |trivial
theorem uO (a b:Int):tF a b=decide (a<b):=by
 rw[Bool.eq_iff_iff,HV];simp
theorem H7 (a b:Int):(!tF a b)=decide (b≤a):=by
 rw[uO, ←decide_not];congr 1;simp
theorem zS:∀(a b:List Nat),BD a b=(a==b)
 | [],[]=>rfl
 | [],_ :: _=>rfl
 |_ :: _,[]=>rfl
 |x :: a,y :: b=>by
  simp only[BD,List.cons_beq_cons]
  cases e:Nat.beq x y with
  |true=>rw[cond_true,zS a b];have:=bJ.1 e;subst this;simp
  |false=>rw[cond_false];have:=fO.1 e;simp[this]
theorem Ct {a b:ByteArray} {l m:List Nat} (ha:a.data.toList.map UInt8.toNat=l) (hb:b.data.toList.map UInt8.toNat=m):BD l m=(a.toList==b.toList):=by
 rw[zS,ByteArray.toList_eq,ByteArray.toList_eq, ←ha, ←hb]
 rw[Bool.eq_iff_iff,beq_iff_eq,beq_iff_eq]
 constructor
 ·intro e
  exact List.map_inj_right (fun x y h=>UInt8.toNat.inj h) |>.1 e
 ·intro e;rw[e]
theorem Cn:∀(a b:List UInt8),Dp (a.map UInt8.toNat) (b.map UInt8.toNat)=Op.bytesLess a b
 |_,[]=>by cases ‹List UInt8› <;>simp[Dp,Op.bytesLess]
 | [],_ :: _=>by simp[Dp,Op.bytesLess]
 |x :: a,y :: b=>by
  simp only[List.map_cons,Dp,Op.bytesLess]
  cases e:Nat.blt x.toNat y.toNat with
  |true=>
   have h1:x<y:=UInt8.lt_iff_toNat_lt.2 (dL.1 e)
   simp[h1]
  |false=>
   have h1:¬x<y:=fun h=>by rw[dL.2 (UInt8.lt_iff_toNat_lt.1 h)] at e;cases e
   cases e2:Nat.beq x.toNat y.toNat with
   |true=>
    have h2:x=y:=UInt8.toNat.inj (bJ.1 e2)
    subst h2
    simp[Cn a b]
   |false=>
    have h2:¬x=y:=fun h=>by subst h;rw[bJ.2 rfl] at e2;cases e2
    simp[h1,h2]
theorem tT {s:ByteArray} {l:List Nat} (hs:s.data.toList.map UInt8.toNat=l):s.size=l.length:=by
 rw[←hs,List.length_map,Array.length_toList];rfl
theorem MK {op:BinOp} {x y v:AV} {cx cy:Value} (hx:dn φ x cx) (hy:dn φ y cy) (he:aR op x y=some v) (t:TypeId):∃cv,(binOp op t cx cy).run P w= .ok cv w∧dn φ v cv∧(∀a b,cx≠ .agg a∨cy≠ .agg b)∧(cx≠ .nilIface):=by
 unfold aR at he
 split at he
 ·rename_i k a j b
  cases hx;cases hy
  refine(fun(hh:∃cv,(binOp op t (.int k a) (.int j b)).run P w= .ok cv w∧dn φ v cv)=> ?_) ?_
  ·obtain⟨cv,h1,h2⟩:=hh
   exact⟨cv,h1,h2,fun _ _=> .inl (by simp),by simp⟩
  cases hsft:oC op with
  |true=>
   rw[hsft,cond_true] at he
   unfold wz at he
   cases hneg:tF b 0 with
   |true=>rw[hneg] at he;simp at he
   |false=>
    have hb:¬b<0:=fun h=>by rw[(HV b 0).2 h] at hneg;cases hneg
    rw[hneg,cond_false] at he
    cases op<;>simp[oC] at hsft<;>cases he
    ·exact⟨.int k (k.wrap (a*2 ^ (min b.toNat k.bits))),by simp only[binOp,Op.shift,hb,if_false];rfl, .int _ _⟩
    ·exact⟨.int k (a.fdiv (2 ^ (min b.toNat k.bits))),by simp only[binOp,Op.shift,hb,if_false];rfl, .int _ _⟩
  |false=>
   rw[hsft,cond_false] at he
   cases hk:Nat.beq (rC k) (rC j) with
   |false=>rw[hk] at he;simp at he
   |true=>
    rw[hk,cond_true] at he
    have:=Cv (bJ.1 hk);subst this
    cases op<;>simp[oC] at hsft<;>simp only[xg,Vo] at he
    case add=>cases he;exact⟨.int k (k.wrap (a+b)),by simp[binOp,Op.intArith],by rw[mM];exact .int _ _⟩
    case sub=>cases he;exact⟨.int k (k.wrap (a-b)),by simp[binOp,Op.intArith],by rw[mM];exact .int _ _⟩
    case mul=>cases he;exact⟨.int k (k.wrap (a*b)),by simp[binOp,Op.intArith],by rw[mM];exact .int _ _⟩
    case quo=>
     cases hz:BG b 0 with
     |true=>rw[hz] at he;simp at he
     |false=>
      rw[hz] at he;simp at he;subst he
      have hb:¬b=0:=fun e=>by rw[rG,e] at hz;simp at hz
      exact⟨.int k (k.wrap (a.tdiv b)),by simp[binOp,Op.intDiv,hb],by rw[mM];exact .int _ _⟩
    case rem=>
     cases hz:BG b 0 with
     |true=>rw[hz] at he;simp at he
     |false=>
      rw[hz] at he;simp at he;subst he
      have hb:¬b=0:=fun e=>by rw[rG,e] at hz;simp at hz
      exact⟨.int k (a.tmod b),by simp[binOp,Op.intDiv,hb], .int _ _⟩
    case and=>cases he;exact⟨.int k (k.wrap (BitVec.ofInt k.bits a&&& BitVec.ofInt k.bits b).toNat),by simp only[binOp,Op.intBits,ne_eq,not_true_eq_false,if_false];rfl, .int _ _⟩
    case or=>cases he;exact⟨.int k (k.wrap (BitVec.ofInt k.bits a|||BitVec.ofInt k.bits b).toNat),by simp only[binOp,Op.intBits,ne_eq,not_true_eq_false,if_false];rfl, .int _ _⟩
    case xor=>cases he;exact⟨.int k (k.wrap (BitVec.ofInt k.bits a ^^^ BitVec.ofInt k.bits b).toNat),by simp only[binOp,Op.intBits,ne_eq,not_true_eq_false,if_false];rfl, .int _ _⟩
    case andNot=>cases he;exact⟨.int k (k.wrap (BitVec.ofInt k.bits a&&& ~~~ BitVec.ofInt k.bits b).toNat),by simp only[binOp,Op.intBits,ne_eq,not_true_eq_false,if_false];rfl, .int _ _⟩
    case eql=>cases he;exact⟨.bool (a==b),by simp[binOp,Op.intCmp],by rw[rG];exact .bool _⟩
    case neq=>cases he;exact⟨.bool (!(a==b)),by simp[binOp,Op.intCmp,bne],by rw[rG];exact .bool _⟩
    case lss=>cases he;exact⟨.bool (decide (a<b)),by simp[binOp,Op.intCmp],by rw[uO];exact .bool _⟩
    case leq=>cases he;exact⟨.bool (decide (a≤b)),by simp[binOp,Op.intCmp],by rw[H7];exact .bool _⟩
    case gtr=>cases he;exact⟨.bool (decide (b<a)),by simp[binOp,Op.intCmp],by rw[uO];exact .bool _⟩
    case geq=>cases he;exact⟨.bool (decide (b≤a)),by simp[binOp,Op.intCmp],by rw[H7];exact .bool _⟩
 ·rename_i l m
  cases hx with
  |str ha=>
   rename_i a
   cases hy with
   |str hb=>
    rename_i b
    refine(fun(hh:∃cv,(binOp op t (.string a) (.string b)).run P w= .ok cv w∧dn φ v cv)=> ?_) ?_
    ·obtain⟨cv,h1,h2⟩:=hh
     exact⟨cv,h1,h2,fun _ _=> .inl (by simp),by simp⟩
    have e1:=Ct ha hb
    have e2:Dp l m=Op.bytesLess a.toList b.toList:=by
     rw[←ha, ←hb,Cn,ByteArray.toList_eq,ByteArray.toList_eq]
    have hsz:((a.size+b.size:Nat):Int)=((l.length+m.length:Nat):Int):=by rw[tT ha,tT hb]
    cases op<;>simp only[NQ] at he<;>try(cases he;done)
    case add=>
     cases hle:Nat.ble (l.length+m.length) most with
     |false=>rw[hle] at he;simp at he
     |true=>
      rw[hle] at he;simp at he;subst he
      have h1:=bI.1 hle
      unfold most at h1
      have h2:¬(IntKind.i64.max<((a.size:Int)+(b.size:Int))):=by
       have:((a.size:Int)+(b.size:Int))=((a.size+b.size:Nat):Int):=by omega
       rw[this,hsz]
       have:IntKind.i64.max=9223372036854775807:=by rfl
       rw[this];omega
      refine⟨.string (a++b),by simp[binOp,Op.stringOp];omega, .str ?_⟩
      rw[←ha, ←hb, ←List.map_append]
      simp[ByteArray.data_append]
    case eql=>cases he;exact⟨.bool (a.toList==b.toList),by simp only[binOp,Op.stringOp];rfl,by rw[e1];exact .bool _⟩
    case neq=>cases he;exact⟨.bool (!(a.toList==b.toList)),by simp only[binOp,Op.stringOp];rfl,by rw[e1];exact .bool _⟩
    case lss=>cases he;exact⟨.bool (Op.bytesLess a.toList b.toList),by simp only[binOp,Op.stringOp];rfl,by rw[e2];exact .bool _⟩
    case leq=>cases he;exact⟨.bool (Op.bytesLess a.toList b.toList||a.toList==b.toList),by simp only[binOp,Op.stringOp];rfl,by rw[e1,e2];exact .bool _⟩
    case gtr=>cases he;exact⟨.bool (!(Op.bytesLess a.toList b.toList||a.toList==b.toList)),by simp only[binOp,Op.stringOp];rfl,by rw[e1,e2];exact .bool _⟩
    case geq=>cases he;exact⟨.bool (!Op.bytesLess a.toList b.toList),by simp only[binOp,Op.stringOp];rfl,by rw[e2];exact .bool _⟩
 ·cases he
theorem aaf {k:IntKind} {n:Int}:(Op.unary .neg (.int k n)).run P w= .ok (.int k (k.wrap (0-n))) w:=by simp[Op.unary,Op.intArith]
theorem BZ {t:TypeId} {ag:Bool} {n off:Nat} {l:List AV} {v:AV} {cs:List Value} (hl:dH φ l cs) (he:iH ag off n l=some v) (hag:kr P t=some ag) (hn:sizeT P t=some n):
 ∃cv,(part t ⟨cs⟩ off).run P w= .ok cv w∧dn φ v cv:=by
 unfold iH at he
 cases ag with
 |true=>
  rw[cond_true] at he
  cases hle:Nat.ble (off+n) l.length with
  |false=>rw[hle] at he;cases he
  |true=>
   rw[hle,cond_true] at he;cases he
   refine⟨.agg ⟨(cs.drop off).take n⟩, ?_, .agg ((hl.drop off).take n)⟩
   have hx:(⟨cs⟩:Array Value).extract off (off+n)=⟨(cs.drop off).take n⟩:=by
    apply Array.ext'
    simp[List.extract_eq_take_drop]
   simp[part,Sem.run_bind,oG hag,fK hn,hx]
 |false=>
  rw[cond_false,lJ] at he
  obtain⟨cv,h1,h2⟩:=hl.get he
  refine⟨cv, ?_,h2⟩
  have h3:(⟨cs⟩:Array Value)[off]? =some cv:=by simpa using h1
  simp[part,Sem.run_bind,oG hag,h3]
theorem Bd {ag:Bool} {n:Nat} {x v:AV} {cx:Value} {t:TypeId} (H:dI P B φ h w) (hx:dn φ x cx) (he:au h ag n x=some v) (hag:kr P t=some ag) (hn:sizeT P t=some n):
 ∃cv,(Instr.loadAt t cx).run P w= .ok cv w∧(∀A,cx= .pointer (some A)→(loadVar t A).run P w= .ok cv w)∧dn φ v cv:=by
 unfold au at he
 split at he
 ·rename_i id g i o
  cases hrow:h.row id with
  |none=>simp[hrow] at he
  |some r=>
   rw[hrow] at he
   simp only at he
   cases hm:Nat.ble r.m g with
   |false=>rw[hm] at he;cases he
   |true=>
    rw[hm,cond_true,lJ] at he
    cases hi:r.es[i]? with
    |none=>simp[hi] at he
    |some e=>
     rw[hi] at he
     simp only at he
     cases hx with
     |ptr hL hlt=>
      rename_i L
      have hr:iC φ id r w:=H.obj id _ (aj.row_some.1 hrow)
      refine(fun(hh:∃cv,(loadVar t ⟨L.blk,L.base+i*L.sz+o,none⟩).run P w= .ok cv w∧dn φ v cv)=> ?_) ?_
      ·obtain⟨cv,a,b⟩:=hh
       exact⟨cv,by simp[Instr.loadAt,Instr.sureAddr,a],fun A e=>by cases e;exact a,b⟩
      unfold iH at he
      cases ag with
      |true=>
       rw[cond_true] at he
       cases hle:Nat.ble (o+n) e.length with
       |false=>rw[hle] at he;cases he
       |true=>
        rw[hle,cond_true] at he;cases he
        obtain⟨vs,h1,h2,h3⟩:=Gm hr hL (bI.1 hm) hlt hi (bI.1 hle)
        refine⟨.agg ⟨vs⟩, ?_, .agg h1⟩
        have:=run_loadCells_list (P:=P) w ⟨L.blk,L.base+i*L.sz+o,none⟩ vs h3
        rw[h2] at this
        simp[loadVar,Sem.run_bind,oG hag,fK hn,this]
      |false=>
       rw[cond_false,lJ] at he
       have ho:o<e.length:=(List.getElem?_eq_some_iff.1 he).1
       obtain⟨vs,h1,h2,h3⟩:=Gm hr hL (bI.1 hm) hlt hi (o:=o) (n:=1) (by omega)
       obtain⟨cv,h4,h5⟩:=h1.get (i:=0) (a:=v) (by
        rw[List.getElem?_take_of_lt (by omega),List.getElem?_drop];simpa using he)
       refine⟨cv, ?_,h5⟩
       have h6:=h3 0 cv h4
       rw[Addr.add_lit,Nat.add_zero] at h6
       simp[loadVar,Sem.run_bind,oG hag,h6]
 ·cases he
theorem H8 {n:Nat} {x v:AV} {cx cv:Value} {t:TypeId} (H:dI P B φ h w) (hx:dn φ x cx) (hv:dn φ v cv) (he:bT h n x v=some h') (hn:sizeT P t=some n):
 WM P B φ h' w ((Instr.storeAt t cx cv).run P w):=by
 unfold bT at he
 split at he
 ·rename_i id g i o
  cases hrow:h.row id with
  |none=>
   rw[hrow] at he
   simp only at he
   cases hc:(Nat.beq n 0&&Nat.beq v.cells.length 0) with
   |false=>rw[hc] at he;cases he
   |true=>
    rw[hc,cond_true] at he;cases he
    simp only[Bool.and_eq_true,bJ] at hc
    obtain⟨rfl,c2⟩:=hc
    cases hx with
    |ptr hL hlt=>
     have hcs:cv.cells.toList=[]:=List.eq_nil_of_length_eq_zero (by rw[←hv.cells.length,c2])
     have hcz:cv.cells.size=0:=by rw[←Array.length_toList,hcs];rfl
     refine⟨w,φ, ?_,H,φ.le_refl,Gw.refl B w⟩
     simp[Instr.storeAt,Instr.sureAddr,storeVar,Sem.run_bind,fK hn,hcz,hcs,storeCells]
  |some r=>
   rw[hrow] at he
   simp only at he
   cases hc:(r.rw&&Nat.beq g r.g&&Nat.beq v.cells.length n&&aV v.cells) with
   |false=>rw[hc] at he;cases he
   |true=>
    rw[hc,cond_true,lJ] at he
    simp only[Bool.and_eq_true,bJ] at hc
    obtain⟨⟨⟨c1,c2⟩,c3⟩,c4⟩:=hc
    subst c2
    cases hi:r.es[i]? with
    |none=>simp[hi] at he
    |some e=>
     rw[hi] at he
     simp only at he
     cases hle:Nat.ble (o+n) e.length with
     |false=>rw[hle] at he;cases he
     |true=>
      rw[hle,cond_true,oF] at he;cases he
      have hle:=bI.1 hle
      cases hx with
      |ptr hL hlt=>
       rename_i L
       have hget:=aj.row_some.1 hrow
       have hr:iC φ id r w:=H.obj id _ hget
       have hsz:L.sz=r.sz:=(hr.gen _ L hL).2
       obtain⟨hilt,hie⟩:=List.getElem?_eq_some_iff.1 hi
       have hel:e.length=r.sz:=hr.es e (List.mem_of_getElem? hi)
       have hfit:i*r.sz+o+v.cells.length≤r.es.length*r.sz:=by
        have:(i+1)*r.sz≤r.es.length*r.sz:=Nat.mul_le_mul_right _ hilt
        rw[Nat.add_mul] at this;omega
       obtain⟨w',h1,h2,h3⟩:=yJ H hget c1 hL hv.cells c4 (p:=i*r.sz+o) hfit (es':=r.es.set i (lay e o v.cells))
        (by
          intro x hx
          rcases List.mem_or_eq_of_mem_set hx with hx |rfl
          ·exact hr.es x hx
          ·rw[mX _ _ _ (by omega),hel])
        (by simp) (XK hr.es hi (by omega)) (by
          intro x hx
          rcases List.mem_or_eq_of_mem_set hx with hx |rfl
          ·exact hr.leaf x hx
          ·exact Jw (hr.leaf e (List.mem_of_getElem? hi)) c4 o)
       refine⟨w',φ, ?_,h2,φ.le_refl,h3⟩
       have hcs:cv.cells.size=n:=by
        have:=hv.cells.length
        rw[c3] at this
        simpa using this.symm
       have ha:(⟨L.blk,L.base+i*L.sz+o,none⟩:Addr)=⟨L.blk,L.base+(i*r.sz+o),none⟩:=by rw[hsz,Nat.add_assoc]
       simp[Instr.storeAt,Instr.sureAddr,storeVar,Sem.run_bind,fK hn,hcs,ha,h1]
 ·cases he
theorem BO {n id:Nat} {x:AV} {cx:Value} {t:TypeId} (H:dI P B φ h w) (hx:dn φ x cx) (hc:(Nat.beq x.cells.length n&&aV x.cells&&Nat.blt 0 n)=true) (hg:B.gh id=some (.row {es:=[x.cells],sz:=n,g:=0,m:=0,rw:=true})):
 jU P (B.del id) φ h (.ptr id 0 0 0) w ((Instr.box t cx).run P w):=by
 simp only[Bool.and_eq_true,bJ,dL] at hc
 obtain⟨⟨c1,c2⟩,c3⟩:=hc
 have hcells:=hx.cells
 obtain⟨φ',h1,h2,h3,h4⟩:=uQ H (es:=[x.cells]) c3 (by intro e he;simp at he;subst he;exact c1) (by intro e he;simp at he;subst he;exact c2) (vals:=cx.cells.toList) (spare:=[]) (by simpa using hcells) (tot:=1)
  (by simp;rw[←c1,hcells.length];simp) t none (fun _ e=>by cases e) hg
 refine⟨.pointer (some ⟨w.heap.size,0,none⟩),_,φ', ?_, ?_,h3,h1,h4⟩
 ·simp[Instr.box,newVar,newRow,Go.newRow]
 ·have:=dn.ptr (φ:=φ') (i:=0) (o:=0) h2 (by simp)
  simpa using this
theorem PV {n:Nat} {x v:AV} {cx:Value} {t:TypeId} (H:dI P B φ h w) (hx:dn φ x cx) (he:iY h n x=some (v,h')):jU P B φ h' v w ((Instr.box t cx).run P w):=by
 unfold iY at he
 cases hc:(Nat.beq x.cells.length n&&aV x.cells&&Nat.blt 0 n) with
 |false=>rw[hc] at he;cases he
 |true=>
  rw[hc,cond_true] at he;cases he
  have:=BO (t:=t) (H.pushGhost (.row {es:=[x.cells],sz:=n,g:=0,m:=0,rw:=true})) hx hc (Base.add_same _ _ _)
  rwa [Base.del_add H.noGhost] at this
theorem GZ {z:List AV} {t:TypeId} {id:Nat} (H:dI P B φ h w) {za:AV} (hz:je P t=some za) (hzc:za.cells=z) (hc:z.length=0) (hg:B.gh id=some .gone):
 jU P (B.del id) φ h (.ptr id 0 0 0) w ((Instr.alloc t true (.tuple #[])).run P w):=by
 obtain⟨zv,i,h1,h2,h3,h4⟩:=jI hz w
 have hnone:=(H.ghost id _ hg).2
 have hle:=eO.le_add (φ:=φ) (id:=id) (g:=0) ⟨w.heap.size,0,0,1,0⟩ (hnone 0)
 have hp:=H.fill hg rfl (L:=⟨w.heap.size,0,0,1,0⟩) (ob:= .cells zv.cells t) rfl (fun ds e=>by cases e) trivial
 refine⟨.pointer (some ⟨w.heap.size,0,none⟩),_,φ.add id 0 ⟨w.heap.size,0,0,1,0⟩, ?_, ?_,hp,hle,Gw.alloc H.base (fun _ _ _ e=>by cases e;rfl)⟩
 ·simp[Instr.alloc,h1,newVar,Go.newRow]
 ·have:=dn.ptr (φ:=φ.add id 0 ⟨w.heap.size,0,0,1,0⟩) (i:=0) (o:=0) (eO.add_same _ _ _ _) (by simp)
  simpa using this
theorem KJ {z:List AV} {t:TypeId} {id:Nat} (H:dI P B φ h w) {za:AV} (hz:je P t=some za) (hzc:za.cells=z) (hc:(Nat.blt 0 z.length&&aV z)=true) (hg:B.gh id=some (.row {es:=[z],sz:=z.length,g:=0,m:=0,rw:=true})):
 jU P (B.del id) φ h (.ptr id 0 0 0) w ((Instr.alloc t true (.tuple #[])).run P w):=by
 obtain⟨zv,i,h1,h2,h3,h4⟩:=jI hz w
 subst hzc
 obtain⟨cv,w',φ',a,b⟩:=BO (t:=t) (n:=za.cells.length) H (nC h2) (by simp only[Bool.and_eq_true] at hc ⊢;exact⟨⟨bJ.2 rfl,hc.2⟩,hc.1⟩) hg
 refine⟨cv,w',φ', ?_,b⟩
 simp[Instr.alloc,h1]
 simpa[Instr.box] using a
theorem sO {z:List AV} (he:vO h z=some (v,h')):v= .ptr h.sz 0 0 0∧∃ob,h'=h.push ob∧((z.length=0∧ob= .gone)∨((Nat.blt 0 z.length&&aV z)=true∧ob= .row {es:=[z],sz:=z.length,g:=0,m:=0,rw:=true})):=by
 unfold vO at he
 cases h0:Nat.beq z.length 0 with
 |true=>rw[h0,cond_true] at he;cases he;exact⟨rfl,_,rfl, .inl ⟨bJ.1 h0,rfl⟩⟩
 |false=>
  rw[h0,cond_false] at he
  cases hl:aV z with
  |false=>rw[hl] at he;cases he
  |true=>
   rw[hl,cond_true] at he;cases he
   have:=fO.1 h0
   exact⟨rfl,_,rfl, .inr ⟨by rw[dL.2 (by omega)];rfl,rfl⟩⟩
theorem zw {z:List AV} {t:TypeId} {hp:aj} {ob:iq} (H:dI P B φ h w) {za:AV} (hz:je P t=some za) (hzc:za.cells=z) (he:vO hp z=some (v,hp.push ob)) (hg:B.gh hp.sz=some ob):
 jU P (B.del hp.sz) φ h v w ((Instr.alloc t true (.tuple #[])).run P w):=by
 obtain⟨rfl,ob',e,h1⟩:=sO he
 have e:=push_inj e
 subst e
 rcases h1 with⟨h1,rfl⟩|⟨h1,rfl⟩
 ·exact GZ H hz hzc h1 hg
 ·exact KJ H hz hzc h1 hg
theorem Jd {z:List AV} {v:AV} {t:TypeId} (H:dI P B φ h w) {za:AV} (hz:je P t=some za) (hzc:za.cells=z) (he:vO h z=some (v,h')):
 jU P B φ h' v w ((Instr.alloc t true (.tuple #[])).run P w):=by
 obtain⟨_,ob,rfl,_⟩:=sO he
 have:=zw (H.pushGhost ob) hz hzc he (Base.add_same _ _ _)
 rwa [Base.del_add H.noGhost] at this
end
theorem Ji (off:Nat):∀(l:List Value) (k:Nat) (base:Array Value),off+k+l.length≤base.size→
 ((l.zipIdx k).foldl (fun(cs:Array Value) (x:Value×Nat)=>cs.setIfInBounds (off+x.2) x.1) base).toList=lay base.toList (off+k) l
 | [],k,base,_=>by simp[lay]
 |v :: l,k,base,h=>by
  simp only[List.length_cons] at h
  simp only[List.zipIdx_cons,List.foldl_cons]
  rw[Ji off l (k+1) _ (by simp;omega)]
  unfold lay
  simp only[Array.toList_setIfInBounds,List.length_cons]
  have:=list_seg_step base.toList (off+k) v l (by simp;omega)
  rw[show off+(k+1)=off+k+1 by omega]
  exact this
theorem Eb (off:Nat) (l:Array Value) (base:Array Value) (h:off+l.size≤base.size):
 (l.zipIdx.foldl (fun cs (c,j)=>cs.setIfInBounds (off+j) c) base).toList=lay base.toList off l.toList:=by
 rw[←Array.foldl_toList,Array.toList_zipIdx]
 exact Ji off l.toList 0 base (by simpa using h)
section
variable {P:Program} {B:Base} {φ:eO} {h h':aj} {w:World} {v:AV} {N:Nat} {ρ:dY} {a:Act}
theorem vY (hR:kI φ N ρ a.tmps) (place:Nat→Option (Nat×Nat)) {comp:List (Nat×Operand)→Option (List (Nat×Nat×gJ))}
 (hnil:comp []=some []) (hcons:∀i x l r,comp ((i,x) :: l)=some r→∃off n y r',place i=some (off,n)∧bX x=some y∧comp l=some r'∧r=(off,n,y) :: r'):
 ∀(parts:List (Nat×Operand)) (ap:List (Nat×Nat×gJ)) (ac:List AV) (cc:Array Value) (r:List AV),comp parts=some ap→dH φ ac cc.toList→rT ρ ac ap=some r→
  ∃cc',Instr.fill place cc (parts.map fun p=>(p.1,a.eval p.2))=some cc'∧dH φ r cc'.toList
 | [],ap,ac,cc,r,hc,hv,hf=>by
   rw[hnil] at hc;cases hc
   simp[rT] at hf;subst hf
   exact⟨cc,by simp[Instr.fill],hv⟩
 |(i,x) :: parts,ap,ac,cc,r,hc,hv,hf=>by
  obtain⟨off,n,y,r',h1,h2,h3,rfl⟩:=hcons i x parts ap hc
  simp only[rT] at hf
  cases he:ev ρ y with
  |none=>simp[he] at hf
  |some u=>
   rw[he] at hf
   simp only at hf
   cases hcnd:(Nat.beq u.cells.length n&&Nat.ble (off+n) ac.length&&aV u.cells) with
   |false=>rw[hcnd] at hf;cases hf
   |true=>
    rw[hcnd,cond_true] at hf
    simp only[Bool.and_eq_true,bJ,bI] at hcnd
    obtain⟨⟨c1,c2⟩,c3⟩:=hcnd
    have hu:=dF hR h2 he
    have hul:=hu.cells.length
    have hcl:=hv.length
    simp only[Array.length_toList] at hul hcl
    have hfit:off+(a.eval x).cells.size≤cc.size:=by omega
    have hlay:=Eb off (a.eval x).cells cc hfit
    have hv':dH φ (lay ac off u.cells) (lay cc.toList off (a.eval x).cells.toList):=by
     unfold lay
     rw[hu.cells.length]
     exact((hv.take off).append hu.cells).append (hv.drop _)
    rw[←hlay] at hv'
    obtain⟨cc',e1,e2⟩:=vY hR place hnil hcons parts r' _ _ r h3 hv' hf
    refine⟨cc', ?_,e2⟩
    simp only[List.map_cons,Instr.fill,h1]
    rw[if_neg (by simp;omega)]
    exact e1
theorem FH {places:List (Nat×Nat)}:∀i x l r,partsOf places ((i,x) :: l)=some r→∃off n y r',places[i]? =some (off,n)∧bX x=some y∧partsOf places l=some r'∧r=(off,n,y) :: r':=by
 intro i x l r hr
 simp only[partsOf] at hr
 split at hr
 ·rename_i off n h1
  split at hr
  ·rename_i y h2
   split at hr
   ·rename_i r' h3
    cases hr
    exact⟨off,n,y,r',h1,h2,h3,rfl⟩
   ·cases hr
  ·cases hr
 ·cases hr
theorem Dq {esz:Nat}:∀i x l r,oO esz ((i,x) :: l)=some r→∃off n y r',some (i*esz,esz)=some (off,n)∧bX x=some y∧oO esz l=some r'∧r=(off,n,y) :: r':=by
 intro i x l r hr
 simp only[oO] at hr
 split at hr
 ·rename_i y h2
  split at hr
  ·rename_i r' h3
   cases hr
   exact⟨_,_,y,r',rfl,h2,h3,rfl⟩
  ·cases hr
 ·cases hr
theorem jC {zv:Value} {z:AV} (hz:mQ zv=some z):dH φ z.cells zv.cells.toList:=(nC hz).cells
theorem Jb {t:TypeId} {parts:Array (Nat×Operand)} {op:rU} (hR:kI φ N ρ a.tmps) (H:dI P B φ h w) (hc:kF P (.build t parts)=some op) (he:dz ρ h op=some (v,h')):
 jU P B φ h' v w ((Instr.build t (parts.map fun(i,x)=>(i,a.eval x))).run P w):=by
 simp only[kF,Option.bind_eq_bind,Option.pure_def] at hc
 cases hz:je P t with
 |none=>simp[hz] at hc
 |some z=>
  rw[hz] at hc
  simp only[Option.bind_some] at hc
  obtain⟨zv,it,z1,z2,z3,z4⟩:=jI hz w
  have hmap:(parts.map fun(i,x)=>(i,a.eval x)).toList=parts.toList.map fun p=>(p.1,a.eval p.2):=by simp
  split at hc
  ·rename_i fs hu
   cases hp:fs.toList.mapM (fun f=>(P.info? f.type).map fun i=>(f.offset,i.size)) with
   |none=>simp[hp] at hc
   |some places=>
    rw[hp] at hc
    simp only[Option.bind_some] at hc
    cases hps:partsOf places parts.toList with
    |none=>simp[hps] at hc
    |some ap=>
     rw[hps] at hc;simp at hc;subst hc
     simp only[dz] at he
     cases hf:rT ρ z.cells ap with
     |none=>simp[hf] at he
     |some r=>
      rw[hf] at he;simp at he
      obtain⟨rfl,rfl⟩:=he
      obtain⟨cc',e1,e2⟩:=vY hR (fun i=>places[i]?) (comp:=partsOf places) rfl FH parts.toList ap z.cells zv.cells r hps (jC z2) hf
      refine jU.pure H (cv:= .agg cc') (run_build w t _ cc' ?_) (.agg e2)
      rw[hmap]
      unfold Program.built
      rw[z3,hu]
      simp only[z4,hp]
      simpa using e1
  ·rename_i n e hu
   cases hs:sizeT P e with
   |none=>simp[hs] at hc
   |some esz=>
    rw[hs] at hc
    simp only[Option.bind_some] at hc
    cases hps:oO esz parts.toList with
    |none=>simp[hps] at hc
    |some ap=>
     rw[hps] at hc;simp at hc;subst hc
     simp only[dz] at he
     cases hf:rT ρ z.cells ap with
     |none=>simp[hf] at he
     |some r=>
      rw[hf] at he;simp at he
      obtain⟨rfl,rfl⟩:=he
      obtain⟨cc',e1,e2⟩:=vY hR (fun i=>some (i*esz,esz)) (comp:=oO esz) rfl Dq parts.toList ap z.cells zv.cells r hps (jC z2) hf
      refine jU.pure H (cv:= .agg cc') (run_build w t _ cc' ?_) (.agg e2)
      rw[hmap]
      unfold Program.built
      unfold sizeT at hs
      cases hi:P.info? e with
      |none=>simp[hi] at hs
      |some ie=>
       simp[hi] at hs;subst hs
       rw[z3,hu]
       simp only[z4,hi]
       exact e1
  ·cases hc
theorem ze {sz:Nat}:∀(ap:List (Nat×gJ)) (es r:List (List AV)),(∀e∈es,e.length=sz∧aV e=true)→jR ρ sz es ap=some r→(∀e∈r,e.length=sz∧aV e=true)∧r.length=es.length
 | [],es,r,hes,hf=>by simp[jR] at hf;subst hf;exact⟨hes,rfl⟩
 |(i,x) :: ap,es,r,hes,hf=>by
  simp only[jR] at hf
  split at hf
  ·rename_i u he
   cases hcnd:(Nat.beq u.cells.length sz&&Nat.blt i es.length&&aV u.cells) with
   |false=>rw[hcnd] at hf;cases hf
   |true=>
    rw[hcnd,cond_true,oF] at hf
    simp only[Bool.and_eq_true,bJ] at hcnd
    obtain⟨h1,h2⟩:=ze ap _ r (by
     intro e hx
     rcases List.mem_or_eq_of_mem_set hx with hx |rfl
     ·exact hes e hx
     ·exact⟨hcnd.1.1,hcnd.2⟩) hf
    exact⟨h1,by simpa using h2⟩
  ·cases hf
theorem vo (hR:kI φ N ρ a.tmps) {sz:Nat}:∀(parts:List (Nat×Operand)) (ap:List (Nat×gJ)) (es:List (List AV)) (cc:Array Value) (r:List (List AV)),
 uH parts=some ap→(∀e∈es,e.length=sz)→dH φ es.flatten cc.toList→jR ρ sz es ap=some r→
  ∃cc',Instr.fill (fun i=>some (i*sz,sz)) cc (parts.map fun p=>(p.1,a.eval p.2))=some cc'∧dH φ r.flatten cc'.toList
 | [],ap,es,cc,r,hc,hes,hv,hf=>by
   simp[uH] at hc;subst hc
   simp[jR] at hf;subst hf
   exact⟨cc,by simp[Instr.fill],hv⟩
 |(i,x) :: parts,ap,es,cc,r,hc,hes,hv,hf=>by
  simp only[uH] at hc
  split at hc
  ·rename_i y h2
   split at hc
   ·rename_i r' h3
    cases hc
    simp only[jR] at hf
    split at hf
    ·rename_i u he
     cases hcnd:(Nat.beq u.cells.length sz&&Nat.blt i es.length&&aV u.cells) with
     |false=>rw[hcnd] at hf;cases hf
     |true=>
      rw[hcnd,cond_true,oF] at hf
      simp only[Bool.and_eq_true,bJ,dL] at hcnd
      obtain⟨⟨c1,c2⟩,c3⟩:=hcnd
      have hu:=dF hR h2 he
      have hul:=hu.cells.length
      have hcl:=hv.length
      have hfl:=jP hes
      simp only[Array.length_toList] at hul hcl
      have hmul:(i+1)*sz≤es.length*sz:=Nat.mul_le_mul_right _ c2
      rw[Nat.add_mul] at hmul
      have hfit:i*sz+(a.eval x).cells.size≤cc.size:=by omega
      have hlay:=Eb (i*sz) (a.eval x).cells cc hfit
      have hset:(es.set i u.cells).flatten=lay es.flatten (i*sz) u.cells:=by
       rw[BL _ _ _ c2,FJ hes (by intro e he;simp at he;subst he;exact c1)]
       simp
      have hv':dH φ (es.set i u.cells).flatten (lay cc.toList (i*sz) (a.eval x).cells.toList):=by
       rw[hset]
       unfold lay
       rw[hu.cells.length]
       exact((hv.take _).append hu.cells).append (hv.drop _)
      rw[←hlay] at hv'
      obtain⟨cc',e1,e2⟩:=vo hR parts r' _ _ r h3 (by
       intro e hx
       rcases List.mem_or_eq_of_mem_set hx with hx |rfl
       ·exact hes e hx
       ·exact c1) hv' hf
      refine⟨cc', ?_,e2⟩
      simp only[List.map_cons,Instr.fill]
      rw[if_neg (by simp;omega)]
      exact e1
    ·cases hf
   ·cases hc
  ·cases hc
theorem vG (z:List Value) (hz:0<z.length):∀(n:Nat),(List.range (n*z.length)).map (fun i=>z.toArray[i%z.length]!)=(List.replicate n z).flatten:=by
 intro n
 apply List.ext_getElem?
 intro j
 by_cases hj:j<n*z.length
 ·have hm:j%z.length<z.length:=Nat.mod_lt _ hz
  have hd:j/z.length<n:=by
   rw[Nat.div_lt_iff_lt_mul hz];exact hj
  have h1:(List.replicate n z)[j/z.length]? =some z:=by simp[List.getElem?_replicate,hd]
  have h2:z[j%z.length]? =some z[j%z.length]:=List.getElem?_eq_getElem hm
  have:=Rf (sz:=z.length) (es:=List.replicate n z) (fun e he=>by rw[List.eq_of_mem_replicate he]) h1 h2
  rw[show j/z.length*z.length+j%z.length=j by rw[Nat.mul_comm];exact Nat.div_add_mod j z.length] at this
  rw[this]
  simp[hj,hm]
 ·have h1:(List.replicate n z).flatten.length=n*z.length:=by
   rw[jP (sz:=z.length) (fun e he=>by rw[List.eq_of_mem_replicate he])];simp
  rw[List.getElem?_eq_none (by simp;omega),List.getElem?_eq_none (by omega)]
theorem Cm {zv:Value} (hz:0<zv.cells.size) (n:Nat):((Array.range (n*zv.cells.size)).map (zv.cells[· % zv.cells.size]!))=(List.replicate n zv.cells.toList).flatten.toArray:=by
 apply Array.ext'
 have:=vG zv.cells.toList (by simpa using hz) n
 simp only[Array.length_toList,Array.toArray_toList] at this
 simp only[Array.toList_map,Array.toList_range]
 exact this
theorem FP {t:TypeId} {n:Nat} {parts:Array (Nat×Operand)} {op:rU} (hR:kI φ N ρ a.tmps) (H:dI P B φ h w) (hc:kF P (.buildSlice t n parts)=some op) (he:dz ρ h op=some (v,h')):
 jU P B φ h' v w ((Instr.buildSlice t n (parts.map fun(i,x)=>(i,a.eval x))).run P w):=by
 simp only[kF,Option.bind_eq_bind,Option.pure_def] at hc
 split at hc
 ·rename_i e hu
  cases hs:sizeT P e with
  |none=>simp[hs] at hc
  |some sz=>
   cases hz:je P e with
   |none=>simp[hs,hz] at hc
   |some z=>
    cases hps:uH parts.toList with
    |none=>simp[hs,hz,hps] at hc
    |some ap=>
     simp[hs,hz,hps] at hc;subst hc
     simp only[dz] at he
     cases hcnd:(Nat.beq z.cells.length sz&&Nat.blt 0 sz&&Nat.ble (n*sz) 16777216&&aV z.cells) with
     |false=>rw[hcnd] at he;cases he
     |true=>
      rw[hcnd,cond_true] at he
      simp only[Bool.and_eq_true,bJ,dL,bI] at hcnd
      obtain⟨⟨⟨c1,c2⟩,c3⟩,c4⟩:=hcnd
      rw[uT] at he
      cases hf:jR ρ sz (List.replicate n z.cells) ap with
      |none=>simp[hf] at he
      |some es=>
       rw[hf] at he;simp at he
       obtain⟨rfl,rfl⟩:=he
       obtain⟨zv,it,z1,z2,z3,z4⟩:=jI hz w
       have hzc:=jC (φ:=φ) z2
       have hzl:zv.cells.size=sz:=by have:=hzc.length;simp only[Array.length_toList] at this;omega
       have hrep:∀e∈List.replicate n z.cells,e.length=sz:=fun e he=>by rw[List.eq_of_mem_replicate he];exact c1
       obtain⟨cc',e1,e2⟩:=vo hR parts.toList ap _ ((List.replicate n zv.cells.toList).flatten.toArray) es hps hrep (by simpa using hzc.replicate n) hf
       obtain⟨l0,l2⟩:=ze ap _ es (fun e he=>⟨hrep e he,by rw[List.eq_of_mem_replicate he];exact c4⟩) hf
       have l1:∀e∈es,e.length=sz:=fun e he=>(l0 e he).1
       simp only[List.length_replicate] at l2
       obtain⟨φ',h1,h2,h3,h4⟩:=UF H c2 l1 (fun e he=>(l0 e he).2) (vals:=cc'.toList) (spare:=[]) e2 (tot:=n) (by
        have:=e2.length;rw[jP l1] at this;simp only[List.length_nil,Nat.add_zero];rw[←this,l2]) e
       refine⟨.slice (some ⟨w.heap.size,0,none⟩) n n,_,φ', ?_, ?_,h3,h1,h4⟩
       ·have hnz:¬(n*sz>2 ^ 24):=by omega
        have hmap:(parts.map fun(i,x)=>(i,a.eval x)).toList=parts.toList.map fun p=>(p.1,a.eval p.2):=by simp
        unfold Instr.buildSlice
        simp only[Sem.run_bind,run_underlying hu,Result.andThen_ok,fK hs,hnz,if_false,hmap]
        by_cases hn:n*sz=0
        ·have hn0:n=0:=by
          rcases Nat.mul_eq_zero.1 hn with h0 |h0
          ·exact h0
          ·omega
         subst hn0
         simp only[List.replicate_zero,List.flatten_nil] at e1
         have e0:∀f:Nat→Value,Array.map f (Array.range 0)= #[]:=fun f=>by simp
         simp[e0,e1,Go.newRow]
        ·rw[if_neg hn]
         have hzz:((Array.range (n*sz)).map (zv.cells[· % zv.cells.size]!))=(List.replicate n zv.cells.toList).flatten.toArray:=by
          rw[←hzl];exact Cm (by omega) n
         simp only[Sem.run_bind,z1,Result.andThen_ok,Sem.run_pure,hzz]
         rw[e1]
         simp[Go.newRow]
       ·have:=dn.slc (φ:=φ') (s:=0) (len:=n) (cap:=n) (c:=n) (off:=0) (ex:=true) h2 (Nat.le_refl _) (by simp only;omega) (by simp only;omega) (Nat.le_refl _) (fun _=>rfl) (fun _=>by simp)
        exact this
 ·cases hc
theorem jA {x:AV} {cx:Value} {n:Nat} (hx:dn φ x cx) (he:asNat x=some n):∃k,cx= .int k n:=by
 unfold asNat at he
 split at he
 ·cases he;cases hx;exact⟨_,rfl⟩
 ·cases he
theorem Mc {off f:Nat} {x v:AV} {cx:Value} {t:TypeId} {fs:Array Field} {fl:Field} {m:Nat} (hu:P.underlying t=some (.struct fs)) (hf:fs[f]? =some fl) (hoff:fl.offset=off) (hm:sizeT P fl.type=some (m+1))
 (hx:dn φ x cx) (he:aH off x=some v):∃cv,(Instr.fieldAt t cx f).run P w= .ok cv w∧dn φ v cv:=by
 unfold aH at he
 split at he
 ·rename_i id g i o
  cases he
  cases hx with
  |ptr hL hi=>
   rename_i L
   refine⟨.pointer (some ⟨L.blk,L.base+i*L.sz+(o+off),none⟩), ?_, .ptr hL hi⟩
   simp only[Instr.fieldAt,Sem.run_bind,run_underlying hu,Result.andThen_ok,hf,Instr.sureAddr,Sem.run_pure,fieldPlace,fK hm]
   simp[Addr.add_lit,hoff,Nat.add_assoc]
 ·cases he
theorem EH {id sz:Nat} (H:dI P B φ h w) (hs:jo h id sz=true) {g:Nat} {L:Loc} (hL:φ id g=some L):L.sz=sz:=by
 unfold jo at hs
 cases hr:h.row id with
 |none=>rw[hr] at hs;cases hs
 |some r=>
  rw[hr] at hs
  have hrow:iC φ id r w:=H.obj id _ (aj.row_some.1 hr)
  rw[(hrow.gen g L hL).2]
  exact bJ.1 hs
theorem Kk {x i v:AV} {cx ci:Value} {t e:TypeId} {sz:Nat} (hu:P.underlying t=some (.slice e)) (hs:sizeT P e=some sz) (H:dI P B φ h w) (hx:dn φ x cx) (hi:dn φ i ci) (he:bS h sz x i=some v):
 ∃cv,(Instr.indexAt t cx ci).run P w= .ok cv w∧dn φ v cv:=by
 unfold bS at he
 split at he
 ·rename_i id g s len cap ex
  cases hn:asNat i with
  |none=>simp[hn] at he
  |some n=>
   rw[hn] at he
   simp only at he
   cases hc:(Nat.blt n len&&jo h id sz) with
   |false=>rw[hc] at he;cases he
   |true=>
    rw[hc,cond_true] at he;cases he
    simp only[Bool.and_eq_true,dL] at hc
    obtain⟨k,rfl⟩:=jA hi hn
    cases hx with
    |slc hL h1 h2 h3 h4 h5 h6=>
     rename_i c off L
     have hsz:=EH H hc.2 hL
     have hoff:=h6 (by omega)
     refine⟨.pointer (some ⟨L.blk,L.base+(s+n)*L.sz+0,none⟩), ?_, .ptr hL (by omega)⟩
     have hin:(0:Int)≤(n:Int)∧(n:Int)<(len:Int):=⟨by omega,by omega⟩
     simp only[Instr.indexAt,asIntOf,Sem.run_bind,Sem.run_pure,run_underlying hu,Result.andThen_ok,hin,and_self,if_true,fK hs,Int.toNat_natCast,Addr.add_lit,hoff, ←hsz,Nat.add_zero,Nat.add_mul,Nat.add_assoc]
 ·cases he
theorem II {x i v:AV} {cx ci:Value} {t e:TypeId} {n m:Nat} (hu:P.underlying t=some (.array n e)) (hs:sizeT P e=some m) (hx:dn φ x cx) (hi:dn φ i ci) (he:Fx n m x i=some v):
 ∃cv,(Instr.indexAt t cx ci).run P w= .ok cv w∧dn φ v cv:=by
 unfold Fx at he
 split at he
 ·rename_i id g j o
  cases hn:asNat i with
  |none=>simp[hn] at he
  |some k=>
   rw[hn] at he
   simp only at he
   cases hc:Nat.blt k n with
   |false=>rw[hc] at he;cases he
   |true=>
    rw[hc,cond_true] at he;cases he
    obtain⟨kd,rfl⟩:=jA hi hn
    cases hx with
    |ptr hL hlt=>
     rename_i L
     have hk:=dL.1 hc
     have hin:(0:Int)≤(k:Int)∧(k:Int)<(n:Int):=⟨by omega,by omega⟩
     refine⟨.pointer (some ⟨L.blk,L.base+j*L.sz+(o+k*m),none⟩), ?_, .ptr hL hlt⟩
     simp only[Instr.indexAt,asIntOf,Sem.run_bind,Sem.run_pure,run_underlying hu,Result.andThen_ok,Instr.sureAddr,hin,and_self,if_true,fK hs,Int.toNat_natCast,Addr.add_lit,Nat.add_assoc]
 ·cases he
theorem Mj {x i v:AV} {cx ci:Value} {t:TypeId} (hu:P.underlying t=some .string) (hx:dn φ x cx) (hi:dn φ i ci) (he:C9 x i=some v):
 ∃cv,(Instr.index t cx ci).run P w= .ok cv w∧dn φ v cv:=by
 unfold C9 at he
 split at he
 ·rename_i l
  cases hn:asNat i with
  |none=>simp[hn] at he
  |some k=>
   rw[hn] at he
   simp only[lJ] at he
   cases hb:l[k]? with
   |none=>simp[hb] at he
   |some b=>
    rw[hb] at he;cases he
    obtain⟨kd,rfl⟩:=jA hi hn
    cases hx with
    |str hs=>
     rename_i s
     rw[←hs,List.getElem?_map] at hb
     cases hu8:s.data.toList[k]? with
     |none=>simp[hu8] at hb
     |some u=>
      rw[hu8] at hb;simp at hb;subst hb
      have hget:s[k]? =some u:=by
       have hlt:k<s.size:=by
        have:=(List.getElem?_eq_some_iff.1 hu8).1
        simpa using this
       rw[getElem?_pos s k hlt]
       have:s.data.toList[k]? =some s[k]:=by
        rw[List.getElem?_eq_getElem (by simpa using hlt)]
        rfl
       rw[hu8] at this
       exact this.symm▸rfl
      refine⟨.int .u8 u.toNat, ?_, .int _ _⟩
      have h0:(0:Int)≤(k:Int):=by omega
      simp only[Instr.index,asIntOf,Sem.run_bind,Sem.run_pure,run_underlying hu,Result.andThen_ok,h0,if_true,Int.toNat_natCast,hget]
 ·cases he
theorem MP {ag:Bool} {n m:Nat} {x i v:AV} {cx ci:Value} {t e:TypeId} (hu:P.underlying t=some (.array n e)) (hag:kr P e=some ag) (hs:sizeT P e=some m) (hx:dn φ x cx) (hi:dn φ i ci) (he:NT ag n m x i=some v):
 ∃cv,(Instr.index t cx ci).run P w= .ok cv w∧dn φ v cv:=by
 unfold NT at he
 split at he
 ·rename_i l
  cases hn:asNat i with
  |none=>simp[hn] at he
  |some k=>
   rw[hn] at he
   simp only at he
   cases hc:Nat.blt k n with
   |false=>rw[hc] at he;cases he
   |true=>
    rw[hc,cond_true] at he
    obtain⟨kd,rfl⟩:=jA hi hn
    cases hx with
    |agg hl=>
     rename_i cs
     have hk:=dL.1 hc
     have hin:(0:Int)≤(k:Int)∧(k:Int)<(n:Int):=⟨by omega,by omega⟩
     obtain⟨cv,h1,h2⟩:=BZ (w:=w) hl he hag hs
     refine⟨cv, ?_,h2⟩
     simp only[Instr.index,asIntOf,Sem.run_bind,Sem.run_pure,run_underlying hu,Result.andThen_ok,hin,and_self,if_true,fK hs,Int.toNat_natCast,h1]
 ·cases he
theorem OT {ag:Bool} {off n f:Nat} {x v:AV} {cx:Value} {t:TypeId} {fs:Array Field} {fl:Field} (hu:P.underlying t=some (.struct fs)) (hf:fs[f]? =some fl) (hoff:fl.offset=off) (hag:kr P fl.type=some ag)
 (hn:sizeT P fl.type=some n) (hx:dn φ x cx) (he:Qe ag off n x=some v):∃cv,(Instr.field t cx f).run P w= .ok cv w∧dn φ v cv:=by
 unfold Qe at he
 split at he
 ·cases hx with
  |agg hl=>
   obtain⟨cv,h1,h2⟩:=BZ (w:=w) hl he hag hn
   refine⟨cv, ?_,h2⟩
   simp only[Instr.field,Sem.run_bind,run_underlying hu,Result.andThen_ok,hf,asAgg,Sem.run_pure,hoff,h1]
 ·cases he
theorem PG {i:Nat} {x v:AV} {cx:Value} (hx:dn φ x cx) (he:gX i x=some v):∃cv,(Instr.extract cx i).run P w= .ok cv w∧dn φ v cv:=by
 unfold gX at he
 split at he
 ·cases hx with
  |tup hl=>
   rw[lJ] at he
   obtain⟨cv,h1,h2⟩:=hl.get he
   have h3:(⟨‹List Value›⟩:Array Value)[i]? =some cv:=by simpa using h1
   exact⟨cv,by simp[Instr.extract,h3],h2⟩
 ·cases he
theorem IJ {x v:AV} {cx:Value} (hx:dn φ x cx) (he:bK x=some v):v=x∧cx≠ .pointer none∧cx≠ .nilFunc∧cx≠ .nilIface∧(∀m a b,cx≠ .func (.method m) a b):=by
 unfold bK at he
 split at he
 ·cases he
 ·cases he
 ·cases he
 ·rename_i h1 h2 h3
  cases he
  refine⟨rfl, ?_, ?_, ?_, ?_⟩
  ·rintro rfl;cases hx;exact h1 rfl
  ·rintro rfl;cases hx;exact h2 rfl
  ·rintro rfl;cases hx;exact h3 rfl
  ·rintro m a b rfl;cases hx
theorem JM {k:IntKind} {x v:AV} {cx:Value} {s d:TypeId} {ks:IntKind} (hs:P.underlying s=some (.int ks)) (hd:P.underlying d=some (.int k)) (hx:dn φ x cx) (he:lW k x=some v):
 ∃cv,(convert s d cx).run P w= .ok cv w∧dn φ v cv:=by
 unfold lW at he
 split at he
 ·rename_i k0 n
  cases he
  cases hx
  exact⟨.int k (k.wrap n),by simp[convert,Sem.run_bind,run_underlying hs,run_underlying hd,Conv.intToInt],by rw[mM];exact .int _ _⟩
 ·cases he
theorem OL {x v:AV} {cx:Value} (hx:dn φ x cx) (he:fT x=some v):∃cv,(Op.unary .not cx).run P w= .ok cv w∧dn φ v cv:=by
 unfold fT at he
 split at he
 ·cases he;cases hx;exact⟨.bool _,by simp[Op.unary], .bool _⟩
 ·cases he
theorem OP {x v:AV} {cx:Value} (hx:dn φ x cx) (he:U8 x=some v):∃cv,(Op.unary .neg cx).run P w= .ok cv w∧dn φ v cv:=by
 unfold U8 at he
 split at he
 ·cases he;cases hx;exact⟨_,aaf,by rw[mM];exact .int _ _⟩
 ·cases he
theorem PX {x v:AV} {cx:Value} {t ty:TypeId} {e:TypeId} (hu:P.underlying t=some (.slice e)) (hx:dn φ x cx) (he:JK x=some v):∃cv,(Builtin.cap_ #[t] ty #[cx]).run P w= .ok cv w∧dn φ v cv:=by
 unfold JK at he
 split at he
 ·cases he;cases hx
  exact⟨.int .i64 0,by simp[Builtin.cap_,Sem.run_bind,run_underlying hu,goInt], .int _ _⟩
 ·cases he;cases hx
  exact⟨.int .i64 0,by simp[Builtin.cap_,Sem.run_bind,run_underlying hu,goInt], .int _ _⟩
 ·cases he
  cases hx with
  |slc hL h1 h2 h3 h4 h5 h6=>
   have:=h5 rfl;subst this
   exact⟨.int .i64 _,by simp[Builtin.cap_,Sem.run_bind,run_underlying hu,goInt], .int _ _⟩
 ·cases he
theorem zn {x:Option Operand} {y:Option gJ} (hx:mO x=some y):(x=none∧y=none)∨∃a b,x=some a∧y=some b∧bX a=some b:=by
 cases x with
 |none=>simp[mO] at hx;subst hx;exact .inl ⟨rfl,rfl⟩
 |some a=>
  simp only[mO] at hx
  cases ha:bX a with
  |none=>simp[ha] at hx
  |some b=>simp[ha] at hx;subst hx;exact .inr ⟨a,b,rfl,rfl,ha⟩
theorem gN (hR:kI φ N ρ a.tmps) {x:Option Operand} {y:Option gJ} (hx:mO x=some y) {d n:Nat} (he:kT ρ d y=some n):
 (x.map a.eval=none∧y=none∧n=d)∨∃k,x.map a.eval=some (.int k n)∧y.isSome=true:=by
 rcases zn hx with⟨rfl,rfl⟩|⟨p,q,rfl,rfl,hpq⟩
 ·simp[kT] at he;exact .inl ⟨rfl,rfl,he.symm⟩
 ·simp only[kT] at he
  cases hv:ev ρ q with
  |none=>simp[hv] at he
  |some v=>
   rw[hv] at he
   obtain⟨k,hk⟩:=jA (dF hR hpq hv) he
   exact .inr ⟨k,by simp[hk],rfl⟩
theorem iO (k:IntKind) (n y:Nat) (code:BoundsCode) (hle:n≤y):(Instr.sliceBound (.int k n) y code).run P w= .ok n w:=by
 have:(0:Int)≤(n:Int)∧(n:Int)≤(y:Int):=⟨by omega,by omega⟩
 simp[Instr.sliceBound,asIntOf,this]
theorem fP (k:IntKind) (code:BoundsCode):(Instr.sliceBound (.int k 0) 0 code).run P w= .ok 0 w:=by
 simp[Instr.sliceBound,asIntOf]
theorem GN {t:TypeId} (hR:kI φ N ρ a.tmps) (hu:P.underlying t=some .string) {x v:AV} {cx:Value} (hx:dn φ x cx) {lo hi:Option Operand} {lo' hi':Option gJ} (hlo:mO lo=some lo') (hhi:mO hi=some hi')
 (he:Ay ρ x lo' hi'=some v):∃cv,(Instr.sliceAt t cx (lo.map a.eval) (hi.map a.eval) none).run P w= .ok cv w∧dn φ v cv:=by
 unfold Ay at he
 split at he
 ·rename_i l
  cases hx with
  |str hs=>
   rename_i s
   have hsz:=tT hs
   split at he
   ·rename_i hn ln e1 e2
    cases hc:(Nat.ble ln hn&&Nat.ble hn l.length) with
    |false=>rw[hc] at he;cases he
    |true=>
     rw[hc,cond_true] at he;cases he
     simp only[Bool.and_eq_true,bI] at hc
     refine⟨.string (s.extract ln hn), ?_, .str ?_⟩
     ·have hb:(Instr.sliceBounds false s.size s.size (lo.map a.eval) (hi.map a.eval) none).run P w= .ok (ln,hn,s.size) w:=by
       unfold Instr.sliceBounds
       rcases gN hR hhi e1 with⟨a1,_,a2⟩|⟨k,a1,_⟩<;>rcases gN hR hlo e2 with⟨b1,_,b2⟩|⟨k',b1,_⟩
       ·rw[a1,b1];simp[a2,b2,hsz]
       ·rw[a1,b1];simp[a2,hsz,iO (P:=P) (w:=w) k' ln l.length .sliceB (by omega)]
       ·rw[a1,b1];simp[b2,hsz,iO (P:=P) (w:=w) k hn l.length .sliceAlen (by omega)]
       ·rw[a1,b1];simp[hsz,iO (P:=P) (w:=w) k hn l.length .sliceAlen (by omega),iO (P:=P) (w:=w) k' ln hn .sliceB (by omega)]
      simp only[Instr.sliceAt,Instr.slice,Sem.run_bind,run_underlying hu,Result.andThen_ok,Option.isSome_none,Bool.false_eq_true,if_false,hb,Sem.run_pure]
     ·rw[←hs]
      simp[List.map_take,List.map_drop,ByteArray.data_extract,List.extract_eq_take_drop,List.drop_take]
   ·cases he
 ·cases he
theorem G5 {t e:TypeId} {sz:Nat} (hR:kI φ N ρ a.tmps) (H:dI P B φ h w) (hu:P.underlying t=some (.slice e)) (hsz:sizeT P e=some sz) {x v:AV} {cx:Value} (hx:dn φ x cx)
 {lo hi mx:Option Operand} {lo' hi' mx':Option gJ} (hlo:mO lo=some lo') (hhi:mO hi=some hi') (hmx:mO mx=some mx')
 (he:tN ρ h sz x lo' hi' mx'=some v):∃cv,(Instr.sliceAt t cx (lo.map a.eval) (hi.map a.eval) (mx.map a.eval)).run P w= .ok cv w∧dn φ v cv:=by
 have fin:∀(A:Option Addr) (len cap l hh m:Nat),(Instr.sliceBounds true len cap (lo.map a.eval) (hi.map a.eval) (mx.map a.eval)).run P w= .ok (l,hh,m) w→
  (Instr.sliceAt t (.slice A len cap) (lo.map a.eval) (hi.map a.eval) (mx.map a.eval)).run P w= .ok (.slice (if m=l then A else A.map (·.add (l*sz))) (hh-l) (m-l)) w:=by
  intro A len cap l hh m hb
  simp only[Instr.sliceAt,Instr.slice,Sem.run_bind,run_underlying hu,Result.andThen_ok,hb,fK hsz,Sem.run_pure]
 unfold tN at he
 split at he
 ·rename_i id g s len cap ex
  cases hrs:jo h id sz with
  |false=>rw[hrs] at he;cases he
  |true=>
   rw[hrs,cond_true] at he
   cases hx with
   |slc hL h1 h2 h3 h4 h5 h6=>
    rename_i c off L
    have hLs:=EH H hrs hL
    split at he
    ·rename_i mo
     split at he
     ·rename_i mn hn ln e0 e1 e2
      cases hc:(Nat.ble ln hn&&Nat.ble hn mn&&Nat.ble mn cap&&hi'.isSome) with
      |false=>rw[hc] at he;cases he
      |true=>
       rw[hc,cond_true] at he;cases he
       simp only[Bool.and_eq_true,bI] at hc
       obtain⟨⟨⟨c1,c2⟩,c3⟩,c4⟩:=hc
       have hb:(Instr.sliceBounds true len c (lo.map a.eval) (hi.map a.eval) (mx.map a.eval)).run P w= .ok (ln,hn,mn) w:=by
        unfold Instr.sliceBounds
        rcases gN hR hmx e0 with⟨_,a2,_⟩|⟨km,m1,_⟩
        ·cases a2
        rcases gN hR hhi e1 with⟨_,a2,_⟩|⟨k,a1,_⟩
        ·rw[a2] at c4;cases c4
        rcases gN hR hlo e2 with⟨b1,_,b2⟩|⟨k',b1,_⟩
        ·rw[m1,a1,b1];simp[b2,iO (P:=P) (w:=w) km mn c .slice3Acap (by omega),iO (P:=P) (w:=w) k hn mn .slice3B (by omega)]
        ·rw[m1,a1,b1];simp[iO (P:=P) (w:=w) km mn c .slice3Acap (by omega),iO (P:=P) (w:=w) k hn mn .slice3B (by omega),iO (P:=P) (w:=w) k' ln hn .slice3C (by omega)]
       refine⟨_,fin _ _ _ _ _ _ hb, ?_⟩
       by_cases hml:mn=ln
       ·rw[if_pos hml]
        exact .slc hL (by omega) (by omega) (by omega) (Nat.le_refl _) (fun _=>rfl) (fun hpos=>by omega)
       ·rw[if_neg hml]
        simp only[Option.map_some,Addr.add_lit]
        exact .slc hL (by omega) (by omega) (by omega) (Nat.le_refl _) (fun _=>rfl) (fun hpos=>by rw[h6 (by omega),hLs,Nat.add_mul,Nat.add_assoc])
     ·cases he
    ·split at he
     ·rename_i hn ln e1 e2
      cases hc:(Nat.ble ln hn&&Nat.ble hn cap) with
      |false=>rw[hc] at he;cases he
      |true=>
       rw[hc,cond_true] at he;cases he
       simp only[Bool.and_eq_true,bI] at hc
       obtain⟨c1,c2⟩:=hc
       have hmn:mx.map a.eval=none:=by
        rcases zn hmx with⟨rfl,_⟩|⟨_,_,_,e,_⟩
        ·rfl
        ·cases e
       have hb:(Instr.sliceBounds true len c (lo.map a.eval) (hi.map a.eval) (mx.map a.eval)).run P w= .ok (ln,hn,c) w:=by
        unfold Instr.sliceBounds
        rw[hmn]
        rcases gN hR hhi e1 with⟨a1,_,a2⟩|⟨k,a1,_⟩<;>rcases gN hR hlo e2 with⟨b1,_,b2⟩|⟨k',b1,_⟩
        ·rw[a1,b1];simp[a2,b2]
        ·rw[a1,b1];simp[a2,iO (P:=P) (w:=w) k' ln len .sliceB (by omega)]
        ·rw[a1,b1];simp[b2,iO (P:=P) (w:=w) k hn c .sliceAcap (by omega)]
        ·rw[a1,b1];simp[iO (P:=P) (w:=w) k hn c .sliceAcap (by omega),iO (P:=P) (w:=w) k' ln hn .sliceB (by omega)]
       refine⟨_,fin _ _ _ _ _ _ hb, ?_⟩
       by_cases hml:c=ln
       ·rw[if_pos hml]
        exact .slc hL (by omega) (by omega) (by omega) (by omega) (fun hx=>by have:=h5 hx;omega) (fun hpos=>by omega)
       ·rw[if_neg hml]
        simp only[Option.map_some,Addr.add_lit]
        exact .slc hL (by omega) (by omega) (by omega) (by omega) (fun hx=>by have:=h5 hx;omega) (fun hpos=>by rw[h6 (by omega),hLs,Nat.add_mul,Nat.add_assoc])
     ·cases he
 ·cases hx
  split at he
  ·rename_i e0 e1 e2
   cases hc:(mx'.isNone||hi'.isSome) with
   |false=>rw[hc] at he;cases he
   |true=>
    rw[hc,cond_true] at he;cases he
    have hb:(Instr.sliceBounds true 0 0 (lo.map a.eval) (hi.map a.eval) (mx.map a.eval)).run P w= .ok (0,0,0) w:=by
     unfold Instr.sliceBounds
     rcases gN hR hmx e0 with⟨m1,_,_⟩|⟨km,m1,m2⟩<;>rcases gN hR hhi e1 with⟨a1,a2,_⟩|⟨k,a1,_⟩<;>rcases gN hR hlo e2 with⟨b1,_,b2⟩|⟨k',b1,_⟩
     ·rw[m1,a1,b1];simp
     ·rw[m1,a1,b1];simp[fP (P:=P) (w:=w) k' .sliceB]
     ·rw[m1,a1,b1];simp[fP (P:=P) (w:=w) k .sliceAcap]
     ·rw[m1,a1,b1];simp[fP (P:=P) (w:=w) k .sliceAcap,fP (P:=P) (w:=w) k' .sliceB]
     ·exfalso;rw[a2] at hc;cases mx'<;>simp at hc m2
     ·exfalso;rw[a2] at hc;cases mx'<;>simp at hc m2
     ·rw[m1,a1,b1];simp[fP (P:=P) (w:=w) km .slice3Acap,fP (P:=P) (w:=w) k .slice3B]
     ·rw[m1,a1,b1];simp[fP (P:=P) (w:=w) km .slice3Acap,fP (P:=P) (w:=w) k .slice3B,fP (P:=P) (w:=w) k' .slice3C]
    exact⟨_,fin _ _ _ _ _ _ hb,by simpa using dn.nilSlc⟩
  ·cases he
 ·cases hx
  rename_i A
  split at he
  ·rename_i e0 e1 e2
   cases hc:(mx'.isNone||hi'.isSome) with
   |false=>rw[hc] at he;cases he
   |true=>
    rw[hc,cond_true] at he;cases he
    have hb:(Instr.sliceBounds true 0 0 (lo.map a.eval) (hi.map a.eval) (mx.map a.eval)).run P w= .ok (0,0,0) w:=by
     unfold Instr.sliceBounds
     rcases gN hR hmx e0 with⟨m1,_,_⟩|⟨km,m1,m2⟩<;>rcases gN hR hhi e1 with⟨a1,a2,_⟩|⟨k,a1,_⟩<;>rcases gN hR hlo e2 with⟨b1,_,b2⟩|⟨k',b1,_⟩
     ·rw[m1,a1,b1];simp
     ·rw[m1,a1,b1];simp[fP (P:=P) (w:=w) k' .sliceB]
     ·rw[m1,a1,b1];simp[fP (P:=P) (w:=w) k .sliceAcap]
     ·rw[m1,a1,b1];simp[fP (P:=P) (w:=w) k .sliceAcap,fP (P:=P) (w:=w) k' .sliceB]
     ·exfalso;rw[a2] at hc;cases mx'<;>simp at hc m2
     ·exfalso;rw[a2] at hc;cases mx'<;>simp at hc m2
     ·rw[m1,a1,b1];simp[fP (P:=P) (w:=w) km .slice3Acap,fP (P:=P) (w:=w) k .slice3B]
     ·rw[m1,a1,b1];simp[fP (P:=P) (w:=w) km .slice3Acap,fP (P:=P) (w:=w) k .slice3B,fP (P:=P) (w:=w) k' .slice3C]
    exact⟨_,fin _ _ _ _ _ _ hb,by simpa using dn.emp⟩
  ·cases he
 ·cases he
theorem BM {mx:Bool}:∀{l:List AV} {x v:AV} {cx:Value} {m:List Value},dn φ x cx→dH φ l m→XP mx x l=some v→
 ∃cv,(m.foldlM (if mx then Builtin.max2 else Builtin.min2) cx).run P w= .ok cv w∧dn φ v cv
 | [],x,v,cx,m,hx,hl,he=>by
   cases hl
   cases x<;>simp[XP] at he
   subst he
   exact⟨cx,by simp,hx⟩
 |y :: l,x,v,cx,m,hx,hl,he=>by
  cases hl with
  |cons hy ht=>
   cases x<;>cases y<;>simp only[XP] at he<;>try(cases he;done)
   rename_i k a j b
   cases hk:Nat.beq (rC k) (rC j) with
   |false=>rw[hk] at he;cases he
   |true=>
    rw[hk,cond_true] at he
    have:=Cv (bJ.1 hk);subst this
    cases hx;cases hy
    obtain⟨cv,h1,h2⟩:=BM (.int _ _) ht he
    refine⟨cv, ?_,h2⟩
    cases mx with
    |true=>
     simp only[if_true,List.foldlM_cons,Sem.run_bind,Builtin.max2,Sem.run_pure,Result.andThen_ok] at h1 ⊢
     rw[←h1]
     congr 3
     rw[cond_true,uO]
     by_cases hab:a<b<;>simp[hab]
    |false=>
     simp only[Bool.false_eq_true,if_false,List.foldlM_cons,Sem.run_bind,Builtin.min2,Sem.run_pure,Result.andThen_ok] at h1 ⊢
     rw[←h1]
     congr 3
     rw[cond_false,uO]
     by_cases hab:b<a<;>simp[hab]
end
section
variable {P:Program} {B:Base} {φ:eO} {h h':aj} {w:World} {v:AV}
structure Zl (φ:eO) (w:World) (sz:Nat) (l:List (List AV)) (cx:Value):Prop where
 es:∀e∈l,e.length=sz
 leaf:∀e∈l,aV e=true
 len:∀(P:Program) (w':World),(Builtin.lenOf cx).run P w'= .ok l.length w'
 first:∀n,n≤l.length→∃nv:List Value,dH φ (l.take n).flatten nv∧∀(P:Program) (w':World),w'.heap=w.heap→(Builtin.firstCells sz n cx).run P w'= .ok nv.toArray w'
theorem Ez (φ:eO):∀(bs:List UInt8),dH φ ((bs.map UInt8.toNat).map fun b=>AV.int .u8 (.ofNat b)) (bs.map fun b=>Value.int .u8 b.toNat)
 | []=> .nil
 |b :: bs=> .cons (.int _ _) (Ez φ bs)
theorem mG {α:Type}:∀(l:List α),(l.map fun x=>[x]).flatten=l
 | []=>rfl
 |x :: l=>by simp only[List.map_cons,List.flatten_cons,mG l];rfl
theorem rA {sz:Nat} {x:AV} {cx:Value} {l:List (List AV)} (H:dI P B φ h w) (hx:dn φ x cx) (hs:source h sz x=some l):Zl φ w sz l cx:=by
 unfold source at hs
 split at hs
 ·cases hs;cases hx
  refine⟨by simp,by simp,fun P w'=>by simp[Builtin.lenOf],fun n hn=>⟨[],by simp;exact .nil,fun P w' _=>by simp[Builtin.firstCells]⟩⟩
 ·cases hs;cases hx
  refine⟨by simp,by simp,fun P w'=>by simp[Builtin.lenOf],fun n hn=>⟨[],by simp;exact .nil,fun P w' _=> ?_⟩⟩
  have:n=0:=by simpa using hn
  subst this
  simp[Builtin.firstCells,loadCells,loadCellsFrom]
 ·rename_i id g s len cap ex
  cases hx with
  |slc hL h1 h2 h3 h4 h5 h6=>
   rename_i c off L
   cases h0:Nat.beq len 0 with
   |true=>
    rw[h0,cond_true] at hs;cases hs
    have:=bJ.1 h0;subst this
    refine⟨by simp,by simp,fun P w'=>by simp[Builtin.lenOf],fun n hn=>⟨[],by simp;exact .nil,fun P w' _=> ?_⟩⟩
    have:n=0:=by simpa using hn
    subst this
    simp[Builtin.firstCells,loadCells,loadCellsFrom]
   |false=>
    rw[h0,cond_false] at hs
    have hpos:=fO.1 h0
    split at hs
    ·rename_i r hrow
     cases hc:(Nat.ble r.m g&&Nat.beq r.sz sz) with
     |false=>rw[hc] at hs;cases hs
     |true=>
      rw[hc,cond_true] at hs
      simp only[Bool.and_eq_true,bI,bJ] at hc
      obtain⟨c1,c2⟩:=hc
      have hr:iC φ id r w:=H.obj id _ (aj.row_some.1 hrow)
      cases hl:Nat.beq ((r.es.drop s).take len).length len with
      |false=>simp only[hl] at hs;cases hs
      |true=>
       simp only[hl,cond_true] at hs;cases hs
       have hl:=bJ.1 hl
       have hsz:L.sz=r.sz:=(hr.gen g L hL).2
       refine⟨fun e he=>by rw[←c2];exact hr.es e (List.mem_of_mem_drop (List.mem_of_mem_take he)),fun e he=>hr.leaf e (List.mem_of_mem_drop (List.mem_of_mem_take he)),fun P w'=>by simp only[Builtin.lenOf,Sem.run_pure,hl],fun n hn=> ?_⟩
       rw[hl] at hn
       have hfit:s*r.sz+n*r.sz≤L.ext*r.sz:=by
        rw[←Nat.add_mul];exact Nat.mul_le_mul_right _ (by omega)
       obtain⟨vs,v1,v2,v3⟩:=xX hr hL c1 hfit
       have hfl:(((r.es.drop s).take len).take n).flatten=(r.es.flatten.drop (s*r.sz)).take (n*r.sz):=by
        rw[List.take_take,Nat.min_eq_left hn,oz (fun e he=>hr.es e (List.mem_of_mem_drop he)),wX hr.es]
       refine⟨vs,by rw[hfl];exact v1,fun P w' hw'=> ?_⟩
       refine run_firstCells_some (P:=P) w' sz n _ _ _ vs (by rw[v2,c2]) (fun j u hj=> ?_)
       have ec:∀A,w'.cell? A=w.cell? A:=fun A=>by simp[World.cell?,hw']
       rw[ec,h6 (by omega),hsz]
       exact v3 j u hj
    ·cases hs
 ·rename_i s
  cases hx with
  |str hb=>
   rename_i bs
   cases hc:Nat.beq sz 1 with
   |false=>rw[hc] at hs;cases hs
   |true=>
    rw[hc,cond_true] at hs;cases hs
    have:=bJ.1 hc;subst this
    have hsz:=tT hb
    refine⟨by intro e he;simp at he;obtain⟨b,_,rfl⟩:=he;rfl,by intro e he;simp at he;obtain⟨b,_,rfl⟩:=he;rfl,fun P w'=>by simp[Builtin.lenOf,hsz],fun n hn=> ?_⟩
    simp only[List.length_map] at hn
    refine⟨(bs.data.toList.take n).map fun b=>Value.int .u8 b.toNat, ?_,fun P w' _=> ?_⟩
    ·have e1:((s.map fun b=>[AV.int .u8 (.ofNat b)]).take n).flatten=(((bs.data.toList.take n).map UInt8.toNat).map fun b=>AV.int .u8 (.ofNat b)):=by
      rw[←List.map_take, ←hb, ←List.map_take]
      rw[show(fun b:Nat=>[AV.int .u8 (.ofNat b)])=(fun x=>[x])∘(fun b:Nat=>AV.int .u8 (.ofNat b)) from rfl, ←List.map_map,mG]
     rw[e1]
     exact Ez φ _
    ·simp only[Builtin.firstCells,Sem.run_pure]
     congr 1
     apply Array.ext'
     simp[ByteArray.data_extract,List.extract_eq_take_drop]
 ·cases hs
theorem wR {z:List Value} (hz:0<z.length) (n:Nat):Builtin.zeroCells z.toArray n=(List.replicate n z).flatten.toArray:=by
 apply Array.ext'
 have:=vG z hz n
 simp only[Builtin.zeroCells,Array.toList_map,Array.toList_range,List.size_toArray]
 exact this
def NY (P:Program) (w:World) (t1 t2 ty:TypeId) (base:Option Addr) (sLen sCap m:Nat) (sz:Nat) (nv:List Value) (cx:Value):Prop:=
 sLen+m≤sCap→∀A,base=some A→∀w',(storeCells (A.add (sLen*sz)) nv).run P w= .ok () w'→(Builtin.append_ #[t1,t2] ty #[.slice base sLen sCap,cx]).run P w= .ok (.slice base (sLen+m) sCap) w'
def Oh (P:Program) (w:World) (t1 t2 ty e:TypeId) (base:Option Addr) (sLen sCap m:Nat) (sz:Nat) (zc:Array Value) (nv:List Value) (cx:Value):Prop:=
 sCap<sLen+m→∀ov:List Value,(∀w':World,w'.heap=w.heap→(Builtin.firstCells sz sLen (.slice base sLen sCap)).run P w'= .ok ov.toArray w')→
  (Builtin.append_ #[t1,t2] ty #[.slice base sLen sCap,cx]).run P w=
    .ok (.slice (some ⟨w.heap.size,0,none⟩) (sLen+m) (grownCap w (sLen+m) sCap e)) (w.drew.alloc (.cells (ov++nv++(Builtin.zeroCells zc (grownCap w (sLen+m) sCap e-(sLen+m))).toList).toArray e))
theorem AY {t1 t2 ty e:TypeId} (hu:P.underlying t1=some (.slice e)) {sz:Nat} (hsz:sizeT P e=some sz) {d2:TypeDesc} (hu2:P.underlying t2=some d2) (hni:∀k,d2≠ .int k)
 {cx:Value} {m:Nat} (hlen:∀w':World,(Builtin.lenOf cx).run P w'= .ok m w') {nv:List Value} (hfirst:(Builtin.firstCells sz m cx).run P w= .ok nv.toArray w) (base:Option Addr) (sLen sCap:Nat):
 NY P w t1 t2 ty base sLen sCap m sz nv cx:=by
 intro hroom A hA w' hst
 subst hA
 have hz:(d2 matches .int _)=false:=by cases d2<;>first |rfl |exact absurd rfl (hni _)
 simp only[Builtin.append_,List.getElem?_toArray,List.getElem?_cons_zero,List.getElem?_cons_succ,Sem.run_bind,run_underlying hu,run_underlying hu2,Result.andThen_ok,fK hsz,Sem.run_pure,hz,Bool.false_eq_true,if_false,hlen,hroom,if_true,Bool.not_false,hfirst,hst]
theorem Tv {t1 t2 ty e:TypeId} (hu:P.underlying t1=some (.slice e)) {sz:Nat} (hsz:sizeT P e=some sz) {d2:TypeDesc} (hu2:P.underlying t2=some d2) (hni:∀k,d2≠ .int k)
 {i:TypeInfo} (hi:P.info? e=some i) {zv:Value} (hz0:i.zero=some zv) {bytes:Nat} (hby:i.bytes=bytes)
 {cx:Value} {m:Nat} (hlen:∀w':World,(Builtin.lenOf cx).run P w'= .ok m w') {nv:List Value} (hfirst:∀w':World,w'.heap=w.heap→(Builtin.firstCells sz m cx).run P w'= .ok nv.toArray w') (base:Option Addr) (sLen sCap:Nat)
 (hmost:(sLen+m)*bytes≤most) (hmost2:sLen+m≤most):
 Oh P w t1 t2 ty e base sLen sCap m sz zv.cells nv cx:=by
 intro hgrow ov hov
 have hz:(d2 matches .int _)=false:=by cases d2<;>first |rfl |exact absurd rfl (hni _)
 unfold most at hmost hmost2
 have hns:¬(sLen+m≤sCap):=by omega
 have h63:¬((((sLen+m:Nat):Int)>IntKind.i64.max)∧(False∨i.bytes=0)):=by
  rintro⟨h1,_⟩
  have:IntKind.i64.max=9223372036854775807:=by rfl
  rw[this] at h1
  omega
 have h48:¬(Builtin.nextslicecap (sLen+m) sCap*i.bytes>2 ^ 48):=by
  have:=growslice_fits (bytes:=i.bytes) hgrow (by rw[hby];omega)
  omega
 have hti:∀w':World,(typeInfo e).run P w'= .ok i w':=fun w'=>by simp[typeInfo,hi]
 have hzv:∀w':World,(zeroValue e).run P w'= .ok zv w':=fun w'=>by simp[zeroValue,typeInfo,hi,hz0]
 simp only[Builtin.append_,List.getElem?_toArray,List.getElem?_cons_zero,List.getElem?_cons_succ,Sem.run_bind,run_underlying hu,run_underlying hu2,Result.andThen_ok,fK hsz,Sem.run_pure,hz,Bool.false_eq_true,if_false,hlen,hns,
  hti,Bool.not_false,if_true,h63,h48]
 have hq:(Question.appendCap (sLen+m) sCap e).forced=false:=rfl
 simp only[choose,Sem.run,hq,Bool.false_eq_true,if_false,Result.andThen_ok,hti,run_askRoom]
 simp only[World.drew_eq,hov w.drew rfl,Result.andThen_ok,hfirst w.drew rfl,hzv]
 simp only[Go.newRow,Sem.run_bind,run_newObj,Result.andThen_ok,Sem.run_pure]
 congr 1
 show World.alloc _ _=World.alloc _ _
 congr 2
 apply Array.ext'
 simp[grownCap,List.append_assoc]
theorem qL (w:World) (need old:Nat) (e:TypeId):need≤grownCap w need old e:=by
 simp[grownCap,Question.cut]
theorem Bq {H:dI P B φ h w} {id:Nat} {r:Row} (hget:h.get id=some (.row r)) (hrw:r.rw=true) {es':List (List AV)} (hes:∀e∈es',e.length=r.sz) (hlf:∀e∈es',aV e=true) {m':Nat} (hm':m'≤r.g+1)
 {w':World} {L:Loc} (hL:L.sz=r.sz∧L.ext=es'.length∧L.base=0) (hblk:(L.blk=w.heap.size∧L.blk<w'.heap.size)∨∃g0 L0,φ id g0=some L0∧L0.blk=L.blk)
 (hsz:w.heap.size≤w'.heap.size) (hkeep:∀k,k<w.heap.size→(∀g K,φ id g=some K→K.blk≠k)→w'.heap[k]? =w.heap[k]?) (hkind:kX w w')
 (hnew:∃vals,dH φ es'.flatten vals∧∀(j:Nat) (u:Value),vals[j]? =some u→w'.cell? ⟨L.blk,j,none⟩=some u)
 (hcells:∃c t,w'.heap[L.blk]? =some (.cells c t (0,0))∧c.size=L.tot*L.sz∧L.ext≤L.tot)
 (hold:∀g K,m'≤g→φ id g=some K→K.ext≤es'.length∧(∃vals,dH φ (es'.take K.ext).flatten vals∧∀(j:Nat) (u:Value),vals[j]? =some u→w'.cell? ⟨K.blk,K.base+j,none⟩=some u)∧
   K.base=0∧∃c t,w'.heap[K.blk]? =some (.cells c t (0,0))∧c.size=K.tot*K.sz∧K.ext≤K.tot)
 {ty':Option Nat} (hty:∀u,ty'=some u→(∃c f,w'.heap[L.blk]? =some (.cells c u f))∧∀g K,m'≤g→φ id g=some K→∃c f,w'.heap[K.blk]? =some (.cells c u f)) (hdm:∃g L,φ id g=some L:=by exact⟨_,_,by assumption⟩):
 φ.le (φ.add id (r.g+1) L)∧dI P B (φ.add id (r.g+1) L) (h.put id (.row {r with es:=es',g:=r.g+1,m:=m',ty:=ty'})) w':=by
 have hrow:iC φ id r w:=H.obj id _ hget hdm
 obtain⟨g0,L0,hL0⟩:=hdm
 have hnone:φ id (r.g+1)=none:=by
  cases e:φ id (r.g+1) with
  |none=>rfl
  |some K=>have:=(hrow.gen _ K e).1;omega
 have hle:=eO.le_add (φ:=φ) L hnone
 refine⟨hle, ?_⟩
 have hkey:∀g K,φ.add id (r.g+1) L id g=some K→(g=r.g+1∧K=L)∨φ id g=some K:=by
  intro g K e
  by_cases hg:g=r.g+1
  ·subst hg;rw[eO.add_same] at e;cases e;exact .inl ⟨rfl,rfl⟩
  ·rw[eO.add_other _ _ (by omega)] at e;exact .inr e
 refine H.update hget hrw hrw hle (fun a g ha=>eO.add_other _ _ (by omega)) ?_ hsz hkeep hkind ?_
 ·intro g K e
  rcases hkey g K e with⟨_,rfl⟩|h1
  ·exact .inr hblk
  ·exact .inl h1
 ·refine⟨hm',hrow.sz,hes,hlf,⟨L,eO.add_same _ _ _ _,hL.2.1⟩,fun g K e=> ?_,fun g K hm e=> ?_,fun _ g K hm e=> ?_,fun u hu _ g K hm e=> ?_⟩
  ·rcases hkey g K e with⟨rfl,rfl⟩|h1
   ·exact⟨Nat.le_refl _,hL.1⟩
   ·exact⟨Nat.le_succ_of_le (hrow.gen g K h1).1,(hrow.gen g K h1).2⟩
  ·rcases hkey g K e with⟨rfl,rfl⟩|h1
   ·obtain⟨vals,a,b⟩:=hnew
    refine⟨by rw[hL.2.1];exact Nat.le_refl _,vals, ?_,fun j u hj=> ?_⟩
    ·rw[hL.2.1,List.take_of_length_le (Nat.le_refl _)];exact a.mono hle
    ·rw[hL.2.2,Nat.zero_add];exact b j u hj
   ·obtain⟨a,⟨vals,b,c⟩,_⟩:=hold g K hm h1
    exact⟨a,vals,b.mono hle,c⟩
  ·rcases hkey g K e with⟨rfl,rfl⟩|h1
   ·exact⟨hL.2.2,hcells⟩
   ·exact(hold g K hm h1).2.2
  ·rcases hkey g K e with⟨rfl,rfl⟩|h1
   ·exact(hty u hu).1
   ·exact(hty u hu).2 g K hm h1
theorem zu {a b:Option Nat} {u:Nat} (h:ng a b=some u):a=some u∧b=some u:=by
 unfold ng at h
 split at h
 ·rename_i x y
  cases hb:Nat.beq x y with
  |false=>rw[hb] at h;cases h
  |true=>
   rw[hb] at h;cases h
   have:=bJ.1 hb
   subst this
   exact⟨rfl,rfl⟩
 ·cases h
theorem tJ {id g st len cap c off:Nat} {r:Row} {L:Loc} {sz:Nat} (hr:iC φ id r w) (hL:φ id g=some L) (hm:r.m≤g) (hsz:r.sz=sz) (h1:len≤cap) (h2:st+cap≤L.ext) (h4:cap≤c) (h6:0<c→off=L.base+st*L.sz):
 ∃ov:List Value,dH φ ((r.es.drop st).take len).flatten ov∧ov.length=len*sz∧∀w':World,w'.heap=w.heap→(Builtin.firstCells sz len (.slice (some ⟨L.blk,off,none⟩) len c)).run P w'= .ok ov.toArray w':=by
 have hLs:L.sz=r.sz:=(hr.gen g L hL).2
 have hfit:st*r.sz+len*r.sz≤L.ext*r.sz:=by rw[←Nat.add_mul];exact Nat.mul_le_mul_right _ (by omega)
 obtain⟨vs,v1,v2,v3⟩:=xX hr hL hm hfit
 refine⟨vs, ?_,by rw[v2,hsz],fun w' hw'=> ?_⟩
 ·rw[oz (fun e he=>hr.es e (List.mem_of_mem_drop he)),wX hr.es];exact v1
 ·refine run_firstCells_some (P:=P) w' sz len _ _ _ vs (by rw[v2,hsz]) (fun j u hj=> ?_)
  have ec:∀A,w'.cell? A=w.cell? A:=fun A=>by simp[World.cell?,hw']
  have hjl:=(List.getElem?_eq_some_iff.1 hj).1
  have hlen:0<len:=by
   rcases Nat.eq_zero_or_pos len with h0 |h0
   ·rw[h0,Nat.zero_mul] at v2;omega
   ·exact h0
  rw[ec,h6 (by omega),hLs]
  exact v3 j u hj
theorem BX {sz bytes:Nat} {s:AV} {cs cx:Value} {new:List (List AV)} {nv:List Value} {t1 t2 ty e:TypeId} {zc:Array Value} (H:dI P B φ h w) (hs:dn φ s cs) (hsz:0<sz) (hzc:zc.size=sz)
 (hne:∀x∈new,x.length=sz) (hnl:∀x∈new,aV x=true) (hnv:dH φ new.flatten nv)
 (hroom:∀base sLen sCap,NY P w t1 t2 ty base sLen sCap new.length sz nv cx)
 (hgrow:∀base sLen sCap,(sLen+new.length)*bytes≤most→sLen+new.length≤most→Oh P w t1 t2 ty e base sLen sCap new.length sz zc nv cx)
 (hnil:new.length=0→(Builtin.append_ #[t1,t2] ty #[.slice none 0 0,cx]).run P w= .ok (.slice none 0 0) w)
 {nt:Option Nat} (hnt:∀u,nt=some u→u=e) (he:eZ h sz bytes s new nt=some (v,h')):jU P B φ h' v w ((Builtin.append_ #[t1,t2] ty #[cs,cx]).run P w):=by
 have hnvl:nv.length=new.length*sz:=by rw[←hnv.length,jP hne]
 have hflat:aV new.flatten=true:=nW hnl
 have hzl:∀n,(Builtin.zeroCells zc n).toList.length=n*sz:=fun n=>by simp[Builtin.zeroCells,hzc]
 unfold eZ at he
 split at he
 ·cases hs
  split at he
  ·cases he
   exact jU.pure H (hnil rfl) .nilSlc
  ·rename_i hnn
   cases hc:(Nat.ble (new.length*bytes) most&&Nat.ble new.length most) with
   |false=>rw[hc] at he;cases he
   |true=>
    rw[hc,cond_true] at he;cases he
    simp only[Bool.and_eq_true,bI] at hc
    have hpos:0<new.length:=List.length_pos_iff.2 hnn
    have hrun:=hgrow none 0 0 (by simpa using hc.1) (by simpa using hc.2) (by omega) [] (fun w' _=>by simp[Builtin.firstCells])
    simp only[Nat.zero_add,List.nil_append] at hrun
    have hge:=qL w new.length 0 e
    obtain⟨φ',p1,p2,p3,p4⟩:=qz H.drew hsz hne hnl (vals:=nv) (spare:=(Builtin.zeroCells zc (grownCap w new.length 0 e-new.length)).toList) hnv (tot:=grownCap w new.length 0 e)
     (by rw[hzl,hnvl, ←Nat.add_mul];congr 1;omega) e nt hnt
    refine⟨_,_,φ',hrun, ?_,p3,p1,(Gw.drew B w).trans p4⟩
    exact .slc p2 (Nat.le_refl _) (by simp only;omega) (by simp only;omega) hge (fun e=>by cases e) (fun _=>by simp)
 ·cases hs
  rename_i A
  split at he
  ·cases he
   have hnv0:nv=[]:=List.length_eq_zero_iff.1 (by simpa using hnvl)
   subst hnv0
   have hrun:=hroom (some A) 0 0 (by simp) _ rfl w (by simp[storeCells])
   exact⟨_,w,φ,hrun, .emp,H,φ.le_refl,Gw.refl B w⟩
  ·rename_i hnn
   cases hc:(Nat.ble (new.length*bytes) most&&Nat.ble new.length most) with
   |false=>rw[hc] at he;cases he
   |true=>
    rw[hc,cond_true] at he;cases he
    simp only[Bool.and_eq_true,bI] at hc
    have hpos:0<new.length:=List.length_pos_iff.2 hnn
    have hrun:=hgrow (some A) 0 0 (by simpa using hc.1) (by simpa using hc.2) (by omega) [] (fun w' _=>by simp[Builtin.firstCells,loadCells,loadCellsFrom])
    simp only[Nat.zero_add,List.nil_append] at hrun
    have hge:=qL w new.length 0 e
    obtain⟨φ',p1,p2,p3,p4⟩:=qz H.drew hsz hne hnl (vals:=nv) (spare:=(Builtin.zeroCells zc (grownCap w new.length 0 e-new.length)).toList) hnv (tot:=grownCap w new.length 0 e)
     (by rw[hzl,hnvl, ←Nat.add_mul];congr 1;omega) e nt hnt
    refine⟨_,_,φ',hrun, ?_,p3,p1,(Gw.drew B w).trans p4⟩
    exact .slc p2 (Nat.le_refl _) (by simp only;omega) (by simp only;omega) hge (fun e=>by cases e) (fun _=>by simp)
 ·rename_i id g st len cap ex
  cases hs with
  |slc hL h1 h2 h3 h4 h5 h6=>
   rename_i c off L
   split at he
   ·cases he
    have hnv0:nv=[]:=List.length_eq_zero_iff.1 (by simpa using hnvl)
    subst hnv0
    have hrun:=hroom (some ⟨L.blk,off,none⟩) len c (by simp;omega) _ rfl w (by simp[storeCells])
    exact⟨_,w,φ,hrun, .slc hL h1 h2 h3 h4 h5 h6,H,φ.le_refl,Gw.refl B w⟩
   ·rename_i hnn
    have hpos:0<new.length:=List.length_pos_iff.2 hnn
    split at he
    ·cases he
    ·rename_i r hget
     have hrow:=aj.row_some.1 hget
     have hr:iC φ id r w:=H.obj id _ hrow
     cases hc:(Nat.ble ((len+new.length)*bytes) most&&Nat.ble (len+new.length) most&&Nat.beq r.sz sz) with
     |false=>rw[hc] at he;cases he
     |true=>
      rw[hc,cond_true] at he
      simp only[Bool.and_eq_true,bI,bJ] at hc
      obtain⟨⟨c1,c2⟩,c3⟩:=hc
      have hLs:L.sz=sz:=by rw[(hr.gen g L hL).2,c3]
      cases hin:Nat.ble (len+new.length) cap with
      |true=>
       rw[hin,cond_true] at he
       have hin:=bI.1 hin
       cases hcc:(r.rw&&Nat.beq g r.g) with
       |false=>rw[hcc] at he;cases he
       |true=>
        rw[hcc,cond_true] at he;cases he
        simp only[Bool.and_eq_true,bJ] at hcc
        obtain⟨hrw,rfl⟩:=hcc
        obtain⟨L',hL',hext⟩:=hr.cur
        rw[hL] at hL';cases hL'
        have hfl:new.flatten.length=new.length*sz:=jP hne
        have hfit:(st+len)*r.sz+new.flatten.length≤r.es.length*r.sz:=by
         rw[hfl,c3, ←Nat.add_mul];exact Nat.mul_le_mul_right _ (by omega)
        obtain⟨w',s1,s2,s3⟩:=yJ H hrow hrw hL hnv hflat hfit (es':=lay r.es (st+len) new)
         (by
           intro x hx
           unfold lay at hx
           rcases List.mem_append.1 hx with hx |hx
           ·rcases List.mem_append.1 hx with hx |hx
            ·exact hr.es x (List.mem_of_mem_take hx)
            ·rw[c3];exact hne x hx
           ·exact hr.es x (List.mem_of_mem_drop hx))
         (mX _ _ _ (by omega)) (by rw[c3];exact FJ (by rw[←c3];exact hr.es) hne _)
         (by
           intro x hx
           unfold lay at hx
           rcases List.mem_append.1 hx with hx |hx
           ·rcases List.mem_append.1 hx with hx |hx
            ·exact hr.leaf x (List.mem_of_mem_take hx)
            ·exact hnl x hx
           ·exact hr.leaf x (List.mem_of_mem_drop hx))
        have hA:(⟨L.blk,off,none⟩:Addr).add (len*sz)=⟨L.blk,L.base+(st+len)*r.sz,none⟩:=by
         rw[Addr.add_lit,h6 (by omega),hLs,c3,Nat.add_mul,Nat.add_assoc]
        have hrun:=hroom (some ⟨L.blk,off,none⟩) len c (by omega) _ rfl w' (by rw[hA];exact s1)
        exact⟨_,w',φ,hrun, .slc hL (by omega) h2 h3 h4 h5 h6,s2,φ.le_refl,s3⟩
      |false=>
       rw[hin,cond_false] at he
       have hin:¬len+new.length≤cap:=fun h=>by rw[bI.2 h] at hin;cases hin
       cases ex with
       |true=>
        rw[cond_true] at he
        have hcc:=h5 rfl
        subst hcc
        cases hm:Nat.ble r.m g with
        |false=>rw[hm] at he;cases he
        |true=>
         rw[hm,cond_true] at he
         have hm:=bI.1 hm
         cases hl:Nat.beq ((r.es.drop st).take len).length len with
         |false=>simp only[hl] at he;cases he
         |true=>
          simp only[hl,cond_true] at he;cases he
          have hl:=bJ.1 hl
          obtain⟨ov,o1,o2,o3⟩:=tJ (P:=P) hr hL hm c3 h1 h2 h4 h6
          have hrun:=hgrow (some ⟨L.blk,off,none⟩) len c c1 c2 (by omega) ov o3
          have hge:=qL w (len+new.length) c e
          have hes':∀x∈(r.es.drop st).take len++new,x.length=sz:=by
           intro x hx
           rcases List.mem_append.1 hx with hx |hx
           ·rw[←c3];exact hr.es x (List.mem_of_mem_drop (List.mem_of_mem_take hx))
           ·exact hne x hx
          have hlf':∀x∈(r.es.drop st).take len++new,aV x=true:=by
           intro x hx
           rcases List.mem_append.1 hx with hx |hx
           ·exact hr.leaf x (List.mem_of_mem_drop (List.mem_of_mem_take hx))
           ·exact hnl x hx
          obtain⟨φ',p1,p2,p3,p4⟩:=qz H.drew hsz hes' hlf' (vals:=ov++nv) (spare:=(Builtin.zeroCells zc (grownCap w (len+new.length) c e-(len+new.length))).toList)
           (by rw[List.flatten_append];exact o1.append hnv) (tot:=grownCap w (len+new.length) c e)
           (by rw[hzl,List.length_append,hnvl,o2, ←Nat.add_mul, ←Nat.add_mul];congr 1;omega) e nt hnt
          refine⟨_,_,φ',hrun, ?_,p3,p1,(Gw.drew B w).trans p4⟩
          exact .slc p2 (Nat.le_refl _) (by simp only[List.length_append,hl];omega) (by simp only;omega) hge (fun e=>by cases e) (fun _=>by simp)
       |false=>
        rw[cond_false] at he
        cases hcc:(r.rw&&Nat.beq g r.g&&Nat.beq st 0) with
        |false=>rw[hcc] at he;cases he
        |true=>
         rw[hcc,cond_true] at he
         simp only[Bool.and_eq_true,bJ] at hcc
         obtain⟨⟨hrw,rfl⟩,rfl⟩:=hcc
         obtain⟨L',hL',hext⟩:=hr.cur
         rw[hL] at hL';cases hL'
         obtain⟨hbase,bc,bt,hbc,hbs,hbx⟩:=hr.own hrw r.g L hr.mg hL
         obtain⟨_,vals,hv,hcv⟩:=hr.cells r.g L hr.mg hL
         rw[List.take_of_length_le (by omega)] at hv
         have hvl:vals.length=r.es.length*r.sz:=by rw[←hv.length,jP hr.es]
         have hlen:len≤r.es.length:=by omega
         have hes':∀x∈r.es.take len++new,x.length=r.sz:=by
          intro x hx
          rcases List.mem_append.1 hx with hx |hx
          ·exact hr.es x (List.mem_of_mem_take hx)
          ·rw[c3];exact hne x hx
         have hlf':∀x∈r.es.take len++new,aV x=true:=by
          intro x hx
          rcases List.mem_append.1 hx with hx |hx
          ·exact hr.leaf x (List.mem_of_mem_take hx)
          ·exact hnl x hx
         have hesl:(r.es.take len++new).length=len+new.length:=by
          rw[List.length_append,List.length_take];omega
         have hnewv:dH φ (r.es.take len++new).flatten (vals.take (len*r.sz)++nv):=by
          rw[List.flatten_append,oz hr.es];exact(hv.take _).append hnv
         have hoff:0<c→off=0:=fun hc0=>by have:=h6 hc0;omega
         have key:∀(m':Nat),m'≤r.g+1→(∀g K,m'≤g→φ id g=some K→r.m≤g∧K.ext≤len)→
          jU P B φ (h.put id (.row {r with es:=r.es.take len++new,g:=r.g+1,m:=m',ty:=ng r.ty nt})) (.slc id (r.g+1) 0 (len+new.length) (len+new.length) false) w
           ((Builtin.append_ #[t1,t2] ty #[.slice (some ⟨L.blk,off,none⟩) len c,cx]).run P w):=by
          intro m' hm' hold
          by_cases hfits:len+new.length≤c
          ·
           have hsz2:len*sz+nv.length≤bc.size:=by
            rw[hbs,hnvl,hLs, ←Nat.add_mul];exact Nat.mul_le_mul_right _ (by omega)
           have hst:=run_storeCells_at P L.blk (len*sz) bt nv 0 bc w hbc (by simpa using hsz2) (hnv.leaf hflat)
           simp only[Nat.add_zero] at hst
           have hA:(⟨L.blk,off,none⟩:Addr).add (len*sz)=⟨L.blk,len*sz,none⟩:=by
            rw[Addr.add_lit,hoff (by omega),Nat.zero_add]
           have hrun:=hroom (some ⟨L.blk,off,none⟩) len c hfits _ rfl _ (by rw[hA];exact hst)
           generalize hc':(bc.toList.take (len*sz)++nv++bc.toList.drop (len*sz+nv.length)).toArray=c' at hst hrun
           have hheap:=setRow_heap w L.blk bc c' bt (0,0) hbc
           have hcs:c'.size=bc.size:=by rw[←hc'];simp;omega
           have hB:B≤L.blk:=(H.own id _ r.g L hrow hL).1 hrw
           have hcell:∀(j:Nat) (u:Value),vals[j]? =some u→bc.toList[j]? =some u:=by
            intro j u hj
            have:=hcv j u hj
            rw[hbase,Nat.zero_add,cell_of_row w L.blk _ bc bt (0,0) hbc] at this
            simpa using this
           have hpre:∀(j:Nat) (u:Value),j<len*sz→vals[j]? =some u→c'[j]? =some u:=by
            intro j u hj hu
            rw[←hc',List.getElem?_toArray,List.append_assoc,List.getElem?_append_left (by simp;omega),List.getElem?_take_of_lt hj]
            exact hcell j u hu
           have hmin0:(vals.take (len*r.sz)).length=len*sz:=by
            rw[List.length_take,hvl,c3,Nat.min_eq_left (Nat.mul_le_mul_right _ hlen)]
           have hgrown:=Bq (H:=H) hrow hrw hes' hlf' hm' (w':=w.setRow L.blk c') (L:=⟨L.blk,0,r.sz,len+new.length,L.tot⟩) ⟨rfl,hesl.symm,rfl⟩ (.inr ⟨r.g,L,hL,rfl⟩) (by simp)
            (fun k _ hk=>setRow_other w L.blk k c' (fun e=>hk r.g L hL e.symm)) (kX.of_block hheap (fun ds e=>by cases e) (fun k hk=>setRow_other w L.blk k c' hk))
            ⟨_,hnewv,fun j u hj=>by
              rw[cell_setRow_same w L.blk _ bc c' bt (0,0) hbc]
              by_cases hjl:j<len*sz
              ·rw[List.getElem?_append_left (by rw[hmin0];exact hjl),List.getElem?_take_of_lt (by rw[c3];exact hjl)] at hj
               exact hpre j u hjl hj
              ·rw[List.getElem?_append_right (by rw[hmin0];omega),hmin0] at hj
               have hjn:=(List.getElem?_eq_some_iff.1 hj).1
               rw[←hc',List.getElem?_toArray,List.append_assoc,List.getElem?_append_right (by simp;omega),List.getElem?_append_left (by simp;omega)]
               rw[List.length_take,Nat.min_eq_left (by simp;omega)]
               exact hj⟩
            ⟨c',bt,hheap,by rw[hcs,hbs,hLs,c3],by simp only;omega⟩
            (fun g K hmg hK=>by
              obtain⟨a1,a2⟩:=hold g K hmg hK
              obtain⟨b1,vs,b2,b3⟩:=hr.cells g K a1 hK
              obtain⟨d1,dc,dt,d2,d3,d4⟩:=hr.own hrw g K a1 hK
              have hKs:K.sz=r.sz:=(hr.gen g K hK).2
              have htk:(r.es.take len++new).take K.ext=r.es.take K.ext:=by
               rw[List.take_append_of_le_length (by simp;omega),List.take_take,Nat.min_eq_left a2]
              have hvsl:vs.length=K.ext*r.sz:=by
               rw[←b2.length,jP (sz:=r.sz) (fun x hx=>hr.es x (List.mem_of_mem_take hx)),List.length_take];congr 1;omega
              refine⟨by omega,⟨vs,by rw[htk];exact b2,fun j u hj=> ?_⟩,d1, ?_⟩
              ·have hjl:=(List.getElem?_eq_some_iff.1 hj).1
               have hcu:=b3 j u hj
               rw[d1,Nat.zero_add] at hcu ⊢
               by_cases hbk:K.blk=L.blk
               ·rw[hbk] at hcu ⊢
                rw[cell_of_row w L.blk _ bc bt (0,0) hbc] at hcu
                rw[cell_setRow_same w L.blk _ bc c' bt (0,0) hbc]
                have hjs:j<len*sz:=by
                 have:K.ext*r.sz≤len*sz:=by rw[c3];exact Nat.mul_le_mul_right _ a2
                 omega
                rw[←hc',List.getElem?_toArray,List.append_assoc,List.getElem?_append_left (by simp;omega),List.getElem?_take_of_lt hjs]
                simpa using hcu
               ·rw[cell_setRow_other w L.blk c' _ hbk];exact hcu
              ·by_cases hbk:K.blk=L.blk
               ·refine⟨c',bt,by rw[hbk];exact hheap, ?_,d4⟩
                rw[hbk,hbc] at d2
                cases d2
                rw[hcs];exact d3
               ·exact⟨dc,dt,(setRow_other w L.blk K.blk c' hbk).trans d2,d3,d4⟩)
            (ty':=ng r.ty nt) (fun u hu=>by
              obtain⟨y1,y2⟩:=zu hu
              obtain⟨c0,f0,hc0⟩:=hr.ty u y1 hrw r.g L hr.mg hL
              rw[hbc] at hc0;cases hc0
              refine⟨⟨_,_,hheap⟩,fun g K hmg hK=> ?_⟩
              obtain⟨a1,a2⟩:=hold g K hmg hK
              obtain⟨ck,fk,hk⟩:=hr.ty _ y1 hrw g K a1 hK
              by_cases hbk:K.blk=L.blk
              ·rw[hbk];exact⟨_,_,hheap⟩
              ·exact⟨_,_,(setRow_other w L.blk K.blk c' hbk).trans hk⟩)
           refine⟨_,_,_,hrun, ?_,hgrown.2,hgrown.1,Gw.of_block hbc hB (fun ds e=>by cases e) (fun r e=>by cases e) hheap (fun _ _ _ e=>by cases e;rfl) (fun _ _ _ e=>by cases e;rfl) (fun k hk=>setRow_other w L.blk k c' hk) (by simp) rfl rfl rfl⟩
           exact .slc (L:=⟨L.blk,0,r.sz,len+new.length,L.tot⟩) (eO.add_same _ _ _ _) (Nat.le_refl _) (by simp only;omega) (by simp only;omega) hfits (fun e=>by cases e) (fun hc0=>by simp[hoff hc0])
          ·
           obtain⟨ov,o1,o2,o3⟩:=tJ (P:=P) hr hL hr.mg c3 h1 h2 h4 h6
           have hrun:=hgrow (some ⟨L.blk,off,none⟩) len c c1 c2 (by omega) ov o3
           have hge:=qL w (len+new.length) c e
           simp only[List.drop_zero] at o1
           generalize hgc:grownCap w (len+new.length) c e=gc at hrun hge
           generalize hzz:(Builtin.zeroCells zc (gc-(len+new.length))).toList=zz at hrun
           have hzzl:zz.length=(gc-(len+new.length))*sz:=by rw[←hzz];exact hzl _
           have hgrown:=Bq (H:=H.drew) hrow hrw hes' hlf' hm' (w':=w.drew.alloc (.cells (ov++nv++zz).toArray e)) (L:=⟨w.heap.size,0,r.sz,len+new.length,gc⟩) ⟨rfl,hesl.symm,rfl⟩ (.inl ⟨rfl,by simp⟩) (by simp)
            (fun k hk _=>heap_alloc_old w.drew _ hk) (kX.alloc w.drew (fun ds e=>by cases e))
            ⟨ov++nv,by rw[List.flatten_append];exact o1.append hnv,fun j u hj=>by
              have hjl:=(List.getElem?_eq_some_iff.1 hj).1
              have:=World.cell?_alloc_new w.drew (ov++nv++zz).toArray e j
              rw[show w.drew.heap.size=w.heap.size from rfl] at this
              rw[this,List.getElem?_toArray,List.getElem?_append_left hjl]
              exact hj⟩
            ⟨_,e,heap_alloc_new w.drew _,by simp only[List.size_toArray,List.length_append];rw[o2,hnvl,hzzl,c3, ←Nat.add_mul, ←Nat.add_mul];congr 1;omega,hge⟩
            (fun g K hmg hK=>by
              obtain⟨a1,a2⟩:=hold g K hmg hK
              obtain⟨b1,vs,b2,b3⟩:=hr.cells g K a1 hK
              obtain⟨d1,dc,dt,d2,d3,d4⟩:=hr.own hrw g K a1 hK
              have hlt:=H.lt id g K hK
              have htk:(r.es.take len++new).take K.ext=r.es.take K.ext:=by
               rw[List.take_append_of_le_length (by simp;omega),List.take_take,Nat.min_eq_left a2]
              refine⟨by omega,⟨vs,by rw[htk];exact b2,fun j u hj=> ?_⟩,d1,dc,dt,(heap_alloc_old w.drew _ hlt).trans d2,d3,d4⟩
              exact(cell_of_heap (heap_alloc_old w.drew _ hlt)).trans (b3 j u hj))
            (ty':=ng r.ty nt) (fun u hu=>by
              obtain⟨y1,y2⟩:=zu hu
              obtain rfl:=hnt u y2
              refine⟨⟨_,_,heap_alloc_new w.drew _⟩,fun g K hmg hK=> ?_⟩
              obtain⟨a1,a2⟩:=hold g K hmg hK
              obtain⟨ck,fk,hk⟩:=hr.ty _ y1 hrw g K a1 hK
              exact⟨_,_,(heap_alloc_old w.drew _ (H.lt id g K hK)).trans hk⟩)
           refine⟨_,_,_,hrun, ?_,hgrown.2,hgrown.1,(Gw.drew B w).trans (Gw.alloc H.drew.base (fun _ _ _ e=>by cases e;rfl))⟩
           exact .slc (L:=⟨w.heap.size,0,r.sz,len+new.length,gc⟩) (eO.add_same _ _ _ _) (Nat.le_refl _) (by simp only;omega) (by simp only;omega) hge (fun e=>by cases e) (fun _=>by simp)
         cases hlr:Nat.beq len r.es.length with
         |true=>
          rw[hlr,cond_true] at he;cases he
          have hlr:=bJ.1 hlr
          have:=key r.m (Nat.le_succ_of_le hr.mg) (fun g K hm hK=>⟨hm,by rw[hlr];exact(hr.cells g K hm hK).1⟩)
          rw[List.take_of_length_le (by omega)] at this
          exact this
         |false=>
          rw[hlr,cond_false] at he;cases he
          exact key (r.g+1) (Nat.le_refl _) (fun g K hm hK=>absurd (hr.gen g K hK).1 (by omega))
 ·cases he
theorem Po {t1 t2 ty:TypeId} {x y:Operand} {op:rU} {N:Nat} {ρ:dY} {a:Act} (hR:kI φ N ρ a.tmps) (H:dI P B φ h w) (hc:lX P .append [t1,t2] [x,y]=some op) (he:dz ρ h op=some (v,h')):
 jU P B φ h' v w ((Builtin.append_ #[t1,t2] ty #[a.eval x,a.eval y]).run P w):=by
 simp only[lX] at hc
 split at hc
 ·rename_i p q e d hx hy hu hu2
  split at hc
  ·rename_i sz bytes z hs hb hz
   cases hcc:(Nat.beq z.cells.length sz&&Nat.blt 0 sz) with
   |false=>rw[hcc] at hc;cases hc
   |true=>
    rw[hcc,cond_true] at hc
    simp only[Bool.and_eq_true,bJ,dL] at hcc
    obtain⟨hzl,hsz⟩:=hcc
    obtain⟨zv,it,z1,z2,z3,z4⟩:=jI hz w
    obtain⟨it2,b1,b2,b3⟩:=Ae hb w
    rw[z3] at b3;cases b3
    have hzc:zv.cells.size=sz:=by have:=(jC (φ:=φ) z2).length;simp only[Array.length_toList] at this;omega
    have main:∀(hni:∀k,d≠ .int k) (nt:Option Nat),(∀u,nt=some u→u=e)→(∃sv xv,ev ρ p=some sv∧ev ρ q=some xv∧cK h sz bytes sv xv nt=some (v,h'))→jU P B φ h' v w ((Builtin.append_ #[t1,t2] ty #[a.eval x,a.eval y]).run P w):=by
     intro hni nt hnt hop
     obtain⟨sv,xv,hp,hq,he⟩:=hop
     simp only[cK] at he
     cases h0:Nat.beq sz 0 with
     |true=>rw[h0] at he;cases he
     |false=>
      rw[h0,cond_false] at he
      cases hsrc:source h sz xv with
      |none=>rw[hsrc] at he;cases he
      |some new=>
       rw[hsrc] at he
       simp only at he
       have S:=rA H (dF hR hy hq) hsrc
       obtain⟨nv,n1,n2⟩:=S.first new.length (Nat.le_refl _)
       rw[List.take_of_length_le (Nat.le_refl _)] at n1
       refine BX (zc:=zv.cells) H (dF hR hx hp) hsz hzc S.es S.leaf n1 (fun base sLen sCap=>AY hu hs hu2 hni (S.len P) (n2 P w rfl) base sLen sCap)
        (fun base sLen sCap m1 m2=>Tv hu hs hu2 hni z3 z4 b2 (S.len P) (n2 P) base sLen sCap m1 m2) (fun hl=> ?_) hnt he
       have hz:(d matches .int _)=false:=by cases d<;>first |rfl |exact absurd rfl (hni _)
       have hln:=S.len P w
       rw[hl] at hln
       have hnf:=n2 P w rfl
       rw[hl] at hnf
       simp only[Builtin.append_,List.getElem?_toArray,List.getElem?_cons_zero,List.getElem?_cons_succ,Sem.run_bind,run_underlying hu,run_underlying hu2,Result.andThen_ok,fK hs,Sem.run_pure,hz,Bool.false_eq_true,if_false,hln,
        Nat.add_zero,Nat.le_refl,if_true,Bool.not_false,hnf]
    have two:∀{o:rU} {nt:Option Nat},(∀u,nt=some u→u=e)→(∀k,d≠ .int k)→dz ρ h o=some (v,h')→(dz ρ h o=match ev ρ p,ev ρ q with |some s,some x=>cK h sz bytes s x nt |_,_=>none)→jU P B φ h' v w ((Builtin.append_ #[t1,t2] ty #[a.eval x,a.eval y]).run P w):=by
     intro o nt hnt hni he heq
     rw[heq] at he
     cases hp:ev ρ p with
     |none=>simp[hp] at he
     |some sv=>
      cases hq:ev ρ q with
      |none=>simp[hp,hq] at he
      |some xv=>
       rw[hp,hq] at he
       exact main hni nt hnt ⟨sv,xv,hp,hq,he⟩
    split at hc
    ·cases hb:(zY P e&&Nat.beq sz 1&&Nat.beq bytes 1) with
     |true=>
      rw[hb,cond_true] at hc;cases hc
      simp only[Bool.and_eq_true,bJ] at hb
      obtain⟨⟨_,rfl⟩,rfl⟩:=hb
      exact two (nt:=some e) (fun u hu=>by cases hu;rfl) (fun k hk=>by cases hk) he rfl
     |false=>
      rw[hb,cond_false] at hc;cases hc
      exact two (nt:=none) (fun u hu=>by cases hu) (fun k hk=>by cases hk) he rfl
    ·cases hc
     exact two (nt:=none) (fun u hu=>by cases hu) (fun k hk=>by cases hk) he rfl
    ·rename_i k
     cases hc
     simp only[dz] at he
     cases hp:ev ρ p with
     |none=>simp[hp] at he
     |some sv=>
      cases hq:ev ρ q with
      |none=>simp[hp,hq] at he
      |some xv=>
       rw[hp,hq] at he
       simp only[DR] at he
       cases hcz:(Nat.blt 0 sz&&Nat.beq z.cells.length sz&&aV z.cells) with
       |false=>rw[hcz] at he;cases he
       |true=>
        rw[hcz,cond_true] at he
        simp only[Bool.and_eq_true,dL,bJ] at hcz
        cases hn:asNat xv with
        |none=>rw[hn] at he;cases he
        |some n=>
         rw[hn] at he
         simp only at he
         cases hb2:(Nat.ble n most&&Nat.ble (n*bytes) most) with
         |false=>rw[hb2] at he;cases he
         |true=>
          rw[hb2,cond_true,uT] at he
          simp only[Bool.and_eq_true,bI] at hb2
          obtain⟨hm1,hm2⟩:=hb2
          obtain⟨ki,hki⟩:=jA (dF hR hy hq) hn
          have hlen:(List.replicate n z.cells).length=n:=List.length_replicate
          have hnv:dH φ (List.replicate n z.cells).flatten (List.replicate n zv.cells.toList).flatten:=(jC z2).replicate n
          have hzs:(Builtin.zeroCells zv.cells n)=(List.replicate n zv.cells.toList).flatten.toArray:=by
           have:=wR (z:=zv.cells.toList) (by simp;omega) n
           simpa using this
          unfold most at hm1 hm2
          have hw:IntKind.i64.wrap (n:Int)=n:=IntWalk.i64_in _ ⟨by omega,by omega⟩
          have hz:((TypeDesc.int k) matches .int _)=true:=rfl
          have hti:∀w':World,(typeInfo e).run P w'= .ok it w':=fun w'=>by simp[typeInfo,z3]
          have hzv:∀w':World,(zeroValue e).run P w'= .ok zv w':=fun w'=>by simp[zeroValue,typeInfo,z3,z4]
          have hl0:¬((n:Int)<0):=by omega
          have hby:¬((n:Int)*(it.bytes:Int)>2 ^ 48):=by
           rw[b2]
           have:(n:Int)*(bytes:Int)=((n*bytes:Nat):Int):=by simp
           rw[this];omega
          rw[hki]
          have hap:∀w':World,(if n*sz=0 then(Pure.pure #[]:Sem (Array Value)) else do Pure.pure (Builtin.zeroCells (←zeroValue e).cells n)).run P w'= .ok (List.replicate n zv.cells.toList).flatten.toArray w':=by
           intro w'
           by_cases hn0:n*sz=0
           ·have:n=0:=by rcases Nat.mul_eq_zero.1 hn0 with h1 |h1<;>omega
            subst this
            simp
           ·rw[if_neg hn0];simp[hzv,hzs]
          refine BX (e:=e) (zc:=zv.cells) (new:=List.replicate n z.cells) (nv:=(List.replicate n zv.cells.toList).flatten) H (dF hR hx hp) hsz hzc (fun x hx=>by rw[List.eq_of_mem_replicate hx];exact hzl) (fun x hx=>by rw[List.eq_of_mem_replicate hx];exact hcz.2) hnv ?_ ?_ ?_ (fun u hu=>by cases hu) he
          ·intro base sLen sCap hroom A hA w' hst
           subst hA
           rw[hlen] at hroom ⊢
           simp only[Builtin.append_,List.getElem?_toArray,List.getElem?_cons_zero,List.getElem?_cons_succ,Sem.run_bind,run_underlying hu,run_underlying hu2,Result.andThen_ok,fK hs,Sem.run_pure,asInt,asIntOf,hw,if_true,hl0,if_false,hti,hby,Int.toNat_natCast,hroom,
            Bool.not_true,Bool.false_eq_true,hap,hst]
          ·intro base sLen sCap m1 m2 hgrow ov hov
           rw[hlen] at m1 m2 hgrow ⊢
           unfold most at m1 m2
           have hns:¬(sLen+n≤sCap):=by omega
           have h63:¬((((sLen+n:Nat):Int)>IntKind.i64.max)∧(True∨it.bytes=0)):=by
            rintro⟨h1,_⟩
            have:IntKind.i64.max=9223372036854775807:=by rfl
            rw[this] at h1
            omega
           have h48:¬(Builtin.nextslicecap (sLen+n) sCap*it.bytes>2 ^ 48):=by
            have:=growslice_fits (bytes:=it.bytes) hgrow (by rw[b2];omega)
            omega
           have hq2:(Question.appendCap (sLen+n) sCap e).forced=false:=rfl
           simp only[Builtin.append_,List.getElem?_toArray,List.getElem?_cons_zero,List.getElem?_cons_succ,Sem.run_bind,run_underlying hu,run_underlying hu2,Result.andThen_ok,fK hs,Sem.run_pure,asInt,asIntOf,hw,if_true,hl0,if_false,hti,hby,Int.toNat_natCast,hns,
            Bool.not_true,Bool.false_eq_true,h63,h48,choose,Sem.run,hq2,run_askRoom,World.drew_eq,hov w.drew rfl,hap,hzv]
           simp only[Go.newRow,Sem.run_bind,run_newObj,Result.andThen_ok,Sem.run_pure]
           congr 1
           show World.alloc _ _=World.alloc _ _
           congr 2
           apply Array.ext'
           simp[grownCap,List.append_assoc]
          ·intro hl
           rw[hlen] at hl
           subst hl
           have hw0:IntKind.i64.wrap ((0:Nat):Int)=((0:Nat):Int):=hw
           simp only[Builtin.append_,List.getElem?_toArray,List.getElem?_cons_zero,List.getElem?_cons_succ,Sem.run_bind,run_underlying hu,run_underlying hu2,Result.andThen_ok,fK hs,Sem.run_pure,asInt,asIntOf,hw0,if_true,hl0,if_false,hti,hby,Int.toNat_natCast,
            Nat.add_zero,Nat.le_refl,Bool.not_true,Bool.false_eq_true,hap]
    ·cases hc
  ·cases hc
 ·cases hc
theorem oZ {sz id g st:Nat} {new:List (List AV)} (H:dI P B φ h w) (hne:∀x∈new,x.length=sz) (hnl:∀x∈new,aV x=true) {nv:List Value} (hnv:dH φ new.flatten nv) {L:Loc} (hL:φ id g=some L)
 (he:nO h sz id g st new=some h'):∃w',(storeCells ⟨L.blk,L.base+st*L.sz,none⟩ nv).run P w= .ok () w'∧dI P B φ h' w'∧Gw B w w'∧L.sz=sz:=by
 unfold nO at he
 split at he
 ·rename_i r hget
  have hrow:=aj.row_some.1 hget
  have hr:iC φ id r w:=H.obj id _ hrow
  cases hc:(r.rw&&Nat.beq g r.g&&Nat.beq r.sz sz&&Nat.ble (st+new.length) r.es.length) with
  |false=>rw[hc] at he;cases he
  |true=>
   rw[hc,cond_true] at he;cases he
   simp only[Bool.and_eq_true,bJ,bI] at hc
   obtain⟨⟨⟨hrw,rfl⟩,c3⟩,c4⟩:=hc
   have hLs:L.sz=sz:=by rw[(hr.gen _ L hL).2,c3]
   have hfit:st*r.sz+new.flatten.length≤r.es.length*r.sz:=by
    rw[jP hne,c3, ←Nat.add_mul];exact Nat.mul_le_mul_right _ c4
   obtain⟨w',s1,s2,s3⟩:=yJ H hrow hrw hL hnv (nW hnl) hfit (es':=lay r.es st new)
    (by
      intro x hx
      unfold lay at hx
      rcases List.mem_append.1 hx with hx |hx
      ·rcases List.mem_append.1 hx with hx |hx
       ·exact hr.es x (List.mem_of_mem_take hx)
       ·rw[c3];exact hne x hx
      ·exact hr.es x (List.mem_of_mem_drop hx))
    (mX _ _ _ c4) (by rw[c3];exact FJ (by rw[←c3];exact hr.es) hne _)
    (by
      intro x hx
      unfold lay at hx
      rcases List.mem_append.1 hx with hx |hx
      ·rcases List.mem_append.1 hx with hx |hx
       ·exact hr.leaf x (List.mem_of_mem_take hx)
       ·exact hnl x hx
      ·exact hr.leaf x (List.mem_of_mem_drop hx))
   exact⟨w',by rw[hLs, ←c3];exact s1,s2,s3,hLs⟩
 ·cases he
theorem LV {t1 t2 ty e:TypeId} {sz:Nat} {d s:AV} {cd cs:Value} (H:dI P B φ h w) (hu:P.underlying t1=some (.slice e)) (hs:sizeT P e=some sz) (hd:dn φ d cd) (hss:dn φ s cs) (he:Oi h sz d s=some (v,h')):
 jU P B φ h' v w ((Builtin.copy_ #[t1,t2] ty #[cd,cs]).run P w):=by
 unfold Oi at he
 cases h0:Nat.beq sz 0 with
 |true=>rw[h0] at he;cases he
 |false=>
  rw[h0,cond_false] at he
  have hsz:=Nat.pos_of_ne_zero (fO.1 h0)
  split at he
  ·cases he
  ·rename_i src hsrc
   have S:=rA H hss hsrc
   split at he
   ·cases he;cases hd
    obtain⟨nv,n1,n2⟩:=S.first 0 (Nat.zero_le _)
    refine jU.pure H (cv:= .int .i64 0) ?_ (.int _ _)
    simp[Builtin.copy_,Sem.run_bind,run_underlying hu,S.len P w,fK hs,n2 P w rfl,goInt]
   ·cases he;cases hd
    obtain⟨nv,n1,n2⟩:=S.first 0 (Nat.zero_le _)
    refine jU.pure H (cv:= .int .i64 0) ?_ (.int _ _)
    have hnv0:nv=[]:=by
     have:=n1.length
     exact List.length_eq_zero_iff.1 (by simpa using this.symm)
    subst hnv0
    simp[Builtin.copy_,Sem.run_bind,run_underlying hu,S.len P w,fK hs,n2 P w rfl,goInt,storeCells]
   ·rename_i id g st len cap ex
    cases hd with
    |slc hL h1 h2 h3 h4 h5 h6=>
     rename_i c off L
     have htl:(src.take len).length=Nat.min src.length len:=by rw[List.length_take];exact Nat.min_comm _ _
     obtain⟨nv,n1,n2⟩:=S.first (Nat.min src.length len) (Nat.min_le_left _ _)
     have htk:src.take (Nat.min src.length len)=src.take len:=by
      show src.take (min src.length len)=src.take len
      rcases Nat.le_total src.length len with hh |hh
      ·rw[Nat.min_eq_left hh,List.take_of_length_le (Nat.le_refl _),List.take_of_length_le hh]
      ·rw[Nat.min_eq_right hh]
     rw[htk] at n1
     have hrun:∀w',(storeCells ⟨L.blk,off,none⟩ nv).run P w= .ok () w'→(Builtin.copy_ #[t1,t2] ty #[.slice (some ⟨L.blk,off,none⟩) len c,cs]).run P w= .ok (goInt (Nat.min src.length len)) w':=by
      intro w' hst
      simp only[Builtin.copy_,List.getElem?_toArray,List.getElem?_cons_zero,List.getElem?_cons_succ,Sem.run_bind,run_underlying hu,Result.andThen_ok,S.len P w,fK hs,n2 P w rfl,hst,Sem.run_pure]
     dsimp only at he
     split at he
     ·rename_i hnn
      cases he
      have hnv0:nv=[]:=by
       have:=n1.length
       rw[hnn] at this
       exact List.length_eq_zero_iff.1 (by simpa using this.symm)
      subst hnv0
      refine jU.pure H (hrun w (by simp[storeCells])) ?_
      rw[hnn] at htl
      rw[←htl]
      exact .int _ _
     ·rename_i hnn
      split at he
      ·rename_i h2' hst
       cases he
       have hpos:0<(src.take len).length:=List.length_pos_iff.2 hnn
       have hlen:0<len:=by rw[List.length_take] at hpos;omega
       obtain⟨w',s1,s2,s3,s4⟩:=oZ H (fun x hx=>S.es x (List.mem_of_mem_take hx)) (fun x hx=>S.leaf x (List.mem_of_mem_take hx)) n1 hL hst
       rw[←h6 (by omega)] at s1
       refine⟨_,w',φ,hrun w' s1, ?_,s2,φ.le_refl,s3⟩
       rw[←htl]
       exact .int _ _
      ·cases he
   ·cases he
theorem OJ {t ty e:TypeId} {sz:Nat} {z x:AV} {cx:Value} (H:dI P B φ h w) (hu:P.underlying t=some (.slice e)) (hs:sizeT P e=some sz) (hz:je P e=some z) (hx:dn φ x cx) (he:K6 h sz z.cells x=some h'):
 ∃w',(Builtin.clear_ #[t] ty #[cx]).run P w= .ok (.tuple #[]) w'∧dI P B φ h' w'∧Gw B w w':=by
 unfold K6 at he
 split at he
 ·cases he;cases hx
  exact⟨w,by simp[Builtin.clear_,Sem.run_bind,run_underlying hu],H,Gw.refl B w⟩
 ·cases he;cases hx
  exact⟨w,by simp[Builtin.clear_,Sem.run_bind,run_underlying hu],H,Gw.refl B w⟩
 ·rename_i id g st len cap ex
  cases hx with
  |slc hL h1 h2 h3 h4 h5 h6=>
   rename_i c off L
   cases h0:Nat.beq len 0 with
   |true=>
    rw[h0,cond_true] at he;cases he
    have:=bJ.1 h0;subst this
    exact⟨w,by simp[Builtin.clear_,Sem.run_bind,run_underlying hu],H,Gw.refl B w⟩
   |false=>
    rw[h0,cond_false] at he
    have hpos:=fO.1 h0
    cases hc:(Nat.beq z.cells.length sz&&aV z.cells&&Nat.blt 0 sz) with
    |false=>rw[hc] at he;cases he
    |true=>
     rw[hc,cond_true,uT] at he
     simp only[Bool.and_eq_true,bJ,dL] at hc
     obtain⟨⟨c1,c2⟩,c3⟩:=hc
     obtain⟨zv,it,z1,z2,z3,z4⟩:=jI hz w
     have hzc:zv.cells.size=sz:=by have:=(jC (φ:=φ) z2).length;simp only[Array.length_toList] at this;omega
     obtain⟨w',s1,s2,s3,s4⟩:=oZ H (fun x hx=>by rw[List.eq_of_mem_replicate hx];exact c1) (fun x hx=>by rw[List.eq_of_mem_replicate hx];exact c2) ((jC z2).replicate len) hL he
     rw[←h6 (by omega)] at s1
     refine⟨w', ?_,s2,s3⟩
     have hzs:(Builtin.zeroCells zv.cells len)=(List.replicate len zv.cells.toList).flatten.toArray:=by
      have:=wR (z:=zv.cells.toList) (by simp;omega) len
      simpa using this
     obtain⟨k,rfl⟩:∃k,len=k+1:=⟨len-1,by omega⟩
     simp[Builtin.clear_,Sem.run_bind,run_underlying hu,z1,hzs,s1]
 ·cases he
theorem iB.length {l:List (AV×AV×Nat)} {m:List MapEntry} (hh:iB φ l m):l.length=m.length:=by
 induction hh with
 |nil=>rfl
 |cons _ _ _ _ ih=>simp[ih]
theorem run_getObj_map {r:Nat} {cs:Array MapEntry} {clock:Nat} (hh:w.heap[r]? =some (.map cs clock)):(getObj r).run P w= .ok (.map cs clock) w:=by
 unfold getObj
 simp only[Sem.run,hh]
theorem yP {t ty:TypeId} {k:Nat} {x v:AV} {cx:Value} {d:TypeDesc} (H:dI P B φ h w) (hu:P.underlying t=some d) (hd:(k=0∧d= .string)∨(k=1∧∃e,d= .slice e)∨(k=2∧∃a e,d= .map a e)) (hx:dn φ x cx)
 (he:dw h k x=some v):∃cv,(Builtin.len_ #[t] ty #[cx]).run P w= .ok cv w∧dn φ v cv:=by
 rcases hd with⟨rfl,rfl⟩|⟨rfl,e,rfl⟩|⟨rfl,a,e,rfl⟩
 ·cases x<;>simp only[dw] at he<;>try(cases he;done)
  cases he
  cases hx with
  |str hs=>
   rename_i s b
   exact⟨goInt b.size,by simp[Builtin.len_,Sem.run_bind,run_underlying hu],by rw[tT hs];exact .int _ _⟩
 ·cases x<;>simp only[dw] at he<;>try(cases he;done)
  ·cases he;cases hx
   exact⟨goInt _,by simp[Builtin.len_,Sem.run_bind,run_underlying hu], .int _ _⟩
  ·cases he;cases hx
   exact⟨goInt 0,by simp[Builtin.len_,Sem.run_bind,run_underlying hu], .int _ _⟩
  ·cases he;cases hx
   exact⟨goInt 0,by simp[Builtin.len_,Sem.run_bind,run_underlying hu], .int _ _⟩
 ·cases x<;>simp only[dw] at he<;>try(cases he;done)
  ·rename_i id
   split at he
   ·rename_i es clock hget
    cases he
    cases hx with
    |map hL=>
     obtain⟨L',cs,l1,l2,l3⟩:=H.obj id _ hget
     rw[hL] at l1;cases l1
     refine⟨goInt cs.size, ?_, ?_⟩
     ·simp only[Builtin.len_,List.getElem?_toArray,List.getElem?_cons_zero,Sem.run_bind,run_underlying hu,Result.andThen_ok,run_getObj_map l2,Sem.run_pure]
     ·have:=l3.length
      simp only[Array.length_toList] at this
      rw[←this]
      exact .int _ _
   ·rename_i es clock hget
    cases he
    cases hx with
    |map hL=>
     obtain⟨L',cs,l1,l2,l3⟩:=H.obj id _ hget
     rw[hL] at l1;cases l1
     refine⟨goInt cs.size, ?_, ?_⟩
     ·simp only[Builtin.len_,List.getElem?_toArray,List.getElem?_cons_zero,Sem.run_bind,run_underlying hu,Result.andThen_ok,run_getObj_map l2,Sem.run_pure]
     ·have:=l3.length
      simp only[Array.length_toList] at this
      rw[←this]
      exact .int _ _
   ·cases he
  ·cases he;cases hx
   exact⟨goInt 0,by simp[Builtin.len_,Sem.run_bind,run_underlying hu], .int _ _⟩
theorem foldl_push:∀(bs:List Nat) (r:ByteArray),(∀b∈bs,b<256)→(bs.foldl (fun r n=>r.push (UInt8.ofNat n)) r).data.toList.map UInt8.toNat=r.data.toList.map UInt8.toNat++bs
 | [],r,_=>by simp
 |b :: bs,r,hb=>by
  rw[List.foldl_cons,foldl_push bs _ (fun x hx=>hb x (by simp[hx]))]
  have:b<256:=hb b (by simp)
  simp[ByteArray.push,UInt8.toNat_ofNat',Nat.mod_eq_of_lt this]
theorem pY:∀{l:List (List AV)} {s:List Nat} {nv:List Value},bytesOf l=some s→dH φ l.flatten nv→nv=(s.map fun n:Nat=>(n:Int)).map (Value.int .u8)∧∀b∈s,b<256
 | [],s,nv,hb,hv=>by simp[bytesOf] at hb;subst hb;simp at hv;cases hv;simp
 |e :: l,s,nv,hb,hv=>by
  unfold bytesOf at hb
  split at hb
  ·rename_i heq;cases heq
  ·rename_i n l' heq
   cases heq
   split at hb
   ·rename_i r hr
    cases hc:Nat.blt n 256 with
    |false=>rw[hc] at hb;cases hb
    |true=>
     rw[hc,cond_true] at hb;cases hb
     simp only[List.flatten_cons,List.singleton_append] at hv
     cases hv with
     |cons h1 h2=>
      obtain⟨e1,e2⟩:=pY hr h2
      cases h1
      refine⟨by rw[e1];simp, ?_⟩
      intro b hbm
      rcases List.mem_cons.1 hbm with rfl |hbm
      ·exact dL.1 hc
      ·exact e2 b hbm
   ·cases hb
  ·cases hb
theorem OZ {t1 t2 e:TypeId} {x v:AV} {cx:Value} (H:dI P B φ h w) (hs:P.underlying t1=some (.slice e)) (hd:P.underlying t2=some .string) (hu:P.underlying e=some (.int .u8)) (hx:dn φ x cx) (he:K8 h x=some v):
 ∃cv,(convert t1 t2 cx).run P w= .ok cv w∧dn φ v cv:=by
 unfold K8 at he
 split at he
 ·cases he;cases hx
  exact⟨.string .empty,by simp[convert,Sem.run_bind,run_underlying hs,run_underlying hd,run_underlying hu,Conv.bytesToString], .str (by rfl)⟩
 ·cases he;cases hx
  exact⟨.string .empty,by simp[convert,Sem.run_bind,run_underlying hs,run_underlying hd,run_underlying hu,Conv.bytesToString,loadCells,loadCellsFrom], .str (by rfl)⟩
 ·rename_i id g st len cap ex
  split at he
  ·rename_i l hsrc
   split at he
   ·rename_i s hb
    cases he
    have S:=rA H hx hsrc
    obtain⟨nv,n1,n2⟩:=S.first l.length (Nat.le_refl _)
    rw[List.take_of_length_le (Nat.le_refl _)] at n1
    obtain⟨e1,e2⟩:=pY hb n1
    cases hx with
    |slc hL h1 h2 h3 h4 h5 h6=>
     rename_i c off L
     have hln:=S.len P w
     have hlen:l.length=len:=by
      simp[Builtin.lenOf] at hln
      exact hln.symm
     have hf:=n2 P w rfl
     rw[hlen] at hf
     simp only[Builtin.firstCells,Nat.mul_one] at hf
     rw[e1] at hf
     refine⟨_,(run_convert_bytes_string w t1 t2 e _ _ _ hs hu hd).trans (run_bytesToString w _ len c _ hf), .str ?_⟩
     have hfold:∀(bs:List Nat) (r:ByteArray),(bs.map fun n:Nat=>(n:Int)).foldl (fun r n=>r.push (UInt8.ofNat n.toNat)) r=bs.foldl (fun r n=>r.push (UInt8.ofNat n)) r:=by
      intro bs
      induction bs with
      |nil=>intro r;rfl
      |cons b bs ih=>intro r;simp only[List.map_cons,List.foldl_cons,Int.toNat_natCast,ih]
     rw[hfold,foldl_push _ _ e2]
     simp
   ·cases he
  ·cases he
 ·cases he
theorem Dy {t e:TypeId} {sz bytes:Nat} {z l c:AV} {cl cc:Value} {hp:aj} {ob:iq} (H:dI P B φ h w) (hu:P.underlying t=some (.slice e)) (hs:sizeT P e=some sz) (hb:qP P e=some bytes) (hz:je P e=some z) (hl:dn φ l cl) (hc:dn φ c cc)
 (he:sG hp sz bytes z.cells l c=some (v,hp.push ob)) (hg:B.gh hp.sz=some ob):jU P (B.del hp.sz) φ h v w ((Instr.makeSlice t cl cc).run P w):=by
 unfold sG at he
 split at he
 ·rename_i ln cn e1 e2
  cases hcnd:(Nat.ble ln cn&&Nat.ble (cn*bytes) most&&Nat.ble cn most&&Nat.beq z.cells.length sz&&Nat.blt 0 sz&&aV z.cells) with
  |false=>rw[hcnd] at he;cases he
  |true=>
   rw[hcnd,cond_true,uT] at he
   simp only[Option.some.injEq,Prod.mk.injEq] at he
   obtain⟨rfl,he⟩:=he
   have hob:=push_inj he
   subst hob
   simp only[Bool.and_eq_true,bI,bJ,dL] at hcnd
   obtain⟨⟨⟨⟨⟨c1,c2⟩,c3⟩,c4⟩,c5⟩,c6⟩:=hcnd
   unfold most at c2 c3
   obtain⟨kl,rfl⟩:=jA hl e1
   obtain⟨kc,rfl⟩:=jA hc e2
   obtain⟨zv,it,z1,z2,z3,z4⟩:=jI hz w
   obtain⟨it2,b1,b2,b3⟩:=Ae hb w
   have hzc:zv.cells.size=sz:=by have:=(jC (φ:=φ) z2).length;simp only[Array.length_toList] at this;omega
   have hrep:∀x∈List.replicate cn z.cells,x.length=sz:=fun x hx=>by rw[List.eq_of_mem_replicate hx];exact c4
   obtain⟨φ',p1,p2,p3,p4⟩:=uQ H c5 hrep (fun x hx=>by rw[List.eq_of_mem_replicate hx];exact c6) (vals:=(List.replicate cn zv.cells.toList).flatten) (spare:=[]) ((jC z2).replicate cn) (tot:=cn)
    (by rw[jP (sz:=sz) (fun x hx=>by rw[List.eq_of_mem_replicate hx];simpa using hzc)];simp) e none (fun _ e=>by cases e) hg
   refine⟨.slice (some ⟨w.heap.size,0,none⟩) ln cn,_,φ', ?_, ?_,p3,p1,p4⟩
   ·have hw1:IntKind.i64.wrap (ln:Int)=ln:=IntWalk.i64_in _ ⟨by omega,by omega⟩
    have hw2:IntKind.i64.wrap (cn:Int)=cn:=IntWalk.i64_in _ ⟨by omega,by omega⟩
    have ht:(((cn:Int)<0)||((it2.bytes:Int)*(cn:Int)>2 ^ 48))=false:=by
     rw[b2]
     have e3:(bytes:Int)*(cn:Int)=((cn*bytes:Nat):Int):=by rw[Nat.mul_comm];simp
     rw[e3]
     simp only[Bool.or_eq_false_iff,decide_eq_false_iff_not]
     constructor<;>omega
    have hcond:((((cn:Int)<0)||((it2.bytes:Int)*(cn:Int)>2 ^ 48))||((ln:Int)<0)||((ln:Int)>(cn:Int)))=false:=by
     rw[ht]
     simp only[Bool.false_or,Bool.or_eq_false_iff,decide_eq_false_iff_not]
     constructor<;>omega
    have hzz:(Array.range (cn*sz)).map (zv.cells[· % zv.cells.size]!)=(List.replicate cn zv.cells.toList).flatten.toArray:=by rw[←hzc];exact Cm (by omega) cn
    simp only[Instr.makeSlice,Sem.run_bind,run_underlying hu,Result.andThen_ok,asInt,asIntOf,Sem.run_pure,b1,hw1,hw2,hcond,Bool.false_eq_true,if_false,run_askRoom,fK hs,Int.toNat_natCast]
    by_cases hn:cn*sz=0
    ·have hn0:cn=0:=by rcases Nat.mul_eq_zero.1 hn with h0 |h0<;>omega
     subst hn0
     have e0:∀f:Nat→Value,Array.map f (Array.range 0)= #[]:=fun f=>by simp
     simp[e0,Go.newRow]
    ·rw[if_neg hn]
     simp only[Sem.run_bind,z1,Result.andThen_ok,Sem.run_pure,hzz]
     simp[Go.newRow]
   ·exact .slc p2 c1 (by simp only[List.length_replicate];omega) (by simp only;omega) (Nat.le_refl _) (fun _=>rfl) (fun _=>by simp)
 ·cases he
theorem BJ {sz bytes:Nat} {z:List AV} {l c:AV} (he:sG h sz bytes z l c=some (v,h')):∃ob,h'=h.push ob∧ob.own=true:=by
 unfold sG at he
 split at he
 ·rename_i ln cn e1 e2
  cases hcnd:(Nat.ble ln cn&&Nat.ble (cn*bytes) most&&Nat.ble cn most&&Nat.beq z.length sz&&Nat.blt 0 sz&&aV z) with
  |false=>rw[hcnd] at he;cases he
  |true=>rw[hcnd,cond_true] at he;cases he;exact⟨_,rfl,rfl⟩
 ·cases he
theorem JV {t e:TypeId} {sz bytes:Nat} {z l c:AV} {cl cc:Value} (H:dI P B φ h w) (hu:P.underlying t=some (.slice e)) (hs:sizeT P e=some sz) (hb:qP P e=some bytes) (hz:je P e=some z) (hl:dn φ l cl) (hc:dn φ c cc)
 (he:sG h sz bytes z.cells l c=some (v,h')):jU P B φ h' v w ((Instr.makeSlice t cl cc).run P w):=by
 obtain⟨ob,rfl,_⟩:=BJ he
 have:=Dy (H.pushGhost ob) hu hs hb hz hl hc he (Base.add_same _ _ _)
 rwa [Base.del_add H.noGhost] at this
end
end Go.Ab
