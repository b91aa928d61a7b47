/-
  Texts that the claim hangs on, part 1.
-/
import GoSem.Core.Region
import GoSem.Core.View
import GoSem.Op.Shift
import GoSem.Dispatch
import Derived.WalkKit
import Derived.RangeFuncLeaves
import Derived.RangeFuncRecord
set_option linter.unusedSimpArgs false
set_option linter.unusedVariables false
namespace Go.Ab
inductive L4 where
 |e
 |a (p:L4)
 |b (p:L4)
 |c (p:L4)
 |d (p:L4)
noncomputable def L4.dig (m:Nat) (p:L4):L4:=
 @Nat.rec (fun _=>L4) (.a p) (fun m _=>@Nat.rec (fun _=>L4) (.b p) (fun m _=>@Nat.rec (fun _=>L4) (.c p) (fun _ _=> .d p) m) m) m
noncomputable def YN (f:Nat):Nat→L4:=
 @Nat.rec (fun _=>Nat→L4) (fun _=> .e) (fun _ ih n=>@Nat.rec (fun _=>L4) .e (fun k _=>L4.dig (Nat.mod k 4) (ih (Nat.div k 4))) n) f
noncomputable def path (n:Nat):L4:=YN (Nat.succ n) n
inductive PT (α:Type) where
 |lf
 |nd (v:Option α) (a b c d:PT α)
noncomputable def PT.getL {α:Type} (t:PT α):L4→Option α:=
 @PT.rec α (fun _=>L4→Option α) (fun _=>none) (fun v _ _ _ _ ga gb gc gd p=>@L4.rec (fun _=>Option α) v (fun p _=>ga p) (fun p _=>gb p) (fun p _=>gc p) (fun p _=>gd p) p) t
noncomputable def PT.newL {α:Type} (x:Option α) (p:L4):PT α:=
 @L4.rec (fun _=>PT α) (.nd x .lf .lf .lf .lf) (fun _ r=> .nd none r .lf .lf .lf) (fun _ r=> .nd none .lf r .lf .lf) (fun _ r=> .nd none .lf .lf r .lf) (fun _ r=> .nd none .lf .lf .lf r) p
noncomputable def PT.setL {α:Type} (x:Option α) (t:PT α):L4→PT α:=
 @PT.rec α (fun _=>L4→PT α) (fun p=>PT.newL x p) (fun v a b c d sa sb sc sd p=>
  @L4.rec (fun _=>PT α) (.nd x a b c d) (fun p _=> .nd v (sa p) b c d) (fun p _=> .nd v a (sb p) c d) (fun p _=> .nd v a b (sc p) d) (fun p _=> .nd v a b c (sd p)) p) t
noncomputable def PT.get {α:Type} (t:PT α) (n:Nat):Option α:=t.getL (path n)
noncomputable def PT.setO {α:Type} (t:PT α) (n:Nat) (x:Option α):PT α:=t.setL x (path n)
noncomputable def PT.set {α:Type} (t:PT α) (n:Nat) (x:α):PT α:=t.setL (some x) (path n)
noncomputable section
def nth {α:Type}:List α→Nat→Option α
 | [],_=>none
 |x :: l,n=>match n with |0=>some x |k+1=>nth l k
inductive NG where
 |func (f:Nat)
 |yield (id:Nat)
inductive AV where
 |bool (b:Bool)
 |int (k:IntKind) (n:Int)
 |str (s:List Nat)
 |ptr (id g i o:Nat)
 |nilPtr
 |slc (id g s len cap:Nat) (ex:Bool)
 |au
 |emp
 |map (id:Nat)
 |jH
 |itr (id:Nat)
 |fn (f:NG) (first captured:List AV)
 |nilFn
 |agg (l:List AV)
 |tup (l:List AV)
 |iC
 |ifc (t:Nat) (v:AV)
 |pan (v:AV)
 deriving Inhabited
def iB:AV→Option AV
 | .pan x=>some x
 |_=>none
def AV.cells:AV→List AV
 | .agg l=>l
 |v=>[v]
def AV.leaf:AV→Bool
 | .agg _ | .tup _=>false
 |_=>true
def aB:List AV→Bool
 | []=>true
 |v :: l=>bif v.leaf then aB l else false
inductive bB where
 |t (r:Nat)
 |c (v:AV)
inductive K0 where
 |int |str |bool
inductive KK where
 |leaf (k:K0)
 |st (ks:List K0)
inductive EqK where
 |bool |ptr |slc |map |fn
 |agg (ks:List K0)
 |ifn
inductive dW where
 |mv (x:bB)
 |pick (c a b:bB)
 |alloc (z:List AV)
 |box (ty:Option Nat) (n:Nat) (x:bB)
 |build (z:List AV) (parts:List (Nat×Nat×bB))
 |bslice (n sz:Nat) (z:List AV) (parts:List (Nat×bB))
 |load (ag:Bool) (n:Nat) (a:bB)
 |store (n:Nat) (a v:bB)
 |stw (n:Nat) (a v b:bB)
 |nilck (x:bB)
 |bin (op:BinOp) (x y:bB)
 |eq (neg:Bool) (k:EqK) (x y:bB)
 |not (x:bB)
 |neg (x:bB)
 |conv (k:IntKind) (x:bB)
 |b2s (x:bB)
 |cvs (x:bB)
 |mkfn (f:Nat) (first cap:List bB)
 |mkmap
 |mksl (sz bytes:Nat) (z:List AV) (l c:bB)
 |sl (sz:Nat) (x:bB) (lo hi mx:Option bB)
 |sls (x:bB) (lo hi:Option bB)
 |fadr (off:Nat) (x:bB)
 |fld (ag:Bool) (off n:Nat) (x:bB)
 |iadr (sz:Nat) (x i:bB)
 |iadra (len esz:Nat) (x i:bB)
 |idxs (x i:bB)
 |idxa (ag:Bool) (len esz:Nat) (x i:bB)
 |look (kk:KK) (ok:Bool) (z:AV) (m k:bB)
 |mupd (kk:KK) (m k v:bB)
 |ext (x:bB) (i:Nat)
 |len (k:Nat) (x:bB)
 |cap (x:bB)
 |app (sz bytes:Nat) (s x:bB)
 |appz (sz bytes:Nat) (z:List AV) (s x:bB)
 |copy (sz:Nat) (d s:bB)
 |del (kk:KK) (m k:bB)
 |clr (sz:Nat) (z:List AV) (x:bB)
 |mm (mx:Bool) (xs:List bB)
 |allot (t:Nat) (z:List AV)
 |appb (e:Nat) (s x:bB)
 |uto (x:bB)
 |ufr (t n:Nat) (us:List (Nat×Nat×Nat)) (x:bB)
 |sdat (x:bB)
 |ustr (e:Nat) (p n:bB)
 |rng (x:bB)
 |ent (x:bB)
 |nxt (x:bB)
 |fail
 |call (f:bB) (args:List bB)
 |pnc (x:bB)
 |dfr (f:bB) (args:List bB)
 |rcv
 |mkif (t:Nat) (x:bB)
 |tas (t:Nat) (ok:Bool) (z:AV) (x:bB)
structure aT where
 dst:Option Nat
 op:dW
 grd:Option (Nat×Bool)
inductive Vh where
 |row (es:List (List AV)) (sz g m:Nat) (rw:Bool) (ty:Option Nat)
 |map (es:List (AV×AV×Nat)) (clock:Nat)
 |gvar (b:Nat)
structure Cut where
 rs:List (Nat×AV)
 os:List (Nat×Vh)
 sz:Nat
inductive cZ where
 |skip
 |reg (ops:List aT)
 |dreg (n0:List aT) (rest:List (aT×List aT×List aT))
 |seq (a b:cZ)
 |cond (c:bB) (a b:cZ)
 |block (id:Nat) (c:cZ)
 |loop (c:cZ)
 |rf (f:bB) (ps:List Nat) (asg body:cZ)
 |exit (id:Nat)
 |scope (c:cZ) (l:Nat) (r:cZ)
 |label (l:Nat)
 |goto (l:Nat)
 |ret
 |refuse
 |keep (ks:List Nat) (c:cZ)
 |cut (cs:List Cut) (c:cZ)
inductive Dk where
 |normal
 |ret
 |exit (id:Nat)
 |goto (l:Nat)
 |panic (v:AV)
inductive Kq where
 |ready
 |busy
 |done (x:Dk)
 |exh
structure Row where
 es:List (List AV)
 sz:Nat
 g:Nat
 m:Nat
 rw:Bool
 ty:Option Nat:=none
structure ag7 where
 regs:PT AV
 ps:List Nat
 asg:cZ
 body:cZ
 st:Kq
inductive fC where
 |row (r:Row)
 |map (es:List (AV×AV×Nat)) (clock:Nat)
 |iter (m:Option Nat) (since:Nat) (seen:List Nat) (stepped:Nat)
 |loop (l:ag7)
 |gone
 |rmap (es:List (AV×AV×Nat)) (clock:Nat)
 |dead
 |gvar (b:Nat)
def fC.own:fC→Bool
 | .row r=>r.rw
 | .rmap _ _=>false
 | .dead=>false
 | .gvar _=>false
 |_=>true
structure ah where
 sz:Nat
 t:PT fC
def ah.get (h:ah) (id:Nat):Option fC:=h.t.get id
def ah.put (h:ah) (id:Nat) (o:fC):ah:={h with t:=h.t.set id o}
def ah.push (h:ah) (o:fC):ah:={sz:=h.sz+1,t:=h.t.set h.sz o}
def ah.row (h:ah) (id:Nat):Option Row:=match h.get id with |some (.row r)=>some r |_=>none
def ah.empty:ah:={sz:=0,t:= .lf}
structure St where
 regs:PT AV
 h:ah
abbrev bZ:=PT AV
def ev (ρ:bZ):bB→Option AV
 | .t r=>ρ.get r
 | .c v=>some v
def evs (ρ:bZ):List bB→Option (List AV)
 | []=>some []
 |x :: l=>match ev ρ x with
  |some v=>match evs ρ l with
   |some vs=>some (v :: vs)
   |none=>none
  |none=>none
def nE:IntKind→Nat
 | .i8=>0 | .i16=>1 | .i32=>2 | .i64=>3 | .u8=>4 | .u16=>5 | .u32=>6 | .u64=>7
def IB:IntKind→Int→Bool
 | .i64, .ofNat m=>Nat.ble m 9223372036854775807
 | .i64, .negSucc m=>Nat.ble m 9223372036854775807
 | .u8, .ofNat m=>Nat.ble m 255
 | .u64, .ofNat m=>Nat.ble m 18446744073709551615
 | .i32, .ofNat m=>Nat.ble m 2147483647
 | .u32, .ofNat m=>Nat.ble m 4294967295
 |_,_=>false
def sH (k:IntKind) (n:Int):Int:=bif IB k n then n else k.wrap n
def xH:Int→Int→Bool
 | .ofNat a, .ofNat b=>Nat.blt a b
 | .ofNat _, .negSucc _=>false
 | .negSucc _, .ofNat _=>true
 | .negSucc a, .negSucc b=>Nat.blt b a
def y9:Int→Int→Bool
 | .ofNat a, .ofNat b=>Nat.beq a b
 | .negSucc a, .negSucc b=>Nat.beq a b
 |_,_=>false
def ahx (op:BinOp) (k:IntKind) (x y:Int):Option Int:=
 match op with
 | .and=>some (k.wrap (BitVec.ofInt k.bits x&&& BitVec.ofInt k.bits y).toNat)
 | .or=>some (k.wrap (BitVec.ofInt k.bits x|||BitVec.ofInt k.bits y).toNat)
 | .xor=>some (k.wrap (BitVec.ofInt k.bits x ^^^ BitVec.ofInt k.bits y).toNat)
 | .andNot=>some (k.wrap (BitVec.ofInt k.bits x&&& ~~~ BitVec.ofInt k.bits y).toNat)
 |_=>none
def lQ (op:BinOp) (k:IntKind) (x y:Int):Option AV:=
 match op with
 | .add=>some (.int k (sH k (x+y)))
 | .sub=>some (.int k (sH k (x-y)))
 | .mul=>some (.int k (sH k (x*y)))
 | .quo=>bif y9 y 0 then none else some (.int k (sH k (x.tdiv y)))
 | .rem=>bif y9 y 0 then none else some (.int k (x.tmod y))
 | .eql=>some (.bool (y9 x y))
 | .neq=>some (.bool (!y9 x y))
 | .lss=>some (.bool (xH x y))
 | .leq=>some (.bool (!xH y x))
 | .gtr=>some (.bool (xH y x))
 | .geq=>some (.bool (!xH x y))
 | .shl | .shr=>none
 |op=>match ahx op k x y with
  |some n=>some (.int k n)
  |none=>none
def acr (op:BinOp) (k:IntKind) (x y:Int):Option AV:=
 bif xH y 0 then none else
  match op with
  | .shl=>some (.int k (k.wrap (x*2 ^ (min y.toNat k.bits))))
  | .shr=>some (.int k (x.fdiv (2 ^ (min y.toNat k.bits))))
  |_=>none
def FV:List Nat→List Nat→Bool
 | [],[]=>true
 |a :: l,b :: m=>bif Nat.beq a b then FV l m else false
 |_,_=>false
def NR:List Nat→List Nat→Bool
 |_,[]=>false
 | [],_ :: _=>true
 |a :: x,b :: y=>bif Nat.blt a b then true else bif Nat.beq a b then NR x y else false
def most:Nat:=1099511627776
def Dl (op:BinOp) (x y:List Nat):Option AV:=
 match op with
 | .add=>bif Nat.ble (x.length+y.length) most then some (.str (x++y)) else none
 | .eql=>some (.bool (FV x y))
 | .neq=>some (.bool (!FV x y))
 | .lss=>some (.bool (NR x y))
 | .leq=>some (.bool (NR x y||FV x y))
 | .gtr=>some (.bool (!(NR x y||FV x y)))
 | .geq=>some (.bool (!NR x y))
 |_=>none
def nR:BinOp→Bool
 | .shl | .shr=>true
 |_=>false
def dV (op:BinOp):AV→AV→Option AV
 | .int k a, .int j b=>bif nR op then acr op k a b else bif Nat.beq (nE k) (nE j) then lQ op k a b else none
 | .str a, .str b=>Dl op a b
 |_,_=>none
def vV:AV→AV→Option Bool
 | .bool a, .bool b=>some (a==b)
 | .int k a, .int j b=>bif Nat.beq (nE k) (nE j) then some (y9 a b) else none
 | .str a, .str b=>some (FV a b)
 |_,_=>none
def qh:List AV→List AV→Option Bool
 | [],[]=>some true
 |a :: l,b :: m=>match vV a b with
  |some true=>qh l m
  |some false=>some false
  |none=>none
 |_,_=>none
def sM:K0→AV→Bool
 | .int, .int _ _=>true
 | .str, .str _=>true
 | .bool, .bool _=>true
 |_,_=>false
def vR:List K0→List AV→Bool
 | [],[]=>true
 |k :: ks,v :: l=>bif sM k v then vR ks l else false
 |_,_=>false
def kP:KK→AV→Bool
 | .leaf k,v=>sM k v
 | .st ks, .agg l=>vR ks l
 |_,_=>false
def DL:AV→AV→Option Bool
 | .agg l, .agg m=>qh l m
 |a,b=>vV a b
def adY:AV→AV→Option Bool
 | .bool a, .bool b=>some (a==b)
 |_,_=>none
def Yq (h:ah):AV→AV→Option Bool
 | .nilPtr, .nilPtr=>some true
 | .nilPtr, .ptr .. =>some false
 | .ptr .., .nilPtr=>some false
 | .ptr a g i o, .ptr b g' i' o'=>
   bif Nat.beq a b then
    match h.row a with
    |some r=>bif Nat.beq g r.g&&Nat.beq g' r.g&&Nat.blt o r.sz&&Nat.blt o' r.sz then some (Nat.beq i i'&&Nat.beq o o') else none
    |none=>none
   else match h.row a,h.row b with
    |some r,some r'=>bif r.rw&&r'.rw&&Nat.beq g r.g&&Nat.beq g' r'.g then some false else none
    |_,_=>none
 |_,_=>none
def ag3:AV→AV→Option Bool
 | .au, .au=>some true
 | .slc .., .au=>some false
 | .au, .slc .. =>some false
 | .emp, .au=>some false
 | .au, .emp=>some false
 |_,_=>none
def ahC:AV→AV→Option Bool
 | .jH, .jH=>some true
 | .map _, .jH=>some false
 | .jH, .map _=>some false
 |_,_=>none
def eqFn:AV→AV→Option Bool
 | .nilFn, .nilFn=>some true
 | .fn .., .nilFn=>some false
 | .nilFn, .fn .. =>some false
 |_,_=>none
def aeH (ks:List K0):AV→AV→Option Bool
 | .agg l, .agg m=>bif vR ks l then qh l m else none
 |_,_=>none
def ahj:AV→AV→Option Bool
 | .iC, .iC=>some true
 | .ifc _ _, .iC=>some false
 | .iC, .ifc _ _=>some false
 |_,_=>none
def eqA (h:ah) (k:EqK) (x y:AV):Option Bool:=
 match k with
 | .ifn=>ahj x y
 | .bool=>adY x y
 | .ptr=>Yq h x y
 | .slc=>ag3 x y
 | .map=>ahC x y
 | .fn=>eqFn x y
 | .agg ks=>aeH ks x y
def xV {α:Type}:Nat→α→List α
 |0,_=>[]
 |n+1,x=>x :: xV n x
def mM (ag:Bool) (off n:Nat) (l:List AV):Option AV:=
 bif ag then(bif Nat.ble (off+n) l.length then some (.agg ((l.drop off).take n)) else none)
 else nth l off
def dL (h:ah) (ag:Bool) (n:Nat):AV→Option AV
 | .ptr id g i o=>match h.row id with
   |some r=>bif Nat.ble r.m g then
     (match nth r.es i with
     |some e=>mM ag o n e
     |none=>none)
    else none
   |none=>none
 |_=>none
def mI {α:Type}:List α→Nat→α→List α
 | [],_,_=>[]
 |x :: l,n,y=>match n with |0=>y :: l |k+1=>x :: mI l k y
def lay {α:Type} (l:List α) (n:Nat) (new:List α):List α:=l.take n++new++l.drop (n+new.length)
def bM (h:ah) (n:Nat) (a v:AV):Option ah:=
 match a with
 | .ptr id g i o=>match h.row id with
   |some r=>bif r.rw&&Nat.beq g r.g&&Nat.beq v.cells.length n&&aB v.cells then
     (match nth r.es i with
     |some e=>bif Nat.ble (o+n) e.length then some (h.put id (.row {r with es:=mI r.es i (lay e o v.cells),m:=r.g})) else none
     |none=>none)
    else none
   |none=>bif Nat.beq n 0&&Nat.beq v.cells.length 0 then some h else none
 |_=>none
def sj:AV→AV→Bool
 | .ptr i _ _ _, .ptr j _ _ _=> !Nat.beq i j
 |_,_=>false
def newRow (h:ah) (es:List (List AV)) (sz:Nat) (ty:Option Nat:=none):ah:=h.push (.row {es,sz,g:=0,m:=0,rw:=true,ty})
def qR (h:ah) (z:List AV):Option (AV×ah):=
 bif Nat.beq z.length 0 then some (.ptr h.sz 0 0 0,h.push .gone) else bif aB z then some (.ptr h.sz 0 0 0,newRow h [z] z.length) else none
def pJ:Option Nat→Option Nat→Option Nat
 |some a,some b=>bif Nat.beq a b then some a else none
 |_,_=>none
def mo (h:ah) (ty:Option Nat) (n:Nat) (v:AV):Option (AV×ah):=
 bif Nat.beq v.cells.length n&&aB v.cells&&Nat.blt 0 n then some (.ptr h.sz 0 0 0,newRow h [v.cells] n ty) else none
def yu (ρ:bZ) (cells:List AV):List (Nat×Nat×bB)→Option (List AV)
 | []=>some cells
 |(off,n,x) :: rest=>match ev ρ x with
  |some v=>bif Nat.beq v.cells.length n&&Nat.ble (off+n) cells.length&&aB v.cells then yu ρ (lay cells off v.cells) rest else none
  |none=>none
def kW (ρ:bZ) (sz:Nat) (es:List (List AV)):List (Nat×bB)→Option (List (List AV))
 | []=>some es
 |(i,x) :: rest=>match ev ρ x with
  |some v=>bif Nat.beq v.cells.length sz&&Nat.blt i es.length&&aB v.cells then kW ρ sz (mI es i v.cells) rest else none
  |none=>none
def asNat:AV→Option Nat
 | .int _ (.ofNat n)=>some n
 |_=>none
def oD (ρ:bZ) (d:Nat):Option bB→Option Nat
 |none=>some d
 |some x=>match ev ρ x with
  |some v=>asNat v
  |none=>none
def pK (h:ah) (id sz:Nat):Bool:=
 match h.row id with
 |some r=>Nat.beq r.sz sz
 |none=>false
def GI (ρ:bZ) (h:ah) (sz:Nat) (x:AV) (lo hi mx:Option bB):Option AV:=
 match x with
 | .slc id g s len cap ex=>
   bif pK h id sz then
   match mx with
   |some m=>match oD ρ 0 (some m),oD ρ len hi,oD ρ 0 lo with
    |some m,some h,some l=>bif Nat.ble l h&&Nat.ble h m&&Nat.ble m cap&&hi.isSome then some (.slc id g (s+l) (h-l) (m-l) true) else none
    |_,_,_=>none
   |none=>match oD ρ len hi,oD ρ 0 lo with
    |some h,some l=>bif Nat.ble l h&&Nat.ble h cap then some (.slc id g (s+l) (h-l) (cap-l) ex) else none
    |_,_=>none
   else none
 | .au=>
   match oD ρ 0 mx,oD ρ 0 hi,oD ρ 0 lo with
   |some 0,some 0,some 0=>bif mx.isNone||hi.isSome then some .au else none
   |_,_,_=>none
 | .emp=>
   match oD ρ 0 mx,oD ρ 0 hi,oD ρ 0 lo with
   |some 0,some 0,some 0=>bif mx.isNone||hi.isSome then some .emp else none
   |_,_,_=>none
 |_=>none
def M6 (ρ:bZ) (x:AV) (lo hi:Option bB):Option AV:=
 match x with
 | .str s=>match oD ρ s.length hi,oD ρ 0 lo with
   |some h,some l=>bif Nat.ble l h&&Nat.ble h s.length then some (.str ((s.take h).drop l)) else none
   |_,_=>none
 |_=>none
def source (h:ah) (sz:Nat):AV→Option (List (List AV))
 | .au=>some []
 | .emp=>some []
 | .slc id g s len _ _=>bif Nat.beq len 0 then some [] else match h.row id with
   |some r=>bif Nat.ble r.m g&&Nat.beq r.sz sz then(let l:=(r.es.drop s).take len;bif Nat.beq l.length len then some l else none) else none
   |none=>none
 | .str s=>bif Nat.beq sz 1 then some (s.map fun b=>[.int .u8 (.ofNat b)]) else none
 |_=>none
def gQ (h:ah) (sz bytes:Nat) (s:AV) (new:List (List AV)) (ty:Option Nat:=none):Option (AV×ah):=
 match s with
 | .au=>match new with
   | []=>some (.au,h)
   |_=>bif Nat.ble (new.length*bytes) most&&Nat.ble new.length most then some (.slc h.sz 0 0 new.length new.length false,newRow h new sz ty) else none
 | .emp=>match new with
   | []=>some (.emp,h)
   |_=>bif Nat.ble (new.length*bytes) most&&Nat.ble new.length most then some (.slc h.sz 0 0 new.length new.length false,newRow h new sz ty) else none
 | .slc id g st len cap ex=>
   match new with
   | []=>some (s,h)
   |_=>match h.row id with
    |none=>none
    |some r=>
     bif Nat.ble ((len+new.length)*bytes) most&&Nat.ble (len+new.length) most&&Nat.beq r.sz sz then
      bif Nat.ble (len+new.length) cap then
       (bif r.rw&&Nat.beq g r.g then some (.slc id g st (len+new.length) cap ex,h.put id (.row {r with es:=lay r.es (st+len) new,m:=r.g})) else none)
      else bif ex then
       (bif Nat.ble r.m g then(let old:=(r.es.drop st).take len;bif Nat.beq old.length len then some (.slc h.sz 0 0 (len+new.length) (len+new.length) false,newRow h (old++new) sz ty) else none) else none)
      else bif r.rw&&Nat.beq g r.g&&Nat.beq st 0 then
       (bif Nat.beq len r.es.length then some (.slc id (r.g+1) 0 (len+new.length) (len+new.length) false,h.put id (.row {r with es:=r.es++new,g:=r.g+1,ty:=pJ r.ty ty}))
       else some (.slc id (r.g+1) 0 (len+new.length) (len+new.length) false,h.put id (.row {r with es:=r.es.take len++new,g:=r.g+1,m:=r.g+1,ty:=pJ r.ty ty})))
      else none
     else none
 |_=>none
def gG (h:ah) (sz bytes:Nat) (s x:AV) (ty:Option Nat:=none):Option (AV×ah):=
 bif Nat.beq sz 0 then none else
 match source h sz x with
 |none=>none
 |some new=>gQ h sz bytes s new ty
def Td (h:ah) (sz id g st:Nat) (new:List (List AV)):Option ah:=
 match h.row id with
 |some r=>bif r.rw&&Nat.beq g r.g&&Nat.beq r.sz sz&&Nat.ble (st+new.length) r.es.length then some (h.put id (.row {r with es:=lay r.es st new,m:=r.g})) else none
 |none=>none
def ahA (h:ah) (sz:Nat) (d s:AV):Option (AV×ah):=
 bif Nat.beq sz 0 then none else
 match source h sz s with
 |none=>none
 |some src=>match d with
  | .au=>some (.int .i64 0,h)
  | .emp=>some (.int .i64 0,h)
  | .slc id g st len _ _=>
    let new:=src.take len
    match new with
    | []=>some (.int .i64 0,h)
    |_=>match Td h sz id g st new with
     |some h'=>some (.int .i64 (.ofNat new.length),h')
     |none=>none
  |_=>none
def acu (h:ah) (sz bytes:Nat) (z:List AV) (s x:AV):Option (AV×ah):=
 bif Nat.blt 0 sz&&Nat.beq z.length sz&&aB z then
  (match asNat x with
  |some n=>bif Nat.ble n most&&Nat.ble (n*bytes) most then gQ h sz bytes s (xV n z) else none
  |none=>none)
 else none
def nU (k:AV):List (AV×AV×Nat)→Option (Option AV)
 | []=>some none
 |(k',v,_) :: l=>match DL k k' with
  |some true=>some (some v)
  |some false=>nU k l
  |none=>none
def XB (k v:AV):List (AV×AV×Nat)→List (AV×AV×Nat)
 | []=>[]
 |(k',v',b) :: l=>match DL k k' with
  |some true=>(k,v,b) :: l
  |_=>(k',v',b) :: XB k v l
def acG (k:AV):List (AV×AV×Nat)→List (AV×AV×Nat)
 | []=>[]
 |(k',v',b) :: l=>match DL k k' with
  |some true=>l
  |_=>(k',v',b) :: acG k l
def mapOf (h:ah):AV→Option (List (AV×AV×Nat)×Nat)
 | .map id=>match h.get id with
   |some (.map es c)=>some (es,c)
   |some (.rmap es c)=>some (es,c)
   |_=>none
 | .jH=>some ([],0)
 |_=>none
def uH (h:ah) (kk:KK) (ok:Bool) (z m k:AV):Option AV:=
 bif kP kk k then
  match mapOf h m with
  |some (es,_)=>match nU k es with
   |some (some v)=>some (bif ok then .tup [v, .bool true] else v)
   |some none=>some (bif ok then .tup [z, .bool false] else z)
   |none=>none
  |none=>none
 else none
def lM (h:ah) (kk:KK) (m k v:AV):Option ah:=
 bif kP kk k then
  match m with
  | .map id=>match h.get id with
    |some (.map es c)=>match nU k es with
     |some (some _)=>some (h.put id (.map (XB k v es) c))
     |some none=>some (h.put id (.map (es++[(k,v,c)]) (c+1)))
     |none=>none
    |_=>none
  |_=>none
 else none
def akR (h:ah) (kk:KK) (m k:AV):Option ah:=
 bif kP kk k then
  match m with
  | .jH=>some h
  | .map id=>match h.get id with
    |some (.map es c)=>match nU k es with
     |some (some _)=>some (h.put id (.map (acG k es) c))
     |some none=>some h
     |none=>none
    |_=>none
  |_=>none
 else none
def AP (h:ah) (k:Nat) (x:AV):Option AV:=
 match k,x with
 |0, .str s=>some (.int .i64 (.ofNat s.length))
 |1, .slc _ _ _ n _ _=>some (.int .i64 (.ofNat n))
 |1, .au=>some (.int .i64 0)
 |1, .emp=>some (.int .i64 0)
 |2, .jH=>some (.int .i64 0)
 |2, .map id=>match h.get id with
  |some (.map es _)=>some (.int .i64 (.ofNat es.length))
  |some (.rmap es _)=>some (.int .i64 (.ofNat es.length))
  |_=>none
 |_,_=>none
def akW:AV→Option AV
 | .au=>some (.int .i64 0)
 | .emp=>some (.int .i64 0)
 | .slc _ _ _ _ c true=>some (.int .i64 (.ofNat c))
 |_=>none
def bytesOf:List (List AV)→Option (List Nat)
 | []=>some []
 | [.int .u8 (.ofNat n)] :: l=>match bytesOf l with
   |some r=>bif Nat.blt n 256 then some (n :: r) else none
   |none=>none
 |_=>none
def mmA (mx:Bool):AV→List AV→Option AV
 | .int k a,[]=>some (.int k a)
 | .int k a, .int j b :: l=>bif Nat.beq (nE k) (nE j) then mmA mx (.int k (bif mx then(bif xH a b then b else a) else(bif xH b a then b else a))) l else none
 |_,_=>none
def bT (o:Option AV) (h:ah):Option (AV×ah):=
 match o with
 |some v=>some (v,h)
 |none=>none
def unit (o:Option ah):Option (AV×ah):=
 match o with
 |some h=>some (.tup [],h)
 |none=>none
def qo (ρ:bZ) (x:bB) (f:AV→Option AV):Option AV:=
 match ev ρ x with
 |some v=>f v
 |none=>none
def Ue (ρ:bZ) (x y:bB) (f:AV→AV→Option AV):Option AV:=
 match ev ρ x with
 |some v=>(match ev ρ y with
  |some w=>f v w
  |none=>none)
 |none=>none
def abw:AV→Option AV
 | .bool b=>some (.bool (!b))
 |_=>none
def abF:AV→Option AV
 | .int k n=>some (.int k (sH k (0-n)))
 |_=>none
def ahl (k:IntKind):AV→Option AV
 | .int _ n=>some (.int k (sH k n))
 |_=>none
def akt:AV→Option AV
 | .str s=>some (.str s)
 |_=>none
def FT:AV→Option AV
 | .nilPtr=>none
 | .nilFn=>none
 | .iC=>none
 |v=>some v
def OG (off:Nat):AV→Option AV
 | .ptr id g i o=>some (.ptr id g i (o+off))
 |_=>none
def NA (ag:Bool) (off n:Nat):AV→Option AV
 | .agg l=>mM ag off n l
 |_=>none
def oG (h:ah) (sz:Nat):AV→AV→Option AV
 | .slc id g s len _ _,v=>match asNat v with
   |some i=>bif Nat.blt i len&&pK h id sz then some (.ptr id g (s+i) 0) else none
   |none=>none
 |_,_=>none
def aeI (len esz:Nat):AV→AV→Option AV
 | .ptr id g j o,v=>match asNat v with
   |some i=>bif Nat.blt i len then some (.ptr id g j (o+i*esz)) else none
   |none=>none
 |_,_=>none
def mX:AV→AV→Option AV
 | .str s,v=>match asNat v with
   |some i=>match nth s i with
    |some b=>some (.int .u8 (.ofNat b))
    |none=>none
   |none=>none
 |_,_=>none
def ahh (ag:Bool) (len esz:Nat):AV→AV→Option AV
 | .agg l,v=>match asNat v with
   |some i=>bif Nat.blt i len then mM ag (i*esz) esz l else none
   |none=>none
 |_,_=>none
def WS (i:Nat):AV→Option AV
 | .tup l=>nth l i
 |_=>none
def akr (h:ah) (v:AV):Option AV:=
 match v with
 | .au=>some (.str [])
 | .emp=>some (.str [])
 | .slc .. =>match source h 1 v with
   |some l=>match bytesOf l with
    |some s=>some (.str s)
    |none=>none
   |none=>none
 |_=>none
def Xn (h:ah):AV→Option AV
 | .nilPtr=>some .nilPtr
 | .ptr id g i o=>match h.row id with
   |some r=>bif r.rw&&Nat.ble r.m g&&Nat.beq g r.g&&Nat.blt i r.es.length&&Nat.blt o r.sz then some (.ptr id g i o) else none
   |none=>none
 |_=>none
def FN:List (Nat×Nat×Nat)→Nat→Nat→Nat→Bool
 | [],_,_,_=>false
 |(a,b,c) :: l,u,s,o=>bif Nat.beq a u&&Nat.beq b s&&Nat.beq c o then true else FN l u s o
def V9 (h:ah) (t n:Nat) (us:List (Nat×Nat×Nat)):AV→Option AV
 | .nilPtr=>some .nilPtr
 | .ptr id g i o=>match h.row id with
   |some r=>(match r.ty with
    |some u=>bif r.rw&&Nat.ble r.m g&&Nat.beq g r.g&&Nat.beq i 0&&Nat.blt 0 r.es.length&&((Nat.beq u t&&Nat.beq o 0&&Nat.beq r.sz n)||FN us u r.sz o) then some (.ptr id g i o) else none
    |none=>none)
   |none=>none
 |_=>none
def K5:AV→Option AV
 | .au=>some .nilPtr
 | .slc id g s _ cap _=>bif Nat.blt 0 cap then some (.ptr id g s 0) else none
 |_=>none
def IE (h:ah) (e:Nat) (p n:AV):Option (AV×ah):=
 match n with
 | .int .i64 (.ofNat k)=>match p with
   | .nilPtr=>bif Nat.beq k 0 then some (.str [],h) else none
   | .ptr id g i o=>bif Nat.beq k 0 then some (.str [],h) else
     match h.row id with
     |some r=>(match r.ty with
      |some u=>bif r.rw&&Nat.beq g r.g&&Nat.beq u e&&Nat.beq i 0&&Nat.beq o 0&&Nat.beq r.sz 1&&Nat.ble k most then
        (let l:=r.es.take k
         bif Nat.beq l.length k then
          (match bytesOf l with
          |some s=>some (.str s,h.put id .gone)
          |none=>none)
         else none)
       else none
      |none=>none)
     |none=>none
   |_=>none
 |_=>none
def Eb (h:ah) (sz bytes:Nat) (z:List AV) (l c:AV):Option (AV×ah):=
 match asNat l,asNat c with
 |some l,some c=>bif Nat.ble l c&&Nat.ble (c*bytes) most&&Nat.ble c most&&Nat.beq z.length sz&&Nat.blt 0 sz&&aB z then some (.slc h.sz 0 0 l c true,newRow h (xV c z) sz) else none
 |_,_=>none
def akB (h:ah) (sz:Nat) (z:List AV) (v:AV):Option ah:=
 match v with
 | .au=>some h
 | .emp=>some h
 | .slc id g st len _ _=>bif Nat.beq len 0 then some h else bif Nat.beq z.length sz&&aB z&&Nat.blt 0 sz then Td h sz id g st (xV len z) else none
 |_=>none
def akZ (h:ah) (v:AV):Option (AV×ah):=
 match v with
 | .jH=>some (.itr h.sz,h.push (.iter none 0 [] 0))
 | .map id=>match h.get id with
   |some (.map _ c)=>some (.itr h.sz,h.push (.iter (some id) c [] c))
   |_=>none
 |_=>none
def lY:Nat→List Nat→Bool
 |_,[]=>false
 |n,m :: l=>bif Nat.beq n m then true else lY n l
def akT (es:List (AV×AV×Nat)) (since:Nat) (seen:List Nat):List (Option (AV×AV×Nat)):=
 let left:=es.filter fun e=> !lY e.2.2 seen
 let old:=left.filter fun e=>Nat.blt e.2.2 since
 let new:=left.filter fun e=> !Nat.blt e.2.2 since
 (bif old.isEmpty then [none] else [])++(old++new).map some
def U6 (b:Nat):List (AV×AV×Nat)→Option (AV×AV×Nat)
 | []=>none
 |e :: l=>bif Nat.beq e.2.2 b then some e else U6 b l
def ak2 (h:ah):AV→Option AV
 | .itr id=>match h.get id with
   |some (.iter (some m) _ (b :: _) stepped)=>match h.get m with
    |some (.map es clock)=>bif Nat.beq clock stepped then
      (match U6 b es with
      |some e=>some (.tup [e.1,e.2.1])
      |none=>none)
     else none
    |_=>none
   |_=>none
 |_=>none
def Pm (t:Nat) (v:AV):Option AV:=
 match v with
 | .tup _=>none
 | .pan _=>none
 |v=>some (.ifc t v)
def afr (t:Nat) (ok:Bool) (z:AV):AV→Option AV
 | .ifc u v=>bif Nat.beq u t then some (bif ok then .tup [v, .bool true] else v) else bif ok then some (.tup [z, .bool false]) else none
 | .iC=>bif ok then some (.tup [z, .bool false]) else none
 |_=>none
def aN (ρ:bZ) (h:ah) (op:dW):Option (AV×ah):=
 match op with
 | .mv x=>bT (ev ρ x) h
 | .pick c a b=>match ev ρ c with
   |some (.bool true)=>bT (ev ρ a) h
   |some (.bool false)=>bT (ev ρ b) h
   |_=>none
 | .alloc z=>qR h z
 | .box ty n x=>match ev ρ x with
   |some v=>mo h ty n v
   |none=>none
 | .build z parts=>match yu ρ z parts with
   |some l=>some (.agg l,h)
   |none=>none
 | .bslice n sz z parts=>bif Nat.beq z.length sz&&Nat.blt 0 sz&&Nat.ble (n*sz) 16777216&&aB z then
    (match kW ρ sz (xV n z) parts with
    |some es=>some (.slc h.sz 0 0 n n true,newRow h es sz)
    |none=>none)
   else none
 | .load ag n a=>bT (qo ρ a (dL h ag n)) h
 | .store n a v=>match ev ρ a,ev ρ v with
   |some a,some v=>unit (bM h n a v)
   |_,_=>none
 | .stw n a v b=>match ev ρ a,ev ρ v,ev ρ b with
   |some a,some v,some b=>bif sj a b then unit (bM h n a v) else none
   |_,_,_=>none
 | .nilck x=>bT (qo ρ x FT) h
 | .bin op x y=>bT (Ue ρ x y (dV op)) h
 | .eq neg k x y=>match ev ρ x,ev ρ y with
   |some a,some b=>match eqA h k a b with
    |some r=>some (.bool (bif neg then !r else r),h)
    |none=>none
   |_,_=>none
 | .not x=>bT (qo ρ x abw) h
 | .neg x=>bT (qo ρ x abF) h
 | .conv k x=>bT (qo ρ x (ahl k)) h
 | .b2s x=>bT (qo ρ x (akr h)) h
 | .cvs x=>bT (qo ρ x akt) h
 | .mkfn f first cap=>match evs ρ first,evs ρ cap with
   |some a,some b=>some (.fn (.func f) a b,h)
   |_,_=>none
 | .mkmap=>some (.map h.sz,h.push (.map [] 0))
 | .mksl sz bytes z l c=>match ev ρ l,ev ρ c with
   |some l,some c=>Eb h sz bytes z l c
   |_,_=>none
 | .sl sz x lo hi mx=>bT (qo ρ x fun v=>GI ρ h sz v lo hi mx) h
 | .sls x lo hi=>bT (qo ρ x fun v=>M6 ρ v lo hi) h
 | .fadr off x=>bT (qo ρ x (OG off)) h
 | .fld ag off n x=>bT (qo ρ x (NA ag off n)) h
 | .iadr sz x i=>bT (Ue ρ x i (oG h sz)) h
 | .iadra len esz x i=>bT (Ue ρ x i (aeI len esz)) h
 | .idxs x i=>bT (Ue ρ x i mX) h
 | .idxa ag len esz x i=>bT (Ue ρ x i (ahh ag len esz)) h
 | .look kk ok z m k=>bT (Ue ρ m k (uH h kk ok z)) h
 | .mupd kk m k v=>match ev ρ m,ev ρ k,ev ρ v with
   |some m,some k,some v=>unit (lM h kk m k v)
   |_,_,_=>none
 | .ext x i=>bT (qo ρ x (WS i)) h
 | .len k x=>bT (qo ρ x (AP h k)) h
 | .cap x=>bT (qo ρ x akW) h
 | .app sz bytes s x=>match ev ρ s,ev ρ x with
   |some s,some x=>gG h sz bytes s x
   |_,_=>none
 | .appz sz bytes z s x=>match ev ρ s,ev ρ x with
   |some s,some x=>acu h sz bytes z s x
   |_,_=>none
 | .allot t z=>bif Nat.blt 0 z.length&&aB z then some (.ptr h.sz 0 0 0,newRow h [z] z.length (some t)) else none
 | .appb e s x=>match ev ρ s,ev ρ x with
   |some s,some x=>gG h 1 1 s x (some e)
   |_,_=>none
 | .uto x=>bT (qo ρ x (Xn h)) h
 | .ufr t n us x=>bT (qo ρ x (V9 h t n us)) h
 | .sdat x=>bT (qo ρ x K5) h
 | .ustr e p n=>match ev ρ p,ev ρ n with
   |some p,some n=>IE h e p n
   |_,_=>none
 | .copy sz d s=>match ev ρ d,ev ρ s with
   |some d,some s=>ahA h sz d s
   |_,_=>none
 | .rng x=>match ev ρ x with
   |some v=>akZ h v
   |none=>none
 | .ent x=>bT (qo ρ x (ak2 h)) h
 | .nxt _=>none
 | .del kk m k=>match ev ρ m,ev ρ k with
   |some m,some k=>unit (akR h kk m k)
   |_,_=>none
 | .clr sz z x=>match ev ρ x with
   |some v=>unit (akB h sz z v)
   |none=>none
 | .mm mx xs=>match evs ρ xs with
   |some (v :: l)=>bT (mmA mx v l) h
   |_=>none
 | .mkif t x=>bT (qo ρ x (Pm t)) h
 | .tas t ok z x=>bT (qo ρ x (afr t ok z)) h
 | .fail=>none
 | .call .. =>none
 | .pnc _=>none
 | .dfr .. =>none
 | .rcv=>none
def Rj:NG→NG→Bool
 | .func f, .func g=>Nat.beq f g
 | .yield a, .yield b=>Nat.beq a b
 |_,_=>false
mutual
def AV.same:AV→AV→Bool
 | .bool a, .bool b=>a==b
 | .int k a, .int j b=>Nat.beq (nE k) (nE j)&&y9 a b
 | .str a, .str b=>FV a b
 | .ptr a b c d, .ptr a' b' c' d'=>Nat.beq a a'&&Nat.beq b b'&&Nat.beq c c'&&Nat.beq d d'
 | .nilPtr, .nilPtr=>true
 | .slc a b c d e f, .slc a' b' c' d' e' f'=>Nat.beq a a'&&Nat.beq b b'&&Nat.beq c c'&&Nat.beq d d'&&Nat.beq e e'&&(f==f')
 | .au, .au=>true
 | .emp, .emp=>true
 | .map a, .map b=>Nat.beq a b
 | .jH, .jH=>true
 | .fn f a b, .fn f' a' b'=>Rj f f'&&rT a a'&&rT b b'
 | .nilFn, .nilFn=>true
 | .agg l, .agg m=>rT l m
 | .tup l, .tup m=>rT l m
 | .iC, .iC=>true
 | .ifc t v, .ifc u w=>Nat.beq t u&&AV.same v w
 |_,_=>false
def rT:List AV→List AV→Bool
 | [],[]=>true
 |a :: l,b :: m=>AV.same a b&&rT l m
 |_,_=>false
end
abbrev aK:=AV→ah→Bool
abbrev bg:=NG→List AV→ah→aK→Bool
abbrev KSt:=AV→St→Bool
abbrev ow:=Dk→St→Bool
def put (ρ:bZ) (dst:Option Nat) (v:AV):bZ:=
 match dst with
 |some d=>ρ.set d v
 |none=>ρ
def eO (ρ:bZ):Option (Nat×Bool)→Option Bool
 |none=>some true
 |some (d,b)=>match ρ.get d with
  |some (.bool c)=>some (c==b)
  |some _=>some false
  |none=>none
def Uq (h:ah) (v:AV) (K:aK):Bool:=
 match v with
 | .itr id=>match h.get id with
   |some (.iter none _ _ _)=>K (.tup [.bool false]) h
   |some (.iter (some m) since seen last)=>match h.get m with
    |some (.map es clock)=>
     bif !seen.isEmpty&& !es.isEmpty&&es.all (fun e=> !Nat.blt e.2.2 last) then false
     else(akT es since seen).all fun
      |none=>K (.tup [.bool false]) h
      |some e=>K (.tup [.bool true,e.1,e.2.1]) (h.put id (.iter (some m) since (e.2.2 :: seen) clock))
    |_=>false
   |_=>false
 |_=>false
def gW (call:bg) (ρ:bZ) (h:ah) (op:dW) (K:aK):Bool:=
 match op with
 | .call f args=>match ev ρ f,evs ρ args with
   |some (.fn tgt first cap),some as=>call tgt (first++as++cap) h K
   |_,_=>false
 | .nxt x=>match ev ρ x with
   |some v=>Uq h v K
   |none=>false
 | .pnc x=>match ev ρ x with
   |some (.ifc t v)=>K (.pan (.ifc t v)) h
   |_=>false
 |op=>match aN ρ h op with
  |some (v,h')=>K v h'
  |none=>false
def dI:dW→Bool
 | .call .. =>true
 | .nxt _=>true
 | .pnc _=>true
 | .dfr .. =>true
 | .rcv=>true
 |_=>false
def oL (c:Bool) (v:AV):Option AV:=bif c then iB v else none
def zF (ρ:bZ) (c:Bool) (dst:Option Nat) (v:AV):bZ:=
 match oL c v with
 |some _=>ρ
 |none=>put ρ dst v
def jM (call:bg) (o:aT) (σ:St) (K:KSt):Bool:=
 match eO σ.regs o.grd with
 |some true=>gW call σ.regs σ.h o.op fun v h'=>K v ⟨zF σ.regs (dI o.op) o.dst v,h'⟩
 |some false=>K (.tup []) ⟨put σ.regs o.dst (.tup []),σ.h⟩
 |none=>false
def mR (call:bg):List aT→St→ow→Bool
 | [],σ,K=>K .normal σ
 |o :: l,σ,K=>jM call o σ fun v σ'=>match oL (dI o.op) v with
  |some x=>K (.panic x) σ'
  |none=>mR call l σ' K
def oz:List aT→bZ→ah→Option bZ
 | [],ρ,_=>some ρ
 |o :: l,ρ,h=>match eO ρ o.grd with
  |some true=>(match aN ρ h o.op with
   |some (v,_)=>oz l (put ρ o.dst v) h
   |none=>none)
  |some false=>oz l (put ρ o.dst (.tup [])) h
  |none=>none
def lW (ρ:bZ) (h:ah) (o:aT):Bool:=
 match eO ρ o.grd with
 |some true=>(match aN ρ h o.op with
  |some (v,_)=>(match o.dst with
   |some d=>(match ρ.get d with
    |some u=>AV.same v u
    |none=>false)
   |none=>true)
  |none=>false)
 |some false=>true
 |none=>false
def again (ρ:bZ) (h:ah):List aT→Bool
 | []=>true
 |o :: l=>bif lW ρ h o then again ρ h l else false
def iH (o:aT):Bool:=
 match o.grd with
 |some _=>false
 |none=>match o.op with
  | .alloc _ | .allot _ _ | .box _ _ _ | .mkmap | .mksl _ _ _ _ _ | .bslice _ _ _ _=>true
  |_=>false
def nN:List Nat→ah→Option ah
 | [],h=>some h
 |id :: l,h=>match h.get id with
  |some o=>bif o.own then nN l (h.put id .gone) else none
  |none=>none
def oq (call:bg) (ρ0:bZ):List Nat→List (aT×List aT×List aT)→St→ow→Bool
 |_,[],σ,K=>K .normal σ
 |es,(act,chk,ns) :: rest,σ,K=>jM call act σ fun v σ'=>match oL (dI act.op) v with
  |some x=>(match nN es σ'.h with
   |some h=>K (.panic x) ⟨ρ0,h⟩
   |none=>false)
  |none=>
   bif again σ'.regs σ'.h chk then
    (match oz ns σ'.regs σ'.h with
    |some ρ=>oq call ρ0 (bif iH act then σ.h.sz :: es else es) rest ⟨ρ,σ'.h⟩ K
    |none=>false)
   else false
def unset (ρ:bZ):Option Nat→bZ
 |some d=>ρ.setO d none
 |none=>ρ
def zD:List aT→bZ→bZ
 | [],ρ=>ρ
 |o :: l,ρ=>zD l (unset ρ o.dst)
def BK:List (aT×List aT×List aT)→bZ→bZ
 | [],ρ=>ρ
 |(a,_,ns) :: l,ρ=>BK l (zD ns (unset ρ a.dst))
def iter (f:St→ow→Bool) (K:ow):Nat→St→Bool
 |0,_=>false
 |n+1,σ=>f σ fun x σ'=>match x with
  | .normal=>iter f K n σ'
  |x=>K x σ'
def vJ (l:Nat) (f:St→ow→Bool) (K:ow):Nat→St→Bool
 |0,_=>false
 |n+1,σ=>f σ fun x σ'=>match x with
  | .goto l'=>bif Nat.beq l' l then vJ l f K n σ' else false
  |x=>K x σ'
def keepR:List Nat→bZ→bZ
 | [],_=> .lf
 |k :: ks,ρ=>match ρ.get k with
  |some v=>(keepR ks ρ).set k v
  |none=>keepR ks ρ
def adQ (ρ:bZ):List (Nat×AV)→Bool
 | []=>true
 |(k,v) :: l=>match ρ.get k with
  |some u=>bif AV.same u v then adQ ρ l else false
  |none=>false
def Jt:List (List AV)→List (List AV)→Bool
 | [],[]=>true
 |a :: l,b :: m=>bif rT a b then Jt l m else false
 |_,_=>false
def El:List (AV×AV×Nat)→List (AV×AV×Nat)→Bool
 | [],[]=>true
 |(a,b,n) :: l,(a',b',n') :: m=>bif AV.same a a'&&AV.same b b'&&Nat.beq n n' then El l m else false
 |_,_=>false
def ad4:Option Nat→Option Nat→Bool
 |none,none=>true
 |some a,some b=>Nat.beq a b
 |_,_=>false
def Vh.obj:Vh→fC
 | .row es sz g m rw ty=> .row {es,sz,g,m,rw,ty}
 | .map es c=> .map es c
 | .gvar b=> .gvar b
def Jw (o:fC):Vh→Bool
 | .row es sz g m rw ty=>(match o with
   | .row r=>Jt r.es es&&Nat.beq r.sz sz&&Nat.beq r.g g&&Nat.beq r.m m&&(r.rw==rw)&&ad4 r.ty ty
   |_=>false)
 | .map es c=>(match o with
   | .map es' c'=>El es' es&&Nat.beq c' c
   |_=>false)
 | .gvar b=>(match o with
   | .gvar b'=>Nat.beq b' b
   |_=>false)
def afa (h:ah) (sz:Nat):List (Nat×Vh)→Bool
 | []=>true
 |(k,o) :: l=>match h.get k with
  |some u=>bif Jw u o&&Nat.blt k sz then afa h sz l else false
  |none=>false
def covers (σ:St) (c:Cut):Bool:=bif Nat.ble σ.h.sz c.sz then(bif adQ σ.regs c.rs then afa σ.h c.sz c.os else false) else false
def Vj:List (Nat×AV)→bZ
 | []=> .lf
 |(k,v) :: l=>(Vj l).set k v
def TI:List (Nat×Vh)→PT fC
 | []=> .lf
 |(k,o) :: l=>(TI l).set k o.obj
def Cut.st (c:Cut):St:=⟨Vj c.rs,⟨c.sz,TI c.os⟩⟩
def YZ (σ:St):List Cut→Option Cut
 | []=>none
 |c :: l=>bif covers σ c then some c else YZ σ l
def dh (call:bg) (n:Nat):cZ→St→ow→Bool
 | .skip,σ,K=>K .normal σ
 | .reg ops,σ,K=>mR call ops σ K
 | .dreg n0 rest,σ,K=>match oz n0 σ.regs σ.h with
   |some ρ=>oq call (BK rest (zD n0 σ.regs)) [] rest ⟨ρ,σ.h⟩ K
   |none=>false
 | .seq a b,σ,K=>dh call n a σ fun x σ'=>match x with
   | .normal=>dh call n b σ' K
   |x=>K x σ'
 | .cond c a b,σ,K=>match ev σ.regs c with
   |some (.bool true)=>dh call n a σ K
   |some (.bool false)=>dh call n b σ K
   |_=>false
 | .block id c,σ,K=>dh call n c σ fun x σ'=>match x with
   | .exit i=>bif Nat.beq i id then K .normal σ' else K (.exit i) σ'
   |x=>K x σ'
 | .loop c,σ,K=>iter (dh call n c) K n σ
 | .rf f ps asg body,σ,K=>match ev σ.regs f with
   |some (.fn (.func fid) first cap)=>
    call (.func fid) (first++[.fn (.yield σ.h.sz) [] []]++cap) (σ.h.push (.loop {regs:=σ.regs,ps,asg,body,st:= .ready})) fun v h'=>
     match iB v with
     |some _=>false
     |none=>
     match h'.get σ.h.sz with
     |some (.loop l)=>match l.st with
      | .ready=>K .normal ⟨σ.regs,h'.put σ.h.sz (.loop {l with st:= .exh})⟩
      | .done x=>K x ⟨σ.regs,h'.put σ.h.sz (.loop {l with st:= .exh})⟩
      |_=>false
     |_=>false
   |_=>false
 | .exit id,σ,K=>K (.exit id) σ
 | .scope c l r,σ,K=>dh call n c σ fun x σ'=>match x with
   | .goto l'=>bif Nat.beq l' l then vJ l (dh call n r) K n σ' else false
   |x=>K x σ'
 | .label _,σ,K=>K .normal σ
 | .goto l,σ,K=>K (.goto l) σ
 | .ret,σ,K=>K .ret σ
 | .refuse,_,_=>false
 | .keep ks c,σ,K=>dh call n c ⟨keepR ks σ.regs,σ.h⟩ K
 | .cut cs c,σ,K=>match YZ σ cs with
   |some s=>dh call n c s.st K
   |none=>dh call n c σ K
def strip:cZ→cZ
 | .keep _ c=>strip c
 | .cut _ c=>strip c
 | .seq a b=> .seq (strip a) (strip b)
 | .cond c a b=> .cond c (strip a) (strip b)
 | .block id c=> .block id (strip c)
 | .loop c=> .loop (strip c)
 | .rf f ps asg body=> .rf f ps (strip asg) (strip body)
 | .scope c l r=> .scope (strip c) l (strip r)
 | .skip=> .skip
 | .reg ops=> .reg ops
 | .dreg n0 rest=> .dreg n0 rest
 | .exit id=> .exit id
 | .label l=> .label l
 | .goto l=> .goto l
 | .ret=> .ret
 | .refuse=> .refuse
structure bV where
 np:Nat
 res:List (Nat×Option (Bool×Nat))
 body:cZ
structure Env where
 code:Nat→Option bV
 prim:Nat→Option (bg→Nat→List AV→ah→aK→Bool)
def aP (fn:bV):bV:={fn with body:=strip fn.body}
def mK:Nat→List AV→bZ→bZ
 |_,[],ρ=>ρ
 |i,v :: l,ρ=>mK (i+1) l (ρ.set i v)
def vv (ρ:bZ) (h:ah):Nat×Option (Bool×Nat)→Option AV
 |(t,none)=>ρ.get t
 |(t,some (ag,n))=>match ρ.get t with
  |some a=>dL h ag n a
  |none=>none
def jg (ρ:bZ) (h:ah):List (Nat×Option (Bool×Nat))→Option (List AV)
 | []=>some []
 |r :: l=>match vv ρ h r with
  |some v=>match jg ρ h l with
   |some vs=>some (v :: vs)
   |none=>none
  |none=>none
def oneOf:List AV→AV
 | [v]=>v
 |l=> .tup l
def DX:List Nat→List AV→bZ→Option bZ
 | [],[],ρ=>some ρ
 |p :: ps,v :: vs,ρ=>DX ps vs (ρ.set p v)
 |_,_,_=>none
def ou:cZ→Bool
 | .rf _ _ _ _=>false
 | .seq a b=>ou a&&ou b
 | .cond _ a b=>ou a&&ou b
 | .block _ c=>ou c
 | .loop c=>ou c
 | .scope c _ r=>ou c&&ou r
 | .keep _ c=>ou c
 | .cut _ c=>ou c
 |_=>true
inductive Mode where
 |ret
 |pan (v:AV)
abbrev KMo:=Dk→Bool→St→Bool
def aq3 (μ:Mode) (done:Bool):AV:=
 match μ with
 | .ret=> .iC
 | .pan v=>bif done then .iC else v
def ap2 (μ:Mode) (done:Bool):Bool:=
 match μ with
 | .ret=>done
 | .pan _=>true
def yZ (μ:Mode):List aT→Bool→St→KMo→Bool
 | [],d,σ,K=>K .normal d σ
 |o :: l,d,σ,K=>match eO σ.regs o.grd with
  |some true=>(match o.op with
   | .rcv=>yZ μ l (ap2 μ d) ⟨put σ.regs o.dst (aq3 μ d),σ.h⟩ K
   |op=>match aN σ.regs σ.h op with
    |some (v,h')=>yZ μ l d ⟨put σ.regs o.dst v,h'⟩ K
    |none=>false)
  |some false=>yZ μ l d ⟨put σ.regs o.dst (.tup []),σ.h⟩ K
  |none=>false
def ake:dW→Bool
 | .rcv=>true
 |_=>false
def FR:List aT→Bool
 | []=>false
 |o :: l=>bif ake o.op then true else FR l
def mE (call:bg) (n:Nat) (μ:Mode):cZ→Bool→St→KMo→Bool
 | .seq a b,d,σ,K=>mE call n μ a d σ fun x d' σ'=>match x with
   | .normal=>mE call n μ b d' σ' K
   |x=>K x d' σ'
 | .cond c a b,d,σ,K=>(match ev σ.regs c with
   |some (.bool true)=>mE call n μ a d σ K
   |some (.bool false)=>mE call n μ b d σ K
   |_=>false)
 | .reg ops,d,σ,K=>bif FR ops then yZ μ ops d σ K else dh call n (.reg ops) σ fun x σ'=>K x d σ'
 |c,d,σ,K=>dh call n c σ fun x σ'=>K x d σ'
def settled (μ:Mode) (d:Bool):Mode:=bif d then .ret else μ
abbrev Mf:=Mode→ah→Bool
abbrev ni:=Nat→List AV→Mode→ah→Mf→Bool
def ends (df:ni):List (AV×List AV)→Mode→ah→Mf→Bool
 | [],μ,h,K=>K μ h
 |(f,as) :: l,μ,h,K=>match f with
  | .fn (.func g) first cap=>df g (first++as++cap) μ h fun μ' h'=>ends df l μ' h' K
  |_=>false
def mZ:List aT→Option (List aT×bB×List bB)
 | []=>none
 | [o]=>match o.op,o.grd,o.dst with
   | .dfr f as,none,none=>some ([],f,as)
   |_,_,_=>none
 |o :: l=>match mZ l with
  |some (pre,f,as)=>some (o :: pre,f,as)
  |none=>none
def atEnd (df:ni) (pend:List (AV×List AV)) (x:Dk) (σ:St) (K:Mode→St→Bool):Bool:=
 match x with
 | .normal=>ends df pend .ret σ.h fun μ h=>K μ ⟨σ.regs,h⟩
 | .ret=>ends df pend .ret σ.h fun μ h=>K μ ⟨σ.regs,h⟩
 | .panic v=>ends df pend (.pan v) σ.h fun μ h=>K μ ⟨σ.regs,h⟩
 |_=>false
def runT (call:bg) (df:ni) (n:Nat):cZ→List (AV×List AV)→St→(Mode→St→Bool)→Bool
 | .seq (.reg ops) b,pend,σ,K=>(match mZ ops with
   |some (pre,f,as)=>mR call pre σ fun x σ'=>(match x with
    | .normal=>(match ev σ'.regs f,evs σ'.regs as with
      |some (.fn (.func g) first cap),some vs=>runT call df n b ((.fn (.func g) first cap,vs) :: pend) σ' K
      |_,_=>false)
    |x=>atEnd df pend x σ' K)
   |none=>dh call n (.reg ops) σ fun x σ'=>(match x with
    | .normal=>runT call df n b pend σ' K
    |x=>atEnd df pend x σ' K))
 | .seq a b,pend,σ,K=>dh call n a σ fun x σ'=>(match x with
   | .normal=>runT call df n b pend σ' K
   |x=>atEnd df pend x σ' K)
 |c,pend,σ,K=>dh call n c σ fun x σ'=>atEnd df pend x σ' K
def kT (res:List (Nat×Option (Bool×Nat))) (K:aK) (μ:Mode) (σ:St):Bool:=
 match μ with
 | .ret=>(match jg σ.regs σ.h res with
   |some l=>K (oneOf l) σ.h
   |none=>false)
 | .pan v=>K (.pan v) σ.h
def uF (E:Env) (call:bg) (n:Nat):ni:=fun g args μ h K=>
 match E.prim g with
 |some _=>false
 |none=>match E.code g with
  |none=>false
  |some fn=>bif Nat.beq args.length fn.np&&fn.res.isEmpty&&ou fn.body then
    mE call n μ fn.body false ⟨mK 0 args .lf,h⟩ fun x d σ=>match x with
     | .normal=>K (settled μ d) σ.h
     | .ret=>K (settled μ d) σ.h
     |_=>false
   else false
def ak (E:Env):Nat→bg
 |0=>fun _ _ _ _=>false
 |n+1=>fun tgt args h K=>
  match tgt with
  | .func f=>match E.prim f with
    |some p=>p (ak E n) n args h K
    |none=>match E.code f with
     |none=>false
     |some fn=>bif Nat.beq args.length fn.np then
       runT (ak E n) (uF E (ak E n) n) n fn.body [] ⟨mK 0 args .lf,h⟩ (kT fn.res K)
      else false
  | .yield id=>match h.get id with
    |some (.loop l)=>match l.st with
     | .ready=>match DX l.ps args l.regs with
       |some ρ=>dh (ak E n) n l.asg ⟨ρ,h⟩ fun x σ=>match x with
        | .normal=>(match σ.h.get id with
          |some (.loop l1)=>match l1.st with
           | .ready=>dh (ak E n) n l.body ⟨σ.regs,σ.h.put id (.loop {l1 with st:= .busy})⟩ fun x σ2=>
             match σ2.h.get id with
             |some (.loop l2)=>match x with
              | .normal=>K (.bool true) (σ2.h.put id (.loop {l2 with st:= .ready}))
              | .panic _=>false
              |x=>K (.bool false) (σ2.h.put id (.loop {l2 with st:= .done x}))
             |_=>false
           |_=>false
          |_=>false)
        |_=>false
       |none=>false
     |_=>false
    |_=>false
mutual
def qp:Value→Option AV
 | .bool b=>some (.bool b)
 | .int k n=>some (.int k n)
 | .string s=>some (.str (s.data.toList.map UInt8.toNat))
 | .pointer none=>some .nilPtr
 | .slice none 0 0=>some .au
 | .map none=>some .jH
 | .nilFunc=>some .nilFn
 | .nilIface=>some .iC
 | .agg ⟨l⟩=>match DV l with
   |some r=>some (.agg r)
   |none=>none
 | .tuple ⟨l⟩=>match DV l with
   |some r=>some (.tup r)
   |none=>none
 |_=>none
def DV:List Value→Option (List AV)
 | []=>some []
 |v :: l=>match qp v with
  |some a=>match DV l with
   |some r=>some (a :: r)
   |none=>none
  |none=>none
end
def bH:Operand→Option bB
 | .tmp t=>some (.t t)
 | .const v=>match qp v with
   |some a=>some (.c a)
   |none=>none
 | .global _=>none
 | .func f=>some (.c (.fn (.func f) [] []))
def mD:List Operand→Option (List bB)
 | []=>some []
 |x :: l=>match bH x with
  |some a=>match mD l with
   |some r=>some (a :: r)
   |none=>none
  |none=>none
def Bj:Option Operand→Option (Option bB)
 |none=>some none
 |some x=>match bH x with
  |some a=>some (some a)
  |none=>none
def qm (P:Program) (t:TypeId):Option Bool:=
 match P.underlying t with
 |some (.struct _)=>some true
 |some (.array _ _)=>some true
 |some _=>some false
 |none=>none
def sizeT (P:Program) (t:TypeId):Option Nat:=(P.info? t).map (·.size)
def xI (P:Program) (t:TypeId):Option Nat:=(P.info? t).map (·.bytes)
def jv (P:Program) (t:TypeId):Option AV:=
 match P.info? t with
 |some i=>match i.zero with
  |some z=>qp z
  |none=>none
 |none=>none
def NI (P:Program) (t:TypeId):Option K0:=
 match P.underlying t with
 |some (.int _)=>some .int
 |some .string=>some .str
 |some .bool=>some .bool
 |_=>none
def DW (P:Program):Nat→List Field→Option (List K0)
 |_,[]=>some []
 |n,f :: l=>bif Nat.beq f.offset n&&(f.name != "_") then
   (match NI P f.type with
   |some k=>match DW P (n+1) l with
    |some ks=>some (k :: ks)
    |none=>none
   |none=>none)
  else none
def structOf (P:Program) (t:TypeId):Option (List K0):=
 match P.underlying t with
 |some (.struct fs)=>bif !P.stoodInHeld t&& !P.eqGuardType P.depth t then DW P 0 fs.toList else none
 |_=>none
def yY (P:Program) (t:TypeId):Option KK:=
 match NI P t with
 |some k=>some (.leaf k)
 |none=>match structOf P t with
  |some ks=>some (.st ks)
  |none=>none
def Y7 (P:Program) (t:TypeId):Option EqK:=
 match P.underlying t with
 |some .bool=>some .bool
 |some (.pointer e)=>match sizeT P e with
  |some (_+1)=>some .ptr
  |_=>none
 |some (.slice _)=>some .slc
 |some (.map _ _)=>some .map
 |some (.func _ _ _)=>some .fn
 |some (.interface _)=>some .ifn
 |some (.struct _)=>match structOf P t with
  |some ks=>some (.agg ks)
  |none=>none
 |_=>none
def U5:EqK→Operand→Operand→Bool
 | .ifn, .const _,_=>true
 | .ifn,_, .const _=>true
 | .ifn,_,_=>false
 |_,_,_=>true
def aa2 (P:Program) (t:TypeId) (x y:Operand):Option EqK:=
 match Y7 P t with
 |some k=>bif U5 k x y then some k else none
 |none=>none
def partsOf (places:List (Nat×Nat)):List (Nat×Operand)→Option (List (Nat×Nat×bB))
 | []=>some []
 |(i,x) :: l=>match places[i]? with
  |some (off,n)=>match bH x with
   |some a=>match partsOf places l with
    |some r=>some ((off,n,a) :: r)
    |none=>none
   |none=>none
  |none=>none
def tO (esz:Nat):List (Nat×Operand)→Option (List (Nat×Nat×bB))
 | []=>some []
 |(i,x) :: l=>match bH x with
  |some a=>match tO esz l with
   |some r=>some ((i*esz,esz,a) :: r)
   |none=>none
  |none=>none
def vD:List (Nat×Operand)→Option (List (Nat×bB))
 | []=>some []
 |(i,x) :: l=>match bH x with
  |some a=>match vD l with
   |some r=>some ((i,a) :: r)
   |none=>none
  |none=>none
def ahV (P:Program) (t:TypeId):Bool:=match sizeT P t with |some (_+1)=>true |_=>false
def ajG (P:Program) (t:TypeId):Bool:=match sizeT P t with |some 1=>true |_=>false
def zU (P:Program) (e:TypeId):Bool:=match P.underlying e with |some (.int .u8)=>true |_=>false
def tN (P:Program) (t:TypeId):Bool:=Nat.blt 0 P.depth&&sameLayout P P.depth t t
def oJ:List AV→Bool
 | .nilPtr :: .au :: _=>true
 |_ :: l=>oJ l
 | []=>false
def Lv (P:Program) (t:TypeId):Option Nat:=match jv P t with
 |some z=>bif oJ z.cells then some t else none
 |none=>none
def Fj (t:TypeId):List TypeInfo→Nat→List (Nat×Nat)
 | [],_=>[]
 |i :: l,u=>match i.desc with
  | .struct fs=>(fs.toList.filterMap fun f=>bif Nat.beq f.type t then some (u,f.offset) else none)++Fj t l (u+1)
  |_=>Fj t l (u+1)
def GK (s:List (Nat×Nat)):List TypeInfo→Nat→List (Nat×Nat)
 | [],_=>[]
 |i :: l,u=>match i.desc with
  | .named _ v=>(s.filterMap fun x=>bif Nat.beq x.1 v then some (u,x.2) else none)++GK s l (u+1)
  |_=>GK s l (u+1)
def Mh (P:Program) (t:TypeId) (x:Nat×Nat×Nat):Bool:=
 match P.underlying x.1 with
 |some (.struct fs)=>(match sizeT P x.1 with |some m=>Nat.beq m x.2.1 |none=>false)&& !P.stoodInHeld x.1&&Nat.blt x.2.2 x.2.1&&fs.toList.any fun f=>Nat.beq f.type t&&Nat.beq f.offset x.2.2
 |_=>false
def af3 (P:Program) (t:TypeId):List (Nat×Nat×Nat):=
 let s:=Fj t P.types.toList 0
 ((s++GK s P.types.toList 0).map fun x=>(x.1,P.cellsOf x.1,x.2)).filter (Mh P t)
def oU (P:Program) (b:Builtin) (types:List TypeId) (args:List Operand):Option dW:=
 match b,types,args with
 | .len,[t],[x]=>do
   let a ←bH x
   match P.underlying t with
   |some .string=>pure (.len 0 a)
   |some (.slice _)=>pure (.len 1 a)
   |some (.map _ _)=>pure (.len 2 a)
   |some (.array n _)=>pure (.mv (.c (.int .i64 (.ofNat n))))
   |_=>none
 | .append,[s,t],[x,y]=>
   match bH x,bH y,P.underlying s,P.underlying t with
   |some a,some b,some (.slice e),some d=>match sizeT P e,xI P e,jv P e with
    |some sz,some bytes,some z=>bif Nat.beq z.cells.length sz&&Nat.blt 0 sz then
      (match d with
      | .slice _=>some (bif zU P e&&Nat.beq sz 1&&Nat.beq bytes 1 then .appb e a b else .app sz bytes a b)
      | .string=>some (bif zU P e&&Nat.beq sz 1&&Nat.beq bytes 1 then .appb e a b else .app sz bytes a b)
      | .int _=>some (.appz sz bytes z.cells a b)
      |_=>none)
     else none
    |_,_,_=>none
   |_,_,_,_=>none
 | .unsafeSliceData,[_],[x]=>do pure (.sdat (←bH x))
 | .unsafeString,[t,_],[x,y]=>match bH x,bH y,P.underlying t with
   |some a,some b,some (.pointer e)=>bif zU P e&&ajG P e then some (.ustr e a b) else none
   |_,_,_=>none
 | .max,_,xs=>do pure (.mm true (←mD xs))
 | .min,_,xs=>do pure (.mm false (←mD xs))
 |_,_,_=>none
def kY (P:Program) (op:Op):Option dW:=
 match op with
 | .move x | .assign x=>do pure (.mv (←bH x))
 | .pick c a b=>do pure (.pick (←bH c) (←bH a) (←bH b))
 | .alloc t=>match jv P t with
   |some z=>some (bif oJ z.cells then .allot t z.cells else .alloc z.cells)
   |none=>none
 | .box t x=>do pure (.box (Lv P t) (←sizeT P t) (←bH x))
 | .build t parts=>do
   let z ←jv P t
   match P.underlying t with
   |some (.struct fs)=>pure (.build z.cells (←partsOf (←fs.toList.mapM (fun f=>(P.info? f.type).map fun i=>(f.offset,i.size))) parts.toList))
   |some (.array _ e)=>pure (.build z.cells (←tO (←sizeT P e) parts.toList))
   |_=>none
 | .buildSlice t n parts=>do
   match P.underlying t with
   |some (.slice e)=>pure (.bslice n (←sizeT P e) (←jv P e).cells (←vD parts.toList))
   |_=>none
 | .load t a=>do pure (.load (←qm P t) (←sizeT P t) (←bH a))
 | .store t a v=>do pure (.store (←sizeT P t) (←bH a) (←bH v))
 | .nilCheck x=>do pure (.nilck (←bH x))
 | .binOp op t x y _=>do
   let a ←bH x
   let b ←bH y
   match P.underlying t with
   |some (.int _)|some .string=>pure (.bin op a b)
   |_=>match op with
    | .eql=>do pure (.eq false (←aa2 P t x y) a b)
    | .neq=>do pure (.eq true (←aa2 P t x y) a b)
    |_=>none
 | .unOp op _ x=>do
   let a ←bH x
   match op with
   | .not=>pure (.not a)
   | .neg=>pure (.neg a)
   |_=>none
 | .convert s d x=>do
   let a ←bH x
   match P.underlying s,P.underlying d with
   |some (.pointer t),some .unsafePointer=>bif ahV P t then pure (.uto a) else none
   |some .unsafePointer,some (.pointer t)=>match sizeT P t with
    |some (n+1)=>bif tN P t then pure (.ufr t (n+1) (af3 P t) a) else none
    |_=>none
   |_,_=>none
 | .makeFunc fn first cap=>match fn with
   | .func f=>do pure (.mkfn f (←mD first.toList) (←mD cap.toList))
   |_=>none
 | .makeMap _ r=>match r with
   |none=>some .mkmap
   |some _=>none
 | .makeSlice t l c=>do
   match P.underlying t with
   |some (.slice e)=>pure (.mksl (←sizeT P e) (←xI P e) (←jv P e).cells (←bH l) (←bH c))
   |_=>none
 | .slice t x lo hi mx=>do
   match P.underlying t,mx with
   |some .string,none=>pure (.sls (←bH x) (←Bj lo) (←Bj hi))
   |_,_=>none
 | .fieldAddr s x f=>do
   match P.underlying s with
   |some (.struct fs)=>match fs[f]? with
    |some fl=>match sizeT P fl.type with
     |some (_+1)=>pure (.fadr fl.offset (←bH x))
     |_=>none
    |none=>none
   |_=>none
 | .field s x f=>do
   match P.underlying s with
   |some (.struct fs)=>match fs[f]? with
    |some fl=>pure (.fld (←qm P fl.type) fl.offset (←sizeT P fl.type) (←bH x))
    |none=>none
   |_=>none
 | .indexAddr t x i=>do
   match P.underlying t with
   |some (.slice e)=>pure (.iadr (←sizeT P e) (←bH x) (←bH i))
   |_=>none
 | .index t x i=>do
   match P.underlying t with
   |some .string=>pure (.idxs (←bH x) (←bH i))
   |_=>none
 | .lookup t m k ok=>do
   match P.underlying t with
   |some (.map kt e)=>pure (.look (←yY P kt) ok (←jv P e) (←bH m) (←bH k))
   |_=>none
 | .mapUpdate t m k v=>do
   match P.underlying t with
   |some (.map kt _)=>pure (.mupd (←yY P kt) (←bH m) (←bH k) (←bH v))
   |_=>none
 | .insert t m k v=>do
   match P.underlying t with
   |some (.map kt _)=>pure (.mupd (←yY P kt) (←bH m) (←bH k) (←bH v))
   |_=>none
 | .extract x i=>do pure (.ext (←bH x) i)
 | .call c=>match c.callee with
   | .builtin b=>oU P b c.argTypes.toList c.args.toList
   | .value f=>do pure (.call (←bH f) (←mD c.args.toList))
   | .invoke _ _=>none
 | .makeInterface t x=>match P.underlying t,bH x with
   |some (.interface _),_=>none
   |some _,some a=>some (.mkif t a)
   |_,_=>none
 | .typeAssert x _ t ok=>match P.underlying t,bH x,jv P t with
   |some (.interface _),_,_=>none
   |some _,some a,some z=>some (.tas t ok z a)
   |_,_,_=>none
 |_=>none
def nP (P:Program) (op:Op):Option dW:=
 match kY P op with
 |some a=>bif dI a then none else some a
 |none=>none
def fV (P:Program) (op:Op):Option dW:=
 match op with
 | .call c=>match c.callee with
   | .value f=>match bH f,mD c.args.toList with
     |some g,some as=>some (.call g as)
     |_,_=>none
   | .builtin b=>match b with
     | .recover=>some .rcv
     |_=>nP P op
   |_=>nP P op
 | .panic x=>match bH x with
   |some y=>some (.pnc y)
   |none=>none
 | .defer c=>match c.callee with
   | .value f=>match bH f,mD c.args.toList with
     |some g,some as=>some (.dfr g as)
     |_,_=>none
   |_=>none
 |op=>nP P op
def iZ:dW→Nat
 | .load .. | .look .. | .len .. | .eq .. | .b2s .. | .ent .. | .sl .. | .iadr .. | .uto .. | .ufr .. =>1
 | .alloc _ | .box .. | .bslice .. | .store .. | .stw .. | .mkmap | .mksl .. | .mupd .. | .app .. | .appz .. | .allot .. | .appb .. | .ustr .. | .copy .. | .del .. | .clr .. | .rng .. | .nxt .. | .fail | .call .. | .pnc _ | .dfr .. | .rcv=>2
 |_=>0
def OM (N:Nat):Option Tmp→Bool
 |none=>true
 |some d=>Nat.blt d N
def lG (P:Program) (N:Nat) (ops:Array Oper) (o:Oper):Option aT:=
 bif OM N o.dst then
  match o.guard with
  |none=>some ⟨o.dst,(fV P o.op).getD .fail,none⟩
  |some (j,w)=>match ops[j]? with
   |some g=>match g.dst with
    |some d=>some ⟨o.dst,(fV P o.op).getD .fail,some (d,w)⟩
    |none=>none
   |none=>none
 else none
def eU (P:Program) (N:Nat) (ops:Array Oper):List Oper→Option (List aT)
 | []=>some []
 |o :: l=>match lG P N ops o with
  |some a=>match eU P N ops l with
   |some r=>some (a :: r)
   |none=>none
  |none=>none
def Iu:bB→List Nat
 | .t r=>[r]
 | .c _=>[]
def Vf:List bB→List Nat
 | []=>[]
 |x :: l=>Iu x++Vf l
def O5:Option bB→List Nat
 |none=>[]
 |some x=>Iu x
def tsP:List (Nat×Nat×bB)→List Nat
 | []=>[]
 |(_,_,x) :: l=>Iu x++tsP l
def tsQ:List (Nat×bB)→List Nat
 | []=>[]
 |(_,x) :: l=>Iu x++tsQ l
def tsA:dW→List Nat
 | .mv x | .load _ _ x | .nilck x | .not x | .neg x | .conv _ x | .b2s x | .cvs x | .fadr _ x | .fld _ _ _ x | .ext x _ | .len _ x | .cap x | .clr _ _ x | .rng x | .ent x | .nxt x | .box _ _ x | .uto x | .ufr _ _ _ x | .sdat x=>Iu x
 | .pick c a b=>Iu c++Iu a++Iu b
 | .alloc _ | .allot _ _ | .mkmap | .fail=>[]
 | .build _ ps=>tsP ps
 | .bslice _ _ _ ps=>tsQ ps
 | .store _ x y | .bin _ x y | .eq _ _ x y | .mksl _ _ _ x y | .iadr _ x y | .iadra _ _ x y | .idxs x y | .idxa _ _ _ x y | .look _ _ _ x y | .app _ _ x y | .appb _ x y | .ustr _ x y | .appz _ _ _ x y | .copy _ x y | .del _ x y=>Iu x++Iu y
 | .mkfn _ l m=>Vf l++Vf m
 | .pnc x | .mkif _ x | .tas _ _ _ x=>Iu x
 | .dfr f l=>Iu f++Vf l
 | .rcv=>[]
 | .sl _ x a b c=>Iu x++O5 a++O5 b++O5 c
 | .sls x a b=>Iu x++O5 a++O5 b
 | .mupd _ x y z=>Iu x++Iu y++Iu z
 | .stw _ x y z=>Iu x++Iu y++Iu z
 | .mm _ l=>Vf l
 | .call f l=>Iu f++Vf l
def looks (o:aT):List Nat:=
 match o.grd with
 |some (d,_)=>d :: tsA o.op
 |none=>tsA o.op
def lC (o:aT):List Nat:=
 match o.dst with
 |some d=>[d]
 |none=>[]
def uw (ms:List Nat):List Edge→Nat
 | []=>0
 |e :: l=>bif Region.binds .any e then(uw ms l|||2 ^ e.on)|||((nth ms e.on).getD 0) else uw ms l
def masks:List Oper→List Nat→List Nat
 | [],ms=>ms
 |o :: l,ms=>masks l (ms++[uw ms o.after.toList])
def nop:aT:=⟨none, .fail,none⟩
def ao (as:List aT) (i:Nat):aT:=(nth as i).getD nop
def mk (ms:List Nat) (i:Nat):Nat:=(nth ms i).getD 0
def lH (l:List Nat) (p:Nat→Bool):Bool:=
 match l with
 | []=>true
 |i :: l=>bif p i then lH l p else false
def kD (l m:List Nat):Bool:=lH l fun i=> !lY i m
def kL (as:List aT) (i j:Nat):Bool:=kD (lC (ao as j)) (looks (ao as i))&&kD (lC (ao as j)) (lC (ao as i))
def sZ (as:List aT):List Nat→Bool
 | []=>true
 |i :: l=>bif kD (lC (ao as i)) (looks (ao as i))&&Nat.blt (iZ (ao as i).op) 2&&lH l (kL as i) then sZ as l else false
def agb (as:List aT) (ms:List Nat) (all l:List Nat):Bool:=
 lH all fun j=>lH l fun i=>kD (lC (ao as i)) (looks (ao as j))||(mk ms j).testBit i
abbrev Plan:=List (Nat×List Nat×List Nat)
def om (o:Oper):Bool:=
 match o.guard with
 |some _=>false
 |none=>match o.op with
  | .alloc _ | .box .. | .makeSlice .. | .buildSlice .. =>true
  | .makeMap _ none=>true
  |_=>false
def xP (ops:Array Oper):List Nat:=(List.range ops.size).filter fun i=>match ops[i]? with
 |some o=>om o
 |none=>false
def Zv (o:aT):Bool:=
 match o.dst,o.grd,o.op with
 |none,none, .store .. =>true
 |_,_,_=>false
def Ee (o:aT):Bool:=
 match o.grd,o.op with
 |none, .iadr .. =>true
 |_,_=>false
def oK (as:List aT) (ms:List Nat) (a b:Nat) (chk ns cb:List Nat):Bool:=
 Nat.blt a b&& !(mk ms b).testBit a&&Zv (ao as a)&&Zv (ao as b)&&Nat.beq ns.length 0&&Nat.beq chk.length 0&&lH cb (fun i=>Ee (ao as i))
def aly (x y:aT):aT:=
 match x.op,y.op with
 | .store n a v, .store _ b _=>⟨none, .stw n a v b,none⟩
 |_,_=>x
def jS (as:List aT) (ms:List Nat) (a:Nat) (chk ns:List Nat):Plan→aT
 | []=>ao as a
 |(b,cb,_) :: _=>bif oK as ms a b chk ns cb then aly (ao as a) (ao as b) else ao as a
def opsOf (as:List aT) (ms:List Nat):Plan→List (aT×List aT×List aT)
 | []=>[]
 |(a,c,l) :: rest=>(jS as ms a c l rest,c.map (ao as),l.map (ao as)) :: opsOf as ms rest
def swapAt (as:List aT) (ms el seen:List Nat) (a:Nat) (chk ns:List Nat):Plan→Nat→Bool
 | [],_=>false
 |(b,cb,nb) :: _,c=>Nat.beq b c&&oK as ms a b chk ns cb&& !lY a el&&lH nb (fun j=>(mk ms j).testBit a&&kL as b j)&&lH seen (fun i=>(mk ms a).testBit i||lH nb (kL as i))
def qD (as:List aT) (ms el:List Nat):List Nat→Plan→Bool
 |_,[]=>true
 |seen,(a,chk,ns) :: rest=>
  bif !lY a seen&&sZ as ns
   &&lH ns (fun i=>(mk ms i).testBit a)
   &&lH seen (fun i=>((mk ms a).testBit i&& !lY a el)||(kL as i a&&lH ns (kL as i)&&(Nat.beq (iZ (ao as i).op) 0||Nat.beq (iZ (ao as i).op) 2||lY i chk)))
   &&lH (rest.map (·.1)) (fun b=>(mk ms b).testBit a||lY a el||swapAt as ms el seen a chk ns rest b)
   &&(!lY a el||(kD (lC (ao as a)) (looks (ao as a))&&lH ns (kL as a))) then qD as ms el (seen++a :: ns) rest else false
def gN:Plan→List Nat
 | []=>[]
 |(a,_,ns) :: rest=>a :: ns++gN rest
def Aj:Nat→List Oper→Bool
 |_,[]=>true
 |n,o :: l=>o.after.toList.all (fun e=> !Region.binds .any e||Nat.blt e.on n)&&Aj (n+1) l
def Rk (m:Nat):Nat→List Nat→Nat→Nat
 |_,[],x=>x
 |k,i :: l,x=>Rk m (k+1) l (bif m.testBit i then k else x)
def ajh (as:List aT) (i:Nat):Bool:=
 Nat.beq (iZ (ao as i).op) 2|| !lH (List.range i) fun j=>kD (lC (ao as i)) (looks (ao as j))
def Az:Plan→List Nat
 | []=>[]
 |(_,_,ns) :: rest=>ns++Az rest
def WV (as:List aT) (ms el:List Nat) (all acts:List Nat):Nat→List Nat→Plan
 |_,[]=>[]
 |k,a :: rest=>
  (a,all.filter (fun i=>Nat.beq (iZ (ao as i).op) 1&& !lY i acts&&Nat.blt (Rk (mk ms i) 1 acts 0) k&&(lY a el|| !(mk ms a).testBit i)),
    all.filter (fun i=> !lY i acts&&Nat.beq (Rk (mk ms i) 1 acts 0) k)) :: WV as ms el all acts (k+1) rest
def EK (ms el:List Nat):Nat→List Nat→List Nat
 |0,l=>l
 |n+1,l=>match l.find? (fun i=>lY i el&&lH l fun j=> !(mk ms i).testBit j) with
  |some i=>i :: EK ms el n (l.filter fun j=> !Nat.beq j i)
  |none=>match l with
   | []=>[]
   |a :: r=>a :: EK ms el n r
def PW (as:List aT) (ms el:List Nat) (n:Nat) (ops:List Oper) (n0:List Nat) (pl:Plan):Bool:=
 Nat.beq as.length n&&Aj 0 ops&&sZ as n0&&agb as ms (List.range n) (n0++Az pl++el)&&qD as ms el n0 pl
  &&lH (List.range n) (fun i=>lY i (n0++gN pl))&&lH (n0++gN pl) (fun i=>Nat.blt i n)
def Vk (as:List aT) (ms el:List Nat) (n:Nat) (ops:List Oper) (n0:List Nat) (pl:Plan):Option cZ:=
 bif PW as ms el n ops n0 pl then some (.dreg (n0.map (ao as)) (opsOf as ms pl)) else none
def wO (as:List aT) (ops:Array Oper):Option cZ:=
 let ms:=masks ops.toList []
 let el:=xP ops
 let all:=List.range ops.size
 let acts:=EK ms el ops.size (all.filter (ajh as))
 Vk as ms el ops.size ops.toList (all.filter fun i=> !lY i acts&&Nat.beq (Rk (mk ms i) 1 acts 0) 0) (WV as ms el all acts 1 acts)
def kK:cZ→Nat→Option cZ
 | .seq a b,l=>match kK a l with
   |some rest=>some (.seq rest b)
   |none=>kK b l
 | .label l',l=>if l'==l then some .skip else none
 |_,_=>none
def BZ:cZ→Option Nat
 | .goto l=>some l
 | .seq a b=>match BZ a with
   |some l=>some l
   |none=>BZ b
 | .cond _ a b=>match BZ a with
   |some l=>some l
   |none=>BZ b
 | .block _ c=>BZ c
 | .loop c=>BZ c
 |_=>none
def Qt:cZ→Option Nat
 | .label l=>some l
 | .seq a b=>match Qt a with
   |some l=>some l
   |none=>Qt b
 |_=>none
def WE (x:cZ):Option Nat:=match BZ x with
 |some l=>some l
 |none=>Qt x
def comp (P:Program) (N:Nat):Code→Option cZ
 | .skip=>some .skip
 | .region _ ops draw=>match eU P N ops ops.toList with
   |some as=>bif draw then wO as ops else some (.reg as)
   |none=>none
 | .seq a b=>match comp P N a,comp P N b with
   |some x,some y=>some (.seq x y)
   |_,_=>none
 | .cond c a b=>match bH c,comp P N a,comp P N b with
   |some o,some x,some y=>some (.cond o x y)
   |_,_,_=>none
 | .block id c=>match comp P N c with
   |some x=>some (.block id x)
   |none=>none
 | .loop c=>match comp P N c with
   |some x=>some (.loop x)
   |none=>none
 | .rangeFunc f ps asg body=>match bH f,comp P N asg,comp P N body with
   |some o,some x,some y=>bif ps.toList.all (Nat.blt · N) then some (.rf o ps.toList x y) else none
   |_,_,_=>none
 | .exit id=>some (.exit id)
 | .scope c=>match comp P N c with
   |some x=>match WE x with
    |some l=>match kK x l with
     |some r=>some (.scope x l r)
     |none=>none
    |none=>none
   |none=>none
 | .label l=>some (.label l)
 | .goto l=>some (.goto l)
 | .ret=>some .ret
 | .refuse _=>some .refuse
def Bf (P:Program):List ResultVar→Option (List (Nat×Option (Bool×Nat)))
 | []=>some []
 | .tmp t :: l=>do pure ((t,none) :: (←Bf P l))
 | .cell a t :: l=>do pure ((a,some (←qm P t, ←sizeT P t)) :: (←Bf P l))
def xX (P:Program) (fn:Func):Option bV:=
 match fn.body with
 |none=>none
 |some c=>match comp P fn.ntmps c,Bf P fn.results.toList with
  |some x,some r=>bif fn.name== "runtime.NumGoroutine" then none else some ⟨fn.params.size+fn.nfree,r,x⟩
  |_,_=>none
end
theorem aG {a b:Nat}:Nat.beq a b=true↔a=b:=⟨Nat.eq_of_beq_eq_true,fun h=>by subst h;exact Nat.beq_refl a⟩
theorem dF {a b:Nat}:Nat.beq a b=false↔a≠b:=by
 rw[←Bool.not_eq_true,aG]
theorem aI {a b:Nat}:Nat.ble a b=true↔a≤b:=⟨Nat.le_of_ble_eq_true,Nat.ble_eq_true_of_le⟩
theorem bC {a b:Nat}:Nat.blt a b=true↔a<b:=by unfold Nat.blt;exact aI
def L4.val:L4→Nat
 | .e=>0
 | .a p=>4*p.val+1
 | .b p=>4*p.val+2
 | .c p=>4*p.val+3
 | .d p=>4*p.val+4
theorem L4.val_dig:∀(m:Nat) (p:L4),m<4→(L4.dig m p).val=4*p.val+m+1
 |0,_,_=>rfl
 |1,_,_=>rfl
 |2,_,_=>rfl
 |3,_,_=>rfl
 |_+4,_,h=>by omega
theorem F9:∀(f n:Nat),n<f→(YN f n).val=n
 |0,_,h=>by omega
 |_+1,0,_=>rfl
 |f+1,k+1,h=>by
  have e:YN (f+1) (k+1)=L4.dig (Nat.mod k 4) (YN f (Nat.div k 4)):=rfl;have h1:Nat.div k 4=k/4:=rfl;have h2:Nat.mod k 4=k%4:=rfl;rw[e,h1,h2,L4.val_dig _ _ (Nat.mod_lt _ (by omega)),F9 f (k/4) (by omega)];omega
theorem Ug {n m:Nat} (h:path n=path m):n=m:=by
 have:=congrArg L4.val h;unfold path at this
 rwa [F9 _ _ (Nat.lt_succ_self n),F9 _ _ (Nat.lt_succ_self m)] at this
section
variable {α:Type}
theorem PT.getL_newL (x:Option α):∀p:L4,(PT.newL x p).getL p=x
 | .e=>rfl
 | .a p=>PT.getL_newL x p
 | .b p=>PT.getL_newL x p
 | .c p=>PT.getL_newL x p
 | .d p=>PT.getL_newL x p
theorem PT.getL_newL_ne (x:Option α):∀p q:L4,q≠p→(PT.newL x p).getL q=none
 | .e, .e,h=>absurd rfl h
 | .e, .a _,_ | .e, .b _,_ | .e, .c _,_ | .e, .d _,_=>rfl
 | .a p, .a q,h=>PT.getL_newL_ne x p q fun e=>h (congrArg _ e)
 | .b p, .b q,h=>PT.getL_newL_ne x p q fun e=>h (congrArg _ e)
 | .c p, .c q,h=>PT.getL_newL_ne x p q fun e=>h (congrArg _ e)
 | .d p, .d q,h=>PT.getL_newL_ne x p q fun e=>h (congrArg _ e)
 | .a _, .e,_ | .b _, .e,_ | .c _, .e,_ | .d _, .e,_=>rfl
 | .a _, .b _,_ | .a _, .c _,_ | .a _, .d _,_ | .b _, .a _,_ | .b _, .c _,_ | .b _, .d _,_=>rfl
 | .c _, .a _,_ | .c _, .b _,_ | .c _, .d _,_ | .d _, .a _,_ | .d _, .b _,_ | .d _, .c _,_=>rfl
theorem PT.getL_setL (x:Option α):∀(t:PT α) (p:L4),(t.setL x p).getL p=x
 | .lf,p=>PT.getL_newL x p
 | .nd _ _ _ _ _, .e=>rfl
 | .nd _ t _ _ _, .a p=>PT.getL_setL x t p
 | .nd _ _ t _ _, .b p=>PT.getL_setL x t p
 | .nd _ _ _ t _, .c p=>PT.getL_setL x t p
 | .nd _ _ _ _ t, .d p=>PT.getL_setL x t p
theorem PT.getL_setL_ne (x:Option α):∀(t:PT α) (p q:L4),q≠p→(t.setL x p).getL q=t.getL q
 | .lf,p,q,h=>PT.getL_newL_ne x p q h
 | .nd _ _ _ _ _, .e, .e,h=>absurd rfl h
 | .nd _ _ _ _ _, .e, .a _,_ | .nd _ _ _ _ _, .e, .b _,_ | .nd _ _ _ _ _, .e, .c _,_ | .nd _ _ _ _ _, .e, .d _,_=>rfl
 | .nd _ t _ _ _, .a p, .a q,h=>PT.getL_setL_ne x t p q fun e=>h (congrArg _ e)
 | .nd _ _ t _ _, .b p, .b q,h=>PT.getL_setL_ne x t p q fun e=>h (congrArg _ e)
 | .nd _ _ _ t _, .c p, .c q,h=>PT.getL_setL_ne x t p q fun e=>h (congrArg _ e)
 | .nd _ _ _ _ t, .d p, .d q,h=>PT.getL_setL_ne x t p q fun e=>h (congrArg _ e)
 | .nd _ _ _ _ _, .a _, .e,_ | .nd _ _ _ _ _, .b _, .e,_ | .nd _ _ _ _ _, .c _, .e,_ | .nd _ _ _ _ _, .d _, .e,_=>rfl
 | .nd _ _ _ _ _, .a _, .b _,_ | .nd _ _ _ _ _, .a _, .c _,_ | .nd _ _ _ _ _, .a _, .d _,_=>rfl
 | .nd _ _ _ _ _, .b _, .a _,_ | .nd _ _ _ _ _, .b _, .c _,_ | .nd _ _ _ _ _, .b _, .d _,_=>rfl
 | .nd _ _ _ _ _, .c _, .a _,_ | .nd _ _ _ _ _, .c _, .b _,_ | .nd _ _ _ _ _, .c _, .d _,_=>rfl
 | .nd _ _ _ _ _, .d _, .a _,_ | .nd _ _ _ _ _, .d _, .b _,_ | .nd _ _ _ _ _, .d _, .c _,_=>rfl
theorem PT.setL_new_comm (x y:Option α):∀(p q:L4),p≠q→(PT.newL y q).setL x p=(PT.newL x p).setL y q
 | .e, .e,h=>absurd rfl h
 | .e, .a _,_ | .e, .b _,_ | .e, .c _,_ | .e, .d _,_=>rfl
 | .a p, .a q,h=>congrArg (fun r=>PT.nd none r .lf .lf .lf) (PT.setL_new_comm x y p q fun e=>h (congrArg _ e))
 | .b p, .b q,h=>congrArg (fun r=>PT.nd none .lf r .lf .lf) (PT.setL_new_comm x y p q fun e=>h (congrArg _ e))
 | .c p, .c q,h=>congrArg (fun r=>PT.nd none .lf .lf r .lf) (PT.setL_new_comm x y p q fun e=>h (congrArg _ e))
 | .d p, .d q,h=>congrArg (fun r=>PT.nd none .lf .lf .lf r) (PT.setL_new_comm x y p q fun e=>h (congrArg _ e))
 | .a _, .e,_ | .b _, .e,_ | .c _, .e,_ | .d _, .e,_=>rfl
 | .a _, .b _,_ | .a _, .c _,_ | .a _, .d _,_ | .b _, .a _,_ | .b _, .c _,_ | .b _, .d _,_=>rfl
 | .c _, .a _,_ | .c _, .b _,_ | .c _, .d _,_ | .d _, .a _,_ | .d _, .b _,_ | .d _, .c _,_=>rfl
theorem PT.setL_comm (x y:Option α):∀(t:PT α) (p q:L4),p≠q→(t.setL y q).setL x p=(t.setL x p).setL y q
 | .lf,p,q,h=>PT.setL_new_comm x y p q h
 | .nd _ _ _ _ _, .e, .e,h=>absurd rfl h
 | .nd _ _ _ _ _, .e, .a _,_ | .nd _ _ _ _ _, .e, .b _,_ | .nd _ _ _ _ _, .e, .c _,_ | .nd _ _ _ _ _, .e, .d _,_=>rfl
 | .nd v t b c d, .a p, .a q,h=>congrArg (fun r=>PT.nd v r b c d) (PT.setL_comm x y t p q fun e=>h (congrArg _ e))
 | .nd v a t c d, .b p, .b q,h=>congrArg (fun r=>PT.nd v a r c d) (PT.setL_comm x y t p q fun e=>h (congrArg _ e))
 | .nd v a b t d, .c p, .c q,h=>congrArg (fun r=>PT.nd v a b r d) (PT.setL_comm x y t p q fun e=>h (congrArg _ e))
 | .nd v a b c t, .d p, .d q,h=>congrArg (fun r=>PT.nd v a b c r) (PT.setL_comm x y t p q fun e=>h (congrArg _ e))
 | .nd _ _ _ _ _, .a _, .e,_ | .nd _ _ _ _ _, .b _, .e,_ | .nd _ _ _ _ _, .c _, .e,_ | .nd _ _ _ _ _, .d _, .e,_=>rfl
 | .nd _ _ _ _ _, .a _, .b _,_ | .nd _ _ _ _ _, .a _, .c _,_ | .nd _ _ _ _ _, .a _, .d _,_=>rfl
 | .nd _ _ _ _ _, .b _, .a _,_ | .nd _ _ _ _ _, .b _, .c _,_ | .nd _ _ _ _ _, .b _, .d _,_=>rfl
 | .nd _ _ _ _ _, .c _, .a _,_ | .nd _ _ _ _ _, .c _, .b _,_ | .nd _ _ _ _ _, .c _, .d _,_=>rfl
 | .nd _ _ _ _ _, .d _, .a _,_ | .nd _ _ _ _ _, .d _, .b _,_ | .nd _ _ _ _ _, .d _, .c _,_=>rfl
theorem PT.get_lf (n:Nat):(PT.lf:PT α).get n=none:=rfl
theorem PT.get_setO (t:PT α) (n m:Nat) (x:Option α):(t.setO n x).get m=if m=n then x else t.get m:=by
 by_cases h:m=n
 ·subst h;rw[if_pos rfl];exact PT.getL_setL x t (path m)
 ·rw[if_neg h];exact PT.getL_setL_ne x t (path n) (path m) fun e=>h (Ug e)
theorem PT.get_set (t:PT α) (n m:Nat) (x:α):(t.set n x).get m=if m=n then some x else t.get m:=PT.get_setO t n m (some x)
theorem PT.set_comm (t:PT α) {n m:Nat} (x y:α) (h:n≠m):(t.set m y).set n x=(t.set n x).set m y:=
 PT.setL_comm (some x) (some y) t (path n) (path m) fun e=>h (Ug e)
end
theorem nk {α:Type}:∀(l:List α) (n:Nat),nth l n=l[n]?
 | [],_=>by simp[nth]
 |x :: l,0=>by simp[nth]
 |x :: l,n+1=>by simp[nth,nk l n]
theorem wD {α:Type}:∀(l:List α) (n:Nat) (y:α),mI l n y=l.set n y
 | [],_,_=>by simp[mI]
 |x :: l,0,y=>by simp[mI]
 |x :: l,n+1,y=>by simp[mI,wD l n y]
theorem D7 {α:Type}:∀(n:Nat) (x:α),xV n x=List.replicate n x
 |0,_=>rfl
 |n+1,x=>by simp[xV,D7 n x,List.replicate_succ]
theorem ah.get_put (h:ah) (id j:Nat) (o:fC):(h.put id o).get j=if j=id then some o else h.get j:=PT.get_set _ _ _ _
theorem ah.get_push (h:ah) (j:Nat) (o:fC):(h.push o).get j=if j=h.sz then some o else h.get j:=PT.get_set _ _ _ _
@[simp] theorem ah.sz_put (h:ah) (id:Nat) (o:fC):(h.put id o).sz=h.sz:=rfl
@[simp] theorem ah.sz_push (h:ah) (o:fC):(h.push o).sz=h.sz+1:=rfl
theorem ah.row_some {h:ah} {id:Nat} {r:Row}:h.row id=some r↔h.get id=some (.row r):=by
 unfold ah.row;constructor
 ·intro e;split at e
  ·rename_i r' hr;cases e;exact hr
  ·cases e
 ·intro e;rw[e]
structure Loc where
 blk:Nat
 base:Nat
 sz:Nat
 ext:Nat
 tot:Nat
abbrev dD:=Nat→Nat→Option Loc
mutual
inductive bG (φ:dD):AV→Value→Prop
 |bool (b:Bool):bG φ (.bool b) (.bool b)
 |int (k:IntKind) (n:Int):bG φ (.int k n) (.int k n)
 |str {l:List Nat} {s:ByteArray} (h:s.data.toList.map UInt8.toNat=l):bG φ (.str l) (.string s)
 |ptr {id g i o:Nat} {L:Loc} (h:φ id g=some L) (hi:i<L.ext):bG φ (.ptr id g i o) (.pointer (some ⟨L.blk,L.base+i*L.sz+o,none⟩))
 |nilPtr:bG φ .nilPtr (.pointer none)
 |slc {id g s len cap c off:Nat} {ex:Bool} {L:Loc} (h:φ id g=some L) (h1:len≤cap) (h2:s+cap≤L.ext) (h3:s+c≤L.tot) (h4:cap≤c) (h5:ex=true→c=cap) (h6:0<c→off=L.base+s*L.sz):
   bG φ (.slc id g s len cap ex) (.slice (some ⟨L.blk,off,none⟩) len c)
 |au:bG φ .au (.slice none 0 0)
 |emp {A:Addr}:bG φ .emp (.slice (some A) 0 0)
 |map {id:Nat} {L:Loc} (h:φ id 0=some L):bG φ (.map id) (.map (some L.blk))
 |jH:bG φ .jH (.map none)
 |itr {id:Nat} {L:Loc} (h:φ id 0=some L):bG φ (.itr id) (.pointer (some ⟨L.blk,0,none⟩))
 |func {f:Nat} {a b:List AV} {a' b':List Value} (ha:bQ φ a a') (hb:bQ φ b b'):bG φ (.fn (.func f) a b) (.func (.func f) ⟨a'⟩ ⟨b'⟩)
 |yield {id:Nat} {L:Loc} (h:φ id 0=some L):bG φ (.fn (.yield id) [] []) (.func (.yield L.blk) #[] #[])
 |nilFn:bG φ .nilFn .nilFunc
 |agg {l:List AV} {l':List Value} (h:bQ φ l l'):bG φ (.agg l) (.agg ⟨l'⟩)
 |tup {l:List AV} {l':List Value} (h:bQ φ l l'):bG φ (.tup l) (.tuple ⟨l'⟩)
 |iC:bG φ .iC .nilIface
 |ifc {t:Nat} {a:AV} {v:Value} (h:bG φ a v):bG φ (.ifc t a) (.iface t v)
inductive bQ (φ:dD):List AV→List Value→Prop
 |nil:bQ φ [] []
 |cons {a:AV} {l:List AV} {v:Value} {m:List Value} (h:bG φ a v) (t:bQ φ l m):bQ φ (a :: l) (v :: m)
end
def dD.le (φ ψ:dD):Prop:=∀id g L,φ id g=some L→ψ id g=some L
theorem dD.le_refl (φ:dD):φ.le φ:=fun _ _ _ h=>h
theorem dD.le_trans {φ ψ χ:dD} (h:φ.le ψ) (k:ψ.le χ):φ.le χ:=fun _ _ _ e=>k _ _ _ (h _ _ _ e)
mutual
theorem bG.mono {φ ψ:dD} (hle:φ.le ψ):∀{a:AV} {v:Value},bG φ a v→bG ψ a v
 |_,_, .bool b=> .bool b
 |_,_, .int k n=> .int k n
 |_,_, .str h=> .str h
 |_,_, .ptr h hi=> .ptr (hle _ _ _ h) hi
 |_,_, .nilPtr=> .nilPtr
 |_,_, .slc h h1 h2 h3 h4 h5 h6=> .slc (hle _ _ _ h) h1 h2 h3 h4 h5 h6
 |_,_, .au=> .au
 |_,_, .emp=> .emp
 |_,_, .map h=> .map (hle _ _ _ h)
 |_,_, .jH=> .jH
 |_,_, .itr h=> .itr (hle _ _ _ h)
 |_,_, .func ha hb=> .func (bQ.mono hle ha) (bQ.mono hle hb)
 |_,_, .yield h=> .yield (hle _ _ _ h)
 |_,_, .nilFn=> .nilFn
 |_,_, .agg h=> .agg (bQ.mono hle h)
 |_,_, .tup h=> .tup (bQ.mono hle h)
 |_,_, .iC=> .iC
 |_,_, .ifc h=> .ifc (bG.mono hle h)
theorem bQ.mono {φ ψ:dD} (hle:φ.le ψ):∀{l:List AV} {m:List Value},bQ φ l m→bQ ψ l m
 |_,_, .nil=> .nil
 |_,_, .cons h t=> .cons (bG.mono hle h) (bQ.mono hle t)
end
theorem bQ.length {φ:dD}:∀{l:List AV} {m:List Value},bQ φ l m→l.length=m.length
 |_,_, .nil=>rfl
 |_,_, .cons _ t=>by simp[bQ.length t]
theorem bQ.append {φ:dD}:∀{l:List AV} {m:List Value},bQ φ l m→∀{l':List AV} {m':List Value},bQ φ l' m'→bQ φ (l++l') (m++m')
 |_,_, .nil,_,_,k=>k
 |_,_, .cons h t,_,_,k=> .cons h (bQ.append t k)
theorem bQ.get {φ:dD}:∀{l:List AV} {m:List Value},bQ φ l m→∀{i:Nat} {a:AV},l[i]? =some a→∃v,m[i]? =some v∧bG φ a v
 |_,_, .nil,_,_,e=>by simp at e
 |_,_, .cons h t,0,_,e=>by simp at e;subst e;exact⟨_,by simp,h⟩
 |_,_, .cons h t,i+1,_,e=>by simp at e;simpa using bQ.get t e
theorem bQ.take {φ:dD}:∀{l:List AV} {m:List Value},bQ φ l m→∀(n:Nat),bQ φ (l.take n) (m.take n)
 |_,_,h,0=>by simp;exact .nil
 |_,_, .nil,n+1=>by simp;exact .nil
 |_,_, .cons h t,n+1=>by simp;exact .cons h (bQ.take t n)
theorem bQ.drop {φ:dD}:∀{l:List AV} {m:List Value},bQ φ l m→∀(n:Nat),bQ φ (l.drop n) (m.drop n)
 |_,_,h,0=>by simpa using h
 |_,_, .nil,n+1=>by simp;exact .nil
 |_,_, .cons h t,n+1=>by simpa using bQ.drop t n
theorem bQ.replicate {φ:dD} {l:List AV} {m:List Value} (h:bQ φ l m):∀n,bQ φ (List.replicate n l).flatten (List.replicate n m).flatten
 |0=>by simp;exact .nil
 |n+1=>by simp[List.replicate_succ];exact h.append (bQ.replicate h n)
theorem bG.cells {φ:dD} {a:AV} {v:Value} (h:bG φ a v):bQ φ a.cells v.cells.toList:=by
 cases h with
 |agg h=>exact h
 |_=>first |exact .cons (by constructor<;>assumption) .nil |exact .cons (by constructor) .nil
theorem bG.leaf {φ:dD} {a:AV} {v:Value} (h:bG φ a v) (hl:a.leaf=true):v.oneCell'=true:=by
 cases h<;>simp_all[AV.leaf,Value.oneCell']
theorem bQ.leaf {φ:dD}:∀{l:List AV} {m:List Value},bQ φ l m→aB l=true→∀v∈m,v.oneCell'=true
 |_,_, .nil,_,v,hv=>by simp at hv
 |_,_, .cons h t,hl,v,hv=>by
  simp only[aB] at hl;rename_i a l _ _;cases ha:a.leaf with
  |false=>simp[ha] at hl
  |true=>
   simp[ha] at hl;rcases List.mem_cons.1 hv with rfl |hv
   ·exact h.leaf ha
   ·exact bQ.leaf t hl v hv
theorem oV:∀{l:List AV},aB l=true↔∀v∈l,v.leaf=true
 | []=>by simp[aB]
 |a :: l=>by
  simp only[aB,List.mem_cons,forall_eq_or_imp];cases a.leaf with
  |false=>simp
  |true=>simp[oV (l:=l)]
theorem uS {l m:List AV} (h:aB l=true) (k:aB m=true):aB (l++m)=true:=by
 rw[oV] at *;intro v hv;rcases List.mem_append.1 hv with h1 |h1
 ·exact h v h1
 ·exact k v h1
theorem Qg {l:List AV} (h:aB l=true) (n:Nat):aB (l.take n)=true:=by
 rw[oV] at *;exact fun v hv=>h v (List.mem_of_mem_take hv)
theorem Ru {l:List AV} (h:aB l=true) (n:Nat):aB (l.drop n)=true:=by
 rw[oV] at *;exact fun v hv=>h v (List.mem_of_mem_drop hv)
theorem Tm {l m:List AV} (h:aB l=true) (k:aB m=true) (n:Nat):aB (lay l n m)=true:=
 uS (uS (Qg h n) k) (Ru h _)
theorem I7 {es:List (List AV)} (h:∀e∈es,aB e=true):aB es.flatten=true:=by
 rw[oV];intro v hv;exact have⟨e,he,hv⟩:=List.mem_flatten.1 hv;oV.1 (h e he) v hv
def lZ (φ:dD) (N:Nat) (ρ:bZ) (tmps:Array Value):Prop:=N≤tmps.size∧∀t v,ρ.get t=some v→∃cv,tmps[t]? =some cv∧bG φ v cv
theorem lZ.mono {φ ψ:dD} {N:Nat} {ρ:bZ} {tmps:Array Value} (hle:φ.le ψ) (h:lZ φ N ρ tmps):lZ ψ N ρ tmps:=
 ⟨h.1,fun t v e=>let⟨cv,h1,h2⟩:=h.2 t v e;⟨cv,h1,h2.mono hle⟩⟩
theorem lZ.set {φ:dD} {N:Nat} {ρ:bZ} {tmps:Array Value} (h:lZ φ N ρ tmps) {d:Nat} (hd:d<N) {v:AV} {cv:Value} (hv:bG φ v cv):lZ φ N (ρ.set d v) (tmps.setIfInBounds d cv):=by
 refine⟨by simpa using h.1,fun t u e=> ?_⟩;rw[PT.get_set] at e;by_cases ht:t=d
 ·subst ht;simp at e;subst e;refine⟨cv, ?_,hv⟩;have:t<tmps.size:=Nat.lt_of_lt_of_le hd h.1;simp[this]
 ·rw[if_neg ht] at e;have⟨cu,h1,h2⟩:=h.2 t u e;exact⟨cu,by rw[Array.getElem?_setIfInBounds_ne (Ne.symm ht)];exact h1,h2⟩
theorem lZ.put {φ:dD} {N:Nat} {ρ:bZ} {a:Act} (h:lZ φ N ρ a.tmps) {d:Option Nat} (hd:OM N d=true) {v:AV} {cv:Value} (hv:bG φ v cv):lZ φ N (Ab.put ρ d v) (a.put d cv).tmps:=by
 cases d with
 |none=>exact h
 |some d=>
  simp only[OM,Nat.blt_eq] at hd;exact h.set hd hv
mutual
theorem oP {φ:dD}:∀{v:Value} {a:AV},qp v=some a→bG φ a v
 | .bool b,a,h=>by simp[qp] at h;subst h;exact .bool b
 | .int k n,a,h=>by simp[qp] at h;subst h;exact .int k n
 | .string s,a,h=>by simp[qp] at h;subst h;exact .str rfl
 | .pointer none,a,h=>by simp[qp] at h;subst h;exact .nilPtr
 | .pointer (some _),a,h=>by simp[qp] at h
 | .slice none 0 0,a,h=>by simp[qp] at h;subst h;exact .au
 | .slice none 0 (_+1),a,h=>by simp[qp] at h
 | .slice none (_+1) _,a,h=>by simp[qp] at h
 | .slice (some _) _ _,a,h=>by simp[qp] at h
 | .map none,a,h=>by simp[qp] at h;subst h;exact .jH
 | .map (some _),a,h=>by simp[qp] at h
 | .nilFunc,a,h=>by simp[qp] at h;subst h;exact .nilFn
 | .agg ⟨l⟩,a,h=>by
   simp only[qp] at h;cases hl:DV l with
   |none=>simp[hl] at h
   |some r=>simp[hl] at h;subst h;exact .agg (yJ hl)
 | .tuple ⟨l⟩,a,h=>by
   simp only[qp] at h;cases hl:DV l with
   |none=>simp[hl] at h
   |some r=>simp[hl] at h;subst h;exact .tup (yJ hl)
 | .float _ _,a,h=>by simp[qp] at h
 | .complex _ _ _,a,h=>by simp[qp] at h
 | .chan _,a,h=>by simp[qp] at h
 | .func _ _ _,a,h=>by simp[qp] at h
 | .iface _ _,a,h=>by simp[qp] at h
 | .nilIface,a,h=>by simp[qp] at h;subst h;exact .iC
theorem yJ {φ:dD}:∀{l:List Value} {r:List AV},DV l=some r→bQ φ r l
 | [],r,h=>by simp[DV] at h;subst h;exact .nil
 |v :: l,r,h=>by
  simp only[DV] at h;cases hv:qp v with
  |none=>simp[hv] at h
  |some a=>
   cases hl:DV l with
   |none=>simp[hv,hl] at h
   |some r'=>simp[hv,hl] at h;subst h;exact .cons (oP hv) (yJ hl)
end
theorem bX {φ:dD} {N:Nat} {ρ:bZ} {a:Act} (h:lZ φ N ρ a.tmps) {x:Operand} {y:bB} (hx:bH x=some y) {v:AV} (hv:ev ρ y=some v):bG φ v (a.eval x):=by
 cases x with
 |tmp t=>
  simp[bH] at hx;subst hx;have⟨cv,h1,h2⟩:=h.2 t v hv;have:a.eval (.tmp t)=cv:=by simp[Act.eval,h1]
  rw[this];exact h2
 |const c=>
  simp only[bH] at hx;cases hc:qp c with
  |none=>simp[hc] at hx
  |some u=>
   simp[hc] at hx;subst hx;simp[ev] at hv;subst hv;exact oP hc
 |global g=>simp[bH] at hx
 |func f=>
  simp[bH] at hx;subst hx;simp[ev] at hv;subst hv;exact .func .nil .nil
theorem uI {φ:dD} {N:Nat} {ρ:bZ} {a:Act} (h:lZ φ N ρ a.tmps):∀{l:List Operand} {m:List bB},mD l=some m→∀{vs:List AV},evs ρ m=some vs→bQ φ vs (l.map a.eval)
 | [],m,hm,vs,hv=>by simp[mD] at hm;subst hm;simp[evs] at hv;subst hv;exact .nil
 |x :: l,m,hm,vs,hv=>by
  simp only[mD] at hm;cases hx:bH x with
  |none=>simp[hx] at hm
  |some y=>
   cases hl:mD l with
   |none=>simp[hx,hl] at hm
   |some m'=>
    simp[hx,hl] at hm;subst hm;simp only[evs] at hv;cases he:ev ρ y with
    |none=>simp[he] at hv
    |some v=>
     cases hes:evs ρ m' with
     |none=>simp[he,hes] at hv
     |some vs'=>
      simp[he,hes] at hv;subst hv;exact .cons (bX h hx he) (uI h hl hes)
def aal (s:Kq) (r:Loop):Prop:=
 match s with
 | .ready=>r.state= .ready∧r.pending=none
 | .busy=>r.state= .busy
 | .done x=>r.state= .done∧(match x with | .normal=>False | .ret=>r.pending=some .ret | .exit id=>r.pending=some (.exit id)| .goto l=>r.pending=some (.goto l)| .panic _=>False)
 | .exh=>r.state= .exhausted
inductive nG (φ:dD):List (AV×AV×Nat)→List MapEntry→Prop
 |nil:nG φ [] []
 |cons {k v:AV} {b:Nat} {l:List (AV×AV×Nat)} {e:MapEntry} {m:List MapEntry} (hk:bG φ k e.key) (hv:bG φ v e.val) (hb:e.born=b) (t:nG φ l m):nG φ ((k,v,b) :: l) (e :: m)
theorem nG.mono {φ ψ:dD} (hle:φ.le ψ) {l:List (AV×AV×Nat)} {m:List MapEntry} (h:nG φ l m):nG ψ l m:=by
 induction h with
 |nil=>exact .nil
 |cons hk hv hb _ ih=>exact .cons (hk.mono hle) (hv.mono hle) hb ih
structure mU (φ:dD) (id:Nat) (r:Row) (w:World):Prop where
 mg:r.m≤r.g
 sz:0<r.sz
 es:∀e∈r.es,e.length=r.sz
 leaf:∀e∈r.es,aB e=true
 cur:∃L,φ id r.g=some L∧L.ext=r.es.length
 gen:∀g L,φ id g=some L→g≤r.g∧L.sz=r.sz
 cells:∀g L,r.m≤g→φ id g=some L→L.ext≤r.es.length∧
  ∃vals:List Value,bQ φ (r.es.take L.ext).flatten vals∧∀(j:Nat) (v:Value),vals[j]? =some v→w.cell? ⟨L.blk,L.base+j,none⟩=some v
 own:r.rw=true→∀g L,r.m≤g→φ id g=some L→L.base=0∧∃c t,w.heap[L.blk]? =some (.cells c t (0,0))∧c.size=L.tot*L.sz∧L.ext≤L.tot
 ty:∀e,r.ty=some e→r.rw=true→∀g L,r.m≤g→φ id g=some L→∃c f,w.heap[L.blk]? =some (.cells c e f)
def yP (P:Program) (φ:dD) (id:Nat) (o:fC) (w:World):Prop:=
 match o with
 | .row r=>mU φ id r w
 | .map es clock=>∃L cs,φ id 0=some L∧w.heap[L.blk]? =some (.map cs clock)∧nG φ es cs.toList
 | .iter m since seen stepped=>∃L,φ id 0=some L∧∃cm,w.heap[L.blk]? =some (.mapIter cm since seen.reverse.toArray stepped)∧
    (match m with |none=>cm=none |some k=>∃L',φ k 0=some L'∧cm=some L'.blk)
 | .gone=>True
 | .rmap es clock=>∃L cs,φ id 0=some L∧w.heap[L.blk]? =some (.map cs clock)∧nG φ es cs.toList
 | .dead=>True
 | .gvar b=>∃L te pe,φ id 0=some L∧L.blk=b∧w.cell? ⟨b,0,none⟩=some (.iface te pe)
 | .loop l=>∃L r N,φ id 0=some L∧w.heap[L.blk]? =some (.loop r)∧lZ φ N l.regs r.tmps∧r.params.toList=l.ps∧(∀p∈l.ps,p<N)∧comp P N r.assign=some (strip l.asg)∧comp P N r.body=some (strip l.body)∧aal l.st r
structure Base where
 n:Nat
 gh:Nat→Option fC
instance:Coe Base Nat:=⟨Base.n⟩
@[reducible] def Base.of (n:Nat):Base:=⟨n,fun _=>none⟩
@[simp] theorem Base.of_n (n:Nat):(Base.of n).n=n:=rfl
@[simp] theorem Base.of_gh (n id:Nat):(Base.of n).gh id=none:=rfl
structure bR (P:Program) (B:Base) (φ:dD) (h:ah) (w:World):Prop where
 base:B≤w.heap.size
 dom:∀id g L,φ id g=some L→id<h.sz
 gone:∀id,h.sz≤id→h.get id=none
 objn:∀id o,h.get id=some o→B.gh id=none→yP P φ id o w
 lt:∀id g L,φ id g=some L→L.blk<w.heap.size
 own:∀id o g L,h.get id=some o→φ id g=some L→(o.own=true→B≤L.blk)∧(o.own=false→L.blk<B)
 disj:∀id o id' g g' L L',h.get id=some o→o.own=true→φ id g=some L→φ id' g'=some L'→L.blk=L'.blk→id=id'
 nodef:∀id g L,φ id g=some L→∀ds:Option (List Deferred),w.heap[L.blk]? ≠some (Obj.deferred ds)
 ghost:∀id o,B.gh id=some o→(∀u,h.get id=some u→u=o)∧id<h.sz∧(∀g,φ id g=none)∧o.own=true
theorem bR.real {P:Program} {B:Base} {φ:dD} {h:ah} {w:World} (H:bR P B φ h w) {id g:Nat} {L:Loc} (hL:φ id g=some L):B.gh id=none:=by
 cases e:B.gh id with
 |none=>rfl
 |some o=>rw[(H.ghost id o e).2.2.1 g] at hL;cases hL
theorem bR.obj {P:Program} {B:Base} {φ:dD} {h:ah} {w:World} (H:bR P B φ h w) (id:Nat) (o:fC) (ho:h.get id=some o) (hd:∃g L,φ id g=some L:=by exact⟨_,_,by assumption⟩):yP P φ id o w:=by
 exact have⟨g,L,hL⟩:=hd;H.objn id o ho (H.real hL)
structure Gw (B:Nat) (w w':World):Prop where
 os:w'.os=w.os
 tape:w'.tape=w.tape
 output:w'.output=w.output
 size:w.heap.size≤w'.heap.size
 below:∀k:Nat,k<B→w'.heap[k]? =w.heap[k]?
 defd:∀(k:Nat) (ds:Option (List Deferred)),w.heap[k]? =some (Obj.deferred ds)→w'.heap[k]? =some (Obj.deferred ds)
 loops:∀(k:Nat) (r:Loop),w.heap[k]? =some (Obj.loop r)→∃r',w'.heap[k]? =some (Obj.loop r')
theorem Gw.refl (B:Nat) (w:World):Gw B w w:=⟨rfl,rfl,rfl,Nat.le_refl _,fun _ _=>rfl,fun _ _ h=>h,fun _ r h=>⟨r,h⟩⟩
theorem Gw.frozen {B:Nat} {w w':World} (h:Gw B w w') (a:Addr) (ha:a.block<B):w'.frozen? a=w.frozen? a:=by simp only[World.frozen?,h.below _ ha]
theorem Gw.trans {B:Nat} {w w1 w2:World} (h:Gw B w w1) (k:Gw B w1 w2):Gw B w w2:=
 ⟨k.os.trans h.os,k.tape.trans h.tape,k.output.trans h.output,Nat.le_trans h.size k.size,fun i hi=>(k.below i hi).trans (h.below i hi),fun i ds hd=>k.defd i ds (h.defd i ds hd),fun i r hr=>(let⟨r',h'⟩:=h.loops i r hr;k.loops i r' h')⟩
theorem Gw.drew (B:Nat) (w:World):Gw B w w.drew:=⟨rfl,rfl,rfl,Nat.le_refl _,fun _ _=>rfl,fun _ _ h=>h,fun _ r h=>⟨r,h⟩⟩
theorem yP.heap {P:Program} {φ:dD} {id:Nat} {o:fC} {w w':World} (h:yP P φ id o w) (e:w'.heap=w.heap):yP P φ id o w':=by
 have ec:∀a,w'.cell? a=w.cell? a:=fun a=>by simp[World.cell?,e]
 cases o with
 |row r=>
  refine⟨h.mg,h.sz,h.es,h.leaf,h.cur,h.gen,fun g L h1 h2=> ?_,fun hr g L h1 h2=>by rw[e];exact h.own hr g L h1 h2,fun t ht hr g L h1 h2=>by rw[e];exact h.ty t ht hr g L h1 h2⟩;exact have⟨a,vals,b,c⟩:=h.cells g L h1 h2;⟨a,vals,b,fun j v hj=>by rw[ec];exact c j v hj⟩
 |map es c=>simpa only[yP,e] using h
 |iter m s l p=>simpa only[yP,e] using h
 |loop l=>simpa only[yP,e] using h
 |gone=>trivial
 |rmap es c=>simpa only[yP,e] using h
 |dead=>trivial
 |gvar b=>simpa only[yP,ec] using h
theorem bR.heap {P:Program} {B:Base} {φ:dD} {h:ah} {w w':World} (k:bR P B φ h w) (e:w'.heap=w.heap):bR P B φ h w':=
 ⟨by rw[e];exact k.base,k.dom,k.gone,fun id o ho hd=>(k.objn id o ho hd).heap e,fun id g L hl=>by rw[e];exact k.lt id g L hl,k.own,k.disj,fun id g L hl=>by rw[e];exact k.nodef id g L hl,k.ghost⟩
theorem bR.drew {P:Program} {B:Base} {φ:dD} {h:ah} {w:World} (k:bR P B φ h w):bR P B φ h w.drew:=k.heap rfl
theorem nA {α:Type} {sz:Nat}:∀{es:List (List α)},(∀e∈es,e.length=sz)→es.flatten.length=es.length*sz
 | [],_=>by simp
 |e :: l,h=>by
  have h1:=h e (by simp);have h2:=nA (es:=l) (fun x hx=>h x (by simp[hx]));simp only[List.flatten_cons,List.length_append,List.length_cons,h1,h2,Nat.add_mul];omega
theorem Jk {α:Type} {sz:Nat}:∀{es:List (List α)},(∀e∈es,e.length=sz)→∀n,(es.drop n).flatten=es.flatten.drop (n*sz)
 |es,_,0=>by simp
 | [],_,n+1=>by simp
 |e :: l,h,n+1=>by
  have h1:=h e (by simp);have h2:=Jk (es:=l) (fun x hx=>h x (by simp[hx])) n;simp only[List.drop_succ_cons,List.flatten_cons,h2];have:(n+1)*sz=e.length+n*sz:=by rw[Nat.add_mul,h1];omega
  rw[this,List.drop_length_add_append]
theorem wW {α:Type} {sz:Nat}:∀{es:List (List α)},(∀e∈es,e.length=sz)→∀n,(es.take n).flatten=es.flatten.take (n*sz)
 |es,_,0=>by simp
 | [],_,n+1=>by simp
 |e :: l,h,n+1=>by
  have h1:=h e (by simp);have h2:=wW (es:=l) (fun x hx=>h x (by simp[hx])) n;simp only[List.take_succ_cons,List.flatten_cons,h2];have:(n+1)*sz=e.length+n*sz:=by rw[Nat.add_mul,h1];omega
  rw[this,List.take_length_add_append]
theorem acZ {α:Type} {sz:Nat}:∀{es:List (List α)},(∀e∈es,e.length=sz)→∀{i o:Nat} {e:List α} {a:α},es[i]? =some e→e[o]? =some a→es.flatten[i*sz+o]? =some a
 | [],_,_,_,_,_,hi,_=>by simp at hi
 |e :: l,h,0,o,_,a,hi,ho=>by
  simp at hi;subst hi;have hlt:o<e.length:=(List.getElem?_eq_some_iff.1 ho).1;rw[List.flatten_cons,Nat.zero_mul,Nat.zero_add,List.getElem?_append_left hlt];exact ho
 |e :: l,h,i+1,o,e',a,hi,ho=>by
  have h1:=h e (by simp);have h2:=acZ (es:=l) (fun x hx=>h x (by simp[hx])) (i:=i) (o:=o) (e:=e') (a:=a) (by simpa using hi) ho;have:(i+1)*sz+o=e.length+(i*sz+o):=by rw[Nat.add_mul,h1];omega
  rw[List.flatten_cons,this,List.getElem?_append_right (by omega)];simpa using h2
theorem Cm {α:Type} (l:List α) (n:Nat) (new:List α) (h:n+new.length≤l.length):(lay l n new).length=l.length:=by
 unfold lay;simp only[List.length_append,List.length_take,List.length_drop];omega
theorem W9 {α:Type} {sz:Nat} {es new:List (List α)} (h:∀e∈es,e.length=sz) (hn:∀e∈new,e.length=sz) (n:Nat):
 (lay es n new).flatten=lay es.flatten (n*sz) new.flatten:=by
 unfold lay;rw[List.flatten_append,List.flatten_append,wW h,Jk h,nA hn,Nat.add_mul]
theorem LG {α:Type} (l:List α) (i:Nat) (x:α) (h:i<l.length):l.set i x=lay l i [x]:=by
 unfold lay;rw[List.set_eq_take_append_cons_drop,if_pos h];simp
theorem aiy {α:Type} {sz:Nat} {es:List (List α)} (h:∀e∈es,e.length=sz) {i o:Nat} {e:List α} (hi:es[i]? =some e) {new:List α} (hn:o+new.length≤e.length):
 (es.set i (lay e o new)).flatten=lay es.flatten (i*sz+o) new:=by
 obtain⟨hlt,he⟩:=List.getElem?_eq_some_iff.1 hi;have hel:e.length=sz:=h e (by rw[←he];exact List.getElem_mem hlt);have h1:∀x∈[lay e o new],x.length=sz:=by
  intro x hx;simp at hx;subst hx;rw[Cm _ _ _ hn,hel]
 rw[LG _ _ _ hlt,W9 h h1];have hes:es.flatten=(es.take i).flatten++(e++(es.drop (i+1)).flatten):=by
  conv=>lhs;rw[←List.take_append_drop i es]
  rw[List.flatten_append,List.drop_eq_getElem_cons hlt,he,List.flatten_cons]
 have hl1:(es.take i).flatten.length=i*sz:=by
  rw[nA (sz:=sz) (fun x hx=>h x (List.mem_of_mem_take hx)),List.length_take];congr 1;omega
 simp only[List.flatten_cons,List.flatten_nil,List.append_nil];unfold lay;rw[hes];simp only[List.length_append,List.length_take,List.length_drop];have e1:List.take (i*sz) ((es.take i).flatten++(e++(es.drop (i+1)).flatten))=(es.take i).flatten:=by
  rw[←hl1];exact List.take_left
 have e2:List.take (i*sz+o) ((es.take i).flatten++(e++(es.drop (i+1)).flatten))=(es.take i).flatten++e.take o:=by
  rw[←hl1,List.take_length_add_append,List.take_append_of_le_length (by omega)]
 have e3:List.drop (i*sz+(min o e.length+new.length+(e.length-(o+new.length)))) ((es.take i).flatten++(e++(es.drop (i+1)).flatten))=(es.drop (i+1)).flatten:=by
  rw[show i*sz+(min o e.length+new.length+(e.length-(o+new.length)))=(es.take i).flatten.length+(e.length+0) by omega,List.drop_length_add_append,List.drop_length_add_append];rfl
 have e4:List.drop (i*sz+o+new.length) ((es.take i).flatten++(e++(es.drop (i+1)).flatten))=e.drop (o+new.length)++(es.drop (i+1)).flatten:=by
  rw[show i*sz+o+new.length=(es.take i).flatten.length+(o+new.length) by omega,List.drop_length_add_append,List.drop_append_of_le_length (by omega)]
 rw[e1,e2,e3,e4];simp
theorem cell_of_heap {w w':World} {a:Addr} (h:w'.heap[a.block]? =w.heap[a.block]?):w'.cell? a=w.cell? a:=by simp[World.cell?,h]
theorem yP.other {P:Program} {φ φ':dD} {id:Nat} {o:fC} {w w':World} (h:yP P φ id o w) (hle:φ.le φ') (he:∀g,φ' id g=φ id g)
 (hb:∀g L,φ id g=some L→w'.heap[L.blk]? =w.heap[L.blk]?):yP P φ' id o w':=by
 cases o with
 |row r=>
  refine have⟨L,h1,h2⟩:=h.cur;⟨h.mg,h.sz,h.es,h.leaf,⟨L,by rw[he];exact h1,h2⟩,fun g L hL=>h.gen g L (by rw[←he];exact hL),fun g L hm hL=> ?_,fun hr g L hm hL=> ?_,fun t ht hr g L hm hL=> ?_⟩
  ·rw[he] at hL;exact have⟨a,vals,b,c⟩:=h.cells g L hm hL;⟨a,vals,b.mono hle,fun j v hj=>(cell_of_heap (hb g L hL)).trans (c j v hj)⟩
  ·rw[he] at hL;rw[hb g L hL];exact h.own hr g L hm hL
  ·rw[he] at hL;rw[hb g L hL];exact h.ty t ht hr g L hm hL
 |gone=>trivial
 |dead=>trivial
 |gvar b=>
  refine have⟨L,te,pe,h1,h2,h3⟩:=h;⟨L,te,pe,hle _ _ _ h1,h2, ?_⟩
  subst h2;exact(cell_of_heap (a:=⟨L.blk,0,none⟩) (hb _ _ h1)).trans h3
 |rmap es c=>
  exact have⟨L,cs,h1,h2,h3⟩:=h;⟨L,cs,hle _ _ _ h1,(hb _ _ h1).trans h2,h3.mono hle⟩
 |map es c=>
  exact have⟨L,cs,h1,h2,h3⟩:=h;⟨L,cs,hle _ _ _ h1,(hb _ _ h1).trans h2,h3.mono hle⟩
 |iter m s l p=>
  refine have⟨L,h1,cm,h2,h3⟩:=h;⟨L,hle _ _ _ h1,cm,(hb _ _ h1).trans h2, ?_⟩
  cases m with
  |none=>exact h3
  |some k=>obtain⟨L',a,b⟩:=h3;exact⟨L',hle _ _ _ a,b⟩
 |loop l=>
  exact have⟨L,r,N,h1,h2,h3,h4⟩:=h;⟨L,r,N,hle _ _ _ h1,(hb _ _ h1).trans h2,h3.mono hle,h4⟩
theorem bR.keep {P:Program} {B:Base} {φ:dD} {h:ah} {w w':World} (H:bR P B φ h w) (hsz:w.heap.size≤w'.heap.size)
 (hk:∀id g L,φ id g=some L→w'.heap[L.blk]? =w.heap[L.blk]?):bR P B φ h w':=
 ⟨Nat.le_trans H.base hsz,H.dom,H.gone,fun id o ho hd=>(H.objn id o ho hd).other φ.le_refl (fun _=>rfl) (hk id),fun id g L hl=>Nat.lt_of_lt_of_le (H.lt id g L hl) hsz,H.own,H.disj,fun id g L hl=>by rw[hk id g L hl];exact H.nodef id g L hl,H.ghost⟩
theorem bR.alloc {P:Program} {B:Base} {φ:dD} {h:ah} {w:World} (H:bR P B φ h w) (ob:Obj):bR P B φ h (w.alloc ob):=
 H.keep (by simp) fun id g L hL=>heap_alloc_old w ob (H.lt id g L hL)
def dD.add (φ:dD) (id g:Nat) (L:Loc):dD:=fun a b=>if a=id∧b=g then some L else φ a b
theorem dD.add_same (φ:dD) (id g:Nat) (L:Loc):φ.add id g L id g=some L:=by simp[dD.add]
theorem dD.add_other (φ:dD) {id g:Nat} (L:Loc) {a b:Nat} (h:¬(a=id∧b=g)):φ.add id g L a b=φ a b:=by simp[dD.add,h]
theorem dD.le_add {φ:dD} {id g:Nat} (L:Loc) (h:φ id g=none):φ.le (φ.add id g L):=fun a b K e=>by
 rw[dD.add_other]
 ·exact e
 ·rintro⟨rfl,rfl⟩;rw[h] at e;cases e
theorem bR.fresh {P:Program} {B:Base} {φ:dD} {h:ah} {w:World} (H:bR P B φ h w) (g:Nat):φ h.sz g=none:=by
 cases e:φ h.sz g with
 |none=>rfl
 |some L=>exact absurd (H.dom _ _ _ e) (Nat.lt_irrefl _)
theorem push_inj {h:ah} {o o':fC} (e:h.push o=h.push o'):o=o':=by
 have:(h.push o).get h.sz=(h.push o').get h.sz:=by rw[e]
 rw[ah.get_push,ah.get_push,if_pos rfl,if_pos rfl] at this;exact Option.some.inj this
def Base.add (B:Base) (id:Nat) (o:fC):Base:=⟨B.n,fun a=>if a=id then some o else B.gh a⟩
def Base.del (B:Base) (id:Nat):Base:=⟨B.n,fun a=>if a=id then none else B.gh a⟩
@[simp] theorem Base.add_n (B:Base) (id:Nat) (o:fC):(B.add id o).n=B.n:=rfl
@[simp] theorem Base.del_n (B:Base) (id:Nat):(B.del id).n=B.n:=rfl
theorem Base.add_same (B:Base) (id:Nat) (o:fC):(B.add id o).gh id=some o:=by simp[Base.add]
theorem Base.add_other (B:Base) {id a:Nat} (o:fC) (h:a≠id):(B.add id o).gh a=B.gh a:=by simp[Base.add,h]
theorem Base.del_same (B:Base) (id:Nat):(B.del id).gh id=none:=by simp[Base.del]
theorem Base.del_other (B:Base) {id a:Nat} (h:a≠id):(B.del id).gh a=B.gh a:=by simp[Base.del,h]
theorem Base.del_add {B:Base} {id:Nat} {o:fC} (h:B.gh id=none):(B.add id o).del id=B:=by
 cases B with
 |mk n gh=>
  simp only[Base.add,Base.del,Base.mk.injEq,true_and]
  funext a
  by_cases e:a=id
  ·subst e;simpa using h.symm
  ·simp[e]
theorem bR.noGhost {P:Program} {B:Base} {φ:dD} {h:ah} {w:World} (H:bR P B φ h w):B.gh h.sz=none:=by
 cases e:B.gh h.sz with
 |none=>rfl
 |some o=>exact absurd (H.ghost _ _ e).2.1 (Nat.lt_irrefl _)
theorem bR.pushGhost {P:Program} {B:Base} {φ:dD} {h:ah} {w:World} (H:bR P B φ h w) (o:fC) (hown:o.own=true):bR P (B.add h.sz o) φ (h.push o) w:=by
 have hget:∀id o',(h.push o).get id=some o'→(id=h.sz∧o'=o)∨(id<h.sz∧h.get id=some o'):=by
  intro id o' e;rw[ah.get_push] at e;by_cases hi:id=h.sz
  ·rw[if_pos hi] at e;cases e;exact .inl ⟨hi,rfl⟩
  ·rw[if_neg hi] at e;refine .inr ⟨?_,e⟩;rcases Nat.lt_or_ge id h.sz with h1 |h1
   ·exact h1
   ·rw[H.gone id h1] at e;cases e
 refine⟨H.base,fun id g K e=>Nat.lt_succ_of_lt (H.dom id g K e),fun id hid=> ?_,fun id o' e hd=> ?_,H.lt,fun id o' g K e e'=> ?_,fun id o' id' g g' K K' e hown' e1 e2 hblk=> ?_,H.nodef,fun id o' e=> ?_⟩
 ·simp at hid;rw[ah.get_push,if_neg (by omega)];exact H.gone id (by omega)
 ·rcases hget _ _ e with⟨rfl,rfl⟩|⟨h1,h2⟩
  ·rw[Base.add_same] at hd;cases hd
  ·rw[Base.add_other _ _ (by omega)] at hd;exact H.objn id o' h2 hd
 ·rcases hget _ _ e with⟨rfl,rfl⟩|⟨h1,h2⟩
  ·have:=H.dom _ _ _ e';omega
  ·exact H.own id o' g K h2 e'
 ·rcases hget _ _ e with⟨rfl,rfl⟩|⟨h1,h2⟩
  ·have:=H.dom _ _ _ e1;omega
  ·exact H.disj id o' id' g g' K K' h2 hown' e1 e2 hblk
 ·by_cases hi:id=h.sz
  ·subst hi;rw[Base.add_same] at e;cases e;exact⟨fun u hu=>by rw[ah.get_push,if_pos rfl] at hu;cases hu;rfl,Nat.lt_succ_self _,fun g=>H.fresh g,hown⟩
  ·rw[Base.add_other _ _ hi] at e;exact have⟨h1,h2,h3⟩:=H.ghost id o' e;⟨fun u hu=>by rw[ah.get_push,if_neg hi] at hu;exact h1 u hu,Nat.lt_succ_of_lt h2,h3⟩
theorem bR.fill {P:Program} {B:Base} {φ:dD} {h:ah} {w:World} {id:Nat} {o:fC} (H:bR P B φ h w) (hg:B.gh id=some o) (hown:o.own=true) {L:Loc} {ob:Obj} (hL:L.blk=w.heap.size) (hob:∀ds,ob≠ .deferred ds)
 (ho:yP P (φ.add id 0 L) id o (w.alloc ob)):bR P (B.del id) (φ.add id 0 L) h (w.alloc ob):=by
 have⟨hget,hid,hnone,_⟩:=H.ghost id o hg;have hle:φ.le (φ.add id 0 L):=dD.le_add L (hnone 0);have hphi:∀a g K,φ.add id 0 L a g=some K→(a=id∧g=0∧K=L)∨(a≠id∧φ a g=some K):=by
  intro a g K e;by_cases hi:a=id∧g=0
  ·obtain⟨rfl,rfl⟩:=hi;rw[dD.add_same] at e;cases e;exact .inl ⟨rfl,rfl,rfl⟩
  ·rw[dD.add_other _ _ hi] at e;refine .inr ⟨fun ha=> ?_,e⟩;subst ha;rw[hnone g] at e;cases e
 refine⟨Nat.le_trans H.base (by simp), ?_,H.gone, ?_, ?_, ?_, ?_, ?_, ?_⟩
 ·intro a g K e;rcases hphi _ _ _ e with⟨rfl,_,_⟩|⟨_,h1⟩
  ·exact hid
  ·exact H.dom _ _ _ h1
 ·intro a o' e hd;by_cases ha:a=id
  ·subst ha;cases hget o' e;exact ho
  ·rw[Base.del_other _ ha] at hd;exact(H.objn a o' e hd).other hle (fun g=>dD.add_other _ _ (by omega)) (fun g K hK=>heap_alloc_old w ob (H.lt a g K hK))
 ·intro a g K e;rcases hphi _ _ _ e with⟨_,_,rfl⟩|⟨_,h2⟩
  ·rw[hL];simp
  ·have:=H.lt a g K h2;simp;omega
 ·intro a o' g K e e';rcases hphi _ _ _ e' with⟨rfl,_,rfl⟩|⟨_,h3⟩
  ·cases hget o' e;exact⟨fun _=>by rw[hL];exact H.base,fun hf=>by rw[hown] at hf;cases hf⟩
  ·exact H.own a o' g K e h3
 ·intro a o' a' g g' K K' e hown' e1 e2 hblk;rcases hphi _ _ _ e1 with⟨rfl,_,rfl⟩|⟨h1,h1'⟩
  ·rcases hphi _ _ _ e2 with⟨rfl,_,_⟩|⟨_,h2'⟩
   ·rfl
   ·have:=H.lt _ _ _ h2';omega
  ·rcases hphi _ _ _ e2 with⟨rfl,_,rfl⟩|⟨h2,h2'⟩
   ·have:=H.lt _ _ _ h1';omega
   ·exact H.disj a o' a' g g' K K' e hown' h1' h2' hblk
 ·intro a g K e ds hd;rcases hphi _ _ _ e with⟨_,_,rfl⟩|⟨_,h2⟩
  ·rw[hL,heap_alloc_new] at hd;exact hob ds (Option.some.inj hd)
  ·rw[heap_alloc_old w ob (H.lt a g K h2)] at hd;exact H.nodef a g K h2 ds hd
 ·intro a o' e;by_cases ha:a=id
  ·subst ha;rw[Base.del_same] at e;cases e
  ·rw[Base.del_other _ ha] at e;exact have⟨h1,h2,h3,h4⟩:=H.ghost a o' e;⟨h1,h2,fun g=>by rw[dD.add_other _ _ (by omega)];exact h3 g,h4⟩
theorem bR.push {P:Program} {B:Base} {φ:dD} {h:ah} {w:World} (H:bR P B φ h w) {o:fC} (hown:o.own=true) {L:Loc} {ob:Obj} (hL:L.blk=w.heap.size) (hob:∀ds,ob≠ .deferred ds)
 (ho:yP P (φ.add h.sz 0 L) h.sz o (w.alloc ob)):bR P B (φ.add h.sz 0 L) (h.push o) (w.alloc ob):=by
 have:=(H.pushGhost o hown).fill (Base.add_same _ _ _) hown hL hob ho
 rwa [Base.del_add H.noGhost] at this
def vK (w w':World):Prop:=∀(k:Nat) (ds:Option (List Deferred)),w'.heap[k]? =some (Obj.deferred ds)→w.heap[k]? =some (Obj.deferred ds)
theorem vK.put (w:World) {b:Nat} {o:Obj} (ho:∀ds,o≠ .deferred ds):vK w (w.putObj b o):=by
 intro k ds hk;by_cases e:k=b
 ·subst e;have hlt:k<w.heap.size:=by
   have:=(Array.getElem?_eq_some_iff.1 hk).1;simpa using this
  rw[World.putObj_heap_same hlt] at hk;exact absurd (Option.some.inj hk) (ho ds)
 ·rwa [World.putObj_heap_other e] at hk
theorem vK.alloc (w:World) {o:Obj} (ho:∀ds,o≠ .deferred ds):vK w (w.alloc o):=by
 intro k ds hk;by_cases e:k=w.heap.size
 ·subst e;rw[heap_alloc_new] at hk;exact absurd (Option.some.inj hk) (ho ds)
 ·have hlt:k<w.heap.size:=by
   have:=(Array.getElem?_eq_some_iff.1 hk).1;simp at this;omega
  rwa [heap_alloc_old w o hlt] at hk
theorem vK.of_block {w w':World} {g:Nat} {y:Obj} (hy:w'.heap[g]? =some y) (ho:∀ds,y≠ .deferred ds) (hk:∀k:Nat,k≠g→w'.heap[k]? =w.heap[k]?):vK w w':=by
 intro k ds h;by_cases e:k=g
 ·subst e;rw[hy] at h;exact absurd (Option.some.inj h) (ho ds)
 ·rwa [hk k e] at h
theorem bR.update {P:Program} {B:Base} {φ φ':dD} {h:ah} {w w':World} (H:bR P B φ h w) {id:Nat} {o o':fC} (ho:h.get id=some o) (hown:o.own=true) (hown':o'.own=true)
 (hle:φ.le φ') (hφ:∀a g,a≠id→φ' a g=φ a g)
 (hnew:∀g L,φ' id g=some L→φ id g=some L∨(L.blk=w.heap.size∧L.blk<w'.heap.size)∨∃g0 L0,φ id g0=some L0∧L0.blk=L.blk)
 (hsz:w.heap.size≤w'.heap.size) (hkeep:∀k,k<w.heap.size→(∀g L,φ id g=some L→L.blk≠k)→w'.heap[k]? =w.heap[k]?)
 (hkind:vK w w') (hobj:yP P φ' id o' w') (hdm:∃g L,φ id g=some L:=by exact⟨_,_,by assumption⟩):bR P B φ' (h.put id o') w':=by
 have hng:B.gh id=none:=(let⟨_,_,hd⟩:=hdm;H.real hd);have hid:id<h.sz:=by
  rcases Nat.lt_or_ge id h.sz with h1 |h1
  ·exact h1
  ·rw[H.gone id h1] at ho;cases ho
 have hget:∀a x,(h.put id o').get a=some x→(a=id∧x=o')∨(a≠id∧h.get a=some x):=by
  intro a x e;rw[ah.get_put] at e;by_cases ha:a=id
  ·rw[if_pos ha] at e;cases e;exact .inl ⟨ha,rfl⟩
  ·rw[if_neg ha] at e;exact .inr ⟨ha,e⟩
 have hloc:∀g L,φ' id g=some L→(∃g0 L0,φ id g0=some L0∧L0.blk=L.blk)∨(L.blk=w.heap.size∧L.blk<w'.heap.size):=by
  intro g L e;rcases hnew g L e with h1 |h1 |h1
  ·exact .inl ⟨g,L,h1,rfl⟩
  ·exact .inr h1
  ·exact .inl h1
 refine⟨Nat.le_trans H.base hsz, ?_, ?_, ?_, ?_, ?_, ?_, ?_, ?_⟩
 ·intro a g L e;by_cases ha:a=id
  ·subst ha;simpa using hid
  ·rw[hφ a g ha] at e;simpa using H.dom a g L e
 ·intro a ha;simp at ha;rw[ah.get_put,if_neg (by omega)];exact H.gone a ha
 ·intro a x e hd;rcases hget a x e with⟨rfl,rfl⟩|⟨h1,h2⟩
  ·exact hobj
  ·exact(H.objn a x h2 hd).other hle (fun g=>hφ a g h1) (fun g L hL=>hkeep L.blk (H.lt a g L hL) fun g0 L0 h0 heq=>h1 (H.disj id o a g0 g L0 L ho hown h0 hL heq).symm)
 ·intro a g L e;by_cases ha:a=id
  ·subst ha;rcases hloc g L e with⟨g0,L0,h0,hb⟩|h1
   ·have:=H.lt _ _ _ h0;omega
   ·exact h1.2
  ·rw[hφ a g ha] at e;exact Nat.lt_of_lt_of_le (H.lt a g L e) hsz
 ·intro a x g L e e';rcases hget a x e with⟨rfl,rfl⟩|⟨h1,h2⟩
  ·refine⟨fun _=> ?_,fun hf=>by rw[hown'] at hf;cases hf⟩;rcases hloc g L e' with⟨g0,L0,h0,hb⟩|h1
   ·rw[←hb];exact(H.own a o g0 L0 ho h0).1 hown
   ·rw[h1.1];exact H.base
  ·rw[hφ a g h1] at e';exact H.own a x g L h2 e'
 ·intro a x a' g g' L L' e hx e1 e2 hblk;rcases hget a x e with⟨rfl,rfl⟩|⟨h1,h2⟩
  ·by_cases ha':a'=a
   ·exact ha'.symm
   ·rw[hφ a' g' ha'] at e2;rcases hloc g L e1 with⟨g0,L0,h0,hb⟩|h1
    ·exact H.disj a o a' g0 g' L0 L' ho hown h0 e2 (hb.trans hblk)
    ·have:=H.lt _ _ _ e2;omega
  ·rw[hφ a g h1] at e1;by_cases ha':a'=id
   ·subst ha';rcases hloc g' L' e2 with⟨g0,L0,h0,hb⟩|h3
    ·exact H.disj a x a' g g0 L L0 h2 hx e1 h0 (hblk.trans hb.symm)
    ·have:=H.lt _ _ _ e1;omega
   ·rw[hφ a' g' ha'] at e2;exact H.disj a x a' g g' L L' h2 hx e1 e2 hblk
 ·intro a g L e ds hd;have hd:=hkind _ _ hd;by_cases ha:a=id
  ·subst ha;rcases hloc g L e with⟨g0,L0,h0,hb⟩|h1
   ·exact H.nodef a g0 L0 h0 ds (by rw[hb];exact hd)
   ·have:=(Array.getElem?_eq_some_iff.1 hd).1;omega
  ·rw[hφ a g ha] at e;exact H.nodef a g L e ds hd
 ·intro a x e;have⟨h1,h2,h3,h4⟩:=H.ghost a x e;have ha:a≠id:=by
   rintro rfl;rw[hng] at e;cases e
  exact⟨fun u hu=>by rw[ah.get_put,if_neg ha] at hu;exact h1 u hu,h2,fun g=>by rw[hφ a g ha];exact h3 g,h4⟩
theorem Gw.alloc {B:Nat} {w:World} (hB:B≤w.heap.size) {ob:Obj} (hf:∀c t fr,ob= .cells c t fr→fr=(0,0)):Gw B w (w.alloc ob):=by
 refine⟨rfl,rfl,rfl,by simp,fun k hk=>heap_alloc_old w ob (by omega),fun k ds hk=> ?_,fun k r hk=>⟨r, ?_⟩⟩
 ·have hlt:k<w.heap.size:=(Array.getElem?_eq_some_iff.1 hk).1;exact(heap_alloc_old w ob hlt).trans hk
 ·have hlt:k<w.heap.size:=(Array.getElem?_eq_some_iff.1 hk).1;exact(heap_alloc_old w ob hlt).trans hk
theorem Gw.of_block {B:Nat} {w w':World} {g:Nat} {x y:Obj} (hg:w.heap[g]? =some x) (hB:B≤g) (hnd:∀ds,x≠ .deferred ds) (hlp:∀r,x= .loop r→∃r',y= .loop r') (hy:w'.heap[g]? =some y)
 (hfx:∀c t fr,x= .cells c t fr→fr=(0,0)) (hfy:∀c t fr,y= .cells c t fr→fr=(0,0))
 (ho:∀k:Nat,k≠g→w'.heap[k]? =w.heap[k]?) (hs:w'.heap.size=w.heap.size) (h1:w'.os=w.os) (h2:w'.tape=w.tape) (h3:w'.output=w.output) (h4:w.drawn≤w'.drawn:=by exact Nat.le_refl _):Gw B w w':=by
 refine⟨h1,h2,h3,by omega,fun k hk=>ho k (by omega),fun k ds hk=> ?_,fun k r hk=> ?_⟩
 ·by_cases e:k=g
  ·subst e;rw[hg] at hk;cases hk;exact absurd rfl (hnd ds)
  ·exact(ho k e).trans hk
 ·by_cases e:k=g
  ·subst e;rw[hg] at hk;cases hk;exact have⟨r',hr'⟩:=hlp r rfl;⟨r',by rw[hy,hr']⟩
  ·exact⟨r,(ho k e).trans hk⟩
theorem K9 {φ:dD} {id g:Nat} {r:Row} {w:World} (h:mU φ id r w) {L:Loc} (hL:φ id g=some L) (hm:r.m≤g) {p n:Nat} (hp:p+n≤L.ext*r.sz):
 ∃vs:List Value,bQ φ ((r.es.flatten.drop p).take n) vs∧vs.length=n∧∀(j:Nat) (v:Value),vs[j]? =some v→w.cell? ((⟨L.blk,L.base+p,none⟩:Addr).add j)=some v:=by
 have⟨hext,vals,hv,hc⟩:=h.cells g L hm hL;have hlen:(r.es.take L.ext).flatten.length=L.ext*r.sz:=by
  rw[nA (sz:=r.sz) (fun e he=>h.es e (List.mem_of_mem_take he)),List.length_take];congr 1;omega
 refine⟨(vals.drop p).take n, ?_, ?_, ?_⟩
 ·have e1:(r.es.flatten.drop p).take n=(((r.es.take L.ext).flatten).drop p).take n:=by
   rw[wW h.es,List.drop_take,List.take_take];congr 1;omega
  rw[e1];exact(hv.drop p).take n
 ·have:=hv.length;simp only[List.length_take,List.length_drop];omega
 ·intro j v hj;have hjn:j<n:=by
   have:=(List.getElem?_eq_some_iff.1 hj).1;simp only[List.length_take,List.length_drop] at this;omega
  rw[Addr.add_lit,Nat.add_assoc];apply hc;rw[List.getElem?_take_of_lt hjn,List.getElem?_drop] at hj;exact hj
theorem ahR {sz:Nat} {es:List (List AV)} (h:∀e∈es,e.length=sz) {i o n:Nat} {e:List AV} (hi:es[i]? =some e) (ho:o+n≤e.length):
 ((es.flatten.drop (i*sz+o)).take n)=(e.drop o).take n:=by
 obtain⟨hlt,he⟩:=List.getElem?_eq_some_iff.1 hi;have hes:es.flatten=(es.take i).flatten++(e++(es.drop (i+1)).flatten):=by
  conv=>lhs;rw[←List.take_append_drop i es]
  rw[List.flatten_append,List.drop_eq_getElem_cons hlt,he,List.flatten_cons]
 have hl1:(es.take i).flatten.length=i*sz:=by
  rw[nA (sz:=sz) (fun x hx=>h x (List.mem_of_mem_take hx)),List.length_take];congr 1;omega
 rw[hes, ←hl1,List.drop_length_add_append,List.drop_append_of_le_length (by omega),List.take_append_of_le_length (by simp;omega)]
theorem Y0 {φ:dD} {id g:Nat} {r:Row} {w:World} (h:mU φ id r w) {L:Loc} (hL:φ id g=some L) (hm:r.m≤g) {i o n:Nat} {e:List AV} (hi:i<L.ext) (he:r.es[i]? =some e) (hn:o+n≤e.length):
 ∃vs:List Value,bQ φ ((e.drop o).take n) vs∧vs.length=n∧∀(j:Nat) (v:Value),vs[j]? =some v→w.cell? ((⟨L.blk,L.base+i*L.sz+o,none⟩:Addr).add j)=some v:=by
 have hsz:L.sz=r.sz:=(h.gen g L hL).2;have hel:e.length=r.sz:=h.es e (List.mem_of_getElem? he);have hp:i*r.sz+o+n≤L.ext*r.sz:=by
  have:(i+1)*r.sz≤L.ext*r.sz:=Nat.mul_le_mul_right _ hi;rw[Nat.add_mul] at this;omega
 have⟨vs,h1,h2,h3⟩:=K9 h hL hm hp;rw[ahR h.es he hn] at h1;refine⟨vs,h1,h2,fun j v hj=> ?_⟩;have:=h3 j v hj;rw[hsz,Nat.add_assoc];exact this
theorem Pz {P:Program} {B:Base} {φ:dD} {h:ah} {w:World} (H:bR P B φ h w) {id:Nat} {r:Row} (hr:h.get id=some (.row r)) (hrw:r.rw=true) {L:Loc} (hL:φ id r.g=some L)
 {new:List AV} {nv:List Value} (hn:bQ φ new nv) (hleaf:aB new=true) {p:Nat} (hp:p+new.length≤r.es.length*r.sz) {es':List (List AV)} (he1:∀e∈es',e.length=r.sz)
 (he2:es'.length=r.es.length) (he3:es'.flatten=lay r.es.flatten p new) (he4:∀e∈es',aB e=true):
 ∃w',(storeCells ⟨L.blk,L.base+p,none⟩ nv).run P w= .ok () w'∧bR P B φ (h.put id (.row {r with es:=es',m:=r.g})) w'∧Gw B w w':=by
 have hrow:mU φ id r w:=H.obj id _ hr;obtain⟨hbase,c,t,hc,hcs,hlt⟩:=hrow.own hrw r.g L hrow.mg hL;have hsz:L.sz=r.sz:=(hrow.gen r.g L hL).2;obtain⟨L',hL',hext⟩:=hrow.cur;have:L'=L:=by rw[hL] at hL';cases hL';rfl
 subst this;have hnl:=hn.length;have hfit:p+nv.length≤c.size:=by
  have h1:r.es.length*r.sz≤L'.tot*L'.sz:=by rw[hsz];exact Nat.mul_le_mul_right _ (by omega)
  omega
 have hst:=run_storeCells_at P L'.blk p t nv 0 c w hc (by simpa using hfit) (hn.leaf hleaf);simp only[Nat.add_zero] at hst;have hB:B≤L'.blk:=(H.own id _ r.g L' hr hL).1 hrw;generalize hc':(c.toList.take p++nv++c.toList.drop (p+nv.length)).toArray=c' at hst;have hheap:=setRow_heap w L'.blk c c' t (0,0) hc;have hc's:c'.size=c.size:=by
  rw[←hc'];simp;omega
 obtain⟨hx1,vals,hv,hcv⟩:=hrow.cells r.g L' hrow.mg hL;have hlenE:(r.es.take L'.ext).flatten.length=r.es.length*r.sz:=by
  rw[nA (sz:=r.sz) (fun e he=>hrow.es e (List.mem_of_mem_take he)),List.length_take];congr 1;omega
 have htk:r.es.take L'.ext=r.es:=List.take_of_length_le (by omega);rw[htk] at hv hlenE;refine⟨w.setRow L'.blk c',by rw[hbase,Nat.zero_add];exact hst, ?_, ?_⟩
 ·refine H.update hr hrw (by exact hrw) φ.le_refl (fun _ _ _=>rfl) (fun g K e=> .inl e) (by simp) (fun k _ hk=>setRow_other w L'.blk k c' (fun e=>hk r.g L' hL e.symm)) (vK.of_block hheap (fun ds e=>by cases e) (fun k hk=>setRow_other w L'.blk k c' hk)) ?_;refine⟨Nat.le_refl _,hrow.sz,he1,he4,⟨L',hL,by rw[he2];exact hext⟩,hrow.gen,fun g K hm hK=> ?_,fun _ g K hm hK=> ?_,fun u hu _ g K hm hK=> ?_⟩
  ·have hg:g=r.g:=Nat.le_antisymm (hrow.gen g K hK).1 hm;subst hg;rw[hL] at hK;cases hK;refine⟨by simp only;omega, ?_⟩;refine⟨vals.take p++nv++vals.drop (p+nv.length), ?_, ?_⟩
   ·rw[List.take_of_length_le (by simp only;omega),he3];unfold lay;rw[hnl];exact((hv.take p).append hn).append (hv.drop _)
   ·intro j v hj;rw[cell_setRow_same w L'.blk _ c c' t (0,0) hc, ←hc',hbase,Nat.zero_add];have hvl:vals.length=r.es.length*r.sz:=by rw[←hv.length];exact hlenE
    have hcell:∀(k:Nat) (u:Value),vals[k]? =some u→c.toList[k]? =some u:=by
     intro k u hk;have:=hcv k u hk;rw[cell_of_row w L'.blk _ c t (0,0) hc,hbase,Nat.zero_add] at this;simpa using this
    have hjlt:=(List.getElem?_eq_some_iff.1 hj).1;simp only[List.length_append,List.length_take,List.length_drop] at hjlt;have hcl:c.toList.length=c.size:=by simp
    simp only[List.getElem?_toArray];by_cases h1:j<p
    ·rw[List.append_assoc,List.getElem?_append_left (by simp;omega),List.getElem?_take_of_lt h1] at hj ⊢;exact hcell j v hj
    ·by_cases h2:j<p+nv.length
     ·rw[List.append_assoc,List.getElem?_append_right (by simp;omega),List.getElem?_append_left (by simp;omega)] at hj ⊢;simp only[List.length_take] at hj ⊢;rw[show min p vals.length=p by omega] at hj;rw[show min p c.toList.length=p by omega];exact hj
     ·rw[List.getElem?_append_right (by simp;omega),List.getElem?_drop] at hj ⊢;simp only[List.length_append,List.length_take] at hj ⊢;rw[show p+nv.length+(j-(min p vals.length+nv.length))=j by omega] at hj;rw[show p+nv.length+(j-(min p c.toList.length+nv.length))=j by omega];exact hcell j v hj
  ·have hg:g=r.g:=Nat.le_antisymm (hrow.gen g K hK).1 hm;subst hg;rw[hL] at hK;cases hK;exact⟨hbase,c',t,hheap,by rw[hc's];exact hcs,hlt⟩
  ·have hg:g=r.g:=Nat.le_antisymm (hrow.gen g K hK).1 hm;subst hg;obtain⟨c0,f0,hc0⟩:=hrow.ty u hu hrw r.g K hrow.mg hK;rw[hL] at hK;cases hK;rw[hc] at hc0;cases hc0;exact⟨_,_,hheap⟩
 ·refine Gw.of_block hc hB (fun ds e=>by cases e) (fun r e=>by cases e) hheap ?_ ?_ (fun k hk=>setRow_other w L'.blk k c' hk) (by simp) rfl rfl rfl
  ·intro c0 t0 fr e;cases e;rfl
  ·intro c0 t0 fr e;cases e;rfl
theorem wL {P:Program} {B:Base} {φ:dD} {h:ah} {w:World} {id:Nat} (H:bR P B φ h w) {es:List (List AV)} {sz:Nat} (hsz:0<sz) (hes:∀e∈es,e.length=sz) (hlf:∀e∈es,aB e=true) {vals spare:List Value} (hv:bQ φ es.flatten vals)
 {tot:Nat} (htot:vals.length+spare.length=tot*sz) (t:TypeId) (ty:Option Nat) (hty:∀e,ty=some e→e=t) (hg:B.gh id=some (.row {es,sz,g:=0,m:=0,rw:=true,ty})):
 ∃φ',φ.le φ'∧φ' id 0=some ⟨w.heap.size,0,sz,es.length,tot⟩∧bR P (B.del id) φ' h (w.alloc (.cells (vals++spare).toArray t))∧Gw B w (w.alloc (.cells (vals++spare).toArray t)):=by
 have hnone:=(H.ghost id _ hg).2.2.1;refine have hle:φ.le (φ.add id 0 ⟨w.heap.size,0,sz,es.length,tot⟩):=dD.le_add _ (hnone 0);⟨φ.add id 0 ⟨w.heap.size,0,sz,es.length,tot⟩,hle,dD.add_same _ _ _ _, ?_,Gw.alloc H.base (fun c t' fr e=>by cases e;rfl)⟩
 have hvl:vals.length=es.length*sz:=by rw[←hv.length,nA hes]
 have hkey:∀g L,φ.add id 0 ⟨w.heap.size,0,sz,es.length,tot⟩ id g=some L→g=0∧L=⟨w.heap.size,0,sz,es.length,tot⟩:=by
  intro g L e;by_cases hg:g=0
  ·subst hg;rw[dD.add_same] at e;cases e;exact⟨rfl,rfl⟩
  ·rw[dD.add_other _ _ (by omega),hnone] at e;cases e
 refine H.fill hg rfl rfl (fun ds e=>by cases e)<|⟨Nat.le_refl _,hsz,hes,hlf,⟨_,dD.add_same _ _ _ _,rfl⟩,fun g L e=> ?_,fun g L _ e=> ?_,fun _ g L _ e=> ?_,fun u hu _ g L _ e=> ?_⟩
 ·obtain⟨rfl,rfl⟩:=hkey g L e;exact⟨Nat.le_refl _,rfl⟩
 ·obtain⟨rfl,rfl⟩:=hkey g L e;refine⟨Nat.le_refl _,vals, ?_,fun j v hj=> ?_⟩
  ·rw[List.take_of_length_le (Nat.le_refl _)];exact hv.mono hle
  ·have hjl:=(List.getElem?_eq_some_iff.1 hj).1;simp only[Nat.zero_add];rw[World.cell?_alloc_new];simp[List.getElem?_append_left hjl,hj]
 ·obtain⟨rfl,rfl⟩:=hkey g L e;refine⟨rfl,_,t,heap_alloc_new w _,by simp;omega, ?_⟩;simp only;rcases Nat.lt_or_ge tot es.length with h1 |h1
  ·have h2:(tot+1)*sz≤es.length*sz:=Nat.mul_le_mul_right _ h1;rw[Nat.add_mul] at h2;omega
  ·exact h1
 ·obtain⟨rfl,rfl⟩:=hkey g L e;obtain rfl:=hty u hu;exact⟨_,_,heap_alloc_new w _⟩
theorem yO {P:Program} {B:Base} {φ:dD} {h:ah} {w:World} (H:bR P B φ h w) {es:List (List AV)} {sz:Nat} (hsz:0<sz) (hes:∀e∈es,e.length=sz) (hlf:∀e∈es,aB e=true) {vals spare:List Value} (hv:bQ φ es.flatten vals)
 {tot:Nat} (htot:vals.length+spare.length=tot*sz) (t:TypeId) (ty:Option Nat) (hty:∀e,ty=some e→e=t):
 ∃φ',φ.le φ'∧φ' h.sz 0=some ⟨w.heap.size,0,sz,es.length,tot⟩∧bR P B φ' (newRow h es sz ty) (w.alloc (.cells (vals++spare).toArray t))∧Gw B w (w.alloc (.cells (vals++spare).toArray t)):=by
 have⟨φ',h1,h2,h3,h4⟩:=wL (H.pushGhost (.row {es,sz,g:=0,m:=0,rw:=true,ty}) rfl) hsz hes hlf hv htot t ty hty (Base.add_same _ _ _);rw[Base.del_add H.noGhost] at h3;exact⟨φ',h1,h2,h3,h4⟩
theorem afx {P:Program} {B:Base} {φ:dD} {h:ah} {w:World} (H:bR P B φ h w) {es:List (List AV)} {sz:Nat} (hsz:0<sz) (hes:∀e∈es,e.length=sz) (hlf:∀e∈es,aB e=true) {vals spare:List Value} (hv:bQ φ es.flatten vals)
 {tot:Nat} (htot:vals.length+spare.length=tot*sz) (t:TypeId):
 ∃φ',φ.le φ'∧φ' h.sz 0=some ⟨w.heap.size,0,sz,es.length,tot⟩∧bR P B φ' (newRow h es sz) (w.alloc (.cells (vals++spare).toArray t))∧Gw B w (w.alloc (.cells (vals++spare).toArray t)):=
 yO H hsz hes hlf hv htot t none (fun _ e=>by cases e)
def oC (P:Program) (B:Base) (φ:dD) (h':ah) (v:AV) (w:World) (r:Result Value):Prop:=
 ∃cv w' φ',r= .ok cv w'∧bG φ' v cv∧bR P B φ' h' w'∧φ.le φ'∧Gw B w w'
def aiD (P:Program) (B:Base) (φ:dD) (h':ah) (w:World) (r:Result Unit):Prop:=
 ∃w' φ',r= .ok () w'∧bR P B φ' h' w'∧φ.le φ'∧Gw B w w'
def qK (P:Program) (B:Base) (φ:dD) (h':ah) (v:AV) (w:World) (r:Result Next):Prop:=
 ∃cv w' φ',(r= .ok (.value cv) w'∨(r= .ok .skip w'∧cv=undef))∧bG φ' v cv∧bR P B φ' h' w'∧φ.le φ'∧Gw B w w'
section
variable {P:Program} {B:Base} {φ:dD} {h h':ah} {w:World} {v:AV}
theorem oC.pure {r:Result Value} {cv:Value} (H:bR P B φ h w) (hr:r= .ok cv w) (hv:bG φ v cv):oC P B φ h v w r:=
 ⟨cv,w,φ,hr,hv,H,φ.le_refl,Gw.refl B w⟩
theorem qK.ofV {s:Sem Value} (hs:oC P B φ h' v w (s.run P w)):qK P B φ h' v w ((do let x ←s;Pure.pure (Next.value x):Sem Next).run P w):=by
 exact have⟨cv,w',φ',hr,rest⟩:=hs;⟨cv,w',φ', .inl (by simp[Sem.run_bind,hr]),rest⟩
theorem qK.ofU {s:Sem Unit} (hs:aiD P B φ h' w (s.run P w)):qK P B φ h' (.tup []) w ((do s;Pure.pure Next.skip:Sem Next).run P w):=by
 exact have⟨w',φ',hr,rest⟩:=hs;⟨undef,w',φ', .inr ⟨by simp[hr],rfl⟩, .tup .nil,rest⟩
theorem tY {t:TypeId} {b:Bool} (ht:qm P t=some b) (w:World):(isAgg t).run P w= .ok b w:=by
 unfold qm at ht;unfold isAgg;split at ht<;>rename_i hu
 ·cases ht;simp[Sem.run_bind,run_underlying hu]
 ·cases ht;simp[Sem.run_bind,run_underlying hu]
 ·rename_i d h1 h2;cases ht;rw[Sem.run_bind,run_underlying hu];cases d<;>first |rfl |(exact absurd rfl (h1 _))|(exact absurd rfl (h2 _ _))
 ·cases ht
theorem iJ {t:TypeId} {n:Nat} (ht:sizeT P t=some n) (w:World):(sizeOf t).run P w= .ok n w:=by
 unfold sizeT at ht;cases hi:P.info? t with
 |none=>simp[hi] at ht
 |some i=>simp[hi] at ht;subst ht;simp[sizeOf,typeInfo,hi]
theorem KH {t:TypeId} {n:Nat} (ht:xI P t=some n) (w:World):∃i,(typeInfo t).run P w= .ok i w∧i.bytes=n∧P.info? t=some i:=by
 unfold xI at ht;cases hi:P.info? t with
 |none=>simp[hi] at ht
 |some i=>simp[hi] at ht;exact⟨i,by simp[typeInfo,hi],ht,rfl⟩
theorem lD {t:TypeId} {z:AV} (ht:jv P t=some z) (w:World):∃zv i,(zeroValue t).run P w= .ok zv w∧qp zv=some z∧P.info? t=some i∧i.zero=some zv:=by
 unfold jv at ht;cases hi:P.info? t with
 |none=>simp[hi] at ht
 |some i=>
  cases hz:i.zero with
  |none=>simp[hi,hz] at ht
  |some zv=>simp[hi,hz] at ht;exact⟨zv,i,by simp[zeroValue,typeInfo,hi,hz],ht,rfl,hz⟩
theorem KA {j k:IntKind} (e:nE j=nE k):j=k:=by
 cases j<;>cases k<;>first |rfl |(simp[nE] at e)
theorem zi (k:IntKind) (n:Int):sH k n=k.wrap n:=by
 unfold sH;cases hf:IB k n with
 |false=>rfl
 |true=>
  rw[cond_true]
  symm
  cases k<;>cases n<;>simp only[IB,aI,Bool.false_eq_true] at hf
  all_goals first
   |(rw[IntWalk.i64_in];constructor<;>simp only[Int.ofNat_eq_natCast,Int.negSucc_eq]<;>omega)
   |(rw[IntWalk.u8_in];constructor<;>simp only[Int.ofNat_eq_natCast]<;>omega)
   |(rw[IntWalk.u64_in];constructor<;>simp only[Int.ofNat_eq_natCast]<;>omega)
   |(rw[IntWalk.i32_in];constructor<;>simp only[Int.ofNat_eq_natCast]<;>omega)
   |(rw[IntWalk.u32_in];constructor<;>simp only[Int.ofNat_eq_natCast]<;>omega)
theorem xL (a b:Int):y9 a b=(a==b):=by
 rw[Bool.eq_iff_iff,beq_iff_eq];cases a<;>cases b<;>simp[y9]
 ·omega
theorem Uo (a b:Int):xH a b=true↔a<b:=by
 cases a<;>cases b<;>simp only[xH,bC,Bool.false_eq_true,Int.ofNat_eq_natCast,Int.negSucc_eq]<;>constructor<;>intro<;>first |omega |trivial
theorem zO (a b:Int):xH a b=decide (a<b):=by
 rw[Bool.eq_iff_iff,Uo];simp
theorem TL (a b:Int):(!xH a b)=decide (b≤a):=by
 rw[zO, ←decide_not];congr 1;simp
theorem JD:∀(a b:List Nat),FV a b=(a==b)
 | [],[]=>rfl
 | [],_ :: _=>rfl
 |_ :: _,[]=>rfl
 |x :: a,y :: b=>by
  simp only[FV,List.cons_beq_cons];cases e:Nat.beq x y with
  |true=>rw[cond_true,JD a b];have:=aG.1 e;subst this;simp
  |false=>rw[cond_false];have:=dF.1 e;simp[this]
theorem LD {a b:ByteArray} {l m:List Nat} (ha:a.data.toList.map UInt8.toNat=l) (hb:b.data.toList.map UInt8.toNat=m):FV l m=(a.toList==b.toList):=by
 rw[JD,ByteArray.toList_eq,ByteArray.toList_eq, ←ha, ←hb];rw[Bool.eq_iff_iff,beq_iff_eq,beq_iff_eq];constructor
 ·exact fun e=>List.map_inj_right (fun x y h=>UInt8.toNat.inj h) |>.1 e
 ·intro e;rw[e]
theorem Ns:∀(a b:List UInt8),NR (a.map UInt8.toNat) (b.map UInt8.toNat)=Op.bytesLess a b
 |_,[]=>by cases ‹List UInt8› <;>simp[NR,Op.bytesLess]
 | [],_ :: _=>by simp[NR,Op.bytesLess]
 |x :: a,y :: b=>by
  simp only[List.map_cons,NR,Op.bytesLess];cases e:Nat.blt x.toNat y.toNat with
  |true=>
   have h1:x<y:=UInt8.lt_iff_toNat_lt.2 (bC.1 e);simp[h1]
  |false=>
   have h1:¬x<y:=fun h=>by rw[bC.2 (UInt8.lt_iff_toNat_lt.1 h)] at e;cases e
   cases e2:Nat.beq x.toNat y.toNat with
   |true=>
    have h2:x=y:=UInt8.toNat.inj (aG.1 e2);subst h2;simp[Ns a b]
   |false=>
    have h2:¬x=y:=fun h=>by subst h;rw[aG.2 rfl] at e2;cases e2
    simp[h1,h2]
theorem zG {s:ByteArray} {l:List Nat} (hs:s.data.toList.map UInt8.toNat=l):s.size=l.length:=by
 rw[←hs,List.length_map,Array.length_toList];rfl
theorem VZ {op:BinOp} {x y v:AV} {cx cy:Value} (hx:bG φ x cx) (hy:bG φ y cy) (he:dV op x y=some v) (t:TypeId):∃cv,(binOp op t cx cy).run P w= .ok cv w∧bG φ v cv∧(∀a b,cx≠ .agg a∨cy≠ .agg b)∧(cx≠ .nilIface):=by
 unfold dV at he;split at he
 ·rename_i k a j b;cases hx;cases hy;refine(fun(hh:∃cv,(binOp op t (.int k a) (.int j b)).run P w= .ok cv w∧bG φ v cv)=> ?_) ?_
  ·obtain⟨cv,h1,h2⟩:=hh;exact⟨cv,h1,h2,fun _ _=> .inl (by simp),by simp⟩
  cases hsft:nR op with
  |true=>
   rw[hsft,cond_true] at he;unfold acr at he;cases hneg:xH b 0 with
   |true=>rw[hneg] at he;simp at he
   |false=>
    have hb:¬b<0:=fun h=>by rw[(Uo b 0).2 h] at hneg;cases hneg
    rw[hneg,cond_false] at he;cases op<;>simp[nR] at hsft<;>cases he
    ·exact⟨.int k (k.wrap (a*2 ^ (min b.toNat k.bits))),by simp only[binOp,Op.shift,hb,if_false];rfl, .int _ _⟩
    ·exact⟨.int k (a.fdiv (2 ^ (min b.toNat k.bits))),by simp only[binOp,Op.shift,hb,if_false];rfl, .int _ _⟩
  |false=>
   rw[hsft,cond_false] at he;cases hk:Nat.beq (nE k) (nE j) with
   |false=>rw[hk] at he;simp at he
   |true=>
    rw[hk,cond_true] at he;have:=KA (aG.1 hk);subst this;cases op<;>simp[nR] at hsft<;>simp only[lQ,ahx] at he
    case add=>cases he;exact⟨.int k (k.wrap (a+b)),by simp[binOp,Op.intArith],by rw[zi];exact .int _ _⟩
    case sub=>cases he;exact⟨.int k (k.wrap (a-b)),by simp[binOp,Op.intArith],by rw[zi];exact .int _ _⟩
    case mul=>cases he;exact⟨.int k (k.wrap (a*b)),by simp[binOp,Op.intArith],by rw[zi];exact .int _ _⟩
    case quo=>
     cases hz:y9 b 0 with
     |true=>rw[hz] at he;simp at he
     |false=>
      rw[hz] at he;simp at he;subst he;have hb:¬b=0:=fun e=>by rw[xL,e] at hz;simp at hz
      exact⟨.int k (k.wrap (a.tdiv b)),by simp[binOp,Op.intDiv,hb],by rw[zi];exact .int _ _⟩
    case rem=>
     cases hz:y9 b 0 with
     |true=>rw[hz] at he;simp at he
     |false=>
      rw[hz] at he;simp at he;subst he;have hb:¬b=0:=fun e=>by rw[xL,e] at hz;simp at hz
      exact⟨.int k (a.tmod b),by simp[binOp,Op.intDiv,hb], .int _ _⟩
    case and=>cases he;exact⟨.int k (k.wrap (BitVec.ofInt k.bits a&&& BitVec.ofInt k.bits b).toNat),by simp only[binOp,Op.intBits,ne_eq,not_true_eq_false,if_false];rfl, .int _ _⟩
    case or=>cases he;exact⟨.int k (k.wrap (BitVec.ofInt k.bits a|||BitVec.ofInt k.bits b).toNat),by simp only[binOp,Op.intBits,ne_eq,not_true_eq_false,if_false];rfl, .int _ _⟩
    case xor=>cases he;exact⟨.int k (k.wrap (BitVec.ofInt k.bits a ^^^ BitVec.ofInt k.bits b).toNat),by simp only[binOp,Op.intBits,ne_eq,not_true_eq_false,if_false];rfl, .int _ _⟩
    case andNot=>cases he;exact⟨.int k (k.wrap (BitVec.ofInt k.bits a&&& ~~~ BitVec.ofInt k.bits b).toNat),by simp only[binOp,Op.intBits,ne_eq,not_true_eq_false,if_false];rfl, .int _ _⟩
    case eql=>cases he;exact⟨.bool (a==b),by simp[binOp,Op.intCmp],by rw[xL];exact .bool _⟩
    case neq=>cases he;exact⟨.bool (!(a==b)),by simp[binOp,Op.intCmp,bne],by rw[xL];exact .bool _⟩
    case lss=>cases he;exact⟨.bool (decide (a<b)),by simp[binOp,Op.intCmp],by rw[zO];exact .bool _⟩
    case leq=>cases he;exact⟨.bool (decide (a≤b)),by simp[binOp,Op.intCmp],by rw[TL];exact .bool _⟩
    case gtr=>cases he;exact⟨.bool (decide (b<a)),by simp[binOp,Op.intCmp],by rw[zO];exact .bool _⟩
    case geq=>cases he;exact⟨.bool (decide (b≤a)),by simp[binOp,Op.intCmp],by rw[TL];exact .bool _⟩
 ·rename_i l m;cases hx with
  |str ha=>
   rename_i a;cases hy with
   |str hb=>
    rename_i b;refine(fun(hh:∃cv,(binOp op t (.string a) (.string b)).run P w= .ok cv w∧bG φ v cv)=> ?_) ?_
    ·obtain⟨cv,h1,h2⟩:=hh;exact⟨cv,h1,h2,fun _ _=> .inl (by simp),by simp⟩
    have e1:=LD ha hb;have e2:NR l m=Op.bytesLess a.toList b.toList:=by
     rw[←ha, ←hb,Ns,ByteArray.toList_eq,ByteArray.toList_eq]
    have hsz:((a.size+b.size:Nat):Int)=((l.length+m.length:Nat):Int):=by rw[zG ha,zG hb]
    cases op<;>simp only[Dl] at he<;>try(cases he;done)
    case add=>
     cases hle:Nat.ble (l.length+m.length) most with
     |false=>rw[hle] at he;simp at he
     |true=>
      rw[hle] at he;simp at he;subst he;have h1:=aI.1 hle;unfold most at h1;have h2:¬(IntKind.i64.max<((a.size:Int)+(b.size:Int))):=by
       have:((a.size:Int)+(b.size:Int))=((a.size+b.size:Nat):Int):=by omega
       rw[this,hsz];have:IntKind.i64.max=9223372036854775807:=by rfl
       rw[this];omega
      refine⟨.string (a++b),by simp[binOp,Op.stringOp];omega, .str ?_⟩;rw[←ha, ←hb, ←List.map_append];simp[ByteArray.data_append]
    case eql=>cases he;exact⟨.bool (a.toList==b.toList),by simp only[binOp,Op.stringOp];rfl,by rw[e1];exact .bool _⟩
    case neq=>cases he;exact⟨.bool (!(a.toList==b.toList)),by simp only[binOp,Op.stringOp];rfl,by rw[e1];exact .bool _⟩
    case lss=>cases he;exact⟨.bool (Op.bytesLess a.toList b.toList),by simp only[binOp,Op.stringOp];rfl,by rw[e2];exact .bool _⟩
    case leq=>cases he;exact⟨.bool (Op.bytesLess a.toList b.toList||a.toList==b.toList),by simp only[binOp,Op.stringOp];rfl,by rw[e1,e2];exact .bool _⟩
    case gtr=>cases he;exact⟨.bool (!(Op.bytesLess a.toList b.toList||a.toList==b.toList)),by simp only[binOp,Op.stringOp];rfl,by rw[e1,e2];exact .bool _⟩
    case geq=>cases he;exact⟨.bool (!Op.bytesLess a.toList b.toList),by simp only[binOp,Op.stringOp];rfl,by rw[e2];exact .bool _⟩
 ·cases he
theorem akX {k:IntKind} {n:Int}:(Op.unary .neg (.int k n)).run P w= .ok (.int k (k.wrap (0-n))) w:=by simp[Op.unary,Op.intArith]
theorem WL {t:TypeId} {ag:Bool} {n off:Nat} {l:List AV} {v:AV} {cs:List Value} (hl:bQ φ l cs) (he:mM ag off n l=some v) (hag:qm P t=some ag) (hn:sizeT P t=some n):
 ∃cv,(part t ⟨cs⟩ off).run P w= .ok cv w∧bG φ v cv:=by
 unfold mM at he;cases ag with
 |true=>
  rw[cond_true] at he;cases hle:Nat.ble (off+n) l.length with
  |false=>rw[hle] at he;cases he
  |true=>
   rw[hle,cond_true] at he;cases he;refine⟨.agg ⟨(cs.drop off).take n⟩, ?_, .agg ((hl.drop off).take n)⟩;have hx:(⟨cs⟩:Array Value).extract off (off+n)=⟨(cs.drop off).take n⟩:=by
    apply Array.ext';simp[List.extract_eq_take_drop]
   simp[part,Sem.run_bind,tY hag,iJ hn,hx]
 |false=>
  rw[cond_false,nk] at he;refine have⟨cv,h1,h2⟩:=hl.get he;⟨cv, ?_,h2⟩
  have h3:(⟨cs⟩:Array Value)[off]? =some cv:=by simpa using h1
  simp[part,Sem.run_bind,tY hag,h3]
theorem M8 {ag:Bool} {n:Nat} {x v:AV} {cx:Value} {t:TypeId} (H:bR P B φ h w) (hx:bG φ x cx) (he:dL h ag n x=some v) (hag:qm P t=some ag) (hn:sizeT P t=some n):
 ∃cv,(Instr.loadAt t cx).run P w= .ok cv w∧(∀A,cx= .pointer (some A)→(loadVar t A).run P w= .ok cv w)∧bG φ v cv:=by
 unfold dL at he;split at he
 ·rename_i id g i o;cases hrow:h.row id with
  |none=>simp[hrow] at he
  |some r=>
   rw[hrow] at he;simp only at he;cases hm:Nat.ble r.m g with
   |false=>rw[hm] at he;cases he
   |true=>
    rw[hm,cond_true,nk] at he;cases hi:r.es[i]? with
    |none=>simp[hi] at he
    |some e=>
     rw[hi] at he;simp only at he;cases hx with
     |ptr hL hlt=>
      rename_i L;refine have hr:mU φ id r w:=H.obj id _ (ah.row_some.1 hrow);(fun(hh:∃cv,(loadVar t ⟨L.blk,L.base+i*L.sz+o,none⟩).run P w= .ok cv w∧bG φ v cv)=> ?_) ?_
      ·exact have⟨cv,a,b⟩:=hh;⟨cv,by simp[Instr.loadAt,Instr.sureAddr,a],fun A e=>by cases e;exact a,b⟩
      unfold mM at he;cases ag with
      |true=>
       rw[cond_true] at he;cases hle:Nat.ble (o+n) e.length with
       |false=>rw[hle] at he;cases he
       |true=>
        rw[hle,cond_true] at he;cases he;refine have⟨vs,h1,h2,h3⟩:=Y0 hr hL (aI.1 hm) hlt hi (aI.1 hle);⟨.agg ⟨vs⟩, ?_, .agg h1⟩
        have:=run_loadCells_list (P:=P) w ⟨L.blk,L.base+i*L.sz+o,none⟩ vs h3;rw[h2] at this;simp[loadVar,Sem.run_bind,tY hag,iJ hn,this]
      |false=>
       rw[cond_false,nk] at he;have ho:o<e.length:=(List.getElem?_eq_some_iff.1 he).1;have⟨vs,h1,h2,h3⟩:=Y0 hr hL (aI.1 hm) hlt hi (o:=o) (n:=1) (by omega);obtain⟨cv,h4,h5⟩:=h1.get (i:=0) (a:=v) (by
        rw[List.getElem?_take_of_lt (by omega),List.getElem?_drop];simpa using he)
       refine⟨cv, ?_,h5⟩;have h6:=h3 0 cv h4;rw[Addr.add_lit,Nat.add_zero] at h6;simp[loadVar,Sem.run_bind,tY hag,h6]
 ·cases he
theorem UM {n:Nat} {x v:AV} {cx cv:Value} {t:TypeId} (H:bR P B φ h w) (hx:bG φ x cx) (hv:bG φ v cv) (he:bM h n x v=some h') (hn:sizeT P t=some n):
 aiD P B φ h' w ((Instr.storeAt t cx cv).run P w):=by
 unfold bM at he;split at he
 ·rename_i id g i o;cases hrow:h.row id with
  |none=>
   rw[hrow] at he;simp only at he;cases hc:(Nat.beq n 0&&Nat.beq v.cells.length 0) with
   |false=>rw[hc] at he;cases he
   |true=>
    rw[hc,cond_true] at he;cases he;simp only[Bool.and_eq_true,aG] at hc;obtain⟨rfl,c2⟩:=hc;cases hx with
    |ptr hL hlt=>
     have hcs:cv.cells.toList=[]:=List.eq_nil_of_length_eq_zero (by rw[←hv.cells.length,c2]);have hcz:cv.cells.size=0:=by rw[←Array.length_toList,hcs];rfl
     refine⟨w,φ, ?_,H,φ.le_refl,Gw.refl B w⟩;simp[Instr.storeAt,Instr.sureAddr,storeVar,Sem.run_bind,iJ hn,hcz,hcs,storeCells]
  |some r=>
   rw[hrow] at he;simp only at he;cases hc:(r.rw&&Nat.beq g r.g&&Nat.beq v.cells.length n&&aB v.cells) with
   |false=>rw[hc] at he;cases he
   |true=>
    rw[hc,cond_true,nk] at he;simp only[Bool.and_eq_true,aG] at hc;obtain⟨⟨⟨c1,c2⟩,c3⟩,c4⟩:=hc;subst c2;cases hi:r.es[i]? with
    |none=>simp[hi] at he
    |some e=>
     rw[hi] at he;simp only at he;cases hle:Nat.ble (o+n) e.length with
     |false=>rw[hle] at he;cases he
     |true=>
      rw[hle,cond_true,wD] at he;cases he;have hle:=aI.1 hle;cases hx with
      |ptr hL hlt=>
       rename_i L;have hget:=ah.row_some.1 hrow;have hr:mU φ id r w:=H.obj id _ hget;have hsz:L.sz=r.sz:=(hr.gen _ L hL).2;obtain⟨hilt,hie⟩:=List.getElem?_eq_some_iff.1 hi;have hel:e.length=r.sz:=hr.es e (List.mem_of_getElem? hi);have hfit:i*r.sz+o+v.cells.length≤r.es.length*r.sz:=by
        have:(i+1)*r.sz≤r.es.length*r.sz:=Nat.mul_le_mul_right _ hilt;rw[Nat.add_mul] at this;omega
       obtain⟨w',h1,h2,h3⟩:=Pz H hget c1 hL hv.cells c4 (p:=i*r.sz+o) hfit (es':=r.es.set i (lay e o v.cells))
        (by
          intro x hx;rcases List.mem_or_eq_of_mem_set hx with hx |rfl
          ·exact hr.es x hx
          ·rw[Cm _ _ _ (by omega),hel])
        (by simp) (aiy hr.es hi (by omega)) (by
          intro x hx;rcases List.mem_or_eq_of_mem_set hx with hx |rfl
          ·exact hr.leaf x hx
          ·exact Tm (hr.leaf e (List.mem_of_getElem? hi)) c4 o)
       refine⟨w',φ, ?_,h2,φ.le_refl,h3⟩;have hcs:cv.cells.size=n:=by
        have:=hv.cells.length;rw[c3] at this;simpa using this.symm
       have ha:(⟨L.blk,L.base+i*L.sz+o,none⟩:Addr)=⟨L.blk,L.base+(i*r.sz+o),none⟩:=by rw[hsz,Nat.add_assoc]
       simp[Instr.storeAt,Instr.sureAddr,storeVar,Sem.run_bind,iJ hn,hcs,ha,h1]
 ·cases he
theorem J8 {n id:Nat} {x:AV} {cx:Value} {t:TypeId} (H:bR P B φ h w) (hx:bG φ x cx) (hc:(Nat.beq x.cells.length n&&aB x.cells&&Nat.blt 0 n)=true) (hg:B.gh id=some (.row {es:=[x.cells],sz:=n,g:=0,m:=0,rw:=true})):
 oC P (B.del id) φ h (.ptr id 0 0 0) w ((Instr.box t cx).run P w):=by
 simp only[Bool.and_eq_true,aG,bC] at hc;have⟨⟨c1,c2⟩,c3⟩:=hc;have hcells:=hx.cells;obtain⟨φ',h1,h2,h3,h4⟩:=wL H (es:=[x.cells]) c3 (by intro e he;simp at he;subst he;exact c1) (by intro e he;simp at he;subst he;exact c2) (vals:=cx.cells.toList) (spare:=[]) (by simpa using hcells) (tot:=1)
  (by simp;rw[←c1,hcells.length];simp) t none (fun _ e=>by cases e) hg
 refine⟨.pointer (some ⟨w.heap.size,0,none⟩),_,φ', ?_, ?_,h3,h1,h4⟩
 ·simp[Instr.box,newVar,newRow,Go.newRow]
 ·have:=bG.ptr (φ:=φ') (i:=0) (o:=0) h2 (by simp);simpa using this
theorem aaF {n:Nat} {x v:AV} {cx:Value} {t:TypeId} (H:bR P B φ h w) (hx:bG φ x cx) (he:mo h none n x=some (v,h')):oC P B φ h' v w ((Instr.box t cx).run P w):=by
 unfold mo at he;cases hc:(Nat.beq x.cells.length n&&aB x.cells&&Nat.blt 0 n) with
 |false=>rw[hc] at he;cases he
 |true=>
  rw[hc,cond_true] at he;cases he;have:=J8 (t:=t) (H.pushGhost (.row {es:=[x.cells],sz:=n,g:=0,m:=0,rw:=true}) rfl) hx hc (Base.add_same _ _ _)
  rwa [Base.del_add H.noGhost] at this
theorem Ur {z:List AV} {t:TypeId} {id:Nat} (H:bR P B φ h w) {za:AV} (hz:jv P t=some za) (hzc:za.cells=z) (hc:z.length=0) (hg:B.gh id=some .gone):
 oC P (B.del id) φ h (.ptr id 0 0 0) w ((Instr.alloc t true (.tuple #[])).run P w):=by
 have⟨zv,i,h1,h2,h3,h4⟩:=lD hz w;have hnone:=(H.ghost id _ hg).2.2.1;have hle:=dD.le_add (φ:=φ) (id:=id) (g:=0) ⟨w.heap.size,0,0,1,0⟩ (hnone 0);have hp:=H.fill hg rfl (L:=⟨w.heap.size,0,0,1,0⟩) (ob:= .cells zv.cells t) rfl (fun ds e=>by cases e) trivial;refine⟨.pointer (some ⟨w.heap.size,0,none⟩),_,φ.add id 0 ⟨w.heap.size,0,0,1,0⟩, ?_, ?_,hp,hle,Gw.alloc H.base (fun _ _ _ e=>by cases e;rfl)⟩
 ·simp[Instr.alloc,h1,newVar,Go.newRow]
 ·have:=bG.ptr (φ:=φ.add id 0 ⟨w.heap.size,0,0,1,0⟩) (i:=0) (o:=0) (dD.add_same _ _ _ _) (by simp);simpa using this
theorem Wx {z:List AV} {t:TypeId} {id:Nat} (H:bR P B φ h w) {za:AV} (hz:jv P t=some za) (hzc:za.cells=z) (hc:(Nat.blt 0 z.length&&aB z)=true) (hg:B.gh id=some (.row {es:=[z],sz:=z.length,g:=0,m:=0,rw:=true})):
 oC P (B.del id) φ h (.ptr id 0 0 0) w ((Instr.alloc t true (.tuple #[])).run P w):=by
 have⟨zv,i,h1,h2,h3,h4⟩:=lD hz w;subst hzc;refine have⟨cv,w',φ',a,b⟩:=J8 (t:=t) (n:=za.cells.length) H (oP h2) (by simp only[Bool.and_eq_true] at hc ⊢;exact⟨⟨aG.2 rfl,hc.2⟩,hc.1⟩) hg;⟨cv,w',φ', ?_,b⟩
 simp[Instr.alloc,h1];simpa[Instr.box] using a
theorem yV {z:List AV} (he:qR h z=some (v,h')):v= .ptr h.sz 0 0 0∧∃ob,h'=h.push ob∧((z.length=0∧ob= .gone)∨((Nat.blt 0 z.length&&aB z)=true∧ob= .row {es:=[z],sz:=z.length,g:=0,m:=0,rw:=true})):=by
 unfold qR at he;cases h0:Nat.beq z.length 0 with
 |true=>rw[h0,cond_true] at he;cases he;exact⟨rfl,_,rfl, .inl ⟨aG.1 h0,rfl⟩⟩
 |false=>
  rw[h0,cond_false] at he;cases hl:aB z with
  |false=>rw[hl] at he;cases he
  |true=>
   rw[hl,cond_true] at he;cases he;have:=dF.1 h0;exact⟨rfl,_,rfl, .inr ⟨by rw[bC.2 (by omega)];rfl,rfl⟩⟩
theorem IC {z:List AV} {t:TypeId} {hp:ah} {ob:fC} (H:bR P B φ h w) {za:AV} (hz:jv P t=some za) (hzc:za.cells=z) (he:qR hp z=some (v,hp.push ob)) (hg:B.gh hp.sz=some ob):
 oC P (B.del hp.sz) φ h v w ((Instr.alloc t true (.tuple #[])).run P w):=by
 obtain⟨rfl,ob',e,h1⟩:=yV he;have e:=push_inj e;subst e;rcases h1 with⟨h1,rfl⟩|⟨h1,rfl⟩
 ·exact Ur H hz hzc h1 hg
 ·exact Wx H hz hzc h1 hg
theorem Ud {z:List AV} {v:AV} {t:TypeId} (H:bR P B φ h w) {za:AV} (hz:jv P t=some za) (hzc:za.cells=z) (he:qR h z=some (v,h')):
 oC P B φ h' v w ((Instr.alloc t true (.tuple #[])).run P w):=by
 obtain⟨_,ob,rfl,ho⟩:=yV he;have:=IC (H.pushGhost ob (by rcases ho with⟨_,rfl⟩|⟨_,rfl⟩<;>rfl)) hz hzc he (Base.add_same _ _ _)
 rwa [Base.del_add H.noGhost] at this
end
theorem Uu (off:Nat):∀(l:List Value) (k:Nat) (base:Array Value),off+k+l.length≤base.size→
 ((l.zipIdx k).foldl (fun(cs:Array Value) (x:Value×Nat)=>cs.setIfInBounds (off+x.2) x.1) base).toList=lay base.toList (off+k) l
 | [],k,base,_=>by simp[lay]
 |v :: l,k,base,h=>by
  simp only[List.length_cons] at h;simp only[List.zipIdx_cons,List.foldl_cons];rw[Uu off l (k+1) _ (by simp;omega)];unfold lay;simp only[Array.toList_setIfInBounds,List.length_cons];have:=list_seg_step base.toList (off+k) v l (by simp;omega);rw[show off+(k+1)=off+k+1 by omega];exact this
theorem O9 (off:Nat) (l:Array Value) (base:Array Value) (h:off+l.size≤base.size):
 (l.zipIdx.foldl (fun cs (c,j)=>cs.setIfInBounds (off+j) c) base).toList=lay base.toList off l.toList:=by
 rw[←Array.foldl_toList,Array.toList_zipIdx];exact Uu off l.toList 0 base (by simpa using h)
section
variable {P:Program} {B:Base} {φ:dD} {h h':ah} {w:World} {v:AV} {N:Nat} {ρ:bZ} {a:Act}
theorem BI (hR:lZ φ N ρ a.tmps) (place:Nat→Option (Nat×Nat)) {comp:List (Nat×Operand)→Option (List (Nat×Nat×bB))}
 (hnil:comp []=some []) (hcons:∀i x l r,comp ((i,x) :: l)=some r→∃off n y r',place i=some (off,n)∧bH x=some y∧comp l=some r'∧r=(off,n,y) :: r'):
 ∀(parts:List (Nat×Operand)) (ap:List (Nat×Nat×bB)) (ac:List AV) (cc:Array Value) (r:List AV),comp parts=some ap→bQ φ ac cc.toList→yu ρ ac ap=some r→
  ∃cc',Instr.fill place cc (parts.map fun p=>(p.1,a.eval p.2))=some cc'∧bQ φ r cc'.toList
 | [],ap,ac,cc,r,hc,hv,hf=>by
   rw[hnil] at hc;cases hc;simp[yu] at hf;subst hf;exact⟨cc,by simp[Instr.fill],hv⟩
 |(i,x) :: parts,ap,ac,cc,r,hc,hv,hf=>by
  obtain⟨off,n,y,r',h1,h2,h3,rfl⟩:=hcons i x parts ap hc;simp only[yu] at hf;cases he:ev ρ y with
  |none=>simp[he] at hf
  |some u=>
   rw[he] at hf;simp only at hf;cases hcnd:(Nat.beq u.cells.length n&&Nat.ble (off+n) ac.length&&aB u.cells) with
   |false=>rw[hcnd] at hf;cases hf
   |true=>
    rw[hcnd,cond_true] at hf;simp only[Bool.and_eq_true,aG,aI] at hcnd;have⟨⟨c1,c2⟩,c3⟩:=hcnd;have hu:=bX hR h2 he;have hul:=hu.cells.length;have hcl:=hv.length;simp only[Array.length_toList] at hul hcl;have hfit:off+(a.eval x).cells.size≤cc.size:=by omega
    have hlay:=O9 off (a.eval x).cells cc hfit;have hv':bQ φ (lay ac off u.cells) (lay cc.toList off (a.eval x).cells.toList):=by
     unfold lay;rw[hu.cells.length];exact((hv.take off).append hu.cells).append (hv.drop _)
    rw[←hlay] at hv';refine have⟨cc',e1,e2⟩:=BI hR place hnil hcons parts r' _ _ r h3 hv' hf;⟨cc', ?_,e2⟩
    simp only[List.map_cons,Instr.fill,h1];rw[if_neg (by simp;omega)];exact e1
theorem SA {places:List (Nat×Nat)}:∀i x l r,partsOf places ((i,x) :: l)=some r→∃off n y r',places[i]? =some (off,n)∧bH x=some y∧partsOf places l=some r'∧r=(off,n,y) :: r':=by
 intro i x l r hr;simp only[partsOf] at hr;split at hr
 ·rename_i off n h1;split at hr
  ·rename_i y h2;split at hr
   ·rename_i r' h3;cases hr;exact⟨off,n,y,r',h1,h2,h3,rfl⟩
   ·cases hr
  ·cases hr
 ·cases hr
theorem NH {esz:Nat}:∀i x l r,tO esz ((i,x) :: l)=some r→∃off n y r',some (i*esz,esz)=some (off,n)∧bH x=some y∧tO esz l=some r'∧r=(off,n,y) :: r':=by
 intro i x l r hr;simp only[tO] at hr;split at hr
 ·rename_i y h2;split at hr
  ·rename_i r' h3;cases hr;exact⟨_,_,y,r',rfl,h2,h3,rfl⟩
  ·cases hr
 ·cases hr
theorem nJ {zv:Value} {z:AV} (hz:qp zv=some z):bQ φ z.cells zv.cells.toList:=(oP hz).cells
theorem UW {t:TypeId} {parts:Array (Nat×Operand)} {op:dW} (hR:lZ φ N ρ a.tmps) (H:bR P B φ h w) (hc:kY P (.build t parts)=some op) (he:aN ρ h op=some (v,h')):
 oC P B φ h' v w ((Instr.build t (parts.map fun(i,x)=>(i,a.eval x))).run P w):=by
 simp only[kY,Option.bind_eq_bind,Option.pure_def] at hc;cases hz:jv P t with
 |none=>simp[hz] at hc
 |some z=>
  rw[hz] at hc;simp only[Option.bind_some] at hc;have⟨zv,it,z1,z2,z3,z4⟩:=lD hz w;have hmap:(parts.map fun(i,x)=>(i,a.eval x)).toList=parts.toList.map fun p=>(p.1,a.eval p.2):=by simp
  split at hc
  ·rename_i fs hu;cases hp:fs.toList.mapM (fun f=>(P.info? f.type).map fun i=>(f.offset,i.size)) with
   |none=>simp[hp] at hc
   |some places=>
    rw[hp] at hc;simp only[Option.bind_some] at hc;cases hps:partsOf places parts.toList with
    |none=>simp[hps] at hc
    |some ap=>
     rw[hps] at hc;simp at hc;subst hc;simp only[aN] at he;cases hf:yu ρ z.cells ap with
     |none=>simp[hf] at he
     |some r=>
      rw[hf] at he;simp at he;obtain⟨rfl,rfl⟩:=he;refine have⟨cc',e1,e2⟩:=BI hR (fun i=>places[i]?) (comp:=partsOf places) rfl SA parts.toList ap z.cells zv.cells r hps (nJ z2) hf;oC.pure H (cv:= .agg cc') (run_build w t _ cc' ?_) (.agg e2)
      rw[hmap];unfold Program.built;rw[z3,hu];simp only[z4,hp];simpa using e1
  ·rename_i n e hu;cases hs:sizeT P e with
   |none=>simp[hs] at hc
   |some esz=>
    rw[hs] at hc;simp only[Option.bind_some] at hc;cases hps:tO esz parts.toList with
    |none=>simp[hps] at hc
    |some ap=>
     rw[hps] at hc;simp at hc;subst hc;simp only[aN] at he;cases hf:yu ρ z.cells ap with
     |none=>simp[hf] at he
     |some r=>
      rw[hf] at he;simp at he;obtain⟨rfl,rfl⟩:=he;refine have⟨cc',e1,e2⟩:=BI hR (fun i=>some (i*esz,esz)) (comp:=tO esz) rfl NH parts.toList ap z.cells zv.cells r hps (nJ z2) hf;oC.pure H (cv:= .agg cc') (run_build w t _ cc' ?_) (.agg e2)
      rw[hmap];unfold Program.built;unfold sizeT at hs;cases hi:P.info? e with
      |none=>simp[hi] at hs
      |some ie=>
       simp[hi] at hs;subst hs;rw[z3,hu];simp only[z4,hi];exact e1
  ·cases hc
theorem ze {sz:Nat}:∀(ap:List (Nat×bB)) (es r:List (List AV)),(∀e∈es,e.length=sz∧aB e=true)→kW ρ sz es ap=some r→(∀e∈r,e.length=sz∧aB e=true)∧r.length=es.length
 | [],es,r,hes,hf=>by simp[kW] at hf;subst hf;exact⟨hes,rfl⟩
 |(i,x) :: ap,es,r,hes,hf=>by
  simp only[kW] at hf;split at hf
  ·rename_i u he;cases hcnd:(Nat.beq u.cells.length sz&&Nat.blt i es.length&&aB u.cells) with
   |false=>rw[hcnd] at hf;cases hf
   |true=>
    rw[hcnd,cond_true,wD] at hf;simp only[Bool.and_eq_true,aG] at hcnd;obtain⟨h1,h2⟩:=ze ap _ r (by
     intro e hx;rcases List.mem_or_eq_of_mem_set hx with hx |rfl
     ·exact hes e hx
     ·exact⟨hcnd.1.1,hcnd.2⟩) hf
    exact⟨h1,by simpa using h2⟩
  ·cases hf
theorem vX (hR:lZ φ N ρ a.tmps) {sz:Nat}:∀(parts:List (Nat×Operand)) (ap:List (Nat×bB)) (es:List (List AV)) (cc:Array Value) (r:List (List AV)),
 vD parts=some ap→(∀e∈es,e.length=sz)→bQ φ es.flatten cc.toList→kW ρ sz es ap=some r→
  ∃cc',Instr.fill (fun i=>some (i*sz,sz)) cc (parts.map fun p=>(p.1,a.eval p.2))=some cc'∧bQ φ r.flatten cc'.toList
 | [],ap,es,cc,r,hc,hes,hv,hf=>by
   simp[vD] at hc;subst hc;simp[kW] at hf;subst hf;exact⟨cc,by simp[Instr.fill],hv⟩
 |(i,x) :: parts,ap,es,cc,r,hc,hes,hv,hf=>by
  simp only[vD] at hc;split at hc
  ·rename_i y h2;split at hc
   ·rename_i r' h3;cases hc;simp only[kW] at hf;split at hf
    ·rename_i u he;cases hcnd:(Nat.beq u.cells.length sz&&Nat.blt i es.length&&aB u.cells) with
     |false=>rw[hcnd] at hf;cases hf
     |true=>
      rw[hcnd,cond_true,wD] at hf;simp only[Bool.and_eq_true,aG,bC] at hcnd;have⟨⟨c1,c2⟩,c3⟩:=hcnd;have hu:=bX hR h2 he;have hul:=hu.cells.length;have hcl:=hv.length;have hfl:=nA hes;simp only[Array.length_toList] at hul hcl;have hmul:(i+1)*sz≤es.length*sz:=Nat.mul_le_mul_right _ c2;rw[Nat.add_mul] at hmul;have hfit:i*sz+(a.eval x).cells.size≤cc.size:=by omega
      have hlay:=O9 (i*sz) (a.eval x).cells cc hfit;have hset:(es.set i u.cells).flatten=lay es.flatten (i*sz) u.cells:=by
       rw[LG _ _ _ c2,W9 hes (by intro e he;simp at he;subst he;exact c1)];simp
      have hv':bQ φ (es.set i u.cells).flatten (lay cc.toList (i*sz) (a.eval x).cells.toList):=by
       rw[hset];unfold lay;rw[hu.cells.length];exact((hv.take _).append hu.cells).append (hv.drop _)
      rw[←hlay] at hv';obtain⟨cc',e1,e2⟩:=vX hR parts r' _ _ r h3 (by
       intro e hx;rcases List.mem_or_eq_of_mem_set hx with hx |rfl
       ·exact hes e hx
       ·exact c1) hv' hf
      refine⟨cc', ?_,e2⟩;simp only[List.map_cons,Instr.fill];rw[if_neg (by simp;omega)];exact e1
    ·cases hf
   ·cases hc
  ·cases hc
theorem AZ (z:List Value) (hz:0<z.length):∀(n:Nat),(List.range (n*z.length)).map (fun i=>z.toArray[i%z.length]!)=(List.replicate n z).flatten:=by
 intro n;apply List.ext_getElem?;intro j;by_cases hj:j<n*z.length
 ·have hm:j%z.length<z.length:=Nat.mod_lt _ hz;have hd:j/z.length<n:=by
   rw[Nat.div_lt_iff_lt_mul hz];exact hj
  have h1:(List.replicate n z)[j/z.length]? =some z:=by simp[List.getElem?_replicate,hd]
  have h2:z[j%z.length]? =some z[j%z.length]:=List.getElem?_eq_getElem hm;have:=acZ (sz:=z.length) (es:=List.replicate n z) (fun e he=>by rw[List.eq_of_mem_replicate he]) h1 h2;rw[show j/z.length*z.length+j%z.length=j by rw[Nat.mul_comm];exact Nat.div_add_mod j z.length] at this;rw[this];simp[hj,hm]
 ·have h1:(List.replicate n z).flatten.length=n*z.length:=by
   rw[nA (sz:=z.length) (fun e he=>by rw[List.eq_of_mem_replicate he])];simp
  rw[List.getElem?_eq_none (by simp;omega),List.getElem?_eq_none (by omega)]
theorem CK {zv:Value} (hz:0<zv.cells.size) (n:Nat):((Array.range (n*zv.cells.size)).map (zv.cells[· % zv.cells.size]!))=(List.replicate n zv.cells.toList).flatten.toArray:=by
 apply Array.ext';have:=AZ zv.cells.toList (by simpa using hz) n;simp only[Array.length_toList,Array.toArray_toList] at this;simp only[Array.toList_map,Array.toList_range];exact this
theorem QJ {t:TypeId} {n:Nat} {parts:Array (Nat×Operand)} {op:dW} (hR:lZ φ N ρ a.tmps) (H:bR P B φ h w) (hc:kY P (.buildSlice t n parts)=some op) (he:aN ρ h op=some (v,h')):
 oC P B φ h' v w ((Instr.buildSlice t n (parts.map fun(i,x)=>(i,a.eval x))).run P w):=by
 simp only[kY,Option.bind_eq_bind,Option.pure_def] at hc;split at hc
 ·rename_i e hu;cases hs:sizeT P e with
  |none=>simp[hs] at hc
  |some sz=>
   cases hz:jv P e with
   |none=>simp[hs,hz] at hc
   |some z=>
    cases hps:vD parts.toList with
    |none=>simp[hs,hz,hps] at hc
    |some ap=>
     simp[hs,hz,hps] at hc;subst hc;simp only[aN] at he;cases hcnd:(Nat.beq z.cells.length sz&&Nat.blt 0 sz&&Nat.ble (n*sz) 16777216&&aB z.cells) with
     |false=>rw[hcnd] at he;cases he
     |true=>
      rw[hcnd,cond_true] at he;simp only[Bool.and_eq_true,aG,bC,aI] at hcnd;obtain⟨⟨⟨c1,c2⟩,c3⟩,c4⟩:=hcnd;rw[D7] at he;cases hf:kW ρ sz (List.replicate n z.cells) ap with
      |none=>simp[hf] at he
      |some es=>
       rw[hf] at he;simp at he;obtain⟨rfl,rfl⟩:=he;obtain⟨zv,it,z1,z2,z3,z4⟩:=lD hz w;have hzc:=nJ (φ:=φ) z2;have hzl:zv.cells.size=sz:=by have:=hzc.length;simp only[Array.length_toList] at this;omega
       have hrep:∀e∈List.replicate n z.cells,e.length=sz:=fun e he=>by rw[List.eq_of_mem_replicate he];exact c1
       obtain⟨cc',e1,e2⟩:=vX hR parts.toList ap _ ((List.replicate n zv.cells.toList).flatten.toArray) es hps hrep (by simpa using hzc.replicate n) hf;obtain⟨l0,l2⟩:=ze ap _ es (fun e he=>⟨hrep e he,by rw[List.eq_of_mem_replicate he];exact c4⟩) hf;have l1:∀e∈es,e.length=sz:=fun e he=>(l0 e he).1;simp only[List.length_replicate] at l2;obtain⟨φ',h1,h2,h3,h4⟩:=afx H c2 l1 (fun e he=>(l0 e he).2) (vals:=cc'.toList) (spare:=[]) e2 (tot:=n) (by
        have:=e2.length;rw[nA l1] at this;simp only[List.length_nil,Nat.add_zero];rw[←this,l2]) e
       refine⟨.slice (some ⟨w.heap.size,0,none⟩) n n,_,φ', ?_, ?_,h3,h1,h4⟩
       ·have hnz:¬(n*sz>2 ^ 24):=by omega
        have hmap:(parts.map fun(i,x)=>(i,a.eval x)).toList=parts.toList.map fun p=>(p.1,a.eval p.2):=by simp
        unfold Instr.buildSlice;simp only[Sem.run_bind,run_underlying hu,Result.andThen_ok,iJ hs,hnz,if_false,hmap];by_cases hn:n*sz=0
        ·have hn0:n=0:=by
          rcases Nat.mul_eq_zero.1 hn with h0 |h0
          ·exact h0
          ·omega
         subst hn0;simp only[List.replicate_zero,List.flatten_nil] at e1;have e0:∀f:Nat→Value,Array.map f (Array.range 0)= #[]:=fun f=>by simp
         simp[e0,e1,Go.newRow]
        ·rw[if_neg hn];have hzz:((Array.range (n*sz)).map (zv.cells[· % zv.cells.size]!))=(List.replicate n zv.cells.toList).flatten.toArray:=by
          rw[←hzl];exact CK (by omega) n
         simp only[Sem.run_bind,z1,Result.andThen_ok,Sem.run_pure,hzz];rw[e1];simp[Go.newRow]
       ·have:=bG.slc (φ:=φ') (s:=0) (len:=n) (cap:=n) (c:=n) (off:=0) (ex:=true) h2 (Nat.le_refl _) (by simp only;omega) (by simp only;omega) (Nat.le_refl _) (fun _=>rfl) (fun _=>by simp);exact this
 ·cases hc
theorem Uj {t:TypeId} {n:Nat} {parts:Array (Nat×Operand)} {op:dW} {hp:ah} {ob:fC} (hR:lZ φ N ρ a.tmps) (H:bR P B φ h w) (hc:kY P (.buildSlice t n parts)=some op) (he:aN ρ hp op=some (v,hp.push ob)) (hg:B.gh hp.sz=some ob):
 oC P (B.del hp.sz) φ h v w ((Instr.buildSlice t n (parts.map fun(i,x)=>(i,a.eval x))).run P w):=by
 simp only[kY,Option.bind_eq_bind,Option.pure_def] at hc;split at hc
 ·rename_i e hu;cases hs:sizeT P e with
  |none=>simp[hs] at hc
  |some sz=>
   cases hz:jv P e with
   |none=>simp[hs,hz] at hc
   |some z=>
    cases hps:vD parts.toList with
    |none=>simp[hs,hz,hps] at hc
    |some ap=>
     simp[hs,hz,hps] at hc;subst hc;simp only[aN] at he;cases hcnd:(Nat.beq z.cells.length sz&&Nat.blt 0 sz&&Nat.ble (n*sz) 16777216&&aB z.cells) with
     |false=>rw[hcnd] at he;cases he
     |true=>
      rw[hcnd,cond_true] at he;simp only[Bool.and_eq_true,aG,bC,aI] at hcnd;obtain⟨⟨⟨c1,c2⟩,c3⟩,c4⟩:=hcnd;rw[D7] at he;cases hf:kW ρ sz (List.replicate n z.cells) ap with
      |none=>simp[hf] at he
      |some es=>
       rw[hf] at he;simp only[Option.some.injEq,Prod.mk.injEq] at he;obtain⟨rfl,he⟩:=he;have hob:=push_inj he;subst hob;obtain⟨zv,it,z1,z2,z3,z4⟩:=lD hz w;have hzc:=nJ (φ:=φ) z2;have hzl:zv.cells.size=sz:=by have:=hzc.length;simp only[Array.length_toList] at this;omega
       have hrep:∀e∈List.replicate n z.cells,e.length=sz:=fun e he=>by rw[List.eq_of_mem_replicate he];exact c1
       obtain⟨cc',e1,e2⟩:=vX hR parts.toList ap _ ((List.replicate n zv.cells.toList).flatten.toArray) es hps hrep (by simpa using hzc.replicate n) hf;obtain⟨l0,l2⟩:=ze ap _ es (fun e he=>⟨hrep e he,by rw[List.eq_of_mem_replicate he];exact c4⟩) hf;have l1:∀e∈es,e.length=sz:=fun e he=>(l0 e he).1;simp only[List.length_replicate] at l2;obtain⟨φ',h1,h2,h3,h4⟩:=wL H c2 l1 (fun e he=>(l0 e he).2) (vals:=cc'.toList) (spare:=[]) e2 (tot:=n) (by
        have:=e2.length;rw[nA l1] at this;simp only[List.length_nil,Nat.add_zero];rw[←this,l2]) e none (fun _ e=>by cases e) hg
       refine⟨.slice (some ⟨w.heap.size,0,none⟩) n n,_,φ', ?_, ?_,h3,h1,h4⟩
       ·have hnz:¬(n*sz>2 ^ 24):=by omega
        have hmap:(parts.map fun(i,x)=>(i,a.eval x)).toList=parts.toList.map fun p=>(p.1,a.eval p.2):=by simp
        unfold Instr.buildSlice;simp only[Sem.run_bind,run_underlying hu,Result.andThen_ok,iJ hs,hnz,if_false,hmap];by_cases hn:n*sz=0
        ·have hn0:n=0:=by
          rcases Nat.mul_eq_zero.1 hn with h0 |h0
          ·exact h0
          ·omega
         subst hn0;simp only[List.replicate_zero,List.flatten_nil] at e1;have e0:∀f:Nat→Value,Array.map f (Array.range 0)= #[]:=fun f=>by simp
         simp[e0,e1,Go.newRow]
        ·rw[if_neg hn];have hzz:((Array.range (n*sz)).map (zv.cells[· % zv.cells.size]!))=(List.replicate n zv.cells.toList).flatten.toArray:=by
          rw[←hzl];exact CK (by omega) n
         simp only[Sem.run_bind,z1,Result.andThen_ok,Sem.run_pure,hzz];rw[e1];simp[Go.newRow]
       ·have:=bG.slc (φ:=φ') (s:=0) (len:=n) (cap:=n) (c:=n) (off:=0) (ex:=true) h2 (Nat.le_refl _) (by simp only;omega) (by simp only;omega) (Nat.le_refl _) (fun _=>rfl) (fun _=>by simp);exact this
 ·cases hc
theorem o9 {x:AV} {cx:Value} {n:Nat} (hx:bG φ x cx) (he:asNat x=some n):∃k,cx= .int k n:=by
 unfold asNat at he;split at he
 ·cases he;cases hx;exact⟨_,rfl⟩
 ·cases he
theorem Ww {off f:Nat} {x v:AV} {cx:Value} {t:TypeId} {fs:Array Field} {fl:Field} {m:Nat} (hu:P.underlying t=some (.struct fs)) (hf:fs[f]? =some fl) (hoff:fl.offset=off) (hm:sizeT P fl.type=some (m+1))
 (hx:bG φ x cx) (he:OG off x=some v):∃cv,(Instr.fieldAt t cx f).run P w= .ok cv w∧bG φ v cv:=by
 unfold OG at he;split at he
 ·rename_i id g i o;cases he;cases hx with
  |ptr hL hi=>
   rename_i L;refine⟨.pointer (some ⟨L.blk,L.base+i*L.sz+(o+off),none⟩), ?_, .ptr hL hi⟩;simp only[Instr.fieldAt,Sem.run_bind,run_underlying hu,Result.andThen_ok,hf,Instr.sureAddr,Sem.run_pure,fieldPlace,iJ hm];simp[Addr.add_lit,hoff,Nat.add_assoc]
 ·cases he
theorem aaB {id sz:Nat} (H:bR P B φ h w) (hs:pK h id sz=true) {g:Nat} {L:Loc} (hL:φ id g=some L):L.sz=sz:=by
 unfold pK at hs;cases hr:h.row id with
 |none=>rw[hr] at hs;cases hs
 |some r=>
  rw[hr] at hs;have hrow:mU φ id r w:=H.obj id _ (ah.row_some.1 hr);rw[(hrow.gen g L hL).2];exact aG.1 hs
theorem Xq {x i v:AV} {cx ci:Value} {t e:TypeId} {sz:Nat} (hu:P.underlying t=some (.slice e)) (hs:sizeT P e=some sz) (H:bR P B φ h w) (hx:bG φ x cx) (hi:bG φ i ci) (he:oG h sz x i=some v):
 ∃cv,(Instr.indexAt t cx ci).run P w= .ok cv w∧bG φ v cv:=by
 unfold oG at he;split at he
 ·rename_i id g s len cap ex;cases hn:asNat i with
  |none=>simp[hn] at he
  |some n=>
   rw[hn] at he;simp only at he;cases hc:(Nat.blt n len&&pK h id sz) with
   |false=>rw[hc] at he;cases he
   |true=>
    rw[hc,cond_true] at he;cases he;simp only[Bool.and_eq_true,bC] at hc;obtain⟨k,rfl⟩:=o9 hi hn;cases hx with
    |slc hL h1 h2 h3 h4 h5 h6=>
     rename_i c off L;have hsz:=aaB H hc.2 hL;refine have hoff:=h6 (by omega);⟨.pointer (some ⟨L.blk,L.base+(s+n)*L.sz+0,none⟩), ?_, .ptr hL (by omega)⟩
     have hin:(0:Int)≤(n:Int)∧(n:Int)<(len:Int):=⟨by omega,by omega⟩;simp only[Instr.indexAt,asIntOf,Sem.run_bind,Sem.run_pure,run_underlying hu,Result.andThen_ok,hin,and_self,if_true,iJ hs,Int.toNat_natCast,Addr.add_lit,hoff, ←hsz,Nat.add_zero,Nat.add_mul,Nat.add_assoc]
 ·cases he
theorem WW {x i v:AV} {cx ci:Value} {t:TypeId} (hu:P.underlying t=some .string) (hx:bG φ x cx) (hi:bG φ i ci) (he:mX x i=some v):
 ∃cv,(Instr.index t cx ci).run P w= .ok cv w∧bG φ v cv:=by
 unfold mX at he;split at he
 ·rename_i l;cases hn:asNat i with
  |none=>simp[hn] at he
  |some k=>
   rw[hn] at he;simp only[nk] at he;cases hb:l[k]? with
   |none=>simp[hb] at he
   |some b=>
    rw[hb] at he;cases he;obtain⟨kd,rfl⟩:=o9 hi hn;cases hx with
    |str hs=>
     rename_i s;rw[←hs,List.getElem?_map] at hb;cases hu8:s.data.toList[k]? with
     |none=>simp[hu8] at hb
     |some u=>
      rw[hu8] at hb;simp at hb;subst hb;have hget:s[k]? =some u:=by
       have hlt:k<s.size:=by
        have:=(List.getElem?_eq_some_iff.1 hu8).1;simpa using this
       rw[getElem?_pos s k hlt];have:s.data.toList[k]? =some s[k]:=by
        rw[List.getElem?_eq_getElem (by simpa using hlt)];rfl
       rw[hu8] at this;exact this.symm▸rfl
      refine⟨.int .u8 u.toNat, ?_, .int _ _⟩;have h0:(0:Int)≤(k:Int):=by omega
      simp only[Instr.index,asIntOf,Sem.run_bind,Sem.run_pure,run_underlying hu,Result.andThen_ok,h0,if_true,Int.toNat_natCast,hget]
 ·cases he
theorem aa4 {ag:Bool} {off n f:Nat} {x v:AV} {cx:Value} {t:TypeId} {fs:Array Field} {fl:Field} (hu:P.underlying t=some (.struct fs)) (hf:fs[f]? =some fl) (hoff:fl.offset=off) (hag:qm P fl.type=some ag)
 (hn:sizeT P fl.type=some n) (hx:bG φ x cx) (he:NA ag off n x=some v):∃cv,(Instr.field t cx f).run P w= .ok cv w∧bG φ v cv:=by
 unfold NA at he;split at he
 ·cases hx with
  |agg hl=>
   refine have⟨cv,h1,h2⟩:=WL (w:=w) hl he hag hn;⟨cv, ?_,h2⟩
   simp only[Instr.field,Sem.run_bind,run_underlying hu,Result.andThen_ok,hf,asAgg,Sem.run_pure,hoff,h1]
 ·cases he
theorem abq {i:Nat} {x v:AV} {cx:Value} (hx:bG φ x cx) (he:WS i x=some v):∃cv,(Instr.extract cx i).run P w= .ok cv w∧bG φ v cv:=by
 unfold WS at he;split at he
 ·cases hx with
  |tup hl=>
   rw[nk] at he;have⟨cv,h1,h2⟩:=hl.get he;exact have h3:(⟨‹List Value›⟩:Array Value)[i]? =some cv:=(by simpa using h1);⟨cv,by simp[Instr.extract,h3],h2⟩
 ·cases he
theorem UO {x v:AV} {cx:Value} (hx:bG φ x cx) (he:FT x=some v):v=x∧cx≠ .pointer none∧cx≠ .nilFunc∧cx≠ .nilIface∧(∀m a b,cx≠ .func (.method m) a b):=by
 unfold FT at he;split at he
 ·cases he
 ·cases he
 ·cases he
 ·rename_i h1 h2 h3;cases he;refine⟨rfl, ?_, ?_, ?_, ?_⟩
  ·rintro rfl;cases hx;exact h1 rfl
  ·rintro rfl;cases hx;exact h2 rfl
  ·rintro rfl;cases hx;exact h3 rfl
  ·rintro m a b rfl;cases hx
theorem abh {x v:AV} {cx:Value} (hx:bG φ x cx) (he:abw x=some v):∃cv,(Op.unary .not cx).run P w= .ok cv w∧bG φ v cv:=by
 unfold abw at he;split at he
 ·cases he;cases hx;exact⟨.bool _,by simp[Op.unary], .bool _⟩
 ·cases he
theorem abQ {x v:AV} {cx:Value} (hx:bG φ x cx) (he:abF x=some v):∃cv,(Op.unary .neg cx).run P w= .ok cv w∧bG φ v cv:=by
 unfold abF at he;split at he
 ·cases he;cases hx;exact⟨_,akX,by rw[zi];exact .int _ _⟩
 ·cases he
theorem Uf {x:Option Operand} {y:Option bB} (hx:Bj x=some y):(x=none∧y=none)∨∃a b,x=some a∧y=some b∧bH a=some b:=by
 cases x with
 |none=>simp[Bj] at hx;subst hx;exact .inl ⟨rfl,rfl⟩
 |some a=>
  simp only[Bj] at hx;cases ha:bH a with
  |none=>simp[ha] at hx
  |some b=>simp[ha] at hx;subst hx;exact .inr ⟨a,b,rfl,rfl,ha⟩
theorem IU (hR:lZ φ N ρ a.tmps) {x:Option Operand} {y:Option bB} (hx:Bj x=some y) {d n:Nat} (he:oD ρ d y=some n):
 (x.map a.eval=none∧y=none∧n=d)∨∃k,x.map a.eval=some (.int k n)∧y.isSome=true:=by
 rcases Uf hx with⟨rfl,rfl⟩|⟨p,q,rfl,rfl,hpq⟩
 ·simp[oD] at he;exact .inl ⟨rfl,rfl,he.symm⟩
 ·simp only[oD] at he;cases hv:ev ρ q with
  |none=>simp[hv] at he
  |some v=>
   rw[hv] at he;exact have⟨k,hk⟩:=o9 (bX hR hpq hv) he;.inr ⟨k,by simp[hk],rfl⟩
theorem Ai (k:IntKind) (n y:Nat) (code:BoundsCode) (hle:n≤y):(Instr.sliceBound (.int k n) y code).run P w= .ok n w:=by
 have:(0:Int)≤(n:Int)∧(n:Int)≤(y:Int):=⟨by omega,by omega⟩;simp[Instr.sliceBound,asIntOf,this]
theorem RV {t:TypeId} (hR:lZ φ N ρ a.tmps) (hu:P.underlying t=some .string) {x v:AV} {cx:Value} (hx:bG φ x cx) {lo hi:Option Operand} {lo' hi':Option bB} (hlo:Bj lo=some lo') (hhi:Bj hi=some hi')
 (he:M6 ρ x lo' hi'=some v):∃cv,(Instr.sliceAt t cx (lo.map a.eval) (hi.map a.eval) none).run P w= .ok cv w∧bG φ v cv:=by
 unfold M6 at he;split at he
 ·rename_i l;cases hx with
  |str hs=>
   rename_i s;have hsz:=zG hs;split at he
   ·rename_i hn ln e1 e2;cases hc:(Nat.ble ln hn&&Nat.ble hn l.length) with
    |false=>rw[hc] at he;cases he
    |true=>
     rw[hc,cond_true] at he;cases he;simp only[Bool.and_eq_true,aI] at hc;refine⟨.string (s.extract ln hn), ?_, .str ?_⟩
     ·have hb:(Instr.sliceBounds false s.size s.size (lo.map a.eval) (hi.map a.eval) none).run P w= .ok (ln,hn,s.size) w:=by
       unfold Instr.sliceBounds;rcases IU hR hhi e1 with⟨a1,_,a2⟩|⟨k,a1,_⟩<;>rcases IU hR hlo e2 with⟨b1,_,b2⟩|⟨k',b1,_⟩
       ·rw[a1,b1];simp[a2,b2,hsz]
       ·rw[a1,b1];simp[a2,hsz,Ai (P:=P) (w:=w) k' ln l.length .sliceB (by omega)]
       ·rw[a1,b1];simp[b2,hsz,Ai (P:=P) (w:=w) k hn l.length .sliceAlen (by omega)]
       ·rw[a1,b1];simp[hsz,Ai (P:=P) (w:=w) k hn l.length .sliceAlen (by omega),Ai (P:=P) (w:=w) k' ln hn .sliceB (by omega)]
      simp only[Instr.sliceAt,Instr.slice,Sem.run_bind,run_underlying hu,Result.andThen_ok,Option.isSome_none,Bool.false_eq_true,if_false,hb,Sem.run_pure]
     ·rw[←hs];simp[List.map_take,List.map_drop,ByteArray.data_extract,List.extract_eq_take_drop,List.drop_take]
   ·cases he
 ·cases he
theorem Nh {mx:Bool}:∀{l:List AV} {x v:AV} {cx:Value} {m:List Value},bG φ x cx→bQ φ l m→mmA mx x l=some v→
 ∃cv,(m.foldlM (if mx then Builtin.max2 else Builtin.min2) cx).run P w= .ok cv w∧bG φ v cv
 | [],x,v,cx,m,hx,hl,he=>by
   cases hl;cases x<;>simp[mmA] at he;subst he;exact⟨cx,by simp,hx⟩
 |y :: l,x,v,cx,m,hx,hl,he=>by
  cases hl with
  |cons hy ht=>
   cases x<;>cases y<;>simp only[mmA] at he<;>try(cases he;done)
   rename_i k a j b;cases hk:Nat.beq (nE k) (nE j) with
   |false=>rw[hk] at he;cases he
   |true=>
    rw[hk,cond_true] at he;have:=KA (aG.1 hk);subst this;cases hx;cases hy;refine have⟨cv,h1,h2⟩:=Nh (.int _ _) ht he;⟨cv, ?_,h2⟩
    cases mx with
    |true=>
     simp only[if_true,List.foldlM_cons,Sem.run_bind,Builtin.max2,Sem.run_pure,Result.andThen_ok] at h1 ⊢;rw[←h1];congr 3;rw[cond_true,zO];by_cases hab:a<b<;>simp[hab]
    |false=>
     simp only[Bool.false_eq_true,if_false,List.foldlM_cons,Sem.run_bind,Builtin.min2,Sem.run_pure,Result.andThen_ok] at h1 ⊢;rw[←h1];congr 3;rw[cond_false,zO];by_cases hab:b<a<;>simp[hab]
end
end Go.Ab
