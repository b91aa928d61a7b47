/-
  Texts that the claim hangs on, part 1.
-/
import GoSem.Core.Region
import GoSem.Core.View
import GoSem.Op.Shift
import GoSem.Dispatch
import Derived.WalkKit
import Derived.RangeFuncLeaves
import Derived.RangeFuncRecord
set_option linter.unusedSimpArgs false
set_option linter.unusedVariables false
namespace Go.Ab
inductive L4 where
 |e
 |a (p:L4)
 |b (p:L4)
 |c (p:L4)
 |d (p:L4)
noncomputable def L4.dig (m:Nat) (p:L4):L4:=
 @Nat.rec (fun _=>L4) (.a p) (fun m _=>@Nat.rec (fun _=>L4) (.b p) (fun m _=>@Nat.rec (fun _=>L4) (.c p) (fun _ _=> .d p) m) m) m
noncomputable def XF (f:Nat):Nat→L4:=
 @Nat.rec (fun _=>Nat→L4) (fun _=> .e) (fun _ ih n=>@Nat.rec (fun _=>L4) .e (fun k _=>L4.dig (Nat.mod k 4) (ih (Nat.div k 4))) n) f
noncomputable def path (n:Nat):L4:=XF (Nat.succ n) n
inductive PT (α:Type) where
 |lf
 |nd (v:Option α) (a b c d:PT α)
noncomputable def PT.getL {α:Type} (t:PT α):L4→Option α:=
 @PT.rec α (fun _=>L4→Option α) (fun _=>none) (fun v _ _ _ _ ga gb gc gd p=>@L4.rec (fun _=>Option α) v (fun p _=>ga p) (fun p _=>gb p) (fun p _=>gc p) (fun p _=>gd p) p) t
noncomputable def PT.newL {α:Type} (x:Option α) (p:L4):PT α:=
 @L4.rec (fun _=>PT α) (.nd x .lf .lf .lf .lf) (fun _ r=> .nd none r .lf .lf .lf) (fun _ r=> .nd none .lf r .lf .lf) (fun _ r=> .nd none .lf .lf r .lf) (fun _ r=> .nd none .lf .lf .lf r) p
noncomputable def PT.setL {α:Type} (x:Option α) (t:PT α):L4→PT α:=
 @PT.rec α (fun _=>L4→PT α) (fun p=>PT.newL x p) (fun v a b c d sa sb sc sd p=>
  @L4.rec (fun _=>PT α) (.nd x a b c d) (fun p _=> .nd v (sa p) b c d) (fun p _=> .nd v a (sb p) c d) (fun p _=> .nd v a b (sc p) d) (fun p _=> .nd v a b c (sd p)) p) t
noncomputable def PT.get {α:Type} (t:PT α) (n:Nat):Option α:=t.getL (path n)
noncomputable def PT.setO {α:Type} (t:PT α) (n:Nat) (x:Option α):PT α:=t.setL x (path n)
noncomputable def PT.set {α:Type} (t:PT α) (n:Nat) (x:α):PT α:=t.setL (some x) (path n)
noncomputable section
def nth {α:Type}:List α→Nat→Option α
 | [],_=>none
 |x :: l,n=>match n with |0=>some x |k+1=>nth l k
inductive Yc where
 |func (f:Nat)
 |yield (id:Nat)
inductive AV where
 |bool (b:Bool)
 |int (k:IntKind) (n:Int)
 |str (s:List Nat)
 |ptr (id g i o:Nat)
 |nilPtr
 |slc (id g s len cap:Nat) (ex:Bool)
 |ah
 |emp
 |map (id:Nat)
 |kC
 |itr (id:Nat)
 |fn (f:Yc) (first captured:List AV)
 |nilFn
 |agg (l:List AV)
 |tup (l:List AV)
 |iX
 |ifc (t:Nat) (v:AV)
 |pan (v:AV)
 deriving Inhabited
def jk:AV→Option AV
 | .pan x=>some x
 |_=>none
def AV.cells:AV→List AV
 | .agg l=>l
 |v=>[v]
def AV.leaf:AV→Bool
 | .agg _ | .tup _=>false
 |_=>true
def aD:List AV→Bool
 | []=>true
 |v :: l=>bif v.leaf then aD l else false
inductive bW where
 |t (r:Nat)
 |c (v:AV)
inductive K0 where
 |int |str |bool
inductive KK where
 |leaf (k:K0)
 |st (ks:List K0)
inductive EqK where
 |bool |ptr |slc |map |fn
 |agg (ks:List K0)
 |ifn
inductive fK where
 |mv (x:bW)
 |pick (c a b:bW)
 |alloc (z:List AV)
 |box (ty:Option Nat) (n:Nat) (x:bW)
 |build (z:List AV) (parts:List (Nat×Nat×bW))
 |bslice (n sz:Nat) (z:List AV) (parts:List (Nat×bW))
 |load (ag:Bool) (n:Nat) (a:bW)
 |store (n:Nat) (a v:bW)
 |stw (n:Nat) (a v b:bW)
 |nilck (x:bW)
 |bin (op:BinOp) (x y:bW)
 |eq (neg:Bool) (k:EqK) (x y:bW)
 |not (x:bW)
 |neg (x:bW)
 |conv (k:IntKind) (x:bW)
 |b2s (x:bW)
 |cvs (x:bW)
 |mkfn (f:Nat) (first cap:List bW)
 |mkmap
 |mksl (sz bytes:Nat) (z:List AV) (l c:bW)
 |sl (sz:Nat) (x:bW) (lo hi mx:Option bW)
 |sls (x:bW) (lo hi:Option bW)
 |fadr (off:Nat) (x:bW)
 |fld (ag:Bool) (off n:Nat) (x:bW)
 |iadr (sz:Nat) (x i:bW)
 |iadra (len esz:Nat) (x i:bW)
 |idxs (x i:bW)
 |idxa (ag:Bool) (len esz:Nat) (x i:bW)
 |look (kk:KK) (ok:Bool) (z:AV) (m k:bW)
 |mupd (kk:KK) (m k v:bW)
 |ext (x:bW) (i:Nat)
 |len (k:Nat) (x:bW)
 |cap (x:bW)
 |app (sz bytes:Nat) (s x:bW)
 |appz (sz bytes:Nat) (z:List AV) (s x:bW)
 |copy (sz:Nat) (d s:bW)
 |del (kk:KK) (m k:bW)
 |clr (sz:Nat) (z:List AV) (x:bW)
 |mm (mx:Bool) (xs:List bW)
 |allot (t:Nat) (z:List AV)
 |appb (e:Nat) (s x:bW)
 |uto (x:bW)
 |ufr (t n:Nat) (us:List (Nat×Nat×Nat)) (x:bW)
 |sdat (x:bW)
 |ustr (e:Nat) (p n:bW)
 |rng (x:bW)
 |ent (x:bW)
 |nxt (x:bW)
 |fail
 |call (f:bW) (args:List bW)
 |pnc (x:bW)
 |dfr (f:bW) (args:List bW)
 |rcv
 |mkif (t:Nat) (x:bW)
 |tas (t:Nat) (ok:Bool) (z:AV) (x:bW)
structure aT where
 dst:Option Nat
 op:fK
 grd:Option (Nat×Bool)
inductive Pz where
 |row (es:List (List AV)) (sz g m:Nat) (rw:Bool) (ty:Option Nat)
 |map (es:List (AV×AV×Nat)) (clock:Nat)
 |gvar (b:Nat)
structure Cut where
 rs:List (Nat×AV)
 os:List (Nat×Pz)
 sz:Nat
inductive dz where
 |skip
 |reg (ops:List aT)
 |dreg (n0:List aT) (rest:List (aT×List aT×List aT))
 |seq (a b:dz)
 |cond (c:bW) (a b:dz)
 |block (id:Nat) (c:dz)
 |loop (c:dz)
 |rf (f:bW) (ps:List Nat) (asg body:dz)
 |exit (id:Nat)
 |scope (c:dz) (l:Nat) (r:dz)
 |label (l:Nat)
 |goto (l:Nat)
 |ret
 |refuse
 |keep (ks:List Nat) (c:dz)
 |cut (cs:List Cut) (c:dz)
inductive CQ where
 |normal
 |ret
 |exit (id:Nat)
 |goto (l:Nat)
 |panic (v:AV)
inductive Ka where
 |ready
 |busy
 |done (x:CQ)
 |exh
structure Row where
 es:List (List AV)
 sz:Nat
 g:Nat
 m:Nat
 rw:Bool
 ty:Option Nat:=none
structure adX where
 regs:PT AV
 ps:List Nat
 asg:dz
 body:dz
 st:Ka
inductive fG where
 |row (r:Row)
 |map (es:List (AV×AV×Nat)) (clock:Nat)
 |iter (m:Option Nat) (since:Nat) (seen:List Nat) (stepped:Nat)
 |loop (l:adX)
 |gone
 |rmap (es:List (AV×AV×Nat)) (clock:Nat)
 |dead
 |gvar (b:Nat)
def fG.own:fG→Bool
 | .row r=>r.rw
 | .rmap _ _=>false
 | .dead=>false
 | .gvar _=>false
 |_=>true
structure aj where
 sz:Nat
 t:PT fG
def aj.get (h:aj) (id:Nat):Option fG:=h.t.get id
def aj.put (h:aj) (id:Nat) (o:fG):aj:={h with t:=h.t.set id o}
def aj.push (h:aj) (o:fG):aj:={sz:=h.sz+1,t:=h.t.set h.sz o}
def aj.row (h:aj) (id:Nat):Option Row:=match h.get id with |some (.row r)=>some r |_=>none
def aj.empty:aj:={sz:=0,t:= .lf}
structure St where
 regs:PT AV
 h:aj
abbrev dx:=PT AV
def ev (ρ:dx):bW→Option AV
 | .t r=>ρ.get r
 | .c v=>some v
def evs (ρ:dx):List bW→Option (List AV)
 | []=>some []
 |x :: l=>match ev ρ x with
  |some v=>match evs ρ l with
   |some vs=>some (v :: vs)
   |none=>none
  |none=>none
def mH:IntKind→Nat
 | .i8=>0 | .i16=>1 | .i32=>2 | .i64=>3 | .u8=>4 | .u16=>5 | .u32=>6 | .u64=>7
def Gh:IntKind→Int→Bool
 | .i64, .ofNat m=>Nat.ble m 9223372036854775807
 | .i64, .negSucc m=>Nat.ble m 9223372036854775807
 | .u8, .ofNat m=>Nat.ble m 255
 | .u64, .ofNat m=>Nat.ble m 18446744073709551615
 | .i32, .ofNat m=>Nat.ble m 2147483647
 | .u32, .ofNat m=>Nat.ble m 4294967295
 |_,_=>false
def sO (k:IntKind) (n:Int):Int:=bif Gh k n then n else k.wrap n
def wJ:Int→Int→Bool
 | .ofNat a, .ofNat b=>Nat.blt a b
 | .ofNat _, .negSucc _=>false
 | .negSucc _, .ofNat _=>true
 | .negSucc a, .negSucc b=>Nat.blt b a
def xO:Int→Int→Bool
 | .ofNat a, .ofNat b=>Nat.beq a b
 | .negSucc a, .negSucc b=>Nat.beq a b
 |_,_=>false
def aea (op:BinOp) (k:IntKind) (x y:Int):Option Int:=
 match op with
 | .and=>some (k.wrap (BitVec.ofInt k.bits x&&& BitVec.ofInt k.bits y).toNat)
 | .or=>some (k.wrap (BitVec.ofInt k.bits x|||BitVec.ofInt k.bits y).toNat)
 | .xor=>some (k.wrap (BitVec.ofInt k.bits x ^^^ BitVec.ofInt k.bits y).toNat)
 | .andNot=>some (k.wrap (BitVec.ofInt k.bits x&&& ~~~ BitVec.ofInt k.bits y).toNat)
 |_=>none
def l8 (op:BinOp) (k:IntKind) (x y:Int):Option AV:=
 match op with
 | .add=>some (.int k (sO k (x+y)))
 | .sub=>some (.int k (sO k (x-y)))
 | .mul=>some (.int k (sO k (x*y)))
 | .quo=>bif xO y 0 then none else some (.int k (sO k (x.tdiv y)))
 | .rem=>bif xO y 0 then none else some (.int k (x.tmod y))
 | .eql=>some (.bool (xO x y))
 | .neq=>some (.bool (!xO x y))
 | .lss=>some (.bool (wJ x y))
 | .leq=>some (.bool (!wJ y x))
 | .gtr=>some (.bool (wJ y x))
 | .geq=>some (.bool (!wJ x y))
 | .shl | .shr=>none
 |op=>match aea op k x y with
  |some n=>some (.int k n)
  |none=>none
def abv (op:BinOp) (k:IntKind) (x y:Int):Option AV:=
 bif wJ y 0 then none else
  match op with
  | .shl=>some (.int k (k.wrap (x*2 ^ (min y.toNat k.bits))))
  | .shr=>some (.int k (x.fdiv (2 ^ (min y.toNat k.bits))))
  |_=>none
def DK:List Nat→List Nat→Bool
 | [],[]=>true
 |a :: l,b :: m=>bif Nat.beq a b then DK l m else false
 |_,_=>false
def KQ:List Nat→List Nat→Bool
 |_,[]=>false
 | [],_ :: _=>true
 |a :: x,b :: y=>bif Nat.blt a b then true else bif Nat.beq a b then KQ x y else false
def most:Nat:=1099511627776
def Cq (op:BinOp) (x y:List Nat):Option AV:=
 match op with
 | .add=>bif Nat.ble (x.length+y.length) most then some (.str (x++y)) else none
 | .eql=>some (.bool (DK x y))
 | .neq=>some (.bool (!DK x y))
 | .lss=>some (.bool (KQ x y))
 | .leq=>some (.bool (KQ x y||DK x y))
 | .gtr=>some (.bool (!(KQ x y||DK x y)))
 | .geq=>some (.bool (!KQ x y))
 |_=>none
def ni:BinOp→Bool
 | .shl | .shr=>true
 |_=>false
def eY (op:BinOp):AV→AV→Option AV
 | .int k a, .int j b=>bif ni op then abv op k a b else bif Nat.beq (mH k) (mH j) then l8 op k a b else none
 | .str a, .str b=>Cq op a b
 |_,_=>none
def tF:AV→AV→Option Bool
 | .bool a, .bool b=>some (a==b)
 | .int k a, .int j b=>bif Nat.beq (mH k) (mH j) then some (xO a b) else none
 | .str a, .str b=>some (DK a b)
 |_,_=>none
def nU:List AV→List AV→Option Bool
 | [],[]=>some true
 |a :: l,b :: m=>match tF a b with
  |some true=>nU l m
  |some false=>some false
  |none=>none
 |_,_=>none
def qW:K0→AV→Bool
 | .int, .int _ _=>true
 | .str, .str _=>true
 | .bool, .bool _=>true
 |_,_=>false
def tT:List K0→List AV→Bool
 | [],[]=>true
 |k :: ks,v :: l=>bif qW k v then tT ks l else false
 |_,_=>false
def jR:KK→AV→Bool
 | .leaf k,v=>qW k v
 | .st ks, .agg l=>tT ks l
 |_,_=>false
def Dn:AV→AV→Option Bool
 | .agg l, .agg m=>nU l m
 |a,b=>tF a b
def abA:AV→AV→Option Bool
 | .bool a, .bool b=>some (a==b)
 |_,_=>none
def Vx (h:aj):AV→AV→Option Bool
 | .nilPtr, .nilPtr=>some true
 | .nilPtr, .ptr .. =>some false
 | .ptr .., .nilPtr=>some false
 | .ptr a g i o, .ptr b g' i' o'=>
   bif Nat.beq a b then
    match h.row a with
    |some r=>bif Nat.beq g r.g&&Nat.beq g' r.g&&Nat.blt o r.sz&&Nat.blt o' r.sz then some (Nat.beq i i'&&Nat.beq o o') else none
    |none=>none
   else match h.row a,h.row b with
    |some r,some r'=>bif r.rw&&r'.rw&&Nat.beq g r.g&&Nat.beq g' r'.g then some false else none
    |_,_=>none
 |_,_=>none
def adW:AV→AV→Option Bool
 | .ah, .ah=>some true
 | .slc .., .ah=>some false
 | .ah, .slc .. =>some false
 | .emp, .ah=>some false
 | .ah, .emp=>some false
 |_,_=>none
def adN:AV→AV→Option Bool
 | .kC, .kC=>some true
 | .map _, .kC=>some false
 | .kC, .map _=>some false
 |_,_=>none
def eqFn:AV→AV→Option Bool
 | .nilFn, .nilFn=>some true
 | .fn .., .nilFn=>some false
 | .nilFn, .fn .. =>some false
 |_,_=>none
def Vq (ks:List K0):AV→AV→Option Bool
 | .agg l, .agg m=>bif tT ks l then nU l m else none
 |_,_=>none
def adR:AV→AV→Option Bool
 | .iX, .iX=>some true
 | .ifc _ _, .iX=>some false
 | .iX, .ifc _ _=>some false
 |_,_=>none
def VF (h:aj) (k:EqK) (x y:AV):Option Bool:=
 match k with
 | .ifn=>adR x y
 | .bool=>abA x y
 | .ptr=>Vx h x y
 | .slc=>adW x y
 | .map=>adN x y
 | .fn=>eqFn x y
 | .agg ks=>Vq ks x y
def xI {α:Type}:Nat→α→List α
 |0,_=>[]
 |n+1,x=>x :: xI n x
def mG (ag:Bool) (off n:Nat) (l:List AV):Option AV:=
 bif ag then(bif Nat.ble (off+n) l.length then some (.agg ((l.drop off).take n)) else none)
 else nth l off
def eO (h:aj) (ag:Bool) (n:Nat):AV→Option AV
 | .ptr id g i o=>match h.row id with
   |some r=>bif Nat.ble r.m g then
     (match nth r.es i with
     |some e=>mG ag o n e
     |none=>none)
    else none
   |none=>none
 |_=>none
def l5 {α:Type}:List α→Nat→α→List α
 | [],_,_=>[]
 |x :: l,n,y=>match n with |0=>y :: l |k+1=>x :: l5 l k y
def lay {α:Type} (l:List α) (n:Nat) (new:List α):List α:=l.take n++new++l.drop (n+new.length)
def cZ (h:aj) (n:Nat) (a v:AV):Option aj:=
 match a with
 | .ptr id g i o=>match h.row id with
   |some r=>bif r.rw&&Nat.beq g r.g&&Nat.beq v.cells.length n&&aD v.cells then
     (match nth r.es i with
     |some e=>bif Nat.ble (o+n) e.length then some (h.put id (.row {r with es:=l5 r.es i (lay e o v.cells),m:=r.g})) else none
     |none=>none)
    else none
   |none=>bif Nat.beq n 0&&Nat.beq v.cells.length 0 then some h else none
 |_=>none
def rF:AV→AV→Bool
 | .ptr i _ _ _, .ptr j _ _ _=> !Nat.beq i j
 |_,_=>false
def newRow (h:aj) (es:List (List AV)) (sz:Nat) (ty:Option Nat:=none):aj:=h.push (.row {es,sz,g:=0,m:=0,rw:=true,ty})
def qm (h:aj) (z:List AV):Option (AV×aj):=
 bif Nat.beq z.length 0 then some (.ptr h.sz 0 0 0,h.push .gone) else bif aD z then some (.ptr h.sz 0 0 0,newRow h [z] z.length) else none
def oQ:Option Nat→Option Nat→Option Nat
 |some a,some b=>bif Nat.beq a b then some a else none
 |_,_=>none
def nK (h:aj) (ty:Option Nat) (n:Nat) (v:AV):Option (AV×aj):=
 bif Nat.beq v.cells.length n&&aD v.cells&&Nat.blt 0 n then some (.ptr h.sz 0 0 0,newRow h [v.cells] n ty) else none
def xB (ρ:dx) (cells:List AV):List (Nat×Nat×bW)→Option (List AV)
 | []=>some cells
 |(off,n,x) :: rest=>match ev ρ x with
  |some v=>bif Nat.beq v.cells.length n&&Nat.ble (off+n) cells.length&&aD v.cells then xB ρ (lay cells off v.cells) rest else none
  |none=>none
def lI (ρ:dx) (sz:Nat) (es:List (List AV)):List (Nat×bW)→Option (List (List AV))
 | []=>some es
 |(i,x) :: rest=>match ev ρ x with
  |some v=>bif Nat.beq v.cells.length sz&&Nat.blt i es.length&&aD v.cells then lI ρ sz (l5 es i v.cells) rest else none
  |none=>none
def asNat:AV→Option Nat
 | .int _ (.ofNat n)=>some n
 |_=>none
def nP (ρ:dx) (d:Nat):Option bW→Option Nat
 |none=>some d
 |some x=>match ev ρ x with
  |some v=>asNat v
  |none=>none
def qd (h:aj) (id sz:Nat):Bool:=
 match h.row id with
 |some r=>Nat.beq r.sz sz
 |none=>false
def yu (ρ:dx) (h:aj) (sz:Nat) (x:AV) (lo hi mx:Option bW):Option AV:=
 match x with
 | .slc id g s len cap ex=>
   bif qd h id sz then
   match mx with
   |some m=>match nP ρ 0 (some m),nP ρ len hi,nP ρ 0 lo with
    |some m,some h,some l=>bif Nat.ble l h&&Nat.ble h m&&Nat.ble m cap&&hi.isSome then some (.slc id g (s+l) (h-l) (m-l) true) else none
    |_,_,_=>none
   |none=>match nP ρ len hi,nP ρ 0 lo with
    |some h,some l=>bif Nat.ble l h&&Nat.ble h cap then some (.slc id g (s+l) (h-l) (cap-l) ex) else none
    |_,_=>none
   else none
 | .ah=>
   match nP ρ 0 mx,nP ρ 0 hi,nP ρ 0 lo with
   |some 0,some 0,some 0=>bif mx.isNone||hi.isSome then some .ah else none
   |_,_,_=>none
 | .emp=>
   match nP ρ 0 mx,nP ρ 0 hi,nP ρ 0 lo with
   |some 0,some 0,some 0=>bif mx.isNone||hi.isSome then some .emp else none
   |_,_,_=>none
 |_=>none
def Kq (ρ:dx) (x:AV) (lo hi:Option bW):Option AV:=
 match x with
 | .str s=>match nP ρ s.length hi,nP ρ 0 lo with
   |some h,some l=>bif Nat.ble l h&&Nat.ble h s.length then some (.str ((s.take h).drop l)) else none
   |_,_=>none
 |_=>none
def source (h:aj) (sz:Nat):AV→Option (List (List AV))
 | .ah=>some []
 | .emp=>some []
 | .slc id g s len _ _=>bif Nat.beq len 0 then some [] else match h.row id with
   |some r=>bif Nat.ble r.m g&&Nat.beq r.sz sz then(let l:=(r.es.drop s).take len;bif Nat.beq l.length len then some l else none) else none
   |none=>none
 | .str s=>bif Nat.beq sz 1 then some (s.map fun b=>[.int .u8 (.ofNat b)]) else none
 |_=>none
def iI (h:aj) (sz bytes:Nat) (s:AV) (new:List (List AV)) (ty:Option Nat:=none):Option (AV×aj):=
 match s with
 | .ah=>match new with
   | []=>some (.ah,h)
   |_=>bif Nat.ble (new.length*bytes) most&&Nat.ble new.length most then some (.slc h.sz 0 0 new.length new.length false,newRow h new sz ty) else none
 | .emp=>match new with
   | []=>some (.emp,h)
   |_=>bif Nat.ble (new.length*bytes) most&&Nat.ble new.length most then some (.slc h.sz 0 0 new.length new.length false,newRow h new sz ty) else none
 | .slc id g st len cap ex=>
   match new with
   | []=>some (s,h)
   |_=>match h.row id with
    |none=>none
    |some r=>
     bif Nat.ble ((len+new.length)*bytes) most&&Nat.ble (len+new.length) most&&Nat.beq r.sz sz then
      bif Nat.ble (len+new.length) cap then
       (bif r.rw&&Nat.beq g r.g then some (.slc id g st (len+new.length) cap ex,h.put id (.row {r with es:=lay r.es (st+len) new,m:=r.g})) else none)
      else bif ex then
       (bif Nat.ble r.m g then(let old:=(r.es.drop st).take len;bif Nat.beq old.length len then some (.slc h.sz 0 0 (len+new.length) (len+new.length) false,newRow h (old++new) sz ty) else none) else none)
      else bif r.rw&&Nat.beq g r.g&&Nat.beq st 0 then
       (bif Nat.beq len r.es.length then some (.slc id (r.g+1) 0 (len+new.length) (len+new.length) false,h.put id (.row {r with es:=r.es++new,g:=r.g+1,ty:=oQ r.ty ty}))
       else some (.slc id (r.g+1) 0 (len+new.length) (len+new.length) false,h.put id (.row {r with es:=r.es.take len++new,g:=r.g+1,m:=r.g+1,ty:=oQ r.ty ty})))
      else none
     else none
 |_=>none
def iM (h:aj) (sz bytes:Nat) (s x:AV) (ty:Option Nat:=none):Option (AV×aj):=
 bif Nat.beq sz 0 then none else
 match source h sz x with
 |none=>none
 |some new=>iI h sz bytes s new ty
def Cr (h:aj) (sz id g st:Nat) (new:List (List AV)):Option aj:=
 match h.row id with
 |some r=>bif r.rw&&Nat.beq g r.g&&Nat.beq r.sz sz&&Nat.ble (st+new.length) r.es.length then some (h.put id (.row {r with es:=lay r.es st new,m:=r.g})) else none
 |none=>none
def WL (h:aj) (sz:Nat) (d s:AV):Option (AV×aj):=
 bif Nat.beq sz 0 then none else
 match source h sz s with
 |none=>none
 |some src=>match d with
  | .ah=>some (.int .i64 0,h)
  | .emp=>some (.int .i64 0,h)
  | .slc id g st len _ _=>
    let new:=src.take len
    match new with
    | []=>some (.int .i64 0,h)
    |_=>match Cr h sz id g st new with
     |some h'=>some (.int .i64 (.ofNat new.length),h')
     |none=>none
  |_=>none
def ZX (h:aj) (sz bytes:Nat) (z:List AV) (s x:AV):Option (AV×aj):=
 bif Nat.blt 0 sz&&Nat.beq z.length sz&&aD z then
  (match asNat x with
  |some n=>bif Nat.ble n most&&Nat.ble (n*bytes) most then iI h sz bytes s (xI n z) else none
  |none=>none)
 else none
def nH (k:AV):List (AV×AV×Nat)→Option (Option AV)
 | []=>some none
 |(k',v,_) :: l=>match Dn k k' with
  |some true=>some (some v)
  |some false=>nH k l
  |none=>none
def Sm (k v:AV):List (AV×AV×Nat)→List (AV×AV×Nat)
 | []=>[]
 |(k',v',b) :: l=>match Dn k k' with
  |some true=>(k,v,b) :: l
  |_=>(k',v',b) :: Sm k v l
def XT (k:AV):List (AV×AV×Nat)→List (AV×AV×Nat)
 | []=>[]
 |(k',v',b) :: l=>match Dn k k' with
  |some true=>l
  |_=>(k',v',b) :: XT k l
def mapOf (h:aj):AV→Option (List (AV×AV×Nat)×Nat)
 | .map id=>match h.get id with
   |some (.map es c)=>some (es,c)
   |some (.rmap es c)=>some (es,c)
   |_=>none
 | .kC=>some ([],0)
 |_=>none
def tJ (h:aj) (kk:KK) (ok:Bool) (z m k:AV):Option AV:=
 bif jR kk k then
  match mapOf h m with
  |some (es,_)=>match nH k es with
   |some (some v)=>some (bif ok then .tup [v, .bool true] else v)
   |some none=>some (bif ok then .tup [z, .bool false] else z)
   |none=>none
  |none=>none
 else none
def lq (h:aj) (kk:KK) (m k v:AV):Option aj:=
 bif jR kk k then
  match m with
  | .map id=>match h.get id with
    |some (.map es c)=>match nH k es with
     |some (some _)=>some (h.put id (.map (Sm k v es) c))
     |some none=>some (h.put id (.map (es++[(k,v,c)]) (c+1)))
     |none=>none
    |_=>none
  |_=>none
 else none
def ade (h:aj) (kk:KK) (m k:AV):Option aj:=
 bif jR kk k then
  match m with
  | .kC=>some h
  | .map id=>match h.get id with
    |some (.map es c)=>match nH k es with
     |some (some _)=>some (h.put id (.map (XT k es) c))
     |some none=>some h
     |none=>none
    |_=>none
  |_=>none
 else none
def AX (h:aj) (k:Nat) (x:AV):Option AV:=
 match k,x with
 |0, .str s=>some (.int .i64 (.ofNat s.length))
 |1, .slc _ _ _ n _ _=>some (.int .i64 (.ofNat n))
 |1, .ah=>some (.int .i64 0)
 |1, .emp=>some (.int .i64 0)
 |2, .kC=>some (.int .i64 0)
 |2, .map id=>match h.get id with
  |some (.map es _)=>some (.int .i64 (.ofNat es.length))
  |some (.rmap es _)=>some (.int .i64 (.ofNat es.length))
  |_=>none
 |_,_=>none
def adD:AV→Option AV
 | .ah=>some (.int .i64 0)
 | .emp=>some (.int .i64 0)
 | .slc _ _ _ _ c true=>some (.int .i64 (.ofNat c))
 |_=>none
def bytesOf:List (List AV)→Option (List Nat)
 | []=>some []
 | [.int .u8 (.ofNat n)] :: l=>match bytesOf l with
   |some r=>bif Nat.blt n 256 then some (n :: r) else none
   |none=>none
 |_=>none
def mmA (mx:Bool):AV→List AV→Option AV
 | .int k a,[]=>some (.int k a)
 | .int k a, .int j b :: l=>bif Nat.beq (mH k) (mH j) then mmA mx (.int k (bif mx then(bif wJ a b then b else a) else(bif wJ b a then b else a))) l else none
 |_,_=>none
def bQ (o:Option AV) (h:aj):Option (AV×aj):=
 match o with
 |some v=>some (v,h)
 |none=>none
def unit (o:Option aj):Option (AV×aj):=
 match o with
 |some h=>some (.tup [],h)
 |none=>none
def tQ (ρ:dx) (x:bW) (f:AV→Option AV):Option AV:=
 match ev ρ x with
 |some v=>f v
 |none=>none
def Ze (ρ:dx) (x y:bW) (f:AV→AV→Option AV):Option AV:=
 match ev ρ x with
 |some v=>(match ev ρ y with
  |some w=>f v w
  |none=>none)
 |none=>none
def XY:AV→Option AV
 | .bool b=>some (.bool (!b))
 |_=>none
def YI:AV→Option AV
 | .int k n=>some (.int k (sO k (0-n)))
 |_=>none
def WI (k:IntKind):AV→Option AV
 | .int _ n=>some (.int k (sO k n))
 |_=>none
def aei:AV→Option AV
 | .str s=>some (.str s)
 |_=>none
def Er:AV→Option AV
 | .nilPtr=>none
 | .nilFn=>none
 | .iX=>none
 |v=>some v
def ME (off:Nat):AV→Option AV
 | .ptr id g i o=>some (.ptr id g i (o+off))
 |_=>none
def KV (ag:Bool) (off n:Nat):AV→Option AV
 | .agg l=>mG ag off n l
 |_=>none
def qj (h:aj) (sz:Nat):AV→AV→Option AV
 | .slc id g s len _ _,v=>match asNat v with
   |some i=>bif Nat.blt i len&&qd h id sz then some (.ptr id g (s+i) 0) else none
   |none=>none
 |_,_=>none
def NR (len esz:Nat):AV→AV→Option AV
 | .ptr id g j o,v=>match asNat v with
   |some i=>bif Nat.blt i len then some (.ptr id g j (o+i*esz)) else none
   |none=>none
 |_,_=>none
def mP:AV→AV→Option AV
 | .str s,v=>match asNat v with
   |some i=>match nth s i with
    |some b=>some (.int .u8 (.ofNat b))
    |none=>none
   |none=>none
 |_,_=>none
def Xb (ag:Bool) (len esz:Nat):AV→AV→Option AV
 | .agg l,v=>match asNat v with
   |some i=>bif Nat.blt i len then mG ag (i*esz) esz l else none
   |none=>none
 |_,_=>none
def UL (i:Nat):AV→Option AV
 | .tup l=>nth l i
 |_=>none
def abX (h:aj) (v:AV):Option AV:=
 match v with
 | .ah=>some (.str [])
 | .emp=>some (.str [])
 | .slc .. =>match source h 1 v with
   |some l=>match bytesOf l with
    |some s=>some (.str s)
    |none=>none
   |none=>none
 |_=>none
def UC (h:aj):AV→Option AV
 | .nilPtr=>some .nilPtr
 | .ptr id g i o=>match h.row id with
   |some r=>bif r.rw&&Nat.ble r.m g&&Nat.beq g r.g&&Nat.blt i r.es.length&&Nat.blt o r.sz then some (.ptr id g i o) else none
   |none=>none
 |_=>none
def FB:List (Nat×Nat×Nat)→Nat→Nat→Nat→Bool
 | [],_,_,_=>false
 |(a,b,c) :: l,u,s,o=>bif Nat.beq a u&&Nat.beq b s&&Nat.beq c o then true else FB l u s o
def TY (h:aj) (t n:Nat) (us:List (Nat×Nat×Nat)):AV→Option AV
 | .nilPtr=>some .nilPtr
 | .ptr id g i o=>match h.row id with
   |some r=>(match r.ty with
    |some u=>bif r.rw&&Nat.ble r.m g&&Nat.beq g r.g&&Nat.beq i 0&&Nat.blt 0 r.es.length&&((Nat.beq u t&&Nat.beq o 0&&Nat.beq r.sz n)||FB us u r.sz o) then some (.ptr id g i o) else none
    |none=>none)
   |none=>none
 |_=>none
def J5:AV→Option AV
 | .ah=>some .nilPtr
 | .slc id g s _ cap _=>bif Nat.blt 0 cap then some (.ptr id g s 0) else none
 |_=>none
def Gf (h:aj) (e:Nat) (p n:AV):Option (AV×aj):=
 match n with
 | .int .i64 (.ofNat k)=>match p with
   | .nilPtr=>bif Nat.beq k 0 then some (.str [],h) else none
   | .ptr id g i o=>bif Nat.beq k 0 then some (.str [],h) else
     match h.row id with
     |some r=>(match r.ty with
      |some u=>bif r.rw&&Nat.beq g r.g&&Nat.beq u e&&Nat.beq i 0&&Nat.beq o 0&&Nat.beq r.sz 1&&Nat.ble k most then
        (let l:=r.es.take k
         bif Nat.beq l.length k then
          (match bytesOf l with
          |some s=>some (.str s,h.put id .gone)
          |none=>none)
         else none)
       else none
      |none=>none)
     |none=>none
   |_=>none
 |_=>none
def Cn (h:aj) (sz bytes:Nat) (z:List AV) (l c:AV):Option (AV×aj):=
 match asNat l,asNat c with
 |some l,some c=>bif Nat.ble l c&&Nat.ble (c*bytes) most&&Nat.ble c most&&Nat.beq z.length sz&&Nat.blt 0 sz&&aD z then some (.slc h.sz 0 0 l c true,newRow h (xI c z) sz) else none
 |_,_=>none
def acE (h:aj) (sz:Nat) (z:List AV) (v:AV):Option aj:=
 match v with
 | .ah=>some h
 | .emp=>some h
 | .slc id g st len _ _=>bif Nat.beq len 0 then some h else bif Nat.beq z.length sz&&aD z&&Nat.blt 0 sz then Cr h sz id g st (xI len z) else none
 |_=>none
def adx (h:aj) (v:AV):Option (AV×aj):=
 match v with
 | .kC=>some (.itr h.sz,h.push (.iter none 0 [] 0))
 | .map id=>match h.get id with
   |some (.map _ c)=>some (.itr h.sz,h.push (.iter (some id) c [] c))
   |_=>none
 |_=>none
def jQ:Nat→List Nat→Bool
 |_,[]=>false
 |n,m :: l=>bif Nat.beq n m then true else jQ n l
def Mt (es:List (AV×AV×Nat)) (since:Nat) (seen:List Nat):List (Option (AV×AV×Nat)):=
 let left:=es.filter fun e=> !jQ e.2.2 seen
 let old:=left.filter fun e=>Nat.blt e.2.2 since
 let new:=left.filter fun e=> !Nat.blt e.2.2 since
 (bif old.isEmpty then [none] else [])++(old++new).map some
def xH (b:Nat):List (AV×AV×Nat)→Option (AV×AV×Nat)
 | []=>none
 |e :: l=>bif Nat.beq e.2.2 b then some e else xH b l
def ab1 (h:aj):AV→Option AV
 | .itr id=>match h.get id with
   |some (.iter (some m) _ (b :: _) stepped)=>match h.get m with
    |some (.map es clock)=>bif Nat.beq clock stepped then
      (match xH b es with
      |some e=>some (.tup [e.1,e.2.1])
      |none=>none)
     else none
    |_=>none
   |_=>none
 |_=>none
def Pf (t:Nat) (v:AV):Option AV:=
 match v with
 | .tup _=>none
 | .pan _=>none
 |v=>some (.ifc t v)
def acF (t:Nat) (ok:Bool) (z:AV):AV→Option AV
 | .ifc u v=>bif Nat.beq u t then some (bif ok then .tup [v, .bool true] else v) else bif ok then some (.tup [z, .bool false]) else none
 | .iX=>bif ok then some (.tup [z, .bool false]) else none
 |_=>none
def aN (ρ:dx) (h:aj) (op:fK):Option (AV×aj):=
 match op with
 | .mv x=>bQ (ev ρ x) h
 | .pick c a b=>match ev ρ c with
   |some (.bool true)=>bQ (ev ρ a) h
   |some (.bool false)=>bQ (ev ρ b) h
   |_=>none
 | .alloc z=>qm h z
 | .box ty n x=>match ev ρ x with
   |some v=>nK h ty n v
   |none=>none
 | .build z parts=>match xB ρ z parts with
   |some l=>some (.agg l,h)
   |none=>none
 | .bslice n sz z parts=>bif Nat.beq z.length sz&&Nat.blt 0 sz&&Nat.ble (n*sz) 16777216&&aD z then
    (match lI ρ sz (xI n z) parts with
    |some es=>some (.slc h.sz 0 0 n n true,newRow h es sz)
    |none=>none)
   else none
 | .load ag n a=>bQ (tQ ρ a (eO h ag n)) h
 | .store n a v=>match ev ρ a,ev ρ v with
   |some a,some v=>unit (cZ h n a v)
   |_,_=>none
 | .stw n a v b=>match ev ρ a,ev ρ v,ev ρ b with
   |some a,some v,some b=>bif rF a b then unit (cZ h n a v) else none
   |_,_,_=>none
 | .nilck x=>bQ (tQ ρ x Er) h
 | .bin op x y=>bQ (Ze ρ x y (eY op)) h
 | .eq neg k x y=>match ev ρ x,ev ρ y with
   |some a,some b=>match VF h k a b with
    |some r=>some (.bool (bif neg then !r else r),h)
    |none=>none
   |_,_=>none
 | .not x=>bQ (tQ ρ x XY) h
 | .neg x=>bQ (tQ ρ x YI) h
 | .conv k x=>bQ (tQ ρ x (WI k)) h
 | .b2s x=>bQ (tQ ρ x (abX h)) h
 | .cvs x=>bQ (tQ ρ x aei) h
 | .mkfn f first cap=>match evs ρ first,evs ρ cap with
   |some a,some b=>some (.fn (.func f) a b,h)
   |_,_=>none
 | .mkmap=>some (.map h.sz,h.push (.map [] 0))
 | .mksl sz bytes z l c=>match ev ρ l,ev ρ c with
   |some l,some c=>Cn h sz bytes z l c
   |_,_=>none
 | .sl sz x lo hi mx=>bQ (tQ ρ x fun v=>yu ρ h sz v lo hi mx) h
 | .sls x lo hi=>bQ (tQ ρ x fun v=>Kq ρ v lo hi) h
 | .fadr off x=>bQ (tQ ρ x (ME off)) h
 | .fld ag off n x=>bQ (tQ ρ x (KV ag off n)) h
 | .iadr sz x i=>bQ (Ze ρ x i (qj h sz)) h
 | .iadra len esz x i=>bQ (Ze ρ x i (NR len esz)) h
 | .idxs x i=>bQ (Ze ρ x i mP) h
 | .idxa ag len esz x i=>bQ (Ze ρ x i (Xb ag len esz)) h
 | .look kk ok z m k=>bQ (Ze ρ m k (tJ h kk ok z)) h
 | .mupd kk m k v=>match ev ρ m,ev ρ k,ev ρ v with
   |some m,some k,some v=>unit (lq h kk m k v)
   |_,_,_=>none
 | .ext x i=>bQ (tQ ρ x (UL i)) h
 | .len k x=>bQ (tQ ρ x (AX h k)) h
 | .cap x=>bQ (tQ ρ x adD) h
 | .app sz bytes s x=>match ev ρ s,ev ρ x with
   |some s,some x=>iM h sz bytes s x
   |_,_=>none
 | .appz sz bytes z s x=>match ev ρ s,ev ρ x with
   |some s,some x=>ZX h sz bytes z s x
   |_,_=>none
 | .allot t z=>bif Nat.blt 0 z.length&&aD z then some (.ptr h.sz 0 0 0,newRow h [z] z.length (some t)) else none
 | .appb e s x=>match ev ρ s,ev ρ x with
   |some s,some x=>iM h 1 1 s x (some e)
   |_,_=>none
 | .uto x=>bQ (tQ ρ x (UC h)) h
 | .ufr t n us x=>bQ (tQ ρ x (TY h t n us)) h
 | .sdat x=>bQ (tQ ρ x J5) h
 | .ustr e p n=>match ev ρ p,ev ρ n with
   |some p,some n=>Gf h e p n
   |_,_=>none
 | .copy sz d s=>match ev ρ d,ev ρ s with
   |some d,some s=>WL h sz d s
   |_,_=>none
 | .rng x=>match ev ρ x with
   |some v=>adx h v
   |none=>none
 | .ent x=>bQ (tQ ρ x (ab1 h)) h
 | .nxt _=>none
 | .del kk m k=>match ev ρ m,ev ρ k with
   |some m,some k=>unit (ade h kk m k)
   |_,_=>none
 | .clr sz z x=>match ev ρ x with
   |some v=>unit (acE h sz z v)
   |none=>none
 | .mm mx xs=>match evs ρ xs with
   |some (v :: l)=>bQ (mmA mx v l) h
   |_=>none
 | .mkif t x=>bQ (tQ ρ x (Pf t)) h
 | .tas t ok z x=>bQ (tQ ρ x (acF t ok z)) h
 | .fail=>none
 | .call .. =>none
 | .pnc _=>none
 | .dfr .. =>none
 | .rcv=>none
def Sk:Yc→Yc→Bool
 | .func f, .func g=>Nat.beq f g
 | .yield a, .yield b=>Nat.beq a b
 |_,_=>false
mutual
def AV.same:AV→AV→Bool
 | .bool a, .bool b=>a==b
 | .int k a, .int j b=>Nat.beq (mH k) (mH j)&&xO a b
 | .str a, .str b=>DK a b
 | .ptr a b c d, .ptr a' b' c' d'=>Nat.beq a a'&&Nat.beq b b'&&Nat.beq c c'&&Nat.beq d d'
 | .nilPtr, .nilPtr=>true
 | .slc a b c d e f, .slc a' b' c' d' e' f'=>Nat.beq a a'&&Nat.beq b b'&&Nat.beq c c'&&Nat.beq d d'&&Nat.beq e e'&&(f==f')
 | .ah, .ah=>true
 | .emp, .emp=>true
 | .map a, .map b=>Nat.beq a b
 | .kC, .kC=>true
 | .fn f a b, .fn f' a' b'=>Sk f f'&&xg a a'&&xg b b'
 | .nilFn, .nilFn=>true
 | .agg l, .agg m=>xg l m
 | .tup l, .tup m=>xg l m
 | .iX, .iX=>true
 | .ifc t v, .ifc u w=>Nat.beq t u&&AV.same v w
 |_,_=>false
def xg:List AV→List AV→Bool
 | [],[]=>true
 |a :: l,b :: m=>AV.same a b&&xg l m
 |_,_=>false
end
abbrev aM:=AV→aj→Bool
abbrev bI:=Yc→List AV→aj→aM→Bool
abbrev KSt:=AV→St→Bool
abbrev oC:=CQ→St→Bool
def put (ρ:dx) (dst:Option Nat) (v:AV):dx:=
 match dst with
 |some d=>ρ.set d v
 |none=>ρ
def fC (ρ:dx):Option (Nat×Bool)→Option Bool
 |none=>some true
 |some (d,b)=>match ρ.get d with
  |some (.bool c)=>some (c==b)
  |some _=>some false
  |none=>none
def IU (h:aj) (v:AV) (K:aM):Bool:=
 match v with
 | .itr id=>match h.get id with
   |some (.iter none _ _ _)=>K (.tup [.bool false]) h
   |some (.iter (some m) since seen last)=>match h.get m with
    |some (.map es clock)=>
     bif !seen.isEmpty&& !es.isEmpty&&es.all (fun e=> !Nat.blt e.2.2 last) then false
     else(Mt es since seen).all fun
      |none=>K (.tup [.bool false]) h
      |some e=>K (.tup [.bool true,e.1,e.2.1]) (h.put id (.iter (some m) since (e.2.2 :: seen) clock))
    |_=>false
   |_=>false
 |_=>false
def gM (call:bI) (ρ:dx) (h:aj) (op:fK) (K:aM):Bool:=
 match op with
 | .call f args=>match ev ρ f,evs ρ args with
   |some (.fn tgt first cap),some as=>call tgt (first++as++cap) h K
   |_,_=>false
 | .nxt x=>match ev ρ x with
   |some v=>IU h v K
   |none=>false
 | .pnc x=>match ev ρ x with
   |some (.ifc t v)=>K (.pan (.ifc t v)) h
   |_=>false
 |op=>match aN ρ h op with
  |some (v,h')=>K v h'
  |none=>false
def dH:fK→Bool
 | .call .. =>true
 | .nxt _=>true
 | .pnc _=>true
 | .dfr .. =>true
 | .rcv=>true
 |_=>false
def pR (c:Bool) (v:AV):Option AV:=bif c then jk v else none
def zP (ρ:dx) (c:Bool) (dst:Option Nat) (v:AV):dx:=
 match pR c v with
 |some _=>ρ
 |none=>put ρ dst v
def jM (call:bI) (o:aT) (σ:St) (K:KSt):Bool:=
 match fC σ.regs o.grd with
 |some true=>gM call σ.regs σ.h o.op fun v h'=>K v ⟨zP σ.regs (dH o.op) o.dst v,h'⟩
 |some false=>K (.tup []) ⟨put σ.regs o.dst (.tup []),σ.h⟩
 |none=>false
def nL (call:bI):List aT→St→oC→Bool
 | [],σ,K=>K .normal σ
 |o :: l,σ,K=>jM call o σ fun v σ'=>match pR (dH o.op) v with
  |some x=>K (.panic x) σ'
  |none=>nL call l σ' K
def pF:List aT→dx→aj→Option dx
 | [],ρ,_=>some ρ
 |o :: l,ρ,h=>match fC ρ o.grd with
  |some true=>(match aN ρ h o.op with
   |some (v,_)=>pF l (put ρ o.dst v) h
   |none=>none)
  |some false=>pF l (put ρ o.dst (.tup [])) h
  |none=>none
def mF (ρ:dx) (h:aj) (o:aT):Bool:=
 match fC ρ o.grd with
 |some true=>(match aN ρ h o.op with
  |some (v,_)=>(match o.dst with
   |some d=>(match ρ.get d with
    |some u=>AV.same v u
    |none=>false)
   |none=>true)
  |none=>false)
 |some false=>true
 |none=>false
def again (ρ:dx) (h:aj):List aT→Bool
 | []=>true
 |o :: l=>bif mF ρ h o then again ρ h l else false
def iQ (o:aT):Bool:=
 match o.grd with
 |some _=>false
 |none=>match o.op with
  | .alloc _ | .allot _ _ | .box _ _ _ | .mkmap | .mksl _ _ _ _ _ | .bslice _ _ _ _=>true
  |_=>false
def nX:List Nat→aj→Option aj
 | [],h=>some h
 |id :: l,h=>match h.get id with
  |some o=>bif o.own then nX l (h.put id .gone) else none
  |none=>none
def ou (call:bI) (ρ0:dx):List Nat→List (aT×List aT×List aT)→St→oC→Bool
 |_,[],σ,K=>K .normal σ
 |es,(act,chk,ns) :: rest,σ,K=>jM call act σ fun v σ'=>match pR (dH act.op) v with
  |some x=>(match nX es σ'.h with
   |some h=>K (.panic x) ⟨ρ0,h⟩
   |none=>false)
  |none=>
   bif again σ'.regs σ'.h chk then
    (match pF ns σ'.regs σ'.h with
    |some ρ=>ou call ρ0 (bif iQ act then σ.h.sz :: es else es) rest ⟨ρ,σ'.h⟩ K
    |none=>false)
   else false
def unset (ρ:dx):Option Nat→dx
 |some d=>ρ.setO d none
 |none=>ρ
def yj:List aT→dx→dx
 | [],ρ=>ρ
 |o :: l,ρ=>yj l (unset ρ o.dst)
def Bp:List (aT×List aT×List aT)→dx→dx
 | [],ρ=>ρ
 |(a,_,ns) :: l,ρ=>Bp l (yj ns (unset ρ a.dst))
def iter (f:St→oC→Bool) (K:oC):Nat→St→Bool
 |0,_=>false
 |n+1,σ=>f σ fun x σ'=>match x with
  | .normal=>iter f K n σ'
  |x=>K x σ'
def uh (l:Nat) (f:St→oC→Bool) (K:oC):Nat→St→Bool
 |0,_=>false
 |n+1,σ=>f σ fun x σ'=>match x with
  | .goto l'=>bif Nat.beq l' l then uh l f K n σ' else false
  |x=>K x σ'
def keepR:List Nat→dx→dx
 | [],_=> .lf
 |k :: ks,ρ=>match ρ.get k with
  |some v=>(keepR ks ρ).set k v
  |none=>keepR ks ρ
def Zq (ρ:dx):List (Nat×AV)→Bool
 | []=>true
 |(k,v) :: l=>match ρ.get k with
  |some u=>bif AV.same u v then Zq ρ l else false
  |none=>false
def GQ:List (List AV)→List (List AV)→Bool
 | [],[]=>true
 |a :: l,b :: m=>bif xg a b then GQ l m else false
 |_,_=>false
def CX:List (AV×AV×Nat)→List (AV×AV×Nat)→Bool
 | [],[]=>true
 |(a,b,n) :: l,(a',b',n') :: m=>bif AV.same a a'&&AV.same b b'&&Nat.beq n n' then CX l m else false
 |_,_=>false
def aaT:Option Nat→Option Nat→Bool
 |none,none=>true
 |some a,some b=>Nat.beq a b
 |_,_=>false
def Pz.obj:Pz→fG
 | .row es sz g m rw ty=> .row {es,sz,g,m,rw,ty}
 | .map es c=> .map es c
 | .gvar b=> .gvar b
def G9 (o:fG):Pz→Bool
 | .row es sz g m rw ty=>(match o with
   | .row r=>GQ r.es es&&Nat.beq r.sz sz&&Nat.beq r.g g&&Nat.beq r.m m&&(r.rw==rw)&&aaT r.ty ty
   |_=>false)
 | .map es c=>(match o with
   | .map es' c'=>CX es' es&&Nat.beq c' c
   |_=>false)
 | .gvar b=>(match o with
   | .gvar b'=>Nat.beq b' b
   |_=>false)
def ac9 (h:aj) (sz:Nat):List (Nat×Pz)→Bool
 | []=>true
 |(k,o) :: l=>match h.get k with
  |some u=>bif G9 u o&&Nat.blt k sz then ac9 h sz l else false
  |none=>false
def covers (σ:St) (c:Cut):Bool:=bif Nat.ble σ.h.sz c.sz then(bif Zq σ.regs c.rs then ac9 σ.h c.sz c.os else false) else false
def Ro:List (Nat×AV)→dx
 | []=> .lf
 |(k,v) :: l=>(Ro l).set k v
def Rk:List (Nat×Pz)→PT fG
 | []=> .lf
 |(k,o) :: l=>(Rk l).set k o.obj
def Cut.st (c:Cut):St:=⟨Ro c.rs,⟨c.sz,Rk c.os⟩⟩
def WJ (σ:St):List Cut→Option Cut
 | []=>none
 |c :: l=>bif covers σ c then some c else WJ σ l
def dB (call:bI) (n:Nat):dz→St→oC→Bool
 | .skip,σ,K=>K .normal σ
 | .reg ops,σ,K=>nL call ops σ K
 | .dreg n0 rest,σ,K=>match pF n0 σ.regs σ.h with
   |some ρ=>ou call (Bp rest (yj n0 σ.regs)) [] rest ⟨ρ,σ.h⟩ K
   |none=>false
 | .seq a b,σ,K=>dB call n a σ fun x σ'=>match x with
   | .normal=>dB call n b σ' K
   |x=>K x σ'
 | .cond c a b,σ,K=>match ev σ.regs c with
   |some (.bool true)=>dB call n a σ K
   |some (.bool false)=>dB call n b σ K
   |_=>false
 | .block id c,σ,K=>dB call n c σ fun x σ'=>match x with
   | .exit i=>bif Nat.beq i id then K .normal σ' else K (.exit i) σ'
   |x=>K x σ'
 | .loop c,σ,K=>iter (dB call n c) K n σ
 | .rf f ps asg body,σ,K=>match ev σ.regs f with
   |some (.fn (.func fid) first cap)=>
    call (.func fid) (first++[.fn (.yield σ.h.sz) [] []]++cap) (σ.h.push (.loop {regs:=σ.regs,ps,asg,body,st:= .ready})) fun v h'=>
     match jk v with
     |some _=>false
     |none=>
     match h'.get σ.h.sz with
     |some (.loop l)=>match l.st with
      | .ready=>K .normal ⟨σ.regs,h'.put σ.h.sz (.loop {l with st:= .exh})⟩
      | .done x=>K x ⟨σ.regs,h'.put σ.h.sz (.loop {l with st:= .exh})⟩
      |_=>false
     |_=>false
   |_=>false
 | .exit id,σ,K=>K (.exit id) σ
 | .scope c l r,σ,K=>dB call n c σ fun x σ'=>match x with
   | .goto l'=>bif Nat.beq l' l then uh l (dB call n r) K n σ' else false
   |x=>K x σ'
 | .label _,σ,K=>K .normal σ
 | .goto l,σ,K=>K (.goto l) σ
 | .ret,σ,K=>K .ret σ
 | .refuse,_,_=>false
 | .keep ks c,σ,K=>dB call n c ⟨keepR ks σ.regs,σ.h⟩ K
 | .cut cs c,σ,K=>match WJ σ cs with
   |some s=>dB call n c s.st K
   |none=>dB call n c σ K
def strip:dz→dz
 | .keep _ c=>strip c
 | .cut _ c=>strip c
 | .seq a b=> .seq (strip a) (strip b)
 | .cond c a b=> .cond c (strip a) (strip b)
 | .block id c=> .block id (strip c)
 | .loop c=> .loop (strip c)
 | .rf f ps asg body=> .rf f ps (strip asg) (strip body)
 | .scope c l r=> .scope (strip c) l (strip r)
 | .skip=> .skip
 | .reg ops=> .reg ops
 | .dreg n0 rest=> .dreg n0 rest
 | .exit id=> .exit id
 | .label l=> .label l
 | .goto l=> .goto l
 | .ret=> .ret
 | .refuse=> .refuse
structure dF where
 np:Nat
 res:List (Nat×Option (Bool×Nat))
 body:dz
structure Env where
 code:Nat→Option dF
 prim:Nat→Option (bI→Nat→List AV→aj→aM→Bool)
def aV (fn:dF):dF:={fn with body:=strip fn.body}
def qb:Nat→List AV→dx→dx
 |_,[],ρ=>ρ
 |i,v :: l,ρ=>qb (i+1) l (ρ.set i v)
def wK (ρ:dx) (h:aj):Nat×Option (Bool×Nat)→Option AV
 |(t,none)=>ρ.get t
 |(t,some (ag,n))=>match ρ.get t with
  |some a=>eO h ag n a
  |none=>none
def jH (ρ:dx) (h:aj):List (Nat×Option (Bool×Nat))→Option (List AV)
 | []=>some []
 |r :: l=>match wK ρ h r with
  |some v=>match jH ρ h l with
   |some vs=>some (v :: vs)
   |none=>none
  |none=>none
def oneOf:List AV→AV
 | [v]=>v
 |l=> .tup l
def BA:List Nat→List AV→dx→Option dx
 | [],[],ρ=>some ρ
 |p :: ps,v :: vs,ρ=>BA ps vs (ρ.set p v)
 |_,_,_=>none
def nO:dz→Bool
 | .rf _ _ _ _=>false
 | .seq a b=>nO a&&nO b
 | .cond _ a b=>nO a&&nO b
 | .block _ c=>nO c
 | .loop c=>nO c
 | .scope c _ r=>nO c&&nO r
 | .keep _ c=>nO c
 | .cut _ c=>nO c
 |_=>true
inductive Mode where
 |ret
 |pan (v:AV)
abbrev KMo:=CQ→Bool→St→Bool
def aj1 (μ:Mode) (done:Bool):AV:=
 match μ with
 | .ret=> .iX
 | .pan v=>bif done then .iX else v
def aio (μ:Mode) (done:Bool):Bool:=
 match μ with
 | .ret=>done
 | .pan _=>true
def xJ (μ:Mode):List aT→Bool→St→KMo→Bool
 | [],d,σ,K=>K .normal d σ
 |o :: l,d,σ,K=>match fC σ.regs o.grd with
  |some true=>(match o.op with
   | .rcv=>xJ μ l (aio μ d) ⟨put σ.regs o.dst (aj1 μ d),σ.h⟩ K
   |op=>match aN σ.regs σ.h op with
    |some (v,h')=>xJ μ l d ⟨put σ.regs o.dst v,h'⟩ K
    |none=>false)
  |some false=>xJ μ l d ⟨put σ.regs o.dst (.tup []),σ.h⟩ K
  |none=>false
def afZ:fK→Bool
 | .rcv=>true
 |_=>false
def El:List aT→Bool
 | []=>false
 |o :: l=>bif afZ o.op then true else El l
def nN (call:bI) (n:Nat) (μ:Mode):dz→Bool→St→KMo→Bool
 | .seq a b,d,σ,K=>nN call n μ a d σ fun x d' σ'=>match x with
   | .normal=>nN call n μ b d' σ' K
   |x=>K x d' σ'
 | .cond c a b,d,σ,K=>(match ev σ.regs c with
   |some (.bool true)=>nN call n μ a d σ K
   |some (.bool false)=>nN call n μ b d σ K
   |_=>false)
 | .reg ops,d,σ,K=>bif El ops then xJ μ ops d σ K else dB call n (.reg ops) σ fun x σ'=>K x d σ'
 |c,d,σ,K=>dB call n c σ fun x σ'=>K x d σ'
def settled (μ:Mode) (d:Bool):Mode:=bif d then .ret else μ
abbrev Oc:=Mode→aj→Bool
abbrev mQ:=Nat→List AV→Mode→aj→Oc→Bool
def ends (df:mQ):List (AV×List AV)→Mode→aj→Oc→Bool
 | [],μ,h,K=>K μ h
 |(f,as) :: l,μ,h,K=>match f with
  | .fn (.func g) first cap=>df g (first++as++cap) μ h fun μ' h'=>ends df l μ' h' K
  |_=>false
def mU:List aT→Option (List aT×bW×List bW)
 | []=>none
 | [o]=>match o.op,o.grd,o.dst with
   | .dfr f as,none,none=>some ([],f,as)
   |_,_,_=>none
 |o :: l=>match mU l with
  |some (pre,f,as)=>some (o :: pre,f,as)
  |none=>none
def atEnd (df:mQ) (pend:List (AV×List AV)) (x:CQ) (σ:St) (K:Mode→St→Bool):Bool:=
 match x with
 | .normal=>ends df pend .ret σ.h fun μ h=>K μ ⟨σ.regs,h⟩
 | .ret=>ends df pend .ret σ.h fun μ h=>K μ ⟨σ.regs,h⟩
 | .panic v=>ends df pend (.pan v) σ.h fun μ h=>K μ ⟨σ.regs,h⟩
 |_=>false
def runT (call:bI) (df:mQ) (n:Nat):dz→List (AV×List AV)→St→(Mode→St→Bool)→Bool
 | .seq (.reg ops) b,pend,σ,K=>(match mU ops with
   |some (pre,f,as)=>nL call pre σ fun x σ'=>(match x with
    | .normal=>(match ev σ'.regs f,evs σ'.regs as with
      |some (.fn (.func g) first cap),some vs=>runT call df n b ((.fn (.func g) first cap,vs) :: pend) σ' K
      |_,_=>false)
    |x=>atEnd df pend x σ' K)
   |none=>dB call n (.reg ops) σ fun x σ'=>(match x with
    | .normal=>runT call df n b pend σ' K
    |x=>atEnd df pend x σ' K))
 | .seq a b,pend,σ,K=>dB call n a σ fun x σ'=>(match x with
   | .normal=>runT call df n b pend σ' K
   |x=>atEnd df pend x σ' K)
 |c,pend,σ,K=>dB call n c σ fun x σ'=>atEnd df pend x σ' K
def nQ (res:List (Nat×Option (Bool×Nat))) (K:aM) (μ:Mode) (σ:St):Bool:=
 match μ with
 | .ret=>(match jH σ.regs σ.h res with
   |some l=>K (oneOf l) σ.h
   |none=>false)
 | .pan v=>K (.pan v) σ.h
def Az (E:Env) (call:bI) (n:Nat):mQ:=fun g args μ h K=>
 match E.prim g with
 |some _=>false
 |none=>match E.code g with
  |none=>false
  |some fn=>bif Nat.beq args.length fn.np&&fn.res.isEmpty&&nO fn.body then
    nN call n μ fn.body false ⟨qb 0 args .lf,h⟩ fun x d σ=>match x with
     | .normal=>K (settled μ d) σ.h
     | .ret=>K (settled μ d) σ.h
     |_=>false
   else false
def au (E:Env):Nat→bI
 |0=>fun _ _ _ _=>false
 |n+1=>fun tgt args h K=>
  match tgt with
  | .func f=>match E.prim f with
    |some p=>p (au E n) n args h K
    |none=>match E.code f with
     |none=>false
     |some fn=>bif Nat.beq args.length fn.np then
       runT (au E n) (Az E (au E n) n) n fn.body [] ⟨qb 0 args .lf,h⟩ (nQ fn.res K)
      else false
  | .yield id=>match h.get id with
    |some (.loop l)=>match l.st with
     | .ready=>match BA l.ps args l.regs with
       |some ρ=>dB (au E n) n l.asg ⟨ρ,h⟩ fun x σ=>match x with
        | .normal=>(match σ.h.get id with
          |some (.loop l1)=>match l1.st with
           | .ready=>dB (au E n) n l.body ⟨σ.regs,σ.h.put id (.loop {l1 with st:= .busy})⟩ fun x σ2=>
             match σ2.h.get id with
             |some (.loop l2)=>match x with
              | .normal=>K (.bool true) (σ2.h.put id (.loop {l2 with st:= .ready}))
              | .panic _=>false
              |x=>K (.bool false) (σ2.h.put id (.loop {l2 with st:= .done x}))
             |_=>false
           |_=>false
          |_=>false)
        |_=>false
       |none=>false
     |_=>false
    |_=>false
mutual
def pO:Value→Option AV
 | .bool b=>some (.bool b)
 | .int k n=>some (.int k n)
 | .string s=>some (.str (s.data.toList.map UInt8.toNat))
 | .pointer none=>some .nilPtr
 | .slice none 0 0=>some .ah
 | .map none=>some .kC
 | .nilFunc=>some .nilFn
 | .nilIface=>some .iX
 | .agg ⟨l⟩=>match CK l with
   |some r=>some (.agg r)
   |none=>none
 | .tuple ⟨l⟩=>match CK l with
   |some r=>some (.tup r)
   |none=>none
 |_=>none
def CK:List Value→Option (List AV)
 | []=>some []
 |v :: l=>match pO v with
  |some a=>match CK l with
   |some r=>some (a :: r)
   |none=>none
  |none=>none
end
def aU:Operand→Option bW
 | .tmp t=>some (.t t)
 | .const v=>match pO v with
   |some a=>some (.c a)
   |none=>none
 | .global _=>none
 | .func f=>some (.c (.fn (.func f) [] []))
def lY:List Operand→Option (List bW)
 | []=>some []
 |x :: l=>match aU x with
  |some a=>match lY l with
   |some r=>some (a :: r)
   |none=>none
  |none=>none
def oU:Option Operand→Option (Option bW)
 |none=>some none
 |some x=>match aU x with
  |some a=>some (some a)
  |none=>none
def mO (P:Program) (t:TypeId):Option Bool:=
 match P.underlying t with
 |some (.struct _)=>some true
 |some (.array _ _)=>some true
 |some _=>some false
 |none=>none
def sizeT (P:Program) (t:TypeId):Option Nat:=(P.info? t).map (·.size)
def wz (P:Program) (t:TypeId):Option Nat:=(P.info? t).map (·.bytes)
def iV (P:Program) (t:TypeId):Option AV:=
 match P.info? t with
 |some i=>match i.zero with
  |some z=>pO z
  |none=>none
 |none=>none
def K4 (P:Program) (t:TypeId):Option K0:=
 match P.underlying t with
 |some (.int _)=>some .int
 |some .string=>some .str
 |some .bool=>some .bool
 |_=>none
def BL (P:Program):Nat→List Field→Option (List K0)
 |_,[]=>some []
 |n,f :: l=>bif Nat.beq f.offset n&&(f.name != "_") then
   (match K4 P f.type with
   |some k=>match BL P (n+1) l with
    |some ks=>some (k :: ks)
    |none=>none
   |none=>none)
  else none
def structOf (P:Program) (t:TypeId):Option (List K0):=
 match P.underlying t with
 |some (.struct fs)=>bif !P.stoodInHeld t&& !P.eqGuardType P.depth t then BL P 0 fs.toList else none
 |_=>none
def vK (P:Program) (t:TypeId):Option KK:=
 match K4 P t with
 |some k=>some (.leaf k)
 |none=>match structOf P t with
  |some ks=>some (.st ks)
  |none=>none
def WT (P:Program) (t:TypeId):Option EqK:=
 match P.underlying t with
 |some .bool=>some .bool
 |some (.pointer e)=>match sizeT P e with
  |some (_+1)=>some .ptr
  |_=>none
 |some (.slice _)=>some .slc
 |some (.map _ _)=>some .map
 |some (.func _ _ _)=>some .fn
 |some (.interface _)=>some .ifn
 |some (.struct _)=>match structOf P t with
  |some ks=>some (.agg ks)
  |none=>none
 |_=>none
def RY:EqK→Operand→Operand→Bool
 | .ifn, .const _,_=>true
 | .ifn,_, .const _=>true
 | .ifn,_,_=>false
 |_,_,_=>true
def Y8 (P:Program) (t:TypeId) (x y:Operand):Option EqK:=
 match WT P t with
 |some k=>bif RY k x y then some k else none
 |none=>none
def partsOf (places:List (Nat×Nat)):List (Nat×Operand)→Option (List (Nat×Nat×bW))
 | []=>some []
 |(i,x) :: l=>match places[i]? with
  |some (off,n)=>match aU x with
   |some a=>match partsOf places l with
    |some r=>some ((off,n,a) :: r)
    |none=>none
   |none=>none
  |none=>none
def tH (esz:Nat):List (Nat×Operand)→Option (List (Nat×Nat×bW))
 | []=>some []
 |(i,x) :: l=>match aU x with
  |some a=>match tH esz l with
   |some r=>some ((i*esz,esz,a) :: r)
   |none=>none
  |none=>none
def uq:List (Nat×Operand)→Option (List (Nat×bW))
 | []=>some []
 |(i,x) :: l=>match aU x with
  |some a=>match uq l with
   |some r=>some ((i,a) :: r)
   |none=>none
  |none=>none
def aes (P:Program) (t:TypeId):Bool:=match sizeT P t with |some (_+1)=>true |_=>false
def afc (P:Program) (t:TypeId):Bool:=match sizeT P t with |some 1=>true |_=>false
def yQ (P:Program) (e:TypeId):Bool:=match P.underlying e with |some (.int .u8)=>true |_=>false
def tX (P:Program) (t:TypeId):Bool:=Nat.blt 0 P.depth&&sameLayout P P.depth t t
def nW:List AV→Bool
 | .nilPtr :: .ah :: _=>true
 |_ :: l=>nW l
 | []=>false
def Ku (P:Program) (t:TypeId):Option Nat:=match iV P t with
 |some z=>bif nW z.cells then some t else none
 |none=>none
def DZ (t:TypeId):List TypeInfo→Nat→List (Nat×Nat)
 | [],_=>[]
 |i :: l,u=>match i.desc with
  | .struct fs=>(fs.toList.filterMap fun f=>bif Nat.beq f.type t then some (u,f.offset) else none)++DZ t l (u+1)
  |_=>DZ t l (u+1)
def DV (s:List (Nat×Nat)):List TypeInfo→Nat→List (Nat×Nat)
 | [],_=>[]
 |i :: l,u=>match i.desc with
  | .named _ v=>(s.filterMap fun x=>bif Nat.beq x.1 v then some (u,x.2) else none)++DV s l (u+1)
  |_=>DV s l (u+1)
def IX (P:Program) (t:TypeId) (x:Nat×Nat×Nat):Bool:=
 match P.underlying x.1 with
 |some (.struct fs)=>(match sizeT P x.1 with |some m=>Nat.beq m x.2.1 |none=>false)&& !P.stoodInHeld x.1&&Nat.blt x.2.2 x.2.1&&fs.toList.any fun f=>Nat.beq f.type t&&Nat.beq f.offset x.2.2
 |_=>false
def acw (P:Program) (t:TypeId):List (Nat×Nat×Nat):=
 let s:=DZ t P.types.toList 0
 ((s++DV s P.types.toList 0).map fun x=>(x.1,P.cellsOf x.1,x.2)).filter (IX P t)
def oH (P:Program) (b:Builtin) (types:List TypeId) (args:List Operand):Option fK:=
 match b,types,args with
 | .len,[t],[x]=>do
   let a ←aU x
   match P.underlying t with
   |some .string=>pure (.len 0 a)
   |some (.slice _)=>pure (.len 1 a)
   |some (.map _ _)=>pure (.len 2 a)
   |some (.array n _)=>pure (.mv (.c (.int .i64 (.ofNat n))))
   |_=>none
 | .cap,[t],[x]=>do
   let a ←aU x
   match P.underlying t with
   |some (.slice _)=>pure (.cap a)
   |_=>none
 | .append,[s,t],[x,y]=>
   match aU x,aU y,P.underlying s,P.underlying t with
   |some a,some b,some (.slice e),some d=>match sizeT P e,wz P e,iV P e with
    |some sz,some bytes,some z=>bif Nat.beq z.cells.length sz&&Nat.blt 0 sz then
      (match d with
      | .slice _=>some (bif yQ P e&&Nat.beq sz 1&&Nat.beq bytes 1 then .appb e a b else .app sz bytes a b)
      | .string=>some (bif yQ P e&&Nat.beq sz 1&&Nat.beq bytes 1 then .appb e a b else .app sz bytes a b)
      | .int _=>some (.appz sz bytes z.cells a b)
      |_=>none)
     else none
    |_,_,_=>none
   |_,_,_,_=>none
 | .copy,[s,_],[x,y]=>do
   let a ←aU x
   let b ←aU y
   match P.underlying s with
   |some (.slice e)=>pure (.copy (←sizeT P e) a b)
   |_=>none
 | .delete,[t,_],[x,y]=>do
   let a ←aU x
   let b ←aU y
   match P.underlying t with
   |some (.map k _)=>pure (.del (←vK P k) a b)
   |_=>none
 | .clear,[t],[x]=>do
   let a ←aU x
   match P.underlying t with
   |some (.slice e)=>pure (.clr (←sizeT P e) (←iV P e).cells a)
   |_=>none
 | .unsafeSliceData,[_],[x]=>do pure (.sdat (←aU x))
 | .unsafeString,[t,_],[x,y]=>match aU x,aU y,P.underlying t with
   |some a,some b,some (.pointer e)=>bif yQ P e&&afc P e then some (.ustr e a b) else none
   |_,_,_=>none
 | .max,_,xs=>do pure (.mm true (←lY xs))
 | .min,_,xs=>do pure (.mm false (←lY xs))
 |_,_,_=>none
def kM (P:Program) (op:Op):Option fK:=
 match op with
 | .move x | .assign x=>do pure (.mv (←aU x))
 | .pick c a b=>do pure (.pick (←aU c) (←aU a) (←aU b))
 | .alloc t=>match iV P t with
   |some z=>some (bif nW z.cells then .allot t z.cells else .alloc z.cells)
   |none=>none
 | .box t x=>do pure (.box (Ku P t) (←sizeT P t) (←aU x))
 | .build t parts=>do
   let z ←iV P t
   match P.underlying t with
   |some (.struct fs)=>pure (.build z.cells (←partsOf (←fs.toList.mapM (fun f=>(P.info? f.type).map fun i=>(f.offset,i.size))) parts.toList))
   |some (.array _ e)=>pure (.build z.cells (←tH (←sizeT P e) parts.toList))
   |_=>none
 | .buildSlice t n parts=>do
   match P.underlying t with
   |some (.slice e)=>pure (.bslice n (←sizeT P e) (←iV P e).cells (←uq parts.toList))
   |_=>none
 | .load t a=>do pure (.load (←mO P t) (←sizeT P t) (←aU a))
 | .store t a v=>do pure (.store (←sizeT P t) (←aU a) (←aU v))
 | .nilCheck x=>do pure (.nilck (←aU x))
 | .binOp op t x y _=>do
   let a ←aU x
   let b ←aU y
   match P.underlying t with
   |some (.int _)|some .string=>pure (.bin op a b)
   |_=>match op with
    | .eql=>do pure (.eq false (←Y8 P t x y) a b)
    | .neq=>do pure (.eq true (←Y8 P t x y) a b)
    |_=>none
 | .unOp op _ x=>do
   let a ←aU x
   match op with
   | .not=>pure (.not a)
   | .neg=>pure (.neg a)
   |_=>none
 | .convert s d x=>do
   let a ←aU x
   match P.underlying s,P.underlying d with
   |some (.int _),some (.int k)=>pure (.conv k a)
   |some .string,some .string=>pure (.cvs a)
   |some (.slice e),some .string=>match P.underlying e with
    |some (.int .u8)=>pure (.b2s a)
    |_=>none
   |some (.pointer t),some .unsafePointer=>bif aes P t then pure (.uto a) else none
   |some .unsafePointer,some (.pointer t)=>match sizeT P t with
    |some (n+1)=>bif tX P t then pure (.ufr t (n+1) (acw P t) a) else none
    |_=>none
   |_,_=>none
 | .makeFunc fn first cap=>match fn with
   | .func f=>do pure (.mkfn f (←lY first.toList) (←lY cap.toList))
   |_=>none
 | .makeMap _ r=>match r with
   |none=>some .mkmap
   |some _=>none
 | .makeSlice t l c=>do
   match P.underlying t with
   |some (.slice e)=>pure (.mksl (←sizeT P e) (←wz P e) (←iV P e).cells (←aU l) (←aU c))
   |_=>none
 | .slice t x lo hi mx=>do
   match P.underlying t,mx with
   |some (.slice e),_=>pure (.sl (←sizeT P e) (←aU x) (←oU lo) (←oU hi) (←oU mx))
   |some .string,none=>pure (.sls (←aU x) (←oU lo) (←oU hi))
   |_,_=>none
 | .fieldAddr s x f=>do
   match P.underlying s with
   |some (.struct fs)=>match fs[f]? with
    |some fl=>match sizeT P fl.type with
     |some (_+1)=>pure (.fadr fl.offset (←aU x))
     |_=>none
    |none=>none
   |_=>none
 | .field s x f=>do
   match P.underlying s with
   |some (.struct fs)=>match fs[f]? with
    |some fl=>pure (.fld (←mO P fl.type) fl.offset (←sizeT P fl.type) (←aU x))
    |none=>none
   |_=>none
 | .indexAddr t x i=>do
   match P.underlying t with
   |some (.slice e)=>pure (.iadr (←sizeT P e) (←aU x) (←aU i))
   |some (.array n e)=>match sizeT P e with
    |some (m+1)=>pure (.iadra n (m+1) (←aU x) (←aU i))
    |_=>none
   |_=>none
 | .index t x i=>do
   match P.underlying t with
   |some .string=>pure (.idxs (←aU x) (←aU i))
   |some (.array n e)=>pure (.idxa (←mO P e) n (←sizeT P e) (←aU x) (←aU i))
   |_=>none
 | .lookup t m k ok=>do
   match P.underlying t with
   |some (.map kt e)=>pure (.look (←vK P kt) ok (←iV P e) (←aU m) (←aU k))
   |_=>none
 | .mapUpdate t m k v=>do
   match P.underlying t with
   |some (.map kt _)=>pure (.mupd (←vK P kt) (←aU m) (←aU k) (←aU v))
   |_=>none
 | .insert t m k v=>do
   match P.underlying t with
   |some (.map kt _)=>pure (.mupd (←vK P kt) (←aU m) (←aU k) (←aU v))
   |_=>none
 | .extract x i=>do pure (.ext (←aU x) i)
 | .range t x=>do
   match P.underlying t with
   |some (.map _ _)=>pure (.rng (←aU x))
   |_=>none
 | .next x str=>match str with
   |false=>do pure (.nxt (←aU x))
   |true=>none
 | .entry x=>do pure (.ent (←aU x))
 | .call c=>match c.callee with
   | .builtin b=>oH P b c.argTypes.toList c.args.toList
   | .value f=>do pure (.call (←aU f) (←lY c.args.toList))
   | .invoke _ _=>none
 | .makeInterface t x=>match P.underlying t,aU x with
   |some (.interface _),_=>none
   |some _,some a=>some (.mkif t a)
   |_,_=>none
 | .typeAssert x _ t ok=>match P.underlying t,aU x,iV P t with
   |some (.interface _),_,_=>none
   |some _,some a,some z=>some (.tas t ok z a)
   |_,_,_=>none
 |_=>none
def nk (P:Program) (op:Op):Option fK:=
 match kM P op with
 |some a=>bif dH a then none else some a
 |none=>none
def fV (P:Program) (op:Op):Option fK:=
 match op with
 | .call c=>match c.callee with
   | .value f=>match aU f,lY c.args.toList with
     |some g,some as=>some (.call g as)
     |_,_=>none
   | .builtin b=>match b with
     | .recover=>some .rcv
     |_=>nk P op
   |_=>nk P op
 | .panic x=>match aU x with
   |some y=>some (.pnc y)
   |none=>none
 | .defer c=>match c.callee with
   | .value f=>match aU f,lY c.args.toList with
     |some g,some as=>some (.dfr g as)
     |_,_=>none
   |_=>none
 | .next x str=>match str with
   |false=>match aU x with
    |some y=>some (.nxt y)
    |none=>none
   |true=>none
 |op=>nk P op
def jc:fK→Nat
 | .load .. | .look .. | .len .. | .eq .. | .b2s .. | .ent .. | .sl .. | .iadr .. | .uto .. | .ufr .. =>1
 | .alloc _ | .box .. | .bslice .. | .store .. | .stw .. | .mkmap | .mksl .. | .mupd .. | .app .. | .appz .. | .allot .. | .appb .. | .ustr .. | .copy .. | .del .. | .clr .. | .rng .. | .nxt .. | .fail | .call .. | .pnc _ | .dfr .. | .rcv=>2
 |_=>0
def LZ (N:Nat):Option Tmp→Bool
 |none=>true
 |some d=>Nat.blt d N
def kT (P:Program) (N:Nat) (ops:Array Oper) (o:Oper):Option aT:=
 bif LZ N o.dst then
  match o.guard with
  |none=>some ⟨o.dst,(fV P o.op).getD .fail,none⟩
  |some (j,w)=>match ops[j]? with
   |some g=>match g.dst with
    |some d=>some ⟨o.dst,(fV P o.op).getD .fail,some (d,w)⟩
    |none=>none
   |none=>none
 else none
def fA (P:Program) (N:Nat) (ops:Array Oper):List Oper→Option (List aT)
 | []=>some []
 |o :: l=>match kT P N ops o with
  |some a=>match fA P N ops l with
   |some r=>some (a :: r)
   |none=>none
  |none=>none
def F8:bW→List Nat
 | .t r=>[r]
 | .c _=>[]
def Qn:List bW→List Nat
 | []=>[]
 |x :: l=>F8 x++Qn l
def Ls:Option bW→List Nat
 |none=>[]
 |some x=>F8 x
def tsP:List (Nat×Nat×bW)→List Nat
 | []=>[]
 |(_,_,x) :: l=>F8 x++tsP l
def tsQ:List (Nat×bW)→List Nat
 | []=>[]
 |(_,x) :: l=>F8 x++tsQ l
def tsA:fK→List Nat
 | .mv x | .load _ _ x | .nilck x | .not x | .neg x | .conv _ x | .b2s x | .cvs x | .fadr _ x | .fld _ _ _ x | .ext x _ | .len _ x | .cap x | .clr _ _ x | .rng x | .ent x | .nxt x | .box _ _ x | .uto x | .ufr _ _ _ x | .sdat x=>F8 x
 | .pick c a b=>F8 c++F8 a++F8 b
 | .alloc _ | .allot _ _ | .mkmap | .fail=>[]
 | .build _ ps=>tsP ps
 | .bslice _ _ _ ps=>tsQ ps
 | .store _ x y | .bin _ x y | .eq _ _ x y | .mksl _ _ _ x y | .iadr _ x y | .iadra _ _ x y | .idxs x y | .idxa _ _ _ x y | .look _ _ _ x y | .app _ _ x y | .appb _ x y | .ustr _ x y | .appz _ _ _ x y | .copy _ x y | .del _ x y=>F8 x++F8 y
 | .mkfn _ l m=>Qn l++Qn m
 | .pnc x | .mkif _ x | .tas _ _ _ x=>F8 x
 | .dfr f l=>F8 f++Qn l
 | .rcv=>[]
 | .sl _ x a b c=>F8 x++Ls a++Ls b++Ls c
 | .sls x a b=>F8 x++Ls a++Ls b
 | .mupd _ x y z=>F8 x++F8 y++F8 z
 | .stw _ x y z=>F8 x++F8 y++F8 z
 | .mm _ l=>Qn l
 | .call f l=>F8 f++Qn l
def looks (o:aT):List Nat:=
 match o.grd with
 |some (d,_)=>d :: tsA o.op
 |none=>tsA o.op
def kR (o:aT):List Nat:=
 match o.dst with
 |some d=>[d]
 |none=>[]
def sU (ms:List Nat):List Edge→Nat
 | []=>0
 |e :: l=>bif Region.binds .any e then(sU ms l|||2 ^ e.on)|||((nth ms e.on).getD 0) else sU ms l
def masks:List Oper→List Nat→List Nat
 | [],ms=>ms
 |o :: l,ms=>masks l (ms++[sU ms o.after.toList])
def nop:aT:=⟨none, .fail,none⟩
def ao (as:List aT) (i:Nat):aT:=(nth as i).getD nop
def mk (ms:List Nat) (i:Nat):Nat:=(nth ms i).getD 0
def kY (l:List Nat) (p:Nat→Bool):Bool:=
 match l with
 | []=>true
 |i :: l=>bif p i then kY l p else false
def jT (l m:List Nat):Bool:=kY l fun i=> !jQ i m
def kG (as:List aT) (i j:Nat):Bool:=jT (kR (ao as j)) (looks (ao as i))&&jT (kR (ao as j)) (kR (ao as i))
def rZ (as:List aT):List Nat→Bool
 | []=>true
 |i :: l=>bif jT (kR (ao as i)) (looks (ao as i))&&Nat.blt (jc (ao as i).op) 2&&kY l (kG as i) then rZ as l else false
def ach (as:List aT) (ms:List Nat) (all l:List Nat):Bool:=
 kY all fun j=>kY l fun i=>jT (kR (ao as i)) (looks (ao as j))||(mk ms j).testBit i
abbrev Plan:=List (Nat×List Nat×List Nat)
def nJ (o:Oper):Bool:=
 match o.guard with
 |some _=>false
 |none=>match o.op with
  | .alloc _ | .box .. | .makeSlice .. | .buildSlice .. =>true
  | .makeMap _ none=>true
  |_=>false
def wP (ops:Array Oper):List Nat:=(List.range ops.size).filter fun i=>match ops[i]? with
 |some o=>nJ o
 |none=>false
def VJ (o:aT):Bool:=
 match o.dst,o.grd,o.op with
 |none,none, .store .. =>true
 |_,_,_=>false
def Dk (o:aT):Bool:=
 match o.grd,o.op with
 |none, .iadr .. =>true
 |_,_=>false
def oh (as:List aT) (ms:List Nat) (a b:Nat) (chk ns cb:List Nat):Bool:=
 Nat.blt a b&& !(mk ms b).testBit a&&VJ (ao as a)&&VJ (ao as b)&&Nat.beq ns.length 0&&Nat.beq chk.length 0&&kY cb (fun i=>Dk (ao as i))
def agr (x y:aT):aT:=
 match x.op,y.op with
 | .store n a v, .store _ b _=>⟨none, .stw n a v b,none⟩
 |_,_=>x
def jJ (as:List aT) (ms:List Nat) (a:Nat) (chk ns:List Nat):Plan→aT
 | []=>ao as a
 |(b,cb,_) :: _=>bif oh as ms a b chk ns cb then agr (ao as a) (ao as b) else ao as a
def opsOf (as:List aT) (ms:List Nat):Plan→List (aT×List aT×List aT)
 | []=>[]
 |(a,c,l) :: rest=>(jJ as ms a c l rest,c.map (ao as),l.map (ao as)) :: opsOf as ms rest
def swapAt (as:List aT) (ms el seen:List Nat) (a:Nat) (chk ns:List Nat):Plan→Nat→Bool
 | [],_=>false
 |(b,cb,nb) :: _,c=>Nat.beq b c&&oh as ms a b chk ns cb&& !jQ a el&&kY nb (fun j=>(mk ms j).testBit a&&kG as b j)&&kY seen (fun i=>(mk ms a).testBit i||kY nb (kG as i))
def qw (as:List aT) (ms el:List Nat):List Nat→Plan→Bool
 |_,[]=>true
 |seen,(a,chk,ns) :: rest=>
  bif !jQ a seen&&rZ as ns
   &&kY ns (fun i=>(mk ms i).testBit a)
   &&kY seen (fun i=>((mk ms a).testBit i&& !jQ a el)||(kG as i a&&kY ns (kG as i)&&(Nat.beq (jc (ao as i).op) 0||Nat.beq (jc (ao as i).op) 2||jQ i chk)))
   &&kY (rest.map (·.1)) (fun b=>(mk ms b).testBit a||jQ a el||swapAt as ms el seen a chk ns rest b)
   &&(!jQ a el||(jT (kR (ao as a)) (looks (ao as a))&&kY ns (kG as a))) then qw as ms el (seen++a :: ns) rest else false
def gH:Plan→List Nat
 | []=>[]
 |(a,_,ns) :: rest=>a :: ns++gH rest
def zu:Nat→List Oper→Bool
 |_,[]=>true
 |n,o :: l=>o.after.toList.all (fun e=> !Region.binds .any e||Nat.blt e.on n)&&zu (n+1) l
def M8 (m:Nat):Nat→List Nat→Nat→Nat
 |_,[],x=>x
 |k,i :: l,x=>M8 m (k+1) l (bif m.testBit i then k else x)
def afr (as:List aT) (i:Nat):Bool:=
 Nat.beq (jc (ao as i).op) 2|| !kY (List.range i) fun j=>jT (kR (ao as i)) (looks (ao as j))
def y8:Plan→List Nat
 | []=>[]
 |(_,_,ns) :: rest=>ns++y8 rest
def U3 (as:List aT) (ms el:List Nat) (all acts:List Nat):Nat→List Nat→Plan
 |_,[]=>[]
 |k,a :: rest=>
  (a,all.filter (fun i=>Nat.beq (jc (ao as i).op) 1&& !jQ i acts&&Nat.blt (M8 (mk ms i) 1 acts 0) k&&(jQ a el|| !(mk ms a).testBit i)),
    all.filter (fun i=> !jQ i acts&&Nat.beq (M8 (mk ms i) 1 acts 0) k)) :: U3 as ms el all acts (k+1) rest
def DF (ms el:List Nat):Nat→List Nat→List Nat
 |0,l=>l
 |n+1,l=>match l.find? (fun i=>jQ i el&&kY l fun j=> !(mk ms i).testBit j) with
  |some i=>i :: DF ms el n (l.filter fun j=> !Nat.beq j i)
  |none=>match l with
   | []=>[]
   |a :: r=>a :: DF ms el n r
def OQ (as:List aT) (ms el:List Nat) (n:Nat) (ops:List Oper) (n0:List Nat) (pl:Plan):Bool:=
 Nat.beq as.length n&&zu 0 ops&&rZ as n0&&ach as ms (List.range n) (n0++y8 pl++el)&&qw as ms el n0 pl
  &&kY (List.range n) (fun i=>jQ i (n0++gH pl))&&kY (n0++gH pl) (fun i=>Nat.blt i n)
def QF (as:List aT) (ms el:List Nat) (n:Nat) (ops:List Oper) (n0:List Nat) (pl:Plan):Option dz:=
 bif OQ as ms el n ops n0 pl then some (.dreg (n0.map (ao as)) (opsOf as ms pl)) else none
def vN (as:List aT) (ops:Array Oper):Option dz:=
 let ms:=masks ops.toList []
 let el:=wP ops
 let all:=List.range ops.size
 let acts:=DF ms el ops.size (all.filter (afr as))
 QF as ms el ops.size ops.toList (all.filter fun i=> !jQ i acts&&Nat.beq (M8 (mk ms i) 1 acts 0) 0) (U3 as ms el all acts 1 acts)
def ku:dz→Nat→Option dz
 | .seq a b,l=>match ku a l with
   |some rest=>some (.seq rest b)
   |none=>ku b l
 | .label l',l=>if l'==l then some .skip else none
 |_,_=>none
def Bq:dz→Option Nat
 | .goto l=>some l
 | .seq a b=>match Bq a with
   |some l=>some l
   |none=>Bq b
 | .cond _ a b=>match Bq a with
   |some l=>some l
   |none=>Bq b
 | .block _ c=>Bq c
 | .loop c=>Bq c
 |_=>none
def OP:dz→Option Nat
 | .label l=>some l
 | .seq a b=>match OP a with
   |some l=>some l
   |none=>OP b
 |_=>none
def UD (x:dz):Option Nat:=match Bq x with
 |some l=>some l
 |none=>OP x
def comp (P:Program) (N:Nat):Code→Option dz
 | .skip=>some .skip
 | .region _ ops draw=>match fA P N ops ops.toList with
   |some as=>bif draw then vN as ops else some (.reg as)
   |none=>none
 | .seq a b=>match comp P N a,comp P N b with
   |some x,some y=>some (.seq x y)
   |_,_=>none
 | .cond c a b=>match aU c,comp P N a,comp P N b with
   |some o,some x,some y=>some (.cond o x y)
   |_,_,_=>none
 | .block id c=>match comp P N c with
   |some x=>some (.block id x)
   |none=>none
 | .loop c=>match comp P N c with
   |some x=>some (.loop x)
   |none=>none
 | .rangeFunc f ps asg body=>match aU f,comp P N asg,comp P N body with
   |some o,some x,some y=>bif ps.toList.all (Nat.blt · N) then some (.rf o ps.toList x y) else none
   |_,_,_=>none
 | .exit id=>some (.exit id)
 | .scope c=>match comp P N c with
   |some x=>match UD x with
    |some l=>match ku x l with
     |some r=>some (.scope x l r)
     |none=>none
    |none=>none
   |none=>none
 | .label l=>some (.label l)
 | .goto l=>some (.goto l)
 | .ret=>some .ret
 | .refuse _=>some .refuse
def zR (P:Program):List ResultVar→Option (List (Nat×Option (Bool×Nat)))
 | []=>some []
 | .tmp t :: l=>do pure ((t,none) :: (←zR P l))
 | .cell a t :: l=>do pure ((a,some (←mO P t, ←sizeT P t)) :: (←zR P l))
def yw (P:Program) (fn:Func):Option dF:=
 match fn.body with
 |none=>none
 |some c=>match comp P fn.ntmps c,zR P fn.results.toList with
  |some x,some r=>bif fn.name== "runtime.NumGoroutine" then none else some ⟨fn.params.size+fn.nfree,r,x⟩
  |_,_=>none
end
theorem aF {a b:Nat}:Nat.beq a b=true↔a=b:=⟨Nat.eq_of_beq_eq_true,fun h=>by subst h;exact Nat.beq_refl a⟩
theorem dh {a b:Nat}:Nat.beq a b=false↔a≠b:=by
 rw[←Bool.not_eq_true,aF]
theorem aI {a b:Nat}:Nat.ble a b=true↔a≤b:=⟨Nat.le_of_ble_eq_true,Nat.ble_eq_true_of_le⟩
theorem bB {a b:Nat}:Nat.blt a b=true↔a<b:=by unfold Nat.blt;exact aI
def L4.val:L4→Nat
 | .e=>0
 | .a p=>4*p.val+1
 | .b p=>4*p.val+2
 | .c p=>4*p.val+3
 | .d p=>4*p.val+4
theorem L4.val_dig:∀(m:Nat) (p:L4),m<4→(L4.dig m p).val=4*p.val+m+1
 |0,_,_=>rfl
 |1,_,_=>rfl
 |2,_,_=>rfl
 |3,_,_=>rfl
 |_+4,_,h=>by omega
theorem Fg:∀(f n:Nat),n<f→(XF f n).val=n
 |0,_,h=>by omega
 |_+1,0,_=>rfl
 |f+1,k+1,h=>by
  have e:XF (f+1) (k+1)=L4.dig (Nat.mod k 4) (XF f (Nat.div k 4)):=rfl
  have h1:Nat.div k 4=k/4:=rfl
  have h2:Nat.mod k 4=k%4:=rfl
  rw[e,h1,h2,L4.val_dig _ _ (Nat.mod_lt _ (by omega)),Fg f (k/4) (by omega)]
  omega
theorem Rv {n m:Nat} (h:path n=path m):n=m:=by
 have:=congrArg L4.val h
 unfold path at this
 rwa [Fg _ _ (Nat.lt_succ_self n),Fg _ _ (Nat.lt_succ_self m)] at this
section
variable {α:Type}
theorem PT.getL_newL (x:Option α):∀p:L4,(PT.newL x p).getL p=x
 | .e=>rfl
 | .a p=>PT.getL_newL x p
 | .b p=>PT.getL_newL x p
 | .c p=>PT.getL_newL x p
 | .d p=>PT.getL_newL x p
theorem PT.getL_newL_ne (x:Option α):∀p q:L4,q≠p→(PT.newL x p).getL q=none
 | .e, .e,h=>absurd rfl h
 | .e, .a _,_ | .e, .b _,_ | .e, .c _,_ | .e, .d _,_=>rfl
 | .a p, .a q,h=>PT.getL_newL_ne x p q fun e=>h (congrArg _ e)
 | .b p, .b q,h=>PT.getL_newL_ne x p q fun e=>h (congrArg _ e)
 | .c p, .c q,h=>PT.getL_newL_ne x p q fun e=>h (congrArg _ e)
 | .d p, .d q,h=>PT.getL_newL_ne x p q fun e=>h (congrArg _ e)
 | .a _, .e,_ | .b _, .e,_ | .c _, .e,_ | .d _, .e,_=>rfl
 | .a _, .b _,_ | .a _, .c _,_ | .a _, .d _,_ | .b _, .a _,_ | .b _, .c _,_ | .b _, .d _,_=>rfl
 | .c _, .a _,_ | .c _, .b _,_ | .c _, .d _,_ | .d _, .a _,_ | .d _, .b _,_ | .d _, .c _,_=>rfl
theorem PT.getL_setL (x:Option α):∀(t:PT α) (p:L4),(t.setL x p).getL p=x
 | .lf,p=>PT.getL_newL x p
 | .nd _ _ _ _ _, .e=>rfl
 | .nd _ t _ _ _, .a p=>PT.getL_setL x t p
 | .nd _ _ t _ _, .b p=>PT.getL_setL x t p
 | .nd _ _ _ t _, .c p=>PT.getL_setL x t p
 | .nd _ _ _ _ t, .d p=>PT.getL_setL x t p
theorem PT.getL_setL_ne (x:Option α):∀(t:PT α) (p q:L4),q≠p→(t.setL x p).getL q=t.getL q
 | .lf,p,q,h=>PT.getL_newL_ne x p q h
 | .nd _ _ _ _ _, .e, .e,h=>absurd rfl h
 | .nd _ _ _ _ _, .e, .a _,_ | .nd _ _ _ _ _, .e, .b _,_ | .nd _ _ _ _ _, .e, .c _,_ | .nd _ _ _ _ _, .e, .d _,_=>rfl
 | .nd _ t _ _ _, .a p, .a q,h=>PT.getL_setL_ne x t p q fun e=>h (congrArg _ e)
 | .nd _ _ t _ _, .b p, .b q,h=>PT.getL_setL_ne x t p q fun e=>h (congrArg _ e)
 | .nd _ _ _ t _, .c p, .c q,h=>PT.getL_setL_ne x t p q fun e=>h (congrArg _ e)
 | .nd _ _ _ _ t, .d p, .d q,h=>PT.getL_setL_ne x t p q fun e=>h (congrArg _ e)
 | .nd _ _ _ _ _, .a _, .e,_ | .nd _ _ _ _ _, .b _, .e,_ | .nd _ _ _ _ _, .c _, .e,_ | .nd _ _ _ _ _, .d _, .e,_=>rfl
 | .nd _ _ _ _ _, .a _, .b _,_ | .nd _ _ _ _ _, .a _, .c _,_ | .nd _ _ _ _ _, .a _, .d _,_=>rfl
 | .nd _ _ _ _ _, .b _, .a _,_ | .nd _ _ _ _ _, .b _, .c _,_ | .nd _ _ _ _ _, .b _, .d _,_=>rfl
 | .nd _ _ _ _ _, .c _, .a _,_ | .nd _ _ _ _ _, .c _, .b _,_ | .nd _ _ _ _ _, .c _, .d _,_=>rfl
 | .nd _ _ _ _ _, .d _, .a _,_ | .nd _ _ _ _ _, .d _, .b _,_ | .nd _ _ _ _ _, .d _, .c _,_=>rfl
theorem PT.setL_new_comm (x y:Option α):∀(p q:L4),p≠q→(PT.newL y q).setL x p=(PT.newL x p).setL y q
 | .e, .e,h=>absurd rfl h
 | .e, .a _,_ | .e, .b _,_ | .e, .c _,_ | .e, .d _,_=>rfl
 | .a p, .a q,h=>congrArg (fun r=>PT.nd none r .lf .lf .lf) (PT.setL_new_comm x y p q fun e=>h (congrArg _ e))
 | .b p, .b q,h=>congrArg (fun r=>PT.nd none .lf r .lf .lf) (PT.setL_new_comm x y p q fun e=>h (congrArg _ e))
 | .c p, .c q,h=>congrArg (fun r=>PT.nd none .lf .lf r .lf) (PT.setL_new_comm x y p q fun e=>h (congrArg _ e))
 | .d p, .d q,h=>congrArg (fun r=>PT.nd none .lf .lf .lf r) (PT.setL_new_comm x y p q fun e=>h (congrArg _ e))
 | .a _, .e,_ | .b _, .e,_ | .c _, .e,_ | .d _, .e,_=>rfl
 | .a _, .b _,_ | .a _, .c _,_ | .a _, .d _,_ | .b _, .a _,_ | .b _, .c _,_ | .b _, .d _,_=>rfl
 | .c _, .a _,_ | .c _, .b _,_ | .c _, .d _,_ | .d _, .a _,_ | .d _, .b _,_ | .d _, .c _,_=>rfl
theorem PT.setL_comm (x y:Option α):∀(t:PT α) (p q:L4),p≠q→(t.setL y q).setL x p=(t.setL x p).setL y q
 | .lf,p,q,h=>PT.setL_new_comm x y p q h
 | .nd _ _ _ _ _, .e, .e,h=>absurd rfl h
 | .nd _ _ _ _ _, .e, .a _,_ | .nd _ _ _ _ _, .e, .b _,_ | .nd _ _ _ _ _, .e, .c _,_ | .nd _ _ _ _ _, .e, .d _,_=>rfl
 | .nd v t b c d, .a p, .a q,h=>congrArg (fun r=>PT.nd v r b c d) (PT.setL_comm x y t p q fun e=>h (congrArg _ e))
 | .nd v a t c d, .b p, .b q,h=>congrArg (fun r=>PT.nd v a r c d) (PT.setL_comm x y t p q fun e=>h (congrArg _ e))
 | .nd v a b t d, .c p, .c q,h=>congrArg (fun r=>PT.nd v a b r d) (PT.setL_comm x y t p q fun e=>h (congrArg _ e))
 | .nd v a b c t, .d p, .d q,h=>congrArg (fun r=>PT.nd v a b c r) (PT.setL_comm x y t p q fun e=>h (congrArg _ e))
 | .nd _ _ _ _ _, .a _, .e,_ | .nd _ _ _ _ _, .b _, .e,_ | .nd _ _ _ _ _, .c _, .e,_ | .nd _ _ _ _ _, .d _, .e,_=>rfl
 | .nd _ _ _ _ _, .a _, .b _,_ | .nd _ _ _ _ _, .a _, .c _,_ | .nd _ _ _ _ _, .a _, .d _,_=>rfl
 | .nd _ _ _ _ _, .b _, .a _,_ | .nd _ _ _ _ _, .b _, .c _,_ | .nd _ _ _ _ _, .b _, .d _,_=>rfl
 | .nd _ _ _ _ _, .c _, .a _,_ | .nd _ _ _ _ _, .c _, .b _,_ | .nd _ _ _ _ _, .c _, .d _,_=>rfl
 | .nd _ _ _ _ _, .d _, .a _,_ | .nd _ _ _ _ _, .d _, .b _,_ | .nd _ _ _ _ _, .d _, .c _,_=>rfl
theorem PT.get_lf (n:Nat):(PT.lf:PT α).get n=none:=rfl
theorem PT.get_setO (t:PT α) (n m:Nat) (x:Option α):(t.setO n x).get m=if m=n then x else t.get m:=by
 by_cases h:m=n
 ·subst h;rw[if_pos rfl];exact PT.getL_setL x t (path m)
 ·rw[if_neg h];exact PT.getL_setL_ne x t (path n) (path m) fun e=>h (Rv e)
theorem PT.get_set (t:PT α) (n m:Nat) (x:α):(t.set n x).get m=if m=n then some x else t.get m:=PT.get_setO t n m (some x)
theorem PT.set_comm (t:PT α) {n m:Nat} (x y:α) (h:n≠m):(t.set m y).set n x=(t.set n x).set m y:=
 PT.setL_comm (some x) (some y) t (path n) (path m) fun e=>h (Rv e)
end
theorem nM {α:Type}:∀(l:List α) (n:Nat),nth l n=l[n]?
 | [],_=>by simp[nth]
 |x :: l,0=>by simp[nth]
 |x :: l,n+1=>by simp[nth,nM l n]
theorem u7 {α:Type}:∀(l:List α) (n:Nat) (y:α),l5 l n y=l.set n y
 | [],_,_=>by simp[l5]
 |x :: l,0,y=>by simp[l5]
 |x :: l,n+1,y=>by simp[l5,u7 l n y]
theorem zF {α:Type}:∀(n:Nat) (x:α),xI n x=List.replicate n x
 |0,_=>rfl
 |n+1,x=>by simp[xI,zF n x,List.replicate_succ]
theorem aj.get_put (h:aj) (id j:Nat) (o:fG):(h.put id o).get j=if j=id then some o else h.get j:=PT.get_set _ _ _ _
theorem aj.get_push (h:aj) (j:Nat) (o:fG):(h.push o).get j=if j=h.sz then some o else h.get j:=PT.get_set _ _ _ _
@[simp] theorem aj.sz_put (h:aj) (id:Nat) (o:fG):(h.put id o).sz=h.sz:=rfl
@[simp] theorem aj.sz_push (h:aj) (o:fG):(h.push o).sz=h.sz+1:=rfl
theorem aj.row_some {h:aj} {id:Nat} {r:Row}:h.row id=some r↔h.get id=some (.row r):=by
 unfold aj.row
 constructor
 ·intro e
  split at e
  ·rename_i r' hr;cases e;exact hr
  ·cases e
 ·intro e;rw[e]
structure Loc where
 blk:Nat
 base:Nat
 sz:Nat
 ext:Nat
 tot:Nat
abbrev dD:=Nat→Nat→Option Loc
mutual
inductive aX (φ:dD):AV→Value→Prop
 |bool (b:Bool):aX φ (.bool b) (.bool b)
 |int (k:IntKind) (n:Int):aX φ (.int k n) (.int k n)
 |str {l:List Nat} {s:ByteArray} (h:s.data.toList.map UInt8.toNat=l):aX φ (.str l) (.string s)
 |ptr {id g i o:Nat} {L:Loc} (h:φ id g=some L) (hi:i<L.ext):aX φ (.ptr id g i o) (.pointer (some ⟨L.blk,L.base+i*L.sz+o,none⟩))
 |nilPtr:aX φ .nilPtr (.pointer none)
 |slc {id g s len cap c off:Nat} {ex:Bool} {L:Loc} (h:φ id g=some L) (h1:len≤cap) (h2:s+cap≤L.ext) (h3:s+c≤L.tot) (h4:cap≤c) (h5:ex=true→c=cap) (h6:0<c→off=L.base+s*L.sz):
   aX φ (.slc id g s len cap ex) (.slice (some ⟨L.blk,off,none⟩) len c)
 |ah:aX φ .ah (.slice none 0 0)
 |emp {A:Addr}:aX φ .emp (.slice (some A) 0 0)
 |map {id:Nat} {L:Loc} (h:φ id 0=some L):aX φ (.map id) (.map (some L.blk))
 |kC:aX φ .kC (.map none)
 |itr {id:Nat} {L:Loc} (h:φ id 0=some L):aX φ (.itr id) (.pointer (some ⟨L.blk,0,none⟩))
 |func {f:Nat} {a b:List AV} {a' b':List Value} (ha:bS φ a a') (hb:bS φ b b'):aX φ (.fn (.func f) a b) (.func (.func f) ⟨a'⟩ ⟨b'⟩)
 |yield {id:Nat} {L:Loc} (h:φ id 0=some L):aX φ (.fn (.yield id) [] []) (.func (.yield L.blk) #[] #[])
 |nilFn:aX φ .nilFn .nilFunc
 |agg {l:List AV} {l':List Value} (h:bS φ l l'):aX φ (.agg l) (.agg ⟨l'⟩)
 |tup {l:List AV} {l':List Value} (h:bS φ l l'):aX φ (.tup l) (.tuple ⟨l'⟩)
 |iX:aX φ .iX .nilIface
 |ifc {t:Nat} {a:AV} {v:Value} (h:aX φ a v):aX φ (.ifc t a) (.iface t v)
inductive bS (φ:dD):List AV→List Value→Prop
 |nil:bS φ [] []
 |cons {a:AV} {l:List AV} {v:Value} {m:List Value} (h:aX φ a v) (t:bS φ l m):bS φ (a :: l) (v :: m)
end
def dD.le (φ ψ:dD):Prop:=∀id g L,φ id g=some L→ψ id g=some L
theorem dD.le_refl (φ:dD):φ.le φ:=fun _ _ _ h=>h
theorem dD.le_trans {φ ψ χ:dD} (h:φ.le ψ) (k:ψ.le χ):φ.le χ:=fun _ _ _ e=>k _ _ _ (h _ _ _ e)
mutual
theorem aX.mono {φ ψ:dD} (hle:φ.le ψ):∀{a:AV} {v:Value},aX φ a v→aX ψ a v
 |_,_, .bool b=> .bool b
 |_,_, .int k n=> .int k n
 |_,_, .str h=> .str h
 |_,_, .ptr h hi=> .ptr (hle _ _ _ h) hi
 |_,_, .nilPtr=> .nilPtr
 |_,_, .slc h h1 h2 h3 h4 h5 h6=> .slc (hle _ _ _ h) h1 h2 h3 h4 h5 h6
 |_,_, .ah=> .ah
 |_,_, .emp=> .emp
 |_,_, .map h=> .map (hle _ _ _ h)
 |_,_, .kC=> .kC
 |_,_, .itr h=> .itr (hle _ _ _ h)
 |_,_, .func ha hb=> .func (bS.mono hle ha) (bS.mono hle hb)
 |_,_, .yield h=> .yield (hle _ _ _ h)
 |_,_, .nilFn=> .nilFn
 |_,_, .agg h=> .agg (bS.mono hle h)
 |_,_, .tup h=> .tup (bS.mono hle h)
 |_,_, .iX=> .iX
 |_,_, .ifc h=> .ifc (aX.mono hle h)
theorem bS.mono {φ ψ:dD} (hle:φ.le ψ):∀{l:List AV} {m:List Value},bS φ l m→bS ψ l m
 |_,_, .nil=> .nil
 |_,_, .cons h t=> .cons (aX.mono hle h) (bS.mono hle t)
end
theorem bS.length {φ:dD}:∀{l:List AV} {m:List Value},bS φ l m→l.length=m.length
 |_,_, .nil=>rfl
 |_,_, .cons _ t=>by simp[bS.length t]
theorem bS.append {φ:dD}:∀{l:List AV} {m:List Value},bS φ l m→∀{l':List AV} {m':List Value},bS φ l' m'→bS φ (l++l') (m++m')
 |_,_, .nil,_,_,k=>k
 |_,_, .cons h t,_,_,k=> .cons h (bS.append t k)
theorem bS.get {φ:dD}:∀{l:List AV} {m:List Value},bS φ l m→∀{i:Nat} {a:AV},l[i]? =some a→∃v,m[i]? =some v∧aX φ a v
 |_,_, .nil,_,_,e=>by simp at e
 |_,_, .cons h t,0,_,e=>by simp at e;subst e;exact⟨_,by simp,h⟩
 |_,_, .cons h t,i+1,_,e=>by simp at e;simpa using bS.get t e
theorem bS.take {φ:dD}:∀{l:List AV} {m:List Value},bS φ l m→∀(n:Nat),bS φ (l.take n) (m.take n)
 |_,_,h,0=>by simp;exact .nil
 |_,_, .nil,n+1=>by simp;exact .nil
 |_,_, .cons h t,n+1=>by simp;exact .cons h (bS.take t n)
theorem bS.drop {φ:dD}:∀{l:List AV} {m:List Value},bS φ l m→∀(n:Nat),bS φ (l.drop n) (m.drop n)
 |_,_,h,0=>by simpa using h
 |_,_, .nil,n+1=>by simp;exact .nil
 |_,_, .cons h t,n+1=>by simpa using bS.drop t n
theorem bS.replicate {φ:dD} {l:List AV} {m:List Value} (h:bS φ l m):∀n,bS φ (List.replicate n l).flatten (List.replicate n m).flatten
 |0=>by simp;exact .nil
 |n+1=>by simp[List.replicate_succ];exact h.append (bS.replicate h n)
theorem aX.cells {φ:dD} {a:AV} {v:Value} (h:aX φ a v):bS φ a.cells v.cells.toList:=by
 cases h with
 |agg h=>exact h
 |_=>first |exact .cons (by constructor<;>assumption) .nil |exact .cons (by constructor) .nil
theorem aX.leaf {φ:dD} {a:AV} {v:Value} (h:aX φ a v) (hl:a.leaf=true):v.oneCell'=true:=by
 cases h<;>simp_all[AV.leaf,Value.oneCell']
theorem bS.leaf {φ:dD}:∀{l:List AV} {m:List Value},bS φ l m→aD l=true→∀v∈m,v.oneCell'=true
 |_,_, .nil,_,v,hv=>by simp at hv
 |_,_, .cons h t,hl,v,hv=>by
  simp only[aD] at hl
  rename_i a l _ _
  cases ha:a.leaf with
  |false=>simp[ha] at hl
  |true=>
   simp[ha] at hl
   rcases List.mem_cons.1 hv with rfl |hv
   ·exact h.leaf ha
   ·exact bS.leaf t hl v hv
theorem oG:∀{l:List AV},aD l=true↔∀v∈l,v.leaf=true
 | []=>by simp[aD]
 |a :: l=>by
  simp only[aD,List.mem_cons,forall_eq_or_imp]
  cases a.leaf with
  |false=>simp
  |true=>simp[oG (l:=l)]
theorem yP {l m:List AV} (h:aD l=true) (k:aD m=true):aD (l++m)=true:=by
 rw[oG] at *
 intro v hv
 rcases List.mem_append.1 hv with h1 |h1
 ·exact h v h1
 ·exact k v h1
theorem OX {l:List AV} (h:aD l=true) (n:Nat):aD (l.take n)=true:=by
 rw[oG] at *
 exact fun v hv=>h v (List.mem_of_mem_take hv)
theorem Ou {l:List AV} (h:aD l=true) (n:Nat):aD (l.drop n)=true:=by
 rw[oG] at *
 exact fun v hv=>h v (List.mem_of_mem_drop hv)
theorem Pd {l m:List AV} (h:aD l=true) (k:aD m=true) (n:Nat):aD (lay l n m)=true:=
 yP (yP (OX h n) k) (Ou h _)
theorem wY {es:List (List AV)} (h:∀e∈es,aD e=true):aD es.flatten=true:=by
 rw[oG]
 intro v hv
 obtain⟨e,he,hv⟩:=List.mem_flatten.1 hv
 exact oG.1 (h e he) v hv
def lM (φ:dD) (N:Nat) (ρ:dx) (tmps:Array Value):Prop:=N≤tmps.size∧∀t v,ρ.get t=some v→∃cv,tmps[t]? =some cv∧aX φ v cv
theorem lM.mono {φ ψ:dD} {N:Nat} {ρ:dx} {tmps:Array Value} (hle:φ.le ψ) (h:lM φ N ρ tmps):lM ψ N ρ tmps:=
 ⟨h.1,fun t v e=>let⟨cv,h1,h2⟩:=h.2 t v e;⟨cv,h1,h2.mono hle⟩⟩
theorem lM.set {φ:dD} {N:Nat} {ρ:dx} {tmps:Array Value} (h:lM φ N ρ tmps) {d:Nat} (hd:d<N) {v:AV} {cv:Value} (hv:aX φ v cv):lM φ N (ρ.set d v) (tmps.setIfInBounds d cv):=by
 refine⟨by simpa using h.1,fun t u e=> ?_⟩
 rw[PT.get_set] at e
 by_cases ht:t=d
 ·subst ht
  simp at e
  subst e
  refine⟨cv, ?_,hv⟩
  have:t<tmps.size:=Nat.lt_of_lt_of_le hd h.1
  simp[this]
 ·rw[if_neg ht] at e
  obtain⟨cu,h1,h2⟩:=h.2 t u e
  exact⟨cu,by rw[Array.getElem?_setIfInBounds_ne (Ne.symm ht)];exact h1,h2⟩
theorem lM.put {φ:dD} {N:Nat} {ρ:dx} {a:Act} (h:lM φ N ρ a.tmps) {d:Option Nat} (hd:LZ N d=true) {v:AV} {cv:Value} (hv:aX φ v cv):lM φ N (Ab.put ρ d v) (a.put d cv).tmps:=by
 cases d with
 |none=>exact h
 |some d=>
  simp only[LZ,Nat.blt_eq] at hd
  exact h.set hd hv
mutual
theorem oD {φ:dD}:∀{v:Value} {a:AV},pO v=some a→aX φ a v
 | .bool b,a,h=>by simp[pO] at h;subst h;exact .bool b
 | .int k n,a,h=>by simp[pO] at h;subst h;exact .int k n
 | .string s,a,h=>by simp[pO] at h;subst h;exact .str rfl
 | .pointer none,a,h=>by simp[pO] at h;subst h;exact .nilPtr
 | .pointer (some _),a,h=>by simp[pO] at h
 | .slice none 0 0,a,h=>by simp[pO] at h;subst h;exact .ah
 | .slice none 0 (_+1),a,h=>by simp[pO] at h
 | .slice none (_+1) _,a,h=>by simp[pO] at h
 | .slice (some _) _ _,a,h=>by simp[pO] at h
 | .map none,a,h=>by simp[pO] at h;subst h;exact .kC
 | .map (some _),a,h=>by simp[pO] at h
 | .nilFunc,a,h=>by simp[pO] at h;subst h;exact .nilFn
 | .agg ⟨l⟩,a,h=>by
   simp only[pO] at h
   cases hl:CK l with
   |none=>simp[hl] at h
   |some r=>simp[hl] at h;subst h;exact .agg (yN hl)
 | .tuple ⟨l⟩,a,h=>by
   simp only[pO] at h
   cases hl:CK l with
   |none=>simp[hl] at h
   |some r=>simp[hl] at h;subst h;exact .tup (yN hl)
 | .float _ _,a,h=>by simp[pO] at h
 | .complex _ _ _,a,h=>by simp[pO] at h
 | .chan _,a,h=>by simp[pO] at h
 | .func _ _ _,a,h=>by simp[pO] at h
 | .iface _ _,a,h=>by simp[pO] at h
 | .nilIface,a,h=>by simp[pO] at h;subst h;exact .iX
theorem yN {φ:dD}:∀{l:List Value} {r:List AV},CK l=some r→bS φ r l
 | [],r,h=>by simp[CK] at h;subst h;exact .nil
 |v :: l,r,h=>by
  simp only[CK] at h
  cases hv:pO v with
  |none=>simp[hv] at h
  |some a=>
   cases hl:CK l with
   |none=>simp[hv,hl] at h
   |some r'=>simp[hv,hl] at h;subst h;exact .cons (oD hv) (yN hl)
end
theorem bD {φ:dD} {N:Nat} {ρ:dx} {a:Act} (h:lM φ N ρ a.tmps) {x:Operand} {y:bW} (hx:aU x=some y) {v:AV} (hv:ev ρ y=some v):aX φ v (a.eval x):=by
 cases x with
 |tmp t=>
  simp[aU] at hx;subst hx
  obtain⟨cv,h1,h2⟩:=h.2 t v hv
  have:a.eval (.tmp t)=cv:=by simp[Act.eval,h1]
  rw[this];exact h2
 |const c=>
  simp only[aU] at hx
  cases hc:pO c with
  |none=>simp[hc] at hx
  |some u=>
   simp[hc] at hx;subst hx
   simp[ev] at hv;subst hv
   exact oD hc
 |global g=>simp[aU] at hx
 |func f=>
  simp[aU] at hx;subst hx
  simp[ev] at hv;subst hv
  exact .func .nil .nil
theorem tu {φ:dD} {N:Nat} {ρ:dx} {a:Act} (h:lM φ N ρ a.tmps):∀{l:List Operand} {m:List bW},lY l=some m→∀{vs:List AV},evs ρ m=some vs→bS φ vs (l.map a.eval)
 | [],m,hm,vs,hv=>by simp[lY] at hm;subst hm;simp[evs] at hv;subst hv;exact .nil
 |x :: l,m,hm,vs,hv=>by
  simp only[lY] at hm
  cases hx:aU x with
  |none=>simp[hx] at hm
  |some y=>
   cases hl:lY l with
   |none=>simp[hx,hl] at hm
   |some m'=>
    simp[hx,hl] at hm;subst hm
    simp only[evs] at hv
    cases he:ev ρ y with
    |none=>simp[he] at hv
    |some v=>
     cases hes:evs ρ m' with
     |none=>simp[he,hes] at hv
     |some vs'=>
      simp[he,hes] at hv;subst hv
      exact .cons (bD h hx he) (tu h hl hes)
def Xa (s:Ka) (r:Loop):Prop:=
 match s with
 | .ready=>r.state= .ready∧r.pending=none
 | .busy=>r.state= .busy
 | .done x=>r.state= .done∧(match x with | .normal=>False | .ret=>r.pending=some .ret | .exit id=>r.pending=some (.exit id)| .goto l=>r.pending=some (.goto l)| .panic _=>False)
 | .exh=>r.state= .exhausted
inductive jl (φ:dD):List (AV×AV×Nat)→List MapEntry→Prop
 |nil:jl φ [] []
 |cons {k v:AV} {b:Nat} {l:List (AV×AV×Nat)} {e:MapEntry} {m:List MapEntry} (hk:aX φ k e.key) (hv:aX φ v e.val) (hb:e.born=b) (t:jl φ l m):jl φ ((k,v,b) :: l) (e :: m)
theorem jl.mono {φ ψ:dD} (hle:φ.le ψ) {l:List (AV×AV×Nat)} {m:List MapEntry} (h:jl φ l m):jl ψ l m:=by
 induction h with
 |nil=>exact .nil
 |cons hk hv hb _ ih=>exact .cons (hk.mono hle) (hv.mono hle) hb ih
structure lG (φ:dD) (id:Nat) (r:Row) (w:World):Prop where
 mg:r.m≤r.g
 sz:0<r.sz
 es:∀e∈r.es,e.length=r.sz
 leaf:∀e∈r.es,aD e=true
 cur:∃L,φ id r.g=some L∧L.ext=r.es.length
 gen:∀g L,φ id g=some L→g≤r.g∧L.sz=r.sz
 cells:∀g L,r.m≤g→φ id g=some L→L.ext≤r.es.length∧
  ∃vals:List Value,bS φ (r.es.take L.ext).flatten vals∧∀(j:Nat) (v:Value),vals[j]? =some v→w.cell? ⟨L.blk,L.base+j,none⟩=some v
 own:r.rw=true→∀g L,r.m≤g→φ id g=some L→L.base=0∧∃c t,w.heap[L.blk]? =some (.cells c t (0,0))∧c.size=L.tot*L.sz∧L.ext≤L.tot
 ty:∀e,r.ty=some e→r.rw=true→∀g L,r.m≤g→φ id g=some L→∃c f,w.heap[L.blk]? =some (.cells c e f)
def yg (P:Program) (φ:dD) (id:Nat) (o:fG) (w:World):Prop:=
 match o with
 | .row r=>lG φ id r w
 | .map es clock=>∃L cs,φ id 0=some L∧w.heap[L.blk]? =some (.map cs clock)∧jl φ es cs.toList
 | .iter m since seen stepped=>∃L,φ id 0=some L∧∃cm,w.heap[L.blk]? =some (.mapIter cm since seen.reverse.toArray stepped)∧
    (match m with |none=>cm=none |some k=>∃L',φ k 0=some L'∧cm=some L'.blk)
 | .gone=>True
 | .rmap es clock=>∃L cs,φ id 0=some L∧w.heap[L.blk]? =some (.map cs clock)∧jl φ es cs.toList
 | .dead=>True
 | .gvar b=>∃L te pe,φ id 0=some L∧L.blk=b∧w.cell? ⟨b,0,none⟩=some (.iface te pe)
 | .loop l=>∃L r N,φ id 0=some L∧w.heap[L.blk]? =some (.loop r)∧lM φ N l.regs r.tmps∧r.params.toList=l.ps∧(∀p∈l.ps,p<N)∧comp P N r.assign=some (strip l.asg)∧comp P N r.body=some (strip l.body)∧Xa l.st r
structure Base where
 n:Nat
 gh:Nat→Option fG
instance:Coe Base Nat:=⟨Base.n⟩
@[reducible] def Base.of (n:Nat):Base:=⟨n,fun _=>none⟩
@[simp] theorem Base.of_n (n:Nat):(Base.of n).n=n:=rfl
@[simp] theorem Base.of_gh (n id:Nat):(Base.of n).gh id=none:=rfl
structure bJ (P:Program) (B:Base) (φ:dD) (h:aj) (w:World):Prop where
 base:B≤w.heap.size
 dom:∀id g L,φ id g=some L→id<h.sz
 gone:∀id,h.sz≤id→h.get id=none
 objn:∀id o,h.get id=some o→B.gh id=none→yg P φ id o w
 lt:∀id g L,φ id g=some L→L.blk<w.heap.size
 own:∀id o g L,h.get id=some o→φ id g=some L→(o.own=true→B≤L.blk)∧(o.own=false→L.blk<B)
 disj:∀id o id' g g' L L',h.get id=some o→o.own=true→φ id g=some L→φ id' g'=some L'→L.blk=L'.blk→id=id'
 nodef:∀id g L,φ id g=some L→∀ds:Option (List Deferred),w.heap[L.blk]? ≠some (Obj.deferred ds)
 ghost:∀id o,B.gh id=some o→(∀u,h.get id=some u→u=o)∧id<h.sz∧(∀g,φ id g=none)∧o.own=true
theorem bJ.real {P:Program} {B:Base} {φ:dD} {h:aj} {w:World} (H:bJ P B φ h w) {id g:Nat} {L:Loc} (hL:φ id g=some L):B.gh id=none:=by
 cases e:B.gh id with
 |none=>rfl
 |some o=>rw[(H.ghost id o e).2.2.1 g] at hL;cases hL
theorem bJ.obj {P:Program} {B:Base} {φ:dD} {h:aj} {w:World} (H:bJ P B φ h w) (id:Nat) (o:fG) (ho:h.get id=some o) (hd:∃g L,φ id g=some L:=by exact⟨_,_,by assumption⟩):yg P φ id o w:=by
 obtain⟨g,L,hL⟩:=hd
 exact H.objn id o ho (H.real hL)
structure Gw (B:Nat) (w w':World):Prop where
 os:w'.os=w.os
 tape:w'.tape=w.tape
 output:w'.output=w.output
 size:w.heap.size≤w'.heap.size
 below:∀k:Nat,k<B→w'.heap[k]? =w.heap[k]?
 defd:∀(k:Nat) (ds:Option (List Deferred)),w.heap[k]? =some (Obj.deferred ds)→w'.heap[k]? =some (Obj.deferred ds)
 loops:∀(k:Nat) (r:Loop),w.heap[k]? =some (Obj.loop r)→∃r',w'.heap[k]? =some (Obj.loop r')
theorem Gw.refl (B:Nat) (w:World):Gw B w w:=⟨rfl,rfl,rfl,Nat.le_refl _,fun _ _=>rfl,fun _ _ h=>h,fun _ r h=>⟨r,h⟩⟩
theorem Gw.frozen {B:Nat} {w w':World} (h:Gw B w w') (a:Addr) (ha:a.block<B):w'.frozen? a=w.frozen? a:=by simp only[World.frozen?,h.below _ ha]
theorem Gw.trans {B:Nat} {w w1 w2:World} (h:Gw B w w1) (k:Gw B w1 w2):Gw B w w2:=
 ⟨k.os.trans h.os,k.tape.trans h.tape,k.output.trans h.output,Nat.le_trans h.size k.size,fun i hi=>(k.below i hi).trans (h.below i hi),fun i ds hd=>k.defd i ds (h.defd i ds hd),fun i r hr=>(let⟨r',h'⟩:=h.loops i r hr;k.loops i r' h')⟩
theorem Gw.drew (B:Nat) (w:World):Gw B w w.drew:=⟨rfl,rfl,rfl,Nat.le_refl _,fun _ _=>rfl,fun _ _ h=>h,fun _ r h=>⟨r,h⟩⟩
theorem yg.heap {P:Program} {φ:dD} {id:Nat} {o:fG} {w w':World} (h:yg P φ id o w) (e:w'.heap=w.heap):yg P φ id o w':=by
 have ec:∀a,w'.cell? a=w.cell? a:=fun a=>by simp[World.cell?,e]
 cases o with
 |row r=>
  refine⟨h.mg,h.sz,h.es,h.leaf,h.cur,h.gen,fun g L h1 h2=> ?_,fun hr g L h1 h2=>by rw[e];exact h.own hr g L h1 h2,fun t ht hr g L h1 h2=>by rw[e];exact h.ty t ht hr g L h1 h2⟩
  obtain⟨a,vals,b,c⟩:=h.cells g L h1 h2
  exact⟨a,vals,b,fun j v hj=>by rw[ec];exact c j v hj⟩
 |map es c=>simpa only[yg,e] using h
 |iter m s l p=>simpa only[yg,e] using h
 |loop l=>simpa only[yg,e] using h
 |gone=>trivial
 |rmap es c=>simpa only[yg,e] using h
 |dead=>trivial
 |gvar b=>simpa only[yg,ec] using h
theorem bJ.heap {P:Program} {B:Base} {φ:dD} {h:aj} {w w':World} (k:bJ P B φ h w) (e:w'.heap=w.heap):bJ P B φ h w':=
 ⟨by rw[e];exact k.base,k.dom,k.gone,fun id o ho hd=>(k.objn id o ho hd).heap e,fun id g L hl=>by rw[e];exact k.lt id g L hl,k.own,k.disj,fun id g L hl=>by rw[e];exact k.nodef id g L hl,k.ghost⟩
theorem bJ.drew {P:Program} {B:Base} {φ:dD} {h:aj} {w:World} (k:bJ P B φ h w):bJ P B φ h w.drew:=k.heap rfl
theorem lV {α:Type} {sz:Nat}:∀{es:List (List α)},(∀e∈es,e.length=sz)→es.flatten.length=es.length*sz
 | [],_=>by simp
 |e :: l,h=>by
  have h1:=h e (by simp)
  have h2:=lV (es:=l) (fun x hx=>h x (by simp[hx]))
  simp only[List.flatten_cons,List.length_append,List.length_cons,h1,h2,Nat.add_mul];omega
theorem G7 {α:Type} {sz:Nat}:∀{es:List (List α)},(∀e∈es,e.length=sz)→∀n,(es.drop n).flatten=es.flatten.drop (n*sz)
 |es,_,0=>by simp
 | [],_,n+1=>by simp
 |e :: l,h,n+1=>by
  have h1:=h e (by simp)
  have h2:=G7 (es:=l) (fun x hx=>h x (by simp[hx])) n
  simp only[List.drop_succ_cons,List.flatten_cons,h2]
  have:(n+1)*sz=e.length+n*sz:=by rw[Nat.add_mul,h1];omega
  rw[this,List.drop_length_add_append]
theorem wI {α:Type} {sz:Nat}:∀{es:List (List α)},(∀e∈es,e.length=sz)→∀n,(es.take n).flatten=es.flatten.take (n*sz)
 |es,_,0=>by simp
 | [],_,n+1=>by simp
 |e :: l,h,n+1=>by
  have h1:=h e (by simp)
  have h2:=wI (es:=l) (fun x hx=>h x (by simp[hx])) n
  simp only[List.take_succ_cons,List.flatten_cons,h2]
  have:(n+1)*sz=e.length+n*sz:=by rw[Nat.add_mul,h1];omega
  rw[this,List.take_length_add_append]
theorem aae {α:Type} {sz:Nat}:∀{es:List (List α)},(∀e∈es,e.length=sz)→∀{i o:Nat} {e:List α} {a:α},es[i]? =some e→e[o]? =some a→es.flatten[i*sz+o]? =some a
 | [],_,_,_,_,_,hi,_=>by simp at hi
 |e :: l,h,0,o,_,a,hi,ho=>by
  simp at hi;subst hi
  have hlt:o<e.length:=(List.getElem?_eq_some_iff.1 ho).1
  rw[List.flatten_cons,Nat.zero_mul,Nat.zero_add,List.getElem?_append_left hlt];exact ho
 |e :: l,h,i+1,o,e',a,hi,ho=>by
  have h1:=h e (by simp)
  have h2:=aae (es:=l) (fun x hx=>h x (by simp[hx])) (i:=i) (o:=o) (e:=e') (a:=a) (by simpa using hi) ho
  have:(i+1)*sz+o=e.length+(i*sz+o):=by rw[Nat.add_mul,h1];omega
  rw[List.flatten_cons,this,List.getElem?_append_right (by omega)]
  simpa using h2
theorem wR {α:Type} (l:List α) (n:Nat) (new:List α) (h:n+new.length≤l.length):(lay l n new).length=l.length:=by
 unfold lay
 simp only[List.length_append,List.length_take,List.length_drop]
 omega
theorem N8 {α:Type} {sz:Nat} {es new:List (List α)} (h:∀e∈es,e.length=sz) (hn:∀e∈new,e.length=sz) (n:Nat):
 (lay es n new).flatten=lay es.flatten (n*sz) new.flatten:=by
 unfold lay
 rw[List.flatten_append,List.flatten_append,wI h,G7 h,lV hn,Nat.add_mul]
theorem Jb {α:Type} (l:List α) (i:Nat) (x:α) (h:i<l.length):l.set i x=lay l i [x]:=by
 unfold lay
 rw[List.set_eq_take_append_cons_drop,if_pos h]
 simp
theorem afi {α:Type} {sz:Nat} {es:List (List α)} (h:∀e∈es,e.length=sz) {i o:Nat} {e:List α} (hi:es[i]? =some e) {new:List α} (hn:o+new.length≤e.length):
 (es.set i (lay e o new)).flatten=lay es.flatten (i*sz+o) new:=by
 obtain⟨hlt,he⟩:=List.getElem?_eq_some_iff.1 hi
 have hel:e.length=sz:=h e (by rw[←he];exact List.getElem_mem hlt)
 have h1:∀x∈[lay e o new],x.length=sz:=by
  intro x hx
  simp at hx
  subst hx
  rw[wR _ _ _ hn,hel]
 rw[Jb _ _ _ hlt,N8 h h1]
 have hes:es.flatten=(es.take i).flatten++(e++(es.drop (i+1)).flatten):=by
  conv=>lhs;rw[←List.take_append_drop i es]
  rw[List.flatten_append,List.drop_eq_getElem_cons hlt,he,List.flatten_cons]
 have hl1:(es.take i).flatten.length=i*sz:=by
  rw[lV (sz:=sz) (fun x hx=>h x (List.mem_of_mem_take hx)),List.length_take]
  congr 1;omega
 simp only[List.flatten_cons,List.flatten_nil,List.append_nil]
 unfold lay
 rw[hes]
 simp only[List.length_append,List.length_take,List.length_drop]
 have e1:List.take (i*sz) ((es.take i).flatten++(e++(es.drop (i+1)).flatten))=(es.take i).flatten:=by
  rw[←hl1];exact List.take_left
 have e2:List.take (i*sz+o) ((es.take i).flatten++(e++(es.drop (i+1)).flatten))=(es.take i).flatten++e.take o:=by
  rw[←hl1,List.take_length_add_append,List.take_append_of_le_length (by omega)]
 have e3:List.drop (i*sz+(min o e.length+new.length+(e.length-(o+new.length)))) ((es.take i).flatten++(e++(es.drop (i+1)).flatten))=(es.drop (i+1)).flatten:=by
  rw[show i*sz+(min o e.length+new.length+(e.length-(o+new.length)))=(es.take i).flatten.length+(e.length+0) by omega,List.drop_length_add_append,List.drop_length_add_append]
  rfl
 have e4:List.drop (i*sz+o+new.length) ((es.take i).flatten++(e++(es.drop (i+1)).flatten))=e.drop (o+new.length)++(es.drop (i+1)).flatten:=by
  rw[show i*sz+o+new.length=(es.take i).flatten.length+(o+new.length) by omega,List.drop_length_add_append,List.drop_append_of_le_length (by omega)]
 rw[e1,e2,e3,e4]
 simp
theorem cell_of_heap {w w':World} {a:Addr} (h:w'.heap[a.block]? =w.heap[a.block]?):w'.cell? a=w.cell? a:=by simp[World.cell?,h]
theorem yg.other {P:Program} {φ φ':dD} {id:Nat} {o:fG} {w w':World} (h:yg P φ id o w) (hle:φ.le φ') (he:∀g,φ' id g=φ id g)
 (hb:∀g L,φ id g=some L→w'.heap[L.blk]? =w.heap[L.blk]?):yg P φ' id o w':=by
 cases o with
 |row r=>
  obtain⟨L,h1,h2⟩:=h.cur
  refine⟨h.mg,h.sz,h.es,h.leaf,⟨L,by rw[he];exact h1,h2⟩,fun g L hL=>h.gen g L (by rw[←he];exact hL),fun g L hm hL=> ?_,fun hr g L hm hL=> ?_,fun t ht hr g L hm hL=> ?_⟩
  ·rw[he] at hL
   obtain⟨a,vals,b,c⟩:=h.cells g L hm hL
   exact⟨a,vals,b.mono hle,fun j v hj=>(cell_of_heap (hb g L hL)).trans (c j v hj)⟩
  ·rw[he] at hL
   rw[hb g L hL]
   exact h.own hr g L hm hL
  ·rw[he] at hL
   rw[hb g L hL]
   exact h.ty t ht hr g L hm hL
 |gone=>trivial
 |dead=>trivial
 |gvar b=>
  obtain⟨L,te,pe,h1,h2,h3⟩:=h
  refine⟨L,te,pe,hle _ _ _ h1,h2, ?_⟩
  subst h2
  exact(cell_of_heap (a:=⟨L.blk,0,none⟩) (hb _ _ h1)).trans h3
 |rmap es c=>
  obtain⟨L,cs,h1,h2,h3⟩:=h
  exact⟨L,cs,hle _ _ _ h1,(hb _ _ h1).trans h2,h3.mono hle⟩
 |map es c=>
  obtain⟨L,cs,h1,h2,h3⟩:=h
  exact⟨L,cs,hle _ _ _ h1,(hb _ _ h1).trans h2,h3.mono hle⟩
 |iter m s l p=>
  obtain⟨L,h1,cm,h2,h3⟩:=h
  refine⟨L,hle _ _ _ h1,cm,(hb _ _ h1).trans h2, ?_⟩
  cases m with
  |none=>exact h3
  |some k=>obtain⟨L',a,b⟩:=h3;exact⟨L',hle _ _ _ a,b⟩
 |loop l=>
  obtain⟨L,r,N,h1,h2,h3,h4⟩:=h
  exact⟨L,r,N,hle _ _ _ h1,(hb _ _ h1).trans h2,h3.mono hle,h4⟩
theorem bJ.keep {P:Program} {B:Base} {φ:dD} {h:aj} {w w':World} (H:bJ P B φ h w) (hsz:w.heap.size≤w'.heap.size)
 (hk:∀id g L,φ id g=some L→w'.heap[L.blk]? =w.heap[L.blk]?):bJ P B φ h w':=
 ⟨Nat.le_trans H.base hsz,H.dom,H.gone,fun id o ho hd=>(H.objn id o ho hd).other φ.le_refl (fun _=>rfl) (hk id),fun id g L hl=>Nat.lt_of_lt_of_le (H.lt id g L hl) hsz,H.own,H.disj,fun id g L hl=>by rw[hk id g L hl];exact H.nodef id g L hl,H.ghost⟩
theorem bJ.alloc {P:Program} {B:Base} {φ:dD} {h:aj} {w:World} (H:bJ P B φ h w) (ob:Obj):bJ P B φ h (w.alloc ob):=
 H.keep (by simp) fun id g L hL=>heap_alloc_old w ob (H.lt id g L hL)
def dD.add (φ:dD) (id g:Nat) (L:Loc):dD:=fun a b=>if a=id∧b=g then some L else φ a b
theorem dD.add_same (φ:dD) (id g:Nat) (L:Loc):φ.add id g L id g=some L:=by simp[dD.add]
theorem dD.add_other (φ:dD) {id g:Nat} (L:Loc) {a b:Nat} (h:¬(a=id∧b=g)):φ.add id g L a b=φ a b:=by simp[dD.add,h]
theorem dD.le_add {φ:dD} {id g:Nat} (L:Loc) (h:φ id g=none):φ.le (φ.add id g L):=fun a b K e=>by
 rw[dD.add_other]
 ·exact e
 ·rintro⟨rfl,rfl⟩;rw[h] at e;cases e
theorem bJ.fresh {P:Program} {B:Base} {φ:dD} {h:aj} {w:World} (H:bJ P B φ h w) (g:Nat):φ h.sz g=none:=by
 cases e:φ h.sz g with
 |none=>rfl
 |some L=>exact absurd (H.dom _ _ _ e) (Nat.lt_irrefl _)
theorem push_inj {h:aj} {o o':fG} (e:h.push o=h.push o'):o=o':=by
 have:(h.push o).get h.sz=(h.push o').get h.sz:=by rw[e]
 rw[aj.get_push,aj.get_push,if_pos rfl,if_pos rfl] at this
 exact Option.some.inj this
def Base.add (B:Base) (id:Nat) (o:fG):Base:=⟨B.n,fun a=>if a=id then some o else B.gh a⟩
def Base.del (B:Base) (id:Nat):Base:=⟨B.n,fun a=>if a=id then none else B.gh a⟩
@[simp] theorem Base.add_n (B:Base) (id:Nat) (o:fG):(B.add id o).n=B.n:=rfl
@[simp] theorem Base.del_n (B:Base) (id:Nat):(B.del id).n=B.n:=rfl
theorem Base.add_same (B:Base) (id:Nat) (o:fG):(B.add id o).gh id=some o:=by simp[Base.add]
theorem Base.add_other (B:Base) {id a:Nat} (o:fG) (h:a≠id):(B.add id o).gh a=B.gh a:=by simp[Base.add,h]
theorem Base.del_same (B:Base) (id:Nat):(B.del id).gh id=none:=by simp[Base.del]
theorem Base.del_other (B:Base) {id a:Nat} (h:a≠id):(B.del id).gh a=B.gh a:=by simp[Base.del,h]
theorem Base.del_add {B:Base} {id:Nat} {o:fG} (h:B.gh id=none):(B.add id o).del id=B:=by
 cases B with
 |mk n gh=>
  simp only[Base.add,Base.del,Base.mk.injEq,true_and]
  funext a
  by_cases e:a=id
  ·subst e;simpa using h.symm
  ·simp[e]
theorem bJ.noGhost {P:Program} {B:Base} {φ:dD} {h:aj} {w:World} (H:bJ P B φ h w):B.gh h.sz=none:=by
 cases e:B.gh h.sz with
 |none=>rfl
 |some o=>exact absurd (H.ghost _ _ e).2.1 (Nat.lt_irrefl _)
theorem bJ.pushGhost {P:Program} {B:Base} {φ:dD} {h:aj} {w:World} (H:bJ P B φ h w) (o:fG) (hown:o.own=true):bJ P (B.add h.sz o) φ (h.push o) w:=by
 have hget:∀id o',(h.push o).get id=some o'→(id=h.sz∧o'=o)∨(id<h.sz∧h.get id=some o'):=by
  intro id o' e
  rw[aj.get_push] at e
  by_cases hi:id=h.sz
  ·rw[if_pos hi] at e;cases e;exact .inl ⟨hi,rfl⟩
  ·rw[if_neg hi] at e
   refine .inr ⟨?_,e⟩
   rcases Nat.lt_or_ge id h.sz with h1 |h1
   ·exact h1
   ·rw[H.gone id h1] at e;cases e
 refine⟨H.base,fun id g K e=>Nat.lt_succ_of_lt (H.dom id g K e),fun id hid=> ?_,fun id o' e hd=> ?_,H.lt,fun id o' g K e e'=> ?_,fun id o' id' g g' K K' e hown' e1 e2 hblk=> ?_,H.nodef,fun id o' e=> ?_⟩
 ·simp at hid
  rw[aj.get_push,if_neg (by omega)]
  exact H.gone id (by omega)
 ·rcases hget _ _ e with⟨rfl,rfl⟩|⟨h1,h2⟩
  ·rw[Base.add_same] at hd;cases hd
  ·rw[Base.add_other _ _ (by omega)] at hd
   exact H.objn id o' h2 hd
 ·rcases hget _ _ e with⟨rfl,rfl⟩|⟨h1,h2⟩
  ·have:=H.dom _ _ _ e';omega
  ·exact H.own id o' g K h2 e'
 ·rcases hget _ _ e with⟨rfl,rfl⟩|⟨h1,h2⟩
  ·have:=H.dom _ _ _ e1;omega
  ·exact H.disj id o' id' g g' K K' h2 hown' e1 e2 hblk
 ·by_cases hi:id=h.sz
  ·subst hi
   rw[Base.add_same] at e;cases e
   exact⟨fun u hu=>by rw[aj.get_push,if_pos rfl] at hu;cases hu;rfl,Nat.lt_succ_self _,fun g=>H.fresh g,hown⟩
  ·rw[Base.add_other _ _ hi] at e
   obtain⟨h1,h2,h3⟩:=H.ghost id o' e
   exact⟨fun u hu=>by rw[aj.get_push,if_neg hi] at hu;exact h1 u hu,Nat.lt_succ_of_lt h2,h3⟩
theorem bJ.fill {P:Program} {B:Base} {φ:dD} {h:aj} {w:World} {id:Nat} {o:fG} (H:bJ P B φ h w) (hg:B.gh id=some o) (hown:o.own=true) {L:Loc} {ob:Obj} (hL:L.blk=w.heap.size) (hob:∀ds,ob≠ .deferred ds)
 (ho:yg P (φ.add id 0 L) id o (w.alloc ob)):bJ P (B.del id) (φ.add id 0 L) h (w.alloc ob):=by
 obtain⟨hget,hid,hnone,_⟩:=H.ghost id o hg
 have hle:φ.le (φ.add id 0 L):=dD.le_add L (hnone 0)
 have hphi:∀a g K,φ.add id 0 L a g=some K→(a=id∧g=0∧K=L)∨(a≠id∧φ a g=some K):=by
  intro a g K e
  by_cases hi:a=id∧g=0
  ·obtain⟨rfl,rfl⟩:=hi
   rw[dD.add_same] at e;cases e;exact .inl ⟨rfl,rfl,rfl⟩
  ·rw[dD.add_other _ _ hi] at e
   refine .inr ⟨fun ha=> ?_,e⟩
   subst ha
   rw[hnone g] at e;cases e
 refine⟨Nat.le_trans H.base (by simp), ?_,H.gone, ?_, ?_, ?_, ?_, ?_, ?_⟩
 ·intro a g K e
  rcases hphi _ _ _ e with⟨rfl,_,_⟩|⟨_,h1⟩
  ·exact hid
  ·exact H.dom _ _ _ h1
 ·intro a o' e hd
  by_cases ha:a=id
  ·subst ha
   cases hget o' e
   exact ho
  ·rw[Base.del_other _ ha] at hd
   exact(H.objn a o' e hd).other hle (fun g=>dD.add_other _ _ (by omega)) (fun g K hK=>heap_alloc_old w ob (H.lt a g K hK))
 ·intro a g K e
  rcases hphi _ _ _ e with⟨_,_,rfl⟩|⟨_,h2⟩
  ·rw[hL];simp
  ·have:=H.lt a g K h2;simp;omega
 ·intro a o' g K e e'
  rcases hphi _ _ _ e' with⟨rfl,_,rfl⟩|⟨_,h3⟩
  ·cases hget o' e
   exact⟨fun _=>by rw[hL];exact H.base,fun hf=>by rw[hown] at hf;cases hf⟩
  ·exact H.own a o' g K e h3
 ·intro a o' a' g g' K K' e hown' e1 e2 hblk
  rcases hphi _ _ _ e1 with⟨rfl,_,rfl⟩|⟨h1,h1'⟩
  ·rcases hphi _ _ _ e2 with⟨rfl,_,_⟩|⟨_,h2'⟩
   ·rfl
   ·have:=H.lt _ _ _ h2';omega
  ·rcases hphi _ _ _ e2 with⟨rfl,_,rfl⟩|⟨h2,h2'⟩
   ·have:=H.lt _ _ _ h1';omega
   ·exact H.disj a o' a' g g' K K' e hown' h1' h2' hblk
 ·intro a g K e ds hd
  rcases hphi _ _ _ e with⟨_,_,rfl⟩|⟨_,h2⟩
  ·rw[hL,heap_alloc_new] at hd
   exact hob ds (Option.some.inj hd)
  ·rw[heap_alloc_old w ob (H.lt a g K h2)] at hd
   exact H.nodef a g K h2 ds hd
 ·intro a o' e
  by_cases ha:a=id
  ·subst ha;rw[Base.del_same] at e;cases e
  ·rw[Base.del_other _ ha] at e
   obtain⟨h1,h2,h3,h4⟩:=H.ghost a o' e
   exact⟨h1,h2,fun g=>by rw[dD.add_other _ _ (by omega)];exact h3 g,h4⟩
theorem bJ.push {P:Program} {B:Base} {φ:dD} {h:aj} {w:World} (H:bJ P B φ h w) {o:fG} (hown:o.own=true) {L:Loc} {ob:Obj} (hL:L.blk=w.heap.size) (hob:∀ds,ob≠ .deferred ds)
 (ho:yg P (φ.add h.sz 0 L) h.sz o (w.alloc ob)):bJ P B (φ.add h.sz 0 L) (h.push o) (w.alloc ob):=by
 have:=(H.pushGhost o hown).fill (Base.add_same _ _ _) hown hL hob ho
 rwa [Base.del_add H.noGhost] at this
def tO (w w':World):Prop:=∀(k:Nat) (ds:Option (List Deferred)),w'.heap[k]? =some (Obj.deferred ds)→w.heap[k]? =some (Obj.deferred ds)
theorem tO.put (w:World) {b:Nat} {o:Obj} (ho:∀ds,o≠ .deferred ds):tO w (w.putObj b o):=by
 intro k ds hk
 by_cases e:k=b
 ·subst e
  have hlt:k<w.heap.size:=by
   have:=(Array.getElem?_eq_some_iff.1 hk).1
   simpa using this
  rw[World.putObj_heap_same hlt] at hk
  exact absurd (Option.some.inj hk) (ho ds)
 ·rwa [World.putObj_heap_other e] at hk
theorem tO.alloc (w:World) {o:Obj} (ho:∀ds,o≠ .deferred ds):tO w (w.alloc o):=by
 intro k ds hk
 by_cases e:k=w.heap.size
 ·subst e
  rw[heap_alloc_new] at hk
  exact absurd (Option.some.inj hk) (ho ds)
 ·have hlt:k<w.heap.size:=by
   have:=(Array.getElem?_eq_some_iff.1 hk).1
   simp at this;omega
  rwa [heap_alloc_old w o hlt] at hk
theorem tO.of_block {w w':World} {g:Nat} {y:Obj} (hy:w'.heap[g]? =some y) (ho:∀ds,y≠ .deferred ds) (hk:∀k:Nat,k≠g→w'.heap[k]? =w.heap[k]?):tO w w':=by
 intro k ds h
 by_cases e:k=g
 ·subst e;rw[hy] at h;exact absurd (Option.some.inj h) (ho ds)
 ·rwa [hk k e] at h
theorem bJ.update {P:Program} {B:Base} {φ φ':dD} {h:aj} {w w':World} (H:bJ P B φ h w) {id:Nat} {o o':fG} (ho:h.get id=some o) (hown:o.own=true) (hown':o'.own=true)
 (hle:φ.le φ') (hφ:∀a g,a≠id→φ' a g=φ a g)
 (hnew:∀g L,φ' id g=some L→φ id g=some L∨(L.blk=w.heap.size∧L.blk<w'.heap.size)∨∃g0 L0,φ id g0=some L0∧L0.blk=L.blk)
 (hsz:w.heap.size≤w'.heap.size) (hkeep:∀k,k<w.heap.size→(∀g L,φ id g=some L→L.blk≠k)→w'.heap[k]? =w.heap[k]?)
 (hkind:tO w w') (hobj:yg P φ' id o' w') (hdm:∃g L,φ id g=some L:=by exact⟨_,_,by assumption⟩):bJ P B φ' (h.put id o') w':=by
 have hng:B.gh id=none:=(let⟨_,_,hd⟩:=hdm;H.real hd)
 have hid:id<h.sz:=by
  rcases Nat.lt_or_ge id h.sz with h1 |h1
  ·exact h1
  ·rw[H.gone id h1] at ho;cases ho
 have hget:∀a x,(h.put id o').get a=some x→(a=id∧x=o')∨(a≠id∧h.get a=some x):=by
  intro a x e
  rw[aj.get_put] at e
  by_cases ha:a=id
  ·rw[if_pos ha] at e;cases e;exact .inl ⟨ha,rfl⟩
  ·rw[if_neg ha] at e;exact .inr ⟨ha,e⟩
 have hloc:∀g L,φ' id g=some L→(∃g0 L0,φ id g0=some L0∧L0.blk=L.blk)∨(L.blk=w.heap.size∧L.blk<w'.heap.size):=by
  intro g L e
  rcases hnew g L e with h1 |h1 |h1
  ·exact .inl ⟨g,L,h1,rfl⟩
  ·exact .inr h1
  ·exact .inl h1
 refine⟨Nat.le_trans H.base hsz, ?_, ?_, ?_, ?_, ?_, ?_, ?_, ?_⟩
 ·intro a g L e
  by_cases ha:a=id
  ·subst ha;simpa using hid
  ·rw[hφ a g ha] at e;simpa using H.dom a g L e
 ·intro a ha
  simp at ha
  rw[aj.get_put,if_neg (by omega)]
  exact H.gone a ha
 ·intro a x e hd
  rcases hget a x e with⟨rfl,rfl⟩|⟨h1,h2⟩
  ·exact hobj
  ·refine(H.objn a x h2 hd).other hle (fun g=>hφ a g h1) (fun g L hL=>hkeep L.blk (H.lt a g L hL) fun g0 L0 h0 heq=> ?_)
   exact h1 (H.disj id o a g0 g L0 L ho hown h0 hL heq).symm
 ·intro a g L e
  by_cases ha:a=id
  ·subst ha
   rcases hloc g L e with⟨g0,L0,h0,hb⟩|h1
   ·have:=H.lt _ _ _ h0;omega
   ·exact h1.2
  ·rw[hφ a g ha] at e;exact Nat.lt_of_lt_of_le (H.lt a g L e) hsz
 ·intro a x g L e e'
  rcases hget a x e with⟨rfl,rfl⟩|⟨h1,h2⟩
  ·refine⟨fun _=> ?_,fun hf=>by rw[hown'] at hf;cases hf⟩
   rcases hloc g L e' with⟨g0,L0,h0,hb⟩|h1
   ·rw[←hb];exact(H.own a o g0 L0 ho h0).1 hown
   ·rw[h1.1];exact H.base
  ·rw[hφ a g h1] at e';exact H.own a x g L h2 e'
 ·intro a x a' g g' L L' e hx e1 e2 hblk
  rcases hget a x e with⟨rfl,rfl⟩|⟨h1,h2⟩
  ·by_cases ha':a'=a
   ·exact ha'.symm
   ·rw[hφ a' g' ha'] at e2
    rcases hloc g L e1 with⟨g0,L0,h0,hb⟩|h1
    ·exact H.disj a o a' g0 g' L0 L' ho hown h0 e2 (hb.trans hblk)
    ·have:=H.lt _ _ _ e2;omega
  ·rw[hφ a g h1] at e1
   by_cases ha':a'=id
   ·subst ha'
    rcases hloc g' L' e2 with⟨g0,L0,h0,hb⟩|h3
    ·exact H.disj a x a' g g0 L L0 h2 hx e1 h0 (hblk.trans hb.symm)
    ·have:=H.lt _ _ _ e1;omega
   ·rw[hφ a' g' ha'] at e2
    exact H.disj a x a' g g' L L' h2 hx e1 e2 hblk
 ·intro a g L e ds hd
  have hd:=hkind _ _ hd
  by_cases ha:a=id
  ·subst ha
   rcases hloc g L e with⟨g0,L0,h0,hb⟩|h1
   ·exact H.nodef a g0 L0 h0 ds (by rw[hb];exact hd)
   ·have:=(Array.getElem?_eq_some_iff.1 hd).1;omega
  ·rw[hφ a g ha] at e
   exact H.nodef a g L e ds hd
 ·intro a x e
  obtain⟨h1,h2,h3,h4⟩:=H.ghost a x e
  have ha:a≠id:=by
   rintro rfl
   rw[hng] at e;cases e
  exact⟨fun u hu=>by rw[aj.get_put,if_neg ha] at hu;exact h1 u hu,h2,fun g=>by rw[hφ a g ha];exact h3 g,h4⟩
theorem Gw.alloc {B:Nat} {w:World} (hB:B≤w.heap.size) {ob:Obj} (hf:∀c t fr,ob= .cells c t fr→fr=(0,0)):Gw B w (w.alloc ob):=by
 refine⟨rfl,rfl,rfl,by simp,fun k hk=>heap_alloc_old w ob (by omega),fun k ds hk=> ?_,fun k r hk=>⟨r, ?_⟩⟩
 ·have hlt:k<w.heap.size:=(Array.getElem?_eq_some_iff.1 hk).1
  exact(heap_alloc_old w ob hlt).trans hk
 ·have hlt:k<w.heap.size:=(Array.getElem?_eq_some_iff.1 hk).1
  exact(heap_alloc_old w ob hlt).trans hk
theorem Gw.of_block {B:Nat} {w w':World} {g:Nat} {x y:Obj} (hg:w.heap[g]? =some x) (hB:B≤g) (hnd:∀ds,x≠ .deferred ds) (hlp:∀r,x= .loop r→∃r',y= .loop r') (hy:w'.heap[g]? =some y)
 (hfx:∀c t fr,x= .cells c t fr→fr=(0,0)) (hfy:∀c t fr,y= .cells c t fr→fr=(0,0))
 (ho:∀k:Nat,k≠g→w'.heap[k]? =w.heap[k]?) (hs:w'.heap.size=w.heap.size) (h1:w'.os=w.os) (h2:w'.tape=w.tape) (h3:w'.output=w.output) (h4:w.drawn≤w'.drawn:=by exact Nat.le_refl _):Gw B w w':=by
 refine⟨h1,h2,h3,by omega,fun k hk=>ho k (by omega),fun k ds hk=> ?_,fun k r hk=> ?_⟩
 ·by_cases e:k=g
  ·subst e;rw[hg] at hk;cases hk;exact absurd rfl (hnd ds)
  ·exact(ho k e).trans hk
 ·by_cases e:k=g
  ·subst e;rw[hg] at hk;cases hk
   obtain⟨r',hr'⟩:=hlp r rfl
   exact⟨r',by rw[hy,hr']⟩
  ·exact⟨r,(ho k e).trans hk⟩
theorem Ib {φ:dD} {id g:Nat} {r:Row} {w:World} (h:lG φ id r w) {L:Loc} (hL:φ id g=some L) (hm:r.m≤g) {p n:Nat} (hp:p+n≤L.ext*r.sz):
 ∃vs:List Value,bS φ ((r.es.flatten.drop p).take n) vs∧vs.length=n∧∀(j:Nat) (v:Value),vs[j]? =some v→w.cell? ((⟨L.blk,L.base+p,none⟩:Addr).add j)=some v:=by
 obtain⟨hext,vals,hv,hc⟩:=h.cells g L hm hL
 have hlen:(r.es.take L.ext).flatten.length=L.ext*r.sz:=by
  rw[lV (sz:=r.sz) (fun e he=>h.es e (List.mem_of_mem_take he)),List.length_take]
  congr 1;omega
 refine⟨(vals.drop p).take n, ?_, ?_, ?_⟩
 ·have e1:(r.es.flatten.drop p).take n=(((r.es.take L.ext).flatten).drop p).take n:=by
   rw[wI h.es,List.drop_take,List.take_take]
   congr 1
   omega
  rw[e1]
  exact(hv.drop p).take n
 ·have:=hv.length
  simp only[List.length_take,List.length_drop]
  omega
 ·intro j v hj
  have hjn:j<n:=by
   have:=(List.getElem?_eq_some_iff.1 hj).1
   simp only[List.length_take,List.length_drop] at this
   omega
  rw[Addr.add_lit,Nat.add_assoc]
  apply hc
  rw[List.getElem?_take_of_lt hjn,List.getElem?_drop] at hj
  exact hj
theorem aez {sz:Nat} {es:List (List AV)} (h:∀e∈es,e.length=sz) {i o n:Nat} {e:List AV} (hi:es[i]? =some e) (ho:o+n≤e.length):
 ((es.flatten.drop (i*sz+o)).take n)=(e.drop o).take n:=by
 obtain⟨hlt,he⟩:=List.getElem?_eq_some_iff.1 hi
 have hes:es.flatten=(es.take i).flatten++(e++(es.drop (i+1)).flatten):=by
  conv=>lhs;rw[←List.take_append_drop i es]
  rw[List.flatten_append,List.drop_eq_getElem_cons hlt,he,List.flatten_cons]
 have hl1:(es.take i).flatten.length=i*sz:=by
  rw[lV (sz:=sz) (fun x hx=>h x (List.mem_of_mem_take hx)),List.length_take]
  congr 1;omega
 rw[hes, ←hl1,List.drop_length_add_append,List.drop_append_of_le_length (by omega),List.take_append_of_le_length (by simp;omega)]
theorem Ww {φ:dD} {id g:Nat} {r:Row} {w:World} (h:lG φ id r w) {L:Loc} (hL:φ id g=some L) (hm:r.m≤g) {i o n:Nat} {e:List AV} (hi:i<L.ext) (he:r.es[i]? =some e) (hn:o+n≤e.length):
 ∃vs:List Value,bS φ ((e.drop o).take n) vs∧vs.length=n∧∀(j:Nat) (v:Value),vs[j]? =some v→w.cell? ((⟨L.blk,L.base+i*L.sz+o,none⟩:Addr).add j)=some v:=by
 have hsz:L.sz=r.sz:=(h.gen g L hL).2
 have hel:e.length=r.sz:=h.es e (List.mem_of_getElem? he)
 have hp:i*r.sz+o+n≤L.ext*r.sz:=by
  have:(i+1)*r.sz≤L.ext*r.sz:=Nat.mul_le_mul_right _ hi
  rw[Nat.add_mul] at this;omega
 obtain⟨vs,h1,h2,h3⟩:=Ib h hL hm hp
 rw[aez h.es he hn] at h1
 refine⟨vs,h1,h2,fun j v hj=> ?_⟩
 have:=h3 j v hj
 rw[hsz,Nat.add_assoc]
 exact this
theorem EG {P:Program} {B:Base} {φ:dD} {h:aj} {w:World} (H:bJ P B φ h w) {id:Nat} {r:Row} (hr:h.get id=some (.row r)) (hrw:r.rw=true) {L:Loc} (hL:φ id r.g=some L)
 {new:List AV} {nv:List Value} (hn:bS φ new nv) (hleaf:aD new=true) {p:Nat} (hp:p+new.length≤r.es.length*r.sz) {es':List (List AV)} (he1:∀e∈es',e.length=r.sz)
 (he2:es'.length=r.es.length) (he3:es'.flatten=lay r.es.flatten p new) (he4:∀e∈es',aD e=true):
 ∃w',(storeCells ⟨L.blk,L.base+p,none⟩ nv).run P w= .ok () w'∧bJ P B φ (h.put id (.row {r with es:=es',m:=r.g})) w'∧Gw B w w':=by
 have hrow:lG φ id r w:=H.obj id _ hr
 obtain⟨hbase,c,t,hc,hcs,hlt⟩:=hrow.own hrw r.g L hrow.mg hL
 have hsz:L.sz=r.sz:=(hrow.gen r.g L hL).2
 obtain⟨L',hL',hext⟩:=hrow.cur
 have:L'=L:=by rw[hL] at hL';cases hL';rfl
 subst this
 have hnl:=hn.length
 have hfit:p+nv.length≤c.size:=by
  have h1:r.es.length*r.sz≤L'.tot*L'.sz:=by rw[hsz];exact Nat.mul_le_mul_right _ (by omega)
  omega
 have hst:=run_storeCells_at P L'.blk p t nv 0 c w hc (by simpa using hfit) (hn.leaf hleaf)
 simp only[Nat.add_zero] at hst
 have hB:B≤L'.blk:=(H.own id _ r.g L' hr hL).1 hrw
 generalize hc':(c.toList.take p++nv++c.toList.drop (p+nv.length)).toArray=c' at hst
 have hheap:=setRow_heap w L'.blk c c' t (0,0) hc
 have hc's:c'.size=c.size:=by
  rw[←hc'];simp;omega
 obtain⟨hx1,vals,hv,hcv⟩:=hrow.cells r.g L' hrow.mg hL
 have hlenE:(r.es.take L'.ext).flatten.length=r.es.length*r.sz:=by
  rw[lV (sz:=r.sz) (fun e he=>hrow.es e (List.mem_of_mem_take he)),List.length_take]
  congr 1;omega
 have htk:r.es.take L'.ext=r.es:=List.take_of_length_le (by omega)
 rw[htk] at hv hlenE
 refine⟨w.setRow L'.blk c',by rw[hbase,Nat.zero_add];exact hst, ?_, ?_⟩
 ·refine H.update hr hrw (by exact hrw) φ.le_refl (fun _ _ _=>rfl) (fun g K e=> .inl e) (by simp) (fun k _ hk=>setRow_other w L'.blk k c' (fun e=>hk r.g L' hL e.symm)) (tO.of_block hheap (fun ds e=>by cases e) (fun k hk=>setRow_other w L'.blk k c' hk)) ?_
  refine⟨Nat.le_refl _,hrow.sz,he1,he4,⟨L',hL,by rw[he2];exact hext⟩,hrow.gen,fun g K hm hK=> ?_,fun _ g K hm hK=> ?_,fun u hu _ g K hm hK=> ?_⟩
  ·have hg:g=r.g:=Nat.le_antisymm (hrow.gen g K hK).1 hm
   subst hg
   rw[hL] at hK;cases hK
   refine⟨by simp only;omega, ?_⟩
   refine⟨vals.take p++nv++vals.drop (p+nv.length), ?_, ?_⟩
   ·rw[List.take_of_length_le (by simp only;omega),he3]
    unfold lay
    rw[hnl]
    exact((hv.take p).append hn).append (hv.drop _)
   ·intro j v hj
    rw[cell_setRow_same w L'.blk _ c c' t (0,0) hc, ←hc',hbase,Nat.zero_add]
    have hvl:vals.length=r.es.length*r.sz:=by rw[←hv.length];exact hlenE
    have hcell:∀(k:Nat) (u:Value),vals[k]? =some u→c.toList[k]? =some u:=by
     intro k u hk
     have:=hcv k u hk
     rw[cell_of_row w L'.blk _ c t (0,0) hc,hbase,Nat.zero_add] at this
     simpa using this
    have hjlt:=(List.getElem?_eq_some_iff.1 hj).1
    simp only[List.length_append,List.length_take,List.length_drop] at hjlt
    have hcl:c.toList.length=c.size:=by simp
    simp only[List.getElem?_toArray]
    by_cases h1:j<p
    ·rw[List.append_assoc,List.getElem?_append_left (by simp;omega),List.getElem?_take_of_lt h1] at hj ⊢
     exact hcell j v hj
    ·by_cases h2:j<p+nv.length
     ·rw[List.append_assoc,List.getElem?_append_right (by simp;omega),List.getElem?_append_left (by simp;omega)] at hj ⊢
      simp only[List.length_take] at hj ⊢
      rw[show min p vals.length=p by omega] at hj
      rw[show min p c.toList.length=p by omega]
      exact hj
     ·rw[List.getElem?_append_right (by simp;omega),List.getElem?_drop] at hj ⊢
      simp only[List.length_append,List.length_take] at hj ⊢
      rw[show p+nv.length+(j-(min p vals.length+nv.length))=j by omega] at hj
      rw[show p+nv.length+(j-(min p c.toList.length+nv.length))=j by omega]
      exact hcell j v hj
  ·have hg:g=r.g:=Nat.le_antisymm (hrow.gen g K hK).1 hm
   subst hg
   rw[hL] at hK;cases hK
   exact⟨hbase,c',t,hheap,by rw[hc's];exact hcs,hlt⟩
  ·have hg:g=r.g:=Nat.le_antisymm (hrow.gen g K hK).1 hm
   subst hg
   obtain⟨c0,f0,hc0⟩:=hrow.ty u hu hrw r.g K hrow.mg hK
   rw[hL] at hK;cases hK
   rw[hc] at hc0;cases hc0
   exact⟨_,_,hheap⟩
 ·refine Gw.of_block hc hB (fun ds e=>by cases e) (fun r e=>by cases e) hheap ?_ ?_ (fun k hk=>setRow_other w L'.blk k c' hk) (by simp) rfl rfl rfl
  ·intro c0 t0 fr e;cases e;rfl
  ·intro c0 t0 fr e;cases e;rfl
theorem uY {P:Program} {B:Base} {φ:dD} {h:aj} {w:World} {id:Nat} (H:bJ P B φ h w) {es:List (List AV)} {sz:Nat} (hsz:0<sz) (hes:∀e∈es,e.length=sz) (hlf:∀e∈es,aD e=true) {vals spare:List Value} (hv:bS φ es.flatten vals)
 {tot:Nat} (htot:vals.length+spare.length=tot*sz) (t:TypeId) (ty:Option Nat) (hty:∀e,ty=some e→e=t) (hg:B.gh id=some (.row {es,sz,g:=0,m:=0,rw:=true,ty})):
 ∃φ',φ.le φ'∧φ' id 0=some ⟨w.heap.size,0,sz,es.length,tot⟩∧bJ P (B.del id) φ' h (w.alloc (.cells (vals++spare).toArray t))∧Gw B w (w.alloc (.cells (vals++spare).toArray t)):=by
 have hnone:=(H.ghost id _ hg).2.2.1
 have hle:φ.le (φ.add id 0 ⟨w.heap.size,0,sz,es.length,tot⟩):=dD.le_add _ (hnone 0)
 refine⟨φ.add id 0 ⟨w.heap.size,0,sz,es.length,tot⟩,hle,dD.add_same _ _ _ _, ?_,Gw.alloc H.base (fun c t' fr e=>by cases e;rfl)⟩
 have hvl:vals.length=es.length*sz:=by rw[←hv.length,lV hes]
 have hkey:∀g L,φ.add id 0 ⟨w.heap.size,0,sz,es.length,tot⟩ id g=some L→g=0∧L=⟨w.heap.size,0,sz,es.length,tot⟩:=by
  intro g L e
  by_cases hg:g=0
  ·subst hg;rw[dD.add_same] at e;cases e;exact⟨rfl,rfl⟩
  ·rw[dD.add_other _ _ (by omega),hnone] at e;cases e
 refine H.fill hg rfl rfl (fun ds e=>by cases e) ?_
 refine⟨Nat.le_refl _,hsz,hes,hlf,⟨_,dD.add_same _ _ _ _,rfl⟩,fun g L e=> ?_,fun g L _ e=> ?_,fun _ g L _ e=> ?_,fun u hu _ g L _ e=> ?_⟩
 ·obtain⟨rfl,rfl⟩:=hkey g L e;exact⟨Nat.le_refl _,rfl⟩
 ·obtain⟨rfl,rfl⟩:=hkey g L e
  refine⟨Nat.le_refl _,vals, ?_,fun j v hj=> ?_⟩
  ·rw[List.take_of_length_le (Nat.le_refl _)];exact hv.mono hle
  ·have hjl:=(List.getElem?_eq_some_iff.1 hj).1
   simp only[Nat.zero_add]
   rw[World.cell?_alloc_new]
   simp[List.getElem?_append_left hjl,hj]
 ·obtain⟨rfl,rfl⟩:=hkey g L e
  refine⟨rfl,_,t,heap_alloc_new w _,by simp;omega, ?_⟩
  simp only
  rcases Nat.lt_or_ge tot es.length with h1 |h1
  ·have h2:(tot+1)*sz≤es.length*sz:=Nat.mul_le_mul_right _ h1
   rw[Nat.add_mul] at h2
   omega
  ·exact h1
 ·obtain⟨rfl,rfl⟩:=hkey g L e
  obtain rfl:=hty u hu
  exact⟨_,_,heap_alloc_new w _⟩
theorem yM {P:Program} {B:Base} {φ:dD} {h:aj} {w:World} (H:bJ P B φ h w) {es:List (List AV)} {sz:Nat} (hsz:0<sz) (hes:∀e∈es,e.length=sz) (hlf:∀e∈es,aD e=true) {vals spare:List Value} (hv:bS φ es.flatten vals)
 {tot:Nat} (htot:vals.length+spare.length=tot*sz) (t:TypeId) (ty:Option Nat) (hty:∀e,ty=some e→e=t):
 ∃φ',φ.le φ'∧φ' h.sz 0=some ⟨w.heap.size,0,sz,es.length,tot⟩∧bJ P B φ' (newRow h es sz ty) (w.alloc (.cells (vals++spare).toArray t))∧Gw B w (w.alloc (.cells (vals++spare).toArray t)):=by
 obtain⟨φ',h1,h2,h3,h4⟩:=uY (H.pushGhost (.row {es,sz,g:=0,m:=0,rw:=true,ty}) rfl) hsz hes hlf hv htot t ty hty (Base.add_same _ _ _)
 rw[Base.del_add H.noGhost] at h3
 exact⟨φ',h1,h2,h3,h4⟩
theorem ac4 {P:Program} {B:Base} {φ:dD} {h:aj} {w:World} (H:bJ P B φ h w) {es:List (List AV)} {sz:Nat} (hsz:0<sz) (hes:∀e∈es,e.length=sz) (hlf:∀e∈es,aD e=true) {vals spare:List Value} (hv:bS φ es.flatten vals)
 {tot:Nat} (htot:vals.length+spare.length=tot*sz) (t:TypeId):
 ∃φ',φ.le φ'∧φ' h.sz 0=some ⟨w.heap.size,0,sz,es.length,tot⟩∧bJ P B φ' (newRow h es sz) (w.alloc (.cells (vals++spare).toArray t))∧Gw B w (w.alloc (.cells (vals++spare).toArray t)):=
 yM H hsz hes hlf hv htot t none (fun _ e=>by cases e)
def lJ (P:Program) (B:Base) (φ:dD) (h':aj) (v:AV) (w:World) (r:Result Value):Prop:=
 ∃cv w' φ',r= .ok cv w'∧aX φ' v cv∧bJ P B φ' h' w'∧φ.le φ'∧Gw B w w'
def ae2 (P:Program) (B:Base) (φ:dD) (h':aj) (w:World) (r:Result Unit):Prop:=
 ∃w' φ',r= .ok () w'∧bJ P B φ' h' w'∧φ.le φ'∧Gw B w w'
def mZ (P:Program) (B:Base) (φ:dD) (h':aj) (v:AV) (w:World) (r:Result Next):Prop:=
 ∃cv w' φ',(r= .ok (.value cv) w'∨(r= .ok .skip w'∧cv=undef))∧aX φ' v cv∧bJ P B φ' h' w'∧φ.le φ'∧Gw B w w'
section
variable {P:Program} {B:Base} {φ:dD} {h h':aj} {w:World} {v:AV}
theorem lJ.pure {r:Result Value} {cv:Value} (H:bJ P B φ h w) (hr:r= .ok cv w) (hv:aX φ v cv):lJ P B φ h v w r:=
 ⟨cv,w,φ,hr,hv,H,φ.le_refl,Gw.refl B w⟩
theorem mZ.ofV {s:Sem Value} (hs:lJ P B φ h' v w (s.run P w)):mZ P B φ h' v w ((do let x ←s;Pure.pure (Next.value x):Sem Next).run P w):=by
 obtain⟨cv,w',φ',hr,rest⟩:=hs
 exact⟨cv,w',φ', .inl (by simp[Sem.run_bind,hr]),rest⟩
theorem mZ.ofU {s:Sem Unit} (hs:ae2 P B φ h' w (s.run P w)):mZ P B φ h' (.tup []) w ((do s;Pure.pure Next.skip:Sem Next).run P w):=by
 obtain⟨w',φ',hr,rest⟩:=hs
 exact⟨undef,w',φ', .inr ⟨by simp[hr],rfl⟩, .tup .nil,rest⟩
theorem tN {t:TypeId} {b:Bool} (ht:mO P t=some b) (w:World):(isAgg t).run P w= .ok b w:=by
 unfold mO at ht
 unfold isAgg
 split at ht<;>rename_i hu
 ·cases ht;simp[Sem.run_bind,run_underlying hu]
 ·cases ht;simp[Sem.run_bind,run_underlying hu]
 ·rename_i d h1 h2
  cases ht
  rw[Sem.run_bind,run_underlying hu]
  cases d<;>first |rfl |(exact absurd rfl (h1 _))|(exact absurd rfl (h2 _ _))
 ·cases ht
theorem fF {t:TypeId} {n:Nat} (ht:sizeT P t=some n) (w:World):(sizeOf t).run P w= .ok n w:=by
 unfold sizeT at ht
 cases hi:P.info? t with
 |none=>simp[hi] at ht
 |some i=>simp[hi] at ht;subst ht;simp[sizeOf,typeInfo,hi]
theorem Ju {t:TypeId} {n:Nat} (ht:wz P t=some n) (w:World):∃i,(typeInfo t).run P w= .ok i w∧i.bytes=n∧P.info? t=some i:=by
 unfold wz at ht
 cases hi:P.info? t with
 |none=>simp[hi] at ht
 |some i=>simp[hi] at ht;exact⟨i,by simp[typeInfo,hi],ht,rfl⟩
theorem jS {t:TypeId} {z:AV} (ht:iV P t=some z) (w:World):∃zv i,(zeroValue t).run P w= .ok zv w∧pO zv=some z∧P.info? t=some i∧i.zero=some zv:=by
 unfold iV at ht
 cases hi:P.info? t with
 |none=>simp[hi] at ht
 |some i=>
  cases hz:i.zero with
  |none=>simp[hi,hz] at ht
  |some zv=>simp[hi,hz] at ht;exact⟨zv,i,by simp[zeroValue,typeInfo,hi,hz],ht,rfl,hz⟩
theorem Kw {j k:IntKind} (e:mH j=mH k):j=k:=by
 cases j<;>cases k<;>first |rfl |(simp[mH] at e)
theorem vJ (k:IntKind) (n:Int):sO k n=k.wrap n:=by
 unfold sO
 cases hf:Gh k n with
 |false=>rfl
 |true=>
  rw[cond_true]
  symm
  cases k<;>cases n<;>simp only[Gh,aI,Bool.false_eq_true] at hf
  all_goals first
   |(rw[IntWalk.i64_in];constructor<;>simp only[Int.ofNat_eq_natCast,Int.negSucc_eq]<;>omega)
   |(rw[IntWalk.u8_in];constructor<;>simp only[Int.ofNat_eq_natCast]<;>omega)
   |(rw[IntWalk.u64_in];constructor<;>simp only[Int.ofNat_eq_natCast]<;>omega)
   |(rw[IntWalk.i32_in];constructor<;>simp only[Int.ofNat_eq_natCast]<;>omega)
   |(rw[IntWalk.u32_in];constructor<;>simp only[Int.ofNat_eq_natCast]<;>omega)
theorem wT (a b:Int):xO a b=(a==b):=by
 rw[Bool.eq_iff_iff,beq_iff_eq]
 cases a<;>cases b<;>simp[xO]
 ·omega
theorem Pw (a b:Int):wJ a b=true↔a<b:=by
 cases a<;>cases b<;>simp only[wJ,bB,Bool.false_eq_true,Int.ofNat_eq_natCast,Int.negSucc_eq]<;>constructor<;>intro<;>first |omega |trivial
theorem yY (a b:Int):wJ a b=decide (a<b):=by
 rw[Bool.eq_iff_iff,Pw];simp
theorem Rj (a b:Int):(!wJ a b)=decide (b≤a):=by
 rw[yY, ←decide_not];congr 1;simp
theorem G5:∀(a b:List Nat),DK a b=(a==b)
 | [],[]=>rfl
 | [],_ :: _=>rfl
 |_ :: _,[]=>rfl
 |x :: a,y :: b=>by
  simp only[DK,List.cons_beq_cons]
  cases e:Nat.beq x y with
  |true=>rw[cond_true,G5 a b];have:=aF.1 e;subst this;simp
  |false=>rw[cond_false];have:=dh.1 e;simp[this]
theorem IW {a b:ByteArray} {l m:List Nat} (ha:a.data.toList.map UInt8.toNat=l) (hb:b.data.toList.map UInt8.toNat=m):DK l m=(a.toList==b.toList):=by
 rw[G5,ByteArray.toList_eq,ByteArray.toList_eq, ←ha, ←hb]
 rw[Bool.eq_iff_iff,beq_iff_eq,beq_iff_eq]
 constructor
 ·intro e
  exact List.map_inj_right (fun x y h=>UInt8.toNat.inj h) |>.1 e
 ·intro e;rw[e]
theorem Jq:∀(a b:List UInt8),KQ (a.map UInt8.toNat) (b.map UInt8.toNat)=Op.bytesLess a b
 |_,[]=>by cases ‹List UInt8› <;>simp[KQ,Op.bytesLess]
 | [],_ :: _=>by simp[KQ,Op.bytesLess]
 |x :: a,y :: b=>by
  simp only[List.map_cons,KQ,Op.bytesLess]
  cases e:Nat.blt x.toNat y.toNat with
  |true=>
   have h1:x<y:=UInt8.lt_iff_toNat_lt.2 (bB.1 e)
   simp[h1]
  |false=>
   have h1:¬x<y:=fun h=>by rw[bB.2 (UInt8.lt_iff_toNat_lt.1 h)] at e;cases e
   cases e2:Nat.beq x.toNat y.toNat with
   |true=>
    have h2:x=y:=UInt8.toNat.inj (aF.1 e2)
    subst h2
    simp[Jq a b]
   |false=>
    have h2:¬x=y:=fun h=>by subst h;rw[aF.2 rfl] at e2;cases e2
    simp[h1,h2]
theorem yI {s:ByteArray} {l:List Nat} (hs:s.data.toList.map UInt8.toNat=l):s.size=l.length:=by
 rw[←hs,List.length_map,Array.length_toList];rfl
theorem Tg {op:BinOp} {x y v:AV} {cx cy:Value} (hx:aX φ x cx) (hy:aX φ y cy) (he:eY op x y=some v) (t:TypeId):∃cv,(binOp op t cx cy).run P w= .ok cv w∧aX φ v cv∧(∀a b,cx≠ .agg a∨cy≠ .agg b)∧(cx≠ .nilIface):=by
 unfold eY at he
 split at he
 ·rename_i k a j b
  cases hx;cases hy
  refine(fun(hh:∃cv,(binOp op t (.int k a) (.int j b)).run P w= .ok cv w∧aX φ v cv)=> ?_) ?_
  ·obtain⟨cv,h1,h2⟩:=hh
   exact⟨cv,h1,h2,fun _ _=> .inl (by simp),by simp⟩
  cases hsft:ni op with
  |true=>
   rw[hsft,cond_true] at he
   unfold abv at he
   cases hneg:wJ b 0 with
   |true=>rw[hneg] at he;simp at he
   |false=>
    have hb:¬b<0:=fun h=>by rw[(Pw b 0).2 h] at hneg;cases hneg
    rw[hneg,cond_false] at he
    cases op<;>simp[ni] at hsft<;>cases he
    ·exact⟨.int k (k.wrap (a*2 ^ (min b.toNat k.bits))),by simp only[binOp,Op.shift,hb,if_false];rfl, .int _ _⟩
    ·exact⟨.int k (a.fdiv (2 ^ (min b.toNat k.bits))),by simp only[binOp,Op.shift,hb,if_false];rfl, .int _ _⟩
  |false=>
   rw[hsft,cond_false] at he
   cases hk:Nat.beq (mH k) (mH j) with
   |false=>rw[hk] at he;simp at he
   |true=>
    rw[hk,cond_true] at he
    have:=Kw (aF.1 hk);subst this
    cases op<;>simp[ni] at hsft<;>simp only[l8,aea] at he
    case add=>cases he;exact⟨.int k (k.wrap (a+b)),by simp[binOp,Op.intArith],by rw[vJ];exact .int _ _⟩
    case sub=>cases he;exact⟨.int k (k.wrap (a-b)),by simp[binOp,Op.intArith],by rw[vJ];exact .int _ _⟩
    case mul=>cases he;exact⟨.int k (k.wrap (a*b)),by simp[binOp,Op.intArith],by rw[vJ];exact .int _ _⟩
    case quo=>
     cases hz:xO b 0 with
     |true=>rw[hz] at he;simp at he
     |false=>
      rw[hz] at he;simp at he;subst he
      have hb:¬b=0:=fun e=>by rw[wT,e] at hz;simp at hz
      exact⟨.int k (k.wrap (a.tdiv b)),by simp[binOp,Op.intDiv,hb],by rw[vJ];exact .int _ _⟩
    case rem=>
     cases hz:xO b 0 with
     |true=>rw[hz] at he;simp at he
     |false=>
      rw[hz] at he;simp at he;subst he
      have hb:¬b=0:=fun e=>by rw[wT,e] at hz;simp at hz
      exact⟨.int k (a.tmod b),by simp[binOp,Op.intDiv,hb], .int _ _⟩
    case and=>cases he;exact⟨.int k (k.wrap (BitVec.ofInt k.bits a&&& BitVec.ofInt k.bits b).toNat),by simp only[binOp,Op.intBits,ne_eq,not_true_eq_false,if_false];rfl, .int _ _⟩
    case or=>cases he;exact⟨.int k (k.wrap (BitVec.ofInt k.bits a|||BitVec.ofInt k.bits b).toNat),by simp only[binOp,Op.intBits,ne_eq,not_true_eq_false,if_false];rfl, .int _ _⟩
    case xor=>cases he;exact⟨.int k (k.wrap (BitVec.ofInt k.bits a ^^^ BitVec.ofInt k.bits b).toNat),by simp only[binOp,Op.intBits,ne_eq,not_true_eq_false,if_false];rfl, .int _ _⟩
    case andNot=>cases he;exact⟨.int k (k.wrap (BitVec.ofInt k.bits a&&& ~~~ BitVec.ofInt k.bits b).toNat),by simp only[binOp,Op.intBits,ne_eq,not_true_eq_false,if_false];rfl, .int _ _⟩
    case eql=>cases he;exact⟨.bool (a==b),by simp[binOp,Op.intCmp],by rw[wT];exact .bool _⟩
    case neq=>cases he;exact⟨.bool (!(a==b)),by simp[binOp,Op.intCmp,bne],by rw[wT];exact .bool _⟩
    case lss=>cases he;exact⟨.bool (decide (a<b)),by simp[binOp,Op.intCmp],by rw[yY];exact .bool _⟩
    case leq=>cases he;exact⟨.bool (decide (a≤b)),by simp[binOp,Op.intCmp],by rw[Rj];exact .bool _⟩
    case gtr=>cases he;exact⟨.bool (decide (b<a)),by simp[binOp,Op.intCmp],by rw[yY];exact .bool _⟩
    case geq=>cases he;exact⟨.bool (decide (b≤a)),by simp[binOp,Op.intCmp],by rw[Rj];exact .bool _⟩
 ·rename_i l m
  cases hx with
  |str ha=>
   rename_i a
   cases hy with
   |str hb=>
    rename_i b
    refine(fun(hh:∃cv,(binOp op t (.string a) (.string b)).run P w= .ok cv w∧aX φ v cv)=> ?_) ?_
    ·obtain⟨cv,h1,h2⟩:=hh
     exact⟨cv,h1,h2,fun _ _=> .inl (by simp),by simp⟩
    have e1:=IW ha hb
    have e2:KQ l m=Op.bytesLess a.toList b.toList:=by
     rw[←ha, ←hb,Jq,ByteArray.toList_eq,ByteArray.toList_eq]
    have hsz:((a.size+b.size:Nat):Int)=((l.length+m.length:Nat):Int):=by rw[yI ha,yI hb]
    cases op<;>simp only[Cq] at he<;>try(cases he;done)
    case add=>
     cases hle:Nat.ble (l.length+m.length) most with
     |false=>rw[hle] at he;simp at he
     |true=>
      rw[hle] at he;simp at he;subst he
      have h1:=aI.1 hle
      unfold most at h1
      have h2:¬(IntKind.i64.max<((a.size:Int)+(b.size:Int))):=by
       have:((a.size:Int)+(b.size:Int))=((a.size+b.size:Nat):Int):=by omega
       rw[this,hsz]
       have:IntKind.i64.max=9223372036854775807:=by rfl
       rw[this];omega
      refine⟨.string (a++b),by simp[binOp,Op.stringOp];omega, .str ?_⟩
      rw[←ha, ←hb, ←List.map_append]
      simp[ByteArray.data_append]
    case eql=>cases he;exact⟨.bool (a.toList==b.toList),by simp only[binOp,Op.stringOp];rfl,by rw[e1];exact .bool _⟩
    case neq=>cases he;exact⟨.bool (!(a.toList==b.toList)),by simp only[binOp,Op.stringOp];rfl,by rw[e1];exact .bool _⟩
    case lss=>cases he;exact⟨.bool (Op.bytesLess a.toList b.toList),by simp only[binOp,Op.stringOp];rfl,by rw[e2];exact .bool _⟩
    case leq=>cases he;exact⟨.bool (Op.bytesLess a.toList b.toList||a.toList==b.toList),by simp only[binOp,Op.stringOp];rfl,by rw[e1,e2];exact .bool _⟩
    case gtr=>cases he;exact⟨.bool (!(Op.bytesLess a.toList b.toList||a.toList==b.toList)),by simp only[binOp,Op.stringOp];rfl,by rw[e1,e2];exact .bool _⟩
    case geq=>cases he;exact⟨.bool (!Op.bytesLess a.toList b.toList),by simp only[binOp,Op.stringOp];rfl,by rw[e2];exact .bool _⟩
 ·cases he
theorem afY {k:IntKind} {n:Int}:(Op.unary .neg (.int k n)).run P w= .ok (.int k (k.wrap (0-n))) w:=by simp[Op.unary,Op.intArith]
theorem Kc {t:TypeId} {ag:Bool} {n off:Nat} {l:List AV} {v:AV} {cs:List Value} (hl:bS φ l cs) (he:mG ag off n l=some v) (hag:mO P t=some ag) (hn:sizeT P t=some n):
 ∃cv,(part t ⟨cs⟩ off).run P w= .ok cv w∧aX φ v cv:=by
 unfold mG at he
 cases ag with
 |true=>
  rw[cond_true] at he
  cases hle:Nat.ble (off+n) l.length with
  |false=>rw[hle] at he;cases he
  |true=>
   rw[hle,cond_true] at he;cases he
   refine⟨.agg ⟨(cs.drop off).take n⟩, ?_, .agg ((hl.drop off).take n)⟩
   have hx:(⟨cs⟩:Array Value).extract off (off+n)=⟨(cs.drop off).take n⟩:=by
    apply Array.ext'
    simp[List.extract_eq_take_drop]
   simp[part,Sem.run_bind,tN hag,fF hn,hx]
 |false=>
  rw[cond_false,nM] at he
  obtain⟨cv,h1,h2⟩:=hl.get he
  refine⟨cv, ?_,h2⟩
  have h3:(⟨cs⟩:Array Value)[off]? =some cv:=by simpa using h1
  simp[part,Sem.run_bind,tN hag,h3]
theorem Jo {ag:Bool} {n:Nat} {x v:AV} {cx:Value} {t:TypeId} (H:bJ P B φ h w) (hx:aX φ x cx) (he:eO h ag n x=some v) (hag:mO P t=some ag) (hn:sizeT P t=some n):
 ∃cv,(Instr.loadAt t cx).run P w= .ok cv w∧(∀A,cx= .pointer (some A)→(loadVar t A).run P w= .ok cv w)∧aX φ v cv:=by
 unfold eO at he
 split at he
 ·rename_i id g i o
  cases hrow:h.row id with
  |none=>simp[hrow] at he
  |some r=>
   rw[hrow] at he
   simp only at he
   cases hm:Nat.ble r.m g with
   |false=>rw[hm] at he;cases he
   |true=>
    rw[hm,cond_true,nM] at he
    cases hi:r.es[i]? with
    |none=>simp[hi] at he
    |some e=>
     rw[hi] at he
     simp only at he
     cases hx with
     |ptr hL hlt=>
      rename_i L
      have hr:lG φ id r w:=H.obj id _ (aj.row_some.1 hrow)
      refine(fun(hh:∃cv,(loadVar t ⟨L.blk,L.base+i*L.sz+o,none⟩).run P w= .ok cv w∧aX φ v cv)=> ?_) ?_
      ·obtain⟨cv,a,b⟩:=hh
       exact⟨cv,by simp[Instr.loadAt,Instr.sureAddr,a],fun A e=>by cases e;exact a,b⟩
      unfold mG at he
      cases ag with
      |true=>
       rw[cond_true] at he
       cases hle:Nat.ble (o+n) e.length with
       |false=>rw[hle] at he;cases he
       |true=>
        rw[hle,cond_true] at he;cases he
        obtain⟨vs,h1,h2,h3⟩:=Ww hr hL (aI.1 hm) hlt hi (aI.1 hle)
        refine⟨.agg ⟨vs⟩, ?_, .agg h1⟩
        have:=run_loadCells_list (P:=P) w ⟨L.blk,L.base+i*L.sz+o,none⟩ vs h3
        rw[h2] at this
        simp[loadVar,Sem.run_bind,tN hag,fF hn,this]
      |false=>
       rw[cond_false,nM] at he
       have ho:o<e.length:=(List.getElem?_eq_some_iff.1 he).1
       obtain⟨vs,h1,h2,h3⟩:=Ww hr hL (aI.1 hm) hlt hi (o:=o) (n:=1) (by omega)
       obtain⟨cv,h4,h5⟩:=h1.get (i:=0) (a:=v) (by
        rw[List.getElem?_take_of_lt (by omega),List.getElem?_drop];simpa using he)
       refine⟨cv, ?_,h5⟩
       have h6:=h3 0 cv h4
       rw[Addr.add_lit,Nat.add_zero] at h6
       simp[loadVar,Sem.run_bind,tN hag,h6]
 ·cases he
theorem Qf {n:Nat} {x v:AV} {cx cv:Value} {t:TypeId} (H:bJ P B φ h w) (hx:aX φ x cx) (hv:aX φ v cv) (he:cZ h n x v=some h') (hn:sizeT P t=some n):
 ae2 P B φ h' w ((Instr.storeAt t cx cv).run P w):=by
 unfold cZ at he
 split at he
 ·rename_i id g i o
  cases hrow:h.row id with
  |none=>
   rw[hrow] at he
   simp only at he
   cases hc:(Nat.beq n 0&&Nat.beq v.cells.length 0) with
   |false=>rw[hc] at he;cases he
   |true=>
    rw[hc,cond_true] at he;cases he
    simp only[Bool.and_eq_true,aF] at hc
    obtain⟨rfl,c2⟩:=hc
    cases hx with
    |ptr hL hlt=>
     have hcs:cv.cells.toList=[]:=List.eq_nil_of_length_eq_zero (by rw[←hv.cells.length,c2])
     have hcz:cv.cells.size=0:=by rw[←Array.length_toList,hcs];rfl
     refine⟨w,φ, ?_,H,φ.le_refl,Gw.refl B w⟩
     simp[Instr.storeAt,Instr.sureAddr,storeVar,Sem.run_bind,fF hn,hcz,hcs,storeCells]
  |some r=>
   rw[hrow] at he
   simp only at he
   cases hc:(r.rw&&Nat.beq g r.g&&Nat.beq v.cells.length n&&aD v.cells) with
   |false=>rw[hc] at he;cases he
   |true=>
    rw[hc,cond_true,nM] at he
    simp only[Bool.and_eq_true,aF] at hc
    obtain⟨⟨⟨c1,c2⟩,c3⟩,c4⟩:=hc
    subst c2
    cases hi:r.es[i]? with
    |none=>simp[hi] at he
    |some e=>
     rw[hi] at he
     simp only at he
     cases hle:Nat.ble (o+n) e.length with
     |false=>rw[hle] at he;cases he
     |true=>
      rw[hle,cond_true,u7] at he;cases he
      have hle:=aI.1 hle
      cases hx with
      |ptr hL hlt=>
       rename_i L
       have hget:=aj.row_some.1 hrow
       have hr:lG φ id r w:=H.obj id _ hget
       have hsz:L.sz=r.sz:=(hr.gen _ L hL).2
       obtain⟨hilt,hie⟩:=List.getElem?_eq_some_iff.1 hi
       have hel:e.length=r.sz:=hr.es e (List.mem_of_getElem? hi)
       have hfit:i*r.sz+o+v.cells.length≤r.es.length*r.sz:=by
        have:(i+1)*r.sz≤r.es.length*r.sz:=Nat.mul_le_mul_right _ hilt
        rw[Nat.add_mul] at this;omega
       obtain⟨w',h1,h2,h3⟩:=EG H hget c1 hL hv.cells c4 (p:=i*r.sz+o) hfit (es':=r.es.set i (lay e o v.cells))
        (by
          intro x hx
          rcases List.mem_or_eq_of_mem_set hx with hx |rfl
          ·exact hr.es x hx
          ·rw[wR _ _ _ (by omega),hel])
        (by simp) (afi hr.es hi (by omega)) (by
          intro x hx
          rcases List.mem_or_eq_of_mem_set hx with hx |rfl
          ·exact hr.leaf x hx
          ·exact Pd (hr.leaf e (List.mem_of_getElem? hi)) c4 o)
       refine⟨w',φ, ?_,h2,φ.le_refl,h3⟩
       have hcs:cv.cells.size=n:=by
        have:=hv.cells.length
        rw[c3] at this
        simpa using this.symm
       have ha:(⟨L.blk,L.base+i*L.sz+o,none⟩:Addr)=⟨L.blk,L.base+(i*r.sz+o),none⟩:=by rw[hsz,Nat.add_assoc]
       simp[Instr.storeAt,Instr.sureAddr,storeVar,Sem.run_bind,fF hn,hcs,ha,h1]
 ·cases he
theorem KG {n id:Nat} {x:AV} {cx:Value} {t:TypeId} (H:bJ P B φ h w) (hx:aX φ x cx) (hc:(Nat.beq x.cells.length n&&aD x.cells&&Nat.blt 0 n)=true) (hg:B.gh id=some (.row {es:=[x.cells],sz:=n,g:=0,m:=0,rw:=true})):
 lJ P (B.del id) φ h (.ptr id 0 0 0) w ((Instr.box t cx).run P w):=by
 simp only[Bool.and_eq_true,aF,bB] at hc
 obtain⟨⟨c1,c2⟩,c3⟩:=hc
 have hcells:=hx.cells
 obtain⟨φ',h1,h2,h3,h4⟩:=uY H (es:=[x.cells]) c3 (by intro e he;simp at he;subst he;exact c1) (by intro e he;simp at he;subst he;exact c2) (vals:=cx.cells.toList) (spare:=[]) (by simpa using hcells) (tot:=1)
  (by simp;rw[←c1,hcells.length];simp) t none (fun _ e=>by cases e) hg
 refine⟨.pointer (some ⟨w.heap.size,0,none⟩),_,φ', ?_, ?_,h3,h1,h4⟩
 ·simp[Instr.box,newVar,newRow,Go.newRow]
 ·have:=aX.ptr (φ:=φ') (i:=0) (o:=0) h2 (by simp)
  simpa using this
theorem YU {n:Nat} {x v:AV} {cx:Value} {t:TypeId} (H:bJ P B φ h w) (hx:aX φ x cx) (he:nK h none n x=some (v,h')):lJ P B φ h' v w ((Instr.box t cx).run P w):=by
 unfold nK at he
 cases hc:(Nat.beq x.cells.length n&&aD x.cells&&Nat.blt 0 n) with
 |false=>rw[hc] at he;cases he
 |true=>
  rw[hc,cond_true] at he;cases he
  have:=KG (t:=t) (H.pushGhost (.row {es:=[x.cells],sz:=n,g:=0,m:=0,rw:=true}) rfl) hx hc (Base.add_same _ _ _)
  rwa [Base.del_add H.noGhost] at this
theorem Qr {z:List AV} {t:TypeId} {id:Nat} (H:bJ P B φ h w) {za:AV} (hz:iV P t=some za) (hzc:za.cells=z) (hc:z.length=0) (hg:B.gh id=some .gone):
 lJ P (B.del id) φ h (.ptr id 0 0 0) w ((Instr.alloc t true (.tuple #[])).run P w):=by
 obtain⟨zv,i,h1,h2,h3,h4⟩:=jS hz w
 have hnone:=(H.ghost id _ hg).2.2.1
 have hle:=dD.le_add (φ:=φ) (id:=id) (g:=0) ⟨w.heap.size,0,0,1,0⟩ (hnone 0)
 have hp:=H.fill hg rfl (L:=⟨w.heap.size,0,0,1,0⟩) (ob:= .cells zv.cells t) rfl (fun ds e=>by cases e) trivial
 refine⟨.pointer (some ⟨w.heap.size,0,none⟩),_,φ.add id 0 ⟨w.heap.size,0,0,1,0⟩, ?_, ?_,hp,hle,Gw.alloc H.base (fun _ _ _ e=>by cases e;rfl)⟩
 ·simp[Instr.alloc,h1,newVar,Go.newRow]
 ·have:=aX.ptr (φ:=φ.add id 0 ⟨w.heap.size,0,0,1,0⟩) (i:=0) (o:=0) (dD.add_same _ _ _ _) (by simp)
  simpa using this
theorem Sr {z:List AV} {t:TypeId} {id:Nat} (H:bJ P B φ h w) {za:AV} (hz:iV P t=some za) (hzc:za.cells=z) (hc:(Nat.blt 0 z.length&&aD z)=true) (hg:B.gh id=some (.row {es:=[z],sz:=z.length,g:=0,m:=0,rw:=true})):
 lJ P (B.del id) φ h (.ptr id 0 0 0) w ((Instr.alloc t true (.tuple #[])).run P w):=by
 obtain⟨zv,i,h1,h2,h3,h4⟩:=jS hz w
 subst hzc
 obtain⟨cv,w',φ',a,b⟩:=KG (t:=t) (n:=za.cells.length) H (oD h2) (by simp only[Bool.and_eq_true] at hc ⊢;exact⟨⟨aF.2 rfl,hc.2⟩,hc.1⟩) hg
 refine⟨cv,w',φ', ?_,b⟩
 simp[Instr.alloc,h1]
 simpa[Instr.box] using a
theorem xX {z:List AV} (he:qm h z=some (v,h')):v= .ptr h.sz 0 0 0∧∃ob,h'=h.push ob∧((z.length=0∧ob= .gone)∨((Nat.blt 0 z.length&&aD z)=true∧ob= .row {es:=[z],sz:=z.length,g:=0,m:=0,rw:=true})):=by
 unfold qm at he
 cases h0:Nat.beq z.length 0 with
 |true=>rw[h0,cond_true] at he;cases he;exact⟨rfl,_,rfl, .inl ⟨aF.1 h0,rfl⟩⟩
 |false=>
  rw[h0,cond_false] at he
  cases hl:aD z with
  |false=>rw[hl] at he;cases he
  |true=>
   rw[hl,cond_true] at he;cases he
   have:=dh.1 h0
   exact⟨rfl,_,rfl, .inr ⟨by rw[bB.2 (by omega)];rfl,rfl⟩⟩
theorem Gs {z:List AV} {t:TypeId} {hp:aj} {ob:fG} (H:bJ P B φ h w) {za:AV} (hz:iV P t=some za) (hzc:za.cells=z) (he:qm hp z=some (v,hp.push ob)) (hg:B.gh hp.sz=some ob):
 lJ P (B.del hp.sz) φ h v w ((Instr.alloc t true (.tuple #[])).run P w):=by
 obtain⟨rfl,ob',e,h1⟩:=xX he
 have e:=push_inj e
 subst e
 rcases h1 with⟨h1,rfl⟩|⟨h1,rfl⟩
 ·exact Qr H hz hzc h1 hg
 ·exact Sr H hz hzc h1 hg
theorem QK {z:List AV} {v:AV} {t:TypeId} (H:bJ P B φ h w) {za:AV} (hz:iV P t=some za) (hzc:za.cells=z) (he:qm h z=some (v,h')):
 lJ P B φ h' v w ((Instr.alloc t true (.tuple #[])).run P w):=by
 obtain⟨_,ob,rfl,ho⟩:=xX he
 have:=Gs (H.pushGhost ob (by rcases ho with⟨_,rfl⟩|⟨_,rfl⟩<;>rfl)) hz hzc he (Base.add_same _ _ _)
 rwa [Base.del_add H.noGhost] at this
end
theorem Ql (off:Nat):∀(l:List Value) (k:Nat) (base:Array Value),off+k+l.length≤base.size→
 ((l.zipIdx k).foldl (fun(cs:Array Value) (x:Value×Nat)=>cs.setIfInBounds (off+x.2) x.1) base).toList=lay base.toList (off+k) l
 | [],k,base,_=>by simp[lay]
 |v :: l,k,base,h=>by
  simp only[List.length_cons] at h
  simp only[List.zipIdx_cons,List.foldl_cons]
  rw[Ql off l (k+1) _ (by simp;omega)]
  unfold lay
  simp only[Array.toList_setIfInBounds,List.length_cons]
  have:=list_seg_step base.toList (off+k) v l (by simp;omega)
  rw[show off+(k+1)=off+k+1 by omega]
  exact this
theorem L6 (off:Nat) (l:Array Value) (base:Array Value) (h:off+l.size≤base.size):
 (l.zipIdx.foldl (fun cs (c,j)=>cs.setIfInBounds (off+j) c) base).toList=lay base.toList off l.toList:=by
 rw[←Array.foldl_toList,Array.toList_zipIdx]
 exact Ql off l.toList 0 base (by simpa using h)
section
variable {P:Program} {B:Base} {φ:dD} {h h':aj} {w:World} {v:AV} {N:Nat} {ρ:dx} {a:Act}
theorem Bh (hR:lM φ N ρ a.tmps) (place:Nat→Option (Nat×Nat)) {comp:List (Nat×Operand)→Option (List (Nat×Nat×bW))}
 (hnil:comp []=some []) (hcons:∀i x l r,comp ((i,x) :: l)=some r→∃off n y r',place i=some (off,n)∧aU x=some y∧comp l=some r'∧r=(off,n,y) :: r'):
 ∀(parts:List (Nat×Operand)) (ap:List (Nat×Nat×bW)) (ac:List AV) (cc:Array Value) (r:List AV),comp parts=some ap→bS φ ac cc.toList→xB ρ ac ap=some r→
  ∃cc',Instr.fill place cc (parts.map fun p=>(p.1,a.eval p.2))=some cc'∧bS φ r cc'.toList
 | [],ap,ac,cc,r,hc,hv,hf=>by
   rw[hnil] at hc;cases hc
   simp[xB] at hf;subst hf
   exact⟨cc,by simp[Instr.fill],hv⟩
 |(i,x) :: parts,ap,ac,cc,r,hc,hv,hf=>by
  obtain⟨off,n,y,r',h1,h2,h3,rfl⟩:=hcons i x parts ap hc
  simp only[xB] at hf
  cases he:ev ρ y with
  |none=>simp[he] at hf
  |some u=>
   rw[he] at hf
   simp only at hf
   cases hcnd:(Nat.beq u.cells.length n&&Nat.ble (off+n) ac.length&&aD u.cells) with
   |false=>rw[hcnd] at hf;cases hf
   |true=>
    rw[hcnd,cond_true] at hf
    simp only[Bool.and_eq_true,aF,aI] at hcnd
    obtain⟨⟨c1,c2⟩,c3⟩:=hcnd
    have hu:=bD hR h2 he
    have hul:=hu.cells.length
    have hcl:=hv.length
    simp only[Array.length_toList] at hul hcl
    have hfit:off+(a.eval x).cells.size≤cc.size:=by omega
    have hlay:=L6 off (a.eval x).cells cc hfit
    have hv':bS φ (lay ac off u.cells) (lay cc.toList off (a.eval x).cells.toList):=by
     unfold lay
     rw[hu.cells.length]
     exact((hv.take off).append hu.cells).append (hv.drop _)
    rw[←hlay] at hv'
    obtain⟨cc',e1,e2⟩:=Bh hR place hnil hcons parts r' _ _ r h3 hv' hf
    refine⟨cc', ?_,e2⟩
    simp only[List.map_cons,Instr.fill,h1]
    rw[if_neg (by simp;omega)]
    exact e1
theorem M5 {places:List (Nat×Nat)}:∀i x l r,partsOf places ((i,x) :: l)=some r→∃off n y r',places[i]? =some (off,n)∧aU x=some y∧partsOf places l=some r'∧r=(off,n,y) :: r':=by
 intro i x l r hr
 simp only[partsOf] at hr
 split at hr
 ·rename_i off n h1
  split at hr
  ·rename_i y h2
   split at hr
   ·rename_i r' h3
    cases hr
    exact⟨off,n,y,r',h1,h2,h3,rfl⟩
   ·cases hr
  ·cases hr
 ·cases hr
theorem La {esz:Nat}:∀i x l r,tH esz ((i,x) :: l)=some r→∃off n y r',some (i*esz,esz)=some (off,n)∧aU x=some y∧tH esz l=some r'∧r=(off,n,y) :: r':=by
 intro i x l r hr
 simp only[tH] at hr
 split at hr
 ·rename_i y h2
  split at hr
  ·rename_i r' h3
   cases hr
   exact⟨_,_,y,r',rfl,h2,h3,rfl⟩
  ·cases hr
 ·cases hr
theorem kF {zv:Value} {z:AV} (hz:pO zv=some z):bS φ z.cells zv.cells.toList:=(oD hz).cells
theorem Pq {t:TypeId} {parts:Array (Nat×Operand)} {op:fK} (hR:lM φ N ρ a.tmps) (H:bJ P B φ h w) (hc:kM P (.build t parts)=some op) (he:aN ρ h op=some (v,h')):
 lJ P B φ h' v w ((Instr.build t (parts.map fun(i,x)=>(i,a.eval x))).run P w):=by
 simp only[kM,Option.bind_eq_bind,Option.pure_def] at hc
 cases hz:iV P t with
 |none=>simp[hz] at hc
 |some z=>
  rw[hz] at hc
  simp only[Option.bind_some] at hc
  obtain⟨zv,it,z1,z2,z3,z4⟩:=jS hz w
  have hmap:(parts.map fun(i,x)=>(i,a.eval x)).toList=parts.toList.map fun p=>(p.1,a.eval p.2):=by simp
  split at hc
  ·rename_i fs hu
   cases hp:fs.toList.mapM (fun f=>(P.info? f.type).map fun i=>(f.offset,i.size)) with
   |none=>simp[hp] at hc
   |some places=>
    rw[hp] at hc
    simp only[Option.bind_some] at hc
    cases hps:partsOf places parts.toList with
    |none=>simp[hps] at hc
    |some ap=>
     rw[hps] at hc;simp at hc;subst hc
     simp only[aN] at he
     cases hf:xB ρ z.cells ap with
     |none=>simp[hf] at he
     |some r=>
      rw[hf] at he;simp at he
      obtain⟨rfl,rfl⟩:=he
      obtain⟨cc',e1,e2⟩:=Bh hR (fun i=>places[i]?) (comp:=partsOf places) rfl M5 parts.toList ap z.cells zv.cells r hps (kF z2) hf
      refine lJ.pure H (cv:= .agg cc') (run_build w t _ cc' ?_) (.agg e2)
      rw[hmap]
      unfold Program.built
      rw[z3,hu]
      simp only[z4,hp]
      simpa using e1
  ·rename_i n e hu
   cases hs:sizeT P e with
   |none=>simp[hs] at hc
   |some esz=>
    rw[hs] at hc
    simp only[Option.bind_some] at hc
    cases hps:tH esz parts.toList with
    |none=>simp[hps] at hc
    |some ap=>
     rw[hps] at hc;simp at hc;subst hc
     simp only[aN] at he
     cases hf:xB ρ z.cells ap with
     |none=>simp[hf] at he
     |some r=>
      rw[hf] at he;simp at he
      obtain⟨rfl,rfl⟩:=he
      obtain⟨cc',e1,e2⟩:=Bh hR (fun i=>some (i*esz,esz)) (comp:=tH esz) rfl La parts.toList ap z.cells zv.cells r hps (kF z2) hf
      refine lJ.pure H (cv:= .agg cc') (run_build w t _ cc' ?_) (.agg e2)
      rw[hmap]
      unfold Program.built
      unfold sizeT at hs
      cases hi:P.info? e with
      |none=>simp[hi] at hs
      |some ie=>
       simp[hi] at hs;subst hs
       rw[z3,hu]
       simp only[z4,hi]
       exact e1
  ·cases hc
theorem xG {sz:Nat}:∀(ap:List (Nat×bW)) (es r:List (List AV)),(∀e∈es,e.length=sz∧aD e=true)→lI ρ sz es ap=some r→(∀e∈r,e.length=sz∧aD e=true)∧r.length=es.length
 | [],es,r,hes,hf=>by simp[lI] at hf;subst hf;exact⟨hes,rfl⟩
 |(i,x) :: ap,es,r,hes,hf=>by
  simp only[lI] at hf
  split at hf
  ·rename_i u he
   cases hcnd:(Nat.beq u.cells.length sz&&Nat.blt i es.length&&aD u.cells) with
   |false=>rw[hcnd] at hf;cases hf
   |true=>
    rw[hcnd,cond_true,u7] at hf
    simp only[Bool.and_eq_true,aF] at hcnd
    obtain⟨h1,h2⟩:=xG ap _ r (by
     intro e hx
     rcases List.mem_or_eq_of_mem_set hx with hx |rfl
     ·exact hes e hx
     ·exact⟨hcnd.1.1,hcnd.2⟩) hf
    exact⟨h1,by simpa using h2⟩
  ·cases hf
theorem uR (hR:lM φ N ρ a.tmps) {sz:Nat}:∀(parts:List (Nat×Operand)) (ap:List (Nat×bW)) (es:List (List AV)) (cc:Array Value) (r:List (List AV)),
 uq parts=some ap→(∀e∈es,e.length=sz)→bS φ es.flatten cc.toList→lI ρ sz es ap=some r→
  ∃cc',Instr.fill (fun i=>some (i*sz,sz)) cc (parts.map fun p=>(p.1,a.eval p.2))=some cc'∧bS φ r.flatten cc'.toList
 | [],ap,es,cc,r,hc,hes,hv,hf=>by
   simp[uq] at hc;subst hc
   simp[lI] at hf;subst hf
   exact⟨cc,by simp[Instr.fill],hv⟩
 |(i,x) :: parts,ap,es,cc,r,hc,hes,hv,hf=>by
  simp only[uq] at hc
  split at hc
  ·rename_i y h2
   split at hc
   ·rename_i r' h3
    cases hc
    simp only[lI] at hf
    split at hf
    ·rename_i u he
     cases hcnd:(Nat.beq u.cells.length sz&&Nat.blt i es.length&&aD u.cells) with
     |false=>rw[hcnd] at hf;cases hf
     |true=>
      rw[hcnd,cond_true,u7] at hf
      simp only[Bool.and_eq_true,aF,bB] at hcnd
      obtain⟨⟨c1,c2⟩,c3⟩:=hcnd
      have hu:=bD hR h2 he
      have hul:=hu.cells.length
      have hcl:=hv.length
      have hfl:=lV hes
      simp only[Array.length_toList] at hul hcl
      have hmul:(i+1)*sz≤es.length*sz:=Nat.mul_le_mul_right _ c2
      rw[Nat.add_mul] at hmul
      have hfit:i*sz+(a.eval x).cells.size≤cc.size:=by omega
      have hlay:=L6 (i*sz) (a.eval x).cells cc hfit
      have hset:(es.set i u.cells).flatten=lay es.flatten (i*sz) u.cells:=by
       rw[Jb _ _ _ c2,N8 hes (by intro e he;simp at he;subst he;exact c1)]
       simp
      have hv':bS φ (es.set i u.cells).flatten (lay cc.toList (i*sz) (a.eval x).cells.toList):=by
       rw[hset]
       unfold lay
       rw[hu.cells.length]
       exact((hv.take _).append hu.cells).append (hv.drop _)
      rw[←hlay] at hv'
      obtain⟨cc',e1,e2⟩:=uR hR parts r' _ _ r h3 (by
       intro e hx
       rcases List.mem_or_eq_of_mem_set hx with hx |rfl
       ·exact hes e hx
       ·exact c1) hv' hf
      refine⟨cc', ?_,e2⟩
      simp only[List.map_cons,Instr.fill]
      rw[if_neg (by simp;omega)]
      exact e1
    ·cases hf
   ·cases hc
  ·cases hc
theorem Ae (z:List Value) (hz:0<z.length):∀(n:Nat),(List.range (n*z.length)).map (fun i=>z.toArray[i%z.length]!)=(List.replicate n z).flatten:=by
 intro n
 apply List.ext_getElem?
 intro j
 by_cases hj:j<n*z.length
 ·have hm:j%z.length<z.length:=Nat.mod_lt _ hz
  have hd:j/z.length<n:=by
   rw[Nat.div_lt_iff_lt_mul hz];exact hj
  have h1:(List.replicate n z)[j/z.length]? =some z:=by simp[List.getElem?_replicate,hd]
  have h2:z[j%z.length]? =some z[j%z.length]:=List.getElem?_eq_getElem hm
  have:=aae (sz:=z.length) (es:=List.replicate n z) (fun e he=>by rw[List.eq_of_mem_replicate he]) h1 h2
  rw[show j/z.length*z.length+j%z.length=j by rw[Nat.mul_comm];exact Nat.div_add_mod j z.length] at this
  rw[this]
  simp[hj,hm]
 ·have h1:(List.replicate n z).flatten.length=n*z.length:=by
   rw[lV (sz:=z.length) (fun e he=>by rw[List.eq_of_mem_replicate he])];simp
  rw[List.getElem?_eq_none (by simp;omega),List.getElem?_eq_none (by omega)]
theorem Bn {zv:Value} (hz:0<zv.cells.size) (n:Nat):((Array.range (n*zv.cells.size)).map (zv.cells[· % zv.cells.size]!))=(List.replicate n zv.cells.toList).flatten.toArray:=by
 apply Array.ext'
 have:=Ae zv.cells.toList (by simpa using hz) n
 simp only[Array.length_toList,Array.toArray_toList] at this
 simp only[Array.toList_map,Array.toList_range]
 exact this
theorem OB {t:TypeId} {n:Nat} {parts:Array (Nat×Operand)} {op:fK} (hR:lM φ N ρ a.tmps) (H:bJ P B φ h w) (hc:kM P (.buildSlice t n parts)=some op) (he:aN ρ h op=some (v,h')):
 lJ P B φ h' v w ((Instr.buildSlice t n (parts.map fun(i,x)=>(i,a.eval x))).run P w):=by
 simp only[kM,Option.bind_eq_bind,Option.pure_def] at hc
 split at hc
 ·rename_i e hu
  cases hs:sizeT P e with
  |none=>simp[hs] at hc
  |some sz=>
   cases hz:iV P e with
   |none=>simp[hs,hz] at hc
   |some z=>
    cases hps:uq parts.toList with
    |none=>simp[hs,hz,hps] at hc
    |some ap=>
     simp[hs,hz,hps] at hc;subst hc
     simp only[aN] at he
     cases hcnd:(Nat.beq z.cells.length sz&&Nat.blt 0 sz&&Nat.ble (n*sz) 16777216&&aD z.cells) with
     |false=>rw[hcnd] at he;cases he
     |true=>
      rw[hcnd,cond_true] at he
      simp only[Bool.and_eq_true,aF,bB,aI] at hcnd
      obtain⟨⟨⟨c1,c2⟩,c3⟩,c4⟩:=hcnd
      rw[zF] at he
      cases hf:lI ρ sz (List.replicate n z.cells) ap with
      |none=>simp[hf] at he
      |some es=>
       rw[hf] at he;simp at he
       obtain⟨rfl,rfl⟩:=he
       obtain⟨zv,it,z1,z2,z3,z4⟩:=jS hz w
       have hzc:=kF (φ:=φ) z2
       have hzl:zv.cells.size=sz:=by have:=hzc.length;simp only[Array.length_toList] at this;omega
       have hrep:∀e∈List.replicate n z.cells,e.length=sz:=fun e he=>by rw[List.eq_of_mem_replicate he];exact c1
       obtain⟨cc',e1,e2⟩:=uR hR parts.toList ap _ ((List.replicate n zv.cells.toList).flatten.toArray) es hps hrep (by simpa using hzc.replicate n) hf
       obtain⟨l0,l2⟩:=xG ap _ es (fun e he=>⟨hrep e he,by rw[List.eq_of_mem_replicate he];exact c4⟩) hf
       have l1:∀e∈es,e.length=sz:=fun e he=>(l0 e he).1
       simp only[List.length_replicate] at l2
       obtain⟨φ',h1,h2,h3,h4⟩:=ac4 H c2 l1 (fun e he=>(l0 e he).2) (vals:=cc'.toList) (spare:=[]) e2 (tot:=n) (by
        have:=e2.length;rw[lV l1] at this;simp only[List.length_nil,Nat.add_zero];rw[←this,l2]) e
       refine⟨.slice (some ⟨w.heap.size,0,none⟩) n n,_,φ', ?_, ?_,h3,h1,h4⟩
       ·have hnz:¬(n*sz>2 ^ 24):=by omega
        have hmap:(parts.map fun(i,x)=>(i,a.eval x)).toList=parts.toList.map fun p=>(p.1,a.eval p.2):=by simp
        unfold Instr.buildSlice
        simp only[Sem.run_bind,run_underlying hu,Result.andThen_ok,fF hs,hnz,if_false,hmap]
        by_cases hn:n*sz=0
        ·have hn0:n=0:=by
          rcases Nat.mul_eq_zero.1 hn with h0 |h0
          ·exact h0
          ·omega
         subst hn0
         simp only[List.replicate_zero,List.flatten_nil] at e1
         have e0:∀f:Nat→Value,Array.map f (Array.range 0)= #[]:=fun f=>by simp
         simp[e0,e1,Go.newRow]
        ·rw[if_neg hn]
         have hzz:((Array.range (n*sz)).map (zv.cells[· % zv.cells.size]!))=(List.replicate n zv.cells.toList).flatten.toArray:=by
          rw[←hzl];exact Bn (by omega) n
         simp only[Sem.run_bind,z1,Result.andThen_ok,Sem.run_pure,hzz]
         rw[e1]
         simp[Go.newRow]
       ·have:=aX.slc (φ:=φ') (s:=0) (len:=n) (cap:=n) (c:=n) (off:=0) (ex:=true) h2 (Nat.le_refl _) (by simp only;omega) (by simp only;omega) (Nat.le_refl _) (fun _=>rfl) (fun _=>by simp)
        exact this
 ·cases hc
theorem PY {t:TypeId} {n:Nat} {parts:Array (Nat×Operand)} {op:fK} {hp:aj} {ob:fG} (hR:lM φ N ρ a.tmps) (H:bJ P B φ h w) (hc:kM P (.buildSlice t n parts)=some op) (he:aN ρ hp op=some (v,hp.push ob)) (hg:B.gh hp.sz=some ob):
 lJ P (B.del hp.sz) φ h v w ((Instr.buildSlice t n (parts.map fun(i,x)=>(i,a.eval x))).run P w):=by
 simp only[kM,Option.bind_eq_bind,Option.pure_def] at hc
 split at hc
 ·rename_i e hu
  cases hs:sizeT P e with
  |none=>simp[hs] at hc
  |some sz=>
   cases hz:iV P e with
   |none=>simp[hs,hz] at hc
   |some z=>
    cases hps:uq parts.toList with
    |none=>simp[hs,hz,hps] at hc
    |some ap=>
     simp[hs,hz,hps] at hc;subst hc
     simp only[aN] at he
     cases hcnd:(Nat.beq z.cells.length sz&&Nat.blt 0 sz&&Nat.ble (n*sz) 16777216&&aD z.cells) with
     |false=>rw[hcnd] at he;cases he
     |true=>
      rw[hcnd,cond_true] at he
      simp only[Bool.and_eq_true,aF,bB,aI] at hcnd
      obtain⟨⟨⟨c1,c2⟩,c3⟩,c4⟩:=hcnd
      rw[zF] at he
      cases hf:lI ρ sz (List.replicate n z.cells) ap with
      |none=>simp[hf] at he
      |some es=>
       rw[hf] at he
       simp only[Option.some.injEq,Prod.mk.injEq] at he
       obtain⟨rfl,he⟩:=he
       have hob:=push_inj he
       subst hob
       obtain⟨zv,it,z1,z2,z3,z4⟩:=jS hz w
       have hzc:=kF (φ:=φ) z2
       have hzl:zv.cells.size=sz:=by have:=hzc.length;simp only[Array.length_toList] at this;omega
       have hrep:∀e∈List.replicate n z.cells,e.length=sz:=fun e he=>by rw[List.eq_of_mem_replicate he];exact c1
       obtain⟨cc',e1,e2⟩:=uR hR parts.toList ap _ ((List.replicate n zv.cells.toList).flatten.toArray) es hps hrep (by simpa using hzc.replicate n) hf
       obtain⟨l0,l2⟩:=xG ap _ es (fun e he=>⟨hrep e he,by rw[List.eq_of_mem_replicate he];exact c4⟩) hf
       have l1:∀e∈es,e.length=sz:=fun e he=>(l0 e he).1
       simp only[List.length_replicate] at l2
       obtain⟨φ',h1,h2,h3,h4⟩:=uY H c2 l1 (fun e he=>(l0 e he).2) (vals:=cc'.toList) (spare:=[]) e2 (tot:=n) (by
        have:=e2.length;rw[lV l1] at this;simp only[List.length_nil,Nat.add_zero];rw[←this,l2]) e none (fun _ e=>by cases e) hg
       refine⟨.slice (some ⟨w.heap.size,0,none⟩) n n,_,φ', ?_, ?_,h3,h1,h4⟩
       ·have hnz:¬(n*sz>2 ^ 24):=by omega
        have hmap:(parts.map fun(i,x)=>(i,a.eval x)).toList=parts.toList.map fun p=>(p.1,a.eval p.2):=by simp
        unfold Instr.buildSlice
        simp only[Sem.run_bind,run_underlying hu,Result.andThen_ok,fF hs,hnz,if_false,hmap]
        by_cases hn:n*sz=0
        ·have hn0:n=0:=by
          rcases Nat.mul_eq_zero.1 hn with h0 |h0
          ·exact h0
          ·omega
         subst hn0
         simp only[List.replicate_zero,List.flatten_nil] at e1
         have e0:∀f:Nat→Value,Array.map f (Array.range 0)= #[]:=fun f=>by simp
         simp[e0,e1,Go.newRow]
        ·rw[if_neg hn]
         have hzz:((Array.range (n*sz)).map (zv.cells[· % zv.cells.size]!))=(List.replicate n zv.cells.toList).flatten.toArray:=by
          rw[←hzl];exact Bn (by omega) n
         simp only[Sem.run_bind,z1,Result.andThen_ok,Sem.run_pure,hzz]
         rw[e1]
         simp[Go.newRow]
       ·have:=aX.slc (φ:=φ') (s:=0) (len:=n) (cap:=n) (c:=n) (off:=0) (ex:=true) h2 (Nat.le_refl _) (by simp only;omega) (by simp only;omega) (Nat.le_refl _) (fun _=>rfl) (fun _=>by simp)
        exact this
 ·cases hc
theorem lu {x:AV} {cx:Value} {n:Nat} (hx:aX φ x cx) (he:asNat x=some n):∃k,cx= .int k n:=by
 unfold asNat at he
 split at he
 ·cases he;cases hx;exact⟨_,rfl⟩
 ·cases he
theorem TL {off f:Nat} {x v:AV} {cx:Value} {t:TypeId} {fs:Array Field} {fl:Field} {m:Nat} (hu:P.underlying t=some (.struct fs)) (hf:fs[f]? =some fl) (hoff:fl.offset=off) (hm:sizeT P fl.type=some (m+1))
 (hx:aX φ x cx) (he:ME off x=some v):∃cv,(Instr.fieldAt t cx f).run P w= .ok cv w∧aX φ v cv:=by
 unfold ME at he
 split at he
 ·rename_i id g i o
  cases he
  cases hx with
  |ptr hL hi=>
   rename_i L
   refine⟨.pointer (some ⟨L.blk,L.base+i*L.sz+(o+off),none⟩), ?_, .ptr hL hi⟩
   simp only[Instr.fieldAt,Sem.run_bind,run_underlying hu,Result.andThen_ok,hf,Instr.sureAddr,Sem.run_pure,fieldPlace,fF hm]
   simp[Addr.add_lit,hoff,Nat.add_assoc]
 ·cases he
theorem MH {id sz:Nat} (H:bJ P B φ h w) (hs:qd h id sz=true) {g:Nat} {L:Loc} (hL:φ id g=some L):L.sz=sz:=by
 unfold qd at hs
 cases hr:h.row id with
 |none=>rw[hr] at hs;cases hs
 |some r=>
  rw[hr] at hs
  have hrow:lG φ id r w:=H.obj id _ (aj.row_some.1 hr)
  rw[(hrow.gen g L hL).2]
  exact aF.1 hs
theorem U2 {x i v:AV} {cx ci:Value} {t e:TypeId} {sz:Nat} (hu:P.underlying t=some (.slice e)) (hs:sizeT P e=some sz) (H:bJ P B φ h w) (hx:aX φ x cx) (hi:aX φ i ci) (he:qj h sz x i=some v):
 ∃cv,(Instr.indexAt t cx ci).run P w= .ok cv w∧aX φ v cv:=by
 unfold qj at he
 split at he
 ·rename_i id g s len cap ex
  cases hn:asNat i with
  |none=>simp[hn] at he
  |some n=>
   rw[hn] at he
   simp only at he
   cases hc:(Nat.blt n len&&qd h id sz) with
   |false=>rw[hc] at he;cases he
   |true=>
    rw[hc,cond_true] at he;cases he
    simp only[Bool.and_eq_true,bB] at hc
    obtain⟨k,rfl⟩:=lu hi hn
    cases hx with
    |slc hL h1 h2 h3 h4 h5 h6=>
     rename_i c off L
     have hsz:=MH H hc.2 hL
     have hoff:=h6 (by omega)
     refine⟨.pointer (some ⟨L.blk,L.base+(s+n)*L.sz+0,none⟩), ?_, .ptr hL (by omega)⟩
     have hin:(0:Int)≤(n:Int)∧(n:Int)<(len:Int):=⟨by omega,by omega⟩
     simp only[Instr.indexAt,asIntOf,Sem.run_bind,Sem.run_pure,run_underlying hu,Result.andThen_ok,hin,and_self,if_true,fF hs,Int.toNat_natCast,Addr.add_lit,hoff, ←hsz,Nat.add_zero,Nat.add_mul,Nat.add_assoc]
 ·cases he
theorem RX {x i v:AV} {cx ci:Value} {t e:TypeId} {n m:Nat} (hu:P.underlying t=some (.array n e)) (hs:sizeT P e=some m) (hx:aX φ x cx) (hi:aX φ i ci) (he:NR n m x i=some v):
 ∃cv,(Instr.indexAt t cx ci).run P w= .ok cv w∧aX φ v cv:=by
 unfold NR at he
 split at he
 ·rename_i id g j o
  cases hn:asNat i with
  |none=>simp[hn] at he
  |some k=>
   rw[hn] at he
   simp only at he
   cases hc:Nat.blt k n with
   |false=>rw[hc] at he;cases he
   |true=>
    rw[hc,cond_true] at he;cases he
    obtain⟨kd,rfl⟩:=lu hi hn
    cases hx with
    |ptr hL hlt=>
     rename_i L
     have hk:=bB.1 hc
     have hin:(0:Int)≤(k:Int)∧(k:Int)<(n:Int):=⟨by omega,by omega⟩
     refine⟨.pointer (some ⟨L.blk,L.base+j*L.sz+(o+k*m),none⟩), ?_, .ptr hL hlt⟩
     simp only[Instr.indexAt,asIntOf,Sem.run_bind,Sem.run_pure,run_underlying hu,Result.andThen_ok,Instr.sureAddr,hin,and_self,if_true,fF hs,Int.toNat_natCast,Addr.add_lit,Nat.add_assoc]
 ·cases he
theorem Us {x i v:AV} {cx ci:Value} {t:TypeId} (hu:P.underlying t=some .string) (hx:aX φ x cx) (hi:aX φ i ci) (he:mP x i=some v):
 ∃cv,(Instr.index t cx ci).run P w= .ok cv w∧aX φ v cv:=by
 unfold mP at he
 split at he
 ·rename_i l
  cases hn:asNat i with
  |none=>simp[hn] at he
  |some k=>
   rw[hn] at he
   simp only[nM] at he
   cases hb:l[k]? with
   |none=>simp[hb] at he
   |some b=>
    rw[hb] at he;cases he
    obtain⟨kd,rfl⟩:=lu hi hn
    cases hx with
    |str hs=>
     rename_i s
     rw[←hs,List.getElem?_map] at hb
     cases hu8:s.data.toList[k]? with
     |none=>simp[hu8] at hb
     |some u=>
      rw[hu8] at hb;simp at hb;subst hb
      have hget:s[k]? =some u:=by
       have hlt:k<s.size:=by
        have:=(List.getElem?_eq_some_iff.1 hu8).1
        simpa using this
       rw[getElem?_pos s k hlt]
       have:s.data.toList[k]? =some s[k]:=by
        rw[List.getElem?_eq_getElem (by simpa using hlt)]
        rfl
       rw[hu8] at this
       exact this.symm▸rfl
      refine⟨.int .u8 u.toNat, ?_, .int _ _⟩
      have h0:(0:Int)≤(k:Int):=by omega
      simp only[Instr.index,asIntOf,Sem.run_bind,Sem.run_pure,run_underlying hu,Result.andThen_ok,h0,if_true,Int.toNat_natCast,hget]
 ·cases he
theorem U4 {ag:Bool} {n m:Nat} {x i v:AV} {cx ci:Value} {t e:TypeId} (hu:P.underlying t=some (.array n e)) (hag:mO P e=some ag) (hs:sizeT P e=some m) (hx:aX φ x cx) (hi:aX φ i ci) (he:Xb ag n m x i=some v):
 ∃cv,(Instr.index t cx ci).run P w= .ok cv w∧aX φ v cv:=by
 unfold Xb at he
 split at he
 ·rename_i l
  cases hn:asNat i with
  |none=>simp[hn] at he
  |some k=>
   rw[hn] at he
   simp only at he
   cases hc:Nat.blt k n with
   |false=>rw[hc] at he;cases he
   |true=>
    rw[hc,cond_true] at he
    obtain⟨kd,rfl⟩:=lu hi hn
    cases hx with
    |agg hl=>
     rename_i cs
     have hk:=bB.1 hc
     have hin:(0:Int)≤(k:Int)∧(k:Int)<(n:Int):=⟨by omega,by omega⟩
     obtain⟨cv,h1,h2⟩:=Kc (w:=w) hl he hag hs
     refine⟨cv, ?_,h2⟩
     simp only[Instr.index,asIntOf,Sem.run_bind,Sem.run_pure,run_underlying hu,Result.andThen_ok,hin,and_self,if_true,fF hs,Int.toNat_natCast,h1]
 ·cases he
theorem Yx {ag:Bool} {off n f:Nat} {x v:AV} {cx:Value} {t:TypeId} {fs:Array Field} {fl:Field} (hu:P.underlying t=some (.struct fs)) (hf:fs[f]? =some fl) (hoff:fl.offset=off) (hag:mO P fl.type=some ag)
 (hn:sizeT P fl.type=some n) (hx:aX φ x cx) (he:KV ag off n x=some v):∃cv,(Instr.field t cx f).run P w= .ok cv w∧aX φ v cv:=by
 unfold KV at he
 split at he
 ·cases hx with
  |agg hl=>
   obtain⟨cv,h1,h2⟩:=Kc (w:=w) hl he hag hn
   refine⟨cv, ?_,h2⟩
   simp only[Instr.field,Sem.run_bind,run_underlying hu,Result.andThen_ok,hf,asAgg,Sem.run_pure,hoff,h1]
 ·cases he
theorem X4 {i:Nat} {x v:AV} {cx:Value} (hx:aX φ x cx) (he:UL i x=some v):∃cv,(Instr.extract cx i).run P w= .ok cv w∧aX φ v cv:=by
 unfold UL at he
 split at he
 ·cases hx with
  |tup hl=>
   rw[nM] at he
   obtain⟨cv,h1,h2⟩:=hl.get he
   have h3:(⟨‹List Value›⟩:Array Value)[i]? =some cv:=by simpa using h1
   exact⟨cv,by simp[Instr.extract,h3],h2⟩
 ·cases he
theorem Qx {x v:AV} {cx:Value} (hx:aX φ x cx) (he:Er x=some v):v=x∧cx≠ .pointer none∧cx≠ .nilFunc∧cx≠ .nilIface∧(∀m a b,cx≠ .func (.method m) a b):=by
 unfold Er at he
 split at he
 ·cases he
 ·cases he
 ·cases he
 ·rename_i h1 h2 h3
  cases he
  refine⟨rfl, ?_, ?_, ?_, ?_⟩
  ·rintro rfl;cases hx;exact h1 rfl
  ·rintro rfl;cases hx;exact h2 rfl
  ·rintro rfl;cases hx;exact h3 rfl
  ·rintro m a b rfl;cases hx
theorem TA {k:IntKind} {x v:AV} {cx:Value} {s d:TypeId} {ks:IntKind} (hs:P.underlying s=some (.int ks)) (hd:P.underlying d=some (.int k)) (hx:aX φ x cx) (he:WI k x=some v):
 ∃cv,(convert s d cx).run P w= .ok cv w∧aX φ v cv:=by
 unfold WI at he
 split at he
 ·rename_i k0 n
  cases he
  cases hx
  exact⟨.int k (k.wrap n),by simp[convert,Sem.run_bind,run_underlying hs,run_underlying hd,Conv.intToInt],by rw[vJ];exact .int _ _⟩
 ·cases he
theorem XR {x v:AV} {cx:Value} (hx:aX φ x cx) (he:XY x=some v):∃cv,(Op.unary .not cx).run P w= .ok cv w∧aX φ v cv:=by
 unfold XY at he
 split at he
 ·cases he;cases hx;exact⟨.bool _,by simp[Op.unary], .bool _⟩
 ·cases he
theorem YH {x v:AV} {cx:Value} (hx:aX φ x cx) (he:YI x=some v):∃cv,(Op.unary .neg cx).run P w= .ok cv w∧aX φ v cv:=by
 unfold YI at he
 split at he
 ·cases he;cases hx;exact⟨_,afY,by rw[vJ];exact .int _ _⟩
 ·cases he
theorem XW {x v:AV} {cx:Value} {t ty:TypeId} {e:TypeId} (hu:P.underlying t=some (.slice e)) (hx:aX φ x cx) (he:adD x=some v):∃cv,(Builtin.cap_ #[t] ty #[cx]).run P w= .ok cv w∧aX φ v cv:=by
 unfold adD at he
 split at he
 ·cases he;cases hx
  exact⟨.int .i64 0,by simp[Builtin.cap_,Sem.run_bind,run_underlying hu,goInt], .int _ _⟩
 ·cases he;cases hx
  exact⟨.int .i64 0,by simp[Builtin.cap_,Sem.run_bind,run_underlying hu,goInt], .int _ _⟩
 ·cases he
  cases hx with
  |slc hL h1 h2 h3 h4 h5 h6=>
   have:=h5 rfl;subst this
   exact⟨.int .i64 _,by simp[Builtin.cap_,Sem.run_bind,run_underlying hu,goInt], .int _ _⟩
 ·cases he
theorem Gj {x:Option Operand} {y:Option bW} (hx:oU x=some y):(x=none∧y=none)∨∃a b,x=some a∧y=some b∧aU a=some b:=by
 cases x with
 |none=>simp[oU] at hx;subst hx;exact .inl ⟨rfl,rfl⟩
 |some a=>
  simp only[oU] at hx
  cases ha:aU a with
  |none=>simp[ha] at hx
  |some b=>simp[ha] at hx;subst hx;exact .inr ⟨a,b,rfl,rfl,ha⟩
theorem ig (hR:lM φ N ρ a.tmps) {x:Option Operand} {y:Option bW} (hx:oU x=some y) {d n:Nat} (he:nP ρ d y=some n):
 (x.map a.eval=none∧y=none∧n=d)∨∃k,x.map a.eval=some (.int k n)∧y.isSome=true:=by
 rcases Gj hx with⟨rfl,rfl⟩|⟨p,q,rfl,rfl,hpq⟩
 ·simp[nP] at he;exact .inl ⟨rfl,rfl,he.symm⟩
 ·simp only[nP] at he
  cases hv:ev ρ q with
  |none=>simp[hv] at he
  |some v=>
   rw[hv] at he
   obtain⟨k,hk⟩:=lu (bD hR hpq hv) he
   exact .inr ⟨k,by simp[hk],rfl⟩
theorem jB (k:IntKind) (n y:Nat) (code:BoundsCode) (hle:n≤y):(Instr.sliceBound (.int k n) y code).run P w= .ok n w:=by
 have:(0:Int)≤(n:Int)∧(n:Int)≤(y:Int):=⟨by omega,by omega⟩
 simp[Instr.sliceBound,asIntOf,this]
theorem fO (k:IntKind) (code:BoundsCode):(Instr.sliceBound (.int k 0) 0 code).run P w= .ok 0 w:=by
 simp[Instr.sliceBound,asIntOf]
theorem Ox {t:TypeId} (hR:lM φ N ρ a.tmps) (hu:P.underlying t=some .string) {x v:AV} {cx:Value} (hx:aX φ x cx) {lo hi:Option Operand} {lo' hi':Option bW} (hlo:oU lo=some lo') (hhi:oU hi=some hi')
 (he:Kq ρ x lo' hi'=some v):∃cv,(Instr.sliceAt t cx (lo.map a.eval) (hi.map a.eval) none).run P w= .ok cv w∧aX φ v cv:=by
 unfold Kq at he
 split at he
 ·rename_i l
  cases hx with
  |str hs=>
   rename_i s
   have hsz:=yI hs
   split at he
   ·rename_i hn ln e1 e2
    cases hc:(Nat.ble ln hn&&Nat.ble hn l.length) with
    |false=>rw[hc] at he;cases he
    |true=>
     rw[hc,cond_true] at he;cases he
     simp only[Bool.and_eq_true,aI] at hc
     refine⟨.string (s.extract ln hn), ?_, .str ?_⟩
     ·have hb:(Instr.sliceBounds false s.size s.size (lo.map a.eval) (hi.map a.eval) none).run P w= .ok (ln,hn,s.size) w:=by
       unfold Instr.sliceBounds
       rcases ig hR hhi e1 with⟨a1,_,a2⟩|⟨k,a1,_⟩<;>rcases ig hR hlo e2 with⟨b1,_,b2⟩|⟨k',b1,_⟩
       ·rw[a1,b1];simp[a2,b2,hsz]
       ·rw[a1,b1];simp[a2,hsz,jB (P:=P) (w:=w) k' ln l.length .sliceB (by omega)]
       ·rw[a1,b1];simp[b2,hsz,jB (P:=P) (w:=w) k hn l.length .sliceAlen (by omega)]
       ·rw[a1,b1];simp[hsz,jB (P:=P) (w:=w) k hn l.length .sliceAlen (by omega),jB (P:=P) (w:=w) k' ln hn .sliceB (by omega)]
      simp only[Instr.sliceAt,Instr.slice,Sem.run_bind,run_underlying hu,Result.andThen_ok,Option.isSome_none,Bool.false_eq_true,if_false,hb,Sem.run_pure]
     ·rw[←hs]
      simp[List.map_take,List.map_drop,ByteArray.data_extract,List.extract_eq_take_drop,List.drop_take]
   ·cases he
 ·cases he
theorem PK {t e:TypeId} {sz:Nat} (hR:lM φ N ρ a.tmps) (H:bJ P B φ h w) (hu:P.underlying t=some (.slice e)) (hsz:sizeT P e=some sz) {x v:AV} {cx:Value} (hx:aX φ x cx)
 {lo hi mx:Option Operand} {lo' hi' mx':Option bW} (hlo:oU lo=some lo') (hhi:oU hi=some hi') (hmx:oU mx=some mx')
 (he:yu ρ h sz x lo' hi' mx'=some v):∃cv,(Instr.sliceAt t cx (lo.map a.eval) (hi.map a.eval) (mx.map a.eval)).run P w= .ok cv w∧aX φ v cv:=by
 have fin:∀(A:Option Addr) (len cap l hh m:Nat),(Instr.sliceBounds true len cap (lo.map a.eval) (hi.map a.eval) (mx.map a.eval)).run P w= .ok (l,hh,m) w→
  (Instr.sliceAt t (.slice A len cap) (lo.map a.eval) (hi.map a.eval) (mx.map a.eval)).run P w= .ok (.slice (if m=l then A else A.map (·.add (l*sz))) (hh-l) (m-l)) w:=by
  intro A len cap l hh m hb
  simp only[Instr.sliceAt,Instr.slice,Sem.run_bind,run_underlying hu,Result.andThen_ok,hb,fF hsz,Sem.run_pure]
 unfold yu at he
 split at he
 ·rename_i id g s len cap ex
  cases hrs:qd h id sz with
  |false=>rw[hrs] at he;cases he
  |true=>
   rw[hrs,cond_true] at he
   cases hx with
   |slc hL h1 h2 h3 h4 h5 h6=>
    rename_i c off L
    have hLs:=MH H hrs hL
    split at he
    ·rename_i mo
     split at he
     ·rename_i mn hn ln e0 e1 e2
      cases hc:(Nat.ble ln hn&&Nat.ble hn mn&&Nat.ble mn cap&&hi'.isSome) with
      |false=>rw[hc] at he;cases he
      |true=>
       rw[hc,cond_true] at he;cases he
       simp only[Bool.and_eq_true,aI] at hc
       obtain⟨⟨⟨c1,c2⟩,c3⟩,c4⟩:=hc
       have hb:(Instr.sliceBounds true len c (lo.map a.eval) (hi.map a.eval) (mx.map a.eval)).run P w= .ok (ln,hn,mn) w:=by
        unfold Instr.sliceBounds
        rcases ig hR hmx e0 with⟨_,a2,_⟩|⟨km,m1,_⟩
        ·cases a2
        rcases ig hR hhi e1 with⟨_,a2,_⟩|⟨k,a1,_⟩
        ·rw[a2] at c4;cases c4
        rcases ig hR hlo e2 with⟨b1,_,b2⟩|⟨k',b1,_⟩
        ·rw[m1,a1,b1];simp[b2,jB (P:=P) (w:=w) km mn c .slice3Acap (by omega),jB (P:=P) (w:=w) k hn mn .slice3B (by omega)]
        ·rw[m1,a1,b1];simp[jB (P:=P) (w:=w) km mn c .slice3Acap (by omega),jB (P:=P) (w:=w) k hn mn .slice3B (by omega),jB (P:=P) (w:=w) k' ln hn .slice3C (by omega)]
       refine⟨_,fin _ _ _ _ _ _ hb, ?_⟩
       by_cases hml:mn=ln
       ·rw[if_pos hml]
        exact .slc hL (by omega) (by omega) (by omega) (Nat.le_refl _) (fun _=>rfl) (fun hpos=>by omega)
       ·rw[if_neg hml]
        simp only[Option.map_some,Addr.add_lit]
        exact .slc hL (by omega) (by omega) (by omega) (Nat.le_refl _) (fun _=>rfl) (fun hpos=>by rw[h6 (by omega),hLs,Nat.add_mul,Nat.add_assoc])
     ·cases he
    ·split at he
     ·rename_i hn ln e1 e2
      cases hc:(Nat.ble ln hn&&Nat.ble hn cap) with
      |false=>rw[hc] at he;cases he
      |true=>
       rw[hc,cond_true] at he;cases he
       simp only[Bool.and_eq_true,aI] at hc
       obtain⟨c1,c2⟩:=hc
       have hmn:mx.map a.eval=none:=by
        rcases Gj hmx with⟨rfl,_⟩|⟨_,_,_,e,_⟩
        ·rfl
        ·cases e
       have hb:(Instr.sliceBounds true len c (lo.map a.eval) (hi.map a.eval) (mx.map a.eval)).run P w= .ok (ln,hn,c) w:=by
        unfold Instr.sliceBounds
        rw[hmn]
        rcases ig hR hhi e1 with⟨a1,_,a2⟩|⟨k,a1,_⟩<;>rcases ig hR hlo e2 with⟨b1,_,b2⟩|⟨k',b1,_⟩
        ·rw[a1,b1];simp[a2,b2]
        ·rw[a1,b1];simp[a2,jB (P:=P) (w:=w) k' ln len .sliceB (by omega)]
        ·rw[a1,b1];simp[b2,jB (P:=P) (w:=w) k hn c .sliceAcap (by omega)]
        ·rw[a1,b1];simp[jB (P:=P) (w:=w) k hn c .sliceAcap (by omega),jB (P:=P) (w:=w) k' ln hn .sliceB (by omega)]
       refine⟨_,fin _ _ _ _ _ _ hb, ?_⟩
       by_cases hml:c=ln
       ·rw[if_pos hml]
        exact .slc hL (by omega) (by omega) (by omega) (by omega) (fun hx=>by have:=h5 hx;omega) (fun hpos=>by omega)
       ·rw[if_neg hml]
        simp only[Option.map_some,Addr.add_lit]
        exact .slc hL (by omega) (by omega) (by omega) (by omega) (fun hx=>by have:=h5 hx;omega) (fun hpos=>by rw[h6 (by omega),hLs,Nat.add_mul,Nat.add_assoc])
     ·cases he
 ·cases hx
  split at he
  ·rename_i e0 e1 e2
   cases hc:(mx'.isNone||hi'.isSome) with
   |false=>rw[hc] at he;cases he
   |true=>
    rw[hc,cond_true] at he;cases he
    have hb:(Instr.sliceBounds true 0 0 (lo.map a.eval) (hi.map a.eval) (mx.map a.eval)).run P w= .ok (0,0,0) w:=by
     unfold Instr.sliceBounds
     rcases ig hR hmx e0 with⟨m1,_,_⟩|⟨km,m1,m2⟩<;>rcases ig hR hhi e1 with⟨a1,a2,_⟩|⟨k,a1,_⟩<;>rcases ig hR hlo e2 with⟨b1,_,b2⟩|⟨k',b1,_⟩
     ·rw[m1,a1,b1];simp
     ·rw[m1,a1,b1];simp[fO (P:=P) (w:=w) k' .sliceB]
     ·rw[m1,a1,b1];simp[fO (P:=P) (w:=w) k .sliceAcap]
     ·rw[m1,a1,b1];simp[fO (P:=P) (w:=w) k .sliceAcap,fO (P:=P) (w:=w) k' .sliceB]
     ·exfalso;rw[a2] at hc;cases mx'<;>simp at hc m2
     ·exfalso;rw[a2] at hc;cases mx'<;>simp at hc m2
     ·rw[m1,a1,b1];simp[fO (P:=P) (w:=w) km .slice3Acap,fO (P:=P) (w:=w) k .slice3B]
     ·rw[m1,a1,b1];simp[fO (P:=P) (w:=w) km .slice3Acap,fO (P:=P) (w:=w) k .slice3B,fO (P:=P) (w:=w) k' .slice3C]
    exact⟨_,fin _ _ _ _ _ _ hb,by simpa using aX.ah⟩
  ·cases he
 ·cases hx
  rename_i A
  split at he
  ·rename_i e0 e1 e2
   cases hc:(mx'.isNone||hi'.isSome) with
   |false=>rw[hc] at he;cases he
   |true=>
    rw[hc,cond_true] at he;cases he
    have hb:(Instr.sliceBounds true 0 0 (lo.map a.eval) (hi.map a.eval) (mx.map a.eval)).run P w= .ok (0,0,0) w:=by
     unfold Instr.sliceBounds
     rcases ig hR hmx e0 with⟨m1,_,_⟩|⟨km,m1,m2⟩<;>rcases ig hR hhi e1 with⟨a1,a2,_⟩|⟨k,a1,_⟩<;>rcases ig hR hlo e2 with⟨b1,_,b2⟩|⟨k',b1,_⟩
     ·rw[m1,a1,b1];simp
     ·rw[m1,a1,b1];simp[fO (P:=P) (w:=w) k' .sliceB]
     ·rw[m1,a1,b1];simp[fO (P:=P) (w:=w) k .sliceAcap]
     ·rw[m1,a1,b1];simp[fO (P:=P) (w:=w) k .sliceAcap,fO (P:=P) (w:=w) k' .sliceB]
     ·exfalso;rw[a2] at hc;cases mx'<;>simp at hc m2
     ·exfalso;rw[a2] at hc;cases mx'<;>simp at hc m2
     ·rw[m1,a1,b1];simp[fO (P:=P) (w:=w) km .slice3Acap,fO (P:=P) (w:=w) k .slice3B]
     ·rw[m1,a1,b1];simp[fO (P:=P) (w:=w) km .slice3Acap,fO (P:=P) (w:=w) k .slice3B,fO (P:=P) (w:=w) k' .slice3C]
    exact⟨_,fin _ _ _ _ _ _ hb,by simpa using aX.emp⟩
  ·cases he
 ·cases he
theorem Kz {mx:Bool}:∀{l:List AV} {x v:AV} {cx:Value} {m:List Value},aX φ x cx→bS φ l m→mmA mx x l=some v→
 ∃cv,(m.foldlM (if mx then Builtin.max2 else Builtin.min2) cx).run P w= .ok cv w∧aX φ v cv
 | [],x,v,cx,m,hx,hl,he=>by
   cases hl
   cases x<;>simp[mmA] at he
   subst he
   exact⟨cx,by simp,hx⟩
 |y :: l,x,v,cx,m,hx,hl,he=>by
  cases hl with
  |cons hy ht=>
   cases x<;>cases y<;>simp only[mmA] at he<;>try(cases he;done)
   rename_i k a j b
   cases hk:Nat.beq (mH k) (mH j) with
   |false=>rw[hk] at he;cases he
   |true=>
    rw[hk,cond_true] at he
    have:=Kw (aF.1 hk);subst this
    cases hx;cases hy
    obtain⟨cv,h1,h2⟩:=Kz (.int _ _) ht he
    refine⟨cv, ?_,h2⟩
    cases mx with
    |true=>
     simp only[if_true,List.foldlM_cons,Sem.run_bind,Builtin.max2,Sem.run_pure,Result.andThen_ok] at h1 ⊢
     rw[←h1]
     congr 3
     rw[cond_true,yY]
     by_cases hab:a<b<;>simp[hab]
    |false=>
     simp only[Bool.false_eq_true,if_false,List.foldlM_cons,Sem.run_bind,Builtin.min2,Sem.run_pure,Result.andThen_ok] at h1 ⊢
     rw[←h1]
     congr 3
     rw[cond_false,yY]
     by_cases hab:b<a<;>simp[hab]
end
end Go.Ab
