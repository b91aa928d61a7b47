/-
  Texts that the claim hangs on, part 6.
-/
import Derived.Test.YtbijepcediaghaaGreatDoorR4
set_option linter.unusedSimpArgs false
set_option linter.unusedVariables false
namespace Go.Proofs.YtbijepcediaghaaGreatDoor
open Go.Ab
abbrev Str:=List Nat
structure Lx where
 kind:Nat
 text:Str
 beg:Nat
 fin:Nat
def lI (x:Lx):List AV:=[.int .i64 (x.kind:Int), .str x.text, .int .i64 (x.beg:Int), .int .i64 (x.fin:Int)]
def keys:List Str:=[[99,108,97,115,115],[101,120,116,101,110,100,115],[114,117,108,101],[113,117,101,114,121],[119,104,101,110],[116,104,101,110],[101,110,100],[115,97,108,105,101,110,99,101],[103,114,111,117,112],[102,108,111,119],[110,111,108,111,111,112],[108,111,99,107],[110,111,116],[101,120,105,115,116,115],[102,111,114,97,108,108],[111,114],[102,114,111,109],[101,118,97,108],[97,99,99],[111,118,101,114],[105,110,115,101,114,116],[108,111,103,105,99,97,108],[117,112,100,97,116,101],[100,101,108,101,116,101],[102,111,99,117,115],[112,114,105,110,116],[104,97,108,116],[116,114,117,101],[102,97,108,115,101],[110,117,108,108],[115,105,122,101],[104,97,115],[105,110,116],[98,111,111,108],[116,101,120,116],[108,105,115,116],[97,110,121],[114,101,102]]
def aie (s:Str):Bool:=keys.any fun t=>decide (s=t)
inductive Res (α:Type) where
 |ok (v:α) (i:Nat) (o:Int)
 |fail (i:Nat)
 |out
abbrev PM (α:Type):=Nat→Int→Res α
def ret {α:Type} (v:α):PM α:=fun i o=> .ok v i o
def bnd {α β:Type} (m:PM α) (g:α→PM β):PM β:=fun i o=>match m i o with
 | .ok v i o=>g v i o
 | .fail i=> .fail i
 | .out=> .out
def adS {α:Type} (x:Nat):PM α:=fun _ _=> .fail x
def tV {α:Type}:PM α:=fun _ _=> .out
def yK (b:Bool):PM Unit:=fun i o=>if b=true then .ok () i o else .fail i
inductive Ex where
 |mk (op:Int) (text:Str) (v:Val) (args:List Ex):Ex
structure Bt where
 e:Ex
 deep:Nat
def NJ:Val:= .mk 0 false 0 [] []
def wm:Ex:= .mk 0 [] NJ []
def jr (op:Int) (t:Str):Ex:= .mk op t NJ []
def Ex.add:Ex→List Ex→Ex
 | .mk op t v a,l=> .mk op t v (a++l)
inductive Cd where
 |mk (kind:Int) (var cls:Str) (binds:List (Str×Str)) (tests:List Ex) (conds thn:List Cd) (alts:List (List Cd)) (e:Ex) (fn name:Str) (args:List (Str×Ex)):Cd
structure Nw where
 name:Str
 ty:Int
 cls:Str
structure Cls where
 name:Str
 super:Str
 fields:List Nw
structure Act where
 kind:Int
 cls:Str
 set:List (Str×Ex)
 e:Ex
 text:Str
structure KR where
 name:Str
 sal:Int
 group:Str
 flow:Str
 noloop:Bool
 lock:Bool
 whn:List Cd
 thn:List Act
structure Qry where
 name:Str
 params:List Str
 whn:List Cd
structure NQ where
 classes:List Cls
 rules:List KR
 queries:List Qry
section
variable (T:List Lx)
def bA (i:Nat) (s:Str):Bool:=match T[i]? with
 |none=>false
 |some l=>decide (l.text=s)&&(decide (l.kind=4)||(decide (l.kind=0)&&aie s))
def qP (i:Nat):Bool:=match T[i]? with
 |none=>false
 |some l=>decide (l.kind=0)&& !aie l.text
def dS (i k:Nat):Bool:=match T[i]? with
 |none=>false
 |some l=>decide (l.kind=k)
def txt (i:Nat):Str:=match T[i]? with
 |none=>[]
 |some l=>l.text
def fA (s:Str):PM Bool:=fun i o=>if bA T i s=true then .ok true (i+1) o else .ok false i o
def d9 (s:Str):PM Unit:=bnd (fA T s) yK
def Dm:PM Str:=fun i o=> .ok (txt T i) (i+1) o
def iD:PM Str:=fun i o=>if(qP T i&&decide ((txt T i).length≤64))=true then .ok (txt T i) (i+1) o else .fail i
def qF:PM Str:=fun i o=>if(dS T i 1&&decide ((txt T i).length≤64))=true then .ok (txt T i) (i+1) o else .fail i
def jm:PM Str:=fun i o=>if dS T i 3=true then .ok (txt T i) (i+1) o else .fail i
def jc (x:Nat):PM Unit:=fun i o=>if 30<o+1 then .fail x else .ok () i (o+1)
def mG:PM Unit:=fun i o=> .ok () i (o-1)
def fB (s:Str):PM Unit:=fun i o=>bnd (d9 T s) (fun _=>jc i) i o
def dH (s:Str):PM Unit:=bnd (d9 T s) fun _=>mG
def oW {σ:Type} (en:Str) (one:σ→PM σ):Nat→Bool→σ→PM σ
 |0,_,_=>tV
 |k+1,first,s=>fun i o=>
  if first=true then(if bA T i en=true then .ok s i o else bnd (one s) (oW en one k false) i o)
  else(if bA T i [44]=true then bnd (one s) (oW en one k false) (i+1) o else .ok s i o)
def iQ {σ:Type} (en:Str) (one:σ→PM σ) (k:Nat) (s:σ):PM σ:=bnd (oW T en one k true s) fun s=>bnd (dH T en) fun _=>ret s
def kV (d:Nat):List Bt→Nat
 | []=>d
 |b :: l=>kV (max d (b.deep+1)) l
def gY (x:Nat) (e:Ex) (args:List Bt):PM Bt:=if 30<kV 1 args then adS x else ret ⟨e.add (args.map Bt.e),kV 1 args⟩
def xQ (lv:Nat) (t:Str):Option Int:=
 if lv=0 then(if t=[124,124] then some 9 else none)
 else if lv=1 then(if t=[38,38] then some 8 else none)
 else if lv=2 then(if t=[61,61] then some 10 else if t=[33,61] then some 11 else if t=[60] then some 12 else if t=[60,61] then some 13 else if t=[62] then some 14 else if t=[62,61] then some 15 else none)
 else if lv=3 then(if t=[43] then some 16 else if t=[45] then some 17 else none)
 else if lv=4 then(if t=[42] then some 18 else if t=[47] then some 19 else if t=[37] then some 20 else none)
 else none
def lit (v:Val):Bt:=⟨.mk 1 [] v [],1⟩
mutual
def bP:Nat→Nat→PM Bt
 |0,_=>tV
 |k+1,lv=>if lv=5 then jK k else bnd (bP k (lv+1)) (qU k lv)
def qU:Nat→Nat→Bt→PM Bt
 |0,_,_=>tV
 |k+1,lv,e=>fun i o=>match T[i]? with
  |none=> .ok e i o
  |some l=>match xQ lv l.text with
   |none=> .ok e i o
   |some op=>if l.kind=4 then bnd (bP k (lv+1)) (fun b=>bnd (gY i (jr op []) [e,b]) fun e'=>if lv=2 then ret e' else qU k lv e') (i+1) o else .ok e i o
def jK:Nat→PM Bt
 |0=>tV
 |k+1=>fun i o=>
  if bA T i [45]=true then bnd (jc i) (fun _=>bnd (jK k) fun e=>bnd mG fun _=>gY i (jr 6 []) [e]) (i+1) o
  else if bA T i [33]=true then bnd (jc i) (fun _=>bnd (jK k) fun e=>bnd mG fun _=>gY i (jr 7 []) [e]) (i+1) o
  else sJ k i o
def sJ:Nat→PM Bt
 |0=>tV
 |k+1=>bnd (qA k) (qy k)
def qy:Nat→Bt→PM Bt
 |0,_=>tV
 |k+1,e=>fun i o=>if bA T i [46]=true then bnd (iD T) (fun t=>bnd (gY i (jr 4 t) [e]) (qy k)) (i+1) o else .ok e i o
def qA:Nat→PM Bt
 |0=>tV
 |k+1=>fun i o=>
  if dS T i 2=true then(match pI (txt T i) with
   |some (some n)=> .ok (lit (.mk 2 false n [] [])) (i+1) o
   |_=> .fail i)
  else if dS T i 3=true then .ok (lit (.mk 3 false 0 (txt T i) [])) (i+1) o
  else if bA T i [116,114,117,101]=true then .ok (lit (.mk 1 true 0 [] [])) (i+1) o
  else if bA T i [102,97,108,115,101]=true then .ok (lit (.mk 1 false 0 [] [])) (i+1) o
  else if bA T i [110,117,108,108]=true then .ok (lit NJ) (i+1) o
  else if dS T i 1=true then bnd (qF T) (fun t=>ret ⟨jr 2 t,1⟩) i o
  else if bA T i [40]=true then bnd (fB T [40]) (fun _=>bnd (bP k 0) fun e=>bnd (dH T [41]) fun _=>ret e) i o
  else if bA T i [91]=true then bnd (fB T [91]) (fun _=>bnd (iQ T [93] (fun l=>bnd (bP k 0) fun b=>ret (l++[b])) k []) fun l=>gY i (jr 5 []) l) i o
  else if bA T i [115,105,122,101]=true then bnd (fB T [40]) (fun _=>bnd (bP k 0) fun e=>bnd (dH T [41]) fun _=>gY i (jr 21 []) [e]) (i+1) o
  else if bA T i [104,97,115]=true then bnd (fB T [40]) (fun _=>bnd (bP k 0) fun a=>bnd (d9 T [44]) fun _=>bnd (bP k 0) fun b=>bnd (dH T [41]) fun _=>gY i (jr 22 []) [a,b]) (i+1) o
  else bnd (iD T) (fun t=>ret ⟨jr 3 t,1⟩) i o
end
end
def Sh {α:Type} (d:Int) (m:PM α):Prop:=∀i o v i' o',m i o= .ok v i' o'→o'=o+d∧i≤i'
section
variable {T:List Lx}
theorem aM {α β:Type} {a b c:Int} {m:PM α} {g:α→PM β} (h1:Sh a m) (h2:∀v,Sh b (g v)) (e:a+b=c):Sh c (bnd m g):=by
 intro i o v i' o' h;unfold bnd at h;split at h
 ·rename_i v1 i1 o1 e1;have⟨p1,p2⟩:=h1 _ _ _ _ _ e1;exact have⟨q1,q2⟩:=h2 _ _ _ _ _ _ h;⟨by omega,by omega⟩
 ·cases h
 ·cases h
theorem dP {α:Type} {v:α}:Sh 0 (ret v):=fun i o v i' o' h=>by cases h;exact⟨by omega,Nat.le_refl _⟩
theorem ny {α:Type} {d:Int}:Sh d (tV:PM α):=fun i o v i' o' h=>by cases h
theorem afi {α:Type} {d:Int} {x:Nat}:Sh d (adS x:PM α):=fun i o v i' o' h=>by cases h
theorem agK {c:Bool}:Sh 0 (yK c):=fun i o v i' o' h=>by
 unfold yK at h;split at h<;>cases h;exact⟨by omega,Nat.le_refl _⟩
theorem xM {w:Str}:Sh 0 (fA T w):=fun i o v i' o' h=>by
 unfold fA at h;split at h<;>cases h
 ·exact⟨by omega,by omega⟩
 ·exact⟨by omega,Nat.le_refl _⟩
theorem iL {w:Str}:Sh 0 (d9 T w):=aM xM (fun _=>agK) rfl
theorem Zi:Sh 0 (Dm T):=fun i o v i' o' h=>by cases h;exact⟨by omega,by omega⟩
theorem kX:Sh 0 (iD T):=fun i o v i' o' h=>by
 unfold iD at h;split at h<;>cases h;exact⟨by omega,by omega⟩
theorem yS:Sh 0 (qF T):=fun i o v i' o' h=>by
 unfold qF at h;split at h<;>cases h;exact⟨by omega,by omega⟩
theorem wz:Sh 0 (jm T):=fun i o v i' o' h=>by
 unfold jm at h;split at h<;>cases h;exact⟨by omega,by omega⟩
theorem zm {x:Nat}:Sh 1 (jc x):=fun i o v i' o' h=>by
 unfold jc at h;split at h<;>cases h;exact⟨by omega,Nat.le_refl _⟩
theorem Ej:Sh (-1) mG:=fun i o v i' o' h=>by cases h;exact⟨by omega,Nat.le_refl _⟩
theorem jA {w:Str}:Sh 1 (fB T w):=fun i o v i' o' h=>(aM iL (fun _=>zm) rfl:Sh 1 (bnd (d9 T w) fun _=>jc i)) i o v i' o' h
theorem ko {w:Str}:Sh (-1) (dH T w):=aM iL (fun _=>Ej) rfl
theorem vH {x:Nat} {e:Ex} {l:List Bt}:Sh 0 (gY x e l):=by
 unfold gY;split
 ·exact afi
 ·exact dP
theorem uY {α:Type} {d:Int} {m:PM α} (h:Sh d m) {i:Nat} {o:Int} {v:α} {i':Nat} {o':Int} (e:m (i+1) o= .ok v i' o'):o'=o+d∧i≤i':=by
 exact have⟨h1,h2⟩:=h _ _ _ _ _ e;⟨h1,by omega⟩
theorem VG {σ:Type} {w:Str} {one:σ→PM σ} (h:∀s,Sh 0 (one s)):∀(k:Nat) (first:Bool) (s:σ),Sh 0 (oW T w one k first s)
 |0,_,_=>ny
 |k+1,first,s=>by
  have ih:=fun s=>VG (w:=w) h k false s;have hb:Sh 0 (bnd (one s) (oW T w one k false)):=aM (h s) ih rfl;intro i o v i' o' e;unfold oW at e;split at e
  ·split at e
   ·cases e;exact⟨by omega,Nat.le_refl _⟩
   ·exact hb _ _ _ _ _ e
  ·split at e
   ·exact uY hb e
   ·cases e;exact⟨by omega,Nat.le_refl _⟩
theorem DC {σ:Type} {w:Str} {one:σ→PM σ} (h:∀s,Sh 0 (one s)) (k:Nat) (s:σ):Sh (-1) (iQ T w one k s):=
 aM (VG h k true s) (fun _=>aM ko (fun _=>dP) rfl) rfl
theorem sF {α:Type} {c:Prop} [Decidable c] {a b:Res α} {P:Prop} {v:α} {i:Nat} {o:Int} (h:(if c then a else b)= .ok v i o) (ha:a= .ok v i o→P) (hb:b= .ok v i o→P):P:=by
 split at h
 ·exact ha h
 ·exact hb h
structure ShE (T:List Lx) (k:Nat):Prop where
 level:∀lv,Sh 0 (bP T k lv)
 ops:∀lv e,Sh 0 (qU T k lv e)
 sign:Sh 0 (jK T k)
 post:Sh 0 (sJ T k)
 dots:∀e,Sh 0 (qy T k e)
 atom:Sh 0 (qA T k)
theorem shE:∀k,ShE T k
 |0=>⟨fun _=>by unfold bP;exact ny,fun _ _=>by unfold qU;exact ny,by unfold jK;exact ny,by unfold sJ;exact ny,fun _=>by unfold qy;exact ny,by unfold qA;exact ny⟩
 |k+1=>by
  refine have W:=shE k;⟨fun lv=> ?_,fun lv e=> ?_, ?_, ?_,fun e=> ?_, ?_⟩
  ·unfold bP;split
   ·exact W.sign
   ·exact aM (W.level _) (fun v=>W.ops _ _) rfl
  ·intro i o v i' o' h;unfold qU at h;split at h
   ·cases h;exact⟨by omega,Nat.le_refl _⟩
   ·split at h
    ·cases h;exact⟨by omega,Nat.le_refl _⟩
    ·split at h
     ·refine uY (d:=0) (aM (b:=0) (W.level _) (fun b=>aM (b:=0) vH (fun e'=> ?_) rfl) rfl) h;split
      ·exact dP
      ·exact W.ops _ _
     ·cases h;exact⟨by omega,Nat.le_refl _⟩
  ·intro i o v i' o' h;unfold jK at h;split at h
   ·exact uY (d:=0) (aM zm (fun _=>aM W.sign (fun _=>aM Ej (fun _=>vH) rfl) rfl) rfl) h
   ·split at h
    ·exact uY (d:=0) (aM zm (fun _=>aM W.sign (fun _=>aM Ej (fun _=>vH) rfl) rfl) rfl) h
    ·exact W.post _ _ _ _ _ h
  ·unfold sJ;exact aM W.atom (fun v=>W.dots _) rfl
  ·intro i o v i' o' h;unfold qy at h;split at h
   ·exact uY (d:=0) (aM kX (fun _=>aM vH (fun _=>W.dots _) rfl) rfl) h
   ·cases h;exact⟨by omega,Nat.le_refl _⟩
  ·intro i o v i' o' h;unfold qA at h;refine sF h (fun h=> ?_) fun h=> ?_
   ·split at h<;>cases h;exact⟨by omega,by omega⟩
   refine sF h (fun h=> ?_) fun h=> ?_
   ·cases h;exact⟨by omega,by omega⟩
   refine sF h (fun h=> ?_) fun h=> ?_
   ·cases h;exact⟨by omega,by omega⟩
   refine sF h (fun h=> ?_) fun h=> ?_
   ·cases h;exact⟨by omega,by omega⟩
   refine sF h (fun h=> ?_) fun h=> ?_
   ·cases h;exact⟨by omega,by omega⟩
   refine sF h (fun h=> ?_) fun h=> ?_
   ·exact(aM (c:=0) yS (fun _=>dP) rfl) _ _ _ _ _ h
   refine sF h (fun h=> ?_) fun h=> ?_
   ·exact(aM (c:=0) jA (fun _=>aM (W.level _) (fun _=>aM ko (fun _=>dP) rfl) rfl) rfl) _ _ _ _ _ h
   refine sF h (fun h=> ?_) fun h=> ?_
   ·exact(aM (c:=0) jA (fun _=>aM (DC (fun l=>aM (W.level _) (fun _=>dP) rfl) _ _) (fun _=>vH) rfl) rfl) _ _ _ _ _ h
   refine sF h (fun h=> ?_) fun h=> ?_
   ·exact uY (d:=0) (aM jA (fun _=>aM (W.level _) (fun _=>aM ko (fun _=>vH) rfl) rfl) rfl) h
   refine sF h (fun h=> ?_) fun h=> ?_
   ·exact uY (d:=0) (aM jA (fun _=>aM (W.level _) (fun _=>aM iL (fun _=>aM (W.level _) (fun _=>aM ko (fun _=>vH) rfl) rfl) rfl) rfl) rfl) h
   ·exact(aM (c:=0) kX (fun _=>dP) rfl) _ _ _ _ _ h
end
section
variable (T:List Lx)
def jw (k:Nat):PM Ex:=bnd (bP T k 0) fun b=>ret b.e
def WH:Str:=[110,111,116]
def xg:Str:=[101,120,105,115,116,115]
def xR:Str:=[102,111,114,97,108,108]
def MX:Str:=[101,118,97,108]
def Wj:Str:=[97,99,99]
def acJ:Str:=[102,114,111,109]
def Xj:Str:=[111,114]
def vG:Str:=[108,105,115,116]
def ahm:Str:=[111,118,101,114]
def oI:Str:=[105,110,115,101,114,116]
def iw:Str:=[108,111,103,105,99,97,108]
def u7:Str:=[117,112,100,97,116,101]
def uW:Str:=[100,101,108,101,116,101]
def zh:Str:=[102,111,99,117,115]
def yF:Str:=[112,114,105,110,116]
def YI:Str:=[104,97,108,116]
def KP:Str:=[119,104,101,110]
def Iq:Str:=[116,104,101,110]
def Kn:Str:=[101,110,100]
def abm:Str:=[115,97,108,105,101,110,99,101]
def Fe:Str:=[103,114,111,117,112]
def Oa:Str:=[102,108,111,119]
def Aa:Str:=[110,111,108,111,111,112]
def ag8:Str:=[108,111,99,107]
def QH:Str:=[105,110,116]
def DZ:Str:=[98,111,111,108]
def Ea:Str:=[116,101,120,116]
def Ql:Str:=[97,110,121]
def afh:Str:=[114,101,102]
def xG:Str:=[99,108,97,115,115]
def aeL:Str:=[101,120,116,101,110,100,115]
def Io:Str:=[114,117,108,101]
def J5:Str:=[113,117,101,114,121]
def SS (kind:Int) (l:List Cd):Cd:= .mk kind [] [] [] [] l [] [] wm [] [] []
def um (k:Nat) (l:List (Str×Ex)):PM (List (Str×Ex)):=fun i o=>
 if(dS T i 1&&bA T (i+1) [63])=true then bnd (qF T) (fun v=>bnd (d9 T [63]) fun _=>ret (l++[(v,wm)])) i o
 else bnd (jw T k) (fun e=>ret (l++[([],e)])) i o
def Uh (k:Nat):PM Cd:=bnd (iD T) fun nm=>bnd (fB T [40]) fun _=>bnd (iQ T [41] (um T k) k []) fun l=>ret (.mk 9 [] [] [] [] [] [] [] wm [] nm l)
def qN (k:Nat) (s:List (Str×Str)×List Ex):PM (List (Str×Str)×List Ex):=fun i o=>
 if(dS T i 1&&bA T (i+1) [58])=true then bnd (qF T) (fun v=>bnd (d9 T [58]) fun _=>bnd (iD T) fun f=>ret (s.1++[(v,f)],s.2)) i o
 else bnd (jw T k) (fun e=>ret (s.1,s.2++[e])) i o
def mQ (k:Nat) (v:Str):PM Cd:=bnd (iD T) fun c=>bnd (fB T [40]) fun _=>bnd (iQ T [41] (qN T k) k ([],[])) fun s=>ret (.mk 1 v c s.1 s.2 [] [] [] wm [] [] [])
def SL (k:Nat):PM Cd:=fun i o=>
 if dS T i 1=true then bnd (qF T) (fun v=>bnd (d9 T [58]) fun _=>mQ T k v) i o else mQ T k [] i o
mutual
def jG:Nat→List Str→List Cd→PM (List Cd)
 |0,_,_=>tV
 |k+1,ends,acc=>fun i o=>if(ends.any fun w=>bA T i w)=true then .ok acc i o else bnd (vM k) (fun c=>jG k ends (acc++[c])) i o
def jN:Nat→List Str→PM (List Cd)
 |0,_=>tV
 |k+1,ends=>bnd (vM k) fun c=>bnd (jG k ends []) fun l=>ret (c :: l)
def nY:Nat→PM (List Cd)
 |0=>tV
 |k+1=>bnd (fB T [40]) fun _=>bnd (jN k [[41]]) fun l=>bnd (dH T [41]) fun _=>ret l
def uy:Nat→List (List Cd)→PM (List (List Cd))
 |0,_=>tV
 |k+1,acc=>bnd (jN k [Xj,[41]]) fun l=>bnd (fA T Xj) fun b=>if b=true then uy k (acc++[l]) else ret (acc++[l])
def orM:Nat→PM Cd
 |0=>tV
 |k+1=>bnd (fB T [40]) fun _=>bnd (jN k [Xj,[41]]) fun l=>bnd (d9 T Xj) fun _=>bnd (uy k [l]) fun a=>bnd (dH T [41]) fun _=>ret (.mk 5 [] [] [] [] [] [] a wm [] [] [])
def NS:Nat→PM Cd
 |0=>tV
 |k+1=>bnd (fB T [40]) fun _=>bnd (qF T) fun v=>bnd (d9 T [58]) fun _=>bnd (fA T vG) fun b=>bnd (if b=true then ret vG else iD T) fun fn=>
   bnd (fB T [40]) fun _=>bnd (jw T k) fun e=>bnd (dH T [41]) fun _=>bnd (d9 T ahm) fun _=>bnd (jN k [[41]]) fun l=>bnd (dH T [41]) fun _=>ret (.mk 7 v [] [] [] l [] [] e fn [] [])
def vM:Nat→PM Cd
 |0=>tV
 |k+1=>fun i o=>
  if bA T i WH=true then bnd (nY k) (fun l=>ret (SS 2 l)) (i+1) o
  else if bA T i xg=true then bnd (nY k) (fun l=>ret (SS 3 l)) (i+1) o
  else if bA T i xR=true then bnd (fB T [40]) (fun _=>bnd (jN k [[59]]) fun l=>bnd (d9 T [59]) fun _=>bnd (jN k [[41]]) fun m=>bnd (dH T [41]) fun _=>ret (.mk 4 [] [] [] [] l m [] wm [] [] [])) (i+1) o
  else if bA T i [40]=true then orM k i o
  else if bA T i MX=true then bnd (fB T [40]) (fun _=>bnd (jw T k) fun e=>bnd (dH T [41]) fun _=>ret (.mk 8 [] [] [] [] [] [] [] e [] [] [])) (i+1) o
  else if bA T i Wj=true then NS k (i+1) o
  else if bA T i [63]=true then Uh T k (i+1) o
  else if(dS T i 1&& !bA T (i+1) [58])=true then bnd (qF T) (fun v=>bnd (d9 T acJ) fun _=>bnd (jw T k) fun e=>ret (.mk 6 v [] [] [] [] [] [] e [] [] [])) i o
  else SL T k i o
end
def jJ (k:Nat) (l:List (Str×Ex)):PM (List (Str×Ex)):=bnd (iD T) fun f=>bnd (d9 T [61]) fun _=>bnd (jw T k) fun e=>ret (l++[(f,e)])
def rG (k:Nat) (least:Bool):PM (List (Str×Ex)):=bnd (fB T [123]) fun _ i o=>
 if least=true then bnd (yK (!bA T i [125])) (fun _=>iQ T [125] (jJ T k) k []) i o else iQ T [125] (jJ T k) k [] i o
def og (a:Act):PM Act:=bnd (d9 T [59]) fun _=>ret a
def Jb (k:Nat):PM Act:=fun i o=>
 if bA T i oI=true∨bA T i iw=true then bnd (Dm T) (fun t=>bnd (iD T) fun c=>bnd (rG T k false) fun l=>og T ⟨if t=iw then 2 else 1,c,l,wm,[]⟩) i o
 else if bA T i u7=true then bnd (jw T k) (fun e=>bnd (rG T k true) fun l=>og T ⟨3,[],l,e,[]⟩) (i+1) o
 else if bA T i uW=true then bnd (jw T k) (fun e=>og T ⟨4,[],[],e,[]⟩) (i+1) o
 else if bA T i zh=true then bnd (jm T) (fun t=>og T ⟨5,[],[],wm,t⟩) (i+1) o
 else if bA T i yF=true then bnd (jw T k) (fun e=>og T ⟨6,[],[],e,[]⟩) (i+1) o
 else bnd (d9 T YI) (fun _=>og T ⟨7,[],[],wm,[]⟩) i o
def Qd:PM Int:=bnd (fA T [45]) fun least i o=>
 if dS T i 2=true then(match pI (txt T i) with
  |some (some n)=>if n≤2147483648 then .ok (if least=true then -n else n) (i+1) o else .fail i
  |_=> .fail i) else .fail i
def oZ:Nat→KR→PM KR
 |0,_=>tV
 |k+1,r=>fun i o=>
  if bA T i KP=true then .ok r (i+1) o
  else if bA T i abm=true then bnd (Qd T) (fun n=>oZ k {r with sal:=n}) (i+1) o
  else if bA T i Fe=true then bnd (jm T) (fun t=>oZ k {r with group:=t}) (i+1) o
  else if bA T i Oa=true then bnd (jm T) (fun t=>oZ k {r with flow:=t}) (i+1) o
  else if bA T i Aa=true then oZ k {r with noloop:=true} (i+1) o
  else bnd (d9 T ag8) (fun _=>oZ k {r with lock:=true}) i o
def wI (k0:Nat):Nat→List Act→PM (List Act)
 |0,_=>tV
 |k+1,acc=>fun i o=>if bA T i Kn=true then .ok acc (i+1) o else bnd (Jb T k0) (fun a=>wI k0 k (acc++[a])) i o
def wF (k:Nat):PM KR:=bnd (jm T) fun nm=>bnd (oZ T k ⟨nm,0,[],[],false,false,[],[]⟩) fun r=>bnd (jG T k [Iq] []) fun w=>bnd (d9 T Iq) fun _=>bnd (wI T k k []) fun t=>ret {r with whn:=w,thn:=t}
def tT (l:List Str):PM (List Str):=bnd (qF T) fun v=>ret (l++[v])
def qG (k:Nat):PM Qry:=bnd (iD T) fun nm=>bnd (fB T [40]) fun _=>bnd (iQ T [41] (tT T) k []) fun ps=>bnd (jG T k [Kn] []) fun w=>bnd (d9 T Kn) fun _=>ret ⟨nm,ps,w⟩
def r9:PM Nw:=bnd (iD T) fun nm=>bnd (d9 T [58]) fun _ i o=>
 if bA T i QH=true then .ok ⟨nm,2,[]⟩ (i+1) o
 else if bA T i DZ=true then .ok ⟨nm,1,[]⟩ (i+1) o
 else if bA T i Ea=true then .ok ⟨nm,3,[]⟩ (i+1) o
 else if bA T i vG=true then .ok ⟨nm,4,[]⟩ (i+1) o
 else if bA T i Ql=true then .ok ⟨nm,0,[]⟩ (i+1) o
 else bnd (d9 T afh) (fun _=>bnd (iD T) fun c=>ret ⟨nm,5,c⟩) i o
def jI:Nat→Bool→List Nw→PM (List Nw)
 |0,_,_=>tV
 |k+1,first,acc=>fun i o=>
  if first=true then(if bA T i [125]=true then .ok acc i o else bnd (r9 T) (fun f=>jI k false (acc++[f])) i o)
  else if bA T i [44]=true then bnd (r9 T) (fun f=>jI k false (acc++[f])) (i+1) o
  else if qP T i=true then bnd (r9 T) (fun f=>jI k false (acc++[f])) i o
  else .ok acc i o
def RI:PM Str:=bnd (fA T aeL) fun b=>if b=true then iD T else ret []
def rZ (k:Nat):PM Cls:=bnd (iD T) fun nm=>bnd (RI T) fun su=>bnd (fB T [123]) fun _=>bnd (jI T k true []) fun fs=>bnd (dH T [125]) fun _=>ret ⟨nm,su,fs⟩
def jB (k0:Nat):Nat→NQ→PM NQ
 |0,_=>tV
 |k+1,b=>fun i o=>
  if i<T.length then
   (if bA T i xG=true then bnd (rZ T k0) (fun c=>jB k0 k {b with classes:=b.classes++[c]}) (i+1) o
   else if bA T i Io=true then bnd (wF T k0) (fun r=>jB k0 k {b with rules:=b.rules++[r]}) (i+1) o
   else bnd (d9 T J5) (fun _=>bnd (qG T k0) fun q=>jB k0 k {b with queries:=b.queries++[q]}) i o)
  else .ok b i o
end
def Post {α:Type} (r:Res α) (k:α→Nat→Int→Prop) (f:Nat→Prop):Prop:=match r with
 | .ok v i o=>k v i o
 | .fail i=>f i
 | .out=>False
theorem aC {α β:Type} {m:PM α} {g:α→PM β} {i:Nat} {o:Int} {k:β→Nat→Int→Prop} {f:Nat→Prop}:Post (bnd m g i o) k f=Post (m i o) (fun v i o=>Post (g v i o) k f) f:=by
 unfold bnd Post;cases m i o<;>rfl
theorem aY {α:Type} {v:α} {i:Nat} {o:Int} {k:α→Nat→Int→Prop} {f:Nat→Prop} (H:k v i o):Post (.ok v i o) k f:=H
theorem Post.mono {α:Type} {r:Res α} {k k':α→Nat→Int→Prop} {f f':Nat→Prop} (H:Post r k f) (hk:∀v i o,k v i o→k' v i o) (hf:∀i,f i→f' i):Post r k' f':=by
 unfold Post at H ⊢;cases r with
 |ok v i o=>exact hk _ _ _ H
 |fail i=>exact hf _ H
 |out=>exact H
theorem Post.eqn {α:Type} {r:Res α} {k:α→Nat→Int→Prop} {f:Nat→Prop} (H:Post r k f):Post r (fun v i o=>r= .ok v i o∧k v i o) f:=by
 unfold Post at H ⊢;cases r with
 |ok v i o=>exact⟨rfl,H⟩
 |fail i=>exact H
 |out=>exact H
def Px (T:List Lx) (en:Nat) (i:Nat):Nat:=match T[i]? with
 |some l=>l.beg
 |none=>en
def flt (T:List Lx) (en:Nat) (i:Nat):AV:= .pan (.ifc 111 (.agg [.int .i64 (Px T en i:Int)]))
def agi (tv:AV) (T:List Lx) (h:ah):Prop:=View h 4 tv (T.map lI)
def PY (mp:Nat) (h:ah):Prop:=∃f:Nat→AV,(∀lv:Nat,lv<5→uH h (.leaf .int) false .jH (.map mp) (.int .i64 (lv:Int))=some (f lv))∧
 ∀(lv:Nat) (t:Str),lv<5→uH h (.leaf .str) true (.int .i64 0) (f lv) (.str t)=some (.tup [.int .i64 ((xQ lv t).getD 0), .bool (xQ lv t).isSome])
def GvF (h:ah):Prop:=h.get 0=some (.gvar 1)
class dN (tv:AV) (mp:Nat) (T:List Lx) (F:List (ah→Prop)):Prop where
 tok:agi tv T∈F
 ops:PY mp∈F
 gv:GvF∈F
instance {tv:AV} {mp:Nat} {T:List Lx} {F:List (ah→Prop)} {R:ah→Prop} [b:dN tv mp T F]:dN tv mp T (R :: F):=⟨List.mem_cons_of_mem _ b.tok,List.mem_cons_of_mem _ b.ops,List.mem_cons_of_mem _ b.gv⟩
@[reducible] def pc (tv:AV) (mp en i:Nat) (o:Int):List AV:=[tv, .int .i64 (i:Int), .int .i64 (en:Int), .int .i64 o, .map mp]
structure dM (T:List Lx) (en i:Nat) (o:Int):Prop where
 len:T.length≤4096
 le:i≤T.length
 lo: -(i:Int)≤o
 hi:o≤30
 Px:∀j,Px T en j<lim
 num:∀l∈T,l.kind=2→(pI l.text).isSome=true∧l.text.length≤1000000∧∀v,pI l.text=some (some v)→0≤v
section
variable {h:ah} {L:gB} {S:List Sl} {F:List (ah→Prop)} {p mp en i n:Nat} {o:Int} {tv:AV} {T:List Lx} {K:aK}
theorem dM.step (s:dM T en i o) (h:i<T.length):dM T en (i+1) o:=⟨s.len,h,by have:=s.lo;omega,s.hi,s.Px,s.num⟩
theorem MZ {i:Nat} {l:Lx} (e:T[i]? =some l):(T.map lI)[i]? =some (lI l):=by rw[List.getElem?_map,e];rfl
def vP (T:List Lx) (i:Nat):List AV:=match T[i]? with
 |some l=>lI l
 |none=>[.int .i64 (-1), .str [], .int .i64 0, .int .i64 0]
def kdI (T:List Lx) (i:Nat):Int:=match T[i]? with
 |some l=>l.kind
 |none=> -1
theorem Hz (T:List Lx) (i:Nat):∃a b:Int,vP T i=[.int .i64 (kdI T i), .str (txt T i), .int .i64 a, .int .i64 b]:=by
 unfold vP kdI txt;cases T[i]? with
 |none=>exact⟨_,_,rfl⟩
 |some l=>exact⟨_,_,rfl⟩
theorem Q8 (T:List Lx) (i k:Nat):decide (kdI T i=(k:Int))=dS T i k:=by
 unfold kdI dS;cases T[i]? with
 |none=>exact decide_eq_false (by show ¬((-1:Int)=(k:Int));omega)
 |some l=>show decide ((l.kind:Int)=(k:Int))=decide (l.kind=k);rw[decide_eq_decide];omega
theorem U2 [b:dN tv mp T F] (hn:2≤n) {d:Nat} (hd:d≤1) (A:Cx h (vr p (pc tv mp en i o) :: L) S F) (s:dM T en i o)
 (H:∀h,Cx h (vr p (pc tv mp en i o) :: L) S F→K (.agg (vP T (i+d))) h=true):ak E n (.func 71) [.ptr p 0 0 0, .int .i64 (d:Int)] h K=true:=by
 obtain⟨n,rfl⟩:∃m,n=m+1:=⟨n-1,by omega⟩;have hl:=s.len;have hi:=s.le;have hlim:lim=4611686018427387904:=rfl;apply d71;unfold s71;refine bO A rfl rfl rfl fun id h A=>have V:View h 4 tv (T.map lI):=A.fact b.tok;?_
 repeat first |(with_reducible first |refine eB ?_ |refine ay ?_ |refine fT ?_ |refine aJ A.var rfl ?_)|refine uj (show i+d≤lim by omega) ?_ |refine dZ V ?_
 rw[List.length_map];cases hc:decide (i+d<T.length) with
 |false=>
  have hc:T.length≤i+d:=by simpa using hc
  have e:T[i+d]? =none:=List.getElem?_eq_none hc;refine bE (dO rfl<|yj A rfl rfl rfl rfl fun h A=>adg A.v1 rfl ?_);have:=H h A.aZ;unfold vP at this;rw[e] at this;exact this
 |true=>
  have hc:i+d<T.length:=by simpa using hc
  have e:T[i+d]? =some T[i+d]:=List.getElem?_eq_getElem hc
  repeat first |(with_reducible first |refine eB ?_ |refine ay ?_ |refine bN ?_ |refine aJ A.var rfl ?_)|refine uj (show i+d≤lim by omega) ?_
  refine Fu V (MZ e) fun id g j ld=>vF (ld true 0 4)<|yj A rfl rfl rfl rfl fun h A=>adg A.v1 rfl ?_;have:=H h A.aZ;unfold vP at this;rw[e] at this;exact this
end
section
variable {h:ah} {L:gB} {S:List Sl} {F:List (ah→Prop)} {p mp en i n:Nat} {o:Int} {tv:AV} {T:List Lx} {K:aK}
theorem sS:lim=4611686018427387904:=rfl
theorem dkN (k j:Nat):decide ((k:Int)=(j:Int))=decide (k=j):=by rw[decide_eq_decide];omega
theorem dk4 (k:Nat):decide ((k:Int)=4)=decide (k=4):=dkN k 4
theorem dk0 (k:Nat):decide ((k:Int)=0)=decide (k=0):=dkN k 0
theorem dk2 (k:Nat):decide ((k:Int)=2)=decide (k=2):=dkN k 2
noncomputable def kch (x:AV) (h:ah) (K:aK):Str→List Str→Bool
 |t,[]=>dQ x (.str t) fun v=>aH v (K (.bool true) h) (K (.bool false) h)
 |t,u :: l=>dQ x (.str t) fun v=>aH v (aH v (K (.bool true) h) (K (.bool false) h)) (kch x h K u l)
theorem aeJ {s:Str} {h:ah} {K:aK}:∀(t:Str) (l:List Str),K (.bool ((t :: l).any fun t=>decide (s=t))) h=true→kch (.str s) h K t l=true
 |t,[],H=>by
  unfold kch;refine DT ?_;simp only[List.any_cons,List.any_nil,Bool.or_false] at H;cases hc:decide (s=t) with
  |true=>rw[hc] at H;exact bN H
  |false=>rw[hc] at H;exact bE H
 |t,u :: l,H=>by
  unfold kch;refine DT ?_;rw[List.any_cons] at H;cases hc:decide (s=t) with
  |true=>rw[hc,Bool.true_or] at H;exact bN (bN H)
  |false=>rw[hc,Bool.false_or] at H;exact bE (aeJ u l H)
theorem akF (hn:1≤n) {s:Str} (H:K (.bool (aie s)) h=true):ak E n (.func 72) [.str s] h K=true:=by
 obtain⟨n,rfl⟩:∃m,n=m+1:=⟨n-1,by omega⟩;apply d72;exact aeJ _ keys.tail H
theorem abJ [b:dN tv mp T F] (hn:1≤n) (A:Cx h (vr p (pc tv mp en i o) :: L) S F) (s:dM T en i o) (H:K (.int .i64 (Px T en i:Int)) h=true):ak E n (.func 70) [.ptr p 0 0 0] h K=true:=by
 obtain⟨n,rfl⟩:∃m,n=m+1:=⟨n-1,by omega⟩;apply d70;unfold s70;have V:View h 4 tv (T.map lI):=A.fact b.tok
 repeat first |(with_reducible first |refine eB ?_ |refine ay ?_ |refine fT ?_ |refine aJ A.var rfl ?_)|refine dZ V ?_
 rw[List.length_map];unfold Px at H;cases hc:decide (i<T.length) with
 |false=>
  have hc:T.length≤i:=by simpa using hc
  rw[List.getElem?_eq_none hc] at H;exact bE<|eB<|ay<|aJ A.var rfl<|H
 |true=>
  have hc:i<T.length:=by simpa using hc
  have e:T[i]? =some T[i]:=List.getElem?_eq_getElem hc;rw[e] at H
  repeat first |(with_reducible first |refine eB ?_ |refine ay ?_ |refine bN ?_ |refine aJ A.var rfl ?_)
  exact Fu V (MZ e) fun id g j ld=>ay (aU (ld false 2 1)<|H)
theorem ajH {x:Nat} (hn:1≤n) (H:K (flt T en x) h=true):ak E n (.func 69) [.int .i64 (Px T en x:Int)] h K=true:=by
 obtain⟨n,rfl⟩:∃m,n=m+1:=⟨n-1,by omega⟩;apply d69;unfold s69;exact dO rfl<|H
def FK (K:aK) (p mp en:Nat) (tv:AV) (T:List Lx) (L:gB) (S:List Sl) (F:List (ah→Prop)):Nat→Prop:=fun x=>∀h i o,Cx h (vr p (pc tv mp en i o) :: L) S F→K (flt T en x) h=true
def VO {α:Type} (K:aK) (f:α→AV) (p mp en:Nat) (tv:AV) (T:List Lx) (L:gB) (S:List Sl) (F:List (ah→Prop)):α→Nat→Int→Prop:=fun v i o=>∀h,Cx h (vr p (pc tv mp en i o) :: L) S F→dM T en i o→K (f v) h=true
theorem FK.pz {K k:aK} {L S F} {x:Nat} (f:FK K p mp en tv T L S F x):FK (pz K k) p mp en tv T L S F x:=fun h i o A=>f h i o A
def vU:Unit→AV:=fun _=> .tup []
theorem yB [b:dN tv mp T F] (hn:3≤n) {c:Bool} (A:Cx h (vr p (pc tv mp en i o) :: L) S F) (s:dM T en i o)
 (H:Post (yK c i o) (VO K vU p mp en tv T L S F) (FK K p mp en tv T L S F)):ak E n (.func 52) [.ptr p 0 0 0, .bool c] h K=true:=by
 obtain⟨n,rfl⟩:∃m,n=m+1:=⟨n-1,by omega⟩;apply d52;unfold s52;refine L8 ?_;cases c with
 |true=>exact bE (H h A s)
 |false=>
  exact bN (abJ (by omega) A s (aD rfl<|ajH (by omega) (FK.pz (show FK K p mp en tv T L S F i from H) h i o A)))
theorem Dc [b:dN tv mp T F] (hn:3≤n) {d:Nat} (hd:d≤1) {w:Str} (hw:w≠[]) (A:Cx h (vr p (pc tv mp en i o) :: L) S F) (s:dM T en i o)
 (H:∀h,Cx h (vr p (pc tv mp en i o) :: L) S F→K (.bool (bA T (i+d) w)) h=true):ak E n (.func 53) [.ptr p 0 0 0, .int .i64 (d:Int), .str w] h K=true:=by
 obtain⟨n,rfl⟩:∃m,n=m+1:=⟨n-1,by omega⟩;apply d53;unfold s53;refine U2 (by omega) hd A s fun h A=>aD rfl<|bO A rfl rfl rfl fun id h A=> ?_;unfold bA at H;unfold vP;cases e:T[i+d]? with
 |none=>
  simp only[e] at H;refine yj A rfl rfl rfl rfl fun h A=>ay (aJ A.v1 rfl (DT ?_));rw[show decide (([]:Str)=w)=false from decide_eq_false fun q=>hw q.symm]
  repeat first |(with_reducible first |refine eZ ?_ |refine oh ?_ |refine zM ?_)
  unfold uQ;exact oh<|eZ<|gD<|H h A.aZ
 |some l=>
  simp only[e] at H;refine yj A rfl rfl rfl rfl fun h A=>ay (aJ A.v1 rfl (DT ?_));cases h1:decide (l.text=w) with
  |false=>
   simp only[h1,Bool.false_and] at H
   repeat first |(with_reducible first |refine eZ ?_ |refine oh ?_ |refine zM ?_)
   unfold uQ;exact oh<|eZ<|gD<|H h A.aZ
  |true=>
   simp only[h1,Bool.true_and] at H
   repeat first |(with_reducible first |refine ay ?_ |refine bU ?_ |refine cO ?_ |refine kQ ?_ |refine aJ A.v1 rfl ?_)
   rw[dk4];cases h2:decide (l.kind=4) with
   |true=>
    simp only[h2,Bool.true_or] at H
    repeat first |(with_reducible first |refine eD ?_ |refine oh ?_ |refine zM ?_)
    unfold uQ;exact eD<|cO<|fH<|fH<|H h A.aZ
   |false=>
    simp only[h2,Bool.false_or] at H
    repeat first |(with_reducible first |refine ay ?_ |refine bU ?_ |refine dx ?_ |refine kQ ?_ |refine aJ A.v1 rfl ?_)
    rw[dk0];cases h3:decide (l.kind=0) with
    |false=>
     simp only[h3,Bool.false_and] at H;exact eZ<|sK<|dx<|gD<|cO<|gD<|fH<|H h A.aZ
    |true=>
     simp only[h3,Bool.true_and] at H;exact cO<|bU<|iU<|akF (by omega) (aD rfl<|dx<|fH<|cO<|gD<|fH<|H h A.aZ)
theorem ado {T:List Lx} {i:Nat} {w:Str} (h:bA T i w=true):i<T.length:=by
 unfold bA at h;split at h
 ·cases h
 ·rename_i l e;exact(List.getElem?_eq_some_iff.1 e).1
theorem uO {T:List Lx} {i k:Nat} (h:dS T i k=true):i<T.length:=by
 unfold dS at h;split at h
 ·cases h
 ·rename_i l e;exact(List.getElem?_eq_some_iff.1 e).1
theorem aa8 {T:List Lx} {i:Nat} (h:qP T i=true):i<T.length:=by
 unfold qP at h;split at h
 ·cases h
 ·rename_i l e;exact(List.getElem?_eq_some_iff.1 e).1
theorem lF [b:dN tv mp T F] (hn:4≤n) {w:Str} (hw:w≠[]) (A:Cx h (vr p (pc tv mp en i o) :: L) S F) (s:dM T en i o)
 (H:Post (fA T w i o) (VO K .bool p mp en tv T L S F) (fun _=>True)):ak E n (.func 36) [.ptr p 0 0 0, .str w] h K=true:=by
 obtain⟨n,rfl⟩:∃m,n=m+1:=⟨n-1,by omega⟩;apply d36;unfold s36;refine Dc (d:=0) (by omega) (by omega) hw A s fun h A=>aD rfl ?_;unfold KJ;unfold fA at H;have hl:=s.len;have hlim:=sS;rw[Nat.add_zero];cases e:bA T i w with
 |false=>
  rw[if_neg (by rw[e];simp)] at H;exact fM<|bN<|H h A s
 |true=>
  rw[if_pos e] at H;exact have hlt:i<T.length:=ado e;fP<|bE<|eB<|ay<|aJ A.var rfl<|gZ (show i+1≤lim by omega)<|eB<|ay<|sD A rfl rfl fun h A=>H h A (s.step hlt)
theorem Xf [b:dN tv mp T F] (hn:3≤n) {k:Nat} (A:Cx h (vr p (pc tv mp en i o) :: L) S F) (s:dM T en i o)
 (H:∀h,Cx h (vr p (pc tv mp en i o) :: L) S F→K (.bool (dS T i k)) h=true):ak E n (.func 75) [.ptr p 0 0 0, .int .i64 (k:Int)] h K=true:=by
 obtain⟨n,rfl⟩:∃m,n=m+1:=⟨n-1,by omega⟩;apply d75;unfold s75;refine U2 (d:=0) (by omega) (by omega) A s fun h A=>aD rfl ?_;unfold Kh;have H:=H h A;unfold dS at H;unfold vP;rw[Nat.add_zero];cases e:T[i]? with
 |none=>
  simp only[e] at H;refine UE rfl (kQ ?_);rw[show decide ((-1:Int)=(k:Int))=false from decide_eq_false (by omega)]
  exact H
 |some l=>
  simp only[e] at H;refine UE rfl (kQ ?_);rw[dkN];exact H
theorem aco [b:dN tv mp T F] (hn:1≤n) (hi:i<T.length) (A:Cx h (vr p (pc tv mp en i o) :: L) S F) (s:dM T en i o)
 (H:VO K .str p mp en tv T L S F (txt T i) (i+1) o):ak E n (.func 73) [.ptr p 0 0 0] h K=true:=by
 obtain⟨n,rfl⟩:∃m,n=m+1:=⟨n-1,by omega⟩;apply d73;unfold s73;have hl:=s.len;refine have hlim:=sS;eB<|ay<|aJ A.var rfl<|gZ (show i+1≤lim by omega)<|eB<|ay<|sD A rfl rfl fun h A=>have V:View h 4 tv (T.map lI):=A.fact b.tok;?_
 have e:T[i]? =some T[i]:=List.getElem?_eq_getElem hi
 repeat first |(with_reducible first |refine eB ?_ |refine ay ?_ |refine aJ A.var rfl ?_)
 refine Hg (by omega) (by omega) ?_;rw[show((i+1:Nat):Int)-1=(i:Int) by omega];refine Fu V (MZ e) fun id g j ld=>ay (aU (ld false 1 1) ?_);have:=H h A (s.step hi);unfold txt at this;rw[e] at this;exact this
theorem akb [b:dN tv mp T F] (hn:3≤n) (A:Cx h (vr p (pc tv mp en i o) :: L) S F) (s:dM T en i o)
 (H:∀h,Cx h (vr p (pc tv mp en i o) :: L) S F→K (.bool (qP T i)) h=true):ak E n (.func 56) [.ptr p 0 0 0, .int .i64 0] h K=true:=by
 obtain⟨n,rfl⟩:∃m,n=m+1:=⟨n-1,by omega⟩;apply d56;unfold s56;refine U2 (d:=0) (by omega) (by omega) A s fun h A=>aD rfl<|bO A rfl rfl rfl fun id h A=> ?_;unfold qP at H;unfold vP;rw[Nat.add_zero];cases e:T[i]? with
 |none=>
  simp only[e] at H;refine yj A rfl rfl rfl rfl fun h A=>ay (aJ A.v1 rfl (kQ ?_));rw[show decide ((-1:Int)=0)=false from rfl]
  exact eZ<|eZ<|sK<|eZ<|gD<|H h A.aZ
 |some l=>
  simp only[e] at H;refine yj A rfl rfl rfl rfl fun h A=>ay (aJ A.v1 rfl (kQ ?_));rw[dk0];cases h1:decide (l.kind=0) with
  |false=>
   simp only[h1,Bool.false_and] at H;exact eZ<|eZ<|sK<|eZ<|gD<|H h A.aZ
  |true=>
   simp only[h1,Bool.true_and] at H;exact cO<|ay<|cO<|aJ A.v1 rfl<|iU<|akF (by omega) (aD rfl<|cO<|L8<|fH<|H h A.aZ)
end
section
variable {h:ah} {L:gB} {S:List Sl} {F:List (ah→Prop)} {p mp en i n:Nat} {o:Int} {tv:AV} {T:List Lx} {K Q k:aK}
theorem FK.drop {R:ah→Prop} {x:Nat} (H:FK K p mp en tv T L S F x):FK K p mp en tv T L S (R :: F) x:=fun h i o A=>H h i o A.dJ
theorem FK.rest {e:Nat×fC} {x:Nat} (H:FK K p mp en tv T L S F x):FK K p mp en tv T (e :: L) S F x:=fun h i o A=>H h i o A.aZ
theorem FK.pz' {x:Nat} (H:FK Q p mp en tv T L S F x):FK (Go.Ab.pz Q k) p mp en tv T L S F x:=fun h i o A=>H h i o A
theorem rQ {l:Lx} (e:T[i]? =some l):txt T i=l.text:=by unfold txt;rw[e]
theorem EZ [b:dN tv mp T F] (hn:6≤n) (A:Cx h (vr p (pc tv mp en i o) :: L) S F) (s:dM T en i o)
 (H:Post (iD T i o) (VO K .str p mp en tv T L S F) (FK K p mp en tv T L S F)):ak E n (.func 54) [.ptr p 0 0 0] h K=true:=by
 obtain⟨n,rfl⟩:∃m,n=m+1:=⟨n-1,by omega⟩;apply d54;unfold s54;refine akb (by omega) A s fun h A=>aD rfl ?_;unfold Km;unfold iD at H;cases e:qP T i with
 |false=>
  rw[if_neg (by rw[e];simp)] at H;exact eZ<|sK<|eZ<|eZ<|eZ<|gD<|yB (by omega) A s (FK.pz' H)
 |true=>
  have hi:=aa8 e;have e1:T[i]? =some T[i]:=List.getElem?_eq_getElem hi;rw[e,Bool.true_and] at H;refine cO<|bU<|iU<|U2 (d:=0) (by omega) (by omega) A s fun h A=>aD rfl ?_;unfold Eo;unfold vP;rw[Nat.add_zero,e1];refine cO<|UE rfl<|cO<|ql<|cO<|Ij<|fH ?_;rw[rQ e1] at H;rw[show decide (((T[i]).text.length:Int)≤64)=decide ((T[i]).text.length≤64) from by rw[decide_eq_decide];omega]
  cases e2:decide ((T[i]).text.length≤64) with
  |false=>
   rw[if_neg (by rw[e2];simp)] at H;exact yB (by omega) A s (FK.pz' H)
  |true=>
   rw[if_pos e2] at H;refine yB (by omega) A s (show VO _ _ _ _ _ _ _ _ _ _ () i o from fun h A s=>aD rfl<|aco (by omega) hi A s fun h A s=>aD rfl ?_)
   rw[rQ e1];exact H h A s
theorem Xi [b:dN tv mp T F] (hn:6≤n) (A:Cx h (vr p (pc tv mp en i o) :: L) S F) (s:dM T en i o)
 (H:Post (qF T i o) (VO K .str p mp en tv T L S F) (FK K p mp en tv T L S F)):ak E n (.func 65) [.ptr p 0 0 0] h K=true:=by
 obtain⟨n,rfl⟩:∃m,n=m+1:=⟨n-1,by omega⟩;apply d65;unfold s65;refine Xf (k:=1) (by omega) A s fun h A=>aD rfl ?_;unfold L9;unfold qF at H;cases e:dS T i 1 with
 |false=>
  rw[if_neg (by rw[e];simp)] at H;exact eZ<|sK<|eZ<|eZ<|eZ<|gD<|yB (by omega) A s (FK.pz' H)
 |true=>
  have hi:=uO e;have e1:T[i]? =some T[i]:=List.getElem?_eq_getElem hi;rw[e,Bool.true_and] at H;refine cO<|bU<|iU<|U2 (d:=0) (by omega) (by omega) A s fun h A=>aD rfl ?_;unfold Dx;unfold vP;rw[Nat.add_zero,e1];refine cO<|UE rfl<|cO<|ql<|cO<|Ij<|fH ?_;rw[rQ e1] at H;rw[show decide (((T[i]).text.length:Int)≤64)=decide ((T[i]).text.length≤64) from by rw[decide_eq_decide];omega]
  cases e2:decide ((T[i]).text.length≤64) with
  |false=>
   rw[if_neg (by rw[e2];simp)] at H;exact yB (by omega) A s (FK.pz' H)
  |true=>
   rw[if_pos e2] at H;refine yB (by omega) A s (show VO _ _ _ _ _ _ _ _ _ _ () i o from fun h A s=>aD rfl<|aco (by omega) hi A s fun h A s=>aD rfl ?_)
   rw[rQ e1];exact H h A s
theorem agI [b:dN tv mp T F] (hn:5≤n) (A:Cx h (vr p (pc tv mp en i o) :: L) S F) (s:dM T en i o)
 (H:Post (jm T i o) (VO K .str p mp en tv T L S F) (FK K p mp en tv T L S F)):ak E n (.func 59) [.ptr p 0 0 0] h K=true:=by
 obtain⟨n,rfl⟩:∃m,n=m+1:=⟨n-1,by omega⟩;apply d59;unfold s59;refine Xf (k:=3) (by omega) A s fun h A=>aD rfl ?_;unfold JI;unfold jm at H;cases e:dS T i 3 with
 |false=>
  rw[if_neg (by rw[e];simp)] at H;exact yB (by omega) A s (FK.pz' H)
 |true=>
  have hi:=uO e;rw[if_pos e] at H;exact yB (by omega) A s (show VO _ _ _ _ _ _ _ _ _ _ () i o from fun h A s=>aD rfl<|aco (by omega) hi A s fun h A s=>aD rfl<|H h A s)
theorem aqA [b:dN tv mp T F] (hn:6≤n) {w:Str} {v:AV} (hw:w≠[]) (hv:(fun h=>View h 1 v [[.str w]])∈F) (A:Cx h (vr p (pc tv mp en i o) :: L) S F) (s:dM T en i o)
 (H:Post (d9 T w i o) (VO K vU p mp en tv T L S F) (FK K p mp en tv T L S F)):ak E n (.func 39) [.ptr p 0 0 0,v] h K=true:=by
 obtain⟨n,rfl⟩:∃m,n=m+1:=⟨n-1,by omega⟩;obtain⟨n,rfl⟩:∃m,n=m+1:=⟨n-1,by omega⟩;obtain⟨n,rfl⟩:∃m,n=m+1:=⟨n-1,by omega⟩;apply d39;unfold s39;refine dZ (A.fact hv) ?_;show Pg _ _ _ _ _ _ _ _ _=true;rw[aan];unfold UL;refine mP<|bN (Fu (i:=0) (A.fact hv) rfl fun id g j ld=>aU (ld false 0 1) ?_);unfold d9 at H;rw[aC] at H;refine lF (by omega) hw A s<|Post.mono H ?_ fun _ _=>trivial;refine fun c i o H h A s=>aD rfl<|yB (by omega) A s (Post.mono H ?_ fun x f=>FK.pz' f);refine fun u i o H h A s=>aD rfl (gZ (x:=0) (by decide) ?_);show Pg _ _ _ _ _ _ _ _ _=true;rw[aan];unfold UL;exact mP (bE<|H h A s)
theorem lg [b:dN tv mp T F] (hn:6≤n) {w:Str} (hw:w≠[]) (A:Cx h (vr p (pc tv mp en i o) :: L) S F) (s:dM T en i o)
 (H:Post (d9 T w i o) (fun _ i o=>∀h,Cx h (vr p (pc tv mp en i o) :: L) S F→dM T en i o→k (.tup []) h=true) (FK Q p mp en tv T L S F)):
 aQ (aO h 1 1 [.str []] [(0, .str w)]) (fun v h=>ak E n (.func 39) [.ptr p 0 0 0,v] h (pz Q k))=true:=by
 refine iM A rfl rfl rfl rfl rfl rfl fun v h A _=>aqA hn hw (List.mem_cons_self) A s (Post.mono H ?_ fun x f=>FK.pz' (FK.drop f));exact fun u i o H h A s=>aD rfl (H h A.dJ s)
theorem VJ {w:Str}:d9 T w i o=if bA T i w=true then .ok () (i+1) o else .fail i:=by
 unfold d9 bnd fA yK;cases bA T i w<;>rfl
theorem alv [b:dN tv mp T F] (hn:2≤n) {x:Nat} (A:Cx h (vr p (pc tv mp en i o) :: L) S F) (s:dM T en i o)
 (H:Post (jc x i o) (VO K vU p mp en tv T L S F) (FK K p mp en tv T L S F)):ak E n (.func 74) [.ptr p 0 0 0, .int .i64 (Px T en x:Int)] h K=true:=by
 obtain⟨n,rfl⟩:∃m,n=m+1:=⟨n-1,by omega⟩;apply d74;unfold s74;have h1:=s.lo;have h2:=s.hi;have h3:=s.le;refine have h4:=s.len;eB<|ay<|aJ A.var rfl<|ahv ?_
 rw[wrap64 (by omega) (by omega)];refine eB<|ay<|sD A rfl rfl fun h A=>eB<|ay<|aJ A.var rfl<|yh ?_;unfold jc at H;cases e:decide (30<o+1) with
 |true=>
  rw[if_pos (of_decide_eq_true e)] at H;exact bN<|ajH (by omega) (FK.pz (show FK K p mp en tv T L S F x from H) h i (o+1) A)
 |false=>
  have e:=of_decide_eq_false e;rw[if_neg e] at H;exact bE<|H h A ⟨s.len,s.le,by omega,by omega,s.Px,s.num⟩
theorem Cu [b:dN tv mp T F] (hn:8≤n) {w:Str} (hw:w≠[]) (A:Cx h (vr p (pc tv mp en i o) :: L) S F) (s:dM T en i o)
 (H:Post (fB T w i o) (VO K vU p mp en tv T L S F) (FK K p mp en tv T L S F)):ak E n (.func 55) [.ptr p 0 0 0, .str w] h K=true:=by
 obtain⟨n,rfl⟩:∃m,n=m+1:=⟨n-1,by omega⟩;apply d55;unfold s55;refine abJ (by omega) A s (aD rfl ?_);unfold fB at H;rw[aC] at H;refine lg (by omega) hw A s (Post.mono H ?_ fun x f=>f);refine fun u i' o H h A s=>alv (by omega) A s (Post.mono H ?_ fun x f=>FK.pz' f);exact fun u i o H h A s=>aD rfl (H h A s)
theorem Ls [b:dN tv mp T F] (hn:8≤n) {w:Str} (hw:w≠[]) (A:Cx h (vr p (pc tv mp en i o) :: L) S F) (s:dM T en i o)
 (H:Post (dH T w i o) (VO K vU p mp en tv T L S F) (FK K p mp en tv T L S F)):ak E n (.func 58) [.ptr p 0 0 0, .str w] h K=true:=by
 obtain⟨n,rfl⟩:∃m,n=m+1:=⟨n-1,by omega⟩;apply d58;unfold s58;unfold dH at H;rw[aC] at H;rw[VJ] at H;refine lg (by omega) hw A s ?_;rw[VJ];have h1:=s.lo;have h2:=s.hi;have h3:=s.le;have h4:=s.len;cases e:bA T i w with
 |false=>rw[if_neg (by rw[e];simp)] at H;exact H
 |true=>
  rw[if_pos e] at H;rw[if_pos rfl];exact aY<|fun h A s'=>eB<|ay<|aJ A.var rfl<|Hg (by omega) (by omega)<|eB<|ay<|sD A rfl rfl fun h A=>H h A ⟨s.len,s'.le,by omega,by omega,s.Px,s.num⟩
end
mutual
def RW (h:ah):List AV→Val→Prop
 |a, .mk k b n t l=>∃lv es,a=[.int .i64 k, .bool b, .int .i64 n, .str t,lv]∧View h 5 lv es∧BL h es l
def BL (h:ah):List (List AV)→List Val→Prop
 |es,[]=>es=[]
 |es,v :: l=>∃e r,es=e :: r∧RW h e v∧BL h r l
end
mutual
def RE (h:ah):List AV→Ex→Prop
 |a, .mk op t v l=>∃cv va es,a= .int .i64 op :: .str t :: (cv++[va])∧RW h cv v∧View h 8 va es∧mH h es l
def mH (h:ah):List (List AV)→List Ex→Prop
 |es,[]=>es=[]
 |es,e :: l=>∃c r,es=c :: r∧RE h c e∧mH h r l
end
def RB (h:ah) (c:List AV) (b:Bt):Prop:=∃ce,c=ce++[.int .i64 (b.deep:Int)]∧RE h ce b.e
def D9 (h:ah):List (List AV)→List Bt→Prop
 |es,[]=>es=[]
 |es,b :: l=>∃c r,es=c :: r∧RB h c b∧D9 h r l
section
variable {h:ah} {L:gB} {S:List Sl} {F:List (ah→Prop)} {p mp en i n:Nat} {o:Int} {tv:AV} {T:List Lx} {K Q k:aK}
theorem aF {a:AV} {l:List AV} (h1:a.leaf=true) (h2:aB l=true):aB (a :: l)=true:=by simp only[aB,h1,cond_true,h2]
theorem gL {l m:List AV} (h1:aB l=true) (h2:aB m=true):aB (l++m)=true:=by
 induction l with
 |nil=>exact h2
 |cons a l ih=>
  simp only[aB] at h1;cases hl:a.leaf with
  |false=>rw[hl] at h1;cases h1
  |true=>rw[hl,cond_true] at h1;exact aF hl (ih h1)
theorem RW.cells {a:List AV} {v:Val} (R:RW h a v):a.length=5∧aB a=true∧uD a:=by
 have⟨k,b,n,t,l⟩:=v;simp only[RW] at R;obtain⟨lv,es,rfl,V,_⟩:=R;refine⟨rfl, ?_, .cons (.int _ _) (.cons (.bool _) (.cons (.int _ _) (.cons (.str _) (.cons V.iW .nil))))⟩;exact aF rfl (aF rfl (aF rfl (aF rfl (aF V.leaf rfl))))
theorem RE.cells {a:List AV} {e:Ex} (R:RE h a e):a.length=8∧aB a=true∧uD a:=by
 have⟨op,t,v,l⟩:=e;simp only[RE] at R;obtain⟨cv,va,es,rfl,W,V,_⟩:=R;refine have⟨w1,w2,w3⟩:=W.cells;⟨by simp[w1], ?_, .cons (.int _ _) (.cons (.str _) (w3.app (.cons V.iW .nil)))⟩
 exact aF rfl (aF rfl (gL w2 (aF V.leaf rfl)))
theorem RB.cells {a:List AV} {b:Bt} (R:RB h a b):a.length=9∧aB a=true∧uD a:=by
 obtain⟨ce,rfl,R⟩:=R;exact have⟨w1,w2,w3⟩:=R.cells;⟨by simp[w1],gL w2 rfl,w3.app (.cons (.int _ _) .nil)⟩
theorem D9.get {es:List (List AV)} {l:List Bt} (R:D9 h es l):es.length=l.length∧∀(j:Nat) (b:Bt),l[j]? =some b→∃c,es[j]? =some c∧RB h c b:=by
 induction l generalizing es with
 |nil=>simp only[D9] at R;subst R;exact⟨rfl,fun j b e=>by simp at e⟩
 |cons b l ih=>
  simp only[D9] at R;obtain⟨c,r,rfl,R1,R2⟩:=R;refine have⟨i1,i2⟩:=ih R2;⟨by simp[i1],fun j b' e=> ?_⟩
  cases j with
  |zero=>simp at e;subst e;exact⟨c,by simp,R1⟩
  |succ j=>simp at e ⊢;exact i2 j b' e
theorem D9.exs {es:List (List AV)} {l:List Bt} (R:D9 h es l):mH h (es.map (·.take 8)) (l.map Bt.e):=by
 induction l generalizing es with
 |nil=>simp only[D9] at R;subst R;simp[mH]
 |cons b l ih=>
  simp only[D9] at R;obtain⟨c,r,rfl,⟨ce,rfl,R1⟩,R2⟩:=R;simp only[List.map_cons,mH];refine⟨_,_,rfl, ?_,ih R2⟩;have:=R1.cells.1;rw[List.take_append_of_le_length (by omega),List.take_of_length_le (by omega)];exact R1
theorem D9.app {es es':List (List AV)} {l l':List Bt} (R:D9 h es l) (R':D9 h es' l'):D9 h (es++es') (l++l'):=by
 induction l generalizing es with
 |nil=>simp only[D9] at R;subst R;exact R'
 |cons b l ih=>
  simp only[D9] at R;obtain⟨c,r,rfl,R1,R2⟩:=R;exact⟨c,r++es',rfl,R1,ih R2⟩
theorem D9.one {c:List AV} {b:Bt} (R:RB h c b):D9 h [c] [b]:=⟨c,[],rfl,R,rfl⟩
@[reducible] def Z8:List AV:=[.int .i64 0, .str [], .int .i64 0, .bool false, .int .i64 0, .str [], .au, .au]
@[reducible] def Z9:List AV:=[.int .i64 0, .str [], .int .i64 0, .bool false, .int .i64 0, .str [], .au, .au, .int .i64 0]
@[reducible] def cEx (op:Int) (t:Str):List AV:=[.int .i64 op, .str t, .int .i64 0, .bool false, .int .i64 0, .str [], .au, .au]
theorem RW.zero:RW h [.int .i64 0, .bool false, .int .i64 0, .str [], .au] NJ:=by
 simp only[NJ,RW];exact⟨.au,[],rfl,View.nil h 5,by simp[BL]⟩
theorem RE.op (op:Int) (t:Str):RE h (cEx op t) (jr op t):=by
 simp only[jr,RE];exact⟨_, .au,[],rfl,RW.zero,View.nil h 8,by simp[mH]⟩
theorem Qv (d:Nat) (l:List Bt) (b:Bt):kV d (l++[b])=max (kV d l) (b.deep+1):=by
 induction l generalizing d with
 |nil=>rfl
 |cons a l ih=>exact ih _
theorem RE.made {op:Int} {t:Str} {va:AV} {ea:List (List AV)} {l:List Ex} (V:View h 8 va ea) (R:mH h ea l):
 RE h [.int .i64 op, .str t, .int .i64 0, .bool false, .int .i64 0, .str [], .au,va] ((jr op t).add l):=by
 simp only[jr,Ex.add,RE,List.nil_append];exact⟨_,va,ea,rfl,RW.zero,V,R⟩
theorem ajq (hn:10≤n) {x:Nat} {op:Int} {t:Str} {v2:AV} {ea:List (List AV)} {args:List Bt} (hl:args.length+5≤n) (hm:args.length≤100000) (hd:∀b∈args,b.deep≤100000)
 (kv:Knows L S F fun h=>View h 9 v2 ea) (kr:∀h,(∀R∈F,R h)→D9 h ea args) (A:Cx h L S F)
 (H:kV 1 args≤30→∀h c,Cx h L S ((fun h=>RB h c ⟨(jr op t).add (args.map Bt.e),kV 1 args⟩) :: F)→K (.agg c) h=true)
 (Hf:30<kV 1 args→∀h,Cx h L S F→K (flt T en x) h=true):
 ak E n (.func 110) [.int .i64 (Px T en x:Int), .agg (cEx op t),v2] h K=true:=by
 obtain⟨n,rfl⟩:∃m,n=m+1:=⟨n-1,by omega⟩;have hmo:most=1099511627776:=rfl;have hlim:=sS;apply aoW;unfold agE;refine rC A rfl rfl rfl fun b h A=> ?_;refine bO A rfl rfl rfl fun r h A=> ?_;refine fJ A.var rfl (dO rfl ?_);refine bO A rfl rfl rfl fun u h A=> ?_;refine gF A rfl rfl rfl rfl fun h A=> ?_;have kr':∀h {L S F'},Cx h L S (F'++F)→D9 h ea args:=fun h L S F' A=>kr h fun R m=>A.fact (List.mem_append.2 (.inr m));have R:=kr' h (F':=[]) A;obtain⟨hlen,_⟩:=R.get;refine dZ (kv h A.rest.rest.rest) ?_;have A:=A.slc 8;have loop:∀d j m va h,args.length=j+d→d+1≤m→
  Cx h (vr b (cEx op t) :: vr u ([.int .i64 op, .str t, .int .i64 0, .bool false, .int .i64 0, .str [], .au,va, .int .i64 (kV 1 (args.take j):Int)]) :: vr r Z9 :: L) (⟨va,8,(ea.take j).map (·.take 8)⟩ :: S) F→
  KV (ak E n) n m (.int .i64 (Px T en x:Int)) (.ptr r 0 0 0) (.ptr u 0 0 0) v2 (.int .i64 (ea.length:Int)) (.int .i64 (j:Int)) h K=true:=by
  intro d
  induction d with
  |zero=>
   intro j m va h h1 h2 A;obtain⟨m,rfl⟩:∃q,m=q+1:=⟨m-1,by omega⟩;have hj:j=args.length:=by omega
   subst hj;rw[List.take_of_length_le (Nat.le_refl _),List.take_of_length_le (by omega)] at A;rw[VE];unfold Lc;refine fT ?_;rw[show decide (args.length<ea.length)=false from decide_eq_false (by omega)]
   refine bE ?_;unfold Qz;have A:=A.freeze;refine ay ?_;refine aJ A.v1 rfl ?_;refine yh ?_;cases hc:decide (30<(kV 1 args:Int)) with
   |true=>
    have hc:30<kV 1 args:=by have:=of_decide_eq_true hc;omega
    refine bN ?_;refine ajH (by omega) ?_;exact Hf hc h A.dJ.rest.rest.rest
   |false=>
    have hc:kV 1 args≤30:=by have:=of_decide_eq_false hc;omega
    refine bE ?_;unfold Jv;refine fJ A.v1 rfl ?_;refine U8 A rfl rfl rfl ?_ fun h A=> ?_
    ·have:=A.f0.leaf;exact aF rfl (aF rfl (aF rfl (aF rfl (aF rfl (aF rfl (aF rfl (aF this rfl)))))))
    refine sI A.v2 rfl ?_;have A:=A.rest.rest.rest;refine H hc h _ ?_;refine(A.add (R:=fun h=>D9 h ea args) fun h q=>kr h fun R m=>q R (List.mem_cons_of_mem _ m)).imp2 fun h R V=> ?_;exact⟨_,rfl,RE.made V R.exs⟩
  |succ d ih=>
   intro j m va h h1 h2 A;obtain⟨m,rfl⟩:∃q,m=q+1:=⟨m-1,by omega⟩;have hj:j<args.length:=by omega
   have hb:args[j]? =some args[j]:=List.getElem?_eq_getElem hj;obtain⟨_,hg⟩:=(kr' h (F':=[]) A).get;obtain⟨c,hc,RBc⟩:=hg j _ hb;obtain⟨w1,w2,_⟩:=RBc.cells;obtain⟨ce,rfl,REc⟩:=RBc;obtain⟨x1,x2,_⟩:=REc.cells;rw[VE];unfold Lc;refine fT ?_;rw[show decide (j<ea.length)=true from decide_eq_true (by omega)]
   refine bN (Fu (kv h (A.freeze.dJ.rest.rest.rest)) hc fun id g q ld=>vF (v:= .agg (ce++[.int .i64 (args[j].deep:Int)])) ?_ ?_)
   ·rw[ld];simp only[mM,w1,List.drop_zero,cond_true];rw[List.take_of_length_le (by omega)];rfl
   refine bO A rfl rfl rfl fun a h A=> ?_;refine gF A rfl w1 rfl w2 fun h A=> ?_;refine ay ?_;refine ay ?_;refine aJ A.v2 rfl ?_;refine ay ?_;refine dw A.v1 (aI.2 (by rw[w1];decide)) ?_;rw[List.drop_zero,List.take_append_of_le_length (by omega),List.take_of_length_le (by omega)];refine iM A rfl rfl rfl rfl (dY x1 x2) rfl fun vb h A _=> ?_;refine jo A rfl A.f0.src ?_ ?_ fun va' h A _=> ?_
   ·simp;omega
   ·simp;omega
   have e8:ea.take (j+1)=ea.take j++[ce++[.int .i64 (args[j].deep:Int)]]:=by rw[List.take_add_one,hc];rfl
   have e9:args.take (j+1)=args.take j++[args[j]]:=by rw[List.take_add_one,hb];rfl
   refine ay ?_;refine ay ?_;refine Lh A rfl A.leafS fun h A=> ?_;refine ay ?_;refine aJ A.v2 rfl ?_;refine ay ?_;refine aJ A.v1 (v:= .int .i64 (args[j].deep:Int)) (by rw[List.getElem?_append_right (by omega),x1];rfl) ?_;refine gZ (by have:=hd _ (List.getElem_mem hj);omega) ?_;refine qJ (ajL _ _) ?_;refine ay ?_;refine Lh A rfl rfl fun h A=> ?_;refine gZ (by omega) ?_;refine ih (j+1) m va' h (by omega) (by omega) ?_;rw[e8,e9,List.map_append,Qv];have e10:[ce++[AV.int .i64 (args[j].deep:Int)]].map (·.take 8)=[ce]:=by
    simp only[List.map_cons,List.map_nil];rw[List.take_append_of_le_length (by omega),List.take_of_length_le (by omega)]
   rw[e10];exact A.dJ.aZ
 exact loop args.length 0 n .au h (by omega) (by omega) A
theorem TD (hn:2≤n) {c:List AV} {v:Val} (W:∀h,(∀R∈F,R h)→RW h c v) (A:Cx h L S F)
 (H:∀h c,Cx h L S ((fun h=>RB h c (lit v)) :: F)→K (.agg c) h=true):ak E n (.func 129) [.agg c] h K=true:=by
 obtain⟨n,rfl⟩:∃m,n=m+1:=⟨n-1,by omega⟩;have⟨w1,w2,w3⟩:=(W h fun R m=>A.fact m).cells;apply aqJ;unfold afP;refine rC A w1 rfl w2 fun b h A=>bO A rfl rfl rfl fun r h A=>fJ A.var w1 ?_;have e1:o7 Z8 [(0,1, .int .i64 1),(2,5, .agg c)]=some ([AV.int .i64 1, .str []]++(c++[.au])):=by
  match c,w1,w2 with
  | [a,b,c,d,e],_,w2=>simp only[o7,AV.cells,w2,aB,AV.leaf,List.length_cons,List.length_nil,lay];rfl
 have e2:([AV.int .i64 1, .str []]++(c++[AV.au])).length=8:=by simp[w1]
 refine have e3:aB ([AV.int .i64 1, .str []]++(c++[AV.au]))=true:=gL rfl (gL w2 rfl);dO e1 ?_
 have e4:o7 Z9 [(0,8, .agg ([AV.int .i64 1, .str []]++(c++[.au]))),(8,1, .int .i64 1)]=some (([AV.int .i64 1, .str []]++(c++[.au]))++[.int .i64 1]):=by
  match c,w1,w2 with
  | [a,b,c,d,e],_,w2=>
    have e3:aB (AV.agg ([AV.int .i64 1, .str []]++([a,b,c,d,e]++[.au]))).cells=true:=gL rfl (gL w2 rfl);simp only[o7,e3];rfl
 refine dO e4<|gF A rfl (by simp[w1]) rfl (gL e3 rfl) fun h A=>sI A.v1 (by simp[w1])<|have A:=A.rest.rest;H h _ (A.add fun h q=>⟨_,rfl, ?_⟩)
 simp only[lit,RE];exact⟨c, .au,[],by simp,W h q,View.nil h 8,by simp[mH]⟩
end
section
variable {h:ah} {L:gB} {S:List Sl} {F:List (ah→Prop)} {p mp en i n:Nat} {o:Int} {tv:AV} {T:List Lx} {K Q k:aK}
abbrev Cli (σ:Type):=σ→gB→List Sl→List (ah→Prop)→Prop
def OkC {σ:Type} (C:Cli σ) (K:aK) (p mp en:Nat) (tv:AV) (T:List Lx):σ→Nat→Int→Prop:=fun s i o=>∀h L S F,C s L S F→Cx h (vr p (pc tv mp en i o) :: L) S F→dM T en i o→K (.tup []) h=true
def FC (D:gB→List Sl→List (ah→Prop)→Prop) (K:aK) (p mp en:Nat) (tv:AV) (T:List Lx):Nat→Prop:=fun x=>∀h i o L S F,D L S F→Cx h (vr p (pc tv mp en i o) :: L) S F→K (flt T en x) h=true
theorem ab4 {σ:Type} {one:σ→PM σ} {C:Nat→Cli σ} {D:gB→List Sl→List (ah→Prop)→Prop} (hB:∀{j s L S F},C j s L S F→dN tv mp T F) (hD:∀{j s L S F},C j s L S F→D L S F) {kk:Nat} (hn:kk+12≤n) {w:Str} (hw:w≠[]) {clo:AV}
 (hone:∀{j s h L S F i o K},C (j+1) s L S F→Cx h (vr p (pc tv mp en i o) :: L) S F→dM T en i o→Post (one s i o) (OkC (C j) K p mp en tv T) (FC D K p mp en tv T)→kR (ak E n) clo [] h K=true)
 {s:σ} (hC:C kk s L S F) (A:Cx h (vr p (pc tv mp en i o) :: L) S F) (st:dM T en i o)
 (H:Post (iQ T w one kk s i o) (OkC (fun s L S F=>∃j,C j s L S F) K p mp en tv T) (FC D K p mp en tv T)):ak E (n+1) (.func 63) [.ptr p 0 0 0, .str w,clo] h K=true:=by
 apply d63;unfold s63;unfold iQ at H;rw[aC] at H;have loop:∀kk m first {s h L S F i o},kk≤m→kk+12≤n→C kk s L S F→Cx h (vr p (pc tv mp en i o) :: L) S F→dM T en i o→
  Post (oW T w one kk first s i o) (fun s i o=>Post (bnd (dH T w) (fun _=>ret s) i o) (OkC (fun s L S F=>∃j,C j s L S F) K p mp en tv T) (FC D K p mp en tv T)) (FC D K p mp en tv T)→
  NY (ak E n) n m (.ptr p 0 0 0) (.str w) clo (.bool first) h K=true:=by
  intro kk
  induction kk with
  |zero=>
   exact fun m first s h L S F i o hm hn hC A st H=>absurd H (fun q=>q)
  |succ kk ih=>
   intro m first s h L S F i o hm hn hC A st H
   obtain⟨m,rfl⟩:∃q,m=q+1:=⟨m-1,by omega⟩;have bF:=hB hC;have shut:∀{h},Cx h (vr p (pc tv mp en i o) :: L) S F→Post (bnd (dH T w) (fun _=>ret s) i o) (OkC (fun s L S F=>∃j,C j s L S F) K p mp en tv T) (FC D K p mp en tv T)→Qk (ak E n) n (.ptr p 0 0 0) (.str w) h K=true:=by
    intro h A H;unfold Qk;rw[aC] at H;refine Ls (by omega) hw A st (Post.mono H ?_ fun x f=> ?_)
    ·exact fun u i o H h A st=>aD rfl (H h L S F ⟨_,hC⟩ A st)
    ·exact fun h i o A=>f h i o L S F (hD hC) A
   have more:∀{h i o},Cx h (vr p (pc tv mp en i o) :: L) S F→dM T en i o→Post (bnd (one s) (oW T w one kk false) i o) (fun s i o=>Post (bnd (dH T w) (fun _=>ret s) i o) (OkC (fun s L S F=>∃j,C j s L S F) K p mp en tv T) (FC D K p mp en tv T)) (FC D K p mp en tv T)→
    kR (ak E n) clo [] h (pz K fun v13 h=>NY (ak E n) n m (.ptr p 0 0 0) (.str w) clo (.bool false) h K)=true:=by
    intro h i o A st H;rw[aC] at H;refine hone hC A st (Post.mono H ?_ fun x f=>f);exact fun s i o H h L S F hC A st=>aD rfl (ih m false (by omega) (by omega) hC A st H)
   rw[af2];unfold ZL;unfold oW at H;cases first with
   |true=>
    rw[if_pos rfl] at H;refine cO<|bU<|cO<|bU<|iU<|Dc (d:=0) (by omega) (by omega) hw A st fun h A=>aD rfl ?_;unfold Dt;rw[Nat.add_zero];cases e:bA T i w with
    |true=>
     rw[if_pos e] at H
     repeat first |(with_reducible first |refine bU ?_ |refine fP ?_ |refine cO ?_ |refine dx ?_ |refine eZ ?_ |refine sK ?_ |refine fH ?_)
     unfold wK;exact dx<|gD<|gD<|bE<|shut A H
    |false=>
     rw[if_neg (by rw[e];simp)] at H;exact cO<|fM<|fH<|eD<|eD<|eD<|oh<|zM<|eD<|fH<|bN<|more A st H
   |false=>
    rw[if_neg (by simp)] at H;refine eZ<|eZ<|sK ?_;unfold Dt
    repeat first |(with_reducible first |refine bU ?_ |refine fM ?_ |refine cO ?_ |refine dx ?_ |refine eZ ?_ |refine iU ?_ |refine gD ?_)
    refine lF (by omega) (by decide) A st ?_;unfold fA;cases e:bA T i [44] with
    |true=>
     rw[if_pos e] at H;rw[if_pos rfl];exact aY fun h A st=>aD rfl<|dx<|fH<|gD<|bN<|more A st H
    |false=>
     rw[if_neg (by rw[e];simp)] at H;rw[if_neg (by simp)];exact aY fun h A st=>aD rfl<|dx<|fH<|gD<|bE<|shut A H
 exact loop kk n true (by omega) hn hC A st H
end
section
variable {h:ah} {L:gB} {S:List Sl} {F:List (ah→Prop)} {p mp en i n:Nat} {o:Int} {tv:AV} {T:List Lx} {K Q k:aK}
def VP (K:aK) (p mp en:Nat) (tv:AV) (T:List Lx) (L:gB) (S:List Sl) (F:List (ah→Prop)):Bt→Nat→Int→Prop:=fun v i o=>v.deep≤30→∀h c,Cx h (vr p (pc tv mp en i o) :: L) S ((fun h=>RB h c v) :: F)→dM T en i o→K (.agg c) h=true
structure WB (tv:AV) (p mp en:Nat) (T:List Lx) (k:Nat):Prop where
 level:∀{n h L S F i o K} [dN tv mp T F] {lv:Nat},4*k+40≤n→lv≤5→Cx h (vr p (pc tv mp en i o) :: L) S F→dM T en i o→
  Post (bP T k lv i o) (VP K p mp en tv T L S F) (FK K p mp en tv T L S F)→ak E n (.func 92) [.ptr p 0 0 0, .int .i64 (lv:Int)] h K=true
 ops:∀{n m h L S F i o K} [dN tv mp T F] {lv e r:Nat} {c c0:List AV} {b:Bt},4*k+40≤n→k≤m→lv≤4→c0.length=9→b.deep≤30→Cx h (vr p (pc tv mp en i o) :: vr e c :: vr r c0 :: L) S ((fun h=>RB h c b) :: F)→dM T en i o→
  Post (qU T k lv b i o) (VP K p mp en tv T L S F) (FK K p mp en tv T L S F)→F8 (ak E n) n m (.ptr p 0 0 0) (.int .i64 (lv:Int)) (.ptr r 0 0 0) (.ptr e 0 0 0) h K=true
 sign:∀{n h L S F i o K} [dN tv mp T F],4*k+40≤n→Cx h (vr p (pc tv mp en i o) :: L) S F→dM T en i o→
  Post (jK T k i o) (VP K p mp en tv T L S F) (FK K p mp en tv T L S F)→ak E n (.func 109) [.ptr p 0 0 0] h K=true
 post:∀{n h L S F i o K} [dN tv mp T F],4*k+40≤n→Cx h (vr p (pc tv mp en i o) :: L) S F→dM T en i o→
  Post (sJ T k i o) (VP K p mp en tv T L S F) (FK K p mp en tv T L S F)→ak E n (.func 121) [.ptr p 0 0 0] h K=true
 dots:∀{n m h L S F i o K} [dN tv mp T F] {e r:Nat} {c c0:List AV} {b:Bt},4*k+40≤n→k≤m→c0.length=9→b.deep≤30→Cx h (vr p (pc tv mp en i o) :: vr e c :: vr r c0 :: L) S ((fun h=>RB h c b) :: F)→dM T en i o→
  Post (qy T k b i o) (VP K p mp en tv T L S F) (FK K p mp en tv T L S F)→FJ (ak E n) n m (.ptr p 0 0 0) (.ptr r 0 0 0) (.ptr e 0 0 0) h K=true
 atom:∀{n h L S F i o K} [dN tv mp T F],4*k+40≤n→Cx h (vr p (pc tv mp en i o) :: L) S F→dM T en i o→
  Post (qA T k i o) (VP K p mp en tv T L S F) (FK K p mp en tv T L S F)→ak E n (.func 126) [.ptr p 0 0 0] h K=true
theorem HY {x:Nat} {e:Ex} {args:List Bt} {k:Bt→Nat→Int→Prop} {f:Nat→Prop} (H:Post (gY x e args i o) k f):
 (kV 1 args≤30→k ⟨e.add (args.map Bt.e),kV 1 args⟩ i o)∧(30<kV 1 args→f x):=by
 unfold gY at H;by_cases h:30<kV 1 args
 ·rw[if_pos h] at H;exact⟨fun q=>by omega,fun _=>H⟩
 ·rw[if_neg h] at H;exact⟨fun _=>H,fun q=>absurd q h⟩
theorem ai5 {a b:Str} (h:bA T i a=true) (hab:a≠b):bA T i b=false:=by
 unfold bA at h ⊢;cases e:T[i]? with
 |none=>rfl
 |some l=>
  rw[e] at h;simp only[Bool.and_eq_true,decide_eq_true_eq] at h;simp only[decide_eq_false (show ¬(l.text=b) from fun q=>hab (h.1▸q)),Bool.false_and]
theorem aaT {e1:Nat×fC} {r:Nat} {c c0:List AV} {v:Bt} {F':List (ah→Prop)} (A:Cx h (e1 :: vr r c0 :: L) S F') (h0:c0.length=9) (R:RB h c v) (s:∀h,Cx h (e1 :: L) S F'→K (.agg c) h=true):
 (aL h 9 (.ptr r 0 0 0) (.agg c) fun h=>gI (fF h [(.ptr r 0 0 0,some (true,9))]) h K)=true:=by
 exact have⟨w1,w2,_⟩:=R.cells;gF A rfl w1 h0 w2 fun h A=>sI A.v1 w1 (s h A.aZ)
theorem ab3 [b:dN tv mp T F] (hn:12≤n) {x:Nat} {op:Int} {t:Str} {v2:AV} {c:List AV} {e:Bt} (hd:e.deep≤30) (re:(fun h=>RB h c e)∈F) (kv:Knows (vr p (pc tv mp en i o) :: L) S F fun h=>View h 9 v2 [c])
 (A:Cx h (vr p (pc tv mp en i o) :: L) S F) (s:dM T en i o)
 (H:Post (gY x (jr op t) [e] i o) (VP K p mp en tv T L S F) (FK K p mp en tv T L S F)):
 ak E n (.func 110) [.int .i64 (Px T en x:Int), .agg (cEx op t),v2] h K=true:=by
 refine have⟨H1,H2⟩:=HY H;ajq (args:=[e]) (by omega) (by simp;omega) (by simp) (fun b hb=>by simp at hb;subst hb;omega) kv (fun h q=>D9.one (q _ re)) A ?_ ?_
 ·exact fun hm h c' A=>H1 hm hm h c' A s
 ·exact fun hm h A=>H2 hm h i o A
theorem ahw [b:dN tv mp T F] (hn:12≤n) {x:Nat} {op:Int} {t:Str} {v2:AV} {c c':List AV} {e e':Bt} (hd:e.deep≤30) (hd':e'.deep≤30) (re:(fun h=>RB h c e)∈F) (re':(fun h=>RB h c' e')∈F) (kv:Knows (vr p (pc tv mp en i o) :: L) S F fun h=>View h 9 v2 [c,c'])
 (A:Cx h (vr p (pc tv mp en i o) :: L) S F) (s:dM T en i o)
 (H:Post (gY x (jr op t) [e,e'] i o) (VP K p mp en tv T L S F) (FK K p mp en tv T L S F)):
 ak E n (.func 110) [.int .i64 (Px T en x:Int), .agg (cEx op t),v2] h K=true:=by
 have⟨H1,H2⟩:=HY H;refine ajq (args:=[e,e']) (by omega) (by simp;omega) (by simp) (fun b hb=>by simp at hb;rcases hb with rfl |rfl<;>omega) kv (fun h q=>(D9.one (q _ re)).app (D9.one (q _ re'))) A ?_ ?_
 ·exact fun hm h c' A=>H1 hm hm h c' A s
 ·exact fun hm h A=>H2 hm h i o A
theorem abk {k:Nat} (W:WB tv p mp en T k):∀{n h L S F i o K} [dN tv mp T F],4*(k+1)+40≤n→Cx h (vr p (pc tv mp en i o) :: L) S F→dM T en i o→
 Post (jK T (k+1) i o) (VP K p mp en tv T L S F) (FK K p mp en tv T L S F)→ak E n (.func 109) [.ptr p 0 0 0] h K=true:=by
 intro n h L S F i o K b hn A s H;obtain⟨n,rfl⟩:∃m,n=m+1:=⟨n-1,by omega⟩;apply ao5;unfold afS;refine bO A rfl rfl rfl fun r h A=>abJ (by omega) A s (aD rfl<|Dc (d:=0) (by omega) (by omega) (by decide) A s fun h A=>aD rfl ?_);rw[Nat.add_zero];have one:∀(op:Int) {w:Str} {h},w≠[]→Cx h (vr p (pc tv mp en (i+1) o) :: vr r Z9 :: L) S F→dM T en (i+1) o→
  Post (bnd (jc i) (fun _=>bnd (jK T k) fun e=>bnd mG fun _=>gY i (jr op []) [e]) (i+1) o) (VP K p mp en tv T L S F) (FK K p mp en tv T L S F)→
  (ak E n (.func 74) [.ptr p 0 0 0, .int .i64 (Px T en i:Int)] h <| pz K fun v12 h=>ak E n (.func 109) [.ptr p 0 0 0] h <| pz K fun v13 h=>xY (ak E n) n (.ptr p 0 0 0) (.ptr r 0 0 0) (.int .i64 (Px T en i:Int)) (.int .i64 op) v13 h K)=true:=by
  intro op w h hw A s H;rw[aC] at H;refine have s0:=s;alv (by omega) A s (Post.mono H.eqn ?_ fun x f=>FK.pz' (FK.rest f))
  intro u i1 o1 ⟨eq0,H⟩ h A s;refine have⟨ho0,hi0⟩:=zm _ _ _ _ _ eq0;aD rfl ?_
  rw[aC] at H;refine W.sign (by omega) A s (Post.mono H.eqn ?_ fun x f=>FK.pz' (FK.rest f));intro e i1 o1 ⟨eq,H⟩ hd h c A s;refine have⟨ho,hi1⟩:=(shE k).sign _ _ _ _ _ eq;aD rfl ?_
  unfold xY;refine have⟨w1,w2,w3⟩:=(A.f0:RB h c e).cells;bO A rfl rfl rfl fun a h A=>gF A rfl w1 rfl w2 fun h A=>have h1:=s.lo;have h2:=s.hi;have h3:=s.le;have h4:=s.len;eB<|ay<|aJ A.var rfl<|Hg (by omega) (by omega)<|eB<|ay<|sD A rfl rfl fun h A=>dO rfl (fJ A.v1 w1<|iM A rfl rfl rfl rfl (dY w1 w2) rfl fun vb h A _=>have q1:=s0.lo;have q2:=s0.hi;ab3 (c:=c) (by omega) hd (by simp) (Knows.mem (by simp)) A ⟨s.len,s.le,by omega,by omega,s.Px,s.num⟩ (Post.mono H ?_ fun x f=>FK.pz' f.rest.rest.drop.drop))
  refine fun v i2 o2 H hd h c' A s=>aD rfl ?_;unfold Cz;exact have A:=A.aZ;aaT A rfl A.f0 fun h A=>H hd h c' A.drop1.drop1 s
 unfold jK at H;cases e1:bA T i [33] with
 |true=>
  have e2:=ai5 e1 (b:=[45]) (by decide);rw[if_neg (by rw[e2];simp),if_pos e1] at H;refine bN<|lF (by omega) (by decide) A s ?_;unfold fA;rw[if_neg (by rw[e2];simp)];refine aY fun h A s=>aD rfl<|fM<|cO<|bU<|iU<|lF (by omega) (by decide) A s ?_;unfold fA;rw[if_pos e1];exact aY fun h A s=>aD rfl<|cO<|fP<|fH<|bE<|one 7 (w:=[33]) (by decide) A s H
 |false=>
  refine bE ?_;unfold Es;cases e2:bA T i [45] with
  |true=>
   rw[if_pos e2] at H;refine lF (by omega) (by decide) A s ?_;unfold fA;rw[if_pos e2];exact aY fun h A s=>aD rfl<|fP<|eZ<|sK<|eZ<|gD<|bE<|one 6 (w:=[45]) (by decide) A s H
  |false=>
   rw[if_neg (by rw[e2];simp),if_neg (by rw[e1];simp)] at H;refine lF (by omega) (by decide) A s ?_;unfold fA;rw[if_neg (by rw[e2];simp)];refine aY fun h A s=>aD rfl<|fM<|cO<|bU<|iU<|lF (by omega) (by decide) A s ?_;unfold fA;rw[if_neg (by rw[e1];simp)];refine aY fun h A s=>aD rfl<|cO<|fM<|fH<|bN<|W.post (by omega) A s (Post.mono H ?_ fun x f=>FK.pz' f.rest);exact fun v i o H hd h c A s=>aD rfl<|aaT A rfl A.f0 fun h A=>H hd h c A s
theorem aaA {k:Nat} (W:WB tv p mp en T k):∀{n m h L S F i o K} [dN tv mp T F] {e r:Nat} {c c0:List AV} {b:Bt},4*(k+1)+40≤n→k+1≤m→c0.length=9→b.deep≤30→Cx h (vr p (pc tv mp en i o) :: vr e c :: vr r c0 :: L) S ((fun h=>RB h c b) :: F)→dM T en i o→
 Post (qy T (k+1) b i o) (VP K p mp en tv T L S F) (FK K p mp en tv T L S F)→FJ (ak E n) n m (.ptr p 0 0 0) (.ptr r 0 0 0) (.ptr e 0 0 0) h K=true:=by
 intro n m h L S F i o K bF e r c c0 b hn hm h0 hd A s H;obtain⟨m,rfl⟩:∃q,m=q+1:=⟨m-1,by omega⟩;have⟨w1,w2,w3⟩:=(A.f0:RB h c b).cells;rw[aek];unfold SF;refine abJ (by omega) A s (aD rfl<|lF (by omega) (by decide) A s ?_);unfold fA;unfold qy at H;cases e1:bA T i [46] with
 |false=>
  rw[if_neg (by rw[e1];simp)] at H;rw[if_neg (by simp)];exact aY fun h A s=>aD rfl<|fM<|bN<|fJ A.v1 w1<|have A:=A.aZ;aaT A h0 A.f0 fun h A=>H hd h c A s
 |true=>
  rw[if_pos e1] at H;rw[if_pos rfl];refine aY fun h A s=>aD rfl<|fP<|bE<|fJ A.v1 w1 (EN A rfl rfl rfl rfl (dY w1 w2) rfl fun q h A=>fJ A.v2 w1 (bI (.agg w3) ?_));rw[aC] at H;refine EZ (by omega) A s (Post.mono H ?_ fun x f=>FK.pz' fun h i o A=>xW rfl rfl A fun h A=>f h i o A.aZ.aZ.dJ);refine fun t i1 o1 H h A s=>aD rfl<|fJ A.v2 w1 (bI (.agg w3) (dO rfl ?_));rw[aC] at H;refine ab3 (c:=c) (by omega) hd (by simp) (fun h A=>A.rowL) A s (Post.mono H ?_ fun x f=>FK.pz' fun h i o A=>xW rfl rfl A fun h A=>f h i o A.aZ.aZ.dJ);exact fun v i2 o2 H hd' h c' A s=>aD rfl<|have⟨x1,x2,_⟩:=(A.f0:RB h c' v).cells;U8 A rfl x1 w1 x2 fun h A=>W.dots (by omega) (by omega) h0 hd' A.aZ.drop1 s H
theorem aaZ {k:Nat} (W:WB tv p mp en T k):∀{n h L S F i o K} [dN tv mp T F],4*(k+1)+40≤n→Cx h (vr p (pc tv mp en i o) :: L) S F→dM T en i o→
 Post (sJ T (k+1) i o) (VP K p mp en tv T L S F) (FK K p mp en tv T L S F)→ak E n (.func 121) [.ptr p 0 0 0] h K=true:=by
 intro n h L S F i o K b hn A s H;obtain⟨n,rfl⟩:∃m,n=m+1:=⟨n-1,by omega⟩;apply an9;unfold agc;refine bO A rfl rfl rfl fun r h A=> ?_;unfold sJ at H;rw[aC] at H;refine W.atom (by omega) A s (Post.mono H ?_ fun x f=>FK.pz' f.rest);exact fun v i o H hd h c A s=>aD rfl<|have⟨w1,w2,w3⟩:=(A.f0:RB h c v).cells;bO A rfl rfl rfl fun e h A=>gF A rfl w1 rfl w2 fun h A=>W.dots (by omega) (by omega) rfl hd A s H
theorem acp {k:Nat} (W:WB tv p mp en T k):∀{n m h L S F i o K} [dN tv mp T F] {lv e r:Nat} {c c0:List AV} {b:Bt},4*(k+1)+40≤n→k+1≤m→lv≤4→c0.length=9→b.deep≤30→Cx h (vr p (pc tv mp en i o) :: vr e c :: vr r c0 :: L) S ((fun h=>RB h c b) :: F)→dM T en i o→
 Post (qU T (k+1) lv b i o) (VP K p mp en tv T L S F) (FK K p mp en tv T L S F)→F8 (ak E n) n m (.ptr p 0 0 0) (.int .i64 (lv:Int)) (.ptr r 0 0 0) (.ptr e 0 0 0) h K=true:=by
 intro n m h L S F i o K bF lv e r c c0 b hn hm hlv h0 hd A s H;obtain⟨m,rfl⟩:∃q,m=q+1:=⟨m-1,by omega⟩;have hl:=s.len;have hlim:=sS;obtain⟨w1,w2,w3⟩:=(A.f0:RB h c b).cells;rw[adB];unfold Rq;refine abJ (by omega) A s (aD rfl ?_);unfold GH;refine U2 (d:=0) (by omega) (by omega) A s fun h A=>aD rfl ?_;rw[Nat.add_zero];obtain⟨x1,x2,ea⟩:=Hz T i;rw[ea];unfold Hy;refine bO A rfl rfl rfl fun l h A=> ?_;refine gF A rfl rfl rfl rfl fun h A=> ?_;obtain⟨f,f1,f2⟩:PY mp h:=A.fact (List.mem_cons_of_mem _ bF.ops);refine eB ?_;refine ay ?_;refine aJ A.var rfl ?_;refine qJ (f1 lv (by omega)) ?_;refine ay ?_;refine aJ A.v1 rfl ?_;refine qJ (f2 lv (txt T i) (by omega)) ?_;refine jY ?_;refine kg ?_;have done:∀{h cl},Cx h (vr p (pc tv mp en i o) :: vr l cl :: vr e c :: vr r c0 :: L) S ((fun h=>RB h c b) :: F)→VP K p mp en tv T L S F b i o→
  (aX h 9 (.ptr e 0 0 0) fun v27=>aL h 9 (.ptr r 0 0 0) v27 fun h=>gI (fF h [(.ptr r 0 0 0,some (true,9))]) h K)=true:=by
  intro h cl A H;refine fJ A.v2 w1 ?_;have A:=A.aZ.aZ;exact aaT A h0 A.f0 fun h A=>H hd h c A s
 unfold qU at H;cases eo:xQ lv (txt T i) with
 |none=>
  refine fM ?_;refine eD ?_;refine eD ?_;refine eD ?_;refine fH ?_;refine bN ?_;refine done A ?_;cases et:T[i]? with
  |none=>rw[et] at H;exact H
  |some l=>
   rw[rQ et] at eo;rw[et] at H;simp only[eo] at H;exact H
 |some op=>
  refine fP ?_;refine dx ?_;refine ay ?_;refine dx ?_;refine aJ A.v1 rfl ?_;refine dx ?_;refine jC ?_;refine gD ?_;rw[show decide (kdI T i=4)=dS T i 4 from Q8 T i 4]
  cases ek:dS T i 4 with
  |false=>
   skip
   refine done A ?_;unfold dS at ek;cases et:T[i]? with
   |none=>rw[et] at H;exact H
   |some l=>
    rw[et] at ek;simp only at ek;rw[rQ et] at eo;rw[et] at H;simp only[eo,of_decide_eq_false ek,if_false] at H;exact H
  |true=>
   have hi:=uO ek;have et:T[i]? =some T[i]:=List.getElem?_eq_getElem hi;unfold dS at ek;rw[et] at ek;rw[rQ et] at eo;rw[et] at H;simp only[eo,of_decide_eq_true ek,if_true] at H;rw[show(!true)=false from rfl]
   refine bE ?_;refine eB ?_;refine ay ?_;refine aJ A.var rfl ?_;refine gZ (show i+1≤lim by omega) ?_;refine eB ?_;refine ay ?_;refine sD A rfl rfl fun h A=> ?_;have s:=s.step hi;refine dO rfl (fJ A.v2 w1 ?_);have A:=A.aZ;refine gZ (show lv+1≤lim by omega) ?_;rw[aC] at H;refine W.level (by omega) (by omega) A s (Post.mono H ?_ fun x f=>FK.pz' f.rest.rest.drop);intro b2 i1 o1 H hd2 h c2 A s;obtain⟨y1,y2,y3⟩:=(A.f0:RB h c2 b2).cells;refine aD rfl (fJ A.v1 w1 (bI (.agg w3) ?_));refine EN A rfl rfl rfl rfl (Iy w1 w2 y1 y2) rfl fun q h A=> ?_;refine fJ A.v2 w1 (bI (.agg w3) ?_);rw[aC] at H;refine ahw (c:=c) (c':=c2) (by omega) hd hd2 (by simp) (by simp) (fun h A=>A.rowL) A s (Post.mono H ?_ fun x f=>FK.pz' fun h i o A=>xW rfl rfl A fun h A=>f h i o A.aZ.aZ.dJ.dJ);intro v i2 o2 H hd' h c' A s;obtain⟨x1,x2,_⟩:=(A.f0:RB h c' v).cells;refine aD rfl (U8 A rfl x1 w1 x2 fun h A=> ?_);have A:=A.aZ.drop1.drop1;refine kQ ?_;rw[dk2];cases e2:decide (lv=2) with
   |true=>
    have e2:=of_decide_eq_true e2;rw[if_pos e2] at H;refine bN (fJ A.v1 x1 ?_);have A:=A.aZ;exact aaT A h0 A.f0 fun h A=>H hd' h c' A s
   |false=>
    have e2:=of_decide_eq_false e2;rw[if_neg e2] at H;refine bE ?_;exact W.ops (by omega) (by omega) hlv h0 hd' A s H
theorem Xz {k:Nat} (W:WB tv p mp en T k):∀{n h L S F i o K} [dN tv mp T F] {lv:Nat},4*(k+1)+40≤n→lv≤5→Cx h (vr p (pc tv mp en i o) :: L) S F→dM T en i o→
 Post (bP T (k+1) lv i o) (VP K p mp en tv T L S F) (FK K p mp en tv T L S F)→ak E n (.func 92) [.ptr p 0 0 0, .int .i64 (lv:Int)] h K=true:=by
 intro n h L S F i o K b lv hn hlv A s H;have hlim:=sS;obtain⟨n,rfl⟩:∃m,n=m+1:=⟨n-1,by omega⟩;apply d92;unfold s92;refine bO A rfl rfl rfl fun r h A=>kQ ?_;rw[show decide ((lv:Int)=5)=decide (lv=5) from dkN lv 5]
 unfold bP at H;cases e5:decide (lv=5) with
 |true=>
  rw[if_pos (of_decide_eq_true e5)] at H;refine bN<|W.sign (by omega) A s (Post.mono H ?_ fun x f=>FK.pz' f.rest);exact fun v i o H hd h c A s=>aD rfl<|aaT A rfl A.f0 fun h A=>H hd h c A s
 |false=>
  have e5:=of_decide_eq_false e5;rw[if_neg e5,aC] at H;refine bE<|gZ (by omega)<|W.level (by omega) (by omega) A s (Post.mono H ?_ fun x f=>FK.pz' f.rest);intro v i o H hd h c A s;exact have⟨w1,w2,w3⟩:=(A.f0:RB h c v).cells;aD rfl<|bO A rfl rfl rfl fun e h A=>gF A rfl w1 rfl w2 fun h A=>W.ops (by omega) (by omega) (by omega) rfl hd A s H
end
section
variable {h:ah} {L:gB} {S:List Sl} {F:List (ah→Prop)} {p mp en i n:Nat} {o:Int} {tv:AV} {T:List Lx} {K Q k:aK}
theorem Ku {e1 e2:Nat×fC} {r:Nat} {c c0:List AV} {v:Bt} {F':List (ah→Prop)} (A:Cx h (e1 :: e2 :: vr r c0 :: L) S F') (h0:c0.length=9) (R:RB h c v) (s:∀h,Cx h (e1 :: L) S F'→K (.agg c) h=true):
 (aL h 9 (.ptr r 0 0 0) (.agg c) fun h=>gI (fF h [(.ptr r 0 0 0,some (true,9))]) h K)=true:=by
 exact have⟨w1,w2,_⟩:=R.cells;U8 A rfl w1 h0 w2 fun h A=>sI A.v2 w1 (s h A.aZ.aZ)
theorem RW.lit (k:Int) (b:Bool) (n:Int) (t:Str):RW h [.int .i64 k, .bool b, .int .i64 n, .str t, .au] (.mk k b n t []):=by
 simp only[RW];exact⟨.au,[],rfl,View.nil h 5,by simp[BL]⟩
theorem ZB {w:Str} (h:bA T i w=true):txt T i=w:=by
 unfold bA at h;unfold txt;cases e:T[i]? with
 |none=>rw[e] at h;cases h
 |some l=>
  rw[e] at h;simp only[Bool.and_eq_true,decide_eq_true_eq] at h;exact h.1
theorem Y4 (s:dM T en i o) (hk:dS T i 2=true):(pI (txt T i)).isSome=true∧(txt T i).length≤1000000∧∀v,pI (txt T i)=some (some v)→0≤v:=by
 have hi:=uO hk;have e:T[i]? =some T[i]:=List.getElem?_eq_getElem hi;unfold dS at hk;rw[e] at hk;rw[rQ e];exact s.num _ (List.getElem_mem hi) (of_decide_eq_true hk)
theorem akx (hn:1≤n) {t:Str} (A:Cx h L S F) (g:GvF∈F) (h1:(pI t).isSome=true) (h2:t.length≤1000000)
 (H1:∀v,pI t=some (some v)→K (.tup [.int .i64 v, .iC]) h=true)
 (H2:pI t=some none→∀h u w,Cx h L S F→K (.tup [.int .i64 u, .ifc 171 w]) h=true):ak E n (.func 76) [.str t, .int .i64 10, .int .i64 64] h K=true:=by
 obtain⟨n,rfl⟩:∃m,n=m+1:=⟨n-1,by omega⟩;have hp:E.prim 76=some (IW 171 1):=rfl;simp only[ak,hp];show IW 171 1 (ak E n) n [.str t, .int .i64 (.ofNat 10), .int .i64 (.ofNat 64)] h K=true;simp only[IW,aI.2 h2,Nat.beq_refl,Bool.and_self,cond_true];cases e:pI t with
 |none=>rw[e] at h1;cases h1
 |some v=>
  cases v with
  |some v=>exact H1 v e
  |none=>
   have hg:h.get 0=some (.gvar 1):=A.fact g;simp only[hg,Nat.beq_refl,cond_true];exact H2 e _ _ _ (A.new .gone).rest
theorem abo {k:Nat} (hk:k≤100000) (W:WB tv p mp en T k):∀{n h L S F i o K} [dN tv mp T F],4*(k+1)+40≤n→Cx h (vr p (pc tv mp en i o) :: L) S F→dM T en i o→
 Post (qA T (k+1) i o) (VP K p mp en tv T L S F) (FK K p mp en tv T L S F)→ak E n (.func 126) [.ptr p 0 0 0] h K=true:=by
 intro n h L S F i o K b hn A s H;obtain⟨n,rfl⟩:∃m,n=m+1:=⟨n-1,by omega⟩;have hmo:most=1099511627776:=rfl;have hl:=s.len;have hlim:=sS;apply aqn;unfold aeY;refine VB A rfl fun pb h A=>bO A rfl rfl rfl fun r h A=> ?_
 repeat with_reducible refine aJ A.v2 rfl ?_
 refine bO A rfl rfl rfl fun l h A=> ?_
 repeat first |with_reducible refine aJ A.v3 rfl ?_ |refine bI (iW.ptr _ _ _ _) ?_
 refine abJ (by omega) A s (aD rfl<|aJ A.v3 rfl<|bI (iW.ptr _ _ _ _)<|U2 (d:=0) (by omega) (by omega) A s fun h A=>aD rfl ?_);rw[Nat.add_zero];have⟨x1,x2,ea⟩:=Hz T i;rw[ea];refine gF A rfl rfl rfl rfl fun h A=>ay<|aJ A.v1 rfl<|kQ ?_;rw[show decide (kdI T i=2)=dS T i 2 from Q8 T i 2]
 unfold qA at H;cases k2:dS T i 2 with
 |true=>
  rw[if_pos k2] at H;have⟨n1,n2,_⟩:=Y4 s k2;refine have hi:=uO k2;bN<|ay<|aJ A.v1 rfl<|akx (by omega) A b.gv n1 n2 ?_ ?_
  ·intro v ev;rw[ev] at H;exact aD rfl<|jY<|kg<|aJ A.v3 rfl<|qJ (show Ja h false .ifn .iC .iC=some (.bool true) from rfl)<|yB (by omega) A s (aY fun h A s=>aD rfl<|aJ A.v3 rfl<|eB<|ay<|aJ A.var rfl<|gZ (show i+1≤lim by omega)<|eB<|ay<|sD A rfl rfl fun h A=>dO rfl<|TD (by omega) (fun h _=>RW.lit 2 false v []) A fun h c A=>aD rfl<|Ku A rfl A.f0 fun h A=>H (show(1:Nat)≤30 by decide) h c A.aZ (s.step hi))
  ·intro ev h u w A;rw[ev] at H;exact aD rfl<|jY<|kg<|aJ A.v3 rfl<|qJ (show Ja h false .ifn (.ifc 171 w) .iC=some (.bool false) from rfl)<|yB (by omega) A s (FK.pz' (show FK K p mp en tv T L S F i from H).rest.rest.rest)
 |false=>
  rw[if_neg (by rw[k2];simp)] at H;refine bE<|ay<|aJ A.v1 rfl<|kQ ?_;rw[show decide (kdI T i=3)=dS T i 3 from Q8 T i 3]
  cases k3:dS T i 3 with
  |true=>
   rw[if_pos k3] at H;exact have hi:=uO k3;bN<|aJ A.v3 rfl<|aco (by omega) hi A s fun h A s=>aD rfl<|dO rfl<|TD (by omega) (fun h _=>RW.lit 3 false 0 (txt T i)) A fun h c A=>aD rfl<|Ku A rfl A.f0 fun h A=>H (show(1:Nat)≤30 by decide) h c A.aZ s
  |false=>
   rw[if_neg (by rw[k3];simp)] at H;refine bE<|aJ A.v3 rfl<|lF (by omega) (by decide) A s ?_;unfold fA;cases bt:bA T i [116,114,117,101] with
   |true=>
    rw[if_pos bt] at H;rw[if_pos rfl];refine aY fun h A s=>aD rfl<|bN<|bN<|ay<|aJ A.v1 rfl<|DT ?_;rw[ZB bt];exact dO rfl<|TD (by omega) (fun h _=>RW.lit 1 true 0 []) A fun h c A=>aD rfl<|Ku A rfl A.f0 fun h A=>H (show(1:Nat)≤30 by decide) h c A.aZ s
   |false=>
    rw[if_neg (by rw[bt];simp)] at H;rw[if_neg (by simp)];refine aY fun h A s=>aD rfl<|bE<|aJ A.v3 rfl<|lF (by omega) (by decide) A s ?_;unfold fA;cases bf:bA T i [102,97,108,115,101] with
    |true=>
     rw[if_pos bf] at H;rw[if_pos rfl];refine aY fun h A s=>aD rfl<|bN<|ay<|aJ A.v1 rfl<|DT ?_;rw[ZB bf];exact dO rfl<|TD (by omega) (fun h _=>RW.lit 1 false 0 []) A fun h c A=>aD rfl<|Ku A rfl A.f0 fun h A=>H (show(1:Nat)≤30 by decide) h c A.aZ s
    |false=>
     rw[if_neg (by rw[bf];simp)] at H;rw[if_neg (by simp)];refine aY fun h A s=>aD rfl<|bE<|aJ A.v3 rfl<|lF (by omega) (by decide) A s ?_;unfold fA;cases bn:bA T i [110,117,108,108] with
     |true=>
      rw[if_pos bn] at H;rw[if_pos rfl];exact aY fun h A s=>aD rfl<|bN (dO rfl<|TD (by omega) (fun h _=>RW.zero) A fun h c A=>aD rfl<|Ku A rfl A.f0 fun h A=>H (show(1:Nat)≤30 by decide) h c A.aZ s)
     |false=>
      rw[if_neg (by rw[bn];simp)] at H;rw[if_neg (by simp)];refine aY fun h A s=>aD rfl<|bE<|ay<|aJ A.v1 rfl<|kQ ?_;rw[show decide (kdI T i=1)=dS T i 1 from Q8 T i 1]
      cases k1:dS T i 1 with
      |true=>
       rw[if_pos k1,aC] at H;refine bN<|aJ A.v3 rfl<|Xi (by omega) A s (Post.mono H ?_ fun x f=>FK.pz' f.rest.rest.rest);refine fun t i o H h A s=>aD rfl<|dO rfl (dO rfl ?_);have A:=A.add (R:=fun h=>RB h (cEx 2 t++[.int .i64 1]) ⟨jr 2 t,1⟩) fun h _=>⟨cEx 2 t,rfl,RE.op 2 t⟩;exact Ku (c:=cEx 2 t++[.int .i64 1]) A rfl A.f0 fun h A=>H (show(1:Nat)≤30 by decide) h _ A.aZ s
      |false=>
       rw[if_neg (by rw[k1];simp)] at H;refine bE<|aJ A.v3 rfl<|Dc (d:=0) (by omega) (by omega) (by decide) A s fun h A=>aD rfl ?_;rw[Nat.add_zero];cases bp:bA T i [40] with
       |true=>
        rw[if_pos bp,aC] at H;refine bN<|aJ A.v3 rfl<|Cu (by omega) (by decide) A s (Post.mono H ?_ fun x f=>FK.pz' f.rest.rest.rest);refine fun u i o H h A s=>aD rfl<|aJ A.v3 rfl ?_;rw[aC] at H;refine W.level (lv:=0) (by omega) (by omega) A s (Post.mono H ?_ fun x f=>FK.pz' f.rest.rest.rest);refine fun v i o H hd h c A s=>aD rfl<|have⟨w1,w2,w3⟩:=(A.f0:RB h c v).cells;bO A rfl rfl rfl fun e h A=>gF A rfl w1 rfl w2 fun h A=>aJ A.v4 rfl ?_
        rw[aC] at H;refine Ls (by omega) (by decide) A s (Post.mono H ?_ fun x f=>FK.pz' f.rest.rest.rest.rest.drop);exact fun u i o H h A s=>aD rfl (fJ A.v1 w1<|Ku A.aZ rfl A.f0 fun h A=>H hd h c A.aZ s)
       |false=>
        rw[if_neg (by rw[bp];simp)] at H;refine bE<|aJ A.v3 rfl<|Dc (d:=0) (by omega) (by omega) (by decide) A s fun h A=>aD rfl ?_;rw[Nat.add_zero];cases bq:bA T i [91] with
        |true=>
         rw[if_pos bq,aC] at H;refine bN<|bO A rfl rfl rfl fun ab h A=>aJ A.v4 rfl<|Cu (by omega) (by decide) A s (Post.mono H ?_ fun x f=>FK.pz' f.rest.rest.rest.rest);refine fun u i1 o1 H h A s=>aD rfl<|aJ A.v4 rfl<|bU ?_;rw[aC] at H;obtain⟨n,rfl⟩:∃m,n=m+1:=⟨n-1,by omega⟩;have A:=(A.slc 9).tru (R:=fun h=>D9 h [] []) fun h=>rfl
         let L1:gB:=vr l [.int .i64 (kdI T i), .str (txt T i), .int .i64 x1, .int .i64 x2] :: vr r Z9 :: vr pb [.ptr p 0 0 0] :: L
         refine ab4 (one:=fun l=>bnd (bP T k 0) fun b=>ret (l++[b])) (kk:=k) (s:=[])
          (C:=fun j acc L' S' F'=>∃va ea,L'=vr ab [va] :: L1∧S'=⟨va,9,ea⟩ :: S∧F'=(fun h=>D9 h ea acc) :: F∧acc.length+j≤k∧∀b∈acc,b.deep≤30)
          (D:=fun L' S' F'=>∃va ea R,L'=vr ab [va] :: L1∧S'=⟨va,9,ea⟩ :: S∧F'=R :: F)
          (fun{j s L S F} hC=>by obtain⟨_,_,_,_,rfl,_⟩:=hC;infer_instance)
          (fun{j s L S F} hC=>by obtain⟨va,ea,h1,h2,h3,_⟩:=hC;exact⟨va,ea,_,h1,h2,h3⟩)
          (by omega) (by decide) ?_ ⟨.au,[],rfl,rfl,rfl,by simp,by simp⟩ A s (Post.mono H ?_ ?_)
         ·intro j acc h L' S' F' i o K' hC A s H;obtain⟨va,ea,rfl,rfl,rfl,hj,hdp⟩:=hC;show ak E n (.func 130) [.ptr ab 0 0 0, .ptr pb 0 0 0] h K'=true;obtain⟨n,rfl⟩:∃m,n=m+1:=⟨n-1,by omega⟩;apply arb;unfold afz;refine aJ A.v1 rfl<|aJ A.v4 rfl ?_;rw[aC] at H;refine have hlen:=(A.f0:D9 h ea acc).get.1;W.level (lv:=0) (by omega) (by omega) A s (Post.mono H ?_ ?_)
          ·intro v i o H hd h c A s;refine have⟨w1,w2,w3⟩:=(A.f0:RB h c v).cells;aD rfl<|have V:iW va:=A.view.iW;aJ A.v1 rfl<|bI V<|iM A rfl rfl rfl rfl (dY w1 w2) rfl fun vb h A _=>aJ A.v1 rfl<|bI V<|aJ A.v4 rfl<|bI (iW.ptr _ _ _ _)<|jo A rfl A.f0.src ?_ ?_ fun va' h A _=> ?_
           ·simp;omega
           ·simp;omega
           refine fZ A rfl A.leafS fun h A=> ?_;have A:=A.dJ.imp2 (R:=fun h=>D9 h (ea++[c]) (acc++[v])) fun h R1 R2=>R2.app (D9.one R1);refine H h _ _ _ ⟨va',ea++[c],rfl,rfl,rfl,by simp;omega, ?_⟩ A s;intro b hb;rcases List.mem_append.1 hb with hb |hb
           ·exact hdp b hb
           ·simp at hb;subst hb;exact hd
          ·exact fun x f h i o A=>f h i o _ _ _ ⟨va,ea,_,rfl,rfl,rfl⟩ A
         ·intro acc i o H h L' S' F' hC A s;obtain⟨j,va,ea,rfl,rfl,rfl,hj,hdp⟩:=hC;refine aD rfl (dO rfl<|aJ A.v1 rfl<|have A:=A.freeze;have⟨H1,H2⟩:=HY H;ajq (ea:=ea) (args:=acc) (by omega) (by omega) (by omega) (fun b hb=>by have:=hdp b hb;omega) (Knows.mem (by simp)) (fun h q=>q (fun h=>D9 h ea acc) (by simp)) A ?_ ?_)
          ·refine fun hm h c A=>aD rfl ?_;unfold CB;exact have A:=A.aZ;Ku A rfl A.f0 fun h A=>H1 hm hm h c A.aZ.drop1.drop1 s
          ·exact fun hm h A=>H2 hm h i o A.dJ.dJ.aZ.aZ.aZ.aZ
         ·intro x f h i o L' S' F' hD A;obtain⟨va,ea,R,rfl,rfl,rfl⟩:=hD;exact f h i o A.freeze.dJ.dJ.aZ.aZ.aZ.aZ
        |false=>
         rw[if_neg (by rw[bq];simp)] at H;refine bE<|aJ A.v3 rfl<|lF (by omega) (by decide) A s ?_;unfold fA;cases bs:bA T i [115,105,122,101] with
         |true=>
          rw[if_pos bs,aC] at H;rw[if_pos rfl];refine aY fun h A s=>aD rfl<|bN<|aJ A.v3 rfl<|Cu (by omega) (by decide) A s (Post.mono H ?_ fun x f=>FK.pz' f.rest.rest.rest);refine fun u i1 o1 H h A s=>aD rfl<|aJ A.v3 rfl ?_;rw[aC] at H;refine W.level (lv:=0) (by omega) (by omega) A s (Post.mono H ?_ fun x f=>FK.pz' f.rest.rest.rest);refine fun v i1 o1 H hd h c A s=>aD rfl<|have⟨w1,w2,w3⟩:=(A.f0:RB h c v).cells;bO A rfl rfl rfl fun e h A=>gF A rfl w1 rfl w2 fun h A=>aJ A.v4 rfl ?_
          rw[aC] at H;refine Ls (by omega) (by decide) A s (Post.mono H ?_ fun x f=>FK.pz' f.rest.rest.rest.rest.drop);refine fun u i1 o1 H h A s=>aD rfl (dO rfl (fJ A.v1 w1<|iM A rfl rfl rfl rfl (dY w1 w2) rfl fun vb h A _=>ab3 (c:=c) (by omega) hd (by simp) (Knows.mem (by simp)) A s (Post.mono H ?_ fun x f=>FK.pz' f.rest.rest.rest.rest.drop.drop)));refine fun v2 i2 o2 H hd h c' A s=>aD rfl ?_;unfold Ci;exact have A:=A.aZ;Ku A rfl A.f0 fun h A=>H hd h c' A.aZ.drop1.drop1 s
         |false=>
          rw[if_neg (by rw[bs];simp)] at H;rw[if_neg (by simp)];refine aY fun h A s=>aD rfl<|bE<|aJ A.v3 rfl<|lF (by omega) (by decide) A s ?_;unfold fA;cases bh:bA T i [104,97,115] with
          |true=>
           rw[if_pos bh,aC] at H;rw[if_pos rfl];refine aY fun h A s=>aD rfl<|bN<|aJ A.v3 rfl<|Cu (by omega) (by decide) A s (Post.mono H ?_ fun x f=>FK.pz' f.rest.rest.rest);refine fun u i1 o1 H h A s=>aD rfl<|aJ A.v3 rfl ?_;rw[aC] at H;refine W.level (lv:=0) (by omega) (by omega) A s (Post.mono H ?_ fun x f=>FK.pz' f.rest.rest.rest);refine fun v i1 o1 H hd h c A s=>aD rfl<|have⟨w1,w2,w3⟩:=(A.f0:RB h c v).cells;bO A rfl rfl rfl fun e h A=>gF A rfl w1 rfl w2 fun h A=>aJ A.v4 rfl ?_
           rw[aC] at H;refine lg (by omega) (by decide) A s (Post.mono H ?_ fun x f=>f.rest.rest.rest.rest.drop);refine fun u i1 o1 H h A s=>aJ A.v4 rfl ?_;rw[aC] at H;refine W.level (lv:=0) (by omega) (by omega) A s (Post.mono H ?_ fun x f=>FK.pz' f.rest.rest.rest.rest.drop);refine fun v2 i1 o1 H hd2 h c2 A s=>aD rfl<|have⟨y1,y2,y3⟩:=(A.f0:RB h c2 v2).cells;bO A rfl rfl rfl fun e2 h A=>gF A rfl y1 rfl y2 fun h A=>aJ A.rest.v4 rfl ?_
           rw[aC] at H;refine Ls (by omega) (by decide) A s (Post.mono H ?_ fun x f=>FK.pz' f.rest.rest.rest.rest.rest.drop.drop);refine fun u i1 o1 H h A s=>aD rfl (dO rfl (fJ A.v2 w1 (fJ A.v1 y1<|iM A rfl rfl rfl rfl (Iy w1 w2 y1 y2) rfl fun vb h A _=>ahw (c:=c) (c':=c2) (by omega) hd hd2 (by simp) (by simp) (Knows.mem (by simp)) A s (Post.mono H ?_ fun x f=>FK.pz' f.rest.rest.rest.rest.rest.drop.drop.drop))));refine fun v3 i2 o2 H hd h c' A s=>aD rfl ?_;unfold Cq;exact have A:=A.aZ.aZ;Ku A rfl A.f0 fun h A=>H hd h c' A.aZ.drop1.drop1.drop1 s
          |false=>
           rw[if_neg (by rw[bh];simp),aC] at H;rw[if_neg (by simp)];refine aY fun h A s=>aD rfl<|bE<|aJ A.v3 rfl<|EZ (by omega) A s (Post.mono H ?_ fun x f=>FK.pz' f.rest.rest.rest);refine fun t i o H h A s=>aD rfl<|dO rfl (dO rfl ?_);have A:=A.add (R:=fun h=>RB h (cEx 3 t++[.int .i64 1]) ⟨jr 3 t,1⟩) fun h _=>⟨cEx 3 t,rfl,RE.op 3 t⟩;exact Ku (c:=cEx 3 t++[.int .i64 1]) A rfl A.f0 fun h A=>H (show(1:Nat)≤30 by decide) h _ A.aZ s
theorem adl:∀k,k≤100000→WB tv p mp en T k
 |0,_=>⟨fun _ _ _ _ H=>absurd H (by unfold bP;exact fun q=>q),fun _ _ _ _ _ _ _ H=>absurd H (by unfold qU;exact fun q=>q),fun _ _ _ H=>absurd H (by unfold jK;exact fun q=>q),
   fun _ _ _ H=>absurd H (by unfold sJ;exact fun q=>q),fun _ _ _ _ _ _ H=>absurd H (by unfold qy;exact fun q=>q),fun _ _ _ H=>absurd H (by unfold qA;exact fun q=>q)⟩
 |k+1,hk=>by
  exact have W:=adl k (by omega);⟨Xz W,acp W,abk W,aaZ W,aaA W,abo (by omega) W⟩
def OkE (K:aK) (p mp en:Nat) (tv:AV) (T:List Lx) (L:gB) (S:List Sl) (F:List (ah→Prop)):Ex→Nat→Int→Prop:=fun v i o=>∀h c,Cx h (vr p (pc tv mp en i o) :: L) S ((fun h=>RE h c v) :: F)→dM T en i o→K (.agg c) h=true
theorem Sy [b:dN tv mp T F] {k:Nat} (hk:k≤100000) (hn:4*k+41≤n) (A:Cx h (vr p (pc tv mp en i o) :: L) S F) (s:dM T en i o)
 (H:Post (jw T k i o) (OkE K p mp en tv T L S F) (FK K p mp en tv T L S F)):ak E n (.func 79) [.ptr p 0 0 0] h K=true:=by
 obtain⟨n,rfl⟩:∃m,n=m+1:=⟨n-1,by omega⟩;apply d79;unfold s79;unfold jw at H;rw[aC] at H;refine bO A rfl rfl rfl fun r h A=>(adl k hk).level (lv:=0) (by omega) (by omega) A s (Post.mono H ?_ fun x f=>FK.pz' f.rest);refine fun v i o H hd h c A s=>aD rfl ?_;obtain⟨ce,rfl,R⟩:=(A.f0:RB h c v);refine have⟨w1,w2,w3⟩:=R.cells;qJ (v:= .agg ce) ?_ ?_
 ·simp only[NA,mM,cond_true,List.length_append,w1,List.length_cons,List.length_nil,List.drop_zero];rw[List.take_append_of_le_length (by omega),List.take_of_length_le (by omega)];rfl
 refine gF A rfl w1 rfl w2 fun h A=>sI A.v1 w1<|H h ce (A.aZ.imp fun h R=> ?_) s;have⟨ce',e,R⟩:=R;have⟨q1,_⟩:=List.append_inj' e rfl;rw[q1];exact R
end
def pX (h:ah):List (List AV)→List (Str×Ex)→Prop
 |es,[]=>es=[]
 |es,g :: l=>∃ce r,es=(.str g.1 :: ce) :: r∧RE h ce g.2∧pX h r l
def oF (b:Str×Str):List AV:=[.str b.1, .str b.2]
mutual
def RC (h:ah):List AV→Cd→Prop
 |a, .mk kind var cls binds tests conds thn alts e fn name args=>∃vb vt et vc ec vn en va ea ce vg eg,a=[.int .i64 kind, .str var, .str cls,vb,vt,vc,vn,va]++(ce++[.str fn, .str name,vg])∧
   View h 2 vb (binds.map oF)∧View h 8 vt et∧mH h et tests∧View h 19 vc ec∧eY h ec conds∧View h 19 vn en∧eY h en thn∧View h 1 va ea∧eH h ea alts∧RE h ce e∧View h 9 vg eg∧pX h eg args
def eY (h:ah):List (List AV)→List Cd→Prop
 |es,[]=>es=[]
 |es,c :: l=>∃a r,es=a :: r∧RC h a c∧eY h r l
def eH (h:ah):List (List AV)→List (List Cd)→Prop
 |es,[]=>es=[]
 |es,l :: m=>∃v ec r,es=[v] :: r∧View h 19 v ec∧eY h ec l∧eH h r m
end
section
variable {h:ah} {L:gB} {S:List Sl} {F:List (ah→Prop)} {p mp en i n:Nat} {o:Int} {tv:AV} {T:List Lx} {K Q k:aK}
@[reducible] def CS:List AV:=[.int .i64 0, .str [], .str [], .au, .au, .au, .au, .au, .int .i64 0, .str [], .int .i64 0, .bool false, .int .i64 0, .str [], .au, .au, .str [], .str [], .au]
theorem pX.app {es es':List (List AV)} {l l':List (Str×Ex)} (R:pX h es l) (R':pX h es' l'):pX h (es++es') (l++l'):=by
 induction l generalizing es with
 |nil=>simp only[pX] at R;subst R;exact R'
 |cons b l ih=>
  simp only[pX] at R;obtain⟨c,r,rfl,R1,R2⟩:=R;exact⟨c,r++es',rfl,R1,ih R2⟩
theorem pX.one {c:List AV} {t:Str} {e:Ex} (R:RE h c e):pX h [.str t :: c] [(t,e)]:=⟨c,[],rfl,R,rfl⟩
theorem pX.len {es:List (List AV)} {l:List (Str×Ex)} (R:pX h es l):es.length=l.length:=by
 induction l generalizing es with
 |nil=>simp only[pX] at R;subst R;rfl
 |cons b l ih=>
  simp only[pX] at R;obtain⟨c,r,rfl,R1,R2⟩:=R;simp[ih R2]
theorem mH.app {es es':List (List AV)} {l l':List Ex} (R:mH h es l) (R':mH h es' l'):mH h (es++es') (l++l'):=by
 induction l generalizing es with
 |nil=>simp only[mH] at R;subst R;exact R'
 |cons b l ih=>
  simp only[mH] at R;obtain⟨c,r,rfl,R1,R2⟩:=R;simp only[List.cons_append,mH];exact⟨c,r++es',rfl,R1,ih R2⟩
theorem mH.one {c:List AV} {e:Ex} (R:RE h c e):mH h [c] [e]:=by simp only[mH];exact⟨c,[],rfl,R,rfl⟩
theorem mH.nil:mH h [] []:=by simp[mH]
theorem mH.len {es:List (List AV)} {l:List Ex} (R:mH h es l):es.length=l.length∧∀e∈es,e.length=8:=by
 induction l generalizing es with
 |nil=>simp only[mH] at R;subst R;simp
 |cons b l ih=>
  simp only[mH] at R;obtain⟨c,r,rfl,R1,R2⟩:=R;have:=ih R2;refine⟨by simp[this.1],fun e he=> ?_⟩;rcases List.mem_cons.1 he with rfl |he
  ·exact R1.cells.1
  ·exact this.2 e he
theorem eY.nil:eY h [] []:=by simp[eY]
theorem eH.nil:eH h [] []:=by simp[eH]
theorem eY.app {es es':List (List AV)} {l l':List Cd} (R:eY h es l) (R':eY h es' l'):eY h (es++es') (l++l'):=by
 induction l generalizing es with
 |nil=>simp only[eY] at R;subst R;exact R'
 |cons b l ih=>
  simp only[eY] at R;obtain⟨c,r,rfl,R1,R2⟩:=R;simp only[List.cons_append,eY];exact⟨c,r++es',rfl,R1,ih R2⟩
theorem eY.one {c:List AV} {e:Cd} (R:RC h c e):eY h [c] [e]:=by simp only[eY];exact⟨c,[],rfl,R,rfl⟩
theorem eY.len {es:List (List AV)} {l:List Cd} (R:eY h es l):es.length=l.length:=by
 induction l generalizing es with
 |nil=>simp only[eY] at R;subst R;rfl
 |cons b l ih=>
  simp only[eY] at R;obtain⟨c,r,rfl,R1,R2⟩:=R;simp[ih R2]
theorem eH.app {es es':List (List AV)} {l l':List (List Cd)} (R:eH h es l) (R':eH h es' l'):eH h (es++es') (l++l'):=by
 induction l generalizing es with
 |nil=>simp only[eH] at R;subst R;exact R'
 |cons b l ih=>
  simp only[eH] at R;obtain⟨v,ec,r,rfl,R1,R2,R3⟩:=R;simp only[List.cons_append,eH];exact⟨v,ec,r++es',rfl,R1,R2,ih R3⟩
theorem eH.one {v:AV} {ec:List (List AV)} {l:List Cd} (V:View h 19 v ec) (R:eY h ec l):eH h [[v]] [l]:=by simp only[eH];exact⟨v,ec,[],rfl,V,R,rfl⟩
theorem eH.len {es:List (List AV)} {l:List (List Cd)} (R:eH h es l):es.length=l.length:=by
 induction l generalizing es with
 |nil=>simp only[eH] at R;subst R;rfl
 |cons b l ih=>
  simp only[eH] at R;obtain⟨v,ec,r,rfl,R1,R2,R3⟩:=R;simp[ih R3]
theorem RC.cells {a:List AV} {c:Cd} (R:RC h a c):a.length=19∧aB a=true∧uD a:=by
 have⟨kind,var,cls,binds,tests,conds,thn,alts,e,fn,name,args⟩:=c;simp only[RC] at R;obtain⟨vb,vt,et,vc,ec,vn,en,va,ea,ce,vg,eg,rfl,h1,h2, -,h3, -,h4, -,h5, -,h6,h7, -⟩:=R;refine have⟨w1,w2,w3⟩:=h6.cells;⟨by simp[w1], ?_, ?_⟩
 ·refine gL ?_ (gL w2 ?_)
  ·exact aF rfl (aF rfl (aF rfl (aF h1.leaf (aF h2.leaf (aF h3.leaf (aF h4.leaf (aF h5.leaf rfl)))))))
  ·exact aF rfl (aF rfl (aF h7.leaf rfl))
 ·exact uD.app (.cons (.int _ _) (.cons (.str _) (.cons (.str _) (.cons h1.iW (.cons h2.iW (.cons h3.iW (.cons h4.iW (.cons h5.iW .nil)))))))) (w3.app (.cons (.str _) (.cons (.str _) (.cons h7.iW .nil))))
theorem RC.put {kind:Int} {var cls fn name:Str} {binds:List (Str×Str)} {tests:List Ex} {conds thn:List Cd} {alts:List (List Cd)} {e:Ex} {args:List (Str×Ex)} {vb vt vc vn va vg:AV} {et ec ne ea eg:List (List AV)} {ce:List AV}
 (h1:View h 2 vb (binds.map oF)) (h2:View h 8 vt et) (r2:mH h et tests) (h3:View h 19 vc ec) (r3:eY h ec conds) (h4:View h 19 vn ne) (r4:eY h ne thn) (h5:View h 1 va ea) (r5:eH h ea alts) (r6:RE h ce e) (h7:View h 9 vg eg) (r7:pX h eg args):
 RC h ([.int .i64 kind, .str var, .str cls,vb,vt,vc,vn,va]++(ce++[.str fn, .str name,vg])) (.mk kind var cls binds tests conds thn alts e fn name args):=by
 simp only[RC];exact⟨vb,vt,et,vc,ec,vn,ne,va,ea,ce,vg,eg,rfl,h1,h2,r2,h3,r3,h4,r4,h5,r5,r6,h7,r7⟩
theorem RE.zero:RE h Z8 wm:=RE.op 0 []
def XF (K:aK) (p mp en:Nat) (tv:AV) (T:List Lx) (L:gB) (S:List Sl) (F:List (ah→Prop)):Cd→Nat→Int→Prop:=fun v i o=>∀h c,Cx h (vr p (pc tv mp en i o) :: L) S ((fun h=>RC h c v) :: F)→dM T en i o→K (.agg c) h=true
theorem xZ {e1:Nat×fC} {r:Nat} {c c0:List AV} {v:Cd} {F':List (ah→Prop)} (A:Cx h (e1 :: vr r c0 :: L) S F') (h0:c0.length=19) (R:RC h c v) (s:∀h,Cx h (e1 :: L) S F'→K (.agg c) h=true):
 (aL h 19 (.ptr r 0 0 0) (.agg c) fun h=>gI (fF h [(.ptr r 0 0 0,some (true,19))]) h K)=true:=by
 exact have⟨w1,w2,_⟩:=R.cells;gF A rfl w1 h0 w2 fun h A=>sI A.v1 w1 (s h A.aZ)
theorem ahB {z:List AV} {off n:Nat} {v:AV} (h1:v.cells.length=n) (h2:Nat.ble (off+n) z.length=true) (h3:aB v.cells=true):o7 z [(off,n,v)]=some (lay z off v.cells):=by
 simp only[o7,h1,aG.2 rfl,h2,h3,Bool.and_self,cond_true]
theorem len8 {l:List AV} (h:l.length=8):∃a b c d e f g k,l=[a,b,c,d,e,f,g,k]:=by
 match l,h with
 | [a,b,c,d,e,f,g,k],_=>exact⟨a,b,c,d,e,f,g,k,rfl⟩
@[reducible] def QM (nm:Str) (vg:AV):List AV:=[.int .i64 9, .str [], .str [], .au, .au, .au, .au, .au, .int .i64 0, .str [], .int .i64 0, .bool false, .int .i64 0, .str [], .au, .au, .str [], .str nm,vg]
theorem anA {kk:Nat} (hk:kk≤100000) (hn:4*kk+60≤n) [b:dN tv mp T F] {pb c r:Nat} {nm:Str} {vg:AV} {eg:List (List AV)} {acc:List (Str×Ex)} (hacc:acc.length≤100000)
 (A:Cx h (vr p (pc tv mp en i o) :: vr c (QM nm vg) :: vr r CS :: vr pb [.ptr p 0 0 0] :: L) (⟨vg,9,eg⟩ :: S) ((fun h=>pX h eg acc) :: F)) (s:dM T en i o)
 (H:Post (um T kk acc i o)
   (fun acc' i o=>acc'.length=acc.length+1→∀h vg eg,Cx h (vr p (pc tv mp en i o) :: vr c (QM nm vg) :: vr r CS :: vr pb [.ptr p 0 0 0] :: L) (⟨vg,9,eg⟩ :: S) ((fun h=>pX h eg acc') :: F)→dM T en i o→K (.tup []) h=true)
   (fun x=>∀h i o vg eg R,Cx h (vr p (pc tv mp en i o) :: vr c (QM nm vg) :: vr r CS :: vr pb [.ptr p 0 0 0] :: L) (⟨vg,9,eg⟩ :: S) (R :: F)→K (flt T en x) h=true)):
 ak E n (.func 107) [.ptr pb 0 0 0, .ptr c 0 0 0] h K=true:=by
 obtain⟨n,rfl⟩:∃m,n=m+1:=⟨n-1,by omega⟩;have hmo:most=1099511627776:=rfl;apply aot;unfold agQ;refine aJ A.v3 rfl<|Xf (k:=1) (by omega) A s fun h A=>aD rfl ?_;unfold G6;unfold um at H;have hlen:=(A.f0:pX h eg acc).len;have expr:∀{h},Cx h (vr p (pc tv mp en i o) :: vr c (QM nm vg) :: vr r CS :: vr pb [.ptr p 0 0 0] :: L) (⟨vg,9,eg⟩ :: S) ((fun h=>pX h eg acc) :: F)→
  Post (bnd (jw T kk) (fun e=>ret (acc++[([],e)])) i o) (fun acc' i o=>acc'.length=acc.length+1→∀h vg eg,Cx h (vr p (pc tv mp en i o) :: vr c (QM nm vg) :: vr r CS :: vr pb [.ptr p 0 0 0] :: L) (⟨vg,9,eg⟩ :: S) ((fun h=>pX h eg acc') :: F)→dM T en i o→K (.tup []) h=true)
   (fun x=>∀h i o vg eg R,Cx h (vr p (pc tv mp en i o) :: vr c (QM nm vg) :: vr r CS :: vr pb [.ptr p 0 0 0] :: L) (⟨vg,9,eg⟩ :: S) (R :: F)→K (flt T en x) h=true)→
  (ak E n (.func 79) [.ptr p 0 0 0] h <| pz K fun v21 h=>av h (.ptr c 0 0 18) <| bS vg <| dK [.str [], .int .i64 0, .str [], .int .i64 0, .bool false, .int .i64 0, .str [], .au, .au] [(1,8,v21)] fun v22=>aQ (aO h 1 9 [.str [], .int .i64 0, .str [], .int .i64 0, .bool false, .int .i64 0, .str [], .au, .au] [(0,v22)]) fun v23 h=>av h (.ptr c 0 0 18) <| bS vg <| av h (.ptr pb 0 0 0) <| bS (.ptr p 0 0 0) <| jO h 9 128 vg v23 fun v24 h=>aA 18 (.ptr c 0 0 0) fun v25=>aV h v25 v24 fun h=>K (.tup []) h)=true:=by
  intro h A H;have V:iW vg:=A.view.iW;rw[aC] at H;refine Sy hk (by omega) A s (Post.mono H ?_ ?_)
  ·intro e i o H h ce A s;refine have⟨w1,w2,w3⟩:=(A.f0:RE h ce e).cells;aD rfl<|aJ A.v1 rfl<|bI V<|dO (ahB w1 rfl w2) ?_
   have e1:lay [AV.str [], .int .i64 0, .str [], .int .i64 0, .bool false, .int .i64 0, .str [], .au, .au] 1 (AV.agg ce).cells= .str [] :: ce:=by
    obtain⟨_,_,_,_,_,_,_,_,rfl⟩:=len8 w1;rfl
   rw[e1];refine iM A rfl rfl rfl rfl (dY (by simp[w1]) (aF rfl w2)) rfl fun vb h A _=>aJ A.v1 rfl<|bI V<|aJ A.v3 rfl<|bI (iW.ptr _ _ _ _)<|jo A rfl A.f0.src ?_ ?_ fun vg' h A _=> ?_
   ·simp;omega
   ·simp;omega
   refine ay<|fZ A rfl A.leafS fun h A=> ?_;have A:=A.dJ.imp2 (R:=fun h=>pX h (eg++[.str [] :: ce]) (acc++[([],e)])) fun h R1 R2=>R2.app (pX.one R1);exact H (by simp) h vg' _ A s
  ·exact fun x f h i o A=>f h i o _ _ _ A
 cases e1:dS T i 1 with
 |false=>
  rw[e1,Bool.false_and,if_neg (by simp)] at H;exact eZ<|sK<|gD<|bE<|ay<|aJ A.v1 rfl<|aJ A.v3 rfl<|expr A H
 |true=>
  refine cO<|aJ A.v3 rfl<|iU<|Dc (d:=1) (by omega) (by omega) (by decide) A s fun h A=>aD rfl ?_;unfold z8;cases e2:bA T (i+1) [63] with
  |false=>
   rw[e1,e2,if_neg (by simp)] at H;exact fH<|bE<|ay<|aJ A.v1 rfl<|aJ A.v3 rfl<|expr A H
  |true=>
   rw[e1,e2,if_pos (by simp),aC] at H;refine have V:iW vg:=A.view.iW;fH<|bN<|ay<|aJ A.v1 rfl<|aJ A.v3 rfl<|Xi (by omega) A s (Post.mono H ?_ ?_)
   ·refine fun v i o H h A s=>aD rfl<|aJ A.v1 rfl<|bI V<|dO rfl<|iM A rfl rfl rfl rfl rfl rfl fun vb h A _=>aJ A.v1 rfl<|bI V<|aJ A.v3 rfl<|bI (iW.ptr _ _ _ _)<|jo A rfl A.f0.src ?_ ?_ fun vg' h A _=> ?_
    ·show(eg.length+1)*128≤most;omega
    ·show eg.length+1≤most;omega
    refine ay<|fZ A rfl A.leafS fun h A=> ?_;have A:=A.dJ.imp (R:=fun h=>pX h (eg++[.str v :: Z8]) (acc++[(v,wm)])) fun h R2=>R2.app (pX.one RE.zero);refine aJ A.v3 rfl ?_;rw[aC] at H;refine lg (by omega) (by decide) A s (Post.mono H ?_ ?_)
    ·exact fun u i o H h A s=>H (by simp) h vg' _ A s
    ·exact fun x f h i o A=>f h i o _ _ _ A
   ·exact fun x f h i o A=>f h i o _ _ _ A
theorem aoB {kk:Nat} (hk:kk≤100000) (hn:4*kk+70≤n) [b:dN tv mp T F] (A:Cx h (vr p (pc tv mp en i o) :: L) S F) (s:dM T en i o)
 (H:Post (Uh T kk i o) (XF K p mp en tv T L S F) (FK K p mp en tv T L S F)):ak E n (.func 89) [.ptr p 0 0 0] h K=true:=by
 obtain⟨n,rfl⟩:∃m,n=m+1:=⟨n-1,by omega⟩;apply d89;unfold s89;refine VB A rfl fun pb h A=>bO A rfl rfl rfl fun r h A=>aJ A.v2 rfl ?_;unfold Uh at H;rw[aC] at H;refine EZ (by omega) A s (Post.mono H ?_ fun x f=>FK.pz' f.rest.rest);refine fun nm i o H h A s=>aD rfl<|dO rfl<|bO A rfl rfl rfl fun c h A=>gF A rfl rfl rfl rfl fun h A=>aJ A.v3 rfl ?_;rw[aC] at H;refine Cu (by omega) (by decide) A s (Post.mono H ?_ fun x f=>FK.pz' f.rest.rest.rest);refine fun u i o H h A s=>aD rfl<|aJ A.v3 rfl<|bU ?_;rw[aC] at H;obtain⟨n,rfl⟩:∃m,n=m+1:=⟨n-1,by omega⟩;have A:=(A.slc 9).tru (R:=fun h=>pX h [] []) fun h=>rfl;refine ab4 (one:=um T kk) (kk:=kk) (s:=[])
  (C:=fun j acc L' S' F'=>∃vg eg,L'=vr c (QM nm vg) :: vr r CS :: vr pb [.ptr p 0 0 0] :: L∧S'=⟨vg,9,eg⟩ :: S∧F'=(fun h=>pX h eg acc) :: F∧acc.length+j≤kk)
  (D:=fun L' S' F'=>∃vg eg R,L'=vr c (QM nm vg) :: vr r CS :: vr pb [.ptr p 0 0 0] :: L∧S'=⟨vg,9,eg⟩ :: S∧F'=R :: F)
  (fun{j s L S F} hC=>by obtain⟨_,_,_,_,rfl,_⟩:=hC;infer_instance)
  (fun{j s L S F} hC=>by obtain⟨vg,eg,h1,h2,h3,_⟩:=hC;exact⟨vg,eg,_,h1,h2,h3⟩)
  (by omega) (by decide) ?_ ⟨.au,[],rfl,rfl,rfl,by simp⟩ A s (Post.mono H ?_ ?_)
 ·intro j acc h L' S' F' i o K' hC A s H;obtain⟨vg,eg,rfl,rfl,rfl,hj⟩:=hC;show ak E n (.func 107) [.ptr pb 0 0 0, .ptr c 0 0 0] h K'=true;refine anA hk (by omega) (by omega) A s (Post.mono H ?_ ?_)
  ·exact fun acc' i o H hl h vg eg A s=>H h _ _ _ ⟨vg,eg,rfl,rfl,rfl,by omega⟩ A s
  ·exact fun x f h i o vg eg R A=>f h i o _ _ _ ⟨vg,eg,R,rfl,rfl,rfl⟩ A
 ·intro acc i o H h L' S' F' hC A s;obtain⟨j,vg,eg,rfl,rfl,rfl,hj⟩:=hC;refine aD rfl (fJ A.v1 rfl<|have A:=A.freeze;?_);have A:=A.aZ.imp2 (R:=fun h=>RC h (QM nm vg) (.mk 9 [] [] [] [] [] [] [] wm [] nm acc)) fun h V R=>
   RC.put (ce:=Z8) (View.nil h 2) (View.nil h 8) mH.nil (View.nil h 19) eY.nil (View.nil h 19) eY.nil (View.nil h 1) eH.nil RE.zero V R
  exact xZ A rfl A.f0 fun h A=>H h _ A.aZ s
 ·intro x f h i o L' S' F' hD A;obtain⟨vg,eg,R,rfl,rfl,rfl⟩:=hD;exact f h i o A.freeze.dJ.dJ.aZ.aZ.aZ
end
section
variable {h:ah} {L:gB} {S:List Sl} {F:List (ah→Prop)} {p mp en i n:Nat} {o:Int} {tv:AV} {T:List Lx} {K Q k:aK}
@[reducible] def JJ (v cl:Str) (vb vt:AV):List AV:=[.int .i64 1, .str v, .str cl,vb,vt, .au, .au, .au, .int .i64 0, .str [], .int .i64 0, .bool false, .int .i64 0, .str [], .au, .au, .str [], .str [], .au]
theorem aqC {kk:Nat} (hk:kk≤100000) (hn:4*kk+60≤n) [b:dN tv mp T F] {pb c r:Nat} {w cl:Str} {vb vt:AV} {et:List (List AV)} {bs:List (Str×Str)} {ts:List Ex} (hacc:bs.length+ts.length≤100000)
 (A:Cx h (vr p (pc tv mp en i o) :: vr c (JJ w cl vb vt) :: vr r CS :: vr pb [.ptr p 0 0 0] :: L) (⟨vb,2,bs.map oF⟩ :: ⟨vt,8,et⟩ :: S) ((fun h=>mH h et ts) :: F)) (s:dM T en i o)
 (H:Post (qN T kk (bs,ts) i o)
   (fun s' i o=>s'.1.length+s'.2.length=bs.length+ts.length+1→∀h vb vt et,Cx h (vr p (pc tv mp en i o) :: vr c (JJ w cl vb vt) :: vr r CS :: vr pb [.ptr p 0 0 0] :: L) (⟨vb,2,s'.1.map oF⟩ :: ⟨vt,8,et⟩ :: S) ((fun h=>mH h et s'.2) :: F)→dM T en i o→K (.tup []) h=true)
   (fun x=>∀h i o vb vt et R,Cx h (vr p (pc tv mp en i o) :: vr c (JJ w cl vb vt) :: vr r CS :: vr pb [.ptr p 0 0 0] :: L) (⟨vb,2,bs.map oF⟩ :: ⟨vt,8,et⟩ :: S) (R :: F)→K (flt T en x) h=true)):
 ak E n (.func 108) [.ptr pb 0 0 0, .ptr c 0 0 0] h K=true:=by
 obtain⟨n,rfl⟩:∃m,n=m+1:=⟨n-1,by omega⟩;have hmo:most=1099511627776:=rfl;have hlim:=sS;apply aor;unfold afv;refine aJ A.v3 rfl<|Xf (k:=1) (by omega) A s fun h A=>aD rfl ?_;unfold FP;unfold qN at H;have hlen:=(A.f0:mH h et ts).len;have expr:∀{h},Cx h (vr p (pc tv mp en i o) :: vr c (JJ w cl vb vt) :: vr r CS :: vr pb [.ptr p 0 0 0] :: L) (⟨vb,2,bs.map oF⟩ :: ⟨vt,8,et⟩ :: S) ((fun h=>mH h et ts) :: F)→
  Post (bnd (jw T kk) (fun e=>ret (bs,ts++[e])) i o)
  (fun s' i o=>s'.1.length+s'.2.length=bs.length+ts.length+1→∀h vb vt et,Cx h (vr p (pc tv mp en i o) :: vr c (JJ w cl vb vt) :: vr r CS :: vr pb [.ptr p 0 0 0] :: L) (⟨vb,2,s'.1.map oF⟩ :: ⟨vt,8,et⟩ :: S) ((fun h=>mH h et s'.2) :: F)→dM T en i o→K (.tup []) h=true)
  (fun x=>∀h i o vb vt et R,Cx h (vr p (pc tv mp en i o) :: vr c (JJ w cl vb vt) :: vr r CS :: vr pb [.ptr p 0 0 0] :: L) (⟨vb,2,bs.map oF⟩ :: ⟨vt,8,et⟩ :: S) (R :: F)→K (flt T en x) h=true)→
  (fI vt fun v23=>aQ (aO h 1 8 [.int .i64 0, .str [], .int .i64 0, .bool false, .int .i64 0, .str [], .au, .au] [(0,(.agg [.int .i64 0, .str [], .int .i64 0, .bool false, .int .i64 0, .str [], .au, .au]))]) fun v24 h=>av h (.ptr c 0 0 4) <| bS vt <| av h (.ptr pb 0 0 0) <| bS (.ptr p 0 0 0) <| fI vt <| bS v23 <| ak E n (.func 79) [.ptr p 0 0 0] h <| pz (uZ [v24] K) fun v25 h=>av h (.ptr c 0 0 4) <| bS vt <| fI vt <| bS v23 <| jO h 8 112 vt v24 fun v26 h=>dG h 8 v26 v23 fun v27=>aA 4 (.ptr c 0 0 0) fun v28=>aQ (bif sj v27 v28 then unit (bM h 8 v27 v25) else none) fun _ h=>aV h v28 v26 fun h=>dG h 8 v26 v23 <| bS v27 <| K (.tup []) h)=true:=by
  intro h A H;refine have V:iW vt:=A.swapS.view.iW;dZ A.swapS.view<|EN (es:=[Z8]) A rfl rfl rfl rfl rfl rfl fun q h A=>aJ A.v2 rfl (bI V<|aJ A.v4 rfl (bI (iW.ptr _ _ _ _)<|dZ A.swapS.view (bI (iW.int _ _) ?_)))
  rw[aC] at H;refine Sy hk (by omega) A s (Post.mono H ?_ ?_)
  ·intro e i o H h ce A s;refine have⟨w1,w2,w3⟩:=(A.f0:RE h ce e).cells;aD rfl (aJ A.v2 rfl (bI V<|dZ A.swapS.view (bI (iW.int _ _)<|have A:=A.swapS;jo A rfl A.rowL.src ?_ ?_ fun vt' h A _=> ?_)))
   ·show(et.length+1)*112≤most;omega
   ·show et.length+1≤most;omega
   have A:=A.aZ;have hall:∀e∈et++[Z8],e.length=8:=by
    intro e he;rcases List.mem_append.1 he with he |he
    ·exact hlen.2 e he
    ·simp at he;subst he;rfl
   refine have⟨id,g,hv,ia,hne,st⟩:=A.elem (j:=et.length) (by simp) hall;uP (ia _) (ay<|have⟨h',e1,A',ia'⟩:=st ce w1 w2;?_)
   have hap:sj (.ptr id g et.length 0) (.ptr c 0 0 (0+4))=true:=by
    have:=hne (vr c (JJ w cl vb vt)) (by simp);simp only[sj,Bool.not_eq_true',dF];exact fun q=>this q.symm
   rw[hap,cond_true,e1];show aV h' _ _ _=true;rw[show(et++[Z8]).set et.length ce=et++[ce] from by simp] at A'
   refine fZ A' rfl A'.leafS fun h A=> ?_;have hall:∀e∈et++[ce],e.length=8:=by
    intro e he;rcases List.mem_append.1 he with he |he
    ·exact hlen.2 e he
    ·simp at he;subst he;exact w1
   have⟨id2,g2,hv2,ia2,_⟩:=A.elem (j:=et.length) (by simp) hall;rw[hv2] at hv;have⟨q1,q2,_⟩:=AV.slc.inj hv;subst q1;subst q2;refine uP (ia2 _) (bI (iW.ptr _ _ _ _) ?_);have A:=A.swapS.imp2 (R:=fun h=>mH h (et++[ce]) (ts++[e])) fun h R1 R2=>R2.app (mH.one R1);exact H (by simp;omega) h vb _ _ A s
  ·exact fun x f=>FK.pz' fun h i o A=>xW rfl rfl A fun h A=>f h i o _ _ _ _ A
 cases e1:dS T i 1 with
 |false=>
  rw[e1,Bool.false_and,if_neg (by simp)] at H;exact eZ<|sK<|gD<|bE<|ay<|aJ A.v1 rfl<|aJ A.v3 rfl<|expr A H
 |true=>
  refine cO<|aJ A.v3 rfl<|iU<|Dc (d:=1) (by omega) (by omega) (by decide) A s fun h A=>aD rfl ?_;unfold zX;cases e2:bA T (i+1) [58] with
  |false=>
   rw[e1,e2,if_neg (by simp)] at H;exact fH<|bE<|ay<|aJ A.v1 rfl<|aJ A.v3 rfl<|expr A H
  |true=>
   rw[e1,e2,if_pos (by simp),aC] at H;refine have V:iW vb:=A.view.iW;fH<|bN<|aJ A.v3 rfl<|Xi (by omega) A s (Post.mono H ?_ ?_)
   ·refine fun v i o H h A s=>aD rfl<|aJ A.v3 rfl ?_;rw[aC] at H;refine lg (by omega) (by decide) A s (Post.mono H ?_ ?_)
    ·refine fun u i o H h A s=>ay<|aJ A.v1 rfl<|aJ A.v3 rfl ?_;rw[aC] at H;refine EZ (by omega) A s (Post.mono H ?_ ?_)
     ·refine fun f i o H h A s=>aD rfl<|aJ A.v1 rfl<|bI V<|dO rfl<|iM A rfl rfl rfl rfl rfl rfl fun vq h A _=>aJ A.v1 rfl<|bI V<|aJ A.v3 rfl<|bI (iW.ptr _ _ _ _)<|jo A rfl A.f0.src ?_ ?_ fun vb' h A _=> ?_
      ·show((bs.map oF).length+1)*32≤most;rw[List.length_map];omega
      ·show(bs.map oF).length+1≤most;rw[List.length_map];omega
      refine ay<|fZ A rfl A.leafS fun h A=>H (by simp;omega) h vb' vt et ?_ s;rw[show(bs++[(v,f)]).map oF=bs.map oF++[[.str v, .str f]] from by simp[oF]]
      exact A.dJ
     ·exact fun x f h i o A=>f h i o _ _ _ _ A
    ·exact fun x f h i o A=>f h i o _ _ _ _ A
   ·exact fun x f h i o A=>f h i o _ _ _ _ A
theorem K6 {kk:Nat} (hk:kk≤100000) (hn:4*kk+65≤n) [b:dN tv mp T F] {pb c r:Nat} {w:Str} (A:Cx h (vr p (pc tv mp en i o) :: vr c (JJ w [] .au .au) :: vr r CS :: vr pb [.ptr p 0 0 0] :: L) S F) (s:dM T en i o)
 (H:Post (mQ T kk w i o) (XF K p mp en tv T L S F) (FK K p mp en tv T L S F)):K3 (ak E n) n (.ptr pb 0 0 0) (.ptr r 0 0 0) (.ptr c 0 0 0) h K=true:=by
 unfold K3;refine aJ A.v3 rfl ?_;unfold mQ at H;rw[aC] at H;refine EZ (by omega) A s (Post.mono H ?_ fun x f=>FK.pz' f.rest.rest.rest);refine fun cl i o H h A s=>aD rfl<|ay<|fZ A rfl rfl fun h A=>aJ A.v3 rfl ?_;rw[aC] at H;refine Cu (by omega) (by decide) A s (Post.mono H ?_ fun x f=>FK.pz' f.rest.rest.rest);refine fun u i o H h A s=>aD rfl<|aJ A.v3 rfl<|bU ?_;rw[aC] at H;obtain⟨n,rfl⟩:∃m,n=m+1:=⟨n-1,by omega⟩;have A:=((A.slc 8).slc 2).tru (R:=fun h=>mH h [] []) fun h=>mH.nil;refine ab4 (one:=qN T kk) (kk:=kk) (s:=([],[]))
  (C:=fun j st L' S' F'=>∃vb vt et,L'=vr c (JJ w cl vb vt) :: vr r CS :: vr pb [.ptr p 0 0 0] :: L∧S'=⟨vb,2,st.1.map oF⟩ :: ⟨vt,8,et⟩ :: S∧F'=(fun h=>mH h et st.2) :: F∧st.1.length+st.2.length+j≤kk)
  (D:=fun L' S' F'=>∃(vb vt:AV) (et:List (List AV)) (bs:List (Str×Str)) (R:ah→Prop),L'=vr c (JJ w cl vb vt) :: vr r CS :: vr pb [.ptr p 0 0 0] :: L∧S'=⟨vb,2,bs.map oF⟩ :: ⟨vt,8,et⟩ :: S∧F'=R :: F)
  (fun{j s L S F} hC=>by obtain⟨_,_,_,_,_,rfl,_⟩:=hC;infer_instance)
  (fun{j s L S F} hC=>by obtain⟨vb,vt,et,h1,h2,h3,_⟩:=hC;exact⟨vb,vt,et,_,_,h1,h2,h3⟩)
  (by omega) (by decide) ?_ ⟨.au, .au,[],rfl,rfl,rfl,by simp⟩ A s (Post.mono H ?_ ?_)
 ·intro j st h L' S' F' i o K' hC A s H;obtain⟨vb,vt,et,rfl,rfl,rfl,hj⟩:=hC;have⟨bs,ts⟩:=st;simp only at hj;show ak E n (.func 108) [.ptr pb 0 0 0, .ptr c 0 0 0] h K'=true;refine have hj':bs.length+ts.length+(j+1)≤kk:=hj;aqC (bs:=bs) (ts:=ts) hk (by omega) (by omega) A s (Post.mono H ?_ ?_)
  ·exact fun s' i o H hl h vb vt et A s=>H h _ _ _ ⟨vb,vt,et,rfl,rfl,rfl,by omega⟩ A s
  ·exact fun x f h i o vb vt et R A=>f h i o _ _ _ ⟨vb,vt,et,bs,R,rfl,rfl,rfl⟩ A
 ·intro st i o H h L' S' F' hC A s;obtain⟨j,vb,vt,et,rfl,rfl,rfl,hj⟩:=hC;refine aD rfl (fJ A.v1 rfl<|have A:=A.freeze.freeze;?_);have A:=A.aZ.imp3 (R:=fun h=>RC h (JJ w cl vb vt) (.mk 1 w cl st.1 st.2 [] [] [] wm [] [] [])) fun h V1 V2 R=>
   RC.put (ce:=Z8) V2 V1 R (View.nil h 19) eY.nil (View.nil h 19) eY.nil (View.nil h 1) eH.nil RE.zero (View.nil h 9) rfl
  exact xZ A rfl A.f0 fun h A=>H h _ A.aZ s
 ·intro x f h i o L' S' F' hD A;obtain⟨vb,vt,et,bs,R,rfl,rfl,rfl⟩:=hD;exact f h i o A.freeze.freeze.dJ.dJ.dJ.aZ.aZ.aZ
theorem am9 {kk:Nat} (hk:kk≤100000) (hn:4*kk+70≤n) [b:dN tv mp T F] (A:Cx h (vr p (pc tv mp en i o) :: L) S F) (s:dM T en i o)
 (H:Post (SL T kk i o) (XF K p mp en tv T L S F) (FK K p mp en tv T L S F)):ak E n (.func 90) [.ptr p 0 0 0] h K=true:=by
 obtain⟨n,rfl⟩:∃m,n=m+1:=⟨n-1,by omega⟩;apply d90;unfold s90;refine VB A rfl fun pb h A=>bO A rfl rfl rfl fun r h A=>dO rfl<|bO A rfl rfl rfl fun c h A=>gF A rfl rfl rfl rfl fun h A=>aJ A.v3 rfl<|Xf (k:=1) (by omega) A s fun h A=>aD rfl ?_;unfold SL at H;cases e1:dS T i 1 with
 |false=>
  rw[if_neg (by rw[e1];simp)] at H;exact bE<|K6 hk (by omega) A s H
 |true=>
  rw[if_pos e1,aC] at H;refine bN<|aJ A.v3 rfl<|Xi (by omega) A s (Post.mono H ?_ fun x f=>FK.pz' f.rest.rest.rest);refine fun v i o H h A s=>aD rfl<|ay<|fZ A rfl rfl fun h A=>aJ A.v3 rfl ?_;rw[aC] at H;refine lg (by omega) (by decide) A s (Post.mono H ?_ fun x f=>f.rest.rest.rest);exact fun u i o H h A s=>K6 hk (by omega) A s H
end
section
variable {h:ah} {L:gB} {S:List Sl} {F:List (ah→Prop)} {p mp en i n:Nat} {o:Int} {tv:AV} {T:List Lx} {K Q k:aK}
theorem nZ {v:AV} {m:Nat} {es:List (List AV)} (V:View h m v es):iB v=none:=by
 rcases V with⟨_,rfl |rfl⟩|⟨_,_,_,_,_,_,rfl,_⟩<;>rfl
theorem nS {z:List AV} {off:Nat} {v:AV} {ps:List (Nat×Nat×AV)} (h:v.leaf=true) (hl:Nat.blt off z.length=true):o7 z ((off,1,v) :: ps)=o7 (z.set off v) ps:=by
 have hl:=bC.1 hl;have hc:=oM h;simp only[o7,hc,aB,h,List.length_cons,List.length_nil,cond_true,aI.2 (show off+1≤z.length by omega),show Nat.beq (0+1) 1=true from rfl,Bool.and_self,YT hl]
theorem kG {z:List AV} {v:AV} (h:v.leaf=true):jT 1 (xV 1 z) [(0,v)]=some [[v]]:=by
 simp only[jT,oM h,aB,h,xV,List.length_cons,List.length_nil,mI,show Nat.beq (0+1) 1=true from rfl,show Nat.blt 0 (0+1)=true from rfl,Bool.and_self,cond_true]
def OkL (N:Nat) (K:aK) (p mp en:Nat) (tv:AV) (T:List Lx) (L:gB) (S:List Sl) (F:List (ah→Prop)):List Cd→Nat→Int→Prop:=fun l i o=>l.length≤N→∀h v ec,Cx h (vr p (pc tv mp en i o) :: L) S ((fun h=>eY h ec l) :: (fun h=>View h 19 v ec) :: F)→dM T en i o→K v h=true
@[reducible] def sV (w:Str):List AV:=[.str w]
structure WC (tv:AV) (p mp en:Nat) (T:List Lx) (k:Nat):Prop where
 conds:∀{n m h L S F i o K} [dN tv mp T F] {ve va:AV} {ec:List (List AV)} {ends:List Str} {acc:List Cd},4*k+80≤n→k≤m→(∀w∈ends,w≠[])→ends.length≤10→Knows L S F (fun h=>View h 1 ve (ends.map sV))→acc.length+k≤100000→
  Cx h (vr p (pc tv mp en i o) :: L) (⟨va,19,ec⟩ :: S) ((fun h=>eY h ec acc) :: F)→dM T en i o→Post (jG T k ends acc i o) (OkL 100000 K p mp en tv T L S F) (FK K p mp en tv T L S F)→JM (ak E n) n m (.ptr p 0 0 0) ve va h K=true
 some:∀{n h L S F i o K} [dN tv mp T F] {ve:AV} {ends:List Str},4*k+80≤n→(∀w∈ends,w≠[])→ends.length≤10→Knows L S F (fun h=>View h 1 ve (ends.map sV))→
  Cx h (vr p (pc tv mp en i o) :: L) S F→dM T en i o→Post (jN T k ends i o) (OkL 100001 K p mp en tv T L S F) (FK K p mp en tv T L S F)→ak E n (.func 86) [.ptr p 0 0 0,ve] h K=true
 block:∀{n h L S F i o K} [dN tv mp T F],4*k+80≤n→Cx h (vr p (pc tv mp en i o) :: L) S F→dM T en i o→Post (nY T k i o) (OkL 100001 K p mp en tv T L S F) (FK K p mp en tv T L S F)→ak E n (.func 85) [.ptr p 0 0 0] h K=true
 alts:∀{n m h L S F i o K} [dN tv mp T F] {c r:Nat} {va:AV} {ea:List (List AV)} {acc:List (List Cd)},4*k+80≤n→k+1≤m→acc.length+k≤100001→
  Cx h (vr p (pc tv mp en i o) :: vr c [.int .i64 5, .str [], .str [], .au, .au, .au, .au,va, .int .i64 0, .str [], .int .i64 0, .bool false, .int .i64 0, .str [], .au, .au, .str [], .str [], .au] :: vr r CS :: L) (⟨va,1,ea⟩ :: S) ((fun h=>eH h ea acc) :: F)→dM T en i o→
  Post (uy T k acc i o) (fun a i o=>Post (bnd (dH T [41]) (fun _=>ret (.mk 5 [] [] [] [] [] [] a wm [] [] [])) i o) (XF K p mp en tv T L S F) (FK K p mp en tv T L S F)) (FK K p mp en tv T L S F)→
  CQ (ak E n) n m (.ptr p 0 0 0) (.ptr r 0 0 0) (.ptr c 0 0 0) (.bool true) h K=true
 orr:∀{n h L S F i o K} [dN tv mp T F],4*k+80≤n→Cx h (vr p (pc tv mp en i o) :: L) S F→dM T en i o→Post (orM T k i o) (XF K p mp en tv T L S F) (FK K p mp en tv T L S F)→ak E n (.func 87) [.ptr p 0 0 0] h K=true
 acc:∀{n h L S F i o K} [dN tv mp T F],4*k+80≤n→Cx h (vr p (pc tv mp en i o) :: L) S F→dM T en i o→Post (NS T k i o) (XF K p mp en tv T L S F) (FK K p mp en tv T L S F)→ak E n (.func 88) [.ptr p 0 0 0] h K=true
 cond:∀{n h L S F i o K} [dN tv mp T F],4*k+80≤n→Cx h (vr p (pc tv mp en i o) :: L) S F→dM T en i o→Post (vM T k i o) (XF K p mp en tv T L S F) (FK K p mp en tv T L S F)→ak E n (.func 77) [.ptr p 0 0 0] h K=true
theorem Xl {kk:Nat} (W:WC tv p mp en T kk):∀{n m h L S F i o K} [dN tv mp T F] {ve va:AV} {ec:List (List AV)} {ends:List Str} {acc:List Cd},4*(kk+1)+80≤n→kk+1≤m→(∀w∈ends,w≠[])→ends.length≤10→Knows L S F (fun h=>View h 1 ve (ends.map sV))→acc.length+(kk+1)≤100000→
 Cx h (vr p (pc tv mp en i o) :: L) (⟨va,19,ec⟩ :: S) ((fun h=>eY h ec acc) :: F)→dM T en i o→Post (jG T (kk+1) ends acc i o) (OkL 100000 K p mp en tv T L S F) (FK K p mp en tv T L S F)→JM (ak E n) n m (.ptr p 0 0 0) ve va h K=true:=by
 intro n m h L S F i o K b ve va ec ends acc hn hm hw he kv hacc A s H;obtain⟨m,rfl⟩:∃q,m=q+1:=⟨m-1,by omega⟩;have hmo:most=1099511627776:=rfl;have hlim:=sS;have kv':∀{h va ec R},Cx h (vr p (pc tv mp en i o) :: L) (⟨va,19,ec⟩ :: S) (R :: F)→View h 1 ve (ends.map sV):=fun A=>kv _ A.freeze.dJ.dJ.rest;rw[afL];unfold Y2;refine dZ (kv' A) ?_;unfold jG at H;rw[List.length_map];have loop:∀d j m' h,ends.length=j+d→d+1≤m'→(∀w∈ends.take j,bA T i w=false)→Cx h (vr p (pc tv mp en i o) :: L) (⟨va,19,ec⟩ :: S) ((fun h=>eY h ec acc) :: F)→
  MS (ak E n) n (fun x0 x1 x5 h=>JM (ak E n) n m x0 x1 x5 h K) m' (.ptr p 0 0 0) ve va ve (.int .i64 (ends.length:Int)) (.int .i64 (j:Int)) h K=true:=by
  intro d
  induction d with
  |zero=>
   intro j m' h hj hm' hf A;obtain⟨m',rfl⟩:∃q,m'=q+1:=⟨m'-1,by omega⟩;have hjj:j=ends.length:=by omega
   subst hjj;rw[List.take_length] at hf;rw[Tv];unfold KC;refine fT ?_;rw[show decide (ends.length<ends.length)=false from decide_eq_false (by omega)]
   refine bE ?_;unfold Xw;rw[if_neg (by
    intro q;have⟨w,hw,hq⟩:=List.any_eq_true.1 q;rw[hf w hw] at hq;cases hq),aC] at H
   refine W.cond (by omega) A s (Post.mono H ?_ ?_)
   ·intro c i o H h a A s;refine have⟨w1,w2,w3⟩:=(A.f0:RC h a c).cells;aD rfl<|iM A rfl rfl rfl rfl (dY w1 w2) rfl fun vb h A _=>have hlen:=(A.f2:eY h ec acc).len;jo A rfl A.f0.src ?_ ?_ fun va' h A _=> ?_
    ·show(ec.length+1)*328≤most;omega
    ·show ec.length+1≤most;omega
    have A:=A.dJ.imp2 (R:=fun h=>eY h (ec++[a]) (acc++[c])) fun h R1 R2=>R2.app (eY.one R1);exact W.conds (by omega) (by omega) hw he kv (by simp;omega) A s H
   ·exact fun x f=>FK.pz' fun h i o A=>f h i o A.freeze.dJ.dJ
  |succ d ih=>
   intro j m' h hj hm' hf A;obtain⟨m',rfl⟩:∃q,m'=q+1:=⟨m'-1,by omega⟩;have hlt:j<ends.length:=by omega
   have hwj:ends[j]? =some ends[j]:=List.getElem?_eq_getElem hlt;rw[Tv];unfold KC;refine fT ?_;rw[show decide (j<ends.length)=true from decide_eq_true hlt]
   refine bN (Fu (kv' A) (e:=sV ends[j]) (by rw[List.getElem?_map,hwj];rfl) fun id g q ld=>aU (ld false 0 1) ?_);refine Dc (d:=0) (by omega) (by omega) (hw _ (List.getElem_mem hlt)) A s fun h A=>aD rfl ?_;rw[Nat.add_zero];cases e:bA T i ends[j] with
   |true=>
    rw[if_pos (List.any_eq_true.2 ⟨_,List.getElem_mem hlt,e⟩)] at H;exact bN<|H (by omega) h va ec A.freeze.swapF s
   |false=>
    refine bE (gZ (by omega)<|ih (j+1) m' h (by omega) (by omega) ?_ A);intro w hw';rw[List.take_add_one,hwj] at hw';rcases List.mem_append.1 hw' with hw' |hw'
    ·exact hf w hw'
    ·simp at hw';subst hw';exact e
 exact loop ends.length 0 n h (by omega) (by omega) (by simp) A
theorem aa7 {kk:Nat} (W:WC tv p mp en T kk) (hk:kk≤100000):∀{n h L S F i o K} [dN tv mp T F] {ve:AV} {ends:List Str},4*(kk+1)+80≤n→(∀w∈ends,w≠[])→ends.length≤10→Knows L S F (fun h=>View h 1 ve (ends.map sV))→
 Cx h (vr p (pc tv mp en i o) :: L) S F→dM T en i o→Post (jN T (kk+1) ends i o) (OkL 100001 K p mp en tv T L S F) (FK K p mp en tv T L S F)→ak E n (.func 86) [.ptr p 0 0 0,ve] h K=true:=by
 intro n h L S F i o K b ve ends hn hw he kv A s H;obtain⟨n,rfl⟩:∃m,n=m+1:=⟨n-1,by omega⟩;obtain⟨n,rfl⟩:∃m,n=m+1:=⟨n-1,by omega⟩;have hmo:most=1099511627776:=rfl;apply d86;unfold s86;unfold jN at H;rw[aC] at H;refine W.cond (by omega) A s (Post.mono H ?_ fun x f=>FK.pz' f);intro c i o H h a A s;refine have⟨w1,w2,w3⟩:=(A.f0:RC h a c).cells;aD rfl<|bO A rfl rfl rfl fun x h A=>gF A rfl w1 rfl w2 fun h A=>fJ A.v1 w1 (EN A rfl rfl rfl rfl (dY w1 w2) rfl fun q h A=>fJ A.v2 w1 (bI (.agg w3) ?_))
 rw[aC] at H;apply d61;unfold s61;have A:=(A.slc 19).tru (R:=fun h=>eY h [] []) fun h=>eY.nil;refine W.conds (by omega) (by omega) hw he (fun h A=>kv h A.rest.rest.dJ) (by simpa using hk) A s (Post.mono H ?_ ?_)
 ·refine fun l i o H hl h v ec A s=>aD (nZ A.f1)<|fJ A.v2 w1 (bI (.agg w3)<|have hlen:=(A.f0:eY h ec l).len;aja A rfl A.f1.src ?_ ?_ fun v' h A hp=> ?_)
  ·show(1+ec.length)*328≤most;omega
  ·show 1+ec.length≤most;omega
  have A:=A.aZ;have A:=A.add (R:=fun h=>eY h ([a]++ec) (c :: l)) fun h q=>
   (eY.one (q (fun h=>RC h a c) (by simp))).app (q (fun h=>eY h ec l) (by simp))
  exact H (by simp;omega) h v' _ (A.facts' fun R m=>by
   simp only[List.mem_cons] at m ⊢;rcases m with h |h |h
   ·exact .inl h
   ·exact .inr (.inl h)
   ·simp[h]) s
 ·exact fun x f=>FK.pz' fun h i o A=>xW rfl rfl A fun h A=>f h i o A.aZ.dJ
theorem Xc {kk:Nat} (W:WC tv p mp en T kk):∀{n h L S F i o K} [dN tv mp T F],4*(kk+1)+80≤n→Cx h (vr p (pc tv mp en i o) :: L) S F→dM T en i o→Post (nY T (kk+1) i o) (OkL 100001 K p mp en tv T L S F) (FK K p mp en tv T L S F)→ak E n (.func 85) [.ptr p 0 0 0] h K=true:=by
 intro n h L S F i o K b hn A s H;obtain⟨n,rfl⟩:∃m,n=m+1:=⟨n-1,by omega⟩;apply d85;unfold s85;unfold nY at H;rw[aC] at H;refine Cu (by omega) (by decide) A s (Post.mono H ?_ fun x f=>FK.pz' f);refine fun u i o H h A s=>aD rfl ?_;rw[aC] at H;refine iM A rfl rfl rfl rfl rfl rfl fun ve h A _=>W.some (ends:=[[41]]) (by omega) (by decide) (by decide) (Knows.mem (by exact List.mem_cons_self)) A s (Post.mono H ?_ fun x f=>FK.pz' f.drop);refine fun l i o H hl h v ec A s=>aD (nZ A.f1) ?_;rw[aC] at H;refine Ls (by omega) (by decide) A s (Post.mono H ?_ fun x f=>FK.pz' f.drop.drop.drop);refine fun u i o H h A s=>aD rfl ?_;exact H hl h v ec (A.facts' fun R m=>by
  simp only[List.mem_cons] at m ⊢;rcases m with h |h |h
  ·exact .inl h
  ·exact .inr (.inl h)
  ·simp[h]) s
end
section
variable {h:ah} {L:gB} {S:List Sl} {F:List (ah→Prop)} {p mp en i n:Nat} {o:Int} {tv:AV} {T:List Lx} {K Q k:aK}
@[reducible] def cOr (va:AV):List AV:=[.int .i64 5, .str [], .str [], .au, .au, .au, .au,va, .int .i64 0, .str [], .int .i64 0, .bool false, .int .i64 0, .str [], .au, .au, .str [], .str [], .au]
@[reducible] def cCd (kind:Int) (vc vn:AV):List AV:=[.int .i64 kind, .str [], .str [], .au, .au,vc,vn, .au, .int .i64 0, .str [], .int .i64 0, .bool false, .int .i64 0, .str [], .au, .au, .str [], .str [], .au]
theorem RC.lists {kind:Int} {vc vn:AV} {ec ne:List (List AV)} {l m:List Cd} (V:View h 19 vc ec) (R:eY h ec l) (V':View h 19 vn ne) (R':eY h ne m):RC h (cCd kind vc vn) (.mk kind [] [] [] [] l m [] wm [] [] []):=
 RC.put (ce:=Z8) (View.nil h 2) (View.nil h 8) mH.nil V R V' R' (View.nil h 1) eH.nil RE.zero (View.nil h 9) rfl
theorem agV {kind:Int} {vc vn:AV} (h1:vc.leaf=true) (h2:vn.leaf=true):aB (cCd kind vc vn)=true:=
 aF rfl (aF rfl (aF rfl (aF rfl (aF rfl (aF h1 (aF h2 rfl))))))
theorem aii [b:dN tv mp T F] (hn:8≤n) {c r:Nat} {va:AV} {ea:List (List AV)} {a:List (List Cd)} (A:Cx h (vr p (pc tv mp en i o) :: vr c (cOr va) :: vr r CS :: L) (⟨va,1,ea⟩ :: S) ((fun h=>eH h ea a) :: F)) (s:dM T en i o)
 (H:Post (bnd (dH T [41]) (fun _=>ret (Cd.mk 5 [] [] [] [] [] [] a wm [] [] [])) i o) (XF K p mp en tv T L S F) (FK K p mp en tv T L S F)):Sv (ak E n) n (.ptr p 0 0 0) (.ptr r 0 0 0) (.ptr c 0 0 0) h K=true:=by
 unfold Sv;rw[aC] at H;refine have A:=A.freeze;Ls hn (by decide) A s (Post.mono H ?_ fun x f=>FK.pz' f.rest.rest.drop.drop)
 refine fun u i o H h A s=>aD rfl (fJ A.v1 rfl ?_);have A:=A.aZ.imp2 (R:=fun h=>RC h (cOr va) (.mk 5 [] [] [] [] [] [] a wm [] [] [])) fun h V R=>
  RC.put (ce:=Z8) (View.nil h 2) (View.nil h 8) mH.nil (View.nil h 19) eY.nil (View.nil h 19) eY.nil V R RE.zero (View.nil h 9) rfl
 exact xZ A rfl A.f0 fun h A=>H h _ A s
theorem aaY {kk:Nat} (W:WC tv p mp en T kk):∀{n m h L S F i o K} [dN tv mp T F] {c r:Nat} {va:AV} {ea:List (List AV)} {acc:List (List Cd)},4*(kk+1)+80≤n→kk+1+1≤m→acc.length+(kk+1)≤100001→
 Cx h (vr p (pc tv mp en i o) :: vr c (cOr va) :: vr r CS :: L) (⟨va,1,ea⟩ :: S) ((fun h=>eH h ea acc) :: F)→dM T en i o→
 Post (uy T (kk+1) acc i o) (fun a i o=>Post (bnd (dH T [41]) (fun _=>ret (.mk 5 [] [] [] [] [] [] a wm [] [] [])) i o) (XF K p mp en tv T L S F) (FK K p mp en tv T L S F)) (FK K p mp en tv T L S F)→
 CQ (ak E n) n m (.ptr p 0 0 0) (.ptr r 0 0 0) (.ptr c 0 0 0) (.bool true) h K=true:=by
 intro n m h L S F i o K b c r va ea acc hn hm hacc A s H;obtain⟨m,rfl⟩:∃q,m=q+1:=⟨m-1,by omega⟩;have hmo:most=1099511627776:=rfl;rw[Uz];unfold J9;have V:iW va:=A.view.iW;refine have hlen:=(A.f0:eH h ea acc).len;bN<|ay<|aJ A.v1 rfl<|EN (es:=[[.str Xj],[.str [41]]]) A rfl rfl rfl rfl rfl rfl fun q h A=>aJ A.v2 rfl (bI V ?_)
 unfold uy at H;rw[aC] at H;refine W.some (ends:=[Xj,[41]]) (by omega) (by decide) (by decide) (fun h A=> ?_) A s (Post.mono H ?_ fun x f=>FK.pz' fun h i o A=>xW rfl rfl A fun h A=>f h i o A.freeze.dJ.dJ.aZ.aZ)
 ·exact(A.rowL':_)
 refine fun l i o H hl h v ec A s=>aD (nZ A.f1)<|aJ A.v2 rfl (bI V<|iM A rfl rfl rfl rfl (kG A.f1.leaf) rfl fun vb h A _=>aJ A.v2 rfl (bI V<|jo A rfl A.f0.src ?_ ?_ fun va' h A _=> ?_))
 ·show(ea.length+1)*24≤most;omega
 ·show ea.length+1≤most;omega
 refine ay (Lh A rfl A.leafS fun h A=> ?_);have A:=(A.aZ.dJ.add (R:=fun h=>eH h (ea++[[v]]) (acc++[l])) fun h q=>
  (q (fun h=>eH h ea acc) (by simp)).app (eH.one (q (fun h=>View h 19 v ec) (by simp)) (q (fun h=>eY h ec l) (by simp)))).drop1.drop1.drop1
 rw[aC] at H;refine lF (by omega) (by decide) A s (Post.mono H ?_ fun _ _=>trivial);refine fun bb i o H h A s=>aD rfl ?_;cases bb with
 |true=>
  rw[if_pos rfl] at H;exact W.alts (by omega) (by omega) (by simp;omega) A s H
 |false=>
  rw[if_neg (by simp)] at H;obtain⟨m,rfl⟩:∃q,m=q+1:=⟨m-1,by omega⟩;show CQ _ _ _ _ _ _ _ _ _=true;rw[Uz];unfold J9;exact bE<|aii (by omega) A s H
theorem aeX {kk:Nat} (W:WC tv p mp en T kk) (hk:kk≤100000):∀{n h L S F i o K} [dN tv mp T F],4*(kk+1)+80≤n→Cx h (vr p (pc tv mp en i o) :: L) S F→dM T en i o→Post (orM T (kk+1) i o) (XF K p mp en tv T L S F) (FK K p mp en tv T L S F)→ak E n (.func 87) [.ptr p 0 0 0] h K=true:=by
 intro n h L S F i o K b hn A s H;obtain⟨n,rfl⟩:∃m,n=m+1:=⟨n-1,by omega⟩;have hmo:most=1099511627776:=rfl;apply d87;unfold s87;refine bO A rfl rfl rfl fun r h A=>dO rfl<|bO A rfl rfl rfl fun c h A=>gF A rfl rfl rfl rfl fun h A=> ?_;unfold orM at H;rw[aC] at H;refine Cu (by omega) (by decide) A s (Post.mono H ?_ fun x f=>FK.pz' f.rest.rest);refine fun u i o H h A s=>aD rfl<|ay<|aJ A.v1 rfl<|EN (es:=[[.str Xj],[.str [41]]]) A rfl rfl rfl rfl rfl rfl fun q h A=>aJ A.v2 rfl (bI iW.nslc ?_);rw[aC] at H;refine W.some (ends:=[Xj,[41]]) (by omega) (by decide) (by decide) (fun h A=>A.rowL') A s (Post.mono H ?_ fun x f=>FK.pz' fun h i o A=>xW rfl rfl A fun h A=>f h i o A.aZ.aZ);refine fun l i o H hl h v ec A s=>aD (nZ A.f1)<|aJ A.v2 rfl (bI iW.nslc<|iM A rfl rfl rfl rfl (kG A.f1.leaf) rfl fun vb h A _=>aJ A.v2 rfl (bI iW.nslc<|have A:=A.slc 1;jo A rfl A.f0.src ?_ ?_ fun va' h A _=> ?_))
 ·show(0+1)*24≤most;omega
 ·show 0+1≤most;omega
 refine ay (Lh A rfl A.leafS fun h A=> ?_);have A:=(A.aZ.dJ.add (R:=fun h=>eH h [[v]] [l]) fun h q=>
  eH.one (q (fun h=>View h 19 v ec) (by simp)) (q (fun h=>eY h ec l) (by simp))).drop1.drop1
 rw[aC] at H;refine lg (by omega) (by decide) A s (Post.mono H ?_ fun x f h i o A=>f h i o A.freeze.dJ.dJ.aZ.aZ);intro u i o H h A s;rw[aC] at H;exact W.alts (by omega) (by omega) (by simp;omega) A s H
@[reducible] def aar (v fn:Str) (vc:AV) (ce:List AV):List AV:=[.int .i64 7, .str v, .str [], .au, .au,vc, .au, .au]++(ce++[.str fn, .str [], .au])
theorem Zj {kk:Nat} (W:WC tv p mp en T kk) (hk:kk≤100000) [b:dN tv mp T F] (hn:4*(kk+1)+79≤n) {c r:Nat} {v fn:Str} (A:Cx h (vr p (pc tv mp en i o) :: vr c (aar v fn .au Z8) :: vr r CS :: L) S F) (s:dM T en i o)
 (H:Post (bnd (fB T [40]) (fun _=>bnd (jw T kk) fun e=>bnd (dH T [41]) fun _=>bnd (d9 T ahm) fun _=>bnd (jN T kk [[41]]) fun l=>bnd (dH T [41]) fun _=>ret (Cd.mk 7 v [] [] [] l [] [] e fn [] [])) i o) (XF K p mp en tv T L S F) (FK K p mp en tv T L S F)):
 KI (ak E n) n (.ptr p 0 0 0) (.ptr r 0 0 0) (.ptr c 0 0 0) h K=true:=by
 unfold KI;rw[aC] at H;refine Cu (by omega) (by decide) A s (Post.mono H ?_ fun x f=>FK.pz' f.rest.rest);refine fun u i o H h A s=>aD rfl ?_;rw[aC] at H;refine Sy hk (by omega) A s (Post.mono H ?_ fun x f=>FK.pz' f.rest.rest);intro e i o H h ce A s;refine have⟨w1,w2,w3⟩:=(A.f0:RE h ce e).cells;aD rfl<|ay (yj A rfl w1 rfl w2 fun h A=> ?_)
 have e1:lay (aar v fn .au Z8) (0+8) ce=aar v fn .au ce:=by
  obtain⟨_,_,_,_,_,_,_,_,rfl⟩:=len8 w1;rfl
 rw[e1] at A;rw[aC] at H;refine Ls (by omega) (by decide) A s (Post.mono H ?_ fun x f=>FK.pz' f.rest.rest.drop);refine fun u i o H h A s=>aD rfl ?_;rw[aC] at H;refine lg (by omega) (by decide) A s (Post.mono H ?_ fun x f=>f.rest.rest.drop);intro u i o H h A s;rw[aC] at H;refine iM A rfl rfl rfl rfl rfl rfl fun ve h A _=>W.some (ends:=[[41]]) (by omega) (by decide) (by decide) (Knows.mem (by exact List.mem_cons_self)) A s (Post.mono H ?_ fun x f=>FK.pz' f.rest.rest.drop.drop);refine fun l i o H hl h vc ec A s=>aD (nZ A.f1)<|ay (fZ A (by simp[w1]) A.f1.leaf fun h A=>have e2:(aar v fn .au ce).set (0+5) vc=aar v fn vc ce:=rfl;?_);rw[e2] at A;rw[aC] at H;refine Ls (by omega) (by decide) A s (Post.mono H ?_ fun x f=>FK.pz' f.rest.rest.drop.drop.drop.drop);refine fun u i o H h A s=>aD rfl (fJ A.v1 (by simp[w1]) ?_);have A:=(A.aZ.add (R:=fun h=>RC h (aar v fn vc ce) (.mk 7 v [] [] [] l [] [] e fn [] [])) fun h q=>
  RC.put (View.nil h 2) (View.nil h 8) mH.nil (q (fun h=>View h 19 vc ec) (by simp)) (q (fun h=>eY h ec l) (by simp)) (View.nil h 19) eY.nil (View.nil h 1) eH.nil (q (fun h=>RE h ce e) (by simp)) (View.nil h 9) rfl)
 exact xZ A rfl A.f0 fun h A=>H h _ A.drop1.drop1.drop1.drop1 s
theorem aev {kk:Nat} (W:WC tv p mp en T kk) (hk:kk≤100000):∀{n h L S F i o K} [dN tv mp T F],4*(kk+1)+80≤n→Cx h (vr p (pc tv mp en i o) :: L) S F→dM T en i o→Post (NS T (kk+1) i o) (XF K p mp en tv T L S F) (FK K p mp en tv T L S F)→ak E n (.func 88) [.ptr p 0 0 0] h K=true:=by
 intro n h L S F i o K b hn A s H;obtain⟨n,rfl⟩:∃m,n=m+1:=⟨n-1,by omega⟩;apply d88;unfold s88;refine bO A rfl rfl rfl fun r h A=> ?_;unfold NS at H;rw[aC] at H;refine Cu (by omega) (by decide) A s (Post.mono H ?_ fun x f=>FK.pz' f.rest);refine fun u i o H h A s=>aD rfl ?_;rw[aC] at H;refine Xi (by omega) A s (Post.mono H ?_ fun x f=>FK.pz' f.rest);refine fun v i o H h A s=>aD rfl<|dO rfl<|bO A rfl rfl rfl fun c h A=>gF A rfl rfl rfl rfl fun h A=> ?_;rw[aC] at H;refine lg (by omega) (by decide) A s (Post.mono H ?_ fun x f=>f.rest.rest);intro u i o H h A s;rw[aC] at H;refine lF (by omega) (by decide) A s (Post.mono H ?_ fun _ _=>trivial);refine fun bb i o H h A s=>aD rfl ?_;rw[aC] at H;cases bb with
 |true=>
  rw[if_pos rfl] at H;exact bN (ay (fZ A rfl rfl fun h A=>Zj W hk (by omega) A s H))
 |false=>
  rw[if_neg (by simp)] at H;refine bE<|EZ (by omega) A s (Post.mono H ?_ fun x f=>FK.pz' f.rest.rest);exact fun fn i o H h A s=>aD rfl<|ay (fZ A rfl rfl fun h A=>Zj W hk (by omega) A s H)
@[reducible] def cEv (kind:Int) (v:Str) (ce:List AV):List AV:=[.int .i64 kind, .str v, .str [], .au, .au, .au, .au, .au]++(ce++[.str [], .str [], .au])
theorem RC.ev {kind:Int} {v:Str} {ce:List AV} {e:Ex} (R:RE h ce e):RC h (cEv kind v ce) (.mk kind v [] [] [] [] [] [] e [] [] []):=
 RC.put (View.nil h 2) (View.nil h 8) mH.nil (View.nil h 19) eY.nil (View.nil h 19) eY.nil (View.nil h 1) eH.nil R (View.nil h 9) rfl
theorem aas {kk:Nat} (W:WC tv p mp en T kk) (hk:kk≤100000):∀{n h L S F i o K} [dN tv mp T F],4*(kk+1)+80≤n→Cx h (vr p (pc tv mp en i o) :: L) S F→dM T en i o→Post (vM T (kk+1) i o) (XF K p mp en tv T L S F) (FK K p mp en tv T L S F)→ak E n (.func 77) [.ptr p 0 0 0] h K=true:=by
 intro n h L S F i o K b hn A s H;obtain⟨n,rfl⟩:∃m,n=m+1:=⟨n-1,by omega⟩;apply d77;unfold s77;refine bO A rfl rfl rfl fun r h A=> ?_;unfold vM at H;have alone:∀(kind:Int) {h i o l v ec},Cx h (vr p (pc tv mp en i o) :: vr r CS :: L) S ((fun h=>eY h ec l) :: (fun h=>View h 19 v ec) :: F)→dM T en i o→XF K p mp en tv T L S F (SS kind l) i o→
  (dK CS [(0,1,(.int .i64 kind)),(5,1,v)] fun v4=>aL h 19 (.ptr r 0 0 0) v4 fun h=>gI (fF h [(.ptr r 0 0 0,some (true,19))]) h K)=true:=by
  intro kind h i o l v ec A s H;refine dO ((nS rfl rfl).trans ((nS A.f1.leaf rfl).trans rfl)) ?_;have A:=A.add (R:=fun h=>RC h (cCd kind v .au) (SS kind l)) fun h q=>RC.lists (q (fun h=>View h 19 v ec) (by simp)) (q (fun h=>eY h ec l) (by simp)) (View.nil h 19) eY.nil;exact xZ (c:=cCd kind v .au) A rfl A.f0 fun h A=>H h _ A.drop1.drop1 s
 refine lF (by omega) (by decide) A s ?_;unfold fA;cases b1:bA T i [110,111,116] with
 |true=>
  rw[if_pos (show bA T i WH=true from b1),aC] at H
  rw[if_pos rfl];refine aY fun h A s=>aD rfl (bN ?_);refine W.block (by omega) A s (Post.mono H ?_ fun x f=>FK.pz' f.rest);intro l i o H hl h v ec A s;refine aD (nZ A.f1) ?_;unfold LM;exact alone 2 A s H
 |false=>
  rw[if_neg (by show ¬(bA T i WH=true);rw[show bA T i WH=false from b1];simp)] at H
  rw[if_neg (by simp)];refine aY fun h A s=>aD rfl (bE ?_);refine lF (by omega) (by decide) A s ?_;unfold fA;cases b2:bA T i [101,120,105,115,116,115] with
  |true=>
   rw[if_pos (show bA T i xg=true from b2),aC] at H
   rw[if_pos rfl];refine aY fun h A s=>aD rfl (bN ?_);refine W.block (by omega) A s (Post.mono H ?_ fun x f=>FK.pz' f.rest);intro l i o H hl h v ec A s;refine aD (nZ A.f1) ?_;unfold Ho;exact alone 3 A s H
  |false=>
   rw[if_neg (by show ¬(bA T i xg=true);rw[show bA T i xg=false from b2];simp)] at H
   rw[if_neg (by simp)];refine aY fun h A s=>aD rfl (bE ?_);refine lF (by omega) (by decide) A s ?_;unfold fA;cases b3:bA T i [102,111,114,97,108,108] with
   |true=>
    rw[if_pos (show bA T i xR=true from b3),aC] at H
    rw[if_pos rfl];refine aY fun h A s=>aD rfl (bN ?_);refine Cu (by omega) (by decide) A s (Post.mono H ?_ fun x f=>FK.pz' f.rest);intro u i o H h A s;refine aD rfl ?_;rw[aC] at H;refine iM A rfl rfl rfl rfl rfl rfl fun ve h A _=> ?_;refine W.some (ends:=[[59]]) (by omega) (by decide) (by decide) (Knows.mem (by exact List.mem_cons_self)) A s (Post.mono H ?_ fun x f=>FK.pz' f.rest.drop);intro l i o H hl h v ec A s;refine aD (nZ A.f1) ?_;unfold EY;have hvl:=A.f1.leaf;refine dO ((nS rfl rfl).trans ((nS hvl rfl).trans rfl)) ?_;refine bO A rfl rfl rfl fun c h A=> ?_;refine gF (l:=cCd 4 v .au) A rfl rfl rfl (agV hvl rfl) fun h A=> ?_;rw[aC] at H;refine lg (by omega) (by decide) A s (Post.mono H ?_ fun x f=>f.rest.rest.drop.drop.drop);intro u i o H h A s;rw[aC] at H;refine iM A rfl rfl rfl rfl rfl rfl fun ve2 h A _=> ?_;refine W.some (ends:=[[41]]) (by omega) (by decide) (by decide) (Knows.mem (by exact List.mem_cons_self)) A s (Post.mono H ?_ fun x f=>FK.pz' f.rest.rest.drop.drop.drop.drop);intro l2 i o H hl2 h v2 ec2 A s;refine aD (nZ A.f1) ?_;unfold Ht;refine ay (fZ A rfl A.f1.leaf fun h A=> ?_);rw[aC] at H;refine Ls (by omega) (by decide) A s (Post.mono H ?_ fun x f=>FK.pz' f.rest.rest.drop.drop.drop.drop.drop.drop);intro u i o H h A s;refine aD rfl (fJ (c:=cCd 4 v v2) A.v1 rfl ?_);have A:=A.aZ.add (R:=fun h=>RC h (cCd 4 v v2) (.mk 4 [] [] [] [] l l2 [] wm [] [] [])) fun h q=>
     RC.lists (q (fun h=>View h 19 v ec) (by simp)) (q (fun h=>eY h ec l) (by simp)) (q (fun h=>View h 19 v2 ec2) (by simp)) (q (fun h=>eY h ec2 l2) (by simp))
    exact xZ (c:=cCd 4 v v2) A rfl A.f0 fun h A=>H h _ A.drop1.drop1.drop1.drop1.drop1.drop1 s
   |false=>
    rw[if_neg (by show ¬(bA T i xR=true);rw[show bA T i xR=false from b3];simp)] at H
    rw[if_neg (by simp)];refine aY fun h A s=>aD rfl (bE ?_);refine Dc (d:=0) (by omega) (by omega) (by decide) A s fun h A=>aD rfl ?_;rw[Nat.add_zero];cases b4:bA T i [40] with
    |true=>
     rw[if_pos b4] at H;refine bN ?_;refine W.orr (by omega) A s (Post.mono H ?_ fun x f=>FK.pz' f.rest);intro v i o H h c A s;refine aD rfl ?_;unfold GY;exact xZ A rfl A.f0 fun h A=>H h c A s
    |false=>
     rw[if_neg (by rw[b4];simp)] at H;refine bE ?_;refine lF (by omega) (by decide) A s ?_;unfold fA;cases b5:bA T i [101,118,97,108] with
     |true=>
      rw[if_pos (show bA T i MX=true from b5),aC] at H
      rw[if_pos rfl];refine aY fun h A s=>aD rfl (bN ?_);refine Cu (by omega) (by decide) A s (Post.mono H ?_ fun x f=>FK.pz' f.rest);intro u i o H h A s;refine aD rfl ?_;rw[aC] at H;refine Sy hk (by omega) A s (Post.mono H ?_ fun x f=>FK.pz' f.rest);intro e i o H h ce A s;obtain⟨w1,w2,w3⟩:=(A.f0:RE h ce e).cells;refine aD rfl ?_;unfold GJ;have e1:lay ((CS).set 0 (.int .i64 8)) 8 ce=cEv 8 [] ce:=by
       obtain⟨_,_,_,_,_,_,_,_,rfl⟩:=len8 w1;rfl
      refine dO ((nS rfl rfl).trans ((ahB (v:= .agg ce) w1 rfl w2).trans (congrArg Option.some e1))) ?_;refine bO A rfl rfl rfl fun c h A=> ?_;have hl:aB (cEv 8 [] ce)=true:=gL rfl (gL w2 rfl);refine gF A rfl (by simp[w1]) rfl hl fun h A=> ?_;rw[aC] at H;refine Ls (by omega) (by decide) A s (Post.mono H ?_ fun x f=>FK.pz' f.rest.rest.drop);intro u i o H h A s;refine aD rfl (fJ A.v1 (by simp[w1]) ?_);have A:=A.aZ.imp (R:=fun h=>RC h (cEv 8 [] ce) (.mk 8 [] [] [] [] [] [] [] e [] [] [])) fun h R=>RC.ev R;exact xZ A rfl A.f0 fun h A=>H h _ A s
     |false=>
      rw[if_neg (by show ¬(bA T i MX=true);rw[show bA T i MX=false from b5];simp)] at H
      rw[if_neg (by simp)];refine aY fun h A s=>aD rfl (bE ?_);refine lF (by omega) (by decide) A s ?_;unfold fA;cases b6:bA T i [97,99,99] with
      |true=>
       rw[if_pos (show bA T i Wj=true from b6)] at H
       rw[if_pos rfl];refine aY fun h A s=>aD rfl (bN ?_);refine W.acc (by omega) A s (Post.mono H ?_ fun x f=>FK.pz' f.rest);intro v i o H h c A s;refine aD rfl ?_;unfold E9;exact xZ A rfl A.f0 fun h A=>H h c A s
      |false=>
       rw[if_neg (by show ¬(bA T i Wj=true);rw[show bA T i Wj=false from b6];simp)] at H
       rw[if_neg (by simp)];refine aY fun h A s=>aD rfl (bE ?_);refine lF (by omega) (by decide) A s ?_;unfold fA;cases b7:bA T i [63] with
       |true=>
        rw[if_pos b7] at H;rw[if_pos rfl];refine aY fun h A s=>aD rfl (bN ?_);refine aoB hk (by omega) A s (Post.mono H ?_ fun x f=>FK.pz' f.rest);intro v i o H h c A s;refine aD rfl ?_;unfold Gs;exact xZ A rfl A.f0 fun h A=>H h c A s
       |false=>
        rw[if_neg (by rw[b7];simp)] at H;rw[if_neg (by simp)];refine aY fun h A s=>aD rfl (bE ?_);refine Xf (k:=1) (by omega) A s fun h A=>aD rfl ?_;unfold Fp;have pat:∀{h},Cx h (vr p (pc tv mp en i o) :: vr r CS :: L) S F→Post (SL T kk i o) (XF K p mp en tv T L S F) (FK K p mp en tv T L S F)→
         (ak E n (.func 90) [.ptr p 0 0 0] h <| pz K fun v60 h=>zT (ak E n) n (.ptr r 0 0 0) v60 h K)=true:=by
         intro h A H;refine am9 hk (by omega) A s (Post.mono H ?_ fun x f=>FK.pz' f.rest);intro v i o H h c A s;refine aD rfl ?_;unfold zT;exact xZ A rfl A.f0 fun h A=>H h c A s
        cases k1:dS T i 1 with
        |false=>
         rw[k1,Bool.false_and,if_neg (by simp)] at H;refine eZ ?_;refine sK ?_;unfold Am;refine eZ ?_;refine gD ?_;refine bE ?_;exact pat A H
        |true=>
         refine cO ?_;refine bU ?_;refine iU ?_;refine Dc (d:=1) (by omega) (by omega) (by decide) A s fun h A=>aD rfl ?_;unfold Am;cases k2:bA T (i+1) [58] with
         |true=>
          rw[k1,k2,if_neg (by simp)] at H;refine cO ?_;refine fP ?_;refine fH ?_;refine bE ?_;exact pat A H
         |false=>
          rw[k1,k2,if_pos (by simp),aC] at H;refine cO ?_;refine fM ?_;refine fH ?_;refine bN ?_;refine Xi (by omega) A s (Post.mono H ?_ fun x f=>FK.pz' f.rest);intro v i o H h A s;refine aD rfl ?_;unfold Fa;refine dO rfl ?_;refine bO A rfl rfl rfl fun c h A=> ?_;refine gF (l:=cEv 6 v Z8) A rfl rfl rfl rfl fun h A=> ?_;rw[aC] at H;refine lg (by omega) (by decide) A s (Post.mono H ?_ fun x f=>f.rest.rest);intro u i o H h A s;rw[aC] at H;refine Sy hk (by omega) A s (Post.mono H ?_ fun x f=>FK.pz' f.rest.rest);intro e i o H h ce A s;obtain⟨w1,w2,w3⟩:=(A.f0:RE h ce e).cells;refine aD rfl ?_;unfold He;refine ay (yj A rfl w1 rfl w2 fun h A=> ?_);have e1:lay (cEv 6 v Z8) (0+8) ce=cEv 6 v ce:=by
           obtain⟨_,_,_,_,_,_,_,_,rfl⟩:=len8 w1;rfl
          rw[show lay _ (0+8) ce=cEv 6 v ce from e1] at A
          refine fJ A.v1 (by simp[w1]) ?_;have A:=A.aZ.imp (R:=fun h=>RC h (cEv 6 v ce) (.mk 6 v [] [] [] [] [] [] e [] [] [])) fun h R=>RC.ev R;exact xZ A rfl A.f0 fun h A=>H h _ A s
theorem aci:∀k,k≤100000→WC tv p mp en T k
 |0,_=>⟨fun _ _ _ _ _ _ _ _ H=>absurd H (by unfold jG;exact fun q=>q),fun _ _ _ _ _ _ H=>absurd H (by unfold jN;exact fun q=>q),fun _ _ _ H=>absurd H (by unfold nY;exact fun q=>q),
   fun _ _ _ _ _ H=>absurd H (by unfold uy;exact fun q=>q),fun _ _ _ H=>absurd H (by unfold orM;exact fun q=>q),fun _ _ _ H=>absurd H (by unfold NS;exact fun q=>q),fun _ _ _ H=>absurd H (by unfold vM;exact fun q=>q)⟩
 |k+1,hk=>by
  exact have W:=aci k (by omega);⟨Xl W,aa7 W (by omega),Xc W,aaY W,aeX W (by omega),aev W (by omega),aas W (by omega)⟩
end
def RA (h:ah) (c:List AV) (a:Act):Prop:=∃vs eg ce,c=[.int .i64 a.kind, .str a.cls,vs]++(ce++[.str a.text])∧View h 9 vs eg∧pX h eg a.set∧RE h ce a.e
section
variable {h:ah} {L:gB} {S:List Sl} {F:List (ah→Prop)} {p mp en i n:Nat} {o:Int} {tv:AV} {T:List Lx} {K Q k:aK}
theorem RA.cells {c:List AV} {a:Act} (R:RA h c a):c.length=12∧aB c=true∧uD c:=by
 obtain⟨vs,eg,ce,rfl,V,_,R⟩:=R;exact have⟨w1,w2,w3⟩:=R.cells;⟨by simp[w1],gL (aF rfl (aF rfl (aF V.leaf rfl))) (gL w2 rfl),uD.app (.cons (.int _ _) (.cons (.str _) (.cons V.iW .nil))) (w3.app (.cons (.str _) .nil))⟩
@[reducible] def Z9g:List AV:=[.str [], .int .i64 0, .str [], .int .i64 0, .bool false, .int .i64 0, .str [], .au, .au]
def OkG (K:aK) (p mp en:Nat) (tv:AV) (T:List Lx) (L:gB) (S:List Sl) (F:List (ah→Prop)):List (Str×Ex)→Nat→Int→Prop:=fun l i o=>∀h v eg,Cx h (vr p (pc tv mp en i o) :: L) S ((fun h=>pX h eg l) :: (fun h=>View h 9 v eg) :: F)→dM T en i o→K v h=true
theorem aoC {kk:Nat} (hk:kk≤100000) (hn:4*kk+60≤n) [b:dN tv mp T F] {pb ab:Nat} {va:AV} {ea:List (List AV)} {acc:List (Str×Ex)} (hacc:acc.length≤100000)
 (A:Cx h (vr p (pc tv mp en i o) :: vr ab [va] :: vr pb [.ptr p 0 0 0] :: L) (⟨va,9,ea⟩ :: S) ((fun h=>pX h ea acc) :: F)) (s:dM T en i o)
 (H:Post (jJ T kk acc i o)
   (fun acc' i o=>acc'.length=acc.length+1→∀h va ea,Cx h (vr p (pc tv mp en i o) :: vr ab [va] :: vr pb [.ptr p 0 0 0] :: L) (⟨va,9,ea⟩ :: S) ((fun h=>pX h ea acc') :: F)→dM T en i o→K (.tup []) h=true)
   (fun x=>∀h i o va ea R,Cx h (vr p (pc tv mp en i o) :: vr ab [va] :: vr pb [.ptr p 0 0 0] :: L) (⟨va,9,ea⟩ :: S) (R :: F)→K (flt T en x) h=true)):
 ak E n (.func 91) [.ptr pb 0 0 0, .ptr ab 0 0 0] h K=true:=by
 obtain⟨n,rfl⟩:∃m,n=m+1:=⟨n-1,by omega⟩;have hmo:most=1099511627776:=rfl;apply d91;unfold s91;refine have hlen:=(A.f0:pX h ea acc).len;aJ A.v2 rfl ?_
 unfold jJ at H;rw[aC] at H;refine EZ (by omega) A s (Post.mono H ?_ fun x f h i o A=>f h i o _ _ _ A);refine fun nm i o H h A s=>aD rfl<|dO rfl<|bO A rfl rfl rfl fun x h A=>gF (l:= .str nm :: Z8) A rfl rfl rfl rfl fun h A=>aJ A.v3 rfl ?_;rw[aC] at H;refine lg (by omega) (by decide) A s (Post.mono H ?_ fun x f h i o A=>f h i o _ _ _ A.aZ);refine fun u i o H h A s=>aJ A.v3 rfl ?_;rw[aC] at H;refine Sy hk (by omega) A s (Post.mono H ?_ fun x f h i o A=>f h i o _ _ _ A.aZ);intro e i o H h ce A s;refine have⟨w1,w2,w3⟩:=(A.f0:RE h ce e).cells;aD rfl<|ay (yj A rfl w1 rfl w2 fun h A=> ?_)
 have e1:lay (AV.str nm :: Z8) (0+1) ce= .str nm :: ce:=by
  obtain⟨_,_,_,_,_,_,_,_,rfl⟩:=len8 w1;rfl
 rw[e1] at A;refine aJ A.v2 rfl<|fJ A.v1 (by simp[w1])<|iM A rfl rfl rfl rfl (dY (by simp[w1]) (aF rfl w2)) rfl fun vb h A _=>jo A rfl A.f0.src ?_ ?_ fun va' h A _=> ?_
 ·show(ea.length+1)*128≤most;omega
 ·show ea.length+1≤most;omega
 refine Lh A rfl A.leafS fun h A=> ?_;have A:=A.aZ.dJ.imp2 (R:=fun h=>pX h (ea++[.str nm :: ce]) (acc++[(nm,e)])) fun h R1 R2=>R2.app (pX.one R1);exact H (by simp) h va' _ A s
theorem TQ {kk:Nat} (hk:kk≤100000) (hn:4*kk+70≤n) [b:dN tv mp T F] {pb ab:Nat} (A:Cx h (vr p (pc tv mp en i o) :: vr ab [.au] :: vr pb [.ptr p 0 0 0] :: L) S F) (s:dM T en i o)
 (H:Post (iQ T [125] (jJ T kk) kk [] i o) (OkG K p mp en tv T L S F) (FK K p mp en tv T L S F)):Ni (ak E n) n (.ptr pb 0 0 0) (.ptr ab 0 0 0) h K=true:=by
 unfold Ni;refine aJ A.v2 rfl<|bU ?_;obtain⟨n,rfl⟩:∃m,n=m+1:=⟨n-1,by omega⟩;have A:=(A.slc 9).tru (R:=fun h=>pX h [] []) fun h=>rfl;refine ab4 (one:=jJ T kk) (kk:=kk) (s:=[])
  (C:=fun j acc L' S' F'=>∃va ea,L'=vr ab [va] :: vr pb [.ptr p 0 0 0] :: L∧S'=⟨va,9,ea⟩ :: S∧F'=(fun h=>pX h ea acc) :: F∧acc.length+j≤kk)
  (D:=fun L' S' F'=>∃va ea R,L'=vr ab [va] :: vr pb [.ptr p 0 0 0] :: L∧S'=⟨va,9,ea⟩ :: S∧F'=R :: F)
  (fun{j s L S F} hC=>by obtain⟨_,_,_,_,rfl,_⟩:=hC;infer_instance)
  (fun{j s L S F} hC=>by obtain⟨va,ea,h1,h2,h3,_⟩:=hC;exact⟨va,ea,_,h1,h2,h3⟩)
  (by omega) (by decide) ?_ ⟨.au,[],rfl,rfl,rfl,by simp⟩ A s (Post.mono H ?_ ?_)
 ·intro j acc h L' S' F' i o K' hC A s H;obtain⟨va,ea,rfl,rfl,rfl,hj⟩:=hC;show ak E n (.func 91) [.ptr pb 0 0 0, .ptr ab 0 0 0] h K'=true;refine aoC (acc:=acc) hk (by omega) (by omega) A s (Post.mono H ?_ ?_)
  ·exact fun acc' i o H hl h va ea A s=>H h _ _ _ ⟨va,ea,rfl,rfl,rfl,by omega⟩ A s
  ·exact fun x f h i o va ea R A=>f h i o _ _ _ ⟨va,ea,R,rfl,rfl,rfl⟩ A
 ·intro acc i o H h L' S' F' hC A s;obtain⟨j,va,ea,rfl,rfl,rfl,hj⟩:=hC;exact aD rfl<|aJ A.v1 rfl<|H h va ea A.freeze.swapF.aZ.aZ s
 ·intro x f h i o L' S' F' hD A;obtain⟨va,ea,R,rfl,rfl,rfl⟩:=hD;exact f h i o A.freeze.dJ.dJ.aZ.aZ
def ah9 (least:Bool):AV:= .int .i64 (bif least then 1 else 0)
theorem aku {kk:Nat} (hk:kk≤100000) (hn:4*kk+75≤n) [b:dN tv mp T F] {least:Bool} (A:Cx h (vr p (pc tv mp en i o) :: L) S F) (s:dM T en i o)
 (H:Post (rG T kk least i o) (OkG K p mp en tv T L S F) (FK K p mp en tv T L S F)):ak E n (.func 78) [.ptr p 0 0 0,ah9 least] h K=true:=by
 obtain⟨n,rfl⟩:∃m,n=m+1:=⟨n-1,by omega⟩;apply d78;unfold s78;refine VB A rfl fun pb h A=>bO A rfl rfl rfl fun ab h A=>aJ A.v2 rfl ?_;unfold rG at H;rw[aC] at H;refine Cu (by omega) (by decide) A s (Post.mono H ?_ fun x f=>FK.pz' f.rest.rest);refine fun u i o H h A s=>aD rfl ?_;cases least with
 |false=>
  rw[if_neg (by simp)] at H;exact yh (bE<|TQ hk (by omega) A s H)
 |true=>
  rw[if_pos rfl,aC] at H;refine yh (bN ?_)
  repeat with_reducible refine aJ A.v2 rfl ?_
  refine Dc (d:=0) (by omega) (by omega) (by decide) A s fun h A=>aD rfl ?_;rw[Nat.add_zero];refine aJ A.v2 rfl<|bI (iW.ptr _ _ _ _)<|L8<|yB (by omega) A s (Post.mono H ?_ fun x f=>FK.pz' f.rest.rest);exact fun u i o H h A s=>aD rfl<|TQ hk (by omega) A s H
@[reducible] def Z12:List AV:=[.int .i64 0, .str [], .au, .int .i64 0, .str [], .int .i64 0, .bool false, .int .i64 0, .str [], .au, .au, .str []]
@[reducible] def X5 (kind:Int) (cl:Str) (vs:AV) (ce:List AV) (t:Str):List AV:=[.int .i64 kind, .str cl,vs]++(ce++[.str t])
def OkA (K:aK) (p mp en:Nat) (tv:AV) (T:List Lx) (L:gB) (S:List Sl) (F:List (ah→Prop)):Act→Nat→Int→Prop:=fun v i o=>∀h c,Cx h (vr p (pc tv mp en i o) :: L) S ((fun h=>RA h c v) :: F)→dM T en i o→K (.agg c) h=true
theorem Ei [b:dN tv mp T F] (hn:8≤n) {a r:Nat} {c:List AV} {v:Act} (A:Cx h (vr p (pc tv mp en i o) :: vr a c :: vr r Z12 :: L) S F) (R:∀h,(∀Q∈F,Q h)→RA h c v) (s:dM T en i o)
 (H:Post (og T v i o) (OkA K p mp en tv T L S F) (FK K p mp en tv T L S F)):vW (ak E n) n (.ptr p 0 0 0) (.ptr r 0 0 0) (.ptr a 0 0 0) h K=true:=by
 unfold vW;unfold og at H;rw[aC] at H;refine lg (by omega) (by decide) A s (Post.mono H ?_ fun x f=>f.rest.rest);intro u i o H h A s;have A:=A.add R;exact have⟨w1,w2,w3⟩:=(A.f0:RA h c v).cells;fJ A.v1 w1<|have A:=A.aZ;gF A rfl w1 rfl w2 fun h A=>sI A.v1 w1<|H h c A.aZ s
theorem OkA.drop {R:ah→Prop} {v:Act} (H:OkA K p mp en tv T L S F v i o):OkA K p mp en tv T L S (R :: F) v i o:=fun h c A s=>H h c A.drop1 s
theorem anT {kk:Nat} (hk:kk≤100000) (hn:4*kk+80≤n) [b:dN tv mp T F] (A:Cx h (vr p (pc tv mp en i o) :: L) S F) (s:dM T en i o)
 (H:Post (Jb T kk i o) (OkA K p mp en tv T L S F) (FK K p mp en tv T L S F)):ak E n (.func 62) [.ptr p 0 0 0] h K=true:=by
 obtain⟨n,rfl⟩:∃m,n=m+1:=⟨n-1,by omega⟩;apply d62;unfold s62;refine bO A rfl rfl rfl fun r h A=>bO A rfl rfl rfl fun a h A=> ?_;unfold Jb at H;have ofE:∀(kind:Int) {h i o e ce},Cx h (vr p (pc tv mp en i o) :: vr a Z12 :: vr r Z12 :: L) S ((fun h=>RE h ce e) :: F)→dM T en i o→Post (og T ⟨kind,[],[],e,[]⟩ i o) (OkA K p mp en tv T L S F) (FK K p mp en tv T L S F)→
  (aA 0 (.ptr a 0 0 0) fun v31=>aV h v31 (.int .i64 kind) fun h=>aA 3 (.ptr a 0 0 0) fun v33=>aL h 8 v33 (.agg ce) fun h=>vW (ak E n) n (.ptr p 0 0 0) (.ptr r 0 0 0) (.ptr a 0 0 0) h K)=true:=by
  intro kind h i o e ce A s H;refine have⟨w1,w2,w3⟩:=(A.f0:RE h ce e).cells;ay (fZ A rfl rfl fun h A=>ay (yj A rfl w1 rfl w2 fun h A=> ?_))
  have e1:lay ((Z12).set (0+0) (.int .i64 kind)) (0+3) ce=X5 kind [] .au ce []:=by
   obtain⟨_,_,_,_,_,_,_,_,rfl⟩:=len8 w1;rfl
  rw[show lay _ (0+3) ce=_ from e1] at A
  exact Ei (by omega) A (fun h q=>⟨.au,[],ce,rfl,View.nil h 9,(show pX h [] [] from rfl),q (fun h=>RE h ce e) (by simp)⟩) s (Post.mono H (fun v i o H=>H.drop) fun x f=>f.drop)
 have ins:∀{h},(bA T i oI=true∨bA T i iw=true)→Cx h (vr p (pc tv mp en i o) :: vr a Z12 :: vr r Z12 :: L) S F→
  Post (bnd (Dm T) (fun t=>bnd (iD T) fun c=>bnd (rG T kk false) fun l=>og T ⟨if t=iw then 2 else 1,c,l,wm,[]⟩) i o) (OkA K p mp en tv T L S F) (FK K p mp en tv T L S F)→
  (aA 0 (.ptr a 0 0 0) fun v4=>aV h v4 (.int .i64 1) fun h=>ak E n (.func 73) [.ptr p 0 0 0] h <| pz K fun v6 h=>AA (ak E n) n (.ptr p 0 0 0) (.ptr r 0 0 0) (.ptr a 0 0 0) v6 h K)=true:=by
  intro h hi A H;have hlt:i<T.length:=by rcases hi with q |q<;>exact ado q
  refine ay (fZ A rfl rfl fun h A=>have H:Post (bnd (iD T) (fun c=>bnd (rG T kk false) fun l=>og T ⟨if txt T i=iw then 2 else 1,c,l,wm,[]⟩) (i+1) o) (OkA K p mp en tv T L S F) (FK K p mp en tv T L S F):=H;aco (by omega) hlt A s fun h A s=>aD rfl<|DT ?_)
  have rest:∀{h:ah} (kind:Int),Cx h (vr p (pc tv mp en (i+1) o) :: vr a (X5 kind [] .au Z8 []) :: vr r Z12 :: L) S F→
   Post (bnd (iD T) (fun c=>bnd (rG T kk false) fun l=>og T ⟨kind,c,l,wm,[]⟩) (i+1) o) (OkA K p mp en tv T L S F) (FK K p mp en tv T L S F)→Ko (ak E n) n (.ptr p 0 0 0) (.ptr r 0 0 0) (.ptr a 0 0 0) h K=true:=by
   intro h kind A H;unfold Ko;rw[aC] at H;refine EZ (by omega) A s (Post.mono H ?_ fun x f=>FK.pz' f.rest.rest);refine fun cl i o H h A s=>aD rfl<|ay (fZ A rfl rfl fun h A=> ?_);rw[aC] at H;refine aku (least:=false) hk (by omega) A s (Post.mono H ?_ fun x f=>FK.pz' f.rest.rest);exact fun l i o H h v eg A s=>aD (nZ A.f1)<|ay (fZ A rfl A.f1.leaf fun h A=>Ei (c:=X5 kind cl v Z8 []) (v:=⟨kind,cl,l,wm,[]⟩) (by omega) A (fun h q=>⟨v,eg,Z8,rfl,q (fun h=>View h 9 v eg) (by simp),q (fun h=>pX h eg l) (by simp),RE.zero⟩) s (Post.mono H (fun v i o H=>H.drop.drop) fun x f=>f.drop.drop))
  cases hc:decide (txt T i=[108,111,103,105,99,97,108]) with
  |true=>
   rw[if_pos (show txt T i=iw from of_decide_eq_true hc)] at H
   exact bN (ay (fZ A rfl rfl fun h A=>rest 2 A H))
  |false=>
   rw[if_neg (show ¬txt T i=iw from of_decide_eq_false hc)] at H
   exact bE<|rest 1 A H
 refine Dc (d:=0) (by omega) (by omega) (by decide) A s fun h A=>aD rfl ?_;rw[Nat.add_zero];cases b1:bA T i [105,110,115,101,114,116] with
 |true=>
  rw[if_pos (.inl (show bA T i oI=true from b1))] at H
  exact bN<|bN<|ins (.inl b1) A H
 |false=>
  refine have b1:bA T i oI=false:=b1;bE<|Dc (d:=0) (by omega) (by omega) (by decide) A s fun h A=>aD rfl ?_
  rw[Nat.add_zero];unfold KW;cases b2:bA T i [108,111,103,105,99,97,108] with
  |true=>
   rw[if_pos (.inr (show bA T i iw=true from b2))] at H
   exact bN<|ins (.inr b2) A H
  |false=>
   have b2:bA T i iw=false:=b2;rw[if_neg (by rw[b1,b2];simp)] at H;refine bE<|lF (by omega) (by decide) A s ?_;unfold fA;cases b3:bA T i [117,112,100,97,116,101] with
   |true=>
    rw[if_pos (show bA T i u7=true from b3),aC] at H
    rw[if_pos rfl];refine aY fun h A s=>aD rfl (bN<|Sy hk (by omega) A s (Post.mono H ?_ fun x f=>FK.pz' f.rest.rest));intro e i o H h ce A s;refine have⟨w1,w2,w3⟩:=(A.f0:RE h ce e).cells;aD rfl<|ay (fZ A rfl rfl fun h A=>ay (yj A rfl w1 rfl w2 fun h A=> ?_))
    have e1:lay ((Z12).set (0+0) (.int .i64 3)) (0+3) ce=X5 3 [] .au ce []:=by
     obtain⟨_,_,_,_,_,_,_,_,rfl⟩:=len8 w1;rfl
    rw[show lay _ (0+3) ce=_ from e1] at A
    rw[aC] at H;refine aku (least:=true) hk (by omega) A s (Post.mono H ?_ fun x f=>FK.pz' f.rest.rest.drop);exact fun l i o H h v eg A s=>aD (nZ A.f1)<|ay (fZ A (by simp[w1]) A.f1.leaf fun h A=>Ei (c:=X5 3 [] v ce []) (v:=⟨3,[],l,e,[]⟩) (by omega) A (fun h q=>⟨v,eg,ce,rfl,q (fun h=>View h 9 v eg) (by simp),q (fun h=>pX h eg l) (by simp),q (fun h=>RE h ce e) (by simp)⟩) s (Post.mono H (fun v i o H=>H.drop.drop.drop) fun x f=>f.drop.drop.drop))
   |false=>
    rw[if_neg (by show ¬(bA T i u7=true);rw[show bA T i u7=false from b3];simp)] at H
    rw[if_neg (by simp)];refine aY fun h A s=>aD rfl (bE<|lF (by omega) (by decide) A s ?_);unfold fA;cases b4:bA T i [100,101,108,101,116,101] with
    |true=>
     rw[if_pos (show bA T i uW=true from b4),aC] at H
     rw[if_pos rfl];refine aY fun h A s=>aD rfl (bN<|Sy hk (by omega) A s (Post.mono H ?_ fun x f=>FK.pz' f.rest.rest));exact fun e i o H h ce A s=>aD rfl<|ofE 4 A s H
    |false=>
     rw[if_neg (by show ¬(bA T i uW=true);rw[show bA T i uW=false from b4];simp)] at H
     rw[if_neg (by simp)];refine aY fun h A s=>aD rfl (bE<|lF (by omega) (by decide) A s ?_);unfold fA;cases b5:bA T i [102,111,99,117,115] with
     |true=>
      rw[if_pos (show bA T i zh=true from b5),aC] at H
      rw[if_pos rfl];refine aY fun h A s=>aD rfl (bN<|agI (by omega) A s (Post.mono H ?_ fun x f=>FK.pz' f.rest.rest));exact fun t i o H h A s=>aD rfl<|ay (fZ A rfl rfl fun h A=>ay (fZ A rfl rfl fun h A=>Ei (c:=X5 5 [] .au Z8 t) (v:=⟨5,[],[],wm,t⟩) (by omega) A (fun h q=>⟨.au,[],Z8,rfl,View.nil h 9,(show pX h [] [] from rfl),RE.zero⟩) s H))
     |false=>
      rw[if_neg (by show ¬(bA T i zh=true);rw[show bA T i zh=false from b5];simp)] at H
      rw[if_neg (by simp)];refine aY fun h A s=>aD rfl (bE<|lF (by omega) (by decide) A s ?_);unfold fA;cases b6:bA T i [112,114,105,110,116] with
      |true=>
       rw[if_pos (show bA T i yF=true from b6),aC] at H
       rw[if_pos rfl];refine aY fun h A s=>aD rfl (bN<|Sy hk (by omega) A s (Post.mono H ?_ fun x f=>FK.pz' f.rest.rest));exact fun e i o H h ce A s=>aD rfl<|ofE 6 A s H
      |false=>
       rw[if_neg (by show ¬(bA T i yF=true);rw[show bA T i yF=false from b6];simp),aC] at H
       rw[if_neg (by simp)];refine aY fun h A s=>aD rfl (bE<|lg (by omega) (by decide) A s (Post.mono H ?_ fun x f=>f.rest.rest));exact fun u i o H h A s=>ay (fZ A rfl rfl fun h A=>Ei (c:=X5 7 [] .au Z8 []) (v:=⟨7,[],[],wm,[]⟩) (by omega) A (fun h q=>⟨.au,[],Z8,rfl,View.nil h 9,(show pX h [] [] from rfl),RE.zero⟩) s H)
end
@[reducible] def zA (f:Nw):List AV:=[.str f.name, .int .i64 f.ty, .str f.cls]
def RK (h:ah) (c:List AV) (k:Cls):Prop:=∃v,c=[.str k.name, .str k.super,v]∧View h 3 v (k.fields.map zA)
section
variable {h:ah} {L:gB} {S:List Sl} {F:List (ah→Prop)} {p mp en i n:Nat} {o:Int} {tv:AV} {T:List Lx} {K Q k:aK}
theorem RK.cells {c:List AV} {a:Cls} (R:RK h c a):c.length=3∧aB c=true∧uD c:=by
 obtain⟨v,rfl,V⟩:=R;exact⟨rfl,aF rfl (aF rfl (aF V.leaf rfl)), .cons (.str _) (.cons (.str _) (.cons V.iW .nil))⟩
@[reducible] def Z3f:List AV:=[.str [], .int .i64 0, .str []]
theorem Zt {e1 e2:Nat×fC} {r a:Nat} {c:List AV} (A:Cx h (e1 :: vr a c :: vr r Z3f :: L) S F) (h1:c.length=3) (h2:aB c=true) (H:∀h,Cx h (e1 :: L) S F→K (.agg c) h=true):vY (ak E n) n (.ptr r 0 0 0) (.ptr a 0 0 0) h K=true:=by
 unfold vY;exact fJ A.v1 h1<|gF A.aZ rfl h1 rfl h2 fun h A=>sI A.v1 h1 (H h A.aZ)
theorem am7 [b:dN tv mp T F] (hn:12≤n) (A:Cx h (vr p (pc tv mp en i o) :: L) S F) (s:dM T en i o)
 (H:Post (r9 T i o) (VO K (fun f=> .agg (zA f)) p mp en tv T L S F) (FK K p mp en tv T L S F)):ak E n (.func 57) [.ptr p 0 0 0] h K=true:=by
 obtain⟨n,rfl⟩:∃m,n=m+1:=⟨n-1,by omega⟩;apply d57;unfold s57;refine bO A rfl rfl rfl fun r h A=> ?_;unfold r9 at H;rw[aC] at H;refine EZ (by omega) A s (Post.mono H ?_ fun x f=>FK.pz' f.rest);refine fun nm i o H h A s=>aD rfl<|dO rfl<|bO A rfl rfl rfl fun a h A=>gF (l:=[.str nm, .int .i64 0, .str []]) A rfl rfl rfl rfl fun h A=> ?_;rw[aC] at H;refine lg (by omega) (by decide) A s (Post.mono H ?_ fun x f=>f.rest.rest);intro u i o H h A s;have fin:∀(ty:Int) {h i o},Cx h (vr p (pc tv mp en i o) :: vr a [.str nm, .int .i64 0, .str []] :: vr r Z3f :: L) S F→dM T en i o→VO K (fun f=> .agg (zA f)) p mp en tv T L S F ⟨nm,ty,[]⟩ i o→
  (aA 1 (.ptr a 0 0 0) fun v9=>aV h v9 (.int .i64 ty) fun h=>vY (ak E n) n (.ptr r 0 0 0) (.ptr a 0 0 0) h K)=true:=by
  exact fun ty h i o A s H=>ay (fZ A rfl rfl fun h A=>Zt (c:=[.str nm, .int .i64 ty, .str []]) (e2:=(0, .gone)) A rfl rfl fun h A=>H h A s)
 refine lF (by omega) (by decide) A s ?_;unfold fA;cases b1:bA T i [105,110,116] with
 |true=>
  rw[if_pos (show bA T i QH=true from b1)] at H
  rw[if_pos rfl];exact aY fun h A s=>aD rfl (bN (fin 2 A s H))
 |false=>
 rw[if_neg (by show ¬(bA T i QH=true);rw[show bA T i QH=false from b1];simp)] at H
 rw[if_neg (by simp)];refine aY fun h A s=>aD rfl (bE<|lF (by omega) (by decide) A s ?_);unfold fA;cases b2:bA T i [98,111,111,108] with
 |true=>
  rw[if_pos (show bA T i DZ=true from b2)] at H
  rw[if_pos rfl];exact aY fun h A s=>aD rfl (bN (fin 1 A s H))
 |false=>
 rw[if_neg (by show ¬(bA T i DZ=true);rw[show bA T i DZ=false from b2];simp)] at H
 rw[if_neg (by simp)];refine aY fun h A s=>aD rfl (bE<|lF (by omega) (by decide) A s ?_);unfold fA;cases b3:bA T i [116,101,120,116] with
 |true=>
  rw[if_pos (show bA T i Ea=true from b3)] at H
  rw[if_pos rfl];exact aY fun h A s=>aD rfl (bN (fin 3 A s H))
 |false=>
 rw[if_neg (by show ¬(bA T i Ea=true);rw[show bA T i Ea=false from b3];simp)] at H
 rw[if_neg (by simp)];refine aY fun h A s=>aD rfl (bE<|lF (by omega) (by decide) A s ?_);unfold fA;cases b4:bA T i [108,105,115,116] with
 |true=>
  rw[if_pos (show bA T i vG=true from b4)] at H
  rw[if_pos rfl];exact aY fun h A s=>aD rfl (bN (fin 4 A s H))
 |false=>
 rw[if_neg (by show ¬(bA T i vG=true);rw[show bA T i vG=false from b4];simp)] at H
 rw[if_neg (by simp)];refine aY fun h A s=>aD rfl (bE<|lF (by omega) (by decide) A s ?_);unfold fA;cases b5:bA T i [97,110,121] with
 |true=>
  rw[if_pos (show bA T i Ql=true from b5)] at H
  rw[if_pos rfl];exact aY fun h A s=>aD rfl (bN (fin 0 A s H))
 |false=>
 rw[if_neg (by show ¬(bA T i Ql=true);rw[show bA T i Ql=false from b5];simp),aC] at H
 rw[if_neg (by simp)];refine aY fun h A s=>aD rfl (bE<|lg (by omega) (by decide) A s (Post.mono H ?_ fun x f=>f.rest.rest));intro u i o H h A s;rw[aC] at H;refine EZ (by omega) A s (Post.mono H ?_ fun x f=>FK.pz' f.rest.rest);exact fun cl i o H h A s=>aD rfl<|ay (fZ A rfl rfl fun h A=>ay (fZ A rfl rfl fun h A=>Zt (c:=[.str nm, .int .i64 5, .str cl]) (e2:=(0, .gone)) A rfl rfl fun h A=>H h A s))
def OkK (K:aK) (p mp en:Nat) (tv:AV) (T:List Lx) (L:gB) (S:List Sl) (F:List (ah→Prop)):Cls→Nat→Int→Prop:=fun v i o=>∀h c,Cx h (vr p (pc tv mp en i o) :: L) S ((fun h=>RK h c v) :: F)→dM T en i o→K (.agg c) h=true
@[reducible] def Z3c:List AV:=[.str [], .str [], .au]
theorem amZ {kk:Nat} (hk:kk≤100000) (hn:kk+30≤n) [b:dN tv mp T F] (A:Cx h (vr p (pc tv mp en i o) :: L) S F) (s:dM T en i o)
 (H:Post (rZ T kk i o) (OkK K p mp en tv T L S F) (FK K p mp en tv T L S F)):ak E n (.func 37) [.ptr p 0 0 0] h K=true:=by
 obtain⟨n,rfl⟩:∃m,n=m+1:=⟨n-1,by omega⟩;have hmo:most=1099511627776:=rfl;apply d37;unfold s37;refine bO A rfl rfl rfl fun r h A=> ?_;unfold rZ at H;rw[aC] at H;refine EZ (by omega) A s (Post.mono H ?_ fun x f=>FK.pz' f.rest);refine fun nm i o H h A s=>aD rfl<|dO rfl<|bO A rfl rfl rfl fun a h A=>gF (l:=[.str nm, .str [], .au]) A rfl rfl rfl rfl fun h A=> ?_;have loop:∀kq m first (su:Str) {h i o v} {fs:List Nw},kq≤m→fs.length+kq≤100000→Cx h (vr p (pc tv mp en i o) :: vr a [.str nm, .str su,v] :: vr r Z3c :: L) (⟨v,3,fs.map zA⟩ :: S) F→dM T en i o→
  Post (jI T kq first fs i o) (fun fs i o=>Post (bnd (dH T [125]) (fun _=>ret ⟨nm,su,fs⟩) i o) (OkK K p mp en tv T L S F) (FK K p mp en tv T L S F)) (FK K p mp en tv T L S F)→
  Fw (ak E n) n m (.ptr p 0 0 0) (.ptr r 0 0 0) (.ptr a 0 0 0) (.bool first) h K=true:=by
  intro kq
  induction kq with
  |zero=>intro m first su h i o v fs hm hf A s H;exact absurd H (by unfold jI;exact fun q=>q)
  |succ kq ih=>
   intro m first su h i o v fs hm hf A s H
   obtain⟨m,rfl⟩:∃q,m=q+1:=⟨m-1,by omega⟩;have shut:∀{h},Cx h (vr p (pc tv mp en i o) :: vr a [.str nm, .str su,v] :: vr r Z3c :: L) (⟨v,3,fs.map zA⟩ :: S) F→Post (bnd (dH T [125]) (fun _=>ret ⟨nm,su,fs⟩) i o) (OkK K p mp en tv T L S F) (FK K p mp en tv T L S F)→
    Rf (ak E n) n (.ptr p 0 0 0) (.ptr r 0 0 0) (.ptr a 0 0 0) h K=true:=by
    intro h A H;unfold Rf;rw[aC] at H;refine have A:=A.freeze;Ls (by omega) (by decide) A s (Post.mono H ?_ fun x f=>FK.pz' f.rest.rest.drop)
    refine fun u i o H h A s=>aD rfl (fJ A.v1 rfl ?_);have A:=A.aZ.imp (R:=fun h=>RK h [.str nm, .str su,v] ⟨nm,su,fs⟩) fun h V=>⟨v,rfl,V⟩;exact have⟨w1,w2,_⟩:=(A.f0:RK h _ _).cells;gF A rfl rfl rfl w2 fun h A=>sI A.v1 rfl (H h _ A.aZ s)
   have more:∀{h i o},Cx h (vr p (pc tv mp en i o) :: vr a [.str nm, .str su,v] :: vr r Z3c :: L) (⟨v,3,fs.map zA⟩ :: S) F→dM T en i o→
    Post (bnd (r9 T) (fun f=>jI T kq false (fs++[f])) i o) (fun fs i o=>Post (bnd (dH T [125]) (fun _=>ret ⟨nm,su,fs⟩) i o) (OkK K p mp en tv T L S F) (FK K p mp en tv T L S F)) (FK K p mp en tv T L S F)→
    (ak E n (.func 57) [.ptr p 0 0 0] h <| pz K fun v28 h=>av h (.ptr a 0 0 2) <| bS v <| aQ (aO h 1 3 [.str [], .int .i64 0, .str []] [(0,v28)]) fun v29 h=>av h (.ptr a 0 0 2) <| bS v <| jO h 3 40 v v29 fun v30 h=>aA 2 (.ptr a 0 0 0) fun v31=>aV h v31 v30 fun h=>Fw (ak E n) n m (.ptr p 0 0 0) (.ptr r 0 0 0) (.ptr a 0 0 0) (.bool false) h K)=true:=by
    intro h i o A s H;have V:iW v:=A.view.iW;rw[aC] at H;refine am7 (by omega) A s (Post.mono H ?_ fun x f=>FK.pz' fun h i o A=>f h i o A.freeze.dJ.aZ.aZ);refine fun f i o H h A s=>aD rfl (aJ A.v1 rfl (bI V<|iM A rfl rfl rfl rfl rfl rfl fun vb h A _=>aJ A.v1 rfl (bI V<|jo A rfl A.f0.src ?_ ?_ fun v' h A _=> ?_)))
    ·show((fs.map zA).length+1)*40≤most;rw[List.length_map];omega
    ·show(fs.map zA).length+1≤most;rw[List.length_map];omega
    refine ay (fZ A rfl A.leafS fun h A=>ih m false su (v:=v') (fs:=fs++[f]) (by omega) (by simp;omega) ?_ s H);rw[show(fs++[f]).map zA=fs.map zA++[zA f] from by simp]
    exact A.dJ
   rw[adj];unfold RJ;unfold jI at H;cases first with
   |true=>
    rw[if_pos rfl] at H;refine cO<|bU<|iU<|Dc (d:=0) (by omega) (by omega) (by decide) A s fun h A=>aD rfl ?_;unfold Ap;rw[Nat.add_zero];cases e:bA T i [125] with
    |true=>
     rw[if_pos e] at H
     repeat first |(with_reducible first |refine bU ?_ |refine fP ?_ |refine cO ?_ |refine dx ?_ |refine eZ ?_ |refine sK ?_ |refine fH ?_)
     unfold tK;exact eZ<|oh<|zM<|eZ<|dx<|gD<|gD<|bE<|shut A H
    |false=>
     rw[if_neg (by rw[e];simp)] at H;exact cO<|fM<|fH<|eD<|eD<|eD<|oh<|zM<|oh<|oh<|zM<|oh<|eD<|fH<|bN<|ay<|aJ A.v1 rfl<|more A s H
   |false=>
    rw[if_neg (by simp)] at H;refine eZ<|sK ?_;unfold Ap
    repeat first |(with_reducible first |refine bU ?_ |refine fM ?_ |refine cO ?_ |refine dx ?_ |refine eZ ?_ |refine iU ?_ |refine gD ?_)
    refine lF (by omega) (by decide) A s ?_;unfold fA;cases e:bA T i [44] with
    |true=>
     rw[if_pos e] at H;rw[if_pos rfl];exact aY fun h A s=>aD rfl<|cO<|bU<|eD<|Bn<|cO<|fH<|dx<|fH<|gD<|bN<|ay<|aJ A.v1 rfl<|more A s H
    |false=>
     rw[if_neg (by rw[e];simp)] at H;rw[if_neg (by simp)];refine aY fun h A s=>aD rfl<|cO<|bU<|dx<|bU<|lK<|akb (by omega) A s fun h A=>aD rfl ?_;unfold tH;cases e2:qP T i with
     |true=>
      rw[if_pos e2] at H;exact cO<|gD<|dx<|fH<|gD<|bN<|ay<|aJ A.v1 rfl<|more A s H
     |false=>
      rw[if_neg (by rw[e2];simp)] at H;exact cO<|gD<|dx<|fH<|gD<|bE<|shut A H
 have opn:∀(su:Str) {h i o},Cx h (vr p (pc tv mp en i o) :: vr a [.str nm, .str su, .au] :: vr r Z3c :: L) S F→dM T en i o→
  Post (bnd (fB T [123]) (fun _=>bnd (jI T kk true []) fun fs=>bnd (dH T [125]) fun _=>ret ⟨nm,su,fs⟩) i o) (OkK K p mp en tv T L S F) (FK K p mp en tv T L S F)→LJ (ak E n) n (.ptr p 0 0 0) (.ptr r 0 0 0) (.ptr a 0 0 0) h K=true:=by
  intro su h i o A s H;unfold LJ;rw[aC] at H;refine Cu (by omega) (by decide) A s (Post.mono H ?_ fun x f=>FK.pz' f.rest.rest);refine fun u i o H h A s=>aD rfl ?_;rw[aC] at H;exact loop kk n true su (fs:=[]) (by omega) (by simpa using hk) (A.slc 3) s H
 rw[aC] at H;unfold RI at H;rw[aC] at H;refine lF (by omega) (by decide) A s (Post.mono H ?_ fun _ _=>trivial);refine fun bb i o H h A s=>aD rfl ?_;cases bb with
 |true=>
  rw[if_pos rfl] at H;refine bN<|EZ (by omega) A s (Post.mono H ?_ fun x f=>FK.pz' f.rest.rest);exact fun su i o H h A s=>aD rfl<|ay (fZ A rfl rfl fun h A=>opn su A s H)
 |false=>
  rw[if_neg (by simp)] at H;exact bE<|opn [] A s H
theorem aos (hn:8≤n) [b:dN tv mp T F] (A:Cx h (vr p (pc tv mp en i o) :: L) S F) (s:dM T en i o)
 (H:Post (Qd T i o) (VO K (fun v=> .int .i64 v) p mp en tv T L S F) (FK K p mp en tv T L S F)):ak E n (.func 60) [.ptr p 0 0 0] h K=true:=by
 obtain⟨n,rfl⟩:∃m,n=m+1:=⟨n-1,by omega⟩;have hl:=s.len;have hlim:=sS;apply d60;unfold s60;unfold Qd at H;rw[aC] at H;refine lF (by omega) (by decide) A s (Post.mono H ?_ fun _ _=>trivial);refine fun least i o H h A s=>aD rfl<|Xf (k:=2) (by omega) A s fun h A=>aD rfl ?_;unfold MF;cases k2:dS T i 2 with
 |false=>
  rw[if_neg (by rw[k2];simp)] at H;exact yB (by omega) A s (FK.pz' H)
 |true=>
  rw[if_pos k2] at H;have⟨n1,n2,n3⟩:=Y4 s k2;refine have hi:=uO k2;yB (by omega) A s (aY fun h A s=>aD rfl<|U2 (d:=0) (by omega) (by omega) A s fun h A=>aD rfl ?_)
  rw[Nat.add_zero];have⟨x1,x2,ea⟩:=Hz T i;rw[ea];unfold M7;refine UE rfl<|akx (by omega) A b.gv n1 n2 ?_ ?_
  ·intro v ev;rw[ev] at H;simp only at H;refine have h0:=n3 v ev;aD rfl<|jY<|kg<|qJ (show Ja h false .ifn .iC .iC=some (.bool true) from rfl)<|cO<|bU<|cO<|Ij<|fH ?_
   cases hc:decide (v≤2147483648) with
   |false=>
    rw[if_neg (of_decide_eq_false hc)] at H;exact yB (by omega) A s (FK.pz' H)
   |true=>
    have hv:=of_decide_eq_true hc;rw[if_pos hv] at H;refine yB (by omega) A s (aY fun h A s=>aD rfl<|eB<|ay<|aJ A.var rfl<|gZ (show i+1≤lim by omega)<|eB<|ay<|sD A rfl rfl fun h A=>have s:=s.step hi;?_);cases least with
    |true=>
     rw[if_pos rfl] at H;refine bN (qJ (v:= .int .i64 (-v)) ?_ (H h A s));simp only[abF];rw[wrap64 (by omega) (by omega),Int.zero_sub]
    |false=>
     rw[if_neg (by simp)] at H;exact bE (H h A s)
  ·intro ev h u w A;rw[ev] at H;exact aD rfl<|jY<|kg<|qJ (show Ja h false .ifn (.ifc 171 w) .iC=some (.bool false) from rfl)<|eZ<|eZ<|gD<|yB (by omega) A s (FK.pz' H)
end
def Pj (h:ah):List (List AV)→List Act→Prop
 |es,[]=>es=[]
 |es,a :: l=>∃c r,es=c :: r∧RA h c a∧Pj h r l
@[reducible] def aaU (r:KR) (vw vt:AV):List AV:=[.str r.name, .int .i64 r.sal, .str r.group, .str r.flow, .bool r.noloop, .bool r.lock,vw,vt]
def RR (h:ah) (c:List AV) (r:KR):Prop:=∃vw ew vt et,c=aaU r vw vt∧View h 19 vw ew∧eY h ew r.whn∧View h 12 vt et∧Pj h et r.thn
def RQ (h:ah) (c:List AV) (q:Qry):Prop:=∃vp vw ew,c=[.str q.name,vp,vw]∧View h 1 vp (q.params.map sV)∧View h 19 vw ew∧eY h ew q.whn
section
variable {h:ah} {L:gB} {S:List Sl} {F:List (ah→Prop)} {p mp en i n:Nat} {o:Int} {tv:AV} {T:List Lx} {K Q k:aK}
theorem Pj.app {es es':List (List AV)} {l l':List Act} (R:Pj h es l) (R':Pj h es' l'):Pj h (es++es') (l++l'):=by
 induction l generalizing es with
 |nil=>simp only[Pj] at R;subst R;exact R'
 |cons b l ih=>
  simp only[Pj] at R;obtain⟨c,r,rfl,R1,R2⟩:=R;exact⟨c,r++es',rfl,R1,ih R2⟩
theorem Pj.one {c:List AV} {a:Act} (R:RA h c a):Pj h [c] [a]:=⟨c,[],rfl,R,rfl⟩
theorem Pj.len {es:List (List AV)} {l:List Act} (R:Pj h es l):es.length=l.length:=by
 induction l generalizing es with
 |nil=>simp only[Pj] at R;subst R;rfl
 |cons b l ih=>
  simp only[Pj] at R;obtain⟨c,r,rfl,R1,R2⟩:=R;simp[ih R2]
theorem abr {r:KR} {vw vt:AV} (h1:vw.leaf=true) (h2:vt.leaf=true):aB (aaU r vw vt)=true:=
 aF rfl (aF rfl (aF rfl (aF rfl (aF rfl (aF rfl (aF h1 (aF h2 rfl)))))))
theorem RR.cells {c:List AV} {r:KR} (R:RR h c r):c.length=8∧aB c=true∧uD c:=by
 obtain⟨vw,ew,vt,et,rfl,V1,_,V2,_⟩:=R;exact⟨rfl,abr V1.leaf V2.leaf, .cons (.str _) (.cons (.int _ _) (.cons (.str _) (.cons (.str _) (.cons (.bool _) (.cons (.bool _) (.cons V1.iW (.cons V2.iW .nil)))))))⟩
theorem RQ.cells {c:List AV} {r:Qry} (R:RQ h c r):c.length=3∧aB c=true∧uD c:=by
 obtain⟨vp,vw,ew,rfl,V1,V2,_⟩:=R;exact⟨rfl,aF rfl (aF V1.leaf (aF V2.leaf rfl)), .cons (.str _) (.cons V1.iW (.cons V2.iW .nil))⟩
def OkR (K:aK) (p mp en:Nat) (tv:AV) (T:List Lx) (L:gB) (S:List Sl) (F:List (ah→Prop)):KR→Nat→Int→Prop:=fun v i o=>∀h c,Cx h (vr p (pc tv mp en i o) :: L) S ((fun h=>RR h c v) :: F)→dM T en i o→K (.agg c) h=true
def OkQ (K:aK) (p mp en:Nat) (tv:AV) (T:List Lx) (L:gB) (S:List Sl) (F:List (ah→Prop)):Qry→Nat→Int→Prop:=fun v i o=>∀h c,Cx h (vr p (pc tv mp en i o) :: L) S ((fun h=>RQ h c v) :: F)→dM T en i o→K (.agg c) h=true
@[reducible] def Z8r:List AV:=[.str [], .int .i64 0, .str [], .str [], .bool false, .bool false, .au, .au]
theorem akv {kk:Nat} (hk:kk≤100000) (hn:4*kk+81≤n) [b:dN tv mp T F] {ve:AV} {ends:List Str} (hw:∀w∈ends,w≠[]) (he:ends.length≤10) (kv:Knows L S F (fun h=>View h 1 ve (ends.map sV)))
 (A:Cx h (vr p (pc tv mp en i o) :: L) S F) (s:dM T en i o)
 (H:Post (jG T kk ends [] i o) (OkL 100000 K p mp en tv T L S F) (FK K p mp en tv T L S F)):ak E n (.func 61) [.ptr p 0 0 0,ve] h K=true:=by
 obtain⟨n,rfl⟩:∃m,n=m+1:=⟨n-1,by omega⟩;apply d61;unfold s61;have A:=(A.slc 19).tru (R:=fun h=>eY h [] []) fun h=>eY.nil;exact(aci kk hk).conds (by omega) (by omega) hw he kv (by simpa using hk) A s H
theorem apJ {kk:Nat} (hk:kk≤100000) (hn:4*kk+90≤n) [b:dN tv mp T F] (A:Cx h (vr p (pc tv mp en i o) :: L) S F) (s:dM T en i o)
 (H:Post (wF T kk i o) (OkR K p mp en tv T L S F) (FK K p mp en tv T L S F)):ak E n (.func 38) [.ptr p 0 0 0] h K=true:=by
 obtain⟨n,rfl⟩:∃m,n=m+1:=⟨n-1,by omega⟩;have hmo:most=1099511627776:=rfl;apply d38;unfold s38;refine bO A rfl rfl rfl fun r h A=> ?_;unfold wF at H;rw[aC] at H;refine agI (by omega) A s (Post.mono H ?_ fun x f=>FK.pz' f.rest);refine fun nm i o H h A s=>aD rfl<|dO rfl<|bO A rfl rfl rfl fun a h A=>gF (l:=aaU ⟨nm,0,[],[],false,false,[],[]⟩ .au .au) A rfl rfl rfl rfl fun h A=> ?_;have acts:∀kq m (ru:KR) (w:List Cd) (vw:AV) (ew:List (List AV)) {h i o vt et} {acc:List Act},vw.leaf=true→kq≤m→acc.length+kq≤100000→
  Cx h (vr p (pc tv mp en i o) :: vr a (aaU ru vw vt) :: vr r Z8r :: L) (⟨vt,12,et⟩ :: S) ((fun h=>Pj h et acc) :: (fun h=>eY h ew w) :: (fun h=>View h 19 vw ew) :: F)→dM T en i o→
  Post (wI T kk kq acc i o) (fun t i o=>Post (ret {ru with whn:=w,thn:=t} i o) (OkR K p mp en tv T L S F) (FK K p mp en tv T L S F)) (FK K p mp en tv T L S F)→
  MP (ak E n) n m (.ptr p 0 0 0) (.ptr r 0 0 0) (.ptr a 0 0 0) h K=true:=by
  intro kq
  induction kq with
  |zero=>intro m ru w vw ew h i o vt et acc hvl hm hf A s H;exact absurd H (by unfold wI;exact fun q=>q)
  |succ kq ih=>
   intro m ru w vw ew h i o vt et acc hvl hm hf A s H;obtain⟨m,rfl⟩:∃q,m=q+1:=⟨m-1,by omega⟩;have hlen:=(A.f0:Pj h et acc).len;rw[aes];unfold RY;refine lF (by omega) (by decide) A s ?_;unfold fA;unfold wI at H;cases e:bA T i [101,110,100] with
   |true=>
    rw[if_pos (show bA T i Kn=true from e)] at H
    rw[if_pos rfl];refine aY fun h A s=>aD rfl<|fP<|bE ?_;unfold WR;refine have A:=A.freeze;fJ A.v1 rfl ?_
    have A:=A.aZ.add (R:=fun h=>RR h (aaU ru vw vt) {ru with whn:=w,thn:=acc}) fun h q=>
     ⟨vw,ew,vt,et,rfl,q (fun h=>View h 19 vw ew) (by simp),q (fun h=>eY h ew w) (by simp),q (fun h=>View h 12 vt et) (by simp),q (fun h=>Pj h et acc) (by simp)⟩
    exact have⟨w1,w2,_⟩:=(A.f0:RR h _ _).cells;gF A rfl rfl rfl w2 fun h A=>sI A.v1 rfl<|H h _ A.aZ.drop1.drop1.drop1.drop1 s
   |false=>
    rw[if_neg (by show ¬(bA T i Kn=true);rw[show bA T i Kn=false from e];simp),aC] at H
    rw[if_neg (by simp)];refine aY fun h A s=>aD rfl ?_;unfold zQ;refine have V:iW vt:=A.view.iW;fM<|bN<|ay<|aJ A.v1 rfl<|anT hk (by omega) A s (Post.mono H ?_ fun x f=>FK.pz' fun h i o A=>f h i o A.freeze.dJ.dJ.dJ.dJ.aZ.aZ)
    intro ac i o H h c A s;refine have⟨w1,w2,w3⟩:=(A.f0:RA h c ac).cells;aD rfl (aJ A.v1 rfl (bI V<|iM A rfl rfl rfl rfl (dY w1 w2) rfl fun vb h A _=>aJ A.v1 rfl (bI V<|jo A rfl A.f0.src ?_ ?_ fun vt' h A _=> ?_)))
    ·show(et.length+1)*176≤most;omega
    ·show et.length+1≤most;omega
    refine ay (fZ A rfl A.leafS fun h A=> ?_);have A:=A.dJ.imp2 (R:=fun h=>Pj h (et++[c]) (acc++[ac])) fun h R1 R2=>R2.app (Pj.one R1);exact ih m ru w vw ew hvl (by omega) (by simp;omega) A s H
 have head:∀kq m (ru:KR) {h i o},kq≤m→Cx h (vr p (pc tv mp en i o) :: vr a (aaU ru .au .au) :: vr r Z8r :: L) S F→dM T en i o→
  Post (oZ T kq ru i o) (fun ru i o=>Post (bnd (jG T kk [Iq] []) (fun w=>bnd (d9 T Iq) fun _=>bnd (wI T kk kk []) fun t=>ret {ru with whn:=w,thn:=t}) i o) (OkR K p mp en tv T L S F) (FK K p mp en tv T L S F)) (FK K p mp en tv T L S F)→
  Tg (ak E n) n m (.ptr p 0 0 0) (.ptr r 0 0 0) (.ptr a 0 0 0) h K=true:=by
  intro kq
  induction kq with
  |zero=>intro m ru h i o hm A s H;exact absurd H (by unfold oZ;exact fun q=>q)
  |succ kq ih=>
   intro m ru h i o hm A s H;obtain⟨m,rfl⟩:∃q,m=q+1:=⟨m-1,by omega⟩;rw[afj];unfold Zn;unfold oZ at H;refine lF (by omega) (by decide) A s ?_;unfold fA;cases b1:bA T i [119,104,101,110] with
   |true=>
    rw[if_pos (show bA T i KP=true from b1)] at H
    rw[if_pos rfl];refine aY fun h A s=>aD rfl<|fP (bE ?_);unfold Wm;have H:Post (bnd (jG T kk [Iq] []) (fun w=>bnd (d9 T Iq) fun _=>bnd (wI T kk kk []) fun t=>ret {ru with whn:=w,thn:=t}) (i+1) o) (OkR K p mp en tv T L S F) (FK K p mp en tv T L S F):=H
    rw[aC] at H;refine iM A rfl rfl rfl rfl rfl rfl fun ve h A _=>akv (ends:=[Iq]) hk (by omega) (by decide) (by decide) (Knows.mem (by exact List.mem_cons_self)) A s (Post.mono H ?_ fun x f=>FK.pz' f.rest.rest.drop);intro w i o H hl h v ew A s;refine have hvl:=A.f1.leaf;aD (nZ A.f1)<|ay (fZ A rfl hvl fun h A=> ?_)
    rw[aC] at H;have A:=A.facts' (F':=(fun h=>eY h ew w) :: (fun h=>View h 19 v ew) :: F) fun R m=>by
     simp only[List.mem_cons] at m ⊢;rcases m with h |h |h
     ·exact .inl h
     ·exact .inr (.inl h)
     ·simp[h]
    refine lg (by omega) (by decide) A s (Post.mono H ?_ fun x f=>f.rest.rest.drop.drop);intro u i o H h A s;rw[aC] at H;have A:=(A.slc 12).tru (R:=fun h=>Pj h [] []) fun h=>rfl;exact acts kk n ru w v ew hvl (by omega) (by simpa using hk) A s H
   |false=>
   rw[if_neg (by show ¬(bA T i KP=true);rw[show bA T i KP=false from b1];simp)] at H
   rw[if_neg (by simp)];refine aY fun h A s=>aD rfl<|fM (bN<|lF (by omega) (by decide) A s ?_);unfold fA;cases b2:bA T i [115,97,108,105,101,110,99,101] with
   |true=>
    rw[if_pos (show bA T i abm=true from b2),aC] at H
    rw[if_pos rfl];refine aY fun h A s=>aD rfl (bN<|aos (by omega) A s (Post.mono H ?_ fun x f=>FK.pz' f.rest.rest));exact fun v i o H h A s=>aD rfl<|ay (fZ A rfl rfl fun h A=>ih m {ru with sal:=v} (by omega) A s H)
   |false=>
   rw[if_neg (by show ¬(bA T i abm=true);rw[show bA T i abm=false from b2];simp)] at H
   rw[if_neg (by simp)];refine aY fun h A s=>aD rfl (bE<|lF (by omega) (by decide) A s ?_);unfold fA;cases b3:bA T i [103,114,111,117,112] with
   |true=>
    rw[if_pos (show bA T i Fe=true from b3),aC] at H
    rw[if_pos rfl];refine aY fun h A s=>aD rfl (bN<|agI (by omega) A s (Post.mono H ?_ fun x f=>FK.pz' f.rest.rest));exact fun v i o H h A s=>aD rfl<|ay (fZ A rfl rfl fun h A=>ih m {ru with group:=v} (by omega) A s H)
   |false=>
   rw[if_neg (by show ¬(bA T i Fe=true);rw[show bA T i Fe=false from b3];simp)] at H
   rw[if_neg (by simp)];refine aY fun h A s=>aD rfl (bE<|lF (by omega) (by decide) A s ?_);unfold fA;cases b4:bA T i [102,108,111,119] with
   |true=>
    rw[if_pos (show bA T i Oa=true from b4),aC] at H
    rw[if_pos rfl];refine aY fun h A s=>aD rfl (bN<|agI (by omega) A s (Post.mono H ?_ fun x f=>FK.pz' f.rest.rest));exact fun v i o H h A s=>aD rfl<|ay (fZ A rfl rfl fun h A=>ih m {ru with flow:=v} (by omega) A s H)
   |false=>
   rw[if_neg (by show ¬(bA T i Oa=true);rw[show bA T i Oa=false from b4];simp)] at H
   rw[if_neg (by simp)];refine aY fun h A s=>aD rfl (bE<|lF (by omega) (by decide) A s ?_);unfold fA;cases b5:bA T i [110,111,108,111,111,112] with
   |true=>
    rw[if_pos (show bA T i Aa=true from b5)] at H
    rw[if_pos rfl];exact aY fun h A s=>aD rfl (bN<|ay (fZ A rfl rfl fun h A=>ih m {ru with noloop:=true} (by omega) A s H))
   |false=>
   rw[if_neg (by show ¬(bA T i Aa=true);rw[show bA T i Aa=false from b5];simp),aC] at H
   rw[if_neg (by simp)];refine aY fun h A s=>aD rfl (bE<|lg (by omega) (by decide) A s (Post.mono H ?_ fun x f=>f.rest.rest));exact fun u i o H h A s=>ay (fZ A rfl rfl fun h A=>ih m {ru with lock:=true} (by omega) A s H)
 rw[aC] at H;exact head kk n _ (by omega) A s H
@[reducible] def UZ (nm:Str) (vp vw:AV):List AV:=[.str nm,vp,vw]
@[reducible] def Z3q:List AV:=[.str [], .au, .au]
theorem anJ (hn:12≤n) [b:dN tv mp T F] {pb c r:Nat} {nm:Str} {vp:AV} {acc:List Str} (hacc:acc.length≤100000)
 (A:Cx h (vr p (pc tv mp en i o) :: vr c (UZ nm vp .au) :: vr r Z3q :: vr pb [.ptr p 0 0 0] :: L) (⟨vp,1,acc.map sV⟩ :: S) F) (s:dM T en i o)
 (H:Post (tT T acc i o)
   (fun acc' i o=>acc'.length=acc.length+1→∀h vp,Cx h (vr p (pc tv mp en i o) :: vr c (UZ nm vp .au) :: vr r Z3q :: vr pb [.ptr p 0 0 0] :: L) (⟨vp,1,acc'.map sV⟩ :: S) F→dM T en i o→K (.tup []) h=true)
   (fun x=>∀h i o,Cx h (vr p (pc tv mp en i o) :: vr c (UZ nm vp .au) :: vr r Z3q :: vr pb [.ptr p 0 0 0] :: L) (⟨vp,1,acc.map sV⟩ :: S) F→K (flt T en x) h=true)):
 ak E n (.func 64) [.ptr c 0 0 0, .ptr pb 0 0 0] h K=true:=by
 obtain⟨n,rfl⟩:∃m,n=m+1:=⟨n-1,by omega⟩;have hmo:most=1099511627776:=rfl;apply d64;unfold s64;refine have V:iW vp:=A.view.iW;ay<|aJ A.v1 rfl<|aJ A.v3 rfl ?_
 unfold tT at H;rw[aC] at H;refine Xi (by omega) A s (Post.mono H ?_ fun x f=>FK.pz' fun h i o A=>f h i o A);refine fun v i o H h A s=>aD rfl<|aJ A.v1 rfl<|bI V<|iM A rfl rfl rfl rfl (kG rfl) rfl fun vb h A _=>aJ A.v1 rfl<|bI V<|aJ A.v3 rfl<|bI (iW.ptr _ _ _ _)<|jo A rfl A.f0.src ?_ ?_ fun vp' h A _=> ?_
 ·show((acc.map sV).length+1)*16≤most;rw[List.length_map];omega
 ·show(acc.map sV).length+1≤most;rw[List.length_map];omega
 refine ay (fZ A rfl A.leafS fun h A=>H (by simp) h vp' ?_ s);rw[show(acc++[v]).map sV=acc.map sV++[[.str v]] from by simp]
 exact A.dJ
theorem ao2 {kk:Nat} (hk:kk≤100000) (hn:4*kk+90≤n) [b:dN tv mp T F] (A:Cx h (vr p (pc tv mp en i o) :: L) S F) (s:dM T en i o)
 (H:Post (qG T kk i o) (OkQ K p mp en tv T L S F) (FK K p mp en tv T L S F)):ak E n (.func 40) [.ptr p 0 0 0] h K=true:=by
 obtain⟨n,rfl⟩:∃m,n=m+1:=⟨n-1,by omega⟩;apply d40;unfold s40;refine VB A rfl fun pb h A=>bO A rfl rfl rfl fun r h A=>aJ A.v2 rfl ?_;unfold qG at H;rw[aC] at H;refine EZ (by omega) A s (Post.mono H ?_ fun x f=>FK.pz' f.rest.rest);refine fun nm i o H h A s=>aD rfl<|dO rfl<|bO A rfl rfl rfl fun c h A=>gF (l:=UZ nm .au .au) A rfl rfl rfl rfl fun h A=>aJ A.v3 rfl ?_;rw[aC] at H;refine Cu (by omega) (by decide) A s (Post.mono H ?_ fun x f=>FK.pz' f.rest.rest.rest);refine fun u i o H h A s=>aD rfl<|aJ A.v3 rfl<|bU ?_;rw[aC] at H;obtain⟨n,rfl⟩:∃m,n=m+1:=⟨n-1,by omega⟩;have A:=A.slc 1;refine ab4 (one:=tT T) (kk:=kk) (s:=[])
  (C:=fun j acc L' S' F'=>∃vp,L'=vr c (UZ nm vp .au) :: vr r Z3q :: vr pb [.ptr p 0 0 0] :: L∧S'=⟨vp,1,acc.map sV⟩ :: S∧F=F'∧acc.length+j≤kk)
  (D:=fun L' S' F'=>∃(vp:AV) (acc:List Str),L'=vr c (UZ nm vp .au) :: vr r Z3q :: vr pb [.ptr p 0 0 0] :: L∧S'=⟨vp,1,acc.map sV⟩ :: S∧F=F')
  (fun{j s L S F} hC=>by obtain⟨_,_,_,rfl,_⟩:=hC;infer_instance)
  (fun{j s L S F} hC=>by obtain⟨vp,h1,h2,h3,_⟩:=hC;exact⟨vp,s,h1,h2,h3⟩)
  (by omega) (by decide) ?_ ⟨.au,rfl,rfl,rfl,by simp⟩ A s (Post.mono H ?_ ?_)
 ·intro j acc h L' S' F' i o K' hC A s H;obtain⟨vp,rfl,rfl,rfl,hj⟩:=hC;show ak E n (.func 64) [.ptr c 0 0 0, .ptr pb 0 0 0] h K'=true;refine anJ (acc:=acc) (by omega) (by omega) A s (Post.mono H ?_ ?_)
  ·exact fun acc' i o H hl h vp A s=>H h _ _ _ ⟨vp,rfl,rfl,rfl,by omega⟩ A s
  ·exact fun x f h i o A=>f h i o _ _ _ ⟨vp,acc,rfl,rfl,rfl⟩ A
 ·intro ps i o H h L' S' F' hC A s;obtain⟨j,vp,rfl,rfl,rfl,hj⟩:=hC;refine aD rfl<|aJ A.v3 rfl<|have A:=A.freeze;have hpl:=A.f0.leaf;?_
  rw[aC] at H;refine iM A rfl rfl rfl rfl rfl rfl fun ve h A _=>akv (ends:=[Kn]) hk (by omega) (by decide) (by decide) (Knows.mem (by exact List.mem_cons_self)) A s (Post.mono H ?_ fun x f=>FK.pz' f.rest.rest.rest.drop.drop);intro w i o H hl h vw ew A s;refine have hvl:=A.f1.leaf;aD (nZ A.f1)<|ay (fZ A rfl hvl fun h A=>aJ A.v3 rfl ?_)
  rw[aC] at H;refine lg (by omega) (by decide) A s (Post.mono H ?_ fun x f=>f.rest.rest.rest.drop.drop.drop.drop);refine fun u i o H h A s=>fJ (c:=UZ nm vp vw) A.v1 rfl ?_;have A:=A.aZ.add (R:=fun h=>RQ h (UZ nm vp vw) ⟨nm,ps,w⟩) fun h q=>
   ⟨vp,vw,ew,rfl,q (fun h=>View h 1 vp (ps.map sV)) (by simp),q (fun h=>View h 19 vw ew) (by simp),q (fun h=>eY h ew w) (by simp)⟩
  exact have⟨w1,w2,_⟩:=(A.f0:RQ h _ _).cells;gF A rfl rfl rfl w2 fun h A=>sI A.v1 rfl<|H h _ A.aZ.aZ.drop1.drop1.drop1.drop1 s
 ·intro x f h i o L' S' F' hD A;obtain⟨vp,acc,rfl,rfl,rfl⟩:=hD;exact f h i o A.freeze.dJ.aZ.aZ.aZ
end
def Nu (h:ah):List (List AV)→List Cls→Prop
 |es,[]=>es=[]
 |es,a :: l=>∃c r,es=c :: r∧RK h c a∧Nu h r l
def JX (h:ah):List (List AV)→List KR→Prop
 |es,[]=>es=[]
 |es,a :: l=>∃c r,es=c :: r∧RR h c a∧JX h r l
def Ny (h:ah):List (List AV)→List Qry→Prop
 |es,[]=>es=[]
 |es,a :: l=>∃c r,es=c :: r∧RQ h c a∧Ny h r l
def I8 (h:ah) (c:List AV) (b:NQ):Prop:=∃v0 e0 v1 e1 v2 e2,c=[v0,v1,v2]∧View h 3 v0 e0∧Nu h e0 b.classes∧View h 8 v1 e1∧JX h e1 b.rules∧View h 3 v2 e2∧Ny h e2 b.queries
section
variable {h:ah} {L:gB} {S:List Sl} {F:List (ah→Prop)} {p mp en i n:Nat} {o:Int} {tv:AV} {T:List Lx} {K Q k:aK}
theorem Nu.app {es es':List (List AV)} {l l':List Cls} (R:Nu h es l) (R':Nu h es' l'):Nu h (es++es') (l++l'):=by
 induction l generalizing es with
 |nil=>simp only[Nu] at R;subst R;exact R'
 |cons b l ih=>
  simp only[Nu] at R;obtain⟨c,r,rfl,R1,R2⟩:=R;exact⟨c,r++es',rfl,R1,ih R2⟩
theorem JX.app {es es':List (List AV)} {l l':List KR} (R:JX h es l) (R':JX h es' l'):JX h (es++es') (l++l'):=by
 induction l generalizing es with
 |nil=>simp only[JX] at R;subst R;exact R'
 |cons b l ih=>
  simp only[JX] at R;obtain⟨c,r,rfl,R1,R2⟩:=R;exact⟨c,r++es',rfl,R1,ih R2⟩
theorem Ny.app {es es':List (List AV)} {l l':List Qry} (R:Ny h es l) (R':Ny h es' l'):Ny h (es++es') (l++l'):=by
 induction l generalizing es with
 |nil=>simp only[Ny] at R;subst R;exact R'
 |cons b l ih=>
  simp only[Ny] at R;obtain⟨c,r,rfl,R1,R2⟩:=R;exact⟨c,r++es',rfl,R1,ih R2⟩
theorem Nu.one {c:List AV} {a:Cls} (R:RK h c a):Nu h [c] [a]:=⟨c,[],rfl,R,rfl⟩
theorem JX.one {c:List AV} {a:KR} (R:RR h c a):JX h [c] [a]:=⟨c,[],rfl,R,rfl⟩
theorem Ny.one {c:List AV} {a:Qry} (R:RQ h c a):Ny h [c] [a]:=⟨c,[],rfl,R,rfl⟩
theorem Nu.len {es:List (List AV)} {l:List Cls} (R:Nu h es l):es.length=l.length:=by
 induction l generalizing es with
 |nil=>simp only[Nu] at R;subst R;rfl
 |cons b l ih=>simp only[Nu] at R;obtain⟨c,r,rfl,R1,R2⟩:=R;simp[ih R2]
theorem JX.len {es:List (List AV)} {l:List KR} (R:JX h es l):es.length=l.length:=by
 induction l generalizing es with
 |nil=>simp only[JX] at R;subst R;rfl
 |cons b l ih=>simp only[JX] at R;obtain⟨c,r,rfl,R1,R2⟩:=R;simp[ih R2]
theorem Ny.len {es:List (List AV)} {l:List Qry} (R:Ny h es l):es.length=l.length:=by
 induction l generalizing es with
 |nil=>simp only[Ny] at R;subst R;rfl
 |cons b l ih=>simp only[Ny] at R;obtain⟨c,r,rfl,R1,R2⟩:=R;simp[ih R2]
theorem I8.cells {c:List AV} {b:NQ} (R:I8 h c b):c.length=3∧aB c=true:=by
 obtain⟨v0,e0,v1,e1,v2,e2,rfl,V0,_,V1,_,V2,_⟩:=R;exact⟨rfl,aF V0.leaf (aF V1.leaf (aF V2.leaf rfl))⟩
theorem _root_.Go.Ab.Cx.rotS {a b c:Sl} (A:Cx h L (a :: b :: c :: S) F):Cx h L (c :: b :: a :: S) F:=A.perm (.refl _) (by
 exact((List.Perm.swap b c _).trans ((List.Perm.swap a c S).cons b)).trans (List.Perm.swap a b _))
def akQ (K:aK) (p mp en:Nat) (tv:AV) (T:List Lx) (L:gB) (S:List Sl) (F:List (ah→Prop)):NQ→Nat→Int→Prop:=fun v i o=>∀h c,Cx h (vr p (pc tv mp en i o) :: L) S ((fun h=>I8 h c v) :: F)→dM T en i o→K (.agg c) h=true
@[reducible] def Xk:List AV:=[.au, .au, .au]
theorem an8 {kk kq:Nat} (hk:kk≤100000) (hq:kq≤100000) (hn:4*kk+100≤n) (hn2:kq+1≤n) [b:dN tv mp T F] (A:Cx h (vr p (pc tv mp en i o) :: L) S F) (s:dM T en i o)
 (H:Post (jB T kk kq ⟨[],[],[]⟩ i o) (akQ K p mp en tv T L S F) (FK K p mp en tv T L S F)):ak E n (.func 20) [.ptr p 0 0 0] h K=true:=by
 obtain⟨n,rfl⟩:∃m,n=m+1:=⟨n-1,by omega⟩;have hmo:most=1099511627776:=rfl;apply d20;unfold s20;refine bO A rfl rfl rfl fun r h A=>bO A rfl rfl rfl fun a h A=> ?_;have loop:∀kq m (ba:NQ) {h i o v0 e0 v1 e1 v2 e2},kq≤m→ba.classes.length+ba.rules.length+ba.queries.length+kq≤100000→
  Cx h (vr p (pc tv mp en i o) :: vr a [v0,v1,v2] :: vr r Xk :: L) (⟨v0,3,e0⟩ :: ⟨v1,8,e1⟩ :: ⟨v2,3,e2⟩ :: S) ((fun h=>Nu h e0 ba.classes∧JX h e1 ba.rules∧Ny h e2 ba.queries) :: F)→dM T en i o→
  Post (jB T kk kq ba i o) (akQ K p mp en tv T L S F) (FK K p mp en tv T L S F)→VN (ak E n) n m (.ptr p 0 0 0) (.ptr r 0 0 0) (.ptr a 0 0 0) h K=true:=by
  intro kq
  induction kq with
  |zero=>intro m ba h i o v0 e0 v1 e1 v2 e2 hm hf A s H;exact absurd H (by unfold jB;exact fun q=>q)
  |succ kq ih=>
   intro m ba h i o v0 e0 v1 e1 v2 e2 hm hf A s H;obtain⟨m,rfl⟩:∃q,m=q+1:=⟨m-1,by omega⟩;obtain⟨R0,R1,R2⟩:Nu h e0 ba.classes∧JX h e1 ba.rules∧Ny h e2 ba.queries:=A.f0;have l0:=R0.len;have l1:=R1.len;have l2:=R2.len;have V0:iW v0:=A.view.iW;have V1:iW v1:=A.swapS.view.iW;have V2:iW v2:=A.rotS.view.iW;have pan:∀{x:Nat} {R:ah→Prop},FK K p mp en tv T L S F x→FK K p mp en tv T (vr a [v0,v1,v2] :: vr r Xk :: L) (⟨v0,3,e0⟩ :: ⟨v1,8,e1⟩ :: ⟨v2,3,e2⟩ :: S) (R :: F) x:=
    fun f h i o A=>f h i o A.freeze.freeze.freeze.dJ.dJ.dJ.dJ.aZ.aZ
   rw[agk];unfold Za;have VT:View h 4 tv (T.map lI):=A.fact (List.mem_cons_of_mem _ b.tok)
   repeat first |(with_reducible first |refine eB ?_ |refine ay ?_ |refine fT ?_ |refine aJ A.var rfl ?_)|refine dZ VT ?_
   rw[List.length_map];unfold jB at H;cases hc:decide (i<T.length) with
   |false=>
    rw[if_neg (of_decide_eq_false hc)] at H;refine bE ?_;unfold WY;refine have A:=A.freeze.freeze.freeze;fJ A.v1 rfl ?_
    have A:=A.aZ.add (R:=fun h=>I8 h [v0,v1,v2] ba) fun h q=>by
     exact have RR:=q (fun h=>Nu h e0 ba.classes∧JX h e1 ba.rules∧Ny h e2 ba.queries) (by simp);⟨v0,e0,v1,e1,v2,e2,rfl,q (fun h=>View h 3 v0 e0) (by simp),RR.1,q (fun h=>View h 8 v1 e1) (by simp),RR.2.1,q (fun h=>View h 3 v2 e2) (by simp),RR.2.2⟩
    exact have⟨w1,w2⟩:=(A.f0:I8 h _ _).cells;gF A rfl rfl rfl w2 fun h A=>sI A.v1 rfl<|H h _ A.aZ.drop1.drop1.drop1.drop1 s
   |true=>
    rw[if_pos (of_decide_eq_true hc)] at H;refine bN<|lF (by omega) (by decide) A s ?_;unfold fA;cases b1:bA T i [99,108,97,115,115] with
    |true=>
     rw[if_pos (show bA T i xG=true from b1),aC] at H
     rw[if_pos rfl];refine aY fun h A s=>aD rfl (bN<|ay (aJ A.v1 rfl<|amZ hk (by omega) A s (Post.mono H ?_ fun x f=>FK.pz' (pan f))));intro cl i o H h c A s;refine have⟨w1,w2,_⟩:=(A.f0:RK h c cl).cells;aD rfl (aJ A.v1 rfl (bI V0<|iM A rfl rfl rfl rfl (dY w1 w2) rfl fun vb h A _=>aJ A.v1 rfl (bI V0<|jo A rfl A.f0.src ?_ ?_ fun v' h A _=> ?_)))
     ·show(e0.length+1)*56≤most;omega
     ·show e0.length+1≤most;omega
     refine ay (fZ A rfl A.leafS fun h A=> ?_);have A:=A.dJ.imp2 (R:=fun h=>Nu h (e0++[c]) (ba.classes++[cl])∧JX h e1 ba.rules∧Ny h e2 ba.queries) fun h R RR=>⟨RR.1.app (Nu.one R),RR.2⟩;exact ih m {ba with classes:=ba.classes++[cl]} (by omega) (by simp;omega) A s H
    |false=>
    rw[if_neg (by show ¬(bA T i xG=true);rw[show bA T i xG=false from b1];simp)] at H
    rw[if_neg (by simp)];refine aY fun h A s=>aD rfl (bE<|lF (by omega) (by decide) A s ?_);unfold fA;cases b2:bA T i [114,117,108,101] with
    |true=>
     rw[if_pos (show bA T i Io=true from b2),aC] at H
     rw[if_pos rfl];refine aY fun h A s=>aD rfl (bN<|ay (aJ A.v1 rfl<|apJ hk (by omega) A s (Post.mono H ?_ fun x f=>FK.pz' (pan f))));intro ru i o H h c A s;refine have⟨w1,w2,_⟩:=(A.f0:RR h c ru).cells;aD rfl (aJ A.v1 rfl (bI V1<|iM A rfl rfl rfl rfl (dY w1 w2) rfl fun vb h A _=>aJ A.v1 rfl (bI V1<|jo A.swapS rfl A.f0.src ?_ ?_ fun v' h A _=> ?_)))
     ·show(e1.length+1)*112≤most;omega
     ·show e1.length+1≤most;omega
     refine ay (fZ A rfl A.leafS fun h A=> ?_);have A:=A.swapS.dJ.imp2 (R:=fun h=>Nu h e0 ba.classes∧JX h (e1++[c]) (ba.rules++[ru])∧Ny h e2 ba.queries) fun h R RR=>⟨RR.1,RR.2.1.app (JX.one R),RR.2.2⟩;exact ih m {ba with rules:=ba.rules++[ru]} (by omega) (by simp;omega) A s H
    |false=>
    rw[if_neg (by show ¬(bA T i Io=true);rw[show bA T i Io=false from b2];simp),aC] at H
    rw[if_neg (by simp)];refine aY fun h A s=>aD rfl (bE<|lg (by omega) (by decide) A s (Post.mono H ?_ fun x f=>pan f));intro u i o H h A s;rw[aC] at H;refine ay (aJ A.v1 rfl<|ao2 hk (by omega) A s (Post.mono H ?_ fun x f=>FK.pz' (pan f)));intro qu i o H h c A s;refine have⟨w1,w2,_⟩:=(A.f0:RQ h c qu).cells;aD rfl (aJ A.v1 rfl (bI V2<|iM A rfl rfl rfl rfl (dY w1 w2) rfl fun vb h A _=>aJ A.v1 rfl (bI V2<|jo A.rotS rfl A.f0.src ?_ ?_ fun v' h A _=> ?_)))
    ·show(e2.length+1)*64≤most;omega
    ·show e2.length+1≤most;omega
    refine ay (fZ A rfl A.leafS fun h A=> ?_);have A:=A.rotS.dJ.imp2 (R:=fun h=>Nu h e0 ba.classes∧JX h e1 ba.rules∧Ny h (e2++[c]) (ba.queries++[qu])) fun h R RR=>⟨RR.1,RR.2.1,RR.2.2.app (Ny.one R)⟩;exact ih m {ba with queries:=ba.queries++[qu]} (by omega) (by simp;omega) A s H
 have A:=(((A.slc 3).slc 8).slc 3).tru (R:=fun h=>Nu h [] []∧JX h [] []∧Ny h [] []) fun h=>⟨rfl,rfl,rfl⟩;exact loop kq n ⟨[],[],[]⟩ (by omega) (by simpa using hq) A s H
end
end Go.Proofs.YtbijepcediaghaaGreatDoor
