/-
  Texts that the claim hangs on, part 4.
-/
import Derived.Test.YtibillhjmfbneaaGreatDoorS2
import Derived.Laws.Externs
import GoSem.Extern.MapsClone
import Derived.Lib.Builder
import Derived.ChangeSame
set_option linter.unusedSimpArgs false
set_option linter.unusedVariables false
namespace Go.Ab
noncomputable section
def nI (call:bI) (f:AV) (args:List AV) (h:aj) (K:aM):Bool:=
 match f with
 | .fn tgt first cap=>call tgt (first++args++cap) h K
 |_=>false
def Qz (c a b:AV):Option AV:=
 match c with
 | .bool x=>match x with |true=>some a |false=>some b
 |_=>none
def EN (h:aj) (neg:Bool) (k:EqK) (a b:AV):Option AV:=
 match VF h k a b with
 |some r=>some (.bool (bif neg then !r else r))
 |none=>none
def pV (cells:List AV):List (Nat×Nat×AV)→Option (List AV)
 | []=>some cells
 |(off,n,v) :: rest=>bif Nat.beq v.cells.length n&&Nat.ble (off+n) cells.length&&aD v.cells then pV (lay cells off v.cells) rest else none
def qE (z:List AV) (ps:List (Nat×Nat×AV)):Option AV:=
 match pV z ps with
 |some l=>some (.agg l)
 |none=>none
def kX (sz:Nat) (es:List (List AV)):List (Nat×AV)→Option (List (List AV))
 | []=>some es
 |(i,v) :: rest=>bif Nat.beq v.cells.length sz&&Nat.blt i es.length&&aD v.cells then kX sz (l5 es i v.cells) rest else none
def bE (h:aj) (n sz:Nat) (z:List AV) (ps:List (Nat×AV)):Option (AV×aj):=
 bif Nat.beq z.length sz&&Nat.blt 0 sz&&Nat.ble (n*sz) 16777216&&aD z then
  (match kX sz (xI n z) ps with
  |some es=>some (.slc h.sz 0 0 n n true,newRow h es sz)
  |none=>none)
 else none
def tC (d:Nat):Option AV→Option Nat
 |none=>some d
 |some v=>asNat v
def TB (h:aj) (sz:Nat) (x:AV) (lo hi mx:Option AV):Option AV:=
 match x with
 | .slc id g s len cap ex=>
   bif qd h id sz then
   match mx with
   |some m=>match tC 0 (some m),tC len hi,tC 0 lo with
    |some m,some h,some l=>bif Nat.ble l h&&Nat.ble h m&&Nat.ble m cap&&hi.isSome then some (.slc id g (s+l) (h-l) (m-l) true) else none
    |_,_,_=>none
   |none=>match tC len hi,tC 0 lo with
    |some h,some l=>bif Nat.ble l h&&Nat.ble h cap then some (.slc id g (s+l) (h-l) (cap-l) ex) else none
    |_,_=>none
   else none
 | .ah=>
   match tC 0 mx,tC 0 hi,tC 0 lo with
   |some 0,some 0,some 0=>bif mx.isNone||hi.isSome then some .ah else none
   |_,_,_=>none
 | .emp=>
   match tC 0 mx,tC 0 hi,tC 0 lo with
   |some 0,some 0,some 0=>bif mx.isNone||hi.isSome then some .emp else none
   |_,_,_=>none
 |_=>none
def nC (x:AV) (lo hi:Option AV):Option AV:=
 match x with
 | .str s=>match tC s.length hi,tC 0 lo with
   |some h,some l=>bif Nat.ble l h&&Nat.ble h s.length then some (.str ((s.take h).drop l)) else none
   |_,_=>none
 |_=>none
def LP (d:Nat) (o:Option AV) (k:Nat→Bool):Bool:=@Option.rec AV (fun _=>Bool) (k d) (fun v=>Qe v k) o
theorem Pp (d:Nat) (o:Option AV) (k:Nat→Bool):LP d o k=bP (tC d o) k:=by
 cases o with
 |none=>rfl
 |some v=>exact GY v k
def aci (s:List Nat) (lo hi:Option AV) (k:AV→Bool):Bool:=
 @Option.rec AV (fun _=>Bool) (LP 0 lo fun l=>ko (Nat.ble l (oM s)) (k (.str (yc l s))) false)
  (fun v=>Qe v fun m=>LP 0 lo fun l=>ko (Nat.ble l m) (ko (Nat.ble m (oM s)) (k (.str (z8 (Nat.sub m l) (yc l s)))) false) false) hi
def ajP (x:AV) (k:List Nat→Bool):Bool:=
 match x with
 | .str s=>k s
 |_=>false
def Iq (x:AV) (lo hi:Option AV) (k:AV→Bool):Bool:=ajP x fun s=>aci s lo hi k
theorem WZ (x:AV) (lo hi:Option AV) (k:AV→Bool):Iq x lo hi k=bP (nC x lo hi) k:=by
 cases x<;>try rfl
 rename_i s
 show aci s lo hi k=_
 cases hi with
 |none=>
  have e0:aci s lo none k=LP 0 lo (fun l=>ko (Nat.ble l (oM s)) (k (.str (yc l s))) false):=rfl
  rw[e0,Pp]
  simp only[nC,show tC s.length none=some s.length from rfl]
  cases tC 0 lo with
  |none=>rfl
  |some l=>
   show ko (Nat.ble l (oM s)) _ false=bP (bif Nat.ble l s.length&&Nat.ble s.length s.length then _ else none) k
   have e:Nat.ble s.length s.length=true:=aI.2 (Nat.le_refl _)
   rw[ny,mq,e,Bool.and_true,vQ,List.take_length]
   rfl
 |some v=>
  have e0:aci s lo (some v) k=Qe v (fun m=>LP 0 lo fun l=>ko (Nat.ble l m) (ko (Nat.ble m (oM s)) (k (.str (z8 (Nat.sub m l) (yc l s)))) false) false):=rfl
  rw[e0,GY]
  simp only[nC,show tC s.length (some v)=asNat v from rfl]
  cases asNat v with
  |none=>rfl
  |some m=>
   show(LP 0 lo fun l=>ko (Nat.ble l m) (ko (Nat.ble m (oM s)) (k (.str (z8 (Nat.sub m l) (yc l s)))) false) false)=_
   rw[Pp]
   cases tC 0 lo with
   |none=>rfl
   |some l=>
    show ko (Nat.ble l m) (ko (Nat.ble m (oM s)) _ false) false=bP (bif Nat.ble l m&&Nat.ble m s.length then _ else none) k
    rw[ny,mq,vQ,xP]
    cases Nat.ble l m with
    |false=>rfl
    |true=>
     cases Nat.ble m s.length with
     |false=>rfl
     |true=>
      show k _=k _
      rw[List.drop_take]
      rfl
def aaW (ps:List (Nat×Nat×AV)):List AV→Option (List AV):=
 @List.rec (Nat×Nat×AV) (fun _=>List AV→Option (List AV)) (fun cells=>some cells)
  (fun p _ ih cells=>ko (Nat.beq (oM (qD p.2.2)) p.2.1) (ko (Nat.ble (Nat.add p.1 p.2.1) (oM cells)) (ko (vB (qD p.2.2)) (ih (MB (qD p.2.2) p.1 cells)) none) none) none) ps
theorem RH:∀(ps:List (Nat×Nat×AV)) (cells:List AV),aaW ps cells=pV cells ps
 | [],cells=>rfl
 |(off,n,v) :: ps,cells=>by
  show ko (Nat.beq (oM (qD v)) n) (ko (Nat.ble (off+n) (oM cells)) (ko (vB (qD v)) (aaW ps (MB (qD v) off cells)) none) none) none=_
  simp only[rJ,ML,mq,xS,pV,RH ps]
  cases h1:Nat.beq v.cells.length n with
  |false=>rfl
  |true=>
   cases h2:Nat.ble (off+n) cells.length with
   |false=>rfl
   |true=>
    rw[Je off cells (by have:=aI.1 h2;omega)]
    rfl
def dP (z:List AV) (ps:List (Nat×Nat×AV)) (k:AV→Bool):Bool:=@Option.rec (List AV) (fun _=>Bool) false (fun l=>k (.agg l)) (aaW ps z)
theorem MZ (z:List AV) (ps:List (Nat×Nat×AV)) (k:AV→Bool):dP z ps k=bP (qE z ps) k:=by
 unfold dP qE
 rw[RH]
 cases pV z ps<;>rfl
def acK (es:List (List AV)) (s len:Nat) (k:List (List AV)→Bool):Bool:=
 ko (Nat.beq (oM (z8 len (yc s es))) len) (k (z8 len (yc s es))) false
def Yg (es:List (List AV)) (s len:Nat) (k:List (List AV)→Bool):Bool:=
 ko (Nat.beq s 0) (ko (Nat.beq (oM es) len) (k es) (acK es s len k)) (acK es s len k)
def agD (h:aj) (sz:Nat) (x:AV) (k:List (List AV)→Bool):Bool:=
 match x with
 | .slc id g s len _ _=>ko (Nat.beq len 0) (k []) (zQ h id fun r=>ko (Nat.ble r.m g) (ko (Nat.beq r.sz sz) (Yg r.es s len k) false) false)
 |x=>bP (source h sz x) k
theorem VR (es:List (List AV)) (s len:Nat) (k:List (List AV)→Bool):Yg es s len k=bP (bif Nat.beq ((es.drop s).take len).length len then some ((es.drop s).take len) else none) k:=by
 have e1:acK es s len k=bP (bif Nat.beq ((es.drop s).take len).length len then some ((es.drop s).take len) else none) k:=by
  unfold acK
  rw[xP,vQ,mq,ny]
  rfl
 unfold Yg
 rw[e1,rJ,rJ,mq]
 cases h1:Nat.beq s 0 with
 |false=>rfl
 |true=>
  cases h2:Nat.beq es.length len with
  |false=>rfl
  |true=>
   have h1:=aF.1 h1
   have h2:=aF.1 h2
   subst h1
   rw[List.drop_zero,List.take_of_length_le (by omega),aF.2 h2]
   rfl
theorem adt (h:aj) (sz:Nat) (x:AV) (k:List (List AV)→Bool):agD h sz x k=bP (source h sz x) k:=by
 cases x<;>try rfl
 rename_i id g s len c ex
 show ko (Nat.beq len 0) (k []) (zQ h id _)=_
 rw[rJ,wX]
 simp only[source]
 cases Nat.beq len 0 with
 |true=>rfl
 |false=>
  simp only[cond_false]
  cases h.row id with
  |none=>rfl
  |some r=>
   show ko (Nat.ble r.m g) (ko (Nat.beq r.sz sz) (Yg r.es s len k) false) false=bP (bif Nat.ble r.m g&&Nat.beq r.sz sz then _ else none) k
   rw[ny,VR]
   cases Nat.ble r.m g with
   |false=>rfl
   |true=>cases Nat.beq r.sz sz<;>rfl
def agW (len m bytes:Nat) (r:Bool):Bool:=ko (Nat.ble (Nat.mul (Nat.add len m) bytes) most) (ko (Nat.ble (Nat.add len m) most) r false) false
def appW (h:aj) (sz bytes id g st len cap:Nat) (ex:Bool) (new:List (List AV)) (m:Nat) (r:Row) (k:aM):Bool:=
 agW len m bytes (ko (Nat.beq r.sz sz)
  (ko (Nat.ble (Nat.add len m) cap)
    (ko r.rw (ko (Nat.beq g r.g) (k (.slc id g st (Nat.add len m) cap ex) {sz:=h.sz,t:=h.t.set id (.row {es:=lay r.es (Nat.add st len) new,sz:=r.sz,g:=r.g,m:=r.g,rw:=r.rw,ty:=r.ty})}) false) false)
    (ko ex (ko (Nat.ble r.m g) (Yg r.es st len fun old=>k (.slc h.sz 0 0 (Nat.add len m) (Nat.add len m) false) (newRow h (Sz old new) sz)) false)
      (ko r.rw (ko (Nat.beq g r.g) (ko (Nat.beq st 0)
        (ko (Nat.beq len (oM r.es)) (k (.slc id (Nat.succ r.g) 0 (Nat.add len m) (Nat.add len m) false) {sz:=h.sz,t:=h.t.set id (.row {es:=Sz r.es new,sz:=r.sz,g:=Nat.succ r.g,m:=r.m,rw:=r.rw,ty:=oQ r.ty none})})
          (k (.slc id (Nat.succ r.g) 0 (Nat.add len m) (Nat.add len m) false) {sz:=h.sz,t:=h.t.set id (.row {es:=Sz (z8 len r.es) new,sz:=r.sz,g:=Nat.succ r.g,m:=Nat.succ r.g,rw:=r.rw,ty:=oQ r.ty none})})) false) false) false))) false)
def qU (h:aj) (sz bytes:Nat) (s x:AV) (k:aM):Bool:=
 agD h sz x fun new=>match s with
  | .slc id g st len cap ex=>(match new with
    | []=>aW (iI h sz bytes s new) k
    |_=>zQ h id fun r=>appW h sz bytes id g st len cap ex new (oM new) r k)
  |s=>aW (iI h sz bytes s new) k
theorem yx (c:Bool) (o:Option (AV×aj)) (k:aM):aW (bif c then o else none) k=ko c (aW o k) false:=by cases c<;>rfl
theorem XG (h:aj) (sz bytes:Nat) (s x:AV) (k:aM) (hs:Nat.beq sz 0=false):qU h sz bytes s x k=aW (iM h sz bytes s x) k:=by
 unfold qU iM
 rw[hs,cond_false,adt]
 cases source h sz x with
 |none=>rfl
 |some new=>
  show _=aW (iI h sz bytes s new) k
  cases s<;>try rfl
  rename_i id g st len cap ex
  cases new with
  |nil=>rfl
  |cons y l=>
   show zQ h id _=_
   rw[wX]
   simp only[iI]
   cases h.row id with
   |none=>rfl
   |some r=>
    show appW h sz bytes id g st len cap ex (y :: l) (oM (y :: l)) r k=_
    unfold appW agW
    rw[mq]
    generalize(y :: l).length=m
    show ko (Nat.ble ((len+m)*bytes) most) (ko (Nat.ble (len+m) most) (ko (Nat.beq r.sz sz) _ false) false) false=_
    rw[yx]
    cases Nat.ble ((len+m)*bytes) most with
    |false=>rfl
    |true=>
    cases Nat.ble (len+m) most with
    |false=>rfl
    |true=>
    cases Nat.beq r.sz sz with
    |false=>rfl
    |true=>
    show ko (Nat.ble (len+m) cap) _ _=aW (bif Nat.ble (len+m) cap then _ else _) k
    cases Nat.ble (len+m) cap with
    |true=>
     show ko r.rw (ko (Nat.beq g r.g) _ false) false=aW (bif r.rw&&Nat.beq g r.g then _ else none) k
     rw[yx]
     cases hrw:r.rw with
     |false=>rfl
     |true=>
      cases Nat.beq g r.g with
      |false=>rfl
      |true=>
       show k _ _=k _ _
       simp only[aj.put,hrw]
       rfl
    |false=>
    cases ex with
    |true=>
     show ko (Nat.ble r.m g) (Yg r.es st len _) false=aW (bif Nat.ble r.m g then _ else none) k
     rw[yx,VR]
     cases Nat.ble r.m g with
     |false=>rfl
     |true=>
      show bP (bif Nat.beq ((r.es.drop st).take len).length len then _ else none) _=aW (bif Nat.beq ((r.es.drop st).take len).length len then _ else none) k
      rw[ny,yx]
      cases Nat.beq ((r.es.drop st).take len).length len with
      |false=>rfl
      |true=>
       show k _ (newRow h (Sz _ (y :: l)) sz)=k _ _
       rw[Da]
       rfl
    |false=>
     show ko r.rw (ko (Nat.beq g r.g) (ko (Nat.beq st 0) _ false) false) false=aW (bif r.rw&&Nat.beq g r.g&&Nat.beq st 0 then _ else none) k
     rw[yx]
     cases hrw:r.rw with
     |false=>rfl
     |true=>
     cases Nat.beq g r.g with
     |false=>rfl
     |true=>
     cases Nat.beq st 0 with
     |false=>rfl
     |true=>
      show ko (Nat.beq len (oM r.es)) _ _=aW (bif Nat.beq len r.es.length then _ else _) k
      rw[mq,Da,Da,xP]
      cases Nat.beq len r.es.length with
      |true=>
       show k _ _=k _ _
       simp only[aj.put,hrw]
       rfl
      |false=>
       show k _ _=k _ _
       simp only[aj.put,hrw]
       rfl
def pG (h:aj) (z:List AV):Option (AV×aj):=qm h z
def TM (h:aj) (t:Nat) (z:List AV):Option (AV×aj):=bif Nat.blt 0 z.length&&aD z then some (.ptr h.sz 0 0 0,newRow h [z] z.length (some t)) else none
def aat (h:aj) (e:Nat) (s x:AV):Option (AV×aj):=iM h 1 1 s x (some e)
def mmV (mx:Bool):List AV→Option AV
 |v :: l=>mmA mx v l
 | []=>none
def yL (h:aj):Option (AV×aj):=some (.map h.sz,h.push (.map [] 0))
abbrev fU:=List (Nat×AV)
def fU.get:fU→Nat→Option AV
 | [],_=>none
 |(k,v) :: l,n=>bif Nat.beq n k then some v else fU.get l n
def Has (ρ:dx) (l:fU):Prop:=∀k v,l.get k=some v→ρ.get k=some v
theorem Has.nil {ρ:dx}:Has ρ []:=fun _ _ h=>by cases h
theorem Has.set {ρ:dx} {l:fU} (H:Has ρ l) (d:Nat) (v:AV):Has (ρ.set d v) ((d,v) :: l):=by
 intro k u h
 rw[PT.get_set]
 simp only[fU.get] at h
 cases hb:Nat.beq k d with
 |true=>
  rw[hb,cond_true] at h
  rw[if_pos (Nat.eq_of_beq_eq_true hb)]
  exact h
 |false=>
  rw[hb,cond_false] at h
  rw[if_neg (dh.1 hb)]
  exact H k u h
def CO:List Nat→fU→Option fU
 | [],_=>some []
 |k :: ks,l=>match l.get k with
  |some v=>match CO ks l with
   |some m=>some ((k,v) :: m)
   |none=>none
  |none=>none
theorem MS:∀{ks:List Nat} {l m:fU},CO ks l=some m→∀k v,m.get k=some v→l.get k=some v
 | [],l,m,h,k,v,e=>by simp only[CO] at h;cases h;cases e
 |k :: ks,l,m,h,j,v,e=>by
  simp only[CO] at h
  split at h
  ·rename_i u hu
   split at h
   ·rename_i m' hm
    cases h
    simp only[fU.get] at e
    cases hb:Nat.beq j k with
    |true=>rw[hb,cond_true] at e;cases e;rw[Nat.eq_of_beq_eq_true hb];exact hu
    |false=>rw[hb,cond_false] at e;exact MS hm j v e
   ·cases h
  ·cases h
theorem Has.keep {ρ:dx} {l m:fU} (H:Has ρ l) (ks:List Nat) (h:CO ks l=some m):Has ρ m:=fun k v e=>H k v (MS h k v e)
def oJ (l:fU):bW→Option AV
 | .t r=>l.get r
 | .c v=>some v
def JY (l:fU):List bW→Option (List AV)
 | []=>some []
 |x :: xs=>match oJ l x with
  |some v=>match JY l xs with
   |some vs=>some (v :: vs)
   |none=>none
  |none=>none
def Em (l:fU):Option bW→Option (Option AV)
 |none=>some none
 |some x=>match oJ l x with
  |some v=>some (some v)
  |none=>none
def Fx (l:fU):List (Nat×Nat×bW)→Option (List (Nat×Nat×AV))
 | []=>some []
 |(a,b,x) :: xs=>match oJ l x with
  |some v=>match Fx l xs with
   |some vs=>some ((a,b,v) :: vs)
   |none=>none
  |none=>none
def H8 (l:fU):List (Nat×bW)→Option (List (Nat×AV))
 | []=>some []
 |(a,x) :: xs=>match oJ l x with
  |some v=>match H8 l xs with
   |some vs=>some ((a,v) :: vs)
   |none=>none
  |none=>none
theorem iy {ρ:dx} {l:fU} (H:Has ρ l) {x:bW} {v:AV} (h:oJ l x=some v):ev ρ x=some v:=by
 cases x with
 |t r=>exact H r v h
 |c u=>exact h
theorem CU {ρ:dx} {l:fU} (H:Has ρ l):∀{xs:List bW} {vs:List AV},JY l xs=some vs→evs ρ xs=some vs
 | [],vs,h=>by simpa[JY,evs] using h
 |x :: xs,vs,h=>by
  simp only[JY] at h
  split at h
  ·rename_i v hv
   split at h
   ·rename_i vs' hvs
    cases h
    simp only[evs,iy H hv,CU H hvs]
   ·cases h
  ·cases h
theorem vP {ρ:dx} {l:fU} (H:Has ρ l) {d:Nat} {x:Option bW} {o:Option AV} (h:Em l x=some o):nP ρ d x=tC d o∧x.isSome=o.isSome∧x.isNone=o.isNone∧(x=none↔o=none):=by
 cases x with
 |none=>simp only[Em] at h;cases h;exact⟨rfl,rfl,rfl,by simp⟩
 |some x=>
  simp only[Em] at h
  split at h
  ·rename_i v hv
   cases h
   exact⟨by simp only[nP,iy H hv,tC],rfl,rfl,by simp⟩
  ·cases h
theorem RS {ρ:dx} {l:fU} (H:Has ρ l):∀{ps:List (Nat×Nat×bW)} {vs:List (Nat×Nat×AV)} {cells:List AV},Fx l ps=some vs→xB ρ cells ps=pV cells vs
 | [],vs,cells,h=>by simp only[Fx] at h;cases h;rfl
 |(a,b,x) :: ps,vs,cells,h=>by
  simp only[Fx] at h
  split at h
  ·rename_i v hv
   split at h
   ·rename_i vs' hvs
    cases h
    simp only[xB,pV,iy H hv]
    rw[RS H hvs]
   ·cases h
  ·cases h
theorem Gz {ρ:dx} {l:fU} (H:Has ρ l) {sz:Nat}:∀{ps:List (Nat×bW)} {vs:List (Nat×AV)} {es:List (List AV)},H8 l ps=some vs→lI ρ sz es ps=kX sz es vs
 | [],vs,es,h=>by simp only[H8] at h;cases h;rfl
 |(a,x) :: ps,vs,es,h=>by
  simp only[H8] at h
  split at h
  ·rename_i v hv
   split at h
   ·rename_i vs' hvs
    cases h
    simp only[lI,kX,iy H hv]
    rw[Gz H hvs]
   ·cases h
  ·cases h
def l1 (l:fU) (x:bW) (f:AV→Option AV):Option (Option AV):=
 match oJ l x with
 |some v=>some (f v)
 |none=>none
def l2 (l:fU) (x y:bW) (f:AV→AV→Option AV):Option (Option AV):=
 match oJ l x with
 |some v=>match oJ l y with
  |some w=>some (f v w)
  |none=>none
 |none=>none
def lg (l:fU) (h:aj) (op:fK):Option (Option AV):=
 match op with
 | .mv x=>match oJ l x with
   |some v=>some (some v)
   |none=>none
 | .pick c a b=>match oJ l c,oJ l a,oJ l b with
   |some c,some a,some b=>some (Qz c a b)
   |_,_,_=>none
 | .build z ps=>match Fx l ps with
   |some vs=>some (qE z vs)
   |none=>none
 | .load ag n a=>l1 l a (eO h ag n)
 | .nilck x=>l1 l x Er
 | .bin op x y=>l2 l x y (eY op)
 | .eq neg k x y=>l2 l x y (EN h neg k)
 | .not x=>l1 l x XY
 | .neg x=>l1 l x YI
 | .conv k x=>l1 l x (WI k)
 | .b2s x=>l1 l x (abX h)
 | .cvs x=>l1 l x aei
 | .mkfn f a b=>match JY l a with
   |some a=>match JY l b with
    |some b=>some (some (.fn (.func f) a b))
    |none=>none
   |none=>none
 | .sl sz x lo hi mx=>match oJ l x,Em l lo,Em l hi,Em l mx with
   |some v,some lo,some hi,some mx=>some (TB h sz v lo hi mx)
   |_,_,_,_=>none
 | .sls x lo hi=>match oJ l x,Em l lo,Em l hi with
   |some v,some lo,some hi=>some (nC v lo hi)
   |_,_,_=>none
 | .fadr off x=>l1 l x (ME off)
 | .fld ag off n x=>l1 l x (KV ag off n)
 | .iadr sz x i=>l2 l x i (qj h sz)
 | .iadra len esz x i=>l2 l x i (NR len esz)
 | .idxs x i=>l2 l x i mP
 | .idxa ag len esz x i=>l2 l x i (Xb ag len esz)
 | .look kk ok z m k=>l2 l m k (tJ h kk ok z)
 | .ext x i=>l1 l x (UL i)
 | .len k x=>l1 l x (AX h k)
 | .cap x=>l1 l x adD
 | .mm mx xs=>match JY l xs with
   |some vs=>some (mmV mx vs)
   |none=>none
 | .ent x=>l1 l x (ab1 h)
 | .uto x=>l1 l x (UC h)
 | .ufr t n us x=>l1 l x (TY h t n us)
 | .sdat x=>l1 l x J5
 | .mkif t x=>l1 l x (Pf t)
 | .tas t ok z x=>l1 l x (acF t ok z)
 |_=>none
def Gr (l:fU) (h:aj) (op:fK):Option (Option (AV×aj)):=
 match op with
 | .alloc z=>some (pG h z)
 | .box ty n x=>match oJ l x with
   |some v=>some (nK h ty n v)
   |none=>none
 | .bslice n sz z ps=>match H8 l ps with
   |some vs=>some (bE h n sz z vs)
   |none=>none
 | .store n a v=>match oJ l a,oJ l v with
   |some a,some v=>some (unit (cZ h n a v))
   |_,_=>none
 | .mkmap=>some (yL h)
 | .mksl sz bytes z a c=>match oJ l a,oJ l c with
   |some a,some c=>some (Cn h sz bytes z a c)
   |_,_=>none
 | .mupd kk m k v=>match oJ l m,oJ l k,oJ l v with
   |some m,some k,some v=>some (unit (lq h kk m k v))
   |_,_,_=>none
 | .app sz bytes s x=>match oJ l s,oJ l x with
   |some s,some x=>some (iM h sz bytes s x)
   |_,_=>none
 | .appz sz bytes z s x=>match oJ l s,oJ l x with
   |some s,some x=>some (ZX h sz bytes z s x)
   |_,_=>none
 | .copy sz d s=>match oJ l d,oJ l s with
   |some d,some s=>some (WL h sz d s)
   |_,_=>none
 | .del kk m k=>match oJ l m,oJ l k with
   |some m,some k=>some (unit (ade h kk m k))
   |_,_=>none
 | .clr sz z x=>match oJ l x with
   |some v=>some (unit (acE h sz z v))
   |none=>none
 | .rng x=>match oJ l x with
   |some v=>some (adx h v)
   |none=>none
 | .allot t z=>some (TM h t z)
 | .appb e s x=>match oJ l s,oJ l x with
   |some s,some x=>some (aat h e s x)
   |_,_=>none
 | .ustr e p n=>match oJ l p,oJ l n with
   |some p,some n=>some (Gf h e p n)
   |_,_=>none
 | .stw n a v b=>match oJ l a,oJ l v,oJ l b with
   |some a,some v,some b=>some (bif rF a b then unit (cZ h n a v) else none)
   |_,_,_=>none
 |_=>none
section
variable {ρ:dx} {l:fU} {h:aj} {op:fK}
theorem afC (H:Has ρ l) {x:bW} {f:AV→Option AV} {o:Option AV} (e:l1 l x f=some o):tQ ρ x f=o:=by
 unfold l1 at e
 split at e
 ·rename_i v hv;cases e;simp only[tQ,iy H hv]
 ·cases e
theorem afa (H:Has ρ l) {x y:bW} {f:AV→AV→Option AV} {o:Option AV} (e:l2 l x y f=some o):Ze ρ x y f=o:=by
 unfold l2 at e
 split at e
 ·rename_i v hv
  split at e
  ·rename_i w hw;cases e;simp only[Ze,iy H hv,iy H hw]
  ·cases e
 ·cases e
theorem X6 (H:Has ρ l) {sz:Nat} {v:AV} {lo hi mx:Option bW} {a b c:Option AV} (h1:Em l lo=some a) (h2:Em l hi=some b) (h3:Em l mx=some c):yu ρ h sz v lo hi mx=TB h sz v a b c:=by
 have e1:=fun d=>vP H (d:=d) h1
 have e2:=fun d=>vP H (d:=d) h2
 have e3:=fun d=>vP H (d:=d) h3
 unfold yu TB
 cases v<;>simp only[(e1 0).1,(e2 _).1,(e3 0).1,(e2 0).2.1,(e3 0).2.2.1]
 ·cases mx with
  |none=>
   have:c=none:=(e3 0).2.2.2.1 rfl
   subst this;rfl
  |some m=>
   cases c with
   |none=>have:=(e3 0).2.2.2.2 rfl;cases this
   |some c=>
    have:=(e3 0).1
    simp only[this]
    rfl
 ·rfl
 ·rfl
theorem sF (H:Has ρ l) {o:Option AV} (e:lg l h op=some o):aN ρ h op=bQ o h∧dH op=false:=by
 unfold lg at e
 split at e
 case h_1 x=>
  split at e
  ·rename_i v hv;cases e;simp only[aN,iy H hv,dH,and_self]
  ·cases e
 case h_2 c a b=>
  split at e
  ·rename_i c' a' b' h1 h2 h3
   cases e
   refine⟨?_,rfl⟩
   simp only[aN,iy H h1,iy H h2,iy H h3]
   cases c'<;>try rfl
   rename_i x;cases x<;>rfl
  ·cases e
 case h_3 z ps=>
  split at e
  ·rename_i vs hvs
   cases e
   refine⟨?_,rfl⟩
   simp only[aN,RS H hvs,qE]
   cases pV z vs<;>rfl
  ·cases e
 case h_7 neg k x y=>
  unfold l2 at e
  split at e
  ·rename_i v hv
   split at e
   ·rename_i w hw
    cases e
    refine⟨?_,rfl⟩
    simp only[aN,iy H hv,iy H hw,EN]
    cases VF h k v w<;>rfl
   ·cases e
  ·cases e
 case h_13 f a b=>
  split at e
  ·rename_i a' ha
   split at e
   ·rename_i b' hb
    cases e
    exact⟨by simp only[aN,CU H ha,CU H hb,bQ],rfl⟩
   ·cases e
  ·cases e
 case h_14 sz x lo hi mx=>
  split at e
  ·rename_i v a b c h0 h1 h2 h3
   cases e
   exact⟨by simp only[aN,tQ,iy H h0,X6 H h1 h2 h3],rfl⟩
  ·cases e
 case h_15 x lo hi=>
  split at e
  ·rename_i v a b h0 h1 h2
   cases e
   refine⟨?_,rfl⟩
   simp only[aN,tQ,iy H h0]
   congr 1
   unfold Kq nC
   cases v<;>simp only[(vP H h1).1,(vP H h2).1]
   rfl
  ·cases e
 case h_26 mx xs=>
  split at e
  ·rename_i vs hvs
   cases e
   refine⟨?_,rfl⟩
   simp only[aN,CU H hvs]
   cases vs<;>rfl
  ·cases e
 all_goals first
  |exact⟨by simp only[aN];rw[afC H e],rfl⟩
  |exact⟨by simp only[aN];rw[afa H e],rfl⟩
  |cases e
theorem MR (H:Has ρ l) {o:Option (AV×aj)} (e:Gr l h op=some o):aN ρ h op=o∧dH op=false:=by
 unfold Gr at e
 split at e
 case h_1 z=>cases e;exact⟨rfl,rfl⟩
 case h_3 n sz z ps=>
  split at e
  ·rename_i vs hvs
   cases e
   refine⟨?_,rfl⟩
   simp only[aN,bE,Gz H hvs]
   rfl
  ·cases e
 case h_5=>cases e;exact⟨rfl,rfl⟩
 case h_14=>cases e;exact⟨rfl,rfl⟩
 case h_15=>
  split at e
  ·rename_i h1 h2
   cases e
   refine⟨?_,rfl⟩
   simp only[aN,iy H h1,iy H h2]
   rfl
  ·cases e
 all_goals first
  |cases e;done
  |(split at e
    ·cases e
     refine⟨?_,rfl⟩
     rename_i h1
     simp only[aN,iy H h1]
    ·cases e)
  |(split at e
    ·cases e
     refine⟨?_,rfl⟩
     rename_i h1 h2
     simp only[aN,iy H h1,iy H h2]
    ·cases e)
  |(split at e
    ·cases e
     refine⟨?_,rfl⟩
     rename_i h1 h2 h3
     simp only[aN,iy H h1,iy H h2,iy H h3]
    ·cases e)
def Le (c c':bI):Prop:=∀t a h (K K':aM),c t a h K=true→(∀v h',K v h'=true→K' v h'=true)→c' t a h K'=true
abbrev KLe (K K':aM):Prop:=∀v h',K v h'=true→K' v h'=true
variable {call call':bI}
theorem aaL (hc:Le call call') {f:AV} {vs:List AV} {k k':aM} (s:nI call f vs h k=true) (hk:KLe k k'):nI call' f vs h k'=true:=by
 unfold nI at s ⊢
 cases f<;>first |(cases s;done)|exact hc _ _ _ _ _ s hk
theorem LJ {v:AV} {k k':aM} (s:IU h v k=true) (hk:∀l h',k (.tup l) h'=true→k' (.tup l) h'=true):IU h v k'=true:=by
 unfold IU at s ⊢
 split at s<;>first |(cases s;done)|skip
 split at s<;>first |(cases s;done)|exact hk _ _ s |skip
 split at s<;>first |(cases s;done)|skip
 rename_i es clock hes
 cases hb:(!List.isEmpty _&& !List.isEmpty es&&es.all _) with
 |true=>rw[hb,cond_true] at s;cases s
 |false=>
  rw[hb,cond_false] at s
  simp only[cond_false]
  rw[List.all_eq_true] at s ⊢
  intro x hx
  have:=s x hx
  cases x with
  |none=>exact hk _ _ this
  |some e=>exact hk _ _ this
theorem aaC (hc:Le call call') {K K':aM} (s:gM call ρ h op K=true) (hk:KLe K K'):gM call' ρ h op K'=true:=by
 cases hn:dH op with
 |false=>
  rw[jX hn] at s ⊢
  split at s
  ·exact hk _ _ s
  ·cases s
 |true=>
  cases op<;>first |(cases hn;done)|skip
  case call f xs=>
   simp only[gM] at s ⊢
   split at s
   ·exact hc _ _ _ _ _ s hk
   ·cases s
  case nxt x=>
   simp only[gM] at s ⊢
   split at s
   ·exact LJ s fun l h'=>hk _ _
   ·cases s
  case pnc x=>
   simp only[gM] at s ⊢
   split at s
   ·exact hk _ _ s
   ·cases s
  case dfr f xs=>cases s
  case rcv=>cases s
theorem QD (hc:Le call call') {o:aT} {σ:St} {k k':KSt} (s:jM call o σ k=true) (hk:∀v σ',k v σ'=true→k' v σ'=true):jM call' o σ k'=true:=by
 unfold jM at s ⊢
 split at s
 ·exact aaC hc s fun v h' hv=>hk _ _ hv
 ·exact hk _ _ s
 ·cases s
abbrev Ue (K K':oC):Prop:=∀x σ,K x σ=true→K' x σ=true
theorem M6 (hc:Le call call'):∀{ops:List aT} {σ:St} {k k':oC},nL call ops σ k=true→Ue k k'→nL call' ops σ k'=true
 | [],σ,k,k',s,hk=>hk _ _ s
 |o :: ops,σ,k,k',s,hk=>by
  simp only[nL] at s ⊢
  refine QD hc s fun v σ' hv=> ?_
  cases hp:pR (dH o.op) v with
  |none=>rw[hp] at hv;exact M6 hc hv hk
  |some x=>rw[hp] at hv;exact hk _ _ hv
theorem Xi (hc:Le call call') {ρ0:dx}:∀{ops:List (aT×List aT×List aT)} {es:List Nat} {σ:St} {k k':oC},ou call ρ0 es ops σ k=true→Ue k k'→ou call' ρ0 es ops σ k'=true
 | [],es,σ,k,k',s,hk=>hk _ _ s
 |(act,chk,ns) :: ops,es,σ,k,k',s,hk=>by
  simp only[ou] at s ⊢
  refine QD hc s fun v σ' hv=> ?_
  cases hp:pR (dH act.op) v with
  |some x=>
   rw[hp] at hv
   simp only at hv ⊢
   split at hv
   ·exact hk _ _ hv
   ·cases hv
  |none=>
   rw[hp] at hv
   simp only at hv ⊢
   cases ha:again σ'.regs σ'.h chk with
   |false=>rw[ha] at hv;cases hv
   |true=>
    rw[ha] at hv
    simp only[cond_true] at hv ⊢
    split at hv
    ·exact Xi hc hv hk
    ·cases hv
theorem VK {f f':St→oC→Bool} {K K':oC} (hf:∀σ (k k':oC),f σ k=true→Ue k k'→f' σ k'=true) (hK:Ue K K'):∀(n:Nat) (σ:St),iter f K n σ=true→iter f' K' n σ=true
 |0,σ,s=>by cases s
 |n+1,σ,s=>by
  simp only[iter] at s ⊢
  refine hf _ _ _ s fun x σ' hx=> ?_
  cases x with
  |normal=>exact VK hf hK n σ' hx
  |_=>exact hK _ _ hx
theorem RP {l:Nat} {f f':St→oC→Bool} {K K':oC} (hf:∀σ (k k':oC),f σ k=true→Ue k k'→f' σ k'=true) (hK:Ue K K'):∀(n:Nat) (σ:St),uh l f K n σ=true→uh l f' K' n σ=true
 |0,σ,s=>by cases s
 |n+1,σ,s=>by
  simp only[uh] at s ⊢
  refine hf _ _ _ s fun x σ' hx=> ?_
  cases x with
  |goto l'=>
   simp only at hx ⊢
   cases hb:Nat.beq l' l with
   |false=>rw[hb] at hx;cases hx
   |true=>rw[hb] at hx;exact RP hf hK n σ' hx
  |_=>exact hK _ _ hx
theorem qN (hc:Le call call') {n:Nat}:∀{c:dz} {σ:St} {K K':oC},dB call n c σ K=true→Ue K K'→dB call' n c σ K'=true:=by
 intro c
 induction c with
 |skip=>intro σ K K' s hk;exact hk _ _ s
 |reg ops=>intro σ K K' s hk;exact M6 hc s hk
 |dreg n0 rest=>
  intro σ K K' s hk
  simp only[dB] at s ⊢
  split at s
  ·exact Xi hc s hk
  ·cases s
 |seq a b iha ihb=>
  intro σ K K' s hk
  simp only[dB] at s ⊢
  refine iha s fun x σ' hx=> ?_
  cases x with
  |normal=>exact ihb hx hk
  |_=>exact hk _ _ hx
 |cond o a b iha ihb=>
  intro σ K K' s hk
  simp only[dB] at s ⊢
  split at s
  ·exact iha s hk
  ·exact ihb s hk
  ·cases s
 |block id a ih=>
  intro σ K K' s hk
  simp only[dB] at s ⊢
  refine ih s fun x σ' hx=> ?_
  cases x with
  |exit i=>
   simp only at hx ⊢
   cases hb:Nat.beq i id with
   |true=>rw[hb] at hx;exact hk _ _ hx
   |false=>rw[hb] at hx;exact hk _ _ hx
  |_=>exact hk _ _ hx
 |loop a ih=>
  intro σ K K' s hk
  exact VK (f:=dB call n a) (f':=dB call' n a) (fun σ k k' s' hk'=>ih s' hk') hk n σ s
 |rf f ps asg body iha ihb=>
  intro σ K K' s hk
  simp only[dB] at s ⊢
  split at s
  ·refine hc _ _ _ _ _ s fun v h' hv=> ?_
   cases hp:jk v with
   |some x=>rw[hp] at hv;cases hv
   |none=>
   rw[hp] at hv
   simp only at hv ⊢
   split at hv
   ·rename_i lo hlo
    (try simp only[hlo])
    split at hv
    ·rename_i hst;(try simp only[hst]);exact hk _ _ hv
    ·rename_i x hst;(try simp only[hst]);exact hk _ _ hv
    ·cases hv
   ·cases hv
  ·cases s
 |exit id=>intro σ K K' s hk;exact hk _ _ s
 |scope a l r iha ihr=>
  intro σ K K' s hk
  simp only[dB] at s ⊢
  refine iha s fun x σ' hx=> ?_
  cases x with
  |goto l'=>
   simp only at hx ⊢
   cases hb:Nat.beq l' l with
   |false=>rw[hb] at hx;cases hx
   |true=>rw[hb] at hx;exact RP (f:=dB call n r) (f':=dB call' n r) (fun σ k k' s' hk'=>ihr s' hk') hk n σ' hx
  |_=>exact hk _ _ hx
 |label l=>intro σ K K' s hk;exact hk _ _ s
 |goto l=>intro σ K K' s hk;exact hk _ _ s
 |ret=>intro σ K K' s hk;exact hk _ _ s
 |refuse=>intro σ K K' s hk;cases s
 |keep ks a ih=>intro σ K K' s hk;exact ih s hk
 |cut cs a ih=>
  intro σ K K' s hk
  simp only[dB] at s ⊢
  split at s
  ·exact ih s hk
  ·exact ih s hk
abbrev agj (K K':KMo):Prop:=∀x d σ,K x d σ=true→K' x d σ=true
abbrev agy (K K':Oc):Prop:=∀μ h,K μ h=true→K' μ h=true
def acY (df df':mQ):Prop:=∀g as μ h (K K':Oc),df g as μ h K=true→agy K K'→df' g as μ h K'=true
theorem Co {μ:Mode}:∀{ops:List aT} {d:Bool} {σ:St} {K K':KMo},xJ μ ops d σ K=true→agj K K'→xJ μ ops d σ K'=true
 | [],d,σ,K,K',s,hk=>hk _ _ _ s
 |o :: l,d,σ,K,K',s,hk=>by
  unfold xJ at s ⊢
  split at s
  ·split at s
   ·exact Co s hk
   ·split at s
    ·exact Co s hk
    ·cases s
  ·exact Co s hk
  ·cases s
theorem acC (hc:Le call call') {n:Nat} {μ:Mode}:∀{c:dz} {d:Bool} {σ:St} {K K':KMo},nN call n μ c d σ K=true→agj K K'→nN call' n μ c d σ K'=true:=by
 intro c
 induction c with
 |seq a b iha ihb=>
  intro d σ K K' s hk
  simp only[nN] at s ⊢
  refine iha s fun x d' σ' hx=> ?_
  cases x with
  |normal=>exact ihb hx hk
  |_=>exact hk _ _ _ hx
 |cond o a b iha ihb=>
  intro d σ K K' s hk
  simp only[nN] at s ⊢
  split at s
  ·exact iha s hk
  ·exact ihb s hk
  ·cases s
 |reg ops=>
  intro d σ K K' s hk
  simp only[nN] at s ⊢
  cases hb:El ops with
  |true=>rw[hb] at s;exact Co s hk
  |false=>rw[hb] at s;exact qN hc s fun x σ'=>hk _ _ _
 |_=>intro d σ K K' s hk;simp only[nN] at s ⊢;exact qN hc s fun x σ'=>hk _ _ _
theorem WW {df df':mQ} (hd:acY df df'):∀{l:List (AV×List AV)} {μ:Mode} {h:aj} {K K':Oc},ends df l μ h K=true→agy K K'→ends df' l μ h K'=true
 | [],μ,h,K,K',s,hk=>hk _ _ s
 |(f,as) :: l,μ,h,K,K',s,hk=>by
  unfold ends at s ⊢
  split at s
  ·exact hd _ _ _ _ _ _ s fun μ' h' hx=>WW hd hx hk
  ·cases s
theorem Cz {df df':mQ} (hd:acY df df') {pend:List (AV×List AV)} {x:CQ} {σ:St} {K K':Mode→St→Bool} (s:atEnd df pend x σ K=true) (hk:∀μ σ,K μ σ=true→K' μ σ=true):atEnd df' pend x σ K'=true:=by
 cases x<;>first |(cases s;done)|exact WW hd s fun μ h=>hk _ _
theorem abZ (hc:Le call call') {df df':mQ} (hd:acY df df') {n:Nat}:∀{c:dz} {pend:List (AV×List AV)} {σ:St} {K K':Mode→St→Bool},runT call df n c pend σ K=true→(∀μ σ,K μ σ=true→K' μ σ=true)→runT call' df' n c pend σ K'=true:=by
 intro c
 induction c with
 |seq a b iha ihb=>
  intro pend σ K K' s hk
  cases a with
  |reg ops=>
   unfold runT at s ⊢
   cases hs:mU ops with
   |some p=>
    obtain⟨pre,f,as⟩:=p
    rw[hs] at s
    simp only at s ⊢
    refine M6 hc s fun x σ' hx=> ?_
    cases x with
    |normal=>
     simp only at hx ⊢
     split at hx
     ·exact ihb hx hk
     ·cases hx
    |_=>exact Cz hd hx hk
   |none=>
    rw[hs] at s
    simp only at s ⊢
    refine qN hc s fun x σ' hx=> ?_
    cases x with
    |normal=>exact ihb hx hk
    |_=>exact Cz hd hx hk
  |_=>
   simp only[runT] at s ⊢
   refine qN hc s fun x σ' hx=> ?_
   cases x with
   |normal=>exact ihb hx hk
   |_=>exact Cz hd hx hk
 |_=>intro pend σ K K' s hk;simp only[runT] at s ⊢;exact qN hc s fun x σ' hx=>Cz hd hx hk
theorem ZU {res:List (Nat×Option (Bool×Nat))} {K K':aM} (hK:KLe K K') {μ:Mode} {σ:St} (s:nQ res K μ σ=true):nQ res K' μ σ=true:=by
 cases μ with
 |ret=>
  simp only[nQ] at s ⊢
  split at s
  ·exact hK _ _ s
  ·cases s
 |pan v=>exact hK _ _ s
theorem ac3 {E:Env} (hc:Le call call') (n:Nat):acY (Az E call n) (Az E call' n):=by
 intro g as μ h K K' s hk
 unfold Az at s ⊢
 split at s
 ·cases s
 ·rename_i hp
  (try simp only[hp])
  split at s
  ·cases s
  ·rename_i fn hf
   (try simp only[hf])
   cases hb:(Nat.beq as.length fn.np&&fn.res.isEmpty&&nO fn.body) with
   |false=>rw[hb] at s;cases s
   |true=>
    rw[hb] at s
    simp only[cond_true] at s ⊢
    refine acC hc s fun x d σ hx=> ?_
    cases x<;>first |(cases hx;done)|exact hk _ _ hx
def Sw (call:bI) (n id:Nat) (args:List AV) (h:aj) (K:aM):Bool:=
 match h.get id with
 |some (.loop l)=>match l.st with
  | .ready=>match BA l.ps args l.regs with
    |some ρ=>dB call n l.asg ⟨ρ,h⟩ fun x σ=>match x with
     | .normal=>(match σ.h.get id with
       |some (.loop l1)=>match l1.st with
        | .ready=>dB call n l.body ⟨σ.regs,σ.h.put id (.loop {l1 with st:= .busy})⟩ fun x σ2=>
          match σ2.h.get id with
          |some (.loop l2)=>match x with
           | .normal=>K (.bool true) (σ2.h.put id (.loop {l2 with st:= .ready}))
           | .panic _=>false
           |x=>K (.bool false) (σ2.h.put id (.loop {l2 with st:= .done x}))
          |_=>false
        |_=>false
       |_=>false)
     |_=>false
    |none=>false
  |_=>false
 |_=>false
theorem XP (hc:Le call call') {n id:Nat} {args:List AV} {h:aj} {K K':aM} (s:Sw call n id args h K=true) (hK:KLe K K'):Sw call' n id args h K'=true:=by
 unfold Sw at s ⊢
 split at s
 rotate_left
 ·cases s
 rename_i l hl
 (try simp only[hl])
 split at s
 rotate_left
 ·cases s
 rename_i hst
 (try simp only[hst])
 split at s
 rotate_left
 ·cases s
 rename_i ρ hρ
 (try simp only[hρ])
 refine qN hc s fun x σ hx=> ?_
 cases x<;>first |(cases hx;done)|skip
 simp only at hx ⊢
 split at hx
 rotate_left
 ·cases hx
 rename_i l1 hl1
 (try simp only[hl1])
 split at hx
 rotate_left
 ·cases hx
 rename_i hst1
 (try simp only[hst1])
 refine qN hc hx fun x σ2 hx2=> ?_
 split at hx2
 rotate_left
 ·cases hx2
 rename_i l2 hl2
 (try simp only[hl2])
 cases x<;>first |(cases hx2;done)|exact hK _ _ hx2
abbrev Sh:=bI→Nat→List AV→aj→aM→Bool
def ZO (E:Env) (call:bI) (n f:Nat) (a:List AV) (h:aj) (K:aM):Bool:=
 match E.prim f with
 |some p=>p call n a h K
 |none=>match E.code f with
  |none=>false
  |some fn=>bif Nat.beq a.length fn.np then runT call (Az E call n) n fn.body [] ⟨qb 0 a .lf,h⟩ (nQ fn.res K) else false
def OJ (E:Env):Prop:=∀f p,E.prim f=some p→∀(call call':bI) n args h (K K':aM),Le call call'→KLe K K'→p call n args h K=true→p call' n args h K'=true
def fq (E:Env) (k:Nat) (s:Sh):Prop:=∀(call call':bI) n args h (K K':aM),Le call call'→Le call' call'→KLe K K'→s call n args h K=true→
 ∃fn,E.code k=some fn∧E.prim k=none∧args.length=fn.np∧∀df,runT call' df n fn.body [] ⟨qb 0 args .lf,h⟩ (nQ fn.res K')=true
theorem JX {E:Env} (hp:OJ E):∀n,Le (au E n) (au E n)
 |0=>fun _ _ _ _ _ s _=>by cases s
 |n+1=>by
  intro t a h K K' s hK
  have ih:=JX hp n
  cases t with
  |yield id=>exact XP ih s hK
  |func f=>
   simp only[au] at s ⊢
   cases hpf:E.prim f with
   |some p=>
    rw[hpf] at s
    exact hp f p hpf _ _ n a h K K' ih hK s
   |none=>
    rw[hpf] at s
    simp only at s ⊢
    split at s
    ·cases s
    ·rename_i fn hf
     (try simp only[hf])
     cases hb:Nat.beq a.length fn.np with
     |false=>rw[hb] at s;cases s
     |true=>
      rw[hb] at s
      simp only[cond_true] at s ⊢
      exact abZ ih (ac3 ih n) s fun μ σ=>ZU hK
end
end
abbrev KL:=CQ→fU→aj→Bool
abbrev Pv:=List AV→aj→Bool
abbrev Bt:=List Pv
def xY (l:fU) (dst:Option Nat) (v:AV):fU:=
 match dst with
 |some d=>(d,v) :: l
 |none=>l
theorem Has.xY {ρ:dx} {l:fU} (H:Has ρ l) (dst:Option Nat) (v:AV):Has (put ρ dst v) (xY l dst v):=by
 cases dst with
 |none=>exact H
 |some d=>exact H.set d v
noncomputable section
def m1 {α:Type} (l:fU) (x:bW) (f:AV→α):Option α:=
 match oJ l x with
 |some v=>some (f v)
 |none=>none
def m2 {α:Type} (l:fU) (x y:bW) (f:AV→AV→α):Option α:=
 match oJ l x with
 |some v=>match oJ l y with
  |some w=>some (f v w)
  |none=>none
 |none=>none
def m3 {α:Type} (l:fU) (x y z:bW) (f:AV→AV→AV→α):Option α:=
 match oJ l x with
 |some v=>match oJ l y with
  |some w=>match oJ l z with
   |some u=>some (f v w u)
   |none=>none
  |none=>none
 |none=>none
abbrev PF:=(AV→Bool)→Bool
abbrev HF:=aM→Bool
def CB (l:fU) (h:aj) (op:fK):Option PF:=
 match op with
 | .fadr off x=>m1 l x fun v=>ay off v
 | .load false _ x=>m1 l x fun v=>av h v
 | .load true n x=>m1 l x fun v=>bL h n v
 | .bin .eql x y=>m2 l x y eD
 | .bin .neq x y=>m2 l x y jV
 | .bin .lss x y=>m2 l x y mE
 | .bin .leq x y=>m2 l x y KU
 | .bin .gtr x y=>m2 l x y Jd
 | .bin .geq x y=>m2 l x y FP
 | .bin .add x y=>m2 l x y gQ
 | .bin .sub x y=>m2 l x y K8
 | .pick c a b=>m3 l c a b bZ
 | .not x=>m1 l x mD
 | .nilck x=>m1 l x bG
 | .ext x i=>m1 l x fun v=>kg i v
 | .len 0 x=>m1 l x pY
 | .len 1 x=>m1 l x gJ
 | .iadr sz x y=>m2 l x y (dO h sz)
 | .idxs x y=>m2 l x y Gn
 | .fld false off _ x=>m1 l x fun v=>Qd off v
 | .sls x lo hi=>(match oJ l x,Em l lo,Em l hi with
   |some v,some lo,some hi=>some (Iq v lo hi)
   |_,_,_=>none)
 | .build z ps=>(match Fx l ps with
   |some vs=>some (dP z vs)
   |none=>none)
 |op=>match lg l h op with
  |some o=>some (bP o)
  |none=>none
def Rs (l:fU) (h:aj) (op:fK):Option HF:=
 match op with
 | .store 1 a v=>m2 l a v fun a v k=>bH h a v fun h=>k (.tup []) h
 | .store (n+2) a v=>m2 l a v fun a v k=>aL h (n+2) a v fun h=>k (.tup []) h
 | .alloc z=>(match Nat.beq z.length 0 with
   |false=>(match aD z with
    |true=>some (bT h z z.length)
    |false=>some (aW (qm h z)))
   |true=>some (aW (qm h z)))
 | .box none 1 x=>m1 l x fun v=>FH h v
 | .app (n+1) bytes s x=>m2 l s x fun s x=>qU h (n+1) bytes s x
 |op=>match Gr l h op with
  |some o=>some (aW o)
  |none=>none
def IQ (call:bI) (l:fU) (f:bW) (vs:List AV) (h:aj) (k:aM):Bool:=
 match f with
 | .c (.fn (.func g) [] [])=>call (.func g) vs h k
 |f=>match oJ l f with
  |some fv=>nI call fv vs h k
  |none=>false
def dnP (l:fU) (h:aj) (op:fK) (g:Option (AV×Bool)) (k:aM):Bool:=
 match CB l h op with
 |some F=>(match g with
  |none=>F fun v=>k v h
  |some (w,b)=>gK w b F fun v=>k v h)
 |none=>match Rs l h op with
  |some F=>(match g with
   |none=>F k
   |some (w,b)=>gP w b F h k)
  |none=>false
def abt (Q:aM) (v:AV) (h:aj):Bool:=
 match v with
 | .ifc t u=>Q (.pan (.ifc t u)) h
 |_=>false
def dnO (call:bI) (Q:aM) (o:aT) (l:fU) (h:aj) (k:fU→aj→Bool):Bool:=
 match o with
 |⟨dst,op,none⟩=>(match op with
  | .fail=>false
  | .nxt x=>(match oJ l x with
    |some v=>IU h v fun v h=>k (xY l dst v) h
    |none=>false)
  | .pnc x=>(match oJ l x with
    |some v=>abt Q v h
    |none=>false)
  | .call f xs=>(match JY l xs with
    |some vs=>IQ call l f vs h (pz Q fun v h=>k (xY l dst v) h)
    |none=>false)
  | .mv x=>(match dst with
    |some d=>(match oJ l x with
     |some v=>k ((d,v) :: l) h
     |none=>false)
    |none=>dnP l h (.mv x) none fun _ h=>k l h)
  |op=>dnP l h op none fun v h=>k (xY l dst v) h)
 |⟨dst,op,some (j,b)⟩=>match l.get j with
  |none=>false
  |some g=>(match op with
   | .fail=>false
   | .nxt _=>false
   | .pnc x=>(match oJ l x with
     |some v=>gP g b (fun _=>abt Q v h) h fun v h=>k (xY l dst v) h
     |none=>false)
   | .call f xs=>(match JY l xs with
     |some vs=>gP g b (fun k=>IQ call l f vs h (pz Q k)) h fun v h=>k (xY l dst v) h
     |none=>false)
   |op=>dnP l h op (some (g,b)) fun v h=>k (xY l dst v) h)
def dnR (call:bI) (Q:aM):List aT→fU→aj→(fU→aj→Bool)→Bool
 | [],l,h,k=>k l h
 |o :: ops,l,h,k=>dnO call Q o l h fun l h=>dnR call Q ops l h k
def dnK:List aT→fU→aj→(fU→Bool)→Bool
 | [],l,_,k=>k l
 |⟨some d, .mv x,none⟩ :: ops,l,h,k=>(match oJ l x with
  |some v=>dnK ops ((d,v) :: l) h k
  |none=>false)
 |⟨dst,op,none⟩ :: ops,l,h,k=>(match CB l h op with
  |some F=>F fun v=>dnK ops (xY l dst v) h k
  |none=>false)
 |⟨dst,op,some (j,b)⟩ :: ops,l,h,k=>(match l.get j with
  |none=>false
  |some g=>match CB l h op with
   |some F=>gK g b F fun v=>dnK ops (xY l dst v) h k
   |none=>false)
def dU (u:AV) (r:Bool) (v:AV):Bool:=ko (AV.same v u) r false
def gS (g:AV) (b:Bool) (run:Bool→Bool) (r:Bool):Bool:=
 match g with
 | .bool x=>bif x==b then run r else r
 |_=>r
def dnA:List aT→fU→aj→Bool→Bool
 | [],_,_,r=>r
 |⟨none,_,_⟩ :: _,_,_,_=>false
 |⟨some d,op,none⟩ :: ops,l,h,r=>(match CB l h op with
  |some F=>(match l.get d with
   |some u=>F (dU u (dnA ops l h r))
   |none=>false)
  |none=>false)
 |⟨some d,op,some (j,b)⟩ :: ops,l,h,r=>(match l.get j with
  |some g=>(match CB l h op with
   |some F=>(match l.get d with
    |some u=>gS g b (fun r=>F (dU u r)) (dnA ops l h r)
    |none=>false)
   |none=>false)
  |none=>false)
def KY:AV→Nat
 | .ptr id _ _ _=>id
 | .slc id _ _ _ _ _=>id
 | .map id=>id
 |_=>0
def um (es:List AV) (Q:aM):aM:=
 match es with
 | []=>Q
 |e :: es=>fun v h=>match nX (KY e :: es.map KY) h with
  |some h=>Q v h
  |none=>false
def aaZ (o:aT) (l:fU):Option (List AV):=
 bif iQ o then(match o.dst with
  |some d=>(match l.get d with
   |some v=>some [v]
   |none=>none)
  |none=>none) else some []
def dnD (call:bI) (Q:aM):List (aT×List aT×List aT)→List AV→fU→aj→(fU→aj→Bool)→Bool
 | [],_,l,h,k=>k l h
 |(act,chk,ns) :: rest,es,l,h,k=>dnO call (um es Q) act l h fun l h=>match aaZ act l with
  |none=>false
  |some e=>dnA chk l h (dnK ns l h fun l=>dnD call Q rest (e++es) l h k)
inductive iW where
 |skip
 |reg (ops:List aT)
 |rseq (ops:List aT) (b:iW)
 |dreg (n0:List aT) (rest:List (aT×List aT×List aT))
 |seq (a b:iW)
 |cond (c:bW) (a b:iW)
 |block (id:Nat) (c:iW)
 |loop (j:Nat) (ks:List Nat) (c:iW)
 |exit (id:Nat)
 |scope (j:Nat) (ks:List Nat) (fks:List Nat) (c:iW) (l:Nat) (r:iW)
 |label (l:Nat)
 |goto (l:Nat)
 |ret
 |refuse
 |pt (j:Nat) (ks:List Nat) (c:iW)
 |stop (c:dz)
def iW.ops:iW→List aT
 | .reg l=>l
 | .rseq l b=>l++b.ops
 | .pt _ _ b=>b.ops
 |_=>[]
def iW.isReg:iW→Bool
 | .reg _=>true
 | .rseq _ b=>b.isReg
 | .pt _ _ b=>b.isReg
 |_=>false
def iW.erase:iW→dz
 | .skip=> .skip
 | .reg ops=> .reg ops
 | .rseq ops b=> .reg (ops++b.ops)
 | .dreg n0 rest=> .dreg n0 rest
 | .seq a b=> .seq a.erase b.erase
 | .cond c a b=> .cond c a.erase b.erase
 | .block id c=> .block id c.erase
 | .loop _ _ c=> .loop c.erase
 | .exit id=> .exit id
 | .scope _ _ _ c l r=> .scope c.erase l r.erase
 | .label l=> .label l
 | .goto l=> .goto l
 | .ret=> .ret
 | .refuse=> .refuse
 | .pt _ _ c=>c.erase
 | .stop c=>c
structure Ann where
 pts:List (Nat×List Nat)
 lps:List (Nat×List Nat)
 scs:List (Nat×List Nat):=[]
 cuts:List (Nat×List (Nat×Nat×List Nat)):=[]
def YW {α:Type}:List (Nat×α)→Nat→Option α
 | [],_=>none
 |(k,v) :: l,n=>bif Nat.beq n k then some v else YW l n
def sP (A:Ann) (i:Nat) (c:iW):iW:=
 match YW A.pts i with
 |some ks=> .pt i ks c
 |none=>c
def splitB:List (Nat×Nat×List Nat)→List aT→iW
 | [],ops=> .reg ops
 |(m,j,ks) :: l,ops=> .rseq (ops.take m) (.pt j ks (splitB l (ops.drop m)))
def aff (A:Ann) (i:Nat) (ops:List aT):iW:=
 match YW A.cuts i with
 |some l=>splitB l ops
 |none=> .reg ops
def toB (A:Ann):dz→Nat→iW×Nat
 | .skip,i=>(sP A i .skip,i+1)
 | .reg ops,i=>(sP A i (aff A i ops),i+1)
 | .dreg n0 rest,i=>(sP A i (.dreg n0 rest),i+1)
 | .seq a b,i=>match toB A a (i+1) with
   |(a',i1)=>match toB A b i1 with
    |(b',i2)=>(sP A i (.seq a' b'),i2)
 | .cond c a b,i=>match toB A a (i+1) with
   |(a',i1)=>match toB A b i1 with
    |(b',i2)=>(sP A i (.cond c a' b'),i2)
 | .block id a,i=>match toB A a (i+1) with
   |(a',i1)=>(sP A i (.block id a'),i1)
 | .loop a,i=>match toB A a (i+1) with
   |(a',i1)=>(match YW A.lps i with
    |some ks=>(sP A i (.loop i ks a'),i1)
    |none=>(.stop (.loop a),i1))
 | .exit id,i=>(sP A i (.exit id),i+1)
 | .scope a l b,i=>match toB A a (i+1) with
   |(a',i1)=>match toB A b i1 with
    |(b',i2)=>(match YW A.lps i with
     |some ks=>(match YW A.scs i with
      |some fks=>(sP A i (.scope i ks fks a' l b'),i2)
      |none=>(.stop (.scope a l b),i2))
     |none=>(.stop (.scope a l b),i2))
 | .label l,i=>(sP A i (.label l),i+1)
 | .goto l,i=>(sP A i (.goto l),i+1)
 | .ret,i=>(sP A i .ret,i+1)
 | .refuse,i=>(sP A i .refuse,i+1)
 | .rf f ps a b,i=>(.stop (.rf f ps a b),i+1)
 | .keep ks c,i=>(.stop (.keep ks c),i+1)
 | .cut cs c,i=>(.stop (.cut cs c),i+1)
theorem Km:∀(l:List (Nat×Nat×List Nat)) (ops:List aT),(splitB l ops).ops=ops∧(splitB l ops).isReg=true∧(splitB l ops).erase= .reg ops
 | [],ops=>⟨rfl,rfl,rfl⟩
 |(m,j,ks) :: l,ops=>by
  obtain⟨h1,h2,h3⟩:=Km l (ops.drop m)
  simp only[splitB,iW.ops,iW.isReg,iW.erase,h1,h2,List.take_append_drop,and_self]
theorem UG (A:Ann) (i:Nat) (ops:List aT):(aff A i ops).erase= .reg ops:=by
 unfold aff
 split
 ·exact(Km _ _).2.2
 ·rfl
theorem oz (A:Ann) (i:Nat) (c:iW):(sP A i c).erase=c.erase:=by
 unfold sP;split<;>rfl
theorem Ym (A:Ann):∀(c:dz) (i:Nat),(toB A c i).1.erase=c:=by
 intro c
 induction c with
 |seq a b iha ihb=>intro i;simp only[toB,oz,iW.erase,iha,ihb]
 |cond o a b iha ihb=>intro i;simp only[toB,oz,iW.erase,iha,ihb]
 |block id a ih=>intro i;simp only[toB,oz,iW.erase,ih]
 |loop a ih=>
  intro i
  simp only[toB]
  split
  ·simp only[oz,iW.erase,ih]
  ·rfl
 |scope a l b iha ihb=>
  intro i
  simp only[toB]
  split
  ·split
   ·simp only[oz,iW.erase,iha,ihb]
   ·rfl
  ·rfl
 |reg ops=>intro i;simp only[toB,oz,UG]
 |_=>intro i;simp only[toB,oz,iW.erase]
structure Sp where
 pt:Bt→Nat→Pv
 fs:Bt→Nat→Pv
 rd:Bt→Nat→Pv
 lp:Bt→Nat→Nat→Pv
def vals:fU→List AV
 | []=>[]
 |(_,v) :: l=>v :: vals l
def J4 (id:Nat) (K:KL):KL:=fun x l h=>
 match x with
 | .exit i=>bif Nat.beq i id then K .normal l h else K (.exit i) l h
 |x=>K x l h
def goL (B:Pv) (ks:List Nat) (l:fU) (h:aj):Bool:=
 match CO ks l with
 |some l'=>B (vals l') h
 |none=>false
def Ms (B:Pv) (ks:List Nat) (K:KL):KL:=fun x l h=>
 match x with
 | .normal=>goL B ks l h
 |x=>K x l h
def xA (lb:Nat) (B:Pv) (ks:List Nat) (K:KL):KL:=fun x l h=>
 match x with
 | .goto l'=>bif Nat.beq l' lb then goL B ks l h else false
 |x=>K x l h
def Dw (call:bI) (n:Nat) (Q:aM) (S:Sp) (β:Bt):iW→fU→aj→KL→Bool
 | .skip,l,h,K=>K .normal l h
 | .reg ops,l,h,K=>dnR call Q ops l h (K .normal)
 | .rseq ops b,l,h,K=>(match b.isReg with
   |true=>dnR call Q ops l h fun l h=>Dw call n Q S β b l h K
   |false=>false)
 | .dreg n0 rest,l,h,K=>dnK n0 l h fun l=>dnD call Q rest [] l h (K .normal)
 | .seq a b,l,h,K=>Dw call n Q S β a l h fun x l h=>match x with
   | .normal=>Dw call n Q S β b l h K
   |x=>K x l h
 | .cond c a b,l,h,K=>(match oJ l c with
   |some v=>aK v (Dw call n Q S β a l h K) (Dw call n Q S β b l h K)
   |none=>false)
 | .block id a,l,h,K=>Dw call n Q S β a l h (J4 id K)
 | .loop j ks _,l,h,_=>goL (S.lp β j n) ks l h
 | .pt j ks _,l,h,_=>goL (S.pt β j) ks l h
 | .scope j _ fks _ _ _,l,h,_=>goL (S.fs (S.lp β j n :: β) j) fks l h
 | .exit id,l,h,K=>K (.exit id) l h
 | .label _,l,h,K=>K .normal l h
 | .goto lb,l,h,K=>K (.goto lb) l h
 | .ret,l,h,K=>K .ret l h
 | .refuse,_,_,_=>false
 | .stop _,_,_,_=>false
abbrev F0:=aj→Bool
abbrev F1:=AV→F0
abbrev F2:=AV→F1
abbrev F3:=AV→F2
abbrev F4:=AV→F3
abbrev F5:=AV→F4
abbrev F6:=AV→F5
abbrev Fn:=(Nat→Pv)→Nat→(Nat→AV)→aj→Bool
def stk:Nat→Nat→(Nat→Pv)→Bt
 |0,_,_=>[]
 |d+1,i,τ=>τ i :: stk d (i+1) τ
def xD:List Nat→Nat→(Nat→AV)→fU
 | [],_,_=>[]
 |k :: ks,i,σ=>(k,σ i) :: xD ks (i+1) σ
def Yt:Nat→Nat→(Nat→AV)→List AV
 |0,_,_=>[]
 |n+1,i,σ=>σ i :: Yt n (i+1) σ
def xw (f:Pv→KL→KL) (K:Bt→KL):Bt→KL
 |B :: β=>f B (K β)
 | []=>fun _ _ _=>false
def Ua (call:bI) (n:Nat) (Q:aM) (S:Sp):Nat→iW→(Bt→KL)→List (Fn×Fn)
 |d, .pt j ks a,K=>(fun τ _ σ h=>S.pt (stk d 0 τ) j (vals (xD ks 0 σ)) h,fun τ _ σ h=>Dw call n Q S (stk d 0 τ) a (xD ks 0 σ) h (K (stk d 0 τ))) :: Ua call n Q S d a K
 |d, .loop j ks a,K=>
  (fun τ _ σ h=>S.rd (stk (d+1) 0 τ) j (vals (xD ks 0 σ)) h,fun τ _ σ h=>Dw call n Q S (stk (d+1) 0 τ) a (xD ks 0 σ) h (xw (fun B=>Ms B ks) K (stk (d+1) 0 τ))) ::
  (fun τ _ σ h=>S.lp (stk d 0 τ) j 0 (vals (xD ks 0 σ)) h,fun _ _ _ _=>false) ::
  (fun τ m σ h=>S.lp (stk d 0 τ) j (m+1) (vals (xD ks 0 σ)) h,fun τ m σ h=>S.rd (S.lp (stk d 0 τ) j m :: stk d 0 τ) j (vals (xD ks 0 σ)) h) ::
  Ua call n Q S (d+1) a (xw (fun B=>Ms B ks) K)
 |d, .rseq _ b,K=>Ua call n Q S d b K
 |d, .seq a b,K=>Ua call n Q S d a (fun β x l h=>match x with
   | .normal=>Dw call n Q S β b l h (K β)
   |x=>K β x l h)++Ua call n Q S d b K
 |d, .cond _ a b,K=>Ua call n Q S d a K++Ua call n Q S d b K
 |d, .block id a,K=>Ua call n Q S d a (fun β=>J4 id (K β))
 |d, .scope j ks fks a lb r,K=>
  (fun τ _ σ h=>S.fs (stk (d+1) 0 τ) j (vals (xD fks 0 σ)) h,fun τ _ σ h=>Dw call n Q S (stk (d+1) 0 τ) a (xD fks 0 σ) h (xw (fun B=>xA lb B ks) K (stk (d+1) 0 τ))) ::
  (fun τ _ σ h=>S.rd (stk (d+1) 0 τ) j (vals (xD ks 0 σ)) h,fun τ _ σ h=>Dw call n Q S (stk (d+1) 0 τ) r (xD ks 0 σ) h (xw (fun B=>xA lb B ks) K (stk (d+1) 0 τ))) ::
  (fun τ _ σ h=>S.lp (stk d 0 τ) j 0 (vals (xD ks 0 σ)) h,fun _ _ _ _=>false) ::
  (fun τ m σ h=>S.lp (stk d 0 τ) j (m+1) (vals (xD ks 0 σ)) h,fun τ m σ h=>S.rd (S.lp (stk d 0 τ) j m :: stk d 0 τ) j (vals (xD ks 0 σ)) h) ::
  (Ua call n Q S (d+1) a (xw (fun B=>xA lb B ks) K)++Ua call n Q S (d+1) r (xw (fun B=>xA lb B ks) K))
 |_,_,_=>[]
abbrev dJ (j k:Nat) (v r:Pv):Pv:=@Bool.rec (fun _=>Pv) r v (Nat.beq j k)
abbrev Ah (j k:Nat) (v r:Pv):Pv:=@Bool.rec (fun _=>Pv) r v (Nat.beq j k)
abbrev eF:Pv:=fun _ _=>false
abbrev Ht:bI→Nat→aM→Sp:=fun _ _ _=>{pt:=fun _ _=>eF,fs:=fun _ _=>eF,rd:=fun _ _=>eF,lp:=fun _ _ _=>eF}
def pB:Nat→Bt→Pv
 |_,[]=>fun _ _=>false
 |0,B :: _=>B
 |i+1,_ :: β=>pB i β
def pA0 (f:aj→aM→Bool) (K:aM):Pv:=let _:=@Dw;fun t0 h=>@List.rec AV (fun _=>Bool) (f h K) (fun _ _ _=>false) t0
def pF1 (B:Pv):F1:=fun x0 h=>B [x0] h
def sD (f:AV→aj→aM→Bool) (K:aM):Pv:=let _:=@Dw;fun t0 h=>@List.rec AV (fun _=>Bool) false (fun x0 t1 _=>@List.rec AV (fun _=>Bool) (f x0 h K) (fun _ _ _=>false) t1) t0
def pC1 (f:AV→aj→aM→Bool) (K:aM):Pv:=let _:=@Dw;fun t0 h=>@List.rec AV (fun _=>Bool) false (fun x0 t1 _=>@List.rec AV (fun _=>Bool) (f x0 h K) (fun _ _ _=>false) t1) t0
def R8 (B:Pv):F2:=fun x0 x1 h=>B [x0,x1] h
def jA (f:AV→AV→aj→aM→Bool) (K:aM):Pv:=let _:=@Dw;fun t0 h=>@List.rec AV (fun _=>Bool) false (fun x0 t1 _=>@List.rec AV (fun _=>Bool) false (fun x1 t2 _=>@List.rec AV (fun _=>Bool) (f x0 x1 h K) (fun _ _ _=>false) t2) t1) t0
def pC2 (f:AV→AV→aj→aM→Bool) (K:aM):Pv:=let _:=@Dw;fun t0 h=>@List.rec AV (fun _=>Bool) false (fun x0 t1 _=>@List.rec AV (fun _=>Bool) false (fun x1 t2 _=>@List.rec AV (fun _=>Bool) (f x0 x1 h K) (fun _ _ _=>false) t2) t1) t0
def wW (B:Pv):F3:=fun x0 x1 x2 h=>B [x0,x1,x2] h
def kZ (f:AV→AV→AV→aj→aM→Bool) (K:aM):Pv:=let _:=@Dw;fun t0 h=>@List.rec AV (fun _=>Bool) false (fun x0 t1 _=>@List.rec AV (fun _=>Bool) false (fun x1 t2 _=>@List.rec AV (fun _=>Bool) false (fun x2 t3 _=>@List.rec AV (fun _=>Bool) (f x0 x1 x2 h K) (fun _ _ _=>false) t3) t2) t1) t0
def O6 (f:AV→AV→AV→aj→aM→Bool) (K:aM):Pv:=let _:=@Dw;fun t0 h=>@List.rec AV (fun _=>Bool) false (fun x0 t1 _=>@List.rec AV (fun _=>Bool) false (fun x1 t2 _=>@List.rec AV (fun _=>Bool) false (fun x2 t3 _=>@List.rec AV (fun _=>Bool) (f x0 x1 x2 h K) (fun _ _ _=>false) t3) t2) t1) t0
def SC (B:Pv):F4:=fun x0 x1 x2 x3 h=>B [x0,x1,x2,x3] h
def rY (f:AV→AV→AV→AV→aj→aM→Bool) (K:aM):Pv:=let _:=@Dw;fun t0 h=>@List.rec AV (fun _=>Bool) false (fun x0 t1 _=>@List.rec AV (fun _=>Bool) false (fun x1 t2 _=>@List.rec AV (fun _=>Bool) false (fun x2 t3 _=>@List.rec AV (fun _=>Bool) false (fun x3 t4 _=>@List.rec AV (fun _=>Bool) (f x0 x1 x2 x3 h K) (fun _ _ _=>false) t4) t3) t2) t1) t0
def pC4 (f:AV→AV→AV→AV→aj→aM→Bool) (K:aM):Pv:=let _:=@Dw;fun t0 h=>@List.rec AV (fun _=>Bool) false (fun x0 t1 _=>@List.rec AV (fun _=>Bool) false (fun x1 t2 _=>@List.rec AV (fun _=>Bool) false (fun x2 t3 _=>@List.rec AV (fun _=>Bool) false (fun x3 t4 _=>@List.rec AV (fun _=>Bool) (f x0 x1 x2 x3 h K) (fun _ _ _=>false) t4) t3) t2) t1) t0
def pA5 (f:AV→AV→AV→AV→AV→aj→aM→Bool) (K:aM):Pv:=let _:=@Dw;fun t0 h=>@List.rec AV (fun _=>Bool) false (fun x0 t1 _=>@List.rec AV (fun _=>Bool) false (fun x1 t2 _=>@List.rec AV (fun _=>Bool) false (fun x2 t3 _=>@List.rec AV (fun _=>Bool) false (fun x3 t4 _=>@List.rec AV (fun _=>Bool) false (fun x4 t5 _=>@List.rec AV (fun _=>Bool) (f x0 x1 x2 x3 x4 h K) (fun _ _ _=>false) t5) t4) t3) t2) t1) t0
def pF6 (B:Pv):F6:=fun x0 x1 x2 x3 x4 x5 h=>B [x0,x1,x2,x3,x4,x5] h
def pA6 (f:AV→AV→AV→AV→AV→AV→aj→aM→Bool) (K:aM):Pv:=let _:=@Dw;fun t0 h=>@List.rec AV (fun _=>Bool) false (fun x0 t1 _=>@List.rec AV (fun _=>Bool) false (fun x1 t2 _=>@List.rec AV (fun _=>Bool) false (fun x2 t3 _=>@List.rec AV (fun _=>Bool) false (fun x3 t4 _=>@List.rec AV (fun _=>Bool) false (fun x4 t5 _=>@List.rec AV (fun _=>Bool) false (fun x5 t6 _=>@List.rec AV (fun _=>Bool) (f x0 x1 x2 x3 x4 x5 h K) (fun _ _ _=>false) t6) t5) t4) t3) t2) t1) t0
def pC6 (f:AV→AV→AV→AV→AV→AV→aj→aM→Bool) (K:aM):Pv:=let _:=@Dw;fun t0 h=>@List.rec AV (fun _=>Bool) false (fun x0 t1 _=>@List.rec AV (fun _=>Bool) false (fun x1 t2 _=>@List.rec AV (fun _=>Bool) false (fun x2 t3 _=>@List.rec AV (fun _=>Bool) false (fun x3 t4 _=>@List.rec AV (fun _=>Bool) false (fun x4 t5 _=>@List.rec AV (fun _=>Bool) false (fun x5 t6 _=>@List.rec AV (fun _=>Bool) (f x0 x1 x2 x3 x4 x5 h K) (fun _ _ _=>false) t6) t5) t4) t3) t2) t1) t0
def pA7 (f:AV→AV→AV→AV→AV→AV→AV→aj→aM→Bool) (K:aM):Pv:=let _:=@Dw;fun t0 h=>@List.rec AV (fun _=>Bool) false (fun x0 t1 _=>@List.rec AV (fun _=>Bool) false (fun x1 t2 _=>@List.rec AV (fun _=>Bool) false (fun x2 t3 _=>@List.rec AV (fun _=>Bool) false (fun x3 t4 _=>@List.rec AV (fun _=>Bool) false (fun x4 t5 _=>@List.rec AV (fun _=>Bool) false (fun x5 t6 _=>@List.rec AV (fun _=>Bool) false (fun x6 t7 _=>@List.rec AV (fun _=>Bool) (f x0 x1 x2 x3 x4 x5 x6 h K) (fun _ _ _=>false) t7) t6) t5) t4) t3) t2) t1) t0
def Iy (l:fU):List (Nat×Option (Bool×Nat))→Option (List (AV×Option (Bool×Nat)))
 | []=>some []
 |(t,x) :: r=>match l.get t with
  |some v=>match Iy l r with
   |some vs=>some ((v,x) :: vs)
   |none=>none
  |none=>none
def fM (h:aj):List (AV×Option (Bool×Nat))→Option (List AV)
 | []=>some []
 |(v,none) :: r=>match fM h r with
  |some vs=>some (v :: vs)
  |none=>none
 |(a,some (ag,n)) :: r=>match eO h ag n a with
  |some v=>match fM h r with
   |some vs=>some (v :: vs)
   |none=>none
  |none=>none
def gI (o:Option (List AV)) (h:aj) (K:aM):Bool:=
 match o with
 |some l=>K (oneOf l) h
 |none=>false
def acG (res:List (Nat×Option (Bool×Nat))) (l:fU) (h:aj) (K:aM):Bool:=
 match Iy l res with
 |some m=>bif res.any (fun x=>x.2.isSome) then gI (fM h m) h K else K (oneOf (m.map fun x=>x.1)) h
 |none=>false
def abm (res:List (Nat×Option (Bool×Nat))) (K:aM):KL:=fun x l h=>
 match x with
 | .normal=>acG res l h K
 | .ret=>acG res l h K
 |_=>false
def Vh:Nat→List AV→fU→fU
 |_,[],l=>l
 |i,v :: vs,l=>Vh (i+1) vs ((i,v) :: l)
def adr (call:bI) (n:Nat) (K:aM) (S:Sp) (top:Pv) (A:Ann) (fn:dF):List (Fn×Fn):=
 (fun _ _ σ h=>top (Yt fn.np 0 σ) h,fun _ _ σ h=>Dw call n K S [] (toB A fn.body 0).1 (Vh 0 (Yt fn.np 0 σ) []) h (abm fn.res K)) :: Ua call n K S 0 (toB A fn.body 0).1 fun _=>abm fn.res K
end
section
variable {call call':bI} {n:Nat} {ρ:dx} {l:fU} {h:aj} {op:fK}
theorem sw {α:Type} {o:Option α} {k:α→Bool} (s:bP o k=true):∃v,o=some v∧k v=true:=by
 cases o with
 |none=>cases s
 |some v=>exact⟨v,rfl,s⟩
theorem Kk {o:Option (AV×aj)} {k:aM} (s:aW o k=true):∃v h',o=some (v,h')∧k v h'=true:=by
 cases o with
 |none=>cases s
 |some p=>exact⟨p.1,p.2,rfl,s⟩
theorem qM {α:Type} {x:bW} {f:AV→α} {y:α} (e:m1 l x f=some y):∃v,oJ l x=some v∧y=f v:=by
 unfold m1 at e
 split at e
 ·rename_i v hv;cases e;exact⟨v,hv,rfl⟩
 ·cases e
theorem nD {α:Type} {x z:bW} {f:AV→AV→α} {y:α} (e:m2 l x z f=some y):∃v w,oJ l x=some v∧oJ l z=some w∧y=f v w:=by
 unfold m2 at e
 split at e
 ·rename_i v hv
  split at e
  ·rename_i w hw;cases e;exact⟨v,w,hv,hw,rfl⟩
  ·cases e
 ·cases e
theorem ac0 {α:Type} {x z t:bW} {f:AV→AV→AV→α} {y:α} (e:m3 l x z t f=some y):∃v w u,oJ l x=some v∧oJ l z=some w∧oJ l t=some u∧y=f v w u:=by
 unfold m3 at e
 split at e
 ·rename_i v hv
  split at e
  ·rename_i w hw
   split at e
   ·rename_i u hu;cases e;exact⟨v,w,u,hv,hw,hu,rfl⟩
   ·cases e
  ·cases e
 ·cases e
theorem QY (c a b:AV) (k:AV→Bool):bZ c a b k=bP (Qz c a b) k:=by
 cases c<;>try rfl
 rename_i x;cases x<;>rfl
theorem vH {F:PF} (e:CB l h op=some F):∃o,lg l h op=some o∧∀k,F k=bP o k:=by
 unfold CB at e
 split at e
 case h_1=>obtain⟨v,hv,rfl⟩:=qM e;exact⟨_,by simp only[lg,l1,hv]<;>rfl,fun k=>ZE _ _ _⟩
 case h_2=>obtain⟨v,hv,rfl⟩:=qM e;exact⟨_,by simp only[lg,l1,hv]<;>rfl,fun k=>Pm _ _ _ _⟩
 case h_3=>obtain⟨v,hv,rfl⟩:=qM e;exact⟨_,by simp only[lg,l1,hv]<;>rfl,fun k=>Mx _ _ _ _⟩
 case h_4=>obtain⟨v,w,hv,hw,rfl⟩:=nD e;exact⟨_,by simp only[lg,l2,hv,hw]<;>rfl,fun k=>WR _ _ _⟩
 case h_5=>obtain⟨v,w,hv,hw,rfl⟩:=nD e;exact⟨_,by simp only[lg,l2,hv,hw]<;>rfl,fun k=>VE _ _ _⟩
 case h_6=>obtain⟨v,w,hv,hw,rfl⟩:=nD e;exact⟨_,by simp only[lg,l2,hv,hw]<;>rfl,fun k=>Vk _ _ _⟩
 case h_7=>obtain⟨v,w,hv,hw,rfl⟩:=nD e;exact⟨_,by simp only[lg,l2,hv,hw]<;>rfl,fun k=>XD _ _ _⟩
 case h_8=>obtain⟨v,w,hv,hw,rfl⟩:=nD e;exact⟨_,by simp only[lg,l2,hv,hw]<;>rfl,fun k=>Wt _ _ _⟩
 case h_9=>obtain⟨v,w,hv,hw,rfl⟩:=nD e;exact⟨_,by simp only[lg,l2,hv,hw]<;>rfl,fun k=>Xq _ _ _⟩
 case h_10=>obtain⟨v,w,hv,hw,rfl⟩:=nD e;exact⟨_,by simp only[lg,l2,hv,hw]<;>rfl,fun k=>Wv _ _ _⟩
 case h_11=>obtain⟨v,w,hv,hw,rfl⟩:=nD e;exact⟨_,by simp only[lg,l2,hv,hw]<;>rfl,fun k=>Xj _ _ _⟩
 case h_12=>obtain⟨v,w,u,hv,hw,hu,rfl⟩:=ac0 e;exact⟨_,by simp only[lg,hv,hw,hu]<;>rfl,fun k=>QY _ _ _ _⟩
 case h_13=>obtain⟨v,hv,rfl⟩:=qM e;exact⟨_,by simp only[lg,l1,hv]<;>rfl,fun k=>ab0 _ _⟩
 case h_14=>obtain⟨v,hv,rfl⟩:=qM e;exact⟨_,by simp only[lg,l1,hv]<;>rfl,fun k=>Yq _ _⟩
 case h_15=>obtain⟨v,hv,rfl⟩:=qM e;exact⟨_,by simp only[lg,l1,hv]<;>rfl,fun k=>Wy _ _ _⟩
 case h_16=>obtain⟨v,hv,rfl⟩:=qM e;exact⟨_,by simp only[lg,l1,hv]<;>rfl,fun k=>Pj _ _ _⟩
 case h_17=>obtain⟨v,hv,rfl⟩:=qM e;exact⟨_,by simp only[lg,l1,hv]<;>rfl,fun k=>Vj _ _ _⟩
 case h_18=>obtain⟨v,w,hv,hw,rfl⟩:=nD e;exact⟨_,by simp only[lg,l2,hv,hw]<;>rfl,fun k=>Ri _ _ _ _ _⟩
 case h_19=>obtain⟨v,w,hv,hw,rfl⟩:=nD e;exact⟨_,by simp only[lg,l2,hv,hw]<;>rfl,fun k=>PV _ _ _⟩
 case h_20=>obtain⟨v,hv,rfl⟩:=qM e;exact⟨_,by simp only[lg,l1,hv]<;>rfl,fun k=>Wd _ _ _ _⟩
 case h_21=>
  split at e
  ·rename_i v lo hi h1 h2 h3;cases e;exact⟨_,by simp only[lg,h1,h2,h3]<;>rfl,fun k=>WZ _ _ _ _⟩
  ·cases e
 case h_22=>
  split at e
  ·rename_i vs h1;cases e;exact⟨_,by simp only[lg,h1]<;>rfl,fun k=>MZ _ _ _⟩
  ·cases e
 case h_23=>
  split at e
  ·rename_i o ho;cases e;exact⟨o,ho,fun k=>rfl⟩
  ·cases e
theorem Qb {F:HF} (e:Rs l h op=some F):∃o,Gr l h op=some o∧∀k,F k=aW o k:=by
 unfold Rs at e
 split at e
 case h_1=>
  obtain⟨v,w,hv,hw,rfl⟩:=nD e
  refine⟨_,by simp only[Gr,hv,hw]<;>rfl,fun k=> ?_⟩
  simp only[Md]
  cases cZ h 1 v w<;>rfl
 case h_2 n x y=>
  obtain⟨v,w,hv,hw,rfl⟩:=nD e
  refine⟨_,by simp only[Gr,hv,hw]<;>rfl,fun k=> ?_⟩
  simp only[Jy h (n+2) v w _ rfl]
  cases cZ h (n+2) v w<;>rfl
 case h_3 z=>
  split at e
  ·rename_i h0
   split at e
   ·rename_i hl;cases e;exact⟨_,rfl,fun k=>LC _ _ _ h0 hl⟩
   ·cases e;exact⟨_,rfl,fun k=>rfl⟩
  ·cases e;exact⟨_,rfl,fun k=>rfl⟩
 case h_4=>obtain⟨v,hv,rfl⟩:=qM e;exact⟨_,by simp only[Gr,hv]<;>rfl,fun k=>WX _ _ _⟩
 case h_5 n b x y=>
  obtain⟨v,w,hv,hw,rfl⟩:=nD e
  exact⟨_,by simp only[Gr,hv,hw]<;>rfl,fun k=>XG _ _ _ _ _ _ rfl⟩
 case h_6=>
  split at e
  ·rename_i o ho;cases e;exact⟨o,ho,fun k=>rfl⟩
  ·cases e
def zV (g:AV) (b:Bool):Bool:=
 match g with
 | .bool x=>x==b
 |_=>false
theorem AO (H:Has ρ l) {d:Nat} {g:AV} {b:Bool} (hg:l.get d=some g):fC ρ (some (d,b))=some (zV g b):=by
 simp only[fC,H d g hg,zV]
 cases g<;>rfl
theorem Vl {g:AV} {b:Bool} {run:(AV→Bool)→Bool} {k:AV→Bool} (s:gK g b run k=true):(zV g b=true∧run k=true)∨(zV g b=false∧k (.tup [])=true):=by
 cases g<;>try exact .inr ⟨rfl,s⟩
 rename_i x
 cases x<;>cases b<;>first |exact .inl ⟨rfl,s⟩|exact .inr ⟨rfl,s⟩
theorem M4 {g:AV} {b:Bool} {run:aM→Bool} {k:aM} (s:gP g b run h k=true):(zV g b=true∧run k=true)∨(zV g b=false∧k (.tup []) h=true):=by
 cases g<;>try exact .inr ⟨rfl,s⟩
 rename_i x
 cases x<;>cases b<;>first |exact .inl ⟨rfl,s⟩|exact .inr ⟨rfl,s⟩
theorem ab4 {g:AV} {b:Bool} {run:Bool→Bool} {r:Bool} (s:gS g b run r=true):(zV g b=true∧run r=true)∨(zV g b=false∧r=true):=by
 cases g<;>try exact .inr ⟨rfl,s⟩
 rename_i x
 cases x<;>cases b<;>first |exact .inl ⟨rfl,s⟩|exact .inr ⟨rfl,s⟩
theorem Za {f:bW} {vs:List AV} {k:aM} (s:IQ call l f vs h k=true):∃fv,oJ l f=some fv∧nI call fv vs h k=true:=by
 unfold IQ at s
 split at s
 ·rename_i g
  exact⟨.fn (.func g) [] [],rfl,by simpa only[nI,List.nil_append,List.append_nil] using s⟩
 ·split at s
  ·rename_i fv hf
   exact⟨fv,hf,s⟩
  ·cases s
theorem Ru {x:bW} {f:AV} {xs:List bW} {vs:List AV} (H:Has ρ l) (ef:oJ l x=some f) (e:JY l xs=some vs) {K:aM}:gM call' ρ h (.call x xs) K=nI call' f vs h K:=by
 simp only[gM,iy H ef,CU H e,nI]
 cases f<;>rfl
variable {Ks:KSt}
theorem zC {v:AV} {h':aj} {dst:Option Nat} (hn:dH op=false) (e:aN ρ h op=some (v,h')) (s:Ks v ⟨put ρ dst v,h'⟩=true):gM call' ρ h op (fun v h'=>Ks v ⟨zP ρ (dH op) dst v,h'⟩)=true:=by
 rw[jX hn,e]
 simp only[zP,pR,hn,cond_false]
 exact s
theorem JF {dst:Option Nat} {Q k:aM} {f:bW} {xs:List bW} {vs:List AV} (hc:Le call call') (H:Has ρ l) (e:JY l xs=some vs) (s:IQ call l f vs h (pz Q k)=true)
 (hk:∀v h',k v h'=true→jk v=none→Ks v ⟨put ρ dst v,h'⟩=true) (hq:∀x h',Q (.pan x) h'=true→Ks (.pan x) ⟨ρ,h'⟩=true):gM call' ρ h (.call f xs) (fun v h'=>Ks v ⟨zP ρ true dst v,h'⟩)=true:=by
 obtain⟨fv,ef,s⟩:=Za s
 rw[Ru H ef e]
 refine aaL hc s fun v h' hv=> ?_
 rw[ad6] at hv
 simp only[zP,pR,cond_true]
 cases hp:jk v with
 |none=>rw[hp] at hv;exact hk v h' hv hp
 |some x=>
  rw[hp] at hv
  cases v<;>first |(cases hp;done)|skip
  cases hp
  exact hq _ _ hv
theorem LH {Q:aM} {v:AV} (s:abt Q v h=true):∃t u,v= .ifc t u∧Q (.pan (.ifc t u)) h=true:=by
 unfold abt at s
 split at s
 ·exact⟨_,_,rfl,s⟩
 ·cases s
theorem aa9 {k:aM} (H:Has ρ l) (s:dnP l h op none k=true):dH op=false∧∃v h',aN ρ h op=some (v,h')∧k v h'=true:=by
 unfold dnP at s
 cases hp:CB l h op with
 |some F=>
  rw[hp] at s
  obtain⟨o,ho,hF⟩:=vH hp
  obtain⟨e1,e2⟩:=sF H ho
  simp only[hF] at s
  obtain⟨v,rfl,s⟩:=sw s
  exact⟨e2,v,h,e1,s⟩
 |none=>
  rw[hp] at s
  simp only at s
  cases hh:Rs l h op with
  |none=>rw[hh] at s;cases s
  |some F=>
   rw[hh] at s
   obtain⟨o,ho,hF⟩:=Qb hh
   obtain⟨e1,e2⟩:=MR H ho
   simp only[hF] at s
   obtain⟨v,h',rfl,s⟩:=Kk s
   exact⟨e2,v,h',e1,s⟩
theorem acH {k:aM} {g:AV} {b:Bool} (H:Has ρ l) (s:dnP l h op (some (g,b)) k=true):dH op=false∧((zV g b=true∧∃v h',aN ρ h op=some (v,h')∧k v h'=true)∨(zV g b=false∧k (.tup []) h=true)):=by
 unfold dnP at s
 cases hp:CB l h op with
 |some F=>
  rw[hp] at s
  obtain⟨o,ho,hF⟩:=vH hp
  obtain⟨e1,e2⟩:=sF H ho
  refine⟨e2, ?_⟩
  rcases Vl s with⟨hw,s⟩|⟨hw,s⟩
  ·rw[hF] at s
   obtain⟨v,rfl,s⟩:=sw s
   exact .inl ⟨hw,v,h,e1,s⟩
  ·exact .inr ⟨hw,s⟩
 |none=>
  rw[hp] at s
  simp only at s
  cases hh:Rs l h op with
  |none=>rw[hh] at s;cases s
  |some F=>
   rw[hh] at s
   obtain⟨o,ho,hF⟩:=Qb hh
   obtain⟨e1,e2⟩:=MR H ho
   refine⟨e2, ?_⟩
   rcases M4 s with⟨hw,s⟩|⟨hw,s⟩
   ·rw[hF] at s
    obtain⟨v,h',rfl,s⟩:=Kk s
    exact .inl ⟨hw,v,h',e1,s⟩
   ·exact .inr ⟨hw,s⟩
theorem abK {Q:aM} {o:aT} {k:fU→aj→Bool} (hc:Le call call') (H:Has ρ l) (s:dnO call Q o l h k=true)
 (hk:∀v h',k (xY l o.dst v) h'=true→pR (dH o.op) v=none→(o.grd=none→dH o.op=false→aN ρ h o.op=some (v,h'))→Ks v ⟨put ρ o.dst v,h'⟩=true)
 (hq:dH o.op=true→∀x h',Q (.pan x) h'=true→Ks (.pan x) ⟨ρ,h'⟩=true):jM call' o ⟨ρ,h⟩ Ks=true:=by
 obtain⟨dst,op,grd⟩:=o
 cases grd with
 |none=>
  unfold dnO at s
  simp only at s hk hq
  simp only[jM,fC]
  split at s
  ·cases s
  ·rename_i x
   split at s
   ·rename_i v hv
    simp only[gM,iy H hv]
    exact LJ s fun ls h' hv=>hk _ _ hv rfl (fun _ e=>by cases e)
   ·cases s
  ·rename_i x
   split at s
   ·rename_i v hv
    obtain⟨t,u,rfl,s⟩:=LH s
    simp only[gM,iy H hv]
    exact hq rfl _ _ s
   ·cases s
  ·rename_i f xs
   split at s
   ·rename_i vs hvs
    exact JF hc H hvs s (fun v h' hv hp=>hk v h' hv (qz hp) (fun _ e=>by cases e)) (hq rfl)
   ·cases s
  ·rename_i x
   split at s
   ·rename_i d
    split at s
    ·rename_i v hv
     have e:aN ρ h (.mv x)=some (v,h):=by simp only[aN,iy H hv,bQ]
     exact zC rfl e (hk v h s rfl fun _ _=>e)
    ·cases s
   ·obtain⟨_,v,h',e,s⟩:=aa9 H s
    exact zC rfl e (hk v h' s rfl fun _ _=>e)
  ·obtain⟨hn,v,h',e,s⟩:=aa9 H s
   exact zC hn e (hk v h' s (by simp only[pR,hn,cond_false]) fun _ _=>e)
 |some p=>
  obtain⟨j,b⟩:=p
  unfold dnO at s
  simp only at s hk hq
  split at s
  ·cases s
  ·rename_i g hg
   simp only[jM,AO H hg]
   have hno:∀{P:Prop},((some (j,b):Option (Nat×Bool))=none→P):=fun e=>by cases e
   split at s
   ·cases s
   ·cases s
   ·rename_i x
    split at s
    ·rename_i v hv
     rcases M4 s with⟨hw,s⟩|⟨hw,s⟩
     ·obtain⟨t,u,rfl,s⟩:=LH s
      simp only[hw,gM,iy H hv]
      exact hq rfl _ _ s
     ·simp only[hw]
      exact hk _ _ s rfl hno
    ·cases s
   ·rename_i f xs
    split at s
    ·rename_i vs hvs
     rcases M4 s with⟨hw,s⟩|⟨hw,s⟩
     ·simp only[hw]
      exact JF hc H hvs s (fun v h' hv hp=>hk v h' hv (qz hp) hno) (hq rfl)
     ·simp only[hw]
      exact hk _ _ s rfl hno
    ·cases s
   ·obtain⟨hn,hs⟩:=acH H s
    rcases hs with⟨hw,v,h',e,s⟩|⟨hw,s⟩
    ·simp only[hw]
     exact zC hn e (hk v h' s (by simp only[pR,hn,cond_false]) hno)
    ·simp only[hw]
     exact hk _ _ s (by simp only[pR,hn,cond_false]) hno
def MU (Q:aM) (KS:oC):Prop:=∀x ρ h,Q (.pan x) h=true→KS (.panic x) ⟨ρ,h⟩=true
theorem Ug (hc:Le call call') {Q:aM}:∀{ops:List aT} {ρ:dx} {l:fU} {h:aj} {k:fU→aj→Bool} {KS:oC},Has ρ l→dnR call Q ops l h k=true→(∀l' ρ' h',Has ρ' l'→k l' h'=true→KS .normal ⟨ρ',h'⟩=true)→MU Q KS→nL call' ops ⟨ρ,h⟩ KS=true
 | [],ρ,l,h,k,KS,H,s,hk,hq=>hk _ _ _ H s
 |o :: ops,ρ,l,h,k,KS,H,s,hk,hq=>by
  simp only[nL]
  refine abK hc H s (fun v h' hv hp _=> ?_) (fun hcl x h' hx=> ?_)
  ·simp only[hp]
   exact Ug hc (H.xY o.dst v) hv hk hq
  ·simp only[hcl,pR,cond_true,jk]
   exact hq _ _ _ hx
theorem ZC:∀{ops:List aT} {ρ:dx} {l:fU} {h:aj} {k:fU→Bool},Has ρ l→dnK ops l h k=true→∃ρ' l',pF ops ρ h=some ρ'∧Has ρ' l'∧k l'=true:=by
 intro ops
 induction ops with
 |nil=>intro ρ l h k H s;exact⟨ρ,l,rfl,H,s⟩
 |cons o ops ih=>
  intro ρ l h k H s
  obtain⟨dst,op,grd⟩:=o
  unfold dnK at s
  simp only[pF]
  split at s
  ·rename_i heq;cases heq
  ·rename_i d x ops' heq
   cases heq
   split at s
   ·rename_i v hv
    obtain⟨ρ',l',h1,h2,h3⟩:=ih (H.set d v) s
    refine⟨ρ',l', ?_,h2,h3⟩
    simp only[fC,aN,iy H hv,bQ]
    exact h1
   ·cases s
  ·rename_i dst' op' ops' hne heq
   cases heq
   split at s
   ·rename_i F hp
    obtain⟨o,ho,hF⟩:=vH hp
    obtain⟨e1,e2⟩:=sF H ho
    rw[hF] at s
    obtain⟨v,rfl,s⟩:=sw s
    obtain⟨ρ',l',h1,h2,h3⟩:=ih (H.xY dst v) s
    refine⟨ρ',l', ?_,h2,h3⟩
    simp only[fC,e1,bQ]
    exact h1
   ·cases s
  ·rename_i dst' op' j b ops' heq
   cases heq
   split at s
   ·cases s
   ·rename_i g hg
    split at s
    ·rename_i F hp
     obtain⟨o,ho,hF⟩:=vH hp
     obtain⟨e1,e2⟩:=sF H ho
     simp only[AO H hg]
     rcases Vl s with⟨hw,s⟩|⟨hw,s⟩
     ·rw[hF] at s
      obtain⟨v,rfl,s⟩:=sw s
      obtain⟨ρ',l',h1,h2,h3⟩:=ih (H.xY dst v) s
      refine⟨ρ',l', ?_,h2,h3⟩
      simp only[hw,e1,bQ]
      exact h1
     ·obtain⟨ρ',l',h1,h2,h3⟩:=ih (H.xY dst _) s
      refine⟨ρ',l', ?_,h2,h3⟩
      simp only[hw]
      exact h1
    ·cases s
theorem IV {u v:AV} {r:Bool} (s:dU u r v=true):AV.same v u=true∧r=true:=by
 unfold dU at s
 rw[rJ] at s
 exact rA s
theorem Od {q:Bool} (H:Has ρ l):∀{ops:List aT},dnA ops l h q=true→again ρ h ops=true∧q=true
 | [],s=>⟨rfl,s⟩
 |⟨none,_,_⟩ :: _,s=>by unfold dnA at s;cases s
 |⟨some d,op,none⟩ :: ops,s=>by
  unfold dnA at s
  split at s
  ·rename_i F hp
   obtain⟨o,ho,hF⟩:=vH hp
   obtain⟨e1,e2⟩:=sF H ho
   split at s
   ·rename_i u hu
    rw[hF] at s
    obtain⟨v,rfl,s⟩:=sw s
    obtain⟨hs,s⟩:=IV s
    obtain⟨h1,h2⟩:=Od H s
    refine⟨?_,h2⟩
    simp only[again,mF,fC,e1,bQ,H d u hu,hs,cond_true]
    exact h1
   ·cases s
  ·cases s
 |⟨some d,op,some (j,b)⟩ :: ops,s=>by
  unfold dnA at s
  split at s
  ·rename_i g hg
   split at s
   ·rename_i F hp
    obtain⟨o,ho,hF⟩:=vH hp
    obtain⟨e1,e2⟩:=sF H ho
    split at s
    ·rename_i u hu
     simp only[again,mF,AO H hg]
     rcases ab4 s with⟨hw,s⟩|⟨hw,s⟩
     ·rw[hF] at s
      obtain⟨v,rfl,s⟩:=sw s
      obtain⟨hs,s⟩:=IV s
      obtain⟨h1,h2⟩:=Od H s
      refine⟨?_,h2⟩
      simp only[hw,e1,bQ,H d u hu,hs,cond_true]
      exact h1
     ·obtain⟨h1,h2⟩:=Od H s
      refine⟨?_,h2⟩
      simp only[hw,cond_true]
      exact h1
    ·cases s
   ·cases s
  ·cases s
theorem Ur {o:aT} {v:AV} {h':aj} (he:iQ o=true) (hv:aN ρ h o.op=some (v,h')):KY v=h.sz∧o.grd=none∧dH o.op=false:=by
 obtain⟨dst,op,grd⟩:=o
 unfold iQ at he
 split at he
 ·cases he
 ·rename_i hg
  split at he<;>first |(cases he;done)|skip
  all_goals
   rename_i ho
   simp only at ho hg hv
   subst ho
   subst hg
   refine⟨?_,rfl,rfl⟩
  ·simp only[aN,qm] at hv
   cases hb:Nat.beq _ 0 with
   |true=>rw[hb] at hv;cases hv;rfl
   |false=>
    rw[hb,cond_false] at hv
    obtain⟨_,hv⟩:=sH hv
    cases hv;rfl
  ·simp only[aN] at hv
   obtain⟨_,hv⟩:=sH hv
   cases hv;rfl
  ·simp only[aN] at hv
   split at hv
   ·unfold nK at hv
    obtain⟨_,hv⟩:=sH hv
    cases hv;rfl
   ·cases hv
  ·simp only[aN] at hv
   cases hv;rfl
  ·simp only[aN] at hv
   split at hv
   ·unfold Cn at hv
    split at hv
    ·obtain⟨_,hv⟩:=sH hv
     cases hv;rfl
    ·cases hv
   ·cases hv
  ·simp only[aN] at hv
   obtain⟨_,hv⟩:=sH hv
   split at hv
   ·cases hv;rfl
   ·cases hv
theorem Tw {es:List AV} {Q:aM} {v:AV} (s:um es Q v h=true):∃h',nX (es.map KY) h=some h'∧Q v h'=true:=by
 cases es with
 |nil=>exact⟨h,rfl,s⟩
 |cons e es=>
  simp only[um] at s
  split at s
  ·rename_i h2 hh;exact⟨h2,hh,s⟩
  ·cases s
theorem abl (hc:Le call call') {Q:aM} {ρ0:dx}:∀{rest:List (aT×List aT×List aT)} {es:List AV} {ρ:dx} {l:fU} {h:aj} {k:fU→aj→Bool} {KS:oC},Has ρ l→dnD call Q rest es l h k=true→(∀l' ρ' h',Has ρ' l'→k l' h'=true→KS .normal ⟨ρ',h'⟩=true)→MU Q KS→ou call' ρ0 (es.map KY) rest ⟨ρ,h⟩ KS=true
 | [],es,ρ,l,h,k,KS,H,s,hk,hq=>hk _ _ _ H s
 |(act,chk,ns) :: rest,es,ρ,l,h,k,KS,H,s,hk,hq=>by
  unfold dnD at s
  simp only[ou]
  refine abK hc H s (fun v h' hv hp hev=> ?_) (fun hcl x h' hx=> ?_)
  ·simp only[hp]
   split at hv
   ·cases hv
   ·rename_i e he
    have H':=H.xY act.dst v
    obtain⟨ha,hv⟩:=Od H' hv
    obtain⟨ρ',l',h1,h2,h3⟩:=ZC H' hv
    rw[ha,cond_true,h1]
    simp only
    have hes:(bif iQ act then h.sz :: es.map KY else es.map KY)=(e++es).map KY:=by
     unfold aaZ at he
     cases hie:iQ act with
     |false=>rw[hie,cond_false] at he;cases he;rfl
     |true=>
      rw[hie,cond_true] at he
      have hg:act.grd=none∧dH act.op=false:=by
       unfold iQ at hie
       split at hie
       ·cases hie
       ·rename_i hg
        refine⟨hg, ?_⟩
        split at hie<;>first |(cases hie;done)|(rename_i ho;rw[ho];rfl)
      have hev:=hev hg.1 hg.2
      split at he
      ·rename_i d hd
       split at he
       ·rename_i v' hv'
        cases he
        rw[hd] at hv'
        simp only[xY,fU.get,Nat.beq_refl,cond_true,Option.some.injEq] at hv'
        subst hv'
        simp only[cond_true,List.cons_append,List.nil_append,List.map_cons,(Ur hie hev).1]
       ·cases he
      ·cases he
    rw[hes]
    exact abl hc h2 h3 hk hq
  ·simp only[hcl,pR,cond_true,jk]
   obtain⟨h2,hh,hx⟩:=Tw hx
   rw[hh]
   exact hq _ _ _ hx
noncomputable def acT (call:bI) (n:Nat) (b:dz) (K:oC):oC:=fun x σ'=>
 match x with
 | .normal=>dB call n b σ' K
 |x=>K x σ'
noncomputable def FM (id:Nat) (K:oC):oC:=fun x σ'=>
 match x with
 | .exit i=>bif Nat.beq i id then K .normal σ' else K (.exit i) σ'
 |x=>K x σ'
noncomputable def Qu (call:bI) (n:Nat) (c:dz) (K:oC) (m:Nat):oC:=fun x σ'=>
 match x with
 | .normal=>iter (dB call n c) K m σ'
 |x=>K x σ'
noncomputable def zS (call:bI) (n:Nat) (l:Nat) (r:dz) (K:oC) (m:Nat):oC:=fun x σ'=>
 match x with
 | .goto l'=>bif Nat.beq l' l then uh l (dB call n r) K m σ' else false
 |x=>K x σ'
noncomputable def KR (res:List (Nat×Option (Bool×Nat))) (K:aM):oC:=fun x σ=>
 match x with
 | .normal=>(match jH σ.regs σ.h res with
   |some l=>K (oneOf l) σ.h
   |none=>false)
 | .ret=>(match jH σ.regs σ.h res with
   |some l=>K (oneOf l) σ.h
   |none=>false)
 | .panic v=>K (.pan v) σ.h
 |_=>false
variable {σ:St} {KS:oC}
theorem agJ {x y:dz} (s:dB call n x σ (acT call n y KS)=true):dB call n (.seq x y) σ KS=true:=by
 have e:acT call n y KS=(fun x σ'=>match x with | .normal=>dB call n y σ' KS |x=>KS x σ'):=by
  funext x σ';cases x<;>rfl
 rw[e] at s;exact s
theorem aeV {c:bW} {x y:dz} {v:AV} {p q:Bool} {KS:oC} (H:Has ρ l) (e:oJ l c=some v) (s:aK v p q=true) (kx:p=true→dB call n x ⟨ρ,h⟩ KS=true) (ky:q=true→dB call n y ⟨ρ,h⟩ KS=true):dB call n (.cond c x y) ⟨ρ,h⟩ KS=true:=by
 simp only[dB,iy H e]
 cases v<;>first |(cases s;done)|skip
 rename_i t
 cases t
 ·exact ky s
 ·exact kx s
theorem acz {id:Nat} {x:dz} (s:dB call n x σ (FM id KS)=true):dB call n (.block id x) σ KS=true:=by
 have e:FM id KS=(fun x σ'=>match x with | .exit i=>bif Nat.beq i id then KS .normal σ' else KS (.exit i) σ' |x=>KS x σ'):=by
  funext x σ';cases x<;>rfl
 rw[e] at s;exact s
theorem afg {x:dz} (s:iter (dB call n x) KS n σ=true):dB call n (.loop x) σ KS=true:=s
theorem ab2 {x:dz} {m:Nat} (s:dB call n x σ (Qu call n x KS m)=true):iter (dB call n x) KS (m+1) σ=true:=by
 have e:Qu call n x KS m=(fun y σ'=>match y with | .normal=>iter (dB call n x) KS m σ' |y=>KS y σ'):=by
  funext y σ';cases y<;>rfl
 rw[e] at s;exact s
theorem acA {x r:dz} {l:Nat} (s:dB call n x σ (zS call n l r KS n)=true):dB call n (.scope x l r) σ KS=true:=by
 have e:zS call n l r KS n=(fun x σ'=>match x with | .goto l'=>bif Nat.beq l' l then uh l (dB call n r) KS n σ' else false |x=>KS x σ'):=by
  funext x σ';cases x<;>rfl
 rw[e] at s;exact s
theorem ae8 {r:dz} {l m:Nat} (s:dB call n r σ (zS call n l r KS m)=true):uh l (dB call n r) KS (m+1) σ=true:=by
 have e:zS call n l r KS m=(fun x σ'=>match x with | .goto l'=>bif Nat.beq l' l then uh l (dB call n r) KS m σ' else false |x=>KS x σ'):=by
  funext x σ';cases x<;>rfl
 rw[e] at s;exact s
theorem xM (H:Has ρ l):∀{res:List (Nat×Option (Bool×Nat))} {m:List (AV×Option (Bool×Nat))},Iy l res=some m→jH ρ h res=fM h m
 | [],m,e=>by simp only[Iy] at e;cases e;rfl
 |(t,x) :: r,m,e=>by
  simp only[Iy] at e
  split at e
  ·rename_i v hv
   split at e
   ·rename_i vs hvs
    cases e
    simp only[jH]
    rw[xM H hvs]
    cases x with
    |none=>simp only[wK,H t v hv,fM];rfl
    |some p=>
     obtain⟨ag,k⟩:=p
     simp only[wK,H t v hv,fM]
     rfl
   ·cases e
  ·cases e
theorem ab3 {res:List (Nat×Option (Bool×Nat))} {m:List (AV×Option (Bool×Nat))} {K K':aM} (H:Has ρ l) (e:Iy l res=some m) (hK:∀v h',K v h'=true→K' v h'=true) (s:gI (fM h m) h K=true):KR res K' .ret ⟨ρ,h⟩=true:=by
 simp only[KR,xM H e]
 cases hr:fM h m with
 |none=>rw[hr] at s;cases s
 |some vs=>rw[hr] at s;exact hK _ _ s
theorem Td {res:List (Nat×Option (Bool×Nat))} {m:List (AV×Option (Bool×Nat))} {K K':aM} (H:Has ρ l) (e:Iy l res=some m) (hK:∀v h',K v h'=true→K' v h'=true) (s:gI (fM h m) h K=true):KR res K' .normal ⟨ρ,h⟩=true:=by
 simp only[KR,xM H e]
 cases hr:fM h m with
 |none=>rw[hr] at s;cases s
 |some vs=>rw[hr] at s;exact hK _ _ s
theorem Gx {KS:oC}:∀{a b:List aT} {σ:St},nL call (a++b) σ KS=nL call a σ (fun x σ'=>match x with | .normal=>nL call b σ' KS |x=>KS x σ')
 | [],b,σ=>rfl
 |o :: a,b,σ=>by
  simp only[List.cons_append,nL]
  congr 1
  funext v σ'
  cases pR (dH o.op) v with
  |none=>exact Gx
  |some x=>rfl
theorem MF {KS:oC}:∀{b:iW} {σ:St},b.isReg=true→dB call n b.erase σ KS=nL call b.ops σ KS
 | .reg _,σ,_=>rfl
 | .rseq l b,σ,_=>rfl
 | .pt _ _ b,σ,h=>MF (b:=b) h
theorem MU.seq {Q:aM} {KS:oC} {b:dz} (hq:MU Q KS):MU Q (acT call n b KS):=fun x ρ h s=>hq x ρ h s
theorem MU.block {Q:aM} {KS:oC} {id:Nat} (hq:MU Q KS):MU Q (FM id KS):=fun x ρ h s=>hq x ρ h s
theorem MU.loop {Q:aM} {KS:oC} {c:dz} {m:Nat} (hq:MU Q KS):MU Q (Qu call n c KS m):=fun x ρ h s=>hq x ρ h s
theorem MU.jump {Q:aM} {KS:oC} {c:dz} {lb m:Nat} (hq:MU Q KS):MU Q (zS call n lb c KS m):=fun x ρ h s=>hq x ρ h s
def Om:List Nat→List AV→fU
 |k :: ks,v :: vs=>(k,v) :: Om ks vs
 |_,_=>[]
theorem LB:∀{ks:List Nat} {l m:fU},CO ks l=some m→m=Om ks (vals m)∧(vals m).length=ks.length
 | [],l,m,e=>by simp only[CO] at e;cases e;exact⟨rfl,rfl⟩
 |k :: ks,l,m,e=>by
  simp only[CO] at e
  split at e
  ·split at e
   ·rename_i v hv m' hm
    cases e
    have:=LB hm
    exact⟨by simp only[vals,Om];rw[←this.1],by simp only[vals,List.length_cons,this.2]⟩
   ·cases e
  ·cases e
theorem Mw (σ:Nat→AV):∀(ks:List Nat) (vs:List AV) (i:Nat),vs.length=ks.length→(∀j,j<vs.length→vs[j]? =some (σ (i+j)))→xD ks i σ=Om ks vs∧vals (Om ks vs)=vs
 | [],[],i,_,_=>⟨rfl,rfl⟩
 | [],_ :: _,_,e,_=>by cases e
 |_ :: _,[],_,e,_=>by cases e
 |k :: ks,v :: vs,i,e,hv=>by
  have h0:=hv 0 (Nat.succ_pos _)
  simp only[List.getElem?_cons_zero,Nat.add_zero,Option.some.injEq] at h0
  have:=Mw σ ks vs (i+1) (by simpa using e) (fun j hj=>by
   have:=hv (j+1) (by simpa using hj)
   simpa[Nat.add_assoc,Nat.add_comm 1 j] using this)
  simp only[xD,Om,vals, ←h0,this.1,this.2]
  exact⟨trivial,trivial⟩
def tZ:List AV→Nat→AV
 | [],_=> .bool true
 |v :: _,0=>v
 |_ :: l,n+1=>tZ l n
theorem Fw:∀(vs:List AV) (j:Nat),j<vs.length→vs[j]? =some (tZ vs j)
 | [],_,h=>by cases h
 |v :: vs,0,_=>rfl
 |v :: vs,j+1,h=>by simpa[tZ] using Fw vs j (by simpa using h)
theorem qO {ks:List Nat} {vs:List AV} (e:vs.length=ks.length):xD ks 0 (tZ vs)=Om ks vs∧vals (Om ks vs)=vs:=
 Mw _ ks vs 0 e fun j hj=>by rw[Nat.zero_add];exact Fw vs j hj
def tq:Bt→Nat→Pv
 | [],_=>fun _ _=>false
 |v :: _,0=>v
 |_ :: l,n+1=>tq l n
theorem P7 (τ:Nat→Pv):∀(β:Bt) (i:Nat),(∀j,j<β.length→β[j]? =some (τ (i+j)))→stk β.length i τ=β
 | [],_,_=>rfl
 |B :: β,i,h=>by
  have h0:=h 0 (Nat.succ_pos _)
  simp only[List.getElem?_cons_zero,Nat.add_zero,Option.some.injEq] at h0
  have:=P7 τ β (i+1) (fun j hj=>by
   have:=h (j+1) (by simpa using hj)
   simpa[Nat.add_assoc,Nat.add_comm 1 j] using this)
  simp only[List.length_cons,stk, ←h0,this]
theorem L8:∀(vs:Bt) (j:Nat),j<vs.length→vs[j]? =some (tq vs j)
 | [],_,h=>by cases h
 |v :: vs,0,_=>rfl
 |v :: vs,j+1,h=>by simpa[tq] using L8 vs j (by simpa using h)
theorem yJ (β:Bt):stk β.length 0 (tq β)=β:=
 P7 _ β 0 fun j hj=>by rw[Nat.zero_add];exact L8 β j hj
def O7 (K:KL) (KS:oC):Prop:=∀x (l:fU) (ρ:dx) (h:aj),Has ρ l→K x l h=true→KS x ⟨ρ,h⟩=true
def Zd (V:Pv) (ks:List Nat) (R:St→Bool):Prop:=∀(vs:List AV) (ρ:dx) (h:aj),vs.length=ks.length→Has ρ (Om ks vs)→V vs h=true→R ⟨ρ,h⟩=true
theorem Zd.go {V:Pv} {ks:List Nat} {R:St→Bool} (hv:Zd V ks R) {ρ:dx} {l:fU} {h:aj} (H:Has ρ l) (s:goL V ks l h=true):R ⟨ρ,h⟩=true:=by
 unfold goL at s
 split at s
 ·rename_i l' hl
  have hz:=LB hl
  have H':=H.keep ks hl
  rw[hz.1] at H'
  exact hv _ _ _ hz.2 H' s
 ·cases s
def SPd (call':bI) (n:Nat) (S:Sp):Bt→iW→oC→Prop
 |β, .pt j ks a,KS=>Zd (S.pt β j) ks fun σ=>dB call' n a.erase σ KS
 |β, .loop j ks a,KS=>Zd (S.lp β j n) ks (iter (dB call' n a.erase) KS n)
 |β, .scope j _ fks a lb r,KS=>Zd (S.fs (S.lp β j n :: β) j) fks fun σ=>dB call' n a.erase σ (zS call' n lb r.erase KS n)
 |β, .rseq _ b,KS=>SPd call' n S β b KS
 |β, .seq a b,KS=>SPd call' n S β a (acT call' n b.erase KS)∧SPd call' n S β b KS
 |β, .cond _ a b,KS=>SPd call' n S β a KS∧SPd call' n S β b KS
 |β, .block id a,KS=>SPd call' n S β a (FM id KS)
 |_,_,_=>True
theorem O7.block {id:Nat} {K:KL} {KS:oC} (hk:O7 K KS):O7 (J4 id K) (FM id KS):=by
 intro x l ρ h H s
 cases x with
 |exit i=>
  simp only[J4,FM] at s ⊢
  cases hb:Nat.beq i id with
  |true=>rw[hb] at s;exact hk _ _ _ _ H s
  |false=>rw[hb] at s;exact hk _ _ _ _ H s
 |_=>exact hk _ _ _ _ H s
theorem O7.loop {c:dz} {n m:Nat} {call':bI} {B:Pv} {ks:List Nat} {K:KL} {KS:oC} (hk:O7 K KS) (hB:Zd B ks (iter (dB call' n c) KS m)):O7 (Ms B ks K) (Qu call' n c KS m):=by
 intro x l ρ h H s
 cases x with
 |normal=>exact hB.go H s
 |_=>exact hk _ _ _ _ H s
theorem O7.jump {r:dz} {n m lb:Nat} {call':bI} {B:Pv} {ks:List Nat} {K:KL} {KS:oC} (hk:O7 K KS) (hB:Zd B ks (uh lb (dB call' n r) KS m)):O7 (xA lb B ks K) (zS call' n lb r KS m):=by
 intro x l ρ h H s
 cases x with
 |goto i=>
  simp only[xA,zS] at s ⊢
  cases hb:Nat.beq i lb with
  |true=>rw[hb] at s;exact hB.go H s
  |false=>rw[hb] at s;cases s
 |_=>exact hk _ _ _ _ H s
theorem yV {S:Sp} {call call':bI} {n:Nat} {Q:aM} (hc:Le call call'):∀(c:iW) (β:Bt) (ρ:dx) (l:fU) (h:aj) (K:KL) (KS:oC),SPd call' n S β c KS→O7 K KS→MU Q KS→Has ρ l→Dw call n Q S β c l h K=true→dB call' n c.erase ⟨ρ,h⟩ KS=true:=by
 intro c
 induction c with
 |skip=>intro β ρ l h K KS sp hk hq H s;exact hk _ _ _ _ H s
 |label _=>intro β ρ l h K KS sp hk hq H s;exact hk _ _ _ _ H s
 |exit _=>intro β ρ l h K KS sp hk hq H s;exact hk _ _ _ _ H s
 |goto _=>intro β ρ l h K KS sp hk hq H s;exact hk _ _ _ _ H s
 |ret=>intro β ρ l h K KS sp hk hq H s;exact hk _ _ _ _ H s
 |refuse=>intro β ρ l h K KS sp hk hq H s;cases s
 |stop _=>intro β ρ l h K KS sp hk hq H s;cases s
 |reg ops=>
  intro β ρ l h K KS sp hk hq H s
  exact Ug hc H s (fun l' ρ' h' H' s'=>hk _ _ _ _ H' s') hq
 |dreg n0 rest=>
  intro β ρ l h K KS sp hk hq H s
  obtain⟨ρ',l',h1,h2,h3⟩:=ZC H s
  simp only[iW.erase,dB,h1]
  exact abl (es:=[]) hc h2 h3 (fun l2 ρ2 h2 H2 s2=>hk _ _ _ _ H2 s2) hq
 |rseq ops b ih=>
  intro β ρ l h K KS sp hk hq H s
  simp only[Dw] at s
  split at s
  ·rename_i hr
   show nL call' (ops++b.ops) ⟨ρ,h⟩ KS=true
   rw[Gx]
   refine Ug hc H s (fun l' ρ' h' H' s'=> ?_) (fun x ρ h s=>hq x ρ h s)
   have:=ih β _ _ _ _ _ sp hk hq H' s'
   rw[MF hr] at this
   exact this
  ·cases s
 |seq a b iha ihb=>
  intro β ρ l h K KS sp hk hq H s
  refine agJ (iha β ρ l h _ _ sp.1 ?_ hq.seq H s)
  intro x l' ρ' h' H' s'
  cases x with
  |normal=>exact ihb β _ _ _ _ _ sp.2 hk hq H' s'
  |_=>exact hk _ _ _ _ H' s'
 |cond o a b iha ihb=>
  intro β ρ l h K KS sp hk hq H s
  simp only[Dw] at s
  split at s
  ·rename_i v hv
   exact aeV H hv s (fun s=>iha β _ _ _ _ _ sp.1 hk hq H s) (fun s=>ihb β _ _ _ _ _ sp.2 hk hq H s)
  ·cases s
 |block id a ih=>
  intro β ρ l h K KS sp hk hq H s
  exact acz (ih β _ _ _ _ _ sp hk.block hq.block H s)
 |loop j ks a ih=>intro β ρ l h K KS sp hk hq H s;exact afg (Zd.go sp H s)
 |pt j ks a ih=>intro β ρ l h K KS sp hk hq H s;exact Zd.go sp H s
 |scope j ks fks a lb r iha ihr=>intro β ρ l h K KS sp hk hq H s;exact acA (Zd.go sp H s)
theorem agc {S:Sp} {call call':bI} {n:Nat} {Q:aM} (hc:Le call call'):∀(c:iW) (β:Bt) (K:Bt→KL) (KS:oC),(∀p∈Ua call n Q S β.length c K,p.1=p.2)→O7 (K β) KS→MU Q KS→SPd call' n S β c KS:=by
 intro c
 induction c with
 |pt j ks a ih=>
  intro β K KS hp hk hq vs ρ h hl H s
  have e:=congrFun (congrFun (congrFun (congrFun (hp _ (List.mem_cons_self ..)) (tq β)) 0) (tZ vs)) h
  simp only[yJ,qO hl] at e
  rw[e] at s
  exact yV hc a β ρ _ h _ KS (ih β K KS (fun p h=>hp p (List.mem_cons_of_mem _ h)) hk hq) hk hq H s
 |loop j ks a ih=>
  intro β K KS hp hk hq
  have e1:=hp _ (List.mem_cons_self ..)
  have e2:=hp _ (List.mem_cons_of_mem _ (List.mem_cons_self ..))
  have e3:=hp _ (List.mem_cons_of_mem _ (List.mem_cons_of_mem _ (List.mem_cons_self ..)))
  have hr:∀p∈Ua call n Q S (β.length+1) a (xw (fun B=>Ms B ks) K),p.1=p.2:=fun p h=>hp p (List.mem_cons_of_mem _ (List.mem_cons_of_mem _ (List.mem_cons_of_mem _ h)))
  have main:∀m,Zd (S.lp β j m) ks (iter (dB call' n a.erase) KS m):=by
   intro m
   induction m with
   |zero=>
    intro vs ρ h hl H s
    have e:=congrFun (congrFun (congrFun (congrFun e2 (tq β)) 0) (tZ vs)) h
    simp only[yJ,qO hl] at e
    rw[e] at s;cases s
   |succ m ihm=>
    intro vs ρ h hl H s
    have e:=congrFun (congrFun (congrFun (congrFun e3 (tq β)) m) (tZ vs)) h
    simp only[yJ,qO hl] at e
    have e':=congrFun (congrFun (congrFun (congrFun e1 (tq (S.lp β j m :: β))) 0) (tZ vs)) h
    have hs:stk (β.length+1) 0 (tq (S.lp β j m :: β))=S.lp β j m :: β:=yJ (S.lp β j m :: β)
    simp only[hs,qO hl] at e'
    rw[e,e'] at s
    have hk':O7 (Ms (S.lp β j m) ks (K β)) (Qu call' n a.erase KS m):=hk.loop ihm
    exact ab2 (yV hc a (S.lp β j m :: β) ρ _ h _ _ (ih (S.lp β j m :: β) (xw (fun B=>Ms B ks) K) _ hr hk' hq.loop) hk' hq.loop H s)
  exact main n
 |seq a b iha ihb=>
  intro β K KS hp hk hq
  have hb:SPd call' n S β b KS:=ihb β K KS (fun p h=>hp p (List.mem_append_right _ h)) hk hq
  refine⟨iha β _ _ (fun p h=>hp p (List.mem_append_left _ h)) ?_ hq.seq,hb⟩
  intro x l ρ h H s
  cases x with
  |normal=>exact yV hc b β ρ l h _ KS hb hk hq H s
  |_=>exact hk _ _ _ _ H s
 |cond o a b iha ihb=>
  intro β K KS hp hk hq
  exact⟨iha β K KS (fun p h=>hp p (List.mem_append_left _ h)) hk hq,ihb β K KS (fun p h=>hp p (List.mem_append_right _ h)) hk hq⟩
 |block id a ih=>
  intro β K KS hp hk hq
  exact ih β (fun β=>J4 id (K β)) _ hp hk.block hq.block
 |rseq ops b ih=>
  intro β K KS hp hk hq
  exact ih β K KS hp hk hq
 |scope j ks fks a lb r iha ihr=>
  intro β K KS hp hk hq
  have e0:=hp _ (List.mem_cons_self ..)
  have e1:=hp _ (List.mem_cons_of_mem _ (List.mem_cons_self ..))
  have e2:=hp _ (List.mem_cons_of_mem _ (List.mem_cons_of_mem _ (List.mem_cons_self ..)))
  have e3:=hp _ (List.mem_cons_of_mem _ (List.mem_cons_of_mem _ (List.mem_cons_of_mem _ (List.mem_cons_self ..))))
  have hr:∀p∈Ua call n Q S (β.length+1) a (xw (fun B=>xA lb B ks) K)++Ua call n Q S (β.length+1) r (xw (fun B=>xA lb B ks) K),p.1=p.2:=fun p h=>hp p (List.mem_cons_of_mem _ (List.mem_cons_of_mem _ (List.mem_cons_of_mem _ (List.mem_cons_of_mem _ h))))
  have main:∀m,Zd (S.lp β j m) ks (uh lb (dB call' n r.erase) KS m):=by
   intro m
   induction m with
   |zero=>
    intro vs ρ h hl H s
    have e:=congrFun (congrFun (congrFun (congrFun e2 (tq β)) 0) (tZ vs)) h
    simp only[yJ,qO hl] at e
    rw[e] at s;cases s
   |succ m ihm=>
    intro vs ρ h hl H s
    have e:=congrFun (congrFun (congrFun (congrFun e3 (tq β)) m) (tZ vs)) h
    simp only[yJ,qO hl] at e
    have e':=congrFun (congrFun (congrFun (congrFun e1 (tq (S.lp β j m :: β))) 0) (tZ vs)) h
    have hs:stk (β.length+1) 0 (tq (S.lp β j m :: β))=S.lp β j m :: β:=yJ (S.lp β j m :: β)
    simp only[hs,qO hl] at e'
    rw[e,e'] at s
    have hk':O7 (xA lb (S.lp β j m) ks (K β)) (zS call' n lb r.erase KS m):=hk.jump ihm
    exact ae8 (yV hc r (S.lp β j m :: β) ρ _ h _ _ (ihr (S.lp β j m :: β) (xw (fun B=>xA lb B ks) K) _ (fun p h=>hr p (List.mem_append_right _ h)) hk' hq.jump) hk' hq.jump H s)
  intro vs ρ h hl H s
  have e:=congrFun (congrFun (congrFun (congrFun e0 (tq (S.lp β j n :: β))) 0) (tZ vs)) h
  have hs:stk (β.length+1) 0 (tq (S.lp β j n :: β))=S.lp β j n :: β:=yJ (S.lp β j n :: β)
  simp only[hs,qO hl] at e
  rw[e] at s
  have hk':O7 (xA lb (S.lp β j n) ks (K β)) (zS call' n lb r.erase KS n):=hk.jump (main n)
  exact yV hc a (S.lp β j n :: β) ρ _ h _ _ (iha (S.lp β j n :: β) (xw (fun B=>xA lb B ks) K) _ (fun p h=>hr p (List.mem_append_left _ h)) hk' hq.jump) hk' hq.jump H s
 |_=>intro β K KS hp hk hq;trivial
theorem MG {h:aj}:∀{res:List (Nat×Option (Bool×Nat))} {l:fU} {m:List (AV×Option (Bool×Nat))},Iy l res=some m→(res.any fun x=>x.2.isSome)=false→fM h m=some (m.map fun x=>x.1)
 | [],l,m,e,_=>by simp only[Iy] at e;cases e;rfl
 |(t,x) :: r,l,m,e,ha=>by
  simp only[Iy] at e
  split at e
  ·split at e
   ·rename_i v hv vs hvs
    cases e
    simp only[List.any_cons,Bool.or_eq_false_iff] at ha
    cases x with
    |some p=>cases ha.1
    |none=>simp only[fM,MG hvs ha.2,List.map]
   ·cases e
  ·cases e
theorem Xk {res:List (Nat×Option (Bool×Nat))} {K:aM} {ρ:dx} {l:fU} {h:aj} (H:Has ρ l) (s:acG res l h K=true):∃m,Iy l res=some m∧gI (fM h m) h K=true:=by
 unfold acG at s
 split at s
 ·rename_i m hm
  refine⟨m,hm, ?_⟩
  cases ha:res.any fun x=>x.2.isSome with
  |true=>rw[ha] at s;exact s
  |false=>rw[ha] at s;rw[MG hm ha];exact s
 ·cases s
theorem O7.fin {res:List (Nat×Option (Bool×Nat))} {K K':aM} (hK:∀v h',K v h'=true→K' v h'=true):O7 (abm res K) (KR res K'):=by
 intro x l ρ h H s
 cases x with
 |normal=>obtain⟨m,e,s⟩:=Xk H s;exact Td H e hK s
 |ret=>obtain⟨m,e,s⟩:=Xk H s;exact ab3 H e hK s
 |_=>cases s
theorem MU.fin {res:List (Nat×Option (Bool×Nat))} {K K':aM} (hK:KLe K K'):MU K (KR res K'):=fun x ρ h s=>hK _ _ s
def Av:dz→Bool
 | .seq (.reg ops) b=>(match mU ops with
   |some _=>false
   |none=>Av b)
 | .seq _ b=>Av b
 |_=>true
theorem EL {df:mQ} {res:List (Nat×Option (Bool×Nat))} {K:aM} {x:CQ} {σ:St} (s:KR res K x σ=true):atEnd df [] x σ (nQ res K)=true:=by
 cases x<;>first |(cases s;done)|exact s
theorem Vm {a b:dz} {σ:St} {K:oC} (s:dB call n (.seq a b) σ K=true):dB call n a σ (fun x σ'=>match x with | .normal=>dB call n b σ' K |x=>K x σ')=true:=s
theorem TJ (hm:Le call call) {df:mQ} {res:List (Nat×Option (Bool×Nat))} {K:aM}:∀{c:dz} {σ:St},Av c=true→dB call n c σ (KR res K)=true→runT call df n c [] σ (nQ res K)=true:=by
 intro c
 induction c with
 |seq a b iha ihb=>
  intro σ hp s
  cases a with
  |reg ops=>
   unfold Av at hp
   unfold runT
   cases hs:mU ops with
   |some p=>rw[hs] at hp;cases hp
   |none=>
    rw[hs] at hp
    simp only
    refine qN hm (Vm s) fun x σ' hx=> ?_
    cases x with
    |normal=>exact ihb hp hx
    |_=>exact EL hx
  |_=>
   unfold Av at hp
   simp only[runT]
   have s':=Vm s
   refine qN hm s' fun x σ' hx=> ?_
   cases x with
   |normal=>exact ihb hp hx
   |_=>exact EL hx
 |_=>intro σ hp s;simp only[runT];exact qN hm s fun x σ' hx=>EL hx
theorem Has.init:∀{vs:List AV} {i:Nat} {ρ:dx} {l:fU},Has ρ l→Has (qb i vs ρ) (Vh i vs l)
 | [],i,ρ,l,H=>H
 |v :: vs,i,ρ,l,H=>Has.init (vs:=vs) (H.set i v)
theorem Mv (σ:Nat→AV):∀(vs:List AV) (i:Nat),(∀j,j<vs.length→vs[j]? =some (σ (i+j)))→Yt vs.length i σ=vs
 | [],_,_=>rfl
 |v :: vs,i,h=>by
  have h0:=h 0 (Nat.succ_pos _)
  simp only[List.getElem?_cons_zero,Nat.add_zero,Option.some.injEq] at h0
  have:=Mv σ vs (i+1) (fun j hj=>by
   have:=h (j+1) (by simpa using hj)
   simpa[Nat.add_assoc,Nat.add_comm 1 j] using this)
  simp only[List.length_cons,Yt, ←h0,this]
theorem aco (vs:List AV):Yt vs.length 0 (tZ vs)=vs:=Mv _ vs 0 fun j hj=>by rw[Nat.zero_add];exact Fw vs j hj
theorem Pn {α:Type}:∀{l:List (α×α)},l.map Prod.fst=l.map Prod.snd→∀p∈l,p.1=p.2
 | [],_,p,h=>by cases h
 |q :: l,e,p,h=>by
  simp only[List.map_cons,List.cons.injEq] at e
  cases h with
  |head=>exact e.1
  |tail _ h=>exact Pn e.2 p h
noncomputable def jP (np:Nat) (top:bI→Nat→aM→Pv):Sh:=fun call n args h K=>ko (Nat.beq (oM args) np) (top call n K args h) false
theorem afo {E:Env} {k np:Nat} {A:Ann} {fn:dF} {S:bI→Nat→aM→Sp} {top:bI→Nat→aM→Pv} (hk:E.code k=some fn) (hpr:E.prim k=none) (hn:fn.np=np) (hpl:Av fn.body=true)
 (e:(fun call n K=>(adr call n K (S call n K) (top call n K) A fn).map Prod.fst)=fun call n K=>(adr call n K (S call n K) (top call n K) A fn).map Prod.snd):fq E k (jP np top):=by
 intro call call' n args h K K' hc hm hK s
 subst hn
 unfold jP at s
 rw[rJ,mq] at s
 cases hb:Nat.beq args.length fn.np with
 |false=>rw[hb] at s;cases s
 |true=>
  rw[hb] at s
  have hl:=Nat.eq_of_beq_eq_true hb
  refine⟨fn,hk,hpr,hl,fun df=>TJ hm hpl ?_⟩
  have ep:=Pn (congrFun (congrFun (congrFun e call) n) K)
  have e0:=congrFun (congrFun (congrFun (congrFun (ep _ (List.mem_cons_self ..)) (fun _ _ _=>false)) 0) (tZ args)) h
  simp only[←hl,aco] at e0
  rw[cond_true,e0] at s
  have hk:O7 (abm fn.res K) (KR fn.res K'):=O7.fin hK
  have sp:SPd call' n (S call n K) [] (toB A fn.body 0).1 (KR fn.res K'):=agc hc _ [] (fun _=>abm fn.res K) _ (fun p h=>ep p (List.mem_cons_of_mem _ h)) hk (MU.fin hK)
  have:=yV hc (toB A fn.body 0).1 [] (qb 0 args .lf) (Vh 0 args []) h _ _ sp hk (MU.fin hK) (Has.init Has.nil) s
  rwa [Ym] at this
end
end Go.Ab
namespace Go.Proofs.YtibillhjmfbneaaGreatDoor
open Go.Ab
abbrev G (α:Type):Type:=bI→Nat→α
abbrev H0:Type:=aj→aM→Bool
abbrev H1:Type:=AV→aj→aM→Bool
abbrev H2:Type:=AV→AV→aj→aM→Bool
abbrev H3:Type:=AV→AV→AV→aj→aM→Bool
abbrev H4:Type:=AV→AV→AV→AV→aj→aM→Bool
abbrev H5:Type:=AV→AV→AV→AV→AV→aj→aM→Bool
abbrev H6:Type:=AV→AV→AV→AV→AV→AV→aj→aM→Bool
abbrev H7:Type:=AV→AV→AV→AV→AV→AV→AV→aj→aM→Bool
noncomputable section
def Ld:G (F2→H2):=fun c n B6 x0 x3 h K=>
 gQ x3 (.int .i64 1) fun v10=>B6 x0 v10 h
def RI:G (F2→F6→H5):=fun c n B6 B37 x0 x3 x4 x7 x9 h K=>
 dO h 1 x0 x3 fun v25=>av h v25 fun v26=>dO h 4 x4 x9 fun v27=>ay 2 v27 fun v28=>av h v28 fun v29=>dO h 4 x4 x9 fun v30=>ay 3 v30 fun v31=>av h v31 fun v32=>Iq v26 (some v29) (some v32) fun v33=>gQ x7 v33 fun v34=>dO h 4 x4 x9 fun v35=>ay 3 v35 fun v36=>av h v36 fun v37=>gQ x9 (.int .i64 1) fun v38=>B37 x0 x3 x4 v34 v37 v38 h
def Bz:G (F2→H4):=fun c n B6 x0 x3 x99 x102 h K=>
 gK x99 false (mD x102) fun v58=>bZ x99 (.bool true) v58 fun v59=>aK v59 (K (.bool false) h) (Ld c n B6 x0 x3 h K)
def Ie:G (F2→H5):=fun c n B6 x0 x3 x10 x12 x92 h K=>
 kg 0 x92 fun v49=>kg 1 x92 fun v50=>kg 2 x92 fun v51=>bT h [.ah, .ah, .ah] 3 fun v52 h=>aL h 3 v52 v49 fun h=>jV x12 v51 fun v54=>gK v54 false (bL h 3 x10) fun v55=>gK v54 false (bL h 3 v52) fun v56=>gP v54 false (fun k=>c (.func 8) [v55,v56] h (pz K k)) h fun v57 h=>Bz c n B6 x0 x3 v54 v57 h K
def Jc:G (F2→H4):=fun c n B6 x0 x3 x7 x85 h K=>
 kg 0 x85 fun v42=>kg 1 x85 fun v43=>kg 2 x85 fun v44=>bT h [.ah, .ah, .ah] 3 fun v45 h=>aL h 3 v45 v42 fun h=>gQ x7 (.str [32,47,47,32,101,110,100]) fun v47=>c (.func 6) [v47] h <| pz K fun v48 h=>Ie c n B6 x0 x3 v45 v44 v48 h K
def Rb:G (F2→H3):=fun c n B6 x0 x3 x7 h K=>
 dO h 1 x0 x3 fun v39=>av h v39 fun v40=>c (.func 6) [v40] h <| pz K fun v41 h=>Jc c n B6 x0 x3 x7 v41 h K
def VP:G (F2→F6→H6):=fun c n B6 B37 x0 x3 x4 x7 x8 x9 h K=>
 gJ x4 fun v18=>mE x9 v18 fun v19=>aK v19 (dO h 4 x4 x9 fun v20=>ay 2 v20 fun v21=>av h v21 fun v22=>Jd v22 x8 fun v23=>aK v23 (gQ x7 (.str [9,47,47,32,120,10,32]) fun v24=>RI c n B6 B37 x0 x3 x4 v24 x9 h K) (RI c n B6 B37 x0 x3 x4 x7 x9 h K)) (Rb c n B6 x0 x3 x7 h K)
def Mh:G (F2→Nat→H6):=fun c n B6=>
 @Nat.rec (fun _=>H6) (fun _ _ _ _ _ _ _ _=>false) (fun _ ih x0 x3 x4 x7 x8 x9 h K=>VP c n B6 (fun x0 x3 x4 x7 x8 x9 h=>ih x0 x3 x4 x7 x8 x9 h K) x0 x3 x4 x7 x8 x9 h K)
def aao:G (F2→H3):=fun c n B6 x0 x3 x4 h K=>
 Mh c n B6 n x0 x3 x4 (.str [47,47,32,102,105,114,115,116,10]) (.int .i64 0) (.int .i64 0) h K
def BP:G (F2→H3):=fun c n B6 x0 x3 x37 h K=>
 kg 0 x37 fun v14=>kg 1 x37 fun v15=>kg 2 x37 fun v16=>jV v16 (.int .i64 0) fun v17=>aK v17 (Ld c n B6 x0 x3 h K) (aao c n B6 x0 x3 v14 h K)
def Z7:G (F2→H2):=fun c n B6 x0 x3 h K=>
 dO h 1 x0 x3 fun v11=>av h v11 fun v12=>c (.func 7) [v12] h <| pz K fun v13 h=>BP c n B6 x0 x3 v13 h K
def ZT:G (F2→H2):=fun c n B6 x0 x3 h K=>
 dO h 1 x0 x3 fun v6=>av h v6 fun v7=>pY v7 fun v8=>Jd v8 (.int .i64 750) fun v9=>aK v9 (Ld c n B6 x0 x3 h K) (Z7 c n B6 x0 x3 h K)
def Vy:G H0:=fun c n h K=>
 c (.func 9) [] h <| pz K fun v60 h=>K v60 h
def adp:G (F2→H2):=fun c n B6 x0 x3 h K=>
 gJ x0 fun v1=>mE x3 v1 fun v2=>gK v2 true (bP (some x3)) fun v3=>gK v2 true (mE v3 (.int .i64 6)) fun v4=>bZ v2 v4 (.bool false) fun v5=>aK v5 (ZT c n B6 x0 x3 h K) (Vy c n h K)
def Uo:G (Nat→H2):=fun c n=>
 @Nat.rec (fun _=>H2) (fun _ _ _ _=>false) (fun _ ih x0 x3 h K=>adp c n (fun x0 x3 h=>ih x0 x3 h K) x0 x3 h K)
def s5:G H1:=fun c n x0 h K=>
 Uo c n n x0 (.int .i64 0) h K
def BF:G H3:=fun c n x2 x5 x11 h K=>
 kg 0 x11 fun v5=>kg 1 x11 fun v6=>jV v6 (.int .i64 0) fun v7=>aK v7 (dP [.ah, .ah, .ah] [] fun v8=>aL h 3 x2 v8 fun h=>gI (fM h [(x2,some (true,3)),(v5,none),(v6,none)]) h K) (bL h 3 x5 fun v10=>aL h 3 x2 v10 fun h=>gI (fM h [(x2,some (true,3)),((.int .i64 0),none),((.int .i64 0),none)]) h K)
def s6:G H1:=fun c n x0 h K=>
 bT h [.ah, .ah, .ah] 3 fun v1 h=>bT h [.ah, .ah, .ah] 3 fun v2 h=>bP (some (.fn (.func 11) [] [v2])) fun v3=>c (.func 10) [x0,v3] h <| pz K fun v4 h=>BF c n v1 v2 v4 h K
def Pb:G H1:=fun c n x9 h K=>
 kg 0 x9 fun v4=>kg 1 x9 fun v5=>kg 2 x9 fun v6=>K (.tup [v4,v5,v6]) h
def s7:G H1:=fun c n x0 h K=>
 pY x0 fun v1=>Jd v1 (.int .i64 65536) fun v2=>aK v2 (K (.tup [.ah,(.int .i64 0),(.int .i64 21)]) h) (c (.func 13) [x0] h <| pz K fun v3 h=>Pb c n v3 h K)
def Ja:G (F3→H5):=fun c n B35 x2 x3 x6 x151 x156 h K=>
 gK x151 false (mD x156) fun v134=>bZ x151 (.bool true) v134 fun v135=>aK v135 (K (.bool false) h) (gQ x6 (.int .i64 1) fun v136=>B35 x2 x3 v136 h)
def IY:G (F3→H7):=fun c n B35 x2 x3 x6 x7 x8 x143 x148 h K=>
 gK x143 false (mD x148) fun v127=>bZ x143 (.bool true) v127 fun v128=>gK v128 false (ay 7 x7) fun v129=>gK v128 false (av h v129) fun v130=>gK v128 false (ay 7 x8) fun v131=>gK v128 false (av h v131) fun v132=>gP v128 false (fun k=>c (.func 16) [v130,v132] h (pz K k)) h fun v133 h=>Ja c n B35 x2 x3 x6 v128 v133 h K
set_option maxRecDepth 100000 in
def Xv:G (F3→H3):=fun c n B60 x2 x3 x9 h K=>
 ay 2 x2 fun v137=>av h v137 fun v138=>gJ v138 fun v139=>mE x9 v139 fun v140=>aK v140 (ay 2 x2 fun v141=>av h v141 fun v142=>dO h 3 v142 x9 fun v143=>ay 0 v143 fun v144=>av h v144 fun v145=>ay 2 x3 fun v146=>av h v146 fun v147=>dO h 3 v147 x9 fun v148=>ay 0 v148 fun v149=>av h v149 fun v150=>jV v145 v150 fun v151=>gK v151 false (ay 2 x2) fun v152=>gK v151 false (av h v152) fun v153=>gK v151 false (bP (some x9)) fun v154=>gK v151 false (dO h 3 v153 v154) fun v155=>gK v151 false (ay 1 v155) fun v156=>gK v151 false (av h v156) fun v157=>gK v151 false (ay 2 x3) fun v158=>gK v151 false (av h v158) fun v159=>gK v151 false (bP (some x9)) fun v160=>gK v151 false (dO h 3 v159 v160) fun v161=>gK v151 false (ay 1 v161) fun v162=>gK v151 false (av h v162) fun v163=>gP v151 false (fun k=>c (.func 17) [v157,v163] h (pz K k)) h fun v164 h=>gK v151 false (mD v164) fun v165=>bZ v151 (.bool true) v165 fun v166=>gK v166 false (ay 2 x2) fun v167=>gK v166 false (av h v167) fun v168=>gK v166 false (bP (some x9)) fun v169=>gK v166 false (dO h 3 v168 v169) fun v170=>gK v166 false (ay 2 v170) fun v171=>gK v166 false (av h v171) fun v172=>gK v166 false (ay 2 x3) fun v173=>gK v166 false (av h v173) fun v174=>gK v166 false (bP (some x9)) fun v175=>gK v166 false (dO h 3 v174 v175) fun v176=>gK v166 false (ay 2 v176) fun v177=>gK v166 false (av h v177) fun v178=>gP v166 false (fun k=>c (.func 15) [v172,v178] h (pz K k)) h fun v179 h=>gK v166 false (mD v179) fun v180=>bZ v166 (.bool true) v180 fun v181=>aK v181 (K (.bool false) h) (gQ x9 (.int .i64 1) fun v182=>B60 x2 x3 v182 h)) (K (.bool true) h)
def Q9:G (Nat→H3):=fun c n=>
 @Nat.rec (fun _=>H3) (fun _ _ _ _ _=>false) (fun _ ih x2 x3 x9 h K=>Xv c n (fun x2 x3 x9 h=>ih x2 x3 x9 h K) x2 x3 x9 h K)
def Qo:G H2:=fun c n x2 x3 h K=>
 Q9 c n n x2 x3 (.int .i64 0) h K
set_option maxRecDepth 100000 in
def W9:G (F3→H3):=fun c n B35 x2 x3 x6 h K=>
 ay 1 x2 fun v71=>av h v71 fun v72=>gJ v72 fun v73=>mE x6 v73 fun v74=>aK v74 (ay 1 x2 fun v75=>av h v75 fun v76=>dO h 8 v76 x6 fun v77=>bL h 8 v77 fun v78=>bT h [.str [], .int .i64 0, .str [], .str [], .bool false, .bool false, .ah, .ah] 8 fun v79 h=>aL h 8 v79 v78 fun h=>ay 1 x3 fun v81=>av h v81 fun v82=>dO h 8 v82 x6 fun v83=>bL h 8 v83 fun v84=>bT h [.str [], .int .i64 0, .str [], .str [], .bool false, .bool false, .ah, .ah] 8 fun v85 h=>aL h 8 v85 v84 fun h=>ay 0 v79 fun v87=>av h v87 fun v88=>ay 0 v85 fun v89=>av h v89 fun v90=>jV v88 v90 fun v91=>gK v91 false (ay 1 v79) fun v92=>gK v91 false (av h v92) fun v93=>gK v91 false (ay 1 v85) fun v94=>gK v91 false (av h v94) fun v95=>gK v91 false (jV v93 v95) fun v96=>bZ v91 (.bool true) v96 fun v97=>gK v97 false (ay 2 v79) fun v98=>gK v97 false (av h v98) fun v99=>gK v97 false (ay 2 v85) fun v100=>gK v97 false (av h v100) fun v101=>gK v97 false (jV v99 v101) fun YG=>bZ v97 (.bool true) YG fun v103=>gK v103 false (ay 3 v79) fun v104=>gK v103 false (av h v104) fun v105=>gK v103 false (ay 3 v85) fun v106=>gK v103 false (av h v106) fun v107=>gK v103 false (jV v105 v107) fun UZ=>bZ v103 (.bool true) UZ fun v109=>gK v109 false (ay 4 v79) fun v110=>gK v109 false (av h v110) fun v111=>gK v109 false (ay 4 v85) fun v112=>gK v109 false (av h v112) fun v113=>gK v109 false (bP (EN h true .bool v111 v113)) fun v114=>bZ v109 (.bool true) v114 fun v115=>gK v115 false (ay 5 v79) fun v116=>gK v115 false (av h v116) fun v117=>gK v115 false (ay 5 v85) fun v118=>gK v115 false (av h v118) fun v119=>gK v115 false (bP (EN h true .bool v117 v119)) fun v120=>bZ v115 (.bool true) v120 fun v121=>gK v121 false (ay 6 v79) fun v122=>gK v121 false (av h v122) fun v123=>gK v121 false (ay 6 v85) fun v124=>gK v121 false (av h v124) fun v125=>gP v121 false (fun k=>c (.func 15) [v123,v125] h (pz K k)) h fun v126 h=>IY c n B35 x2 x3 x6 v79 v85 v121 v126 h K) (Qo c n x2 x3 h K)
def RN:G (Nat→H3):=fun c n=>
 @Nat.rec (fun _=>H3) (fun _ _ _ _ _=>false) (fun _ ih x2 x3 x6 h K=>W9 c n (fun x2 x3 x6 h=>ih x2 x3 x6 h K) x2 x3 x6 h K)
def QL:G H2:=fun c n x2 x3 h K=>
 RN c n n x2 x3 (.int .i64 0) h K
set_option maxRecDepth 100000 in
def U6:G (F3→H3):=fun c n B14 x2 x3 x5 h K=>
 ay 0 x2 fun v26=>av h v26 fun v27=>gJ v27 fun v28=>mE x5 v28 fun v29=>aK v29 (ay 0 x2 fun v30=>av h v30 fun v31=>dO h 3 v31 x5 fun v32=>ay 0 v32 fun v33=>av h v33 fun v34=>ay 0 x3 fun v35=>av h v35 fun v36=>dO h 3 v36 x5 fun v37=>ay 0 v37 fun v38=>av h v38 fun v39=>jV v34 v39 fun v40=>gK v40 false (ay 0 x2) fun v41=>gK v40 false (av h v41) fun v42=>gK v40 false (bP (some x5)) fun v43=>gK v40 false (dO h 3 v42 v43) fun v44=>gK v40 false (ay 1 v44) fun v45=>gK v40 false (av h v45) fun v46=>gK v40 false (ay 0 x3) fun v47=>gK v40 false (av h v47) fun v48=>gK v40 false (bP (some x5)) fun v49=>gK v40 false (dO h 3 v48 v49) fun v50=>gK v40 false (ay 1 v50) fun v51=>gK v40 false (av h v51) fun v52=>gK v40 false (jV v46 v52) fun v53=>bZ v40 (.bool true) v53 fun v54=>gK v54 false (ay 0 x2) fun v55=>gK v54 false (av h v55) fun v56=>gK v54 false (bP (some x5)) fun v57=>gK v54 false (dO h 3 v56 v57) fun v58=>gK v54 false (ay 2 v58) fun v59=>gK v54 false (av h v59) fun v60=>gK v54 false (ay 0 x3) fun v61=>gK v54 false (av h v61) fun v62=>gK v54 false (bP (some x5)) fun v63=>gK v54 false (dO h 3 v62 v63) fun v64=>gK v54 false (ay 2 v64) fun v65=>gK v54 false (av h v65) fun v66=>gP v54 false (fun k=>c (.func 14) [v60,v66] h (pz K k)) h fun v67 h=>gK v54 false (mD v67) fun v68=>bZ v54 (.bool true) v68 fun v69=>aK v69 (K (.bool false) h) (gQ x5 (.int .i64 1) fun v70=>B14 x2 x3 v70 h)) (QL c n x2 x3 h K)
def PL:G (Nat→H3):=fun c n=>
 @Nat.rec (fun _=>H3) (fun _ _ _ _ _=>false) (fun _ ih x2 x3 x5 h K=>U6 c n (fun x2 x3 x5 h=>ih x2 x3 x5 h K) x2 x3 x5 h K)
def VG:G H2:=fun c n x2 x3 h K=>
 PL c n n x2 x3 (.int .i64 0) h K
def s8:G H2:=fun c n x0 x1 h K=>
 aW (nK h (none) 3 x0) fun v1 h=>aW (nK h (none) 3 x1) fun v2 h=>ay 0 v1 fun v3=>av h v3 fun v4=>gJ v4 fun v5=>ay 0 v2 fun v6=>av h v6 fun v7=>gJ v7 fun v8=>jV v5 v8 fun v9=>gK v9 false (ay 1 v1) fun v10=>gK v9 false (av h v10) fun v11=>gK v9 false (gJ v11) fun v12=>gK v9 false (ay 1 v2) fun v13=>gK v9 false (av h v13) fun v14=>gK v9 false (gJ v14) fun v15=>gK v9 false (jV v12 v15) fun v16=>bZ v9 (.bool true) v16 fun v17=>gK v17 false (ay 2 v1) fun v18=>gK v17 false (av h v18) fun v19=>gK v17 false (gJ v19) fun v20=>gK v17 false (ay 2 v2) fun v21=>gK v17 false (av h v21) fun v22=>gK v17 false (gJ v22) fun v23=>gK v17 false (jV v20 v23) fun v24=>bZ v17 (.bool true) v24 fun v25=>aK v25 (K (.bool false) h) (VG c n v1 v2 h K)
def Nr:G H3:=fun c n x1 x3 x13 h K=>
 kg 0 x13 fun v8=>kg 1 x13 fun v9=>kg 2 x13 fun v10=>bT h [.ah, .ah, .ah] 3 fun v11 h=>aL h 3 v11 v8 fun h=>eD x3 (.int .i64 0) fun v13=>gK v13 true (ay 1 x1) fun v14=>gK v13 true (av h v14) fun v15=>gK v13 true (gJ v15) fun v16=>gK v13 true (eD v16 (.int .i64 1)) fun v17=>bZ v13 v17 (.bool false) fun v18=>gK v18 true (ay 1 x1) fun v19=>gK v18 true (av h v19) fun v20=>gK v18 true (dO h 8 v20 (.int .i64 0)) fun v21=>gK v18 true (ay 1 v21) fun v22=>gK v18 true (av h v22) fun v23=>gK v18 true (eD v23 (.int .i64 (-2))) fun v24=>bZ v18 v24 (.bool false) fun v25=>gK v25 true (ay 1 x1) fun v26=>gK v25 true (av h v26) fun v27=>gK v25 true (dO h 8 v27 (.int .i64 0)) fun v28=>gK v25 true (ay 6 v28) fun v29=>gK v25 true (av h v29) fun v30=>gK v25 true (gJ v30) fun v31=>gK v25 true (eD v31 (.int .i64 2)) fun v32=>bZ v25 v32 (.bool false) fun v33=>gK v33 true (bP (some v10)) fun v34=>gK v33 true (eD v34 (.int .i64 20)) fun v35=>bZ v33 v35 (.bool false) fun v36=>gK v36 true (bP (some v9)) fun v37=>gK v36 true (eD v37 (.int .i64 4)) fun v38=>bZ v36 v38 (.bool false) fun v39=>K v39 h
def NT:G H1:=fun c n x8 h K=>
 kg 0 x8 fun v2=>kg 1 x8 fun v3=>kg 2 x8 fun v4=>bT h [.ah, .ah, .ah] 3 fun v5 h=>aL h 3 v5 v2 fun h=>c (.func 6) [(.str [114,117,108,101])] h <| pz K fun v7 h=>Nr c n v5 v4 v7 h K
def s9:G H0:=fun c n h K=>
 c (.func 6) [(.str [114,117,108,101,32,34,114,34,32,115,97,108,105,101,110,99,101,32,45,50,32,119,104,101,110,32,36,112,32,58,32,80,40,120,32,62,32,49,44,32,36,121,32,58,32,121,41,32,110,111,116,32,40,81,40,122,32,61,61,32,36,121,41,41,32,116,104,101,110,32,105,110,115,101,114,116,32,82,32,123,32,97,32,61,32,36,121,32,43,32,49,32,125,59,32,101,110,100])] h <| pz K fun v1 h=>NT c n v1 h K
def zi:G H1:=fun c n x21 h K=>
 kg 0 x21 fun v8=>kg 1 x21 fun v9=>K (.tup [v8,v9]) h
def Ci:G H3:=fun c n x0 x1 x9 h K=>
 kg 0 x9 fun v2=>kg 1 x9 fun v3=>kg 2 x9 fun v4=>jV v4 (.int .i64 0) fun v5=>aK v5 (K (.tup [v3,v4]) h) (pY x0 fun v6=>c (.func 18) [v2,v6,x1] h <| pz K fun v7 h=>zi c n v7 h K)
def s10:G H2:=fun c n x0 x1 h K=>
 c (.func 7) [x0] h <| pz K fun v1 h=>Ci c n x0 x1 v1 h K
def JO:G H2:=fun c n x1 x4 h K=>
 aL h 3 x1 x4 fun h=>K (.tup []) h
def s11:G H2:=fun c n x0 x1 h K=>
 c (.func 12) [x0] h <| pz K fun v1 h=>JO c n x1 v1 h K
def UU:G H2:=fun c n x2 x3 h K=>
 bL h 3 x3 fun v36=>aL h 3 x2 v36 fun h=>gI (fM h [(x2,some (true,3))]) h K
set_option maxRecDepth 100000 in
def Wh:G (F3→H3):=fun c n B6 x0 x2 x3 h K=>
 bG x0 fun v3=>ay 1 v3 fun v4=>av h v4 fun v5=>bG x0 fun v6=>ay 0 v6 fun v7=>av h v7 fun v8=>gJ v8 fun v9=>mE v5 v9 fun v10=>aK v10 (c (.func 19) [x0,(.str [99,108,97,115,115])] h <| pz K fun v11 h=>aK v11 (ay 0 x3 fun v12=>av h v12 fun v13=>c (.func 20) [x0] h <| pz K fun v14 h=>av h v12 <| dU v13 <| aW (bE h 1 3 [.str [], .str [], .ah] [(0,v14)]) fun v15 h=>av h v12 <| dU v13 <| qU h 3 56 v13 v15 fun v16 h=>ay 0 x3 fun v17=>bH h v17 v16 fun h=>B6 x0 x2 x3 h) (c (.func 19) [x0,(.str [114,117,108,101])] h <| pz K fun v19 h=>aK v19 (ay 1 x3 fun v20=>av h v20 fun v21=>c (.func 21) [x0] h <| pz K fun v22 h=>av h v20 <| dU v21 <| aW (bE h 1 8 [.str [], .int .i64 0, .str [], .str [], .bool false, .bool false, .ah, .ah] [(0,v22)]) fun v23 h=>av h v20 <| dU v21 <| qU h 8 112 v21 v23 fun v24 h=>ay 1 x3 fun v25=>bH h v25 v24 fun h=>B6 x0 x2 x3 h) (aW (bE h 1 1 [.str []] [(0,(.str [113,117,101,114,121]))]) fun v27 h=>c (.func 22) [x0,v27] h <| pz K fun v28 h=>ay 2 x3 fun v29=>av h v29 fun v30=>c (.func 23) [x0] h <| pz K fun v31 h=>av h v29 <| dU v30 <| aW (bE h 1 3 [.str [], .ah, .ah] [(0,v31)]) fun v32 h=>av h v29 <| dU v30 <| qU h 3 64 v30 v32 fun v33 h=>ay 2 x3 fun v34=>bH h v34 v33 fun h=>B6 x0 x2 x3 h))) (UU c n x2 x3 h K)
def RV:G (Nat→H3):=fun c n=>
 @Nat.rec (fun _=>H3) (fun _ _ _ _ _=>false) (fun _ ih x0 x2 x3 h K=>Wh c n (fun x0 x2 x3 h=>ih x0 x2 x3 h K) x0 x2 x3 h K)
def s12:G H1:=fun c n x0 h K=>
 bT h [.ah, .ah, .ah] 3 fun v1 h=>bT h [.ah, .ah, .ah] 3 fun v2 h=>RV c n n x0 v1 v2 h K
def NY:G (F3→H3):=fun c n B14 x0 x1 x5 h K=>
 gJ x0 fun v4=>mE x5 v4 fun v5=>aK v5 (dO h 3 x0 x5 fun v6=>bL h 3 v6 fun v7=>dO h 3 x1 x5 fun v8=>bL h 3 v8 fun v9=>bP (EN h true (.agg [.str, .int, .str]) v7 v9) fun v10=>aK v10 (K (.bool false) h) (gQ x5 (.int .i64 1) fun v11=>B14 x0 x1 v11 h)) (K (.bool true) h)
def Kl:G (Nat→H3):=fun c n=>
 @Nat.rec (fun _=>H3) (fun _ _ _ _ _=>false) (fun _ ih x0 x1 x5 h K=>NY c n (fun x0 x1 x5 h=>ih x0 x1 x5 h K) x0 x1 x5 h K)
def UH:G H2:=fun c n x0 x1 h K=>
 Kl c n n x0 x1 (.int .i64 0) h K
def s14:G H2:=fun c n x0 x1 h K=>
 gJ x0 fun v1=>gJ x1 fun v2=>jV v1 v2 fun v3=>aK v3 (K (.bool false) h) (UH c n x0 x1 h K)
def Nf:G (F3→H3):=fun c n B14 x0 x1 x5 h K=>
 gJ x0 fun v4=>mE x5 v4 fun v5=>aK v5 (dO h 19 x0 x5 fun v6=>bL h 19 v6 fun v7=>dO h 19 x1 x5 fun v8=>bL h 19 v8 fun v9=>c (.func 25) [v7,v9] h <| pz K fun v10 h=>mD v10 fun v11=>aK v11 (K (.bool false) h) (gQ x5 (.int .i64 1) fun v12=>B14 x0 x1 v12 h)) (K (.bool true) h)
def Kr:G (Nat→H3):=fun c n=>
 @Nat.rec (fun _=>H3) (fun _ _ _ _ _=>false) (fun _ ih x0 x1 x5 h K=>Nf c n (fun x0 x1 x5 h=>ih x0 x1 x5 h K) x0 x1 x5 h K)
def UE:G H2:=fun c n x0 x1 h K=>
 Kr c n n x0 x1 (.int .i64 0) h K
def s15:G H2:=fun c n x0 x1 h K=>
 gJ x0 fun v1=>gJ x1 fun v2=>jV v1 v2 fun v3=>aK v3 (K (.bool false) h) (UE c n x0 x1 h K)
def SY:G (F3→H3):=fun c n B14 x0 x1 x5 h K=>
 gQ x5 (.int .i64 1) fun v77=>B14 x0 x1 v77 h
def Nb:G (F3→F6→H6):=fun c n B14 B38 x0 x1 x5 x6 x7 x8 h K=>
 ay 2 x6 fun v46=>av h v46 fun v47=>gJ v47 fun v48=>mE x8 v48 fun v49=>aK v49 (ay 2 x6 fun v50=>av h v50 fun v51=>dO h 9 v51 x8 fun v52=>ay 0 v52 fun v53=>av h v53 fun v54=>ay 2 x7 fun v55=>av h v55 fun v56=>dO h 9 v56 x8 fun v57=>ay 0 v57 fun v58=>av h v58 fun v59=>jV v54 v59 fun v60=>gK v60 false (ay 2 x6) fun v61=>gK v60 false (av h v61) fun v62=>gK v60 false (bP (some x8)) fun v63=>gK v60 false (dO h 9 v62 v63) fun v64=>gK v60 false (ay 1 v64) fun v65=>gK v60 false (bL h 8 v65) fun v66=>gK v60 false (ay 2 x7) fun v67=>gK v60 false (av h v67) fun v68=>gK v60 false (bP (some x8)) fun v69=>gK v60 false (dO h 9 v68 v69) fun v70=>gK v60 false (ay 1 v70) fun v71=>gK v60 false (bL h 8 v71) fun v72=>gP v60 false (fun k=>c (.func 26) [v66,v72] h (pz K k)) h fun v73 h=>gK v60 false (mD v73) fun v74=>bZ v60 (.bool true) v74 fun v75=>aK v75 (K (.bool false) h) (gQ x8 (.int .i64 1) fun v76=>B38 x0 x1 x5 x6 x7 v76 h)) (SY c n B14 x0 x1 x5 h K)
def Jg:G (F3→Nat→H6):=fun c n B14=>
 @Nat.rec (fun _=>H6) (fun _ _ _ _ _ _ _ _=>false) (fun _ ih x0 x1 x5 x6 x7 x8 h K=>Nb c n B14 (fun x0 x1 x5 x6 x7 x8 h=>ih x0 x1 x5 x6 x7 x8 h K) x0 x1 x5 x6 x7 x8 h K)
def Uu:G (F3→H5):=fun c n B14 x0 x1 x5 x6 x7 h K=>
 Jg c n B14 n x0 x1 x5 x6 x7 (.int .i64 0) h K
def DI:G (F3→H7):=fun c n B14 x0 x1 x5 x6 x7 x47 x52 h K=>
 gK x47 false (mD x52) fun v36=>bZ x47 (.bool true) v36 fun v37=>gK v37 false (ay 2 x6) fun v38=>gK v37 false (av h v38) fun v39=>gK v37 false (gJ v39) fun v40=>gK v37 false (ay 2 x7) fun v41=>gK v37 false (av h v41) fun v42=>gK v37 false (gJ v42) fun v43=>gK v37 false (jV v40 v43) fun v44=>bZ v37 (.bool true) v44 fun v45=>aK v45 (K (.bool false) h) (Uu c n B14 x0 x1 x5 x6 x7 h K)
def UN:G (F3→H3):=fun c n B14 x0 x1 x5 h K=>
 dO h 12 x0 x5 fun v6=>bL h 12 v6 fun v7=>bT h [.int .i64 0, .str [], .ah, .int .i64 0, .str [], .int .i64 0, .bool false, .int .i64 0, .str [], .ah, .ah, .str []] 12 fun v8 h=>aL h 12 v8 v7 fun h=>dO h 12 x1 x5 fun v10=>bL h 12 v10 fun v11=>bT h [.int .i64 0, .str [], .ah, .int .i64 0, .str [], .int .i64 0, .bool false, .int .i64 0, .str [], .ah, .ah, .str []] 12 fun v12 h=>aL h 12 v12 v11 fun h=>ay 0 v8 fun v14=>av h v14 fun v15=>ay 0 v12 fun v16=>av h v16 fun v17=>jV v15 v17 fun v18=>gK v18 false (ay 1 v8) fun v19=>gK v18 false (av h v19) fun v20=>gK v18 false (ay 1 v12) fun v21=>gK v18 false (av h v21) fun v22=>gK v18 false (jV v20 v22) fun v23=>bZ v18 (.bool true) v23 fun v24=>gK v24 false (ay 11 v8) fun v25=>gK v24 false (av h v25) fun v26=>gK v24 false (ay 11 v12) fun v27=>gK v24 false (av h v27) fun v28=>gK v24 false (jV v26 v28) fun v29=>bZ v24 (.bool true) v29 fun v30=>gK v30 false (ay 3 v8) fun v31=>gK v30 false (bL h 8 v31) fun v32=>gK v30 false (ay 3 v12) fun v33=>gK v30 false (bL h 8 v33) fun v34=>gP v30 false (fun k=>c (.func 26) [v32,v34] h (pz K k)) h fun v35 h=>DI c n B14 x0 x1 x5 v8 v12 v30 v35 h K
def Nc:G (F3→H3):=fun c n B14 x0 x1 x5 h K=>
 gJ x0 fun v4=>mE x5 v4 fun v5=>aK v5 (UN c n B14 x0 x1 x5 h K) (K (.bool true) h)
def Jt:G (Nat→H3):=fun c n=>
 @Nat.rec (fun _=>H3) (fun _ _ _ _ _=>false) (fun _ ih x0 x1 x5 h K=>Nc c n (fun x0 x1 x5 h=>ih x0 x1 x5 h K) x0 x1 x5 h K)
def Ul:G H2:=fun c n x0 x1 h K=>
 Jt c n n x0 x1 (.int .i64 0) h K
def s16:G H2:=fun c n x0 x1 h K=>
 gJ x0 fun v1=>gJ x1 fun v2=>jV v1 v2 fun v3=>aK v3 (K (.bool false) h) (Ul c n x0 x1 h K)
def N7:G (F3→H3):=fun c n B14 x0 x1 x5 h K=>
 gJ x0 fun v4=>mE x5 v4 fun v5=>aK v5 (dO h 1 x0 x5 fun v6=>av h v6 fun v7=>dO h 1 x1 x5 fun v8=>av h v8 fun v9=>jV v7 v9 fun v10=>aK v10 (K (.bool false) h) (gQ x5 (.int .i64 1) fun v11=>B14 x0 x1 v11 h)) (K (.bool true) h)
def JC:G (Nat→H3):=fun c n=>
 @Nat.rec (fun _=>H3) (fun _ _ _ _ _=>false) (fun _ ih x0 x1 x5 h K=>N7 c n (fun x0 x1 x5 h=>ih x0 x1 x5 h K) x0 x1 x5 h K)
def TF:G H2:=fun c n x0 x1 h K=>
 JC c n n x0 x1 (.int .i64 0) h K
def s17:G H2:=fun c n x0 x1 h K=>
 gJ x0 fun v1=>gJ x1 fun v2=>jV v1 v2 fun v3=>aK v3 (K (.bool false) h) (TF c n x0 x1 h K)
def Ji:G H2:=fun c n x0 x7 h K=>
 mD x7 fun v2=>aK v2 (K (.bool false) h) (bG x0 fun v3=>ay 1 v3 fun v4=>av h v4 fun v5=>gQ v5 (.int .i64 1) fun v6=>bG x0 fun v7=>ay 1 v7 fun v8=>bH h v8 v6 fun h=>K (.bool true) h)
def s19:G H2:=fun c n x0 x1 h K=>
 c (.func 30) [x0,(.int .i64 0),x1] h <| pz K fun v1 h=>Ji c n x0 v1 h K
def NK:G H3:=fun c n x0 x2 x3 h K=>
 c (.func 35) [x0,(.str [125])] h <| pz K fun v33 h=>bL h 3 x3 fun v34=>aL h 3 x2 v34 fun h=>gI (fM h [(x2,some (true,3))]) h K
def sJ:G (F4→H7):=fun c n B16 x0 x2 x3 x21 x24 x27 x29 h K=>
 gK x24 true (bZ x27 (.bool true) x29) fun v23=>gK x21 false (bZ x24 v23 (.bool false)) fun v24=>bZ x21 (.bool true) v24 fun v25=>aK v25 (ay 2 x3 fun v26=>av h v26 fun v27=>c (.func 34) [x0] h <| pz K fun v28 h=>av h v26 <| dU v27 <| aW (bE h 1 3 [.str [], .int .i64 0, .str []] [(0,v28)]) fun v29 h=>av h v26 <| dU v27 <| qU h 3 40 v27 v29 fun v30 h=>ay 2 x3 fun v31=>bH h v31 v30 fun h=>B16 x0 x2 x3 (.bool false) h) (NK c n x0 x2 x3 h K)
def sj:G (F4→H6):=fun c n B16 x0 x2 x3 x21 x24 x26 h K=>
 gK x24 true (bP (some x26)) fun v20=>gK v20 false (bP (some x0)) fun v21=>gP v20 false (fun k=>c (.func 33) [v21,(.int .i64 0)] h (pz K k)) h fun v22 h=>sJ c n B16 x0 x2 x3 x21 x24 v20 v22 h K
def zL:G (F4→H6):=fun c n B16 x0 x2 x3 x4 x16 x18 h K=>
 gK x16 true (mD x18) fun v13=>bZ x16 v13 (.bool false) fun v14=>gK v14 false (bP (some x4)) fun v15=>gK v14 false (mD v15) fun v16=>gK v14 false (bP (some v16)) fun v17=>gK v17 true (bP (some x0)) fun v18=>gP v17 true (fun k=>c (.func 19) [v18,(.str [44])] h (pz K k)) h fun v19 h=>sj c n B16 x0 x2 x3 v14 v17 v19 h K
def NW:G (F4→H4):=fun c n B16 x0 x2 x3 x4 h K=>
 gK x4 true (bP (some x0)) fun v11=>gP x4 true (fun k=>c (.func 30) [v11,(.int .i64 0),(.str [125])] h (pz K k)) h fun v12 h=>zL c n B16 x0 x2 x3 x4 x4 v12 h K
def DN:G (Nat→H4):=fun c n=>
 @Nat.rec (fun _=>H4) (fun _ _ _ _ _ _=>false) (fun _ ih x0 x2 x3 x4 h K=>NW c n (fun x0 x2 x3 x4 h=>ih x0 x2 x3 x4 h K) x0 x2 x3 x4 h K)
def Jv:G H3:=fun c n x0 x2 x3 h K=>
 c (.func 32) [x0,(.str [123])] h <| pz K fun v10 h=>DN c n n x0 x2 x3 (.bool true) h K
def IB:G H4:=fun c n x0 x2 x3 x11 h K=>
 ay 1 x3 fun v8=>bH h v8 x11 fun h=>Jv c n x0 x2 x3 h K
def KJ:G H3:=fun c n x0 x2 x6 h K=>
 dP [.str [], .str [], .ah] [(0,1,x6)] fun v3=>bT h [.str [], .str [], .ah] 3 fun v4 h=>aL h 3 v4 v3 fun h=>c (.func 19) [x0,(.str [101,120,116,101,110,100,115])] h <| pz K fun v6 h=>aK v6 (c (.func 31) [x0] h <| pz K fun v7 h=>IB c n x0 x2 v4 v7 h K) (Jv c n x0 x2 v4 h K)
def s20:G H1:=fun c n x0 h K=>
 bT h [.str [], .str [], .ah] 3 fun v1 h=>c (.func 31) [x0] h <| pz K fun v2 h=>KJ c n x0 v1 v2 h K
def DT:G (F3→H4):=fun c n B6 x0 x2 x3 x18 h K=>
 ay 1 x3 fun v10=>bH h v10 x18 fun h=>B6 x0 x2 x3 h
def DC:G (F3→H4):=fun c n B6 x0 x2 x3 x24 h K=>
 ay 2 x3 fun v14=>bH h v14 x24 fun h=>B6 x0 x2 x3 h
def DW:G (F3→H4):=fun c n B6 x0 x2 x3 x30 h K=>
 ay 3 x3 fun v18=>bH h v18 x30 fun h=>B6 x0 x2 x3 h
def TR:G H2:=fun c n x2 x3 h K=>
 bL h 8 x3 fun v42=>aL h 8 x2 v42 fun h=>gI (fM h [(x2,some (true,8))]) h K
def yT:G (F3→H4):=fun c n B40 x0 x2 x3 x44 h K=>
 mD x44 fun v34=>aK v34 (ay 7 x3 fun v35=>av h v35 fun v36=>c (.func 39) [x0] h <| pz K fun v37 h=>av h v35 <| dU v36 <| aW (bE h 1 12 [.int .i64 0, .str [], .ah, .int .i64 0, .str [], .int .i64 0, .bool false, .int .i64 0, .str [], .ah, .ah, .str []] [(0,v37)]) fun v38 h=>av h v35 <| dU v36 <| qU h 12 176 v36 v38 fun v39 h=>ay 7 x3 fun v40=>bH h v40 v39 fun h=>B40 x0 x2 x3 h) (TR c n x2 x3 h K)
def Ow:G (F3→H3):=fun c n B40 x0 x2 x3 h K=>
 c (.func 19) [x0,(.str [101,110,100])] h <| pz K fun v33 h=>yT c n B40 x0 x2 x3 v33 h K
def IZ:G (Nat→H3):=fun c n=>
 @Nat.rec (fun _=>H3) (fun _ _ _ _ _=>false) (fun _ ih x0 x2 x3 h K=>Ow c n (fun x0 x2 x3 h=>ih x0 x2 x3 h K) x0 x2 x3 h K)
def Ep:G H4:=fun c n x0 x2 x3 x38 h K=>
 ay 6 x3 fun v29=>bH h v29 x38 fun h=>aW (bE h 1 1 [.str []] [(0,(.str [116,104,101,110]))]) fun v31 h=>c (.func 22) [x0,v31] h <| pz K fun v32 h=>IZ c n n x0 x2 x3 h K
def UW:G H3:=fun c n x0 x2 x3 h K=>
 aW (bE h 1 1 [.str []] [(0,(.str [116,104,101,110]))]) fun v27 h=>c (.func 38) [x0,v27] h <| pz K fun v28 h=>Ep c n x0 x2 x3 v28 h K
def ze:G (F3→H4):=fun c n B6 x0 x2 x3 x8 h K=>
 mD x8 fun v7=>aK v7 (c (.func 19) [x0,(.str [115,97,108,105,101,110,99,101])] h <| pz K fun v8 h=>aK v8 (c (.func 37) [x0] h <| pz K fun v9 h=>DT c n B6 x0 x2 x3 v9 h K) (c (.func 19) [x0,(.str [103,114,111,117,112])] h <| pz K fun v12 h=>aK v12 (c (.func 36) [x0] h <| pz K fun v13 h=>DC c n B6 x0 x2 x3 v13 h K) (c (.func 19) [x0,(.str [102,108,111,119])] h <| pz K fun v16 h=>aK v16 (c (.func 36) [x0] h <| pz K fun v17 h=>DW c n B6 x0 x2 x3 v17 h K) (c (.func 19) [x0,(.str [110,111,108,111,111,112])] h <| pz K fun v20 h=>aK v20 (ay 4 x3 fun v21=>bH h v21 (.bool true) fun h=>B6 x0 x2 x3 h) (aW (bE h 1 1 [.str []] [(0,(.str [108,111,99,107]))]) fun v23 h=>c (.func 22) [x0,v23] h <| pz K fun v24 h=>ay 5 x3 fun v25=>bH h v25 (.bool true) fun h=>B6 x0 x2 x3 h))))) (UW c n x0 x2 x3 h K)
def V8:G (F3→H3):=fun c n B6 x0 x2 x3 h K=>
 c (.func 19) [x0,(.str [119,104,101,110])] h <| pz K fun v6 h=>ze c n B6 x0 x2 x3 v6 h K
def Rp:G (Nat→H3):=fun c n=>
 @Nat.rec (fun _=>H3) (fun _ _ _ _ _=>false) (fun _ ih x0 x2 x3 h K=>V8 c n (fun x0 x2 x3 h=>ih x0 x2 x3 h K) x0 x2 x3 h K)
def IL:G H3:=fun c n x0 x2 x5 h K=>
 dP [.str [], .int .i64 0, .str [], .str [], .bool false, .bool false, .ah, .ah] [(0,1,x5)] fun v3=>bT h [.str [], .int .i64 0, .str [], .str [], .bool false, .bool false, .ah, .ah] 8 fun v4 h=>aL h 8 v4 v3 fun h=>Rp c n n x0 x2 v4 h K
def s21:G H1:=fun c n x0 h K=>
 bT h [.str [], .int .i64 0, .str [], .str [], .bool false, .bool false, .ah, .ah] 8 fun v1 h=>c (.func 36) [x0] h <| pz K fun v2 h=>IL c n x0 v1 v2 h K
def D6:G (F4→H6):=fun c n B3 x0 x6 x7 x8 x12 x15 h K=>
 c (.func 29) [x12,x15] h <| pz K fun v6 h=>gQ x8 (.int .i64 1) fun v7=>B3 x0 x6 x7 v7 h
def P8:G (F4→H4):=fun c n B3 x0 x6 x7 x8 h K=>
 mE x8 x7 fun v2=>aK v2 (dO h 1 x6 x8 fun v3=>av h v3 fun v4=>c (.func 19) [x0,v4] h <| pz K fun v5 h=>D6 c n B3 x0 x6 x7 x8 x0 v5 h K) (K (.tup []) h)
def Li:G (Nat→H4):=fun c n=>
 @Nat.rec (fun _=>H4) (fun _ _ _ _ _ _=>false) (fun _ ih x0 x6 x7 x8 h K=>P8 c n (fun x0 x6 x7 x8 h=>ih x0 x6 x7 x8 h K) x0 x6 x7 x8 h K)
def s22:G H2:=fun c n x0 x1 h K=>
 gJ x1 fun v1=>Li c n n x0 x1 v1 (.int .i64 0) h K
def Dy:G H4:=fun c n x1 x2 x3 x14 h K=>
 ay 2 x3 fun v16=>bH h v16 x14 fun h=>av h x1 fun v18=>aW (bE h 1 1 [.str []] [(0,(.str [101,110,100]))]) fun v19 h=>c (.func 22) [v18,v19] h <| pz K fun v20 h=>bL h 3 x3 fun v21=>aL h 3 x2 v21 fun h=>gI (fM h [(x2,some (true,3))]) h K
def J9:G H3:=fun c n x1 x2 x5 h K=>
 dP [.str [], .ah, .ah] [(0,1,x5)] fun v5=>bT h [.str [], .ah, .ah] 3 fun v6 h=>aL h 3 v6 v5 fun h=>av h x1 fun v8=>c (.func 32) [v8,(.str [40])] h <| pz K fun v9 h=>av h x1 fun v10=>bP (some (.fn (.func 41) [] [v6,x1])) fun v11=>c (.func 40) [v10,(.str [41]),v11] h <| pz K fun v12 h=>av h x1 fun v13=>aW (bE h 1 1 [.str []] [(0,(.str [101,110,100]))]) fun v14 h=>c (.func 38) [v13,v14] h <| pz K fun v15 h=>Dy c n x1 x2 v6 v15 h K
def s23:G H1:=fun c n x0 h K=>
 FH h x0 fun v1 h=>bT h [.str [], .ah, .ah] 3 fun v2 h=>av h v1 fun v3=>c (.func 31) [v3] h <| pz K fun v4 h=>J9 c n v1 v2 v4 h K
def s24:G H1:=fun c n x0 h K=>
 FH h x0 fun v1 h=>bP (some (.fn (.func 43) [] [v1])) fun v2=>K v2 h
def Ew:G H2:=fun c n x138 x143 h K=>
 bZ x138 x143 (.bool false) fun v121=>K v121 h
def Eb:G H4:=fun c n x2 x3 x131 x136 h K=>
 bZ x131 x136 (.bool false) fun v115=>gK v115 true (ay 8 x2) fun v116=>gK v115 true (bL h 8 v116) fun v117=>gK v115 true (ay 8 x3) fun v118=>gK v115 true (bL h 8 v118) fun v119=>gP v115 true (fun k=>c (.func 26) [v117,v119] h (pz K k)) h fun v120 h=>Ew c n v115 v120 h K
def FI:G H4:=fun c n x2 x3 x124 x129 h K=>
 bZ x124 x129 (.bool false) fun v109=>gK v109 true (ay 7 x2) fun v110=>gK v109 true (av h v110) fun v111=>gK v109 true (ay 7 x3) fun v112=>gK v109 true (av h v112) fun v113=>gP v109 true (fun k=>c (.func 47) [v111,v113] h (pz K k)) h fun v114 h=>Eb c n x2 x3 v109 v114 h K
def EY:G H4:=fun c n x2 x3 x117 x122 h K=>
 bZ x117 x122 (.bool false) fun v103=>gK v103 true (ay 6 x2) fun v104=>gK v103 true (av h v104) fun v105=>gK v103 true (ay 6 x3) fun v106=>gK v103 true (av h v106) fun v107=>gP v103 true (fun k=>c (.func 15) [v105,v107] h (pz K k)) h fun UZ h=>FI c n x2 x3 v103 UZ h K
def DX:G H3:=fun c n x2 x3 x116 h K=>
 gK x116 true (ay 5 x2) fun v98=>gK x116 true (av h v98) fun v99=>gK x116 true (ay 5 x3) fun v100=>gK x116 true (av h v100) fun v101=>gP x116 true (fun k=>c (.func 15) [v99,v101] h (pz K k)) h fun YG h=>EY c n x2 x3 x116 YG h K
def ND:G H2:=fun c n x2 x3 h K=>
 ay 4 x2 fun v93=>av h v93 fun v94=>ay 4 x3 fun v95=>av h v95 fun v96=>c (.func 46) [v94,v96] h <| pz K fun v97 h=>DX c n x2 x3 v97 h K
def Np:G (F3→H3):=fun c n B35 x2 x3 x6 h K=>
 ay 18 x2 fun v62=>av h v62 fun v63=>gJ v63 fun v64=>mE x6 v64 fun v65=>aK v65 (ay 18 x2 fun v66=>av h v66 fun v67=>dO h 9 v67 x6 fun v68=>ay 0 v68 fun v69=>av h v69 fun v70=>ay 18 x3 fun v71=>av h v71 fun v72=>dO h 9 v72 x6 fun v73=>ay 0 v73 fun v74=>av h v74 fun v75=>jV v70 v75 fun v76=>gK v76 false (ay 18 x2) fun v77=>gK v76 false (av h v77) fun v78=>gK v76 false (bP (some x6)) fun v79=>gK v76 false (dO h 9 v78 v79) fun v80=>gK v76 false (ay 1 v80) fun v81=>gK v76 false (bL h 8 v81) fun v82=>gK v76 false (ay 18 x3) fun v83=>gK v76 false (av h v83) fun v84=>gK v76 false (bP (some x6)) fun v85=>gK v76 false (dO h 9 v84 v85) fun v86=>gK v76 false (ay 1 v86) fun v87=>gK v76 false (bL h 8 v87) fun v88=>gP v76 false (fun k=>c (.func 26) [v82,v88] h (pz K k)) h fun v89 h=>gK v76 false (mD v89) fun v90=>bZ v76 (.bool true) v90 fun v91=>aK v91 (K (.bool false) h) (gQ x6 (.int .i64 1) fun v92=>B35 x2 x3 v92 h)) (ND c n x2 x3 h K)
def Io:G (Nat→H3):=fun c n=>
 @Nat.rec (fun _=>H3) (fun _ _ _ _ _=>false) (fun _ ih x2 x3 x6 h K=>Np c n (fun x2 x3 x6 h=>ih x2 x3 x6 h K) x2 x3 x6 h K)
def Oa:G H2:=fun c n x2 x3 h K=>
 Io c n n x2 x3 (.int .i64 0) h K
def NZ:G (F3→H3):=fun c n B14 x2 x3 x5 h K=>
 ay 3 x2 fun v48=>av h v48 fun v49=>gJ v49 fun v50=>mE x5 v50 fun v51=>aK v51 (ay 3 x2 fun v52=>av h v52 fun v53=>dO h 2 v53 x5 fun v54=>bL h 2 v54 fun v55=>ay 3 x3 fun v56=>av h v56 fun v57=>dO h 2 v57 x5 fun v58=>bL h 2 v58 fun v59=>bP (EN h true (.agg [.str, .str]) v55 v59) fun v60=>aK v60 (K (.bool false) h) (gQ x5 (.int .i64 1) fun v61=>B14 x2 x3 v61 h)) (Oa c n x2 x3 h K)
def Jh:G (Nat→H3):=fun c n=>
 @Nat.rec (fun _=>H3) (fun _ _ _ _ _=>false) (fun _ ih x2 x3 x5 h K=>NZ c n (fun x2 x3 x5 h=>ih x2 x3 x5 h K) x2 x3 x5 h K)
def Tx:G H2:=fun c n x2 x3 h K=>
 Jh c n n x2 x3 (.int .i64 0) h K
set_option maxRecDepth 100000 in
def s25:G H2:=fun c n x0 x1 h K=>
 aW (nK h (none) 19 x0) fun v1 h=>aW (nK h (none) 19 x1) fun v2 h=>ay 0 v1 fun v3=>av h v3 fun v4=>ay 0 v2 fun v5=>av h v5 fun v6=>jV v4 v6 fun v7=>gK v7 false (ay 1 v1) fun v8=>gK v7 false (av h v8) fun v9=>gK v7 false (ay 1 v2) fun v10=>gK v7 false (av h v10) fun v11=>gK v7 false (jV v9 v11) fun v12=>bZ v7 (.bool true) v12 fun v13=>gK v13 false (ay 2 v1) fun v14=>gK v13 false (av h v14) fun v15=>gK v13 false (ay 2 v2) fun v16=>gK v13 false (av h v16) fun v17=>gK v13 false (jV v15 v17) fun v18=>bZ v13 (.bool true) v18 fun v19=>gK v19 false (ay 16 v1) fun v20=>gK v19 false (av h v20) fun v21=>gK v19 false (ay 16 v2) fun v22=>gK v19 false (av h v22) fun v23=>gK v19 false (jV v21 v23) fun v24=>bZ v19 (.bool true) v24 fun v25=>gK v25 false (ay 17 v1) fun v26=>gK v25 false (av h v26) fun v27=>gK v25 false (ay 17 v2) fun v28=>gK v25 false (av h v28) fun v29=>gK v25 false (jV v27 v29) fun v30=>bZ v25 (.bool true) v30 fun v31=>gK v31 false (ay 3 v1) fun v32=>gK v31 false (av h v32) fun v33=>gK v31 false (gJ v33) fun v34=>gK v31 false (ay 3 v2) fun v35=>gK v31 false (av h v35) fun v36=>gK v31 false (gJ v36) fun v37=>gK v31 false (jV v34 v37) fun v38=>bZ v31 (.bool true) v38 fun v39=>gK v39 false (ay 18 v1) fun v40=>gK v39 false (av h v40) fun v41=>gK v39 false (gJ v41) fun v42=>gK v39 false (ay 18 v2) fun v43=>gK v39 false (av h v43) fun v44=>gK v39 false (gJ v44) fun v45=>gK v39 false (jV v42 v45) fun v46=>bZ v39 (.bool true) v46 fun v47=>aK v47 (K (.bool false) h) (Tx c n v1 v2 h K)
def Jr:G H2:=fun c n x24 x29 h K=>
 bZ x24 x29 (.bool false) fun v25=>K v25 h
def HV:G H4:=fun c n x2 x3 x17 x22 h K=>
 bZ x17 x22 (.bool false) fun v19=>gK v19 true (ay 7 x2) fun v20=>gK v19 true (av h v20) fun v21=>gK v19 true (ay 7 x3) fun v22=>gK v19 true (av h v22) fun v23=>gP v19 true (fun k=>c (.func 46) [v21,v23] h (pz K k)) h fun v24 h=>Jr c n v19 v24 h K
def s26:G H2:=fun c n x0 x1 h K=>
 aW (nK h (none) 8 x0) fun v1 h=>aW (nK h (none) 8 x1) fun v2 h=>ay 0 v1 fun v3=>av h v3 fun v4=>ay 0 v2 fun v5=>av h v5 fun v6=>eD v4 v6 fun v7=>gK v7 true (ay 1 v1) fun v8=>gK v7 true (av h v8) fun v9=>gK v7 true (ay 1 v2) fun v10=>gK v7 true (av h v10) fun v11=>gK v7 true (eD v9 v11) fun v12=>bZ v7 v12 (.bool false) fun v13=>gK v13 true (ay 2 v1) fun v14=>gK v13 true (bL h 5 v14) fun v15=>gK v13 true (ay 2 v2) fun v16=>gK v13 true (bL h 5 v16) fun v17=>gP v13 true (fun k=>c (.func 48) [v15,v17] h (pz K k)) h fun v18 h=>HV c n v1 v2 v13 v18 h K
set_option maxRecDepth 100000 in
def s28:G H0:=fun c n h K=>
 aW (yL h) fun v1 h=>aW (yL h) fun v2 h=>aW (unit (lq h (.leaf .str) v2 (.str [124,124]) (.int .i64 9))) fun _ h=>aW (unit (lq h (.leaf .int) v1 (.int .i64 0) v2)) fun _ h=>aW (yL h) fun v5 h=>aW (unit (lq h (.leaf .str) v5 (.str [38,38]) (.int .i64 8))) fun _ h=>aW (unit (lq h (.leaf .int) v1 (.int .i64 1) v5)) fun _ h=>aW (yL h) fun v8 h=>aW (unit (lq h (.leaf .str) v8 (.str [61,61]) (.int .i64 10))) fun _ h=>aW (unit (lq h (.leaf .str) v8 (.str [33,61]) (.int .i64 11))) fun _ h=>aW (unit (lq h (.leaf .str) v8 (.str [60]) (.int .i64 12))) fun _ h=>aW (unit (lq h (.leaf .str) v8 (.str [60,61]) (.int .i64 13))) fun _ h=>aW (unit (lq h (.leaf .str) v8 (.str [62]) (.int .i64 14))) fun _ h=>aW (unit (lq h (.leaf .str) v8 (.str [62,61]) (.int .i64 15))) fun _ h=>aW (unit (lq h (.leaf .int) v1 (.int .i64 2) v8)) fun _ h=>aW (yL h) fun v16 h=>aW (unit (lq h (.leaf .str) v16 (.str [43]) (.int .i64 16))) fun _ h=>aW (unit (lq h (.leaf .str) v16 (.str [45]) (.int .i64 17))) fun _ h=>aW (unit (lq h (.leaf .int) v1 (.int .i64 3) v16)) fun _ h=>aW (yL h) fun v20 h=>aW (unit (lq h (.leaf .str) v20 (.str [42]) (.int .i64 18))) fun _ h=>aW (unit (lq h (.leaf .str) v20 (.str [47]) (.int .i64 19))) fun _ h=>aW (unit (lq h (.leaf .str) v20 (.str [37]) (.int .i64 20))) fun _ h=>aW (unit (lq h (.leaf .int) v1 (.int .i64 4) v20)) fun _ h=>K v1 h
def JK:G H1:=fun c n x7 h K=>
 c (.func 49) [x7] h <| pz K fun v3 h=>K (.tup []) h
def s29:G H2:=fun c n x0 x1 h K=>
 mD x1 fun v1=>aK v1 (c (.func 50) [x0] h <| pz K fun v2 h=>JK c n v2 h K) (K (.tup []) h)
def sM:G H4:=fun c n x15 x19 x23 x25 h K=>
 gK x19 false (bZ x23 x25 (.bool false)) fun v17=>gK x15 true (bZ x19 (.bool true) v17) fun v18=>bZ x15 v18 (.bool false) fun v19=>K v19 h
def Jk:G H2:=fun c n x2 x10 h K=>
 bT h [.int .i64 0, .str [], .int .i64 0, .int .i64 0] 4 fun v2 h=>aL h 4 v2 x10 fun h=>ay 1 v2 fun v4=>av h v4 fun v5=>eD v5 x2 fun v6=>gK v6 true (ay 0 v2) fun v7=>gK v6 true (av h v7) fun v8=>gK v6 true (eD v8 (.int .i64 4)) fun v9=>gK v6 true (bP (some v9)) fun v10=>gK v10 false (ay 0 v2) fun v11=>gK v10 false (av h v11) fun v12=>gK v10 false (eD v12 (.int .i64 0)) fun v13=>gK v10 false (bP (some v13)) fun v14=>gK v14 true (bP (some x2)) fun v15=>gP v14 true (fun k=>c (.func 52) [v15] h (pz K k)) h fun v16 h=>sM c n v6 v10 v14 v16 h K
def s30:G H3:=fun c n x0 x1 x2 h K=>
 c (.func 51) [x0,x1] h <| pz K fun v1 h=>Jk c n x2 v1 h K
def Cc:G H4:=fun c n x0 x3 x6 x8 h K=>
 gK x6 true (Qd 1 x8) fun v4=>gK x6 true (pY v4) fun v5=>gK x6 true (KU v5 (.int .i64 64)) fun v6=>bZ x6 v6 (.bool false) fun v7=>c (.func 29) [x3,v7] h <| pz K fun v8 h=>c (.func 53) [x0] h <| pz K fun v9 h=>K v9 h
def Ic:G H3:=fun c n x0 x3 x5 h K=>
 gK x5 true (bP (some x0)) fun v2=>gP x5 true (fun k=>c (.func 51) [v2,(.int .i64 0)] h (pz K k)) h fun v3 h=>Cc c n x0 x3 x5 v3 h K
def s31:G H1:=fun c n x0 h K=>
 c (.func 33) [x0,(.int .i64 0)] h <| pz K fun v1 h=>Ic c n x0 x0 v1 h K
def s32:G H2:=fun c n x0 x1 h K=>
 c (.func 50) [x0] h <| pz K fun v1 h=>aW (bE h 1 1 [.str []] [(0,x1)]) fun v2 h=>c (.func 22) [x0,v2] h <| pz K fun v3 h=>c (.func 54) [x0,v1] h <| pz K fun v4 h=>K (.tup []) h
def xV:G H2:=fun c n x12 x15 h K=>
 gK x12 true (mD x15) fun v10=>bZ x12 v10 (.bool false) fun v11=>K v11 h
def J2:G H1:=fun c n x8 h K=>
 bT h [.int .i64 0, .str [], .int .i64 0, .int .i64 0] 4 fun v2 h=>aL h 4 v2 x8 fun h=>ay 0 v2 fun v4=>av h v4 fun v5=>eD v5 (.int .i64 0) fun v6=>gK v6 true (ay 1 v2) fun v7=>gK v6 true (av h v7) fun v8=>gP v6 true (fun k=>c (.func 52) [v8] h (pz K k)) h fun v9 h=>xV c n v6 v9 h K
def s33:G H2:=fun c n x0 x1 h K=>
 c (.func 51) [x0,x1] h <| pz K fun v1 h=>J2 c n v1 h K
def uN:G H2:=fun c n x2 x3 h K=>
 bL h 3 x3 fun v11=>aL h 3 x2 v11 fun h=>gI (fM h [(x2,some (true,3))]) h K
def Ec:G H3:=fun c n x2 x3 x14 h K=>
 ay 1 x3 fun v28=>bH h v28 (.int .i64 5) fun h=>ay 2 x3 fun v30=>bH h v30 x14 fun h=>uN c n x2 x3 h K
def Hu:G H3:=fun c n x0 x2 x5 h K=>
 dP [.str [], .int .i64 0, .str []] [(0,1,x5)] fun v3=>bT h [.str [], .int .i64 0, .str []] 3 fun v4 h=>aL h 3 v4 v3 fun h=>aW (bE h 1 1 [.str []] [(0,(.str [58]))]) fun v6 h=>c (.func 22) [x0,v6] h <| pz K fun v7 h=>c (.func 19) [x0,(.str [105,110,116])] h <| pz K fun v8 h=>aK v8 (ay 1 v4 fun v9=>bH h v9 (.int .i64 2) fun h=>uN c n x2 v4 h K) (c (.func 19) [x0,(.str [98,111,111,108])] h <| pz K fun v13 h=>aK v13 (ay 1 v4 fun v14=>bH h v14 (.int .i64 1) fun h=>uN c n x2 v4 h K) (c (.func 19) [x0,(.str [116,101,120,116])] h <| pz K fun v16 h=>aK v16 (ay 1 v4 fun v17=>bH h v17 (.int .i64 3) fun h=>uN c n x2 v4 h K) (c (.func 19) [x0,(.str [108,105,115,116])] h <| pz K fun v19 h=>aK v19 (ay 1 v4 fun v20=>bH h v20 (.int .i64 4) fun h=>uN c n x2 v4 h K) (c (.func 19) [x0,(.str [97,110,121])] h <| pz K fun v22 h=>aK v22 (ay 1 v4 fun v23=>bH h v23 (.int .i64 0) fun h=>uN c n x2 v4 h K) (aW (bE h 1 1 [.str []] [(0,(.str [114,101,102]))]) fun v25 h=>c (.func 22) [x0,v25] h <| pz K fun v26 h=>c (.func 31) [x0] h <| pz K fun v27 h=>Ec c n x2 v4 v27 h K)))))
def s34:G H1:=fun c n x0 h K=>
 bT h [.str [], .int .i64 0, .str []] 3 fun v1 h=>c (.func 31) [x0] h <| pz K fun v2 h=>Hu c n x0 v1 v2 h K
def s35:G H2:=fun c n x0 x1 h K=>
 aW (bE h 1 1 [.str []] [(0,x1)]) fun v1 h=>c (.func 22) [x0,v1] h <| pz K fun v2 h=>bG x0 fun v3=>ay 3 v3 fun v4=>av h v4 fun v5=>K8 v5 (.int .i64 1) fun v6=>bG x0 fun v7=>ay 3 v7 fun v8=>bH h v8 v6 fun h=>K (.tup []) h
def Il:G H3:=fun c n x0 x3 x5 h K=>
 c (.func 29) [x3,x5] h <| pz K fun v2 h=>c (.func 53) [x0] h <| pz K fun v3 h=>K v3 h
def s36:G H1:=fun c n x0 h K=>
 c (.func 55) [x0,(.int .i64 3)] h <| pz K fun v1 h=>Il c n x0 x0 v1 h K
def Ck:G H3:=fun c n x0 x3 x16 h K=>
 kg 0 x16 fun v7=>kg 1 x16 fun v8=>bP (EN h false .ifn v8 .iX) fun v9=>gK v9 true (bP (some v7)) fun v10=>gK v9 true (KU v10 (.int .i64 2147483648)) fun v11=>bZ v9 v11 (.bool false) fun v12=>c (.func 29) [x0,v12] h <| pz K fun v13 h=>bG x0 fun v14=>ay 1 v14 fun v15=>av h v15 fun v16=>gQ v16 (.int .i64 1) fun v17=>bG x0 fun v18=>ay 1 v18 fun v19=>bH h v19 v17 fun h=>aK x3 (bP (YI v7) fun v21=>K v21 h) (K v7 h)
def Hz:G H3:=fun c n x0 x3 x14 h K=>
 Qd 1 x14 fun v5=>c (.func 56) [v5,(.int .i64 10),(.int .i64 64)] h <| pz K fun v6 h=>Ck c n x0 x3 v6 h K
def Kj:G H4:=fun c n x0 x3 x8 x10 h K=>
 c (.func 29) [x8,x10] h <| pz K fun v3 h=>c (.func 51) [x0,(.int .i64 0)] h <| pz K fun v4 h=>Hz c n x0 x3 v4 h K
def s37:G H1:=fun c n x0 h K=>
 c (.func 19) [x0,(.str [45])] h <| pz K fun v1 h=>c (.func 55) [x0,(.int .i64 2)] h <| pz K fun v2 h=>Kj c n x0 v1 x0 v2 h K
def FL:G (F3→H4):=fun c n B5 x0 x1 x19 x21 h K=>
 aW (bE h 1 19 [.int .i64 0, .str [], .str [], .ah, .ah, .ah, .ah, .ah, .int .i64 0, .str [], .int .i64 0, .bool false, .int .i64 0, .str [], .ah, .ah, .str [], .str [], .ah] [(0,x21)]) fun v8 h=>qU h 19 328 x19 v8 fun v9 h=>B5 x0 x1 v9 h
def UO:G (F3→H3):=fun c n B5 x0 x1 x5 h K=>
 c (.func 57) [x0] h <| pz K fun v7 h=>FL c n B5 x0 x1 x5 v7 h K
def JN:G (F3→F6→H6):=fun c n B5 B11 x0 x1 x5 x8 x9 x10 h K=>
 mE x10 x9 fun v2=>aK v2 (dO h 1 x8 x10 fun v3=>av h v3 fun v4=>c (.func 30) [x0,(.int .i64 0),v4] h <| pz K fun v5 h=>aK v5 (K x5 h) (gQ x10 (.int .i64 1) fun v6=>B11 x0 x1 x5 x8 x9 v6 h)) (UO c n B5 x0 x1 x5 h K)
def I7:G (F3→Nat→H6):=fun c n B5=>
 @Nat.rec (fun _=>H6) (fun _ _ _ _ _ _ _ _=>false) (fun _ ih x0 x1 x5 x8 x9 x10 h K=>JN c n B5 (fun x0 x1 x5 x8 x9 x10 h=>ih x0 x1 x5 x8 x9 x10 h K) x0 x1 x5 x8 x9 x10 h K)
def VO:G (F3→H3):=fun c n B5 x0 x1 x5 h K=>
 gJ x1 fun v1=>I7 c n B5 n x0 x1 x5 x1 v1 (.int .i64 0) h K
def Js:G (Nat→H3):=fun c n=>
 @Nat.rec (fun _=>H3) (fun _ _ _ _ _=>false) (fun _ ih x0 x1 x5 h K=>VO c n (fun x0 x1 x5 h=>ih x0 x1 x5 h K) x0 x1 x5 h K)
def s38:G H2:=fun c n x0 x1 h K=>
 Js c n n x0 x1 .ah h K
def uO:G H3:=fun c n x0 x2 x3 h K=>
 aW (bE h 1 1 [.str []] [(0,(.str [59]))]) fun v16 h=>c (.func 22) [x0,v16] h <| pz K fun v17 h=>bL h 12 x3 fun v18=>aL h 12 x2 v18 fun h=>gI (fM h [(x2,some (true,12))]) h K
def Fz:G H4:=fun c n x0 x2 x3 x22 h K=>
 ay 2 x3 fun v14=>bH h v14 x22 fun h=>uO c n x0 x2 x3 h K
def DJ:G H4:=fun c n x0 x2 x3 x19 h K=>
 ay 1 x3 fun v11=>bH h v11 x19 fun h=>c (.func 58) [x0,(.int .i64 0)] h <| pz K fun v13 h=>Fz c n x0 x2 x3 v13 h K
def HZ:G H3:=fun c n x0 x2 x3 h K=>
 c (.func 31) [x0] h <| pz K fun v10 h=>DJ c n x0 x2 x3 v10 h K
def zA:G H4:=fun c n x0 x2 x3 x15 h K=>
 eD x15 (.str [108,111,103,105,99,97,108]) fun v7=>aK v7 (ay 0 x3 fun v8=>bH h v8 (.int .i64 2) fun h=>HZ c n x0 x2 x3 h K) (HZ c n x0 x2 x3 h K)
def Ej:G H4:=fun c n x0 x2 x3 x32 h K=>
 ay 2 x3 fun v27=>bH h v27 x32 fun h=>uO c n x0 x2 x3 h K
def FU:G H4:=fun c n x0 x2 x3 x28 h K=>
 ay 0 x3 fun v22=>bH h v22 (.int .i64 3) fun h=>ay 3 x3 fun v24=>aL h 8 v24 x28 fun h=>c (.func 58) [x0,(.int .i64 1)] h <| pz K fun v26 h=>Ej c n x0 x2 x3 v26 h K
def DR:G H4:=fun c n x0 x2 x3 x38 h K=>
 ay 0 x3 fun v31=>bH h v31 (.int .i64 4) fun h=>ay 3 x3 fun v33=>aL h 8 v33 x38 fun h=>uO c n x0 x2 x3 h K
def D8:G H4:=fun c n x0 x2 x3 x45 h K=>
 ay 0 x3 fun v37=>bH h v37 (.int .i64 5) fun h=>ay 11 x3 fun v39=>bH h v39 x45 fun h=>uO c n x0 x2 x3 h K
def Et:G H4:=fun c n x0 x2 x3 x52 h K=>
 ay 0 x3 fun v43=>bH h v43 (.int .i64 6) fun h=>ay 3 x3 fun v45=>aL h 8 v45 x52 fun h=>uO c n x0 x2 x3 h K
def JV:G H4:=fun c n x0 x2 x3 x8 h K=>
 aK x8 (ay 0 x3 fun v4=>bH h v4 (.int .i64 1) fun h=>c (.func 53) [x0] h <| pz K fun v6 h=>zA c n x0 x2 x3 v6 h K) (c (.func 19) [x0,(.str [117,112,100,97,116,101])] h <| pz K fun v20 h=>aK v20 (c (.func 59) [x0] h <| pz K fun v21 h=>FU c n x0 x2 x3 v21 h K) (c (.func 19) [x0,(.str [100,101,108,101,116,101])] h <| pz K fun v29 h=>aK v29 (c (.func 59) [x0] h <| pz K fun v30 h=>DR c n x0 x2 x3 v30 h K) (c (.func 19) [x0,(.str [102,111,99,117,115])] h <| pz K fun v35 h=>aK v35 (c (.func 36) [x0] h <| pz K fun v36 h=>D8 c n x0 x2 x3 v36 h K) (c (.func 19) [x0,(.str [112,114,105,110,116])] h <| pz K fun v41 h=>aK v41 (c (.func 59) [x0] h <| pz K fun v42 h=>Et c n x0 x2 x3 v42 h K) (aW (bE h 1 1 [.str []] [(0,(.str [104,97,108,116]))]) fun v47 h=>c (.func 22) [x0,v47] h <| pz K fun v48 h=>ay 0 x3 fun v49=>bH h v49 (.int .i64 7) fun h=>uO c n x0 x2 x3 h K)))))
def s39:G H1:=fun c n x0 h K=>
 bT h [.int .i64 0, .str [], .ah, .int .i64 0, .str [], .int .i64 0, .bool false, .int .i64 0, .str [], .ah, .ah, .str []] 12 fun v1 h=>bT h [.int .i64 0, .str [], .ah, .int .i64 0, .str [], .int .i64 0, .bool false, .int .i64 0, .str [], .ah, .ah, .str []] 12 fun v2 h=>c (.func 30) [x0,(.int .i64 0),(.str [105,110,115,101,114,116])] h <| pz K fun v3 h=>aK v3 (JV c n x0 v1 v2 v3 h K) (c (.func 30) [x0,(.int .i64 0),(.str [108,111,103,105,99,97,108])] h <| pz K fun v51 h=>JV c n x0 v1 v2 v51 h K)
def NM:G H2:=fun c n x0 x1 h K=>
 c (.func 35) [x0,x1] h <| pz K fun v14 h=>K (.tup []) h
def uX:G (F4→H6):=fun c n B4 x0 x1 x2 x14 x17 x19 h K=>
 gK x14 false (bZ x17 x19 (.bool false)) fun v11=>bZ x14 (.bool true) v11 fun v12=>aK v12 (nI c x2 [] h <| pz K fun v13 h=>B4 x0 x1 x2 (.bool false) h) (NM c n x0 x1 h K)
def Ct:G (F4→H6):=fun c n B4 x0 x1 x2 x6 x8 x11 h K=>
 gK x8 true (mD x11) fun v4=>bZ x8 v4 (.bool false) fun v5=>gK v5 false (bP (some x6)) fun v6=>gK v5 false (mD v6) fun v7=>gK v5 false (bP (some v7)) fun v8=>gK v8 true (bP (some x0)) fun v9=>gP v8 true (fun k=>c (.func 19) [v9,(.str [44])] h (pz K k)) h fun v10 h=>uX c n B4 x0 x1 x2 v5 v8 v10 h K
def Xo:G (F4→H4):=fun c n B4 x0 x1 x2 x6 h K=>
 gK x6 true (bP (some x0)) fun v1=>gK x6 true (bP (some x1)) fun v2=>gP x6 true (fun k=>c (.func 30) [v1,(.int .i64 0),v2] h (pz K k)) h fun v3 h=>Ct c n B4 x0 x1 x2 x6 x6 v3 h K
def Mj:G (Nat→H4):=fun c n=>
 @Nat.rec (fun _=>H4) (fun _ _ _ _ _ _=>false) (fun _ ih x0 x1 x2 x6 h K=>Xo c n (fun x0 x1 x2 x6 h=>ih x0 x1 x2 x6 h K) x0 x1 x2 x6 h K)
def s40:G H3:=fun c n x0 x1 x2 h K=>
 Mj c n n x0 x1 x2 (.bool true) h K
def s41:G H2:=fun c n x0 x1 h K=>
 ay 1 x0 fun v1=>av h v1 fun v2=>av h x1 fun v3=>c (.func 42) [v3] h <| pz K fun v4 h=>av h v1 <| dU v2 <| aW (bE h 1 1 [.str []] [(0,v4)]) fun v5 h=>av h v1 <| dU v2 <| av h x1 <| dU v3 <| qU h 1 16 v2 v5 fun v6 h=>ay 1 x0 fun v7=>bH h v7 v6 fun h=>K (.tup []) h
def Dp:G H4:=fun c n x0 x3 x6 x8 h K=>
 gK x6 true (Qd 1 x8) fun v4=>gK x6 true (pY v4) fun v5=>gK x6 true (KU v5 (.int .i64 64)) fun v6=>bZ x6 v6 (.bool false) fun v7=>c (.func 29) [x3,v7] h <| pz K fun v8 h=>c (.func 53) [x0] h <| pz K fun v9 h=>K v9 h
def J6:G H3:=fun c n x0 x3 x5 h K=>
 gK x5 true (bP (some x0)) fun v2=>gP x5 true (fun k=>c (.func 51) [v2,(.int .i64 0)] h (pz K k)) h fun v3 h=>Dp c n x0 x3 x5 v3 h K
def s42:G H1:=fun c n x0 h K=>
 c (.func 55) [x0,(.int .i64 1)] h <| pz K fun v1 h=>J6 c n x0 x0 v1 h K
def yX:G (F2→H3):=fun c n B1 x0 x1 x49 h K=>
 mD x49 fun v47=>aK v47 (K (.tup []) h) (B1 x0 x1 h)
def zJ:G (F2→H3):=fun c n B1 x0 x1 x19 h K=>
 kg 0 x19 fun v15=>kg 1 x19 fun v16=>bT h [.int .i64 0, .str [], .int .i64 0, .int .i64 0] 4 fun v17 h=>aL h 4 v17 v15 fun h=>eD v16 (.int .i64 0) fun v19=>aK v19 (av h x1 fun v20=>bG v20 fun v21=>ay 2 v21 fun v22=>bH h v22 (.bool true) fun h=>K (.tup []) h) (av h x1 fun v24=>bG v24 fun v25=>ay 1 v25 fun v26=>av h v26 fun v27=>av h x1 fun v28=>bG v28 fun v29=>ay 1 v29 fun v30=>av h v30 fun v31=>gQ v31 v16 fun v32=>ay 2 v17 fun v33=>bH h v33 v27 fun h=>av h x1 <| dU v28 <| av h v30 <| dU v31 <| ay 3 v17 fun v35=>bH h v35 v32 fun h=>av h x1 fun v37=>bG v37 fun v38=>ay 1 v38 fun v39=>av h v39 fun v40=>gQ v40 v16 fun v41=>bG v37 fun v42=>ay 1 v42 fun v43=>bH h v43 v41 fun h=>bL h 4 v17 fun v45=>nI c x0 [v45] h <| pz K fun v46 h=>yX c n B1 x0 x1 v46 h K)
def abJ:G (F2→H2):=fun c n B1 x0 x1 h K=>
 av h x1 fun v1=>c (.func 44) [v1] h <| pz K fun v2 h=>av h x1 fun v3=>bG v3 fun v4=>ay 1 v4 fun v5=>av h v5 fun v6=>av h x1 fun v7=>bG v7 fun v8=>ay 0 v8 fun v9=>av h v9 fun v10=>pY v10 fun v11=>FP v6 v11 fun v12=>aK v12 (K (.tup []) h) (av h x1 fun v13=>c (.func 45) [v13] h <| pz K fun v14 h=>zJ c n B1 x0 x1 v14 h K)
def Xz:G (Nat→H2):=fun c n=>
 @Nat.rec (fun _=>H2) (fun _ _ _ _=>false) (fun _ ih x0 x1 h K=>abJ c n (fun x0 x1 h=>ih x0 x1 h K) x0 x1 h K)
def s43:G H2:=fun c n x0 x1 h K=>
 Xz c n n x0 x1 h K
def IK:G (F1→H2):=fun c n B0 x0 x3 h K=>
 bG x0 fun v41=>ay 1 v41 fun v42=>av h v42 fun v43=>gQ v43 x3 fun v44=>bG x0 fun v45=>ay 1 v45 fun v46=>bH h v46 v44 fun h=>B0 x0 h
def EF:G (F1→H3):=fun c n B0 x0 x31 x33 h K=>
 gK x31 true (eD x33 (.int .u8 47)) fun v22=>bZ x31 v22 (.bool false) fun v23=>aK v23 (bG x0 fun v24=>ay 0 v24 fun v25=>av h v25 fun v26=>bG x0 fun v27=>ay 1 v27 fun v28=>av h v28 fun v29=>Iq v26 (some v29) none fun v30=>c (.func 61) [v30,(.int .u8 10)] h <| pz K fun v31 h=>mE v31 (.int .i64 0) fun v32=>aK v32 (bG x0 fun v33=>ay 0 v33 fun v34=>av h v34 fun v35=>pY v35 fun v36=>bG x0 fun v37=>ay 1 v37 fun v38=>av h v38 fun v39=>K8 v36 v39 fun v40=>IK c n B0 x0 v40 h K) (IK c n B0 x0 v31 h K)) (K (.tup []) h)
def QZ:G (F1→H1):=fun c n B0 x0 h K=>
 c (.func 60) [x0,(.int .i64 0)] h <| pz K fun v1 h=>eD v1 (.int .u8 32) fun v2=>gK v2 false (bP (some v1)) fun v3=>gK v2 false (eD v3 (.int .u8 9)) fun v4=>bZ v2 (.bool true) v4 fun v5=>gK v5 false (bP (some v1)) fun v6=>gK v5 false (eD v6 (.int .u8 13)) fun v7=>bZ v5 (.bool true) v7 fun v8=>gK v8 false (bP (some v1)) fun v9=>gK v8 false (eD v9 (.int .u8 10)) fun v10=>bZ v8 (.bool true) v10 fun v11=>aK v11 (bG x0 fun v12=>ay 1 v12 fun v13=>av h v13 fun v14=>gQ v14 (.int .i64 1) fun v15=>bG x0 fun v16=>ay 1 v16 fun v17=>bH h v17 v15 fun h=>B0 x0 h) (eD v1 (.int .u8 47) fun v19=>gK v19 true (bP (some x0)) fun v20=>gP v19 true (fun k=>c (.func 60) [v20,(.int .i64 1)] h (pz K k)) h fun v21 h=>EF c n B0 x0 v19 v21 h K)
def P6:G (Nat→H1):=fun c n=>
 @Nat.rec (fun _=>H1) (fun _ _ _=>false) (fun _ ih x0 h K=>QZ c n (fun x0 h=>ih x0 h K) x0 h K)
def UF:G (F1→H2):=fun c n B0 x0 x3 h K=>
 bG x0 fun v88=>ay 1 v88 fun v89=>av h v89 fun v90=>gQ v90 x3 fun v91=>bG x0 fun v92=>ay 1 v92 fun v93=>bH h v93 v91 fun h=>B0 x0 h
def Mc:G (F1→H3):=fun c n B0 x0 x31 x33 h K=>
 gK x31 true (eD x33 (.int .u8 47)) fun v69=>bZ x31 v69 (.bool false) fun v70=>aK v70 (bG x0 fun v71=>ay 0 v71 fun v72=>av h v72 fun v73=>bG x0 fun v74=>ay 1 v74 fun v75=>av h v75 fun v76=>Iq v73 (some v76) none fun v77=>c (.func 61) [v77,(.int .u8 10)] h <| pz K fun v78 h=>mE v78 (.int .i64 0) fun v79=>aK v79 (bG x0 fun v80=>ay 0 v80 fun v81=>av h v81 fun v82=>pY v82 fun v83=>bG x0 fun v84=>ay 1 v84 fun v85=>av h v85 fun v86=>K8 v83 v86 fun v87=>UF c n B0 x0 v87 h K) (UF c n B0 x0 v78 h K)) (K (.tup []) h)
def adV:G (F1→H1):=fun c n B0 x0 h K=>
 c (.func 60) [x0,(.int .i64 0)] h <| pz K fun v48 h=>eD v48 (.int .u8 32) fun v49=>gK v49 false (bP (some v48)) fun v50=>gK v49 false (eD v50 (.int .u8 9)) fun v51=>bZ v49 (.bool true) v51 fun v52=>gK v52 false (bP (some v48)) fun v53=>gK v52 false (eD v53 (.int .u8 13)) fun v54=>bZ v52 (.bool true) v54 fun v55=>gK v55 false (bP (some v48)) fun v56=>gK v55 false (eD v56 (.int .u8 10)) fun v57=>bZ v55 (.bool true) v57 fun v58=>aK v58 (bG x0 fun v59=>ay 1 v59 fun v60=>av h v60 fun v61=>gQ v61 (.int .i64 1) fun v62=>bG x0 fun v63=>ay 1 v63 fun v64=>bH h v64 v62 fun h=>B0 x0 h) (eD v48 (.int .u8 47) fun v66=>gK v66 true (bP (some x0)) fun v67=>gP v66 true (fun k=>c (.func 60) [v67,(.int .i64 1)] h (pz K k)) h fun v68 h=>Mc c n B0 x0 v66 v68 h K)
def s44:G H1:=fun c n x0 h K=>
 adV c n (pF1 (pC1 (P6 c n n) K)) x0 h K
def Mf:G H3:=fun c n x2 x3 x18 h K=>
 dP [.int .i64 0, .str [], .int .i64 0, .int .i64 0] [(0,1,(.int .i64 0)),(1,1,x18)] fun v10=>aL h 4 x2 v10 fun h=>gI (fM h [(x2,some (true,4)),(x3,none)]) h K
def LY:G H3:=fun c n x2 x3 x30 h K=>
 dP [.int .i64 0, .str [], .int .i64 0, .int .i64 0] [(0,1,(.int .i64 1)),(1,1,x30)] fun v17=>gQ x3 (.int .i64 1) fun v18=>aL h 4 x2 v17 fun h=>gI (fM h [(x2,some (true,4)),(v18,none)]) h K
def LU:G H3:=fun c n x2 x3 x42 h K=>
 dP [.int .i64 0, .str [], .int .i64 0, .int .i64 0] [(0,1,(.int .i64 2)),(1,1,x42)] fun v26=>aL h 4 x2 v26 fun h=>gI (fM h [(x2,some (true,4)),(x3,none)]) h K
def zk:G H2:=fun c n x2 x50 h K=>
 kg 0 x50 fun v31=>kg 1 x50 fun v32=>dP [.int .i64 0, .str [], .int .i64 0, .int .i64 0] [(0,1,(.int .i64 3)),(1,1,v31)] fun v33=>aL h 4 x2 v33 fun h=>gI (fM h [(x2,some (true,4)),(v32,none)]) h K
def MX:G H3:=fun c n x2 x3 x60 h K=>
 dP [.int .i64 0, .str [], .int .i64 0, .int .i64 0] [(0,1,(.int .i64 4)),(1,1,x60)] fun v38=>aL h 4 x2 v38 fun h=>gI (fM h [(x2,some (true,4)),(x3,none)]) h K
def s45:G H1:=fun c n x0 h K=>
 FH h x0 fun v1 h=>bT h [.int .i64 0, .str [], .int .i64 0, .int .i64 0] 4 fun v2 h=>bP (some (.fn (.func 62) [] [v1])) fun v3=>av h v1 fun v4=>c (.func 60) [v4,(.int .i64 0)] h <| pz K fun v5 h=>c (.func 63) [v5] h <| pz K fun v6 h=>aK v6 (av h v1 fun v7=>c (.func 64) [v7,(.int .i64 0)] h <| pz K fun v8 h=>nI c v3 [(.int .i64 0),v8] h <| pz K fun v9 h=>Mf c n v2 v8 v9 h K) (eD v5 (.int .u8 36) fun v12=>aK v12 (av h v1 fun v13=>c (.func 64) [v13,(.int .i64 1)] h <| pz K fun v14 h=>Jd v14 (.int .i64 0) fun v15=>aK v15 (nI c v3 [(.int .i64 1),v14] h <| pz K fun v16 h=>LY c n v2 v14 v16 h K) (bL h 4 v2 fun v20=>aL h 4 v2 v20 fun h=>gI (fM h [(v2,some (true,4)),((.int .i64 0),none)]) h K)) (c (.func 65) [v5] h <| pz K fun v22 h=>aK v22 (av h v1 fun v23=>c (.func 66) [v23,(.int .i64 0),(.fn (.func 65) [] [])] h <| pz K fun v24 h=>nI c v3 [(.int .i64 0),v24] h <| pz K fun v25 h=>LU c n v2 v24 v25 h K) (eD v5 (.int .u8 34) fun v28=>aK v28 (av h v1 fun v29=>c (.func 67) [v29] h <| pz K fun v30 h=>zk c n v2 v30 h K) (av h v1 fun v35=>c (.func 68) [v35] h <| pz K fun v36 h=>nI c v3 [(.int .i64 0),v36] h <| pz K fun v37 h=>MX c n v2 v36 v37 h K))))
def Nw:G (F3→H3):=fun c n B14 x0 x1 x5 h K=>
 gJ x0 fun v4=>mE x5 v4 fun v5=>aK v5 (dO h 8 x0 x5 fun v6=>bL h 8 v6 fun v7=>dO h 8 x1 x5 fun v8=>bL h 8 v8 fun v9=>c (.func 26) [v7,v9] h <| pz K fun v10 h=>mD v10 fun v11=>aK v11 (K (.bool false) h) (gQ x5 (.int .i64 1) fun v12=>B14 x0 x1 v12 h)) (K (.bool true) h)
def Hw:G (Nat→H3):=fun c n=>
 @Nat.rec (fun _=>H3) (fun _ _ _ _ _=>false) (fun _ ih x0 x1 x5 h K=>Nw c n (fun x0 x1 x5 h=>ih x0 x1 x5 h K) x0 x1 x5 h K)
def Um:G H2:=fun c n x0 x1 h K=>
 Hw c n n x0 x1 (.int .i64 0) h K
def s46:G H2:=fun c n x0 x1 h K=>
 gJ x0 fun v1=>gJ x1 fun v2=>jV v1 v2 fun v3=>aK v3 (K (.bool false) h) (Um c n x0 x1 h K)
def Nv:G (F3→H3):=fun c n B14 x0 x1 x5 h K=>
 gJ x0 fun v4=>mE x5 v4 fun v5=>aK v5 (dO h 1 x0 x5 fun v6=>av h v6 fun v7=>dO h 1 x1 x5 fun v8=>av h v8 fun v9=>c (.func 15) [v7,v9] h <| pz K fun v10 h=>mD v10 fun v11=>aK v11 (K (.bool false) h) (gQ x5 (.int .i64 1) fun v12=>B14 x0 x1 v12 h)) (K (.bool true) h)
def Iw:G (Nat→H3):=fun c n=>
 @Nat.rec (fun _=>H3) (fun _ _ _ _ _=>false) (fun _ ih x0 x1 x5 h K=>Nv c n (fun x0 x1 x5 h=>ih x0 x1 x5 h K) x0 x1 x5 h K)
def SQ:G H2:=fun c n x0 x1 h K=>
 Iw c n n x0 x1 (.int .i64 0) h K
def s47:G H2:=fun c n x0 x1 h K=>
 gJ x0 fun v1=>gJ x1 fun v2=>jV v1 v2 fun v3=>aK v3 (K (.bool false) h) (SQ c n x0 x1 h K)
def KI:G H2:=fun c n x31 x36 h K=>
 bZ x31 x36 (.bool false) fun v31=>K v31 h
def s48:G H2:=fun c n x0 x1 h K=>
 aW (nK h (none) 5 x0) fun v1 h=>aW (nK h (none) 5 x1) fun v2 h=>ay 0 v1 fun v3=>av h v3 fun v4=>ay 0 v2 fun v5=>av h v5 fun v6=>eD v4 v6 fun v7=>gK v7 true (ay 1 v1) fun v8=>gK v7 true (av h v8) fun v9=>gK v7 true (ay 1 v2) fun v10=>gK v7 true (av h v10) fun v11=>gK v7 true (bP (EN h false .bool v9 v11)) fun v12=>bZ v7 v12 (.bool false) fun v13=>gK v13 true (ay 2 v1) fun v14=>gK v13 true (av h v14) fun v15=>gK v13 true (ay 2 v2) fun v16=>gK v13 true (av h v16) fun v17=>gK v13 true (eD v15 v17) fun v18=>bZ v13 v18 (.bool false) fun v19=>gK v19 true (ay 3 v1) fun v20=>gK v19 true (av h v20) fun v21=>gK v19 true (ay 3 v2) fun v22=>gK v19 true (av h v22) fun v23=>gK v19 true (eD v21 v23) fun v24=>bZ v19 v24 (.bool false) fun v25=>gK v25 true (ay 4 v1) fun v26=>gK v25 true (av h v26) fun v27=>gK v25 true (ay 4 v2) fun v28=>gK v25 true (av h v28) fun v29=>gP v25 true (fun k=>c (.func 69) [v27,v29] h (pz K k)) h fun v30 h=>KI c n v25 v30 h K
def s49:G H1:=fun c n x0 h K=>
 dP [.int .i64 0] [(0,1,x0)] fun v1=>bP (Pf 93 v1) fun v2=>abt K v2 h
def s50:G H1:=fun c n x0 h K=>
 bG x0 fun v1=>ay 1 v1 fun v2=>av h v2 fun v3=>bG x0 fun v4=>ay 0 v4 fun v5=>av h v5 fun v6=>gJ v6 fun v7=>mE v3 v7 fun v8=>aK v8 (bG x0 fun v9=>ay 0 v9 fun v10=>av h v10 fun v11=>bG x0 fun v12=>ay 1 v12 fun v13=>av h v13 fun v14=>dO h 4 v11 v14 fun v15=>ay 2 v15 fun v16=>av h v16 fun v17=>K v17 h) (bG x0 fun v18=>ay 2 v18 fun v19=>av h v19 fun v20=>K v20 h)
def s51:G H2:=fun c n x0 x1 h K=>
 bT h [.int .i64 0, .str [], .int .i64 0, .int .i64 0] 4 fun v1 h=>bG x0 fun v2=>ay 1 v2 fun v3=>av h v3 fun v4=>gQ v4 x1 fun v5=>bG x0 fun v6=>ay 0 v6 fun v7=>av h v7 fun v8=>gJ v8 fun v9=>mE v5 v9 fun v10=>aK v10 (bG x0 fun v11=>ay 0 v11 fun v12=>av h v12 fun v13=>bG x0 fun v14=>ay 1 v14 fun v15=>av h v15 fun v16=>gQ v16 x1 fun v17=>dO h 4 v13 v17 fun v18=>bL h 4 v18 fun v19=>aL h 4 v1 v19 fun h=>gI (fM h [(v1,some (true,4))]) h K) (dP [.int .i64 0, .str [], .int .i64 0, .int .i64 0] [(0,1,(.int .i64 (-1)))] fun v21=>aL h 4 v1 v21 fun h=>gI (fM h [(v1,some (true,4))]) h K)
def dX:G H1:=fun c n x4 h K=>
 aK x4 (K (.bool true) h) (K (.bool false) h)
set_option maxRecDepth 100000 in
def s52:G H1:=fun c n x0 h K=>
 eD x0 (.str [99,108,97,115,115]) fun v1=>aK v1 (dX c n v1 h K) (eD x0 (.str [101,120,116,101,110,100,115]) fun v2=>aK v2 (dX c n v2 h K) (eD x0 (.str [114,117,108,101]) fun v3=>aK v3 (dX c n v3 h K) (eD x0 (.str [113,117,101,114,121]) fun v4=>aK v4 (dX c n v4 h K) (eD x0 (.str [119,104,101,110]) fun v5=>aK v5 (dX c n v5 h K) (eD x0 (.str [116,104,101,110]) fun v6=>aK v6 (dX c n v6 h K) (eD x0 (.str [101,110,100]) fun v7=>aK v7 (dX c n v7 h K) (eD x0 (.str [115,97,108,105,101,110,99,101]) fun v8=>aK v8 (dX c n v8 h K) (eD x0 (.str [103,114,111,117,112]) fun v9=>aK v9 (dX c n v9 h K) (eD x0 (.str [102,108,111,119]) fun v10=>aK v10 (dX c n v10 h K) (eD x0 (.str [110,111,108,111,111,112]) fun v11=>aK v11 (dX c n v11 h K) (eD x0 (.str [108,111,99,107]) fun v12=>aK v12 (dX c n v12 h K) (eD x0 (.str [110,111,116]) fun v13=>aK v13 (dX c n v13 h K) (eD x0 (.str [101,120,105,115,116,115]) fun v14=>aK v14 (dX c n v14 h K) (eD x0 (.str [102,111,114,97,108,108]) fun v15=>aK v15 (dX c n v15 h K) (eD x0 (.str [111,114]) fun v16=>aK v16 (dX c n v16 h K) (eD x0 (.str [102,114,111,109]) fun v17=>aK v17 (dX c n v17 h K) (eD x0 (.str [101,118,97,108]) fun v18=>aK v18 (dX c n v18 h K) (eD x0 (.str [97,99,99]) fun v19=>aK v19 (dX c n v19 h K) (eD x0 (.str [111,118,101,114]) fun v20=>aK v20 (dX c n v20 h K) (eD x0 (.str [105,110,115,101,114,116]) fun v21=>aK v21 (dX c n v21 h K) (eD x0 (.str [108,111,103,105,99,97,108]) fun v22=>aK v22 (dX c n v22 h K) (eD x0 (.str [117,112,100,97,116,101]) fun v23=>aK v23 (dX c n v23 h K) (eD x0 (.str [100,101,108,101,116,101]) fun v24=>aK v24 (dX c n v24 h K) (eD x0 (.str [102,111,99,117,115]) fun v25=>aK v25 (dX c n v25 h K) (eD x0 (.str [112,114,105,110,116]) fun v26=>aK v26 (dX c n v26 h K) (eD x0 (.str [104,97,108,116]) fun v27=>aK v27 (dX c n v27 h K) (eD x0 (.str [116,114,117,101]) fun v28=>aK v28 (dX c n v28 h K) (eD x0 (.str [102,97,108,115,101]) fun v29=>aK v29 (dX c n v29 h K) (eD x0 (.str [110,117,108,108]) fun v30=>aK v30 (dX c n v30 h K) (eD x0 (.str [115,105,122,101]) fun v31=>aK v31 (dX c n v31 h K) (eD x0 (.str [104,97,115]) fun v32=>aK v32 (dX c n v32 h K) (eD x0 (.str [105,110,116]) fun v33=>aK v33 (dX c n v33 h K) (eD x0 (.str [98,111,111,108]) fun v34=>aK v34 (dX c n v34 h K) (eD x0 (.str [116,101,120,116]) fun v35=>aK v35 (dX c n v35 h K) (eD x0 (.str [108,105,115,116]) fun v36=>aK v36 (dX c n v36 h K) (eD x0 (.str [97,110,121]) fun v37=>aK v37 (dX c n v37 h K) (eD x0 (.str [114,101,102]) fun v38=>dX c n v38 h K)))))))))))))))))))))))))))))))))))))
def s53:G H1:=fun c n x0 h K=>
 bG x0 fun v1=>ay 1 v1 fun v2=>av h v2 fun v3=>gQ v3 (.int .i64 1) fun v4=>bG x0 fun v5=>ay 1 v5 fun v6=>bH h v6 v4 fun h=>bG x0 fun v8=>ay 0 v8 fun v9=>av h v9 fun v10=>bG x0 fun v11=>ay 1 v11 fun v12=>av h v12 fun v13=>K8 v13 (.int .i64 1) fun v14=>dO h 4 v10 v14 fun v15=>ay 1 v15 fun v16=>av h v16 fun v17=>K v17 h
def s54:G H2:=fun c n x0 x1 h K=>
 bG x0 fun v1=>ay 3 v1 fun v2=>av h v2 fun v3=>gQ v3 (.int .i64 1) fun v4=>bG x0 fun v5=>ay 3 v5 fun v6=>bH h v6 v4 fun h=>bG x0 fun v8=>ay 3 v8 fun v9=>av h v9 fun v10=>Jd v10 (.int .i64 30) fun v11=>aK v11 (c (.func 49) [x1] h <| pz K fun v12 h=>K (.tup []) h) (K (.tup []) h)
def Ih:G H2:=fun c n x1 x6 h K=>
 Qd 0 x6 fun v2=>eD v2 x1 fun v3=>K v3 h
def s55:G H2:=fun c n x0 x1 h K=>
 c (.func 51) [x0,(.int .i64 0)] h <| pz K fun v1 h=>Ih c n x1 v1 h K
def H9:G H2:=fun c n x2 x10 h K=>
 dP [.int .i64 0, .str [], .str [], .ah, .ah, .ah, .ah, .ah, .int .i64 0, .str [], .int .i64 0, .bool false, .int .i64 0, .str [], .ah, .ah, .str [], .str [], .ah] [(0,1,(.int .i64 2)),(5,1,x10)] fun v4=>aL h 19 x2 v4 fun h=>gI (fM h [(x2,some (true,19))]) h K
def Ef:G H2:=fun c n x2 x16 h K=>
 dP [.int .i64 0, .str [], .str [], .ah, .ah, .ah, .ah, .ah, .int .i64 0, .str [], .int .i64 0, .bool false, .int .i64 0, .str [], .ah, .ah, .str [], .str [], .ah] [(0,1,(.int .i64 3)),(5,1,x16)] fun v8=>aL h 19 x2 v8 fun h=>gI (fM h [(x2,some (true,19))]) h K
def Fh:G H4:=fun c n x0 x2 x3 x32 h K=>
 ay 6 x3 fun v21=>bH h v21 x32 fun h=>c (.func 35) [x0,(.str [41])] h <| pz K fun v23 h=>bL h 19 x3 fun v24=>aL h 19 x2 v24 fun h=>gI (fM h [(x2,some (true,19))]) h K
def EO:G H3:=fun c n x0 x2 x25 h K=>
 dP [.int .i64 0, .str [], .str [], .ah, .ah, .ah, .ah, .ah, .int .i64 0, .str [], .int .i64 0, .bool false, .int .i64 0, .str [], .ah, .ah, .str [], .str [], .ah] [(0,1,(.int .i64 4)),(5,1,x25)] fun v14=>bT h [.int .i64 0, .str [], .str [], .ah, .ah, .ah, .ah, .ah, .int .i64 0, .str [], .int .i64 0, .bool false, .int .i64 0, .str [], .ah, .ah, .str [], .str [], .ah] 19 fun v15 h=>aL h 19 v15 v14 fun h=>aW (bE h 1 1 [.str []] [(0,(.str [59]))]) fun v17 h=>c (.func 22) [x0,v17] h <| pz K fun v18 h=>aW (bE h 1 1 [.str []] [(0,(.str [41]))]) fun v19 h=>c (.func 73) [x0,v19] h <| pz K fun v20 h=>Fh c n x0 x2 v15 v20 h K
def Fu:G H2:=fun c n x2 x41 h K=>
 aL h 19 x2 x41 fun h=>gI (fM h [(x2,some (true,19))]) h K
def E9:G H3:=fun c n x0 x2 x48 h K=>
 dP [.int .i64 0, .str [], .str [], .ah, .ah, .ah, .ah, .ah, .int .i64 0, .str [], .int .i64 0, .bool false, .int .i64 0, .str [], .ah, .ah, .str [], .str [], .ah] [(0,1,(.int .i64 8)),(8,8,x48)] fun v32=>bT h [.int .i64 0, .str [], .str [], .ah, .ah, .ah, .ah, .ah, .int .i64 0, .str [], .int .i64 0, .bool false, .int .i64 0, .str [], .ah, .ah, .str [], .str [], .ah] 19 fun v33 h=>aL h 19 v33 v32 fun h=>c (.func 35) [x0,(.str [41])] h <| pz K fun v35 h=>bL h 19 v33 fun v36=>aL h 19 x2 v36 fun h=>gI (fM h [(x2,some (true,19))]) h K
def Ea:G H2:=fun c n x2 x57 h K=>
 aL h 19 x2 x57 fun h=>gI (fM h [(x2,some (true,19))]) h K
def ES:G H2:=fun c n x2 x62 h K=>
 aL h 19 x2 x62 fun h=>gI (fM h [(x2,some (true,19))]) h K
def EH:G H3:=fun c n x2 x5 x78 h K=>
 ay 8 x5 fun v56=>aL h 8 v56 x78 fun h=>bL h 19 x5 fun v58=>aL h 19 x2 v58 fun h=>gI (fM h [(x2,some (true,19))]) h K
def Fj:G H3:=fun c n x0 x2 x72 h K=>
 dP [.int .i64 0, .str [], .str [], .ah, .ah, .ah, .ah, .ah, .int .i64 0, .str [], .int .i64 0, .bool false, .int .i64 0, .str [], .ah, .ah, .str [], .str [], .ah] [(0,1,(.int .i64 6)),(1,1,x72)] fun v50=>bT h [.int .i64 0, .str [], .str [], .ah, .ah, .ah, .ah, .ah, .int .i64 0, .str [], .int .i64 0, .bool false, .int .i64 0, .str [], .ah, .ah, .str [], .str [], .ah] 19 fun v51 h=>aL h 19 v51 v50 fun h=>aW (bE h 1 1 [.str []] [(0,(.str [102,114,111,109]))]) fun v53 h=>c (.func 22) [x0,v53] h <| pz K fun v54 h=>c (.func 59) [x0] h <| pz K fun v55 h=>EH c n x2 v51 v55 h K
def y9:G H2:=fun c n x2 x82 h K=>
 aL h 19 x2 x82 fun h=>gI (fM h [(x2,some (true,19))]) h K
def zK:G H4:=fun c n x0 x2 x66 x68 h K=>
 gK x66 true (mD x68) fun v47=>bZ x66 v47 (.bool false) fun v48=>aK v48 (c (.func 42) [x0] h <| pz K fun v49 h=>Fj c n x0 x2 v49 h K) (c (.func 77) [x0] h <| pz K fun v60 h=>y9 c n x2 v60 h K)
def EZ:G H3:=fun c n x0 x2 x65 h K=>
 gK x65 true (bP (some x0)) fun v45=>gP x65 true (fun k=>c (.func 30) [v45,(.int .i64 1),(.str [58])] h (pz K k)) h fun v46 h=>zK c n x0 x2 x65 v46 h K
set_option maxRecDepth 100000 in
def s57:G H1:=fun c n x0 h K=>
 bT h [.int .i64 0, .str [], .str [], .ah, .ah, .ah, .ah, .ah, .int .i64 0, .str [], .int .i64 0, .bool false, .int .i64 0, .str [], .ah, .ah, .str [], .str [], .ah] 19 fun v1 h=>c (.func 19) [x0,(.str [110,111,116])] h <| pz K fun v2 h=>aK v2 (c (.func 72) [x0] h <| pz K fun v3 h=>H9 c n v1 v3 h K) (c (.func 19) [x0,(.str [101,120,105,115,116,115])] h <| pz K fun v6 h=>aK v6 (c (.func 72) [x0] h <| pz K fun v7 h=>Ef c n v1 v7 h K) (c (.func 19) [x0,(.str [102,111,114,97,108,108])] h <| pz K fun v10 h=>aK v10 (c (.func 32) [x0,(.str [40])] h <| pz K fun v11 h=>aW (bE h 1 1 [.str []] [(0,(.str [59]))]) fun v12 h=>c (.func 73) [x0,v12] h <| pz K fun v13 h=>EO c n x0 v1 v13 h K) (c (.func 30) [x0,(.int .i64 0),(.str [40])] h <| pz K fun v26 h=>aK v26 (c (.func 74) [x0] h <| pz K fun v27 h=>Fu c n v1 v27 h K) (c (.func 19) [x0,(.str [101,118,97,108])] h <| pz K fun v29 h=>aK v29 (c (.func 32) [x0,(.str [40])] h <| pz K fun v30 h=>c (.func 59) [x0] h <| pz K fun v31 h=>E9 c n x0 v1 v31 h K) (c (.func 19) [x0,(.str [97,99,99])] h <| pz K fun v38 h=>aK v38 (c (.func 75) [x0] h <| pz K fun v39 h=>Ea c n v1 v39 h K) (c (.func 19) [x0,(.str [63])] h <| pz K fun v41 h=>aK v41 (c (.func 76) [x0] h <| pz K fun v42 h=>ES c n v1 v42 h K) (c (.func 55) [x0,(.int .i64 1)] h <| pz K fun v44 h=>EZ c n x0 v1 v44 h K)))))))
def Kh:G H2:=fun c n x2 x5 h K=>
 av h x2 fun v11=>bP (some (.fn (.func 78) [] [x2,x5])) fun v12=>c (.func 40) [v11,(.str [125]),v12] h <| pz K fun v13 h=>av h x5 fun v14=>K v14 h
def s58:G H2:=fun c n x0 x1 h K=>
 FH h x0 fun v1 h=>bT h [.ah] 1 fun v2 h=>av h v1 fun v3=>c (.func 32) [v3,(.str [123])] h <| pz K fun v4 h=>Jd x1 (.int .i64 0) fun v5=>aK v5 (av h v1 fun v6=>av h v1 fun v7=>c (.func 30) [v7,(.int .i64 0),(.str [125])] h <| pz K fun v8 h=>av h v1 <| dU v6 <| mD v8 fun v9=>c (.func 29) [v6,v9] h <| pz K fun v10 h=>Kh c n v1 v2 h K) (Kh c n v1 v2 h K)
def HY:G H2:=fun c n x2 x4 h K=>
 bP (KV true 0 8 x4) fun v3=>aL h 8 x2 v3 fun h=>gI (fM h [(x2,some (true,8))]) h K
def s59:G H1:=fun c n x0 h K=>
 bT h [.int .i64 0, .str [], .int .i64 0, .bool false, .int .i64 0, .str [], .ah, .ah] 8 fun v1 h=>c (.func 79) [x0,(.int .i64 0)] h <| pz K fun v2 h=>HY c n v1 v2 h K
def s60:G H2:=fun c n x0 x1 h K=>
 bG x0 fun v1=>ay 1 v1 fun v2=>av h v2 fun v3=>gQ v3 x1 fun v4=>bG x0 fun v5=>ay 0 v5 fun v6=>av h v6 fun v7=>pY v7 fun v8=>FP v4 v8 fun v9=>aK v9 (K (.int .u8 0) h) (bG x0 fun v10=>ay 0 v10 fun v11=>av h v11 fun v12=>bG x0 fun v13=>ay 1 v13 fun v14=>av h v14 fun v15=>gQ v15 x1 fun v16=>Gn v12 v16 fun v17=>K v17 h)
def s61:G H2:=fun c n x0 x1 h K=>
 c (.func 80) [x0,x1] h <| pz K fun v1 h=>K v1 h
def s62:G H3:=fun c n x0 x1 x2 h K=>
 av h x2 fun v1=>bG v1 fun v2=>ay 0 v2 fun v3=>av h v3 fun v4=>av h x2 fun v5=>bG v5 fun v6=>ay 1 v6 fun v7=>av h v7 fun v8=>gQ v8 x0 fun v9=>av h x2 fun v10=>bG v10 fun v11=>ay 1 v11 fun v12=>av h v12 fun v13=>gQ v13 x0 fun v14=>gQ v14 x1 fun v15=>Iq v4 (some v9) (some v15) fun v16=>K v16 h
def s63:G H1:=fun c n x0 h K=>
 FP x0 (.int .u8 97) fun v1=>gK v1 true (bP (some x0)) fun v2=>gK v1 true (KU v2 (.int .u8 122)) fun v3=>bZ v1 v3 (.bool false) fun v4=>gK v4 false (bP (some x0)) fun v5=>gK v4 false (FP v5 (.int .u8 65)) fun v6=>gK v4 false (bP (some v6)) fun v7=>gK v7 true (bP (some x0)) fun v8=>gK v7 true (KU v8 (.int .u8 90)) fun v9=>gK v4 false (bZ v7 v9 (.bool false)) fun v10=>bZ v4 (.bool true) v10 fun v11=>K v11 h
def Ke:G H3:=fun c n x0 x1 x8 h K=>
 mD x8 fun v3=>aK v3 (K (.int .i64 0) h) (c (.func 66) [x0,x1,(.fn (.func 81) [] [])] h <| pz K fun v4 h=>K v4 h)
def JE:G H3:=fun c n x0 x1 x7 h K=>
 c (.func 63) [x7] h <| pz K fun v2 h=>Ke c n x0 x1 v2 h K
def s64:G H2:=fun c n x0 x1 h K=>
 c (.func 60) [x0,x1] h <| pz K fun v1 h=>JE c n x0 x1 v1 h K
def s65:G H1:=fun c n x0 h K=>
 FP x0 (.int .u8 48) fun v1=>gK v1 true (bP (some x0)) fun v2=>gK v1 true (KU v2 (.int .u8 57)) fun v3=>bZ v1 v3 (.bool false) fun v4=>K v4 h
def ZH:G (F4→H4):=fun c n B6 x0 x1 x2 x7 h K=>
 bG x0 fun v1=>ay 1 v1 fun v2=>av h v2 fun v3=>gQ v3 x1 fun v4=>gQ v4 x7 fun v5=>bG x0 fun v6=>ay 0 v6 fun v7=>av h v7 fun v8=>pY v8 fun v9=>mE v5 v9 fun v10=>gK v10 true (bP (some x2)) fun v11=>gK v10 true (bP (some x0)) fun v12=>gK v10 true (bG v12) fun v13=>gK v10 true (ay 0 v13) fun v14=>gK v10 true (av h v14) fun v15=>gK v10 true (bP (some x0)) fun v16=>gK v10 true (bG v16) fun v17=>gK v10 true (ay 1 v17) fun v18=>gK v10 true (av h v18) fun v19=>gK v10 true (bP (some x1)) fun v20=>gK v10 true (gQ v19 v20) fun v21=>gK v10 true (bP (some x7)) fun v22=>gK v10 true (gQ v21 v22) fun v23=>gK v10 true (Gn v15 v23) fun v24=>gP v10 true (fun k=>nI c v11 [v24] h (pz K k)) h fun v25 h=>bZ v10 v25 (.bool false) fun v26=>aK v26 (gQ x7 (.int .i64 1) fun v27=>B6 x0 x1 x2 v27 h) (K x7 h)
def U7:G (Nat→H4):=fun c n=>
 @Nat.rec (fun _=>H4) (fun _ _ _ _ _ _=>false) (fun _ ih x0 x1 x2 x7 h K=>ZH c n (fun x0 x1 x2 x7 h=>ih x0 x1 x2 x7 h K) x0 x1 x2 x7 h K)
def s66:G H3:=fun c n x0 x1 x2 h K=>
 U7 c n n x0 x1 x2 (.int .i64 0) h K
def ER:G (F3→H2):=fun c n B8 x5 x30 h K=>
 gQ x5 (.int .i64 1) fun v14=>K (.tup [x30,v14]) h
def JI:G (F3→H3):=fun c n B8 x0 x4 x5 h K=>
 gQ x5 (.int .i64 1) fun v22=>B8 x0 x4 v22 h
def Es:G (F3→H4):=fun c n B8 x0 x4 x5 x40 h K=>
 c (.func 61) [(.str [34,92,110,116]),x40] h <| pz K fun v18 h=>mE v18 (.int .i64 0) fun v19=>aK v19 (K (.tup [(.str []),(.int .i64 0)]) h) (Gn (.str [34,92,10,9]) v18 fun v20=>c (.func 83) [x4,v20] h <| pz K fun v21 h=>JI c n B8 x0 x4 x5 h K)
def abF:G (F3→H3):=fun c n B8 x0 x4 x5 h K=>
 bG x0 fun v2=>ay 1 v2 fun v3=>av h v3 fun v4=>gQ v4 x5 fun v5=>bG x0 fun v6=>ay 0 v6 fun v7=>av h v7 fun v8=>pY v8 fun v9=>mE v5 v9 fun v10=>aK v10 (c (.func 60) [x0,x5] h <| pz K fun v11 h=>eD v11 (.int .u8 34) fun v12=>aK v12 (c (.func 82) [x4] h <| pz K fun v13 h=>ER c n B8 x5 v13 h K) (eD v11 (.int .u8 92) fun v15=>aK v15 (gQ x5 (.int .i64 1) fun v16=>c (.func 60) [x0,v16] h <| pz K fun v17 h=>Es c n B8 x0 x4 v16 v17 h K) (mE v11 (.int .u8 32) fun v23=>aK v23 (K (.tup [(.str []),(.int .i64 0)]) h) (c (.func 83) [x4,v11] h <| pz K fun v24 h=>JI c n B8 x0 x4 x5 h K)))) (K (.tup [(.str []),(.int .i64 0)]) h)
def VI:G (Nat→H3):=fun c n=>
 @Nat.rec (fun _=>H3) (fun _ _ _ _ _=>false) (fun _ ih x0 x4 x5 h K=>abF c n (fun x0 x4 x5 h=>ih x0 x4 x5 h K) x0 x4 x5 h K)
def s67:G H1:=fun c n x0 h K=>
 aW (TM h 143 [.nilPtr, .ah]) fun v1 h=>VI c n n x0 v1 (.int .i64 1) h K
def Ti:G H1:=fun c n x0 h K=>
 bG x0 fun v15=>ay 0 v15 fun v16=>av h v16 fun v17=>bG x0 fun v18=>ay 1 v18 fun v19=>av h v19 fun v20=>Gn v17 v20 fun v21=>c (.func 61) [(.str [40,41,91,93,123,125,44,46,58,59,63,60,62,61,43,45,42,47,37,33]),v21] h <| pz K fun v22 h=>FP v22 (.int .i64 0) fun v23=>aK v23 (K (.int .i64 1) h) (K (.int .i64 0) h)
def aaN:G (F4→H4):=fun c n B6 x0 x5 x6 x7 h K=>
 mE x7 x6 fun v3=>aK v3 (dO h 1 x5 x7 fun v4=>av h v4 fun v5=>bG x0 fun v6=>ay 0 v6 fun v7=>av h v7 fun v8=>bG x0 fun v9=>ay 1 v9 fun v10=>av h v10 fun v11=>Iq v8 (some v11) none fun v12=>c (.func 84) [v12,v5] h <| pz K fun v13 h=>aK v13 (K (.int .i64 2) h) (gQ x7 (.int .i64 1) fun v14=>B6 x0 x5 x6 v14 h)) (Ti c n x0 h K)
def Wz:G (Nat→H4):=fun c n=>
 @Nat.rec (fun _=>H4) (fun _ _ _ _ _ _=>false) (fun _ ih x0 x5 x6 x7 h K=>aaN c n (fun x0 x5 x6 x7 h=>ih x0 x5 x6 x7 h K) x0 x5 x6 x7 h K)
def s68:G H1:=fun c n x0 h K=>
 aW (bE h 6 1 [.str []] [(0,(.str [61,61])),(1,(.str [33,61])),(2,(.str [60,61])),(3,(.str [62,61])),(4,(.str [38,38])),(5,(.str [124,124]))]) fun v1 h=>gJ v1 fun v2=>Wz c n n x0 v1 v2 (.int .i64 0) h K
def OG:G (F3→H3):=fun c n B14 x0 x1 x5 h K=>
 gJ x0 fun v4=>mE x5 v4 fun v5=>aK v5 (dO h 5 x0 x5 fun v6=>bL h 5 v6 fun v7=>dO h 5 x1 x5 fun v8=>bL h 5 v8 fun v9=>c (.func 48) [v7,v9] h <| pz K fun v10 h=>mD v10 fun v11=>aK v11 (K (.bool false) h) (gQ x5 (.int .i64 1) fun v12=>B14 x0 x1 v12 h)) (K (.bool true) h)
def JH:G (Nat→H3):=fun c n=>
 @Nat.rec (fun _=>H3) (fun _ _ _ _ _=>false) (fun _ ih x0 x1 x5 h K=>OG c n (fun x0 x1 x5 h=>ih x0 x1 x5 h K) x0 x1 x5 h K)
def UK:G H2:=fun c n x0 x1 h K=>
 JH c n n x0 x1 (.int .i64 0) h K
def s69:G H2:=fun c n x0 x1 h K=>
 gJ x0 fun v1=>gJ x1 fun v2=>jV v1 v2 fun v3=>aK v3 (K (.bool false) h) (UK c n x0 x1 h K)
def s72:G H1:=fun c n x0 h K=>
 c (.func 32) [x0,(.str [40])] h <| pz K fun v1 h=>aW (bE h 1 1 [.str []] [(0,(.str [41]))]) fun v2 h=>c (.func 73) [x0,v2] h <| pz K fun v3 h=>c (.func 35) [x0,(.str [41])] h <| pz K fun v4 h=>K v3 h
def Jj:G H3:=fun c n x0 x1 x7 h K=>
 bT h [.int .i64 0, .str [], .str [], .ah, .ah, .ah, .ah, .ah, .int .i64 0, .str [], .int .i64 0, .bool false, .int .i64 0, .str [], .ah, .ah, .str [], .str [], .ah] 19 fun v2 h=>aL h 19 v2 x7 fun h=>bL h 19 v2 fun v4=>aW (bE h 1 19 [.int .i64 0, .str [], .str [], .ah, .ah, .ah, .ah, .ah, .int .i64 0, .str [], .int .i64 0, .bool false, .int .i64 0, .str [], .ah, .ah, .str [], .str [], .ah] [(0,v4)]) fun v5 h=>bL h 19 v2 <| dU v4 <| c (.func 38) [x0,x1] h <| pz (um [v5] K) fun v6 h=>bL h 19 v2 <| dU v4 <| qU h 19 328 v5 v6 fun v7 h=>K v7 h
def s73:G H2:=fun c n x0 x1 h K=>
 c (.func 57) [x0] h <| pz K fun v1 h=>Jj c n x0 x1 v1 h K
def Nz:G H3:=fun c n x0 x2 x3 h K=>
 c (.func 35) [x0,(.str [41])] h <| pz K fun v25 h=>bL h 19 x3 fun v26=>aL h 19 x2 v26 fun h=>gI (fM h [(x2,some (true,19))]) h K
def KO:G (F4→H4):=fun c n B14 x0 x2 x3 x4 h K=>
 aK x4 (ay 7 x3 fun v16=>av h v16 fun v17=>aW (bE h 2 1 [.str []] [(0,(.str [111,114])),(1,(.str [41]))]) fun v18 h=>av h v16 <| dU v17 <| c (.func 73) [x0,v18] h <| pz (um [v18] K) fun v19 h=>av h v16 <| dU v17 <| aW (bE h 1 1 [.ah] [(0,v19)]) fun v20 h=>av h v16 <| dU v17 <| qU h 1 24 v17 v20 fun v21 h=>ay 7 x3 fun v22=>bH h v22 v21 fun h=>c (.func 19) [x0,(.str [111,114])] h <| pz K fun v24 h=>B14 x0 x2 x3 v24 h) (Nz c n x0 x2 x3 h K)
def AZ:G (Nat→H4):=fun c n=>
 @Nat.rec (fun _=>H4) (fun _ _ _ _ _ _=>false) (fun _ ih x0 x2 x3 x4 h K=>KO c n (fun x0 x2 x3 x4 h=>ih x0 x2 x3 x4 h K) x0 x2 x3 x4 h K)
def s74:G H1:=fun c n x0 h K=>
 bT h [.int .i64 0, .str [], .str [], .ah, .ah, .ah, .ah, .ah, .int .i64 0, .str [], .int .i64 0, .bool false, .int .i64 0, .str [], .ah, .ah, .str [], .str [], .ah] 19 fun v1 h=>dP [.int .i64 0, .str [], .str [], .ah, .ah, .ah, .ah, .ah, .int .i64 0, .str [], .int .i64 0, .bool false, .int .i64 0, .str [], .ah, .ah, .str [], .str [], .ah] [(0,1,(.int .i64 5))] fun v2=>bT h [.int .i64 0, .str [], .str [], .ah, .ah, .ah, .ah, .ah, .int .i64 0, .str [], .int .i64 0, .bool false, .int .i64 0, .str [], .ah, .ah, .str [], .str [], .ah] 19 fun v3 h=>aL h 19 v3 v2 fun h=>c (.func 32) [x0,(.str [40])] h <| pz K fun v5 h=>ay 7 v3 fun v6=>av h v6 fun v7=>aW (bE h 2 1 [.str []] [(0,(.str [111,114])),(1,(.str [41]))]) fun v8 h=>av h v6 <| dU v7 <| c (.func 73) [x0,v8] h <| pz (um [v8] K) fun v9 h=>av h v6 <| dU v7 <| aW (bE h 1 1 [.ah] [(0,v9)]) fun v10 h=>av h v6 <| dU v7 <| qU h 1 24 v7 v10 fun v11 h=>ay 7 v3 fun v12=>bH h v12 v11 fun h=>aW (bE h 1 1 [.str []] [(0,(.str [111,114]))]) fun v14 h=>c (.func 22) [x0,v14] h <| pz K fun v15 h=>AZ c n n x0 v1 v3 (.bool true) h K
def Fy:G H4:=fun c n x0 x2 x3 x30 h K=>
 ay 5 x3 fun v21=>bH h v21 x30 fun h=>c (.func 35) [x0,(.str [41])] h <| pz K fun v23 h=>bL h 19 x3 fun v24=>aL h 19 x2 v24 fun h=>gI (fM h [(x2,some (true,19))]) h K
def FR:G H4:=fun c n x0 x2 x3 x21 h K=>
 ay 8 x3 fun v14=>aL h 8 v14 x21 fun h=>c (.func 35) [x0,(.str [41])] h <| pz K fun v16 h=>aW (bE h 1 1 [.str []] [(0,(.str [111,118,101,114]))]) fun v17 h=>c (.func 22) [x0,v17] h <| pz K fun v18 h=>aW (bE h 1 1 [.str []] [(0,(.str [41]))]) fun v19 h=>c (.func 73) [x0,v19] h <| pz K fun v20 h=>Fy c n x0 x2 x3 v20 h K
def I9:G H3:=fun c n x0 x2 x3 h K=>
 c (.func 32) [x0,(.str [40])] h <| pz K fun v12 h=>c (.func 59) [x0] h <| pz K fun v13 h=>FR c n x0 x2 x3 v13 h K
def En:G H4:=fun c n x0 x2 x3 x16 h K=>
 ay 16 x3 fun v27=>bH h v27 x16 fun h=>I9 c n x0 x2 x3 h K
def JQ:G H3:=fun c n x0 x2 x7 h K=>
 dP [.int .i64 0, .str [], .str [], .ah, .ah, .ah, .ah, .ah, .int .i64 0, .str [], .int .i64 0, .bool false, .int .i64 0, .str [], .ah, .ah, .str [], .str [], .ah] [(0,1,(.int .i64 7)),(1,1,x7)] fun v4=>bT h [.int .i64 0, .str [], .str [], .ah, .ah, .ah, .ah, .ah, .int .i64 0, .str [], .int .i64 0, .bool false, .int .i64 0, .str [], .ah, .ah, .str [], .str [], .ah] 19 fun v5 h=>aL h 19 v5 v4 fun h=>aW (bE h 1 1 [.str []] [(0,(.str [58]))]) fun v7 h=>c (.func 22) [x0,v7] h <| pz K fun v8 h=>c (.func 19) [x0,(.str [108,105,115,116])] h <| pz K fun v9 h=>aK v9 (ay 16 v5 fun v10=>bH h v10 (.str [108,105,115,116]) fun h=>I9 c n x0 x2 v5 h K) (c (.func 31) [x0] h <| pz K fun v26 h=>En c n x0 x2 v5 v26 h K)
def s75:G H1:=fun c n x0 h K=>
 bT h [.int .i64 0, .str [], .str [], .ah, .ah, .ah, .ah, .ah, .int .i64 0, .str [], .int .i64 0, .bool false, .int .i64 0, .str [], .ah, .ah, .str [], .str [], .ah] 19 fun v1 h=>c (.func 32) [x0,(.str [40])] h <| pz K fun v2 h=>c (.func 42) [x0] h <| pz K fun v3 h=>JQ c n x0 v1 v3 h K
def KN:G H3:=fun c n x1 x2 x5 h K=>
 dP [.int .i64 0, .str [], .str [], .ah, .ah, .ah, .ah, .ah, .int .i64 0, .str [], .int .i64 0, .bool false, .int .i64 0, .str [], .ah, .ah, .str [], .str [], .ah] [(0,1,(.int .i64 9)),(17,1,x5)] fun v5=>bT h [.int .i64 0, .str [], .str [], .ah, .ah, .ah, .ah, .ah, .int .i64 0, .str [], .int .i64 0, .bool false, .int .i64 0, .str [], .ah, .ah, .str [], .str [], .ah] 19 fun v6 h=>aL h 19 v6 v5 fun h=>av h x1 fun v8=>c (.func 32) [v8,(.str [40])] h <| pz K fun v9 h=>av h x1 fun v10=>bP (some (.fn (.func 90) [] [x1,v6])) fun v11=>c (.func 40) [v10,(.str [41]),v11] h <| pz K fun v12 h=>bL h 19 v6 fun v13=>aL h 19 x2 v13 fun h=>gI (fM h [(x2,some (true,19))]) h K
def s76:G H1:=fun c n x0 h K=>
 FH h x0 fun v1 h=>bT h [.int .i64 0, .str [], .str [], .ah, .ah, .ah, .ah, .ah, .int .i64 0, .str [], .int .i64 0, .bool false, .int .i64 0, .str [], .ah, .ah, .str [], .str [], .ah] 19 fun v2 h=>av h v1 fun v3=>c (.func 31) [v3] h <| pz K fun v4 h=>KN c n v1 v2 v4 h K
def FN:G H4:=fun c n x1 x2 x3 x14 h K=>
 ay 2 x3 fun v17=>bH h v17 x14 fun h=>av h x1 fun v19=>c (.func 32) [v19,(.str [40])] h <| pz K fun v20 h=>av h x1 fun v21=>bP (some (.fn (.func 91) [] [x1,x3])) fun v22=>c (.func 40) [v21,(.str [41]),v22] h <| pz K fun v23 h=>bL h 19 x3 fun v24=>aL h 19 x2 v24 fun h=>gI (fM h [(x2,some (true,19))]) h K
def JL:G H3:=fun c n x1 x2 x3 h K=>
 av h x1 fun v15=>c (.func 31) [v15] h <| pz K fun v16 h=>FN c n x1 x2 x3 v16 h K
def EK:G H4:=fun c n x1 x2 x3 x8 h K=>
 ay 1 x3 fun v10=>bH h v10 x8 fun h=>av h x1 fun v12=>aW (bE h 1 1 [.str []] [(0,(.str [58]))]) fun v13 h=>c (.func 22) [v12,v13] h <| pz K fun v14 h=>JL c n x1 x2 x3 h K
def s77:G H1:=fun c n x0 h K=>
 FH h x0 fun v1 h=>bT h [.int .i64 0, .str [], .str [], .ah, .ah, .ah, .ah, .ah, .int .i64 0, .str [], .int .i64 0, .bool false, .int .i64 0, .str [], .ah, .ah, .str [], .str [], .ah] 19 fun v2 h=>dP [.int .i64 0, .str [], .str [], .ah, .ah, .ah, .ah, .ah, .int .i64 0, .str [], .int .i64 0, .bool false, .int .i64 0, .str [], .ah, .ah, .str [], .str [], .ah] [(0,1,(.int .i64 1))] fun v3=>bT h [.int .i64 0, .str [], .str [], .ah, .ah, .ah, .ah, .ah, .int .i64 0, .str [], .int .i64 0, .bool false, .int .i64 0, .str [], .ah, .ah, .str [], .str [], .ah] 19 fun v4 h=>aL h 19 v4 v3 fun h=>av h v1 fun v6=>c (.func 55) [v6,(.int .i64 1)] h <| pz K fun v7 h=>aK v7 (av h v1 fun v8=>c (.func 42) [v8] h <| pz K fun v9 h=>EK c n v1 v2 v4 v9 h K) (JL c n v1 v2 v4 h K)
def IE:G H3:=fun c n x1 x2 x10 h K=>
 ay 1 x2 fun v11=>aL h 8 v11 x10 fun h=>av h x1 fun v13=>bL h 9 x2 fun v14=>aW (bE h 1 9 [.str [], .int .i64 0, .str [], .int .i64 0, .bool false, .int .i64 0, .str [], .ah, .ah] [(0,v14)]) fun v15 h=>qU h 9 128 v13 v15 fun v16 h=>bH h x1 v16 fun h=>K (.tup []) h
def Kv:G H3:=fun c n x0 x1 x4 h K=>
 dP [.str [], .int .i64 0, .str [], .int .i64 0, .bool false, .int .i64 0, .str [], .ah, .ah] [(0,1,x4)] fun v3=>bT h [.str [], .int .i64 0, .str [], .int .i64 0, .bool false, .int .i64 0, .str [], .ah, .ah] 9 fun v4 h=>aL h 9 v4 v3 fun h=>av h x0 fun v6=>aW (bE h 1 1 [.str []] [(0,(.str [61]))]) fun v7 h=>c (.func 22) [v6,v7] h <| pz K fun v8 h=>av h x0 fun v9=>c (.func 59) [v9] h <| pz K fun v10 h=>IE c n x1 v4 v10 h K
def s78:G H2:=fun c n x0 x1 h K=>
 av h x0 fun v1=>c (.func 31) [v1] h <| pz K fun v2 h=>Kv c n x0 x1 v2 h K
def J3:G H2:=fun c n x4 x13 h K=>
 aL h 9 x4 x13 fun h=>gI (fM h [(x4,some (true,9))]) h K
set_option maxRecDepth 100000 in
def D7:G (F4→H6):=fun c n B13 x0 x1 x4 x5 x19 x21 h K=>
 bT h [.int .i64 0, .str [], .int .i64 0, .int .i64 0] 4 fun v11 h=>aL h 4 v11 x21 fun h=>bG x0 fun v13=>ay 4 v13 fun v14=>av h v14 fun v15=>bP (tJ h (.leaf .int) false .kC v15 x1) fun v16=>ay 1 v11 fun v17=>av h v17 fun v18=>bP (tJ h (.leaf .str) true (.int .i64 0) v16 v18) fun v19=>kg 0 v19 fun v20=>kg 1 v19 fun v21=>mD v21 fun v22=>gK v22 false (ay 0 v11) fun v23=>gK v22 false (av h v23) fun v24=>gK v22 false (jV v24 (.int .i64 4)) fun v25=>bZ v22 (.bool true) v25 fun v26=>aK v26 (bL h 9 x5 fun v27=>aL h 9 x4 v27 fun h=>gI (fM h [(x4,some (true,9))]) h K) (bG x0 fun v29=>ay 1 v29 fun v30=>av h v30 fun v31=>gQ v31 (.int .i64 1) fun v32=>bG x0 fun v33=>ay 1 v33 fun v34=>bH h v34 v32 fun h=>dP [.int .i64 0, .str [], .int .i64 0, .bool false, .int .i64 0, .str [], .ah, .ah] [(0,1,v20)] fun v36=>bL h 9 x5 fun v37=>gQ x1 (.int .i64 1) fun v38=>c (.func 79) [x0,v38] h <| pz K fun v39 h=>bL h 9 x5 <| dU v37 <| aW (bE h 2 9 [.int .i64 0, .str [], .int .i64 0, .bool false, .int .i64 0, .str [], .ah, .ah, .int .i64 0] [(0,v37),(1,v39)]) fun v40 h=>bL h 9 x5 <| dU v37 <| c (.func 93) [x19,v36,v40] h <| pz (um [v40] K) fun v41 h=>aL h 9 x5 v41 fun h=>eD x1 (.int .i64 2) fun v43=>aK v43 (bL h 9 x5 fun v44=>aL h 9 x4 v44 fun h=>gI (fM h [(x4,some (true,9))]) h K) (B13 x0 x1 x4 x5 h))
def Ei:G (F4→H5):=fun c n B13 x0 x1 x4 x5 x19 h K=>
 c (.func 51) [x0,(.int .i64 0)] h <| pz K fun v10 h=>D7 c n B13 x0 x1 x4 x5 x19 v10 h K
def Ng:G (F4→H4):=fun c n B13 x0 x1 x4 x5 h K=>
 c (.func 50) [x0] h <| pz K fun v9 h=>Ei c n B13 x0 x1 x4 x5 v9 h K
def EU:G (Nat→H4):=fun c n=>
 @Nat.rec (fun _=>H4) (fun _ _ _ _ _ _=>false) (fun _ ih x0 x1 x4 x5 h K=>Ng c n (fun x0 x1 x4 x5 h=>ih x0 x1 x4 x5 h K) x0 x1 x4 x5 h K)
def Ed:G H4:=fun c n x0 x1 x4 x17 h K=>
 bT h [.int .i64 0, .str [], .int .i64 0, .bool false, .int .i64 0, .str [], .ah, .ah, .int .i64 0] 9 fun v7 h=>aL h 9 v7 x17 fun h=>EU c n n x0 x1 x4 v7 h K
def Un:G H3:=fun c n x0 x1 x4 h K=>
 gQ x1 (.int .i64 1) fun v5=>c (.func 79) [x0,v5] h <| pz K fun v6 h=>Ed c n x0 x1 x4 v6 h K
def s79:G H2:=fun c n x0 x1 h K=>
 bT h [.int .i64 0, .str [], .int .i64 0, .bool false, .int .i64 0, .str [], .ah, .ah, .int .i64 0] 9 fun v1 h=>eD x1 (.int .i64 5) fun v2=>aK v2 (c (.func 92) [x0] h <| pz K fun v3 h=>J3 c n v1 v3 h K) (Un c n x0 x1 v1 h K)
def s80:G H2:=fun c n x0 x1 h K=>
 c (.func 94) [x0,x1] h <| pz K fun v1 h=>K v1 h
def BO:G H3:=fun c n x0 x5 x7 h K=>
 bZ x5 (.bool true) x7 fun v4=>gK v4 false (bP (some x0)) fun v5=>gK v4 false (eD v5 (.int .u8 95)) fun v6=>bZ v4 (.bool true) v6 fun v7=>K v7 h
def Ca:G H2:=fun c n x0 x4 h K=>
 gK x4 false (bP (some x0)) fun v2=>gP x4 false (fun k=>c (.func 65) [v2] h (pz K k)) h fun v3 h=>BO c n x0 x4 v3 h K
def s81:G H1:=fun c n x0 h K=>
 c (.func 63) [x0] h <| pz K fun v1 h=>Ca c n x0 v1 h K
def s82:G H1:=fun c n x0 h K=>
 bG x0 fun v1=>ay 1 v1 fun v2=>av h v2 fun v3=>bP (J5 v3) fun v4=>bG x0 fun v5=>ay 1 v5 fun v6=>av h v6 fun v7=>gJ v7 fun v8=>aW (Gf h 5 v4 v8) fun v9 h=>K v9 h
def s83:G H2:=fun c n x0 x1 h K=>
 c (.func 95) [x0] h <| pz K fun v1 h=>bG x0 fun v2=>ay 1 v2 fun v3=>av h v3 fun v4=>aW (bE h 1 1 [.int .u8 0] [(0,x1)]) fun v5 h=>aW (aat h 5 v4 v5) fun v6 h=>bG x0 fun v7=>ay 1 v7 fun v8=>bH h v8 v6 fun h=>K .iX h
def s84:G H2:=fun c n x0 x1 h K=>
 c (.func 96) [x0,x1] h <| pz K fun v1 h=>K v1 h
def Dq:G H4:=fun c n x0 x1 x4 x6 h K=>
 bZ x4 x6 (.bool false) fun v5=>aK v5 (ay 18 x1 fun v6=>av h v6 fun v7=>av h x0 fun v8=>c (.func 42) [v8] h <| pz K fun v9 h=>av h v6 <| dU v7 <| dP [.str [], .int .i64 0, .str [], .int .i64 0, .bool false, .int .i64 0, .str [], .ah, .ah] [(0,1,v9)] fun v10=>aW (bE h 1 9 [.str [], .int .i64 0, .str [], .int .i64 0, .bool false, .int .i64 0, .str [], .ah, .ah] [(0,v10)]) fun v11 h=>av h v6 <| dU v7 <| av h x0 <| dU v8 <| qU h 9 128 v7 v11 fun v12 h=>ay 18 x1 fun v13=>bH h v13 v12 fun h=>av h x0 fun v15=>aW (bE h 1 1 [.str []] [(0,(.str [63]))]) fun v16 h=>c (.func 22) [v15,v16] h <| pz K fun v17 h=>K (.tup []) h) (ay 18 x1 fun v18=>av h v18 fun v19=>av h x0 fun v20=>c (.func 59) [v20] h <| pz K fun v21 h=>av h v18 <| dU v19 <| dP [.str [], .int .i64 0, .str [], .int .i64 0, .bool false, .int .i64 0, .str [], .ah, .ah] [(1,8,v21)] fun v22=>aW (bE h 1 9 [.str [], .int .i64 0, .str [], .int .i64 0, .bool false, .int .i64 0, .str [], .ah, .ah] [(0,v22)]) fun v23 h=>av h v18 <| dU v19 <| av h x0 <| dU v20 <| qU h 9 128 v19 v23 fun v24 h=>ay 18 x1 fun v25=>bH h v25 v24 fun h=>K (.tup []) h)
def Ia:G H3:=fun c n x0 x1 x3 h K=>
 gK x3 true (av h x0) fun v3=>gP x3 true (fun k=>c (.func 30) [v3,(.int .i64 1),(.str [63])] h (pz K k)) h fun v4 h=>Dq c n x0 x1 x3 v4 h K
def s90:G H2:=fun c n x0 x1 h K=>
 av h x0 fun v1=>c (.func 55) [v1,(.int .i64 1)] h <| pz K fun v2 h=>Ia c n x0 x1 v2 h K
set_option maxRecDepth 100000 in
def BU:G H4:=fun c n x0 x1 x5 x7 h K=>
 bZ x5 x7 (.bool false) fun v5=>aK v5 (av h x0 fun v6=>c (.func 42) [v6] h <| pz K fun v7 h=>av h x0 fun v8=>aW (bE h 1 1 [.str []] [(0,(.str [58]))]) fun v9 h=>c (.func 22) [v8,v9] h <| pz K fun v10 h=>ay 3 x1 fun v11=>av h v11 fun v12=>av h x0 fun v13=>c (.func 31) [v13] h <| pz K fun v14 h=>av h v11 <| dU v12 <| dP [.str [], .str []] [(0,1,v7),(1,1,v14)] fun v15=>aW (bE h 1 2 [.str [], .str []] [(0,v15)]) fun v16 h=>av h v11 <| dU v12 <| av h x0 <| dU v13 <| qU h 2 32 v12 v16 fun v17 h=>ay 3 x1 fun v18=>bH h v18 v17 fun h=>K (.tup []) h) (ay 4 x1 fun v20=>av h v20 fun v21=>av h x0 fun v22=>gJ v21 fun v23=>aW (bE h 1 8 [.int .i64 0, .str [], .int .i64 0, .bool false, .int .i64 0, .str [], .ah, .ah] [(0,(.agg [.int .i64 0, .str [], .int .i64 0, .bool false, .int .i64 0, .str [], .ah, .ah]))]) fun v24 h=>av h v20 <| dU v21 <| av h x0 <| dU v22 <| gJ v21 <| dU v23 <| c (.func 59) [v22] h <| pz (um [v24] K) fun v25 h=>av h v20 <| dU v21 <| gJ v21 <| dU v23 <| qU h 8 112 v21 v24 fun v26 h=>dO h 8 v26 v23 fun v27=>ay 4 x1 fun v28=>aW (bif rF v27 v28 then unit (cZ h 8 v27 v25) else none) fun _ h=>bH h v28 v26 fun h=>dO h 8 v26 v23 <| dU v27 <| K (.tup []) h)
def Ig:G H3:=fun c n x0 x1 x4 h K=>
 gK x4 true (av h x0) fun v3=>gP x4 true (fun k=>c (.func 30) [v3,(.int .i64 1),(.str [58])] h (pz K k)) h fun v4 h=>BU c n x0 x1 x4 v4 h K
def s91:G H2:=fun c n x0 x1 h K=>
 av h x0 fun v1=>c (.func 55) [v1,(.int .i64 1)] h <| pz K fun v2 h=>Ig c n x0 x1 v2 h K
def D9:G H2:=fun c n x2 x19 h K=>
 aL h 9 x2 x19 fun h=>gI (fM h [(x2,some (true,9))]) h K
def DY:G H2:=fun c n x2 x37 h K=>
 aL h 9 x2 x37 fun h=>gI (fM h [(x2,some (true,9))]) h K
def zM:G H5:=fun c n x0 x2 x3 x4 x24 h K=>
 bT h [.int .i64 0, .str [], .int .i64 0, .bool false, .int .i64 0, .str [], .ah, .ah, .int .i64 0] 9 fun v14 h=>aL h 9 v14 x24 fun h=>bG x0 fun v16=>ay 3 v16 fun v17=>av h v17 fun v18=>K8 v18 (.int .i64 1) fun v19=>bG x0 fun v20=>ay 3 v20 fun v21=>bH h v21 v19 fun h=>dP [.int .i64 0, .str [], .int .i64 0, .bool false, .int .i64 0, .str [], .ah, .ah] [(0,1,x4)] fun v23=>bL h 9 v14 fun v24=>aW (bE h 1 9 [.int .i64 0, .str [], .int .i64 0, .bool false, .int .i64 0, .str [], .ah, .ah, .int .i64 0] [(0,v24)]) fun v25 h=>c (.func 93) [x3,v23,v25] h <| pz K fun v26 h=>DY c n x2 v26 h K
def vk:G H6:=fun c n x0 x2 x3 x4 x13 x15 h K=>
 gK x13 true (mD x15) fun v8=>bZ x13 v8 (.bool false) fun v9=>aK v9 (c (.func 102) [x0] h <| pz K fun v10 h=>D9 c n x2 v10 h K) (c (.func 54) [x0,x3] h <| pz K fun v12 h=>c (.func 92) [x0] h <| pz K fun v13 h=>zM c n x0 x2 x3 x4 v13 h K)
def vS:G H5:=fun c n x0 x2 x3 x4 x11 h K=>
 mD x11 fun v5=>gK v5 true (bP (some x0)) fun v6=>gP v5 true (fun k=>c (.func 19) [v6,(.str [33])] h (pz K k)) h fun v7 h=>vk c n x0 x2 x3 x4 v5 v7 h K
def Iz:G H4:=fun c n x0 x2 x3 x4 h K=>
 c (.func 19) [x0,(.str [45])] h <| pz K fun v4 h=>vS c n x0 x2 x3 x4 v4 h K
def s92:G H1:=fun c n x0 h K=>
 bT h [.int .i64 0, .str [], .int .i64 0, .bool false, .int .i64 0, .str [], .ah, .ah, .int .i64 0] 9 fun v1 h=>c (.func 50) [x0] h <| pz K fun v2 h=>c (.func 30) [x0,(.int .i64 0),(.str [33])] h <| pz K fun v3 h=>aK v3 (Iz c n x0 v1 v2 (.int .i64 7) h K) (Iz c n x0 v1 v2 (.int .i64 6) h K)
def NU:G H2:=fun c n x6 x7 h K=>
 bL h 9 x7 fun v36=>aL h 9 x6 v36 fun h=>gI (fM h [(x6,some (true,9))]) h K
def UM:G H3:=fun c n x0 x6 x7 h K=>
 ay 8 x7 fun v32=>av h v32 fun v33=>Jd v33 (.int .i64 30) fun v34=>aK v34 (c (.func 49) [x0] h <| pz K fun v35 h=>NU c n x6 x7 h K) (NU c n x6 x7 h K)
def QH:G (F6→H6):=fun c n B8 x0 x6 x7 x12 x13 x14 h K=>
 mE x14 x13 fun v8=>aK v8 (dO h 9 x12 x14 fun v9=>bL h 9 v9 fun v10=>bT h [.int .i64 0, .str [], .int .i64 0, .bool false, .int .i64 0, .str [], .ah, .ah, .int .i64 0] 9 fun v11 h=>aL h 9 v11 v10 fun h=>ay 0 x7 fun v13=>ay 7 v13 fun v14=>av h v14 fun v15=>ay 0 v11 fun v16=>bL h 8 v16 fun v17=>aW (bE h 1 8 [.int .i64 0, .str [], .int .i64 0, .bool false, .int .i64 0, .str [], .ah, .ah] [(0,v17)]) fun v18 h=>qU h 8 112 v15 v18 fun v19 h=>ay 0 x7 fun v20=>ay 7 v20 fun v21=>bH h v21 v19 fun h=>ay 8 x7 fun v23=>av h v23 fun v24=>ay 8 v11 fun v25=>av h v25 fun v26=>gQ v26 (.int .i64 1) fun v27=>bP (mmV true [v24,v27]) fun v28=>ay 8 x7 fun v29=>bH h v29 v28 fun h=>gQ x14 (.int .i64 1) fun v31=>B8 x0 x6 x7 x12 x13 v31 h) (UM c n x0 x6 x7 h K)
def Qy:G (Nat→H6):=fun c n=>
 @Nat.rec (fun _=>H6) (fun _ _ _ _ _ _ _ _=>false) (fun _ ih x0 x6 x7 x12 x13 x14 h K=>QH c n (fun x0 x6 x7 x12 x13 x14 h=>ih x0 x6 x7 x12 x13 x14 h K) x0 x6 x7 x12 x13 x14 h K)
def s93:G H3:=fun c n x0 x1 x2 h K=>
 aW (nK h (none) 8 x1) fun v1 h=>bT h [.int .i64 0, .str [], .int .i64 0, .bool false, .int .i64 0, .str [], .ah, .ah, .int .i64 0] 9 fun v2 h=>bL h 8 v1 fun v3=>dP [.int .i64 0, .str [], .int .i64 0, .bool false, .int .i64 0, .str [], .ah, .ah, .int .i64 0] [(0,8,v3),(8,1,(.int .i64 1))] fun v4=>bT h [.int .i64 0, .str [], .int .i64 0, .bool false, .int .i64 0, .str [], .ah, .ah, .int .i64 0] 9 fun v5 h=>aL h 9 v5 v4 fun h=>gJ x2 fun v7=>Qy c n n x0 v2 v5 x2 v7 (.int .i64 0) h K
def JW:G H2:=fun c n x7 x10 h K=>
 bP (TY h 143 2 [] x10) fun v7=>bG x7 fun v8=>ay 0 v8 fun v9=>bH h v9 v7 fun h=>K (.tup []) h
def s95:G H1:=fun c n x0 h K=>
 bG x0 fun v1=>ay 0 v1 fun v2=>av h v2 fun v3=>bP (EN h false .ptr v3 .nilPtr) fun v4=>aK v4 (bP (UC h x0) fun v5=>c (.func 103) [v5] h <| pz K fun v6 h=>JW c n x0 v6 h K) (bG x0 fun v11=>ay 0 v11 fun v12=>av h v12 fun v13=>bP (EN h true .ptr v13 x0) fun v14=>aK v14 (false) (K (.tup []) h))
def s96:G H2:=fun c n x0 x1 h K=>
 pY x0 fun v1=>pY x1 fun v2=>FP v1 v2 fun v3=>gK v3 true (bP (some x0)) fun v4=>gK v3 true (bP (some x1)) fun v5=>gK v3 true (pY v5) fun v6=>gK v3 true (Iq v4 none (some v6)) fun v7=>gK v3 true (bP (some x1)) fun v8=>gK v3 true (eD v7 v8) fun v9=>bZ v3 v9 (.bool false) fun v10=>K v10 h
def wH:G (F3→H5):=fun c n B5 x0 x2 x3 x4 x10 h K=>
 mD x10 fun v7=>aK v7 (bL h 9 x3 fun v8=>aL h 9 x2 v8 fun h=>gI (fM h [(x2,some (true,9))]) h K) (bL h 9 x3 fun v10=>aW (bE h 1 9 [.int .i64 0, .str [], .int .i64 0, .bool false, .int .i64 0, .str [], .ah, .ah, .int .i64 0] [(0,v10)]) fun v11 h=>bL h 9 x3 <| dU v10 <| c (.func 31) [x0] h <| pz (um [v11] K) fun v12 h=>bL h 9 x3 <| dU v10 <| dP [.int .i64 0, .str [], .int .i64 0, .bool false, .int .i64 0, .str [], .ah, .ah] [(0,1,(.int .i64 4)),(1,1,v12)] fun v13=>c (.func 93) [x4,v13,v11] h <| pz (um [v11] K) fun v14 h=>aL h 9 x3 v14 fun h=>B5 x0 x2 x3 h)
def OV:G (F3→H3):=fun c n B5 x0 x2 x3 h K=>
 c (.func 50) [x0] h <| pz K fun v5 h=>c (.func 19) [x0,(.str [46])] h <| pz K fun v6 h=>wH c n B5 x0 x2 x3 v5 v6 h K
def Fe:G (Nat→H3):=fun c n=>
 @Nat.rec (fun _=>H3) (fun _ _ _ _ _=>false) (fun _ ih x0 x2 x3 h K=>OV c n (fun x0 x2 x3 h=>ih x0 x2 x3 h K) x0 x2 x3 h K)
def Fa:G H3:=fun c n x0 x2 x6 h K=>
 bT h [.int .i64 0, .str [], .int .i64 0, .bool false, .int .i64 0, .str [], .ah, .ah, .int .i64 0] 9 fun v3 h=>aL h 9 v3 x6 fun h=>Fe c n n x0 x2 v3 h K
def adh:G H1:=fun c n x0 h K=>
 bT h [.int .i64 0, .str [], .int .i64 0, .bool false, .int .i64 0, .str [], .ah, .ah, .int .i64 0] 9 fun v1 h=>c (.func 105) [x0] h <| pz K fun v2 h=>Fa c n x0 v1 v2 h K
def AA:G H2:=fun c n x2 x39 h K=>
 aL h 9 x2 x39 fun h=>gI (fM h [(x2,some (true,9))]) h K
def wB:G H3:=fun c n x1 x2 x23 h K=>
 kg 0 x23 fun v15=>kg 1 x23 fun v16=>av h x1 fun v17=>bP (EN h false .ifn v16 .iX) fun v18=>c (.func 29) [v17,v18] h <| pz K fun v19 h=>av h x1 fun v20=>bG v20 fun v21=>ay 1 v21 fun v22=>av h v22 fun v23=>gQ v23 (.int .i64 1) fun v24=>bG v20 fun v25=>ay 1 v25 fun v26=>bH h v26 v24 fun h=>dP [.int .i64 0, .bool false, .int .i64 0, .str [], .ah] [(0,1,(.int .i64 2)),(2,1,v15)] fun v28=>c (.func 107) [v28] h <| pz K fun v29 h=>AA c n x2 v29 h K
def Am:G H2:=fun c n x2 x47 h K=>
 aL h 9 x2 x47 fun h=>gI (fM h [(x2,some (true,9))]) h K
def Bo:G H2:=fun c n x2 x45 h K=>
 dP [.int .i64 0, .bool false, .int .i64 0, .str [], .ah] [(0,1,(.int .i64 3)),(3,1,x45)] fun v36=>c (.func 107) [v36] h <| pz K fun v37 h=>Am c n x2 v37 h K
def wL:G H2:=fun c n x2 x57 h K=>
 aL h 9 x2 x57 fun h=>gI (fM h [(x2,some (true,9))]) h K
def AP:G H2:=fun c n x2 x62 h K=>
 aL h 9 x2 x62 fun h=>gI (fM h [(x2,some (true,9))]) h K
def Bl:G H2:=fun c n x2 x68 h K=>
 dP [.int .i64 0, .str [], .int .i64 0, .bool false, .int .i64 0, .str [], .ah, .ah] [(0,1,(.int .i64 2)),(1,1,x68)] fun v57=>dP [.int .i64 0, .str [], .int .i64 0, .bool false, .int .i64 0, .str [], .ah, .ah, .int .i64 0] [(0,8,v57),(8,1,(.int .i64 1))] fun v58=>aL h 9 x2 v58 fun h=>gI (fM h [(x2,some (true,9))]) h K
def Bj:G H3:=fun c n x1 x2 x77 h K=>
 bT h [.int .i64 0, .str [], .int .i64 0, .bool false, .int .i64 0, .str [], .ah, .ah, .int .i64 0] 9 fun v66 h=>aL h 9 v66 x77 fun h=>av h x1 fun v68=>c (.func 35) [v68,(.str [41])] h <| pz K fun v69 h=>bL h 9 v66 fun v70=>aL h 9 x2 v70 fun h=>gI (fM h [(x2,some (true,9))]) h K
def AQ:G H2:=fun c n x2 x92 h K=>
 aL h 9 x2 x92 fun h=>gI (fM h [(x2,some (true,9))]) h K
def AB:G H2:=fun c n x2 x106 h K=>
 aL h 9 x2 x106 fun h=>gI (fM h [(x2,some (true,9))]) h K
def AU:G H4:=fun c n x1 x2 x3 x99 h K=>
 bT h [.int .i64 0, .str [], .int .i64 0, .bool false, .int .i64 0, .str [], .ah, .ah, .int .i64 0] 9 fun v90 h=>aL h 9 v90 x99 fun h=>av h x1 fun v92=>c (.func 35) [v92,(.str [41])] h <| pz K fun v93 h=>dP [.int .i64 0, .str [], .int .i64 0, .bool false, .int .i64 0, .str [], .ah, .ah] [(0,1,(.int .i64 21))] fun v94=>bL h 9 v90 fun v95=>aW (bE h 1 9 [.int .i64 0, .str [], .int .i64 0, .bool false, .int .i64 0, .str [], .ah, .ah, .int .i64 0] [(0,v95)]) fun v96 h=>c (.func 93) [x3,v94,v96] h <| pz K fun v97 h=>AB c n x2 v97 h K
def Aw:G H2:=fun c n x2 x126 h K=>
 aL h 9 x2 x126 fun h=>gI (fM h [(x2,some (true,9))]) h K
def Bg:G H5:=fun c n x1 x2 x3 x10 x118 h K=>
 bT h [.int .i64 0, .str [], .int .i64 0, .bool false, .int .i64 0, .str [], .ah, .ah, .int .i64 0] 9 fun v112 h=>aL h 9 v112 x118 fun h=>av h x1 fun v114=>c (.func 35) [v114,(.str [41])] h <| pz K fun v115 h=>dP [.int .i64 0, .str [], .int .i64 0, .bool false, .int .i64 0, .str [], .ah, .ah] [(0,1,(.int .i64 22))] fun v116=>bL h 9 x10 fun v117=>bL h 9 v112 fun v118=>aW (bE h 2 9 [.int .i64 0, .str [], .int .i64 0, .bool false, .int .i64 0, .str [], .ah, .ah, .int .i64 0] [(0,v117),(1,v118)]) fun v119 h=>c (.func 93) [x3,v116,v119] h <| pz K fun v120 h=>Aw c n x2 v120 h K
def Ar:G H4:=fun c n x1 x2 x3 x113 h K=>
 bT h [.int .i64 0, .str [], .int .i64 0, .bool false, .int .i64 0, .str [], .ah, .ah, .int .i64 0] 9 fun v105 h=>aL h 9 v105 x113 fun h=>av h x1 fun v107=>aW (bE h 1 1 [.str []] [(0,(.str [44]))]) fun UZ h=>c (.func 22) [v107,UZ] h <| pz K fun v109 h=>av h x1 fun v110=>c (.func 79) [v110,(.int .i64 0)] h <| pz K fun v111 h=>Bg c n x1 x2 x3 v105 v111 h K
def xW:G H2:=fun c n x2 x128 h K=>
 dP [.int .i64 0, .str [], .int .i64 0, .bool false, .int .i64 0, .str [], .ah, .ah] [(0,1,(.int .i64 3)),(1,1,x128)] fun v124=>dP [.int .i64 0, .str [], .int .i64 0, .bool false, .int .i64 0, .str [], .ah, .ah, .int .i64 0] [(0,8,v124),(8,1,(.int .i64 1))] fun v125=>aL h 9 x2 v125 fun h=>gI (fM h [(x2,some (true,9))]) h K
set_option maxRecDepth 100000 in
def zx:G H5:=fun c n x1 x2 x3 x4 x48 h K=>
 aK x48 (ay 1 x4 fun v41=>av h v41 fun v42=>eD v42 (.str [116,114,117,101]) fun v43=>dP [.int .i64 0, .bool false, .int .i64 0, .str [], .ah] [(0,1,(.int .i64 1)),(1,1,v43)] fun v44=>c (.func 107) [v44] h <| pz K fun v45 h=>wL c n x2 v45 h K) (av h x1 fun v47=>c (.func 19) [v47,(.str [110,117,108,108])] h <| pz K fun v48 h=>aK v48 (dP [.int .i64 0, .bool false, .int .i64 0, .str [], .ah] [] fun v49=>c (.func 107) [v49] h <| pz K fun v50 h=>AP c n x2 v50 h K) (ay 0 x4 fun v52=>av h v52 fun v53=>eD v53 (.int .i64 1) fun v54=>aK v54 (av h x1 fun v55=>c (.func 42) [v55] h <| pz K fun v56 h=>Bl c n x2 v56 h K) (av h x1 fun v60=>c (.func 30) [v60,(.int .i64 0),(.str [40])] h <| pz K fun v61 h=>aK v61 (av h x1 fun v62=>c (.func 32) [v62,(.str [40])] h <| pz K fun v63 h=>av h x1 fun v64=>c (.func 79) [v64,(.int .i64 0)] h <| pz K fun v65 h=>Bj c n x1 x2 v65 h K) (av h x1 fun v72=>c (.func 30) [v72,(.int .i64 0),(.str [91])] h <| pz K fun v73 h=>aK v73 (bT h [.ah] 1 fun v74 h=>av h x1 fun v75=>c (.func 32) [v75,(.str [91])] h <| pz K fun v76 h=>av h x1 fun v77=>bP (some (.fn (.func 108) [] [v74,x1])) fun v78=>c (.func 40) [v77,(.str [93]),v78] h <| pz K fun v79 h=>dP [.int .i64 0, .str [], .int .i64 0, .bool false, .int .i64 0, .str [], .ah, .ah] [(0,1,(.int .i64 5))] fun v80=>av h v74 fun v81=>c (.func 93) [x3,v80,v81] h <| pz K fun v82 h=>AQ c n x2 v82 h K) (av h x1 fun v84=>c (.func 19) [v84,(.str [115,105,122,101])] h <| pz K fun v85 h=>aK v85 (av h x1 fun v86=>c (.func 32) [v86,(.str [40])] h <| pz K fun v87 h=>av h x1 fun v88=>c (.func 79) [v88,(.int .i64 0)] h <| pz K fun v89 h=>AU c n x1 x2 x3 v89 h K) (av h x1 fun v99=>c (.func 19) [v99,(.str [104,97,115])] h <| pz K fun v100 h=>aK v100 (av h x1 fun v101=>c (.func 32) [v101,(.str [40])] h <| pz K fun YG h=>av h x1 fun v103=>c (.func 79) [v103,(.int .i64 0)] h <| pz K fun v104 h=>Ar c n x1 x2 x3 v104 h K) (av h x1 fun v122=>c (.func 31) [v122] h <| pz K fun v123 h=>xW c n x2 v123 h K)))))))
def acZ:G H1:=fun c n x0 h K=>
 FH h x0 fun v1 h=>bT h [.int .i64 0, .str [], .int .i64 0, .bool false, .int .i64 0, .str [], .ah, .ah, .int .i64 0] 9 fun v2 h=>av h v1 fun v3=>av h v1 fun v4=>bT h [.int .i64 0, .str [], .int .i64 0, .int .i64 0] 4 fun v5 h=>av h v1 <| dU v3 <| av h v1 <| dU v4 <| c (.func 50) [v3] h <| pz (um [v5] K) fun v6 h=>av h v1 <| dU v4 <| c (.func 51) [v4,(.int .i64 0)] h <| pz (um [v5] K) fun v7 h=>aL h 4 v5 v7 fun h=>ay 0 v5 fun v9=>av h v9 fun v10=>eD v10 (.int .i64 2) fun v11=>aK v11 (ay 1 v5 fun v12=>av h v12 fun v13=>c (.func 56) [v13,(.int .i64 10),(.int .i64 64)] h <| pz K fun v14 h=>wB c n v1 v2 v14 h K) (ay 0 v5 fun v31=>av h v31 fun v32=>eD v32 (.int .i64 3) fun v33=>aK v33 (av h v1 fun v34=>c (.func 53) [v34] h <| pz K fun v35 h=>Bo c n v2 v35 h K) (av h v1 fun v39=>c (.func 19) [v39,(.str [116,114,117,101])] h <| pz K fun v40 h=>aK v40 (zx c n v1 v2 v6 v5 v40 h K) (av h v1 fun v127=>c (.func 19) [v127,(.str [102,97,108,115,101])] h <| pz K fun v128 h=>zx c n v1 v2 v6 v5 v128 h K)))
def abW:G H1:=fun c n x0 h K=>
 aW (nK h (none) 5 x0) fun v1 h=>bT h [.int .i64 0, .str [], .int .i64 0, .bool false, .int .i64 0, .str [], .ah, .ah, .int .i64 0] 9 fun v2 h=>bL h 5 v1 fun v3=>dP [.int .i64 0, .str [], .int .i64 0, .bool false, .int .i64 0, .str [], .ah, .ah] [(0,1,(.int .i64 1)),(2,5,v3)] fun v4=>dP [.int .i64 0, .str [], .int .i64 0, .bool false, .int .i64 0, .str [], .ah, .ah, .int .i64 0] [(0,8,v4),(8,1,(.int .i64 1))] fun v5=>aL h 9 v2 v5 fun h=>gI (fM h [(v2,some (true,9))]) h K
def adi:G H2:=fun c n x0 x1 h K=>
 av h x0 fun v1=>av h x1 fun v2=>c (.func 79) [v2,(.int .i64 0)] h <| pz K fun v3 h=>av h x0 <| dU v1 <| aW (bE h 1 9 [.int .i64 0, .str [], .int .i64 0, .bool false, .int .i64 0, .str [], .ah, .ah, .int .i64 0] [(0,v3)]) fun v4 h=>av h x0 <| dU v1 <| av h x1 <| dU v2 <| qU h 9 120 v1 v4 fun v5 h=>bH h x0 v5 fun h=>K (.tup []) h
end
end Go.Proofs.YtibillhjmfbneaaGreatDoor
namespace Go.Ab
noncomputable section
abbrev Prim:=bI→Nat→List AV→aj→aM→Bool
def Xl:List (Nat×Prim)→Nat→Option Prim
 | [],_=>none
 |(k,p) :: l,f=>bif Nat.beq k f then some p else Xl l f
def afh (tbl:List (Nat×dF)) (ps:List (Nat×Prim)):Env:={code:=Xp tbl,prim:=Xl ps}
theorem Fq {f:Nat} {p:Prim}:∀{l:List (Nat×Prim)},Xl l f=some p→(f,p)∈l
 | [],h=>by cases h
 |(k,x) :: l,h=>by
  simp only[Xl] at h
  cases hb:Nat.beq k f with
  |true=>
   rw[hb,cond_true] at h
   cases h
   rw[Nat.eq_of_beq_eq_true hb]
   exact List.mem_cons_self
  |false=>
   rw[hb,cond_false] at h
   exact List.mem_cons_of_mem _ (Fq h)
def Ry (p:Prim):Prop:=∀(call call':bI) n args h (K K':aM),Le call call'→(∀v h',K v h'=true→K' v h'=true)→p call n args h K=true→p call' n args h K'=true
def zf:List (Nat×Prim)→Prop
 | []=>True
 |(_,p) :: l=>Ry p∧zf l
theorem zf.mem:∀{l:List (Nat×Prim)},zf l→∀k p,(k,p)∈l→Ry p
 | [],_,_,_,h=>by cases h
 |(k,q) :: l,⟨h1,h2⟩,k',p,h=>by
  rcases List.mem_cons.1 h with e |h
  ·cases e;exact h1
  ·exact zf.mem h2 k' p h
theorem adz {tbl:List (Nat×dF)} {ps:List (Nat×Prim)} (h:zf ps):OJ (afh tbl ps):=fun f p hp=>h.mem f p (Fq hp)
def zB (P:Program):List (Nat×Prim)→Prop
 | []=>True
 |(k,p) :: l=>E8 P k p∧zB P l
theorem zB.mem {P:Program}:∀{l:List (Nat×Prim)},zB P l→∀k p,(k,p)∈l→E8 P k p
 | [],_,_,_,h=>by cases h
 |(k,q) :: l,⟨h1,h2⟩,k',p,h=>by
  rcases List.mem_cons.1 h with e |h
  ·cases e;exact h1
  ·exact zB.mem h2 k' p h
theorem acX {P:Program} {tbl:List (Nat×dF)} {ps:List (Nat×Prim)} (h:L9 P tbl) (hp:zB P ps):Lc P (afh tbl ps):=
 ⟨fun f p e=>hp.mem f p (Fq e),fun f fn hf=>h.mem f fn (MC hf)⟩
def LD:Prim:=fun _ _ args h K=>match args with
 | [.ptr a b c d]=>K (.ptr a b c d) h
 |_=>false
theorem Uz:Ry LD:=by
 intro call call' n args h K K' _ hK s
 unfold LD at s ⊢
 split at s
 ·exact hK _ _ s
 ·cases s
theorem Dt {P:Program} {f:Nat} {fn:Func} {e:Array Value→Sem Value} {B:Base} {φ:dD} {w:World} {K:aM} {h:aj} {v:AV} {cv:Value} {args:List Value} (hf:P.funcs[f]? =some fn) (hname:(fn.name== "runtime.NumGoroutine")=false) (hb:fn.body.isNone=true) (hn:Extern.findNext fn=none) (he:Extern.find fn=some e)
 (hrun:(e ⟨args⟩).run P w= .ok cv w) (H:bJ P B φ h w) (hv:aX φ v cv) (hK:K v h=true):sV P B φ w K ((callFunc f ⟨args⟩).run P w):=by
 rw[run_callFunc_extern hf hname hb hn he,hrun]
 exact .inl ⟨v,h,cv,φ,rfl,hK,hv,H,φ.le_refl,Gw.refl B w⟩
theorem aai {P:Program} {f:Nat} {fn:Func} (hf:P.funcs[f]? =some fn) (hname:(fn.name== "runtime.NumGoroutine")=false) (hb:fn.body.isNone=true) (hn:Extern.findNext fn=none) (he:Extern.find fn=some Extern.AbiNoEscape.same):E8 P f LD:=by
 intro call n _ args h K hK
 unfold LD at hK
 split at hK
 ·rename_i a b c d
  refine⟨fun v hv id e=> ?_,fun B φ w fZ H hA=> ?_⟩
  ·simp only[List.mem_singleton] at hv;subst hv;cases e
  ·cases hA with
   |cons h1 h2=>
    cases h2
    rename_i cv _
    exact Dt (v:= .ptr a b c d) hf hname hb hn he (Lib.run_noEscape w _) H h1 hK
 ·cases hK
def K7 (c:Nat):List Nat→Nat→Int
 | [],_=> -1
 |b :: l,i=>bif Nat.beq b c then(i:Int) else K7 c l (i+1)
def vV:Prim:=fun _ _ args h K=>match args with
 | [.str s, .int .u8 (.ofNat c)]=>bif Nat.blt c 256 then K (.int .i64 (K7 c s 0)) h else false
 |_=>false
theorem Nj:Ry vV:=by
 intro call call' n args h K K' _ hK s
 unfold vV at s ⊢
 split at s
 ·rename_i s' c
  cases hb:Nat.blt c 256 with
  |false=>rw[hb] at s;cases s
  |true=>rw[hb] at s;exact hK _ _ s
 ·cases s
theorem LG {bs:List UInt8} {c:UInt8} {g:Nat→UInt8} (hg:∀j (h:j<bs.length),g j=bs[j]):∀(m i:Nat),m+i=bs.length→(match(List.range' i m).find? (fun j=>g j==c) with |some j=>(j:Int)|none=> -1)=K7 c.toNat ((bs.drop i).map UInt8.toNat) i
 |0,i,h=>by
  rw[List.drop_of_length_le (by omega)];rfl
 |m+1,i,h=>by
  have hlt:i<bs.length:=by omega
  rw[List.range'_succ,List.find?_cons,List.drop_eq_getElem_cons hlt,List.map_cons,K7,hg i hlt]
  by_cases hc:bs[i]=c
  ·have:Nat.beq (bs[i]).toNat c.toNat=true:=by rw[hc];exact aF.2 rfl
   rw[this,cond_true]
   simp[hc]
  ·have:Nat.beq (bs[i]).toNat c.toNat=false:=dh.2 (fun e=>hc (UInt8.toNat_inj.1 e))
   have h2:(bs[i]==c)=false:=by simpa using hc
   rw[this,cond_false,h2]
   exact LG hg m (i+1) (by omega)
theorem firstIdx_eq (bs:ByteArray) (c:UInt8):firstIdx bs c=K7 c.toNat (bs.data.toList.map UInt8.toNat) 0:=by
 have hl:bs.data.toList.length=bs.size:=Array.length_toList
 have:=LG (bs:=bs.data.toList) (c:=c) (g:=fun j=>bs[j]!) (fun j h=>by
  have hj:j<bs.size:=by omega
  rw[getElem!_pos bs j hj]
  rfl) bs.size 0 (by omega)
 rw[List.drop_zero] at this
 rw[←this]
 unfold firstIdx
 rw[List.range_eq_range']
 cases List.find? (fun i=>bs[i]! ==c) (List.range' 0 bs.size)<;>rfl
theorem Sd {P:Program} {f:Nat} {fn:Func} (hf:P.funcs[f]? =some fn) (hname:(fn.name== "runtime.NumGoroutine")=false) (hb:fn.body.isNone=true) (hn:Extern.findNext fn=none) (he:Extern.find fn=some Extern.BytealgIndexByte.indexByte):E8 P f vV:=by
 intro call n _ args h K hK
 unfold vV at hK
 split at hK
 ·rename_i s c
  cases hc:Nat.blt c 256 with
  |false=>rw[hc] at hK;cases hK
  |true=>
   rw[hc,cond_true] at hK
   have hc:=bB.1 hc
   refine⟨fun v hv id e=> ?_,fun B φ w fZ H hA=> ?_⟩
   ·simp only[List.mem_cons,List.not_mem_nil,or_false] at hv
    rcases hv with rfl |rfl<;>cases e
   ·cases hA with
    |cons h1 h2=>
     cases h2 with
     |cons h2 h3=>
      cases h3
      cases h1 with
      |str hs=>
       rename_i bs
       cases h2
       have hcc:(Int.ofNat c).toNat.toUInt8.toNat=c:=by
        show(UInt8.ofNat c).toNat=c
        rw[UInt8.toNat_ofNat',Nat.mod_eq_of_lt hc]
       have he2:=firstIdx_eq bs (Int.ofNat c).toNat.toUInt8
       rw[hcc,hs] at he2
       refine Dt (v:= .int .i64 (K7 c s 0)) (cv:= .int .i64 (K7 c s 0)) hf hname hb hn he ?_ H (.int _ _) hK
       rw[←he2]
       exact run_indexByte_string bs (Int.ofNat c) w
 ·cases hK
end
noncomputable section
section
variable {P:Program} {E:Env}
def Ob (b:Nat):aj:=aj.empty.push (.gvar b)
theorem Y5 {W:World} {b:Nat} {te:TypeId} {pe:Value} (hc:W.cell? ⟨b,0,none⟩=some (.iface te pe)):
 ∃φ,bJ P (.of W.heap.size) φ (Ob b) W:=by
 have hex:∃o,W.heap[b]? =some o∧∀ds,o≠ .deferred ds:=by
  cases e:W.heap[b]? with
  |none=>simp[World.cell?,e] at hc
  |some o=>exact⟨o,rfl,fun ds q=>by subst q;simp[World.cell?,e] at hc⟩
 obtain⟨o,ho,hnd⟩:=hex
 have hlt:b<W.heap.size:=(Array.getElem?_eq_some_iff.1 ho).1
 have hget:∀id o',(Ob b).get id=some o'→id=0∧o'= .gvar b:=by
  intro id o' e
  unfold Ob at e
  rw[aj.get_push] at e
  by_cases hi:id=aj.empty.sz
  ·rw[if_pos hi] at e;cases e;exact⟨hi,rfl⟩
  ·rw[if_neg hi] at e;cases e
 let φ:dD:=fun a g=>if a=0∧g=0 then some ⟨b,0,0,0,0⟩ else none
 have hphi:∀a g L,φ a g=some L→a=0∧g=0∧L=⟨b,0,0,0,0⟩:=by
  intro a g L e
  by_cases hi:a=0∧g=0
  ·simp only[φ,hi,and_self,if_true] at e;cases e;exact⟨hi.1,hi.2,rfl⟩
  ·simp only[φ,hi,if_false] at e;cases e
 refine⟨φ,Nat.le_refl _, ?_, ?_, ?_, ?_, ?_, ?_, ?_, ?_⟩
 ·intro id g L e
  obtain⟨rfl,_,_⟩:=hphi _ _ _ e
  exact Nat.lt_succ_self 0
 ·intro id h
  have h:1≤id:=h
  unfold Ob
  rw[aj.get_push,if_neg (show id≠aj.empty.sz by show id≠0;omega)]
  rfl
 ·intro id o' e _
  obtain⟨rfl,rfl⟩:=hget _ _ e
  exact⟨⟨b,0,0,0,0⟩,te,pe,by simp[φ],rfl,hc⟩
 ·intro id g L e
  obtain⟨_,_,rfl⟩:=hphi _ _ _ e
  exact hlt
 ·intro id o' g L e e'
  obtain⟨_,rfl⟩:=hget _ _ e
  obtain⟨_,_,rfl⟩:=hphi _ _ _ e'
  exact⟨fun q=>(by cases q),fun _=>hlt⟩
 ·intro id o' id' g g' L L' e q
  obtain⟨_,rfl⟩:=hget _ _ e
  cases q
 ·intro id g L e ds
  obtain⟨_,_,rfl⟩:=hphi _ _ _ e
  show W.heap[b]? ≠_
  rw[ho]
  exact fun q=>hnd ds (Option.some.inj q)
 ·intro id o e;cases e
end
section
variable {P:Program} {E:Env}
end
section
open Go.ChangeShapes
theorem Yd {H:Type} {enc:TypeId×Value→H} {P:Program} {f:Func} {s:ChangeSpec} {apart fresh handsOn again:Bool} {W W':World} {args:Array Value} {v:Value} {ds gs:List (DataW H)} {before pa pv:List MemPlace}
 (hW:DataW.Whole enc P f.params.toList s.vars apart W args.toList ds gs before)
 (hres:∀(b:Nat) (sp:Nat→Bool) (hd:Bool),DataW.TrodAll enc P W' b sp hd f.resultTypes.toList (v.resultList f.resultTypes.size) (s.fn H (ds++gs)).results [])
 (hargs:∀sp:Nat→Bool,(∀p∈before,sp p.block=true)→DataW.TrodAll enc P W' 0 sp true f.params.toList args.toList (s.fn H (ds++gs)).args pa)
 (hvars:∀sp:Nat→Bool,(∀p∈before,sp p.block=true)→DataW.TrodVars enc P W' sp s.vars (s.fn H (ds++gs)).vars pv)
 (hps:before=pa++pv) (hk:W.keptBut W' (· ∈before)) (hfz:∀a:Addr,a.block<W.heap.size→W'.frozen? a=W.frozen? a)
 (hok:∀(j:Nat) (t:TypeId) (r:Value),f.resultTypes[j]? =some t→(v.resultList f.resultTypes.size)[j]? =some r→Value.okWide P W' .any 0 t r):
 s.post enc P f apart fresh handsOn again W args v W':=by
 have hlt:=fun p hp=>hW.lt p hp
 have hold:∀p∈before,(fun b=>decide (b<W.heap.size)) p.block=true:=fun p hp=>by simpa using hW.lt p hp
 refine⟨ds,gs,before,[],pa,pv,hW,hres _ _ _,hargs _ hold,hvars _ hold,World.keptBut_mono (fun p hp=>⟨hp, ?_⟩) hk,fun _=> ?_⟩
 ·rw[hps,List.mem_append] at hp
  exact Or.inr hp
 ·obtain⟨_,_,_,_,_,hz,hn⟩:=hW
  refine⟨hok,_,_,([]++pa)++pv,⟨[]++pa,pv,trodAll_append (hargs _ (fun _ _=>rfl)) (hres _ _ _),hvars _ (fun _ _=>rfl),rfl, ?_, ?_⟩, ?_⟩
  ·intro b off hp
   have hm:MemPlace.cell b off∈before:=by rw[hps];simpa using hp
   rw[hfz ⟨b,off,none⟩ (hlt _ hm)]
   exact hz b off hm
  ·intro ha
   have:=hn ha
   rw[hps] at this
   simpa using this
  ·intro p hp _
   rw[hps]
   simpa using hp
end
end
end Go.Ab
