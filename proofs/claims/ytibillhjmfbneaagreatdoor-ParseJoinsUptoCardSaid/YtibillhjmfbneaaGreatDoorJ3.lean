/-
  Texts that the claim hangs on, part 4.
-/
import Derived.Test.YtibillhjmfbneaaGreatDoorJ2
import Derived.Laws.Externs
import GoSem.Extern.MapsClone
import Derived.Lib.Builder
import Derived.ChangeSame
set_option linter.unusedSimpArgs false
set_option linter.unusedVariables false
namespace Go.Ab
noncomputable section
def nM (call:bM) (f:AV) (args:List AV) (h:aj) (K:aM):Bool:=
 match f with
 | .fn tgt first cap=>call tgt (first++args++cap) h K
 |_=>false
def Ry (c a b:AV):Option AV:=
 match c with
 | .bool x=>match x with |true=>some a |false=>some b
 |_=>none
def Ey (h:aj) (neg:Bool) (k:EqK) (a b:AV):Option AV:=
 match XU h k a b with
 |some r=>some (.bool (bif neg then !r else r))
 |none=>none
def qC (cells:List AV):List (Nat×Nat×AV)→Option (List AV)
 | []=>some cells
 |(off,n,v) :: rest=>bif Nat.beq v.cells.length n&&Nat.ble (off+n) cells.length&&aD v.cells then qC (lay cells off v.cells) rest else none
def qV (z:List AV) (ps:List (Nat×Nat×AV)):Option AV:=
 match qC z ps with
 |some l=>some (.agg l)
 |none=>none
def lg (sz:Nat) (es:List (List AV)):List (Nat×AV)→Option (List (List AV))
 | []=>some es
 |(i,v) :: rest=>bif Nat.beq v.cells.length sz&&Nat.blt i es.length&&aD v.cells then lg sz (mh es i v.cells) rest else none
def bI (h:aj) (n sz:Nat) (z:List AV) (ps:List (Nat×AV)):Option (AV×aj):=
 bif Nat.beq z.length sz&&Nat.blt 0 sz&&Nat.ble (n*sz) 16777216&&aD z then
  (match lg sz (yF n z) ps with
  |some es=>some (.slc h.sz 0 0 n n true,newRow h es sz)
  |none=>none)
 else none
def tX (d:Nat):Option AV→Option Nat
 |none=>some d
 |some v=>asNat v
def Uv (h:aj) (sz:Nat) (x:AV) (lo hi mx:Option AV):Option AV:=
 match x with
 | .slc id g s len cap ex=>
   bif qE h id sz then
   match mx with
   |some m=>match tX 0 (some m),tX len hi,tX 0 lo with
    |some m,some h,some l=>bif Nat.ble l h&&Nat.ble h m&&Nat.ble m cap&&hi.isSome then some (.slc id g (s+l) (h-l) (m-l) true) else none
    |_,_,_=>none
   |none=>match tX len hi,tX 0 lo with
    |some h,some l=>bif Nat.ble l h&&Nat.ble h cap then some (.slc id g (s+l) (h-l) (cap-l) ex) else none
    |_,_=>none
   else none
 | .ah=>
   match tX 0 mx,tX 0 hi,tX 0 lo with
   |some 0,some 0,some 0=>bif mx.isNone||hi.isSome then some .ah else none
   |_,_,_=>none
 | .emp=>
   match tX 0 mx,tX 0 hi,tX 0 lo with
   |some 0,some 0,some 0=>bif mx.isNone||hi.isSome then some .emp else none
   |_,_,_=>none
 |_=>none
def nK (x:AV) (lo hi:Option AV):Option AV:=
 match x with
 | .str s=>match tX s.length hi,tX 0 lo with
   |some h,some l=>bif Nat.ble l h&&Nat.ble h s.length then some (.str ((s.take h).drop l)) else none
   |_,_=>none
 |_=>none
def MK (d:Nat) (o:Option AV) (k:Nat→Bool):Bool:=@Option.rec AV (fun _=>Bool) (k d) (fun v=>PZ v k) o
theorem Qr (d:Nat) (o:Option AV) (k:Nat→Bool):MK d o k=bQ (tX d o) k:=by
 cases o with
 |none=>rfl
 |some v=>exact Ig v k
def ac0 (s:List Nat) (lo hi:Option AV) (k:AV→Bool):Bool:=
 @Option.rec AV (fun _=>Bool) (MK 0 lo fun l=>kF (Nat.ble l (pK s)) (k (.str (yQ l s))) false)
  (fun v=>PZ v fun m=>MK 0 lo fun l=>kF (Nat.ble l m) (kF (Nat.ble m (pK s)) (k (.str (AL (Nat.sub m l) (yQ l s)))) false) false) hi
def aiU (x:AV) (k:List Nat→Bool):Bool:=
 match x with
 | .str s=>k s
 |_=>false
def NR (x:AV) (lo hi:Option AV) (k:AV→Bool):Bool:=aiU x fun s=>ac0 s lo hi k
theorem XD (x:AV) (lo hi:Option AV) (k:AV→Bool):NR x lo hi k=bQ (nK x lo hi) k:=by
 cases x<;>try rfl
 rename_i s
 show ac0 s lo hi k=_
 cases hi with
 |none=>
  have e0:ac0 s lo none k=MK 0 lo (fun l=>kF (Nat.ble l (pK s)) (k (.str (yQ l s))) false):=rfl
  rw[e0,Qr]
  simp only[nK,show tX s.length none=some s.length from rfl]
  cases tX 0 lo with
  |none=>rfl
  |some l=>
   show kF (Nat.ble l (pK s)) _ false=bQ (bif Nat.ble l s.length&&Nat.ble s.length s.length then _ else none) k
   have e:Nat.ble s.length s.length=true:=aI.2 (Nat.le_refl _)
   rw[nI,mM,e,Bool.and_true,wF,List.take_length]
   rfl
 |some v=>
  have e0:ac0 s lo (some v) k=PZ v (fun m=>MK 0 lo fun l=>kF (Nat.ble l m) (kF (Nat.ble m (pK s)) (k (.str (AL (Nat.sub m l) (yQ l s)))) false) false):=rfl
  rw[e0,Ig]
  simp only[nK,show tX s.length (some v)=asNat v from rfl]
  cases asNat v with
  |none=>rfl
  |some m=>
   show(MK 0 lo fun l=>kF (Nat.ble l m) (kF (Nat.ble m (pK s)) (k (.str (AL (Nat.sub m l) (yQ l s)))) false) false)=_
   rw[Qr]
   cases tX 0 lo with
   |none=>rfl
   |some l=>
    show kF (Nat.ble l m) (kF (Nat.ble m (pK s)) _ false) false=bQ (bif Nat.ble l m&&Nat.ble m s.length then _ else none) k
    rw[nI,mM,wF,ze]
    cases Nat.ble l m with
    |false=>rfl
    |true=>
     cases Nat.ble m s.length with
     |false=>rfl
     |true=>
      show k _=k _
      rw[List.drop_take]
      rfl
def aar (ps:List (Nat×Nat×AV)):List AV→Option (List AV):=
 @List.rec (Nat×Nat×AV) (fun _=>List AV→Option (List AV)) (fun cells=>some cells)
  (fun p _ ih cells=>kF (Nat.beq (pK (qW p.2.2)) p.2.1) (kF (Nat.ble (Nat.add p.1 p.2.1) (pK cells)) (kF (vS (qW p.2.2)) (ih (MI (qW p.2.2) p.1 cells)) none) none) none) ps
theorem Q7:∀(ps:List (Nat×Nat×AV)) (cells:List AV),aar ps cells=qC cells ps
 | [],cells=>rfl
 |(off,n,v) :: ps,cells=>by
  show kF (Nat.beq (pK (qW v)) n) (kF (Nat.ble (off+n) (pK cells)) (kF (vS (qW v)) (aar ps (MI (qW v) off cells)) none) none) none=_
  simp only[rZ,Nw,mM,yE,qC,Q7 ps]
  cases h1:Nat.beq v.cells.length n with
  |false=>rfl
  |true=>
   cases h2:Nat.ble (off+n) cells.length with
   |false=>rfl
   |true=>
    rw[Ls off cells (by have:=aI.1 h2;omega)]
    rfl
def dX (z:List AV) (ps:List (Nat×Nat×AV)) (k:AV→Bool):Bool:=@Option.rec (List AV) (fun _=>Bool) false (fun l=>k (.agg l)) (aar ps z)
theorem Mi (z:List AV) (ps:List (Nat×Nat×AV)) (k:AV→Bool):dX z ps k=bQ (qV z ps) k:=by
 unfold dX qV
 rw[Q7]
 cases qC z ps<;>rfl
def adf (es:List (List AV)) (s len:Nat) (k:List (List AV)→Bool):Bool:=
 kF (Nat.beq (pK (AL len (yQ s es))) len) (k (AL len (yQ s es))) false
def Yk (es:List (List AV)) (s len:Nat) (k:List (List AV)→Bool):Bool:=
 kF (Nat.beq s 0) (kF (Nat.beq (pK es) len) (k es) (adf es s len k)) (adf es s len k)
def agO (h:aj) (sz:Nat) (x:AV) (k:List (List AV)→Bool):Bool:=
 match x with
 | .slc id g s len _ _=>kF (Nat.beq len 0) (k []) (Az h id fun r=>kF (Nat.ble r.m g) (kF (Nat.beq r.sz sz) (Yk r.es s len k) false) false)
 |x=>bQ (source h sz x) k
theorem Ws (es:List (List AV)) (s len:Nat) (k:List (List AV)→Bool):Yk es s len k=bQ (bif Nat.beq ((es.drop s).take len).length len then some ((es.drop s).take len) else none) k:=by
 have e1:adf es s len k=bQ (bif Nat.beq ((es.drop s).take len).length len then some ((es.drop s).take len) else none) k:=by
  unfold adf
  rw[ze,wF,mM,nI]
  rfl
 unfold Yk
 rw[e1,rZ,rZ,mM]
 cases h1:Nat.beq s 0 with
 |false=>rfl
 |true=>
  cases h2:Nat.beq es.length len with
  |false=>rfl
  |true=>
   have h1:=aF.1 h1
   have h2:=aF.1 h2
   subst h1
   rw[List.drop_zero,List.take_of_length_le (by omega),aF.2 h2]
   rfl
theorem adR (h:aj) (sz:Nat) (x:AV) (k:List (List AV)→Bool):agO h sz x k=bQ (source h sz x) k:=by
 cases x<;>try rfl
 rename_i id g s len c ex
 show kF (Nat.beq len 0) (k []) (Az h id _)=_
 rw[rZ,wN]
 simp only[source]
 cases Nat.beq len 0 with
 |true=>rfl
 |false=>
  simp only[cond_false]
  cases h.row id with
  |none=>rfl
  |some r=>
   show kF (Nat.ble r.m g) (kF (Nat.beq r.sz sz) (Yk r.es s len k) false) false=bQ (bif Nat.ble r.m g&&Nat.beq r.sz sz then _ else none) k
   rw[nI,Ws]
   cases Nat.ble r.m g with
   |false=>rfl
   |true=>cases Nat.beq r.sz sz<;>rfl
def ags (len m bytes:Nat) (r:Bool):Bool:=kF (Nat.ble (Nat.mul (Nat.add len m) bytes) most) (kF (Nat.ble (Nat.add len m) most) r false) false
def appW (h:aj) (sz bytes id g st len cap:Nat) (ex:Bool) (new:List (List AV)) (m:Nat) (r:Row) (k:aM):Bool:=
 ags len m bytes (kF (Nat.beq r.sz sz)
  (kF (Nat.ble (Nat.add len m) cap)
    (kF r.rw (kF (Nat.beq g r.g) (k (.slc id g st (Nat.add len m) cap ex) {sz:=h.sz,t:=h.t.set id (.row {es:=lay r.es (Nat.add st len) new,sz:=r.sz,g:=r.g,m:=r.g,rw:=r.rw,ty:=r.ty})}) false) false)
    (kF ex (kF (Nat.ble r.m g) (Yk r.es st len fun old=>k (.slc h.sz 0 0 (Nat.add len m) (Nat.add len m) false) (newRow h (Uo old new) sz)) false)
      (kF r.rw (kF (Nat.beq g r.g) (kF (Nat.beq st 0)
        (kF (Nat.beq len (pK r.es)) (k (.slc id (Nat.succ r.g) 0 (Nat.add len m) (Nat.add len m) false) {sz:=h.sz,t:=h.t.set id (.row {es:=Uo r.es new,sz:=r.sz,g:=Nat.succ r.g,m:=r.m,rw:=r.rw,ty:=qh r.ty none})})
          (k (.slc id (Nat.succ r.g) 0 (Nat.add len m) (Nat.add len m) false) {sz:=h.sz,t:=h.t.set id (.row {es:=Uo (AL len r.es) new,sz:=r.sz,g:=Nat.succ r.g,m:=Nat.succ r.g,rw:=r.rw,ty:=qh r.ty none})})) false) false) false))) false)
def oq (h:aj) (sz bytes:Nat) (s x:AV) (k:aM):Bool:=
 agO h sz x fun new=>match s with
  | .slc id g st len cap ex=>(match new with
    | []=>aY (iN h sz bytes s new) k
    |_=>Az h id fun r=>appW h sz bytes id g st len cap ex new (pK new) r k)
  |s=>aY (iN h sz bytes s new) k
theorem yC (c:Bool) (o:Option (AV×aj)) (k:aM):aY (bif c then o else none) k=kF c (aY o k) false:=by cases c<;>rfl
theorem Wd (h:aj) (sz bytes:Nat) (s x:AV) (k:aM) (hs:Nat.beq sz 0=false):oq h sz bytes s x k=aY (iQ h sz bytes s x) k:=by
 unfold oq iQ
 rw[hs,cond_false,adR]
 cases source h sz x with
 |none=>rfl
 |some new=>
  show _=aY (iN h sz bytes s new) k
  cases s<;>try rfl
  rename_i id g st len cap ex
  cases new with
  |nil=>rfl
  |cons y l=>
   show Az h id _=_
   rw[wN]
   simp only[iN]
   cases h.row id with
   |none=>rfl
   |some r=>
    show appW h sz bytes id g st len cap ex (y :: l) (pK (y :: l)) r k=_
    unfold appW ags
    rw[mM]
    generalize(y :: l).length=m
    show kF (Nat.ble ((len+m)*bytes) most) (kF (Nat.ble (len+m) most) (kF (Nat.beq r.sz sz) _ false) false) false=_
    rw[yC]
    cases Nat.ble ((len+m)*bytes) most with
    |false=>rfl
    |true=>
    cases Nat.ble (len+m) most with
    |false=>rfl
    |true=>
    cases Nat.beq r.sz sz with
    |false=>rfl
    |true=>
    show kF (Nat.ble (len+m) cap) _ _=aY (bif Nat.ble (len+m) cap then _ else _) k
    cases Nat.ble (len+m) cap with
    |true=>
     show kF r.rw (kF (Nat.beq g r.g) _ false) false=aY (bif r.rw&&Nat.beq g r.g then _ else none) k
     rw[yC]
     cases hrw:r.rw with
     |false=>rfl
     |true=>
      cases Nat.beq g r.g with
      |false=>rfl
      |true=>
       show k _ _=k _ _
       simp only[aj.put,hrw]
       rfl
    |false=>
    cases ex with
    |true=>
     show kF (Nat.ble r.m g) (Yk r.es st len _) false=aY (bif Nat.ble r.m g then _ else none) k
     rw[yC,Ws]
     cases Nat.ble r.m g with
     |false=>rfl
     |true=>
      show bQ (bif Nat.beq ((r.es.drop st).take len).length len then _ else none) _=aY (bif Nat.beq ((r.es.drop st).take len).length len then _ else none) k
      rw[nI,yC]
      cases Nat.beq ((r.es.drop st).take len).length len with
      |false=>rfl
      |true=>
       show k _ (newRow h (Uo _ (y :: l)) sz)=k _ _
       rw[D7]
       rfl
    |false=>
     show kF r.rw (kF (Nat.beq g r.g) (kF (Nat.beq st 0) _ false) false) false=aY (bif r.rw&&Nat.beq g r.g&&Nat.beq st 0 then _ else none) k
     rw[yC]
     cases hrw:r.rw with
     |false=>rfl
     |true=>
     cases Nat.beq g r.g with
     |false=>rfl
     |true=>
     cases Nat.beq st 0 with
     |false=>rfl
     |true=>
      show kF (Nat.beq len (pK r.es)) _ _=aY (bif Nat.beq len r.es.length then _ else _) k
      rw[mM,D7,D7,ze]
      cases Nat.beq len r.es.length with
      |true=>
       show k _ _=k _ _
       simp only[aj.put,hrw]
       rfl
      |false=>
       show k _ _=k _ _
       simp only[aj.put,hrw]
       rfl
def qb (h:aj) (z:List AV):Option (AV×aj):=qQ h z
def Tx (h:aj) (t:Nat) (z:List AV):Option (AV×aj):=bif Nat.blt 0 z.length&&aD z then some (.ptr h.sz 0 0 0,newRow h [z] z.length (some t)) else none
def aad (h:aj) (e:Nat) (s x:AV):Option (AV×aj):=iQ h 1 1 s x (some e)
def mmV (mx:Bool):List AV→Option AV
 |v :: l=>mmA mx v l
 | []=>none
def zl (h:aj):Option (AV×aj):=some (.map h.sz,h.push (.map [] 0))
abbrev gq:=List (Nat×AV)
def gq.get:gq→Nat→Option AV
 | [],_=>none
 |(k,v) :: l,n=>bif Nat.beq n k then some v else gq.get l n
def Has (ρ:dz) (l:gq):Prop:=∀k v,l.get k=some v→ρ.get k=some v
theorem Has.nil {ρ:dz}:Has ρ []:=fun _ _ h=>by cases h
theorem Has.set {ρ:dz} {l:gq} (H:Has ρ l) (d:Nat) (v:AV):Has (ρ.set d v) ((d,v) :: l):=by
 intro k u h
 rw[PT.get_set]
 simp only[gq.get] at h
 cases hb:Nat.beq k d with
 |true=>
  rw[hb,cond_true] at h
  rw[if_pos (Nat.eq_of_beq_eq_true hb)]
  exact h
 |false=>
  rw[hb,cond_false] at h
  rw[if_neg (dn.1 hb)]
  exact H k u h
def CZ:List Nat→gq→Option gq
 | [],_=>some []
 |k :: ks,l=>match l.get k with
  |some v=>match CZ ks l with
   |some m=>some ((k,v) :: m)
   |none=>none
  |none=>none
theorem Mj:∀{ks:List Nat} {l m:gq},CZ ks l=some m→∀k v,m.get k=some v→l.get k=some v
 | [],l,m,h,k,v,e=>by simp only[CZ] at h;cases h;cases e
 |k :: ks,l,m,h,j,v,e=>by
  simp only[CZ] at h
  split at h
  ·rename_i u hu
   split at h
   ·rename_i m' hm
    cases h
    simp only[gq.get] at e
    cases hb:Nat.beq j k with
    |true=>rw[hb,cond_true] at e;cases e;rw[Nat.eq_of_beq_eq_true hb];exact hu
    |false=>rw[hb,cond_false] at e;exact Mj hm j v e
   ·cases h
  ·cases h
theorem Has.keep {ρ:dz} {l m:gq} (H:Has ρ l) (ks:List Nat) (h:CZ ks l=some m):Has ρ m:=fun k v e=>H k v (Mj h k v e)
def oZ (l:gq):bY→Option AV
 | .t r=>l.get r
 | .c v=>some v
def KJ (l:gq):List bY→Option (List AV)
 | []=>some []
 |x :: xs=>match oZ l x with
  |some v=>match KJ l xs with
   |some vs=>some (v :: vs)
   |none=>none
  |none=>none
def E8 (l:gq):Option bY→Option (Option AV)
 |none=>some none
 |some x=>match oZ l x with
  |some v=>some (some v)
  |none=>none
def Gm (l:gq):List (Nat×Nat×bY)→Option (List (Nat×Nat×AV))
 | []=>some []
 |(a,b,x) :: xs=>match oZ l x with
  |some v=>match Gm l xs with
   |some vs=>some ((a,b,v) :: vs)
   |none=>none
  |none=>none
def JY (l:gq):List (Nat×bY)→Option (List (Nat×AV))
 | []=>some []
 |(a,x) :: xs=>match oZ l x with
  |some v=>match JY l xs with
   |some vs=>some ((a,v) :: vs)
   |none=>none
  |none=>none
theorem iF {ρ:dz} {l:gq} (H:Has ρ l) {x:bY} {v:AV} (h:oZ l x=some v):ev ρ x=some v:=by
 cases x with
 |t r=>exact H r v h
 |c u=>exact h
theorem Dy {ρ:dz} {l:gq} (H:Has ρ l):∀{xs:List bY} {vs:List AV},KJ l xs=some vs→evs ρ xs=some vs
 | [],vs,h=>by simpa[KJ,evs] using h
 |x :: xs,vs,h=>by
  simp only[KJ] at h
  split at h
  ·rename_i v hv
   split at h
   ·rename_i vs' hvs
    cases h
    simp only[evs,iF H hv,Dy H hvs]
   ·cases h
  ·cases h
theorem wK {ρ:dz} {l:gq} (H:Has ρ l) {d:Nat} {x:Option bY} {o:Option AV} (h:E8 l x=some o):nZ ρ d x=tX d o∧x.isSome=o.isSome∧x.isNone=o.isNone∧(x=none↔o=none):=by
 cases x with
 |none=>simp only[E8] at h;cases h;exact⟨rfl,rfl,rfl,by simp⟩
 |some x=>
  simp only[E8] at h
  split at h
  ·rename_i v hv
   cases h
   exact⟨by simp only[nZ,iF H hv,tX],rfl,rfl,by simp⟩
  ·cases h
theorem Qs {ρ:dz} {l:gq} (H:Has ρ l):∀{ps:List (Nat×Nat×bY)} {vs:List (Nat×Nat×AV)} {cells:List AV},Gm l ps=some vs→xR ρ cells ps=qC cells vs
 | [],vs,cells,h=>by simp only[Gm] at h;cases h;rfl
 |(a,b,x) :: ps,vs,cells,h=>by
  simp only[Gm] at h
  split at h
  ·rename_i v hv
   split at h
   ·rename_i vs' hvs
    cases h
    simp only[xR,qC,iF H hv]
    rw[Qs H hvs]
   ·cases h
  ·cases h
theorem GA {ρ:dz} {l:gq} (H:Has ρ l) {sz:Nat}:∀{ps:List (Nat×bY)} {vs:List (Nat×AV)} {es:List (List AV)},JY l ps=some vs→lS ρ sz es ps=lg sz es vs
 | [],vs,es,h=>by simp only[JY] at h;cases h;rfl
 |(a,x) :: ps,vs,es,h=>by
  simp only[JY] at h
  split at h
  ·rename_i v hv
   split at h
   ·rename_i vs' hvs
    cases h
    simp only[lS,lg,iF H hv]
    rw[GA H hvs]
   ·cases h
  ·cases h
def l1 (l:gq) (x:bY) (f:AV→Option AV):Option (Option AV):=
 match oZ l x with
 |some v=>some (f v)
 |none=>none
def l2 (l:gq) (x y:bY) (f:AV→AV→Option AV):Option (Option AV):=
 match oZ l x with
 |some v=>match oZ l y with
  |some w=>some (f v w)
  |none=>none
 |none=>none
def lM (l:gq) (h:aj) (op:fP):Option (Option AV):=
 match op with
 | .mv x=>match oZ l x with
   |some v=>some (some v)
   |none=>none
 | .pick c a b=>match oZ l c,oZ l a,oZ l b with
   |some c,some a,some b=>some (Ry c a b)
   |_,_,_=>none
 | .build z ps=>match Gm l ps with
   |some vs=>some (qV z vs)
   |none=>none
 | .load ag n a=>l1 l a (eP h ag n)
 | .nilck x=>l1 l x Ga
 | .bin op x y=>l2 l x y (eZ op)
 | .eq neg k x y=>l2 l x y (Ey h neg k)
 | .not x=>l1 l x Yq
 | .neg x=>l1 l x YH
 | .conv k x=>l1 l x (Wq k)
 | .b2s x=>l1 l x (acD h)
 | .cvs x=>l1 l x afh
 | .mkfn f a b=>match KJ l a with
   |some a=>match KJ l b with
    |some b=>some (some (.fn (.func f) a b))
    |none=>none
   |none=>none
 | .sl sz x lo hi mx=>match oZ l x,E8 l lo,E8 l hi,E8 l mx with
   |some v,some lo,some hi,some mx=>some (Uv h sz v lo hi mx)
   |_,_,_,_=>none
 | .sls x lo hi=>match oZ l x,E8 l lo,E8 l hi with
   |some v,some lo,some hi=>some (nK v lo hi)
   |_,_,_=>none
 | .fadr off x=>l1 l x (Mv off)
 | .fld ag off n x=>l1 l x (L6 ag off n)
 | .iadr sz x i=>l2 l x i (qD h sz)
 | .iadra len esz x i=>l2 l x i (OT len esz)
 | .idxs x i=>l2 l x i mV
 | .idxa ag len esz x i=>l2 l x i (Wi ag len esz)
 | .look kk ok z m k=>l2 l m k (tu h kk ok z)
 | .ext x i=>l1 l x (UR i)
 | .len k x=>l1 l x (Bu h k)
 | .cap x=>l1 l x adh
 | .mm mx xs=>match KJ l xs with
   |some vs=>some (mmV mx vs)
   |none=>none
 | .ent x=>l1 l x (adk h)
 | .uto x=>l1 l x (Ul h)
 | .ufr t n us x=>l1 l x (VL h t n us)
 | .sdat x=>l1 l x J3
 | .mkif t x=>l1 l x (Sc t)
 | .tas t ok z x=>l1 l x (adP t ok z)
 |_=>none
def He (l:gq) (h:aj) (op:fP):Option (Option (AV×aj)):=
 match op with
 | .alloc z=>some (qb h z)
 | .box ty n x=>match oZ l x with
   |some v=>some (nU h ty n v)
   |none=>none
 | .bslice n sz z ps=>match JY l ps with
   |some vs=>some (bI h n sz z vs)
   |none=>none
 | .store n a v=>match oZ l a,oZ l v with
   |some a,some v=>some (unit (cZ h n a v))
   |_,_=>none
 | .mkmap=>some (zl h)
 | .mksl sz bytes z a c=>match oZ l a,oZ l c with
   |some a,some c=>some (CF h sz bytes z a c)
   |_,_=>none
 | .mupd kk m k v=>match oZ l m,oZ l k,oZ l v with
   |some m,some k,some v=>some (unit (lJ h kk m k v))
   |_,_,_=>none
 | .app sz bytes s x=>match oZ l s,oZ l x with
   |some s,some x=>some (iQ h sz bytes s x)
   |_,_=>none
 | .appz sz bytes z s x=>match oZ l s,oZ l x with
   |some s,some x=>some (ab3 h sz bytes z s x)
   |_,_=>none
 | .copy sz d s=>match oZ l d,oZ l s with
   |some d,some s=>some (XQ h sz d s)
   |_,_=>none
 | .del kk m k=>match oZ l m,oZ l k with
   |some m,some k=>some (unit (acT h kk m k))
   |_,_=>none
 | .clr sz z x=>match oZ l x with
   |some v=>some (unit (adw h sz z v))
   |none=>none
 | .rng x=>match oZ l x with
   |some v=>some (acs h v)
   |none=>none
 | .allot t z=>some (Tx h t z)
 | .appb e s x=>match oZ l s,oZ l x with
   |some s,some x=>some (aad h e s x)
   |_,_=>none
 | .ustr e p n=>match oZ l p,oZ l n with
   |some p,some n=>some (Hy h e p n)
   |_,_=>none
 | .stw n a v b=>match oZ l a,oZ l v,oZ l b with
   |some a,some v,some b=>some (bif rW a b then unit (cZ h n a v) else none)
   |_,_,_=>none
 |_=>none
section
variable {ρ:dz} {l:gq} {h:aj} {op:fP}
theorem aeH (H:Has ρ l) {x:bY} {f:AV→Option AV} {o:Option AV} (e:l1 l x f=some o):uh ρ x f=o:=by
 unfold l1 at e
 split at e
 ·rename_i v hv;cases e;simp only[uh,iF H hv]
 ·cases e
theorem aft (H:Has ρ l) {x y:bY} {f:AV→AV→Option AV} {o:Option AV} (e:l2 l x y f=some o):ZF ρ x y f=o:=by
 unfold l2 at e
 split at e
 ·rename_i v hv
  split at e
  ·rename_i w hw;cases e;simp only[ZF,iF H hv,iF H hw]
  ·cases e
 ·cases e
theorem YU (H:Has ρ l) {sz:Nat} {v:AV} {lo hi mx:Option bY} {a b c:Option AV} (h1:E8 l lo=some a) (h2:E8 l hi=some b) (h3:E8 l mx=some c):yB ρ h sz v lo hi mx=Uv h sz v a b c:=by
 have e1:=fun d=>wK H (d:=d) h1
 have e2:=fun d=>wK H (d:=d) h2
 have e3:=fun d=>wK H (d:=d) h3
 unfold yB Uv
 cases v<;>simp only[(e1 0).1,(e2 _).1,(e3 0).1,(e2 0).2.1,(e3 0).2.2.1]
 ·cases mx with
  |none=>
   have:c=none:=(e3 0).2.2.2.1 rfl
   subst this;rfl
  |some m=>
   cases c with
   |none=>have:=(e3 0).2.2.2.2 rfl;cases this
   |some c=>
    have:=(e3 0).1
    simp only[this]
    rfl
 ·rfl
 ·rfl
theorem sQ (H:Has ρ l) {o:Option AV} (e:lM l h op=some o):aO ρ h op=bT o h∧dK op=false:=by
 unfold lM at e
 split at e
 case h_1 x=>
  split at e
  ·rename_i v hv;cases e;simp only[aO,iF H hv,dK,and_self]
  ·cases e
 case h_2 c a b=>
  split at e
  ·rename_i c' a' b' h1 h2 h3
   cases e
   refine⟨?_,rfl⟩
   simp only[aO,iF H h1,iF H h2,iF H h3]
   cases c'<;>try rfl
   rename_i x;cases x<;>rfl
  ·cases e
 case h_3 z ps=>
  split at e
  ·rename_i vs hvs
   cases e
   refine⟨?_,rfl⟩
   simp only[aO,Qs H hvs,qV]
   cases qC z vs<;>rfl
  ·cases e
 case h_7 neg k x y=>
  unfold l2 at e
  split at e
  ·rename_i v hv
   split at e
   ·rename_i w hw
    cases e
    refine⟨?_,rfl⟩
    simp only[aO,iF H hv,iF H hw,Ey]
    cases XU h k v w<;>rfl
   ·cases e
  ·cases e
 case h_13 f a b=>
  split at e
  ·rename_i a' ha
   split at e
   ·rename_i b' hb
    cases e
    exact⟨by simp only[aO,Dy H ha,Dy H hb,bT],rfl⟩
   ·cases e
  ·cases e
 case h_14 sz x lo hi mx=>
  split at e
  ·rename_i v a b c h0 h1 h2 h3
   cases e
   exact⟨by simp only[aO,uh,iF H h0,YU H h1 h2 h3],rfl⟩
  ·cases e
 case h_15 x lo hi=>
  split at e
  ·rename_i v a b h0 h1 h2
   cases e
   refine⟨?_,rfl⟩
   simp only[aO,uh,iF H h0]
   congr 1
   unfold Kw nK
   cases v<;>simp only[(wK H h1).1,(wK H h2).1]
   rfl
  ·cases e
 case h_26 mx xs=>
  split at e
  ·rename_i vs hvs
   cases e
   refine⟨?_,rfl⟩
   simp only[aO,Dy H hvs]
   cases vs<;>rfl
  ·cases e
 all_goals first
  |exact⟨by simp only[aO];rw[aeH H e],rfl⟩
  |exact⟨by simp only[aO];rw[aft H e],rfl⟩
  |cases e
theorem M7 (H:Has ρ l) {o:Option (AV×aj)} (e:He l h op=some o):aO ρ h op=o∧dK op=false:=by
 unfold He at e
 split at e
 case h_1 z=>cases e;exact⟨rfl,rfl⟩
 case h_3 n sz z ps=>
  split at e
  ·rename_i vs hvs
   cases e
   refine⟨?_,rfl⟩
   simp only[aO,bI,GA H hvs]
   rfl
  ·cases e
 case h_5=>cases e;exact⟨rfl,rfl⟩
 case h_14=>cases e;exact⟨rfl,rfl⟩
 case h_15=>
  split at e
  ·rename_i h1 h2
   cases e
   refine⟨?_,rfl⟩
   simp only[aO,iF H h1,iF H h2]
   rfl
  ·cases e
 all_goals first
  |cases e;done
  |(split at e
    ·cases e
     refine⟨?_,rfl⟩
     rename_i h1
     simp only[aO,iF H h1]
    ·cases e)
  |(split at e
    ·cases e
     refine⟨?_,rfl⟩
     rename_i h1 h2
     simp only[aO,iF H h1,iF H h2]
    ·cases e)
  |(split at e
    ·cases e
     refine⟨?_,rfl⟩
     rename_i h1 h2 h3
     simp only[aO,iF H h1,iF H h2,iF H h3]
    ·cases e)
def Le (c c':bM):Prop:=∀t a h (K K':aM),c t a h K=true→(∀v h',K v h'=true→K' v h'=true)→c' t a h K'=true
abbrev KLe (K K':aM):Prop:=∀v h',K v h'=true→K' v h'=true
variable {call call':bM}
theorem abk (hc:Le call call') {f:AV} {vs:List AV} {k k':aM} (s:nM call f vs h k=true) (hk:KLe k k'):nM call' f vs h k'=true:=by
 unfold nM at s ⊢
 cases f<;>first |(cases s;done)|exact hc _ _ _ _ _ s hk
theorem Nj {v:AV} {k k':aM} (s:IY h v k=true) (hk:∀l h',k (.tup l) h'=true→k' (.tup l) h'=true):IY h v k'=true:=by
 unfold IY at s ⊢
 split at s<;>first |(cases s;done)|skip
 split at s<;>first |(cases s;done)|exact hk _ _ s |skip
 split at s<;>first |(cases s;done)|skip
 rename_i es clock hes
 cases hb:(!List.isEmpty _&& !List.isEmpty es&&es.all _) with
 |true=>rw[hb,cond_true] at s;cases s
 |false=>
  rw[hb,cond_false] at s
  simp only[cond_false]
  rw[List.all_eq_true] at s ⊢
  intro x hx
  have:=s x hx
  cases x with
  |none=>exact hk _ _ this
  |some e=>exact hk _ _ this
theorem abG (hc:Le call call') {K K':aM} (s:gY call ρ h op K=true) (hk:KLe K K'):gY call' ρ h op K'=true:=by
 cases hn:dK op with
 |false=>
  rw[ko hn] at s ⊢
  split at s
  ·exact hk _ _ s
  ·cases s
 |true=>
  cases op<;>first |(cases hn;done)|skip
  case call f xs=>
   simp only[gY] at s ⊢
   split at s
   ·exact hc _ _ _ _ _ s hk
   ·cases s
  case nxt x=>
   simp only[gY] at s ⊢
   split at s
   ·exact Nj s fun l h'=>hk _ _
   ·cases s
  case pnc x=>
   simp only[gY] at s ⊢
   split at s
   ·exact hk _ _ s
   ·cases s
  case dfr f xs=>cases s
  case rcv=>cases s
theorem SF (hc:Le call call') {o:aU} {σ:St} {k k':KSt} (s:jO call o σ k=true) (hk:∀v σ',k v σ'=true→k' v σ'=true):jO call' o σ k'=true:=by
 unfold jO at s ⊢
 split at s
 ·exact abG hc s fun v h' hv=>hk _ _ hv
 ·exact hk _ _ s
 ·cases s
abbrev Uj (K K':oM):Prop:=∀x σ,K x σ=true→K' x σ=true
theorem Pj (hc:Le call call'):∀{ops:List aU} {σ:St} {k k':oM},nS call ops σ k=true→Uj k k'→nS call' ops σ k'=true
 | [],σ,k,k',s,hk=>hk _ _ s
 |o :: ops,σ,k,k',s,hk=>by
  simp only[nS] at s ⊢
  refine SF hc s fun v σ' hv=> ?_
  cases hp:qA (dK o.op) v with
  |none=>rw[hp] at hv;exact Pj hc hv hk
  |some x=>rw[hp] at hv;exact hk _ _ hv
theorem WA (hc:Le call call') {ρ0:dz}:∀{ops:List (aU×List aU×List aU)} {es:List Nat} {σ:St} {k k':oM},oI call ρ0 es ops σ k=true→Uj k k'→oI call' ρ0 es ops σ k'=true
 | [],es,σ,k,k',s,hk=>hk _ _ s
 |(act,chk,ns) :: ops,es,σ,k,k',s,hk=>by
  simp only[oI] at s ⊢
  refine SF hc s fun v σ' hv=> ?_
  cases hp:qA (dK act.op) v with
  |some x=>
   rw[hp] at hv
   simp only at hv ⊢
   split at hv
   ·exact hk _ _ hv
   ·cases hv
  |none=>
   rw[hp] at hv
   simp only at hv ⊢
   cases ha:again σ'.regs σ'.h chk with
   |false=>rw[ha] at hv;cases hv
   |true=>
    rw[ha] at hv
    simp only[cond_true] at hv ⊢
    split at hv
    ·exact WA hc hv hk
    ·cases hv
theorem WW {f f':St→oM→Bool} {K K':oM} (hf:∀σ (k k':oM),f σ k=true→Uj k k'→f' σ k'=true) (hK:Uj K K'):∀(n:Nat) (σ:St),iter f K n σ=true→iter f' K' n σ=true
 |0,σ,s=>by cases s
 |n+1,σ,s=>by
  simp only[iter] at s ⊢
  refine hf _ _ _ s fun x σ' hx=> ?_
  cases x with
  |normal=>exact WW hf hK n σ' hx
  |_=>exact hK _ _ hx
theorem P5 {l:Nat} {f f':St→oM→Bool} {K K':oM} (hf:∀σ (k k':oM),f σ k=true→Uj k k'→f' σ k'=true) (hK:Uj K K'):∀(n:Nat) (σ:St),uQ l f K n σ=true→uQ l f' K' n σ=true
 |0,σ,s=>by cases s
 |n+1,σ,s=>by
  simp only[uQ] at s ⊢
  refine hf _ _ _ s fun x σ' hx=> ?_
  cases x with
  |goto l'=>
   simp only at hx ⊢
   cases hb:Nat.beq l' l with
   |false=>rw[hb] at hx;cases hx
   |true=>rw[hb] at hx;exact P5 hf hK n σ' hx
  |_=>exact hK _ _ hx
theorem qY (hc:Le call call') {n:Nat}:∀{c:dA} {σ:St} {K K':oM},dD call n c σ K=true→Uj K K'→dD call' n c σ K'=true:=by
 intro c
 induction c with
 |skip=>intro σ K K' s hk;exact hk _ _ s
 |reg ops=>intro σ K K' s hk;exact Pj hc s hk
 |dreg n0 rest=>
  intro σ K K' s hk
  simp only[dD] at s ⊢
  split at s
  ·exact WA hc s hk
  ·cases s
 |seq a b iha ihb=>
  intro σ K K' s hk
  simp only[dD] at s ⊢
  refine iha s fun x σ' hx=> ?_
  cases x with
  |normal=>exact ihb hx hk
  |_=>exact hk _ _ hx
 |cond o a b iha ihb=>
  intro σ K K' s hk
  simp only[dD] at s ⊢
  split at s
  ·exact iha s hk
  ·exact ihb s hk
  ·cases s
 |block id a ih=>
  intro σ K K' s hk
  simp only[dD] at s ⊢
  refine ih s fun x σ' hx=> ?_
  cases x with
  |exit i=>
   simp only at hx ⊢
   cases hb:Nat.beq i id with
   |true=>rw[hb] at hx;exact hk _ _ hx
   |false=>rw[hb] at hx;exact hk _ _ hx
  |_=>exact hk _ _ hx
 |loop a ih=>
  intro σ K K' s hk
  exact WW (f:=dD call n a) (f':=dD call' n a) (fun σ k k' s' hk'=>ih s' hk') hk n σ s
 |rf f ps asg body iha ihb=>
  intro σ K K' s hk
  simp only[dD] at s ⊢
  split at s
  ·refine hc _ _ _ _ _ s fun v h' hv=> ?_
   cases hp:jl v with
   |some x=>rw[hp] at hv;cases hv
   |none=>
   rw[hp] at hv
   simp only at hv ⊢
   split at hv
   ·rename_i lo hlo
    (try simp only[hlo])
    split at hv
    ·rename_i hst;(try simp only[hst]);exact hk _ _ hv
    ·rename_i x hst;(try simp only[hst]);exact hk _ _ hv
    ·cases hv
   ·cases hv
  ·cases s
 |exit id=>intro σ K K' s hk;exact hk _ _ s
 |scope a l r iha ihr=>
  intro σ K K' s hk
  simp only[dD] at s ⊢
  refine iha s fun x σ' hx=> ?_
  cases x with
  |goto l'=>
   simp only at hx ⊢
   cases hb:Nat.beq l' l with
   |false=>rw[hb] at hx;cases hx
   |true=>rw[hb] at hx;exact P5 (f:=dD call n r) (f':=dD call' n r) (fun σ k k' s' hk'=>ihr s' hk') hk n σ' hx
  |_=>exact hk _ _ hx
 |label l=>intro σ K K' s hk;exact hk _ _ s
 |goto l=>intro σ K K' s hk;exact hk _ _ s
 |ret=>intro σ K K' s hk;exact hk _ _ s
 |refuse=>intro σ K K' s hk;cases s
 |keep ks a ih=>intro σ K K' s hk;exact ih s hk
 |cut cs a ih=>
  intro σ K K' s hk
  simp only[dD] at s ⊢
  split at s
  ·exact ih s hk
  ·exact ih s hk
abbrev agL (K K':KMo):Prop:=∀x d σ,K x d σ=true→K' x d σ=true
abbrev agG (K K':NJ):Prop:=∀μ h,K μ h=true→K' μ h=true
def acK (df df':ni):Prop:=∀g as μ h (K K':NJ),df g as μ h K=true→agG K K'→df' g as μ h K'=true
theorem DX {μ:Mode}:∀{ops:List aU} {d:Bool} {σ:St} {K K':KMo},yR μ ops d σ K=true→agL K K'→yR μ ops d σ K'=true
 | [],d,σ,K,K',s,hk=>hk _ _ _ s
 |o :: l,d,σ,K,K',s,hk=>by
  unfold yR at s ⊢
  split at s
  ·split at s
   ·exact DX s hk
   ·split at s
    ·exact DX s hk
    ·cases s
  ·exact DX s hk
  ·cases s
theorem acG (hc:Le call call') {n:Nat} {μ:Mode}:∀{c:dA} {d:Bool} {σ:St} {K K':KMo},nX call n μ c d σ K=true→agL K K'→nX call' n μ c d σ K'=true:=by
 intro c
 induction c with
 |seq a b iha ihb=>
  intro d σ K K' s hk
  simp only[nX] at s ⊢
  refine iha s fun x d' σ' hx=> ?_
  cases x with
  |normal=>exact ihb hx hk
  |_=>exact hk _ _ _ hx
 |cond o a b iha ihb=>
  intro d σ K K' s hk
  simp only[nX] at s ⊢
  split at s
  ·exact iha s hk
  ·exact ihb s hk
  ·cases s
 |reg ops=>
  intro d σ K K' s hk
  simp only[nX] at s ⊢
  cases hb:EO ops with
  |true=>rw[hb] at s;exact DX s hk
  |false=>rw[hb] at s;exact qY hc s fun x σ'=>hk _ _ _
 |_=>intro d σ K K' s hk;simp only[nX] at s ⊢;exact qY hc s fun x σ'=>hk _ _ _
theorem VU {df df':ni} (hd:acK df df'):∀{l:List (AV×List AV)} {μ:Mode} {h:aj} {K K':NJ},ends df l μ h K=true→agG K K'→ends df' l μ h K'=true
 | [],μ,h,K,K',s,hk=>hk _ _ s
 |(f,as) :: l,μ,h,K,K',s,hk=>by
  unfold ends at s ⊢
  split at s
  ·exact hd _ _ _ _ _ _ s fun μ' h' hx=>VU hd hx hk
  ·cases s
theorem Cv {df df':ni} (hd:acK df df') {pend:List (AV×List AV)} {x:CP} {σ:St} {K K':Mode→St→Bool} (s:atEnd df pend x σ K=true) (hk:∀μ σ,K μ σ=true→K' μ σ=true):atEnd df' pend x σ K'=true:=by
 cases x<;>first |(cases s;done)|exact VU hd s fun μ h=>hk _ _
theorem adG (hc:Le call call') {df df':ni} (hd:acK df df') {n:Nat}:∀{c:dA} {pend:List (AV×List AV)} {σ:St} {K K':Mode→St→Bool},runT call df n c pend σ K=true→(∀μ σ,K μ σ=true→K' μ σ=true)→runT call' df' n c pend σ K'=true:=by
 intro c
 induction c with
 |seq a b iha ihb=>
  intro pend σ K K' s hk
  cases a with
  |reg ops=>
   unfold runT at s ⊢
   cases hs:mZ ops with
   |some p=>
    obtain⟨pre,f,as⟩:=p
    rw[hs] at s
    simp only at s ⊢
    refine Pj hc s fun x σ' hx=> ?_
    cases x with
    |normal=>
     simp only at hx ⊢
     split at hx
     ·exact ihb hx hk
     ·cases hx
    |_=>exact Cv hd hx hk
   |none=>
    rw[hs] at s
    simp only at s ⊢
    refine qY hc s fun x σ' hx=> ?_
    cases x with
    |normal=>exact ihb hx hk
    |_=>exact Cv hd hx hk
  |_=>
   simp only[runT] at s ⊢
   refine qY hc s fun x σ' hx=> ?_
   cases x with
   |normal=>exact ihb hx hk
   |_=>exact Cv hd hx hk
 |_=>intro pend σ K K' s hk;simp only[runT] at s ⊢;exact qY hc s fun x σ' hx=>Cv hd hx hk
theorem aaT {res:List (Nat×Option (Bool×Nat))} {K K':aM} (hK:KLe K K') {μ:Mode} {σ:St} (s:ou res K μ σ=true):ou res K' μ σ=true:=by
 cases μ with
 |ret=>
  simp only[ou] at s ⊢
  split at s
  ·exact hK _ _ s
  ·cases s
 |pan v=>exact hK _ _ s
theorem ady {E:Env} (hc:Le call call') (n:Nat):acK (Ci E call n) (Ci E call' n):=by
 intro g as μ h K K' s hk
 unfold Ci at s ⊢
 split at s
 ·cases s
 ·rename_i hp
  (try simp only[hp])
  split at s
  ·cases s
  ·rename_i fn hf
   (try simp only[hf])
   cases hb:(Nat.beq as.length fn.np&&fn.res.isEmpty&&ow fn.body) with
   |false=>rw[hb] at s;cases s
   |true=>
    rw[hb] at s
    simp only[cond_true] at s ⊢
    refine acG hc s fun x d σ hx=> ?_
    cases x<;>first |(cases hx;done)|exact hk _ _ hx
def Uc (call:bM) (n id:Nat) (args:List AV) (h:aj) (K:aM):Bool:=
 match h.get id with
 |some (.loop l)=>match l.st with
  | .ready=>match DJ l.ps args l.regs with
    |some ρ=>dD call n l.asg ⟨ρ,h⟩ fun x σ=>match x with
     | .normal=>(match σ.h.get id with
       |some (.loop l1)=>match l1.st with
        | .ready=>dD call n l.body ⟨σ.regs,σ.h.put id (.loop {l1 with st:= .busy})⟩ fun x σ2=>
          match σ2.h.get id with
          |some (.loop l2)=>match x with
           | .normal=>K (.bool true) (σ2.h.put id (.loop {l2 with st:= .ready}))
           | .panic _=>false
           |x=>K (.bool false) (σ2.h.put id (.loop {l2 with st:= .done x}))
          |_=>false
        |_=>false
       |_=>false)
     |_=>false
    |none=>false
  |_=>false
 |_=>false
theorem Ym (hc:Le call call') {n id:Nat} {args:List AV} {h:aj} {K K':aM} (s:Uc call n id args h K=true) (hK:KLe K K'):Uc call' n id args h K'=true:=by
 unfold Uc at s ⊢
 split at s
 rotate_left
 ·cases s
 rename_i l hl
 (try simp only[hl])
 split at s
 rotate_left
 ·cases s
 rename_i hst
 (try simp only[hst])
 split at s
 rotate_left
 ·cases s
 rename_i ρ hρ
 (try simp only[hρ])
 refine qY hc s fun x σ hx=> ?_
 cases x<;>first |(cases hx;done)|skip
 simp only at hx ⊢
 split at hx
 rotate_left
 ·cases hx
 rename_i l1 hl1
 (try simp only[hl1])
 split at hx
 rotate_left
 ·cases hx
 rename_i hst1
 (try simp only[hst1])
 refine qY hc hx fun x σ2 hx2=> ?_
 split at hx2
 rotate_left
 ·cases hx2
 rename_i l2 hl2
 (try simp only[hl2])
 cases x<;>first |(cases hx2;done)|exact hK _ _ hx2
abbrev Sh:=bM→Nat→List AV→aj→aM→Bool
def ab7 (E:Env) (call:bM) (n f:Nat) (a:List AV) (h:aj) (K:aM):Bool:=
 match E.prim f with
 |some p=>p call n a h K
 |none=>match E.code f with
  |none=>false
  |some fn=>bif Nat.beq a.length fn.np then runT call (Ci E call n) n fn.body [] ⟨qJ 0 a .lf,h⟩ (ou fn.res K) else false
def NV (E:Env):Prop:=∀f p,E.prim f=some p→∀(call call':bM) n args h (K K':aM),Le call call'→KLe K K'→p call n args h K=true→p call' n args h K'=true
def fA (E:Env) (k:Nat) (s:Sh):Prop:=∀(call call':bM) n args h (K K':aM),Le call call'→Le call' call'→KLe K K'→s call n args h K=true→
 ∃fn,E.code k=some fn∧E.prim k=none∧args.length=fn.np∧∀df,runT call' df n fn.body [] ⟨qJ 0 args .lf,h⟩ (ou fn.res K')=true
theorem J2 {E:Env} (hp:NV E):∀n,Le (au E n) (au E n)
 |0=>fun _ _ _ _ _ s _=>by cases s
 |n+1=>by
  intro t a h K K' s hK
  have ih:=J2 hp n
  cases t with
  |yield id=>exact Ym ih s hK
  |func f=>
   simp only[au] at s ⊢
   cases hpf:E.prim f with
   |some p=>
    rw[hpf] at s
    exact hp f p hpf _ _ n a h K K' ih hK s
   |none=>
    rw[hpf] at s
    simp only at s ⊢
    split at s
    ·cases s
    ·rename_i fn hf
     (try simp only[hf])
     cases hb:Nat.beq a.length fn.np with
     |false=>rw[hb] at s;cases s
     |true=>
      rw[hb] at s
      simp only[cond_true] at s ⊢
      exact adG ih (ady ih n) s fun μ σ=>aaT hK
end
end
abbrev KL:=CP→gq→aj→Bool
abbrev Pv:=List AV→aj→Bool
abbrev Bt:=List Pv
def yS (l:gq) (dst:Option Nat) (v:AV):gq:=
 match dst with
 |some d=>(d,v) :: l
 |none=>l
theorem Has.yS {ρ:dz} {l:gq} (H:Has ρ l) (dst:Option Nat) (v:AV):Has (put ρ dst v) (yS l dst v):=by
 cases dst with
 |none=>exact H
 |some d=>exact H.set d v
noncomputable section
def m1 {α:Type} (l:gq) (x:bY) (f:AV→α):Option α:=
 match oZ l x with
 |some v=>some (f v)
 |none=>none
def m2 {α:Type} (l:gq) (x y:bY) (f:AV→AV→α):Option α:=
 match oZ l x with
 |some v=>match oZ l y with
  |some w=>some (f v w)
  |none=>none
 |none=>none
def m3 {α:Type} (l:gq) (x y z:bY) (f:AV→AV→AV→α):Option α:=
 match oZ l x with
 |some v=>match oZ l y with
  |some w=>match oZ l z with
   |some u=>some (f v w u)
   |none=>none
  |none=>none
 |none=>none
abbrev PF:=(AV→Bool)→Bool
abbrev HF:=aM→Bool
def CQ (l:gq) (h:aj) (op:fP):Option PF:=
 match op with
 | .fadr off x=>m1 l x fun v=>ay off v
 | .load false _ x=>m1 l x fun v=>av h v
 | .load true n x=>m1 l x fun v=>bO h n v
 | .bin .eql x y=>m2 l x y eO
 | .bin .neq x y=>m2 l x y jM
 | .bin .lss x y=>m2 l x y mQ
 | .bin .leq x y=>m2 l x y LP
 | .bin .gtr x y=>m2 l x y LM
 | .bin .geq x y=>m2 l x y Gq
 | .bin .add x y=>m2 l x y gW
 | .bin .sub x y=>m2 l x y J9
 | .pick c a b=>m3 l c a b cO
 | .not x=>m1 l x mO
 | .nilck x=>m1 l x bK
 | .ext x i=>m1 l x fun v=>kI i v
 | .len 0 x=>m1 l x oN
 | .len 1 x=>m1 l x iq
 | .iadr sz x y=>m2 l x y (eX h sz)
 | .idxs x y=>m2 l x y GJ
 | .fld false off _ x=>m1 l x fun v=>SC off v
 | .sls x lo hi=>(match oZ l x,E8 l lo,E8 l hi with
   |some v,some lo,some hi=>some (NR v lo hi)
   |_,_,_=>none)
 | .build z ps=>(match Gm l ps with
   |some vs=>some (dX z vs)
   |none=>none)
 |op=>match lM l h op with
  |some o=>some (bQ o)
  |none=>none
def RD (l:gq) (h:aj) (op:fP):Option HF:=
 match op with
 | .store 1 a v=>m2 l a v fun a v k=>bG h a v fun h=>k (.tup []) h
 | .store (n+2) a v=>m2 l a v fun a v k=>aK h (n+2) a v fun h=>k (.tup []) h
 | .alloc z=>(match Nat.beq z.length 0 with
   |false=>(match aD z with
    |true=>some (bS h z z.length)
    |false=>some (aY (qQ h z)))
   |true=>some (aY (qQ h z)))
 | .box none 1 x=>m1 l x fun v=>Eu h v
 | .app (n+1) bytes s x=>m2 l s x fun s x=>oq h (n+1) bytes s x
 |op=>match He l h op with
  |some o=>some (aY o)
  |none=>none
def Lc (call:bM) (l:gq) (f:bY) (vs:List AV) (h:aj) (k:aM):Bool:=
 match f with
 | .c (.fn (.func g) [] [])=>call (.func g) vs h k
 |f=>match oZ l f with
  |some fv=>nM call fv vs h k
  |none=>false
def dnP (l:gq) (h:aj) (op:fP) (g:Option (AV×Bool)) (k:aM):Bool:=
 match CQ l h op with
 |some F=>(match g with
  |none=>F fun v=>k v h
  |some (w,b)=>gK w b F fun v=>k v h)
 |none=>match RD l h op with
  |some F=>(match g with
   |none=>F k
   |some (w,b)=>gP w b F h k)
  |none=>false
def aas (Q:aM) (v:AV) (h:aj):Bool:=
 match v with
 | .ifc t u=>Q (.pan (.ifc t u)) h
 |_=>false
def dnO (call:bM) (Q:aM) (o:aU) (l:gq) (h:aj) (k:gq→aj→Bool):Bool:=
 match o with
 |⟨dst,op,none⟩=>(match op with
  | .fail=>false
  | .nxt x=>(match oZ l x with
    |some v=>IY h v fun v h=>k (yS l dst v) h
    |none=>false)
  | .pnc x=>(match oZ l x with
    |some v=>aas Q v h
    |none=>false)
  | .call f xs=>(match KJ l xs with
    |some vs=>Lc call l f vs h (pz Q fun v h=>k (yS l dst v) h)
    |none=>false)
  | .mv x=>(match dst with
    |some d=>(match oZ l x with
     |some v=>k ((d,v) :: l) h
     |none=>false)
    |none=>dnP l h (.mv x) none fun _ h=>k l h)
  |op=>dnP l h op none fun v h=>k (yS l dst v) h)
 |⟨dst,op,some (j,b)⟩=>match l.get j with
  |none=>false
  |some g=>(match op with
   | .fail=>false
   | .nxt _=>false
   | .pnc x=>(match oZ l x with
     |some v=>gP g b (fun _=>aas Q v h) h fun v h=>k (yS l dst v) h
     |none=>false)
   | .call f xs=>(match KJ l xs with
     |some vs=>gP g b (fun k=>Lc call l f vs h (pz Q k)) h fun v h=>k (yS l dst v) h
     |none=>false)
   |op=>dnP l h op (some (g,b)) fun v h=>k (yS l dst v) h)
def dnR (call:bM) (Q:aM):List aU→gq→aj→(gq→aj→Bool)→Bool
 | [],l,h,k=>k l h
 |o :: ops,l,h,k=>dnO call Q o l h fun l h=>dnR call Q ops l h k
def dnK:List aU→gq→aj→(gq→Bool)→Bool
 | [],l,_,k=>k l
 |⟨some d, .mv x,none⟩ :: ops,l,h,k=>(match oZ l x with
  |some v=>dnK ops ((d,v) :: l) h k
  |none=>false)
 |⟨dst,op,none⟩ :: ops,l,h,k=>(match CQ l h op with
  |some F=>F fun v=>dnK ops (yS l dst v) h k
  |none=>false)
 |⟨dst,op,some (j,b)⟩ :: ops,l,h,k=>(match l.get j with
  |none=>false
  |some g=>match CQ l h op with
   |some F=>gK g b F fun v=>dnK ops (yS l dst v) h k
   |none=>false)
def dR (u:AV) (r:Bool) (v:AV):Bool:=kF (AV.same v u) r false
def gS (g:AV) (b:Bool) (run:Bool→Bool) (r:Bool):Bool:=
 match g with
 | .bool x=>bif x==b then run r else r
 |_=>r
def dnA:List aU→gq→aj→Bool→Bool
 | [],_,_,r=>r
 |⟨none,_,_⟩ :: _,_,_,_=>false
 |⟨some d,op,none⟩ :: ops,l,h,r=>(match CQ l h op with
  |some F=>(match l.get d with
   |some u=>F (dR u (dnA ops l h r))
   |none=>false)
  |none=>false)
 |⟨some d,op,some (j,b)⟩ :: ops,l,h,r=>(match l.get j with
  |some g=>(match CQ l h op with
   |some F=>(match l.get d with
    |some u=>gS g b (fun r=>F (dR u r)) (dnA ops l h r)
    |none=>false)
   |none=>false)
  |none=>false)
def LK:AV→Nat
 | .ptr id _ _ _=>id
 | .slc id _ _ _ _ _=>id
 | .map id=>id
 |_=>0
def uL (es:List AV) (Q:aM):aM:=
 match es with
 | []=>Q
 |e :: es=>fun v h=>match oF (LK e :: es.map LK) h with
  |some h=>Q v h
  |none=>false
def aaQ (o:aU) (l:gq):Option (List AV):=
 bif iU o then(match o.dst with
  |some d=>(match l.get d with
   |some v=>some [v]
   |none=>none)
  |none=>none) else some []
def dnD (call:bM) (Q:aM):List (aU×List aU×List aU)→List AV→gq→aj→(gq→aj→Bool)→Bool
 | [],_,l,h,k=>k l h
 |(act,chk,ns) :: rest,es,l,h,k=>dnO call (uL es Q) act l h fun l h=>match aaQ act l with
  |none=>false
  |some e=>dnA chk l h (dnK ns l h fun l=>dnD call Q rest (e++es) l h k)
inductive iX where
 |skip
 |reg (ops:List aU)
 |rseq (ops:List aU) (b:iX)
 |dreg (n0:List aU) (rest:List (aU×List aU×List aU))
 |seq (a b:iX)
 |cond (c:bY) (a b:iX)
 |block (id:Nat) (c:iX)
 |loop (j:Nat) (ks:List Nat) (c:iX)
 |exit (id:Nat)
 |scope (j:Nat) (ks:List Nat) (fks:List Nat) (c:iX) (l:Nat) (r:iX)
 |label (l:Nat)
 |goto (l:Nat)
 |ret
 |refuse
 |pt (j:Nat) (ks:List Nat) (c:iX)
 |stop (c:dA)
def iX.ops:iX→List aU
 | .reg l=>l
 | .rseq l b=>l++b.ops
 | .pt _ _ b=>b.ops
 |_=>[]
def iX.isReg:iX→Bool
 | .reg _=>true
 | .rseq _ b=>b.isReg
 | .pt _ _ b=>b.isReg
 |_=>false
def iX.erase:iX→dA
 | .skip=> .skip
 | .reg ops=> .reg ops
 | .rseq ops b=> .reg (ops++b.ops)
 | .dreg n0 rest=> .dreg n0 rest
 | .seq a b=> .seq a.erase b.erase
 | .cond c a b=> .cond c a.erase b.erase
 | .block id c=> .block id c.erase
 | .loop _ _ c=> .loop c.erase
 | .exit id=> .exit id
 | .scope _ _ _ c l r=> .scope c.erase l r.erase
 | .label l=> .label l
 | .goto l=> .goto l
 | .ret=> .ret
 | .refuse=> .refuse
 | .pt _ _ c=>c.erase
 | .stop c=>c
structure Ann where
 pts:List (Nat×List Nat)
 lps:List (Nat×List Nat)
 scs:List (Nat×List Nat):=[]
 cuts:List (Nat×List (Nat×Nat×List Nat)):=[]
def YD {α:Type}:List (Nat×α)→Nat→Option α
 | [],_=>none
 |(k,v) :: l,n=>bif Nat.beq n k then some v else YD l n
def uo (A:Ann) (i:Nat) (c:iX):iX:=
 match YD A.pts i with
 |some ks=> .pt i ks c
 |none=>c
def splitB:List (Nat×Nat×List Nat)→List aU→iX
 | [],ops=> .reg ops
 |(m,j,ks) :: l,ops=> .rseq (ops.take m) (.pt j ks (splitB l (ops.drop m)))
def aeN (A:Ann) (i:Nat) (ops:List aU):iX:=
 match YD A.cuts i with
 |some l=>splitB l ops
 |none=> .reg ops
def toB (A:Ann):dA→Nat→iX×Nat
 | .skip,i=>(uo A i .skip,i+1)
 | .reg ops,i=>(uo A i (aeN A i ops),i+1)
 | .dreg n0 rest,i=>(uo A i (.dreg n0 rest),i+1)
 | .seq a b,i=>match toB A a (i+1) with
   |(a',i1)=>match toB A b i1 with
    |(b',i2)=>(uo A i (.seq a' b'),i2)
 | .cond c a b,i=>match toB A a (i+1) with
   |(a',i1)=>match toB A b i1 with
    |(b',i2)=>(uo A i (.cond c a' b'),i2)
 | .block id a,i=>match toB A a (i+1) with
   |(a',i1)=>(uo A i (.block id a'),i1)
 | .loop a,i=>match toB A a (i+1) with
   |(a',i1)=>(match YD A.lps i with
    |some ks=>(uo A i (.loop i ks a'),i1)
    |none=>(.stop (.loop a),i1))
 | .exit id,i=>(uo A i (.exit id),i+1)
 | .scope a l b,i=>match toB A a (i+1) with
   |(a',i1)=>match toB A b i1 with
    |(b',i2)=>(match YD A.lps i with
     |some ks=>(match YD A.scs i with
      |some fks=>(uo A i (.scope i ks fks a' l b'),i2)
      |none=>(.stop (.scope a l b),i2))
     |none=>(.stop (.scope a l b),i2))
 | .label l,i=>(uo A i (.label l),i+1)
 | .goto l,i=>(uo A i (.goto l),i+1)
 | .ret,i=>(uo A i .ret,i+1)
 | .refuse,i=>(uo A i .refuse,i+1)
 | .rf f ps a b,i=>(.stop (.rf f ps a b),i+1)
 | .keep ks c,i=>(.stop (.keep ks c),i+1)
 | .cut cs c,i=>(.stop (.cut cs c),i+1)
theorem Ka:∀(l:List (Nat×Nat×List Nat)) (ops:List aU),(splitB l ops).ops=ops∧(splitB l ops).isReg=true∧(splitB l ops).erase= .reg ops
 | [],ops=>⟨rfl,rfl,rfl⟩
 |(m,j,ks) :: l,ops=>by
  obtain⟨h1,h2,h3⟩:=Ka l (ops.drop m)
  simp only[splitB,iX.ops,iX.isReg,iX.erase,h1,h2,List.take_append_drop,and_self]
theorem Ve (A:Ann) (i:Nat) (ops:List aU):(aeN A i ops).erase= .reg ops:=by
 unfold aeN
 split
 ·exact(Ka _ _).2.2
 ·rfl
theorem oL (A:Ann) (i:Nat) (c:iX):(uo A i c).erase=c.erase:=by
 unfold uo;split<;>rfl
theorem Yu (A:Ann):∀(c:dA) (i:Nat),(toB A c i).1.erase=c:=by
 intro c
 induction c with
 |seq a b iha ihb=>intro i;simp only[toB,oL,iX.erase,iha,ihb]
 |cond o a b iha ihb=>intro i;simp only[toB,oL,iX.erase,iha,ihb]
 |block id a ih=>intro i;simp only[toB,oL,iX.erase,ih]
 |loop a ih=>
  intro i
  simp only[toB]
  split
  ·simp only[oL,iX.erase,ih]
  ·rfl
 |scope a l b iha ihb=>
  intro i
  simp only[toB]
  split
  ·split
   ·simp only[oL,iX.erase,iha,ihb]
   ·rfl
  ·rfl
 |reg ops=>intro i;simp only[toB,oL,Ve]
 |_=>intro i;simp only[toB,oL,iX.erase]
structure Sp where
 pt:Bt→Nat→Pv
 fs:Bt→Nat→Pv
 rd:Bt→Nat→Pv
 lp:Bt→Nat→Nat→Pv
def vals:gq→List AV
 | []=>[]
 |(_,v) :: l=>v :: vals l
def Ja (id:Nat) (K:KL):KL:=fun x l h=>
 match x with
 | .exit i=>bif Nat.beq i id then K .normal l h else K (.exit i) l h
 |x=>K x l h
def goL (B:Pv) (ks:List Nat) (l:gq) (h:aj):Bool:=
 match CZ ks l with
 |some l'=>B (vals l') h
 |none=>false
def MX (B:Pv) (ks:List Nat) (K:KL):KL:=fun x l h=>
 match x with
 | .normal=>goL B ks l h
 |x=>K x l h
def xZ (lb:Nat) (B:Pv) (ks:List Nat) (K:KL):KL:=fun x l h=>
 match x with
 | .goto l'=>bif Nat.beq l' lb then goL B ks l h else false
 |x=>K x l h
def DV (call:bM) (n:Nat) (Q:aM) (S:Sp) (β:Bt):iX→gq→aj→KL→Bool
 | .skip,l,h,K=>K .normal l h
 | .reg ops,l,h,K=>dnR call Q ops l h (K .normal)
 | .rseq ops b,l,h,K=>(match b.isReg with
   |true=>dnR call Q ops l h fun l h=>DV call n Q S β b l h K
   |false=>false)
 | .dreg n0 rest,l,h,K=>dnK n0 l h fun l=>dnD call Q rest [] l h (K .normal)
 | .seq a b,l,h,K=>DV call n Q S β a l h fun x l h=>match x with
   | .normal=>DV call n Q S β b l h K
   |x=>K x l h
 | .cond c a b,l,h,K=>(match oZ l c with
   |some v=>aL v (DV call n Q S β a l h K) (DV call n Q S β b l h K)
   |none=>false)
 | .block id a,l,h,K=>DV call n Q S β a l h (Ja id K)
 | .loop j ks _,l,h,_=>goL (S.lp β j n) ks l h
 | .pt j ks _,l,h,_=>goL (S.pt β j) ks l h
 | .scope j _ fks _ _ _,l,h,_=>goL (S.fs (S.lp β j n :: β) j) fks l h
 | .exit id,l,h,K=>K (.exit id) l h
 | .label _,l,h,K=>K .normal l h
 | .goto lb,l,h,K=>K (.goto lb) l h
 | .ret,l,h,K=>K .ret l h
 | .refuse,_,_,_=>false
 | .stop _,_,_,_=>false
abbrev F0:=aj→Bool
abbrev F1:=AV→F0
abbrev F2:=AV→F1
abbrev F3:=AV→F2
abbrev F4:=AV→F3
abbrev F5:=AV→F4
abbrev F6:=AV→F5
abbrev Fn:=(Nat→Pv)→Nat→(Nat→AV)→aj→Bool
def stk:Nat→Nat→(Nat→Pv)→Bt
 |0,_,_=>[]
 |d+1,i,τ=>τ i :: stk d (i+1) τ
def yh:List Nat→Nat→(Nat→AV)→gq
 | [],_,_=>[]
 |k :: ks,i,σ=>(k,σ i) :: yh ks (i+1) σ
def YC:Nat→Nat→(Nat→AV)→List AV
 |0,_,_=>[]
 |n+1,i,σ=>σ i :: YC n (i+1) σ
def xU (f:Pv→KL→KL) (K:Bt→KL):Bt→KL
 |B :: β=>f B (K β)
 | []=>fun _ _ _=>false
def Vv (call:bM) (n:Nat) (Q:aM) (S:Sp):Nat→iX→(Bt→KL)→List (Fn×Fn)
 |d, .pt j ks a,K=>(fun τ _ σ h=>S.pt (stk d 0 τ) j (vals (yh ks 0 σ)) h,fun τ _ σ h=>DV call n Q S (stk d 0 τ) a (yh ks 0 σ) h (K (stk d 0 τ))) :: Vv call n Q S d a K
 |d, .loop j ks a,K=>
  (fun τ _ σ h=>S.rd (stk (d+1) 0 τ) j (vals (yh ks 0 σ)) h,fun τ _ σ h=>DV call n Q S (stk (d+1) 0 τ) a (yh ks 0 σ) h (xU (fun B=>MX B ks) K (stk (d+1) 0 τ))) ::
  (fun τ _ σ h=>S.lp (stk d 0 τ) j 0 (vals (yh ks 0 σ)) h,fun _ _ _ _=>false) ::
  (fun τ m σ h=>S.lp (stk d 0 τ) j (m+1) (vals (yh ks 0 σ)) h,fun τ m σ h=>S.rd (S.lp (stk d 0 τ) j m :: stk d 0 τ) j (vals (yh ks 0 σ)) h) ::
  Vv call n Q S (d+1) a (xU (fun B=>MX B ks) K)
 |d, .rseq _ b,K=>Vv call n Q S d b K
 |d, .seq a b,K=>Vv call n Q S d a (fun β x l h=>match x with
   | .normal=>DV call n Q S β b l h (K β)
   |x=>K β x l h)++Vv call n Q S d b K
 |d, .cond _ a b,K=>Vv call n Q S d a K++Vv call n Q S d b K
 |d, .block id a,K=>Vv call n Q S d a (fun β=>Ja id (K β))
 |d, .scope j ks fks a lb r,K=>
  (fun τ _ σ h=>S.fs (stk (d+1) 0 τ) j (vals (yh fks 0 σ)) h,fun τ _ σ h=>DV call n Q S (stk (d+1) 0 τ) a (yh fks 0 σ) h (xU (fun B=>xZ lb B ks) K (stk (d+1) 0 τ))) ::
  (fun τ _ σ h=>S.rd (stk (d+1) 0 τ) j (vals (yh ks 0 σ)) h,fun τ _ σ h=>DV call n Q S (stk (d+1) 0 τ) r (yh ks 0 σ) h (xU (fun B=>xZ lb B ks) K (stk (d+1) 0 τ))) ::
  (fun τ _ σ h=>S.lp (stk d 0 τ) j 0 (vals (yh ks 0 σ)) h,fun _ _ _ _=>false) ::
  (fun τ m σ h=>S.lp (stk d 0 τ) j (m+1) (vals (yh ks 0 σ)) h,fun τ m σ h=>S.rd (S.lp (stk d 0 τ) j m :: stk d 0 τ) j (vals (yh ks 0 σ)) h) ::
  (Vv call n Q S (d+1) a (xU (fun B=>xZ lb B ks) K)++Vv call n Q S (d+1) r (xU (fun B=>xZ lb B ks) K))
 |_,_,_=>[]
abbrev dQ (j k:Nat) (v r:Pv):Pv:=@Bool.rec (fun _=>Pv) r v (Nat.beq j k)
abbrev BI (j k:Nat) (v r:Pv):Pv:=@Bool.rec (fun _=>Pv) r v (Nat.beq j k)
abbrev eG:Pv:=fun _ _=>false
abbrev KZ:bM→Nat→aM→Sp:=fun _ _ _=>{pt:=fun _ _=>eG,fs:=fun _ _=>eG,rd:=fun _ _=>eG,lp:=fun _ _ _=>eG}
def pB:Nat→Bt→Pv
 |_,[]=>fun _ _=>false
 |0,B :: _=>B
 |i+1,_ :: β=>pB i β
def pA0 (f:aj→aM→Bool) (K:aM):Pv:=let _:=@DV;fun t0 h=>@List.rec AV (fun _=>Bool) (f h K) (fun _ _ _=>false) t0
def pF1 (B:Pv):F1:=fun x0 h=>B [x0] h
def sZ (f:AV→aj→aM→Bool) (K:aM):Pv:=let _:=@DV;fun t0 h=>@List.rec AV (fun _=>Bool) false (fun x0 t1 _=>@List.rec AV (fun _=>Bool) (f x0 h K) (fun _ _ _=>false) t1) t0
def pC1 (f:AV→aj→aM→Bool) (K:aM):Pv:=let _:=@DV;fun t0 h=>@List.rec AV (fun _=>Bool) false (fun x0 t1 _=>@List.rec AV (fun _=>Bool) (f x0 h K) (fun _ _ _=>false) t1) t0
def pF2 (B:Pv):F2:=fun x0 x1 h=>B [x0,x1] h
def jC (f:AV→AV→aj→aM→Bool) (K:aM):Pv:=let _:=@DV;fun t0 h=>@List.rec AV (fun _=>Bool) false (fun x0 t1 _=>@List.rec AV (fun _=>Bool) false (fun x1 t2 _=>@List.rec AV (fun _=>Bool) (f x0 x1 h K) (fun _ _ _=>false) t2) t1) t0
def pC2 (f:AV→AV→aj→aM→Bool) (K:aM):Pv:=let _:=@DV;fun t0 h=>@List.rec AV (fun _=>Bool) false (fun x0 t1 _=>@List.rec AV (fun _=>Bool) false (fun x1 t2 _=>@List.rec AV (fun _=>Bool) (f x0 x1 h K) (fun _ _ _=>false) t2) t1) t0
def xH (B:Pv):F3:=fun x0 x1 x2 h=>B [x0,x1,x2] h
def lY (f:AV→AV→AV→aj→aM→Bool) (K:aM):Pv:=let _:=@DV;fun t0 h=>@List.rec AV (fun _=>Bool) false (fun x0 t1 _=>@List.rec AV (fun _=>Bool) false (fun x1 t2 _=>@List.rec AV (fun _=>Bool) false (fun x2 t3 _=>@List.rec AV (fun _=>Bool) (f x0 x1 x2 h K) (fun _ _ _=>false) t3) t2) t1) t0
def PX (f:AV→AV→AV→aj→aM→Bool) (K:aM):Pv:=let _:=@DV;fun t0 h=>@List.rec AV (fun _=>Bool) false (fun x0 t1 _=>@List.rec AV (fun _=>Bool) false (fun x1 t2 _=>@List.rec AV (fun _=>Bool) false (fun x2 t3 _=>@List.rec AV (fun _=>Bool) (f x0 x1 x2 h K) (fun _ _ _=>false) t3) t2) t1) t0
def Ur (B:Pv):F4:=fun x0 x1 x2 x3 h=>B [x0,x1,x2,x3] h
def sU (f:AV→AV→AV→AV→aj→aM→Bool) (K:aM):Pv:=let _:=@DV;fun t0 h=>@List.rec AV (fun _=>Bool) false (fun x0 t1 _=>@List.rec AV (fun _=>Bool) false (fun x1 t2 _=>@List.rec AV (fun _=>Bool) false (fun x2 t3 _=>@List.rec AV (fun _=>Bool) false (fun x3 t4 _=>@List.rec AV (fun _=>Bool) (f x0 x1 x2 x3 h K) (fun _ _ _=>false) t4) t3) t2) t1) t0
def pC4 (f:AV→AV→AV→AV→aj→aM→Bool) (K:aM):Pv:=let _:=@DV;fun t0 h=>@List.rec AV (fun _=>Bool) false (fun x0 t1 _=>@List.rec AV (fun _=>Bool) false (fun x1 t2 _=>@List.rec AV (fun _=>Bool) false (fun x2 t3 _=>@List.rec AV (fun _=>Bool) false (fun x3 t4 _=>@List.rec AV (fun _=>Bool) (f x0 x1 x2 x3 h K) (fun _ _ _=>false) t4) t3) t2) t1) t0
def pA5 (f:AV→AV→AV→AV→AV→aj→aM→Bool) (K:aM):Pv:=let _:=@DV;fun t0 h=>@List.rec AV (fun _=>Bool) false (fun x0 t1 _=>@List.rec AV (fun _=>Bool) false (fun x1 t2 _=>@List.rec AV (fun _=>Bool) false (fun x2 t3 _=>@List.rec AV (fun _=>Bool) false (fun x3 t4 _=>@List.rec AV (fun _=>Bool) false (fun x4 t5 _=>@List.rec AV (fun _=>Bool) (f x0 x1 x2 x3 x4 h K) (fun _ _ _=>false) t5) t4) t3) t2) t1) t0
def pF6 (B:Pv):F6:=fun x0 x1 x2 x3 x4 x5 h=>B [x0,x1,x2,x3,x4,x5] h
def pA6 (f:AV→AV→AV→AV→AV→AV→aj→aM→Bool) (K:aM):Pv:=let _:=@DV;fun t0 h=>@List.rec AV (fun _=>Bool) false (fun x0 t1 _=>@List.rec AV (fun _=>Bool) false (fun x1 t2 _=>@List.rec AV (fun _=>Bool) false (fun x2 t3 _=>@List.rec AV (fun _=>Bool) false (fun x3 t4 _=>@List.rec AV (fun _=>Bool) false (fun x4 t5 _=>@List.rec AV (fun _=>Bool) false (fun x5 t6 _=>@List.rec AV (fun _=>Bool) (f x0 x1 x2 x3 x4 x5 h K) (fun _ _ _=>false) t6) t5) t4) t3) t2) t1) t0
def pC6 (f:AV→AV→AV→AV→AV→AV→aj→aM→Bool) (K:aM):Pv:=let _:=@DV;fun t0 h=>@List.rec AV (fun _=>Bool) false (fun x0 t1 _=>@List.rec AV (fun _=>Bool) false (fun x1 t2 _=>@List.rec AV (fun _=>Bool) false (fun x2 t3 _=>@List.rec AV (fun _=>Bool) false (fun x3 t4 _=>@List.rec AV (fun _=>Bool) false (fun x4 t5 _=>@List.rec AV (fun _=>Bool) false (fun x5 t6 _=>@List.rec AV (fun _=>Bool) (f x0 x1 x2 x3 x4 x5 h K) (fun _ _ _=>false) t6) t5) t4) t3) t2) t1) t0
def pA7 (f:AV→AV→AV→AV→AV→AV→AV→aj→aM→Bool) (K:aM):Pv:=let _:=@DV;fun t0 h=>@List.rec AV (fun _=>Bool) false (fun x0 t1 _=>@List.rec AV (fun _=>Bool) false (fun x1 t2 _=>@List.rec AV (fun _=>Bool) false (fun x2 t3 _=>@List.rec AV (fun _=>Bool) false (fun x3 t4 _=>@List.rec AV (fun _=>Bool) false (fun x4 t5 _=>@List.rec AV (fun _=>Bool) false (fun x5 t6 _=>@List.rec AV (fun _=>Bool) false (fun x6 t7 _=>@List.rec AV (fun _=>Bool) (f x0 x1 x2 x3 x4 x5 x6 h K) (fun _ _ _=>false) t7) t6) t5) t4) t3) t2) t1) t0
def pA9 (f:AV→AV→AV→AV→AV→AV→AV→AV→AV→aj→aM→Bool) (K:aM):Pv:=let _:=@DV;fun t0 h=>@List.rec AV (fun _=>Bool) false (fun x0 t1 _=>@List.rec AV (fun _=>Bool) false (fun x1 t2 _=>@List.rec AV (fun _=>Bool) false (fun x2 t3 _=>@List.rec AV (fun _=>Bool) false (fun x3 t4 _=>@List.rec AV (fun _=>Bool) false (fun x4 t5 _=>@List.rec AV (fun _=>Bool) false (fun x5 t6 _=>@List.rec AV (fun _=>Bool) false (fun x6 t7 _=>@List.rec AV (fun _=>Bool) false (fun x7 t8 _=>@List.rec AV (fun _=>Bool) false (fun x8 t9 _=>@List.rec AV (fun _=>Bool) (f x0 x1 x2 x3 x4 x5 x6 x7 x8 h K) (fun _ _ _=>false) t9) t8) t7) t6) t5) t4) t3) t2) t1) t0
def IE (l:gq):List (Nat×Option (Bool×Nat))→Option (List (AV×Option (Bool×Nat)))
 | []=>some []
 |(t,x) :: r=>match l.get t with
  |some v=>match IE l r with
   |some vs=>some ((v,x) :: vs)
   |none=>none
  |none=>none
def fQ (h:aj):List (AV×Option (Bool×Nat))→Option (List AV)
 | []=>some []
 |(v,none) :: r=>match fQ h r with
  |some vs=>some (v :: vs)
  |none=>none
 |(a,some (ag,n)) :: r=>match eP h ag n a with
  |some v=>match fQ h r with
   |some vs=>some (v :: vs)
   |none=>none
  |none=>none
def gU (o:Option (List AV)) (h:aj) (K:aM):Bool:=
 match o with
 |some l=>K (oneOf l) h
 |none=>false
def ac7 (res:List (Nat×Option (Bool×Nat))) (l:gq) (h:aj) (K:aM):Bool:=
 match IE l res with
 |some m=>bif res.any (fun x=>x.2.isSome) then gU (fQ h m) h K else K (oneOf (m.map fun x=>x.1)) h
 |none=>false
def aaX (res:List (Nat×Option (Bool×Nat))) (K:aM):KL:=fun x l h=>
 match x with
 | .normal=>ac7 res l h K
 | .ret=>ac7 res l h K
 |_=>false
def XZ:Nat→List AV→gq→gq
 |_,[],l=>l
 |i,v :: vs,l=>XZ (i+1) vs ((i,v) :: l)
def ad4 (call:bM) (n:Nat) (K:aM) (S:Sp) (top:Pv) (A:Ann) (fn:dH):List (Fn×Fn):=
 (fun _ _ σ h=>top (YC fn.np 0 σ) h,fun _ _ σ h=>DV call n K S [] (toB A fn.body 0).1 (XZ 0 (YC fn.np 0 σ) []) h (aaX fn.res K)) :: Vv call n K S 0 (toB A fn.body 0).1 fun _=>aaX fn.res K
end
section
variable {call call':bM} {n:Nat} {ρ:dz} {l:gq} {h:aj} {op:fP}
theorem sV {α:Type} {o:Option α} {k:α→Bool} (s:bQ o k=true):∃v,o=some v∧k v=true:=by
 cases o with
 |none=>cases s
 |some v=>exact⟨v,rfl,s⟩
theorem LG {o:Option (AV×aj)} {k:aM} (s:aY o k=true):∃v h',o=some (v,h')∧k v h'=true:=by
 cases o with
 |none=>cases s
 |some p=>exact⟨p.1,p.2,rfl,s⟩
theorem rA {α:Type} {x:bY} {f:AV→α} {y:α} (e:m1 l x f=some y):∃v,oZ l x=some v∧y=f v:=by
 unfold m1 at e
 split at e
 ·rename_i v hv;cases e;exact⟨v,hv,rfl⟩
 ·cases e
theorem nJ {α:Type} {x z:bY} {f:AV→AV→α} {y:α} (e:m2 l x z f=some y):∃v w,oZ l x=some v∧oZ l z=some w∧y=f v w:=by
 unfold m2 at e
 split at e
 ·rename_i v hv
  split at e
  ·rename_i w hw;cases e;exact⟨v,w,hv,hw,rfl⟩
  ·cases e
 ·cases e
theorem adO {α:Type} {x z t:bY} {f:AV→AV→AV→α} {y:α} (e:m3 l x z t f=some y):∃v w u,oZ l x=some v∧oZ l z=some w∧oZ l t=some u∧y=f v w u:=by
 unfold m3 at e
 split at e
 ·rename_i v hv
  split at e
  ·rename_i w hw
   split at e
   ·rename_i u hu;cases e;exact⟨v,w,u,hv,hw,hu,rfl⟩
   ·cases e
  ·cases e
 ·cases e
theorem Sb (c a b:AV) (k:AV→Bool):cO c a b k=bQ (Ry c a b) k:=by
 cases c<;>try rfl
 rename_i x;cases x<;>rfl
theorem vP {F:PF} (e:CQ l h op=some F):∃o,lM l h op=some o∧∀k,F k=bQ o k:=by
 unfold CQ at e
 split at e
 case h_1=>obtain⟨v,hv,rfl⟩:=rA e;exact⟨_,by simp only[lM,l1,hv]<;>rfl,fun k=>aa1 _ _ _⟩
 case h_2=>obtain⟨v,hv,rfl⟩:=rA e;exact⟨_,by simp only[lM,l1,hv]<;>rfl,fun k=>Ri _ _ _ _⟩
 case h_3=>obtain⟨v,hv,rfl⟩:=rA e;exact⟨_,by simp only[lM,l1,hv]<;>rfl,fun k=>M6 _ _ _ _⟩
 case h_4=>obtain⟨v,w,hv,hw,rfl⟩:=nJ e;exact⟨_,by simp only[lM,l2,hv,hw]<;>rfl,fun k=>Xd _ _ _⟩
 case h_5=>obtain⟨v,w,hv,hw,rfl⟩:=nJ e;exact⟨_,by simp only[lM,l2,hv,hw]<;>rfl,fun k=>XO _ _ _⟩
 case h_6=>obtain⟨v,w,hv,hw,rfl⟩:=nJ e;exact⟨_,by simp only[lM,l2,hv,hw]<;>rfl,fun k=>Ya _ _ _⟩
 case h_7=>obtain⟨v,w,hv,hw,rfl⟩:=nJ e;exact⟨_,by simp only[lM,l2,hv,hw]<;>rfl,fun k=>VW _ _ _⟩
 case h_8=>obtain⟨v,w,hv,hw,rfl⟩:=nJ e;exact⟨_,by simp only[lM,l2,hv,hw]<;>rfl,fun k=>WT _ _ _⟩
 case h_9=>obtain⟨v,w,hv,hw,rfl⟩:=nJ e;exact⟨_,by simp only[lM,l2,hv,hw]<;>rfl,fun k=>WG _ _ _⟩
 case h_10=>obtain⟨v,w,hv,hw,rfl⟩:=nJ e;exact⟨_,by simp only[lM,l2,hv,hw]<;>rfl,fun k=>WO _ _ _⟩
 case h_11=>obtain⟨v,w,hv,hw,rfl⟩:=nJ e;exact⟨_,by simp only[lM,l2,hv,hw]<;>rfl,fun k=>XH _ _ _⟩
 case h_12=>obtain⟨v,w,u,hv,hw,hu,rfl⟩:=adO e;exact⟨_,by simp only[lM,hv,hw,hu]<;>rfl,fun k=>Sb _ _ _ _⟩
 case h_13=>obtain⟨v,hv,rfl⟩:=rA e;exact⟨_,by simp only[lM,l1,hv]<;>rfl,fun k=>adX _ _⟩
 case h_14=>obtain⟨v,hv,rfl⟩:=rA e;exact⟨_,by simp only[lM,l1,hv]<;>rfl,fun k=>YL _ _⟩
 case h_15=>obtain⟨v,hv,rfl⟩:=rA e;exact⟨_,by simp only[lM,l1,hv]<;>rfl,fun k=>XB _ _ _⟩
 case h_16=>obtain⟨v,hv,rfl⟩:=rA e;exact⟨_,by simp only[lM,l1,hv]<;>rfl,fun k=>Rh _ _ _⟩
 case h_17=>obtain⟨v,hv,rfl⟩:=rA e;exact⟨_,by simp only[lM,l1,hv]<;>rfl,fun k=>XM _ _ _⟩
 case h_18=>obtain⟨v,w,hv,hw,rfl⟩:=nJ e;exact⟨_,by simp only[lM,l2,hv,hw]<;>rfl,fun k=>QO _ _ _ _ _⟩
 case h_19=>obtain⟨v,w,hv,hw,rfl⟩:=nJ e;exact⟨_,by simp only[lM,l2,hv,hw]<;>rfl,fun k=>Qj _ _ _⟩
 case h_20=>obtain⟨v,hv,rfl⟩:=rA e;exact⟨_,by simp only[lM,l1,hv]<;>rfl,fun k=>Xm _ _ _ _⟩
 case h_21=>
  split at e
  ·rename_i v lo hi h1 h2 h3;cases e;exact⟨_,by simp only[lM,h1,h2,h3]<;>rfl,fun k=>XD _ _ _ _⟩
  ·cases e
 case h_22=>
  split at e
  ·rename_i vs h1;cases e;exact⟨_,by simp only[lM,h1]<;>rfl,fun k=>Mi _ _ _⟩
  ·cases e
 case h_23=>
  split at e
  ·rename_i o ho;cases e;exact⟨o,ho,fun k=>rfl⟩
  ·cases e
theorem QM {F:HF} (e:RD l h op=some F):∃o,He l h op=some o∧∀k,F k=aY o k:=by
 unfold RD at e
 split at e
 case h_1=>
  obtain⟨v,w,hv,hw,rfl⟩:=nJ e
  refine⟨_,by simp only[He,hv,hw]<;>rfl,fun k=> ?_⟩
  simp only[Mh]
  cases cZ h 1 v w<;>rfl
 case h_2 n x y=>
  obtain⟨v,w,hv,hw,rfl⟩:=nJ e
  refine⟨_,by simp only[He,hv,hw]<;>rfl,fun k=> ?_⟩
  simp only[K3 h (n+2) v w _ rfl]
  cases cZ h (n+2) v w<;>rfl
 case h_3 z=>
  split at e
  ·rename_i h0
   split at e
   ·rename_i hl;cases e;exact⟨_,rfl,fun k=>Mt _ _ _ h0 hl⟩
   ·cases e;exact⟨_,rfl,fun k=>rfl⟩
  ·cases e;exact⟨_,rfl,fun k=>rfl⟩
 case h_4=>obtain⟨v,hv,rfl⟩:=rA e;exact⟨_,by simp only[He,hv]<;>rfl,fun k=>Xk _ _ _⟩
 case h_5 n b x y=>
  obtain⟨v,w,hv,hw,rfl⟩:=nJ e
  exact⟨_,by simp only[He,hv,hw]<;>rfl,fun k=>Wd _ _ _ _ _ _ rfl⟩
 case h_6=>
  split at e
  ·rename_i o ho;cases e;exact⟨o,ho,fun k=>rfl⟩
  ·cases e
def AO (g:AV) (b:Bool):Bool:=
 match g with
 | .bool x=>x==b
 |_=>false
theorem Bl (H:Has ρ l) {d:Nat} {g:AV} {b:Bool} (hg:l.get d=some g):fE ρ (some (d,b))=some (AO g b):=by
 simp only[fE,H d g hg,AO]
 cases g<;>rfl
theorem WJ {g:AV} {b:Bool} {run:(AV→Bool)→Bool} {k:AV→Bool} (s:gK g b run k=true):(AO g b=true∧run k=true)∨(AO g b=false∧k (.tup [])=true):=by
 cases g<;>try exact .inr ⟨rfl,s⟩
 rename_i x
 cases x<;>cases b<;>first |exact .inl ⟨rfl,s⟩|exact .inr ⟨rfl,s⟩
theorem OX {g:AV} {b:Bool} {run:aM→Bool} {k:aM} (s:gP g b run h k=true):(AO g b=true∧run k=true)∨(AO g b=false∧k (.tup []) h=true):=by
 cases g<;>try exact .inr ⟨rfl,s⟩
 rename_i x
 cases x<;>cases b<;>first |exact .inl ⟨rfl,s⟩|exact .inr ⟨rfl,s⟩
theorem adx {g:AV} {b:Bool} {run:Bool→Bool} {r:Bool} (s:gS g b run r=true):(AO g b=true∧run r=true)∨(AO g b=false∧r=true):=by
 cases g<;>try exact .inr ⟨rfl,s⟩
 rename_i x
 cases x<;>cases b<;>first |exact .inl ⟨rfl,s⟩|exact .inr ⟨rfl,s⟩
theorem Yz {f:bY} {vs:List AV} {k:aM} (s:Lc call l f vs h k=true):∃fv,oZ l f=some fv∧nM call fv vs h k=true:=by
 unfold Lc at s
 split at s
 ·rename_i g
  exact⟨.fn (.func g) [] [],rfl,by simpa only[nM,List.nil_append,List.append_nil] using s⟩
 ·split at s
  ·rename_i fv hf
   exact⟨fv,hf,s⟩
  ·cases s
theorem QK {x:bY} {f:AV} {xs:List bY} {vs:List AV} (H:Has ρ l) (ef:oZ l x=some f) (e:KJ l xs=some vs) {K:aM}:gY call' ρ h (.call x xs) K=nM call' f vs h K:=by
 simp only[gY,iF H ef,Dy H e,nM]
 cases f<;>rfl
variable {Ks:KSt}
theorem zV {v:AV} {h':aj} {dst:Option Nat} (hn:dK op=false) (e:aO ρ h op=some (v,h')) (s:Ks v ⟨put ρ dst v,h'⟩=true):gY call' ρ h op (fun v h'=>Ks v ⟨AB ρ (dK op) dst v,h'⟩)=true:=by
 rw[ko hn,e]
 simp only[AB,qA,hn,cond_false]
 exact s
theorem JL {dst:Option Nat} {Q k:aM} {f:bY} {xs:List bY} {vs:List AV} (hc:Le call call') (H:Has ρ l) (e:KJ l xs=some vs) (s:Lc call l f vs h (pz Q k)=true)
 (hk:∀v h',k v h'=true→jl v=none→Ks v ⟨put ρ dst v,h'⟩=true) (hq:∀x h',Q (.pan x) h'=true→Ks (.pan x) ⟨ρ,h'⟩=true):gY call' ρ h (.call f xs) (fun v h'=>Ks v ⟨AB ρ true dst v,h'⟩)=true:=by
 obtain⟨fv,ef,s⟩:=Yz s
 rw[QK H ef e]
 refine abk hc s fun v h' hv=> ?_
 rw[aef] at hv
 simp only[AB,qA,cond_true]
 cases hp:jl v with
 |none=>rw[hp] at hv;exact hk v h' hv hp
 |some x=>
  rw[hp] at hv
  cases v<;>first |(cases hp;done)|skip
  cases hp
  exact hq _ _ hv
theorem MH {Q:aM} {v:AV} (s:aas Q v h=true):∃t u,v= .ifc t u∧Q (.pan (.ifc t u)) h=true:=by
 unfold aas at s
 split at s
 ·exact⟨_,_,rfl,s⟩
 ·cases s
theorem abI {k:aM} (H:Has ρ l) (s:dnP l h op none k=true):dK op=false∧∃v h',aO ρ h op=some (v,h')∧k v h'=true:=by
 unfold dnP at s
 cases hp:CQ l h op with
 |some F=>
  rw[hp] at s
  obtain⟨o,ho,hF⟩:=vP hp
  obtain⟨e1,e2⟩:=sQ H ho
  simp only[hF] at s
  obtain⟨v,rfl,s⟩:=sV s
  exact⟨e2,v,h,e1,s⟩
 |none=>
  rw[hp] at s
  simp only at s
  cases hh:RD l h op with
  |none=>rw[hh] at s;cases s
  |some F=>
   rw[hh] at s
   obtain⟨o,ho,hF⟩:=QM hh
   obtain⟨e1,e2⟩:=M7 H ho
   simp only[hF] at s
   obtain⟨v,h',rfl,s⟩:=LG s
   exact⟨e2,v,h',e1,s⟩
theorem adN {k:aM} {g:AV} {b:Bool} (H:Has ρ l) (s:dnP l h op (some (g,b)) k=true):dK op=false∧((AO g b=true∧∃v h',aO ρ h op=some (v,h')∧k v h'=true)∨(AO g b=false∧k (.tup []) h=true)):=by
 unfold dnP at s
 cases hp:CQ l h op with
 |some F=>
  rw[hp] at s
  obtain⟨o,ho,hF⟩:=vP hp
  obtain⟨e1,e2⟩:=sQ H ho
  refine⟨e2, ?_⟩
  rcases WJ s with⟨hw,s⟩|⟨hw,s⟩
  ·rw[hF] at s
   obtain⟨v,rfl,s⟩:=sV s
   exact .inl ⟨hw,v,h,e1,s⟩
  ·exact .inr ⟨hw,s⟩
 |none=>
  rw[hp] at s
  simp only at s
  cases hh:RD l h op with
  |none=>rw[hh] at s;cases s
  |some F=>
   rw[hh] at s
   obtain⟨o,ho,hF⟩:=QM hh
   obtain⟨e1,e2⟩:=M7 H ho
   refine⟨e2, ?_⟩
   rcases OX s with⟨hw,s⟩|⟨hw,s⟩
   ·rw[hF] at s
    obtain⟨v,h',rfl,s⟩:=LG s
    exact .inl ⟨hw,v,h',e1,s⟩
   ·exact .inr ⟨hw,s⟩
theorem aau {Q:aM} {o:aU} {k:gq→aj→Bool} (hc:Le call call') (H:Has ρ l) (s:dnO call Q o l h k=true)
 (hk:∀v h',k (yS l o.dst v) h'=true→qA (dK o.op) v=none→(o.grd=none→dK o.op=false→aO ρ h o.op=some (v,h'))→Ks v ⟨put ρ o.dst v,h'⟩=true)
 (hq:dK o.op=true→∀x h',Q (.pan x) h'=true→Ks (.pan x) ⟨ρ,h'⟩=true):jO call' o ⟨ρ,h⟩ Ks=true:=by
 obtain⟨dst,op,grd⟩:=o
 cases grd with
 |none=>
  unfold dnO at s
  simp only at s hk hq
  simp only[jO,fE]
  split at s
  ·cases s
  ·rename_i x
   split at s
   ·rename_i v hv
    simp only[gY,iF H hv]
    exact Nj s fun ls h' hv=>hk _ _ hv rfl (fun _ e=>by cases e)
   ·cases s
  ·rename_i x
   split at s
   ·rename_i v hv
    obtain⟨t,u,rfl,s⟩:=MH s
    simp only[gY,iF H hv]
    exact hq rfl _ _ s
   ·cases s
  ·rename_i f xs
   split at s
   ·rename_i vs hvs
    exact JL hc H hvs s (fun v h' hv hp=>hk v h' hv (qL hp) (fun _ e=>by cases e)) (hq rfl)
   ·cases s
  ·rename_i x
   split at s
   ·rename_i d
    split at s
    ·rename_i v hv
     have e:aO ρ h (.mv x)=some (v,h):=by simp only[aO,iF H hv,bT]
     exact zV rfl e (hk v h s rfl fun _ _=>e)
    ·cases s
   ·obtain⟨_,v,h',e,s⟩:=abI H s
    exact zV rfl e (hk v h' s rfl fun _ _=>e)
  ·obtain⟨hn,v,h',e,s⟩:=abI H s
   exact zV hn e (hk v h' s (by simp only[qA,hn,cond_false]) fun _ _=>e)
 |some p=>
  obtain⟨j,b⟩:=p
  unfold dnO at s
  simp only at s hk hq
  split at s
  ·cases s
  ·rename_i g hg
   simp only[jO,Bl H hg]
   have hno:∀{P:Prop},((some (j,b):Option (Nat×Bool))=none→P):=fun e=>by cases e
   split at s
   ·cases s
   ·cases s
   ·rename_i x
    split at s
    ·rename_i v hv
     rcases OX s with⟨hw,s⟩|⟨hw,s⟩
     ·obtain⟨t,u,rfl,s⟩:=MH s
      simp only[hw,gY,iF H hv]
      exact hq rfl _ _ s
     ·simp only[hw]
      exact hk _ _ s rfl hno
    ·cases s
   ·rename_i f xs
    split at s
    ·rename_i vs hvs
     rcases OX s with⟨hw,s⟩|⟨hw,s⟩
     ·simp only[hw]
      exact JL hc H hvs s (fun v h' hv hp=>hk v h' hv (qL hp) hno) (hq rfl)
     ·simp only[hw]
      exact hk _ _ s rfl hno
    ·cases s
   ·obtain⟨hn,hs⟩:=adN H s
    rcases hs with⟨hw,v,h',e,s⟩|⟨hw,s⟩
    ·simp only[hw]
     exact zV hn e (hk v h' s (by simp only[qA,hn,cond_false]) hno)
    ·simp only[hw]
     exact hk _ _ s (by simp only[qA,hn,cond_false]) hno
def Mw (Q:aM) (KS:oM):Prop:=∀x ρ h,Q (.pan x) h=true→KS (.panic x) ⟨ρ,h⟩=true
theorem U6 (hc:Le call call') {Q:aM}:∀{ops:List aU} {ρ:dz} {l:gq} {h:aj} {k:gq→aj→Bool} {KS:oM},Has ρ l→dnR call Q ops l h k=true→(∀l' ρ' h',Has ρ' l'→k l' h'=true→KS .normal ⟨ρ',h'⟩=true)→Mw Q KS→nS call' ops ⟨ρ,h⟩ KS=true
 | [],ρ,l,h,k,KS,H,s,hk,hq=>hk _ _ _ H s
 |o :: ops,ρ,l,h,k,KS,H,s,hk,hq=>by
  simp only[nS]
  refine aau hc H s (fun v h' hv hp _=> ?_) (fun hcl x h' hx=> ?_)
  ·simp only[hp]
   exact U6 hc (H.yS o.dst v) hv hk hq
  ·simp only[hcl,qA,cond_true,jl]
   exact hq _ _ _ hx
theorem aaF:∀{ops:List aU} {ρ:dz} {l:gq} {h:aj} {k:gq→Bool},Has ρ l→dnK ops l h k=true→∃ρ' l',qm ops ρ h=some ρ'∧Has ρ' l'∧k l'=true:=by
 intro ops
 induction ops with
 |nil=>intro ρ l h k H s;exact⟨ρ,l,rfl,H,s⟩
 |cons o ops ih=>
  intro ρ l h k H s
  obtain⟨dst,op,grd⟩:=o
  unfold dnK at s
  simp only[qm]
  split at s
  ·rename_i heq;cases heq
  ·rename_i d x ops' heq
   cases heq
   split at s
   ·rename_i v hv
    obtain⟨ρ',l',h1,h2,h3⟩:=ih (H.set d v) s
    refine⟨ρ',l', ?_,h2,h3⟩
    simp only[fE,aO,iF H hv,bT]
    exact h1
   ·cases s
  ·rename_i dst' op' ops' hne heq
   cases heq
   split at s
   ·rename_i F hp
    obtain⟨o,ho,hF⟩:=vP hp
    obtain⟨e1,e2⟩:=sQ H ho
    rw[hF] at s
    obtain⟨v,rfl,s⟩:=sV s
    obtain⟨ρ',l',h1,h2,h3⟩:=ih (H.yS dst v) s
    refine⟨ρ',l', ?_,h2,h3⟩
    simp only[fE,e1,bT]
    exact h1
   ·cases s
  ·rename_i dst' op' j b ops' heq
   cases heq
   split at s
   ·cases s
   ·rename_i g hg
    split at s
    ·rename_i F hp
     obtain⟨o,ho,hF⟩:=vP hp
     obtain⟨e1,e2⟩:=sQ H ho
     simp only[Bl H hg]
     rcases WJ s with⟨hw,s⟩|⟨hw,s⟩
     ·rw[hF] at s
      obtain⟨v,rfl,s⟩:=sV s
      obtain⟨ρ',l',h1,h2,h3⟩:=ih (H.yS dst v) s
      refine⟨ρ',l', ?_,h2,h3⟩
      simp only[hw,e1,bT]
      exact h1
     ·obtain⟨ρ',l',h1,h2,h3⟩:=ih (H.yS dst _) s
      refine⟨ρ',l', ?_,h2,h3⟩
      simp only[hw]
      exact h1
    ·cases s
theorem Jy {u v:AV} {r:Bool} (s:dR u r v=true):AV.same v u=true∧r=true:=by
 unfold dR at s
 rw[rZ] at s
 exact rP s
theorem NH {q:Bool} (H:Has ρ l):∀{ops:List aU},dnA ops l h q=true→again ρ h ops=true∧q=true
 | [],s=>⟨rfl,s⟩
 |⟨none,_,_⟩ :: _,s=>by unfold dnA at s;cases s
 |⟨some d,op,none⟩ :: ops,s=>by
  unfold dnA at s
  split at s
  ·rename_i F hp
   obtain⟨o,ho,hF⟩:=vP hp
   obtain⟨e1,e2⟩:=sQ H ho
   split at s
   ·rename_i u hu
    rw[hF] at s
    obtain⟨v,rfl,s⟩:=sV s
    obtain⟨hs,s⟩:=Jy s
    obtain⟨h1,h2⟩:=NH H s
    refine⟨?_,h2⟩
    simp only[again,mP,fE,e1,bT,H d u hu,hs,cond_true]
    exact h1
   ·cases s
  ·cases s
 |⟨some d,op,some (j,b)⟩ :: ops,s=>by
  unfold dnA at s
  split at s
  ·rename_i g hg
   split at s
   ·rename_i F hp
    obtain⟨o,ho,hF⟩:=vP hp
    obtain⟨e1,e2⟩:=sQ H ho
    split at s
    ·rename_i u hu
     simp only[again,mP,Bl H hg]
     rcases adx s with⟨hw,s⟩|⟨hw,s⟩
     ·rw[hF] at s
      obtain⟨v,rfl,s⟩:=sV s
      obtain⟨hs,s⟩:=Jy s
      obtain⟨h1,h2⟩:=NH H s
      refine⟨?_,h2⟩
      simp only[hw,e1,bT,H d u hu,hs,cond_true]
      exact h1
     ·obtain⟨h1,h2⟩:=NH H s
      refine⟨?_,h2⟩
      simp only[hw,cond_true]
      exact h1
    ·cases s
   ·cases s
  ·cases s
theorem Uh {o:aU} {v:AV} {h':aj} (he:iU o=true) (hv:aO ρ h o.op=some (v,h')):LK v=h.sz∧o.grd=none∧dK o.op=false:=by
 obtain⟨dst,op,grd⟩:=o
 unfold iU at he
 split at he
 ·cases he
 ·rename_i hg
  split at he<;>first |(cases he;done)|skip
  all_goals
   rename_i ho
   simp only at ho hg hv
   subst ho
   subst hg
   refine⟨?_,rfl,rfl⟩
  ·simp only[aO,qQ] at hv
   cases hb:Nat.beq _ 0 with
   |true=>rw[hb] at hv;cases hv;rfl
   |false=>
    rw[hb,cond_false] at hv
    obtain⟨_,hv⟩:=sP hv
    cases hv;rfl
  ·simp only[aO] at hv
   obtain⟨_,hv⟩:=sP hv
   cases hv;rfl
  ·simp only[aO] at hv
   split at hv
   ·unfold nU at hv
    obtain⟨_,hv⟩:=sP hv
    cases hv;rfl
   ·cases hv
  ·simp only[aO] at hv
   cases hv;rfl
  ·simp only[aO] at hv
   split at hv
   ·unfold CF at hv
    split at hv
    ·obtain⟨_,hv⟩:=sP hv
     cases hv;rfl
    ·cases hv
   ·cases hv
  ·simp only[aO] at hv
   obtain⟨_,hv⟩:=sP hv
   split at hv
   ·cases hv;rfl
   ·cases hv
theorem U8 {es:List AV} {Q:aM} {v:AV} (s:uL es Q v h=true):∃h',oF (es.map LK) h=some h'∧Q v h'=true:=by
 cases es with
 |nil=>exact⟨h,rfl,s⟩
 |cons e es=>
  simp only[uL] at s
  split at s
  ·rename_i h2 hh;exact⟨h2,hh,s⟩
  ·cases s
theorem ZK (hc:Le call call') {Q:aM} {ρ0:dz}:∀{rest:List (aU×List aU×List aU)} {es:List AV} {ρ:dz} {l:gq} {h:aj} {k:gq→aj→Bool} {KS:oM},Has ρ l→dnD call Q rest es l h k=true→(∀l' ρ' h',Has ρ' l'→k l' h'=true→KS .normal ⟨ρ',h'⟩=true)→Mw Q KS→oI call' ρ0 (es.map LK) rest ⟨ρ,h⟩ KS=true
 | [],es,ρ,l,h,k,KS,H,s,hk,hq=>hk _ _ _ H s
 |(act,chk,ns) :: rest,es,ρ,l,h,k,KS,H,s,hk,hq=>by
  unfold dnD at s
  simp only[oI]
  refine aau hc H s (fun v h' hv hp hev=> ?_) (fun hcl x h' hx=> ?_)
  ·simp only[hp]
   split at hv
   ·cases hv
   ·rename_i e he
    have H':=H.yS act.dst v
    obtain⟨ha,hv⟩:=NH H' hv
    obtain⟨ρ',l',h1,h2,h3⟩:=aaF H' hv
    rw[ha,cond_true,h1]
    simp only
    have hes:(bif iU act then h.sz :: es.map LK else es.map LK)=(e++es).map LK:=by
     unfold aaQ at he
     cases hie:iU act with
     |false=>rw[hie,cond_false] at he;cases he;rfl
     |true=>
      rw[hie,cond_true] at he
      have hg:act.grd=none∧dK act.op=false:=by
       unfold iU at hie
       split at hie
       ·cases hie
       ·rename_i hg
        refine⟨hg, ?_⟩
        split at hie<;>first |(cases hie;done)|(rename_i ho;rw[ho];rfl)
      have hev:=hev hg.1 hg.2
      split at he
      ·rename_i d hd
       split at he
       ·rename_i v' hv'
        cases he
        rw[hd] at hv'
        simp only[yS,gq.get,Nat.beq_refl,cond_true,Option.some.injEq] at hv'
        subst hv'
        simp only[cond_true,List.cons_append,List.nil_append,List.map_cons,(Uh hie hev).1]
       ·cases he
      ·cases he
    rw[hes]
    exact ZK hc h2 h3 hk hq
  ·simp only[hcl,qA,cond_true,jl]
   obtain⟨h2,hh,hx⟩:=U8 hx
   rw[hh]
   exact hq _ _ _ hx
noncomputable def adF (call:bM) (n:Nat) (b:dA) (K:oM):oM:=fun x σ'=>
 match x with
 | .normal=>dD call n b σ' K
 |x=>K x σ'
noncomputable def Gh (id:Nat) (K:oM):oM:=fun x σ'=>
 match x with
 | .exit i=>bif Nat.beq i id then K .normal σ' else K (.exit i) σ'
 |x=>K x σ'
noncomputable def Q5 (call:bM) (n:Nat) (c:dA) (K:oM) (m:Nat):oM:=fun x σ'=>
 match x with
 | .normal=>iter (dD call n c) K m σ'
 |x=>K x σ'
noncomputable def AX (call:bM) (n:Nat) (l:Nat) (r:dA) (K:oM) (m:Nat):oM:=fun x σ'=>
 match x with
 | .goto l'=>bif Nat.beq l' l then uQ l (dD call n r) K m σ' else false
 |x=>K x σ'
noncomputable def LQ (res:List (Nat×Option (Bool×Nat))) (K:aM):oM:=fun x σ=>
 match x with
 | .normal=>(match jF σ.regs σ.h res with
   |some l=>K (oneOf l) σ.h
   |none=>false)
 | .ret=>(match jF σ.regs σ.h res with
   |some l=>K (oneOf l) σ.h
   |none=>false)
 | .panic v=>K (.pan v) σ.h
 |_=>false
variable {σ:St} {KS:oM}
theorem agC {x y:dA} (s:dD call n x σ (adF call n y KS)=true):dD call n (.seq x y) σ KS=true:=by
 have e:adF call n y KS=(fun x σ'=>match x with | .normal=>dD call n y σ' KS |x=>KS x σ'):=by
  funext x σ';cases x<;>rfl
 rw[e] at s;exact s
theorem afv {c:bY} {x y:dA} {v:AV} {p q:Bool} {KS:oM} (H:Has ρ l) (e:oZ l c=some v) (s:aL v p q=true) (kx:p=true→dD call n x ⟨ρ,h⟩ KS=true) (ky:q=true→dD call n y ⟨ρ,h⟩ KS=true):dD call n (.cond c x y) ⟨ρ,h⟩ KS=true:=by
 simp only[dD,iF H e]
 cases v<;>first |(cases s;done)|skip
 rename_i t
 cases t
 ·exact ky s
 ·exact kx s
theorem acB {id:Nat} {x:dA} (s:dD call n x σ (Gh id KS)=true):dD call n (.block id x) σ KS=true:=by
 have e:Gh id KS=(fun x σ'=>match x with | .exit i=>bif Nat.beq i id then KS .normal σ' else KS (.exit i) σ' |x=>KS x σ'):=by
  funext x σ';cases x<;>rfl
 rw[e] at s;exact s
theorem afG {x:dA} (s:iter (dD call n x) KS n σ=true):dD call n (.loop x) σ KS=true:=s
theorem adj {x:dA} {m:Nat} (s:dD call n x σ (Q5 call n x KS m)=true):iter (dD call n x) KS (m+1) σ=true:=by
 have e:Q5 call n x KS m=(fun y σ'=>match y with | .normal=>iter (dD call n x) KS m σ' |y=>KS y σ'):=by
  funext y σ';cases y<;>rfl
 rw[e] at s;exact s
theorem ac3 {x r:dA} {l:Nat} (s:dD call n x σ (AX call n l r KS n)=true):dD call n (.scope x l r) σ KS=true:=by
 have e:AX call n l r KS n=(fun x σ'=>match x with | .goto l'=>bif Nat.beq l' l then uQ l (dD call n r) KS n σ' else false |x=>KS x σ'):=by
  funext x σ';cases x<;>rfl
 rw[e] at s;exact s
theorem afY {r:dA} {l m:Nat} (s:dD call n r σ (AX call n l r KS m)=true):uQ l (dD call n r) KS (m+1) σ=true:=by
 have e:AX call n l r KS m=(fun x σ'=>match x with | .goto l'=>bif Nat.beq l' l then uQ l (dD call n r) KS m σ' else false |x=>KS x σ'):=by
  funext x σ';cases x<;>rfl
 rw[e] at s;exact s
theorem y9 (H:Has ρ l):∀{res:List (Nat×Option (Bool×Nat))} {m:List (AV×Option (Bool×Nat))},IE l res=some m→jF ρ h res=fQ h m
 | [],m,e=>by simp only[IE] at e;cases e;rfl
 |(t,x) :: r,m,e=>by
  simp only[IE] at e
  split at e
  ·rename_i v hv
   split at e
   ·rename_i vs hvs
    cases e
    simp only[jF]
    rw[y9 H hvs]
    cases x with
    |none=>simp only[xG,H t v hv,fQ];rfl
    |some p=>
     obtain⟨ag,k⟩:=p
     simp only[xG,H t v hv,fQ]
     rfl
   ·cases e
  ·cases e
theorem acL {res:List (Nat×Option (Bool×Nat))} {m:List (AV×Option (Bool×Nat))} {K K':aM} (H:Has ρ l) (e:IE l res=some m) (hK:∀v h',K v h'=true→K' v h'=true) (s:gU (fQ h m) h K=true):LQ res K' .ret ⟨ρ,h⟩=true:=by
 simp only[LQ,y9 H e]
 cases hr:fQ h m with
 |none=>rw[hr] at s;cases s
 |some vs=>rw[hr] at s;exact hK _ _ s
theorem TQ {res:List (Nat×Option (Bool×Nat))} {m:List (AV×Option (Bool×Nat))} {K K':aM} (H:Has ρ l) (e:IE l res=some m) (hK:∀v h',K v h'=true→K' v h'=true) (s:gU (fQ h m) h K=true):LQ res K' .normal ⟨ρ,h⟩=true:=by
 simp only[LQ,y9 H e]
 cases hr:fQ h m with
 |none=>rw[hr] at s;cases s
 |some vs=>rw[hr] at s;exact hK _ _ s
theorem GL {KS:oM}:∀{a b:List aU} {σ:St},nS call (a++b) σ KS=nS call a σ (fun x σ'=>match x with | .normal=>nS call b σ' KS |x=>KS x σ')
 | [],b,σ=>rfl
 |o :: a,b,σ=>by
  simp only[List.cons_append,nS]
  congr 1
  funext v σ'
  cases qA (dK o.op) v with
  |none=>exact GL
  |some x=>rfl
theorem Ms {KS:oM}:∀{b:iX} {σ:St},b.isReg=true→dD call n b.erase σ KS=nS call b.ops σ KS
 | .reg _,σ,_=>rfl
 | .rseq l b,σ,_=>rfl
 | .pt _ _ b,σ,h=>Ms (b:=b) h
theorem Mw.seq {Q:aM} {KS:oM} {b:dA} (hq:Mw Q KS):Mw Q (adF call n b KS):=fun x ρ h s=>hq x ρ h s
theorem Mw.block {Q:aM} {KS:oM} {id:Nat} (hq:Mw Q KS):Mw Q (Gh id KS):=fun x ρ h s=>hq x ρ h s
theorem Mw.loop {Q:aM} {KS:oM} {c:dA} {m:Nat} (hq:Mw Q KS):Mw Q (Q5 call n c KS m):=fun x ρ h s=>hq x ρ h s
theorem Mw.jump {Q:aM} {KS:oM} {c:dA} {lb m:Nat} (hq:Mw Q KS):Mw Q (AX call n lb c KS m):=fun x ρ h s=>hq x ρ h s
def Pn:List Nat→List AV→gq
 |k :: ks,v :: vs=>(k,v) :: Pn ks vs
 |_,_=>[]
theorem Np:∀{ks:List Nat} {l m:gq},CZ ks l=some m→m=Pn ks (vals m)∧(vals m).length=ks.length
 | [],l,m,e=>by simp only[CZ] at e;cases e;exact⟨rfl,rfl⟩
 |k :: ks,l,m,e=>by
  simp only[CZ] at e
  split at e
  ·split at e
   ·rename_i v hv m' hm
    cases e
    have:=Np hm
    exact⟨by simp only[vals,Pn];rw[←this.1],by simp only[vals,List.length_cons,this.2]⟩
   ·cases e
  ·cases e
theorem Nc (σ:Nat→AV):∀(ks:List Nat) (vs:List AV) (i:Nat),vs.length=ks.length→(∀j,j<vs.length→vs[j]? =some (σ (i+j)))→yh ks i σ=Pn ks vs∧vals (Pn ks vs)=vs
 | [],[],i,_,_=>⟨rfl,rfl⟩
 | [],_ :: _,_,e,_=>by cases e
 |_ :: _,[],_,e,_=>by cases e
 |k :: ks,v :: vs,i,e,hv=>by
  have h0:=hv 0 (Nat.succ_pos _)
  simp only[List.getElem?_cons_zero,Nat.add_zero,Option.some.injEq] at h0
  have:=Nc σ ks vs (i+1) (by simpa using e) (fun j hj=>by
   have:=hv (j+1) (by simpa using hj)
   simpa[Nat.add_assoc,Nat.add_comm 1 j] using this)
  simp only[yh,Pn,vals, ←h0,this.1,this.2]
  exact⟨trivial,trivial⟩
def uU:List AV→Nat→AV
 | [],_=> .bool true
 |v :: _,0=>v
 |_ :: l,n+1=>uU l n
theorem F9:∀(vs:List AV) (j:Nat),j<vs.length→vs[j]? =some (uU vs j)
 | [],_,h=>by cases h
 |v :: vs,0,_=>rfl
 |v :: vs,j+1,h=>by simpa[uU] using F9 vs j (by simpa using h)
theorem rF {ks:List Nat} {vs:List AV} (e:vs.length=ks.length):yh ks 0 (uU vs)=Pn ks vs∧vals (Pn ks vs)=vs:=
 Nc _ ks vs 0 e fun j hj=>by rw[Nat.zero_add];exact F9 vs j hj
def tN:Bt→Nat→Pv
 | [],_=>fun _ _=>false
 |v :: _,0=>v
 |_ :: l,n+1=>tN l n
theorem Sm (τ:Nat→Pv):∀(β:Bt) (i:Nat),(∀j,j<β.length→β[j]? =some (τ (i+j)))→stk β.length i τ=β
 | [],_,_=>rfl
 |B :: β,i,h=>by
  have h0:=h 0 (Nat.succ_pos _)
  simp only[List.getElem?_cons_zero,Nat.add_zero,Option.some.injEq] at h0
  have:=Sm τ β (i+1) (fun j hj=>by
   have:=h (j+1) (by simpa using hj)
   simpa[Nat.add_assoc,Nat.add_comm 1 j] using this)
  simp only[List.length_cons,stk, ←h0,this]
theorem MJ:∀(vs:Bt) (j:Nat),j<vs.length→vs[j]? =some (tN vs j)
 | [],_,h=>by cases h
 |v :: vs,0,_=>rfl
 |v :: vs,j+1,h=>by simpa[tN] using MJ vs j (by simpa using h)
theorem yN (β:Bt):stk β.length 0 (tN β)=β:=
 Sm _ β 0 fun j hj=>by rw[Nat.zero_add];exact MJ β j hj
def PS (K:KL) (KS:oM):Prop:=∀x (l:gq) (ρ:dz) (h:aj),Has ρ l→K x l h=true→KS x ⟨ρ,h⟩=true
def ZE (V:Pv) (ks:List Nat) (R:St→Bool):Prop:=∀(vs:List AV) (ρ:dz) (h:aj),vs.length=ks.length→Has ρ (Pn ks vs)→V vs h=true→R ⟨ρ,h⟩=true
theorem ZE.go {V:Pv} {ks:List Nat} {R:St→Bool} (hv:ZE V ks R) {ρ:dz} {l:gq} {h:aj} (H:Has ρ l) (s:goL V ks l h=true):R ⟨ρ,h⟩=true:=by
 unfold goL at s
 split at s
 ·rename_i l' hl
  have hz:=Np hl
  have H':=H.keep ks hl
  rw[hz.1] at H'
  exact hv _ _ _ hz.2 H' s
 ·cases s
def SPd (call':bM) (n:Nat) (S:Sp):Bt→iX→oM→Prop
 |β, .pt j ks a,KS=>ZE (S.pt β j) ks fun σ=>dD call' n a.erase σ KS
 |β, .loop j ks a,KS=>ZE (S.lp β j n) ks (iter (dD call' n a.erase) KS n)
 |β, .scope j _ fks a lb r,KS=>ZE (S.fs (S.lp β j n :: β) j) fks fun σ=>dD call' n a.erase σ (AX call' n lb r.erase KS n)
 |β, .rseq _ b,KS=>SPd call' n S β b KS
 |β, .seq a b,KS=>SPd call' n S β a (adF call' n b.erase KS)∧SPd call' n S β b KS
 |β, .cond _ a b,KS=>SPd call' n S β a KS∧SPd call' n S β b KS
 |β, .block id a,KS=>SPd call' n S β a (Gh id KS)
 |_,_,_=>True
theorem PS.block {id:Nat} {K:KL} {KS:oM} (hk:PS K KS):PS (Ja id K) (Gh id KS):=by
 intro x l ρ h H s
 cases x with
 |exit i=>
  simp only[Ja,Gh] at s ⊢
  cases hb:Nat.beq i id with
  |true=>rw[hb] at s;exact hk _ _ _ _ H s
  |false=>rw[hb] at s;exact hk _ _ _ _ H s
 |_=>exact hk _ _ _ _ H s
theorem PS.loop {c:dA} {n m:Nat} {call':bM} {B:Pv} {ks:List Nat} {K:KL} {KS:oM} (hk:PS K KS) (hB:ZE B ks (iter (dD call' n c) KS m)):PS (MX B ks K) (Q5 call' n c KS m):=by
 intro x l ρ h H s
 cases x with
 |normal=>exact hB.go H s
 |_=>exact hk _ _ _ _ H s
theorem PS.jump {r:dA} {n m lb:Nat} {call':bM} {B:Pv} {ks:List Nat} {K:KL} {KS:oM} (hk:PS K KS) (hB:ZE B ks (uQ lb (dD call' n r) KS m)):PS (xZ lb B ks K) (AX call' n lb r KS m):=by
 intro x l ρ h H s
 cases x with
 |goto i=>
  simp only[xZ,AX] at s ⊢
  cases hb:Nat.beq i lb with
  |true=>rw[hb] at s;exact hB.go H s
  |false=>rw[hb] at s;cases s
 |_=>exact hk _ _ _ _ H s
theorem zR {S:Sp} {call call':bM} {n:Nat} {Q:aM} (hc:Le call call'):∀(c:iX) (β:Bt) (ρ:dz) (l:gq) (h:aj) (K:KL) (KS:oM),SPd call' n S β c KS→PS K KS→Mw Q KS→Has ρ l→DV call n Q S β c l h K=true→dD call' n c.erase ⟨ρ,h⟩ KS=true:=by
 intro c
 induction c with
 |skip=>intro β ρ l h K KS sp hk hq H s;exact hk _ _ _ _ H s
 |label _=>intro β ρ l h K KS sp hk hq H s;exact hk _ _ _ _ H s
 |exit _=>intro β ρ l h K KS sp hk hq H s;exact hk _ _ _ _ H s
 |goto _=>intro β ρ l h K KS sp hk hq H s;exact hk _ _ _ _ H s
 |ret=>intro β ρ l h K KS sp hk hq H s;exact hk _ _ _ _ H s
 |refuse=>intro β ρ l h K KS sp hk hq H s;cases s
 |stop _=>intro β ρ l h K KS sp hk hq H s;cases s
 |reg ops=>
  intro β ρ l h K KS sp hk hq H s
  exact U6 hc H s (fun l' ρ' h' H' s'=>hk _ _ _ _ H' s') hq
 |dreg n0 rest=>
  intro β ρ l h K KS sp hk hq H s
  obtain⟨ρ',l',h1,h2,h3⟩:=aaF H s
  simp only[iX.erase,dD,h1]
  exact ZK (es:=[]) hc h2 h3 (fun l2 ρ2 h2 H2 s2=>hk _ _ _ _ H2 s2) hq
 |rseq ops b ih=>
  intro β ρ l h K KS sp hk hq H s
  simp only[DV] at s
  split at s
  ·rename_i hr
   show nS call' (ops++b.ops) ⟨ρ,h⟩ KS=true
   rw[GL]
   refine U6 hc H s (fun l' ρ' h' H' s'=> ?_) (fun x ρ h s=>hq x ρ h s)
   have:=ih β _ _ _ _ _ sp hk hq H' s'
   rw[Ms hr] at this
   exact this
  ·cases s
 |seq a b iha ihb=>
  intro β ρ l h K KS sp hk hq H s
  refine agC (iha β ρ l h _ _ sp.1 ?_ hq.seq H s)
  intro x l' ρ' h' H' s'
  cases x with
  |normal=>exact ihb β _ _ _ _ _ sp.2 hk hq H' s'
  |_=>exact hk _ _ _ _ H' s'
 |cond o a b iha ihb=>
  intro β ρ l h K KS sp hk hq H s
  simp only[DV] at s
  split at s
  ·rename_i v hv
   exact afv H hv s (fun s=>iha β _ _ _ _ _ sp.1 hk hq H s) (fun s=>ihb β _ _ _ _ _ sp.2 hk hq H s)
  ·cases s
 |block id a ih=>
  intro β ρ l h K KS sp hk hq H s
  exact acB (ih β _ _ _ _ _ sp hk.block hq.block H s)
 |loop j ks a ih=>intro β ρ l h K KS sp hk hq H s;exact afG (ZE.go sp H s)
 |pt j ks a ih=>intro β ρ l h K KS sp hk hq H s;exact ZE.go sp H s
 |scope j ks fks a lb r iha ihr=>intro β ρ l h K KS sp hk hq H s;exact ac3 (ZE.go sp H s)
theorem ag0 {S:Sp} {call call':bM} {n:Nat} {Q:aM} (hc:Le call call'):∀(c:iX) (β:Bt) (K:Bt→KL) (KS:oM),(∀p∈Vv call n Q S β.length c K,p.1=p.2)→PS (K β) KS→Mw Q KS→SPd call' n S β c KS:=by
 intro c
 induction c with
 |pt j ks a ih=>
  intro β K KS hp hk hq vs ρ h hl H s
  have e:=congrFun (congrFun (congrFun (congrFun (hp _ (List.mem_cons_self ..)) (tN β)) 0) (uU vs)) h
  simp only[yN,rF hl] at e
  rw[e] at s
  exact zR hc a β ρ _ h _ KS (ih β K KS (fun p h=>hp p (List.mem_cons_of_mem _ h)) hk hq) hk hq H s
 |loop j ks a ih=>
  intro β K KS hp hk hq
  have e1:=hp _ (List.mem_cons_self ..)
  have e2:=hp _ (List.mem_cons_of_mem _ (List.mem_cons_self ..))
  have e3:=hp _ (List.mem_cons_of_mem _ (List.mem_cons_of_mem _ (List.mem_cons_self ..)))
  have hr:∀p∈Vv call n Q S (β.length+1) a (xU (fun B=>MX B ks) K),p.1=p.2:=fun p h=>hp p (List.mem_cons_of_mem _ (List.mem_cons_of_mem _ (List.mem_cons_of_mem _ h)))
  have main:∀m,ZE (S.lp β j m) ks (iter (dD call' n a.erase) KS m):=by
   intro m
   induction m with
   |zero=>
    intro vs ρ h hl H s
    have e:=congrFun (congrFun (congrFun (congrFun e2 (tN β)) 0) (uU vs)) h
    simp only[yN,rF hl] at e
    rw[e] at s;cases s
   |succ m ihm=>
    intro vs ρ h hl H s
    have e:=congrFun (congrFun (congrFun (congrFun e3 (tN β)) m) (uU vs)) h
    simp only[yN,rF hl] at e
    have e':=congrFun (congrFun (congrFun (congrFun e1 (tN (S.lp β j m :: β))) 0) (uU vs)) h
    have hs:stk (β.length+1) 0 (tN (S.lp β j m :: β))=S.lp β j m :: β:=yN (S.lp β j m :: β)
    simp only[hs,rF hl] at e'
    rw[e,e'] at s
    have hk':PS (MX (S.lp β j m) ks (K β)) (Q5 call' n a.erase KS m):=hk.loop ihm
    exact adj (zR hc a (S.lp β j m :: β) ρ _ h _ _ (ih (S.lp β j m :: β) (xU (fun B=>MX B ks) K) _ hr hk' hq.loop) hk' hq.loop H s)
  exact main n
 |seq a b iha ihb=>
  intro β K KS hp hk hq
  have hb:SPd call' n S β b KS:=ihb β K KS (fun p h=>hp p (List.mem_append_right _ h)) hk hq
  refine⟨iha β _ _ (fun p h=>hp p (List.mem_append_left _ h)) ?_ hq.seq,hb⟩
  intro x l ρ h H s
  cases x with
  |normal=>exact zR hc b β ρ l h _ KS hb hk hq H s
  |_=>exact hk _ _ _ _ H s
 |cond o a b iha ihb=>
  intro β K KS hp hk hq
  exact⟨iha β K KS (fun p h=>hp p (List.mem_append_left _ h)) hk hq,ihb β K KS (fun p h=>hp p (List.mem_append_right _ h)) hk hq⟩
 |block id a ih=>
  intro β K KS hp hk hq
  exact ih β (fun β=>Ja id (K β)) _ hp hk.block hq.block
 |rseq ops b ih=>
  intro β K KS hp hk hq
  exact ih β K KS hp hk hq
 |scope j ks fks a lb r iha ihr=>
  intro β K KS hp hk hq
  have e0:=hp _ (List.mem_cons_self ..)
  have e1:=hp _ (List.mem_cons_of_mem _ (List.mem_cons_self ..))
  have e2:=hp _ (List.mem_cons_of_mem _ (List.mem_cons_of_mem _ (List.mem_cons_self ..)))
  have e3:=hp _ (List.mem_cons_of_mem _ (List.mem_cons_of_mem _ (List.mem_cons_of_mem _ (List.mem_cons_self ..))))
  have hr:∀p∈Vv call n Q S (β.length+1) a (xU (fun B=>xZ lb B ks) K)++Vv call n Q S (β.length+1) r (xU (fun B=>xZ lb B ks) K),p.1=p.2:=fun p h=>hp p (List.mem_cons_of_mem _ (List.mem_cons_of_mem _ (List.mem_cons_of_mem _ (List.mem_cons_of_mem _ h))))
  have main:∀m,ZE (S.lp β j m) ks (uQ lb (dD call' n r.erase) KS m):=by
   intro m
   induction m with
   |zero=>
    intro vs ρ h hl H s
    have e:=congrFun (congrFun (congrFun (congrFun e2 (tN β)) 0) (uU vs)) h
    simp only[yN,rF hl] at e
    rw[e] at s;cases s
   |succ m ihm=>
    intro vs ρ h hl H s
    have e:=congrFun (congrFun (congrFun (congrFun e3 (tN β)) m) (uU vs)) h
    simp only[yN,rF hl] at e
    have e':=congrFun (congrFun (congrFun (congrFun e1 (tN (S.lp β j m :: β))) 0) (uU vs)) h
    have hs:stk (β.length+1) 0 (tN (S.lp β j m :: β))=S.lp β j m :: β:=yN (S.lp β j m :: β)
    simp only[hs,rF hl] at e'
    rw[e,e'] at s
    have hk':PS (xZ lb (S.lp β j m) ks (K β)) (AX call' n lb r.erase KS m):=hk.jump ihm
    exact afY (zR hc r (S.lp β j m :: β) ρ _ h _ _ (ihr (S.lp β j m :: β) (xU (fun B=>xZ lb B ks) K) _ (fun p h=>hr p (List.mem_append_right _ h)) hk' hq.jump) hk' hq.jump H s)
  intro vs ρ h hl H s
  have e:=congrFun (congrFun (congrFun (congrFun e0 (tN (S.lp β j n :: β))) 0) (uU vs)) h
  have hs:stk (β.length+1) 0 (tN (S.lp β j n :: β))=S.lp β j n :: β:=yN (S.lp β j n :: β)
  simp only[hs,rF hl] at e
  rw[e] at s
  have hk':PS (xZ lb (S.lp β j n) ks (K β)) (AX call' n lb r.erase KS n):=hk.jump (main n)
  exact zR hc a (S.lp β j n :: β) ρ _ h _ _ (iha (S.lp β j n :: β) (xU (fun B=>xZ lb B ks) K) _ (fun p h=>hr p (List.mem_append_left _ h)) hk' hq.jump) hk' hq.jump H s
 |_=>intro β K KS hp hk hq;trivial
theorem Nl {h:aj}:∀{res:List (Nat×Option (Bool×Nat))} {l:gq} {m:List (AV×Option (Bool×Nat))},IE l res=some m→(res.any fun x=>x.2.isSome)=false→fQ h m=some (m.map fun x=>x.1)
 | [],l,m,e,_=>by simp only[IE] at e;cases e;rfl
 |(t,x) :: r,l,m,e,ha=>by
  simp only[IE] at e
  split at e
  ·split at e
   ·rename_i v hv vs hvs
    cases e
    simp only[List.any_cons,Bool.or_eq_false_iff] at ha
    cases x with
    |some p=>cases ha.1
    |none=>simp only[fQ,Nl hvs ha.2,List.map]
   ·cases e
  ·cases e
theorem Wm {res:List (Nat×Option (Bool×Nat))} {K:aM} {ρ:dz} {l:gq} {h:aj} (H:Has ρ l) (s:ac7 res l h K=true):∃m,IE l res=some m∧gU (fQ h m) h K=true:=by
 unfold ac7 at s
 split at s
 ·rename_i m hm
  refine⟨m,hm, ?_⟩
  cases ha:res.any fun x=>x.2.isSome with
  |true=>rw[ha] at s;exact s
  |false=>rw[ha] at s;rw[Nl hm ha];exact s
 ·cases s
theorem PS.fin {res:List (Nat×Option (Bool×Nat))} {K K':aM} (hK:∀v h',K v h'=true→K' v h'=true):PS (aaX res K) (LQ res K'):=by
 intro x l ρ h H s
 cases x with
 |normal=>obtain⟨m,e,s⟩:=Wm H s;exact TQ H e hK s
 |ret=>obtain⟨m,e,s⟩:=Wm H s;exact acL H e hK s
 |_=>cases s
theorem Mw.fin {res:List (Nat×Option (Bool×Nat))} {K K':aM} (hK:KLe K K'):Mw K (LQ res K'):=fun x ρ h s=>hK _ _ s
def Bq:dA→Bool
 | .seq (.reg ops) b=>(match mZ ops with
   |some _=>false
   |none=>Bq b)
 | .seq _ b=>Bq b
 |_=>true
theorem EY {df:ni} {res:List (Nat×Option (Bool×Nat))} {K:aM} {x:CP} {σ:St} (s:LQ res K x σ=true):atEnd df [] x σ (ou res K)=true:=by
 cases x<;>first |(cases s;done)|exact s
theorem Wp {a b:dA} {σ:St} {K:oM} (s:dD call n (.seq a b) σ K=true):dD call n a σ (fun x σ'=>match x with | .normal=>dD call n b σ' K |x=>K x σ')=true:=s
theorem Vm (hm:Le call call) {df:ni} {res:List (Nat×Option (Bool×Nat))} {K:aM}:∀{c:dA} {σ:St},Bq c=true→dD call n c σ (LQ res K)=true→runT call df n c [] σ (ou res K)=true:=by
 intro c
 induction c with
 |seq a b iha ihb=>
  intro σ hp s
  cases a with
  |reg ops=>
   unfold Bq at hp
   unfold runT
   cases hs:mZ ops with
   |some p=>rw[hs] at hp;cases hp
   |none=>
    rw[hs] at hp
    simp only
    refine qY hm (Wp s) fun x σ' hx=> ?_
    cases x with
    |normal=>exact ihb hp hx
    |_=>exact EY hx
  |_=>
   unfold Bq at hp
   simp only[runT]
   have s':=Wp s
   refine qY hm s' fun x σ' hx=> ?_
   cases x with
   |normal=>exact ihb hp hx
   |_=>exact EY hx
 |_=>intro σ hp s;simp only[runT];exact qY hm s fun x σ' hx=>EY hx
theorem Has.init:∀{vs:List AV} {i:Nat} {ρ:dz} {l:gq},Has ρ l→Has (qJ i vs ρ) (XZ i vs l)
 | [],i,ρ,l,H=>H
 |v :: vs,i,ρ,l,H=>Has.init (vs:=vs) (H.set i v)
theorem MG (σ:Nat→AV):∀(vs:List AV) (i:Nat),(∀j,j<vs.length→vs[j]? =some (σ (i+j)))→YC vs.length i σ=vs
 | [],_,_=>rfl
 |v :: vs,i,h=>by
  have h0:=h 0 (Nat.succ_pos _)
  simp only[List.getElem?_cons_zero,Nat.add_zero,Option.some.injEq] at h0
  have:=MG σ vs (i+1) (fun j hj=>by
   have:=h (j+1) (by simpa using hj)
   simpa[Nat.add_assoc,Nat.add_comm 1 j] using this)
  simp only[List.length_cons,YC, ←h0,this]
theorem acZ (vs:List AV):YC vs.length 0 (uU vs)=vs:=MG _ vs 0 fun j hj=>by rw[Nat.zero_add];exact F9 vs j hj
theorem RZ {α:Type}:∀{l:List (α×α)},l.map Prod.fst=l.map Prod.snd→∀p∈l,p.1=p.2
 | [],_,p,h=>by cases h
 |q :: l,e,p,h=>by
  simp only[List.map_cons,List.cons.injEq] at e
  cases h with
  |head=>exact e.1
  |tail _ h=>exact RZ e.2 p h
noncomputable def jU (np:Nat) (top:bM→Nat→aM→Pv):Sh:=fun call n args h K=>kF (Nat.beq (pK args) np) (top call n K args h) false
theorem aeV {E:Env} {k np:Nat} {A:Ann} {fn:dH} {S:bM→Nat→aM→Sp} {top:bM→Nat→aM→Pv} (hk:E.code k=some fn) (hpr:E.prim k=none) (hn:fn.np=np) (hpl:Bq fn.body=true)
 (e:(fun call n K=>(ad4 call n K (S call n K) (top call n K) A fn).map Prod.fst)=fun call n K=>(ad4 call n K (S call n K) (top call n K) A fn).map Prod.snd):fA E k (jU np top):=by
 intro call call' n args h K K' hc hm hK s
 subst hn
 unfold jU at s
 rw[rZ,mM] at s
 cases hb:Nat.beq args.length fn.np with
 |false=>rw[hb] at s;cases s
 |true=>
  rw[hb] at s
  have hl:=Nat.eq_of_beq_eq_true hb
  refine⟨fn,hk,hpr,hl,fun df=>Vm hm hpl ?_⟩
  have ep:=RZ (congrFun (congrFun (congrFun e call) n) K)
  have e0:=congrFun (congrFun (congrFun (congrFun (ep _ (List.mem_cons_self ..)) (fun _ _ _=>false)) 0) (uU args)) h
  simp only[←hl,acZ] at e0
  rw[cond_true,e0] at s
  have hk:PS (aaX fn.res K) (LQ fn.res K'):=PS.fin hK
  have sp:SPd call' n (S call n K) [] (toB A fn.body 0).1 (LQ fn.res K'):=ag0 hc _ [] (fun _=>aaX fn.res K) _ (fun p h=>ep p (List.mem_cons_of_mem _ h)) hk (Mw.fin hK)
  have:=zR hc (toB A fn.body 0).1 [] (qJ 0 args .lf) (XZ 0 args []) h _ _ sp hk (Mw.fin hK) (Has.init Has.nil) s
  rwa [Yu] at this
end
end Go.Ab
namespace Go.Proofs.YtibillhjmfbneaaGreatDoor
open Go.Ab
abbrev G (α:Type):Type:=bM→Nat→α
abbrev H0:Type:=aj→aM→Bool
abbrev H1:Type:=AV→aj→aM→Bool
abbrev H2:Type:=AV→AV→aj→aM→Bool
abbrev H3:Type:=AV→AV→AV→aj→aM→Bool
abbrev H4:Type:=AV→AV→AV→AV→aj→aM→Bool
abbrev H5:Type:=AV→AV→AV→AV→AV→aj→aM→Bool
abbrev H6:Type:=AV→AV→AV→AV→AV→AV→aj→aM→Bool
abbrev H7:Type:=AV→AV→AV→AV→AV→AV→AV→aj→aM→Bool
abbrev H9:Type:=AV→AV→AV→AV→AV→AV→AV→AV→AV→aj→aM→Bool
noncomputable section
def JW:G (F2→H2):=fun c n B6 x0 x3 h K=>
 gW x3 (.int .i64 1) fun v15=>B6 x0 v15 h
def Iw:G (F2→H4):=fun c n B6 x0 x3 x107 x110 h K=>
 gK x107 false (mO x110) fun v82=>cO x107 (.bool true) v82 fun v83=>aL v83 (K (.bool false) h) (JW c n B6 x0 x3 h K)
set_option maxRecDepth 100000 in
def K7:G (F2→H9):=fun c n B6 x0 x3 x4 x6 x8 x9 x10 x11 x58 h K=>
 kI 0 x58 fun v31=>kI 1 x58 fun v32=>kI 2 x58 fun v33=>bS h [.ah, .ah, .ah] 3 fun v34 h=>aK h 3 v34 v31 fun h=>jM x8 (.int .i64 0) fun v36=>aL v36 (JW c n B6 x0 x3 h K) (jM x11 (.int .i64 0) fun v37=>aL v37 (jM v33 x11 fun v38=>gK v38 false (bQ (some v32)) fun v39=>gK v38 false (bQ (some x4)) fun v40=>gK v38 false (oN v40) fun v41=>gK v38 false (gW v41 (.int .i64 1)) fun v42=>gK v38 false (bQ (some x10)) fun v43=>gK v38 false (gW v42 v43) fun v44=>gK v38 false (jM v39 v44) fun v45=>cO v38 (.bool true) v45 fun v46=>aL v46 (K (.bool false) h) (JW c n B6 x0 x3 h K)) (bS h [.ah, .ah, .ah] 3 fun v47 h=>ay 0 v47 fun v48=>av h v48 fun v49=>ay 0 x6 fun v50=>av h v50 fun v51=>ay 0 x9 fun v52=>av h v52 fun v53=>oq h 3 56 v49 v51 fun v54 h=>av h v52 <| dR v53 <| oq h 3 56 v54 v53 fun v55 h=>ay 0 v47 fun v56=>bG h v56 v55 fun h=>ay 1 v47 fun v58=>av h v58 fun v59=>ay 1 x6 fun v60=>av h v60 fun v61=>ay 1 x9 fun v62=>av h v62 fun v63=>oq h 8 112 v59 v61 fun v64 h=>av h v62 <| dR v63 <| oq h 8 112 v64 v63 fun v65 h=>ay 1 v47 fun v66=>bG h v66 v65 fun h=>ay 2 v47 fun v68=>av h v68 fun v69=>ay 2 x6 fun v70=>av h v70 fun v71=>ay 2 x9 fun v72=>av h v72 fun v73=>oq h 3 64 v69 v71 fun v74 h=>av h v72 <| dR v73 <| oq h 3 64 v74 v73 fun v75 h=>ay 2 v47 fun v76=>bG h v76 v75 fun h=>jM v33 (.int .i64 0) fun v78=>gK v78 false (bO h 3 v34) fun v79=>gK v78 false (bO h 3 v47) fun v80=>gP v78 false (fun k=>c (.func 8) [v79,v80] h (pz K k)) h fun v81 h=>Iw c n B6 x0 x3 v78 v81 h K))
def Lr:G (F2→H7):=fun c n B6 x0 x3 x4 x5 x6 x8 x49 h K=>
 kI 0 x49 fun v23=>kI 1 x49 fun v24=>kI 2 x49 fun v25=>bS h [.ah, .ah, .ah] 3 fun v26 h=>aK h 3 v26 v23 fun h=>gW x4 (.str [10]) fun v28=>gW v28 x5 fun v29=>c (.func 6) [v29] h <| pz K fun v30 h=>K7 c n B6 x0 x3 x4 x6 x8 v26 v24 v25 v30 h K
def Lj:G (F2→H5):=fun c n B6 x0 x3 x4 x5 x43 h K=>
 kI 0 x43 fun v17=>kI 1 x43 fun v18=>kI 2 x43 fun v19=>bS h [.ah, .ah, .ah] 3 fun v20 h=>aK h 3 v20 v17 fun h=>c (.func 6) [x5] h <| pz K fun v22 h=>Lr c n B6 x0 x3 x4 x5 v20 v19 v22 h K
def Xb:G H0:=fun c n h K=>
 c (.func 9) [] h <| pz K fun v84 h=>K v84 h
def acN:G (F2→H2):=fun c n B6 x0 x3 h K=>
 iq x0 fun v1=>mQ x3 v1 fun v2=>gK v2 true (bQ (some x3)) fun v3=>gK v2 true (mQ v3 (.int .i64 6)) fun v4=>cO v2 v4 (.bool false) fun v5=>aL v5 (J9 x3 (.int .i64 1) fun v6=>eX h 1 x0 v6 fun v7=>av h v7 fun v8=>eX h 1 x0 x3 fun v9=>av h v9 fun v10=>oN v8 fun v11=>oN v10 fun v12=>gW v11 v12 fun v13=>LM v13 (.int .i64 3000) fun v14=>aL v14 (JW c n B6 x0 x3 h K) (c (.func 6) [v8] h <| pz K fun v16 h=>Lj c n B6 x0 x3 v8 v10 v16 h K)) (Xb c n h K)
def Zz:G (Nat→H2):=fun c n=>
 @Nat.rec (fun _=>H2) (fun _ _ _ _=>false) (fun _ ih x0 x3 h K=>acN c n (fun x0 x3 h=>ih x0 x3 h K) x0 x3 h K)
def s4:G H1:=fun c n x0 h K=>
 Zz c n n x0 (.int .i64 1) h K
def CU:G H3:=fun c n x2 x5 x11 h K=>
 kI 0 x11 fun v5=>kI 1 x11 fun v6=>jM v6 (.int .i64 0) fun v7=>aL v7 (dX [.ah, .ah, .ah] [] fun v8=>aK h 3 x2 v8 fun h=>gU (fQ h [(x2,some (true,3)),(v5,none),(v6,none)]) h K) (bO h 3 x5 fun v10=>aK h 3 x2 v10 fun h=>gU (fQ h [(x2,some (true,3)),((.int .i64 0),none),((.int .i64 0),none)]) h K)
def s6:G H1:=fun c n x0 h K=>
 bS h [.ah, .ah, .ah] 3 fun v1 h=>bS h [.ah, .ah, .ah] 3 fun v2 h=>bQ (some (.fn (.func 11) [] [v2])) fun v3=>c (.func 10) [x0,v3] h <| pz K fun v4 h=>CU c n v1 v2 v4 h K
def RN:G H1:=fun c n x9 h K=>
 kI 0 x9 fun v4=>kI 1 x9 fun v5=>kI 2 x9 fun v6=>K (.tup [v4,v5,v6]) h
def s7:G H1:=fun c n x0 h K=>
 oN x0 fun v1=>LM v1 (.int .i64 65536) fun v2=>aL v2 (K (.tup [.ah,(.int .i64 0),(.int .i64 21)]) h) (c (.func 13) [x0] h <| pz K fun v3 h=>RN c n v3 h K)
def Lf:G (F3→H5):=fun c n B35 x2 x3 x6 x151 x156 h K=>
 gK x151 false (mO x156) fun v134=>cO x151 (.bool true) v134 fun v135=>aL v135 (K (.bool false) h) (gW x6 (.int .i64 1) fun v136=>B35 x2 x3 v136 h)
def JQ:G (F3→H7):=fun c n B35 x2 x3 x6 x7 x8 x143 x148 h K=>
 gK x143 false (mO x148) fun v127=>cO x143 (.bool true) v127 fun v128=>gK v128 false (ay 7 x7) fun v129=>gK v128 false (av h v129) fun v130=>gK v128 false (ay 7 x8) fun v131=>gK v128 false (av h v131) fun v132=>gP v128 false (fun k=>c (.func 16) [v130,v132] h (pz K k)) h fun v133 h=>Lf c n B35 x2 x3 x6 v128 v133 h K
set_option maxRecDepth 100000 in
def X5:G (F3→H3):=fun c n B60 x2 x3 x9 h K=>
 ay 2 x2 fun v137=>av h v137 fun v138=>iq v138 fun v139=>mQ x9 v139 fun v140=>aL v140 (ay 2 x2 fun v141=>av h v141 fun v142=>eX h 3 v142 x9 fun v143=>ay 0 v143 fun v144=>av h v144 fun v145=>ay 2 x3 fun v146=>av h v146 fun v147=>eX h 3 v147 x9 fun v148=>ay 0 v148 fun v149=>av h v149 fun v150=>jM v145 v150 fun v151=>gK v151 false (ay 2 x2) fun v152=>gK v151 false (av h v152) fun v153=>gK v151 false (bQ (some x9)) fun v154=>gK v151 false (eX h 3 v153 v154) fun v155=>gK v151 false (ay 1 v155) fun v156=>gK v151 false (av h v156) fun v157=>gK v151 false (ay 2 x3) fun v158=>gK v151 false (av h v158) fun v159=>gK v151 false (bQ (some x9)) fun v160=>gK v151 false (eX h 3 v159 v160) fun v161=>gK v151 false (ay 1 v161) fun v162=>gK v151 false (av h v162) fun v163=>gP v151 false (fun k=>c (.func 17) [v157,v163] h (pz K k)) h fun v164 h=>gK v151 false (mO v164) fun v165=>cO v151 (.bool true) v165 fun v166=>gK v166 false (ay 2 x2) fun v167=>gK v166 false (av h v167) fun v168=>gK v166 false (bQ (some x9)) fun v169=>gK v166 false (eX h 3 v168 v169) fun v170=>gK v166 false (ay 2 v170) fun v171=>gK v166 false (av h v171) fun v172=>gK v166 false (ay 2 x3) fun v173=>gK v166 false (av h v173) fun v174=>gK v166 false (bQ (some x9)) fun v175=>gK v166 false (eX h 3 v174 v175) fun v176=>gK v166 false (ay 2 v176) fun v177=>gK v166 false (av h v177) fun v178=>gP v166 false (fun k=>c (.func 15) [v172,v178] h (pz K k)) h fun v179 h=>gK v166 false (mO v179) fun v180=>cO v166 (.bool true) v180 fun v181=>aL v181 (K (.bool false) h) (gW x9 (.int .i64 1) fun v182=>B60 x2 x3 v182 h)) (K (.bool true) h)
def Q9:G (Nat→H3):=fun c n=>
 @Nat.rec (fun _=>H3) (fun _ _ _ _ _=>false) (fun _ ih x2 x3 x9 h K=>X5 c n (fun x2 x3 x9 h=>ih x2 x3 x9 h K) x2 x3 x9 h K)
def Ru:G H2:=fun c n x2 x3 h K=>
 Q9 c n n x2 x3 (.int .i64 0) h K
set_option maxRecDepth 100000 in
def WK:G (F3→H3):=fun c n B35 x2 x3 x6 h K=>
 ay 1 x2 fun v71=>av h v71 fun v72=>iq v72 fun v73=>mQ x6 v73 fun v74=>aL v74 (ay 1 x2 fun v75=>av h v75 fun v76=>eX h 8 v76 x6 fun v77=>bO h 8 v77 fun v78=>bS h [.str [], .int .i64 0, .str [], .str [], .bool false, .bool false, .ah, .ah] 8 fun v79 h=>aK h 8 v79 v78 fun h=>ay 1 x3 fun v81=>av h v81 fun v82=>eX h 8 v82 x6 fun v83=>bO h 8 v83 fun v84=>bS h [.str [], .int .i64 0, .str [], .str [], .bool false, .bool false, .ah, .ah] 8 fun v85 h=>aK h 8 v85 v84 fun h=>ay 0 v79 fun v87=>av h v87 fun v88=>ay 0 v85 fun v89=>av h v89 fun v90=>jM v88 v90 fun v91=>gK v91 false (ay 1 v79) fun v92=>gK v91 false (av h v92) fun v93=>gK v91 false (ay 1 v85) fun v94=>gK v91 false (av h v94) fun v95=>gK v91 false (jM v93 v95) fun v96=>cO v91 (.bool true) v96 fun v97=>gK v97 false (ay 2 v79) fun v98=>gK v97 false (av h v98) fun v99=>gK v97 false (ay 2 v85) fun v100=>gK v97 false (av h v100) fun v101=>gK v97 false (jM v99 v101) fun Zc=>cO v97 (.bool true) Zc fun v103=>gK v103 false (ay 3 v79) fun v104=>gK v103 false (av h v104) fun v105=>gK v103 false (ay 3 v85) fun v106=>gK v103 false (av h v106) fun v107=>gK v103 false (jM v105 v107) fun VE=>cO v103 (.bool true) VE fun v109=>gK v109 false (ay 4 v79) fun v110=>gK v109 false (av h v110) fun v111=>gK v109 false (ay 4 v85) fun v112=>gK v109 false (av h v112) fun v113=>gK v109 false (bQ (Ey h true .bool v111 v113)) fun v114=>cO v109 (.bool true) v114 fun v115=>gK v115 false (ay 5 v79) fun v116=>gK v115 false (av h v116) fun v117=>gK v115 false (ay 5 v85) fun v118=>gK v115 false (av h v118) fun v119=>gK v115 false (bQ (Ey h true .bool v117 v119)) fun v120=>cO v115 (.bool true) v120 fun v121=>gK v121 false (ay 6 v79) fun v122=>gK v121 false (av h v122) fun v123=>gK v121 false (ay 6 v85) fun v124=>gK v121 false (av h v124) fun v125=>gP v121 false (fun k=>c (.func 15) [v123,v125] h (pz K k)) h fun v126 h=>JQ c n B35 x2 x3 x6 v79 v85 v121 v126 h K) (Ru c n x2 x3 h K)
def Rx:G (Nat→H3):=fun c n=>
 @Nat.rec (fun _=>H3) (fun _ _ _ _ _=>false) (fun _ ih x2 x3 x6 h K=>WK c n (fun x2 x3 x6 h=>ih x2 x3 x6 h K) x2 x3 x6 h K)
def RS:G H2:=fun c n x2 x3 h K=>
 Rx c n n x2 x3 (.int .i64 0) h K
set_option maxRecDepth 100000 in
def XY:G (F3→H3):=fun c n B14 x2 x3 x5 h K=>
 ay 0 x2 fun v26=>av h v26 fun v27=>iq v27 fun v28=>mQ x5 v28 fun v29=>aL v29 (ay 0 x2 fun v30=>av h v30 fun v31=>eX h 3 v31 x5 fun v32=>ay 0 v32 fun v33=>av h v33 fun v34=>ay 0 x3 fun v35=>av h v35 fun v36=>eX h 3 v36 x5 fun v37=>ay 0 v37 fun v38=>av h v38 fun v39=>jM v34 v39 fun v40=>gK v40 false (ay 0 x2) fun v41=>gK v40 false (av h v41) fun v42=>gK v40 false (bQ (some x5)) fun v43=>gK v40 false (eX h 3 v42 v43) fun v44=>gK v40 false (ay 1 v44) fun v45=>gK v40 false (av h v45) fun v46=>gK v40 false (ay 0 x3) fun v47=>gK v40 false (av h v47) fun v48=>gK v40 false (bQ (some x5)) fun v49=>gK v40 false (eX h 3 v48 v49) fun v50=>gK v40 false (ay 1 v50) fun v51=>gK v40 false (av h v51) fun v52=>gK v40 false (jM v46 v52) fun v53=>cO v40 (.bool true) v53 fun v54=>gK v54 false (ay 0 x2) fun v55=>gK v54 false (av h v55) fun v56=>gK v54 false (bQ (some x5)) fun v57=>gK v54 false (eX h 3 v56 v57) fun v58=>gK v54 false (ay 2 v58) fun v59=>gK v54 false (av h v59) fun v60=>gK v54 false (ay 0 x3) fun v61=>gK v54 false (av h v61) fun v62=>gK v54 false (bQ (some x5)) fun v63=>gK v54 false (eX h 3 v62 v63) fun v64=>gK v54 false (ay 2 v64) fun v65=>gK v54 false (av h v65) fun v66=>gP v54 false (fun k=>c (.func 14) [v60,v66] h (pz K k)) h fun v67 h=>gK v54 false (mO v67) fun v68=>cO v54 (.bool true) v68 fun v69=>aL v69 (K (.bool false) h) (gW x5 (.int .i64 1) fun v70=>B14 x2 x3 v70 h)) (RS c n x2 x3 h K)
def Q8:G (Nat→H3):=fun c n=>
 @Nat.rec (fun _=>H3) (fun _ _ _ _ _=>false) (fun _ ih x2 x3 x5 h K=>XY c n (fun x2 x3 x5 h=>ih x2 x3 x5 h K) x2 x3 x5 h K)
def V7:G H2:=fun c n x2 x3 h K=>
 Q8 c n n x2 x3 (.int .i64 0) h K
def s8:G H2:=fun c n x0 x1 h K=>
 aY (nU h (none) 3 x0) fun v1 h=>aY (nU h (none) 3 x1) fun v2 h=>ay 0 v1 fun v3=>av h v3 fun v4=>iq v4 fun v5=>ay 0 v2 fun v6=>av h v6 fun v7=>iq v7 fun v8=>jM v5 v8 fun v9=>gK v9 false (ay 1 v1) fun v10=>gK v9 false (av h v10) fun v11=>gK v9 false (iq v11) fun v12=>gK v9 false (ay 1 v2) fun v13=>gK v9 false (av h v13) fun v14=>gK v9 false (iq v14) fun v15=>gK v9 false (jM v12 v15) fun v16=>cO v9 (.bool true) v16 fun v17=>gK v17 false (ay 2 v1) fun v18=>gK v17 false (av h v18) fun v19=>gK v17 false (iq v19) fun v20=>gK v17 false (ay 2 v2) fun v21=>gK v17 false (av h v21) fun v22=>gK v17 false (iq v22) fun v23=>gK v17 false (jM v20 v23) fun v24=>cO v17 (.bool true) v24 fun v25=>aL v25 (K (.bool false) h) (V7 c n v1 v2 h K)
def PG:G H3:=fun c n x1 x3 x13 h K=>
 kI 0 x13 fun v8=>kI 1 x13 fun v9=>kI 2 x13 fun v10=>bS h [.ah, .ah, .ah] 3 fun v11 h=>aK h 3 v11 v8 fun h=>eO x3 (.int .i64 0) fun v13=>gK v13 true (ay 1 x1) fun v14=>gK v13 true (av h v14) fun v15=>gK v13 true (iq v15) fun v16=>gK v13 true (eO v16 (.int .i64 1)) fun v17=>cO v13 v17 (.bool false) fun v18=>gK v18 true (ay 1 x1) fun v19=>gK v18 true (av h v19) fun v20=>gK v18 true (eX h 8 v20 (.int .i64 0)) fun v21=>gK v18 true (ay 1 v21) fun v22=>gK v18 true (av h v22) fun v23=>gK v18 true (eO v23 (.int .i64 (-2))) fun v24=>cO v18 v24 (.bool false) fun v25=>gK v25 true (ay 1 x1) fun v26=>gK v25 true (av h v26) fun v27=>gK v25 true (eX h 8 v27 (.int .i64 0)) fun v28=>gK v25 true (ay 6 v28) fun v29=>gK v25 true (av h v29) fun v30=>gK v25 true (iq v30) fun v31=>gK v25 true (eO v31 (.int .i64 2)) fun v32=>cO v25 v32 (.bool false) fun v33=>gK v33 true (bQ (some v10)) fun v34=>gK v33 true (eO v34 (.int .i64 20)) fun v35=>cO v33 v35 (.bool false) fun v36=>gK v36 true (bQ (some v9)) fun v37=>gK v36 true (eO v37 (.int .i64 4)) fun v38=>cO v36 v38 (.bool false) fun v39=>K v39 h
def OA:G H1:=fun c n x8 h K=>
 kI 0 x8 fun v2=>kI 1 x8 fun v3=>kI 2 x8 fun v4=>bS h [.ah, .ah, .ah] 3 fun v5 h=>aK h 3 v5 v2 fun h=>c (.func 6) [(.str [114,117,108,101])] h <| pz K fun v7 h=>PG c n v5 v4 v7 h K
def s9:G H0:=fun c n h K=>
 c (.func 6) [(.str [114,117,108,101,32,34,114,34,32,115,97,108,105,101,110,99,101,32,45,50,32,119,104,101,110,32,36,112,32,58,32,80,40,120,32,62,32,49,44,32,36,121,32,58,32,121,41,32,110,111,116,32,40,81,40,122,32,61,61,32,36,121,41,41,32,116,104,101,110,32,105,110,115,101,114,116,32,82,32,123,32,97,32,61,32,36,121,32,43,32,49,32,125,59,32,101,110,100])] h <| pz K fun v1 h=>OA c n v1 h K
def Ao:G H1:=fun c n x21 h K=>
 kI 0 x21 fun v8=>kI 1 x21 fun v9=>K (.tup [v8,v9]) h
def CG:G H3:=fun c n x0 x1 x9 h K=>
 kI 0 x9 fun v2=>kI 1 x9 fun v3=>kI 2 x9 fun v4=>jM v4 (.int .i64 0) fun v5=>aL v5 (K (.tup [v3,v4]) h) (oN x0 fun v6=>c (.func 18) [v2,v6,x1] h <| pz K fun v7 h=>Ao c n v7 h K)
def s10:G H2:=fun c n x0 x1 h K=>
 c (.func 7) [x0] h <| pz K fun v1 h=>CG c n x0 x1 v1 h K
def JZ:G H2:=fun c n x1 x4 h K=>
 aK h 3 x1 x4 fun h=>K (.tup []) h
def s11:G H2:=fun c n x0 x1 h K=>
 c (.func 12) [x0] h <| pz K fun v1 h=>JZ c n x1 v1 h K
def VD:G H2:=fun c n x2 x3 h K=>
 bO h 3 x3 fun v36=>aK h 3 x2 v36 fun h=>gU (fQ h [(x2,some (true,3))]) h K
set_option maxRecDepth 100000 in
def Wj:G (F3→H3):=fun c n B6 x0 x2 x3 h K=>
 bK x0 fun v3=>ay 1 v3 fun v4=>av h v4 fun v5=>bK x0 fun v6=>ay 0 v6 fun v7=>av h v7 fun v8=>iq v8 fun v9=>mQ v5 v9 fun v10=>aL v10 (c (.func 19) [x0,(.str [99,108,97,115,115])] h <| pz K fun v11 h=>aL v11 (ay 0 x3 fun v12=>av h v12 fun v13=>c (.func 20) [x0] h <| pz K fun v14 h=>av h v12 <| dR v13 <| aY (bI h 1 3 [.str [], .str [], .ah] [(0,v14)]) fun v15 h=>av h v12 <| dR v13 <| oq h 3 56 v13 v15 fun v16 h=>ay 0 x3 fun v17=>bG h v17 v16 fun h=>B6 x0 x2 x3 h) (c (.func 19) [x0,(.str [114,117,108,101])] h <| pz K fun v19 h=>aL v19 (ay 1 x3 fun v20=>av h v20 fun v21=>c (.func 21) [x0] h <| pz K fun v22 h=>av h v20 <| dR v21 <| aY (bI h 1 8 [.str [], .int .i64 0, .str [], .str [], .bool false, .bool false, .ah, .ah] [(0,v22)]) fun v23 h=>av h v20 <| dR v21 <| oq h 8 112 v21 v23 fun v24 h=>ay 1 x3 fun v25=>bG h v25 v24 fun h=>B6 x0 x2 x3 h) (aY (bI h 1 1 [.str []] [(0,(.str [113,117,101,114,121]))]) fun v27 h=>c (.func 22) [x0,v27] h <| pz K fun v28 h=>ay 2 x3 fun v29=>av h v29 fun v30=>c (.func 23) [x0] h <| pz K fun v31 h=>av h v29 <| dR v30 <| aY (bI h 1 3 [.str [], .ah, .ah] [(0,v31)]) fun v32 h=>av h v29 <| dR v30 <| oq h 3 64 v30 v32 fun v33 h=>ay 2 x3 fun v34=>bG h v34 v33 fun h=>B6 x0 x2 x3 h))) (VD c n x2 x3 h K)
def QG:G (Nat→H3):=fun c n=>
 @Nat.rec (fun _=>H3) (fun _ _ _ _ _=>false) (fun _ ih x0 x2 x3 h K=>Wj c n (fun x0 x2 x3 h=>ih x0 x2 x3 h K) x0 x2 x3 h K)
def s12:G H1:=fun c n x0 h K=>
 bS h [.ah, .ah, .ah] 3 fun v1 h=>bS h [.ah, .ah, .ah] 3 fun v2 h=>QG c n n x0 v1 v2 h K
def NP:G (F3→H3):=fun c n B14 x0 x1 x5 h K=>
 iq x0 fun v4=>mQ x5 v4 fun v5=>aL v5 (eX h 3 x0 x5 fun v6=>bO h 3 v6 fun v7=>eX h 3 x1 x5 fun v8=>bO h 3 v8 fun v9=>bQ (Ey h true (.agg [.str, .int, .str]) v7 v9) fun v10=>aL v10 (K (.bool false) h) (gW x5 (.int .i64 1) fun v11=>B14 x0 x1 v11 h)) (K (.bool true) h)
def J5:G (Nat→H3):=fun c n=>
 @Nat.rec (fun _=>H3) (fun _ _ _ _ _=>false) (fun _ ih x0 x1 x5 h K=>NP c n (fun x0 x1 x5 h=>ih x0 x1 x5 h K) x0 x1 x5 h K)
def U5:G H2:=fun c n x0 x1 h K=>
 J5 c n n x0 x1 (.int .i64 0) h K
def s14:G H2:=fun c n x0 x1 h K=>
 iq x0 fun v1=>iq x1 fun v2=>jM v1 v2 fun v3=>aL v3 (K (.bool false) h) (U5 c n x0 x1 h K)
def Pz:G (F3→H3):=fun c n B14 x0 x1 x5 h K=>
 iq x0 fun v4=>mQ x5 v4 fun v5=>aL v5 (eX h 19 x0 x5 fun v6=>bO h 19 v6 fun v7=>eX h 19 x1 x5 fun v8=>bO h 19 v8 fun v9=>c (.func 25) [v7,v9] h <| pz K fun v10 h=>mO v10 fun v11=>aL v11 (K (.bool false) h) (gW x5 (.int .i64 1) fun v12=>B14 x0 x1 v12 h)) (K (.bool true) h)
def Kv:G (Nat→H3):=fun c n=>
 @Nat.rec (fun _=>H3) (fun _ _ _ _ _=>false) (fun _ ih x0 x1 x5 h K=>Pz c n (fun x0 x1 x5 h=>ih x0 x1 x5 h K) x0 x1 x5 h K)
def UE:G H2:=fun c n x0 x1 h K=>
 Kv c n n x0 x1 (.int .i64 0) h K
def s15:G H2:=fun c n x0 x1 h K=>
 iq x0 fun v1=>iq x1 fun v2=>jM v1 v2 fun v3=>aL v3 (K (.bool false) h) (UE c n x0 x1 h K)
def Vf:G (F3→H3):=fun c n B14 x0 x1 x5 h K=>
 gW x5 (.int .i64 1) fun v77=>B14 x0 x1 v77 h
def OZ:G (F3→F6→H6):=fun c n B14 B38 x0 x1 x5 x6 x7 x8 h K=>
 ay 2 x6 fun v46=>av h v46 fun v47=>iq v47 fun v48=>mQ x8 v48 fun v49=>aL v49 (ay 2 x6 fun v50=>av h v50 fun v51=>eX h 9 v51 x8 fun v52=>ay 0 v52 fun v53=>av h v53 fun v54=>ay 2 x7 fun v55=>av h v55 fun v56=>eX h 9 v56 x8 fun v57=>ay 0 v57 fun v58=>av h v58 fun v59=>jM v54 v59 fun v60=>gK v60 false (ay 2 x6) fun v61=>gK v60 false (av h v61) fun v62=>gK v60 false (bQ (some x8)) fun v63=>gK v60 false (eX h 9 v62 v63) fun v64=>gK v60 false (ay 1 v64) fun v65=>gK v60 false (bO h 8 v65) fun v66=>gK v60 false (ay 2 x7) fun v67=>gK v60 false (av h v67) fun v68=>gK v60 false (bQ (some x8)) fun v69=>gK v60 false (eX h 9 v68 v69) fun v70=>gK v60 false (ay 1 v70) fun v71=>gK v60 false (bO h 8 v71) fun v72=>gP v60 false (fun k=>c (.func 26) [v66,v72] h (pz K k)) h fun v73 h=>gK v60 false (mO v73) fun v74=>cO v60 (.bool true) v74 fun v75=>aL v75 (K (.bool false) h) (gW x8 (.int .i64 1) fun v76=>B38 x0 x1 x5 x6 x7 v76 h)) (Vf c n B14 x0 x1 x5 h K)
def K6:G (F3→Nat→H6):=fun c n B14=>
 @Nat.rec (fun _=>H6) (fun _ _ _ _ _ _ _ _=>false) (fun _ ih x0 x1 x5 x6 x7 x8 h K=>OZ c n B14 (fun x0 x1 x5 x6 x7 x8 h=>ih x0 x1 x5 x6 x7 x8 h K) x0 x1 x5 x6 x7 x8 h K)
def UZ:G (F3→H5):=fun c n B14 x0 x1 x5 x6 x7 h K=>
 K6 c n B14 n x0 x1 x5 x6 x7 (.int .i64 0) h K
def Eb:G (F3→H7):=fun c n B14 x0 x1 x5 x6 x7 x47 x52 h K=>
 gK x47 false (mO x52) fun v36=>cO x47 (.bool true) v36 fun v37=>gK v37 false (ay 2 x6) fun v38=>gK v37 false (av h v38) fun v39=>gK v37 false (iq v39) fun v40=>gK v37 false (ay 2 x7) fun v41=>gK v37 false (av h v41) fun v42=>gK v37 false (iq v42) fun v43=>gK v37 false (jM v40 v43) fun v44=>cO v37 (.bool true) v44 fun v45=>aL v45 (K (.bool false) h) (UZ c n B14 x0 x1 x5 x6 x7 h K)
def TN:G (F3→H3):=fun c n B14 x0 x1 x5 h K=>
 eX h 12 x0 x5 fun v6=>bO h 12 v6 fun v7=>bS h [.int .i64 0, .str [], .ah, .int .i64 0, .str [], .int .i64 0, .bool false, .int .i64 0, .str [], .ah, .ah, .str []] 12 fun v8 h=>aK h 12 v8 v7 fun h=>eX h 12 x1 x5 fun v10=>bO h 12 v10 fun v11=>bS h [.int .i64 0, .str [], .ah, .int .i64 0, .str [], .int .i64 0, .bool false, .int .i64 0, .str [], .ah, .ah, .str []] 12 fun v12 h=>aK h 12 v12 v11 fun h=>ay 0 v8 fun v14=>av h v14 fun v15=>ay 0 v12 fun v16=>av h v16 fun v17=>jM v15 v17 fun v18=>gK v18 false (ay 1 v8) fun v19=>gK v18 false (av h v19) fun v20=>gK v18 false (ay 1 v12) fun v21=>gK v18 false (av h v21) fun v22=>gK v18 false (jM v20 v22) fun v23=>cO v18 (.bool true) v23 fun v24=>gK v24 false (ay 11 v8) fun v25=>gK v24 false (av h v25) fun v26=>gK v24 false (ay 11 v12) fun v27=>gK v24 false (av h v27) fun v28=>gK v24 false (jM v26 v28) fun v29=>cO v24 (.bool true) v29 fun v30=>gK v30 false (ay 3 v8) fun v31=>gK v30 false (bO h 8 v31) fun v32=>gK v30 false (ay 3 v12) fun v33=>gK v30 false (bO h 8 v33) fun v34=>gP v30 false (fun k=>c (.func 26) [v32,v34] h (pz K k)) h fun v35 h=>Eb c n B14 x0 x1 x5 v8 v12 v30 v35 h K
def OH:G (F3→H3):=fun c n B14 x0 x1 x5 h K=>
 iq x0 fun v4=>mQ x5 v4 fun v5=>aL v5 (TN c n B14 x0 x1 x5 h K) (K (.bool true) h)
def Jr:G (Nat→H3):=fun c n=>
 @Nat.rec (fun _=>H3) (fun _ _ _ _ _=>false) (fun _ ih x0 x1 x5 h K=>OH c n (fun x0 x1 x5 h=>ih x0 x1 x5 h K) x0 x1 x5 h K)
def Vo:G H2:=fun c n x0 x1 h K=>
 Jr c n n x0 x1 (.int .i64 0) h K
def s16:G H2:=fun c n x0 x1 h K=>
 iq x0 fun v1=>iq x1 fun v2=>jM v1 v2 fun v3=>aL v3 (K (.bool false) h) (Vo c n x0 x1 h K)
def NT:G (F3→H3):=fun c n B14 x0 x1 x5 h K=>
 iq x0 fun v4=>mQ x5 v4 fun v5=>aL v5 (eX h 1 x0 x5 fun v6=>av h v6 fun v7=>eX h 1 x1 x5 fun v8=>av h v8 fun v9=>jM v7 v9 fun v10=>aL v10 (K (.bool false) h) (gW x5 (.int .i64 1) fun v11=>B14 x0 x1 v11 h)) (K (.bool true) h)
def KI:G (Nat→H3):=fun c n=>
 @Nat.rec (fun _=>H3) (fun _ _ _ _ _=>false) (fun _ ih x0 x1 x5 h K=>NT c n (fun x0 x1 x5 h=>ih x0 x1 x5 h K) x0 x1 x5 h K)
def Vl:G H2:=fun c n x0 x1 h K=>
 KI c n n x0 x1 (.int .i64 0) h K
def s17:G H2:=fun c n x0 x1 h K=>
 iq x0 fun v1=>iq x1 fun v2=>jM v1 v2 fun v3=>aL v3 (K (.bool false) h) (Vl c n x0 x1 h K)
def Kk:G H2:=fun c n x0 x7 h K=>
 mO x7 fun v2=>aL v2 (K (.bool false) h) (bK x0 fun v3=>ay 1 v3 fun v4=>av h v4 fun v5=>gW v5 (.int .i64 1) fun v6=>bK x0 fun v7=>ay 1 v7 fun v8=>bG h v8 v6 fun h=>K (.bool true) h)
def s19:G H2:=fun c n x0 x1 h K=>
 c (.func 30) [x0,(.int .i64 0),x1] h <| pz K fun v1 h=>Kk c n x0 v1 h K
def Pt:G H3:=fun c n x0 x2 x3 h K=>
 c (.func 35) [x0,(.str [125])] h <| pz K fun v33 h=>bO h 3 x3 fun v34=>aK h 3 x2 v34 fun h=>gU (fQ h [(x2,some (true,3))]) h K
def tq:G (F4→H7):=fun c n B16 x0 x2 x3 x21 x24 x27 x29 h K=>
 gK x24 true (cO x27 (.bool true) x29) fun v23=>gK x21 false (cO x24 v23 (.bool false)) fun v24=>cO x21 (.bool true) v24 fun v25=>aL v25 (ay 2 x3 fun v26=>av h v26 fun v27=>c (.func 34) [x0] h <| pz K fun v28 h=>av h v26 <| dR v27 <| aY (bI h 1 3 [.str [], .int .i64 0, .str []] [(0,v28)]) fun v29 h=>av h v26 <| dR v27 <| oq h 3 40 v27 v29 fun v30 h=>ay 2 x3 fun v31=>bG h v31 v30 fun h=>B16 x0 x2 x3 (.bool false) h) (Pt c n x0 x2 x3 h K)
def sS:G (F4→H6):=fun c n B16 x0 x2 x3 x21 x24 x26 h K=>
 gK x24 true (bQ (some x26)) fun v20=>gK v20 false (bQ (some x0)) fun v21=>gP v20 false (fun k=>c (.func 33) [v21,(.int .i64 0)] h (pz K k)) h fun v22 h=>tq c n B16 x0 x2 x3 x21 x24 v20 v22 h K
def zS:G (F4→H6):=fun c n B16 x0 x2 x3 x4 x16 x18 h K=>
 gK x16 true (mO x18) fun v13=>cO x16 v13 (.bool false) fun v14=>gK v14 false (bQ (some x4)) fun v15=>gK v14 false (mO v15) fun v16=>gK v14 false (bQ (some v16)) fun v17=>gK v17 true (bQ (some x0)) fun v18=>gP v17 true (fun k=>c (.func 19) [v18,(.str [44])] h (pz K k)) h fun v19 h=>sS c n B16 x0 x2 x3 v14 v17 v19 h K
def O6:G (F4→H4):=fun c n B16 x0 x2 x3 x4 h K=>
 gK x4 true (bQ (some x0)) fun v11=>gP x4 true (fun k=>c (.func 30) [v11,(.int .i64 0),(.str [125])] h (pz K k)) h fun v12 h=>zS c n B16 x0 x2 x3 x4 x4 v12 h K
def E5:G (Nat→H4):=fun c n=>
 @Nat.rec (fun _=>H4) (fun _ _ _ _ _ _=>false) (fun _ ih x0 x2 x3 x4 h K=>O6 c n (fun x0 x2 x3 x4 h=>ih x0 x2 x3 x4 h K) x0 x2 x3 x4 h K)
def Lv:G H3:=fun c n x0 x2 x3 h K=>
 c (.func 32) [x0,(.str [123])] h <| pz K fun v10 h=>E5 c n n x0 x2 x3 (.bool true) h K
def IC:G H4:=fun c n x0 x2 x3 x11 h K=>
 ay 1 x3 fun v8=>bG h v8 x11 fun h=>Lv c n x0 x2 x3 h K
def JV:G H3:=fun c n x0 x2 x6 h K=>
 dX [.str [], .str [], .ah] [(0,1,x6)] fun v3=>bS h [.str [], .str [], .ah] 3 fun v4 h=>aK h 3 v4 v3 fun h=>c (.func 19) [x0,(.str [101,120,116,101,110,100,115])] h <| pz K fun v6 h=>aL v6 (c (.func 31) [x0] h <| pz K fun v7 h=>IC c n x0 x2 v4 v7 h K) (Lv c n x0 x2 v4 h K)
def s20:G H1:=fun c n x0 h K=>
 bS h [.str [], .str [], .ah] 3 fun v1 h=>c (.func 31) [x0] h <| pz K fun v2 h=>JV c n x0 v1 v2 h K
def EU:G (F3→H4):=fun c n B6 x0 x2 x3 x18 h K=>
 ay 1 x3 fun v10=>bG h v10 x18 fun h=>B6 x0 x2 x3 h
def Ez:G (F3→H4):=fun c n B6 x0 x2 x3 x24 h K=>
 ay 2 x3 fun v14=>bG h v14 x24 fun h=>B6 x0 x2 x3 h
def FP:G (F3→H4):=fun c n B6 x0 x2 x3 x30 h K=>
 ay 3 x3 fun v18=>bG h v18 x30 fun h=>B6 x0 x2 x3 h
def Tw:G H2:=fun c n x2 x3 h K=>
 bO h 8 x3 fun v42=>aK h 8 x2 v42 fun h=>gU (fQ h [(x2,some (true,8))]) h K
def Aq:G (F3→H4):=fun c n B40 x0 x2 x3 x44 h K=>
 mO x44 fun v34=>aL v34 (ay 7 x3 fun v35=>av h v35 fun v36=>c (.func 39) [x0] h <| pz K fun v37 h=>av h v35 <| dR v36 <| aY (bI h 1 12 [.int .i64 0, .str [], .ah, .int .i64 0, .str [], .int .i64 0, .bool false, .int .i64 0, .str [], .ah, .ah, .str []] [(0,v37)]) fun v38 h=>av h v35 <| dR v36 <| oq h 12 176 v36 v38 fun v39 h=>ay 7 x3 fun v40=>bG h v40 v39 fun h=>B40 x0 x2 x3 h) (Tw c n x2 x3 h K)
def N8:G (F3→H3):=fun c n B40 x0 x2 x3 h K=>
 c (.func 19) [x0,(.str [101,110,100])] h <| pz K fun v33 h=>Aq c n B40 x0 x2 x3 v33 h K
def Lu:G (Nat→H3):=fun c n=>
 @Nat.rec (fun _=>H3) (fun _ _ _ _ _=>false) (fun _ ih x0 x2 x3 h K=>N8 c n (fun x0 x2 x3 h=>ih x0 x2 x3 h K) x0 x2 x3 h K)
def EW:G H4:=fun c n x0 x2 x3 x38 h K=>
 ay 6 x3 fun v29=>bG h v29 x38 fun h=>aY (bI h 1 1 [.str []] [(0,(.str [116,104,101,110]))]) fun v31 h=>c (.func 22) [x0,v31] h <| pz K fun v32 h=>Lu c n n x0 x2 x3 h K
def Tk:G H3:=fun c n x0 x2 x3 h K=>
 aY (bI h 1 1 [.str []] [(0,(.str [116,104,101,110]))]) fun v27 h=>c (.func 38) [x0,v27] h <| pz K fun v28 h=>EW c n x0 x2 x3 v28 h K
def Ar:G (F3→H4):=fun c n B6 x0 x2 x3 x8 h K=>
 mO x8 fun v7=>aL v7 (c (.func 19) [x0,(.str [115,97,108,105,101,110,99,101])] h <| pz K fun v8 h=>aL v8 (c (.func 37) [x0] h <| pz K fun v9 h=>EU c n B6 x0 x2 x3 v9 h K) (c (.func 19) [x0,(.str [103,114,111,117,112])] h <| pz K fun v12 h=>aL v12 (c (.func 36) [x0] h <| pz K fun v13 h=>Ez c n B6 x0 x2 x3 v13 h K) (c (.func 19) [x0,(.str [102,108,111,119])] h <| pz K fun v16 h=>aL v16 (c (.func 36) [x0] h <| pz K fun v17 h=>FP c n B6 x0 x2 x3 v17 h K) (c (.func 19) [x0,(.str [110,111,108,111,111,112])] h <| pz K fun v20 h=>aL v20 (ay 4 x3 fun v21=>bG h v21 (.bool true) fun h=>B6 x0 x2 x3 h) (aY (bI h 1 1 [.str []] [(0,(.str [108,111,99,107]))]) fun v23 h=>c (.func 22) [x0,v23] h <| pz K fun v24 h=>ay 5 x3 fun v25=>bG h v25 (.bool true) fun h=>B6 x0 x2 x3 h))))) (Tk c n x0 x2 x3 h K)
def Wx:G (F3→H3):=fun c n B6 x0 x2 x3 h K=>
 c (.func 19) [x0,(.str [119,104,101,110])] h <| pz K fun v6 h=>Ar c n B6 x0 x2 x3 v6 h K
def Qw:G (Nat→H3):=fun c n=>
 @Nat.rec (fun _=>H3) (fun _ _ _ _ _=>false) (fun _ ih x0 x2 x3 h K=>Wx c n (fun x0 x2 x3 h=>ih x0 x2 x3 h K) x0 x2 x3 h K)
def Kg:G H3:=fun c n x0 x2 x5 h K=>
 dX [.str [], .int .i64 0, .str [], .str [], .bool false, .bool false, .ah, .ah] [(0,1,x5)] fun v3=>bS h [.str [], .int .i64 0, .str [], .str [], .bool false, .bool false, .ah, .ah] 8 fun v4 h=>aK h 8 v4 v3 fun h=>Qw c n n x0 x2 v4 h K
def s21:G H1:=fun c n x0 h K=>
 bS h [.str [], .int .i64 0, .str [], .str [], .bool false, .bool false, .ah, .ah] 8 fun v1 h=>c (.func 36) [x0] h <| pz K fun v2 h=>Kg c n x0 v1 v2 h K
def Fe:G (F4→H6):=fun c n B3 x0 x6 x7 x8 x12 x15 h K=>
 c (.func 29) [x12,x15] h <| pz K fun v6 h=>gW x8 (.int .i64 1) fun v7=>B3 x0 x6 x7 v7 h
def Sd:G (F4→H4):=fun c n B3 x0 x6 x7 x8 h K=>
 mQ x8 x7 fun v2=>aL v2 (eX h 1 x6 x8 fun v3=>av h v3 fun v4=>c (.func 19) [x0,v4] h <| pz K fun v5 h=>Fe c n B3 x0 x6 x7 x8 x0 v5 h K) (K (.tup []) h)
def M9:G (Nat→H4):=fun c n=>
 @Nat.rec (fun _=>H4) (fun _ _ _ _ _ _=>false) (fun _ ih x0 x6 x7 x8 h K=>Sd c n (fun x0 x6 x7 x8 h=>ih x0 x6 x7 x8 h K) x0 x6 x7 x8 h K)
def s22:G H2:=fun c n x0 x1 h K=>
 iq x1 fun v1=>M9 c n n x0 x1 v1 (.int .i64 0) h K
def Fq:G H4:=fun c n x1 x2 x3 x14 h K=>
 ay 2 x3 fun v16=>bG h v16 x14 fun h=>av h x1 fun v18=>aY (bI h 1 1 [.str []] [(0,(.str [101,110,100]))]) fun v19 h=>c (.func 22) [v18,v19] h <| pz K fun v20 h=>bO h 3 x3 fun v21=>aK h 3 x2 v21 fun h=>gU (fQ h [(x2,some (true,3))]) h K
def Jb:G H3:=fun c n x1 x2 x5 h K=>
 dX [.str [], .ah, .ah] [(0,1,x5)] fun v5=>bS h [.str [], .ah, .ah] 3 fun v6 h=>aK h 3 v6 v5 fun h=>av h x1 fun v8=>c (.func 32) [v8,(.str [40])] h <| pz K fun v9 h=>av h x1 fun v10=>bQ (some (.fn (.func 41) [] [v6,x1])) fun v11=>c (.func 40) [v10,(.str [41]),v11] h <| pz K fun v12 h=>av h x1 fun v13=>aY (bI h 1 1 [.str []] [(0,(.str [101,110,100]))]) fun v14 h=>c (.func 38) [v13,v14] h <| pz K fun v15 h=>Fq c n x1 x2 v6 v15 h K
def s23:G H1:=fun c n x0 h K=>
 Eu h x0 fun v1 h=>bS h [.str [], .ah, .ah] 3 fun v2 h=>av h v1 fun v3=>c (.func 31) [v3] h <| pz K fun v4 h=>Jb c n v1 v2 v4 h K
def s24:G H1:=fun c n x0 h K=>
 Eu h x0 fun v1 h=>bQ (some (.fn (.func 43) [] [v1])) fun v2=>K v2 h
def Em:G H2:=fun c n x138 x143 h K=>
 cO x138 x143 (.bool false) fun v121=>K v121 h
def Gg:G H4:=fun c n x2 x3 x131 x136 h K=>
 cO x131 x136 (.bool false) fun v115=>gK v115 true (ay 8 x2) fun v116=>gK v115 true (bO h 8 v116) fun v117=>gK v115 true (ay 8 x3) fun v118=>gK v115 true (bO h 8 v118) fun v119=>gP v115 true (fun k=>c (.func 26) [v117,v119] h (pz K k)) h fun v120 h=>Em c n v115 v120 h K
def Fv:G H4:=fun c n x2 x3 x124 x129 h K=>
 cO x124 x129 (.bool false) fun v109=>gK v109 true (ay 7 x2) fun v110=>gK v109 true (av h v110) fun v111=>gK v109 true (ay 7 x3) fun v112=>gK v109 true (av h v112) fun v113=>gP v109 true (fun k=>c (.func 47) [v111,v113] h (pz K k)) h fun v114 h=>Gg c n x2 x3 v109 v114 h K
def Gi:G H4:=fun c n x2 x3 x117 x122 h K=>
 cO x117 x122 (.bool false) fun v103=>gK v103 true (ay 6 x2) fun v104=>gK v103 true (av h v104) fun v105=>gK v103 true (ay 6 x3) fun v106=>gK v103 true (av h v106) fun v107=>gP v103 true (fun k=>c (.func 15) [v105,v107] h (pz K k)) h fun VE h=>Fv c n x2 x3 v103 VE h K
def Fp:G H3:=fun c n x2 x3 x116 h K=>
 gK x116 true (ay 5 x2) fun v98=>gK x116 true (av h v98) fun v99=>gK x116 true (ay 5 x3) fun v100=>gK x116 true (av h v100) fun v101=>gP x116 true (fun k=>c (.func 15) [v99,v101] h (pz K k)) h fun Zc h=>Gi c n x2 x3 x116 Zc h K
def NK:G H2:=fun c n x2 x3 h K=>
 ay 4 x2 fun v93=>av h v93 fun v94=>ay 4 x3 fun v95=>av h v95 fun v96=>c (.func 46) [v94,v96] h <| pz K fun v97 h=>Fp c n x2 x3 v97 h K
def Pg:G (F3→H3):=fun c n B35 x2 x3 x6 h K=>
 ay 18 x2 fun v62=>av h v62 fun v63=>iq v63 fun v64=>mQ x6 v64 fun v65=>aL v65 (ay 18 x2 fun v66=>av h v66 fun v67=>eX h 9 v67 x6 fun v68=>ay 0 v68 fun v69=>av h v69 fun v70=>ay 18 x3 fun v71=>av h v71 fun v72=>eX h 9 v72 x6 fun v73=>ay 0 v73 fun v74=>av h v74 fun v75=>jM v70 v75 fun v76=>gK v76 false (ay 18 x2) fun v77=>gK v76 false (av h v77) fun v78=>gK v76 false (bQ (some x6)) fun v79=>gK v76 false (eX h 9 v78 v79) fun v80=>gK v76 false (ay 1 v80) fun v81=>gK v76 false (bO h 8 v81) fun v82=>gK v76 false (ay 18 x3) fun v83=>gK v76 false (av h v83) fun v84=>gK v76 false (bQ (some x6)) fun v85=>gK v76 false (eX h 9 v84 v85) fun v86=>gK v76 false (ay 1 v86) fun v87=>gK v76 false (bO h 8 v87) fun v88=>gP v76 false (fun k=>c (.func 26) [v82,v88] h (pz K k)) h fun v89 h=>gK v76 false (mO v89) fun v90=>cO v76 (.bool true) v90 fun v91=>aL v91 (K (.bool false) h) (gW x6 (.int .i64 1) fun v92=>B35 x2 x3 v92 h)) (NK c n x2 x3 h K)
def Kr:G (Nat→H3):=fun c n=>
 @Nat.rec (fun _=>H3) (fun _ _ _ _ _=>false) (fun _ ih x2 x3 x6 h K=>Pg c n (fun x2 x3 x6 h=>ih x2 x3 x6 h K) x2 x3 x6 h K)
def O7:G H2:=fun c n x2 x3 h K=>
 Kr c n n x2 x3 (.int .i64 0) h K
def Pm:G (F3→H3):=fun c n B14 x2 x3 x5 h K=>
 ay 3 x2 fun v48=>av h v48 fun v49=>iq v49 fun v50=>mQ x5 v50 fun v51=>aL v51 (ay 3 x2 fun v52=>av h v52 fun v53=>eX h 2 v53 x5 fun v54=>bO h 2 v54 fun v55=>ay 3 x3 fun v56=>av h v56 fun v57=>eX h 2 v57 x5 fun v58=>bO h 2 v58 fun v59=>bQ (Ey h true (.agg [.str, .str]) v55 v59) fun v60=>aL v60 (K (.bool false) h) (gW x5 (.int .i64 1) fun v61=>B14 x2 x3 v61 h)) (O7 c n x2 x3 h K)
def IJ:G (Nat→H3):=fun c n=>
 @Nat.rec (fun _=>H3) (fun _ _ _ _ _=>false) (fun _ ih x2 x3 x5 h K=>Pm c n (fun x2 x3 x5 h=>ih x2 x3 x5 h K) x2 x3 x5 h K)
def TD:G H2:=fun c n x2 x3 h K=>
 IJ c n n x2 x3 (.int .i64 0) h K
set_option maxRecDepth 100000 in
def s25:G H2:=fun c n x0 x1 h K=>
 aY (nU h (none) 19 x0) fun v1 h=>aY (nU h (none) 19 x1) fun v2 h=>ay 0 v1 fun v3=>av h v3 fun v4=>ay 0 v2 fun v5=>av h v5 fun v6=>jM v4 v6 fun v7=>gK v7 false (ay 1 v1) fun v8=>gK v7 false (av h v8) fun v9=>gK v7 false (ay 1 v2) fun v10=>gK v7 false (av h v10) fun v11=>gK v7 false (jM v9 v11) fun v12=>cO v7 (.bool true) v12 fun v13=>gK v13 false (ay 2 v1) fun v14=>gK v13 false (av h v14) fun v15=>gK v13 false (ay 2 v2) fun v16=>gK v13 false (av h v16) fun v17=>gK v13 false (jM v15 v17) fun v18=>cO v13 (.bool true) v18 fun v19=>gK v19 false (ay 16 v1) fun v20=>gK v19 false (av h v20) fun v21=>gK v19 false (ay 16 v2) fun v22=>gK v19 false (av h v22) fun v23=>gK v19 false (jM v21 v23) fun v24=>cO v19 (.bool true) v24 fun v25=>gK v25 false (ay 17 v1) fun v26=>gK v25 false (av h v26) fun v27=>gK v25 false (ay 17 v2) fun v28=>gK v25 false (av h v28) fun v29=>gK v25 false (jM v27 v29) fun v30=>cO v25 (.bool true) v30 fun v31=>gK v31 false (ay 3 v1) fun v32=>gK v31 false (av h v32) fun v33=>gK v31 false (iq v33) fun v34=>gK v31 false (ay 3 v2) fun v35=>gK v31 false (av h v35) fun v36=>gK v31 false (iq v36) fun v37=>gK v31 false (jM v34 v37) fun v38=>cO v31 (.bool true) v38 fun v39=>gK v39 false (ay 18 v1) fun v40=>gK v39 false (av h v40) fun v41=>gK v39 false (iq v41) fun v42=>gK v39 false (ay 18 v2) fun v43=>gK v39 false (av h v43) fun v44=>gK v39 false (iq v44) fun v45=>gK v39 false (jM v42 v45) fun v46=>cO v39 (.bool true) v46 fun v47=>aL v47 (K (.bool false) h) (TD c n v1 v2 h K)
def JJ:G H2:=fun c n x24 x29 h K=>
 cO x24 x29 (.bool false) fun v25=>K v25 h
def KW:G H4:=fun c n x2 x3 x17 x22 h K=>
 cO x17 x22 (.bool false) fun v19=>gK v19 true (ay 7 x2) fun v20=>gK v19 true (av h v20) fun v21=>gK v19 true (ay 7 x3) fun v22=>gK v19 true (av h v22) fun v23=>gP v19 true (fun k=>c (.func 46) [v21,v23] h (pz K k)) h fun v24 h=>JJ c n v19 v24 h K
def s26:G H2:=fun c n x0 x1 h K=>
 aY (nU h (none) 8 x0) fun v1 h=>aY (nU h (none) 8 x1) fun v2 h=>ay 0 v1 fun v3=>av h v3 fun v4=>ay 0 v2 fun v5=>av h v5 fun v6=>eO v4 v6 fun v7=>gK v7 true (ay 1 v1) fun v8=>gK v7 true (av h v8) fun v9=>gK v7 true (ay 1 v2) fun v10=>gK v7 true (av h v10) fun v11=>gK v7 true (eO v9 v11) fun v12=>cO v7 v12 (.bool false) fun v13=>gK v13 true (ay 2 v1) fun v14=>gK v13 true (bO h 5 v14) fun v15=>gK v13 true (ay 2 v2) fun v16=>gK v13 true (bO h 5 v16) fun v17=>gP v13 true (fun k=>c (.func 48) [v15,v17] h (pz K k)) h fun v18 h=>KW c n v1 v2 v13 v18 h K
set_option maxRecDepth 100000 in
def s28:G H0:=fun c n h K=>
 aY (zl h) fun v1 h=>aY (zl h) fun v2 h=>aY (unit (lJ h (.leaf .str) v2 (.str [124,124]) (.int .i64 9))) fun _ h=>aY (unit (lJ h (.leaf .int) v1 (.int .i64 0) v2)) fun _ h=>aY (zl h) fun v5 h=>aY (unit (lJ h (.leaf .str) v5 (.str [38,38]) (.int .i64 8))) fun _ h=>aY (unit (lJ h (.leaf .int) v1 (.int .i64 1) v5)) fun _ h=>aY (zl h) fun v8 h=>aY (unit (lJ h (.leaf .str) v8 (.str [61,61]) (.int .i64 10))) fun _ h=>aY (unit (lJ h (.leaf .str) v8 (.str [33,61]) (.int .i64 11))) fun _ h=>aY (unit (lJ h (.leaf .str) v8 (.str [60]) (.int .i64 12))) fun _ h=>aY (unit (lJ h (.leaf .str) v8 (.str [60,61]) (.int .i64 13))) fun _ h=>aY (unit (lJ h (.leaf .str) v8 (.str [62]) (.int .i64 14))) fun _ h=>aY (unit (lJ h (.leaf .str) v8 (.str [62,61]) (.int .i64 15))) fun _ h=>aY (unit (lJ h (.leaf .int) v1 (.int .i64 2) v8)) fun _ h=>aY (zl h) fun v16 h=>aY (unit (lJ h (.leaf .str) v16 (.str [43]) (.int .i64 16))) fun _ h=>aY (unit (lJ h (.leaf .str) v16 (.str [45]) (.int .i64 17))) fun _ h=>aY (unit (lJ h (.leaf .int) v1 (.int .i64 3) v16)) fun _ h=>aY (zl h) fun v20 h=>aY (unit (lJ h (.leaf .str) v20 (.str [42]) (.int .i64 18))) fun _ h=>aY (unit (lJ h (.leaf .str) v20 (.str [47]) (.int .i64 19))) fun _ h=>aY (unit (lJ h (.leaf .str) v20 (.str [37]) (.int .i64 20))) fun _ h=>aY (unit (lJ h (.leaf .int) v1 (.int .i64 4) v20)) fun _ h=>K v1 h
def K8:G H1:=fun c n x7 h K=>
 c (.func 49) [x7] h <| pz K fun v3 h=>K (.tup []) h
def s29:G H2:=fun c n x0 x1 h K=>
 mO x1 fun v1=>aL v1 (c (.func 50) [x0] h <| pz K fun v2 h=>K8 c n v2 h K) (K (.tup []) h)
def tV:G H4:=fun c n x15 x19 x23 x25 h K=>
 gK x19 false (cO x23 x25 (.bool false)) fun v17=>gK x15 true (cO x19 (.bool true) v17) fun v18=>cO x15 v18 (.bool false) fun v19=>K v19 h
def Jj:G H2:=fun c n x2 x10 h K=>
 bS h [.int .i64 0, .str [], .int .i64 0, .int .i64 0] 4 fun v2 h=>aK h 4 v2 x10 fun h=>ay 1 v2 fun v4=>av h v4 fun v5=>eO v5 x2 fun v6=>gK v6 true (ay 0 v2) fun v7=>gK v6 true (av h v7) fun v8=>gK v6 true (eO v8 (.int .i64 4)) fun v9=>gK v6 true (bQ (some v9)) fun v10=>gK v10 false (ay 0 v2) fun v11=>gK v10 false (av h v11) fun v12=>gK v10 false (eO v12 (.int .i64 0)) fun v13=>gK v10 false (bQ (some v13)) fun v14=>gK v14 true (bQ (some x2)) fun v15=>gP v14 true (fun k=>c (.func 52) [v15] h (pz K k)) h fun v16 h=>tV c n v6 v10 v14 v16 h K
def s30:G H3:=fun c n x0 x1 x2 h K=>
 c (.func 51) [x0,x1] h <| pz K fun v1 h=>Jj c n x2 v1 h K
def Ct:G H4:=fun c n x0 x3 x6 x8 h K=>
 gK x6 true (SC 1 x8) fun v4=>gK x6 true (oN v4) fun v5=>gK x6 true (LP v5 (.int .i64 64)) fun v6=>cO x6 v6 (.bool false) fun v7=>c (.func 29) [x3,v7] h <| pz K fun v8 h=>c (.func 53) [x0] h <| pz K fun v9 h=>K v9 h
def KF:G H3:=fun c n x0 x3 x5 h K=>
 gK x5 true (bQ (some x0)) fun v2=>gP x5 true (fun k=>c (.func 51) [v2,(.int .i64 0)] h (pz K k)) h fun v3 h=>Ct c n x0 x3 x5 v3 h K
def s31:G H1:=fun c n x0 h K=>
 c (.func 33) [x0,(.int .i64 0)] h <| pz K fun v1 h=>KF c n x0 x0 v1 h K
def s32:G H2:=fun c n x0 x1 h K=>
 c (.func 50) [x0] h <| pz K fun v1 h=>aY (bI h 1 1 [.str []] [(0,x1)]) fun v2 h=>c (.func 22) [x0,v2] h <| pz K fun v3 h=>c (.func 54) [x0,v1] h <| pz K fun v4 h=>K (.tup []) h
def zo:G H2:=fun c n x12 x15 h K=>
 gK x12 true (mO x15) fun v10=>cO x12 v10 (.bool false) fun v11=>K v11 h
def I7:G H1:=fun c n x8 h K=>
 bS h [.int .i64 0, .str [], .int .i64 0, .int .i64 0] 4 fun v2 h=>aK h 4 v2 x8 fun h=>ay 0 v2 fun v4=>av h v4 fun v5=>eO v5 (.int .i64 0) fun v6=>gK v6 true (ay 1 v2) fun v7=>gK v6 true (av h v7) fun v8=>gP v6 true (fun k=>c (.func 52) [v8] h (pz K k)) h fun v9 h=>zo c n v6 v9 h K
def s33:G H2:=fun c n x0 x1 h K=>
 c (.func 51) [x0,x1] h <| pz K fun v1 h=>I7 c n v1 h K
def uZ:G H2:=fun c n x2 x3 h K=>
 bO h 3 x3 fun v11=>aK h 3 x2 v11 fun h=>gU (fQ h [(x2,some (true,3))]) h K
def FU:G H3:=fun c n x2 x3 x14 h K=>
 ay 1 x3 fun v28=>bG h v28 (.int .i64 5) fun h=>ay 2 x3 fun v30=>bG h v30 x14 fun h=>uZ c n x2 x3 h K
def KC:G H3:=fun c n x0 x2 x5 h K=>
 dX [.str [], .int .i64 0, .str []] [(0,1,x5)] fun v3=>bS h [.str [], .int .i64 0, .str []] 3 fun v4 h=>aK h 3 v4 v3 fun h=>aY (bI h 1 1 [.str []] [(0,(.str [58]))]) fun v6 h=>c (.func 22) [x0,v6] h <| pz K fun v7 h=>c (.func 19) [x0,(.str [105,110,116])] h <| pz K fun v8 h=>aL v8 (ay 1 v4 fun v9=>bG h v9 (.int .i64 2) fun h=>uZ c n x2 v4 h K) (c (.func 19) [x0,(.str [98,111,111,108])] h <| pz K fun v13 h=>aL v13 (ay 1 v4 fun v14=>bG h v14 (.int .i64 1) fun h=>uZ c n x2 v4 h K) (c (.func 19) [x0,(.str [116,101,120,116])] h <| pz K fun v16 h=>aL v16 (ay 1 v4 fun v17=>bG h v17 (.int .i64 3) fun h=>uZ c n x2 v4 h K) (c (.func 19) [x0,(.str [108,105,115,116])] h <| pz K fun v19 h=>aL v19 (ay 1 v4 fun v20=>bG h v20 (.int .i64 4) fun h=>uZ c n x2 v4 h K) (c (.func 19) [x0,(.str [97,110,121])] h <| pz K fun v22 h=>aL v22 (ay 1 v4 fun v23=>bG h v23 (.int .i64 0) fun h=>uZ c n x2 v4 h K) (aY (bI h 1 1 [.str []] [(0,(.str [114,101,102]))]) fun v25 h=>c (.func 22) [x0,v25] h <| pz K fun v26 h=>c (.func 31) [x0] h <| pz K fun v27 h=>FU c n x2 v4 v27 h K)))))
def s34:G H1:=fun c n x0 h K=>
 bS h [.str [], .int .i64 0, .str []] 3 fun v1 h=>c (.func 31) [x0] h <| pz K fun v2 h=>KC c n x0 v1 v2 h K
def s35:G H2:=fun c n x0 x1 h K=>
 aY (bI h 1 1 [.str []] [(0,x1)]) fun v1 h=>c (.func 22) [x0,v1] h <| pz K fun v2 h=>bK x0 fun v3=>ay 3 v3 fun v4=>av h v4 fun v5=>J9 v5 (.int .i64 1) fun v6=>bK x0 fun v7=>ay 3 v7 fun v8=>bG h v8 v6 fun h=>K (.tup []) h
def Iq:G H3:=fun c n x0 x3 x5 h K=>
 c (.func 29) [x3,x5] h <| pz K fun v2 h=>c (.func 53) [x0] h <| pz K fun v3 h=>K v3 h
def s36:G H1:=fun c n x0 h K=>
 c (.func 55) [x0,(.int .i64 3)] h <| pz K fun v1 h=>Iq c n x0 x0 v1 h K
def Co:G H3:=fun c n x0 x3 x16 h K=>
 kI 0 x16 fun v7=>kI 1 x16 fun v8=>bQ (Ey h false .ifn v8 .iZ) fun v9=>gK v9 true (bQ (some v7)) fun v10=>gK v9 true (LP v10 (.int .i64 2147483648)) fun v11=>cO v9 v11 (.bool false) fun v12=>c (.func 29) [x0,v12] h <| pz K fun v13 h=>bK x0 fun v14=>ay 1 v14 fun v15=>av h v15 fun v16=>gW v16 (.int .i64 1) fun v17=>bK x0 fun v18=>ay 1 v18 fun v19=>bG h v19 v17 fun h=>aL x3 (bQ (YH v7) fun v21=>K v21 h) (K v7 h)
def Km:G H3:=fun c n x0 x3 x14 h K=>
 SC 1 x14 fun v5=>c (.func 56) [v5,(.int .i64 10),(.int .i64 64)] h <| pz K fun v6 h=>Co c n x0 x3 v6 h K
def Ip:G H4:=fun c n x0 x3 x8 x10 h K=>
 c (.func 29) [x8,x10] h <| pz K fun v3 h=>c (.func 51) [x0,(.int .i64 0)] h <| pz K fun v4 h=>Km c n x0 x3 v4 h K
def s37:G H1:=fun c n x0 h K=>
 c (.func 19) [x0,(.str [45])] h <| pz K fun v1 h=>c (.func 55) [x0,(.int .i64 2)] h <| pz K fun v2 h=>Ip c n x0 v1 x0 v2 h K
def FH:G (F3→H4):=fun c n B5 x0 x1 x19 x21 h K=>
 aY (bI h 1 19 [.int .i64 0, .str [], .str [], .ah, .ah, .ah, .ah, .ah, .int .i64 0, .str [], .int .i64 0, .bool false, .int .i64 0, .str [], .ah, .ah, .str [], .str [], .ah] [(0,x21)]) fun v8 h=>oq h 19 328 x19 v8 fun v9 h=>B5 x0 x1 v9 h
def TF:G (F3→H3):=fun c n B5 x0 x1 x5 h K=>
 c (.func 57) [x0] h <| pz K fun v7 h=>FH c n B5 x0 x1 x5 v7 h K
def Ld:G (F3→F6→H6):=fun c n B5 B11 x0 x1 x5 x8 x9 x10 h K=>
 mQ x10 x9 fun v2=>aL v2 (eX h 1 x8 x10 fun v3=>av h v3 fun v4=>c (.func 30) [x0,(.int .i64 0),v4] h <| pz K fun v5 h=>aL v5 (K x5 h) (gW x10 (.int .i64 1) fun v6=>B11 x0 x1 x5 x8 x9 v6 h)) (TF c n B5 x0 x1 x5 h K)
def Jm:G (F3→Nat→H6):=fun c n B5=>
 @Nat.rec (fun _=>H6) (fun _ _ _ _ _ _ _ _=>false) (fun _ ih x0 x1 x5 x8 x9 x10 h K=>Ld c n B5 (fun x0 x1 x5 x8 x9 x10 h=>ih x0 x1 x5 x8 x9 x10 h K) x0 x1 x5 x8 x9 x10 h K)
def Xc:G (F3→H3):=fun c n B5 x0 x1 x5 h K=>
 iq x1 fun v1=>Jm c n B5 n x0 x1 x5 x1 v1 (.int .i64 0) h K
def KO:G (Nat→H3):=fun c n=>
 @Nat.rec (fun _=>H3) (fun _ _ _ _ _=>false) (fun _ ih x0 x1 x5 h K=>Xc c n (fun x0 x1 x5 h=>ih x0 x1 x5 h K) x0 x1 x5 h K)
def s38:G H2:=fun c n x0 x1 h K=>
 KO c n n x0 x1 .ah h K
def vG:G H3:=fun c n x0 x2 x3 h K=>
 aY (bI h 1 1 [.str []] [(0,(.str [59]))]) fun v16 h=>c (.func 22) [x0,v16] h <| pz K fun v17 h=>bO h 12 x3 fun v18=>aK h 12 x2 v18 fun h=>gU (fQ h [(x2,some (true,12))]) h K
def Gp:G H4:=fun c n x0 x2 x3 x22 h K=>
 ay 2 x3 fun v14=>bG h v14 x22 fun h=>vG c n x0 x2 x3 h K
def FM:G H4:=fun c n x0 x2 x3 x19 h K=>
 ay 1 x3 fun v11=>bG h v11 x19 fun h=>c (.func 58) [x0,(.int .i64 0)] h <| pz K fun v13 h=>Gp c n x0 x2 x3 v13 h K
def IX:G H3:=fun c n x0 x2 x3 h K=>
 c (.func 31) [x0] h <| pz K fun v10 h=>FM c n x0 x2 x3 v10 h K
def Ag:G H4:=fun c n x0 x2 x3 x15 h K=>
 eO x15 (.str [108,111,103,105,99,97,108]) fun v7=>aL v7 (ay 0 x3 fun v8=>bG h v8 (.int .i64 2) fun h=>IX c n x0 x2 x3 h K) (IX c n x0 x2 x3 h K)
def El:G H4:=fun c n x0 x2 x3 x32 h K=>
 ay 2 x3 fun v27=>bG h v27 x32 fun h=>vG c n x0 x2 x3 h K
def Es:G H4:=fun c n x0 x2 x3 x28 h K=>
 ay 0 x3 fun v22=>bG h v22 (.int .i64 3) fun h=>ay 3 x3 fun v24=>aK h 8 v24 x28 fun h=>c (.func 58) [x0,(.int .i64 1)] h <| pz K fun v26 h=>El c n x0 x2 x3 v26 h K
def En:G H4:=fun c n x0 x2 x3 x38 h K=>
 ay 0 x3 fun v31=>bG h v31 (.int .i64 4) fun h=>ay 3 x3 fun v33=>aK h 8 v33 x38 fun h=>vG c n x0 x2 x3 h K
def EG:G H4:=fun c n x0 x2 x3 x45 h K=>
 ay 0 x3 fun v37=>bG h v37 (.int .i64 5) fun h=>ay 11 x3 fun v39=>bG h v39 x45 fun h=>vG c n x0 x2 x3 h K
def EN:G H4:=fun c n x0 x2 x3 x52 h K=>
 ay 0 x3 fun v43=>bG h v43 (.int .i64 6) fun h=>ay 3 x3 fun v45=>aK h 8 v45 x52 fun h=>vG c n x0 x2 x3 h K
def Iz:G H4:=fun c n x0 x2 x3 x8 h K=>
 aL x8 (ay 0 x3 fun v4=>bG h v4 (.int .i64 1) fun h=>c (.func 53) [x0] h <| pz K fun v6 h=>Ag c n x0 x2 x3 v6 h K) (c (.func 19) [x0,(.str [117,112,100,97,116,101])] h <| pz K fun v20 h=>aL v20 (c (.func 59) [x0] h <| pz K fun v21 h=>Es c n x0 x2 x3 v21 h K) (c (.func 19) [x0,(.str [100,101,108,101,116,101])] h <| pz K fun v29 h=>aL v29 (c (.func 59) [x0] h <| pz K fun v30 h=>En c n x0 x2 x3 v30 h K) (c (.func 19) [x0,(.str [102,111,99,117,115])] h <| pz K fun v35 h=>aL v35 (c (.func 36) [x0] h <| pz K fun v36 h=>EG c n x0 x2 x3 v36 h K) (c (.func 19) [x0,(.str [112,114,105,110,116])] h <| pz K fun v41 h=>aL v41 (c (.func 59) [x0] h <| pz K fun v42 h=>EN c n x0 x2 x3 v42 h K) (aY (bI h 1 1 [.str []] [(0,(.str [104,97,108,116]))]) fun v47 h=>c (.func 22) [x0,v47] h <| pz K fun v48 h=>ay 0 x3 fun v49=>bG h v49 (.int .i64 7) fun h=>vG c n x0 x2 x3 h K)))))
def s39:G H1:=fun c n x0 h K=>
 bS h [.int .i64 0, .str [], .ah, .int .i64 0, .str [], .int .i64 0, .bool false, .int .i64 0, .str [], .ah, .ah, .str []] 12 fun v1 h=>bS h [.int .i64 0, .str [], .ah, .int .i64 0, .str [], .int .i64 0, .bool false, .int .i64 0, .str [], .ah, .ah, .str []] 12 fun v2 h=>c (.func 30) [x0,(.int .i64 0),(.str [105,110,115,101,114,116])] h <| pz K fun v3 h=>aL v3 (Iz c n x0 v1 v2 v3 h K) (c (.func 30) [x0,(.int .i64 0),(.str [108,111,103,105,99,97,108])] h <| pz K fun v51 h=>Iz c n x0 v1 v2 v51 h K)
def NC:G H2:=fun c n x0 x1 h K=>
 c (.func 35) [x0,x1] h <| pz K fun v14 h=>K (.tup []) h
def vT:G (F4→H6):=fun c n B4 x0 x1 x2 x14 x17 x19 h K=>
 gK x14 false (cO x17 x19 (.bool false)) fun v11=>cO x14 (.bool true) v11 fun v12=>aL v12 (nM c x2 [] h <| pz K fun v13 h=>B4 x0 x1 x2 (.bool false) h) (NC c n x0 x1 h K)
def DU:G (F4→H6):=fun c n B4 x0 x1 x2 x6 x8 x11 h K=>
 gK x8 true (mO x11) fun v4=>cO x8 v4 (.bool false) fun v5=>gK v5 false (bQ (some x6)) fun v6=>gK v5 false (mO v6) fun v7=>gK v5 false (bQ (some v7)) fun v8=>gK v8 true (bQ (some x0)) fun v9=>gP v8 true (fun k=>c (.func 19) [v9,(.str [44])] h (pz K k)) h fun v10 h=>vT c n B4 x0 x1 x2 v5 v8 v10 h K
def WV:G (F4→H4):=fun c n B4 x0 x1 x2 x6 h K=>
 gK x6 true (bQ (some x0)) fun v1=>gK x6 true (bQ (some x1)) fun v2=>gP x6 true (fun k=>c (.func 30) [v1,(.int .i64 0),v2] h (pz K k)) h fun v3 h=>DU c n B4 x0 x1 x2 x6 x6 v3 h K
def Mf:G (Nat→H4):=fun c n=>
 @Nat.rec (fun _=>H4) (fun _ _ _ _ _ _=>false) (fun _ ih x0 x1 x2 x6 h K=>WV c n (fun x0 x1 x2 x6 h=>ih x0 x1 x2 x6 h K) x0 x1 x2 x6 h K)
def s40:G H3:=fun c n x0 x1 x2 h K=>
 Mf c n n x0 x1 x2 (.bool true) h K
def s41:G H2:=fun c n x0 x1 h K=>
 ay 1 x0 fun v1=>av h v1 fun v2=>av h x1 fun v3=>c (.func 42) [v3] h <| pz K fun v4 h=>av h v1 <| dR v2 <| aY (bI h 1 1 [.str []] [(0,v4)]) fun v5 h=>av h v1 <| dR v2 <| av h x1 <| dR v3 <| oq h 1 16 v2 v5 fun v6 h=>ay 1 x0 fun v7=>bG h v7 v6 fun h=>K (.tup []) h
def D5:G H4:=fun c n x0 x3 x6 x8 h K=>
 gK x6 true (SC 1 x8) fun v4=>gK x6 true (oN v4) fun v5=>gK x6 true (LP v5 (.int .i64 64)) fun v6=>cO x6 v6 (.bool false) fun v7=>c (.func 29) [x3,v7] h <| pz K fun v8 h=>c (.func 53) [x0] h <| pz K fun v9 h=>K v9 h
def IQ:G H3:=fun c n x0 x3 x5 h K=>
 gK x5 true (bQ (some x0)) fun v2=>gP x5 true (fun k=>c (.func 51) [v2,(.int .i64 0)] h (pz K k)) h fun v3 h=>D5 c n x0 x3 x5 v3 h K
def s42:G H1:=fun c n x0 h K=>
 c (.func 55) [x0,(.int .i64 1)] h <| pz K fun v1 h=>IQ c n x0 x0 v1 h K
def Aj:G (F2→H3):=fun c n B1 x0 x1 x49 h K=>
 mO x49 fun v47=>aL v47 (K (.tup []) h) (B1 x0 x1 h)
def Ac:G (F2→H3):=fun c n B1 x0 x1 x19 h K=>
 kI 0 x19 fun v15=>kI 1 x19 fun v16=>bS h [.int .i64 0, .str [], .int .i64 0, .int .i64 0] 4 fun v17 h=>aK h 4 v17 v15 fun h=>eO v16 (.int .i64 0) fun v19=>aL v19 (av h x1 fun v20=>bK v20 fun v21=>ay 2 v21 fun v22=>bG h v22 (.bool true) fun h=>K (.tup []) h) (av h x1 fun v24=>bK v24 fun v25=>ay 1 v25 fun v26=>av h v26 fun v27=>av h x1 fun v28=>bK v28 fun v29=>ay 1 v29 fun v30=>av h v30 fun v31=>gW v31 v16 fun v32=>ay 2 v17 fun v33=>bG h v33 v27 fun h=>av h x1 <| dR v28 <| av h v30 <| dR v31 <| ay 3 v17 fun v35=>bG h v35 v32 fun h=>av h x1 fun v37=>bK v37 fun v38=>ay 1 v38 fun v39=>av h v39 fun v40=>gW v40 v16 fun v41=>bK v37 fun v42=>ay 1 v42 fun v43=>bG h v43 v41 fun h=>bO h 4 v17 fun v45=>nM c x0 [v45] h <| pz K fun v46 h=>Aj c n B1 x0 x1 v46 h K)
def aa4:G (F2→H2):=fun c n B1 x0 x1 h K=>
 av h x1 fun v1=>c (.func 44) [v1] h <| pz K fun v2 h=>av h x1 fun v3=>bK v3 fun v4=>ay 1 v4 fun v5=>av h v5 fun v6=>av h x1 fun v7=>bK v7 fun v8=>ay 0 v8 fun v9=>av h v9 fun v10=>oN v10 fun v11=>Gq v6 v11 fun v12=>aL v12 (K (.tup []) h) (av h x1 fun v13=>c (.func 45) [v13] h <| pz K fun v14 h=>Ac c n B1 x0 x1 v14 h K)
def Xj:G (Nat→H2):=fun c n=>
 @Nat.rec (fun _=>H2) (fun _ _ _ _=>false) (fun _ ih x0 x1 h K=>aa4 c n (fun x0 x1 h=>ih x0 x1 h K) x0 x1 h K)
def s43:G H2:=fun c n x0 x1 h K=>
 Xj c n n x0 x1 h K
def Kh:G (F1→H2):=fun c n B0 x0 x3 h K=>
 bK x0 fun v41=>ay 1 v41 fun v42=>av h v42 fun v43=>gW v43 x3 fun v44=>bK x0 fun v45=>ay 1 v45 fun v46=>bG h v46 v44 fun h=>B0 x0 h
def Fy:G (F1→H3):=fun c n B0 x0 x31 x33 h K=>
 gK x31 true (eO x33 (.int .u8 47)) fun v22=>cO x31 v22 (.bool false) fun v23=>aL v23 (bK x0 fun v24=>ay 0 v24 fun v25=>av h v25 fun v26=>bK x0 fun v27=>ay 1 v27 fun v28=>av h v28 fun v29=>NR v26 (some v29) none fun v30=>c (.func 61) [v30,(.int .u8 10)] h <| pz K fun v31 h=>mQ v31 (.int .i64 0) fun v32=>aL v32 (bK x0 fun v33=>ay 0 v33 fun v34=>av h v34 fun v35=>oN v35 fun v36=>bK x0 fun v37=>ay 1 v37 fun v38=>av h v38 fun v39=>J9 v36 v39 fun v40=>Kh c n B0 x0 v40 h K) (Kh c n B0 x0 v31 h K)) (K (.tup []) h)
def QL:G (F1→H1):=fun c n B0 x0 h K=>
 c (.func 60) [x0,(.int .i64 0)] h <| pz K fun v1 h=>eO v1 (.int .u8 32) fun v2=>gK v2 false (bQ (some v1)) fun v3=>gK v2 false (eO v3 (.int .u8 9)) fun v4=>cO v2 (.bool true) v4 fun v5=>gK v5 false (bQ (some v1)) fun v6=>gK v5 false (eO v6 (.int .u8 13)) fun v7=>cO v5 (.bool true) v7 fun v8=>gK v8 false (bQ (some v1)) fun v9=>gK v8 false (eO v9 (.int .u8 10)) fun v10=>cO v8 (.bool true) v10 fun v11=>aL v11 (bK x0 fun v12=>ay 1 v12 fun v13=>av h v13 fun v14=>gW v14 (.int .i64 1) fun v15=>bK x0 fun v16=>ay 1 v16 fun v17=>bG h v17 v15 fun h=>B0 x0 h) (eO v1 (.int .u8 47) fun v19=>gK v19 true (bQ (some x0)) fun v20=>gP v19 true (fun k=>c (.func 60) [v20,(.int .i64 1)] h (pz K k)) h fun v21 h=>Fy c n B0 x0 v19 v21 h K)
def RY:G (Nat→H1):=fun c n=>
 @Nat.rec (fun _=>H1) (fun _ _ _=>false) (fun _ ih x0 h K=>QL c n (fun x0 h=>ih x0 h K) x0 h K)
def UD:G (F1→H2):=fun c n B0 x0 x3 h K=>
 bK x0 fun v88=>ay 1 v88 fun v89=>av h v89 fun v90=>gW v90 x3 fun v91=>bK x0 fun v92=>ay 1 v92 fun v93=>bG h v93 v91 fun h=>B0 x0 h
def Nq:G (F1→H3):=fun c n B0 x0 x31 x33 h K=>
 gK x31 true (eO x33 (.int .u8 47)) fun v69=>cO x31 v69 (.bool false) fun v70=>aL v70 (bK x0 fun v71=>ay 0 v71 fun v72=>av h v72 fun v73=>bK x0 fun v74=>ay 1 v74 fun v75=>av h v75 fun v76=>NR v73 (some v76) none fun v77=>c (.func 61) [v77,(.int .u8 10)] h <| pz K fun v78 h=>mQ v78 (.int .i64 0) fun v79=>aL v79 (bK x0 fun v80=>ay 0 v80 fun v81=>av h v81 fun v82=>oN v82 fun v83=>bK x0 fun v84=>ay 1 v84 fun v85=>av h v85 fun v86=>J9 v83 v86 fun v87=>UD c n B0 x0 v87 h K) (UD c n B0 x0 v78 h K)) (K (.tup []) h)
def aed:G (F1→H1):=fun c n B0 x0 h K=>
 c (.func 60) [x0,(.int .i64 0)] h <| pz K fun v48 h=>eO v48 (.int .u8 32) fun v49=>gK v49 false (bQ (some v48)) fun v50=>gK v49 false (eO v50 (.int .u8 9)) fun v51=>cO v49 (.bool true) v51 fun v52=>gK v52 false (bQ (some v48)) fun v53=>gK v52 false (eO v53 (.int .u8 13)) fun v54=>cO v52 (.bool true) v54 fun v55=>gK v55 false (bQ (some v48)) fun v56=>gK v55 false (eO v56 (.int .u8 10)) fun v57=>cO v55 (.bool true) v57 fun v58=>aL v58 (bK x0 fun v59=>ay 1 v59 fun v60=>av h v60 fun v61=>gW v61 (.int .i64 1) fun v62=>bK x0 fun v63=>ay 1 v63 fun v64=>bG h v64 v62 fun h=>B0 x0 h) (eO v48 (.int .u8 47) fun v66=>gK v66 true (bQ (some x0)) fun v67=>gP v66 true (fun k=>c (.func 60) [v67,(.int .i64 1)] h (pz K k)) h fun v68 h=>Nq c n B0 x0 v66 v68 h K)
def s44:G H1:=fun c n x0 h K=>
 aed c n (pF1 (pC1 (RY c n n) K)) x0 h K
def M4:G H3:=fun c n x2 x3 x18 h K=>
 dX [.int .i64 0, .str [], .int .i64 0, .int .i64 0] [(0,1,(.int .i64 0)),(1,1,x18)] fun v10=>aK h 4 x2 v10 fun h=>gU (fQ h [(x2,some (true,4)),(x3,none)]) h K
def Me:G H3:=fun c n x2 x3 x30 h K=>
 dX [.int .i64 0, .str [], .int .i64 0, .int .i64 0] [(0,1,(.int .i64 1)),(1,1,x30)] fun v17=>gW x3 (.int .i64 1) fun v18=>aK h 4 x2 v17 fun h=>gU (fQ h [(x2,some (true,4)),(v18,none)]) h K
def Nf:G H3:=fun c n x2 x3 x42 h K=>
 dX [.int .i64 0, .str [], .int .i64 0, .int .i64 0] [(0,1,(.int .i64 2)),(1,1,x42)] fun v26=>aK h 4 x2 v26 fun h=>gU (fQ h [(x2,some (true,4)),(x3,none)]) h K
def zP:G H2:=fun c n x2 x50 h K=>
 kI 0 x50 fun v31=>kI 1 x50 fun v32=>dX [.int .i64 0, .str [], .int .i64 0, .int .i64 0] [(0,1,(.int .i64 3)),(1,1,v31)] fun v33=>aK h 4 x2 v33 fun h=>gU (fQ h [(x2,some (true,4)),(v32,none)]) h K
def MF:G H3:=fun c n x2 x3 x60 h K=>
 dX [.int .i64 0, .str [], .int .i64 0, .int .i64 0] [(0,1,(.int .i64 4)),(1,1,x60)] fun v38=>aK h 4 x2 v38 fun h=>gU (fQ h [(x2,some (true,4)),(x3,none)]) h K
def s45:G H1:=fun c n x0 h K=>
 Eu h x0 fun v1 h=>bS h [.int .i64 0, .str [], .int .i64 0, .int .i64 0] 4 fun v2 h=>bQ (some (.fn (.func 62) [] [v1])) fun v3=>av h v1 fun v4=>c (.func 60) [v4,(.int .i64 0)] h <| pz K fun v5 h=>c (.func 63) [v5] h <| pz K fun v6 h=>aL v6 (av h v1 fun v7=>c (.func 64) [v7,(.int .i64 0)] h <| pz K fun v8 h=>nM c v3 [(.int .i64 0),v8] h <| pz K fun v9 h=>M4 c n v2 v8 v9 h K) (eO v5 (.int .u8 36) fun v12=>aL v12 (av h v1 fun v13=>c (.func 64) [v13,(.int .i64 1)] h <| pz K fun v14 h=>LM v14 (.int .i64 0) fun v15=>aL v15 (nM c v3 [(.int .i64 1),v14] h <| pz K fun v16 h=>Me c n v2 v14 v16 h K) (bO h 4 v2 fun v20=>aK h 4 v2 v20 fun h=>gU (fQ h [(v2,some (true,4)),((.int .i64 0),none)]) h K)) (c (.func 65) [v5] h <| pz K fun v22 h=>aL v22 (av h v1 fun v23=>c (.func 66) [v23,(.int .i64 0),(.fn (.func 65) [] [])] h <| pz K fun v24 h=>nM c v3 [(.int .i64 0),v24] h <| pz K fun v25 h=>Nf c n v2 v24 v25 h K) (eO v5 (.int .u8 34) fun v28=>aL v28 (av h v1 fun v29=>c (.func 67) [v29] h <| pz K fun v30 h=>zP c n v2 v30 h K) (av h v1 fun v35=>c (.func 68) [v35] h <| pz K fun v36 h=>nM c v3 [(.int .i64 0),v36] h <| pz K fun v37 h=>MF c n v2 v36 v37 h K))))
def Pq:G (F3→H3):=fun c n B14 x0 x1 x5 h K=>
 iq x0 fun v4=>mQ x5 v4 fun v5=>aL v5 (eX h 8 x0 x5 fun v6=>bO h 8 v6 fun v7=>eX h 8 x1 x5 fun v8=>bO h 8 v8 fun v9=>c (.func 26) [v7,v9] h <| pz K fun v10 h=>mO v10 fun v11=>aL v11 (K (.bool false) h) (gW x5 (.int .i64 1) fun v12=>B14 x0 x1 v12 h)) (K (.bool true) h)
def Kq:G (Nat→H3):=fun c n=>
 @Nat.rec (fun _=>H3) (fun _ _ _ _ _=>false) (fun _ ih x0 x1 x5 h K=>Pq c n (fun x0 x1 x5 h=>ih x0 x1 x5 h K) x0 x1 x5 h K)
def Ud:G H2:=fun c n x0 x1 h K=>
 Kq c n n x0 x1 (.int .i64 0) h K
def s46:G H2:=fun c n x0 x1 h K=>
 iq x0 fun v1=>iq x1 fun v2=>jM v1 v2 fun v3=>aL v3 (K (.bool false) h) (Ud c n x0 x1 h K)
def OE:G (F3→H3):=fun c n B14 x0 x1 x5 h K=>
 iq x0 fun v4=>mQ x5 v4 fun v5=>aL v5 (eX h 1 x0 x5 fun v6=>av h v6 fun v7=>eX h 1 x1 x5 fun v8=>av h v8 fun v9=>c (.func 15) [v7,v9] h <| pz K fun v10 h=>mO v10 fun v11=>aL v11 (K (.bool false) h) (gW x5 (.int .i64 1) fun v12=>B14 x0 x1 v12 h)) (K (.bool true) h)
def Ir:G (Nat→H3):=fun c n=>
 @Nat.rec (fun _=>H3) (fun _ _ _ _ _=>false) (fun _ ih x0 x1 x5 h K=>OE c n (fun x0 x1 x5 h=>ih x0 x1 x5 h K) x0 x1 x5 h K)
def TK:G H2:=fun c n x0 x1 h K=>
 Ir c n n x0 x1 (.int .i64 0) h K
def s47:G H2:=fun c n x0 x1 h K=>
 iq x0 fun v1=>iq x1 fun v2=>jM v1 v2 fun v3=>aL v3 (K (.bool false) h) (TK c n x0 x1 h K)
def Jw:G H2:=fun c n x31 x36 h K=>
 cO x31 x36 (.bool false) fun v31=>K v31 h
def s48:G H2:=fun c n x0 x1 h K=>
 aY (nU h (none) 5 x0) fun v1 h=>aY (nU h (none) 5 x1) fun v2 h=>ay 0 v1 fun v3=>av h v3 fun v4=>ay 0 v2 fun v5=>av h v5 fun v6=>eO v4 v6 fun v7=>gK v7 true (ay 1 v1) fun v8=>gK v7 true (av h v8) fun v9=>gK v7 true (ay 1 v2) fun v10=>gK v7 true (av h v10) fun v11=>gK v7 true (bQ (Ey h false .bool v9 v11)) fun v12=>cO v7 v12 (.bool false) fun v13=>gK v13 true (ay 2 v1) fun v14=>gK v13 true (av h v14) fun v15=>gK v13 true (ay 2 v2) fun v16=>gK v13 true (av h v16) fun v17=>gK v13 true (eO v15 v17) fun v18=>cO v13 v18 (.bool false) fun v19=>gK v19 true (ay 3 v1) fun v20=>gK v19 true (av h v20) fun v21=>gK v19 true (ay 3 v2) fun v22=>gK v19 true (av h v22) fun v23=>gK v19 true (eO v21 v23) fun v24=>cO v19 v24 (.bool false) fun v25=>gK v25 true (ay 4 v1) fun v26=>gK v25 true (av h v26) fun v27=>gK v25 true (ay 4 v2) fun v28=>gK v25 true (av h v28) fun v29=>gP v25 true (fun k=>c (.func 69) [v27,v29] h (pz K k)) h fun v30 h=>Jw c n v25 v30 h K
def s49:G H1:=fun c n x0 h K=>
 dX [.int .i64 0] [(0,1,x0)] fun v1=>bQ (Sc 93 v1) fun v2=>aas K v2 h
def s50:G H1:=fun c n x0 h K=>
 bK x0 fun v1=>ay 1 v1 fun v2=>av h v2 fun v3=>bK x0 fun v4=>ay 0 v4 fun v5=>av h v5 fun v6=>iq v6 fun v7=>mQ v3 v7 fun v8=>aL v8 (bK x0 fun v9=>ay 0 v9 fun v10=>av h v10 fun v11=>bK x0 fun v12=>ay 1 v12 fun v13=>av h v13 fun v14=>eX h 4 v11 v14 fun v15=>ay 2 v15 fun v16=>av h v16 fun v17=>K v17 h) (bK x0 fun v18=>ay 2 v18 fun v19=>av h v19 fun v20=>K v20 h)
def s51:G H2:=fun c n x0 x1 h K=>
 bS h [.int .i64 0, .str [], .int .i64 0, .int .i64 0] 4 fun v1 h=>bK x0 fun v2=>ay 1 v2 fun v3=>av h v3 fun v4=>gW v4 x1 fun v5=>bK x0 fun v6=>ay 0 v6 fun v7=>av h v7 fun v8=>iq v8 fun v9=>mQ v5 v9 fun v10=>aL v10 (bK x0 fun v11=>ay 0 v11 fun v12=>av h v12 fun v13=>bK x0 fun v14=>ay 1 v14 fun v15=>av h v15 fun v16=>gW v16 x1 fun v17=>eX h 4 v13 v17 fun v18=>bO h 4 v18 fun v19=>aK h 4 v1 v19 fun h=>gU (fQ h [(v1,some (true,4))]) h K) (dX [.int .i64 0, .str [], .int .i64 0, .int .i64 0] [(0,1,(.int .i64 (-1)))] fun v21=>aK h 4 v1 v21 fun h=>gU (fQ h [(v1,some (true,4))]) h K)
def dZ:G H1:=fun c n x4 h K=>
 aL x4 (K (.bool true) h) (K (.bool false) h)
set_option maxRecDepth 100000 in
def s52:G H1:=fun c n x0 h K=>
 eO x0 (.str [99,108,97,115,115]) fun v1=>aL v1 (dZ c n v1 h K) (eO x0 (.str [101,120,116,101,110,100,115]) fun v2=>aL v2 (dZ c n v2 h K) (eO x0 (.str [114,117,108,101]) fun v3=>aL v3 (dZ c n v3 h K) (eO x0 (.str [113,117,101,114,121]) fun v4=>aL v4 (dZ c n v4 h K) (eO x0 (.str [119,104,101,110]) fun v5=>aL v5 (dZ c n v5 h K) (eO x0 (.str [116,104,101,110]) fun v6=>aL v6 (dZ c n v6 h K) (eO x0 (.str [101,110,100]) fun v7=>aL v7 (dZ c n v7 h K) (eO x0 (.str [115,97,108,105,101,110,99,101]) fun v8=>aL v8 (dZ c n v8 h K) (eO x0 (.str [103,114,111,117,112]) fun v9=>aL v9 (dZ c n v9 h K) (eO x0 (.str [102,108,111,119]) fun v10=>aL v10 (dZ c n v10 h K) (eO x0 (.str [110,111,108,111,111,112]) fun v11=>aL v11 (dZ c n v11 h K) (eO x0 (.str [108,111,99,107]) fun v12=>aL v12 (dZ c n v12 h K) (eO x0 (.str [110,111,116]) fun v13=>aL v13 (dZ c n v13 h K) (eO x0 (.str [101,120,105,115,116,115]) fun v14=>aL v14 (dZ c n v14 h K) (eO x0 (.str [102,111,114,97,108,108]) fun v15=>aL v15 (dZ c n v15 h K) (eO x0 (.str [111,114]) fun v16=>aL v16 (dZ c n v16 h K) (eO x0 (.str [102,114,111,109]) fun v17=>aL v17 (dZ c n v17 h K) (eO x0 (.str [101,118,97,108]) fun v18=>aL v18 (dZ c n v18 h K) (eO x0 (.str [97,99,99]) fun v19=>aL v19 (dZ c n v19 h K) (eO x0 (.str [111,118,101,114]) fun v20=>aL v20 (dZ c n v20 h K) (eO x0 (.str [105,110,115,101,114,116]) fun v21=>aL v21 (dZ c n v21 h K) (eO x0 (.str [108,111,103,105,99,97,108]) fun v22=>aL v22 (dZ c n v22 h K) (eO x0 (.str [117,112,100,97,116,101]) fun v23=>aL v23 (dZ c n v23 h K) (eO x0 (.str [100,101,108,101,116,101]) fun v24=>aL v24 (dZ c n v24 h K) (eO x0 (.str [102,111,99,117,115]) fun v25=>aL v25 (dZ c n v25 h K) (eO x0 (.str [112,114,105,110,116]) fun v26=>aL v26 (dZ c n v26 h K) (eO x0 (.str [104,97,108,116]) fun v27=>aL v27 (dZ c n v27 h K) (eO x0 (.str [116,114,117,101]) fun v28=>aL v28 (dZ c n v28 h K) (eO x0 (.str [102,97,108,115,101]) fun v29=>aL v29 (dZ c n v29 h K) (eO x0 (.str [110,117,108,108]) fun v30=>aL v30 (dZ c n v30 h K) (eO x0 (.str [115,105,122,101]) fun v31=>aL v31 (dZ c n v31 h K) (eO x0 (.str [104,97,115]) fun v32=>aL v32 (dZ c n v32 h K) (eO x0 (.str [105,110,116]) fun v33=>aL v33 (dZ c n v33 h K) (eO x0 (.str [98,111,111,108]) fun v34=>aL v34 (dZ c n v34 h K) (eO x0 (.str [116,101,120,116]) fun v35=>aL v35 (dZ c n v35 h K) (eO x0 (.str [108,105,115,116]) fun v36=>aL v36 (dZ c n v36 h K) (eO x0 (.str [97,110,121]) fun v37=>aL v37 (dZ c n v37 h K) (eO x0 (.str [114,101,102]) fun v38=>dZ c n v38 h K)))))))))))))))))))))))))))))))))))))
def s53:G H1:=fun c n x0 h K=>
 bK x0 fun v1=>ay 1 v1 fun v2=>av h v2 fun v3=>gW v3 (.int .i64 1) fun v4=>bK x0 fun v5=>ay 1 v5 fun v6=>bG h v6 v4 fun h=>bK x0 fun v8=>ay 0 v8 fun v9=>av h v9 fun v10=>bK x0 fun v11=>ay 1 v11 fun v12=>av h v12 fun v13=>J9 v13 (.int .i64 1) fun v14=>eX h 4 v10 v14 fun v15=>ay 1 v15 fun v16=>av h v16 fun v17=>K v17 h
def s54:G H2:=fun c n x0 x1 h K=>
 bK x0 fun v1=>ay 3 v1 fun v2=>av h v2 fun v3=>gW v3 (.int .i64 1) fun v4=>bK x0 fun v5=>ay 3 v5 fun v6=>bG h v6 v4 fun h=>bK x0 fun v8=>ay 3 v8 fun v9=>av h v9 fun v10=>LM v10 (.int .i64 30) fun v11=>aL v11 (c (.func 49) [x1] h <| pz K fun v12 h=>K (.tup []) h) (K (.tup []) h)
def K9:G H2:=fun c n x1 x6 h K=>
 SC 0 x6 fun v2=>eO v2 x1 fun v3=>K v3 h
def s55:G H2:=fun c n x0 x1 h K=>
 c (.func 51) [x0,(.int .i64 0)] h <| pz K fun v1 h=>K9 c n x1 v1 h K
def Kj:G H2:=fun c n x2 x10 h K=>
 dX [.int .i64 0, .str [], .str [], .ah, .ah, .ah, .ah, .ah, .int .i64 0, .str [], .int .i64 0, .bool false, .int .i64 0, .str [], .ah, .ah, .str [], .str [], .ah] [(0,1,(.int .i64 2)),(5,1,x10)] fun v4=>aK h 19 x2 v4 fun h=>gU (fQ h [(x2,some (true,19))]) h K
def FT:G H2:=fun c n x2 x16 h K=>
 dX [.int .i64 0, .str [], .str [], .ah, .ah, .ah, .ah, .ah, .int .i64 0, .str [], .int .i64 0, .bool false, .int .i64 0, .str [], .ah, .ah, .str [], .str [], .ah] [(0,1,(.int .i64 3)),(5,1,x16)] fun v8=>aK h 19 x2 v8 fun h=>gU (fQ h [(x2,some (true,19))]) h K
def Fz:G H4:=fun c n x0 x2 x3 x32 h K=>
 ay 6 x3 fun v21=>bG h v21 x32 fun h=>c (.func 35) [x0,(.str [41])] h <| pz K fun v23 h=>bO h 19 x3 fun v24=>aK h 19 x2 v24 fun h=>gU (fQ h [(x2,some (true,19))]) h K
def Gl:G H3:=fun c n x0 x2 x25 h K=>
 dX [.int .i64 0, .str [], .str [], .ah, .ah, .ah, .ah, .ah, .int .i64 0, .str [], .int .i64 0, .bool false, .int .i64 0, .str [], .ah, .ah, .str [], .str [], .ah] [(0,1,(.int .i64 4)),(5,1,x25)] fun v14=>bS h [.int .i64 0, .str [], .str [], .ah, .ah, .ah, .ah, .ah, .int .i64 0, .str [], .int .i64 0, .bool false, .int .i64 0, .str [], .ah, .ah, .str [], .str [], .ah] 19 fun v15 h=>aK h 19 v15 v14 fun h=>aY (bI h 1 1 [.str []] [(0,(.str [59]))]) fun v17 h=>c (.func 22) [x0,v17] h <| pz K fun v18 h=>aY (bI h 1 1 [.str []] [(0,(.str [41]))]) fun v19 h=>c (.func 73) [x0,v19] h <| pz K fun v20 h=>Fz c n x0 x2 v15 v20 h K
def F7:G H2:=fun c n x2 x41 h K=>
 aK h 19 x2 x41 fun h=>gU (fQ h [(x2,some (true,19))]) h K
def EH:G H3:=fun c n x0 x2 x48 h K=>
 dX [.int .i64 0, .str [], .str [], .ah, .ah, .ah, .ah, .ah, .int .i64 0, .str [], .int .i64 0, .bool false, .int .i64 0, .str [], .ah, .ah, .str [], .str [], .ah] [(0,1,(.int .i64 8)),(8,8,x48)] fun v32=>bS h [.int .i64 0, .str [], .str [], .ah, .ah, .ah, .ah, .ah, .int .i64 0, .str [], .int .i64 0, .bool false, .int .i64 0, .str [], .ah, .ah, .str [], .str [], .ah] 19 fun v33 h=>aK h 19 v33 v32 fun h=>c (.func 35) [x0,(.str [41])] h <| pz K fun v35 h=>bO h 19 v33 fun v36=>aK h 19 x2 v36 fun h=>gU (fQ h [(x2,some (true,19))]) h K
def Gc:G H2:=fun c n x2 x57 h K=>
 aK h 19 x2 x57 fun h=>gU (fQ h [(x2,some (true,19))]) h K
def FX:G H2:=fun c n x2 x62 h K=>
 aK h 19 x2 x62 fun h=>gU (fQ h [(x2,some (true,19))]) h K
def Ev:G H3:=fun c n x2 x5 x78 h K=>
 ay 8 x5 fun v56=>aK h 8 v56 x78 fun h=>bO h 19 x5 fun v58=>aK h 19 x2 v58 fun h=>gU (fQ h [(x2,some (true,19))]) h K
def Ew:G H3:=fun c n x0 x2 x72 h K=>
 dX [.int .i64 0, .str [], .str [], .ah, .ah, .ah, .ah, .ah, .int .i64 0, .str [], .int .i64 0, .bool false, .int .i64 0, .str [], .ah, .ah, .str [], .str [], .ah] [(0,1,(.int .i64 6)),(1,1,x72)] fun v50=>bS h [.int .i64 0, .str [], .str [], .ah, .ah, .ah, .ah, .ah, .int .i64 0, .str [], .int .i64 0, .bool false, .int .i64 0, .str [], .ah, .ah, .str [], .str [], .ah] 19 fun v51 h=>aK h 19 v51 v50 fun h=>aY (bI h 1 1 [.str []] [(0,(.str [102,114,111,109]))]) fun v53 h=>c (.func 22) [x0,v53] h <| pz K fun v54 h=>c (.func 59) [x0] h <| pz K fun v55 h=>Ev c n x2 v51 v55 h K
def Ae:G H2:=fun c n x2 x82 h K=>
 aK h 19 x2 x82 fun h=>gU (fQ h [(x2,some (true,19))]) h K
def zG:G H4:=fun c n x0 x2 x66 x68 h K=>
 gK x66 true (mO x68) fun v47=>cO x66 v47 (.bool false) fun v48=>aL v48 (c (.func 42) [x0] h <| pz K fun v49 h=>Ew c n x0 x2 v49 h K) (c (.func 77) [x0] h <| pz K fun v60 h=>Ae c n x2 v60 h K)
def Gf:G H3:=fun c n x0 x2 x65 h K=>
 gK x65 true (bQ (some x0)) fun v45=>gP x65 true (fun k=>c (.func 30) [v45,(.int .i64 1),(.str [58])] h (pz K k)) h fun v46 h=>zG c n x0 x2 x65 v46 h K
set_option maxRecDepth 100000 in
def s57:G H1:=fun c n x0 h K=>
 bS h [.int .i64 0, .str [], .str [], .ah, .ah, .ah, .ah, .ah, .int .i64 0, .str [], .int .i64 0, .bool false, .int .i64 0, .str [], .ah, .ah, .str [], .str [], .ah] 19 fun v1 h=>c (.func 19) [x0,(.str [110,111,116])] h <| pz K fun v2 h=>aL v2 (c (.func 72) [x0] h <| pz K fun v3 h=>Kj c n v1 v3 h K) (c (.func 19) [x0,(.str [101,120,105,115,116,115])] h <| pz K fun v6 h=>aL v6 (c (.func 72) [x0] h <| pz K fun v7 h=>FT c n v1 v7 h K) (c (.func 19) [x0,(.str [102,111,114,97,108,108])] h <| pz K fun v10 h=>aL v10 (c (.func 32) [x0,(.str [40])] h <| pz K fun v11 h=>aY (bI h 1 1 [.str []] [(0,(.str [59]))]) fun v12 h=>c (.func 73) [x0,v12] h <| pz K fun v13 h=>Gl c n x0 v1 v13 h K) (c (.func 30) [x0,(.int .i64 0),(.str [40])] h <| pz K fun v26 h=>aL v26 (c (.func 74) [x0] h <| pz K fun v27 h=>F7 c n v1 v27 h K) (c (.func 19) [x0,(.str [101,118,97,108])] h <| pz K fun v29 h=>aL v29 (c (.func 32) [x0,(.str [40])] h <| pz K fun v30 h=>c (.func 59) [x0] h <| pz K fun v31 h=>EH c n x0 v1 v31 h K) (c (.func 19) [x0,(.str [97,99,99])] h <| pz K fun v38 h=>aL v38 (c (.func 75) [x0] h <| pz K fun v39 h=>Gc c n v1 v39 h K) (c (.func 19) [x0,(.str [63])] h <| pz K fun v41 h=>aL v41 (c (.func 76) [x0] h <| pz K fun v42 h=>FX c n v1 v42 h K) (c (.func 55) [x0,(.int .i64 1)] h <| pz K fun v44 h=>Gf c n x0 v1 v44 h K)))))))
def JX:G H2:=fun c n x2 x5 h K=>
 av h x2 fun v11=>bQ (some (.fn (.func 78) [] [x2,x5])) fun v12=>c (.func 40) [v11,(.str [125]),v12] h <| pz K fun v13 h=>av h x5 fun v14=>K v14 h
def s58:G H2:=fun c n x0 x1 h K=>
 Eu h x0 fun v1 h=>bS h [.ah] 1 fun v2 h=>av h v1 fun v3=>c (.func 32) [v3,(.str [123])] h <| pz K fun v4 h=>LM x1 (.int .i64 0) fun v5=>aL v5 (av h v1 fun v6=>av h v1 fun v7=>c (.func 30) [v7,(.int .i64 0),(.str [125])] h <| pz K fun v8 h=>av h v1 <| dR v6 <| mO v8 fun v9=>c (.func 29) [v6,v9] h <| pz K fun v10 h=>JX c n v1 v2 h K) (JX c n v1 v2 h K)
def Jf:G H2:=fun c n x2 x4 h K=>
 bQ (L6 true 0 8 x4) fun v3=>aK h 8 x2 v3 fun h=>gU (fQ h [(x2,some (true,8))]) h K
def s59:G H1:=fun c n x0 h K=>
 bS h [.int .i64 0, .str [], .int .i64 0, .bool false, .int .i64 0, .str [], .ah, .ah] 8 fun v1 h=>c (.func 79) [x0,(.int .i64 0)] h <| pz K fun v2 h=>Jf c n v1 v2 h K
def s60:G H2:=fun c n x0 x1 h K=>
 bK x0 fun v1=>ay 1 v1 fun v2=>av h v2 fun v3=>gW v3 x1 fun v4=>bK x0 fun v5=>ay 0 v5 fun v6=>av h v6 fun v7=>oN v7 fun v8=>Gq v4 v8 fun v9=>aL v9 (K (.int .u8 0) h) (bK x0 fun v10=>ay 0 v10 fun v11=>av h v11 fun v12=>bK x0 fun v13=>ay 1 v13 fun v14=>av h v14 fun v15=>gW v15 x1 fun v16=>GJ v12 v16 fun v17=>K v17 h)
def s61:G H2:=fun c n x0 x1 h K=>
 c (.func 80) [x0,x1] h <| pz K fun v1 h=>K v1 h
def s62:G H3:=fun c n x0 x1 x2 h K=>
 av h x2 fun v1=>bK v1 fun v2=>ay 0 v2 fun v3=>av h v3 fun v4=>av h x2 fun v5=>bK v5 fun v6=>ay 1 v6 fun v7=>av h v7 fun v8=>gW v8 x0 fun v9=>av h x2 fun v10=>bK v10 fun v11=>ay 1 v11 fun v12=>av h v12 fun v13=>gW v13 x0 fun v14=>gW v14 x1 fun v15=>NR v4 (some v9) (some v15) fun v16=>K v16 h
def s63:G H1:=fun c n x0 h K=>
 Gq x0 (.int .u8 97) fun v1=>gK v1 true (bQ (some x0)) fun v2=>gK v1 true (LP v2 (.int .u8 122)) fun v3=>cO v1 v3 (.bool false) fun v4=>gK v4 false (bQ (some x0)) fun v5=>gK v4 false (Gq v5 (.int .u8 65)) fun v6=>gK v4 false (bQ (some v6)) fun v7=>gK v7 true (bQ (some x0)) fun v8=>gK v7 true (LP v8 (.int .u8 90)) fun v9=>gK v4 false (cO v7 v9 (.bool false)) fun v10=>cO v4 (.bool true) v10 fun v11=>K v11 h
def Ku:G H3:=fun c n x0 x1 x8 h K=>
 mO x8 fun v3=>aL v3 (K (.int .i64 0) h) (c (.func 66) [x0,x1,(.fn (.func 81) [] [])] h <| pz K fun v4 h=>K v4 h)
def Lh:G H3:=fun c n x0 x1 x7 h K=>
 c (.func 63) [x7] h <| pz K fun v2 h=>Ku c n x0 x1 v2 h K
def s64:G H2:=fun c n x0 x1 h K=>
 c (.func 60) [x0,x1] h <| pz K fun v1 h=>Lh c n x0 x1 v1 h K
def s65:G H1:=fun c n x0 h K=>
 Gq x0 (.int .u8 48) fun v1=>gK v1 true (bQ (some x0)) fun v2=>gK v1 true (LP v2 (.int .u8 57)) fun v3=>cO v1 v3 (.bool false) fun v4=>K v4 h
def abg:G (F4→H4):=fun c n B6 x0 x1 x2 x7 h K=>
 bK x0 fun v1=>ay 1 v1 fun v2=>av h v2 fun v3=>gW v3 x1 fun v4=>gW v4 x7 fun v5=>bK x0 fun v6=>ay 0 v6 fun v7=>av h v7 fun v8=>oN v8 fun v9=>mQ v5 v9 fun v10=>gK v10 true (bQ (some x2)) fun v11=>gK v10 true (bQ (some x0)) fun v12=>gK v10 true (bK v12) fun v13=>gK v10 true (ay 0 v13) fun v14=>gK v10 true (av h v14) fun v15=>gK v10 true (bQ (some x0)) fun v16=>gK v10 true (bK v16) fun v17=>gK v10 true (ay 1 v17) fun v18=>gK v10 true (av h v18) fun v19=>gK v10 true (bQ (some x1)) fun v20=>gK v10 true (gW v19 v20) fun v21=>gK v10 true (bQ (some x7)) fun v22=>gK v10 true (gW v21 v22) fun v23=>gK v10 true (GJ v15 v23) fun v24=>gP v10 true (fun k=>nM c v11 [v24] h (pz K k)) h fun v25 h=>cO v10 v25 (.bool false) fun v26=>aL v26 (gW x7 (.int .i64 1) fun v27=>B6 x0 x1 x2 v27 h) (K x7 h)
def X6:G (Nat→H4):=fun c n=>
 @Nat.rec (fun _=>H4) (fun _ _ _ _ _ _=>false) (fun _ ih x0 x1 x2 x7 h K=>abg c n (fun x0 x1 x2 x7 h=>ih x0 x1 x2 x7 h K) x0 x1 x2 x7 h K)
def s66:G H3:=fun c n x0 x1 x2 h K=>
 X6 c n n x0 x1 x2 (.int .i64 0) h K
def Gt:G (F3→H2):=fun c n B8 x5 x30 h K=>
 gW x5 (.int .i64 1) fun v14=>K (.tup [x30,v14]) h
def Kt:G (F3→H3):=fun c n B8 x0 x4 x5 h K=>
 gW x5 (.int .i64 1) fun v22=>B8 x0 x4 v22 h
def Fu:G (F3→H4):=fun c n B8 x0 x4 x5 x40 h K=>
 c (.func 61) [(.str [34,92,110,116]),x40] h <| pz K fun v18 h=>mQ v18 (.int .i64 0) fun v19=>aL v19 (K (.tup [(.str []),(.int .i64 0)]) h) (GJ (.str [34,92,10,9]) v18 fun v20=>c (.func 83) [x4,v20] h <| pz K fun v21 h=>Kt c n B8 x0 x4 x5 h K)
def aaK:G (F3→H3):=fun c n B8 x0 x4 x5 h K=>
 bK x0 fun v2=>ay 1 v2 fun v3=>av h v3 fun v4=>gW v4 x5 fun v5=>bK x0 fun v6=>ay 0 v6 fun v7=>av h v7 fun v8=>oN v8 fun v9=>mQ v5 v9 fun v10=>aL v10 (c (.func 60) [x0,x5] h <| pz K fun v11 h=>eO v11 (.int .u8 34) fun v12=>aL v12 (c (.func 82) [x4] h <| pz K fun v13 h=>Gt c n B8 x5 v13 h K) (eO v11 (.int .u8 92) fun v15=>aL v15 (gW x5 (.int .i64 1) fun v16=>c (.func 60) [x0,v16] h <| pz K fun v17 h=>Fu c n B8 x0 x4 v16 v17 h K) (mQ v11 (.int .u8 32) fun v23=>aL v23 (K (.tup [(.str []),(.int .i64 0)]) h) (c (.func 83) [x4,v11] h <| pz K fun v24 h=>Kt c n B8 x0 x4 x5 h K)))) (K (.tup [(.str []),(.int .i64 0)]) h)
def XW:G (Nat→H3):=fun c n=>
 @Nat.rec (fun _=>H3) (fun _ _ _ _ _=>false) (fun _ ih x0 x4 x5 h K=>aaK c n (fun x0 x4 x5 h=>ih x0 x4 x5 h K) x0 x4 x5 h K)
def s67:G H1:=fun c n x0 h K=>
 aY (Tx h 143 [.nilPtr, .ah]) fun v1 h=>XW c n n x0 v1 (.int .i64 1) h K
def Uk:G H1:=fun c n x0 h K=>
 bK x0 fun v15=>ay 0 v15 fun v16=>av h v16 fun v17=>bK x0 fun v18=>ay 1 v18 fun v19=>av h v19 fun v20=>GJ v17 v20 fun v21=>c (.func 61) [(.str [40,41,91,93,123,125,44,46,58,59,63,60,62,61,43,45,42,47,37,33]),v21] h <| pz K fun v22 h=>Gq v22 (.int .i64 0) fun v23=>aL v23 (K (.int .i64 1) h) (K (.int .i64 0) h)
def aa9:G (F4→H4):=fun c n B6 x0 x5 x6 x7 h K=>
 mQ x7 x6 fun v3=>aL v3 (eX h 1 x5 x7 fun v4=>av h v4 fun v5=>bK x0 fun v6=>ay 0 v6 fun v7=>av h v7 fun v8=>bK x0 fun v9=>ay 1 v9 fun v10=>av h v10 fun v11=>NR v8 (some v11) none fun v12=>c (.func 84) [v12,v5] h <| pz K fun v13 h=>aL v13 (K (.int .i64 2) h) (gW x7 (.int .i64 1) fun v14=>B6 x0 x5 x6 v14 h)) (Uk c n x0 h K)
def Xv:G (Nat→H4):=fun c n=>
 @Nat.rec (fun _=>H4) (fun _ _ _ _ _ _=>false) (fun _ ih x0 x5 x6 x7 h K=>aa9 c n (fun x0 x5 x6 x7 h=>ih x0 x5 x6 x7 h K) x0 x5 x6 x7 h K)
def s68:G H1:=fun c n x0 h K=>
 aY (bI h 6 1 [.str []] [(0,(.str [61,61])),(1,(.str [33,61])),(2,(.str [60,61])),(3,(.str [62,61])),(4,(.str [38,38])),(5,(.str [124,124]))]) fun v1 h=>iq v1 fun v2=>Xv c n n x0 v1 v2 (.int .i64 0) h K
def Pf:G (F3→H3):=fun c n B14 x0 x1 x5 h K=>
 iq x0 fun v4=>mQ x5 v4 fun v5=>aL v5 (eX h 5 x0 x5 fun v6=>bO h 5 v6 fun v7=>eX h 5 x1 x5 fun v8=>bO h 5 v8 fun v9=>c (.func 48) [v7,v9] h <| pz K fun v10 h=>mO v10 fun v11=>aL v11 (K (.bool false) h) (gW x5 (.int .i64 1) fun v12=>B14 x0 x1 v12 h)) (K (.bool true) h)
def Iu:G (Nat→H3):=fun c n=>
 @Nat.rec (fun _=>H3) (fun _ _ _ _ _=>false) (fun _ ih x0 x1 x5 h K=>Pf c n (fun x0 x1 x5 h=>ih x0 x1 x5 h K) x0 x1 x5 h K)
def Uw:G H2:=fun c n x0 x1 h K=>
 Iu c n n x0 x1 (.int .i64 0) h K
def s69:G H2:=fun c n x0 x1 h K=>
 iq x0 fun v1=>iq x1 fun v2=>jM v1 v2 fun v3=>aL v3 (K (.bool false) h) (Uw c n x0 x1 h K)
def s72:G H1:=fun c n x0 h K=>
 c (.func 32) [x0,(.str [40])] h <| pz K fun v1 h=>aY (bI h 1 1 [.str []] [(0,(.str [41]))]) fun v2 h=>c (.func 73) [x0,v2] h <| pz K fun v3 h=>c (.func 35) [x0,(.str [41])] h <| pz K fun v4 h=>K v3 h
def JE:G H3:=fun c n x0 x1 x7 h K=>
 bS h [.int .i64 0, .str [], .str [], .ah, .ah, .ah, .ah, .ah, .int .i64 0, .str [], .int .i64 0, .bool false, .int .i64 0, .str [], .ah, .ah, .str [], .str [], .ah] 19 fun v2 h=>aK h 19 v2 x7 fun h=>bO h 19 v2 fun v4=>aY (bI h 1 19 [.int .i64 0, .str [], .str [], .ah, .ah, .ah, .ah, .ah, .int .i64 0, .str [], .int .i64 0, .bool false, .int .i64 0, .str [], .ah, .ah, .str [], .str [], .ah] [(0,v4)]) fun v5 h=>bO h 19 v2 <| dR v4 <| c (.func 38) [x0,x1] h <| pz (uL [v5] K) fun v6 h=>bO h 19 v2 <| dR v4 <| oq h 19 328 v5 v6 fun v7 h=>K v7 h
def s73:G H2:=fun c n x0 x1 h K=>
 c (.func 57) [x0] h <| pz K fun v1 h=>JE c n x0 x1 v1 h K
def Oj:G H3:=fun c n x0 x2 x3 h K=>
 c (.func 35) [x0,(.str [41])] h <| pz K fun v25 h=>bO h 19 x3 fun v26=>aK h 19 x2 v26 fun h=>gU (fQ h [(x2,some (true,19))]) h K
def IZ:G (F4→H4):=fun c n B14 x0 x2 x3 x4 h K=>
 aL x4 (ay 7 x3 fun v16=>av h v16 fun v17=>aY (bI h 2 1 [.str []] [(0,(.str [111,114])),(1,(.str [41]))]) fun v18 h=>av h v16 <| dR v17 <| c (.func 73) [x0,v18] h <| pz (uL [v18] K) fun v19 h=>av h v16 <| dR v17 <| aY (bI h 1 1 [.ah] [(0,v19)]) fun v20 h=>av h v16 <| dR v17 <| oq h 1 24 v17 v20 fun v21 h=>ay 7 x3 fun v22=>bG h v22 v21 fun h=>c (.func 19) [x0,(.str [111,114])] h <| pz K fun v24 h=>B14 x0 x2 x3 v24 h) (Oj c n x0 x2 x3 h K)
def BH:G (Nat→H4):=fun c n=>
 @Nat.rec (fun _=>H4) (fun _ _ _ _ _ _=>false) (fun _ ih x0 x2 x3 x4 h K=>IZ c n (fun x0 x2 x3 x4 h=>ih x0 x2 x3 x4 h K) x0 x2 x3 x4 h K)
def s74:G H1:=fun c n x0 h K=>
 bS h [.int .i64 0, .str [], .str [], .ah, .ah, .ah, .ah, .ah, .int .i64 0, .str [], .int .i64 0, .bool false, .int .i64 0, .str [], .ah, .ah, .str [], .str [], .ah] 19 fun v1 h=>dX [.int .i64 0, .str [], .str [], .ah, .ah, .ah, .ah, .ah, .int .i64 0, .str [], .int .i64 0, .bool false, .int .i64 0, .str [], .ah, .ah, .str [], .str [], .ah] [(0,1,(.int .i64 5))] fun v2=>bS h [.int .i64 0, .str [], .str [], .ah, .ah, .ah, .ah, .ah, .int .i64 0, .str [], .int .i64 0, .bool false, .int .i64 0, .str [], .ah, .ah, .str [], .str [], .ah] 19 fun v3 h=>aK h 19 v3 v2 fun h=>c (.func 32) [x0,(.str [40])] h <| pz K fun v5 h=>ay 7 v3 fun v6=>av h v6 fun v7=>aY (bI h 2 1 [.str []] [(0,(.str [111,114])),(1,(.str [41]))]) fun v8 h=>av h v6 <| dR v7 <| c (.func 73) [x0,v8] h <| pz (uL [v8] K) fun v9 h=>av h v6 <| dR v7 <| aY (bI h 1 1 [.ah] [(0,v9)]) fun v10 h=>av h v6 <| dR v7 <| oq h 1 24 v7 v10 fun v11 h=>ay 7 v3 fun v12=>bG h v12 v11 fun h=>aY (bI h 1 1 [.str []] [(0,(.str [111,114]))]) fun v14 h=>c (.func 22) [x0,v14] h <| pz K fun v15 h=>BH c n n x0 v1 v3 (.bool true) h K
def Fg:G H4:=fun c n x0 x2 x3 x30 h K=>
 ay 5 x3 fun v21=>bG h v21 x30 fun h=>c (.func 35) [x0,(.str [41])] h <| pz K fun v23 h=>bO h 19 x3 fun v24=>aK h 19 x2 v24 fun h=>gU (fQ h [(x2,some (true,19))]) h K
def FJ:G H4:=fun c n x0 x2 x3 x21 h K=>
 ay 8 x3 fun v14=>aK h 8 v14 x21 fun h=>c (.func 35) [x0,(.str [41])] h <| pz K fun v16 h=>aY (bI h 1 1 [.str []] [(0,(.str [111,118,101,114]))]) fun v17 h=>c (.func 22) [x0,v17] h <| pz K fun v18 h=>aY (bI h 1 1 [.str []] [(0,(.str [41]))]) fun v19 h=>c (.func 73) [x0,v19] h <| pz K fun v20 h=>Fg c n x0 x2 x3 v20 h K
def IK:G H3:=fun c n x0 x2 x3 h K=>
 c (.func 32) [x0,(.str [40])] h <| pz K fun v12 h=>c (.func 59) [x0] h <| pz K fun v13 h=>FJ c n x0 x2 x3 v13 h K
def Eh:G H4:=fun c n x0 x2 x3 x16 h K=>
 ay 16 x3 fun v27=>bG h v27 x16 fun h=>IK c n x0 x2 x3 h K
def JM:G H3:=fun c n x0 x2 x7 h K=>
 dX [.int .i64 0, .str [], .str [], .ah, .ah, .ah, .ah, .ah, .int .i64 0, .str [], .int .i64 0, .bool false, .int .i64 0, .str [], .ah, .ah, .str [], .str [], .ah] [(0,1,(.int .i64 7)),(1,1,x7)] fun v4=>bS h [.int .i64 0, .str [], .str [], .ah, .ah, .ah, .ah, .ah, .int .i64 0, .str [], .int .i64 0, .bool false, .int .i64 0, .str [], .ah, .ah, .str [], .str [], .ah] 19 fun v5 h=>aK h 19 v5 v4 fun h=>aY (bI h 1 1 [.str []] [(0,(.str [58]))]) fun v7 h=>c (.func 22) [x0,v7] h <| pz K fun v8 h=>c (.func 19) [x0,(.str [108,105,115,116])] h <| pz K fun v9 h=>aL v9 (ay 16 v5 fun v10=>bG h v10 (.str [108,105,115,116]) fun h=>IK c n x0 x2 v5 h K) (c (.func 31) [x0] h <| pz K fun v26 h=>Eh c n x0 x2 v5 v26 h K)
def s75:G H1:=fun c n x0 h K=>
 bS h [.int .i64 0, .str [], .str [], .ah, .ah, .ah, .ah, .ah, .int .i64 0, .str [], .int .i64 0, .bool false, .int .i64 0, .str [], .ah, .ah, .str [], .str [], .ah] 19 fun v1 h=>c (.func 32) [x0,(.str [40])] h <| pz K fun v2 h=>c (.func 42) [x0] h <| pz K fun v3 h=>JM c n x0 v1 v3 h K
def Jt:G H3:=fun c n x1 x2 x5 h K=>
 dX [.int .i64 0, .str [], .str [], .ah, .ah, .ah, .ah, .ah, .int .i64 0, .str [], .int .i64 0, .bool false, .int .i64 0, .str [], .ah, .ah, .str [], .str [], .ah] [(0,1,(.int .i64 9)),(17,1,x5)] fun v5=>bS h [.int .i64 0, .str [], .str [], .ah, .ah, .ah, .ah, .ah, .int .i64 0, .str [], .int .i64 0, .bool false, .int .i64 0, .str [], .ah, .ah, .str [], .str [], .ah] 19 fun v6 h=>aK h 19 v6 v5 fun h=>av h x1 fun v8=>c (.func 32) [v8,(.str [40])] h <| pz K fun v9 h=>av h x1 fun v10=>bQ (some (.fn (.func 90) [] [x1,v6])) fun v11=>c (.func 40) [v10,(.str [41]),v11] h <| pz K fun v12 h=>bO h 19 v6 fun v13=>aK h 19 x2 v13 fun h=>gU (fQ h [(x2,some (true,19))]) h K
def s76:G H1:=fun c n x0 h K=>
 Eu h x0 fun v1 h=>bS h [.int .i64 0, .str [], .str [], .ah, .ah, .ah, .ah, .ah, .int .i64 0, .str [], .int .i64 0, .bool false, .int .i64 0, .str [], .ah, .ah, .str [], .str [], .ah] 19 fun v2 h=>av h v1 fun v3=>c (.func 31) [v3] h <| pz K fun v4 h=>Jt c n v1 v2 v4 h K
def Ed:G H4:=fun c n x1 x2 x3 x14 h K=>
 ay 2 x3 fun v17=>bG h v17 x14 fun h=>av h x1 fun v19=>c (.func 32) [v19,(.str [40])] h <| pz K fun v20 h=>av h x1 fun v21=>bQ (some (.fn (.func 91) [] [x1,x3])) fun v22=>c (.func 40) [v21,(.str [41]),v22] h <| pz K fun v23 h=>bO h 19 x3 fun v24=>aK h 19 x2 v24 fun h=>gU (fQ h [(x2,some (true,19))]) h K
def Jc:G H3:=fun c n x1 x2 x3 h K=>
 av h x1 fun v15=>c (.func 31) [v15] h <| pz K fun v16 h=>Ed c n x1 x2 x3 v16 h K
def EZ:G H4:=fun c n x1 x2 x3 x8 h K=>
 ay 1 x3 fun v10=>bG h v10 x8 fun h=>av h x1 fun v12=>aY (bI h 1 1 [.str []] [(0,(.str [58]))]) fun v13 h=>c (.func 22) [v12,v13] h <| pz K fun v14 h=>Jc c n x1 x2 x3 h K
def s77:G H1:=fun c n x0 h K=>
 Eu h x0 fun v1 h=>bS h [.int .i64 0, .str [], .str [], .ah, .ah, .ah, .ah, .ah, .int .i64 0, .str [], .int .i64 0, .bool false, .int .i64 0, .str [], .ah, .ah, .str [], .str [], .ah] 19 fun v2 h=>dX [.int .i64 0, .str [], .str [], .ah, .ah, .ah, .ah, .ah, .int .i64 0, .str [], .int .i64 0, .bool false, .int .i64 0, .str [], .ah, .ah, .str [], .str [], .ah] [(0,1,(.int .i64 1))] fun v3=>bS h [.int .i64 0, .str [], .str [], .ah, .ah, .ah, .ah, .ah, .int .i64 0, .str [], .int .i64 0, .bool false, .int .i64 0, .str [], .ah, .ah, .str [], .str [], .ah] 19 fun v4 h=>aK h 19 v4 v3 fun h=>av h v1 fun v6=>c (.func 55) [v6,(.int .i64 1)] h <| pz K fun v7 h=>aL v7 (av h v1 fun v8=>c (.func 42) [v8] h <| pz K fun v9 h=>EZ c n v1 v2 v4 v9 h K) (Jc c n v1 v2 v4 h K)
def JO:G H3:=fun c n x1 x2 x10 h K=>
 ay 1 x2 fun v11=>aK h 8 v11 x10 fun h=>av h x1 fun v13=>bO h 9 x2 fun v14=>aY (bI h 1 9 [.str [], .int .i64 0, .str [], .int .i64 0, .bool false, .int .i64 0, .str [], .ah, .ah] [(0,v14)]) fun v15 h=>oq h 9 128 v13 v15 fun v16 h=>bG h x1 v16 fun h=>K (.tup []) h
def K5:G H3:=fun c n x0 x1 x4 h K=>
 dX [.str [], .int .i64 0, .str [], .int .i64 0, .bool false, .int .i64 0, .str [], .ah, .ah] [(0,1,x4)] fun v3=>bS h [.str [], .int .i64 0, .str [], .int .i64 0, .bool false, .int .i64 0, .str [], .ah, .ah] 9 fun v4 h=>aK h 9 v4 v3 fun h=>av h x0 fun v6=>aY (bI h 1 1 [.str []] [(0,(.str [61]))]) fun v7 h=>c (.func 22) [v6,v7] h <| pz K fun v8 h=>av h x0 fun v9=>c (.func 59) [v9] h <| pz K fun v10 h=>JO c n x1 v4 v10 h K
def s78:G H2:=fun c n x0 x1 h K=>
 av h x0 fun v1=>c (.func 31) [v1] h <| pz K fun v2 h=>K5 c n x0 x1 v2 h K
def Jk:G H2:=fun c n x4 x13 h K=>
 aK h 9 x4 x13 fun h=>gU (fQ h [(x4,some (true,9))]) h K
set_option maxRecDepth 100000 in
def Fj:G (F4→H6):=fun c n B13 x0 x1 x4 x5 x19 x21 h K=>
 bS h [.int .i64 0, .str [], .int .i64 0, .int .i64 0] 4 fun v11 h=>aK h 4 v11 x21 fun h=>bK x0 fun v13=>ay 4 v13 fun v14=>av h v14 fun v15=>bQ (tu h (.leaf .int) false .kH v15 x1) fun v16=>ay 1 v11 fun v17=>av h v17 fun v18=>bQ (tu h (.leaf .str) true (.int .i64 0) v16 v18) fun v19=>kI 0 v19 fun v20=>kI 1 v19 fun v21=>mO v21 fun v22=>gK v22 false (ay 0 v11) fun v23=>gK v22 false (av h v23) fun v24=>gK v22 false (jM v24 (.int .i64 4)) fun v25=>cO v22 (.bool true) v25 fun v26=>aL v26 (bO h 9 x5 fun v27=>aK h 9 x4 v27 fun h=>gU (fQ h [(x4,some (true,9))]) h K) (bK x0 fun v29=>ay 1 v29 fun v30=>av h v30 fun v31=>gW v31 (.int .i64 1) fun v32=>bK x0 fun v33=>ay 1 v33 fun v34=>bG h v34 v32 fun h=>dX [.int .i64 0, .str [], .int .i64 0, .bool false, .int .i64 0, .str [], .ah, .ah] [(0,1,v20)] fun v36=>bO h 9 x5 fun v37=>gW x1 (.int .i64 1) fun v38=>c (.func 79) [x0,v38] h <| pz K fun v39 h=>bO h 9 x5 <| dR v37 <| aY (bI h 2 9 [.int .i64 0, .str [], .int .i64 0, .bool false, .int .i64 0, .str [], .ah, .ah, .int .i64 0] [(0,v37),(1,v39)]) fun v40 h=>bO h 9 x5 <| dR v37 <| c (.func 93) [x19,v36,v40] h <| pz (uL [v40] K) fun v41 h=>aK h 9 x5 v41 fun h=>eO x1 (.int .i64 2) fun v43=>aL v43 (bO h 9 x5 fun v44=>aK h 9 x4 v44 fun h=>gU (fQ h [(x4,some (true,9))]) h K) (B13 x0 x1 x4 x5 h))
def Ea:G (F4→H5):=fun c n B13 x0 x1 x4 x5 x19 h K=>
 c (.func 51) [x0,(.int .i64 0)] h <| pz K fun v10 h=>Fj c n B13 x0 x1 x4 x5 x19 v10 h K
def OQ:G (F4→H4):=fun c n B13 x0 x1 x4 x5 h K=>
 c (.func 50) [x0] h <| pz K fun v9 h=>Ea c n B13 x0 x1 x4 x5 v9 h K
def FI:G (Nat→H4):=fun c n=>
 @Nat.rec (fun _=>H4) (fun _ _ _ _ _ _=>false) (fun _ ih x0 x1 x4 x5 h K=>OQ c n (fun x0 x1 x4 x5 h=>ih x0 x1 x4 x5 h K) x0 x1 x4 x5 h K)
def EF:G H4:=fun c n x0 x1 x4 x17 h K=>
 bS h [.int .i64 0, .str [], .int .i64 0, .bool false, .int .i64 0, .str [], .ah, .ah, .int .i64 0] 9 fun v7 h=>aK h 9 v7 x17 fun h=>FI c n n x0 x1 x4 v7 h K
def UG:G H3:=fun c n x0 x1 x4 h K=>
 gW x1 (.int .i64 1) fun v5=>c (.func 79) [x0,v5] h <| pz K fun v6 h=>EF c n x0 x1 x4 v6 h K
def s79:G H2:=fun c n x0 x1 h K=>
 bS h [.int .i64 0, .str [], .int .i64 0, .bool false, .int .i64 0, .str [], .ah, .ah, .int .i64 0] 9 fun v1 h=>eO x1 (.int .i64 5) fun v2=>aL v2 (c (.func 92) [x0] h <| pz K fun v3 h=>Jk c n v1 v3 h K) (UG c n x0 x1 v1 h K)
def s80:G H2:=fun c n x0 x1 h K=>
 c (.func 94) [x0,x1] h <| pz K fun v1 h=>K v1 h
def Dr:G H3:=fun c n x0 x5 x7 h K=>
 cO x5 (.bool true) x7 fun v4=>gK v4 false (bQ (some x0)) fun v5=>gK v4 false (eO v5 (.int .u8 95)) fun v6=>cO v4 (.bool true) v6 fun v7=>K v7 h
def CK:G H2:=fun c n x0 x4 h K=>
 gK x4 false (bQ (some x0)) fun v2=>gP x4 false (fun k=>c (.func 65) [v2] h (pz K k)) h fun v3 h=>Dr c n x0 x4 v3 h K
def s81:G H1:=fun c n x0 h K=>
 c (.func 63) [x0] h <| pz K fun v1 h=>CK c n x0 v1 h K
def s82:G H1:=fun c n x0 h K=>
 bK x0 fun v1=>ay 1 v1 fun v2=>av h v2 fun v3=>bQ (J3 v3) fun v4=>bK x0 fun v5=>ay 1 v5 fun v6=>av h v6 fun v7=>iq v7 fun v8=>aY (Hy h 5 v4 v8) fun v9 h=>K v9 h
def s83:G H2:=fun c n x0 x1 h K=>
 c (.func 95) [x0] h <| pz K fun v1 h=>bK x0 fun v2=>ay 1 v2 fun v3=>av h v3 fun v4=>aY (bI h 1 1 [.int .u8 0] [(0,x1)]) fun v5 h=>aY (aad h 5 v4 v5) fun v6 h=>bK x0 fun v7=>ay 1 v7 fun v8=>bG h v8 v6 fun h=>K .iZ h
def s84:G H2:=fun c n x0 x1 h K=>
 c (.func 96) [x0,x1] h <| pz K fun v1 h=>K v1 h
def Cr:G H4:=fun c n x0 x1 x4 x6 h K=>
 cO x4 x6 (.bool false) fun v5=>aL v5 (ay 18 x1 fun v6=>av h v6 fun v7=>av h x0 fun v8=>c (.func 42) [v8] h <| pz K fun v9 h=>av h v6 <| dR v7 <| dX [.str [], .int .i64 0, .str [], .int .i64 0, .bool false, .int .i64 0, .str [], .ah, .ah] [(0,1,v9)] fun v10=>aY (bI h 1 9 [.str [], .int .i64 0, .str [], .int .i64 0, .bool false, .int .i64 0, .str [], .ah, .ah] [(0,v10)]) fun v11 h=>av h v6 <| dR v7 <| av h x0 <| dR v8 <| oq h 9 128 v7 v11 fun v12 h=>ay 18 x1 fun v13=>bG h v13 v12 fun h=>av h x0 fun v15=>aY (bI h 1 1 [.str []] [(0,(.str [63]))]) fun v16 h=>c (.func 22) [v15,v16] h <| pz K fun v17 h=>K (.tup []) h) (ay 18 x1 fun v18=>av h v18 fun v19=>av h x0 fun v20=>c (.func 59) [v20] h <| pz K fun v21 h=>av h v18 <| dR v19 <| dX [.str [], .int .i64 0, .str [], .int .i64 0, .bool false, .int .i64 0, .str [], .ah, .ah] [(1,8,v21)] fun v22=>aY (bI h 1 9 [.str [], .int .i64 0, .str [], .int .i64 0, .bool false, .int .i64 0, .str [], .ah, .ah] [(0,v22)]) fun v23 h=>av h v18 <| dR v19 <| av h x0 <| dR v20 <| oq h 9 128 v19 v23 fun v24 h=>ay 18 x1 fun v25=>bG h v25 v24 fun h=>K (.tup []) h)
def LD:G H3:=fun c n x0 x1 x3 h K=>
 gK x3 true (av h x0) fun v3=>gP x3 true (fun k=>c (.func 30) [v3,(.int .i64 1),(.str [63])] h (pz K k)) h fun v4 h=>Cr c n x0 x1 x3 v4 h K
def s90:G H2:=fun c n x0 x1 h K=>
 av h x0 fun v1=>c (.func 55) [v1,(.int .i64 1)] h <| pz K fun v2 h=>LD c n x0 x1 v2 h K
set_option maxRecDepth 100000 in
def DZ:G H4:=fun c n x0 x1 x5 x7 h K=>
 cO x5 x7 (.bool false) fun v5=>aL v5 (av h x0 fun v6=>c (.func 42) [v6] h <| pz K fun v7 h=>av h x0 fun v8=>aY (bI h 1 1 [.str []] [(0,(.str [58]))]) fun v9 h=>c (.func 22) [v8,v9] h <| pz K fun v10 h=>ay 3 x1 fun v11=>av h v11 fun v12=>av h x0 fun v13=>c (.func 31) [v13] h <| pz K fun v14 h=>av h v11 <| dR v12 <| dX [.str [], .str []] [(0,1,v7),(1,1,v14)] fun v15=>aY (bI h 1 2 [.str [], .str []] [(0,v15)]) fun v16 h=>av h v11 <| dR v12 <| av h x0 <| dR v13 <| oq h 2 32 v12 v16 fun v17 h=>ay 3 x1 fun v18=>bG h v18 v17 fun h=>K (.tup []) h) (ay 4 x1 fun v20=>av h v20 fun v21=>av h x0 fun v22=>iq v21 fun v23=>aY (bI h 1 8 [.int .i64 0, .str [], .int .i64 0, .bool false, .int .i64 0, .str [], .ah, .ah] [(0,(.agg [.int .i64 0, .str [], .int .i64 0, .bool false, .int .i64 0, .str [], .ah, .ah]))]) fun v24 h=>av h v20 <| dR v21 <| av h x0 <| dR v22 <| iq v21 <| dR v23 <| c (.func 59) [v22] h <| pz (uL [v24] K) fun v25 h=>av h v20 <| dR v21 <| iq v21 <| dR v23 <| oq h 8 112 v21 v24 fun v26 h=>eX h 8 v26 v23 fun v27=>ay 4 x1 fun v28=>aY (bif rW v27 v28 then unit (cZ h 8 v27 v25) else none) fun _ h=>bG h v28 v26 fun h=>eX h 8 v26 v23 <| dR v27 <| K (.tup []) h)
def Kz:G H3:=fun c n x0 x1 x4 h K=>
 gK x4 true (av h x0) fun v3=>gP x4 true (fun k=>c (.func 30) [v3,(.int .i64 1),(.str [58])] h (pz K k)) h fun v4 h=>DZ c n x0 x1 x4 v4 h K
def s91:G H2:=fun c n x0 x1 h K=>
 av h x0 fun v1=>c (.func 55) [v1,(.int .i64 1)] h <| pz K fun v2 h=>Kz c n x0 x1 v2 h K
def FV:G H2:=fun c n x2 x19 h K=>
 aK h 9 x2 x19 fun h=>gU (fQ h [(x2,some (true,9))]) h K
def Ep:G H2:=fun c n x2 x37 h K=>
 aK h 9 x2 x37 fun h=>gU (fQ h [(x2,some (true,9))]) h K
def Ah:G H5:=fun c n x0 x2 x3 x4 x24 h K=>
 bS h [.int .i64 0, .str [], .int .i64 0, .bool false, .int .i64 0, .str [], .ah, .ah, .int .i64 0] 9 fun v14 h=>aK h 9 v14 x24 fun h=>bK x0 fun v16=>ay 3 v16 fun v17=>av h v17 fun v18=>J9 v18 (.int .i64 1) fun v19=>bK x0 fun v20=>ay 3 v20 fun v21=>bG h v21 v19 fun h=>dX [.int .i64 0, .str [], .int .i64 0, .bool false, .int .i64 0, .str [], .ah, .ah] [(0,1,x4)] fun v23=>bO h 9 v14 fun v24=>aY (bI h 1 9 [.int .i64 0, .str [], .int .i64 0, .bool false, .int .i64 0, .str [], .ah, .ah, .int .i64 0] [(0,v24)]) fun v25 h=>c (.func 93) [x3,v23,v25] h <| pz K fun v26 h=>Ep c n x2 v26 h K
def wB:G H6:=fun c n x0 x2 x3 x4 x13 x15 h K=>
 gK x13 true (mO x15) fun v8=>cO x13 v8 (.bool false) fun v9=>aL v9 (c (.func 102) [x0] h <| pz K fun v10 h=>FV c n x2 v10 h K) (c (.func 54) [x0,x3] h <| pz K fun v12 h=>c (.func 92) [x0] h <| pz K fun v13 h=>Ah c n x0 x2 x3 x4 v13 h K)
def wu:G H5:=fun c n x0 x2 x3 x4 x11 h K=>
 mO x11 fun v5=>gK v5 true (bQ (some x0)) fun v6=>gP v5 true (fun k=>c (.func 19) [v6,(.str [33])] h (pz K k)) h fun v7 h=>wB c n x0 x2 x3 x4 v5 v7 h K
def Jq:G H4:=fun c n x0 x2 x3 x4 h K=>
 c (.func 19) [x0,(.str [45])] h <| pz K fun v4 h=>wu c n x0 x2 x3 x4 v4 h K
def s92:G H1:=fun c n x0 h K=>
 bS h [.int .i64 0, .str [], .int .i64 0, .bool false, .int .i64 0, .str [], .ah, .ah, .int .i64 0] 9 fun v1 h=>c (.func 50) [x0] h <| pz K fun v2 h=>c (.func 30) [x0,(.int .i64 0),(.str [33])] h <| pz K fun v3 h=>aL v3 (Jq c n x0 v1 v2 (.int .i64 7) h K) (Jq c n x0 v1 v2 (.int .i64 6) h K)
def OB:G H2:=fun c n x6 x7 h K=>
 bO h 9 x7 fun v36=>aK h 9 x6 v36 fun h=>gU (fQ h [(x6,some (true,9))]) h K
def Ub:G H3:=fun c n x0 x6 x7 h K=>
 ay 8 x7 fun v32=>av h v32 fun v33=>LM v33 (.int .i64 30) fun v34=>aL v34 (c (.func 49) [x0] h <| pz K fun v35 h=>OB c n x6 x7 h K) (OB c n x6 x7 h K)
def PY:G (F6→H6):=fun c n B8 x0 x6 x7 x12 x13 x14 h K=>
 mQ x14 x13 fun v8=>aL v8 (eX h 9 x12 x14 fun v9=>bO h 9 v9 fun v10=>bS h [.int .i64 0, .str [], .int .i64 0, .bool false, .int .i64 0, .str [], .ah, .ah, .int .i64 0] 9 fun v11 h=>aK h 9 v11 v10 fun h=>ay 0 x7 fun v13=>ay 7 v13 fun v14=>av h v14 fun v15=>ay 0 v11 fun v16=>bO h 8 v16 fun v17=>aY (bI h 1 8 [.int .i64 0, .str [], .int .i64 0, .bool false, .int .i64 0, .str [], .ah, .ah] [(0,v17)]) fun v18 h=>oq h 8 112 v15 v18 fun v19 h=>ay 0 x7 fun v20=>ay 7 v20 fun v21=>bG h v21 v19 fun h=>ay 8 x7 fun v23=>av h v23 fun v24=>ay 8 v11 fun v25=>av h v25 fun v26=>gW v26 (.int .i64 1) fun v27=>bQ (mmV true [v24,v27]) fun v28=>ay 8 x7 fun v29=>bG h v29 v28 fun h=>gW x14 (.int .i64 1) fun v31=>B8 x0 x6 x7 x12 x13 v31 h) (Ub c n x0 x6 x7 h K)
def Sv:G (Nat→H6):=fun c n=>
 @Nat.rec (fun _=>H6) (fun _ _ _ _ _ _ _ _=>false) (fun _ ih x0 x6 x7 x12 x13 x14 h K=>PY c n (fun x0 x6 x7 x12 x13 x14 h=>ih x0 x6 x7 x12 x13 x14 h K) x0 x6 x7 x12 x13 x14 h K)
def s93:G H3:=fun c n x0 x1 x2 h K=>
 aY (nU h (none) 8 x1) fun v1 h=>bS h [.int .i64 0, .str [], .int .i64 0, .bool false, .int .i64 0, .str [], .ah, .ah, .int .i64 0] 9 fun v2 h=>bO h 8 v1 fun v3=>dX [.int .i64 0, .str [], .int .i64 0, .bool false, .int .i64 0, .str [], .ah, .ah, .int .i64 0] [(0,8,v3),(8,1,(.int .i64 1))] fun v4=>bS h [.int .i64 0, .str [], .int .i64 0, .bool false, .int .i64 0, .str [], .ah, .ah, .int .i64 0] 9 fun v5 h=>aK h 9 v5 v4 fun h=>iq x2 fun v7=>Sv c n n x0 v2 v5 x2 v7 (.int .i64 0) h K
def Iy:G H2:=fun c n x7 x10 h K=>
 bQ (VL h 143 2 [] x10) fun v7=>bK x7 fun v8=>ay 0 v8 fun v9=>bG h v9 v7 fun h=>K (.tup []) h
def s95:G H1:=fun c n x0 h K=>
 bK x0 fun v1=>ay 0 v1 fun v2=>av h v2 fun v3=>bQ (Ey h false .ptr v3 .nilPtr) fun v4=>aL v4 (bQ (Ul h x0) fun v5=>c (.func 103) [v5] h <| pz K fun v6 h=>Iy c n x0 v6 h K) (bK x0 fun v11=>ay 0 v11 fun v12=>av h v12 fun v13=>bQ (Ey h true .ptr v13 x0) fun v14=>aL v14 (false) (K (.tup []) h))
def s96:G H2:=fun c n x0 x1 h K=>
 oN x0 fun v1=>oN x1 fun v2=>Gq v1 v2 fun v3=>gK v3 true (bQ (some x0)) fun v4=>gK v3 true (bQ (some x1)) fun v5=>gK v3 true (oN v5) fun v6=>gK v3 true (NR v4 none (some v6)) fun v7=>gK v3 true (bQ (some x1)) fun v8=>gK v3 true (eO v7 v8) fun v9=>cO v3 v9 (.bool false) fun v10=>K v10 h
def xK:G (F3→H5):=fun c n B5 x0 x2 x3 x4 x10 h K=>
 mO x10 fun v7=>aL v7 (bO h 9 x3 fun v8=>aK h 9 x2 v8 fun h=>gU (fQ h [(x2,some (true,9))]) h K) (bO h 9 x3 fun v10=>aY (bI h 1 9 [.int .i64 0, .str [], .int .i64 0, .bool false, .int .i64 0, .str [], .ah, .ah, .int .i64 0] [(0,v10)]) fun v11 h=>bO h 9 x3 <| dR v10 <| c (.func 31) [x0] h <| pz (uL [v11] K) fun v12 h=>bO h 9 x3 <| dR v10 <| dX [.int .i64 0, .str [], .int .i64 0, .bool false, .int .i64 0, .str [], .ah, .ah] [(0,1,(.int .i64 4)),(1,1,v12)] fun v13=>c (.func 93) [x4,v13,v11] h <| pz (uL [v11] K) fun v14 h=>aK h 9 x3 v14 fun h=>B5 x0 x2 x3 h)
def Og:G (F3→H3):=fun c n B5 x0 x2 x3 h K=>
 c (.func 50) [x0] h <| pz K fun v5 h=>c (.func 19) [x0,(.str [46])] h <| pz K fun v6 h=>xK c n B5 x0 x2 x3 v5 v6 h K
def FQ:G (Nat→H3):=fun c n=>
 @Nat.rec (fun _=>H3) (fun _ _ _ _ _=>false) (fun _ ih x0 x2 x3 h K=>Og c n (fun x0 x2 x3 h=>ih x0 x2 x3 h K) x0 x2 x3 h K)
def FY:G H3:=fun c n x0 x2 x6 h K=>
 bS h [.int .i64 0, .str [], .int .i64 0, .bool false, .int .i64 0, .str [], .ah, .ah, .int .i64 0] 9 fun v3 h=>aK h 9 v3 x6 fun h=>FQ c n n x0 x2 v3 h K
def acA:G H1:=fun c n x0 h K=>
 bS h [.int .i64 0, .str [], .int .i64 0, .bool false, .int .i64 0, .str [], .ah, .ah, .int .i64 0] 9 fun v1 h=>c (.func 105) [x0] h <| pz K fun v2 h=>FY c n x0 v1 v2 h K
def BG:G H2:=fun c n x2 x39 h K=>
 aK h 9 x2 x39 fun h=>gU (fQ h [(x2,some (true,9))]) h K
def wZ:G H3:=fun c n x1 x2 x23 h K=>
 kI 0 x23 fun v15=>kI 1 x23 fun v16=>av h x1 fun v17=>bQ (Ey h false .ifn v16 .iZ) fun v18=>c (.func 29) [v17,v18] h <| pz K fun v19 h=>av h x1 fun v20=>bK v20 fun v21=>ay 1 v21 fun v22=>av h v22 fun v23=>gW v23 (.int .i64 1) fun v24=>bK v20 fun v25=>ay 1 v25 fun v26=>bG h v26 v24 fun h=>dX [.int .i64 0, .bool false, .int .i64 0, .str [], .ah] [(0,1,(.int .i64 2)),(2,1,v15)] fun v28=>c (.func 107) [v28] h <| pz K fun v29 h=>BG c n x2 v29 h K
def Bn:G H2:=fun c n x2 x47 h K=>
 aK h 9 x2 x47 fun h=>gU (fQ h [(x2,some (true,9))]) h K
def Cb:G H2:=fun c n x2 x45 h K=>
 dX [.int .i64 0, .bool false, .int .i64 0, .str [], .ah] [(0,1,(.int .i64 3)),(3,1,x45)] fun v36=>c (.func 107) [v36] h <| pz K fun v37 h=>Bn c n x2 v37 h K
def wX:G H2:=fun c n x2 x57 h K=>
 aK h 9 x2 x57 fun h=>gU (fQ h [(x2,some (true,9))]) h K
def Bz:G H2:=fun c n x2 x62 h K=>
 aK h 9 x2 x62 fun h=>gU (fQ h [(x2,some (true,9))]) h K
def BK:G H2:=fun c n x2 x68 h K=>
 dX [.int .i64 0, .str [], .int .i64 0, .bool false, .int .i64 0, .str [], .ah, .ah] [(0,1,(.int .i64 2)),(1,1,x68)] fun v57=>dX [.int .i64 0, .str [], .int .i64 0, .bool false, .int .i64 0, .str [], .ah, .ah, .int .i64 0] [(0,8,v57),(8,1,(.int .i64 1))] fun v58=>aK h 9 x2 v58 fun h=>gU (fQ h [(x2,some (true,9))]) h K
def Bw:G H3:=fun c n x1 x2 x77 h K=>
 bS h [.int .i64 0, .str [], .int .i64 0, .bool false, .int .i64 0, .str [], .ah, .ah, .int .i64 0] 9 fun v66 h=>aK h 9 v66 x77 fun h=>av h x1 fun v68=>c (.func 35) [v68,(.str [41])] h <| pz K fun v69 h=>bO h 9 v66 fun v70=>aK h 9 x2 v70 fun h=>gU (fQ h [(x2,some (true,9))]) h K
def BL:G H2:=fun c n x2 x92 h K=>
 aK h 9 x2 x92 fun h=>gU (fQ h [(x2,some (true,9))]) h K
def BP:G H2:=fun c n x2 x106 h K=>
 aK h 9 x2 x106 fun h=>gU (fQ h [(x2,some (true,9))]) h K
def Cc:G H4:=fun c n x1 x2 x3 x99 h K=>
 bS h [.int .i64 0, .str [], .int .i64 0, .bool false, .int .i64 0, .str [], .ah, .ah, .int .i64 0] 9 fun v90 h=>aK h 9 v90 x99 fun h=>av h x1 fun v92=>c (.func 35) [v92,(.str [41])] h <| pz K fun v93 h=>dX [.int .i64 0, .str [], .int .i64 0, .bool false, .int .i64 0, .str [], .ah, .ah] [(0,1,(.int .i64 21))] fun v94=>bO h 9 v90 fun v95=>aY (bI h 1 9 [.int .i64 0, .str [], .int .i64 0, .bool false, .int .i64 0, .str [], .ah, .ah, .int .i64 0] [(0,v95)]) fun v96 h=>c (.func 93) [x3,v94,v96] h <| pz K fun v97 h=>BP c n x2 v97 h K
def BN:G H2:=fun c n x2 x126 h K=>
 aK h 9 x2 x126 fun h=>gU (fQ h [(x2,some (true,9))]) h K
def Ce:G H5:=fun c n x1 x2 x3 x10 x118 h K=>
 bS h [.int .i64 0, .str [], .int .i64 0, .bool false, .int .i64 0, .str [], .ah, .ah, .int .i64 0] 9 fun v112 h=>aK h 9 v112 x118 fun h=>av h x1 fun v114=>c (.func 35) [v114,(.str [41])] h <| pz K fun v115 h=>dX [.int .i64 0, .str [], .int .i64 0, .bool false, .int .i64 0, .str [], .ah, .ah] [(0,1,(.int .i64 22))] fun v116=>bO h 9 x10 fun v117=>bO h 9 v112 fun v118=>aY (bI h 2 9 [.int .i64 0, .str [], .int .i64 0, .bool false, .int .i64 0, .str [], .ah, .ah, .int .i64 0] [(0,v117),(1,v118)]) fun v119 h=>c (.func 93) [x3,v116,v119] h <| pz K fun v120 h=>BN c n x2 v120 h K
def BO:G H4:=fun c n x1 x2 x3 x113 h K=>
 bS h [.int .i64 0, .str [], .int .i64 0, .bool false, .int .i64 0, .str [], .ah, .ah, .int .i64 0] 9 fun v105 h=>aK h 9 v105 x113 fun h=>av h x1 fun v107=>aY (bI h 1 1 [.str []] [(0,(.str [44]))]) fun VE h=>c (.func 22) [v107,VE] h <| pz K fun v109 h=>av h x1 fun v110=>c (.func 79) [v110,(.int .i64 0)] h <| pz K fun v111 h=>Ce c n x1 x2 x3 v105 v111 h K
def yu:G H2:=fun c n x2 x128 h K=>
 dX [.int .i64 0, .str [], .int .i64 0, .bool false, .int .i64 0, .str [], .ah, .ah] [(0,1,(.int .i64 3)),(1,1,x128)] fun v124=>dX [.int .i64 0, .str [], .int .i64 0, .bool false, .int .i64 0, .str [], .ah, .ah, .int .i64 0] [(0,8,v124),(8,1,(.int .i64 1))] fun v125=>aK h 9 x2 v125 fun h=>gU (fQ h [(x2,some (true,9))]) h K
set_option maxRecDepth 100000 in
def Ai:G H5:=fun c n x1 x2 x3 x4 x48 h K=>
 aL x48 (ay 1 x4 fun v41=>av h v41 fun v42=>eO v42 (.str [116,114,117,101]) fun v43=>dX [.int .i64 0, .bool false, .int .i64 0, .str [], .ah] [(0,1,(.int .i64 1)),(1,1,v43)] fun v44=>c (.func 107) [v44] h <| pz K fun v45 h=>wX c n x2 v45 h K) (av h x1 fun v47=>c (.func 19) [v47,(.str [110,117,108,108])] h <| pz K fun v48 h=>aL v48 (dX [.int .i64 0, .bool false, .int .i64 0, .str [], .ah] [] fun v49=>c (.func 107) [v49] h <| pz K fun v50 h=>Bz c n x2 v50 h K) (ay 0 x4 fun v52=>av h v52 fun v53=>eO v53 (.int .i64 1) fun v54=>aL v54 (av h x1 fun v55=>c (.func 42) [v55] h <| pz K fun v56 h=>BK c n x2 v56 h K) (av h x1 fun v60=>c (.func 30) [v60,(.int .i64 0),(.str [40])] h <| pz K fun v61 h=>aL v61 (av h x1 fun v62=>c (.func 32) [v62,(.str [40])] h <| pz K fun v63 h=>av h x1 fun v64=>c (.func 79) [v64,(.int .i64 0)] h <| pz K fun v65 h=>Bw c n x1 x2 v65 h K) (av h x1 fun v72=>c (.func 30) [v72,(.int .i64 0),(.str [91])] h <| pz K fun v73 h=>aL v73 (bS h [.ah] 1 fun v74 h=>av h x1 fun v75=>c (.func 32) [v75,(.str [91])] h <| pz K fun v76 h=>av h x1 fun v77=>bQ (some (.fn (.func 108) [] [v74,x1])) fun v78=>c (.func 40) [v77,(.str [93]),v78] h <| pz K fun v79 h=>dX [.int .i64 0, .str [], .int .i64 0, .bool false, .int .i64 0, .str [], .ah, .ah] [(0,1,(.int .i64 5))] fun v80=>av h v74 fun v81=>c (.func 93) [x3,v80,v81] h <| pz K fun v82 h=>BL c n x2 v82 h K) (av h x1 fun v84=>c (.func 19) [v84,(.str [115,105,122,101])] h <| pz K fun v85 h=>aL v85 (av h x1 fun v86=>c (.func 32) [v86,(.str [40])] h <| pz K fun v87 h=>av h x1 fun v88=>c (.func 79) [v88,(.int .i64 0)] h <| pz K fun v89 h=>Cc c n x1 x2 x3 v89 h K) (av h x1 fun v99=>c (.func 19) [v99,(.str [104,97,115])] h <| pz K fun v100 h=>aL v100 (av h x1 fun v101=>c (.func 32) [v101,(.str [40])] h <| pz K fun Zc h=>av h x1 fun v103=>c (.func 79) [v103,(.int .i64 0)] h <| pz K fun v104 h=>BO c n x1 x2 x3 v104 h K) (av h x1 fun v122=>c (.func 31) [v122] h <| pz K fun v123 h=>yu c n x2 v123 h K)))))))
def acw:G H1:=fun c n x0 h K=>
 Eu h x0 fun v1 h=>bS h [.int .i64 0, .str [], .int .i64 0, .bool false, .int .i64 0, .str [], .ah, .ah, .int .i64 0] 9 fun v2 h=>av h v1 fun v3=>av h v1 fun v4=>bS h [.int .i64 0, .str [], .int .i64 0, .int .i64 0] 4 fun v5 h=>av h v1 <| dR v3 <| av h v1 <| dR v4 <| c (.func 50) [v3] h <| pz (uL [v5] K) fun v6 h=>av h v1 <| dR v4 <| c (.func 51) [v4,(.int .i64 0)] h <| pz (uL [v5] K) fun v7 h=>aK h 4 v5 v7 fun h=>ay 0 v5 fun v9=>av h v9 fun v10=>eO v10 (.int .i64 2) fun v11=>aL v11 (ay 1 v5 fun v12=>av h v12 fun v13=>c (.func 56) [v13,(.int .i64 10),(.int .i64 64)] h <| pz K fun v14 h=>wZ c n v1 v2 v14 h K) (ay 0 v5 fun v31=>av h v31 fun v32=>eO v32 (.int .i64 3) fun v33=>aL v33 (av h v1 fun v34=>c (.func 53) [v34] h <| pz K fun v35 h=>Cb c n v2 v35 h K) (av h v1 fun v39=>c (.func 19) [v39,(.str [116,114,117,101])] h <| pz K fun v40 h=>aL v40 (Ai c n v1 v2 v6 v5 v40 h K) (av h v1 fun v127=>c (.func 19) [v127,(.str [102,97,108,115,101])] h <| pz K fun v128 h=>Ai c n v1 v2 v6 v5 v128 h K)))
def adA:G H1:=fun c n x0 h K=>
 aY (nU h (none) 5 x0) fun v1 h=>bS h [.int .i64 0, .str [], .int .i64 0, .bool false, .int .i64 0, .str [], .ah, .ah, .int .i64 0] 9 fun v2 h=>bO h 5 v1 fun v3=>dX [.int .i64 0, .str [], .int .i64 0, .bool false, .int .i64 0, .str [], .ah, .ah] [(0,1,(.int .i64 1)),(2,5,v3)] fun v4=>dX [.int .i64 0, .str [], .int .i64 0, .bool false, .int .i64 0, .str [], .ah, .ah, .int .i64 0] [(0,8,v4),(8,1,(.int .i64 1))] fun v5=>aK h 9 v2 v5 fun h=>gU (fQ h [(v2,some (true,9))]) h K
def adC:G H2:=fun c n x0 x1 h K=>
 av h x0 fun v1=>av h x1 fun v2=>c (.func 79) [v2,(.int .i64 0)] h <| pz K fun v3 h=>av h x0 <| dR v1 <| aY (bI h 1 9 [.int .i64 0, .str [], .int .i64 0, .bool false, .int .i64 0, .str [], .ah, .ah, .int .i64 0] [(0,v3)]) fun v4 h=>av h x0 <| dR v1 <| av h x1 <| dR v2 <| oq h 9 120 v1 v4 fun v5 h=>bG h x0 v5 fun h=>K (.tup []) h
end
end Go.Proofs.YtibillhjmfbneaaGreatDoor
namespace Go.Ab
noncomputable section
abbrev Prim:=bM→Nat→List AV→aj→aM→Bool
def Yb:List (Nat×Prim)→Nat→Option Prim
 | [],_=>none
 |(k,p) :: l,f=>bif Nat.beq k f then some p else Yb l f
def afJ (tbl:List (Nat×dH)) (ps:List (Nat×Prim)):Env:={code:=Xw tbl,prim:=Yb ps}
theorem FB {f:Nat} {p:Prim}:∀{l:List (Nat×Prim)},Yb l f=some p→(f,p)∈l
 | [],h=>by cases h
 |(k,x) :: l,h=>by
  simp only[Yb] at h
  cases hb:Nat.beq k f with
  |true=>
   rw[hb,cond_true] at h
   cases h
   rw[Nat.eq_of_beq_eq_true hb]
   exact List.mem_cons_self
  |false=>
   rw[hb,cond_false] at h
   exact List.mem_cons_of_mem _ (FB h)
def Si (p:Prim):Prop:=∀(call call':bM) n args h (K K':aM),Le call call'→(∀v h',K v h'=true→K' v h'=true)→p call n args h K=true→p call' n args h K'=true
def Am:List (Nat×Prim)→Prop
 | []=>True
 |(_,p) :: l=>Si p∧Am l
theorem Am.mem:∀{l:List (Nat×Prim)},Am l→∀k p,(k,p)∈l→Si p
 | [],_,_,_,h=>by cases h
 |(k,q) :: l,⟨h1,h2⟩,k',p,h=>by
  rcases List.mem_cons.1 h with e |h
  ·cases e;exact h1
  ·exact Am.mem h2 k' p h
theorem adu {tbl:List (Nat×dH)} {ps:List (Nat×Prim)} (h:Am ps):NV (afJ tbl ps):=fun f p hp=>h.mem f p (FB hp)
def Au (P:Program):List (Nat×Prim)→Prop
 | []=>True
 |(k,p) :: l=>D9 P k p∧Au P l
theorem Au.mem {P:Program}:∀{l:List (Nat×Prim)},Au P l→∀k p,(k,p)∈l→D9 P k p
 | [],_,_,_,h=>by cases h
 |(k,q) :: l,⟨h1,h2⟩,k',p,h=>by
  rcases List.mem_cons.1 h with e |h
  ·cases e;exact h1
  ·exact Au.mem h2 k' p h
theorem aco {P:Program} {tbl:List (Nat×dH)} {ps:List (Nat×Prim)} (h:MB P tbl) (hp:Au P ps):M5 P (afJ tbl ps):=
 ⟨fun f p e=>hp.mem f p (FB e),fun f fn hf=>h.mem f fn (MP hf)⟩
def Nt:Prim:=fun _ _ args h K=>match args with
 | [.ptr a b c d]=>K (.ptr a b c d) h
 |_=>false
theorem TL:Si Nt:=by
 intro call call' n args h K K' _ hK s
 unfold Nt at s ⊢
 split at s
 ·exact hK _ _ s
 ·cases s
theorem D6 {P:Program} {f:Nat} {fn:Func} {e:Array Value→Sem Value} {B:Base} {φ:dG} {w:World} {K:aM} {h:aj} {v:AV} {cv:Value} {args:List Value} (hf:P.funcs[f]? =some fn) (hname:(fn.name== "runtime.NumGoroutine")=false) (hb:fn.body.isNone=true) (hn:Extern.findNext fn=none) (he:Extern.find fn=some e)
 (hrun:(e ⟨args⟩).run P w= .ok cv w) (H:bN P B φ h w) (hv:aZ φ v cv) (hK:K v h=true):tH P B φ w K ((callFunc f ⟨args⟩).run P w):=by
 rw[run_callFunc_extern hf hname hb hn he,hrun]
 exact .inl ⟨v,h,cv,φ,rfl,hK,hv,H,φ.le_refl,Gw.refl B w⟩
theorem abO {P:Program} {f:Nat} {fn:Func} (hf:P.funcs[f]? =some fn) (hname:(fn.name== "runtime.NumGoroutine")=false) (hb:fn.body.isNone=true) (hn:Extern.findNext fn=none) (he:Extern.find fn=some Extern.AbiNoEscape.same):D9 P f Nt:=by
 intro call n _ args h K hK
 unfold Nt at hK
 split at hK
 ·rename_i a b c d
  refine⟨fun v hv id e=> ?_,fun B φ w gy H hA=> ?_⟩
  ·simp only[List.mem_singleton] at hv;subst hv;cases e
  ·cases hA with
   |cons h1 h2=>
    cases h2
    rename_i cv _
    exact D6 (v:= .ptr a b c d) hf hname hb hn he (Lib.run_noEscape w _) H h1 hK
 ·cases hK
def L8 (c:Nat):List Nat→Nat→Int
 | [],_=> -1
 |b :: l,i=>bif Nat.beq b c then(i:Int) else L8 c l (i+1)
def xC:Prim:=fun _ _ args h K=>match args with
 | [.str s, .int .u8 (.ofNat c)]=>bif Nat.blt c 256 then K (.int .i64 (L8 c s 0)) h else false
 |_=>false
theorem Ot:Si xC:=by
 intro call call' n args h K K' _ hK s
 unfold xC at s ⊢
 split at s
 ·rename_i s' c
  cases hb:Nat.blt c 256 with
  |false=>rw[hb] at s;cases s
  |true=>rw[hb] at s;exact hK _ _ s
 ·cases s
theorem Mx {bs:List UInt8} {c:UInt8} {g:Nat→UInt8} (hg:∀j (h:j<bs.length),g j=bs[j]):∀(m i:Nat),m+i=bs.length→(match(List.range' i m).find? (fun j=>g j==c) with |some j=>(j:Int)|none=> -1)=L8 c.toNat ((bs.drop i).map UInt8.toNat) i
 |0,i,h=>by
  rw[List.drop_of_length_le (by omega)];rfl
 |m+1,i,h=>by
  have hlt:i<bs.length:=by omega
  rw[List.range'_succ,List.find?_cons,List.drop_eq_getElem_cons hlt,List.map_cons,L8,hg i hlt]
  by_cases hc:bs[i]=c
  ·have:Nat.beq (bs[i]).toNat c.toNat=true:=by rw[hc];exact aF.2 rfl
   rw[this,cond_true]
   simp[hc]
  ·have:Nat.beq (bs[i]).toNat c.toNat=false:=dn.2 (fun e=>hc (UInt8.toNat_inj.1 e))
   have h2:(bs[i]==c)=false:=by simpa using hc
   rw[this,cond_false,h2]
   exact Mx hg m (i+1) (by omega)
theorem firstIdx_eq (bs:ByteArray) (c:UInt8):firstIdx bs c=L8 c.toNat (bs.data.toList.map UInt8.toNat) 0:=by
 have hl:bs.data.toList.length=bs.size:=Array.length_toList
 have:=Mx (bs:=bs.data.toList) (c:=c) (g:=fun j=>bs[j]!) (fun j h=>by
  have hj:j<bs.size:=by omega
  rw[getElem!_pos bs j hj]
  rfl) bs.size 0 (by omega)
 rw[List.drop_zero] at this
 rw[←this]
 unfold firstIdx
 rw[List.range_eq_range']
 cases List.find? (fun i=>bs[i]! ==c) (List.range' 0 bs.size)<;>rfl
theorem Tn {P:Program} {f:Nat} {fn:Func} (hf:P.funcs[f]? =some fn) (hname:(fn.name== "runtime.NumGoroutine")=false) (hb:fn.body.isNone=true) (hn:Extern.findNext fn=none) (he:Extern.find fn=some Extern.BytealgIndexByte.indexByte):D9 P f xC:=by
 intro call n _ args h K hK
 unfold xC at hK
 split at hK
 ·rename_i s c
  cases hc:Nat.blt c 256 with
  |false=>rw[hc] at hK;cases hK
  |true=>
   rw[hc,cond_true] at hK
   have hc:=bD.1 hc
   refine⟨fun v hv id e=> ?_,fun B φ w gy H hA=> ?_⟩
   ·simp only[List.mem_cons,List.not_mem_nil,or_false] at hv
    rcases hv with rfl |rfl<;>cases e
   ·cases hA with
    |cons h1 h2=>
     cases h2 with
     |cons h2 h3=>
      cases h3
      cases h1 with
      |str hs=>
       rename_i bs
       cases h2
       have hcc:(Int.ofNat c).toNat.toUInt8.toNat=c:=by
        show(UInt8.ofNat c).toNat=c
        rw[UInt8.toNat_ofNat',Nat.mod_eq_of_lt hc]
       have he2:=firstIdx_eq bs (Int.ofNat c).toNat.toUInt8
       rw[hcc,hs] at he2
       refine D6 (v:= .int .i64 (L8 c s 0)) (cv:= .int .i64 (L8 c s 0)) hf hname hb hn he ?_ H (.int _ _) hK
       rw[←he2]
       exact run_indexByte_string bs (Int.ofNat c) w
 ·cases hK
end
noncomputable section
section
variable {P:Program} {E:Env}
def Om (b:Nat):aj:=aj.empty.push (.gvar b)
theorem YO {W:World} {b:Nat} {te:TypeId} {pe:Value} (hc:W.cell? ⟨b,0,none⟩=some (.iface te pe)):
 ∃φ,bN P (.of W.heap.size) φ (Om b) W:=by
 have hex:∃o,W.heap[b]? =some o∧∀ds,o≠ .deferred ds:=by
  cases e:W.heap[b]? with
  |none=>simp[World.cell?,e] at hc
  |some o=>exact⟨o,rfl,fun ds q=>by subst q;simp[World.cell?,e] at hc⟩
 obtain⟨o,ho,hnd⟩:=hex
 have hlt:b<W.heap.size:=(Array.getElem?_eq_some_iff.1 ho).1
 have hget:∀id o',(Om b).get id=some o'→id=0∧o'= .gvar b:=by
  intro id o' e
  unfold Om at e
  rw[aj.get_push] at e
  by_cases hi:id=aj.empty.sz
  ·rw[if_pos hi] at e;cases e;exact⟨hi,rfl⟩
  ·rw[if_neg hi] at e;cases e
 let φ:dG:=fun a g=>if a=0∧g=0 then some ⟨b,0,0,0,0⟩ else none
 have hphi:∀a g L,φ a g=some L→a=0∧g=0∧L=⟨b,0,0,0,0⟩:=by
  intro a g L e
  by_cases hi:a=0∧g=0
  ·simp only[φ,hi,and_self,if_true] at e;cases e;exact⟨hi.1,hi.2,rfl⟩
  ·simp only[φ,hi,if_false] at e;cases e
 refine⟨φ,Nat.le_refl _, ?_, ?_, ?_, ?_, ?_, ?_, ?_, ?_⟩
 ·intro id g L e
  obtain⟨rfl,_,_⟩:=hphi _ _ _ e
  exact Nat.lt_succ_self 0
 ·intro id h
  have h:1≤id:=h
  unfold Om
  rw[aj.get_push,if_neg (show id≠aj.empty.sz by show id≠0;omega)]
  rfl
 ·intro id o' e _
  obtain⟨rfl,rfl⟩:=hget _ _ e
  exact⟨⟨b,0,0,0,0⟩,te,pe,by simp[φ],rfl,hc⟩
 ·intro id g L e
  obtain⟨_,_,rfl⟩:=hphi _ _ _ e
  exact hlt
 ·intro id o' g L e e'
  obtain⟨_,rfl⟩:=hget _ _ e
  obtain⟨_,_,rfl⟩:=hphi _ _ _ e'
  exact⟨fun q=>(by cases q),fun _=>hlt⟩
 ·intro id o' id' g g' L L' e q
  obtain⟨_,rfl⟩:=hget _ _ e
  cases q
 ·intro id g L e ds
  obtain⟨_,_,rfl⟩:=hphi _ _ _ e
  show W.heap[b]? ≠_
  rw[ho]
  exact fun q=>hnd ds (Option.some.inj q)
 ·intro id o e;cases e
end
section
variable {P:Program} {E:Env}
end
section
open Go.ChangeShapes
theorem ZA {H:Type} {enc:TypeId×Value→H} {P:Program} {f:Func} {s:ChangeSpec} {apart fresh handsOn again:Bool} {W W':World} {args:Array Value} {v:Value} {ds gs:List (DataW H)} {before pa pv:List MemPlace}
 (hW:DataW.Whole enc P f.params.toList s.vars apart W args.toList ds gs before)
 (hres:∀(b:Nat) (sp:Nat→Bool) (hd:Bool),DataW.TrodAll enc P W' b sp hd f.resultTypes.toList (v.resultList f.resultTypes.size) (s.fn H (ds++gs)).results [])
 (hargs:∀sp:Nat→Bool,(∀p∈before,sp p.block=true)→DataW.TrodAll enc P W' 0 sp true f.params.toList args.toList (s.fn H (ds++gs)).args pa)
 (hvars:∀sp:Nat→Bool,(∀p∈before,sp p.block=true)→DataW.TrodVars enc P W' sp s.vars (s.fn H (ds++gs)).vars pv)
 (hps:before=pa++pv) (hk:W.keptBut W' (· ∈before)) (hfz:∀a:Addr,a.block<W.heap.size→W'.frozen? a=W.frozen? a)
 (hok:∀(j:Nat) (t:TypeId) (r:Value),f.resultTypes[j]? =some t→(v.resultList f.resultTypes.size)[j]? =some r→Value.okWide P W' .any 0 t r):
 s.post enc P f apart fresh handsOn again W args v W':=by
 have hlt:=fun p hp=>hW.lt p hp
 have hold:∀p∈before,(fun b=>decide (b<W.heap.size)) p.block=true:=fun p hp=>by simpa using hW.lt p hp
 refine⟨ds,gs,before,[],pa,pv,hW,hres _ _ _,hargs _ hold,hvars _ hold,World.keptBut_mono (fun p hp=>⟨hp, ?_⟩) hk,fun _=> ?_⟩
 ·rw[hps,List.mem_append] at hp
  exact Or.inr hp
 ·obtain⟨_,_,_,_,_,hz,hn⟩:=hW
  refine⟨hok,_,_,([]++pa)++pv,⟨[]++pa,pv,trodAll_append (hargs _ (fun _ _=>rfl)) (hres _ _ _),hvars _ (fun _ _=>rfl),rfl, ?_, ?_⟩, ?_⟩
  ·intro b off hp
   have hm:MemPlace.cell b off∈before:=by rw[hps];simpa using hp
   rw[hfz ⟨b,off,none⟩ (hlt _ hm)]
   exact hz b off hm
  ·intro ha
   have:=hn ha
   rw[hps] at this
   simpa using this
  ·intro p hp _
   rw[hps]
   simpa using hp
end
end
end Go.Ab
