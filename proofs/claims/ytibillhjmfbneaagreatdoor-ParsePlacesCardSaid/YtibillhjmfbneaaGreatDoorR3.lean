/-
  Texts that the claim hangs on, part 4.
-/
import Derived.Test.YtibillhjmfbneaaGreatDoorR2
set_option linter.unusedSimpArgs false
set_option linter.unusedVariables false
namespace Go.Ab
noncomputable section
def mI (call:aj) (f:AV) (args:List AV) (h:ah) (K:au):Bool:=
 match f with
 | .fn tgt first cap=>call tgt (first++args++cap) h K
 |_=>false
def Pp (c a b:AV):Option AV:=
 match c with
 | .bool x=>match x with |true=>some a |false=>some b
 |_=>none
def D6 (h:ah) (neg:Bool) (k:EqK) (a b:AV):Option AV:=
 match TS h k a b with
 |some r=>some (.bool (bif neg then !r else r))
 |none=>none
def oP (cells:List AV):List (Nat×Nat×AV)→Option (List AV)
 | []=>some cells
 |(off,n,v) :: rest=>bif Nat.beq v.cells.length n&&Nat.ble (off+n) cells.length&&aD v.cells then oP (lay cells off v.cells) rest else none
def oZ (z:List AV) (ps:List (Nat×Nat×AV)):Option AV:=
 match oP z ps with
 |some l=>some (.agg l)
 |none=>none
def jU (sz:Nat) (es:List (List AV)):List (Nat×AV)→Option (List (List AV))
 | []=>some es
 |(i,v) :: rest=>bif Nat.beq v.cells.length sz&&Nat.blt i es.length&&aD v.cells then jU sz (lg es i v.cells) rest else none
def bG (h:ah) (n sz:Nat) (z:List AV) (ps:List (Nat×AV)):Option (AV×ah):=
 bif Nat.beq z.length sz&&Nat.blt 0 sz&&Nat.ble (n*sz) 16777216&&aD z then
  (match jU sz (xq n z) ps with
  |some es=>some (.slc h.sz 0 0 n n true,newRow h es sz)
  |none=>none)
 else none
def rC (d:Nat):Option AV→Option Nat
 |none=>some d
 |some v=>asNat v
def Sy (h:ah) (sz:Nat) (x:AV) (lo hi mx:Option AV):Option AV:=
 match x with
 | .slc id g s len cap ex=>
   bif oM h id sz then
   match mx with
   |some m=>match rC 0 (some m),rC len hi,rC 0 lo with
    |some m,some h,some l=>bif Nat.ble l h&&Nat.ble h m&&Nat.ble m cap&&hi.isSome then some (.slc id g (s+l) (h-l) (m-l) true) else none
    |_,_,_=>none
   |none=>match rC len hi,rC 0 lo with
    |some h,some l=>bif Nat.ble l h&&Nat.ble h cap then some (.slc id g (s+l) (h-l) (cap-l) ex) else none
    |_,_=>none
   else none
 | .nilSlc=>
   match rC 0 mx,rC 0 hi,rC 0 lo with
   |some 0,some 0,some 0=>bif mx.isNone||hi.isSome then some .nilSlc else none
   |_,_,_=>none
 | .emp=>
   match rC 0 mx,rC 0 hi,rC 0 lo with
   |some 0,some 0,some 0=>bif mx.isNone||hi.isSome then some .emp else none
   |_,_,_=>none
 |_=>none
def mF (x:AV) (lo hi:Option AV):Option AV:=
 match x with
 | .str s=>match rC s.length hi,rC 0 lo with
   |some h,some l=>bif Nat.ble l h&&Nat.ble h s.length then some (.str ((s.take h).drop l)) else none
   |_,_=>none
 |_=>none
def J4 (d:Nat) (o:Option AV) (k:Nat→Bool):Bool:=@Option.rec AV (fun _=>Bool) (k d) (fun v=>Qe v k) o
theorem Qa (d:Nat) (o:Option AV) (k:Nat→Bool):J4 d o k=bM (rC d o) k:=by
 cases o with
 |none=>rfl
 |some v=>exact FX v k
def abv (s:List Nat) (lo hi:Option AV) (k:AV→Bool):Bool:=
 @Option.rec AV (fun _=>Bool) (J4 0 lo fun l=>jM (Nat.ble l (nS s)) (k (.str (xJ l s))) false)
  (fun v=>Qe v fun m=>J4 0 lo fun l=>jM (Nat.ble l m) (jM (Nat.ble m (nS s)) (k (.str (yX (Nat.sub m l) (xJ l s)))) false) false) hi
def ait (x:AV) (k:List Nat→Bool):Bool:=
 match x with
 | .str s=>k s
 |_=>false
def Nh (x:AV) (lo hi:Option AV) (k:AV→Bool):Bool:=ait x fun s=>abv s lo hi k
theorem TK (x:AV) (lo hi:Option AV) (k:AV→Bool):Nh x lo hi k=bM (mF x lo hi) k:=by
 cases x<;>try rfl
 rename_i s
 show abv s lo hi k=_
 cases hi with
 |none=>
  have e0:abv s lo none k=J4 0 lo (fun l=>jM (Nat.ble l (nS s)) (k (.str (xJ l s))) false):=rfl
  rw[e0,Qa]
  simp only[mF,show rC s.length none=some s.length from rfl]
  cases rC 0 lo with
  |none=>rfl
  |some l=>
   show jM (Nat.ble l (nS s)) _ false=bM (bif Nat.ble l s.length&&Nat.ble s.length s.length then _ else none) k
   have e:Nat.ble s.length s.length=true:=aK.2 (Nat.le_refl _)
   rw[mh,lG,e,Bool.and_true,um,List.take_length]
   rfl
 |some v=>
  have e0:abv s lo (some v) k=Qe v (fun m=>J4 0 lo fun l=>jM (Nat.ble l m) (jM (Nat.ble m (nS s)) (k (.str (yX (Nat.sub m l) (xJ l s)))) false) false):=rfl
  rw[e0,FX]
  simp only[mF,show rC s.length (some v)=asNat v from rfl]
  cases asNat v with
  |none=>rfl
  |some m=>
   show(J4 0 lo fun l=>jM (Nat.ble l m) (jM (Nat.ble m (nS s)) (k (.str (yX (Nat.sub m l) (xJ l s)))) false) false)=_
   rw[Qa]
   cases rC 0 lo with
   |none=>rfl
   |some l=>
    show jM (Nat.ble l m) (jM (Nat.ble m (nS s)) _ false) false=bM (bif Nat.ble l m&&Nat.ble m s.length then _ else none) k
    rw[mh,lG,um,wH]
    cases Nat.ble l m with
    |false=>rfl
    |true=>
     cases Nat.ble m s.length with
     |false=>rfl
     |true=>
      show k _=k _
      rw[List.drop_take]
      rfl
def Z4 (ps:List (Nat×Nat×AV)):List AV→Option (List AV):=
 @List.rec (Nat×Nat×AV) (fun _=>List AV→Option (List AV)) (fun cells=>some cells)
  (fun p _ ih cells=>jM (Nat.beq (nS (pG p.2.2)) p.2.1) (jM (Nat.ble (Nat.add p.1 p.2.1) (nS cells)) (jM (uE (pG p.2.2)) (ih (La (pG p.2.2) p.1 cells)) none) none) none) ps
theorem P5:∀(ps:List (Nat×Nat×AV)) (cells:List AV),Z4 ps cells=oP cells ps
 | [],cells=>rfl
 |(off,n,v) :: ps,cells=>by
  show jM (Nat.beq (nS (pG v)) n) (jM (Nat.ble (off+n) (nS cells)) (jM (uE (pG v)) (Z4 ps (La (pG v) off cells)) none) none) none=_
  simp only[ql,Kc,lG,wZ,oP,P5 ps]
  cases h1:Nat.beq v.cells.length n with
  |false=>rfl
  |true=>
   cases h2:Nat.ble (off+n) cells.length with
   |false=>rfl
   |true=>
    rw[FY off cells (by have:=aK.1 h2;omega)]
    rfl
def dK (z:List AV) (ps:List (Nat×Nat×AV)) (k:AV→Bool):Bool:=@Option.rec (List AV) (fun _=>Bool) false (fun l=>k (.agg l)) (Z4 ps z)
theorem Ky (z:List AV) (ps:List (Nat×Nat×AV)) (k:AV→Bool):dK z ps k=bM (oZ z ps) k:=by
 unfold dK oZ
 rw[P5]
 cases oP z ps<;>rfl
def abZ (es:List (List AV)) (s len:Nat) (k:List (List AV)→Bool):Bool:=
 jM (Nat.beq (nS (yX len (xJ s es))) len) (k (yX len (xJ s es))) false
def VL (es:List (List AV)) (s len:Nat) (k:List (List AV)→Bool):Bool:=
 jM (Nat.beq s 0) (jM (Nat.beq (nS es) len) (k es) (abZ es s len k)) (abZ es s len k)
def agI (h:ah) (sz:Nat) (x:AV) (k:List (List AV)→Bool):Bool:=
 match x with
 | .slc id g s len _ _=>jM (Nat.beq len 0) (k []) (yR h id fun r=>jM (Nat.ble r.m g) (jM (Nat.beq r.sz sz) (VL r.es s len k) false) false)
 |x=>bM (source h sz x) k
theorem Tv (es:List (List AV)) (s len:Nat) (k:List (List AV)→Bool):VL es s len k=bM (bif Nat.beq ((es.drop s).take len).length len then some ((es.drop s).take len) else none) k:=by
 have e1:abZ es s len k=bM (bif Nat.beq ((es.drop s).take len).length len then some ((es.drop s).take len) else none) k:=by
  unfold abZ
  rw[wH,um,lG,mh]
  rfl
 unfold VL
 rw[e1,ql,ql,lG]
 cases h1:Nat.beq s 0 with
 |false=>rfl
 |true=>
  cases h2:Nat.beq es.length len with
  |false=>rfl
  |true=>
   have h1:=aH.1 h1
   have h2:=aH.1 h2
   subst h1
   rw[List.drop_zero,List.take_of_length_le (by omega),aH.2 h2]
   rfl
theorem aaJ (h:ah) (sz:Nat) (x:AV) (k:List (List AV)→Bool):agI h sz x k=bM (source h sz x) k:=by
 cases x<;>try rfl
 rename_i id g s len c ex
 show jM (Nat.beq len 0) (k []) (yR h id _)=_
 rw[ql,vI]
 simp only[source]
 cases Nat.beq len 0 with
 |true=>rfl
 |false=>
  simp only[cond_false]
  cases h.row id with
  |none=>rfl
  |some r=>
   show jM (Nat.ble r.m g) (jM (Nat.beq r.sz sz) (VL r.es s len k) false) false=bM (bif Nat.ble r.m g&&Nat.beq r.sz sz then _ else none) k
   rw[mh,Tv]
   cases Nat.ble r.m g with
   |false=>rfl
   |true=>cases Nat.beq r.sz sz<;>rfl
def agD (len m bytes:Nat) (r:Bool):Bool:=jM (Nat.ble (Nat.mul (Nat.add len m) bytes) most) (jM (Nat.ble (Nat.add len m) most) r false) false
def appW (h:ah) (sz bytes id g st len cap:Nat) (ex:Bool) (new:List (List AV)) (m:Nat) (r:Row) (k:au):Bool:=
 agD len m bytes (jM (Nat.beq r.sz sz)
  (jM (Nat.ble (Nat.add len m) cap)
    (jM r.rw (jM (Nat.beq g r.g) (k (.slc id g st (Nat.add len m) cap ex) {sz:=h.sz,t:=h.t.set id (.row {es:=lay r.es (Nat.add st len) new,sz:=r.sz,g:=r.g,m:=r.g,rw:=r.rw,ty:=r.ty})}) false) false)
    (jM ex (jM (Nat.ble r.m g) (VL r.es st len fun old=>k (.slc h.sz 0 0 (Nat.add len m) (Nat.add len m) false) (newRow h (Rs old new) sz)) false)
      (jM r.rw (jM (Nat.beq g r.g) (jM (Nat.beq st 0)
        (jM (Nat.beq len (nS r.es)) (k (.slc id (Nat.succ r.g) 0 (Nat.add len m) (Nat.add len m) false) {sz:=h.sz,t:=h.t.set id (.row {es:=Rs r.es new,sz:=r.sz,g:=Nat.succ r.g,m:=r.m,rw:=r.rw,ty:=nY r.ty none})})
          (k (.slc id (Nat.succ r.g) 0 (Nat.add len m) (Nat.add len m) false) {sz:=h.sz,t:=h.t.set id (.row {es:=Rs (yX len r.es) new,sz:=r.sz,g:=Nat.succ r.g,m:=Nat.succ r.g,rw:=r.rw,ty:=nY r.ty none})})) false) false) false))) false)
def pV (h:ah) (sz bytes:Nat) (s x:AV) (k:au):Bool:=
 agI h sz x fun new=>match s with
  | .slc id g st len cap ex=>(match new with
    | []=>aW (gZ h sz bytes s new) k
    |_=>yR h id fun r=>appW h sz bytes id g st len cap ex new (nS new) r k)
  |s=>aW (gZ h sz bytes s new) k
theorem wF (c:Bool) (o:Option (AV×ah)) (k:au):aW (bif c then o else none) k=jM c (aW o k) false:=by cases c<;>rfl
theorem Uf (h:ah) (sz bytes:Nat) (s x:AV) (k:au) (hs:Nat.beq sz 0=false):pV h sz bytes s x k=aW (iq h sz bytes s x) k:=by
 unfold pV iq
 rw[hs,cond_false,aaJ]
 cases source h sz x with
 |none=>rfl
 |some new=>
  show _=aW (gZ h sz bytes s new) k
  cases s<;>try rfl
  rename_i id g st len cap ex
  cases new with
  |nil=>rfl
  |cons y l=>
   show yR h id _=_
   rw[vI]
   simp only[gZ]
   cases h.row id with
   |none=>rfl
   |some r=>
    show appW h sz bytes id g st len cap ex (y :: l) (nS (y :: l)) r k=_
    unfold appW agD
    rw[lG]
    generalize(y :: l).length=m
    show jM (Nat.ble ((len+m)*bytes) most) (jM (Nat.ble (len+m) most) (jM (Nat.beq r.sz sz) _ false) false) false=_
    rw[wF]
    cases Nat.ble ((len+m)*bytes) most with
    |false=>rfl
    |true=>
    cases Nat.ble (len+m) most with
    |false=>rfl
    |true=>
    cases Nat.beq r.sz sz with
    |false=>rfl
    |true=>
    show jM (Nat.ble (len+m) cap) _ _=aW (bif Nat.ble (len+m) cap then _ else _) k
    cases Nat.ble (len+m) cap with
    |true=>
     show jM r.rw (jM (Nat.beq g r.g) _ false) false=aW (bif r.rw&&Nat.beq g r.g then _ else none) k
     rw[wF]
     cases hrw:r.rw with
     |false=>rfl
     |true=>
      cases Nat.beq g r.g with
      |false=>rfl
      |true=>
       show k _ _=k _ _
       simp only[ah.put,hrw]
       rfl
    |false=>
    cases ex with
    |true=>
     show jM (Nat.ble r.m g) (VL r.es st len _) false=aW (bif Nat.ble r.m g then _ else none) k
     rw[wF,Tv]
     cases Nat.ble r.m g with
     |false=>rfl
     |true=>
      show bM (bif Nat.beq ((r.es.drop st).take len).length len then _ else none) _=aW (bif Nat.beq ((r.es.drop st).take len).length len then _ else none) k
      rw[mh,wF]
      cases Nat.beq ((r.es.drop st).take len).length len with
      |false=>rfl
      |true=>
       show k _ (newRow h (Rs _ (y :: l)) sz)=k _ _
       rw[BZ]
       rfl
    |false=>
     show jM r.rw (jM (Nat.beq g r.g) (jM (Nat.beq st 0) _ false) false) false=aW (bif r.rw&&Nat.beq g r.g&&Nat.beq st 0 then _ else none) k
     rw[wF]
     cases hrw:r.rw with
     |false=>rfl
     |true=>
     cases Nat.beq g r.g with
     |false=>rfl
     |true=>
     cases Nat.beq st 0 with
     |false=>rfl
     |true=>
      show jM (Nat.beq len (nS r.es)) _ _=aW (bif Nat.beq len r.es.length then _ else _) k
      rw[lG,BZ,BZ,wH]
      cases Nat.beq len r.es.length with
      |true=>
       show k _ _=k _ _
       simp only[ah.put,hrw]
       rfl
      |false=>
       show k _ _=k _ _
       simp only[ah.put,hrw]
       rfl
def oh (h:ah) (z:List AV):Option (AV×ah):=oV h z
def RS (h:ah) (t:Nat) (z:List AV):Option (AV×ah):=bif Nat.blt 0 z.length&&aD z then some (.ptr h.sz 0 0 0,newRow h [z] z.length (some t)) else none
def XY (h:ah) (e:Nat) (s x:AV):Option (AV×ah):=iq h 1 1 s x (some e)
def mmV (mx:Bool):List AV→Option AV
 |v :: l=>mmA mx v l
 | []=>none
def wK (h:ah):Option (AV×ah):=some (.map h.sz,h.push (.map [] 0))
abbrev fK:=List (Nat×AV)
def fK.get:fK→Nat→Option AV
 | [],_=>none
 |(k,v) :: l,n=>bif Nat.beq n k then some v else fK.get l n
def Has (ρ:dw) (l:fK):Prop:=∀k v,l.get k=some v→ρ.get k=some v
theorem Has.nil {ρ:dw}:Has ρ []:=fun _ _ h=>by cases h
theorem Has.set {ρ:dw} {l:fK} (H:Has ρ l) (d:Nat) (v:AV):Has (ρ.set d v) ((d,v) :: l):=by
 intro k u h
 rw[PT.get_set]
 simp only[fK.get] at h
 cases hb:Nat.beq k d with
 |true=>
  rw[hb,cond_true] at h
  rw[if_pos (Nat.eq_of_beq_eq_true hb)]
  exact h
 |false=>
  rw[hb,cond_false] at h
  rw[if_neg (bZ.1 hb)]
  exact H k u h
def AJ:List Nat→fK→Option fK
 | [],_=>some []
 |k :: ks,l=>match l.get k with
  |some v=>match AJ ks l with
   |some m=>some ((k,v) :: m)
   |none=>none
  |none=>none
theorem KC:∀{ks:List Nat} {l m:fK},AJ ks l=some m→∀k v,m.get k=some v→l.get k=some v
 | [],l,m,h,k,v,e=>by simp only[AJ] at h;cases h;cases e
 |k :: ks,l,m,h,j,v,e=>by
  simp only[AJ] at h
  split at h
  ·rename_i u hu
   split at h
   ·rename_i m' hm
    cases h
    simp only[fK.get] at e
    cases hb:Nat.beq j k with
    |true=>rw[hb,cond_true] at e;cases e;rw[Nat.eq_of_beq_eq_true hb];exact hu
    |false=>rw[hb,cond_false] at e;exact KC hm j v e
   ·cases h
  ·cases h
theorem Has.keep {ρ:dw} {l m:fK} (H:Has ρ l) (ks:List Nat) (h:AJ ks l=some m):Has ρ m:=fun k v e=>H k v (KC h k v e)
def nP (l:fK):bS→Option AV
 | .t r=>l.get r
 | .c v=>some v
def Ie (l:fK):List bS→Option (List AV)
 | []=>some []
 |x :: xs=>match nP l x with
  |some v=>match Ie l xs with
   |some vs=>some (v :: vs)
   |none=>none
  |none=>none
def El (l:fK):Option bS→Option (Option AV)
 |none=>some none
 |some x=>match nP l x with
  |some v=>some (some v)
  |none=>none
def CO (l:fK):List (Nat×Nat×bS)→Option (List (Nat×Nat×AV))
 | []=>some []
 |(a,b,x) :: xs=>match nP l x with
  |some v=>match CO l xs with
   |some vs=>some ((a,b,v) :: vs)
   |none=>none
  |none=>none
def Ic (l:fK):List (Nat×bS)→Option (List (Nat×AV))
 | []=>some []
 |(a,x) :: xs=>match nP l x with
  |some v=>match Ic l xs with
   |some vs=>some ((a,v) :: vs)
   |none=>none
  |none=>none
theorem gJ {ρ:dw} {l:fK} (H:Has ρ l) {x:bS} {v:AV} (h:nP l x=some v):ev ρ x=some v:=by
 cases x with
 |t r=>exact H r v h
 |c u=>exact h
theorem Cc {ρ:dw} {l:fK} (H:Has ρ l):∀{xs:List bS} {vs:List AV},Ie l xs=some vs→evs ρ xs=some vs
 | [],vs,h=>by simpa[Ie,evs] using h
 |x :: xs,vs,h=>by
  simp only[Ie] at h
  split at h
  ·rename_i v hv
   split at h
   ·rename_i vs' hvs
    cases h
    simp only[evs,gJ H hv,Cc H hvs]
   ·cases h
  ·cases h
theorem uK {ρ:dw} {l:fK} (H:Has ρ l) {d:Nat} {x:Option bS} {o:Option AV} (h:El l x=some o):ni ρ d x=rC d o∧x.isSome=o.isSome∧x.isNone=o.isNone∧(x=none↔o=none):=by
 cases x with
 |none=>simp only[El] at h;cases h;exact⟨rfl,rfl,rfl,by simp⟩
 |some x=>
  simp only[El] at h
  split at h
  ·rename_i v hv
   cases h
   exact⟨by simp only[ni,gJ H hv,rC],rfl,rfl,by simp⟩
  ·cases h
theorem Po {ρ:dw} {l:fK} (H:Has ρ l):∀{ps:List (Nat×Nat×bS)} {vs:List (Nat×Nat×AV)} {cells:List AV},CO l ps=some vs→vS ρ cells ps=oP cells vs
 | [],vs,cells,h=>by simp only[CO] at h;cases h;rfl
 |(a,b,x) :: ps,vs,cells,h=>by
  simp only[CO] at h
  split at h
  ·rename_i v hv
   split at h
   ·rename_i vs' hvs
    cases h
    simp only[vS,oP,gJ H hv]
    rw[Po H hvs]
   ·cases h
  ·cases h
theorem EI {ρ:dw} {l:fK} (H:Has ρ l) {sz:Nat}:∀{ps:List (Nat×bS)} {vs:List (Nat×AV)} {es:List (List AV)},Ic l ps=some vs→kH ρ sz es ps=jU sz es vs
 | [],vs,es,h=>by simp only[Ic] at h;cases h;rfl
 |(a,x) :: ps,vs,es,h=>by
  simp only[Ic] at h
  split at h
  ·rename_i v hv
   split at h
   ·rename_i vs' hvs
    cases h
    simp only[kH,jU,gJ H hv]
    rw[EI H hvs]
   ·cases h
  ·cases h
def l1 (l:fK) (x:bS) (f:AV→Option AV):Option (Option AV):=
 match nP l x with
 |some v=>some (f v)
 |none=>none
def l2 (l:fK) (x y:bS) (f:AV→AV→Option AV):Option (Option AV):=
 match nP l x with
 |some v=>match nP l y with
  |some w=>some (f v w)
  |none=>none
 |none=>none
def kC (l:fK) (h:ah) (op:fE):Option (Option AV):=
 match op with
 | .mv x=>match nP l x with
   |some v=>some (some v)
   |none=>none
 | .pick c a b=>match nP l c,nP l a,nP l b with
   |some c,some a,some b=>some (Pp c a b)
   |_,_,_=>none
 | .build z ps=>match CO l ps with
   |some vs=>some (oZ z vs)
   |none=>none
 | .load ag n a=>l1 l a (dZ h ag n)
 | .nilck x=>l1 l x Cv
 | .bin op x y=>l2 l x y (eH op)
 | .eq neg k x y=>l2 l x y (D6 h neg k)
 | .not x=>l1 l x WV
 | .neg x=>l1 l x Xm
 | .conv k x=>l1 l x (TP k)
 | .b2s x=>l1 l x (aau h)
 | .cvs x=>l1 l x adY
 | .mkfn f a b=>match Ie l a with
   |some a=>match Ie l b with
    |some b=>some (some (.fn (.func f) a b))
    |none=>none
   |none=>none
 | .sl sz x lo hi mx=>match nP l x,El l lo,El l hi,El l mx with
   |some v,some lo,some hi,some mx=>some (Sy h sz v lo hi mx)
   |_,_,_,_=>none
 | .sls x lo hi=>match nP l x,El l lo,El l hi with
   |some v,some lo,some hi=>some (mF v lo hi)
   |_,_,_=>none
 | .fadr off x=>l1 l x (KO off)
 | .fld ag off n x=>l1 l x (JW ag off n)
 | .iadr sz x i=>l2 l x i (oL h sz)
 | .iadra len esz x i=>l2 l x i (Na len esz)
 | .idxs x i=>l2 l x i lX
 | .idxa ag len esz x i=>l2 l x i (VA ag len esz)
 | .look kk ok z m k=>l2 l m k (rY h kk ok z)
 | .ext x i=>l1 l x (RD i)
 | .len k x=>l1 l x (Ae h k)
 | .cap x=>l1 l x abg
 | .mm mx xs=>match Ie l xs with
   |some vs=>some (mmV mx vs)
   |none=>none
 | .ent x=>l1 l x (aaO h)
 | .uto x=>l1 l x (Sz h)
 | .ufr t n us x=>l1 l x (QD h t n us)
 | .sdat x=>l1 l x Ih
 | .mkif t x=>l1 l x (NA t)
 | .tas t ok z x=>l1 l x (abl t ok z)
 |_=>none
def E8 (l:fK) (h:ah) (op:fE):Option (Option (AV×ah)):=
 match op with
 | .alloc z=>some (oh h z)
 | .box ty n x=>match nP l x with
   |some v=>some (mU h ty n v)
   |none=>none
 | .bslice n sz z ps=>match Ic l ps with
   |some vs=>some (bG h n sz z vs)
   |none=>none
 | .store n a v=>match nP l a,nP l v with
   |some a,some v=>some (unit (bW h n a v))
   |_,_=>none
 | .mkmap=>some (wK h)
 | .mksl sz bytes z a c=>match nP l a,nP l c with
   |some a,some c=>some (Ch h sz bytes z a c)
   |_,_=>none
 | .mupd kk m k v=>match nP l m,nP l k,nP l v with
   |some m,some k,some v=>some (unit (kG h kk m k v))
   |_,_,_=>none
 | .app sz bytes s x=>match nP l s,nP l x with
   |some s,some x=>some (iq h sz bytes s x)
   |_,_=>none
 | .appz sz bytes z s x=>match nP l s,nP l x with
   |some s,some x=>some (Z6 h sz bytes z s x)
   |_,_=>none
 | .copy sz d s=>match nP l d,nP l s with
   |some d,some s=>some (TT h sz d s)
   |_,_=>none
 | .del kk m k=>match nP l m,nP l k with
   |some m,some k=>some (unit (aa7 h kk m k))
   |_,_=>none
 | .clr sz z x=>match nP l x with
   |some v=>some (unit (abV h sz z v))
   |none=>none
 | .rng x=>match nP l x with
   |some v=>some (abf h v)
   |none=>none
 | .allot t z=>some (RS h t z)
 | .appb e s x=>match nP l s,nP l x with
   |some s,some x=>some (XY h e s x)
   |_,_=>none
 | .ustr e p n=>match nP l p,nP l n with
   |some p,some n=>some (EF h e p n)
   |_,_=>none
 | .stw n a v b=>match nP l a,nP l v,nP l b with
   |some a,some v,some b=>some (bif qm a b then unit (bW h n a v) else none)
   |_,_,_=>none
 |_=>none
section
variable {ρ:dw} {l:fK} {h:ah} {op:fE}
theorem aeu (H:Has ρ l) {x:bS} {f:AV→Option AV} {o:Option AV} (e:l1 l x f=some o):rR ρ x f=o:=by
 unfold l1 at e
 split at e
 ·rename_i v hv;cases e;simp only[rR,gJ H hv]
 ·cases e
theorem adH (H:Has ρ l) {x y:bS} {f:AV→AV→Option AV} {o:Option AV} (e:l2 l x y f=some o):XC ρ x y f=o:=by
 unfold l2 at e
 split at e
 ·rename_i v hv
  split at e
  ·rename_i w hw;cases e;simp only[XC,gJ H hv,gJ H hw]
  ·cases e
 ·cases e
theorem VR (H:Has ρ l) {sz:Nat} {v:AV} {lo hi mx:Option bS} {a b c:Option AV} (h1:El l lo=some a) (h2:El l hi=some b) (h3:El l mx=some c):wu ρ h sz v lo hi mx=Sy h sz v a b c:=by
 have e1:=fun d=>uK H (d:=d) h1
 have e2:=fun d=>uK H (d:=d) h2
 have e3:=fun d=>uK H (d:=d) h3
 unfold wu Sy
 cases v<;>simp only[(e1 0).1,(e2 _).1,(e3 0).1,(e2 0).2.1,(e3 0).2.2.1]
 ·cases mx with
  |none=>
   have:c=none:=(e3 0).2.2.2.1 rfl
   subst this;rfl
  |some m=>
   cases c with
   |none=>have:=(e3 0).2.2.2.2 rfl;cases this
   |some c=>
    have:=(e3 0).1
    simp only[this]
    rfl
 ·rfl
 ·rfl
theorem qR (H:Has ρ l) {o:Option AV} (e:kC l h op=some o):aO ρ h op=bP o h∧dF op=false:=by
 unfold kC at e
 split at e
 case h_1 x=>
  split at e
  ·rename_i v hv;cases e;simp only[aO,gJ H hv,dF,and_self]
  ·cases e
 case h_2 c a b=>
  split at e
  ·rename_i c' a' b' h1 h2 h3
   cases e
   refine⟨?_,rfl⟩
   simp only[aO,gJ H h1,gJ H h2,gJ H h3]
   cases c'<;>try rfl
   rename_i x;cases x<;>rfl
  ·cases e
 case h_3 z ps=>
  split at e
  ·rename_i vs hvs
   cases e
   refine⟨?_,rfl⟩
   simp only[aO,Po H hvs,oZ]
   cases oP z vs<;>rfl
  ·cases e
 case h_7 neg k x y=>
  unfold l2 at e
  split at e
  ·rename_i v hv
   split at e
   ·rename_i w hw
    cases e
    refine⟨?_,rfl⟩
    simp only[aO,gJ H hv,gJ H hw,D6]
    cases TS h k v w<;>rfl
   ·cases e
  ·cases e
 case h_13 f a b=>
  split at e
  ·rename_i a' ha
   split at e
   ·rename_i b' hb
    cases e
    exact⟨by simp only[aO,Cc H ha,Cc H hb,bP],rfl⟩
   ·cases e
  ·cases e
 case h_14 sz x lo hi mx=>
  split at e
  ·rename_i v a b c h0 h1 h2 h3
   cases e
   exact⟨by simp only[aO,rR,gJ H h0,VR H h1 h2 h3],rfl⟩
  ·cases e
 case h_15 x lo hi=>
  split at e
  ·rename_i v a b h0 h1 h2
   cases e
   refine⟨?_,rfl⟩
   simp only[aO,rR,gJ H h0]
   congr 1
   unfold Gf mF
   cases v<;>simp only[(uK H h1).1,(uK H h2).1]
   rfl
  ·cases e
 case h_26 mx xs=>
  split at e
  ·rename_i vs hvs
   cases e
   refine⟨?_,rfl⟩
   simp only[aO,Cc H hvs]
   cases vs<;>rfl
  ·cases e
 all_goals first
  |exact⟨by simp only[aO];rw[aeu H e],rfl⟩
  |exact⟨by simp only[aO];rw[adH H e],rfl⟩
  |cases e
theorem KZ (H:Has ρ l) {o:Option (AV×ah)} (e:E8 l h op=some o):aO ρ h op=o∧dF op=false:=by
 unfold E8 at e
 split at e
 case h_1 z=>cases e;exact⟨rfl,rfl⟩
 case h_3 n sz z ps=>
  split at e
  ·rename_i vs hvs
   cases e
   refine⟨?_,rfl⟩
   simp only[aO,bG,EI H hvs]
   rfl
  ·cases e
 case h_5=>cases e;exact⟨rfl,rfl⟩
 case h_14=>cases e;exact⟨rfl,rfl⟩
 case h_15=>
  split at e
  ·rename_i h1 h2
   cases e
   refine⟨?_,rfl⟩
   simp only[aO,gJ H h1,gJ H h2]
   rfl
  ·cases e
 all_goals first
  |cases e;done
  |(split at e
    ·cases e
     refine⟨?_,rfl⟩
     rename_i h1
     simp only[aO,gJ H h1]
    ·cases e)
  |(split at e
    ·cases e
     refine⟨?_,rfl⟩
     rename_i h1 h2
     simp only[aO,gJ H h1,gJ H h2]
    ·cases e)
  |(split at e
    ·cases e
     refine⟨?_,rfl⟩
     rename_i h1 h2 h3
     simp only[aO,gJ H h1,gJ H h2,gJ H h3]
    ·cases e)
def Le (c c':aj):Prop:=∀t a h (K K':au),c t a h K=true→(∀v h',K v h'=true→K' v h'=true)→c' t a h K'=true
abbrev KLe (K K':au):Prop:=∀v h',K v h'=true→K' v h'=true
variable {call call':aj}
theorem XE (hc:Le call call') {f:AV} {vs:List AV} {k k':au} (s:mI call f vs h k=true) (hk:KLe k k'):mI call' f vs h k'=true:=by
 unfold mI at s ⊢
 cases f<;>first |(cases s;done)|exact hc _ _ _ _ _ s hk
theorem Lc {v:AV} {k k':au} (s:H9 h v k=true) (hk:∀l h',k (.tup l) h'=true→k' (.tup l) h'=true):H9 h v k'=true:=by
 unfold H9 at s ⊢
 split at s<;>first |(cases s;done)|skip
 split at s<;>first |(cases s;done)|exact hk _ _ s |skip
 split at s<;>first |(cases s;done)|skip
 rename_i es clock hes
 cases hb:(!List.isEmpty _&& !List.isEmpty es&&es.all _) with
 |true=>rw[hb,cond_true] at s;cases s
 |false=>
  rw[hb,cond_false] at s
  simp only[cond_false]
  rw[List.all_eq_true] at s ⊢
  intro x hx
  have:=s x hx
  cases x with
  |none=>exact hk _ _ this
  |some e=>exact hk _ _ this
theorem XU (hc:Le call call') {K K':au} (s:gy call ρ h op K=true) (hk:KLe K K'):gy call' ρ h op K'=true:=by
 cases hn:dF op with
 |false=>
  rw[jG hn] at s ⊢
  split at s
  ·exact hk _ _ s
  ·cases s
 |true=>
  cases op<;>first |(cases hn;done)|skip
  case call f xs=>
   simp only[gy] at s ⊢
   split at s
   ·exact hc _ _ _ _ _ s hk
   ·cases s
  case nxt x=>
   simp only[gy] at s ⊢
   split at s
   ·exact Lc s fun l h'=>hk _ _
   ·cases s
  case pnc x=>
   simp only[gy] at s ⊢
   split at s
   ·exact hk _ _ s
   ·cases s
  case dfr f xs=>cases s
  case rcv=>cases s
theorem Pq (hc:Le call call') {o:aU} {σ:St} {k k':KSt} (s:jy call o σ k=true) (hk:∀v σ',k v σ'=true→k' v σ'=true):jy call' o σ k'=true:=by
 unfold jy at s ⊢
 split at s
 ·exact XU hc s fun v h' hv=>hk _ _ hv
 ·exact hk _ _ s
 ·cases s
abbrev Q9 (K K':nG):Prop:=∀x σ,K x σ=true→K' x σ=true
theorem MN (hc:Le call call'):∀{ops:List aU} {σ:St} {k k':nG},mR call ops σ k=true→Q9 k k'→mR call' ops σ k'=true
 | [],σ,k,k',s,hk=>hk _ _ s
 |o :: ops,σ,k,k',s,hk=>by
  simp only[mR] at s ⊢
  refine Pq hc s fun v σ' hv=> ?_
  cases hp:oH (dF o.op) v with
  |none=>rw[hp] at hv;exact MN hc hv hk
  |some x=>rw[hp] at hv;exact hk _ _ hv
theorem UQ (hc:Le call call') {ρ0:dw}:∀{ops:List (aU×List aU×List aU)} {es:List Nat} {σ:St} {k k':nG},nI call ρ0 es ops σ k=true→Q9 k k'→nI call' ρ0 es ops σ k'=true
 | [],es,σ,k,k',s,hk=>hk _ _ s
 |(act,chk,ns) :: ops,es,σ,k,k',s,hk=>by
  simp only[nI] at s ⊢
  refine Pq hc s fun v σ' hv=> ?_
  cases hp:oH (dF act.op) v with
  |some x=>
   rw[hp] at hv
   simp only at hv ⊢
   split at hv
   ·exact hk _ _ hv
   ·cases hv
  |none=>
   rw[hp] at hv
   simp only at hv ⊢
   cases ha:again σ'.regs σ'.h chk with
   |false=>rw[ha] at hv;cases hv
   |true=>
    rw[ha] at hv
    simp only[cond_true] at hv ⊢
    split at hv
    ·exact UQ hc hv hk
    ·cases hv
theorem U6 {f f':St→nG→Bool} {K K':nG} (hf:∀σ (k k':nG),f σ k=true→Q9 k k'→f' σ k'=true) (hK:Q9 K K'):∀(n:Nat) (σ:St),iter f K n σ=true→iter f' K' n σ=true
 |0,σ,s=>by cases s
 |n+1,σ,s=>by
  simp only[iter] at s ⊢
  refine hf _ _ _ s fun x σ' hx=> ?_
  cases x with
  |normal=>exact U6 hf hK n σ' hx
  |_=>exact hK _ _ hx
theorem OH {l:Nat} {f f':St→nG→Bool} {K K':nG} (hf:∀σ (k k':nG),f σ k=true→Q9 k k'→f' σ k'=true) (hK:Q9 K K'):∀(n:Nat) (σ:St),sI l f K n σ=true→sI l f' K' n σ=true
 |0,σ,s=>by cases s
 |n+1,σ,s=>by
  simp only[sI] at s ⊢
  refine hf _ _ _ s fun x σ' hx=> ?_
  cases x with
  |goto l'=>
   simp only at hx ⊢
   cases hb:Nat.beq l' l with
   |false=>rw[hb] at hx;cases hx
   |true=>rw[hb] at hx;exact OH hf hK n σ' hx
  |_=>exact hK _ _ hx
theorem pK (hc:Le call call') {n:Nat}:∀{c:dx} {σ:St} {K K':nG},dA call n c σ K=true→Q9 K K'→dA call' n c σ K'=true:=by
 intro c
 induction c with
 |skip=>intro σ K K' s hk;exact hk _ _ s
 |reg ops=>intro σ K K' s hk;exact MN hc s hk
 |dreg n0 rest=>
  intro σ K K' s hk
  simp only[dA] at s ⊢
  split at s
  ·exact UQ hc s hk
  ·cases s
 |seq a b iha ihb=>
  intro σ K K' s hk
  simp only[dA] at s ⊢
  refine iha s fun x σ' hx=> ?_
  cases x with
  |normal=>exact ihb hx hk
  |_=>exact hk _ _ hx
 |cond o a b iha ihb=>
  intro σ K K' s hk
  simp only[dA] at s ⊢
  split at s
  ·exact iha s hk
  ·exact ihb s hk
  ·cases s
 |block id a ih=>
  intro σ K K' s hk
  simp only[dA] at s ⊢
  refine ih s fun x σ' hx=> ?_
  cases x with
  |exit i=>
   simp only at hx ⊢
   cases hb:Nat.beq i id with
   |true=>rw[hb] at hx;exact hk _ _ hx
   |false=>rw[hb] at hx;exact hk _ _ hx
  |_=>exact hk _ _ hx
 |loop a ih=>
  intro σ K K' s hk
  exact U6 (f:=dA call n a) (f':=dA call' n a) (fun σ k k' s' hk'=>ih s' hk') hk n σ s
 |rf f ps asg body iha ihb=>
  intro σ K K' s hk
  simp only[dA] at s ⊢
  split at s
  ·refine hc _ _ _ _ _ s fun v h' hv=> ?_
   cases hp:iQ v with
   |some x=>rw[hp] at hv;cases hv
   |none=>
   rw[hp] at hv
   simp only at hv ⊢
   split at hv
   ·rename_i lo hlo
    (try simp only[hlo])
    split at hv
    ·rename_i hst;(try simp only[hst]);exact hk _ _ hv
    ·rename_i x hst;(try simp only[hst]);exact hk _ _ hv
    ·cases hv
   ·cases hv
  ·cases s
 |exit id=>intro σ K K' s hk;exact hk _ _ s
 |scope a l r iha ihr=>
  intro σ K K' s hk
  simp only[dA] at s ⊢
  refine iha s fun x σ' hx=> ?_
  cases x with
  |goto l'=>
   simp only at hx ⊢
   cases hb:Nat.beq l' l with
   |false=>rw[hb] at hx;cases hx
   |true=>rw[hb] at hx;exact OH (f:=dA call n r) (f':=dA call' n r) (fun σ k k' s' hk'=>ihr s' hk') hk n σ' hx
  |_=>exact hk _ _ hx
 |label l=>intro σ K K' s hk;exact hk _ _ s
 |goto l=>intro σ K K' s hk;exact hk _ _ s
 |ret=>intro σ K K' s hk;exact hk _ _ s
 |refuse=>intro σ K K' s hk;cases s
 |keep ks a ih=>intro σ K K' s hk;exact ih s hk
 |cut cs a ih=>
  intro σ K K' s hk
  simp only[dA] at s ⊢
  split at s
  ·exact ih s hk
  ·exact ih s hk
abbrev af6 (K K':KMo):Prop:=∀x d σ,K x d σ=true→K' x d σ=true
abbrev afP (K K':MX):Prop:=∀μ h,K μ h=true→K' μ h=true
def aaZ (df df':lN):Prop:=∀g as μ h (K K':MX),df g as μ h K=true→afP K K'→df' g as μ h K'=true
theorem Ci {μ:Mode}:∀{ops:List aU} {d:Bool} {σ:St} {K K':KMo},wD μ ops d σ K=true→af6 K K'→wD μ ops d σ K'=true
 | [],d,σ,K,K',s,hk=>hk _ _ _ s
 |o :: l,d,σ,K,K',s,hk=>by
  unfold wD at s ⊢
  split at s
  ·split at s
   ·exact Ci s hk
   ·split at s
    ·exact Ci s hk
    ·cases s
  ·exact Ci s hk
  ·cases s
theorem abx (hc:Le call call') {n:Nat} {μ:Mode}:∀{c:dx} {d:Bool} {σ:St} {K K':KMo},mO call n μ c d σ K=true→af6 K K'→mO call' n μ c d σ K'=true:=by
 intro c
 induction c with
 |seq a b iha ihb=>
  intro d σ K K' s hk
  simp only[mO] at s ⊢
  refine iha s fun x d' σ' hx=> ?_
  cases x with
  |normal=>exact ihb hx hk
  |_=>exact hk _ _ _ hx
 |cond o a b iha ihb=>
  intro d σ K K' s hk
  simp only[mO] at s ⊢
  split at s
  ·exact iha s hk
  ·exact ihb s hk
  ·cases s
 |reg ops=>
  intro d σ K K' s hk
  simp only[mO] at s ⊢
  cases hb:Er ops with
  |true=>rw[hb] at s;exact Ci s hk
  |false=>rw[hb] at s;exact pK hc s fun x σ'=>hk _ _ _
 |_=>intro d σ K K' s hk;simp only[mO] at s ⊢;exact pK hc s fun x σ'=>hk _ _ _
theorem TI {df df':lN} (hd:aaZ df df'):∀{l:List (AV×List AV)} {μ:Mode} {h:ah} {K K':MX},ends df l μ h K=true→afP K K'→ends df' l μ h K'=true
 | [],μ,h,K,K',s,hk=>hk _ _ s
 |(f,as) :: l,μ,h,K,K',s,hk=>by
  unfold ends at s ⊢
  split at s
  ·exact hd _ _ _ _ _ _ s fun μ' h' hx=>TI hd hx hk
  ·cases s
theorem Bq {df df':lN} (hd:aaZ df df') {pend:List (AV×List AV)} {x:BD} {σ:St} {K K':Mode→St→Bool} (s:atEnd df pend x σ K=true) (hk:∀μ σ,K μ σ=true→K' μ σ=true):atEnd df' pend x σ K'=true:=by
 cases x<;>first |(cases s;done)|exact TI hd s fun μ h=>hk _ _
theorem aaF (hc:Le call call') {df df':lN} (hd:aaZ df df') {n:Nat}:∀{c:dx} {pend:List (AV×List AV)} {σ:St} {K K':Mode→St→Bool},runT call df n c pend σ K=true→(∀μ σ,K μ σ=true→K' μ σ=true)→runT call' df' n c pend σ K'=true:=by
 intro c
 induction c with
 |seq a b iha ihb=>
  intro pend σ K K' s hk
  cases a with
  |reg ops=>
   unfold runT at s ⊢
   cases hs:lU ops with
   |some p=>
    obtain⟨pre,f,as⟩:=p
    rw[hs] at s
    simp only at s ⊢
    refine MN hc s fun x σ' hx=> ?_
    cases x with
    |normal=>
     simp only at hx ⊢
     split at hx
     ·exact ihb hx hk
     ·cases hx
    |_=>exact Bq hd hx hk
   |none=>
    rw[hs] at s
    simp only at s ⊢
    refine pK hc s fun x σ' hx=> ?_
    cases x with
    |normal=>exact ihb hx hk
    |_=>exact Bq hd hx hk
  |_=>
   simp only[runT] at s ⊢
   refine pK hc s fun x σ' hx=> ?_
   cases x with
   |normal=>exact ihb hx hk
   |_=>exact Bq hd hx hk
 |_=>intro pend σ K K' s hk;simp only[runT] at s ⊢;exact pK hc s fun x σ' hx=>Bq hd hx hk
theorem ZU {res:List (Nat×Option (Bool×Nat))} {K K':au} (hK:KLe K K') {μ:Mode} {σ:St} (s:nk res K μ σ=true):nk res K' μ σ=true:=by
 cases μ with
 |ret=>
  simp only[nk] at s ⊢
  split at s
  ·exact hK _ _ s
  ·cases s
 |pan v=>exact hK _ _ s
theorem abp {E:Env} (hc:Le call call') (n:Nat):aaZ (zF E call n) (zF E call' n):=by
 intro g as μ h K K' s hk
 unfold zF at s ⊢
 split at s
 ·cases s
 ·rename_i hp
  (try simp only[hp])
  split at s
  ·cases s
  ·rename_i fn hf
   (try simp only[hf])
   cases hb:(Nat.beq as.length fn.np&&fn.res.isEmpty&&mX fn.body) with
   |false=>rw[hb] at s;cases s
   |true=>
    rw[hb] at s
    simp only[cond_true] at s ⊢
    refine abx hc s fun x d σ hx=> ?_
    cases x<;>first |(cases hx;done)|exact hk _ _ hx
def Rx (call:aj) (n id:Nat) (args:List AV) (h:ah) (K:au):Bool:=
 match h.get id with
 |some (.loop l)=>match l.st with
  | .ready=>match Cg l.ps args l.regs with
    |some ρ=>dA call n l.asg ⟨ρ,h⟩ fun x σ=>match x with
     | .normal=>(match σ.h.get id with
       |some (.loop l1)=>match l1.st with
        | .ready=>dA call n l.body ⟨σ.regs,σ.h.put id (.loop {l1 with st:= .busy})⟩ fun x σ2=>
          match σ2.h.get id with
          |some (.loop l2)=>match x with
           | .normal=>K (.bool true) (σ2.h.put id (.loop {l2 with st:= .ready}))
           | .panic _=>false
           |x=>K (.bool false) (σ2.h.put id (.loop {l2 with st:= .done x}))
          |_=>false
        |_=>false
       |_=>false)
     |_=>false
    |none=>false
  |_=>false
 |_=>false
theorem V7 (hc:Le call call') {n id:Nat} {args:List AV} {h:ah} {K K':au} (s:Rx call n id args h K=true) (hK:KLe K K'):Rx call' n id args h K'=true:=by
 unfold Rx at s ⊢
 split at s
 rotate_left
 ·cases s
 rename_i l hl
 (try simp only[hl])
 split at s
 rotate_left
 ·cases s
 rename_i hst
 (try simp only[hst])
 split at s
 rotate_left
 ·cases s
 rename_i ρ hρ
 (try simp only[hρ])
 refine pK hc s fun x σ hx=> ?_
 cases x<;>first |(cases hx;done)|skip
 simp only at hx ⊢
 split at hx
 rotate_left
 ·cases hx
 rename_i l1 hl1
 (try simp only[hl1])
 split at hx
 rotate_left
 ·cases hx
 rename_i hst1
 (try simp only[hst1])
 refine pK hc hx fun x σ2 hx2=> ?_
 split at hx2
 rotate_left
 ·cases hx2
 rename_i l2 hl2
 (try simp only[hl2])
 cases x<;>first |(cases hx2;done)|exact hK _ _ hx2
abbrev Sh:=aj→Nat→List AV→ah→au→Bool
def Yt (E:Env) (call:aj) (n f:Nat) (a:List AV) (h:ah) (K:au):Bool:=
 match E.prim f with
 |some p=>p call n a h K
 |none=>match E.code f with
  |none=>false
  |some fn=>bif Nat.beq a.length fn.np then runT call (zF E call n) n fn.body [] ⟨oK 0 a .lf,h⟩ (nk fn.res K) else false
def LC (E:Env):Prop:=∀f p,E.prim f=some p→∀(call call':aj) n args h (K K':au),Le call call'→KLe K K'→p call n args h K=true→p call' n args h K'=true
def bA (E:Env) (k:Nat) (s:Sh):Prop:=∀(call call':aj) n args h (K K':au),Le call call'→Le call' call'→KLe K K'→s call n args h K=true→
 ∃fn,E.code k=some fn∧E.prim k=none∧args.length=fn.np∧∀df,runT call' df n fn.body [] ⟨oK 0 args .lf,h⟩ (nk fn.res K')=true
theorem Jt {E:Env} (hp:LC E):∀n,Le (av E n) (av E n)
 |0=>fun _ _ _ _ _ s _=>by cases s
 |n+1=>by
  intro t a h K K' s hK
  have ih:=Jt hp n
  cases t with
  |yield id=>exact V7 ih s hK
  |func f=>
   simp only[av] at s ⊢
   cases hpf:E.prim f with
   |some p=>
    rw[hpf] at s
    exact hp f p hpf _ _ n a h K K' ih hK s
   |none=>
    rw[hpf] at s
    simp only at s ⊢
    split at s
    ·cases s
    ·rename_i fn hf
     (try simp only[hf])
     cases hb:Nat.beq a.length fn.np with
     |false=>rw[hb] at s;cases s
     |true=>
      rw[hb] at s
      simp only[cond_true] at s ⊢
      exact aaF ih (abp ih n) s fun μ σ=>ZU hK
end
end
abbrev KL:=BD→fK→ah→Bool
abbrev Pv:=List AV→ah→Bool
abbrev Bt:=List Pv
def wz (l:fK) (dst:Option Nat) (v:AV):fK:=
 match dst with
 |some d=>(d,v) :: l
 |none=>l
theorem Has.wz {ρ:dw} {l:fK} (H:Has ρ l) (dst:Option Nat) (v:AV):Has (put ρ dst v) (wz l dst v):=by
 cases dst with
 |none=>exact H
 |some d=>exact H.set d v
noncomputable section
def m1 {α:Type} (l:fK) (x:bS) (f:AV→α):Option α:=
 match nP l x with
 |some v=>some (f v)
 |none=>none
def m2 {α:Type} (l:fK) (x y:bS) (f:AV→AV→α):Option α:=
 match nP l x with
 |some v=>match nP l y with
  |some w=>some (f v w)
  |none=>none
 |none=>none
def m3 {α:Type} (l:fK) (x y z:bS) (f:AV→AV→AV→α):Option α:=
 match nP l x with
 |some v=>match nP l y with
  |some w=>match nP l z with
   |some u=>some (f v w u)
   |none=>none
  |none=>none
 |none=>none
abbrev PF:=(AV→Bool)→Bool
abbrev HF:=au→Bool
def Au (l:fK) (h:ah) (op:fE):Option PF:=
 match op with
 | .fadr off x=>m1 l x fun v=>aA off v
 | .load false _ x=>m1 l x fun v=>ay h v
 | .load true n x=>m1 l x fun v=>bL h n v
 | .bin .eql x y=>m2 l x y dS
 | .bin .neq x y=>m2 l x y jF
 | .bin .lss x y=>m2 l x y lI
 | .bin .leq x y=>m2 l x y JM
 | .bin .gtr x y=>m2 l x y JI
 | .bin .geq x y=>m2 l x y Cr
 | .bin .add x y=>m2 l x y gX
 | .bin .sub x y=>m2 l x y JJ
 | .pick c a b=>m3 l c a b bU
 | .not x=>m1 l x lq
 | .nilck x=>m1 l x bI
 | .ext x i=>m1 l x fun v=>ko i v
 | .len 0 x=>m1 l x nW
 | .len 1 x=>m1 l x gu
 | .iadr sz x y=>m2 l x y (dX h sz)
 | .idxs x y=>m2 l x y ES
 | .fld false off _ x=>m1 l x fun v=>Nz off v
 | .sls x lo hi=>(match nP l x,El l lo,El l hi with
   |some v,some lo,some hi=>some (Nh v lo hi)
   |_,_,_=>none)
 | .build z ps=>(match CO l ps with
   |some vs=>some (dK z vs)
   |none=>none)
 |op=>match kC l h op with
  |some o=>some (bM o)
  |none=>none
def Oa (l:fK) (h:ah) (op:fE):Option HF:=
 match op with
 | .store 1 a v=>m2 l a v fun a v k=>bJ h a v fun h=>k (.tup []) h
 | .store (n+2) a v=>m2 l a v fun a v k=>aN h (n+2) a v fun h=>k (.tup []) h
 | .alloc z=>(match Nat.beq z.length 0 with
   |false=>(match aD z with
    |true=>some (bR h z z.length)
    |false=>some (aW (oV h z)))
   |true=>some (aW (oV h z)))
 | .box none 1 x=>m1 l x fun v=>Es h v
 | .app (n+1) bytes s x=>m2 l s x fun s x=>pV h (n+1) bytes s x
 |op=>match E8 l h op with
  |some o=>some (aW o)
  |none=>none
def Hg (call:aj) (l:fK) (f:bS) (vs:List AV) (h:ah) (k:au):Bool:=
 match f with
 | .c (.fn (.func g) [] [])=>call (.func g) vs h k
 |f=>match nP l f with
  |some fv=>mI call fv vs h k
  |none=>false
def dnP (l:fK) (h:ah) (op:fE) (g:Option (AV×Bool)) (k:au):Bool:=
 match Au l h op with
 |some F=>(match g with
  |none=>F fun v=>k v h
  |some (w,b)=>gK w b F fun v=>k v h)
 |none=>match Oa l h op with
  |some F=>(match g with
   |none=>F k
   |some (w,b)=>gP w b F h k)
  |none=>false
def Y9 (Q:au) (v:AV) (h:ah):Bool:=
 match v with
 | .ifc t u=>Q (.pan (.ifc t u)) h
 |_=>false
def dnO (call:aj) (Q:au) (o:aU) (l:fK) (h:ah) (k:fK→ah→Bool):Bool:=
 match o with
 |⟨dst,op,none⟩=>(match op with
  | .fail=>false
  | .nxt x=>(match nP l x with
    |some v=>H9 h v fun v h=>k (wz l dst v) h
    |none=>false)
  | .pnc x=>(match nP l x with
    |some v=>Y9 Q v h
    |none=>false)
  | .call f xs=>(match Ie l xs with
    |some vs=>Hg call l f vs h (pz Q fun v h=>k (wz l dst v) h)
    |none=>false)
  | .mv x=>(match dst with
    |some d=>(match nP l x with
     |some v=>k ((d,v) :: l) h
     |none=>false)
    |none=>dnP l h (.mv x) none fun _ h=>k l h)
  |op=>dnP l h op none fun v h=>k (wz l dst v) h)
 |⟨dst,op,some (j,b)⟩=>match l.get j with
  |none=>false
  |some g=>(match op with
   | .fail=>false
   | .nxt _=>false
   | .pnc x=>(match nP l x with
     |some v=>gP g b (fun _=>Y9 Q v h) h fun v h=>k (wz l dst v) h
     |none=>false)
   | .call f xs=>(match Ie l xs with
     |some vs=>gP g b (fun k=>Hg call l f vs h (pz Q k)) h fun v h=>k (wz l dst v) h
     |none=>false)
   |op=>dnP l h op (some (g,b)) fun v h=>k (wz l dst v) h)
def dnR (call:aj) (Q:au):List aU→fK→ah→(fK→ah→Bool)→Bool
 | [],l,h,k=>k l h
 |o :: ops,l,h,k=>dnO call Q o l h fun l h=>dnR call Q ops l h k
def dnK:List aU→fK→ah→(fK→Bool)→Bool
 | [],l,_,k=>k l
 |⟨some d, .mv x,none⟩ :: ops,l,h,k=>(match nP l x with
  |some v=>dnK ops ((d,v) :: l) h k
  |none=>false)
 |⟨dst,op,none⟩ :: ops,l,h,k=>(match Au l h op with
  |some F=>F fun v=>dnK ops (wz l dst v) h k
  |none=>false)
 |⟨dst,op,some (j,b)⟩ :: ops,l,h,k=>(match l.get j with
  |none=>false
  |some g=>match Au l h op with
   |some F=>gK g b F fun v=>dnK ops (wz l dst v) h k
   |none=>false)
def dN (u:AV) (r:Bool) (v:AV):Bool:=jM (AV.same v u) r false
def gS (g:AV) (b:Bool) (run:Bool→Bool) (r:Bool):Bool:=
 match g with
 | .bool x=>bif x==b then run r else r
 |_=>r
def dnA:List aU→fK→ah→Bool→Bool
 | [],_,_,r=>r
 |⟨none,_,_⟩ :: _,_,_,_=>false
 |⟨some d,op,none⟩ :: ops,l,h,r=>(match Au l h op with
  |some F=>(match l.get d with
   |some u=>F (dN u (dnA ops l h r))
   |none=>false)
  |none=>false)
 |⟨some d,op,some (j,b)⟩ :: ops,l,h,r=>(match l.get j with
  |some g=>(match Au l h op with
   |some F=>(match l.get d with
    |some u=>gS g b (fun r=>F (dN u r)) (dnA ops l h r)
    |none=>false)
   |none=>false)
  |none=>false)
def JX:AV→Nat
 | .ptr id _ _ _=>id
 | .slc id _ _ _ _ _=>id
 | .map id=>id
 |_=>0
def sP (es:List AV) (Q:au):au:=
 match es with
 | []=>Q
 |e :: es=>fun v h=>match nA (JX e :: es.map JX) h with
  |some h=>Q v h
  |none=>false
def ZQ (o:aU) (l:fK):Option (List AV):=
 bif iB o then(match o.dst with
  |some d=>(match l.get d with
   |some v=>some [v]
   |none=>none)
  |none=>none) else some []
def dnD (call:aj) (Q:au):List (aU×List aU×List aU)→List AV→fK→ah→(fK→ah→Bool)→Bool
 | [],_,l,h,k=>k l h
 |(act,chk,ns) :: rest,es,l,h,k=>dnO call (sP es Q) act l h fun l h=>match ZQ act l with
  |none=>false
  |some e=>dnA chk l h (dnK ns l h fun l=>dnD call Q rest (e++es) l h k)
inductive iE where
 |skip
 |reg (ops:List aU)
 |rseq (ops:List aU) (b:iE)
 |dreg (n0:List aU) (rest:List (aU×List aU×List aU))
 |seq (a b:iE)
 |cond (c:bS) (a b:iE)
 |block (id:Nat) (c:iE)
 |loop (j:Nat) (ks:List Nat) (c:iE)
 |exit (id:Nat)
 |scope (j:Nat) (ks:List Nat) (fks:List Nat) (c:iE) (l:Nat) (r:iE)
 |label (l:Nat)
 |goto (l:Nat)
 |ret
 |refuse
 |pt (j:Nat) (ks:List Nat) (c:iE)
 |stop (c:dx)
def iE.ops:iE→List aU
 | .reg l=>l
 | .rseq l b=>l++b.ops
 | .pt _ _ b=>b.ops
 |_=>[]
def iE.isReg:iE→Bool
 | .reg _=>true
 | .rseq _ b=>b.isReg
 | .pt _ _ b=>b.isReg
 |_=>false
def iE.erase:iE→dx
 | .skip=> .skip
 | .reg ops=> .reg ops
 | .rseq ops b=> .reg (ops++b.ops)
 | .dreg n0 rest=> .dreg n0 rest
 | .seq a b=> .seq a.erase b.erase
 | .cond c a b=> .cond c a.erase b.erase
 | .block id c=> .block id c.erase
 | .loop _ _ c=> .loop c.erase
 | .exit id=> .exit id
 | .scope _ _ _ c l r=> .scope c.erase l r.erase
 | .label l=> .label l
 | .goto l=> .goto l
 | .ret=> .ret
 | .refuse=> .refuse
 | .pt _ _ c=>c.erase
 | .stop c=>c
structure Ann where
 pts:List (Nat×List Nat)
 lps:List (Nat×List Nat)
 scs:List (Nat×List Nat):=[]
 cuts:List (Nat×List (Nat×Nat×List Nat)):=[]
def WA {α:Type}:List (Nat×α)→Nat→Option α
 | [],_=>none
 |(k,v) :: l,n=>bif Nat.beq n k then some v else WA l n
def rT (A:Ann) (i:Nat) (c:iE):iE:=
 match WA A.pts i with
 |some ks=> .pt i ks c
 |none=>c
def splitB:List (Nat×Nat×List Nat)→List aU→iE
 | [],ops=> .reg ops
 |(m,j,ks) :: l,ops=> .rseq (ops.take m) (.pt j ks (splitB l (ops.drop m)))
def afn (A:Ann) (i:Nat) (ops:List aU):iE:=
 match WA A.cuts i with
 |some l=>splitB l ops
 |none=> .reg ops
def toB (A:Ann):dx→Nat→iE×Nat
 | .skip,i=>(rT A i .skip,i+1)
 | .reg ops,i=>(rT A i (afn A i ops),i+1)
 | .dreg n0 rest,i=>(rT A i (.dreg n0 rest),i+1)
 | .seq a b,i=>match toB A a (i+1) with
   |(a',i1)=>match toB A b i1 with
    |(b',i2)=>(rT A i (.seq a' b'),i2)
 | .cond c a b,i=>match toB A a (i+1) with
   |(a',i1)=>match toB A b i1 with
    |(b',i2)=>(rT A i (.cond c a' b'),i2)
 | .block id a,i=>match toB A a (i+1) with
   |(a',i1)=>(rT A i (.block id a'),i1)
 | .loop a,i=>match toB A a (i+1) with
   |(a',i1)=>(match WA A.lps i with
    |some ks=>(rT A i (.loop i ks a'),i1)
    |none=>(.stop (.loop a),i1))
 | .exit id,i=>(rT A i (.exit id),i+1)
 | .scope a l b,i=>match toB A a (i+1) with
   |(a',i1)=>match toB A b i1 with
    |(b',i2)=>(match WA A.lps i with
     |some ks=>(match WA A.scs i with
      |some fks=>(rT A i (.scope i ks fks a' l b'),i2)
      |none=>(.stop (.scope a l b),i2))
     |none=>(.stop (.scope a l b),i2))
 | .label l,i=>(rT A i (.label l),i+1)
 | .goto l,i=>(rT A i (.goto l),i+1)
 | .ret,i=>(rT A i .ret,i+1)
 | .refuse,i=>(rT A i .refuse,i+1)
 | .rf f ps a b,i=>(.stop (.rf f ps a b),i+1)
 | .keep ks c,i=>(.stop (.keep ks c),i+1)
 | .cut cs c,i=>(.stop (.cut cs c),i+1)
theorem JD:∀(l:List (Nat×Nat×List Nat)) (ops:List aU),(splitB l ops).ops=ops∧(splitB l ops).isReg=true∧(splitB l ops).erase= .reg ops
 | [],ops=>⟨rfl,rfl,rfl⟩
 |(m,j,ks) :: l,ops=>by
  obtain⟨h1,h2,h3⟩:=JD l (ops.drop m)
  simp only[splitB,iE.ops,iE.isReg,iE.erase,h1,h2,List.take_append_drop,and_self]
theorem Sj (A:Ann) (i:Nat) (ops:List aU):(afn A i ops).erase= .reg ops:=by
 unfold afn
 split
 ·exact(JD _ _).2.2
 ·rfl
theorem nJ (A:Ann) (i:Nat) (c:iE):(rT A i c).erase=c.erase:=by
 unfold rT;split<;>rfl
theorem Wn (A:Ann):∀(c:dx) (i:Nat),(toB A c i).1.erase=c:=by
 intro c
 induction c with
 |seq a b iha ihb=>intro i;simp only[toB,nJ,iE.erase,iha,ihb]
 |cond o a b iha ihb=>intro i;simp only[toB,nJ,iE.erase,iha,ihb]
 |block id a ih=>intro i;simp only[toB,nJ,iE.erase,ih]
 |loop a ih=>
  intro i
  simp only[toB]
  split
  ·simp only[nJ,iE.erase,ih]
  ·rfl
 |scope a l b iha ihb=>
  intro i
  simp only[toB]
  split
  ·split
   ·simp only[nJ,iE.erase,iha,ihb]
   ·rfl
  ·rfl
 |reg ops=>intro i;simp only[toB,nJ,Sj]
 |_=>intro i;simp only[toB,nJ,iE.erase]
structure Sp where
 pt:Bt→Nat→Pv
 fs:Bt→Nat→Pv
 rd:Bt→Nat→Pv
 lp:Bt→Nat→Nat→Pv
def vals:fK→List AV
 | []=>[]
 |(_,v) :: l=>v :: vals l
def FZ (id:Nat) (K:KL):KL:=fun x l h=>
 match x with
 | .exit i=>bif Nat.beq i id then K .normal l h else K (.exit i) l h
 |x=>K x l h
def goL (B:Pv) (ks:List Nat) (l:fK) (h:ah):Bool:=
 match AJ ks l with
 |some l'=>B (vals l') h
 |none=>false
def K9 (B:Pv) (ks:List Nat) (K:KL):KL:=fun x l h=>
 match x with
 | .normal=>goL B ks l h
 |x=>K x l h
def vV (lb:Nat) (B:Pv) (ks:List Nat) (K:KL):KL:=fun x l h=>
 match x with
 | .goto l'=>bif Nat.beq l' lb then goL B ks l h else false
 |x=>K x l h
def BU (call:aj) (n:Nat) (Q:au) (S:Sp) (β:Bt):iE→fK→ah→KL→Bool
 | .skip,l,h,K=>K .normal l h
 | .reg ops,l,h,K=>dnR call Q ops l h (K .normal)
 | .rseq ops b,l,h,K=>(match b.isReg with
   |true=>dnR call Q ops l h fun l h=>BU call n Q S β b l h K
   |false=>false)
 | .dreg n0 rest,l,h,K=>dnK n0 l h fun l=>dnD call Q rest [] l h (K .normal)
 | .seq a b,l,h,K=>BU call n Q S β a l h fun x l h=>match x with
   | .normal=>BU call n Q S β b l h K
   |x=>K x l h
 | .cond c a b,l,h,K=>(match nP l c with
   |some v=>aM v (BU call n Q S β a l h K) (BU call n Q S β b l h K)
   |none=>false)
 | .block id a,l,h,K=>BU call n Q S β a l h (FZ id K)
 | .loop j ks _,l,h,_=>goL (S.lp β j n) ks l h
 | .pt j ks _,l,h,_=>goL (S.pt β j) ks l h
 | .scope j _ fks _ _ _,l,h,_=>goL (S.fs (S.lp β j n :: β) j) fks l h
 | .exit id,l,h,K=>K (.exit id) l h
 | .label _,l,h,K=>K .normal l h
 | .goto lb,l,h,K=>K (.goto lb) l h
 | .ret,l,h,K=>K .ret l h
 | .refuse,_,_,_=>false
 | .stop _,_,_,_=>false
abbrev F0:=ah→Bool
abbrev F1:=AV→F0
abbrev F2:=AV→F1
abbrev F3:=AV→F2
abbrev F4:=AV→F3
abbrev F5:=AV→F4
abbrev F6:=AV→F5
abbrev Fn:=(Nat→Pv)→Nat→(Nat→AV)→ah→Bool
def stk:Nat→Nat→(Nat→Pv)→Bt
 |0,_,_=>[]
 |d+1,i,τ=>τ i :: stk d (i+1) τ
def vZ:List Nat→Nat→(Nat→AV)→fK
 | [],_,_=>[]
 |k :: ks,i,σ=>(k,σ i) :: vZ ks (i+1) σ
def VY:Nat→Nat→(Nat→AV)→List AV
 |0,_,_=>[]
 |n+1,i,σ=>σ i :: VY n (i+1) σ
def vW (f:Pv→KL→KL) (K:Bt→KL):Bt→KL
 |B :: β=>f B (K β)
 | []=>fun _ _ _=>false
def Sn (call:aj) (n:Nat) (Q:au) (S:Sp):Nat→iE→(Bt→KL)→List (Fn×Fn)
 |d, .pt j ks a,K=>(fun τ _ σ h=>S.pt (stk d 0 τ) j (vals (vZ ks 0 σ)) h,fun τ _ σ h=>BU call n Q S (stk d 0 τ) a (vZ ks 0 σ) h (K (stk d 0 τ))) :: Sn call n Q S d a K
 |d, .loop j ks a,K=>
  (fun τ _ σ h=>S.rd (stk (d+1) 0 τ) j (vals (vZ ks 0 σ)) h,fun τ _ σ h=>BU call n Q S (stk (d+1) 0 τ) a (vZ ks 0 σ) h (vW (fun B=>K9 B ks) K (stk (d+1) 0 τ))) ::
  (fun τ _ σ h=>S.lp (stk d 0 τ) j 0 (vals (vZ ks 0 σ)) h,fun _ _ _ _=>false) ::
  (fun τ m σ h=>S.lp (stk d 0 τ) j (m+1) (vals (vZ ks 0 σ)) h,fun τ m σ h=>S.rd (S.lp (stk d 0 τ) j m :: stk d 0 τ) j (vals (vZ ks 0 σ)) h) ::
  Sn call n Q S (d+1) a (vW (fun B=>K9 B ks) K)
 |d, .rseq _ b,K=>Sn call n Q S d b K
 |d, .seq a b,K=>Sn call n Q S d a (fun β x l h=>match x with
   | .normal=>BU call n Q S β b l h (K β)
   |x=>K β x l h)++Sn call n Q S d b K
 |d, .cond _ a b,K=>Sn call n Q S d a K++Sn call n Q S d b K
 |d, .block id a,K=>Sn call n Q S d a (fun β=>FZ id (K β))
 |d, .scope j ks fks a lb r,K=>
  (fun τ _ σ h=>S.fs (stk (d+1) 0 τ) j (vals (vZ fks 0 σ)) h,fun τ _ σ h=>BU call n Q S (stk (d+1) 0 τ) a (vZ fks 0 σ) h (vW (fun B=>vV lb B ks) K (stk (d+1) 0 τ))) ::
  (fun τ _ σ h=>S.rd (stk (d+1) 0 τ) j (vals (vZ ks 0 σ)) h,fun τ _ σ h=>BU call n Q S (stk (d+1) 0 τ) r (vZ ks 0 σ) h (vW (fun B=>vV lb B ks) K (stk (d+1) 0 τ))) ::
  (fun τ _ σ h=>S.lp (stk d 0 τ) j 0 (vals (vZ ks 0 σ)) h,fun _ _ _ _=>false) ::
  (fun τ m σ h=>S.lp (stk d 0 τ) j (m+1) (vals (vZ ks 0 σ)) h,fun τ m σ h=>S.rd (S.lp (stk d 0 τ) j m :: stk d 0 τ) j (vals (vZ ks 0 σ)) h) ::
  (Sn call n Q S (d+1) a (vW (fun B=>vV lb B ks) K)++Sn call n Q S (d+1) r (vW (fun B=>vV lb B ks) K))
 |_,_,_=>[]
abbrev dH (j k:Nat) (v r:Pv):Pv:=@Bool.rec (fun _=>Pv) r v (Nat.beq j k)
abbrev yV (j k:Nat) (v r:Pv):Pv:=@Bool.rec (fun _=>Pv) r v (Nat.beq j k)
abbrev dh:Pv:=fun _ _=>false
abbrev Ji:aj→Nat→au→Sp:=fun _ _ _=>{pt:=fun _ _=>dh,fs:=fun _ _=>dh,rd:=fun _ _=>dh,lp:=fun _ _ _=>dh}
def pB:Nat→Bt→Pv
 |_,[]=>fun _ _=>false
 |0,B :: _=>B
 |i+1,_ :: β=>pB i β
def pA0 (f:ah→au→Bool) (K:au):Pv:=let _:=@BU;fun t0 h=>@List.rec AV (fun _=>Bool) (f h K) (fun _ _ _=>false) t0
def pF1 (B:Pv):F1:=fun x0 h=>B [x0] h
def qO (f:AV→ah→au→Bool) (K:au):Pv:=let _:=@BU;fun t0 h=>@List.rec AV (fun _=>Bool) false (fun x0 t1 _=>@List.rec AV (fun _=>Bool) (f x0 h K) (fun _ _ _=>false) t1) t0
def pC1 (f:AV→ah→au→Bool) (K:au):Pv:=let _:=@BU;fun t0 h=>@List.rec AV (fun _=>Bool) false (fun x0 t1 _=>@List.rec AV (fun _=>Bool) (f x0 h K) (fun _ _ _=>false) t1) t0
def Qn (B:Pv):F2:=fun x0 x1 h=>B [x0,x1] h
def jc (f:AV→AV→ah→au→Bool) (K:au):Pv:=let _:=@BU;fun t0 h=>@List.rec AV (fun _=>Bool) false (fun x0 t1 _=>@List.rec AV (fun _=>Bool) false (fun x1 t2 _=>@List.rec AV (fun _=>Bool) (f x0 x1 h K) (fun _ _ _=>false) t2) t1) t0
def pC2 (f:AV→AV→ah→au→Bool) (K:au):Pv:=let _:=@BU;fun t0 h=>@List.rec AV (fun _=>Bool) false (fun x0 t1 _=>@List.rec AV (fun _=>Bool) false (fun x1 t2 _=>@List.rec AV (fun _=>Bool) (f x0 x1 h K) (fun _ _ _=>false) t2) t1) t0
def uS (B:Pv):F3:=fun x0 x1 x2 h=>B [x0,x1,x2] h
def kD (f:AV→AV→AV→ah→au→Bool) (K:au):Pv:=let _:=@BU;fun t0 h=>@List.rec AV (fun _=>Bool) false (fun x0 t1 _=>@List.rec AV (fun _=>Bool) false (fun x1 t2 _=>@List.rec AV (fun _=>Bool) false (fun x2 t3 _=>@List.rec AV (fun _=>Bool) (f x0 x1 x2 h K) (fun _ _ _=>false) t3) t2) t1) t0
def Nq (f:AV→AV→AV→ah→au→Bool) (K:au):Pv:=let _:=@BU;fun t0 h=>@List.rec AV (fun _=>Bool) false (fun x0 t1 _=>@List.rec AV (fun _=>Bool) false (fun x1 t2 _=>@List.rec AV (fun _=>Bool) false (fun x2 t3 _=>@List.rec AV (fun _=>Bool) (f x0 x1 x2 h K) (fun _ _ _=>false) t3) t2) t1) t0
def Tf (B:Pv):F4:=fun x0 x1 x2 x3 h=>B [x0,x1,x2,x3] h
def qV (f:AV→AV→AV→AV→ah→au→Bool) (K:au):Pv:=let _:=@BU;fun t0 h=>@List.rec AV (fun _=>Bool) false (fun x0 t1 _=>@List.rec AV (fun _=>Bool) false (fun x1 t2 _=>@List.rec AV (fun _=>Bool) false (fun x2 t3 _=>@List.rec AV (fun _=>Bool) false (fun x3 t4 _=>@List.rec AV (fun _=>Bool) (f x0 x1 x2 x3 h K) (fun _ _ _=>false) t4) t3) t2) t1) t0
def pC4 (f:AV→AV→AV→AV→ah→au→Bool) (K:au):Pv:=let _:=@BU;fun t0 h=>@List.rec AV (fun _=>Bool) false (fun x0 t1 _=>@List.rec AV (fun _=>Bool) false (fun x1 t2 _=>@List.rec AV (fun _=>Bool) false (fun x2 t3 _=>@List.rec AV (fun _=>Bool) false (fun x3 t4 _=>@List.rec AV (fun _=>Bool) (f x0 x1 x2 x3 h K) (fun _ _ _=>false) t4) t3) t2) t1) t0
def pA5 (f:AV→AV→AV→AV→AV→ah→au→Bool) (K:au):Pv:=let _:=@BU;fun t0 h=>@List.rec AV (fun _=>Bool) false (fun x0 t1 _=>@List.rec AV (fun _=>Bool) false (fun x1 t2 _=>@List.rec AV (fun _=>Bool) false (fun x2 t3 _=>@List.rec AV (fun _=>Bool) false (fun x3 t4 _=>@List.rec AV (fun _=>Bool) false (fun x4 t5 _=>@List.rec AV (fun _=>Bool) (f x0 x1 x2 x3 x4 h K) (fun _ _ _=>false) t5) t4) t3) t2) t1) t0
def pF6 (B:Pv):F6:=fun x0 x1 x2 x3 x4 x5 h=>B [x0,x1,x2,x3,x4,x5] h
def W9 (f:AV→AV→AV→AV→AV→AV→ah→au→Bool) (K:au):Pv:=let _:=@BU;fun t0 h=>@List.rec AV (fun _=>Bool) false (fun x0 t1 _=>@List.rec AV (fun _=>Bool) false (fun x1 t2 _=>@List.rec AV (fun _=>Bool) false (fun x2 t3 _=>@List.rec AV (fun _=>Bool) false (fun x3 t4 _=>@List.rec AV (fun _=>Bool) false (fun x4 t5 _=>@List.rec AV (fun _=>Bool) false (fun x5 t6 _=>@List.rec AV (fun _=>Bool) (f x0 x1 x2 x3 x4 x5 h K) (fun _ _ _=>false) t6) t5) t4) t3) t2) t1) t0
def pC6 (f:AV→AV→AV→AV→AV→AV→ah→au→Bool) (K:au):Pv:=let _:=@BU;fun t0 h=>@List.rec AV (fun _=>Bool) false (fun x0 t1 _=>@List.rec AV (fun _=>Bool) false (fun x1 t2 _=>@List.rec AV (fun _=>Bool) false (fun x2 t3 _=>@List.rec AV (fun _=>Bool) false (fun x3 t4 _=>@List.rec AV (fun _=>Bool) false (fun x4 t5 _=>@List.rec AV (fun _=>Bool) false (fun x5 t6 _=>@List.rec AV (fun _=>Bool) (f x0 x1 x2 x3 x4 x5 h K) (fun _ _ _=>false) t6) t5) t4) t3) t2) t1) t0
def pA7 (f:AV→AV→AV→AV→AV→AV→AV→ah→au→Bool) (K:au):Pv:=let _:=@BU;fun t0 h=>@List.rec AV (fun _=>Bool) false (fun x0 t1 _=>@List.rec AV (fun _=>Bool) false (fun x1 t2 _=>@List.rec AV (fun _=>Bool) false (fun x2 t3 _=>@List.rec AV (fun _=>Bool) false (fun x3 t4 _=>@List.rec AV (fun _=>Bool) false (fun x4 t5 _=>@List.rec AV (fun _=>Bool) false (fun x5 t6 _=>@List.rec AV (fun _=>Bool) false (fun x6 t7 _=>@List.rec AV (fun _=>Bool) (f x0 x1 x2 x3 x4 x5 x6 h K) (fun _ _ _=>false) t7) t6) t5) t4) t3) t2) t1) t0
def pA8 (f:AV→AV→AV→AV→AV→AV→AV→AV→ah→au→Bool) (K:au):Pv:=let _:=@BU;fun t0 h=>@List.rec AV (fun _=>Bool) false (fun x0 t1 _=>@List.rec AV (fun _=>Bool) false (fun x1 t2 _=>@List.rec AV (fun _=>Bool) false (fun x2 t3 _=>@List.rec AV (fun _=>Bool) false (fun x3 t4 _=>@List.rec AV (fun _=>Bool) false (fun x4 t5 _=>@List.rec AV (fun _=>Bool) false (fun x5 t6 _=>@List.rec AV (fun _=>Bool) false (fun x6 t7 _=>@List.rec AV (fun _=>Bool) false (fun x7 t8 _=>@List.rec AV (fun _=>Bool) (f x0 x1 x2 x3 x4 x5 x6 x7 h K) (fun _ _ _=>false) t8) t7) t6) t5) t4) t3) t2) t1) t0
def G7 (l:fK):List (Nat×Option (Bool×Nat))→Option (List (AV×Option (Bool×Nat)))
 | []=>some []
 |(t,x) :: r=>match l.get t with
  |some v=>match G7 l r with
   |some vs=>some ((v,x) :: vs)
   |none=>none
  |none=>none
def fG (h:ah):List (AV×Option (Bool×Nat))→Option (List AV)
 | []=>some []
 |(v,none) :: r=>match fG h r with
  |some vs=>some (v :: vs)
  |none=>none
 |(a,some (ag,n)) :: r=>match dZ h ag n a with
  |some v=>match fG h r with
   |some vs=>some (v :: vs)
   |none=>none
  |none=>none
def gq (o:Option (List AV)) (h:ah) (K:au):Bool:=
 match o with
 |some l=>K (oneOf l) h
 |none=>false
def aaY (res:List (Nat×Option (Bool×Nat))) (l:fK) (h:ah) (K:au):Bool:=
 match G7 l res with
 |some m=>bif res.any (fun x=>x.2.isSome) then gq (fG h m) h K else K (oneOf (m.map fun x=>x.1)) h
 |none=>false
def YW (res:List (Nat×Option (Bool×Nat))) (K:au):KL:=fun x l h=>
 match x with
 | .normal=>aaY res l h K
 | .ret=>aaY res l h K
 |_=>false
def Vr:Nat→List AV→fK→fK
 |_,[],l=>l
 |i,v :: vs,l=>Vr (i+1) vs ((i,v) :: l)
def ahx (call:aj) (n:Nat) (K:au) (S:Sp) (top:Pv) (A:Ann) (fn:dG):List (Fn×Fn):=
 (fun _ _ σ h=>top (VY fn.np 0 σ) h,fun _ _ σ h=>BU call n K S [] (toB A fn.body 0).1 (Vr 0 (VY fn.np 0 σ) []) h (YW fn.res K)) :: Sn call n K S 0 (toB A fn.body 0).1 fun _=>YW fn.res K
end
section
variable {call call':aj} {n:Nat} {ρ:dw} {l:fK} {h:ah} {op:fE}
theorem qQ {α:Type} {o:Option α} {k:α→Bool} (s:bM o k=true):∃v,o=some v∧k v=true:=by
 cases o with
 |none=>cases s
 |some v=>exact⟨v,rfl,s⟩
theorem GH {o:Option (AV×ah)} {k:au} (s:aW o k=true):∃v h',o=some (v,h')∧k v h'=true:=by
 cases o with
 |none=>cases s
 |some p=>exact⟨p.1,p.2,rfl,s⟩
theorem pO {α:Type} {x:bS} {f:AV→α} {y:α} (e:m1 l x f=some y):∃v,nP l x=some v∧y=f v:=by
 unfold m1 at e
 split at e
 ·rename_i v hv;cases e;exact⟨v,hv,rfl⟩
 ·cases e
theorem mG {α:Type} {x z:bS} {f:AV→AV→α} {y:α} (e:m2 l x z f=some y):∃v w,nP l x=some v∧nP l z=some w∧y=f v w:=by
 unfold m2 at e
 split at e
 ·rename_i v hv
  split at e
  ·rename_i w hw;cases e;exact⟨v,w,hv,hw,rfl⟩
  ·cases e
 ·cases e
theorem aaS {α:Type} {x z t:bS} {f:AV→AV→AV→α} {y:α} (e:m3 l x z t f=some y):∃v w u,nP l x=some v∧nP l z=some w∧nP l t=some u∧y=f v w u:=by
 unfold m3 at e
 split at e
 ·rename_i v hv
  split at e
  ·rename_i w hw
   split at e
   ·rename_i u hu;cases e;exact⟨v,w,u,hv,hw,hu,rfl⟩
   ·cases e
  ·cases e
 ·cases e
theorem OQ (c a b:AV) (k:AV→Bool):bU c a b k=bM (Pp c a b) k:=by
 cases c<;>try rfl
 rename_i x;cases x<;>rfl
theorem uG {F:PF} (e:Au l h op=some F):∃o,kC l h op=some o∧∀k,F k=bM o k:=by
 unfold Au at e
 split at e
 case h_1=>obtain⟨v,hv,rfl⟩:=pO e;exact⟨_,by simp only[kC,l1,hv]<;>rfl,fun k=>YD _ _ _⟩
 case h_2=>obtain⟨v,hv,rfl⟩:=pO e;exact⟨_,by simp only[kC,l1,hv]<;>rfl,fun k=>NZ _ _ _ _⟩
 case h_3=>obtain⟨v,hv,rfl⟩:=pO e;exact⟨_,by simp only[kC,l1,hv]<;>rfl,fun k=>KY _ _ _ _⟩
 case h_4=>obtain⟨v,w,hv,hw,rfl⟩:=mG e;exact⟨_,by simp only[kC,l2,hv,hw]<;>rfl,fun k=>UJ _ _ _⟩
 case h_5=>obtain⟨v,w,hv,hw,rfl⟩:=mG e;exact⟨_,by simp only[kC,l2,hv,hw]<;>rfl,fun k=>Tj _ _ _⟩
 case h_6=>obtain⟨v,w,hv,hw,rfl⟩:=mG e;exact⟨_,by simp only[kC,l2,hv,hw]<;>rfl,fun k=>U1 _ _ _⟩
 case h_7=>obtain⟨v,w,hv,hw,rfl⟩:=mG e;exact⟨_,by simp only[kC,l2,hv,hw]<;>rfl,fun k=>Uy _ _ _⟩
 case h_8=>obtain⟨v,w,hv,hw,rfl⟩:=mG e;exact⟨_,by simp only[kC,l2,hv,hw]<;>rfl,fun k=>Vo _ _ _⟩
 case h_9=>obtain⟨v,w,hv,hw,rfl⟩:=mG e;exact⟨_,by simp only[kC,l2,hv,hw]<;>rfl,fun k=>UD _ _ _⟩
 case h_10=>obtain⟨v,w,hv,hw,rfl⟩:=mG e;exact⟨_,by simp only[kC,l2,hv,hw]<;>rfl,fun k=>TD _ _ _⟩
 case h_11=>obtain⟨v,w,hv,hw,rfl⟩:=mG e;exact⟨_,by simp only[kC,l2,hv,hw]<;>rfl,fun k=>TY _ _ _⟩
 case h_12=>obtain⟨v,w,u,hv,hw,hu,rfl⟩:=aaS e;exact⟨_,by simp only[kC,hv,hw,hu]<;>rfl,fun k=>OQ _ _ _ _⟩
 case h_13=>obtain⟨v,hv,rfl⟩:=pO e;exact⟨_,by simp only[kC,l1,hv]<;>rfl,fun k=>aaA _ _⟩
 case h_14=>obtain⟨v,hv,rfl⟩:=pO e;exact⟨_,by simp only[kC,l1,hv]<;>rfl,fun k=>Xx _ _⟩
 case h_15=>obtain⟨v,hv,rfl⟩:=pO e;exact⟨_,by simp only[kC,l1,hv]<;>rfl,fun k=>Tk _ _ _⟩
 case h_16=>obtain⟨v,hv,rfl⟩:=pO e;exact⟨_,by simp only[kC,l1,hv]<;>rfl,fun k=>Qj _ _ _⟩
 case h_17=>obtain⟨v,hv,rfl⟩:=pO e;exact⟨_,by simp only[kC,l1,hv]<;>rfl,fun k=>UF _ _ _⟩
 case h_18=>obtain⟨v,w,hv,hw,rfl⟩:=mG e;exact⟨_,by simp only[kC,l2,hv,hw]<;>rfl,fun k=>PG _ _ _ _ _⟩
 case h_19=>obtain⟨v,w,hv,hw,rfl⟩:=mG e;exact⟨_,by simp only[kC,l2,hv,hw]<;>rfl,fun k=>ND _ _ _⟩
 case h_20=>obtain⟨v,hv,rfl⟩:=pO e;exact⟨_,by simp only[kC,l1,hv]<;>rfl,fun k=>Uu _ _ _ _⟩
 case h_21=>
  split at e
  ·rename_i v lo hi h1 h2 h3;cases e;exact⟨_,by simp only[kC,h1,h2,h3]<;>rfl,fun k=>TK _ _ _ _⟩
  ·cases e
 case h_22=>
  split at e
  ·rename_i vs h1;cases e;exact⟨_,by simp only[kC,h1]<;>rfl,fun k=>Ky _ _ _⟩
  ·cases e
 case h_23=>
  split at e
  ·rename_i o ho;cases e;exact⟨o,ho,fun k=>rfl⟩
  ·cases e
theorem Pf {F:HF} (e:Oa l h op=some F):∃o,E8 l h op=some o∧∀k,F k=aW o k:=by
 unfold Oa at e
 split at e
 case h_1=>
  obtain⟨v,w,hv,hw,rfl⟩:=mG e
  refine⟨_,by simp only[E8,hv,hw]<;>rfl,fun k=> ?_⟩
  simp only[KH]
  cases bW h 1 v w<;>rfl
 case h_2 n x y=>
  obtain⟨v,w,hv,hw,rfl⟩:=mG e
  refine⟨_,by simp only[E8,hv,hw]<;>rfl,fun k=> ?_⟩
  simp only[IK h (n+2) v w _ rfl]
  cases bW h (n+2) v w<;>rfl
 case h_3 z=>
  split at e
  ·rename_i h0
   split at e
   ·rename_i hl;cases e;exact⟨_,rfl,fun k=>KQ _ _ _ h0 hl⟩
   ·cases e;exact⟨_,rfl,fun k=>rfl⟩
  ·cases e;exact⟨_,rfl,fun k=>rfl⟩
 case h_4=>obtain⟨v,hv,rfl⟩:=pO e;exact⟨_,by simp only[E8,hv]<;>rfl,fun k=>Tp _ _ _⟩
 case h_5 n b x y=>
  obtain⟨v,w,hv,hw,rfl⟩:=mG e
  exact⟨_,by simp only[E8,hv,hw]<;>rfl,fun k=>Uf _ _ _ _ _ _ rfl⟩
 case h_6=>
  split at e
  ·rename_i o ho;cases e;exact⟨o,ho,fun k=>rfl⟩
  ·cases e
def yZ (g:AV) (b:Bool):Bool:=
 match g with
 | .bool x=>x==b
 |_=>false
theorem zw (H:Has ρ l) {d:Nat} {g:AV} {b:Bool} (hg:l.get d=some g):eT ρ (some (d,b))=some (yZ g b):=by
 simp only[eT,H d g hg,yZ]
 cases g<;>rfl
theorem Ut {g:AV} {b:Bool} {run:(AV→Bool)→Bool} {k:AV→Bool} (s:gK g b run k=true):(yZ g b=true∧run k=true)∨(yZ g b=false∧k (.tup [])=true):=by
 cases g<;>try exact .inr ⟨rfl,s⟩
 rename_i x
 cases x<;>cases b<;>first |exact .inl ⟨rfl,s⟩|exact .inr ⟨rfl,s⟩
theorem MW {g:AV} {b:Bool} {run:au→Bool} {k:au} (s:gP g b run h k=true):(yZ g b=true∧run k=true)∨(yZ g b=false∧k (.tup []) h=true):=by
 cases g<;>try exact .inr ⟨rfl,s⟩
 rename_i x
 cases x<;>cases b<;>first |exact .inl ⟨rfl,s⟩|exact .inr ⟨rfl,s⟩
theorem aaX {g:AV} {b:Bool} {run:Bool→Bool} {r:Bool} (s:gS g b run r=true):(yZ g b=true∧run r=true)∨(yZ g b=false∧r=true):=by
 cases g<;>try exact .inr ⟨rfl,s⟩
 rename_i x
 cases x<;>cases b<;>first |exact .inl ⟨rfl,s⟩|exact .inr ⟨rfl,s⟩
theorem Xg {f:bS} {vs:List AV} {k:au} (s:Hg call l f vs h k=true):∃fv,nP l f=some fv∧mI call fv vs h k=true:=by
 unfold Hg at s
 split at s
 ·rename_i g
  exact⟨.fn (.func g) [] [],rfl,by simpa only[mI,List.nil_append,List.append_nil] using s⟩
 ·split at s
  ·rename_i fv hf
   exact⟨fv,hf,s⟩
  ·cases s
theorem PW {x:bS} {f:AV} {xs:List bS} {vs:List AV} (H:Has ρ l) (ef:nP l x=some f) (e:Ie l xs=some vs) {K:au}:gy call' ρ h (.call x xs) K=mI call' f vs h K:=by
 simp only[gy,gJ H ef,Cc H e,mI]
 cases f<;>rfl
variable {Ks:KSt}
theorem yx {v:AV} {h':ah} {dst:Option Nat} (hn:dF op=false) (e:aO ρ h op=some (v,h')) (s:Ks v ⟨put ρ dst v,h'⟩=true):gy call' ρ h op (fun v h'=>Ks v ⟨yP ρ (dF op) dst v,h'⟩)=true:=by
 rw[jG hn,e]
 simp only[yP,oH,hn,cond_false]
 exact s
theorem Ii {dst:Option Nat} {Q k:au} {f:bS} {xs:List bS} {vs:List AV} (hc:Le call call') (H:Has ρ l) (e:Ie l xs=some vs) (s:Hg call l f vs h (pz Q k)=true)
 (hk:∀v h',k v h'=true→iQ v=none→Ks v ⟨put ρ dst v,h'⟩=true) (hq:∀x h',Q (.pan x) h'=true→Ks (.pan x) ⟨ρ,h'⟩=true):gy call' ρ h (.call f xs) (fun v h'=>Ks v ⟨yP ρ true dst v,h'⟩)=true:=by
 obtain⟨fv,ef,s⟩:=Xg s
 rw[PW H ef e]
 refine XE hc s fun v h' hv=> ?_
 rw[acz] at hv
 simp only[yP,oH,cond_true]
 cases hp:iQ v with
 |none=>rw[hp] at hv;exact hk v h' hv hp
 |some x=>
  rw[hp] at hv
  cases v<;>first |(cases hp;done)|skip
  cases hp
  exact hq _ _ hv
theorem Kk {Q:au} {v:AV} (s:Y9 Q v h=true):∃t u,v= .ifc t u∧Q (.pan (.ifc t u)) h=true:=by
 unfold Y9 at s
 split at s
 ·exact⟨_,_,rfl,s⟩
 ·cases s
theorem Zx {k:au} (H:Has ρ l) (s:dnP l h op none k=true):dF op=false∧∃v h',aO ρ h op=some (v,h')∧k v h'=true:=by
 unfold dnP at s
 cases hp:Au l h op with
 |some F=>
  rw[hp] at s
  obtain⟨o,ho,hF⟩:=uG hp
  obtain⟨e1,e2⟩:=qR H ho
  simp only[hF] at s
  obtain⟨v,rfl,s⟩:=qQ s
  exact⟨e2,v,h,e1,s⟩
 |none=>
  rw[hp] at s
  simp only at s
  cases hh:Oa l h op with
  |none=>rw[hh] at s;cases s
  |some F=>
   rw[hh] at s
   obtain⟨o,ho,hF⟩:=Pf hh
   obtain⟨e1,e2⟩:=KZ H ho
   simp only[hF] at s
   obtain⟨v,h',rfl,s⟩:=GH s
   exact⟨e2,v,h',e1,s⟩
theorem ab0 {k:au} {g:AV} {b:Bool} (H:Has ρ l) (s:dnP l h op (some (g,b)) k=true):dF op=false∧((yZ g b=true∧∃v h',aO ρ h op=some (v,h')∧k v h'=true)∨(yZ g b=false∧k (.tup []) h=true)):=by
 unfold dnP at s
 cases hp:Au l h op with
 |some F=>
  rw[hp] at s
  obtain⟨o,ho,hF⟩:=uG hp
  obtain⟨e1,e2⟩:=qR H ho
  refine⟨e2, ?_⟩
  rcases Ut s with⟨hw,s⟩|⟨hw,s⟩
  ·rw[hF] at s
   obtain⟨v,rfl,s⟩:=qQ s
   exact .inl ⟨hw,v,h,e1,s⟩
  ·exact .inr ⟨hw,s⟩
 |none=>
  rw[hp] at s
  simp only at s
  cases hh:Oa l h op with
  |none=>rw[hh] at s;cases s
  |some F=>
   rw[hh] at s
   obtain⟨o,ho,hF⟩:=Pf hh
   obtain⟨e1,e2⟩:=KZ H ho
   refine⟨e2, ?_⟩
   rcases MW s with⟨hw,s⟩|⟨hw,s⟩
   ·rw[hF] at s
    obtain⟨v,h',rfl,s⟩:=GH s
    exact .inl ⟨hw,v,h',e1,s⟩
   ·exact .inr ⟨hw,s⟩
theorem YE {Q:au} {o:aU} {k:fK→ah→Bool} (hc:Le call call') (H:Has ρ l) (s:dnO call Q o l h k=true)
 (hk:∀v h',k (wz l o.dst v) h'=true→oH (dF o.op) v=none→(o.grd=none→dF o.op=false→aO ρ h o.op=some (v,h'))→Ks v ⟨put ρ o.dst v,h'⟩=true)
 (hq:dF o.op=true→∀x h',Q (.pan x) h'=true→Ks (.pan x) ⟨ρ,h'⟩=true):jy call' o ⟨ρ,h⟩ Ks=true:=by
 obtain⟨dst,op,grd⟩:=o
 cases grd with
 |none=>
  unfold dnO at s
  simp only at s hk hq
  simp only[jy,eT]
  split at s
  ·cases s
  ·rename_i x
   split at s
   ·rename_i v hv
    simp only[gy,gJ H hv]
    exact Lc s fun ls h' hv=>hk _ _ hv rfl (fun _ e=>by cases e)
   ·cases s
  ·rename_i x
   split at s
   ·rename_i v hv
    obtain⟨t,u,rfl,s⟩:=Kk s
    simp only[gy,gJ H hv]
    exact hq rfl _ _ s
   ·cases s
  ·rename_i f xs
   split at s
   ·rename_i vs hvs
    exact Ii hc H hvs s (fun v h' hv hp=>hk v h' hv (pF hp) (fun _ e=>by cases e)) (hq rfl)
   ·cases s
  ·rename_i x
   split at s
   ·rename_i d
    split at s
    ·rename_i v hv
     have e:aO ρ h (.mv x)=some (v,h):=by simp only[aO,gJ H hv,bP]
     exact yx rfl e (hk v h s rfl fun _ _=>e)
    ·cases s
   ·obtain⟨_,v,h',e,s⟩:=Zx H s
    exact yx rfl e (hk v h' s rfl fun _ _=>e)
  ·obtain⟨hn,v,h',e,s⟩:=Zx H s
   exact yx hn e (hk v h' s (by simp only[oH,hn,cond_false]) fun _ _=>e)
 |some p=>
  obtain⟨j,b⟩:=p
  unfold dnO at s
  simp only at s hk hq
  split at s
  ·cases s
  ·rename_i g hg
   simp only[jy,zw H hg]
   have hno:∀{P:Prop},((some (j,b):Option (Nat×Bool))=none→P):=fun e=>by cases e
   split at s
   ·cases s
   ·cases s
   ·rename_i x
    split at s
    ·rename_i v hv
     rcases MW s with⟨hw,s⟩|⟨hw,s⟩
     ·obtain⟨t,u,rfl,s⟩:=Kk s
      simp only[hw,gy,gJ H hv]
      exact hq rfl _ _ s
     ·simp only[hw]
      exact hk _ _ s rfl hno
    ·cases s
   ·rename_i f xs
    split at s
    ·rename_i vs hvs
     rcases MW s with⟨hw,s⟩|⟨hw,s⟩
     ·simp only[hw]
      exact Ii hc H hvs s (fun v h' hv hp=>hk v h' hv (pF hp) hno) (hq rfl)
     ·simp only[hw]
      exact hk _ _ s rfl hno
    ·cases s
   ·obtain⟨hn,hs⟩:=ab0 H s
    rcases hs with⟨hw,v,h',e,s⟩|⟨hw,s⟩
    ·simp only[hw]
     exact yx hn e (hk v h' s (by simp only[oH,hn,cond_false]) hno)
    ·simp only[hw]
     exact hk _ _ s (by simp only[oH,hn,cond_false]) hno
def Ka (Q:au) (KS:nG):Prop:=∀x ρ h,Q (.pan x) h=true→KS (.panic x) ⟨ρ,h⟩=true
theorem Rk (hc:Le call call') {Q:au}:∀{ops:List aU} {ρ:dw} {l:fK} {h:ah} {k:fK→ah→Bool} {KS:nG},Has ρ l→dnR call Q ops l h k=true→(∀l' ρ' h',Has ρ' l'→k l' h'=true→KS .normal ⟨ρ',h'⟩=true)→Ka Q KS→mR call' ops ⟨ρ,h⟩ KS=true
 | [],ρ,l,h,k,KS,H,s,hk,hq=>hk _ _ _ H s
 |o :: ops,ρ,l,h,k,KS,H,s,hk,hq=>by
  simp only[mR]
  refine YE hc H s (fun v h' hv hp _=> ?_) (fun hcl x h' hx=> ?_)
  ·simp only[hp]
   exact Rk hc (H.wz o.dst v) hv hk hq
  ·simp only[hcl,oH,cond_true,iQ]
   exact hq _ _ _ hx
theorem Yf:∀{ops:List aU} {ρ:dw} {l:fK} {h:ah} {k:fK→Bool},Has ρ l→dnK ops l h k=true→∃ρ' l',nX ops ρ h=some ρ'∧Has ρ' l'∧k l'=true:=by
 intro ops
 induction ops with
 |nil=>intro ρ l h k H s;exact⟨ρ,l,rfl,H,s⟩
 |cons o ops ih=>
  intro ρ l h k H s
  obtain⟨dst,op,grd⟩:=o
  unfold dnK at s
  simp only[nX]
  split at s
  ·rename_i heq;cases heq
  ·rename_i d x ops' heq
   cases heq
   split at s
   ·rename_i v hv
    obtain⟨ρ',l',h1,h2,h3⟩:=ih (H.set d v) s
    refine⟨ρ',l', ?_,h2,h3⟩
    simp only[eT,aO,gJ H hv,bP]
    exact h1
   ·cases s
  ·rename_i dst' op' ops' hne heq
   cases heq
   split at s
   ·rename_i F hp
    obtain⟨o,ho,hF⟩:=uG hp
    obtain⟨e1,e2⟩:=qR H ho
    rw[hF] at s
    obtain⟨v,rfl,s⟩:=qQ s
    obtain⟨ρ',l',h1,h2,h3⟩:=ih (H.wz dst v) s
    refine⟨ρ',l', ?_,h2,h3⟩
    simp only[eT,e1,bP]
    exact h1
   ·cases s
  ·rename_i dst' op' j b ops' heq
   cases heq
   split at s
   ·cases s
   ·rename_i g hg
    split at s
    ·rename_i F hp
     obtain⟨o,ho,hF⟩:=uG hp
     obtain⟨e1,e2⟩:=qR H ho
     simp only[zw H hg]
     rcases Ut s with⟨hw,s⟩|⟨hw,s⟩
     ·rw[hF] at s
      obtain⟨v,rfl,s⟩:=qQ s
      obtain⟨ρ',l',h1,h2,h3⟩:=ih (H.wz dst v) s
      refine⟨ρ',l', ?_,h2,h3⟩
      simp only[hw,e1,bP]
      exact h1
     ·obtain⟨ρ',l',h1,h2,h3⟩:=ih (H.wz dst _) s
      refine⟨ρ',l', ?_,h2,h3⟩
      simp only[hw]
      exact h1
    ·cases s
theorem I9 {u v:AV} {r:Bool} (s:dN u r v=true):AV.same v u=true∧r=true:=by
 unfold dN at s
 rw[ql] at s
 exact qh s
theorem M9 {q:Bool} (H:Has ρ l):∀{ops:List aU},dnA ops l h q=true→again ρ h ops=true∧q=true
 | [],s=>⟨rfl,s⟩
 |⟨none,_,_⟩ :: _,s=>by unfold dnA at s;cases s
 |⟨some d,op,none⟩ :: ops,s=>by
  unfold dnA at s
  split at s
  ·rename_i F hp
   obtain⟨o,ho,hF⟩:=uG hp
   obtain⟨e1,e2⟩:=qR H ho
   split at s
   ·rename_i u hu
    rw[hF] at s
    obtain⟨v,rfl,s⟩:=qQ s
    obtain⟨hs,s⟩:=I9 s
    obtain⟨h1,h2⟩:=M9 H s
    refine⟨?_,h2⟩
    simp only[again,lT,eT,e1,bP,H d u hu,hs,cond_true]
    exact h1
   ·cases s
  ·cases s
 |⟨some d,op,some (j,b)⟩ :: ops,s=>by
  unfold dnA at s
  split at s
  ·rename_i g hg
   split at s
   ·rename_i F hp
    obtain⟨o,ho,hF⟩:=uG hp
    obtain⟨e1,e2⟩:=qR H ho
    split at s
    ·rename_i u hu
     simp only[again,lT,zw H hg]
     rcases aaX s with⟨hw,s⟩|⟨hw,s⟩
     ·rw[hF] at s
      obtain⟨v,rfl,s⟩:=qQ s
      obtain⟨hs,s⟩:=I9 s
      obtain⟨h1,h2⟩:=M9 H s
      refine⟨?_,h2⟩
      simp only[hw,e1,bP,H d u hu,hs,cond_true]
      exact h1
     ·obtain⟨h1,h2⟩:=M9 H s
      refine⟨?_,h2⟩
      simp only[hw,cond_true]
      exact h1
    ·cases s
   ·cases s
  ·cases s
theorem R8 {o:aU} {v:AV} {h':ah} (he:iB o=true) (hv:aO ρ h o.op=some (v,h')):JX v=h.sz∧o.grd=none∧dF o.op=false:=by
 obtain⟨dst,op,grd⟩:=o
 unfold iB at he
 split at he
 ·cases he
 ·rename_i hg
  split at he<;>first |(cases he;done)|skip
  all_goals
   rename_i ho
   simp only at ho hg hv
   subst ho
   subst hg
   refine⟨?_,rfl,rfl⟩
  ·simp only[aO,oV] at hv
   cases hb:Nat.beq _ 0 with
   |true=>rw[hb] at hv;cases hv;rfl
   |false=>
    rw[hb,cond_false] at hv
    obtain⟨_,hv⟩:=qU hv
    cases hv;rfl
  ·simp only[aO] at hv
   obtain⟨_,hv⟩:=qU hv
   cases hv;rfl
  ·simp only[aO] at hv
   split at hv
   ·unfold mU at hv
    obtain⟨_,hv⟩:=qU hv
    cases hv;rfl
   ·cases hv
  ·simp only[aO] at hv
   cases hv;rfl
  ·simp only[aO] at hv
   split at hv
   ·unfold Ch at hv
    split at hv
    ·obtain⟨_,hv⟩:=qU hv
     cases hv;rfl
    ·cases hv
   ·cases hv
  ·simp only[aO] at hv
   obtain⟨_,hv⟩:=qU hv
   split at hv
   ·cases hv;rfl
   ·cases hv
theorem SN {es:List AV} {Q:au} {v:AV} (s:sP es Q v h=true):∃h',nA (es.map JX) h=some h'∧Q v h'=true:=by
 cases es with
 |nil=>exact⟨h,rfl,s⟩
 |cons e es=>
  simp only[sP] at s
  split at s
  ·rename_i h2 hh;exact⟨h2,hh,s⟩
  ·cases s
theorem Yn (hc:Le call call') {Q:au} {ρ0:dw}:∀{rest:List (aU×List aU×List aU)} {es:List AV} {ρ:dw} {l:fK} {h:ah} {k:fK→ah→Bool} {KS:nG},Has ρ l→dnD call Q rest es l h k=true→(∀l' ρ' h',Has ρ' l'→k l' h'=true→KS .normal ⟨ρ',h'⟩=true)→Ka Q KS→nI call' ρ0 (es.map JX) rest ⟨ρ,h⟩ KS=true
 | [],es,ρ,l,h,k,KS,H,s,hk,hq=>hk _ _ _ H s
 |(act,chk,ns) :: rest,es,ρ,l,h,k,KS,H,s,hk,hq=>by
  unfold dnD at s
  simp only[nI]
  refine YE hc H s (fun v h' hv hp hev=> ?_) (fun hcl x h' hx=> ?_)
  ·simp only[hp]
   split at hv
   ·cases hv
   ·rename_i e he
    have H':=H.wz act.dst v
    obtain⟨ha,hv⟩:=M9 H' hv
    obtain⟨ρ',l',h1,h2,h3⟩:=Yf H' hv
    rw[ha,cond_true,h1]
    simp only
    have hes:(bif iB act then h.sz :: es.map JX else es.map JX)=(e++es).map JX:=by
     unfold ZQ at he
     cases hie:iB act with
     |false=>rw[hie,cond_false] at he;cases he;rfl
     |true=>
      rw[hie,cond_true] at he
      have hg:act.grd=none∧dF act.op=false:=by
       unfold iB at hie
       split at hie
       ·cases hie
       ·rename_i hg
        refine⟨hg, ?_⟩
        split at hie<;>first |(cases hie;done)|(rename_i ho;rw[ho];rfl)
      have hev:=hev hg.1 hg.2
      split at he
      ·rename_i d hd
       split at he
       ·rename_i v' hv'
        cases he
        rw[hd] at hv'
        simp only[wz,fK.get,Nat.beq_refl,cond_true,Option.some.injEq] at hv'
        subst hv'
        simp only[cond_true,List.cons_append,List.nil_append,List.map_cons,(R8 hie hev).1]
       ·cases he
      ·cases he
    rw[hes]
    exact Yn hc h2 h3 hk hq
  ·simp only[hcl,oH,cond_true,iQ]
   obtain⟨h2,hh,hx⟩:=SN hx
   rw[hh]
   exact hq _ _ _ hx
noncomputable def abU (call:aj) (n:Nat) (b:dx) (K:nG):nG:=fun x σ'=>
 match x with
 | .normal=>dA call n b σ' K
 |x=>K x σ'
noncomputable def Di (id:Nat) (K:nG):nG:=fun x σ'=>
 match x with
 | .exit i=>bif Nat.beq i id then K .normal σ' else K (.exit i) σ'
 |x=>K x σ'
noncomputable def OJ (call:aj) (n:Nat) (c:dx) (K:nG) (m:Nat):nG:=fun x σ'=>
 match x with
 | .normal=>iter (dA call n c) K m σ'
 |x=>K x σ'
noncomputable def yT (call:aj) (n:Nat) (l:Nat) (r:dx) (K:nG) (m:Nat):nG:=fun x σ'=>
 match x with
 | .goto l'=>bif Nat.beq l' l then sI l (dA call n r) K m σ' else false
 |x=>K x σ'
noncomputable def JQ (res:List (Nat×Option (Bool×Nat))) (K:au):nG:=fun x σ=>
 match x with
 | .normal=>(match jm σ.regs σ.h res with
   |some l=>K (oneOf l) σ.h
   |none=>false)
 | .ret=>(match jm σ.regs σ.h res with
   |some l=>K (oneOf l) σ.h
   |none=>false)
 | .panic v=>K (.pan v) σ.h
 |_=>false
variable {σ:St} {KS:nG}
theorem afJ {x y:dx} (s:dA call n x σ (abU call n y KS)=true):dA call n (.seq x y) σ KS=true:=by
 have e:abU call n y KS=(fun x σ'=>match x with | .normal=>dA call n y σ' KS |x=>KS x σ'):=by
  funext x σ';cases x<;>rfl
 rw[e] at s;exact s
theorem adw {c:bS} {x y:dx} {v:AV} {p q:Bool} {KS:nG} (H:Has ρ l) (e:nP l c=some v) (s:aM v p q=true) (kx:p=true→dA call n x ⟨ρ,h⟩ KS=true) (ky:q=true→dA call n y ⟨ρ,h⟩ KS=true):dA call n (.cond c x y) ⟨ρ,h⟩ KS=true:=by
 simp only[dA,gJ H e]
 cases v<;>first |(cases s;done)|skip
 rename_i t
 cases t
 ·exact ky s
 ·exact kx s
theorem aaN {id:Nat} {x:dx} (s:dA call n x σ (Di id KS)=true):dA call n (.block id x) σ KS=true:=by
 have e:Di id KS=(fun x σ'=>match x with | .exit i=>bif Nat.beq i id then KS .normal σ' else KS (.exit i) σ' |x=>KS x σ'):=by
  funext x σ';cases x<;>rfl
 rw[e] at s;exact s
theorem aeD {x:dx} (s:iter (dA call n x) KS n σ=true):dA call n (.loop x) σ KS=true:=s
theorem abB {x:dx} {m:Nat} (s:dA call n x σ (OJ call n x KS m)=true):iter (dA call n x) KS (m+1) σ=true:=by
 have e:OJ call n x KS m=(fun y σ'=>match y with | .normal=>iter (dA call n x) KS m σ' |y=>KS y σ'):=by
  funext y σ';cases y<;>rfl
 rw[e] at s;exact s
theorem abq {x r:dx} {l:Nat} (s:dA call n x σ (yT call n l r KS n)=true):dA call n (.scope x l r) σ KS=true:=by
 have e:yT call n l r KS n=(fun x σ'=>match x with | .goto l'=>bif Nat.beq l' l then sI l (dA call n r) KS n σ' else false |x=>KS x σ'):=by
  funext x σ';cases x<;>rfl
 rw[e] at s;exact s
theorem ac8 {r:dx} {l m:Nat} (s:dA call n r σ (yT call n l r KS m)=true):sI l (dA call n r) KS (m+1) σ=true:=by
 have e:yT call n l r KS m=(fun x σ'=>match x with | .goto l'=>bif Nat.beq l' l then sI l (dA call n r) KS m σ' else false |x=>KS x σ'):=by
  funext x σ';cases x<;>rfl
 rw[e] at s;exact s
theorem wP (H:Has ρ l):∀{res:List (Nat×Option (Bool×Nat))} {m:List (AV×Option (Bool×Nat))},G7 l res=some m→jm ρ h res=fG h m
 | [],m,e=>by simp only[G7] at e;cases e;rfl
 |(t,x) :: r,m,e=>by
  simp only[G7] at e
  split at e
  ·rename_i v hv
   split at e
   ·rename_i vs hvs
    cases e
    simp only[jm]
    rw[wP H hvs]
    cases x with
    |none=>simp only[uR,H t v hv,fG];rfl
    |some p=>
     obtain⟨ag,k⟩:=p
     simp only[uR,H t v hv,fG]
     rfl
   ·cases e
  ·cases e
theorem abb {res:List (Nat×Option (Bool×Nat))} {m:List (AV×Option (Bool×Nat))} {K K':au} (H:Has ρ l) (e:G7 l res=some m) (hK:∀v h',K v h'=true→K' v h'=true) (s:gq (fG h m) h K=true):JQ res K' .ret ⟨ρ,h⟩=true:=by
 simp only[JQ,wP H e]
 cases hr:fG h m with
 |none=>rw[hr] at s;cases s
 |some vs=>rw[hr] at s;exact hK _ _ s
theorem QY {res:List (Nat×Option (Bool×Nat))} {m:List (AV×Option (Bool×Nat))} {K K':au} (H:Has ρ l) (e:G7 l res=some m) (hK:∀v h',K v h'=true→K' v h'=true) (s:gq (fG h m) h K=true):JQ res K' .normal ⟨ρ,h⟩=true:=by
 simp only[JQ,wP H e]
 cases hr:fG h m with
 |none=>rw[hr] at s;cases s
 |some vs=>rw[hr] at s;exact hK _ _ s
theorem ER {KS:nG}:∀{a b:List aU} {σ:St},mR call (a++b) σ KS=mR call a σ (fun x σ'=>match x with | .normal=>mR call b σ' KS |x=>KS x σ')
 | [],b,σ=>rfl
 |o :: a,b,σ=>by
  simp only[List.cons_append,mR]
  congr 1
  funext v σ'
  cases oH (dF o.op) v with
  |none=>exact ER
  |some x=>rfl
theorem Kw {KS:nG}:∀{b:iE} {σ:St},b.isReg=true→dA call n b.erase σ KS=mR call b.ops σ KS
 | .reg _,σ,_=>rfl
 | .rseq l b,σ,_=>rfl
 | .pt _ _ b,σ,h=>Kw (b:=b) h
theorem Ka.seq {Q:au} {KS:nG} {b:dx} (hq:Ka Q KS):Ka Q (abU call n b KS):=fun x ρ h s=>hq x ρ h s
theorem Ka.block {Q:au} {KS:nG} {id:Nat} (hq:Ka Q KS):Ka Q (Di id KS):=fun x ρ h s=>hq x ρ h s
theorem Ka.loop {Q:au} {KS:nG} {c:dx} {m:Nat} (hq:Ka Q KS):Ka Q (OJ call n c KS m):=fun x ρ h s=>hq x ρ h s
theorem Ka.jump {Q:au} {KS:nG} {c:dx} {lb m:Nat} (hq:Ka Q KS):Ka Q (yT call n lb c KS m):=fun x ρ h s=>hq x ρ h s
def MF:List Nat→List AV→fK
 |k :: ks,v :: vs=>(k,v) :: MF ks vs
 |_,_=>[]
theorem Kh:∀{ks:List Nat} {l m:fK},AJ ks l=some m→m=MF ks (vals m)∧(vals m).length=ks.length
 | [],l,m,e=>by simp only[AJ] at e;cases e;exact⟨rfl,rfl⟩
 |k :: ks,l,m,e=>by
  simp only[AJ] at e
  split at e
  ·split at e
   ·rename_i v hv m' hm
    cases e
    have:=Kh hm
    exact⟨by simp only[vals,MF];rw[←this.1],by simp only[vals,List.length_cons,this.2]⟩
   ·cases e
  ·cases e
theorem J7 (σ:Nat→AV):∀(ks:List Nat) (vs:List AV) (i:Nat),vs.length=ks.length→(∀j,j<vs.length→vs[j]? =some (σ (i+j)))→vZ ks i σ=MF ks vs∧vals (MF ks vs)=vs
 | [],[],i,_,_=>⟨rfl,rfl⟩
 | [],_ :: _,_,e,_=>by cases e
 |_ :: _,[],_,e,_=>by cases e
 |k :: ks,v :: vs,i,e,hv=>by
  have h0:=hv 0 (Nat.succ_pos _)
  simp only[List.getElem?_cons_zero,Nat.add_zero,Option.some.injEq] at h0
  have:=J7 σ ks vs (i+1) (by simpa using e) (fun j hj=>by
   have:=hv (j+1) (by simpa using hj)
   simpa[Nat.add_assoc,Nat.add_comm 1 j] using this)
  simp only[vZ,MF,vals, ←h0,this.1,this.2]
  exact⟨trivial,trivial⟩
def sM:List AV→Nat→AV
 | [],_=> .bool true
 |v :: _,0=>v
 |_ :: l,n+1=>sM l n
theorem DW:∀(vs:List AV) (j:Nat),j<vs.length→vs[j]? =some (sM vs j)
 | [],_,h=>by cases h
 |v :: vs,0,_=>rfl
 |v :: vs,j+1,h=>by simpa[sM] using DW vs j (by simpa using h)
theorem pY {ks:List Nat} {vs:List AV} (e:vs.length=ks.length):vZ ks 0 (sM vs)=MF ks vs∧vals (MF ks vs)=vs:=
 J7 _ ks vs 0 e fun j hj=>by rw[Nat.zero_add];exact DW vs j hj
def rF:Bt→Nat→Pv
 | [],_=>fun _ _=>false
 |v :: _,0=>v
 |_ :: l,n+1=>rF l n
theorem OA (τ:Nat→Pv):∀(β:Bt) (i:Nat),(∀j,j<β.length→β[j]? =some (τ (i+j)))→stk β.length i τ=β
 | [],_,_=>rfl
 |B :: β,i,h=>by
  have h0:=h 0 (Nat.succ_pos _)
  simp only[List.getElem?_cons_zero,Nat.add_zero,Option.some.injEq] at h0
  have:=OA τ β (i+1) (fun j hj=>by
   have:=h (j+1) (by simpa using hj)
   simpa[Nat.add_assoc,Nat.add_comm 1 j] using this)
  simp only[List.length_cons,stk, ←h0,this]
theorem Ke:∀(vs:Bt) (j:Nat),j<vs.length→vs[j]? =some (rF vs j)
 | [],_,h=>by cases h
 |v :: vs,0,_=>rfl
 |v :: vs,j+1,h=>by simpa[rF] using Ke vs j (by simpa using h)
theorem xG (β:Bt):stk β.length 0 (rF β)=β:=
 OA _ β 0 fun j hj=>by rw[Nat.zero_add];exact Ke β j hj
def Np (K:KL) (KS:nG):Prop:=∀x (l:fK) (ρ:dw) (h:ah),Has ρ l→K x l h=true→KS x ⟨ρ,h⟩=true
def XA (V:Pv) (ks:List Nat) (R:St→Bool):Prop:=∀(vs:List AV) (ρ:dw) (h:ah),vs.length=ks.length→Has ρ (MF ks vs)→V vs h=true→R ⟨ρ,h⟩=true
theorem XA.go {V:Pv} {ks:List Nat} {R:St→Bool} (hv:XA V ks R) {ρ:dw} {l:fK} {h:ah} (H:Has ρ l) (s:goL V ks l h=true):R ⟨ρ,h⟩=true:=by
 unfold goL at s
 split at s
 ·rename_i l' hl
  have hz:=Kh hl
  have H':=H.keep ks hl
  rw[hz.1] at H'
  exact hv _ _ _ hz.2 H' s
 ·cases s
def SPd (call':aj) (n:Nat) (S:Sp):Bt→iE→nG→Prop
 |β, .pt j ks a,KS=>XA (S.pt β j) ks fun σ=>dA call' n a.erase σ KS
 |β, .loop j ks a,KS=>XA (S.lp β j n) ks (iter (dA call' n a.erase) KS n)
 |β, .scope j _ fks a lb r,KS=>XA (S.fs (S.lp β j n :: β) j) fks fun σ=>dA call' n a.erase σ (yT call' n lb r.erase KS n)
 |β, .rseq _ b,KS=>SPd call' n S β b KS
 |β, .seq a b,KS=>SPd call' n S β a (abU call' n b.erase KS)∧SPd call' n S β b KS
 |β, .cond _ a b,KS=>SPd call' n S β a KS∧SPd call' n S β b KS
 |β, .block id a,KS=>SPd call' n S β a (Di id KS)
 |_,_,_=>True
theorem Np.block {id:Nat} {K:KL} {KS:nG} (hk:Np K KS):Np (FZ id K) (Di id KS):=by
 intro x l ρ h H s
 cases x with
 |exit i=>
  simp only[FZ,Di] at s ⊢
  cases hb:Nat.beq i id with
  |true=>rw[hb] at s;exact hk _ _ _ _ H s
  |false=>rw[hb] at s;exact hk _ _ _ _ H s
 |_=>exact hk _ _ _ _ H s
theorem Np.loop {c:dx} {n m:Nat} {call':aj} {B:Pv} {ks:List Nat} {K:KL} {KS:nG} (hk:Np K KS) (hB:XA B ks (iter (dA call' n c) KS m)):Np (K9 B ks K) (OJ call' n c KS m):=by
 intro x l ρ h H s
 cases x with
 |normal=>exact hB.go H s
 |_=>exact hk _ _ _ _ H s
theorem Np.jump {r:dx} {n m lb:Nat} {call':aj} {B:Pv} {ks:List Nat} {K:KL} {KS:nG} (hk:Np K KS) (hB:XA B ks (sI lb (dA call' n r) KS m)):Np (vV lb B ks K) (yT call' n lb r KS m):=by
 intro x l ρ h H s
 cases x with
 |goto i=>
  simp only[vV,yT] at s ⊢
  cases hb:Nat.beq i lb with
  |true=>rw[hb] at s;exact hB.go H s
  |false=>rw[hb] at s;cases s
 |_=>exact hk _ _ _ _ H s
theorem xP {S:Sp} {call call':aj} {n:Nat} {Q:au} (hc:Le call call'):∀(c:iE) (β:Bt) (ρ:dw) (l:fK) (h:ah) (K:KL) (KS:nG),SPd call' n S β c KS→Np K KS→Ka Q KS→Has ρ l→BU call n Q S β c l h K=true→dA call' n c.erase ⟨ρ,h⟩ KS=true:=by
 intro c
 induction c with
 |skip=>intro β ρ l h K KS sp hk hq H s;exact hk _ _ _ _ H s
 |label _=>intro β ρ l h K KS sp hk hq H s;exact hk _ _ _ _ H s
 |exit _=>intro β ρ l h K KS sp hk hq H s;exact hk _ _ _ _ H s
 |goto _=>intro β ρ l h K KS sp hk hq H s;exact hk _ _ _ _ H s
 |ret=>intro β ρ l h K KS sp hk hq H s;exact hk _ _ _ _ H s
 |refuse=>intro β ρ l h K KS sp hk hq H s;cases s
 |stop _=>intro β ρ l h K KS sp hk hq H s;cases s
 |reg ops=>
  intro β ρ l h K KS sp hk hq H s
  exact Rk hc H s (fun l' ρ' h' H' s'=>hk _ _ _ _ H' s') hq
 |dreg n0 rest=>
  intro β ρ l h K KS sp hk hq H s
  obtain⟨ρ',l',h1,h2,h3⟩:=Yf H s
  simp only[iE.erase,dA,h1]
  exact Yn (es:=[]) hc h2 h3 (fun l2 ρ2 h2 H2 s2=>hk _ _ _ _ H2 s2) hq
 |rseq ops b ih=>
  intro β ρ l h K KS sp hk hq H s
  simp only[BU] at s
  split at s
  ·rename_i hr
   show mR call' (ops++b.ops) ⟨ρ,h⟩ KS=true
   rw[ER]
   refine Rk hc H s (fun l' ρ' h' H' s'=> ?_) (fun x ρ h s=>hq x ρ h s)
   have:=ih β _ _ _ _ _ sp hk hq H' s'
   rw[Kw hr] at this
   exact this
  ·cases s
 |seq a b iha ihb=>
  intro β ρ l h K KS sp hk hq H s
  refine afJ (iha β ρ l h _ _ sp.1 ?_ hq.seq H s)
  intro x l' ρ' h' H' s'
  cases x with
  |normal=>exact ihb β _ _ _ _ _ sp.2 hk hq H' s'
  |_=>exact hk _ _ _ _ H' s'
 |cond o a b iha ihb=>
  intro β ρ l h K KS sp hk hq H s
  simp only[BU] at s
  split at s
  ·rename_i v hv
   exact adw H hv s (fun s=>iha β _ _ _ _ _ sp.1 hk hq H s) (fun s=>ihb β _ _ _ _ _ sp.2 hk hq H s)
  ·cases s
 |block id a ih=>
  intro β ρ l h K KS sp hk hq H s
  exact aaN (ih β _ _ _ _ _ sp hk.block hq.block H s)
 |loop j ks a ih=>intro β ρ l h K KS sp hk hq H s;exact aeD (XA.go sp H s)
 |pt j ks a ih=>intro β ρ l h K KS sp hk hq H s;exact XA.go sp H s
 |scope j ks fks a lb r iha ihr=>intro β ρ l h K KS sp hk hq H s;exact abq (XA.go sp H s)
theorem agV {S:Sp} {call call':aj} {n:Nat} {Q:au} (hc:Le call call'):∀(c:iE) (β:Bt) (K:Bt→KL) (KS:nG),(∀p∈Sn call n Q S β.length c K,p.1=p.2)→Np (K β) KS→Ka Q KS→SPd call' n S β c KS:=by
 intro c
 induction c with
 |pt j ks a ih=>
  intro β K KS hp hk hq vs ρ h hl H s
  have e:=congrFun (congrFun (congrFun (congrFun (hp _ (List.mem_cons_self ..)) (rF β)) 0) (sM vs)) h
  simp only[xG,pY hl] at e
  rw[e] at s
  exact xP hc a β ρ _ h _ KS (ih β K KS (fun p h=>hp p (List.mem_cons_of_mem _ h)) hk hq) hk hq H s
 |loop j ks a ih=>
  intro β K KS hp hk hq
  have e1:=hp _ (List.mem_cons_self ..)
  have e2:=hp _ (List.mem_cons_of_mem _ (List.mem_cons_self ..))
  have e3:=hp _ (List.mem_cons_of_mem _ (List.mem_cons_of_mem _ (List.mem_cons_self ..)))
  have hr:∀p∈Sn call n Q S (β.length+1) a (vW (fun B=>K9 B ks) K),p.1=p.2:=fun p h=>hp p (List.mem_cons_of_mem _ (List.mem_cons_of_mem _ (List.mem_cons_of_mem _ h)))
  have main:∀m,XA (S.lp β j m) ks (iter (dA call' n a.erase) KS m):=by
   intro m
   induction m with
   |zero=>
    intro vs ρ h hl H s
    have e:=congrFun (congrFun (congrFun (congrFun e2 (rF β)) 0) (sM vs)) h
    simp only[xG,pY hl] at e
    rw[e] at s;cases s
   |succ m ihm=>
    intro vs ρ h hl H s
    have e:=congrFun (congrFun (congrFun (congrFun e3 (rF β)) m) (sM vs)) h
    simp only[xG,pY hl] at e
    have e':=congrFun (congrFun (congrFun (congrFun e1 (rF (S.lp β j m :: β))) 0) (sM vs)) h
    have hs:stk (β.length+1) 0 (rF (S.lp β j m :: β))=S.lp β j m :: β:=xG (S.lp β j m :: β)
    simp only[hs,pY hl] at e'
    rw[e,e'] at s
    have hk':Np (K9 (S.lp β j m) ks (K β)) (OJ call' n a.erase KS m):=hk.loop ihm
    exact abB (xP hc a (S.lp β j m :: β) ρ _ h _ _ (ih (S.lp β j m :: β) (vW (fun B=>K9 B ks) K) _ hr hk' hq.loop) hk' hq.loop H s)
  exact main n
 |seq a b iha ihb=>
  intro β K KS hp hk hq
  have hb:SPd call' n S β b KS:=ihb β K KS (fun p h=>hp p (List.mem_append_right _ h)) hk hq
  refine⟨iha β _ _ (fun p h=>hp p (List.mem_append_left _ h)) ?_ hq.seq,hb⟩
  intro x l ρ h H s
  cases x with
  |normal=>exact xP hc b β ρ l h _ KS hb hk hq H s
  |_=>exact hk _ _ _ _ H s
 |cond o a b iha ihb=>
  intro β K KS hp hk hq
  exact⟨iha β K KS (fun p h=>hp p (List.mem_append_left _ h)) hk hq,ihb β K KS (fun p h=>hp p (List.mem_append_right _ h)) hk hq⟩
 |block id a ih=>
  intro β K KS hp hk hq
  exact ih β (fun β=>FZ id (K β)) _ hp hk.block hq.block
 |rseq ops b ih=>
  intro β K KS hp hk hq
  exact ih β K KS hp hk hq
 |scope j ks fks a lb r iha ihr=>
  intro β K KS hp hk hq
  have e0:=hp _ (List.mem_cons_self ..)
  have e1:=hp _ (List.mem_cons_of_mem _ (List.mem_cons_self ..))
  have e2:=hp _ (List.mem_cons_of_mem _ (List.mem_cons_of_mem _ (List.mem_cons_self ..)))
  have e3:=hp _ (List.mem_cons_of_mem _ (List.mem_cons_of_mem _ (List.mem_cons_of_mem _ (List.mem_cons_self ..))))
  have hr:∀p∈Sn call n Q S (β.length+1) a (vW (fun B=>vV lb B ks) K)++Sn call n Q S (β.length+1) r (vW (fun B=>vV lb B ks) K),p.1=p.2:=fun p h=>hp p (List.mem_cons_of_mem _ (List.mem_cons_of_mem _ (List.mem_cons_of_mem _ (List.mem_cons_of_mem _ h))))
  have main:∀m,XA (S.lp β j m) ks (sI lb (dA call' n r.erase) KS m):=by
   intro m
   induction m with
   |zero=>
    intro vs ρ h hl H s
    have e:=congrFun (congrFun (congrFun (congrFun e2 (rF β)) 0) (sM vs)) h
    simp only[xG,pY hl] at e
    rw[e] at s;cases s
   |succ m ihm=>
    intro vs ρ h hl H s
    have e:=congrFun (congrFun (congrFun (congrFun e3 (rF β)) m) (sM vs)) h
    simp only[xG,pY hl] at e
    have e':=congrFun (congrFun (congrFun (congrFun e1 (rF (S.lp β j m :: β))) 0) (sM vs)) h
    have hs:stk (β.length+1) 0 (rF (S.lp β j m :: β))=S.lp β j m :: β:=xG (S.lp β j m :: β)
    simp only[hs,pY hl] at e'
    rw[e,e'] at s
    have hk':Np (vV lb (S.lp β j m) ks (K β)) (yT call' n lb r.erase KS m):=hk.jump ihm
    exact ac8 (xP hc r (S.lp β j m :: β) ρ _ h _ _ (ihr (S.lp β j m :: β) (vW (fun B=>vV lb B ks) K) _ (fun p h=>hr p (List.mem_append_right _ h)) hk' hq.jump) hk' hq.jump H s)
  intro vs ρ h hl H s
  have e:=congrFun (congrFun (congrFun (congrFun e0 (rF (S.lp β j n :: β))) 0) (sM vs)) h
  have hs:stk (β.length+1) 0 (rF (S.lp β j n :: β))=S.lp β j n :: β:=xG (S.lp β j n :: β)
  simp only[hs,pY hl] at e
  rw[e] at s
  have hk':Np (vV lb (S.lp β j n) ks (K β)) (yT call' n lb r.erase KS n):=hk.jump (main n)
  exact xP hc a (S.lp β j n :: β) ρ _ h _ _ (iha (S.lp β j n :: β) (vW (fun B=>vV lb B ks) K) _ (fun p h=>hr p (List.mem_append_left _ h)) hk' hq.jump) hk' hq.jump H s
 |_=>intro β K KS hp hk hq;trivial
theorem KG {h:ah}:∀{res:List (Nat×Option (Bool×Nat))} {l:fK} {m:List (AV×Option (Bool×Nat))},G7 l res=some m→(res.any fun x=>x.2.isSome)=false→fG h m=some (m.map fun x=>x.1)
 | [],l,m,e,_=>by simp only[G7] at e;cases e;rfl
 |(t,x) :: r,l,m,e,ha=>by
  simp only[G7] at e
  split at e
  ·split at e
   ·rename_i v hv vs hvs
    cases e
    simp only[List.any_cons,Bool.or_eq_false_iff] at ha
    cases x with
    |some p=>cases ha.1
    |none=>simp only[fG,KG hvs ha.2,List.map]
   ·cases e
  ·cases e
theorem UG {res:List (Nat×Option (Bool×Nat))} {K:au} {ρ:dw} {l:fK} {h:ah} (H:Has ρ l) (s:aaY res l h K=true):∃m,G7 l res=some m∧gq (fG h m) h K=true:=by
 unfold aaY at s
 split at s
 ·rename_i m hm
  refine⟨m,hm, ?_⟩
  cases ha:res.any fun x=>x.2.isSome with
  |true=>rw[ha] at s;exact s
  |false=>rw[ha] at s;rw[KG hm ha];exact s
 ·cases s
theorem Np.fin {res:List (Nat×Option (Bool×Nat))} {K K':au} (hK:∀v h',K v h'=true→K' v h'=true):Np (YW res K) (JQ res K'):=by
 intro x l ρ h H s
 cases x with
 |normal=>obtain⟨m,e,s⟩:=UG H s;exact QY H e hK s
 |ret=>obtain⟨m,e,s⟩:=UG H s;exact abb H e hK s
 |_=>cases s
theorem Ka.fin {res:List (Nat×Option (Bool×Nat))} {K K':au} (hK:KLe K K'):Ka K (JQ res K'):=fun x ρ h s=>hK _ _ s
def Ef:dx→Bool
 | .seq (.reg ops) b=>(match lU ops with
   |some _=>false
   |none=>Ef b)
 | .seq _ b=>Ef b
 |_=>true
theorem Dc {df:lN} {res:List (Nat×Option (Bool×Nat))} {K:au} {x:BD} {σ:St} (s:JQ res K x σ=true):atEnd df [] x σ (nk res K)=true:=by
 cases x<;>first |(cases s;done)|exact s
theorem Tn {a b:dx} {σ:St} {K:nG} (s:dA call n (.seq a b) σ K=true):dA call n a σ (fun x σ'=>match x with | .normal=>dA call n b σ' K |x=>K x σ')=true:=s
theorem Ry (hm:Le call call) {df:lN} {res:List (Nat×Option (Bool×Nat))} {K:au}:∀{c:dx} {σ:St},Ef c=true→dA call n c σ (JQ res K)=true→runT call df n c [] σ (nk res K)=true:=by
 intro c
 induction c with
 |seq a b iha ihb=>
  intro σ hp s
  cases a with
  |reg ops=>
   unfold Ef at hp
   unfold runT
   cases hs:lU ops with
   |some p=>rw[hs] at hp;cases hp
   |none=>
    rw[hs] at hp
    simp only
    refine pK hm (Tn s) fun x σ' hx=> ?_
    cases x with
    |normal=>exact ihb hp hx
    |_=>exact Dc hx
  |_=>
   unfold Ef at hp
   simp only[runT]
   have s':=Tn s
   refine pK hm s' fun x σ' hx=> ?_
   cases x with
   |normal=>exact ihb hp hx
   |_=>exact Dc hx
 |_=>intro σ hp s;simp only[runT];exact pK hm s fun x σ' hx=>Dc hx
theorem Has.init:∀{vs:List AV} {i:Nat} {ρ:dw} {l:fK},Has ρ l→Has (oK i vs ρ) (Vr i vs l)
 | [],i,ρ,l,H=>H
 |v :: vs,i,ρ,l,H=>Has.init (vs:=vs) (H.set i v)
theorem J5 (σ:Nat→AV):∀(vs:List AV) (i:Nat),(∀j,j<vs.length→vs[j]? =some (σ (i+j)))→VY vs.length i σ=vs
 | [],_,_=>rfl
 |v :: vs,i,h=>by
  have h0:=h 0 (Nat.succ_pos _)
  simp only[List.getElem?_cons_zero,Nat.add_zero,Option.some.injEq] at h0
  have:=J5 σ vs (i+1) (fun j hj=>by
   have:=h (j+1) (by simpa using hj)
   simpa[Nat.add_assoc,Nat.add_comm 1 j] using this)
  simp only[List.length_cons,VY, ←h0,this]
theorem aas (vs:List AV):VY vs.length 0 (sM vs)=vs:=J5 _ vs 0 fun j hj=>by rw[Nat.zero_add];exact DW vs j hj
theorem PD {α:Type}:∀{l:List (α×α)},l.map Prod.fst=l.map Prod.snd→∀p∈l,p.1=p.2
 | [],_,p,h=>by cases h
 |q :: l,e,p,h=>by
  simp only[List.map_cons,List.cons.injEq] at e
  cases h with
  |head=>exact e.1
  |tail _ h=>exact PD e.2 p h
noncomputable def jC (np:Nat) (top:aj→Nat→au→Pv):Sh:=fun call n args h K=>jM (Nat.beq (nS args) np) (top call n K args h) false
theorem bB {E:Env} {k np:Nat} {A:Ann} {fn:dG} {S:aj→Nat→au→Sp} {top:aj→Nat→au→Pv} (hk:E.code k=some fn) (hpr:E.prim k=none) (hn:fn.np=np) (hpl:Ef fn.body=true)
 (e:(fun call n K=>(ahx call n K (S call n K) (top call n K) A fn).map Prod.fst)=fun call n K=>(ahx call n K (S call n K) (top call n K) A fn).map Prod.snd):bA E k (jC np top):=by
 intro call call' n args h K K' hc hm hK s
 subst hn
 unfold jC at s
 rw[ql,lG] at s
 cases hb:Nat.beq args.length fn.np with
 |false=>rw[hb] at s;cases s
 |true=>
  rw[hb] at s
  have hl:=Nat.eq_of_beq_eq_true hb
  refine⟨fn,hk,hpr,hl,fun df=>Ry hm hpl ?_⟩
  have ep:=PD (congrFun (congrFun (congrFun e call) n) K)
  have e0:=congrFun (congrFun (congrFun (congrFun (ep _ (List.mem_cons_self ..)) (fun _ _ _=>false)) 0) (sM args)) h
  simp only[←hl,aas] at e0
  rw[cond_true,e0] at s
  have hk:Np (YW fn.res K) (JQ fn.res K'):=Np.fin hK
  have sp:SPd call' n (S call n K) [] (toB A fn.body 0).1 (JQ fn.res K'):=agV hc _ [] (fun _=>YW fn.res K) _ (fun p h=>ep p (List.mem_cons_of_mem _ h)) hk (Ka.fin hK)
  have:=xP hc (toB A fn.body 0).1 [] (oK 0 args .lf) (Vr 0 args []) h _ _ sp hk (Ka.fin hK) (Has.init Has.nil) s
  rwa [Wn] at this
end
end Go.Ab
