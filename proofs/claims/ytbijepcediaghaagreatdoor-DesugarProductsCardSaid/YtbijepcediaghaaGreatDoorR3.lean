/-
  Texts that the claim hangs on, part 4.
-/
import Derived.Test.YtbijepcediaghaaGreatDoorR2
set_option linter.unusedSimpArgs false
set_option linter.unusedVariables false
namespace Go.Ab
noncomputable section
def kR (call:bg) (f:AV) (args:List AV) (h:ah) (K:aK):Bool:=
 match f with
 | .fn tgt first cap=>call tgt (first++args++cap) h K
 |_=>false
def Ua (c a b:AV):Option AV:=
 match c with
 | .bool x=>match x with |true=>some a |false=>some b
 |_=>none
def Ja (h:ah) (neg:Bool) (k:EqK) (a b:AV):Option AV:=
 match eqA h k a b with
 |some r=>some (.bool (bif neg then !r else r))
 |none=>none
def o7 (cells:List AV):List (Nat×Nat×AV)→Option (List AV)
 | []=>some cells
 |(off,n,v) :: rest=>bif Nat.beq v.cells.length n&&Nat.ble (off+n) cells.length&&aB v.cells then o7 (lay cells off v.cells) rest else none
def qM (z:List AV) (ps:List (Nat×Nat×AV)):Option AV:=
 match o7 z ps with
 |some l=>some (.agg l)
 |none=>none
def jT (sz:Nat) (es:List (List AV)):List (Nat×AV)→Option (List (List AV))
 | []=>some es
 |(i,v) :: rest=>bif Nat.beq v.cells.length sz&&Nat.blt i es.length&&aB v.cells then jT sz (mI es i v.cells) rest else none
def aO (h:ah) (n sz:Nat) (z:List AV) (ps:List (Nat×AV)):Option (AV×ah):=
 bif Nat.beq z.length sz&&Nat.blt 0 sz&&Nat.ble (n*sz) 16777216&&aB z then
  (match jT sz (xV n z) ps with
  |some es=>some (.slc h.sz 0 0 n n true,newRow h es sz)
  |none=>none)
 else none
def uJ (d:Nat):Option AV→Option Nat
 |none=>some d
 |some v=>asNat v
def Wh (h:ah) (sz:Nat) (x:AV) (lo hi mx:Option AV):Option AV:=
 match x with
 | .slc id g s len cap ex=>
   bif pK h id sz then
   match mx with
   |some m=>match uJ 0 (some m),uJ len hi,uJ 0 lo with
    |some m,some h,some l=>bif Nat.ble l h&&Nat.ble h m&&Nat.ble m cap&&hi.isSome then some (.slc id g (s+l) (h-l) (m-l) true) else none
    |_,_,_=>none
   |none=>match uJ len hi,uJ 0 lo with
    |some h,some l=>bif Nat.ble l h&&Nat.ble h cap then some (.slc id g (s+l) (h-l) (cap-l) ex) else none
    |_,_=>none
   else none
 | .au=>
   match uJ 0 mx,uJ 0 hi,uJ 0 lo with
   |some 0,some 0,some 0=>bif mx.isNone||hi.isSome then some .au else none
   |_,_,_=>none
 | .emp=>
   match uJ 0 mx,uJ 0 hi,uJ 0 lo with
   |some 0,some 0,some 0=>bif mx.isNone||hi.isSome then some .emp else none
   |_,_,_=>none
 |_=>none
def nQ (x:AV) (lo hi:Option AV):Option AV:=
 match x with
 | .str s=>match uJ s.length hi,uJ 0 lo with
   |some h,some l=>bif Nat.ble l h&&Nat.ble h s.length then some (.str ((s.take h).drop l)) else none
   |_,_=>none
 |_=>none
def Oj (d:Nat) (o:Option AV) (k:Nat→Bool):Bool:=@Option.rec AV (fun _=>Bool) (k d) (fun v=>Tq v k) o
theorem SY (d:Nat) (o:Option AV) (k:Nat→Bool):Oj d o k=bK (uJ d o) k:=by
 cases o with
 |none=>rfl
 |some v=>exact Jm v k
def afF (s:List Nat) (lo hi:Option AV) (k:AV→Bool):Bool:=
 @Option.rec AV (fun _=>Bool) (Oj 0 lo fun l=>kM (Nat.ble l (pq s)) (k (.str (yG l s))) false)
  (fun v=>Tq v fun m=>Oj 0 lo fun l=>kM (Nat.ble l m) (kM (Nat.ble m (pq s)) (k (.str (Bp (Nat.sub m l) (yG l s)))) false) false) hi
def aqp (x:AV) (k:List Nat→Bool):Bool:=
 match x with
 | .str s=>k s
 |_=>false
def R7 (x:AV) (lo hi:Option AV) (k:AV→Bool):Bool:=aqp x fun s=>afF s lo hi k
theorem Z7 (x:AV) (lo hi:Option AV) (k:AV→Bool):R7 x lo hi k=bK (nQ x lo hi) k:=by
 cases x<;>try rfl
 rename_i s;show afF s lo hi k=_;cases hi with
 |none=>
  have e0:afF s lo none k=Oj 0 lo (fun l=>kM (Nat.ble l (pq s)) (k (.str (yG l s))) false):=rfl;rw[e0,SY];simp only[nQ,show uJ s.length none=some s.length from rfl]
  cases uJ 0 lo with
  |none=>rfl
  |some l=>
   show kM (Nat.ble l (pq s)) _ false=bK (bif Nat.ble l s.length&&Nat.ble s.length s.length then _ else none) k;have e:Nat.ble s.length s.length=true:=aI.2 (Nat.le_refl _);rw[nM,mJ,e,Bool.and_true,wU,List.take_length];rfl
 |some v=>
  have e0:afF s lo (some v) k=Tq v (fun m=>Oj 0 lo fun l=>kM (Nat.ble l m) (kM (Nat.ble m (pq s)) (k (.str (Bp (Nat.sub m l) (yG l s)))) false) false):=rfl;rw[e0,Jm];simp only[nQ,show uJ s.length (some v)=asNat v from rfl]
  cases asNat v with
  |none=>rfl
  |some m=>
   show(Oj 0 lo fun l=>kM (Nat.ble l m) (kM (Nat.ble m (pq s)) (k (.str (Bp (Nat.sub m l) (yG l s)))) false) false)=_;rw[SY];cases uJ 0 lo with
   |none=>rfl
   |some l=>
    show kM (Nat.ble l m) (kM (Nat.ble m (pq s)) _ false) false=bK (bif Nat.ble l m&&Nat.ble m s.length then _ else none) k;rw[nM,mJ,wU,zC];cases Nat.ble l m with
    |false=>rfl
    |true=>
     cases Nat.ble m s.length with
     |false=>rfl
     |true=>
      show k _=k _;rw[List.drop_take];rfl
def ac6 (ps:List (Nat×Nat×AV)):List AV→Option (List AV):=
 @List.rec (Nat×Nat×AV) (fun _=>List AV→Option (List AV)) (fun cells=>some cells)
  (fun p _ ih cells=>kM (Nat.beq (pq (qC p.2.2)) p.2.1) (kM (Nat.ble (Nat.add p.1 p.2.1) (pq cells)) (kM (wM (qC p.2.2)) (ih (Pq (qC p.2.2) p.1 cells)) none) none) none) ps
theorem Ub:∀(ps:List (Nat×Nat×AV)) (cells:List AV),ac6 ps cells=o7 cells ps
 | [],cells=>rfl
 |(off,n,v) :: ps,cells=>by
  show kM (Nat.beq (pq (qC v)) n) (kM (Nat.ble (off+n) (pq cells)) (kM (wM (qC v)) (ac6 ps (Pq (qC v) off cells)) none) none) none=_;simp only[rX,OI,mJ,yI,o7,Ub ps];cases h1:Nat.beq v.cells.length n with
  |false=>rfl
  |true=>
   cases h2:Nat.ble (off+n) cells.length with
   |false=>rfl
   |true=>
    rw[J3 off cells (by have:=aI.1 h2;omega)];rfl
def dK (z:List AV) (ps:List (Nat×Nat×AV)) (k:AV→Bool):Bool:=@Option.rec (List AV) (fun _=>Bool) false (fun l=>k (.agg l)) (ac6 ps z)
theorem N7 (z:List AV) (ps:List (Nat×Nat×AV)) (k:AV→Bool):dK z ps k=bK (qM z ps) k:=by
 unfold dK qM;rw[Ub];cases o7 z ps<;>rfl
def agp (es:List (List AV)) (s len:Nat) (k:List (List AV)→Bool):Bool:=
 kM (Nat.beq (pq (Bp len (yG s es))) len) (k (Bp len (yG s es))) false
def aaO (es:List (List AV)) (s len:Nat) (k:List (List AV)→Bool):Bool:=
 kM (Nat.beq s 0) (kM (Nat.beq (pq es) len) (k es) (agp es s len k)) (agp es s len k)
def alh (h:ah) (sz:Nat) (x:AV) (k:List (List AV)→Bool):Bool:=
 match x with
 | .slc id g s len _ _=>kM (Nat.beq len 0) (k []) (AQ h id fun r=>kM (Nat.ble r.m g) (kM (Nat.beq r.sz sz) (aaO r.es s len k) false) false)
 |x=>bK (source h sz x) k
theorem YX (es:List (List AV)) (s len:Nat) (k:List (List AV)→Bool):aaO es s len k=bK (bif Nat.beq ((es.drop s).take len).length len then some ((es.drop s).take len) else none) k:=by
 have e1:agp es s len k=bK (bif Nat.beq ((es.drop s).take len).length len then some ((es.drop s).take len) else none) k:=by
  unfold agp;rw[zC,wU,mJ,nM];rfl
 unfold aaO;rw[e1,rX,rX,mJ];cases h1:Nat.beq s 0 with
 |false=>rfl
 |true=>
  cases h2:Nat.beq es.length len with
  |false=>rfl
  |true=>
   have h1:=aG.1 h1;have h2:=aG.1 h2;subst h1;rw[List.drop_zero,List.take_of_length_le (by omega),aG.2 h2];rfl
theorem afo (h:ah) (sz:Nat) (x:AV) (k:List (List AV)→Bool):alh h sz x k=bK (source h sz x) k:=by
 cases x<;>try rfl
 rename_i id g s len c ex;show kM (Nat.beq len 0) (k []) (AQ h id _)=_;rw[rX,xA];simp only[source];cases Nat.beq len 0 with
 |true=>rfl
 |false=>
  simp only[cond_false];cases h.row id with
  |none=>rfl
  |some r=>
   show kM (Nat.ble r.m g) (kM (Nat.beq r.sz sz) (aaO r.es s len k) false) false=bK (bif Nat.ble r.m g&&Nat.beq r.sz sz then _ else none) k;rw[nM,YX];cases Nat.ble r.m g with
   |false=>rfl
   |true=>cases Nat.beq r.sz sz<;>rfl
def akV (len m bytes:Nat) (r:Bool):Bool:=kM (Nat.ble (Nat.mul (Nat.add len m) bytes) most) (kM (Nat.ble (Nat.add len m) most) r false) false
def appW (h:ah) (sz bytes id g st len cap:Nat) (ex:Bool) (new:List (List AV)) (m:Nat) (r:Row) (k:aK):Bool:=
 akV len m bytes (kM (Nat.beq r.sz sz)
  (kM (Nat.ble (Nat.add len m) cap)
    (kM r.rw (kM (Nat.beq g r.g) (k (.slc id g st (Nat.add len m) cap ex) {sz:=h.sz,t:=h.t.set id (.row {es:=lay r.es (Nat.add st len) new,sz:=r.sz,g:=r.g,m:=r.g,rw:=r.rw,ty:=r.ty})}) false) false)
    (kM ex (kM (Nat.ble r.m g) (aaO r.es st len fun old=>k (.slc h.sz 0 0 (Nat.add len m) (Nat.add len m) false) (newRow h (WG old new) sz)) false)
      (kM r.rw (kM (Nat.beq g r.g) (kM (Nat.beq st 0)
        (kM (Nat.beq len (pq r.es)) (k (.slc id (Nat.succ r.g) 0 (Nat.add len m) (Nat.add len m) false) {sz:=h.sz,t:=h.t.set id (.row {es:=WG r.es new,sz:=r.sz,g:=Nat.succ r.g,m:=r.m,rw:=r.rw,ty:=pJ r.ty none})})
          (k (.slc id (Nat.succ r.g) 0 (Nat.add len m) (Nat.add len m) false) {sz:=h.sz,t:=h.t.set id (.row {es:=WG (Bp len r.es) new,sz:=r.sz,g:=Nat.succ r.g,m:=Nat.succ r.g,rw:=r.rw,ty:=pJ r.ty none})})) false) false) false))) false)
def jO (h:ah) (sz bytes:Nat) (s x:AV) (k:aK):Bool:=
 alh h sz x fun new=>match s with
  | .slc id g st len cap ex=>(match new with
    | []=>aQ (gQ h sz bytes s new) k
    |_=>AQ h id fun r=>appW h sz bytes id g st len cap ex new (pq new) r k)
  |s=>aQ (gQ h sz bytes s new) k
theorem yM (c:Bool) (o:Option (AV×ah)) (k:aK):aQ (bif c then o else none) k=kM c (aQ o k) false:=by cases c<;>rfl
theorem ZR (h:ah) (sz bytes:Nat) (s x:AV) (k:aK) (hs:Nat.beq sz 0=false):jO h sz bytes s x k=aQ (gG h sz bytes s x) k:=by
 unfold jO gG;rw[hs,cond_false,afo];cases source h sz x with
 |none=>rfl
 |some new=>
  show _=aQ (gQ h sz bytes s new) k;cases s<;>try rfl
  rename_i id g st len cap ex;cases new with
  |nil=>rfl
  |cons y l=>
   show AQ h id _=_;rw[xA];simp only[gQ];cases h.row id with
   |none=>rfl
   |some r=>
    show appW h sz bytes id g st len cap ex (y :: l) (pq (y :: l)) r k=_;unfold appW akV;rw[mJ];generalize(y :: l).length=m;show kM (Nat.ble ((len+m)*bytes) most) (kM (Nat.ble (len+m) most) (kM (Nat.beq r.sz sz) _ false) false) false=_;rw[yM];cases Nat.ble ((len+m)*bytes) most with
    |false=>rfl
    |true=>
    cases Nat.ble (len+m) most with
    |false=>rfl
    |true=>
    cases Nat.beq r.sz sz with
    |false=>rfl
    |true=>
    show kM (Nat.ble (len+m) cap) _ _=aQ (bif Nat.ble (len+m) cap then _ else _) k;cases Nat.ble (len+m) cap with
    |true=>
     show kM r.rw (kM (Nat.beq g r.g) _ false) false=aQ (bif r.rw&&Nat.beq g r.g then _ else none) k;rw[yM];cases hrw:r.rw with
     |false=>rfl
     |true=>
      cases Nat.beq g r.g with
      |false=>rfl
      |true=>
       show k _ _=k _ _;simp only[ah.put,hrw];rfl
    |false=>
    cases ex with
    |true=>
     show kM (Nat.ble r.m g) (aaO r.es st len _) false=aQ (bif Nat.ble r.m g then _ else none) k;rw[yM,YX];cases Nat.ble r.m g with
     |false=>rfl
     |true=>
      show bK (bif Nat.beq ((r.es.drop st).take len).length len then _ else none) _=aQ (bif Nat.beq ((r.es.drop st).take len).length len then _ else none) k;rw[nM,yM];cases Nat.beq ((r.es.drop st).take len).length len with
      |false=>rfl
      |true=>
       show k _ (newRow h (WG _ (y :: l)) sz)=k _ _;rw[Et];rfl
    |false=>
     show kM r.rw (kM (Nat.beq g r.g) (kM (Nat.beq st 0) _ false) false) false=aQ (bif r.rw&&Nat.beq g r.g&&Nat.beq st 0 then _ else none) k;rw[yM];cases hrw:r.rw with
     |false=>rfl
     |true=>
     cases Nat.beq g r.g with
     |false=>rfl
     |true=>
     cases Nat.beq st 0 with
     |false=>rfl
     |true=>
      show kM (Nat.beq len (pq r.es)) _ _=aQ (bif Nat.beq len r.es.length then _ else _) k;rw[mJ,Et,Et,zC];cases Nat.beq len r.es.length with
      |true=>
       show k _ _=k _ _;simp only[ah.put,hrw];rfl
      |false=>
       show k _ _=k _ _;simp only[ah.put,hrw];rfl
def pV (h:ah) (z:List AV):Option (AV×ah):=qR h z
def XJ (h:ah) (t:Nat) (z:List AV):Option (AV×ah):=bif Nat.blt 0 z.length&&aB z then some (.ptr h.sz 0 0 0,newRow h [z] z.length (some t)) else none
def aej (h:ah) (e:Nat) (s x:AV):Option (AV×ah):=gG h 1 1 s x (some e)
def mmV (mx:Bool):List AV→Option AV
 |v :: l=>mmA mx v l
 | []=>none
def zJ (h:ah):Option (AV×ah):=some (.map h.sz,h.push (.map [] 0))
abbrev fU:=List (Nat×AV)
def fU.get:fU→Nat→Option AV
 | [],_=>none
 |(k,v) :: l,n=>bif Nat.beq n k then some v else fU.get l n
def Has (ρ:bZ) (l:fU):Prop:=∀k v,l.get k=some v→ρ.get k=some v
theorem Has.nil {ρ:bZ}:Has ρ []:=fun _ _ h=>by cases h
theorem Has.set {ρ:bZ} {l:fU} (H:Has ρ l) (d:Nat) (v:AV):Has (ρ.set d v) ((d,v) :: l):=by
 intro k u h;rw[PT.get_set];simp only[fU.get] at h;cases hb:Nat.beq k d with
 |true=>
  rw[hb,cond_true] at h;rw[if_pos (Nat.eq_of_beq_eq_true hb)];exact h
 |false=>
  rw[hb,cond_false] at h;rw[if_neg (dF.1 hb)];exact H k u h
def DI:List Nat→fU→Option fU
 | [],_=>some []
 |k :: ks,l=>match l.get k with
  |some v=>match DI ks l with
   |some m=>some ((k,v) :: m)
   |none=>none
  |none=>none
theorem OJ:∀{ks:List Nat} {l m:fU},DI ks l=some m→∀k v,m.get k=some v→l.get k=some v
 | [],l,m,h,k,v,e=>by simp only[DI] at h;cases h;cases e
 |k :: ks,l,m,h,j,v,e=>by
  simp only[DI] at h;split at h
  ·rename_i u hu;split at h
   ·rename_i m' hm;cases h;simp only[fU.get] at e;cases hb:Nat.beq j k with
    |true=>rw[hb,cond_true] at e;cases e;rw[Nat.eq_of_beq_eq_true hb];exact hu
    |false=>rw[hb,cond_false] at e;exact OJ hm j v e
   ·cases h
  ·cases h
theorem Has.keep {ρ:bZ} {l m:fU} (H:Has ρ l) (ks:List Nat) (h:DI ks l=some m):Has ρ m:=fun k v e=>H k v (OJ h k v e)
def o8 (l:fU):bB→Option AV
 | .t r=>l.get r
 | .c v=>some v
def Kz (l:fU):List bB→Option (List AV)
 | []=>some []
 |x :: xs=>match o8 l x with
  |some v=>match Kz l xs with
   |some vs=>some (v :: vs)
   |none=>none
  |none=>none
def EI (l:fU):Option bB→Option (Option AV)
 |none=>some none
 |some x=>match o8 l x with
  |some v=>some (some v)
  |none=>none
def FL (l:fU):List (Nat×Nat×bB)→Option (List (Nat×Nat×AV))
 | []=>some []
 |(a,b,x) :: xs=>match o8 l x with
  |some v=>match FL l xs with
   |some vs=>some ((a,b,v) :: vs)
   |none=>none
  |none=>none
def LW (l:fU):List (Nat×bB)→Option (List (Nat×AV))
 | []=>some []
 |(a,x) :: xs=>match o8 l x with
  |some v=>match LW l xs with
   |some vs=>some ((a,v) :: vs)
   |none=>none
  |none=>none
theorem iA {ρ:bZ} {l:fU} (H:Has ρ l) {x:bB} {v:AV} (h:o8 l x=some v):ev ρ x=some v:=by
 cases x with
 |t r=>exact H r v h
 |c u=>exact h
theorem Dp {ρ:bZ} {l:fU} (H:Has ρ l):∀{xs:List bB} {vs:List AV},Kz l xs=some vs→evs ρ xs=some vs
 | [],vs,h=>by simpa[Kz,evs] using h
 |x :: xs,vs,h=>by
  simp only[Kz] at h;split at h
  ·rename_i v hv;split at h
   ·rename_i vs' hvs;cases h;simp only[evs,iA H hv,Dp H hvs]
   ·cases h
  ·cases h
theorem wT {ρ:bZ} {l:fU} (H:Has ρ l) {d:Nat} {x:Option bB} {o:Option AV} (h:EI l x=some o):oD ρ d x=uJ d o∧x.isSome=o.isSome∧x.isNone=o.isNone∧(x=none↔o=none):=by
 cases x with
 |none=>simp only[EI] at h;cases h;exact⟨rfl,rfl,rfl,by simp⟩
 |some x=>
  simp only[EI] at h;split at h
  ·rename_i v hv;cases h;exact⟨by simp only[oD,iA H hv,uJ],rfl,rfl,by simp⟩
  ·cases h
theorem Ut {ρ:bZ} {l:fU} (H:Has ρ l):∀{ps:List (Nat×Nat×bB)} {vs:List (Nat×Nat×AV)} {cells:List AV},FL l ps=some vs→yu ρ cells ps=o7 cells vs
 | [],vs,cells,h=>by simp only[FL] at h;cases h;rfl
 |(a,b,x) :: ps,vs,cells,h=>by
  simp only[FL] at h;split at h
  ·rename_i v hv;split at h
   ·rename_i vs' hvs;cases h;simp only[yu,o7,iA H hv];rw[Ut H hvs]
   ·cases h
  ·cases h
theorem Ir {ρ:bZ} {l:fU} (H:Has ρ l) {sz:Nat}:∀{ps:List (Nat×bB)} {vs:List (Nat×AV)} {es:List (List AV)},LW l ps=some vs→kW ρ sz es ps=jT sz es vs
 | [],vs,es,h=>by simp only[LW] at h;cases h;rfl
 |(a,x) :: ps,vs,es,h=>by
  simp only[LW] at h;split at h
  ·rename_i v hv;split at h
   ·rename_i vs' hvs;cases h;simp only[kW,jT,iA H hv];rw[Ir H hvs]
   ·cases h
  ·cases h
def l1 (l:fU) (x:bB) (f:AV→Option AV):Option (Option AV):=
 match o8 l x with
 |some v=>some (f v)
 |none=>none
def l2 (l:fU) (x y:bB) (f:AV→AV→Option AV):Option (Option AV):=
 match o8 l x with
 |some v=>match o8 l y with
  |some w=>some (f v w)
  |none=>none
 |none=>none
def lN (l:fU) (h:ah) (op:dW):Option (Option AV):=
 match op with
 | .mv x=>match o8 l x with
   |some v=>some (some v)
   |none=>none
 | .pick c a b=>match o8 l c,o8 l a,o8 l b with
   |some c,some a,some b=>some (Ua c a b)
   |_,_,_=>none
 | .build z ps=>match FL l ps with
   |some vs=>some (qM z vs)
   |none=>none
 | .load ag n a=>l1 l a (dL h ag n)
 | .nilck x=>l1 l x FT
 | .bin op x y=>l2 l x y (dV op)
 | .eq neg k x y=>l2 l x y (Ja h neg k)
 | .not x=>l1 l x abw
 | .neg x=>l1 l x abF
 | .conv k x=>l1 l x (ahl k)
 | .b2s x=>l1 l x (akr h)
 | .cvs x=>l1 l x akt
 | .mkfn f a b=>match Kz l a with
   |some a=>match Kz l b with
    |some b=>some (some (.fn (.func f) a b))
    |none=>none
   |none=>none
 | .sl sz x lo hi mx=>match o8 l x,EI l lo,EI l hi,EI l mx with
   |some v,some lo,some hi,some mx=>some (Wh h sz v lo hi mx)
   |_,_,_,_=>none
 | .sls x lo hi=>match o8 l x,EI l lo,EI l hi with
   |some v,some lo,some hi=>some (nQ v lo hi)
   |_,_,_=>none
 | .fadr off x=>l1 l x (OG off)
 | .fld ag off n x=>l1 l x (NA ag off n)
 | .iadr sz x i=>l2 l x i (oG h sz)
 | .iadra len esz x i=>l2 l x i (aeI len esz)
 | .idxs x i=>l2 l x i mX
 | .idxa ag len esz x i=>l2 l x i (ahh ag len esz)
 | .look kk ok z m k=>l2 l m k (uH h kk ok z)
 | .ext x i=>l1 l x (WS i)
 | .len k x=>l1 l x (AP h k)
 | .cap x=>l1 l x akW
 | .mm mx xs=>match Kz l xs with
   |some vs=>some (mmV mx vs)
   |none=>none
 | .ent x=>l1 l x (ak2 h)
 | .uto x=>l1 l x (Xn h)
 | .ufr t n us x=>l1 l x (V9 h t n us)
 | .sdat x=>l1 l x K5
 | .mkif t x=>l1 l x (Pm t)
 | .tas t ok z x=>l1 l x (afr t ok z)
 |_=>none
def Ii (l:fU) (h:ah) (op:dW):Option (Option (AV×ah)):=
 match op with
 | .alloc z=>some (pV h z)
 | .box ty n x=>match o8 l x with
   |some v=>some (mo h ty n v)
   |none=>none
 | .bslice n sz z ps=>match LW l ps with
   |some vs=>some (aO h n sz z vs)
   |none=>none
 | .store n a v=>match o8 l a,o8 l v with
   |some a,some v=>some (unit (bM h n a v))
   |_,_=>none
 | .mkmap=>some (zJ h)
 | .mksl sz bytes z a c=>match o8 l a,o8 l c with
   |some a,some c=>some (Eb h sz bytes z a c)
   |_,_=>none
 | .mupd kk m k v=>match o8 l m,o8 l k,o8 l v with
   |some m,some k,some v=>some (unit (lM h kk m k v))
   |_,_,_=>none
 | .app sz bytes s x=>match o8 l s,o8 l x with
   |some s,some x=>some (gG h sz bytes s x)
   |_,_=>none
 | .appz sz bytes z s x=>match o8 l s,o8 l x with
   |some s,some x=>some (acu h sz bytes z s x)
   |_,_=>none
 | .copy sz d s=>match o8 l d,o8 l s with
   |some d,some s=>some (ahA h sz d s)
   |_,_=>none
 | .del kk m k=>match o8 l m,o8 l k with
   |some m,some k=>some (unit (akR h kk m k))
   |_,_=>none
 | .clr sz z x=>match o8 l x with
   |some v=>some (unit (akB h sz z v))
   |none=>none
 | .rng x=>match o8 l x with
   |some v=>some (akZ h v)
   |none=>none
 | .allot t z=>some (XJ h t z)
 | .appb e s x=>match o8 l s,o8 l x with
   |some s,some x=>some (aej h e s x)
   |_,_=>none
 | .ustr e p n=>match o8 l p,o8 l n with
   |some p,some n=>some (IE h e p n)
   |_,_=>none
 | .stw n a v b=>match o8 l a,o8 l v,o8 l b with
   |some a,some v,some b=>some (bif sj a b then unit (bM h n a v) else none)
   |_,_,_=>none
 |_=>none
section
variable {ρ:bZ} {l:fU} {h:ah} {op:dW}
theorem ahZ (H:Has ρ l) {x:bB} {f:AV→Option AV} {o:Option AV} (e:l1 l x f=some o):qo ρ x f=o:=by
 unfold l1 at e;split at e
 ·rename_i v hv;cases e;simp only[qo,iA H hv]
 ·cases e
theorem ajp (H:Has ρ l) {x y:bB} {f:AV→AV→Option AV} {o:Option AV} (e:l2 l x y f=some o):Ue ρ x y f=o:=by
 unfold l2 at e;split at e
 ·rename_i v hv;split at e
  ·rename_i w hw;cases e;simp only[Ue,iA H hv,iA H hw]
  ·cases e
 ·cases e
theorem abS (H:Has ρ l) {sz:Nat} {v:AV} {lo hi mx:Option bB} {a b c:Option AV} (h1:EI l lo=some a) (h2:EI l hi=some b) (h3:EI l mx=some c):GI ρ h sz v lo hi mx=Wh h sz v a b c:=by
 have e1:=fun d=>wT H (d:=d) h1;have e2:=fun d=>wT H (d:=d) h2;have e3:=fun d=>wT H (d:=d) h3;unfold GI Wh;cases v<;>simp only[(e1 0).1,(e2 _).1,(e3 0).1,(e2 0).2.1,(e3 0).2.2.1]
 ·cases mx with
  |none=>
   have:c=none:=(e3 0).2.2.2.1 rfl;subst this;rfl
  |some m=>
   cases c with
   |none=>have:=(e3 0).2.2.2.2 rfl;cases this
   |some c=>
    have:=(e3 0).1;simp only[this];rfl
 ·rfl
 ·rfl
theorem tL (H:Has ρ l) {o:Option AV} (e:lN l h op=some o):aN ρ h op=bT o h∧dI op=false:=by
 unfold lN at e;split at e
 case h_1 x=>
  split at e
  ·rename_i v hv;cases e;simp only[aN,iA H hv,dI,and_self]
  ·cases e
 case h_2 c a b=>
  split at e
  ·rename_i c' a' b' h1 h2 h3;cases e;refine⟨?_,rfl⟩;simp only[aN,iA H h1,iA H h2,iA H h3];cases c'<;>try rfl
   rename_i x;cases x<;>rfl
  ·cases e
 case h_3 z ps=>
  split at e
  ·rename_i vs hvs;cases e;refine⟨?_,rfl⟩;simp only[aN,Ut H hvs,qM];cases o7 z vs<;>rfl
  ·cases e
 case h_7 neg k x y=>
  unfold l2 at e;split at e
  ·rename_i v hv;split at e
   ·rename_i w hw;cases e;refine⟨?_,rfl⟩;simp only[aN,iA H hv,iA H hw,Ja];cases eqA h k v w<;>rfl
   ·cases e
  ·cases e
 case h_13 f a b=>
  split at e
  ·rename_i a' ha;split at e
   ·rename_i b' hb;cases e;exact⟨by simp only[aN,Dp H ha,Dp H hb,bT],rfl⟩
   ·cases e
  ·cases e
 case h_14 sz x lo hi mx=>
  split at e
  ·rename_i v a b c h0 h1 h2 h3;cases e;exact⟨by simp only[aN,qo,iA H h0,abS H h1 h2 h3],rfl⟩
  ·cases e
 case h_15 x lo hi=>
  split at e
  ·rename_i v a b h0 h1 h2;cases e;refine⟨?_,rfl⟩;simp only[aN,qo,iA H h0];congr 1;unfold M6 nQ;cases v<;>simp only[(wT H h1).1,(wT H h2).1];rfl
  ·cases e
 case h_26 mx xs=>
  split at e
  ·rename_i vs hvs;cases e;refine⟨?_,rfl⟩;simp only[aN,Dp H hvs];cases vs<;>rfl
  ·cases e
 all_goals first
  |exact⟨by simp only[aN];rw[ahZ H e],rfl⟩
  |exact⟨by simp only[aN];rw[ajp H e],rfl⟩
  |cases e
theorem Po (H:Has ρ l) {o:Option (AV×ah)} (e:Ii l h op=some o):aN ρ h op=o∧dI op=false:=by
 unfold Ii at e;split at e
 case h_1 z=>cases e;exact⟨rfl,rfl⟩
 case h_3 n sz z ps=>
  split at e
  ·rename_i vs hvs;cases e;refine⟨?_,rfl⟩;simp only[aN,aO,Ir H hvs];rfl
  ·cases e
 case h_5=>cases e;exact⟨rfl,rfl⟩
 case h_14=>cases e;exact⟨rfl,rfl⟩
 case h_15=>
  split at e
  ·rename_i h1 h2;cases e;refine⟨?_,rfl⟩;simp only[aN,iA H h1,iA H h2];rfl
  ·cases e
 all_goals first
  |cases e;done
  |(split at e
    ·cases e;refine⟨?_,rfl⟩;rename_i h1;simp only[aN,iA H h1]
    ·cases e)
  |(split at e
    ·cases e;refine⟨?_,rfl⟩;rename_i h1 h2;simp only[aN,iA H h1,iA H h2]
    ·cases e)
  |(split at e
    ·cases e;refine⟨?_,rfl⟩;rename_i h1 h2 h3;simp only[aN,iA H h1,iA H h2,iA H h3]
    ·cases e)
def Le (c c':bg):Prop:=∀t a h (K K':aK),c t a h K=true→(∀v h',K v h'=true→K' v h'=true)→c' t a h K'=true
abbrev KLe (K K':aK):Prop:=∀v h',K v h'=true→K' v h'=true
variable {call call':bg}
theorem ad1 (hc:Le call call') {f:AV} {vs:List AV} {k k':aK} (s:kR call f vs h k=true) (hk:KLe k k'):kR call' f vs h k'=true:=by
 unfold kR at s ⊢;cases f<;>first |(cases s;done)|exact hc _ _ _ _ _ s hk
theorem PG {v:AV} {k k':aK} (s:Uq h v k=true) (hk:∀l h',k (.tup l) h'=true→k' (.tup l) h'=true):Uq h v k'=true:=by
 unfold Uq at s ⊢;split at s<;>first |(cases s;done)|skip
 split at s<;>first |(cases s;done)|exact hk _ _ s |skip
 split at s<;>first |(cases s;done)|skip
 rename_i es clock hes;cases hb:(!List.isEmpty _&& !List.isEmpty es&&es.all _) with
 |true=>rw[hb,cond_true] at s;cases s
 |false=>
  rw[hb,cond_false] at s;simp only[cond_false];rw[List.all_eq_true] at s ⊢;intro x hx;have:=s x hx;cases x with
  |none=>exact hk _ _ this
  |some e=>exact hk _ _ this
theorem ab0 (hc:Le call call') {K K':aK} (s:gW call ρ h op K=true) (hk:KLe K K'):gW call' ρ h op K'=true:=by
 cases hn:dI op with
 |false=>
  rw[kF hn] at s ⊢;split at s
  ·exact hk _ _ s
  ·cases s
 |true=>
  cases op<;>first |(cases hn;done)|skip
  case call f xs=>
   simp only[gW] at s ⊢;split at s
   ·exact hc _ _ _ _ _ s hk
   ·cases s
  case nxt x=>
   simp only[gW] at s ⊢;split at s
   ·exact PG s fun l h'=>hk _ _
   ·cases s
  case pnc x=>
   simp only[gW] at s ⊢;split at s
   ·exact hk _ _ s
   ·cases s
  case dfr f xs=>cases s
  case rcv=>cases s
theorem Tf (hc:Le call call') {o:aT} {σ:St} {k k':KSt} (s:jM call o σ k=true) (hk:∀v σ',k v σ'=true→k' v σ'=true):jM call' o σ k'=true:=by
 unfold jM at s ⊢;split at s
 ·exact ab0 hc s fun v h' hv=>hk _ _ hv
 ·exact hk _ _ s
 ·cases s
abbrev XI (K K':ow):Prop:=∀x σ,K x σ=true→K' x σ=true
theorem P7 (hc:Le call call'):∀{ops:List aT} {σ:St} {k k':ow},mR call ops σ k=true→XI k k'→mR call' ops σ k'=true
 | [],σ,k,k',s,hk=>hk _ _ s
 |o :: ops,σ,k,k',s,hk=>by
  simp only[mR] at s ⊢;refine Tf hc s fun v σ' hv=> ?_;cases hp:oL (dI o.op) v with
  |none=>rw[hp] at hv;exact P7 hc hv hk
  |some x=>rw[hp] at hv;exact hk _ _ hv
theorem Zo (hc:Le call call') {ρ0:bZ}:∀{ops:List (aT×List aT×List aT)} {es:List Nat} {σ:St} {k k':ow},oq call ρ0 es ops σ k=true→XI k k'→oq call' ρ0 es ops σ k'=true
 | [],es,σ,k,k',s,hk=>hk _ _ s
 |(act,chk,ns) :: ops,es,σ,k,k',s,hk=>by
  simp only[oq] at s ⊢;refine Tf hc s fun v σ' hv=> ?_;cases hp:oL (dI act.op) v with
  |some x=>
   rw[hp] at hv;simp only at hv ⊢;split at hv
   ·exact hk _ _ hv
   ·cases hv
  |none=>
   rw[hp] at hv;simp only at hv ⊢;cases ha:again σ'.regs σ'.h chk with
   |false=>rw[ha] at hv;cases hv
   |true=>
    rw[ha] at hv;simp only[cond_true] at hv ⊢;split at hv
    ·exact Zo hc hv hk
    ·cases hv
theorem Z6 {f f':St→ow→Bool} {K K':ow} (hf:∀σ (k k':ow),f σ k=true→XI k k'→f' σ k'=true) (hK:XI K K'):∀(n:Nat) (σ:St),iter f K n σ=true→iter f' K' n σ=true
 |0,σ,s=>by cases s
 |n+1,σ,s=>by
  simp only[iter] at s ⊢;refine hf _ _ _ s fun x σ' hx=> ?_;cases x with
  |normal=>exact Z6 hf hK n σ' hx
  |_=>exact hK _ _ hx
theorem Vp {l:Nat} {f f':St→ow→Bool} {K K':ow} (hf:∀σ (k k':ow),f σ k=true→XI k k'→f' σ k'=true) (hK:XI K K'):∀(n:Nat) (σ:St),vJ l f K n σ=true→vJ l f' K' n σ=true
 |0,σ,s=>by cases s
 |n+1,σ,s=>by
  simp only[vJ] at s ⊢;refine hf _ _ _ s fun x σ' hx=> ?_;cases x with
  |goto l'=>
   simp only at hx ⊢;cases hb:Nat.beq l' l with
   |false=>rw[hb] at hx;cases hx
   |true=>rw[hb] at hx;exact Vp hf hK n σ' hx
  |_=>exact hK _ _ hx
theorem rz (hc:Le call call') {n:Nat}:∀{c:cZ} {σ:St} {K K':ow},dh call n c σ K=true→XI K K'→dh call' n c σ K'=true:=by
 intro c
 induction c with
 |skip=>intro σ K K' s hk;exact hk _ _ s
 |reg ops=>intro σ K K' s hk;exact P7 hc s hk
 |dreg n0 rest=>
  intro σ K K' s hk;simp only[dh] at s ⊢;split at s
  ·exact Zo hc s hk
  ·cases s
 |seq a b iha ihb=>
  intro σ K K' s hk;simp only[dh] at s ⊢;refine iha s fun x σ' hx=> ?_;cases x with
  |normal=>exact ihb hx hk
  |_=>exact hk _ _ hx
 |cond o a b iha ihb=>
  intro σ K K' s hk;simp only[dh] at s ⊢;split at s
  ·exact iha s hk
  ·exact ihb s hk
  ·cases s
 |block id a ih=>
  intro σ K K' s hk;simp only[dh] at s ⊢;refine ih s fun x σ' hx=> ?_;cases x with
  |exit i=>
   simp only at hx ⊢;cases hb:Nat.beq i id with
   |true=>rw[hb] at hx;exact hk _ _ hx
   |false=>rw[hb] at hx;exact hk _ _ hx
  |_=>exact hk _ _ hx
 |loop a ih=>
  intro σ K K' s hk;exact Z6 (f:=dh call n a) (f':=dh call' n a) (fun σ k k' s' hk'=>ih s' hk') hk n σ s
 |rf f ps asg body iha ihb=>
  intro σ K K' s hk;simp only[dh] at s ⊢;split at s
  ·refine hc _ _ _ _ _ s fun v h' hv=> ?_;cases hp:iB v with
   |some x=>rw[hp] at hv;cases hv
   |none=>
   rw[hp] at hv;simp only at hv ⊢;split at hv
   ·rename_i lo hlo
    (try simp only[hlo])
    split at hv
    ·rename_i hst
     (try simp only[hst])
     exact hk _ _ hv
    ·rename_i x hst
     (try simp only[hst])
     exact hk _ _ hv
    ·cases hv
   ·cases hv
  ·cases s
 |exit id=>intro σ K K' s hk;exact hk _ _ s
 |scope a l r iha ihr=>
  intro σ K K' s hk;simp only[dh] at s ⊢;refine iha s fun x σ' hx=> ?_;cases x with
  |goto l'=>
   simp only at hx ⊢;cases hb:Nat.beq l' l with
   |false=>rw[hb] at hx;cases hx
   |true=>rw[hb] at hx;exact Vp (f:=dh call n r) (f':=dh call' n r) (fun σ k k' s' hk'=>ihr s' hk') hk n σ' hx
  |_=>exact hk _ _ hx
 |label l=>intro σ K K' s hk;exact hk _ _ s
 |goto l=>intro σ K K' s hk;exact hk _ _ s
 |ret=>intro σ K K' s hk;exact hk _ _ s
 |refuse=>intro σ K K' s hk;cases s
 |keep ks a ih=>intro σ K K' s hk;exact ih s hk
 |cut cs a ih=>
  intro σ K K' s hk;simp only[dh] at s ⊢;split at s
  ·exact ih s hk
  ·exact ih s hk
abbrev alj (K K':KMo):Prop:=∀x d σ,K x d σ=true→K' x d σ=true
abbrev ak6 (K K':Mf):Prop:=∀μ h,K μ h=true→K' μ h=true
def agj (df df':ni):Prop:=∀g as μ h (K K':Mf),df g as μ h K=true→ak6 K K'→df' g as μ h K'=true
theorem CU {μ:Mode}:∀{ops:List aT} {d:Bool} {σ:St} {K K':KMo},yZ μ ops d σ K=true→alj K K'→yZ μ ops d σ K'=true
 | [],d,σ,K,K',s,hk=>hk _ _ _ s
 |o :: l,d,σ,K,K',s,hk=>by
  unfold yZ at s ⊢;split at s
  ·split at s
   ·exact CU s hk
   ·split at s
    ·exact CU s hk
    ·cases s
  ·exact CU s hk
  ·cases s
theorem afQ (hc:Le call call') {n:Nat} {μ:Mode}:∀{c:cZ} {d:Bool} {σ:St} {K K':KMo},mE call n μ c d σ K=true→alj K K'→mE call' n μ c d σ K'=true:=by
 intro c
 induction c with
 |seq a b iha ihb=>
  intro d σ K K' s hk;simp only[mE] at s ⊢;refine iha s fun x d' σ' hx=> ?_;cases x with
  |normal=>exact ihb hx hk
  |_=>exact hk _ _ _ hx
 |cond o a b iha ihb=>
  intro d σ K K' s hk;simp only[mE] at s ⊢;split at s
  ·exact iha s hk
  ·exact ihb s hk
  ·cases s
 |reg ops=>
  intro d σ K K' s hk;simp only[mE] at s ⊢;cases hb:FR ops with
  |true=>rw[hb] at s;exact CU s hk
  |false=>rw[hb] at s;exact rz hc s fun x σ'=>hk _ _ _
 |_=>intro d σ K K' s hk;simp only[mE] at s ⊢;exact rz hc s fun x σ'=>hk _ _ _
theorem Zr {df df':ni} (hd:agj df df'):∀{l:List (AV×List AV)} {μ:Mode} {h:ah} {K K':Mf},ends df l μ h K=true→ak6 K K'→ends df' l μ h K'=true
 | [],μ,h,K,K',s,hk=>hk _ _ s
 |(f,as) :: l,μ,h,K,K',s,hk=>by
  unfold ends at s ⊢;split at s
  ·exact hd _ _ _ _ _ _ s fun μ' h' hx=>Zr hd hx hk
  ·cases s
theorem Ed {df df':ni} (hd:agj df df') {pend:List (AV×List AV)} {x:Dk} {σ:St} {K K':Mode→St→Bool} (s:atEnd df pend x σ K=true) (hk:∀μ σ,K μ σ=true→K' μ σ=true):atEnd df' pend x σ K'=true:=by
 cases x<;>first |(cases s;done)|exact Zr hd s fun μ h=>hk _ _
theorem Qy (hc:Le call call') {df df':ni} (hd:agj df df') {n:Nat}:∀{c:cZ} {pend:List (AV×List AV)} {σ:St} {K K':Mode→St→Bool},runT call df n c pend σ K=true→(∀μ σ,K μ σ=true→K' μ σ=true)→runT call' df' n c pend σ K'=true:=by
 intro c
 induction c with
 |seq a b iha ihb=>
  intro pend σ K K' s hk;cases a with
  |reg ops=>
   unfold runT at s ⊢;cases hs:mZ ops with
   |some p=>
    have⟨pre,f,as⟩:=p;rw[hs] at s;simp only at s ⊢;refine P7 hc s fun x σ' hx=> ?_;cases x with
    |normal=>
     simp only at hx ⊢;split at hx
     ·exact ihb hx hk
     ·cases hx
    |_=>exact Ed hd hx hk
   |none=>
    rw[hs] at s;simp only at s ⊢;refine rz hc s fun x σ' hx=> ?_;cases x with
    |normal=>exact ihb hx hk
    |_=>exact Ed hd hx hk
  |_=>
   simp only[runT] at s ⊢;refine rz hc s fun x σ' hx=> ?_;cases x with
   |normal=>exact ihb hx hk
   |_=>exact Ed hd hx hk
 |_=>intro pend σ K K' s hk;simp only[runT] at s ⊢;exact rz hc s fun x σ' hx=>Ed hd hx hk
theorem Nc {res:List (Nat×Option (Bool×Nat))} {K K':aK} (hK:KLe K K') {μ:Mode} {σ:St} (s:kT res K μ σ=true):kT res K' μ σ=true:=by
 cases μ with
 |ret=>
  simp only[kT] at s ⊢;split at s
  ·exact hK _ _ s
  ·cases s
 |pan v=>exact hK _ _ s
theorem PS {E:Env} (hc:Le call call') (n:Nat):agj (uF E call n) (uF E call' n):=by
 intro g as μ h K K' s hk;unfold uF at s ⊢;split at s
 ·cases s
 ·rename_i hp
  (try simp only[hp])
  split at s
  ·cases s
  ·rename_i fn hf
   (try simp only[hf])
   cases hb:(Nat.beq as.length fn.np&&fn.res.isEmpty&&ou fn.body) with
   |false=>rw[hb] at s;cases s
   |true=>
    rw[hb] at s;simp only[cond_true] at s ⊢;refine afQ hc s fun x d σ hx=> ?_;cases x<;>first |(cases hx;done)|exact hk _ _ hx
def P9 (call:bg) (n id:Nat) (args:List AV) (h:ah) (K:aK):Bool:=
 match h.get id with
 |some (.loop l)=>match l.st with
  | .ready=>match DX l.ps args l.regs with
    |some ρ=>dh call n l.asg ⟨ρ,h⟩ fun x σ=>match x with
     | .normal=>(match σ.h.get id with
       |some (.loop l1)=>match l1.st with
        | .ready=>dh call n l.body ⟨σ.regs,σ.h.put id (.loop {l1 with st:= .busy})⟩ fun x σ2=>
          match σ2.h.get id with
          |some (.loop l2)=>match x with
           | .normal=>K (.bool true) (σ2.h.put id (.loop {l2 with st:= .ready}))
           | .panic _=>false
           |x=>K (.bool false) (σ2.h.put id (.loop {l2 with st:= .done x}))
          |_=>false
        |_=>false
       |_=>false)
     |_=>false
    |none=>false
  |_=>false
 |_=>false
theorem OB (hc:Le call call') {n id:Nat} {args:List AV} {h:ah} {K K':aK} (s:P9 call n id args h K=true) (hK:KLe K K'):P9 call' n id args h K'=true:=by
 unfold P9 at s ⊢;split at s
 rotate_left
 ·cases s
 rename_i l hl
 (try simp only[hl])
 split at s
 rotate_left
 ·cases s
 rename_i hst
 (try simp only[hst])
 split at s
 rotate_left
 ·cases s
 rename_i ρ hρ
 (try simp only[hρ])
 refine rz hc s fun x σ hx=> ?_;cases x<;>first |(cases hx;done)|skip
 simp only at hx ⊢;split at hx
 rotate_left
 ·cases hx
 rename_i l1 hl1
 (try simp only[hl1])
 split at hx
 rotate_left
 ·cases hx
 rename_i hst1
 (try simp only[hst1])
 refine rz hc hx fun x σ2 hx2=> ?_;split at hx2
 rotate_left
 ·cases hx2
 rename_i l2 hl2
 (try simp only[hl2])
 cases x<;>first |(cases hx2;done)|exact hK _ _ hx2
abbrev Sh:=bg→Nat→List AV→ah→aK→Bool
def Mt (E:Env) (call:bg) (n f:Nat) (a:List AV) (h:ah) (K:aK):Bool:=
 match E.prim f with
 |some p=>p call n a h K
 |none=>match E.code f with
  |none=>false
  |some fn=>bif Nat.beq a.length fn.np then runT call (uF E call n) n fn.body [] ⟨mK 0 a .lf,h⟩ (kT fn.res K) else false
def stepT (E:Env) (tab:Nat→Option Sh) (call:bg) (n:Nat):bg:=fun t a h K=>
 @NG.rec (fun _=>Bool) (fun f=>@Option.rec Sh (fun _=>Bool) (Mt E call n f a h K) (fun s=>s call n a h K) (tab f)) (fun id=>P9 call n id a h K) t
def TB (E:Env) (tab:Nat→Option Sh) (n:Nat):bg:=@Nat.rec (fun _=>bg) (fun _ _ _ _=>false) (fun n ih=>stepT E tab ih n) n
def J7 (E:Env):Prop:=∀f p,E.prim f=some p→∀(call call':bg) n args h (K K':aK),Le call call'→KLe K K'→p call n args h K=true→p call' n args h K'=true
def dB (E:Env) (k:Nat) (s:Sh):Prop:=∀(call call':bg) n args h (K K':aK),Le call call'→Le call' call'→KLe K K'→s call n args h K=true→
 ∃fn,E.code k=some fn∧E.prim k=none∧args.length=fn.np∧∀df,runT call' df n fn.body [] ⟨mK 0 args .lf,h⟩ (kT fn.res K')=true
theorem Db {E:Env} (hp:J7 E):∀n,Le (ak E n) (ak E n)
 |0=>fun _ _ _ _ _ s _=>by cases s
 |n+1=>by
  intro t a h K K' s hK;have ih:=Db hp n;cases t with
  |yield id=>exact OB ih s hK
  |func f=>
   simp only[ak] at s ⊢;cases hpf:E.prim f with
   |some p=>
    rw[hpf] at s;exact hp f p hpf _ _ n a h K K' ih hK s
   |none=>
    rw[hpf] at s;simp only at s ⊢;split at s
    ·cases s
    ·rename_i fn hf
     (try simp only[hf])
     cases hb:Nat.beq a.length fn.np with
     |false=>rw[hb] at s;cases s
     |true=>
      rw[hb] at s;simp only[cond_true] at s ⊢;exact Qy ih (PS ih n) s fun μ σ=>Nc hK
theorem Un {E:Env} (hp:J7 E) {tab:Nat→Option Sh} (ht:∀k s,tab k=some s→dB E k s):∀n,Le (TB E tab n) (ak E n)
 |0=>fun _ _ _ _ _ s _=>by cases s
 |n+1=>by
  intro t a h K K' s hK;have ih:=Un hp ht n;cases t with
  |yield id=>exact OB ih s hK
  |func f=>
   have s:(@Option.rec Sh (fun _=>Bool) (Mt E (TB E tab n) n f a h K) (fun s=>s (TB E tab n) n a h K) (tab f))=true:=s;simp only[ak];cases htab:tab f with
   |some sh=>
    rw[htab] at s;have⟨fn,h1,h2,h3,h4⟩:=ht f sh htab _ _ n a h K K' ih (Db hp n) hK s;simp only[h1,h2,h3,Nat.beq_refl,cond_true];exact h4 _
   |none=>
    rw[htab] at s;have s:Mt E (TB E tab n) n f a h K=true:=s;unfold Mt at s;cases hpf:E.prim f with
    |some p=>
     rw[hpf] at s;exact hp f p hpf _ _ n a h K K' ih hK s
    |none=>
     rw[hpf] at s;simp only at s ⊢;split at s
     ·cases s
     ·rename_i fn hf
      (try simp only[hf])
      cases hb:Nat.beq a.length fn.np with
      |false=>rw[hb] at s;cases s
      |true=>
       rw[hb] at s;simp only[cond_true] at s ⊢;exact Qy ih (PS ih n) s fun μ σ=>Nc hK
end
end
abbrev KL:=Dk→fU→ah→Bool
abbrev Pv:=List AV→ah→Bool
abbrev Bt:=List Pv
def yE (l:fU) (dst:Option Nat) (v:AV):fU:=
 match dst with
 |some d=>(d,v) :: l
 |none=>l
theorem Has.yE {ρ:bZ} {l:fU} (H:Has ρ l) (dst:Option Nat) (v:AV):Has (put ρ dst v) (yE l dst v):=by
 cases dst with
 |none=>exact H
 |some d=>exact H.set d v
noncomputable section
def m1 {α:Type} (l:fU) (x:bB) (f:AV→α):Option α:=
 match o8 l x with
 |some v=>some (f v)
 |none=>none
def m2 {α:Type} (l:fU) (x y:bB) (f:AV→AV→α):Option α:=
 match o8 l x with
 |some v=>match o8 l y with
  |some w=>some (f v w)
  |none=>none
 |none=>none
def m3 {α:Type} (l:fU) (x y z:bB) (f:AV→AV→AV→α):Option α:=
 match o8 l x with
 |some v=>match o8 l y with
  |some w=>match o8 l z with
   |some u=>some (f v w u)
   |none=>none
  |none=>none
 |none=>none
abbrev PF:=(AV→Bool)→Bool
abbrev HF:=aK→Bool
def DR (l:fU) (h:ah) (op:dW):Option PF:=
 match op with
 | .fadr off x=>m1 l x fun v=>aA off v
 | .load false _ x=>m1 l x fun v=>av h v
 | .load true n x=>m1 l x fun v=>aX h n v
 | .bin .eql x y=>m2 l x y dQ
 | .bin .neq x y=>m2 l x y qO
 | .bin .lss x y=>m2 l x y jL
 | .bin .leq x y=>m2 l x y G7
 | .bin .gtr x y=>m2 l x y Ca
 | .bin .geq x y=>m2 l x y CF
 | .bin .add x y=>m2 l x y eG
 | .bin .sub x y=>m2 l x y FE
 | .pick c a b=>m3 l c a b dA
 | .not x=>m1 l x lJ
 | .nilck x=>m1 l x bD
 | .ext x i=>m1 l x fun v=>lU i v
 | .len 0 x=>m1 l x pE
 | .len 1 x=>m1 l x fI
 | .iadr sz x y=>m2 l x y (dG h sz)
 | .idxs x y=>m2 l x y Ia
 | .fld false off _ x=>m1 l x fun v=>U9 off v
 | .sls x lo hi=>(match o8 l x,EI l lo,EI l hi with
   |some v,some lo,some hi=>some (R7 v lo hi)
   |_,_,_=>none)
 | .build z ps=>(match FL l ps with
   |some vs=>some (dK z vs)
   |none=>none)
 |op=>match lN l h op with
  |some o=>some (bK o)
  |none=>none
def TT (l:fU) (h:ah) (op:dW):Option HF:=
 match op with
 | .store 1 a v=>m2 l a v fun a v k=>aV h a v fun h=>k (.tup []) h
 | .store (n+2) a v=>m2 l a v fun a v k=>aL h (n+2) a v fun h=>k (.tup []) h
 | .alloc z=>(match Nat.beq z.length 0 with
   |false=>(match aB z with
    |true=>some (bL h z z.length)
    |false=>some (aQ (qR h z)))
   |true=>some (aQ (qR h z)))
 | .box none 1 x=>m1 l x fun v=>Ct h v
 | .app (n+1) bytes s x=>m2 l s x fun s x=>jO h (n+1) bytes s x
 |op=>match Ii l h op with
  |some o=>some (aQ o)
  |none=>none
def Kk (call:bg) (l:fU) (f:bB) (vs:List AV) (h:ah) (k:aK):Bool:=
 match f with
 | .c (.fn (.func g) [] [])=>call (.func g) vs h k
 |f=>match o8 l f with
  |some fv=>kR call fv vs h k
  |none=>false
def dnP (l:fU) (h:ah) (op:dW) (g:Option (AV×Bool)) (k:aK):Bool:=
 match DR l h op with
 |some F=>(match g with
  |none=>F fun v=>k v h
  |some (w,b)=>gK w b F fun v=>k v h)
 |none=>match TT l h op with
  |some F=>(match g with
   |none=>F k
   |some (w,b)=>gP w b F h k)
  |none=>false
def aaQ (Q:aK) (v:AV) (h:ah):Bool:=
 match v with
 | .ifc t u=>Q (.pan (.ifc t u)) h
 |_=>false
def dnO (call:bg) (Q:aK) (o:aT) (l:fU) (h:ah) (k:fU→ah→Bool):Bool:=
 match o with
 |⟨dst,op,none⟩=>(match op with
  | .fail=>false
  | .nxt x=>(match o8 l x with
    |some v=>Uq h v fun v h=>k (yE l dst v) h
    |none=>false)
  | .pnc x=>(match o8 l x with
    |some v=>aaQ Q v h
    |none=>false)
  | .call f xs=>(match Kz l xs with
    |some vs=>Kk call l f vs h (pz Q fun v h=>k (yE l dst v) h)
    |none=>false)
  | .mv x=>(match dst with
    |some d=>(match o8 l x with
     |some v=>k ((d,v) :: l) h
     |none=>false)
    |none=>dnP l h (.mv x) none fun _ h=>k l h)
  |op=>dnP l h op none fun v h=>k (yE l dst v) h)
 |⟨dst,op,some (j,b)⟩=>match l.get j with
  |none=>false
  |some g=>(match op with
   | .fail=>false
   | .nxt _=>false
   | .pnc x=>(match o8 l x with
     |some v=>gP g b (fun _=>aaQ Q v h) h fun v h=>k (yE l dst v) h
     |none=>false)
   | .call f xs=>(match Kz l xs with
     |some vs=>gP g b (fun k=>Kk call l f vs h (pz Q k)) h fun v h=>k (yE l dst v) h
     |none=>false)
   |op=>dnP l h op (some (g,b)) fun v h=>k (yE l dst v) h)
def dnR (call:bg) (Q:aK):List aT→fU→ah→(fU→ah→Bool)→Bool
 | [],l,h,k=>k l h
 |o :: ops,l,h,k=>dnO call Q o l h fun l h=>dnR call Q ops l h k
def dnK:List aT→fU→ah→(fU→Bool)→Bool
 | [],l,_,k=>k l
 |⟨some d, .mv x,none⟩ :: ops,l,h,k=>(match o8 l x with
  |some v=>dnK ops ((d,v) :: l) h k
  |none=>false)
 |⟨dst,op,none⟩ :: ops,l,h,k=>(match DR l h op with
  |some F=>F fun v=>dnK ops (yE l dst v) h k
  |none=>false)
 |⟨dst,op,some (j,b)⟩ :: ops,l,h,k=>(match l.get j with
  |none=>false
  |some g=>match DR l h op with
   |some F=>gK g b F fun v=>dnK ops (yE l dst v) h k
   |none=>false)
def bS (u:AV) (r:Bool) (v:AV):Bool:=kM (AV.same v u) r false
def gS (g:AV) (b:Bool) (run:Bool→Bool) (r:Bool):Bool:=
 match g with
 | .bool x=>bif x==b then run r else r
 |_=>r
def dnA:List aT→fU→ah→Bool→Bool
 | [],_,_,r=>r
 |⟨none,_,_⟩ :: _,_,_,_=>false
 |⟨some d,op,none⟩ :: ops,l,h,r=>(match DR l h op with
  |some F=>(match l.get d with
   |some u=>F (bS u (dnA ops l h r))
   |none=>false)
  |none=>false)
 |⟨some d,op,some (j,b)⟩ :: ops,l,h,r=>(match l.get j with
  |some g=>(match DR l h op with
   |some F=>(match l.get d with
    |some u=>gS g b (fun r=>F (bS u r)) (dnA ops l h r)
    |none=>false)
   |none=>false)
  |none=>false)
def NP:AV→Nat
 | .ptr id _ _ _=>id
 | .slc id _ _ _ _ _=>id
 | .map id=>id
 |_=>0
def uZ (es:List AV) (Q:aK):aK:=
 match es with
 | []=>Q
 |e :: es=>fun v h=>match nN (NP e :: es.map NP) h with
  |some h=>Q v h
  |none=>false
def acM (o:aT) (l:fU):Option (List AV):=
 bif iH o then(match o.dst with
  |some d=>(match l.get d with
   |some v=>some [v]
   |none=>none)
  |none=>none) else some []
def dnD (call:bg) (Q:aK):List (aT×List aT×List aT)→List AV→fU→ah→(fU→ah→Bool)→Bool
 | [],_,l,h,k=>k l h
 |(act,chk,ns) :: rest,es,l,h,k=>dnO call (uZ es Q) act l h fun l h=>match acM act l with
  |none=>false
  |some e=>dnA chk l h (dnK ns l h fun l=>dnD call Q rest (e++es) l h k)
inductive iT where
 |skip
 |reg (ops:List aT)
 |rseq (ops:List aT) (b:iT)
 |dreg (n0:List aT) (rest:List (aT×List aT×List aT))
 |seq (a b:iT)
 |cond (c:bB) (a b:iT)
 |block (id:Nat) (c:iT)
 |loop (j:Nat) (ks:List Nat) (c:iT)
 |exit (id:Nat)
 |scope (j:Nat) (ks:List Nat) (fks:List Nat) (c:iT) (l:Nat) (r:iT)
 |label (l:Nat)
 |goto (l:Nat)
 |ret
 |refuse
 |pt (j:Nat) (ks:List Nat) (c:iT)
 |stop (c:cZ)
def iT.ops:iT→List aT
 | .reg l=>l
 | .rseq l b=>l++b.ops
 | .pt _ _ b=>b.ops
 |_=>[]
def iT.isReg:iT→Bool
 | .reg _=>true
 | .rseq _ b=>b.isReg
 | .pt _ _ b=>b.isReg
 |_=>false
def iT.erase:iT→cZ
 | .skip=> .skip
 | .reg ops=> .reg ops
 | .rseq ops b=> .reg (ops++b.ops)
 | .dreg n0 rest=> .dreg n0 rest
 | .seq a b=> .seq a.erase b.erase
 | .cond c a b=> .cond c a.erase b.erase
 | .block id c=> .block id c.erase
 | .loop _ _ c=> .loop c.erase
 | .exit id=> .exit id
 | .scope _ _ _ c l r=> .scope c.erase l r.erase
 | .label l=> .label l
 | .goto l=> .goto l
 | .ret=> .ret
 | .refuse=> .refuse
 | .pt _ _ c=>c.erase
 | .stop c=>c
structure Ann where
 pts:List (Nat×List Nat)
 lps:List (Nat×List Nat)
 scs:List (Nat×List Nat):=[]
 cuts:List (Nat×List (Nat×Nat×List Nat)):=[]
def aby {α:Type}:List (Nat×α)→Nat→Option α
 | [],_=>none
 |(k,v) :: l,n=>bif Nat.beq n k then some v else aby l n
def uf (A:Ann) (i:Nat) (c:iT):iT:=
 match aby A.pts i with
 |some ks=> .pt i ks c
 |none=>c
def splitB:List (Nat×Nat×List Nat)→List aT→iT
 | [],ops=> .reg ops
 |(m,j,ks) :: l,ops=> .rseq (ops.take m) (.pt j ks (splitB l (ops.drop m)))
def ain (A:Ann) (i:Nat) (ops:List aT):iT:=
 match aby A.cuts i with
 |some l=>splitB l ops
 |none=> .reg ops
def toB (A:Ann):cZ→Nat→iT×Nat
 | .skip,i=>(uf A i .skip,i+1)
 | .reg ops,i=>(uf A i (ain A i ops),i+1)
 | .dreg n0 rest,i=>(uf A i (.dreg n0 rest),i+1)
 | .seq a b,i=>match toB A a (i+1) with
   |(a',i1)=>match toB A b i1 with
    |(b',i2)=>(uf A i (.seq a' b'),i2)
 | .cond c a b,i=>match toB A a (i+1) with
   |(a',i1)=>match toB A b i1 with
    |(b',i2)=>(uf A i (.cond c a' b'),i2)
 | .block id a,i=>match toB A a (i+1) with
   |(a',i1)=>(uf A i (.block id a'),i1)
 | .loop a,i=>match toB A a (i+1) with
   |(a',i1)=>(match aby A.lps i with
    |some ks=>(uf A i (.loop i ks a'),i1)
    |none=>(.stop (.loop a),i1))
 | .exit id,i=>(uf A i (.exit id),i+1)
 | .scope a l b,i=>match toB A a (i+1) with
   |(a',i1)=>match toB A b i1 with
    |(b',i2)=>(match aby A.lps i with
     |some ks=>(match aby A.scs i with
      |some fks=>(uf A i (.scope i ks fks a' l b'),i2)
      |none=>(.stop (.scope a l b),i2))
     |none=>(.stop (.scope a l b),i2))
 | .label l,i=>(uf A i (.label l),i+1)
 | .goto l,i=>(uf A i (.goto l),i+1)
 | .ret,i=>(uf A i .ret,i+1)
 | .refuse,i=>(uf A i .refuse,i+1)
 | .rf f ps a b,i=>(.stop (.rf f ps a b),i+1)
 | .keep ks c,i=>(.stop (.keep ks c),i+1)
 | .cut cs c,i=>(.stop (.cut cs c),i+1)
theorem Kt:∀(l:List (Nat×Nat×List Nat)) (ops:List aT),(splitB l ops).ops=ops∧(splitB l ops).isReg=true∧(splitB l ops).erase= .reg ops
 | [],ops=>⟨rfl,rfl,rfl⟩
 |(m,j,ks) :: l,ops=>by
  have⟨h1,h2,h3⟩:=Kt l (ops.drop m);simp only[splitB,iT.ops,iT.isReg,iT.erase,h1,h2,List.take_append_drop,and_self]
theorem Yc (A:Ann) (i:Nat) (ops:List aT):(ain A i ops).erase= .reg ops:=by
 unfold ain;split
 ·exact(Kt _ _).2.2
 ·rfl
theorem oO (A:Ann) (i:Nat) (c:iT):(uf A i c).erase=c.erase:=by
 unfold uf;split<;>rfl
theorem abf (A:Ann):∀(c:cZ) (i:Nat),(toB A c i).1.erase=c:=by
 intro c
 induction c with
 |seq a b iha ihb=>intro i;simp only[toB,oO,iT.erase,iha,ihb]
 |cond o a b iha ihb=>intro i;simp only[toB,oO,iT.erase,iha,ihb]
 |block id a ih=>intro i;simp only[toB,oO,iT.erase,ih]
 |loop a ih=>
  intro i;simp only[toB];split
  ·simp only[oO,iT.erase,ih]
  ·rfl
 |scope a l b iha ihb=>
  intro i;simp only[toB];split
  ·split
   ·simp only[oO,iT.erase,iha,ihb]
   ·rfl
  ·rfl
 |reg ops=>intro i;simp only[toB,oO,Yc]
 |_=>intro i;simp only[toB,oO,iT.erase]
structure Sp where
 pt:Bt→Nat→Pv
 fs:Bt→Nat→Pv
 rd:Bt→Nat→Pv
 lp:Bt→Nat→Nat→Pv
def vals:fU→List AV
 | []=>[]
 |(_,v) :: l=>v :: vals l
def JG (id:Nat) (K:KL):KL:=fun x l h=>
 match x with
 | .exit i=>bif Nat.beq i id then K .normal l h else K (.exit i) l h
 |x=>K x l h
def goL (B:Pv) (ks:List Nat) (l:fU) (h:ah):Bool:=
 match DI ks l with
 |some l'=>B (vals l') h
 |none=>false
def Ou (B:Pv) (ks:List Nat) (K:KL):KL:=fun x l h=>
 match x with
 | .normal=>goL B ks l h
 |x=>K x l h
def yg (lb:Nat) (B:Pv) (ks:List Nat) (K:KL):KL:=fun x l h=>
 match x with
 | .goto l'=>bif Nat.beq l' lb then goL B ks l h else false
 |x=>K x l h
def Bc (call:bg) (n:Nat) (Q:aK) (S:Sp) (β:Bt):iT→fU→ah→KL→Bool
 | .skip,l,h,K=>K .normal l h
 | .reg ops,l,h,K=>dnR call Q ops l h (K .normal)
 | .rseq ops b,l,h,K=>(match b.isReg with
   |true=>dnR call Q ops l h fun l h=>Bc call n Q S β b l h K
   |false=>false)
 | .dreg n0 rest,l,h,K=>dnK n0 l h fun l=>dnD call Q rest [] l h (K .normal)
 | .seq a b,l,h,K=>Bc call n Q S β a l h fun x l h=>match x with
   | .normal=>Bc call n Q S β b l h K
   |x=>K x l h
 | .cond c a b,l,h,K=>(match o8 l c with
   |some v=>aH v (Bc call n Q S β a l h K) (Bc call n Q S β b l h K)
   |none=>false)
 | .block id a,l,h,K=>Bc call n Q S β a l h (JG id K)
 | .loop j ks _,l,h,_=>goL (S.lp β j n) ks l h
 | .pt j ks _,l,h,_=>goL (S.pt β j) ks l h
 | .scope j _ fks _ _ _,l,h,_=>goL (S.fs (S.lp β j n :: β) j) fks l h
 | .exit id,l,h,K=>K (.exit id) l h
 | .label _,l,h,K=>K .normal l h
 | .goto lb,l,h,K=>K (.goto lb) l h
 | .ret,l,h,K=>K .ret l h
 | .refuse,_,_,_=>false
 | .stop _,_,_,_=>false
abbrev F0:=ah→Bool
abbrev F1:=AV→F0
abbrev F2:=AV→F1
abbrev F3:=AV→F2
abbrev F4:=AV→F3
abbrev F5:=AV→F4
abbrev F6:=AV→F5
abbrev F7:=AV→F6
abbrev Fn:=(Nat→Pv)→Nat→(Nat→AV)→ah→Bool
def stk:Nat→Nat→(Nat→Pv)→Bt
 |0,_,_=>[]
 |d+1,i,τ=>τ i :: stk d (i+1) τ
def yA:List Nat→Nat→(Nat→AV)→fU
 | [],_,_=>[]
 |k :: ks,i,σ=>(k,σ i) :: yA ks (i+1) σ
def aaH:Nat→Nat→(Nat→AV)→List AV
 |0,_,_=>[]
 |n+1,i,σ=>σ i :: aaH n (i+1) σ
def yw (f:Pv→KL→KL) (K:Bt→KL):Bt→KL
 |B :: β=>f B (K β)
 | []=>fun _ _ _=>false
def WJ (call:bg) (n:Nat) (Q:aK) (S:Sp):Nat→iT→(Bt→KL)→List (Fn×Fn)
 |d, .pt j ks a,K=>(fun τ _ σ h=>S.pt (stk d 0 τ) j (vals (yA ks 0 σ)) h,fun τ _ σ h=>Bc call n Q S (stk d 0 τ) a (yA ks 0 σ) h (K (stk d 0 τ))) :: WJ call n Q S d a K
 |d, .loop j ks a,K=>
  (fun τ _ σ h=>S.rd (stk (d+1) 0 τ) j (vals (yA ks 0 σ)) h,fun τ _ σ h=>Bc call n Q S (stk (d+1) 0 τ) a (yA ks 0 σ) h (yw (fun B=>Ou B ks) K (stk (d+1) 0 τ))) ::
  (fun τ _ σ h=>S.lp (stk d 0 τ) j 0 (vals (yA ks 0 σ)) h,fun _ _ _ _=>false) ::
  (fun τ m σ h=>S.lp (stk d 0 τ) j (m+1) (vals (yA ks 0 σ)) h,fun τ m σ h=>S.rd (S.lp (stk d 0 τ) j m :: stk d 0 τ) j (vals (yA ks 0 σ)) h) ::
  WJ call n Q S (d+1) a (yw (fun B=>Ou B ks) K)
 |d, .rseq _ b,K=>WJ call n Q S d b K
 |d, .seq a b,K=>WJ call n Q S d a (fun β x l h=>match x with
   | .normal=>Bc call n Q S β b l h (K β)
   |x=>K β x l h)++WJ call n Q S d b K
 |d, .cond _ a b,K=>WJ call n Q S d a K++WJ call n Q S d b K
 |d, .block id a,K=>WJ call n Q S d a (fun β=>JG id (K β))
 |d, .scope j ks fks a lb r,K=>
  (fun τ _ σ h=>S.fs (stk (d+1) 0 τ) j (vals (yA fks 0 σ)) h,fun τ _ σ h=>Bc call n Q S (stk (d+1) 0 τ) a (yA fks 0 σ) h (yw (fun B=>yg lb B ks) K (stk (d+1) 0 τ))) ::
  (fun τ _ σ h=>S.rd (stk (d+1) 0 τ) j (vals (yA ks 0 σ)) h,fun τ _ σ h=>Bc call n Q S (stk (d+1) 0 τ) r (yA ks 0 σ) h (yw (fun B=>yg lb B ks) K (stk (d+1) 0 τ))) ::
  (fun τ _ σ h=>S.lp (stk d 0 τ) j 0 (vals (yA ks 0 σ)) h,fun _ _ _ _=>false) ::
  (fun τ m σ h=>S.lp (stk d 0 τ) j (m+1) (vals (yA ks 0 σ)) h,fun τ m σ h=>S.rd (S.lp (stk d 0 τ) j m :: stk d 0 τ) j (vals (yA ks 0 σ)) h) ::
  (WJ call n Q S (d+1) a (yw (fun B=>yg lb B ks) K)++WJ call n Q S (d+1) r (yw (fun B=>yg lb B ks) K))
 |_,_,_=>[]
abbrev bW (j k:Nat) (v r:Pv):Pv:=@Bool.rec (fun _=>Pv) r v (Nat.beq j k)
abbrev vI (j k:Nat) (v r:Pv):Pv:=@Bool.rec (fun _=>Pv) r v (Nat.beq j k)
abbrev dz:Pv:=fun _ _=>false
abbrev Ey:bg→Nat→aK→Sp:=fun _ _ _=>{pt:=fun _ _=>dz,fs:=fun _ _=>dz,rd:=fun _ _=>dz,lp:=fun _ _ _=>dz}
def pB:Nat→Bt→Pv
 |_,[]=>fun _ _=>false
 |0,B :: _=>B
 |i+1,_ :: β=>pB i β
def pA0 (f:ah→aK→Bool) (K:aK):Pv:=let _:=@Bc;fun t0 h=>@List.rec AV (fun _=>Bool) (f h K) (fun _ _ _=>false) t0
def pF1 (B:Pv):F1:=fun x0 h=>B [x0] h
def mh (f:AV→ah→aK→Bool) (K:aK):Pv:=let _:=@Bc;fun t0 h=>@List.rec AV (fun _=>Bool) false (fun x0 t1 _=>@List.rec AV (fun _=>Bool) (f x0 h K) (fun _ _ _=>false) t1) t0
def pC1 (f:AV→ah→aK→Bool) (K:aK):Pv:=let _:=@Bc;fun t0 h=>@List.rec AV (fun _=>Bool) false (fun x0 t1 _=>@List.rec AV (fun _=>Bool) (f x0 h K) (fun _ _ _=>false) t1) t0
def Nt (B:Pv):F2:=fun x0 x1 h=>B [x0,x1] h
def iV (f:AV→AV→ah→aK→Bool) (K:aK):Pv:=let _:=@Bc;fun t0 h=>@List.rec AV (fun _=>Bool) false (fun x0 t1 _=>@List.rec AV (fun _=>Bool) false (fun x1 t2 _=>@List.rec AV (fun _=>Bool) (f x0 x1 h K) (fun _ _ _=>false) t2) t1) t0
def pC2 (f:AV→AV→ah→aK→Bool) (K:aK):Pv:=let _:=@Bc;fun t0 h=>@List.rec AV (fun _=>Bool) false (fun x0 t1 _=>@List.rec AV (fun _=>Bool) false (fun x1 t2 _=>@List.rec AV (fun _=>Bool) (f x0 x1 h K) (fun _ _ _=>false) t2) t1) t0
def zN (B:Pv):F3:=fun x0 x1 x2 h=>B [x0,x1,x2] h
def l8 (f:AV→AV→AV→ah→aK→Bool) (K:aK):Pv:=let _:=@Bc;fun t0 h=>@List.rec AV (fun _=>Bool) false (fun x0 t1 _=>@List.rec AV (fun _=>Bool) false (fun x1 t2 _=>@List.rec AV (fun _=>Bool) false (fun x2 t3 _=>@List.rec AV (fun _=>Bool) (f x0 x1 x2 h K) (fun _ _ _=>false) t3) t2) t1) t0
def pC3 (f:AV→AV→AV→ah→aK→Bool) (K:aK):Pv:=let _:=@Bc;fun t0 h=>@List.rec AV (fun _=>Bool) false (fun x0 t1 _=>@List.rec AV (fun _=>Bool) false (fun x1 t2 _=>@List.rec AV (fun _=>Bool) false (fun x2 t3 _=>@List.rec AV (fun _=>Bool) (f x0 x1 x2 h K) (fun _ _ _=>false) t3) t2) t1) t0
def zI (B:Pv):F4:=fun x0 x1 x2 x3 h=>B [x0,x1,x2,x3] h
def oN (f:AV→AV→AV→AV→ah→aK→Bool) (K:aK):Pv:=let _:=@Bc;fun t0 h=>@List.rec AV (fun _=>Bool) false (fun x0 t1 _=>@List.rec AV (fun _=>Bool) false (fun x1 t2 _=>@List.rec AV (fun _=>Bool) false (fun x2 t3 _=>@List.rec AV (fun _=>Bool) false (fun x3 t4 _=>@List.rec AV (fun _=>Bool) (f x0 x1 x2 x3 h K) (fun _ _ _=>false) t4) t3) t2) t1) t0
def Y3 (f:AV→AV→AV→AV→ah→aK→Bool) (K:aK):Pv:=let _:=@Bc;fun t0 h=>@List.rec AV (fun _=>Bool) false (fun x0 t1 _=>@List.rec AV (fun _=>Bool) false (fun x1 t2 _=>@List.rec AV (fun _=>Bool) false (fun x2 t3 _=>@List.rec AV (fun _=>Bool) false (fun x3 t4 _=>@List.rec AV (fun _=>Bool) (f x0 x1 x2 x3 h K) (fun _ _ _=>false) t4) t3) t2) t1) t0
def pF5 (B:Pv):F5:=fun x0 x1 x2 x3 x4 h=>B [x0,x1,x2,x3,x4] h
def Nv (f:AV→AV→AV→AV→AV→ah→aK→Bool) (K:aK):Pv:=let _:=@Bc;fun t0 h=>@List.rec AV (fun _=>Bool) false (fun x0 t1 _=>@List.rec AV (fun _=>Bool) false (fun x1 t2 _=>@List.rec AV (fun _=>Bool) false (fun x2 t3 _=>@List.rec AV (fun _=>Bool) false (fun x3 t4 _=>@List.rec AV (fun _=>Bool) false (fun x4 t5 _=>@List.rec AV (fun _=>Bool) (f x0 x1 x2 x3 x4 h K) (fun _ _ _=>false) t5) t4) t3) t2) t1) t0
def pC5 (f:AV→AV→AV→AV→AV→ah→aK→Bool) (K:aK):Pv:=let _:=@Bc;fun t0 h=>@List.rec AV (fun _=>Bool) false (fun x0 t1 _=>@List.rec AV (fun _=>Bool) false (fun x1 t2 _=>@List.rec AV (fun _=>Bool) false (fun x2 t3 _=>@List.rec AV (fun _=>Bool) false (fun x3 t4 _=>@List.rec AV (fun _=>Bool) false (fun x4 t5 _=>@List.rec AV (fun _=>Bool) (f x0 x1 x2 x3 x4 h K) (fun _ _ _=>false) t5) t4) t3) t2) t1) t0
def pF6 (B:Pv):F6:=fun x0 x1 x2 x3 x4 x5 h=>B [x0,x1,x2,x3,x4,x5] h
def Og (f:AV→AV→AV→AV→AV→AV→ah→aK→Bool) (K:aK):Pv:=let _:=@Bc;fun t0 h=>@List.rec AV (fun _=>Bool) false (fun x0 t1 _=>@List.rec AV (fun _=>Bool) false (fun x1 t2 _=>@List.rec AV (fun _=>Bool) false (fun x2 t3 _=>@List.rec AV (fun _=>Bool) false (fun x3 t4 _=>@List.rec AV (fun _=>Bool) false (fun x4 t5 _=>@List.rec AV (fun _=>Bool) false (fun x5 t6 _=>@List.rec AV (fun _=>Bool) (f x0 x1 x2 x3 x4 x5 h K) (fun _ _ _=>false) t6) t5) t4) t3) t2) t1) t0
def pC6 (f:AV→AV→AV→AV→AV→AV→ah→aK→Bool) (K:aK):Pv:=let _:=@Bc;fun t0 h=>@List.rec AV (fun _=>Bool) false (fun x0 t1 _=>@List.rec AV (fun _=>Bool) false (fun x1 t2 _=>@List.rec AV (fun _=>Bool) false (fun x2 t3 _=>@List.rec AV (fun _=>Bool) false (fun x3 t4 _=>@List.rec AV (fun _=>Bool) false (fun x4 t5 _=>@List.rec AV (fun _=>Bool) false (fun x5 t6 _=>@List.rec AV (fun _=>Bool) (f x0 x1 x2 x3 x4 x5 h K) (fun _ _ _=>false) t6) t5) t4) t3) t2) t1) t0
def pF7 (B:Pv):F7:=fun x0 x1 x2 x3 x4 x5 x6 h=>B [x0,x1,x2,x3,x4,x5,x6] h
def pA7 (f:AV→AV→AV→AV→AV→AV→AV→ah→aK→Bool) (K:aK):Pv:=let _:=@Bc;fun t0 h=>@List.rec AV (fun _=>Bool) false (fun x0 t1 _=>@List.rec AV (fun _=>Bool) false (fun x1 t2 _=>@List.rec AV (fun _=>Bool) false (fun x2 t3 _=>@List.rec AV (fun _=>Bool) false (fun x3 t4 _=>@List.rec AV (fun _=>Bool) false (fun x4 t5 _=>@List.rec AV (fun _=>Bool) false (fun x5 t6 _=>@List.rec AV (fun _=>Bool) false (fun x6 t7 _=>@List.rec AV (fun _=>Bool) (f x0 x1 x2 x3 x4 x5 x6 h K) (fun _ _ _=>false) t7) t6) t5) t4) t3) t2) t1) t0
def pC7 (f:AV→AV→AV→AV→AV→AV→AV→ah→aK→Bool) (K:aK):Pv:=let _:=@Bc;fun t0 h=>@List.rec AV (fun _=>Bool) false (fun x0 t1 _=>@List.rec AV (fun _=>Bool) false (fun x1 t2 _=>@List.rec AV (fun _=>Bool) false (fun x2 t3 _=>@List.rec AV (fun _=>Bool) false (fun x3 t4 _=>@List.rec AV (fun _=>Bool) false (fun x4 t5 _=>@List.rec AV (fun _=>Bool) false (fun x5 t6 _=>@List.rec AV (fun _=>Bool) false (fun x6 t7 _=>@List.rec AV (fun _=>Bool) (f x0 x1 x2 x3 x4 x5 x6 h K) (fun _ _ _=>false) t7) t6) t5) t4) t3) t2) t1) t0
def pA8 (f:AV→AV→AV→AV→AV→AV→AV→AV→ah→aK→Bool) (K:aK):Pv:=let _:=@Bc;fun t0 h=>@List.rec AV (fun _=>Bool) false (fun x0 t1 _=>@List.rec AV (fun _=>Bool) false (fun x1 t2 _=>@List.rec AV (fun _=>Bool) false (fun x2 t3 _=>@List.rec AV (fun _=>Bool) false (fun x3 t4 _=>@List.rec AV (fun _=>Bool) false (fun x4 t5 _=>@List.rec AV (fun _=>Bool) false (fun x5 t6 _=>@List.rec AV (fun _=>Bool) false (fun x6 t7 _=>@List.rec AV (fun _=>Bool) false (fun x7 t8 _=>@List.rec AV (fun _=>Bool) (f x0 x1 x2 x3 x4 x5 x6 x7 h K) (fun _ _ _=>false) t8) t7) t6) t5) t4) t3) t2) t1) t0
def pA9 (f:AV→AV→AV→AV→AV→AV→AV→AV→AV→ah→aK→Bool) (K:aK):Pv:=let _:=@Bc;fun t0 h=>@List.rec AV (fun _=>Bool) false (fun x0 t1 _=>@List.rec AV (fun _=>Bool) false (fun x1 t2 _=>@List.rec AV (fun _=>Bool) false (fun x2 t3 _=>@List.rec AV (fun _=>Bool) false (fun x3 t4 _=>@List.rec AV (fun _=>Bool) false (fun x4 t5 _=>@List.rec AV (fun _=>Bool) false (fun x5 t6 _=>@List.rec AV (fun _=>Bool) false (fun x6 t7 _=>@List.rec AV (fun _=>Bool) false (fun x7 t8 _=>@List.rec AV (fun _=>Bool) false (fun x8 t9 _=>@List.rec AV (fun _=>Bool) (f x0 x1 x2 x3 x4 x5 x6 x7 x8 h K) (fun _ _ _=>false) t9) t8) t7) t6) t5) t4) t3) t2) t1) t0
def LP (l:fU):List (Nat×Option (Bool×Nat))→Option (List (AV×Option (Bool×Nat)))
 | []=>some []
 |(t,x) :: r=>match l.get t with
  |some v=>match LP l r with
   |some vs=>some ((v,x) :: vs)
   |none=>none
  |none=>none
def fF (h:ah):List (AV×Option (Bool×Nat))→Option (List AV)
 | []=>some []
 |(v,none) :: r=>match fF h r with
  |some vs=>some (v :: vs)
  |none=>none
 |(a,some (ag,n)) :: r=>match dL h ag n a with
  |some v=>match fF h r with
   |some vs=>some (v :: vs)
   |none=>none
  |none=>none
def gI (o:Option (List AV)) (h:ah) (K:aK):Bool:=
 match o with
 |some l=>K (oneOf l) h
 |none=>false
def afg (res:List (Nat×Option (Bool×Nat))) (l:fU) (h:ah) (K:aK):Bool:=
 match LP l res with
 |some m=>bif res.any (fun x=>x.2.isSome) then gI (fF h m) h K else K (oneOf (m.map fun x=>x.1)) h
 |none=>false
def ac2 (res:List (Nat×Option (Bool×Nat))) (K:aK):KL:=fun x l h=>
 match x with
 | .normal=>afg res l h K
 | .ret=>afg res l h K
 |_=>false
def Zf:Nat→List AV→fU→fU
 |_,[],l=>l
 |i,v :: vs,l=>Zf (i+1) vs ((i,v) :: l)
def agO (call:bg) (n:Nat) (K:aK) (S:Sp) (top:Pv) (A:Ann) (fn:bV):List (Fn×Fn):=
 (fun _ _ σ h=>top (aaH fn.np 0 σ) h,fun _ _ σ h=>Bc call n K S [] (toB A fn.body 0).1 (Zf 0 (aaH fn.np 0 σ) []) h (ac2 fn.res K)) :: WJ call n K S 0 (toB A fn.body 0).1 fun _=>ac2 fn.res K
end
section
variable {call call':bg} {n:Nat} {ρ:bZ} {l:fU} {h:ah} {op:dW}
theorem tF {α:Type} {o:Option α} {k:α→Bool} (s:bK o k=true):∃v,o=some v∧k v=true:=by
 cases o with
 |none=>cases s
 |some v=>exact⟨v,rfl,s⟩
theorem Lf {o:Option (AV×ah)} {k:aK} (s:aQ o k=true):∃v h',o=some (v,h')∧k v h'=true:=by
 cases o with
 |none=>cases s
 |some p=>exact⟨p.1,p.2,rfl,s⟩
theorem rE {α:Type} {x:bB} {f:AV→α} {y:α} (e:m1 l x f=some y):∃v,o8 l x=some v∧y=f v:=by
 unfold m1 at e;split at e
 ·rename_i v hv;cases e;exact⟨v,hv,rfl⟩
 ·cases e
theorem nT {α:Type} {x z:bB} {f:AV→AV→α} {y:α} (e:m2 l x z f=some y):∃v w,o8 l x=some v∧o8 l z=some w∧y=f v w:=by
 unfold m2 at e;split at e
 ·rename_i v hv;split at e
  ·rename_i w hw;cases e;exact⟨v,w,hv,hw,rfl⟩
  ·cases e
 ·cases e
theorem afD {α:Type} {x z t:bB} {f:AV→AV→AV→α} {y:α} (e:m3 l x z t f=some y):∃v w u,o8 l x=some v∧o8 l z=some w∧o8 l t=some u∧y=f v w u:=by
 unfold m3 at e;split at e
 ·rename_i v hv;split at e
  ·rename_i w hw;split at e
   ·rename_i u hu;cases e;exact⟨v,w,u,hv,hw,hu,rfl⟩
   ·cases e
  ·cases e
 ·cases e
theorem Ta (c a b:AV) (k:AV→Bool):dA c a b k=bK (Ua c a b) k:=by
 cases c<;>try rfl
 rename_i x;cases x<;>rfl
theorem wN {F:PF} (e:DR l h op=some F):∃o,lN l h op=some o∧∀k,F k=bK o k:=by
 unfold DR at e;split at e
 case h_1=>obtain⟨v,hv,rfl⟩:=rE e;exact⟨_,by simp only[lN,l1,hv]<;>rfl,fun k=>acI _ _ _⟩
 case h_2=>obtain⟨v,hv,rfl⟩:=rE e;exact⟨_,by simp only[lN,l1,hv]<;>rfl,fun k=>TH _ _ _ _⟩
 case h_3=>obtain⟨v,hv,rfl⟩:=rE e;exact⟨_,by simp only[lN,l1,hv]<;>rfl,fun k=>N9 _ _ _ _⟩
 case h_4=>obtain⟨v,w,hv,hw,rfl⟩:=nT e;exact⟨_,by simp only[lN,l2,hv,hw]<;>rfl,fun k=>YJ _ _ _⟩
 case h_5=>obtain⟨v,w,hv,hw,rfl⟩:=nT e;exact⟨_,by simp only[lN,l2,hv,hw]<;>rfl,fun k=>Z4 _ _ _⟩
 case h_6=>obtain⟨v,w,hv,hw,rfl⟩:=nT e;exact⟨_,by simp only[lN,l2,hv,hw]<;>rfl,fun k=>Zw _ _ _⟩
 case h_7=>obtain⟨v,w,hv,hw,rfl⟩:=nT e;exact⟨_,by simp only[lN,l2,hv,hw]<;>rfl,fun k=>Y6 _ _ _⟩
 case h_8=>obtain⟨v,w,hv,hw,rfl⟩:=nT e;exact⟨_,by simp only[lN,l2,hv,hw]<;>rfl,fun k=>Zz _ _ _⟩
 case h_9=>obtain⟨v,w,hv,hw,rfl⟩:=nT e;exact⟨_,by simp only[lN,l2,hv,hw]<;>rfl,fun k=>ZT _ _ _⟩
 case h_10=>obtain⟨v,w,hv,hw,rfl⟩:=nT e;exact⟨_,by simp only[lN,l2,hv,hw]<;>rfl,fun k=>YS _ _ _⟩
 case h_11=>obtain⟨v,w,hv,hw,rfl⟩:=nT e;exact⟨_,by simp only[lN,l2,hv,hw]<;>rfl,fun k=>Ze _ _ _⟩
 case h_12=>obtain⟨v,w,u,hv,hw,hu,rfl⟩:=afD e;exact⟨_,by simp only[lN,hv,hw,hu]<;>rfl,fun k=>Ta _ _ _ _⟩
 case h_13=>obtain⟨v,hv,rfl⟩:=rE e;exact⟨_,by simp only[lN,l1,hv]<;>rfl,fun k=>agr _ _⟩
 case h_14=>obtain⟨v,hv,rfl⟩:=rE e;exact⟨_,by simp only[lN,l1,hv]<;>rfl,fun k=>aaS _ _⟩
 case h_15=>obtain⟨v,hv,rfl⟩:=rE e;exact⟨_,by simp only[lN,l1,hv]<;>rfl,fun k=>ZM _ _ _⟩
 case h_16=>obtain⟨v,hv,rfl⟩:=rE e;exact⟨_,by simp only[lN,l1,hv]<;>rfl,fun k=>TP _ _ _⟩
 case h_17=>obtain⟨v,hv,rfl⟩:=rE e;exact⟨_,by simp only[lN,l1,hv]<;>rfl,fun k=>ZQ _ _ _⟩
 case h_18=>obtain⟨v,w,hv,hw,rfl⟩:=nT e;exact⟨_,by simp only[lN,l2,hv,hw]<;>rfl,fun k=>Vi _ _ _ _ _⟩
 case h_19=>obtain⟨v,w,hv,hw,rfl⟩:=nT e;exact⟨_,by simp only[lN,l2,hv,hw]<;>rfl,fun k=>VA _ _ _⟩
 case h_20=>obtain⟨v,hv,rfl⟩:=rE e;exact⟨_,by simp only[lN,l1,hv]<;>rfl,fun k=>Zh _ _ _ _⟩
 case h_21=>
  split at e
  ·rename_i v lo hi h1 h2 h3;cases e;exact⟨_,by simp only[lN,h1,h2,h3]<;>rfl,fun k=>Z7 _ _ _ _⟩
  ·cases e
 case h_22=>
  split at e
  ·rename_i vs h1;cases e;exact⟨_,by simp only[lN,h1]<;>rfl,fun k=>N7 _ _ _⟩
  ·cases e
 case h_23=>
  split at e
  ·rename_i o ho;cases e;exact⟨o,ho,fun k=>rfl⟩
  ·cases e
theorem Tw {F:HF} (e:TT l h op=some F):∃o,Ii l h op=some o∧∀k,F k=aQ o k:=by
 unfold TT at e;split at e
 case h_1=>
  obtain⟨v,w,hv,hw,rfl⟩:=nT e;refine⟨_,by simp only[Ii,hv,hw]<;>rfl,fun k=> ?_⟩;simp only[Pn];cases bM h 1 v w<;>rfl
 case h_2 n x y=>
  obtain⟨v,w,hv,hw,rfl⟩:=nT e;refine⟨_,by simp only[Ii,hv,hw]<;>rfl,fun k=> ?_⟩;simp only[Kg h (n+2) v w _ rfl];cases bM h (n+2) v w<;>rfl
 case h_3 z=>
  split at e
  ·rename_i h0;split at e
   ·rename_i hl;cases e;exact⟨_,rfl,fun k=>Oo _ _ _ h0 hl⟩
   ·cases e;exact⟨_,rfl,fun k=>rfl⟩
  ·cases e;exact⟨_,rfl,fun k=>rfl⟩
 case h_4=>obtain⟨v,hv,rfl⟩:=rE e;exact⟨_,by simp only[Ii,hv]<;>rfl,fun k=>Zy _ _ _⟩
 case h_5 n b x y=>
  obtain⟨v,w,hv,hw,rfl⟩:=nT e;exact⟨_,by simp only[Ii,hv,hw]<;>rfl,fun k=>ZR _ _ _ _ _ _ rfl⟩
 case h_6=>
  split at e
  ·rename_i o ho;cases e;exact⟨o,ho,fun k=>rfl⟩
  ·cases e
def Bh (g:AV) (b:Bool):Bool:=
 match g with
 | .bool x=>x==b
 |_=>false
theorem BN (H:Has ρ l) {d:Nat} {g:AV} {b:Bool} (hg:l.get d=some g):eO ρ (some (d,b))=some (Bh g b):=by
 simp only[eO,H d g hg,Bh];cases g<;>rfl
theorem ZW {g:AV} {b:Bool} {run:(AV→Bool)→Bool} {k:AV→Bool} (s:gK g b run k=true):(Bh g b=true∧run k=true)∨(Bh g b=false∧k (.tup [])=true):=by
 cases g<;>try exact .inr ⟨rfl,s⟩
 rename_i x;cases x<;>cases b<;>first |exact .inl ⟨rfl,s⟩|exact .inr ⟨rfl,s⟩
theorem QU {g:AV} {b:Bool} {run:aK→Bool} {k:aK} (s:gP g b run h k=true):(Bh g b=true∧run k=true)∨(Bh g b=false∧k (.tup []) h=true):=by
 cases g<;>try exact .inr ⟨rfl,s⟩
 rename_i x;cases x<;>cases b<;>first |exact .inl ⟨rfl,s⟩|exact .inr ⟨rfl,s⟩
theorem afq {g:AV} {b:Bool} {run:Bool→Bool} {r:Bool} (s:gS g b run r=true):(Bh g b=true∧run r=true)∨(Bh g b=false∧r=true):=by
 cases g<;>try exact .inr ⟨rfl,s⟩
 rename_i x;cases x<;>cases b<;>first |exact .inl ⟨rfl,s⟩|exact .inr ⟨rfl,s⟩
theorem abB {f:bB} {vs:List AV} {k:aK} (s:Kk call l f vs h k=true):∃fv,o8 l f=some fv∧kR call fv vs h k=true:=by
 unfold Kk at s;split at s
 ·rename_i g;exact⟨.fn (.func g) [] [],rfl,by simpa only[kR,List.nil_append,List.append_nil] using s⟩
 ·split at s
  ·rename_i fv hf;exact⟨fv,hf,s⟩
  ·cases s
theorem Uc {x:bB} {f:AV} {xs:List bB} {vs:List AV} (H:Has ρ l) (ef:o8 l x=some f) (e:Kz l xs=some vs) {K:aK}:gW call' ρ h (.call x xs) K=kR call' f vs h K:=by
 simp only[gW,iA H ef,Dp H e,kR];cases f<;>rfl
variable {Ks:KSt}
theorem Av {v:AV} {h':ah} {dst:Option Nat} (hn:dI op=false) (e:aN ρ h op=some (v,h')) (s:Ks v ⟨put ρ dst v,h'⟩=true):gW call' ρ h op (fun v h'=>Ks v ⟨zF ρ (dI op) dst v,h'⟩)=true:=by
 rw[kF hn,e];simp only[zF,oL,hn,cond_false];exact s
theorem JQ {dst:Option Nat} {Q k:aK} {f:bB} {xs:List bB} {vs:List AV} (hc:Le call call') (H:Has ρ l) (e:Kz l xs=some vs) (s:Kk call l f vs h (pz Q k)=true)
 (hk:∀v h',k v h'=true→iB v=none→Ks v ⟨put ρ dst v,h'⟩=true) (hq:∀x h',Q (.pan x) h'=true→Ks (.pan x) ⟨ρ,h'⟩=true):gW call' ρ h (.call f xs) (fun v h'=>Ks v ⟨zF ρ true dst v,h'⟩)=true:=by
 have⟨fv,ef,s⟩:=abB s;rw[Uc H ef e];refine ad1 hc s fun v h' hv=> ?_;rw[aha] at hv;simp only[zF,oL,cond_true];cases hp:iB v with
 |none=>rw[hp] at hv;exact hk v h' hv hp
 |some x=>
  rw[hp] at hv;cases v<;>first |(cases hp;done)|skip
  cases hp;exact hq _ _ hv
theorem OT {Q:aK} {v:AV} (s:aaQ Q v h=true):∃t u,v= .ifc t u∧Q (.pan (.ifc t u)) h=true:=by
 unfold aaQ at s;split at s
 ·exact⟨_,_,rfl,s⟩
 ·cases s
theorem ab8 {k:aK} (H:Has ρ l) (s:dnP l h op none k=true):dI op=false∧∃v h',aN ρ h op=some (v,h')∧k v h'=true:=by
 unfold dnP at s;cases hp:DR l h op with
 |some F=>
  rw[hp] at s;have⟨o,ho,hF⟩:=wN hp;have⟨e1,e2⟩:=tL H ho;simp only[hF] at s;obtain⟨v,rfl,s⟩:=tF s;exact⟨e2,v,h,e1,s⟩
 |none=>
  rw[hp] at s;simp only at s;cases hh:TT l h op with
  |none=>rw[hh] at s;cases s
  |some F=>
   rw[hh] at s;have⟨o,ho,hF⟩:=Tw hh;have⟨e1,e2⟩:=Po H ho;simp only[hF] at s;obtain⟨v,h',rfl,s⟩:=Lf s;exact⟨e2,v,h',e1,s⟩
theorem agz {k:aK} {g:AV} {b:Bool} (H:Has ρ l) (s:dnP l h op (some (g,b)) k=true):dI op=false∧((Bh g b=true∧∃v h',aN ρ h op=some (v,h')∧k v h'=true)∨(Bh g b=false∧k (.tup []) h=true)):=by
 unfold dnP at s;cases hp:DR l h op with
 |some F=>
  rw[hp] at s;have⟨o,ho,hF⟩:=wN hp;refine have⟨e1,e2⟩:=tL H ho;⟨e2, ?_⟩
  rcases ZW s with⟨hw,s⟩|⟨hw,s⟩
  ·rw[hF] at s;obtain⟨v,rfl,s⟩:=tF s;exact .inl ⟨hw,v,h,e1,s⟩
  ·exact .inr ⟨hw,s⟩
 |none=>
  rw[hp] at s;simp only at s;cases hh:TT l h op with
  |none=>rw[hh] at s;cases s
  |some F=>
   rw[hh] at s;have⟨o,ho,hF⟩:=Tw hh;refine have⟨e1,e2⟩:=Po H ho;⟨e2, ?_⟩
   rcases QU s with⟨hw,s⟩|⟨hw,s⟩
   ·rw[hF] at s;obtain⟨v,h',rfl,s⟩:=Lf s;exact .inl ⟨hw,v,h',e1,s⟩
   ·exact .inr ⟨hw,s⟩
theorem adE {Q:aK} {o:aT} {k:fU→ah→Bool} (hc:Le call call') (H:Has ρ l) (s:dnO call Q o l h k=true)
 (hk:∀v h',k (yE l o.dst v) h'=true→oL (dI o.op) v=none→(o.grd=none→dI o.op=false→aN ρ h o.op=some (v,h'))→Ks v ⟨put ρ o.dst v,h'⟩=true)
 (hq:dI o.op=true→∀x h',Q (.pan x) h'=true→Ks (.pan x) ⟨ρ,h'⟩=true):jM call' o ⟨ρ,h⟩ Ks=true:=by
 have⟨dst,op,grd⟩:=o;cases grd with
 |none=>
  unfold dnO at s;simp only at s hk hq;simp only[jM,eO];split at s
  ·cases s
  ·rename_i x;split at s
   ·rename_i v hv;simp only[gW,iA H hv];exact PG s fun ls h' hv=>hk _ _ hv rfl (fun _ e=>by cases e)
   ·cases s
  ·rename_i x;split at s
   ·rename_i v hv;obtain⟨t,u,rfl,s⟩:=OT s;simp only[gW,iA H hv];exact hq rfl _ _ s
   ·cases s
  ·rename_i f xs;split at s
   ·rename_i vs hvs;exact JQ hc H hvs s (fun v h' hv hp=>hk v h' hv (qV hp) (fun _ e=>by cases e)) (hq rfl)
   ·cases s
  ·rename_i x;split at s
   ·rename_i d;split at s
    ·rename_i v hv;exact have e:aN ρ h (.mv x)=some (v,h):=(by simp only[aN,iA H hv,bT]);Av rfl e (hk v h s rfl fun _ _=>e)
    ·cases s
   ·exact have⟨_,v,h',e,s⟩:=ab8 H s;Av rfl e (hk v h' s rfl fun _ _=>e)
  ·exact have⟨hn,v,h',e,s⟩:=ab8 H s;Av hn e (hk v h' s (by simp only[oL,hn,cond_false]) fun _ _=>e)
 |some p=>
  have⟨j,b⟩:=p;unfold dnO at s;simp only at s hk hq;split at s
  ·cases s
  ·rename_i g hg;simp only[jM,BN H hg];have hno:∀{P:Prop},((some (j,b):Option (Nat×Bool))=none→P):=fun e=>by cases e
   split at s
   ·cases s
   ·cases s
   ·rename_i x;split at s
    ·rename_i v hv;rcases QU s with⟨hw,s⟩|⟨hw,s⟩
     ·obtain⟨t,u,rfl,s⟩:=OT s;simp only[hw,gW,iA H hv];exact hq rfl _ _ s
     ·simp only[hw];exact hk _ _ s rfl hno
    ·cases s
   ·rename_i f xs;split at s
    ·rename_i vs hvs;rcases QU s with⟨hw,s⟩|⟨hw,s⟩
     ·simp only[hw];exact JQ hc H hvs s (fun v h' hv hp=>hk v h' hv (qV hp) hno) (hq rfl)
     ·simp only[hw];exact hk _ _ s rfl hno
    ·cases s
   ·have⟨hn,hs⟩:=agz H s;rcases hs with⟨hw,v,h',e,s⟩|⟨hw,s⟩
    ·simp only[hw];exact Av hn e (hk v h' s (by simp only[oL,hn,cond_false]) hno)
    ·simp only[hw];exact hk _ _ s (by simp only[oL,hn,cond_false]) hno
def Od (Q:aK) (KS:ow):Prop:=∀x ρ h,Q (.pan x) h=true→KS (.panic x) ⟨ρ,h⟩=true
theorem Ye (hc:Le call call') {Q:aK}:∀{ops:List aT} {ρ:bZ} {l:fU} {h:ah} {k:fU→ah→Bool} {KS:ow},Has ρ l→dnR call Q ops l h k=true→(∀l' ρ' h',Has ρ' l'→k l' h'=true→KS .normal ⟨ρ',h'⟩=true)→Od Q KS→mR call' ops ⟨ρ,h⟩ KS=true
 | [],ρ,l,h,k,KS,H,s,hk,hq=>hk _ _ _ H s
 |o :: ops,ρ,l,h,k,KS,H,s,hk,hq=>by
  simp only[mR];refine adE hc H s (fun v h' hv hp _=> ?_) (fun hcl x h' hx=> ?_)
  ·simp only[hp];exact Ye hc (H.yE o.dst v) hv hk hq
  ·simp only[hcl,oL,cond_true,iB];exact hq _ _ _ hx
theorem acS:∀{ops:List aT} {ρ:bZ} {l:fU} {h:ah} {k:fU→Bool},Has ρ l→dnK ops l h k=true→∃ρ' l',oz ops ρ h=some ρ'∧Has ρ' l'∧k l'=true:=by
 intro ops
 induction ops with
 |nil=>intro ρ l h k H s;exact⟨ρ,l,rfl,H,s⟩
 |cons o ops ih=>
  intro ρ l h k H s;have⟨dst,op,grd⟩:=o;unfold dnK at s;simp only[oz];split at s
  ·rename_i heq;cases heq
  ·rename_i d x ops' heq;cases heq;split at s
   ·rename_i v hv;refine have⟨ρ',l',h1,h2,h3⟩:=ih (H.set d v) s;⟨ρ',l', ?_,h2,h3⟩
    simp only[eO,aN,iA H hv,bT];exact h1
   ·cases s
  ·rename_i dst' op' ops' hne heq;cases heq;split at s
   ·rename_i F hp;have⟨o,ho,hF⟩:=wN hp;have⟨e1,e2⟩:=tL H ho;rw[hF] at s;obtain⟨v,rfl,s⟩:=tF s;refine have⟨ρ',l',h1,h2,h3⟩:=ih (H.yE dst v) s;⟨ρ',l', ?_,h2,h3⟩
    simp only[eO,e1,bT];exact h1
   ·cases s
  ·rename_i dst' op' j b ops' heq;cases heq;split at s
   ·cases s
   ·rename_i g hg;split at s
    ·rename_i F hp;have⟨o,ho,hF⟩:=wN hp;have⟨e1,e2⟩:=tL H ho;simp only[BN H hg];rcases ZW s with⟨hw,s⟩|⟨hw,s⟩
     ·rw[hF] at s;obtain⟨v,rfl,s⟩:=tF s;refine have⟨ρ',l',h1,h2,h3⟩:=ih (H.yE dst v) s;⟨ρ',l', ?_,h2,h3⟩
      simp only[hw,e1,bT];exact h1
     ·refine have⟨ρ',l',h1,h2,h3⟩:=ih (H.yE dst _) s;⟨ρ',l', ?_,h2,h3⟩
      simp only[hw];exact h1
    ·cases s
theorem M9 {u v:AV} {r:Bool} (s:bS u r v=true):AV.same v u=true∧r=true:=by
 unfold bS at s;rw[rX] at s;exact rJ s
theorem Sm {q:Bool} (H:Has ρ l):∀{ops:List aT},dnA ops l h q=true→again ρ h ops=true∧q=true
 | [],s=>⟨rfl,s⟩
 |⟨none,_,_⟩ :: _,s=>by unfold dnA at s;cases s
 |⟨some d,op,none⟩ :: ops,s=>by
  unfold dnA at s;split at s
  ·rename_i F hp;have⟨o,ho,hF⟩:=wN hp;have⟨e1,e2⟩:=tL H ho;split at s
   ·rename_i u hu;rw[hF] at s;obtain⟨v,rfl,s⟩:=tF s;have⟨hs,s⟩:=M9 s;refine have⟨h1,h2⟩:=Sm H s;⟨?_,h2⟩
    simp only[again,lW,eO,e1,bT,H d u hu,hs,cond_true];exact h1
   ·cases s
  ·cases s
 |⟨some d,op,some (j,b)⟩ :: ops,s=>by
  unfold dnA at s;split at s
  ·rename_i g hg;split at s
   ·rename_i F hp;have⟨o,ho,hF⟩:=wN hp;have⟨e1,e2⟩:=tL H ho;split at s
    ·rename_i u hu;simp only[again,lW,BN H hg];rcases afq s with⟨hw,s⟩|⟨hw,s⟩
     ·rw[hF] at s;obtain⟨v,rfl,s⟩:=tF s;have⟨hs,s⟩:=M9 s;refine have⟨h1,h2⟩:=Sm H s;⟨?_,h2⟩
      simp only[hw,e1,bT,H d u hu,hs,cond_true];exact h1
     ·refine have⟨h1,h2⟩:=Sm H s;⟨?_,h2⟩
      simp only[hw,cond_true];exact h1
    ·cases s
   ·cases s
  ·cases s
theorem Ym {o:aT} {v:AV} {h':ah} (he:iH o=true) (hv:aN ρ h o.op=some (v,h')):NP v=h.sz∧o.grd=none∧dI o.op=false:=by
 have⟨dst,op,grd⟩:=o;unfold iH at he;split at he
 ·cases he
 ·rename_i hg;split at he<;>first |(cases he;done)|skip
  all_goals
   rename_i ho;simp only at ho hg hv;subst ho;subst hg;refine⟨?_,rfl,rfl⟩
  ·simp only[aN,qR] at hv;cases hb:Nat.beq _ 0 with
   |true=>rw[hb] at hv;cases hv;rfl
   |false=>
    rw[hb,cond_false] at hv;have⟨_,hv⟩:=tC hv;cases hv;rfl
  ·simp only[aN] at hv;have⟨_,hv⟩:=tC hv;cases hv;rfl
  ·simp only[aN] at hv;split at hv
   ·unfold mo at hv;have⟨_,hv⟩:=tC hv;cases hv;rfl
   ·cases hv
  ·simp only[aN] at hv;cases hv;rfl
  ·simp only[aN] at hv;split at hv
   ·unfold Eb at hv;split at hv
    ·have⟨_,hv⟩:=tC hv;cases hv;rfl
    ·cases hv
   ·cases hv
  ·simp only[aN] at hv;have⟨_,hv⟩:=tC hv;split at hv
   ·cases hv;rfl
   ·cases hv
theorem X0 {es:List AV} {Q:aK} {v:AV} (s:uZ es Q v h=true):∃h',nN (es.map NP) h=some h'∧Q v h'=true:=by
 cases es with
 |nil=>exact⟨h,rfl,s⟩
 |cons e es=>
  simp only[uZ] at s;split at s
  ·rename_i h2 hh;exact⟨h2,hh,s⟩
  ·cases s
theorem acF (hc:Le call call') {Q:aK} {ρ0:bZ}:∀{rest:List (aT×List aT×List aT)} {es:List AV} {ρ:bZ} {l:fU} {h:ah} {k:fU→ah→Bool} {KS:ow},Has ρ l→dnD call Q rest es l h k=true→(∀l' ρ' h',Has ρ' l'→k l' h'=true→KS .normal ⟨ρ',h'⟩=true)→Od Q KS→oq call' ρ0 (es.map NP) rest ⟨ρ,h⟩ KS=true
 | [],es,ρ,l,h,k,KS,H,s,hk,hq=>hk _ _ _ H s
 |(act,chk,ns) :: rest,es,ρ,l,h,k,KS,H,s,hk,hq=>by
  unfold dnD at s;simp only[oq];refine adE hc H s (fun v h' hv hp hev=> ?_) (fun hcl x h' hx=> ?_)
  ·simp only[hp];split at hv
   ·cases hv
   ·rename_i e he;have H':=H.yE act.dst v;have⟨ha,hv⟩:=Sm H' hv;have⟨ρ',l',h1,h2,h3⟩:=acS H' hv;rw[ha,cond_true,h1];simp only;have hes:(bif iH act then h.sz :: es.map NP else es.map NP)=(e++es).map NP:=by
     unfold acM at he;cases hie:iH act with
     |false=>rw[hie,cond_false] at he;cases he;rfl
     |true=>
      rw[hie,cond_true] at he;have hg:act.grd=none∧dI act.op=false:=by
       unfold iH at hie;split at hie
       ·cases hie
       ·rename_i hg;refine⟨hg, ?_⟩;split at hie<;>first |(cases hie;done)|(rename_i ho;rw[ho];rfl)
      have hev:=hev hg.1 hg.2;split at he
      ·rename_i d hd;split at he
       ·rename_i v' hv';cases he;rw[hd] at hv';simp only[yE,fU.get,Nat.beq_refl,cond_true,Option.some.injEq] at hv';subst hv';simp only[cond_true,List.cons_append,List.nil_append,List.map_cons,(Ym hie hev).1]
       ·cases he
      ·cases he
    rw[hes];exact acF hc h2 h3 hk hq
  ·simp only[hcl,oL,cond_true,iB];have⟨h2,hh,hx⟩:=X0 hx;rw[hh];exact hq _ _ _ hx
noncomputable def agq (call:bg) (n:Nat) (b:cZ) (K:ow):ow:=fun x σ'=>
 match x with
 | .normal=>dh call n b σ' K
 |x=>K x σ'
noncomputable def FH (id:Nat) (K:ow):ow:=fun x σ'=>
 match x with
 | .exit i=>bif Nat.beq i id then K .normal σ' else K (.exit i) σ'
 |x=>K x σ'
noncomputable def Us (call:bg) (n:Nat) (c:cZ) (K:ow) (m:Nat):ow:=fun x σ'=>
 match x with
 | .normal=>iter (dh call n c) K m σ'
 |x=>K x σ'
noncomputable def Bo (call:bg) (n:Nat) (l:Nat) (r:cZ) (K:ow) (m:Nat):ow:=fun x σ'=>
 match x with
 | .goto l'=>bif Nat.beq l' l then vJ l (dh call n r) K m σ' else false
 |x=>K x σ'
noncomputable def NT (res:List (Nat×Option (Bool×Nat))) (K:aK):ow:=fun x σ=>
 match x with
 | .normal=>(match jg σ.regs σ.h res with
   |some l=>K (oneOf l) σ.h
   |none=>false)
 | .ret=>(match jg σ.regs σ.h res with
   |some l=>K (oneOf l) σ.h
   |none=>false)
 | .panic v=>K (.pan v) σ.h
 |_=>false
variable {σ:St} {KS:ow}
theorem akl {x y:cZ} (s:dh call n x σ (agq call n y KS)=true):dh call n (.seq x y) σ KS=true:=by
 have e:agq call n y KS=(fun x σ'=>match x with | .normal=>dh call n y σ' KS |x=>KS x σ'):=by
  funext x σ';cases x<;>rfl
 rw[e] at s;exact s
theorem ahQ {c:bB} {x y:cZ} {v:AV} {p q:Bool} {KS:ow} (H:Has ρ l) (e:o8 l c=some v) (s:aH v p q=true) (kx:p=true→dh call n x ⟨ρ,h⟩ KS=true) (ky:q=true→dh call n y ⟨ρ,h⟩ KS=true):dh call n (.cond c x y) ⟨ρ,h⟩ KS=true:=by
 simp only[dh,iA H e];cases v<;>first |(cases s;done)|skip
 rename_i t;cases t
 ·exact ky s
 ·exact kx s
theorem afB {id:Nat} {x:cZ} (s:dh call n x σ (FH id KS)=true):dh call n (.block id x) σ KS=true:=by
 have e:FH id KS=(fun x σ'=>match x with | .exit i=>bif Nat.beq i id then KS .normal σ' else KS (.exit i) σ' |x=>KS x σ'):=by
  funext x σ';cases x<;>rfl
 rw[e] at s;exact s
theorem ai0 {x:cZ} (s:iter (dh call n x) KS n σ=true):dh call n (.loop x) σ KS=true:=s
theorem agu {x:cZ} {m:Nat} (s:dh call n x σ (Us call n x KS m)=true):iter (dh call n x) KS (m+1) σ=true:=by
 have e:Us call n x KS m=(fun y σ'=>match y with | .normal=>iter (dh call n x) KS m σ' |y=>KS y σ'):=by
  funext y σ';cases y<;>rfl
 rw[e] at s;exact s
theorem afc {x r:cZ} {l:Nat} (s:dh call n x σ (Bo call n l r KS n)=true):dh call n (.scope x l r) σ KS=true:=by
 have e:Bo call n l r KS n=(fun x σ'=>match x with | .goto l'=>bif Nat.beq l' l then vJ l (dh call n r) KS n σ' else false |x=>KS x σ'):=by
  funext x σ';cases x<;>rfl
 rw[e] at s;exact s
theorem ahN {r:cZ} {l m:Nat} (s:dh call n r σ (Bo call n l r KS m)=true):vJ l (dh call n r) KS (m+1) σ=true:=by
 have e:Bo call n l r KS m=(fun x σ'=>match x with | .goto l'=>bif Nat.beq l' l then vJ l (dh call n r) KS m σ' else false |x=>KS x σ'):=by
  funext x σ';cases x<;>rfl
 rw[e] at s;exact s
theorem zx (H:Has ρ l):∀{res:List (Nat×Option (Bool×Nat))} {m:List (AV×Option (Bool×Nat))},LP l res=some m→jg ρ h res=fF h m
 | [],m,e=>by simp only[LP] at e;cases e;rfl
 |(t,x) :: r,m,e=>by
  simp only[LP] at e;split at e
  ·rename_i v hv;split at e
   ·rename_i vs hvs;cases e;simp only[jg];rw[zx H hvs];cases x with
    |none=>simp only[vv,H t v hv,fF];rfl
    |some p=>
     have⟨ag,k⟩:=p;simp only[vv,H t v hv,fF];rfl
   ·cases e
  ·cases e
theorem afJ {res:List (Nat×Option (Bool×Nat))} {m:List (AV×Option (Bool×Nat))} {K K':aK} (H:Has ρ l) (e:LP l res=some m) (hK:∀v h',K v h'=true→K' v h'=true) (s:gI (fF h m) h K=true):NT res K' .ret ⟨ρ,h⟩=true:=by
 simp only[NT,zx H e];cases hr:fF h m with
 |none=>rw[hr] at s;cases s
 |some vs=>rw[hr] at s;exact hK _ _ s
theorem Wp {res:List (Nat×Option (Bool×Nat))} {m:List (AV×Option (Bool×Nat))} {K K':aK} (H:Has ρ l) (e:LP l res=some m) (hK:∀v h',K v h'=true→K' v h'=true) (s:gI (fF h m) h K=true):NT res K' .normal ⟨ρ,h⟩=true:=by
 simp only[NT,zx H e];cases hr:fF h m with
 |none=>rw[hr] at s;cases s
 |some vs=>rw[hr] at s;exact hK _ _ s
theorem IX {KS:ow}:∀{a b:List aT} {σ:St},mR call (a++b) σ KS=mR call a σ (fun x σ'=>match x with | .normal=>mR call b σ' KS |x=>KS x σ')
 | [],b,σ=>rfl
 |o :: a,b,σ=>by
  simp only[List.cons_append,mR];congr 1
  funext v σ'
  cases oL (dI o.op) v with
  |none=>exact IX
  |some x=>rfl
theorem Oh {KS:ow}:∀{b:iT} {σ:St},b.isReg=true→dh call n b.erase σ KS=mR call b.ops σ KS
 | .reg _,σ,_=>rfl
 | .rseq l b,σ,_=>rfl
 | .pt _ _ b,σ,h=>Oh (b:=b) h
theorem Od.seq {Q:aK} {KS:ow} {b:cZ} (hq:Od Q KS):Od Q (agq call n b KS):=fun x ρ h s=>hq x ρ h s
theorem Od.block {Q:aK} {KS:ow} {id:Nat} (hq:Od Q KS):Od Q (FH id KS):=fun x ρ h s=>hq x ρ h s
theorem Od.loop {Q:aK} {KS:ow} {c:cZ} {m:Nat} (hq:Od Q KS):Od Q (Us call n c KS m):=fun x ρ h s=>hq x ρ h s
theorem Od.jump {Q:aK} {KS:ow} {c:cZ} {lb m:Nat} (hq:Od Q KS):Od Q (Bo call n lb c KS m):=fun x ρ h s=>hq x ρ h s
def Rh:List Nat→List AV→fU
 |k :: ks,v :: vs=>(k,v) :: Rh ks vs
 |_,_=>[]
theorem PD:∀{ks:List Nat} {l m:fU},DI ks l=some m→m=Rh ks (vals m)∧(vals m).length=ks.length
 | [],l,m,e=>by simp only[DI] at e;cases e;exact⟨rfl,rfl⟩
 |k :: ks,l,m,e=>by
  simp only[DI] at e;split at e
  ·split at e
   ·rename_i v hv m' hm;cases e;have:=PD hm;exact⟨by simp only[vals,Rh];rw[←this.1],by simp only[vals,List.length_cons,this.2]⟩
   ·cases e
  ·cases e
theorem Oi (σ:Nat→AV):∀(ks:List Nat) (vs:List AV) (i:Nat),vs.length=ks.length→(∀j,j<vs.length→vs[j]? =some (σ (i+j)))→yA ks i σ=Rh ks vs∧vals (Rh ks vs)=vs
 | [],[],i,_,_=>⟨rfl,rfl⟩
 | [],_ :: _,_,e,_=>by cases e
 |_ :: _,[],_,e,_=>by cases e
 |k :: ks,v :: vs,i,e,hv=>by
  have h0:=hv 0 (Nat.succ_pos _);simp only[List.getElem?_cons_zero,Nat.add_zero,Option.some.injEq] at h0;have:=Oi σ ks vs (i+1) (by simpa using e) (fun j hj=>by
   have:=hv (j+1) (by simpa using hj);simpa[Nat.add_assoc,Nat.add_comm 1 j] using this)
  simp only[yA,Rh,vals, ←h0,this.1,this.2];exact⟨trivial,trivial⟩
def vO:List AV→Nat→AV
 | [],_=> .bool true
 |v :: _,0=>v
 |_ :: l,n+1=>vO l n
theorem Gf:∀(vs:List AV) (j:Nat),j<vs.length→vs[j]? =some (vO vs j)
 | [],_,h=>by cases h
 |v :: vs,0,_=>rfl
 |v :: vs,j+1,h=>by simpa[vO] using Gf vs j (by simpa using h)
theorem rP {ks:List Nat} {vs:List AV} (e:vs.length=ks.length):yA ks 0 (vO vs)=Rh ks vs∧vals (Rh ks vs)=vs:=
 Oi _ ks vs 0 e fun j hj=>by rw[Nat.zero_add];exact Gf vs j hj
def uz:Bt→Nat→Pv
 | [],_=>fun _ _=>false
 |v :: _,0=>v
 |_ :: l,n+1=>uz l n
theorem Vu (τ:Nat→Pv):∀(β:Bt) (i:Nat),(∀j,j<β.length→β[j]? =some (τ (i+j)))→stk β.length i τ=β
 | [],_,_=>rfl
 |B :: β,i,h=>by
  have h0:=h 0 (Nat.succ_pos _);simp only[List.getElem?_cons_zero,Nat.add_zero,Option.some.injEq] at h0;have:=Vu τ β (i+1) (fun j hj=>by
   have:=h (j+1) (by simpa using hj);simpa[Nat.add_assoc,Nat.add_comm 1 j] using this)
  simp only[List.length_cons,stk, ←h0,this]
theorem Oe:∀(vs:Bt) (j:Nat),j<vs.length→vs[j]? =some (uz vs j)
 | [],_,h=>by cases h
 |v :: vs,0,_=>rfl
 |v :: vs,j+1,h=>by simpa[uz] using Oe vs j (by simpa using h)
theorem yQ (β:Bt):stk β.length 0 (uz β)=β:=
 Vu _ β 0 fun j hj=>by rw[Nat.zero_add];exact Oe β j hj
def SV (K:KL) (KS:ow):Prop:=∀x (l:fU) (ρ:bZ) (h:ah),Has ρ l→K x l h=true→KS x ⟨ρ,h⟩=true
def SVd (V:Pv) (ks:List Nat) (R:St→Bool):Prop:=∀(vs:List AV) (ρ:bZ) (h:ah),vs.length=ks.length→Has ρ (Rh ks vs)→V vs h=true→R ⟨ρ,h⟩=true
theorem SVd.go {V:Pv} {ks:List Nat} {R:St→Bool} (hv:SVd V ks R) {ρ:bZ} {l:fU} {h:ah} (H:Has ρ l) (s:goL V ks l h=true):R ⟨ρ,h⟩=true:=by
 unfold goL at s;split at s
 ·rename_i l' hl;have hz:=PD hl;have H':=H.keep ks hl;rw[hz.1] at H';exact hv _ _ _ hz.2 H' s
 ·cases s
def SPd (call':bg) (n:Nat) (S:Sp):Bt→iT→ow→Prop
 |β, .pt j ks a,KS=>SVd (S.pt β j) ks fun σ=>dh call' n a.erase σ KS
 |β, .loop j ks a,KS=>SVd (S.lp β j n) ks (iter (dh call' n a.erase) KS n)
 |β, .scope j _ fks a lb r,KS=>SVd (S.fs (S.lp β j n :: β) j) fks fun σ=>dh call' n a.erase σ (Bo call' n lb r.erase KS n)
 |β, .rseq _ b,KS=>SPd call' n S β b KS
 |β, .seq a b,KS=>SPd call' n S β a (agq call' n b.erase KS)∧SPd call' n S β b KS
 |β, .cond _ a b,KS=>SPd call' n S β a KS∧SPd call' n S β b KS
 |β, .block id a,KS=>SPd call' n S β a (FH id KS)
 |_,_,_=>True
theorem SV.block {id:Nat} {K:KL} {KS:ow} (hk:SV K KS):SV (JG id K) (FH id KS):=by
 intro x l ρ h H s;cases x with
 |exit i=>
  simp only[JG,FH] at s ⊢;cases hb:Nat.beq i id with
  |true=>rw[hb] at s;exact hk _ _ _ _ H s
  |false=>rw[hb] at s;exact hk _ _ _ _ H s
 |_=>exact hk _ _ _ _ H s
theorem SV.loop {c:cZ} {n m:Nat} {call':bg} {B:Pv} {ks:List Nat} {K:KL} {KS:ow} (hk:SV K KS) (hB:SVd B ks (iter (dh call' n c) KS m)):SV (Ou B ks K) (Us call' n c KS m):=by
 intro x l ρ h H s;cases x with
 |normal=>exact hB.go H s
 |_=>exact hk _ _ _ _ H s
theorem SV.jump {r:cZ} {n m lb:Nat} {call':bg} {B:Pv} {ks:List Nat} {K:KL} {KS:ow} (hk:SV K KS) (hB:SVd B ks (vJ lb (dh call' n r) KS m)):SV (yg lb B ks K) (Bo call' n lb r KS m):=by
 intro x l ρ h H s;cases x with
 |goto i=>
  simp only[yg,Bo] at s ⊢;cases hb:Nat.beq i lb with
  |true=>rw[hb] at s;exact hB.go H s
  |false=>rw[hb] at s;cases s
 |_=>exact hk _ _ _ _ H s
theorem zR {S:Sp} {call call':bg} {n:Nat} {Q:aK} (hc:Le call call'):∀(c:iT) (β:Bt) (ρ:bZ) (l:fU) (h:ah) (K:KL) (KS:ow),SPd call' n S β c KS→SV K KS→Od Q KS→Has ρ l→Bc call n Q S β c l h K=true→dh call' n c.erase ⟨ρ,h⟩ KS=true:=by
 intro c
 induction c with
 |skip=>intro β ρ l h K KS sp hk hq H s;exact hk _ _ _ _ H s
 |label _=>intro β ρ l h K KS sp hk hq H s;exact hk _ _ _ _ H s
 |exit _=>intro β ρ l h K KS sp hk hq H s;exact hk _ _ _ _ H s
 |goto _=>intro β ρ l h K KS sp hk hq H s;exact hk _ _ _ _ H s
 |ret=>intro β ρ l h K KS sp hk hq H s;exact hk _ _ _ _ H s
 |refuse=>intro β ρ l h K KS sp hk hq H s;cases s
 |stop _=>intro β ρ l h K KS sp hk hq H s;cases s
 |reg ops=>
  intro β ρ l h K KS sp hk hq H s;exact Ye hc H s (fun l' ρ' h' H' s'=>hk _ _ _ _ H' s') hq
 |dreg n0 rest=>
  intro β ρ l h K KS sp hk hq H s;have⟨ρ',l',h1,h2,h3⟩:=acS H s;simp only[iT.erase,dh,h1];exact acF (es:=[]) hc h2 h3 (fun l2 ρ2 h2 H2 s2=>hk _ _ _ _ H2 s2) hq
 |rseq ops b ih=>
  intro β ρ l h K KS sp hk hq H s;simp only[Bc] at s;split at s
  ·rename_i hr;show mR call' (ops++b.ops) ⟨ρ,h⟩ KS=true;rw[IX];refine Ye hc H s (fun l' ρ' h' H' s'=> ?_) (fun x ρ h s=>hq x ρ h s);have:=ih β _ _ _ _ _ sp hk hq H' s';rw[Oh hr] at this;exact this
  ·cases s
 |seq a b iha ihb=>
  intro β ρ l h K KS sp hk hq H s;refine akl (iha β ρ l h _ _ sp.1 ?_ hq.seq H s);intro x l' ρ' h' H' s';cases x with
  |normal=>exact ihb β _ _ _ _ _ sp.2 hk hq H' s'
  |_=>exact hk _ _ _ _ H' s'
 |cond o a b iha ihb=>
  intro β ρ l h K KS sp hk hq H s;simp only[Bc] at s;split at s
  ·rename_i v hv;exact ahQ H hv s (fun s=>iha β _ _ _ _ _ sp.1 hk hq H s) (fun s=>ihb β _ _ _ _ _ sp.2 hk hq H s)
  ·cases s
 |block id a ih=>
  intro β ρ l h K KS sp hk hq H s;exact afB (ih β _ _ _ _ _ sp hk.block hq.block H s)
 |loop j ks a ih=>intro β ρ l h K KS sp hk hq H s;exact ai0 (SVd.go sp H s)
 |pt j ks a ih=>intro β ρ l h K KS sp hk hq H s;exact SVd.go sp H s
 |scope j ks fks a lb r iha ihr=>intro β ρ l h K KS sp hk hq H s;exact afc (SVd.go sp H s)
theorem ali {S:Sp} {call call':bg} {n:Nat} {Q:aK} (hc:Le call call'):∀(c:iT) (β:Bt) (K:Bt→KL) (KS:ow),(∀p∈WJ call n Q S β.length c K,p.1=p.2)→SV (K β) KS→Od Q KS→SPd call' n S β c KS:=by
 intro c
 induction c with
 |pt j ks a ih=>
  intro β K KS hp hk hq vs ρ h hl H s;have e:=congrFun (congrFun (congrFun (congrFun (hp _ (List.mem_cons_self ..)) (uz β)) 0) (vO vs)) h;simp only[yQ,rP hl] at e;rw[e] at s;exact zR hc a β ρ _ h _ KS (ih β K KS (fun p h=>hp p (List.mem_cons_of_mem _ h)) hk hq) hk hq H s
 |loop j ks a ih=>
  intro β K KS hp hk hq;have e1:=hp _ (List.mem_cons_self ..);have e2:=hp _ (List.mem_cons_of_mem _ (List.mem_cons_self ..));have e3:=hp _ (List.mem_cons_of_mem _ (List.mem_cons_of_mem _ (List.mem_cons_self ..)));have hr:∀p∈WJ call n Q S (β.length+1) a (yw (fun B=>Ou B ks) K),p.1=p.2:=fun p h=>hp p (List.mem_cons_of_mem _ (List.mem_cons_of_mem _ (List.mem_cons_of_mem _ h)));have main:∀m,SVd (S.lp β j m) ks (iter (dh call' n a.erase) KS m):=by
   intro m
   induction m with
   |zero=>
    intro vs ρ h hl H s;have e:=congrFun (congrFun (congrFun (congrFun e2 (uz β)) 0) (vO vs)) h;simp only[yQ,rP hl] at e;rw[e] at s;cases s
   |succ m ihm=>
    intro vs ρ h hl H s;have e:=congrFun (congrFun (congrFun (congrFun e3 (uz β)) m) (vO vs)) h;simp only[yQ,rP hl] at e;have e':=congrFun (congrFun (congrFun (congrFun e1 (uz (S.lp β j m :: β))) 0) (vO vs)) h;have hs:stk (β.length+1) 0 (uz (S.lp β j m :: β))=S.lp β j m :: β:=yQ (S.lp β j m :: β);simp only[hs,rP hl] at e';rw[e,e'] at s;exact have hk':SV (Ou (S.lp β j m) ks (K β)) (Us call' n a.erase KS m):=hk.loop ihm;agu (zR hc a (S.lp β j m :: β) ρ _ h _ _ (ih (S.lp β j m :: β) (yw (fun B=>Ou B ks) K) _ hr hk' hq.loop) hk' hq.loop H s)
  exact main n
 |seq a b iha ihb=>
  intro β K KS hp hk hq;refine have hb:SPd call' n S β b KS:=ihb β K KS (fun p h=>hp p (List.mem_append_right _ h)) hk hq;⟨iha β _ _ (fun p h=>hp p (List.mem_append_left _ h)) ?_ hq.seq,hb⟩
  intro x l ρ h H s;cases x with
  |normal=>exact zR hc b β ρ l h _ KS hb hk hq H s
  |_=>exact hk _ _ _ _ H s
 |cond o a b iha ihb=>
  intro β K KS hp hk hq;exact⟨iha β K KS (fun p h=>hp p (List.mem_append_left _ h)) hk hq,ihb β K KS (fun p h=>hp p (List.mem_append_right _ h)) hk hq⟩
 |block id a ih=>
  intro β K KS hp hk hq;exact ih β (fun β=>JG id (K β)) _ hp hk.block hq.block
 |rseq ops b ih=>
  intro β K KS hp hk hq;exact ih β K KS hp hk hq
 |scope j ks fks a lb r iha ihr=>
  intro β K KS hp hk hq;have e0:=hp _ (List.mem_cons_self ..);have e1:=hp _ (List.mem_cons_of_mem _ (List.mem_cons_self ..));have e2:=hp _ (List.mem_cons_of_mem _ (List.mem_cons_of_mem _ (List.mem_cons_self ..)));have e3:=hp _ (List.mem_cons_of_mem _ (List.mem_cons_of_mem _ (List.mem_cons_of_mem _ (List.mem_cons_self ..))));have hr:∀p∈WJ call n Q S (β.length+1) a (yw (fun B=>yg lb B ks) K)++WJ call n Q S (β.length+1) r (yw (fun B=>yg lb B ks) K),p.1=p.2:=fun p h=>hp p (List.mem_cons_of_mem _ (List.mem_cons_of_mem _ (List.mem_cons_of_mem _ (List.mem_cons_of_mem _ h))));have main:∀m,SVd (S.lp β j m) ks (vJ lb (dh call' n r.erase) KS m):=by
   intro m
   induction m with
   |zero=>
    intro vs ρ h hl H s;have e:=congrFun (congrFun (congrFun (congrFun e2 (uz β)) 0) (vO vs)) h;simp only[yQ,rP hl] at e;rw[e] at s;cases s
   |succ m ihm=>
    intro vs ρ h hl H s;have e:=congrFun (congrFun (congrFun (congrFun e3 (uz β)) m) (vO vs)) h;simp only[yQ,rP hl] at e;have e':=congrFun (congrFun (congrFun (congrFun e1 (uz (S.lp β j m :: β))) 0) (vO vs)) h;have hs:stk (β.length+1) 0 (uz (S.lp β j m :: β))=S.lp β j m :: β:=yQ (S.lp β j m :: β);simp only[hs,rP hl] at e';rw[e,e'] at s;exact have hk':SV (yg lb (S.lp β j m) ks (K β)) (Bo call' n lb r.erase KS m):=hk.jump ihm;ahN (zR hc r (S.lp β j m :: β) ρ _ h _ _ (ihr (S.lp β j m :: β) (yw (fun B=>yg lb B ks) K) _ (fun p h=>hr p (List.mem_append_right _ h)) hk' hq.jump) hk' hq.jump H s)
  intro vs ρ h hl H s;have e:=congrFun (congrFun (congrFun (congrFun e0 (uz (S.lp β j n :: β))) 0) (vO vs)) h;have hs:stk (β.length+1) 0 (uz (S.lp β j n :: β))=S.lp β j n :: β:=yQ (S.lp β j n :: β);simp only[hs,rP hl] at e;rw[e] at s;exact have hk':SV (yg lb (S.lp β j n) ks (K β)) (Bo call' n lb r.erase KS n):=hk.jump (main n);zR hc a (S.lp β j n :: β) ρ _ h _ _ (iha (S.lp β j n :: β) (yw (fun B=>yg lb B ks) K) _ (fun p h=>hr p (List.mem_append_left _ h)) hk' hq.jump) hk' hq.jump H s
 |_=>intro β K KS hp hk hq;trivial
theorem OL {h:ah}:∀{res:List (Nat×Option (Bool×Nat))} {l:fU} {m:List (AV×Option (Bool×Nat))},LP l res=some m→(res.any fun x=>x.2.isSome)=false→fF h m=some (m.map fun x=>x.1)
 | [],l,m,e,_=>by simp only[LP] at e;cases e;rfl
 |(t,x) :: r,l,m,e,ha=>by
  simp only[LP] at e;split at e
  ·split at e
   ·rename_i v hv vs hvs;cases e;simp only[List.any_cons,Bool.or_eq_false_iff] at ha;cases x with
    |some p=>cases ha.1
    |none=>simp only[fF,OL hvs ha.2,List.map]
   ·cases e
  ·cases e
theorem Y9 {res:List (Nat×Option (Bool×Nat))} {K:aK} {ρ:bZ} {l:fU} {h:ah} (H:Has ρ l) (s:afg res l h K=true):∃m,LP l res=some m∧gI (fF h m) h K=true:=by
 unfold afg at s;split at s
 ·rename_i m hm;refine⟨m,hm, ?_⟩;cases ha:res.any fun x=>x.2.isSome with
  |true=>rw[ha] at s;exact s
  |false=>rw[ha] at s;rw[OL hm ha];exact s
 ·cases s
theorem SV.fin {res:List (Nat×Option (Bool×Nat))} {K K':aK} (hK:∀v h',K v h'=true→K' v h'=true):SV (ac2 res K) (NT res K'):=by
 intro x l ρ h H s;cases x with
 |normal=>obtain⟨m,e,s⟩:=Y9 H s;exact Wp H e hK s
 |ret=>obtain⟨m,e,s⟩:=Y9 H s;exact afJ H e hK s
 |_=>cases s
theorem Od.fin {res:List (Nat×Option (Bool×Nat))} {K K':aK} (hK:KLe K K'):Od K (NT res K'):=fun x ρ h s=>hK _ _ s
def Cn:cZ→Bool
 | .seq (.reg ops) b=>(match mZ ops with
   |some _=>false
   |none=>Cn b)
 | .seq _ b=>Cn b
 |_=>true
theorem Fy {df:ni} {res:List (Nat×Option (Bool×Nat))} {K:aK} {x:Dk} {σ:St} (s:NT res K x σ=true):atEnd df [] x σ (kT res K)=true:=by
 cases x<;>first |(cases s;done)|exact s
theorem YH {a b:cZ} {σ:St} {K:ow} (s:dh call n (.seq a b) σ K=true):dh call n a σ (fun x σ'=>match x with | .normal=>dh call n b σ' K |x=>K x σ')=true:=s
theorem Yb (hm:Le call call) {df:ni} {res:List (Nat×Option (Bool×Nat))} {K:aK}:∀{c:cZ} {σ:St},Cn c=true→dh call n c σ (NT res K)=true→runT call df n c [] σ (kT res K)=true:=by
 intro c
 induction c with
 |seq a b iha ihb=>
  intro σ hp s;cases a with
  |reg ops=>
   unfold Cn at hp;unfold runT;cases hs:mZ ops with
   |some p=>rw[hs] at hp;cases hp
   |none=>
    rw[hs] at hp;simp only;refine rz hm (YH s) fun x σ' hx=> ?_;cases x with
    |normal=>exact ihb hp hx
    |_=>exact Fy hx
  |_=>
   unfold Cn at hp;simp only[runT];refine have s':=YH s;rz hm s' fun x σ' hx=> ?_
   cases x with
   |normal=>exact ihb hp hx
   |_=>exact Fy hx
 |_=>intro σ hp s;simp only[runT];exact rz hm s fun x σ' hx=>Fy hx
theorem Has.init:∀{vs:List AV} {i:Nat} {ρ:bZ} {l:fU},Has ρ l→Has (mK i vs ρ) (Zf i vs l)
 | [],i,ρ,l,H=>H
 |v :: vs,i,ρ,l,H=>Has.init (vs:=vs) (H.set i v)
theorem O6 (σ:Nat→AV):∀(vs:List AV) (i:Nat),(∀j,j<vs.length→vs[j]? =some (σ (i+j)))→aaH vs.length i σ=vs
 | [],_,_=>rfl
 |v :: vs,i,h=>by
  have h0:=h 0 (Nat.succ_pos _);simp only[List.getElem?_cons_zero,Nat.add_zero,Option.some.injEq] at h0;have:=O6 σ vs (i+1) (fun j hj=>by
   have:=h (j+1) (by simpa using hj);simpa[Nat.add_assoc,Nat.add_comm 1 j] using this)
  simp only[List.length_cons,aaH, ←h0,this]
theorem afG (vs:List AV):aaH vs.length 0 (vO vs)=vs:=O6 _ vs 0 fun j hj=>by rw[Nat.zero_add];exact Gf vs j hj
theorem Vq {α:Type}:∀{l:List (α×α)},l.map Prod.fst=l.map Prod.snd→∀p∈l,p.1=p.2
 | [],_,p,h=>by cases h
 |q :: l,e,p,h=>by
  simp only[List.map_cons,List.cons.injEq] at e;cases h with
  |head=>exact e.1
  |tail _ h=>exact Vq e.2 p h
noncomputable def iK (np:Nat) (top:bg→Nat→aK→Pv):Sh:=fun call n args h K=>kM (Nat.beq (pq args) np) (top call n K args h) false
theorem ajJ {E:Env} {k np:Nat} {A:Ann} {fn:bV} {S:bg→Nat→aK→Sp} {top:bg→Nat→aK→Pv} (hk:E.code k=some fn) (hpr:E.prim k=none) (hn:fn.np=np) (hpl:Cn fn.body=true)
 (e:(fun call n K=>(agO call n K (S call n K) (top call n K) A fn).map Prod.fst)=fun call n K=>(agO call n K (S call n K) (top call n K) A fn).map Prod.snd):dB E k (iK np top):=by
 intro call call' n args h K K' hc hm hK s;subst hn;unfold iK at s;rw[rX,mJ] at s;cases hb:Nat.beq args.length fn.np with
 |false=>rw[hb] at s;cases s
 |true=>
  rw[hb] at s;refine have hl:=Nat.eq_of_beq_eq_true hb;⟨fn,hk,hpr,hl,fun df=>Yb hm hpl ?_⟩
  have ep:=Vq (congrFun (congrFun (congrFun e call) n) K);have e0:=congrFun (congrFun (congrFun (congrFun (ep _ (List.mem_cons_self ..)) (fun _ _ _=>false)) 0) (vO args)) h;simp only[←hl,afG] at e0;rw[cond_true,e0] at s;have hk:SV (ac2 fn.res K) (NT fn.res K'):=SV.fin hK;have sp:SPd call' n (S call n K) [] (toB A fn.body 0).1 (NT fn.res K'):=ali hc _ [] (fun _=>ac2 fn.res K) _ (fun p h=>ep p (List.mem_cons_of_mem _ h)) hk (Od.fin hK);have:=zR hc (toB A fn.body 0).1 [] (mK 0 args .lf) (Zf 0 args []) h _ _ sp hk (Od.fin hK) (Has.init Has.nil) s
  rwa [abf] at this
end
end Go.Ab
namespace Go.Proofs.YtbijepcediaghaaGreatDoor
open Go.Ab
abbrev G (α:Type):Type:=bg→Nat→α
abbrev H0:Type:=ah→aK→Bool
abbrev H1:Type:=AV→ah→aK→Bool
abbrev H2:Type:=AV→AV→ah→aK→Bool
abbrev H3:Type:=AV→AV→AV→ah→aK→Bool
abbrev H4:Type:=AV→AV→AV→AV→ah→aK→Bool
abbrev H5:Type:=AV→AV→AV→AV→AV→ah→aK→Bool
abbrev H6:Type:=AV→AV→AV→AV→AV→AV→ah→aK→Bool
abbrev H7:Type:=AV→AV→AV→AV→AV→AV→AV→ah→aK→Bool
abbrev H8:Type:=AV→AV→AV→AV→AV→AV→AV→AV→ah→aK→Bool
abbrev H9:Type:=AV→AV→AV→AV→AV→AV→AV→AV→AV→ah→aK→Bool
abbrev wV:List AV:=[.int .i64 0, .str [], .str [], .au, .au, .au, .au, .au, .int .i64 0, .str [], .int .i64 0, .bool false, .int .i64 0, .str [], .au, .au, .str [], .str [], .au]
abbrev Jf:List AV:=[.int .i64 0, .str [], .int .i64 0, .bool false, .int .i64 0, .str [], .au, .au, .int .i64 0]
abbrev SQ:List AV:=[.int .i64 0, .str [], .int .i64 0, .bool false, .int .i64 0, .str [], .au, .au]
abbrev zr3:List AV:=[.str [], .int .i64 0, .str [], .int .i64 0, .bool false, .int .i64 0, .str [], .au, .au]
abbrev zr4:List AV:=[.int .i64 0, .str [], .int .i64 0, .int .i64 0]
abbrev zr5:List AV:=[.int .i64 0, .bool false, .int .i64 0, .str [], .au]
abbrev zr6:List AV:=[.int .i64 0, .str [], .au, .int .i64 0, .str [], .int .i64 0, .bool false, .int .i64 0, .str [], .au, .au, .str []]
abbrev zr7:List AV:=[.str [], .int .i64 0, .str [], .str [], .bool false, .bool false, .au, .au]
abbrev zr8:List AV:=[.au, .au, .au]
abbrev zr9:List AV:=[.str [], .int .i64 0, .str []]
abbrev afp:List AV:=[.str [], .str [], .au]
abbrev af4:List AV:=[.str [], .au, .au]
noncomputable section
def Ec:G (F2→H2):=fun c n B6 x1 x3 h K=>
 eG x3 (.int .i64 1) fun v24=>B6 x1 v24 h
def Mw:G (F2→F7→H9):=fun c n B6 B57 x1 x3 x4 x6 x8 x11 x13 x130 x135 h K=>
 gK x130 false (lJ x135) fun v84=>dA x130 (.bool true) v84 fun v85=>aH v85 (K (.bool false) h) (eG x13 (.int .i64 1) fun v86=>B57 x1 x3 x4 x6 x8 x11 v86 h)
def K8:G (F2→F7→H8):=fun c n B6 B57 x1 x3 x4 x6 x8 x11 x13 x128 h K=>
 lJ x128 fun v78=>gK v78 false (bK (some x11)) fun v79=>gK v78 false (bK (some x13)) fun v80=>gK v78 false (dG h 1 v79 v80) fun v81=>gK v78 false (av h v81) fun v82=>gP v78 false (fun k=>c (.func 8) [v82] h (pz K k)) h fun v83 h=>Mw c n B6 B57 x1 x3 x4 x6 x8 x11 x13 v78 v83 h K
def CZ:G (F2→H5):=fun c n B6 x1 x3 x140 x144 x149 h K=>
 gK x144 false (lJ x149) fun v97=>gK x140 true (dA x144 (.bool true) v97) fun v98=>dA x140 v98 (.bool false) fun v99=>aH v99 (K (.bool false) h) (Ec c n B6 x1 x3 h K)
def MJ:G (F2→H5):=fun c n B6 x1 x3 x4 x6 x139 h K=>
 gK x139 true (bK (some x6)) fun v88=>gK x139 true (fI v88) fun v89=>gK x139 true (qO v89 (.int .i64 1)) fun v90=>gK x139 true (bK (some v90)) fun v91=>gK v91 false (bK (some x6)) fun v92=>gK v91 false (dG h 1 v92 (.int .i64 0)) fun v93=>gK v91 false (av h v93) fun v94=>gK v91 false (bK (some x4)) fun v95=>gP v91 false (fun k=>c (.func 7) [v94,v95] h (pz K k)) h fun v96 h=>CZ c n B6 x1 x3 x139 v91 v96 h K
def YU:G (F2→H4):=fun c n B6 x1 x3 x4 x6 h K=>
 c (.func 8) [x4] h <| pz K fun v87 h=>MJ c n B6 x1 x3 x4 x6 v87 h K
def Zd:G (F2→F7→H7):=fun c n B6 B57 x1 x3 x4 x6 x8 x11 x13 h K=>
 fI x11 fun v63=>jL x13 v63 fun v64=>aH v64 (fI x8 fun v65=>bK (dV .quo x13 v65) fun v66=>dG h 1 x6 v66 fun v67=>av h v67 fun v68=>fI x8 fun v69=>bK (dV .rem x13 v69) fun v70=>dG h 1 x8 v70 fun v71=>av h v71 fun v72=>jO h 19 328 .au v68 fun v73 h=>fI x8 <| bS v69 <| dG h 1 x8 v70 <| bS v71 <| av h v71 <| bS v72 <| jO h 19 328 v73 v72 fun v74 h=>dG h 1 x11 x13 fun v75=>av h v75 fun v76=>c (.func 7) [v76,v74] h <| pz K fun v77 h=>K8 c n B6 B57 x1 x3 x4 x6 x8 x11 x13 v77 h K) (YU c n B6 x1 x3 x4 x6 h K)
def Tx:G (F2→Nat→H7):=fun c n B6=>
 @Nat.rec (fun _=>H7) (fun _ _ _ _ _ _ _ _ _=>false) (fun _ ih x1 x3 x4 x6 x8 x11 x13 h K=>Zd c n B6 (fun x1 x3 x4 x6 x8 x11 x13 h=>ih x1 x3 x4 x6 x8 x11 x13 h K) x1 x3 x4 x6 x8 x11 x13 h K)
def acT:G (F2→H6):=fun c n B6 x1 x3 x4 x6 x8 x11 h K=>
 Tx c n B6 n x1 x3 x4 x6 x8 x11 (.int .i64 0) h K
def aaq:G (F2→H6):=fun c n B6 x1 x3 x4 x6 x8 x11 h K=>
 fI x11 fun v58=>fI x6 fun v59=>fI x8 fun v60=>bK (dV .mul v59 v60) fun v61=>qO v58 v61 fun v62=>aH v62 (K (.bool false) h) (acT c n B6 x1 x3 x4 x6 x8 x11 h K)
def ME:G (F2→H8):=fun c n B6 x1 x3 x4 x6 x7 x8 x9 x79 h K=>
 lU 0 x79 fun v49=>lU 1 x79 fun v50=>qO x7 (.int .i64 0) fun v51=>gK v51 false (bK (some x9)) fun v52=>gK v51 false (qO v52 (.int .i64 0)) fun v53=>dA v51 (.bool true) v53 fun v54=>gK v54 false (bK (some v50)) fun v55=>gK v54 false (qO v55 (.int .i64 0)) fun v56=>dA v54 (.bool true) v56 fun v57=>aH v57 (Ec c n B6 x1 x3 h K) (aaq c n B6 x1 x3 x4 x6 x8 v49 h K)
def MB:G (F2→H7):=fun c n B6 x1 x3 x4 x5 x6 x7 x69 h K=>
 lU 0 x69 fun v44=>lU 1 x69 fun v45=>jO h 19 328 .au x4 fun v46 h=>jO h 19 328 v46 x5 fun v47 h=>c (.func 6) [v47] h <| pz K fun v48 h=>ME c n B6 x1 x3 x4 x6 x7 v44 v45 v48 h K
def MU:G (F2→H5):=fun c n B6 x1 x3 x4 x5 x64 h K=>
 lU 0 x64 fun v41=>lU 1 x64 fun v42=>c (.func 6) [x5] h <| pz K fun v43 h=>MB c n B6 x1 x3 x4 x5 v41 v42 v43 h K
def Yw:G (F2→H4):=fun c n B6 x1 x3 x4 x5 h K=>
 c (.func 6) [x4] h <| pz K fun v40 h=>MU c n B6 x1 x3 x4 x5 v40 h K
def MK:G (F2→H6):=fun c n B6 x1 x3 x4 x5 x57 x59 h K=>
 eG x57 x59 fun v38=>Ca v38 (.int .i64 60) fun v39=>aH v39 (Ec c n B6 x1 x3 h K) (Yw c n B6 x1 x3 x4 x5 h K)
def Mr:G (F2→H5):=fun c n B6 x1 x3 x4 x5 x57 h K=>
 c (.func 5) [x5,(.int .i64 0)] h <| pz K fun v37 h=>MK c n B6 x1 x3 x4 x5 x57 v37 h K
def aeM:G (F2→H2):=fun c n B6 x1 x3 h K=>
 aA 1 x1 fun v25=>av h v25 fun v26=>FE x3 (.int .i64 1) fun v27=>dG h 1 v26 v27 fun v28=>av h v28 fun v29=>aA 1 x1 fun v30=>av h v30 fun v31=>dG h 1 v31 x3 fun v32=>av h v32 fun v33=>c (.func 4) [v29] h <| pz K fun v34 h=>av h v30 <| bS v31 <| dG h 1 v31 x3 <| bS v32 <| av h v32 <| bS v33 <| c (.func 4) [v33] h <| pz K fun v35 h=>c (.func 5) [v34,(.int .i64 0)] h <| pz K fun v36 h=>Mr c n B6 x1 x3 v34 v35 v36 h K
def adR:G (F2→H2):=fun c n B6 x1 x3 h K=>
 aA 1 x1 fun v9=>av h v9 fun v10=>dG h 1 v10 x3 fun v11=>av h v11 fun v12=>pE v12 fun v13=>Ca v13 (.int .i64 3000) fun v14=>gK v14 false (aA 1 x1) fun v15=>gK v14 false (av h v15) fun v16=>gK v14 false (bK (some x3)) fun v17=>gK v14 false (FE v17 (.int .i64 1)) fun v18=>gK v14 false (dG h 1 v16 v18) fun v19=>gK v14 false (av h v19) fun v20=>gK v14 false (pE v20) fun v21=>gK v14 false (Ca v21 (.int .i64 3000)) fun v22=>dA v14 (.bool true) v22 fun v23=>aH v23 (Ec c n B6 x1 x3 h K) (aeM c n B6 x1 x3 h K)
def Y1:G H0:=fun c n h K=>
 c (.func 9) [] h <| pz K fun TV h=>K TV h
def ae3:G (F2→H2):=fun c n B6 x1 x3 h K=>
 aA 1 x1 fun v2=>av h v2 fun v3=>fI v3 fun v4=>jL x3 v4 fun v5=>gK v5 true (bK (some x3)) fun v6=>gK v5 true (jL v6 (.int .i64 8)) fun v7=>dA v5 v7 (.bool false) fun v8=>aH v8 (adR c n B6 x1 x3 h K) (Y1 c n h K)
def abx:G (Nat→H2):=fun c n=>
 @Nat.rec (fun _=>H2) (fun _ _ _ _=>false) (fun _ ih x1 x3 h K=>ae3 c n (fun x1 x3 h=>ih x1 x3 h K) x1 x3 h K)
def s3:G H1:=fun c n x0 h K=>
 aQ (mo h (none) 2 x0) fun v1 h=>abx c n n v1 (.int .i64 1) h K
def DJ:G H1:=fun c n x10 h K=>
 lU 0 x10 fun v4=>lU 1 x10 fun v5=>lU 2 x10 fun v6=>bL h zr8 3 fun v7 h=>aL h 3 v7 v4 fun h=>aA 1 v7 fun v9=>av h v9 fun v10=>fI v10 fun v11=>dQ v11 (.int .i64 0) fun v12=>aH v12 (K .au h) (aA 1 v7 fun v13=>av h v13 fun v14=>dG h 8 v14 (.int .i64 0) fun v15=>aA 6 v15 fun v16=>av h v16 fun v17=>K v17 h)
def s4:G H1:=fun c n x0 h K=>
 eG (.str [114,117,108,101,32,34,114,34,32,119,104,101,110,32]) x0 fun v1=>eG v1 (.str [32,116,104,101,110,32,101,110,100]) fun v2=>c (.func 10) [v2] h <| pz K fun v3 h=>DJ c n v3 h K
def MQ:G (F4→F5→H6):=fun c n B16 B30 x0 x1 x6 x7 Xu x57 h K=>
 eG Xu x57 fun v29=>eG x7 (.int .i64 1) fun v30=>B30 x0 x1 v29 x6 v30 h
def acD:G (F4→H4):=fun c n B16 x0 x1 x5 x6 h K=>
 eG x6 (.int .i64 1) fun v31=>B16 x0 x1 x5 v31 h
def aap:G (F4→F5→H5):=fun c n B16 B30 x0 x1 x5 x6 x7 h K=>
 dG h 19 x0 x6 fun v17=>aA 7 v17 fun v18=>av h v18 fun v19=>fI v19 fun v20=>jL x7 v20 fun v21=>aH v21 (dG h 19 x0 x6 fun v22=>aA 7 v22 fun v23=>av h v23 fun v24=>dG h 1 v24 x7 fun v25=>av h v25 fun v26=>eG x1 (.int .i64 1) fun v27=>c (.func 5) [v26,v27] h <| pz K fun v28 h=>MQ c n B16 B30 x0 x1 x6 x7 x5 v28 h K) (acD c n B16 x0 x1 x5 x6 h K)
def U0:G (F4→Nat→H5):=fun c n B16=>
 @Nat.rec (fun _=>H5) (fun _ _ _ _ _ _ _=>false) (fun _ ih x0 x1 x5 x6 x7 h K=>aap c n B16 (fun x0 x1 x5 x6 x7 h=>ih x0 x1 x5 x6 x7 h K) x0 x1 x5 x6 x7 h K)
def acQ:G (F4→H4):=fun c n B16 x0 x1 x5 x6 h K=>
 eG x5 (.int .i64 1) fun v4=>dG h 19 x0 x6 fun v5=>aA 5 v5 fun v6=>av h v6 fun v7=>eG x1 (.int .i64 1) fun v8=>dG h 19 x0 x6 fun v9=>aA 6 v9 fun v10=>av h v10 fun v11=>eG x1 (.int .i64 1) fun v12=>c (.func 5) [v7,v8] h <| pz K fun v13 h=>dG h 19 x0 x6 <| bS v9 <| av h v10 <| bS v11 <| eG v4 v13 fun v14=>c (.func 5) [v11,v12] h <| pz K fun v15 h=>eG v14 v15 fun v16=>U0 c n B16 n x0 x1 v16 x6 (.int .i64 0) h K
def Yv:G (F4→H4):=fun c n B16 x0 x1 x5 x6 h K=>
 fI x0 fun v2=>jL x6 v2 fun v3=>aH v3 (acQ c n B16 x0 x1 x5 x6 h K) (K x5 h)
def O8:G (Nat→H4):=fun c n=>
 @Nat.rec (fun _=>H4) (fun _ _ _ _ _ _=>false) (fun _ ih x0 x1 x5 x6 h K=>Yv c n (fun x0 x1 x5 x6 h=>ih x0 x1 x5 x6 h K) x0 x1 x5 x6 h K)
def adq:G H2:=fun c n x0 x1 h K=>
 O8 c n n x0 x1 (.int .i64 0) (.int .i64 0) h K
def s5:G H2:=fun c n x0 x1 h K=>
 Ca x1 (.int .i64 80) fun v1=>aH v1 (K (.int .i64 1048576) h) (adq c n x0 x1 h K)
def Zq:G (F3→H3):=fun c n B14 x0 x1 x5 h K=>
 fI x0 fun v4=>jL x5 v4 fun v5=>aH v5 (dG h 19 x0 x5 fun v6=>aX h 19 v6 fun v7=>dG h 19 x1 x5 fun v8=>aX h 19 v8 fun v9=>c (.func 16) [v7,v9] h <| pz K fun v10 h=>lJ v10 fun v11=>aH v11 (K (.bool false) h) (eG x5 (.int .i64 1) fun v12=>B14 x0 x1 v12 h)) (K (.bool true) h)
def TJ:G (Nat→H3):=fun c n=>
 @Nat.rec (fun _=>H3) (fun _ _ _ _ _=>false) (fun _ ih x0 x1 x5 h K=>Zq c n (fun x0 x1 x5 h=>ih x0 x1 x5 h K) x0 x1 x5 h K)
def aea:G H2:=fun c n x0 x1 h K=>
 TJ c n n x0 x1 (.int .i64 0) h K
def s7:G H2:=fun c n x0 x1 h K=>
 fI x0 fun v1=>fI x1 fun v2=>qO v1 v2 fun v3=>aH v3 (K (.bool false) h) (aea c n x0 x1 h K)
def s8:G H1:=fun c n x0 h K=>
 c (.func 17) [x0] h <| pz K fun v1 h=>K v1 h
def Y8:G H2:=fun c n x37 x39 h K=>
 gK x37 true (lJ x39) fun v31=>dA x37 v31 (.bool false) fun v32=>K v32 h
def Y5:G H2:=fun c n x37 x38 h K=>
 gP x37 true (fun k=>c (.func 8) [x38] h (pz K k)) h fun v30 h=>Y8 c n x37 v30 h K
def aag:G H2:=fun c n x31 x35 h K=>
 dA x31 x35 (.bool false) fun v28=>gP v28 true (fun k=>c (.func 4) [(.str [40,81,40,41,32,111,114,32,82,40,41,41])] h (pz K k)) h fun v29 h=>Y5 c n v28 v29 h K
def YL:G H1:=fun c n x5 h K=>
 lU 0 x5 fun v3=>lU 1 x5 fun v4=>dQ v4 (.int .i64 0) fun v5=>gK v5 true (bK (some v3)) fun v6=>gK v5 true (fI v6) fun v7=>gK v5 true (dQ v7 (.int .i64 4)) fun v8=>dA v5 v8 (.bool false) fun v9=>gK v9 true (bK (some v3)) fun v10=>gK v9 true (dG h 1 v10 (.int .i64 3)) fun v11=>gK v9 true (av h v11) fun v12=>gK v9 true (fI v12) fun v13=>gK v9 true (dQ v13 (.int .i64 3)) fun v14=>dA v9 v14 (.bool false) fun v15=>gK v15 true (bK (some v3)) fun v16=>gK v15 true (dG h 1 v16 (.int .i64 1)) fun v17=>gK v15 true (av h v17) fun v18=>gK v15 true (dG h 19 v18 (.int .i64 2)) fun v19=>gK v15 true (aA 2 v19) fun v20=>gK v15 true (av h v20) fun v21=>gK v15 true (dQ v21 (.str [84])) fun v22=>dA v15 v22 (.bool false) fun v23=>gK v23 true (bK (some v3)) fun v24=>gK v23 true (dG h 1 v24 (.int .i64 0)) fun v25=>gK v23 true (av h v25) fun v26=>gP v23 true (fun k=>c (.func 8) [v26] h (pz K k)) h fun v27 h=>aag c n v23 v27 h K
def aao:G H1:=fun c n x4 h K=>
 c (.func 6) [x4] h <| pz K fun v2 h=>YL c n v2 h K
def s9:G H0:=fun c n h K=>
 c (.func 4) [(.str [80,40,41,32,40,81,40,41,32,111,114,32,82,40,41,41,32,40,83,40,41,32,111,114,32,84,40,41,41])] h <| pz K fun v1 h=>aao c n v1 h K
def zu:G H3:=fun c n x2 x5 x11 h K=>
 lU 0 x11 fun v5=>lU 1 x11 fun v6=>qO v6 (.int .i64 0) fun v7=>aH v7 (dK zr8 [] fun v8=>aL h 3 x2 v8 fun h=>gI (fF h [(x2,some (true,3)),(v5,none),(v6,none)]) h K) (aX h 3 x5 fun v10=>aL h 3 x2 v10 fun h=>gI (fF h [(x2,some (true,3)),((.int .i64 0),none),((.int .i64 0),none)]) h K)
def s10:G H1:=fun c n x0 h K=>
 bL h zr8 3 fun v1 h=>bL h zr8 3 fun v2 h=>bK (some (.fn (.func 19) [] [v2])) fun v3=>c (.func 18) [x0,v3] h <| pz K fun v4 h=>zu c n v1 v2 v4 h K
def s12:G H1:=fun c n x0 h K=>
 lJ x0 fun v1=>aH v1 (dK [] [] fun v2=>bK (Pm 57 v2) fun v3=>aaQ K v3 h) (K (.tup []) h)
def FI:G H1:=fun c n x14 h K=>
 lJ x14 fun v9=>K v9 h
def s13:G H2:=fun c n x0 x1 h K=>
 Ct h x1 fun v1 h=>fI x0 fun v2=>Ca v2 (.int .i64 0) fun v3=>gK v3 true (av h v1) fun v4=>gK v3 true (Ca v4 (.int .i64 30)) fun v5=>dA v3 v5 (.bool false) fun v6=>aH v6 (K (.bool false) h) (bK (some (.fn (.func 22) [] [v1])) fun v7=>c (.func 21) [x0,v7] h <| pz K fun v8 h=>FI c n v8 h K)
def WT:G H1:=fun c n x3 h K=>
 bL h [.au] 1 fun v25 h=>bL h [.nilFn] 1 fun v26 h=>bK (some (.fn (.func 26) [] [x3,v26])) fun v27=>aV h v26 v27 fun h=>av h v26 fun v29=>bK (some (.fn (.func 28) [] [v25])) fun v30=>kR c v29 [(.int .i64 0), .au,v30] h <| pz K fun v31 h=>av h v25 fun v32=>K v32 h
def Qs:G (F5→H5):=fun c n B10 x3 x4 x9 x10 x11 h K=>
 jL x11 x10 fun v3=>aH v3 (dG h 19 x9 x11 fun v4=>aX h 19 v4 fun v5=>bL h wV 19 fun v6 h=>aL h 19 v6 v5 fun h=>av h x3 fun v8=>aX h 19 v6 fun v9=>c (.func 25) [v9] h <| pz K fun v10 h=>av h x3 <| bS v8 <| aQ (aO h 1 1 [.au] [(0,v10)]) fun v11 h=>av h x3 <| bS v8 <| aX h 19 v6 <| bS v9 <| jO h 1 24 v8 v11 fun v12 h=>aV h x3 v12 fun h=>av h x3 fun v14=>av h x3 fun v15=>fI v15 fun v16=>FE v16 (.int .i64 1) fun v17=>dG h 1 v14 v17 fun v18=>av h v18 fun v19=>fI v19 fun v20=>bK (dV .mul x4 v20) fun v21=>G7 v21 (.int .i64 512) fun v22=>c (.func 12) [v22] h <| pz K fun v23 h=>eG x11 (.int .i64 1) fun v24=>B10 x3 v21 x9 x10 v24 h) (WT c n x3 h K)
def Na:G (Nat→H5):=fun c n=>
 @Nat.rec (fun _=>H5) (fun _ _ _ _ _ _ _=>false) (fun _ ih x3 x4 x9 x10 x11 h K=>Qs c n (fun x3 x4 x9 x10 x11 h=>ih x3 x4 x9 x10 x11 h K) x3 x4 x9 x10 x11 h K)
def s14:G H1:=fun c n x0 h K=>
 bL h [.au] 1 fun v1 h=>fI x0 fun v2=>Na c n n v1 (.int .i64 1) x0 v2 (.int .i64 0) h K
def ER:G (F4→H5):=fun c n B8 x6 x7 x8 IV x14 h K=>
 aQ (aO h 1 19 wV [(0,x14)]) fun v9 h=>jO h 19 328 IV v9 fun v10 h=>eG x8 (.int .i64 1) fun v11=>B8 v10 x6 x7 v11 h
def Zl:G (F4→H4):=fun c n B8 x3 x6 x7 x8 h K=>
 jL x8 x7 fun v2=>aH v2 (dG h 19 x6 x8 fun v3=>aX h 19 v3 fun v4=>bL h wV 19 fun v5 h=>aL h 19 v5 v4 fun h=>aX h 19 v5 fun v7=>c (.func 30) [v7] h <| pz K fun v8 h=>ER c n B8 x6 x7 x8 x3 v8 h K) (K x3 h)
def UR:G (Nat→H4):=fun c n=>
 @Nat.rec (fun _=>H4) (fun _ _ _ _ _ _=>false) (fun _ ih x3 x6 x7 x8 h K=>Zl c n (fun x3 x6 x7 x8 h=>ih x3 x6 x7 x8 h K) x3 x6 x7 x8 h K)
def s15:G H1:=fun c n x0 h K=>
 fI x0 fun v1=>UR c n n .au x0 v1 (.int .i64 0) h K
def FQ:G H2:=fun c n x138 x143 h K=>
 dA x138 x143 (.bool false) fun aiZ=>K aiZ h
def FD:G H4:=fun c n x2 x3 x131 x136 h K=>
 dA x131 x136 (.bool false) fun ND=>gK ND true (aA 8 x2) fun v116=>gK ND true (aX h 8 v116) fun v117=>gK ND true (aA 8 x3) fun v118=>gK ND true (aX h 8 v118) fun v119=>gP ND true (fun k=>c (.func 31) [v117,v119] h (pz K k)) h fun v120 h=>FQ c n ND v120 h K
def Hu:G H4:=fun c n x2 x3 x124 x129 h K=>
 dA x124 x129 (.bool false) fun v109=>gK v109 true (aA 7 x2) fun acf=>gK v109 true (av h acf) fun abd=>gK v109 true (aA 7 x3) fun XY=>gK v109 true (av h XY) fun afn=>gP v109 true (fun k=>c (.func 33) [abd,afn] h (pz K k)) h fun abA h=>FD c n x2 x3 v109 abA h K
def Gv:G H4:=fun c n x2 x3 x117 x122 h K=>
 dA x117 x122 (.bool false) fun v103=>gK v103 true (aA 6 x2) fun v104=>gK v103 true (av h v104) fun v105=>gK v103 true (aA 6 x3) fun v106=>gK v103 true (av h v106) fun v107=>gP v103 true (fun k=>c (.func 7) [v105,v107] h (pz K k)) h fun ads h=>Hu c n x2 x3 v103 ads h K
def Gm:G H3:=fun c n x2 x3 x116 h K=>
 gK x116 true (aA 5 x2) fun v98=>gK x116 true (av h v98) fun v99=>gK x116 true (aA 5 x3) fun TV=>gK x116 true (av h TV) fun abO=>gP x116 true (fun k=>c (.func 7) [v99,abO] h (pz K k)) h fun v102 h=>Gv c n x2 x3 x116 v102 h K
def Qb:G H2:=fun c n x2 x3 h K=>
 aA 4 x2 fun v93=>av h v93 fun v94=>aA 4 x3 fun v95=>av h v95 fun v96=>c (.func 32) [v94,v96] h <| pz K fun v97 h=>Gm c n x2 x3 v97 h K
def Q9:G (F3→H3):=fun c n B35 x2 x3 x6 h K=>
 aA 18 x2 fun v62=>av h v62 fun v63=>fI v63 fun v64=>jL x6 v64 fun v65=>aH v65 (aA 18 x2 fun v66=>av h v66 fun v67=>dG h 9 v67 x6 fun v68=>aA 0 v68 fun v69=>av h v69 fun v70=>aA 18 x3 fun v71=>av h v71 fun v72=>dG h 9 v72 x6 fun v73=>aA 0 v73 fun v74=>av h v74 fun v75=>qO v70 v75 fun v76=>gK v76 false (aA 18 x2) fun v77=>gK v76 false (av h v77) fun v78=>gK v76 false (bK (some x6)) fun v79=>gK v76 false (dG h 9 v78 v79) fun v80=>gK v76 false (aA 1 v80) fun v81=>gK v76 false (aX h 8 v81) fun v82=>gK v76 false (aA 18 x3) fun v83=>gK v76 false (av h v83) fun v84=>gK v76 false (bK (some x6)) fun v85=>gK v76 false (dG h 9 v84 v85) fun v86=>gK v76 false (aA 1 v86) fun v87=>gK v76 false (aX h 8 v87) fun v88=>gP v76 false (fun k=>c (.func 31) [v82,v88] h (pz K k)) h fun v89 h=>gK v76 false (lJ v89) fun v90=>dA v76 (.bool true) v90 fun v91=>aH v91 (K (.bool false) h) (eG x6 (.int .i64 1) fun v92=>B35 x2 x3 v92 h)) (Qb c n x2 x3 h K)
def KG:G (Nat→H3):=fun c n=>
 @Nat.rec (fun _=>H3) (fun _ _ _ _ _=>false) (fun _ ih x2 x3 x6 h K=>Q9 c n (fun x2 x3 x6 h=>ih x2 x3 x6 h K) x2 x3 x6 h K)
def SG:G H2:=fun c n x2 x3 h K=>
 KG c n n x2 x3 (.int .i64 0) h K
def Sq:G (F3→H3):=fun c n B14 x2 x3 x5 h K=>
 aA 3 x2 fun v48=>av h v48 fun v49=>fI v49 fun v50=>jL x5 v50 fun v51=>aH v51 (aA 3 x2 fun v52=>av h v52 fun v53=>dG h 2 v53 x5 fun v54=>aX h 2 v54 fun v55=>aA 3 x3 fun v56=>av h v56 fun v57=>dG h 2 v57 x5 fun v58=>aX h 2 v58 fun v59=>bK (Ja h true (.agg [.str, .str]) v55 v59) fun v60=>aH v60 (K (.bool false) h) (eG x5 (.int .i64 1) fun v61=>B14 x2 x3 v61 h)) (SG c n x2 x3 h K)
def Lr:G (Nat→H3):=fun c n=>
 @Nat.rec (fun _=>H3) (fun _ _ _ _ _=>false) (fun _ ih x2 x3 x5 h K=>Sq c n (fun x2 x3 x5 h=>ih x2 x3 x5 h K) x2 x3 x5 h K)
def Xd:G H2:=fun c n x2 x3 h K=>
 Lr c n n x2 x3 (.int .i64 0) h K
set_option maxRecDepth 100000 in
def s16:G H2:=fun c n x0 x1 h K=>
 aQ (mo h (none) 19 x0) fun v1 h=>aQ (mo h (none) 19 x1) fun v2 h=>aA 0 v1 fun v3=>av h v3 fun v4=>aA 0 v2 fun v5=>av h v5 fun v6=>qO v4 v6 fun v7=>gK v7 false (aA 1 v1) fun v8=>gK v7 false (av h v8) fun v9=>gK v7 false (aA 1 v2) fun v10=>gK v7 false (av h v10) fun v11=>gK v7 false (qO v9 v11) fun v12=>dA v7 (.bool true) v12 fun v13=>gK v13 false (aA 2 v1) fun v14=>gK v13 false (av h v14) fun v15=>gK v13 false (aA 2 v2) fun v16=>gK v13 false (av h v16) fun v17=>gK v13 false (qO v15 v17) fun v18=>dA v13 (.bool true) v18 fun v19=>gK v19 false (aA 16 v1) fun v20=>gK v19 false (av h v20) fun v21=>gK v19 false (aA 16 v2) fun v22=>gK v19 false (av h v22) fun v23=>gK v19 false (qO v21 v23) fun v24=>dA v19 (.bool true) v24 fun v25=>gK v25 false (aA 17 v1) fun v26=>gK v25 false (av h v26) fun v27=>gK v25 false (aA 17 v2) fun v28=>gK v25 false (av h v28) fun v29=>gK v25 false (qO v27 v29) fun v30=>dA v25 (.bool true) v30 fun v31=>gK v31 false (aA 3 v1) fun v32=>gK v31 false (av h v32) fun v33=>gK v31 false (fI v33) fun v34=>gK v31 false (aA 3 v2) fun v35=>gK v31 false (av h v35) fun v36=>gK v31 false (fI v36) fun v37=>gK v31 false (qO v34 v37) fun v38=>dA v31 (.bool true) v38 fun v39=>gK v39 false (aA 18 v1) fun v40=>gK v39 false (av h v40) fun v41=>gK v39 false (fI v41) fun v42=>gK v39 false (aA 18 v2) fun v43=>gK v39 false (av h v43) fun v44=>gK v39 false (fI v44) fun v45=>gK v39 false (qO v42 v45) fun v46=>dA v39 (.bool true) v46 fun v47=>aH v47 (K (.bool false) h) (Xd c n v1 v2 h K)
def Fv:G (F3→F6→H7):=fun c n B6 B28 x7 x8 x9 x34 x35 x36 x41 h K=>
 lJ x41 fun v31=>aH v31 (K (.bool false) h) (eG x36 (.int .i64 1) fun v32=>B28 x7 x8 x9 x34 x35 v32 h)
def Xy:G (F3→H3):=fun c n B6 x7 x8 x9 h K=>
 eG x9 (.int .i64 1) fun v33=>B6 x7 x8 v33 h
def PV:G (F3→F6→H6):=fun c n B6 B28 x7 x8 x9 x34 x35 x36 h K=>
 jL x36 x35 fun v27=>aH v27 (dG h 1 x34 x36 fun v28=>av h v28 fun v29=>c (.func 17) [v29] h <| pz K fun v30 h=>Fv c n B6 B28 x7 x8 x9 x34 x35 x36 v30 h K) (Xy c n B6 x7 x8 x9 h K)
def JK:G (F3→Nat→H6):=fun c n B6=>
 @Nat.rec (fun _=>H6) (fun _ _ _ _ _ _ _ _=>false) (fun _ ih x7 x8 x9 x34 x35 x36 h K=>PV c n B6 (fun x7 x8 x9 x34 x35 x36 h=>ih x7 x8 x9 x34 x35 x36 h K) x7 x8 x9 x34 x35 x36 h K)
def Wo:G (F3→H4):=fun c n B6 x4 x7 x8 x9 h K=>
 aA 7 x4 fun v24=>av h v24 fun v25=>fI v25 fun v26=>JK c n B6 n x7 x8 x9 v25 v26 (.int .i64 0) h K
def tJ:G (F3→H6):=fun c n B6 x4 x7 x8 x9 x27 x30 h K=>
 gK x27 false (lJ x30) fun v22=>dA x27 (.bool true) v22 fun v23=>aH v23 (K (.bool false) h) (Wo c n B6 x4 x7 x8 x9 h K)
def wo:G (F3→H6):=fun c n B6 x4 x7 x8 x9 x21 x24 h K=>
 gK x21 false (lJ x24) fun v17=>dA x21 (.bool true) v17 fun v18=>gK v18 false (aA 6 x4) fun v19=>gK v18 false (av h v19) fun v20=>gP v18 false (fun k=>c (.func 17) [v20] h (pz K k)) h fun v21 h=>tJ c n B6 x4 x7 x8 x9 v18 v21 h K
def Yl:G (F3→H3):=fun c n B6 x7 x8 x9 h K=>
 dG h 19 x7 x9 fun v3=>aX h 19 v3 fun v4=>bL h wV 19 fun v5 h=>aL h 19 v5 v4 fun h=>aA 0 v5 fun v7=>av h v7 fun v8=>dQ v8 (.int .i64 4) fun v9=>gK v9 false (aA 0 v5) fun v10=>gK v9 false (av h v10) fun v11=>gK v9 false (dQ v11 (.int .i64 5)) fun v12=>dA v9 (.bool true) v12 fun v13=>gK v13 false (aA 5 v5) fun v14=>gK v13 false (av h v14) fun v15=>gP v13 false (fun k=>c (.func 17) [v15] h (pz K k)) h fun v16 h=>wo c n B6 v5 x7 x8 x9 v13 v16 h K
def YO:G (F3→H3):=fun c n B6 x7 x8 x9 h K=>
 jL x9 x8 fun v2=>aH v2 (Yl c n B6 x7 x8 x9 h K) (K (.bool true) h)
def Pe:G (Nat→H3):=fun c n=>
 @Nat.rec (fun _=>H3) (fun _ _ _ _ _=>false) (fun _ ih x7 x8 x9 h K=>YO c n (fun x7 x8 x9 h=>ih x7 x8 x9 h K) x7 x8 x9 h K)
def s17:G H1:=fun c n x0 h K=>
 fI x0 fun v1=>Pe c n n x0 v1 (.int .i64 0) h K
def AL:G H1:=fun c n x21 h K=>
 lU 0 x21 fun v8=>lU 1 x21 fun v9=>K (.tup [v8,v9]) h
def DF:G H3:=fun c n x0 x1 x9 h K=>
 lU 0 x9 fun v2=>lU 1 x9 fun v3=>lU 2 x9 fun v4=>qO v4 (.int .i64 0) fun v5=>aH v5 (K (.tup [v3,v4]) h) (pE x0 fun v6=>c (.func 35) [v2,v6,x1] h <| pz K fun v7 h=>AL c n v7 h K)
def s18:G H2:=fun c n x0 x1 h K=>
 c (.func 34) [x0] h <| pz K fun v1 h=>DF c n x0 x1 v1 h K
def JO:G H2:=fun c n x1 x4 h K=>
 aL h 3 x1 x4 fun h=>K (.tup []) h
def s19:G H2:=fun c n x0 x1 h K=>
 c (.func 20) [x0] h <| pz K fun v1 h=>JO c n x1 v1 h K
def WY:G H2:=fun c n x2 x3 h K=>
 aX h 3 x3 fun v36=>aL h 3 x2 v36 fun h=>gI (fF h [(x2,some (true,3))]) h K
set_option maxRecDepth 100000 in
def Za:G (F3→H3):=fun c n B6 x0 x2 x3 h K=>
 bD x0 fun v3=>aA 1 v3 fun v4=>av h v4 fun v5=>bD x0 fun v6=>aA 0 v6 fun v7=>av h v7 fun v8=>fI v8 fun v9=>jL v5 v9 fun v10=>aH v10 (c (.func 36) [x0,(.str [99,108,97,115,115])] h <| pz K fun v11 h=>aH v11 (aA 0 x3 fun v12=>av h v12 fun v13=>c (.func 37) [x0] h <| pz K fun v14 h=>av h v12 <| bS v13 <| aQ (aO h 1 3 afp [(0,v14)]) fun v15 h=>av h v12 <| bS v13 <| jO h 3 56 v13 v15 fun v16 h=>aA 0 x3 fun v17=>aV h v17 v16 fun h=>B6 x0 x2 x3 h) (c (.func 36) [x0,(.str [114,117,108,101])] h <| pz K fun v19 h=>aH v19 (aA 1 x3 fun v20=>av h v20 fun v21=>c (.func 38) [x0] h <| pz K fun v22 h=>av h v20 <| bS v21 <| aQ (aO h 1 8 zr7 [(0,v22)]) fun v23 h=>av h v20 <| bS v21 <| jO h 8 112 v21 v23 fun v24 h=>aA 1 x3 fun v25=>aV h v25 v24 fun h=>B6 x0 x2 x3 h) (aQ (aO h 1 1 [.str []] [(0,(.str [113,117,101,114,121]))]) fun v27 h=>c (.func 39) [x0,v27] h <| pz K fun v28 h=>aA 2 x3 fun v29=>av h v29 fun v30=>c (.func 40) [x0] h <| pz K fun v31 h=>av h v29 <| bS v30 <| aQ (aO h 1 3 af4 [(0,v31)]) fun v32 h=>av h v29 <| bS v30 <| jO h 3 64 v30 v32 fun v33 h=>aA 2 x3 fun v34=>aV h v34 v33 fun h=>B6 x0 x2 x3 h))) (WY c n x2 x3 h K)
def VN:G (Nat→H3):=fun c n=>
 @Nat.rec (fun _=>H3) (fun _ _ _ _ _=>false) (fun _ ih x0 x2 x3 h K=>Za c n (fun x0 x2 x3 h=>ih x0 x2 x3 h K) x0 x2 x3 h K)
def s20:G H1:=fun c n x0 h K=>
 bL h zr8 3 fun v1 h=>bL h zr8 3 fun v2 h=>VN c n n x0 v1 v2 h K
def Um:G H1:=fun c n x7 h K=>
 CF x7 (.int .i64 0) fun v2=>K v2 h
def s21:G H2:=fun c n x0 x1 h K=>
 c (.func 41) [x0,x1] h <| pz K fun v1 h=>Um c n v1 h K
def DK:G H2:=fun c n x18 x22 h K=>
 dA x18 (.bool true) x22 fun v19=>K v19 h
def Dy:G H4:=fun c n x1 x2 x10 Fg h K=>
 gK x10 false (lJ Fg) fun v13=>dA x10 (.bool true) v13 fun v14=>gK v14 false (aA 7 x2) fun v15=>gK v14 false (av h v15) fun v16=>gK v14 false (bK (some (.fn (.func 24) [] [x1]))) fun v17=>gP v14 false (fun k=>c (.func 23) [v16,v17] h (pz K k)) h fun v18 h=>DK c n v14 v18 h K
def Kl:G H3:=fun c n x1 x2 x8 h K=>
 lJ x8 fun v7=>gK v7 false (aA 6 x2) fun v8=>gK v7 false (av h v8) fun v9=>gK v7 false (av h x1) fun v10=>gK v7 false (eG v10 (.int .i64 1)) fun v11=>gP v7 false (fun k=>c (.func 13) [v9,v11] h (pz K k)) h fun v12 h=>Dy c n x1 x2 v7 v12 h K
def s22:G H2:=fun c n x0 x1 h K=>
 aQ (mo h (none) 19 x0) fun v1 h=>aA 5 v1 fun v2=>av h v2 fun v3=>av h x1 fun v4=>eG v4 (.int .i64 1) fun v5=>c (.func 13) [v3,v5] h <| pz K fun v6 h=>Kl c n x1 v1 v6 h K
def Uk:G H1:=fun c n x7 h K=>
 CF x7 (.int .i64 0) fun v2=>K v2 h
def s23:G H2:=fun c n x0 x1 h K=>
 c (.func 42) [x0,x1] h <| pz K fun v1 h=>Uk c n v1 h K
def TK:G H1:=fun c n x7 h K=>
 lJ x7 fun v4=>K v4 h
def s24:G H2:=fun c n x0 x1 h K=>
 av h x1 fun v1=>eG v1 (.int .i64 1) fun v2=>c (.func 13) [x0,v2] h <| pz K fun v3 h=>TK c n v3 h K
def Gl:G H1:=fun c n x19 h K=>
 aQ (aO h 1 1 [.au] [(0,x19)]) fun v9 h=>K v9 h
def FU:G H1:=fun c n x18 h K=>
 c (.func 43) [x18] h <| pz K fun v8 h=>Gl c n v8 h K
def Gg:G H1:=fun c n x37 h K=>
 aQ (aO h 1 19 wV [(0,x37)]) fun v23 h=>aQ (aO h 1 1 [.au] [(0,v23)]) fun v24 h=>K v24 h
def EU:G H1:=fun c n x36 h K=>
 c (.func 44) [x36] h <| pz K fun v22 h=>Gg c n v22 h K
def Gu:G (F5→H6):=fun c n B39 x4 x48 x49 x50 x54 x58 h K=>
 aQ (aO h 1 19 wV [(0,x58)]) fun v39 h=>jO h 19 328 x54 v39 fun v40 h=>eG x50 (.int .i64 1) fun v41=>B39 x4 v40 x48 x49 v41 h
def Gc:G (F5→H6):=fun c n B39 x4 x48 x49 x50 x54 x57 h K=>
 c (.func 44) [x57] h <| pz K fun v38 h=>Gu c n B39 x4 x48 x49 x50 x54 v38 h K
def Wz:G H1:=fun c n x5 h K=>
 aQ (aO h 1 1 [.au] [(0,x5)]) fun v42 h=>K v42 h
def QI:G (F5→H5):=fun c n B39 x4 x5 x48 x49 x50 h K=>
 jL x50 x49 fun v34=>aH v34 (dG h 1 x48 x50 fun v35=>av h v35 fun v36=>c (.func 27) [v36,x4] h <| pz K fun v37 h=>Gc c n B39 x4 x48 x49 x50 x5 v37 h K) (Wz c n x5 h K)
def Ld:G (Nat→H5):=fun c n=>
 @Nat.rec (fun _=>H5) (fun _ _ _ _ _ _ _=>false) (fun _ ih x4 x5 x48 x49 x50 h K=>QI c n (fun x4 x5 x48 x49 x50 h=>ih x4 x5 x48 x49 x50 h K) x4 x5 x48 x49 x50 h K)
def Gn:G H3:=fun c n x4 x5 x48 h K=>
 fI x48 fun v33=>Ld c n n x4 x5 x48 v33 (.int .i64 0) h K
def FM:G H2:=fun c n x1 x44 h K=>
 c (.func 43) [x44] h <| pz K fun v29 h=>aA 5 x1 fun v30=>av h v30 fun v31=>c (.func 14) [v31] h <| pz K fun v32 h=>Gn c n v29 .au v32 h K
def JF:G H1:=fun c n x1 h K=>
 aX h 19 x1 fun v54=>aQ (aO h 1 19 wV [(0,v54)]) fun v55 h=>aQ (aO h 1 1 [.au] [(0,v55)]) fun v56 h=>K v56 h
def ES:G (F4→H5):=fun c n B72 x80 x81 x82 x86 x88 h K=>
 jO h 1 24 x86 x88 fun v65 h=>fI v65 fun v66=>G7 v66 (.int .i64 512) fun v67=>c (.func 12) [v67] h <| pz K fun v68 h=>eG x82 (.int .i64 1) fun v69=>B72 v65 x80 x81 v69 h
def RO:G (F4→H4):=fun c n B72 x9 x80 x81 x82 h K=>
 jL x82 x81 fun v61=>aH v61 (dG h 1 x80 x82 fun v62=>av h v62 fun v63=>c (.func 14) [v63] h <| pz K fun v64 h=>ES c n B72 x80 x81 x82 x9 v64 h K) (K x9 h)
def Mv:G (Nat→H4):=fun c n=>
 @Nat.rec (fun _=>H4) (fun _ _ _ _ _ _=>false) (fun _ ih x9 x80 x81 x82 h K=>RO c n (fun x9 x80 x81 x82 h=>ih x9 x80 x81 x82 h K) x9 x80 x81 x82 h K)
set_option maxRecDepth 100000 in
def s25:G H1:=fun c n x0 h K=>
 aQ (mo h (none) 19 x0) fun v1 h=>aA 0 v1 fun v2=>av h v2 fun v3=>dQ v3 (.int .i64 2) fun v4=>aH v4 (aA 5 v1 fun v5=>av h v5 fun v6=>c (.func 14) [v6] h <| pz K fun v7 h=>FU c n v7 h K) (dQ v3 (.int .i64 3) fun v10=>aH v10 (aA 5 v1 fun v11=>av h v11 fun v12=>c (.func 14) [v12] h <| pz K fun v13 h=>fI v13 fun v14=>dQ v14 (.int .i64 1) fun v15=>aH v15 (dG h 1 v13 (.int .i64 0) fun v16=>av h v16 fun v17=>dK wV [(0,1,(.int .i64 3)),(5,1,v17)] fun v18=>aQ (aO h 1 19 wV [(0,v18)]) fun v19 h=>aQ (aO h 1 1 [.au] [(0,v19)]) fun v20 h=>K v20 h) (c (.func 43) [v13] h <| pz K fun v21 h=>EU c n v21 h K)) (dQ v3 (.int .i64 4) fun v25=>aH v25 (aA 6 v1 fun v26=>av h v26 fun v27=>c (.func 14) [v27] h <| pz K fun v28 h=>FM c n v1 v28 h K) (dQ v3 (.int .i64 7) fun v43=>aH v43 (aA 5 v1 fun v44=>av h v44 fun v45=>c (.func 14) [v45] h <| pz K fun v46 h=>fI v46 fun v47=>dQ v47 (.int .i64 1) fun v48=>c (.func 12) [v48] h <| pz K fun v49 h=>dG h 1 v46 (.int .i64 0) fun v50=>av h v50 fun v51=>aA 5 v1 fun v52=>aV h v52 v51 fun h=>JF c n v1 h K) (dQ v3 (.int .i64 5) fun v57=>aH v57 (aA 7 v1 fun v58=>av h v58 fun v59=>fI v59 fun v60=>Mv c n n .au v59 v60 (.int .i64 0) h K) (JF c n v1 h K)))))
def PX:G (F7→H7):=fun c n B11 x0 x1 x2 x4 x20 x21 x22 h K=>
 jL x22 x21 fun v9=>aH v9 (dG h 1 x20 x22 fun v10=>av h v10 fun v11=>av h x4 fun v12=>eG x0 (.int .i64 1) fun v13=>c (.func 27) [x1,v11] h <| pz K fun v14 h=>av h x4 <| bS v12 <| kR c v12 [v13,v14,x2] h <| pz K fun v15 h=>eG x22 (.int .i64 1) fun v16=>B11 x0 x1 x2 x4 x20 x21 v16 h) (K (.tup []) h)
def Gr:G (Nat→H7):=fun c n=>
 @Nat.rec (fun _=>H7) (fun _ _ _ _ _ _ _ _ _=>false) (fun _ ih x0 x1 x2 x4 x20 x21 x22 h K=>PX c n (fun x0 x1 x2 x4 x20 x21 x22 h=>ih x0 x1 x2 x4 x20 x21 x22 h K) x0 x1 x2 x4 x20 x21 x22 h K)
def ad8:G H5:=fun c n x0 x1 x2 x3 x4 h K=>
 av h x3 fun v5=>dG h 1 v5 x0 fun v6=>av h v6 fun v7=>fI v7 fun v8=>Gr c n n x0 x1 x2 x4 v7 v8 (.int .i64 0) h K
def s26:G H5:=fun c n x0 x1 x2 x3 x4 h K=>
 av h x3 fun v1=>fI v1 fun v2=>dQ x0 v2 fun v3=>aH v3 (kR c x2 [x1] h <| pz K fun v4 h=>K (.tup []) h) (ad8 c n x0 x1 x2 x3 x4 h K)
def Nj:G H2:=fun c n x1 x6 h K=>
 jO h 19 328 x6 x1 fun v2 h=>K v2 h
def s27:G H2:=fun c n x0 x1 h K=>
 c (.func 45) [x0] h <| pz K fun v1 h=>Nj c n x1 v1 h K
def Li:G H3:=fun c n x0 x1 x4 h K=>
 G7 x4 (.int .i64 64) fun v2=>c (.func 12) [v2] h <| pz K fun v3 h=>av h x1 fun v4=>aQ (aO h 1 1 [.au] [(0,x0)]) fun v5 h=>jO h 1 24 v4 v5 fun v6 h=>aV h x1 v6 fun h=>K (.tup []) h
def s28:G H2:=fun c n x0 x1 h K=>
 c (.func 29) [x0] h <| pz K fun v1 h=>Li c n x0 x1 v1 h K
def EJ:G (F4→F7→H8):=fun c n B8 B24 x8 x9 x10 x25 UU x27 x31 x33 h K=>
 eG x31 x33 fun v23=>eG x27 (.int .i64 1) fun v24=>B24 v23 x8 x9 x10 x25 UU v24 h
def VR:G (F4→H4):=fun c n B8 x3 x8 x9 x10 h K=>
 eG x10 (.int .i64 1) fun v25=>B8 x3 x8 x9 v25 h
def PO:G (F4→F7→H7):=fun c n B8 B24 x3 x8 x9 x10 x25 UU x27 h K=>
 jL x27 UU fun v19=>aH v19 (dG h 1 x25 x27 fun v20=>av h v20 fun v21=>c (.func 29) [v21] h <| pz K fun v22 h=>EJ c n B8 B24 x8 x9 x10 x25 UU x27 x3 v22 h K) (VR c n B8 x3 x8 x9 x10 h K)
def KX:G (F4→Nat→H7):=fun c n B8=>
 @Nat.rec (fun _=>H7) (fun _ _ _ _ _ _ _ _ _=>false) (fun _ ih x3 x8 x9 x10 x25 UU x27 h K=>PO c n B8 (fun x3 x8 x9 x10 x25 UU x27 h=>ih x3 x8 x9 x10 x25 UU x27 h K) x3 x8 x9 x10 x25 UU x27 h K)
def Yh:G (F4→H4):=fun c n B8 x3 x8 x9 x10 h K=>
 dG h 19 x8 x10 fun v3=>aX h 19 v3 fun v4=>bL h wV 19 fun v5 h=>aL h 19 v5 v4 fun h=>aA 5 v5 fun v7=>av h v7 fun v8=>aA 6 v5 fun v9=>av h v9 fun v10=>c (.func 29) [v8] h <| pz K fun v11 h=>av h v9 <| bS v10 <| eG (.int .i64 1) v11 fun v12=>c (.func 29) [v10] h <| pz K fun v13 h=>eG v12 v13 fun v14=>eG x3 v14 fun v15=>aA 7 v5 fun v16=>av h v16 fun v17=>fI v17 fun v18=>KX c n B8 n v15 x8 x9 x10 v17 v18 (.int .i64 0) h K
def Zg:G (F4→H4):=fun c n B8 x3 x8 x9 x10 h K=>
 jL x10 x9 fun v2=>aH v2 (Yh c n B8 x3 x8 x9 x10 h K) (K x3 h)
def Oq:G (Nat→H4):=fun c n=>
 @Nat.rec (fun _=>H4) (fun _ _ _ _ _ _=>false) (fun _ ih x3 x8 x9 x10 h K=>Zg c n (fun x3 x8 x9 x10 h=>ih x3 x8 x9 x10 h K) x3 x8 x9 x10 h K)
def s29:G H1:=fun c n x0 h K=>
 fI x0 fun v1=>Oq c n n (.int .i64 0) x0 v1 (.int .i64 0) h K
def Wq:G H2:=fun c n x2 x3 h K=>
 aX h 19 x3 fun v84=>aL h 19 x2 v84 fun h=>gI (fF h [(x2,some (true,19))]) h K
def Qq:G (F5→H5):=fun c n B48 x2 x3 x65 x66 x67 h K=>
 jL x67 x66 fun v73=>aH v73 (dG h 1 x65 x67 fun v74=>av h v74 fun v75=>aA 7 x3 fun v76=>av h v76 fun v77=>c (.func 15) [v75] h <| pz K fun v78 h=>av h v76 <| bS v77 <| aQ (aO h 1 1 [.au] [(0,v78)]) fun v79 h=>av h v76 <| bS v77 <| jO h 1 24 v77 v79 fun v80 h=>aA 7 x3 fun v81=>aV h v81 v80 fun h=>eG x67 (.int .i64 1) fun v83=>B48 x2 x3 x65 x66 v83 h) (Wq c n x2 x3 h K)
def Mi:G (Nat→H5):=fun c n=>
 @Nat.rec (fun _=>H5) (fun _ _ _ _ _ _ _=>false) (fun _ ih x2 x3 x65 x66 x67 h K=>Qq c n (fun x2 x3 x65 x66 x67 h=>ih x2 x3 x65 x66 x67 h K) x2 x3 x65 x66 x67 h K)
def XT:G H3:=fun c n x1 x2 x3 h K=>
 aA 7 x1 fun v70=>av h v70 fun v71=>fI v71 fun v72=>Mi c n n x2 x3 v71 v72 (.int .i64 0) h K
def Qr:G (F6→H6):=fun c n B31 x1 x2 x3 Xu x47 x48 h K=>
 jL x48 x47 fun v52=>aH v52 (dG h 9 Xu x48 fun v53=>aX h 9 v53 fun v54=>bL h zr3 9 fun v55 h=>aL h 9 v55 v54 fun h=>aA 18 x3 fun v57=>av h v57 fun v58=>aA 0 v55 fun v59=>av h v59 fun v60=>aA 1 v55 fun v61=>aX h 8 v61 fun v62=>c (.func 47) [v62] h <| pz K fun v63 h=>av h v57 <| bS v58 <| av h v59 <| bS v60 <| dK zr3 [(0,1,v60),(1,8,v63)] fun v64=>aQ (aO h 1 9 zr3 [(0,v64)]) fun v65 h=>av h v57 <| bS v58 <| av h v59 <| bS v60 <| aX h 8 v61 <| bS v62 <| jO h 9 128 v58 v65 fun v66 h=>aA 18 x3 fun v67=>aV h v67 v66 fun h=>eG x48 (.int .i64 1) fun v69=>B31 x1 x2 x3 Xu x47 v69 h) (XT c n x1 x2 x3 h K)
def Np:G (Nat→H6):=fun c n=>
 @Nat.rec (fun _=>H6) (fun _ _ _ _ _ _ _ _=>false) (fun _ ih x1 x2 x3 Xu x47 x48 h K=>Qr c n (fun x1 x2 x3 Xu x47 x48 h=>ih x1 x2 x3 Xu x47 x48 h K) x1 x2 x3 Xu x47 x48 h K)
def Xx:G H3:=fun c n x1 x2 x3 h K=>
 aA 18 x1 fun v49=>av h v49 fun v50=>fI v50 fun v51=>Np c n n x1 x2 x3 v50 v51 (.int .i64 0) h K
def Rv:G (F6→H6):=fun c n B14 x1 x2 x3 x31 x32 x33 h K=>
 jL x33 x32 fun v35=>aH v35 (dG h 8 x31 x33 fun v36=>aX h 8 v36 fun v37=>bL h SQ 8 fun v38 h=>aL h 8 v38 v37 fun h=>aA 4 x3 fun v40=>av h v40 fun v41=>aX h 8 v38 fun v42=>c (.func 47) [v42] h <| pz K fun v43 h=>av h v40 <| bS v41 <| aQ (aO h 1 8 SQ [(0,v43)]) fun v44 h=>av h v40 <| bS v41 <| aX h 8 v38 <| bS v42 <| jO h 8 112 v41 v44 fun v45 h=>aA 4 x3 fun v46=>aV h v46 v45 fun h=>eG x33 (.int .i64 1) fun v48=>B14 x1 x2 x3 x31 x32 v48 h) (Xx c n x1 x2 x3 h K)
def JV:G (Nat→H6):=fun c n=>
 @Nat.rec (fun _=>H6) (fun _ _ _ _ _ _ _ _=>false) (fun _ ih x1 x2 x3 x31 x32 x33 h K=>Rv c n (fun x1 x2 x3 x31 x32 x33 h=>ih x1 x2 x3 x31 x32 x33 h K) x1 x2 x3 x31 x32 x33 h K)
def s30:G H1:=fun c n x0 h K=>
 aQ (mo h (none) 19 x0) fun v1 h=>bL h wV 19 fun v2 h=>aX h 19 v1 fun v3=>bL h wV 19 fun v4 h=>aL h 19 v4 v3 fun h=>aA 3 v1 fun v6=>av h v6 fun v7=>aA 8 v1 fun v8=>aX h 8 v8 fun v9=>c (.func 46) [v7] h <| pz K fun v10 h=>aX h 8 v8 <| bS v9 <| aA 3 v4 fun v11=>c (.func 47) [v9] h <| pz K fun v12 h=>aV h v11 v10 fun h=>aA 8 v4 fun v14=>aL h 8 v14 v12 fun h=>aA 4 v4 fun v16=>aV h v16 .au fun h=>aA 18 v4 fun v18=>aV h v18 .au fun h=>aA 7 v4 fun v20=>aV h v20 .au fun h=>aA 5 v1 fun v22=>av h v22 fun v23=>aA 6 v1 fun v24=>av h v24 fun v25=>c (.func 15) [v23] h <| pz K fun v26 h=>av h v24 <| bS v25 <| aA 5 v4 fun v27=>c (.func 15) [v25] h <| pz K fun v28 h=>aV h v27 v26 fun h=>aA 6 v4 fun v30=>aV h v30 v28 fun h=>aA 4 v1 fun v32=>av h v32 fun v33=>fI v33 fun v34=>JV c n n v1 v2 v4 v33 v34 (.int .i64 0) h K
def L6:G H2:=fun c n x24 x29 h K=>
 dA x24 x29 (.bool false) fun v25=>K v25 h
def LK:G H4:=fun c n x2 x3 x17 x22 h K=>
 dA x17 x22 (.bool false) fun v19=>gK v19 true (aA 7 x2) fun v20=>gK v19 true (av h v20) fun v21=>gK v19 true (aA 7 x3) fun v22=>gK v19 true (av h v22) fun v23=>gP v19 true (fun k=>c (.func 32) [v21,v23] h (pz K k)) h fun v24 h=>L6 c n v19 v24 h K
def s31:G H2:=fun c n x0 x1 h K=>
 aQ (mo h (none) 8 x0) fun v1 h=>aQ (mo h (none) 8 x1) fun v2 h=>aA 0 v1 fun v3=>av h v3 fun v4=>aA 0 v2 fun v5=>av h v5 fun v6=>dQ v4 v6 fun v7=>gK v7 true (aA 1 v1) fun v8=>gK v7 true (av h v8) fun v9=>gK v7 true (aA 1 v2) fun v10=>gK v7 true (av h v10) fun v11=>gK v7 true (dQ v9 v11) fun v12=>dA v7 v12 (.bool false) fun v13=>gK v13 true (aA 2 v1) fun v14=>gK v13 true (aX h 5 v14) fun v15=>gK v13 true (aA 2 v2) fun v16=>gK v13 true (aX h 5 v16) fun v17=>gP v13 true (fun k=>c (.func 48) [v15,v17] h (pz K k)) h fun v18 h=>LK c n v1 v2 v13 v18 h K
def Rm:G (F3→H3):=fun c n B14 x0 x1 x5 h K=>
 fI x0 fun v4=>jL x5 v4 fun v5=>aH v5 (dG h 8 x0 x5 fun v6=>aX h 8 v6 fun v7=>dG h 8 x1 x5 fun v8=>aX h 8 v8 fun v9=>c (.func 31) [v7,v9] h <| pz K fun v10 h=>lJ v10 fun v11=>aH v11 (K (.bool false) h) (eG x5 (.int .i64 1) fun v12=>B14 x0 x1 v12 h)) (K (.bool true) h)
def MW:G (Nat→H3):=fun c n=>
 @Nat.rec (fun _=>H3) (fun _ _ _ _ _=>false) (fun _ ih x0 x1 x5 h K=>Rm c n (fun x0 x1 x5 h=>ih x0 x1 x5 h K) x0 x1 x5 h K)
def VW:G H2:=fun c n x0 x1 h K=>
 MW c n n x0 x1 (.int .i64 0) h K
def s32:G H2:=fun c n x0 x1 h K=>
 fI x0 fun v1=>fI x1 fun v2=>qO v1 v2 fun v3=>aH v3 (K (.bool false) h) (VW c n x0 x1 h K)
def QY:G (F3→H3):=fun c n B14 x0 x1 x5 h K=>
 fI x0 fun v4=>jL x5 v4 fun v5=>aH v5 (dG h 1 x0 x5 fun v6=>av h v6 fun v7=>dG h 1 x1 x5 fun v8=>av h v8 fun v9=>c (.func 7) [v7,v9] h <| pz K fun v10 h=>lJ v10 fun v11=>aH v11 (K (.bool false) h) (eG x5 (.int .i64 1) fun v12=>B14 x0 x1 v12 h)) (K (.bool true) h)
def JL:G (Nat→H3):=fun c n=>
 @Nat.rec (fun _=>H3) (fun _ _ _ _ _=>false) (fun _ ih x0 x1 x5 h K=>QY c n (fun x0 x1 x5 h=>ih x0 x1 x5 h K) x0 x1 x5 h K)
def V8:G H2:=fun c n x0 x1 h K=>
 JL c n n x0 x1 (.int .i64 0) h K
def s33:G H2:=fun c n x0 x1 h K=>
 fI x0 fun v1=>fI x1 fun v2=>qO v1 v2 fun v3=>aH v3 (K (.bool false) h) (V8 c n x0 x1 h K)
def Oc:G H1:=fun c n x9 h K=>
 lU 0 x9 fun v4=>lU 1 x9 fun v5=>lU 2 x9 fun v6=>K (.tup [v4,v5,v6]) h
def s34:G H1:=fun c n x0 h K=>
 pE x0 fun v1=>Ca v1 (.int .i64 65536) fun v2=>aH v2 (K (.tup [.au,(.int .i64 0),(.int .i64 21)]) h) (c (.func 49) [x0] h <| pz K fun v3 h=>Oc c n v3 h K)
def KJ:G H2:=fun c n x0 x7 h K=>
 lJ x7 fun v2=>aH v2 (K (.bool false) h) (bD x0 fun v3=>aA 1 v3 fun v4=>av h v4 fun v5=>eG v5 (.int .i64 1) fun v6=>bD x0 fun v7=>aA 1 v7 fun v8=>aV h v8 v6 fun h=>K (.bool true) h)
def s36:G H2:=fun c n x0 x1 h K=>
 c (.func 53) [x0,(.int .i64 0),x1] h <| pz K fun v1 h=>KJ c n x0 v1 h K
def Rf:G H3:=fun c n x0 x2 x3 h K=>
 c (.func 58) [x0,(.str [125])] h <| pz K fun v33 h=>aX h 3 x3 fun v34=>aL h 3 x2 v34 fun h=>gI (fF h [(x2,some (true,3))]) h K
def tH:G (F4→H7):=fun c n B16 x0 x2 x3 x21 x24 x27 x29 h K=>
 gK x24 true (dA x27 (.bool true) x29) fun v23=>gK x21 false (dA x24 v23 (.bool false)) fun v24=>dA x21 (.bool true) v24 fun v25=>aH v25 (aA 2 x3 fun v26=>av h v26 fun v27=>c (.func 57) [x0] h <| pz K fun v28 h=>av h v26 <| bS v27 <| aQ (aO h 1 3 zr9 [(0,v28)]) fun v29 h=>av h v26 <| bS v27 <| jO h 3 40 v27 v29 fun v30 h=>aA 2 x3 fun v31=>aV h v31 v30 fun h=>B16 x0 x2 x3 (.bool false) h) (Rf c n x0 x2 x3 h K)
def tK:G (F4→H6):=fun c n B16 x0 x2 x3 x21 x24 UU h K=>
 gK x24 true (bK (some UU)) fun v20=>gK v20 false (bK (some x0)) fun v21=>gP v20 false (fun k=>c (.func 56) [v21,(.int .i64 0)] h (pz K k)) h fun v22 h=>tH c n B16 x0 x2 x3 x21 x24 v20 v22 h K
def Ap:G (F4→H6):=fun c n B16 x0 x2 x3 x4 x16 x18 h K=>
 gK x16 true (lJ x18) fun v13=>dA x16 v13 (.bool false) fun v14=>gK v14 false (bK (some x4)) fun v15=>gK v14 false (lJ v15) fun v16=>gK v14 false (bK (some v16)) fun v17=>gK v17 true (bK (some x0)) fun v18=>gP v17 true (fun k=>c (.func 36) [v18,(.str [44])] h (pz K k)) h fun v19 h=>tK c n B16 x0 x2 x3 v14 v17 v19 h K
def RJ:G (F4→H4):=fun c n B16 x0 x2 x3 x4 h K=>
 gK x4 true (bK (some x0)) fun v11=>gP x4 true (fun k=>c (.func 53) [v11,(.int .i64 0),(.str [125])] h (pz K k)) h fun v12 h=>Ap c n B16 x0 x2 x3 x4 x4 v12 h K
def Fw:G (Nat→H4):=fun c n=>
 @Nat.rec (fun _=>H4) (fun _ _ _ _ _ _=>false) (fun _ ih x0 x2 x3 x4 h K=>RJ c n (fun x0 x2 x3 x4 h=>ih x0 x2 x3 x4 h K) x0 x2 x3 x4 h K)
def LJ:G H3:=fun c n x0 x2 x3 h K=>
 c (.func 55) [x0,(.str [123])] h <| pz K fun v10 h=>Fw c n n x0 x2 x3 (.bool true) h K
def Mg:G H4:=fun c n x0 x2 x3 x11 h K=>
 aA 1 x3 fun v8=>aV h v8 x11 fun h=>LJ c n x0 x2 x3 h K
def M4:G H3:=fun c n x0 x2 x6 h K=>
 dK afp [(0,1,x6)] fun v3=>bL h afp 3 fun v4 h=>aL h 3 v4 v3 fun h=>c (.func 36) [x0,(.str [101,120,116,101,110,100,115])] h <| pz K fun v6 h=>aH v6 (c (.func 54) [x0] h <| pz K fun v7 h=>Mg c n x0 x2 v4 v7 h K) (LJ c n x0 x2 v4 h K)
def s37:G H1:=fun c n x0 h K=>
 bL h afp 3 fun v1 h=>c (.func 54) [x0] h <| pz K fun v2 h=>M4 c n x0 v1 v2 h K
def GD:G (F3→H4):=fun c n B6 x0 x2 x3 x18 h K=>
 aA 1 x3 fun v10=>aV h v10 x18 fun h=>B6 x0 x2 x3 h
def Fx:G (F3→H4):=fun c n B6 x0 x2 x3 x24 h K=>
 aA 2 x3 fun v14=>aV h v14 x24 fun h=>B6 x0 x2 x3 h
def G8:G (F3→H4):=fun c n B6 x0 x2 x3 x30 h K=>
 aA 3 x3 fun v18=>aV h v18 x30 fun h=>B6 x0 x2 x3 h
def WR:G H2:=fun c n x2 x3 h K=>
 aX h 8 x3 fun v42=>aL h 8 x2 v42 fun h=>gI (fF h [(x2,some (true,8))]) h K
def zQ:G (F3→H4):=fun c n B40 x0 x2 x3 x44 h K=>
 lJ x44 fun v34=>aH v34 (aA 7 x3 fun v35=>av h v35 fun v36=>c (.func 62) [x0] h <| pz K fun v37 h=>av h v35 <| bS v36 <| aQ (aO h 1 12 zr6 [(0,v37)]) fun v38 h=>av h v35 <| bS v36 <| jO h 12 176 v36 v38 fun v39 h=>aA 7 x3 fun v40=>aV h v40 v39 fun h=>B40 x0 x2 x3 h) (WR c n x2 x3 h K)
def RY:G (F3→H3):=fun c n B40 x0 x2 x3 h K=>
 c (.func 36) [x0,(.str [101,110,100])] h <| pz K fun v33 h=>zQ c n B40 x0 x2 x3 v33 h K
def MP:G (Nat→H3):=fun c n=>
 @Nat.rec (fun _=>H3) (fun _ _ _ _ _=>false) (fun _ ih x0 x2 x3 h K=>RY c n (fun x0 x2 x3 h=>ih x0 x2 x3 h K) x0 x2 x3 h K)
def Fb:G H4:=fun c n x0 x2 x3 x38 h K=>
 aA 6 x3 fun v29=>aV h v29 x38 fun h=>aQ (aO h 1 1 [.str []] [(0,(.str [116,104,101,110]))]) fun v31 h=>c (.func 39) [x0,v31] h <| pz K fun v32 h=>MP c n n x0 x2 x3 h K
def Wm:G H3:=fun c n x0 x2 x3 h K=>
 aQ (aO h 1 1 [.str []] [(0,(.str [116,104,101,110]))]) fun v27 h=>c (.func 61) [x0,v27] h <| pz K fun v28 h=>Fb c n x0 x2 x3 v28 h K
def Ay:G (F3→H4):=fun c n B6 x0 x2 x3 x8 h K=>
 lJ x8 fun v7=>aH v7 (c (.func 36) [x0,(.str [115,97,108,105,101,110,99,101])] h <| pz K fun v8 h=>aH v8 (c (.func 60) [x0] h <| pz K fun v9 h=>GD c n B6 x0 x2 x3 v9 h K) (c (.func 36) [x0,(.str [103,114,111,117,112])] h <| pz K fun v12 h=>aH v12 (c (.func 59) [x0] h <| pz K fun v13 h=>Fx c n B6 x0 x2 x3 v13 h K) (c (.func 36) [x0,(.str [102,108,111,119])] h <| pz K fun v16 h=>aH v16 (c (.func 59) [x0] h <| pz K fun v17 h=>G8 c n B6 x0 x2 x3 v17 h K) (c (.func 36) [x0,(.str [110,111,108,111,111,112])] h <| pz K fun v20 h=>aH v20 (aA 4 x3 fun v21=>aV h v21 (.bool true) fun h=>B6 x0 x2 x3 h) (aQ (aO h 1 1 [.str []] [(0,(.str [108,111,99,107]))]) fun v23 h=>c (.func 39) [x0,v23] h <| pz K fun v24 h=>aA 5 x3 fun v25=>aV h v25 (.bool true) fun h=>B6 x0 x2 x3 h))))) (Wm c n x0 x2 x3 h K)
def Zn:G (F3→H3):=fun c n B6 x0 x2 x3 h K=>
 c (.func 36) [x0,(.str [119,104,101,110])] h <| pz K fun v6 h=>Ay c n B6 x0 x2 x3 v6 h K
def Tg:G (Nat→H3):=fun c n=>
 @Nat.rec (fun _=>H3) (fun _ _ _ _ _=>false) (fun _ ih x0 x2 x3 h K=>Zn c n (fun x0 x2 x3 h=>ih x0 x2 x3 h K) x0 x2 x3 h K)
def Me:G H3:=fun c n x0 x2 x5 h K=>
 dK zr7 [(0,1,x5)] fun v3=>bL h zr7 8 fun v4 h=>aL h 8 v4 v3 fun h=>Tg c n n x0 x2 v4 h K
def s38:G H1:=fun c n x0 h K=>
 bL h zr7 8 fun v1 h=>c (.func 59) [x0] h <| pz K fun v2 h=>Me c n x0 v1 v2 h K
def GN:G (F4→H6):=fun c n B3 x0 x6 x7 x8 IV Fg h K=>
 c (.func 52) [IV,Fg] h <| pz K fun v6 h=>eG x8 (.int .i64 1) fun v7=>B3 x0 x6 x7 v7 h
def UL:G (F4→H4):=fun c n B3 x0 x6 x7 x8 h K=>
 jL x8 x7 fun v2=>aH v2 (dG h 1 x6 x8 fun v3=>av h v3 fun v4=>c (.func 36) [x0,v4] h <| pz K fun v5 h=>GN c n B3 x0 x6 x7 x8 x0 v5 h K) (K (.tup []) h)
def Pg:G (Nat→H4):=fun c n=>
 @Nat.rec (fun _=>H4) (fun _ _ _ _ _ _=>false) (fun _ ih x0 x6 x7 x8 h K=>UL c n (fun x0 x6 x7 x8 h=>ih x0 x6 x7 x8 h K) x0 x6 x7 x8 h K)
def s39:G H2:=fun c n x0 x1 h K=>
 fI x1 fun v1=>Pg c n n x0 x1 v1 (.int .i64 0) h K
def Gz:G H4:=fun c n x1 x2 x3 x14 h K=>
 aA 2 x3 fun v16=>aV h v16 x14 fun h=>av h x1 fun v18=>aQ (aO h 1 1 [.str []] [(0,(.str [101,110,100]))]) fun v19 h=>c (.func 39) [v18,v19] h <| pz K fun v20 h=>aX h 3 x3 fun v21=>aL h 3 x2 v21 fun h=>gI (fF h [(x2,some (true,3))]) h K
def Nq:G H3:=fun c n x1 x2 x5 h K=>
 dK af4 [(0,1,x5)] fun v5=>bL h af4 3 fun v6 h=>aL h 3 v6 v5 fun h=>av h x1 fun v8=>c (.func 55) [v8,(.str [40])] h <| pz K fun v9 h=>av h x1 fun v10=>bK (some (.fn (.func 64) [] [v6,x1])) fun v11=>c (.func 63) [v10,(.str [41]),v11] h <| pz K fun v12 h=>av h x1 fun v13=>aQ (aO h 1 1 [.str []] [(0,(.str [101,110,100]))]) fun v14 h=>c (.func 61) [v13,v14] h <| pz K fun v15 h=>Gz c n x1 x2 v6 v15 h K
def s40:G H1:=fun c n x0 h K=>
 Ct h x0 fun v1 h=>bL h af4 3 fun v2 h=>av h v1 fun v3=>c (.func 54) [v3] h <| pz K fun v4 h=>Nq c n v1 v2 v4 h K
def Zm:G (F4→H4):=fun c n B6 x0 x1 x7 x8 h K=>
 jL x8 x7 fun v2=>aH v2 (dG h 19 x0 x8 fun v3=>aX h 19 v3 fun v4=>kR c x1 [v4] h <| pz K fun v5 h=>aH v5 (K x8 h) (eG x8 (.int .i64 1) fun v6=>B6 x0 x1 x7 v6 h)) (K (.int .i64 (-1)) h)
def U4:G (Nat→H4):=fun c n=>
 @Nat.rec (fun _=>H4) (fun _ _ _ _ _ _=>false) (fun _ ih x0 x1 x7 x8 h K=>Zm c n (fun x0 x1 x7 x8 h=>ih x0 x1 x7 x8 h K) x0 x1 x7 x8 h K)
def s41:G H2:=fun c n x0 x1 h K=>
 fI x0 fun v1=>U4 c n n x0 x1 v1 (.int .i64 0) h K
def YM:G (F4→H4):=fun c n B6 x0 x1 x7 x8 h K=>
 jL x8 x7 fun v2=>aH v2 (dG h 1 x0 x8 fun v3=>av h v3 fun v4=>kR c x1 [v4] h <| pz K fun v5 h=>aH v5 (K x8 h) (eG x8 (.int .i64 1) fun v6=>B6 x0 x1 x7 v6 h)) (K (.int .i64 (-1)) h)
def VL:G (Nat→H4):=fun c n=>
 @Nat.rec (fun _=>H4) (fun _ _ _ _ _ _=>false) (fun _ ih x0 x1 x7 x8 h K=>YM c n (fun x0 x1 x7 x8 h=>ih x0 x1 x7 x8 h K) x0 x1 x7 x8 h K)
def s42:G H2:=fun c n x0 x1 h K=>
 fI x0 fun v1=>VL c n n x0 x1 v1 (.int .i64 0) h K
def EO:G (F4→H5):=fun c n B8 x6 x7 x8 IV x14 h K=>
 aQ (aO h 1 19 wV [(0,x14)]) fun v6 h=>jO h 19 328 IV v6 fun v7 h=>eG x8 (.int .i64 1) fun v8=>B8 v7 x6 x7 v8 h
def YD:G (F4→H4):=fun c n B8 x3 x6 x7 x8 h K=>
 jL x8 x7 fun v2=>aH v2 (dG h 1 x6 x8 fun v3=>av h v3 fun v4=>c (.func 44) [v4] h <| pz K fun v5 h=>EO c n B8 x6 x7 x8 x3 v5 h K) (K x3 h)
def Vr:G (Nat→H4):=fun c n=>
 @Nat.rec (fun _=>H4) (fun _ _ _ _ _ _=>false) (fun _ ih x3 x6 x7 x8 h K=>YD c n (fun x3 x6 x7 x8 h=>ih x3 x6 x7 x8 h K) x3 x6 x7 x8 h K)
def s43:G H1:=fun c n x0 h K=>
 fI x0 fun v1=>Vr c n n .au x0 v1 (.int .i64 0) h K
def s44:G H1:=fun c n x0 h K=>
 bL h wV 19 fun v1 h=>dK wV [(0,1,(.int .i64 2)),(5,1,x0)] fun v2=>aL h 19 v1 v2 fun h=>gI (fF h [(v1,some (true,19))]) h K
def s45:G H1:=fun c n x0 h K=>
 bK (Ja h false .slc x0 .au) fun v1=>aH v1 (K .au h) (aQ (aO h 0 19 wV []) fun v2 h=>jO h 19 328 v2 x0 fun v3 h=>K v3 h)
def s46:G H1:=fun c n x0 h K=>
 bK (Ja h false .slc x0 .au) fun v1=>aH v1 (K .au h) (aQ (aO h 0 2 [.str [], .str []] []) fun v2 h=>jO h 2 32 v2 x0 fun v3 h=>K v3 h)
def XK:G H2:=fun c n x1 x2 h K=>
 aX h 8 x1 fun v27=>aL h 8 x2 v27 fun h=>gI (fF h [(x2,some (true,8))]) h K
def Qo:G (F5→H5):=fun c n B10 x1 x2 x13 x14 Fg h K=>
 jL Fg x14 fun v13=>aH v13 (dG h 8 x13 Fg fun v14=>aX h 8 v14 fun v15=>bL h SQ 8 fun v16 h=>aL h 8 v16 v15 fun h=>aA 7 x1 fun v18=>av h v18 fun v19=>aX h 8 v16 fun v20=>c (.func 47) [v20] h <| pz K fun v21 h=>av h v18 <| bS v19 <| aQ (aO h 1 8 SQ [(0,v21)]) fun v22 h=>av h v18 <| bS v19 <| aX h 8 v16 <| bS v20 <| jO h 8 112 v19 v22 fun v23 h=>aA 7 x1 fun v24=>aV h v24 v23 fun h=>eG Fg (.int .i64 1) fun v26=>B10 x1 x2 x13 x14 v26 h) (XK c n x1 x2 h K)
def Nr:G (Nat→H5):=fun c n=>
 @Nat.rec (fun _=>H5) (fun _ _ _ _ _ _ _=>false) (fun _ ih x1 x2 x13 x14 Fg h K=>Qo c n (fun x1 x2 x13 x14 Fg h=>ih x1 x2 x13 x14 Fg h K) x1 x2 x13 x14 Fg h K)
def Ms:G H4:=fun c n x1 x2 x3 x10 h K=>
 aA 2 x1 fun v8=>aL h 5 v8 x10 fun h=>aA 7 x1 fun v10=>aV h v10 .au fun h=>fI x3 fun v12=>Nr c n n x1 x2 x3 v12 (.int .i64 0) h K
def s47:G H1:=fun c n x0 h K=>
 aQ (mo h (none) 8 x0) fun v1 h=>bL h SQ 8 fun v2 h=>aA 7 v1 fun v3=>av h v3 fun v4=>aA 2 v1 fun v5=>aX h 5 v5 fun v6=>c (.func 66) [v6] h <| pz K fun v7 h=>Ms c n v1 v2 v4 v7 h K
def Ll:G H2:=fun c n x31 x36 h K=>
 dA x31 x36 (.bool false) fun v31=>K v31 h
def s48:G H2:=fun c n x0 x1 h K=>
 aQ (mo h (none) 5 x0) fun v1 h=>aQ (mo h (none) 5 x1) fun v2 h=>aA 0 v1 fun v3=>av h v3 fun v4=>aA 0 v2 fun v5=>av h v5 fun v6=>dQ v4 v6 fun v7=>gK v7 true (aA 1 v1) fun v8=>gK v7 true (av h v8) fun v9=>gK v7 true (aA 1 v2) fun v10=>gK v7 true (av h v10) fun v11=>gK v7 true (bK (Ja h false .bool v9 v11)) fun v12=>dA v7 v12 (.bool false) fun v13=>gK v13 true (aA 2 v1) fun v14=>gK v13 true (av h v14) fun v15=>gK v13 true (aA 2 v2) fun v16=>gK v13 true (av h v16) fun v17=>gK v13 true (dQ v15 v17) fun v18=>dA v13 v18 (.bool false) fun v19=>gK v19 true (aA 3 v1) fun v20=>gK v19 true (av h v20) fun v21=>gK v19 true (aA 3 v2) fun v22=>gK v19 true (av h v22) fun v23=>gK v19 true (dQ v21 v23) fun v24=>dA v19 v24 (.bool false) fun v25=>gK v25 true (aA 4 v1) fun v26=>gK v25 true (av h v26) fun v27=>gK v25 true (aA 4 v2) fun v28=>gK v25 true (av h v28) fun v29=>gP v25 true (fun k=>c (.func 67) [v27,v29] h (pz K k)) h fun v30 h=>Ll c n v25 v30 h K
set_option maxRecDepth 100000 in
def s51:G H0:=fun c n h K=>
 aQ (zJ h) fun v1 h=>aQ (zJ h) fun v2 h=>aQ (unit (lM h (.leaf .str) v2 (.str [124,124]) (.int .i64 9))) fun _ h=>aQ (unit (lM h (.leaf .int) v1 (.int .i64 0) v2)) fun _ h=>aQ (zJ h) fun v5 h=>aQ (unit (lM h (.leaf .str) v5 (.str [38,38]) (.int .i64 8))) fun _ h=>aQ (unit (lM h (.leaf .int) v1 (.int .i64 1) v5)) fun _ h=>aQ (zJ h) fun v8 h=>aQ (unit (lM h (.leaf .str) v8 (.str [61,61]) (.int .i64 10))) fun _ h=>aQ (unit (lM h (.leaf .str) v8 (.str [33,61]) (.int .i64 11))) fun _ h=>aQ (unit (lM h (.leaf .str) v8 (.str [60]) (.int .i64 12))) fun _ h=>aQ (unit (lM h (.leaf .str) v8 (.str [60,61]) (.int .i64 13))) fun _ h=>aQ (unit (lM h (.leaf .str) v8 (.str [62]) (.int .i64 14))) fun _ h=>aQ (unit (lM h (.leaf .str) v8 (.str [62,61]) (.int .i64 15))) fun _ h=>aQ (unit (lM h (.leaf .int) v1 (.int .i64 2) v8)) fun _ h=>aQ (zJ h) fun v16 h=>aQ (unit (lM h (.leaf .str) v16 (.str [43]) (.int .i64 16))) fun _ h=>aQ (unit (lM h (.leaf .str) v16 (.str [45]) (.int .i64 17))) fun _ h=>aQ (unit (lM h (.leaf .int) v1 (.int .i64 3) v16)) fun _ h=>aQ (zJ h) fun v20 h=>aQ (unit (lM h (.leaf .str) v20 (.str [42]) (.int .i64 18))) fun _ h=>aQ (unit (lM h (.leaf .str) v20 (.str [47]) (.int .i64 19))) fun _ h=>aQ (unit (lM h (.leaf .str) v20 (.str [37]) (.int .i64 20))) fun _ h=>aQ (unit (lM h (.leaf .int) v1 (.int .i64 4) v20)) fun _ h=>K v1 h
def JW:G H1:=fun c n x7 h K=>
 c (.func 69) [x7] h <| pz K fun v3 h=>K (.tup []) h
def s52:G H2:=fun c n x0 x1 h K=>
 lJ x1 fun v1=>aH v1 (c (.func 70) [x0] h <| pz K fun v2 h=>JW c n v2 h K) (K (.tup []) h)
def uQ:G H4:=fun c n Fg x19 x23 x25 h K=>
 gK x19 false (dA x23 x25 (.bool false)) fun v17=>gK Fg true (dA x19 (.bool true) v17) fun v18=>dA Fg v18 (.bool false) fun v19=>K v19 h
def KU:G H2:=fun c n x2 x10 h K=>
 bL h zr4 4 fun v2 h=>aL h 4 v2 x10 fun h=>aA 1 v2 fun v4=>av h v4 fun v5=>dQ v5 x2 fun v6=>gK v6 true (aA 0 v2) fun v7=>gK v6 true (av h v7) fun v8=>gK v6 true (dQ v8 (.int .i64 4)) fun v9=>gK v6 true (bK (some v9)) fun v10=>gK v10 false (aA 0 v2) fun v11=>gK v10 false (av h v11) fun v12=>gK v10 false (dQ v12 (.int .i64 0)) fun v13=>gK v10 false (bK (some v13)) fun v14=>gK v14 true (bK (some x2)) fun v15=>gP v14 true (fun k=>c (.func 72) [v15] h (pz K k)) h fun v16 h=>uQ c n v6 v10 v14 v16 h K
def s53:G H3:=fun c n x0 x1 x2 h K=>
 c (.func 71) [x0,x1] h <| pz K fun v1 h=>KU c n x2 v1 h K
def Eo:G H4:=fun c n x0 x3 x6 x8 h K=>
 gK x6 true (U9 1 x8) fun v4=>gK x6 true (pE v4) fun v5=>gK x6 true (G7 v5 (.int .i64 64)) fun v6=>dA x6 v6 (.bool false) fun v7=>c (.func 52) [x3,v7] h <| pz K fun v8 h=>c (.func 73) [x0] h <| pz K fun v9 h=>K v9 h
def Km:G H3:=fun c n x0 x3 x5 h K=>
 gK x5 true (bK (some x0)) fun v2=>gP x5 true (fun k=>c (.func 71) [v2,(.int .i64 0)] h (pz K k)) h fun v3 h=>Eo c n x0 x3 x5 v3 h K
def s54:G H1:=fun c n x0 h K=>
 c (.func 56) [x0,(.int .i64 0)] h <| pz K fun v1 h=>Km c n x0 x0 v1 h K
def s55:G H2:=fun c n x0 x1 h K=>
 c (.func 70) [x0] h <| pz K fun v1 h=>aQ (aO h 1 1 [.str []] [(0,x1)]) fun v2 h=>c (.func 39) [x0,v2] h <| pz K fun v3 h=>c (.func 74) [x0,v1] h <| pz K fun v4 h=>K (.tup []) h
def zw:G H2:=fun c n IV Fg h K=>
 gK IV true (lJ Fg) fun v10=>dA IV v10 (.bool false) fun v11=>K v11 h
def ML:G H1:=fun c n x8 h K=>
 bL h zr4 4 fun v2 h=>aL h 4 v2 x8 fun h=>aA 0 v2 fun v4=>av h v4 fun v5=>dQ v5 (.int .i64 0) fun v6=>gK v6 true (aA 1 v2) fun v7=>gK v6 true (av h v7) fun v8=>gP v6 true (fun k=>c (.func 72) [v8] h (pz K k)) h fun v9 h=>zw c n v6 v9 h K
def s56:G H2:=fun c n x0 x1 h K=>
 c (.func 71) [x0,x1] h <| pz K fun v1 h=>ML c n v1 h K
def vY:G H2:=fun c n x2 x3 h K=>
 aX h 3 x3 fun v11=>aL h 3 x2 v11 fun h=>gI (fF h [(x2,some (true,3))]) h K
def ET:G H3:=fun c n x2 x3 x14 h K=>
 aA 1 x3 fun v28=>aV h v28 (.int .i64 5) fun h=>aA 2 x3 fun v30=>aV h v30 x14 fun h=>vY c n x2 x3 h K
def Lm:G H3:=fun c n x0 x2 x5 h K=>
 dK zr9 [(0,1,x5)] fun v3=>bL h zr9 3 fun v4 h=>aL h 3 v4 v3 fun h=>aQ (aO h 1 1 [.str []] [(0,(.str [58]))]) fun v6 h=>c (.func 39) [x0,v6] h <| pz K fun v7 h=>c (.func 36) [x0,(.str [105,110,116])] h <| pz K fun v8 h=>aH v8 (aA 1 v4 fun v9=>aV h v9 (.int .i64 2) fun h=>vY c n x2 v4 h K) (c (.func 36) [x0,(.str [98,111,111,108])] h <| pz K fun v13 h=>aH v13 (aA 1 v4 fun v14=>aV h v14 (.int .i64 1) fun h=>vY c n x2 v4 h K) (c (.func 36) [x0,(.str [116,101,120,116])] h <| pz K fun v16 h=>aH v16 (aA 1 v4 fun v17=>aV h v17 (.int .i64 3) fun h=>vY c n x2 v4 h K) (c (.func 36) [x0,(.str [108,105,115,116])] h <| pz K fun v19 h=>aH v19 (aA 1 v4 fun v20=>aV h v20 (.int .i64 4) fun h=>vY c n x2 v4 h K) (c (.func 36) [x0,(.str [97,110,121])] h <| pz K fun v22 h=>aH v22 (aA 1 v4 fun v23=>aV h v23 (.int .i64 0) fun h=>vY c n x2 v4 h K) (aQ (aO h 1 1 [.str []] [(0,(.str [114,101,102]))]) fun v25 h=>c (.func 39) [x0,v25] h <| pz K fun v26 h=>c (.func 54) [x0] h <| pz K fun v27 h=>ET c n x2 v4 v27 h K)))))
def s57:G H1:=fun c n x0 h K=>
 bL h zr9 3 fun v1 h=>c (.func 54) [x0] h <| pz K fun v2 h=>Lm c n x0 v1 v2 h K
def s58:G H2:=fun c n x0 x1 h K=>
 aQ (aO h 1 1 [.str []] [(0,x1)]) fun v1 h=>c (.func 39) [x0,v1] h <| pz K fun v2 h=>bD x0 fun v3=>aA 3 v3 fun v4=>av h v4 fun v5=>FE v5 (.int .i64 1) fun v6=>bD x0 fun v7=>aA 3 v7 fun v8=>aV h v8 v6 fun h=>K (.tup []) h
def JI:G H3:=fun c n x0 x3 x5 h K=>
 c (.func 52) [x3,x5] h <| pz K fun v2 h=>c (.func 73) [x0] h <| pz K fun v3 h=>K v3 h
def s59:G H1:=fun c n x0 h K=>
 c (.func 75) [x0,(.int .i64 3)] h <| pz K fun v1 h=>JI c n x0 x0 v1 h K
def DU:G H3:=fun c n x0 x3 x16 h K=>
 lU 0 x16 fun v7=>lU 1 x16 fun v8=>bK (Ja h false .ifn v8 .iC) fun v9=>gK v9 true (bK (some v7)) fun v10=>gK v9 true (G7 v10 (.int .i64 2147483648)) fun v11=>dA v9 v11 (.bool false) fun v12=>c (.func 52) [x0,v12] h <| pz K fun v13 h=>bD x0 fun v14=>aA 1 v14 fun v15=>av h v15 fun v16=>eG v16 (.int .i64 1) fun v17=>bD x0 fun v18=>aA 1 v18 fun v19=>aV h v19 v17 fun h=>aH x3 (bK (abF v7) fun v21=>K v21 h) (K v7 h)
def M7:G H3:=fun c n x0 x3 x14 h K=>
 U9 1 x14 fun v5=>c (.func 76) [v5,(.int .i64 10),(.int .i64 64)] h <| pz K fun v6 h=>DU c n x0 x3 v6 h K
def MF:G H4:=fun c n x0 x3 x8 x10 h K=>
 c (.func 52) [x8,x10] h <| pz K fun v3 h=>c (.func 71) [x0,(.int .i64 0)] h <| pz K fun v4 h=>M7 c n x0 x3 v4 h K
def s60:G H1:=fun c n x0 h K=>
 c (.func 36) [x0,(.str [45])] h <| pz K fun v1 h=>c (.func 75) [x0,(.int .i64 2)] h <| pz K fun v2 h=>MF c n x0 v1 x0 v2 h K
def G9:G (F3→H4):=fun c n B5 x0 x1 x19 x21 h K=>
 aQ (aO h 1 19 wV [(0,x21)]) fun v8 h=>jO h 19 328 x19 v8 fun v9 h=>B5 x0 x1 v9 h
def Xw:G (F3→H3):=fun c n B5 x0 x1 x5 h K=>
 c (.func 77) [x0] h <| pz K fun v7 h=>G9 c n B5 x0 x1 x5 v7 h K
def KC:G (F3→F6→H6):=fun c n B5 B11 x0 x1 x5 x8 x9 x10 h K=>
 jL x10 x9 fun v2=>aH v2 (dG h 1 x8 x10 fun v3=>av h v3 fun v4=>c (.func 53) [x0,(.int .i64 0),v4] h <| pz K fun v5 h=>aH v5 (K x5 h) (eG x10 (.int .i64 1) fun v6=>B11 x0 x1 x5 x8 x9 v6 h)) (Xw c n B5 x0 x1 x5 h K)
def MS:G (F3→Nat→H6):=fun c n B5=>
 @Nat.rec (fun _=>H6) (fun _ _ _ _ _ _ _ _=>false) (fun _ ih x0 x1 x5 x8 x9 x10 h K=>KC c n B5 (fun x0 x1 x5 x8 x9 x10 h=>ih x0 x1 x5 x8 x9 x10 h K) x0 x1 x5 x8 x9 x10 h K)
def Y2:G (F3→H3):=fun c n B5 x0 x1 x5 h K=>
 fI x1 fun v1=>MS c n B5 n x0 x1 x5 x1 v1 (.int .i64 0) h K
def JM:G (Nat→H3):=fun c n=>
 @Nat.rec (fun _=>H3) (fun _ _ _ _ _=>false) (fun _ ih x0 x1 x5 h K=>Y2 c n (fun x0 x1 x5 h=>ih x0 x1 x5 h K) x0 x1 x5 h K)
def s61:G H2:=fun c n x0 x1 h K=>
 JM c n n x0 x1 .au h K
def vW:G H3:=fun c n x0 x2 x3 h K=>
 aQ (aO h 1 1 [.str []] [(0,(.str [59]))]) fun v16 h=>c (.func 39) [x0,v16] h <| pz K fun v17 h=>aX h 12 x3 fun v18=>aL h 12 x2 v18 fun h=>gI (fF h [(x2,some (true,12))]) h K
def GA:G H4:=fun c n x0 x2 x3 x22 h K=>
 aA 2 x3 fun v14=>aV h v14 x22 fun h=>vW c n x0 x2 x3 h K
def Fh:G H4:=fun c n x0 x2 x3 x19 h K=>
 aA 1 x3 fun v11=>aV h v11 x19 fun h=>c (.func 78) [x0,(.int .i64 0)] h <| pz K fun v13 h=>GA c n x0 x2 x3 v13 h K
def Ko:G H3:=fun c n x0 x2 x3 h K=>
 c (.func 54) [x0] h <| pz K fun v10 h=>Fh c n x0 x2 x3 v10 h K
def AA:G H4:=fun c n x0 x2 x3 Fg h K=>
 dQ Fg (.str [108,111,103,105,99,97,108]) fun v7=>aH v7 (aA 0 x3 fun v8=>aV h v8 (.int .i64 2) fun h=>Ko c n x0 x2 x3 h K) (Ko c n x0 x2 x3 h K)
def Gt:G H4:=fun c n x0 x2 x3 x32 h K=>
 aA 2 x3 fun v27=>aV h v27 x32 fun h=>vW c n x0 x2 x3 h K
def Hw:G H4:=fun c n x0 x2 x3 x28 h K=>
 aA 0 x3 fun v22=>aV h v22 (.int .i64 3) fun h=>aA 3 x3 fun v24=>aL h 8 v24 x28 fun h=>c (.func 78) [x0,(.int .i64 1)] h <| pz K fun v26 h=>Gt c n x0 x2 x3 v26 h K
def GR:G H4:=fun c n x0 x2 x3 x38 h K=>
 aA 0 x3 fun v31=>aV h v31 (.int .i64 4) fun h=>aA 3 x3 fun v33=>aL h 8 v33 x38 fun h=>vW c n x0 x2 x3 h K
def HV:G H4:=fun c n x0 x2 x3 x45 h K=>
 aA 0 x3 fun v37=>aV h v37 (.int .i64 5) fun h=>aA 11 x3 fun v39=>aV h v39 x45 fun h=>vW c n x0 x2 x3 h K
def EL:G H4:=fun c n x0 x2 x3 x52 h K=>
 aA 0 x3 fun v43=>aV h v43 (.int .i64 6) fun h=>aA 3 x3 fun v45=>aL h 8 v45 x52 fun h=>vW c n x0 x2 x3 h K
def KW:G H4:=fun c n x0 x2 x3 x8 h K=>
 aH x8 (aA 0 x3 fun v4=>aV h v4 (.int .i64 1) fun h=>c (.func 73) [x0] h <| pz K fun v6 h=>AA c n x0 x2 x3 v6 h K) (c (.func 36) [x0,(.str [117,112,100,97,116,101])] h <| pz K fun v20 h=>aH v20 (c (.func 79) [x0] h <| pz K fun v21 h=>Hw c n x0 x2 x3 v21 h K) (c (.func 36) [x0,(.str [100,101,108,101,116,101])] h <| pz K fun v29 h=>aH v29 (c (.func 79) [x0] h <| pz K fun v30 h=>GR c n x0 x2 x3 v30 h K) (c (.func 36) [x0,(.str [102,111,99,117,115])] h <| pz K fun v35 h=>aH v35 (c (.func 59) [x0] h <| pz K fun v36 h=>HV c n x0 x2 x3 v36 h K) (c (.func 36) [x0,(.str [112,114,105,110,116])] h <| pz K fun v41 h=>aH v41 (c (.func 79) [x0] h <| pz K fun v42 h=>EL c n x0 x2 x3 v42 h K) (aQ (aO h 1 1 [.str []] [(0,(.str [104,97,108,116]))]) fun v47 h=>c (.func 39) [x0,v47] h <| pz K fun v48 h=>aA 0 x3 fun v49=>aV h v49 (.int .i64 7) fun h=>vW c n x0 x2 x3 h K)))))
def s62:G H1:=fun c n x0 h K=>
 bL h zr6 12 fun v1 h=>bL h zr6 12 fun v2 h=>c (.func 53) [x0,(.int .i64 0),(.str [105,110,115,101,114,116])] h <| pz K fun v3 h=>aH v3 (KW c n x0 v1 v2 v3 h K) (c (.func 53) [x0,(.int .i64 0),(.str [108,111,103,105,99,97,108])] h <| pz K fun v51 h=>KW c n x0 v1 v2 v51 h K)
def Qk:G H2:=fun c n x0 x1 h K=>
 c (.func 58) [x0,x1] h <| pz K fun v14 h=>K (.tup []) h
def wK:G (F4→H6):=fun c n B4 x0 x1 x2 x14 x17 x19 h K=>
 gK x14 false (dA x17 x19 (.bool false)) fun v11=>dA x14 (.bool true) v11 fun v12=>aH v12 (kR c x2 [] h <| pz K fun v13 h=>B4 x0 x1 x2 (.bool false) h) (Qk c n x0 x1 h K)
def Dt:G (F4→H6):=fun c n B4 x0 x1 x2 x6 x8 x11 h K=>
 gK x8 true (lJ x11) fun v4=>dA x8 v4 (.bool false) fun v5=>gK v5 false (bK (some x6)) fun v6=>gK v5 false (lJ v6) fun v7=>gK v5 false (bK (some v7)) fun v8=>gK v8 true (bK (some x0)) fun v9=>gP v8 true (fun k=>c (.func 36) [v9,(.str [44])] h (pz K k)) h fun v10 h=>wK c n B4 x0 x1 x2 v5 v8 v10 h K
def ZL:G (F4→H4):=fun c n B4 x0 x1 x2 x6 h K=>
 gK x6 true (bK (some x0)) fun v1=>gK x6 true (bK (some x1)) fun v2=>gP x6 true (fun k=>c (.func 53) [v1,(.int .i64 0),v2] h (pz K k)) h fun v3 h=>Dt c n B4 x0 x1 x2 x6 x6 v3 h K
def NY:G (Nat→H4):=fun c n=>
 @Nat.rec (fun _=>H4) (fun _ _ _ _ _ _=>false) (fun _ ih x0 x1 x2 x6 h K=>ZL c n (fun x0 x1 x2 x6 h=>ih x0 x1 x2 x6 h K) x0 x1 x2 x6 h K)
def s63:G H3:=fun c n x0 x1 x2 h K=>
 NY c n n x0 x1 x2 (.bool true) h K
def s64:G H2:=fun c n x0 x1 h K=>
 aA 1 x0 fun v1=>av h v1 fun v2=>av h x1 fun v3=>c (.func 65) [v3] h <| pz K fun v4 h=>av h v1 <| bS v2 <| aQ (aO h 1 1 [.str []] [(0,v4)]) fun v5 h=>av h v1 <| bS v2 <| av h x1 <| bS v3 <| jO h 1 16 v2 v5 fun v6 h=>aA 1 x0 fun v7=>aV h v7 v6 fun h=>K (.tup []) h
def Dx:G H4:=fun c n x0 x3 x6 x8 h K=>
 gK x6 true (U9 1 x8) fun v4=>gK x6 true (pE v4) fun v5=>gK x6 true (G7 v5 (.int .i64 64)) fun v6=>dA x6 v6 (.bool false) fun v7=>c (.func 52) [x3,v7] h <| pz K fun v8 h=>c (.func 73) [x0] h <| pz K fun v9 h=>K v9 h
def L9:G H3:=fun c n x0 x3 x5 h K=>
 gK x5 true (bK (some x0)) fun v2=>gP x5 true (fun k=>c (.func 71) [v2,(.int .i64 0)] h (pz K k)) h fun v3 h=>Dx c n x0 x3 x5 v3 h K
def s65:G H1:=fun c n x0 h K=>
 c (.func 75) [x0,(.int .i64 1)] h <| pz K fun v1 h=>L9 c n x0 x0 v1 h K
def X4:G H2:=fun c n x1 x2 h K=>
 aX h 5 x1 fun v22=>aL h 5 x2 v22 fun h=>gI (fF h [(x2,some (true,5))]) h K
def Qj:G (F5→H5):=fun c n B10 x1 x2 x9 x10 x11 h K=>
 jL x11 x10 fun v8=>aH v8 (dG h 5 x9 x11 fun v9=>aX h 5 v9 fun v10=>bL h zr5 5 fun v11 h=>aL h 5 v11 v10 fun h=>aA 4 x1 fun v13=>av h v13 fun v14=>aX h 5 v11 fun v15=>c (.func 66) [v15] h <| pz K fun v16 h=>av h v13 <| bS v14 <| aQ (aO h 1 5 zr5 [(0,v16)]) fun v17 h=>av h v13 <| bS v14 <| aX h 5 v11 <| bS v15 <| jO h 5 64 v14 v17 fun v18 h=>aA 4 x1 fun v19=>aV h v19 v18 fun h=>eG x11 (.int .i64 1) fun v21=>B10 x1 x2 x9 x10 v21 h) (X4 c n x1 x2 h K)
def KY:G (Nat→H5):=fun c n=>
 @Nat.rec (fun _=>H5) (fun _ _ _ _ _ _ _=>false) (fun _ ih x1 x2 x9 x10 x11 h K=>Qj c n (fun x1 x2 x9 x10 x11 h=>ih x1 x2 x9 x10 x11 h K) x1 x2 x9 x10 x11 h K)
def s66:G H1:=fun c n x0 h K=>
 aQ (mo h (none) 5 x0) fun v1 h=>bL h zr5 5 fun v2 h=>aA 4 v1 fun v3=>av h v3 fun v4=>aA 4 v1 fun v5=>aV h v5 .au fun h=>fI v4 fun v7=>KY c n n v1 v2 v4 v7 (.int .i64 0) h K
def QE:G (F3→H3):=fun c n B14 x0 x1 x5 h K=>
 fI x0 fun v4=>jL x5 v4 fun v5=>aH v5 (dG h 5 x0 x5 fun v6=>aX h 5 v6 fun v7=>dG h 5 x1 x5 fun v8=>aX h 5 v8 fun v9=>c (.func 48) [v7,v9] h <| pz K fun v10 h=>lJ v10 fun v11=>aH v11 (K (.bool false) h) (eG x5 (.int .i64 1) fun v12=>B14 x0 x1 v12 h)) (K (.bool true) h)
def Ng:G (Nat→H3):=fun c n=>
 @Nat.rec (fun _=>H3) (fun _ _ _ _ _=>false) (fun _ ih x0 x1 x5 h K=>QE c n (fun x0 x1 x5 h=>ih x0 x1 x5 h K) x0 x1 x5 h K)
def WO:G H2:=fun c n x0 x1 h K=>
 Ng c n n x0 x1 (.int .i64 0) h K
def s67:G H2:=fun c n x0 x1 h K=>
 fI x0 fun v1=>fI x1 fun v2=>qO v1 v2 fun v3=>aH v3 (K (.bool false) h) (WO c n x0 x1 h K)
def s68:G H1:=fun c n x0 h K=>
 Ct h x0 fun v1 h=>bK (some (.fn (.func 80) [] [v1])) fun v2=>K v2 h
def s69:G H1:=fun c n x0 h K=>
 dK [.int .i64 0] [(0,1,x0)] fun v1=>bK (Pm 111 v1) fun v2=>aaQ K v2 h
def s70:G H1:=fun c n x0 h K=>
 bD x0 fun v1=>aA 1 v1 fun v2=>av h v2 fun v3=>bD x0 fun v4=>aA 0 v4 fun v5=>av h v5 fun v6=>fI v6 fun v7=>jL v3 v7 fun v8=>aH v8 (bD x0 fun v9=>aA 0 v9 fun v10=>av h v10 fun v11=>bD x0 fun v12=>aA 1 v12 fun v13=>av h v13 fun v14=>dG h 4 v11 v14 fun v15=>aA 2 v15 fun v16=>av h v16 fun v17=>K v17 h) (bD x0 fun v18=>aA 2 v18 fun v19=>av h v19 fun v20=>K v20 h)
def s71:G H2:=fun c n x0 x1 h K=>
 bL h zr4 4 fun v1 h=>bD x0 fun v2=>aA 1 v2 fun v3=>av h v3 fun v4=>eG v4 x1 fun v5=>bD x0 fun v6=>aA 0 v6 fun v7=>av h v7 fun v8=>fI v8 fun v9=>jL v5 v9 fun v10=>aH v10 (bD x0 fun v11=>aA 0 v11 fun v12=>av h v12 fun v13=>bD x0 fun v14=>aA 1 v14 fun v15=>av h v15 fun v16=>eG v16 x1 fun v17=>dG h 4 v13 v17 fun v18=>aX h 4 v18 fun v19=>aL h 4 v1 v19 fun h=>gI (fF h [(v1,some (true,4))]) h K) (dK zr4 [(0,1,(.int .i64 (-1)))] fun v21=>aL h 4 v1 v21 fun h=>gI (fF h [(v1,some (true,4))]) h K)
def dU:G H1:=fun c n x4 h K=>
 aH x4 (K (.bool true) h) (K (.bool false) h)
set_option maxRecDepth 100000 in
def s72:G H1:=fun c n x0 h K=>
 dQ x0 (.str [99,108,97,115,115]) fun v1=>aH v1 (dU c n v1 h K) (dQ x0 (.str [101,120,116,101,110,100,115]) fun v2=>aH v2 (dU c n v2 h K) (dQ x0 (.str [114,117,108,101]) fun v3=>aH v3 (dU c n v3 h K) (dQ x0 (.str [113,117,101,114,121]) fun v4=>aH v4 (dU c n v4 h K) (dQ x0 (.str [119,104,101,110]) fun v5=>aH v5 (dU c n v5 h K) (dQ x0 (.str [116,104,101,110]) fun v6=>aH v6 (dU c n v6 h K) (dQ x0 (.str [101,110,100]) fun v7=>aH v7 (dU c n v7 h K) (dQ x0 (.str [115,97,108,105,101,110,99,101]) fun v8=>aH v8 (dU c n v8 h K) (dQ x0 (.str [103,114,111,117,112]) fun v9=>aH v9 (dU c n v9 h K) (dQ x0 (.str [102,108,111,119]) fun v10=>aH v10 (dU c n v10 h K) (dQ x0 (.str [110,111,108,111,111,112]) fun v11=>aH v11 (dU c n v11 h K) (dQ x0 (.str [108,111,99,107]) fun v12=>aH v12 (dU c n v12 h K) (dQ x0 (.str [110,111,116]) fun v13=>aH v13 (dU c n v13 h K) (dQ x0 (.str [101,120,105,115,116,115]) fun v14=>aH v14 (dU c n v14 h K) (dQ x0 (.str [102,111,114,97,108,108]) fun v15=>aH v15 (dU c n v15 h K) (dQ x0 (.str [111,114]) fun v16=>aH v16 (dU c n v16 h K) (dQ x0 (.str [102,114,111,109]) fun v17=>aH v17 (dU c n v17 h K) (dQ x0 (.str [101,118,97,108]) fun v18=>aH v18 (dU c n v18 h K) (dQ x0 (.str [97,99,99]) fun v19=>aH v19 (dU c n v19 h K) (dQ x0 (.str [111,118,101,114]) fun v20=>aH v20 (dU c n v20 h K) (dQ x0 (.str [105,110,115,101,114,116]) fun v21=>aH v21 (dU c n v21 h K) (dQ x0 (.str [108,111,103,105,99,97,108]) fun v22=>aH v22 (dU c n v22 h K) (dQ x0 (.str [117,112,100,97,116,101]) fun v23=>aH v23 (dU c n v23 h K) (dQ x0 (.str [100,101,108,101,116,101]) fun v24=>aH v24 (dU c n v24 h K) (dQ x0 (.str [102,111,99,117,115]) fun v25=>aH v25 (dU c n v25 h K) (dQ x0 (.str [112,114,105,110,116]) fun v26=>aH v26 (dU c n v26 h K) (dQ x0 (.str [104,97,108,116]) fun v27=>aH v27 (dU c n v27 h K) (dQ x0 (.str [116,114,117,101]) fun v28=>aH v28 (dU c n v28 h K) (dQ x0 (.str [102,97,108,115,101]) fun v29=>aH v29 (dU c n v29 h K) (dQ x0 (.str [110,117,108,108]) fun v30=>aH v30 (dU c n v30 h K) (dQ x0 (.str [115,105,122,101]) fun v31=>aH v31 (dU c n v31 h K) (dQ x0 (.str [104,97,115]) fun v32=>aH v32 (dU c n v32 h K) (dQ x0 (.str [105,110,116]) fun v33=>aH v33 (dU c n v33 h K) (dQ x0 (.str [98,111,111,108]) fun v34=>aH v34 (dU c n v34 h K) (dQ x0 (.str [116,101,120,116]) fun v35=>aH v35 (dU c n v35 h K) (dQ x0 (.str [108,105,115,116]) fun v36=>aH v36 (dU c n v36 h K) (dQ x0 (.str [97,110,121]) fun v37=>aH v37 (dU c n v37 h K) (dQ x0 (.str [114,101,102]) fun v38=>dU c n v38 h K)))))))))))))))))))))))))))))))))))))
def s73:G H1:=fun c n x0 h K=>
 bD x0 fun v1=>aA 1 v1 fun v2=>av h v2 fun v3=>eG v3 (.int .i64 1) fun v4=>bD x0 fun v5=>aA 1 v5 fun v6=>aV h v6 v4 fun h=>bD x0 fun v8=>aA 0 v8 fun v9=>av h v9 fun v10=>bD x0 fun v11=>aA 1 v11 fun v12=>av h v12 fun v13=>FE v13 (.int .i64 1) fun v14=>dG h 4 v10 v14 fun v15=>aA 1 v15 fun v16=>av h v16 fun v17=>K v17 h
def s74:G H2:=fun c n x0 x1 h K=>
 bD x0 fun v1=>aA 3 v1 fun v2=>av h v2 fun v3=>eG v3 (.int .i64 1) fun v4=>bD x0 fun v5=>aA 3 v5 fun v6=>aV h v6 v4 fun h=>bD x0 fun v8=>aA 3 v8 fun v9=>av h v9 fun v10=>Ca v10 (.int .i64 30) fun v11=>aH v11 (c (.func 69) [x1] h <| pz K fun v12 h=>K (.tup []) h) (K (.tup []) h)
def Kh:G H2:=fun c n x1 x6 h K=>
 U9 0 x6 fun v2=>dQ v2 x1 fun v3=>K v3 h
def s75:G H2:=fun c n x0 x1 h K=>
 c (.func 71) [x0,(.int .i64 0)] h <| pz K fun v1 h=>Kh c n x1 v1 h K
def LM:G H2:=fun c n x2 x10 h K=>
 dK wV [(0,1,(.int .i64 2)),(5,1,x10)] fun v4=>aL h 19 x2 v4 fun h=>gI (fF h [(x2,some (true,19))]) h K
def Ho:G H2:=fun c n x2 x16 h K=>
 dK wV [(0,1,(.int .i64 3)),(5,1,x16)] fun v8=>aL h 19 x2 v8 fun h=>gI (fF h [(x2,some (true,19))]) h K
def Ht:G H4:=fun c n x0 x2 x3 x32 h K=>
 aA 6 x3 fun v21=>aV h v21 x32 fun h=>c (.func 58) [x0,(.str [41])] h <| pz K fun v23 h=>aX h 19 x3 fun v24=>aL h 19 x2 v24 fun h=>gI (fF h [(x2,some (true,19))]) h K
def EY:G H3:=fun c n x0 x2 x25 h K=>
 dK wV [(0,1,(.int .i64 4)),(5,1,x25)] fun v14=>bL h wV 19 fun v15 h=>aL h 19 v15 v14 fun h=>aQ (aO h 1 1 [.str []] [(0,(.str [59]))]) fun v17 h=>c (.func 39) [x0,v17] h <| pz K fun v18 h=>aQ (aO h 1 1 [.str []] [(0,(.str [41]))]) fun v19 h=>c (.func 86) [x0,v19] h <| pz K fun v20 h=>Ht c n x0 x2 v15 v20 h K
def GY:G H2:=fun c n x2 x41 h K=>
 aL h 19 x2 x41 fun h=>gI (fF h [(x2,some (true,19))]) h K
def GJ:G H3:=fun c n x0 x2 x48 h K=>
 dK wV [(0,1,(.int .i64 8)),(8,8,x48)] fun v32=>bL h wV 19 fun v33 h=>aL h 19 v33 v32 fun h=>c (.func 58) [x0,(.str [41])] h <| pz K fun v35 h=>aX h 19 v33 fun v36=>aL h 19 x2 v36 fun h=>gI (fF h [(x2,some (true,19))]) h K
def E9:G H2:=fun c n x2 x57 h K=>
 aL h 19 x2 x57 fun h=>gI (fF h [(x2,some (true,19))]) h K
def Gs:G H2:=fun c n x2 x62 h K=>
 aL h 19 x2 x62 fun h=>gI (fF h [(x2,some (true,19))]) h K
def He:G H3:=fun c n x2 x5 x78 h K=>
 aA 8 x5 fun v56=>aL h 8 v56 x78 fun h=>aX h 19 x5 fun v58=>aL h 19 x2 v58 fun h=>gI (fF h [(x2,some (true,19))]) h K
def Fa:G H3:=fun c n x0 x2 x72 h K=>
 dK wV [(0,1,(.int .i64 6)),(1,1,x72)] fun v50=>bL h wV 19 fun v51 h=>aL h 19 v51 v50 fun h=>aQ (aO h 1 1 [.str []] [(0,(.str [102,114,111,109]))]) fun v53 h=>c (.func 39) [x0,v53] h <| pz K fun v54 h=>c (.func 79) [x0] h <| pz K fun v55 h=>He c n x2 v51 v55 h K
def zT:G H2:=fun c n x2 x82 h K=>
 aL h 19 x2 x82 fun h=>gI (fF h [(x2,some (true,19))]) h K
def Am:G H4:=fun c n x0 x2 x66 x68 h K=>
 gK x66 true (lJ x68) fun v47=>dA x66 v47 (.bool false) fun v48=>aH v48 (c (.func 65) [x0] h <| pz K fun v49 h=>Fa c n x0 x2 v49 h K) (c (.func 90) [x0] h <| pz K fun v60 h=>zT c n x2 v60 h K)
def Fp:G H3:=fun c n x0 x2 x65 h K=>
 gK x65 true (bK (some x0)) fun v45=>gP x65 true (fun k=>c (.func 53) [v45,(.int .i64 1),(.str [58])] h (pz K k)) h fun v46 h=>Am c n x0 x2 x65 v46 h K
set_option maxRecDepth 100000 in
def s77:G H1:=fun c n x0 h K=>
 bL h wV 19 fun v1 h=>c (.func 36) [x0,(.str [110,111,116])] h <| pz K fun v2 h=>aH v2 (c (.func 85) [x0] h <| pz K fun v3 h=>LM c n v1 v3 h K) (c (.func 36) [x0,(.str [101,120,105,115,116,115])] h <| pz K fun v6 h=>aH v6 (c (.func 85) [x0] h <| pz K fun v7 h=>Ho c n v1 v7 h K) (c (.func 36) [x0,(.str [102,111,114,97,108,108])] h <| pz K fun v10 h=>aH v10 (c (.func 55) [x0,(.str [40])] h <| pz K fun v11 h=>aQ (aO h 1 1 [.str []] [(0,(.str [59]))]) fun v12 h=>c (.func 86) [x0,v12] h <| pz K fun v13 h=>EY c n x0 v1 v13 h K) (c (.func 53) [x0,(.int .i64 0),(.str [40])] h <| pz K fun v26 h=>aH v26 (c (.func 87) [x0] h <| pz K fun v27 h=>GY c n v1 v27 h K) (c (.func 36) [x0,(.str [101,118,97,108])] h <| pz K fun v29 h=>aH v29 (c (.func 55) [x0,(.str [40])] h <| pz K fun v30 h=>c (.func 79) [x0] h <| pz K fun v31 h=>GJ c n x0 v1 v31 h K) (c (.func 36) [x0,(.str [97,99,99])] h <| pz K fun v38 h=>aH v38 (c (.func 88) [x0] h <| pz K fun v39 h=>E9 c n v1 v39 h K) (c (.func 36) [x0,(.str [63])] h <| pz K fun v41 h=>aH v41 (c (.func 89) [x0] h <| pz K fun v42 h=>Gs c n v1 v42 h K) (c (.func 75) [x0,(.int .i64 1)] h <| pz K fun v44 h=>Fp c n x0 v1 v44 h K)))))))
def Ni:G H2:=fun c n x2 x5 h K=>
 av h x2 fun v11=>bK (some (.fn (.func 91) [] [x2,x5])) fun v12=>c (.func 63) [v11,(.str [125]),v12] h <| pz K fun v13 h=>av h x5 fun v14=>K v14 h
def s78:G H2:=fun c n x0 x1 h K=>
 Ct h x0 fun v1 h=>bL h [.au] 1 fun v2 h=>av h v1 fun v3=>c (.func 55) [v3,(.str [123])] h <| pz K fun v4 h=>Ca x1 (.int .i64 0) fun v5=>aH v5 (av h v1 fun v6=>av h v1 fun v7=>c (.func 53) [v7,(.int .i64 0),(.str [125])] h <| pz K fun v8 h=>av h v1 <| bS v6 <| lJ v8 fun v9=>c (.func 52) [v6,v9] h <| pz K fun v10 h=>Ni c n v1 v2 h K) (Ni c n v1 v2 h K)
def JZ:G H2:=fun c n x2 x4 h K=>
 bK (NA true 0 8 x4) fun v3=>aL h 8 x2 v3 fun h=>gI (fF h [(x2,some (true,8))]) h K
def s79:G H1:=fun c n x0 h K=>
 bL h SQ 8 fun v1 h=>c (.func 92) [x0,(.int .i64 0)] h <| pz K fun v2 h=>JZ c n v1 v2 h K
def Ak:G (F2→H3):=fun c n B1 x0 x1 x49 h K=>
 lJ x49 fun v47=>aH v47 (K (.tup []) h) (B1 x0 x1 h)
def Aw:G (F2→H3):=fun c n B1 x0 x1 x19 h K=>
 lU 0 x19 fun v15=>lU 1 x19 fun v16=>bL h zr4 4 fun v17 h=>aL h 4 v17 v15 fun h=>dQ v16 (.int .i64 0) fun v19=>aH v19 (av h x1 fun v20=>bD v20 fun v21=>aA 2 v21 fun v22=>aV h v22 (.bool true) fun h=>K (.tup []) h) (av h x1 fun v24=>bD v24 fun v25=>aA 1 v25 fun v26=>av h v26 fun v27=>av h x1 fun v28=>bD v28 fun v29=>aA 1 v29 fun v30=>av h v30 fun v31=>eG v31 v16 fun v32=>aA 2 v17 fun v33=>aV h v33 v27 fun h=>av h x1 <| bS v28 <| av h v30 <| bS v31 <| aA 3 v17 fun v35=>aV h v35 v32 fun h=>av h x1 fun v37=>bD v37 fun v38=>aA 1 v38 fun v39=>av h v39 fun v40=>eG v40 v16 fun v41=>bD v37 fun v42=>aA 1 v42 fun v43=>aV h v43 v41 fun h=>aX h 4 v17 fun v45=>kR c x0 [v45] h <| pz K fun v46 h=>Ak c n B1 x0 x1 v46 h K)
def acv:G (F2→H2):=fun c n B1 x0 x1 h K=>
 av h x1 fun v1=>c (.func 81) [v1] h <| pz K fun v2 h=>av h x1 fun v3=>bD v3 fun v4=>aA 1 v4 fun v5=>av h v5 fun v6=>av h x1 fun v7=>bD v7 fun v8=>aA 0 v8 fun v9=>av h v9 fun v10=>pE v10 fun v11=>CF v6 v11 fun v12=>aH v12 (K (.tup []) h) (av h x1 fun v13=>c (.func 82) [v13] h <| pz K fun v14 h=>Aw c n B1 x0 x1 v14 h K)
def aak:G (Nat→H2):=fun c n=>
 @Nat.rec (fun _=>H2) (fun _ _ _ _=>false) (fun _ ih x0 x1 h K=>acv c n (fun x0 x1 h=>ih x0 x1 h K) x0 x1 h K)
def s80:G H2:=fun c n x0 x1 h K=>
 aak c n n x0 x1 h K
def Kv:G (F1→H2):=fun c n B0 x0 x3 h K=>
 bD x0 fun v41=>aA 1 v41 fun v42=>av h v42 fun v43=>eG v43 x3 fun v44=>bD x0 fun v45=>aA 1 v45 fun v46=>aV h v46 v44 fun h=>B0 x0 h
def Gb:G (F1→H3):=fun c n B0 x0 x31 x33 h K=>
 gK x31 true (dQ x33 (.int .u8 47)) fun v22=>dA x31 v22 (.bool false) fun v23=>aH v23 (bD x0 fun v24=>aA 0 v24 fun v25=>av h v25 fun v26=>bD x0 fun v27=>aA 1 v27 fun v28=>av h v28 fun v29=>R7 v26 (some v29) none fun v30=>c (.func 94) [v30,(.int .u8 10)] h <| pz K fun v31 h=>jL v31 (.int .i64 0) fun v32=>aH v32 (bD x0 fun v33=>aA 0 v33 fun v34=>av h v34 fun v35=>pE v35 fun v36=>bD x0 fun v37=>aA 1 v37 fun v38=>av h v38 fun v39=>FE v36 v39 fun v40=>Kv c n B0 x0 v40 h K) (Kv c n B0 x0 v31 h K)) (K (.tup []) h)
def Ux:G (F1→H1):=fun c n B0 x0 h K=>
 c (.func 93) [x0,(.int .i64 0)] h <| pz K fun v1 h=>dQ v1 (.int .u8 32) fun v2=>gK v2 false (bK (some v1)) fun v3=>gK v2 false (dQ v3 (.int .u8 9)) fun v4=>dA v2 (.bool true) v4 fun v5=>gK v5 false (bK (some v1)) fun v6=>gK v5 false (dQ v6 (.int .u8 13)) fun v7=>dA v5 (.bool true) v7 fun v8=>gK v8 false (bK (some v1)) fun v9=>gK v8 false (dQ v9 (.int .u8 10)) fun v10=>dA v8 (.bool true) v10 fun v11=>aH v11 (bD x0 fun v12=>aA 1 v12 fun v13=>av h v13 fun v14=>eG v14 (.int .i64 1) fun v15=>bD x0 fun v16=>aA 1 v16 fun v17=>aV h v17 v15 fun h=>B0 x0 h) (dQ v1 (.int .u8 47) fun v19=>gK v19 true (bK (some x0)) fun v20=>gP v19 true (fun k=>c (.func 93) [v20,(.int .i64 1)] h (pz K k)) h fun v21 h=>Gb c n B0 x0 v19 v21 h K)
def VD:G (Nat→H1):=fun c n=>
 @Nat.rec (fun _=>H1) (fun _ _ _=>false) (fun _ ih x0 h K=>Ux c n (fun x0 h=>ih x0 h K) x0 h K)
def Yf:G (F1→H2):=fun c n B0 x0 x3 h K=>
 bD x0 fun v88=>aA 1 v88 fun v89=>av h v89 fun v90=>eG v90 x3 fun v91=>bD x0 fun v92=>aA 1 v92 fun v93=>aV h v93 v91 fun h=>B0 x0 h
def OZ:G (F1→H3):=fun c n B0 x0 x31 x33 h K=>
 gK x31 true (dQ x33 (.int .u8 47)) fun v69=>dA x31 v69 (.bool false) fun v70=>aH v70 (bD x0 fun v71=>aA 0 v71 fun v72=>av h v72 fun v73=>bD x0 fun v74=>aA 1 v74 fun v75=>av h v75 fun v76=>R7 v73 (some v76) none fun v77=>c (.func 94) [v77,(.int .u8 10)] h <| pz K fun v78 h=>jL v78 (.int .i64 0) fun v79=>aH v79 (bD x0 fun v80=>aA 0 v80 fun v81=>av h v81 fun v82=>pE v82 fun v83=>bD x0 fun v84=>aA 1 v84 fun v85=>av h v85 fun v86=>FE v83 v86 fun v87=>Yf c n B0 x0 v87 h K) (Yf c n B0 x0 v78 h K)) (K (.tup []) h)
def ahg:G (F1→H1):=fun c n B0 x0 h K=>
 c (.func 93) [x0,(.int .i64 0)] h <| pz K fun v48 h=>dQ v48 (.int .u8 32) fun v49=>gK v49 false (bK (some v48)) fun v50=>gK v49 false (dQ v50 (.int .u8 9)) fun v51=>dA v49 (.bool true) v51 fun v52=>gK v52 false (bK (some v48)) fun v53=>gK v52 false (dQ v53 (.int .u8 13)) fun v54=>dA v52 (.bool true) v54 fun v55=>gK v55 false (bK (some v48)) fun v56=>gK v55 false (dQ v56 (.int .u8 10)) fun v57=>dA v55 (.bool true) v57 fun v58=>aH v58 (bD x0 fun v59=>aA 1 v59 fun v60=>av h v60 fun v61=>eG v61 (.int .i64 1) fun v62=>bD x0 fun v63=>aA 1 v63 fun v64=>aV h v64 v62 fun h=>B0 x0 h) (dQ v48 (.int .u8 47) fun v66=>gK v66 true (bK (some x0)) fun v67=>gP v66 true (fun k=>c (.func 93) [v67,(.int .i64 1)] h (pz K k)) h fun v68 h=>OZ c n B0 x0 v66 v68 h K)
def s81:G H1:=fun c n x0 h K=>
 ahg c n (pF1 (pC1 (VD c n n) K)) x0 h K
def OH:G H3:=fun c n x2 x3 x18 h K=>
 dK zr4 [(0,1,(.int .i64 0)),(1,1,x18)] fun v10=>aL h 4 x2 v10 fun h=>gI (fF h [(x2,some (true,4)),(x3,none)]) h K
def OX:G H3:=fun c n x2 x3 x30 h K=>
 dK zr4 [(0,1,(.int .i64 1)),(1,1,x30)] fun v17=>eG x3 (.int .i64 1) fun v18=>aL h 4 x2 v17 fun h=>gI (fF h [(x2,some (true,4)),(v18,none)]) h K
def OQ:G H3:=fun c n x2 x3 x42 h K=>
 dK zr4 [(0,1,(.int .i64 2)),(1,1,x42)] fun v26=>aL h 4 x2 v26 fun h=>gI (fF h [(x2,some (true,4)),(x3,none)]) h K
def Ah:G H2:=fun c n x2 x50 h K=>
 lU 0 x50 fun v31=>lU 1 x50 fun v32=>dK zr4 [(0,1,(.int .i64 3)),(1,1,v31)] fun v33=>aL h 4 x2 v33 fun h=>gI (fF h [(x2,some (true,4)),(v32,none)]) h K
def OE:G H3:=fun c n x2 x3 x60 h K=>
 dK zr4 [(0,1,(.int .i64 4)),(1,1,x60)] fun v38=>aL h 4 x2 v38 fun h=>gI (fF h [(x2,some (true,4)),(x3,none)]) h K
def s82:G H1:=fun c n x0 h K=>
 Ct h x0 fun v1 h=>bL h zr4 4 fun v2 h=>bK (some (.fn (.func 95) [] [v1])) fun v3=>av h v1 fun v4=>c (.func 93) [v4,(.int .i64 0)] h <| pz K fun v5 h=>c (.func 96) [v5] h <| pz K fun v6 h=>aH v6 (av h v1 fun v7=>c (.func 97) [v7,(.int .i64 0)] h <| pz K fun v8 h=>kR c v3 [(.int .i64 0),v8] h <| pz K fun v9 h=>OH c n v2 v8 v9 h K) (dQ v5 (.int .u8 36) fun v12=>aH v12 (av h v1 fun v13=>c (.func 97) [v13,(.int .i64 1)] h <| pz K fun v14 h=>Ca v14 (.int .i64 0) fun v15=>aH v15 (kR c v3 [(.int .i64 1),v14] h <| pz K fun v16 h=>OX c n v2 v14 v16 h K) (aX h 4 v2 fun v20=>aL h 4 v2 v20 fun h=>gI (fF h [(v2,some (true,4)),((.int .i64 0),none)]) h K)) (c (.func 98) [v5] h <| pz K fun v22 h=>aH v22 (av h v1 fun v23=>c (.func 99) [v23,(.int .i64 0),(.fn (.func 98) [] [])] h <| pz K fun v24 h=>kR c v3 [(.int .i64 0),v24] h <| pz K fun v25 h=>OQ c n v2 v24 v25 h K) (dQ v5 (.int .u8 34) fun v28=>aH v28 (av h v1 fun v29=>c (.func 100) [v29] h <| pz K fun v30 h=>Ah c n v2 v30 h K) (av h v1 fun v35=>c (.func 101) [v35] h <| pz K fun v36 h=>kR c v3 [(.int .i64 0),v36] h <| pz K fun v37 h=>OE c n v2 v36 v37 h K))))
def s85:G H1:=fun c n x0 h K=>
 c (.func 55) [x0,(.str [40])] h <| pz K fun v1 h=>aQ (aO h 1 1 [.str []] [(0,(.str [41]))]) fun v2 h=>c (.func 86) [x0,v2] h <| pz K fun v3 h=>c (.func 58) [x0,(.str [41])] h <| pz K fun v4 h=>K v3 h
def JN:G H3:=fun c n x0 x1 x7 h K=>
 bL h wV 19 fun v2 h=>aL h 19 v2 x7 fun h=>aX h 19 v2 fun v4=>aQ (aO h 1 19 wV [(0,v4)]) fun v5 h=>aX h 19 v2 <| bS v4 <| c (.func 61) [x0,x1] h <| pz (uZ [v5] K) fun v6 h=>aX h 19 v2 <| bS v4 <| jO h 19 328 v5 v6 fun v7 h=>K v7 h
def s86:G H2:=fun c n x0 x1 h K=>
 c (.func 77) [x0] h <| pz K fun v1 h=>JN c n x0 x1 v1 h K
def Sv:G H3:=fun c n x0 x2 x3 h K=>
 c (.func 58) [x0,(.str [41])] h <| pz K fun v25 h=>aX h 19 x3 fun v26=>aL h 19 x2 v26 fun h=>gI (fF h [(x2,some (true,19))]) h K
def J9:G (F4→H4):=fun c n B14 x0 x2 x3 x4 h K=>
 aH x4 (aA 7 x3 fun v16=>av h v16 fun v17=>aQ (aO h 2 1 [.str []] [(0,(.str [111,114])),(1,(.str [41]))]) fun v18 h=>av h v16 <| bS v17 <| c (.func 86) [x0,v18] h <| pz (uZ [v18] K) fun v19 h=>av h v16 <| bS v17 <| aQ (aO h 1 1 [.au] [(0,v19)]) fun v20 h=>av h v16 <| bS v17 <| jO h 1 24 v17 v20 fun v21 h=>aA 7 x3 fun v22=>aV h v22 v21 fun h=>c (.func 36) [x0,(.str [111,114])] h <| pz K fun v24 h=>B14 x0 x2 x3 v24 h) (Sv c n x0 x2 x3 h K)
def CQ:G (Nat→H4):=fun c n=>
 @Nat.rec (fun _=>H4) (fun _ _ _ _ _ _=>false) (fun _ ih x0 x2 x3 x4 h K=>J9 c n (fun x0 x2 x3 x4 h=>ih x0 x2 x3 x4 h K) x0 x2 x3 x4 h K)
def s87:G H1:=fun c n x0 h K=>
 bL h wV 19 fun v1 h=>dK wV [(0,1,(.int .i64 5))] fun v2=>bL h wV 19 fun v3 h=>aL h 19 v3 v2 fun h=>c (.func 55) [x0,(.str [40])] h <| pz K fun v5 h=>aA 7 v3 fun v6=>av h v6 fun v7=>aQ (aO h 2 1 [.str []] [(0,(.str [111,114])),(1,(.str [41]))]) fun v8 h=>av h v6 <| bS v7 <| c (.func 86) [x0,v8] h <| pz (uZ [v8] K) fun v9 h=>av h v6 <| bS v7 <| aQ (aO h 1 1 [.au] [(0,v9)]) fun v10 h=>av h v6 <| bS v7 <| jO h 1 24 v7 v10 fun v11 h=>aA 7 v3 fun v12=>aV h v12 v11 fun h=>aQ (aO h 1 1 [.str []] [(0,(.str [111,114]))]) fun v14 h=>c (.func 39) [x0,v14] h <| pz K fun v15 h=>CQ c n n x0 v1 v3 (.bool true) h K
def Gp:G H4:=fun c n x0 x2 x3 x30 h K=>
 aA 5 x3 fun v21=>aV h v21 x30 fun h=>c (.func 58) [x0,(.str [41])] h <| pz K fun v23 h=>aX h 19 x3 fun v24=>aL h 19 x2 v24 fun h=>gI (fF h [(x2,some (true,19))]) h K
def G5:G H4:=fun c n x0 x2 x3 x21 h K=>
 aA 8 x3 fun v14=>aL h 8 v14 x21 fun h=>c (.func 58) [x0,(.str [41])] h <| pz K fun v16 h=>aQ (aO h 1 1 [.str []] [(0,(.str [111,118,101,114]))]) fun v17 h=>c (.func 39) [x0,v17] h <| pz K fun v18 h=>aQ (aO h 1 1 [.str []] [(0,(.str [41]))]) fun v19 h=>c (.func 86) [x0,v19] h <| pz K fun v20 h=>Gp c n x0 x2 x3 v20 h K
def KI:G H3:=fun c n x0 x2 x3 h K=>
 c (.func 55) [x0,(.str [40])] h <| pz K fun v12 h=>c (.func 79) [x0] h <| pz K fun v13 h=>G5 c n x0 x2 x3 v13 h K
def GL:G H4:=fun c n x0 x2 x3 x16 h K=>
 aA 16 x3 fun v27=>aV h v27 x16 fun h=>KI c n x0 x2 x3 h K
def LC:G H3:=fun c n x0 x2 x7 h K=>
 dK wV [(0,1,(.int .i64 7)),(1,1,x7)] fun v4=>bL h wV 19 fun v5 h=>aL h 19 v5 v4 fun h=>aQ (aO h 1 1 [.str []] [(0,(.str [58]))]) fun v7 h=>c (.func 39) [x0,v7] h <| pz K fun v8 h=>c (.func 36) [x0,(.str [108,105,115,116])] h <| pz K fun v9 h=>aH v9 (aA 16 v5 fun v10=>aV h v10 (.str [108,105,115,116]) fun h=>KI c n x0 x2 v5 h K) (c (.func 54) [x0] h <| pz K fun v26 h=>GL c n x0 x2 v5 v26 h K)
def s88:G H1:=fun c n x0 h K=>
 bL h wV 19 fun v1 h=>c (.func 55) [x0,(.str [40])] h <| pz K fun v2 h=>c (.func 65) [x0] h <| pz K fun v3 h=>LC c n x0 v1 v3 h K
def Mx:G H3:=fun c n x1 x2 x5 h K=>
 dK wV [(0,1,(.int .i64 9)),(17,1,x5)] fun v5=>bL h wV 19 fun v6 h=>aL h 19 v6 v5 fun h=>av h x1 fun v8=>c (.func 55) [v8,(.str [40])] h <| pz K fun v9 h=>av h x1 fun v10=>bK (some (.fn (.func 107) [] [x1,v6])) fun v11=>c (.func 63) [v10,(.str [41]),v11] h <| pz K fun v12 h=>aX h 19 v6 fun v13=>aL h 19 x2 v13 fun h=>gI (fF h [(x2,some (true,19))]) h K
def s89:G H1:=fun c n x0 h K=>
 Ct h x0 fun v1 h=>bL h wV 19 fun v2 h=>av h v1 fun v3=>c (.func 54) [v3] h <| pz K fun v4 h=>Mx c n v1 v2 v4 h K
def Gy:G H4:=fun c n x1 x2 x3 x14 h K=>
 aA 2 x3 fun v17=>aV h v17 x14 fun h=>av h x1 fun v19=>c (.func 55) [v19,(.str [40])] h <| pz K fun v20 h=>av h x1 fun v21=>bK (some (.fn (.func 108) [] [x1,x3])) fun v22=>c (.func 63) [v21,(.str [41]),v22] h <| pz K fun v23 h=>aX h 19 x3 fun v24=>aL h 19 x2 v24 fun h=>gI (fF h [(x2,some (true,19))]) h K
def K3:G H3:=fun c n x1 x2 x3 h K=>
 av h x1 fun v15=>c (.func 54) [v15] h <| pz K fun v16 h=>Gy c n x1 x2 x3 v16 h K
def Gj:G H4:=fun c n x1 x2 x3 x8 h K=>
 aA 1 x3 fun v10=>aV h v10 x8 fun h=>av h x1 fun v12=>aQ (aO h 1 1 [.str []] [(0,(.str [58]))]) fun v13 h=>c (.func 39) [v12,v13] h <| pz K fun v14 h=>K3 c n x1 x2 x3 h K
def s90:G H1:=fun c n x0 h K=>
 Ct h x0 fun v1 h=>bL h wV 19 fun v2 h=>dK wV [(0,1,(.int .i64 1))] fun v3=>bL h wV 19 fun v4 h=>aL h 19 v4 v3 fun h=>av h v1 fun v6=>c (.func 75) [v6,(.int .i64 1)] h <| pz K fun v7 h=>aH v7 (av h v1 fun v8=>c (.func 65) [v8] h <| pz K fun v9 h=>Gj c n v1 v2 v4 v9 h K) (K3 c n v1 v2 v4 h K)
def J4:G H3:=fun c n x1 x2 x10 h K=>
 aA 1 x2 fun v11=>aL h 8 v11 x10 fun h=>av h x1 fun v13=>aX h 9 x2 fun v14=>aQ (aO h 1 9 zr3 [(0,v14)]) fun v15 h=>jO h 9 128 v13 v15 fun v16 h=>aV h x1 v16 fun h=>K (.tup []) h
def KZ:G H3:=fun c n x0 x1 x4 h K=>
 dK zr3 [(0,1,x4)] fun v3=>bL h zr3 9 fun v4 h=>aL h 9 v4 v3 fun h=>av h x0 fun v6=>aQ (aO h 1 1 [.str []] [(0,(.str [61]))]) fun v7 h=>c (.func 39) [v6,v7] h <| pz K fun v8 h=>av h x0 fun v9=>c (.func 79) [v9] h <| pz K fun v10 h=>J4 c n x1 v4 v10 h K
def s91:G H2:=fun c n x0 x1 h K=>
 av h x0 fun v1=>c (.func 54) [v1] h <| pz K fun v2 h=>KZ c n x0 x1 v2 h K
def Nf:G H2:=fun c n x4 x13 h K=>
 aL h 9 x4 x13 fun h=>gI (fF h [(x4,some (true,9))]) h K
set_option maxRecDepth 100000 in
def Hy:G (F4→H6):=fun c n B13 x0 x1 x4 x5 x19 x21 h K=>
 bL h zr4 4 fun v11 h=>aL h 4 v11 x21 fun h=>bD x0 fun v13=>aA 4 v13 fun v14=>av h v14 fun v15=>bK (uH h (.leaf .int) false .jH v15 x1) fun v16=>aA 1 v11 fun v17=>av h v17 fun v18=>bK (uH h (.leaf .str) true (.int .i64 0) v16 v18) fun v19=>lU 0 v19 fun v20=>lU 1 v19 fun v21=>lJ v21 fun v22=>gK v22 false (aA 0 v11) fun v23=>gK v22 false (av h v23) fun v24=>gK v22 false (qO v24 (.int .i64 4)) fun v25=>dA v22 (.bool true) v25 fun v26=>aH v26 (aX h 9 x5 fun v27=>aL h 9 x4 v27 fun h=>gI (fF h [(x4,some (true,9))]) h K) (bD x0 fun v29=>aA 1 v29 fun v30=>av h v30 fun v31=>eG v31 (.int .i64 1) fun v32=>bD x0 fun v33=>aA 1 v33 fun v34=>aV h v34 v32 fun h=>dK SQ [(0,1,v20)] fun v36=>aX h 9 x5 fun v37=>eG x1 (.int .i64 1) fun v38=>c (.func 92) [x0,v38] h <| pz K fun v39 h=>aX h 9 x5 <| bS v37 <| aQ (aO h 2 9 Jf [(0,v37),(1,v39)]) fun v40 h=>aX h 9 x5 <| bS v37 <| c (.func 110) [x19,v36,v40] h <| pz (uZ [v40] K) fun v41 h=>aL h 9 x5 v41 fun h=>dQ x1 (.int .i64 2) fun v43=>aH v43 (aX h 9 x5 fun v44=>aL h 9 x4 v44 fun h=>gI (fF h [(x4,some (true,9))]) h K) (B13 x0 x1 x4 x5 h))
def GH:G (F4→H5):=fun c n B13 x0 x1 x4 x5 x19 h K=>
 c (.func 71) [x0,(.int .i64 0)] h <| pz K fun v10 h=>Hy c n B13 x0 x1 x4 x5 x19 v10 h K
def Rq:G (F4→H4):=fun c n B13 x0 x1 x4 x5 h K=>
 c (.func 70) [x0] h <| pz K fun v9 h=>GH c n B13 x0 x1 x4 x5 v9 h K
def F8:G (Nat→H4):=fun c n=>
 @Nat.rec (fun _=>H4) (fun _ _ _ _ _ _=>false) (fun _ ih x0 x1 x4 x5 h K=>Rq c n (fun x0 x1 x4 x5 h=>ih x0 x1 x4 x5 h K) x0 x1 x4 x5 h K)
def GV:G H4:=fun c n x0 x1 x4 x17 h K=>
 bL h Jf 9 fun v7 h=>aL h 9 v7 x17 fun h=>F8 c n n x0 x1 x4 v7 h K
def VY:G H3:=fun c n x0 x1 x4 h K=>
 eG x1 (.int .i64 1) fun v5=>c (.func 92) [x0,v5] h <| pz K fun v6 h=>GV c n x0 x1 x4 v6 h K
def s92:G H2:=fun c n x0 x1 h K=>
 bL h Jf 9 fun v1 h=>dQ x1 (.int .i64 5) fun v2=>aH v2 (c (.func 109) [x0] h <| pz K fun v3 h=>Nf c n v1 v3 h K) (VY c n x0 x1 v1 h K)
def s93:G H2:=fun c n x0 x1 h K=>
 bD x0 fun v1=>aA 1 v1 fun v2=>av h v2 fun v3=>eG v3 x1 fun v4=>bD x0 fun v5=>aA 0 v5 fun v6=>av h v6 fun v7=>pE v7 fun v8=>CF v4 v8 fun v9=>aH v9 (K (.int .u8 0) h) (bD x0 fun v10=>aA 0 v10 fun v11=>av h v11 fun v12=>bD x0 fun v13=>aA 1 v13 fun v14=>av h v14 fun v15=>eG v15 x1 fun v16=>Ia v12 v16 fun v17=>K v17 h)
def s94:G H2:=fun c n x0 x1 h K=>
 c (.func 111) [x0,x1] h <| pz K fun v1 h=>K v1 h
def s95:G H3:=fun c n x0 x1 x2 h K=>
 av h x2 fun v1=>bD v1 fun v2=>aA 0 v2 fun v3=>av h v3 fun v4=>av h x2 fun v5=>bD v5 fun v6=>aA 1 v6 fun v7=>av h v7 fun v8=>eG v8 x0 fun v9=>av h x2 fun v10=>bD v10 fun v11=>aA 1 v11 fun v12=>av h v12 fun v13=>eG v13 x0 fun v14=>eG v14 x1 fun v15=>R7 v4 (some v9) (some v15) fun v16=>K v16 h
def s96:G H1:=fun c n x0 h K=>
 CF x0 (.int .u8 97) fun v1=>gK v1 true (bK (some x0)) fun v2=>gK v1 true (G7 v2 (.int .u8 122)) fun v3=>dA v1 v3 (.bool false) fun v4=>gK v4 false (bK (some x0)) fun v5=>gK v4 false (CF v5 (.int .u8 65)) fun v6=>gK v4 false (bK (some v6)) fun v7=>gK v7 true (bK (some x0)) fun v8=>gK v7 true (G7 v8 (.int .u8 90)) fun v9=>gK v4 false (dA v7 v9 (.bool false)) fun v10=>dA v4 (.bool true) v10 fun v11=>K v11 h
def K7:G H3:=fun c n x0 x1 x8 h K=>
 lJ x8 fun v3=>aH v3 (K (.int .i64 0) h) (c (.func 99) [x0,x1,(.fn (.func 112) [] [])] h <| pz K fun v4 h=>K v4 h)
def Ke:G H3:=fun c n x0 x1 x7 h K=>
 c (.func 96) [x7] h <| pz K fun v2 h=>K7 c n x0 x1 v2 h K
def s97:G H2:=fun c n x0 x1 h K=>
 c (.func 93) [x0,x1] h <| pz K fun v1 h=>Ke c n x0 x1 v1 h K
def s98:G H1:=fun c n x0 h K=>
 CF x0 (.int .u8 48) fun v1=>gK v1 true (bK (some x0)) fun v2=>gK v1 true (G7 v2 (.int .u8 57)) fun v3=>dA v1 v3 (.bool false) fun v4=>K v4 h
def acR:G (F4→H4):=fun c n B6 x0 x1 x2 x7 h K=>
 bD x0 fun v1=>aA 1 v1 fun v2=>av h v2 fun v3=>eG v3 x1 fun v4=>eG v4 x7 fun v5=>bD x0 fun v6=>aA 0 v6 fun v7=>av h v7 fun v8=>pE v8 fun v9=>jL v5 v9 fun v10=>gK v10 true (bK (some x2)) fun v11=>gK v10 true (bK (some x0)) fun v12=>gK v10 true (bD v12) fun v13=>gK v10 true (aA 0 v13) fun v14=>gK v10 true (av h v14) fun v15=>gK v10 true (bK (some x0)) fun v16=>gK v10 true (bD v16) fun v17=>gK v10 true (aA 1 v17) fun v18=>gK v10 true (av h v18) fun v19=>gK v10 true (bK (some x1)) fun v20=>gK v10 true (eG v19 v20) fun v21=>gK v10 true (bK (some x7)) fun v22=>gK v10 true (eG v21 v22) fun v23=>gK v10 true (Ia v15 v23) fun v24=>gP v10 true (fun k=>kR c v11 [v24] h (pz K k)) h fun v25 h=>dA v10 v25 (.bool false) fun v26=>aH v26 (eG x7 (.int .i64 1) fun v27=>B6 x0 x1 x2 v27 h) (K x7 h)
def ZC:G (Nat→H4):=fun c n=>
 @Nat.rec (fun _=>H4) (fun _ _ _ _ _ _=>false) (fun _ ih x0 x1 x2 x7 h K=>acR c n (fun x0 x1 x2 x7 h=>ih x0 x1 x2 x7 h K) x0 x1 x2 x7 h K)
def s99:G H3:=fun c n x0 x1 x2 h K=>
 ZC c n n x0 x1 x2 (.int .i64 0) h K
def Bz:G (F3→H2):=fun c n B8 x5 x30 h K=>
 eG x5 (.int .i64 1) fun v14=>K (.tup [x30,v14]) h
def Ev:G (F3→H3):=fun c n B8 x0 x4 x5 h K=>
 eG x5 (.int .i64 1) fun v22=>B8 x0 x4 v22 h
def BA:G (F3→H4):=fun c n B8 x0 x4 x5 x40 h K=>
 c (.func 94) [(.str [34,92,110,116]),x40] h <| pz K fun v18 h=>jL v18 (.int .i64 0) fun v19=>aH v19 (K (.tup [(.str []),(.int .i64 0)]) h) (Ia (.str [34,92,10,9]) v18 fun v20=>c (.func 114) [x4,v20] h <| pz K fun v21 h=>Ev c n B8 x0 x4 x5 h K)
def Ws:G (F3→H3):=fun c n B8 x0 x4 x5 h K=>
 bD x0 fun v2=>aA 1 v2 fun v3=>av h v3 fun v4=>eG v4 x5 fun v5=>bD x0 fun v6=>aA 0 v6 fun v7=>av h v7 fun v8=>pE v8 fun v9=>jL v5 v9 fun v10=>aH v10 (c (.func 93) [x0,x5] h <| pz K fun v11 h=>dQ v11 (.int .u8 34) fun v12=>aH v12 (c (.func 113) [x4] h <| pz K fun v13 h=>Bz c n B8 x5 v13 h K) (dQ v11 (.int .u8 92) fun v15=>aH v15 (eG x5 (.int .i64 1) fun v16=>c (.func 93) [x0,v16] h <| pz K fun v17 h=>BA c n B8 x0 x4 v16 v17 h K) (jL v11 (.int .u8 32) fun v23=>aH v23 (K (.tup [(.str []),(.int .i64 0)]) h) (c (.func 114) [x4,v11] h <| pz K fun v24 h=>Ev c n B8 x0 x4 x5 h K)))) (K (.tup [(.str []),(.int .i64 0)]) h)
def QF:G (Nat→H3):=fun c n=>
 @Nat.rec (fun _=>H3) (fun _ _ _ _ _=>false) (fun _ ih x0 x4 x5 h K=>Ws c n (fun x0 x4 x5 h=>ih x0 x4 x5 h K) x0 x4 x5 h K)
def agP:G H1:=fun c n x0 h K=>
 aQ (XJ h 180 [.nilPtr, .au]) fun v1 h=>QF c n n x0 v1 (.int .i64 1) h K
def Qu:G H1:=fun c n x0 h K=>
 bD x0 fun v15=>aA 0 v15 fun v16=>av h v16 fun v17=>bD x0 fun v18=>aA 1 v18 fun v19=>av h v19 fun v20=>Ia v17 v20 fun v21=>c (.func 94) [(.str [40,41,91,93,123,125,44,46,58,59,63,60,62,61,43,45,42,47,37,33]),v21] h <| pz K fun v22 h=>CF v22 (.int .i64 0) fun v23=>aH v23 (K (.int .i64 1) h) (K (.int .i64 0) h)
def XE:G (F4→H4):=fun c n B6 x0 x5 x6 x7 h K=>
 jL x7 x6 fun v3=>aH v3 (dG h 1 x5 x7 fun v4=>av h v4 fun v5=>bD x0 fun v6=>aA 0 v6 fun v7=>av h v7 fun v8=>bD x0 fun v9=>aA 1 v9 fun v10=>av h v10 fun v11=>R7 v8 (some v11) none fun v12=>c (.func 115) [v12,v5] h <| pz K fun v13 h=>aH v13 (K (.int .i64 2) h) (eG x7 (.int .i64 1) fun v14=>B6 x0 x5 x6 v14 h)) (Qu c n x0 h K)
def SE:G (Nat→H4):=fun c n=>
 @Nat.rec (fun _=>H4) (fun _ _ _ _ _ _=>false) (fun _ ih x0 x5 x6 x7 h K=>XE c n (fun x0 x5 x6 x7 h=>ih x0 x5 x6 x7 h K) x0 x5 x6 x7 h K)
def afu:G H1:=fun c n x0 h K=>
 aQ (aO h 6 1 [.str []] [(0,(.str [61,61])),(1,(.str [33,61])),(2,(.str [60,61])),(3,(.str [62,61])),(4,(.str [38,38])),(5,(.str [124,124]))]) fun v1 h=>fI v1 fun v2=>SE c n n x0 v1 v2 (.int .i64 0) h K
def z8:G H4:=fun c n x0 x1 x4 x6 h K=>
 dA x4 x6 (.bool false) fun v5=>aH v5 (aA 18 x1 fun v6=>av h v6 fun v7=>av h x0 fun v8=>c (.func 65) [v8] h <| pz K fun v9 h=>av h v6 <| bS v7 <| dK zr3 [(0,1,v9)] fun v10=>aQ (aO h 1 9 zr3 [(0,v10)]) fun v11 h=>av h v6 <| bS v7 <| av h x0 <| bS v8 <| jO h 9 128 v7 v11 fun v12 h=>aA 18 x1 fun v13=>aV h v13 v12 fun h=>av h x0 fun v15=>aQ (aO h 1 1 [.str []] [(0,(.str [63]))]) fun v16 h=>c (.func 39) [v15,v16] h <| pz K fun v17 h=>K (.tup []) h) (aA 18 x1 fun v18=>av h v18 fun v19=>av h x0 fun v20=>c (.func 79) [v20] h <| pz K fun v21 h=>av h v18 <| bS v19 <| dK zr3 [(1,8,v21)] fun v22=>aQ (aO h 1 9 zr3 [(0,v22)]) fun v23 h=>av h v18 <| bS v19 <| av h x0 <| bS v20 <| jO h 9 128 v19 v23 fun v24 h=>aA 18 x1 fun v25=>aV h v25 v24 fun h=>K (.tup []) h)
def G6:G H3:=fun c n x0 x1 x3 h K=>
 gK x3 true (av h x0) fun v3=>gP x3 true (fun k=>c (.func 53) [v3,(.int .i64 1),(.str [63])] h (pz K k)) h fun v4 h=>z8 c n x0 x1 x3 v4 h K
def agQ:G H2:=fun c n x0 x1 h K=>
 av h x0 fun v1=>c (.func 75) [v1,(.int .i64 1)] h <| pz K fun v2 h=>G6 c n x0 x1 v2 h K
set_option maxRecDepth 100000 in
def zX:G H4:=fun c n x0 x1 x5 x7 h K=>
 dA x5 x7 (.bool false) fun v5=>aH v5 (av h x0 fun v6=>c (.func 65) [v6] h <| pz K fun v7 h=>av h x0 fun v8=>aQ (aO h 1 1 [.str []] [(0,(.str [58]))]) fun v9 h=>c (.func 39) [v8,v9] h <| pz K fun v10 h=>aA 3 x1 fun v11=>av h v11 fun v12=>av h x0 fun v13=>c (.func 54) [v13] h <| pz K fun v14 h=>av h v11 <| bS v12 <| dK [.str [], .str []] [(0,1,v7),(1,1,v14)] fun v15=>aQ (aO h 1 2 [.str [], .str []] [(0,v15)]) fun v16 h=>av h v11 <| bS v12 <| av h x0 <| bS v13 <| jO h 2 32 v12 v16 fun v17 h=>aA 3 x1 fun v18=>aV h v18 v17 fun h=>K (.tup []) h) (aA 4 x1 fun v20=>av h v20 fun v21=>av h x0 fun v22=>fI v21 fun v23=>aQ (aO h 1 8 SQ [(0,(.agg SQ))]) fun v24 h=>av h v20 <| bS v21 <| av h x0 <| bS v22 <| fI v21 <| bS v23 <| c (.func 79) [v22] h <| pz (uZ [v24] K) fun v25 h=>av h v20 <| bS v21 <| fI v21 <| bS v23 <| jO h 8 112 v21 v24 fun v26 h=>dG h 8 v26 v23 fun v27=>aA 4 x1 fun v28=>aQ (bif sj v27 v28 then unit (bM h 8 v27 v25) else none) fun _ h=>aV h v28 v26 fun h=>dG h 8 v26 v23 <| bS v27 <| K (.tup []) h)
def FP:G H3:=fun c n x0 x1 x4 h K=>
 gK x4 true (av h x0) fun v3=>gP x4 true (fun k=>c (.func 53) [v3,(.int .i64 1),(.str [58])] h (pz K k)) h fun v4 h=>zX c n x0 x1 x4 v4 h K
def afv:G H2:=fun c n x0 x1 h K=>
 av h x0 fun v1=>c (.func 75) [v1,(.int .i64 1)] h <| pz K fun v2 h=>FP c n x0 x1 v2 h K
def Cy:G H2:=fun c n x2 x19 h K=>
 aL h 9 x2 x19 fun h=>gI (fF h [(x2,some (true,9))]) h K
def Cz:G H2:=fun c n x2 x37 h K=>
 aL h 9 x2 x37 fun h=>gI (fF h [(x2,some (true,9))]) h K
def xY:G H5:=fun c n x0 x2 x3 x4 x24 h K=>
 bL h Jf 9 fun v14 h=>aL h 9 v14 x24 fun h=>bD x0 fun v16=>aA 3 v16 fun v17=>av h v17 fun v18=>FE v18 (.int .i64 1) fun v19=>bD x0 fun v20=>aA 3 v20 fun v21=>aV h v21 v19 fun h=>dK SQ [(0,1,x4)] fun v23=>aX h 9 v14 fun v24=>aQ (aO h 1 9 Jf [(0,v24)]) fun v25 h=>c (.func 110) [x3,v23,v25] h <| pz K fun v26 h=>Cz c n x2 v26 h K
def tQ:G H6:=fun c n x0 x2 x3 x4 x13 Fg h K=>
 gK x13 true (lJ Fg) fun v8=>dA x13 v8 (.bool false) fun v9=>aH v9 (c (.func 121) [x0] h <| pz K fun v10 h=>Cy c n x2 v10 h K) (c (.func 74) [x0,x3] h <| pz K fun v12 h=>c (.func 109) [x0] h <| pz K fun v13 h=>xY c n x0 x2 x3 x4 v13 h K)
def uR:G H5:=fun c n x0 x2 x3 x4 x11 h K=>
 lJ x11 fun v5=>gK v5 true (bK (some x0)) fun v6=>gP v5 true (fun k=>c (.func 36) [v6,(.str [33])] h (pz K k)) h fun v7 h=>tQ c n x0 x2 x3 x4 v5 v7 h K
def Es:G H4:=fun c n x0 x2 x3 x4 h K=>
 c (.func 36) [x0,(.str [45])] h <| pz K fun v4 h=>uR c n x0 x2 x3 x4 v4 h K
def afS:G H1:=fun c n x0 h K=>
 bL h Jf 9 fun v1 h=>c (.func 70) [x0] h <| pz K fun v2 h=>c (.func 53) [x0,(.int .i64 0),(.str [33])] h <| pz K fun v3 h=>aH v3 (Es c n x0 v1 v2 (.int .i64 7) h K) (Es c n x0 v1 v2 (.int .i64 6) h K)
def Jv:G H2:=fun c n x6 x7 h K=>
 aX h 9 x7 fun v36=>aL h 9 x6 v36 fun h=>gI (fF h [(x6,some (true,9))]) h K
def Qz:G H3:=fun c n x0 x6 x7 h K=>
 aA 8 x7 fun v32=>av h v32 fun v33=>Ca v33 (.int .i64 30) fun v34=>aH v34 (c (.func 69) [x0] h <| pz K fun v35 h=>Jv c n x6 x7 h K) (Jv c n x6 x7 h K)
def Lc:G (F6→H6):=fun c n B8 x0 x6 x7 IV x13 x14 h K=>
 jL x14 x13 fun v8=>aH v8 (dG h 9 IV x14 fun v9=>aX h 9 v9 fun v10=>bL h Jf 9 fun v11 h=>aL h 9 v11 v10 fun h=>aA 0 x7 fun v13=>aA 7 v13 fun v14=>av h v14 fun v15=>aA 0 v11 fun v16=>aX h 8 v16 fun v17=>aQ (aO h 1 8 SQ [(0,v17)]) fun v18 h=>jO h 8 112 v15 v18 fun v19 h=>aA 0 x7 fun v20=>aA 7 v20 fun v21=>aV h v21 v19 fun h=>aA 8 x7 fun v23=>av h v23 fun v24=>aA 8 v11 fun v25=>av h v25 fun v26=>eG v26 (.int .i64 1) fun v27=>bK (mmV true [v24,v27]) fun v28=>aA 8 x7 fun v29=>aV h v29 v28 fun h=>eG x14 (.int .i64 1) fun v31=>B8 x0 x6 x7 IV x13 v31 h) (Qz c n x0 x6 x7 h K)
def KV:G (Nat→H6):=fun c n=>
 @Nat.rec (fun _=>H6) (fun _ _ _ _ _ _ _ _=>false) (fun _ ih x0 x6 x7 IV x13 x14 h K=>Lc c n (fun x0 x6 x7 IV x13 x14 h=>ih x0 x6 x7 IV x13 x14 h K) x0 x6 x7 IV x13 x14 h K)
def agE:G H3:=fun c n x0 x1 x2 h K=>
 aQ (mo h (none) 8 x1) fun v1 h=>bL h Jf 9 fun v2 h=>aX h 8 v1 fun v3=>dK Jf [(0,8,v3),(8,1,(.int .i64 1))] fun v4=>bL h Jf 9 fun v5 h=>aL h 9 v5 v4 fun h=>fI x2 fun v7=>KV c n n x0 v2 v5 x2 v7 (.int .i64 0) h K
def afC:G H2:=fun c n x0 x1 h K=>
 c (.func 122) [x0,x1] h <| pz K fun v1 h=>K v1 h
def zZ:G H3:=fun c n x0 x5 x7 h K=>
 dA x5 (.bool true) x7 fun v4=>gK v4 false (bK (some x0)) fun v5=>gK v4 false (dQ v5 (.int .u8 95)) fun v6=>dA v4 (.bool true) v6 fun v7=>K v7 h
def Ac:G H2:=fun c n x0 x4 h K=>
 gK x4 false (bK (some x0)) fun v2=>gP x4 false (fun k=>c (.func 98) [v2] h (pz K k)) h fun v3 h=>zZ c n x0 x4 v3 h K
def agx:G H1:=fun c n x0 h K=>
 c (.func 96) [x0] h <| pz K fun v1 h=>Ac c n x0 v1 h K
def afs:G H1:=fun c n x0 h K=>
 bD x0 fun v1=>aA 1 v1 fun v2=>av h v2 fun v3=>bK (K5 v3) fun v4=>bD x0 fun v5=>aA 1 v5 fun v6=>av h v6 fun v7=>fI v7 fun v8=>aQ (IE h 5 v4 v8) fun v9 h=>K v9 h
def agf:G H2:=fun c n x0 x1 h K=>
 c (.func 123) [x0] h <| pz K fun v1 h=>bD x0 fun v2=>aA 1 v2 fun v3=>av h v3 fun v4=>aQ (aO h 1 1 [.int .u8 0] [(0,x1)]) fun v5 h=>aQ (aej h 5 v4 v5) fun v6 h=>bD x0 fun v7=>aA 1 v7 fun v8=>aV h v8 v6 fun h=>K .iC h
def afA:G H2:=fun c n x0 x1 h K=>
 c (.func 124) [x0,x1] h <| pz K fun v1 h=>K v1 h
def xK:G (F3→H5):=fun c n B5 x0 x2 x3 x4 x10 h K=>
 lJ x10 fun v7=>aH v7 (aX h 9 x3 fun v8=>aL h 9 x2 v8 fun h=>gI (fF h [(x2,some (true,9))]) h K) (aX h 9 x3 fun v10=>aQ (aO h 1 9 Jf [(0,v10)]) fun v11 h=>aX h 9 x3 <| bS v10 <| c (.func 54) [x0] h <| pz (uZ [v11] K) fun v12 h=>aX h 9 x3 <| bS v10 <| dK SQ [(0,1,(.int .i64 4)),(1,1,v12)] fun v13=>c (.func 110) [x4,v13,v11] h <| pz (uZ [v11] K) fun v14 h=>aL h 9 x3 v14 fun h=>B5 x0 x2 x3 h)
def SF:G (F3→H3):=fun c n B5 x0 x2 x3 h K=>
 c (.func 70) [x0] h <| pz K fun v5 h=>c (.func 36) [x0,(.str [46])] h <| pz K fun v6 h=>xK c n B5 x0 x2 x3 v5 v6 h K
def FJ:G (Nat→H3):=fun c n=>
 @Nat.rec (fun _=>H3) (fun _ _ _ _ _=>false) (fun _ ih x0 x2 x3 h K=>SF c n (fun x0 x2 x3 h=>ih x0 x2 x3 h K) x0 x2 x3 h K)
def FZ:G H3:=fun c n x0 x2 x6 h K=>
 bL h Jf 9 fun v3 h=>aL h 9 v3 x6 fun h=>FJ c n n x0 x2 v3 h K
def agc:G H1:=fun c n x0 h K=>
 bL h Jf 9 fun v1 h=>c (.func 126) [x0] h <| pz K fun v2 h=>FZ c n x0 v1 v2 h K
def E5:G H2:=fun c n x7 x10 h K=>
 bK (V9 h 180 2 [] x10) fun v7=>bD x7 fun v8=>aA 0 v8 fun v9=>aV h v9 v7 fun h=>K (.tup []) h
def aga:G H1:=fun c n x0 h K=>
 bD x0 fun v1=>aA 0 v1 fun v2=>av h v2 fun v3=>bK (Ja h false .ptr v3 .nilPtr) fun v4=>aH v4 (bK (Xn h x0) fun v5=>c (.func 127) [v5] h <| pz K fun v6 h=>E5 c n x0 v6 h K) (bD x0 fun v11=>aA 0 v11 fun v12=>av h v12 fun v13=>bK (Ja h true .ptr v13 x0) fun v14=>aH v14 (false) (K (.tup []) h))
def ae0:G H2:=fun c n x0 x1 h K=>
 pE x0 fun v1=>pE x1 fun v2=>CF v1 v2 fun v3=>gK v3 true (bK (some x0)) fun v4=>gK v3 true (bK (some x1)) fun v5=>gK v3 true (pE v5) fun v6=>gK v3 true (R7 v4 none (some v6)) fun v7=>gK v3 true (bK (some x1)) fun v8=>gK v3 true (dQ v7 v8) fun v9=>dA v3 v9 (.bool false) fun v10=>K v10 h
def BP:G H2:=fun c n x2 x39 h K=>
 aL h 9 x2 x39 fun h=>gI (fF h [(x2,some (true,9))]) h K
def wY:G H3:=fun c n x1 x2 x23 h K=>
 lU 0 x23 fun v15=>lU 1 x23 fun v16=>av h x1 fun v17=>bK (Ja h false .ifn v16 .iC) fun v18=>c (.func 52) [v17,v18] h <| pz K fun v19 h=>av h x1 fun v20=>bD v20 fun v21=>aA 1 v21 fun v22=>av h v22 fun v23=>eG v23 (.int .i64 1) fun v24=>bD v20 fun v25=>aA 1 v25 fun v26=>aV h v26 v24 fun h=>dK zr5 [(0,1,(.int .i64 2)),(2,1,v15)] fun v28=>c (.func 129) [v28] h <| pz K fun v29 h=>BP c n x2 v29 h K
def BX:G H2:=fun c n x2 x47 h K=>
 aL h 9 x2 x47 fun h=>gI (fF h [(x2,some (true,9))]) h K
def Cg:G H2:=fun c n x2 x45 h K=>
 dK zr5 [(0,1,(.int .i64 3)),(3,1,x45)] fun v36=>c (.func 129) [v36] h <| pz K fun v37 h=>BX c n x2 v37 h K
def xC:G H2:=fun c n x2 x57 h K=>
 aL h 9 x2 x57 fun h=>gI (fF h [(x2,some (true,9))]) h K
def BQ:G H2:=fun c n x2 x62 h K=>
 aL h 9 x2 x62 fun h=>gI (fF h [(x2,some (true,9))]) h K
def Cc:G H2:=fun c n x2 x68 h K=>
 dK SQ [(0,1,(.int .i64 2)),(1,1,x68)] fun v57=>dK Jf [(0,8,v57),(8,1,(.int .i64 1))] fun v58=>aL h 9 x2 v58 fun h=>gI (fF h [(x2,some (true,9))]) h K
def CG:G H3:=fun c n x1 x2 x77 h K=>
 bL h Jf 9 fun v66 h=>aL h 9 v66 x77 fun h=>av h x1 fun v68=>c (.func 58) [v68,(.str [41])] h <| pz K fun v69 h=>aX h 9 v66 fun v70=>aL h 9 x2 v70 fun h=>gI (fF h [(x2,some (true,9))]) h K
def CB:G H2:=fun c n x2 x92 h K=>
 aL h 9 x2 x92 fun h=>gI (fF h [(x2,some (true,9))]) h K
def Ci:G H2:=fun c n x2 x106 h K=>
 aL h 9 x2 x106 fun h=>gI (fF h [(x2,some (true,9))]) h K
def BJ:G H4:=fun c n x1 x2 x3 x99 h K=>
 bL h Jf 9 fun v90 h=>aL h 9 v90 x99 fun h=>av h x1 fun v92=>c (.func 58) [v92,(.str [41])] h <| pz K fun v93 h=>dK SQ [(0,1,(.int .i64 21))] fun v94=>aX h 9 v90 fun v95=>aQ (aO h 1 9 Jf [(0,v95)]) fun v96 h=>c (.func 110) [x3,v94,v96] h <| pz K fun v97 h=>Ci c n x2 v97 h K
def Cq:G H2:=fun c n x2 x126 h K=>
 aL h 9 x2 x126 fun h=>gI (fF h [(x2,some (true,9))]) h K
def Cv:G H5:=fun c n x1 x2 x3 x10 x118 h K=>
 bL h Jf 9 fun XY h=>aL h 9 XY x118 fun h=>av h x1 fun abA=>c (.func 58) [abA,(.str [41])] h <| pz K fun ND h=>dK SQ [(0,1,(.int .i64 22))] fun v116=>aX h 9 x10 fun v117=>aX h 9 XY fun v118=>aQ (aO h 2 9 Jf [(0,v117),(1,v118)]) fun v119 h=>c (.func 110) [x3,v116,v119] h <| pz K fun v120 h=>Cq c n x2 v120 h K
def Cr:G H4:=fun c n x1 x2 x3 x113 h K=>
 bL h Jf 9 fun v105 h=>aL h 9 v105 x113 fun h=>av h x1 fun v107=>aQ (aO h 1 1 [.str []] [(0,(.str [44]))]) fun ads h=>c (.func 39) [v107,ads] h <| pz K fun v109 h=>av h x1 fun acf=>c (.func 92) [acf,(.int .i64 0)] h <| pz K fun abd h=>Cv c n x1 x2 x3 v105 abd h K
def yL:G H2:=fun c n x2 x128 h K=>
 dK SQ [(0,1,(.int .i64 3)),(1,1,x128)] fun v124=>dK Jf [(0,8,v124),(8,1,(.int .i64 1))] fun v125=>aL h 9 x2 v125 fun h=>gI (fF h [(x2,some (true,9))]) h K
set_option maxRecDepth 100000 in
def Au:G H5:=fun c n x1 x2 x3 x4 x48 h K=>
 aH x48 (aA 1 x4 fun v41=>av h v41 fun v42=>dQ v42 (.str [116,114,117,101]) fun v43=>dK zr5 [(0,1,(.int .i64 1)),(1,1,v43)] fun v44=>c (.func 129) [v44] h <| pz K fun v45 h=>xC c n x2 v45 h K) (av h x1 fun v47=>c (.func 36) [v47,(.str [110,117,108,108])] h <| pz K fun v48 h=>aH v48 (dK zr5 [] fun v49=>c (.func 129) [v49] h <| pz K fun v50 h=>BQ c n x2 v50 h K) (aA 0 x4 fun v52=>av h v52 fun v53=>dQ v53 (.int .i64 1) fun v54=>aH v54 (av h x1 fun v55=>c (.func 65) [v55] h <| pz K fun v56 h=>Cc c n x2 v56 h K) (av h x1 fun v60=>c (.func 53) [v60,(.int .i64 0),(.str [40])] h <| pz K fun v61 h=>aH v61 (av h x1 fun v62=>c (.func 55) [v62,(.str [40])] h <| pz K fun v63 h=>av h x1 fun v64=>c (.func 92) [v64,(.int .i64 0)] h <| pz K fun v65 h=>CG c n x1 x2 v65 h K) (av h x1 fun v72=>c (.func 53) [v72,(.int .i64 0),(.str [91])] h <| pz K fun v73 h=>aH v73 (bL h [.au] 1 fun v74 h=>av h x1 fun v75=>c (.func 55) [v75,(.str [91])] h <| pz K fun v76 h=>av h x1 fun v77=>bK (some (.fn (.func 130) [] [v74,x1])) fun v78=>c (.func 63) [v77,(.str [93]),v78] h <| pz K fun v79 h=>dK SQ [(0,1,(.int .i64 5))] fun v80=>av h v74 fun v81=>c (.func 110) [x3,v80,v81] h <| pz K fun v82 h=>CB c n x2 v82 h K) (av h x1 fun v84=>c (.func 36) [v84,(.str [115,105,122,101])] h <| pz K fun v85 h=>aH v85 (av h x1 fun v86=>c (.func 55) [v86,(.str [40])] h <| pz K fun v87 h=>av h x1 fun v88=>c (.func 92) [v88,(.int .i64 0)] h <| pz K fun v89 h=>BJ c n x1 x2 x3 v89 h K) (av h x1 fun v99=>c (.func 36) [v99,(.str [104,97,115])] h <| pz K fun TV h=>aH TV (av h x1 fun abO=>c (.func 55) [abO,(.str [40])] h <| pz K fun v102 h=>av h x1 fun v103=>c (.func 92) [v103,(.int .i64 0)] h <| pz K fun v104 h=>Cr c n x1 x2 x3 v104 h K) (av h x1 fun v122=>c (.func 54) [v122] h <| pz K fun agR h=>yL c n x2 agR h K)))))))
def aeY:G H1:=fun c n x0 h K=>
 Ct h x0 fun v1 h=>bL h Jf 9 fun v2 h=>av h v1 fun v3=>av h v1 fun v4=>bL h zr4 4 fun v5 h=>av h v1 <| bS v3 <| av h v1 <| bS v4 <| c (.func 70) [v3] h <| pz (uZ [v5] K) fun v6 h=>av h v1 <| bS v4 <| c (.func 71) [v4,(.int .i64 0)] h <| pz (uZ [v5] K) fun v7 h=>aL h 4 v5 v7 fun h=>aA 0 v5 fun v9=>av h v9 fun v10=>dQ v10 (.int .i64 2) fun v11=>aH v11 (aA 1 v5 fun v12=>av h v12 fun v13=>c (.func 76) [v13,(.int .i64 10),(.int .i64 64)] h <| pz K fun v14 h=>wY c n v1 v2 v14 h K) (aA 0 v5 fun v31=>av h v31 fun v32=>dQ v32 (.int .i64 3) fun v33=>aH v33 (av h v1 fun v34=>c (.func 73) [v34] h <| pz K fun v35 h=>Cg c n v2 v35 h K) (av h v1 fun v39=>c (.func 36) [v39,(.str [116,114,117,101])] h <| pz K fun v40 h=>aH v40 (Au c n v1 v2 v6 v5 v40 h K) (av h v1 fun v127=>c (.func 36) [v127,(.str [102,97,108,115,101])] h <| pz K fun v128 h=>Au c n v1 v2 v6 v5 v128 h K)))
def afP:G H1:=fun c n x0 h K=>
 aQ (mo h (none) 5 x0) fun v1 h=>bL h Jf 9 fun v2 h=>aX h 5 v1 fun v3=>dK SQ [(0,1,(.int .i64 1)),(2,5,v3)] fun v4=>dK Jf [(0,8,v4),(8,1,(.int .i64 1))] fun v5=>aL h 9 v2 v5 fun h=>gI (fF h [(v2,some (true,9))]) h K
def afz:G H2:=fun c n x0 x1 h K=>
 av h x0 fun v1=>av h x1 fun v2=>c (.func 92) [v2,(.int .i64 0)] h <| pz K fun v3 h=>av h x0 <| bS v1 <| aQ (aO h 1 9 Jf [(0,v3)]) fun v4 h=>av h x0 <| bS v1 <| av h x1 <| bS v2 <| jO h 9 120 v1 v4 fun v5 h=>aV h x0 v5 fun h=>K (.tup []) h
end
end Go.Proofs.YtbijepcediaghaaGreatDoor
