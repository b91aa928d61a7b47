/-
  Texts that the claim hangs on, part 3.
-/
import Derived.Test.YthmnnlpbnhkhkaaGreatQ1
import Derived.ChangeOld
import Derived.ChangeSame
set_option linter.unusedSimpArgs false
set_option linter.unusedVariables false
namespace Go.Ab
def ah (o:Option AV) (k:AV→Bool):Bool:=
 match o with
 |some v=>k v
 |none=>false
def bP (o:Option (AV×aj)) (k:aC):Bool:=
 match o with
 |some p=>match p with |(v,h)=>k v h
 |none=>false
def aZ (c:AV) (a b:Bool):Bool:=
 match c with
 | .bool x=>match x with |true=>a |false=>b
 |_=>false
def aB (c:AV) (b:Bool):Bool:=
 match c with
 | .bool x=>x==b
 |_=>false
def aQ (w:Bool) (o:Option AV):Option AV:=bif w then o else some (.tup [])
def Gr (w:Bool) (o:Option (AV×aj)) (h:aj):Option (AV×aj):=bif w then o else some (.tup [],h)
def ji (w:Bool) (run:aC→Bool) (h:aj) (K:aC):Bool:=bif w then run K else K (.tup []) h
def kg (call:ay) (f:AV) (args:List AV) (h:aj) (K:aC):Bool:=
 match f with
 | .fn tgt first cap=>call tgt (first++args++cap) h K
 |_=>false
def fA (o:Option AV) (u:AV) (r:Bool):Bool:=
 match o with
 |some v=>bif AV.same v u then r else false
 |none=>false
def zf (w:Bool) (o:Option AV) (u:AV) (r:Bool):Bool:=bif w then fA o u r else r
def cB (c a b:AV):Option AV:=
 match c with
 | .bool x=>match x with |true=>some a |false=>some b
 |_=>none
def ru (h:aj) (neg:Bool) (k:Vp) (a b:AV):Option AV:=
 match TN h k a b with
 |some r=>some (.bool (bif neg then !r else r))
 |none=>none
def wP (cells:List AV):List (Nat×Nat×AV)→Option (List AV)
 | []=>some cells
 |(off,n,v) :: rest=>bif Nat.beq v.cells.length n&&Nat.ble (off+n) cells.length&&aV v.cells then wP (lay cells off v.cells) rest else none
def eP (z:List AV) (ps:List (Nat×Nat×AV)):Option AV:=
 match wP z ps with
 |some l=>some (.agg l)
 |none=>none
def jG (sz:Nat) (es:List (List AV)):List (Nat×AV)→Option (List (List AV))
 | []=>some es
 |(i,v) :: rest=>bif Nat.beq v.cells.length sz&&Nat.blt i es.length&&aV v.cells then jG sz (oP es i v.cells) rest else none
def dX (h:aj) (n sz:Nat) (z:List AV) (ps:List (Nat×AV)):Option (AV×aj):=
 bif Nat.beq z.length sz&&Nat.blt 0 sz&&Nat.ble (n*sz) 16777216&&aV z then
  (match jG sz (jO n z) ps with
  |some es=>some (.slc h.sz 0 0 n n true,newRow h es sz)
  |none=>none)
 else none
def mV (d:Nat):Option AV→Option Nat
 |none=>some d
 |some v=>asNat v
def fZ (h:aj) (sz:Nat) (x:AV) (lo hi mx:Option AV):Option AV:=
 match x with
 | .slc id g s len cap ex=>
   bif jo h id sz then
   match mx with
   |some m=>match mV 0 (some m),mV len hi,mV 0 lo with
    |some m,some h,some l=>bif Nat.ble l h&&Nat.ble h m&&Nat.ble m cap&&hi.isSome then some (.slc id g (s+l) (h-l) (m-l) true) else none
    |_,_,_=>none
   |none=>match mV len hi,mV 0 lo with
    |some h,some l=>bif Nat.ble l h&&Nat.ble h cap then some (.slc id g (s+l) (h-l) (cap-l) ex) else none
    |_,_=>none
   else none
 | .nilSlc=>
   match mV 0 mx,mV 0 hi,mV 0 lo with
   |some 0,some 0,some 0=>bif mx.isNone||hi.isSome then some .nilSlc else none
   |_,_,_=>none
 | .emp=>
   match mV 0 mx,mV 0 hi,mV 0 lo with
   |some 0,some 0,some 0=>bif mx.isNone||hi.isSome then some .emp else none
   |_,_,_=>none
 |_=>none
def NP (x:AV) (lo hi:Option AV):Option AV:=
 match x with
 | .str s=>match mV s.length hi,mV 0 lo with
   |some h,some l=>bif Nat.ble l h&&Nat.ble h s.length then some (.str ((s.take h).drop l)) else none
   |_,_=>none
 |_=>none
def fG (h:aj) (z:List AV):Option (AV×aj):=vO h z
def Xz (h:aj) (t:Nat) (z:List AV):Option (AV×aj):=bif Nat.blt 0 z.length&&aV z then some (.ptr h.sz 0 0 0,newRow h [z] z.length (some t)) else none
def zJ (h:aj) (e:Nat) (s x:AV):Option (AV×aj):=cK h 1 1 s x (some e)
def mmV (mx:Bool):List AV→Option AV
 |v :: l=>XP mx v l
 | []=>none
def qN (h:aj):Option (AV×aj):=some (.map h.sz,h.push (.map [] 0))
abbrev gy:=List (Nat×AV)
def gy.get:gy→Nat→Option AV
 | [],_=>none
 |(k,v) :: l,n=>bif Nat.beq n k then some v else gy.get l n
def Has (ρ:dY) (l:gy):Prop:=∀k v,l.get k=some v→ρ.get k=some v
theorem Has.nil {ρ:dY}:Has ρ []:=fun _ _ h=>by cases h
theorem Has.set {ρ:dY} {l:gy} (H:Has ρ l) (d:Nat) (v:AV):Has (ρ.set d v) ((d,v) :: l):=by
 intro k u h
 rw[PT.get_set]
 simp only[gy.get] at h
 cases hb:Nat.beq k d with
 |true=>
  rw[hb,cond_true] at h
  rw[if_pos (Nat.eq_of_beq_eq_true hb)]
  exact h
 |false=>
  rw[hb,cond_false] at h
  rw[if_neg (fO.1 hb)]
  exact H k u h
def qM:List Nat→gy→Option gy
 | [],_=>some []
 |k :: ks,l=>match l.get k with
  |some v=>match qM ks l with
   |some m=>some ((k,v) :: m)
   |none=>none
  |none=>none
def FI:gy→dY
 | []=> .lf
 |(k,v) :: l=>(FI l).set k v
theorem Has.mk:∀{l:gy},Has (FI l) l
 | []=>Has.nil
 |(k,v) :: l=>(Has.mk (l:=l)).set k v
theorem EJ:∀{ks:List Nat} {l m:gy},qM ks l=some m→∀k v,m.get k=some v→l.get k=some v
 | [],l,m,h,k,v,e=>by simp only[qM] at h;cases h;cases e
 |k :: ks,l,m,h,j,v,e=>by
  simp only[qM] at h
  split at h
  ·rename_i u hu
   split at h
   ·rename_i m' hm
    cases h
    simp only[gy.get] at e
    cases hb:Nat.beq j k with
    |true=>rw[hb,cond_true] at e;cases e;rw[Nat.eq_of_beq_eq_true hb];exact hu
    |false=>rw[hb,cond_false] at e;exact EJ hm j v e
   ·cases h
  ·cases h
theorem Has.keep {ρ:dY} {l m:gy} (H:Has ρ l) (ks:List Nat) (h:qM ks l=some m):Has ρ m:=fun k v e=>H k v (EJ h k v e)
theorem IZ {ρ:dY}:∀{ks:List Nat} {l m:gy},Has ρ l→qM ks l=some m→keepR ks ρ=FI m
 | [],l,m,H,h=>by simp only[qM] at h;cases h;rfl
 |k :: ks,l,m,H,h=>by
  simp only[qM] at h
  split at h
  ·rename_i u hu
   split at h
   ·rename_i m' hm
    cases h
    simp only[keepR,H k u hu,FI,IZ H hm]
   ·cases h
  ·cases h
def nQ (l:gy):gJ→Option AV
 | .t r=>l.get r
 | .c v=>some v
def rJ (l:gy):List gJ→Option (List AV)
 | []=>some []
 |x :: xs=>match nQ l x with
  |some v=>match rJ l xs with
   |some vs=>some (v :: vs)
   |none=>none
  |none=>none
def Ak (l:gy):Option gJ→Option (Option AV)
 |none=>some none
 |some x=>match nQ l x with
  |some v=>some (some v)
  |none=>none
def AJ (l:gy):List (Nat×Nat×gJ)→Option (List (Nat×Nat×AV))
 | []=>some []
 |(a,b,x) :: xs=>match nQ l x with
  |some v=>match AJ l xs with
   |some vs=>some ((a,b,v) :: vs)
   |none=>none
  |none=>none
def Bh (l:gy):List (Nat×gJ)→Option (List (Nat×AV))
 | []=>some []
 |(a,x) :: xs=>match nQ l x with
  |some v=>match Bh l xs with
   |some vs=>some ((a,v) :: vs)
   |none=>none
  |none=>none
theorem gT {ρ:dY} {l:gy} (H:Has ρ l) {x:gJ} {v:AV} (h:nQ l x=some v):ev ρ x=some v:=by
 cases x with
 |t r=>exact H r v h
 |c u=>exact h
theorem uF {ρ:dY} {l:gy} (H:Has ρ l):∀{xs:List gJ} {vs:List AV},rJ l xs=some vs→evs ρ xs=some vs
 | [],vs,h=>by simpa[rJ,evs] using h
 |x :: xs,vs,h=>by
  simp only[rJ] at h
  split at h
  ·rename_i v hv
   split at h
   ·rename_i vs' hvs
    cases h
    simp only[evs,gT H hv,uF H hvs]
   ·cases h
  ·cases h
theorem qK {ρ:dY} {l:gy} (H:Has ρ l) {d:Nat} {x:Option gJ} {o:Option AV} (h:Ak l x=some o):kT ρ d x=mV d o∧x.isSome=o.isSome∧x.isNone=o.isNone∧(x=none↔o=none):=by
 cases x with
 |none=>simp only[Ak] at h;cases h;exact⟨rfl,rfl,rfl,by simp⟩
 |some x=>
  simp only[Ak] at h
  split at h
  ·rename_i v hv
   cases h
   exact⟨by simp only[kT,gT H hv,mV],rfl,rfl,by simp⟩
  ·cases h
theorem JH {ρ:dY} {l:gy} (H:Has ρ l):∀{ps:List (Nat×Nat×gJ)} {vs:List (Nat×Nat×AV)} {cells:List AV},AJ l ps=some vs→rT ρ cells ps=wP cells vs
 | [],vs,cells,h=>by simp only[AJ] at h;cases h;rfl
 |(a,b,x) :: ps,vs,cells,h=>by
  simp only[AJ] at h
  split at h
  ·rename_i v hv
   split at h
   ·rename_i vs' hvs
    cases h
    simp only[rT,wP,gT H hv]
    rw[JH H hvs]
   ·cases h
  ·cases h
theorem zl {ρ:dY} {l:gy} (H:Has ρ l) {sz:Nat}:∀{ps:List (Nat×gJ)} {vs:List (Nat×AV)} {es:List (List AV)},Bh l ps=some vs→jR ρ sz es ps=jG sz es vs
 | [],vs,es,h=>by simp only[Bh] at h;cases h;rfl
 |(a,x) :: ps,vs,es,h=>by
  simp only[Bh] at h
  split at h
  ·rename_i v hv
   split at h
   ·rename_i vs' hvs
    cases h
    simp only[jR,jG,gT H hv]
    rw[zl H hvs]
   ·cases h
  ·cases h
def l1 (l:gy) (x:gJ) (f:AV→Option AV):Option (Option AV):=
 match nQ l x with
 |some v=>some (f v)
 |none=>none
def l2 (l:gy) (x y:gJ) (f:AV→AV→Option AV):Option (Option AV):=
 match nQ l x with
 |some v=>match nQ l y with
  |some w=>some (f v w)
  |none=>none
 |none=>none
def kM (l:gy) (h:aj) (op:rU):Option (Option AV):=
 match op with
 | .mv x=>match nQ l x with
   |some v=>some (some v)
   |none=>none
 | .pick c a b=>match nQ l c,nQ l a,nQ l b with
   |some c,some a,some b=>some (cB c a b)
   |_,_,_=>none
 | .build z ps=>match AJ l ps with
   |some vs=>some (eP z vs)
   |none=>none
 | .load ag n a=>l1 l a (au h ag n)
 | .nilck x=>l1 l x bK
 | .bin op x y=>l2 l x y (aR op)
 | .eq neg k x y=>l2 l x y (ru h neg k)
 | .not x=>l1 l x fT
 | .neg x=>l1 l x U8
 | .conv k x=>l1 l x (lW k)
 | .b2s x=>l1 l x (K8 h)
 | .cvs x=>l1 l x WT
 | .mkfn f a b=>match rJ l a with
   |some a=>match rJ l b with
    |some b=>some (some (.fn (.func f) a b))
    |none=>none
   |none=>none
 | .sl sz x lo hi mx=>match nQ l x,Ak l lo,Ak l hi,Ak l mx with
   |some v,some lo,some hi,some mx=>some (fZ h sz v lo hi mx)
   |_,_,_,_=>none
 | .sls x lo hi=>match nQ l x,Ak l lo,Ak l hi with
   |some v,some lo,some hi=>some (NP v lo hi)
   |_,_,_=>none
 | .fadr off x=>l1 l x (aH off)
 | .fld ag off n x=>l1 l x (Qe ag off n)
 | .iadr sz x i=>l2 l x i (bS h sz)
 | .iadra len esz x i=>l2 l x i (Fx len esz)
 | .idxs x i=>l2 l x i C9
 | .idxa ag len esz x i=>l2 l x i (NT ag len esz)
 | .look kk ok z m k=>l2 l m k (fC h kk ok z)
 | .ext x i=>l1 l x (gX i)
 | .len k x=>l1 l x (dw h k)
 | .cap x=>l1 l x JK
 | .mm mx xs=>match rJ l xs with
   |some vs=>some (mmV mx vs)
   |none=>none
 | .ent x=>l1 l x (U4 h)
 | .uto x=>l1 l x (Uv h)
 | .ufr t n x=>l1 l x (Ux h t n)
 | .sdat x=>l1 l x NW
 |_=>none
def tZ (l:gy) (h:aj) (op:rU):Option (Option (AV×aj)):=
 match op with
 | .alloc z=>some (fG h z)
 | .box n x=>match nQ l x with
   |some v=>some (iY h n v)
   |none=>none
 | .bslice n sz z ps=>match Bh l ps with
   |some vs=>some (dX h n sz z vs)
   |none=>none
 | .store n a v=>match nQ l a,nQ l v with
   |some a,some v=>some (unit (bT h n a v))
   |_,_=>none
 | .mkmap=>some (qN h)
 | .mksl sz bytes z a c=>match nQ l a,nQ l c with
   |some a,some c=>some (sG h sz bytes z a c)
   |_,_=>none
 | .mupd kk m k v=>match nQ l m,nQ l k,nQ l v with
   |some m,some k,some v=>some (unit (kQ h kk m k v))
   |_,_,_=>none
 | .app sz bytes s x=>match nQ l s,nQ l x with
   |some s,some x=>some (cK h sz bytes s x)
   |_,_=>none
 | .appz sz bytes z s x=>match nQ l s,nQ l x with
   |some s,some x=>some (DR h sz bytes z s x)
   |_,_=>none
 | .copy sz d s=>match nQ l d,nQ l s with
   |some d,some s=>some (Oi h sz d s)
   |_,_=>none
 | .del kk m k=>match nQ l m,nQ l k with
   |some m,some k=>some (unit (Dm h kk m k))
   |_,_=>none
 | .clr sz z x=>match nQ l x with
   |some v=>some (unit (K6 h sz z v))
   |none=>none
 | .rng x=>match nQ l x with
   |some v=>some (U9 h v)
   |none=>none
 | .allot t z=>some (Xz h t z)
 | .appb e s x=>match nQ l s,nQ l x with
   |some s,some x=>some (zJ h e s x)
   |_,_=>none
 | .ustr e p n=>match nQ l p,nQ l n with
   |some p,some n=>some (NC h e p n)
   |_,_=>none
 |_=>none
section
variable {ρ:dY} {l:gy} {h:aj} {op:rU}
theorem VR (H:Has ρ l) {x:gJ} {f:AV→Option AV} {o:Option AV} (e:l1 l x f=some o):zK ρ x f=o:=by
 unfold l1 at e
 split at e
 ·rename_i v hv;cases e;simp only[zK,gT H hv]
 ·cases e
theorem XD (H:Has ρ l) {x y:gJ} {f:AV→AV→Option AV} {o:Option AV} (e:l2 l x y f=some o):Tk ρ x y f=o:=by
 unfold l2 at e
 split at e
 ·rename_i v hv
  split at e
  ·rename_i w hw;cases e;simp only[Tk,gT H hv,gT H hw]
  ·cases e
 ·cases e
theorem Oq (H:Has ρ l) {sz:Nat} {v:AV} {lo hi mx:Option gJ} {a b c:Option AV} (h1:Ak l lo=some a) (h2:Ak l hi=some b) (h3:Ak l mx=some c):tN ρ h sz v lo hi mx=fZ h sz v a b c:=by
 have e1:=fun d=>qK H (d:=d) h1
 have e2:=fun d=>qK H (d:=d) h2
 have e3:=fun d=>qK H (d:=d) h3
 unfold tN fZ
 cases v<;>simp only[(e1 0).1,(e2 _).1,(e3 0).1,(e2 0).2.1,(e3 0).2.2.1]
 ·cases mx with
  |none=>
   have:c=none:=(e3 0).2.2.2.1 rfl
   subst this;rfl
  |some m=>
   cases c with
   |none=>have:=(e3 0).2.2.2.2 rfl;cases this
   |some c=>
    have:=(e3 0).1
    simp only[this]
    rfl
 ·rfl
 ·rfl
theorem jK (H:Has ρ l) {o:Option AV} (e:kM l h op=some o):dz ρ h op=dQ o h∧mH op=false:=by
 unfold kM at e
 split at e
 case h_1 x=>
  split at e
  ·rename_i v hv;cases e;simp only[dz,gT H hv,mH,and_self]
  ·cases e
 case h_2 c a b=>
  split at e
  ·rename_i c' a' b' h1 h2 h3
   cases e
   refine⟨?_,rfl⟩
   simp only[dz,gT H h1,gT H h2,gT H h3]
   cases c'<;>try rfl
   rename_i x;cases x<;>rfl
  ·cases e
 case h_3 z ps=>
  split at e
  ·rename_i vs hvs
   cases e
   refine⟨?_,rfl⟩
   simp only[dz,JH H hvs,eP]
   cases wP z vs<;>rfl
  ·cases e
 case h_7 neg k x y=>
  unfold l2 at e
  split at e
  ·rename_i v hv
   split at e
   ·rename_i w hw
    cases e
    refine⟨?_,rfl⟩
    simp only[dz,gT H hv,gT H hw,ru]
    cases TN h k v w<;>rfl
   ·cases e
  ·cases e
 case h_13 f a b=>
  split at e
  ·rename_i a' ha
   split at e
   ·rename_i b' hb
    cases e
    exact⟨by simp only[dz,uF H ha,uF H hb,dQ],rfl⟩
   ·cases e
  ·cases e
 case h_14 sz x lo hi mx=>
  split at e
  ·rename_i v a b c h0 h1 h2 h3
   cases e
   exact⟨by simp only[dz,zK,gT H h0,Oq H h1 h2 h3],rfl⟩
  ·cases e
 case h_15 x lo hi=>
  split at e
  ·rename_i v a b h0 h1 h2
   cases e
   refine⟨?_,rfl⟩
   simp only[dz,zK,gT H h0]
   congr 1
   unfold Ay NP
   cases v<;>simp only[(qK H h1).1,(qK H h2).1]
   rfl
  ·cases e
 case h_26 mx xs=>
  split at e
  ·rename_i vs hvs
   cases e
   refine⟨?_,rfl⟩
   simp only[dz,uF H hvs]
   cases vs<;>rfl
  ·cases e
 all_goals first
  |exact⟨by simp only[dz];rw[VR H e],rfl⟩
  |exact⟨by simp only[dz];rw[XD H e],rfl⟩
  |cases e
theorem uU (H:Has ρ l) {o:Option (AV×aj)} (e:tZ l h op=some o):dz ρ h op=o∧mH op=false:=by
 unfold tZ at e
 split at e
 case h_1 z=>cases e;exact⟨rfl,rfl⟩
 case h_3 n sz z ps=>
  split at e
  ·rename_i vs hvs
   cases e
   refine⟨?_,rfl⟩
   simp only[dz,dX,zl H hvs]
   rfl
  ·cases e
 case h_5=>cases e;exact⟨rfl,rfl⟩
 case h_14=>cases e;exact⟨rfl,rfl⟩
 case h_15=>
  split at e
  ·rename_i h1 h2
   cases e
   refine⟨?_,rfl⟩
   simp only[dz,gT H h1,gT H h2]
   rfl
  ·cases e
 all_goals first
  |cases e;done
  |(split at e
    ·cases e
     refine⟨?_,rfl⟩
     rename_i h1
     simp only[dz,gT H h1]
    ·cases e)
  |(split at e
    ·cases e
     refine⟨?_,rfl⟩
     rename_i h1 h2
     simp only[dz,gT H h1,gT H h2]
    ·cases e)
  |(split at e
    ·cases e
     refine⟨?_,rfl⟩
     rename_i h1 h2 h3
     simp only[dz,gT H h1,gT H h2,gT H h3]
    ·cases e)
def Le (c c':ay):Prop:=∀t a h (K K':aC),c t a h K=true→(∀v h',K v h'=true→K' v h'=true)→c' t a h K'=true
theorem lY {o:Option AV} {k:AV→Bool} (s:ah o k=true):∃v,o=some v∧k v=true:=by
 cases o with
 |none=>cases s
 |some v=>exact⟨v,rfl,s⟩
theorem uI {o:Option (AV×aj)} {k:aC} (s:bP o k=true):∃v h',o=some (v,h')∧k v h'=true:=by
 cases o with
 |none=>cases s
 |some p=>exact⟨p.1,p.2,rfl,s⟩
theorem iD (H:Has ρ l) {d:Nat} {g:AV} {b:Bool} (hg:l.get d=some g):gB ρ (some (d,b))=some (aB g b):=by
 simp only[gB,H d g hg,aB]
 cases g<;>rfl
variable {call call':ay} {Ks:TL} {d:Nat}
theorem Fz {x:gJ} {v:AV} (H:Has ρ l) (e:nQ l x=some v) (k:Has (ρ.set d v) ((d,v) :: l)→Ks v ⟨ρ.set d v,h⟩=true):gu call' ⟨some d, .mv x,none⟩ ⟨ρ,h⟩ Ks=true:=by
 simp only[gu,gB,kL,dz,gT H e,dQ,put]
 exact k (H.set d v)
theorem nH (hn:mH op=false) {o:Option (AV×aj)} (e:dz ρ h op=o) {K:aC}:kL call' ρ h op K=bP o K:=by
 rw[ku hn,e]
 cases o<;>rfl
theorem EU {o:Option AV} {k:AV→Bool} (H:Has ρ l) (e:kM l h op=some o) (s:ah o k=true) (hk:∀v,k v=true→Has (ρ.set d v) ((d,v) :: l)→Ks v ⟨ρ.set d v,h⟩=true):gu call' ⟨some d,op,none⟩ ⟨ρ,h⟩ Ks=true:=by
 obtain⟨e1,e2⟩:=jK H e
 obtain⟨v,rfl,s⟩:=lY s
 simp only[gu,gB,nH e2 e1,dQ,bP,put]
 exact hk v s (H.set d v)
theorem KA {o:Option AV} {k:AV→Bool} (H:Has ρ l) (e:kM l h op=some o) (s:ah o k=true) (hk:∀v,k v=true→Has ρ l→Ks v ⟨ρ,h⟩=true):gu call' ⟨none,op,none⟩ ⟨ρ,h⟩ Ks=true:=by
 obtain⟨e1,e2⟩:=jK H e
 obtain⟨v,rfl,s⟩:=lY s
 simp only[gu,gB,nH e2 e1,dQ,bP,put]
 exact hk v s H
theorem Et {o:Option (AV×aj)} {k:aC} (H:Has ρ l) (e:tZ l h op=some o) (s:bP o k=true) (hk:∀v h',k v h'=true→Has (ρ.set d v) ((d,v) :: l)→Ks v ⟨ρ.set d v,h'⟩=true):gu call' ⟨some d,op,none⟩ ⟨ρ,h⟩ Ks=true:=by
 obtain⟨e1,e2⟩:=uU H e
 obtain⟨v,h',rfl,s⟩:=uI s
 simp only[gu,gB,nH e2 e1,bP,put]
 exact hk v h' s (H.set d v)
theorem Ba {o:Option (AV×aj)} {k:aC} (H:Has ρ l) (e:tZ l h op=some o) (s:bP o k=true) (hk:∀v h',k v h'=true→Has ρ l→Ks v ⟨ρ,h'⟩=true):gu call' ⟨none,op,none⟩ ⟨ρ,h⟩ Ks=true:=by
 obtain⟨e1,e2⟩:=uU H e
 obtain⟨v,h',rfl,s⟩:=uI s
 simp only[gu,gB,nH e2 e1,bP,put]
 exact hk v h' s H
theorem OO {f:Nat} {xs:List gJ} {vs:List AV} {k:aC} (hc:Le call call') (H:Has ρ l) (e:rJ l xs=some vs) (s:call (.func f) vs h k=true) (hk:∀v h',k v h'=true→Has (ρ.set d v) ((d,v) :: l)→Ks v ⟨ρ.set d v,h'⟩=true):
 gu call' ⟨some d, .call (.c (.fn (.func f) [] [])) xs,none⟩ ⟨ρ,h⟩ Ks=true:=by
 simp only[gu,gB,kL,ev,uF H e,put,List.nil_append,List.append_nil]
 exact hc _ _ _ _ _ s fun v h' hv=>hk v h' hv (H.set d v)
theorem wU (hc:Le call call') {f:AV} {vs:List AV} {k k':aC} (s:kg call f vs h k=true) (hk:∀v h',k v h'=true→k' v h'=true):kg call' f vs h k'=true:=by
 unfold kg at s ⊢
 cases f<;>first |(cases s;done)|exact hc _ _ _ _ _ s hk
theorem pK {x:gJ} {f:AV} {xs:List gJ} {vs:List AV} (H:Has ρ l) (ef:nQ l x=some f) (e:rJ l xs=some vs) {K:aC}:kL call' ρ h (.call x xs) K=kg call' f vs h K:=by
 simp only[kL,gT H ef,uF H e,kg]
 cases f<;>rfl
theorem LY {x:gJ} {f:AV} {xs:List gJ} {vs:List AV} {k:aC} (hc:Le call call') (H:Has ρ l) (ef:nQ l x=some f) (e:rJ l xs=some vs) (s:kg call f vs h k=true) (hk:∀v h',k v h'=true→Has (ρ.set d v) ((d,v) :: l)→Ks v ⟨ρ.set d v,h'⟩=true):
 gu call' ⟨some d, .call x xs,none⟩ ⟨ρ,h⟩ Ks=true:=by
 simp only[gu,gB,pK H ef e,put]
 exact wU hc s fun v h' hv=>hk v h' hv (H.set d v)
theorem JI {v:AV} {k k':aC} (s:AZ h v k=true) (hk:∀v h',k v h'=true→k' v h'=true):AZ h v k'=true:=by
 unfold AZ at s ⊢
 split at s<;>first |(cases s;done)|skip
 split at s<;>first |(cases s;done)|exact hk _ _ s |skip
 split at s<;>first |(cases s;done)|skip
 rename_i es clock hes
 cases hb:(!List.isEmpty _&& !List.isEmpty es&&es.all _) with
 |true=>rw[hb,cond_true] at s;cases s
 |false=>
  rw[hb,cond_false] at s
  simp only[cond_false]
  rw[List.all_eq_true] at s ⊢
  intro x hx
  have:=s x hx
  cases x with
  |none=>exact hk _ _ this
  |some e=>exact hk _ _ this
variable {j:Nat} {b:Bool} {g:AV}
theorem CF {o:Option AV} {k:AV→Bool} (H:Has ρ l) (hg:l.get j=some g) (e:kM l h op=some o) (s:ah (aQ (aB g b) o) k=true) (hk:∀v,k v=true→Has (ρ.set d v) ((d,v) :: l)→Ks v ⟨ρ.set d v,h⟩=true):gu call' ⟨some d,op,some (j,b)⟩ ⟨ρ,h⟩ Ks=true:=by
 obtain⟨e1,e2⟩:=jK H e
 simp only[gu,iD H hg]
 cases hw:aB g b with
 |true=>
  simp only[hw,aQ,cond_true] at s
  obtain⟨v,rfl,s⟩:=lY s
  simp only[nH e2 e1,dQ,bP,put]
  exact hk v s (H.set d v)
 |false=>
  simp only[hw,aQ,cond_false] at s
  exact hk _ s (H.set d _)
theorem IU {o:Option AV} {k:AV→Bool} (H:Has ρ l) (hg:l.get j=some g) (e:kM l h op=some o) (s:ah (aQ (aB g b) o) k=true) (hk:∀v,k v=true→Has ρ l→Ks v ⟨ρ,h⟩=true):gu call' ⟨none,op,some (j,b)⟩ ⟨ρ,h⟩ Ks=true:=by
 obtain⟨e1,e2⟩:=jK H e
 simp only[gu,iD H hg]
 cases hw:aB g b with
 |true=>
  simp only[hw,aQ,cond_true] at s
  obtain⟨v,rfl,s⟩:=lY s
  simp only[nH e2 e1,dQ,bP,put]
  exact hk v s H
 |false=>
  simp only[hw,aQ,cond_false] at s
  exact hk _ s H
theorem KP {o:Option (AV×aj)} {k:aC} (H:Has ρ l) (hg:l.get j=some g) (e:tZ l h op=some o) (s:bP (Gr (aB g b) o h) k=true) (hk:∀v h',k v h'=true→Has (ρ.set d v) ((d,v) :: l)→Ks v ⟨ρ.set d v,h'⟩=true):gu call' ⟨some d,op,some (j,b)⟩ ⟨ρ,h⟩ Ks=true:=by
 obtain⟨e1,e2⟩:=uU H e
 simp only[gu,iD H hg]
 cases hw:aB g b with
 |true=>
  simp only[hw,Gr,cond_true] at s
  obtain⟨v,h',rfl,s⟩:=uI s
  simp only[nH e2 e1,bP,put]
  exact hk v h' s (H.set d v)
 |false=>
  simp only[hw,Gr,cond_false] at s
  exact hk _ _ s (H.set d _)
theorem JB {o:Option (AV×aj)} {k:aC} (H:Has ρ l) (hg:l.get j=some g) (e:tZ l h op=some o) (s:bP (Gr (aB g b) o h) k=true) (hk:∀v h',k v h'=true→Has ρ l→Ks v ⟨ρ,h'⟩=true):gu call' ⟨none,op,some (j,b)⟩ ⟨ρ,h⟩ Ks=true:=by
 obtain⟨e1,e2⟩:=uU H e
 simp only[gu,iD H hg]
 cases hw:aB g b with
 |true=>
  simp only[hw,Gr,cond_true] at s
  obtain⟨v,h',rfl,s⟩:=uI s
  simp only[nH e2 e1,bP,put]
  exact hk v h' s H
 |false=>
  simp only[hw,Gr,cond_false] at s
  exact hk _ _ s H
theorem Io {x:gJ} {f:AV} {xs:List gJ} {vs:List AV} {k:aC} (hc:Le call call') (H:Has ρ l) (hg:l.get j=some g) (ef:nQ l x=some f) (e:rJ l xs=some vs) (s:ji (aB g b) (fun k=>kg call f vs h k) h k=true) (hk:∀v h',k v h'=true→Has (ρ.set d v) ((d,v) :: l)→Ks v ⟨ρ.set d v,h'⟩=true):
 gu call' ⟨some d, .call x xs,some (j,b)⟩ ⟨ρ,h⟩ Ks=true:=by
 simp only[gu,iD H hg]
 cases hw:aB g b with
 |true=>
  simp only[hw,ji,cond_true] at s
  simp only[pK H ef e,put]
  exact wU hc s fun v h' hv=>hk v h' hv (H.set d v)
 |false=>
  simp only[hw,ji,cond_false] at s
  exact hk _ _ s (H.set d _)
theorem Kh {f:Nat} {xs:List gJ} {vs:List AV} {k:aC} (hc:Le call call') (H:Has ρ l) (hg:l.get j=some g) (e:rJ l xs=some vs) (s:ji (aB g b) (fun k=>call (.func f) vs h k) h k=true) (hk:∀v h',k v h'=true→Has (ρ.set d v) ((d,v) :: l)→Ks v ⟨ρ.set d v,h'⟩=true):
 gu call' ⟨some d, .call (.c (.fn (.func f) [] [])) xs,some (j,b)⟩ ⟨ρ,h⟩ Ks=true:=by
 refine Io hc H hg (f:= .fn (.func f) [] []) rfl e ?_ hk
 simpa only[kg,List.nil_append,List.append_nil] using s
variable {ops:List dA} {Kr:dY→Bool}
theorem Bj (k:Kr ρ=true):jy [] ρ h Kr=true:=k
theorem gZ {o:dA} {v:AV} (e:(gB ρ o.grd=some true∧∃h',dz ρ h o.op=some (v,h'))∨(gB ρ o.grd=some false∧v= .tup [])) (k:jy ops (put ρ o.dst v) h Kr=true):jy (o :: ops) ρ h Kr=true:=by
 unfold jy at k ⊢
 simp only[vk]
 rcases e with⟨e1,h',e2⟩|⟨e1,rfl⟩
 ·simp only[e1,e2];exact k
 ·simp only[e1];exact k
theorem Ug {x:gJ} {v:AV} (H:Has ρ l) (e:nQ l x=some v) (k:Has (ρ.set d v) ((d,v) :: l)→jy ops (ρ.set d v) h Kr=true):jy (⟨some d, .mv x,none⟩ :: ops) ρ h Kr=true:=
 gZ (v:=v) (.inl ⟨rfl,h,by simp only[dz,gT H e,dQ]⟩) (k (H.set d v))
theorem Y0 {x:gJ} {v:AV} (H:Has ρ l) (e:nQ l x=some v) (k:Has (ρ.set d v) ((d,v) :: l)→jy ops (ρ.set d v) h Kr=true):jy (⟨some d, .mv x,none⟩ :: ops) ρ h Kr=true:=
 gZ (v:=v) (.inl ⟨rfl,h,by simp only[dz,gT H e,dQ]⟩) (k (H.set d v))
theorem Er {o:Option AV} {k:AV→Bool} (H:Has ρ l) (e:kM l h op=some o) (s:ah o k=true) (hk:∀v,k v=true→Has (ρ.set d v) ((d,v) :: l)→jy ops (ρ.set d v) h Kr=true):jy (⟨some d,op,none⟩ :: ops) ρ h Kr=true:=by
 obtain⟨e1,e2⟩:=jK H e
 obtain⟨v,rfl,s⟩:=lY s
 exact gZ (v:=v) (.inl ⟨rfl,h,e1⟩) (hk v s (H.set d v))
theorem Df {o:Option AV} {k:AV→Bool} (H:Has ρ l) (e:kM l h op=some o) (s:ah o k=true) (hk:∀v,k v=true→Has (ρ.set d v) ((d,v) :: l)→jy ops (ρ.set d v) h Kr=true):jy (⟨some d,op,none⟩ :: ops) ρ h Kr=true:=Er H e s hk
theorem Mf {o:Option AV} {k:AV→Bool} (H:Has ρ l) (e:kM l h op=some o) (s:ah o k=true) (hk:∀v,k v=true→Has ρ l→jy ops ρ h Kr=true):jy (⟨none,op,none⟩ :: ops) ρ h Kr=true:=by
 obtain⟨e1,e2⟩:=jK H e
 obtain⟨v,rfl,s⟩:=lY s
 exact gZ (v:=v) (.inl ⟨rfl,h,e1⟩) (hk v s H)
theorem KZ {o:Option AV} {k:AV→Bool} (H:Has ρ l) (hg:l.get j=some g) (e:kM l h op=some o) (s:ah (aQ (aB g b) o) k=true) (hk:∀v,k v=true→Has (ρ.set d v) ((d,v) :: l)→jy ops (ρ.set d v) h Kr=true):jy (⟨some d,op,some (j,b)⟩ :: ops) ρ h Kr=true:=by
 obtain⟨e1,e2⟩:=jK H e
 cases hw:aB g b with
 |true=>
  simp only[hw,aQ,cond_true] at s
  obtain⟨v,rfl,s⟩:=lY s
  exact gZ (v:=v) (.inl ⟨by simp only[iD H hg,hw],h,e1⟩) (hk v s (H.set d v))
 |false=>
  simp only[hw,aQ,cond_false] at s
  exact gZ (v:= .tup []) (.inr ⟨by simp only[iD H hg,hw],rfl⟩) (hk _ s (H.set d _))
theorem Jh {o:Option AV} {k:AV→Bool} (H:Has ρ l) (hg:l.get j=some g) (e:kM l h op=some o) (s:ah (aQ (aB g b) o) k=true) (hk:∀v,k v=true→Has ρ l→jy ops ρ h Kr=true):jy (⟨none,op,some (j,b)⟩ :: ops) ρ h Kr=true:=by
 obtain⟨e1,e2⟩:=jK H e
 cases hw:aB g b with
 |true=>
  simp only[hw,aQ,cond_true] at s
  obtain⟨v,rfl,s⟩:=lY s
  exact gZ (v:=v) (.inl ⟨by simp only[iD H hg,hw],h,e1⟩) (hk v s H)
 |false=>
  simp only[hw,aQ,cond_false] at s
  exact gZ (v:= .tup []) (.inr ⟨by simp only[iD H hg,hw],rfl⟩) (hk _ s H)
def lH (ρ:dY) (h:aj) (chk:List dA) (r:Bool):Bool:=bif again ρ h chk then r else false
theorem Dw {r:Bool} (s:r=true):lH ρ h [] r=true:=s
theorem yU {o:dA} {r:Bool} (e:mh ρ h o=true) (s:lH ρ h ops r=true):lH ρ h (o :: ops) r=true:=by
 unfold lH at s ⊢
 simp only[again,e,cond_true];exact s
theorem Ml {o:Option AV} {u:AV} {r q:Bool} (H:Has ρ l) (e:kM l h op=some o) (eu:l.get d=some u) (s:fA o u q=true) (k:q=true→lH ρ h ops r=true):lH ρ h (⟨some d,op,none⟩ :: ops) r=true:=by
 obtain⟨e1,e2⟩:=jK H e
 cases o with
 |none=>cases s
 |some v=>
  simp only[fA] at s
  cases hs:AV.same v u with
  |false=>rw[hs] at s;cases s
  |true=>
   rw[hs] at s
   refine yU ?_ (k s)
   simp only[mh,gB,e1,dQ,H d u eu,hs]
theorem JE {o:Option AV} {u:AV} {r q:Bool} (H:Has ρ l) (hg:l.get j=some g) (e:kM l h op=some o) (eu:l.get d=some u) (s:zf (aB g b) o u q=true) (k:q=true→lH ρ h ops r=true):lH ρ h (⟨some d,op,some (j,b)⟩ :: ops) r=true:=by
 obtain⟨e1,e2⟩:=jK H e
 cases hw:aB g b with
 |false=>
  simp only[hw,zf,cond_false] at s
  refine yU ?_ (k s)
  simp only[mh,iD H hg,hw]
 |true=>
  simp only[hw,zf,cond_true] at s
  cases o with
  |none=>cases s
  |some v=>
   simp only[fA] at s
   cases hs:AV.same v u with
   |false=>rw[hs] at s;cases s
   |true=>
    rw[hs] at s
    refine yU ?_ (k s)
    simp only[mh,iD H hg,hw,e1,dQ,H d u eu,hs]
variable {n:Nat} {KS:sj} {σ:St}
theorem gD {ops:List dA} (s:l8 call ops σ (KS .normal)=true):dU call n (.reg ops) σ KS=true:=s
theorem gG (s:KS .normal σ=true):l8 call [] σ (KS .normal)=true:=s
theorem sN {o:dA} {K:St→Bool} (s:gu call o σ (fun _ σ'=>l8 call ops σ' K)=true):l8 call (o :: ops) σ K=true:=s
theorem kH {K:St→Bool} {x:gJ} {v:AV} (H:Has ρ l) (e:nQ l x=some v) (k:Has (ρ.set d v) ((d,v) :: l)→l8 call' ops ⟨ρ.set d v,h⟩ K=true):l8 call' (⟨some d, .mv x,none⟩ :: ops) ⟨ρ,h⟩ K=true:=sN (Fz H e k)
theorem dJ {K:St→Bool} {o:Option AV} {k:AV→Bool} (H:Has ρ l) (e:kM l h op=some o) (s:ah o k=true) (hk:∀v,k v=true→Has (ρ.set d v) ((d,v) :: l)→l8 call' ops ⟨ρ.set d v,h⟩ K=true):l8 call' (⟨some d,op,none⟩ :: ops) ⟨ρ,h⟩ K=true:=sN (EU H e s hk)
theorem lG {K:St→Bool} {o:Option (AV×aj)} {k:aC} (H:Has ρ l) (e:tZ l h op=some o) (s:bP o k=true) (hk:∀v h',k v h'=true→Has (ρ.set d v) ((d,v) :: l)→l8 call' ops ⟨ρ.set d v,h'⟩ K=true):l8 call' (⟨some d,op,none⟩ :: ops) ⟨ρ,h⟩ K=true:=sN (Et H e s hk)
theorem jT {K:St→Bool} {o:Option (AV×aj)} {k:aC} (H:Has ρ l) (e:tZ l h op=some o) (s:bP o k=true) (hk:∀v h',k v h'=true→Has ρ l→l8 call' ops ⟨ρ,h'⟩ K=true):l8 call' (⟨none,op,none⟩ :: ops) ⟨ρ,h⟩ K=true:=sN (Ba H e s hk)
theorem wD {K:St→Bool} {f:Nat} {xs:List gJ} {vs:List AV} {k:aC} (hc:Le call call') (H:Has ρ l) (e:rJ l xs=some vs) (s:call (.func f) vs h k=true) (hk:∀v h',k v h'=true→Has (ρ.set d v) ((d,v) :: l)→l8 call' ops ⟨ρ.set d v,h'⟩ K=true):
 l8 call' (⟨some d, .call (.c (.fn (.func f) [] [])) xs,none⟩ :: ops) ⟨ρ,h⟩ K=true:=sN (OO hc H e s hk)
theorem U5 {K:St→Bool} {x:gJ} {f:AV} {xs:List gJ} {vs:List AV} {k:aC} (hc:Le call call') (H:Has ρ l) (ef:nQ l x=some f) (e:rJ l xs=some vs) (s:kg call f vs h k=true) (hk:∀v h',k v h'=true→Has (ρ.set d v) ((d,v) :: l)→l8 call' ops ⟨ρ.set d v,h'⟩ K=true):
 l8 call' (⟨some d, .call x xs,none⟩ :: ops) ⟨ρ,h⟩ K=true:=sN (LY hc H ef e s hk)
theorem dM {K:St→Bool} {o:Option AV} {k:AV→Bool} (H:Has ρ l) (hg:l.get j=some g) (e:kM l h op=some o) (s:ah (aQ (aB g b) o) k=true) (hk:∀v,k v=true→Has (ρ.set d v) ((d,v) :: l)→l8 call' ops ⟨ρ.set d v,h⟩ K=true):l8 call' (⟨some d,op,some (j,b)⟩ :: ops) ⟨ρ,h⟩ K=true:=sN (CF H hg e s hk)
theorem tH {K:St→Bool} {f:Nat} {xs:List gJ} {vs:List AV} {k:aC} (hc:Le call call') (H:Has ρ l) (hg:l.get j=some g) (e:rJ l xs=some vs) (s:ji (aB g b) (fun k=>call (.func f) vs h k) h k=true) (hk:∀v h',k v h'=true→Has (ρ.set d v) ((d,v) :: l)→l8 call' ops ⟨ρ.set d v,h'⟩ K=true):
 l8 call' (⟨some d, .call (.c (.fn (.func f) [] [])) xs,some (j,b)⟩ :: ops) ⟨ρ,h⟩ K=true:=sN (Kh hc H hg e s hk)
theorem KC {n0:List dA} {rest:List (dA×List dA×List dA)} (s:jy n0 ρ h (fun ρ'=>nZ call rest ⟨ρ',h⟩ (KS .normal))=true):dU call n (.dreg n0 rest) ⟨ρ,h⟩ KS=true:=s
theorem VG (s:KS .normal σ=true):nZ call [] σ (KS .normal)=true:=s
def dK (call:ay) (chk ns:List dA) (rest:List (dA×List dA×List dA)) (K:St→Bool):TL:=fun _ σ=>
 match σ with
 |⟨ρ,h⟩=>lH ρ h chk (jy ns ρ h fun ρ=>nZ call rest ⟨ρ,h⟩ K)
theorem Q9 {act:dA} {chk ns:List dA} {rest:List (dA×List dA×List dA)} {K:St→Bool} (s:gu call act σ (dK call chk ns rest K)=true):nZ call ((act,chk,ns) :: rest) σ K=true:=by
 have e:dK call chk ns rest K=fun _ σ'=>lH σ'.regs σ'.h chk (jy ns σ'.regs σ'.h fun ρ=>nZ call rest ⟨ρ,σ'.h⟩ K):=rfl
 rw[e] at s
 simpa only[nZ,lH,jy] using s
theorem dk {chk ns:List dA} {rest:List (dA×List dA×List dA)} {K:St→Bool} {v:AV} (s:lH ρ h chk (jy ns ρ h fun ρ=>nZ call rest ⟨ρ,h⟩ K)=true):dK call chk ns rest K v ⟨ρ,h⟩=true:=s
def Ld (call:ay) (n:Nat) (b:dO) (K:sj):sj:=fun x σ'=>
 match x with
 | .normal=>dU call n b σ' K
 |x=>K x σ'
def ny (id:Nat) (K:sj):sj:=fun x σ'=>
 match x with
 | .exit i=>bif Nat.beq i id then K .normal σ' else K (.exit i) σ'
 |x=>K x σ'
def uZ (call:ay) (n:Nat) (c:dO) (K:sj) (m:Nat):sj:=fun x σ'=>
 match x with
 | .normal=>iter (dU call n c) K m σ'
 |x=>K x σ'
def xI (call:ay) (n:Nat) (l:Nat) (r:dO) (K:sj) (m:Nat):sj:=fun x σ'=>
 match x with
 | .goto l'=>bif Nat.beq l' l then pJ l (dU call n r) K m σ' else false
 |x=>K x σ'
def pG (res:List (Nat×Option (Bool×Nat))) (K:aC):sj:=fun x σ=>
 match x with
 | .normal=>(match iT σ.regs σ.h res with
   |some l=>K (oneOf l) σ.h
   |none=>false)
 | .ret=>(match iT σ.regs σ.h res with
   |some l=>K (oneOf l) σ.h
   |none=>false)
 |_=>false
theorem fD {x y:dO} (s:dU call n x σ (Ld call n y KS)=true):dU call n (.seq x y) σ KS=true:=by
 have e:Ld call n y KS=(fun x σ'=>match x with | .normal=>dU call n y σ' KS |x=>KS x σ'):=by
  funext x σ';cases x<;>rfl
 rw[e] at s;exact s
theorem oH {c:gJ} {x y:dO} {v:AV} {p q:Bool} (H:Has ρ l) (e:nQ l c=some v) (s:aZ v p q=true) (kx:p=true→dU call n x ⟨ρ,h⟩ KS=true) (ky:q=true→dU call n y ⟨ρ,h⟩ KS=true):dU call n (.cond c x y) ⟨ρ,h⟩ KS=true:=by
 simp only[dU,gT H e]
 unfold aZ at s
 cases v<;>first |(cases s;done)|skip
 rename_i t
 cases t
 ·exact ky s
 ·exact kx s
theorem kE {id:Nat} {x:dO} (s:dU call n x σ (ny id KS)=true):dU call n (.block id x) σ KS=true:=by
 have e:ny id KS=(fun x σ'=>match x with | .exit i=>bif Nat.beq i id then KS .normal σ' else KS (.exit i) σ' |x=>KS x σ'):=by
  funext x σ';cases x<;>rfl
 rw[e] at s;exact s
theorem Gp {x:dO} (s:iter (dU call n x) KS n σ=true):dU call n (.loop x) σ KS=true:=s
theorem zU {x:dO} {m:Nat} (s:dU call n x σ (uZ call n x KS m)=true):iter (dU call n x) KS (m+1) σ=true:=by
 have e:uZ call n x KS m=(fun y σ'=>match y with | .normal=>iter (dU call n x) KS m σ' |y=>KS y σ'):=by
  funext y σ';cases y<;>rfl
 rw[e] at s;exact s
theorem UM {x r:dO} {l:Nat} (s:dU call n x σ (xI call n l r KS n)=true):dU call n (.scope x l r) σ KS=true:=by
 have e:xI call n l r KS n=(fun x σ'=>match x with | .goto l'=>bif Nat.beq l' l then pJ l (dU call n r) KS n σ' else false |x=>KS x σ'):=by
  funext x σ';cases x<;>rfl
 rw[e] at s;exact s
theorem YH {r:dO} {l m:Nat} (s:dU call n r σ (xI call n l r KS m)=true):pJ l (dU call n r) KS (m+1) σ=true:=by
 have e:xI call n l r KS m=(fun x σ'=>match x with | .goto l'=>bif Nat.beq l' l then pJ l (dU call n r) KS m σ' else false |x=>KS x σ'):=by
  funext x σ';cases x<;>rfl
 rw[e] at s;exact s
theorem qg (s:KS .normal σ=true):dU call n .skip σ KS=true:=s
theorem KW {id:Nat} (s:KS (.exit id) σ=true):dU call n (.exit id) σ KS=true:=s
theorem tQ (s:KS .ret σ=true):dU call n .ret σ KS=true:=s
theorem KG {ks:List Nat} {x:dO} {m:gy} (H:Has ρ l) (e:qM ks l=some m) (s:Has (FI m) m→dU call n x ⟨FI m,h⟩ KS=true):dU call n (.keep ks x) ⟨ρ,h⟩ KS=true:=by
 simp only[dU,IZ H e];exact s Has.mk
theorem fH {y:dO} (s:dU call n y σ KS=true):Ld call n y KS .normal σ=true:=s
theorem iN {y:dO} (s:KS .ret σ=true):Ld call n y KS .ret σ=true:=s
theorem vT {y:dO} {i:Nat} (s:KS (.exit i) σ=true):Ld call n y KS (.exit i) σ=true:=s
theorem oh {id:Nat} (s:KS .normal σ=true):ny id KS .normal σ=true:=s
theorem iI {id:Nat} (s:KS .ret σ=true):ny id KS .ret σ=true:=s
theorem wm {id:Nat} (s:KS .normal σ=true):ny id KS (.exit id) σ=true:=by
 simp only[ny,Nat.beq_refl,cond_true];exact s
theorem Ke {c:dO} {m:Nat} (s:iter (dU call n c) KS m σ=true):uZ call n c KS m .normal σ=true:=s
theorem qV {c:dO} {m:Nat} (s:KS .ret σ=true):uZ call n c KS m .ret σ=true:=s
theorem tV {c:dO} {m i:Nat} (s:KS (.exit i) σ=true):uZ call n c KS m (.exit i) σ=true:=s
def Cg (l:gy):List (Nat×Option (Bool×Nat))→Option (List (AV×Option (Bool×Nat)))
 | []=>some []
 |(t,x) :: r=>match l.get t with
  |some v=>match Cg l r with
   |some vs=>some ((v,x) :: vs)
   |none=>none
  |none=>none
def mq (h:aj):List (AV×Option (Bool×Nat))→Option (List AV)
 | []=>some []
 |(v,none) :: r=>match mq h r with
  |some vs=>some (v :: vs)
  |none=>none
 |(a,some (ag,n)) :: r=>match au h ag n a with
  |some v=>match mq h r with
   |some vs=>some (v :: vs)
   |none=>none
  |none=>none
def vM (o:Option (List AV)) (h:aj) (K:aC):Bool:=
 match o with
 |some l=>K (oneOf l) h
 |none=>false
theorem sJ (H:Has ρ l):∀{res:List (Nat×Option (Bool×Nat))} {m:List (AV×Option (Bool×Nat))},Cg l res=some m→iT ρ h res=mq h m
 | [],m,e=>by simp only[Cg] at e;cases e;rfl
 |(t,x) :: r,m,e=>by
  simp only[Cg] at e
  split at e
  ·rename_i v hv
   split at e
   ·rename_i vs hvs
    cases e
    simp only[iT]
    rw[sJ H hvs]
    cases x with
    |none=>simp only[wM,H t v hv,mq];rfl
    |some p=>
     obtain⟨ag,k⟩:=p
     simp only[wM,H t v hv,mq]
     rfl
   ·cases e
  ·cases e
theorem lu {res:List (Nat×Option (Bool×Nat))} {m:List (AV×Option (Bool×Nat))} {K K':aC} (H:Has ρ l) (e:Cg l res=some m) (hK:∀v h',K v h'=true→K' v h'=true) (s:vM (mq h m) h K=true):pG res K' .ret ⟨ρ,h⟩=true:=by
 simp only[pG,sJ H e]
 cases hr:mq h m with
 |none=>rw[hr] at s;cases s
 |some vs=>rw[hr] at s;exact hK _ _ s
theorem BQ {res:List (Nat×Option (Bool×Nat))} {m:List (AV×Option (Bool×Nat))} {K K':aC} (H:Has ρ l) (e:Cg l res=some m) (hK:∀v h',K v h'=true→K' v h'=true) (s:vM (mq h m) h K=true):pG res K' .normal ⟨ρ,h⟩=true:=by
 simp only[pG,sJ H e]
 cases hr:mq h m with
 |none=>rw[hr] at s;cases s
 |some vs=>rw[hr] at s;exact hK _ _ s
def VT (call:ay) (f:AV) (regs:dY) (ps:List Nat) (asg body:dO) (h:aj) (Kx:qC→aj→Bool):Bool:=
 match f with
 | .fn (.func fid) first cap=>
   call (.func fid) (first++[.fn (.yield h.sz) [] []]++cap) (h.push (.loop {regs,ps,asg,body,st:= .ready})) fun _ h'=>
    match h'.get h.sz with
    |some (.loop l)=>match l.st with
     | .ready=>Kx .normal (h'.put h.sz (.loop {l with st:= .exh}))
     | .done x=>Kx x (h'.put h.sz (.loop {l with st:= .exh}))
     |_=>false
    |_=>false
 |_=>false
theorem Yz {f:gJ} {ps:List Nat} {asg body:dO} {v:AV} {Kx:qC→aj→Bool} (hc:Le call call') (H:Has (FI l) l) (e:nQ l f=some v) (s:VT call v (FI l) ps asg body h Kx=true) (hk:∀x h',Kx x h'=true→KS x ⟨FI l,h'⟩=true):
 dU call' n (.rf f ps asg body) ⟨FI l,h⟩ KS=true:=by
 simp only[dU,gT H e]
 unfold VT at s
 split at s
 ·rename_i fid first cap
  refine hc _ _ _ _ _ s ?_
  intro u h' hu
  split at hu
  ·rename_i lo hlo
   simp only[hlo]
   split at hu
   ·rename_i hst;simp only[hst];exact hk _ _ hu
   ·rename_i x hst;simp only[hst];exact hk _ _ hu
   ·cases hu
  ·cases hu
 ·cases s
def yu (call:ay) (n id:Nat) (args:List AV) (h:aj) (K:aC):Bool:=
 match h.get id with
 |some (.loop l)=>match l.st with
  | .ready=>match vw l.ps args l.regs with
    |some ρ=>dU call n l.asg ⟨ρ,h⟩ fun x σ=>match x with
     | .normal=>(match σ.h.get id with
       |some (.loop l1)=>match l1.st with
        | .ready=>dU call n l.body ⟨σ.regs,σ.h.put id (.loop {l1 with st:= .busy})⟩ fun x σ2=>
          match σ2.h.get id with
          |some (.loop l2)=>match x with
           | .normal=>K (.bool true) (σ2.h.put id (.loop {l2 with st:= .ready}))
           |x=>K (.bool false) (σ2.h.put id (.loop {l2 with st:= .done x}))
          |_=>false
        |_=>false
       |_=>false)
     |_=>false
    |none=>false
  |_=>false
 |_=>false
end
section
variable {call call':ay}
theorem RB (hc:Le call call') {ρ:dY} {h:aj} {op:rU} {k k':aC} (s:kL call ρ h op k=true) (hk:∀v h',k v h'=true→k' v h'=true):kL call' ρ h op k'=true:=by
 cases hi:mH op with
 |false=>
  rw[ku hi] at s ⊢
  split at s
  ·rename_i v h' e;exact hk _ _ s
  ·cases s
 |true=>
  cases op<;>first |(cases hi;done)|skip
  ·simp only[kL] at s ⊢
   split at s
   ·exact JI s hk
   ·cases s
  ·simp only[kL] at s ⊢
   split at s
   ·exact hc _ _ _ _ _ s hk
   ·cases s
theorem Jo (hc:Le call call') {o:dA} {σ:St} {k k':TL} (s:gu call o σ k=true) (hk:∀v σ',k v σ'=true→k' v σ'=true):gu call' o σ k'=true:=by
 unfold gu at s ⊢
 split at s
 ·exact RB hc s fun v h' hv=>hk _ _ hv
 ·exact hk _ _ s
 ·cases s
theorem Nt (hc:Le call call'):∀{ops:List dA} {σ:St} {k k':St→Bool},l8 call ops σ k=true→(∀σ',k σ'=true→k' σ'=true)→l8 call' ops σ k'=true
 | [],σ,k,k',s,hk=>hk _ s
 |o :: ops,σ,k,k',s,hk=>Jo hc s fun v σ' hv=>Nt hc hv hk
theorem Nu (hc:Le call call'):∀{ops:List (dA×List dA×List dA)} {σ:St} {k k':St→Bool},nZ call ops σ k=true→(∀σ',k σ'=true→k' σ'=true)→nZ call' ops σ k'=true
 | [],σ,k,k',s,hk=>hk _ s
 |(act,chk,ns) :: ops,σ,k,k',s,hk=>by
  simp only[nZ] at s ⊢
  refine Jo hc s fun v σ' hv=> ?_
  cases ha:again σ'.regs σ'.h chk with
  |false=>rw[ha] at hv;cases hv
  |true=>
   rw[ha] at hv
   simp only[cond_true] at hv ⊢
   split at hv
   ·exact Nu hc hv hk
   ·cases hv
theorem Ns {f f':St→sj→Bool} {K K':sj} (hf:∀σ (k k':sj),f σ k=true→(∀x σ',k x σ'=true→k' x σ'=true)→f' σ k'=true) (hK:∀x σ',K x σ'=true→K' x σ'=true):∀(n:Nat) (σ:St),iter f K n σ=true→iter f' K' n σ=true
 |0,σ,s=>by cases s
 |n+1,σ,s=>by
  simp only[iter] at s ⊢
  refine hf _ _ _ s fun x σ' hx=> ?_
  cases x with
  |normal=>exact Ns hf hK n σ' hx
  |_=>exact hK _ _ hx
theorem Hz {l:Nat} {f f':St→sj→Bool} {K K':sj} (hf:∀σ (k k':sj),f σ k=true→(∀x σ',k x σ'=true→k' x σ'=true)→f' σ k'=true) (hK:∀x σ',K x σ'=true→K' x σ'=true):∀(n:Nat) (σ:St),pJ l f K n σ=true→pJ l f' K' n σ=true
 |0,σ,s=>by cases s
 |n+1,σ,s=>by
  simp only[pJ] at s ⊢
  refine hf _ _ _ s fun x σ' hx=> ?_
  cases x with
  |goto l'=>
   simp only at hx ⊢
   cases hb:Nat.beq l' l with
   |false=>rw[hb] at hx;cases hx
   |true=>rw[hb] at hx;exact Hz hf hK n σ' hx
  |_=>exact hK _ _ hx
theorem Gg (hc:Le call call') {n:Nat}:∀{c:dO} {σ:St} {K K':sj},dU call n c σ K=true→(∀x σ',K x σ'=true→K' x σ'=true)→dU call' n c σ K'=true:=by
 intro c
 induction c with
 |skip=>intro σ K K' s hk;exact hk _ _ s
 |reg ops=>intro σ K K' s hk;exact Nt hc s fun σ'=>hk _ _
 |dreg n0 rest=>
  intro σ K K' s hk
  simp only[dU] at s ⊢
  split at s
  ·exact Nu hc s fun σ'=>hk _ _
  ·cases s
 |seq a b iha ihb=>
  intro σ K K' s hk
  simp only[dU] at s ⊢
  refine iha s fun x σ' hx=> ?_
  cases x with
  |normal=>exact ihb hx hk
  |_=>exact hk _ _ hx
 |cond o a b iha ihb=>
  intro σ K K' s hk
  simp only[dU] at s ⊢
  split at s
  ·exact iha s hk
  ·exact ihb s hk
  ·cases s
 |block id a ih=>
  intro σ K K' s hk
  simp only[dU] at s ⊢
  refine ih s fun x σ' hx=> ?_
  cases x with
  |exit i=>
   simp only at hx ⊢
   cases hb:Nat.beq i id with
   |true=>rw[hb] at hx;exact hk _ _ hx
   |false=>rw[hb] at hx;exact hk _ _ hx
  |_=>exact hk _ _ hx
 |loop a ih=>
  intro σ K K' s hk
  exact Ns (f:=dU call n a) (f':=dU call' n a) (fun σ k k' s' hk'=>ih s' hk') hk n σ s
 |rf f ps asg body iha ihb=>
  intro σ K K' s hk
  simp only[dU] at s ⊢
  split at s
  ·refine hc _ _ _ _ _ s fun v h' hv=> ?_
   split at hv
   ·rename_i lo hlo
    (try simp only[hlo])
    split at hv
    ·rename_i hst;(try simp only[hst]);exact hk _ _ hv
    ·rename_i x hst;(try simp only[hst]);exact hk _ _ hv
    ·cases hv
   ·cases hv
  ·cases s
 |exit id=>intro σ K K' s hk;exact hk _ _ s
 |scope a l r iha ihr=>
  intro σ K K' s hk
  simp only[dU] at s ⊢
  refine iha s fun x σ' hx=> ?_
  cases x with
  |goto l'=>
   simp only at hx ⊢
   cases hb:Nat.beq l' l with
   |false=>rw[hb] at hx;cases hx
   |true=>rw[hb] at hx;exact Hz (f:=dU call n r) (f':=dU call' n r) (fun σ k k' s' hk'=>ihr s' hk') hk n σ' hx
  |_=>exact hk _ _ hx
 |label l=>intro σ K K' s hk;exact hk _ _ s
 |goto l=>intro σ K K' s hk;exact hk _ _ s
 |ret=>intro σ K K' s hk;exact hk _ _ s
 |refuse=>intro σ K K' s hk;cases s
 |keep ks a ih=>intro σ K K' s hk;exact ih s hk
theorem OU (hc:Le call call') {n id:Nat} {args:List AV} {h:aj} {K K':aC} (s:yu call n id args h K=true) (hK:∀v h',K v h'=true→K' v h'=true):yu call' n id args h K'=true:=by
 unfold yu at s ⊢
 split at s
 rotate_left
 ·cases s
 rename_i l hl
 (try simp only[hl])
 split at s
 rotate_left
 ·cases s
 rename_i hst
 (try simp only[hst])
 split at s
 rotate_left
 ·cases s
 rename_i ρ hρ
 (try simp only[hρ])
 refine Gg hc s fun x σ hx=> ?_
 cases x<;>first |(cases hx;done)|skip
 simp only at hx ⊢
 split at hx
 rotate_left
 ·cases hx
 rename_i l1 hl1
 (try simp only[hl1])
 split at hx
 rotate_left
 ·cases hx
 rename_i hst1
 (try simp only[hst1])
 refine Gg hc hx fun x σ2 hx2=> ?_
 split at hx2
 rotate_left
 ·cases hx2
 rename_i l2 hl2
 (try simp only[hl2])
 cases x<;>exact hK _ _ hx2
def vU (E:Env):Prop:=∀f p,E.prim f=some p→∀(call call':ay) n args h (K K':aC),Le call call'→(∀v h',K v h'=true→K' v h'=true)→p call n args h K=true→p call' n args h K'=true
theorem tK {E:Env} (hp:vU E):∀n,Le (aD E n) (aD E n)
 |0=>fun _ _ _ _ _ s _=>by cases s
 |n+1=>by
  intro t a h K K' s hK
  have ih:=tK hp n
  cases t with
  |yield id=>exact OU ih s hK
  |func f=>
   simp only[aD] at s ⊢
   cases hpf:E.prim f with
   |some p=>
    simp only[hpf] at s ⊢
    exact hp f p hpf _ _ n a h K K' ih hK s
   |none=>
   simp only[hpf] at s ⊢
   split at s
   ·cases s
   ·rename_i fn hf
    (try simp only[hf])
    cases hb:Nat.beq a.length fn.np with
    |false=>rw[hb] at s;cases s
    |true=>
     rw[hb] at s
     simp only[cond_true] at s ⊢
     refine Gg ih s fun x σ hx=> ?_
     cases x<;>first |(cases hx;done)|skip
     all_goals
      simp only at hx ⊢
      split at hx
      ·rename_i vs hvs
       (try simp only[hvs])
       exact hK _ _ hx
      ·cases hx
end
section
variable {call call':ay} {n id:Nat} {h:aj} {σ:St} {K K':aC}
def wW (id:Nat) (K:aC) (x:qC) (h:aj):Bool:=
 match h.get id with
 |some (.loop l2)=>match x with
  | .normal=>K (.bool true) (h.put id (.loop {l2 with st:= .ready}))
  |x=>K (.bool false) (h.put id (.loop {l2 with st:= .done x}))
 |_=>false
def wV (id:Nat) (h:aj) (k:aj→Bool):Bool:=
 match h.get id with
 |some (.loop l1)=>match l1.st with
  | .ready=>k (h.put id (.loop {l1 with st:= .busy}))
  |_=>false
 |_=>false
def Je (id:Nat) (K:aC):sj:=fun x σ2=>wW id K x σ2.h
def LK (call:ay) (n id:Nat) (body:dO) (K:aC):sj:=fun x σ=>
 match x with
 | .normal=>wV id σ.h fun h=>dU call n body ⟨σ.regs,h⟩ (Je id K)
 |_=>false
theorem Ve (hK:∀v h',K v h'=true→K' v h'=true) {x:qC} (s:wW id K x h=true):wW id K' x h=true:=by
 unfold wW at s ⊢
 split at s
 ·cases x<;>exact hK _ _ s
 ·cases s
theorem Fh (hK:∀v h',K v h'=true→K' v h'=true) {x:qC} (s:wW id K x σ.h=true):Je id K' x σ=true:=Ve hK s
theorem TJ {body:dO} {ρ:dY} {k:aj→Bool} (s:wV id h k=true) (hk:∀h',k h'=true→dU call n body ⟨ρ,h'⟩ (Je id K)=true):LK call n id body K .normal ⟨ρ,h⟩=true:=by
 show wV id h (fun h=>dU call n body ⟨ρ,h⟩ (Je id K))=true
 unfold wV at s ⊢
 split at s
 ·split at s
  ·exact hk _ s
  ·cases s
 ·cases s
theorem PY {regs ρ:dY} {ps:List Nat} {args:List AV} {asg body:dO} (hg:h.get id=some (.loop {regs,ps,asg,body,st:= .ready})) (hp:vw ps args regs=some ρ) (s:dU call n asg ⟨ρ,h⟩ (LK call n id body K)=true):yu call n id args h K=true:=by
 unfold yu
 simp only[hg,hp]
 have e:LK call n id body K=(fun x σ=>match x with
  | .normal=>(match σ.h.get id with
    |some (.loop l1)=>match l1.st with
     | .ready=>dU call n body ⟨σ.regs,σ.h.put id (.loop {l1 with st:= .busy})⟩ fun x σ2=>
       match σ2.h.get id with
       |some (.loop l2)=>match x with
        | .normal=>K (.bool true) (σ2.h.put id (.loop {l2 with st:= .ready}))
        |x=>K (.bool false) (σ2.h.put id (.loop {l2 with st:= .done x}))
       |_=>false
     |_=>false
    |_=>false)
  |_=>false):=by
  funext x σ
  cases x<;>rfl
 rw[e] at s
 exact s
end
abbrev Sh:=ay→Nat→List AV→aj→aC→Bool
def eT (E:Env) (k:Nat) (s:Sh):Prop:=∀(call call':ay) n args h (K K':aC),Le call call'→(∀v h',K v h'=true→K' v h'=true)→s call n args h K=true→
 ∃fn,E.code k=some fn∧args.length=fn.np∧dU call' n fn.body ⟨vH 0 args .lf,h⟩ (pG fn.res K')=true
theorem down {E:Env} (hp:vU E) {k:Nat} (hk:E.prim k=none) {s:Sh} (hs:eT E k s) {n:Nat} {args:List AV} {h:aj} {K:aC} (e:s (aD E n) n args h K=true):aD E (n+1) (.func k) args h K=true:=by
 obtain⟨fn,h1,h2,h3⟩:=hs (aD E n) (aD E n) n args h K K (tK hp n) (fun _ _ h=>h) e
 simp only[aD,hk,h1,h2,Nat.beq_refl,cond_true]
 have e:pG fn.res K=(fun x σ=>match x with
  | .normal=>(match iT σ.regs σ.h fn.res with
    |some l=>K (oneOf l) σ.h
    |none=>false)
  | .ret=>(match iT σ.regs σ.h fn.res with
    |some l=>K (oneOf l) σ.h
    |none=>false)
  |_=>false):=by
  funext x σ;cases x<;>rfl
 rw[e] at h3
 exact h3
theorem wC {E:Env} {n id:Nat} {regs ρ:dY} {ps:List Nat} {args:List AV} {asg body:dO} {h:aj} {K:aC} (hg:h.get id=some (.loop {regs,ps,asg,body,st:= .ready})) (hp:vw ps args regs=some ρ)
 (s:dU (aD E n) n asg ⟨ρ,h⟩ (LK (aD E n) n id body K)=true):aD E (n+1) (.yield id) args h K=true:=by
 have e:aD E (n+1) (.yield id) args h K=yu (aD E n) n id args h K:=rfl
 rw[e]
 exact PY hg hp s
abbrev gm (d x:Nat):dA:=⟨some d, .mv (.t x),none⟩
abbrev Ef (K K':aC):Prop:=∀v h',K v h'=true→K' v h'=true
abbrev F0:=aj→Bool
abbrev F1:=AV→F0
abbrev F2:=AV→F1
abbrev F3:=AV→F2
abbrev F4:=AV→F3
abbrev F5:=AV→F4
abbrev F6:=AV→F5
abbrev F7:=AV→F6
inductive gM {α β:Type} (R:α→β→Prop):List α→List β→Prop
 |nil:gM R [] []
 |cons {a:α} {b:β} {l:List α} {m:List β} (h:R a b) (t:gM R l m):gM R (a :: l) (b :: m)
theorem gM.length {α β:Type} {R:α→β→Prop} {l:List α} {m:List β} (h:gM R l m):l.length=m.length:=by
 induction h with
 |nil=>rfl
 |cons _ _ ih=>simp[ih]
theorem gM.mono {α β:Type} {R S:α→β→Prop} (k:∀a b,R a b→S a b) {l:List α} {m:List β} (h:gM R l m):gM S l m:=by
 induction h with
 |nil=>exact .nil
 |cons h _ ih=>exact .cons (k _ _ h) ih
theorem gM.get {α β:Type} {R:α→β→Prop} {l:List α} {m:List β} (h:gM R l m):∀{i:Nat} {b:β},m[i]? =some b→∃a,l[i]? =some a∧R a b:=by
 induction h with
 |nil=>intro i b e;simp at e
 |cons h _ ih=>
  intro i b e
  cases i with
  |zero=>simp at e;subst e;exact⟨_,by simp,h⟩
  |succ i=>simp at e;simpa using ih e
theorem gM.take {α β:Type} {R:α→β→Prop} {l:List α} {m:List β} (h:gM R l m):∀n,gM R (l.take n) (m.take n):=by
 induction h with
 |nil=>intro n;simp;exact .nil
 |cons h _ ih=>
  intro n
  cases n with
  |zero=>simp;exact .nil
  |succ n=>simp;exact .cons h (ih n)
theorem gM.append {α β:Type} {R:α→β→Prop} {l:List α} {m:List β} (h:gM R l m) {l':List α} {m':List β} (h':gM R l' m'):gM R (l++l') (m++m'):=by
 induction h with
 |nil=>exact h'
 |cons h _ ih=>exact .cons h ih
mutual
def bulk {H:Type}:DataW H→Nat
 | .lit (.string bytes)=>bytes.length+1
 | .lit _=>1
 | .nil=>1
 | .ptr d=>bulk d+1
 | .slice elems spare=>lD elems+lD spare+1
 | .agg parts=>lD parts+1
 | .iface _ d=>bulk d+1
 | .map entries=>pV entries+1
 | .held _=>1
def lD {H:Type}:List (DataW H)→Nat
 | []=>0
 |d :: r=>bulk d+lD r
def pV {H:Type}:List (Lit×DataW H)→Nat
 | []=>0
 |x :: r=>EG x+pV r
def EG {H:Type}:Lit×DataW H→Nat
 |(.string bytes,d)=>bytes.length+bulk d+1
 |(_,d)=>bulk d+1
end
def sF {α:Type} (sz:α→Nat):List α→Nat
 | []=>0
 |x :: l=>sz x+sF sz l
theorem qR {α:Type} {sz:α→Nat} (h:∀x,1≤sz x):∀(l:List α),l.length≤sF sz l
 | []=>Nat.le_refl _
 |x :: l=>by have:=qR h l;have:=h x;simp[sF];omega
theorem xQ {α:Type} {sz:α→Nat}:∀(l:List α) (n:Nat),sF sz (l.take n)≤sF sz l
 | [],n=>by simp
 |x :: l,0=>by simp[sF]
 |x :: l,n+1=>by have:=xQ (sz:=sz) l n;simp[sF];omega
theorem qO {α:Type} {sz:α→Nat}:∀{l:List α} {x:α},x∈l→sz x≤sF sz l
 |y :: l,x,h=>by
  rcases List.mem_cons.1 h with rfl |h
  ·simp[sF]
  ·have:=qO (sz:=sz) h;simp[sF];omega
def Ext (h h':aj):Prop:=h.sz≤h'.sz∧∀id o,h.get id=some o→h'.get id=some o
theorem Ext.refl (h:aj):Ext h h:=⟨Nat.le_refl _,fun _ _ e=>e⟩
theorem Ext.trans {a b c:aj} (h:Ext a b) (k:Ext b c):Ext a c:=⟨Nat.le_trans h.1 k.1,fun id o e=>k.2 id o (h.2 id o e)⟩
theorem Ext.row {h h':aj} (e:Ext h h') {id:Nat} {r:Row} (hr:h.row id=some r):h'.row id=some r:=aj.row_some.2 (e.2 id _ (aj.row_some.1 hr))
section
variable {H:Type} {enc:TypeId×Value→H} {P:Program} {W:World} {held:Bool}
abbrev Rd (α:Type):=aj→List AV→α→Prop
def wo {α:Type} (R:Rd α):Prop:=∀h h' a x,Ext h h'→R h a x→R h' a x
abbrev pF (enc:TypeId×Value→H) (P:Program) (W:World) (held:Bool) {α:Type} (t:TypeId) (n:Nat) (sz:α→Nat) (R:Rd α) (fuel:Nat):Prop:=
 ∀(cs:List Value) (d:DataW H) (ps:List MemPlace),DataW.trod enc P W 0 (fun _=>true) held fuel t cs=some (d,ps)→∀φ h,dI P (.of W.heap.size) φ h W→
  (∀(W':World) (sp':Nat→Bool),(∀k:Nat,k<W.heap.size→W'.heap[k]? =W.heap[k]?)→(∀p∈ps,sp' p.block=true)→DataW.trod enc P W' 0 sp' held fuel t cs=some (d,ps))∧
  ∃φ' h' avs x,φ.le φ'∧Ext h h'∧dI P (.of W.heap.size) φ' h' W∧dH φ' avs cs∧avs.length=n∧aV avs=true∧R h' avs x∧sz x≤bulk d
def In (enc:TypeId×Value→H) (P:Program) (W:World) (held:Bool) {α:Type} (t:TypeId) (n:Nat) (sz:α→Nat) (R:Rd α):Prop:=
 ∀(fuel:Nat),pF enc P W held t n sz R fuel
theorem pF.zero {α:Type} {t:TypeId} {n:Nat} {sz:α→Nat} {R:Rd α}:pF enc P W held t n sz R 0:=by
 intro cs d ps ht
 simp[DataW.trod] at ht
theorem pF.conv {α β:Type} {t:TypeId} {n:Nat} {sz:α→Nat} {R:Rd α} {fuel:Nat} (I:pF enc P W held t n sz R fuel) {sz':β→Nat} {S:Rd β} (k:∀h a x,R h a x→∃y,S h a y∧sz' y≤sz x):pF enc P W held t n sz' S fuel:=by
 intro cs d ps ht φ h HH
 obtain⟨h1,φ',h',avs,x,a1,a2,a3,a4,a5,a6,a7,a8⟩:=I cs d ps ht φ h HH
 obtain⟨y,b1,b2⟩:=k h' avs x a7
 exact⟨h1,φ',h',avs,y,a1,a2,a3,a4,a5,a6,b1,Nat.le_trans b2 a8⟩
theorem In.conv {α β:Type} {t:TypeId} {n:Nat} {sz:α→Nat} {R:Rd α} (I:In enc P W held t n sz R) {sz':β→Nat} {S:Rd β} (k:∀h a x,R h a x→∃y,S h a y∧sz' y≤sz x):In enc P W held t n sz' S:=by
 intro fuel cs d ps ht φ h HH
 obtain⟨h1,φ',h',avs,x,a1,a2,a3,a4,a5,a6,a7,a8⟩:=I fuel cs d ps ht φ h HH
 obtain⟨y,b1,b2⟩:=k h' avs x a7
 exact⟨h1,φ',h',avs,y,a1,a2,a3,a4,a5,a6,b1,Nat.le_trans b2 a8⟩
def Jq:Rd Bool:=fun _ a b=>a=[.bool b]
def yI (k:IntKind):Rd Int:=fun _ a n=>a=[.int k n]∧k.min≤n∧n≤k.max
def yx:Rd (List Nat):=fun _ a s=>a=[.str s]∧∀b∈s,b<256
theorem In.bool {t:TypeId} (hu:P.underlying t=some .bool):In enc P W held t 1 (fun _:Bool=>1) Jq:=by
 intro fuel cs d ps ht φ h HH
 cases fuel with
 |zero=>simp[DataW.trod] at ht
 |succ fuel=>
  unfold DataW.trod at ht
  rw[hu] at ht
  split at ht<;>simp only[reduceCtorEq,Option.some.injEq] at * <;>try(cases ht;done)
  rename_i b h1
  simp only[Prod.mk.injEq] at ht
  obtain⟨rfl,rfl⟩:=ht
  refine⟨fun W' sp' _ _=> ?_,φ,h,[.bool b],b,φ.le_refl,Ext.refl h,HH, .cons (.bool _) .nil,rfl,rfl,rfl,by simp[bulk]⟩
  unfold DataW.trod;rw[hu]
theorem In.int {t:TypeId} {k:IntKind} (hu:P.underlying t=some (.int k)):In enc P W held t 1 (fun _:Int=>1) (yI k):=by
 intro fuel cs d ps ht φ h HH
 cases fuel with
 |zero=>simp[DataW.trod] at ht
 |succ fuel=>
  have ht0:=ht
  unfold DataW.trod at ht
  rw[hu] at ht
  split at ht<;>simp only[reduceCtorEq,Option.some.injEq,TypeDesc.int.injEq] at * <;>try(cases ht;done)
  rename_i k' k'' n h1
  subst h1
  split at ht
  ·rename_i hc
   obtain⟨rfl,hw⟩:=hc
   simp only[Option.some.injEq,Prod.mk.injEq] at ht
   obtain⟨rfl,rfl⟩:=ht
   simp only[Lit.wf,Bool.and_eq_true,decide_eq_true_eq] at hw
   refine⟨fun W' sp' _ _=> ?_,φ,h,[.int _ n],n,φ.le_refl,Ext.refl h,HH, .cons (.int _ _) .nil,rfl,rfl,⟨rfl,hw⟩,by simp[bulk]⟩
   unfold DataW.trod;rw[hu];simp[Lit.wf,hw]
  ·cases ht
theorem In.str {t:TypeId} (hu:P.underlying t=some .string):In enc P W held t 1 (fun s:List Nat=>s.length+1) yx:=by
 intro fuel cs d ps ht φ h HH
 cases fuel with
 |zero=>simp[DataW.trod] at ht
 |succ fuel=>
  unfold DataW.trod at ht
  rw[hu] at ht
  split at ht<;>simp only[reduceCtorEq,Option.some.injEq] at * <;>try(cases ht;done)
  rename_i s h1
  split at ht
  ·rename_i hs
   simp only[Option.some.injEq,Prod.mk.injEq] at ht
   obtain⟨rfl,rfl⟩:=ht
   refine⟨fun W' sp' _ _=> ?_,φ,h,[.str (s.data.toList.map UInt8.toNat)],_,φ.le_refl,Ext.refl h,HH, .cons (.str rfl) .nil,rfl,rfl,⟨rfl, ?_⟩,by simp[bulk]⟩
   ·unfold DataW.trod;rw[hu];simp[hs]
   ·intro b hb
    obtain⟨u,_,rfl⟩:=List.mem_map.1 hb
    exact u.toNat_lt
  ·cases ht
def DY {α:Type} (n:Nat) (R:Rd α):Rd (List α):=fun h a l=>
 (l=[]∧(a=[.nilSlc]∨a=[.emp]))∨∃id cap r,a=[.slc id 0 0 l.length cap true]∧h.row id=some r∧r.rw=false∧r.m=0∧r.g=0∧r.sz=n∧l.length≤cap∧cap=r.es.length∧gM (R h) (r.es.take l.length) l
theorem DY.mono {α:Type} {n:Nat} {R:Rd α} (hR:wo R):wo (DY n R):=by
 intro h h' a l e hh
 rcases hh with hh |⟨id,cap,r,h1,h2,h3,h4,h5,h6,h7,h8,h9⟩
 ·exact .inl hh
 ·exact .inr ⟨id,cap,r,h1,e.row h2,h3,h4,h5,h6,h7,h8,h9.mono fun a b=>hR h h' a b e⟩
theorem qd {a:Addr} {i:Nat} {W:World} {v:Value} (h:W.cell? (a.add i)=some v):a.add i=⟨a.block,a.off+i,none⟩:=by
 have hspot:(a.add i).spot=none:=by
  cases hsp:(a.add i).spot with
  |none=>rfl
  |some s=>
   simp only[World.cell?] at h
   split at h
   ·simp[hsp] at h
   ·cases h
 unfold Addr.add at hspot ⊢
 split
 ·rename_i h0
  subst h0
  rw[if_pos rfl] at hspot
  cases a
  simp_all
 ·rfl
theorem HZ {a:Addr} {i n:Nat} {cells:List Value} (hn:0<n) (h:W.cells? 0 (a.add (i*n)) n=some cells):cells.length=n∧∀(j:Nat) v,cells[j]? =some v→W.cell? ⟨a.block,a.off+i*n+j,none⟩=some v:=by
 obtain⟨_,hl,hc⟩:=World.cells?_some h
 refine⟨hl,fun j v hj=> ?_⟩
 have hjl:=(List.getElem?_eq_some_iff.1 hj).1
 have h1:=hc j (by omega)
 rw[hj] at h1
 have h0:=hc 0 hn
 have hcell0:∃v0,cells[0]? =some v0:=⟨cells[0],by simp⟩
 obtain⟨v0,hv0⟩:=hcell0
 rw[hv0] at h0
 have e1:a.add (i*n)=⟨a.block,a.off+i*n,none⟩:=by
  have:(a.add (i*n)).add 0=a.add (i*n):=by unfold Addr.add;simp
  rw[this] at h0
  exact qd h0
 rw[e1] at h1
 have e2:=qd h1
 rw[e2] at h1
 exact h1
theorem Ck {φ:eO} {a:Addr} {n:Nat} (hn:0<n):∀{s:Nat} {k:Nat} {es:List (List AV)},gM (fun i e=>∃cells,W.cells? 0 (a.add (i*n)) n=some cells∧dH φ e cells∧e.length=n∧aV e=true) (List.range' s k) es→
 ∃vals,dH φ es.flatten vals∧∀(j:Nat) v,vals[j]? =some v→W.cell? ⟨a.block,a.off+s*n+j,none⟩=some v
 |s,0,es,h=>by
  cases h
  exact⟨[],by simp;exact .nil,by simp⟩
 |s,k+1,es,h=>by
  rw[List.range'_succ] at h
  cases h with
  |cons h t=>
   rename_i e es
   obtain⟨cells,c1,c2,c3,c4⟩:=h
   obtain⟨vals,v1,v2⟩:=Ck hn t
   obtain⟨q1,q2⟩:=HZ hn c1
   refine⟨cells++vals,by simpa using c2.append v1,fun j v hj=> ?_⟩
   by_cases hjn:j<n
   ·rw[List.getElem?_append_left (by omega)] at hj
    exact q2 j v hj
   ·rw[List.getElem?_append_right (by omega),q1] at hj
    have:=v2 (j-n) v hj
    have e:a.off+s*n+j=a.off+(s+1)*n+(j-n):=by rw[Nat.add_mul];omega
    rw[e];exact this
theorem sW {α β:Type} {f:α→Option β} {x:α} {l:List α} {r:List β} (h:(x :: l).mapM f=some r):∃y m,f x=some y∧l.mapM f=some m∧r=y :: m:=by
 rw[List.mapM_cons] at h
 cases hx:f x with
 |none=>simp[hx] at h
 |some y=>
  cases hl:l.mapM f with
  |none=>simp[hx,hl] at h
  |some m=>simp[hx,hl] at h;exact⟨y,m,rfl,rfl,h.symm⟩
theorem y9 {α:Type} {e:TypeId} {n:Nat} {sz:α→Nat} {R:Rd α} (hR:wo R) (fuel:Nat) (I:pF enc P W held e n sz R fuel) (a:Addr) (hn:P.cellsOf e=n):∀(l:List Nat) (xs:List (DataW H×List MemPlace)),
 l.mapM (fun i=>(W.cells? 0 (a.add (i*P.cellsOf e)) (P.cellsOf e)).bind (DataW.trod enc P W 0 (fun _=>true) held fuel e))=some xs→∀φ h,dI P (.of W.heap.size) φ h W→
  (∀(W':World) (sp':Nat→Bool),(∀k:Nat,k<W.heap.size→W'.heap[k]? =W.heap[k]?)→(∀p∈xs.flatMap (·.2),sp' p.block=true)→0<n→l.mapM (fun i=>(W'.cells? 0 (a.add (i*P.cellsOf e)) (P.cellsOf e)).bind (DataW.trod enc P W' 0 sp' held fuel e))=some xs)∧
  ∃φ' h' es ys,φ.le φ'∧Ext h h'∧dI P (.of W.heap.size) φ' h' W∧gM (fun i e=>∃cells,W.cells? 0 (a.add (i*n)) n=some cells∧dH φ' e cells∧e.length=n∧aV e=true) l es∧gM (R h') es ys∧sF sz ys≤lD (xs.map (·.1))
 | [],xs,hm,φ,h,HH=>by
   simp at hm;subst hm
   exact⟨fun _ _ _ _ _=>by simp,φ,h,[],[],φ.le_refl,Ext.refl h,HH, .nil, .nil,by simp[sF]⟩
 |i :: l,xs,hm,φ,h,HH=>by
  obtain⟨y,m,hy,hm',rfl⟩:=sW hm
  rw[hn] at hy
  cases hc:W.cells? 0 (a.add (i*n)) n with
  |none=>rw[hc] at hy;cases hy
  |some cells=>
   rw[hc] at hy
   simp only[Option.bind_some] at hy
   obtain⟨y1,y2⟩:=y
   obtain⟨b1,φ1,h1,avs,x,a1,a2,a3,a4,a5,a6,a7,a8⟩:=I cells y1 y2 hy φ h HH
   obtain⟨b2,φ2,h2,es,ys,c1,c2,c3,c4,c5,c6⟩:=y9 hR fuel I a hn l m hm' φ1 h1 a3
   refine⟨fun W' sp' hW hp hpos=> ?_,φ2,h2,avs :: es,x :: ys,eO.le_trans a1 c1,a2.trans c2,c3, .cons ⟨cells,hc,a4.mono c1,a5,a6⟩ c4, .cons (hR _ _ _ _ c2 a7) c5,by simp[sF,lD];omega⟩
   rw[List.mapM_cons]
   have hk:=b2 W' sp' hW (fun p hpp=>hp p (by simp[List.flatMap_cons];exact .inr (by simpa using hpp))) hpos
   have hcells:W'.cells? 0 (a.add (i*n)) n=some cells:=by
    refine World.cells?_carry hc fun p hpp=> ?_
    obtain⟨k,hk,rfl⟩:=MemPlace.mem_row.1 hpp
    have hblk:=World.cells?_block hc (by omega)
    show W'.cell? _=W.cell? _
    simp only[World.cell?]
    rw[hW _ hblk]
   rw[hn] at hk ⊢
   rw[hcells]
   simp only[Option.bind_some]
   rw[b1 W' sp' hW (fun p hpp=>hp p (by simp[List.flatMap_cons];exact .inl hpp))]
   simp[hk]
theorem dI.pushRO {φ:eO} {h:aj} (HH:dI P (.of W.heap.size) φ h W) {r:Row} (hrw:r.rw=false) {L:Loc} (hL:L.blk<W.heap.size) (hnd:∀ds:Option (List Deferred),W.heap[L.blk]? ≠some (Obj.deferred ds)) (ho:iC (φ.add h.sz 0 L) h.sz r W):
 dI P (.of W.heap.size) (φ.add h.sz 0 L) (h.push (.row r)) W:=by
 have hle:φ.le (φ.add h.sz 0 L):=eO.le_add L (HH.fresh 0)
 have hget:∀id o',(h.push (.row r)).get id=some o'→(id=h.sz∧o'= .row r)∨(id<h.sz∧h.get id=some o'):=by
  intro id o' e
  rw[aj.get_push] at e
  by_cases hi:id=h.sz
  ·rw[if_pos hi] at e;cases e;exact .inl ⟨hi,rfl⟩
  ·rw[if_neg hi] at e
   refine .inr ⟨?_,e⟩
   rcases Nat.lt_or_ge id h.sz with h1 |h1
   ·exact h1
   ·rw[HH.gone id h1] at e;cases e
 have hphi:∀id g K,φ.add h.sz 0 L id g=some K→(id=h.sz∧g=0∧K=L)∨φ id g=some K:=by
  intro id g K e
  by_cases hk:id=h.sz∧g=0
  ·obtain⟨rfl,rfl⟩:=hk;rw[eO.add_same] at e;cases e;exact .inl ⟨rfl,rfl,rfl⟩
  ·rw[eO.add_other _ _ hk] at e;exact .inr e
 refine⟨HH.base, ?_, ?_, ?_, ?_, ?_, ?_, ?_, ?_,fun id o e=>(by cases e)⟩
 ·intro id g K e
  rcases hphi id g K e with⟨rfl,_,_⟩|e
  ·simp
  ·have:=HH.dom id g K e;simp;omega
 ·intro id hid
  simp at hid
  rw[aj.get_push]
  by_cases hi:id=h.sz
  ·exact⟨_,by rw[if_pos hi]⟩
  ·rw[if_neg hi];exact HH.there id (by omega)
 ·intro id hid
  simp at hid
  rw[aj.get_push,if_neg (by omega)]
  exact HH.gone id (by omega)
 ·intro id o e _
  rcases hget id o e with⟨rfl,rfl⟩|⟨hid,e⟩
  ·exact ho
  ·exact(HH.objn id o e rfl).other hle (fun g=>eO.add_other _ _ (by omega)) (fun _ _ _=>rfl)
 ·intro id g K e
  rcases hphi id g K e with⟨_,_,rfl⟩|e
  ·exact hL
  ·exact HH.lt id g K e
 ·intro id o g K e hK
  rcases hget id o e with⟨rfl,rfl⟩|⟨hid,e⟩
  ·rcases hphi _ g K hK with⟨_,_,rfl⟩|hK
   ·exact⟨fun h1=>by simp[iq.own,hrw] at h1,fun _=>hL⟩
   ·rw[HH.fresh] at hK;cases hK
  ·rcases hphi _ g K hK with⟨rfl,_,_⟩|hK
   ·omega
   ·exact HH.own id o g K e hK
 ·intro id o id' g g' K K' e hown hK hK' hb
  rcases hget id o e with⟨rfl,rfl⟩|⟨hid,e⟩
  ·simp[iq.own,hrw] at hown
  ·rcases hphi _ g K hK with⟨rfl,_,_⟩|hK2
   ·omega
   ·rcases hphi _ g' K' hK' with⟨_,_,e3⟩|hK3
    ·have:W.heap.size≤K.blk:=(HH.own id o g K e hK2).1 hown
     rw[e3] at hb
     omega
    ·exact HH.disj id o id' g g' K K' e hown hK2 hK3 hb
 ·intro id g K hK ds
  rcases hphi id g K hK with⟨_,_,rfl⟩|hK
  ·exact hnd ds
  ·exact HH.nodef id g K hK ds
theorem pF.slice {α:Type} {t e:TypeId} {n:Nat} {sz:α→Nat} {R:Rd α} {fuel:Nat} (hu:P.underlying t=some (.slice e)) (hn:P.cellsOf e=n) (hpos:0<n) (hR:wo R) (I:pF enc P W held e n sz R fuel):
 pF enc P W held t 1 (fun l=>sF sz l+1) (DY n R) (fuel+1):=by
 intro cs d ps ht φ h HH
 ·skip
  unfold DataW.trod at ht
  rw[hu] at ht
  split at ht<;>simp only[reduceCtorEq,Option.some.injEq,TypeDesc.slice.injEq] at * <;>try(cases ht;done)
  ·rename_i e' h1
   simp only[Prod.mk.injEq] at ht
   obtain⟨rfl,rfl⟩:=ht
   refine⟨fun W' sp' _ _=> ?_,φ,h,[.nilSlc],[],φ.le_refl,Ext.refl h,HH, .cons .nilSlc .nil,rfl,rfl, .inl ⟨rfl, .inl rfl⟩,by simp[bulk,sF]⟩
   unfold DataW.trod;rw[hu];rfl
  ·rename_i e' a len cap h1
   subst h1
   split at ht
   rotate_left
   ·cases ht
   rename_i hc
   obtain⟨c1,c2,c3⟩:=hc
   simp only[if_true] at ht
   cases hel:(List.range len).mapM (fun i=>(W.cells? 0 (a.add (i*P.cellsOf e)) (P.cellsOf e)).bind (DataW.trod enc P W 0 (fun _=>true) held fuel e)) with
   |none=>rw[hel] at ht;cases ht
   |some elems=>
    rw[hel] at ht
    simp only[Option.bind_some] at ht
    cases hsp:(List.range (cap-len)).mapM (fun j=>(W.cells? 0 (a.add ((len+j)*P.cellsOf e)) (P.cellsOf e)).bind (DataW.trod enc P W 0 (fun _=>true) held fuel e)) with
    |none=>rw[hsp] at ht;cases ht
    |some rest=>
     rw[hsp] at ht
     simp only[Option.map_some,Option.some.injEq,Prod.mk.injEq] at ht
     obtain⟨rfl,rfl⟩:=ht
     have hsp':(List.range' len (cap-len)).mapM (fun i=>(W.cells? 0 (a.add (i*P.cellsOf e)) (P.cellsOf e)).bind (DataW.trod enc P W 0 (fun _=>true) held fuel e))=some rest:=by
      rw[←hsp,List.range'_eq_map_range,List.mapM_map]
      rfl
     rw[List.range_eq_range'] at hel
     obtain⟨b1,φ1,h1,es,ys,p1,p2,p3,p4,p5,p6⟩:=y9 hR fuel I a hn _ _ hel φ h HH
     obtain⟨b2,φ2,h2,es2,ys2,q1,q2,q3,q4,q5,q6⟩:=y9 hR fuel I a hn _ _ hsp' φ1 h1 p3
     have hlen:es.length=len:=by have:=p4.length;simpa using this.symm
     have hlen2:es2.length=cap-len:=by have:=q4.length;simpa using this.symm
     have hylen:ys.length=len:=by rw[←p5.length,hlen]
     have hread:∀(W':World) (sp':Nat→Bool),(∀k:Nat,k<W.heap.size→W'.heap[k]? =W.heap[k]?)→(∀p∈MemPlace.row a ((elems.length+rest.length)*P.cellsOf e)++(elems++rest).flatMap (·.2),sp' p.block=true)→DataW.trod enc P W' 0 sp' held (fuel+1) t [.slice (some a) len cap]=some (.slice (elems.map (·.1)) (rest.map (·.1)),MemPlace.row a ((elems.length+rest.length)*P.cellsOf e)++(elems++rest).flatMap (·.2)):=by
      intro W' sp' hW hp
      have k1:=b1 W' sp' hW (fun p hpp=>hp p (by simp only[List.mem_append,List.flatMap_append];exact .inr (.inl hpp))) hpos
      have k2:=b2 W' sp' hW (fun p hpp=>hp p (by simp only[List.mem_append,List.flatMap_append];exact .inr (.inr hpp))) hpos
      have hl1:elems.length=len:=by
       have:=mapM_some_length hel
       simpa using this
      have hl2:rest.length=cap-len:=by
       have:=mapM_some_length hsp'
       simpa using this
      unfold DataW.trod
      rw[hu]
      simp only
      rw[if_pos ⟨c1,c2,c3⟩]
      rw[←List.range_eq_range'] at k1
      rw[k1]
      simp only[Option.bind_some]
      by_cases hcap:cap=len
      ·have hr0:rest=[]:=List.length_eq_zero_iff.1 (by omega)
       subst hr0
       have e0:cap-len=0:=by omega
       rw[e0]
       simp
      ·have:sp' a.block=true:=hp (.cell a.block a.off) (by
        rw[List.mem_append]
        refine .inl (MemPlace.mem_row.2 ⟨0, ?_,rfl⟩)
        rw[hn,hl1,hl2]
        exact Nat.mul_pos (by omega) hpos)
       rw[if_pos this]
       rw[List.range'_eq_map_range,List.mapM_map] at k2
       have k2':(List.range (cap-len)).mapM (fun j=>(W'.cells? 0 (a.add ((len+j)*P.cellsOf e)) (P.cellsOf e)).bind (DataW.trod enc P W' 0 sp' held fuel e))=some rest:=by
        rw[←k2];rfl
       rw[k2']
       simp
     by_cases hcap0:cap=0
     ·subst hcap0
      have hl0:len=0:=by omega
      subst hl0
      have:ys=[]:=List.length_eq_zero_iff.1 hylen
      refine⟨hread,φ,h,[.emp],[],φ.le_refl,Ext.refl h,HH, .cons .emp .nil,rfl,rfl, .inl ⟨rfl, .inr rfl⟩,by simp[bulk,sF]⟩
     ·have hall:gM (fun i e=>∃cells,W.cells? 0 (a.add (i*n)) n=some cells∧dH φ2 e cells∧e.length=n∧aV e=true) (List.range' 0 cap) (es++es2):=by
       have hr:List.range' 0 cap=List.range' 0 len++List.range' len (cap-len):=by
        have:=@List.range'_append 0 len (cap-len) 1
        simp only[Nat.one_mul,Nat.zero_add] at this
        rw[this]
        congr 1;omega
       rw[hr]
       refine(p4.mono ?_).append q4
       rintro i e ⟨cells,k1,k2,k3,k4⟩
       exact⟨cells,k1,k2.mono q1,k3,k4⟩
      obtain⟨vals,v1,v2⟩:=Ck hpos hall
      have hblk:a.block<W.heap.size:=by
       obtain⟨k,hk⟩:∃k,cap=k+1:=⟨cap-1,by omega⟩
       rw[hk,List.range'_succ] at hall
       generalize es++es2=ee at hall
       cases hall with
       |cons hh _=>
        obtain⟨cells,k1,_⟩:=hh
        have:=World.cells?_block k1 hpos
        unfold Addr.add at this
        split at this<;>exact this
      have hcellsB:∃c t f,W.heap[a.block]? =some (.cells c t f):=by
       obtain⟨k,hk⟩:∃k,cap=k+1:=⟨cap-1,by omega⟩
       rw[hk,List.range'_succ] at hall
       generalize es++es2=ee at hall
       cases hall with
       |cons hh _=>
        obtain⟨cells,k1,_⟩:=hh
        obtain⟨w1,w2⟩:=HZ hpos k1
        have hv:∃v,cells[0]? =some v:=⟨cells[0]'(by omega),by simp⟩
        obtain⟨v,hv⟩:=hv
        have:=w2 0 v hv
        simp only[World.cell?] at this
        split at this
        ·rename_i c t f hh;exact⟨c,t,f,hh⟩
        ·cases this
      let L:Loc:=⟨a.block,a.off,n,cap,cap⟩
      let r:Row:={es:=es++es2,sz:=n,g:=0,m:=0,rw:=false}
      have hlt:(es++es2).length=cap:=by simp;omega
      have hfresh:=q3.fresh 0
      have hle:=eO.le_add (φ:=φ2) (id:=h2.sz) (g:=0) L hfresh
      have hkey:∀g K,φ2.add h2.sz 0 L h2.sz g=some K→g=0∧K=L:=by
       intro g K e
       by_cases hg:g=0
       ·subst hg;rw[eO.add_same] at e;cases e;exact⟨rfl,rfl⟩
       ·rw[eO.add_other _ _ (show ¬(h2.sz=h2.sz∧g=0) by omega)] at e;rw[q3.fresh] at e;cases e
      have hmem:∀x∈es++es2,x.length=n∧aV x=true:=by
       intro x hx
       obtain⟨i,hi⟩:=List.getElem?_of_mem hx
       have key:∀{l:List Nat} {m:List (List AV)},gM (fun i e=>∃cells,W.cells? 0 (a.add (i*n)) n=some cells∧dH φ2 e cells∧e.length=n∧aV e=true) l m→∀{i:Nat} {x},m[i]? =some x→x.length=n∧aV x=true:=by
        intro l m hh
        induction hh with
        |nil=>intro i x e;simp at e
        |cons hh _ ih=>
         intro i x e
         obtain⟨_,_,_,k3,k4⟩:=hh
         cases i with
         |zero=>simp at e;subst e;exact⟨k3,k4⟩
         |succ i=>simp at e;exact ih e
       exact key hall hi
      have hrow:iC (φ2.add h2.sz 0 L) h2.sz r W:=by
       refine⟨Nat.le_refl _,hpos,fun x hx=>(hmem x hx).1,fun x hx=>(hmem x hx).2,⟨L,eO.add_same _ _ _ _,hlt.symm⟩,fun g K e=> ?_,fun g K _ e=> ?_,(fun hh=>by cases hh),(fun e he=>by cases he)⟩
       ·obtain⟨rfl,rfl⟩:=hkey g K e;exact⟨Nat.le_refl _,rfl⟩
       ·obtain⟨rfl,rfl⟩:=hkey g K e
        refine⟨by simp only[L,r];omega,vals, ?_,fun j v hj=> ?_⟩
        ·simp only[L,r]
         rw[List.take_of_length_le (by omega)]
         exact v1.mono hle
        ·have:=v2 j v hj
         simpa using this
      have H3:=dI.pushRO (L:=L) q3 (r:=r) rfl hblk (fun ds=>by
       obtain⟨c,t,f,hh⟩:=hcellsB
       show W.heap[a.block]? ≠_
       rw[hh];intro e;cases e) hrow
      have hext:Ext h2 (h2.push (.row r)):=by
       refine⟨by simp,fun id o e=> ?_⟩
       rw[aj.get_push]
       have:id<h2.sz:=by
        rcases Nat.lt_or_ge id h2.sz with h1 |h1
        ·exact h1
        ·rw[q3.gone id h1] at e;cases e
       rw[if_neg (by omega)];exact e
      refine⟨hread,_,_,[.slc h2.sz 0 0 len cap true],ys,eO.le_trans p1 (eO.le_trans q1 hle),p2.trans (q2.trans hext),H3, ?_,rfl,rfl, ?_, ?_⟩
      ·have hspot:a=⟨a.block,a.off,none⟩:=by
        obtain⟨k,hk⟩:∃k,cap=k+1:=⟨cap-1,by omega⟩
        rw[hk,List.range'_succ] at hall
        generalize es++es2=ee at hall
        cases hall with
        |cons hh _=>
         obtain⟨cells,k1,_⟩:=hh
         obtain⟨_,hl,hcc⟩:=World.cells?_some k1
         have h0:=hcc 0 hpos
         have hv:∃v,cells[0]? =some v:=⟨cells[0]'(by omega),by simp⟩
         obtain⟨v,hv⟩:=hv
         rw[hv] at h0
         have e0:(a.add (0*n)).add 0=a.add 0:=by unfold Addr.add;simp
         rw[e0] at h0
         have:=qd h0
         unfold Addr.add at this
         simpa using this
       rw[hspot]
       exact .cons (.slc (L:=L) (eO.add_same _ _ _ _) c2 (by simp[L]) (by simp[L]) (Nat.le_refl _) (fun _=>rfl) (fun _=>by simp[L])) .nil
      ·refine .inr ⟨h2.sz,cap,r,by rw[hylen], ?_,rfl,rfl,rfl,rfl,by rw[hylen];exact c2,hlt.symm, ?_⟩
       ·rw[aj.row_some,aj.get_push,if_pos rfl]
       ·show gM (R _) ((es++es2).take ys.length) ys
        rw[hylen, ←hlen,List.take_left]
        exact p5.mono fun x y hxy=>hR _ _ _ _ (q2.trans hext) hxy
      ·simp only[bulk]
       omega
theorem In.slice {α:Type} {t e:TypeId} {n:Nat} {sz:α→Nat} {R:Rd α} (hu:P.underlying t=some (.slice e)) (hn:P.cellsOf e=n) (hpos:0<n) (hR:wo R) (I:In enc P W held e n sz R):
 In enc P W held t 1 (fun l=>sF sz l+1) (DY n R)
 |0=>pF.zero
 |fuel+1=>pF.slice hu hn hpos hR (I fuel)
abbrev uw (enc:TypeId×Value→H) (P:Program) (W:World) (held:Bool) {α:Type} (fs:List (Nat×TypeId)) (off tot:Nat) (sz:α→Nat) (R:Rd α) (fuel:Nat):Prop:=
 ∀(cs:List Value) (xs:List (DataW H×List MemPlace)),cs.length=tot→fs.mapM (fun f=>DataW.trod enc P W 0 (fun _=>true) held fuel f.2 ((cs.drop f.1).take (P.cellsOf f.2)))=some xs→∀φ h,dI P (.of W.heap.size) φ h W→
  (∀(W':World) (sp':Nat→Bool),(∀k:Nat,k<W.heap.size→W'.heap[k]? =W.heap[k]?)→(∀p∈xs.flatMap (·.2),sp' p.block=true)→fs.mapM (fun f=>DataW.trod enc P W' 0 sp' held fuel f.2 ((cs.drop f.1).take (P.cellsOf f.2)))=some xs)∧
  ∃φ' h' avs x,φ.le φ'∧Ext h h'∧dI P (.of W.heap.size) φ' h' W∧dH φ' avs (cs.drop off)∧aV avs=true∧R h' avs x∧sz x≤lD (xs.map (·.1))
def wF (enc:TypeId×Value→H) (P:Program) (W:World) (held:Bool) {α:Type} (fs:List (Nat×TypeId)) (off tot:Nat) (sz:α→Nat) (R:Rd α):Prop:=∀(fuel:Nat),uw enc P W held fs off tot sz R fuel
def ach:Rd Unit:=fun _ a _=>a=[]
def Vm {α β:Type} (n:Nat) (R:Rd α) (S:Rd β):Rd (α×β):=fun h a x=>∃b c,a=b++c∧b.length=n∧R h b x.1∧S h c x.2
theorem wF.nil {tot:Nat}:wF enc P W held [] tot tot (fun _:Unit=>0) ach:=by
 intro fuel cs xs hl hm φ h HH
 simp at hm;subst hm
 refine⟨fun _ _ _ _=>by simp,φ,h,[],(),φ.le_refl,Ext.refl h,HH, ?_,rfl,rfl,by simp[lD]⟩
 rw[List.drop_of_length_le (by omega)];exact .nil
theorem uw.cons {α β:Type} {t:TypeId} {off n tot:Nat} {fs:List (Nat×TypeId)} {sz:α→Nat} {sz':β→Nat} {R:Rd α} {S:Rd β} {fuel:Nat} (hn:P.cellsOf t=n) (hR:wo R) (I:pF enc P W held t n sz R fuel) (J:uw enc P W held fs (off+n) tot sz' S fuel):
 uw enc P W held ((off,t) :: fs) off tot (fun x:α×β=>sz x.1+sz' x.2) (Vm n R S) fuel:=by
 intro cs xs hl hm φ h HH
 obtain⟨y,m,hy,hm',rfl⟩:=sW hm
 simp only[hn] at hy
 obtain⟨y1,y2⟩:=y
 obtain⟨b1,φ1,h1,avs,x,a1,a2,a3,a4,a5,a6,a7,a8⟩:=I _ y1 y2 hy φ h HH
 obtain⟨b2,φ2,h2,bvs,z,c1,c2,c3,c4,c5,c6,c7⟩:=J cs m hl hm' φ1 h1 a3
 refine⟨fun W' sp' hW hp=> ?_,φ2,h2,avs++bvs,(x,z),eO.le_trans a1 c1,a2.trans c2,c3, ?_,oL a6 c5,⟨avs,bvs,rfl,a5,hR _ _ _ _ c2 a7,c6⟩,by simp[lD];omega⟩
 ·rw[List.mapM_cons]
  simp only[hn]
  rw[b1 W' sp' hW (fun p hpp=>hp p (by simp[List.flatMap_cons];exact .inl hpp))]
  have k2:=b2 W' sp' hW (fun p hpp=>hp p (by simp[List.flatMap_cons];exact .inr (by simpa using hpp)))
  simp[k2]
 ·have e:cs.drop off=(cs.drop off).take n++cs.drop (off+n):=by
   rw[←List.drop_drop,List.take_append_drop]
  rw[e]
  exact(a4.mono c1).append c4
theorem wF.cons {α β:Type} {t:TypeId} {off n tot:Nat} {fs:List (Nat×TypeId)} {sz:α→Nat} {sz':β→Nat} {R:Rd α} {S:Rd β} (hn:P.cellsOf t=n) (hR:wo R) (I:In enc P W held t n sz R) (J:wF enc P W held fs (off+n) tot sz' S):
 wF enc P W held ((off,t) :: fs) off tot (fun x:α×β=>sz x.1+sz' x.2) (Vm n R S):=fun fuel=>uw.cons hn hR (I fuel) (J fuel)
theorem vK {β:Type} {g:Nat→TypeId→Option β}:∀(fs:List Field),fs.mapM (fun f=>g f.offset f.type)=(fs.map fun f=>(f.offset,f.type)).mapM (fun p=>g p.1 p.2)
 | []=>rfl
 |f :: fs=>by rw[List.mapM_cons,List.map_cons,List.mapM_cons,vK fs]
theorem pF.struct {α:Type} {t:TypeId} {fs:Array Field} {l:List (Nat×TypeId)} {tot:Nat} {sz:α→Nat} {R:Rd α} {fuel:Nat} (hu:P.underlying t=some (.struct fs)) (hl:(fs.toList.map fun f=>(f.offset,f.type))=l) (hn:P.cellsOf t=tot) (J:uw enc P W held l 0 tot sz R fuel):
 pF enc P W held t tot (fun x=>sz x+1) R (fuel+1):=by
 intro cs d ps ht φ h HH
 ·skip
  have hstep:∀(W':World) (sp':Nat→Bool) (held':Bool),DataW.trod enc P W' 0 sp' held' (fuel+1) t cs=if cs.length=P.cellsOf t then(fs.toList.mapM fun f=>DataW.trod enc P W' 0 sp' held' fuel f.type ((cs.drop f.offset).take (P.cellsOf f.type))).map fun xs=>(.agg (xs.map (·.1)),xs.flatMap (·.2)) else none:=by
   intro W' sp' held'
   conv=>lhs;unfold DataW.trod
   rw[hu]
  rw[hstep] at ht
  split at ht
  rotate_left
  ·cases ht
  rename_i hlen
  rw[vK (g:=fun o ty=>DataW.trod enc P W 0 (fun _=>true) held fuel ty ((cs.drop o).take (P.cellsOf ty))),hl] at ht
  cases hm:l.mapM (fun p=>DataW.trod enc P W 0 (fun _=>true) held fuel p.2 ((cs.drop p.1).take (P.cellsOf p.2))) with
  |none=>rw[hm] at ht;cases ht
  |some xs=>
   rw[hm] at ht
   simp only[Option.map_some,Option.some.injEq,Prod.mk.injEq] at ht
   obtain⟨rfl,rfl⟩:=ht
   obtain⟨b1,φ',h',avs,x,a1,a2,a3,a4,a5,a6,a7⟩:=J cs xs (by rw[hlen,hn]) hm φ h HH
   refine⟨fun W' sp' hW hp=> ?_,φ',h',avs,x,a1,a2,a3,by simpa using a4, ?_,a5,a6,by simp only[bulk];omega⟩
   ·rw[hstep,if_pos hlen,vK (g:=fun o ty=>DataW.trod enc P W' 0 sp' held fuel ty ((cs.drop o).take (P.cellsOf ty))),hl,b1 W' sp' hW hp]
    simp
   ·have:=a4.length
    simp at this
    omega
theorem In.struct {α:Type} {t:TypeId} {fs:Array Field} {l:List (Nat×TypeId)} {tot:Nat} {sz:α→Nat} {R:Rd α} (hu:P.underlying t=some (.struct fs)) (hl:(fs.toList.map fun f=>(f.offset,f.type))=l) (hn:P.cellsOf t=tot) (J:wF enc P W held l 0 tot sz R):
 In enc P W held t tot (fun x=>sz x+1) R
 |0=>pF.zero
 |fuel+1=>pF.struct hu hl hn (J fuel)
end
@[simp] theorem ak (v:AV) (k:AV→Bool):ah (some v) k=k v:=rfl
@[simp] theorem YV (k:AV→Bool):ah none k=false:=rfl
@[simp] theorem dD (v:AV) (h:aj) (k:aC):bP (some (v,h)) k=k v h:=rfl
@[simp] theorem YZ (k:aC):bP none k=false:=rfl
@[simp] theorem fV (a b:Bool):aZ (.bool true) a b=a:=rfl
@[simp] theorem fM (a b:Bool):aZ (.bool false) a b=b:=rfl
theorem BR (c a b:Bool):aZ (.bool c) a b=if c=true then a else b:=by cases c<;>rfl
theorem dB {c a b:Bool} (h:c=true):aZ (.bool c) a b=a:=by subst h;rfl
theorem dG {c a b:Bool} (h:c=false):aZ (.bool c) a b=b:=by subst h;rfl
@[simp] theorem jh (c:Bool):aB (.bool c) true=c:=by cases c<;>rfl
@[simp] theorem jd (c:Bool):aB (.bool c) false= !c:=by cases c<;>rfl
@[simp] theorem Y4 (l:List AV) (b:Bool):aB (.tup l) b=false:=rfl
@[simp] theorem fB (o:Option AV):aQ true o=o:=rfl
@[simp] theorem JL (o:Option AV):aQ false o=some (.tup []):=rfl
@[simp] theorem YX (o:Option (AV×aj)) (h:aj):Gr true o h=o:=rfl
@[simp] theorem Xi (o:Option (AV×aj)) (h:aj):Gr false o h=some (.tup [],h):=rfl
@[simp] theorem qw (r:aC→Bool) (h:aj) (K:aC):ji true r h K=r K:=rfl
@[simp] theorem LB (r:aC→Bool) (h:aj) (K:aC):ji false r h K=K (.tup []) h:=rfl
@[simp] theorem jB (a b:AV):cB (.bool true) a b=some a:=rfl
@[simp] theorem iJ (a b:AV):cB (.bool false) a b=some b:=rfl
@[simp] theorem gH (b:Bool):fT (.bool b)=some (.bool (!b)):=rfl
@[simp] theorem jX (a b c d:Nat):bK (.ptr a b c d)=some (.ptr a b c d):=rfl
@[simp] theorem cO (off a b c d:Nat):aH off (.ptr a b c d)=some (.ptr a b c (d+off)):=rfl
@[simp] theorem tu (i:Nat) (l:List AV):gX i (.tup l)=nth l i:=rfl
@[simp] theorem dR {α:Type} (x:α) (l:List α):nth (x :: l) 0=some x:=rfl
@[simp] theorem fE {α:Type} (x:α) (l:List α) (n:Nat):nth (x :: l) (n+1)=nth l n:=rfl
@[simp] theorem aa0 {α:Type} (n:Nat):nth ([]:List α) n=none:=rfl
@[simp] theorem aaR (ag:Bool) (off n:Nat) (l:List AV):Qe ag off n (.agg l)=iH ag off n l:=rfl
@[simp] theorem bY (off n:Nat) (l:List AV):iH false off n l=nth l off:=rfl
@[simp] theorem ug (h:aj) (s:List Nat):dw h 0 (.str s)=some (.int .i64 (s.length:Int)):=rfl
@[simp] theorem BK (call:ay) (f:Qa) (a b vs:List AV) (h:aj) (K:aC):kg call (.fn f a b) vs h K=call f (a++vs++b) h K:=rfl
@[simp] theorem Y1 (l:List AV) (h:aj) (K:aC):vM (some l) h K=K (oneOf l) h:=rfl
@[simp] theorem YW (v:AV):oneOf [v]=v:=rfl
theorem oQ (a b:Int):tF a b=decide (a<b):=uO a b
theorem sH (a b:Int):BG a b=decide (a=b):=by rw[rG];rfl
theorem ql (a b:List Nat):BD a b=decide (a=b):=by
 rw[zS]
 by_cases e:a=b
 ·subst e;simp
 ·rw[decide_eq_false e];exact beq_eq_false_iff_ne.2 e
theorem iP (op:BinOp) (k:IntKind) (a b:Int) (hs:oC op=false):aR op (.int k a) (.int k b)=xg op k a b:=by
 simp only[aR,hs,cond_false,Nat.beq_refl,cond_true]
@[simp] theorem eF (k:IntKind) (a b:Int):aR .lss (.int k a) (.int k b)=some (.bool (decide (a<b))):=by rw[iP _ _ _ _ rfl];simp only[xg,oQ]
@[simp] theorem lg (k:IntKind) (a b:Int):aR .gtr (.int k a) (.int k b)=some (.bool (decide (b<a))):=by rw[iP _ _ _ _ rfl];simp only[xg,oQ]
@[simp] theorem BH (k:IntKind) (a b:Int):aR .leq (.int k a) (.int k b)=some (.bool (decide (a≤b))):=by
  rw[iP _ _ _ _ rfl];simp only[xg,oQ]
  by_cases e:b<a
  ·rw[decide_eq_true e,decide_eq_false (by omega)];rfl
  ·rw[decide_eq_false e,decide_eq_true (by omega)];rfl
@[simp] theorem nP (k:IntKind) (a b:Int):aR .geq (.int k a) (.int k b)=some (.bool (decide (b≤a))):=by
  rw[iP _ _ _ _ rfl];simp only[xg,oQ]
  by_cases e:a<b
  ·rw[decide_eq_true e,decide_eq_false (by omega)];rfl
  ·rw[decide_eq_false e,decide_eq_true (by omega)];rfl
@[simp] theorem dP (k:IntKind) (a b:Int):aR .eql (.int k a) (.int k b)=some (.bool (decide (a=b))):=by rw[iP _ _ _ _ rfl];simp only[xg,sH]
@[simp] theorem Bl (k:IntKind) (a b:Int):aR .neq (.int k a) (.int k b)=some (.bool (!decide (a=b))):=by rw[iP _ _ _ _ rfl];simp only[xg,sH]
theorem xk (k:IntKind) (a b:Int):aR .add (.int k a) (.int k b)=some (.int k (gV k (a+b))):=by rw[iP _ _ _ _ rfl];rfl
theorem Q7 (k:IntKind) (a b:Int):aR .sub (.int k a) (.int k b)=some (.int k (gV k (a-b))):=by rw[iP _ _ _ _ rfl];rfl
theorem SV (k:IntKind) (a b:Int):aR .mul (.int k a) (.int k b)=some (.int k (gV k (a*b))):=by rw[iP _ _ _ _ rfl];rfl
@[simp] theorem mW (a b:List Nat):aR .eql (.str a) (.str b)=some (.bool (decide (a=b))):=by simp only[aR,NQ,ql]
@[simp] theorem yV (a b:List Nat):aR .neq (.str a) (.str b)=some (.bool (!decide (a=b))):=by simp only[aR,NQ,ql]
theorem wrap64 {n:Int} (h1: -9223372036854775808≤n) (h2:n≤9223372036854775807):gV .i64 n=n:=by
 have:DW .i64 n=true:=by
  cases n with
  |ofNat m=>
   have e:Int.ofNat m=(m:Int):=rfl
   simp only[DW];exact bI.2 (by omega)
  |negSucc m=>
   have e:Int.negSucc m= -((m:Int)+1):=rfl
   simp only[DW];exact bI.2 (by omega)
 simp only[gV,this,cond_true]
theorem pI {a b:Int} (h1: -9223372036854775808≤a+b) (h2:a+b≤9223372036854775807):aR .add (.int .i64 a) (.int .i64 b)=some (.int .i64 (a+b)):=by rw[xk,wrap64 h1 h2]
theorem JA {a b:Int} (h1: -9223372036854775808≤a-b) (h2:a-b≤9223372036854775807):aR .sub (.int .i64 a) (.int .i64 b)=some (.int .i64 (a-b)):=by rw[Q7,wrap64 h1 h2]
def lim:Nat:=4611686018427387904
theorem dV {i:Nat} (h0:i<lim):aR .add (.int .i64 (i:Int)) (.int .i64 1)=some (.int .i64 ((i+1:Nat):Int)):=by
 have h:i<4611686018427387904:=h0
 rw[pI (by omega) (by omega)];rfl
@[simp] theorem iK (k:IntKind) (n:Nat):asNat (.int k (n:Int))=some n:=rfl
theorem MU {s:List Nat} {k:IntKind} {i b:Nat} (h:s[i]? =some b):C9 (.str s) (.int k (i:Int))=some (.int .u8 (b:Int)):=by
 simp only[C9,iK,lJ,h];rfl
@[simp] theorem adS (k b:Nat):((@OfNat.ofNat Int k _:Int)≤(b:Int))=((@OfNat.ofNat Nat k _:Nat)≤b):=by
  apply propext;show((k:Nat):Int)≤(b:Int)↔k≤b;omega
@[simp] theorem ady (k b:Nat):((b:Int)≤(@OfNat.ofNat Int k _:Int))=(b≤(@OfNat.ofNat Nat k _:Nat)):=by
  apply propext;show(b:Int)≤((k:Nat):Int)↔b≤k;omega
@[simp] theorem ae1 (k b:Nat):((@OfNat.ofNat Int k _:Int)<(b:Int))=((@OfNat.ofNat Nat k _:Nat)<b):=by
  apply propext;show((k:Nat):Int)<(b:Int)↔k<b;omega
@[simp] theorem adD (k b:Nat):((b:Int)<(@OfNat.ofNat Int k _:Int))=(b<(@OfNat.ofNat Nat k _:Nat)):=by
  apply propext;show(b:Int)<((k:Nat):Int)↔b<k;omega
@[simp] theorem acL (k b:Nat):((@OfNat.ofNat Int k _:Int)=(b:Int))=((@OfNat.ofNat Nat k _:Nat)=b):=by
  apply propext;show((k:Nat):Int)=(b:Int)↔k=b;omega
@[simp] theorem ac5 (k b:Nat):((b:Int)=(@OfNat.ofNat Int k _:Int))=(b=(@OfNat.ofNat Nat k _:Nat)):=by
  apply propext;show(b:Int)=((k:Nat):Int)↔b=k;omega
def View (h:aj) (n:Nat) (v:AV) (es:List (List AV)):Prop:=
 (es=[]∧(v= .nilSlc∨v= .emp))∨∃id g s cap ex r,v= .slc id g s es.length cap ex∧h.row id=some r∧r.m≤g∧r.sz=n∧(r.es.drop s).take es.length=es∧es.length≤cap
theorem View.nil (h:aj) (n:Nat):View h n .nilSlc []:= .inl ⟨rfl, .inl rfl⟩
theorem View.ext {h h':aj} {n:Nat} {v:AV} {es:List (List AV)} (V:View h n v es) (e:Ext h h'):View h' n v es:=by
 rcases V with V |⟨id,g,s,cap,ex,r,h1,h2,h3⟩
 ·exact .inl V
 ·exact .inr ⟨id,g,s,cap,ex,r,h1,e.row h2,h3⟩
theorem View.leaf {h:aj} {n:Nat} {v:AV} {es:List (List AV)} (V:View h n v es):v.leaf=true:=by
 rcases V with⟨rfl,rfl |rfl⟩|⟨id,g,s,cap,ex,r,rfl,_⟩<;>rfl
theorem View.len {h:aj} {n:Nat} {v:AV} {es:List (List AV)} (V:View h n v es):dw h 1 v=some (.int .i64 (es.length:Int)):=by
 rcases V with⟨rfl,rfl |rfl⟩|⟨id,g,s,cap,ex,r,rfl,_⟩<;>rfl
theorem View.at {h:aj} {n:Nat} {v:AV} {es:List (List AV)} (V:View h n v es) {i:Nat} {e:List AV} (hi:es[i]? =some e):
 ∃id g j,(∀k,bS h n v (.int k (i:Int))=some (.ptr id g j 0))∧∀ag off m,au h ag m (.ptr id g j off)=iH ag off m e:=by
 rcases V with⟨rfl,_⟩|⟨id,g,s,cap,ex,r,rfl,h2,h3,h4,h5,h6⟩
 ·simp at hi
 ·have hlt:i<es.length:=(List.getElem?_eq_some_iff.1 hi).1
  refine⟨id,g,s+i,fun k=> ?_,fun ag off m=> ?_⟩
  ·have:jo h id n=true:=by simp only[jo,h2,bJ];exact h4
   simp only[bS,iK,dL.2 hlt,this,Bool.and_self,cond_true]
  ·have hn:nth r.es (s+i)=some e:=by
    rw[lJ]
    rw[←h5,List.getElem?_take] at hi
    simp only[hlt,if_true,List.getElem?_drop] at hi
    exact hi
   simp only[au,h2,bI.2 h3,cond_true,hn]
theorem View.src {h:aj} {n:Nat} {v:AV} {es:List (List AV)} (V:View h n v es):source h n v=some es:=by
 rcases V with⟨rfl,rfl |rfl⟩|⟨id,g,s,cap,ex,r,rfl,h2,h3,h4,h5,h6⟩
 ·rfl
 ·rfl
 ·simp only[source]
  cases hb:Nat.beq es.length 0 with
  |true=>
   rw[cond_true]
   have:=bJ.1 hb
   rw[List.length_eq_zero_iff.1 this]
  |false=>
   simp only[cond_false,h2,bI.2 h3,bJ.2 h4,Bool.and_self,cond_true,h5,bJ.2 rfl]
theorem View.cut {h:aj} {n:Nat} {v:AV} {es:List (List AV)} (V:View h n v es) {k j:IntKind} {a b:Nat} (hab:a≤b) (hb:b≤es.length):
 ∃v',fZ h n v (some (.int k (a:Int))) (some (.int j (b:Int))) none=some v'∧View h n v' ((es.take b).drop a):=by
 rcases V with⟨rfl,rfl |rfl⟩|⟨id,g,s,cap,ex,r,rfl,h2,h3,h4,h5,h6⟩
 ·have h1:b=0:=by simpa using hb
  have h0:a=0:=by omega
  subst h1;subst h0
  exact⟨.nilSlc,by simp[fZ,mV,asNat], .inl ⟨rfl, .inl rfl⟩⟩
 ·have h1:b=0:=by simpa using hb
  have h0:a=0:=by omega
  subst h1;subst h0
  exact⟨.emp,by simp[fZ,mV,asNat], .inl ⟨rfl, .inr rfl⟩⟩
 ·have hr:jo h id n=true:=by simp only[jo,h2,bJ];exact h4
  refine⟨.slc id g (s+a) (b-a) (cap-a) ex, ?_, .inr ⟨id,g,s+a,cap-a,ex,r, ?_,h2,h3,h4, ?_, ?_⟩⟩
  ·simp only[fZ,hr,cond_true,mV,iK,bI.2 hab,bI.2 (Nat.le_trans hb h6),Bool.and_self]
  ·simp;omega
  ·have e1:((es.take b).drop a).length=b-a:=by simp;omega
   rw[e1]
   have e2:es.take b=(r.es.drop s).take b:=by rw[←h5,List.take_take];congr 1;omega
   rw[e2,List.drop_take,List.drop_drop]
  ·simp;omega
theorem View.front {h:aj} {n:Nat} {v:AV} {es:List (List AV)} (V:View h n v es) {j:IntKind} {b:Nat} (hb:b≤es.length):
 ∃v',fZ h n v none (some (.int j (b:Int))) none=some v'∧View h n v' (es.take b):=by
 obtain⟨v',h1,h2⟩:=V.cut (k:= .i64) (j:=j) (Nat.zero_le b) hb
 refine⟨v', ?_,by simpa using h2⟩
 rw[←h1]
 unfold fZ
 cases v<;>simp[mV,asNat]
theorem View.back {h:aj} {n:Nat} {v:AV} {es:List (List AV)} (V:View h n v es) {k:IntKind} {a:Nat} (ha:a≤es.length):
 ∃v',fZ h n v (some (.int k (a:Int))) none none=some v'∧View h n v' (es.drop a):=by
 obtain⟨v',h1,h2⟩:=V.cut (k:=k) (j:= .i64) ha (Nat.le_refl _)
 refine⟨v', ?_,by simpa using h2⟩
 rw[←h1]
 rcases V with⟨rfl,rfl |rfl⟩|⟨id,g,s,cap,ex,r,rfl,h2,h3,h4,h5,h6⟩
 ·simp[fZ,mV,asNat]
 ·simp[fZ,mV,asNat]
 ·simp only[fZ,mV,iK]
def Own (b:Nat) (h:aj) (n:Nat) (v:AV) (es:List (List AV)):Prop:=
 (v= .nilSlc∧es=[])∨∃id r,b≤id∧v= .slc id r.g 0 es.length es.length false∧h.row id=some r∧r.rw=true∧r.m≤r.g∧r.sz=n∧r.es=es
theorem Own.view {b:Nat} {h:aj} {n:Nat} {v:AV} {es:List (List AV)} (O:Own b h n v es):View h n v es:=by
 rcases O with⟨rfl,rfl⟩|⟨id,r,_,rfl,h2,h3,h4,h5,h6⟩
 ·exact View.nil h n
 ·exact .inr ⟨id,r.g,0,es.length,false,r,rfl,h2,h4,h5,by simp[h6],Nat.le_refl _⟩
theorem Own.ext {b n:Nat} {h h':aj} {v:AV} {es:List (List AV)} (V:Own b h n v es) (e:Ext h h'):Own b h' n v es:=by
 rcases V with V |⟨id,r,w1,w2,w3,w4,w5,w6,w7⟩
 ·exact .inl V
 ·exact .inr ⟨id,r,w1,w2,e.row w3,w4,w5,w6,w7⟩
theorem Own.nil (b:Nat) (h:aj) (n:Nat):Own b h n .nilSlc []:= .inl ⟨rfl,rfl⟩
theorem kY {h:aj} (gone:∀id,h.sz≤id→h.get id=none) (o:iq):Ext h (h.push o):=by
 refine⟨by simp,fun id x e=> ?_⟩
 rw[aj.get_push]
 have:id≠h.sz:=fun hh=>by rw[gone id (by omega)] at e;cases e
 rw[if_neg this];exact e
def aj.Ok (h:aj):Prop:=∀id,h.sz≤id→h.get id=none
theorem aj.Ok.push {h:aj} (k:h.Ok) (o:iq):(h.push o).Ok:=by
 intro id hid
 simp at hid
 rw[aj.get_push,if_neg (by omega)]
 exact k id (by omega)
theorem aj.Ok.lt {h:aj} (k:h.Ok) {id:Nat} {o:iq} (e:h.get id=some o):id<h.sz:=by
 rcases Nat.lt_or_ge id h.sz with h1 |h1
 ·exact h1
 ·rw[k id h1] at e;cases e
theorem aj.Ok.put {h:aj} (k:h.Ok) {id:Nat} (hid:id<h.sz) (o:iq):(h.put id o).Ok:=by
 intro j hj
 rw[aj.get_put,if_neg (by simp at hj;omega)]
 exact k j (by simpa using hj)
theorem gY {h0 h:aj} (e:Ext h0 h) (k0:h0.Ok) {id:Nat} (hid:h0.sz≤id) (o:iq):Ext h0 (h.put id o):=by
 refine⟨by simpa using e.1,fun j x hj=> ?_⟩
 rw[aj.get_put]
 have:=k0.lt hj
 rw[if_neg (by omega)]
 exact e.2 j x hj
def Ur (h:aj) (v:AV) (e:Nat):Prop:=∀id g s l c ex,v= .slc id g s l c ex→∃r,h.row id=some r∧r.ty=some e
theorem Own.appT {b:Nat} {h h0:aj} {n bytes:Nat} {v x:AV} {es new:List (List AV)} (nt:Option Nat) (O:Own b h n v es) (hn:0<n) (hb:b≤h.sz) (k:h.Ok) (k0:h0.Ok) (e0:Ext h0 h) (hb0:h0.sz≤b) (hs:source h n x=some new)
 (h1:(es.length+new.length)*bytes≤most) (h2:es.length+new.length≤most):
 ∃v' h',cK h n bytes v x nt=some (v',h')∧Own b h' n v' (es++new)∧h'.Ok∧Ext h0 h'∧h.sz≤h'.sz∧
  (∀j o,h.get j=some o→(∀id g s l c ex,v= .slc id g s l c ex→j≠id)→h'.get j=some o)∧(∀k u q,View h k u q→View h' k u q)∧(∀e,nt=some e→Ur h v e→Ur h' v' e):=by
 have hn0:Nat.beq n 0=false:=fO.2 (by omega)
 simp only[cK,hn0,cond_false,hs]
 have hrow:∀(h:aj) (r:Row),(h.push (.row r)).row h.sz=some r:=fun h r=>by rw[aj.row_some,aj.get_push,if_pos rfl]
 rcases O with⟨rfl,rfl⟩|⟨id,r,o1,rfl,o2,o3,o4,o5,o6⟩
 ·cases new with
  |nil=>exact⟨.nilSlc,h,rfl, .inl ⟨rfl,rfl⟩,k,e0,Nat.le_refl _,fun j o hj _=>hj,fun _ _ _ V=>V,fun _ _ T=>T⟩
  |cons y new=>
   refine⟨.slc h.sz 0 0 (y :: new).length (y :: new).length false,newRow h (y :: new) n nt, ?_, .inr ⟨h.sz,{es:=y :: new,sz:=n,g:=0,m:=0,rw:=true,ty:=nt},hb,by simp,hrow _ _,rfl,Nat.le_refl _,rfl,rfl⟩,k.push _,e0.trans (kY k _),by simp[newRow],fun j o hj _=>(kY k _).2 j o hj,fun _ _ _ V=>V.ext (kY k _),fun e he _ id g s l c ex hv=>⟨_,by cases hv;exact hrow _ _,he⟩⟩
   simp only[eZ]
   rw[bI.2 (by simpa using h1),bI.2 (by simpa using h2)]
   rfl
 ·cases new with
  |nil=>exact⟨.slc id r.g 0 es.length es.length false,h,rfl, .inr ⟨id,r,o1,by simp,o2,o3,o4,o5,by simpa using o6⟩,k,e0,Nat.le_refl _,fun j o hj _=>hj,fun _ _ _ V=>V,fun _ _ T id g s l c ex hv=>T id g s l c ex (by simpa using hv)⟩
  |cons y new=>
   have hid:=k.lt (aj.row_some.1 o2)
   have hnc:Nat.ble (es.length+(y :: new).length) es.length=false:=by
    cases hh:Nat.ble (es.length+(y :: new).length) es.length with
    |false=>rfl
    |true=>have:=bI.1 hh;simp at this;omega
   refine⟨.slc id (r.g+1) 0 (es.length+(y :: new).length) (es.length+(y :: new).length) false,h.put id (.row {r with es:=r.es++(y :: new),g:=r.g+1,ty:=ng r.ty nt}), ?_, .inr ⟨id,{r with es:=r.es++(y :: new),g:=r.g+1,ty:=ng r.ty nt},o1,by simp, ?_,o3,by simp only;omega,o5,by simp[o6]⟩,k.put hid _,gY e0 k0 (by omega) _,by simp,fun j o hj hne=> ?_,fun kk u q V=> ?_,fun e he T id' g' s' l' c' ex' hv=> ?_⟩
   ·simp only[eZ,o2]
    rw[bI.2 h1,bI.2 h2,bJ.2 o5]
    simp only[Bool.and_self,cond_true,hnc,cond_false,o3,bJ.2 rfl,bJ.2 (show es.length=r.es.length by rw[o6])]
   ·rw[aj.row_some,aj.get_put,if_pos rfl]
   ·rw[aj.get_put,if_neg (hne id _ _ _ _ _ rfl)];exact hj
   ·rcases V with V |⟨i',g',s',cp,ex,rr,w1,w2,w3,w4,w5,w6⟩
    ·exact .inl V
    ·by_cases hi:i'=id
     ·subst hi
      rw[o2] at w2;cases w2
      refine .inr ⟨i',g',s',cp,ex,{r with es:=r.es++(y :: new),g:=r.g+1,ty:=ng r.ty nt},w1,by rw[aj.row_some,aj.get_put,if_pos rfl],w3,w4, ?_,w6⟩
      simp only
      by_cases hq:q.length=0
      ·rw[hq,List.take_zero];exact(List.length_eq_zero_iff.1 hq).symm
      ·have hlen:((r.es.drop s').take q.length).length=q.length:=by rw[w5]
       rw[List.length_take,List.length_drop] at hlen
       rw[List.drop_append_of_le_length (by omega),List.take_append_of_le_length (by rw[List.length_drop];omega)]
       exact w5
     ·refine .inr ⟨i',g',s',cp,ex,rr,w1, ?_,w3,w4,w5,w6⟩
      rw[aj.row_some] at w2 ⊢
      rw[aj.get_put,if_neg hi];exact w2
   ·cases hv
    obtain⟨r',q1,q2⟩:=T id _ _ _ _ _ rfl
    rw[o2] at q1;cases q1
    refine⟨_,by rw[aj.row_some,aj.get_put,if_pos rfl], ?_⟩
    simp[q2,he,ng]
theorem Own.app {b:Nat} {h h0:aj} {n bytes:Nat} {v x:AV} {es new:List (List AV)} (O:Own b h n v es) (hn:0<n) (hb:b≤h.sz) (k:h.Ok) (k0:h0.Ok) (e0:Ext h0 h) (hb0:h0.sz≤b) (hs:source h n x=some new)
 (h1:(es.length+new.length)*bytes≤most) (h2:es.length+new.length≤most):
 ∃v' h',cK h n bytes v x=some (v',h')∧Own b h' n v' (es++new)∧h'.Ok∧Ext h0 h'∧h.sz≤h'.sz∧
  (∀j o,h.get j=some o→(∀id g s l c ex,v= .slc id g s l c ex→j≠id)→h'.get j=some o)∧(∀k u q,View h k u q→View h' k u q):=by
 obtain⟨v',h',a1,a2,a3,a4,a5,a6,a7,_⟩:=O.appT none hn hb k k0 e0 hb0 hs h1 h2
 exact⟨v',h',a1,a2,a3,a4,a5,a6,a7⟩
theorem Own.appb {b:Nat} {h h0:aj} {e:Nat} {v x:AV} {es new:List (List AV)} (O:Own b h 1 v es) (hb:b≤h.sz) (k:h.Ok) (k0:h0.Ok) (e0:Ext h0 h) (hb0:h0.sz≤b) (hs:source h 1 x=some new) (h2:es.length+new.length≤most):
 ∃v' h',zJ h e v x=some (v',h')∧Own b h' 1 v' (es++new)∧h'.Ok∧Ext h0 h'∧h.sz≤h'.sz∧
  (∀j o,h.get j=some o→(∀id g s l c ex,v= .slc id g s l c ex→j≠id)→h'.get j=some o)∧(∀k u q,View h k u q→View h' k u q)∧(Ur h v e→Ur h' v' e):=by
 obtain⟨v',h',a1,a2,a3,a4,a5,a6,a7,a8⟩:=O.appT (bytes:=1) (some e) (by decide) hb k k0 e0 hb0 hs (by omega) h2
 exact⟨v',h',a1,a2,a3,a4,a5,a6,a7,a8 e rfl⟩
theorem PT.setF_lf_setF {α:Type}:∀(f g:Nat) (t:PT α) (n:Nat) (x y:Option α),n<f→n<g→PT.setF g (PT.setF f t n x) n y=PT.setF g t n y
 |0,_,_,n,_,_,h,_=>absurd h (Nat.not_lt_zero n)
 |_,0,_,n,_,_,_,h=>absurd h (Nat.not_lt_zero n)
 |f+1,g+1,t,n,x,y,h1,h2=>by
  cases n with
  |zero=>cases t<;>rfl
  |succ k=>
   have d1:Nat.div k 2=k/2:=rfl
   have hf:Nat.div k 2<f:=by omega
   have hg:Nat.div k 2<g:=by omega
   cases t with
   |lf=>
    simp only[PT.setF]
    cases hb:Nat.beq (Nat.mod k 2) 0<;>simp only[cond_true,cond_false,PT.setF,hb]<;>rw[PT.setF_lf_setF f g _ _ _ _ hf hg]
   |nd l v r=>
    simp only[PT.setF]
    cases hb:Nat.beq (Nat.mod k 2) 0<;>simp only[cond_true,cond_false,PT.setF,hb]<;>rw[PT.setF_lf_setF f g _ _ _ _ hf hg]
theorem PT.set_set {α:Type} (t:PT α) (n:Nat) (x y:α):(t.set n x).set n y=t.set n y:=PT.setF_lf_setF _ _ _ _ _ _ (Nat.lt_succ_self n) (Nat.lt_succ_self n)
theorem Sl (h:aj) (a b:iq):(h.push a).put h.sz b=h.push b:=by
 simp only[aj.push,aj.put,PT.set_set]
@[simp] theorem yC (h:aj) (es:List (List AV)) (n:Nat):(newRow h es n).sz=h.sz+1:=rfl
def lI (cells:List AV):Row:={es:=[cells],sz:=cells.length,g:=0,m:=0,rw:=true}
def Var (h:aj) (id:Nat) (cells:List AV):Prop:=h.row id=some (lI cells)
theorem Var.ext {h h':aj} {id:Nat} {c:List AV} (V:Var h id c) (e:Ext h h'):Var h' id c:=e.row V
theorem Var.lt {h:aj} {id:Nat} {c:List AV} (V:Var h id c) (k:h.Ok):id<h.sz:=k.lt (aj.row_some.1 V)
theorem Var.load {h:aj} {id:Nat} {c:List AV} (V:Var h id c) (ag:Bool) (off n:Nat):au h ag n (.ptr id 0 0 off)=iH ag off n c:=by
 have V':h.row id=some (lI c):=V
 simp only[au,V',lI,Nat.ble_self_eq_true,cond_true,dR]
theorem eY (h:aj) (c:List AV):Var (newRow h [c] c.length) h.sz c:=by
 show aj.row _ _=_
 rw[aj.row_some]
 simp only[newRow,aj.get_push,if_pos,lI]
theorem alloc_eq {h:aj} {z:List AV} (h1:0<z.length) (h2:aV z=true):fG h z=some (.ptr h.sz 0 0 0,newRow h [z] z.length):=by
 simp only[fG,vO,fO.2 (show z.length≠0 by omega),h2,cond_false,cond_true]
theorem lM {h:aj} {n:Nat} {v:AV} (h0:v.cells.length=n) (h1:0<n) (h2:aV v.cells=true):iY h n v=some (.ptr h.sz 0 0 0,newRow h [v.cells] n):=by
 simp only[iY,bJ.2 h0,dL.2 h1,h2,Bool.and_self,cond_true]
theorem MV {α:Type} {l new:List α} {n:Nat} (h:n+new.length≤l.length):(lay l n new).length=l.length:=by
 simp[lay];omega
theorem Var.store {h:aj} {id:Nat} {c:List AV} (V:Var h id c) {n off:Nat} {v:AV} (h0:v.cells.length=n) (h1:off+n≤c.length) (h2:aV v.cells=true):
 bT h n (.ptr id 0 0 off) v=some (h.put id (.row (lI (lay c off v.cells)))):=by
 have V':h.row id=some (lI c):=V
 have e:(lay c off v.cells).length=c.length:=MV (by omega)
 simp only[bT,V',lI,Nat.beq_refl,bJ.2 h0,h2,Bool.and_self,cond_true,dR,bI.2 h1,oP,e]
theorem jV {v:AV} (h:v.leaf=true):v.cells=[v]:=by cases v<;>first |rfl |cases h
theorem Ut {α:Type} {l:List α} {n:Nat} {x:α} (h:n<l.length):lay l n [x]=l.set n x:=by
 rw[List.set_eq_take_append_cons_drop]
 simp[lay,h]
theorem Var.set1 {h:aj} {id:Nat} {c:List AV} (V:Var h id c) {off:Nat} {v:AV} (h1:off<c.length) (h2:v.leaf=true):
 bT h 1 (.ptr id 0 0 off) v=some (h.put id (.row (lI (c.set off v)))):=by
 have hc:=jV h2
 rw[V.store (n:=1) (by rw[hc];rfl) (by omega) (by rw[hc];simp[aV,h2]),hc,Ut h1]
theorem oq {h:aj} (id:Nat) (c:List AV):Var (h.put id (.row (lI c))) id c:=by
 show aj.row _ _=_
 rw[aj.row_some,aj.get_put,if_pos rfl]
theorem Pq {h:aj} {z:List AV} {n:Nat} {v:AV} (hz:z.length=n) (h0:v.cells.length=n) (h2:aV v.cells=true):
 bT (newRow h [z] n) n (.ptr h.sz 0 0 0) v=some (newRow h [v.cells] n):=by
 subst hz
 rw[(eY h z).store h0 (by omega) h2]
 have:lay z 0 v.cells=v.cells:=by simp[lay];omega
 rw[this]
 simp only[newRow,Sl,lI,h0]
theorem jH {h:aj} {z:List AV} {n:Nat} {v:AV} {k:aC} (hz:z.length=n) (hp:0<n) (hl:aV z=true) (h0:v.cells.length=n) (h2:aV v.cells=true):
 (bP (fG h z) fun p h=>bP (unit (bT h n p v)) fun _ h=>k p h)=k (.ptr h.sz 0 0 0) (newRow h [v.cells] n):=by
 rw[alloc_eq (by omega) hl,dD,hz,Pq hz h0 h2]
 rfl
def ig (h:aj) (id:Nat) (f:List Nat→Option AV):Prop:=
 ∃es c,h.get id=some (.map es c)∧(∀e∈es,∃s,e.1= .str s)∧∀s,jw (.str s) es=some (f s)
theorem ig.ext {h h':aj} {id:Nat} {f:List Nat→Option AV} (M:ig h id f) (e:Ext h h'):ig h' id f:=by
 obtain⟨es,c,h1,h2⟩:=M
 exact⟨es,c,e.2 id _ h1,h2⟩
theorem Cj (h:aj):qN h=some (.map h.sz,h.push (.map [] 0))∧ig (h.push (.map [] 0)) h.sz (fun _=>none):=
 ⟨rfl,[],0,by rw[aj.get_push,if_pos rfl],by simp,fun _=>rfl⟩
theorem ig.look {h:aj} {id:Nat} {f:List Nat→Option AV} (M:ig h id f) (z:AV) (s:List Nat):fC h (.leaf .str) false z (.map id) (.str s)=some ((f s).getD z):=by
 obtain⟨es,c,h1,h2,h3⟩:=M
 simp only[fC,jD,qE,cond_true,mapOf,h1,h3]
 cases f s<;>rfl
theorem ig.look2 {h:aj} {id:Nat} {f:List Nat→Option AV} (M:ig h id f) (z:AV) (s:List Nat):fC h (.leaf .str) true z (.map id) (.str s)=some (.tup [(f s).getD z, .bool (f s).isSome]):=by
 obtain⟨es,c,h1,h2,h3⟩:=M
 simp only[fC,jD,qE,cond_true,mapOf,h1,h3]
 cases f s<;>rfl
theorem lZ (a b:List Nat):qJ (.str a) (.str b)=some (decide (a=b)):=by
 simp only[qJ,pq,ql]
theorem wY (s t:List Nat) (v:AV) (c:Nat):∀(es:List (AV×AV×Nat)),(∀e∈es,∃s,e.1= .str s)→jw (.str t) es=some none→
 jw (.str s) (es++[(.str t,v,c)])=if s=t then some (some v) else jw (.str s) es
 | [],_,_=>by
   simp only[List.nil_append,jw,lZ]
   by_cases e:s=t<;>simp[e]
 |(k,u,b) :: es,hk,hf=>by
  obtain⟨x,hx⟩:=hk _ List.mem_cons_self
  simp only at hx;subst hx
  simp only[jw,lZ] at hf
  simp only[List.cons_append,jw,lZ]
  by_cases e1:t=x
  ·simp[e1] at hf
  ·simp[e1] at hf
   have ih:=wY s t v c es (fun e he=>hk e (List.mem_cons_of_mem _ he)) hf
   by_cases e2:s=x
   ·subst e2
    have:¬s=t:=fun h=>e1 h.symm
    simp[this]
   ·simp[e2,ih]
theorem yX (s t:List Nat) (v:AV):∀(es:List (AV×AV×Nat)),(∀e∈es,∃s,e.1= .str s)→(∃u,jw (.str t) es=some (some u))→
 jw (.str s) (sS (.str t) v es)=(if s=t then some (some v) else jw (.str s) es)∧(∀e∈sS (.str t) v es,∃s,e.1= .str s)
 | [],_,hf=>by obtain⟨u,hf⟩:=hf;simp[jw] at hf
 |(k,u,b) :: es,hk,hf=>by
  obtain⟨x,hx⟩:=hk _ List.mem_cons_self
  simp only at hx;subst hx
  obtain⟨w,hf⟩:=hf
  simp only[jw,lZ] at hf
  simp only[sS,lZ]
  by_cases e1:t=x
  ·subst e1
   simp only[decide_true]
   refine⟨?_, ?_⟩
   ·simp only[jw,lZ]
    by_cases e2:s=t<;>simp[e2]
   ·intro e he
    rcases List.mem_cons.1 he with rfl |he
    ·exact⟨t,rfl⟩
    ·exact hk e (List.mem_cons_of_mem _ he)
  ·simp[e1] at hf
   obtain⟨i1,i2⟩:=yX s t v es (fun e he=>hk e (List.mem_cons_of_mem _ he)) ⟨w,hf⟩
   simp only[e1,decide_false]
   refine⟨?_, ?_⟩
   ·simp only[jw,lZ]
    by_cases e2:s=x
    ·subst e2
     have:¬s=t:=fun h=>e1 h.symm
     simp[this]
    ·simp[e2,i1]
   ·intro e he
    rcases List.mem_cons.1 he with rfl |he
    ·exact⟨x,rfl⟩
    ·exact i2 e he
theorem ig.upd {h:aj} {id:Nat} {f:List Nat→Option AV} (M:ig h id f) (t:List Nat) (v:AV):
 ∃o,kQ h (.leaf .str) (.map id) (.str t) v=some (h.put id o)∧ig (h.put id o) id (fun s=>if s=t then some v else f s):=by
 obtain⟨es,c,h1,h2,h3⟩:=M
 have h4:=h3 t
 cases hft:f t with
 |none=>
  rw[hft] at h4
  refine⟨.map (es++[(.str t,v,c)]) (c+1), ?_,es++[(.str t,v,c)],c+1,by rw[aj.get_put,if_pos rfl], ?_,fun s=> ?_⟩
  ·simp only[kQ,jD,qE,cond_true,h1,h4]
  ·intro e he
   rcases List.mem_append.1 he with he |he
   ·exact h2 e he
   ·simp at he;subst he;exact⟨t,rfl⟩
  ·rw[wY s t v c es h2 h4,h3 s]
   by_cases e:s=t<;>simp[e]
 |some u=>
  rw[hft] at h4
  refine⟨.map (sS (.str t) v es) c, ?_,sS (.str t) v es,c,by rw[aj.get_put,if_pos rfl],(yX t t v es h2 ⟨u,h4⟩).2,fun s=> ?_⟩
  ·simp only[kQ,jD,qE,cond_true,h1,h4]
  ·rw[(yX s t v es h2 ⟨u,h4⟩).1,h3 s]
   by_cases e:s=t<;>simp[e]
theorem ig.lt {h:aj} {id:Nat} {f:List Nat→Option AV} (M:ig h id f) (k:h.Ok):id<h.sz:=by
 obtain⟨es,c,h1,_⟩:=M;exact k.lt h1
theorem ig.other {h:aj} {id j:Nat} {f:List Nat→Option AV} (M:ig h id f) (e:id≠j) (o:iq):ig (h.put j o) id f:=by
 obtain⟨es,c,h1,h2⟩:=M
 exact⟨es,c,by rw[aj.get_put,if_neg e];exact h1,h2⟩
theorem Var.other {h:aj} {id j:Nat} {c:List AV} (V:Var h id c) (e:id≠j) (o:iq):Var (h.put j o) id c:=by
 show aj.row _ _=_
 rw[aj.row_some,aj.get_put,if_neg e]
 exact aj.row_some.1 V
theorem uj {h:aj} {n sz:Nat} {z:List AV} {ps:List (Nat×AV)} {es:List (List AV)} (h1:z.length=sz) (h2:0<sz) (h3:n*sz≤16777216) (h4:aV z=true) (h5:jG sz (jO n z) ps=some es) (h6:es.length=n):
 ∃v,dX h n sz z ps=some (v,newRow h es sz)∧View (newRow h es sz) sz v es:=by
 refine⟨.slc h.sz 0 0 n n true, ?_, .inr ⟨h.sz,0,0,n,true,{es,sz,g:=0,m:=0,rw:=true},by rw[h6], ?_,Nat.le_refl _,rfl,by simp,by omega⟩⟩
 ·simp only[dX,bJ.2 h1,dL.2 h2,bI.2 h3,h4,Bool.and_self,cond_true,h5]
 ·rw[aj.row_some];simp only[newRow,aj.get_push,if_pos]
theorem bU {h:aj} (k:h.Ok) (es:List (List AV)) (n:Nat):Ext h (newRow h es n):=kY k _
theorem cZ {h:aj} (k:h.Ok) (es:List (List AV)) (n:Nat):(newRow h es n).Ok:=k.push _
theorem Pf {P:Program} {B:Base} {φ:eO} {h:aj} {w:World} (H:dI P B φ h w):h.Ok:=fun id hid=>H.gone id hid
theorem yx.mono:wo yx:=fun _ _ _ _ _ h=>h
theorem yI.mono {k:IntKind}:wo (yI k):=fun _ _ _ _ _ h=>h
theorem Jq.mono:wo Jq:=fun _ _ _ _ _ h=>h
theorem DY.view {α:Type} {n:Nat} {R:Rd α} {h:aj} {a:List AV} {l:List α} (H:DY n R h a l):∃v es,a=[v]∧View h n v es∧gM (R h) es l:=by
 rcases H with⟨rfl,h1 |h1⟩|⟨id,cap,r,h1,h2,h3,h4,h5,h6,h7,h8,h9⟩
 ·exact⟨.nilSlc,[],h1,View.nil _ _, .nil⟩
 ·exact⟨.emp,[],h1, .inl ⟨rfl, .inr rfl⟩, .nil⟩
 ·have hl:=h9.length
  refine⟨_,r.es.take l.length,h1, .inr ⟨id,0,0,cap,true,r,by rw[hl],h2,by omega,h6, ?_,by rw[hl];exact h7⟩,h9⟩
  rw[hl,List.drop_zero]
theorem XJ {cs:Array Value} {n:Nat}:∀(φ:eO) (avs:List AV),dH φ avs (Value.agg cs).cells.toList→avs.length=n→dn φ (.agg avs) (.agg cs):=by
 intro φ avs hr hl
 exact .agg hr
theorem PI {H:Type} {enc:TypeId×Value→H} {P:Program} {E:Env} (hmix:P.follows .mixedOrders=true) (hE:Ej P E) {f fuel:Nat} {fn:dW} (hf:E.code f=some fn) {α:Type} {t:TypeId} {n:Nat} {sz:α→Nat} {R:Rd α} {W:World}
 (I:In enc P W true t n sz R) {v:Value} {d:DataW H} {ps:List MemPlace} (ht:DataW.Trod enc P W 0 (fun _=>true) true t v d ps) (mk:List AV→AV) (hv:∀(φ:eO) (avs:List AV),dH φ avs v.cells.toList→avs.length=n→dn φ (mk avs) v)
 (hrun:∀h avs x,h.Ok→R h avs x→sz x≤bulk d→aD E fuel (.func f) [mk avs] h (fun v _=>isTrue v)=true):
 Calls P f #[v] W fun e W'=>e= .returned (.bool true)∧GJ W W'∧∀sp':Nat→Bool,(∀p∈ps,sp' p.block=true)→DataW.Trod enc P W' 0 sp' true t v d ps:=by
 obtain⟨fu,ht⟩:=ht
 obtain⟨b1,φ,h,avs,x,a1,a2,a3,a4,a5,a6,a7,a8⟩:=I fu _ d ps ht _ _ (Ah W)
 have hr:=hrun h avs x (Pf a3) a7 a8
 have h0:=lV hmix hE fuel (.func f) [mk avs] h _ hr (.of W.heap.size) φ W [v] a3 (.cons (hv φ avs a4 a5) .nil)
 simp only at h0
 have h0:=yN.lands h0
 rw[Hu hE hf] at h0
 have h1:CallsIn (FW none) 0 P f #[v] W _:=h0 0
 refine(callsIn_wide.1 h1).mono ?_
 rintro e W' ⟨u,h',cv,φ',rfl,hK,hu,_,_,hg⟩
 refine⟨?_,grown_of hg,fun sp' hsp=>⟨fu,b1 W' sp' (fun k hk=>hg.below k hk) hsp⟩⟩
 cases hu<;>first |(cases hK;done)|skip
 rename_i b
 cases b with
 |false=>cases hK
 |true=>rfl
section
open Go.ChangeShapes
theorem Oz {H:Type} {enc:TypeId×Value→H} {P:Program} {f:Func} {s:ChangeSpec} {apart fresh handsOn again:Bool} {W W':World} {args:Array Value} {v:Value} {ds gs:List (DataW H)} {before pa pv:List MemPlace}
 (hW:DataW.Whole enc P f.params.toList s.vars apart W args.toList ds gs before)
 (hres:∀(b:Nat) (sp:Nat→Bool) (hd:Bool),DataW.TrodAll enc P W' b sp hd f.resultTypes.toList (v.resultList f.resultTypes.size) (s.fn H (ds++gs)).results [])
 (hargs:∀sp:Nat→Bool,(∀p∈before,sp p.block=true)→DataW.TrodAll enc P W' 0 sp true f.params.toList args.toList (s.fn H (ds++gs)).args pa)
 (hvars:∀sp:Nat→Bool,(∀p∈before,sp p.block=true)→DataW.TrodVars enc P W' sp s.vars (s.fn H (ds++gs)).vars pv)
 (hps:before=pa++pv) (hk:W.keptBut W' (· ∈before)) (hfz:∀a:Addr,a.block<W.heap.size→W'.frozen? a=W.frozen? a)
 (hok:∀(j:Nat) (t:TypeId) (r:Value),f.resultTypes[j]? =some t→(v.resultList f.resultTypes.size)[j]? =some r→Value.okWide P W' .any 0 t r):
 s.post enc P f apart fresh handsOn again W args v W':=by
 have hlt:=fun p hp=>hW.lt p hp
 have hold:∀p∈before,(fun b=>decide (b<W.heap.size)) p.block=true:=fun p hp=>by simpa using hW.lt p hp
 refine⟨ds,gs,before,[],pa,pv,hW,hres _ _ _,hargs _ hold,hvars _ hold,World.keptBut_mono (fun p hp=>⟨hp, ?_⟩) hk,fun _=> ?_⟩
 ·rw[hps,List.mem_append] at hp
  exact Or.inr hp
 ·obtain⟨_,_,_,_,_,hz,hn⟩:=hW
  refine⟨hok,_,_,([]++pa)++pv,⟨[]++pa,pv,trodAll_append (hargs _ (fun _ _=>rfl)) (hres _ _ _),hvars _ (fun _ _=>rfl),rfl, ?_, ?_⟩, ?_⟩
  ·intro b off hp
   have hm:MemPlace.cell b off∈before:=by rw[hps];simpa using hp
   rw[hfz ⟨b,off,none⟩ (hlt _ hm)]
   exact hz b off hm
  ·intro ha
   have:=hn ha
   rw[hps] at this
   simpa using this
  ·intro p hp _
   rw[hps]
   simpa using hp
end
inductive Val where
 |mk (kind:Int) (b:Bool) (n:Int) (t:List Nat) (l:List Val):Val
mutual
def RV (h:aj):List AV→Val→Prop
 |a, .mk k b n t l=>∃lv es,a=[.int .i64 k, .bool b, .int .i64 n, .str t,lv]∧View h 5 lv es∧Dh h es l∧(-9223372036854775808≤n∧n≤9223372036854775807)∧(-9223372036854775808≤k∧k≤9223372036854775807)∧∀x∈t,x<256
def Dh (h:aj):List (List AV)→List Val→Prop
 |es,[]=>es=[]
 |es,v :: l=>∃e r,es=e :: r∧RV h e v∧Dh h r l
end
mutual
def jg:Val→Nat
 | .mk _ _ _ t l=>t.length+fU l+1
def fU:List Val→Nat
 | []=>0
 |v :: l=>jg v+fU l
end
mutual
theorem RV.ext {h h':aj} (e:Ext h h'):∀{a:List AV} {v:Val},RV h a v→RV h' a v
 |a, .mk k b n t l,H=>by
  simp only[RV] at H ⊢
  obtain⟨lv,es,h1,h2,h3,h4⟩:=H
  exact⟨lv,es,h1,h2.ext e,Dh.ext e h3,h4⟩
theorem Dh.ext {h h':aj} (e:Ext h h'):∀{es:List (List AV)} {l:List Val},Dh h es l→Dh h' es l
 |es,[],H=>by simp only[Dh] at H ⊢;exact H
 |es,v :: l,H=>by
  simp only[Dh] at H ⊢
  obtain⟨x,r,h1,h2,h3⟩:=H
  exact⟨x,r,h1,RV.ext e h2,Dh.ext e h3⟩
end
theorem Dh.all2 {h:aj}:∀{es:List (List AV)} {l:List Val},Dh h es l→gM (RV h) es l
 |es,[],H=>by simp only[Dh] at H;subst H;exact .nil
 |es,v :: l,H=>by
  simp only[Dh] at H
  obtain⟨x,r,rfl,h2,h3⟩:=H
  exact .cons h2 h3.all2
theorem Dh.of {h:aj} {es:List (List AV)} {l:List Val} (A:gM (RV h) es l):Dh h es l:=by
 induction A with
 |nil=>simp[Dh]
 |cons a _ ih=>simp only[Dh];exact⟨_,_,rfl,a,ih⟩
theorem lC:∀(l:List Val),fU l=sF jg l
 | []=>rfl
 |v :: l=>by simp only[fU,sF,lC l]
theorem RV.mono:wo RV:=fun _ _ _ _ e H=>RV.ext e H
section
variable {H:Type} {enc:TypeId×Value→H} {P:Program} {W:World} {held:Bool}
theorem aaP {t tl t0 t1 t2 t3:TypeId} {fs:Array Field} (hu:P.underlying t=some (.struct fs)) (hl:(fs.toList.map fun f=>(f.offset,f.type))=[(0,t0),(1,t1),(2,t2),(3,t3),(4,tl)]) (hn:P.cellsOf t=5)
 (h0:P.underlying t0=some (.int .i64)) (n0:P.cellsOf t0=1) (h1:P.underlying t1=some .bool) (n1:P.cellsOf t1=1) (h2:P.underlying t2=some (.int .i64)) (n2:P.cellsOf t2=1) (h3:P.underlying t3=some .string) (n3:P.cellsOf t3=1) (h4:P.underlying tl=some (.slice t)) (n4:P.cellsOf tl=1):
 In enc P W held t 5 jg RV:=by
 intro fuel
 induction fuel using Nat.strongRecOn with
 |_ fuel ih=>
  match fuel,ih with
  |0,_=>exact pF.zero
  |fuel+1,ih=>
   have hsl:pF enc P W held tl 1 (fun l=>sF jg l+1) (DY 5 RV) fuel:=by
    match fuel,ih with
    |0,_=>exact pF.zero
    |f+1,ih=>exact pF.slice h4 hn (by decide) RV.mono (ih f (by omega))
   have I:=pF.struct (enc:=enc) (W:=W) (held:=held) hu hl hn
    (uw.cons (off:=0) (n:=1) n0 yI.mono (In.int h0 fuel) (uw.cons (off:=1) (n:=1) n1 Jq.mono (In.bool h1 fuel) (uw.cons (off:=2) (n:=1) n2 yI.mono (In.int h2 fuel) (uw.cons (off:=3) (n:=1) n3 yx.mono (In.str h3 fuel) (uw.cons (off:=4) (n:=1) n4 (DY.mono RV.mono) hsl (wF.nil fuel))))))
   refine I.conv ?_
   rintro h a ⟨k,b,n,s,l,u⟩ ⟨b1,c1,rfl,_,⟨rfl,hk1,hk2⟩,b2,c2,rfl,_,hb,b3,c3,rfl,_,⟨rfl,hn1,hn2⟩,b4,c4,rfl,_,⟨rfl,ht⟩,b5,c5,rfl,_,hs,rfl⟩
   obtain⟨v,es,rfl,hv,he⟩:=hs.view
   have hb':b2=[.bool b]:=hb
   subst hb'
   refine⟨.mk k b n s l, ?_, ?_⟩
   ·simp only[RV]
    exact⟨v,es,rfl,hv,Dh.of he,⟨hn1,hn2⟩,⟨hk1,hk2⟩,ht⟩
   ·simp only[jg,lC];omega
end
def VV (h:aj) (v:AV) (l:List Val):Prop:=∃es,View h 5 v es∧gM (RV h) es l
theorem VV.ext {h h':aj} {v:AV} {l:List Val} (V:VV h v l) (e:Ext h h'):VV h' v l:=let⟨es,h1,h2⟩:=V;⟨es,h1.ext e,h2.mono fun _ _ r=>RV.ext e r⟩
theorem VV.len {h:aj} {v:AV} {l:List Val} (V:VV h v l):dw h 1 v=some (.int .i64 (l.length:Int)):=by
 obtain⟨es,h1,h2⟩:=V;rw[h1.len,h2.length]
theorem RV.cells {h:aj} {a:List AV} {k n:Int} {b:Bool} {t:List Nat} {l:List Val} (R:RV h a (.mk k b n t l)):∃lv,a=[.int .i64 k, .bool b, .int .i64 n, .str t,lv]∧VV h lv l∧(-9223372036854775808≤n∧n≤9223372036854775807)∧(-9223372036854775808≤k∧k≤9223372036854775807)∧∀x∈t,x<256:=by
 simp only[RV] at R
 obtain⟨lv,es,h1,h2,h3,h4⟩:=R
 exact⟨lv,h1,⟨es,h2,h3.all2⟩,h4⟩
theorem VV.leaf {h:aj} {v:AV} {l:List Val} (V:VV h v l):v.leaf=true:=by obtain⟨es,h1,_⟩:=V;exact h1.leaf
theorem VV.at {h:aj} {v:AV} {l:List Val} (V:VV h v l) {i:Nat} {x:Val} (hi:l[i]? =some x):
 ∃id g j e,(∀k,bS h 5 v (.int k (i:Int))=some (.ptr id g j 0))∧(∀ag off m,au h ag m (.ptr id g j off)=iH ag off m e)∧RV h e x:=by
 obtain⟨es,h1,h2⟩:=V
 obtain⟨e,he,hr⟩:=h2.get hi
 obtain⟨id,g,j,p1,p2⟩:=h1.at he
 exact⟨id,g,j,e,p1,p2,hr⟩
end Go.Ab
namespace Go.Proofs.YthmnnlpbnhkhkaaGreat
open Go.Ab
def CG (call:ay) (n:Nat) (B24:F4) (x1 x3 x4 x6:AV) (h:aj) (K:aC):Bool:=
 ah (aR .add x6 (.int .i64 1)) fun v78=>B24 x1 x3 x4 v78 h
def Nr (call:ay) (n:Nat) (B24:F4) (x1 x3 x4 x6:AV) (h:aj) (K:aC):Bool:=
 ah (bK x4) fun v64=>ah (aH 2 v64) fun v65=>ah (au h false 1 v65) fun v66=>ah (dw h 1 v66) fun v67=>call (.func 15) [x3] h fun v68 h=>fA (au h false 1 v65) v66 <| fA (dw h 1 v66) v67 <| ah (aR .neq v68 v67) fun v69=>ah (aQ (aB v69 false) (some x3)) fun v70=>ah (aQ (aB v69 false) (some x4)) fun v71=>ah (aQ (aB v69 false) (bK v71)) fun v72=>ah (aQ (aB v69 false) (aH 3 v72)) fun v73=>ah (aQ (aB v69 false) (au h false 1 v73)) fun v74=>ji (aB v69 false) (fun k=>call (.func 16) [v70] h k) h fun v75 h=>zf (aB v69 false) (au h false 1 v73) v74 <| ah (aQ (aB v69 false) (aR .neq v75 v74)) fun v76=>ah (cB v69 (.bool true) v76) fun v77=>aZ v77 (K (.bool false) h) (CG call n B24 x1 x3 x4 x6 h K)
def Qm (call:ay) (n:Nat) (B24:F4) (B80:F6) (x1 x3 x4 x6 x8 x17:AV) (h:aj) (K:aC):Bool:=
 ah (dw h 1 x8) fun v54=>ah (aR .lss x17 v54) fun v55=>aZ v55 (ah (bS h 6 x8 x17) fun v56=>ah (aH 1 v56) fun v57=>ah (au h true 5 v57) fun v58=>call (.func 14) [v58] h fun v59 h=>ah (eP [.str [], .int .i64 0, .bool false, .int .i64 0, .str [], .nilSlc] [(0,1,(.str [111,118,101,114]))]) fun v60=>ah (bS h 6 x8 x17) fun v61=>bP (unit (bT h 6 v61 v60)) fun _ h=>ah (aR .add x17 (.int .i64 1)) fun v63=>B80 x1 x3 x4 x6 x8 v63 h) (Nr call n B24 x1 x3 x4 x6 h K)
def DK (call:ay) (n:Nat) (B24:F4):Nat→AV→AV→AV→AV→AV→AV→aj→aC→Bool
 |0=>fun _ _ _ _ _ _ _ _=>false
 |m+1=>fun x1 x3 x4 x6 x8 x17 h K=>Qm call n B24 (fun x1 x3 x4 x6 x8 x17 h=>DK call n B24 m x1 x3 x4 x6 x8 x17 h K) x1 x3 x4 x6 x8 x17 h K
def Eu (call:ay) (n:Nat) (B24:F4) (x1 x3 x4 x6 x8:AV) (h:aj) (K:aC):Bool:=
 DK call n B24 n x1 x3 x4 x6 x8 (.int .i64 0) h K
set_option maxRecDepth 100000 in
def Rk (call:ay) (n:Nat) (B24:F4) (x1 x3 x4 x6:AV) (h:aj) (K:aC):Bool:=
 ah (aH 2 x1) fun v21=>ah (au h false 1 v21) fun v22=>ah (bS h 5 v22 x6) fun v23=>ah (au h true 5 v23) fun v24=>bP (fG h [.int .i64 0, .str [], .nilSlc, .int .i64 0, .bool false]) fun v25 h=>bP (unit (bT h 5 v25 v24)) fun _ h=>ah (aH 2 v25) fun v27=>ah (au h false 1 v27) fun v28=>call (.func 7) [v28] h fun v29 h=>ah (aH 0 v25) fun v30=>ah (au h false 1 v30) fun v31=>ah (aR .eql v31 (.int .i64 0)) fun v32=>aZ v32 (ah (aH 1 v25) fun v33=>ah (au h false 1 v33) fun v34=>ah (aH 4 v25) fun v35=>ah (au h false 1 v35) fun v36=>call (.func 8) [x3,v34,v29,v36] h fun v37 h=>ah (gX 0 v37) fun v38=>ah (gX 1 v37) fun v39=>ah (aH 1 v25) fun v40=>ah (au h false 1 v40) fun v41=>ah (aH 2 v25) fun v42=>ah (au h false 1 v42) fun v43=>ah (aH 4 v25) fun v44=>ah (au h false 1 v44) fun v45=>call (.func 9) [x4,v41,v43,v45] h fun v46 h=>ah (gX 0 v46) fun v47=>ah (gX 1 v46) fun v48=>ah (aR .neq v38 v47) fun v49=>ah (aQ (aB v49 false) (some v39)) fun v50=>ah (aQ (aB v49 false) (some v48)) fun v51=>ah (aQ (aB v49 false) (aR .neq v50 v51)) fun v52=>ah (cB v49 (.bool true) v52) fun v53=>aZ v53 (K (.bool false) h) (Eu call n B24 x1 x3 x4 x6 v29 h K)) (ah (aR .eql v31 (.int .i64 1)) fun v79=>aZ v79 (ah (aH 3 v25) fun v80=>ah (au h false 1 v80) fun v81=>call (.func 10) [x3,v81,v29] h fun v82 h=>ah (gX 0 v82) fun v83=>ah (gX 1 v82) fun v84=>ah (aH 3 v25) fun v85=>ah (au h false 1 v85) fun v86=>ah (aH 2 v25) fun v87=>ah (au h false 1 v87) fun xZ=>call (.func 11) [x4,v86,xZ] h fun v89 h=>ah (gX 0 v89) fun v90=>ah (gX 1 v89) fun v91=>ah (aR .neq v83 v90) fun v92=>ah (aQ (aB v92 false) (some v84)) fun v93=>ah (aQ (aB v92 false) (some v91)) fun v94=>ah (aQ (aB v92 false) (aR .neq v93 v94)) fun v95=>ah (cB v92 (.bool true) v95) fun v96=>aZ v96 (K (.bool false) h) (Eu call n B24 x1 x3 x4 x6 v29 h K)) (ah (aH 3 v25) fun v97=>ah (au h false 1 v97) fun v98=>ah (aH 3 v25) fun v99=>ah (au h false 1 v99) fun v100=>call (.func 12) [x3,v98] h fun v101 h=>fA (au h false 1 v99) v100 <| call (.func 13) [x4,v100] h fun v102 h=>ah (aR .neq v101 v102) fun v103=>aZ v103 (K (.bool false) h) (Eu call n B24 x1 x3 x4 x6 v29 h K)))
def Fu (call:ay) (n:Nat) (x1 x3 x4:AV) (h:aj) (K:aC):Bool:=
 call (.func 17) [x3] h fun v104 h=>ah (bK x4) fun v105=>ah (aH 2 v105) fun v106=>ah (au h false 1 v106) fun v107=>call (.func 18) [v104,v107] h fun v108 h=>ah (fT v108) fun v109=>aZ v109 (K (.bool false) h) (call (.func 19) [v104] h fun v110 h=>ah (au h true 5 x1) fun v111=>call (.func 20) [v111,x3,x4] h fun v112 h=>ah (aQ (aB v112 true) (au h true 5 x1)) fun v113=>ah (aQ (aB v112 true) (some x3)) fun v114=>ah (aQ (aB v112 true) (some x4)) fun v115=>ji (aB v112 true) (fun k=>call (.func 20) [v113,v114,v115] h k) h fun v116 h=>ah (cB v112 v116 (.bool false)) fun v117=>ji (aB v117 true) (fun k=>call (.func 5) [] h k) h fun v118 h=>ah (cB v117 v118 (.bool false)) fun v119=>K v119 h)
def RU (call:ay) (n:Nat) (B24:F4) (x1 x3 x4 x6:AV) (h:aj) (K:aC):Bool:=
 ah (aH 2 x1) fun v14=>ah (au h false 1 v14) fun v15=>ah (dw h 1 v15) fun v16=>ah (aR .lss x6 v16) fun v17=>ah (aQ (aB v17 true) (some x6)) fun v18=>ah (aQ (aB v17 true) (aR .lss v18 (.int .i64 30))) fun v19=>ah (cB v17 v19 (.bool false)) fun v20=>aZ v20 (Rk call n B24 x1 x3 x4 x6 h K) (Fu call n x1 x3 x4 h K)
def zD (call:ay) (n:Nat):Nat→AV→AV→AV→AV→aj→aC→Bool
 |0=>fun _ _ _ _ _ _=>false
 |m+1=>fun x1 x3 x4 x6 h K=>RU call n (fun x1 x3 x4 x6 h=>zD call n m x1 x3 x4 x6 h K) x1 x3 x4 x6 h K
def SC (call:ay) (n:Nat) (x1 x3 x4:AV) (h:aj) (K:aC):Bool:=
 zD call n n x1 x3 x4 (.int .i64 0) h K
def Sw (call:ay) (n:Nat) (x1:AV) (h:aj) (K:aC):Bool:=
 ah (au h true 5 x1) fun v6=>call (.func 6) [v6] h fun v7 h=>ah (gX 0 v7) fun v8=>ah (gX 1 v7) fun v9=>ah (gX 2 v7) fun v10=>ah (ru h false .ptr v8 .nilPtr) fun v11=>aZ v11 (ji (aB v10 true) (fun k=>call (.func 5) [] h k) h fun v12 h=>ah (cB v10 v12 (.bool false)) fun v13=>K v13 h) (SC call n x1 v8 v9 h K)
def s3 (call:ay) (n:Nat) (x0:AV) (h:aj) (K:aC):Bool:=
 bP (iY h 5 x0) fun v1 h=>ah (au h true 5 v1) fun v2=>call (.func 4) [v2] h fun v3 h=>ah (fT v3) fun v4=>aZ v4 (call (.func 5) [] h fun v5 h=>K v5 h) (Sw call n v1 h K)
def QC (call:ay) (n:Nat) (B23:F3) (x1 x3 x5:AV) (h:aj) (K:aC):Bool:=
 ah (aR .add x5 (.int .i64 1)) fun v42=>B23 x1 x3 v42 h
def Rt (call:ay) (n:Nat) (B23:F3) (B35:F4) (x1 x3 x5 x6:AV) (h:aj) (K:aC):Bool:=
 ah (aH 2 x1) fun v22=>ah (au h false 1 v22) fun v23=>ah (bS h 5 v23 x5) fun v24=>ah (aH 2 v24) fun v25=>ah (au h false 1 v25) fun v26=>ah (dw h 1 v26) fun v27=>ah (aR .lss x6 v27) fun v28=>aZ v28 (ah (aR .add x3 (.int .i64 1)) fun v29=>ah (aH 2 x1) fun v30=>ah (au h false 1 v30) fun v31=>ah (bS h 5 v31 x5) fun v32=>ah (aH 2 v32) fun v33=>ah (au h false 1 v33) fun v34=>ah (bS h 6 v34 x6) fun v35=>ah (aH 1 v35) fun v36=>ah (au h true 5 v36) fun v37=>bP (dX h 1 5 [.int .i64 0, .bool false, .int .i64 0, .str [], .nilSlc] [(0,v37)]) fun v38 h=>call (.func 21) [v38] h fun v39 h=>ah (aR .add v29 v39) fun v40=>ah (aR .add x6 (.int .i64 1)) fun v41=>B35 x1 v40 x5 v41 h) (QC call n B23 x1 x3 x5 h K)
def IB (call:ay) (n:Nat) (B23:F3):Nat→AV→AV→AV→AV→aj→aC→Bool
 |0=>fun _ _ _ _ _ _=>false
 |m+1=>fun x1 x3 x5 x6 h K=>Rt call n B23 (fun x1 x3 x5 x6 h=>IB call n B23 m x1 x3 x5 x6 h K) x1 x3 x5 x6 h K
def Qx (call:ay) (n:Nat) (B23:F3) (x1 x3 x5:AV) (h:aj) (K:aC):Bool:=
 IB call n B23 n x1 x3 x5 (.int .i64 0) h K
def Oa (call:ay) (n:Nat) (x3:AV) (h:aj) (K:aC):Bool:=
 ah (aR .leq x3 (.int .i64 2000)) fun v43=>K v43 h
def Rl (call:ay) (n:Nat) (B23:F3) (x1 x3 x5:AV) (h:aj) (K:aC):Bool:=
 ah (aH 2 x1) fun v15=>ah (au h false 1 v15) fun v16=>ah (dw h 1 v16) fun v17=>ah (aR .lss x5 v17) fun v18=>ah (aQ (aB v18 true) (some x5)) fun v19=>ah (aQ (aB v18 true) (aR .lss v19 (.int .i64 100))) fun v20=>ah (cB v18 v20 (.bool false)) fun v21=>aZ v21 (Qx call n B23 x1 x3 x5 h K) (Oa call n x3 h K)
def IE (call:ay) (n:Nat):Nat→AV→AV→AV→aj→aC→Bool
 |0=>fun _ _ _ _ _=>false
 |m+1=>fun x1 x3 x5 h K=>Rl call n (fun x1 x3 x5 h=>IE call n m x1 x3 x5 h K) x1 x3 x5 h K
def Sm (call:ay) (n:Nat) (x1 x3:AV) (h:aj) (K:aC):Bool:=
 IE call n n x1 x3 (.int .i64 0) h K
def XT (call:ay) (n:Nat) (B8:F3) (x1 x3 x4:AV) (h:aj) (K:aC):Bool:=
 ah (aH 0 x1) fun v2=>ah (au h false 1 v2) fun v3=>ah (dw h 1 v3) fun v4=>ah (aR .lss x4 v4) fun v5=>aZ v5 (ah (aR .add x3 (.int .i64 1)) fun v6=>ah (aH 0 x1) fun v7=>ah (au h false 1 v7) fun v8=>ah (bS h 3 v8 x4) fun v9=>ah (aH 2 v9) fun v10=>ah (au h false 1 v10) fun v11=>ah (dw h 1 v11) fun v12=>ah (aR .add v6 v12) fun v13=>ah (aR .add x4 (.int .i64 1)) fun v14=>B8 x1 v13 v14 h) (Sm call n x1 x3 h K)
def RY (call:ay) (n:Nat):Nat→AV→AV→AV→aj→aC→Bool
 |0=>fun _ _ _ _ _=>false
 |m+1=>fun x1 x3 x4 h K=>XT call n (fun x1 x3 x4 h=>RY call n m x1 x3 x4 h K) x1 x3 x4 h K
def s4 (call:ay) (n:Nat) (x0:AV) (h:aj) (K:aC):Bool:=
 bP (iY h 5 x0) fun v1 h=>RY call n n v1 (.int .i64 0) (.int .i64 0) h K
set_option maxRecDepth 100000 in
def s6 (call:ay) (n:Nat) (x0:AV) (h:aj) (K:aC):Bool:=
 bP (iY h 5 x0) fun v1 h=>ah (aH 0 v1) fun v2=>ah (au h false 1 v2) fun v3=>call (.func 22) [v3] h fun v4 h=>ah (gX 0 v4) fun v5=>ah (gX 1 v4) fun v6=>ah (aR .neq v6 (.int .i64 0)) fun v7=>ah (aQ (aB v7 false) (some v5)) fun v8=>ah (aQ (aB v7 false) (ru h false .ptr v8 .nilPtr)) fun v9=>ah (cB v7 (.bool true) v9) fun v10=>aZ v10 (K (.tup [.nilPtr, .nilPtr,(.bool true)]) h) (ah (aH 1 v1) fun v11=>ah (au h false 1 v11) fun v12=>call (.func 23) [v5,v12] h fun v13 h=>ah (gX 0 v13) fun v14=>ah (gX 1 v13) fun v15=>ah (aH 1 v1) fun v16=>ah (au h false 1 v16) fun v17=>ah (aR .lss v17 (.int .i64 1)) fun v18=>ah (aQ (aB v18 false) (aH 1 v1)) fun v19=>ah (aQ (aB v18 false) (au h false 1 v19)) fun v20=>ah (aQ (aB v18 false) (aR .gtr v20 (.int .i64 65536))) fun v21=>ah (cB v18 (.bool true) v21) fun v22=>aZ v22 (ah (ru h false .ptr v14 .nilPtr) fun v23=>ah (aQ (aB v23 true) (some v15)) fun v24=>ah (aQ (aB v23 true) (aR .eql v24 (.int .i64 1))) fun v25=>ah (cB v23 v25 (.bool false)) fun v26=>K (.tup [.nilPtr, .nilPtr,v26]) h) (ah (ru h false .ptr v14 .nilPtr) fun v27=>ah (aQ (aB v27 false) (some v15)) fun v28=>ah (aQ (aB v27 false) (aR .neq v28 (.int .i64 0))) fun v29=>ah (cB v27 (.bool true) v29) fun v30=>aZ v30 (K (.tup [.nilPtr, .nilPtr,(.bool false)]) h) (ah (aH 0 v1) fun v31=>ah (au h false 1 v31) fun v32=>ah (aH 1 v1) fun v33=>ah (au h false 1 v33) fun v34=>ah (eP [.nilSlc, .int .i64 0, .nilSlc, .int .i64 0, .int .i64 0] [(0,1,v32),(1,1,v34)]) fun v35=>bP (iY h 5 v35) fun v36 h=>fA (au h false 1 v31) v32 <| fA (au h false 1 v33) v34 <| K (.tup [v14,v36,(.bool true)]) h)))
def Yp (call:ay) (n:Nat) (B8:F3) (x0 x3 x4:AV) (h:aj) (K:aC):Bool:=
 ah (dw h 1 x0) fun v1=>ah (aR .lss x4 v1) fun v2=>aZ v2 (ah (bS h 6 x0 x4) fun v3=>ah (aH 0 v3) fun v4=>ah (au h false 1 v4) fun v5=>ah (bS h 6 x0 x4) fun v6=>ah (aH 1 v6) fun v7=>ah (au h true 5 v7) fun v8=>call (.func 25) [v8] h fun v9 h=>fA (bS h 6 x0 x4) v3 <| fA (au h false 1 v4) v5 <| ah (eP [.str [], .int .i64 0, .bool false, .int .i64 0, .str [], .nilSlc] [(0,1,v5),(1,5,v9)]) fun v10=>bP (dX h 1 6 [.str [], .int .i64 0, .bool false, .int .i64 0, .str [], .nilSlc] [(0,v10)]) fun v11 h=>bP (cK h 6 80 x3 v11) fun v12 h=>ah (aR .add x4 (.int .i64 1)) fun v13=>B8 x0 v12 v13 h) (K x3 h)
def TD (call:ay) (n:Nat):Nat→AV→AV→AV→aj→aC→Bool
 |0=>fun _ _ _ _ _=>false
 |m+1=>fun x0 x3 x4 h K=>Yp call n (fun x0 x3 x4 h=>TD call n m x0 x3 x4 h K) x0 x3 x4 h K
def s7 (call:ay) (n:Nat) (x0:AV) (h:aj) (K:aC):Bool:=
 TD call n n x0 .nilSlc (.int .i64 0) h K
def Ch (call:ay) (n:Nat) (x0 x1 x12:AV) (h:aj) (K:aC):Bool:=
 ah (bK x0) fun v91=>ah (aH 6 v91) fun v92=>ah (au h false 1 v92) fun v93=>ah (fC h (.leaf .str) false .nilPtr v93 x1) fun v94=>ah (bK x12) fun v95=>ah (aH 0 v95) fun v96=>ah (au h false 1 v96) fun v97=>call (.func 28) [v94,v97] h fun v98 h=>call (.func 30) [x0,x12] h fun v99 h=>ah (bK x12) fun v100=>ah (aH 0 v100) fun v101=>ah (au h false 1 v101) fun v102=>K (.tup [v102,(.int .i64 0)]) h
def Tj (call:ay) (n:Nat) (x0 x1 x12:AV) (h:aj) (K:aC):Bool:=
 ah (bK x0) fun v67=>ah (aH 4 v67) fun v68=>ah (au h false 1 v68) fun v69=>ah (bK x12) fun v70=>ah (aH 0 v70) fun v71=>ah (au h false 1 v71) fun v72=>bP (unit (kQ h (.leaf .int) v69 v72 x12)) fun _ h=>ah (bK x0) fun v74=>ah (aH 5 v74) fun v75=>ah (au h false 1 v75) fun v76=>ah (bK x12) fun v77=>ah (aH 0 v77) fun v78=>ah (au h false 1 v78) fun v79=>call (.func 28) [v76,v79] h fun v80 h=>ah (bK x0) fun v81=>ah (aH 6 v81) fun v82=>ah (au h false 1 v82) fun v83=>ah (fC h (.leaf .str) false .nilPtr v83 x1) fun v84=>ah (ru h false .ptr v84 .nilPtr) fun v85=>aZ v85 (ah (bK x0) fun v86=>ah (aH 6 v86) fun v87=>ah (au h false 1 v87) fun xZ=>call (.func 29) [] h fun v89 h=>fA (au h false 1 v87) xZ <| bP (unit (kQ h (.leaf .str) xZ x1 v89)) fun _ h=>Ch call n x0 x1 x12 h K) (Ch call n x0 x1 x12 h K)
def Qp (call:ay) (n:Nat) (B39:F5) (x0 x1 x12 x88 x89:AV) (h:aj) (K:aC):Bool:=
 ah (aR .lss x89 x88) fun v57=>aZ v57 (ah (bK x12) fun v58=>ah (aH 5 v58) fun v59=>ah (au h false 1 v59) fun v60=>ah (bK x0) fun v61=>ah (aH 3 v61) fun v62=>ah (au h false 1 v62) fun v63=>ah (bS h 1 v60 x89) fun v64=>bP (unit (bT h 1 v64 v63)) fun _ h=>ah (aR .add x89 (.int .i64 1)) fun v66=>B39 x0 x1 x12 x88 v66 h) (Tj call n x0 x1 x12 h K)
def IL (call:ay) (n:Nat):Nat→AV→AV→AV→AV→AV→aj→aC→Bool
 |0=>fun _ _ _ _ _ _ _=>false
 |m+1=>fun x0 x1 x12 x88 x89 h K=>Qp call n (fun x0 x1 x12 x88 x89 h=>IL call n m x0 x1 x12 x88 x89 h K) x0 x1 x12 x88 x89 h K
def Sn (call:ay) (n:Nat) (x0 x1 x12:AV) (h:aj) (K:aC):Bool:=
 ah (bK x0) fun v27=>ah (aH 3 v27) fun v28=>ah (au h false 1 v28) fun v29=>ah (aR .add v29 (.int .i64 1)) fun v30=>ah (bK x0) fun v31=>ah (aH 3 v31) fun v32=>bP (unit (bT h 1 v32 v30)) fun _ h=>ah (bK x0) fun v34=>ah (aH 2 v34) fun v35=>ah (au h false 1 v35) fun v36=>ah (aR .add v36 (.int .i64 1)) fun v37=>ah (bK x0) fun v38=>ah (aH 2 v38) fun v39=>bP (unit (bT h 1 v39 v37)) fun _ h=>ah (bK x0) fun v41=>ah (aH 2 v41) fun v42=>ah (au h false 1 v42) fun v43=>ah (bK x0) fun v44=>ah (aH 3 v44) fun v45=>ah (au h false 1 v45) fun v46=>ah (bK x12) fun v47=>ah (aH 0 v47) fun v48=>bP (unit (bT h 1 v48 v43)) fun _ h=>ah (bK x12) fun v50=>ah (aH 4 v50) fun v51=>bP (unit (bT h 1 v51 v46)) fun _ h=>ah (bK x12) fun v53=>ah (aH 5 v53) fun v54=>ah (au h false 1 v54) fun v55=>ah (dw h 1 v55) fun v56=>IL call n n x0 x1 x12 v56 (.int .i64 0) h K
def Rh (call:ay) (n:Nat) (x0 x1 x2 x3 x10:AV) (h:aj) (K:aC):Bool:=
 ah (dw h 1 x10) fun v8=>ah (dw h 1 x10) fun v9=>bP (sG h 5 64 [.int .i64 0, .bool false, .int .i64 0, .str [], .nilSlc] v8 v8) fun v10 h=>fA (dw h 1 x10) v8 <| fA (dw h 1 x10) v9 <| bP (sG h 1 8 [.int .i64 0] v9 v9) fun v11 h=>fA (dw h 1 x10) v8 <| fA (dw h 1 x10) v9 <| ah (eP [.int .i64 0, .str [], .nilSlc, .bool false, .int .i64 0, .nilSlc] [(1,1,x1),(3,1,x3),(2,1,v10),(5,1,v11)]) fun v12=>bP (iY h 6 v12) fun v13 h=>fA (dw h 1 x10) v8 <| fA (dw h 1 x10) v9 <| ah (bK v13) fun v14=>ah (aH 2 v14) fun v15=>ah (au h false 1 v15) fun v16=>call (.func 27) [x0,x1,x2,v16] h fun v17 h=>ah (fT v17) fun v18=>aZ v18 (K (.tup [(.int .i64 0),(.int .i64 11)]) h) (ah (bK x0) fun v19=>ah (aH 4 v19) fun v20=>ah (au h false 1 v20) fun v21=>ah (dw h 2 v21) fun v22=>ah (bK x0) fun v23=>ah (aH 1 v23) fun v24=>ah (au h false 1 v24) fun v25=>ah (aR .geq v22 v25) fun v26=>aZ v26 (K (.tup [(.int .i64 0),(.int .i64 12)]) h) (Sn call n x0 x1 v13 h K))
def s8 (call:ay) (n:Nat) (x0 x1 x2 x3:AV) (h:aj) (K:aC):Bool:=
 ah (bK x0) fun v1=>ah (aH 0 v1) fun v2=>ah (au h false 1 v2) fun v3=>call (.func 26) [v3,x1] h fun v4 h=>ah (gX 0 v4) fun v5=>ah (gX 1 v4) fun v6=>ah (aR .neq v6 (.int .i64 0)) fun v7=>aZ v7 (K (.tup [(.int .i64 0),(.int .i64 10)]) h) (Rh call n x0 x1 x2 x3 v5 h K)
def Hy (call:ay) (n:Nat) (B40:F5) (B55:F7) (x0 x2 x11 x12 x13 x14 x15:AV) (h:aj) (K:aC):Bool:=
 ah (aR .add x15 (.int .i64 1)) fun v61=>B55 x0 x2 x11 x12 x13 x14 v61 h
def TB (call:ay) (n:Nat) (B40:F5) (x0 x2 x11 x12 x13:AV) (h:aj) (K:aC):Bool:=
 ah (aR .add x13 (.int .i64 1)) fun v79=>B40 x0 x2 x11 x12 v79 h
def Qd (call:ay) (n:Nat) (B40:F5) (x0 x2 x11 x12 x13 x14:AV) (h:aj) (K:aC):Bool:=
 ah (aH 2 x12) fun v62=>ah (au h false 1 v62) fun v63=>ah (au h true 5 x14) fun v64=>call (.func 25) [v64] h fun v65 h=>fA (au h false 1 v62) v63 <| bP (dX h 1 5 [.int .i64 0, .bool false, .int .i64 0, .str [], .nilSlc] [(0,v65)]) fun v66 h=>fA (au h false 1 v62) v63 <| bP (cK h 5 64 v63 v66) fun v67 h=>ah (aH 2 x12) fun v68=>bP (unit (bT h 1 v68 v67)) fun _ h=>ah (aH 5 x12) fun v70=>ah (au h false 1 v70) fun v71=>ah (bK x0) fun v72=>ah (aH 3 v72) fun v73=>ah (au h false 1 v73) fun v74=>bP (dX h 1 1 [.int .i64 0] [(0,v74)]) fun v75 h=>fA (au h false 1 v70) v71 <| bP (cK h 1 8 v71 v75) fun v76 h=>ah (aH 5 x12) fun v77=>bP (unit (bT h 1 v77 v76)) fun _ h=>TB call n B40 x0 x2 x11 x12 x13 h K
def Sk (call:ay) (n:Nat) (B40:F5) (B55:F7) (x0 x2 x11 x12 x13 x14 x15:AV) (h:aj) (K:aC):Bool:=
 ah (dw h 1 x2) fun v48=>ah (aR .lss x15 v48) fun v49=>aZ v49 (ah (bS h 6 x2 x15) fun v50=>ah (aH 0 v50) fun v51=>ah (au h false 1 v51) fun v52=>ah (bS h 3 x11 x13) fun v53=>ah (aH 0 v53) fun v54=>ah (au h false 1 v54) fun v55=>ah (aR .eql v52 v55) fun v56=>aZ v56 (ah (bS h 6 x2 x15) fun v57=>ah (aH 1 v57) fun v58=>ah (au h true 5 v58) fun v59=>bP (unit (bT h 5 x14 v59)) fun _ h=>Hy call n B40 B55 x0 x2 x11 x12 x13 x14 x15 h K) (Hy call n B40 B55 x0 x2 x11 x12 x13 x14 x15 h K)) (Qd call n B40 x0 x2 x11 x12 x13 x14 h K)
def Ir (call:ay) (n:Nat) (B40:F5):Nat→AV→AV→AV→AV→AV→AV→AV→aj→aC→Bool
 |0=>fun _ _ _ _ _ _ _ _ _=>false
 |m+1=>fun x0 x2 x11 x12 x13 x14 x15 h K=>Sk call n B40 (fun x0 x2 x11 x12 x13 x14 x15 h=>Ir call n B40 m x0 x2 x11 x12 x13 x14 x15 h K) x0 x2 x11 x12 x13 x14 x15 h K
def R6 (call:ay) (n:Nat) (B40:F5) (x0 x2 x11 x12 x13:AV) (h:aj) (K:aC):Bool:=
 ah (eP [.int .i64 0, .bool false, .int .i64 0, .str [], .nilSlc] []) fun v45=>bP (fG h [.int .i64 0, .bool false, .int .i64 0, .str [], .nilSlc]) fun v46 h=>bP (unit (bT h 5 v46 v45)) fun _ h=>Ir call n B40 n x0 x2 x11 x12 x13 v46 (.int .i64 0) h K
def Tc (call:ay) (n:Nat) (x0 x12:AV) (h:aj) (K:aC):Bool:=
 ah (bK x0) fun v80=>ah (aH 2 v80) fun v81=>ah (au h false 1 v81) fun v82=>ah (au h true 6 x12) fun v83=>bP (dX h 1 6 [.int .i64 0, .str [], .nilSlc, .bool false, .int .i64 0, .nilSlc] [(0,v83)]) fun v84 h=>fA (au h false 1 v81) v82 <| bP (cK h 6 88 v82 v84) fun v85 h=>ah (bK x0) fun v86=>ah (aH 2 v86) fun v87=>bP (unit (bT h 1 v87 v85)) fun _ h=>ah (bK x0) fun v89=>ah (aH 4 v89) fun v90=>ah (au h false 1 v90) fun v91=>K (.tup [v91,(.int .i64 0)]) h
def SS (call:ay) (n:Nat) (B40:F5) (x0 x2 x11 x12 x13:AV) (h:aj) (K:aC):Bool:=
 ah (dw h 1 x11) fun v43=>ah (aR .lss x13 v43) fun v44=>aZ v44 (R6 call n B40 x0 x2 x11 x12 x13 h K) (Tc call n x0 x12 h K)
def Ed (call:ay) (n:Nat):Nat→AV→AV→AV→AV→AV→aj→aC→Bool
 |0=>fun _ _ _ _ _ _ _=>false
 |m+1=>fun x0 x2 x11 x12 x13 h K=>SS call n (fun x0 x2 x11 x12 x13 h=>Ed call n m x0 x2 x11 x12 x13 h K) x0 x2 x11 x12 x13 h K
def Rp (call:ay) (n:Nat) (x0 x1 x2 x3:AV) (h:aj) (K:aC):Bool:=
 ah (bK x0) fun v16=>ah (aH 0 v16) fun v17=>ah (au h false 1 v17) fun v18=>call (.func 33) [v18,x1] h fun v19 h=>ah (bK x0) fun v20=>ah (aH 3 v20) fun v21=>ah (au h false 1 v21) fun v22=>ah (aR .add v22 (.int .i64 1)) fun v23=>ah (bK x0) fun v24=>ah (aH 3 v24) fun v25=>bP (unit (bT h 1 v25 v23)) fun _ h=>ah (bK x0) fun v27=>ah (aH 4 v27) fun v28=>ah (au h false 1 v28) fun v29=>ah (aR .add v29 (.int .i64 1)) fun v30=>ah (bK x0) fun v31=>ah (aH 4 v31) fun v32=>bP (unit (bT h 1 v32 v30)) fun _ h=>ah (bK x0) fun v34=>ah (aH 4 v34) fun v35=>ah (au h false 1 v35) fun v36=>ah (bK x0) fun v37=>ah (aH 3 v37) fun v38=>ah (au h false 1 v38) fun v39=>ah (eP [.int .i64 0, .str [], .nilSlc, .bool false, .int .i64 0, .nilSlc] [(0,1,v36),(1,1,x1),(3,1,x3),(4,1,v39)]) fun v40=>bP (fG h [.int .i64 0, .str [], .nilSlc, .bool false, .int .i64 0, .nilSlc]) fun v41 h=>fA (au h false 1 v35) v36 <| fA (au h false 1 v38) v39 <| bP (unit (bT h 6 v41 v40)) fun _ h=>Ed call n n x0 x2 v19 v41 (.int .i64 0) h K
def Tw (call:ay) (n:Nat) (x0 x1 x2 x3:AV) (h:aj) (K:aC):Bool:=
 ah (bK x0) fun v8=>ah (aH 2 v8) fun v9=>ah (au h false 1 v9) fun v10=>ah (dw h 1 v10) fun v11=>ah (bK x0) fun v12=>ah (aH 1 v12) fun v13=>ah (au h false 1 v13) fun v14=>ah (aR .geq v11 v14) fun v15=>aZ v15 (K (.tup [(.int .i64 0),(.int .i64 12)]) h) (Rp call n x0 x1 x2 x3 h K)
def QK (call:ay) (n:Nat) (x0 x1 x2 x3:AV) (h:aj) (K:aC):Bool:=
 call (.func 32) [x0,x1,x2] h fun v6 h=>ah (aR .neq v6 (.int .i64 0)) fun v7=>aZ v7 (K (.tup [(.int .i64 0),v6]) h) (Tw call n x0 x1 x2 x3 h K)
def s9 (call:ay) (n:Nat) (x0 x1 x2 x3:AV) (h:aj) (K:aC):Bool:=
 ah (bK x0) fun v1=>ah (aH 0 v1) fun v2=>ah (au h false 1 v2) fun v3=>call (.func 31) [v3,x1] h fun v4 h=>ah (aR .lss v4 (.int .i64 0)) fun v5=>aZ v5 (K (.tup [(.int .i64 0),(.int .i64 10)]) h) (QK call n x0 x1 x2 x3 h K)
def Bg (call:ay) (n:Nat) (B28:F6) (x0 x8 x10 x11 x40 x41:AV) (h:aj) (K:aC):Bool:=
 ah (aR .add x41 (.int .i64 1)) fun v30=>B28 x0 x8 x10 x11 x40 v30 h
def Br (call:ay) (n:Nat) (B65:F5) (x0 x8 x11 x82 x83:AV) (h:aj) (K:aC):Bool:=
 ah (aR .add x83 (.int .i64 1)) fun v57=>B65 x0 x8 x11 x82 v57 h
def MN (call:ay) (n:Nat) (B65:F5) (x0 x8 x11 x82 x83:AV) (h:aj) (K:aC):Bool:=
 ah (aR .lss x83 x82) fun v45=>aZ v45 (ah (aR .shr x11 x83) fun v46=>ah (aR .and v46 (.int .u64 1)) fun v47=>ah (aR .eql v47 (.int .u64 1)) fun v48=>aZ v48 (ah (bK x8) fun v49=>ah (aH 5 v49) fun v50=>ah (au h false 1 v50) fun v51=>ah (bK x0) fun v52=>ah (aH 3 v52) fun v53=>ah (au h false 1 v53) fun v54=>ah (bS h 1 v51 x83) fun v55=>bP (unit (bT h 1 v55 v54)) fun _ h=>Br call n B65 x0 x8 x11 x82 x83 h K) (Br call n B65 x0 x8 x11 x82 x83 h K)) (K (.tup [x11,(.int .i64 0)]) h)
def AL (call:ay) (n:Nat):Nat→AV→AV→AV→AV→AV→aj→aC→Bool
 |0=>fun _ _ _ _ _ _ _=>false
 |m+1=>fun x0 x8 x11 x82 x83 h K=>MN call n (fun x0 x8 x11 x82 x83 h=>AL call n m x0 x8 x11 x82 x83 h K) x0 x8 x11 x82 x83 h K
def LQ (call:ay) (n:Nat) (x0 x8 x10 x11:AV) (h:aj) (K:aC):Bool:=
 ah (bK x0) fun v32=>ah (aH 3 v32) fun v33=>ah (au h false 1 v33) fun v34=>ah (aR .add v34 (.int .i64 1)) fun v35=>ah (bK x0) fun v36=>ah (aH 3 v36) fun v37=>bP (unit (bT h 1 v37 v35)) fun _ h=>call (.func 36) [x0,x8] h fun v39 h=>ah (bK x8) fun v40=>ah (aH 2 v40) fun v41=>bP (unit (bT h 1 v41 x10)) fun _ h=>call (.func 30) [x0,x8] h fun v43 h=>ah (dw h 1 x10) fun v44=>AL call n n x0 x8 x11 v44 (.int .i64 0) h K
def Ma (call:ay) (n:Nat) (x0 x8 x10 x11:AV) (h:aj) (K:aC):Bool:=
 ah (aR .eql x11 (.int .u64 0)) fun v31=>aZ v31 (K (.tup [(.int .u64 0),(.int .i64 0)]) h) (LQ call n x0 x8 x10 x11 h K)
def Ku (call:ay) (n:Nat) (B28:F6) (x0 x8 x10 x11 x40 x41:AV) (h:aj) (K:aC):Bool:=
 ah (aR .lss x41 x40) fun v18=>aZ v18 (ah (bS h 5 x10 x41) fun v19=>ah (au h true 5 v19) fun v20=>ah (bK x8) fun v21=>ah (aH 2 v21) fun v22=>ah (au h false 1 v22) fun v23=>ah (bS h 5 v23 x41) fun v24=>ah (au h true 5 v24) fun v25=>call (.func 35) [v20,v25] h fun v26 h=>ah (fT v26) fun v27=>aZ v27 (ah (aR .shl (.int .u64 1) x41) fun v28=>ah (aR .or x11 v28) fun v29=>Bg call n B28 x0 x8 x10 v29 x40 x41 h K) (Bg call n B28 x0 x8 x10 x11 x40 x41 h K)) (Ma call n x0 x8 x10 x11 h K)
def C8 (call:ay) (n:Nat):Nat→AV→AV→AV→AV→AV→AV→aj→aC→Bool
 |0=>fun _ _ _ _ _ _ _ _=>false
 |m+1=>fun x0 x8 x10 x11 x40 x41 h K=>Ku call n (fun x0 x8 x10 x11 x40 x41 h=>C8 call n m x0 x8 x10 x11 x40 x41 h K) x0 x8 x10 x11 x40 x41 h K
def Mx (call:ay) (n:Nat) (x0 x8 x10:AV) (h:aj) (K:aC):Bool:=
 ah (dw h 1 x10) fun v17=>C8 call n n x0 x8 x10 (.int .u64 0) v17 (.int .i64 0) h K
def J2 (call:ay) (n:Nat) (x0 x2 x8:AV) (h:aj) (K:aC):Bool:=
 ah (bK x8) fun v8=>ah (aH 2 v8) fun v9=>ah (au h false 1 v9) fun v10=>call (.func 34) [v10] h fun v11 h=>ah (bK x8) fun v12=>ah (aH 1 v12) fun v13=>ah (au h false 1 v13) fun v14=>call (.func 27) [x0,v14,x2,v11] h fun v15 h=>ah (fT v15) fun v16=>aZ v16 (K (.tup [(.int .u64 0),(.int .i64 11)]) h) (Mx call n x0 x8 v11 h K)
def s10 (call:ay) (n:Nat) (x0 x1 x2:AV) (h:aj) (K:aC):Bool:=
 ah (bK x0) fun v1=>ah (aH 4 v1) fun v2=>ah (au h false 1 v2) fun v3=>ah (fC h (.leaf .int) true .nilPtr v3 x1) fun v4=>ah (gX 0 v4) fun v5=>ah (gX 1 v4) fun v6=>ah (fT v6) fun v7=>aZ v7 (K (.tup [(.int .u64 0),(.int .i64 7)]) h) (J2 call n x0 x2 v5 h K)
def CK (call:ay) (n:Nat) (B30:F6) (x0 x2 x8 x10 x11 x12:AV) (h:aj) (K:aC):Bool:=
 ah (aR .add x12 (.int .i64 1)) fun v46=>B30 x0 x2 x8 x10 x11 v46 h
def CX (call:ay) (n:Nat) (B61:F6) (x0 x2 x8 x10 x11 x14:AV) (h:aj) (K:aC):Bool:=
 ah (aR .add x14 (.int .i64 1)) fun xZ=>B61 x0 x2 x8 x10 x11 xZ h
set_option maxRecDepth 100000 in
def Kc (call:ay) (n:Nat) (B61:F6) (x0 x2 x8 x10 x11 x14:AV) (h:aj) (K:aC):Bool:=
 ah (dw h 1 x2) fun v55=>ah (aR .lss x14 v55) fun v56=>aZ v56 (ah (bS h 6 x2 x14) fun v57=>ah (aH 0 v57) fun v58=>ah (au h false 1 v58) fun v59=>call (.func 38) [x10,v59] h fun v60 h=>ah (lW .u64 v60) fun v61=>ah (aR .shr x11 v61) fun v62=>ah (aR .and v62 (.int .u64 1)) fun v63=>ah (aR .eql v63 (.int .u64 1)) fun v64=>aZ v64 (ah (bK x0) fun v65=>ah (aH 2 v65) fun v66=>ah (au h false 1 v66) fun v67=>ah (bS h 6 v67 x8) fun v68=>ah (aH 2 v68) fun v69=>ah (au h false 1 v69) fun v70=>ah (bS h 6 x2 x14) fun v71=>ah (aH 1 v71) fun v72=>ah (au h true 5 v72) fun v73=>call (.func 25) [v73] h fun v74 h=>fA (au h false 1 v66) v67 <| fA (bS h 6 v67 x8) v68 <| fA (au h false 1 v69) v70 <| ah (bS h 5 v70 v60) fun v75=>bP (unit (bT h 5 v75 v74)) fun _ h=>ah (bK x0) fun v77=>ah (aH 2 v77) fun v78=>ah (au h false 1 v78) fun v79=>ah (bS h 6 v79 x8) fun v80=>ah (aH 5 v80) fun v81=>ah (au h false 1 v81) fun v82=>ah (bK x0) fun v83=>ah (aH 3 v83) fun v84=>ah (au h false 1 v84) fun v85=>ah (bS h 1 v82 v60) fun v86=>bP (unit (bT h 1 v86 v85)) fun _ h=>CX call n B61 x0 x2 x8 x10 x11 x14 h K) (CX call n B61 x0 x2 x8 x10 x11 x14 h K)) (K (.tup [x11,(.int .i64 0)]) h)
def Cy (call:ay) (n:Nat):Nat→AV→AV→AV→AV→AV→AV→aj→aC→Bool
 |0=>fun _ _ _ _ _ _ _ _=>false
 |m+1=>fun x0 x2 x8 x10 x11 x14 h K=>Kc call n (fun x0 x2 x8 x10 x11 x14 h=>Cy call n m x0 x2 x8 x10 x11 x14 h K) x0 x2 x8 x10 x11 x14 h K
def JW (call:ay) (n:Nat) (x0 x2 x8 x10 x11:AV) (h:aj) (K:aC):Bool:=
 ah (bK x0) fun v48=>ah (aH 3 v48) fun v49=>ah (au h false 1 v49) fun v50=>ah (aR .add v50 (.int .i64 1)) fun v51=>ah (bK x0) fun v52=>ah (aH 3 v52) fun v53=>bP (unit (bT h 1 v53 v51)) fun _ h=>Cy call n n x0 x2 x8 x10 x11 (.int .i64 0) h K
def KI (call:ay) (n:Nat) (x0 x2 x8 x10 x11:AV) (h:aj) (K:aC):Bool:=
 ah (aR .eql x11 (.int .u64 0)) fun v47=>aZ v47 (K (.tup [(.int .u64 0),(.int .i64 0)]) h) (JW call n x0 x2 x8 x10 x11 h K)
def LA (call:ay) (n:Nat) (B30:F6) (x0 x2 x8 x10 x11 x12:AV) (h:aj) (K:aC):Bool:=
 ah (dw h 1 x2) fun v24=>ah (aR .lss x12 v24) fun v25=>aZ v25 (ah (bS h 6 x2 x12) fun v26=>ah (aH 0 v26) fun v27=>ah (au h false 1 v27) fun v28=>call (.func 38) [x10,v28] h fun v29 h=>ah (bK x0) fun v30=>ah (aH 2 v30) fun v31=>ah (au h false 1 v31) fun v32=>ah (bS h 6 v32 x8) fun v33=>ah (aH 2 v33) fun v34=>ah (au h false 1 v34) fun v35=>ah (bS h 5 v35 v29) fun v36=>ah (au h true 5 v36) fun v37=>ah (bS h 6 x2 x12) fun v38=>ah (aH 1 v38) fun v39=>ah (au h true 5 v39) fun v40=>call (.func 39) [v37,v40] h fun v41 h=>ah (fT v41) fun v42=>aZ v42 (ah (lW .u64 v29) fun v43=>ah (aR .shl (.int .u64 1) v43) fun v44=>ah (aR .or x11 v44) fun v45=>CK call n B30 x0 x2 x8 x10 v45 x12 h K) (CK call n B30 x0 x2 x8 x10 x11 x12 h K)) (KI call n x0 x2 x8 x10 x11 h K)
def Cb (call:ay) (n:Nat):Nat→AV→AV→AV→AV→AV→AV→aj→aC→Bool
 |0=>fun _ _ _ _ _ _ _ _=>false
 |m+1=>fun x0 x2 x8 x10 x11 x12 h K=>LA call n (fun x0 x2 x8 x10 x11 x12 h=>Cb call n m x0 x2 x8 x10 x11 x12 h K) x0 x2 x8 x10 x11 x12 h K
def JQ (call:ay) (n:Nat) (x0 x2 x8:AV) (h:aj) (K:aC):Bool:=
 ah (bK x0) fun v14=>ah (aH 0 v14) fun v15=>ah (au h false 1 v15) fun v16=>ah (bK x0) fun v17=>ah (aH 2 v17) fun v18=>ah (au h false 1 v18) fun v19=>ah (bS h 6 v19 x8) fun v20=>ah (aH 1 v20) fun v21=>ah (au h false 1 v21) fun v22=>call (.func 33) [v16,v22] h fun v23 h=>Cb call n n x0 x2 x8 v23 (.int .u64 0) (.int .i64 0) h K
def MB (call:ay) (n:Nat) (x0 x2 x8:AV) (h:aj) (K:aC):Bool:=
 ah (bK x0) fun v6=>ah (aH 2 v6) fun v7=>ah (au h false 1 v7) fun v8=>ah (bS h 6 v8 x8) fun v9=>ah (aH 1 v9) fun v10=>ah (au h false 1 v10) fun v11=>call (.func 32) [x0,v11,x2] h fun v12 h=>ah (aR .neq v12 (.int .i64 0)) fun v13=>aZ v13 (K (.tup [(.int .u64 0),v12]) h) (JQ call n x0 x2 x8 h K)
def s11 (call:ay) (n:Nat) (x0 x1 x2:AV) (h:aj) (K:aC):Bool:=
 ah (bK x0) fun v1=>ah (aH 2 v1) fun v2=>ah (au h false 1 v2) fun v3=>call (.func 37) [v3,x1] h fun v4 h=>ah (aR .lss v4 (.int .i64 0)) fun v5=>aZ v5 (K (.tup [(.int .u64 0),(.int .i64 7)]) h) (MB call n x0 x2 v4 h K)
def s12 (call:ay) (n:Nat) (x0 x1:AV) (h:aj) (K:aC):Bool:=
 ah (bK x0) fun v1=>ah (aH 4 v1) fun v2=>ah (au h false 1 v2) fun v3=>ah (fC h (.leaf .int) true .nilPtr v3 x1) fun v4=>ah (gX 0 v4) fun v5=>ah (gX 1 v4) fun v6=>ah (fT v6) fun v7=>aZ v7 (K (.int .i64 7) h) (ah (bK x0) fun v8=>ah (aH 3 v8) fun v9=>ah (au h false 1 v9) fun v10=>ah (aR .add v10 (.int .i64 1)) fun v11=>ah (bK x0) fun v12=>ah (aH 3 v12) fun v13=>bP (unit (bT h 1 v13 v11)) fun _ h=>call (.func 36) [x0,v5] h fun v15 h=>ah (bK x0) fun v16=>ah (aH 5 v16) fun v17=>ah (au h false 1 v17) fun v18=>call (.func 40) [v18,x1] h fun v19 h=>ah (bK x0) fun v20=>ah (aH 6 v20) fun v21=>ah (au h false 1 v21) fun v22=>ah (bK v5) fun v23=>ah (aH 1 v23) fun v24=>ah (au h false 1 v24) fun v25=>ah (fC h (.leaf .str) false .nilPtr v22 v25) fun v26=>call (.func 40) [v26,x1] h fun v27 h=>ah (bK x0) fun v28=>ah (aH 4 v28) fun v29=>ah (au h false 1 v29) fun v30=>bP (unit (Dm h (.leaf .int) v30 x1)) fun _ h=>K (.int .i64 0) h)
def s13 (call:ay) (n:Nat) (x0 x1:AV) (h:aj) (K:aC):Bool:=
 ah (bK x0) fun v1=>ah (aH 2 v1) fun v2=>ah (au h false 1 v2) fun v3=>call (.func 37) [v3,x1] h fun v4 h=>ah (aR .lss v4 (.int .i64 0)) fun v5=>aZ v5 (K (.int .i64 7) h) (ah (bK x0) fun v6=>ah (aH 3 v6) fun v7=>ah (au h false 1 v7) fun v8=>ah (aR .add v8 (.int .i64 1)) fun v9=>ah (bK x0) fun v10=>ah (aH 3 v10) fun v11=>bP (unit (bT h 1 v11 v9)) fun _ h=>ah (bK x0) fun v13=>ah (aH 2 v13) fun v14=>ah (au h false 1 v14) fun v15=>ah (fZ h 6 v15 none (some v4) none) fun v16=>bP (cK h 6 88 .nilSlc v16) fun v17 h=>ah (bK x0) fun v18=>ah (aH 2 v18) fun v19=>ah (au h false 1 v19) fun v20=>ah (aR .add v4 (.int .i64 1)) fun v21=>ah (fZ h 6 v20 (some v21) none none) fun v22=>bP (cK h 6 88 v17 v22) fun v23 h=>ah (bK x0) fun v24=>ah (aH 2 v24) fun v25=>bP (unit (bT h 1 v25 v23)) fun _ h=>K (.int .i64 0) h)
def LM (call:ay) (n:Nat) (x1:AV) (h:aj) (K:aC):Bool:=
 ah (aH 4 x1) fun v17=>ah (au h false 1 v17) fun v18=>ah (eP [.int .i64 0, .bool false, .int .i64 0, .str [], .nilSlc] []) fun v19=>bP (dX h 1 5 [.int .i64 0, .bool false, .int .i64 0, .str [], .nilSlc] [(0,v19)]) fun v20 h=>bP (cK h 5 64 v18 v20) fun v21 h=>ah (aH 4 x1) fun v22=>ah (au h false 1 v22) fun v23=>ah (dw h 1 v23) fun v24=>ah (eP [.int .i64 0, .bool false, .int .i64 0, .str [], .nilSlc] [(0,1,(.int .i64 97))]) fun v25=>ah (bS h 5 v21 v24) fun v26=>bP (unit (bT h 5 v26 v25)) fun _ h=>K (.tup []) h
def Qw (call:ay) (n:Nat) (B6:F2) (x1 x2:AV) (h:aj) (K:aC):Bool:=
 ah (aH 4 x1) fun v2=>ah (au h false 1 v2) fun v3=>ah (dw h 1 v3) fun v4=>ah (aR .lss x2 v4) fun v5=>aZ v5 (ah (aH 4 x1) fun v6=>ah (au h false 1 v6) fun v7=>ah (bS h 5 v7 x2) fun v8=>ah (au h true 5 v8) fun v9=>call (.func 14) [v9] h fun v10 h=>ah (aH 4 x1) fun v11=>ah (au h false 1 v11) fun v12=>ah (eP [.int .i64 0, .bool false, .int .i64 0, .str [], .nilSlc] [(0,1,(.int .i64 98))]) fun v13=>ah (bS h 5 v12 x2) fun v14=>bP (unit (bT h 5 v14 v13)) fun _ h=>ah (aR .add x2 (.int .i64 1)) fun v16=>B6 x1 v16 h) (LM call n x1 h K)
def Iq (call:ay) (n:Nat):Nat→AV→AV→aj→aC→Bool
 |0=>fun _ _ _ _=>false
 |m+1=>fun x1 x2 h K=>Qw call n (fun x1 x2 h=>Iq call n m x1 x2 h K) x1 x2 h K
def s14 (call:ay) (n:Nat) (x0:AV) (h:aj) (K:aC):Bool:=
 bP (iY h 5 x0) fun v1 h=>Iq call n n v1 (.int .i64 0) h K
def s15 (call:ay) (n:Nat) (x0:AV) (h:aj) (K:aC):Bool:=
 ah (bK x0) fun v1=>ah (aH 4 v1) fun v2=>ah (au h false 1 v2) fun v3=>ah (dw h 2 v3) fun v4=>K v4 h
def s16 (call:ay) (n:Nat) (x0:AV) (h:aj) (K:aC):Bool:=
 ah (bK x0) fun v1=>ah (aH 3 v1) fun v2=>ah (au h false 1 v2) fun v3=>K v3 h
def QB (call:ay) (n:Nat) (B8:F5) (x0 x3 x12 x13 x14:AV) (h:aj) (K:aC):Bool:=
 ah (aR .lss x14 x13) fun v8=>aZ v8 (ah (bS h 1 x12 x14) fun v9=>ah (au h false 1 v9) fun v10=>ah (bK x0) fun v11=>ah (aH 4 v11) fun v12=>ah (au h false 1 v12) fun v13=>ah (fC h (.leaf .int) false .nilPtr v13 v10) fun v14=>call (.func 41) [v14] h fun v15 h=>bP (dX h 1 6 [.int .i64 0, .str [], .nilSlc, .bool false, .int .i64 0, .nilSlc] [(0,v15)]) fun v16 h=>bP (cK h 6 88 x3 v16) fun v17 h=>ah (aR .add x14 (.int .i64 1)) fun v18=>B8 x0 v17 x12 x13 v18 h) (K x3 h)
def H9 (call:ay) (n:Nat):Nat→AV→AV→AV→AV→AV→aj→aC→Bool
 |0=>fun _ _ _ _ _ _ _=>false
 |m+1=>fun x0 x3 x12 x13 x14 h K=>QB call n (fun x0 x3 x12 x13 x14 h=>H9 call n m x0 x3 x12 x13 x14 h K) x0 x3 x12 x13 x14 h K
def s17 (call:ay) (n:Nat) (x0:AV) (h:aj) (K:aC):Bool:=
 ah (bK x0) fun v1=>ah (aH 5 v1) fun v2=>ah (au h false 1 v2) fun v3=>ah (bK v3) fun v4=>ah (aH 0 v4) fun v5=>ah (au h false 1 v5) fun v6=>ah (dw h 1 v6) fun v7=>H9 call n n x0 .nilSlc v6 v7 (.int .i64 0) h K
def J9 (call:ay) (n:Nat) (B14:F3) (x0 x1 x5:AV) (h:aj) (K:aC):Bool:=
 ah (dw h 1 x0) fun v4=>ah (aR .lss x5 v4) fun v5=>aZ v5 (ah (bS h 6 x0 x5) fun v6=>ah (au h true 6 v6) fun v7=>ah (bS h 6 x1 x5) fun v8=>ah (au h true 6 v8) fun v9=>call (.func 42) [v7,v9] h fun v10 h=>ah (fT v10) fun v11=>aZ v11 (K (.bool false) h) (ah (aR .add x5 (.int .i64 1)) fun v12=>B14 x0 x1 v12 h)) (K (.bool true) h)
def BU (call:ay) (n:Nat):Nat→AV→AV→AV→aj→aC→Bool
 |0=>fun _ _ _ _ _=>false
 |m+1=>fun x0 x1 x5 h K=>J9 call n (fun x0 x1 x5 h=>BU call n m x0 x1 x5 h K) x0 x1 x5 h K
def LC (call:ay) (n:Nat) (x0 x1:AV) (h:aj) (K:aC):Bool:=
 BU call n n x0 x1 (.int .i64 0) h K
def s18 (call:ay) (n:Nat) (x0 x1:AV) (h:aj) (K:aC):Bool:=
 ah (dw h 1 x0) fun v1=>ah (dw h 1 x1) fun v2=>ah (aR .neq v1 v2) fun v3=>aZ v3 (K (.bool false) h) (LC call n x0 x1 h K)
def SH (call:ay) (n:Nat) (B3:F2) (x0 x2:AV) (h:aj) (K:aC):Bool:=
 ah (dw h 1 x0) fun v1=>ah (aR .lss x2 v1) fun v2=>aZ v2 (ah (bS h 6 x0 x2) fun v3=>ah (aH 2 v3) fun v4=>ah (au h false 1 v4) fun v5=>call (.func 43) [v5] h fun v6 h=>ah (bS h 6 x0 x2) fun v7=>ah (aH 5 v7) fun v8=>ah (au h false 1 v8) fun v9=>call (.func 44) [v9] h fun v10 h=>ah (eP [.int .i64 0, .str [], .nilSlc, .bool false, .int .i64 0, .nilSlc] [(0,1,(.int .i64 (-5)))]) fun v11=>ah (bS h 6 x0 x2) fun v12=>bP (unit (bT h 6 v12 v11)) fun _ h=>ah (aR .add x2 (.int .i64 1)) fun v14=>B3 x0 v14 h) (K (.tup []) h)
def JF (call:ay) (n:Nat):Nat→AV→AV→aj→aC→Bool
 |0=>fun _ _ _ _=>false
 |m+1=>fun x0 x2 h K=>SH call n (fun x0 x2 h=>JF call n m x0 x2 h K) x0 x2 h K
def s19 (call:ay) (n:Nat) (x0:AV) (h:aj) (K:aC):Bool:=
 JF call n n x0 (.int .i64 0) h K
set_option maxRecDepth 100000 in
def Li (call:ay) (n:Nat) (B68:F4) (x1 x2 x3 x13:AV) (h:aj) (K:aC):Bool:=
 ah (aH 4 x3) fun v104=>ah (au h false 1 v104) fun v105=>ah (dw h 1 v105) fun v106=>ah (aR .lss x13 v106) fun v107=>ah (aQ (aB v107 true) (some x13)) fun v108=>ah (aQ (aB v107 true) (aR .lss v108 (.int .i64 20))) fun v109=>ah (cB v107 v109 (.bool false)) fun v110=>aZ v110 (ah (aH 4 x3) fun v111=>ah (au h false 1 v111) fun v112=>ah (bS h 1 v112 x13) fun v113=>ah (au h false 1 v113) fun v114=>call (.func 24) [x1,v114] h fun v115 h=>ah (gX 0 v115) fun v116=>ah (gX 1 v115) fun v117=>bP (fG h [.int .i64 0, .str [], .nilSlc, .bool false, .int .i64 0, .nilSlc]) fun v118 h=>bP (unit (bT h 6 v118 v116)) fun _ h=>ah (bK x2) fun v120=>ah (aH 2 v120) fun v121=>ah (au h false 1 v121) fun v122=>ah (aH 4 x3) fun v123=>ah (au h false 1 v123) fun v124=>ah (bS h 1 v124 x13) fun v125=>ah (au h false 1 v125) fun v126=>call (.func 37) [v122,v126] h fun v127 h=>ah (aR .geq v127 (.int .i64 0)) fun v128=>ah (ru h true .bool v117 v128) fun v129=>ah (aQ (aB v129 false) (some v117)) fun v130=>ah (aQ (aB v129 false) (fT v130)) fun v131=>ah (aQ (aB v129 false) (some v131)) fun v132=>ah (aQ (aB v132 true) (au h true 6 v118)) fun v133=>ah (aQ (aB v132 true) (eP [.int .i64 0, .str [], .nilSlc, .bool false, .int .i64 0, .nilSlc] [])) fun v134=>ji (aB v132 true) (fun k=>call (.func 42) [v133,v134] h k) h fun v135 h=>ah (aQ (aB v132 true) (fT v135)) fun v136=>ah (aQ (aB v129 false) (cB v132 v136 (.bool false))) fun v137=>ah (cB v129 (.bool true) v137) fun v138=>aZ v138 (K (.bool false) h) (ah (aR .add x13 (.int .i64 1)) fun v139=>B68 x1 x2 x3 v139 h)) (K (.bool true) h)
def CP (call:ay) (n:Nat):Nat→AV→AV→AV→AV→aj→aC→Bool
 |0=>fun _ _ _ _ _ _=>false
 |m+1=>fun x1 x2 x3 x13 h K=>Li call n (fun x1 x2 x3 x13 h=>CP call n m x1 x2 x3 x13 h K) x1 x2 x3 x13 h K
def Fa (call:ay) (n:Nat) (x1 x2 x3:AV) (h:aj) (K:aC):Bool:=
 CP call n n x1 x2 x3 (.int .i64 0) h K
set_option maxRecDepth 100000 in
def Kt (call:ay) (n:Nat) (B31:F4) (x1 x2 x3 x9:AV) (h:aj) (K:aC):Bool:=
 ah (bK x2) fun v23=>ah (aH 2 v23) fun v24=>ah (au h false 1 v24) fun v25=>ah (dw h 1 v25) fun v26=>ah (aR .lss x9 v26) fun v27=>ah (aQ (aB v27 true) (some x9)) fun v28=>ah (aQ (aB v27 true) (aR .lss v28 (.int .i64 20))) fun v29=>ah (cB v27 v29 (.bool false)) fun v30=>aZ v30 (ah (bK x2) fun v31=>ah (aH 2 v31) fun v32=>ah (au h false 1 v32) fun v33=>ah (bS h 6 v33 x9) fun v34=>ah (aH 1 v34) fun v35=>ah (au h false 1 v35) fun v36=>ah (bK x2) fun v37=>ah (aH 2 v37) fun v38=>ah (au h false 1 v38) fun v39=>ah (bS h 6 v39 x9) fun v40=>ah (aH 2 v40) fun v41=>ah (au h false 1 v41) fun v42=>call (.func 48) [x1,v36,v42] h fun v43 h=>ah (bK x2) fun v44=>ah (aH 2 v44) fun v45=>ah (au h false 1 v45) fun v46=>ah (bS h 6 v46 x9) fun v47=>ah (aH 1 v47) fun v48=>ah (au h false 1 v48) fun v49=>ah (bK x2) fun v50=>ah (aH 2 v50) fun v51=>ah (au h false 1 v51) fun v52=>ah (bS h 6 v52 x9) fun v53=>ah (aH 2 v53) fun v54=>ah (au h false 1 v54) fun v55=>call (.func 49) [x2,v49,v55] h fun v56 h=>call (.func 46) [v43,v56] h fun v57 h=>ah (fT v57) fun v58=>ah (aQ (aB v58 false) (some v43)) fun v59=>ah (aQ (aB v58 false) (dw h 1 v59)) fun v60=>ah (aQ (aB v58 false) (aR .eql v60 (.int .i64 0))) fun v61=>ah (cB v58 (.bool true) v61) fun v62=>ah (aQ (aB v62 false) (some x1)) fun v63=>ah (aQ (aB v62 false) (some x2)) fun v64=>ah (aQ (aB v62 false) (bK v64)) fun v65=>ah (aQ (aB v62 false) (aH 2 v65)) fun v66=>ah (aQ (aB v62 false) (au h false 1 v66)) fun v67=>ah (aQ (aB v62 false) (some x9)) fun v68=>ah (aQ (aB v62 false) (bS h 6 v67 v68)) fun v69=>ah (aQ (aB v62 false) (aH 2 v69)) fun v70=>ah (aQ (aB v62 false) (au h false 1 v70)) fun v71=>ji (aB v62 false) (fun k=>call (.func 48) [v63,(.str [110,111,32,99,108,97,115,115]),v71] h k) h fun v72 h=>ah (aQ (aB v62 false) (dw h 1 v72)) fun v73=>ah (aQ (aB v62 false) (aR .gtr v73 (.int .i64 0))) fun v74=>ah (cB v62 (.bool true) v74) fun v75=>aZ v75 (K (.bool false) h) (call (.func 44) [v43] h fun v76 h=>ah (bK x2) fun v77=>ah (aH 2 v77) fun v78=>ah (au h false 1 v78) fun v79=>ah (bS h 6 v79 x9) fun v80=>ah (aH 0 v80) fun v81=>ah (au h false 1 v81) fun v82=>call (.func 24) [x1,v82] h fun v83 h=>ah (gX 0 v83) fun v84=>ah (gX 1 v83) fun v85=>bP (fG h [.int .i64 0, .str [], .nilSlc, .bool false, .int .i64 0, .nilSlc]) fun v86 h=>bP (unit (bT h 6 v86 v84)) fun _ h=>ah (fT v85) fun xZ=>ah (aQ (aB xZ false) (au h true 6 v86)) fun v89=>ah (aQ (aB xZ false) (some x2)) fun v90=>ah (aQ (aB xZ false) (bK v90)) fun v91=>ah (aQ (aB xZ false) (aH 2 v91)) fun v92=>ah (aQ (aB xZ false) (au h false 1 v92)) fun v93=>ah (aQ (aB xZ false) (some x9)) fun v94=>ah (aQ (aB xZ false) (bS h 6 v93 v94)) fun v95=>ah (aQ (aB xZ false) (au h true 6 v95)) fun v96=>ji (aB xZ false) (fun k=>call (.func 42) [v89,v96] h k) h fun v97 h=>ah (aQ (aB xZ false) (fT v97)) fun v98=>ah (cB xZ (.bool true) v98) fun v99=>aZ v99 (K (.bool false) h) (ah (au h true 6 v86) fun v100=>bP (dX h 1 6 [.int .i64 0, .str [], .nilSlc, .bool false, .int .i64 0, .nilSlc] [(0,v100)]) fun v101 h=>call (.func 19) [v101] h fun v102 h=>ah (aR .add x9 (.int .i64 1)) fun v103=>B31 x1 x2 x3 v103 h))) (Fa call n x1 x2 x3 h K)
def Cq (call:ay) (n:Nat):Nat→AV→AV→AV→AV→aj→aC→Bool
 |0=>fun _ _ _ _ _ _=>false
 |m+1=>fun x1 x2 x3 x9 h K=>Kt call n (fun x1 x2 x3 x9 h=>Cq call n m x1 x2 x3 x9 h K) x1 x2 x3 x9 h K
def Fj (call:ay) (n:Nat) (x1 x2 x3:AV) (h:aj) (K:aC):Bool:=
 Cq call n n x1 x2 x3 (.int .i64 0) h K
def Sb (call:ay) (n:Nat) (B6:F4) (x1 x2 x3 x7:AV) (h:aj) (K:aC):Bool:=
 ah (aH 3 x3) fun v2=>ah (au h false 1 v2) fun v3=>ah (dw h 1 v3) fun v4=>ah (aR .lss x7 v4) fun v5=>ah (aQ (aB v5 true) (some x7)) fun v6=>ah (aQ (aB v5 true) (aR .lss v6 (.int .i64 10))) fun v7=>ah (cB v5 v7 (.bool false)) fun v8=>aZ v8 (ah (aH 3 x3) fun v9=>ah (au h false 1 v9) fun v10=>ah (bS h 1 v10 x7) fun v11=>ah (au h false 1 v11) fun v12=>call (.func 45) [x1,v12] h fun v13 h=>ah (aH 3 x3) fun v14=>ah (au h false 1 v14) fun v15=>ah (bS h 1 v15 x7) fun v16=>ah (au h false 1 v16) fun v17=>call (.func 47) [x2,v17] h fun v18 h=>call (.func 46) [v13,v18] h fun v19 h=>ah (fT v19) fun v20=>aZ v20 (K (.bool false) h) (call (.func 44) [v13] h fun v21 h=>ah (aR .add x7 (.int .i64 1)) fun v22=>B6 x1 x2 x3 v22 h)) (Fj call n x1 x2 x3 h K)
def Iy (call:ay) (n:Nat):Nat→AV→AV→AV→AV→aj→aC→Bool
 |0=>fun _ _ _ _ _ _=>false
 |m+1=>fun x1 x2 x3 x7 h K=>Sb call n (fun x1 x2 x3 x7 h=>Iy call n m x1 x2 x3 x7 h K) x1 x2 x3 x7 h K
def s20 (call:ay) (n:Nat) (x0 x1 x2:AV) (h:aj) (K:aC):Bool:=
 bP (iY h 5 x0) fun v1 h=>Iy call n n x1 x2 v1 (.int .i64 0) h K
def s21 (call:ay) (n:Nat) (x0:AV) (h:aj) (K:aC):Bool:=
 call (.func 50) [x0,(.int .i64 0)] h fun v1 h=>K v1 h
set_option maxRecDepth 100000 in
def FM (call:ay) (n:Nat) (B16:F5) (x0 x4 x13 x14 x15:AV) (h:aj) (K:aC):Bool:=
 ah (aR .lss x15 x14) fun v7=>aZ v7 (ah (bS h 3 x13 x15) fun v8=>ah (au h true 3 v8) fun v9=>bP (fG h [.str [], .str [], .nilSlc]) fun v10 h=>bP (unit (bT h 3 v10 v9)) fun _ h=>ah (aH 2 v10) fun v12=>ah (au h false 1 v12) fun v13=>ah (dw h 1 v13) fun v14=>ah (aR .gtr v14 (.int .i64 62)) fun v15=>ah (aQ (aB v15 false) (some x4)) fun v16=>ah (aQ (aB v15 false) (au h true 3 v10)) fun v17=>ah (aQ (aB v15 false) (some x0)) fun v18=>ji (aB v15 false) (fun k=>call (.func 51) [v16,v17,v18] h k) h fun v19 h=>ah (aQ (aB v15 false) (fT v19)) fun v20=>ah (cB v15 (.bool true) v20) fun v21=>aZ v21 (K (.tup [.nilPtr,(.int .i64 10)]) h) (ah (bK x4) fun v22=>ah (aH 1 v22) fun v23=>ah (au h false 1 v23) fun v24=>ah (aH 0 v10) fun v25=>ah (au h false 1 v25) fun v26=>ah (bK x4) fun v27=>ah (aH 0 v27) fun v28=>ah (au h false 1 v28) fun v29=>ah (dw h 1 v29) fun v30=>bP (unit (kQ h (.leaf .str) v24 v26 v30)) fun _ h=>ah (aH 2 v10) fun v32=>ah (au h false 1 v32) fun v33=>call (.func 52) [v33] h fun v34 h=>ah (aH 2 v10) fun v35=>bP (unit (bT h 1 v35 v34)) fun _ h=>ah (bK x4) fun v37=>ah (aH 0 v37) fun v38=>ah (au h false 1 v38) fun v39=>ah (au h true 3 v10) fun v40=>bP (dX h 1 3 [.str [], .str [], .nilSlc] [(0,v40)]) fun v41 h=>fA (au h false 1 v38) v39 <| bP (cK h 3 56 v39 v41) fun v42 h=>ah (bK x4) fun v43=>ah (aH 0 v43) fun v44=>bP (unit (bT h 1 v44 v42)) fun _ h=>ah (aR .add x15 (.int .i64 1)) fun v46=>B16 x0 x4 x13 x14 v46 h)) (K (.tup [x4,(.int .i64 0)]) h)
def vQ (call:ay) (n:Nat):Nat→AV→AV→AV→AV→AV→aj→aC→Bool
 |0=>fun _ _ _ _ _ _ _=>false
 |m+1=>fun x0 x4 x13 x14 x15 h K=>FM call n (fun x0 x4 x13 x14 x15 h=>vQ call n m x0 x4 x13 x14 x15 h K) x0 x4 x13 x14 x15 h K
def MQ (call:ay) (n:Nat) (x0 x4:AV) (h:aj) (K:aC):Bool:=
 ah (dw h 1 x0) fun v6=>vQ call n n x0 x4 x0 v6 (.int .i64 0) h K
def s22 (call:ay) (n:Nat) (x0:AV) (h:aj) (K:aC):Bool:=
 bP (qN h) fun v1 h=>ah (eP [.nilSlc, .nilMap] [(1,1,v1)]) fun v2=>bP (iY h 2 v2) fun v3 h=>ah (dw h 1 x0) fun v4=>ah (aR .gtr v4 (.int .i64 64)) fun v5=>aZ v5 (K (.tup [.nilPtr,(.int .i64 10)]) h) (MQ call n x0 v3 h K)
def s23 (call:ay) (n:Nat) (x0 x1:AV) (h:aj) (K:aC):Bool:=
 ah (ru h false .ptr x0 .nilPtr) fun v1=>ah (aQ (aB v1 false) (some x1)) fun v2=>ah (aQ (aB v1 false) (aR .lss v2 (.int .i64 1))) fun v3=>ah (cB v1 (.bool true) v3) fun v4=>ah (aQ (aB v4 false) (some x1)) fun v5=>ah (aQ (aB v4 false) (aR .gtr v5 (.int .i64 65536))) fun v6=>ah (cB v4 (.bool true) v6) fun v7=>aZ v7 (K (.tup [.nilPtr,(.int .i64 1)]) h) (bP (qN h) fun v8 h=>call (.func 29) [] h fun v9 h=>bP (qN h) fun v10 h=>bP (qN h) fun v11 h=>ah (eP [.nilPtr, .int .i64 0, .int .i64 0, .int .i64 0, .nilMap, .nilPtr, .nilMap, .nilMap] [(0,1,x0),(1,1,x1),(4,1,v8),(5,1,v9),(6,1,v10),(7,1,v11)]) fun v12=>bP (iY h 8 v12) fun v13 h=>K (.tup [v13,(.int .i64 0)]) h)
def s24 (call:ay) (n:Nat) (x0 x1:AV) (h:aj) (K:aC):Bool:=
 bP (fG h [.int .i64 0, .str [], .nilSlc, .bool false, .int .i64 0, .nilSlc]) fun v1 h=>ah (bK x0) fun v2=>ah (aH 4 v2) fun v3=>ah (au h false 1 v3) fun v4=>ah (fC h (.leaf .int) true .nilPtr v4 x1) fun v5=>ah (gX 0 v5) fun v6=>ah (gX 1 v5) fun v7=>ah (fT v7) fun v8=>aZ v8 (ah (eP [.int .i64 0, .str [], .nilSlc, .bool false, .int .i64 0, .nilSlc] []) fun v9=>bP (unit (bT h 6 v1 v9)) fun _ h=>vM (mq h [(v1,some (true,6)),((.bool false),none)]) h K) (call (.func 41) [v6] h fun v11 h=>bP (unit (bT h 6 v1 v11)) fun _ h=>vM (mq h [(v1,some (true,6)),((.bool true),none)]) h K)
def s25 (call:ay) (n:Nat) (x0:AV) (h:aj) (K:aC):Bool:=
 bP (iY h 5 x0) fun v1 h=>bP (fG h [.int .i64 0, .bool false, .int .i64 0, .str [], .nilSlc]) fun v2 h=>ah (aH 4 v1) fun v3=>ah (au h false 1 v3) fun v4=>call (.func 53) [v4] h fun v5 h=>ah (aH 4 v1) fun v6=>bP (unit (bT h 1 v6 v5)) fun _ h=>ah (au h true 5 v1) fun v8=>bP (unit (bT h 5 v2 v8)) fun _ h=>vM (mq h [(v2,some (true,5))]) h K
set_option maxRecDepth 100000 in
def Mk (call:ay) (n:Nat) (B18:F7) (x0 x3 x9 x11 x33 x34 x35:AV) (h:aj) (K:aC):Bool:=
 ah (aR .lss x35 x34) fun v15=>aZ v15 (ah (bS h 6 x33 x35) fun v16=>ah (au h true 6 v16) fun v17=>bP (fG h [.str [], .int .i64 0, .bool false, .int .i64 0, .str [], .nilSlc]) fun v18 h=>bP (unit (bT h 6 v18 v17)) fun _ h=>ah (some (.fn (.func 58) [] [v18])) fun v20=>call (.func 57) [x9,v20] h fun v21 h=>ah (aR .lss v21 (.int .i64 0)) fun v22=>ah (aQ (aB v22 false) (some x11)) fun v23=>ah (aQ (aB v22 false) (some v21)) fun v24=>ah (aQ (aB v22 false) (aR .shr v23 v24)) fun v25=>ah (aQ (aB v22 false) (aR .and v25 (.int .u64 1))) fun v26=>ah (aQ (aB v22 false) (aR .eql v26 (.int .u64 1))) fun v27=>ah (cB v22 (.bool true) v27) fun v28=>ah (aQ (aB v28 false) (some x0)) fun v29=>ah (aQ (aB v28 false) (bK v29)) fun v30=>ah (aQ (aB v28 false) (aH 0 v30)) fun v31=>ah (aQ (aB v28 false) (au h false 1 v31)) fun v32=>ah (aQ (aB v28 false) (some x9)) fun v33=>ah (aQ (aB v28 false) (some v21)) fun v34=>ah (aQ (aB v28 false) (bS h 3 v33 v34)) fun v35=>ah (aQ (aB v28 false) (au h true 3 v35)) fun v36=>ah (aQ (aB v28 false) (aH 1 v18)) fun v37=>ah (aQ (aB v28 false) (au h true 5 v37)) fun v38=>ah (aQ (aB v28 false) (some x0)) fun v39=>ah (aQ (aB v28 false) (some (.fn (.func 60) [v39] []))) fun v40=>ji (aB v28 false) (fun k=>call (.func 59) [v32,v36,v38,v40] h k) h fun v41 h=>ah (aQ (aB v28 false) (fT v41)) fun v42=>ah (cB v28 (.bool true) v42) fun v43=>aZ v43 (K (.bool false) h) (ah (aR .shl (.int .u64 1) v21) fun v44=>ah (aR .or x11 v44) fun v45=>ah (aH 1 v18) fun v46=>ah (au h true 5 v46) fun v47=>call (.func 61) [v47] h fun v48 h=>ah (bS h 5 x3 v21) fun v49=>bP (unit (bT h 5 v49 v48)) fun _ h=>ah (aR .add x35 (.int .i64 1)) fun v51=>B18 x0 x3 x9 v45 x33 x34 v51 h)) (K (.bool true) h)
def AU (call:ay) (n:Nat):Nat→AV→AV→AV→AV→AV→AV→AV→aj→aC→Bool
 |0=>fun _ _ _ _ _ _ _ _ _=>false
 |m+1=>fun x0 x3 x9 x11 x33 x34 x35 h K=>Mk call n (fun x0 x3 x9 x11 x33 x34 x35 h=>AU call n m x0 x3 x9 x11 x33 x34 x35 h K) x0 x3 x9 x11 x33 x34 x35 h K
def Kz (call:ay) (n:Nat) (x0 x2 x3 x9:AV) (h:aj) (K:aC):Bool:=
 ah (dw h 1 x2) fun v14=>AU call n n x0 x3 x9 (.int .u64 0) x2 v14 (.int .i64 0) h K
def s27 (call:ay) (n:Nat) (x0 x1 x2 x3:AV) (h:aj) (K:aC):Bool:=
 ah (bK x0) fun v1=>ah (aH 0 v1) fun v2=>ah (au h false 1 v2) fun v3=>call (.func 26) [v3,x1] h fun v4 h=>ah (gX 0 v4) fun v5=>ah (gX 1 v4) fun v6=>ah (aR .neq v6 (.int .i64 0)) fun v7=>ah (aQ (aB v7 false) (some x2)) fun v8=>ah (aQ (aB v7 false) (dw h 1 v8)) fun v9=>ah (aQ (aB v7 false) (some v5)) fun v10=>ah (aQ (aB v7 false) (dw h 1 v10)) fun v11=>ah (aQ (aB v7 false) (aR .gtr v9 v11)) fun v12=>ah (cB v7 (.bool true) v12) fun v13=>aZ v13 (K (.bool false) h) (Kz call n x0 x2 x3 v5 h K)
def s28 (call:ay) (n:Nat) (x0 x1:AV) (h:aj) (K:aC):Bool:=
 ah (bK x0) fun v1=>ah (aH 0 v1) fun v2=>ah (au h false 1 v2) fun v3=>ah (bK x0) fun v4=>ah (aH 1 v4) fun v5=>ah (au h false 1 v5) fun v6=>call (.func 62) [v3,x1,v6] h fun v7 h=>ah (gX 0 v7) fun v8=>ah (gX 1 v7) fun v9=>ah (bK x0) fun v10=>ah (aH 0 v10) fun v11=>ah (au h false 1 v11) fun v12=>bP (dX h 1 1 [.int .i64 0] [(0,x1)]) fun v13 h=>call (.func 63) [v12,v8,v13] h fun v14 h=>ah (bK x0) fun v15=>ah (aH 0 v15) fun v16=>bP (unit (bT h 1 v16 v14)) fun _ h=>K (.tup []) h
def s29 (call:ay) (n:Nat) (h:aj) (K:aC):Bool:=
 ah (eP [.nilSlc, .nilFn] [(1,1,(.fn (.func 64) [] []))]) fun v1=>bP (iY h 2 v1) fun v2 h=>K v2 h
def I7 (call:ay) (n:Nat) (x0 x1 x4:AV) (h:aj) (K:aC):Bool:=
 ah (bK x0) fun v22=>ah (aH 7 v22) fun v23=>ah (au h false 1 v23) fun v24=>ah (au h true 2 x4) fun v25=>ah (fC h (.st [.str, .str]) false .nilPtr v24 v25) fun v26=>ah (bK x1) fun v27=>ah (aH 0 v27) fun v28=>ah (au h false 1 v28) fun v29=>call (.func 28) [v26,v29] h fun v30 h=>K (.tup []) h
def s30 (call:ay) (n:Nat) (x0 x1:AV) (h:aj) (K:aC):Bool:=
 ah (bK x1) fun v1=>ah (aH 1 v1) fun v2=>ah (au h false 1 v2) fun v3=>ah (bK x1) fun v4=>ah (aH 2 v4) fun v5=>ah (au h false 1 v5) fun v6=>bP (fG h [.str [], .str []]) fun v7 h=>fA (au h false 1 v2) v3 <| fA (au h false 1 v5) v6 <| call (.func 65) [v3,v6] h fun v8 h=>bP (unit (bT h 2 v7 v8)) fun _ h=>ah (bK x0) fun v10=>ah (aH 7 v10) fun v11=>ah (au h false 1 v11) fun v12=>ah (au h true 2 v7) fun v13=>ah (fC h (.st [.str, .str]) false .nilPtr v12 v13) fun v14=>ah (ru h false .ptr v14 .nilPtr) fun v15=>aZ v15 (ah (bK x0) fun v16=>ah (aH 7 v16) fun v17=>ah (au h false 1 v17) fun v18=>ah (au h true 2 v7) fun v19=>call (.func 29) [] h fun v20 h=>fA (au h false 1 v17) v18 <| fA (au h true 2 v7) v19 <| bP (unit (kQ h (.st [.str, .str]) v18 v19 v20)) fun _ h=>I7 call n x0 x1 v7 h K) (I7 call n x0 x1 v7 h K)
def Sv (call:ay) (n:Nat) (B6:F3) (x0 x1 x5:AV) (h:aj) (K:aC):Bool:=
 ah (dw h 1 x0) fun v1=>ah (aR .lss x5 v1) fun v2=>aZ v2 (ah (bS h 3 x0 x5) fun v3=>ah (aH 0 v3) fun v4=>ah (au h false 1 v4) fun v5=>ah (aR .eql v5 x1) fun v6=>aZ v6 (K x5 h) (ah (aR .add x5 (.int .i64 1)) fun v7=>B6 x0 x1 v7 h)) (K (.int .i64 (-1)) h)
def GY (call:ay) (n:Nat):Nat→AV→AV→AV→aj→aC→Bool
 |0=>fun _ _ _ _ _=>false
 |m+1=>fun x0 x1 x5 h K=>Sv call n (fun x0 x1 x5 h=>GY call n m x0 x1 x5 h K) x0 x1 x5 h K
def s31 (call:ay) (n:Nat) (x0 x1:AV) (h:aj) (K:aC):Bool:=
 GY call n n x0 x1 (.int .i64 0) h K
def JJ (call:ay) (n:Nat) (B8:F4) (x0 x2 x7 x8:AV) (h:aj) (K:aC):Bool:=
 ah (aR .add x8 (.int .i64 1)) fun v34=>B8 x0 x2 x7 v34 h
def JZ (call:ay) (n:Nat) (B8:F4) (x0 x2 x7 x8 x9:AV) (h:aj) (K:aC):Bool:=
 ah (bK x0) fun v21=>ah (aH 0 v21) fun v22=>ah (au h false 1 v22) fun v23=>ah (bS h 3 x7 x9) fun v24=>ah (au h true 3 v24) fun v25=>ah (bS h 6 x2 x8) fun v26=>ah (aH 1 v26) fun v27=>ah (au h true 5 v27) fun v28=>ah (bK x0) fun v29=>ah (aH 2 v29) fun v30=>ah (au h false 1 v30) fun v31=>call (.func 66) [v23,v25,v28,v31] h fun v32 h=>ah (fT v32) fun v33=>aZ v33 (K (.int .i64 11) h) (JJ call n B8 x0 x2 x7 x8 h K)
def Lc (call:ay) (n:Nat) (B8:F4) (B31:F6) (x0 x2 x7 x8 x9 x10:AV) (h:aj) (K:aC):Bool:=
 ah (aR .lss x10 x8) fun v12=>aZ v12 (ah (bS h 6 x2 x10) fun v13=>ah (aH 0 v13) fun v14=>ah (au h false 1 v14) fun v15=>ah (bS h 6 x2 x8) fun v16=>ah (aH 0 v16) fun v17=>ah (au h false 1 v17) fun v18=>ah (aR .eql v15 v18) fun v19=>aZ v19 (K (.int .i64 11) h) (ah (aR .add x10 (.int .i64 1)) fun v20=>B31 x0 x2 x7 x8 x9 v20 h)) (JZ call n B8 x0 x2 x7 x8 x9 h K)
def Cx (call:ay) (n:Nat) (B8:F4):Nat→AV→AV→AV→AV→AV→AV→aj→aC→Bool
 |0=>fun _ _ _ _ _ _ _ _=>false
 |m+1=>fun x0 x2 x7 x8 x9 x10 h K=>Lc call n B8 (fun x0 x2 x7 x8 x9 x10 h=>Cx call n B8 m x0 x2 x7 x8 x9 x10 h K) x0 x2 x7 x8 x9 x10 h K
def JN (call:ay) (n:Nat) (B8:F4) (x0 x2 x7 x8 x9:AV) (h:aj) (K:aC):Bool:=
 Cx call n B8 n x0 x2 x7 x8 x9 (.int .i64 0) h K
def LG (call:ay) (n:Nat) (B8:F4) (x0 x2 x7 x8:AV) (h:aj) (K:aC):Bool:=
 ah (bS h 6 x2 x8) fun v7=>ah (aH 0 v7) fun v8=>ah (au h false 1 v8) fun v9=>call (.func 38) [x7,v9] h fun v10 h=>ah (aR .lss v10 (.int .i64 0)) fun v11=>aZ v11 (K (.int .i64 11) h) (JN call n B8 x0 x2 x7 x8 v10 h K)
def Rq (call:ay) (n:Nat) (B8:F4) (x0 x2 x7 x8:AV) (h:aj) (K:aC):Bool:=
 ah (dw h 1 x2) fun v5=>ah (aR .lss x8 v5) fun v6=>aZ v6 (LG call n B8 x0 x2 x7 x8 h K) (K (.int .i64 0) h)
def EM (call:ay) (n:Nat):Nat→AV→AV→AV→AV→aj→aC→Bool
 |0=>fun _ _ _ _ _ _=>false
 |m+1=>fun x0 x2 x7 x8 h K=>Rq call n (fun x0 x2 x7 x8 h=>EM call n m x0 x2 x7 x8 h K) x0 x2 x7 x8 h K
def s32 (call:ay) (n:Nat) (x0 x1 x2:AV) (h:aj) (K:aC):Bool:=
 ah (bK x0) fun v1=>ah (aH 0 v1) fun v2=>ah (au h false 1 v2) fun v3=>call (.func 33) [v3,x1] h fun v4 h=>EM call n n x0 x2 v4 (.int .i64 0) h K
def BA (call:ay) (n:Nat) (x0 x5 x6:AV) (h:aj) (K:aC):Bool:=
 ah (bS h 3 x0 x5) fun v12=>ah (aH 2 v12) fun v13=>ah (au h false 1 v13) fun v14=>bP (cK h 3 40 x6 v14) fun v15 h=>K v15 h
def s33 (call:ay) (n:Nat) (x0 x1:AV) (h:aj) (K:aC):Bool:=
 call (.func 31) [x0,x1] h fun v1 h=>ah (aR .lss v1 (.int .i64 0)) fun v2=>aZ v2 (K .nilSlc h) (ah (bS h 3 x0 v1) fun v3=>ah (aH 1 v3) fun v4=>ah (au h false 1 v4) fun v5=>ah (aR .neq v5 (.str [])) fun v6=>aZ v6 (ah (fZ h 3 x0 none (some v1) none) fun v7=>ah (bS h 3 x0 v1) fun v8=>ah (aH 1 v8) fun v9=>ah (au h false 1 v9) fun v10=>call (.func 33) [v7,v10] h fun v11 h=>BA call n x0 v1 v11 h K) (BA call n x0 v1 .nilSlc h K))
def s34 (call:ay) (n:Nat) (x0:AV) (h:aj) (K:aC):Bool:=
 ah (ru h false .slc x0 .nilSlc) fun v1=>aZ v1 (K .nilSlc h) (bP (dX h 0 5 [.int .i64 0, .bool false, .int .i64 0, .str [], .nilSlc] []) fun v2 h=>bP (cK h 5 64 v2 x0) fun v3 h=>K v3 h)
set_option maxRecDepth 100000 in
def s35 (call:ay) (n:Nat) (x0 x1:AV) (h:aj) (K:aC):Bool:=
 bP (iY h 5 x0) fun v1 h=>bP (iY h 5 x1) fun v2 h=>ah (aH 0 v1) fun v3=>ah (au h false 1 v3) fun v4=>ah (aH 0 v2) fun v5=>ah (au h false 1 v5) fun v6=>ah (aR .eql v4 v6) fun v7=>ah (aQ (aB v7 true) (aH 1 v1)) fun v8=>ah (aQ (aB v7 true) (au h false 1 v8)) fun v9=>ah (aQ (aB v7 true) (aH 1 v2)) fun v10=>ah (aQ (aB v7 true) (au h false 1 v10)) fun v11=>ah (aQ (aB v7 true) (ru h false .bool v9 v11)) fun v12=>ah (cB v7 v12 (.bool false)) fun v13=>ah (aQ (aB v13 true) (aH 2 v1)) fun v14=>ah (aQ (aB v13 true) (au h false 1 v14)) fun v15=>ah (aQ (aB v13 true) (aH 2 v2)) fun v16=>ah (aQ (aB v13 true) (au h false 1 v16)) fun v17=>ah (aQ (aB v13 true) (aR .eql v15 v17)) fun v18=>ah (cB v13 v18 (.bool false)) fun v19=>ah (aQ (aB v19 true) (aH 3 v1)) fun v20=>ah (aQ (aB v19 true) (au h false 1 v20)) fun v21=>ah (aQ (aB v19 true) (aH 3 v2)) fun v22=>ah (aQ (aB v19 true) (au h false 1 v22)) fun v23=>ah (aQ (aB v19 true) (aR .eql v21 v23)) fun v24=>ah (cB v19 v24 (.bool false)) fun v25=>ah (aQ (aB v25 true) (aH 4 v1)) fun v26=>ah (aQ (aB v25 true) (au h false 1 v26)) fun v27=>ah (aQ (aB v25 true) (aH 4 v2)) fun v28=>ah (aQ (aB v25 true) (au h false 1 v28)) fun v29=>ji (aB v25 true) (fun k=>call (.func 67) [v27,v29,(.fn (.func 35) [] [])] h k) h fun v30 h=>ah (cB v25 v30 (.bool false)) fun v31=>K v31 h
def s36 (call:ay) (n:Nat) (x0 x1:AV) (h:aj) (K:aC):Bool:=
 ah (bK x1) fun v1=>ah (aH 1 v1) fun v2=>ah (au h false 1 v2) fun v3=>ah (bK x1) fun v4=>ah (aH 2 v4) fun v5=>ah (au h false 1 v5) fun v6=>bP (fG h [.str [], .str []]) fun v7 h=>fA (au h false 1 v2) v3 <| fA (au h false 1 v5) v6 <| call (.func 65) [v3,v6] h fun v8 h=>bP (unit (bT h 2 v7 v8)) fun _ h=>ah (bK x0) fun v10=>ah (aH 7 v10) fun v11=>ah (au h false 1 v11) fun v12=>ah (au h true 2 v7) fun v13=>ah (fC h (.st [.str, .str]) false .nilPtr v12 v13) fun v14=>ah (bK x1) fun v15=>ah (aH 0 v15) fun v16=>ah (au h false 1 v16) fun v17=>call (.func 40) [v14,v17] h fun v18 h=>ah (bK x0) fun v19=>ah (aH 7 v19) fun v20=>ah (au h false 1 v20) fun v21=>ah (au h true 2 v7) fun v22=>ah (fC h (.st [.str, .str]) false .nilPtr v21 v22) fun v23=>ah (bK v23) fun v24=>ah (aH 0 v24) fun v25=>ah (au h false 1 v25) fun v26=>ah (dw h 1 v26) fun v27=>ah (aR .eql v27 (.int .i64 0)) fun v28=>aZ v28 (ah (bK x0) fun v29=>ah (aH 7 v29) fun v30=>ah (au h false 1 v30) fun v31=>ah (au h true 2 v7) fun v32=>bP (unit (Dm h (.st [.str, .str]) v31 v32)) fun _ h=>K (.tup []) h) (K (.tup []) h)
def NR (call:ay) (n:Nat) (B6:F3) (x0 x1 x5:AV) (h:aj) (K:aC):Bool:=
 ah (dw h 1 x0) fun v1=>ah (aR .lss x5 v1) fun v2=>aZ v2 (ah (bS h 6 x0 x5) fun v3=>ah (aH 0 v3) fun v4=>ah (au h false 1 v4) fun v5=>ah (aR .eql v5 x1) fun v6=>aZ v6 (K x5 h) (ah (aR .add x5 (.int .i64 1)) fun v7=>B6 x0 x1 v7 h)) (K (.int .i64 (-1)) h)
def DJ (call:ay) (n:Nat):Nat→AV→AV→AV→aj→aC→Bool
 |0=>fun _ _ _ _ _=>false
 |m+1=>fun x0 x1 x5 h K=>NR call n (fun x0 x1 x5 h=>DJ call n m x0 x1 x5 h K) x0 x1 x5 h K
def s37 (call:ay) (n:Nat) (x0 x1:AV) (h:aj) (K:aC):Bool:=
 DJ call n n x0 x1 (.int .i64 0) h K
def SA (call:ay) (n:Nat) (B6:F3) (x0 x1 x5:AV) (h:aj) (K:aC):Bool:=
 ah (dw h 1 x0) fun v1=>ah (aR .lss x5 v1) fun v2=>aZ v2 (ah (bS h 3 x0 x5) fun v3=>ah (aH 0 v3) fun v4=>ah (au h false 1 v4) fun v5=>ah (aR .eql v5 x1) fun v6=>aZ v6 (K x5 h) (ah (aR .add x5 (.int .i64 1)) fun v7=>B6 x0 x1 v7 h)) (K (.int .i64 (-1)) h)
def Ih (call:ay) (n:Nat):Nat→AV→AV→AV→aj→aC→Bool
 |0=>fun _ _ _ _ _=>false
 |m+1=>fun x0 x1 x5 h K=>SA call n (fun x0 x1 x5 h=>Ih call n m x0 x1 x5 h K) x0 x1 x5 h K
def s38 (call:ay) (n:Nat) (x0 x1:AV) (h:aj) (K:aC):Bool:=
 Ih call n n x0 x1 (.int .i64 0) h K
set_option maxRecDepth 100000 in
def s39 (call:ay) (n:Nat) (x0 x1:AV) (h:aj) (K:aC):Bool:=
 bP (iY h 5 x0) fun v1 h=>bP (iY h 5 x1) fun v2 h=>ah (aH 0 v1) fun v3=>ah (au h false 1 v3) fun v4=>ah (aH 0 v2) fun v5=>ah (au h false 1 v5) fun v6=>ah (aR .eql v4 v6) fun v7=>ah (aQ (aB v7 true) (aH 1 v1)) fun v8=>ah (aQ (aB v7 true) (au h false 1 v8)) fun v9=>ah (aQ (aB v7 true) (aH 1 v2)) fun v10=>ah (aQ (aB v7 true) (au h false 1 v10)) fun v11=>ah (aQ (aB v7 true) (ru h false .bool v9 v11)) fun v12=>ah (cB v7 v12 (.bool false)) fun v13=>ah (aQ (aB v13 true) (aH 2 v1)) fun v14=>ah (aQ (aB v13 true) (au h false 1 v14)) fun v15=>ah (aQ (aB v13 true) (aH 2 v2)) fun v16=>ah (aQ (aB v13 true) (au h false 1 v16)) fun v17=>ah (aQ (aB v13 true) (aR .eql v15 v17)) fun v18=>ah (cB v13 v18 (.bool false)) fun v19=>ah (aQ (aB v19 true) (aH 3 v1)) fun v20=>ah (aQ (aB v19 true) (au h false 1 v20)) fun v21=>ah (aQ (aB v19 true) (aH 3 v2)) fun v22=>ah (aQ (aB v19 true) (au h false 1 v22)) fun v23=>ah (aQ (aB v19 true) (aR .eql v21 v23)) fun v24=>ah (cB v19 v24 (.bool false)) fun v25=>ah (aQ (aB v25 true) (aH 4 v1)) fun v26=>ah (aQ (aB v25 true) (au h false 1 v26)) fun v27=>ah (aQ (aB v25 true) (aH 4 v2)) fun v28=>ah (aQ (aB v25 true) (au h false 1 v28)) fun v29=>ji (aB v25 true) (fun k=>call (.func 68) [v27,v29] h k) h fun v30 h=>ah (cB v25 v30 (.bool false)) fun v31=>K v31 h
def s40 (call:ay) (n:Nat) (x0 x1:AV) (h:aj) (K:aC):Bool:=
 ah (bK x0) fun v1=>ah (aH 0 v1) fun v2=>ah (au h false 1 v2) fun v3=>ah (bK x0) fun v4=>ah (aH 1 v4) fun v5=>ah (au h false 1 v5) fun v6=>call (.func 62) [v3,x1,v6] h fun v7 h=>ah (gX 0 v7) fun v8=>ah (gX 1 v7) fun v9=>aZ v9 (ah (bK x0) fun v10=>ah (aH 0 v10) fun v11=>ah (au h false 1 v11) fun v12=>ah (aR .add v8 (.int .i64 1)) fun v13=>call (.func 69) [v12,v8,v13] h fun v14 h=>ah (bK x0) fun v15=>ah (aH 0 v15) fun v16=>bP (unit (bT h 1 v16 v14)) fun _ h=>K (.tup []) h) (K (.tup []) h)
def s41 (call:ay) (n:Nat) (x0:AV) (h:aj) (K:aC):Bool:=
 bP (fG h [.int .i64 0, .str [], .nilSlc, .bool false, .int .i64 0, .nilSlc]) fun v1 h=>ah (bK x0) fun v2=>ah (au h true 6 v2) fun v3=>bP (fG h [.int .i64 0, .str [], .nilSlc, .bool false, .int .i64 0, .nilSlc]) fun v4 h=>bP (unit (bT h 6 v4 v3)) fun _ h=>ah (bK x0) fun v6=>ah (aH 2 v6) fun v7=>ah (au h false 1 v7) fun v8=>ah (bK x0) fun v9=>ah (aH 5 v9) fun v10=>ah (au h false 1 v10) fun v11=>call (.func 70) [v8] h fun v12 h=>fA (au h false 1 v10) v11 <| call (.func 71) [v11] h fun v13 h=>ah (aH 2 v4) fun v14=>bP (unit (bT h 1 v14 v12)) fun _ h=>ah (aH 5 v4) fun v16=>bP (unit (bT h 1 v16 v13)) fun _ h=>ah (au h true 6 v4) fun v18=>bP (unit (bT h 6 v1 v18)) fun _ h=>vM (mq h [(v1,some (true,6))]) h K
set_option maxRecDepth 100000 in
def s42 (call:ay) (n:Nat) (x0 x1:AV) (h:aj) (K:aC):Bool:=
 bP (iY h 6 x0) fun v1 h=>bP (iY h 6 x1) fun v2 h=>ah (aH 0 v1) fun v3=>ah (au h false 1 v3) fun v4=>ah (aH 0 v2) fun v5=>ah (au h false 1 v5) fun v6=>ah (aR .eql v4 v6) fun v7=>ah (aQ (aB v7 true) (aH 1 v1)) fun v8=>ah (aQ (aB v7 true) (au h false 1 v8)) fun v9=>ah (aQ (aB v7 true) (aH 1 v2)) fun v10=>ah (aQ (aB v7 true) (au h false 1 v10)) fun v11=>ah (aQ (aB v7 true) (aR .eql v9 v11)) fun v12=>ah (cB v7 v12 (.bool false)) fun v13=>ah (aQ (aB v13 true) (aH 2 v1)) fun v14=>ah (aQ (aB v13 true) (au h false 1 v14)) fun v15=>ah (aQ (aB v13 true) (aH 2 v2)) fun v16=>ah (aQ (aB v13 true) (au h false 1 v16)) fun v17=>ji (aB v13 true) (fun k=>call (.func 68) [v15,v17] h k) h fun v18 h=>ah (cB v13 v18 (.bool false)) fun v19=>ah (aQ (aB v19 true) (aH 3 v1)) fun v20=>ah (aQ (aB v19 true) (au h false 1 v20)) fun v21=>ah (aQ (aB v19 true) (aH 3 v2)) fun v22=>ah (aQ (aB v19 true) (au h false 1 v22)) fun v23=>ah (aQ (aB v19 true) (ru h false .bool v21 v23)) fun v24=>ah (cB v19 v24 (.bool false)) fun v25=>ah (aQ (aB v25 true) (aH 4 v1)) fun v26=>ah (aQ (aB v25 true) (au h false 1 v26)) fun v27=>ah (aQ (aB v25 true) (aH 4 v2)) fun v28=>ah (aQ (aB v25 true) (au h false 1 v28)) fun v29=>ah (aQ (aB v25 true) (aR .eql v27 v29)) fun v30=>ah (cB v25 v30 (.bool false)) fun v31=>ah (aQ (aB v31 true) (aH 5 v1)) fun v32=>ah (aQ (aB v31 true) (au h false 1 v32)) fun v33=>ah (aQ (aB v31 true) (aH 5 v2)) fun v34=>ah (aQ (aB v31 true) (au h false 1 v34)) fun v35=>ji (aB v31 true) (fun k=>call (.func 46) [v33,v35] h k) h fun v36 h=>ah (cB v31 v36 (.bool false)) fun v37=>K v37 h
def J3 (call:ay) (n:Nat) (x0:AV) (h:aj) (K:aC):Bool:=
 ah (eP [.int .i64 0, .bool false, .int .i64 0, .str [], .nilSlc] []) fun v10=>bP (dX h 1 5 [.int .i64 0, .bool false, .int .i64 0, .str [], .nilSlc] [(0,v10)]) fun v11 h=>bP (cK h 5 64 x0 v11) fun v12 h=>ah (dw h 1 x0) fun v13=>ah (eP [.int .i64 0, .bool false, .int .i64 0, .str [], .nilSlc] [(0,1,(.int .i64 97))]) fun v14=>ah (bS h 5 v12 v13) fun v15=>bP (unit (bT h 5 v15 v14)) fun _ h=>K (.tup []) h
def Qg (call:ay) (n:Nat) (B4:F2) (x0 x2:AV) (h:aj) (K:aC):Bool:=
 ah (dw h 1 x0) fun v1=>ah (aR .lss x2 v1) fun v2=>aZ v2 (ah (bS h 5 x0 x2) fun v3=>ah (au h true 5 v3) fun v4=>call (.func 14) [v4] h fun v5 h=>ah (eP [.int .i64 0, .bool false, .int .i64 0, .str [], .nilSlc] [(0,1,(.int .i64 98)),(3,1,(.str [111,118,101,114]))]) fun v6=>ah (bS h 5 x0 x2) fun v7=>bP (unit (bT h 5 v7 v6)) fun _ h=>ah (aR .add x2 (.int .i64 1)) fun v9=>B4 x0 v9 h) (J3 call n x0 h K)
def Im (call:ay) (n:Nat):Nat→AV→AV→aj→aC→Bool
 |0=>fun _ _ _ _=>false
 |m+1=>fun x0 x2 h K=>Qg call n (fun x0 x2 h=>Im call n m x0 x2 h K) x0 x2 h K
def s43 (call:ay) (n:Nat) (x0:AV) (h:aj) (K:aC):Bool:=
 Im call n n x0 (.int .i64 0) h K
def Mg (call:ay) (n:Nat) (x0:AV) (h:aj) (K:aC):Bool:=
 bP (dX h 1 1 [.int .i64 0] [(0,(.int .i64 1))]) fun v6 h=>bP (cK h 1 8 x0 v6) fun v7 h=>ah (dw h 1 x0) fun v8=>ah (bS h 1 v7 v8) fun v9=>bP (unit (bT h 1 v9 (.int .i64 (-99)))) fun _ h=>K (.tup []) h
def Sz (call:ay) (n:Nat) (B4:F2) (x0 x2:AV) (h:aj) (K:aC):Bool:=
 ah (dw h 1 x0) fun v1=>ah (aR .lss x2 v1) fun v2=>aZ v2 (ah (bS h 1 x0 x2) fun v3=>bP (unit (bT h 1 v3 (.int .i64 (-99)))) fun _ h=>ah (aR .add x2 (.int .i64 1)) fun v5=>B4 x0 v5 h) (Mg call n x0 h K)
def Ja (call:ay) (n:Nat):Nat→AV→AV→aj→aC→Bool
 |0=>fun _ _ _ _=>false
 |m+1=>fun x0 x2 h K=>Sz call n (fun x0 x2 h=>Ja call n m x0 x2 h K) x0 x2 h K
def s44 (call:ay) (n:Nat) (x0:AV) (h:aj) (K:aC):Bool:=
 Ja call n n x0 (.int .i64 0) h K
def AB (call:ay) (n:Nat) (B18:F5) (x0 x7 x22 x23 x24:AV) (h:aj) (K:aC):Bool:=
 ah (aR .add x24 (.int .i64 1)) fun v21=>B18 x0 x7 x22 x23 v21 h
def Kq (call:ay) (n:Nat) (x7:AV) (h:aj) (K:aC):Bool:=
 call (.func 73) [x7] h fun v22 h=>K x7 h
def KD (call:ay) (n:Nat) (B18:F5) (x0 x7 x22 x23 x24:AV) (h:aj) (K:aC):Bool:=
 ah (aR .lss x24 x23) fun v9=>aZ v9 (ah (bS h 1 x22 x24) fun v10=>ah (au h false 1 v10) fun v11=>ah (bK x0) fun v12=>ah (aH 6 v12) fun v13=>ah (au h false 1 v13) fun v14=>ah (fC h (.leaf .str) false .nilPtr v14 v11) fun v15=>ah (ru h true .ptr v15 .nilPtr) fun v16=>aZ v16 (ah (bK v15) fun v17=>ah (aH 0 v17) fun v18=>ah (au h false 1 v18) fun v19=>bP (cK h 1 8 x7 v19) fun v20 h=>AB call n B18 x0 v20 x22 x23 x24 h K) (AB call n B18 x0 x7 x22 x23 x24 h K)) (Kq call n x7 h K)
def yT (call:ay) (n:Nat):Nat→AV→AV→AV→AV→AV→aj→aC→Bool
 |0=>fun _ _ _ _ _ _ _=>false
 |m+1=>fun x0 x7 x22 x23 x24 h K=>KD call n (fun x0 x7 x22 x23 x24 h=>yT call n m x0 x7 x22 x23 x24 h K) x0 x7 x22 x23 x24 h K
def K7 (call:ay) (n:Nat) (x0 x5:AV) (h:aj) (K:aC):Bool:=
 ah (dw h 1 x5) fun v8=>yT call n n x0 .nilSlc x5 v8 (.int .i64 0) h K
def s45 (call:ay) (n:Nat) (x0 x1:AV) (h:aj) (K:aC):Bool:=
 ah (bK x0) fun v1=>ah (aH 0 v1) fun v2=>ah (au h false 1 v2) fun v3=>call (.func 72) [v3,x1] h fun v4 h=>ah (gX 0 v4) fun v5=>ah (gX 1 v4) fun v6=>ah (aR .neq v6 (.int .i64 0)) fun v7=>aZ v7 (K .nilSlc h) (K7 call n x0 v5 h K)
def Kj (call:ay) (n:Nat) (B14:F3) (x0 x1 x5:AV) (h:aj) (K:aC):Bool:=
 ah (dw h 1 x0) fun v4=>ah (aR .lss x5 v4) fun v5=>aZ v5 (ah (bS h 1 x0 x5) fun v6=>ah (au h false 1 v6) fun v7=>ah (bS h 1 x1 x5) fun v8=>ah (au h false 1 v8) fun v9=>ah (aR .neq v7 v9) fun v10=>aZ v10 (K (.bool false) h) (ah (aR .add x5 (.int .i64 1)) fun v11=>B14 x0 x1 v11 h)) (K (.bool true) h)
def AQ (call:ay) (n:Nat):Nat→AV→AV→AV→aj→aC→Bool
 |0=>fun _ _ _ _ _=>false
 |m+1=>fun x0 x1 x5 h K=>Kj call n (fun x0 x1 x5 h=>AQ call n m x0 x1 x5 h K) x0 x1 x5 h K
def MS (call:ay) (n:Nat) (x0 x1:AV) (h:aj) (K:aC):Bool:=
 AQ call n n x0 x1 (.int .i64 0) h K
def s46 (call:ay) (n:Nat) (x0 x1:AV) (h:aj) (K:aC):Bool:=
 ah (dw h 1 x0) fun v1=>ah (dw h 1 x1) fun v2=>ah (aR .neq v1 v2) fun v3=>aZ v3 (K (.bool false) h) (MS call n x0 x1 h K)
def Aj (call:ay) (n:Nat) (B8:F4) (x0 x1 x5 x6:AV) (h:aj) (K:aC):Bool:=
 ah (aR .add x6 (.int .i64 1)) fun v24=>B8 x0 x1 x5 v24 h
def Tf (call:ay) (n:Nat) (B8:F4) (x0 x1 x5 x6:AV) (h:aj) (K:aC):Bool:=
 ah (bK x0) fun v1=>ah (aH 2 v1) fun v2=>ah (au h false 1 v2) fun v3=>ah (dw h 1 v3) fun v4=>ah (aR .lss x6 v4) fun v5=>aZ v5 (ah (bK x0) fun v6=>ah (aH 0 v6) fun v7=>ah (au h false 1 v7) fun v8=>ah (bK x0) fun v9=>ah (aH 2 v9) fun v10=>ah (au h false 1 v10) fun v11=>ah (bS h 6 v11 x6) fun v12=>ah (aH 1 v12) fun v13=>ah (au h false 1 v13) fun v14=>call (.func 74) [v8,v14,x1] h fun v15 h=>aZ v15 (ah (bK x0) fun v16=>ah (aH 2 v16) fun v17=>ah (au h false 1 v17) fun v18=>ah (bS h 6 v18 x6) fun v19=>ah (aH 0 v19) fun v20=>ah (au h false 1 v20) fun v21=>bP (dX h 1 1 [.int .i64 0] [(0,v21)]) fun v22 h=>bP (cK h 1 8 x5 v22) fun v23 h=>Aj call n B8 x0 x1 v23 x6 h K) (Aj call n B8 x0 x1 x5 x6 h K)) (K x5 h)
def Ij (call:ay) (n:Nat):Nat→AV→AV→AV→AV→aj→aC→Bool
 |0=>fun _ _ _ _ _ _=>false
 |m+1=>fun x0 x1 x5 x6 h K=>Tf call n (fun x0 x1 x5 x6 h=>Ij call n m x0 x1 x5 x6 h K) x0 x1 x5 x6 h K
def s47 (call:ay) (n:Nat) (x0 x1:AV) (h:aj) (K:aC):Bool:=
 Ij call n n x0 x1 .nilSlc (.int .i64 0) h K
def s48 (call:ay) (n:Nat) (x0 x1 x2:AV) (h:aj) (K:aC):Bool:=
 call (.func 75) [x2,(.fn (.func 76) [] [])] h fun v1 h=>aZ v1 (K .nilSlc h) (ah (bK x0) fun v2=>ah (aH 7 v2) fun v3=>ah (au h false 1 v3) fun v4=>call (.func 65) [x1,x2] h fun v5 h=>fA (au h false 1 v3) v4 <| ah (fC h (.st [.str, .str]) false .nilPtr v4 v5) fun v6=>ah (ru h false .ptr v6 .nilPtr) fun v7=>aZ v7 (K .nilSlc h) (ah (bK v6) fun v8=>ah (aH 0 v8) fun v9=>ah (au h false 1 v9) fun v10=>call (.func 71) [v10] h fun v11 h=>K v11 h))
def vZ (call:ay) (n:Nat) (B8:F5) (x0 x1 x2 x7 x8:AV) (h:aj) (K:aC):Bool:=
 ah (aR .add x8 (.int .i64 1)) fun v32=>B8 x0 x1 x2 x7 v32 h
set_option maxRecDepth 100000 in
def QN (call:ay) (n:Nat) (B8:F5) (x0 x1 x2 x7 x8:AV) (h:aj) (K:aC):Bool:=
 ah (bK x0) fun v1=>ah (aH 2 v1) fun v2=>ah (au h false 1 v2) fun v3=>ah (dw h 1 v3) fun v4=>ah (aR .lss x8 v4) fun v5=>aZ v5 (ah (bK x0) fun v6=>ah (aH 2 v6) fun v7=>ah (au h false 1 v7) fun v8=>ah (bS h 6 v8 x8) fun v9=>ah (aH 1 v9) fun v10=>ah (au h false 1 v10) fun v11=>ah (aR .eql v11 x1) fun v12=>ah (aQ (aB v12 true) (some x0)) fun v13=>ah (aQ (aB v12 true) (bK v13)) fun v14=>ah (aQ (aB v12 true) (aH 2 v14)) fun v15=>ah (aQ (aB v12 true) (au h false 1 v15)) fun v16=>ah (aQ (aB v12 true) (some x8)) fun v17=>ah (aQ (aB v12 true) (bS h 6 v16 v17)) fun v18=>ah (aQ (aB v12 true) (aH 2 v18)) fun v19=>ah (aQ (aB v12 true) (au h false 1 v19)) fun v20=>ah (aQ (aB v12 true) (some x2)) fun v21=>ji (aB v12 true) (fun k=>call (.func 68) [v20,v21] h k) h fun v22 h=>ah (cB v12 v22 (.bool false)) fun v23=>aZ v23 (ah (bK x0) fun v24=>ah (aH 2 v24) fun v25=>ah (au h false 1 v25) fun v26=>ah (bS h 6 v26 x8) fun v27=>ah (aH 0 v27) fun v28=>ah (au h false 1 v28) fun v29=>bP (dX h 1 1 [.int .i64 0] [(0,v29)]) fun v30 h=>bP (cK h 1 8 x7 v30) fun v31 h=>vZ call n B8 x0 x1 x2 v31 x8 h K) (vZ call n B8 x0 x1 x2 x7 x8 h K)) (K x7 h)
def Cc (call:ay) (n:Nat):Nat→AV→AV→AV→AV→AV→aj→aC→Bool
 |0=>fun _ _ _ _ _ _ _=>false
 |m+1=>fun x0 x1 x2 x7 x8 h K=>QN call n (fun x0 x1 x2 x7 x8 h=>Cc call n m x0 x1 x2 x7 x8 h K) x0 x1 x2 x7 x8 h K
def s49 (call:ay) (n:Nat) (x0 x1 x2:AV) (h:aj) (K:aC):Bool:=
 Cc call n n x0 x1 x2 .nilSlc (.int .i64 0) h K
def FL (call:ay) (n:Nat) (B16:F4) (x0 x1 x5 x6:AV) (h:aj) (K:aC):Bool:=
 ah (dw h 1 x0) fun v2=>ah (aR .lss x6 v2) fun v3=>aZ v3 (ah (aR .add x5 (.int .i64 1)) fun v4=>ah (bS h 5 x0 x6) fun v5=>ah (aH 3 v5) fun v6=>ah (au h false 1 v6) fun v7=>ah (dw h 0 v7) fun v8=>ah (aR .quo v8 (.int .i64 64)) fun v9=>ah (aR .add v4 v9) fun v10=>ah (bS h 5 x0 x6) fun v11=>ah (aH 4 v11) fun v12=>ah (au h false 1 v12) fun v13=>ah (aR .add x1 (.int .i64 1)) fun v14=>call (.func 50) [v13,v14] h fun v15 h=>fA (bS h 5 x0 x6) v5 <| fA (au h false 1 v6) v7 <| fA (dw h 0 v7) v8 <| ah (aR .add v10 v15) fun v16=>ah (aR .add x6 (.int .i64 1)) fun v17=>B16 x0 x1 v16 v17 h) (K x5 h)
def yK (call:ay) (n:Nat):Nat→AV→AV→AV→AV→aj→aC→Bool
 |0=>fun _ _ _ _ _ _=>false
 |m+1=>fun x0 x1 x5 x6 h K=>FL call n (fun x0 x1 x5 x6 h=>yK call n m x0 x1 x5 x6 h K) x0 x1 x5 x6 h K
def L9 (call:ay) (n:Nat) (x0 x1:AV) (h:aj) (K:aC):Bool:=
 yK call n n x0 x1 (.int .i64 0) (.int .i64 0) h K
def s50 (call:ay) (n:Nat) (x0 x1:AV) (h:aj) (K:aC):Bool:=
 ah (aR .gtr x1 (.int .i64 100)) fun v1=>aZ v1 (K (.int .i64 1048576) h) (L9 call n x0 x1 h K)
def s52 (call:ay) (n:Nat) (x0:AV) (h:aj) (K:aC):Bool:=
 ah (ru h false .slc x0 .nilSlc) fun v1=>aZ v1 (K .nilSlc h) (bP (dX h 0 3 [.str [], .int .i64 0, .str []] []) fun v2 h=>bP (cK h 3 40 v2 x0) fun v3 h=>K v3 h)
def NG (call:ay) (n:Nat) (B8:F3) (x0 x3 x4:AV) (h:aj) (K:aC):Bool:=
 ah (dw h 1 x0) fun v1=>ah (aR .lss x4 v1) fun v2=>aZ v2 (ah (bS h 5 x0 x4) fun v3=>ah (au h true 5 v3) fun v4=>call (.func 25) [v4] h fun v5 h=>bP (dX h 1 5 [.int .i64 0, .bool false, .int .i64 0, .str [], .nilSlc] [(0,v5)]) fun v6 h=>bP (cK h 5 64 x3 v6) fun v7 h=>ah (aR .add x4 (.int .i64 1)) fun v8=>B8 x0 v7 v8 h) (K x3 h)
def Ea (call:ay) (n:Nat):Nat→AV→AV→AV→aj→aC→Bool
 |0=>fun _ _ _ _ _=>false
 |m+1=>fun x0 x3 x4 h K=>NG call n (fun x0 x3 x4 h=>Ea call n m x0 x3 x4 h K) x0 x3 x4 h K
def s53 (call:ay) (n:Nat) (x0:AV) (h:aj) (K:aC):Bool:=
 Ea call n n x0 .nilSlc (.int .i64 0) h K
def s54 (call:ay) (n:Nat) (x0 x1:AV) (h:aj) (K:aC):Bool:=
 ah (bK x0) fun v1=>ah (aH 1 v1) fun v2=>ah (au h false 1 v2) fun v3=>ah (fC h (.leaf .str) true (.int .i64 0) v3 x1) fun v4=>ah (gX 0 v4) fun v5=>ah (gX 1 v4) fun v6=>K v6 h
def rz (call:ay) (n:Nat) (B33:F4) (x6 x25 x26 x27:AV) (h:aj) (K:aC):Bool:=
 ah (aR .lss x27 x26) fun v11=>aZ v11 (ah (bS h 1 x25 x27) fun v12=>ah (au h false 1 v12) fun v13=>bP (cK h 3 40 x6 v13) fun v14 h=>ah (aR .add x27 (.int .i64 1)) fun v15=>B33 v14 x25 x26 v15 h) (K x6 h)
def Co (call:ay) (n:Nat):Nat→AV→AV→AV→AV→aj→aC→Bool
 |0=>fun _ _ _ _ _ _=>false
 |m+1=>fun x6 x25 x26 x27 h K=>rz call n (fun x6 x25 x26 x27 h=>Co call n m x6 x25 x26 x27 h K) x6 x25 x26 x27 h K
def Kg (call:ay) (n:Nat) (x0 x3:AV) (h:aj) (K:aC):Bool:=
 call (.func 82) [.nilSlc,x3] h fun v9 h=>ah (dw h 1 x0) fun v10=>Co call n n v9 x0 v10 (.int .i64 0) h K
def Es (call:ay) (n:Nat) (B8:F5) (x0 x3 x9 x10 x11:AV) (h:aj) (K:aC):Bool:=
 ah (aR .lss x11 x10) fun v2=>aZ v2 (ah (bS h 1 x9 x11) fun v3=>ah (au h false 1 v3) fun v4=>ah (dw h 1 v4) fun v5=>ah (aR .add x3 v5) fun v6=>ah (aR .lss v6 (.int .i64 0)) fun v7=>aZ v7 (false) (ah (aR .add x11 (.int .i64 1)) fun v8=>B8 x0 v6 x9 x10 v8 h)) (Kg call n x0 x3 h K)
def Jy (call:ay) (n:Nat):Nat→AV→AV→AV→AV→AV→aj→aC→Bool
 |0=>fun _ _ _ _ _ _ _=>false
 |m+1=>fun x0 x3 x9 x10 x11 h K=>Es call n (fun x0 x3 x9 x10 x11 h=>Jy call n m x0 x3 x9 x10 x11 h K) x0 x3 x9 x10 x11 h K
def s56 (call:ay) (n:Nat) (x0:AV) (h:aj) (K:aC):Bool:=
 ah (dw h 1 x0) fun v1=>Jy call n n x0 (.int .i64 0) x0 v1 (.int .i64 0) h K
def Qu (call:ay) (n:Nat) (B6:F4) (x0 x1 x7 x8:AV) (h:aj) (K:aC):Bool:=
 ah (aR .lss x8 x7) fun v2=>aZ v2 (ah (bS h 3 x0 x8) fun v3=>ah (au h true 3 v3) fun v4=>kg call x1 [v4] h fun v5 h=>aZ v5 (K x8 h) (ah (aR .add x8 (.int .i64 1)) fun v6=>B6 x0 x1 x7 v6 h)) (K (.int .i64 (-1)) h)
def Ho (call:ay) (n:Nat):Nat→AV→AV→AV→AV→aj→aC→Bool
 |0=>fun _ _ _ _ _ _=>false
 |m+1=>fun x0 x1 x7 x8 h K=>Qu call n (fun x0 x1 x7 x8 h=>Ho call n m x0 x1 x7 x8 h K) x0 x1 x7 x8 h K
def ZI (call:ay) (n:Nat) (x0 x1:AV) (h:aj) (K:aC):Bool:=
 ah (dw h 1 x0) fun v1=>Ho call n n x0 x1 v1 (.int .i64 0) h K
def s58 (call:ay) (n:Nat) (x0 x1:AV) (h:aj) (K:aC):Bool:=
 bP (iY h 3 x0) fun v1 h=>ah (aH 0 v1) fun v2=>ah (au h false 1 v2) fun v3=>ah (aH 0 x1) fun v4=>ah (au h false 1 v4) fun v5=>ah (aR .eql v3 v5) fun v6=>K v6 h
set_option maxRecDepth 100000 in
def ZN (call:ay) (n:Nat) (x0 x1 x2 x3:AV) (h:aj) (K:aC):Bool:=
 bP (iY h 3 x1) fun v1 h=>bP (iY h 5 x2) fun v2 h=>ah (au h true 5 v2) fun v3=>call (.func 77) [v3] h fun v4 h=>ah (fT v4) fun v5=>aZ v5 (K (.bool false) h) (ah (aH 0 v2) fun v6=>ah (au h false 1 v6) fun v7=>ah (aR .eql v7 (.int .i64 0)) fun v8=>aZ v8 (K (.bool true) h) (ah (aH 1 v1) fun v9=>ah (au h false 1 v9) fun v10=>ah (aR .eql v10 (.int .i64 0)) fun v11=>aZ v11 (K (.bool true) h) (ah (aR .eql v10 (.int .i64 1)) fun v12=>aZ v12 (ah (aH 0 v2) fun v13=>ah (au h false 1 v13) fun v14=>ah (aR .eql v14 (.int .i64 1)) fun v15=>K v15 h) (ah (aR .eql v10 (.int .i64 2)) fun v16=>aZ v16 (ah (aH 0 v2) fun v17=>ah (au h false 1 v17) fun v18=>ah (aR .eql v18 (.int .i64 2)) fun v19=>K v19 h) (ah (aR .eql v10 (.int .i64 3)) fun v20=>aZ v20 (ah (aH 0 v2) fun v21=>ah (au h false 1 v21) fun v22=>ah (aR .eql v22 (.int .i64 3)) fun v23=>K v23 h) (ah (aR .eql v10 (.int .i64 4)) fun v24=>aZ v24 (ah (aH 0 v2) fun v25=>ah (au h false 1 v25) fun v26=>ah (aR .eql v26 (.int .i64 4)) fun v27=>K v27 h) (ah (aR .eql v10 (.int .i64 5)) fun v28=>aZ v28 (ah (aH 0 v2) fun v29=>ah (au h false 1 v29) fun v30=>ah (aR .neq v30 (.int .i64 5)) fun v31=>ah (aQ (aB v31 false) (some x3)) fun v32=>ah (aQ (aB v31 false) (ru h false .fn v32 .nilFn)) fun v33=>ah (cB v31 (.bool true) v33) fun v34=>aZ v34 (K (.bool false) h) (ah (aH 2 v2) fun v35=>ah (au h false 1 v35) fun v36=>kg call x3 [v36] h fun v37 h=>ah (gX 0 v37) fun v38=>ah (gX 1 v37) fun v39=>ah (aQ (aB v39 true) (some x0)) fun v40=>ah (aQ (aB v39 true) (some v38)) fun v41=>ah (aQ (aB v39 true) (aH 2 v1)) fun v42=>ah (aQ (aB v39 true) (au h false 1 v42)) fun v43=>ji (aB v39 true) (fun k=>call (.func 83) [v40,v41,v43] h k) h fun v44 h=>ah (cB v39 v44 (.bool false)) fun v45=>K v45 h)) (K (.bool false) h))))))))
def s60 (call:ay) (n:Nat) (x0 x1:AV) (h:aj) (K:aC):Bool:=
 ah (bK x0) fun v1=>ah (aH 4 v1) fun v2=>ah (au h false 1 v2) fun v3=>ah (fC h (.leaf .int) true .nilPtr v3 x1) fun v4=>ah (gX 0 v4) fun v5=>ah (gX 1 v4) fun v6=>ah (fT v6) fun v7=>aZ v7 (K (.tup [(.str []),(.bool false)]) h) (ah (bK v5) fun v8=>ah (aH 1 v8) fun v9=>ah (au h false 1 v9) fun v10=>K (.tup [v10,(.bool true)]) h)
def KF (call:ay) (n:Nat) (x1 x2:AV) (h:aj) (K:aC):Bool:=
 ah (au h true 5 x1) fun v22=>bP (unit (bT h 5 x2 v22)) fun _ h=>vM (mq h [(x2,some (true,5))]) h K
def KM (call:ay) (n:Nat) (B10:F5) (x1 x2 x9 x10 x11:AV) (h:aj) (K:aC):Bool:=
 ah (aR .lss x11 x10) fun v8=>aZ v8 (ah (bS h 5 x9 x11) fun v9=>ah (au h true 5 v9) fun v10=>bP (fG h [.int .i64 0, .bool false, .int .i64 0, .str [], .nilSlc]) fun v11 h=>bP (unit (bT h 5 v11 v10)) fun _ h=>ah (aH 4 x1) fun v13=>ah (au h false 1 v13) fun v14=>ah (au h true 5 v11) fun v15=>call (.func 61) [v15] h fun v16 h=>fA (au h false 1 v13) v14 <| bP (dX h 1 5 [.int .i64 0, .bool false, .int .i64 0, .str [], .nilSlc] [(0,v16)]) fun v17 h=>fA (au h false 1 v13) v14 <| bP (cK h 5 64 v14 v17) fun v18 h=>ah (aH 4 x1) fun v19=>bP (unit (bT h 1 v19 v18)) fun _ h=>ah (aR .add x11 (.int .i64 1)) fun v21=>B10 x1 x2 x9 x10 v21 h) (KF call n x1 x2 h K)
def BN (call:ay) (n:Nat):Nat→AV→AV→AV→AV→AV→aj→aC→Bool
 |0=>fun _ _ _ _ _ _ _=>false
 |m+1=>fun x1 x2 x9 x10 x11 h K=>KM call n (fun x1 x2 x9 x10 x11 h=>BN call n m x1 x2 x9 x10 x11 h K) x1 x2 x9 x10 x11 h K
def s61 (call:ay) (n:Nat) (x0:AV) (h:aj) (K:aC):Bool:=
 bP (iY h 5 x0) fun v1 h=>bP (fG h [.int .i64 0, .bool false, .int .i64 0, .str [], .nilSlc]) fun v2 h=>ah (aH 4 v1) fun v3=>ah (au h false 1 v3) fun v4=>ah (aH 4 v1) fun v5=>bP (unit (bT h 1 v5 .nilSlc)) fun _ h=>ah (dw h 1 v4) fun v7=>BN call n n v1 v2 v4 v7 (.int .i64 0) h K
def MR (call:ay) (n:Nat) (x0 x1 x2 x8 x9:AV) (h:aj) (K:aC):Bool:=
 ah (aR .lss x9 x8) fun v12=>ah (aQ (aB v12 true) (some x2)) fun v13=>ah (aQ (aB v12 true) (some x0)) fun v14=>ah (aQ (aB v12 true) (some x9)) fun v15=>ah (aQ (aB v12 true) (bS h 1 v14 v15)) fun v16=>ah (aQ (aB v12 true) (au h false 1 v16)) fun v17=>ah (aQ (aB v12 true) (some x1)) fun v18=>ji (aB v12 true) (fun k=>kg call v13 [v17,v18] h k) h fun v19 h=>ah (aQ (aB v12 true) (aR .eql v19 (.int .i64 0))) fun v20=>ah (cB v12 v20 (.bool false)) fun v21=>K (.tup [x9,v21]) h
def QF (call:ay) (n:Nat) (B8:F6) (x0 x1 x2 x8 x9 x10:AV) (h:aj) (K:aC):Bool:=
 ah (aR .lss x9 x10) fun v2=>aZ v2 (ah (aR .add x9 x10) fun v3=>ah (lW .u64 v3) fun v4=>ah (aR .shr v4 (.int .u64 1)) fun v5=>ah (lW .i64 v5) fun v6=>ah (bS h 1 x0 v6) fun v7=>ah (au h false 1 v7) fun v8=>kg call x2 [v8,x1] h fun v9 h=>ah (aR .lss v9 (.int .i64 0)) fun v10=>aZ v10 (ah (aR .add v6 (.int .i64 1)) fun v11=>B8 x0 x1 x2 x8 v11 x10 h) (B8 x0 x1 x2 x8 x9 v6 h)) (MR call n x0 x1 x2 x8 x9 h K)
def IW (call:ay) (n:Nat):Nat→AV→AV→AV→AV→AV→AV→aj→aC→Bool
 |0=>fun _ _ _ _ _ _ _ _=>false
 |m+1=>fun x0 x1 x2 x8 x9 x10 h K=>QF call n (fun x0 x1 x2 x8 x9 x10 h=>IW call n m x0 x1 x2 x8 x9 x10 h K) x0 x1 x2 x8 x9 x10 h K
def s62 (call:ay) (n:Nat) (x0 x1 x2:AV) (h:aj) (K:aC):Bool:=
 ah (dw h 1 x0) fun v1=>IW call n n x0 x1 x2 v1 (.int .i64 0) v1 h K
def s64 (call:ay) (n:Nat) (x0 x1:AV) (h:aj) (K:aC):Bool:=
 ah (aR .sub x0 x1) fun v1=>K v1 h
def Mw (call:ay) (n:Nat) (x0 x4 x5:AV) (h:aj) (K:aC):Bool:=
 ah (K8 h x5) fun v14=>ah (eP [.str [], .str []] [(0,1,x0),(1,1,v14)]) fun v15=>bP (unit (bT h 2 x4 v15)) fun _ h=>vM (mq h [(x4,some (true,2))]) h K
def Tq (call:ay) (n:Nat) (B8:F6) (x0 x4 x5 x10 x11 x12:AV) (h:aj) (K:aC):Bool:=
 ah (aR .lss x12 x11) fun v3=>aZ v3 (ah (bS h 5 x10 x12) fun v4=>ah (au h true 5 v4) fun v5=>bP (fG h [.int .i64 0, .bool false, .int .i64 0, .str [], .nilSlc]) fun v6 h=>bP (unit (bT h 5 v6 v5)) fun _ h=>ah (au h true 5 v6) fun v8=>call (.func 86) [v8] h fun v9 h=>ah (gX 0 v9) fun v10=>ah (gX 1 v9) fun v11=>bP (zJ h 5 x5 v10) fun v12 h=>ah (aR .add x12 (.int .i64 1)) fun v13=>B8 x0 x4 v12 x10 x11 v13 h) (Mw call n x0 x4 x5 h K)
def JC (call:ay) (n:Nat):Nat→AV→AV→AV→AV→AV→AV→aj→aC→Bool
 |0=>fun _ _ _ _ _ _ _ _=>false
 |m+1=>fun x0 x4 x5 x10 x11 x12 h K=>Tq call n (fun x0 x4 x5 x10 x11 x12 h=>JC call n m x0 x4 x5 x10 x11 x12 h K) x0 x4 x5 x10 x11 x12 h K
def s65 (call:ay) (n:Nat) (x0 x1:AV) (h:aj) (K:aC):Bool:=
 bP (fG h [.str [], .str []]) fun v1 h=>ah (dw h 1 x1) fun v2=>JC call n n x0 v1 .nilSlc x1 v2 (.int .i64 0) h K
set_option maxRecDepth 100000 in
def s66 (call:ay) (n:Nat) (x0 x1 x2 x3:AV) (h:aj) (K:aC):Bool:=
 bP (iY h 3 x1) fun v1 h=>bP (iY h 5 x2) fun v2 h=>ah (au h true 5 v2) fun v3=>call (.func 87) [v3] h fun v4 h=>ah (fT v4) fun v5=>aZ v5 (K (.bool false) h) (ah (aH 0 v2) fun v6=>ah (au h false 1 v6) fun v7=>ah (aR .eql v7 (.int .i64 0)) fun v8=>aZ v8 (K (.bool true) h) (ah (aH 1 v1) fun v9=>ah (au h false 1 v9) fun v10=>ah (aR .eql v10 (.int .i64 0)) fun v11=>aZ v11 (K (.bool true) h) (ah (aR .eql v10 (.int .i64 1)) fun v12=>aZ v12 (ah (aH 0 v2) fun v13=>ah (au h false 1 v13) fun v14=>ah (aR .eql v14 (.int .i64 1)) fun v15=>K v15 h) (ah (aR .eql v10 (.int .i64 2)) fun v16=>aZ v16 (ah (aH 0 v2) fun v17=>ah (au h false 1 v17) fun v18=>ah (aR .eql v18 (.int .i64 2)) fun v19=>K v19 h) (ah (aR .eql v10 (.int .i64 3)) fun v20=>aZ v20 (ah (aH 0 v2) fun v21=>ah (au h false 1 v21) fun v22=>ah (aR .eql v22 (.int .i64 3)) fun v23=>K v23 h) (ah (aR .eql v10 (.int .i64 4)) fun v24=>aZ v24 (ah (aH 0 v2) fun v25=>ah (au h false 1 v25) fun v26=>ah (aR .eql v26 (.int .i64 4)) fun v27=>K v27 h) (ah (aR .eql v10 (.int .i64 5)) fun v28=>aZ v28 (ah (aH 2 v2) fun v29=>ah (au h false 1 v29) fun v30=>call (.func 37) [x3,v30] h fun v31 h=>ah (aH 0 v2) fun v32=>ah (au h false 1 v32) fun v33=>ah (aR .eql v33 (.int .i64 5)) fun v34=>ah (aQ (aB v34 true) (some v31)) fun v35=>ah (aQ (aB v34 true) (aR .geq v35 (.int .i64 0))) fun v36=>ah (cB v34 v36 (.bool false)) fun v37=>ah (aQ (aB v37 true) (some x0)) fun v38=>ah (aQ (aB v37 true) (some x3)) fun v39=>ah (aQ (aB v37 true) (some v31)) fun v40=>ah (aQ (aB v37 true) (bS h 6 v39 v40)) fun v41=>ah (aQ (aB v37 true) (aH 1 v41)) fun v42=>ah (aQ (aB v37 true) (au h false 1 v42)) fun v43=>ah (aQ (aB v37 true) (aH 2 v1)) fun v44=>ah (aQ (aB v37 true) (au h false 1 v44)) fun v45=>ji (aB v37 true) (fun k=>call (.func 74) [v38,v43,v45] h k) h fun v46 h=>ah (cB v37 v46 (.bool false)) fun v47=>K v47 h) (K (.bool false) h))))))))
def Gy (call:ay) (n:Nat) (B14:F5) (x1 x2 x15 x16 x17:AV) (h:aj) (K:aC):Bool:=
 ah (aR .lss x17 x16) fun v5=>aZ v5 (ah (bS h 5 x15 x17) fun v6=>ah (au h true 5 v6) fun v7=>bP (fG h [.int .i64 0, .bool false, .int .i64 0, .str [], .nilSlc]) fun v8 h=>bP (unit (bT h 5 v8 v7)) fun _ h=>ah (bS h 5 x1 x17) fun v10=>ah (au h true 5 v10) fun v11=>bP (fG h [.int .i64 0, .bool false, .int .i64 0, .str [], .nilSlc]) fun v12 h=>bP (unit (bT h 5 v12 v11)) fun _ h=>ah (au h true 5 v8) fun v14=>ah (au h true 5 v12) fun v15=>kg call x2 [v14,v15] h fun v16 h=>ah (fT v16) fun v17=>aZ v17 (K (.bool false) h) (ah (aR .add x17 (.int .i64 1)) fun v18=>B14 x1 x2 x15 x16 v18 h)) (K (.bool true) h)
def yc (call:ay) (n:Nat):Nat→AV→AV→AV→AV→AV→aj→aC→Bool
 |0=>fun _ _ _ _ _ _ _=>false
 |m+1=>fun x1 x2 x15 x16 x17 h K=>Gy call n (fun x1 x2 x15 x16 x17 h=>yc call n m x1 x2 x15 x16 x17 h K) x1 x2 x15 x16 x17 h K
def Gu (call:ay) (n:Nat) (x0 x1 x2:AV) (h:aj) (K:aC):Bool:=
 ah (dw h 1 x0) fun v4=>yc call n n x1 x2 x0 v4 (.int .i64 0) h K
def s67 (call:ay) (n:Nat) (x0 x1 x2:AV) (h:aj) (K:aC):Bool:=
 ah (dw h 1 x0) fun v1=>ah (dw h 1 x1) fun v2=>ah (aR .neq v1 v2) fun v3=>aZ v3 (K (.bool false) h) (Gu call n x0 x1 x2 h K)
def FT (call:ay) (n:Nat) (B14:F3) (x0 x1 x5:AV) (h:aj) (K:aC):Bool:=
 ah (dw h 1 x0) fun v4=>ah (aR .lss x5 v4) fun v5=>aZ v5 (ah (bS h 5 x0 x5) fun v6=>ah (au h true 5 v6) fun v7=>ah (bS h 5 x1 x5) fun v8=>ah (au h true 5 v8) fun v9=>call (.func 39) [v7,v9] h fun v10 h=>ah (fT v10) fun v11=>aZ v11 (K (.bool false) h) (ah (aR .add x5 (.int .i64 1)) fun v12=>B14 x0 x1 v12 h)) (K (.bool true) h)
def yR (call:ay) (n:Nat):Nat→AV→AV→AV→aj→aC→Bool
 |0=>fun _ _ _ _ _=>false
 |m+1=>fun x0 x1 x5 h K=>FT call n (fun x0 x1 x5 h=>yR call n m x0 x1 x5 h K) x0 x1 x5 h K
def F8 (call:ay) (n:Nat) (x0 x1:AV) (h:aj) (K:aC):Bool:=
 yR call n n x0 x1 (.int .i64 0) h K
def s68 (call:ay) (n:Nat) (x0 x1:AV) (h:aj) (K:aC):Bool:=
 ah (dw h 1 x0) fun v1=>ah (dw h 1 x1) fun v2=>ah (aR .neq v1 v2) fun v3=>aZ v3 (K (.bool false) h) (F8 call n x0 x1 h K)
def s69 (call:ay) (n:Nat) (x0 x1 x2:AV) (h:aj) (K:aC):Bool:=
 ah (dw h 1 x0) fun v1=>ah (fZ h 1 x0 (some x1) (some x2) (some v1)) fun v2=>ah (aR .eql x1 x2) fun v3=>aZ v3 (K x0 h) (ah (dw h 1 x0) fun v4=>ah (fZ h 1 x0 none (some x1) none) fun v5=>ah (fZ h 1 x0 (some x2) none none) fun v6=>bP (cK h 1 8 v5 v6) fun v7 h=>ah (dw h 1 v7) fun v8=>ah (fZ h 1 v7 (some v8) (some v4) none) fun v9=>bP (unit (K6 h 1 [.int .i64 0] v9)) fun _ h=>K v7 h)
def SE (call:ay) (n:Nat) (B8:F4) (x3 x6 x7 x8:AV) (h:aj) (K:aC):Bool:=
 ah (aR .lss x8 x7) fun v2=>aZ v2 (ah (bS h 5 x6 x8) fun v3=>ah (au h true 5 v3) fun v4=>bP (fG h [.int .i64 0, .bool false, .int .i64 0, .str [], .nilSlc]) fun v5 h=>bP (unit (bT h 5 v5 v4)) fun _ h=>ah (au h true 5 v5) fun v7=>call (.func 61) [v7] h fun v8 h=>bP (dX h 1 5 [.int .i64 0, .bool false, .int .i64 0, .str [], .nilSlc] [(0,v8)]) fun v9 h=>bP (cK h 5 64 x3 v9) fun v10 h=>ah (aR .add x8 (.int .i64 1)) fun v11=>B8 v10 x6 x7 v11 h) (K x3 h)
def IQ (call:ay) (n:Nat):Nat→AV→AV→AV→AV→aj→aC→Bool
 |0=>fun _ _ _ _ _ _=>false
 |m+1=>fun x3 x6 x7 x8 h K=>SE call n (fun x3 x6 x7 x8 h=>IQ call n m x3 x6 x7 x8 h K) x3 x6 x7 x8 h K
def s70 (call:ay) (n:Nat) (x0:AV) (h:aj) (K:aC):Bool:=
 ah (dw h 1 x0) fun v1=>IQ call n n .nilSlc x0 v1 (.int .i64 0) h K
def s71 (call:ay) (n:Nat) (x0:AV) (h:aj) (K:aC):Bool:=
 ah (ru h false .slc x0 .nilSlc) fun v1=>aZ v1 (K .nilSlc h) (bP (dX h 0 1 [.int .i64 0] []) fun v2 h=>bP (cK h 1 8 v2 x0) fun v3 h=>K v3 h)
def Am (call:ay) (n:Nat) (B16:F6) (x0 x1 x6 x16 x17 x18:AV) (h:aj) (K:aC):Bool:=
 ah (aR .add x18 (.int .i64 1)) fun v19=>B16 x0 x1 x6 x16 x17 v19 h
def FU (call:ay) (n:Nat) (B16:F6) (x0 x1 x6 x16 x17 x18:AV) (h:aj) (K:aC):Bool:=
 ah (aR .lss x18 x17) fun v7=>aZ v7 (ah (bS h 3 x16 x18) fun v8=>ah (au h true 3 v8) fun v9=>bP (fG h [.str [], .str [], .nilSlc]) fun v10 h=>bP (unit (bT h 3 v10 v9)) fun _ h=>ah (aH 0 v10) fun v12=>ah (au h false 1 v12) fun v13=>call (.func 83) [x0,v13,x1] h fun v14 h=>aZ v14 (ah (aH 0 v10) fun v15=>ah (au h false 1 v15) fun v16=>bP (dX h 1 1 [.str []] [(0,v16)]) fun v17 h=>bP (cK h 1 16 x6 v17) fun v18 h=>Am call n B16 x0 x1 v18 x16 x17 x18 h K) (Am call n B16 x0 x1 x6 x16 x17 x18 h K)) (K (.tup [x6,(.int .i64 0)]) h)
def yA (call:ay) (n:Nat):Nat→AV→AV→AV→AV→AV→AV→aj→aC→Bool
 |0=>fun _ _ _ _ _ _ _ _=>false
 |m+1=>fun x0 x1 x6 x16 x17 x18 h K=>FU call n (fun x0 x1 x6 x16 x17 x18 h=>yA call n m x0 x1 x6 x16 x17 x18 h K) x0 x1 x6 x16 x17 x18 h K
def ML (call:ay) (n:Nat) (x0 x1:AV) (h:aj) (K:aC):Bool:=
 ah (bK x0) fun v3=>ah (aH 0 v3) fun v4=>ah (au h false 1 v4) fun v5=>ah (dw h 1 v5) fun v6=>yA call n n x0 x1 .nilSlc v5 v6 (.int .i64 0) h K
def s72 (call:ay) (n:Nat) (x0 x1:AV) (h:aj) (K:aC):Bool:=
 call (.func 54) [x0,x1] h fun v1 h=>ah (fT v1) fun v2=>aZ v2 (K (.tup [.nilSlc,(.int .i64 10)]) h) (ML call n x0 x1 h K)
def E9 (call:ay) (n:Nat) (B14:F3) (x0 x2 x7:AV) (h:aj) (K:aC):Bool:=
 ah (aR .geq x7 (.int .i64 0)) fun v4=>aZ v4 (ah (bS h 3 x0 x7) fun v5=>ah (aH 0 v5) fun v6=>ah (au h false 1 v6) fun v7=>ah (aR .eql v7 x2) fun v8=>aZ v8 (K (.bool true) h) (ah (bS h 3 x0 x7) fun v9=>ah (aH 1 v9) fun v10=>ah (au h false 1 v10) fun v11=>call (.func 31) [x0,v11] h fun v12 h=>B14 x0 x2 v12 h)) (K (.bool false) h)
def yQ (call:ay) (n:Nat):Nat→AV→AV→AV→aj→aC→Bool
 |0=>fun _ _ _ _ _=>false
 |m+1=>fun x0 x2 x7 h K=>E9 call n (fun x0 x2 x7 h=>yQ call n m x0 x2 x7 h K) x0 x2 x7 h K
def JR (call:ay) (n:Nat) (x0 x1 x2:AV) (h:aj) (K:aC):Bool:=
 call (.func 31) [x0,x1] h fun v3 h=>yQ call n n x0 x2 v3 h K
def s74 (call:ay) (n:Nat) (x0 x1 x2:AV) (h:aj) (K:aC):Bool:=
 call (.func 31) [x0,x2] h fun v1 h=>ah (aR .lss v1 (.int .i64 0)) fun v2=>aZ v2 (K (.bool false) h) (JR call n x0 x1 x2 h K)
def s75 (call:ay) (n:Nat) (x0 x1:AV) (h:aj) (K:aC):Bool:=
 call (.func 90) [x0,x1] h fun v1 h=>ah (aR .geq v1 (.int .i64 0)) fun v2=>K v2 h
def s76 (call:ay) (n:Nat) (x0:AV) (h:aj) (K:aC):Bool:=
 bP (iY h 5 x0) fun v1 h=>ah (au h true 5 v1) fun v2=>call (.func 77) [v2] h fun v3 h=>ah (fT v3) fun v4=>K v4 h
def s77 (call:ay) (n:Nat) (x0:AV) (h:aj) (K:aC):Bool:=
 bP (iY h 5 x0) fun v1 h=>ah (au h true 5 v1) fun v2=>call (.func 91) [v2,(.int .i64 0)] h fun v3 h=>K v3 h
def Fq (call:ay) (n:Nat) (x0:AV) (h:aj) (K:aC):Bool:=
 ah (dw h 0 x0) fun v32=>ah (aR .geq v32 (.int .i64 1)) fun v33=>ah (aQ (aB v33 true) (some x0)) fun v34=>ah (aQ (aB v33 true) (dw h 0 v34)) fun v35=>ah (aQ (aB v33 true) (aR .leq v35 (.int .i64 64))) fun v36=>ah (cB v33 v36 (.bool false)) fun v37=>ah (aQ (aB v37 true) (some x0)) fun v38=>ji (aB v37 true) (fun k=>call (.func 92) [v38] h k) h fun v39 h=>ah (aQ (aB v37 true) (fT v39)) fun v40=>ah (cB v37 v40 (.bool false)) fun v41=>K v41 h
set_option maxRecDepth 100000 in
def QV (call:ay) (n:Nat) (B6:F3) (x0 x7 x8:AV) (h:aj) (K:aC):Bool:=
 ah (aR .lss x8 x7) fun v2=>aZ v2 (ah (C9 x0 x8) fun v3=>ah (aR .geq v3 (.int .u8 97)) fun v4=>ah (aQ (aB v4 true) (some v3)) fun v5=>ah (aQ (aB v4 true) (aR .leq v5 (.int .u8 122))) fun v6=>ah (cB v4 v6 (.bool false)) fun v7=>ah (aQ (aB v7 false) (some v3)) fun v8=>ah (aQ (aB v7 false) (aR .geq v8 (.int .u8 65))) fun v9=>ah (aQ (aB v7 false) (some v9)) fun v10=>ah (aQ (aB v10 true) (some v3)) fun v11=>ah (aQ (aB v10 true) (aR .leq v11 (.int .u8 90))) fun v12=>ah (aQ (aB v7 false) (cB v10 v12 (.bool false))) fun v13=>ah (cB v7 (.bool true) v13) fun v14=>ah (fT v14) fun v15=>ah (aQ (aB v15 true) (some x8)) fun v16=>ah (aQ (aB v15 true) (aR .eql v16 (.int .i64 0))) fun v17=>ah (aQ (aB v15 true) (some v17)) fun v18=>ah (aQ (aB v18 false) (some v3)) fun v19=>ah (aQ (aB v18 false) (aR .neq v19 (.int .u8 95))) fun v20=>ah (aQ (aB v18 false) (some v20)) fun v21=>ah (aQ (aB v21 true) (some v3)) fun v22=>ah (aQ (aB v21 true) (aR .lss v22 (.int .u8 48))) fun v23=>ah (aQ (aB v21 true) (some v23)) fun v24=>ah (aQ (aB v24 false) (some v3)) fun v25=>ah (aQ (aB v24 false) (aR .gtr v25 (.int .u8 57))) fun v26=>ah (aQ (aB v21 true) (cB v24 (.bool true) v26)) fun v27=>ah (aQ (aB v18 false) (cB v21 v27 (.bool false))) fun v28=>ah (aQ (aB v15 true) (cB v18 (.bool true) v28)) fun v29=>ah (cB v15 v29 (.bool false)) fun v30=>aZ v30 (K (.bool false) h) (ah (aR .add x8 (.int .i64 1)) fun v31=>B6 x0 x7 v31 h)) (Fq call n x0 h K)
def Jr (call:ay) (n:Nat):Nat→AV→AV→AV→aj→aC→Bool
 |0=>fun _ _ _ _ _=>false
 |m+1=>fun x0 x7 x8 h K=>QV call n (fun x0 x7 x8 h=>Jr call n m x0 x7 x8 h K) x0 x7 x8 h K
def s78 (call:ay) (n:Nat) (x0:AV) (h:aj) (K:aC):Bool:=
 ah (dw h 0 x0) fun v1=>Jr call n n x0 v1 (.int .i64 0) h K
def s79 (call:ay) (n:Nat) (x0 x1:AV) (h:aj) (K:aC):Bool:=
 call (.func 93) [x0,x1] h fun v1 h=>ah (aR .geq v1 (.int .i64 0)) fun v2=>K v2 h
def s80 (call:ay) (n:Nat) (x0 x1:AV) (h:aj) (K:aC):Bool:=
 bP (iY h 3 x0) fun v1 h=>ah (aH 0 v1) fun v2=>ah (au h false 1 v2) fun v3=>ah (aH 2 x1) fun v4=>ah (au h false 1 v4) fun v5=>ah (aR .eql v3 v5) fun v6=>K v6 h
def s82 (call:ay) (n:Nat) (x0 x1:AV) (h:aj) (K:aC):Bool:=
 ah (aR .lss x1 (.int .i64 0)) fun v1=>aZ v1 (false) (ah (JK x0) fun v2=>ah (dw h 1 x0) fun v3=>ah (aR .sub v2 v3) fun v4=>ah (aR .sub x1 v4) fun v5=>ah (aR .gtr v5 (.int .i64 0)) fun v6=>aZ v6 (ah (JK x0) fun v7=>ah (fZ h 3 x0 none (some v7) none) fun v8=>bP (DR h 3 40 [.str [], .int .i64 0, .str []] v8 v5) fun v9 h=>ah (dw h 1 x0) fun v10=>ah (fZ h 3 v9 none (some v10) none) fun v11=>K v11 h) (K x0 h))
def s86 (call:ay) (n:Nat) (x0:AV) (h:aj) (K:aC):Bool:=
 bP (iY h 5 x0) fun v1 h=>ah (au h true 5 v1) fun v2=>call (.func 77) [v2] h fun v3 h=>ah (fT v3) fun v4=>aZ v4 (K (.tup [.nilSlc,(.int .i64 1)]) h) (ah (au h true 5 v1) fun v5=>call (.func 95) [.nilSlc,v5] h fun v6 h=>K (.tup [v6,(.int .i64 0)]) h)
def s87 (call:ay) (n:Nat) (x0:AV) (h:aj) (K:aC):Bool:=
 bP (iY h 5 x0) fun v1 h=>ah (au h true 5 v1) fun v2=>call (.func 96) [v2,(.int .i64 0)] h fun v3 h=>K v3 h
def QT (call:ay) (n:Nat) (B6:F4) (x0 x1 x7 x8:AV) (h:aj) (K:aC):Bool:=
 ah (aR .lss x8 x7) fun v2=>aZ v2 (ah (bS h 5 x0 x8) fun v3=>ah (au h true 5 v3) fun v4=>kg call x1 [v4] h fun v5 h=>aZ v5 (K x8 h) (ah (aR .add x8 (.int .i64 1)) fun v6=>B6 x0 x1 x7 v6 h)) (K (.int .i64 (-1)) h)
def Jc (call:ay) (n:Nat):Nat→AV→AV→AV→AV→aj→aC→Bool
 |0=>fun _ _ _ _ _ _=>false
 |m+1=>fun x0 x1 x7 x8 h K=>QT call n (fun x0 x1 x7 x8 h=>Jc call n m x0 x1 x7 x8 h K) x0 x1 x7 x8 h K
def s90 (call:ay) (n:Nat) (x0 x1:AV) (h:aj) (K:aC):Bool:=
 ah (dw h 1 x0) fun v1=>Jc call n n x0 x1 v1 (.int .i64 0) h K
set_option maxRecDepth 100000 in
def qU (call:ay) (n:Nat) (x2 x5:AV) (h:aj) (K:aC):Bool:=
 ah (aH 1 x2) fun v10=>ah (au h false 1 v10) fun v11=>ah (aH 1 x5) fun v12=>ah (au h false 1 v12) fun v13=>ah (ru h false .bool v11 v13) fun v14=>ah (aQ (aB v14 true) (aH 2 x2)) fun v15=>ah (aQ (aB v14 true) (au h false 1 v15)) fun v16=>ah (aQ (aB v14 true) (aH 2 x5)) fun v17=>ah (aQ (aB v14 true) (au h false 1 v17)) fun v18=>ah (aQ (aB v14 true) (aR .eql v16 v18)) fun v19=>ah (cB v14 v19 (.bool false)) fun v20=>ah (aQ (aB v20 true) (aH 3 x2)) fun v21=>ah (aQ (aB v20 true) (au h false 1 v21)) fun v22=>ah (aQ (aB v20 true) (aH 3 x5)) fun v23=>ah (aQ (aB v20 true) (au h false 1 v23)) fun v24=>ah (aQ (aB v20 true) (aR .eql v22 v24)) fun v25=>ah (cB v20 v25 (.bool false)) fun v26=>ah (aQ (aB v26 true) (aH 3 x2)) fun v27=>ah (aQ (aB v26 true) (au h false 1 v27)) fun v28=>ah (aQ (aB v26 true) (dw h 0 v28)) fun v29=>ah (aQ (aB v26 true) (aR .leq v29 (.int .i64 65536))) fun v30=>ah (cB v26 v30 (.bool false)) fun v31=>ah (aQ (aB v31 true) (aH 4 x2)) fun v32=>ah (aQ (aB v31 true) (au h false 1 v32)) fun v33=>ah (aQ (aB v31 true) (dw h 1 v33)) fun v34=>ah (aQ (aB v31 true) (aR .eql v34 (.int .i64 0))) fun v35=>ah (aQ (aB v31 true) (some v35)) fun v36=>ah (aQ (aB v36 false) (aH 0 x2)) fun v37=>ah (aQ (aB v36 false) (au h false 1 v37)) fun v38=>ah (aQ (aB v36 false) (aR .eql v38 (.int .i64 4))) fun v39=>ah (aQ (aB v31 true) (cB v36 (.bool true) v39)) fun v40=>ah (cB v31 v40 (.bool false)) fun v41=>K v41 h
def GL (call:ay) (n:Nat) (B42:F6) (x1 x2 x5 x47 x48 x49:AV) (h:aj) (K:aC):Bool:=
 ah (aR .lss x49 x48) fun v73=>aZ v73 (ah (bS h 5 x47 x49) fun v74=>ah (au h true 5 v74) fun v75=>bP (fG h [.int .i64 0, .bool false, .int .i64 0, .str [], .nilSlc]) fun v76 h=>bP (unit (bT h 5 v76 v75)) fun _ h=>ah (au h true 5 v76) fun v78=>ah (aR .add x1 (.int .i64 1)) fun v79=>call (.func 91) [v78,v79] h fun v80 h=>ah (fT v80) fun v81=>aZ v81 (K (.bool false) h) (ah (aR .add x49 (.int .i64 1)) fun v82=>B42 x1 x2 x5 x47 x48 v82 h)) (qU call n x2 x5 h K)
def yE (call:ay) (n:Nat):Nat→AV→AV→AV→AV→AV→AV→aj→aC→Bool
 |0=>fun _ _ _ _ _ _ _ _=>false
 |m+1=>fun x1 x2 x5 x47 x48 x49 h K=>GL call n (fun x1 x2 x5 x47 x48 x49 h=>yE call n m x1 x2 x5 x47 x48 x49 h K) x1 x2 x5 x47 x48 x49 h K
def FC (call:ay) (n:Nat) (x1 x2 x5:AV) (h:aj) (K:aC):Bool:=
 ah (aH 4 x2) fun v70=>ah (au h false 1 v70) fun v71=>ah (dw h 1 v71) fun v72=>yE call n n x1 x2 x5 v71 v72 (.int .i64 0) h K
set_option maxRecDepth 100000 in
def s91 (call:ay) (n:Nat) (x0 x1:AV) (h:aj) (K:aC):Bool:=
 bP (iY h 5 x0) fun v1 h=>ah (aH 0 v1) fun v2=>ah (au h false 1 v2) fun v3=>ah (eP [.int .i64 0, .bool false, .int .i64 0, .str [], .nilSlc] [(0,1,v3)]) fun v4=>bP (fG h [.int .i64 0, .bool false, .int .i64 0, .str [], .nilSlc]) fun v5 h=>bP (unit (bT h 5 v5 v4)) fun _ h=>ah (aH 0 v1) fun v7=>ah (au h false 1 v7) fun v8=>ah (aR .eql v8 (.int .i64 0)) fun v9=>aZ v9 (qU call n v1 v5 h K) (ah (aR .eql v8 (.int .i64 1)) fun v42=>aZ v42 (ah (aH 1 v1) fun v43=>ah (au h false 1 v43) fun v44=>ah (aH 1 v5) fun v45=>bP (unit (bT h 1 v45 v44)) fun _ h=>qU call n v1 v5 h K) (ah (aR .eql v8 (.int .i64 2)) fun v47=>aZ v47 (ah (aH 2 v1) fun v48=>ah (au h false 1 v48) fun v49=>ah (aH 2 v5) fun v50=>bP (unit (bT h 1 v50 v49)) fun _ h=>qU call n v1 v5 h K) (ah (aR .eql v8 (.int .i64 5)) fun v52=>aZ v52 (ah (aH 2 v1) fun v53=>ah (au h false 1 v53) fun v54=>ah (mmV true [v54,(.int .i64 1)]) fun v55=>ah (aH 2 v5) fun v56=>bP (unit (bT h 1 v56 v55)) fun _ h=>qU call n v1 v5 h K) (ah (aR .eql v8 (.int .i64 3)) fun v58=>aZ v58 (ah (aH 3 v1) fun v59=>ah (au h false 1 v59) fun v60=>ah (aH 3 v5) fun v61=>bP (unit (bT h 1 v61 v60)) fun _ h=>qU call n v1 v5 h K) (ah (aR .eql v8 (.int .i64 4)) fun v63=>aZ v63 (ah (aR .geq x1 (.int .i64 30)) fun v64=>ah (aQ (aB v64 false) (aH 4 v1)) fun v65=>ah (aQ (aB v64 false) (au h false 1 v65)) fun v66=>ah (aQ (aB v64 false) (dw h 1 v66)) fun v67=>ah (aQ (aB v64 false) (aR .gtr v67 (.int .i64 4096))) fun v68=>ah (cB v64 (.bool true) v68) fun v69=>aZ v69 (K (.bool false) h) (FC call n x1 v1 v5 h K)) (K (.bool false) h))))))
def eB (call:ay) (n:Nat) (x4:AV) (h:aj) (K:aC):Bool:=
 aZ x4 (K (.bool true) h) (K (.bool false) h)
set_option maxRecDepth 100000 in
def s92 (call:ay) (n:Nat) (x0:AV) (h:aj) (K:aC):Bool:=
 ah (aR .eql x0 (.str [99,108,97,115,115])) fun v1=>aZ v1 (eB call n v1 h K) (ah (aR .eql x0 (.str [101,120,116,101,110,100,115])) fun v2=>aZ v2 (eB call n v2 h K) (ah (aR .eql x0 (.str [114,117,108,101])) fun v3=>aZ v3 (eB call n v3 h K) (ah (aR .eql x0 (.str [113,117,101,114,121])) fun v4=>aZ v4 (eB call n v4 h K) (ah (aR .eql x0 (.str [119,104,101,110])) fun v5=>aZ v5 (eB call n v5 h K) (ah (aR .eql x0 (.str [116,104,101,110])) fun v6=>aZ v6 (eB call n v6 h K) (ah (aR .eql x0 (.str [101,110,100])) fun v7=>aZ v7 (eB call n v7 h K) (ah (aR .eql x0 (.str [115,97,108,105,101,110,99,101])) fun v8=>aZ v8 (eB call n v8 h K) (ah (aR .eql x0 (.str [103,114,111,117,112])) fun v9=>aZ v9 (eB call n v9 h K) (ah (aR .eql x0 (.str [102,108,111,119])) fun v10=>aZ v10 (eB call n v10 h K) (ah (aR .eql x0 (.str [110,111,108,111,111,112])) fun v11=>aZ v11 (eB call n v11 h K) (ah (aR .eql x0 (.str [108,111,99,107])) fun v12=>aZ v12 (eB call n v12 h K) (ah (aR .eql x0 (.str [110,111,116])) fun v13=>aZ v13 (eB call n v13 h K) (ah (aR .eql x0 (.str [101,120,105,115,116,115])) fun v14=>aZ v14 (eB call n v14 h K) (ah (aR .eql x0 (.str [102,111,114,97,108,108])) fun v15=>aZ v15 (eB call n v15 h K) (ah (aR .eql x0 (.str [111,114])) fun v16=>aZ v16 (eB call n v16 h K) (ah (aR .eql x0 (.str [102,114,111,109])) fun v17=>aZ v17 (eB call n v17 h K) (ah (aR .eql x0 (.str [101,118,97,108])) fun v18=>aZ v18 (eB call n v18 h K) (ah (aR .eql x0 (.str [97,99,99])) fun v19=>aZ v19 (eB call n v19 h K) (ah (aR .eql x0 (.str [111,118,101,114])) fun v20=>aZ v20 (eB call n v20 h K) (ah (aR .eql x0 (.str [105,110,115,101,114,116])) fun v21=>aZ v21 (eB call n v21 h K) (ah (aR .eql x0 (.str [108,111,103,105,99,97,108])) fun v22=>aZ v22 (eB call n v22 h K) (ah (aR .eql x0 (.str [117,112,100,97,116,101])) fun v23=>aZ v23 (eB call n v23 h K) (ah (aR .eql x0 (.str [100,101,108,101,116,101])) fun v24=>aZ v24 (eB call n v24 h K) (ah (aR .eql x0 (.str [102,111,99,117,115])) fun v25=>aZ v25 (eB call n v25 h K) (ah (aR .eql x0 (.str [112,114,105,110,116])) fun v26=>aZ v26 (eB call n v26 h K) (ah (aR .eql x0 (.str [104,97,108,116])) fun v27=>aZ v27 (eB call n v27 h K) (ah (aR .eql x0 (.str [116,114,117,101])) fun v28=>aZ v28 (eB call n v28 h K) (ah (aR .eql x0 (.str [102,97,108,115,101])) fun v29=>aZ v29 (eB call n v29 h K) (ah (aR .eql x0 (.str [110,117,108,108])) fun v30=>aZ v30 (eB call n v30 h K) (ah (aR .eql x0 (.str [115,105,122,101])) fun v31=>aZ v31 (eB call n v31 h K) (ah (aR .eql x0 (.str [104,97,115])) fun v32=>aZ v32 (eB call n v32 h K) (ah (aR .eql x0 (.str [105,110,116])) fun v33=>aZ v33 (eB call n v33 h K) (ah (aR .eql x0 (.str [98,111,111,108])) fun v34=>aZ v34 (eB call n v34 h K) (ah (aR .eql x0 (.str [116,101,120,116])) fun v35=>aZ v35 (eB call n v35 h K) (ah (aR .eql x0 (.str [108,105,115,116])) fun v36=>aZ v36 (eB call n v36 h K) (ah (aR .eql x0 (.str [97,110,121])) fun v37=>aZ v37 (eB call n v37 h K) (ah (aR .eql x0 (.str [114,101,102])) fun v38=>eB call n v38 h K)))))))))))))))))))))))))))))))))))))
def Ni (call:ay) (n:Nat) (B6:F4) (x0 x1 x7 x8:AV) (h:aj) (K:aC):Bool:=
 ah (aR .lss x8 x7) fun v2=>aZ v2 (ah (bS h 3 x0 x8) fun v3=>ah (au h true 3 v3) fun v4=>kg call x1 [v4] h fun v5 h=>aZ v5 (K x8 h) (ah (aR .add x8 (.int .i64 1)) fun v6=>B6 x0 x1 x7 v6 h)) (K (.int .i64 (-1)) h)
def EL (call:ay) (n:Nat):Nat→AV→AV→AV→AV→aj→aC→Bool
 |0=>fun _ _ _ _ _ _=>false
 |m+1=>fun x0 x1 x7 x8 h K=>Ni call n (fun x0 x1 x7 x8 h=>EL call n m x0 x1 x7 x8 h K) x0 x1 x7 x8 h K
def s93 (call:ay) (n:Nat) (x0 x1:AV) (h:aj) (K:aC):Bool:=
 ah (dw h 1 x0) fun v1=>EL call n n x0 x1 v1 (.int .i64 0) h K
def Lx (call:ay) (n:Nat) (B32:F4) (x0 x52 x53 x54:AV) (h:aj) (K:aC):Bool:=
 ah (aR .lss x54 x53) fun v39=>aZ v39 (ah (bS h 5 x52 x54) fun v40=>ah (au h true 5 v40) fun v41=>bP (fG h [.int .i64 0, .bool false, .int .i64 0, .str [], .nilSlc]) fun v42 h=>bP (unit (bT h 5 v42 v41)) fun _ h=>ah (au h true 5 v42) fun v44=>call (.func 95) [x0,v44] h fun v45 h=>ah (aR .add x54 (.int .i64 1)) fun v46=>B32 v45 x52 x53 v46 h) (K x0 h)
def AP (call:ay) (n:Nat):Nat→AV→AV→AV→AV→aj→aC→Bool
 |0=>fun _ _ _ _ _ _=>false
 |m+1=>fun x0 x52 x53 x54 h K=>Lx call n (fun x0 x52 x53 x54 h=>AP call n m x0 x52 x53 x54 h K) x0 x52 x53 x54 h K
def Av (call:ay) (n:Nat) (x0 x3 x14 x24:AV) (h:aj) (K:aC):Bool:=
 aZ x24 (ah (aH 2 x3) fun v17=>ah (au h false 1 v17) fun v18=>ah (lW .u64 v18) fun v19=>call (.func 110) [x0,v19,(.int .i64 8)] h fun v20 h=>K v20 h) (ah (aR .eql x14 (.int .i64 3)) fun v21=>aZ v21 (ah (aH 3 x3) fun v22=>ah (au h false 1 v22) fun v23=>ah (dw h 0 v23) fun v24=>ah (lW .u64 v24) fun v25=>ah (aH 3 x3) fun v26=>ah (au h false 1 v26) fun v27=>call (.func 110) [x0,v25,(.int .i64 4)] h fun v28 h=>fA (au h false 1 v26) v27 <| bP (cK h 1 1 v28 v27) fun v29 h=>K v29 h) (ah (aR .eql x14 (.int .i64 4)) fun v30=>aZ v30 (ah (aH 4 x3) fun v31=>ah (au h false 1 v31) fun v32=>ah (dw h 1 v32) fun v33=>ah (lW .u64 v33) fun v34=>call (.func 110) [x0,v34,(.int .i64 4)] h fun v35 h=>ah (aH 4 x3) fun v36=>ah (au h false 1 v36) fun v37=>ah (dw h 1 v37) fun v38=>AP call n n v35 v37 v38 (.int .i64 0) h K) (K x0 h)))
def s95 (call:ay) (n:Nat) (x0 x1:AV) (h:aj) (K:aC):Bool:=
 bP (iY h 5 x1) fun v1 h=>ah (aH 0 v1) fun v2=>ah (au h false 1 v2) fun v3=>ah (lW .u8 v3) fun v4=>bP (dX h 1 1 [.int .u8 0] [(0,v4)]) fun v5 h=>bP (zJ h 5 x0 v5) fun v6 h=>ah (aH 0 v1) fun v7=>ah (au h false 1 v7) fun v8=>ah (aR .eql v8 (.int .i64 1)) fun v9=>aZ v9 (ah (aH 1 v1) fun v10=>ah (au h false 1 v10) fun v11=>call (.func 109) [v11] h fun v12 h=>ah (lW .u8 v12) fun v13=>bP (dX h 1 1 [.int .u8 0] [(0,v13)]) fun v14 h=>bP (zJ h 5 v6 v14) fun v15 h=>K v15 h) (ah (aR .eql v8 (.int .i64 2)) fun v16=>aZ v16 (Av call n v6 v1 v8 v16 h K) (ah (aR .eql v8 (.int .i64 5)) fun v47=>Av call n v6 v1 v8 v47 h K))
def K5 (call:ay) (n:Nat) (B59:F3) (x1 x2 x9:AV) (h:aj) (K:aC):Bool:=
 ah (aH 4 x2) fun v81=>ah (au h false 1 v81) fun v82=>ah (dw h 1 v82) fun v83=>ah (aR .lss x9 v83) fun v84=>aZ v84 (ah (aH 4 x2) fun v85=>ah (au h false 1 v85) fun v86=>ah (bS h 5 v86 x9) fun v87=>ah (au h true 5 v87) fun xZ=>ah (aR .add x1 (.int .i64 1)) fun v89=>call (.func 96) [xZ,v89] h fun v90 h=>ah (fT v90) fun v91=>aZ v91 (K (.bool false) h) (ah (aR .add x9 (.int .i64 1)) fun v92=>B59 x1 x2 v92 h)) (K (.bool true) h)
def CS (call:ay) (n:Nat):Nat→AV→AV→AV→aj→aC→Bool
 |0=>fun _ _ _ _ _=>false
 |m+1=>fun x1 x2 x9 h K=>K5 call n (fun x1 x2 x9 h=>CS call n m x1 x2 x9 h K) x1 x2 x9 h K
def Fb (call:ay) (n:Nat) (x1 x2:AV) (h:aj) (K:aC):Bool:=
 CS call n n x1 x2 (.int .i64 0) h K
set_option maxRecDepth 100000 in
def s96 (call:ay) (n:Nat) (x0 x1:AV) (h:aj) (K:aC):Bool:=
 bP (iY h 5 x0) fun v1 h=>ah (aH 1 v1) fun v2=>ah (au h false 1 v2) fun v3=>ah (aH 2 v1) fun v4=>ah (au h false 1 v4) fun v5=>ah (aR .neq v5 (.int .i64 0)) fun v6=>ah (aH 3 v1) fun v7=>ah (au h false 1 v7) fun v8=>ah (aR .neq v8 (.str [])) fun v9=>ah (aH 4 v1) fun v10=>ah (au h false 1 v10) fun v11=>ah (dw h 1 v11) fun v12=>ah (aR .gtr v12 (.int .i64 0)) fun v13=>ah (aH 0 v1) fun v14=>ah (au h false 1 v14) fun v15=>ah (aR .eql v15 (.int .i64 0)) fun v16=>aZ v16 (ah (fT v3) fun v17=>ah (aQ (aB v17 true) (some v6)) fun v18=>ah (aQ (aB v17 true) (fT v18)) fun v19=>ah (cB v17 v19 (.bool false)) fun v20=>ah (aQ (aB v20 true) (some v9)) fun v21=>ah (aQ (aB v20 true) (fT v21)) fun v22=>ah (cB v20 v22 (.bool false)) fun v23=>ah (aQ (aB v23 true) (some v13)) fun v24=>ah (aQ (aB v23 true) (fT v24)) fun v25=>ah (cB v23 v25 (.bool false)) fun v26=>K v26 h) (ah (aR .eql v15 (.int .i64 1)) fun v27=>aZ v27 (ah (fT v6) fun v28=>ah (aQ (aB v28 true) (some v9)) fun v29=>ah (aQ (aB v28 true) (fT v29)) fun v30=>ah (cB v28 v30 (.bool false)) fun v31=>ah (aQ (aB v31 true) (some v13)) fun v32=>ah (aQ (aB v31 true) (fT v32)) fun v33=>ah (cB v31 v33 (.bool false)) fun v34=>K v34 h) (ah (aR .eql v15 (.int .i64 2)) fun v35=>aZ v35 (ah (fT v3) fun v36=>ah (aQ (aB v36 true) (some v9)) fun v37=>ah (aQ (aB v36 true) (fT v37)) fun v38=>ah (cB v36 v38 (.bool false)) fun v39=>ah (aQ (aB v39 true) (some v13)) fun v40=>ah (aQ (aB v39 true) (fT v40)) fun v41=>ah (cB v39 v41 (.bool false)) fun v42=>K v42 h) (ah (aR .eql v15 (.int .i64 3)) fun v43=>aZ v43 (ah (fT v3) fun v44=>ah (aQ (aB v44 true) (some v6)) fun v45=>ah (aQ (aB v44 true) (fT v45)) fun v46=>ah (cB v44 v46 (.bool false)) fun v47=>ah (aQ (aB v47 true) (some v13)) fun v48=>ah (aQ (aB v47 true) (fT v48)) fun v49=>ah (cB v47 v49 (.bool false)) fun v50=>ah (aQ (aB v50 true) (aH 3 v1)) fun v51=>ah (aQ (aB v50 true) (au h false 1 v51)) fun v52=>ah (aQ (aB v50 true) (dw h 0 v52)) fun v53=>ah (aQ (aB v50 true) (aR .leq v53 (.int .i64 65536))) fun v54=>ah (cB v50 v54 (.bool false)) fun v55=>K v55 h) (ah (aR .eql v15 (.int .i64 5)) fun v56=>aZ v56 (ah (fT v3) fun v57=>ah (aQ (aB v57 true) (some v9)) fun v58=>ah (aQ (aB v57 true) (fT v58)) fun v59=>ah (cB v57 v59 (.bool false)) fun v60=>ah (aQ (aB v60 true) (some v13)) fun v61=>ah (aQ (aB v60 true) (fT v61)) fun v62=>ah (cB v60 v62 (.bool false)) fun v63=>ah (aQ (aB v63 true) (aH 2 v1)) fun v64=>ah (aQ (aB v63 true) (au h false 1 v64)) fun v65=>ah (aQ (aB v63 true) (aR .geq v65 (.int .i64 1))) fun v66=>ah (cB v63 v66 (.bool false)) fun v67=>K v67 h) (ah (aR .eql v15 (.int .i64 4)) fun v68=>aZ v68 (ah (aQ (aB v3 false) (some v6)) fun v69=>ah (cB v3 (.bool true) v69) fun v70=>ah (aQ (aB v70 false) (some v9)) fun v71=>ah (cB v70 (.bool true) v71) fun v72=>ah (aQ (aB v72 false) (aH 4 v1)) fun v73=>ah (aQ (aB v72 false) (au h false 1 v73)) fun v74=>ah (aQ (aB v72 false) (dw h 1 v74)) fun v75=>ah (aQ (aB v72 false) (aR .gtr v75 (.int .i64 4096))) fun v76=>ah (cB v72 (.bool true) v76) fun v77=>ah (aQ (aB v77 false) (some x1)) fun v78=>ah (aQ (aB v77 false) (aR .geq v78 (.int .i64 30))) fun v79=>ah (cB v77 (.bool true) v79) fun v80=>aZ v80 (K (.bool false) h) (Fb call n x1 v1 h K)) (K (.bool false) h))))))
def VP (call:ay) (n:Nat) (x0:AV) (h:aj) (K:aC):Bool:=
 aZ x0 (K (.int .i64 1) h) (K (.int .i64 0) h)
def FQ (call:ay) (n:Nat) (B6:F3) (x0 x1 x7:AV) (h:aj) (K:aC):Bool:=
 ah (aR .geq x7 (.int .i64 0)) fun v2=>aZ v2 (ah (aR .mul (.int .i64 8) x7) fun v3=>ah (aR .shr x1 v3) fun v4=>ah (lW .u8 v4) fun v5=>bP (dX h 1 1 [.int .u8 0] [(0,v5)]) fun v6 h=>bP (zJ h 5 x0 v6) fun v7 h=>ah (aR .sub x7 (.int .i64 1)) fun v8=>B6 v7 x1 v8 h) (K x0 h)
def yD (call:ay) (n:Nat):Nat→AV→AV→AV→aj→aC→Bool
 |0=>fun _ _ _ _ _=>false
 |m+1=>fun x0 x1 x7 h K=>FQ call n (fun x0 x1 x7 h=>yD call n m x0 x1 x7 h K) x0 x1 x7 h K
def YE (call:ay) (n:Nat) (x0 x1 x2:AV) (h:aj) (K:aC):Bool:=
 ah (aR .sub x2 (.int .i64 1)) fun v1=>yD call n n x0 x1 v1 h K
end Go.Proofs.YthmnnlpbnhkhkaaGreat
