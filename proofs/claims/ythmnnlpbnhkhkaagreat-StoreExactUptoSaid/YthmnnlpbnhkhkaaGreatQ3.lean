/-
  Texts that the claim hangs on, part 4.
-/
import Derived.Test.YthmnnlpbnhkhkaaGreatQ2
import Derived.Test.YthmnnlpbnhkhkaaGreatProg
import Derived.KernelRfl
import Derived.Laws.Externs
import Derived.Lib.Builder
import Derived.Shelf.Spec.SlicesInsert
import Derived.Shelf.Spec.SlicesInsertGrow
import Derived.Sort.Grow
import Derived.Deep.Draws
import Derived.Shelf.SlSortCmp.NoneTotal
import Derived.Lib.SortBridge
import Derived.Shelf.Slices.In.SortNone
import Derived.Shelf.Sort.Plain
set_option linter.unusedSimpArgs false
set_option linter.unusedVariables false
namespace Go.Ab
abbrev KL:=qC→gy→aj→Bool
abbrev Pv:=List AV→aj→Bool
abbrev Bt:=List Pv
def tY (l:gy) (dst:Option Nat) (v:AV):gy:=
 match dst with
 |some d=>(d,v) :: l
 |none=>l
theorem Has.tY {ρ:dY} {l:gy} (H:Has ρ l) (dst:Option Nat) (v:AV):Has (put ρ dst v) (tY l dst v):=by
 cases dst with
 |none=>exact H
 |some d=>exact H.set d v
def Cu (call:ay) (l:gy) (f:gJ) (vs:List AV) (h:aj) (k:aC):Bool:=
 match f with
 | .c (.fn (.func g) [] [])=>call (.func g) vs h k
 |f=>match nQ l f with
  |some fv=>kg call fv vs h k
  |none=>false
def Xh (l:gy) (h:aj) (op:rU) (g:Option Bool) (k:aC):Bool:=
 match kM l h op with
 |some o=>(match g with
  |none=>ah o fun v=>k v h
  |some w=>ah (aQ w o) fun v=>k v h)
 |none=>match tZ l h op with
  |some o=>(match g with
   |none=>bP o k
   |some w=>bP (Gr w o h) k)
  |none=>false
def ZP (call:ay) (o:dA) (l:gy) (h:aj) (k:gy→aj→Bool):Bool:=
 match o with
 |⟨dst,op,none⟩=>(match op with
  | .fail=>false
  | .nxt x=>(match nQ l x with
    |some v=>AZ h v fun v h=>k (tY l dst v) h
    |none=>false)
  | .call f xs=>(match rJ l xs with
    |some vs=>Cu call l f vs h fun v h=>k (tY l dst v) h
    |none=>false)
  | .mv x=>(match dst with
    |some d=>(match nQ l x with
     |some v=>k ((d,v) :: l) h
     |none=>false)
    |none=>Xh l h (.mv x) none fun _ h=>k l h)
  |op=>Xh l h op none fun v h=>k (tY l dst v) h)
 |⟨dst,op,some (j,b)⟩=>match l.get j with
  |none=>false
  |some g=>(match op with
   | .fail=>false
   | .nxt _=>false
   | .call f xs=>(match rJ l xs with
     |some vs=>ji (aB g b) (fun k=>Cu call l f vs h k) h fun v h=>k (tY l dst v) h
     |none=>false)
   |op=>Xh l h op (some (aB g b)) fun v h=>k (tY l dst v) h)
def dnR (call:ay):List dA→gy→aj→(gy→aj→Bool)→Bool
 | [],l,h,k=>k l h
 |o :: ops,l,h,k=>ZP call o l h fun l h=>dnR call ops l h k
def Yw:List dA→gy→aj→(gy→Bool)→Bool
 | [],l,_,k=>k l
 |⟨some d, .mv x,none⟩ :: ops,l,h,k=>(match nQ l x with
  |some v=>Yw ops ((d,v) :: l) h k
  |none=>false)
 |⟨dst,op,none⟩ :: ops,l,h,k=>(match kM l h op with
  |some o=>ah o fun v=>Yw ops (tY l dst v) h k
  |none=>false)
 |⟨dst,op,some (j,b)⟩ :: ops,l,h,k=>(match l.get j with
  |none=>false
  |some g=>match kM l h op with
   |some o=>ah (aQ (aB g b) o) fun v=>Yw ops (tY l dst v) h k
   |none=>false)
def Wt:List dA→gy→aj→Bool→Bool
 | [],_,_,r=>r
 |⟨none,_,_⟩ :: _,_,_,_=>false
 |⟨some d,op,none⟩ :: ops,l,h,r=>(match kM l h op with
  |some o=>(match l.get d with
   |some u=>fA o u (Wt ops l h r)
   |none=>false)
  |none=>false)
 |⟨some d,op,some (j,b)⟩ :: ops,l,h,r=>(match l.get j with
  |some g=>(match kM l h op with
   |some o=>(match l.get d with
    |some u=>zf (aB g b) o u (Wt ops l h r)
    |none=>false)
   |none=>false)
  |none=>false)
def dnD (call:ay):List (dA×List dA×List dA)→gy→aj→(gy→aj→Bool)→Bool
 | [],l,h,k=>k l h
 |(act,chk,ns) :: rest,l,h,k=>ZP call act l h fun l h=>Wt chk l h (Yw ns l h fun l=>dnD call rest l h k)
inductive jQ where
 |skip
 |reg (ops:List dA)
 |dreg (n0:List dA) (rest:List (dA×List dA×List dA))
 |seq (a b:jQ)
 |cond (c:gJ) (a b:jQ)
 |block (id:Nat) (c:jQ)
 |loop (j:Nat) (ks:List Nat) (c:jQ)
 |exit (id:Nat)
 |scope (j:Nat) (ks:List Nat) (fks:List Nat) (c:jQ) (l:Nat) (r:jQ)
 |label (l:Nat)
 |goto (l:Nat)
 |ret
 |refuse
 |pt (j:Nat) (ks:List Nat) (c:jQ)
 |stop (c:dO)
def jQ.erase:jQ→dO
 | .skip=> .skip
 | .reg ops=> .reg ops
 | .dreg n0 rest=> .dreg n0 rest
 | .seq a b=> .seq a.erase b.erase
 | .cond c a b=> .cond c a.erase b.erase
 | .block id c=> .block id c.erase
 | .loop _ _ c=> .loop c.erase
 | .exit id=> .exit id
 | .scope _ _ _ c l r=> .scope c.erase l r.erase
 | .label l=> .label l
 | .goto l=> .goto l
 | .ret=> .ret
 | .refuse=> .refuse
 | .pt _ _ c=>c.erase
 | .stop c=>c
structure Y3 where
 pts:List (Nat×List Nat)
 lps:List (Nat×List Nat)
 scs:List (Nat×List Nat):=[]
def Qv:List (Nat×List Nat)→Nat→Option (List Nat)
 | [],_=>none
 |(k,v) :: l,n=>bif Nat.beq n k then some v else Qv l n
def oN (A:Y3) (i:Nat) (c:jQ):jQ:=
 match Qv A.pts i with
 |some ks=> .pt i ks c
 |none=>c
def toB (A:Y3):dO→Nat→jQ×Nat
 | .skip,i=>(oN A i .skip,i+1)
 | .reg ops,i=>(oN A i (.reg ops),i+1)
 | .dreg n0 rest,i=>(oN A i (.dreg n0 rest),i+1)
 | .seq a b,i=>match toB A a (i+1) with
   |(a',i1)=>match toB A b i1 with
    |(b',i2)=>(oN A i (.seq a' b'),i2)
 | .cond c a b,i=>match toB A a (i+1) with
   |(a',i1)=>match toB A b i1 with
    |(b',i2)=>(oN A i (.cond c a' b'),i2)
 | .block id a,i=>match toB A a (i+1) with
   |(a',i1)=>(oN A i (.block id a'),i1)
 | .loop a,i=>match toB A a (i+1) with
   |(a',i1)=>(match Qv A.lps i with
    |some ks=>(oN A i (.loop i ks a'),i1)
    |none=>(.stop (.loop a),i1))
 | .exit id,i=>(oN A i (.exit id),i+1)
 | .scope a l b,i=>match toB A a (i+1) with
   |(a',i1)=>match toB A b i1 with
    |(b',i2)=>(match Qv A.lps i with
     |some ks=>(match Qv A.scs i with
      |some fks=>(oN A i (.scope i ks fks a' l b'),i2)
      |none=>(.stop (.scope a l b),i2))
     |none=>(.stop (.scope a l b),i2))
 | .label l,i=>(oN A i (.label l),i+1)
 | .goto l,i=>(oN A i (.goto l),i+1)
 | .ret,i=>(oN A i .ret,i+1)
 | .refuse,i=>(oN A i .refuse,i+1)
 | .rf f ps a b,i=>(.stop (.rf f ps a b),i+1)
 | .keep ks c,i=>(.stop (.keep ks c),i+1)
theorem nu (A:Y3) (i:Nat) (c:jQ):(oN A i c).erase=c.erase:=by
 unfold oN;split<;>rfl
theorem OX (A:Y3):∀(c:dO) (i:Nat),(toB A c i).1.erase=c:=by
 intro c
 induction c with
 |seq a b iha ihb=>intro i;simp only[toB,nu,jQ.erase,iha,ihb]
 |cond o a b iha ihb=>intro i;simp only[toB,nu,jQ.erase,iha,ihb]
 |block id a ih=>intro i;simp only[toB,nu,jQ.erase,ih]
 |loop a ih=>
  intro i
  simp only[toB]
  split
  ·simp only[nu,jQ.erase,ih]
  ·rfl
 |scope a l b iha ihb=>
  intro i
  simp only[toB]
  split
  ·split
   ·simp only[nu,jQ.erase,iha,ihb]
   ·rfl
  ·rfl
 |_=>intro i;simp only[toB,nu,jQ.erase]
structure Sp where
 pt:Bt→Nat→Pv
 fs:Bt→Nat→Pv
 rd:Bt→Nat→Pv
 lp:Bt→Nat→Nat→Pv
def vals:gy→List AV
 | []=>[]
 |(_,v) :: l=>v :: vals l
def Ag (id:Nat) (K:KL):KL:=fun x l h=>
 match x with
 | .exit i=>bif Nat.beq i id then K .normal l h else K (.exit i) l h
 |x=>K x l h
def Wm (B:Pv) (ks:List Nat) (l:gy) (h:aj):Bool:=
 match qM ks l with
 |some l'=>B (vals l') h
 |none=>false
def Ev (B:Pv) (ks:List Nat) (K:KL):KL:=fun x l h=>
 match x with
 | .normal=>Wm B ks l h
 |x=>K x l h
def rQ (lb:Nat) (B:Pv) (ks:List Nat) (K:KL):KL:=fun x l h=>
 match x with
 | .goto l'=>bif Nat.beq l' lb then Wm B ks l h else false
 |x=>K x l h
def OC (call:ay) (n:Nat) (S:Sp) (β:Bt):jQ→gy→aj→KL→Bool
 | .skip,l,h,K=>K .normal l h
 | .reg ops,l,h,K=>dnR call ops l h (K .normal)
 | .dreg n0 rest,l,h,K=>Yw n0 l h fun l=>dnD call rest l h (K .normal)
 | .seq a b,l,h,K=>OC call n S β a l h fun x l h=>match x with
   | .normal=>OC call n S β b l h K
   |x=>K x l h
 | .cond c a b,l,h,K=>(match nQ l c with
   |some v=>aZ v (OC call n S β a l h K) (OC call n S β b l h K)
   |none=>false)
 | .block id a,l,h,K=>OC call n S β a l h (Ag id K)
 | .loop j ks _,l,h,_=>Wm (S.lp β j n) ks l h
 | .pt j ks _,l,h,_=>Wm (S.pt β j) ks l h
 | .scope j _ fks _ _ _,l,h,_=>Wm (S.fs (S.lp β j n :: β) j) fks l h
 | .exit id,l,h,K=>K (.exit id) l h
 | .label _,l,h,K=>K .normal l h
 | .goto lb,l,h,K=>K (.goto lb) l h
 | .ret,l,h,K=>K .ret l h
 | .refuse,_,_,_=>false
 | .stop _,_,_,_=>false
abbrev Fn:=(Nat→Pv)→Nat→(Nat→AV)→aj→Bool
def stk:Nat→Nat→(Nat→Pv)→Bt
 |0,_,_=>[]
 |d+1,i,τ=>τ i :: stk d (i+1) τ
def rZ:List Nat→Nat→(Nat→AV)→gy
 | [],_,_=>[]
 |k :: ks,i,σ=>(k,σ i) :: rZ ks (i+1) σ
def OI:Nat→Nat→(Nat→AV)→List AV
 |0,_,_=>[]
 |n+1,i,σ=>σ i :: OI n (i+1) σ
def rO (f:Pv→KL→KL) (K:Bt→KL):Bt→KL
 |B :: β=>f B (K β)
 | []=>fun _ _ _=>false
def Ob (call:ay) (n:Nat) (S:Sp):Nat→jQ→(Bt→KL)→List (Fn×Fn)
 |d, .pt j ks a,K=>(fun τ _ σ h=>S.pt (stk d 0 τ) j (vals (rZ ks 0 σ)) h,fun τ _ σ h=>OC call n S (stk d 0 τ) a (rZ ks 0 σ) h (K (stk d 0 τ))) :: Ob call n S d a K
 |d, .loop j ks a,K=>
  (fun τ _ σ h=>S.rd (stk (d+1) 0 τ) j (vals (rZ ks 0 σ)) h,fun τ _ σ h=>OC call n S (stk (d+1) 0 τ) a (rZ ks 0 σ) h (rO (fun B=>Ev B ks) K (stk (d+1) 0 τ))) ::
  (fun τ _ σ h=>S.lp (stk d 0 τ) j 0 (vals (rZ ks 0 σ)) h,fun _ _ _ _=>false) ::
  (fun τ m σ h=>S.lp (stk d 0 τ) j (m+1) (vals (rZ ks 0 σ)) h,fun τ m σ h=>S.rd (S.lp (stk d 0 τ) j m :: stk d 0 τ) j (vals (rZ ks 0 σ)) h) ::
  Ob call n S (d+1) a (rO (fun B=>Ev B ks) K)
 |d, .seq a b,K=>Ob call n S d a (fun β x l h=>match x with
   | .normal=>OC call n S β b l h (K β)
   |x=>K β x l h)++Ob call n S d b K
 |d, .cond _ a b,K=>Ob call n S d a K++Ob call n S d b K
 |d, .block id a,K=>Ob call n S d a (fun β=>Ag id (K β))
 |d, .scope j ks fks a lb r,K=>
  (fun τ _ σ h=>S.fs (stk (d+1) 0 τ) j (vals (rZ fks 0 σ)) h,fun τ _ σ h=>OC call n S (stk (d+1) 0 τ) a (rZ fks 0 σ) h (rO (fun B=>rQ lb B ks) K (stk (d+1) 0 τ))) ::
  (fun τ _ σ h=>S.rd (stk (d+1) 0 τ) j (vals (rZ ks 0 σ)) h,fun τ _ σ h=>OC call n S (stk (d+1) 0 τ) r (rZ ks 0 σ) h (rO (fun B=>rQ lb B ks) K (stk (d+1) 0 τ))) ::
  (fun τ _ σ h=>S.lp (stk d 0 τ) j 0 (vals (rZ ks 0 σ)) h,fun _ _ _ _=>false) ::
  (fun τ m σ h=>S.lp (stk d 0 τ) j (m+1) (vals (rZ ks 0 σ)) h,fun τ m σ h=>S.rd (S.lp (stk d 0 τ) j m :: stk d 0 τ) j (vals (rZ ks 0 σ)) h) ::
  (Ob call n S (d+1) a (rO (fun B=>rQ lb B ks) K)++Ob call n S (d+1) r (rO (fun B=>rQ lb B ks) K))
 |_,_,_=>[]
noncomputable abbrev gQ (j k:Nat) (v r:Pv):Pv:=@Bool.rec (fun _=>Pv) r v (Nat.beq j k)
noncomputable abbrev nK (j k:Nat) (v r:Pv):Pv:=@Bool.rec (fun _=>Pv) r v (Nat.beq j k)
abbrev eG:Pv:=fun _ _=>false
abbrev rV:ay→Nat→aC→Sp:=fun _ _ _=>{pt:=fun _ _=>eG,fs:=fun _ _=>eG,rd:=fun _ _=>eG,lp:=fun _ _ _=>eG}
def pB:Nat→Bt→Pv
 |_,[]=>fun _ _=>false
 |0,B :: _=>B
 |i+1,_ :: β=>pB i β
def pA0 (f:aj→aC→Bool) (K:aC):Pv:=fun vs h=>match vs with
 | []=>f h K
 |_=>false
def su (f:AV→aj→aC→Bool) (K:aC):Pv:=fun vs h=>match vs with
 | [x0]=>f x0 h K
 |_=>false
def pF2 (B:Pv):F2:=fun x0 x1 h=>B [x0,x1] h
def nG (f:AV→AV→aj→aC→Bool) (K:aC):Pv:=fun vs h=>match vs with
 | [x0,x1]=>f x0 x1 h K
 |_=>false
def pC2 (f:AV→AV→aj→aC→Bool) (K:aC):Pv:=fun vs h=>match vs with
 | [x0,x1]=>f x0 x1 h K
 |_=>false
def GU (B:Pv):F3:=fun x0 x1 x2 h=>B [x0,x1,x2] h
def pU (f:AV→AV→AV→aj→aC→Bool) (K:aC):Pv:=fun vs h=>match vs with
 | [x0,x1,x2]=>f x0 x1 x2 h K
 |_=>false
def NA (f:AV→AV→AV→aj→aC→Bool) (K:aC):Pv:=fun vs h=>match vs with
 | [x0,x1,x2]=>f x0 x1 x2 h K
 |_=>false
def yZ (B:Pv):F4:=fun x0 x1 x2 x3 h=>B [x0,x1,x2,x3] h
def vI (f:AV→AV→AV→AV→aj→aC→Bool) (K:aC):Pv:=fun vs h=>match vs with
 | [x0,x1,x2,x3]=>f x0 x1 x2 x3 h K
 |_=>false
def Nw (f:AV→AV→AV→AV→aj→aC→Bool) (K:aC):Pv:=fun vs h=>match vs with
 | [x0,x1,x2,x3]=>f x0 x1 x2 x3 h K
 |_=>false
def GK (B:Pv):F5:=fun x0 x1 x2 x3 x4 h=>B [x0,x1,x2,x3,x4] h
def Dc (f:AV→AV→AV→AV→AV→aj→aC→Bool) (K:aC):Pv:=fun vs h=>match vs with
 | [x0,x1,x2,x3,x4]=>f x0 x1 x2 x3 x4 h K
 |_=>false
def TK (f:AV→AV→AV→AV→AV→aj→aC→Bool) (K:aC):Pv:=fun vs h=>match vs with
 | [x0,x1,x2,x3,x4]=>f x0 x1 x2 x3 x4 h K
 |_=>false
def PE (B:Pv):F6:=fun x0 x1 x2 x3 x4 x5 h=>B [x0,x1,x2,x3,x4,x5] h
def Oe (f:AV→AV→AV→AV→AV→AV→aj→aC→Bool) (K:aC):Pv:=fun vs h=>match vs with
 | [x0,x1,x2,x3,x4,x5]=>f x0 x1 x2 x3 x4 x5 h K
 |_=>false
def Va (f:AV→AV→AV→AV→AV→AV→aj→aC→Bool) (K:aC):Pv:=fun vs h=>match vs with
 | [x0,x1,x2,x3,x4,x5]=>f x0 x1 x2 x3 x4 x5 h K
 |_=>false
def pF7 (B:Pv):F7:=fun x0 x1 x2 x3 x4 x5 x6 h=>B [x0,x1,x2,x3,x4,x5,x6] h
def pA7 (f:AV→AV→AV→AV→AV→AV→AV→aj→aC→Bool) (K:aC):Pv:=fun vs h=>match vs with
 | [x0,x1,x2,x3,x4,x5,x6]=>f x0 x1 x2 x3 x4 x5 x6 h K
 |_=>false
def pC7 (f:AV→AV→AV→AV→AV→AV→AV→aj→aC→Bool) (K:aC):Pv:=fun vs h=>match vs with
 | [x0,x1,x2,x3,x4,x5,x6]=>f x0 x1 x2 x3 x4 x5 x6 h K
 |_=>false
def Uk (res:List (Nat×Option (Bool×Nat))) (l:gy) (h:aj) (K:aC):Bool:=
 match Cg l res with
 |some m=>bif res.any (fun x=>x.2.isSome) then vM (mq h m) h K else K (oneOf (m.map fun x=>x.1)) h
 |none=>false
def Td (res:List (Nat×Option (Bool×Nat))) (K:aC):KL:=fun x l h=>
 match x with
 | .normal=>Uk res l h K
 | .ret=>Uk res l h K
 |_=>false
def NM:Nat→List AV→gy→gy
 |_,[],l=>l
 |i,v :: vs,l=>NM (i+1) vs ((i,v) :: l)
def Zk (call:ay) (n:Nat) (K:aC) (S:Sp) (top:Pv) (A:Y3) (fn:dW):List (Fn×Fn):=
 (fun _ _ σ h=>top (OI fn.np 0 σ) h,fun _ _ σ h=>OC call n S [] (toB A fn.body 0).1 (NM 0 (OI fn.np 0 σ) []) h (Td fn.res K)) :: Ob call n S 0 (toB A fn.body 0).1 fun _=>Td fn.res K
section
variable {call call':ay} {n:Nat} {ρ:dY} {l:gy} {h:aj}
theorem EN {f:gJ} {vs:List AV} {k:aC} (s:Cu call l f vs h k=true):∃fv,nQ l f=some fv∧kg call fv vs h k=true:=by
 unfold Cu at s
 split at s
 ·rename_i g
  exact⟨.fn (.func g) [] [],rfl,by simpa only[kg,List.nil_append,List.append_nil] using s⟩
 ·split at s
  ·rename_i fv hf
   exact⟨fv,hf,s⟩
  ·cases s
theorem Mq {f:gJ} {fv:AV} {xs:List gJ} {vs:List AV} {k:aC} {dst:Option Nat} {Ks:TL} (hc:Le call call') (H:Has ρ l) (ef:nQ l f=some fv) (e:rJ l xs=some vs) (s:kg call fv vs h k=true) (hk:∀v h',k v h'=true→Has (put ρ dst v) (tY l dst v)→Ks v ⟨put ρ dst v,h'⟩=true):
 gu call' ⟨dst, .call f xs,none⟩ ⟨ρ,h⟩ Ks=true:=by
 simp only[gu,gB,pK H ef e]
 exact wU hc s fun v h' hv=>hk v h' hv (H.tY dst v)
theorem Ii {f:gJ} {xs:List gJ} {vs:List AV} {k:aC} {dst:Option Nat} {Ks:TL} {j:Nat} {g:AV} {b:Bool} (hc:Le call call') (H:Has ρ l) (hg:l.get j=some g) (e:rJ l xs=some vs) (s:ji (aB g b) (fun k=>Cu call l f vs h k) h k=true) (hk:∀v h',k v h'=true→Has (put ρ dst v) (tY l dst v)→Ks v ⟨put ρ dst v,h'⟩=true):
 gu call' ⟨dst, .call f xs,some (j,b)⟩ ⟨ρ,h⟩ Ks=true:=by
 simp only[gu,iD H hg]
 cases hw:aB g b with
 |true=>
  simp only[hw,ji,cond_true] at s
  obtain⟨fv,ef,s⟩:=EN s
  simp only[pK H ef e]
  exact wU hc s fun v h' hv=>hk v h' hv (H.tY dst v)
 |false=>
  simp only[hw,ji,cond_false] at s
  exact hk _ _ s (H.tY dst _)
theorem RA {op:rU} {dst:Option Nat} {k:aC} {Ks:TL} (H:Has ρ l) (s:Xh l h op none k=true) (hk:∀v h',k v h'=true→Has (put ρ dst v) (tY l dst v)→Ks v ⟨put ρ dst v,h'⟩=true):gu call' ⟨dst,op,none⟩ ⟨ρ,h⟩ Ks=true:=by
 unfold Xh at s
 cases hp:kM l h op with
 |some o=>
  rw[hp] at s
  cases dst with
  |none=>exact KA H hp s fun v hv H'=>hk v h hv H'
  |some d=>exact EU H hp s fun v hv H'=>hk v h hv H'
 |none=>
  rw[hp] at s
  simp only at s
  cases hh:tZ l h op with
  |none=>rw[hh] at s;cases s
  |some o=>
   rw[hh] at s
   cases dst with
   |none=>exact Ba H hh s fun v h' hv H'=>hk v h' hv H'
   |some d=>exact Et H hh s fun v h' hv H'=>hk v h' hv H'
theorem U0 {op:rU} {dst:Option Nat} {k:aC} {Ks:TL} {j:Nat} {g:AV} {b:Bool} (H:Has ρ l) (hg:l.get j=some g) (s:Xh l h op (some (aB g b)) k=true) (hk:∀v h',k v h'=true→Has (put ρ dst v) (tY l dst v)→Ks v ⟨put ρ dst v,h'⟩=true):gu call' ⟨dst,op,some (j,b)⟩ ⟨ρ,h⟩ Ks=true:=by
 unfold Xh at s
 cases hp:kM l h op with
 |some o=>
  rw[hp] at s
  cases dst with
  |none=>exact IU H hg hp s fun v hv H'=>hk v h hv H'
  |some d=>exact CF H hg hp s fun v hv H'=>hk v h hv H'
 |none=>
  rw[hp] at s
  simp only at s
  cases hh:tZ l h op with
  |none=>rw[hh] at s;cases s
  |some o=>
   rw[hh] at s
   cases dst with
   |none=>exact JB H hg hh s fun v h' hv H'=>hk v h' hv H'
   |some d=>exact KP H hg hh s fun v h' hv H'=>hk v h' hv H'
theorem Qo {o:dA} {k:gy→aj→Bool} {K:St→Bool} (hc:Le call call') (H:Has ρ l) (s:ZP call o l h k=true) (hk:∀l' ρ' h',Has ρ' l'→k l' h'=true→K ⟨ρ',h'⟩=true):gu call' o ⟨ρ,h⟩ (fun _ σ=>K σ)=true:=by
 obtain⟨dst,op,grd⟩:=o
 cases grd with
 |none=>
  unfold ZP at s
  simp only at s
  split at s
  ·cases s
  ·rename_i x
   split at s
   ·rename_i v hv
    simp only[gu,gB,kL,gT H hv]
    exact JI s fun v h' hv=>hk _ _ _ (H.tY dst v) hv
   ·cases s
  ·rename_i f xs
   split at s
   ·rename_i vs hvs
    obtain⟨fv,ef,s⟩:=EN s
    exact Mq hc H ef hvs s fun v h' hv H'=>hk _ _ _ H' hv
   ·cases s
  ·rename_i x
   split at s
   ·rename_i d
    split at s
    ·rename_i v hv
     exact Fz H hv fun H'=>hk _ _ _ H' s
    ·cases s
   ·exact RA (dst:=none) H s fun v h' hv H'=>hk _ _ _ H' hv
  ·exact RA H s fun v h' hv H'=>hk _ _ _ H' hv
 |some p=>
  obtain⟨j,b⟩:=p
  unfold ZP at s
  simp only at s
  split at s
  ·cases s
  ·rename_i g hg
   split at s
   ·cases s
   ·cases s
   ·rename_i f xs
    split at s
    ·rename_i vs hvs
     exact Ii hc H hg hvs s fun v h' hv H'=>hk _ _ _ H' hv
    ·cases s
   ·exact U0 H hg s fun v h' hv H'=>hk _ _ _ H' hv
theorem QL (hc:Le call call'):∀{ops:List dA} {ρ:dY} {l:gy} {h:aj} {k:gy→aj→Bool} {K:St→Bool},Has ρ l→dnR call ops l h k=true→(∀l' ρ' h',Has ρ' l'→k l' h'=true→K ⟨ρ',h'⟩=true)→l8 call' ops ⟨ρ,h⟩ K=true
 | [],ρ,l,h,k,K,H,s,hk=>hk _ _ _ H s
 |o :: ops,ρ,l,h,k,K,H,s,hk=>Qo (K:=fun σ=>l8 call' ops σ K) hc H s fun l' ρ' h' H' s'=>QL hc H' s' hk
theorem QI:∀{ops:List dA} {ρ:dY} {l:gy} {h:aj} {k:gy→Bool} {Kr:dY→Bool},Has ρ l→Yw ops l h k=true→(∀l' ρ',Has ρ' l'→k l'=true→Kr ρ'=true)→jy ops ρ h Kr=true:=by
 intro ops
 induction ops with
 |nil=>intro ρ l h k Kr H s hk;exact hk _ _ H s
 |cons o ops ih=>
  intro ρ l h k Kr H s hk
  obtain⟨dst,op,grd⟩:=o
  unfold Yw at s
  split at s
  ·rename_i heq;cases heq
  ·rename_i d x ops' heq
   cases heq
   split at s
   ·rename_i v hv
    exact Ug H hv fun H'=>ih H' s hk
   ·cases s
  ·rename_i dst' op' ops' hne heq
   cases heq
   split at s
   ·rename_i o hp
    cases dst with
    |none=>exact Mf H hp s fun v hv H'=>ih H' hv hk
    |some d=>exact Er H hp s fun v hv H'=>ih H' hv hk
   ·cases s
  ·rename_i dst' op' j b ops' heq
   cases heq
   split at s
   ·cases s
   ·rename_i g hg
    split at s
    ·rename_i o hp
     cases dst with
     |none=>exact Jh H hg hp s fun v hv H'=>ih H' hv hk
     |some d=>exact KZ H hg hp s fun v hv H'=>ih H' hv hk
    ·cases s
theorem LZ {r q:Bool} (H:Has ρ l) (hq:q=true→r=true):∀{ops:List dA},Wt ops l h q=true→lH ρ h ops r=true
 | [],s=>Dw (hq s)
 |⟨none,_,_⟩ :: _,s=>by unfold Wt at s;cases s
 |⟨some d,op,none⟩ :: ops,s=>by
  unfold Wt at s
  split at s
  ·rename_i o hp
   split at s
   ·rename_i u hu
    exact Ml H hp hu s fun s'=>LZ H hq s'
   ·cases s
  ·cases s
 |⟨some d,op,some (j,b)⟩ :: ops,s=>by
  unfold Wt at s
  split at s
  ·rename_i g hg
   split at s
   ·rename_i o hp
    split at s
    ·rename_i u hu
     exact JE H hg hp hu s fun s'=>LZ H hq s'
    ·cases s
   ·cases s
  ·cases s
theorem QA (hc:Le call call'):∀{rest:List (dA×List dA×List dA)} {ρ:dY} {l:gy} {h:aj} {k:gy→aj→Bool} {K:St→Bool},Has ρ l→dnD call rest l h k=true→(∀l' ρ' h',Has ρ' l'→k l' h'=true→K ⟨ρ',h'⟩=true)→nZ call' rest ⟨ρ,h⟩ K=true
 | [],ρ,l,h,k,K,H,s,hk=>hk _ _ _ H s
 |(act,chk,ns) :: rest,ρ,l,h,k,K,H,s,hk=>by
  refine Q9 ?_
  have:dK call' chk ns rest K=fun _ σ=>(match σ with |⟨ρ,h⟩=>lH ρ h chk (jy ns ρ h fun ρ=>nZ call' rest ⟨ρ,h⟩ K)):=rfl
  rw[this]
  refine Qo (K:=fun σ=>(match σ with |⟨ρ,h⟩=>lH ρ h chk (jy ns ρ h fun ρ=>nZ call' rest ⟨ρ,h⟩ K))) hc H s fun l' ρ' h' H' s'=> ?_
  exact LZ H' (fun s2=>QI H' s2 fun l2 ρ2 H2 s3=>QA hc H2 s3 hk) s'
def GI:List Nat→List AV→gy
 |k :: ks,v :: vs=>(k,v) :: GI ks vs
 |_,_=>[]
theorem EP:∀{ks:List Nat} {l m:gy},qM ks l=some m→m=GI ks (vals m)∧(vals m).length=ks.length
 | [],l,m,e=>by simp only[qM] at e;cases e;exact⟨rfl,rfl⟩
 |k :: ks,l,m,e=>by
  simp only[qM] at e
  split at e
  ·split at e
   ·rename_i v hv m' hm
    cases e
    have:=EP hm
    exact⟨by simp only[vals,GI];rw[←this.1],by simp only[vals,List.length_cons,this.2]⟩
   ·cases e
  ·cases e
theorem Eo (σ:Nat→AV):∀(ks:List Nat) (vs:List AV) (i:Nat),vs.length=ks.length→(∀j,j<vs.length→vs[j]? =some (σ (i+j)))→rZ ks i σ=GI ks vs∧vals (GI ks vs)=vs
 | [],[],i,_,_=>⟨rfl,rfl⟩
 | [],_ :: _,_,e,_=>by cases e
 |_ :: _,[],_,e,_=>by cases e
 |k :: ks,v :: vs,i,e,hv=>by
  have h0:=hv 0 (Nat.succ_pos _)
  simp only[List.getElem?_cons_zero,Nat.add_zero,Option.some.injEq] at h0
  have:=Eo σ ks vs (i+1) (by simpa using e) (fun j hj=>by
   have:=hv (j+1) (by simpa using hj)
   simpa[Nat.add_assoc,Nat.add_comm 1 j] using this)
  simp only[rZ,GI,vals, ←h0,this.1,this.2]
  exact⟨trivial,trivial⟩
def pO:List AV→Nat→AV
 | [],_=> .bool true
 |v :: _,0=>v
 |_ :: l,n+1=>pO l n
theorem yS:∀(vs:List AV) (j:Nat),j<vs.length→vs[j]? =some (pO vs j)
 | [],_,h=>by cases h
 |v :: vs,0,_=>rfl
 |v :: vs,j+1,h=>by simpa[pO] using yS vs j (by simpa using h)
theorem nS {ks:List Nat} {vs:List AV} (e:vs.length=ks.length):rZ ks 0 (pO vs)=GI ks vs∧vals (GI ks vs)=vs:=
 Eo _ ks vs 0 e fun j hj=>by rw[Nat.zero_add];exact yS vs j hj
def oI:Bt→Nat→Pv
 | [],_=>fun _ _=>false
 |v :: _,0=>v
 |_ :: l,n+1=>oI l n
theorem He (τ:Nat→Pv):∀(β:Bt) (i:Nat),(∀j,j<β.length→β[j]? =some (τ (i+j)))→stk β.length i τ=β
 | [],_,_=>rfl
 |B :: β,i,h=>by
  have h0:=h 0 (Nat.succ_pos _)
  simp only[List.getElem?_cons_zero,Nat.add_zero,Option.some.injEq] at h0
  have:=He τ β (i+1) (fun j hj=>by
   have:=h (j+1) (by simpa using hj)
   simpa[Nat.add_assoc,Nat.add_comm 1 j] using this)
  simp only[List.length_cons,stk, ←h0,this]
theorem Ey:∀(vs:Bt) (j:Nat),j<vs.length→vs[j]? =some (oI vs j)
 | [],_,h=>by cases h
 |v :: vs,0,_=>rfl
 |v :: vs,j+1,h=>by simpa[oI] using Ey vs j (by simpa using h)
theorem uo (β:Bt):stk β.length 0 (oI β)=β:=
 He _ β 0 fun j hj=>by rw[Nat.zero_add];exact Ey β j hj
def GX (K:KL) (KS:sj):Prop:=∀x (l:gy) (ρ:dY) (h:aj),Has ρ l→K x l h=true→KS x ⟨ρ,h⟩=true
def Qb (V:Pv) (ks:List Nat) (R:St→Bool):Prop:=∀(vs:List AV) (ρ:dY) (h:aj),vs.length=ks.length→Has ρ (GI ks vs)→V vs h=true→R ⟨ρ,h⟩=true
theorem Qb.go {V:Pv} {ks:List Nat} {R:St→Bool} (hv:Qb V ks R) {ρ:dY} {l:gy} {h:aj} (H:Has ρ l) (s:Wm V ks l h=true):R ⟨ρ,h⟩=true:=by
 unfold Wm at s
 split at s
 ·rename_i l' hl
  have hz:=EP hl
  have H':=H.keep ks hl
  rw[hz.1] at H'
  exact hv _ _ _ hz.2 H' s
 ·cases s
def UZ (call':ay) (n:Nat) (S:Sp):Bt→jQ→sj→Prop
 |β, .pt j ks a,KS=>Qb (S.pt β j) ks fun σ=>dU call' n a.erase σ KS
 |β, .loop j ks a,KS=>Qb (S.lp β j n) ks (iter (dU call' n a.erase) KS n)
 |β, .scope j _ fks a lb r,KS=>Qb (S.fs (S.lp β j n :: β) j) fks fun σ=>dU call' n a.erase σ (xI call' n lb r.erase KS n)
 |β, .seq a b,KS=>UZ call' n S β a (Ld call' n b.erase KS)∧UZ call' n S β b KS
 |β, .cond _ a b,KS=>UZ call' n S β a KS∧UZ call' n S β b KS
 |β, .block id a,KS=>UZ call' n S β a (ny id KS)
 |_,_,_=>True
theorem GX.block {id:Nat} {K:KL} {KS:sj} (hk:GX K KS):GX (Ag id K) (ny id KS):=by
 intro x l ρ h H s
 cases x with
 |exit i=>
  simp only[Ag,ny] at s ⊢
  cases hb:Nat.beq i id with
  |true=>rw[hb] at s;exact hk _ _ _ _ H s
  |false=>rw[hb] at s;exact hk _ _ _ _ H s
 |_=>exact hk _ _ _ _ H s
theorem GX.loop {c:dO} {n m:Nat} {call':ay} {B:Pv} {ks:List Nat} {K:KL} {KS:sj} (hk:GX K KS) (hB:Qb B ks (iter (dU call' n c) KS m)):GX (Ev B ks K) (uZ call' n c KS m):=by
 intro x l ρ h H s
 cases x with
 |normal=>exact hB.go H s
 |_=>exact hk _ _ _ _ H s
theorem GX.jump {r:dO} {n m lb:Nat} {call':ay} {B:Pv} {ks:List Nat} {K:KL} {KS:sj} (hk:GX K KS) (hB:Qb B ks (pJ lb (dU call' n r) KS m)):GX (rQ lb B ks K) (xI call' n lb r KS m):=by
 intro x l ρ h H s
 cases x with
 |goto i=>
  simp only[rQ,xI] at s ⊢
  cases hb:Nat.beq i lb with
  |true=>rw[hb] at s;exact hB.go H s
  |false=>rw[hb] at s;cases s
 |_=>exact hk _ _ _ _ H s
theorem uM {S:Sp} {call call':ay} {n:Nat} (hc:Le call call'):∀(c:jQ) (β:Bt) (ρ:dY) (l:gy) (h:aj) (K:KL) (KS:sj),UZ call' n S β c KS→GX K KS→Has ρ l→OC call n S β c l h K=true→dU call' n c.erase ⟨ρ,h⟩ KS=true:=by
 intro c
 induction c with
 |skip=>intro β ρ l h K KS sp hk H s;exact hk _ _ _ _ H s
 |label _=>intro β ρ l h K KS sp hk H s;exact hk _ _ _ _ H s
 |exit _=>intro β ρ l h K KS sp hk H s;exact hk _ _ _ _ H s
 |goto _=>intro β ρ l h K KS sp hk H s;exact hk _ _ _ _ H s
 |ret=>intro β ρ l h K KS sp hk H s;exact hk _ _ _ _ H s
 |refuse=>intro β ρ l h K KS sp hk H s;cases s
 |stop _=>intro β ρ l h K KS sp hk H s;cases s
 |reg ops=>
  intro β ρ l h K KS sp hk H s
  exact gD (QL hc H s fun l' ρ' h' H' s'=>hk _ _ _ _ H' s')
 |dreg n0 rest=>
  intro β ρ l h K KS sp hk H s
  exact KC (QI H s fun l' ρ' H' s'=>QA hc H' s' fun l2 ρ2 h2 H2 s2=>hk _ _ _ _ H2 s2)
 |seq a b iha ihb=>
  intro β ρ l h K KS sp hk H s
  refine fD (iha β ρ l h _ _ sp.1 ?_ H s)
  intro x l' ρ' h' H' s'
  cases x with
  |normal=>exact ihb β _ _ _ _ _ sp.2 hk H' s'
  |_=>exact hk _ _ _ _ H' s'
 |cond o a b iha ihb=>
  intro β ρ l h K KS sp hk H s
  simp only[OC] at s
  split at s
  ·rename_i v hv
   exact oH H hv s (fun s=>iha β _ _ _ _ _ sp.1 hk H s) (fun s=>ihb β _ _ _ _ _ sp.2 hk H s)
  ·cases s
 |block id a ih=>
  intro β ρ l h K KS sp hk H s
  exact kE (ih β _ _ _ _ _ sp hk.block H s)
 |loop j ks a ih=>intro β ρ l h K KS sp hk H s;exact Gp (Qb.go sp H s)
 |pt j ks a ih=>intro β ρ l h K KS sp hk H s;exact Qb.go sp H s
 |scope j ks fks a lb r iha ihr=>intro β ρ l h K KS sp hk H s;exact UM (Qb.go sp H s)
theorem Zb {S:Sp} {call call':ay} {n:Nat} (hc:Le call call'):∀(c:jQ) (β:Bt) (K:Bt→KL) (KS:sj),(∀p∈Ob call n S β.length c K,p.1=p.2)→GX (K β) KS→UZ call' n S β c KS:=by
 intro c
 induction c with
 |pt j ks a ih=>
  intro β K KS hp hk vs ρ h hl H s
  have e:=congrFun (congrFun (congrFun (congrFun (hp _ (List.mem_cons_self ..)) (oI β)) 0) (pO vs)) h
  simp only[uo,nS hl] at e
  rw[e] at s
  exact uM hc a β ρ _ h _ KS (ih β K KS (fun p h=>hp p (List.mem_cons_of_mem _ h)) hk) hk H s
 |loop j ks a ih=>
  intro β K KS hp hk
  have e1:=hp _ (List.mem_cons_self ..)
  have e2:=hp _ (List.mem_cons_of_mem _ (List.mem_cons_self ..))
  have e3:=hp _ (List.mem_cons_of_mem _ (List.mem_cons_of_mem _ (List.mem_cons_self ..)))
  have hr:∀p∈Ob call n S (β.length+1) a (rO (fun B=>Ev B ks) K),p.1=p.2:=fun p h=>hp p (List.mem_cons_of_mem _ (List.mem_cons_of_mem _ (List.mem_cons_of_mem _ h)))
  have main:∀m,Qb (S.lp β j m) ks (iter (dU call' n a.erase) KS m):=by
   intro m
   induction m with
   |zero=>
    intro vs ρ h hl H s
    have e:=congrFun (congrFun (congrFun (congrFun e2 (oI β)) 0) (pO vs)) h
    simp only[uo,nS hl] at e
    rw[e] at s;cases s
   |succ m ihm=>
    intro vs ρ h hl H s
    have e:=congrFun (congrFun (congrFun (congrFun e3 (oI β)) m) (pO vs)) h
    simp only[uo,nS hl] at e
    have e':=congrFun (congrFun (congrFun (congrFun e1 (oI (S.lp β j m :: β))) 0) (pO vs)) h
    have hs:stk (β.length+1) 0 (oI (S.lp β j m :: β))=S.lp β j m :: β:=uo (S.lp β j m :: β)
    simp only[hs,nS hl] at e'
    rw[e,e'] at s
    have hk':GX (Ev (S.lp β j m) ks (K β)) (uZ call' n a.erase KS m):=hk.loop ihm
    exact zU (uM hc a (S.lp β j m :: β) ρ _ h _ _ (ih (S.lp β j m :: β) (rO (fun B=>Ev B ks) K) _ hr hk') hk' H s)
  exact main n
 |seq a b iha ihb=>
  intro β K KS hp hk
  have hb:UZ call' n S β b KS:=ihb β K KS (fun p h=>hp p (List.mem_append_right _ h)) hk
  refine⟨iha β _ _ (fun p h=>hp p (List.mem_append_left _ h)) ?_,hb⟩
  intro x l ρ h H s
  cases x with
  |normal=>exact uM hc b β ρ l h _ KS hb hk H s
  |_=>exact hk _ _ _ _ H s
 |cond o a b iha ihb=>
  intro β K KS hp hk
  exact⟨iha β K KS (fun p h=>hp p (List.mem_append_left _ h)) hk,ihb β K KS (fun p h=>hp p (List.mem_append_right _ h)) hk⟩
 |block id a ih=>
  intro β K KS hp hk
  exact ih β (fun β=>Ag id (K β)) _ hp hk.block
 |scope j ks fks a lb r iha ihr=>
  intro β K KS hp hk
  have e0:=hp _ (List.mem_cons_self ..)
  have e1:=hp _ (List.mem_cons_of_mem _ (List.mem_cons_self ..))
  have e2:=hp _ (List.mem_cons_of_mem _ (List.mem_cons_of_mem _ (List.mem_cons_self ..)))
  have e3:=hp _ (List.mem_cons_of_mem _ (List.mem_cons_of_mem _ (List.mem_cons_of_mem _ (List.mem_cons_self ..))))
  have hr:∀p∈Ob call n S (β.length+1) a (rO (fun B=>rQ lb B ks) K)++Ob call n S (β.length+1) r (rO (fun B=>rQ lb B ks) K),p.1=p.2:=fun p h=>hp p (List.mem_cons_of_mem _ (List.mem_cons_of_mem _ (List.mem_cons_of_mem _ (List.mem_cons_of_mem _ h))))
  have main:∀m,Qb (S.lp β j m) ks (pJ lb (dU call' n r.erase) KS m):=by
   intro m
   induction m with
   |zero=>
    intro vs ρ h hl H s
    have e:=congrFun (congrFun (congrFun (congrFun e2 (oI β)) 0) (pO vs)) h
    simp only[uo,nS hl] at e
    rw[e] at s;cases s
   |succ m ihm=>
    intro vs ρ h hl H s
    have e:=congrFun (congrFun (congrFun (congrFun e3 (oI β)) m) (pO vs)) h
    simp only[uo,nS hl] at e
    have e':=congrFun (congrFun (congrFun (congrFun e1 (oI (S.lp β j m :: β))) 0) (pO vs)) h
    have hs:stk (β.length+1) 0 (oI (S.lp β j m :: β))=S.lp β j m :: β:=uo (S.lp β j m :: β)
    simp only[hs,nS hl] at e'
    rw[e,e'] at s
    have hk':GX (rQ lb (S.lp β j m) ks (K β)) (xI call' n lb r.erase KS m):=hk.jump ihm
    exact YH (uM hc r (S.lp β j m :: β) ρ _ h _ _ (ihr (S.lp β j m :: β) (rO (fun B=>rQ lb B ks) K) _ (fun p h=>hr p (List.mem_append_right _ h)) hk') hk' H s)
  intro vs ρ h hl H s
  have e:=congrFun (congrFun (congrFun (congrFun e0 (oI (S.lp β j n :: β))) 0) (pO vs)) h
  have hs:stk (β.length+1) 0 (oI (S.lp β j n :: β))=S.lp β j n :: β:=uo (S.lp β j n :: β)
  simp only[hs,nS hl] at e
  rw[e] at s
  have hk':GX (rQ lb (S.lp β j n) ks (K β)) (xI call' n lb r.erase KS n):=hk.jump (main n)
  exact uM hc a (S.lp β j n :: β) ρ _ h _ _ (iha (S.lp β j n :: β) (rO (fun B=>rQ lb B ks) K) _ (fun p h=>hr p (List.mem_append_left _ h)) hk') hk' H s
 |_=>intro β K KS hp hk;trivial
theorem EO {h:aj}:∀{res:List (Nat×Option (Bool×Nat))} {l:gy} {m:List (AV×Option (Bool×Nat))},Cg l res=some m→(res.any fun x=>x.2.isSome)=false→mq h m=some (m.map fun x=>x.1)
 | [],l,m,e,_=>by simp only[Cg] at e;cases e;rfl
 |(t,x) :: r,l,m,e,ha=>by
  simp only[Cg] at e
  split at e
  ·split at e
   ·rename_i v hv vs hvs
    cases e
    simp only[List.any_cons,Bool.or_eq_false_iff] at ha
    cases x with
    |some p=>cases ha.1
    |none=>simp only[mq,EO hvs ha.2,List.map]
   ·cases e
  ·cases e
theorem Nk {res:List (Nat×Option (Bool×Nat))} {K:aC} {ρ:dY} {l:gy} {h:aj} (H:Has ρ l) (s:Uk res l h K=true):∃m,Cg l res=some m∧vM (mq h m) h K=true:=by
 unfold Uk at s
 split at s
 ·rename_i m hm
  refine⟨m,hm, ?_⟩
  cases ha:res.any fun x=>x.2.isSome with
  |true=>rw[ha] at s;exact s
  |false=>rw[ha] at s;rw[EO hm ha];exact s
 ·cases s
theorem GX.fin {res:List (Nat×Option (Bool×Nat))} {K K':aC} (hK:∀v h',K v h'=true→K' v h'=true):GX (Td res K) (pG res K'):=by
 intro x l ρ h H s
 cases x with
 |normal=>obtain⟨m,e,s⟩:=Nk H s;exact BQ H e hK s
 |ret=>obtain⟨m,e,s⟩:=Nk H s;exact lu H e hK s
 |_=>cases s
theorem Has.init:∀{vs:List AV} {i:Nat} {ρ:dY} {l:gy},Has ρ l→Has (vH i vs ρ) (NM i vs l)
 | [],i,ρ,l,H=>H
 |v :: vs,i,ρ,l,H=>Has.init (vs:=vs) (H.set i v)
theorem El (σ:Nat→AV):∀(vs:List AV) (i:Nat),(∀j,j<vs.length→vs[j]? =some (σ (i+j)))→OI vs.length i σ=vs
 | [],_,_=>rfl
 |v :: vs,i,h=>by
  have h0:=h 0 (Nat.succ_pos _)
  simp only[List.getElem?_cons_zero,Nat.add_zero,Option.some.injEq] at h0
  have:=El σ vs (i+1) (fun j hj=>by
   have:=h (j+1) (by simpa using hj)
   simpa[Nat.add_assoc,Nat.add_comm 1 j] using this)
  simp only[List.length_cons,OI, ←h0,this]
theorem Uy (vs:List AV):OI vs.length 0 (pO vs)=vs:=El _ vs 0 fun j hj=>by rw[Nat.zero_add];exact yS vs j hj
theorem Jt {α:Type}:∀{l:List (α×α)},l.map Prod.fst=l.map Prod.snd→∀p∈l,p.1=p.2
 | [],_,p,h=>by cases h
 |q :: l,e,p,h=>by
  simp only[List.map_cons,List.cons.injEq] at e
  cases h with
  |head=>exact e.1
  |tail _ h=>exact Jt e.2 p h
def jq (np:Nat) (top:ay→Nat→aC→Pv):Sh:=fun call n args h K=>bif Nat.beq args.length np then top call n K args h else false
theorem dx {E:Env} {k np:Nat} {A:Y3} {fn:dW} {S:ay→Nat→aC→Sp} {top:ay→Nat→aC→Pv} (hk:E.code k=some fn) (hn:fn.np=np)
 (e:(fun call n K=>(Zk call n K (S call n K) (top call n K) A fn).map Prod.fst)=fun call n K=>(Zk call n K (S call n K) (top call n K) A fn).map Prod.snd):eT E k (jq np top):=by
 intro call call' n args h K K' hc hK s
 subst hn
 unfold jq at s
 cases hb:Nat.beq args.length fn.np with
 |false=>rw[hb] at s;cases s
 |true=>
  rw[hb] at s
  have hl:=Nat.eq_of_beq_eq_true hb
  refine⟨fn,hk,hl, ?_⟩
  have ep:=Jt (congrFun (congrFun (congrFun e call) n) K)
  have e0:=congrFun (congrFun (congrFun (congrFun (ep _ (List.mem_cons_self ..)) (fun _ _ _=>false)) 0) (pO args)) h
  simp only[←hl,Uy] at e0
  rw[cond_true,e0] at s
  have hk:GX (Td fn.res K) (pG fn.res K'):=GX.fin hK
  have sp:UZ call' n (S call n K) [] (toB A fn.body 0).1 (pG fn.res K'):=Zb hc _ [] (fun _=>Td fn.res K) _ (fun p h=>ep p (List.mem_cons_of_mem _ h)) hk
  have:=uM hc (toB A fn.body 0).1 [] (vH 0 args .lf) (NM 0 args []) h _ _ sp hk (Has.init Has.nil) s
  rwa [OX] at this
end
end Go.Ab
namespace Go.Proofs.YthmnnlpbnhkhkaaGreat
open Go.Ab
noncomputable def T3 (call:ay) (n:Nat) (K:aC):Sp:={
 pt:=fun β j=>gQ j 10 (su (Sw call n) K) <| gQ j 20 (pU (SC call n) K) <| gQ j 31 (vI (Rk call n (yZ (pB 0 β))) K) <| gQ j 76 (Dc (Eu call n (yZ (pB 0 β))) K) <| gQ j 93 (vI (Nr call n (yZ (pB 0 β))) K) <| gQ j 100 (vI (CG call n (yZ (pB 0 β))) K) <| gQ j 101 (pU (Fu call n) K) <| eG
 fs:=fun β j=>eG
 rd:=fun β j=>gQ j 24 (vI (RU call n (yZ (pB 0 β))) K) <| gQ j 80 (Oe (Qm call n (yZ (pB 1 β)) (PE (pB 0 β))) K) <| eG
 lp:=fun β j m=>nK j 24 (Nw (zD call n m) K) <| nK j 80 (Va (DK call n (yZ (pB 0 β)) m) K) <| eG}
@[irreducible] noncomputable def A3:dW:=(bC Tryz.prog Tryz.f3).getD ⟨0,[], .skip⟩
def w3:Sh:=jq 1 fun call n K=>su (s3 call n) K
theorem Zn {E:Env} (e:E.code 3=some A3):eT E 3 w3:=dx (A:={pts:=[(10,[1]),(20,[1,3,4]),(31,[1,3,4,6]),(76,[1,3,4,6,8]),(93,[1,3,4,6]),(100,[1,3,4,6]),(101,[1,3,4])],lps:=[(24,[1,3,4,6]),(80,[1,3,4,6,8,17])]}) (S:=T3) e (by kernel_rfl) (by kernel_rfl)
noncomputable def T4 (call:ay) (n:Nat) (K:aC):Sp:={
 pt:=fun β j=>gQ j 19 (nG (Sm call n) K) <| gQ j 30 (pU (Qx call n (GU (pB 0 β))) K) <| gQ j 46 (pU (QC call n (GU (pB 0 β))) K) <| gQ j 47 (su (Oa call n) K) <| eG
 fs:=fun β j=>eG
 rd:=fun β j=>gQ j 8 (pU (XT call n (GU (pB 0 β))) K) <| gQ j 23 (pU (Rl call n (GU (pB 0 β))) K) <| gQ j 35 (vI (Rt call n (GU (pB 1 β)) (yZ (pB 0 β))) K) <| eG
 lp:=fun β j m=>nK j 8 (NA (RY call n m) K) <| nK j 23 (NA (IE call n m) K) <| nK j 35 (Nw (IB call n (GU (pB 0 β)) m) K) <| eG}
@[irreducible] noncomputable def A4:dW:=(bC Tryz.prog Tryz.f4).getD ⟨0,[], .skip⟩
def w4:Sh:=jq 1 fun call n K=>su (s4 call n) K
theorem aaN {E:Env} (e:E.code 4=some A4):eT E 4 w4:=dx (A:={pts:=[(19,[1,3]),(30,[1,3,5]),(46,[1,3,5]),(47,[3])],lps:=[(8,[1,3,4]),(23,[1,3,5]),(35,[1,3,5,6])]}) (S:=T4) e (by kernel_rfl) (by kernel_rfl)
@[irreducible] noncomputable def A6:dW:=(bC Tryz.prog Tryz.f6).getD ⟨0,[], .skip⟩
def w6:Sh:=jq 1 fun call n K=>su (s6 call n) K
theorem Zv {E:Env} (e:E.code 6=some A6):eT E 6 w6:=dx (A:={pts:=[],lps:=[]}) (S:=rV) e (by kernel_rfl) (by kernel_rfl)
noncomputable def T7 (call:ay) (n:Nat) (K:aC):Sp:={
 pt:=fun β j=>eG
 fs:=fun β j=>eG
 rd:=fun β j=>gQ j 8 (pU (Yp call n (GU (pB 0 β))) K) <| eG
 lp:=fun β j m=>nK j 8 (NA (TD call n m) K) <| eG}
@[irreducible] noncomputable def A7:dW:=(bC Tryz.prog Tryz.f7).getD ⟨0,[], .skip⟩
def w7:Sh:=jq 1 fun call n K=>su (s7 call n) K
theorem ZF {E:Env} (e:E.code 7=some A7):eT E 7 w7:=dx (A:={pts:=[],lps:=[(8,[0,3,4])]}) (S:=T7) e (by kernel_rfl) (by kernel_rfl)
noncomputable def T8 (call:ay) (n:Nat) (K:aC):Sp:={
 pt:=fun β j=>gQ j 12 (Dc (Rh call n) K) <| gQ j 29 (pU (Sn call n) K) <| gQ j 52 (pU (Tj call n) K) <| gQ j 62 (pU (Ch call n) K) <| eG
 fs:=fun β j=>eG
 rd:=fun β j=>gQ j 39 (Dc (Qp call n (GK (pB 0 β))) K) <| eG
 lp:=fun β j m=>nK j 39 (TK (IL call n m) K) <| eG}
@[irreducible] noncomputable def A8:dW:=(bC Tryz.prog Tryz.f8).getD ⟨0,[], .skip⟩
def w8:Sh:=jq 4 fun call n K=>vI (s8 call n) K
theorem Z8 {E:Env} (e:E.code 8=some A8):eT E 8 w8:=dx (A:={pts:=[(12,[0,1,2,3,10]),(29,[0,1,12]),(52,[0,1,12]),(62,[0,1,12])],lps:=[(39,[0,1,12,88,89])]}) (S:=T8) e (by kernel_rfl) (by kernel_rfl)
noncomputable def T9 (call:ay) (n:Nat) (K:aC):Sp:={
 pt:=fun β j=>gQ j 10 (vI (QK call n) K) <| gQ j 20 (vI (Tw call n) K) <| gQ j 28 (vI (Rp call n) K) <| gQ j 47 (Dc (R6 call n (GK (pB 0 β))) K) <| gQ j 69 (pA7 (Hy call n (GK (pB 1 β)) (pF7 (pB 0 β))) K) <| gQ j 70 (Oe (Qd call n (GK (pB 0 β))) K) <| gQ j 73 (Dc (TB call n (GK (pB 0 β))) K) <| gQ j 74 (nG (Tc call n) K) <| eG
 fs:=fun β j=>eG
 rd:=fun β j=>gQ j 40 (Dc (SS call n (GK (pB 0 β))) K) <| gQ j 55 (pA7 (Sk call n (GK (pB 1 β)) (pF7 (pB 0 β))) K) <| eG
 lp:=fun β j m=>nK j 40 (TK (Ed call n m) K) <| nK j 55 (pC7 (Ir call n (GK (pB 0 β)) m) K) <| eG}
@[irreducible] noncomputable def A9:dW:=(bC Tryz.prog Tryz.f9).getD ⟨0,[], .skip⟩
def w9:Sh:=jq 4 fun call n K=>vI (s9 call n) K
theorem aal {E:Env} (e:E.code 9=some A9):eT E 9 w9:=dx (A:={pts:=[(10,[0,1,2,3]),(20,[0,1,2,3]),(28,[0,1,2,3]),(47,[0,2,11,12,13]),(69,[0,2,11,12,13,14,15]),(70,[0,2,11,12,13,14]),(73,[0,2,11,12,13]),(74,[0,12])],lps:=[(40,[0,2,11,12,13]),(55,[0,2,11,12,13,14,15])]}) (S:=T9) e (by kernel_rfl) (by kernel_rfl)
noncomputable def T10 (call:ay) (n:Nat) (K:aC):Sp:={
 pt:=fun β j=>gQ j 12 (pU (J2 call n) K) <| gQ j 22 (pU (Mx call n) K) <| gQ j 44 (Oe (Bg call n (PE (pB 0 β))) K) <| gQ j 45 (vI (Ma call n) K) <| gQ j 53 (vI (LQ call n) K) <| gQ j 81 (Dc (Br call n (GK (pB 0 β))) K) <| eG
 fs:=fun β j=>eG
 rd:=fun β j=>gQ j 28 (Oe (Ku call n (PE (pB 0 β))) K) <| gQ j 65 (Dc (MN call n (GK (pB 0 β))) K) <| eG
 lp:=fun β j m=>nK j 28 (Va (C8 call n m) K) <| nK j 65 (TK (AL call n m) K) <| eG}
@[irreducible] noncomputable def A10:dW:=(bC Tryz.prog Tryz.f10).getD ⟨0,[], .skip⟩
def w10:Sh:=jq 3 fun call n K=>pU (s10 call n) K
theorem XC {E:Env} (e:E.code 10=some A10):eT E 10 w10:=dx (A:={pts:=[(12,[0,2,8]),(22,[0,8,10]),(44,[0,8,10,11,40,41]),(45,[0,8,10,11]),(53,[0,8,10,11]),(81,[0,8,11,82,83])],lps:=[(28,[0,8,10,11,40,41]),(65,[0,8,11,82,83])]}) (S:=T10) e (by kernel_rfl) (by kernel_rfl)
noncomputable def T11 (call:ay) (n:Nat) (K:aC):Sp:={
 pt:=fun β j=>gQ j 12 (pU (MB call n) K) <| gQ j 22 (pU (JQ call n) K) <| gQ j 46 (Oe (CK call n (PE (pB 0 β))) K) <| gQ j 47 (Dc (KI call n) K) <| gQ j 55 (Dc (JW call n) K) <| gQ j 79 (Oe (CX call n (PE (pB 0 β))) K) <| eG
 fs:=fun β j=>eG
 rd:=fun β j=>gQ j 30 (Oe (LA call n (PE (pB 0 β))) K) <| gQ j 61 (Oe (Kc call n (PE (pB 0 β))) K) <| eG
 lp:=fun β j m=>nK j 30 (Va (Cb call n m) K) <| nK j 61 (Va (Cy call n m) K) <| eG}
@[irreducible] noncomputable def A11:dW:=(bC Tryz.prog Tryz.f11).getD ⟨0,[], .skip⟩
def w11:Sh:=jq 3 fun call n K=>pU (s11 call n) K
theorem YR {E:Env} (e:E.code 11=some A11):eT E 11 w11:=dx (A:={pts:=[(12,[0,2,8]),(22,[0,2,8]),(46,[0,2,8,10,11,12]),(47,[0,2,8,10,11]),(55,[0,2,8,10,11]),(79,[0,2,8,10,11,14])],lps:=[(30,[0,2,8,10,11,12]),(61,[0,2,8,10,11,14])]}) (S:=T11) e (by kernel_rfl) (by kernel_rfl)
@[irreducible] noncomputable def A12:dW:=(bC Tryz.prog Tryz.f12).getD ⟨0,[], .skip⟩
def w12:Sh:=jq 2 fun call n K=>nG (s12 call n) K
theorem XI {E:Env} (e:E.code 12=some A12):eT E 12 w12:=dx (A:={pts:=[],lps:=[]}) (S:=rV) e (by kernel_rfl) (by kernel_rfl)
@[irreducible] noncomputable def A13:dW:=(bC Tryz.prog Tryz.f13).getD ⟨0,[], .skip⟩
def w13:Sh:=jq 2 fun call n K=>nG (s13 call n) K
theorem Wo {E:Env} (e:E.code 13=some A13):eT E 13 w13:=dx (A:={pts:=[],lps:=[]}) (S:=rV) e (by kernel_rfl) (by kernel_rfl)
noncomputable def T14 (call:ay) (n:Nat) (K:aC):Sp:={
 pt:=fun β j=>gQ j 19 (su (LM call n) K) <| eG
 fs:=fun β j=>eG
 rd:=fun β j=>gQ j 6 (nG (Qw call n (pF2 (pB 0 β))) K) <| eG
 lp:=fun β j m=>nK j 6 (pC2 (Iq call n m) K) <| eG}
@[irreducible] noncomputable def A14:dW:=(bC Tryz.prog Tryz.f14).getD ⟨0,[], .skip⟩
def w14:Sh:=jq 1 fun call n K=>su (s14 call n) K
theorem XW {E:Env} (e:E.code 14=some A14):eT E 14 w14:=dx (A:={pts:=[(19,[1])],lps:=[(6,[1,2])]}) (S:=T14) e (by kernel_rfl) (by kernel_rfl)
@[irreducible] noncomputable def A15:dW:=(bC Tryz.prog Tryz.f15).getD ⟨0,[], .skip⟩
def w15:Sh:=jq 1 fun call n K=>su (s15 call n) K
theorem YS {E:Env} (e:E.code 15=some A15):eT E 15 w15:=dx (A:={pts:=[],lps:=[]}) (S:=rV) e (by kernel_rfl) (by kernel_rfl)
@[irreducible] noncomputable def A16:dW:=(bC Tryz.prog Tryz.f16).getD ⟨0,[], .skip⟩
def w16:Sh:=jq 1 fun call n K=>su (s16 call n) K
theorem Yg {E:Env} (e:E.code 16=some A16):eT E 16 w16:=dx (A:={pts:=[],lps:=[]}) (S:=rV) e (by kernel_rfl) (by kernel_rfl)
noncomputable def T17 (call:ay) (n:Nat) (K:aC):Sp:={
 pt:=fun β j=>eG
 fs:=fun β j=>eG
 rd:=fun β j=>gQ j 8 (Dc (QB call n (GK (pB 0 β))) K) <| eG
 lp:=fun β j m=>nK j 8 (TK (H9 call n m) K) <| eG}
@[irreducible] noncomputable def A17:dW:=(bC Tryz.prog Tryz.f17).getD ⟨0,[], .skip⟩
def w17:Sh:=jq 1 fun call n K=>su (s17 call n) K
theorem XH {E:Env} (e:E.code 17=some A17):eT E 17 w17:=dx (A:={pts:=[],lps:=[(8,[0,3,12,13,14])]}) (S:=T17) e (by kernel_rfl) (by kernel_rfl)
noncomputable def T18 (call:ay) (n:Nat) (K:aC):Sp:={
 pt:=fun β j=>gQ j 10 (nG (LC call n) K) <| eG
 fs:=fun β j=>eG
 rd:=fun β j=>gQ j 14 (pU (J9 call n (GU (pB 0 β))) K) <| eG
 lp:=fun β j m=>nK j 14 (NA (BU call n m) K) <| eG}
@[irreducible] noncomputable def A18:dW:=(bC Tryz.prog Tryz.f18).getD ⟨0,[], .skip⟩
def w18:Sh:=jq 2 fun call n K=>nG (s18 call n) K
theorem X5 {E:Env} (e:E.code 18=some A18):eT E 18 w18:=dx (A:={pts:=[(10,[0,1])],lps:=[(14,[0,1,5])]}) (S:=T18) e (by kernel_rfl) (by kernel_rfl)
noncomputable def T19 (call:ay) (n:Nat) (K:aC):Sp:={
 pt:=fun β j=>eG
 fs:=fun β j=>eG
 rd:=fun β j=>gQ j 3 (nG (SH call n (pF2 (pB 0 β))) K) <| eG
 lp:=fun β j m=>nK j 3 (pC2 (JF call n m) K) <| eG}
@[irreducible] noncomputable def A19:dW:=(bC Tryz.prog Tryz.f19).getD ⟨0,[], .skip⟩
def w19:Sh:=jq 1 fun call n K=>su (s19 call n) K
theorem Xy {E:Env} (e:E.code 19=some A19):eT E 19 w19:=dx (A:={pts:=[],lps:=[(3,[0,2])]}) (S:=T19) e (by kernel_rfl) (by kernel_rfl)
noncomputable def T20 (call:ay) (n:Nat) (K:aC):Sp:={
 pt:=fun β j=>gQ j 27 (pU (Fj call n) K) <| gQ j 64 (pU (Fa call n) K) <| eG
 fs:=fun β j=>eG
 rd:=fun β j=>gQ j 6 (vI (Sb call n (yZ (pB 0 β))) K) <| gQ j 31 (vI (Kt call n (yZ (pB 0 β))) K) <| gQ j 68 (vI (Li call n (yZ (pB 0 β))) K) <| eG
 lp:=fun β j m=>nK j 6 (Nw (Iy call n m) K) <| nK j 31 (Nw (Cq call n m) K) <| nK j 68 (Nw (CP call n m) K) <| eG}
@[irreducible] noncomputable def A20:dW:=(bC Tryz.prog Tryz.f20).getD ⟨0,[], .skip⟩
def w20:Sh:=jq 3 fun call n K=>pU (s20 call n) K
theorem Xf {E:Env} (e:E.code 20=some A20):eT E 20 w20:=dx (A:={pts:=[(27,[1,2,3]),(64,[1,2,3])],lps:=[(6,[1,2,3,7]),(31,[1,2,3,9]),(68,[1,2,3,13])]}) (S:=T20) e (by kernel_rfl) (by kernel_rfl)
@[irreducible] noncomputable def A21:dW:=(bC Tryz.prog Tryz.f21).getD ⟨0,[], .skip⟩
def w21:Sh:=jq 1 fun call n K=>su (s21 call n) K
theorem Wh {E:Env} (e:E.code 21=some A21):eT E 21 w21:=dx (A:={pts:=[],lps:=[]}) (S:=rV) e (by kernel_rfl) (by kernel_rfl)
noncomputable def T22 (call:ay) (n:Nat) (K:aC):Sp:={
 pt:=fun β j=>gQ j 12 (nG (MQ call n) K) <| eG
 fs:=fun β j=>eG
 rd:=fun β j=>gQ j 16 (Dc (FM call n (GK (pB 0 β))) K) <| eG
 lp:=fun β j m=>nK j 16 (TK (vQ call n m) K) <| eG}
@[irreducible] noncomputable def A22:dW:=(bC Tryz.prog Tryz.f22).getD ⟨0,[], .skip⟩
def w22:Sh:=jq 1 fun call n K=>su (s22 call n) K
theorem Xq {E:Env} (e:E.code 22=some A22):eT E 22 w22:=dx (A:={pts:=[(12,[0,4])],lps:=[(16,[0,4,13,14,15])]}) (S:=T22) e (by kernel_rfl) (by kernel_rfl)
@[irreducible] noncomputable def A23:dW:=(bC Tryz.prog Tryz.f23).getD ⟨0,[], .skip⟩
def w23:Sh:=jq 2 fun call n K=>nG (s23 call n) K
theorem Ye {E:Env} (e:E.code 23=some A23):eT E 23 w23:=dx (A:={pts:=[],lps:=[]}) (S:=rV) e (by kernel_rfl) (by kernel_rfl)
@[irreducible] noncomputable def A24:dW:=(bC Tryz.prog Tryz.f24).getD ⟨0,[], .skip⟩
def w24:Sh:=jq 2 fun call n K=>nG (s24 call n) K
theorem WU {E:Env} (e:E.code 24=some A24):eT E 24 w24:=dx (A:={pts:=[],lps:=[]}) (S:=rV) e (by kernel_rfl) (by kernel_rfl)
@[irreducible] noncomputable def A25:dW:=(bC Tryz.prog Tryz.f25).getD ⟨0,[], .skip⟩
def w25:Sh:=jq 1 fun call n K=>su (s25 call n) K
theorem Wx {E:Env} (e:E.code 25=some A25):eT E 25 w25:=dx (A:={pts:=[],lps:=[]}) (S:=rV) e (by kernel_rfl) (by kernel_rfl)
noncomputable def T27 (call:ay) (n:Nat) (K:aC):Sp:={
 pt:=fun β j=>gQ j 12 (vI (Kz call n) K) <| eG
 fs:=fun β j=>eG
 rd:=fun β j=>gQ j 18 (pA7 (Mk call n (pF7 (pB 0 β))) K) <| eG
 lp:=fun β j m=>nK j 18 (pC7 (AU call n m) K) <| eG}
@[irreducible] noncomputable def A27:dW:=(bC Tryz.prog Tryz.f27).getD ⟨0,[], .skip⟩
def w27:Sh:=jq 4 fun call n K=>vI (s27 call n) K
theorem VJ {E:Env} (e:E.code 27=some A27):eT E 27 w27:=dx (A:={pts:=[(12,[0,2,3,9])],lps:=[(18,[0,3,9,11,33,34,35])]}) (S:=T27) e (by kernel_rfl) (by kernel_rfl)
@[irreducible] noncomputable def A28:dW:=(bC Tryz.prog Tryz.f28).getD ⟨0,[], .skip⟩
def w28:Sh:=jq 2 fun call n K=>nG (s28 call n) K
theorem Wu {E:Env} (e:E.code 28=some A28):eT E 28 w28:=dx (A:={pts:=[],lps:=[]}) (S:=rV) e (by kernel_rfl) (by kernel_rfl)
@[irreducible] noncomputable def A29:dW:=(bC Tryz.prog Tryz.f29).getD ⟨0,[], .skip⟩
def w29:Sh:=jq 0 fun call n K=>pA0 (s29 call n) K
theorem YK {E:Env} (e:E.code 29=some A29):eT E 29 w29:=dx (A:={pts:=[],lps:=[]}) (S:=rV) e (by kernel_rfl) (by kernel_rfl)
noncomputable def T30 (call:ay) (n:Nat) (K:aC):Sp:={
 pt:=fun β j=>gQ j 8 (pU (I7 call n) K) <| eG
 fs:=fun β j=>eG
 rd:=fun β j=>eG
 lp:=fun β j m=>eG}
@[irreducible] noncomputable def A30:dW:=(bC Tryz.prog Tryz.f30).getD ⟨0,[], .skip⟩
def w30:Sh:=jq 2 fun call n K=>nG (s30 call n) K
theorem Ws {E:Env} (e:E.code 30=some A30):eT E 30 w30:=dx (A:={pts:=[(8,[0,1,4])],lps:=[]}) (S:=T30) e (by kernel_rfl) (by kernel_rfl)
noncomputable def T31 (call:ay) (n:Nat) (K:aC):Sp:={
 pt:=fun β j=>eG
 fs:=fun β j=>eG
 rd:=fun β j=>gQ j 6 (pU (Sv call n (GU (pB 0 β))) K) <| eG
 lp:=fun β j m=>nK j 6 (NA (GY call n m) K) <| eG}
@[irreducible] noncomputable def A31:dW:=(bC Tryz.prog Tryz.f31).getD ⟨0,[], .skip⟩
def w31:Sh:=jq 2 fun call n K=>nG (s31 call n) K
theorem X4 {E:Env} (e:E.code 31=some A31):eT E 31 w31:=dx (A:={pts:=[],lps:=[(6,[0,1,5])]}) (S:=T31) e (by kernel_rfl) (by kernel_rfl)
noncomputable def T32 (call:ay) (n:Nat) (K:aC):Sp:={
 pt:=fun β j=>gQ j 15 (vI (LG call n (yZ (pB 0 β))) K) <| gQ j 27 (Dc (JN call n (yZ (pB 0 β))) K) <| gQ j 48 (Dc (JZ call n (yZ (pB 0 β))) K) <| gQ j 55 (vI (JJ call n (yZ (pB 0 β))) K) <| eG
 fs:=fun β j=>eG
 rd:=fun β j=>gQ j 8 (vI (Rq call n (yZ (pB 0 β))) K) <| gQ j 31 (Oe (Lc call n (yZ (pB 1 β)) (PE (pB 0 β))) K) <| eG
 lp:=fun β j m=>nK j 8 (Nw (EM call n m) K) <| nK j 31 (Va (Cx call n (yZ (pB 0 β)) m) K) <| eG}
@[irreducible] noncomputable def A32:dW:=(bC Tryz.prog Tryz.f32).getD ⟨0,[], .skip⟩
def w32:Sh:=jq 3 fun call n K=>pU (s32 call n) K
theorem XY {E:Env} (e:E.code 32=some A32):eT E 32 w32:=dx (A:={pts:=[(15,[0,2,7,8]),(27,[0,2,7,8,9]),(48,[0,2,7,8,9]),(55,[0,2,7,8])],lps:=[(8,[0,2,7,8]),(31,[0,2,7,8,9,10])]}) (S:=T32) e (by kernel_rfl) (by kernel_rfl)
noncomputable def T33 (call:ay) (n:Nat) (K:aC):Sp:={
 pt:=fun β j=>gQ j 20 (pU (BA call n) K) <| eG
 fs:=fun β j=>eG
 rd:=fun β j=>eG
 lp:=fun β j m=>eG}
@[irreducible] noncomputable def A33:dW:=(bC Tryz.prog Tryz.f33).getD ⟨0,[], .skip⟩
def w33:Sh:=jq 2 fun call n K=>nG (s33 call n) K
theorem Wn {E:Env} (e:E.code 33=some A33):eT E 33 w33:=dx (A:={pts:=[(20,[0,5,6])],lps:=[]}) (S:=T33) e (by kernel_rfl) (by kernel_rfl)
@[irreducible] noncomputable def YU:dW:=(bC Tryz.prog Tryz.f34).getD ⟨0,[], .skip⟩
def w34:Sh:=jq 1 fun call n K=>su (s34 call n) K
theorem YC {E:Env} (e:E.code 34=some YU):eT E 34 w34:=dx (A:={pts:=[],lps:=[]}) (S:=rV) e (by kernel_rfl) (by kernel_rfl)
@[irreducible] noncomputable def A35:dW:=(bC Tryz.prog Tryz.f35).getD ⟨0,[], .skip⟩
def w35:Sh:=jq 2 fun call n K=>nG (s35 call n) K
theorem Yc {E:Env} (e:E.code 35=some A35):eT E 35 w35:=dx (A:={pts:=[],lps:=[]}) (S:=rV) e (by kernel_rfl) (by kernel_rfl)
@[irreducible] noncomputable def A36:dW:=(bC Tryz.prog Tryz.f36).getD ⟨0,[], .skip⟩
def w36:Sh:=jq 2 fun call n K=>nG (s36 call n) K
theorem VN {E:Env} (e:E.code 36=some A36):eT E 36 w36:=dx (A:={pts:=[],lps:=[]}) (S:=rV) e (by kernel_rfl) (by kernel_rfl)
noncomputable def T37 (call:ay) (n:Nat) (K:aC):Sp:={
 pt:=fun β j=>eG
 fs:=fun β j=>eG
 rd:=fun β j=>gQ j 6 (pU (NR call n (GU (pB 0 β))) K) <| eG
 lp:=fun β j m=>nK j 6 (NA (DJ call n m) K) <| eG}
@[irreducible] noncomputable def A37:dW:=(bC Tryz.prog Tryz.f37).getD ⟨0,[], .skip⟩
def w37:Sh:=jq 2 fun call n K=>nG (s37 call n) K
theorem XM {E:Env} (e:E.code 37=some A37):eT E 37 w37:=dx (A:={pts:=[],lps:=[(6,[0,1,5])]}) (S:=T37) e (by kernel_rfl) (by kernel_rfl)
noncomputable def T38 (call:ay) (n:Nat) (K:aC):Sp:={
 pt:=fun β j=>eG
 fs:=fun β j=>eG
 rd:=fun β j=>gQ j 6 (pU (SA call n (GU (pB 0 β))) K) <| eG
 lp:=fun β j m=>nK j 6 (NA (Ih call n m) K) <| eG}
@[irreducible] noncomputable def A38:dW:=(bC Tryz.prog Tryz.f38).getD ⟨0,[], .skip⟩
def w38:Sh:=jq 2 fun call n K=>nG (s38 call n) K
theorem Yv {E:Env} (e:E.code 38=some A38):eT E 38 w38:=dx (A:={pts:=[],lps:=[(6,[0,1,5])]}) (S:=T38) e (by kernel_rfl) (by kernel_rfl)
@[irreducible] noncomputable def A39:dW:=(bC Tryz.prog Tryz.f39).getD ⟨0,[], .skip⟩
def w39:Sh:=jq 2 fun call n K=>nG (s39 call n) K
theorem WJ {E:Env} (e:E.code 39=some A39):eT E 39 w39:=dx (A:={pts:=[],lps:=[]}) (S:=rV) e (by kernel_rfl) (by kernel_rfl)
@[irreducible] noncomputable def A40:dW:=(bC Tryz.prog Tryz.f40).getD ⟨0,[], .skip⟩
def w40:Sh:=jq 2 fun call n K=>nG (s40 call n) K
theorem YJ {E:Env} (e:E.code 40=some A40):eT E 40 w40:=dx (A:={pts:=[],lps:=[]}) (S:=rV) e (by kernel_rfl) (by kernel_rfl)
@[irreducible] noncomputable def A41:dW:=(bC Tryz.prog Tryz.f41).getD ⟨0,[], .skip⟩
def w41:Sh:=jq 1 fun call n K=>su (s41 call n) K
theorem Yr {E:Env} (e:E.code 41=some A41):eT E 41 w41:=dx (A:={pts:=[],lps:=[]}) (S:=rV) e (by kernel_rfl) (by kernel_rfl)
@[irreducible] noncomputable def A42:dW:=(bC Tryz.prog Tryz.f42).getD ⟨0,[], .skip⟩
def w42:Sh:=jq 2 fun call n K=>nG (s42 call n) K
theorem Ya {E:Env} (e:E.code 42=some A42):eT E 42 w42:=dx (A:={pts:=[],lps:=[]}) (S:=rV) e (by kernel_rfl) (by kernel_rfl)
noncomputable def T43 (call:ay) (n:Nat) (K:aC):Sp:={
 pt:=fun β j=>gQ j 17 (su (J3 call n) K) <| eG
 fs:=fun β j=>eG
 rd:=fun β j=>gQ j 4 (nG (Qg call n (pF2 (pB 0 β))) K) <| eG
 lp:=fun β j m=>nK j 4 (pC2 (Im call n m) K) <| eG}
@[irreducible] noncomputable def A43:dW:=(bC Tryz.prog Tryz.f43).getD ⟨0,[], .skip⟩
def w43:Sh:=jq 1 fun call n K=>su (s43 call n) K
theorem Xo {E:Env} (e:E.code 43=some A43):eT E 43 w43:=dx (A:={pts:=[(17,[0])],lps:=[(4,[0,2])]}) (S:=T43) e (by kernel_rfl) (by kernel_rfl)
noncomputable def T44 (call:ay) (n:Nat) (K:aC):Sp:={
 pt:=fun β j=>gQ j 15 (su (Mg call n) K) <| eG
 fs:=fun β j=>eG
 rd:=fun β j=>gQ j 4 (nG (Sz call n (pF2 (pB 0 β))) K) <| eG
 lp:=fun β j m=>nK j 4 (pC2 (Ja call n m) K) <| eG}
@[irreducible] noncomputable def A44:dW:=(bC Tryz.prog Tryz.f44).getD ⟨0,[], .skip⟩
def w44:Sh:=jq 1 fun call n K=>su (s44 call n) K
theorem Yb {E:Env} (e:E.code 44=some A44):eT E 44 w44:=dx (A:={pts:=[(15,[0])],lps:=[(4,[0,2])]}) (S:=T44) e (by kernel_rfl) (by kernel_rfl)
noncomputable def T45 (call:ay) (n:Nat) (K:aC):Sp:={
 pt:=fun β j=>gQ j 12 (nG (K7 call n) K) <| gQ j 36 (Dc (AB call n (GK (pB 0 β))) K) <| gQ j 37 (su (Kq call n) K) <| eG
 fs:=fun β j=>eG
 rd:=fun β j=>gQ j 18 (Dc (KD call n (GK (pB 0 β))) K) <| eG
 lp:=fun β j m=>nK j 18 (TK (yT call n m) K) <| eG}
@[irreducible] noncomputable def A45:dW:=(bC Tryz.prog Tryz.f45).getD ⟨0,[], .skip⟩
def w45:Sh:=jq 2 fun call n K=>nG (s45 call n) K
theorem XU {E:Env} (e:E.code 45=some A45):eT E 45 w45:=dx (A:={pts:=[(12,[0,5]),(36,[0,7,22,23,24]),(37,[7])],lps:=[(18,[0,7,22,23,24])]}) (S:=T45) e (by kernel_rfl) (by kernel_rfl)
noncomputable def T46 (call:ay) (n:Nat) (K:aC):Sp:={
 pt:=fun β j=>gQ j 10 (nG (MS call n) K) <| eG
 fs:=fun β j=>eG
 rd:=fun β j=>gQ j 14 (pU (Kj call n (GU (pB 0 β))) K) <| eG
 lp:=fun β j m=>nK j 14 (NA (AQ call n m) K) <| eG}
@[irreducible] noncomputable def A46:dW:=(bC Tryz.prog Tryz.f46).getD ⟨0,[], .skip⟩
def w46:Sh:=jq 2 fun call n K=>nG (s46 call n) K
theorem YM {E:Env} (e:E.code 46=some A46):eT E 46 w46:=dx (A:={pts:=[(10,[0,1])],lps:=[(14,[0,1,5])]}) (S:=T46) e (by kernel_rfl) (by kernel_rfl)
noncomputable def T47 (call:ay) (n:Nat) (K:aC):Sp:={
 pt:=fun β j=>gQ j 22 (vI (Aj call n (yZ (pB 0 β))) K) <| eG
 fs:=fun β j=>eG
 rd:=fun β j=>gQ j 8 (vI (Tf call n (yZ (pB 0 β))) K) <| eG
 lp:=fun β j m=>nK j 8 (Nw (Ij call n m) K) <| eG}
@[irreducible] noncomputable def A47:dW:=(bC Tryz.prog Tryz.f47).getD ⟨0,[], .skip⟩
def w47:Sh:=jq 2 fun call n K=>nG (s47 call n) K
theorem X6 {E:Env} (e:E.code 47=some A47):eT E 47 w47:=dx (A:={pts:=[(22,[0,1,5,6])],lps:=[(8,[0,1,5,6])]}) (S:=T47) e (by kernel_rfl) (by kernel_rfl)
@[irreducible] noncomputable def A48:dW:=(bC Tryz.prog Tryz.f48).getD ⟨0,[], .skip⟩
def w48:Sh:=jq 3 fun call n K=>pU (s48 call n) K
theorem X0 {E:Env} (e:E.code 48=some A48):eT E 48 w48:=dx (A:={pts:=[],lps:=[]}) (S:=rV) e (by kernel_rfl) (by kernel_rfl)
noncomputable def T49 (call:ay) (n:Nat) (K:aC):Sp:={
 pt:=fun β j=>gQ j 22 (Dc (vZ call n (GK (pB 0 β))) K) <| eG
 fs:=fun β j=>eG
 rd:=fun β j=>gQ j 8 (Dc (QN call n (GK (pB 0 β))) K) <| eG
 lp:=fun β j m=>nK j 8 (TK (Cc call n m) K) <| eG}
@[irreducible] noncomputable def A49:dW:=(bC Tryz.prog Tryz.f49).getD ⟨0,[], .skip⟩
def w49:Sh:=jq 3 fun call n K=>pU (s49 call n) K
theorem YF {E:Env} (e:E.code 49=some A49):eT E 49 w49:=dx (A:={pts:=[(22,[0,1,2,7,8])],lps:=[(8,[0,1,2,7,8])]}) (S:=T49) e (by kernel_rfl) (by kernel_rfl)
noncomputable def T50 (call:ay) (n:Nat) (K:aC):Sp:={
 pt:=fun β j=>gQ j 10 (nG (L9 call n) K) <| eG
 fs:=fun β j=>eG
 rd:=fun β j=>gQ j 16 (vI (FL call n (yZ (pB 0 β))) K) <| eG
 lp:=fun β j m=>nK j 16 (Nw (yK call n m) K) <| eG}
@[irreducible] noncomputable def A50:dW:=(bC Tryz.prog Tryz.f50).getD ⟨0,[], .skip⟩
def w50:Sh:=jq 2 fun call n K=>nG (s50 call n) K
theorem Yx {E:Env} (e:E.code 50=some A50):eT E 50 w50:=dx (A:={pts:=[(10,[0,1])],lps:=[(16,[0,1,5,6])]}) (S:=T50) e (by kernel_rfl) (by kernel_rfl)
@[irreducible] noncomputable def A52:dW:=(bC Tryz.prog Tryz.f52).getD ⟨0,[], .skip⟩
def w52:Sh:=jq 1 fun call n K=>su (s52 call n) K
theorem Wq {E:Env} (e:E.code 52=some A52):eT E 52 w52:=dx (A:={pts:=[],lps:=[]}) (S:=rV) e (by kernel_rfl) (by kernel_rfl)
noncomputable def T53 (call:ay) (n:Nat) (K:aC):Sp:={
 pt:=fun β j=>eG
 fs:=fun β j=>eG
 rd:=fun β j=>gQ j 8 (pU (NG call n (GU (pB 0 β))) K) <| eG
 lp:=fun β j m=>nK j 8 (NA (Ea call n m) K) <| eG}
@[irreducible] noncomputable def A53:dW:=(bC Tryz.prog Tryz.f53).getD ⟨0,[], .skip⟩
def w53:Sh:=jq 1 fun call n K=>su (s53 call n) K
theorem XQ {E:Env} (e:E.code 53=some A53):eT E 53 w53:=dx (A:={pts:=[],lps:=[(8,[0,3,4])]}) (S:=T53) e (by kernel_rfl) (by kernel_rfl)
@[irreducible] noncomputable def A54:dW:=(bC Tryz.prog Tryz.f54).getD ⟨0,[], .skip⟩
def w54:Sh:=jq 2 fun call n K=>nG (s54 call n) K
theorem XE {E:Env} (e:E.code 54=some A54):eT E 54 w54:=dx (A:={pts:=[],lps:=[]}) (S:=rV) e (by kernel_rfl) (by kernel_rfl)
noncomputable def T56 (call:ay) (n:Nat) (K:aC):Sp:={
 pt:=fun β j=>gQ j 27 (nG (Kg call n) K) <| eG
 fs:=fun β j=>eG
 rd:=fun β j=>gQ j 8 (Dc (Es call n (GK (pB 0 β))) K) <| gQ j 33 (vI (rz call n (yZ (pB 0 β))) K) <| eG
 lp:=fun β j m=>nK j 8 (TK (Jy call n m) K) <| nK j 33 (Nw (Co call n m) K) <| eG}
@[irreducible] noncomputable def A56:dW:=(bC Tryz.prog Tryz.f56).getD ⟨0,[], .skip⟩
def w56:Sh:=jq 1 fun call n K=>su (s56 call n) K
theorem Yf {E:Env} (e:E.code 56=some A56):eT E 56 w56:=dx (A:={pts:=[(27,[0,3])],lps:=[(8,[0,3,9,10,11]),(33,[6,25,26,27])]}) (S:=T56) e (by kernel_rfl) (by kernel_rfl)
noncomputable def T57 (call:ay) (n:Nat) (K:aC):Sp:={
 pt:=fun β j=>eG
 fs:=fun β j=>eG
 rd:=fun β j=>gQ j 6 (vI (Qu call n (yZ (pB 0 β))) K) <| eG
 lp:=fun β j m=>nK j 6 (Nw (Ho call n m) K) <| eG}
@[irreducible] noncomputable def A57:dW:=(bC Tryz.prog Tryz.f57).getD ⟨0,[], .skip⟩
def w57:Sh:=jq 2 fun call n K=>nG (ZI call n) K
theorem XA {E:Env} (e:E.code 57=some A57):eT E 57 w57:=dx (A:={pts:=[],lps:=[(6,[0,1,7,8])]}) (S:=T57) e (by kernel_rfl) (by kernel_rfl)
@[irreducible] noncomputable def A58:dW:=(bC Tryz.prog Tryz.f58).getD ⟨0,[], .skip⟩
def w58:Sh:=jq 2 fun call n K=>nG (s58 call n) K
theorem Yl {E:Env} (e:E.code 58=some A58):eT E 58 w58:=dx (A:={pts:=[],lps:=[]}) (S:=rV) e (by kernel_rfl) (by kernel_rfl)
@[irreducible] noncomputable def A59:dW:=(bC Tryz.prog Tryz.f59).getD ⟨0,[], .skip⟩
def w59:Sh:=jq 4 fun call n K=>vI (ZN call n) K
theorem VX {E:Env} (e:E.code 59=some A59):eT E 59 w59:=dx (A:={pts:=[],lps:=[]}) (S:=rV) e (by kernel_rfl) (by kernel_rfl)
@[irreducible] noncomputable def A60:dW:=(bC Tryz.prog Tryz.f60).getD ⟨0,[], .skip⟩
def w60:Sh:=jq 2 fun call n K=>nG (s60 call n) K
theorem WW {E:Env} (e:E.code 60=some A60):eT E 60 w60:=dx (A:={pts:=[],lps:=[]}) (S:=rV) e (by kernel_rfl) (by kernel_rfl)
noncomputable def T61 (call:ay) (n:Nat) (K:aC):Sp:={
 pt:=fun β j=>gQ j 23 (nG (KF call n) K) <| eG
 fs:=fun β j=>eG
 rd:=fun β j=>gQ j 10 (Dc (KM call n (GK (pB 0 β))) K) <| eG
 lp:=fun β j m=>nK j 10 (TK (BN call n m) K) <| eG}
@[irreducible] noncomputable def A61:dW:=(bC Tryz.prog Tryz.f61).getD ⟨0,[], .skip⟩
def w61:Sh:=jq 1 fun call n K=>su (s61 call n) K
theorem Wd {E:Env} (e:E.code 61=some A61):eT E 61 w61:=dx (A:={pts:=[(23,[1,2])],lps:=[(10,[1,2,9,10,11])]}) (S:=T61) e (by kernel_rfl) (by kernel_rfl)
noncomputable def T62 (call:ay) (n:Nat) (K:aC):Sp:={
 pt:=fun β j=>gQ j 23 (Dc (MR call n) K) <| eG
 fs:=fun β j=>eG
 rd:=fun β j=>gQ j 8 (Oe (QF call n (PE (pB 0 β))) K) <| eG
 lp:=fun β j m=>nK j 8 (Va (IW call n m) K) <| eG}
@[irreducible] noncomputable def A62:dW:=(bC Tryz.prog Tryz.f62).getD ⟨0,[], .skip⟩
def w62:Sh:=jq 3 fun call n K=>pU (s62 call n) K
theorem Yn {E:Env} (e:E.code 62=some A62):eT E 62 w62:=dx (A:={pts:=[(23,[0,1,2,8,9])],lps:=[(8,[0,1,2,8,9,10])]}) (S:=T62) e (by kernel_rfl) (by kernel_rfl)
@[irreducible] noncomputable def A64:dW:=(bC Tryz.prog Tryz.f64).getD ⟨0,[], .skip⟩
def w64:Sh:=jq 2 fun call n K=>nG (s64 call n) K
theorem WK {E:Env} (e:E.code 64=some A64):eT E 64 w64:=dx (A:={pts:=[],lps:=[]}) (S:=rV) e (by kernel_rfl) (by kernel_rfl)
noncomputable def T65 (call:ay) (n:Nat) (K:aC):Sp:={
 pt:=fun β j=>gQ j 23 (pU (Mw call n) K) <| eG
 fs:=fun β j=>eG
 rd:=fun β j=>gQ j 8 (Oe (Tq call n (PE (pB 0 β))) K) <| eG
 lp:=fun β j m=>nK j 8 (Va (JC call n m) K) <| eG}
@[irreducible] noncomputable def A65:dW:=(bC Tryz.prog Tryz.f65).getD ⟨0,[], .skip⟩
def w65:Sh:=jq 2 fun call n K=>nG (s65 call n) K
theorem WI {E:Env} (e:E.code 65=some A65):eT E 65 w65:=dx (A:={pts:=[(23,[0,4,5])],lps:=[(8,[0,4,5,10,11,12])]}) (S:=T65) e (by kernel_rfl) (by kernel_rfl)
@[irreducible] noncomputable def A66:dW:=(bC Tryz.prog Tryz.f66).getD ⟨0,[], .skip⟩
def w66:Sh:=jq 4 fun call n K=>vI (s66 call n) K
theorem VO {E:Env} (e:E.code 66=some A66):eT E 66 w66:=dx (A:={pts:=[],lps:=[]}) (S:=rV) e (by kernel_rfl) (by kernel_rfl)
noncomputable def T67 (call:ay) (n:Nat) (K:aC):Sp:={
 pt:=fun β j=>gQ j 10 (pU (Gu call n) K) <| eG
 fs:=fun β j=>eG
 rd:=fun β j=>gQ j 14 (Dc (Gy call n (GK (pB 0 β))) K) <| eG
 lp:=fun β j m=>nK j 14 (TK (yc call n m) K) <| eG}
@[irreducible] noncomputable def A67:dW:=(bC Tryz.prog Tryz.f67).getD ⟨0,[], .skip⟩
def w67:Sh:=jq 3 fun call n K=>pU (s67 call n) K
theorem Xc {E:Env} (e:E.code 67=some A67):eT E 67 w67:=dx (A:={pts:=[(10,[0,1,2])],lps:=[(14,[1,2,15,16,17])]}) (S:=T67) e (by kernel_rfl) (by kernel_rfl)
noncomputable def T68 (call:ay) (n:Nat) (K:aC):Sp:={
 pt:=fun β j=>gQ j 10 (nG (F8 call n) K) <| eG
 fs:=fun β j=>eG
 rd:=fun β j=>gQ j 14 (pU (FT call n (GU (pB 0 β))) K) <| eG
 lp:=fun β j m=>nK j 14 (NA (yR call n m) K) <| eG}
@[irreducible] noncomputable def A68:dW:=(bC Tryz.prog Tryz.f68).getD ⟨0,[], .skip⟩
def w68:Sh:=jq 2 fun call n K=>nG (s68 call n) K
theorem WE {E:Env} (e:E.code 68=some A68):eT E 68 w68:=dx (A:={pts:=[(10,[0,1])],lps:=[(14,[0,1,5])]}) (S:=T68) e (by kernel_rfl) (by kernel_rfl)
@[irreducible] noncomputable def A69:dW:=(bC Tryz.prog Tryz.f69).getD ⟨0,[], .skip⟩
def w69:Sh:=jq 3 fun call n K=>pU (s69 call n) K
theorem XO {E:Env} (e:E.code 69=some A69):eT E 69 w69:=dx (A:={pts:=[],lps:=[]}) (S:=rV) e (by kernel_rfl) (by kernel_rfl)
noncomputable def T70 (call:ay) (n:Nat) (K:aC):Sp:={
 pt:=fun β j=>eG
 fs:=fun β j=>eG
 rd:=fun β j=>gQ j 8 (vI (SE call n (yZ (pB 0 β))) K) <| eG
 lp:=fun β j m=>nK j 8 (Nw (IQ call n m) K) <| eG}
@[irreducible] noncomputable def A70:dW:=(bC Tryz.prog Tryz.f70).getD ⟨0,[], .skip⟩
def w70:Sh:=jq 1 fun call n K=>su (s70 call n) K
theorem WO {E:Env} (e:E.code 70=some A70):eT E 70 w70:=dx (A:={pts:=[],lps:=[(8,[3,6,7,8])]}) (S:=T70) e (by kernel_rfl) (by kernel_rfl)
@[irreducible] noncomputable def A71:dW:=(bC Tryz.prog Tryz.f71).getD ⟨0,[], .skip⟩
def w71:Sh:=jq 1 fun call n K=>su (s71 call n) K
theorem XB {E:Env} (e:E.code 71=some A71):eT E 71 w71:=dx (A:={pts:=[],lps:=[]}) (S:=rV) e (by kernel_rfl) (by kernel_rfl)
noncomputable def T72 (call:ay) (n:Nat) (K:aC):Sp:={
 pt:=fun β j=>gQ j 10 (nG (ML call n) K) <| gQ j 32 (Oe (Am call n (PE (pB 0 β))) K) <| eG
 fs:=fun β j=>eG
 rd:=fun β j=>gQ j 16 (Oe (FU call n (PE (pB 0 β))) K) <| eG
 lp:=fun β j m=>nK j 16 (Va (yA call n m) K) <| eG}
@[irreducible] noncomputable def A72:dW:=(bC Tryz.prog Tryz.f72).getD ⟨0,[], .skip⟩
def w72:Sh:=jq 2 fun call n K=>nG (s72 call n) K
theorem XF {E:Env} (e:E.code 72=some A72):eT E 72 w72:=dx (A:={pts:=[(10,[0,1]),(32,[0,1,6,16,17,18])],lps:=[(16,[0,1,6,16,17,18])]}) (S:=T72) e (by kernel_rfl) (by kernel_rfl)
noncomputable def T74 (call:ay) (n:Nat) (K:aC):Sp:={
 pt:=fun β j=>gQ j 10 (pU (JR call n) K) <| eG
 fs:=fun β j=>eG
 rd:=fun β j=>gQ j 14 (pU (E9 call n (GU (pB 0 β))) K) <| eG
 lp:=fun β j m=>nK j 14 (NA (yQ call n m) K) <| eG}
@[irreducible] noncomputable def A74:dW:=(bC Tryz.prog Tryz.f74).getD ⟨0,[], .skip⟩
def w74:Sh:=jq 3 fun call n K=>pU (s74 call n) K
theorem Xj {E:Env} (e:E.code 74=some A74):eT E 74 w74:=dx (A:={pts:=[(10,[0,1,2])],lps:=[(14,[0,2,7])]}) (S:=T74) e (by kernel_rfl) (by kernel_rfl)
@[irreducible] noncomputable def A75:dW:=(bC Tryz.prog Tryz.f75).getD ⟨0,[], .skip⟩
def w75:Sh:=jq 2 fun call n K=>nG (s75 call n) K
theorem WL {E:Env} (e:E.code 75=some A75):eT E 75 w75:=dx (A:={pts:=[],lps:=[]}) (S:=rV) e (by kernel_rfl) (by kernel_rfl)
@[irreducible] noncomputable def A76:dW:=(bC Tryz.prog Tryz.f76).getD ⟨0,[], .skip⟩
def w76:Sh:=jq 1 fun call n K=>su (s76 call n) K
theorem Wv {E:Env} (e:E.code 76=some A76):eT E 76 w76:=dx (A:={pts:=[],lps:=[]}) (S:=rV) e (by kernel_rfl) (by kernel_rfl)
@[irreducible] noncomputable def A77:dW:=(bC Tryz.prog Tryz.f77).getD ⟨0,[], .skip⟩
def w77:Sh:=jq 1 fun call n K=>su (s77 call n) K
theorem YL {E:Env} (e:E.code 77=some A77):eT E 77 w77:=dx (A:={pts:=[],lps:=[]}) (S:=rV) e (by kernel_rfl) (by kernel_rfl)
noncomputable def T78 (call:ay) (n:Nat) (K:aC):Sp:={
 pt:=fun β j=>gQ j 29 (su (Fq call n) K) <| eG
 fs:=fun β j=>eG
 rd:=fun β j=>gQ j 6 (pU (QV call n (GU (pB 0 β))) K) <| eG
 lp:=fun β j m=>nK j 6 (NA (Jr call n m) K) <| eG}
@[irreducible] noncomputable def A78:dW:=(bC Tryz.prog Tryz.f78).getD ⟨0,[], .skip⟩
def w78:Sh:=jq 1 fun call n K=>su (s78 call n) K
theorem Xg {E:Env} (e:E.code 78=some A78):eT E 78 w78:=dx (A:={pts:=[(29,[0])],lps:=[(6,[0,7,8])]}) (S:=T78) e (by kernel_rfl) (by kernel_rfl)
@[irreducible] noncomputable def A79:dW:=(bC Tryz.prog Tryz.f79).getD ⟨0,[], .skip⟩
def w79:Sh:=jq 2 fun call n K=>nG (s79 call n) K
theorem YO {E:Env} (e:E.code 79=some A79):eT E 79 w79:=dx (A:={pts:=[],lps:=[]}) (S:=rV) e (by kernel_rfl) (by kernel_rfl)
@[irreducible] noncomputable def A80:dW:=(bC Tryz.prog Tryz.f80).getD ⟨0,[], .skip⟩
def w80:Sh:=jq 2 fun call n K=>nG (s80 call n) K
theorem WV {E:Env} (e:E.code 80=some A80):eT E 80 w80:=dx (A:={pts:=[],lps:=[]}) (S:=rV) e (by kernel_rfl) (by kernel_rfl)
@[irreducible] noncomputable def A82:dW:=(bC Tryz.prog Tryz.f82).getD ⟨0,[], .skip⟩
def w82:Sh:=jq 2 fun call n K=>nG (s82 call n) K
theorem Xl {E:Env} (e:E.code 82=some A82):eT E 82 w82:=dx (A:={pts:=[],lps:=[]}) (S:=rV) e (by kernel_rfl) (by kernel_rfl)
@[irreducible] noncomputable def A86:dW:=(bC Tryz.prog Tryz.f86).getD ⟨0,[], .skip⟩
def w86:Sh:=jq 1 fun call n K=>su (s86 call n) K
theorem VQ {E:Env} (e:E.code 86=some A86):eT E 86 w86:=dx (A:={pts:=[],lps:=[]}) (S:=rV) e (by kernel_rfl) (by kernel_rfl)
@[irreducible] noncomputable def A87:dW:=(bC Tryz.prog Tryz.f87).getD ⟨0,[], .skip⟩
def w87:Sh:=jq 1 fun call n K=>su (s87 call n) K
theorem YQ {E:Env} (e:E.code 87=some A87):eT E 87 w87:=dx (A:={pts:=[],lps:=[]}) (S:=rV) e (by kernel_rfl) (by kernel_rfl)
noncomputable def T90 (call:ay) (n:Nat) (K:aC):Sp:={
 pt:=fun β j=>eG
 fs:=fun β j=>eG
 rd:=fun β j=>gQ j 6 (vI (QT call n (yZ (pB 0 β))) K) <| eG
 lp:=fun β j m=>nK j 6 (Nw (Jc call n m) K) <| eG}
@[irreducible] noncomputable def A90:dW:=(bC Tryz.prog Tryz.f90).getD ⟨0,[], .skip⟩
def w90:Sh:=jq 2 fun call n K=>nG (s90 call n) K
theorem Xv {E:Env} (e:E.code 90=some A90):eT E 90 w90:=dx (A:={pts:=[],lps:=[(6,[0,1,7,8])]}) (S:=T90) e (by kernel_rfl) (by kernel_rfl)
noncomputable def T91 (call:ay) (n:Nat) (K:aC):Sp:={
 pt:=fun β j=>gQ j 39 (pU (FC call n) K) <| gQ j 64 (nG (qU call n) K) <| eG
 fs:=fun β j=>eG
 rd:=fun β j=>gQ j 42 (Oe (GL call n (PE (pB 0 β))) K) <| eG
 lp:=fun β j m=>nK j 42 (Va (yE call n m) K) <| eG}
@[irreducible] noncomputable def A91:dW:=(bC Tryz.prog Tryz.f91).getD ⟨0,[], .skip⟩
def w91:Sh:=jq 2 fun call n K=>nG (s91 call n) K
theorem WC {E:Env} (e:E.code 91=some A91):eT E 91 w91:=dx (A:={pts:=[(39,[1,2,5]),(64,[2,5])],lps:=[(42,[1,2,5,47,48,49])]}) (S:=T91) e (by kernel_rfl) (by kernel_rfl)
noncomputable def T92 (call:ay) (n:Nat) (K:aC):Sp:={
 pt:=fun β j=>gQ j 156 (su (eB call n) K) <| eG
 fs:=fun β j=>eG
 rd:=fun β j=>eG
 lp:=fun β j m=>eG}
@[irreducible] noncomputable def A92:dW:=(bC Tryz.prog Tryz.f92).getD ⟨0,[], .skip⟩
def w92:Sh:=jq 1 fun call n K=>su (s92 call n) K
theorem XG {E:Env} (e:E.code 92=some A92):eT E 92 w92:=dx (A:={pts:=[(156,[4])],lps:=[]}) (S:=T92) e (by kernel_rfl) (by kernel_rfl)
noncomputable def T93 (call:ay) (n:Nat) (K:aC):Sp:={
 pt:=fun β j=>eG
 fs:=fun β j=>eG
 rd:=fun β j=>gQ j 6 (vI (Ni call n (yZ (pB 0 β))) K) <| eG
 lp:=fun β j m=>nK j 6 (Nw (EL call n m) K) <| eG}
@[irreducible] noncomputable def A93:dW:=(bC Tryz.prog Tryz.f93).getD ⟨0,[], .skip⟩
def w93:Sh:=jq 2 fun call n K=>nG (s93 call n) K
theorem Xr {E:Env} (e:E.code 93=some A93):eT E 93 w93:=dx (A:={pts:=[],lps:=[(6,[0,1,7,8])]}) (S:=T93) e (by kernel_rfl) (by kernel_rfl)
noncomputable def T95 (call:ay) (n:Nat) (K:aC):Sp:={
 pt:=fun β j=>gQ j 18 (vI (Av call n) K) <| eG
 fs:=fun β j=>eG
 rd:=fun β j=>gQ j 32 (vI (Lx call n (yZ (pB 0 β))) K) <| eG
 lp:=fun β j m=>nK j 32 (Nw (AP call n m) K) <| eG}
@[irreducible] noncomputable def A95:dW:=(bC Tryz.prog Tryz.f95).getD ⟨0,[], .skip⟩
def w95:Sh:=jq 2 fun call n K=>nG (s95 call n) K
theorem YD {E:Env} (e:E.code 95=some A95):eT E 95 w95:=dx (A:={pts:=[(18,[0,3,14,24])],lps:=[(32,[0,52,53,54])]}) (S:=T95) e (by kernel_rfl) (by kernel_rfl)
noncomputable def T96 (call:ay) (n:Nat) (K:aC):Sp:={
 pt:=fun β j=>gQ j 55 (nG (Fb call n) K) <| eG
 fs:=fun β j=>eG
 rd:=fun β j=>gQ j 59 (pU (K5 call n (GU (pB 0 β))) K) <| eG
 lp:=fun β j m=>nK j 59 (NA (CS call n m) K) <| eG}
@[irreducible] noncomputable def A96:dW:=(bC Tryz.prog Tryz.f96).getD ⟨0,[], .skip⟩
def w96:Sh:=jq 2 fun call n K=>nG (s96 call n) K
theorem Yk {E:Env} (e:E.code 96=some A96):eT E 96 w96:=dx (A:={pts:=[(55,[1,2])],lps:=[(59,[1,2,9])]}) (S:=T96) e (by kernel_rfl) (by kernel_rfl)
@[irreducible] noncomputable def Ui:dW:=(bC Tryz.prog Tryz.f109).getD ⟨0,[], .skip⟩
def ac1:Sh:=jq 1 fun call n K=>su (VP call n) K
theorem TT {E:Env} (e:E.code 109=some Ui):eT E 109 ac1:=dx (A:={pts:=[],lps:=[]}) (S:=rV) e (by kernel_rfl) (by kernel_rfl)
noncomputable def ae4 (call:ay) (n:Nat) (K:aC):Sp:={
 pt:=fun β j=>eG
 fs:=fun β j=>eG
 rd:=fun β j=>gQ j 6 (pU (FQ call n (GU (pB 0 β))) K) <| eG
 lp:=fun β j m=>nK j 6 (NA (yD call n m) K) <| eG}
@[irreducible] noncomputable def Uw:dW:=(bC Tryz.prog Tryz.f110).getD ⟨0,[], .skip⟩
def aeB:Sh:=jq 3 fun call n K=>pU (YE call n) K
theorem TV {E:Env} (e:E.code 110=some Uw):eT E 110 aeB:=dx (A:={pts:=[],lps:=[(6,[0,1,7])]}) (S:=ae4) e (by kernel_rfl) (by kernel_rfl)
def RQ:dO:= .seq (.reg [⟨some 21, .load false 1 (.t 6),none⟩,gm 4 21,⟨some 5, .mv (.c (.int .i64 0)),none⟩]) .ret
def jL:dO:= .block 1 (.reg [⟨some 16, .fadr 2 (.t 7),none⟩,⟨some 17, .load false 1 (.t 16),none⟩,⟨some 18, .load false 1 (.t 6),none⟩,⟨some 19, .bslice 2 1 [.nilSlc] [(0, .t 17),(1, .t 18)],none⟩,⟨some 20, .call (.c (.fn (.func 56) [] [])) [.t 19],none⟩,⟨none, .store 1 (.t 6) (.t 20),none⟩])
def jN:dO:= .reg [⟨some 7, .alloc [.str [], .str [], .nilSlc],none⟩,⟨none, .store 3 (.t 7) (.t 15),none⟩]
def SQ:dO:= .seq (.reg [⟨some 6, .alloc [.nilSlc],none⟩]) (.seq (.seq (.reg [gm 12 0,gm 13 1,⟨some 14, .call (.c (.fn (.func 55) [] [])) [.t 12, .t 13],none⟩]) (.block 0 (.keep [6,14] (.rf (.t 14) [15] jN jL)))) RQ)
def Zt:dO:= .seq (.reg [⟨some 4, .mv (.c .nilSlc),none⟩,⟨some 5, .mv (.c (.int .i64 0)),none⟩]) (.seq (.seq (.reg [gm 8 0,gm 9 1,⟨some 10, .call (.c (.fn (.func 54) [] [])) [.t 8, .t 9],none⟩,⟨some 11, .not (.t 10),none⟩]) (.cond (.t 11) (.seq (.reg [⟨some 4, .mv (.c .nilSlc),none⟩,⟨some 5, .mv (.c (.int .i64 10)),none⟩]) .ret) .skip)) SQ)
def TS:dW:={np:=2,res:=[(4,none),(5,none)],body:=Zt}
def Mt:dO:= .seq (.reg [⟨some 109, .load false 1 (.t 8),none⟩,⟨some 110, .bin .leq (.t 109) (.c (.int .i64 62)),none⟩,gm 6 110]) .ret
set_option maxRecDepth 100000 in
def Ww:dO:= .seq (.seq (.reg [⟨some 64, .fadr 0 (.t 13),none⟩,⟨some 65, .load false 1 (.t 64),none⟩,⟨some 66, .call (.c (.fn (.func 78) [] [])) [.t 65],none⟩,⟨some 67, .not (.t 66),none⟩,gm 68 67,⟨some 69, .fadr 1 (.t 13),some (68,false)⟩,⟨some 70, .load false 1 (.t 69),some (68,false)⟩,⟨some 71, .bin .lss (.t 70) (.c (.int .i64 0)),some (68,false)⟩,⟨some 72, .pick (.t 68) (.c (.bool true)) (.t 71),none⟩,gm 73 72,⟨some 74, .fadr 1 (.t 13),some (73,false)⟩,⟨some 75, .load false 1 (.t 74),some (73,false)⟩,⟨some 76, .bin .gtr (.t 75) (.c (.int .i64 5)),some (73,false)⟩,⟨some 77, .pick (.t 73) (.c (.bool true)) (.t 76),none⟩,gm 78 77,⟨some 79, .fadr 1 (.t 13),some (78,false)⟩,⟨some 80, .load false 1 (.t 79),some (78,false)⟩,⟨some 81, .bin .eql (.t 80) (.c (.int .i64 5)),some (78,false)⟩,⟨some 82, .fadr 2 (.t 13),some (78,false)⟩,⟨some 83, .load false 1 (.t 82),some (78,false)⟩,⟨some 84, .bin .neq (.t 83) (.c (.str [])),some (78,false)⟩,⟨some 85, .eq true .bool (.t 81) (.t 84),some (78,false)⟩,⟨some 86, .pick (.t 78) (.c (.bool true)) (.t 85),none⟩]) (.cond (.t 86) (.seq (.reg [⟨some 6, .mv (.c (.bool false)),none⟩]) .ret) .skip)) (.seq (.seq (.reg [⟨some 87, .fadr 1 (.t 13),none⟩,⟨some 88, .load false 1 (.t 87),none⟩,⟨some 89, .bin .eql (.t 88) (.c (.int .i64 5)),none⟩,gm 90 89,⟨some 91, .mv (.t 2),some (90,true)⟩,⟨some 92, .mkfn 80 [] [.t 13],some (90,true)⟩,⟨some 93, .call (.c (.fn (.func 79) [] [])) [.t 91, .t 92],some (90,true)⟩,⟨some 94, .not (.t 93),some (90,true)⟩,⟨some 95, .pick (.t 90) (.t 94) (.c (.bool false)),none⟩]) (.cond (.t 95) (.seq (.reg [⟨some 6, .mv (.c (.bool false)),none⟩]) .ret) .skip)) (.seq (.seq (.reg [⟨some 96, .load false 1 (.t 7),none⟩,⟨some 97, .fadr 0 (.t 13),none⟩,⟨some 98, .load false 1 (.t 97),none⟩,⟨some 99, .look (.leaf .str) false (.int .i64 0) (.t 96) (.t 98),none⟩,⟨some 100, .bin .add (.t 99) (.c (.int .i64 1)),none⟩,⟨none, .mupd (.leaf .str) (.t 96) (.t 98) (.t 100),none⟩]) (.seq (.reg [⟨some 101, .load false 1 (.t 7),none⟩,⟨some 102, .fadr 0 (.t 13),none⟩,⟨some 103, .load false 1 (.t 102),none⟩,⟨some 104, .look (.leaf .str) false (.int .i64 0) (.t 101) (.t 103),none⟩,⟨some 105, .bin .gtr (.t 104) (.c (.int .i64 1)),none⟩]) (.cond (.t 105) (.seq (.reg [⟨some 6, .mv (.c (.bool false)),none⟩]) .ret) .skip))) (.reg [⟨some 106, .load false 1 (.t 8),none⟩,⟨some 107, .bin .add (.t 106) (.c (.int .i64 1)),none⟩,⟨none, .store 1 (.t 8) (.t 107),none⟩])))
def Al:dO:= .seq (.reg [⟨some 61, .bin .lss (.t 60) (.t 59),none⟩]) (.seq (.cond (.t 61) .skip (.exit 4)) (.seq (.block 5 (.seq (.reg [⟨some 62, .iadr 3 (.t 58) (.t 60),none⟩,⟨some 63, .load true 3 (.t 62),none⟩,⟨some 13, .alloc [.str [], .int .i64 0, .str []],none⟩,⟨none, .store 3 (.t 13) (.t 63),none⟩]) Ww)) (.reg [⟨some 108, .bin .add (.t 60) (.c (.int .i64 1)),none⟩,gm 60 108])))
def RN:dO:= .seq (.seq (.reg [⟨some 57, .fadr 2 (.t 4),none⟩,⟨some 58, .load false 1 (.t 57),none⟩,⟨some 59, .len 1 (.t 58),none⟩,⟨some 60, .mv (.c (.int .i64 0)),none⟩]) (.block 4 (.loop Al))) Mt
def CQ:dO:= .seq (.reg [⟨some 46, .bin .lss (.t 45) (.t 44),none⟩]) (.seq (.cond (.t 46) .skip (.exit 2)) (.seq (.block 3 (.seq (.reg [⟨some 47, .iadr 3 (.t 43) (.t 45),none⟩,⟨some 48, .load true 3 (.t 47),none⟩,⟨some 11, .alloc [.str [], .int .i64 0, .str []],none⟩,⟨none, .store 3 (.t 11) (.t 48),none⟩]) (.seq (.reg [⟨some 49, .load false 1 (.t 7),none⟩,⟨some 50, .fadr 0 (.t 11),none⟩,⟨some 51, .load false 1 (.t 50),none⟩,⟨some 52, .look (.leaf .str) false (.int .i64 0) (.t 49) (.t 51),none⟩,⟨some 53, .bin .add (.t 52) (.c (.int .i64 1)),none⟩,⟨none, .mupd (.leaf .str) (.t 49) (.t 51) (.t 53),none⟩]) (.reg [⟨some 54, .load false 1 (.t 8),none⟩,⟨some 55, .bin .add (.t 54) (.c (.int .i64 1)),none⟩,⟨none, .store 1 (.t 8) (.t 55),none⟩])))) (.reg [⟨some 56, .bin .add (.t 45) (.c (.int .i64 1)),none⟩,gm 45 56])))
def ni:dO:= .block 1 (.seq (.reg [⟨some 42, .fadr 2 (.t 9),none⟩,⟨some 43, .load false 1 (.t 42),none⟩,⟨some 44, .len 1 (.t 43),none⟩,⟨some 45, .mv (.c (.int .i64 0)),none⟩]) (.block 2 (.loop CQ)))
def mZ:dO:= .reg [⟨some 9, .alloc [.str [], .str [], .nilSlc],none⟩,⟨none, .store 3 (.t 9) (.t 41),none⟩]
def Ry:dO:= .seq (.reg [⟨some 36, .mkmap,none⟩,⟨some 7, .alloc [.nilMap],none⟩,⟨none, .store 1 (.t 7) (.t 36),none⟩]) (.seq (.reg [⟨some 8, .alloc [.int .i64 0],none⟩,⟨none, .store 1 (.t 8) (.c (.int .i64 0)),none⟩]) (.seq (.seq (.reg [gm 37 0,⟨some 38, .fadr 1 (.t 4),none⟩,⟨some 39, .load false 1 (.t 38),none⟩,⟨some 40, .call (.c (.fn (.func 55) [] [])) [.t 37, .t 39],none⟩]) (.block 0 (.keep [2,4,7,8,40] (.rf (.t 40) [41] mZ ni)))) RN))
def aat:dO:= .seq (.reg [⟨some 4, .box 3 (.t 1),none⟩,⟨some 6, .mv (.c (.bool false)),none⟩]) (.seq (.seq (.reg [⟨some 14, .fadr 0 (.t 4),none⟩,⟨some 15, .load false 1 (.t 14),none⟩,⟨some 16, .call (.c (.fn (.func 78) [] [])) [.t 15],none⟩,⟨some 17, .not (.t 16),none⟩,gm 18 17,⟨some 19, .mv (.t 0),some (18,false)⟩,⟨some 20, .fadr 0 (.t 4),some (18,false)⟩,⟨some 21, .load false 1 (.t 20),some (18,false)⟩,⟨some 22, .call (.c (.fn (.func 54) [] [])) [.t 19, .t 21],some (18,false)⟩,⟨some 23, .pick (.t 18) (.c (.bool true)) (.t 22),none⟩,gm 24 23,⟨some 25, .fadr 1 (.t 4),some (24,false)⟩,⟨some 26, .load false 1 (.t 25),some (24,false)⟩,⟨some 27, .bin .neq (.t 26) (.c (.str [])),some (24,false)⟩,⟨some 28, .mv (.t 27),some (24,false)⟩,⟨some 29, .mv (.t 0),some (28,true)⟩,⟨some 30, .fadr 1 (.t 4),some (28,true)⟩,⟨some 31, .load false 1 (.t 30),some (28,true)⟩,⟨some 32, .call (.c (.fn (.func 54) [] [])) [.t 29, .t 31],some (28,true)⟩,⟨some 33, .not (.t 32),some (28,true)⟩,⟨some 34, .pick (.t 28) (.t 33) (.c (.bool false)),some (24,false)⟩,⟨some 35, .pick (.t 24) (.c (.bool true)) (.t 34),none⟩]) (.cond (.t 35) (.seq (.reg [⟨some 6, .mv (.c (.bool false)),none⟩]) .ret) .skip)) Ry)
def QO:dW:={np:=3,res:=[(6,none)],body:=aat}
def aaB:dO:= .seq (.reg [⟨some 2, .box 1 (.t 0),none⟩,⟨some 3, .box 1 (.t 1),none⟩,⟨some 4, .mv (.c .nilFn),none⟩]) (.seq (.reg [⟨some 5, .mkfn 81 [] [.t 2, .t 3],none⟩,gm 4 5]) .ret)
def VK:dW:={np:=2,res:=[(4,none)],body:=aaB}
def IG:dO:= .seq (.seq (.reg [gm 15 5]) (.cond (.t 15) .skip (.exit 0))) (.seq (.block 1 (.seq (.reg [gm 32 0,⟨some 33, .load false 1 (.t 1),none⟩,⟨some 34, .nilck (.t 33),none⟩,⟨some 35, .fadr 0 (.t 34),none⟩,⟨some 36, .load false 1 (.t 35),none⟩,gm 37 4,⟨some 38, .iadr 3 (.t 36) (.t 37),none⟩,⟨some 39, .load true 3 (.t 38),none⟩,⟨some 40, .call (.t 32) [.t 39],none⟩,⟨some 41, .not (.t 40),none⟩]) (.cond (.t 41) .ret .skip))) (.dreg [⟨some 17, .load false 1 (.t 1),none⟩,⟨some 18, .nilck (.t 17),none⟩,⟨some 19, .fadr 1 (.t 18),none⟩,⟨some 20, .load false 1 (.t 19),none⟩,⟨some 21, .load false 1 (.t 1),none⟩,⟨some 22, .nilck (.t 21),none⟩,⟨some 23, .fadr 0 (.t 22),none⟩,⟨some 24, .load false 1 (.t 23),none⟩,gm 25 4,⟨some 26, .iadr 3 (.t 24) (.t 25),none⟩,⟨some 27, .fadr 1 (.t 26),none⟩,⟨some 28, .load false 1 (.t 27),none⟩,⟨some 29, .look (.leaf .str) true (.int .i64 0) (.t 20) (.t 28),none⟩,gm 16 29,⟨some 30, .ext (.t 16) 0,none⟩,⟨some 31, .ext (.t 16) 1,none⟩] [(gm 4 30,[],[gm 5 31])]))
def aap:dO:= .seq (.dreg [⟨some 7, .load false 1 (.t 1),none⟩,⟨some 8, .nilck (.t 7),none⟩,⟨some 9, .fadr 1 (.t 8),none⟩,⟨some 10, .load false 1 (.t 9),none⟩,⟨some 11, .load false 1 (.t 2),none⟩,⟨some 12, .look (.leaf .str) true (.int .i64 0) (.t 10) (.t 11),none⟩,gm 6 12,⟨some 13, .ext (.t 6) 0,none⟩,⟨some 14, .ext (.t 6) 1,none⟩,gm 4 13,gm 5 14] []) (.block 0 (.loop IG))
def Vr:dW:={np:=3,res:=[],body:=aap}
def Rw:dO:= .seq (.reg [⟨none, .store 1 (.t 6) (.c (.bool false)),none⟩]) .ret
def kV:dO:= .block 1 (.seq (.reg [⟨some 12, .fadr 0 (.t 7),none⟩,⟨some 13, .load false 1 (.t 12),none⟩,⟨some 14, .load false 1 (.t 5),none⟩,⟨some 15, .bin .eql (.t 13) (.t 14),none⟩]) (.cond (.t 15) (.seq (.reg [⟨none, .store 1 (.t 6) (.c (.bool true)),none⟩]) .ret) .skip))
def kP:dO:= .reg [⟨some 7, .alloc [.str [], .str [], .nilSlc],none⟩,⟨none, .store 3 (.t 7) (.t 11),none⟩]
def ZJ:dO:= .seq (.reg [⟨some 5, .box 1 (.t 2),none⟩,⟨some 6, .alloc [.bool false],none⟩]) (.seq (.seq (.reg [gm 8 0,gm 9 1,⟨some 10, .call (.c (.fn (.func 55) [] [])) [.t 8, .t 9],none⟩]) (.block 0 (.keep [5,6,10] (.rf (.t 10) [11] kP kV)))) Rw)
def VH:dW:={np:=3,res:=[(6,some (false,1))],body:=ZJ}
variable {call call':ay} {n id:Nat} {K K':aC} {h:aj} {ρ:dY} {x0 x1 x2 x4 x5 x6 x7 x8 x10 x11 x14 x15 x40 x41 x43 x44 x45 x58 x59 x60:AV}
def J4 (call:ay) (n:Nat) (id:Nat) (x6 x14 x15:AV) (h:aj) (K:aC):Bool:=
 bP (fG h [.str [], .str [], .nilSlc]) fun v5 h=>bP (unit (bT h 3 v5 x15)) fun _ h=>wV id h fun h=>ah (aH 2 v5) fun v7=>ah (au h false 1 v7) fun v8=>ah (au h false 1 x6) fun v9=>bP (dX h 2 1 [.nilSlc] [(0,v8),(1,v9)]) fun v10 h=>call (.func 56) [v10] h fun v11 h=>bP (unit (bT h 1 x6 v11)) fun _ h=>wW id K .normal h
theorem PS (hc:Le call call') (hK:Ef K K') (H:Has ρ [(15,x15),(6,x6),(14,x14)]) (s:J4 call n id x6 x14 x15 h K=true):dU call' n jN ⟨ρ,h⟩ (LK call' n id jL K')=true:=
 gD (lG H rfl s fun _ _ s H=>jT H rfl s fun _ _ s H=>gG (TJ s fun h s=>kE (gD (dJ H rfl s fun _ s H=>dJ H rfl s fun _ s H=>dJ H rfl s fun _ s H=>lG H rfl s fun _ _ s H=>wD hc H rfl s fun _ _ s H=>jT H rfl s fun _ _ s H=>gG (oh (Fh hK s))))))
theorem MJ {E:Env} (hp:vU E) {n id:Nat} {x6 x14 x15:AV} {h:aj} {K:aC} (hg:h.get id=some (.loop {regs:=FI [(6,x6),(14,x14)],ps:=[15],asg:=jN,body:=jL,st:= .ready})) (s:J4 (aD E n) n id x6 x14 x15 h K=true):aD E (n+1) (.yield id) [x15] h K=true:=
 wC hg rfl (PS (tK hp n) (fun _ _ h=>h) (Has.mk.set 15 _) s)
def LU (call:ay) (n:Nat) (x6:AV) (h:aj) (K:aC):Bool:=
 ah (au h false 1 x6) fun v13=>K (.tup [v13,(.int .i64 0)]) h
theorem Pw (hc:Le call call') (hK:Ef K K') (H:Has ρ [(6,x6)]) (s:LU call n x6 h K=true):dU call' n RQ ⟨ρ,h⟩ (pG TS.res K')=true:=
 fD (gD (dJ H rfl s fun _ s H=>kH H rfl fun H=>kH H rfl fun H=>gG (fH (tQ (lu H rfl hK s)))))
def LP (call:ay) (n:Nat) (x0 x1:AV) (h:aj) (K:aC):Bool:=
 bP (fG h [.nilSlc]) fun v3 h=>call (.func 55) [x0,x1] h fun v4 h=>VT call v4 (FI [(6,v3),(14,v4)]) [15] jN jL h fun ex h=>match ex with | .normal=>LU call n v3 h K | .ret=>false | .exit i=>false | .goto _=>false
theorem OH (hc:Le call call') (hK:Ef K K') (H:Has ρ [(0,x0),(1,x1)]) (s:LP call n x0 x1 h K=true):dU call' n SQ ⟨ρ,h⟩ (pG TS.res K')=true:=
 fD (gD (lG H rfl s fun _ _ s H=>gG (fH (fD (fD (gD (kH H rfl fun H=>kH H rfl fun H=>wD hc H rfl s fun _ _ s H=>gG (fH (kE (KG H rfl fun H=>Yz hc H rfl s fun ex h s=>match ex,s with | .normal,s=>oh (fH (Pw hc hK (H.keep [6] rfl) s))| .ret,s=>nomatch s | .exit i,s=>nomatch s | .goto _,s=>nomatch s))))))))))
def s26 (call:ay) (n:Nat) (x0 x1:AV) (h:aj) (K:aC):Bool:=
 call (.func 54) [x0,x1] h fun v1 h=>ah (fT v1) fun v2=>aZ v2 (K (.tup [.nilSlc,(.int .i64 10)]) h) (LP call n x0 x1 h K)
theorem Yy (hc:Le call call') (hK:Ef K K') (H:Has ρ [(1,x1),(0,x0)]) (s:s26 call n x0 x1 h K=true):dU call' n TS.body ⟨ρ,h⟩ (pG TS.res K')=true:=
 fD (gD (kH H rfl fun H=>kH H rfl fun H=>gG (fH (fD (fD (gD (kH H rfl fun H=>kH H rfl fun H=>wD hc H rfl s fun _ _ s H=>dJ H rfl s fun _ s H=>gG (fH (oH H rfl s (fun s=>fD (gD (kH H rfl fun H=>kH H rfl fun H=>gG (fH (tQ (iN (lu H rfl hK s))))))) (fun s=>qg (fH (OH hc hK (H.keep [0,1] rfl) s))))))))))))
def w26:Sh:=fun call n args h K=>match args with
 | [x0,x1]=>s26 call n x0 x1 h K
 |_=>false
theorem Yd {E:Env} (e:E.code 26=some TS):eT E 26 w26:=fun call call' n args h K K' hc hK s=>
 match args,s with
 | [x0,x1],s=>⟨TS,e,rfl,Yy hc hK ((Has.nil.set 0 x0).set 1 x1) s⟩
 | [],s=>nomatch s
 | [_],s=>nomatch s
 |_ :: _ :: _ :: _,s=>nomatch s
def Fe (call:ay) (n:Nat) (id:Nat) (B24:F5) (x7 x8 x43 x44 x45:AV) (h:aj) (K:aC):Bool:=
 ah (aR .lss x45 x44) fun v35=>aZ v35 (ah (bS h 3 x43 x45) fun v36=>ah (au h true 3 v36) fun v37=>bP (fG h [.str [], .int .i64 0, .str []]) fun v38 h=>bP (unit (bT h 3 v38 v37)) fun _ h=>ah (au h false 1 x7) fun v40=>ah (aH 0 v38) fun v41=>ah (au h false 1 v41) fun v42=>ah (fC h (.leaf .str) false (.int .i64 0) v40 v42) fun v43=>ah (aR .add v43 (.int .i64 1)) fun v44=>bP (unit (kQ h (.leaf .str) v40 v42 v44)) fun _ h=>ah (au h false 1 x8) fun v46=>ah (aR .add v46 (.int .i64 1)) fun v47=>bP (unit (bT h 1 x8 v47)) fun _ h=>ah (aR .add x45 (.int .i64 1)) fun v49=>B24 x7 x8 x43 x44 v49 h) (wW id K .normal h)
abbrev aaT (call':ay) (n:Nat) (id:Nat) (K':aC):=ny 1 (Je id K')
abbrev Qq (call':ay) (n:Nat) (id:Nat) (K':aC):=ny 2 (aaT call' n id K')
abbrev WR (call':ay) (n:Nat) (id:Nat) (K':aC) (m:Nat) (B:F5):Prop:=∀(x7 x8 x43 x44 x45:AV) (h:aj) (ρ:dY),Has ρ [(7,x7),(8,x8),(43,x43),(44,x44),(45,x45)]→B x7 x8 x43 x44 x45 h=true→iter (dU call' n CQ) (Qq call' n id K') m ⟨ρ,h⟩=true
abbrev Y6 (call':ay) (n:Nat) (id:Nat) (K':aC) (m24:Nat):=uZ call' n CQ (Qq call' n id K') m24
theorem PN (hc:Le call call') (hK:Ef K K') {m24:Nat} {B24:F5} (hB24:WR call' n id K' m24 B24) (H:Has ρ [(7,x7),(8,x8),(43,x43),(44,x44),(45,x45)]) (s:Fe call n id B24 x7 x8 x43 x44 x45 h K=true):dU call' n CQ ⟨ρ,h⟩ (Y6 call' n id K' m24)=true:=
 fD (gD (dJ H rfl s fun _ s H=>gG (fH (fD (oH H rfl s (fun s=>qg (fH (fD (kE (fD (gD (dJ H rfl s fun _ s H=>dJ H rfl s fun _ s H=>lG H rfl s fun _ _ s H=>jT H rfl s fun _ _ s H=>gG (fH (fD (gD (dJ H rfl s fun _ s H=>dJ H rfl s fun _ s H=>dJ H rfl s fun _ s H=>dJ H rfl s fun _ s H=>dJ H rfl s fun _ s H=>jT H rfl s fun _ _ s H=>gG (fH (gD (dJ H rfl s fun _ s H=>dJ H rfl s fun _ s H=>jT H rfl s fun _ _ s H=>gG (oh (fH (gD (dJ H rfl s fun _ s H=>kH H rfl fun H=>gG (Ke (hB24 _ _ _ _ _ _ _ (H.keep [7,8,43,44,45] rfl) s)))))))))))))))))))) (fun s=>KW (vT (tV (wm (oh (Fh hK s)))))))))))
def yL (call:ay) (n:Nat) (id:Nat):Nat→AV→AV→AV→AV→AV→aj→aC→Bool
 |0=>fun _ _ _ _ _ _ _=>false
 |m+1=>fun x7 x8 x43 x44 x45 h K=>Fe call n id (fun x7 x8 x43 x44 x45 h=>yL call n id m x7 x8 x43 x44 x45 h K) x7 x8 x43 x44 x45 h K
theorem ET (hc:Le call call') (hK:Ef K K'):∀(m:Nat) (x7 x8 x43 x44 x45:AV) (h:aj) (ρ:dY),Has ρ [(7,x7),(8,x8),(43,x43),(44,x44),(45,x45)]→yL call n id m x7 x8 x43 x44 x45 h K=true→iter (dU call' n CQ) (Qq call' n id K') m ⟨ρ,h⟩=true
 |0,_,_,_,_,_,_,_,_,s=>nomatch s
 |m+1,_,_,_,_,_,_,_,H,s=>zU (PN hc hK (fun x7 x8 x43 x44 x45 h ρ H s=>ET hc hK m x7 x8 x43 x44 x45 h ρ H s) H s)
def KU (call:ay) (n:Nat) (id:Nat) (x2 x4 x7 x8 x40 x41:AV) (h:aj) (K:aC):Bool:=
 bP (fG h [.str [], .str [], .nilSlc]) fun v30 h=>bP (unit (bT h 3 v30 x41)) fun _ h=>wV id h fun h=>ah (aH 2 v30) fun v32=>ah (au h false 1 v32) fun v33=>ah (dw h 1 v33) fun v34=>yL call n id n x7 x8 v33 v34 (.int .i64 0) h K
theorem Pj (hc:Le call call') (hK:Ef K K') (H:Has ρ [(41,x41),(2,x2),(4,x4),(7,x7),(8,x8),(40,x40)]) (s:KU call n id x2 x4 x7 x8 x40 x41 h K=true):dU call' n mZ ⟨ρ,h⟩ (LK call' n id ni K')=true:=
 gD (lG H rfl s fun _ _ s H=>jT H rfl s fun _ _ s H=>gG (TJ s fun h s=>kE (fD (gD (dJ H rfl s fun _ s H=>dJ H rfl s fun _ s H=>dJ H rfl s fun _ s H=>kH H rfl fun H=>gG (fH (kE (Gp (ET hc hK n _ _ _ _ _ _ _ (H.keep [7,8,43,44,45] rfl) s)))))))))
theorem KR {E:Env} (hp:vU E) {n id:Nat} {x2 x4 x7 x8 x40 x41:AV} {h:aj} {K:aC} (hg:h.get id=some (.loop {regs:=FI [(2,x2),(4,x4),(7,x7),(8,x8),(40,x40)],ps:=[41],asg:=mZ,body:=ni,st:= .ready})) (s:KU (aD E n) n id x2 x4 x7 x8 x40 x41 h K=true):aD E (n+1) (.yield id) [x41] h K=true:=
 wC hg rfl (Pj (tK hp n) (fun _ _ h=>h) (Has.mk.set 41 _) s)
def Km (call:ay) (n:Nat) (x8:AV) (h:aj) (K:aC):Bool:=
 ah (au h false 1 x8) fun v101=>ah (aR .leq v101 (.int .i64 62)) fun v102=>K v102 h
theorem Ph (hc:Le call call') (hK:Ef K K') (H:Has ρ [(8,x8)]) (s:Km call n x8 h K=true):dU call' n Mt ⟨ρ,h⟩ (pG QO.res K')=true:=
 fD (gD (dJ H rfl s fun _ s H=>dJ H rfl s fun _ s H=>kH H rfl fun H=>gG (fH (tQ (lu H rfl hK s)))))
set_option maxRecDepth 100000 in
def F9 (call:ay) (n:Nat) (B43:F6) (x2 x7 x8 x58 x59 x60:AV) (h:aj) (K:aC):Bool:=
 ah (aR .lss x60 x59) fun v53=>aZ v53 (ah (bS h 3 x58 x60) fun v54=>ah (au h true 3 v54) fun v55=>bP (fG h [.str [], .int .i64 0, .str []]) fun v56 h=>bP (unit (bT h 3 v56 v55)) fun _ h=>ah (aH 0 v56) fun v58=>ah (au h false 1 v58) fun v59=>call (.func 78) [v59] h fun v60 h=>ah (fT v60) fun v61=>ah (aQ (aB v61 false) (aH 1 v56)) fun v62=>ah (aQ (aB v61 false) (au h false 1 v62)) fun v63=>ah (aQ (aB v61 false) (aR .lss v63 (.int .i64 0))) fun v64=>ah (cB v61 (.bool true) v64) fun v65=>ah (aQ (aB v65 false) (aH 1 v56)) fun v66=>ah (aQ (aB v65 false) (au h false 1 v66)) fun v67=>ah (aQ (aB v65 false) (aR .gtr v67 (.int .i64 5))) fun v68=>ah (cB v65 (.bool true) v68) fun v69=>ah (aQ (aB v69 false) (aH 1 v56)) fun v70=>ah (aQ (aB v69 false) (au h false 1 v70)) fun v71=>ah (aQ (aB v69 false) (aR .eql v71 (.int .i64 5))) fun v72=>ah (aQ (aB v69 false) (aH 2 v56)) fun v73=>ah (aQ (aB v69 false) (au h false 1 v73)) fun v74=>ah (aQ (aB v69 false) (aR .neq v74 (.str []))) fun v75=>ah (aQ (aB v69 false) (ru h true .bool v72 v75)) fun v76=>ah (cB v69 (.bool true) v76) fun v77=>aZ v77 (K (.bool false) h) (ah (aH 1 v56) fun v78=>ah (au h false 1 v78) fun v79=>ah (aR .eql v79 (.int .i64 5)) fun v80=>ah (aQ (aB v80 true) (some x2)) fun v81=>ah (aQ (aB v80 true) (some (.fn (.func 80) [] [v56]))) fun v82=>ji (aB v80 true) (fun k=>call (.func 79) [v81,v82] h k) h fun v83 h=>ah (aQ (aB v80 true) (fT v83)) fun v84=>ah (cB v80 v84 (.bool false)) fun v85=>aZ v85 (K (.bool false) h) (ah (au h false 1 x7) fun v86=>ah (aH 0 v56) fun v87=>ah (au h false 1 v87) fun xZ=>ah (fC h (.leaf .str) false (.int .i64 0) v86 xZ) fun v89=>ah (aR .add v89 (.int .i64 1)) fun v90=>bP (unit (kQ h (.leaf .str) v86 xZ v90)) fun _ h=>ah (au h false 1 x7) fun v92=>ah (aH 0 v56) fun v93=>ah (au h false 1 v93) fun v94=>ah (fC h (.leaf .str) false (.int .i64 0) v92 v94) fun v95=>ah (aR .gtr v95 (.int .i64 1)) fun v96=>aZ v96 (K (.bool false) h) (ah (au h false 1 x8) fun v97=>ah (aR .add v97 (.int .i64 1)) fun v98=>bP (unit (bT h 1 x8 v98)) fun _ h=>ah (aR .add x60 (.int .i64 1)) fun v100=>B43 x2 x7 x8 x58 x59 v100 h)))) (Km call n x8 h K)
abbrev Zu (call':ay) (n:Nat) (K':aC):=Ld call' n Mt (pG QO.res K')
abbrev Qs (call':ay) (n:Nat) (K':aC):=ny 4 (Zu call' n K')
abbrev Wi (call':ay) (n:Nat) (K':aC) (m:Nat) (B:F6):Prop:=∀(x2 x7 x8 x58 x59 x60:AV) (h:aj) (ρ:dY),Has ρ [(2,x2),(7,x7),(8,x8),(58,x58),(59,x59),(60,x60)]→B x2 x7 x8 x58 x59 x60 h=true→iter (dU call' n Al) (Qs call' n K') m ⟨ρ,h⟩=true
abbrev ZK (call':ay) (n:Nat) (K':aC) (m43:Nat):=uZ call' n Al (Qs call' n K') m43
set_option maxRecDepth 100000 in
theorem Ol (hc:Le call call') (hK:Ef K K') {m43:Nat} {B43:F6} (hB43:Wi call' n K' m43 B43) (H:Has ρ [(2,x2),(7,x7),(8,x8),(58,x58),(59,x59),(60,x60)]) (s:F9 call n B43 x2 x7 x8 x58 x59 x60 h K=true):dU call' n Al ⟨ρ,h⟩ (ZK call' n K' m43)=true:=
 fD (gD (dJ H rfl s fun _ s H=>gG (fH (fD (oH H rfl s (fun s=>qg (fH (fD (kE (fD (gD (dJ H rfl s fun _ s H=>dJ H rfl s fun _ s H=>lG H rfl s fun _ _ s H=>jT H rfl s fun _ _ s H=>gG (fH (fD (fD (gD (dJ H rfl s fun _ s H=>dJ H rfl s fun _ s H=>wD hc H rfl s fun _ _ s H=>dJ H rfl s fun _ s H=>kH H rfl fun H=>dM H rfl rfl s fun _ s H=>dM H rfl rfl s fun _ s H=>dM H rfl rfl s fun _ s H=>dJ H rfl s fun _ s H=>kH H rfl fun H=>dM H rfl rfl s fun _ s H=>dM H rfl rfl s fun _ s H=>dM H rfl rfl s fun _ s H=>dJ H rfl s fun _ s H=>kH H rfl fun H=>dM H rfl rfl s fun _ s H=>dM H rfl rfl s fun _ s H=>dM H rfl rfl s fun _ s H=>dM H rfl rfl s fun _ s H=>dM H rfl rfl s fun _ s H=>dM H rfl rfl s fun _ s H=>dM H rfl rfl s fun _ s H=>dJ H rfl s fun _ s H=>gG (fH (oH H rfl s (fun s=>fD (gD (kH H rfl fun H=>gG (fH (tQ (iN (iI (iN (qV (iI (iN (lu H rfl hK s)))))))))))) (fun s=>qg (fH (fD (fD (gD (dJ H rfl s fun _ s H=>dJ H rfl s fun _ s H=>dJ H rfl s fun _ s H=>kH H rfl fun H=>dM H rfl rfl s fun _ s H=>dM H rfl rfl s fun _ s H=>tH hc H rfl rfl s fun _ _ s H=>dM H rfl rfl s fun _ s H=>dJ H rfl s fun _ s H=>gG (fH (oH H rfl s (fun s=>fD (gD (kH H rfl fun H=>gG (fH (tQ (iN (iI (iN (qV (iI (iN (lu H rfl hK s)))))))))))) (fun s=>qg (fH (fD (fD (gD (dJ H rfl s fun _ s H=>dJ H rfl s fun _ s H=>dJ H rfl s fun _ s H=>dJ H rfl s fun _ s H=>dJ H rfl s fun _ s H=>jT H rfl s fun _ _ s H=>gG (fH (fD (gD (dJ H rfl s fun _ s H=>dJ H rfl s fun _ s H=>dJ H rfl s fun _ s H=>dJ H rfl s fun _ s H=>dJ H rfl s fun _ s H=>gG (fH (oH H rfl s (fun s=>fD (gD (kH H rfl fun H=>gG (fH (tQ (iN (iI (iN (qV (iI (iN (lu H rfl hK s)))))))))))) (fun s=>qg (fH (gD (dJ H rfl s fun _ s H=>dJ H rfl s fun _ s H=>jT H rfl s fun _ _ s H=>gG (oh (fH (gD (dJ H rfl s fun _ s H=>kH H rfl fun H=>gG (Ke (hB43 _ _ _ _ _ _ _ _ (H.keep [2,7,8,58,59,60] rfl) s)))))))))))))))))))))))))))))))))))))))))))) (fun s=>KW (vT (tV (wm (fH (Ph hc hK (H.keep [8] rfl) s)))))))))))
def yG (call:ay) (n:Nat):Nat→AV→AV→AV→AV→AV→AV→aj→aC→Bool
 |0=>fun _ _ _ _ _ _ _ _=>false
 |m+1=>fun x2 x7 x8 x58 x59 x60 h K=>F9 call n (fun x2 x7 x8 x58 x59 x60 h=>yG call n m x2 x7 x8 x58 x59 x60 h K) x2 x7 x8 x58 x59 x60 h K
theorem EA (hc:Le call call') (hK:Ef K K'):∀(m:Nat) (x2 x7 x8 x58 x59 x60:AV) (h:aj) (ρ:dY),Has ρ [(2,x2),(7,x7),(8,x8),(58,x58),(59,x59),(60,x60)]→yG call n m x2 x7 x8 x58 x59 x60 h K=true→iter (dU call' n Al) (Qs call' n K') m ⟨ρ,h⟩=true
 |0,_,_,_,_,_,_,_,_,_,s=>nomatch s
 |m+1,_,_,_,_,_,_,_,_,H,s=>zU (Ol hc hK (fun x2 x7 x8 x58 x59 x60 h ρ H s=>EA hc hK m x2 x7 x8 x58 x59 x60 h ρ H s) H s)
def Mv (call:ay) (n:Nat) (x2 x4 x7 x8:AV) (h:aj) (K:aC):Bool:=
 ah (aH 2 x4) fun v50=>ah (au h false 1 v50) fun v51=>ah (dw h 1 v51) fun v52=>yG call n n x2 x7 x8 v51 v52 (.int .i64 0) h K
theorem Ov (hc:Le call call') (hK:Ef K K') (H:Has ρ [(2,x2),(4,x4),(7,x7),(8,x8)]) (s:Mv call n x2 x4 x7 x8 h K=true):dU call' n RN ⟨ρ,h⟩ (pG QO.res K')=true:=
 fD (fD (gD (dJ H rfl s fun _ s H=>dJ H rfl s fun _ s H=>dJ H rfl s fun _ s H=>kH H rfl fun H=>gG (fH (kE (Gp (EA hc hK n _ _ _ _ _ _ _ _ (H.keep [2,7,8,58,59,60] rfl) s)))))))
def GD (call:ay) (n:Nat) (x0 x2 x4:AV) (h:aj) (K:aC):Bool:=
 bP (qN h) fun v22 h=>bP (fG h [.nilMap]) fun v23 h=>bP (unit (bT h 1 v23 v22)) fun _ h=>bP (fG h [.int .i64 0]) fun v25 h=>bP (unit (bT h 1 v25 (.int .i64 0))) fun _ h=>ah (aH 1 x4) fun v27=>ah (au h false 1 v27) fun v28=>call (.func 55) [x0,v28] h fun v29 h=>VT call v29 (FI [(2,x2),(4,x4),(7,v23),(8,v25),(40,v29)]) [41] mZ ni h fun ex h=>match ex with | .normal=>Mv call n x2 x4 v23 v25 h K | .ret=>false | .exit i=>false | .goto _=>false
theorem O9 (hc:Le call call') (hK:Ef K K') (H:Has ρ [(0,x0),(2,x2),(4,x4)]) (s:GD call n x0 x2 x4 h K=true):dU call' n Ry ⟨ρ,h⟩ (pG QO.res K')=true:=
 fD (gD (lG H rfl s fun _ _ s H=>lG H rfl s fun _ _ s H=>jT H rfl s fun _ _ s H=>gG (fH (fD (gD (lG H rfl s fun _ _ s H=>jT H rfl s fun _ _ s H=>gG (fH (fD (fD (gD (kH H rfl fun H=>dJ H rfl s fun _ s H=>dJ H rfl s fun _ s H=>wD hc H rfl s fun _ _ s H=>gG (fH (kE (KG H rfl fun H=>Yz hc H rfl s fun ex h s=>match ex,s with | .normal,s=>oh (fH (Ov hc hK (H.keep [2,4,7,8] rfl) s))| .ret,s=>nomatch s | .exit i,s=>nomatch s | .goto _,s=>nomatch s))))))))))))))
def s51 (call:ay) (n:Nat) (x0 x1 x2:AV) (h:aj) (K:aC):Bool:=
 bP (iY h 3 x1) fun v1 h=>ah (aH 0 v1) fun v2=>ah (au h false 1 v2) fun v3=>call (.func 78) [v3] h fun v4 h=>ah (fT v4) fun v5=>ah (aQ (aB v5 false) (some x0)) fun v6=>ah (aQ (aB v5 false) (aH 0 v1)) fun v7=>ah (aQ (aB v5 false) (au h false 1 v7)) fun v8=>ji (aB v5 false) (fun k=>call (.func 54) [v6,v8] h k) h fun v9 h=>ah (cB v5 (.bool true) v9) fun v10=>ah (aQ (aB v10 false) (aH 1 v1)) fun v11=>ah (aQ (aB v10 false) (au h false 1 v11)) fun v12=>ah (aQ (aB v10 false) (aR .neq v12 (.str []))) fun v13=>ah (aQ (aB v10 false) (some v13)) fun v14=>ah (aQ (aB v14 true) (some x0)) fun v15=>ah (aQ (aB v14 true) (aH 1 v1)) fun v16=>ah (aQ (aB v14 true) (au h false 1 v16)) fun v17=>ji (aB v14 true) (fun k=>call (.func 54) [v15,v17] h k) h fun v18 h=>ah (aQ (aB v14 true) (fT v18)) fun v19=>ah (aQ (aB v10 false) (cB v14 v19 (.bool false))) fun v20=>ah (cB v10 (.bool true) v20) fun v21=>aZ v21 (K (.bool false) h) (GD call n x0 x2 v1 h K)
theorem WY (hc:Le call call') (hK:Ef K K') (H:Has ρ [(2,x2),(1,x1),(0,x0)]) (s:s51 call n x0 x1 x2 h K=true):dU call' n QO.body ⟨ρ,h⟩ (pG QO.res K')=true:=
 fD (gD (lG H rfl s fun _ _ s H=>kH H rfl fun H=>gG (fH (fD (fD (gD (dJ H rfl s fun _ s H=>dJ H rfl s fun _ s H=>wD hc H rfl s fun _ _ s H=>dJ H rfl s fun _ s H=>kH H rfl fun H=>dM H rfl rfl s fun _ s H=>dM H rfl rfl s fun _ s H=>dM H rfl rfl s fun _ s H=>tH hc H rfl rfl s fun _ _ s H=>dJ H rfl s fun _ s H=>kH H rfl fun H=>dM H rfl rfl s fun _ s H=>dM H rfl rfl s fun _ s H=>dM H rfl rfl s fun _ s H=>dM H rfl rfl s fun _ s H=>dM H rfl rfl s fun _ s H=>dM H rfl rfl s fun _ s H=>dM H rfl rfl s fun _ s H=>tH hc H rfl rfl s fun _ _ s H=>dM H rfl rfl s fun _ s H=>dM H rfl rfl s fun _ s H=>dJ H rfl s fun _ s H=>gG (fH (oH H rfl s (fun s=>fD (gD (kH H rfl fun H=>gG (fH (tQ (iN (lu H rfl hK s))))))) (fun s=>qg (fH (O9 hc hK (H.keep [0,2,4] rfl) s))))))))))))
def w51:Sh:=fun call n args h K=>match args with
 | [x0,x1,x2]=>s51 call n x0 x1 x2 h K
 |_=>false
theorem Xb {E:Env} (e:E.code 51=some QO):eT E 51 w51:=fun call call' n args h K K' hc hK s=>
 match args,s with
 | [x0,x1,x2],s=>⟨QO,e,rfl,WY hc hK (((Has.nil.set 0 x0).set 1 x1).set 2 x2) s⟩
 | [],s=>nomatch s
 | [_],s=>nomatch s
 | [_,_],s=>nomatch s
 |_ :: _ :: _ :: _ :: _,s=>nomatch s
def s55 (call:ay) (n:Nat) (x0 x1:AV) (h:aj) (K:aC):Bool:=
 bP (iY h 1 x0) fun v1 h=>bP (iY h 1 x1) fun v2 h=>ah (some (.fn (.func 81) [] [v1,v2])) fun v3=>K v3 h
theorem YI (hc:Le call call') (hK:Ef K K') (H:Has ρ [(1,x1),(0,x0)]) (s:s55 call n x0 x1 h K=true):dU call' n VK.body ⟨ρ,h⟩ (pG VK.res K')=true:=
 fD (gD (lG H rfl s fun _ _ s H=>lG H rfl s fun _ _ s H=>kH H rfl fun H=>gG (fH (fD (gD (dJ H rfl s fun _ s H=>kH H rfl fun H=>gG (fH (tQ (lu H rfl hK s)))))))))
def w55:Sh:=fun call n args h K=>match args with
 | [x0,x1]=>s55 call n x0 x1 h K
 |_=>false
theorem Ym {E:Env} (e:E.code 55=some VK):eT E 55 w55:=fun call call' n args h K K' hc hK s=>
 match args,s with
 | [x0,x1],s=>⟨VK,e,rfl,YI hc hK ((Has.nil.set 0 x0).set 1 x1) s⟩
 | [],s=>nomatch s
 | [_],s=>nomatch s
 |_ :: _ :: _ :: _,s=>nomatch s
def Tz (call:ay) (n:Nat) (B3:F4) (x0 x1 x4 x5:AV) (h:aj) (K:aC):Bool:=
 aZ x5 (ah (au h false 1 x1) fun v9=>ah (bK v9) fun v10=>ah (aH 0 v10) fun v11=>ah (au h false 1 v11) fun v12=>ah (bS h 3 v12 x4) fun v13=>ah (au h true 3 v13) fun v14=>kg call x0 [v14] h fun v15 h=>ah (fT v15) fun v16=>aZ v16 (K (.tup []) h) (ah (au h false 1 x1) fun v17=>ah (bK v17) fun v18=>ah (aH 1 v18) fun v19=>ah (au h false 1 v19) fun v20=>ah (au h false 1 x1) fun v21=>ah (bK v21) fun v22=>ah (aH 0 v22) fun v23=>ah (au h false 1 v23) fun v24=>ah (bS h 3 v24 x4) fun v25=>ah (aH 1 v25) fun v26=>ah (au h false 1 v26) fun v27=>ah (fC h (.leaf .str) true (.int .i64 0) v20 v27) fun v28=>ah (gX 0 v28) fun v29=>ah (gX 1 v28) fun v30=>B3 x0 x1 v29 v30 h)) (K (.tup []) h)
abbrev SX (call':ay) (n:Nat) (K':aC):=ny 0 (pG Vr.res K')
abbrev Zc (call':ay) (n:Nat) (K':aC) (m:Nat) (B:F4):Prop:=∀(x0 x1 x4 x5:AV) (h:aj) (ρ:dY),Has ρ [(0,x0),(1,x1),(4,x4),(5,x5)]→B x0 x1 x4 x5 h=true→iter (dU call' n IG) (SX call' n K') m ⟨ρ,h⟩=true
abbrev aaA (call':ay) (n:Nat) (K':aC) (m3:Nat):=uZ call' n IG (SX call' n K') m3
theorem Rz (hc:Le call call') (hK:Ef K K') {m3:Nat} {B3:F4} (hB3:Zc call' n K' m3 B3) (H:Has ρ [(0,x0),(1,x1),(4,x4),(5,x5)]) (s:Tz call n B3 x0 x1 x4 x5 h K=true):dU call' n IG ⟨ρ,h⟩ (aaA call' n K' m3)=true:=
 fD (fD (gD (kH H rfl fun H=>gG (fH (oH H rfl s (fun s=>qg (fH (fD (kE (fD (gD (kH H rfl fun H=>dJ H rfl s fun _ s H=>dJ H rfl s fun _ s H=>dJ H rfl s fun _ s H=>dJ H rfl s fun _ s H=>kH H rfl fun H=>dJ H rfl s fun _ s H=>dJ H rfl s fun _ s H=>U5 hc H rfl rfl s fun _ _ s H=>dJ H rfl s fun _ s H=>gG (fH (oH H rfl s (fun s=>tQ (iI (iN (qV (iI (lu H rfl hK s)))))) (fun s=>qg (oh (fH (KC (Df H rfl s fun _ s H=>Df H rfl s fun _ s H=>Df H rfl s fun _ s H=>Df H rfl s fun _ s H=>Df H rfl s fun _ s H=>Df H rfl s fun _ s H=>Df H rfl s fun _ s H=>Df H rfl s fun _ s H=>Y0 H rfl fun H=>Df H rfl s fun _ s H=>Df H rfl s fun _ s H=>Df H rfl s fun _ s H=>Df H rfl s fun _ s H=>Y0 H rfl fun H=>Df H rfl s fun _ s H=>Df H rfl s fun _ s H=>Bj (Q9 (Fz H rfl fun H=>dk (Dw (Y0 H rfl fun H=>Bj (VG (Ke (hB3 _ _ _ _ _ _ (H.keep [0,1,4,5] rfl) s))))))))))))))))))))) (fun s=>KW (vT (tV (wm (BQ H rfl hK s))))))))))
def Jp (call:ay) (n:Nat):Nat→AV→AV→AV→AV→aj→aC→Bool
 |0=>fun _ _ _ _ _ _=>false
 |m+1=>fun x0 x1 x4 x5 h K=>Tz call n (fun x0 x1 x4 x5 h=>Jp call n m x0 x1 x4 x5 h K) x0 x1 x4 x5 h K
theorem Ik (hc:Le call call') (hK:Ef K K'):∀(m:Nat) (x0 x1 x4 x5:AV) (h:aj) (ρ:dY),Has ρ [(0,x0),(1,x1),(4,x4),(5,x5)]→Jp call n m x0 x1 x4 x5 h K=true→iter (dU call' n IG) (SX call' n K') m ⟨ρ,h⟩=true
 |0,_,_,_,_,_,_,_,s=>nomatch s
 |m+1,_,_,_,_,_,_,H,s=>zU (Rz hc hK (fun x0 x1 x4 x5 h ρ H s=>Ik hc hK m x0 x1 x4 x5 h ρ H s) H s)
def s81 (call:ay) (n:Nat) (x0 x1 x2:AV) (h:aj) (K:aC):Bool:=
 ah (au h false 1 x1) fun v1=>ah (bK v1) fun v2=>ah (aH 1 v2) fun v3=>ah (au h false 1 v3) fun v4=>ah (au h false 1 x2) fun v5=>ah (fC h (.leaf .str) true (.int .i64 0) v4 v5) fun v6=>ah (gX 0 v6) fun v7=>ah (gX 1 v6) fun v8=>Jp call n n x0 x1 v7 v8 h K
theorem YG (hc:Le call call') (hK:Ef K K') (H:Has ρ [(2,x2),(1,x1),(0,x0)]) (s:s81 call n x0 x1 x2 h K=true):dU call' n Vr.body ⟨ρ,h⟩ (pG Vr.res K')=true:=
 fD (KC (Df H rfl s fun _ s H=>Df H rfl s fun _ s H=>Df H rfl s fun _ s H=>Df H rfl s fun _ s H=>Df H rfl s fun _ s H=>Df H rfl s fun _ s H=>Y0 H rfl fun H=>Df H rfl s fun _ s H=>Df H rfl s fun _ s H=>Y0 H rfl fun H=>Y0 H rfl fun H=>Bj (VG (fH (kE (Gp (Ik hc hK n _ _ _ _ _ _ (H.keep [0,1,4,5] rfl) s)))))))
def w81:Sh:=fun call n args h K=>match args with
 | [x0,x1,x2]=>s81 call n x0 x1 x2 h K
 |_=>false
theorem XV {E:Env} (e:E.code 81=some Vr):eT E 81 w81:=fun call call' n args h K K' hc hK s=>
 match args,s with
 | [x0,x1,x2],s=>⟨Vr,e,rfl,YG hc hK (((Has.nil.set 0 x0).set 1 x1).set 2 x2) s⟩
 | [],s=>nomatch s
 | [_],s=>nomatch s
 | [_,_],s=>nomatch s
 |_ :: _ :: _ :: _ :: _,s=>nomatch s
def SB (call:ay) (n:Nat) (id:Nat) (x5 x6 x10 x11:AV) (h:aj) (K:aC):Bool:=
 bP (fG h [.str [], .str [], .nilSlc]) fun v4 h=>bP (unit (bT h 3 v4 x11)) fun _ h=>wV id h fun h=>ah (aH 0 v4) fun v6=>ah (au h false 1 v6) fun v7=>ah (au h false 1 x5) fun v8=>ah (aR .eql v7 v8) fun v9=>aZ v9 (bP (unit (bT h 1 x6 (.bool true))) fun _ h=>wW id K .ret h) (wW id K .normal h)
theorem RJ (hc:Le call call') (hK:Ef K K') (H:Has ρ [(11,x11),(5,x5),(6,x6),(10,x10)]) (s:SB call n id x5 x6 x10 x11 h K=true):dU call' n kP ⟨ρ,h⟩ (LK call' n id kV K')=true:=
 gD (lG H rfl s fun _ _ s H=>jT H rfl s fun _ _ s H=>gG (TJ s fun h s=>kE (fD (gD (dJ H rfl s fun _ s H=>dJ H rfl s fun _ s H=>dJ H rfl s fun _ s H=>dJ H rfl s fun _ s H=>gG (fH (oH H rfl s (fun s=>fD (gD (jT H rfl s fun _ _ s H=>gG (fH (tQ (iI (Fh hK s))))))) (fun s=>qg (oh (Fh hK s))))))))))
theorem Ot {E:Env} (hp:vU E) {n id:Nat} {x5 x6 x10 x11:AV} {h:aj} {K:aC} (hg:h.get id=some (.loop {regs:=FI [(5,x5),(6,x6),(10,x10)],ps:=[11],asg:=kP,body:=kV,st:= .ready})) (s:SB (aD E n) n id x5 x6 x10 x11 h K=true):aD E (n+1) (.yield id) [x11] h K=true:=
 wC hg rfl (RJ (tK hp n) (fun _ _ h=>h) (Has.mk.set 11 _) s)
def Ky (call:ay) (n:Nat) (x6:AV) (h:aj) (K:aC):Bool:=
 bP (unit (bT h 1 x6 (.bool false))) fun _ h=>vM (mq h [(x6,some (false,1))]) h K
theorem OB (hc:Le call call') (hK:Ef K K') (H:Has ρ [(6,x6)]) (s:Ky call n x6 h K=true):dU call' n Rw ⟨ρ,h⟩ (pG VH.res K')=true:=
 fD (gD (jT H rfl s fun _ _ s H=>gG (fH (tQ (lu H rfl hK s)))))
def s83 (call:ay) (n:Nat) (x0 x1 x2:AV) (h:aj) (K:aC):Bool:=
 bP (iY h 1 x2) fun v1 h=>bP (fG h [.bool false]) fun v2 h=>call (.func 55) [x0,x1] h fun v3 h=>VT call v3 (FI [(5,v1),(6,v2),(10,v3)]) [11] kP kV h fun ex h=>match ex with | .normal=>Ky call n v2 h K | .ret=>vM (mq h [(v2,some (false,1))]) h K | .exit i=>false | .goto _=>false
theorem WX (hc:Le call call') (hK:Ef K K') (H:Has ρ [(2,x2),(1,x1),(0,x0)]) (s:s83 call n x0 x1 x2 h K=true):dU call' n VH.body ⟨ρ,h⟩ (pG VH.res K')=true:=
 fD (gD (lG H rfl s fun _ _ s H=>lG H rfl s fun _ _ s H=>gG (fH (fD (fD (gD (kH H rfl fun H=>kH H rfl fun H=>wD hc H rfl s fun _ _ s H=>gG (fH (kE (KG H rfl fun H=>Yz hc H rfl s fun ex h s=>match ex,s with | .normal,s=>oh (fH (OB hc hK (H.keep [6] rfl) s))| .ret,s=>iI (iN (lu H rfl hK s))| .exit i,s=>nomatch s | .goto _,s=>nomatch s))))))))))
def w83:Sh:=fun call n args h K=>match args with
 | [x0,x1,x2]=>s83 call n x0 x1 x2 h K
 |_=>false
theorem Yq {E:Env} (e:E.code 83=some VH):eT E 83 w83:=fun call call' n args h K K' hc hK s=>
 match args,s with
 | [x0,x1,x2],s=>⟨VH,e,rfl,WX hc hK (((Has.nil.set 0 x0).set 1 x1).set 2 x2) s⟩
 | [],s=>nomatch s
 | [_],s=>nomatch s
 | [_,_],s=>nomatch s
 |_ :: _ :: _ :: _ :: _,s=>nomatch s
end Go.Proofs.YthmnnlpbnhkhkaaGreat
namespace Go.Ab
abbrev Prim:=ay→Nat→List AV→aj→aC→Bool
def Nl:List (Nat×Prim)→Nat→Option Prim
 | [],_=>none
 |(k,p) :: l,f=>bif Nat.beq k f then some p else Nl l f
def UN (Uc:List (Nat×dW)) (ps:List (Nat×Prim)):Env:={code:=NU Uc,prim:=Nl ps}
theorem yB {f:Nat} {p:Prim}:∀{l:List (Nat×Prim)},Nl l f=some p→(f,p)∈l
 | [],h=>by cases h
 |(k,x) :: l,h=>by
  simp only[Nl] at h
  cases hb:Nat.beq k f with
  |true=>
   rw[hb,cond_true] at h
   cases h
   rw[Nat.eq_of_beq_eq_true hb]
   exact List.mem_cons_self
  |false=>
   rw[hb,cond_false] at h
   exact List.mem_cons_of_mem _ (yB h)
def JD (p:Prim):Prop:=∀(call call':ay) n args h (K K':aC),Le call call'→(∀v h',K v h'=true→K' v h'=true)→p call n args h K=true→p call' n args h K'=true
def uS:List (Nat×Prim)→Prop
 | []=>True
 |(_,p) :: l=>JD p∧uS l
theorem uS.mem:∀{l:List (Nat×Prim)},uS l→∀k p,(k,p)∈l→JD p
 | [],_,_,_,h=>by cases h
 |(k,q) :: l,⟨h1,h2⟩,k',p,h=>by
  rcases List.mem_cons.1 h with e |h
  ·cases e;exact h1
  ·exact uS.mem h2 k' p h
theorem UR {Uc:List (Nat×dW)} {ps:List (Nat×Prim)} (h:uS ps):vU (UN Uc ps):=fun f p hp=>h.mem f p (yB hp)
def rH (P:Program):List (Nat×Prim)→Prop
 | []=>True
 |(k,p) :: l=>uh P k p∧rH P l
theorem rH.mem {P:Program}:∀{l:List (Nat×Prim)},rH P l→∀k p,(k,p)∈l→uh P k p
 | [],_,_,_,h=>by cases h
 |(k,q) :: l,⟨h1,h2⟩,k',p,h=>by
  rcases List.mem_cons.1 h with e |h
  ·cases e;exact h1
  ·exact rH.mem h2 k' p h
theorem ND {P:Program} {Uc:List (Nat×dW)} {ps:List (Nat×Prim)} (h:BF P Uc) (hp:rH P ps):Ej P (UN Uc ps):=
 ⟨fun f p e=>hp.mem f p (yB e),fun f fn hf=>h.mem f fn (Eh hf)⟩
open Go.Proofs
open Go.Shelf Go.RowKit Go.Lib
variable {P:Program} {ρ:Ren}
set_option maxHeartbeats 4000000 in
set_option maxRecDepth 100000 in
theorem SL (L:Lays2.n21 P ρ) (b off n c i vb voff m vc:Nat) (cs vs:List Value) (w:World) (hi:i<n) (hm:0<m) (hroom:n+m≤c) (hn63:n+m≤9223372036854775807) (hvb:vb≠b)
 (hcl:cs.length=n) (hvl:vs.length=m)
 (hcs:∀j v,cs[j]? =some v→w.cell? ⟨b,off+j,none⟩=some v) (hsp:∀j,j<n+m→(w.cell? ⟨b,off+j,none⟩).isSome=true) (hfz:∀j,j<n+m→w.frozen? ⟨b,off+j,none⟩=false)
 (hvs:∀j v,vs[j]? =some v→w.cell? ⟨vb,voff+j,none⟩=some v) (h1c:∀v∈cs,v.oneCell'=true) (h1v:∀v∈vs,v.oneCell'=true)
 (tA tB:TypeId) (kA kB:Nat) (hsa:w.shape? vb=some (tA,kA)) (hsb:w.shape? b=some (tB,kB)) (hkB:kB≠0) (hfa:w.frozen? ⟨vb,voff,none⟩=false) (hfe:w.frozen? ⟨vb,kA,none⟩=false):
 Calls P (ρ.f 21) #[.slice (some ⟨b,off,none⟩) n c, .int .i64 i, .slice (some ⟨vb,voff,none⟩) m vc] w fun e w'=>
  e= .returned (.slice (some ⟨b,off,none⟩) (n+m) c)∧w'=(w.drew.setCells b (off+(i+m)) (cs.drop i)).setCells b (off+i) vs:=by
 have t0:=L.t0;have a0:=L.a0;have z0:=L.z0;have v0:=L.v0;have t3:=L.t3;have a3:=L.a3;have z3:=L.z3;have v3:=L.v3;have t4:=L.t4;have a4:=L.a4;have z4:=L.z4;have v4:=L.v4;have t22:=L.t22;have a22:=L.a22;have z22:=L.z22;have v22:=L.v22
 have u0:=run_underlying L.t0;have u3:=run_underlying L.t3;have u4:=run_underlying L.t4;have u22:=run_underlying L.t22
 have hz1:¬((m:Int)=0):=by omega
 have hz2:¬((i:Int)=(n:Int)):=by omega
 have hsz:(P.info? (ρ.t 3)).map (·.size)=some 1:=by
  obtain⟨i0,hi0,h0,h1,h2⟩:=info_parts L.i3
  rw[hi0];simp[h1]
 have hov:∀lb cb,(callFunc (ρ.f 27) #[.slice (some ⟨vb,voff,none⟩) m vc, .slice (some ⟨b,off+(i+m),none⟩) lb cb]).run P w= .ok (.value (.bool false)) w:=fun lb cb=>by
  rw[run_callFunc_extern L.f27 (by kernel_rfl) (by kernel_rfl) (by kernel_rfl) (e:=Extern.SlicesOverlaps.overlaps #[(ρ.t 22),(ρ.t 22)] #[(ρ.t 4)]) (by kernel_rfl),
   Lib.run_overlaps_apart w (ρ.t 22) (ρ.t 4) (ρ.t 3) L.t22 1 L.z3 ⟨vb,voff,none⟩ ⟨b,off+(i+m),none⟩ m vc lb cb hvb tA tB kA kB hsa hsb hkB hfa hfe]
  rfl
 have hdl:(cs.drop i).length=n-i:=by rw[List.length_drop,hcl]
 have mixed:=L.mixed
 have hw1:IntKind.i64.wrap ((i:Int)+(m:Int))=(i:Int)+(m:Int):=by rw[IntKind.wrap_i64];omega
 have hb1:(0:Int)≤(i:Int)+(m:Int):=by omega
 have hin:i≤n:=by omega
 have htn:((i:Int)+(m:Int)).toNat=i+m:=by omega
 have hb2:¬(c=i+m):=by omega
 have hb3:(i:Int)≤(n:Int)+(m:Int):=by omega
 have hb4:¬(c=i):=by omega
 have hcp1:∀ty dc sc,(Builtin.copy_ #[(ρ.t 22),(ρ.t 22)] ty #[.slice (some ⟨b,off+(i+m),none⟩) (n+m-(i+m)) dc, .slice (some ⟨b,off+i,none⟩) (n+m-i) sc]).run P w.drew= .ok (goInt (cs.drop i).length) (w.drew.setCells b (off+(i+m)) (cs.drop i)):=fun ty dc sc=>
  run_copy_cells w.drew _ _ ty (ρ.t 3) b (off+(i+m)) (n+m-(i+m)) dc ⟨b,off+i,none⟩ (n+m-i) sc (cs.drop i) L.t22 hsz (by rw[hdl];simp only[Nat.min_def];split<;>omega)
   (fun j v hj=>by rw[Addr.add_lit,Nat.add_assoc];exact hcs (i+j) v (by rwa [List.getElem?_drop] at hj))
   (fun j hj=>by rw[Nat.add_assoc];exact hsp _ (by omega)) (fun j hj=>by rw[Nat.add_assoc];exact hfz _ (by omega)) (fun v hv=>h1c v (List.mem_of_mem_drop hv))
 obtain⟨W1,hW1⟩:∃W1,W1=w.drew.setCells b (off+(i+m)) (cs.drop i):=⟨_,rfl⟩
 have hsp1:∀k,k<n+m→(W1.cell? ⟨b,off+k,none⟩).isSome=true:=fun k hk=>by
  rw[hW1]
  exact isSome_setCells b _ _ _ (fun j hj=>by rw[Nat.add_assoc];exact hsp _ (by omega)) _ (hsp k hk)
 have hcp2:∀(W:World),(∀x,W.cell? x=W1.cell? x)→(∀x,W.frozen? x=W1.frozen? x)→∀ty dc,(Builtin.copy_ #[(ρ.t 22),(ρ.t 22)] ty #[.slice (some ⟨b,off+i,none⟩) (n+m-i) dc, .slice (some ⟨vb,voff,none⟩) m vc]).run P W= .ok (goInt vs.length) (W.setCells b (off+i) vs):=fun W hWc hWf ty dc=>
  run_copy_cells W _ _ ty (ρ.t 3) b (off+i) (n+m-i) dc ⟨vb,voff,none⟩ m vc vs L.t22 hsz (by rw[hvl];simp only[Nat.min_def];split<;>omega)
   (fun j v hj=>by
     rw[Addr.add_lit,hWc,hW1,World.cell?_setCells_out b _ _ _ _ (fun h _=>absurd h hvb)]
     exact hvs j v hj)
   (fun j hj=>by rw[hWc,Nat.add_assoc];exact hsp1 _ (by omega)) (fun j hj=>by rw[hWf,hW1,World.frozen?_setCells,Nat.add_assoc];exact hfz _ (by omega)) h1v
 rw[←hW1] at hcp1
 go_enter L.f21,Body2.n21_ntmps ρ
 go_wp2_with (simp only[hov])
 go_region_law_o (refine step_copy_runI rfl _ _ (ρ.t 22) (ρ.t 22) rfl _ _ (by simp[Act.eval,Act.put]) (by simp[Act.eval,Act.put]) (hcp1 _ _ _) ?_)
 go_wp2_with (at_builtin;refine wpList_copy_runI _ rfl _ _ (ρ.t 22) (ρ.t 22) rfl _ _ rfl rfl (hcp2 _ (fun _=>rfl) (fun _=>rfl) _ _) ?_)
 go_ret
 first |exact⟨rfl,rfl⟩|exact⟨rfl,by rw[hW1]⟩
set_option maxHeartbeats 4000000 in
set_option maxRecDepth 100000 in
theorem Vd (L:Lays2.n21 P ρ) (b off n c vb voff m vc:Nat) (vs:List Value) (w:World) (hm:0<m) (hroom:n+m≤c)
 (hvl:vs.length=m) (hsp:∀j,j<m→(w.cell? ⟨b,off+n+j,none⟩).isSome=true) (hfz:∀j,j<m→w.frozen? ⟨b,off+n+j,none⟩=false)
 (hvs:∀j v,vs[j]? =some v→w.cell? ⟨vb,voff+j,none⟩=some v) (h1v:∀v∈vs,v.oneCell'=true):
 Calls P (ρ.f 21) #[.slice (some ⟨b,off,none⟩) n c, .int .i64 n, .slice (some ⟨vb,voff,none⟩) m vc] w fun e w'=>
  e= .returned (.slice (some ⟨b,off,none⟩) (n+m) c)∧w'=w.setCells b (off+n) vs:=by
 have t0:=L.t0;have a0:=L.a0;have z0:=L.z0;have v0:=L.v0;have t3:=L.t3;have a3:=L.a3;have z3:=L.z3;have v3:=L.v3;have t4:=L.t4;have a4:=L.a4;have z4:=L.z4;have v4:=L.v4;have t22:=L.t22;have a22:=L.a22;have z22:=L.z22;have v22:=L.v22
 have u0:=run_underlying L.t0;have u3:=run_underlying L.t3;have u4:=run_underlying L.t4;have u22:=run_underlying L.t22
 have mixed:=L.mixed
 have hz1:¬((m:Int)=0):=by omega
 have hsrc:Src P 1 (ρ.t 22) (.slice (some ⟨vb,voff,none⟩) m vc) m vs w:=Src.ofSlice w L.t22 ⟨vb,voff,none⟩ m vc vs (by omega) (fun j u hj=>by rw[Addr.add_lit];exact hvs j u hj) h1v
 go_enter L.f21,Body2.n21_ntmps ρ
 go_wp2_with (at_builtin;refine wpList_append_room1 _ rfl _ _ (ρ.t 22) (ρ.t 22) rfl (ρ.t 3) _ _ L.t22 L.i3 b off n c rfl _ rfl m vs hsrc hroom (by rw[hvl];exact hsp) (by rw[hvl];exact hfz) ?_)
 go_ret
 exact⟨rfl,rfl⟩
end Go.Ab
namespace Go.Ab
open Go.Shelf
open Go.Proofs (Any2.slices_Insert_int_end_grow Any2.slices_Insert_int_grow)
def Oo (r:Row) (g st len i id vid:Nat):Bool:=r.rw&&Nat.beq g r.g&&Nat.beq st 0&&Nat.beq r.sz 1&&Nat.ble len r.es.length&&Nat.ble i len&&Nat.blt len 1000000000&& !(Nat.beq id vid)
def MF (s:AV) (i vid:Nat) (a:Int) (h:aj) (K:aC):Bool:=
 match s with
 | .nilSlc=>bif Nat.beq i 0 then K (.slc h.sz 0 0 1 1 false) (newRow h [[.int .i64 a]] 1) else false
 | .slc id g st len cap ex=>match h.row id with
   |some r=>bif Oo r g st len i id vid then
     K (.slc id (r.g+1) 0 (len+1) (len+1) false) (h.put id (.row {r with es:=(r.es.take len).take i++[[.int .i64 a]]++(r.es.take len).drop i,g:=r.g+1,m:=r.g+1,ty:=none}))
    else false
   |none=>false
 |_=>false
def zL:Prim:=fun _ _ args h K=>match args with
 | [s, .int .i64 (.ofNat i), .slc vid vg vs vl vc vex]=>
   match source h 1 (.slc vid vg vs vl vc vex),h.row vid with
   |some [[.int .i64 a]],some rv=>bif rv.rw&&Nat.beq vg rv.g then MF s i vid a h K else false
   |_,_=>false
 |_=>false
theorem Px {s:AV} {i vid:Nat} {a:Int} {h:aj} {K K':aC} (hK:∀v h',K v h'=true→K' v h'=true) (q:MF s i vid a h K=true):MF s i vid a h K'=true:=by
 unfold MF at q ⊢
 split at q
 ·cases hb:Nat.beq i 0 with
  |false=>rw[hb] at q;cases q
  |true=>rw[hb] at q;exact hK _ _ q
 ·split at q
  ·rename_i id g st len cap ex _ r hr
   cases hc:Oo r g st len i id vid with
   |false=>rw[hc] at q;cases q
   |true=>rw[hc] at q;exact hK _ _ q
  ·cases q
 ·cases q
theorem OQ:JD zL:=by
 intro call call' n args h K K' _ hK q
 unfold zL at q ⊢
 split at q
 ·split at q
  ·rename_i vid vg _ _ _ _ _ _ _ rv _ _
   cases hc:(rv.rw&&Nat.beq vg rv.g) with
   |false=>rw[hc] at q;cases q
   |true=>rw[hc] at q;exact Px hK q
  ·cases q
 ·cases q
section
variable {P:Program} {B:Base} {φ:eO} {h:aj} {w:World} {ρ:Ren}
theorem GQ (P:Program) {b o:Nat} {t:TypeId} {c:Array Value} {vs:List Value} (hb:w.heap[b]? =some (.cells c t (0,0))) (hf:o+vs.length≤c.size) (h1:∀v∈vs,v.oneCell'=true):
 w.setCells b o vs=w.setRow b (c.toList.take o++vs++c.toList.drop (o+vs.length)).toArray:=by
 have r1:=run_storeCells_at P b o t vs 0 c w hb (by omega) h1
 have r2:=run_storeCells_cells (P:=P) b o vs 0 w (fun j hj=>by
  rw[cell_of_row w b _ c t (0,0) hb,Array.getElem?_eq_getElem (by omega)];rfl) (fun j hj=>by simp[World.frozen?,hb]) h1
 rw[r1] at r2
 simp only[Nat.add_zero] at r2
 injection r2 with _ r2
 exact r2.symm
theorem Qn {id:Nat} {r:Row} (hr:iC φ id r w) (hsz:r.sz=1) {L:Loc} (hL:φ id r.g=some L) (hrw:r.rw=true):
 ∃(vals:List Value) (c:Array Value) (t:TypeId),vals.length=r.es.length∧dH φ r.es.flatten vals∧w.heap[L.blk]? =some (.cells c t (0,0))∧c.size=L.tot∧L.base=0∧r.es.length≤L.tot∧c.toList.take r.es.length=vals∧∀v∈vals,v.oneCell'=true:=by
 obtain⟨L',hL',hext⟩:=hr.cur
 rw[hL] at hL';cases hL'
 have hLs:L.sz=1:=by rw[(hr.gen _ L hL).2,hsz]
 obtain⟨hbase,c,t,hc,hcs,hx⟩:=hr.own hrw r.g L hr.mg hL
 have hcs':c.size=L.tot:=by rw[hcs,hLs,Nat.mul_one]
 obtain⟨_,vals,hv,hcv⟩:=hr.cells r.g L hr.mg hL
 rw[hext,List.take_of_length_le (Nat.le_refl _)] at hv
 have hvl:vals.length=r.es.length:=by rw[←hv.length,jP hr.es,hsz,Nat.mul_one]
 refine⟨vals,c,t,hvl,hv,hc,by rw[hcs,hLs,Nat.mul_one],hbase,by omega, ?_,hv.leaf (nW hr.leaf)⟩
 refine List.ext_getElem (by rw[List.length_take,Array.length_toList];omega) fun j h1 h2=> ?_
 have:=hcv j vals[j] (List.getElem?_eq_getElem h2)
 rw[hbase,Nat.zero_add,cell_of_row w L.blk _ c t (0,0) hc] at this
 simp only[List.getElem_take,Array.getElem_toList]
 have h3:=(Array.getElem?_eq_some_iff.1 this)
 exact h3.2
theorem ko (P:Program) {b o:Nat} {t:TypeId} {c:Array Value} {vs:List Value} (hb:w.heap[b]? =some (.cells c t (0,0))) (hf:o+vs.length≤c.size) (h1:∀v∈vs,v.oneCell'=true):
 ∃c',(w.setCells b o vs).heap[b]? =some (.cells c' t (0,0))∧c'.size=c.size∧(∀k,k≠b→(w.setCells b o vs).heap[k]? =w.heap[k]?)∧(w.setCells b o vs).heap.size=w.heap.size∧(w.setCells b o vs).os=w.os∧(w.setCells b o vs).tape=w.tape∧(w.setCells b o vs).output=w.output∧(w.setCells b o vs).drawn=w.drawn:=by
 rw[GQ P hb hf h1]
 exact⟨_,setRow_heap w b c _ t (0,0) hb,by simp;omega,fun k hk=>setRow_other w b k _ hk,by simp,rfl,rfl,rfl,rfl⟩
theorem S9 {es:List (List AV)} {vals:List Value} {i:Nat} {a:Int} {x:Value} (hes:∀e∈es,e.length=1) (hv:dH φ es.flatten vals) (hx:dn φ (.int .i64 a) x):
 dH φ (es.take i++[[AV.int .i64 a]]++es.drop i).flatten (vals.take i++[x]++vals.drop i):=by
 rw[List.flatten_append,List.flatten_append,oz hes,wX hes,Nat.mul_one]
 exact((hv.take i).append (.cons hx .nil)).append (hv.drop i)
theorem wH (n:Nat):(Builtin.zeroCells (Value.int .i64 0).cells n).toList.length=n:=by
 have e:(Value.int .i64 0).cells= #[.int .i64 0]:=rfl
 rw[e];simp[Builtin.zeroCells]
theorem xA {H:dI P B φ h w} {id len:Nat} {r:Row} (hget:h.get id=some (.row r)) (hrw:r.rw=true) (hsz:r.sz=1) {Lb:Loc} (hLb:φ id r.g=some Lb) {i:Nat} {a:Int} {x:Value} {vals:List Value} (hlr:len≤r.es.length) (hi:i≤len) (hv:dH φ (r.es.take len).flatten vals) (hx:dn φ (.int .i64 a) x)
 {w':World} {b tot:Nat} (hblk:(b=w.heap.size∧b<w'.heap.size)∨b=Lb.blk) (hws:w.heap.size≤w'.heap.size) (hkeep:∀k,k<w.heap.size→k≠Lb.blk→w'.heap[k]? =w.heap[k]?) (hkind:kX w w')
 (hnew:∀(j:Nat) (u:Value),(vals.take i++[x]++vals.drop i)[j]? =some u→w'.cell? ⟨b,j,none⟩=some u) (hcells:∃c t,w'.heap[b]? =some (.cells c t (0,0))∧c.size=tot∧len+1≤tot):
 φ.le (φ.add id (r.g+1) ⟨b,0,1,len+1,tot⟩)∧dI P B (φ.add id (r.g+1) ⟨b,0,1,len+1,tot⟩) (h.put id (.row {r with es:=(r.es.take len).take i++[[AV.int .i64 a]]++(r.es.take len).drop i,g:=r.g+1,m:=r.g+1,ty:=none})) w':=by
 have hrow:iC φ id r w:=H.obj id _ hget
 have hes1:∀e∈r.es,e.length=1:=fun e he=>by rw[hrow.es e he,hsz]
 have hlen:((r.es.take len).take i++[[AV.int .i64 a]]++(r.es.take len).drop i).length=len+1:=by simp;omega
 refine Bq (H:=H) hget hrw (es':=(r.es.take len).take i++[[AV.int .i64 a]]++(r.es.take len).drop i) (fun e he=> ?_) (fun e he=> ?_) (Nat.le_refl _) (w':=w') (L:=⟨b,0,1,len+1,tot⟩) ⟨hsz.symm,hlen.symm,rfl⟩ (hblk.imp (fun q=>q) fun e=>⟨r.g,Lb,hLb,e.symm⟩) hws
  (fun k hk hn=>hkeep k hk fun e=>hn r.g Lb hLb e.symm) hkind ⟨_,S9 (fun e he=>hes1 e (List.mem_of_mem_take he)) hv hx,hnew⟩ ?_ (fun g K hg hK=> ?_) (ty':=none) (fun u hu=>by cases hu)
 ·rw[hsz]
  rcases List.mem_append.1 he with he |he
  ·rcases List.mem_append.1 he with he |he
   ·exact hes1 e (List.mem_of_mem_take (List.mem_of_mem_take he))
   ·rw[List.mem_singleton.1 he];rfl
  ·exact hes1 e (List.mem_of_mem_take (List.mem_of_mem_drop he))
 ·rcases List.mem_append.1 he with he |he
  ·rcases List.mem_append.1 he with he |he
   ·exact hrow.leaf e (List.mem_of_mem_take (List.mem_of_mem_take he))
   ·rw[List.mem_singleton.1 he];rfl
  ·exact hrow.leaf e (List.mem_of_mem_take (List.mem_of_mem_drop he))
 ·obtain⟨c,t,q1,q2,q3⟩:=hcells
  exact⟨c,t,q1,by simp only[Nat.mul_one];exact q2,q3⟩
 ·have:=(hrow.gen g K hK).1;omega
end
section
variable {P:Program} {ρ:Ren}
theorem UW {f:Nat} (L:Go.Proofs.Lays2.n21 P ρ) (hf:ρ.f 21=f) (hmix:∀args w,(callFunc f args).run P w= .ok (.enter f args) w):uh P f zL:=by
 intro call n _ args h K hK
 subst hf
 unfold zL at hK
 split at hK
 ·rename_i s i vid vg vs vl vc vex
  split at hK
  ·rename_i a rv hsrc hrv
   cases hc:(rv.rw&&Nat.beq vg rv.g) with
   |false=>rw[hc] at hK;cases hK
   |true=>
   rw[hc,cond_true] at hK
   simp only[Bool.and_eq_true,bJ] at hc
   obtain⟨hvrw,rfl⟩:=hc
   refine⟨fun v hv id e=> ?_,fun B φ w cargs H hA=> ?_⟩
   ·simp only[List.mem_cons,List.not_mem_nil,or_false] at hv
    rcases hv with rfl |rfl |rfl
    ·subst e;cases hK
    ·cases e
    ·cases e
   ·cases hA with
    |cons h1 h2=>
    cases h2 with
    |cons h2 h3=>
    cases h3 with
    |cons h3 h4=>
    cases h4
    cases h2
    cases h3 with
    |slc hLv b1 b2 b3 b4 b5 b6=>
    rename_i cs1 vcc voff Lv
    have hrv':=aj.row_some.1 hrv
    have hrowv:iC φ vid rv w:=H.obj vid _ hrv'
    unfold source at hsrc
    simp only[hrv] at hsrc
    cases hl0:Nat.beq vl 0 with
    |true=>rw[hl0] at hsrc;cases hsrc
    |false=>
    rw[hl0,cond_false] at hsrc
    cases hc2:(Nat.ble rv.m rv.g&&Nat.beq rv.sz 1) with
    |false=>rw[hc2] at hsrc;cases hsrc
    |true=>
    rw[hc2,cond_true] at hsrc
    simp only[Bool.and_eq_true,bI,bJ] at hc2
    cases hl1:Nat.beq ((rv.es.drop vs).take vl).length vl with
    |false=>rw[hl1] at hsrc;cases hsrc
    |true=>
    rw[hl1,cond_true] at hsrc
    injection hsrc with hsrc
    have hvl:vl=1:=by rw[hsrc] at hl1;exact(bJ.1 hl1).symm
    subst hvl
    have hev:rv.es[vs]? =some [AV.int .i64 a]:=by
     have:((rv.es.drop vs).take 1)[0]? =some [AV.int .i64 a]:=by rw[hsrc];rfl
     rw[List.getElem?_take_of_lt (by omega),List.getElem?_drop] at this
     simpa using this
    obtain⟨xs,x1,x2,x3⟩:=Gm hrowv hLv hc2.1 (i:=vs) (o:=0) (n:=1) (by omega) hev (by simp)
    obtain⟨x,rfl⟩:∃x,xs=[x]:=by
     match xs,x2 with
     | [x],_=>exact⟨x,rfl⟩
    have hx:dn φ (.int .i64 a) x:=by cases x1 with |cons q _=>exact q
    have hxv:x= .int .i64 a:=by cases hx;rfl
    have hvoff:voff=Lv.base+vs*Lv.sz:=b6 (by omega)
    have hvc:∀(j:Nat) (v:Value),[x][j]? =some v→w.cell? ⟨Lv.blk,voff+j,none⟩=some v:=fun j v hj=>by
     have:=x3 j v hj
     rw[Addr.add_lit,Nat.add_zero, ←hvoff] at this
     exact this
    have h1x:∀v∈[x],v.oneCell'=true:=fun v hv=>by rw[List.mem_singleton.1 hv,hxv];rfl
    obtain⟨_,vcs,vt,hvb,_⟩:=hrowv.own hvrw rv.g Lv hrowv.mg hLv
    show oK P B φ w K ((callFunc (ρ.f 21) ⟨[cs1, .int .i64 (i:Int), .slice (some ⟨Lv.blk,voff,none⟩) 1 vcc]⟩).run P w)
    rw[hmix]
    intro n
    unfold MF at hK
    split at hK
    ·
     cases h1
     cases hi0:Nat.beq i 0 with
     |false=>rw[hi0] at hK;cases hK
     |true=>
     rw[hi0,cond_true] at hK
     have hi:=bJ.1 hi0
     subst hi
     have hS:=Any2.slices_Insert_int_end_grow L none 0 0 Lv.blk voff 1 vcc [] [x] w (by omega) (Nat.le_refl _) (by omega) (by omega) rfl rfl (fun _=>rfl) (fun a e=>by cases e) hvc h1x
     refine((callsIn_wide (n:=n)).2 hS).mono ?_
     rintro e w' ⟨rfl,rfl⟩
     have hge:=qL w (0+1) 0 (ρ.t 3)
     obtain⟨φ',p1,p2,p3,p4⟩:=qz H.drew (es:=[[AV.int .i64 a]]) (sz:=1) (by omega) (by simp) (by simp[aV,AV.leaf]) (vals:=[x]) (spare:=(Builtin.zeroCells (Value.int .i64 0).cells (grownCap w (0+1) 0 (ρ.t 3)-(0+1))).toList) (.cons hx .nil) (tot:=grownCap w (0+1) 0 (ρ.t 3))
      (by rw[wH];simp only[List.length_singleton];omega) (ρ.t 3) none (fun _ e=>by cases e)
     have hw:w.drew.alloc (.cells ((([]:List Value)++[x]).toArray++Builtin.zeroCells (Value.int .i64 0).cells (grownCap w (0+1) 0 (ρ.t 3)-(0+1))) (ρ.t 3))=w.drew.alloc (.cells ([x]++(Builtin.zeroCells (Value.int .i64 0).cells (grownCap w (0+1) 0 (ρ.t 3)-(0+1))).toList).toArray (ρ.t 3)):=by
      congr 2
      simp
     rw[hw]
     refine⟨_,_,_,φ',rfl,hK, ?_,p3,p1,(Gw.drew B w).trans p4⟩
     exact .slc p2 (Nat.le_refl _) (by simp) (by simp only;omega) hge (fun e=>by cases e) (fun _=>by simp)
    ·rename_i id g st len cap ex
     split at hK
     ·rename_i r hr
      cases hc3:Oo r g st len i id vid with
      |false=>rw[hc3] at hK;cases hK
      |true=>
      rw[hc3,cond_true] at hK
      simp only[Oo,Bool.and_eq_true,bJ,bI,dL,Bool.not_eq_true',fO] at hc3
      obtain⟨⟨⟨⟨⟨⟨⟨hrw,rfl⟩,rfl⟩,hsz⟩,hlr⟩,hile⟩,hlt⟩,hne⟩:=hc3
      cases h1 with
      |slc hL a1 a2 a3 a4 a5 a6=>
      rename_i c off Lb
      have hget:=aj.row_some.1 hr
      have hrow:iC φ id r w:=H.obj id _ hget
      obtain⟨vals,bc,bt,v1,v2,v3,v4,v5,v6,v7,v8⟩:=Qn hrow hsz hL hrw
      have hes1:∀e∈r.es,e.length=1:=fun e he=>by rw[hrow.es e he,hsz]
      obtain⟨vals,v1,v2,v6,v7,v8⟩:∃vals:List Value,vals.length=len∧dH φ (r.es.take len).flatten vals∧len≤Lb.tot∧bc.toList.take len=vals∧∀v∈vals,v.oneCell'=true:=
       ⟨vals.take len,by rw[List.length_take];omega,by rw[oz hes1,Nat.mul_one];exact v2.take len,by omega,by rw[←v7,List.take_take,Nat.min_eq_left hlr],fun v hv=>v8 v (List.mem_of_mem_take hv)⟩
      have hLs:Lb.sz=1:=by rw[(hrow.gen _ Lb hL).2,hsz]
      have hB:B≤Lb.blk:=(H.own id _ r.g Lb hget hL).1 hrw
      have hoff:0<c→off=0:=fun hc0=>by have:=a6 hc0;omega
      have hcell:∀(j:Nat) (v:Value),vals[j]? =some v→w.cell? ⟨Lb.blk,j,none⟩=some v:=fun j v hj=>by
       have hjl:=(List.getElem?_eq_some_iff.1 hj).1
       rw[cell_of_row w Lb.blk _ bc bt (0,0) v3]
       rw[←v7,List.getElem?_take_of_lt (by omega)] at hj
       simpa using hj
      have hvne:Lv.blk≠Lb.blk:=fun e=>hne (H.disj id _ vid r.g rv.g Lb Lv hget hrw hL hLv e.symm)
      have hblt:Lb.blk<w.heap.size:=H.lt id r.g Lb hL
      have one:∀v∈vals,v.oneCell'=true:=v8
      by_cases hfits:len+1≤c
      ·
       have hoff:=hoff (by omega)
       subst hoff
       by_cases hend:i=len
       ·replace hend:=hend.symm
        subst hend
        have hS:=Vd L Lb.blk 0 len c Lv.blk voff 1 vcc [x] w (by omega) hfits rfl (fun j hj=>by
         rw[cell_of_row w Lb.blk _ bc bt (0,0) v3,Array.getElem?_eq_getElem (by omega)];rfl) (fun j hj=>by simp[World.frozen?,v3]) hvc h1x
        refine((callsIn_wide (n:=n)).2 hS).mono ?_
        rintro e w' ⟨rfl,rfl⟩
        obtain⟨c',y1,y2,y3,y4,y5,y6,y7,y8⟩:=ko (w:=w) P (o:=0+len) (vs:=[x]) v3 (by simp;omega) h1x
        have hin:∀j,j<[x].length→(w.cell? ⟨Lb.blk,0+len+j,none⟩).isSome=true:=fun j hj=>by
         simp only[List.length_singleton] at hj
         rw[cell_of_row w Lb.blk _ bc bt (0,0) v3,Array.getElem?_eq_getElem (by omega)];rfl
        have hg:=xA (H:=H) hget hrw hsz hL hlr (i:=len) hile v2 hx (w':=w.setCells Lb.blk (0+len) [x]) (b:=Lb.blk) (tot:=Lb.tot) (.inr rfl) (by omega) (fun k _ hk=>y3 k hk) (kX.of_block y1 (fun ds e=>by cases e) y3)
         (fun j u hj=>by
           rw[List.take_of_length_le (by omega),List.drop_of_length_le (by omega),List.append_nil] at hj
           by_cases hjl:j<vals.length
           ·rw[List.getElem?_append_left hjl] at hj
            rw[World.cell?_setCells_out Lb.blk _ _ _ _ (fun _ _=> .inl (by show j<0+len;omega))]
            exact hcell j u hj
           ·have hjl2:=(List.getElem?_eq_some_iff.1 hj).1
            simp only[List.length_append,List.length_singleton] at hjl2
            have hjn:j=len:=by omega
            rw[hjn] at hj ⊢
            rw[List.getElem?_append_right (by omega),v1,Nat.sub_self] at hj
            have:=World.cell?_setCells_in Lb.blk [x] (0+len) w hin 0 (by simp)
            simp only[Nat.zero_add,Nat.add_zero] at this ⊢
            rw[this];exact hj) ⟨c',bt,y1,by rw[y2];exact v4,by omega⟩
        refine⟨_,_,_,_,rfl,hK, ?_,hg.2,hg.1,Gw.of_block v3 hB (fun ds e=>by cases e) (fun r e=>by cases e) y1 (fun _ _ _ e=>by cases e;rfl) (fun _ _ _ e=>by cases e;rfl) y3 y4 y5 y6 y7 (by rw[y8];exact Nat.le_refl _)⟩
        exact .slc (L:=⟨Lb.blk,0,1,len+1,Lb.tot⟩) (eO.add_same _ _ _ _) (Nat.le_refl _) (by simp only;omega) (by simp only;omega) hfits (fun e=>by cases e) (fun _=>by simp)
       ·have hlt':i<len:=by omega
        have hS:=SL L Lb.blk 0 len c i Lv.blk voff 1 vcc vals [x] w hlt' (by omega) hfits (by omega) hvne v1 rfl (fun j v hj=>by rw[Nat.zero_add];exact hcell j v hj) (fun j hj=>by
         rw[cell_of_row w Lb.blk _ bc bt (0,0) v3,Array.getElem?_eq_getElem (by omega)];rfl) (fun j hj=>by simp[World.frozen?,v3]) hvc one h1x vt bt vcs.size bc.size (by simp[World.shape?,hvb]) (by simp[World.shape?,v3]) (by omega) (by simp[World.frozen?,hvb]) (by simp[World.frozen?,hvb])
        refine((callsIn_wide (n:=n)).2 hS).mono ?_
        rintro e w' ⟨rfl,rfl⟩
        have h1d:∀v∈vals.drop i,v.oneCell'=true:=fun v hv=>one v (List.mem_of_mem_drop hv)
        have v3d:w.drew.heap[Lb.blk]? =some (.cells bc bt (0,0)):=v3
        obtain⟨c1,y1,y2,y3,y4,y5,y6,y7,y8⟩:=ko (w:=w.drew) P (o:=0+(i+1)) (vs:=vals.drop i) v3d (by rw[List.length_drop];omega) h1d
        generalize hW:w.drew.setCells Lb.blk (0+(i+1)) (vals.drop i)=W1 at *
        obtain⟨c2,u1,u2,u3,u4,u5,u6,u7,u8⟩:=ko (w:=W1) P (o:=0+i) (vs:=[x]) y1 (by simp;omega) h1x
        have isW:∀(k:Nat),k<bc.size→(W1.cell? ⟨Lb.blk,k,none⟩).isSome=true:=fun k hk=>by
         rw[cell_of_row W1 Lb.blk _ c1 bt (0,0) y1,Array.getElem?_eq_getElem (by omega)];rfl
        have keep:∀k,k≠Lb.blk→(W1.setCells Lb.blk (0+i) [x]).heap[k]? =w.heap[k]? :=fun k hk=>(u3 k hk).trans (y3 k hk)
        have hg:=xA (H:=H) hget hrw hsz hL hlr (i:=i) hile v2 hx (w':=W1.setCells Lb.blk (0+i) [x]) (b:=Lb.blk) (tot:=Lb.tot) (.inr rfl) (by rw[u4,y4];exact Nat.le_refl _) (fun k _ hk=>keep k hk) (kX.of_block u1 (fun ds e=>by cases e) keep)
         (fun j u hj=>by
           have hti:(vals.take i).length=i:=by rw[List.length_take];omega
           by_cases hji:j<i
           ·rw[List.append_assoc,List.getElem?_append_left (by omega),List.getElem?_take_of_lt hji] at hj
            rw[World.cell?_setCells_out Lb.blk _ _ _ _ (fun _ _=> .inl (by show j<0+i;omega)), ←hW,World.cell?_setCells_out Lb.blk _ _ _ _ (fun _ _=> .inl (by show j<0+(i+1);omega))]
            exact hcell j u hj
           ·by_cases hje:j=i
            ·subst hje
             rw[List.append_assoc,List.getElem?_append_right (by omega),hti,Nat.sub_self] at hj
             have:=World.cell?_setCells_in Lb.blk [x] (0+j) W1 (fun k hk=>by simp only[List.length_singleton] at hk;exact isW _ (by omega)) 0 (by simp)
             simp only[Nat.zero_add,Nat.add_zero] at this ⊢
             rw[this];exact hj
            ·rw[List.getElem?_append_right (by rw[List.length_append,hti];simp;omega)] at hj
             have hlen2:(vals.take i++[x]).length=i+1:=by rw[List.length_append,hti];rfl
             rw[hlen2] at hj
             have hjl:=(List.getElem?_eq_some_iff.1 hj).1
             rw[World.cell?_setCells_out Lb.blk _ _ _ _ (fun _ _=> .inr (by show 0+i+1≤j;omega)), ←hW]
             have:=World.cell?_setCells_in Lb.blk (vals.drop i) (0+(i+1)) w.drew (fun k hk=>by
              rw[List.length_drop] at hk
              rw[cell_of_row w.drew Lb.blk _ bc bt (0,0) v3d,Array.getElem?_eq_getElem (by omega)];rfl) (j-(i+1)) hjl
             rw[show 0+(i+1)+(j-(i+1))=j by omega] at this
             rw[this, ←hj,List.getElem?_eq_getElem]) ⟨c2,bt,u1,by rw[u2,y2];exact v4,by omega⟩
        refine⟨_,_,_,_,rfl,hK, ?_,hg.2,hg.1,Gw.of_block v3 hB (fun ds e=>by cases e) (fun r e=>by cases e) u1 (fun _ _ _ e=>by cases e;rfl) (fun _ _ _ e=>by cases e;rfl) keep (u4.trans y4) (u5.trans y5) (u6.trans y6) (u7.trans y7) (by rw[u8,y8];exact Nat.le_succ _)⟩
        exact .slc (L:=⟨Lb.blk,0,1,len+1,Lb.tot⟩) (eO.add_same _ _ _ _) (Nat.le_refl _) (by simp only;omega) (by simp only;omega) hfits (fun e=>by cases e) (fun _=>by simp)
      ·
       have hoc:∀(j:Nat) (v:Value),vals[j]? =some v→off=0:=fun j v hj=>hoff (by have:=(List.getElem?_eq_some_iff.1 hj).1;omega)
       have hge:=qL w (len+1) c (ρ.t 3)
       by_cases hend:i=len
       ·replace hend:=hend.symm
        subst hend
        have hS:=Any2.slices_Insert_int_end_grow L (some ⟨Lb.blk,off,none⟩) len c Lv.blk voff 1 vcc vals [x] w (by omega) (by omega) (by omega) (by omega) v1 rfl (fun e=>by cases e) (fun a e j v hj=>by
         cases e
         rw[Addr.add_lit,hoc j v hj,Nat.zero_add];exact hcell j v hj) hvc h1x
        refine((callsIn_wide (n:=n)).2 hS).mono ?_
        rintro e w' ⟨rfl,rfl⟩
        generalize hgc:grownCap w (len+1) c (ρ.t 3)=gc at *
        generalize hzz:Builtin.zeroCells (Value.int .i64 0).cells (gc-(len+1))=zz at *
        have hzl:zz.size=gc-(len+1):=by rw[←hzz];have:=wH (gc-(len+1));simpa using this
        have hg:=xA (H:=H.drew) hget hrw hsz hL hlr (i:=len) hile v2 hx (w':=w.drew.alloc (.cells ((vals++[x]).toArray++zz) (ρ.t 3))) (b:=w.heap.size) (tot:=gc) (.inl ⟨rfl,by simp⟩) (by simp) (fun k hk _=>heap_alloc_old w.drew _ hk) (kX.alloc w.drew (fun ds e=>by cases e))
         (fun j u hj=>by
           rw[List.take_of_length_le (by omega),List.drop_of_length_le (by omega),List.append_nil] at hj
           have hjl:=(List.getElem?_eq_some_iff.1 hj).1
           have:=World.cell?_alloc_new w.drew ((vals++[x]).toArray++zz) (ρ.t 3) j
           rw[show w.drew.heap.size=w.heap.size from rfl] at this
           rw[this,Array.getElem?_append_left (by simpa using hjl)]
           simpa using hj) ⟨_,ρ.t 3,heap_alloc_new w.drew _,by simp only[Array.size_append,List.size_toArray,List.length_append,List.length_singleton];omega,hge⟩
        refine⟨_,_,_,_,rfl,hK, ?_,hg.2,hg.1,(Gw.drew B w).trans (Gw.alloc H.drew.base (fun _ _ _ e=>by cases e;rfl))⟩
        exact .slc (L:=⟨w.heap.size,0,1,len+1,gc⟩) (eO.add_same _ _ _ _) (Nat.le_refl _) (by simp only;omega) (by simp only;omega) hge (fun e=>by cases e) (fun _=>by simp)
       ·have hlt':i<len:=by omega
        have hS:=Any2.slices_Insert_int_grow L Lb.blk off len c i Lv.blk voff 1 vcc vals [x] w hlt' (by omega) (by omega) (by omega) (by omega) v1 rfl (fun j v hj=>by rw[hoc j v hj,Nat.zero_add];exact hcell j v hj) hvc one h1x
        refine((callsIn_wide (n:=n)).2 hS).mono ?_
        rintro e w' ⟨rfl,rfl⟩
        generalize hgc:grownCap w (len+1) c (ρ.t 3)=gc at *
        generalize hz1:Builtin.zeroCells (Value.int .i64 0).cells (len+1-i)=z1 at *
        generalize hz2:Builtin.zeroCells (Value.int .i64 0).cells (gc-(len+1))=z2 at *
        have hz1l:z1.size=len+1-i:=by rw[←hz1];have:=wH (len+1-i);simpa using this
        have hz2l:z2.size=gc-(len+1):=by rw[←hz2];have:=wH (gc-(len+1));simpa using this
        have hti:(vals.take i).length=i:=by rw[List.length_take];omega
        have hA:(w.alloc (.cells ((vals.take i).toArray++z1++z2) (ρ.t 3))).heap[w.heap.size]? =some (.cells ((vals.take i).toArray++z1++z2) (ρ.t 3) (0,0)):=heap_alloc_new w _
        have hAs:((vals.take i).toArray++z1++z2).size=gc:=by simp only[Array.size_append,List.size_toArray,hti,hz1l,hz2l];omega
        have hAc:∀j,j<i→(w.alloc (.cells ((vals.take i).toArray++z1++z2) (ρ.t 3))).cell? ⟨w.heap.size,j,none⟩=vals[j]? :=fun j hj=>by
         rw[World.cell?_alloc_new w _ (ρ.t 3) j,Array.append_assoc,Array.getElem?_append_left (by simp only[List.size_toArray,hti];exact hj),List.getElem?_toArray,List.getElem?_take_of_lt hj]
        have hAz:(w.alloc (.cells ((vals.take i).toArray++z1++z2) (ρ.t 3))).heap.size=w.heap.size+1:=by simp
        have hAo:∀k,k<w.heap.size→(w.alloc (.cells ((vals.take i).toArray++z1++z2) (ρ.t 3))).heap[k]? =w.heap[k]? :=fun k hk=>heap_alloc_old w _ hk
        have gA:Gw B w (w.alloc (.cells ((vals.take i).toArray++z1++z2) (ρ.t 3))):=Gw.alloc H.base (fun _ _ _ e=>by cases e;rfl)
        have nA:kX w (w.alloc (.cells ((vals.take i).toArray++z1++z2) (ρ.t 3))):=kX.alloc w (fun ds e=>by cases e)
        generalize w.alloc (.cells ((vals.take i).toArray++z1++z2) (ρ.t 3))=A at *
        generalize(vals.take i).toArray++z1++z2=arr at *
        have h1d:∀v∈vals.drop i,v.oneCell'=true:=fun v hv=>one v (List.mem_of_mem_drop hv)
        obtain⟨c1,y1,y2,y3,y4,y5,y6,y7,y8⟩:=ko (w:=A.drew) P (o:=i) (vs:=[x]) hA (by simp;omega) h1x
        have hx1:∀k,k<gc→(A.drew.cell? ⟨w.heap.size,k,none⟩).isSome=true:=fun k hk=>by
         rw[cell_of_row A.drew w.heap.size _ arr (ρ.t 3) (0,0) hA,Array.getElem?_eq_getElem (by omega)];rfl
        have hin1:=World.cell?_setCells_in w.heap.size [x] i A.drew (fun k hk=>by simp only[List.length_singleton] at hk;exact hx1 _ (by omega)) 0 (by simp)
        have hout1:∀j,j<i→(A.drew.setCells w.heap.size i [x]).cell? ⟨w.heap.size,j,none⟩=vals[j]? :=fun j hj=>by
         rw[World.cell?_setCells_out w.heap.size _ _ _ _ (fun _ _=> .inl (by show j<i;omega))];exact hAc j hj
        generalize A.drew.setCells w.heap.size i [x]=W1 at *
        have y1d:W1.drew.heap[w.heap.size]? =some (.cells c1 (ρ.t 3) (0,0)):=y1
        obtain⟨c2,u1,u2,u3,u4,u5,u6,u7,u8⟩:=ko (w:=W1.drew) P (o:=i+1) (vs:=vals.drop i) y1d (by rw[List.length_drop];omega) h1d
        have keep:∀k,k≠w.heap.size→(W1.drew.setCells w.heap.size (i+1) (vals.drop i)).heap[k]? =A.heap[k]? :=fun k hk=>(u3 k hk).trans (y3 k hk)
        have hg:=xA (H:=H) hget hrw hsz hL hlr (i:=i) hile v2 hx (w':=W1.drew.setCells w.heap.size (i+1) (vals.drop i)) (b:=w.heap.size) (tot:=gc) (.inl ⟨rfl,by rw[u4];show w.heap.size<W1.heap.size;rw[y4];show w.heap.size<A.heap.size;omega⟩) (by rw[u4];show w.heap.size≤W1.heap.size;rw[y4];show w.heap.size≤A.heap.size;omega) (fun k hk _=>(keep k (by omega)).trans (hAo k hk))
         (fun ds b e=> ?_)
         (fun j u hj=>by
           by_cases hji:j<i
           ·rw[List.append_assoc,List.getElem?_append_left (by omega),List.getElem?_take_of_lt hji] at hj
            rw[World.cell?_setCells_out w.heap.size _ _ _ _ (fun _ _=> .inl (by show j<i+1;omega))]
            exact(hout1 j hji).trans hj
           ·by_cases hje:j=i
            ·subst hje
             rw[List.append_assoc,List.getElem?_append_right (by omega),hti,Nat.sub_self] at hj
             rw[World.cell?_setCells_out w.heap.size _ _ _ _ (fun _ _=> .inl (by show j<j+1;omega))]
             simp only[Nat.add_zero] at hin1
             exact hin1.trans hj
            ·rw[List.getElem?_append_right (by rw[List.length_append,hti];simp;omega)] at hj
             have hlen2:(vals.take i++[x]).length=i+1:=by rw[List.length_append,hti];rfl
             rw[hlen2] at hj
             have hjl:=(List.getElem?_eq_some_iff.1 hj).1
             have:=World.cell?_setCells_in w.heap.size (vals.drop i) (i+1) W1.drew (fun k hk=>by
              rw[List.length_drop] at hk
              rw[cell_of_row W1.drew w.heap.size _ c1 (ρ.t 3) (0,0) y1d,Array.getElem?_eq_getElem (by omega)];rfl) (j-(i+1)) hjl
             rw[show i+1+(j-(i+1))=j by omega] at this
             rw[this, ←hj,List.getElem?_eq_getElem]) ⟨c2,ρ.t 3,u1,by omega,hge⟩
        ·refine⟨_,_,_,_,rfl,hK, ?_,hg.2,hg.1,gA.trans (Gw.of_block hA H.base (fun ds e=>by cases e) (fun r e=>by cases e) u1 (fun _ _ _ e=>by cases e;rfl) (fun _ _ _ e=>by cases e;rfl) keep (u4.trans y4) (u5.trans y5) (u6.trans y6) (u7.trans y7) (by rw[u8];show A.drawn≤W1.drawn+1;rw[y8];show A.drawn≤A.drawn+1+1;omega))⟩
         exact .slc (L:=⟨w.heap.size,0,1,len+1,gc⟩) (eO.add_same _ _ _ _) (Nat.le_refl _) (by simp only;omega) (by simp only;omega) hge (fun e=>by cases e) (fun _=>by simp)
        ·by_cases q:ds=w.heap.size
         ·rw[q,u1] at e;cases e
         ·exact nA ds b ((keep ds q).symm.trans e)
     ·cases hK
    ·cases hK
  ·cases hK
 ·cases hK
end
end Go.Ab
namespace Go.Ab
theorem Gw.grown {w w':World} (g:Gw w.heap.size w w'):∃q os,w'=Go.Sort.grow (w.drewN q) os:=by
 refine⟨w'.drawn-w.drawn,w'.heap.extract w.heap.size w'.heap.size, ?_⟩
 have h1:=g.os
 have h2:=g.tape
 have h3:=g.output
 have h4:=g.drawn
 have h5:w'.heap=w.heap++w'.heap.extract w.heap.size w'.heap.size:=by
  apply Array.ext_getElem?
  intro k
  have hs:=g.size
  by_cases hk:k<w.heap.size
  ·rw[g.below k hk,Array.getElem?_append_left hk]
  ·rw[Array.getElem?_append_right (by omega),Array.getElem?_extract]
   by_cases hk2:k<w'.heap.size
   ·rw[if_pos (by omega),show w.heap.size+(k-w.heap.size)=k by omega]
   ·rw[if_neg (by omega),Array.getElem?_eq_none (by omega)]
 obtain⟨hp,tp,dr,os,out⟩:=w
 obtain⟨hp',tp',dr',os',out'⟩:=w'
 simp only at h1 h2 h3 h4 h5
 subst h1;subst h2;subst h3
 unfold Go.Sort.grow World.drewN
 simp only
 rw[←h5,show dr+(dr'-dr)=dr' by omega]
theorem Gw.ahead (B:Nat) (w:World) (n:Nat):Gw B w (Go.Sort.ahead w n):=⟨rfl,rfl,Nat.le_add_right _ _,rfl,Nat.le_refl _,fun _ _=>rfl,fun _ _ h=>h,fun _ r h=>⟨r,h⟩⟩
theorem Gw.grow {B:Nat} {w:World} (hB:B≤w.heap.size) (os:Array Obj):Gw B w (Go.Sort.grow w os):=by
 have old:∀k:Nat,k<w.heap.size→(Go.Sort.grow w os).heap[k]? =w.heap[k]? :=fun k hk=>Go.Sort.heap_grow_old w os hk
 refine⟨rfl,rfl,Nat.le_refl _,rfl, ?_,fun k hk=>old k (by omega),fun k ds hk=> ?_,fun k r hk=>⟨r, ?_⟩⟩
 ·show w.heap.size≤(w.heap++os).size
  rw[Array.size_append];omega
 ·rw[old k (Array.getElem?_eq_some_iff.1 hk).1];exact hk
 ·rw[old k (Array.getElem?_eq_some_iff.1 hk).1];exact hk
theorem dI.grow {P:Program} {B:Base} {φ:eO} {h:aj} {w:World} (H:dI P B φ h w) (os:Array Obj):dI P B φ h (Go.Sort.grow w os):=
 H.keep (by show w.heap.size≤(w.heap++os).size;rw[Array.size_append];omega) fun id g L hL=>Go.Sort.heap_grow_old w os (H.lt id g L hL)
open Go.Shelf Go.Sort
open Go.Proofs (SlLaysF.n6 AnyF.slices_SortFunc_none Any.slices_SortFunc CmpLays1 OneCell ltOf sortWorld)
def Bf (h:aj) (id:Nat) (r:Row) (s:Nat) (us:List AV):aj:=h.put id (.row {r with es:=lay r.es s (us.map fun v=>[v]),m:=r.g})
noncomputable def UL (p:Prop):Bool:=@decide p (Classical.propDecidable p)
theorem uJ {p:Prop}:UL p=true↔p:=by
 unfold UL
 exact@decide_eq_true_iff p (Classical.propDecidable p)
theorem Ao:∀{es:List (List AV)},(∀e∈es,e.length=1)→∀n,es.flatten.drop n=(es.drop n).flatten
 | [],_,n=>by simp
 |e :: l,h,0=>rfl
 |e :: l,h,n+1=>by
  have h1:=h e (by simp)
  match e,h1 with
  | [a],_=>exact Ao (fun x hx=>h x (List.mem_cons_of_mem _ hx)) n
theorem BI:∀{es:List (List AV)},(∀e∈es,e.length=1)→∀n,es.flatten.take n=(es.take n).flatten
 | [],_,n=>by simp
 |e :: l,h,0=>by simp
 |e :: l,h,n+1=>by
  have h1:=h e (by simp)
  match e,h1 with
  | [a],_=>
    show a :: (l.flatten.take n)=a :: (l.take n).flatten
    rw[BI (fun x hx=>h x (List.mem_cons_of_mem _ hx)) n]
section
variable {P:Program} {B:Base} {φ:eO} {h:aj} {w:World}
theorem OY (H:dI P B φ h w) {id:Nat} {r:Row} (hr:h.get id=some (.row r)) (hrw:r.rw=true) (hsz:r.sz=1) {L:Loc} (hL:φ id r.g=some L) {s:Nat}
 {α:Type} [Inhabited α] {enc:α→Value} {av:α→AV} (hrel:∀x,dn φ (av x) (enc x)) (hone:∀x,(enc x).oneCell'=true) (hleaf:∀x,(av x).leaf=true) (d dk:Array α) (hH:Holds enc w L.blk (L.base+s) d) (hk:dk.size=d.size) (hfit:s+d.size≤r.es.length) (m:Nat) (os:Array Obj):
 dI P B φ (Bf h id r s (dk.toList.map av)) (sortWorld enc w L.blk (L.base+s) m dk os)∧Gw B w (sortWorld enc w L.blk (L.base+s) m dk os):=by
 have HA:dI P B φ h (w.drewN m):=H.heap rfl
 have hrow:iC φ id r w:=H.obj id _ hr
 have hLs:L.sz=1:=by rw[(hrow.gen _ L hL).2,hsz]
 have hnv:dH φ ((dk.toList.map av).map fun v=>[v]).flatten (dk.toList.map enc):=by
  rw[mG]
  induction dk.toList with
  |nil=>exact .nil
  |cons x l ih=>exact .cons (hrel x) ih
 have hlen:((dk.toList.map av).map fun v=>[v]).length=d.size:=by simp[hk]
 have he:nO h 1 id r.g s ((dk.toList.map av).map fun v=>[v])=some (Bf h id r s (dk.toList.map av)):=by
  unfold nO Bf
  rw[aj.row_some.2 hr]
  have:(r.rw&&Nat.beq r.g r.g&&Nat.beq r.sz 1&&Nat.ble (s+((dk.toList.map av).map fun v=>[v]).length) r.es.length)=true:=by
   rw[hrw,hsz,hlen]
   simp only[Nat.beq_refl,Bool.and_self,Bool.true_and]
   exact bI.2 hfit
  simp only[this,cond_true]
 obtain⟨w',s1,s2,s3,_⟩:=oZ HA (fun x hx=>by
  obtain⟨v,_,rfl⟩:=List.mem_map.1 hx;rfl) (fun x hx=>by
  obtain⟨v,hv,rfl⟩:=List.mem_map.1 hx
  obtain⟨a,_,rfl⟩:=List.mem_map.1 hv
  show aV [av a]=true
  simp[aV,hleaf a]) hnv hL he
 rw[hLs,Nat.mul_one] at s1
 have hst:=Go.run_storeCells_cells (P:=P) L.blk (L.base+s) (dk.toList.map enc) 0 (w.drewN m)
  (fun j hj=>by
    have:=(hH j (by simpa[hk] using hj)).1
    rw[World.cell?_drewN,Nat.add_zero,this];rfl)
  (fun j hj=>by
    have:=(hH j (by simpa[hk] using hj)).2
    rw[Nat.add_zero];exact this)
  (fun v hv=>by
    obtain⟨a,_,rfl⟩:=List.mem_map.1 hv
    exact hone a)
 rw[hst] at s1
 have hw':(w.drewN m).setCells L.blk (L.base+s+0) (dk.toList.map enc)=w':=by injection s1
 have hput:=Go.Lib.putRow_eq_setCells enc w L.blk (L.base+s) d dk.toList m hH (by simpa using hk)
 have hw:sortWorld enc w L.blk (L.base+s) m dk os=grow w' os:=by
  unfold sortWorld
  have:dk.toList.toArray=dk:=by simp
  rw[this] at hput
  rw[hput, ←hw',Nat.add_zero]
 rw[hw]
 have g1:Gw B w (w.drewN m):=Gw.ahead B w m
 exact⟨s2.grow os,(g1.trans s3).trans (Gw.grow s2.base os)⟩
variable {ρ:Ren}
end
end Go.Ab
namespace Go.Ab
open Go.Shelf Go.Sort
open Go.Proofs (Any.slices_Sort_int_none Any.slices_Sort_int sortWorld)
def iU (zs:List Int):List Int:=zs.mergeSort fun x y=>decide (x≤y)
structure UG (h:aj) (id:Nat) (r:Row) (s:Nat) (zs:List Int) (K:aC):Prop where
 row:h.get id=some (.row r)
 rw:r.rw=true
 sz:r.sz=1
 es:(r.es.drop s).take zs.length=(zs.map (AV.int .i64)).map fun v=>[v]
 lt:zs.length<4611686018427387904
 fin:K (.tup []) (Bf h id r s ((iU zs).map (AV.int .i64)))=true
noncomputable def CW:Prim:=fun call n args h K=>match args with
 | [.nilSlc]=>K (.tup []) h
 | [.emp]=>K (.tup []) h
 | [.slc id g s len c ex]=>bif Nat.beq len 0 then K (.tup []) h
     else UL (∃r zs,g=r.g∧zs.length=len∧UG h id r s zs K)
 |_=>false
theorem MH:JD CW:=by
 intro call call' n args h K K' hle hK hs
 unfold CW at hs ⊢
 split at hs
 ·exact hK _ _ hs
 ·exact hK _ _ hs
 ·rename_i id g s len c ex
  cases hl:Nat.beq len 0 with
  |true=>rw[hl,cond_true] at hs;exact hK _ _ hs
  |false=>
   rw[hl,cond_false] at hs
   have hs:=uJ.1 hs
   obtain⟨r,zs,h2,h3,S⟩:=hs
   rw[cond_false]
   exact uJ.2 ⟨r,zs,h2,h3,⟨S.row,S.rw,S.sz,S.es,S.lt,hK _ _ S.fin⟩⟩
 ·cases hs
section
variable {P:Program} {ρ:Ren}
theorem UY {φ:eO} {z:Int} {cv:Value} (hv:dn φ (.int .i64 z) cv):cv= .int .i64 z:=by cases hv;rfl
theorem QG {f:Nat} (L:Go.Proofs.Lays.n189 P ρ) (hf:ρ.f 189=f) (hmix:∀args w,(callFunc f args).run P w= .ok (.enter f args) w):uh P f CW:=by
 intro call n hcall args h K hK
 subst hf
 have none:∀(B:Base) (φ:eO) (w:World) (p:Option Addr) (c:Nat),dI P B φ h w→K (.tup []) h=true→oK P B φ w K ((callFunc (ρ.f 189) ⟨[.slice p 0 c]⟩).run P w):=by
  intro B φ w p c H hk
  rw[hmix]
  intro n
  have hS:=Any.slices_Sort_int_none (P:=P) (ρ:=ρ) L p c w
  refine((callsIn_wide (n:=n)).2 hS).mono ?_
  rintro e w' ⟨rfl,rfl⟩
  exact⟨.tup [],h, .tuple #[],φ,rfl,hk, .tup .nil,H,φ.le_refl,Gw.refl B w'⟩
 unfold CW at hK
 split at hK
 ·refine⟨fun v hv id e=> ?_,fun B φ w cargs H hA=> ?_⟩
  ·simp only[List.mem_cons,List.not_mem_nil,or_false] at hv
   rcases hv with rfl;cases e
  ·cases hA with
   |cons h1 h3=>
    cases h3
    cases h1
    exact none B φ w _ _ H hK
 ·refine⟨fun v hv id e=> ?_,fun B φ w cargs H hA=> ?_⟩
  ·simp only[List.mem_cons,List.not_mem_nil,or_false] at hv
   rcases hv with rfl;cases e
  ·cases hA with
   |cons h1 h3=>
    cases h3
    cases h1
    exact none B φ w _ _ H hK
 ·rename_i id g s len c ex
  refine⟨fun v hv id e=> ?_,fun B φ w cargs H hA=> ?_⟩
  ·simp only[List.mem_cons,List.not_mem_nil,or_false] at hv
   rcases hv with rfl;cases e
  ·cases hA with
   |cons h1 h3=>
    cases h3
    cases h1 with
    |slc hL a1 a2 a3 a4 a5 a6=>
     rename_i c0 off L'
     cases hl:Nat.beq len 0 with
     |true=>
      rw[hl,cond_true] at hK
      have:=bJ.1 hl
      subst this
      exact none B φ w _ _ H hK
     |false=>
      rw[hl,cond_false] at hK
      have hlen:=fO.1 hl
      obtain⟨r,zs,hg,hvl,S⟩:=uJ.1 hK
      subst hg
      have hrow:iC φ id r w:=H.obj id _ S.row
      have hLs:L'.sz=1:=by rw[(hrow.gen _ L' hL).2,S.sz]
      obtain⟨hbase,cs,ct,hcs,hcsz,hext⟩:=hrow.own S.rw r.g L' hrow.mg hL
      obtain⟨L2,hL2,hext'⟩:=hrow.cur
      have:L2=L':=by rw[hL] at hL2;cases hL2;rfl
      subst this
      have hoff:off=L2.base+s:=by rw[a6 (by omega),hLs,Nat.mul_one]
      subst hoff
      have hes1:∀e∈r.es,e.length=1:=fun e he=>by rw[hrow.es e he,S.sz]
      have hfit:s+len≤r.es.length:=by omega
      obtain⟨nv,n1,n2,n3⟩:=xX hrow hL hrow.mg (p:=s) (n:=len) (by rw[S.sz];omega)
      have hfl:(r.es.flatten.drop s).take len=zs.map (AV.int .i64):=by
       rw[Ao hes1,BI (fun e he=>hes1 e (List.mem_of_mem_drop he)), ←hvl,S.es,mG]
      rw[hfl] at n1
      have hrel:∀x:Int,dn φ (AV.int .i64 x) (Value.int .i64 x):=fun x=> .int _ _
      have hH:Holds (Value.int .i64) w L2.blk (L2.base+s) zs.toArray:=by
       intro j hj
       have hj:j<zs.length:=by simpa using hj
       refine⟨?_, ?_⟩
       ·have e1:zs.toArray[j]! =zs[j]:=by rw[getElem!_pos zs.toArray j (by simpa using hj)];simp
        rw[e1]
        obtain⟨v,q1,q2⟩:=n1.get (i:=j) (a:=AV.int .i64 zs[j]) (by simp[hj])
        rw[UY q2] at q1
        have:=n3 j _ q1
        have ha:(⟨L2.blk,L2.base+s,Option.none⟩:Addr).add j=⟨L2.blk,L2.base+s+j,Option.none⟩:=by
         simp only[Addr.add]
         split
         ·rename_i h0;subst h0;rfl
         ·rfl
        rw[ha] at this
        exact this
       ·simp only[World.frozen?,hcs]
        simp
      have hblk:L2.blk<w.heap.size:=H.lt id r.g L2 hL
      have hS:=Any.slices_Sort_int (P:=P) L L2.blk (L2.base+s) c0 zs w hH hblk S.lt
      rw[hmix]
      intro n
      rw[hvl] at hS
      refine((callsIn_wide (n:=n)).2 hS).mono ?_
      rintro e w' ⟨rfl,m,os,rfl⟩
      have hsl:(iU zs).length=zs.length:=List.length_mergeSort _
      obtain⟨H2,G2⟩:=OY (enc:=Value.int .i64) (av:=AV.int .i64) H S.row S.rw S.sz hL hrel (fun _=>rfl) (fun _=>rfl) zs.toArray (iU zs).toArray hH (by simp[hsl]) (by simpa[hvl] using hfit) m os
      exact⟨.tup [],_, .tuple #[],φ,rfl,by simpa using S.fin, .tup .nil,H2,φ.le_refl,G2⟩
 ·cases hK
end
end Go.Ab
namespace Go.Ab
def Jz:Prim:=fun _ _ args h K=>match args with
 | []=>K (.bool true) h
 |_=>false
theorem Lh:JD Jz:=by
 intro call call' n args h K K' _ hK s
 unfold Jz at s ⊢
 split at s
 ·exact hK _ _ s
 ·cases s
theorem Sy {P:Program} {E:Env} (hmix:P.follows .mixedOrders=true) (hE:Ej P E) {f fuel:Nat} {fn:dW} (hf:E.code f=some fn) (hrun:aD E fuel (.func f) [] aj.empty (fun v _=>isTrue v)=true):uh P f Jz:=by
 intro call n _ args h K hK
 unfold Jz at hK
 split at hK
 ·refine⟨fun v hv=>absurd hv List.not_mem_nil,fun B φ w cargs H hA=> ?_⟩
  cases hA
  have h0:=lV hmix hE fuel (.func f) [] aj.empty _ hrun (.of w.heap.size) (fun _ _=>none) w [] (Ah w) .nil
  simp only at h0
  have h0:=yN.lands h0
  rw[Hu hE hf] at h0 ⊢
  intro m
  have h1:CallsIn (FW none) m P f #[] w _:=h0 m
  refine h1.mono ?_
  rintro e w' ⟨v,h',cv,φ',rfl,hi,hv,_,_,hg⟩
  have hb:cv= .bool true:=by
   cases hv<;>first |(cases hi;done)|skip
   rename_i b
   cases b with
   |false=>cases hi
   |true=>rfl
  subst hb
  obtain⟨q,os,rfl⟩:=Gw.grown hg
  have H1:dI P B φ h (w.drewN q):=H.heap rfl
  exact⟨.bool true,h, .bool true,φ,rfl,hK, .bool _,H1.grow os,φ.le_refl,(Gw.ahead _ w q).trans (Gw.grow (B:=B) H1.base os)⟩
 ·cases hK
end Go.Ab
namespace Go.Proofs.YthmnnlpbnhkhkaaGreat
open Go.Ab
noncomputable def Rm:List (Nat×Prim):=[(63,zL),(73,CW),(5,Jz)]
theorem Ql:uS Rm:=⟨OQ,MH,Lh,trivial⟩
noncomputable def Uc:List (Nat×dW):=[(3,A3),(4,A4),(6,A6),(7,A7),(8,A8),(9,A9),(10,A10),(11,A11),(12,A12),(13,A13),(14,A14),(15,A15),(16,A16),(17,A17),(18,A18),(19,A19),(20,A20),(21,A21),(22,A22),(23,A23),(24,A24),(25,A25),(27,A27),(28,A28),(29,A29),(30,A30),(31,A31),(32,A32),(33,A33),(34,YU),(35,A35),(36,A36),(37,A37),(38,A38),(39,A39),(40,A40),(41,A41),(42,A42),(43,A43),(44,A44),(45,A45),(46,A46),(47,A47),(48,A48),(49,A49),(50,A50),(52,A52),(53,A53),(54,A54),(56,A56),(57,A57),(58,A58),(59,A59),(60,A60),(61,A61),(62,A62),(64,A64),(65,A65),(66,A66),(67,A67),(68,A68),(69,A69),(70,A70),(71,A71),(72,A72),(74,A74),(75,A75),(76,A76),(77,A77),(78,A78),(79,A79),(80,A80),(82,A82),(86,A86),(87,A87),(90,A90),(91,A91),(92,A92),(93,A93),(95,A95),(96,A96),(109,Ui),(110,Uw),(26,TS),(51,QO),(55,VK),(81,Vr),(83,VH)]
noncomputable def E:Env:=UN Uc Rm
theorem bZ:vU E:=UR Ql
theorem d3 {n:Nat} {x0:AV} {h:aj} {K:aC} (s:s3 (aD E n) n x0 h K=true):aD E (n+1) (.func 3) [x0] h K=true:=down bZ rfl (Zn rfl) s
theorem d4 {n:Nat} {x0:AV} {h:aj} {K:aC} (s:s4 (aD E n) n x0 h K=true):aD E (n+1) (.func 4) [x0] h K=true:=down bZ rfl (aaN rfl) s
theorem d6 {n:Nat} {x0:AV} {h:aj} {K:aC} (s:s6 (aD E n) n x0 h K=true):aD E (n+1) (.func 6) [x0] h K=true:=down bZ rfl (Zv rfl) s
theorem d7 {n:Nat} {x0:AV} {h:aj} {K:aC} (s:s7 (aD E n) n x0 h K=true):aD E (n+1) (.func 7) [x0] h K=true:=down bZ rfl (ZF rfl) s
theorem d8 {n:Nat} {x0 x1 x2 x3:AV} {h:aj} {K:aC} (s:s8 (aD E n) n x0 x1 x2 x3 h K=true):aD E (n+1) (.func 8) [x0,x1,x2,x3] h K=true:=down bZ rfl (Z8 rfl) s
theorem d9 {n:Nat} {x0 x1 x2 x3:AV} {h:aj} {K:aC} (s:s9 (aD E n) n x0 x1 x2 x3 h K=true):aD E (n+1) (.func 9) [x0,x1,x2,x3] h K=true:=down bZ rfl (aal rfl) s
theorem d10 {n:Nat} {x0 x1 x2:AV} {h:aj} {K:aC} (s:s10 (aD E n) n x0 x1 x2 h K=true):aD E (n+1) (.func 10) [x0,x1,x2] h K=true:=down bZ rfl (XC rfl) s
theorem d11 {n:Nat} {x0 x1 x2:AV} {h:aj} {K:aC} (s:s11 (aD E n) n x0 x1 x2 h K=true):aD E (n+1) (.func 11) [x0,x1,x2] h K=true:=down bZ rfl (YR rfl) s
theorem d12 {n:Nat} {x0 x1:AV} {h:aj} {K:aC} (s:s12 (aD E n) n x0 x1 h K=true):aD E (n+1) (.func 12) [x0,x1] h K=true:=down bZ rfl (XI rfl) s
theorem d13 {n:Nat} {x0 x1:AV} {h:aj} {K:aC} (s:s13 (aD E n) n x0 x1 h K=true):aD E (n+1) (.func 13) [x0,x1] h K=true:=down bZ rfl (Wo rfl) s
theorem d14 {n:Nat} {x0:AV} {h:aj} {K:aC} (s:s14 (aD E n) n x0 h K=true):aD E (n+1) (.func 14) [x0] h K=true:=down bZ rfl (XW rfl) s
theorem d15 {n:Nat} {x0:AV} {h:aj} {K:aC} (s:s15 (aD E n) n x0 h K=true):aD E (n+1) (.func 15) [x0] h K=true:=down bZ rfl (YS rfl) s
theorem d16 {n:Nat} {x0:AV} {h:aj} {K:aC} (s:s16 (aD E n) n x0 h K=true):aD E (n+1) (.func 16) [x0] h K=true:=down bZ rfl (Yg rfl) s
theorem d17 {n:Nat} {x0:AV} {h:aj} {K:aC} (s:s17 (aD E n) n x0 h K=true):aD E (n+1) (.func 17) [x0] h K=true:=down bZ rfl (XH rfl) s
theorem d18 {n:Nat} {x0 x1:AV} {h:aj} {K:aC} (s:s18 (aD E n) n x0 x1 h K=true):aD E (n+1) (.func 18) [x0,x1] h K=true:=down bZ rfl (X5 rfl) s
theorem d19 {n:Nat} {x0:AV} {h:aj} {K:aC} (s:s19 (aD E n) n x0 h K=true):aD E (n+1) (.func 19) [x0] h K=true:=down bZ rfl (Xy rfl) s
theorem d20 {n:Nat} {x0 x1 x2:AV} {h:aj} {K:aC} (s:s20 (aD E n) n x0 x1 x2 h K=true):aD E (n+1) (.func 20) [x0,x1,x2] h K=true:=down bZ rfl (Xf rfl) s
theorem d21 {n:Nat} {x0:AV} {h:aj} {K:aC} (s:s21 (aD E n) n x0 h K=true):aD E (n+1) (.func 21) [x0] h K=true:=down bZ rfl (Wh rfl) s
theorem d22 {n:Nat} {x0:AV} {h:aj} {K:aC} (s:s22 (aD E n) n x0 h K=true):aD E (n+1) (.func 22) [x0] h K=true:=down bZ rfl (Xq rfl) s
theorem d23 {n:Nat} {x0 x1:AV} {h:aj} {K:aC} (s:s23 (aD E n) n x0 x1 h K=true):aD E (n+1) (.func 23) [x0,x1] h K=true:=down bZ rfl (Ye rfl) s
theorem d24 {n:Nat} {x0 x1:AV} {h:aj} {K:aC} (s:s24 (aD E n) n x0 x1 h K=true):aD E (n+1) (.func 24) [x0,x1] h K=true:=down bZ rfl (WU rfl) s
theorem d25 {n:Nat} {x0:AV} {h:aj} {K:aC} (s:s25 (aD E n) n x0 h K=true):aD E (n+1) (.func 25) [x0] h K=true:=down bZ rfl (Wx rfl) s
theorem d27 {n:Nat} {x0 x1 x2 x3:AV} {h:aj} {K:aC} (s:s27 (aD E n) n x0 x1 x2 x3 h K=true):aD E (n+1) (.func 27) [x0,x1,x2,x3] h K=true:=down bZ rfl (VJ rfl) s
theorem d28 {n:Nat} {x0 x1:AV} {h:aj} {K:aC} (s:s28 (aD E n) n x0 x1 h K=true):aD E (n+1) (.func 28) [x0,x1] h K=true:=down bZ rfl (Wu rfl) s
theorem d29 {n:Nat} {h:aj} {K:aC} (s:s29 (aD E n) n h K=true):aD E (n+1) (.func 29) [] h K=true:=down bZ rfl (YK rfl) s
theorem d30 {n:Nat} {x0 x1:AV} {h:aj} {K:aC} (s:s30 (aD E n) n x0 x1 h K=true):aD E (n+1) (.func 30) [x0,x1] h K=true:=down bZ rfl (Ws rfl) s
theorem d31 {n:Nat} {x0 x1:AV} {h:aj} {K:aC} (s:s31 (aD E n) n x0 x1 h K=true):aD E (n+1) (.func 31) [x0,x1] h K=true:=down bZ rfl (X4 rfl) s
theorem d32 {n:Nat} {x0 x1 x2:AV} {h:aj} {K:aC} (s:s32 (aD E n) n x0 x1 x2 h K=true):aD E (n+1) (.func 32) [x0,x1,x2] h K=true:=down bZ rfl (XY rfl) s
theorem d33 {n:Nat} {x0 x1:AV} {h:aj} {K:aC} (s:s33 (aD E n) n x0 x1 h K=true):aD E (n+1) (.func 33) [x0,x1] h K=true:=down bZ rfl (Wn rfl) s
theorem d34 {n:Nat} {x0:AV} {h:aj} {K:aC} (s:s34 (aD E n) n x0 h K=true):aD E (n+1) (.func 34) [x0] h K=true:=down bZ rfl (YC rfl) s
theorem d35 {n:Nat} {x0 x1:AV} {h:aj} {K:aC} (s:s35 (aD E n) n x0 x1 h K=true):aD E (n+1) (.func 35) [x0,x1] h K=true:=down bZ rfl (Yc rfl) s
theorem d36 {n:Nat} {x0 x1:AV} {h:aj} {K:aC} (s:s36 (aD E n) n x0 x1 h K=true):aD E (n+1) (.func 36) [x0,x1] h K=true:=down bZ rfl (VN rfl) s
theorem d37 {n:Nat} {x0 x1:AV} {h:aj} {K:aC} (s:s37 (aD E n) n x0 x1 h K=true):aD E (n+1) (.func 37) [x0,x1] h K=true:=down bZ rfl (XM rfl) s
theorem d38 {n:Nat} {x0 x1:AV} {h:aj} {K:aC} (s:s38 (aD E n) n x0 x1 h K=true):aD E (n+1) (.func 38) [x0,x1] h K=true:=down bZ rfl (Yv rfl) s
theorem d39 {n:Nat} {x0 x1:AV} {h:aj} {K:aC} (s:s39 (aD E n) n x0 x1 h K=true):aD E (n+1) (.func 39) [x0,x1] h K=true:=down bZ rfl (WJ rfl) s
theorem d40 {n:Nat} {x0 x1:AV} {h:aj} {K:aC} (s:s40 (aD E n) n x0 x1 h K=true):aD E (n+1) (.func 40) [x0,x1] h K=true:=down bZ rfl (YJ rfl) s
theorem d41 {n:Nat} {x0:AV} {h:aj} {K:aC} (s:s41 (aD E n) n x0 h K=true):aD E (n+1) (.func 41) [x0] h K=true:=down bZ rfl (Yr rfl) s
theorem d42 {n:Nat} {x0 x1:AV} {h:aj} {K:aC} (s:s42 (aD E n) n x0 x1 h K=true):aD E (n+1) (.func 42) [x0,x1] h K=true:=down bZ rfl (Ya rfl) s
theorem d43 {n:Nat} {x0:AV} {h:aj} {K:aC} (s:s43 (aD E n) n x0 h K=true):aD E (n+1) (.func 43) [x0] h K=true:=down bZ rfl (Xo rfl) s
theorem d44 {n:Nat} {x0:AV} {h:aj} {K:aC} (s:s44 (aD E n) n x0 h K=true):aD E (n+1) (.func 44) [x0] h K=true:=down bZ rfl (Yb rfl) s
theorem d45 {n:Nat} {x0 x1:AV} {h:aj} {K:aC} (s:s45 (aD E n) n x0 x1 h K=true):aD E (n+1) (.func 45) [x0,x1] h K=true:=down bZ rfl (XU rfl) s
theorem d46 {n:Nat} {x0 x1:AV} {h:aj} {K:aC} (s:s46 (aD E n) n x0 x1 h K=true):aD E (n+1) (.func 46) [x0,x1] h K=true:=down bZ rfl (YM rfl) s
theorem d47 {n:Nat} {x0 x1:AV} {h:aj} {K:aC} (s:s47 (aD E n) n x0 x1 h K=true):aD E (n+1) (.func 47) [x0,x1] h K=true:=down bZ rfl (X6 rfl) s
theorem d48 {n:Nat} {x0 x1 x2:AV} {h:aj} {K:aC} (s:s48 (aD E n) n x0 x1 x2 h K=true):aD E (n+1) (.func 48) [x0,x1,x2] h K=true:=down bZ rfl (X0 rfl) s
theorem d49 {n:Nat} {x0 x1 x2:AV} {h:aj} {K:aC} (s:s49 (aD E n) n x0 x1 x2 h K=true):aD E (n+1) (.func 49) [x0,x1,x2] h K=true:=down bZ rfl (YF rfl) s
theorem d50 {n:Nat} {x0 x1:AV} {h:aj} {K:aC} (s:s50 (aD E n) n x0 x1 h K=true):aD E (n+1) (.func 50) [x0,x1] h K=true:=down bZ rfl (Yx rfl) s
theorem d52 {n:Nat} {x0:AV} {h:aj} {K:aC} (s:s52 (aD E n) n x0 h K=true):aD E (n+1) (.func 52) [x0] h K=true:=down bZ rfl (Wq rfl) s
theorem d53 {n:Nat} {x0:AV} {h:aj} {K:aC} (s:s53 (aD E n) n x0 h K=true):aD E (n+1) (.func 53) [x0] h K=true:=down bZ rfl (XQ rfl) s
theorem d54 {n:Nat} {x0 x1:AV} {h:aj} {K:aC} (s:s54 (aD E n) n x0 x1 h K=true):aD E (n+1) (.func 54) [x0,x1] h K=true:=down bZ rfl (XE rfl) s
theorem d56 {n:Nat} {x0:AV} {h:aj} {K:aC} (s:s56 (aD E n) n x0 h K=true):aD E (n+1) (.func 56) [x0] h K=true:=down bZ rfl (Yf rfl) s
theorem d57 {n:Nat} {x0 x1:AV} {h:aj} {K:aC} (s:ZI (aD E n) n x0 x1 h K=true):aD E (n+1) (.func 57) [x0,x1] h K=true:=down bZ rfl (XA rfl) s
theorem d58 {n:Nat} {x0 x1:AV} {h:aj} {K:aC} (s:s58 (aD E n) n x0 x1 h K=true):aD E (n+1) (.func 58) [x0,x1] h K=true:=down bZ rfl (Yl rfl) s
theorem d59 {n:Nat} {x0 x1 x2 x3:AV} {h:aj} {K:aC} (s:ZN (aD E n) n x0 x1 x2 x3 h K=true):aD E (n+1) (.func 59) [x0,x1,x2,x3] h K=true:=down bZ rfl (VX rfl) s
theorem d60 {n:Nat} {x0 x1:AV} {h:aj} {K:aC} (s:s60 (aD E n) n x0 x1 h K=true):aD E (n+1) (.func 60) [x0,x1] h K=true:=down bZ rfl (WW rfl) s
theorem d61 {n:Nat} {x0:AV} {h:aj} {K:aC} (s:s61 (aD E n) n x0 h K=true):aD E (n+1) (.func 61) [x0] h K=true:=down bZ rfl (Wd rfl) s
theorem d62 {n:Nat} {x0 x1 x2:AV} {h:aj} {K:aC} (s:s62 (aD E n) n x0 x1 x2 h K=true):aD E (n+1) (.func 62) [x0,x1,x2] h K=true:=down bZ rfl (Yn rfl) s
theorem d64 {n:Nat} {x0 x1:AV} {h:aj} {K:aC} (s:s64 (aD E n) n x0 x1 h K=true):aD E (n+1) (.func 64) [x0,x1] h K=true:=down bZ rfl (WK rfl) s
theorem d65 {n:Nat} {x0 x1:AV} {h:aj} {K:aC} (s:s65 (aD E n) n x0 x1 h K=true):aD E (n+1) (.func 65) [x0,x1] h K=true:=down bZ rfl (WI rfl) s
theorem d66 {n:Nat} {x0 x1 x2 x3:AV} {h:aj} {K:aC} (s:s66 (aD E n) n x0 x1 x2 x3 h K=true):aD E (n+1) (.func 66) [x0,x1,x2,x3] h K=true:=down bZ rfl (VO rfl) s
theorem d67 {n:Nat} {x0 x1 x2:AV} {h:aj} {K:aC} (s:s67 (aD E n) n x0 x1 x2 h K=true):aD E (n+1) (.func 67) [x0,x1,x2] h K=true:=down bZ rfl (Xc rfl) s
theorem d68 {n:Nat} {x0 x1:AV} {h:aj} {K:aC} (s:s68 (aD E n) n x0 x1 h K=true):aD E (n+1) (.func 68) [x0,x1] h K=true:=down bZ rfl (WE rfl) s
theorem d69 {n:Nat} {x0 x1 x2:AV} {h:aj} {K:aC} (s:s69 (aD E n) n x0 x1 x2 h K=true):aD E (n+1) (.func 69) [x0,x1,x2] h K=true:=down bZ rfl (XO rfl) s
theorem d70 {n:Nat} {x0:AV} {h:aj} {K:aC} (s:s70 (aD E n) n x0 h K=true):aD E (n+1) (.func 70) [x0] h K=true:=down bZ rfl (WO rfl) s
theorem d71 {n:Nat} {x0:AV} {h:aj} {K:aC} (s:s71 (aD E n) n x0 h K=true):aD E (n+1) (.func 71) [x0] h K=true:=down bZ rfl (XB rfl) s
theorem d72 {n:Nat} {x0 x1:AV} {h:aj} {K:aC} (s:s72 (aD E n) n x0 x1 h K=true):aD E (n+1) (.func 72) [x0,x1] h K=true:=down bZ rfl (XF rfl) s
theorem d74 {n:Nat} {x0 x1 x2:AV} {h:aj} {K:aC} (s:s74 (aD E n) n x0 x1 x2 h K=true):aD E (n+1) (.func 74) [x0,x1,x2] h K=true:=down bZ rfl (Xj rfl) s
theorem d75 {n:Nat} {x0 x1:AV} {h:aj} {K:aC} (s:s75 (aD E n) n x0 x1 h K=true):aD E (n+1) (.func 75) [x0,x1] h K=true:=down bZ rfl (WL rfl) s
theorem d76 {n:Nat} {x0:AV} {h:aj} {K:aC} (s:s76 (aD E n) n x0 h K=true):aD E (n+1) (.func 76) [x0] h K=true:=down bZ rfl (Wv rfl) s
theorem d77 {n:Nat} {x0:AV} {h:aj} {K:aC} (s:s77 (aD E n) n x0 h K=true):aD E (n+1) (.func 77) [x0] h K=true:=down bZ rfl (YL rfl) s
theorem d78 {n:Nat} {x0:AV} {h:aj} {K:aC} (s:s78 (aD E n) n x0 h K=true):aD E (n+1) (.func 78) [x0] h K=true:=down bZ rfl (Xg rfl) s
theorem d79 {n:Nat} {x0 x1:AV} {h:aj} {K:aC} (s:s79 (aD E n) n x0 x1 h K=true):aD E (n+1) (.func 79) [x0,x1] h K=true:=down bZ rfl (YO rfl) s
theorem d80 {n:Nat} {x0 x1:AV} {h:aj} {K:aC} (s:s80 (aD E n) n x0 x1 h K=true):aD E (n+1) (.func 80) [x0,x1] h K=true:=down bZ rfl (WV rfl) s
theorem d82 {n:Nat} {x0 x1:AV} {h:aj} {K:aC} (s:s82 (aD E n) n x0 x1 h K=true):aD E (n+1) (.func 82) [x0,x1] h K=true:=down bZ rfl (Xl rfl) s
theorem d86 {n:Nat} {x0:AV} {h:aj} {K:aC} (s:s86 (aD E n) n x0 h K=true):aD E (n+1) (.func 86) [x0] h K=true:=down bZ rfl (VQ rfl) s
theorem d87 {n:Nat} {x0:AV} {h:aj} {K:aC} (s:s87 (aD E n) n x0 h K=true):aD E (n+1) (.func 87) [x0] h K=true:=down bZ rfl (YQ rfl) s
theorem d90 {n:Nat} {x0 x1:AV} {h:aj} {K:aC} (s:s90 (aD E n) n x0 x1 h K=true):aD E (n+1) (.func 90) [x0,x1] h K=true:=down bZ rfl (Xv rfl) s
theorem d91 {n:Nat} {x0 x1:AV} {h:aj} {K:aC} (s:s91 (aD E n) n x0 x1 h K=true):aD E (n+1) (.func 91) [x0,x1] h K=true:=down bZ rfl (WC rfl) s
theorem d92 {n:Nat} {x0:AV} {h:aj} {K:aC} (s:s92 (aD E n) n x0 h K=true):aD E (n+1) (.func 92) [x0] h K=true:=down bZ rfl (XG rfl) s
theorem d93 {n:Nat} {x0 x1:AV} {h:aj} {K:aC} (s:s93 (aD E n) n x0 x1 h K=true):aD E (n+1) (.func 93) [x0,x1] h K=true:=down bZ rfl (Xr rfl) s
theorem d95 {n:Nat} {x0 x1:AV} {h:aj} {K:aC} (s:s95 (aD E n) n x0 x1 h K=true):aD E (n+1) (.func 95) [x0,x1] h K=true:=down bZ rfl (YD rfl) s
theorem d96 {n:Nat} {x0 x1:AV} {h:aj} {K:aC} (s:s96 (aD E n) n x0 x1 h K=true):aD E (n+1) (.func 96) [x0,x1] h K=true:=down bZ rfl (Yk rfl) s
theorem acK {n:Nat} {x0:AV} {h:aj} {K:aC} (s:VP (aD E n) n x0 h K=true):aD E (n+1) (.func 109) [x0] h K=true:=down bZ rfl (TT rfl) s
theorem acv {n:Nat} {x0 x1 x2:AV} {h:aj} {K:aC} (s:YE (aD E n) n x0 x1 x2 h K=true):aD E (n+1) (.func 110) [x0,x1,x2] h K=true:=down bZ rfl (TV rfl) s
theorem d26 {n:Nat} {x0 x1:AV} {h:aj} {K:aC} (s:s26 (aD E n) n x0 x1 h K=true):aD E (n+1) (.func 26) [x0,x1] h K=true:=down bZ rfl (Yd rfl) s
theorem d51 {n:Nat} {x0 x1 x2:AV} {h:aj} {K:aC} (s:s51 (aD E n) n x0 x1 x2 h K=true):aD E (n+1) (.func 51) [x0,x1,x2] h K=true:=down bZ rfl (Xb rfl) s
theorem d55 {n:Nat} {x0 x1:AV} {h:aj} {K:aC} (s:s55 (aD E n) n x0 x1 h K=true):aD E (n+1) (.func 55) [x0,x1] h K=true:=down bZ rfl (Ym rfl) s
theorem d81 {n:Nat} {x0 x1 x2:AV} {h:aj} {K:aC} (s:s81 (aD E n) n x0 x1 x2 h K=true):aD E (n+1) (.func 81) [x0,x1,x2] h K=true:=down bZ rfl (XV rfl) s
theorem d83 {n:Nat} {x0 x1 x2:AV} {h:aj} {K:aC} (s:s83 (aD E n) n x0 x1 x2 h K=true):aD E (n+1) (.func 83) [x0,x1,x2] h K=true:=down bZ rfl (Yq rfl) s
theorem QX (call:ay) (n:Nat) (m:Nat) (x0 x4 x13 x14 x15:AV) (h:aj) (K:aC):vQ call n (m+1) x0 x4 x13 x14 x15 h K=FM call n (fun x0 x4 x13 x14 x15 h=>vQ call n m x0 x4 x13 x14 x15 h K) x0 x4 x13 x14 x15 h K:=rfl
theorem Qh (call:ay) (n:Nat) (m:Nat) (x0 x1 x5 x6:AV) (h:aj) (K:aC):yK call n (m+1) x0 x1 x5 x6 h K=FL call n (fun x0 x1 x5 x6 h=>yK call n m x0 x1 x5 x6 h K) x0 x1 x5 x6 h K:=rfl
theorem RS (call:ay) (n:Nat) (id:Nat) (m:Nat) (x7 x8 x43 x44 x45:AV) (h:aj) (K:aC):yL call n id (m+1) x7 x8 x43 x44 x45 h K=Fe call n id (fun x7 x8 x43 x44 x45 h=>yL call n id m x7 x8 x43 x44 x45 h K) x7 x8 x43 x44 x45 h K:=rfl
theorem Qj (call:ay) (n:Nat) (m:Nat) (x2 x7 x8 x58 x59 x60:AV) (h:aj) (K:aC):yG call n (m+1) x2 x7 x8 x58 x59 x60 h K=F9 call n (fun x2 x7 x8 x58 x59 x60 h=>yG call n m x2 x7 x8 x58 x59 x60 h K) x2 x7 x8 x58 x59 x60 h K:=rfl
theorem qy (call:ay) (n:Nat) (m:Nat) (x6 x25 x26 x27:AV) (h:aj) (K:aC):Co call n (m+1) x6 x25 x26 x27 h K=rz call n (fun x6 x25 x26 x27 h=>Co call n m x6 x25 x26 x27 h K) x6 x25 x26 x27 h K:=rfl
theorem Gl (call:ay) (n:Nat) (m:Nat) (x0 x3 x9 x10 x11:AV) (h:aj) (K:aC):Jy call n (m+1) x0 x3 x9 x10 x11 h K=Es call n (fun x0 x3 x9 x10 x11 h=>Jy call n m x0 x3 x9 x10 x11 h K) x0 x3 x9 x10 x11 h K:=rfl
theorem RI (call:ay) (n:Nat) (m:Nat) (x0 x1 x6 x16 x17 x18:AV) (h:aj) (K:aC):yA call n (m+1) x0 x1 x6 x16 x17 x18 h K=FU call n (fun x0 x1 x6 x16 x17 x18 h=>yA call n m x0 x1 x6 x16 x17 x18 h K) x0 x1 x6 x16 x17 x18 h K:=rfl
theorem RZ (call:ay) (n:Nat) (m:Nat) (x1 x2 x5 x47 x48 x49:AV) (h:aj) (K:aC):yE call n (m+1) x1 x2 x5 x47 x48 x49 h K=GL call n (fun x1 x2 x5 x47 x48 x49 h=>yE call n m x1 x2 x5 x47 x48 x49 h K) x1 x2 x5 x47 x48 x49 h K:=rfl
theorem Ua (call:ay) (n:Nat) (m:Nat) (x0 x1 x7 x8:AV) (h:aj) (K:aC):EL call n (m+1) x0 x1 x7 x8 h K=Ni call n (fun x0 x1 x7 x8 h=>EL call n m x0 x1 x7 x8 h K) x0 x1 x7 x8 h K:=rfl
theorem QZ (call:ay) (n:Nat) (m:Nat) (x0 x2 x7:AV) (h:aj) (K:aC):yQ call n (m+1) x0 x2 x7 h K=E9 call n (fun x0 x2 x7 h=>yQ call n m x0 x2 x7 h K) x0 x2 x7 h K:=rfl
theorem U3 (call:ay) (n:Nat) (m:Nat) (x0 x1 x5:AV) (h:aj) (K:aC):DJ call n (m+1) x0 x1 x5 h K=NR call n (fun x0 x1 x5 h=>DJ call n m x0 x1 x5 h K) x0 x1 x5 h K:=rfl
abbrev Str:=List Nat
def nJ (b:Int):Bool:=(decide (97≤b)&&decide (b≤122))||(decide (65≤b)&&decide (b≤90))
def idx (s:Str):List Str→Option Nat
 | []=>none
 |c :: l=>if c=s then some 0 else(idx s l).map (· + 1)
def fint:Option Nat→Int
 |none=> -1
 |some k=>k
def off (i:Nat):Option Nat→Option Nat
 |none=>none
 |some k=>some (i+k)
theorem mE {s:Str}:∀{l:List Str} {i:Nat},idx s l=some i→i<l.length∧l[i]? =some s
 | [],i,h=>by cases h
 |c :: l,i,h=>by
  simp only[idx] at h
  by_cases e:c=s
  ·rw[if_pos e] at h;cases h;simp[e]
  ·rw[if_neg e] at h
   cases hi:idx s l with
   |none=>rw[hi] at h;cases h
   |some j=>
    rw[hi] at h;cases h
    have:=mE hi
    refine⟨?_, ?_⟩
    ·simp;omega
    ·simpa using this.2
theorem wQ {s:Str}:∀{l:List Str},idx s l=none↔s ∉ l
 | []=>by simp[idx]
 |c :: l=>by
  simp only[idx]
  by_cases e:c=s
  ·simp[e]
  ·rw[if_neg e]
   have:=wQ (s:=s) (l:=l)
   cases hi:idx s l with
   |none=>rw[hi] at this;simp at this;simp[this];exact fun h=>e h.symm
   |some j=>rw[hi] at this;simp at this;simp[this]
def Named (es:List (List AV)) (l:List Str):Prop:=gM (fun e s=>nth e 0=some (.str s)) es l
theorem Ep {k:Nat} {n:Nat} {h:aj} {v:AV} {es:List (List AV)} {ns:List Str} {s:Str} {K:aC} {B:AV→AV→AV→aj→Bool} (V:View h k v es) (N:Named es ns) {i:Nat} (hi:i<ns.length):
 ∃id g j,bS h k v (.int .i64 (i:Int))=some (.ptr id g j 0)∧au h false 1 (.ptr id g j 0)=some (.str ns[i])∧∃e,es[i]? =some e:=by
 obtain⟨e,he,hn⟩:=N.get (List.getElem?_eq_getElem hi)
 obtain⟨id,g,j,p1,p2⟩:=V.at he
 exact⟨id,g,j,p1 _,by rw[p2,bY,hn],e,he⟩
theorem Ta (o:Option Nat):off 0 o=o:=by cases o<;>simp[off]
def Yo:List Str:=[[99,108,97,115,115],[101,120,116,101,110,100,115],[114,117,108,101],[113,117,101,114,121],[119,104,101,110],[116,104,101,110],[101,110,100],[115,97,108,105,101,110,99,101],[103,114,111,117,112],[102,108,111,119],[110,111,108,111,111,112],[108,111,99,107],[110,111,116],[101,120,105,115,116,115],[102,111,114,97,108,108],[111,114],[102,114,111,109],[101,118,97,108],[97,99,99],[111,118,101,114],[105,110,115,101,114,116],[108,111,103,105,99,97,108],[117,112,100,97,116,101],[100,101,108,101,116,101],[102,111,99,117,115],[112,114,105,110,116],[104,97,108,116],[116,114,117,101],[102,97,108,115,101],[110,117,108,108],[115,105,122,101],[104,97,115],[105,110,116],[98,111,111,108],[116,101,120,116],[108,105,115,116],[97,110,121],[114,101,102]]
def isKey (s:Str):Bool:=(idx s Yo).isSome
theorem Hl {s:Str} (h:s ∉ Yo):isKey s=false:=by
 simp only[isKey,wQ.2 h,Option.isSome_none]
theorem JU {s:Str} (h:s∈Yo):isKey s=true:=by
 cases e:idx s Yo with
 |none=>exact absurd h (wQ.1 e)
 |some i=>simp only[isKey,e,Option.isSome_some]
theorem u54 {n:Nat} {s:Str} {h:aj} {K:aC} (k:K (.bool (isKey s)) h=true):aD E (n+1) (.func 92) [.str s] h K=true:=by
 apply d92
 unfold s92 eB
 by_cases hk:s∈Yo
 ·rw[JU hk] at k
  simp only[mW,ak,BR,decide_eq_true_eq,k]
  simp only[Yo,List.mem_cons,List.not_mem_nil,or_false] at hk
  repeat (first |(rcases hk with hk |hk;· subst hk;simp)|(subst hk;simp))
 ·rw[Hl hk] at k
  simp only[Yo,List.mem_cons,List.not_mem_nil,or_false,not_or] at hk
  simp only[mW,ak,BR,decide_eq_true_eq,hk,if_false,k]
def okc (c:Int):Bool:=nJ c||(decide (48≤c)&&decide (c≤57))||decide (c=95)
def scan:Nat→Str→Bool
 |_,[]=>true
 |i,c :: l=>(nJ (c:Int)||(decide (i≠0)&&okc (c:Int)))&&scan (i+1) l
def isName (s:Str):Bool:=scan 0 s&&decide (1≤s.length)&&decide (s.length≤64)&& !isKey s
theorem Fy (c:Int) (k:AV→Bool):
 (ah (aR (BinOp.geq) (.int .u8 c) (AV.int (IntKind.u8) 97)) fun v4=>ah (aQ (aB v4 true) (some (.int .u8 c))) fun v5=>ah (aQ (aB v4 true) (aR (BinOp.leq) v5 (AV.int (IntKind.u8) 122))) fun v6=>ah (cB v4 v6 (AV.bool false)) fun v7=>ah (aQ (aB v7 false) (some (.int .u8 c))) fun v8=>ah (aQ (aB v7 false) (aR (BinOp.geq) v8 (AV.int (IntKind.u8) 65))) fun v9=>ah (aQ (aB v7 false) (some v9)) fun v10=>ah (aQ (aB v10 true) (some (.int .u8 c))) fun v11=>ah (aQ (aB v10 true) (aR (BinOp.leq) v11 (AV.int (IntKind.u8) 90))) fun v12=>ah (aQ (aB v7 false) (cB v10 v12 (AV.bool false))) fun v13=>ah (cB v7 (AV.bool true) v13) fun v14=>k v14)=k (.bool (nJ c)):=by
 unfold nJ
 by_cases h1:97≤c<;>by_cases h2:c≤122<;>by_cases h3:65≤c<;>by_cases h4:c≤90<;>simp[h1,h2,h3,h4]
theorem JX (c i:Int) (L:Bool) (k:AV→Bool):
 (ah (fT (.bool L)) fun v15=>ah (aQ (aB v15 true) (some (.int .i64 i))) fun v16=>ah (aQ (aB v15 true) (aR (BinOp.eql) v16 (AV.int (IntKind.i64) 0))) fun v17=>ah (aQ (aB v15 true) (some v17)) fun v18=>ah (aQ (aB v18 false) (some (.int .u8 c))) fun v19=>ah (aQ (aB v18 false) (aR (BinOp.neq) v19 (AV.int (IntKind.u8) 95))) fun v20=>ah (aQ (aB v18 false) (some v20)) fun v21=>ah (aQ (aB v21 true) (some (.int .u8 c))) fun v22=>ah (aQ (aB v21 true) (aR (BinOp.lss) v22 (AV.int (IntKind.u8) 48))) fun v23=>ah (aQ (aB v21 true) (some v23)) fun v24=>ah (aQ (aB v24 false) (some (.int .u8 c))) fun v25=>ah (aQ (aB v24 false) (aR (BinOp.gtr) v25 (AV.int (IntKind.u8) 57))) fun v26=>ah (aQ (aB v21 true) (cB v24 (AV.bool true) v26)) fun v27=>ah (aQ (aB v18 false) (cB v21 v27 (AV.bool false))) fun v28=>ah (aQ (aB v15 true) (cB v18 (AV.bool true) v28)) fun v29=>ah (cB v15 v29 (AV.bool false)) fun v30=>k v30)
 =k (.bool (!L&&(decide (i=0)||(!decide (c=95)&&(decide (c<48)||decide (57<c)))))):=by
 cases L
 ·by_cases h5:i=0
  ·simp[h5]
  ·by_cases h6:c=95
   ·simp[h5,h6]
   ·by_cases h7:c<48<;>by_cases h8:57<c<;>simp[h5,h6,h7,h8]
 ·simp
theorem KO {n:Nat} {h:aj} {s:Str} {K:aC} (k:K (.bool (decide (1≤s.length)&&decide (s.length≤64)&& !isKey s)) h=true):Fq (aD E (n+1)) (n+1) (.str s) h K=true:=by
 unfold Fq
 simp only[ug,ak,nP]
 have e1:(decide ((1:Int)≤(s.length:Int)))=decide (1≤s.length):=by congr 1;apply propext;omega
 have e2:(decide ((s.length:Int)≤64))=decide (s.length≤64):=by congr 1;apply propext;omega
 rw[e1]
 cases h1:decide (1≤s.length) with
 |false=>rw[h1] at k;simp at k ⊢;exact k
 |true=>
  rw[h1] at k
  simp[e2] at k ⊢
  by_cases h2:s.length≤64
  ·simp[h2] at k ⊢
   exact u54 (by simpa using k)
  ·simp[h2] at k ⊢
   exact k
theorem OE (c i:Nat) (l:Str):(!nJ (c:Int)&&(decide ((i:Int)=0)||(!decide ((c:Int)=95)&&(decide ((c:Int)<48)||decide (57<(c:Int))))))= !(nJ (c:Int)||(decide (i≠0)&&okc (c:Int))):=by
 unfold okc
 have e0:decide ((i:Int)=0)=decide (i=0):=by congr 1;apply propext;omega
 have e7:decide (48≤(c:Int))= !decide ((c:Int)<48):=by
  by_cases hh:(c:Int)<48
  ·simp[hh]
  ·simp[hh];omega
 have e8:decide ((c:Int)≤57)= !decide (57<(c:Int)):=by
  by_cases hh:57<(c:Int)
  ·simp[hh]
  ·simp[hh];omega
 rw[e0,e7,e8]
 by_cases hi:i=0<;>cases nJ (c:Int)<;>cases decide ((c:Int)=95)<;>cases decide ((c:Int)<48)<;>cases decide (57<(c:Int))<;>simp[hi]
theorem l43 {n:Nat} {h:aj} {s:Str} {K:aC} (hL:s.length<lim)
 (k:K (.bool (isName s)) h=true):∀(m i:Nat),i≤s.length→s.length-i<m→isName s=(scan i (s.drop i)&&decide (1≤s.length)&&decide (s.length≤64)&& !isKey s)→
 Jr (aD E (n+1)) (n+1) m (.str s) (.int .i64 (s.length:Int)) (.int .i64 (i:Int)) h K=true:=by
 intro m
 induction m with
 |zero=>intro i _ hm;omega
 |succ m ih=>
  intro i hi hm he
  unfold Jr QV
  by_cases hlt:i<s.length
  ·have hd:s.drop i=s[i] :: s.drop (i+1):=List.drop_eq_getElem_cons hlt
   have hc:=MU (k:= .i64) (List.getElem?_eq_getElem hlt)
   rw[hd] at he
   simp only[scan] at he
   rw[eF,ak,dB (by simpa using hlt),hc,ak,Fy,JX,OE s[i] i []]
   cases hok:(nJ (s[i]:Int)||(decide (i≠0)&&okc (s[i]:Int))) with
   |true=>
    rw[hok,Bool.true_and] at he
    rw[dG (show(!true)=false from rfl),dV (show i<lim by omega),ak]
    exact ih (i+1) (by omega) (by omega) he
   |false=>
    rw[hok] at he
    simp only[Bool.false_and] at he
    rw[he] at k
    rw[dB (show(!false)=true from rfl)]
    exact k
  ·have hd:s.drop i=[]:=List.drop_of_length_le (by omega)
   rw[hd] at he
   simp only[scan,Bool.true_and] at he
   rw[he] at k
   rw[eF,ak,dG (by simpa using hlt)]
   exact KO k
theorem u43 {n:Nat} {h:aj} {s:Str} {K:aC} (hn:s.length≤n) (hL:s.length<lim) (k:K (.bool (isName s)) h=true):aD E (n+2) (.func 78) [.str s] h K=true:=by
 apply d78
 unfold s78
 simp only[ug,ak]
 exact l43 hL k (n+1) 0 (by omega) (by omega) rfl
structure lK where
 name:Str
 ty:Int
 cls:Str
structure Cls where
 name:Str
 super:Str
 fields:List lK
def dZ (f:lK):List AV:=[.str f.name, .int .i64 f.ty, .str f.cls]
def Jg (h:aj) (a:List AV) (c:Cls):Prop:=∃v,a=[.str c.name, .str c.super,v]∧View h 3 v (c.fields.map dZ)
def CV (h:aj) (v:AV) (l:List Cls):Prop:=∃es,View h 3 v es∧gM (Jg h) es l
def names (l:List Cls):List Str:=l.map Cls.name
theorem Jg.ext {h h':aj} {a:List AV} {c:Cls} (R:Jg h a c) (e:Ext h h'):Jg h' a c:=let⟨v,h1,h2⟩:=R;⟨v,h1,h2.ext e⟩
theorem CV.ext {h h':aj} {v:AV} {l:List Cls} (R:CV h v l) (e:Ext h h'):CV h' v l:=let⟨es,h1,h2⟩:=R;⟨es,h1.ext e,h2.mono fun _ _ r=>r.ext e⟩
theorem CV.named {h:aj} {v:AV} {l:List Cls} (R:CV h v l):∃es,View h 3 v es∧gM (Jg h) es l∧Named es (names l):=by
 obtain⟨es,h1,h2⟩:=R
 refine⟨es,h1,h2, ?_⟩
 clear h1
 induction h2 with
 |nil=>exact .nil
 |cons r _ ih=>obtain⟨v,rfl,_⟩:=r;exact .cons rfl ih
theorem CV.len {h:aj} {v:AV} {l:List Cls} (R:CV h v l):dw h 1 v=some (.int .i64 (l.length:Int)):=by
 obtain⟨es,h1,h2⟩:=R;rw[h1.len,h2.length]
theorem CV.at {h:aj} {v:AV} {l:List Cls} (R:CV h v l) {i:Nat} {c:Cls} (hi:l[i]? =some c):
 ∃id g j f,bS h 3 v (.int .i64 (i:Int))=some (.ptr id g j 0)∧au h true 3 (.ptr id g j 0)=some (.agg [.str c.name, .str c.super,f])∧au h false 1 (.ptr id g j 0)=some (.str c.name)∧au h false 1 (.ptr id g j 1)=some (.str c.super)∧au h false 1 (.ptr id g j 2)=some f∧View h 3 f (c.fields.map dZ):=by
 obtain⟨es,h1,h2⟩:=R
 obtain⟨e,he,f,rfl,hf⟩:=h2.get hi
 obtain⟨id,g,j,p1,p2⟩:=h1.at he
 exact⟨id,g,j,f,p1 _,by rw[p2];rfl,by rw[p2];rfl,by rw[p2];rfl,by rw[p2];rfl,hf⟩
theorem CV.at2 {h0 h:aj} {v:AV} {l:List Cls} (R:CV h0 v l) (x:Ext h0 h) {i:Nat} {c:Cls} (hi:l[i]? =some c):
 ∃id g j f,bS h 3 v (.int .i64 (i:Int))=some (.ptr id g j 0)∧au h true 3 (.ptr id g j 0)=some (.agg [.str c.name, .str c.super,f])∧au h false 1 (.ptr id g j 0)=some (.str c.name)∧au h false 1 (.ptr id g j 1)=some (.str c.super)∧au h false 1 (.ptr id g j 2)=some f∧View h0 3 f (c.fields.map dZ):=by
 obtain⟨es,h1,h2⟩:=R
 obtain⟨e,he,f,rfl,hf⟩:=h2.get hi
 obtain⟨id,g,j,p1,p2⟩:=(h1.ext x).at he
 exact⟨id,g,j,f,p1 _,by rw[p2];rfl,by rw[p2];rfl,by rw[p2];rfl,by rw[p2];rfl,hf⟩
def fJ (h:aj) (t:AV) (l:List Cls):Prop:=
 ∃id lv mid,t= .ptr id 0 0 0∧Var h id [lv, .map mid]∧CV h lv l∧ig h mid (fun s=>(idx s (names l)).map fun i=> .int .i64 (i:Int))
theorem fJ.ext {h h':aj} {t:AV} {l:List Cls} (T:fJ h t l) (e:Ext h h'):fJ h' t l:=
 let⟨id,lv,mid,h1,h2,h3,h4⟩:=T;⟨id,lv,mid,h1,h2.ext e,h3.ext e,h4.ext e⟩
theorem u19 {n:Nat} {h:aj} {t:AV} {l:List Cls} {s:Str} {K:aC} (T:fJ h t l) (k:K (.bool (idx s (names l)).isSome) h=true):aD E (n+1) (.func 54) [t, .str s] h K=true:=by
 obtain⟨id,lv,mid,rfl,V,C,M⟩:=T
 apply d54
 unfold s54
 simp only[jX,ak,cO,V.load,bY,fE,dR,M.look2,tu]
 cases hi:idx s (names l)<;>(rw[hi] at k;exact k)
theorem u38 {n:Nat} {h:aj} {id:Nat} {s:Str} {K:aC} (k:K (.fn (.func 81) [] [.ptr h.sz 0 0 0, .ptr (h.sz+1) 0 0 0]) (Ab.newRow (Ab.newRow h [[.ptr id 0 0 0]] 1) [[.str s]] 1)=true):aD E (n+1) (.func 55) [.ptr id 0 0 0, .str s] h K=true:=by
 apply d55
 unfold s55
 rw[lM (n:=1) rfl (by decide) rfl,dD,lM (n:=1) rfl (by decide) rfl,dD,ak]
 exact k
def nX:Nat→List Cls→Str→List Cls
 |0,_,_=>[]
 |k+1,l,s=>match idx s (names l) with
  |none=>[]
  |some i=>match l[i]? with
   |some c=>c :: nX k l c.super
   |none=>[]
def Asc (l:List Cls):Prop:=∀(i:Nat) c,l[i]? =some c→∀j,idx c.super (names l)=some j→j<i
def chain (l:List Cls) (s:Str):List Cls:=nX (l.length+1) l s
theorem Pb {l:List Cls} {i:Nat}:(names l)[i]? =(l[i]?).map Cls.name:=by simp[names]
theorem eD (l:List Cls):(names l).length=l.length:=by simp[names]
theorem nE {l:List Cls} {s:Str} {i:Nat} (h:idx s (names l)=some i):∃c,l[i]? =some c∧c.name=s:=by
 obtain⟨h1,h2⟩:=mE h
 rw[Pb] at h2
 cases hc:l[i]? with
 |none=>rw[hc] at h2;cases h2
 |some c=>rw[hc] at h2;simp at h2;exact⟨c,rfl,h2⟩
theorem Di {l:List Cls} (A:Asc l):∀(i:Nat) {s:Str},idx s (names l)=some i→∀k k',i<k→i<k'→nX k l s=nX k' l s:=by
 intro i
 induction i using Nat.strongRecOn with
 |_ i ih=>
  intro s hs k k' hk hk'
  obtain⟨k,rfl⟩:∃j,k=j+1:=⟨k-1,by omega⟩
  obtain⟨k',rfl⟩:∃j,k'=j+1:=⟨k'-1,by omega⟩
  obtain⟨c,hc,_⟩:=nE hs
  simp only[nX,hs,hc]
  congr 1
  cases hj:idx c.super (names l) with
  |none=>
   cases k<;>cases k'<;>simp[nX,hj]
  |some j=>
   have:=A i c hc j hj
   exact ih j this hj k k' (by omega) (by omega)
theorem gF {l:List Cls} {s:Str} (h:idx s (names l)=none):chain l s=[]:=by simp[chain,nX,h]
theorem jY {l:List Cls} (A:Asc l) {s:Str} {i:Nat} {c:Cls} (h:idx s (names l)=some i) (hc:l[i]? =some c):chain l s=c :: chain l c.super:=by
 have hi:i<l.length:=(List.getElem?_eq_some_iff.1 hc).1
 show nX (l.length+1) l s=_
 simp only[nX,h,hc]
 congr 1
 cases hj:idx c.super (names l) with
 |none=>rw[gF hj];cases hl:l.length<;>simp[nX,hj]
 |some j=>exact Di A j hj _ _ (by have:=A i c hc j hj;omega) (by have:=A i c hc j hj;omega)
theorem yY {l:List Cls} (A:Asc l):∀(i:Nat) {s:Str},idx s (names l)=some i→∀c∈chain l s,c∈l:=by
 intro i
 induction i using Nat.strongRecOn with
 |_ i ih=>
  intro s hs c hc
  obtain⟨d,hd,_⟩:=nE hs
  rw[jY A hs hd] at hc
  rcases List.mem_cons.1 hc with rfl |hc
  ·exact List.mem_of_getElem? hd
  ·cases hj:idx d.super (names l) with
   |none=>rw[gF hj] at hc;cases hc
   |some j=>exact ih j (A i d hd j hj) hj c hc
theorem rD {l:List Cls} (A:Asc l):∀(i:Nat) {s:Str},idx s (names l)=some i→(chain l s).length≤i+1:=by
 intro i
 induction i using Nat.strongRecOn with
 |_ i ih=>
  intro s hs
  obtain⟨d,hd,_⟩:=nE hs
  rw[jY A hs hd]
  cases hj:idx d.super (names l) with
  |none=>rw[gF hj];simp
  |some j=>have:=ih j (A i d hd j hj) hj;have:=A i d hd j hj;simp;omega
theorem l50 {n:Nat} {hb:aj} {t:AV} {l:List Cls} {y p1 p2:Nat} {K:aC} (A:Asc l) (T:fJ hb t l) (Inv:List Cls→aj→Prop) (Stop:aj→Prop)
 (hI:∀r h,Inv r h→Ext hb h∧Var h p1 [t])
 (step:∀c r h f K,Inv (c :: r) h→View hb 3 f (c.fields.map dZ)→(∀h',Inv r h'→K (.bool true) h'=true)→(∀h',Stop h'→K (.bool false) h'=true)→aD E n (.yield y) [.agg [.str c.name, .str c.super,f]] h K=true)
 (fin:∀h,Inv [] h→K (.tup []) h=true) (stop:∀h,Stop h→K (.tup []) h=true):∀(m:Nat) (s:Str) (h:aj),Inv (chain l s) h→(chain l s).length<m→
   Jp (aD E n) n m (.fn (.yield y) [] []) (.ptr p1 0 0 0) (((idx s (names l)).map fun i:Nat=>AV.int .i64 (i:Int)).getD (.int .i64 0)) (.bool (idx s (names l)).isSome) h K=true:=by
 obtain⟨id,lv,mid,rfl,V2,C,M⟩:=T
 intro m
 induction m with
 |zero=>intro s h _ hm;omega
 |succ m ih=>
  intro s h hinv hm
  obtain⟨xe,V⟩:=hI _ _ hinv
  unfold Jp Tz
  cases hs:idx s (names l) with
  |none=>
   rw[gF hs] at hinv
   rw[Option.isSome_none,fM]
   exact fin h hinv
  |some i=>
   obtain⟨c,hc,_⟩:=nE hs
   rw[jY A hs hc] at hinv hm
   obtain⟨a1,a2,a3,f,q1,q2,q3,q4,q5,q6⟩:=C.at2 xe hc
   rw[Option.isSome_some,fV]
   simp only[V.load,bY,Nat.zero_add,dR,ak,jX,cO,(V2.ext xe).load,Option.map_some,Option.getD_some,q1,q2,BK,List.nil_append,List.append_nil]
   refine step c _ h f _ hinv q6 ?_ ?_
   ·intro h' hinv'
    obtain⟨xe',V'⟩:=hI _ _ hinv'
    obtain⟨b1,b2,b3,f',r1,r2,r3,r4,r5,r6⟩:=C.at2 xe' hc
    simp only[gH,Bool.not_true,ak,fM,V'.load,bY,dR,fE,jX,cO,(V2.ext xe').load,r1,r4,(M.ext xe').look2,tu,Nat.zero_add]
    have:=ih c.super h' hinv' (by simp at hm;omega)
    cases hj:idx c.super (names l) with
    |none=>rw[hj] at this;simpa using this
    |some j=>rw[hj] at this;simpa using this
   ·intro h' hst
    simp only[gH,Bool.not_false,ak,fV]
    exact stop h' hst
theorem zm {a b:Str} {f:AV} (h:f.leaf=true):aV (AV.agg [AV.str a,AV.str b,f]).cells=true:=by
 show(bif f.leaf then aV [] else false)=true
 rw[h];rfl
def Lp (regs:dY) (ps:List Nat) (asg body:dO) (st:AX):iq:= .loop {regs,ps,asg,body,st}
theorem Gq {h:aj} {id:Nat} {regs:dY} {ps:List Nat} {asg body:dO} {k:aj→Bool} (hg:h.get id=some (Lp regs ps asg body .ready)):wV id h k=k (h.put id (Lp regs ps asg body .busy)):=by
 unfold wV Lp at *;simp only[hg]
theorem vP {h:aj} {id:Nat} {regs:dY} {ps:List Nat} {asg body:dO} {K:aC} (hg:h.get id=some (Lp regs ps asg body .busy)):wW id K .normal h=K (.bool true) (h.put id (Lp regs ps asg body .ready)):=by
 unfold wW Lp at *;simp only[hg]
theorem UK {h:aj} {id:Nat} {regs:dY} {ps:List Nat} {asg body:dO} {K:aC} (hg:h.get id=some (Lp regs ps asg body .busy)):wW id K .ret h=K (.bool false) (h.put id (Lp regs ps asg body (.done .ret))):=by
 unfold wW Lp at *;simp only[hg]
theorem SF {n:Nat} {h hb:aj} {t:AV} {l:List Cls} {s:Str} {p1 p2:Nat} {regs:dY} {ps:List Nat} {asg body:dO} {Kx:qC→aj→Bool} (A:Asc l) (T:fJ hb t l) (hm:l.length+1<n) (Inv:List Cls→aj→Prop) (Stop:qC→aj→Prop)
 (V2:Var (h.push (Lp regs ps asg body .ready)) p2 [.str s])
 (hI:∀r h',Inv r h'→Ext hb h'∧Var h' p1 [t]∧h'.get h.sz=some (Lp regs ps asg body .ready))
 (start:Inv (chain l s) (h.push (Lp regs ps asg body .ready)))
 (step:∀c r h' f K,Inv (c :: r) h'→View hb 3 f (c.fields.map dZ)→(∀h'',Inv r h''→K (.bool true) h''=true)→(∀x h'',Stop x h''→K (.bool false) h''=true)→aD E n (.yield h.sz) [.agg [.str c.name, .str c.super,f]] h' K=true)
 (fin:∀h',Inv [] h'→Kx .normal (h'.put h.sz (Lp regs ps asg body .exh))=true)
 (stop:∀x h',Stop x h'→h'.get h.sz=some (Lp regs ps asg body (.done x))∧Kx x (h'.put h.sz (Lp regs ps asg body .exh))=true):
 VT (aD E (n+1)) (.fn (.func 81) [] [.ptr p1 0 0 0, .ptr p2 0 0 0]) regs ps asg body h Kx=true:=by
 unfold VT
 simp only[List.nil_append,List.cons_append]
 apply d81
 unfold s81
 obtain⟨xe,V1,hg⟩:=hI _ _ start
 have T0:=T
 obtain⟨id,lv,mid,rfl,V,C,M⟩:=T
 have hs:h.push (.loop {regs,ps,asg,body,st:= .ready})=h.push (Lp regs ps asg body .ready):=rfl
 rw[hs]
 simp only[V1.load,bY,dR,fE,ak,jX,cO,Nat.zero_add,(V.ext xe).load,V2.load,(M.ext xe).look2,tu]
 have key:(chain l s).length<n:=by
  cases hi:idx s (names l) with
  |none=>rw[gF hi];simp;omega
  |some i=>
   have h1:=rD A i hi
   have h2:=(mE hi).1
   rw[eD] at h2
   omega
 have:=l50 (n:=n) (t:= .ptr id 0 0 0) (l:=l) (y:=h.sz) (p1:=p1) (p2:=p2) (K:=fun _ h'=>match h'.get h.sz with
  |some (.loop l)=>match l.st with
   | .ready=>Kx .normal (h'.put h.sz (.loop {l with st:= .exh}))
   | .done x=>Kx x (h'.put h.sz (.loop {l with st:= .exh}))
   |_=>false
  |_=>false) A T0 Inv (fun h'=>∃x,Stop x h') (fun r h' hi=>⟨(hI r h' hi).1,(hI r h' hi).2.1⟩)
  (fun c r h' f K hi hf k1 k2=>step c r h' f K hi hf k1 (fun x h'' hst=>k2 h'' ⟨x,hst⟩))
  (fun h' hi=>by
    have hg':=(hI _ _ hi).2.2
    simp only[hg',Lp]
    exact fin h' hi)
  (fun h' ⟨x,hst⟩=>by
    obtain⟨g1,g2⟩:=stop x h' hst
    simp only[g1,Lp]
    exact g2) n s _ start key
 cases hi:idx s (names l) with
 |none=>rw[hi] at this;exact this
 |some i=>rw[hi] at this;exact this
theorem eX (h:aj) (o:iq):(h.push o).get h.sz=some o:=by rw[aj.get_push,if_pos rfl]
theorem eU (h:aj) (id:Nat) (o:iq):(h.put id o).get id=some o:=by rw[aj.get_put,if_pos rfl]
theorem jZ {h:aj} {id j:Nat} {o:iq} (e:j≠id):(h.put id o).get j=h.get j:=by rw[aj.get_put,if_neg e]
structure aaD (h0:aj) (t:AV) (l:List Cls) (of:Str) (b:Bool) (regs:dY) (r:List Cls) (h:aj):Prop where
 ext:Ext h0 h
 ok:h.Ok
 sz:h0.sz+5≤h.sz
 a:Var h h0.sz [.str of]
 res:Var h (h0.sz+1) [.bool false]
 p:Var h (h0.sz+2) [t]
 y:h.get (h0.sz+4)=some (Lp regs [11] kP kV .ready)
 any:b=r.any fun c=>decide (c.name=of)
theorem u14 {n:Nat} {h:aj} {t:AV} {l:List Cls} {s of:Str} {K:aC} (T:fJ h t l) (A:Asc l) (ho:h.Ok) (hn:l.length+4<n)
 (k:∀h',Ext h h'→h'.Ok→K (.bool ((chain l s).any fun c=>decide (c.name=of))) h'=true):aD E (n+2) (.func 83) [t, .str s, .str of] h K=true:=by
 obtain⟨id,lv,mid,rfl,V0,C0,M0⟩:=T
 have T:fJ h (.ptr id 0 0 0) l:=⟨id,lv,mid,rfl,V0,C0,M0⟩
 apply d83
 unfold s83
 rw[lM (n:=1) rfl (by decide) rfl,dD,alloc_eq (by decide) rfl,dD]
 have o1:=cZ ho [[AV.str of]] 1
 have e1:=bU ho [[AV.str of]] 1
 have V1:=eY h [AV.str of]
 have o2:=cZ o1 [[AV.bool false]] 1
 have e2:=bU o1 [[AV.bool false]] 1
 have V2:=eY (Ab.newRow h [[AV.str of]] 1) [AV.bool false]
 show aD E (n+1) (.func 55) _ (Ab.newRow (Ab.newRow h [[AV.str of]] 1) [[AV.bool false]] 1) _=true
 generalize hh2:Ab.newRow (Ab.newRow h [[AV.str of]] 1) [[AV.bool false]] 1=h2 at *
 have s2:h2.sz=h.sz+2:=by rw[←hh2];rfl
 refine u38 ?_
 have o3:=cZ o2 [[AV.ptr id 0 0 0]] 1
 have e3:=bU o2 [[AV.ptr id 0 0 0]] 1
 have V3:=eY h2 [AV.ptr id 0 0 0]
 have o4:=cZ o3 [[AV.str s]] 1
 have e4:=bU o3 [[AV.str s]] 1
 have V4:=eY (Ab.newRow h2 [[AV.ptr id 0 0 0]] 1) [AV.str s]
 have s4:(Ab.newRow (Ab.newRow h2 [[AV.ptr id 0 0 0]] 1) [[AV.str s]] 1).sz=h.sz+4:=by simp[s2]
 simp only[List.length_cons,List.length_nil,Nat.zero_add] at V3 V4
 generalize hh4:Ab.newRow (Ab.newRow h2 [[AV.ptr id 0 0 0]] 1) [[AV.str s]] 1=h4 at *
 simp only[yC,s2] at V1 V2 V3 V4 ⊢
 have E4:Ext h h4:=e1.trans (e2.trans (e3.trans e4))
 generalize hreg:FI [(5,AV.ptr h.sz 0 0 0),(6,AV.ptr (h.sz+1) 0 0 0),(10,AV.fn (Qa.func 81) [] [AV.ptr (h.sz+2) 0 0 0,AV.ptr (h.sz+2+1) 0 0 0])]=regs
 obtain⟨n,rfl⟩:∃k,n=k+1:=⟨n-1,by omega⟩
 have e5:=kY o4 (Lp regs [11] kP kV .ready)
 refine SF (t:= .ptr id 0 0 0) (l:=l) (s:=s) (hb:=h) A T (by omega) (aaD h (.ptr id 0 0 0) l of ((chain l s).any fun c=>decide (c.name=of)) regs)
  (fun x h'=>x= .ret∧Ext h h'∧h'.Ok∧h.sz+5≤h'.sz∧Var h' (h.sz+1) [.bool true]∧h'.get (h.sz+4)=some (Lp regs [11] kP kV (.done .ret))∧((chain l s).any fun c=>decide (c.name=of))=true)
  (V4.ext e5) ?_ ?_ ?_ ?_ ?_
 ·intro r h' I
  exact⟨I.ext,I.p,by rw[s4];exact I.y⟩
 ·refine⟨E4.trans e5,o4.push _,by simp[s4],V1.ext (e2.trans (e3.trans (e4.trans e5))),V2.ext (e3.trans (e4.trans e5)),V3.ext (e4.trans e5), ?_,rfl⟩
  rw[←s4];exact eX _ _
 ·intro c r h' f K' I hf k1 k2
  rw[s4]
  have hy:=I.y
  rw[←hreg] at hy
  refine Ot bZ hy ?_
  rw[hreg] at hy
  unfold SB
  have lf:aV (AV.agg [AV.str c.name,AV.str c.super,f]).cells=true:=zm hf.leaf
  rw[jH (n:=3) rfl (by decide) rfl rfl lf]
  have o6:=cZ I.ok [[AV.str c.name,AV.str c.super,f]] 3
  have e6:=bU I.ok [[AV.str c.name,AV.str c.super,f]] 3
  have V6:=eY h' [AV.str c.name,AV.str c.super,f]
  have hc:(AV.agg [AV.str c.name,AV.str c.super,f]).cells=[AV.str c.name,AV.str c.super,f]:=rfl
  rw[hc]
  simp only[List.length_cons,List.length_nil,Nat.zero_add] at V6
  have s6:(Ab.newRow h' [[AV.str c.name,AV.str c.super,f]] 3).sz=h'.sz+1:=rfl
  generalize Ab.newRow h' [[AV.str c.name,AV.str c.super,f]] 3=h6 at *
  have hsz:=I.sz
  rw[Gq (e6.2 _ _ hy)]
  have V7:=V6.other (j:=h.sz+4) (by omega) (Lp regs [11] kP kV .busy)
  have A7:=(I.a.ext e6).other (j:=h.sz+4) (by omega) (Lp regs [11] kP kV .busy)
  have B7:=(I.res.ext e6).other (j:=h.sz+4) (by omega) (Lp regs [11] kP kV .busy)
  have P7:=(I.p.ext e6).other (j:=h.sz+4) (by omega) (Lp regs [11] kP kV .busy)
  have g7:=eU h6 (h.sz+4) (Lp regs [11] kP kV .busy)
  have x7:=gY (I.ext.trans e6) ho (show h.sz≤h.sz+4 by omega) (Lp regs [11] kP kV .busy)
  have o7:=o6.put (show h.sz+4<h6.sz by omega) (Lp regs [11] kP kV .busy)
  have s7:(h6.put (h.sz+4) (Lp regs [11] kP kV .busy)).sz=h'.sz+1:=by simp[s6]
  generalize h6.put (h.sz+4) (Lp regs [11] kP kV .busy)=h7 at *
  simp only[cO,ak,V7.load,A7.load,bY,Nat.zero_add,dR,mW]
  have hany:=I.any
  rw[List.any_cons] at hany
  by_cases hof:c.name=of
  ·rw[dB (by simpa using hof),B7.set1 (by decide) rfl,unit,dD]
   have hg8:(h7.put (h.sz+1) (iq.row (lI ([AV.bool false].set 0 (AV.bool true))))).get (h.sz+4)=some (Lp regs [11] kP kV .busy):=by rw[jZ (by omega)];exact g7
   rw[UK hg8]
   refine k2 .ret _ ⟨rfl,gY (gY x7 ho (by omega) _) ho (by omega) _,(o7.put (by omega) _).put (by simp;omega) _,by simp;omega, ?_,eU _ _ _, ?_⟩
   ·exact(oq (h:=h7) (h.sz+1) [AV.bool true]).other (by omega) _
   ·rw[hany];simp[hof]
  ·rw[dG (by simpa using hof),vP g7]
   refine k1 _ ⟨gY x7 ho (by omega) _,o7.put (by omega) _,by simp;omega,A7.other (by omega) _,B7.other (by omega) _,P7.other (by omega) _,eU _ _ _, ?_⟩
   rw[hany];simp[hof]
 ·intro h' I
  rw[s4]
  unfold Ky
  have hsz:=I.sz
  rw[(I.res.other (j:=h.sz+4) (by omega) _).set1 (by decide) rfl,unit,dD]
  have Vb:=oq (h:=h'.put (h.sz+4) (Lp regs [11] kP kV .exh)) (h.sz+1) ([AV.bool false].set 0 (AV.bool false))
  simp only[mq,Vb.load]
  have hb:=I.any
  rw[List.any_nil] at hb
  have:=k _ (gY (gY I.ext ho (show h.sz≤h.sz+4 by omega) (Lp regs [11] kP kV .exh)) ho (show h.sz≤h.sz+1 by omega) (iq.row (lI ([AV.bool false].set 0 (AV.bool false))))) ((I.ok.put (by omega) _).put (by simp;omega) _)
  rw[hb] at this
  exact this
 ·rintro x h' ⟨rfl,x1,x2,x3,x4,x5,x6⟩
  rw[s4]
  refine⟨x5, ?_⟩
  have Vb:=x4.other (j:=h.sz+4) (by omega) (Lp regs [11] kP kV .exh)
  simp only[mq,Vb.load]
  have:=k _ (gY x1 ho (show h.sz≤h.sz+4 by omega) (Lp regs [11] kP kV .exh)) (x2.put (by omega) _)
  rw[x6] at this
  exact this
theorem wJ {α:Type} (n:Nat) (x:α):(jO n x).length=n:=by rw[uT];simp
theorem u51 {n m:Nat} {h:aj} {K:aC} (hm:m<1000000) (k0:m=0→K .nilSlc h=true) (k:0<m→K (.slc h.sz 0 0 0 m false) (Ab.newRow h (jO m [AV.str [],AV.int .i64 0,AV.str []]) 3)=true):
 aD E (n+1) (.func 82) [.nilSlc, .int .i64 (m:Int)] h K=true:=by
 apply d82
 unfold s82
 have e0:JK .nilSlc=some (.int .i64 0):=rfl
 have e1:∀h,dw h 1 .nilSlc=some (.int .i64 0):=fun _=>rfl
 rw[eF,ak,dG (by simp),e0,ak,e1,ak,JA (by decide) (by decide),ak,JA (by omega) (by omega),ak,lg,ak]
 by_cases h0:m=0
 ·rw[dG (by subst h0;rfl)]
  exact k0 h0
 ·rw[dB (by simp;omega),ak]
  have e2:fZ h 3 .nilSlc none (some (.int .i64 0)) none=some .nilSlc:=rfl
  rw[e2,ak]
  have e3:((m:Int)-(0-0))=(m:Int):=by omega
  rw[e3]
  have e4:DR h 3 40 [AV.str [],AV.int .i64 0,AV.str []] .nilSlc (.int .i64 (m:Int))=some (.slc h.sz 0 0 m m false,Ab.newRow h (jO m [AV.str [],AV.int .i64 0,AV.str []]) 3):=by
   simp only[DR,iK]
   have b1:Nat.ble m most=true:=bI.2 (by unfold most;omega)
   have b2:Nat.ble (m*40) most=true:=bI.2 (by unfold most;omega)
   have b3:(bif Nat.blt 0 3&&Nat.beq [AV.str [],AV.int .i64 0,AV.str []].length 3&&aV [AV.str [],AV.int .i64 0,AV.str []] then(bif Nat.ble m most&&Nat.ble (m*40) most then eZ h 3 40 .nilSlc (jO m [AV.str [],AV.int .i64 0,AV.str []]) else none) else none)=eZ h 3 40 .nilSlc (jO m [AV.str [],AV.int .i64 0,AV.str []]):=by
    rw[b1,b2];rfl
   rw[b3]
   obtain⟨j,rfl⟩:∃j,m=j+1:=⟨m-1,by omega⟩
   have hr:jO (j+1) [AV.str [],AV.int .i64 0,AV.str []]=[AV.str [],AV.int .i64 0,AV.str []] :: jO j [AV.str [],AV.int .i64 0,AV.str []]:=rfl
   have hl:=wJ (j+1) [AV.str [],AV.int .i64 0,AV.str []]
   simp only[eZ]
   rw[hr] at hl ⊢
   rw[hl]
   have c1:Nat.ble ((j+1)*40) most=true:=b2
   have c2:Nat.ble (j+1) most=true:=b1
   rw[c1,c2]
   rfl
  rw[e4,dD,e1,ak]
  have e5:fZ (Ab.newRow h (jO m [AV.str [],AV.int .i64 0,AV.str []]) 3) 3 (.slc h.sz 0 0 m m false) none (some (.int .i64 0)) none=some (.slc h.sz 0 0 0 m false):=by
   have:jo (Ab.newRow h (jO m [AV.str [],AV.int .i64 0,AV.str []]) 3) h.sz 3=true:=by
    simp only[jo,aj.row,Ab.newRow,eX];rfl
   have z0:asNat (.int .i64 0)=some 0:=rfl
   simp only[fZ,this,cond_true,mV,z0,Nat.zero_add,Nat.sub_zero,bI.2 (Nat.zero_le m),bI.2 (Nat.le_refl 0),Bool.and_self]
  rw[e5,ak]
  exact k (by omega)
theorem MX {h:aj} {id len cap bytes:Nat} {r:Row} {x:AV} {new:List (List AV)} (hr:h.row id=some r) (hw:r.rw=true) (hg:r.g=0) (hs:r.sz=3) (hsrc:source h 3 x=some new) (hfit:len+new.length≤cap) (hcap:cap<1000000) (hb:bytes≤64):
 cK h 3 bytes (.slc id 0 0 len cap false) x=some (.slc id 0 0 (len+new.length) cap false,if new=[] then h else h.put id (.row {r with es:=lay r.es len new,m:=r.g})):=by
 have hn0:Nat.beq 3 0=false:=rfl
 simp only[cK,hn0,cond_false,hsrc]
 cases new with
 |nil=>simp[eZ]
 |cons y l=>
  have b1:Nat.ble ((len+(y :: l).length)*bytes) most=true:=bI.2 (by
   have:(len+(y :: l).length)*bytes≤cap*64:=Nat.mul_le_mul hfit hb
   unfold most;omega)
  have b2:Nat.ble (len+(y :: l).length) most=true:=bI.2 (by unfold most;omega)
  simp only[eZ,hr,b1,b2,bJ.2 hs,Bool.and_self,cond_true,bI.2 hfit,hw,hg,Nat.beq_refl,Nat.zero_add]
  simp
theorem aej {n:Nat} {h:aj} {x a b:AV} {A B:List (List AV)} {K:aC} (ho:h.Ok) (V:View h 1 x [[a],[b]]) (VA:View h 3 a A) (VB:View h 3 b B) (hsz:A.length+B.length<1000000) (hn:3<n)
 (k:∀h' v,Ext h h'→h'.Ok→Own h.sz h' 3 v (A++B)→K v h'=true):aD E (n+2) (.func 56) [x] h K=true:=by
 apply d56
 unfold s56
 obtain⟨n,rfl⟩:∃j,n=j+3:=⟨n-3,by omega⟩
 rw[V.len,ak]
 have l2:(([[a],[b]]:List (List AV)).length:Int)=2:=rfl
 rw[l2]
 obtain⟨i0,g0,j0,p1,p2⟩:=V.at (i:=0) (e:=[a]) rfl
 obtain⟨i1,g1,j1,q1,q2⟩:=V.at (i:=1) (e:=[b]) rfl
 have P1:bS h 1 x (.int .i64 0)=some (.ptr i0 g0 j0 0):=p1 .i64
 have Q1:bS h 1 x (.int .i64 1)=some (.ptr i1 g1 j1 0):=q1 .i64
 have P2:au h false 1 (.ptr i0 g0 j0 0)=some a:=p2 false 0 1
 have Q2:au h false 1 (.ptr i1 g1 j1 0)=some b:=q2 false 0 1
 rw[Gl];unfold Es
 simp only[eF,ak]
 rw[dB (by decide),P1,ak,P2,ak,VA.len,ak,pI (by omega) (by omega),ak,eF,ak,dG (by simp),pI (by decide) (by decide),ak]
 rw[Gl];unfold Es
 simp only[eF,ak]
 have i1e:((0:Int)+1)=1:=rfl
 rw[i1e,dB (by decide),Q1,ak,Q2,ak,VB.len,ak,pI (by omega) (by omega),ak,eF,ak,dG (by simp;omega),pI (by decide) (by decide),ak]
 rw[Gl];unfold Es
 simp only[eF,ak]
 rw[dG (by decide)]
 unfold Kg
 have hsum:((0:Int)+(A.length:Int)+(B.length:Int))=((A.length+B.length:Nat):Int):=by omega
 rw[hsum]
 have hlen1:dw h 1 x=some (.int .i64 2):=V.len
 refine u51 (by omega) ?_ ?_
 ·intro h0
  have hA:A=[]:=List.length_eq_zero_iff.1 (by omega)
  have hB:B=[]:=List.length_eq_zero_iff.1 (by omega)
  subst hA;subst hB
  rw[hlen1,ak,qy];unfold rz
  simp only[eF,ak]
  have ap:∀y,View h 3 y []→cK h 3 40 .nilSlc y=some (.nilSlc,h):=by
   intro y Vy
   simp only[cK,show Nat.beq 3 0=false from rfl,cond_false,Vy.src,eZ]
  rw[dB (by decide),P1,ak,P2,ak,ap a VA,dD,pI (by decide) (by decide),ak]
  rw[qy];unfold rz
  simp only[eF,ak]
  rw[i1e,dB (by decide),Q1,ak,Q2,ak,ap b VB,dD,pI (by decide) (by decide),ak]
  rw[qy];unfold rz
  simp only[eF,ak]
  rw[dG (by decide)]
  exact k h _ (Ext.refl h) ho (Own.nil _ _ _)
 ·intro hpos
  have e1:=bU ho (jO (A.length+B.length) [AV.str [],AV.int .i64 0,AV.str []]) 3
  have o1:=cZ ho (jO (A.length+B.length) [AV.str [],AV.int .i64 0,AV.str []]) 3
  have r1:(Ab.newRow h (jO (A.length+B.length) [AV.str [],AV.int .i64 0,AV.str []]) 3).row h.sz=some {es:=jO (A.length+B.length) [AV.str [],AV.int .i64 0,AV.str []],sz:=3,g:=0,m:=0,rw:=true}:=by
   rw[aj.row_some];exact eX _ _
  have s1:(Ab.newRow h (jO (A.length+B.length) [AV.str [],AV.int .i64 0,AV.str []]) 3).sz=h.sz+1:=rfl
  generalize Ab.newRow h (jO (A.length+B.length) [AV.str [],AV.int .i64 0,AV.str []]) 3=h1 at *
  rw[(V.ext e1).len,ak,l2,qy];unfold rz
  simp only[eF,ak]
  have rd:∀h',Ext h h'→bS h' 1 x (.int .i64 0)=some (.ptr i0 g0 j0 0)∧bS h' 1 x (.int .i64 1)=some (.ptr i1 g1 j1 0)∧au h' false 1 (.ptr i0 g0 j0 0)=some a∧au h' false 1 (.ptr i1 g1 j1 0)=some b:=by
   intro h' e
   rcases V with⟨hh,_⟩|⟨id,g,s,cap,ex,r,rfl,v2,v3,v4,v5,v6⟩
   ·cases hh
   ·have w2:=e.row v2
    have hrs:jo h id 1=jo h' id 1:=by simp only[jo,v2,w2]
    have c1:bS h' 1 (.slc id g s [[a],[b]].length cap ex) (.int .i64 0)=bS h 1 (.slc id g s [[a],[b]].length cap ex) (.int .i64 0):=by simp only[bS,hrs]
    have c2:bS h' 1 (.slc id g s [[a],[b]].length cap ex) (.int .i64 1)=bS h 1 (.slc id g s [[a],[b]].length cap ex) (.int .i64 1):=by simp only[bS,hrs]
    refine⟨c1.trans P1,c2.trans Q1, ?_, ?_⟩
    ·have:i0=id:=by
      have h1:=P1
      simp only[bS] at h1
      split at h1
      ·revert h1;cases (Nat.blt _ _&&jo h id 1)<;>intro h1<;>cases h1;rfl
      ·cases h1
     subst this
     have:=P2
     simp only[au,v2] at this
     simp only[au,w2];exact this
    ·have:i1=id:=by
      have h1:=Q1
      simp only[bS] at h1
      split at h1
      ·revert h1;cases (Nat.blt _ _&&jo h id 1)<;>intro h1<;>cases h1;rfl
      ·cases h1
     subst this
     have:=Q2
     simp only[au,v2] at this
     simp only[au,w2];exact this
  obtain⟨a1,a2,a3,a4⟩:=rd h1 e1
  have f1:=MX (bytes:=40) (x:=a) (new:=A) (len:=0) (cap:=A.length+B.length) r1 rfl rfl rfl (VA.ext e1).src (by omega) (by omega) (by omega)
  rw[dB (by decide),a1,ak,a3,ak,f1,dD,pI (by decide) (by decide),ak]
  have hh2:∃h2 r2,(if A=[] then h1 else h1.put h.sz (.row {es:=lay (jO (A.length+B.length) [AV.str [],AV.int .i64 0,AV.str []]) 0 A,sz:=3,g:=0,m:=0,rw:=true}))=h2∧Ext h h2∧h2.Ok∧h2.row h.sz=some r2∧r2.rw=true∧r2.g=0∧r2.m=0∧r2.sz=3∧r2.es.take A.length=A∧r2.es.length=A.length+B.length:=by
   by_cases hA:A=[]
   ·rw[if_pos hA]
    exact⟨h1,_,rfl,e1,o1,r1,rfl,rfl,rfl,rfl,by rw[hA];rfl,wJ _ _⟩
   ·rw[if_neg hA]
    refine⟨_,_,rfl,gY e1 ho (Nat.le_refl _) _,o1.put (by omega) _,by rw[aj.row_some];exact eU _ _ _,rfl,rfl,rfl,rfl, ?_, ?_⟩
    ·simp only[lay,List.take_zero,List.nil_append,Nat.zero_add]
     exact List.take_left
    ·simp only
     rw[MV (by rw[wJ];omega),wJ]
  obtain⟨h2,r2,he2,e2,o2,t1,t2,t3,t4,t5,t6,t7⟩:=hh2
  have he2':(if A=[] then h1 else h1.put h.sz (.row {({es:=jO (A.length+B.length) [AV.str [],AV.int .i64 0,AV.str []],sz:=3,g:=0,m:=0,rw:=true}:Row) with es:=lay (jO (A.length+B.length) [AV.str [],AV.int .i64 0,AV.str []]) 0 A,m:=0}))=h2:=he2
  rw[he2']
  rw[qy];unfold rz
  simp only[eF,ak]
  obtain⟨c1,c2,u3,u4⟩:=rd h2 e2
  have f2:=MX (bytes:=40) (x:=b) (new:=B) (len:=0+A.length) (cap:=A.length+B.length) t1 t2 t3 t5 (VB.ext e2).src (by omega) (by omega) (by omega)
  rw[i1e,dB (by decide),c2,ak,u4,ak,f2,dD,pI (by decide) (by decide),ak]
  rw[qy];unfold rz
  simp only[eF,ak]
  rw[dG (by decide)]
  by_cases hB:B=[]
  ·rw[if_pos hB]
   refine k h2 _ e2 o2 (.inr ⟨h.sz,r2,Nat.le_refl _,by simp[t3],t1,t2,by omega,t5, ?_⟩)
   subst hB
   rw[List.append_nil]
   have hle:r2.es.length≤A.length:=by simp at t7;omega
   rw[List.take_of_length_le hle] at t6
   exact t6
  ·rw[if_neg hB]
   refine k _ _ (gY e2 ho (Nat.le_refl _) _) (o2.put (by have:=e2.1;have:=o2.lt (aj.row_some.1 t1);omega) _) (.inr ⟨h.sz,{r2 with es:=lay r2.es (0+A.length) B,m:=r2.g},Nat.le_refl _,by simp[t3], ?_,t2,Nat.le_refl _,t5, ?_⟩)
   ·rw[aj.row_some];exact eU _ _ _
   ·simp only[lay,Nat.zero_add,t6]
    rw[List.drop_of_length_le (by omega),List.append_nil]
def fieldsOf (l:List Cls) (s:Str):List lK:=(chain l s).reverse.flatMap Cls.fields
theorem QS {f g:AV} (hf:f.leaf=true) (hg:g.leaf=true):jG 1 (jO 2 [AV.nilSlc]) [(0,f),(1,g)]=some [[f],[g]]:=by
 have e1:=jV hf
 have e2:=jV hg
 have a1:aV [f]=true:=by show(bif f.leaf then aV [] else false)=true;rw[hf];rfl
 have a2:aV [g]=true:=by show(bif g.leaf then aV [] else false)=true;rw[hg];rfl
 simp only[jG,e1,e2,a1,a2,jO]
 rfl
structure Zq (h0:aj) (t:AV) (tot:List lK) (regs:dY) (r:List Cls) (h:aj):Prop where
 ext:Ext h0 h
 ok:h.Ok
 sz:h0.sz+4≤h.sz
 p:Var h (h0.sz+1) [t]
 y:h.get (h0.sz+3)=some (Lp regs [15] jN jL .ready)
 cur:∃v fs,Var h h0.sz [v]∧Own h0.sz h 3 v (fs.map dZ)∧tot=r.reverse.flatMap Cls.fields++fs
theorem abY {n:Nat} {h:aj} {t:AV} {l:List Cls} {s:Str} {K:aC} (T:fJ h t l) (A:Asc l) (ho:h.Ok) (hn:l.length+8<n) (hT:(fieldsOf l s).length<1000000)
 (k0:idx s (names l)=none→K (.tup [.nilSlc, .int .i64 10]) h=true)
 (k:∀i h' v,idx s (names l)=some i→Ext h h'→h'.Ok→Own h.sz h' 3 v ((fieldsOf l s).map dZ)→K (.tup [v, .int .i64 0]) h'=true):aD E (n+2) (.func 26) [t, .str s] h K=true:=by
 obtain⟨id,lv,mid,rfl,V0,C0,M0⟩:=T
 have T:fJ h (.ptr id 0 0 0) l:=⟨id,lv,mid,rfl,V0,C0,M0⟩
 apply d26
 unfold s26
 refine u19 T ?_
 simp only[gH,ak]
 cases hi:idx s (names l) with
 |none=>
  simp only[Option.isSome_none,Bool.not_false,fV]
  exact k0 hi
 |some i=>
 simp only[Option.isSome_some,Bool.not_true,fM]
 unfold LP
 rw[alloc_eq (by decide) rfl,dD]
 have o2:=cZ ho [[AV.nilSlc]] 1
 have e2:=bU ho [[AV.nilSlc]] 1
 have V2:=eY h [AV.nilSlc]
 show aD E (n+1) (.func 55) _ (Ab.newRow h [[AV.nilSlc]] 1) _=true
 simp only[List.length_cons,List.length_nil,Nat.zero_add] at V2
 have s2:(Ab.newRow h [[AV.nilSlc]] 1).sz=h.sz+1:=rfl
 generalize hh2:Ab.newRow h [[AV.nilSlc]] 1=h2 at *
 refine u38 ?_
 have o3:=cZ o2 [[AV.ptr id 0 0 0]] 1
 have e3:=bU o2 [[AV.ptr id 0 0 0]] 1
 have V3:=eY h2 [AV.ptr id 0 0 0]
 have o4:=cZ o3 [[AV.str s]] 1
 have e4:=bU o3 [[AV.str s]] 1
 have V4:=eY (Ab.newRow h2 [[AV.ptr id 0 0 0]] 1) [AV.str s]
 have s4:(Ab.newRow (Ab.newRow h2 [[AV.ptr id 0 0 0]] 1) [[AV.str s]] 1).sz=h.sz+3:=by simp[s2]
 simp only[List.length_cons,List.length_nil,Nat.zero_add] at V3 V4
 generalize hh4:Ab.newRow (Ab.newRow h2 [[AV.ptr id 0 0 0]] 1) [[AV.str s]] 1=h4 at *
 simp only[yC,s2] at V2 V3 V4 ⊢
 have E4:Ext h h4:=e2.trans (e3.trans e4)
 generalize hreg:FI [(6,AV.ptr h.sz 0 0 0),(14,AV.fn (Qa.func 81) [] [AV.ptr (h.sz+1) 0 0 0,AV.ptr (h.sz+1+1) 0 0 0])]=regs
 obtain⟨n,rfl⟩:∃k,n=k+4:=⟨n-4,by omega⟩
 have e5:=kY o4 (Lp regs [15] jN jL .ready)
 refine SF (t:= .ptr id 0 0 0) (l:=l) (s:=s) (hb:=h) A T (by omega) (Zq h (.ptr id 0 0 0) (fieldsOf l s) regs) (fun x h'=>False) (V4.ext e5) ?_ ?_ ?_ ?_ ?_
 ·intro r h' I
  exact⟨I.ext,I.p,by rw[s4];exact I.y⟩
 ·refine⟨E4.trans e5,o4.push _,by simp[s4],V3.ext (e4.trans e5), ?_, .nilSlc,[],V2.ext (e3.trans (e4.trans e5)),Own.nil _ _ _,by simp[fieldsOf]⟩
  rw[←s4];exact eX _ _
 ·intro c r h' f K' I hf k1 _
  rw[s4]
  have hy:=I.y
  rw[←hreg] at hy
  refine MJ bZ hy ?_
  rw[hreg] at hy
  unfold J4
  rw[jH (n:=3) rfl (by decide) rfl rfl (zm hf.leaf)]
  obtain⟨v,fs,W,OW,htot⟩:=I.cur
  have VW:=OW.view
  have o6:=cZ I.ok [[AV.str c.name,AV.str c.super,f]] 3
  have e6:=bU I.ok [[AV.str c.name,AV.str c.super,f]] 3
  have V6:=eY h' [AV.str c.name,AV.str c.super,f]
  have hc:(AV.agg [AV.str c.name,AV.str c.super,f]).cells=[AV.str c.name,AV.str c.super,f]:=rfl
  rw[hc]
  simp only[List.length_cons,List.length_nil,Nat.zero_add] at V6
  have s6:(Ab.newRow h' [[AV.str c.name,AV.str c.super,f]] 3).sz=h'.sz+1:=rfl
  generalize Ab.newRow h' [[AV.str c.name,AV.str c.super,f]] 3=h6 at *
  have hsz:=I.sz
  rw[Gq (e6.2 _ _ hy)]
  have V7:=V6.other (j:=h.sz+3) (by omega) (Lp regs [15] jN jL .busy)
  have W7:=(W.ext e6).other (j:=h.sz+3) (by omega) (Lp regs [15] jN jL .busy)
  have P7:=(I.p.ext e6).other (j:=h.sz+3) (by omega) (Lp regs [15] jN jL .busy)
  have hf6:=hf.ext (I.ext.trans e6)
  have VW6:=VW.ext e6
  have g7:=eU h6 (h.sz+3) (Lp regs [15] jN jL .busy)
  have x7:=gY (I.ext.trans e6) ho (show h.sz≤h.sz+3 by omega) (Lp regs [15] jN jL .busy)
  have o7:=o6.put (show h.sz+3<h6.sz by omega) (Lp regs [15] jN jL .busy)
  have s7:(h6.put (h.sz+3) (Lp regs [15] jN jL .busy)).sz=h'.sz+1:=by simp[s6]
  have viewput:∀{v:AV} {es:List (List AV)},View h6 3 v es→View (h6.put (h.sz+3) (Lp regs [15] jN jL .busy)) 3 v es:=by
   intro v es hv
   rcases hv with hv |⟨i',g',s',cp,ex,rr,w1,w2,w3⟩
   ·exact .inl hv
   ·refine .inr ⟨i',g',s',cp,ex,rr,w1, ?_,w3⟩
    rw[aj.row_some] at w2 ⊢
    have hne:i'≠h.sz+3:=by
     intro e
     rw[e] at w2
     have:=e6.2 _ _ hy
     rw[this] at w2;cases w2
    rw[jZ hne];exact w2
  have hf7:=viewput hf6
  have VW7:=viewput VW6
  generalize h6.put (h.sz+3) (Lp regs [15] jN jL .busy)=h7 at *
  simp only[cO,ak,V7.load,W7.load,bY,Nat.zero_add,dR,fE]
  obtain⟨w,ew,Vw⟩:=uj (h:=h7) (n:=2) (sz:=1) (z:=[AV.nilSlc]) (ps:=[(0,f),(1,v)]) (es:=[[f],[v]]) rfl (by decide) (by decide) rfl (QS hf.leaf VW.leaf) rfl
  rw[ew,dD]
  have e8:=bU o7 [[f],[v]] 1
  have o8:=cZ o7 [[f],[v]] 1
  have s8:(Ab.newRow h7 [[f],[v]] 1).sz=h'.sz+2:=by simp[s7]
  have hbound:(fieldsOf l s).length=(r.reverse.flatMap Cls.fields).length+(c.fields.length+fs.length):=by
   rw[htot];simp[Nat.add_assoc]
  generalize Ab.newRow h7 [[f],[v]] 1=h8 at *
  refine aej (A:=c.fields.map dZ) (B:=fs.map dZ) o8 Vw (hf7.ext e8) (VW7.ext e8) (by simp only[List.length_map];omega) (by omega) ?_
  intro h9 u e9 o9 Vu
  have W9:=W7.ext (e8.trans e9)
  rw[W9.set1 (by simp) Vu.view.leaf,unit,dD]
  have g9:=(e8.trans e9).2 _ _ g7
  have s9:=e9.1
  have hg:(h9.put h.sz (.row (lI ([v].set 0 u)))).get (h.sz+3)=some (Lp regs [15] jN jL .busy):=by rw[jZ (by omega)];exact g9
  rw[vP hg]
  have hne:∀{j:Nat} {rr:Row},h9.row j=some rr→j≠h.sz→j≠h.sz+3→((h9.put h.sz (.row (lI ([v].set 0 u)))).put (h.sz+3) (Lp regs [15] jN jL .ready)).row j=some rr:=by
   intro j rr hj h1 h2
   rw[aj.row_some] at hj ⊢
   rw[jZ h2,jZ h1];exact hj
  refine k1 _ ⟨gY (gY (x7.trans (e8.trans e9)) ho (Nat.le_refl _) _) ho (by omega) _,(o9.put (by omega) _).put (by simp;omega) _,by simp;omega,((P7.ext (e8.trans e9)).other (by omega) _).other (by omega) _,eU _ _ _,u,c.fields++fs,(oq (h:=h9) h.sz [u]).other (by omega) _, ?_, ?_⟩
  ·rcases Vu with Vu |⟨id',rr,w0,w1,w2,w3,w4,w5,w6⟩
   ·exact .inl (by simpa using Vu)
   ·exact .inr ⟨id',rr,by omega,by simpa using w1,hne w2 (by omega) (by omega),w3,w4,w5,by simpa using w6⟩
  ·rw[htot];simp
 ·intro h' I
  rw[s4]
  unfold LU
  have hsz:=I.sz
  obtain⟨v,fs,W,VW,htot⟩:=I.cur
  simp only[List.reverse_nil,List.flatMap_nil,List.nil_append] at htot
  have W2:=W.other (j:=h.sz+3) (by omega) (Lp regs [15] jN jL .exh)
  rw[W2.load,bY,dR,ak]
  refine k i _ v hi (gY I.ext ho (by omega) _) (I.ok.put (by omega) _) ?_
  rw[htot]
  rcases VW with hv |⟨i',rr,w0,w1,w2,w3,w4,w5,w6⟩
  ·exact .inl hv
  ·refine .inr ⟨i',rr,w0,w1, ?_,w3,w4,w5,w6⟩
   rw[aj.row_some] at w2 ⊢
   have hne:i'≠h.sz+3:=by
    intro e
    rw[e,I.y] at w2;cases w2
   rw[jZ hne];exact w2
 ·intro x h' hf;exact hf.elim
theorem u16 {n:Nat} {h:aj} {t:AV} {l:List Cls} {s:Str} {K:aC} (T:fJ h t l) (A:Asc l) (ho:h.Ok) (hn:l.length+8<n) (hT:(fieldsOf l s).length<1000000)
 (k0:idx s (names l)=none→K (.tup [.nilSlc, .int .i64 10]) h=true)
 (k:∀i h' v,idx s (names l)=some i→Ext h h'→h'.Ok→View h' 3 v ((fieldsOf l s).map dZ)→K (.tup [v, .int .i64 0]) h'=true):aD E (n+2) (.func 26) [t, .str s] h K=true:=
 abY T A ho hn hT k0 fun i h' v hi e o O=>k i h' v hi e o O.view
theorem OG (f:lK):aV (AV.agg (dZ f)).cells=true:=rfl
def fnames (fs:List lK):List Str:=fs.map lK.name
def UU (i:Nat):Int:=IntKind.u64.wrap (1*2 ^ (min i 64))
def orU (a b:Int):Int:=IntKind.u64.wrap ((BitVec.ofInt 64 a|||BitVec.ofInt 64 b).toNat:Nat)
theorem Tm (k:IntKind) (i:Nat):aR .shl (.int .u64 1) (.int k (i:Int))=some (.int .u64 (UU i)):=by
 have:tF (i:Int) 0=false:=by rw[oQ];simp
 simp only[aR,oC,cond_true,wz,this,cond_false]
 rfl
theorem or_eq (a b:Int):aR .or (.int .u64 a) (.int .u64 b)=some (.int .u64 (orU a b)):=by
 rw[iP _ _ _ _ rfl];rfl
def Tn (fn:List Str):List Str→Int→Option Int
 | [],m=>some m
 |f :: fs,m=>match idx f fn with
  |none=>none
  |some i=>Tn fn fs (orU m (UU i))
def nU (l:List Cls) (s:Str) (fs:List Str):Int×Int:=
 match idx s (names l) with
 |none=>(0,10)
 |some _=>match Tn (fnames (fieldsOf l s)) fs 0 with
  |none=>(0,11)
  |some m=>(m,0)
def mY (l:List Cls) (s:Str):List Str:=(l.filter fun c=>(chain l c.name).any fun d=>decide (d.name=s)).map Cls.name
theorem TG (s:Str):jG 1 (jO 1 [AV.str []]) [(0,AV.str s)]=some [[AV.str s]]:=rfl
theorem l20 {n:Nat} {h0:aj} {t lv:AV} {l:List Cls} {s:Str} {K:aC} (T:fJ h0 t l) (C:CV h0 lv l) (A:Asc l) (o0:h0.Ok) (hl:l.length<1000000) (hn:l.length+4<n)
 (k:∀h' v,Ext h0 h'→h'.Ok→Own h0.sz h' 1 v ((mY l s).map fun w=>[AV.str w])→K (.tup [v, .int .i64 0]) h'=true):∀(m i:Nat) (v:AV) (done:List Str) (h:aj),Ext h0 h→h.Ok→i≤l.length→l.length-i<m→Own h0.sz h 1 v (done.map fun w=>[AV.str w])→
 done.length≤i→mY l s=done++((l.drop i).filter fun c=>(chain l c.name).any fun d=>decide (d.name=s)).map Cls.name→
 yA (aD E (n+2)) (n+2) m t (.str s) v lv (.int .i64 (l.length:Int)) (.int .i64 (i:Int)) h K=true:=by
 intro m
 induction m with
 |zero=>intro i v done h _ _ _ hm;omega
 |succ m ih=>
  intro i v done h e ho hi hm O hdl hx
  rw[RI]
  unfold FU
  by_cases hlt:i<l.length
  ·have hd:l.drop i=l[i] :: l.drop (i+1):=List.drop_eq_getElem_cons hlt
   obtain⟨id,g,j,f,p1,p2,p3,p4,p5,p6⟩:=(C.ext e).at (List.getElem?_eq_getElem hlt)
   rw[eF,ak,dB (by simpa using hlt),p1,ak,p2,ak]
   rw[jH (n:=3) rfl (by decide) rfl rfl (zm p6.leaf)]
   have o6:=cZ ho [[AV.str l[i].name,AV.str l[i].super,f]] 3
   have e6:=bU ho [[AV.str l[i].name,AV.str l[i].super,f]] 3
   have V6:=eY h [AV.str l[i].name,AV.str l[i].super,f]
   have hc:(AV.agg [AV.str l[i].name,AV.str l[i].super,f]).cells=[AV.str l[i].name,AV.str l[i].super,f]:=rfl
   rw[hc]
   simp only[List.length_cons,List.length_nil,Nat.zero_add] at V6
   have O6:Own h0.sz (Ab.newRow h [[AV.str l[i].name,AV.str l[i].super,f]] 3) 1 v (done.map fun w=>[AV.str w]):=by
    rcases O with O |⟨id,r,q1,q2,q3,q4⟩
    ·exact .inl O
    ·exact .inr ⟨id,r,q1,q2,e6.row q3,q4⟩
   have s6:(Ab.newRow h [[AV.str l[i].name,AV.str l[i].super,f]] 3).sz=h.sz+1:=rfl
   generalize Ab.newRow h [[AV.str l[i].name,AV.str l[i].super,f]] 3=h6 at *
   simp only[cO,ak,V6.load,bY,Nat.zero_add,dR]
   refine u14 (T.ext (e.trans e6)) A o6 (by omega) ?_
   intro h7 e7 o7
   have O7:Own h0.sz h7 1 v (done.map fun w=>[AV.str w]):=by
    rcases O6 with O |⟨id,r,q1,q2,q3,q4⟩
    ·exact .inl O
    ·exact .inr ⟨id,r,q1,q2,e7.row q3,q4⟩
   rw[hd,List.filter_cons] at hx
   cases hb:(chain l l[i].name).any fun d=>decide (d.name=s) with
   |false=>
    rw[fM]
    unfold Am
    rw[dV (by unfold lim;omega),ak]
    refine ih (i+1) v done h7 (e.trans (e6.trans e7)) o7 (by omega) (by omega) O7 (by omega) ?_
    rw[hx,hb];rfl
   |true=>
    rw[fV]
    simp only[cO,ak,(V6.ext e7).load,bY,Nat.zero_add,dR]
    obtain⟨w,ew,Vw⟩:=uj (h:=h7) (n:=1) (sz:=1) (z:=[AV.str []]) (ps:=[(0,AV.str l[i].name)]) (es:=[[AV.str l[i].name]]) rfl (by decide) (by decide) rfl (TG _) rfl
    rw[ew,dD]
    have e8:=bU o7 [[AV.str l[i].name]] 1
    have o8:=cZ o7 [[AV.str l[i].name]] 1
    have O8:Own h0.sz (Ab.newRow h7 [[AV.str l[i].name]] 1) 1 v (done.map fun w=>[AV.str w]):=by
     rcases O7 with O |⟨id,r,q1,q2,q3,q4⟩
     ·exact .inl O
     ·exact .inr ⟨id,r,q1,q2,e8.row q3,q4⟩
    have E8:=e.trans (e6.trans (e7.trans e8))
    generalize Ab.newRow h7 [[AV.str l[i].name]] 1=h8 at *
    obtain⟨v',h9,a1,a2,a3,a4,a5,a6,_⟩:=O8.app (bytes:=16) (by decide) E8.1 o8 o0 E8 (Nat.le_refl _) Vw.src (by simp only[List.length_map,List.length_cons,List.length_nil];unfold most;omega) (by simp only[List.length_map,List.length_cons,List.length_nil];unfold most;omega)
    rw[a1,dD]
    unfold Am
    rw[dV (by unfold lim;omega),ak]
    refine ih (i+1) v' (done++[l[i].name]) h9 a4 a3 (by omega) (by omega) (by simpa using a2) (by simp;omega) ?_
    rw[hx,hb];simp
  ·have:l.drop i=[]:=List.drop_of_length_le (by omega)
   rw[this] at hx
   rw[eF,ak,dG (by simpa using hlt)]
   simp only[List.filter_nil,List.map_nil,List.append_nil] at hx
   exact k h v e ho (by rw[hx];exact O)
theorem ac6 {n:Nat} {h:aj} {t:AV} {l:List Cls} {s:Str} {K:aC} (T:fJ h t l) (A:Asc l) (ho:h.Ok) (hl:l.length<1000000) (hn:l.length+4<n)
 (k0:idx s (names l)=none→K (.tup [.nilSlc, .int .i64 10]) h=true)
 (k:∀i h' v,idx s (names l)=some i→Ext h h'→h'.Ok→Own h.sz h' 1 v ((mY l s).map fun w=>[AV.str w])→K (.tup [v, .int .i64 0]) h'=true):aD E (n+3) (.func 72) [t, .str s] h K=true:=by
 apply d72
 unfold s72
 refine u19 T ?_
 simp only[gH,ak]
 cases hi:idx s (names l) with
 |none=>
  simp only[Option.isSome_none,Bool.not_false,fV]
  exact k0 hi
 |some i=>
  simp only[Option.isSome_some,Bool.not_true,fM]
  unfold ML
  have T2:=T
  obtain⟨id,lv,mid,rfl,V,C,M⟩:=T
  simp only[jX,ak,cO,V.load,bY,Nat.zero_add,dR,C.len]
  exact l20 T2 C A ho hl hn (fun h' v=>k i h' v hi) (n+2) 0 .nilSlc [] h (Ext.refl h) ho (by omega) (by omega) (Own.nil _ _ _) (by simp) (by simp[mY])
theorem u20 {n:Nat} {h:aj} {t:AV} {l:List Cls} {s:Str} {K:aC} (T:fJ h t l) (A:Asc l) (ho:h.Ok) (hl:l.length<1000000) (hn:l.length+4<n)
 (k0:idx s (names l)=none→K (.tup [.nilSlc, .int .i64 10]) h=true)
 (k:∀i h' v,idx s (names l)=some i→Ext h h'→h'.Ok→View h' 1 v ((mY l s).map fun w=>[AV.str w])→K (.tup [v, .int .i64 0]) h'=true):aD E (n+3) (.func 72) [t, .str s] h K=true:=
 ac6 T A ho hl hn k0 fun i h' v hi e o O=>k i h' v hi e o O.view
theorem u45 {n:Nat} {h:aj} {a b:Str} {g:AV} {f:lK} {p:Nat} {K:aC} (ho:h.Ok) (hg:g.leaf=true) (V:Var h p (dZ f)) (k:∀h',Ext h h'→h'.Ok→K (.bool (decide (a=f.cls))) h'=true):
 aD E (n+1) (.func 80) [.agg [.str a, .str b,g], .ptr p 0 0 0] h K=true:=by
 apply d80
 unfold s80
 rw[lM (n:=3) rfl (by decide) (zm hg),dD]
 have e:=bU ho [[AV.str a,AV.str b,g]] 3
 have V2:=eY h [AV.str a,AV.str b,g]
 have hc:(AV.agg [AV.str a,AV.str b,g]).cells=[AV.str a,AV.str b,g]:=rfl
 rw[hc]
 simp only[List.length_cons,List.length_nil,Nat.zero_add] at V2
 have o:=cZ ho [[AV.str a,AV.str b,g]] 3
 generalize Ab.newRow h [[AV.str a,AV.str b,g]] 3=h2 at *
 simp only[cO,ak,V2.load,(V.ext e).load,bY,Nat.zero_add,dR,fE,dZ,mW]
 exact k h2 e o
theorem l55 {n:Nat} {v:AV} {l:List Cls} {f:lK} {p:Nat} {K:aC} {h0:aj} (C:CV h0 v l) (P:Var h0 p (dZ f)) (hl:l.length<lim)
 (k:∀h',Ext h0 h'→h'.Ok→K (.int .i64 (fint (idx f.cls (names l)))) h'=true):∀(m i:Nat) (h:aj),Ext h0 h→h.Ok→i≤l.length→l.length-i<m→idx f.cls (names l)=off i (idx f.cls (names (l.drop i)))→
 EL (aD E (n+1)) (n+1) m v (.fn (.func 80) [] [.ptr p 0 0 0]) (.int .i64 (l.length:Int)) (.int .i64 (i:Int)) h K=true:=by
 intro m
 induction m with
 |zero=>intro i h _ _ _ hm;omega
 |succ m ih=>
  intro i h e ho hi hm hx
  rw[Ua]
  unfold Ni
  by_cases hlt:i<l.length
  ·have hd:l.drop i=l[i] :: l.drop (i+1):=List.drop_eq_getElem_cons hlt
   obtain⟨id,g,j,ff,p1,p2,p3,p4,p5,p6⟩:=(C.ext e).at (List.getElem?_eq_getElem hlt)
   rw[eF,ak,dB (by simpa using hlt),p1,ak,p2,ak,BK]
   simp only[List.nil_append,List.cons_append]
   refine u45 ho p6.leaf (P.ext e) ?_
   intro h' e' o'
   rw[hd] at hx
   simp only[names,List.map_cons,idx] at hx
   by_cases hs:l[i].name=f.cls
   ·rw[dB (by simpa using hs)]
    have:=k h' (e.trans e') o'
    simp only[names] at this
    rw[hx] at this
    simpa[hs,off,fint] using this
   ·rw[dG (by simpa using hs),dV (by omega),ak]
    refine ih (i+1) h' (e.trans e') o' (by omega) (by omega) ?_
    rw[if_neg hs] at hx
    simp only[names]
    rw[hx]
    cases idx f.cls (List.map Cls.name (List.drop (i+1) l)) with
    |none=>rfl
    |some x=>simp[off];omega
  ·have:l.drop i=[]:=List.drop_of_length_le (by omega)
   rw[this] at hx
   rw[eF,ak,dG (by simpa using hlt)]
   have:=k h e ho
   rw[hx] at this
   exact this
theorem u44 {n:Nat} {v:AV} {l:List Cls} {f:lK} {p:Nat} {K:aC} {h:aj} (ho:h.Ok) (C:CV h v l) (P:Var h p (dZ f)) (hl:l.length<lim) (hn:l.length<n)
 (k:∀h',Ext h h'→h'.Ok→K (.bool (idx f.cls (names l)).isSome) h'=true):aD E (n+3) (.func 79) [v, .fn (.func 80) [] [.ptr p 0 0 0]] h K=true:=by
 apply d79
 unfold s79
 apply d93
 unfold s93
 rw[C.len,ak]
 refine l55 C P hl ?_ (n+1) 0 h (Ext.refl h) ho (by omega) (by omega) (by rw[Ta];rfl)
 intro h' e' o'
 rw[nP,ak]
 have:=k h' e' o'
 have hx:decide ((0:Int)≤fint (idx f.cls (names l)))=(idx f.cls (names l)).isSome:=by
  cases idx f.cls (names l) with
  |none=>rfl
  |some x=>simp[fint]
 rw[hx];exact this
def cnt (s:Str) (fs:List lK):Nat:=(fs.filter fun f=>decide (f.name=s)).length
theorem CJ (s:Str) (a b:List lK):cnt s (a++b)=cnt s a+cnt s b:=by simp[cnt]
theorem Nq (s:Str) (f:lK):cnt s [f]=if s=f.name then 1 else 0:=by
 unfold cnt
 by_cases h:s=f.name
 ·subst h;simp
 ·have:¬f.name=s:=fun e=>h e.symm
  simp[h,this]
theorem J5 (s:Str) (fs:List lK):cnt s fs≤fs.length:=List.length_filter_le _ _
def rP (fs:List lK) (s:Str):Option AV:=if cnt s fs=0 then none else some (.int .i64 (cnt s fs:Int))
theorem Lf (fs:List lK) (f:lK):(fun s=>if s=f.name then some (AV.int .i64 ((cnt f.name fs+1:Nat):Int)) else rP fs s)=rP (fs++[f]):=by
 funext s
 unfold rP
 rw[CJ,Nq]
 by_cases h:s=f.name
 ·subst h;simp
 ·simp[h]
theorem PL (fs:List lK) (s:Str):(rP fs s).getD (.int .i64 0)= .int .i64 (cnt s fs:Int):=by
 unfold rP
 by_cases h:cnt s fs=0
 ·simp[h]
 ·simp[h]
structure Counts (h0:aj) (b:Nat) (mid vn vc:Nat) (fs:List lK) (h:aj):Prop where
 ext:Ext h0 h
 ok:h.Ok
 lo:h0.sz≤b∧b≤mid∧b≤vn∧b≤vc∧mid≠vn∧mid≠vc∧vn≠vc
 n:Var h vn [.map mid]
 c:Var h vc [.int .i64 (fs.length:Int)]
 m:ig h mid (rP fs)
theorem Counts.lt {h0 h:aj} {b mid vn vc:Nat} {fs:List lK} (C:Counts h0 b mid vn vc fs h):mid<h.sz∧vn<h.sz∧vc<h.sz:=⟨C.m.lt C.ok,C.n.lt C.ok,C.c.lt C.ok⟩
theorem Counts.grow {h0 h h':aj} {b mid vn vc:Nat} {fs:List lK} (C:Counts h0 b mid vn vc fs h) (e:Ext h h') (o:h'.Ok):Counts h0 b mid vn vc fs h':=
 ⟨C.ext.trans e,o,C.lo,C.n.ext e,C.c.ext e,C.m.ext e⟩
theorem Counts.name {h0 h:aj} {b mid vn vc:Nat} {fs:List lK} (k0:h0.Ok) (C:Counts h0 b mid vn vc fs h) (f:lK) (hlt:fs.length<lim):
 ∃h',kQ h (.leaf .str) (.map mid) (.str f.name) (.int .i64 ((cnt f.name fs+1:Nat):Int))=some h'∧h'.sz=h.sz∧h'.Ok∧Ext h0 h'∧Var h' vn [.map mid]∧Var h' vc [.int .i64 (fs.length:Int)]∧ig h' mid (rP (fs++[f]))∧
  (∀j o,j≠mid→h.get j=some o→h'.get j=some o):=by
 obtain⟨o,u1,u2⟩:=C.m.upd f.name (.int .i64 ((cnt f.name fs+1:Nat):Int))
 rw[Lf] at u2
 obtain⟨l1,l2,l3⟩:=C.lt
 obtain⟨a0,a1,a2,a3,a4,a5,a6⟩:=C.lo
 refine⟨_,u1,by simp,C.ok.put l1 _,gY C.ext k0 (by omega) _,C.n.other (Ne.symm a4) _,C.c.other (Ne.symm a5) _,u2,fun j x hj hx=> ?_⟩
 rw[jZ hj];exact hx
theorem bump {h:aj} {vc k:Nat} (V:Var h vc [.int .i64 (k:Int)]) (hk:k<lim):
 bT h 1 (.ptr vc 0 0 0) (.int .i64 ((k+1:Nat):Int))=some (h.put vc (.row (lI [.int .i64 ((k+1:Nat):Int)]))):=V.set1 (by simp) rfl
def Ee (all:List Str) (f:lK):Bool:=isName f.name&&decide (0≤f.ty)&&decide (f.ty≤5)&&(decide (f.ty=5)== !decide (f.cls=[]))&&(!decide (f.ty=5)||(idx f.cls all).isSome)
def LX (all:List Str):List lK→List lK→Bool
 |_,[]=>true
 |prev,f :: r=>Ee all f&&decide (cnt f.name prev=0)&&LX all (prev++[f]) r
def Bu (t:List Cls) (s:Str):List lK:=(chain t s).flatMap Cls.fields
def l9 (t:List Cls) (c:Cls) (all:List Str):Bool:=
 isName c.name&& !(idx c.name (names t)).isSome&&(decide (c.super=[])||(idx c.super (names t)).isSome)&&LX all (Bu t c.super) c.fields&&decide ((Bu t c.super).length+c.fields.length≤62)
theorem TA (h:aj) (a b:Bool):ru h true .bool (.bool a) (.bool b)=some (.bool (!(a==b))):=rfl
theorem HY (h:aj) (p:Nat) (f:lK) (V:Var h p (dZ f)) (nm:Bool) (k:AV→Bool):
 (ah (fT (.bool nm)) fun v61=>ah (aQ (aB v61 false) (aH 1 (.ptr p 0 0 0))) fun v62=>ah (aQ (aB v61 false) (au h false 1 v62)) fun v63=>ah (aQ (aB v61 false) (aR (BinOp.lss) v63 (AV.int (IntKind.i64) 0))) fun v64=>ah (cB v61 (AV.bool true) v64) fun v65=>ah (aQ (aB v65 false) (aH 1 (.ptr p 0 0 0))) fun v66=>ah (aQ (aB v65 false) (au h false 1 v66)) fun v67=>ah (aQ (aB v65 false) (aR (BinOp.gtr) v67 (AV.int (IntKind.i64) 5))) fun v68=>ah (cB v65 (AV.bool true) v68) fun v69=>ah (aQ (aB v69 false) (aH 1 (.ptr p 0 0 0))) fun v70=>ah (aQ (aB v69 false) (au h false 1 v70)) fun v71=>ah (aQ (aB v69 false) (aR (BinOp.eql) v71 (AV.int (IntKind.i64) 5))) fun v72=>ah (aQ (aB v69 false) (aH 2 (.ptr p 0 0 0))) fun v73=>ah (aQ (aB v69 false) (au h false 1 v73)) fun v74=>ah (aQ (aB v69 false) (aR (BinOp.neq) v74 (AV.str []))) fun v75=>ah (aQ (aB v69 false) (ru h true (Vp.bool) v72 v75)) fun v76=>ah (cB v69 (AV.bool true) v76) fun v77=>k v77)
 =k (.bool (!(nm&&decide (0≤f.ty)&&decide (f.ty≤5)&&(decide (f.ty=5)== !decide (f.cls=[]))))):=by
 have t0:decide (f.ty<0)= !decide (0≤f.ty):=by by_cases h:f.ty<0<;>simp[h]<;>omega
 have t5:decide (5<f.ty)= !decide (f.ty≤5):=by by_cases h:5<f.ty<;>simp[h]<;>omega
 cases nm
 ·simp
 ·simp only[dZ] at V
  by_cases a0:0≤f.ty
  ·by_cases a5:f.ty≤5
   ·by_cases e5:f.ty=5<;>by_cases ec:f.cls=[]<;>simp[V.load,t0,t5,a0,a5,e5,ec,TA]
   ·simp[V.load,t0,t5,a0,a5]
  ·simp[V.load,t0,t5,a0]
end Go.Proofs.YthmnnlpbnhkhkaaGreat
