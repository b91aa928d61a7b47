/-
  Texts that the claim hangs on, part 3.
-/
import Derived.Test.YtbijepcediaghaaGreatDoorR1
import Derived.RangeFuncRecord
import Derived.RangeFuncLeaves
import Derived.LoopNIn
import Derived.RecoverIn
import Derived.RowKit3
set_option linter.unusedSimpArgs false
set_option linter.unusedVariables false
namespace Go.Ab
noncomputable section
theorem zH {ms:List Nat} {i:Nat}:∀{l:List Edge},(uw ms l).testBit i=true→∃e∈l,Region.binds .any e=true∧(e.on=i∨(mk ms e.on).testBit i=true)
 | [],k=>by simp[uw] at k
 |e :: l,k=>by
  simp only[uw] at k;cases hb:Region.binds .any e with
  |false=>
   rw[hb] at k;exact have⟨e',h1,h2⟩:=zH (show(uw ms l).testBit i=true from k);⟨e',List.mem_cons_of_mem _ h1,h2⟩
  |true=>
   rw[hb,cond_true,Nat.testBit_or,Nat.testBit_or,Bool.or_eq_true,Bool.or_eq_true] at k;rcases k with(k |k)|k
   ·exact have⟨e',h1,h2⟩:=zH k;⟨e',List.mem_cons_of_mem _ h1,h2⟩
   ·rw[Nat.testBit_two_pow] at k;exact⟨e,List.mem_cons_self,hb, .inl (by simpa using k)⟩
   ·exact⟨e,List.mem_cons_self,hb, .inr k⟩
def M5 (ops:List Oper) (ms:List Nat):Prop:=∀j i,(mk ms j).testBit i=true→∃o,ops[j]? =some o∧∃e∈o.after,Region.binds .any e=true∧(e.on=i∨(mk ms e.on).testBit i=true)
theorem OP {ms:List Nat} {x j:Nat} (h:j<ms.length):mk (ms++[x]) j=mk ms j:=by
 simp only[mk,nk];rw[List.getElem?_append_left h]
theorem QL {ms:List Nat} {j:Nat} (h:ms.length≤j):mk ms j=0:=by
 simp only[mk,nk];rw[List.getElem?_eq_none h];rfl
theorem Kw:∀(l pre:List Oper) (ms:List Nat),ms.length=pre.length→M5 pre ms→M5 (pre++l) (masks l ms)
 | [],pre,ms,hl,hm=>by simpa[masks] using hm
 |o :: l,pre,ms,hl,hm=>by
  have:=Kw l (pre++[o]) (ms++[uw ms o.after.toList]) (by simp[hl]) (by
   intro j i hj;have lift:∀e:Edge,(mk ms e.on).testBit i=true→(mk (ms++[uw ms o.after.toList]) e.on).testBit i=true:=by
    intro e he;by_cases hlt:e.on<ms.length
    ·rw[OP hlt];exact he
    ·rw[QL (Nat.le_of_not_lt hlt)] at he;simp at he
   by_cases hlt:j<ms.length
   ·rw[OP hlt] at hj;have⟨o',h1,e,h2,h3,h4⟩:=hm j i hj;exact⟨o',by rw[List.getElem?_append_left (by omega)];exact h1,e,h2,h3,h4.imp_right (lift e)⟩
   ·by_cases heq:j=ms.length
    ·subst heq;have hx:mk (ms++[uw ms o.after.toList]) ms.length=uw ms o.after.toList:=by simp[mk,nk]
     rw[hx] at hj;exact have⟨e,h2,h3,h4⟩:=zH hj;⟨o,by rw[hl];simp,e,by simpa using h2,h3,h4.imp_right (lift e)⟩
    ·rw[QL (by simp;omega)] at hj;simp at hj)
  simpa[masks] using this
theorem ad2 (l:List Oper):M5 l (masks l []):=by
 have:=Kw l [] [] rfl (by intro j i hj;rw[QL (by simp)] at hj;simp at hj);simpa using this
theorem CX:∀{l:List Oper} {n:Nat},Aj n l=true→∀j o,l[j]? =some o→∀e∈o.after,Region.binds .any e=true→e.on<n+j
 | [],_,_,j,o,hj,_,_,_=>by simp at hj
 |x :: l,n,k,j,o,hj,e,he,hb=>by
  simp only[Aj,Bool.and_eq_true] at k;cases j with
  |zero=>
   simp at hj;subst hj;have:=List.all_eq_true.1 k.1 e (by simpa using he);rw[hb] at this;simpa using this
  |succ j=>
   have:=CX k.2 j o (by simpa using hj) e he hb;omega
section
variable {P:Program} {B B0:Base} {N n:Nat} {ops:Array Oper} {as:List aT} {ms el:List Nat} {call:bg}
abbrev Listed (s:Array Bool) (i:Nat):Prop:=s.getD i false=true
theorem SX (hm:M5 ops.toList ms) {s:Array Bool} (hs:∀j i,Listed s j→(mk ms j).testBit i=true→Listed s i) {j:Nat} (hr:j∈Region.ready .any ops s):
 ∀i,(mk ms j).testBit i=true→Listed s i:=by
 intro i hi;have⟨_,o,ho,hall⟩:=mem_ready.1 hr;have⟨o',h1,e,h2,h3,h4⟩:=hm j i hi;have:o'=o:=by
  rw[Array.getElem?_toList,ho] at h1;exact(Option.some.inj h1).symm
 subst this;have hl:=hall e h2 h3;rcases h4 with rfl |h4
 ·exact hl
 ·exact hs _ _ hl h4
theorem Ol {s:Array Bool} {j:Nat} (hr:j∈Region.ready .any ops s):¬Listed s j∧j<ops.size∧j<s.size:=by
 have⟨h0,o,ho,_⟩:=mem_ready.1 hr;have hsz:j<s.size:=by
  rcases Nat.lt_or_ge j s.size with h |h
  ·exact h
  ·simp[Array.getElem?_eq_none h] at h0
 refine⟨?_,(Array.getElem?_eq_some_iff.1 ho).1,hsz⟩;intro hl;simp[Listed,hsz] at hl h0;rw[hl] at h0;cases h0
theorem fG {s:Array Bool} {i j:Nat} (hi:i<s.size):Listed (s.setIfInBounds i true) j↔(j=i∨Listed s j):=by
 by_cases h:j=i
 ·subst h;simp[Listed,hi]
 ·unfold Listed;rw[getD_set_ne false (Ne.symm h)];simp[h]
theorem Yk (he:Aj 0 ops.toList=true) {s:Array Bool} (hsz:s.size=ops.size) (hr:Region.ready .any ops s=[]):∀m j,j<m→j<ops.size→Listed s j:=by
 intro m
 induction m with
 |zero=>intro j h;omega
 |succ m ih=>
  intro j hj hlt;by_cases hl:Listed s j
  ·exact hl
  ·exfalso;have:j∈Region.ready .any ops s:=by
    refine mem_ready.2 ⟨?_,ops[j],by simp[hlt], ?_⟩
    ·simp[Listed,hsz,hlt] at hl ⊢;exact hl
    ·intro e hem hb;exact have hlt2:=CX he j ops[j] (by simp[hlt]) e hem hb;ih e.on (by omega) (by omega)
   rw[hr] at this;cases this
def Fact (ρ:bZ) (h:ah) (o:aT):Prop:=
 ∃b,eO ρ o.grd=some b∧∃v,(b=true→aN ρ h o.op=some (v,h))∧(b=false→v= .tup [])∧∀d,o.dst=some d→ρ.get d=some v
theorem Fact.agree {ρ ρ':bZ} {h:ah} {o:aT} (k:Fact ρ h o) (h1:fD ρ ρ' (looks o)) (h2:fD ρ ρ' (lC o)):Fact ρ' h o:=by
 refine have⟨b,hb,v,e1,e2,e3⟩:=k;⟨b,by rw[←wJ h1];exact hb,v,fun t=>by rw[←mY (tX h1)];exact e1 t,e2,fun d hd=> ?_⟩
 rw[←h2 d (rH.2 hd)];exact e3 d hd
theorem aaw {ρ:bZ} {d:Option Nat} {v:AV} {l:List Nat} (k:∀t,d=some t→t ∉ l):fD ρ (put ρ d v) l:=by
 intro t ht;rw[bY (fun e=>k t e ht)]
theorem jP {ρ:bZ} {o:aT} {v:AV} {l:List Nat} (k:kD (lC o) l=true):fD ρ (put ρ o.dst v) l:=
 aaw fun t ht=>wu.1 k t (rH.2 ht)
theorem fD.trans {ρ ρ' ρ'':bZ} {l:List Nat} (h:fD ρ ρ' l) (k:fD ρ' ρ'' l):fD ρ ρ'' l:=fun t ht=>(h t ht).trans (k t ht)
theorem wX:∀{l:List Nat} {ρ ρ2:bZ} {h:ah},oz (l.map (ao as)) ρ h=some ρ2→sZ as l=true→
 (∀L,(∀j∈l,kD (lC (ao as j)) L=true)→fD ρ ρ2 L)∧∀i∈l,iZ (ao as i).op<2∧Fact ρ2 h (ao as i)
 | [],ρ,ρ2,h,hc,_=>by
   simp[oz] at hc;subst hc;exact⟨fun _ _ _ _=>rfl,fun i hi=>by cases hi⟩
 |i :: l,ρ,ρ2,h,hc,ho=>by
  simp only[sZ] at ho;cases hg:kD (lC (ao as i)) (looks (ao as i))&&Nat.blt (iZ (ao as i).op) 2&&lH l (kL as i) with
  |false=>rw[hg] at ho;cases ho
  |true=>
   rw[hg,cond_true] at ho;simp only[Bool.and_eq_true] at hg;have⟨⟨g1,g2⟩,g3⟩:=hg;have hcls:iZ (ao as i).op<2:=bC.1 g2;have hap:=fQ.1 g3;have key:∀v,oz (l.map (ao as)) (put ρ (ao as i).dst v) h=some ρ2→(∀L,(∀j∈i :: l,kD (lC (ao as j)) L=true)→fD ρ ρ2 L)∧
    (Fact (put ρ (ao as i).dst v) h (ao as i)→∀j∈i :: l,iZ (ao as j).op<2∧Fact ρ2 h (ao as j)):=by
    intro v hv;refine have⟨k1,k2⟩:=wX hv ho;⟨fun L hL=>(jP (hL i List.mem_cons_self)).trans (k1 L fun j hj=>hL j (List.mem_cons_of_mem _ hj)),fun hf j hj=> ?_⟩
    rcases List.mem_cons.1 hj with rfl |hj
    ·refine⟨hcls,hf.agree (k1 _ fun j' hj'=> ?_) (k1 _ fun j' hj'=> ?_)⟩
     ·have:=hap j' hj';simp only[kL,Bool.and_eq_true] at this;exact this.1
     ·have:=hap j' hj';simp only[kL,Bool.and_eq_true] at this;exact this.2
    ·exact k2 j hj
   simp only[List.map_cons,oz] at hc;have stay:∀v,fD ρ (put ρ (ao as i).dst v) (looks (ao as i)):=fun v=>jP g1;split at hc
   ·rename_i hw;split at hc
    ·rename_i v h' hv;refine have⟨k1,k2⟩:=key v hc;⟨k1,k2 ⟨true,by rw[←wJ (stay v)];exact hw,v,fun _=> ?_,fun e=>(by cases e),fun d hd=>(by rw[hd];exact iN)⟩⟩
     rw[←mY (tX (stay v)),hv,Iz hcls hv]
    ·cases hc
   ·rename_i hw;exact have⟨k1,k2⟩:=key _ hc;⟨k1,k2 ⟨false,by rw[←wJ (stay _)];exact hw, .tup [],fun e=>(by cases e),fun _=>rfl,fun d hd=>by rw[hd];exact iN⟩⟩
   ·cases hc
theorem Fact.again {ρ:bZ} {h g:ah} {o:aT} (k:Fact ρ h o) (hc:iZ o.op<2) (ha:lW ρ g o=true):Fact ρ g o:=by
 have⟨b,hb,v,e1,e2,e3⟩:=k;cases b with
 |false=>exact⟨false,hb,v,fun t=>(by cases t),e2,e3⟩
 |true=>
  unfold lW at ha;rw[hb] at ha;simp only at ha;split at ha
  ·rename_i u h' hu;have:=Iz hc hu;subst this;split at ha
   ·rename_i d hd;rw[e3 d hd] at ha;simp only at ha;exact⟨true,hb,v,fun t=>by rw[hu,same_eq _ _ ha],e2,e3⟩
   ·rename_i hd;exact⟨true,hb,u,fun t=>hu,fun e=>(by cases e),fun d hd'=>(by rw[hd] at hd';cases hd')⟩
  ·cases ha
theorem BD {ρ:bZ} {h:ah}:∀{l:List Nat},again ρ h (l.map (ao as))=true→∀i∈l,lW ρ h (ao as i)=true
 | [],_,_,hi=>by cases hi
 |j :: l,k,i,hi=>by
  simp only[List.map_cons,again] at k;cases hb:lW ρ h (ao as j) with
  |false=>rw[hb] at k;cases k
  |true=>
   rw[hb,cond_true] at k;rcases List.mem_cons.1 hi with rfl |hi
   ·exact hb
   ·exact BD k i hi
theorem Fact.blind {ρ:bZ} {h g:ah} {o:aT} (k:Fact ρ h o) (hc:iZ o.op=0):Fact ρ g o:=by
 exact have⟨b,hb,v,e1,e2,e3⟩:=k;⟨b,hb,v,fun t=>TG hc (e1 t),e2,e3⟩
theorem tC {α:Type} {c:Bool} {x:Option α} {y:α} (k:(bif c then x else none)=some y):c=true∧x=some y:=by
 cases c with
 |true=>exact⟨rfl,k⟩
 |false=>cases k
theorem rJ {c x:Bool} (k:(bif c then x else false)=true):c=true∧x=true:=by
 cases c with
 |false=>cases k
 |true=>exact⟨rfl,k⟩
theorem mW {seen:List Nat} {a:Nat} {chk ns:List Nat} {rest:Plan} (k:qD as ms el seen ((a,chk,ns) :: rest)=true):
 a ∉ seen∧sZ as ns=true∧(∀i∈ns,(mk ms i).testBit a=true)∧
 (∀i∈seen,((mk ms a).testBit i=true∧a ∉ el)∨(kD (lC (ao as a)) (looks (ao as i))=true∧kD (lC (ao as a)) (lC (ao as i))=true)∧(∀j∈ns,kD (lC (ao as j)) (looks (ao as i))=true∧kD (lC (ao as j)) (lC (ao as i))=true)∧(iZ (ao as i).op=0∨iZ (ao as i).op=2∨i∈chk))∧
 (∀b∈rest.map (·.1),(mk ms b).testBit a=true∨a∈el∨swapAt as ms el seen a chk ns rest b=true)∧qD as ms el (seen++a :: ns) rest=true∧
 (a∈el→kD (lC (ao as a)) (looks (ao as a))=true∧∀j∈ns,kD (lC (ao as j)) (looks (ao as a))=true∧kD (lC (ao as j)) (lC (ao as a))=true):=by
 unfold qD at k;have⟨hg,k⟩:=rJ k;simp only[Bool.and_eq_true] at hg;refine have⟨⟨⟨⟨⟨g1,g2⟩,g3⟩,g4⟩,g5⟩,g6⟩:=hg;⟨fun hm=> ?_,g2,fQ.1 g3,fun i hi=> ?_,fun b hb=> ?_,k,fun hm=> ?_⟩
 ·rw[jq.2 hm] at g1;cases g1
 ·have:=fQ.1 g4 i hi;simp only[Bool.or_eq_true,Bool.and_eq_true] at this;refine this.imp (fun⟨t1,t2⟩=>⟨t1,fun hm=> ?_⟩) fun⟨⟨t1,t2⟩,t3⟩=>⟨?_,fun j hj=> ?_, ?_⟩
  ·rw[jq.2 hm] at t2;cases t2
  ·simpa[kL] using t1
  ·have:=fQ.1 t2 j hj;simpa[kL] using this
  ·rcases t3 with(t3 |t3)|t3
   ·exact .inl (aG.1 t3)
   ·exact .inr (.inl (aG.1 t3))
   ·exact .inr (.inr (jq.1 t3))
 ·have:=fQ.1 g5 b hb;simp only[Bool.or_eq_true] at this;rcases this with(h |h)|h
  ·exact .inl h
  ·exact .inr (.inl (jq.1 h))
  ·exact .inr (.inr h)
 ·rw[jq.2 hm] at g6;simp only[Bool.not_true,Bool.false_or,Bool.and_eq_true] at g6;refine⟨g6.1,fun j hj=> ?_⟩;have:=fQ.1 g6.2 j hj;simpa[kL] using this
theorem tu:∀{pl:Plan} {seen:List Nat},qD as ms el seen pl=true→∀b∈pl.map (·.1),b ∉ seen
 | [],_,_,b,hb=>by cases hb
 |(a,chk,ns) :: rest,seen,k,b,hb=>by
  have⟨h1,_,_,_,_,h6,_⟩:=mW k;rcases List.mem_cons.1 hb with rfl |hb
  ·exact h1
  ·exact fun hm=>tu h6 b hb (List.mem_append_left _ hm)
theorem zy:∀{pl:Plan} {seen:List Nat},qD as ms el seen pl=true→∀i∈gN pl,i∈pl.map (·.1)∨∃b∈pl.map (·.1),(mk ms i).testBit b=true
 | [],_,_,i,hi=>by cases hi
 |(a,chk,ns) :: rest,seen,k,i,hi=>by
  have⟨_,_,h3,_,h5,h6,_⟩:=mW k;simp only[gN,List.cons_append,List.mem_cons,List.mem_append] at hi;rcases hi with rfl |hi |hi
  ·exact .inl List.mem_cons_self
  ·exact .inr ⟨a,List.mem_cons_self,h3 i hi⟩
  ·rcases zy h6 i hi with h |⟨b,hb,hbit⟩
   ·exact .inl (List.mem_cons_of_mem _ h)
   ·exact .inr ⟨b,List.mem_cons_of_mem _ hb,hbit⟩
def Uy (B:Base) (ρ:bZ) (o:aT) (id:Nat):Prop:=
 ∃(hp:ah) (v:AV) (ob:fC),hp.sz=id∧o.grd=none∧aN ρ hp o.op=some (v,hp.push ob)∧B.gh id=some ob∧∀d,o.dst=some d→ρ.get d=some v
theorem Uy.agree {ρ ρ':bZ} {o:aT} {id:Nat} (k:Uy B ρ o id) (h1:fD ρ ρ' (looks o)) (h2:fD ρ ρ' (lC o)):Uy B ρ' o id:=by
 refine have⟨hp,v,ob,e1,e2,e3,e4,e5⟩:=k;⟨hp,v,ob,e1,e2, ?_,e4,fun d hd=> ?_⟩
 ·rw[←mY (tX h1)];exact e3
 ·rw[←h2 d (rH.2 hd)];exact e5 d hd
theorem Uy.base {B':Base} {ρ:bZ} {o:aT} {id:Nat} (k:Uy B ρ o id) (h:B'.gh id=B.gh id):Uy B' ρ o id:=by
 exact have⟨hp,v,ob,e1,e2,e3,e4,e5⟩:=k;⟨hp,v,ob,e1,e2,e3,h.trans e4,e5⟩
theorem P5 {i:Nat} (h:i∈xP ops):∃o,ops[i]? =some o∧om o=true:=by
 unfold xP at h;have:=(List.mem_filter.1 h).2;split at this
 ·rename_i o ho;exact⟨o,ho,this⟩
 ·cases this
theorem Pp {o:Oper} {x:aT} (hc:lG P N ops o=some x) (he:om o=true):iZ x.op=2∧dI x.op=false:=by
 have⟨_,_,h3,_⟩:=gq hc;rw[h3];cases hop:fV P o.op with
 |none=>exact⟨rfl,rfl⟩
 |some op=>
  simp only[Option.getD_some];rcases qI hop he with⟨t,z,_,hz,rfl⟩|⟨t,x,n,y,_,_,_,rfl⟩|⟨t,_,rfl⟩|⟨t,l,c,e,sz,bytes,z,x,y,_,_,_,_,_,_,_,rfl⟩|⟨t,m,ps,n,sz,z,qs,_,_,rfl⟩
  ·cases oJ z.cells<;>exact⟨rfl,rfl⟩
  ·exact⟨rfl,rfl⟩
  ·exact⟨rfl,rfl⟩
  ·exact⟨rfl,rfl⟩
  ·exact⟨rfl,rfl⟩
def POk (as:List aT) (ms el:List Nat) (seen:List Nat) (pl:Plan):Prop:=qD as ms el seen pl=true
def adH (as:List aT) (ms el:List Nat) (seen:List Nat):Plan→Prop
 | []=>True
 |(a,chk,ns) :: rest=>a ∉ seen∧sZ as ns=true∧(∀i∈ns,(mk ms i).testBit a=true)∧
  (∀i∈seen,((mk ms a).testBit i=true∧a ∉ el)∨(kD (lC (ao as a)) (looks (ao as i))=true∧kD (lC (ao as a)) (lC (ao as i))=true)∧(∀j∈ns,kD (lC (ao as j)) (looks (ao as i))=true∧kD (lC (ao as j)) (lC (ao as i))=true)∧(iZ (ao as i).op=0∨iZ (ao as i).op=2∨i∈chk))∧
  qD as ms el (seen++a :: ns) rest=true∧
  (a∈el→kD (lC (ao as a)) (looks (ao as a))=true∧∀j∈ns,kD (lC (ao as j)) (looks (ao as a))=true∧kD (lC (ao as j)) (lC (ao as a))=true)
theorem adL {l:List Nat} {p q:Nat→Bool} (h:∀i∈l,p i=true→q i=true) (k:lH l p=true):lH l q=true:=fQ.2 fun i hi=>h i hi (fQ.1 k i hi)
theorem Ih:∀{pl:Plan} {s t:List Nat},(∀i,i∈t↔i∈s)→qD as ms el s pl=true→qD as ms el t pl=true
 | [],_,_,_,_=>rfl
 |(a,chk,ns) :: rest,s,t,hst,k=>by
  unfold qD at k ⊢;have⟨hg,k⟩:=rJ k;simp only[Bool.and_eq_true] at hg;have⟨⟨⟨⟨⟨g1,g2⟩,g3⟩,g4⟩,g5⟩,g6⟩:=hg;have e1:lY a t=lY a s:=by
   cases h:lY a s with
   |true=>exact jq.2 ((hst a).2 (jq.1 h))
   |false=>
    cases h':lY a t with
    |false=>rfl
    |true=>rw[jq.2 ((hst a).1 (jq.1 h'))] at h;cases h
  have e2:∀p:Nat→Bool,lH s p=true→lH t p=true:=fun p hp=>fQ.2 fun i hi=>fQ.1 hp i ((hst i).1 hi);have e3:∀b,swapAt as ms el s a chk ns rest b=true→swapAt as ms el t a chk ns rest b=true:=by
   intro b hb;cases rest with
   |nil=>exact hb
   |cons p l=>
    have⟨c,cb,nb⟩:=p;simp only[swapAt,Bool.and_eq_true] at hb ⊢;exact⟨hb.1,e2 _ hb.2⟩
  have hcond:(!lY a t&&sZ as ns&&lH ns (fun i=>(mk ms i).testBit a)
   &&lH t (fun i=>((mk ms a).testBit i&& !lY a el)||(kL as i a&&lH ns (kL as i)&&(Nat.beq (iZ (ao as i).op) 0||Nat.beq (iZ (ao as i).op) 2||lY i chk)))
   &&lH (rest.map (·.1)) (fun b=>(mk ms b).testBit a||lY a el||swapAt as ms el t a chk ns rest b)
   &&(!lY a el||(kD (lC (ao as a)) (looks (ao as a))&&lH ns (kL as a))))=true:=by
   simp only[Bool.and_eq_true];refine⟨⟨⟨⟨⟨by rw[e1];exact g1,g2⟩,g3⟩,e2 _ g4⟩,adL (fun b _ hb=> ?_) g5⟩,g6⟩;simp only[Bool.or_eq_true] at hb ⊢;exact hb.imp_right (e3 b)
  rw[hcond,cond_true];exact Ih (fun i=>by simp only[List.mem_append,hst]) k
theorem akh {α:Type} {l:List α} (h:Nat.beq l.length 0=true):l=[]:=List.length_eq_zero_iff.1 (aG.1 h)
theorem qL {a b:Nat} {chk ns cb:List Nat} (k:oK as ms a b chk ns cb=true):
 a<b∧ns=[]∧chk=[]∧lH cb (fun i=>Ee (ao as i))=true∧∃n x u m y t,ao as a=⟨none, .store n x u,none⟩∧ao as b=⟨none, .store m y t,none⟩:=by
 unfold oK at k;simp only[Bool.and_eq_true] at k;have⟨⟨⟨⟨⟨⟨k1,_⟩,k3⟩,k4⟩,k5⟩,k6⟩,k7⟩:=k;have st:∀o:aT,Zv o=true→∃n x u,o=⟨none, .store n x u,none⟩:=by
  intro o ho;have⟨d,op,g⟩:=o;unfold Zv at ho;split at ho
  ·rename_i n x u h1 h2 h3;simp only at h1 h2 h3;subst h1;subst h2;subst h3;exact⟨_,_,_,rfl⟩
  ·cases ho
 have⟨n,x,u,e1⟩:=st _ k3;exact have⟨m,y,t,e2⟩:=st _ k4;⟨bC.1 k1,akh k5,akh k6,k7,n,x,u,m,y,t,e1,e2⟩
theorem QA {a b:Nat} {chk ns cb:List Nat} (h:a<b):oK as ms b a chk ns cb=false:=by
 have:Nat.blt b a=false:=by
  cases e:Nat.blt b a with
  |false=>rfl
  |true=>have:=bC.1 e;omega
 simp[oK,this]
theorem LQ {a:Nat} {chk ns:List Nat} {rest:Plan} {σ:St} {K:KSt} (k:jM call (jS as ms a chk ns rest) σ K=true):jM call (ao as a) σ K=true:=by
 cases rest with
 |nil=>exact k
 |cons p l=>
  have⟨b,cb,nb⟩:=p;simp only[jS] at k;cases ht:oK as ms a b chk ns cb with
  |false=>rw[ht] at k;exact k
  |true=>
   rw[ht,cond_true] at k;have⟨_,_,_,_,n,x,u,m,y,t,e1,e2⟩:=qL ht;rw[e1,e2] at k;rw[e1];simp only[aly,jM,eO,gW,aN] at k ⊢;cases h1:ev σ.regs x with
   |none=>rw[h1] at k;cases k
   |some x'=>
    cases h2:ev σ.regs u with
    |none=>rw[h1,h2] at k;cases k
    |some u'=>
     cases h3:ev σ.regs y with
     |none=>rw[h1,h2,h3] at k;cases k
     |some y'=>
      rw[h1,h2,h3] at k;simp only at k ⊢;cases h4:sj x' y' with
      |false=>rw[h4] at k;cases k
      |true=>rw[h4] at k;exact k
theorem X9 {a:Nat} {chk ns:List Nat} {rest:Plan} (h:iZ (ao as a).op=2→∀n x u,(ao as a).op≠ .store n x u):jS as ms a chk ns rest=ao as a:=by
 cases rest with
 |nil=>rfl
 |cons p l=>
  have⟨b,cb,nb⟩:=p;simp only[jS];cases ht:oK as ms a b chk ns cb with
  |false=>rfl
  |true=>
   exact have⟨_,_,_,_,n,x,u,m,y,t,e1,e2⟩:=qL ht;absurd (by rw[e1]) (h (by rw[e1];rfl) n x u)
theorem Dq {a:Nat} {chk ns:List Nat} {rest:Plan}:iH (jS as ms a chk ns rest)=iH (ao as a):=by
 cases rest with
 |nil=>rfl
 |cons p l=>
  have⟨b,cb,nb⟩:=p;simp only[jS];cases ht:oK as ms a b chk ns cb with
  |false=>rfl
  |true=>
   have⟨_,_,_,_,n,x,u,m,y,t,e1,e2⟩:=qL ht;rw[e1,e2];rfl
theorem Yd {n:Nat} {x u:bB} {σ:St} {K:KSt} (k:jM call ⟨none, .store n x u,none⟩ σ K=true):∃x' u' h',ev σ.regs x=some x'∧ev σ.regs u=some u'∧bM σ.h n x' u'=some h'∧K (.tup []) ⟨σ.regs,h'⟩=true:=by
 simp only[jM,eO,gW,aN] at k;cases h1:ev σ.regs x with
 |none=>rw[h1] at k;cases k
 |some x'=>
  cases h2:ev σ.regs u with
  |none=>rw[h1,h2] at k;cases k
  |some u'=>
   rw[h1,h2] at k;simp only at k;cases h3:bM σ.h n x' u' with
   |none=>rw[h3] at k;cases k
   |some h'=>
    rw[h3] at k;exact⟨x',u',h',rfl,rfl,h3,k⟩
theorem Lb {n:Nat} {x u:bB} {σ:St} {K:KSt} {x' u':AV} {h':ah} (h1:ev σ.regs x=some x') (h2:ev σ.regs u=some u') (h3:bM σ.h n x' u'=some h') (k:K (.tup []) ⟨σ.regs,h'⟩=true):jM call ⟨none, .store n x u,none⟩ σ K=true:=by
 simp only[jM,eO,gW,aN,h1,h2,h3,unit];exact k
theorem ac5 {n:Nat} {x u y:bB} {σ:St} {K:KSt} (k:jM call ⟨none, .stw n x u y,none⟩ σ K=true):∃x' u' y' h',ev σ.regs x=some x'∧ev σ.regs u=some u'∧ev σ.regs y=some y'∧sj x' y'=true∧bM σ.h n x' u'=some h'∧K (.tup []) ⟨σ.regs,h'⟩=true:=by
 simp only[jM,eO,gW,aN] at k;cases h1:ev σ.regs x with
 |none=>rw[h1] at k;cases k
 |some x'=>
  cases h2:ev σ.regs u with
  |none=>rw[h1,h2] at k;cases k
  |some u'=>
   cases h4:ev σ.regs y with
   |none=>rw[h1,h2,h4] at k;cases k
   |some y'=>
    rw[h1,h2,h4] at k;simp only at k;cases h5:sj x' y' with
    |false=>rw[h5] at k;cases k
    |true=>
     rw[h5,cond_true] at k;cases h3:bM σ.h n x' u' with
     |none=>rw[h3] at k;cases k
     |some h'=>
      rw[h3] at k;exact⟨x',u',y',h',rfl,rfl,rfl,h5,h3,k⟩
theorem Ic {a:Nat} {chk ns:List Nat} {rest:Plan}:dI (jS as ms a chk ns rest).op=dI (ao as a).op:=by
 cases rest with
 |nil=>rfl
 |cons p l=>
  have⟨b,cb,nb⟩:=p;simp only[jS];cases ht:oK as ms a b chk ns cb with
  |false=>rfl
  |true=>
   have⟨_,_,_,_,n,x,u,m,y,t,e1,e2⟩:=qL ht;rw[e1,e2];rfl
theorem adO {a b:Nat} {chk ns cb nb:List Nat} {rest:Plan} {es:List Nat} {ρ0:bZ} {σ:St} {K:ow} (ht:oK as ms a b chk ns cb=true) (hn:jS as ms a [] nb rest=ao as a)
 (hrun:oq call ρ0 es (opsOf as ms ((a,chk,ns) :: (b,cb,nb) :: rest)) σ K=true):oq call ρ0 es (opsOf as ms ((b,cb,[]) :: (a,[],nb) :: rest)) σ K=true:=by
 obtain⟨hlt,rfl,rfl,hi,n,x,u,m,y,t,e1,e2⟩:=qL ht;have hb:jS as ms b cb [] ((a,[],nb) :: rest)=ao as b:=by
  simp only[jS];rw[QA hlt];rfl
 have ha:jS as ms a [] [] ((b,cb,nb) :: rest)=⟨none, .stw n x u y,none⟩:=by
  simp only[jS,ht,cond_true];rw[e1,e2];rfl
 have key:∀σ K,jM call (jS as ms b cb nb rest) σ K=true→jM call ⟨none, .store m y t,none⟩ σ K=true:=fun σ K k=>by
  rw[←e2];exact LQ k
 have hie:iH (jS as ms b cb nb rest)=false:=by rw[Dq,e2];rfl
 have hic:dI (jS as ms b cb nb rest).op=false:=by rw[Ic,e2];rfl
 simp only[opsOf,hb,hn];simp only[opsOf,ha] at hrun;rw[e1,e2];generalize jS as ms b cb nb rest=hd at hrun key hie hic;generalize opsOf as ms rest=rs at hrun ⊢;unfold oq at hrun;obtain⟨x',u',y',hA,h1,h2,h3,h4,h5,hrun⟩:=ac5 hrun;simp only[dI,oL,cond_false,List.map_nil,again,cond_true,oz] at hrun;have hes:(bif iH ⟨none, .stw n x u y,none⟩ then σ.h.sz :: es else es)=es:=rfl;rw[hes] at hrun;unfold oq at hrun;obtain⟨y2,t',hB,g1,g2,g3,hrun⟩:=Yd (key _ _ hrun);simp only at g1 g2 g3;rw[h3] at g1;cases g1;simp only[hic,oL,cond_false] at hrun;obtain⟨hag,hrun⟩:=rJ hrun;obtain⟨hC,q1,q2,q3⟩:=XH h4 h5 g3;rw[hie,cond_false] at hrun;unfold oq;refine Lb h3 g2 q1 ?_;have hag':again σ.regs hC (cb.map (ao as))=true:=by rw[Ki q3 hi];exact hag
 simp only[dI,oL,cond_false,hag',cond_true,List.map_nil,oz];have hes:(bif iH ⟨none, .store m y t,none⟩ then σ.h.sz :: es else es)=es:=rfl;rw[hes];unfold oq;refine Lb h1 h2 q2 ?_;simp only[dI,oL,cond_false,List.map_nil,again,cond_true];exact hrun
structure Mid (W:List Nat→Plan→Prop) (P:Program) (B0 B:Base) (N:Nat) (ops:Array Oper) (as:List aT) (ms el:List Nat) (pe:Nat→Option Nat) (s:Array Bool) (seen:List Nat) (pl:Plan) (φ:dD) (σ:St) (a:Act) (w:World):Prop where
 size:s.size=ops.size
 closed:∀j i,Listed s j→(mk ms j).testBit i=true→Listed s i
 acts:∀b∈pl.map (·.1),¬Listed s b
 cover:∀i,i<ops.size→i∈seen++gN pl
 bound:∀i∈seen++gN pl,i<ops.size
 plan:W seen pl
 waits:∀j,j<ops.size→∀i∈seen++Az pl++el,¬Listed s i→kD (lC (ao as i)) (looks (ao as j))=true∨(mk ms j).testBit i=true
 facts:∀i∈seen,¬Listed s i→(iZ (ao as i).op<2∧Fact σ.regs σ.h (ao as i))∨∃id,pe i=some id
 pend:∀i id,pe i=some id→i∈seen∧¬Listed s i∧i∈el∧Uy B σ.regs (ao as i) id
 inj:∀i j id,pe i=some id→pe j=some id→i=j
 same:∀id,(∀i,pe i≠some id)→B.gh id=B0.gh id
 old:∀i id,pe i=some id→B0.gh id=none
 num:B.n=B0.n
 room:N≤a.tmps.size
 regs:∀d v,σ.regs.get d=some v→(∃i∈seen,¬Listed s i∧(ao as i).dst=some d)∨∃cv,a.tmps[d]? =some cv∧bG φ v cv
 heap:bR P B φ σ.h w
theorem D8 (a:Act) (d:Option Tmp) (v:Value):(a.put d v).tmps.size=a.tmps.size:=by
 cases d with
 |none=>rfl
 |some d=>simp[Act.put]
theorem adU {a:Act} {d:Tmp} {v:Value} (h:d<a.tmps.size):(a.put (some d) v).tmps[d]? =some v:=by simp[Act.put,h]
theorem Qf {a:Act} {d:Option Tmp} {t:Tmp} {v:Value} (h:d≠some t):(a.put d v).tmps[t]? =a.tmps[t]? :=by
 cases d with
 |none=>rfl
 |some d=>simp only[Act.put];rw[Array.getElem?_setIfInBounds_ne (fun e=>h (by rw[e]))]
theorem qZ {ops0:Array Oper}:∀{l:List Oper} {as:List aT},eU P N ops0 l=some as→∀i o,l[i]? =some o→lG P N ops0 o=some (ao as i)
 | [],_,_,i,o,hi=>by simp at hi
 |x :: l,as,hc,i,o,hi=>by
  simp only[eU] at hc;split at hc
  ·rename_i y hy;split at hc
   ·rename_i r hr;cases hc;cases i with
    |zero=>simp at hi;subst hi;simpa[ao,nth] using hy
    |succ i=>simpa[ao,nth] using qZ hr i o (by simpa using hi)
   ·cases hc
  ·cases hc
theorem JH {r:Option Nat} {i:Nat} {o:Oper} {x:aT} {σ:St} {ρ:bZ} {φ:dD} {a:Act} {w:World} {K:KSt} {next:Act→World→Prop} {Q:Exit→Act→World→Prop} (hcall:nX P call) (hi:ops[i]? =some o) (hc:lG P N ops o=some x)
 (hR:lZ φ N ρ a.tmps) (H:bR P B φ σ.h w) (hag:fD ρ σ.regs (looks x)) (hs:jM call x σ K=true)
 (hnext:∀v h' cv φ' w',K v ⟨put σ.regs x.dst v,h'⟩=true→iB v=none→bG φ' v cv→bR P B φ' h' w'→φ.le φ'→Gw B w w'→next (a.put x.dst cv) w')
 (hpan:dI x.op=true→∀v h' cv φ' w',K (.pan v) ⟨σ.regs,h'⟩=true→bG φ' v cv→bR P B φ' h' w'→φ.le φ'→Gw B w w'→Q (.panic [{v:=cv,recovered:=false}]) a w'):wpOpIn (FW r) n P ops Q i next a w:=by
 have⟨h1,h2,h3,h4⟩:=gq hc;unfold wpOpIn;simp only[hi];unfold jM at hs;split at hs
 ·rename_i hw;rw[mV hc hR (by rw[wJ hag];exact hw)];simp only[if_true];rw[←U1 (tX hag)] at hs;cases hop:fV P o.op with
  |none=>rw[hop] at h3;rw[h3] at hs;simp[gW,aN] at hs
  |some op=>
   rw[hop] at h3;simp only[Option.getD_some] at h3;rw[h3] at hs;refine Ow (K:=fun v h'=>K v ⟨zF σ.regs (dI x.op) x.dst v,h'⟩) hcall hR H hop (by rw[h3];exact hs) ?_ ?_
   ·intro v h' cv φ' w' hK g1 g2 g3 g4;have hn:=Md g1;simp only[zF,qV hn] at hK;rw[←h1];exact hnext v _ _ φ' w' hK hn g1 g2 g3 g4
   ·intro hx v h' cv φ' w' hK g1 g2 g3 g4;rw[←h3] at hx;simp only[zF,hx,oL,cond_true,iB] at hK;exact hpan hx v h' cv φ' w' hK g1 g2 g3 g4
 ·rename_i hw;rw[mV hc hR (by rw[wJ hag];exact hw)];simp only[Bool.false_eq_true,if_false];refine⟨fun _ _=>trivial, ?_⟩;rw[←h1];exact hnext _ _ _ φ w hs rfl (.tup .nil) H φ.le_refl (Gw.refl B w)
 ·cases hs
theorem TM {ops0:Array Oper} {o:Oper} {x:aT} {σ:St} {ρ:bZ} {φ:dD} {a:Act} {w:World} {b:Bool} {v:AV} (hc:lG P N ops0 o=some x) (hR:lZ φ N ρ a.tmps) (H:bR P B φ σ.h w) (hag:fD ρ σ.regs (looks x)) (hcls:iZ x.op<2)
 (e1:b=true→aN σ.regs σ.h x.op=some (v,σ.h)) (e2:b=false→v= .tup []):iB v=none:=by
 cases b with
 |false=>rw[e2 rfl];rfl
 |true=>
  have⟨h1,h2,h3,h4⟩:=gq hc;have e:=e1 rfl;rw[←mY (tX hag)] at e;cases hop:fV P o.op with
  |none=>rw[hop] at h3;rw[h3] at e;cases e
  |some op=>
   rw[hop] at h3;simp only[Option.getD_some] at h3;rw[h3] at e hcls;have hn:dI op=false:=by cases op<;>first |rfl |(simp[iZ] at hcls;done)
   exact have⟨cv,w',φ',_,g1,_⟩:=vk (o:=o) hR H (CO hop hn) e;Md g1
theorem UA {W:List Nat→Plan→Prop} {s:Array Bool} {seen:List Nat} {pl:Plan} {φ:dD} {σ:St} {a:Act} {w:World} {pe:Nat→Option Nat} (M:Mid W P B0 B N ops as ms el pe s seen pl φ σ a w) {i:Nat} (hi:i<ops.size) (hw:∀j,(mk ms i).testBit j=true→Listed s j):
 lZ φ N (restrict σ.regs (looks (ao as i))) a.tmps:=by
 refine⟨M.room,fun t v ht=> ?_⟩;rw[sN] at ht;split at ht
 ·rename_i hm;rcases M.regs t v ht with⟨j,hj,hnl,hd⟩|h
  ·exfalso;rcases M.waits i hi j (List.mem_append_left _ (List.mem_append_left _ hj)) hnl with h |h
   ·exact wu.1 h t (rH.2 hd) hm
   ·exact hnl (hw j h)
  ·exact h
 ·cases ht
theorem V7 {op:dW} (h:iZ op<2):dI op=false:=by cases op<;>first |rfl |(simp[iZ] at h;done)
theorem count_set {s:Array Bool} {i:Nat} (hi:i<s.size) (hn:¬Listed s i):(s.setIfInBounds i true).toList.count false<s.toList.count false:=by
 have h0:s.toList[i]'(by simpa using hi)=false:=by
  simp[Listed,hi] at hn;simpa using hn
 have hpos:0<s.toList.count false:=List.count_pos_iff.2 (by rw[←h0];exact List.getElem_mem _);rw[Array.toList_setIfInBounds,List.count_set (by simpa using hi),h0,if_pos (by rfl),if_neg (by decide)];omega
theorem abu {s:Array Bool} (h:s.toList.count false=0) (hsz:s.size=ops.size):Region.ready .any ops s=[]:=by
 rw[List.eq_nil_iff_forall_not_mem];intro j hj;have⟨h1,h2,h3⟩:=Ol hj;have:false∈s.toList:=by
  simp[Listed,h3] at h1;rw[←h1];have:=Array.getElem_mem_toList h3;exact this
 have:=List.count_pos_iff.2 this;omega
theorem C9 {o:Oper} {op:dW} {ρ:bZ} {h h':ah} {v:AV} (hc:fV P o.op=some op) (he:om o=true) (hv:aN ρ h op=some (v,h')):iB v=none:=by
 rcases qI hc he with⟨t,z,_,hz,rfl⟩|⟨t,x,n,y,_,_,_,rfl⟩|⟨t,_,rfl⟩|⟨t,l,c,e,sz,bytes,z,x,y,_,_,_,_,_,_,_,rfl⟩|⟨t,m,ps,n,sz,z,qs,_,_,rfl⟩
 ·cases hn:oJ z.cells with
  |true=>
   rw[hn,cond_true] at hv;simp only[aN] at hv;cases hb:(Nat.blt 0 z.cells.length&&aB z.cells) with
   |false=>rw[hb] at hv;cases hv
   |true=>rw[hb,cond_true] at hv;cases hv;rfl
  |false=>
   rw[hn,cond_false] at hv;simp only[aN,qR] at hv;cases hb:Nat.beq z.cells.length 0 with
   |true=>rw[hb,cond_true] at hv;cases hv;rfl
   |false=>
    rw[hb,cond_false] at hv;cases hl:aB z.cells with
    |true=>rw[hl,cond_true] at hv;cases hv;rfl
    |false=>rw[hl] at hv;cases hv
 ·simp only[aN] at hv;split at hv
  ·rename_i u hu;unfold mo at hv;cases hb:(Nat.beq u.cells.length n&&aB u.cells&&Nat.blt 0 n) with
   |false=>rw[hb] at hv;cases hv
   |true=>rw[hb,cond_true] at hv;cases hv;rfl
  ·cases hv
 ·simp only[aN] at hv;cases hv;rfl
 ·simp only[aN] at hv;split at hv
  ·unfold Eb at hv;split at hv
   ·have⟨_,hv⟩:=tC hv;cases hv;rfl
   ·cases hv
  ·cases hv
 ·simp only[aN] at hv;cases hb:(Nat.beq z.length sz&&Nat.blt 0 sz&&Nat.ble (n*sz) 16777216&&aB z) with
  |false=>rw[hb] at hv;cases hv
  |true=>
   rw[hb,cond_true] at hv;split at hv
   ·cases hv;rfl
   ·cases hv
theorem abH {ops0:Array Oper} {o:Oper} {x:aT} (hc:lG P N ops0 o=some x) (he:om o=true) (hf:x.op≠ .fail):iH x=true:=by
 have⟨h1,h2,h3,h4⟩:=gq hc;have hgrd:x.grd=none:=by
  rcases h4 with⟨_,h⟩|⟨j,wt,g,d,hg,_⟩
  ·exact h
  ·rw[(Gq he).1] at hg;cases hg
 unfold iH;rw[hgrd];cases hop:fV P o.op with
 |none=>rw[hop] at h3;exact absurd h3 hf
 |some op=>
  rw[hop] at h3;simp only[Option.getD_some] at h3;rw[h3];rcases qI hop he with⟨t,z,_,hz,rfl⟩|⟨t,x,n,y,_,_,_,rfl⟩|⟨t,_,rfl⟩|⟨t,l,c,e,sz,bytes,z,x,y,_,_,_,_,_,_,_,rfl⟩|⟨t,m,ps,n,sz,z,qs,_,_,rfl⟩
  ·cases oJ z.cells<;>rfl
  ·rfl
  ·rfl
  ·rfl
  ·rfl
theorem NC {o:Oper} {x:aT} {b:Nat} {chk ns:List Nat} {rest:Plan} {ops0:Array Oper} (hc:lG P N ops0 o=some x) (he:om o=true) (hx:x=ao as b):jS as ms b chk ns rest=ao as b:=by
 refine X9 fun _ n y u e=> ?_;subst hx;have⟨_,_,h3,_⟩:=gq hc;cases hop:fV P o.op with
 |none=>rw[hop] at h3;rw[h3] at e;cases e
 |some op=>
  rw[hop] at h3;simp only[Option.getD_some] at h3;rw[h3] at e;rcases qI hop he with⟨t,z,_,hz,rfl⟩|⟨t,x,n,y,_,_,_,rfl⟩|⟨t,_,rfl⟩|⟨t,l,c,e,sz,bytes,z,x,y,_,_,_,_,_,_,_,rfl⟩|⟨t,m,ps,n,sz,z,qs,_,_,rfl⟩
  ·cases hn:oJ z.cells<;>rw[hn] at e<;>cases e
  ·cases e
  ·cases e
  ·cases e
  ·cases e
def abl (B0:Base) (pe:Nat→Option Nat) (es:List Nat):Prop:=(∀i id,pe i=some id→id∈es)∧∀id∈es,B0.gh id=none
theorem ZG {W:List Nat→Plan→Prop} {s:Array Bool} {seen:List Nat} {pl:Plan} {φ:dD} {σ:St} {a:Act} {w:World} {pe:Nat→Option Nat} (M:Mid W P B0 B N ops as ms el pe s seen pl φ σ a w):B0.gh σ.h.sz=none:=by
 rw[←M.same σ.h.sz fun i hi=> ?_]
 ·exact M.heap.noGhost
 ·have⟨_,_,_,hp,v',ob',_,_,_,e4,_⟩:=M.pend i _ hi;rw[M.heap.noGhost] at e4;cases e4
theorem ghost_step {s:Array Bool} {seen:List Nat} {b:Nat} {chk ns:List Nat} {rest:Plan} {pe:Nat→Option Nat} {φ:dD} {σ:St} {a:Act} {w:World} {K:ow} {ρ0:bZ} {es:List Nat} (hc:eU P N ops ops.toList=some as) (hel:∀i∈el,∃o,ops[i]? =some o∧om o=true)
 (M:Mid (POk as ms el) P B0 B N ops as ms el pe s seen ((b,chk,ns) :: rest) φ σ a w) (hb:b∈el) (hrun:oq call ρ0 es (opsOf as ms ((b,chk,ns) :: rest)) σ K=true) (hes:abl B0 pe es):
 ∃B' pe' σ',Mid (POk as ms el) P B0 B' N ops as ms el pe' s (seen++b :: ns) rest φ σ' a w∧oq call ρ0 (σ.h.sz :: es) (opsOf as ms rest) σ' K=true∧abl B0 pe' (σ.h.sz :: es):=by
 have⟨o,ho,he⟩:=hel b hb;have hco:=qZ hc b o (by rw[Array.getElem?_toList];exact ho);have⟨h1,h2,h3,h4⟩:=gq hco;have hgrd:(ao as b).grd=none:=by
  rcases h4 with⟨_,h⟩|⟨j,wt,g,d,hg,_⟩
  ·exact h
  ·rw[(Gq he).1] at hg;cases hg
 simp only[opsOf,NC hco he rfl,oq,jM,hgrd,eO] at hrun;rw[kF (Pp hco he).2] at hrun;split at hrun
 rotate_left
 ·cases hrun
 rename_i v h' hv;obtain⟨ob,rfl,hobo⟩:∃ob,h'=σ.h.push ob∧ob.own=true:=by
  cases hop:fV P o.op with
  |none=>rw[hop] at h3;rw[h3] at hv;cases hv
  |some op=>rw[hop] at h3;rw[h3] at hv;exact(XR hop he hv).2
 have hvn:iB v=none:=by
  cases hop:fV P o.op with
  |none=>rw[hop] at h3;rw[h3] at hv;cases hv
  |some op=>rw[hop] at h3;rw[h3] at hv;exact C9 hop he hv
 have hie:iH (ao as b)=true:=abH hco he (fun e=>by rw[e] at hv;cases hv);simp only[qV hvn,hie,cond_true,zF] at hrun;have⟨hag,hrun⟩:=rJ hrun;split at hrun
 rotate_left
 ·cases hrun
 rename_i ρ2 hρ2;have⟨p1,p2,p3,p4,p5,p6,p7⟩:=mW M.plan;have⟨p8,p9⟩:=p7 hb;have⟨c1,c2⟩:=wX hρ2 p2;have hng:=M.heap.noGhost;have hbl:¬Listed s b:=M.acts b List.mem_cons_self;have hbse:pe b=none:=by
  cases e:pe b with
  |none=>rfl
  |some id=>exact absurd (M.pend b id e).1 p1
 have hids:∀j id,pe j=some id→id≠σ.h.sz:=by
  rintro j id hj rfl;have⟨_,_,_,hp,v',ob',_,_,_,e4,_⟩:=M.pend j _ hj;rw[hng] at e4;cases e4
 have hpe:∀j id,(if j=b then some σ.h.sz else pe j)=some id→(j=b∧id=σ.h.sz)∨(j≠b∧pe j=some id):=by
  intro j id e;by_cases hj:j=b
  ·rw[if_pos hj] at e;cases e;exact .inl ⟨hj,rfl⟩
  ·rw[if_neg hj] at e;exact .inr ⟨hj,e⟩
 have hfar:∀k∈seen,fD σ.regs ρ2 (looks (ao as k))∧fD σ.regs ρ2 (lC (ao as k))∧(iZ (ao as k).op=0∨iZ (ao as k).op=2∨k∈chk):=by
  intro k hk;rcases p4 k hk with⟨_,h⟩|⟨⟨q1,q2⟩,q3,q4⟩
  ·exact absurd hb h
  ·exact⟨(jP q1).trans (c1 _ fun j hj=>(q3 j hj).1),(jP q2).trans (c1 _ fun j hj=>(q3 j hj).2),q4⟩
 refine⟨B.add σ.h.sz ob,fun j=>if j=b then some σ.h.sz else pe j,⟨ρ2,σ.h.push ob⟩,⟨M.size,M.closed,fun k hk=>M.acts k (List.mem_cons_of_mem _ hk),fun j hj=> ?_,fun j hj=> ?_,p6,fun j hj k hk hl=> ?_,fun k hk hl=> ?_,fun j id hj=> ?_,fun j k id hj hk=> ?_,fun id hid=> ?_,fun j id hj=> ?_,M.num,M.room,fun d u hu=> ?_,M.heap.pushGhost ob hobo⟩,hrun,fun j id hj=> ?_,fun id hid=> ?_⟩
 ·have:=M.cover j hj;simpa[gN] using this
 ·exact M.bound j (by simpa[gN] using hj)
 ·refine M.waits j hj k ?_ hl;simp only[List.append_assoc,List.cons_append,List.mem_append,List.mem_cons,Az] at hk ⊢;rcases hk with h |rfl |h |h |h
  ·exact .inl h
  ·exact .inr (.inr (.inr hb))
  ·exact .inr (.inl h)
  ·exact .inr (.inr (.inl h))
  ·exact .inr (.inr (.inr h))
 ·simp only[List.mem_append,List.mem_cons] at hk;rcases hk with hk |rfl |hk
  ·rcases M.facts k hk hl with⟨f1,f2⟩|⟨id,hid⟩
   ·refine .inl ⟨f1, ?_⟩;rcases p4 k hk with⟨_,h⟩|⟨⟨q1,q2⟩,q3,q4⟩
    ·exact absurd hb h
    ·have f3:=f2.agree (ρ':=put σ.regs (ao as b).dst v) (jP q1) (jP q2);have f4:Fact (put σ.regs (ao as b).dst v) (σ.h.push ob) (ao as k):=by
      rcases q4 with q4 |q4 |q4
      ·exact f3.blind q4
      ·omega
      ·exact f3.again f1 (BD hag k q4)
     exact f4.agree (c1 _ fun j hj=>(q3 j hj).1) (c1 _ fun j hj=>(q3 j hj).2)
   ·exact .inr ⟨id,by rw[if_neg (by rintro rfl;exact p1 hk)];exact hid⟩
  ·exact .inr ⟨σ.h.sz,if_pos rfl⟩
  ·exact .inl (c2 k hk)
 ·rcases hpe j id hj with⟨rfl,rfl⟩|⟨hjb,hj⟩
  ·refine⟨by simp,hbl,hb,σ.h,v,ob,rfl,hgrd, ?_,Base.add_same _ _ _,fun d hd=> ?_⟩
   ·have:fD σ.regs ρ2 (looks (ao as j)):=(jP p8).trans (c1 _ fun k hk=>(p9 k hk).1);rw[←mY (tX this)];exact hv
   ·have:=c1 (lC (ao as j)) (fun k hk=>(p9 k hk).2) d (rH.2 hd);rw[←this,hd,iN]
  ·have⟨k1,k2,k3,k4⟩:=M.pend j id hj;exact have⟨q1,q2,_⟩:=hfar j k1;⟨by simp[k1],k2,k3,(k4.agree q1 q2).base (Base.add_other _ _ (hids j id hj))⟩
 ·rcases hpe j id hj with⟨e1,e2⟩|⟨_,hj'⟩
  ·rcases hpe k _ hk with⟨e3,_⟩|⟨_,hk'⟩
   ·rw[e1,e3]
   ·exact absurd e2 (hids k _ hk')
  ·rcases hpe k _ hk with⟨_,e4⟩|⟨_,hk'⟩
   ·exact absurd e4 (hids j _ hj')
   ·exact M.inj j k id hj' hk'
 ·have hne:id≠σ.h.sz:=by
   rintro rfl;exact hid b (if_pos rfl)
  rw[Base.add_other _ _ hne];refine M.same id fun i hi=> ?_;by_cases hib:i=b
  ·subst hib;rw[hbse] at hi;cases hi
  ·exact hid i (by rw[if_neg hib];exact hi)
 ·rcases hpe j id hj with⟨rfl,rfl⟩|⟨hjb,hj⟩
  ·rw[←M.same σ.h.sz fun i hi=>hids i _ hi rfl];exact hng
  ·exact M.old j id hj
 ·have hnsl:∀j∈ns,¬Listed s j:=fun j hj hl=>hbl (M.closed j b hl (p3 j hj));by_cases hex:∃j∈ns,(ao as j).dst=some d
  ·exact have⟨j,hj,hjd⟩:=hex;.inl ⟨j,by simp[hj],hnsl j hj,hjd⟩
  ·have hsame:(put σ.regs (ao as b).dst v).get d=ρ2.get d:=c1 [d] (fun j hj=>wu.2 fun t ht=>by
    intro h;rw[List.mem_singleton] at h;subst h;exact hex ⟨j,hj,rH.1 ht⟩) d (List.mem_singleton.2 rfl)
   simp only at hu;rw[←hsame] at hu;by_cases hd:(ao as b).dst=some d
   ·exact .inl ⟨b,by simp,hbl,hd⟩
   ·rw[bY hd] at hu;rcases M.regs d u hu with⟨j,hj,hnj,hdj⟩|h
    ·exact .inl ⟨j,by simp[hj],hnj,hdj⟩
    ·exact .inr h
 ·rcases hpe j id hj with⟨_,e⟩|⟨_,h⟩
  ·rw[e];exact List.mem_cons_self
  ·exact List.mem_cons_of_mem _ (hes.1 j id h)
 ·rcases List.mem_cons.1 hid with e |h
  ·rw[e];exact ZG M
  ·exact hes.2 id h
theorem Ma {i:Nat} {l:List Nat} (h:i ∉ l):lY i l=false:=by
 cases e:lY i l with
 |false=>rfl
 |true=>exact absurd (jq.1 e) h
theorem adk {s:Array Bool} {seen:List Nat} {b:Nat} {chk ns:List Nat} {rest:Plan} {φ:dD} {σ:St} {a:Act} {w:World} {pe:Nat→Option Nat} (M:Mid (POk as ms el) P B0 B N ops as ms el pe s seen ((b,chk,ns) :: rest) φ σ a w):Mid (adH as ms el) P B0 B N ops as ms el pe s seen ((b,chk,ns) :: rest) φ σ a w:=by
 exact have⟨p1,p2,p3,p4,p5,p6,p7⟩:=mW M.plan;⟨M.size,M.closed,M.acts,M.cover,M.bound,⟨p1,p2,p3,p4,p6,p7⟩,M.waits,M.facts,M.pend,M.inj,M.same,M.old,M.num,M.room,M.regs,M.heap⟩
theorem ady {s:Array Bool} {seen:List Nat} {b c:Nat} {chk ns cb nb:List Nat} {rest:Plan} {φ:dD} {σ:St} {a:Act} {w:World} {pe:Nat→Option Nat} (M:Mid (POk as ms el) P B0 B N ops as ms el pe s seen ((b,chk,ns) :: (c,cb,nb) :: rest) φ σ a w)
 (hs:swapAt as ms el seen b chk ns ((c,cb,nb) :: rest) c=true):Mid (adH as ms el) P B0 B N ops as ms el pe s seen ((c,cb,[]) :: (b,[],nb) :: rest) φ σ a w∧oK as ms b c chk ns cb=true∧jS as ms b [] nb rest=ao as b:=by
 obtain⟨p1,p2,p3,p4,p5,p6,p7⟩:=mW M.plan;obtain⟨q1,q2,q3,q4,q5,q6,q7⟩:=mW p6;simp only[swapAt,Bool.and_eq_true] at hs;obtain⟨⟨⟨⟨_,ht⟩,hbel⟩,hnb⟩,hsn⟩:=hs;obtain⟨hlt,rfl,rfl,hi,n,x,u,m,y,t,e1,e2⟩:=qL ht;have hb:b ∉ el:=fun h=>by rw[jq.2 h] at hbel;cases hbel
 have hbit:∀d∈rest.map (·.1),(mk ms d).testBit b=true:=by
  intro d hd;rcases p5 d (List.mem_cons_of_mem _ hd) with h |h |h
  ·exact h
  ·exact absurd h hb
  ·exfalso;simp only[swapAt,Bool.and_eq_true] at h;have:c=d:=aG.1 h.1.1.1.1;subst this;exact tu q6 c hd (by simp)
 have hdst:lC (ao as b)=[]:=by rw[e1];rfl
 have hap:∀i,kL as i b=true:=fun i=>by unfold kL;rw[hdst];rfl
 have hcls:iZ (ao as c).op=2:=by rw[e2];rfl
 refine⟨⟨M.size,M.closed,fun d hd=> ?_,fun i h=> ?_,fun i h=> ?_,⟨?_,rfl,(by intro i h;cases h),fun i h=> ?_, ?_,fun h=> ?_⟩, ?_,M.facts,M.pend,M.inj,M.same,M.old,M.num,M.room,M.regs,M.heap⟩,ht, ?_⟩
 ·refine M.acts d ?_;simp only[List.map_cons,List.mem_cons] at hd ⊢;rcases hd with h |h |h
  ·exact .inr (.inl h)
  ·exact .inl h
  ·exact .inr (.inr h)
 ·have:=M.cover i h;simp only[gN,List.mem_append,List.mem_cons,List.nil_append,List.cons_append] at this ⊢;rcases this with h |h |h |h |h
  ·exact .inl h
  ·exact .inr (.inr (.inl h))
  ·exact .inr (.inl h)
  ·exact .inr (.inr (.inr (.inl h)))
  ·exact .inr (.inr (.inr (.inr h)))
 ·refine M.bound i ?_;simp only[gN,List.mem_append,List.mem_cons,List.nil_append,List.cons_append] at h ⊢;rcases h with h |h |h |h |h
  ·exact .inl h
  ·exact .inr (.inr (.inl h))
  ·exact .inr (.inl h)
  ·exact .inr (.inr (.inr (.inl h)))
  ·exact .inr (.inr (.inr (.inr h)))
 ·exact fun h=>q1 (List.mem_append_left _ h)
 ·rcases q4 i (List.mem_append_left _ h) with h |⟨h1,h2,h3⟩
  ·exact .inl h
  ·exact .inr ⟨h1,(by intro j hj;cases hj),h3⟩
 ·unfold qD;have hcond:(!lY b (seen++[c])&&sZ as nb&&lH nb (fun i=>(mk ms i).testBit b)
   &&lH (seen++[c]) (fun i=>((mk ms b).testBit i&& !lY b el)||(kL as i b&&lH nb (kL as i)&&(Nat.beq (iZ (ao as i).op) 0||Nat.beq (iZ (ao as i).op) 2||lY i [])))
   &&lH (rest.map (·.1)) (fun d=>(mk ms d).testBit b||lY b el||swapAt as ms el (seen++[c]) b [] nb rest d)
   &&(!lY b el||(kD (lC (ao as b)) (looks (ao as b))&&lH nb (kL as b))))=true:=by
   have g1:lY b (seen++[c])=false:=Ma fun h=>by
    rcases List.mem_append.1 h with h |h
    ·exact p1 h
    ·rw[List.mem_singleton] at h;subst h;omega
   rw[g1,q2,Ma hb];simp only[Bool.not_false,Bool.true_and,Bool.and_true,Bool.true_or,Bool.and_eq_true];refine⟨⟨fQ.2 fun j hj=> ?_,fQ.2 fun i h=> ?_⟩,fQ.2 fun d hd=> ?_⟩
   ·have:=fQ.1 hnb j hj;simp only[Bool.and_eq_true] at this;exact this.1
   ·rcases List.mem_append.1 h with h |h
    ·have h9:=fQ.1 hsn i h;simp only[Bool.or_eq_true] at h9;rcases h9 with h9 |h9
     ·rw[h9];rfl
     ·rcases p4 i h with⟨h1,_⟩|⟨_,_,h3⟩
      ·rw[h1];rfl
      ·rw[hap,h9];have:(Nat.beq (iZ (ao as i).op) 0||Nat.beq (iZ (ao as i).op) 2||lY i [])=true:=by
        rcases h3 with h3 |h3 |h3
        ·rw[h3];rfl
        ·rw[h3];rfl
        ·cases h3
       rw[this];simp
    ·rw[List.mem_singleton] at h;subst h;have h9:lH nb (kL as i)=true:=fQ.2 fun j hj=>by
      have:=fQ.1 hnb j hj;simp only[Bool.and_eq_true] at this;exact this.2
     rw[hap,h9,hcls];simp
   ·rw[hbit d hd];rfl
  rw[hcond,cond_true];refine Ih (fun i=> ?_) q6;simp only[List.mem_append,List.mem_cons,List.not_mem_nil,or_false];constructor
  ·rintro((h |h)|h |h)
   ·exact .inl (.inl h)
   ·exact .inr (.inl h)
   ·exact .inl (.inr h)
   ·exact .inr (.inr h)
  ·rintro((h |h)|h |h)
   ·exact .inl (.inl h)
   ·exact .inr (.inl h)
   ·exact .inl (.inr h)
   ·exact .inr (.inr h)
 ·exact⟨(q7 h).1,by intro j hj;cases hj⟩
 ·intro j hj k hk hl;refine M.waits j hj k ?_ hl;simpa[Az] using hk
 ·cases rest with
  |nil=>rfl
  |cons p l=>
   obtain⟨d,cd,nd⟩:=p;simp only[jS];have:oK as ms b d [] nb cd=false:=by
    simp[oK,hbit d (by simp)]
   rw[this];rfl
theorem aef {s:Array Bool} {φ:dD} {a:Act} {w:World} {K:ow} {ρ0:bZ} {i:Nat} (hc:eU P N ops ops.toList=some as) (hel:∀i∈el,∃o,ops[i]? =some o∧om o=true) (hw:∀j,(mk ms i).testBit j=true→Listed s j):
 ∀(pl:Plan) (seen:List Nat) (B:Base) (pe:Nat→Option Nat) (σ:St) (es:List Nat),Mid (POk as ms el) P B0 B N ops as ms el pe s seen pl φ σ a w→oq call ρ0 es (opsOf as ms pl) σ K=true→abl B0 pe es→i∈gN pl→
 ∃B' pe' seen' σ' chk ns rest es',Mid (adH as ms el) P B0 B' N ops as ms el pe' s seen' ((i,chk,ns) :: rest) φ σ' a w∧oq call ρ0 es' (opsOf as ms ((i,chk,ns) :: rest)) σ' K=true∧abl B0 pe' es':=by
 intro pl
 induction pl with
 |nil=>intro seen B pe σ es M hrun hes hi;cases hi
 |cons p rest ih=>
  have⟨b,chk,ns⟩:=p;intro seen B pe σ es M hrun hes hi;by_cases hib:i=b
  ·subst hib;exact⟨B,pe,seen,σ,chk,ns,rest,es,adk M,hrun,hes⟩
  have⟨p1,p2,p3,p4,p5,p6,p7⟩:=mW M.plan;have hbl:¬Listed s b:=M.acts b List.mem_cons_self;simp only[gN,List.cons_append,List.mem_cons,List.mem_append] at hi;rcases hi with hi |hi |hi
  ·exact absurd hi hib
  ·exact absurd (hw b (p3 i hi)) hbl
  ·by_cases hb:b∈el
   ·exact have⟨B',pe',σ',M',hrun',hes'⟩:=ghost_step hc hel M hb hrun hes;ih _ B' pe' σ' _ M' hrun' hes' hi
   ·rcases zy p6 i hi with h |⟨b',hb',hbit⟩
    ·rcases p5 i h with h |h |h
     ·exact absurd (hw b h) hbl
     ·exact absurd h hb
     ·cases rest with
      |nil=>cases h
      |cons q rest=>
       have⟨c,cb,nb⟩:=q;have hci:c=i:=by
        simp only[swapAt,Bool.and_eq_true] at h;exact aG.1 h.1.1.1.1
       subst hci;exact have⟨M',ht,hn⟩:=ady M h;⟨B,pe,seen,σ,cb,[],(b,[],nb) :: rest,es,M',adO ht hn hrun,hes⟩
    ·exact absurd (hw b' hbit) (M.acts b' (List.mem_cons_of_mem _ hb'))
theorem abK {r:Option Nat} {i id:Nat} {o:Oper} {x:aT} {ρ τ:bZ} {φ:dD} {h:ah} {a:Act} {w:World} {next:Act→World→Prop} {Q:Exit→Act→World→Prop} (hi:ops[i]? =some o) (hc:lG P N ops o=some x) (he:om o=true)
 (hR:lZ φ N ρ a.tmps) (H:bR P B φ h w) (hag:fD ρ τ (looks x)) (hp:Uy B τ x id)
 (hnext:∀v cv φ' w',(∀d,x.dst=some d→τ.get d=some v)→bG φ' v cv→bR P (B.del id) φ' h w'→φ.le φ'→Gw B w w'→next (a.put x.dst cv) w'):wpOpIn (FW r) n P ops Q i next a w:=by
 have⟨h1,h2,h3,h4⟩:=gq hc;obtain⟨hp,v,ob,rfl,e2,e3,e4,e5⟩:=hp;unfold wpOpIn;simp only[hi];rw[mV hc hR (b:=true) (by rw[e2];rfl)];simp only[if_true];rw[←mY (tX hag)] at e3;cases hop:fV P o.op with
 |none=>rw[hop] at h3;rw[h3] at e3;cases e3
 |some op=>
  rw[hop] at h3;simp only[Option.getD_some] at h3;rw[h3] at e3;refine BO (B:=B.del hp.sz) (φ:=φ) (K:=fun v' h'=>@decide (v'=v∧h'=h) (Classical.propDecidable _)) hop (fun f as e=>by subst e;simp[aN] at e3) (qB.of_sim (WA hR H hop he e3 e4) (by simp)) ?_ ?_
  rotate_left
  ·intro v' h' cv φ' w' hK g1 g2 g3 g4;have hK:=@of_decide_eq_true _ (Classical.propDecidable _) hK;have:=C9 hop he e3;rw[←hK.1] at this;cases this
  intro v' h' cv φ' w' hK g1 g2 g3 g4;have hK:=@of_decide_eq_true _ (Classical.propDecidable _) hK;obtain⟨rfl,rfl⟩:=hK;rw[←h1];exact hnext _ cv φ' w' e5 g1 g2 g3 g4
theorem Wy {r:Option Nat} {Q:Exit→Act→World→Prop} (hcall:nX P call) (hc:eU P N ops ops.toList=some as) (hm:M5 ops.toList ms) (he:Aj 0 ops.toList=true) (hel:∀i∈el,∃o,ops[i]? =some o∧om o=true) (K:ow) (ρ0:bZ) (h0:∀i,i<ops.size→∀d,(ao as i).dst=some d→ρ0.get d=none):
 ∀(fuel:Nat) (B:Base) (pe:Nat→Option Nat) (s:Array Bool) (seen:List Nat) (pl:Plan) (φ:dD) (σ:St) (a:Act) (w:World) (es:List Nat),Mid (POk as ms el) P B0 B N ops as ms el pe s seen pl φ σ a w→oq call ρ0 es (opsOf as ms pl) σ K=true→abl B0 pe es→lZ φ N ρ0 a.tmps→s.toList.count false≤fuel→
 (∀ex ex' σ' a' w' φ',K ex σ'=true→tZ φ' ex ex'→At P B0 N φ' σ' a' w'→a'.defers=a.defers→φ.le φ'→Gw B0 w w'→Q ex' a' w')→wpAnyIn (FW r) n P .any ops Q fuel s a w:=by
 have done:∀(B:Base) (pe:Nat→Option Nat) (s:Array Bool) (seen:List Nat) (pl:Plan) (φ:dD) (σ:St) (a:Act) (w:World) (es:List Nat),Mid (POk as ms el) P B0 B N ops as ms el pe s seen pl φ σ a w→oq call ρ0 es (opsOf as ms pl) σ K=true→
  (∀ex ex' σ' a' w' φ',K ex σ'=true→tZ φ' ex ex'→At P B0 N φ' σ' a' w'→a'.defers=a.defers→φ.le φ'→Gw B0 w w'→Q ex' a' w')→Region.ready .any ops s=[]→Q .normal a w:=by
  intro B pe s seen pl φ σ a w es M hrun hQ hr;have hall:∀j,j<ops.size→Listed s j:=fun j hj=>Yk he M.size hr (j+1) j (Nat.lt_succ_self j) hj;cases pl with
  |cons p rest=>
   obtain⟨b,c,ns⟩:=p;exact absurd (hall b (M.bound b (by simp[gN]))) (M.acts b List.mem_cons_self)
  |nil=>
   simp only[opsOf,oq] at hrun;have hB:B=B0:=by
    have h1:=M.num;have h2:B.gh=B0.gh:=by
     funext id
     refine M.same id fun i hi=> ?_;obtain⟨k1,k2,_⟩:=M.pend i id hi;exact k2 (hall i (M.bound i (List.mem_append_left _ k1)))
    cases B;cases B0;simp only at h1 h2;subst h1;subst h2;rfl
   subst hB;refine hQ .normal .normal σ a w φ hrun .normal ⟨⟨M.room,fun t v ht=> ?_⟩,M.heap⟩ rfl φ.le_refl (Gw.refl B w);rcases M.regs t v ht with⟨j,hj,hnl,_⟩|h
   ·exact absurd (hall j (M.bound j (List.mem_append_left _ hj))) hnl
   ·exact h
 intro fuel
 induction fuel with
 |zero=>
  intro B pe s seen pl φ σ a w es M hrun hes hR0 hcnt hQ;have hr:=abu (ops:=ops) (Nat.le_zero.1 hcnt) M.size;exact⟨hr,done B pe s seen pl φ σ a w es M hrun hQ hr⟩
 |succ fuel ih=>
  intro B pe s seen pl φ σ a w es M hrun hes hR0 hcnt hQ;refine⟨done B pe s seen pl φ σ a w es M hrun hQ,fun i hi=> ?_⟩;obtain⟨hnl,hlt,hlt'⟩:=Ol hi;have hw:=SX hm M.closed hi;have ho:ops[i]? =some ops[i]:=by simp[hlt]
  have hco:=qZ hc i ops[i] (by simp[hlt]);have hdst:=(gq hco);have hcnt':(s.setIfInBounds i true).toList.count false≤fuel:=by
   have:=count_set hlt' hnl;omega
  have hin:∀d,(ao as i).dst=some d→d<a.tmps.size:=by
   intro d hd;have:=hdst.2.1;rw[←hdst.1,hd] at this;simp only[OM,Nat.blt_eq] at this;exact Nat.lt_of_lt_of_le this M.room
  have hself:¬(mk ms i).testBit i=true:=fun h=>hnl (hw i h);have hR0':∀(cv:Value) (φ':dD),φ.le φ'→lZ φ' N ρ0 (a.put (ao as i).dst cv).tmps:=fun cv φ' hle=>⟨by rw[D8];exact hR0.1,fun d u hu=>by
   obtain⟨cu,q1,q2⟩:=hR0.2 d u hu;refine⟨cu, ?_,q2.mono hle⟩;rw[Qf fun e=>by rw[h0 i hlt d e] at hu;cases hu];exact q1⟩
  rcases List.mem_append.1 (M.cover i hlt) with hseen |hord
  ·have hR:=UA M hlt hw;have hgw:∀w1 w2,Gw B w1 w2→Gw B0 w1 w2:=fun w1 w2 g=>M.num▸g;have acts':∀b∈pl.map (·.1),¬Listed (s.setIfInBounds i true) b:=by
    intro b' hb' hl;rw[fG hlt'] at hl;rcases hl with rfl |hl
    ·exact tu M.plan b' hb' hseen
    ·exact M.acts b' hb' hl
   have closed':∀j k,Listed (s.setIfInBounds i true) j→(mk ms j).testBit k=true→Listed (s.setIfInBounds i true) k:=by
    intro j k hj hk;rw[fG hlt'] at hj ⊢;rcases hj with rfl |hj
    ·exact .inr (hw k hk)
    ·exact .inr (M.closed j k hj hk)
   have regs':∀(cv:Value) (v:AV) (φ':dD),(∀d,(ao as i).dst=some d→σ.regs.get d=some v)→bG φ' v cv→φ.le φ'→
    ∀d u,σ.regs.get d=some u→(∃j∈seen,¬Listed (s.setIfInBounds i true) j∧(ao as j).dst=some d)∨∃cu,(a.put (ao as i).dst cv).tmps[d]? =some cu∧bG φ' u cu:=by
    intro cv v φ' e3 g1 g3 d u hu;by_cases hd:(ao as i).dst=some d
    ·refine .inr ⟨cv,by rw[hd];exact adU (hin d hd), ?_⟩;rw[e3 d hd] at hu;cases hu;exact g1
    ·rcases M.regs d u hu with⟨j,hj,hnj,hdj⟩|⟨cu,h1,h2⟩
     ·refine .inl ⟨j,hj,fun h=> ?_,hdj⟩;rw[fG hlt'] at h;rcases h with rfl |h
      ·exact hd hdj
      ·exact hnj h
     ·exact .inr ⟨cu,by rw[Qf hd];exact h1,h2.mono g3⟩
   rcases M.facts i hseen hnl with⟨hcls,b,hb,v,e1,e2,e3⟩|⟨id,hid⟩
   ·refine JH (K:=fun v' σ'=>@decide (v'=v∧σ'.h=σ.h) (Classical.propDecidable _)) hcall ho hco hR M.heap pW ?_ ?_ ?_
    ·unfold jM;rw[hb];cases b with
     |true=>
      simp only;rw[kF (V7 hcls),e1 rfl];simp
     |false=>
      simp only;simp[e2 rfl]
    rotate_left
    ·intro _ v' h' cv φ' w' hK g1 g2 g3 g4;have hK:=@of_decide_eq_true _ (Classical.propDecidable _) hK;have hv:=TM (b:=b) hco hR M.heap pW hcls e1 e2;rw[←hK.1] at hv;cases hv
    ·intro v' h' cv φ' w' hK _ g1 g2 g3 g4;have hK:=@of_decide_eq_true _ (Classical.propDecidable _) hK;obtain⟨rfl,hh⟩:=hK;simp only at hh;subst hh;refine ih B pe _ seen pl φ' σ _ w' es ?_ hrun hes (hR0' cv φ' g3) hcnt' ?_
     ·refine⟨by simpa using M.size,closed',acts',M.cover,M.bound,M.plan, ?_, ?_, ?_,M.inj,M.same,M.old,M.num,by rw[D8];exact M.room,regs' cv v' φ' e3 g1 g3,g2⟩
      ·intro j hj k hk hl;exact M.waits j hj k hk fun h=>hl ((fG hlt').2 (.inr h))
      ·intro k hk hl;exact M.facts k hk fun h=>hl ((fG hlt').2 (.inr h))
      ·intro k id hk;obtain⟨k1,k2,k3,k4⟩:=M.pend k id hk;refine⟨k1,fun h=> ?_,k3,k4⟩;rw[fG hlt'] at h;rcases h with rfl |h
       ·obtain⟨o',ho',he'⟩:=hel k k3;have:=(Pp (qZ hc k o' (by rw[Array.getElem?_toList];exact ho')) he').1;omega
       ·exact k2 h
     ·intro ex ex' σ2 a2 w2 φ2 k1 kE k2 k3 k4 k5;exact hQ ex ex' σ2 a2 w2 φ2 k1 kE k2 (k3.trans (put_defers _ _ _)) (dD.le_trans g3 k4) ((hgw _ _ g4).trans k5)
   ·obtain⟨k1,k2,k3,k4⟩:=M.pend i id hid;obtain⟨o',ho',he'⟩:=hel i k3;have:o'=ops[i]:=by rw[ho] at ho';exact(Option.some.inj ho').symm
    subst this;refine abK ho hco he' hR M.heap pW k4 ?_;intro v cv φ' w' e3 g1 g2 g3 g4;have hpe:∀j id',(if j=i then none else pe j)=some id'→j≠i∧pe j=some id'∧id'≠id:=by
     intro j id' e;by_cases hj:j=i
     ·rw[if_pos hj] at e;cases e
     ·rw[if_neg hj] at e;refine⟨hj,e, ?_⟩;rintro rfl;exact hj (M.inj j i _ e hid)
    refine ih (B.del id) (fun j=>if j=i then none else pe j) _ seen pl φ' σ _ w' es ?_ hrun ⟨fun j id' e=>hes.1 j id' (hpe j id' e).2.1,hes.2⟩ (hR0' cv φ' g3) hcnt' ?_
    ·refine⟨by simpa using M.size,closed',acts',M.cover,M.bound,M.plan, ?_, ?_, ?_, ?_, ?_, ?_,M.num,by rw[D8];exact M.room,regs' cv v φ' e3 g1 g3,g2⟩
     ·intro j hj k hk hl;exact M.waits j hj k hk fun h=>hl ((fG hlt').2 (.inr h))
     ·intro k hk hl;have hki:k≠i:=fun h=>hl ((fG hlt').2 (.inl h));refine(M.facts k hk fun h=>hl ((fG hlt').2 (.inr h))).imp_right fun⟨id',h⟩=>⟨id',by rw[if_neg hki];exact h⟩
     ·intro k id' hk;obtain⟨q1,q2,q3⟩:=hpe k id' hk;obtain⟨l1,l2,l3,l4⟩:=M.pend k id' q2;refine⟨l1,fun h=> ?_,l3,l4.base (Base.del_other _ q3)⟩;rw[fG hlt'] at h;exact h.elim q1 l2
     ·intro j k id' hj hk;exact M.inj j k id' (hpe j id' hj).2.1 (hpe k id' hk).2.1
     ·intro id' hid';by_cases hne:id'=id
      ·subst hne;rw[Base.del_same];exact(M.old i _ hid).symm
      ·rw[Base.del_other _ hne];refine M.same id' fun j hj=> ?_;by_cases hji:j=i
       ·subst hji;rw[hid] at hj;cases hj;exact hne rfl
       ·exact hid' j (by rw[if_neg hji];exact hj)
     ·intro j id' hj;exact M.old j id' (hpe j id' hj).2.1
    ·intro ex ex' σ2 a2 w2 φ2 k1 kE k2 k3 k4 k5;exact hQ ex ex' σ2 a2 w2 φ2 k1 kE k2 (k3.trans (put_defers _ _ _)) (dD.le_trans g3 k4) ((hgw _ _ g4).trans k5)
  ·obtain⟨B',pe',seen',σ',chk,ns,rest,es',M',hrun',hes'⟩:=aef hc hel hw pl seen B pe σ es M hrun hes hord;clear M hrun hord hes;have hgw:∀w1 w2,Gw B' w1 w2→Gw B0 w1 w2:=fun w1 w2 g=>M'.num▸g;have hR:=UA M' hlt hw;obtain⟨p1,p2,p3,p4,p6,p7⟩:=M'.plan;simp only[opsOf,oq,Dq,Ic] at hrun';have hrun':=LQ hrun';have hnf:(ao as i).grd=none→(ao as i).op≠ .fail:=fun hg e=>by
    simp only[jM,hg,eO,e,gW,aN] at hrun';cases hrun'
   refine JH hcall ho hco hR M'.heap pW hrun' ?_ ?_
   rotate_left
   ·intro hx v h' cv φ' w' hK g1 g2 g3 g4;simp only[hx,oL,cond_true,iB] at hK;split at hK
    rotate_left
    ·cases hK
    rename_i h2 hh;obtain⟨B2,n1,n2,n3⟩:=g2.nN hh;have hB:B2=B0:=by
     have h1:=M'.num;have h2:B2.gh=B0.gh:=by
      funext id
      rw[n2 id];by_cases hm:id∈es'
      ·rw[if_pos hm];exact(hes'.2 id hm).symm
      ·rw[if_neg hm];exact M'.same id fun k hk=>hm (hes'.1 k id hk)
     cases B2;cases B0;simp only at n1 h1 h2;rw[n1,h1];subst h2;rfl
    subst hB;exact hQ (.panic v) _ ⟨ρ0,h2⟩ a w' φ' hK (.panic g1) ⟨hR0.mono g3,n3⟩ rfl g3 (hgw _ _ g4)
   intro v h' cv φ' w' hK hn g1 g2 g3 g4;simp only[qV hn] at hK;obtain⟨hag,hK⟩:=rJ hK
   try simp only at hag hK
   split at hK
   rotate_left
   ·cases hK
   rename_i ρ2 hρ2;obtain⟨c1,c2⟩:=wX hρ2 p2;have hnsl:∀j∈ns,¬Listed (s.setIfInBounds i true) j:=by
    intro j hj hl;rw[fG hlt'] at hl;rcases hl with rfl |hl
    ·exact hself (p3 j hj)
    ·exact hnl (M'.closed j i hl (p3 j hj))
   have hpei:pe' i=none:=by
    cases e:pe' i with
    |none=>rfl
    |some id=>exact absurd (M'.pend i id e).1 p1
   have hes2:abl B0 pe' (bif iH (ao as i) then σ'.h.sz :: es' else es'):=by
    cases iH (ao as i) with
    |false=>exact hes'
    |true=>
     refine⟨fun j id e=>List.mem_cons_of_mem _ (hes'.1 j id e),fun id hid=> ?_⟩;rcases List.mem_cons.1 hid with e |h
     ·rw[e];exact ZG M'
     ·exact hes'.2 id h
   refine ih B' pe' _ (seen'++i :: ns) rest φ' ⟨ρ2,h'⟩ _ w' _ ?_ hK hes2 (hR0' cv φ' g3) hcnt' ?_
   ·refine⟨by simpa using M'.size, ?_, ?_, ?_, ?_,p6, ?_, ?_, ?_,M'.inj,M'.same,M'.old,M'.num,by rw[D8];exact M'.room, ?_,g2⟩
    ·intro j k hj hk;rw[fG hlt'] at hj ⊢;rcases hj with rfl |hj
     ·exact .inr (hw k hk)
     ·exact .inr (M'.closed j k hj hk)
    ·intro b hb hl;rw[fG hlt'] at hl;rcases hl with rfl |hl
     ·exact tu p6 b hb (by simp)
     ·exact M'.acts b (List.mem_cons_of_mem _ hb) hl
    ·intro j hj;have:=M'.cover j hj;simpa[gN] using this
    ·intro j hj;exact M'.bound j (by simpa[gN] using hj)
    ·intro j hj k hk hl;have hkl:¬Listed s k:=fun h=>hl ((fG hlt').2 (.inr h));have hki:k≠i:=fun h=>hl ((fG hlt').2 (.inl h));refine M'.waits j hj k ?_ hkl;simp only[List.append_assoc,List.cons_append,List.mem_append,List.mem_cons,Az] at hk ⊢;rcases hk with h |h |h |h |h
     ·exact .inl h
     ·exact absurd h hki
     ·exact .inr (.inl h)
     ·exact .inr (.inr (.inl h))
     ·exact .inr (.inr (.inr h))
    ·intro k hk hl;have hkl:¬Listed s k:=fun h=>hl ((fG hlt').2 (.inr h));have hki:k≠i:=fun h=>hl ((fG hlt').2 (.inl h));simp only[List.mem_append,List.mem_cons] at hk;rcases hk with hk |hk |hk
     ·rcases M'.facts k hk hkl with⟨f1,f2⟩|h
      ·refine .inl ⟨f1, ?_⟩;rcases p4 k hk with⟨h,_⟩|⟨⟨q1,q2⟩,q3,q4⟩
       ·exact absurd (hw k h) hkl
       ·have f3:=f2.agree (ρ':=put σ'.regs (ao as i).dst v) (jP q1) (jP q2);have f4:Fact (put σ'.regs (ao as i).dst v) h' (ao as k):=by
         rcases q4 with q4 |q4 |q4
         ·exact f3.blind q4
         ·omega
         ·exact f3.again f1 (BD hag k q4)
        exact f4.agree (c1 _ fun j hj=>(q3 j hj).1) (c1 _ fun j hj=>(q3 j hj).2)
      ·exact .inr h
     ·exact absurd hk hki
     ·exact .inl (c2 k hk)
    ·intro k id hk;obtain⟨k1,k2,k3,k4⟩:=M'.pend k id hk;refine⟨by simp[k1],fun h=> ?_,k3, ?_⟩
     ·rw[fG hlt'] at h;rcases h with rfl |h
      ·exact p1 k1
      ·exact k2 h
     ·rcases p4 k k1 with⟨h,_⟩|⟨⟨q1,q2⟩,q3,q4⟩
      ·exact absurd (hw k h) k2
      ·exact(k4.agree (ρ':=put σ'.regs (ao as i).dst v) (jP q1) (jP q2)).agree (c1 _ fun j hj=>(q3 j hj).1) (c1 _ fun j hj=>(q3 j hj).2)
    ·intro d u hu;by_cases hex:∃j∈ns,(ao as j).dst=some d
     ·obtain⟨j,hj,hjd⟩:=hex;exact .inl ⟨j,by simp[hj],hnsl j hj,hjd⟩
     ·have hsame:(put σ'.regs (ao as i).dst v).get d=ρ2.get d:=c1 [d] (fun j hj=>wu.2 fun t ht=>by
       intro h;rw[List.mem_singleton] at h;subst h;exact hex ⟨j,hj,rH.1 ht⟩) d (List.mem_singleton.2 rfl)
      simp only at hu;rw[←hsame] at hu;by_cases hd:(ao as i).dst=some d
      ·rw[hd,iN] at hu;cases hu;exact .inr ⟨cv,by rw[hd];exact adU (hin d hd),g1⟩
      ·rw[bY hd] at hu;rcases M'.regs d u hu with⟨j,hj,hnj,hdj⟩|⟨cu,h1,h2⟩
       ·refine .inl ⟨j,by simp[hj],fun h=> ?_,hdj⟩;rw[fG hlt'] at h;rcases h with rfl |h
        ·exact p1 hj
        ·exact hnj h
       ·exact .inr ⟨cu,by rw[Qf hd];exact h1,h2.mono g3⟩
   ·intro ex ex' σ2 a2 w2 φ2 k1 kE k2 k3 k4 k5;exact hQ ex ex' σ2 a2 w2 φ2 k1 kE k2 (k3.trans (put_defers _ _ _)) (dD.le_trans g3 k4) ((hgw _ _ g4).trans k5)
theorem Bv {x:cZ} (hd:wO as ops=some x):∃l0 pl,PW as (masks ops.toList []) (xP ops) ops.size ops.toList l0 pl=true∧x= .dreg (l0.map (ao as)) (opsOf as (masks ops.toList []) pl):=by
 unfold wO Vk at hd;simp only at hd;generalize(List.filter (fun i=> !lY i _&&_) (List.range ops.size))=l0 at hd;generalize(WV as _ _ _ _ _ _)=pl at hd;cases hb:PW as (masks ops.toList []) (xP ops) ops.size ops.toList l0 pl with
 |false=>rw[hb] at hd;cases hd
 |true=>
  rw[hb,cond_true] at hd;cases hd;exact⟨l0,pl,hb,rfl⟩
theorem yT {k i:Nat}:¬Listed (Array.replicate k false) i:=by
 unfold Listed;by_cases h:i<k
 ·simp[h]
 ·simp[Array.getElem?_eq_none,h]
theorem NW {ρ:bZ} {d:Option Nat} {t:Nat} {v:AV} (h:(unset ρ d).get t=some v):ρ.get t=some v∧d≠some t:=by
 cases d with
 |none=>exact⟨h,by simp⟩
 |some d=>
  simp only[unset] at h;rw[PT.get_setO] at h;split at h
  ·cases h
  ·rename_i hne;exact⟨h,fun e=>hne (by cases e;rfl)⟩
theorem xE:∀{l:List aT} {ρ:bZ} {t:Nat} {v:AV},(zD l ρ).get t=some v→ρ.get t=some v∧∀o∈l,o.dst≠some t
 | [],ρ,t,v,h=>⟨h,by simp⟩
 |o :: l,ρ,t,v,h=>by
  have⟨h1,h2⟩:=xE (l:=l) h;refine have⟨h3,h4⟩:=NW h1;⟨h3,fun p hp=> ?_⟩
  rcases List.mem_cons.1 hp with rfl |hp
  ·exact h4
  ·exact h2 p hp
theorem Cb:∀{l:List (aT×List aT×List aT)} {ρ:bZ} {t:Nat} {v:AV},(BK l ρ).get t=some v→ρ.get t=some v∧∀o,(∃e∈l,o.dst=e.1.dst∨o∈e.2.2)→o.dst≠some t
 | [],ρ,t,v,h=>⟨h,by simp⟩
 |(a,c,ns) :: l,ρ,t,v,h=>by
  have⟨h1,h2⟩:=Cb (l:=l) h;have⟨h3,h4⟩:=xE h1;refine have⟨h5,h6⟩:=NW h3;⟨h5,fun o ⟨e,he,ho⟩=> ?_⟩
  rcases List.mem_cons.1 he with rfl |he
  ·rcases ho with ho |ho
   ·rw[ho];exact h6
   ·exact h4 o ho
  ·exact h2 o ⟨e,he,ho⟩
theorem XC {a:Nat} {chk ns:List Nat} {rest:Plan}:(jS as ms a chk ns rest).dst=(ao as a).dst:=by
 cases rest with
 |nil=>rfl
 |cons p l=>
  have⟨b,cb,nb⟩:=p;simp only[jS];cases ht:oK as ms a b chk ns cb with
  |false=>rfl
  |true=>
   have⟨_,_,_,_,n,x,u,m,y,t,e1,e2⟩:=qL ht;rw[e1,e2];rfl
theorem Bd:∀{pl:Plan} {i:Nat},i∈gN pl→∃e∈opsOf as ms pl,(ao as i).dst=e.1.dst∨ao as i∈e.2.2
 | [],i,h=>by cases h
 |(b,c,ns) :: rest,i,h=>by
  simp only[gN,List.cons_append,List.mem_cons,List.mem_append] at h;rcases h with rfl |h |h
  ·exact⟨_,List.mem_cons_self, .inl XC.symm⟩
  ·exact⟨_,List.mem_cons_self, .inr (List.mem_map.2 ⟨i,h,rfl⟩)⟩
  ·exact have⟨e,he,ho⟩:=Bd h;⟨e,List.mem_cons_of_mem _ he,ho⟩
theorem Xg {r:Option Nat} {id:Nat} {x:cZ} {Q:Exit→Act→World→Prop} {φ:dD} {σ:St} {a:Act} {w:World} {K:ow} {m:Nat} (hmix:P.follows .mixedOrders=true) (hcall:nX P call)
 (hc:eU P N ops ops.toList=some as) (hd:wO as ops=some x) (A:At P B N φ σ a w) (hr:dh call m x σ K=true)
 (hQ:∀ex ex' σ' a' w' φ',K ex σ'=true→tZ φ' ex ex'→At P B N φ' σ' a' w'→a'.defers=a.defers→φ.le φ'→Gw B w w'→Q ex' a' w'):(Code.region id ops true).wpIn (FW r) n P Q a w:=by
 obtain⟨l0,pl,hok,rfl⟩:=Bv hd;have hm:=ad2 ops.toList;simp only[dh] at hr;have hel:∀i∈xP ops,∃o,ops[i]? =some o∧om o=true:=fun i hi=>P5 hi;generalize masks ops.toList []=ms at hok hm hr;generalize xP ops=el at hok hel;unfold PW at hok;simp only[Bool.and_eq_true] at hok;have⟨⟨⟨⟨⟨⟨d1,d2⟩,d3⟩,d4⟩,d5⟩,d6⟩,d7⟩:=hok;split at hr
 rotate_left
 ·cases hr
 rename_i ρ hρ;refine have⟨c1,c2⟩:=wX hρ d3;wpIn_region_any hmix ?_
 have hd0:∀i,i<ops.size→∀d,(ao as i).dst=some d→(BK (opsOf as ms pl) (zD (l0.map (ao as)) σ.regs)).get d=none:=by
  intro i hi d hdd;cases hg:(BK (opsOf as ms pl) (zD (l0.map (ao as)) σ.regs)).get d with
  |none=>rfl
  |some v=>
   have⟨q1,q2⟩:=Cb hg;have⟨_,q4⟩:=xE q1;rcases List.mem_append.1 (jq.1 (fQ.1 d6 i (List.mem_range.2 hi))) with h |h
   ·exact absurd hdd (q4 _ (List.mem_map.2 ⟨i,h,rfl⟩))
   ·exact absurd hdd (q2 _ (Bd h))
 refine Wy (B0:=B) hcall hc hm d2 hel K _ hd0 ops.size B (fun _=>none) _ l0 pl φ ⟨ρ,σ.h⟩ a w.drew [] ?_ hr ⟨fun _ _ e=>(by cases e),fun id h=>(by cases h)⟩ ⟨A.regs.1,fun t v ht=>A.regs.2 t v (xE (Cb ht).1).1⟩ ?_ ?_
 ·refine⟨by simp, ?_, ?_, ?_, ?_,d5, ?_, ?_,fun i id e=>(by cases e),fun i j id e _=>(by cases e),fun _ _=>rfl,fun i id e=>(by cases e),rfl,A.regs.1, ?_,A.heap.drew⟩
  ·exact fun j i hj=>absurd hj yT
  ·exact fun b _=>yT
  ·exact fun i hi=>jq.1 (fQ.1 d6 i (List.mem_range.2 hi))
  ·exact fun i hi=>bC.1 (fQ.1 d7 i hi)
  ·intro j hj i hi _;have:=fQ.1 (fQ.1 d4 j (List.mem_range.2 hj)) i hi;simpa using this
  ·exact fun i hi _=>.inl (c2 i hi)
  ·intro d v hv;by_cases hex:∃j∈l0,(ao as j).dst=some d
   ·exact have⟨j,hj,hjd⟩:=hex;.inl ⟨j,hj,yT,hjd⟩
   ·refine .inr (A.regs.2 d v ?_);rw[←hv];exact c1 [d] (fun j hj=>wu.2 fun t ht=>by
     intro h;rw[List.mem_singleton] at h;subst h;exact hex ⟨j,hj,rH.1 ht⟩) d (List.mem_singleton.2 rfl)
 ·rw[Array.toList_replicate,List.count_replicate];simp
 ·intro ex ex' σ' a' w' φ' h1 hE h2 h3 h4 h5;exact hQ ex ex' σ' a' w' φ' h1 hE h2 h3 h4 ((Gw.drew B w).trans h5)
end
end
noncomputable section
inductive Defs (S:Nat) (φ:dD) (w:World):List Deferred→List (AV×List AV)→Prop
 |nil:Defs S φ w [] []
 |mark {d:Deferred} {ds:List Deferred} {p:List (AV×List AV)} (D:Nat) (h1:d.target= .collected D) (h2:S≤D) (h3:w.heap[D]? =some (Obj.deferred (some []))) (h4:∀d'∈ds,d'.target≠ .collected D) (t:Defs S φ w ds p):Defs S φ w (d :: ds) p
 |fn {d:Deferred} {ds:List Deferred} {p:List (AV×List AV)} {g:Nat} {first cap vs:List AV} {cf cc cv:List Value} (h1:d.target= .fn (.func g) ⟨cc⟩) (h2:d.args=⟨cf++cv⟩) (h3:bQ φ first cf) (h4:bQ φ cap cc) (h5:bQ φ vs cv) (t:Defs S φ w ds p):Defs S φ w (d :: ds) ((.fn (.func g) first cap,vs) :: p)
theorem Defs.mono {S B:Nat} {φ φ':dD} {w w':World} (hg:Gw B w w') (hle:φ.le φ'):∀{ds:List Deferred} {p:List (AV×List AV)},Defs S φ w ds p→Defs S φ' w' ds p
 |_,_, .nil=> .nil
 |_,_, .mark D h1 h2 h3 h4 t=> .mark D h1 h2 (hg.defd D _ h3) h4 (Defs.mono hg hle t)
 |_,_, .fn h1 h2 h3 h4 h5 t=> .fn h1 h2 (h3.mono hle) (h4.mono hle) (h5.mono hle) (Defs.mono hg hle t)
theorem Defs.lt {S:Nat} {φ:dD} {w:World}:∀{ds:List Deferred} {p:List (AV×List AV)},Defs S φ w ds p→∀d∈ds,∀D,d.target= .collected D→D<w.heap.size
 |_,_, .nil,_,h,_,_=>by cases h
 |_,_, .mark D h1 h2 h3 h4 t,d',hd',D',e=>by
  rcases List.mem_cons.1 hd' with rfl |hd'
  ·rw[h1] at e;cases e;exact(Array.getElem?_eq_some_iff.1 h3).1
  ·exact Defs.lt t d' hd' D' e
 |_,_, .fn h1 h2 h3 h4 h5 t,d',hd',D',e=>by
  rcases List.mem_cons.1 hd' with rfl |hd'
  ·rw[h1] at e;cases e
  ·exact Defs.lt t d' hd' D' e
theorem Defs.put {S D:Nat} {φ:dD} {w:World} {o:Obj}:∀{ds:List Deferred} {p:List (AV×List AV)},Defs S φ w ds p→(∀d'∈ds,d'.target≠ .collected D)→Defs S φ (w.putObj D o) ds p
 |_,_, .nil,_=> .nil
 |_,_, .mark (d:=d) D' h1 h2 h3 h4 t,hn=>by
  refine .mark D' h1 h2 ?_ h4 (Defs.put t fun d' hd'=>hn d' (List.mem_cons_of_mem _ hd'));rw[World.putObj_heap_other (fun e=>hn d List.mem_cons_self (by rw[h1,e]))];exact h3
 |_,_, .fn h1 h2 h3 h4 h5 t,hn=> .fn h1 h2 h3 h4 h5 (Defs.put t fun d' hd'=>hn d' (List.mem_cons_of_mem _ hd'))
structure Ch (S:Nat) (r:Option Nat) (pend:List (AV×List AV)) (mk:Bool) (φ:dD) (w:World) (a:Act):Prop where
 size:S≤w.heap.size
 marks:Defs S φ w a.defers pend
 none:mk=false→a.defers=[]
 round:∀l,r=some l→∃R,w.heap[l]? =some (Obj.loop R)
theorem Ch.mono {S B:Nat} {r:Option Nat} {pend:List (AV×List AV)} {mk:Bool} {φ φ':dD} {w w':World} {a a':Act} (h:Ch S r pend mk φ w a) (hg:Gw B w w') (hle:φ.le φ') (hd:a'.defers=a.defers):Ch S r pend mk φ' w' a':=
 ⟨Nat.le_trans h.size hg.size,by rw[hd];exact h.marks.mono hg hle,fun e=>by rw[hd];exact h.none e,fun l e=>let⟨R,k⟩:=h.round l e;hg.loops l R k⟩
section
variable {P:Program} {B:Base} {N:Nat} {φ:dD} {h:ah} {w:World}
theorem bR.nodefBlock {D:Nat} {ds:Option (List Deferred)} (H:bR P B φ h w) (hD:w.heap[D]? =some (Obj.deferred ds)) (o:Obj):bR P B φ h (w.putObj D o):=
 H.keep (by simp) fun id g L hL=>World.putObj_heap_other fun e=>H.nodef id g L hL ds (by rw[e];exact hD)
theorem Eu (H:bR P B φ h w) {id:Nat} {l:ag7} (hget:h.get id=some (.loop l)) (hdm:∃g L,φ id g=some L:=by exact⟨_,_,by assumption⟩):∃L R N,φ id 0=some L∧w.heap[L.blk]? =some (Obj.loop R)∧lZ φ N l.regs R.tmps∧R.params.toList=l.ps∧(∀p∈l.ps,p<N)∧comp P N R.assign=some (strip l.asg)∧comp P N R.body=some (strip l.body)∧aal l.st R∧
 ∀(R':Loop) (st':Kq),R'.tmps=R.tmps→R'.params=R.params→R'.assign=R.assign→R'.body=R.body→aal st' R'→
  bR P B φ (h.put id (.loop {l with st:=st'})) (w.putObj L.blk (.loop R'))∧Gw B w (w.putObj L.blk (.loop R')):=by
 refine have⟨L,R,N,h1,h2,h3,h4,h5,h6,h7,h8⟩:=H.obj id _ hget hdm;⟨L,R,N,h1,h2,h3,h4,h5,h6,h7,h8,fun R' st' e1 e2 e3 e4 e5=> ?_⟩
 have hlt:L.blk<w.heap.size:=H.lt id 0 L h1;refine have hB:B≤L.blk:=(H.own id _ 0 L hget h1).1 rfl;⟨H.update hget rfl rfl φ.le_refl (fun _ _ _=>rfl) (fun g K e=> .inl e) (by simp) (fun k _ hk=>World.putObj_heap_other (fun e=>hk 0 L h1 e.symm)) (vK.put w (fun ds e=>by cases e)) ?_, ?_⟩
 ·exact⟨L,R',N,h1,World.putObj_heap_same hlt,by rw[e1];exact h3,by rw[e2];exact h4,h5,by rw[e3];exact h6,by rw[e4];exact h7,e5⟩
 ·exact Gw.of_block h2 hB (fun ds e=>by cases e) (fun r e=>⟨R',rfl⟩) (World.putObj_heap_same hlt) (fun _ _ _ e=>by cases e) (fun _ _ _ e=>by cases e) (fun k hk=>World.putObj_heap_other hk) (by simp) rfl rfl rfl
theorem U7 {S:Nat} {r:Option Nat} {pend:List (AV×List AV)} {a:Act} (H:bR P B φ h w) (O:Ch S r pend true φ w a) (fn:FuncId) (ps:Array Tmp) (assign body:Code):∃w0 mark R,(Instr.enterLoop fn a.tmps ps assign body r).run P w= .ok (w0.heap.size,mark) (w0.alloc (.loop R))∧
 bR P B φ h w0∧Gw B w w0∧Defs S φ w0 (mark++a.defers) pend∧R.state= .ready∧R.pending=none∧R.tmps=a.tmps∧R.params=ps∧R.assign=assign∧R.body=body:=by
 cases r with
 |none=>
  refine have hg:Gw B w (w.alloc (.deferred (some []))):=Gw.alloc H.base (fun _ _ _ e=>by cases e);⟨w.alloc (.deferred (some [])),[{target:= .collected w.heap.size,args:= #[]}],{state:= .ready,pending:=none,fn,tmps:=a.tmps,params:=ps,assign,body,defers:=w.heap.size}, ?_,H.alloc _,hg, ?_,rfl,rfl,rfl,rfl,rfl,rfl⟩
  ·exact(run_enterLoop_outer fn a.tmps ps assign body).trans (by simp)
  ·refine .mark w.heap.size rfl O.size (heap_alloc_new w _) (fun d' hd' e=> ?_) (O.marks.mono hg φ.le_refl);have:=O.marks.lt d' hd' _ e;omega
 |some l=>
  refine have⟨R0,hR0⟩:=O.round l rfl;⟨w,[],{state:= .ready,pending:=none,fn,tmps:=a.tmps,params:=ps,assign,body,defers:=R0.defers}, ?_,H,Gw.refl B w,O.marks,rfl,rfl,rfl,rfl,rfl,rfl⟩
  unfold Instr.enterLoop;simp only[Sem.run_bind,run_getLoop hR0,Result.andThen_ok,Sem.run_pure,run_newObj_alloc]
inductive Ck (φ:dD):Mode→FrameMode→Prop
 |ret:Ck φ .ret .returning
 |pan {v:AV} {cv:Value} (h:bG φ v cv):Ck φ (.pan v) (.panicking [{v:=cv,recovered:=false}])
theorem Ck.mono {φ':dD} (hle:φ.le φ') {μ:Mode} {u:FrameMode} (h:Ck φ μ u):Ck φ' μ u:=by
 cases h with
 |ret=>exact .ret
 |pan h=>exact .pan (h.mono hle)
def aah (P:Program) (df:ni):Prop:=∀(g:Nat) (args:List AV) (μ:Mode) (h:ah) (K:Mf),df g args μ h K=true→∀(B:Base) (φ:dD) (w:World) (eX:List Value) (u:FrameMode),bR P B φ h w→bQ φ args eX→Ck φ μ u→
 (callFunc g ⟨eX⟩).run P w= .ok (.enter g ⟨eX⟩) w∧∀n,CallsDIn (FW none) n P g ⟨eX⟩ u w fun e u' w'=>∃v μ' h' φ',e= .returned v∧K μ' h'=true∧Ck φ' μ' (settle u')∧bR P B φ' h' w'∧φ.le φ'∧Gw B w w'
theorem xD {df:ni} (hdf:aah P df) {n S:Nat} {fn:Func} {tmps:Array Value} {R:Ending→World→Prop} {w0:World} {φ0:dD} (hS:w0.heap.size≤S) (hB:B≤S) (K:Mf)
 (fin:∀φ μ h u w',K μ h=true→Ck φ μ u→bR P B φ h w'→φ0.le φ→Gw B w0 w'→LeavesIn (FW none) n P fn tmps R [] u w'):∀(ds:List Deferred) (pend:List (AV×List AV)) (φ:dD) (μ:Mode) (h:ah) (u:FrameMode) (w:World),Defs S φ w ds pend→ends df pend μ h K=true→Ck φ μ u→bR P B φ h w→φ0.le φ→Gw B w0 w→LeavesInM (FW none) n P fn tmps R ds u w
 | [],pend,φ,μ,h,u,w,hD,hK,hM,H,hle,hg=>by
   cases hD;exact fin φ μ h u w hK hM H hle hg
 |d :: ds,pend,φ,μ,h,u,w,hD,hK,hM,H,hle,hg=>by
  have hu:u≠ .run:=by cases hM<;>simp
  cases hD with
  |mark D h1 h2 h3 h4 h5=>
   refine⟨hu, .inl ⟨D,w.putObj D (.deferred none),h1,run_takeDeferred h3, ?_⟩⟩;refine xD hdf hS hB K fin ds pend φ μ h u _ (h5.put h4) hK hM (H.nodefBlock h3 _) hle ?_;have hlt:D<w.heap.size:=(Array.getElem?_eq_some_iff.1 h3).1;refine⟨hg.os,hg.tape,hg.output,by simpa using hg.size,fun k hk=> ?_,fun k ds' hk=> ?_,fun k R' hk=> ?_⟩
   ·rw[World.putObj_heap_other (by omega)];exact hg.below k hk
   ·have:=(Array.getElem?_eq_some_iff.1 hk).1;rw[World.putObj_heap_other (by omega)];exact hg.defd k ds' hk
   ·have:=(Array.getElem?_eq_some_iff.1 hk).1;rw[World.putObj_heap_other (by omega)];exact hg.loops k R' hk
  |fn h1 h2 h3 h4 h5 h6=>
   rename_i p g first cap vs cf cc cv
   simp only[ends] at hK;obtain⟨q1,q2⟩:=hdf _ _ _ _ _ hK B φ w (cf++cv++cc) u H ((h3.append h5).append h4) hM;refine⟨hu, .inr ⟨Dv none n, .func g,⟨cc⟩,g,⟨cf++cv++cc⟩,h1, ?_,fun _ _=>trivial, ?_⟩⟩
   ·have e:d.args++(⟨cc⟩:Array Value)=⟨cf++cv++cc⟩:=by rw[h2];apply Array.ext';simp
    rw[h1];simp only[invoke];rw[e];exact q1
   ·refine CallsDIn.mono (q2 (n-1)) ?_;rintro e u' w' ⟨v,μ',h',φ',rfl,k1,k2,k3,k4,k5⟩;exact xD hdf hS hB K fin ds _ φ' μ' h' (settle u') w' (h6.mono k5 k4) k1 k2 k3 (dD.le_trans hle k4) (hg.trans k5)
end
def Exit.jumpIn (l:Nat) (J:Act→World→Prop) (Q:Exit→Act→World→Prop):Exit→Act→World→Prop
 | .goto l',a,w=>l'=l∧J a w
 |e,a,w=>Q e a w
def Code.jumpsIn (F:Fence) (n:Nat) (P:Program) (rest:Code) (l:Nat) (Q:Exit→Act→World→Prop):Nat→Act→World→Prop
 |0,_,_=>False
 |m+1,a,w=>rest.wpIn F n P (Exit.jumpIn l (Code.jumpsIn F n P rest l Q m) Q) a w
section
variable {P:Program} {b:Frame} {a:Act} {k:List Item} {cs:List Frame} {w:World}
theorem nC {c:Code}:step P (lone (b.atR a (.code (.scope c) :: k)) cs w)= .next (lone (b.atR a (.code c :: .inScope c :: k)) cs w):=
 step_lone_go (by simp[stepG,stepG.exec,Frame.atR])
theorem Ba {c:Code}:step P (lone (b.atR a (.inScope c :: k)) cs w)= .next (lone (b.atR a k) cs w):=
 step_lone_go (by simp[stepG,stepG.exec,Frame.atR])
end
theorem EP {F:Fence} {n:Nat} {P:Program} {Q:Exit→Act→World→Prop} {a:Act} {w:World} {c rest:Code} {l:Nat} (hf:findLabel c l=some rest) (m:Nat)
 (h:c.wpIn F n P (Exit.jumpIn l (Code.jumpsIn F n P rest l Q m) Q) a w):(Code.scope c).wpIn F n P Q a w:=by
 intro b k cs hro hb hr;have hg:gotoIn l (.inScope c :: k)=some (.code rest :: .inScope c :: k):=by simp[gotoIn,hf]
 have key:∀m a w,Code.jumpsIn F n P rest l Q m a w→
  ∃e a' w',Q e a' w'∧ArrivesIn (Machine.fenced P F) P (lone (b.atR a (.code rest :: .inScope c :: k)) cs w) b k cs e a' w':=by
  intro m
  induction m with
  |zero=>intro a w h;exact h.elim
  |succ m ih=>
   intro a w h;have⟨e,a₁,w₁,hq,harr⟩:=h b (.inScope c :: k) cs hro hb hr;cases e with
   |normal=>exact⟨.normal,a₁,w₁,hq,StepsIn.trans harr (.one (fenced_calm hb hr rfl) Ba)⟩
   |exit id=>exact⟨.exit id,a₁,w₁,hq,fun k' hk=>harr.1 k' (by simp[exitTo,hk]),fun hr' hk=>harr.2 hr' (by simp[exitTo,hk])⟩
   |goto l'=>
    obtain⟨rfl,hJ⟩:=hq;exact have⟨e₂,a₂,w₂,hq₂,harr₂⟩:=ih a₁ w₁ hJ;⟨e₂,a₂,w₂,hq₂, .of_steps (harr.1 _ hg) harr₂⟩
   |ret=>exact⟨_,a₁,w₁,hq,harr⟩
   |panic ch=>exact⟨_,a₁,w₁,hq,harr⟩
   |outgrown=>exact⟨_,a₁,w₁,hq,harr⟩
 have h0:(lone (b.atR a (.code (.scope c) :: k)) cs w).fenced P F:=fenced_calm hb hr rfl;have⟨e,a₁,w₁,hq,harr⟩:=h b (.inScope c :: k) cs hro hb hr;cases e with
 |normal=>exact⟨.normal,a₁,w₁,hq, .head h0 nC (StepsIn.trans harr (.one (fenced_calm hb hr rfl) Ba))⟩
 |exit id=>exact⟨.exit id,a₁,w₁,hq,fun k' hk=> .head h0 nC (harr.1 k' (by simp[exitTo,hk])),fun hr' hk=>(let⟨k₁,h1,h2⟩:=harr.2 hr' (by simp[exitTo,hk]);⟨k₁,h1, .head h0 nC h2⟩)⟩
 |goto l'=>
  obtain⟨rfl,hJ⟩:=hq;exact have⟨e₂,a₂,w₂,hq₂,harr₂⟩:=key _ a₁ w₁ hJ;⟨e₂,a₂,w₂,hq₂, .of_steps (.head h0 nC (harr.1 _ hg)) harr₂⟩
 |ret=>exact⟨_,a₁,w₁,hq, .of_steps (.one h0 nC) harr⟩
 |panic ch=>exact⟨_,a₁,w₁,hq, .of_steps (.one h0 nC) harr⟩
 |outgrown=>exact⟨_,a₁,w₁,hq, .of_steps (.one h0 nC) harr⟩
end
noncomputable section
def Then (P:Program) (B:Base) (N S:Nat) (r:Option Nat) (pend:List (AV×List AV)) (mk:Bool) (φ:dD) (w:World) (K:ow) (Q:Exit→Act→World→Prop):Prop:=
 ∀ex ex' σ' a' w' φ',K ex σ'=true→tZ φ' ex ex'→At P B N φ' σ' a' w'→Ch S r pend mk φ' w' a'→φ.le φ'→Gw B w w'→Q ex' a' w'
section
variable {P:Program} {B:Base} {N S n:Nat} {call:bg} {r:Option Nat} {pend:List (AV×List AV)} {mk:Bool}
theorem Then.later {φ φ':dD} {w w':World} {K:ow} {Q:Exit→Act→World→Prop} (h:Then P B N S r pend mk φ w K Q) (hle:φ.le φ') (hg:Gw B w w'):Then P B N S r pend mk φ' w' K Q:=
 fun ex ex' σ2 a2 w2 φ2 k1 kE k2 k3 k4 k5=>h ex ex' σ2 a2 w2 φ2 k1 kE k2 k3 (dD.le_trans hle k4) (hg.trans k5)
def WM (P:Program) (B:Base) (N S n:Nat) (call:bg) (r:Option Nat) (pend:List (AV×List AV)) (mk:Bool) (m:Nat) (c:Code) (x:cZ):Prop:=
 (mk=true∨ou x=true)→∀(σ:St) (K:ow) (φ:dD) (a:Act) (w:World) (Q:Exit→Act→World→Prop),At P B N φ σ a w→Ch S r pend mk φ w a→dh call m x σ K=true→Then P B N S r pend mk φ w K Q→c.wpIn (FW r) n P Q a w
theorem Ef {m:Nat} {c:Code} {x:cZ} (hc:WM P B N S n call r pend mk m c x) (hm:mk=true∨ou x=true):∀(k:Nat) (σ:St) (K:ow) (φ:dD) (a:Act) (w:World) (Q:Exit→Act→World→Prop),At P B N φ σ a w→Ch S r pend mk φ w a→iter (dh call m x) K k σ=true→Then P B N S r pend mk φ w K Q→Code.roundsIn (FW r) n P c Q k a w
 |0,σ,K,φ,a,w,Q,A,O,hr,hQ=>by simp[iter] at hr
 |k+1,σ,K,φ,a,w,Q,A,O,hr,hQ=>by
  simp only[iter] at hr;rw[roundsIn_succ];refine hc hm σ _ φ a w _ A O hr ?_;intro ex ex' σ' a' w' φ' k1 kE k2 k3 k4 k5;cases kE with
  |normal=>exact Ef hc hm k σ' K φ' a' w' Q k2 k3 k1 (hQ.later k4 k5)
  |ret=>exact hQ .ret _ σ' a' w' φ' k1 .ret k2 k3 k4 k5
  |exit id=>exact hQ (.exit id) _ σ' a' w' φ' k1 (.exit id) k2 k3 k4 k5
  |goto l=>exact hQ (.goto l) _ σ' a' w' φ' k1 (.goto l) k2 k3 k4 k5
  |panic h=>exact hQ _ _ σ' a' w' φ' k1 (.panic h) k2 k3 k4 k5
theorem TW {as:List aT} {ops:Array Oper} {x:cZ} (h:wO as ops=some x):∃n0 rest,x= .dreg n0 rest:=by
 exact have⟨l0,pl,hok,e⟩:=Bv h;⟨_,_,e⟩
theorem iE {c:Code} {y:cZ} (h:comp P N c=some y):
 match y with
 | .skip=>c= .skip
 | .reg as=>∃id ops,c= .region id ops false∧eU P N ops ops.toList=some as
 | .dreg n0 rest=>∃id ops as,c= .region id ops true∧eU P N ops ops.toList=some as∧wO as ops=some (.dreg n0 rest)
 | .seq a b=>∃c1 c2,c= .seq c1 c2∧comp P N c1=some a∧comp P N c2=some b
 | .cond o a b=>∃p c1 c2,c= .cond p c1 c2∧bH p=some o∧comp P N c1=some a∧comp P N c2=some b
 | .block id a=>∃c1,c= .block id c1∧comp P N c1=some a
 | .loop a=>∃c1,c= .loop c1∧comp P N c1=some a
 | .rf f ps a b=>∃g ps' c1 c2,c= .rangeFunc g ps' c1 c2∧bH g=some f∧ps=ps'.toList∧comp P N c1=some a∧comp P N c2=some b∧ps'.toList.all (Nat.blt · N)=true
 | .exit id=>c= .exit id
 | .scope a l r=>∃c1,c= .scope c1∧comp P N c1=some a∧kK a l=some r
 | .label l=>c= .label l
 | .goto l=>c= .goto l
 | .ret=>c= .ret
 | .refuse=>∃why,c= .refuse why
 | .keep _ _=>False
 | .cut _ _=>False:=by
 cases c with
 |skip=>simp only[comp] at h;cases h;rfl
 |region id ops draw=>
  simp only[comp] at h;split at h
  ·rename_i as has;cases draw with
   |true=>
    simp only[cond_true] at h;obtain⟨n0,rest,rfl⟩:=TW h;exact⟨id,ops,as,rfl,has,h⟩
   |false=>simp only[cond_false] at h;cases h;exact⟨id,ops,rfl,has⟩
  ·cases h
 |seq a b=>
  simp only[comp] at h;split at h
  ·rename_i x y h1 h2;cases h;exact⟨a,b,rfl,h1,h2⟩
  ·cases h
 |cond o a b=>
  simp only[comp] at h;split at h
  ·rename_i p x y h0 h1 h2;cases h;exact⟨o,a,b,rfl,h0,h1,h2⟩
  ·cases h
 |block id a=>
  simp only[comp] at h;split at h
  ·rename_i x h1;cases h;exact⟨a,rfl,h1⟩
  ·cases h
 |loop a=>
  simp only[comp] at h;split at h
  ·rename_i x h1;cases h;exact⟨a,rfl,h1⟩
  ·cases h
 |rangeFunc g ps a b=>
  simp only[comp] at h;split at h
  ·rename_i f x y h0 h1 h2;cases hps:ps.toList.all (Nat.blt · N) with
   |false=>rw[hps] at h;cases h
   |true=>rw[hps,cond_true] at h;cases h;exact⟨g,ps,a,b,rfl,h0,rfl,h1,h2,hps⟩
  ·cases h
 |exit id=>simp only[comp] at h;cases h;rfl
 |scope a=>
  simp only[comp] at h;split at h
  ·rename_i x h1;split at h
   ·rename_i l hl;split at h
    ·rename_i r hr;cases h;exact⟨a,rfl,h1,hr⟩
    ·cases h
   ·cases h
  ·cases h
 |label l=>simp only[comp] at h;cases h;rfl
 |goto l=>simp only[comp] at h;cases h;rfl
 |ret=>simp only[comp] at h;cases h;rfl
 |refuse why=>simp only[comp] at h;cases h;exact⟨why,rfl⟩
theorem Lu {l:Nat}:∀{c:Code} {x:cZ},comp P N c=some x→
 match kK x l with
 |some r=>∃rest,findLabel c l=some rest∧comp P N rest=some r
 |none=>findLabel c l=none:=by
 intro c
 induction c with
 |seq a b iha ihb=>
  intro x h;obtain⟨y,z,hy,hz,rfl⟩:∃y z,comp P N a=some y∧comp P N b=some z∧x= .seq y z:=by
   simp only[comp] at h;split at h
   ·rename_i y z h1 h2;cases h;exact⟨y,z,h1,h2,rfl⟩
   ·cases h
  have ha:=iha hy;have hb:=ihb hz;simp only[kK,findLabel];cases hfa:kK y l with
  |some r=>
   rw[hfa] at ha;have⟨rest,e1,e2⟩:=ha;simp only[e1];exact⟨_,rfl,by simp only[comp,e2,hz]⟩
  |none=>
   rw[hfa] at ha;simp only at ha;simp only[ha];exact hb
 |label l'=>
  intro x h;simp only[comp] at h;cases h;simp only[kK,findLabel];by_cases e:l'=l
  ·subst e;simp[comp]
  ·simp[e]
 |_=>
  intro x h;have hx:=iE h;cases x<;>first |(exact hx.elim)|(simp only at hx;done)|skip
  all_goals first
   |(simp only[kK,findLabel];done)
   |(exfalso;simp only at hx;(repeat (first |(obtain⟨_,hx⟩:=hx)));cases hx;done)
   |(exfalso;simp only at hx;obtain⟨_,_,_,hx,_⟩:=hx;cases hx;done)
   |(exfalso;simp only at hx;obtain⟨_,_,hx,_⟩:=hx;cases hx;done)
   |(exfalso;simp only at hx;obtain⟨_,hx,_⟩:=hx;cases hx;done)
   |(exfalso;simp only at hx;cases hx;done)
   |simp[kK,findLabel]
theorem Ig {m l:Nat} {rest:Code} {x:cZ} (hc:WM P B N S n call r pend mk m rest x) (hm:mk=true∨ou x=true):∀(k:Nat) (σ:St) (K:ow) (φ:dD) (a:Act) (w:World) (Q:Exit→Act→World→Prop),At P B N φ σ a w→Ch S r pend mk φ w a→vJ l (dh call m x) K k σ=true→Then P B N S r pend mk φ w K Q→Code.jumpsIn (FW r) n P rest l Q k a w
 |0,σ,K,φ,a,w,Q,A,O,hr,hQ=>by simp[vJ] at hr
 |k+1,σ,K,φ,a,w,Q,A,O,hr,hQ=>by
  simp only[vJ] at hr;show rest.wpIn (FW r) n P (Exit.jumpIn l (Code.jumpsIn (FW r) n P rest l Q k) Q) a w;refine hc hm σ _ φ a w _ A O hr ?_;intro ex ex' σ' a' w' φ' k1 kE k2 k3 k4 k5;cases kE with
  |normal=>exact hQ .normal _ σ' a' w' φ' k1 .normal k2 k3 k4 k5
  |ret=>exact hQ .ret _ σ' a' w' φ' k1 .ret k2 k3 k4 k5
  |exit id=>exact hQ (.exit id) _ σ' a' w' φ' k1 (.exit id) k2 k3 k4 k5
  |panic h=>exact hQ _ _ σ' a' w' φ' k1 (.panic h) k2 k3 k4 k5
  |goto l'=>
   simp only at k1;cases hb:Nat.beq l' l with
   |false=>rw[hb] at k1;cases k1
   |true=>
    rw[hb] at k1;exact⟨Nat.eq_of_beq_eq_true hb,Ig hc hm k σ' K φ' a' w' Q k2 k3 k1 (hQ.later k4 k5)⟩
theorem At.keep {φ:dD} {σ:St} {a:Act} {w:World} (A:At P B N φ σ a w) (ks:List Nat):At P B N φ ⟨keepR ks σ.regs,σ.h⟩ a w:=by
 refine⟨⟨A.regs.1,fun t v ht=>A.regs.2 t v ?_⟩,A.heap⟩;simp only at ht
 revert ht
 induction ks with
 |nil=>intro ht;simp only[keepR] at ht;rw[PT.get_lf] at ht;cases ht
 |cons k ks ih=>
  intro ht;simp only[keepR] at ht;split at ht
  ·rename_i u hu;rw[PT.get_set] at ht;split at ht
   ·rename_i e;subst e;cases ht;exact hu
   ·exact ih ht
  ·exact ih ht
theorem TU {ρ:bZ}:∀{l:List (Nat×AV)},adQ ρ l=true→∀k v,(Vj l).get k=some v→ρ.get k=some v
 | [],_,k,v,h=>by rw[show Vj []= .lf from rfl,PT.get_lf] at h;cases h
 |(j,u) :: l,hs,k,v,h=>by
  simp only[adQ] at hs;split at hs
  ·rename_i x hx;cases hb:AV.same x u with
   |false=>rw[hb] at hs;cases hs
   |true=>
    rw[hb,cond_true] at hs;simp only[Vj,PT.get_set] at h;split at h
    ·rename_i e;subst e;cases h;rw[hx,same_eq _ _ hb]
    ·exact TU hs k v h
  ·cases hs
theorem MI:∀(l m:List (List AV)),Jt l m=true→l=m
 | [],[],_=>rfl
 |a :: l,b :: m,h=>by
  simp only[Jt] at h;cases hb:rT a b with
  |false=>rw[hb] at h;cases h
  |true=>rw[hb,cond_true] at h;rw[uM _ _ hb,MI l m h]
 | [],_ :: _,h=>by cases h
 |_ :: _,[],h=>by cases h
theorem IK:∀(l m:List (AV×AV×Nat)),El l m=true→l=m
 | [],[],_=>rfl
 |(a,b,n) :: l,(a',b',n') :: m,h=>by
  simp only[El] at h;cases hb:(AV.same a a'&&AV.same b b'&&Nat.beq n n') with
  |false=>rw[hb] at h;cases h
  |true=>
   rw[hb,cond_true] at h;simp only[Bool.and_eq_true,aG] at hb;rw[same_eq _ _ hb.1.1,same_eq _ _ hb.1.2,hb.2,IK l m h]
 | [],_ :: _,h=>by cases h
 |_ :: _,[],h=>by cases h
theorem abL:∀(a b:Option Nat),ad4 a b=true→a=b
 |none,none,_=>rfl
 |some a,some b,h=>by rw[Nat.eq_of_beq_eq_true h]
 |none,some _,h=>by cases h
 |some _,none,h=>by cases h
theorem XM {o:fC} {c:Vh} (h:Jw o c=true):o=c.obj:=by
 unfold Jw at h;split at h
 ·split at h
  ·rename_i r;simp only[Bool.and_eq_true,aG,beq_iff_eq] at h;have⟨⟨⟨⟨⟨h1,h2⟩,h3⟩,h4⟩,h5⟩,h6⟩:=h;have⟨es,sz,g,m,rw',ty⟩:=r;simp only at h1 h2 h3 h4 h5 h6;rw[MI _ _ h1,h2,h3,h4,h5,abL _ _ h6];rfl
  ·cases h
 ·split at h
  ·simp only[Bool.and_eq_true,aG] at h;rw[IK _ _ h.1,h.2];rfl
  ·cases h
 ·split at h
  ·rw[Nat.eq_of_beq_eq_true h];rfl
  ·cases h
theorem Vv {h:ah} {sz:Nat}:∀{l:List (Nat×Vh)},afa h sz l=true→∀k o,(TI l).get k=some o→h.get k=some o∧k<sz
 | [],_,k,o,e=>by rw[show TI []= .lf from rfl,PT.get_lf] at e;cases e
 |(j,u) :: l,hs,k,o,e=>by
  simp only[afa] at hs;split at hs
  ·rename_i x hx;cases hb:(Jw x u&&Nat.blt j sz) with
   |false=>rw[hb] at hs;cases hs
   |true=>
    rw[hb,cond_true] at hs;simp only[Bool.and_eq_true,bC] at hb;simp only[TI,PT.get_set] at e;split at e
    ·rename_i e2;subst e2;cases e;exact⟨by rw[hx,XM hb.1],hb.2⟩
    ·exact Vv hs k o e
  ·cases hs
theorem bR.less {φ:dD} {h h':ah} {w:World} (H:bR P B φ h w) (hsz:h.sz≤h'.sz) (hget:∀k o,h'.get k=some o→h.get k=some o∧k<h'.sz):bR P B φ h' w:=
 ⟨H.base,fun id g L e=>Nat.lt_of_lt_of_le (H.dom id g L e) hsz,fun id hid=>by
   cases e:h'.get id with
   |none=>rfl
   |some o=>have:=(hget id o e).2;omega,
   fun id o e hd=>H.objn id o (hget id o e).1 hd,H.lt,fun id o g L e hL=>H.own id o g L (hget id o e).1 hL,
   fun id o id' g g' L L' e ho hL hL' hb=>H.disj id o id' g g' L L' (hget id o e).1 ho hL hL' hb,H.nodef,fun id o e=>by
    have⟨h1,h2,h3,h4⟩:=H.ghost id o e;exact⟨fun u hu=>h1 u (hget id u hu).1,Nat.lt_of_lt_of_le h2 hsz,h3,h4⟩⟩
theorem At.cut {φ:dD} {σ:St} {a:Act} {w:World} (A:At P B N φ σ a w):∀{cs:List Cut} {c:Cut},YZ σ cs=some c→At P B N φ c.st a w
 | [],c,h=>by cases h
 |d :: cs,c,h=>by
  simp only[YZ] at h;cases hb:covers σ d with
  |false=>rw[hb] at h;exact A.cut h
  |true=>
   rw[hb,cond_true] at h;cases h;unfold covers at hb;cases h1:Nat.ble σ.h.sz d.sz with
   |false=>rw[h1] at hb;cases hb
   |true=>
    rw[h1,cond_true] at hb;cases h2:adQ σ.regs d.rs with
    |false=>rw[h2] at hb;cases hb
    |true=>
     rw[h2,cond_true] at hb;exact⟨⟨A.regs.1,fun t v ht=>A.regs.2 t v (TU h2 t v ht)⟩,A.heap.less (aI.1 h1) (Vv hb)⟩
theorem uK (hmix:P.follows .mixedOrders=true) (hcall:nX P call) (m:Nat):∀(x:cZ) (c:Code),comp P N c=some (strip x)→WM P B N S n call r pend mk m c x:=by
 intro x
 induction x with
 |keep ks y ih=>
  intro c hc hm σ K φ a w Q A O hr hQ;exact ih c hc hm ⟨keepR ks σ.regs,σ.h⟩ K φ a w Q (A.keep ks) O hr hQ
 |cut cs y ih=>
  intro c hc hm σ K φ a w Q A O hr hQ;simp only[dh] at hr;split at hr
  ·rename_i s hs;exact ih c hc hm s.st K φ a w Q (A.cut hs) O hr hQ
  ·exact ih c hc hm σ K φ a w Q A O hr hQ
 |skip=>
  intro c hc hm σ K φ a w Q A O hr hQ;cases iE hc;exact wpIn_skip (hQ .normal _ σ a w φ hr .normal A O φ.le_refl (Gw.refl B w))
 |refuse=>
  intro c hc hm σ K φ a w Q A O hr hQ;cases hr
 |label l=>
  intro c hc hm σ K φ a w Q A O hr hQ;cases iE hc;exact wpIn_label (hQ .normal _ σ a w φ hr .normal A O φ.le_refl (Gw.refl B w))
 |goto l=>
  intro c hc hm σ K φ a w Q A O hr hQ;cases iE hc;exact wpIn_goto (hQ (.goto l) _ σ a w φ hr (.goto l) A O φ.le_refl (Gw.refl B w))
 |reg as=>
  intro c hc hm σ K φ a w Q A O hr hQ;obtain⟨id,ops,rfl,has⟩:=iE hc;exact aa3 hcall has A hr fun ex ex' σ' a' w' φ' k1 kE k2 k3 k4 k5=>hQ ex ex' σ' a' w' φ' k1 kE k2 (O.mono k5 k4 k3) k4 k5
 |dreg n0 rest=>
  intro c hc hm σ K φ a w Q A O hr hQ;obtain⟨id,ops,as,rfl,has,hd⟩:=iE hc;exact Xg hmix hcall has hd A hr fun ex ex' σ' a' w' φ' k1 kE k2 k3 k4 k5=>hQ ex ex' σ' a' w' φ' k1 kE k2 (O.mono k5 k4 k3) k4 k5
 |seq y z ihc ihd=>
  intro c hc hm σ K φ a w Q A O hr hQ;obtain⟨c1,c2,rfl,hy,hz⟩:=iE hc;have hm1:mk=true∨ou y=true:=hm.imp_right fun h=>by simp only[ou,Bool.and_eq_true] at h;exact h.1
  have hm2:mk=true∨ou z=true:=hm.imp_right fun h=>by simp only[ou,Bool.and_eq_true] at h;exact h.2
  simp only[dh] at hr;refine wpIn_seq (ihc c1 hy hm1 σ _ φ a w _ A O hr ?_);intro ex ex' σ' a' w' φ' k1 kE k2 k3 k4 k5;cases kE with
  |normal=>exact ihd c2 hz hm2 σ' K φ' a' w' Q k2 k3 k1 (hQ.later k4 k5)
  |ret=>exact hQ .ret _ σ' a' w' φ' k1 .ret k2 k3 k4 k5
  |exit id=>exact hQ (.exit id) _ σ' a' w' φ' k1 (.exit id) k2 k3 k4 k5
  |goto l=>exact hQ (.goto l) _ σ' a' w' φ' k1 (.goto l) k2 k3 k4 k5
  |panic h=>exact hQ _ _ σ' a' w' φ' k1 (.panic h) k2 k3 k4 k5
 |cond o y z ihc ihd=>
  intro c hc hm σ K φ a w Q A O hr hQ;obtain⟨p,c1,c2,rfl,hp,hy,hz⟩:=iE hc;have hm1:mk=true∨ou y=true:=hm.imp_right fun h=>by simp only[ou,Bool.and_eq_true] at h;exact h.1
  have hm2:mk=true∨ou z=true:=hm.imp_right fun h=>by simp only[ou,Bool.and_eq_true] at h;exact h.2
  simp only[dh] at hr;split at hr
  ·rename_i hv;have:=bX A.regs hp hv;generalize hev:a.eval p=u at this;cases this;exact wpIn_cond_true hev (ihc c1 hy hm1 σ K φ a w Q A O hr hQ)
  ·rename_i hv;have:=bX A.regs hp hv;generalize hev:a.eval p=u at this;cases this;exact wpIn_cond_false hev (ihd c2 hz hm2 σ K φ a w Q A O hr hQ)
  ·cases hr
 |block id y ih=>
  intro c hc hm σ K φ a w Q A O hr hQ;obtain⟨c1,rfl,hy⟩:=iE hc;simp only[dh] at hr;refine wpIn_block (ih c1 hy hm σ _ φ a w _ A O hr ?_);intro ex ex' σ' a' w' φ' k1 kE k2 k3 k4 k5;cases kE with
  |normal=>exact hQ .normal _ σ' a' w' φ' k1 .normal k2 k3 k4 k5
  |ret=>exact hQ .ret _ σ' a' w' φ' k1 .ret k2 k3 k4 k5
  |goto l=>exact hQ (.goto l) _ σ' a' w' φ' k1 (.goto l) k2 k3 k4 k5
  |panic h=>exact hQ _ _ σ' a' w' φ' k1 (.panic h) k2 k3 k4 k5
  |exit i=>
   simp only at k1;simp only[Exit.inBlock];cases hb:Nat.beq i id with
   |true=>
    rw[hb] at k1;rw[if_pos (Nat.eq_of_beq_eq_true hb)];exact hQ .normal _ σ' a' w' φ' k1 .normal k2 k3 k4 k5
   |false=>
    rw[hb] at k1;rw[if_neg (dF.1 hb)];exact hQ (.exit i) _ σ' a' w' φ' k1 (.exit i) k2 k3 k4 k5
 |loop y ih=>
  intro c hc hm σ K φ a w Q A O hr hQ;obtain⟨c1,rfl,hy⟩:=iE hc;simp only[dh] at hr;exact wpIn_loop_rounds m (Ef (ih c1 hy) hm m σ K φ a w Q A O hr hQ)
 |exit id=>
  intro c hc hm σ K φ a w Q A O hr hQ;cases iE hc;exact wpIn_exit (hQ (.exit id) _ σ a w φ hr (.exit id) A O φ.le_refl (Gw.refl B w))
 |ret=>
  intro c hc hm σ K φ a w Q A O hr hQ;cases iE hc;exact wpIn_ret (hQ .ret _ σ a w φ hr .ret A O φ.le_refl (Gw.refl B w))
 |scope y l z ihy ihz=>
  intro c hc hm σ K φ a w Q A O hr hQ;obtain⟨c1,rfl,hy,hl⟩:=iE hc;have hm1:mk=true∨ou y=true:=hm.imp_right fun h=>by simp only[ou,Bool.and_eq_true] at h;exact h.1
  have hm2:mk=true∨ou z=true:=hm.imp_right fun h=>by simp only[ou,Bool.and_eq_true] at h;exact h.2
  have hfl:=Lu (l:=l) hy;rw[hl] at hfl;obtain⟨rest,e1,e2⟩:=hfl;simp only[dh] at hr;refine EP e1 m (ihy c1 hy hm1 σ _ φ a w _ A O hr ?_);intro ex ex' σ' a' w' φ' k1 kE k2 k3 k4 k5;cases kE with
  |normal=>exact hQ .normal _ σ' a' w' φ' k1 .normal k2 k3 k4 k5
  |ret=>exact hQ .ret _ σ' a' w' φ' k1 .ret k2 k3 k4 k5
  |exit id=>exact hQ (.exit id) _ σ' a' w' φ' k1 (.exit id) k2 k3 k4 k5
  |panic h=>exact hQ _ _ σ' a' w' φ' k1 (.panic h) k2 k3 k4 k5
  |goto l'=>
   simp only at k1;cases hb:Nat.beq l' l with
   |false=>rw[hb] at k1;cases k1
   |true=>
    rw[hb] at k1;exact⟨Nat.eq_of_beq_eq_true hb,Ig (ihz rest e2) hm2 m σ' K φ' a' w' Q k2 k3 k1 (hQ.later k4 k5)⟩
 |rf f ps xa xb iha ihb=>
  intro c hc hm σ K φ a w Q A O hr hQ;obtain rfl:mk=true:=hm.resolve_right (by simp[ou]);obtain⟨g,ps,assign,body,rfl,hy,rfl,ha,hb,hps⟩:=iE hc;have hpN:∀p∈ps.toList,p<N:=fun p hp=>by simpa using List.all_eq_true.1 hps p hp
  simp only[dh] at hr;split at hr
  ·rename_i fid first cap hv
   have hgv:=bX A.regs hy hv;generalize hcg:a.eval g=cg at hgv;cases hgv with
   |func hf hcp=>
    rename_i first' cap';refine wpIn_rangeFunc ?_;intro fn _;obtain⟨w0,mark,R,henter,H0,hg0,hM,e1,e2,e3,e4,e5,e6⟩:=U7 A.heap O fn ps assign body;have hle1:=dD.le_add (φ:=φ) (id:=σ.h.sz) (g:=0) ⟨w0.heap.size,0,0,0,0⟩ (A.heap.fresh 0);have hp:=H0.push (o:= .loop {regs:=σ.regs,ps:=ps.toList,asg:=xa,body:=xb,st:= .ready}) rfl (L:=⟨w0.heap.size,0,0,0,0⟩) (ob:= .loop R) rfl (fun ds e=>by cases e)
     ⟨_,R,N,dD.add_same _ _ _ _,heap_alloc_new w0 _,by rw[e3];exact A.regs.mono hle1,by rw[e4],hpN,by rw[e5];exact ha,by rw[e6];exact hb,⟨e1,e2⟩⟩
    have hg1:Gw B w0 (w0.alloc (.loop R)):=Gw.alloc H0.base (fun _ _ _ e=>by cases e);have hcl:=hcall (.func fid) _ _ _ hr B _ _ (first'++[.func (.yield w0.heap.size) #[] #[]]++cap') hp (((hf.mono hle1).append (.cons (.yield (dD.add_same _ _ _ _)) .nil)).append (hcp.mono hle1));simp only at hcl;obtain⟨hrun,hcalls⟩:(callFunc fid ⟨first'++[.func (.yield w0.heap.size) #[] #[]]++cap'⟩).run P (w0.alloc (.loop R))= .ok (.enter fid _) (w0.alloc (.loop R))∧_:=by
     rcases hcl with hcl |⟨hno,_⟩
     ·exact hcl
     ·exact absurd rfl (hno (.fn (.yield σ.h.sz) [] []) (by simp) σ.h.sz)
    refine⟨w0.heap.size,mark,w0.alloc (.loop R),{target:= .fn (.func fid) ⟨cap'⟩,args:=(⟨first'⟩:Array Value)++ #[.func (.yield w0.heap.size) #[] #[]]},w0.alloc (.loop R),fid,⟨first'++[.func (.yield w0.heap.size) #[] #[]]++cap'⟩,w0.alloc (.loop R),henter, ?_,fun _ _=>trivial, ?_,Dv r n, ?_⟩
    ·have hcst:a.eval (.const (.func (.yield w0.heap.size) #[] #[]))= .func (.yield w0.heap.size) #[] #[]:=rfl;simp[resolve,Deferred.ofValue,hcg,hcst]
    ·have:(⟨first'⟩:Array Value)++ #[.func (.yield w0.heap.size) #[] #[]]++⟨cap'⟩=⟨first'++[.func (.yield w0.heap.size) #[] #[]]++cap'⟩:=by apply Array.ext';simp
     simp only[invoke];rw[this];exact hrun
    ·refine CallsIn.mono (show CallsIn (FW r) (n-1) P fid _ _ _ from hcalls (n-1)) ?_
     rintro e w3 (⟨v,h',cv,φ',rfl,hK,g1,g2,g3,g4⟩|⟨v,h',cv,φ',rfl,hK,g1,g2,g3,g4⟩)
     rotate_left
     ·simp[iB] at hK
     simp only[Md g1] at hK;split at hK
     rotate_left
     ·cases hK
     rename_i l2 hl2;obtain⟨L,R2,N2,q1,q2,q3,q4,q5,q6,q7,q8,q9⟩:=Eu g2 hl2 ⟨_,_,g3 _ _ _ (dD.add_same _ _ _ _)⟩;have hL:φ' σ.h.sz 0=some ⟨w0.heap.size,0,0,0,0⟩:=g3 _ _ _ (dD.add_same _ _ _ _);rw[hL] at q1;cases q1;obtain⟨u1,u2⟩:=q9 {R2 with state:= .exhausted} .exh rfl rfl rfl rfl rfl
     have hgw:Gw B w0 _:=hg1.trans (g4.trans u2);have A4:At P B N φ' ⟨σ.regs,h'.put σ.h.sz (.loop {l2 with st:= .exh})⟩ {a with defers:=mark++a.defers} (w3.putObj w0.heap.size (.loop {R2 with state:= .exhausted})):=⟨A.regs.mono (dD.le_trans hle1 g3),u1⟩
     have O4:Ch S r pend true φ' (w3.putObj w0.heap.size (.loop {R2 with state:= .exhausted})) {a with defers:=mark++a.defers}:=
      ⟨Nat.le_trans O.size (Nat.le_trans hg0.size hgw.size),hM.mono hgw (dD.le_trans hle1 g3),fun e=>(by cases e),fun l e=>(let⟨R',k⟩:=O.round l e;(hg0.trans hgw).loops l R' k)⟩
     have fin:∀ex ex',K ex ⟨σ.regs,h'.put σ.h.sz (.loop {l2 with st:= .exh})⟩=true→tZ φ' ex ex'→Q ex' {a with defers:=mark++a.defers} (w3.putObj w0.heap.size (.loop {R2 with state:= .exhausted})):=
      fun ex ex' hk hE=>hQ ex ex' _ _ _ φ' hk hE A4 O4 (dD.le_trans hle1 g3) (hg0.trans hgw)
     split at hK
     ·rename_i hst;rw[hst] at q8;refine⟨none,_, ?_,fin .normal _ hK .normal⟩;rw[run_endLoop q2 (by rw[q8.1];decide),q8.2]
     ·rename_i ex hst;rw[hst] at q8;obtain⟨s1,s2⟩:=q8;have hend:=run_endLoop (P:=P) q2 (by rw[s1];decide);cases ex with
      |normal=>exact s2.elim
      |panic v=>exact s2.elim
      |ret=>
       simp only at s2;exact⟨some .ret,_,hend.trans (congrArg (fun j=>Result.ok j _) s2),wpIn_ret (fin .ret _ hK .ret)⟩
      |exit id=>
       simp only at s2;exact⟨some (.exit id),_,hend.trans (congrArg (fun j=>Result.ok j _) s2),wpIn_exit (fin (.exit id) _ hK (.exit id))⟩
      |goto l=>
       simp only at s2;exact⟨some (.goto l),_,hend.trans (congrArg (fun j=>Result.ok j _) s2),wpIn_goto (fin (.goto l) _ hK (.goto l))⟩
     ·cases hK
  ·cases hr
def PZ (tmps:Array Value):ResultVar→Sem Value
 | .tmp t=>pure (tmps.getD t undef)
 | .cell a t=>do loadVar t (←asAddr (tmps.getD a undef))
def Yj (P:Program) (w:World) {α β:Type} (f:α→Sem β):List α→List β→Prop
 | [],[]=>True
 |x :: l,v :: m=>(f x).run P w= .ok v w∧Yj P w f l m
 |_,_=>False
theorem Tz {α β:Type} {w:World} {f:α→Sem β}:∀{l:List α} {m:List β},Yj P w f l m→(l.mapM f).run P w= .ok m w
 | [],[],_=>by simp
 | [],_ :: _,h=>h.elim
 |_ :: _,[],h=>h.elim
 |x :: l,v :: m,h=>by
  rw[List.mapM_cons,Sem.run_bind,h.1,Result.andThen_ok,Sem.run_bind,Tz h.2];simp
theorem xO {φ:dD} {σ:St} {a:Act} {w:World} (A:At P B N φ σ a w):∀{l:List ResultVar} {res:List (Nat×Option (Bool×Nat))} {vs:List AV},Bf P l=some res→jg σ.regs σ.h res=some vs→
 ∃cvs,Yj P w (PZ a.tmps) l cvs∧bQ φ vs cvs
 | [],res,vs,hr,hv=>by
   simp[Bf] at hr;subst hr;simp[jg] at hv;subst hv;exact⟨[],trivial, .nil⟩
 | .tmp t :: l,res,vs,hr,hv=>by
   simp only[Bf,Option.bind_eq_bind,Option.pure_def] at hr;cases hl:Bf P l with
   |none=>simp[hl] at hr
   |some res'=>
    simp[hl] at hr;subst hr;simp only[jg,vv] at hv;split at hv
    ·rename_i v h1;split at hv
     ·rename_i vs' h2;cases hv;have⟨cvs,g1,g2⟩:=xO A hl h2;exact have⟨cv,e1,e2⟩:=A.regs.2 t v h1;⟨cv :: cvs,⟨by simp[PZ,e1],g1⟩, .cons e2 g2⟩
     ·cases hv
    ·cases hv
 | .cell x t :: l,res,vs,hr,hv=>by
   simp only[Bf,Option.bind_eq_bind,Option.pure_def] at hr;cases hl:Bf P l with
   |none=>cases hag:qm P t<;>cases hs:sizeT P t<;>simp[hl,hag,hs] at hr
   |some res'=>
    cases hag:qm P t with
    |none=>simp[hag] at hr
    |some ag=>
     cases hs:sizeT P t with
     |none=>simp[hag,hs] at hr
     |some sz=>
      simp[hl,hag,hs] at hr;subst hr;simp only[jg,vv] at hv;split at hv
      ·rename_i v h1;split at h1
       ·rename_i p hp;split at hv
        ·rename_i vs' h2;cases hv;have⟨cvs,g1,g2⟩:=xO A hl h2;have⟨cp,e1,e2⟩:=A.regs.2 x p hp;have⟨cv,q1,q2,q3⟩:=M8 A.heap e2 h1 hag hs;have hptr:∃Ad,cp= .pointer (some Ad):=by
          unfold dL at h1;cases e2<;>first |(cases h1;done)|exact⟨_,rfl⟩
         obtain⟨Ad,rfl⟩:=hptr;exact⟨cv :: cvs,⟨by simp[PZ,e1,asAddr,q2 Ad rfl],g1⟩, .cons q3 g2⟩
        ·cases hv
       ·cases h1
      ·cases hv
theorem WU {φ:dD} {vs:List AV} {cvs:List Value} (h:bQ φ vs cvs):bG φ (oneOf vs) (if h:(⟨cvs⟩:Array Value).size=1 then(⟨cvs⟩:Array Value)[0] else .tuple ⟨cvs⟩):=by
 cases h with
 |nil=>exact .tup .nil
 |cons h1 h2=>
  cases h2 with
  |nil=>simpa[oneOf] using h1
  |cons h2 h3=>simpa[oneOf] using bG.tup (.cons h1 (.cons h2 h3))
theorem wh {φ:dD} {σ:St} {a:Act} {w:World} {fn:Func} (A:At P B N φ σ a w) {res:List (Nat×Option (Bool×Nat))} {vs:List AV} (hr:Bf P fn.results.toList=some res) (hv:jg σ.regs σ.h res=some vs):
 ∃cv,(results fn a.tmps).run P w= .ok cv w∧bG φ (oneOf vs) cv:=by
 have⟨cvs,g1,g2⟩:=xO A hr hv;have e:results fn a.tmps=(do let vs ←fn.results.mapM (PZ a.tmps);pure (if h:vs.size=1 then vs[0] else .tuple vs)):=by
  unfold results;congr 1
 refine⟨_, ?_,WU g2⟩;rw[e,Sem.run_bind];rw[Array.mapM_eq_mapM_toList,Sem.run_map,Tz g1];rfl
theorem OU:∀{l:List AV} {i t:Nat} {ρ:bZ},(mK i l ρ).get t=if i≤t∧t<i+l.length then l[t-i]? else ρ.get t
 | [],i,t,ρ=>by simp[mK];omega
 |v :: l,i,t,ρ=>by
  simp only[mK];rw[OU,PT.get_set];by_cases h1:t=i
  ·subst h1;rw[if_neg (by omega),if_pos rfl,if_pos (by simp)];simp
  ·by_cases h2:i+1≤t∧t<i+1+l.length
   ·rw[if_pos h2,if_pos (by simp;omega)];have:t-i=(t-(i+1))+1:=by omega
    rw[this];rfl
   ·rw[if_neg h2,if_neg h1,if_neg (by simp;omega)]
theorem Cj {φ:dD} {args:List AV} {eX:List Value} (h:bQ φ args eX) (N:Nat):lZ φ N (mK 0 args .lf) ((⟨eX⟩:Array Value)++Array.replicate (N-(⟨eX⟩:Array Value).size) undef):=by
 refine⟨by simp;omega,fun t v ht=> ?_⟩;rw[OU] at ht;split at ht
 ·rename_i hlt;refine have⟨cv,e1,e2⟩:=h.get (i:=t) (a:=v) (by simpa using ht);⟨cv, ?_,e2⟩
  have:t<eX.length:=(List.getElem?_eq_some_iff.1 e1).1;rw[Array.getElem?_append_left (by simpa using this)];simpa using e1
 ·rw[PT.get_lf] at ht;cases ht
def BG (P:Program) (f:Nat) (p:bg→Nat→List AV→ah→aK→Bool):Prop:=
 ∀(call:bg) (n:Nat),nX P call→∀(args:List AV) (h:ah) (K:aK),p call n args h K=true→(∀v∈args,∀id,v≠ .fn (.yield id) [] [])∧∀(B:Base) (φ:dD) (w:World) (eX:List Value),bR P B φ h w→bQ φ args eX→qB P B φ w K ((callFunc f ⟨eX⟩).run P w)
def Em (P:Program) (E:Env):Prop:=(∀f p,E.prim f=some p→BG P f p)∧∀f fn,E.code f=some fn→∃F,P.funcs[f]? =some F∧xX P F=some (aP fn)
theorem Ib {φ:dD}:∀{ps:List Nat} {vs:List AV} {ρ ρ':bZ} {tmps:Array Value} {cvs:List Value},(∀p∈ps,p<N)→lZ φ N ρ tmps→bQ φ vs cvs→DX ps vs ρ=some ρ'→
 lZ φ N ρ' ((ps.zip cvs).foldl (fun t (x:Nat×Value)=>t.setIfInBounds x.1 x.2) tmps)∧ps.length=cvs.length
 | [],[],ρ,ρ',tmps,cvs,_,hR,hv,hs=>by
   cases hv;simp[DX] at hs;subst hs;exact⟨hR,rfl⟩
 | [],_ :: _,_,_,_,_,_,_,_,hs=>by simp[DX] at hs
 |_ :: _,[],_,_,_,_,_,_,_,hs=>by simp[DX] at hs
 |p :: ps,v :: vs,ρ,ρ',tmps,cvs,hN,hR,hv,hs=>by
  cases hv with
  |cons h1 h2=>
   rename_i cv cvs';simp only[DX] at hs;exact have⟨k1,k2⟩:=Ib (fun q hq=>hN q (List.mem_cons_of_mem _ hq)) (hR.set (hN p List.mem_cons_self) h1) h2 hs;⟨k1,by simp[k2]⟩
theorem oQ {df:ni} (hdf:aah P df) {fn:Func} {R:Ending→World→Prop} {w0:World} {φ0:dD} (hS:w0.heap.size≤S) (hB:B≤S) (K:Mode→St→Bool)
 (fin:∀φ μ σ a u w',K μ σ=true→Ck φ μ u→At P B N φ σ a w'→φ0.le φ→Gw B w0 w'→LeavesIn (FW none) n P fn a.tmps R [] u w') {x:Dk} {ex':Exit} {σ:St} {a:Act} {w:World} {φ:dD} {pend:List (AV×List AV)}
 (hk:atEnd df pend x σ K=true) (hE:tZ φ x ex') (A:At P B N φ σ a w) (O:Ch S none pend true φ w a) (hle:φ0.le φ) (hg:Gw B w0 w):bodyPostM (FW none) n P fn R ex' a w:=by
 have key:∀μ u,ends df pend μ σ.h (fun μ h=>K μ ⟨σ.regs,h⟩)=true→Ck φ μ u→LeavesInM (FW none) n P fn a.tmps R a.defers u w:=fun μ u he hM=>
  xD (φ0:=φ) hdf hS hB _ (fun φ' μ' h' u' w' k1 k2 k3 k4 k5=>fin φ' μ' ⟨σ.regs,h'⟩ a u' w' k1 k2 ⟨A.regs.mono k4,k3⟩ (dD.le_trans hle k4) k5) a.defers pend φ μ σ.h u w O.marks he hM A.heap φ.le_refl hg
 cases hE with
 |normal=>exact key .ret .returning hk .ret
 |ret=>exact key .ret .returning hk .ret
 |panic h=>exact key (.pan _) _ hk (.pan h)
 |exit id=>cases hk
 |goto l=>cases hk
theorem yR {ops:Array Oper}:∀{l:List Oper} {as:List aT} {x:aT},eU P N ops l=some (as++[x])→∃l' o,l=l'++[o]∧eU P N ops l'=some as∧lG P N ops o=some x
 | [],as,x,h=>by simp[eU] at h
 |o :: l,as,x,h=>by
  simp only[eU] at h;split at h
  ·rename_i y hy;split at h
   ·rename_i r hr;cases as with
    |nil=>
     simp only[List.nil_append,Option.some.injEq,List.cons.injEq] at h;obtain⟨rfl,rfl⟩:=h;cases l with
     |nil=>exact⟨[],o,rfl,rfl,hy⟩
     |cons o2 l2=>
      simp only[eU] at hr;split at hr
      ·split at hr
       ·cases hr
       ·cases hr
      ·cases hr
    |cons z as'=>
     simp only[List.cons_append,Option.some.injEq,List.cons.injEq] at h;obtain⟨rfl,rfl⟩:=h;obtain⟨l',o',rfl,e2,e3⟩:=yR hr;exact⟨o :: l',o',rfl,by simp only[eU,hy,e2],e3⟩
   ·cases h
  ·cases h
theorem Br:∀{ops:List aT} {pre:List aT} {f:bB} {as:List bB},mZ ops=some (pre,f,as)→ops=pre++[⟨none, .dfr f as,none⟩]
 | [],_,_,_,h=>by simp[mZ] at h
 | [o],pre,f,as,h=>by
   simp only[mZ] at h;split at h
   ·rename_i e1 e2 e3;cases h;have⟨d,op,g⟩:=o;simp only at e1 e2 e3;subst e1;subst e2;subst e3;rfl
   ·cases h
 |o :: o2 :: l,pre,f,as,h=>by
  simp only[mZ] at h;split at h
  ·rename_i pre' f' as' e;cases h;rw[Br (ops:=o2 :: l) e];rfl
  ·cases h
theorem ahY {o:Oper} {f:bB} {as:List bB} (h:fV P o.op=some (.dfr f as)):∃c fo,o.op= .defer c∧c.callee= .value fo∧bH fo=some f∧mD c.args.toList=some as:=by
 unfold fV at h;split at h
 ·rename_i c hop;split at h
  ·split at h<;>cases h
  ·split at h
   ·cases h
   ·have:=zK h;simp[nP] at h;exfalso
    revert h
    split
    ·rename_i a ha;intro h;cases hi:dI a with
     |true=>rw[hi] at h;cases h
     |false=>rw[hi] at h;cases h;cases hi
    ·intro h;cases h
  ·exfalso
   revert h
   unfold nP;split
   ·rename_i a ha;intro h;cases hi:dI a with
     |true=>rw[hi] at h;cases h
     |false=>rw[hi] at h;cases h;cases hi
   ·intro h;cases h
 ·split at h<;>cases h
 ·rename_i c hop;split at h
  ·rename_i fo hf;split at h
   ·rename_i g as' hg has;cases h;exact⟨c,fo,hop,hf,hg,has⟩
   ·cases h
  ·cases h
 ·exfalso
  revert h
  unfold nP;split
  ·rename_i a ha;intro h;cases hi:dI a with
    |true=>rw[hi] at h;cases h
    |false=>rw[hi] at h;cases h;cases hi
  ·intro h;cases h
theorem agS {o:Oper} (h:fV P o.op=some .rcv) (w:World) (ρ:Operand→Value):(execOp ρ o).run P w= .ok .recover w:=by
 unfold fV at h;split at h
 ·rename_i c hop;split at h
  ·split at h<;>cases h
  ·rename_i b hb;split at h
   ·simp[execOp,hop,resolve,hb,invoke,builtin]
   ·exfalso
    revert h
    unfold nP;split
    ·rename_i a ha;intro h;cases hi:dI a with
     |true=>rw[hi] at h;cases h
     |false=>rw[hi] at h;cases h;cases hi
    ·intro h;cases h
  ·exfalso
   revert h
   unfold nP;split
   ·rename_i a ha;intro h;cases hi:dI a with
    |true=>rw[hi] at h;cases h
    |false=>rw[hi] at h;cases h;cases hi
   ·intro h;cases h
 ·split at h<;>cases h
 ·split at h
  ·split at h<;>cases h
  ·cases h
 ·exfalso
  revert h
  unfold nP;split
  ·rename_i a ha;intro h;cases hi:dI a with
   |true=>rw[hi] at h;cases h
   |false=>rw[hi] at h;cases h;cases hi
  ·intro h;cases h
theorem aeo {call:bg} {df:ni} {m:Nat} {y z:cZ} {pend:List (AV×List AV)} {σ:St} {K:Mode→St→Bool} (hy:∀ops,y≠ .reg ops):runT call df m (.seq y z) pend σ K=dh call m y σ fun x σ'=>(match x with
 | .normal=>runT call df m z pend σ' K
 |x=>atEnd df pend x σ' K):=by
 cases y<;>first |rfl |exact absurd rfl (hy _)
theorem XG {call:bg} {df:ni} {m:Nat} {x:cZ} {pend:List (AV×List AV)} {σ:St} {K:Mode→St→Bool} (hx:∀y z,x≠ .seq y z):runT call df m x pend σ K=dh call m x σ fun x σ'=>atEnd df pend x σ' K:=by
 cases x<;>first |rfl |exact absurd rfl (hx _ _)
theorem LY (hmix:P.follows .mixedOrders=true) (hcall:nX P call) {df:ni} (hdf:aah P df) (m:Nat) {fn:Func} {R:Ending→World→Prop} {w0:World} {φ0:dD} (hS:w0.heap.size≤S) (hB:B≤S) (K:Mode→St→Bool)
 (fin:∀φ μ σ a u w',K μ σ=true→Ck φ μ u→At P B N φ σ a w'→φ0.le φ→Gw B w0 w'→LeavesIn (FW none) n P fn a.tmps R [] u w'):∀(x:cZ) (c:Code),comp P N c=some (strip x)→∀(pend:List (AV×List AV)) (σ:St) (φ:dD) (a:Act) (w:World),At P B N φ σ a w→Ch S none pend true φ w a→φ0.le φ→Gw B w0 w→runT call df m x pend σ K=true→c.wpIn (FW none) n P (bodyPostM (FW none) n P fn R) a w:=by
 have plain:∀(y:cZ) (c1:Code) (z:cZ) (c2:Code),comp P N c1=some (strip y)→(∀(pend:List (AV×List AV)) (σ:St) (φ:dD) (a:Act) (w:World),At P B N φ σ a w→Ch S none pend true φ w a→φ0.le φ→Gw B w0 w→runT call df m z pend σ K=true→c2.wpIn (FW none) n P (bodyPostM (FW none) n P fn R) a w)→∀(pend:List (AV×List AV)) (σ:St) (φ:dD) (a:Act) (w:World),At P B N φ σ a w→Ch S none pend true φ w a→φ0.le φ→Gw B w0 w→
  dh call m y σ (fun x σ'=>(match x with | .normal=>runT call df m z pend σ' K |x=>atEnd df pend x σ' K))=true→(Code.seq c1 c2).wpIn (FW none) n P (bodyPostM (FW none) n P fn R) a w:=by
  intro y c1 z c2 hy hz pend σ φ a w A O hle hg hr;refine wpIn_seq (uK (S:=S) hmix hcall m y c1 hy (.inl rfl) σ _ φ a w _ A O hr ?_);intro ex ex' σ' a' w' φ' k1 kE k2 k3 k4 k5;cases kE with
  |normal=>exact hz pend σ' φ' a' w' k2 k3 (dD.le_trans hle k4) (hg.trans k5) k1
  |ret=>exact oQ hdf hS hB K fin k1 .ret k2 k3 (dD.le_trans hle k4) (hg.trans k5)
  |exit id=>exact oQ hdf hS hB K fin k1 (.exit id) k2 k3 (dD.le_trans hle k4) (hg.trans k5)
  |goto l=>exact oQ hdf hS hB K fin k1 (.goto l) k2 k3 (dD.le_trans hle k4) (hg.trans k5)
  |panic h=>exact oQ hdf hS hB K fin k1 (.panic h) k2 k3 (dD.le_trans hle k4) (hg.trans k5)
 have whole:∀(x:cZ) (c:Code),comp P N c=some (strip x)→∀(pend:List (AV×List AV)) (σ:St) (φ:dD) (a:Act) (w:World),At P B N φ σ a w→Ch S none pend true φ w a→φ0.le φ→Gw B w0 w→
  dh call m x σ (fun x σ'=>atEnd df pend x σ' K)=true→c.wpIn (FW none) n P (bodyPostM (FW none) n P fn R) a w:=by
  intro x c hx pend σ φ a w A O hle hg hr;refine uK (S:=S) hmix hcall m x c hx (.inl rfl) σ _ φ a w _ A O hr ?_;intro ex ex' σ' a' w' φ' k1 kE k2 k3 k4 k5;exact oQ hdf hS hB K fin k1 kE k2 k3 (dD.le_trans hle k4) (hg.trans k5)
 intro x
 induction x with
 |seq y z ihy ihz=>
  intro c hc pend σ φ a w A O hle hg hr;obtain⟨c1,c2,rfl,hy,hz⟩:=iE hc;cases y with
  |reg ops=>
   simp only[runT] at hr;split at hr
   ·rename_i pre f as hsp;obtain⟨id,ops',rfl,has⟩:=iE hy;rw[Br hsp] at has;obtain⟨l,o,hl,hpre,hco⟩:=yR has;obtain⟨h1,h2,h3,h4⟩:=gq hco;have hgd:o.guard=none:=by
     rcases h4 with⟨h,_⟩|⟨_,_,_,_,_,_,_,h⟩
     ·exact h
     ·cases h
    have hop:fV P o.op=some (.dfr f as):=by
     cases hop:fV P o.op with
     |none=>rw[hop] at h3;cases h3
     |some op=>rw[hop] at h3;simp only[Option.getD_some] at h3;rw[h3]
    obtain⟨cc,fo,hod,hcal,hfo,hargs⟩:=ahY hop;have hsz:ops'.size=l.length+1:=by rw[←Array.length_toList,hl];simp
    have hat:∀j,j<l.length→l[j]? =ops'[0+j]? :=fun j hj=>by
     rw[Nat.zero_add, ←Array.getElem?_toList,hl,List.getElem?_append_left hj]
    have hlast:ops'[l.length]? =some o:=by rw[←Array.getElem?_toList,hl];simp
    refine wpIn_seq (wpIn_region ?_);have hrange:List.range ops'.size=List.range' 0 l.length++[l.length]:=by rw[hsz,List.range_succ,List.range_eq_range']
    rw[hrange];refine Gh hcall l pre 0 σ _ φ a w hat hpre A hr ?_ ?_
    ·intro σ' a' w' φ' k1 k2 k3 k4 k5;simp only at k1;split at k1
     ·rename_i g first cap vs hfv hvs
      have hr1:=bX k2.regs hfo hfv;have hr2:=uI k2.regs hargs hvs;rw[wpOpsIn_cons];unfold wpOpIn;simp only[hlast];have hwt:Region.wanted o (yielded ops' a'.tmps)=true:=by unfold Region.wanted;rw[hgd]
      rw[hwt];simp only[if_true];refine⟨fun _ _=>trivial, ?_⟩;generalize hcf:a'.eval fo=cf at hr1;cases hr1 with
      |func h5 h6=>
       rename_i cfirst ccap;have hsem:(o.semAt (FW none).round a'.eval).run P w'= .ok (.defer {target:= .fn (.func g) ⟨ccap⟩,args:=⟨cfirst++cc.args.toList.map a'.eval⟩}) w':=by
        have e:(⟨cfirst⟩:Array Value)++cc.args.map a'.eval=⟨cfirst++cc.args.toList.map a'.eval⟩:=by apply Array.ext';simp
        show(execOp a'.eval o).run P w'=_;simp only[execOp,hod,resolve,hcal,hcf,Deferred.ofValue];rw[e];rfl
       rw[hsem,Oper.uponIn_defer];have O':=O.mono k5 k4 k3;have hdst:o.dst=none:=h1.symm;rw[hdst];exact ihz c2 hz ((.fn (.func g) first cap,vs) :: pend) σ' φ' _ w' ⟨k2.regs,k2.heap⟩ ⟨O'.size, .fn rfl rfl h5 h6 hr2 O'.marks,fun e=>(by cases e),fun l e=>(by cases e)⟩ (dD.le_trans hle k4) (hg.trans k5) k1
     ·cases k1
    ·intro v cv σ' a' w' φ' k1 k2 k3 k4 k5 k6;exact oQ hdf hS hB K fin k1 (.panic k2) k3 (O.mono k6 k5 k4) (dD.le_trans hle k5) (hg.trans k6)
   ·exact plain (.reg ops) c1 z c2 hy (ihz c2 hz) pend σ φ a w A O hle hg hr
  |_=>exact plain _ c1 z c2 hy (ihz c2 hz) pend σ φ a w A O hle hg (by rw[aeo (by simp)] at hr;exact hr)
 |_=>
  intro c hc pend σ φ a w A O hle hg hr;exact whole _ c hc pend σ φ a w A O hle hg (by rw[XG (by simp)] at hr;exact hr)
def wQ (u:FrameMode) (d:Bool):FrameMode:=
 match d,u with
 |true, .panicking (e :: older)=> .panicking ({v:=e.v,recovered:=true} :: older)
 |_,u=>u
theorem uV {μ:Mode} {u:FrameMode} {c₀:Frame} {cs:List Frame} {φ0:dD} (hM:Ck φ0 μ u) {ops:Array Oper} {Q:Exit→Act→List Frame→World→Prop} {K:KMo}:∀(l:List Oper) (al:List aT) (k:Nat) (d:Bool) (σ:St) (φ:dD) (a:Act) (w:World),
 (∀j,l[j]? =ops[k+j]?)→eU P N ops l=some al→At P B N φ σ a w→φ0.le φ→yZ μ al d σ K=true→
 (∀d' σ' a' w' φ',K .normal d' σ'=true→At P B N φ' σ' a' w'→a'.defers=a.defers→φ.le φ'→Gw B w w'→Q .normal a' ({c₀ with mode:=wQ u d'} :: cs) w')→wpOpsSIn (FW none) n P ops Q (List.range' k l.length) a ({c₀ with mode:=wQ u d} :: cs) w
 | [],al,k,d,σ,φ,a,w,hl,hc,A,hle,hr,hQ=>by
   simp[eU] at hc;subst hc;exact hQ d σ a w φ hr A rfl φ.le_refl (Gw.refl B w)
 |o :: l,al,k,d,σ,φ,a,w,hl,hc,A,hle,hr,hQ=>by
  simp only[eU] at hc;split at hc
  ·rename_i x hx;split at hc
   ·rename_i al' hal;cases hc;have hk:ops[k]? =some o:=by rw[←Nat.add_zero k, ←hl 0];rfl
    have hl':∀j,l[j]? =ops[k+1+j]? :=fun j=>by
     have:=hl (j+1);rw[show k+1+j=k+(j+1) by omega, ←this];rfl
    obtain⟨h1,h2,h3,h4⟩:=gq hx;simp only[List.length_cons,List.range'_succ,wpOpsSIn,hk];refine⟨fun _ _=>trivial, ?_⟩;simp only[yZ] at hr;split at hr
    ·rename_i hw;rw[mV hx A.regs hw];simp only[if_true];split at hr
     ·rename_i hop';have hop:fV P o.op=some .rcv:=by
       rw[hop'] at h3;cases hop:fV P o.op with
       |none=>rw[hop] at h3;cases h3
       |some op=>rw[hop] at h3;simp only[Option.getD_some] at h3;rw[h3]
      have hex:(execOp a.eval o).run P w= .ok .recover w:=agS hop w a.eval;rw[hex];simp only;have key:∀(d':Bool) (cv:Value) (v:AV),bG φ v cv→yZ μ al' d' ⟨put σ.regs x.dst v,σ.h⟩ K=true→wpOpsSIn (FW none) n P ops Q (List.range' (k+1) l.length) (a.put o.dst cv) ({c₀ with mode:=wQ u d'} :: cs) w:=by
       intro d' cv v hv hr';have A':At P B N φ ⟨put σ.regs x.dst v,σ.h⟩ (a.put o.dst cv) w:=⟨by simp only;rw[h1];exact A.regs.put h2 hv,A.heap⟩;refine uV hM l al' (k+1) d' _ φ _ w hl' hal A' hle hr' ?_;intro d2 σ2 a2 w2 φ2 j1 j2 j3 j4 j5;exact hQ d2 σ2 a2 w2 φ2 j1 j2 (j3.trans (put_defers _ _ _)) j4 j5
      cases hM with
      |ret=>
       have e:recoverD ({c₀ with mode:=wQ .returning d} :: cs)=none:=by cases d<;>rfl
       rw[e];exact key d .nilIface .iC .iC hr
      |pan hv=>
       rename_i v cv;cases d with
       |false=>exact key true cv v (hv.mono hle) hr
       |true=>exact key true .nilIface .iC .iC hr
     ·rename_i op hno;split at hr
      ·rename_i v h' hv;cases hop:fV P o.op with
       |none=>rw[hop] at h3;rw[h3] at hv;cases hv
       |some op=>
        rw[hop] at h3;simp only[Option.getD_some] at h3;rw[h3] at hv;have hn:dI op=false:=by cases op<;>first |rfl |(simp[aN] at hv;done)
        obtain⟨cv,w',φ',hres,g1,g2,g3,g4⟩:=vk (o:=o) A.regs A.heap (CO hop hn) hv;have key:wpOpsSIn (FW none) n P ops Q (List.range' (k+1) l.length) (a.put o.dst cv) ({c₀ with mode:=wQ u d} :: cs) w':=by
         have A':At P B N φ' ⟨put σ.regs x.dst v,h'⟩ (a.put o.dst cv) w':=⟨by simp only;rw[h1];exact(A.regs.mono g3).put h2 g1,g2⟩;refine uV hM l al' (k+1) d _ φ' _ w' hl' hal A' (dD.le_trans hle g3) hr ?_;intro d2 σ2 a2 w2 φ2 j1 j2 j3 j4 j5;exact hQ d2 σ2 a2 w2 φ2 j1 j2 (j3.trans (put_defers _ _ _)) (dD.le_trans g3 j4) (g4.trans j5)
        rcases hres with e |⟨e,e2⟩
        ·rw[e];exact key
        ·rw[e];subst e2;exact key
      ·cases hr
    ·rename_i hw;rw[mV hx A.regs hw];simp only[Bool.false_eq_true,if_false];have A':At P B N φ ⟨put σ.regs x.dst (.tup []),σ.h⟩ (a.put o.dst undef) w:=⟨by simp only;rw[h1];exact A.regs.put h2 (.tup .nil),A.heap⟩;refine uV hM l al' (k+1) d _ φ _ w hl' hal A' hle hr ?_;intro d2 σ2 a2 w2 φ2 j1 j2 j3 j4 j5;exact hQ d2 σ2 a2 w2 φ2 j1 j2 (j3.trans (put_defers _ _ _)) j4 j5
    ·cases hr
   ·cases hc
  ·cases hc
theorem Wd (hmix:P.follows .mixedOrders=true) (hcall:nX P call) (m:Nat) {μ:Mode} {u:FrameMode} {c₀:Frame} {cs:List Frame} {φ0:dD} (hM:Ck φ0 μ u):∀(x:cZ) (c:Code),comp P N c=some (strip x)→ou x=true→∀(d:Bool) (σ:St) (K:KMo) (φ:dD) (a:Act) (w:World) (Q:Exit→Act→List Frame→World→Prop),At P B N φ σ a w→a.defers=[]→S≤w.heap.size→φ0.le φ→mE call m μ x d σ K=true→
 (∀ex ex' d' σ' a' w' φ',K ex d' σ'=true→tZ φ' ex ex'→At P B N φ' σ' a' w'→a'.defers=[]→S≤w'.heap.size→φ.le φ'→Gw B w w'→Q ex' a' ({c₀ with mode:=wQ u d'} :: cs) w')→c.wpSIn (FW none) n P Q a ({c₀ with mode:=wQ u d} :: cs) w:=by
 have plain:∀(x:cZ) (c:Code),comp P N c=some (strip x)→ou x=true→∀(d:Bool) (σ:St) (K:KMo) (φ:dD) (a:Act) (w:World) (Q:Exit→Act→List Frame→World→Prop),At P B N φ σ a w→a.defers=[]→S≤w.heap.size→dh call m x σ (fun x σ'=>K x d σ')=true→
  (∀ex ex' d' σ' a' w' φ',K ex d' σ'=true→tZ φ' ex ex'→At P B N φ' σ' a' w'→a'.defers=[]→S≤w'.heap.size→φ.le φ'→Gw B w w'→Q ex' a' ({c₀ with mode:=wQ u d'} :: cs) w')→c.wpSIn (FW none) n P Q a ({c₀ with mode:=wQ u d} :: cs) w:=by
  intro x c hc hrf d σ K φ a w Q A hd hS hr hQ;refine wpSIn_of_wpIn rfl (uK (S:=S) (pend:=[]) (mk:=false) hmix hcall m x c hc (.inr hrf) σ _ φ a w _ A ⟨hS,by rw[hd];exact .nil,fun _=>hd,fun l e=>by cases e⟩ hr ?_);intro ex ex' σ' a' w' φ' k1 kE k2 k3 k4 k5;exact hQ ex ex' d σ' a' w' φ' k1 kE k2 (k3.none rfl) k3.size k4 k5
 intro x
 induction x with
 |seq y z ihy ihz=>
  intro c hc hrf d σ K φ a w Q A hd hS hle hr hQ;obtain⟨c1,c2,rfl,hy,hz⟩:=iE hc;simp only[ou,Bool.and_eq_true] at hrf;simp only[mE] at hr;refine wpSIn_seq (ihy c1 hy hrf.1 d σ _ φ a w _ A hd hS hle hr ?_);intro ex ex' d' σ' a' w' φ' k1 kE k2 k3 k6 k4 k5;cases kE with
  |normal=>
   refine ihz c2 hz hrf.2 d' σ' K φ' a' w' Q k2 k3 k6 (dD.le_trans hle k4) k1 ?_;intro ex ex' d2 σ2 a2 w2 φ2 j1 jE j2 j3 j6 j4 j5;exact hQ ex ex' d2 σ2 a2 w2 φ2 j1 jE j2 j3 j6 (dD.le_trans k4 j4) (k5.trans j5)
  |ret=>exact hQ .ret _ d' σ' a' w' φ' k1 .ret k2 k3 k6 k4 k5
  |exit id=>exact hQ (.exit id) _ d' σ' a' w' φ' k1 (.exit id) k2 k3 k6 k4 k5
  |goto l=>exact hQ (.goto l) _ d' σ' a' w' φ' k1 (.goto l) k2 k3 k6 k4 k5
  |panic h=>exact hQ _ _ d' σ' a' w' φ' k1 (.panic h) k2 k3 k6 k4 k5
 |cond o y z ihy ihz=>
  intro c hc hrf d σ K φ a w Q A hd hS hle hr hQ;obtain⟨p,c1,c2,rfl,hp,hy,hz⟩:=iE hc;simp only[ou,Bool.and_eq_true] at hrf;simp only[mE] at hr;split at hr
  ·rename_i hv;have:=bX A.regs hp hv;generalize hev:a.eval p=uu at this;cases this;exact wpSIn_cond hev (ihy c1 hy hrf.1 d σ K φ a w Q A hd hS hle hr hQ)
  ·rename_i hv;have:=bX A.regs hp hv;generalize hev:a.eval p=uu at this;cases this;exact wpSIn_cond hev (ihz c2 hz hrf.2 d σ K φ a w Q A hd hS hle hr hQ)
  ·cases hr
 |reg as=>
  intro c hc hrf d σ K φ a w Q A hd hS hle hr hQ;simp only[mE] at hr;cases hh:FR as with
  |false=>rw[hh,cond_false] at hr;exact plain (.reg as) c hc hrf d σ K φ a w Q A hd hS hr hQ
  |true=>
   rw[hh,cond_true] at hr;obtain⟨id,ops,rfl,has⟩:=iE hc;refine wpSIn_region ?_;have:=uV (n:=n) (Q:=Q) (c₀:=c₀) (cs:=cs) hM ops.toList as 0 d σ φ a w (fun j=>by simp) has A hle hr (fun d' σ' a' w' φ' k1 k2 k3 k4 k5=>hQ .normal _ d' σ' a' w' φ' k1 .normal k2 (k3.trans hd) (Nat.le_trans hS k5.size) k4 k5);rw[Array.length_toList, ←List.range_eq_range'] at this;exact this
 |_=>
  intro c hc hrf d σ K φ a w Q A hd hS hle hr hQ;exact plain _ c hc hrf d σ K φ a w Q A hd hS hr hQ
theorem Ml {E:Env} (hmix:P.follows .mixedOrders=true) (hE:Em P E) {call:bg} (hcall:nX P call) (m:Nat):aah P (uF E call m):=by
 intro g args μ h K hK B φ w eX u H hA hM;unfold uF at hK;split at hK
 ·cases hK
 split at hK
 ·cases hK
 ·rename_i fn hf;obtain⟨F,hF,hc⟩:=hE.2 g fn hf;obtain⟨hcond,hK⟩:=rJ hK;simp only[Bool.and_eq_true] at hcond;obtain⟨⟨_,hres0⟩,hrf⟩:=hcond;unfold xX at hc;split at hc
  ·cases hc
  ·rename_i c hbody;split at hc
   ·rename_i x res hx hres;cases hn:F.name== "runtime.NumGoroutine" with
    |true=>rw[hn] at hc;cases hc
    |false=>
     rw[hn,cond_false] at hc;obtain⟨np',res',body'⟩:=fn;simp only[aP,Option.some.injEq,bV.mk.injEq] at hc;obtain⟨e1,rfl,rfl⟩:=hc;simp only at hK hres0 hrf;have hrun:(callFunc g ⟨eX⟩).run P w= .ok (.enter g ⟨eX⟩) w:=by
      have hn':F.name≠ "runtime.NumGoroutine" :=by simpa using hn
      simp[callFunc,Sem.run_bind,hF,hn',hbody]
     refine⟨hrun,fun n=> ?_⟩;refine callsDIn_of_wpSIn hF hbody trivial fun c₀ cs hu=> ?_;have A:At P B F.ntmps φ ⟨mK 0 args .lf,h⟩ {tmps:=(⟨eX⟩:Array Value)++Array.replicate (F.ntmps-(⟨eX⟩:Array Value).size) undef,defers:=[]} w:=⟨Cj hA _,H⟩;have hc0:c₀ :: cs={c₀ with mode:=wQ u false} :: cs:=by subst hu;rfl
     rw[hc0];refine Wd (S:=w.heap.size) hmix hcall m hM body' c hx hrf false _ _ φ _ w _ A rfl (Nat.le_refl _) φ.le_refl hK ?_;intro ex ex' d' σ' a' w' φ' k1 kE k2 k3 k6 k4 k5;have hM2:Ck φ' (settled μ d') (settle (wQ u d')):=by
      have:=hM.mono k4;cases this with
      |ret=>cases d'<;>exact .ret
      |pan hv=>
       cases d' with
       |false=>exact .pan hv
       |true=>exact .ret
     have hres2:∃v,(results F a'.tmps).run P w'= .ok v w':=by
      obtain⟨cv,q1,_⟩:=wh k2 (vs:=[]) hres (by cases res with |nil=>rfl |cons _ _=>cases hres0)
      exact⟨cv,q1⟩
     obtain⟨rv,hrv⟩:=hres2;cases kE with
     |normal=>exact⟨k3,wQ u d',rfl,rv,hrv,rv,settled μ d',σ'.h,φ',rfl,k1,hM2,k2.heap,k4,k5⟩
     |ret=>exact⟨k3,wQ u d',rfl,rv,hrv,rv,settled μ d',σ'.h,φ',rfl,k1,hM2,k2.heap,k4,k5⟩
     |exit id=>cases k1
     |goto l=>cases k1
     |panic h=>cases k1
   ·cases hc
theorem nK {E:Env} (hmix:P.follows .mixedOrders=true) (hE:Em P E):∀m,nX P (ak E m)
 |0=>fun _ _ _ _ h=>by simp[ak] at h
 |m+1=>by
  intro tgt args h K hK B φ w eX H hA;cases tgt with
  |yield id=>
   intro L hL;simp only[ak] at hK;split at hK
   rotate_left
   ·cases hK
   rename_i l hl;split at hK
   rotate_left
   ·cases hK
   rename_i hst;split at hK
   rotate_left
   ·cases hK
   rename_i ρ hρ;obtain⟨L',R,N,q1,q2,q3,q4,q5,q6,q7,q8,q9⟩:=Eu H hl;rw[hL] at q1;cases q1;obtain⟨s1,s2⟩:=Ib q5 q3 hA hρ;have hsize:(⟨eX⟩:Array Value).size=R.params.size:=by
    have:R.params.toList.length=eX.length:=by rw[q4];exact s2
    simpa using this.symm
   rw[run_yield q2 hsize];have htm:(R.params.zip ⟨eX⟩).foldl (fun(tmps:Array Value) (x:Nat×Value)=>tmps.setIfInBounds x.1 x.2) R.tmps=((l.ps.zip eX).foldl (fun t (x:Nat×Value)=>t.setIfInBounds x.1 x.2) R.tmps):=by
    rw[←Array.foldl_toList,Array.toList_zip,q4]
   intro n;refine roundIn_of_wpIn trivial ?_;have O:Ch w.heap.size (some L.blk) [] true φ w {tmps:=((l.ps.zip eX).foldl (fun t (x:Nat×Value)=>t.setIfInBounds x.1 x.2) R.tmps),defers:=[]}:=⟨Nat.le_refl _, .nil,fun _=>rfl,fun l' e=>by cases e;exact⟨R,q2⟩⟩;show R.assign.wpIn (FW (some L.blk)) n P _ {tmps:=(R.params.zip ⟨eX⟩).foldl (fun(tmps:Array Value) (x:Nat×Value)=>tmps.setIfInBounds x.1 x.2) R.tmps,defers:=[]} w;rw[htm];refine uK (B:=B) (S:=w.heap.size) hmix (nK hmix hE m) m l.asg R.assign q6 (.inl rfl) ⟨ρ,h⟩ _ φ _ w _ ⟨s1,H⟩ O hK ?_;intro ex ex' σ' a' w' φ' k1 kE k2 k3 k4 k5;cases kE<;>first |(cases k1;done)|skip
   simp only at k1;split at k1
   rotate_left
   ·cases k1
   rename_i l1 hl1;split at k1
   rotate_left
   ·cases k1
   rename_i hst1;obtain⟨L1,R1,N1,p1,p2,p3,p4,p5,p6,p7,p8,p9⟩:=Eu k2.heap hl1 ⟨_,_,k4 _ _ _ hL⟩;rw[k4 _ _ _ hL] at p1;cases p1;rw[hst1] at p8;obtain⟨u1,u2⟩:=p9 {R1 with state:= .busy} .busy rfl rfl rfl rfl rfl
   refine⟨_,run_beginRound p2 p8.1, ?_⟩;refine uK (B:=B) (S:=w.heap.size) hmix (nK hmix hE m) m l.body R.body q7 (.inl rfl) ⟨σ'.regs,σ'.h.put id (.loop {l1 with st:= .busy})⟩ _ φ' a' _ _ ⟨k2.regs,u1⟩ (k3.mono u2 φ'.le_refl rfl) k1 ?_
   intro ex ex' σ2 a2 w2 φ2 j1 jE j2 j3 j4 j5;simp only at j1;split at j1
   rotate_left
   ·cases j1
   rename_i l2 hl2;obtain⟨L2,R2,N2,t1,t2,t3,t4,t5,t6,t7,t8,t9⟩:=Eu j2.heap hl2 ⟨_,_,j4 _ _ _ (k4 _ _ _ hL)⟩;rw[j4 _ _ _ (k4 _ _ _ hL)] at t1;cases t1;have ends:∀(st':Kq) (jump:Option Code) (b:Bool),jump.isNone=b→aal st' {R2 with state:=if jump.isNone then .ready else .done,pending:=jump}→K (.bool b) (σ2.h.put id (.loop {l2 with st:=st'}))=true→
    ∃v w',(Instr.endRound L.blk jump).run P w2= .ok v w'∧Ends P B φ w K (.returned v) w':=by
    intro st' jump b hb hst' hk;obtain⟨v1,v2⟩:=t9 {R2 with state:=if jump.isNone then .ready else .done,pending:=jump} st' rfl rfl rfl rfl hst'
    refine⟨_,_,run_endRound jump t2, .inl ⟨.bool b,_,_,φ2,rfl,hk, ?_,v1,dD.le_trans k4 j4,k5.trans (u2.trans (j5.trans v2))⟩⟩;rw[hb];exact .bool b
   cases jE with
   |normal=>exact ends .ready none true rfl ⟨rfl,rfl⟩ j1
   |ret=>exact ends (.done .ret) (some .ret) false rfl ⟨rfl,rfl⟩ j1
   |exit i=>exact ends (.done (.exit i)) (some (.exit i)) false rfl ⟨rfl,rfl⟩ j1
   |goto i=>exact ends (.done (.goto i)) (some (.goto i)) false rfl ⟨rfl,rfl⟩ j1
   |panic h=>cases j1
  |func f=>
   simp only[ak] at hK;split at hK
   ·rename_i p hp;obtain⟨q1,q2⟩:=hE.1 f p hp _ m (nK hmix hE m) args h K hK;exact .inr ⟨q1,q2 B φ w eX H hA⟩
   split at hK
   ·cases hK
   ·rename_i fn hf;obtain⟨F,hF,hc⟩:=hE.2 f fn hf;obtain⟨_,hK⟩:=rJ hK;unfold xX at hc;split at hc
    ·cases hc
    ·rename_i c hbody;split at hc
     ·rename_i x res hx hres;cases hn:F.name== "runtime.NumGoroutine" with
      |true=>rw[hn] at hc;cases hc
      |false=>
       rw[hn,cond_false] at hc;obtain⟨np',res',body'⟩:=fn;simp only[aP,Option.some.injEq,bV.mk.injEq] at hc;obtain⟨e1,rfl,rfl⟩:=hc;simp only at hK;have hrun:(callFunc f ⟨eX⟩).run P w= .ok (.enter f ⟨eX⟩) w:=by
        have hn':F.name≠ "runtime.NumGoroutine" :=by simpa using hn
        simp[callFunc,Sem.run_bind,hF,hn',hbody]
       refine .inl ⟨hrun,fun n=> ?_⟩;refine callsIn_of_wp_marks hF hbody trivial ?_;have A:At P B F.ntmps φ ⟨mK 0 args .lf,h⟩ {tmps:=(⟨eX⟩:Array Value)++Array.replicate (F.ntmps-(⟨eX⟩:Array Value).size) undef,defers:=[]} w:=⟨Cj hA _,H⟩;refine LY (S:=w.heap.size) (w0:=w) (φ0:=φ) hmix (nK hmix hE m) (Ml hmix hE (nK hmix hE m) m) m (Nat.le_refl _) H.base (kT res K) ?_ body' c hx [] _ φ _ w A ⟨Nat.le_refl _, .nil,fun _=>rfl,fun l e=>by cases e⟩ φ.le_refl (Gw.refl B w) hK;intro φ' μ σ' a' u w' k1 k2 k3 k4 k5;cases k2 with
       |ret=>
        simp only[kT] at k1;split at k1
        ·rename_i vs hvs;obtain⟨cv,e1,e2⟩:=wh k3 hres hvs;exact⟨cv,e1, .inl ⟨oneOf vs,σ'.h,cv,φ',rfl,k1,e2,k3.heap,k4,k5⟩⟩
        ·cases k1
       |pan hv=>
        exact .inr ⟨_,σ'.h,_,φ',rfl,k1,hv,k3.heap,k4,k5⟩
     ·cases hc
end
end
noncomputable section
def isTrue:AV→Bool
 | .bool true=>true
 |_=>false
def YP:List (Nat×bV)→Nat→Option bV
 | [],_=>none
 |(k,fn) :: l,f=>bif Nat.beq k f then some fn else YP l f
section
variable {P:Program} {E:Env}
theorem PL {f:Nat} {fn:bV}:∀{l:List (Nat×bV)},YP l f=some fn→(f,fn)∈l
 | [],h=>by cases h
 |(k,x) :: l,h=>by
  simp only[YP] at h;cases hb:Nat.beq k f with
  |true=>
   rw[hb,cond_true] at h;cases h;rw[Nat.eq_of_beq_eq_true hb];exact List.mem_cons_self
  |false=>
   rw[hb,cond_false] at h;exact List.mem_cons_of_mem _ (PL h)
def Ob (P:Program):List (Nat×bV)→Prop
 | []=>True
 |(k,fn) :: l=>(∃F,P.funcs[k]? =some F∧xX P F=some (aP fn))∧Ob P l
theorem Ob.mem {P:Program}:∀{l:List (Nat×bV)},Ob P l→∀k fn,(k,fn)∈l→∃F,P.funcs[k]? =some F∧xX P F=some (aP fn)
 | [],_,_,_,h=>by cases h
 |(k,fn) :: l,⟨h1,h2⟩,k',fn',h=>by
  rcases List.mem_cons.1 h with e |h
  ·cases e;exact h1
  ·exact Ob.mem h2 k' fn' h
theorem aeK (hE:Em P E) {f:Nat} {fn:bV} (hf:E.code f=some fn) (eX:List Value) (w:World):(callFunc f ⟨eX⟩).run P w= .ok (.enter f ⟨eX⟩) w:=by
 have⟨F,hF,hc⟩:=hE.2 f fn hf;unfold xX at hc;split at hc
 ·cases hc
 ·rename_i c hbody;split at hc
  ·rename_i x res hx hres;cases hn:F.name== "runtime.NumGoroutine" with
   |true=>rw[hn] at hc;cases hc
   |false=>
    have hn':F.name≠ "runtime.NumGoroutine" :=by simpa using hn
    simp[callFunc,Sem.run_bind,hF,hn',hbody]
  ·cases hc
theorem Xm (W:World):bR P (.of W.heap.size) (fun _ _=>none) ah.empty W:=by
 refine⟨Nat.le_refl _, ?_, ?_, ?_, ?_, ?_, ?_, ?_, ?_⟩
 ·intro id g L h;cases h
 ·intro id h;rfl
 ·intro id o h;cases h
 ·intro id g L h;cases h
 ·intro id o g L h;cases h
 ·intro id o id' g g' L L' h;cases h
 ·intro id g L h;cases h
 ·intro id o h;cases h
def QD (W W':World):Prop:=W.keptBut W' (fun _=>False)∧(∀a:Addr,a.block<W.heap.size→W'.frozen? a=W.frozen? a)∧W.heap.size≤W'.heap.size
theorem QD.frame {W W':World} (h:QD W W') (may:MemPlace→Prop):W.keptBut W' may:=World.keptBut_mono (fun _ f=>f.elim) h.1
theorem grown_of {W W':World} (h:Gw W.heap.size W W'):QD W W':=by
 refine⟨⟨h.os,h.output,fun i hi=> ?_⟩,h.frozen,h.size⟩;rw[h.below i hi];split
 ·rename_i e1 e2;rw[e1] at e2;cases e2;exact⟨rfl,rfl,rfl,fun _ _=>rfl⟩
 ·rename_i e1 e2;rw[e1] at e2;cases e2;exact .inr ⟨rfl,rfl⟩
 ·rfl
end
end
noncomputable section
def kM {α:Type} (c:Bool) (a b:α):α:=@Bool.rec (fun _=>α) b a c
theorem rX {α:Type} (c:Bool) (a b:α):kM c a b=bif c then a else b:=by cases c<;>rfl
def ah.pushR (h:ah) (o:fC):ah:={sz:=Nat.succ h.sz,t:=h.t.set h.sz o}
theorem ah.pushR_eq (h:ah) (o:fC):h.pushR o=h.push o:=rfl
def yX {α:Type} (l:List α) (n:Nat) (k:α→Bool):Bool:=
 @List.rec α (fun _=>Nat→Bool) (fun _=>false) (fun x _ ih n=>@Nat.rec (fun _=>Bool) (k x) (fun m _=>ih m) n) l n
def Jg {α:Type} (l:List α) (n:Nat) (y:α):List α:=
 @List.rec α (fun _=>Nat→List α) (fun _=>[]) (fun x l ih n=>@Nat.rec (fun _=>List α) (y :: l) (fun m _=>x :: ih m) n) l n
def pq {α:Type} (l:List α):Nat:=@List.rec α (fun _=>Nat) 0 (fun _ _ n=>Nat.succ n) l
def yG {α:Type} (n:Nat) (l:List α):List α:=@Nat.rec (fun _=>List α→List α) (fun l=>l) (fun _ ih l=>@List.rec α (fun _=>List α) [] (fun _ l _=>ih l) l) n l
def Bp {α:Type} (n:Nat) (l:List α):List α:=@Nat.rec (fun _=>List α→List α) (fun _=>[]) (fun _ ih l=>@List.rec α (fun _=>List α) [] (fun x l _=>x :: ih l) l) n l
def WG {α:Type} (l m:List α):List α:=@List.rec α (fun _=>List α) m (fun x _ r=>x :: r) l
def AQ (h:ah) (id:Nat) (k:Row→Bool):Bool:=
 @Option.rec fC (fun _=>Bool) false (fun o=>@fC.rec (fun _=>Bool) k (fun _ _=>false) (fun _ _ _ _=>false) (fun _=>false) false (fun _ _=>false) false (fun _=>false) o) (h.t.get id)
def bK {α:Type} (o:Option α) (k:α→Bool):Bool:=@Option.rec α (fun _=>Bool) false k o
def aQ (o:Option (AV×ah)) (k:aK):Bool:=@Option.rec (AV×ah) (fun _=>Bool) false (fun p=>@Prod.rec AV ah (fun _=>Bool) k p) o
theorem rD {α:Type}:∀(l:List α) (n:Nat) (k:α→Bool),yX l n k=bK (nth l n) k
 | [],n,k=>rfl
 |x :: l,0,k=>rfl
 |x :: l,n+1,k=>rD l n k
theorem xS {α:Type}:∀(l:List α) (n:Nat) (y:α),Jg l n y=mI l n y
 | [],n,y=>rfl
 |x :: l,0,y=>rfl
 |x :: l,n+1,y=>congrArg (x :: ·) (xS l n y)
theorem mJ {α:Type}:∀(l:List α),pq l=l.length
 | []=>rfl
 |x :: l=>congrArg Nat.succ (mJ l)
theorem wU {α:Type}:∀(n:Nat) (l:List α),yG n l=l.drop n
 |0,l=>rfl
 |n+1,[]=>by rw[List.drop_nil];rfl
 |n+1,x :: l=>wU n l
theorem zC {α:Type}:∀(n:Nat) (l:List α),Bp n l=l.take n
 |0,l=>by rw[List.take_zero];rfl
 |n+1,[]=>by rw[List.take_nil];rfl
 |n+1,x :: l=>by
  have:Bp (n+1) (x :: l)=x :: Bp n l:=rfl;rw[this,zC n l];simp
theorem Et {α:Type}:∀(l m:List α),WG l m=l++m
 | [],m=>rfl
 |x :: l,m=>congrArg (x :: ·) (Et l m)
theorem xA (h:ah) (id:Nat) (k:Row→Bool):AQ h id k=bK (h.row id) k:=by
 simp only[AQ,ah.row,ah.get];cases h.t.get id with
 |none=>rfl
 |some o=>cases o<;>rfl
theorem nM {α:Type} (c:Bool) (o:Option α) (k:α→Bool):bK (bif c then o else none) k=kM c (bK o k) false:=by cases c<;>rfl
def aA (off:Nat) (a:AV) (k:AV→Bool):Bool:=
 @AV.rec (fun _=>Bool) (fun _=>Bool) (fun _=>false) (fun _ _=>false) (fun _=>false) (fun id g i o=>k (.ptr id g i (Nat.add o off))) (false) (fun _ _ _ _ _ _=>false) (false) (false) (fun _=>false) (false) (fun _=>false) (fun _ _ _ _ _=>false) (false) (fun _ _=>false) (fun _ _=>false) (false) (fun _ _ _=>false) (fun _ _=>false) (false) (fun _ _ _ _=>false) a
theorem acI (off:Nat) (a:AV) (k:AV→Bool):aA off a k=bK (OG off a) k:=by cases a<;>rfl
def av (h:ah) (a:AV) (k:AV→Bool):Bool:=
 @AV.rec (fun _=>Bool) (fun _=>Bool) (fun _=>false) (fun _ _=>false) (fun _=>false) (fun id g i o=>AQ h id fun r=>@Bool.rec (fun _=>Bool) false (yX r.es i fun e=>yX e o k) (Nat.ble r.m g)) (false) (fun _ _ _ _ _ _=>false) (false) (false) (fun _=>false) (false) (fun _=>false) (fun _ _ _ _ _=>false) (false) (fun _ _=>false) (fun _ _=>false) (false) (fun _ _ _=>false) (fun _ _=>false) (false) (fun _ _ _ _=>false) a
theorem TH (h:ah) (n:Nat) (a:AV) (k:AV→Bool):av h a k=bK (dL h false n a) k:=by
 cases a<;>try rfl
 rename_i id g i o;show AQ h id _=_;simp only[xA,dL];cases h.row id with
 |none=>rfl
 |some r=>
  simp only;rw[nM];show kM (Nat.ble r.m g) (yX r.es i _) false=_;rw[rD];cases nth r.es i with
  |none=>rfl
  |some e=>
   simp only[mM,cond_false];show kM (Nat.ble r.m g) (yX e o k) false=_;rw[rD]
def aX (h:ah) (n:Nat) (a:AV) (k:AV→Bool):Bool:=
 @AV.rec (fun _=>Bool) (fun _=>Bool) (fun _=>false) (fun _ _=>false) (fun _=>false) (fun id g i o=>AQ h id fun r=>@Bool.rec (fun _=>Bool) false (yX r.es i fun e=>kM (Nat.ble (Nat.add o n) (pq e)) (k (.agg (kM (Nat.beq (pq e) n) e (Bp n (yG o e))))) false) (Nat.ble r.m g)) (false) (fun _ _ _ _ _ _=>false) (false) (false) (fun _=>false) (false) (fun _=>false) (fun _ _ _ _ _=>false) (false) (fun _ _=>false) (fun _ _=>false) (false) (fun _ _ _=>false) (fun _ _=>false) (false) (fun _ _ _ _=>false) a
theorem aic {α:Type} (e:List α) (o n:Nat) (h:Nat.ble (o+n) e.length=true):kM (Nat.beq e.length n) e ((e.drop o).take n)=(e.drop o).take n:=by
 rw[rX];cases hb:Nat.beq e.length n with
 |false=>rfl
 |true=>
  have he:=aG.1 hb;have:=aI.1 h;have ho:o=0:=by omega
  subst ho;rw[cond_true,List.drop_zero,List.take_of_length_le (by omega)]
theorem N9 (h:ah) (n:Nat) (a:AV) (k:AV→Bool):aX h n a k=bK (dL h true n a) k:=by
 cases a<;>try rfl
 rename_i id g i o;show AQ h id _=_;simp only[xA,dL];cases h.row id with
 |none=>rfl
 |some r=>
  simp only;rw[nM];show kM (Nat.ble r.m g) (yX r.es i _) false=_;rw[rD];cases nth r.es i with
  |none=>rfl
  |some e=>
   simp only[mM,cond_true];rw[nM];show kM (Nat.ble r.m g) (kM (Nat.ble (o+n) (pq e)) _ false) false=_;rw[mJ,wU,zC];cases hb:Nat.ble (o+n) e.length with
   |false=>rfl
   |true=>rw[aic e o n hb];rfl
def Uv (v:AV):Bool:=@AV.rec (fun _=>Bool) (fun _=>Bool) (fun _=>true) (fun _ _=>true) (fun _=>true) (fun _ _ _ _=>true) (true) (fun _ _ _ _ _ _=>true) (true) (true) (fun _=>true) (true) (fun _=>true) (fun _ _ _ _ _=>true) (true) (fun _ _=>false) (fun _ _=>false) (true) (fun _ _ _=>true) (fun _ _=>true) (true) (fun _ _ _ _=>true) v
theorem Mq (v:AV):Uv v=v.leaf:=by cases v<;>rfl
def aaL (h:ah) (a v:AV) (k:ah→Bool):Bool:=bK (bM h 1 a v) k
def aV (h:ah) (a v:AV) (k:ah→Bool):Bool:=
 kM (Uv v) (@AV.rec (fun _=>Bool) (fun _=>Bool) (fun _=>false) (fun _ _=>false) (fun _=>false) (fun id g i o=>AQ h id fun r=>kM r.rw (kM (Nat.beq g r.g) (yX r.es i fun e=>yX e o fun _=>k {sz:=h.sz,t:=h.t.set id ((.row {es:=Jg r.es i (Jg e o v),sz:=r.sz,g:=r.g,m:=r.g,rw:=r.rw,ty:=r.ty}))}) false) false) (false) (fun _ _ _ _ _ _=>false) (false) (false) (fun _=>false) (false) (fun _=>false) (fun _ _ _ _ _=>false) (false) (fun _ _=>false) (fun _ _=>false) (false) (fun _ _ _=>false) (fun _ _=>false) (false) (fun _ _ _ _=>false) a) (aaL h a v k)
theorem YQ {α:Type} {v:α}:∀(e:List α) (o:Nat),(∃x,nth e o=some x)→lay e o [v]=mI e o v
 | [],o,h=>by obtain⟨x,h⟩:=h;cases h
 |y :: e,0,h=>by simp[lay,mI]
 |y :: e,o+1,h=>by
  have ih:=YQ (v:=v) e o h;simp only[lay,List.take_succ_cons,List.cons_append,mI];rw[←ih];simp only[lay,List.length_cons,List.length_nil];congr 2
theorem aeG {α:Type}:∀(e:List α) (o:Nat),(nth e o=none∧¬o<e.length)∨(∃x,nth e o=some x)∧o<e.length
 | [],o=> .inl ⟨rfl,by simp⟩
 |y :: e,0=> .inr ⟨⟨y,rfl⟩,by simp⟩
 |y :: e,o+1=>by
  rcases aeG e o with⟨h1,h2⟩|⟨h1,h2⟩
  ·exact .inl ⟨h1,by simp;omega⟩
  ·exact .inr ⟨h1,by simp;omega⟩
theorem Nn {v:AV} (h:v.leaf=true):v.cells=[v]:=by cases v<;>first |rfl |cases h
theorem Pn (h:ah) (a v:AV) (k:ah→Bool):aV h a v k=bK (bM h 1 a v) k:=by
 unfold aV;rw[rX,Mq];cases hl:v.leaf with
 |false=>rfl
 |true=>
  rw[cond_true];cases a<;>try rfl
  rename_i id g i o;have hc:=Nn hl;have hcl:Nat.beq v.cells.length 1=true:=by rw[hc];rfl
  have hal:aB v.cells=true:=by rw[hc];simp[aB,hl]
  show AQ h id _=_;simp only[xA,bM,hcl,hal];cases h.row id with
  |none=>rfl
  |some r=>
   show kM r.rw (kM (Nat.beq g r.g) (yX r.es i _) false) false=_;simp only[Bool.and_true];rw[nM,rD];cases hrw:r.rw with
   |false=>rfl
   |true=>
    cases hg:Nat.beq g r.g with
    |false=>rfl
    |true=>
     show bK (nth r.es i) _=bK _ k;cases nth r.es i with
     |none=>rfl
     |some e=>
      simp only;show yX e o _=_;rw[rD,nM];rcases aeG e o with⟨h1,h2⟩|⟨⟨x,h1⟩,h2⟩
      ·have:Nat.ble (o+1) e.length=false:=by
        cases hb:Nat.ble (o+1) e.length with
        |false=>rfl
        |true=>have:=aI.1 hb;omega
       rw[h1,this];rfl
      ·have:Nat.ble (o+1) e.length=true:=aI.2 h2;rw[this,h1];show k _=k _;rw[hc,YQ e o ⟨x,h1⟩,xS,xS];congr 1
def qC (v:AV):List AV:=@AV.rec (fun _=>List AV) (fun _=>List AV) (fun _=>[v]) (fun _ _=>[v]) (fun _=>[v]) (fun _ _ _ _=>[v]) ([v]) (fun _ _ _ _ _ _=>[v]) ([v]) ([v]) (fun _=>[v]) ([v]) (fun _=>[v]) (fun _ _ _ _ _=>[v]) ([v]) (fun l _=>l) (fun _ _=>[v]) ([v]) (fun _ _ _=>[v]) (fun _ _=>[v]) ([v]) (fun _ _ _ _=>[v]) v
theorem OI (v:AV):qC v=v.cells:=by cases v<;>rfl
def wM (l:List AV):Bool:=@List.rec AV (fun _=>Bool) true (fun v _ r=>kM (Uv v) r false) l
theorem yI:∀l:List AV,wM l=aB l
 | []=>rfl
 |x :: l=>by
  show kM (Uv x) (wM l) false=_;rw[rX,Mq,yI l];rfl
def Pq {α:Type} (new:List α) (o:Nat):List α→List α:=
 @Nat.rec (fun _=>List α→List α) (fun e=>WG new (yG (pq new) e)) (fun _ ih e=>@List.rec α (fun _=>List α) [] (fun x l _=>x :: ih l) e) o
theorem J3 {α:Type} {new:List α}:∀(o:Nat) (e:List α),o≤e.length→Pq new o e=lay e o new
 |0,e,_=>by
  show WG new (yG (pq new) e)=_;rw[Et,wU,mJ];simp[lay]
 |o+1,[],h=>by simp at h
 |o+1,x :: e,h=>by
  show x :: Pq new o e=_;rw[J3 o e (by simpa using h)];simp only[lay,List.take_succ_cons,List.cons_append];rw[show o+1+new.length=(o+new.length)+1 by omega,List.drop_succ_cons]
def aL (h:ah) (n:Nat) (a v:AV) (k:ah→Bool):Bool:=
 @AV.rec (fun _=>Bool) (fun _=>Bool) (fun _=>false) (fun _ _=>false) (fun _=>false) (fun id g i o=>AQ h id fun r=>kM r.rw (kM (Nat.beq g r.g) (kM (Nat.beq (pq (qC v)) n) (kM (wM (qC v)) (yX r.es i fun e=>kM (Nat.ble (o+n) (pq e)) (k {sz:=h.sz,t:=h.t.set id (.row {es:=Jg r.es i (kM (Nat.beq (pq e) n) (qC v) (Pq (qC v) o e)),sz:=r.sz,g:=r.g,m:=r.g,rw:=r.rw,ty:=r.ty})}) false) false) false) false) false) (false) (fun _ _ _ _ _ _=>false) (false) (false) (fun _=>false) (false) (fun _=>false) (fun _ _ _ _ _=>false) (false) (fun _ _=>false) (fun _ _=>false) (false) (fun _ _ _=>false) (fun _ _=>false) (false) (fun _ _ _ _=>false) a
theorem Kg (h:ah) (n:Nat) (a v:AV) (k:ah→Bool) (hn:Nat.beq n 0=false):aL h n a v k=bK (bM h n a v) k:=by
 unfold aL;cases a<;>try rfl
 rename_i id g i o;show AQ h id _=_;simp only[xA,bM];cases h.row id with
 |none=>simp only[hn,Bool.false_and,cond_false];rfl
 |some r=>
  show kM r.rw (kM (Nat.beq g r.g) (kM (Nat.beq (pq (qC v)) n) (kM (wM (qC v)) (yX r.es i _) false) false) false) false=_;simp only;rw[nM,OI,mJ,yI,rD];cases hrw:r.rw with
  |false=>rfl
  |true=>
  cases hg:Nat.beq g r.g with
  |false=>rfl
  |true=>
  cases hl:Nat.beq v.cells.length n with
  |false=>rfl
  |true=>
  cases ha:aB v.cells with
  |false=>rfl
  |true=>
  show bK (nth r.es i) _=bK _ k;cases nth r.es i with
  |none=>rfl
  |some e=>
   show kM (Nat.ble (o+n) (pq e)) _ false=bK (bif Nat.ble (o+n) e.length then _ else none) k;rw[nM,mJ];cases hb:Nat.ble (o+n) e.length with
   |false=>rfl
   |true=>
    show k _=k _;have hb:=aI.1 hb;have hl:=aG.1 hl;have e1:kM (Nat.beq e.length n) v.cells (Pq v.cells o e)=lay e o v.cells:=by
     rw[rX];cases he:Nat.beq e.length n with
     |false=>exact J3 o e (by omega)
     |true=>
      have he:=aG.1 he;have ho:o=0:=by omega
      subst ho;simp only[cond_true,lay,List.take_zero,List.nil_append,Nat.zero_add];rw[hl,List.drop_of_length_le (by omega),List.append_nil]
    rw[e1,xS];congr 1
def bL (h:ah) (z:List AV) (n:Nat) (k:aK):Bool:=k (.ptr h.sz 0 0 0) (h.pushR (.row {es:=[z],sz:=n,g:=0,m:=0,rw:=true}))
theorem Oo (h:ah) (z:List AV) (k:aK) (h0:Nat.beq z.length 0=false) (hl:aB z=true):bL h z z.length k=aQ (qR h z) k:=by
 simp only[bL,ah.pushR_eq,qR,h0,hl,cond_false,cond_true];rfl
def Ct (h:ah) (v:AV) (k:aK):Bool:=kM (Uv v) (k (.ptr h.sz 0 0 0) (h.pushR (.row {es:=[[v]],sz:=1,g:=0,m:=0,rw:=true}))) (aQ (mo h none 1 v) k)
theorem Zy (h:ah) (v:AV) (k:aK):Ct h v k=aQ (mo h none 1 v) k:=by
 unfold Ct;rw[rX,Mq,ah.pushR_eq];cases hl:v.leaf with
 |false=>rfl
 |true=>
  have hc:=Nn hl;simp only[cond_true,mo,hc,List.length_singleton,aB,hl];rfl
def aj (op:BinOp) (x y:AV) (k:AV→Bool):Bool:=bK (dV op x y) k
def qw (a b:IntKind):Bool:=Nat.beq (nE a) (nE b)
def agl (l:List Nat):List Nat→Bool:=
 @List.rec Nat (fun _=>List Nat→Bool) (fun m=>@List.rec Nat (fun _=>Bool) true (fun _ _ _=>false) m) (fun a _ ih m=>@List.rec Nat (fun _=>Bool) false (fun b m _=>@Bool.rec (fun _=>Bool) false (ih m) (Nat.beq a b)) m) l
theorem RH:∀(l m:List Nat),agl l m=FV l m
 | [],[]=>rfl
 | [],_ :: _=>rfl
 |_ :: _,[]=>rfl
 |a :: l,b :: m=>by
  show(@Bool.rec (fun _=>Bool) false (agl l m) (Nat.beq a b))=_;rw[RH l m];simp only[FV];cases Nat.beq a b<;>rfl
def dQ (x y:AV) (k:AV→Bool):Bool:=
 @AV.rec (fun _=>Bool) (fun _=>Bool) (fun _=>aj .eql x y k) (fun kd m=>@Int.rec (fun _=>Bool) (fun m'=>@AV.rec (fun _=>Bool) (fun _=>Bool) (fun _=>aj .eql x y k) (fun j n=>@Int.rec (fun _=>Bool) (fun n'=>@Bool.rec (fun _=>Bool) (aj .eql x y k) (k (.bool (Nat.beq m' n'))) (qw kd j)) (fun _=>aj .eql x y k) n) (fun _=>aj .eql x y k) (fun _ _ _ _=>aj .eql x y k) (aj .eql x y k) (fun _ _ _ _ _ _=>aj .eql x y k) (aj .eql x y k) (aj .eql x y k) (fun _=>aj .eql x y k) (aj .eql x y k) (fun _=>aj .eql x y k) (fun _ _ _ _ _=>aj .eql x y k) (aj .eql x y k) (fun _ _=>aj .eql x y k) (fun _ _=>aj .eql x y k) (aj .eql x y k) (fun _ _ _=>aj .eql x y k) (fun _ _=>aj .eql x y k) (aj .eql x y k) (fun _ _ _ _=>aj .eql x y k) y) (fun _=>aj .eql x y k) m) (fun s=>@AV.rec (fun _=>Bool) (fun _=>Bool) (fun _=>aj .eql x y k) (fun _ _=>aj .eql x y k) (fun t=>k (.bool (agl s t))) (fun _ _ _ _=>aj .eql x y k) (aj .eql x y k) (fun _ _ _ _ _ _=>aj .eql x y k) (aj .eql x y k) (aj .eql x y k) (fun _=>aj .eql x y k) (aj .eql x y k) (fun _=>aj .eql x y k) (fun _ _ _ _ _=>aj .eql x y k) (aj .eql x y k) (fun _ _=>aj .eql x y k) (fun _ _=>aj .eql x y k) (aj .eql x y k) (fun _ _ _=>aj .eql x y k) (fun _ _=>aj .eql x y k) (aj .eql x y k) (fun _ _ _ _=>aj .eql x y k) y) (fun _ _ _ _=>aj .eql x y k) (aj .eql x y k) (fun _ _ _ _ _ _=>aj .eql x y k) (aj .eql x y k) (aj .eql x y k) (fun _=>aj .eql x y k) (aj .eql x y k) (fun _=>aj .eql x y k) (fun _ _ _ _ _=>aj .eql x y k) (aj .eql x y k) (fun _ _=>aj .eql x y k) (fun _ _=>aj .eql x y k) (aj .eql x y k) (fun _ _ _=>aj .eql x y k) (fun _ _=>aj .eql x y k) (aj .eql x y k) (fun _ _ _ _=>aj .eql x y k) x
def qO (x y:AV) (k:AV→Bool):Bool:=
 @AV.rec (fun _=>Bool) (fun _=>Bool) (fun _=>aj .neq x y k) (fun kd m=>@Int.rec (fun _=>Bool) (fun m'=>@AV.rec (fun _=>Bool) (fun _=>Bool) (fun _=>aj .neq x y k) (fun j n=>@Int.rec (fun _=>Bool) (fun n'=>@Bool.rec (fun _=>Bool) (aj .neq x y k) (k (.bool (@Bool.rec (fun _=>Bool) true false (Nat.beq m' n')))) (qw kd j)) (fun _=>aj .neq x y k) n) (fun _=>aj .neq x y k) (fun _ _ _ _=>aj .neq x y k) (aj .neq x y k) (fun _ _ _ _ _ _=>aj .neq x y k) (aj .neq x y k) (aj .neq x y k) (fun _=>aj .neq x y k) (aj .neq x y k) (fun _=>aj .neq x y k) (fun _ _ _ _ _=>aj .neq x y k) (aj .neq x y k) (fun _ _=>aj .neq x y k) (fun _ _=>aj .neq x y k) (aj .neq x y k) (fun _ _ _=>aj .neq x y k) (fun _ _=>aj .neq x y k) (aj .neq x y k) (fun _ _ _ _=>aj .neq x y k) y) (fun _=>aj .neq x y k) m) (fun s=>@AV.rec (fun _=>Bool) (fun _=>Bool) (fun _=>aj .neq x y k) (fun _ _=>aj .neq x y k) (fun t=>k (.bool (@Bool.rec (fun _=>Bool) true false (agl s t)))) (fun _ _ _ _=>aj .neq x y k) (aj .neq x y k) (fun _ _ _ _ _ _=>aj .neq x y k) (aj .neq x y k) (aj .neq x y k) (fun _=>aj .neq x y k) (aj .neq x y k) (fun _=>aj .neq x y k) (fun _ _ _ _ _=>aj .neq x y k) (aj .neq x y k) (fun _ _=>aj .neq x y k) (fun _ _=>aj .neq x y k) (aj .neq x y k) (fun _ _ _=>aj .neq x y k) (fun _ _=>aj .neq x y k) (aj .neq x y k) (fun _ _ _ _=>aj .neq x y k) y) (fun _ _ _ _=>aj .neq x y k) (aj .neq x y k) (fun _ _ _ _ _ _=>aj .neq x y k) (aj .neq x y k) (aj .neq x y k) (fun _=>aj .neq x y k) (aj .neq x y k) (fun _=>aj .neq x y k) (fun _ _ _ _ _=>aj .neq x y k) (aj .neq x y k) (fun _ _=>aj .neq x y k) (fun _ _=>aj .neq x y k) (aj .neq x y k) (fun _ _ _=>aj .neq x y k) (fun _ _=>aj .neq x y k) (aj .neq x y k) (fun _ _ _ _=>aj .neq x y k) x
def jL (x y:AV) (k:AV→Bool):Bool:=
 @AV.rec (fun _=>Bool) (fun _=>Bool) (fun _=>aj .lss x y k) (fun kd m=>@Int.rec (fun _=>Bool) (fun m'=>@AV.rec (fun _=>Bool) (fun _=>Bool) (fun _=>aj .lss x y k) (fun j n=>@Int.rec (fun _=>Bool) (fun n'=>@Bool.rec (fun _=>Bool) (aj .lss x y k) (k (.bool (Nat.ble (Nat.succ m') n'))) (qw kd j)) (fun _=>aj .lss x y k) n) (fun _=>aj .lss x y k) (fun _ _ _ _=>aj .lss x y k) (aj .lss x y k) (fun _ _ _ _ _ _=>aj .lss x y k) (aj .lss x y k) (aj .lss x y k) (fun _=>aj .lss x y k) (aj .lss x y k) (fun _=>aj .lss x y k) (fun _ _ _ _ _=>aj .lss x y k) (aj .lss x y k) (fun _ _=>aj .lss x y k) (fun _ _=>aj .lss x y k) (aj .lss x y k) (fun _ _ _=>aj .lss x y k) (fun _ _=>aj .lss x y k) (aj .lss x y k) (fun _ _ _ _=>aj .lss x y k) y) (fun _=>aj .lss x y k) m) (fun _=>aj .lss x y k) (fun _ _ _ _=>aj .lss x y k) (aj .lss x y k) (fun _ _ _ _ _ _=>aj .lss x y k) (aj .lss x y k) (aj .lss x y k) (fun _=>aj .lss x y k) (aj .lss x y k) (fun _=>aj .lss x y k) (fun _ _ _ _ _=>aj .lss x y k) (aj .lss x y k) (fun _ _=>aj .lss x y k) (fun _ _=>aj .lss x y k) (aj .lss x y k) (fun _ _ _=>aj .lss x y k) (fun _ _=>aj .lss x y k) (aj .lss x y k) (fun _ _ _ _=>aj .lss x y k) x
def G7 (x y:AV) (k:AV→Bool):Bool:=
 @AV.rec (fun _=>Bool) (fun _=>Bool) (fun _=>aj .leq x y k) (fun kd m=>@Int.rec (fun _=>Bool) (fun m'=>@AV.rec (fun _=>Bool) (fun _=>Bool) (fun _=>aj .leq x y k) (fun j n=>@Int.rec (fun _=>Bool) (fun n'=>@Bool.rec (fun _=>Bool) (aj .leq x y k) (k (.bool (Nat.ble m' n'))) (qw kd j)) (fun _=>aj .leq x y k) n) (fun _=>aj .leq x y k) (fun _ _ _ _=>aj .leq x y k) (aj .leq x y k) (fun _ _ _ _ _ _=>aj .leq x y k) (aj .leq x y k) (aj .leq x y k) (fun _=>aj .leq x y k) (aj .leq x y k) (fun _=>aj .leq x y k) (fun _ _ _ _ _=>aj .leq x y k) (aj .leq x y k) (fun _ _=>aj .leq x y k) (fun _ _=>aj .leq x y k) (aj .leq x y k) (fun _ _ _=>aj .leq x y k) (fun _ _=>aj .leq x y k) (aj .leq x y k) (fun _ _ _ _=>aj .leq x y k) y) (fun _=>aj .leq x y k) m) (fun _=>aj .leq x y k) (fun _ _ _ _=>aj .leq x y k) (aj .leq x y k) (fun _ _ _ _ _ _=>aj .leq x y k) (aj .leq x y k) (aj .leq x y k) (fun _=>aj .leq x y k) (aj .leq x y k) (fun _=>aj .leq x y k) (fun _ _ _ _ _=>aj .leq x y k) (aj .leq x y k) (fun _ _=>aj .leq x y k) (fun _ _=>aj .leq x y k) (aj .leq x y k) (fun _ _ _=>aj .leq x y k) (fun _ _=>aj .leq x y k) (aj .leq x y k) (fun _ _ _ _=>aj .leq x y k) x
def Ca (x y:AV) (k:AV→Bool):Bool:=
 @AV.rec (fun _=>Bool) (fun _=>Bool) (fun _=>aj .gtr x y k) (fun kd m=>@Int.rec (fun _=>Bool) (fun m'=>@AV.rec (fun _=>Bool) (fun _=>Bool) (fun _=>aj .gtr x y k) (fun j n=>@Int.rec (fun _=>Bool) (fun n'=>@Bool.rec (fun _=>Bool) (aj .gtr x y k) (k (.bool (Nat.ble (Nat.succ n') m'))) (qw kd j)) (fun _=>aj .gtr x y k) n) (fun _=>aj .gtr x y k) (fun _ _ _ _=>aj .gtr x y k) (aj .gtr x y k) (fun _ _ _ _ _ _=>aj .gtr x y k) (aj .gtr x y k) (aj .gtr x y k) (fun _=>aj .gtr x y k) (aj .gtr x y k) (fun _=>aj .gtr x y k) (fun _ _ _ _ _=>aj .gtr x y k) (aj .gtr x y k) (fun _ _=>aj .gtr x y k) (fun _ _=>aj .gtr x y k) (aj .gtr x y k) (fun _ _ _=>aj .gtr x y k) (fun _ _=>aj .gtr x y k) (aj .gtr x y k) (fun _ _ _ _=>aj .gtr x y k) y) (fun _=>aj .gtr x y k) m) (fun _=>aj .gtr x y k) (fun _ _ _ _=>aj .gtr x y k) (aj .gtr x y k) (fun _ _ _ _ _ _=>aj .gtr x y k) (aj .gtr x y k) (aj .gtr x y k) (fun _=>aj .gtr x y k) (aj .gtr x y k) (fun _=>aj .gtr x y k) (fun _ _ _ _ _=>aj .gtr x y k) (aj .gtr x y k) (fun _ _=>aj .gtr x y k) (fun _ _=>aj .gtr x y k) (aj .gtr x y k) (fun _ _ _=>aj .gtr x y k) (fun _ _=>aj .gtr x y k) (aj .gtr x y k) (fun _ _ _ _=>aj .gtr x y k) x
def CF (x y:AV) (k:AV→Bool):Bool:=
 @AV.rec (fun _=>Bool) (fun _=>Bool) (fun _=>aj .geq x y k) (fun kd m=>@Int.rec (fun _=>Bool) (fun m'=>@AV.rec (fun _=>Bool) (fun _=>Bool) (fun _=>aj .geq x y k) (fun j n=>@Int.rec (fun _=>Bool) (fun n'=>@Bool.rec (fun _=>Bool) (aj .geq x y k) (k (.bool (Nat.ble n' m'))) (qw kd j)) (fun _=>aj .geq x y k) n) (fun _=>aj .geq x y k) (fun _ _ _ _=>aj .geq x y k) (aj .geq x y k) (fun _ _ _ _ _ _=>aj .geq x y k) (aj .geq x y k) (aj .geq x y k) (fun _=>aj .geq x y k) (aj .geq x y k) (fun _=>aj .geq x y k) (fun _ _ _ _ _=>aj .geq x y k) (aj .geq x y k) (fun _ _=>aj .geq x y k) (fun _ _=>aj .geq x y k) (aj .geq x y k) (fun _ _ _=>aj .geq x y k) (fun _ _=>aj .geq x y k) (aj .geq x y k) (fun _ _ _ _=>aj .geq x y k) y) (fun _=>aj .geq x y k) m) (fun _=>aj .geq x y k) (fun _ _ _ _=>aj .geq x y k) (aj .geq x y k) (fun _ _ _ _ _ _=>aj .geq x y k) (aj .geq x y k) (aj .geq x y k) (fun _=>aj .geq x y k) (aj .geq x y k) (fun _=>aj .geq x y k) (fun _ _ _ _ _=>aj .geq x y k) (aj .geq x y k) (fun _ _=>aj .geq x y k) (fun _ _=>aj .geq x y k) (aj .geq x y k) (fun _ _ _=>aj .geq x y k) (fun _ _=>aj .geq x y k) (aj .geq x y k) (fun _ _ _ _=>aj .geq x y k) x
def eG (x y:AV) (k:AV→Bool):Bool:=
 @AV.rec (fun _=>Bool) (fun _=>Bool) (fun _=>aj .add x y k) (fun kd m=>@IntKind.rec (fun _=>Bool) (aj .add x y k) (aj .add x y k) (aj .add x y k) (@Int.rec (fun _=>Bool) (fun m'=>@AV.rec (fun _=>Bool) (fun _=>Bool) (fun _=>aj .add x y k) (fun j n=>@IntKind.rec (fun _=>Bool) (aj .add x y k) (aj .add x y k) (aj .add x y k) (@Int.rec (fun _=>Bool) (fun n'=>@Bool.rec (fun _=>Bool) (aj .add x y k) (k (.int .i64 (.ofNat (Nat.add m' n')))) (Nat.ble (Nat.add m' n') 9223372036854775807)) (fun _=>aj .add x y k) n) (aj .add x y k) (aj .add x y k) (aj .add x y k) (aj .add x y k) j) (fun _=>aj .add x y k) (fun _ _ _ _=>aj .add x y k) (aj .add x y k) (fun _ _ _ _ _ _=>aj .add x y k) (aj .add x y k) (aj .add x y k) (fun _=>aj .add x y k) (aj .add x y k) (fun _=>aj .add x y k) (fun _ _ _ _ _=>aj .add x y k) (aj .add x y k) (fun _ _=>aj .add x y k) (fun _ _=>aj .add x y k) (aj .add x y k) (fun _ _ _=>aj .add x y k) (fun _ _=>aj .add x y k) (aj .add x y k) (fun _ _ _ _=>aj .add x y k) y) (fun _=>aj .add x y k) m) (aj .add x y k) (aj .add x y k) (aj .add x y k) (aj .add x y k) kd) (fun _=>aj .add x y k) (fun _ _ _ _=>aj .add x y k) (aj .add x y k) (fun _ _ _ _ _ _=>aj .add x y k) (aj .add x y k) (aj .add x y k) (fun _=>aj .add x y k) (aj .add x y k) (fun _=>aj .add x y k) (fun _ _ _ _ _=>aj .add x y k) (aj .add x y k) (fun _ _=>aj .add x y k) (fun _ _=>aj .add x y k) (aj .add x y k) (fun _ _ _=>aj .add x y k) (fun _ _=>aj .add x y k) (aj .add x y k) (fun _ _ _ _=>aj .add x y k) x
def FE (x y:AV) (k:AV→Bool):Bool:=
 @AV.rec (fun _=>Bool) (fun _=>Bool) (fun _=>aj .sub x y k) (fun kd m=>@IntKind.rec (fun _=>Bool) (aj .sub x y k) (aj .sub x y k) (aj .sub x y k) (@Int.rec (fun _=>Bool) (fun m'=>@AV.rec (fun _=>Bool) (fun _=>Bool) (fun _=>aj .sub x y k) (fun j n=>@IntKind.rec (fun _=>Bool) (aj .sub x y k) (aj .sub x y k) (aj .sub x y k) (@Int.rec (fun _=>Bool) (fun n'=>@Bool.rec (fun _=>Bool) (aj .sub x y k) (k (.int .i64 (.ofNat (Nat.sub m' n')))) (and (Nat.ble n' m') (Nat.ble m' 9223372036854775807))) (fun _=>aj .sub x y k) n) (aj .sub x y k) (aj .sub x y k) (aj .sub x y k) (aj .sub x y k) j) (fun _=>aj .sub x y k) (fun _ _ _ _=>aj .sub x y k) (aj .sub x y k) (fun _ _ _ _ _ _=>aj .sub x y k) (aj .sub x y k) (aj .sub x y k) (fun _=>aj .sub x y k) (aj .sub x y k) (fun _=>aj .sub x y k) (fun _ _ _ _ _=>aj .sub x y k) (aj .sub x y k) (fun _ _=>aj .sub x y k) (fun _ _=>aj .sub x y k) (aj .sub x y k) (fun _ _ _=>aj .sub x y k) (fun _ _=>aj .sub x y k) (aj .sub x y k) (fun _ _ _ _=>aj .sub x y k) y) (fun _=>aj .sub x y k) m) (aj .sub x y k) (aj .sub x y k) (aj .sub x y k) (aj .sub x y k) kd) (fun _=>aj .sub x y k) (fun _ _ _ _=>aj .sub x y k) (aj .sub x y k) (fun _ _ _ _ _ _=>aj .sub x y k) (aj .sub x y k) (aj .sub x y k) (fun _=>aj .sub x y k) (aj .sub x y k) (fun _=>aj .sub x y k) (fun _ _ _ _ _=>aj .sub x y k) (aj .sub x y k) (fun _ _=>aj .sub x y k) (fun _ _=>aj .sub x y k) (aj .sub x y k) (fun _ _ _=>aj .sub x y k) (fun _ _=>aj .sub x y k) (aj .sub x y k) (fun _ _ _ _=>aj .sub x y k) x
theorem wS (a b:Nat):Nat.ble (Nat.succ a) b=Nat.blt a b:=rfl
theorem zS (a b:Nat):Nat.ble a b= !Nat.blt b a:=by
 cases h:Nat.ble a b with
 |true=>have:=aI.1 h;cases h2:Nat.blt b a with
  |true=>have:=bC.1 h2;omega
  |false=>rfl
 |false=>
  have:¬a≤b:=fun e=>by rw[aI.2 e] at h;cases h
  rw[bC.2 (by omega:b<a)];rfl
theorem vC (b:Bool):(@Bool.rec (fun _=>Bool) true false b)= !b:=by cases b<;>rfl
theorem YJ (x y:AV) (k:AV→Bool):dQ x y k=bK (dV .eql x y) k:=by
 cases x with
 |int kd m=>
  cases m with
  |negSucc m=>rfl
  |ofNat m=>
   cases y with
   |int j n=>
    cases n with
    |negSucc n=>rfl
    |ofNat n=>
     show(@Bool.rec (fun _=>Bool) (aj .eql (.int kd (.ofNat m)) (.int j (.ofNat n)) k) _ (qw kd j))=_;cases hk:qw kd j with
     |false=>rfl
     |true=>
      have hk:Nat.beq (nE kd) (nE j)=true:=hk;show k _=_;simp only[dV,nR,cond_false,hk,cond_true,lQ,y9,xH,wS,zS,vC]
      try rfl
   |_=>rfl
 |str s=>
  cases y<;>try rfl
  rename_i t;show k _=_;simp only[dV,Dl,RH,vC];rfl
 |_=>rfl
theorem Z4 (x y:AV) (k:AV→Bool):qO x y k=bK (dV .neq x y) k:=by
 cases x with
 |int kd m=>
  cases m with
  |negSucc m=>rfl
  |ofNat m=>
   cases y with
   |int j n=>
    cases n with
    |negSucc n=>rfl
    |ofNat n=>
     show(@Bool.rec (fun _=>Bool) (aj .neq (.int kd (.ofNat m)) (.int j (.ofNat n)) k) _ (qw kd j))=_;cases hk:qw kd j with
     |false=>rfl
     |true=>
      have hk:Nat.beq (nE kd) (nE j)=true:=hk;show k _=_;simp only[dV,nR,cond_false,hk,cond_true,lQ,y9,xH,wS,zS,vC]
      try rfl
   |_=>rfl
 |str s=>
  cases y<;>try rfl
  rename_i t;show k _=_;simp only[dV,Dl,RH,vC];rfl
 |_=>rfl
theorem Zw (x y:AV) (k:AV→Bool):jL x y k=bK (dV .lss x y) k:=by
 cases x with
 |int kd m=>
  cases m with
  |negSucc m=>rfl
  |ofNat m=>
   cases y with
   |int j n=>
    cases n with
    |negSucc n=>rfl
    |ofNat n=>
     show(@Bool.rec (fun _=>Bool) (aj .lss (.int kd (.ofNat m)) (.int j (.ofNat n)) k) _ (qw kd j))=_;cases hk:qw kd j with
     |false=>rfl
     |true=>
      have hk:Nat.beq (nE kd) (nE j)=true:=hk;show k _=_;simp only[dV,nR,cond_false,hk,cond_true,lQ,y9,xH,wS,zS,vC]
      try rfl
   |_=>rfl
 |_=>rfl
theorem Y6 (x y:AV) (k:AV→Bool):G7 x y k=bK (dV .leq x y) k:=by
 cases x with
 |int kd m=>
  cases m with
  |negSucc m=>rfl
  |ofNat m=>
   cases y with
   |int j n=>
    cases n with
    |negSucc n=>rfl
    |ofNat n=>
     show(@Bool.rec (fun _=>Bool) (aj .leq (.int kd (.ofNat m)) (.int j (.ofNat n)) k) _ (qw kd j))=_;cases hk:qw kd j with
     |false=>rfl
     |true=>
      have hk:Nat.beq (nE kd) (nE j)=true:=hk;show k _=_;simp only[dV,nR,cond_false,hk,cond_true,lQ,y9,xH,wS,zS,vC]
      try rfl
   |_=>rfl
 |_=>rfl
theorem Zz (x y:AV) (k:AV→Bool):Ca x y k=bK (dV .gtr x y) k:=by
 cases x with
 |int kd m=>
  cases m with
  |negSucc m=>rfl
  |ofNat m=>
   cases y with
   |int j n=>
    cases n with
    |negSucc n=>rfl
    |ofNat n=>
     show(@Bool.rec (fun _=>Bool) (aj .gtr (.int kd (.ofNat m)) (.int j (.ofNat n)) k) _ (qw kd j))=_;cases hk:qw kd j with
     |false=>rfl
     |true=>
      have hk:Nat.beq (nE kd) (nE j)=true:=hk;show k _=_;simp only[dV,nR,cond_false,hk,cond_true,lQ,y9,xH,wS,zS,vC]
      try rfl
   |_=>rfl
 |_=>rfl
theorem ZT (x y:AV) (k:AV→Bool):CF x y k=bK (dV .geq x y) k:=by
 cases x with
 |int kd m=>
  cases m with
  |negSucc m=>rfl
  |ofNat m=>
   cases y with
   |int j n=>
    cases n with
    |negSucc n=>rfl
    |ofNat n=>
     show(@Bool.rec (fun _=>Bool) (aj .geq (.int kd (.ofNat m)) (.int j (.ofNat n)) k) _ (qw kd j))=_;cases hk:qw kd j with
     |false=>rfl
     |true=>
      have hk:Nat.beq (nE kd) (nE j)=true:=hk;show k _=_;simp only[dV,nR,cond_false,hk,cond_true,lQ,y9,xH,wS,zS,vC]
      try rfl
   |_=>rfl
 |_=>rfl
theorem YS (x y:AV) (k:AV→Bool):eG x y k=bK (dV .add x y) k:=by
 cases x with
 |int kd m=>
  cases kd with
  |i64=>
   cases m with
   |negSucc m=>rfl
   |ofNat m=>
    cases y with
    |int j n=>
     cases j with
     |i64=>
      cases n with
      |negSucc n=>rfl
      |ofNat n=>
       show(@Bool.rec (fun _=>Bool) (aj .add (.int .i64 (.ofNat m)) (.int .i64 (.ofNat n)) k) _ _)=_;cases hb:Nat.ble (Nat.add m n) 9223372036854775807 with
       |false=>rfl
       |true=>
        show k _=_;have:(Int.ofNat m+Int.ofNat n)=Int.ofNat (Nat.add m n):=rfl;simp only[dV,nR,cond_false,nE,lQ,this,sH,IB,hb,cond_true];rfl
     |_=>rfl
    |_=>rfl
  |_=>rfl
 |_=>rfl
theorem Ze (x y:AV) (k:AV→Bool):FE x y k=bK (dV .sub x y) k:=by
 cases x with
 |int kd m=>
  cases kd with
  |i64=>
   cases m with
   |negSucc m=>rfl
   |ofNat m=>
    cases y with
    |int j n=>
     cases j with
     |i64=>
      cases n with
      |negSucc n=>rfl
      |ofNat n=>
       show(@Bool.rec (fun _=>Bool) (aj .sub (.int .i64 (.ofNat m)) (.int .i64 (.ofNat n)) k) _ _)=_;cases hb:and (Nat.ble n m) (Nat.ble m 9223372036854775807) with
       |false=>rfl
       |true=>
        rw[Bool.and_eq_true] at hb;have h1:=aI.1 hb.1;have h2:=aI.1 hb.2;show k _=_;have e:(Int.ofNat m-Int.ofNat n)=Int.ofNat (Nat.sub m n):=by
         show((m:Int)-(n:Int))=((m-n:Nat):Int);omega
        have e2:Nat.ble (Nat.sub m n) 9223372036854775807=true:=aI.2 (by show m-n≤_;omega);simp only[dV,nR,cond_false,nE,lQ,e,sH,IB,e2,cond_true];rfl
     |_=>rfl
    |_=>rfl
  |_=>rfl
 |_=>rfl
def dA (c a b:AV) (k:AV→Bool):Bool:=
 @AV.rec (fun _=>Bool) (fun _=>Bool) (fun x=>k (@Bool.rec (fun _=>AV) b a x)) (fun _ _=>false) (fun _=>false) (fun _ _ _ _=>false) (false) (fun _ _ _ _ _ _=>false) (false) (false) (fun _=>false) (false) (fun _=>false) (fun _ _ _ _ _=>false) (false) (fun _ _=>false) (fun _ _=>false) (false) (fun _ _ _=>false) (fun _ _=>false) (false) (fun _ _ _ _=>false) c
def aH (c:AV) (p q:Bool):Bool:=
 @AV.rec (fun _=>Bool) (fun _=>Bool) (fun x=>@Bool.rec (fun _=>Bool) q p x) (fun _ _=>false) (fun _=>false) (fun _ _ _ _=>false) (false) (fun _ _ _ _ _ _=>false) (false) (false) (fun _=>false) (false) (fun _=>false) (fun _ _ _ _ _=>false) (false) (fun _ _=>false) (fun _ _=>false) (false) (fun _ _ _=>false) (fun _ _=>false) (false) (fun _ _ _ _=>false) c
def lJ (x:AV) (k:AV→Bool):Bool:=
 @AV.rec (fun _=>Bool) (fun _=>Bool) (fun x=>k (.bool (@Bool.rec (fun _=>Bool) true false x))) (fun _ _=>false) (fun _=>false) (fun _ _ _ _=>false) (false) (fun _ _ _ _ _ _=>false) (false) (false) (fun _=>false) (false) (fun _=>false) (fun _ _ _ _ _=>false) (false) (fun _ _=>false) (fun _ _=>false) (false) (fun _ _ _=>false) (fun _ _=>false) (false) (fun _ _ _ _=>false) x
theorem agr (x:AV) (k:AV→Bool):lJ x k=bK (abw x) k:=by
 cases x<;>try rfl
 rename_i b;cases b<;>rfl
def bD (x:AV) (k:AV→Bool):Bool:=
 @AV.rec (fun _=>Bool) (fun _=>Bool) (fun _=>k x) (fun _ _=>k x) (fun _=>k x) (fun _ _ _ _=>k x) (false) (fun _ _ _ _ _ _=>k x) (k x) (k x) (fun _=>k x) (k x) (fun _=>k x) (fun _ _ _ _ _=>k x) (false) (fun _ _=>k x) (fun _ _=>k x) (false) (fun _ _ _=>k x) (fun _ _=>k x) (k x) (fun _ _ _ _=>k x) x
theorem aaS (x:AV) (k:AV→Bool):bD x k=bK (FT x) k:=by cases x<;>rfl
def lU (i:Nat) (x:AV) (k:AV→Bool):Bool:=
 @AV.rec (fun _=>Bool) (fun _=>Bool) (fun _=>false) (fun _ _=>false) (fun _=>false) (fun _ _ _ _=>false) (false) (fun _ _ _ _ _ _=>false) (false) (false) (fun _=>false) (false) (fun _=>false) (fun _ _ _ _ _=>false) (false) (fun _ _=>false) (fun l _=>yX l i k) (false) (fun _ _ _=>false) (fun _ _=>false) (false) (fun _ _ _ _=>false) x
theorem ZM (i:Nat) (x:AV) (k:AV→Bool):lU i x k=bK (WS i x) k:=by
 cases x<;>try rfl
 exact rD _ _ _
def pE (x:AV) (k:AV→Bool):Bool:=
 @AV.rec (fun _=>Bool) (fun _=>Bool) (fun _=>false) (fun _ _=>false) (fun s=>k (.int .i64 (.ofNat (pq s)))) (fun _ _ _ _=>false) (false) (fun _ _ _ _ _ _=>false) (false) (false) (fun _=>false) (false) (fun _=>false) (fun _ _ _ _ _=>false) (false) (fun _ _=>false) (fun _ _=>false) (false) (fun _ _ _=>false) (fun _ _=>false) (false) (fun _ _ _ _=>false) x
theorem TP (h:ah) (x:AV) (k:AV→Bool):pE x k=bK (AP h 0 x) k:=by
 cases x<;>try rfl
 show k _=k _;rw[mJ]
def fI (x:AV) (k:AV→Bool):Bool:=
 @AV.rec (fun _=>Bool) (fun _=>Bool) (fun _=>false) (fun _ _=>false) (fun _=>false) (fun _ _ _ _=>false) (false) (fun _ _ _ n _ _=>k (.int .i64 (.ofNat n))) (k (.int .i64 (.ofNat 0))) (k (.int .i64 (.ofNat 0))) (fun _=>false) (false) (fun _=>false) (fun _ _ _ _ _=>false) (false) (fun _ _=>false) (fun _ _=>false) (false) (fun _ _ _=>false) (fun _ _=>false) (false) (fun _ _ _ _=>false) x
theorem ZQ (h:ah) (x:AV) (k:AV→Bool):fI x k=bK (AP h 1 x) k:=by cases x<;>rfl
def Tq (x:AV) (k:Nat→Bool):Bool:=
 @AV.rec (fun _=>Bool) (fun _=>Bool) (fun _=>false) (fun _ n=>@Int.rec (fun _=>Bool) k (fun _=>false) n) (fun _=>false) (fun _ _ _ _=>false) (false) (fun _ _ _ _ _ _=>false) (false) (false) (fun _=>false) (false) (fun _=>false) (fun _ _ _ _ _=>false) (false) (fun _ _=>false) (fun _ _=>false) (false) (fun _ _ _=>false) (fun _ _=>false) (false) (fun _ _ _ _=>false) x
theorem Jm (x:AV) (k:Nat→Bool):Tq x k=bK (asNat x) k:=by
 cases x<;>try rfl
 rename_i n;cases n<;>rfl
def dG (h:ah) (sz:Nat) (x y:AV) (k:AV→Bool):Bool:=
 @AV.rec (fun _=>Bool) (fun _=>Bool) (fun _=>false) (fun _ _=>false) (fun _=>false) (fun _ _ _ _=>false) (false) (fun id g s len _ _=>Tq y fun i=>kM (Nat.ble (Nat.succ i) len) (AQ h id fun r=>kM (Nat.beq r.sz sz) (k (.ptr id g (Nat.add s i) 0)) false) false) (false) (false) (fun _=>false) (false) (fun _=>false) (fun _ _ _ _ _=>false) (false) (fun _ _=>false) (fun _ _=>false) (false) (fun _ _ _=>false) (fun _ _=>false) (false) (fun _ _ _ _=>false) x
theorem Vi (h:ah) (sz:Nat) (x y:AV) (k:AV→Bool):dG h sz x y k=bK (oG h sz x y) k:=by
 cases x<;>try rfl
 rename_i id g s len c ex;show Tq y _=_;rw[Jm];simp only[oG];cases asNat y with
 |none=>rfl
 |some i=>
  simp only;show kM (Nat.blt i len) (AQ h id _) false=_;rw[xA,nM,pK];cases Nat.blt i len with
  |false=>rfl
  |true=>
   cases h.row id with
   |none=>rfl
   |some r=>rfl
def air (l:List Nat):Nat→PT Nat→PT Nat:=@List.rec Nat (fun _=>Nat→PT Nat→PT Nat) (fun _ t=>t) (fun x _ ih n t=>ih (Nat.succ n) (t.set n x)) l
def ajt (l:List Nat):PT Nat:=air l 0 .lf
theorem UD:∀(l:List Nat) (n:Nat) (t:PT Nat) (i:Nat),(air l n t).get i=if n≤i then(match nth l (i-n) with |some x=>some x |none=>t.get i) else t.get i
 | [],n,t,i=>by
   show t.get i=_;simp[nth]
 |x :: l,n,t,i=>by
  show(air l (n+1) (t.set n x)).get i=_;rw[UD l (n+1) (t.set n x) i,PT.get_set];by_cases h1:n+1≤i
  ·have h3:n≤i:=by omega
   have h4:¬i=n:=by omega
   have h5:nth (x :: l) (i-n)=nth l (i-(n+1)):=by
    rw[show i-n=(i-(n+1))+1 by omega];rfl
   simp only[if_pos h1,if_pos h3,if_neg h4,h5]
  ·rw[if_neg h1];by_cases h2:i=n
   ·subst h2;simp[nth]
   ·rw[if_neg h2,if_neg (by omega)]
theorem adh (l:List Nat) (i:Nat):(ajt l).get i=nth l i:=by
 unfold ajt;rw[UD,if_pos (Nat.zero_le _),Nat.sub_zero];cases nth l i<;>rfl
def Ia (x y:AV) (k:AV→Bool):Bool:=
 @AV.rec (fun _=>Bool) (fun _=>Bool) (fun _=>false) (fun _ _=>false) (fun s=>Tq y fun i=>kM (Nat.ble i 9) (yX s i fun b=>k (.int .u8 (.ofNat b))) (bK ((ajt s).get i) fun b=>k (.int .u8 (.ofNat b)))) (fun _ _ _ _=>false) (false) (fun _ _ _ _ _ _=>false) (false) (false) (fun _=>false) (false) (fun _=>false) (fun _ _ _ _ _=>false) (false) (fun _ _=>false) (fun _ _=>false) (false) (fun _ _ _=>false) (fun _ _=>false) (false) (fun _ _ _ _=>false) x
theorem VA (x y:AV) (k:AV→Bool):Ia x y k=bK (mX x y) k:=by
 cases x<;>try rfl
 rename_i s;show Tq y _=_;rw[Jm];simp only[mX];cases asNat y with
 |none=>rfl
 |some i=>
  show kM _ (yX s i _) _=_;rw[rX,rD,adh];simp only;cases Nat.ble i 9<;>cases nth s i<;>rfl
def U9 (off:Nat) (x:AV) (k:AV→Bool):Bool:=
 @AV.rec (fun _=>Bool) (fun _=>Bool) (fun _=>false) (fun _ _=>false) (fun _=>false) (fun _ _ _ _=>false) (false) (fun _ _ _ _ _ _=>false) (false) (false) (fun _=>false) (false) (fun _=>false) (fun _ _ _ _ _=>false) (false) (fun l _=>yX l off k) (fun _ _=>false) (false) (fun _ _ _=>false) (fun _ _=>false) (false) (fun _ _ _ _=>false) x
theorem Zh (off n:Nat) (x:AV) (k:AV→Bool):U9 off x k=bK (NA false off n x) k:=by
 cases x<;>try rfl
 exact rD _ _ _
def gK (g:AV) (b:Bool) (run:(AV→Bool)→Bool) (k:AV→Bool):Bool:=
 @AV.rec (fun _=>Bool) (fun _=>Bool) (fun x=>@Bool.rec (fun _=>Bool) (k (.tup [])) (run k) (@Bool.rec (fun _=>Bool) (@Bool.rec (fun _=>Bool) true false b) b x)) (fun _ _=>k (.tup [])) (fun _=>k (.tup [])) (fun _ _ _ _=>k (.tup [])) (k (.tup [])) (fun _ _ _ _ _ _=>k (.tup [])) (k (.tup [])) (k (.tup [])) (fun _=>k (.tup [])) (k (.tup [])) (fun _=>k (.tup [])) (fun _ _ _ _ _=>k (.tup [])) (k (.tup [])) (fun _ _=>k (.tup [])) (fun _ _=>k (.tup [])) (k (.tup [])) (fun _ _ _=>k (.tup [])) (fun _ _=>k (.tup [])) (k (.tup [])) (fun _ _ _ _=>k (.tup [])) g
def gP (g:AV) (b:Bool) (run:aK→Bool) (h:ah) (k:aK):Bool:=
 @AV.rec (fun _=>Bool) (fun _=>Bool) (fun x=>@Bool.rec (fun _=>Bool) (k (.tup []) h) (run k) (@Bool.rec (fun _=>Bool) (@Bool.rec (fun _=>Bool) true false b) b x)) (fun _ _=>k (.tup []) h) (fun _=>k (.tup []) h) (fun _ _ _ _=>k (.tup []) h) (k (.tup []) h) (fun _ _ _ _ _ _=>k (.tup []) h) (k (.tup []) h) (k (.tup []) h) (fun _=>k (.tup []) h) (k (.tup []) h) (fun _=>k (.tup []) h) (fun _ _ _ _ _=>k (.tup []) h) (k (.tup []) h) (fun _ _=>k (.tup []) h) (fun _ _=>k (.tup []) h) (k (.tup []) h) (fun _ _ _=>k (.tup []) h) (fun _ _=>k (.tup []) h) (k (.tup []) h) (fun _ _ _ _=>k (.tup []) h) g
def pz (Q k:aK):aK:=fun v h=>
 @AV.rec (fun _=>Bool) (fun _=>Bool) (fun _=>k v h) (fun _ _=>k v h) (fun _=>k v h) (fun _ _ _ _=>k v h) (k v h) (fun _ _ _ _ _ _=>k v h) (k v h) (k v h) (fun _=>k v h) (k v h) (fun _=>k v h) (fun _ _ _ _ _=>k v h) (k v h) (fun _ _=>k v h) (fun _ _=>k v h) (k v h) (fun _ _ _=>k v h) (fun x _=>Q (.pan x) h) (k v h) (fun _ _ _ _=>k v h) v
theorem aha (Q k:aK) (v:AV) (h:ah):pz Q k v h=(match iB v with |some x=>Q (.pan x) h |none=>k v h):=by cases v<;>rfl
end
end Go.Ab
