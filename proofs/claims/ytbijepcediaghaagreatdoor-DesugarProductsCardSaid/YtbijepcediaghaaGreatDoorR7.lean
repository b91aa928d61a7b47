/-
  Texts that the claim hangs on, part 8.
-/
import Derived.Test.YtbijepcediaghaaGreatDoorR6
import Derived.KernelRfl
set_option linter.unusedSimpArgs false
set_option linter.unusedVariables false
namespace Go.Proofs.YtbijepcediaghaaGreatDoor
open Go.Ab
mutual
def cV:Val→Nat
 | .mk _ _ _ t l=>t.length+VQ l+1
def VQ:List Val→Nat
 | []=>0
 |v :: l=>cV v+VQ l
end
mutual
def cE:Ex→Nat
 | .mk _ t v l=>t.length+cV v+vT l+1
def vT:List Ex→Nat
 | []=>0
 |v :: l=>cE v+vT l
end
def cG:List (Str×Ex)→Nat
 | []=>0
 |a :: l=>a.1.length+cE a.2+cG l+1
def cB:List (Str×Str)→Nat
 | []=>0
 |a :: l=>a.1.length+a.2.length+cB l+1
mutual
def cC:Cd→Nat
 | .mk _ var cls binds tests conds thn alts e fn name args=>var.length+cls.length+cB binds+vT tests+gH conds+gH thn+iP alts+cE e+fn.length+name.length+cG args+1
def gH:List Cd→Nat
 | []=>0
 |c :: l=>cC c+gH l
def iP:List (List Cd)→Nat
 | []=>0
 |l :: m=>gH l+iP m+1
end
def cA (a:Act):Nat:=a.cls.length+cG a.set+cE a.e+a.text.length+1
def cAs:List Act→Nat
 | []=>0
 |a :: l=>cA a+cAs l
def cT:List Str→Nat
 | []=>0
 |a :: l=>a.length+cT l+1
def cF:List Nw→Nat
 | []=>0
 |a :: l=>a.name.length+a.cls.length+cF l+1
def cK (a:Cls):Nat:=a.name.length+a.super.length+cF a.fields+1
def cR (a:KR):Nat:=a.name.length+a.group.length+a.flow.length+gH a.whn+cAs a.thn+1
def cQ (a:Qry):Nat:=a.name.length+cT a.params+gH a.whn+1
def cKs:List Cls→Nat
 | []=>0
 |a :: l=>cK a+cKs l
def cRs:List KR→Nat
 | []=>0
 |a :: l=>cR a+cRs l
def cQs:List Qry→Nat
 | []=>0
 |a :: l=>cQ a+cQs l
def FX (b:NQ):Nat:=cKs b.classes+cRs b.rules+cQs b.queries
theorem Jh:∀(l m:List Ex),vT (l++m)=vT l+vT m
 | [],m=>by simp[vT]
 |e :: l,m=>by simp only[List.cons_append,vT,Jh l m];omega
theorem Sd:∀(l m:List (Str×Ex)),cG (l++m)=cG l+cG m
 | [],m=>by simp[cG]
 |e :: l,m=>by simp only[List.cons_append,cG,Sd l m];omega
theorem ad3:∀(l m:List (Str×Str)),cB (l++m)=cB l+cB m
 | [],m=>by simp[cB]
 |e :: l,m=>by simp only[List.cons_append,cB,ad3 l m];omega
theorem xJ:∀(l m:List Cd),gH (l++m)=gH l+gH m
 | [],m=>by simp[gH]
 |e :: l,m=>by simp only[List.cons_append,gH,xJ l m];omega
theorem uN:∀(l m:List (List Cd)),iP (l++m)=iP l+iP m
 | [],m=>by simp[iP]
 |e :: l,m=>by simp only[List.cons_append,iP,uN l m];omega
theorem aac:∀(l m:List Act),cAs (l++m)=cAs l+cAs m
 | [],m=>by simp[cAs]
 |e :: l,m=>by simp only[List.cons_append,cAs,aac l m];omega
theorem aeg:∀(l m:List Str),cT (l++m)=cT l+cT m
 | [],m=>by simp[cT]
 |e :: l,m=>by simp only[List.cons_append,cT,aeg l m];omega
theorem aem:∀(l m:List Nw),cF (l++m)=cF l+cF m
 | [],m=>by simp[cF]
 |e :: l,m=>by simp only[List.cons_append,cF,aem l m];omega
theorem ZN:∀(l m:List Cls),cKs (l++m)=cKs l+cKs m
 | [],m=>by simp[cKs]
 |e :: l,m=>by simp only[List.cons_append,cKs,ZN l m];omega
theorem ZE:∀(l m:List KR),cRs (l++m)=cRs l+cRs m
 | [],m=>by simp[cRs]
 |e :: l,m=>by simp only[List.cons_append,cRs,ZE l m];omega
theorem ZI:∀(l m:List Qry),cQs (l++m)=cQs l+cQs m
 | [],m=>by simp[cQs]
 |e :: l,m=>by simp only[List.cons_append,cQs,ZI l m];omega
theorem aik (e:Ex) (l:List Ex):cE (e.add l)=cE e+vT l:=by cases e;simp only[Ex.add,cE,Jh];omega
theorem Il (op:Int) (t:Str):cE (jr op t)=t.length+2:=by simp only[jr,cE,cV,NJ,VQ,vT,List.length_nil]
theorem Nz:cE wm=2:=by simp only[wm,cE,cV,NJ,VQ,vT,List.length_nil]
def wt (T:List Lx) (i:Nat):Nat:=((T.take i).map fun l=>l.text.length+10).sum
theorem lV {T:List Lx} {i:Nat} (h:i<T.length):wt T (i+1)=wt T i+(txt T i).length+10:=by
 have e:T[i]? =some T[i]:=List.getElem?_eq_getElem h;have t0:txt T i=(T[i]).text:=by unfold txt;rw[e]
 rw[t0];unfold wt;rw[List.take_add_one,e,Option.toList_some,List.map_append,List.sum_append];simp only[List.map_cons,List.map_nil,List.sum_cons,List.sum_nil];omega
theorem ad5 {T:List Lx} {i j:Nat} (h:i≤j):wt T i≤wt T j:=by
 induction j with
 |zero=>have:i=0:=by omega
        subst this;exact Nat.le_refl _
 |succ j ih=>
  by_cases e:i=j+1
  ·subst e;exact Nat.le_refl _
  ·have:=ih (by omega);by_cases hj:j<T.length
   ·rw[lV hj];omega
   ·have e1:T.take (j+1)=T.take j:=by rw[List.take_of_length_le (by omega),List.take_of_length_le (by omega)]
    have:wt T (j+1)=wt T j:=by unfold wt;rw[e1]
    omega
section
variable {T:List Lx} {i i':Nat} {o o':Int}
theorem RL {w:Str} {u:Unit} (h:d9 T w i o= .ok u i' o'):wt T i+10≤wt T i':=by
 rw[SI] at h;split at h
 ·rename_i hc;cases h;rw[lV (is_lt hc)];omega
 ·cases h
theorem aiK {w:Str} {b:Bool} (h:fA T w i o= .ok b i' o'):wt T i≤wt T i':=by
 unfold fA at h;split at h
 ·rename_i hc;cases h;rw[lV (is_lt hc)];omega
 ·cases h;exact Nat.le_refl _
theorem Wu {t:Str} (h:iD T i o= .ok t i' o'):t.length+10+wt T i≤wt T i':=by
 unfold iD at h;split at h
 ·rename_i hc;simp only[Bool.and_eq_true] at hc;cases h;rw[lV (VK hc.1)];omega
 ·cases h
theorem ag6 {t:Str} (h:qF T i o= .ok t i' o'):t.length+10+wt T i≤wt T i':=by
 unfold qF at h;split at h
 ·rename_i hc;simp only[Bool.and_eq_true] at hc;cases h;rw[lV (sO hc.1)];omega
 ·cases h
theorem acW {t:Str} (h:jm T i o= .ok t i' o'):t.length+10+wt T i≤wt T i':=by
 unfold jm at h;split at h
 ·rename_i hc;cases h;rw[lV (sO hc)];omega
 ·cases h
theorem Zp {x:Nat} {u:Unit} (h:jc x i o= .ok u i' o'):i'=i:=by
 unfold jc at h;split at h<;>cases h;rfl
theorem YW {u:Unit} (h:mG i o= .ok u i' o'):i'=i:=by cases h;rfl
theorem Dz {w:Str} {u:Unit} (h:fB T w i o= .ok u i' o'):wt T i+10≤wt T i':=by
 have⟨_,i1,o1,h1,h⟩:=kU (show bnd (d9 T w) (fun _=>jc i) i o=_ from h)
 rw[Zp h];exact RL h1
theorem zB {w:Str} {u:Unit} (h:dH T w i o= .ok u i' o'):wt T i+10≤wt T i':=by
 have⟨_,i1,o1,h1,h⟩:=kU (show bnd (d9 T w) (fun _=>mG) i o=_ from h)
 rw[YW h];exact RL h1
def cBs (l:List Bt):Nat:=vT (l.map Bt.e)
theorem af8 (l m:List Bt):cBs (l++m)=cBs l+cBs m:=by unfold cBs;rw[List.map_append,Jh]
theorem GQ {x:Nat} {e:Ex} {l:List Bt} {b:Bt} (h:gY x e l i o= .ok b i' o'):i'=i∧cE b.e=cE e+cBs l:=by
 unfold gY at h;split at h
 ·cases h
 ·cases h;exact⟨rfl,aik e _⟩
theorem zo {α:Type} {v w:α} (h:ret v i o= .ok w i' o'):w=v∧i'=i:=by cases h;exact⟨rfl,rfl⟩
theorem Yu {σ:Type} {w:Str} {one:σ→PM σ} (f:σ→Nat) (h1:∀s i o v i' o',one s i o= .ok v i' o'→f v+wt T i≤wt T i'+f s):
 ∀(k:Nat) (first:Bool) (s:σ) {i:Nat} {o:Int} {v:σ} {i':Nat} {o':Int},oW T w one k first s i o= .ok v i' o'→f v+wt T i≤wt T i'+f s
 |0,_,_,_,_,_,_,_,h=>by cases h
 |k+1,first,s,i,o,v,i',o',h=>by
  have hb:∀{j:Nat} {o:Int},bnd (one s) (oW T w one k false) j o= .ok v i' o'→f v+wt T j≤wt T i'+f s:=by
   intro j o h;have⟨a,i1,o1,e1,h⟩:=kU h;have:=h1 _ _ _ _ _ _ e1;have:=Yu f h1 k false a h;omega
  unfold oW at h;split at h
  ·split at h
   ·cases h;omega
   ·exact hb h
  ·split at h
   ·rename_i hc;have:=hb h;rw[lV (is_lt hc)] at this;omega
   ·cases h;omega
theorem aeb {σ:Type} {w:Str} {one:σ→PM σ} (f:σ→Nat) (h1:∀s i o v i' o',one s i o= .ok v i' o'→f v+wt T i≤wt T i'+f s) {k:Nat} {s v:σ} (h:iQ T w one k s i o= .ok v i' o'):f v+10+wt T i≤wt T i'+f s:=by
 have⟨a,i1,o1,e1,h⟩:=kU (show bnd (oW T w one k true s) (fun s=>bnd (dH T w) fun _=>ret s) i o=_ from h)
 have⟨_,i2,o2,e2,h⟩:=kU h;obtain⟨rfl,rfl⟩:=zo h;have:=Yu f h1 k true s e1;have:=zB e2;omega
structure WtX (T:List Lx) (k:Nat):Prop where
 level:∀lv i o b i' o',bP T k lv i o= .ok b i' o'→cE b.e+4+wt T i≤wt T i'
 ops:∀lv e i o b i' o',qU T k lv e i o= .ok b i' o'→cE b.e+wt T i≤wt T i'+cE e.e
 sign:∀i o b i' o',jK T k i o= .ok b i' o'→cE b.e+4+wt T i≤wt T i'
 post:∀i o b i' o',sJ T k i o= .ok b i' o'→cE b.e+4+wt T i≤wt T i'
 dots:∀e i o b i' o',qy T k e i o= .ok b i' o'→cE b.e+wt T i≤wt T i'+cE e.e
 atom:∀i o b i' o',qA T k i o= .ok b i' o'→cE b.e+4+wt T i≤wt T i'
theorem aaf (b:Bt):cBs [b]=cE b.e:=by simp only[cBs,List.map_cons,List.map_nil,vT,Nat.add_zero]
theorem agZ (a b:Bt):cBs [a,b]=cE a.e+cE b.e:=by simp only[cBs,List.map_cons,List.map_nil,vT,Nat.add_zero]
theorem wtx (T:List Lx):∀k,WtX T k
 |0=>⟨fun _ _ _ _ _ _ h=>(by cases h),fun _ _ _ _ _ _ _ h=>(by cases h),fun _ _ _ _ _ h=>(by cases h),fun _ _ _ _ _ h=>(by cases h),fun _ _ _ _ _ _ h=>(by cases h),fun _ _ _ _ _ h=>(by cases h)⟩
 |k+1=>by
  have W:=wtx T k;refine⟨fun lv i o b i' o' h=> ?_,fun lv e i o b i' o' h=> ?_,fun i o b i' o' h=> ?_,fun i o b i' o' h=> ?_,fun e i o b i' o' h=> ?_,fun i o b i' o' h=> ?_⟩
  ·have h:(if lv=5 then jK T k else bnd (bP T k (lv+1)) (qU T k lv)) i o= .ok b i' o':=h
   by_cases h5:lv=5
   ·rw[if_pos h5] at h;exact W.sign _ _ _ _ _ h
   ·rw[if_neg h5] at h;obtain⟨a,i1,o1,e1,h⟩:=kU h;have:=W.level _ _ _ _ _ _ e1;have:=W.ops _ _ _ _ _ _ _ h;omega
  ·rw[adW] at h;split at h
   ·rename_i hc;have hs:=lV (ag9 hc);obtain⟨a,i1,o1,e1,h⟩:=kU h;obtain⟨m,i2,o2,e2,h⟩:=kU h;have h1:=W.level _ _ _ _ _ _ e1;obtain⟨q1,h2⟩:=GQ e2;rw[q1] at h;rw[Il,agZ,List.length_nil] at h2;split at h
    ·obtain⟨q2,q3⟩:=zo h;rw[q2,q3];omega
    ·have:=W.ops _ _ _ _ _ _ _ h;omega
   ·cases h;omega
  ·have h:(if bA T i [45]=true then bnd (jc i) (fun _=>bnd (jK T k) fun e=>bnd mG fun _=>gY i (jr 6 []) [e]) (i+1) o
    else if bA T i [33]=true then bnd (jc i) (fun _=>bnd (jK T k) fun e=>bnd mG fun _=>gY i (jr 7 []) [e]) (i+1) o
    else sJ T k i o)= .ok b i' o':=h
   have sg:∀{op:Int} {s:Str},bA T i s=true→bnd (jc i) (fun _=>bnd (jK T k) fun e=>bnd mG fun _=>gY i (jr op []) [e]) (i+1) o= .ok b i' o'→cE b.e+4+wt T i≤wt T i':=by
    intro op s hc h;have hs:=lV (is_lt hc);obtain⟨_,i1,o1,e1,h⟩:=kU h;obtain⟨a,i2,o2,e2,h⟩:=kU h;obtain⟨_,i3,o3,e3,h⟩:=kU h;obtain⟨rfl,h2⟩:=GQ h;rw[Il,aaf,List.length_nil] at h2;have:=W.sign _ _ _ _ _ e2;have:=Zp e1;have:=YW e3
    subst_vars
    omega
   split at h
   ·exact sg (by assumption) h
   ·split at h
    ·exact sg (by assumption) h
    ·exact W.post _ _ _ _ _ h
  ·obtain⟨a,i1,o1,e1,h⟩:=kU (show bnd (qA T k) (qy T k) i o=_ from h)
   have:=W.atom _ _ _ _ _ e1;have:=W.dots _ _ _ _ _ _ h;omega
  ·have h:(if bA T i [46]=true then bnd (iD T) (fun t=>bnd (gY i (jr 4 t) [e]) (qy T k)) (i+1) o else .ok e i o)= .ok b i' o':=h
   split at h
   ·rename_i hc;have hs:=lV (is_lt hc);obtain⟨t,i1,o1,e1,h⟩:=kU h;obtain⟨m,i2,o2,e2,h⟩:=kU h;obtain⟨q1,h2⟩:=GQ e2;rw[q1] at h;rw[Il,aaf] at h2;have:=Wu e1;have:=W.dots _ _ _ _ _ _ h;omega
   ·cases h;omega
  ·have h:=(congrFun (congrFun (congrFun (congrFun (Sk k) 0) T) i) o).symm.trans h;simp only at h;have L0:∀{i o b i' o'},bP T k 0 i o= .ok b i' o'→cE b.e+4+wt T i≤wt T i':=fun h=>W.level 0 _ _ _ _ _ h;have lt:∀{s:Str},cE (lit (.mk 3 false 0 s [])).e=s.length+2:=by intro s;simp only[lit,cE,cV,VQ,vT,List.length_nil];omega
   have hl:∀s:Str,bA T i s=true→∀(v:Val),cV v=1→cE (lit v).e+4+wt T i≤wt T (i+1):=by
    intro s hc v hv;rw[lV (is_lt hc)];simp only[lit,cE,hv,vT,List.length_nil];omega
   refine sF h (fun h=> ?_) fun h=> ?_
   ·split at h
    ·rename_i hc;simp only[Bool.and_eq_true] at hc;cases h;rw[lV (sO hc.1)];simp only[lit,cE,cV,VQ,vT,List.length_nil];omega
    ·cases h
   by_cases h3:dS T i 3=true
   ·rw[if_pos h3] at h;obtain⟨rfl,rfl⟩:=zo h;rw[lV (sO h3),lt];omega
   rw[if_neg h3] at h;by_cases h4:bA T i [116,114,117,101]=true
   ·rw[if_pos h4] at h;obtain⟨rfl,rfl⟩:=zo h;exact hl _ h4 _ rfl
   rw[if_neg h4] at h;by_cases h4:bA T i [102,97,108,115,101]=true
   ·rw[if_pos h4] at h;obtain⟨rfl,rfl⟩:=zo h;exact hl _ h4 _ rfl
   rw[if_neg h4] at h;by_cases h4:bA T i [110,117,108,108]=true
   ·rw[if_pos h4] at h;obtain⟨rfl,rfl⟩:=zo h;exact hl _ h4 _ rfl
   rw[if_neg h4] at h;refine sF h (fun h=> ?_) fun h=> ?_
   ·obtain⟨t,i1,o1,e1,h⟩:=kU h;obtain⟨rfl,rfl⟩:=zo h;have:=ag6 e1;simp only[Il];omega
   refine sF h (fun h=> ?_) fun h=> ?_
   ·obtain⟨_,i1,o1,e1,h⟩:=kU h;obtain⟨a,i2,o2,e2,h⟩:=kU h;obtain⟨_,i3,o3,e3,h⟩:=kU h;obtain⟨rfl,rfl⟩:=zo h;have:=Dz e1;have:=L0 e2;have:=zB e3;omega
   refine sF h (fun h=> ?_) fun h=> ?_
   ·obtain⟨_,i1,o1,e1,h⟩:=kU h;obtain⟨l,i2,o2,e2,h⟩:=kU h;obtain⟨rfl,h2⟩:=GQ h;have:=Dz e1;have:=aeb cBs (fun s i o v i' o' h=>by
     obtain⟨a,i1,o1,e1,h⟩:=kU h;obtain⟨rfl,rfl⟩:=zo h;have:=L0 e1;rw[af8,aaf];omega) e2
    rw[Il,List.length_nil] at h2;simp only[show cBs []=0 from rfl] at this
    omega
   by_cases h5:bA T i [115,105,122,101]=true
   ·rw[if_pos h5] at h;have hs:=lV (is_lt h5);obtain⟨_,i1,o1,e1,h⟩:=kU h;obtain⟨a,i2,o2,e2,h⟩:=kU h;obtain⟨_,i3,o3,e3,h⟩:=kU h;obtain⟨rfl,h2⟩:=GQ h;rw[Il,aaf,List.length_nil] at h2;have:=Dz e1;have:=L0 e2;have:=zB e3;omega
   rw[if_neg h5] at h;by_cases h6:bA T i [104,97,115]=true
   ·rw[if_pos h6] at h;have hs:=lV (is_lt h6);obtain⟨_,i1,o1,e1,h⟩:=kU h;obtain⟨a,i2,o2,e2,h⟩:=kU h;obtain⟨_,i3,o3,e3,h⟩:=kU h;obtain⟨c,i4,o4,e4,h⟩:=kU h;obtain⟨_,i5,o5,e5,h⟩:=kU h;obtain⟨rfl,h2⟩:=GQ h;rw[Il,agZ,List.length_nil] at h2;have:=Dz e1;have:=L0 e2;have:=RL e3;have:=L0 e4;have:=zB e5;omega
   rw[if_neg h6] at h;obtain⟨t,i1,o1,e1,h⟩:=kU h;obtain⟨rfl,rfl⟩:=zo h;have:=Wu e1;simp only[Il];omega
theorem ahL {k:Nat} {e:Ex} (h:jw T k i o= .ok e i' o'):cE e+4+wt T i≤wt T i':=by
 have⟨b,i1,o1,e1,h⟩:=kU (show bnd (bP T k 0) (fun b=>ret b.e) i o=_ from h)
 obtain⟨rfl,rfl⟩:=zo h;exact(wtx T k).level _ _ _ _ _ _ e1
end
def Sa {α:Type} (T:List Lx) (s:α→Nat) (a:Nat) (m:PM α):Prop:=∀i o v i' o',m i o= .ok v i' o'→s v+wt T i≤wt T i'+a
section
variable {T:List Lx} {k a:Nat} {α β:Type} {s:β→Nat} {m1 m2:PM β} {c:Nat→Bool}
theorem aW {p:α→Nat} {m:PM α} {g:α→PM β} (h:Sa T p 0 m) (k:∀v,Sa T s (a+p v) (g v)):Sa T s a (bnd m g):=by
 intro i o v i' o' e;have⟨w,i1,o1,e1,e2⟩:=kU e;have:=h _ _ _ _ _ e1;have:=k w _ _ _ _ _ e2;omega
theorem Sw {p:α→Nat} {m:PM α} {g:α→PM β} (b:Nat) (a':α→Nat) (h:Sa T p b m) (l:∀v,a' v+b≤a+p v) (k:∀v,Sa T s (a' v) (g v)):Sa T s a (bnd m g):=by
 intro i o v i' o' e;have⟨w,i1,o1,e1,e2⟩:=kU e;have:=h _ _ _ _ _ e1;have:=k w _ _ _ _ _ e2;have:=l w;omega
theorem ig {v:β} (h:s v≤a):Sa T s a (ret v):=fun i o w i' o' e=>by cases e;omega
theorem uh:Sa T s a (tV:PM β):=fun _ _ _ _ _ e=>by cases e
theorem uG {s':β→Nat} {a':Nat} (h:Sa T s a m1) (l:∀v,s' v+a≤s v+a'):Sa T s' a' m1:=fun i o v i' o' e=>by have:=h _ _ _ _ _ e;have:=l v;omega
theorem Bq (h1:Sa T s a m1) (h2:Sa T s a m2):Sa T s a fun i o=>if c i=true then m1 i o else m2 i o:=fun i o v i' o' e=>by
 simp only at e;split at e
 ·exact h1 _ _ _ _ _ e
 ·exact h2 _ _ _ _ _ e
theorem jF (h1:Sa T s a m1) (h2:Sa T s a m2):Sa T s a fun i o=>if c i=true then m1 (i+1) o else m2 i o:=fun i o v i' o' e=>by
 simp only at e;have:=ad5 (T:=T) (show i≤i+1 from Nat.le_succ i)
 split at e
 ·have:=h1 _ _ _ _ _ e;omega
 ·exact h2 _ _ _ _ _ e
theorem WQ {b:Bool} (h1:Sa T s a m1) (h2:Sa T s a m2):Sa T s a (if b=true then m1 else m2):=by
 split
 ·exact h1
 ·exact h2
theorem kI (w:Str):Sa T (fun _=>10) 0 (d9 T w):=fun _ _ _ _ _ h=>by have:=RL h;show 10+_≤_;omega
theorem SN (w:Str):Sa T (fun _=>0) 0 (fA T w):=fun _ _ _ _ _ h=>by have:=aiK h;show 0+_≤_;omega
theorem qb:Sa T (fun t=>t.length+10) 0 (iD T):=fun _ _ _ _ _ h=>by have:=Wu h;omega
theorem Gi:Sa T (fun t=>t.length+10) 0 (qF T):=fun _ _ _ _ _ h=>by have:=ag6 h;omega
theorem Ao:Sa T (fun t=>t.length+10) 0 (jm T):=fun _ _ _ _ _ h=>by have:=acW h;omega
theorem afk:Sa T (fun _=>0) 0 (Dm T):=fun i _ _ _ _ h=>by cases h;have:=ad5 (T:=T) (show i≤i+1 from Nat.le_succ i);show 0+_≤_;omega
theorem nD (w:Str):Sa T (fun _=>10) 0 (fB T w):=fun _ _ _ _ _ h=>by have:=Dz h;show 10+_≤_;omega
theorem qH (w:Str):Sa T (fun _=>10) 0 (dH T w):=fun _ _ _ _ _ h=>by have:=zB h;show 10+_≤_;omega
theorem sW:Sa T (fun e=>cE e+4) 0 (jw T k):=fun _ _ _ _ _ h=>by have:=ahL h;omega
theorem Jz {w:Str} {f:β→Nat} {one:β→PM β} {st:β} (h0:f st=0) (h1:∀s,Sa T f (f s) (one s)):Sa T f 0 (iQ T w one k st):=fun _ _ _ _ _ h=>by
 have:=aeb f (fun s i o v i' o' e=>h1 s i o v i' o' e) h;omega
end
section
variable {T:List Lx} {k:Nat}
theorem aaE (s:List (Str×Ex)):Sa T cG (cG s) (um T k s):=Bq (c:=fun i=>dS T i 1&&bA T (i+1) [63])
 (aW Gi fun v=>aW (kI _) fun _=>ig (by simp only[Sd,cG,Nz];omega)) (aW sW fun e=>ig (by simp only[Sd,cG,List.length_nil];omega))
theorem aiz:Sa T (fun c=>cC c+1) 0 (Uh T k):=aW qb fun nm=>aW (nD _) fun _=>aW (Jz (f:=cG) rfl aaE) fun l=>ig (by simp only[cC,cB,vT,gH,iP,Nz,List.length_nil];omega)
def cP (s:List (Str×Str)×List Ex):Nat:=cB s.1+vT s.2
theorem aaC (s:List (Str×Str)×List Ex):Sa T cP (cP s) (qN T k s):=Bq (c:=fun i=>dS T i 1&&bA T (i+1) [58])
 (aW Gi fun v=>aW (kI _) fun _=>aW qb fun f=>ig (by simp only[cP,ad3,cB];omega)) (aW sW fun e=>ig (by simp only[cP,Jh,vT];omega))
theorem M0 {a:Nat} (v:Str) (h:v.length≤a+4):Sa T (fun c=>cC c+1) a (mQ T k v):=aW qb fun c=>aW (nD _) fun _=>aW (Jz (f:=cP) rfl aaC) fun s=>ig (by simp only[cP,cC,cG,gH,iP,Nz,List.length_nil];omega)
theorem aiX:Sa T (fun c=>cC c+1) 0 (SL T k):=Bq (c:=fun i=>dS T i 1) (aW Gi fun v=>aW (kI _) fun _=>M0 v (by omega)) (M0 [] (by simp))
structure SzC (T:List Lx) (k:Nat):Prop where
 conds:∀ends acc,Sa T gH (gH acc) (jG T k ends acc)
 some:∀ends,Sa T (fun l=>gH l+1) 0 (jN T k ends)
 block:Sa T (fun l=>gH l+10) 0 (nY T k)
 alts:∀acc,Sa T iP (iP acc) (uy T k acc)
 or:Sa T (fun c=>cC c+1) 0 (orM T k)
 acc:Sa T (fun c=>cC c+1) 0 (NS T k)
 cond:Sa T (fun c=>cC c+1) 0 (vM T k)
theorem szc:∀k,SzC T k
 |0=>⟨fun _ _=>uh,fun _=>uh,uh,fun _=>uh,uh,uh,uh⟩
 |k+1=>by
  have W:=szc k;refine have nc:∀ends,Sa T gH 0 (jG T k ends []):=fun ends=>W.conds ends [];⟨fun ends acc=> ?_,fun ends=> ?_, ?_,fun acc=> ?_, ?_, ?_, ?_⟩
  ·exact Bq (c:=fun i=>ends.any fun w=>bA T i w) (m1:=ret acc) (ig (Nat.le_refl _)) (aW W.cond fun c=>uG (W.conds ends (acc++[c])) fun v=>by simp only[xJ,gH];omega)
  ·exact aW W.cond fun c=>aW (nc ends) fun l=>ig (by simp only[gH];omega)
  ·exact aW (nD _) fun _=>aW (W.some _) fun l=>aW (qH _) fun _=>ig (by omega)
  ·exact aW (W.some _) fun l=>aW (SN _) fun b=>WQ (uG (W.alts (acc++[l])) fun v=>by simp only[uN,iP];omega) (ig (by simp only[uN,iP];omega))
  ·exact aW (nD _) fun _=>aW (W.some _) fun l=>aW (kI _) fun _=>Sw (p:=iP) (iP [l]) (fun w=>20+iP w) (W.alts [l]) (fun w=>by simp only[iP];omega) fun w=>aW (qH _) fun _=>ig (by simp only[cC,cB,cG,vT,gH,Nz,List.length_nil];omega)
  ·exact aW (nD _) fun _=>aW Gi fun v=>aW (kI _) fun _=>aW (SN _) fun b=>Sw (p:=fun t=>t.length) 4 (fun fn=>26+v.length+fn.length) (WQ (ig (by decide)) (uG qb fun v=>by omega)) (fun w=>by omega) fun fn=>
    aW (nD _) fun _=>aW sW fun e=>aW (qH _) fun _=>aW (kI _) fun _=>aW (W.some _) fun l=>aW (qH _) fun _=>ig (by simp only[cC,cB,cG,vT,gH,iP,List.length_nil];omega)
  ·have nt:∀n,Sa T (fun c=>cC c+1) 0 (bnd (nY T k) fun l=>ret (SS n l)):=fun n=>aW W.block fun l=>ig (by simp only[SS,cC,cB,cG,vT,gH,iP,Nz,List.length_nil];omega);exact jF (c:=fun i=>bA T i WH) (nt 2) (jF (c:=fun i=>bA T i xg) (nt 3)
    (jF (c:=fun i=>bA T i xR) (aW (nD _) fun _=>aW (W.some _) fun l=>aW (kI _) fun _=>aW (W.some _) fun m=>aW (qH _) fun _=>ig (by simp only[cC,cB,cG,vT,gH,iP,Nz,List.length_nil];omega))
    (Bq (c:=fun i=>bA T i [40]) W.or (jF (c:=fun i=>bA T i MX) (aW (nD _) fun _=>aW sW fun e=>aW (qH _) fun _=>ig (by simp only[cC,cB,cG,vT,gH,iP,List.length_nil];omega))
    (jF (c:=fun i=>bA T i Wj) W.acc (jF (c:=fun i=>bA T i [63]) aiz (Bq (c:=fun i=>dS T i 1&& !bA T (i+1) [58]) (aW Gi fun v=>aW (kI _) fun _=>aW sW fun e=>ig (by simp only[cC,cB,cG,vT,gH,iP,List.length_nil];omega)) aiX)))))))
theorem aat (l:List (Str×Ex)):Sa T cG (cG l) (jJ T k l):=aW qb fun f=>aW (kI _) fun _=>aW sW fun e=>ig (by simp only[Sd,cG];omega)
theorem YF {b:Bool}:Sa T cG 0 (rG T k b):=by
 refine have hl:Sa T cG 0 (iQ T [125] (jJ T k) k []):=Jz rfl aat;aW (s:=cG) (nD _) fun _=>uG (a:=0) (s:=cG) ?_ fun v=>by omega
 intro i o v i' o' h;simp only at h;split at h
 ·rw[JA] at h;split at h
  ·cases h
  ·exact hl _ _ _ _ _ h
 ·exact hl _ _ _ _ _ h
theorem AB {a:Nat} {x:Act} (h:cA x≤a+10):Sa T cA a (og T x):=aW (kI _) fun _=>ig h
theorem ah8:Sa T cA 0 (Jb T k):=by
 rw[show Jb T k=_ from congrFun (congrFun (Sj k) 0) T]
 exact Bq (c:=fun i=>bA T i oI||bA T i iw) (aW afk fun t=>aW qb fun c=>aW YF fun l=>AB (by simp only[cA,Nz,List.length_nil];omega))
  (jF (c:=fun i=>bA T i u7) (aW sW fun e=>aW YF fun l=>AB (by simp only[cA,List.length_nil];omega))
  (jF (c:=fun i=>bA T i uW) (aW sW fun e=>AB (by simp only[cA,cG,List.length_nil];omega))
  (jF (c:=fun i=>bA T i zh) (aW Ao fun t=>AB (by simp only[cA,cG,Nz,List.length_nil];omega))
  (jF (c:=fun i=>bA T i yF) (aW sW fun e=>AB (by simp only[cA,cG,List.length_nil];omega))
  (aW (kI _) fun _=>AB (by simp only[cA,cG,Nz,List.length_nil];omega))))))
theorem aiF:Sa T (fun _=>0) 0 (Qd T):=fun _ _ _ _ _ h=>by have:=ad5 (T:=T) (ad9.mono 0 _ _ _ _ _ _ h);show 0+_≤_;omega
theorem AJ:∀(k:Nat) (r:KR),Sa T cR (cR r) (oZ T k r)
 |0,_=>uh
 |k+1,r=>jF (c:=fun i=>bA T i KP) (m1:=ret r) (ig (Nat.le_refl _)) (jF (c:=fun i=>bA T i abm) (aW aiF fun n=>uG (AJ k _) fun v=>by simp only[cR];omega)
  (jF (c:=fun i=>bA T i Fe) (aW Ao fun n=>uG (AJ k _) fun v=>by simp only[cR];omega) (jF (c:=fun i=>bA T i Oa) (aW Ao fun n=>uG (AJ k _) fun v=>by simp only[cR];omega)
  (jF (c:=fun i=>bA T i Aa) (uG (AJ k _) fun v=>by simp only[cR];omega) (aW (kI _) fun n=>uG (AJ k _) fun v=>by simp only[cR];omega)))))
theorem aae (k0:Nat):∀(k:Nat) (acc:List Act),Sa T cAs (cAs acc) (wI T k0 k acc)
 |0,_=>uh
 |k+1,acc=>jF (c:=fun i=>bA T i Kn) (m1:=ret acc) (ig (Nat.le_refl _)) (aW ah8 fun a=>uG (aae k0 k _) fun v=>by simp only[aac,cAs];omega)
theorem Vz (ends:List Str):Sa T gH 0 (jG T k ends []):=(szc k).conds ends []
theorem afT:Sa T cR 0 (wF T k):=aW Ao fun nm=>Sw (p:=cR) (nm.length+1) (fun r=>cR r+9) (AJ k _) (fun r=>by omega) fun r=>aW (Vz _) fun w=>aW (kI _) fun _=>aW (p:=cAs) (aae k k []) fun t=>ig (by simp only[cR];omega)
theorem abt (s:List Str):Sa T cT (cT s) (tT T s):=aW Gi fun v=>ig (by simp only[aeg,cT];omega)
theorem abY:Sa T cQ 0 (qG T k):=aW qb fun nm=>aW (nD _) fun _=>aW (Jz (f:=cT) rfl abt) fun ps=>aW (Vz _) fun w=>aW (kI _) fun _=>ig (by simp only[cQ];omega)
def cFl (f:Nw):Nat:=f.name.length+f.cls.length+1
theorem adG:Sa T cFl 0 (r9 T):=aW qb fun nm=>aW (kI _) fun _=>by
 have z:∀n:Int,Sa T cFl (0+(nm.length+10)+10) (ret (⟨nm,n,[]⟩:Nw)):=fun n=>ig (by simp only[cFl,List.length_nil];omega);exact jF (c:=fun i=>bA T i QH) (z 2) (jF (c:=fun i=>bA T i DZ) (z 1) (jF (c:=fun i=>bA T i Ea) (z 3) (jF (c:=fun i=>bA T i vG) (z 4) (jF (c:=fun i=>bA T i Ql) (z 0)
  (aW (kI _) fun _=>aW qb fun c=>ig (by simp only[cFl];omega))))))
theorem Pk:∀(k:Nat) (first:Bool) (acc:List Nw),Sa T cF (cF acc) (jI T k first acc)
 |0,_,_=>uh
 |k+1,first,acc=>by
  have hb:Sa T cF (cF acc) (bnd (r9 T) fun f=>jI T k false (acc++[f])):=aW adG fun f=>uG (Pk k false _) fun v=>by simp only[aem,cF,cFl];omega
  cases first
  ·exact jF (c:=fun i=>bA T i [44]) hb (Bq (c:=fun i=>qP T i) hb (m2:=ret acc) (ig (Nat.le_refl _)))
  ·exact Bq (c:=fun i=>bA T i [125]) (m1:=ret acc) (ig (Nat.le_refl _)) hb
theorem abZ:Sa T cK 0 (rZ T k):=aW qb fun nm=>aW (p:=fun s=>s.length) (aW (SN _) fun b=>WQ (uG qb fun v=>by omega) (ig (by simp))) fun su=>aW (nD _) fun _=>aW (p:=cF) (Pk k true []) fun fs=>aW (qH _) fun _=>ig (by simp only[cK];omega)
theorem JE (k0:Nat):∀(k:Nat) (b:NQ),Sa T FX (FX b) (jB T k0 k b)
 |0,_=>uh
 |k+1,b=>by
  have h:Sa T FX (FX b) fun i o=>if decide (i<T.length)=true then
   (if bA T i xG=true then bnd (rZ T k0) (fun c=>jB T k0 k {b with classes:=b.classes++[c]}) (i+1) o
   else if bA T i Io=true then bnd (wF T k0) (fun r=>jB T k0 k {b with rules:=b.rules++[r]}) (i+1) o
   else bnd (d9 T J5) (fun _=>bnd (qG T k0) fun q=>jB T k0 k {b with queries:=b.queries++[q]}) i o) else .ok b i o:=
   Bq (c:=fun i=>decide (i<T.length)) (jF (c:=fun i=>bA T i xG) (aW abZ fun c=>uG (JE k0 k _) fun v=>by simp only[FX,ZN,cKs];omega)
    (jF (c:=fun i=>bA T i Io) (aW afT fun c=>uG (JE k0 k _) fun v=>by simp only[FX,ZE,cRs];omega) (aW (kI _) fun _=>aW abY fun c=>uG (JE k0 k _) fun v=>by simp only[FX,ZI,cQs];omega)))
    (m2:=ret b) (ig (Nat.le_refl _))
  simp only[decide_eq_true_eq] at h;exact h
theorem ahT (k0 k:Nat) (b:NQ) {i:Nat} {o:Int} {v:NQ} {i':Nat} {o':Int} (h:jB T k0 k b i o= .ok v i' o'):FX v+wt T i≤wt T i'+FX b:=JE k0 k b _ _ _ _ _ h
end
mutual
theorem RW.ext {h h':ah} (e:Ext h h'):∀{a:List AV} {v:Val},RW h a v→RW h' a v
 |a, .mk k b n t l,H=>by
  simp only[RW] at H ⊢;exact have⟨lv,es,h1,h2,h3⟩:=H;⟨lv,es,h1,h2.ext e,BL.ext e h3⟩
theorem BL.ext {h h':ah} (e:Ext h h'):∀{a:List (List AV)} {l:List Val},BL h a l→BL h' a l
 |a,[],H=>by simp only[BL] at H ⊢;exact H
 |a,v :: l,H=>by
  simp only[BL] at H ⊢;exact have⟨c,r,h1,h2,h3⟩:=H;⟨c,r,h1,RW.ext e h2,BL.ext e h3⟩
end
mutual
theorem RE.ext {h h':ah} (e:Ext h h'):∀{a:List AV} {v:Ex},RE h a v→RE h' a v
 |a, .mk op t v l,H=>by
  simp only[RE] at H ⊢;exact have⟨cv,va,es,h1,h2,h3,h4⟩:=H;⟨cv,va,es,h1,h2.ext e,h3.ext e,mH.ext e h4⟩
theorem mH.ext {h h':ah} (e:Ext h h'):∀{a:List (List AV)} {l:List Ex},mH h a l→mH h' a l
 |a,[],H=>by simp only[mH] at H ⊢;exact H
 |a,v :: l,H=>by
  simp only[mH] at H ⊢;exact have⟨c,r,h1,h2,h3⟩:=H;⟨c,r,h1,RE.ext e h2,mH.ext e h3⟩
end
theorem BL.get {h:ah}:∀{es:List (List AV)} {l:List Val},BL h es l→es.length=l.length∧∀(j:Nat) (b:Val),l[j]? =some b→∃c,es[j]? =some c∧RW h c b
 |es,[],R=>by simp only[BL] at R;subst R;exact⟨rfl,fun j b e=>by simp at e⟩
 |es,v :: l,R=>by
  simp only[BL] at R;obtain⟨c,r,rfl,R1,R2⟩:=R;refine have⟨h1,h2⟩:=BL.get R2;⟨by simp[h1],fun j b e=> ?_⟩
  cases j with
  |zero=>simp only[List.getElem?_cons_zero,Option.some.injEq] at e ⊢;subst e;exact⟨c,rfl,R1⟩
  |succ j=>simp only[List.getElem?_cons_succ] at e ⊢;exact h2 j b e
theorem mH.get {h:ah}:∀{es:List (List AV)} {l:List Ex},mH h es l→es.length=l.length∧∀(j:Nat) (b:Ex),l[j]? =some b→∃c,es[j]? =some c∧RE h c b
 |es,[],R=>by simp only[mH] at R;subst R;exact⟨rfl,fun j b e=>by simp at e⟩
 |es,v :: l,R=>by
  simp only[mH] at R;obtain⟨c,r,rfl,R1,R2⟩:=R;refine have⟨h1,h2⟩:=mH.get R2;⟨by simp[h1],fun j b e=> ?_⟩
  cases j with
  |zero=>simp only[List.getElem?_cons_zero,Option.some.injEq] at e ⊢;subst e;exact⟨c,rfl,R1⟩
  |succ j=>simp only[List.getElem?_cons_succ] at e ⊢;exact h2 j b e
theorem _root_.Go.Ab.Cx.start {h:ah} (o:h.Ok) {F:List (ah→Prop)} (f:∀R∈F,∀h',Ext h h'→R h'):Cx h [] [] (Ext h :: F):=
 have ex:∀h',Kp (· ∈places [] []) h h'→Ext h h':=fun h' k=>⟨k.1,fun id ob e=>k.2 id ob (fun m=>nomatch m) e⟩
 ⟨o,fun _ m=>(nomatch m),fun _ m=>(nomatch m),List.nodup_nil,fun R m=>(List.mem_cons.1 m).elim (fun e h' k=>by subst e;exact ex h' k) fun m h' k=>f R m h' (ex h' k)⟩
theorem _root_.Go.Ab.Cx.start1 {h:ah} (o:h.Ok) {R1:ah→Prop} (f1:∀h',Ext h h'→R1 h'):Cx h [] [] [Ext h,R1]:=
 Cx.start o fun R m=>by
  rcases List.mem_cons.1 m with rfl |m
  ·exact f1
  ·cases m
theorem _root_.Go.Ab.Cx.start2 {h:ah} (o:h.Ok) {R1 R2:ah→Prop} (f1:∀h',Ext h h'→R1 h') (f2:∀h',Ext h h'→R2 h'):Cx h [] [] [Ext h,R1,R2]:=
 Cx.start o fun R m=>by
  rcases List.mem_cons.1 m with rfl |m
  ·exact f1
  rcases List.mem_cons.1 m with rfl |m
  ·exact f2
  ·cases m
theorem rM {h:ah} {v:AV} {n:Nat} {es:List (List AV)} {J:IntKind} {i:Nat} {e:List AV} {k:AV→Bool} (V:View h n v es) (hi:es[i]? =some e) (hl:e.length=n) (s:k (.agg e)=true):(dG h n v (.int J (i:Int)) fun p=>aX h n p k)=true:=
 Fu V hi fun id g j ld=>vF (by
  rw[ld];simp only[mM,cond_true];rw[aI.2 (by omega),cond_true,List.drop_zero,List.take_of_length_le (by omega)]) s
theorem nV {h:ah} {v a:AV} {n:Nat} {es:List (List AV)} {J:IntKind} {i:Nat} {e:List AV} {k:AV→Bool} (V:View h n v es) (hi:es[i]? =some e) (ha:e[0]? =some a) (s:k a=true):(dG h n v (.int J (i:Int)) fun p=>av h p k)=true:=
 Fu V hi fun id g j ld=>aU (by
  rw[ld];simp only[mM,cond_false,nk];exact ha) s
theorem ael (h:ah) (b:Bool):Ja h false .bool (.bool b) (.bool b)=some (.bool true):=by cases b<;>rfl
theorem QW (v:Val):0<cV v:=by cases v;unfold cV;omega
theorem R9 (v:Ex):0<cE v:=by cases v;unfold cE;omega
theorem RN:∀{l:List Val} {j:Nat} {b:Val},l[j]? =some b→cV b≤VQ l
 | [],j,b,e=>by simp at e
 |v :: l,0,b,e=>by simp only[List.getElem?_cons_zero,Option.some.injEq] at e;subst e;unfold VQ;omega
 |v :: l,j+1,b,e=>by simp only[List.getElem?_cons_succ] at e;have:=RN e;unfold VQ;omega
theorem Rz:∀(l:List Val),l.length≤VQ l
 | []=>Nat.le_refl _
 |v :: l=>by have:=Rz l;have:=QW v;unfold VQ;simp only[List.length_cons];omega
theorem Jr:∀{l:List Ex} {j:Nat} {b:Ex},l[j]? =some b→cE b≤vT l
 | [],j,b,e=>by simp at e
 |v :: l,0,b,e=>by simp only[List.getElem?_cons_zero,Option.some.injEq] at e;subst e;unfold vT;omega
 |v :: l,j+1,b,e=>by simp only[List.getElem?_cons_succ] at e;have:=Jr e;unfold vT;omega
theorem Jj:∀(l:List Ex),l.length≤vT l
 | []=>Nat.le_refl _
 |v :: l=>by have:=Jj l;have:=R9 v;unfold vT;simp only[List.length_cons];omega
def big:Nat:=1000000000
section
variable {k:AV→Bool}
theorem aho {J:IntKind} {x:Int} (s:k (.bool true)=true):dQ (.int J x) (.int J x) k=true:=kQ (by rw[decide_eq_true rfl];exact s)
theorem ahH {J:IntKind} {x:Int} (s:k (.bool false)=true):qO (.int J x) (.int J x) k=true:=jC (by rw[decide_eq_true rfl];exact s)
theorem aht {x:Str} (s:k (.bool true)=true):dQ (.str x) (.str x) k=true:=DT (by rw[decide_eq_true rfl];exact s)
theorem acE {x:Str} (s:k (.bool false)=true):qO (.str x) (.str x) k=true:=alx (by rw[decide_eq_true rfl];exact s)
theorem alr {h:ah} {b:Bool} (s:k (.bool true)=true):bK (Ja h false .bool (.bool b) (.bool b)) k=true:=qJ (ael h b) s
end
section
variable {n:Nat}
theorem rnd {v:AV} {h:ah} {i:Nat} {R:Bool} {S:AV→Bool} (hi:i<big) (s:S (.int .i64 ((i+1:Nat):Int))=true):(lJ (.bool true) fun v11=>aH v11 R (eG (.int .i64 (i:Int)) (.int .i64 1) S))=true:=
 fP (bE (gZ (by have:lim=4611686018427387904:=rfl;have:big=1000000000:=rfl;omega) s))
end
def QV (N:Nat):Prop:=∀(n:Nat) (h:ah) (v:Val) (c c':List AV) (K:aK),cV v≤N→cV v≤big→3*cV v+6≤n→h.Ok→RW h c v→RW h c' v→(∀h',Ext h h'→h'.Ok→K (.bool true) h'=true)→ak E n (.func 48) [.agg c, .agg c'] h K=true
theorem q69 {N:Nat} (Q:QV N) {n:Nat} {h:ah} {l:List Val} {va vb:AV} {es es':List (List AV)} {K:aK} (hN:VQ l≤N) (hB:VQ l≤big) (hn:3*VQ l+8≤n) (ho:h.Ok) (V:View h 5 va es) (R:BL h es l) (V':View h 5 vb es') (R':BL h es' l)
 (k:∀h',Ext h h'→h'.Ok→K (.bool true) h'=true):ak E n (.func 67) [va,vb] h K=true:=by
 obtain⟨n,rfl⟩:∃m,n=m+1:=⟨n-1,by omega⟩;have hlen:=Rz l;have⟨g1,g2⟩:=R.get;have⟨g1',g2'⟩:=R'.get;apply d67;unfold s67;refine dZ V (dZ V' (jC ?_));rw[g1,g1',decide_eq_true rfl];refine bE ?_;unfold WO;have lp:∀(m i:Nat) (h':ah),i≤l.length→l.length-i<m→Ext h h'→h'.Ok→Ng (ak E n) n m va vb (.int .i64 (i:Int)) h' K=true:=by
  intro m
  induction m with
  |zero=>intro i h' _ hm;omega
  |succ m ih=>
   intro i h' hi hm e o;rw[aee];unfold QE;refine dZ (V.ext e) (fT ?_);rw[g1];by_cases hlt:i<l.length
   ·rw[decide_eq_true hlt];have hb:l[i]? =some l[i]:=List.getElem?_eq_getElem hlt;generalize l[i]=b at hb;have⟨c,hc,Rc⟩:=g2 i b hb;have⟨c',hc',Rc'⟩:=g2' i b hb;exact have hw:=RN hb;bN (rM (V.ext e) hc Rc.cells.1 (rM (V'.ext e) hc' Rc'.cells.1<|Q _ _ _ _ _ _ (by omega) (by omega) (by omega) o (Rc.ext e) (Rc'.ext e) fun h'' e' o'=>aD rfl (rnd (v:=va) (h:=h) (by omega)<|ih (i+1) h'' (by omega) (by omega) (e.trans e') o')))
   ·rw[decide_eq_false hlt];exact bE (k h' e o)
 exact lp n 0 h (Nat.zero_le _) (by omega) (Ext.refl _) ho
theorem qv:∀N,QV N
 |0=>fun n h v c c' K hv _ _ _ _ _ _=>by have:=QW v;omega
 |N+1=>fun n h0 v c c' K hv hB hn ho R R' k=>by
  have Q:=qv N;obtain⟨n,rfl⟩:∃m,n=m+1:=⟨n-1,by omega⟩;have⟨kd,b,x,t,l⟩:=v;have A:=Cx.start2 ho (R1:=fun h=>RW h c (.mk kd b x t l)) (R2:=fun h=>RW h c' (.mk kd b x t l)) (fun h' e=>R.ext e) (fun h' e=>R'.ext e);have hc:cV (.mk kd b x t l)=t.length+VQ l+1:=by simp only[cV]
  simp only[RW] at R R';obtain⟨lv,es,rfl,V,Rl⟩:=R;obtain⟨lv',es',rfl,V',Rl'⟩:=R';apply d48;unfold s48;refine rC A rfl rfl (by simp only[aB,V.leaf];rfl) fun a h A=>QB A rfl rfl (by simp only[aB,V'.leaf];rfl) fun a' h A=> ?_
  repeat first |refine aho ?_ |refine aht ?_ |refine alr ?_ |(with_reducible first |refine ay ?_ |refine cO ?_ |refine iU ?_ |refine fH ?_ |refine aJ A.var rfl ?_ |refine aJ A.v1 rfl ?_)
  exact have e0:Ext h0 h:=A.f0;q69 Q (by omega) (by omega) (by omega) A.ok (V.ext e0) (Rl.ext e0) (V'.ext e0) (Rl'.ext e0) fun h' e' o'=>aD rfl<|fH (k h' (e0.trans e') o')
def QX (N:Nat):Prop:=∀(n:Nat) (h:ah) (v:Ex) (c c':List AV) (K:aK),cE v≤N→cE v≤big→3*cE v+6≤n→h.Ok→RE h c v→RE h c' v→(∀h',Ext h h'→h'.Ok→K (.bool true) h'=true)→ak E n (.func 31) [.agg c, .agg c'] h K=true
theorem q46 {N:Nat} (Q:QX N) {n:Nat} {h:ah} {l:List Ex} {va vb:AV} {es es':List (List AV)} {K:aK} (hN:vT l≤N) (hB:vT l≤big) (hn:3*vT l+8≤n) (ho:h.Ok) (V:View h 8 va es) (R:mH h es l) (V':View h 8 vb es') (R':mH h es' l)
 (k:∀h',Ext h h'→h'.Ok→K (.bool true) h'=true):ak E n (.func 32) [va,vb] h K=true:=by
 obtain⟨n,rfl⟩:∃m,n=m+1:=⟨n-1,by omega⟩;have hlen:=Jj l;have⟨g1,g2⟩:=R.get;have⟨g1',g2'⟩:=R'.get;apply d32;unfold s32;refine dZ V (dZ V' (jC ?_));rw[g1,g1',decide_eq_true rfl];refine bE ?_;unfold VW;have lp:∀(m i:Nat) (h':ah),i≤l.length→l.length-i<m→Ext h h'→h'.Ok→MW (ak E n) n m va vb (.int .i64 (i:Int)) h' K=true:=by
  intro m
  induction m with
  |zero=>intro i h' _ hm;omega
  |succ m ih=>
   intro i h' hi hm e o;rw[aen];unfold Rm;refine dZ (V.ext e) (fT ?_);rw[g1];by_cases hlt:i<l.length
   ·rw[decide_eq_true hlt];have hb:l[i]? =some l[i]:=List.getElem?_eq_getElem hlt;generalize l[i]=b at hb;have⟨c,hc,Rc⟩:=g2 i b hb;have⟨c',hc',Rc'⟩:=g2' i b hb;exact have hw:=Jr hb;bN (rM (V.ext e) hc Rc.cells.1 (rM (V'.ext e) hc' Rc'.cells.1<|Q _ _ _ _ _ _ (by omega) (by omega) (by omega) o (Rc.ext e) (Rc'.ext e) fun h'' e' o'=>aD rfl (rnd (v:=va) (h:=h) (by omega)<|ih (i+1) h'' (by omega) (by omega) (e.trans e') o')))
   ·rw[decide_eq_false hlt];exact bE (k h' e o)
 exact lp n 0 h (Nat.zero_le _) (by omega) (Ext.refl _) ho
theorem ab5 {h:ah} {a:Nat} {x y z:AV} {cv:List AV} {k:AV→Bool} (V:Var h a (x :: y :: (cv++[z]))) (hl:cv.length=5) (s:k (.agg cv)=true):aX h 5 (.ptr a 0 0 2) k=true:=by
 refine dw V (aI.2 (by simp;omega)) ?_;rw[show((x :: y :: (cv++[z])).drop 2).take 5=cv from by simp only[List.drop_succ_cons,List.drop_zero];rw[List.take_append_of_le_length (by omega),List.take_of_length_le (by omega)]]
 exact s
theorem ahi {h:ah} {a:Nat} {x y z:AV} {cv:List AV} {k:AV→Bool} (V:Var h a (x :: y :: (cv++[z]))) (hl:cv.length=5) (s:k z=true):av h (.ptr a 0 0 7) k=true:=by
 refine aJ V ?_ s;simp only[List.getElem?_cons_succ];rw[List.getElem?_append_right (by omega),hl];rfl
theorem qx:∀N,QX N
 |0=>fun n h v c c' K hv _ _ _ _ _ _=>by have:=R9 v;omega
 |N+1=>fun n h0 v c c' K hv hB hn ho R R' k=>by
  have Q:=qx N;obtain⟨n,rfl⟩:∃m,n=m+1:=⟨n-1,by omega⟩;have⟨op,t,v,l⟩:=v;have A:=Cx.start2 ho (R1:=fun h=>RE h c (.mk op t v l)) (R2:=fun h=>RE h c' (.mk op t v l)) (fun h' e=>R.ext e) (fun h' e=>R'.ext e);have hc:cE (.mk op t v l)=t.length+cV v+vT l+1:=by simp only[cE]
  have hcv:=QW v;have C1:=R.cells;have C2:=R'.cells;simp only[RE] at R R';obtain⟨cv,va,es,rfl,W,V,Rl⟩:=R;obtain⟨cv',va',es',rfl,W',V',Rl'⟩:=R';apply d31;unfold s31;refine rC A C1.1 rfl C1.2.1 fun a h A=>QB A C2.1 rfl C2.2.1 fun a' h A=>have A:=A.swapL;?_
  repeat first |refine aho ?_ |refine aht ?_ |refine ab5 A.var W'.cells.1 ?_ |refine ab5 A.v1 W.cells.1 ?_ |(with_reducible first |refine ay ?_ |refine cO ?_ |refine iU ?_ |refine fH ?_ |refine aJ A.var rfl ?_ |refine aJ A.v1 rfl ?_)
  exact have e0:Ext h0 h:=A.f0;qv _ _ _ _ _ _ _ (Nat.le_refl _) (by omega) (by omega) A.ok (W.ext e0) (W'.ext e0) fun h' e' o'=>have A:=A.ext e' o';have e0:=e0.trans e';aD rfl<|ahi A.v1 W.cells.1<|ahi A.var W'.cells.1<|iU<|q46 Q (by omega) (by omega) (by omega) A.ok (V.ext e0) (Rl.ext e0) (V'.ext e0) (Rl'.ext e0) fun h'' e'' o''=>aD rfl<|fH (k h'' (e0.trans e'') o'')
theorem aki {n:Nat} {h:ah} {v:Ex} {c c':List AV} {K:aK} (hB:cE v≤big) (hn:3*cE v+6≤n) (ho:h.Ok) (R:RE h c v) (R':RE h c' v) (k:∀h',Ext h h'→h'.Ok→K (.bool true) h'=true):ak E n (.func 31) [.agg c, .agg c'] h K=true:=
 qx _ _ _ _ _ _ _ (Nat.le_refl _) hB hn ho R R' k
theorem aqd {n:Nat} {h:ah} {l:List Ex} {va vb:AV} {es es':List (List AV)} {K:aK} (hB:vT l≤big) (hn:3*vT l+8≤n) (ho:h.Ok) (V:View h 8 va es) (R:mH h es l) (V':View h 8 vb es') (R':mH h es' l)
 (k:∀h',Ext h h'→h'.Ok→K (.bool true) h'=true):ak E n (.func 32) [va,vb] h K=true:=q46 (qx _) (Nat.le_refl _) hB hn ho V R V' R' k
theorem pX.ext {h h':ah} (e:Ext h h'):∀{a:List (List AV)} {l:List (Str×Ex)},pX h a l→pX h' a l
 |a,[],H=>by simp only[pX] at H ⊢;exact H
 |a,v :: l,H=>by
  simp only[pX] at H ⊢;exact have⟨c,r,h1,h2,h3⟩:=H;⟨c,r,h1,h2.ext e,pX.ext e h3⟩
mutual
theorem RC.ext {h h':ah} (e:Ext h h'):∀{a:List AV} {v:Cd},RC h a v→RC h' a v
 |a, .mk kind var cls binds tests conds thn alts ex fn name args,H=>by
  simp only[RC] at H ⊢;exact have⟨vb,vt,et,vc,ec,vn,en,va,ea,ce,vg,eg,h0,h1,h2,h3,h4,h5,h6,h7,h8,h9,h10,h11,h12⟩:=H;⟨vb,vt,et,vc,ec,vn,en,va,ea,ce,vg,eg,h0,h1.ext e,h2.ext e,h3.ext e,h4.ext e,eY.ext e h5,h6.ext e,eY.ext e h7,h8.ext e,eH.ext e h9,h10.ext e,h11.ext e,h12.ext e⟩
theorem eY.ext {h h':ah} (e:Ext h h'):∀{a:List (List AV)} {l:List Cd},eY h a l→eY h' a l
 |a,[],H=>by simp only[eY] at H ⊢;exact H
 |a,v :: l,H=>by
  simp only[eY] at H ⊢;exact have⟨c,r,h1,h2,h3⟩:=H;⟨c,r,h1,RC.ext e h2,eY.ext e h3⟩
theorem eH.ext {h h':ah} (e:Ext h h'):∀{a:List (List AV)} {l:List (List Cd)},eH h a l→eH h' a l
 |a,[],H=>by simp only[eH] at H ⊢;exact H
 |a,v :: l,H=>by
  simp only[eH] at H ⊢;exact have⟨c,ec,r,h1,h2,h3,h4⟩:=H;⟨c,ec,r,h1,h2.ext e,eY.ext e h3,eH.ext e h4⟩
end
theorem pX.get {h:ah}:∀{es:List (List AV)} {l:List (Str×Ex)},pX h es l→es.length=l.length∧∀(j:Nat) (b:Str×Ex),l[j]? =some b→∃c,es[j]? =some (.str b.1 :: c)∧RE h c b.2
 |es,[],R=>by simp only[pX] at R;subst R;exact⟨rfl,fun j b e=>by simp at e⟩
 |es,v :: l,R=>by
  simp only[pX] at R;obtain⟨c,r,rfl,R1,R2⟩:=R;refine have⟨h1,h2⟩:=pX.get R2;⟨by simp[h1],fun j b e=> ?_⟩
  cases j with
  |zero=>simp only[List.getElem?_cons_zero,Option.some.injEq] at e ⊢;subst e;exact⟨c,rfl,R1⟩
  |succ j=>simp only[List.getElem?_cons_succ] at e ⊢;exact h2 j b e
theorem eY.get {h:ah}:∀{es:List (List AV)} {l:List Cd},eY h es l→es.length=l.length∧∀(j:Nat) (b:Cd),l[j]? =some b→∃c,es[j]? =some c∧RC h c b
 |es,[],R=>by simp only[eY] at R;subst R;exact⟨rfl,fun j b e=>by simp at e⟩
 |es,v :: l,R=>by
  simp only[eY] at R;obtain⟨c,r,rfl,R1,R2⟩:=R;refine have⟨h1,h2⟩:=eY.get R2;⟨by simp[h1],fun j b e=> ?_⟩
  cases j with
  |zero=>simp only[List.getElem?_cons_zero,Option.some.injEq] at e ⊢;subst e;exact⟨c,rfl,R1⟩
  |succ j=>simp only[List.getElem?_cons_succ] at e ⊢;exact h2 j b e
theorem eH.get {h:ah}:∀{es:List (List AV)} {l:List (List Cd)},eH h es l→es.length=l.length∧∀(j:Nat) (b:List Cd),l[j]? =some b→∃v ec,es[j]? =some [v]∧View h 19 v ec∧eY h ec b
 |es,[],R=>by simp only[eH] at R;subst R;exact⟨rfl,fun j b e=>by simp at e⟩
 |es,v :: l,R=>by
  simp only[eH] at R;obtain⟨c,ec,r,rfl,R1,R2,R3⟩:=R;refine have⟨h1,h2⟩:=eH.get R3;⟨by simp[h1],fun j b e=> ?_⟩
  cases j with
  |zero=>simp only[List.getElem?_cons_zero,Option.some.injEq] at e ⊢;subst e;exact⟨c,ec,rfl,R1,R2⟩
  |succ j=>simp only[List.getElem?_cons_succ] at e ⊢;exact h2 j b e
theorem RS (v:Cd):0<cC v:=by cases v;unfold cC;omega
theorem rF:∀{l:List Cd} {j:Nat} {b:Cd},l[j]? =some b→cC b≤gH l
 | [],j,b,e=>by simp at e
 |v :: l,0,b,e=>by simp only[List.getElem?_cons_zero,Option.some.injEq] at e;subst e;unfold gH;omega
 |v :: l,j+1,b,e=>by simp only[List.getElem?_cons_succ] at e;have:=rF e;unfold gH;omega
theorem pO:∀(l:List Cd),l.length≤gH l
 | []=>Nat.le_refl _
 |v :: l=>by have:=pO l;have:=RS v;unfold gH;simp only[List.length_cons];omega
theorem rO:∀{l:List (List Cd)} {j:Nat} {b:List Cd},l[j]? =some b→gH b+1≤iP l
 | [],j,b,e=>by simp at e
 |v :: l,0,b,e=>by simp only[List.getElem?_cons_zero,Option.some.injEq] at e;subst e;unfold iP;omega
 |v :: l,j+1,b,e=>by simp only[List.getElem?_cons_succ] at e;have:=rO e;unfold iP;omega
theorem rV:∀(l:List (List Cd)),l.length≤iP l
 | []=>Nat.le_refl _
 |v :: l=>by have:=rV l;unfold iP;simp only[List.length_cons];omega
theorem Xa:∀{l:List (Str×Ex)} {j:Nat} {b:Str×Ex},l[j]? =some b→cE b.2≤cG l
 | [],j,b,e=>by simp at e
 |v :: l,0,b,e=>by simp only[List.getElem?_cons_zero,Option.some.injEq] at e;subst e;unfold cG;omega
 |v :: l,j+1,b,e=>by simp only[List.getElem?_cons_succ] at e;have:=Xa e;unfold cG;omega
theorem XA:∀(l:List (Str×Ex)),l.length≤cG l
 | []=>Nat.le_refl _
 |v :: l=>by have:=XA l;unfold cG;simp only[List.length_cons];omega
theorem XZ:∀(l:List (Str×Str)),l.length≤cB l
 | []=>Nat.le_refl _
 |v :: l=>by have:=XZ l;unfold cB;simp only[List.length_cons];omega
theorem aib (h:ah) (b:Str×Str):Ja h true (.agg [.str, .str]) (.agg (oF b)) (.agg (oF b))=some (.bool false):=by
 simp only[Ja,eqA,aeH,oF,vR,sM,cond_true,qh,vV,ug,decide_true,Bool.not_true]
def QC (N:Nat):Prop:=∀(n:Nat) (h:ah) (v:Cd) (c c':List AV) (K:aK),cC v≤N→cC v≤big→3*cC v+6≤n→h.Ok→RC h c v→RC h c' v→(∀h',Ext h h'→h'.Ok→K (.bool true) h'=true)→ak E n (.func 16) [.agg c, .agg c'] h K=true
theorem q15 {N:Nat} (Q:QC N) {n:Nat} {h:ah} {l:List Cd} {va vb:AV} {es es':List (List AV)} {K:aK} (hN:gH l≤N) (hB:gH l≤big) (hn:3*gH l+8≤n) (ho:h.Ok) (V:View h 19 va es) (R:eY h es l) (V':View h 19 vb es') (R':eY h es' l)
 (k:∀h',Ext h h'→h'.Ok→K (.bool true) h'=true):ak E n (.func 7) [va,vb] h K=true:=by
 obtain⟨n,rfl⟩:∃m,n=m+1:=⟨n-1,by omega⟩;have hlen:=pO l;have⟨g1,g2⟩:=R.get;have⟨g1',g2'⟩:=R'.get;apply d7;unfold s7;refine dZ V (dZ V' (jC ?_));rw[g1,g1',decide_eq_true rfl];refine bE ?_;unfold aea;have lp:∀(m i:Nat) (h':ah),i≤l.length→l.length-i<m→Ext h h'→h'.Ok→TJ (ak E n) n m va vb (.int .i64 (i:Int)) h' K=true:=by
  intro m
  induction m with
  |zero=>intro i h' _ hm;omega
  |succ m ih=>
   intro i h' hi hm e o;rw[afN];unfold Zq;refine dZ (V.ext e) (fT ?_);rw[g1];by_cases hlt:i<l.length
   ·rw[decide_eq_true hlt];have hb:l[i]? =some l[i]:=List.getElem?_eq_getElem hlt;generalize l[i]=b at hb;have⟨c,hc,Rc⟩:=g2 i b hb;have⟨c',hc',Rc'⟩:=g2' i b hb;exact have hw:=rF hb;bN (rM (V.ext e) hc Rc.cells.1 (rM (V'.ext e) hc' Rc'.cells.1<|Q _ _ _ _ _ _ (by omega) (by omega) (by omega) o (Rc.ext e) (Rc'.ext e) fun h'' e' o'=>aD rfl (rnd (v:=va) (h:=h) (by omega)<|ih (i+1) h'' (by omega) (by omega) (e.trans e') o')))
   ·rw[decide_eq_false hlt];exact bE (k h' e o)
 exact lp n 0 h (Nat.zero_le _) (by omega) (Ext.refl _) ho
theorem q47 {N:Nat} (Q:QC N) {n:Nat} {h:ah} {l:List (List Cd)} {va vb:AV} {es es':List (List AV)} {K:aK} (hN:iP l≤N) (hB:iP l≤big) (hn:3*iP l+9≤n) (ho:h.Ok) (V:View h 1 va es) (R:eH h es l) (V':View h 1 vb es') (R':eH h es' l)
 (k:∀h',Ext h h'→h'.Ok→K (.bool true) h'=true):ak E n (.func 33) [va,vb] h K=true:=by
 obtain⟨n,rfl⟩:∃m,n=m+1:=⟨n-1,by omega⟩;have hlen:=rV l;have⟨g1,g2⟩:=R.get;have⟨g1',g2'⟩:=R'.get;apply d33;unfold s33;refine dZ V (dZ V' (jC ?_));rw[g1,g1',decide_eq_true rfl];refine bE ?_;unfold V8;have lp:∀(m i:Nat) (h':ah),i≤l.length→l.length-i<m→Ext h h'→h'.Ok→JL (ak E n) n m va vb (.int .i64 (i:Int)) h' K=true:=by
  intro m
  induction m with
  |zero=>intro i h' _ hm;omega
  |succ m ih=>
   intro i h' hi hm e o;rw[ach];unfold QY;refine dZ (V.ext e) (fT ?_);rw[g1];by_cases hlt:i<l.length
   ·rw[decide_eq_true hlt];have hb:l[i]? =some l[i]:=List.getElem?_eq_getElem hlt;generalize l[i]=b at hb;have⟨v,ec,hc,Vc,Rc⟩:=g2 i b hb;have⟨v',ec',hc',Vc',Rc'⟩:=g2' i b hb;exact have hw:=rO hb;bN (nV (V.ext e) hc rfl (nV (V'.ext e) hc' rfl<|q15 Q (by omega) (by omega) (by omega) o (Vc.ext e) (Rc.ext e) (Vc'.ext e) (Rc'.ext e) fun h'' e' o'=>aD rfl (rnd (v:=va) (h:=h) (by omega)<|ih (i+1) h'' (by omega) (by omega) (e.trans e') o')))
   ·rw[decide_eq_false hlt];exact bE (k h' e o)
 exact lp n 0 h (Nat.zero_le _) (by omega) (Ext.refl _) ho
set_option maxRecDepth 100000 in
theorem qc:∀N,QC N
 |0=>fun n h v c c' K hv _ _ _ _ _ _=>by have:=RS v;omega
 |N+1=>fun n h0 v c c' K hv hB hn ho R R' k=>by
  have Q:=qc N;have hbig:big=1000000000:=rfl;have hlim:lim=4611686018427387904:=rfl;obtain⟨n,rfl⟩:∃m,n=m+1:=⟨n-1,by omega⟩;obtain⟨kind,var,cls,binds,tests,conds,thn,alts,ex,fn,name,args⟩:=v;have hc:cC (.mk kind var cls binds tests conds thn alts ex fn name args)=var.length+cls.length+cB binds+vT tests+gH conds+gH thn+iP alts+cE ex+fn.length+name.length+cG args+1:=by simp only[cC]
  have hce:=R9 ex;have hbl:=XZ binds;have hgl:=XA args;have C1:=R.cells;have C2:=R'.cells;simp only[RC] at R R';obtain⟨vb,vt,et,vc,ec,vn,en,va,ea,ce,vg,eg,rfl,Vb,Vt,Rt,Vc,Rc,Vn,Rn,Va,Ra,Re,Vg,Rg⟩:=R;obtain⟨vb',vt',et',vc',ec',vn',en',va',ea',ce',vg',eg',rfl,Vb',Vt',Rt',Vc',Rc',Vn',Rn',Va',Ra',Re',Vg',Rg'⟩:=R';obtain⟨x0,x1,x2,x3,x4,x5,x6,x7,rfl⟩:=len8 Re.cells.1;obtain⟨y0,y1,y2,y3,y4,y5,y6,y7,rfl⟩:=len8 Re'.cells.1;simp only[List.cons_append,List.nil_append] at C1 C2 ⊢;have A:=Cx.start ho (F:=[]) (fun R m=>nomatch m);obtain⟨gg1,gg2⟩:=Rg.get;obtain⟨gg1',gg2'⟩:=Rg'.get;apply d16;unfold s16;refine rC A C1.1 rfl C1.2.1 fun a h A=> ?_;refine QB A C2.1 rfl C2.2.1 fun a' h A=> ?_;have A:=A.swapL;have e0:Ext h0 h:=A.f0
  repeat first |refine ahH ?_ |refine acE ?_ |refine dZ (Vb.ext e0) ?_ |refine dZ (Vb'.ext e0) ?_ |(with_reducible first |refine ay ?_ |refine bU ?_ |refine fP ?_ |refine fM ?_ |refine bN ?_ |refine bE ?_ |refine cO ?_ |refine dx ?_ |refine iU ?_ |refine lK ?_ |refine fH ?_ |refine gD ?_ |refine mP ?_ |refine jC ?_ |refine aJ A.var rfl ?_ |refine aJ A.v1 rfl ?_ |refine aJ A.v2 rfl ?_ |refine aJ A.v3 rfl ?_ |refine dw A.var rfl ?_ |refine dw A.v1 rfl ?_ |refine dw A.v2 rfl ?_ |refine dw A.v3 rfl ?_)
  repeat first |refine ahH ?_ |refine acE ?_ |refine dZ (Vg.ext e0) ?_ |refine dZ (Vg'.ext e0) ?_ |(with_reducible first |refine ay ?_ |refine bU ?_ |refine fP ?_ |refine fM ?_ |refine bN ?_ |refine bE ?_ |refine cO ?_ |refine dx ?_ |refine iU ?_ |refine lK ?_ |refine fH ?_ |refine gD ?_ |refine mP ?_ |refine jC ?_ |refine aJ A.var rfl ?_ |refine aJ A.v1 rfl ?_ |refine aJ A.v2 rfl ?_ |refine aJ A.v3 rfl ?_ |refine dw A.var rfl ?_ |refine dw A.v1 rfl ?_ |refine dw A.v2 rfl ?_ |refine dw A.v3 rfl ?_)
  rw[gg1,gg1',decide_eq_true rfl]
  repeat first |(with_reducible first |refine ay ?_ |refine bU ?_ |refine fP ?_ |refine fM ?_ |refine bN ?_ |refine bE ?_ |refine cO ?_ |refine dx ?_ |refine iU ?_ |refine lK ?_ |refine fH ?_ |refine gD ?_ |refine mP ?_ |refine jC ?_ |refine aJ A.var rfl ?_ |refine aJ A.v1 rfl ?_ |refine aJ A.v2 rfl ?_ |refine aJ A.v3 rfl ?_ |refine dw A.var rfl ?_ |refine dw A.v1 rfl ?_ |refine dw A.v2 rfl ?_ |refine dw A.v3 rfl ?_)
  unfold Xd;have l1:∀(m i:Nat),i≤binds.length→binds.length-i<m→(SG (ak E n) n (.ptr a 0 0 0) (.ptr a' 0 0 0) h K=true)→Lr (ak E n) n m (.ptr a 0 0 0) (.ptr a' 0 0 0) (.int .i64 (i:Int)) h K=true:=by
   intro m
   induction m with
   |zero=>intro i _ hm;omega
   |succ m ih=>
    intro i hi hm kk;rw[ac3];unfold Sq
    repeat first |refine dZ (Vb.ext e0) ?_ |refine fT ?_ |(with_reducible first |refine ay ?_ |refine bU ?_ |refine fP ?_ |refine fM ?_ |refine bN ?_ |refine bE ?_ |refine cO ?_ |refine dx ?_ |refine iU ?_ |refine lK ?_ |refine fH ?_ |refine gD ?_ |refine mP ?_ |refine jC ?_ |refine aJ A.var rfl ?_ |refine aJ A.v1 rfl ?_ |refine aJ A.v2 rfl ?_ |refine aJ A.v3 rfl ?_ |refine dw A.var rfl ?_ |refine dw A.v1 rfl ?_ |refine dw A.v2 rfl ?_ |refine dw A.v3 rfl ?_)
    rw[List.length_map];by_cases hlt:i<binds.length
    ·rw[decide_eq_true hlt];have hb:binds[i]? =some binds[i]:=List.getElem?_eq_getElem hlt;generalize binds[i]=b at hb;have hb':(binds.map oF)[i]? =some (oF b):=by rw[List.getElem?_map,hb];rfl
     repeat first |refine rM (Vb.ext e0) hb' rfl ?_ |(with_reducible first |refine ay ?_ |refine bU ?_ |refine fP ?_ |refine fM ?_ |refine bN ?_ |refine bE ?_ |refine cO ?_ |refine dx ?_ |refine iU ?_ |refine lK ?_ |refine fH ?_ |refine gD ?_ |refine mP ?_ |refine jC ?_ |refine aJ A.var rfl ?_ |refine aJ A.v1 rfl ?_ |refine aJ A.v2 rfl ?_ |refine aJ A.v3 rfl ?_ |refine dw A.var rfl ?_ |refine dw A.v1 rfl ?_ |refine dw A.v2 rfl ?_ |refine dw A.v3 rfl ?_)
     repeat first |refine rM (Vb'.ext e0) hb' rfl ?_ |refine qJ (aib _ _) ?_ |(with_reducible first |refine ay ?_ |refine bU ?_ |refine fP ?_ |refine fM ?_ |refine bN ?_ |refine bE ?_ |refine cO ?_ |refine dx ?_ |refine iU ?_ |refine lK ?_ |refine fH ?_ |refine gD ?_ |refine mP ?_ |refine jC ?_ |refine aJ A.var rfl ?_ |refine aJ A.v1 rfl ?_ |refine aJ A.v2 rfl ?_ |refine aJ A.v3 rfl ?_ |refine dw A.var rfl ?_ |refine dw A.v1 rfl ?_ |refine dw A.v2 rfl ?_ |refine dw A.v3 rfl ?_)
     refine gZ (by omega) ?_;exact ih (i+1) (by omega) (by omega) kk
    ·rw[decide_eq_false hlt];exact bE kk
  refine l1 n 0 (Nat.zero_le _) (by omega) ?_;unfold SG;have l2:∀(m i:Nat) (h:ah),i≤args.length→args.length-i<m→Cx h [vr a' [AV.int IntKind.i64 kind,AV.str var,AV.str cls,vb',vt',vc',vn',va',y0,y1,y2,y3,y4,y5,y6,y7,AV.str fn,AV.str name,vg'],vr a [AV.int IntKind.i64 kind,AV.str var,AV.str cls,vb,vt,vc,vn,va,x0,x1,x2,x3,x4,x5,x6,x7,AV.str fn,AV.str name,vg]] [] [Ext h0]→
   (∀h,Cx h [vr a' [AV.int IntKind.i64 kind,AV.str var,AV.str cls,vb',vt',vc',vn',va',y0,y1,y2,y3,y4,y5,y6,y7,AV.str fn,AV.str name,vg'],vr a [AV.int IntKind.i64 kind,AV.str var,AV.str cls,vb,vt,vc,vn,va,x0,x1,x2,x3,x4,x5,x6,x7,AV.str fn,AV.str name,vg]] [] [Ext h0]→Qb (ak E n) n (.ptr a 0 0 0) (.ptr a' 0 0 0) h K=true)→KG (ak E n) n m (.ptr a 0 0 0) (.ptr a' 0 0 0) (.int .i64 (i:Int)) h K=true:=by
   intro m
   induction m with
   |zero=>intro i h _ hm;omega
   |succ m ih=>
    intro i h hi hm A kk;have e0:Ext h0 h:=A.f0;rw[acO];unfold Q9
    repeat first |refine dZ (Vg.ext e0) ?_ |refine fT ?_ |(with_reducible first |refine ay ?_ |refine bU ?_ |refine fP ?_ |refine fM ?_ |refine bN ?_ |refine bE ?_ |refine cO ?_ |refine dx ?_ |refine iU ?_ |refine lK ?_ |refine fH ?_ |refine gD ?_ |refine mP ?_ |refine jC ?_ |refine aJ A.var rfl ?_ |refine aJ A.v1 rfl ?_ |refine aJ A.v2 rfl ?_ |refine aJ A.v3 rfl ?_ |refine dw A.var rfl ?_ |refine dw A.v1 rfl ?_ |refine dw A.v2 rfl ?_ |refine dw A.v3 rfl ?_)
    rw[gg1];by_cases hlt:i<args.length
    ·rw[decide_eq_true hlt];have hb:args[i]? =some args[i]:=List.getElem?_eq_getElem hlt;generalize args[i]=b at hb;have hw:=Xa hb;obtain⟨c,hc,R⟩:=gg2 i b hb;obtain⟨c',hc',R'⟩:=gg2' i b hb;obtain⟨w0,w1,w2,w3,w4,w5,w6,w7,rfl⟩:=len8 R.cells.1;obtain⟨z0,z1,z2,z3,z4,z5,z6,z7,rfl⟩:=len8 R'.cells.1
     repeat first |(with_reducible first |refine ay ?_ |refine bU ?_ |refine fP ?_ |refine fM ?_ |refine bN ?_ |refine bE ?_ |refine cO ?_ |refine dx ?_ |refine iU ?_ |refine lK ?_ |refine fH ?_ |refine gD ?_ |refine mP ?_ |refine jC ?_ |refine aJ A.var rfl ?_ |refine aJ A.v1 rfl ?_ |refine aJ A.v2 rfl ?_ |refine aJ A.v3 rfl ?_ |refine dw A.var rfl ?_ |refine dw A.v1 rfl ?_ |refine dw A.v2 rfl ?_ |refine dw A.v3 rfl ?_)
     refine Fu (Vg.ext e0) hc fun i1 g1 j1 q1=> ?_
     repeat first |refine aU (q1 false 0 1) ?_ |(with_reducible first |refine ay ?_ |refine bU ?_ |refine fP ?_ |refine fM ?_ |refine bN ?_ |refine bE ?_ |refine cO ?_ |refine dx ?_ |refine iU ?_ |refine lK ?_ |refine fH ?_ |refine gD ?_ |refine mP ?_ |refine jC ?_ |refine aJ A.var rfl ?_ |refine aJ A.v1 rfl ?_ |refine aJ A.v2 rfl ?_ |refine aJ A.v3 rfl ?_ |refine dw A.var rfl ?_ |refine dw A.v1 rfl ?_ |refine dw A.v2 rfl ?_ |refine dw A.v3 rfl ?_)
     refine Fu (Vg'.ext e0) hc' fun i2 g2 j2 q2=> ?_
     repeat first |refine aU (q2 false 0 1) ?_ |refine acE ?_ |(with_reducible first |refine ay ?_ |refine bU ?_ |refine fP ?_ |refine fM ?_ |refine bN ?_ |refine bE ?_ |refine cO ?_ |refine dx ?_ |refine iU ?_ |refine lK ?_ |refine fH ?_ |refine gD ?_ |refine mP ?_ |refine jC ?_ |refine aJ A.var rfl ?_ |refine aJ A.v1 rfl ?_ |refine aJ A.v2 rfl ?_ |refine aJ A.v3 rfl ?_ |refine dw A.var rfl ?_ |refine dw A.v1 rfl ?_ |refine dw A.v2 rfl ?_ |refine dw A.v3 rfl ?_)
     refine Fu (Vg.ext e0) hc fun i1 g1 j1 q1=> ?_
     repeat first |refine vF (q1 true 1 8) ?_ |(with_reducible first |refine ay ?_ |refine bU ?_ |refine fP ?_ |refine fM ?_ |refine bN ?_ |refine bE ?_ |refine cO ?_ |refine dx ?_ |refine iU ?_ |refine lK ?_ |refine fH ?_ |refine gD ?_ |refine mP ?_ |refine jC ?_ |refine aJ A.var rfl ?_ |refine aJ A.v1 rfl ?_ |refine aJ A.v2 rfl ?_ |refine aJ A.v3 rfl ?_ |refine dw A.var rfl ?_ |refine dw A.v1 rfl ?_ |refine dw A.v2 rfl ?_ |refine dw A.v3 rfl ?_)
     refine Fu (Vg'.ext e0) hc' fun i2 g2 j2 q2=> ?_
     repeat first |refine vF (q2 true 1 8) ?_ |(with_reducible first |refine ay ?_ |refine bU ?_ |refine fP ?_ |refine fM ?_ |refine bN ?_ |refine bE ?_ |refine cO ?_ |refine dx ?_ |refine iU ?_ |refine lK ?_ |refine fH ?_ |refine gD ?_ |refine mP ?_ |refine jC ?_ |refine aJ A.var rfl ?_ |refine aJ A.v1 rfl ?_ |refine aJ A.v2 rfl ?_ |refine aJ A.v3 rfl ?_ |refine dw A.var rfl ?_ |refine dw A.v1 rfl ?_ |refine dw A.v2 rfl ?_ |refine dw A.v3 rfl ?_)
     refine aki (by omega) (by omega) A.ok (R.ext e0) (R'.ext e0) fun h' e' o'=> ?_;refine aD rfl ?_
     repeat first |(with_reducible first |refine ay ?_ |refine bU ?_ |refine fP ?_ |refine fM ?_ |refine bN ?_ |refine bE ?_ |refine cO ?_ |refine dx ?_ |refine iU ?_ |refine lK ?_ |refine fH ?_ |refine gD ?_ |refine mP ?_ |refine jC ?_ |refine aJ A.var rfl ?_ |refine aJ A.v1 rfl ?_ |refine aJ A.v2 rfl ?_ |refine aJ A.v3 rfl ?_ |refine dw A.var rfl ?_ |refine dw A.v1 rfl ?_ |refine dw A.v2 rfl ?_ |refine dw A.v3 rfl ?_)
     refine gZ (by omega) ?_;exact ih (i+1) h' (by omega) (by omega) (A.ext e' o') kk
    ·rw[decide_eq_false hlt];exact bE (kk h A)
  refine l2 n 0 h (Nat.zero_le _) (by omega) A fun h A=> ?_;unfold Qb
  repeat first |(with_reducible first |refine ay ?_ |refine bU ?_ |refine fP ?_ |refine fM ?_ |refine bN ?_ |refine bE ?_ |refine cO ?_ |refine dx ?_ |refine iU ?_ |refine lK ?_ |refine fH ?_ |refine gD ?_ |refine mP ?_ |refine jC ?_ |refine aJ A.var rfl ?_ |refine aJ A.v1 rfl ?_ |refine aJ A.v2 rfl ?_ |refine aJ A.v3 rfl ?_ |refine dw A.var rfl ?_ |refine dw A.v1 rfl ?_ |refine dw A.v2 rfl ?_ |refine dw A.v3 rfl ?_)
  have e0:Ext h0 h:=A.f0;refine aqd (by omega) (by omega) A.ok (Vt.ext e0) (Rt.ext e0) (Vt'.ext e0) (Rt'.ext e0) fun h e' o'=> ?_;have A:=A.ext e' o';refine aD rfl ?_;unfold Gm
  repeat first |(with_reducible first |refine ay ?_ |refine bU ?_ |refine fP ?_ |refine fM ?_ |refine bN ?_ |refine bE ?_ |refine cO ?_ |refine dx ?_ |refine iU ?_ |refine lK ?_ |refine fH ?_ |refine gD ?_ |refine mP ?_ |refine jC ?_ |refine aJ A.var rfl ?_ |refine aJ A.v1 rfl ?_ |refine aJ A.v2 rfl ?_ |refine aJ A.v3 rfl ?_ |refine dw A.var rfl ?_ |refine dw A.v1 rfl ?_ |refine dw A.v2 rfl ?_ |refine dw A.v3 rfl ?_)
  have e0:Ext h0 h:=A.f0;refine q15 Q (by omega) (by omega) (by omega) A.ok (Vc.ext e0) (Rc.ext e0) (Vc'.ext e0) (Rc'.ext e0) fun h e' o'=> ?_;have A:=A.ext e' o';refine aD rfl ?_;unfold Gv
  repeat first |(with_reducible first |refine ay ?_ |refine bU ?_ |refine fP ?_ |refine fM ?_ |refine bN ?_ |refine bE ?_ |refine cO ?_ |refine dx ?_ |refine iU ?_ |refine lK ?_ |refine fH ?_ |refine gD ?_ |refine mP ?_ |refine jC ?_ |refine aJ A.var rfl ?_ |refine aJ A.v1 rfl ?_ |refine aJ A.v2 rfl ?_ |refine aJ A.v3 rfl ?_ |refine dw A.var rfl ?_ |refine dw A.v1 rfl ?_ |refine dw A.v2 rfl ?_ |refine dw A.v3 rfl ?_)
  have e0:Ext h0 h:=A.f0;refine q15 Q (by omega) (by omega) (by omega) A.ok (Vn.ext e0) (Rn.ext e0) (Vn'.ext e0) (Rn'.ext e0) fun h e' o'=> ?_;have A:=A.ext e' o';refine aD rfl ?_;unfold Hu
  repeat first |(with_reducible first |refine ay ?_ |refine bU ?_ |refine fP ?_ |refine fM ?_ |refine bN ?_ |refine bE ?_ |refine cO ?_ |refine dx ?_ |refine iU ?_ |refine lK ?_ |refine fH ?_ |refine gD ?_ |refine mP ?_ |refine jC ?_ |refine aJ A.var rfl ?_ |refine aJ A.v1 rfl ?_ |refine aJ A.v2 rfl ?_ |refine aJ A.v3 rfl ?_ |refine dw A.var rfl ?_ |refine dw A.v1 rfl ?_ |refine dw A.v2 rfl ?_ |refine dw A.v3 rfl ?_)
  have e0:Ext h0 h:=A.f0;refine q47 Q (by omega) (by omega) (by omega) A.ok (Va.ext e0) (Ra.ext e0) (Va'.ext e0) (Ra'.ext e0) fun h e' o'=> ?_;have A:=A.ext e' o';refine aD rfl ?_;unfold FD
  repeat first |(with_reducible first |refine ay ?_ |refine bU ?_ |refine fP ?_ |refine fM ?_ |refine bN ?_ |refine bE ?_ |refine cO ?_ |refine dx ?_ |refine iU ?_ |refine lK ?_ |refine fH ?_ |refine gD ?_ |refine mP ?_ |refine jC ?_ |refine aJ A.var rfl ?_ |refine aJ A.v1 rfl ?_ |refine aJ A.v2 rfl ?_ |refine aJ A.v3 rfl ?_ |refine dw A.var rfl ?_ |refine dw A.v1 rfl ?_ |refine dw A.v2 rfl ?_ |refine dw A.v3 rfl ?_)
  have e0:Ext h0 h:=A.f0;refine aki (by omega) (by omega) A.ok (Re.ext e0) (Re'.ext e0) fun h e' o'=> ?_;refine aD rfl ?_;unfold FQ;exact fH (k h (e0.trans e') o')
theorem anl {n:Nat} {h:ah} {l:List Cd} {va vb:AV} {es es':List (List AV)} {K:aK} (hB:gH l≤big) (hn:3*gH l+8≤n) (ho:h.Ok) (V:View h 19 va es) (R:eY h es l) (V':View h 19 vb es') (R':eY h es' l)
 (k:∀h',Ext h h'→h'.Ok→K (.bool true) h'=true):ak E n (.func 7) [va,vb] h K=true:=q15 (qc _) (Nat.le_refl _) hB hn ho V R V' R' k
def yx (l:List Cd):Cd:=SS 2 l
def kC:Cd→Nat
 | .mk _ _ _ _ _ cs th al _ _ _ _=>1+kCs cs+kCs th+kCss al
where
 kCs:List Cd→Nat
  | []=>0
  |c :: l=>kC c+kCs l
 kCss:List (List Cd)→Nat
  | []=>0
  |l :: m=>kCs l+kCss m
def fq:List (List (List Cd))→List (List Cd)
 | []=>[[]]
 |b :: l=>b.flatMap fun x=>(fq l).map fun y=>x++y
theorem Fq:∀(a b:List (List (List Cd))),fq (a++b)=(fq a).flatMap fun x=>(fq b).map fun y=>x++y
 | [],b=>by simp[fq]
 |c :: a,b=>by
  simp only[List.cons_append,fq,Fq a b,List.flatMap_assoc,List.flatMap_map,List.map_flatMap,List.map_map,Function.comp_def,List.append_assoc]
theorem OV {α:Type} (f:α→α→α):∀(a b:List α) (k:Nat),k<a.length*b.length→(a.flatMap fun x=>b.map fun y=>f x y)[k]? =(do let x ←a[k/b.length]?;let y ←b[k%b.length]?;pure (f x y))
 | [],b,k,h=>by simp at h
 |x :: a,b,k,h=>by
  have hb:0<b.length:=by
   cases b with
   |nil=>simp at h
   |cons=>simp
  rw[List.flatMap_cons];by_cases hk:k<b.length
  ·rw[List.getElem?_append_left (by simpa using hk),List.getElem?_map,Nat.div_eq_of_lt hk,Nat.mod_eq_of_lt hk];cases b[k]? <;>rfl
  ·have hk':b.length≤k:=Nat.le_of_not_lt hk;rw[List.getElem?_append_right (by simpa using hk'),List.length_map];have hlt:k-b.length<a.length*b.length:=by
    simp only[List.length_cons,Nat.add_mul,Nat.one_mul] at h;omega
   rw[OV f a b (k-b.length) hlt];have h1:k/b.length=(k-b.length)/b.length+1:=by
    conv=>lhs;rw[show k=(k-b.length)+b.length by omega]
    exact Nat.add_div_right _ hb
   have h2:k%b.length=(k-b.length)%b.length:=Nat.mod_eq_sub_mod hk';rw[h1,h2];rfl
theorem AO {α:Type} (f:α→α→α) (a b:List α):(a.flatMap fun x=>b.map fun y=>f x y).length=a.length*b.length:=by
 induction a with
 |nil=>simp
 |cons x a ih=>rw[List.flatMap_cons,List.length_append,List.length_map,ih,List.length_cons,Nat.add_mul,Nat.one_mul,Nat.add_comm]
def exD:List (List Cd)→List (List Cd)
 | [x]=>[[SS 3 x]]
 |l=>[[yx (l.map yx)]]
theorem aiq {l:List (List Cd)} (h:l.length≠1):exD l=[[yx (l.map yx)]]:=by
 match l,h with
 | [],_=>rfl
 |_ :: _ :: _,_=>rfl
mutual
def EW:Cd→List (List Cd)
 | .mk kind var cls binds tests conds thn alts e fn name args=>
   if kind=2 then [(fq (mF conds)).map yx]
   else if kind=3 then exD (fq (mF conds))
   else if kind=4 then [(fq (mF conds)).map fun x=>yx (x++(fq (mF thn)).map yx)]
   else if kind=7 then(match fq (mF conds) with
    | [x]=>[[.mk kind var cls binds tests x thn alts e fn name args]]
    |_=>[])
   else if kind=5 then Co alts
   else [[.mk kind var cls binds tests conds thn alts e fn name args]]
def mF:List Cd→List (List (List Cd))
 | []=>[]
 |c :: l=>EW c :: mF l
def Co:List (List Cd)→List (List Cd)
 | []=>[]
 |l :: m=>fq (mF l)++Co m
end
def fE (l:List Cd):List (List Cd):=fq (mF l)
theorem K4:∀(a b:List Cd),mF (a++b)=mF a++mF b
 | [],b=>rfl
 |c :: a,b=>by simp only[List.cons_append,mF,K4 a b]
theorem acC (a b:List Cd):fE (a++b)=(fE a).flatMap fun u=>(fE b).map fun v=>u++v:=by
 simp only[fE,K4,Fq]
mutual
def Qe:Cd→Bool
 | .mk kind _ _ _ _ conds thn alts _ _ _ _=> !decide (kind=4)&& !decide (kind=5)&&Je conds&&Je thn&&Qa alts
def Je:List Cd→Bool
 | []=>true
 |c :: l=>Qe c&&Je l
def Qa:List (List Cd)→Bool
 | []=>true
 |l :: m=>Je l&&Qa m
end
mutual
def Jc:Cd→Prop
 | .mk kind var cls binds tests conds thn alts e fn name args=>(kind=2∨kind=3→var=[]∧cls=[]∧binds=[]∧tests=[]∧e=wm∧fn=[]∧name=[]∧args=[])∧(kind≠4→thn=[])∧(kind≠5→alts=[])∧
    (kind≠2∧kind≠3∧kind≠4∧kind≠7→conds=[])∧uU conds∧uU thn∧uq alts
def uU:List Cd→Prop
 | []=>True
 |c :: l=>Jc c∧uU l
def uq:List (List Cd)→Prop
 | []=>True
 |l :: m=>uU l∧uq m
end
theorem Df:∀(a b:List Cd),uU a→uU b→uU (a++b)
 | [],b,_,h=>h
 |c :: a,b,h,k=>by simp only[List.cons_append,uU] at h ⊢;exact⟨h.1,Df a b h.2 k⟩
theorem MH:∀(a b:List (List Cd)),uq a→uq b→uq (a++b)
 | [],b,_,h=>h
 |c :: a,b,h,k=>by simp only[List.cons_append,uq] at h ⊢;exact⟨h.1,MH a b h.2 k⟩
mutual
def gdC (W:Nat):Cd→Prop
 | .mk kind var cls binds tests conds thn alts e fn name args=>kind≠4∧kind≠5∧thn=[]∧alts=[]∧var.length+cls.length+cB binds+vT tests+cE e+fn.length+name.length+cG args≤W∧Im W conds
def Im (W:Nat):List Cd→Prop
 | []=>True
 |c :: l=>gdC W c∧Im W l
end
section
variable {W:Nat}
theorem JC:∀(a b:List Cd),Im W a→Im W b→Im W (a++b)
 | [],b,_,h=>h
 |c :: a,b,h,k=>by simp only[List.cons_append,Im] at h ⊢;exact⟨h.1,JC a b h.2 k⟩
theorem SB:∀(l:List Cd),(∀c∈l,gdC W c)→Im W l
 | [],_=>trivial
 |c :: l,h=>by simp only[Im];exact⟨h c List.mem_cons_self,SB l fun d hd=>h d (List.mem_cons_of_mem _ hd)⟩
mutual
theorem akS:∀c:Cd,gdC W c→Qe c=true
 | .mk kind var cls binds tests conds thn alts e fn name args,h=>by
   simp only[gdC] at h;obtain⟨h1,h2,rfl,rfl,_,h3⟩:=h;simp[Qe,Je,Qa,h1,h2,Yg conds h3]
theorem Yg:∀l:List Cd,Im W l→Je l=true
 | [],_=>by simp only[Je]
 |c :: l,h=>by simp only[Im] at h;simp only[Je,akS c h.1,Yg l h.2,Bool.and_self]
end
mutual
theorem ak3:∀c:Cd,gdC W c→cC c≤(W+1)*kC c
 | .mk kind var cls binds tests conds thn alts e fn name args,h=>by
   simp only[gdC] at h;obtain⟨h1,h2,rfl,rfl,h4,h3⟩:=h;have:=LU conds h3;simp only[cC,kC,gH,iP,kC.kCs,kC.kCss,Nat.mul_add];omega
theorem LU:∀l:List Cd,Im W l→gH l≤(W+1)*kC.kCs l
 | [],_=>by simp[gH]
 |c :: l,h=>by
  simp only[Im] at h;have:=ak3 c h.1;have:=LU l h.2;simp only[gH,kC.kCs,Nat.mul_add];omega
end
theorem zf:∀(b:List (List (List Cd))),(∀x∈b,∀y∈x,Im W y)→∀z∈fq b,Im W z
 | [],_,z,h=>by simp only[fq,List.mem_singleton] at h;subst h;trivial
 |x :: b,hb,z,h=>by
  simp only[fq,List.mem_flatMap,List.mem_map] at h;obtain⟨u,hu,v,hv,rfl⟩:=h;exact JC _ _ (hb x List.mem_cons_self u hu) (zf b (fun y hy=>hb y (List.mem_cons_of_mem _ hy)) v hv)
theorem Q7 (hW:8≤W) {n:Int} {l:List Cd} (hn:n=2∨n=3) (h:Im W l):gdC W (SS n l):=by
 unfold SS gdC;exact⟨by omega,by omega,rfl,rfl,by simp only[cB,vT,cG,Nz,List.length_nil];omega,h⟩
theorem Qc (hW:8≤W) {l:List (List Cd)} (h:∀z∈l,Im W z):Im W (l.map yx):=SB _ fun c hc=>by
 obtain⟨z,hz,rfl⟩:=List.mem_map.1 hc;exact Q7 hW (.inl rfl) (h z hz)
theorem af5 {c:Cd} (h:gdC W c):Im W [c]:=by simp only[Im];exact⟨h,trivial⟩
mutual
theorem ZH (hW:8≤W):∀(c:Cd),Jc c→cC c≤W→∀y∈EW c,Im W y
 | .mk kind var cls binds tests conds thn alts e fn name args,w,hc=>by
   simp only[Jc] at w;simp only[cC] at hc;have⟨w1,w2,w3,w4,w5,w6,w7⟩:=w;have hp:=zf _ (CY hW conds w5 (by omega));intro y h;simp only[EW] at h;by_cases k2:kind=2
   ·rw[if_pos k2,List.mem_singleton] at h;subst h;exact Qc hW hp
   rw[if_neg k2] at h;by_cases k3:kind=3
   ·rw[if_pos k3] at h;unfold exD at h;split at h
    ·rename_i z hz;rw[List.mem_singleton] at h;subst h;exact af5 (Q7 hW (.inr rfl) (hp z (by rw[hz];exact List.mem_singleton.2 rfl)))
    ·rw[List.mem_singleton] at h;subst h;exact af5 (Q7 hW (.inl rfl) (Qc hW hp))
   rw[if_neg k3] at h;by_cases k4:kind=4
   ·rw[if_pos k4,List.mem_singleton] at h;subst h;refine SB _ fun c hc=> ?_;obtain⟨z,hz,rfl⟩:=List.mem_map.1 hc;exact Q7 hW (.inl rfl) (JC _ _ (hp z hz) (Qc hW (zf _ (CY hW thn w6 (by omega)))))
   rw[if_neg k4] at h;by_cases k7:kind=7
   ·rw[if_pos k7] at h;split at h
    ·rename_i z hz;rw[List.mem_singleton] at h;subst h;exact af5<|⟨k4,by omega,w2 k4,w3 (by omega),by omega,hp z (by rw[hz];exact List.mem_singleton.2 rfl)⟩
    ·cases h
   rw[if_neg k7] at h;by_cases k5:kind=5
   ·rw[if_pos k5] at h;exact aad hW alts w7 (by omega) y h
   rw[if_neg k5,List.mem_singleton] at h;subst h;refine af5 ?_;unfold gdC;rw[w4 ⟨k2,k3,k4,k7⟩];exact⟨k4,k5,w2 k4,w3 k5,by omega,trivial⟩
theorem CY (hW:8≤W):∀(l:List Cd),uU l→gH l≤W→∀x∈mF l,∀y∈x,Im W y
 | [],w,hc=>by intro x hx;simp only[mF] at hx;cases hx
 |c :: l,w,hc=>by
  simp only[uU] at w;simp only[gH] at hc;intro x hx;simp only[mF] at hx;rcases List.mem_cons.1 hx with rfl |hx
  ·exact ZH hW c w.1 (by omega)
  ·exact CY hW l w.2 (by omega) x hx
theorem aad (hW:8≤W):∀(m:List (List Cd)),uq m→iP m≤W→∀y∈Co m,Im W y
 | [],w,hc=>by intro y hy;simp only[Co] at hy;cases hy
 |l :: m,w,hc=>by
  simp only[uq] at w;simp only[iP] at hc;intro y hy;simp only[Co] at hy;rcases List.mem_append.1 hy with hy |hy
  ·exact zf _ (CY hW l w.1 (by omega)) y hy
  ·exact aad hW m w.2 (by omega) y hy
end
theorem Q6 (hW:8≤W) {l:List Cd} (w:uU l) (hc:gH l≤W):∀z∈fE l,Im W z:=zf _ (CY hW l w hc)
end
theorem FB:∀(l:List Cd),fq (l.map fun c=>[[c]])=[l]
 | []=>rfl
 |c :: l=>by simp only[List.map_cons,fq,FB l,List.flatMap_cons,List.flatMap_nil,List.map_cons,List.map_nil,List.append_nil,List.singleton_append]
mutual
theorem aeE:∀(c:Cd),Jc c→Qe c=true→EW c=[[c]]
 | .mk kind var cls binds tests conds thn alts e fn name args,w,k=>by
   simp only[Jc] at w;have⟨w1,w2,w3,w4,w5,w6,w7⟩:=w;simp only[Qe,Bool.and_eq_true,Bool.not_eq_true',decide_eq_false_iff_not] at k;have⟨⟨⟨⟨k4,k5⟩,kc⟩,kt⟩,ka⟩:=k;have e2:=w2 k4;have e3:=w3 k5;subst e2;subst e3;simp only[EW,Mj conds w5 kc,FB,if_neg k4,if_neg k5];by_cases k2:kind=2
   ·obtain⟨rfl,rfl,rfl,rfl,rfl,rfl,rfl,rfl⟩:=w1 (.inl k2);subst k2;rfl
   by_cases k3:kind=3
   ·obtain⟨rfl,rfl,rfl,rfl,rfl,rfl,rfl,rfl⟩:=w1 (.inr k3);subst k3;rfl
   rw[if_neg k2,if_neg k3,ite_self]
theorem Mj:∀(l:List Cd),uU l→Je l=true→mF l=l.map fun c=>[[c]]
 | [],w,k=>rfl
 |c :: l,w,k=>by
  simp only[uU] at w;simp only[Je,Bool.and_eq_true] at k;simp only[mF,aeE c w.1 k.1,Mj l w.2 k.2,List.map_cons]
end
theorem aei {l:List Cd} (w:uU l) (k:Je l=true):fE l=[l]:=by rw[fE,Mj l w k,FB]
def rfz:AV:= .pan (.ifc 57 (.agg []))
theorem IV {n:Nat} {b:Bool} {h:ah} {K:aK} (hn:1≤n) (t:b=true→K (.tup []) h=true) (f:b=false→K rfz h=true):ak E n (.func 12) [.bool b] h K=true:=by
 obtain⟨n,rfl⟩:∃m,n=m+1:=⟨n-1,by omega⟩;apply d12;unfold s12;cases b with
 |true=>exact fP (bE (t rfl))
 |false=>exact fM (bN (dO rfl (f rfl)))
theorem x44 {n:Nat} {v:AV} {h:ah} {L:gB} {S:List Sl} {F:List (ah→Prop)} {K:aK} (hn:1≤n) (A:Cx h L S F) (hv:v.leaf=true) (k:∀h,Cx h L S F→K (.agg (cCd 2 v .au)) h=true):ak E n (.func 44) [v] h K=true:=by
 obtain⟨n,rfl⟩:∃m,n=m+1:=⟨n-1,by omega⟩;apply d44;unfold s44;exact pG A rfl rfl rfl fun id h A=>dO ((nS rfl rfl).trans ((nS hv rfl).trans rfl))<|LH A rfl rfl rfl (agV hv rfl) fun h A=>sI A.var rfl (k _ A.rest)
theorem Zu:∀{l:List Cd} {j:Nat} {b:Cd},l[j]? =some b→Je (l.drop j)=(Qe b&&Je (l.drop (j+1)))
 | [],_,_,h=>by cases h
 |c :: l,0,b,h=>by
  simp only[List.getElem?_cons_zero,Option.some.injEq] at h;subst h;simp only[List.drop_zero,List.drop_succ_cons,Je]
 |c :: l,j+1,b,h=>by
  simp only[List.getElem?_cons_succ] at h;simp only[List.drop_succ_cons];exact Zu h
theorem TR:∀{l:List (List Cd)} {j:Nat} {b:List Cd},l[j]? =some b→Qa (l.drop j)=(Je b&&Qa (l.drop (j+1)))
 | [],_,_,h=>by cases h
 |c :: l,0,b,h=>by
  simp only[List.getElem?_cons_zero,Option.some.injEq] at h;subst h;simp only[List.drop_zero,List.drop_succ_cons,Qa]
 |c :: l,j+1,b,h=>by
  simp only[List.getElem?_cons_succ] at h;simp only[List.drop_succ_cons];exact TR h
def QK (N:Nat):Prop:=∀(n:Nat) (h:ah) (l:List Cd) (v:AV) (es:List (List AV)) (K:aK),gH l≤N→gH l≤big→3*gH l+8≤n→h.Ok→View h 19 v es→eY h es l→(∀h',Ext h h'→h'.Ok→K (.bool (Je l)) h'=true)→ak E n (.func 17) [v] h K=true
theorem qk (N:Nat):QK N:=by
 induction N using Nat.strongRecOn with
 |ind N IH=>
 intro n h l v es K hN hB hn ho V R k;obtain⟨n,rfl⟩:∃m,n=m+1:=⟨n-1,by omega⟩;have hbig:big=1000000000:=rfl;have hlim:lim=4611686018427387904:=rfl;have hlen:=pO l;obtain⟨g1,g2⟩:=R.get;apply d17;unfold s17;refine dZ V ?_;rw[g1];have lp:∀(m i:Nat) (h':ah),i≤l.length→l.length-i<m→Ext h h'→h'.Ok→Je (l.drop i)=Je l→Pe (ak E n) n m v (.int .i64 (l.length:Int)) (.int .i64 (i:Int)) h' K=true:=by
  intro m
  induction m with
  |zero=>intro i h' _ hm;omega
  |succ m ih=>
   intro i h' hi hm e o hco;rw[agM];unfold YO;refine fT ?_;by_cases hlt:i<l.length
   ·rw[decide_eq_true hlt];refine bN ?_;unfold Yl;have hb:l[i]? =some l[i]:=List.getElem?_eq_getElem hlt;generalize l[i]=b at hb;obtain⟨c,hc,Rc⟩:=g2 i b hb;have hw:=rF hb;have hd:=Zu hb;rw[hco] at hd;refine rM (V.ext e) hc Rc.cells.1 ?_;have A:=Cx.start o (F:=[]) (fun R m=>nomatch m);have C1:=Rc.cells;refine pG A rfl rfl rfl fun id h1 A=>LH A rfl C1.1 rfl C1.2.1 fun h1 A=> ?_;obtain⟨kind,var,cls,binds,tests,conds,thn,alts,ex,fn,name,args⟩:=b;simp only[RC] at Rc;obtain⟨vb,vt,et,vc,ec,vn,en,va,ea,ce,vg,eg,rfl,Vb,Vt,Rt,Vc,Rc,Vn,Rn,Va,Ra,Re,Vg,Rg⟩:=Rc;obtain⟨x0,x1,x2,x3,x4,x5,x6,x7,rfl⟩:=len8 Re.cells.1;simp only[List.cons_append,List.nil_append] at C1 hd ⊢;have hcc:gH conds+gH thn+iP alts+1≤gH l:=by simp only[cC] at hw;omega
    have bad:∀{h'},Qe (.mk kind var cls binds tests conds thn alts ex fn name args)=false→Ext h h'→h'.Ok→K (.bool false) h'=true:=fun hf e o=>by
     rw[hf,Bool.false_and] at hd;rw[←hd];exact k _ e o
    refine ay (aJ A.var rfl (kQ ?_));have eA:=e.trans A.f0;by_cases k4:kind=4
    ·rw[decide_eq_true k4];have hf:Qe (.mk kind var cls binds tests conds thn alts ex fn name args)=false:=by simp[Qe,k4]
     have:=bad hf eA A.ok
     repeat first |(with_reducible first |refine eD ?_ |refine Bn ?_ |refine fH ?_)
     unfold wo;refine eD ?_;refine fH ?_;refine eD ?_;refine eD ?_;refine Bn ?_;unfold tJ;refine eD ?_;refine fH ?_;refine bN ?_;exact this
    rw[decide_eq_false k4];refine dx (ay (dx (aJ A.var rfl (dx (kQ ?_)))));by_cases k5:kind=5
    ·rw[decide_eq_true k5];have hf:Qe (.mk kind var cls binds tests conds thn alts ex fn name args)=false:=by simp[Qe,k5]
     have:=bad hf eA A.ok;refine gD ?_;refine eD ?_;refine eD ?_;refine Bn ?_;unfold wo;refine eD ?_;refine fH ?_;refine eD ?_;refine eD ?_;refine Bn ?_;unfold tJ;refine eD ?_;refine fH ?_;refine bN ?_;exact this
    rw[decide_eq_false k5];refine gD ?_;refine dx ?_;refine ay ?_;refine dx ?_;refine aJ A.var rfl ?_;refine lK ?_;refine IH (gH conds) (by omega) n _ conds vc ec _ (Nat.le_refl _) (by omega) (by omega) A.ok (Vc.ext eA) (eY.ext eA Rc) fun h2 e2 o2=>aD rfl ?_;have A:=A.ext e2 o2;have eA:=eA.trans e2;unfold wo;cases hc1:Je conds with
    |false=>
     have hf:Qe (.mk kind var cls binds tests conds thn alts ex fn name args)=false:=by simp[Qe,hc1]
     have:=bad hf eA A.ok;refine dx ?_;refine fM ?_;refine gD ?_;refine eD ?_;refine eD ?_;refine Bn ?_;unfold tJ;refine eD ?_;refine fH ?_;refine bN ?_;exact this
    |true=>
    refine dx ?_;refine fP ?_;refine gD ?_;refine dx ?_;refine ay ?_;refine dx ?_;refine aJ A.var rfl ?_;refine lK ?_;refine IH (gH thn) (by omega) n _ thn vn en _ (Nat.le_refl _) (by omega) (by omega) A.ok (Vn.ext eA) (eY.ext eA Rn) fun h2 e2 o2=>aD rfl ?_;have A:=A.ext e2 o2;have eA:=eA.trans e2;unfold tJ;cases hc2:Je thn with
    |false=>
     have hf:Qe (.mk kind var cls binds tests conds thn alts ex fn name args)=false:=by simp[Qe,hc2]
     have:=bad hf eA A.ok;refine dx ?_;refine fM ?_;refine gD ?_;refine bN ?_;exact this
    |true=>
    refine dx ?_;refine fP ?_;refine gD ?_;refine bE ?_;unfold Wo;refine ay ?_;refine aJ A.var rfl ?_;refine dZ (Va.ext eA) ?_;obtain⟨a1,a2⟩:=Ra.get;have hal:=rV alts;have l2:∀(m2 j:Nat) (h3:ah),j≤alts.length→alts.length-j<m2→Ext h h3→h3.Ok→Qa (alts.drop j)=Qa alts→JK (ak E n) n (fun x7 x8 x9 h=>Pe (ak E n) n m x7 x8 x9 h K) m2 v (.int .i64 (l.length:Int)) (.int .i64 (i:Int)) va (.int .i64 (alts.length:Int)) (.int .i64 (j:Int)) h3 K=true:=by
     intro m2
     induction m2 with
     |zero=>intro j h3 _ hm;omega
     |succ m2 ih2=>
      intro j h3 hj hm2 e3 o3 hca;rw[aeC];unfold PV;refine fT ?_;by_cases hjt:j<alts.length
      ·rw[decide_eq_true hjt];have hb2:alts[j]? =some alts[j]:=List.getElem?_eq_getElem hjt;generalize alts[j]=b2 at hb2;obtain⟨v2,ec2,hv2,V2,R2⟩:=a2 j b2 hb2;have hw2:=rO hb2;have hd2:=TR hb2;rw[hca] at hd2;refine bN (nV (Va.ext e3) hv2 rfl ?_);refine IH (gH b2) (by omega) n _ b2 v2 ec2 _ (Nat.le_refl _) (by omega) (by omega) o3 (V2.ext e3) (eY.ext e3 R2) fun h4 e4 o4=>aD rfl ?_;unfold Fv;cases hc3:Je b2 with
       |false=>
        have hf:Qe (.mk kind var cls binds tests conds thn alts ex fn name args)=false:=by rw[hc3,Bool.false_and] at hd2;simp[Qe,hd2]
        have:=bad hf (e3.trans e4) o4;refine fM ?_;refine bN ?_;exact this
       |true=>
        rw[hc3,Bool.true_and] at hd2;refine rnd (v:=va) (h:=h) (by omega) ?_;exact ih2 (j+1) h4 (by omega) (by omega) (e3.trans e4) o4 hd2.symm
      ·rw[decide_eq_false hjt];have hnil:alts.drop j=[]:=List.drop_eq_nil_of_le (by omega);rw[hnil] at hca;have hc4:Qa alts=true:=by rw[←hca];rfl
       have ht:Qe (.mk kind var cls binds tests conds thn alts ex fn name args)=true:=by simp[Qe,k4,k5,hc1,hc2,hc4]
       rw[ht,Bool.true_and] at hd;refine bE ?_;unfold Xy;refine gZ (by omega) ?_;exact ih (i+1) h3 (by omega) (by omega) e3 o3 hd.symm
    rw[a1];exact l2 n 0 _ (Nat.zero_le _) (by omega) eA A.ok rfl
   ·rw[decide_eq_false hlt];have:l.drop i=[]:=List.drop_eq_nil_of_le (by omega);rw[this] at hco;refine bE ?_;have:=k h' e o;rw[←hco] at this;exact this
 exact lp n 0 h (Nat.zero_le _) (by omega) (Ext.refl _) ho rfl
theorem x17 {n:Nat} {h:ah} {l:List Cd} {v:AV} {es:List (List AV)} {K:aK} (hB:gH l≤big) (hn:3*gH l+8≤n) (ho:h.Ok) (V:View h 19 v es) (R:eY h es l) (k:∀h',Ext h h'→h'.Ok→K (.bool (Je l)) h'=true):ak E n (.func 17) [v] h K=true:=
 qk _ n h l v es K (Nat.le_refl _) hB hn ho V R k
theorem x8 {n:Nat} {h:ah} {l:List Cd} {v:AV} {es:List (List AV)} {K:aK} (hB:gH l≤big) (hn:3*gH l+9≤n) (ho:h.Ok) (V:View h 19 v es) (R:eY h es l) (k:∀h',Ext h h'→h'.Ok→K (.bool (Je l)) h'=true):ak E n (.func 8) [v] h K=true:=by
 obtain⟨n,rfl⟩:∃m,n=m+1:=⟨n-1,by omega⟩;apply d8;unfold s8;refine x17 hB (by omega) ho V R fun h' e o=>aD rfl ?_
 skip
 exact k h' e o
theorem ZJ:∀{l:List Cd} {j:Nat} {b:Cd},l[j]? =some b→kC.kCs (l.take (j+1))=kC.kCs (l.take j)+kC b
 | [],_,_,h=>by cases h
 |c :: l,0,b,h=>by
  simp only[List.getElem?_cons_zero,Option.some.injEq] at h;subst h;simp[kC.kCs]
 |c :: l,j+1,b,h=>by
  simp only[List.getElem?_cons_succ] at h;have:=ZJ h;simp only[List.take_succ_cons,kC.kCs] at this ⊢;omega
theorem U3:∀{l:List (List Cd)} {j:Nat} {b:List Cd},l[j]? =some b→kC.kCss (l.take (j+1))=kC.kCss (l.take j)+kC.kCs b
 | [],_,_,h=>by cases h
 |c :: l,0,b,h=>by
  simp only[List.getElem?_cons_zero,Option.some.injEq] at h;subst h;simp[kC.kCss]
 |c :: l,j+1,b,h=>by
  simp only[List.getElem?_cons_succ] at h;have:=U3 h;simp only[List.take_succ_cons,kC.kCss] at this ⊢;omega
mutual
theorem ahn:∀c:Cd,kC c≤cC c
 | .mk _ _ _ _ _ cs th al _ _ _ _=>by
   have:=xk cs;have:=xk th;have:=Jy al;simp only[kC,cC];omega
theorem xk:∀l:List Cd,kC.kCs l≤gH l
 | []=>by simp[kC.kCs]
 |c :: l=>by
  have:=ahn c;have:=xk l;simp only[kC.kCs,gH];omega
theorem Jy:∀l:List (List Cd),kC.kCss l≤iP l
 | []=>by simp[kC.kCss]
 |c :: l=>by
  have:=xk c;have:=Jy l;simp only[kC.kCss,iP];omega
end
def huge:Nat:=1000000000000000000
def QN (N:Nat):Prop:=∀(n:Nat) (h:ah) (l:List Cd) (v:AV) (es:List (List AV)) (K:aK),gH l≤N→gH l≤huge→3*gH l+8≤n→h.Ok→View h 19 v es→eY h es l→(∀h',Ext h h'→h'.Ok→K (.int .i64 (kC.kCs l:Int)) h'=true)→ak E n (.func 29) [v] h K=true
theorem qn (N:Nat):QN N:=by
 induction N using Nat.strongRecOn with
 |ind N IH=>
 intro n h l v es K hN hB hn ho V R k;obtain⟨n,rfl⟩:∃m,n=m+1:=⟨n-1,by omega⟩;have hbig:huge=1000000000000000000:=rfl;have hlim:lim=4611686018427387904:=rfl;have hlen:=pO l;have hkl:=xk l;obtain⟨g1,g2⟩:=R.get;have tk:∀i,kC.kCs (l.take i)≤gH l:=fun i=>by
  have:=xk (l.take i);have:gH (l.take i)≤gH l:=by
   clear this hN hB hn V R k g1 g2 hlen hkl
   induction l generalizing i with
   |nil=>simp
   |cons c l ih=>
    cases i with
    |zero=>simp[gH]
    |succ i=>have:=ih i;simp only[List.take_succ_cons,gH];omega
  omega
 apply d29;unfold s29;refine dZ V ?_;rw[g1];have lp:∀(m i:Nat) (h':ah),i≤l.length→l.length-i<m→Ext h h'→h'.Ok→Oq (ak E n) n m (.int .i64 (kC.kCs (l.take i):Int)) v (.int .i64 (l.length:Int)) (.int .i64 (i:Int)) h' K=true:=by
  intro m
  induction m with
  |zero=>intro i h' _ hm;omega
  |succ m ih=>
   intro i h' hi hm e o;rw[ae6];unfold Zg;refine fT ?_;by_cases hlt:i<l.length
   ·rw[decide_eq_true hlt];refine bN ?_;unfold Yh;have hb:l[i]? =some l[i]:=List.getElem?_eq_getElem hlt;generalize l[i]=b at hb;obtain⟨c,hc,Rc⟩:=g2 i b hb;have hw:=rF hb;have hd:=ZJ hb;have tki:=tk i;have tki1:=tk (i+1);refine rM (V.ext e) hc Rc.cells.1 ?_;have A:=Cx.start o (F:=[]) (fun R m=>nomatch m);have C1:=Rc.cells;refine pG A rfl rfl rfl fun id h1 A=>LH A rfl C1.1 rfl C1.2.1 fun h1 A=> ?_;obtain⟨kind,var,cls,binds,tests,conds,thn,alts,ex,fn,name,args⟩:=b;simp only[RC] at Rc;obtain⟨vb,vt,et,vc,ec,vn,en,va,ea,ce,vg,eg,rfl,Vb,Vt,Rt,Vc,Rc,Vn,Rn,Va,Ra,Re,Vg,Rg⟩:=Rc;obtain⟨x0,x1,x2,x3,x4,x5,x6,x7,rfl⟩:=len8 Re.cells.1;simp only[List.cons_append,List.nil_append] at C1 ⊢;simp only[kC] at hd;have hcc:gH conds+gH thn+iP alts+1≤gH l:=by simp only[cC] at hw;omega
    have eA:=e.trans A.f0;have kc:=xk conds;have kt:=xk thn
    repeat first |(with_reducible first |refine ay ?_ |refine aJ A.var rfl ?_)
    refine IH (gH conds) (by omega) n _ conds vc ec _ (Nat.le_refl _) (by omega) (by omega) A.ok (Vc.ext eA) (eY.ext eA Rc) fun h2 e2 o2=>aD rfl ?_;have A:=A.ext e2 o2;have eA:=eA.trans e2;refine aJ A.var rfl ?_;refine bI Vn.iW (uj (x:=1) (y:=kC.kCs conds) (by omega) ?_);refine IH (gH thn) (by omega) n _ thn vn en _ (Nat.le_refl _) (by omega) (by omega) A.ok (Vn.ext eA) (eY.ext eA Rn) fun h2 e2 o2=>aD rfl ?_;have A:=A.ext e2 o2;have eA:=eA.trans e2;refine uj (x:=1+kC.kCs conds) (y:=kC.kCs thn) (by omega) (uj (x:=kC.kCs (l.take i)) (y:=1+kC.kCs conds+kC.kCs thn) (by omega) ?_);refine ay ?_;refine aJ A.var rfl ?_;refine dZ (Va.ext eA) ?_;obtain⟨a1,a2⟩:=Ra.get;have hal:=rV alts;have kal:=Jy alts;rw[a1];have l2:∀(m2 j:Nat) (h3:ah),j≤alts.length→alts.length-j<m2→Ext h h3→h3.Ok→KX (ak E n) n (fun x3 x8 x9 x10 h=>Oq (ak E n) n m x3 x8 x9 x10 h K) m2 (.int .i64 ((kC.kCs (l.take i)+(1+kC.kCs conds+kC.kCs thn)+kC.kCss (alts.take j):Nat):Int)) v (.int .i64 (l.length:Int)) (.int .i64 (i:Int)) va (.int .i64 (alts.length:Int)) (.int .i64 (j:Int)) h3 K=true:=by
     intro m2
     induction m2 with
     |zero=>intro j h3 _ hm;omega
     |succ m2 ih2=>
      intro j h3 hj hm2 e3 o3;rw[ab2];unfold PO;refine fT ?_;by_cases hjt:j<alts.length
      ·rw[decide_eq_true hjt];have hb2:alts[j]? =some alts[j]:=List.getElem?_eq_getElem hjt;generalize alts[j]=b2 at hb2;obtain⟨v2,ec2,hv2,V2,R2⟩:=a2 j b2 hb2;have hw2:=rO hb2;have hd2:=U3 hb2;have:=xk b2;have tkj:kC.kCss (alts.take (j+1))≤iP alts:=by
        have:=Jy (alts.take (j+1));have:iP (alts.take (j+1))+iP (alts.drop (j+1))=iP alts:=by rw[←uN,List.take_append_drop]
        omega
       refine bN (nV (Va.ext e3) hv2 rfl ?_);refine IH (gH b2) (by omega) n _ b2 v2 ec2 _ (Nat.le_refl _) (by omega) (by omega) o3 (V2.ext e3) (eY.ext e3 R2) fun h4 e4 o4=>aD rfl ?_;unfold EJ;refine uj (x:=kC.kCs (l.take i)+(1+kC.kCs conds+kC.kCs thn)+kC.kCss (alts.take j)) (y:=kC.kCs b2) (by omega) (gZ (by omega) ?_);rw[show kC.kCs (l.take i)+(1+kC.kCs conds+kC.kCs thn)+kC.kCss (alts.take j)+kC.kCs b2=kC.kCs (l.take i)+(1+kC.kCs conds+kC.kCs thn)+kC.kCss (alts.take (j+1)) by omega];exact ih2 (j+1) h4 (by omega) (by omega) (e3.trans e4) o4
      ·rw[decide_eq_false hjt];refine bE ?_;unfold VR;refine gZ (by omega) ?_;rw[List.take_of_length_le (l:=alts) (by omega),show kC.kCs (l.take i)+(1+kC.kCs conds+kC.kCs thn)+kC.kCss alts=kC.kCs (l.take (i+1)) by omega];exact ih (i+1) h3 (by omega) (by omega) e3 o3
    exact l2 n 0 _ (Nat.zero_le _) (by omega) eA A.ok
   ·rw[decide_eq_false hlt];have:=k h' e o;rw[List.take_of_length_le (by omega)];exact bE this
 exact lp n 0 h (Nat.zero_le _) (by omega) (Ext.refl _) ho
theorem x29 {n:Nat} {h:ah} {l:List Cd} {v:AV} {es:List (List AV)} {K:aK} (hB:gH l≤huge) (hn:3*gH l+8≤n) (ho:h.Ok) (V:View h 19 v es) (R:eY h es l) (k:∀h',Ext h h'→h'.Ok→K (.int .i64 (kC.kCs l:Int)) h'=true):ak E n (.func 29) [v] h K=true:=
 qn _ n h l v es K (Nat.le_refl _) hB hn ho V R k
noncomputable def _root_.Go.Ab.ah.era (h:ah):List Nat→ah
 | []=>h
 |i :: l=>{h.era l with t:=(h.era l).t.setO i none}
theorem _root_.Go.Ab.ah.era_sz (h:ah):∀l,(h.era l).sz=h.sz
 | []=>rfl
 |_ :: l=>h.era_sz l
theorem _root_.Go.Ab.ah.era_get (h:ah) (j:Nat):∀l,(h.era l).get j=if j∈l then none else h.get j
 | []=>by simp[ah.era]
 |i :: l=>by
  show((h.era l).t.setO i none).get j=_;rw[PT.get_setO];by_cases e:j=i
  ·simp[e]
  ·rw[if_neg e,show(h.era l).t.get j=(h.era l).get j from rfl,h.era_get j l]
   simp[e]
section
variable {h b:ah} {L:gB} {S:List Sl} {F:List (ah→Prop)} {R:ah→Prop} {v:AV} {n:Nat} {es:List (List AV)}
theorem _root_.Go.Ab.Cx.sub (A:Cx h L S F):∃b,Cx h L S (Ext b :: F)∧∀R∈F,R b:=by
 refine have kb:Kp (· ∈places L S) h (h.era (places L S)):=⟨by rw[h.era_sz];exact Nat.le_refl _,fun id o n e=>by rw[h.era_get,if_neg n];exact e⟩;⟨h.era (places L S),⟨A.ok,A.has,A.sls,A.nod,fun R m=> ?_⟩,fun R m=>A.facts R m _ kb⟩
 rcases List.mem_cons.1 m with rfl |m
 ·refine fun h' k=>⟨by rw[h.era_sz];exact k.1,fun id o e=> ?_⟩;rw[h.era_get] at e;split at e
  ·cases e
  ·rename_i n;exact k.2 id o n e
 ·exact A.facts R m
theorem _root_.Go.Ab.Cx.sub1 (A:Cx h L S (R :: Ext b :: F)):∃b',Ext b b'∧R b'∧Cx h L S (Ext b' :: F):=by
 exact have⟨b',B,f⟩:=A.sub;⟨b',f (Ext b) (by simp),f R (by simp),B.drop1.drop1⟩
theorem _root_.Go.Ab.Cx.frz (A:Cx h L (⟨v,n,es⟩ :: S) (Ext b :: F)):∃b',Ext b b'∧View b' n v es∧Cx h L S (Ext b' :: F):=A.freeze.sub1
end
def Z5:List AV:=[.int .i64 0, .bool false, .int .i64 0, .str [], .au]
theorem BL.snoc {b:ah}:∀{el:List (List AV)} {l:List Val} {c:List AV} {x:Val},BL b el l→RW b c x→BL b (el++[c]) (l++[x])
 |el,[],c,x,H,R=>by simp only[BL] at H;subst H;simp only[List.nil_append,BL];exact⟨c,[],rfl,R,rfl⟩
 |el,y :: l,c,x,H,R=>by
  simp only[BL] at H;obtain⟨d,r,rfl,h1,h2⟩:=H;simp only[List.cons_append,BL];exact⟨d,r++[c],rfl,h1,h2.snoc R⟩
theorem BL.len {b:ah} {el:List (List AV)} {l:List Val} (H:BL b el l):el.length=l.length:=H.get.1
theorem kJ {α:Type} {l:List α} {i:Nat} {x:α} (h:l[i]? =some x):l.take (i+1)=l.take i++[x]:=by rw[List.take_add_one,h];rfl
def YV (N:Nat):Prop:=∀(n:Nat) (h b:ah) (v:Val) (c:List AV) (L:gB) (S:List Sl) (F:List (ah→Prop)) (K:aK),cV v≤N→cV v≤big→2*cV v+6≤n→Cx h L S (Ext b :: F)→RW b c v→
 (∀h b' c',Ext b b'→Cx h L S (Ext b' :: F)→RW b' c' v→K (.agg c') h=true)→ak E n (.func 66) [.agg c] h K=true
theorem yv (N:Nat):YV N:=by
 induction N using Nat.strongRecOn with
 |ind N IH=>
 intro n h b v c L S F K hN hB hn A R k;obtain⟨n,rfl⟩:∃m,n=m+1:=⟨n-1,by omega⟩;have hbig:big=1000000000:=rfl;have hlim:lim=4611686018427387904:=rfl;have hmo:most=1099511627776:=rfl;have C:=R.cells;have⟨kd,bb,x,t,l⟩:=v;have hc:cV (.mk kd bb x t l)=t.length+VQ l+1:=by simp only[cV]
 simp only[RW] at R;obtain⟨lv,es,rfl,V,Rl⟩:=R;have⟨g1,g2⟩:=Rl.get;have hl:=Rz l;apply d66;unfold s66;refine rC A C.1 rfl C.2.1 fun a h A=>bO A rfl rfl rfl fun r h A=>ay (aJ A.var rfl (ay (sD A rfl rfl fun h A=>dZ (V.ext A.f0) ?_)));rw[g1];have lp:∀(m i:Nat) (h b1:ah) (vl:AV) (el:List (List AV)),i≤l.length→l.length-i<m→Ext b b1→Cx h (vr a [.int .i64 kd, .bool bb, .int .i64 x, .str t,vl] :: vr r Z5 :: L) (⟨vl,5,el⟩ :: S) (Ext b1 :: F)→BL b1 el (l.take i)→KY (ak E n) n m (.ptr a 0 0 0) (.ptr r 0 0 0) lv (.int .i64 (l.length:Int)) (.int .i64 (i:Int)) h K=true:=by
  intro m
  induction m with
  |zero=>intro i h b1 vl el _ hm;omega
  |succ m ih=>
   intro i h b1 vl el hi hm e A Rt;have hel:=Rt.len;have ok1:=A.view.iW;rw[ac1];unfold Qj;refine fT ?_;by_cases hlt:i<l.length
   ·rw[decide_eq_true hlt];have hb:l[i]? =some l[i]:=List.getElem?_eq_getElem hlt;generalize l[i]=y at hb;have⟨c1,hc1,R1⟩:=g2 i y hb;have hw:=RN hb;have C1:=R1.cells;refine have ht:(l.take i).length=i:=List.length_take_of_le hi;bN (rM ((V.ext e).ext A.f0) hc1 C1.1<|bO A rfl rfl rfl fun q h A=>gF A rfl C1.1 rfl C1.2.1 fun h A=>ay (aJ A.var rfl (fJ A.v1 C1.1<|IH (cV y) (by omega) n h b1 y c1 _ _ _ _ (Nat.le_refl _) (by omega) (by omega) A (R1.ext e) fun h b2 c2 e2 A R2=>aD rfl<|have C2:=R2.cells;aJ A.var rfl (bI ok1 (iM A rfl rfl rfl rfl (dY C2.1 C2.2.1) rfl fun w h A _=>aJ A.var rfl (bI ok1 (fJ A.v1 C1.1 (bI (iW.agg C1.2.2)<|jo A rfl A.f0.src ?_ ?_ fun vl' h A _=> ?_))))))))
    ·show(el.length+1)*64≤most;omega
    ·show el.length+1≤most;omega
    refine ay (sD A rfl A.leafS fun h A=>gZ (by omega)<|ih (i+1) h b2 vl' _ (by omega) (by omega) (e.trans e2) A.aZ.dJ ?_);rw[kJ hb];exact(BL.ext e2 Rt).snoc R2
   ·rw[decide_eq_false hlt];refine bE ?_;unfold X4;refine have hx:aB [.int .i64 kd, .bool bb, .int .i64 x, .str t,vl]=true:=aF rfl (aF rfl (aF rfl (aF rfl (aF A.leafS rfl))));fJ A.var rfl (gF A rfl rfl rfl hx fun h A=>sI A.v1 rfl<|have⟨b2,e2,V2,A⟩:=A.frz;?_)
    rw[List.take_of_length_le (by omega)] at Rt;refine k h b2 _ (e.trans e2) A.rest.rest ?_;simp only[RW];exact⟨vl,el,rfl,V2,BL.ext e2 Rt⟩
 exact lp n 0 _ b .au [] (Nat.zero_le _) (by omega) (Ext.refl _) (A.slc 5) (by simp[BL])
theorem aj7 {α:Type} {l:List α} (h:l.length=5):∃a b c d e,l=[a,b,c,d,e]:=by
 match l,h with
 | [a,b,c,d,e],_=>exact⟨a,b,c,d,e,rfl⟩
def YE (N:Nat):Prop:=∀(n:Nat) (h b:ah) (v:Ex) (c:List AV) (L:gB) (S:List Sl) (F:List (ah→Prop)) (K:aK),cE v≤N→cE v≤big→2*cE v+6≤n→Cx h L S (Ext b :: F)→RE b c v→
 (∀h b' c',Ext b b'→Cx h L S (Ext b' :: F)→RE b' c' v→K (.agg c') h=true)→ak E n (.func 47) [.agg c] h K=true
theorem ye (N:Nat):YE N:=by
 induction N using Nat.strongRecOn with
 |ind N IH=>
 intro n h b v c L S F K hN hB hn A R k;obtain⟨n,rfl⟩:∃m,n=m+1:=⟨n-1,by omega⟩;have hbig:big=1000000000:=rfl;have hlim:lim=4611686018427387904:=rfl;have hmo:most=1099511627776:=rfl;have C:=R.cells;have⟨op,t,v,l⟩:=v;have hc:cE (.mk op t v l)=t.length+cV v+vT l+1:=by simp only[cE]
 simp only[RE] at R;obtain⟨cv,va,es,rfl,W,V,Rl⟩:=R;have CW:=W.cells;obtain⟨y0,y1,y2,y3,y4,rfl⟩:=aj7 CW.1;have⟨g1,g2⟩:=Rl.get;have hl:=Jj l;apply d47;unfold s47;refine rC A C.1 rfl C.2.1 fun a h A=>bO A rfl rfl rfl fun r h A=>ay (aJ A.var rfl (ay (dw A.var rfl<|yv (cV v) n h b v [y0,y1,y2,y3,y4] _ _ _ _ (Nat.le_refl _) (by omega) (by omega) A W fun h b1 c1 e1 A W1=>aD rfl ?_)));unfold Ms;have CW1:=W1.cells;obtain⟨u0,u1,u2,u3,u4,rfl⟩:=aj7 CW1.1;refine ay (aeA A rfl rfl rfl CW1.2.1 fun h A=>ay (sD A rfl rfl fun h A=>dZ (V.ext (e1.trans A.f0)) ?_));rw[g1];have lp:∀(m i:Nat) (h b2:ah) (vl:AV) (el:List (List AV)),i≤l.length→l.length-i<m→Ext b1 b2→Cx h (vr a [.int .i64 op, .str t,u0,u1,u2,u3,u4,vl] :: vr r Z8 :: L) (⟨vl,8,el⟩ :: S) (Ext b2 :: F)→mH b2 el (l.take i)→Nr (ak E n) n m (.ptr a 0 0 0) (.ptr r 0 0 0) va (.int .i64 (l.length:Int)) (.int .i64 (i:Int)) h K=true:=by
  intro m
  induction m with
  |zero=>intro i h b1 vl el _ hm;omega
  |succ m ih=>
   intro i h b2 vl el hi hm e A Rt;have hel:=Rt.len.1;have ok1:=A.view.iW;rw[ab6];unfold Qo;refine fT ?_;by_cases hlt:i<l.length
   ·rw[decide_eq_true hlt];have hb:l[i]? =some l[i]:=List.getElem?_eq_getElem hlt;generalize l[i]=y at hb;have⟨c1,hc1,R1⟩:=g2 i y hb;have hw:=Jr hb;have C1:=R1.cells;refine have ht:(l.take i).length=i:=List.length_take_of_le hi;bN (rM ((V.ext (e1.trans e)).ext A.f0) hc1 C1.1<|bO A rfl rfl rfl fun q h A=>gF A rfl C1.1 rfl C1.2.1 fun h A=>ay (aJ A.var rfl (fJ A.v1 C1.1<|IH (cE y) (by omega) n h b2 y c1 _ _ _ _ (Nat.le_refl _) (by omega) (by omega) A (R1.ext (e1.trans e)) fun h b3 c2 e2 A R2=>aD rfl<|have C2:=R2.cells;aJ A.var rfl (bI ok1 (iM A rfl rfl rfl rfl (dY C2.1 C2.2.1) rfl fun w h A _=>aJ A.var rfl (bI ok1 (fJ A.v1 C1.1 (bI (iW.agg C1.2.2)<|jo A rfl A.f0.src ?_ ?_ fun vl' h A _=> ?_))))))))
    ·show(el.length+1)*112≤most;omega
    ·show el.length+1≤most;omega
    refine ay (sD A rfl A.leafS fun h A=>gZ (by omega)<|ih (i+1) h b3 vl' _ (by omega) (by omega) (e.trans e2) A.aZ.dJ ?_);rw[kJ hb];exact(mH.ext e2 Rt).app (mH.one R2)
   ·rw[decide_eq_false hlt];refine bE ?_;unfold XK;refine have hx:aB (.int .i64 op :: .str t :: ([u0,u1,u2,u3,u4]++[vl]))=true:=aF rfl (aF rfl (gL CW1.2.1 (aF A.leafS rfl)));fJ A.var rfl (gF A rfl rfl rfl hx fun h A=>sI A.v1 rfl<|have⟨b3,e3,V2,A⟩:=A.frz;?_)
    rw[List.take_of_length_le (by omega)] at Rt;refine k h b3 _ (e1.trans (e.trans e3)) A.rest.rest ?_;simp only[RE];exact⟨[u0,u1,u2,u3,u4],vl,el,rfl,W1.ext (e.trans e3),V2,mH.ext e3 Rt⟩
 exact lp n 0 _ b1 .au [] (Nat.zero_le _) (by omega) (Ext.refl _) (A.slc 8) (by simp[mH])
section
variable {h b:ah} {L:gB} {S:List Sl} {F:List (ah→Prop)} {K:aK} {v w:AV} {n bytes:Nat} {es new:List (List AV)} {z:List AV}
def Gro (h:ah) (L:gB) (S:List Sl) (F:List (ah→Prop)) (n:Nat) (v:AV) (es:List (List AV)):Prop:=
 Cx h L (⟨v,n,es⟩ :: S) F∨(es=[]∧∃id,v= .slc id 0 0 0 0 true∧Cx h ((id, .row (MO [] n)) :: L) S F)
theorem Gro.frz (G:Gro h L S (Ext b :: F) n v es):∃b',Ext b b'∧View b' n v es∧Cx h L S (Ext b' :: F):=by
 rcases G with A |⟨rfl,id,rfl,A⟩
 ·exact A.frz
 ·have hn:=A.nod;rw[show places ((id,fC.row (MO [] n)) :: L) S=id :: places L S from rfl] at hn
  have B:=A.rest;have B:Cx h L S ((fun h=>View h n (.slc id 0 0 0 0 true) []) :: Ext b :: F):=⟨B.ok,B.has,B.sls,B.nod,fun R m=>by
   rcases List.mem_cons.1 m with rfl |m
   ·intro h' k;exact have g:=k.2 id _ (fun q=>(List.nodup_cons.1 hn).1 q) (A.has _ List.mem_cons_self);.inr ⟨id,0,0,0,true,_,rfl,ah.row_some.2 g,Nat.le_refl _,rfl,rfl,Nat.le_refl _⟩
   ·exact B.facts R m⟩
  exact B.sub1
theorem adZ (G:Gro h L S F n v es) (hn:Nat.beq n 0=false) (hs:source h n w=some new) (h1:(es.length+new.length)*bytes≤most) (h2:es.length+new.length≤most)
 (s:∀v' h',Gro h' L S F n v' (es++new)→iB v'=none→K v' h'=true):jO h n bytes v w K=true:=by
 rcases G with A |⟨rfl,id,rfl,A⟩
 ·exact jo A hn hs h1 h2 fun v' h' A p=>s v' h' (.inl A) p
 ·have hrow:=ah.row_some.2 (A.has _ List.mem_cons_self);rw[Qw _ _ _ _ _ _ hn];cases new with
  |nil=>
   have e:gG h n bytes (.slc id 0 0 0 0 true) w=some (.slc id 0 0 0 0 true,h):=by simp only[gG,hn,cond_false,hs,gQ]
   rw[e];exact s _ _ (.inr ⟨rfl,id,rfl,A⟩) rfl
  |cons y new=>
   have q:=jo (bytes:=bytes) (K:=K) ((A.rest).slc n) hn hs h1 h2 fun v' h' A p=>s v' h' (.inl A) p;rw[Qw _ _ _ _ _ _ hn] at q;simp only[List.length_nil,Nat.zero_add] at h1 h2;have e:gG h n bytes (.slc id 0 0 0 0 true) w=gG h n bytes .au w:=by
    simp only[gG,hn,cond_false,hs,gQ,hrow,aI.2 h1,aI.2 h2,MO,aG.2 rfl,Bool.and_self,cond_true,Nat.zero_add,List.drop_nil,List.take_nil,List.length_nil,aI.2 (Nat.le_refl 0),List.nil_append,
     show Nat.ble (y :: new).length 0=false from rfl,cond_false]
   rw[e];exact q
theorem ak1 (A:Cx h L S F) (hz:z.length=n) (hn:Nat.blt 0 n=true) (hl:aB z=true) (V:View h n w es) (h1:es.length*bytes≤most) (h2:es.length≤most)
 (s:∀v' h',Gro h' L S F n v' es→iB v'=none→K v' h'=true):(bK (Ja h false .slc w .au) fun v1=>aH v1 (K .au h) (aQ (aO h 0 n z []) fun v2 h=>jO h n bytes v2 w fun v3 h=>K v3 h))=true:=by
 have nz:Nat.beq n 0=false:=dF.2 (by have:=bC.1 hn;omega);have rest:Ja h false .slc w .au=some (.bool false)→(bK (Ja h false .slc w .au) fun v1=>aH v1 (K .au h) (aQ (aO h 0 n z []) fun v2 h=>jO h n bytes v2 w fun v3 h=>K v3 h))=true:=fun e=>by
  refine qJ e (bE ?_);have e2:aO h 0 n z []=some (.slc h.sz 0 0 0 0 true,Go.Ab.newRow h [] n):=by
   simp only[aO,hz,aG.2 rfl,hn,Nat.zero_mul,aI.2 (Nat.zero_le _),hl,Bool.and_self,cond_true,xV,jT]
  rw[e2];refine adZ (n:=n) (es:=[]) (new:=es) (.inr ⟨rfl,_,rfl,A.new _⟩) nz ((V.ext (rR A.ok _)).src) (by simpa using h1) (by simpa using h2) s
 rcases V with⟨rfl,rfl |rfl⟩|⟨id,g,t,cap,ex,r,rfl,_⟩
 ·exact qJ (v:= .bool true) rfl (bN (s _ _ (.inl (A.slc n)) rfl))
 ·exact rest rfl
 ·exact rest rfl
theorem Xu {m:Nat} (hm:1≤m) (A:Cx h L S F) (V:View h 2 w es) (h1:es.length*32≤most) (s:∀v' h',Gro h' L S F 2 v' es→iB v'=none→K v' h'=true):ak E m (.func 46) [w] h K=true:=by
 obtain⟨m,rfl⟩:∃k,m=k+1:=⟨m-1,by omega⟩;apply d46;exact ak1 A rfl rfl rfl V h1 (by omega) s
theorem x45 {m:Nat} (hm:1≤m) (A:Cx h L S F) (V:View h 19 w es) (h1:es.length*328≤most) (s:∀v' h',Gro h' L S F 19 v' es→iB v'=none→K v' h'=true):ak E m (.func 45) [w] h K=true:=by
 obtain⟨m,rfl⟩:∃k,m=k+1:=⟨m-1,by omega⟩;apply d45;exact ak1 A rfl rfl rfl V h1 (by omega) s
theorem x27 {m:Nat} (hm:2≤m) (A:Cx h L S (Ext b :: F)) (V:View b 19 w es) (U:View b 19 v new) (h1:(es.length+new.length)*328≤most)
 (s:∀h b' u,Ext b b'→Cx h L S (Ext b' :: F)→View b' 19 u (es++new)→K u h=true):ak E m (.func 27) [w,v] h K=true:=by
 obtain⟨m,rfl⟩:∃k,m=k+1:=⟨m-1,by omega⟩;apply d27;unfold s27;refine have h2:es.length*328≤most:=Nat.le_trans (Nat.mul_le_mul_right _ (Nat.le_add_right _ _)) h1;x45 (by omega) A (V.ext A.f0) h2 fun v' h G p=>aD p<|adZ G rfl ?_ h1 (by omega) fun u h G p=> ?_
 ·rcases G with A |⟨_,_,_,A⟩
  ·exact(U.ext A.f0).src
  ·exact(U.ext A.f0).src
 exact have⟨b',e,W,A⟩:=G.frz;s h b' u e A W
end
theorem agv {s:Str} {l:List AV} (hl:l.length=8) (h:aB l=true):o7 [.str [], .int .i64 0, .str [], .int .i64 0, .bool false, .int .i64 0, .str [], .au, .au] [(0,1, .str s),(1,8, .agg l)]=some (.str s :: l):=by
 obtain⟨q0,q1,q2,q3,q4,q5,q6,q7,rfl⟩:=len8 hl;have e:o7 [.str s, .int .i64 0, .str [], .int .i64 0, .bool false, .int .i64 0, .str [], .au, .au] [(1,8, .agg [q0,q1,q2,q3,q4,q5,q6,q7])]=bif true&&true&&aB [q0,q1,q2,q3,q4,q5,q6,q7] then some [.str s,q0,q1,q2,q3,q4,q5,q6,q7] else none:=rfl;rw[h] at e;exact e
def YC (N:Nat):Prop:=∀(n:Nat) (h b:ah) (v:Cd) (c:List AV) (L:gB) (S:List Sl) (F:List (ah→Prop)) (K:aK),cC v≤N→cC v≤big→3*cC v+8≤n→Cx h L S (Ext b :: F)→RC b c v→
 (∀h b' c',Ext b b'→Cx h L S (Ext b' :: F)→RC b' c' v→K (.agg c') h=true)→ak E n (.func 30) [.agg c] h K=true
theorem ya {N:Nat} (Q:YC N) {n:Nat} {h b:ah} {l:List Cd} {v:AV} {es:List (List AV)} {L:gB} {S:List Sl} {F:List (ah→Prop)} {K:aK} (hN:gH l≤N) (hB:gH l≤big) (hn:3*gH l+10≤n) (A:Cx h L S (Ext b :: F)) (V:View b 19 v es) (R:eY b es l)
 (k:∀h b' u eu,Ext b b'→Cx h L S (Ext b' :: F)→View b' 19 u eu→eY b' eu l→K u h=true):ak E n (.func 15) [v] h K=true:=by
 obtain⟨n,rfl⟩:∃m,n=m+1:=⟨n-1,by omega⟩;have hbig:big=1000000000:=rfl;have hlim:lim=4611686018427387904:=rfl;have hmo:most=1099511627776:=rfl;have⟨g1,g2⟩:=R.get;have hl:=pO l;apply d15;unfold s15;refine dZ (V.ext A.f0) ?_;rw[g1];have lp:∀(m i:Nat) (h b1:ah) (vl:AV) (el:List (List AV)),i≤l.length→l.length-i<m→Ext b b1→Cx h L (⟨vl,19,el⟩ :: S) (Ext b1 :: F)→eY b1 el (l.take i)→UR (ak E n) n m vl v (.int .i64 (l.length:Int)) (.int .i64 (i:Int)) h K=true:=by
  intro m
  induction m with
  |zero=>intro i h b1 vl el _ hm;omega
  |succ m ih=>
   intro i h b1 vl el hi hm e A Rt;have hel:=Rt.len;rw[agL];unfold Zl;refine fT ?_;by_cases hlt:i<l.length
   ·rw[decide_eq_true hlt];have hb:l[i]? =some l[i]:=List.getElem?_eq_getElem hlt;generalize l[i]=y at hb;have⟨c1,hc1,R1⟩:=g2 i y hb;have hw:=rF hb;have C1:=R1.cells;refine have ht:(l.take i).length=i:=List.length_take_of_le hi;bN (rM ((V.ext e).ext A.f0) hc1 C1.1<|pG A rfl rfl rfl fun q h A=>LH A rfl C1.1 rfl C1.2.1 fun h A=>fJ A.var C1.1<|Q n h b1 y c1 _ _ _ _ (by omega) (by omega) (by omega) A (R1.ext e) fun h b2 c2 e2 A R2=>aD rfl<|have C2:=R2.cells;iM A rfl rfl rfl rfl (dY C2.1 C2.2.1) rfl fun w h A _=>jo A rfl A.f0.src ?_ ?_ fun vl' h A _=> ?_)
    ·show(el.length+1)*328≤most;omega
    ·show el.length+1≤most;omega
    refine gZ (by omega)<|ih (i+1) h b2 vl' _ (by omega) (by omega) (e.trans e2) A.rest.dJ ?_;rw[kJ hb];exact(eY.ext e2 Rt).app (eY.one R2)
   ·rw[decide_eq_false hlt];refine bE<|have⟨b2,e2,V2,A⟩:=A.frz;?_
    rw[List.take_of_length_le (by omega)] at Rt;exact k h b2 _ _ (e.trans e2) A V2 (eY.ext e2 Rt)
 exact lp n 0 _ b .au [] (Nat.zero_le _) (by omega) (Ext.refl _) (A.slc 19) eY.nil
set_option maxRecDepth 100000 in
theorem yc:∀N,YC N
 |0=>fun n h b v c L S F K hv _ _ _ _ _=>by have:=RS v;omega
 |N+1=>fun n h b v c L S F K hN hB hn A R k=>by
  have Q:=yc N;obtain⟨n,rfl⟩:∃m,n=m+1:=⟨n-1,by omega⟩;have hbig:big=1000000000:=rfl;have hlim:lim=4611686018427387904:=rfl;have hmo:most=1099511627776:=rfl;have C:=R.cells;obtain⟨kind,var,cls,binds,tests,conds,thn,alts,ex,fn,name,args⟩:=v;have hc:cC (.mk kind var cls binds tests conds thn alts ex fn name args)=var.length+cls.length+cB binds+vT tests+gH conds+gH thn+iP alts+cE ex+fn.length+name.length+cG args+1:=by simp only[cC]
  have hce:=R9 ex;have hbl:=XZ binds;have hgl:=XA args;have htl:=Jj tests;have hal:=rV alts;simp only[RC] at R;obtain⟨vb,vt,et,vc,ec,vn,en,va,ea,ce,vg,eg,rfl,Vb,Vt,Rt,Vc,Rc,Vn,Rn,Va,Ra,Re,Vg,Rg⟩:=R;have Ce:=Re.cells;obtain⟨x0,x1,x2,x3,x4,x5,x6,x7,rfl⟩:=len8 Ce.1;simp only[List.cons_append,List.nil_append] at C ⊢;obtain⟨t1,t2⟩:=Rt.get;obtain⟨gg1,gg2⟩:=Rg.get;obtain⟨a1,a2⟩:=Ra.get;apply d30;unfold s30;refine rC A C.1 rfl C.2.1 fun a h A=> ?_;refine bO A rfl rfl rfl fun r h A=> ?_;refine fJ A.var C.1 (bO A rfl rfl rfl fun o h A=> ?_);refine gF A rfl C.1 rfl C.2.1 fun h A=> ?_;refine ay (aJ A.var rfl (ay (dw A.var rfl ?_)));have hbb:(binds.map oF).length*32≤most:=by rw[List.length_map];omega
  refine Xu (by omega) A (Vb.ext A.f0) hbb fun wb h G p=>aD p ?_;obtain⟨b1,e1,Wb,A⟩:=G.frz;refine dw A.var rfl (bI (iW.agg Ce.2.2) (ay ?_));refine ye (cE ex) n h b1 ex _ _ _ _ _ (Nat.le_refl _) (by omega) (by omega) A (Re.ext e1) fun h b2 ce' e2 A We=>aD rfl ?_;have Cw:=We.cells;obtain⟨y0,y1,y2,y3,y4,y5,y6,y7,rfl⟩:=len8 Cw.1;refine fZ A rfl Wb.leaf fun h A=>ay (yj A rfl rfl rfl Cw.2.1 fun h A=> ?_);refine ay (fZ A rfl rfl fun h A=>ay (fZ A rfl rfl fun h A=>ay (fZ A rfl rfl fun h A=> ?_)));refine ay (aJ A.var rfl (ay (aJ A.var rfl ?_)));have e:=e1.trans e2;refine ya Q (by omega) (by omega) (by omega) A (Vc.ext e) (eY.ext e Rc) fun h b3 uc euc e3 A Wc Sc=>aD (nZ Wc) ?_;have e:=e.trans e3;refine aJ A.var rfl (bI Vn.iW (ay ?_));refine ya Q (by omega) (by omega) (by omega) A (Vn.ext e) (eY.ext e Rn) fun h b4 un eun e4 A Wn Sn=>aD (nZ Wn) ?_;have e:=e.trans e4;refine fZ A rfl Wc.leaf fun h A=>ay (fZ A rfl Wn.leaf fun h A=> ?_);refine ay (aJ A.var rfl (dZ (Vt.ext (e.trans A.f0)) ?_));have l3:∀(m i:Nat) (h b5:ah) (wt wg vl:AV) (etl egl el:List (List AV)),i≤alts.length→alts.length-i<m→Ext b4 b5→View b5 8 wt etl→mH b5 etl tests→View b5 9 wg egl→pX b5 egl args→
   Cx h (vr a [.int .i64 kind, .str var, .str cls,vb,vt,vc,vn,va,x0,x1,x2,x3,x4,x5,x6,x7, .str fn, .str name,vg] :: vr o [.int .i64 kind, .str var, .str cls,wb,wt,uc,un,vl,y0,y1,y2,y3,y4,y5,y6,y7, .str fn, .str name,wg] :: vr r CS :: L) (⟨vl,1,el⟩ :: S) (Ext b5 :: F)→eH b5 el (alts.take i)→
   Mi (ak E n) n m (.ptr r 0 0 0) (.ptr o 0 0 0) va (.int .i64 (alts.length:Int)) (.int .i64 (i:Int)) h K=true:=by
   intro m
   induction m with
   |zero=>intro i h b5 wt wg vl etl egl el _ hm;omega
   |succ m ih=>
    intro i h b5 wt wg vl etl egl el hi hm e5 Wt St Wg Sg A Rl;have hel:=Rl.len;have ok1:=A.view.iW;rw[ac0];unfold Qq;refine fT ?_;by_cases hlt:i<alts.length
    ·rw[decide_eq_true hlt];have hb:alts[i]? =some alts[i]:=List.getElem?_eq_getElem hlt;generalize alts[i]=y at hb;obtain⟨v1,qo,hc1,V1,R1⟩:=a2 i y hb;have hw:=rO hb;have ht:(alts.take i).length=i:=List.length_take_of_le hi;have e':=e.trans e5;refine bN (nV ((Va.ext e').ext A.f0) hc1 rfl (ay (aJ A.v1 rfl ?_)));refine ya Q (by omega) (by omega) (by omega) A (V1.ext e') (eY.ext e' R1) fun h b6 u eu e6 A W1 S1=>aD (nZ W1) ?_;refine aJ A.v1 rfl (bI ok1 (iM A rfl rfl rfl rfl (kG W1.leaf) rfl fun w h A _=>aJ A.v1 rfl (bI ok1 ?_)));refine jo A rfl A.f0.src ?_ ?_ fun vl' h A _=> ?_
     ·show(el.length+1)*24≤most;omega
     ·show el.length+1≤most;omega
     refine ay (fZ A rfl A.leafS fun h A=>gZ (by omega) ?_);refine ih (i+1) h b6 wt wg vl' etl egl _ (by omega) (by omega) (e5.trans e6) (Wt.ext e6) (mH.ext e6 St) (Wg.ext e6) (pX.ext e6 Sg) A.dJ ?_;rw[kJ hb];exact(eH.ext e6 Rl).app (eH.one W1 S1)
    ·rw[decide_eq_false hlt];refine bE ?_;unfold Wq;obtain⟨b6,e6,W6,A⟩:=A.frz;rw[List.take_of_length_le (by omega)] at Rl;have e7:=e5.trans e6;have RR:RC b6 [.int .i64 kind, .str var, .str cls,wb,wt,uc,un,vl,y0,y1,y2,y3,y4,y5,y6,y7, .str fn, .str name,wg] (.mk kind var cls binds tests conds thn alts ex fn name args):=
      RC.put (ce:=[y0,y1,y2,y3,y4,y5,y6,y7]) (Wb.ext (e2.trans (e3.trans (e4.trans e7)))) (Wt.ext e6) (mH.ext e6 St) (Wc.ext (e4.trans e7)) (eY.ext (e4.trans e7) Sc) (Wn.ext e7) (eY.ext e7 Sn) W6 (eH.ext e6 Rl) (We.ext (e3.trans (e4.trans e7))) (Wg.ext e6) (pX.ext e6 Sg)
     have CR:=RR.cells;refine fJ A.v1 rfl (U8 A rfl rfl rfl CR.2.1 fun h A=>sI A.v2 rfl ?_);exact k h b6 _ (e.trans e7) A.rest.rest.rest RR
  have l2:∀(m i:Nat) (h b5:ah) (wt vl:AV) (etl el:List (List AV)),i≤args.length→args.length-i<m→Ext b4 b5→View b5 8 wt etl→mH b5 etl tests→
   Cx h (vr a [.int .i64 kind, .str var, .str cls,vb,vt,vc,vn,va,x0,x1,x2,x3,x4,x5,x6,x7, .str fn, .str name,vg] :: vr o [.int .i64 kind, .str var, .str cls,wb,wt,uc,un, .au,y0,y1,y2,y3,y4,y5,y6,y7, .str fn, .str name,vl] :: vr r CS :: L) (⟨vl,9,el⟩ :: S) (Ext b5 :: F)→pX b5 el (args.take i)→
   Np (ak E n) n m (.ptr a 0 0 0) (.ptr r 0 0 0) (.ptr o 0 0 0) vg (.int .i64 (args.length:Int)) (.int .i64 (i:Int)) h K=true:=by
   intro m
   induction m with
   |zero=>intro i h b5 wt vl etl el _ hm;omega
   |succ m ih=>
    intro i h b5 wt vl etl el hi hm e5 Wt St A Rl;have hel:=Rl.len;have ok1:=A.view.iW;rw[adJ];unfold Qr;refine fT ?_;by_cases hlt:i<args.length
    ·rw[decide_eq_true hlt];have hb:args[i]? =some args[i]:=List.getElem?_eq_getElem hlt;generalize args[i]=y at hb;obtain⟨c1,hc1,R1⟩:=gg2 i y hb;have hw:=Xa hb;have C1:=R1.cells;obtain⟨q0,q1,q2,q3,q4,q5,q6,q7,rfl⟩:=len8 C1.1;have ht:(args.take i).length=i:=List.length_take_of_le hi;have e':=e.trans e5;have lf:aB (.str y.1 :: [q0,q1,q2,q3,q4,q5,q6,q7])=true:=aF rfl C1.2.1;refine bN (rM ((Vg.ext e').ext A.f0) hc1 rfl ?_);refine bO A rfl rfl rfl fun q h A=> ?_;refine gF A rfl rfl rfl lf fun h A=> ?_;refine ay (aJ A.v2 rfl (ay (aJ A.v1 rfl (ay (dw A.v1 rfl ?_)))));refine ye (cE y.2) n h b5 y.2 _ _ _ _ _ (Nat.le_refl _) (by omega) (by omega) A (R1.ext e') fun h b6 ce' e6 A W1=>aD rfl ?_;have D1:=W1.cells;obtain⟨p0,p1,p2,p3,p4,p5,p6,p7,rfl⟩:=len8 D1.1;refine aJ A.v2 rfl (bI ok1 (aJ A.v1 rfl (bI (iW.str _) (dO (l:= .str y.1 :: [p0,p1,p2,p3,p4,p5,p6,p7]) ?_ ?_))))
     ·exact agv rfl D1.2.1
     refine iM A rfl rfl rfl rfl (dY rfl (aF rfl D1.2.1)) rfl fun w h A _=>aJ A.v2 rfl (bI ok1 (aJ A.v1 rfl (bI (iW.str _) (dw A.v1 rfl (bI (iW.agg C1.2.2) ?_)))));refine jo A rfl A.f0.src ?_ ?_ fun vl' h A _=> ?_
     ·show(el.length+1)*128≤most;omega
     ·show el.length+1≤most;omega
     refine ay (Lh A rfl A.leafS fun h A=>gZ (by omega) ?_);refine ih (i+1) h b6 wt vl' etl _ (by omega) (by omega) (e5.trans e6) (Wt.ext e6) (mH.ext e6 St) A.aZ.dJ ?_;rw[kJ hb];exact(pX.ext e6 Rl).app (pX.one W1)
    ·rw[decide_eq_false hlt];refine bE ?_;unfold XT;obtain⟨b6,e6,W6,A⟩:=A.frz;rw[List.take_of_length_le (by omega)] at Rl;refine ay (aJ A.var rfl (dZ (Va.ext (e.trans ((e5.trans e6).trans A.f0))) ?_));rw[a1];exact l3 n 0 h b6 wt vl .au etl el [] (Nat.zero_le _) (by omega) (e5.trans e6) (Wt.ext e6) (mH.ext e6 St) W6 (pX.ext e6 Rl) (A.slc 1) eH.nil
  have l1:∀(m i:Nat) (h b5:ah) (vl:AV) (el:List (List AV)),i≤tests.length→tests.length-i<m→Ext b4 b5→
   Cx h (vr a [.int .i64 kind, .str var, .str cls,vb,vt,vc,vn,va,x0,x1,x2,x3,x4,x5,x6,x7, .str fn, .str name,vg] :: vr o [.int .i64 kind, .str var, .str cls,wb,vl,uc,un, .au,y0,y1,y2,y3,y4,y5,y6,y7, .str fn, .str name, .au] :: vr r CS :: L) (⟨vl,8,el⟩ :: S) (Ext b5 :: F)→mH b5 el (tests.take i)→
   JV (ak E n) n m (.ptr a 0 0 0) (.ptr r 0 0 0) (.ptr o 0 0 0) vt (.int .i64 (tests.length:Int)) (.int .i64 (i:Int)) h K=true:=by
   intro m
   induction m with
   |zero=>intro i h b5 vl el _ hm;omega
   |succ m ih=>
    intro i h b5 vl el hi hm e5 A Rl;have hel:=Rl.len.1;have ok1:=A.view.iW;rw[adC];unfold Rv;refine fT ?_;by_cases hlt:i<tests.length
    ·rw[decide_eq_true hlt];have hb:tests[i]? =some tests[i]:=List.getElem?_eq_getElem hlt;generalize tests[i]=y at hb;obtain⟨c1,hc1,R1⟩:=t2 i y hb;have hw:=Jr hb;have C1:=R1.cells;have ht:(tests.take i).length=i:=List.length_take_of_le hi;have e':=e.trans e5;refine bN (rM ((Vt.ext e').ext A.f0) hc1 C1.1 ?_);refine bO A rfl rfl rfl fun q h A=> ?_;refine gF A rfl C1.1 rfl C1.2.1 fun h A=> ?_;refine ay (aJ A.v2 rfl (fJ A.v1 C1.1 ?_));refine ye (cE y) n h b5 y _ _ _ _ _ (Nat.le_refl _) (by omega) (by omega) A (R1.ext e') fun h b6 ce' e6 A W1=>aD rfl ?_;have D1:=W1.cells;refine aJ A.v2 rfl (bI ok1 (iM A rfl rfl rfl rfl (dY D1.1 D1.2.1) rfl fun w h A _=>aJ A.v2 rfl (bI ok1 (fJ A.v1 C1.1 (bI (iW.agg C1.2.2) ?_)))));refine jo A rfl A.f0.src ?_ ?_ fun vl' h A _=> ?_
     ·show(el.length+1)*112≤most;omega
     ·show el.length+1≤most;omega
     refine ay (Lh A rfl A.leafS fun h A=>gZ (by omega) ?_);refine ih (i+1) h b6 vl' _ (by omega) (by omega) (e5.trans e6) A.aZ.dJ ?_;rw[kJ hb];exact(mH.ext e6 Rl).app (mH.one W1)
    ·rw[decide_eq_false hlt];refine bE ?_;unfold Xx;obtain⟨b6,e6,W6,A⟩:=A.frz;rw[List.take_of_length_le (by omega)] at Rl;refine ay (aJ A.var rfl (dZ (Vg.ext (e.trans ((e5.trans e6).trans A.f0))) ?_));rw[gg1];exact l2 n 0 h b6 vl .au el [] (Nat.zero_le _) (by omega) (e5.trans e6) W6 (mH.ext e6 Rl) (A.slc 9) rfl
  rw[t1];exact l1 n 0 h b4 .au [] (Nat.zero_le _) (by omega) (Ext.refl _) (A.slc 8) mH.nil
theorem Fg {n:Nat} {h b:ah} {l:List Cd} {v:AV} {es:List (List AV)} {L:gB} {S:List Sl} {F:List (ah→Prop)} {K:aK} (hB:gH l≤big) (hn:3*gH l+10≤n) (A:Cx h L S (Ext b :: F)) (V:View b 19 v es) (R:eY b es l)
 (k:∀h b' u eu,Ext b b'→Cx h L S (Ext b' :: F)→View b' 19 u eu→eY b' eu l→K u h=true):ak E n (.func 15) [v] h K=true:=ya (yc _) (Nat.le_refl _) hB hn A V R k
theorem RC.not {b:ah} {l:List Cd} {v:AV} {es:List (List AV)} {k:Int} (V:View b 19 v es) (R:eY b es l):RC b (cCd k v .au) (SS k l):=RC.lists V R (View.nil b 19) eY.nil
section
variable {h b:ah} {L:gB} {S:List Sl} {F:List (ah→Prop)} {K:aK} {v:AV} {es:List (List AV)} {n:Nat}
theorem x43 {x:List (List Cd)} (hl:x.length≤1000000) (hn:x.length+4≤n) (A:Cx h L S (Ext b :: F)) (V:View b 1 v es) (R:eH b es x)
 (k:∀h b' u eu,Ext b b'→Cx h L S (Ext b' :: F)→View b' 19 u eu→eY b' eu (x.map yx)→K u h=true):ak E n (.func 43) [v] h K=true:=by
 obtain⟨n,rfl⟩:∃m,n=m+1:=⟨n-1,by omega⟩;have hlim:lim=4611686018427387904:=rfl;have hmo:most=1099511627776:=rfl;have⟨g1,g2⟩:=R.get;apply d43;unfold s43;refine dZ (V.ext A.f0) ?_;rw[g1];have lp:∀(m i:Nat) (h b1:ah) (vl:AV) (el:List (List AV)),i≤x.length→x.length-i<m→Ext b b1→Cx h L (⟨vl,19,el⟩ :: S) (Ext b1 :: F)→eY b1 el ((x.take i).map yx)→Vr (ak E n) n m vl v (.int .i64 (x.length:Int)) (.int .i64 (i:Int)) h K=true:=by
  intro m
  induction m with
  |zero=>intro i h b1 vl el _ hm;omega
  |succ m ih=>
   intro i h b1 vl el hi hm e A Rt;have hel:=Rt.len;rw[List.length_map] at hel;rw[agD];unfold YD;refine fT ?_;by_cases hlt:i<x.length
   ·rw[decide_eq_true hlt];have hb:x[i]? =some x[i]:=List.getElem?_eq_getElem hlt;generalize x[i]=y at hb;have⟨v1,qo,hc1,V1,R1⟩:=g2 i y hb;refine have ht:(x.take i).length=i:=List.length_take_of_le hi;bN (nV ((V.ext e).ext A.f0) hc1 rfl<|x44 (by omega) A V1.leaf fun h A=>aD rfl ?_)
    have C2:=(RC.not (k:=2) V1 R1).cells;unfold EO;refine iM A rfl rfl rfl rfl (dY C2.1 C2.2.1) rfl fun w h A _=>jo A rfl A.f0.src ?_ ?_ fun vl' h A _=> ?_
    ·show(el.length+1)*328≤most;omega
    ·show el.length+1≤most;omega
    refine gZ (by omega)<|ih (i+1) h b1 vl' _ (by omega) (by omega) e A.dJ ?_;rw[kJ hb,List.map_append];exact Rt.app (eY.one (RC.not (V1.ext e) (eY.ext e R1)))
   ·rw[decide_eq_false hlt];refine bE<|have⟨b2,e2,V2,A⟩:=A.frz;?_
    rw[List.take_of_length_le (by omega)] at Rt;exact k h b2 _ _ (e.trans e2) A V2 (eY.ext e2 Rt)
 exact lp n 0 _ b .au [] (Nat.zero_le _) (by omega) (Ext.refl _) (A.slc 19) eY.nil
def RX (b:ah):List (List AV)→List (List (List Cd))→Prop
 |es,[]=>es=[]
 |es,x :: B=>∃v ev r,es=[v] :: r∧View b 1 v ev∧eH b ev x∧RX b r B
theorem RX.ext {b b':ah} (e:Ext b b'):∀{es:List (List AV)} {B:List (List (List Cd))},RX b es B→RX b' es B
 |es,[],H=>H
 |es,x :: B,⟨v,ev,r,h1,h2,h3,h4⟩=>⟨v,ev,r,h1,h2.ext e,eH.ext e h3,h4.ext e⟩
theorem RX.snoc {b:ah} {v:AV} {ev:List (List AV)} {x:List (List Cd)} (V:View b 1 v ev) (R:eH b ev x):∀{es:List (List AV)} {B:List (List (List Cd))},RX b es B→RX b (es++[[v]]) (B++[x])
 |es,[],H=>by cases (show es=[] from H);exact⟨v,ev,[],rfl,V,R,rfl⟩
 |es,y :: B,⟨w,ew,r,h1,h2,h3,h4⟩=>by subst h1;exact⟨w,ew,r++[[v]],rfl,h2,h3,h4.snoc V R⟩
theorem RX.get {b:ah}:∀{es:List (List AV)} {B:List (List (List Cd))},RX b es B→es.length=B.length∧∀(j:Nat) (x:List (List Cd)),B[j]? =some x→∃v ev,es[j]? =some [v]∧View b 1 v ev∧eH b ev x
 |es,[],R=>by cases (show es=[] from R);exact⟨rfl,fun j b e=>by simp at e⟩
 |es,y :: B,⟨w,ew,r,h1,h2,h3,h4⟩=>by
  subst h1;refine have⟨i1,i2⟩:=h4.get;⟨by simp[i1],fun j x e=> ?_⟩
  cases j with
  |zero=>simp only[List.getElem?_cons_zero,Option.some.injEq] at e ⊢;subst e;exact⟨w,ew,rfl,h2,h3⟩
  |succ j=>simp only[List.getElem?_cons_succ] at e ⊢;exact i2 j x e
structure Out (h b:ah) (o:Nat) (L:gB) (S:List Sl) (F:List (ah→Prop)) (out:List (List Cd)):Prop where
 ex:∃vo eo,Cx h (vr o [vo] :: L) (⟨vo,1,eo⟩ :: S) (Ext b :: F)∧eH b eo out
theorem x28 {o:Nat} {x:List Cd} {out:List (List Cd)} (hB:gH x≤huge) (hn:3*gH x+10≤n) (ho:out.length≤1000000) (A:Out h b o L S F out) (V:View b 19 v es) (R:eY b es x)
 (bad:∀h,Cx h L S (Ext b :: F)→K rfz h=true) (k:∀h,kC.kCs x≤64→Out h b o L S F (out++[x])→K (.tup []) h=true):ak E n (.func 28) [v, .ptr o 0 0 0] h K=true:=by
 obtain⟨n,rfl⟩:∃m,n=m+1:=⟨n-1,by omega⟩;have hmo:most=1099511627776:=rfl;obtain⟨vo,eo,A,Ro⟩:=A.ex;have hel:=Ro.len;apply d28;unfold s28;refine x29 hB (by omega) A.ok (V.ext A.f0) (eY.ext A.f0 R) fun h e q=>aD rfl ?_;have A:=A.ext e q;unfold Li;refine Ij ?_;refine IV (by omega) (fun ht=>aD rfl ?_) fun _=>uX (bad h A.freeze.dJ.rest);have ht:kC.kCs x≤64:=by have:=of_decide_eq_true ht;omega
 refine aJ A.var rfl (iM A rfl rfl rfl rfl (kG V.leaf) rfl fun w h A _=> ?_);refine jo A rfl A.f0.src ?_ ?_ fun vl' h A _=> ?_
 ·show(eo.length+1)*24≤most;omega
 ·show eo.length+1≤most;omega
 exact sD A rfl A.leafS fun h A=>k h ht ⟨_,_,A.dJ,Ro.app (eH.one V R)⟩
end
theorem PN:∀(a b:List Cd),kC.kCs (a++b)=kC.kCs a+kC.kCs b
 | [],b=>by simp[kC.kCs]
 |c :: a,b=>by simp only[List.cons_append,kC.kCs,PN a b];omega
def GX (W:Nat) (y:List (List Cd)):Prop:=y.length≤1000∧∀x∈y,Im W x∧kC.kCs x≤20000000∧x.length≤1000
def FF:Nat:=1000000000000000000
theorem iW.fn (f:Nat) (l:List AV) (h:rT l l=true):iW (.fn (.func f) [] l):=by
 unfold iW;simp[AV.same,Rj,h,rT]
section
variable {L:gB} {S:List Sl} {F:List (ah→Prop)}
theorem UU {W p f o:Nat} {vby:AV} {eby:List (List AV)} {B:List (List (List Cd))} (hW:W≤100000) (hBW:B.length≤W):
 ∀(suf pre:List (List (List Cd))),B=pre++suf→∀{n:Nat} {h b:ah} {so:List Cd} {vso:AV} {eso:List (List AV)} {out:List (List Cd)} {K:aK},(∀y∈suf,GX W y)→
 View b 1 vby eby→RX b eby B→View b 19 vso eso→eY b eso so→Im W so→kC.kCs so≤pre.length*20000000→so.length≤pre.length*1000→out.length+(fq suf).length≤2000→FF+suf.length+10≤n→
 Out h b o (vr p [vby] :: vr f [.fn (.func 26) [] [.ptr p 0 0 0, .ptr f 0 0 0]] :: L) S F out→
 (∀h b',Ext b b'→Cx h (vr p [vby] :: vr f [.fn (.func 26) [] [.ptr p 0 0 0, .ptr f 0 0 0]] :: L) S (Ext b' :: F)→K rfz h=true)→
 (∀h b',Ext b b'→Out h b' o (vr p [vby] :: vr f [.fn (.func 26) [] [.ptr p 0 0 0, .ptr f 0 0 0]] :: L) S F (out++(fq suf).map (so++·))→(∀z∈(fq suf).map (so++·),kC.kCs z≤64)→K (.tup []) h=true)→
 ak E n (.func 26) [.int .i64 (pre.length:Int),vso, .fn (.func 28) [] [.ptr o 0 0 0], .ptr p 0 0 0, .ptr f 0 0 0] h K=true:=by
 intro suf
 induction suf with
 |nil=>
  intro pre hB n h b so vso eso out K G Vb Rb Vs Rs gs ks ls hlen hn A bad ok;obtain⟨n,rfl⟩:∃m,n=m+1:=⟨n-1,by omega⟩;have hff:FF=1000000000000000000:=rfl;have hhu:huge=1000000000000000000:=rfl;obtain⟨vo,eo,A,Ro⟩:=A.ex;have hl:B.length=pre.length:=by rw[hB];simp
  have hsz:=LU so gs;have hks:(W+1)*kC.kCs so≤100001*2000000000000:=Nat.mul_le_mul (by omega) (Nat.le_trans ks (Nat.mul_le_mul_right 20000000 (show pre.length≤100000 by omega)));apply d26;unfold s26;refine aJ A.v1 rfl (dZ (Vb.ext A.f0) (kQ ?_));rw[Rb.get.1,hl,decide_eq_true rfl];refine bN (aeD ?_);refine x28 (b:=b) (out:=out) (by omega) (by omega) (by simp[fq] at hlen;omega) ⟨vo,eo,A,Ro⟩ Vs Rs (fun h A=>uX (bad h b (Ext.refl _) A)) fun h hk A=>aD rfl ?_;have e:(fq []).map (so++·)=[so]:=by simp[fq]
  rw[e] at ok;exact ok h b (Ext.refl _) A fun z hz=>by rw[List.mem_singleton.1 hz];exact hk
 |cons y suf ih0=>
  intro pre hB n h b so vso eso out K G Vb Rb Vs Rs gs ks ls hlen hn A bad ok;obtain⟨n,rfl⟩:∃m,n=m+1:=⟨n-1,by omega⟩;have hff:FF=1000000000000000000:=rfl;have hlim:lim=4611686018427387904:=rfl;have hmo:most=1099511627776:=rfl;have hl:B.length=pre.length+(suf.length+1):=by rw[hB];simp
  have hy:B[pre.length]? =some y:=by rw[hB];simp
  have gy:=G y List.mem_cons_self;have gy1:=gy.1;obtain⟨q1,q2⟩:=Rb.get;obtain⟨vy,ey,hvy,Vy,Ry⟩:=q2 _ y hy;obtain⟨y1,y2⟩:=Ry.get;have hT:(fq (y :: suf)).map (so++·)=y.flatMap fun x=>(fq suf).map fun z=>so++x++z:=by
   simp only[fq,List.map_flatMap,List.map_map,Function.comp_def,List.append_assoc]
  rw[hT] at ok;have hP:(fq (y :: suf)).length=y.length*(fq suf).length:=AO (· ++·) y (fq suf);rw[hP] at hlen;have tl:∀j,((y.take j).flatMap fun x=>(fq suf).map fun z=>so++x++z).length=(y.take j).length*(fq suf).length:=fun j=>AO (fun x z=>so++x++z) (y.take j) (fq suf);apply d26;unfold s26;obtain⟨vo,eo,A1,Ro⟩:=A.ex;refine aJ A1.v1 rfl (dZ (Vb.ext A1.f0) (kQ ?_));rw[q1,hl,decide_eq_false (by omega)];refine bE ?_;unfold ad8;refine aJ A1.v1 rfl (nV (Vb.ext A1.f0) hvy rfl (dZ (Vy.ext A1.f0) ?_));rw[y1];have lp:∀(m j:Nat) (h b1:ah),j≤y.length→y.length-j<m→Ext b b1→Out h b1 o (vr p [vby] :: vr f [.fn (.func 26) [] [.ptr p 0 0 0, .ptr f 0 0 0]] :: L) S F (out++(y.take j).flatMap fun x=>(fq suf).map fun z=>so++x++z)→
   (∀z∈(y.take j).flatMap fun x=>(fq suf).map fun z=>so++x++z,kC.kCs z≤64)→
   Gr (ak E n) n m (.int .i64 (pre.length:Int)) vso (.fn (.func 28) [] [.ptr o 0 0 0]) (.ptr f 0 0 0) vy (.int .i64 (y.length:Int)) (.int .i64 (j:Int)) h K=true:=by
   intro m
   induction m with
   |zero=>intro j h b1 _ hm;omega
   |succ m ih=>
    intro j h b1 hj hm e A hk;rw[acn];unfold PX;refine fT ?_;by_cases hlt:j<y.length
    ·rw[decide_eq_true hlt];have hx:y[j]? =some y[j]:=List.getElem?_eq_getElem hlt;generalize y[j]=x at hx;obtain⟨vx,ex,hvx,Vx,Rx⟩:=y2 j x hx;have gx:=gy.2 x (List.mem_of_getElem? hx);have tj:(y.take j).length=j:=List.length_take_of_le hj;have hn1:(j+1)*(fq suf).length≤y.length*(fq suf).length:=Nat.mul_le_mul_right _ hlt;have hn2:(j+1)*(fq suf).length=j*(fq suf).length+(fq suf).length:=by rw[Nat.add_mul,Nat.one_mul]
     have es:=Rs.len;have exl:=Rx.len;obtain⟨vo,eo,A,Ro⟩:=A.ex;refine bN (nV (Vy.ext (e.trans A.f0)) hvx rfl (aJ A.v2 rfl (gZ (by omega) ?_)));refine x27 (by omega) A (Vs.ext e) (Vx.ext e) ?_ fun h b2 u e2 A U=>aD (nZ U) ?_
     ·rw[es,exl];omega
     refine aJ A.v2 rfl (bI (iW.fn _ _ (by simp[rT,AV.same])) (aeD ?_));have e12:=e.trans e2;have pl:(pre++[y]).length=pre.length+1:=by simp
     have h0:=ih0 (pre++[y]) (by rw[hB];simp) (n:=n) (h:=h) (b:=b2) (so:=so++x) (vso:=u) (eso:=eso++ex) (out:=out++(y.take j).flatMap fun x=>(fq suf).map fun z=>so++x++z) (K:=pz K fun v15 h=>eG (.int .i64 (j:Int)) (.int .i64 1) fun v16=>Gr (ak E n) n m (.int .i64 (pre.length:Int)) vso (.fn (.func 28) [] [.ptr o 0 0 0]) (.ptr f 0 0 0) vy (.int .i64 (y.length:Int)) v16 h K)
      (fun z hz=>G z (List.mem_cons_of_mem _ hz)) (Vb.ext e12) (Rb.ext e12) U ((eY.ext e12 Rs).app (eY.ext e12 Rx)) (JC _ _ gs gx.1)
      (by rw[PN,pl];omega) (by rw[List.length_append,pl];omega) (by rw[List.length_append,tl,tj];omega) (by simp only[List.length_cons] at hn;omega) ⟨vo,eo,A,eH.ext e2 Ro⟩
      (fun h b3 e3 A=>uX (bad h b3 (e12.trans e3) A)) fun h b3 e3 A hk'=>aD rfl (gZ (by omega) ?_)
     ·rw[pl] at h0;exact h0
     have ef:(y.take (j+1)).flatMap (fun x=>(fq suf).map fun z=>so++x++z)=(y.take j).flatMap (fun x=>(fq suf).map fun z=>so++x++z)++(fq suf).map (so++x++·):=by
      rw[kJ hx,List.flatMap_append,List.flatMap_singleton]
     refine ih (j+1) h b3 (by omega) (by omega) (e12.trans e3) ?_ ?_
     ·rw[ef, ←List.append_assoc];exact A
     ·intro z hz;rw[ef] at hz;rcases List.mem_append.1 hz with hz |hz
      ·exact hk z hz
      ·exact hk' z hz
    ·rw[decide_eq_false hlt];rw[List.take_of_length_le (by omega)] at A hk;exact bE (ok h b1 e A hk)
  refine lp n 0 h b (Nat.zero_le _) (by have:=gy.1;omega) (Ext.refl _) ?_ ?_
  ·simp only[List.take_zero,List.flatMap_nil,List.append_nil];exact A
  ·intro z hz;simp at hz
end
theorem aiQ (c:Cd):1≤kC c:=by cases c;simp only[kC];omega
theorem Sz:∀(l:List Cd),l.length≤kC.kCs l
 | []=>Nat.le_refl _
 |c :: l=>by have:=Sz l;have:=aiQ c;simp only[kC.kCs,List.length_cons];omega
theorem ad6 (n:Int) (l:List Cd):kC (SS n l)=1+kC.kCs l:=by simp only[SS,kC,kC.kCs,kC.kCss];omega
theorem X3 {M:Nat} {α:Type} (f:α→List Cd):∀(l:List α),(∀z∈l,kC.kCs (f z)≤M)→kC.kCs (l.map fun z=>yx (f z))≤l.length*(M+1)
 | [],_=>by simp[kC.kCs]
 |z :: l,h=>by
  have h1:=h z List.mem_cons_self;have h2:=X3 f l fun z hz=>h z (List.mem_cons_of_mem _ hz);simp only[List.map_cons,kC.kCs,yx,ad6,List.length_cons,Nat.add_mul,Nat.one_mul] at h2 ⊢;omega
theorem QT {l:List (List Cd)} (h1:l.length≤512) (h:∀z∈l,kC.kCs z≤64):kC.kCs (l.map yx)≤33280:=
 Nat.le_trans (X3 (M:=64) id l h) (Nat.mul_le_mul_right 65 h1)
section
variable {h b:ah} {L:gB} {S:List Sl} {F:List (ah→Prop)} {K:aK} {v:AV} {es:List (List AV)} {n:Nat}
theorem aiB {x:List Cd} (A:Cx h L S (Ext b :: F)) (V:View b 19 v es) (R:eY b es x) (k:∀h b' u eu,Ext b b'→Cx h L S (Ext b' :: F)→View b' 1 u eu→eH b' eu [x]→K u h=true):(aQ (aO h 1 1 [.au] [(0,v)]) fun u h=>K u h)=true:=
 iM A rfl rfl rfl rfl (kG V.leaf) rfl fun w h A _=>by
  exact have⟨b',e,W,A⟩:=A.sub1;k h b' w _ e A W (eH.one (V.ext e) (eY.ext e R))
theorem aoG {c:List AV} {y:Cd} (A:Cx h L S (Ext b :: F)) (R:RC b c y) (k:∀h b' u eu,Ext b b'→Cx h L S (Ext b' :: F)→View b' 19 u eu→eY b' eu [y]→K u h=true):aQ (aO h 1 19 CS [(0, .agg c)]) K=true:=
 iM A rfl rfl rfl rfl (dY R.cells.1 R.cells.2.1) rfl fun w h A _=>by
  exact have⟨b',e,W,A⟩:=A.sub1;k h b' w _ e A W (eY.one (RC.ext e R))
theorem ae5 {c:List AV} {y:Cd} (A:Cx h L S (Ext b :: F)) (R:RC b c y) (k:∀h b' u eu,Ext b b'→Cx h L S (Ext b' :: F)→View b' 1 u eu→eH b' eu [[y]]→K u h=true):(aQ (aO h 1 19 CS [(0, .agg c)]) fun v h=>aQ (aO h 1 1 [.au] [(0,v)]) fun u h=>K u h)=true:=
 aoG A R fun h b1 v es e1 A V R=>aiB A V R fun h b2 u eu e2 A V R=>k h b2 u eu (e1.trans e2) A V R
end
theorem UG:∀(a b:List (List Cd)),Co (a++b)=Co a++Co b
 | [],b=>rfl
 |c :: a,b=>by simp only[List.cons_append,Co,UG a b,List.append_assoc]
theorem TA:∀{m:List (List Cd)} {j:Nat} {l:List Cd},uq m→m[j]? =some l→uU l
 | [],_,_,_,h=>by cases h
 |x :: m,0,l,w,h=>by simp only[List.getElem?_cons_zero,Option.some.injEq] at h;subst h;simp only[uq] at w;exact w.1
 |x :: m,j+1,l,w,h=>by simp only[List.getElem?_cons_succ] at h;simp only[uq] at w;exact TA w.2 h
theorem Zx:∀{m:List Cd} {j:Nat} {l:Cd},uU m→m[j]? =some l→Jc l
 | [],_,_,_,h=>by cases h
 |x :: m,0,l,w,h=>by simp only[List.getElem?_cons_zero,Option.some.injEq] at h;subst h;simp only[uU] at w;exact w.1
 |x :: m,j+1,l,w,h=>by simp only[List.getElem?_cons_succ] at h;simp only[uU] at w;exact Zx w.2 h
def AS (W N:Nat):Prop:=∀(n:Nat) (h b:ah) (l:List Cd) (v:AV) (es:List (List AV)) (L:gB) (S:List Sl) (F:List (ah→Prop)) (K:aK),gH l≤N→gH l≤W→uU l→FF+3*gH l+3002≤n→
 Cx h L S (Ext b :: F)→View b 19 v es→eY b es l→(∀h b',Ext b b'→Cx h L S (Ext b' :: F)→K rfz h=true)→
 (∀h b' u eu,Ext b b'→Cx h L S (Ext b' :: F)→View b' 1 u eu→eH b' eu (fE l)→(fE l).length≤512→(∀z∈fE l,kC.kCs z≤64)→K u h=true)→ak E n (.func 14) [v] h K=true
theorem Hq {W:Nat} {x:List Cd} (h:∀y∈[x],Im W y) (h2:kC.kCs x≤20000000) (h3:x.length≤1000):GX W [x]:=⟨by simp,fun y hy=>by
 have:=h y hy;rw[List.mem_singleton] at hy;subst hy;exact⟨this,h2,h3⟩⟩
set_option maxRecDepth 100000 in
theorem xch {W N:Nat} (h8:8≤W) (hW:W≤100000) (Q:AS W N) {n:Nat} {h b:ah} {c:Cd} {cv:List AV} {L:gB} {S:List Sl} {F:List (ah→Prop)} {K:aK} (hN:cC c≤N+1) (hw:cC c≤W) (wf:Jc c) (hn:FF+3*cC c+3001≤n)
 (A:Cx h L S (Ext b :: F)) (R:RC b cv c) (bad:∀h b',Ext b b'→Cx h L S (Ext b' :: F)→K rfz h=true)
 (ok:∀h b' u eu,Ext b b'→Cx h L S (Ext b' :: F)→View b' 1 u eu→eH b' eu (EW c)→GX W (EW c)→K u h=true):ak E n (.func 25) [.agg cv] h K=true:=by
 obtain⟨n,rfl⟩:∃m,n=m+1:=⟨n-1,by omega⟩;have hlim:lim=4611686018427387904:=rfl;have hmo:most=1099511627776:=rfl;have C:=R.cells;have gd:=ZH h8 c wf hw;have kle:=ahn c;have R0:=R;obtain⟨kind,var,cls,binds,tests,conds,thn,alts,ex,fn,name,args⟩:=c;have hc:cC (.mk kind var cls binds tests conds thn alts ex fn name args)=var.length+cls.length+cB binds+vT tests+gH conds+gH thn+iP alts+cE ex+fn.length+name.length+cG args+1:=by simp only[cC]
 simp only[RC] at R;obtain⟨vb,vt,et,vc,ec,vn,en,va,ea,ce,vg,eg,rfl,Vb,Vt,Rt,Vc,Rc,Vn,Rn,Va,Ra,Re,Vg,Rg⟩:=R;obtain⟨x0,x1,x2,x3,x4,x5,x6,x7,rfl⟩:=len8 Re.cells.1;simp only[List.cons_append,List.nil_append] at C R0 ⊢;simp only[Jc] at wf;obtain⟨w1,w2,w3,w4,w5,w6,w7⟩:=wf;simp only[EW] at ok gd;apply d25;unfold s25;refine rC A C.1 rfl C.2.1 fun a h A=> ?_;refine ay (aJ A.var rfl (kQ ?_));by_cases k2:kind=2
 ·rw[decide_eq_true k2];rw[if_pos k2] at ok gd;refine bN (ay (aJ A.var rfl ?_));refine Q n h b conds vc ec _ _ _ _ (by omega) (by omega) w5 (by omega) A Vc Rc (fun h b1 e A=>uX (bad h b1 e A.rest)) fun h b1 u eu e1 A V1 R1 l1 k1=>aD (nZ V1) ?_;unfold FU;refine x43 (by omega) (by omega) A V1 R1 fun h b2 u eu e2 A V2 R2=>aD (nZ V2) ?_;unfold Gl;refine aiB A V2 R2 fun h b3 u eu e3 A V3 R3=>ok h b3 u eu (e1.trans (e2.trans e3)) A.rest V3 R3 (Hq gd ?_ ?_)
  ·exact Nat.le_trans (QT l1 k1) (by omega)
  ·rw[List.length_map];exact Nat.le_trans l1 (by omega)
 rw[decide_eq_false k2];rw[if_neg k2] at ok gd;refine bE (kQ ?_);by_cases k3:kind=3
 ·rw[decide_eq_true k3];rw[if_pos k3] at ok gd;refine bN (ay (aJ A.var rfl ?_));refine Q n h b conds vc ec _ _ _ _ (by omega) (by omega) w5 (by omega) A Vc Rc (fun h b1 e A=>uX (bad h b1 e A.rest)) fun h b1 u eu e1 A V1 R1 l1 k1=>aD (nZ V1) ?_;refine dZ (V1.ext A.f0) (kQ ?_);have rl:=R1.get.1;rw[rl];by_cases hl:(fE conds).length=1
  ·rw[decide_eq_true (by rw[hl];rfl)];obtain⟨x,hx⟩:=List.length_eq_one_iff.1 hl;rw[show fq (mF conds)=[x] from hx] at ok gd
   have kx:=k1 x (by rw[hx];exact List.mem_singleton.2 rfl);obtain⟨v1,qo,hv1,W1,S1⟩:=R1.get.2 0 x (by rw[hx];rfl);refine bN (nV (i:=0) (V1.ext A.f0) hv1 rfl ?_);refine dO ((nS rfl rfl).trans ((nS W1.leaf rfl).trans rfl)) ?_;refine ae5 A (RC.not (k:=3) W1 S1) fun h b3 u eu e3 A V3 R3=>ok h b3 u eu (e1.trans e3) A.rest V3 R3 (Hq gd ?_ (by simp));simp only[kC.kCs,ad6];omega
  ·rw[decide_eq_false (by omega)];have em:=aiq (l:=fq (mF conds)) hl;rw[em] at ok gd;refine bE (x43 (by omega) (by omega) A V1 R1 fun h b2 u eu e2 A V2 R2=>aD (nZ V2) ?_);unfold EU;refine x44 (by omega) A V2.leaf fun h A=>aD rfl ?_;unfold Gg;refine ae5 A (RC.not (k:=2) V2 R2) fun h b3 u eu e3 A V3 R3=>ok h b3 u eu (e1.trans (e2.trans e3)) A.rest V3 R3 (Hq gd ?_ (by simp));have:=QT l1 k1;show kC (SS 2 _)+0≤_;rw[ad6];exact Nat.le_trans (Nat.add_le_add_left this 1) (by omega)
 rw[decide_eq_false k3];rw[if_neg k3] at ok gd;refine bE (kQ ?_);by_cases k4:kind=4
 ·rw[decide_eq_true k4];rw[if_pos k4] at ok gd;refine bN (ay (aJ A.var rfl ?_));refine Q n h b thn vn en _ _ _ _ (by omega) (by omega) w6 (by omega) A Vn Rn (fun h b1 e A=>uX (bad h b1 e A.rest)) fun h b1 u eu e1 A V1 R1 l1 k1=>aD (nZ V1) ?_;unfold FM;refine x43 (by omega) (by omega) A V1 R1 fun h b2 ut et e2 A Vt Rt=>aD (nZ Vt) ?_;have e12:=e1.trans e2;refine ay (aJ A.var rfl ?_);refine Q n h b2 conds vc ec _ _ _ _ (by omega) (by omega) w5 (by omega) A (Vc.ext e12) (eY.ext e12 Rc) (fun h b3 e A=>uX (bad h b3 (e12.trans e) A.rest)) fun h b3 u3 eu3 e3 A V3 R3 l3 k3'=>aD (nZ V3) ?_;unfold Gn;obtain⟨r1,r2⟩:=R3.get;refine dZ (V3.ext A.f0) ?_;rw[r1];have ktn:=QT l1 k1;have e13:=e12.trans e3;have lp:∀(m i:Nat) (h b4:ah) (vl:AV) (el:List (List AV)),i≤(fE conds).length→(fE conds).length-i<m→Ext b3 b4→Cx h (vr a [.int .i64 kind, .str var, .str cls,vb,vt,vc,vn,va,x0,x1,x2,x3,x4,x5,x6,x7, .str fn, .str name,vg] :: L) (⟨vl,19,el⟩ :: S) (Ext b4 :: F)→eY b4 el (((fE conds).take i).map fun x=>yx (x++(fE thn).map yx))→
   Ld (ak E n) n m ut vl u3 (.int .i64 ((fE conds).length:Int)) (.int .i64 (i:Int)) h K=true:=by
   intro m
   induction m with
   |zero=>intro i h b1 vl el _ hm;omega
   |succ m ih=>
    intro i h b4 vl el hi hm e4 A Rl;have hel:=Rl.len;rw[List.length_map] at hel;rw[adX];unfold QI;refine fT ?_;by_cases hlt:i<(fE conds).length
    ·rw[decide_eq_true hlt];have hb:(fE conds)[i]? =some (fE conds)[i]:=List.getElem?_eq_getElem hlt;generalize(fE conds)[i]=y at hb;obtain⟨v5,ev5,hc5,V5,R5⟩:=r2 i y hb;have ht:((fE conds).take i).length=i:=List.length_take_of_le hi;have ky:=k3' y (List.mem_of_getElem? hb);have yl:=Sz y;have e34:=e3.trans e4;refine bN (nV ((V3.ext e4).ext A.f0) hc5 rfl ?_);refine x27 (by omega) A (V5.ext e4) (Vt.ext e34) ?_ fun h b6 u6 e6 A V6=>aD (nZ V6) ?_
     ·rw[R5.len,Rt.len,List.length_map];omega
     unfold Gc;refine x44 (by omega) A V6.leaf fun h A=>aD rfl ?_;unfold Gu;have RR:RC b6 (cCd 2 u6 .au) (yx (y++(fE thn).map yx)):=RC.not V6 ((eY.ext (e4.trans e6) R5).app (eY.ext (e34.trans e6) Rt));refine iM A rfl rfl rfl rfl (dY RR.cells.1 RR.cells.2.1) rfl fun w h A _=> ?_;refine jo A rfl A.f0.src ?_ ?_ fun vl' h A _=> ?_
     ·show(el.length+1)*328≤most;omega
     ·show el.length+1≤most;omega
     refine gZ (by omega) ?_;refine ih (i+1) h b6 vl' _ (by omega) (by omega) (e4.trans e6) A.dJ ?_;rw[kJ hb,List.map_append];exact(eY.ext e6 Rl).app (eY.one RR)
    ·rw[decide_eq_false hlt];refine bE ?_;unfold Wz;obtain⟨b5,e5,V5,A⟩:=A.frz;rw[List.take_of_length_le (by omega)] at Rl;refine aiB A V5 (eY.ext e5 Rl) fun h b6 u eu e6 A V6 R6=>ok h b6 u eu (e13.trans (e4.trans (e5.trans e6))) A.rest V6 R6 (Hq gd ?_ ?_)
     ·have:=X3 (M:=33344) (fun x=>x++(fE thn).map yx) (fE conds) fun z hz=>by
       have:=k3' z hz;rw[PN];omega
      have:(fE conds).length*33345≤512*33345:=Nat.mul_le_mul_right _ l3;exact Nat.le_trans ‹_› (by omega)
     ·rw[List.length_map];exact Nat.le_trans l3 (by omega)
  exact lp n 0 h b3 .au [] (Nat.zero_le _) (by omega) (Ext.refl _) (A.slc 19) eY.nil
 rw[decide_eq_false k4];rw[if_neg k4] at ok gd;refine bE (kQ ?_);by_cases k7:kind=7
 ·rw[decide_eq_true k7];rw[if_pos k7] at ok gd;refine bN (ay (aJ A.var rfl ?_));refine Q n h b conds vc ec _ _ _ _ (by omega) (by omega) w5 (by omega) A Vc Rc (fun h b1 e A=>uX (bad h b1 e A.rest)) fun h b1 u eu e1 A V1 R1 l1 k1=>aD (nZ V1) ?_;refine dZ (V1.ext A.f0) (kQ ?_);have rl:=R1.get.1;rw[rl];refine IV (by omega) (fun ht=>aD rfl ?_) fun _=>uX (bad h b1 e1 A.rest);have hl:(fE conds).length=1:=by have:=of_decide_eq_true ht;omega
  obtain⟨x,hx⟩:=List.length_eq_one_iff.1 hl;rw[show fq (mF conds)=[x] from hx] at ok gd
  have kx:=k1 x (by rw[hx];exact List.mem_singleton.2 rfl);obtain⟨v1,qo,hv1,W1,S1⟩:=R1.get.2 0 x (by rw[hx];rfl);refine nV (i:=0) (V1.ext A.f0) hv1 rfl (ay (sD A rfl W1.leaf fun h A=> ?_));unfold JF;refine fJ A.var rfl ?_;refine ae5 A (RC.put (ce:=[x0,x1,x2,x3,x4,x5,x6,x7]) (Vb.ext e1) (Vt.ext e1) (mH.ext e1 Rt) W1 S1 (Vn.ext e1) (eY.ext e1 Rn) (Va.ext e1) (eH.ext e1 Ra) (Re.ext e1) (Vg.ext e1) (pX.ext e1 Rg)) fun h b3 u eu e3 A V3 R3=>ok h b3 u eu (e1.trans e3) A.rest V3 R3 (Hq gd ?_ (by simp));simp only[kC.kCs,kC] at kle ⊢;omega
 rw[decide_eq_false k7];rw[if_neg k7] at ok gd;refine bE (kQ ?_);by_cases k5:kind=5
 ·rw[decide_eq_true k5];rw[if_pos k5] at ok gd;refine bN (ay (aJ A.var rfl (dZ (Va.ext A.f0) ?_)));obtain⟨a1,a2⟩:=Ra.get;rw[a1];have hal:=rV alts;have lp:∀(m i:Nat) (h b4:ah) (vl:AV) (el:List (List AV)),i≤alts.length→alts.length-i<m→Ext b b4→Cx h (vr a [.int .i64 kind, .str var, .str cls,vb,vt,vc,vn,va,x0,x1,x2,x3,x4,x5,x6,x7, .str fn, .str name,vg] :: L) (⟨vl,1,el⟩ :: S) (Ext b4 :: F)→eH b4 el (Co (alts.take i))→el.length≤512→(∀z∈Co (alts.take i),kC.kCs z≤64)→
   Mv (ak E n) n m vl va (.int .i64 (alts.length:Int)) (.int .i64 (i:Int)) h K=true:=by
   intro m
   induction m with
   |zero=>intro i h b1 vl el _ hm;omega
   |succ m ih=>
    intro i h b4 vl el hi hm e4 A Rl hel hk;rw[adK];unfold RO;refine fT ?_;by_cases hlt:i<alts.length
    ·rw[decide_eq_true hlt];have hb:alts[i]? =some alts[i]:=List.getElem?_eq_getElem hlt;generalize alts[i]=y at hb;obtain⟨v5,ev5,hc5,V5,R5⟩:=a2 i y hb;have hw2:=rO hb;refine bN (nV ((Va.ext e4).ext A.f0) hc5 rfl ?_);refine Q n h b4 y v5 ev5 _ _ _ _ (by omega) (by omega) (TA w7 hb) (by omega) A (V5.ext e4) (eY.ext e4 R5) (fun h b5 e A=>uX (bad h b5 (e4.trans e) A.freeze.dJ.rest)) fun h b5 u eu e5 A V6 R6 l6 k6=>aD (nZ V6) ?_;unfold ES;have eul:=R6.len;refine jo A rfl (V6.ext A.f0).src ?_ ?_ fun vl' h A _=> ?_
     ·rw[eul];omega
     ·rw[eul];omega
     refine dZ A.view (Ij ?_);refine IV (by omega) (fun ht=>aD rfl (gZ (by omega) ?_)) fun _=>uX (bad h b5 (e4.trans e5) A.freeze.dJ.rest);have ef:Co (alts.take (i+1))=Co (alts.take i)++fE y:=by
      rw[kJ hb,UG];simp only[Co,fE,List.append_nil]
     refine ih (i+1) h b5 vl' _ (by omega) (by omega) (e4.trans e5) A ?_ (by have:=of_decide_eq_true ht;omega) ?_
     ·rw[ef];exact(eH.ext e5 Rl).app R6
     ·intro z hz;rw[ef] at hz;rcases List.mem_append.1 hz with hz |hz
      ·exact hk z hz
      ·exact k6 z hz
    ·rw[decide_eq_false hlt];refine bE ?_;obtain⟨b5,e5,V5,A⟩:=A.frz;rw[List.take_of_length_le (by omega)] at Rl hk;have:=Rl.len;exact ok h b5 _ _ (e4.trans e5) A.rest V5 (eH.ext e5 Rl) ⟨by omega,fun z hz=>⟨gd z hz,by have:=hk z hz;omega,by have:=hk z hz;have:=Sz z;omega⟩⟩
  exact lp n 0 h b .au [] (Nat.zero_le _) (by omega) (Ext.refl _) (A.slc 1) eH.nil (by simp) (by simp[Co])
 rw[decide_eq_false k5];rw[if_neg k5] at ok gd;refine bE ?_;unfold JF;refine fJ A.var rfl ?_;refine ae5 A R0 fun h b3 u eu e3 A V3 R3=>ok h b3 u eu e3 A.rest V3 R3 (Hq gd ?_ (by simp));simp only[kC.kCs];omega
theorem aep {x y:Nat} {k:AV→Bool} (l:x*y≤1000000000) (s:k (.int .i64 ((x*y:Nat):Int))=true):bK (dV .mul (.int .i64 (x:Int)) (.int .i64 (y:Int))) k=true:=by
 rw[ab9, ←Int.natCast_mul,wrap64 (by omega) (by omega)];exact s
theorem WK (B:List (List (List Cd))) (x:List (List Cd)):(fq (B++[x])).length=(fq B).length*x.length:=by
 rw[Fq,AO (· ++·)];simp[fq]
theorem Vd:∀(l:List Cd),(mF l).length=l.length
 | []=>rfl
 |c :: l=>by simp only[mF,List.length_cons,Vd l]
set_option maxRecDepth 100000 in
theorem ahs {W:Nat} (h8:8≤W) (hW:W≤100000) {n:Nat} {h b:ah} {l:List Cd} {v:AV} {es:List (List AV)} {L:gB} {S:List Sl} {F:List (ah→Prop)} {K:aK}
 (Q:∀(i:Nat) (c:Cd),l[i]? =some c→∀(n:Nat) (h b:ah) (cv:List AV) (L:gB) (S:List Sl) (F:List (ah→Prop)) (K:aK),FF+3*cC c+3001≤n→Cx h L S (Ext b :: F)→RC b cv c→(∀h b',Ext b b'→Cx h L S (Ext b' :: F)→K rfz h=true)→
   (∀h b' u eu,Ext b b'→Cx h L S (Ext b' :: F)→View b' 1 u eu→eH b' eu (EW c)→GX W (EW c)→K u h=true)→ak E n (.func 25) [.agg cv] h K=true)
 (hw:gH l≤W) (hn:FF+3*gH l+3002≤n)
 (A:Cx h L S (Ext b :: F)) (V:View b 19 v es) (R:eY b es l) (bad:∀h b',Ext b b'→Cx h L S (Ext b' :: F)→K rfz h=true)
 (ok:∀h b' u eu,Ext b b'→Cx h L S (Ext b' :: F)→View b' 1 u eu→eH b' eu (fE l)→(fE l).length≤512→(∀z∈fE l,kC.kCs z≤64)→K u h=true):ak E n (.func 14) [v] h K=true:=by
 obtain⟨n,rfl⟩:∃m,n=m+1:=⟨n-1,by omega⟩;have hlim:lim=4611686018427387904:=rfl;have hmo:most=1099511627776:=rfl;have hff:FF=1000000000000000000:=rfl;obtain⟨g1,g2⟩:=R.get;have hl:=pO l;apply d14;unfold s14;refine pG A rfl rfl rfl fun p h A=>dZ (V.ext A.f0) ?_;rw[g1];have lp:∀(m i:Nat) (h b1:ah) (vl:AV) (el:List (List AV)),i≤l.length→l.length-i<m→Ext b b1→Cx h (vr p [vl] :: L) (⟨vl,1,el⟩ :: S) (Ext b1 :: F)→RX b1 el (mF (l.take i))→(∀y∈mF (l.take i),GX W y)→(fq (mF (l.take i))).length≤512→
  Na (ak E n) n m (.ptr p 0 0 0) (.int .i64 ((fq (mF (l.take i))).length:Int)) v (.int .i64 (l.length:Int)) (.int .i64 (i:Int)) h K=true:=by
  intro m
  induction m with
  |zero=>intro i h b1 vl el _ hm;omega
  |succ m ih=>
   intro i h b1 vl el hi hm e A Rt hg hp;have hel:=Rt.get.1;have ok1:=A.view.iW;have ht:(l.take i).length=i:=List.length_take_of_le hi;have cl:(mF (l.take i)).length=i:=by rw[Vd,ht]
   rw[aec];unfold Qs;refine fT ?_;by_cases hlt:i<l.length
   ·rw[decide_eq_true hlt];have hb:l[i]? =some l[i]:=List.getElem?_eq_getElem hlt;generalize l[i]=y at hb;obtain⟨c1,hc1,R1⟩:=g2 i y hb;have hcw:=rF hb;have C1:=R1.cells;refine bN (rM ((V.ext e).ext A.f0) hc1 C1.1 ?_);refine bO A rfl rfl rfl fun q h A=>gF A rfl C1.1 rfl C1.2.1 fun h A=> ?_;refine aJ A.var rfl (fJ A.v1 C1.1 ?_);refine Q i y hb n h b1 c1 _ _ _ _ (by omega) A (R1.ext e) (fun h b2 e2 A=>uX (bad h b2 (e.trans e2) A.freeze.dJ.rest.rest)) fun h b2 u eu e2 A U RU gu=>aD (nZ U) ?_;refine aJ A.var rfl (bI ok1 (iM A rfl rfl rfl rfl (kG U.leaf) rfl fun w h A _=> ?_));refine aJ A.var rfl (bI ok1 (fJ A.v1 C1.1 (bI (iW.agg C1.2.2) ?_)));refine jo A rfl A.f0.src ?_ ?_ fun vl' h A _=> ?_
    ·show(el.length+1)*24≤most;omega
    ·show el.length+1≤most;omega
    refine sD A rfl A.leafS fun h A=> ?_;have hlen:(el++[[u]]).length=el.length+1:=by simp
    refine aJ A.var rfl (aJ A.var rfl (dZ A.view ?_));rw[hlen];refine Hg (by omega) (by omega) ?_;rw[show((el.length+1:Nat):Int)-1=(el.length:Int) by omega];refine nV A.view (show(el++[[u]])[el.length]? =some [u] by simp) rfl (dZ (U.ext A.f1) ?_);rw[RU.len];have hpm:(fq (mF (l.take i))).length*(EW y).length≤512*1000:=Nat.mul_le_mul hp gu.1;have ec:mF (l.take (i+1))=mF (l.take i)++[EW y]:=by rw[kJ hb,K4];rfl
    have ep:=WK (mF (l.take i)) (EW y);rw[←ec] at ep;refine aep (by omega) (Ij ?_);refine IV (by omega) (fun h5=>aD rfl (gZ (by omega) ?_)) fun _=>uX (bad h b2 (e.trans e2) A.freeze.dJ.dJ.rest.rest);rw[←ep];refine ih (i+1) h b2 vl' _ (by omega) (by omega) (e.trans e2) A.aZ.dJ ?_ ?_ (by have:=of_decide_eq_true h5;omega)
    ·rw[ec];exact(Rt.ext e2).snoc U RU
    ·intro z hz;rw[ec] at hz;rcases List.mem_append.1 hz with hz |hz
     ·exact hg z hz
     ·rw[List.mem_singleton.1 hz];exact gu
   ·rw[decide_eq_false hlt];rw[List.take_of_length_le (by omega)] at Rt hg hp cl;refine bE ?_;unfold WT;obtain⟨b2,e2,V2,A⟩:=A.frz;refine pG A rfl rfl rfl fun o h A=>bO A rfl rfl rfl fun f h A=>bU ?_;refine fZ A rfl rfl fun h A=>aJ A.v1 rfl (bU (aeD ?_));have e12:=e.trans e2;have q:=UU (L:=L) (S:=S) (F:=F) (p:=p) (f:=f) (o:=o) (B:=mF l) hW (by omega) (mF l) [] rfl (n:=n) (h:=h) (b:=b2) (so:=[]) (vso:= .au) (eso:=[]) (out:=[]) (K:=pz K fun v31 h=>av h (.ptr o 0 0 0) fun v32=>K v32 h)
     hg V2 (Rt.ext e2) (View.nil b2 19) eY.nil trivial (by simp[kC.kCs]) (by simp) (by simp only[List.length_nil];omega) (by omega) ⟨.au,[],A.swap12.slc 1,eH.nil⟩
     (fun h b3 e3 A=>uX (bad h b3 (e12.trans e3) A.rest.rest)) fun h b3 e3 A hk=>aD rfl ?_
    ·exact q
    obtain⟨vo,eo,A,Ro⟩:=A.ex;have em:([]:List (List Cd))++(fq (mF l)).map ([]++·)=fE l:=by simp[fE]
    have em':(fq (mF l)).map (([]:List Cd)++·)=fE l:=by simp[fE]
    rw[em] at Ro;rw[em'] at hk;refine aJ A.var rfl ?_;obtain⟨b4,e4,V4,A⟩:=A.frz;exact ok h b4 vo eo (e12.trans (e3.trans e4)) A.rest.rest.rest V4 (eH.ext e4 Ro) hp hk
 exact lp n 0 _ b .au [] (Nat.zero_le _) (by omega) (Ext.refl _) (A.slc 1) rfl (by simp[mF]) (by simp[mF,fq])
theorem asN {W:Nat} (h8:8≤W) (hW:W≤100000):∀N,AS W N
 |0=>fun n h b l v es L S F K hN hw wf hn A V R bad ok=>ahs h8 hW (fun i c e=>by have:=rF e;have:=RS c;omega) hw hn A V R bad ok
 |N+1=>fun n h b l v es L S F K hN hw wf hn A V R bad ok=>ahs h8 hW (fun i c e n h b cv L S F K hn A R bad ok=>by
   have:=rF e;exact xch h8 hW (asN h8 hW N) (by omega) (by omega) (Zx wf e) hn A R bad ok) hw hn A V R bad ok
def ahP (L:gB) (S:List Sl) (F:List (ah→Prop)) (K:aK):Prop:=∀h r,Cx h L S F→K (.bool r) h=true
section
variable {h b:ah} {L:gB} {S:List Sl} {F:List (ah→Prop)} {K:aK} {v fn:AV} {es:List (List AV)} {n:Nat}
theorem x41 {f:NG} {cap:List AV} {l:List Cd} (hl:l.length≤big) (hn:l.length+2≤n) (A:Cx h L S (Ext b :: F)) (V:View b 19 v es) (R:eY b es l)
 (cb:∀(i:Nat) (c:Cd) (cv:List AV),l[i]? =some c→RC b cv c→∀(h:ah) (K:aK),Cx h L S (Ext b :: F)→ahP L S (Ext b :: F) K→ak E (n-1) f ([.agg cv]++cap) h K=true)
 (k:∀h r,Cx h L S (Ext b :: F)→K (.int .i64 r) h=true):ak E n (.func 41) [v, .fn f [] cap] h K=true:=by
 obtain⟨n,rfl⟩:∃m,n=m+1:=⟨n-1,by omega⟩;have hbig:big=1000000000:=rfl;have hlim:lim=4611686018427387904:=rfl;have⟨g1,g2⟩:=R.get;apply d41;unfold s41;refine dZ (V.ext A.f0) ?_;rw[g1];have lp:∀(m i:Nat) (h:ah),i≤l.length→l.length-i<m→Cx h L S (Ext b :: F)→U4 (ak E n) n m v (.fn f [] cap) (.int .i64 (l.length:Int)) (.int .i64 (i:Int)) h K=true:=by
  intro m
  induction m with
  |zero=>intro i h _ hm;omega
  |succ m ih=>
   intro i h hi hm A;rw[aff];unfold Zm;refine fT ?_;by_cases hlt:i<l.length
   ·rw[decide_eq_true hlt];have hb:l[i]? =some l[i]:=List.getElem?_eq_getElem hlt;generalize l[i]=y at hb;refine have⟨c1,hc1,R1⟩:=g2 i y hb;bN (rM (V.ext A.f0) hc1 R1.cells.1 (aeD<|cb i y c1 hb R1 h _ A fun h r A=>aD rfl ?_))
    cases r with
    |true=>exact bN (k h _ A)
    |false=>exact bE (gZ (by omega) (ih (i+1) h (by omega) (by omega) A))
   ·rw[decide_eq_false hlt];exact bE (k h _ A)
 exact lp n 0 h (Nat.zero_le _) (by omega) A
theorem x42 {f:NG} {cap:List AV} {l:List (List Cd)} (hl:l.length≤big) (hn:l.length+2≤n) (A:Cx h L S (Ext b :: F)) (V:View b 1 v es) (R:eH b es l)
 (cb:∀(i:Nat) (c:List Cd) (cv:AV) (ev:List (List AV)),l[i]? =some c→View b 19 cv ev→eY b ev c→∀(h:ah) (K:aK),Cx h L S (Ext b :: F)→ahP L S (Ext b :: F) K→ak E (n-1) f ([cv]++cap) h K=true)
 (k:∀h r,Cx h L S (Ext b :: F)→K (.int .i64 r) h=true):ak E n (.func 42) [v, .fn f [] cap] h K=true:=by
 obtain⟨n,rfl⟩:∃m,n=m+1:=⟨n-1,by omega⟩;have hbig:big=1000000000:=rfl;have hlim:lim=4611686018427387904:=rfl;have⟨g1,g2⟩:=R.get;apply d42;unfold s42;refine dZ (V.ext A.f0) ?_;rw[g1];have lp:∀(m i:Nat) (h:ah),i≤l.length→l.length-i<m→Cx h L S (Ext b :: F)→VL (ak E n) n m v (.fn f [] cap) (.int .i64 (l.length:Int)) (.int .i64 (i:Int)) h K=true:=by
  intro m
  induction m with
  |zero=>intro i h _ hm;omega
  |succ m ih=>
   intro i h hi hm A;rw[agm];unfold YM;refine fT ?_;by_cases hlt:i<l.length
   ·rw[decide_eq_true hlt];have hb:l[i]? =some l[i]:=List.getElem?_eq_getElem hlt;generalize l[i]=y at hb;refine have⟨c1,ec1,hc1,V1,R1⟩:=g2 i y hb;bN (nV (V.ext A.f0) hc1 rfl (aeD<|cb i y c1 ec1 hb V1 R1 h _ A fun h r A=>aD rfl ?_))
    cases r with
    |true=>exact bN (k h _ A)
    |false=>exact bE (gZ (by omega) (ih (i+1) h (by omega) (by omega) A))
   ·rw[decide_eq_false hlt];exact bE (k h _ A)
 exact lp n 0 h (Nat.zero_le _) (by omega) A
end
def QS (N:Nat):Prop:=∀(n:Nat) (h b:ah) (l:List Cd) (v:AV) (es:List (List AV)) (d:Nat) (L:gB) (S:List Sl) (F:List (ah→Prop)) (K:aK),gH l≤N→6*gH l+10≤n→d+gH l≤big→Cx h L S (Ext b :: F)→View b 19 v es→eY b es l→
 ahP L S (Ext b :: F) K→ak E n (.func 13) [v, .int .i64 (d:Int)] h K=true
theorem qs (N:Nat):QS N:=by
 induction N using Nat.strongRecOn with
 |ind N IH=>
 intro n h b l v es d L S F K hN hn hd A V R k;obtain⟨n,rfl⟩:∃m,n=m+1:=⟨n-1,by omega⟩;have hbig:big=1000000000:=rfl;have hlim:lim=4611686018427387904:=rfl;have hl:=pO l;apply d13;unfold s13;refine ajo A rfl fun q h A=>dZ (V.ext A.f0) (yh ?_);have go1:∀h,Cx h (vr q [.int .i64 (d:Int)] :: L) S (Ext b :: F)→(bK (some (.fn (.func 22) [] [.ptr q 0 0 0])) fun v7=>ak E n (.func 21) [v,v7] h <| pz K fun v8 h=>FI (ak E n) n v8 h K)=true:=by
  intro h A;refine bU ?_;obtain⟨n,rfl⟩:∃m,n=m+1:=⟨n-1,by omega⟩;apply d21;unfold s21;refine x41 (by omega) (by omega) A V R (fun i c cv hc Rc h K A k=> ?_) fun h r A=>aD rfl ?_
  ·have hcw:=rF hc;obtain⟨kind,var,cls,binds,tests,conds,thn,alts,ex,fn,name,args⟩:=c;have hcc:gH conds+gH thn+iP alts+1≤gH l:=by simp only[cC] at hcw;omega
   have hal:=rV alts;have C1:=Rc.cells;simp only[RC] at Rc;obtain⟨vb,vt,et,vc,ec,vn,en,va,ea,ce,vg,eg,rfl,Vb,Vt,Rt,Vc,Rc,Vn,Rn,Va,Ra,Re,Vg,Rg⟩:=Rc;obtain⟨x0,x1,x2,x3,x4,x5,x6,x7,rfl⟩:=len8 Re.cells.1;simp only[List.cons_append,List.nil_append] at C1 ⊢;obtain⟨m,hm⟩:∃m,n-1=m+1:=⟨n-2,by omega⟩;rw[hm];apply d22;unfold s22;refine QB A C1.1 rfl C1.2.1 fun a h A=>ay (aJ A.v1 rfl (aJ A.var rfl (gZ (by omega) ?_)));refine IH (gH conds) (by omega) m h b conds vc ec (d+1) _ _ _ _ (Nat.le_refl _) (by omega) (by omega) A Vc Rc fun h r1 A=>aD rfl ?_;unfold Kl;have e3:∀{X:Nat×fC} h (r:Bool),Cx h (vr q [.int .i64 (d:Int)] :: X :: L) S (Ext b :: F)→DK (ak E m) m (.bool false) (.bool r) h K=true:=fun h r A=>gD (k h r A.aZ);have e3':∀{X:Nat×fC} h w,Cx h (vr q [.int .i64 (d:Int)] :: X :: L) S (Ext b :: F)→DK (ak E m) m (.bool true) w h K=true:=fun h w A=>fH (k h true A.aZ);have e2:∀{X:Nat×fC} h,Cx h (vr q [.int .i64 (d:Int)] :: X :: L) S (Ext b :: F)→Dy (ak E m) m (.ptr q 0 0 0) (.ptr a 0 0 0) (.bool true) (.tup []) h K=true:=fun h A=>eD (fH (eD (eD (eD (Bn (e3' h _ A))))));cases r1 with
   |false=>exact fM (eD (eD (eD (eD (Bn (e2 h A))))))
   |true=>
    refine fP (dx (ay (dx (aJ A.v1 rfl (dx (aJ A.var rfl (dx (gZ (by omega) (lK ?_)))))))));refine IH (gH thn) (by omega) m h b thn vn en (d+1) _ _ _ _ (Nat.le_refl _) (by omega) (by omega) A Vn Rn fun h r A=>aD rfl ?_;unfold Dy;refine dx (L8 (gD ?_));cases r with
    |false=>exact eD (eD (eD (Bn (e3' h _ A))))
    |true=>
     refine dx (ay (dx (aJ A.v1 rfl (dx (bU (lK ?_))))));obtain⟨m,rfl⟩:∃k,m=k+1:=⟨m-1,by omega⟩;apply d23;unfold s23;refine x42 (by omega) (by omega) A Va Ra (fun j c cv ev hj V1 R1 h K A k=> ?_) fun h r A=>aD rfl ?_
     ·have hjw:=rO hj;obtain⟨m',hm'⟩:∃k,m-1=k+1:=⟨m-2,by omega⟩;rw[hm'];apply d24;unfold s24;refine aJ A.var rfl (gZ (by omega) ?_);refine IH (gH c) (by omega) m' h b c cv ev (d+1) _ _ _ _ (Nat.le_refl _) (by omega) (by omega) A V1 R1 fun h r A=>aD rfl ?_;exact L8 (k h _ A)
     ·exact Ka (aD rfl (e3 h _ A))
  ·exact Ka (aD rfl (L8 (k h _ A.rest)))
 by_cases h0:(0:Int)<(es.length:Int)
 ·rw[decide_eq_true h0];refine cO (aJ A.var rfl (cO (yh (fH ?_))));by_cases h3:(30:Int)<(d:Int)
  ·rw[decide_eq_true h3];exact bN (k h _ A.rest)
  ·rw[decide_eq_false h3];exact bE (go1 h A)
 ·rw[decide_eq_false h0];exact eZ (eZ (gD (bE (go1 h A))))
section
variable {h b:ah} {L:gB} {S:List Sl} {F:List (ah→Prop)} {K:aK} {n:Nat}
theorem aay {call:bg} {a c:Nat} {KD:Mf} (s:KD .ret h=true):uF E call n 11 [.ptr a 0 0 0, .ptr c 0 0 0] .ret h KD=true:=by
 have hp:E.prim 11=none:=rfl;have hc:E.code 11=some C11:=rfl;simp only[uF,hp,hc];exact s
theorem abM {call:bg} {a c:Nat} {va vc:AV} {KD:Mf} (A:Cx h (vr a [va] :: vr c [vc] :: L) S F) (s:∀h,Cx h (vr a [.au] :: vr c [.int .i64 1] :: L) S F→KD .ret h=true):
 uF E call n 11 [.ptr a 0 0 0, .ptr c 0 0 0] (.pan (.ifc 57 (.agg []))) h KD=true:=by
 have hp:E.prim 11=none:=rfl;have hc:E.code 11=some C11:=rfl;simp only[uF,hp,hc];show mE call n (.pan (.ifc 57 (.agg []))) C11.body false ⟨mK 0 [.ptr a 0 0 0, .ptr c 0 0 0] .lf,h⟩ _=true;refine Bu (ahc rfl ?_);show mE call n _ _ true ⟨((mK 0 [.ptr a 0 0 0, .ptr c 0 0 0] .lf).set 5 (.ifc 57 (.agg []))).set 2 (.ifc 57 (.agg [])),h⟩ _=true;refine Bu (IY rfl<|eP (v:= .ifc 57 (.agg [])) (h':=h) rfl rfl (eP (v:= .bool true) (h':=h) rfl rfl (jW<|ZO rfl (Bu (Bu (IY rfl<|eP (v:= .ifc 57 (.agg [])) (h':=h) rfl rfl (eP (v:= .tup [.agg [], .bool true]) (h':=h) rfl rfl (eP (v:= .tup [.agg [], .bool true]) (h':=h) rfl rfl (eP (v:= .agg []) (h':=h) rfl rfl (eP (v:= .bool true) (h':=h) rfl rfl<|eP (v:= .ptr h.sz 0 0 0) (h':=h.push .gone) rfl rfl<|have A:Cx (h.push .gone) (vr a [va] :: vr c [vc] :: L) S F:=(A.new .gone).rest;eP (v:= .tup []) (h':=h.push .gone) rfl ?_ ?_))))))))))
 ·show unit (bM (h.push .gone) 0 (.ptr h.sz 0 0 0) (.agg []))=_;have:(h.push .gone).row h.sz=none:=by simp[ah.row,ah.get_push]
  simp only[bM,this];rfl
 refine eP (v:= .bool true) (h':=h.push .gone) rfl rfl (jW<|Bu (IY rfl<|eP (v:= .bool true) (h':=h.push .gone) rfl rfl (eP (v:= .bool false) (h':=h.push .gone) rfl rfl (jW ?_))));show mE call n _ (.cond (.t 14) _ .skip) true _ _=true;refine Yz rfl (aex ?_);show mE call n _ (.reg _) true _ _=true;exact IY rfl<|have⟨h3,e3,A⟩:=A.set1 (off:=0) (v:= .au) (by simp) rfl;eP (v:= .tup []) (h':=h3) rfl (by show unit (bM (h.push .gone) 1 _ _)=_;rw[show bM (h.push .gone) 1 _ _=some h3 from e3];rfl)<|have⟨h4,e4,A⟩:=A.swapL.set1 (off:=0) (v:= .int .i64 1) (by simp) rfl;eP (v:= .tup []) (h':=h4) rfl (by show unit (bM h3 1 _ _)=_;rw[show bM h3 1 _ _=some h4 from e4];rfl) (jW<|s h4 A.swapL)
theorem akN {ρ:bZ} {a c:Nat} {x y:AV} (e2:ρ.get 2=some (.ptr a 0 0 0)) (e3:ρ.get 3=some (.ptr c 0 0 0)) (l2:dL h false 1 (.ptr a 0 0 0)=some x) (l3:dL h false 1 (.ptr c 0 0 0)=some y) (s:K (.tup [x,y]) h=true):kT C6.res K .ret ⟨ρ,h⟩=true:=by
 show(match jg ρ h [(2,some (false,1)),(3,some (false,1))] with |some l=>K (oneOf l) h |none=>false)=true
 simp only[jg,vv,e2,e3,l2,l3];exact s
theorem ak5 {a c:Nat} {x y:AV} {ρ:bZ} (e2:ρ.get 2=some (.ptr a 0 0 0)) (e3:ρ.get 3=some (.ptr c 0 0 0)) (A:Cx h (vr a [x] :: vr c [y] :: L) S F)
 (s:∀h,Cx h L S F→K (.tup [.au, .int .i64 1]) h=true):
 atEnd (uF E (ak E n) n) [(.fn (.func 11) [] [.ptr a 0 0 0, .ptr c 0 0 0],[])] (.panic (.ifc 57 (.agg []))) ⟨ρ,h⟩ (kT C6.res K)=true:=by
 exact akf (abM A fun h A=>akN e2 e3 (x:= .au) (y:= .int .i64 1) (by rw[A.var.load];rfl) (by rw[A.v1.load];rfl) (s h A.rest.rest))
theorem sP {ρ:bZ} {k j:Nat} {v:AV} (hn:j≠k):(put ρ (some k) v).get j=ρ.get j:=by
 show(ρ.set k v).get j=_;rw[PT.get_set,if_neg hn]
theorem gpe {ρ:bZ} {k:Nat} {v:AV}:(put ρ (some k) v).get k=some v:=by
 show(ρ.set k v).get k=_;rw[PT.get_set,if_pos rfl]
theorem ao1 {u:AV} (A:Cx h L S F) (hu:u.leaf=true):∃w h',aO h 1 1 [.au] [(0,u)]=some (w,h')∧Cx h' L S ((fun h=>View h 1 w [[u]]) :: F):=by
 refine⟨.slc h.sz 0 0 1 1 true,Go.Ab.newRow h [[u]] 1, ?_,A.newRO _ fun h' g=> .inr ⟨h.sz,0,0,1,true,_,rfl,ah.row_some.2 g,Nat.le_refl _,rfl,rfl,Nat.le_refl _⟩⟩;simp only[aO,kG hu];rfl
def LB:cZ:=match Tj 3 C6.body with
 | .seq (.seq _ (.block _ (.loop c))) _=>c
 |_=> .skip
theorem lp6 {W o c:Nat} {x:List (List Cd)} {v:AV} {es:List (List AV)} (hx:x.length≤512) (hW:∀z∈x,gH z≤big∧3*gH z+10≤n) {KL:ow} (V:View b 1 v es) (R:eH b es x)
 (k:∀ρ h b' vo eo,Ext b b'→ρ.get 2=some (.ptr o 0 0 0)→ρ.get 3=some (.ptr c 0 0 0)→Cx h (vr o [vo] :: vr c [.int .i64 0] :: L) (⟨vo,1,eo⟩ :: S) (Ext b' :: F)→eH b' eo x→KL (.exit 0) ⟨ρ,h⟩=true):
 ∀(m i:Nat) (ρ:bZ) (h b1:ah) (vo:AV) (eo:List (List AV)),i≤x.length→x.length-i<m→Ext b b1→ρ.get 2=some (.ptr o 0 0 0)→ρ.get 3=some (.ptr c 0 0 0)→ρ.get 11=some v→ρ.get 12=some (.int .i64 (x.length:Int))→ρ.get 13=some (.int .i64 (i:Int))→
  Cx h (vr o [vo] :: vr c [.int .i64 0] :: L) (⟨vo,1,eo⟩ :: S) (Ext b1 :: F)→eH b1 eo (x.take i)→iter (dh (ak E n) n LB) KL m ⟨ρ,h⟩=true:=by
 have hlim:lim=4611686018427387904:=rfl;have hmo:most=1099511627776:=rfl;obtain⟨g1,g2⟩:=R.get;intro m
 induction m with
 |zero=>intro i ρ h b1 vo eo _ hm;omega
 |succ m ih=>
  intro i ρ h b1 vo eo hi hm e e2 e3 e11 e12 e13 A Ro;have hel:=Ro.len;have ok1:=A.view.iW;have ht:(x.take i).length=i:=List.length_take_of_le hi;show dh (ak E n) n (.seq (.reg [⟨some 14, .bin .lss (.t 13) (.t 12),none⟩]) _) ⟨ρ,h⟩ _=true;show mR (ak E n) [⟨some 14, .bin .lss (.t 13) (.t 12),none⟩] ⟨ρ,h⟩ _=true;refine eP (v:= .bool (decide (i<x.length))) (h':=h) rfl ?_ (jW ?_)
  ·simp only[aN,Ue,ev,e13,e12];show bT (dV .lss (.int .i64 (i:Int)) (.int .i64 (x.length:Int))) h=_;rw[Ep];simp[bT]
  show dh (ak E n) n (.seq (.cond (.t 14) .skip (.exit 0)) _) ⟨put ρ (some 14) _,h⟩ _=true;by_cases hlt:i<x.length
  ·rw[decide_eq_true hlt];have hb:x[i]? =some x[i]:=List.getElem?_eq_getElem hlt;generalize x[i]=y at hb;obtain⟨v1,xv1,hc1,V1,R1⟩:=g2 i y hb;have hw:=hW y (List.mem_of_getElem? hb);simp only[dh,ev,gpe];obtain⟨id,g,j,p1,p2⟩:=(V.ext (e.trans A.f0)).at hc1;refine eP (v:= .ptr id g j 0) (h':=h) rfl (by simp only[aN,Ue,ev,sP (show(11:Nat)≠14 by decide),sP (show(13:Nat)≠14 by decide),e11,e13];show bT (oG h 1 v (.int .i64 (i:Int))) h=_;rw[p1];rfl) ?_;refine eP (v:=v1) (h':=h) rfl (by simp only[aN,qo,ev,gpe];show bT (dL h false 1 (.ptr id g j 0)) h=_;rw[p2];rfl) ?_;refine eP (v:=v1) (h':=h) rfl (by simp only[aN,ev,gpe];rfl) (jW ?_);generalize hρ:put (put (put (put ρ (some 14) (.bool true)) (some 15) (.ptr id g j 0)) (some 16) v1) (some 5) v1=ρ1;have f2:ρ1.get 2=some (.ptr o 0 0 0):=by rw[←hρ];simp only[sP (show(2:Nat)≠5 by decide),sP (show(2:Nat)≠16 by decide),sP (show(2:Nat)≠15 by decide),sP (show(2:Nat)≠14 by decide),e2]
   have f3:ρ1.get 3=some (.ptr c 0 0 0):=by rw[←hρ];simp only[sP (show(3:Nat)≠5 by decide),sP (show(3:Nat)≠16 by decide),sP (show(3:Nat)≠15 by decide),sP (show(3:Nat)≠14 by decide),e3]
   have f5:ρ1.get 5=some v1:=by rw[←hρ];exact gpe
   have f11:ρ1.get 11=some v:=by rw[←hρ];simp only[sP (show(11:Nat)≠5 by decide),sP (show(11:Nat)≠16 by decide),sP (show(11:Nat)≠15 by decide),sP (show(11:Nat)≠14 by decide),e11]
   have f12:ρ1.get 12=some (.int .i64 (x.length:Int)):=by rw[←hρ];simp only[sP (show(12:Nat)≠5 by decide),sP (show(12:Nat)≠16 by decide),sP (show(12:Nat)≠15 by decide),sP (show(12:Nat)≠14 by decide),e12]
   have f13:ρ1.get 13=some (.int .i64 (i:Int)):=by rw[←hρ];simp only[sP (show(13:Nat)≠5 by decide),sP (show(13:Nat)≠16 by decide),sP (show(13:Nat)≠15 by decide),sP (show(13:Nat)≠14 by decide),e13]
   have l2:∀{h:ah} {S F},Cx h (vr o [vo] :: vr c [.int .i64 0] :: L) S F→aN ρ1 h (.load false 1 (.t 2))=some (vo,h):=fun A=>by
    simp only[aN,qo,ev,f2];show bT (dL _ false 1 (.ptr o 0 0 0)) _=_;rw[A.var.load];rfl
   simp only[oz,eO,l2 A];have f5':(put ρ1 (some 17) vo).get 5=some v1:=by rw[sP (by decide)];exact f5
   have em:aN (put ρ1 (some 17) vo) h (.mv (.t 5))=some (v1,h):=by simp only[aN,ev,f5'];rfl
   simp only[em];generalize hρ2:put (put ρ1 (some 17) vo) (some 18) v1=ρ2;have k2:ρ2.get 2=some (.ptr o 0 0 0):=by rw[←hρ2,sP (by decide),sP (by decide)];exact f2
   have k3:ρ2.get 3=some (.ptr c 0 0 0):=by rw[←hρ2,sP (by decide),sP (by decide)];exact f3
   have k11:ρ2.get 11=some v:=by rw[←hρ2,sP (by decide),sP (by decide)];exact f11
   have k12:ρ2.get 12=some (.int .i64 (x.length:Int)):=by rw[←hρ2,sP (by decide),sP (by decide)];exact f12
   have k13:ρ2.get 13=some (.int .i64 (i:Int)):=by rw[←hρ2,sP (by decide),sP (by decide)];exact f13
   have k17:ρ2.get 17=some vo:=by rw[←hρ2,sP (by decide)];exact gpe
   have k18:ρ2.get 18=some v1:=by rw[←hρ2];exact gpe
   have j2:∀{ρ':bZ} {h:ah} {S F},ρ'.get 2=some (.ptr o 0 0 0)→Cx h (vr o [vo] :: vr c [.int .i64 0] :: L) S F→aN ρ' h (.load false 1 (.t 2))=some (vo,h):=fun f2 A=>by
    simp only[aN,qo,ev,f2];show bT (dL _ false 1 (.ptr o 0 0 0)) _=_;rw[A.var.load];rfl
   simp only[oq,jM,eO,gW,ev,evs,k18,dI,zF,cond_true,cond_false,nN,oz,iH];refine Fg hw.1 hw.2 A (V1.ext e) (eY.ext e R1) fun h b2 u eu e4 A V2 R2=> ?_;have pu:oL true u=none:=nZ V2;have okvo:AV.same vo vo=true:=ok1;have m2:(put ρ2 (some 19) u).get 2=some (.ptr o 0 0 0):=by rw[sP (by decide)];exact k2
   have m17:(put ρ2 (some 19) u).get 17=some vo:=by rw[sP (by decide)];exact k17
   have m19:(put ρ2 (some 19) u).get 19=some u:=gpe;simp only[pu,again,lW,eO,j2 m2 A,m17,okvo,cond_true];have eb:aN (put ρ2 (some 19) u) h (.bslice 1 1 [.au] [(0, .t 19)])=aO h 1 1 [.au] [(0,u)]:=by
    simp only[aN,aO,kW,jT,ev,m19];cases Nat.beq u.cells.length 1&&Nat.blt 0 (xV 1 [AV.au]).length&&aB u.cells<;>rfl
   obtain⟨w,h',e5,A⟩:=ao1 A V2.leaf;simp only[eb,e5,oL,cond_false];have n2:(put (put ρ2 (some 19) u) (some 20) w).get 2=some (.ptr o 0 0 0):=by rw[sP (by decide)];exact m2
   have n17:(put (put ρ2 (some 19) u) (some 20) w).get 17=some vo:=by rw[sP (by decide)];exact m17
   have n20:(put (put ρ2 (some 19) u) (some 20) w).get 20=some w:=gpe;simp only[j2 n2 A,n17,okvo,cond_true];obtain⟨vo',h'',ea,A⟩:=A.app (bytes:=24) (x:=w) (by decide) A.f0.src (by show(eo.length+1)*24≤most;omega) (by show eo.length+1≤most;omega);have ea':aN (put (put ρ2 (some 19) u) (some 20) w) h' (.app 1 24 (.t 17) (.t 20))=some (vo',h''):=by
    simp only[aN,ev,n17,n20];exact ea
   obtain⟨h3,es3,A⟩:=A.set1 (off:=0) (v:=vo') (by simp) A.leafS;have es3':aN (put (put (put ρ2 (some 19) u) (some 20) w) (some 21) vo') h'' (.store 1 (.t 2) (.t 21))=some (.tup [],h3):=by
    simp only[aN,ev,gpe,sP (show(2:Nat)≠21 by decide),n2];show unit (bM h'' 1 _ _)=_;rw[show bM h'' 1 _ _=some h3 from es3];rfl
   simp only[ea',es3',oL,cond_false];generalize hρ3:put (put (put (put ρ2 (some 19) u) (some 20) w) (some 21) vo') none (AV.tup [])=ρ3;have hg:∀j,j≠19→j≠20→j≠21→ρ3.get j=ρ2.get j:=fun j q1 q2 q3=>by
    rw[←hρ3];show(put (put (put ρ2 (some 19) u) (some 20) w) (some 21) vo').get j=_;rw[sP q3,sP q2,sP q1]
   have q13:=(hg 13 (by decide) (by decide) (by decide)).trans k13;refine eP (v:= .int .i64 ((i+1:Nat):Int)) (h':=h3) rfl ?_ ?_
   ·simp only[aN,Ue,ev,q13];show bT (dV .add (.int .i64 (i:Int)) (.int .i64 1)) h3=_;rw[KF,wrap64 (by omega) (by omega)];rfl
   refine eP (v:= .int .i64 ((i+1:Nat):Int)) (h':=h3) rfl (by simp only[aN,ev,gpe];rfl) (jW ?_);have hg2:∀j,j≠13→j≠19→j≠20→j≠21→j≠22→(put (put ρ3 (some 22) (.int .i64 ((i+1:Nat):Int))) (some 13) (.int .i64 ((i+1:Nat):Int))).get j=ρ2.get j:=fun j q0 q1 q2 q3 q4=>by
    rw[sP q0,sP q4,hg j q1 q2 q3]
   refine ih (i+1) _ h3 b2 vo' _ (by omega) (by omega) (e.trans e4) ?_ ?_ ?_ ?_ gpe A.dJ ?_
   ·rw[hg2 2 (by decide) (by decide) (by decide) (by decide) (by decide)];exact k2
   ·rw[hg2 3 (by decide) (by decide) (by decide) (by decide) (by decide)];exact k3
   ·rw[hg2 11 (by decide) (by decide) (by decide) (by decide) (by decide)];exact k11
   ·rw[hg2 12 (by decide) (by decide) (by decide) (by decide) (by decide)];exact k12
   ·rw[kJ hb];exact(eH.ext e4 Ro).app (eH.one V2 R2)
  ·rw[decide_eq_false hlt];simp only[dh,ev,gpe];rw[List.take_of_length_le (by omega)] at Ro;refine k _ h b1 vo eo e ?_ ?_ A Ro
   ·rw[sP (by decide)];exact e2
   ·rw[sP (by decide)];exact e3
theorem x6 {W:Nat} (h8:8≤W) (hW:W≤100000) {l:List Cd} {v:AV} {es:List (List AV)} (wf:uU l) (hw:gH l≤W) (hn:2*FF≤n) (A:Cx h L S (Ext b :: F)) (V:View b 19 v es) (R:eY b es l)
 (bad:∀h b',Ext b b'→Cx h L S (Ext b' :: F)→K (.tup [.au, .int .i64 1]) h=true)
 (ok:∀h b' u eu,Ext b b'→Cx h L S (Ext b' :: F)→View b' 1 u eu→eH b' eu (fE l)→(fE l).length≤512→(∀z∈fE l,kC.kCs z≤64)→K (.tup [u, .int .i64 0]) h=true):ak E n (.func 6) [v] h K=true:=by
 have hff:FF=1000000000000000000:=rfl;obtain⟨n,rfl⟩:∃m,n=m+1:=⟨n-1,by omega⟩;have hbig:big=1000000000:=rfl;have hp:E.prim 6=none:=rfl;have hc:E.code 6=some C6:=rfl;simp only[ak,hp,hc];show Go.Ab.runT (ak E n) (uF E (ak E n) n) n C6.body [] ⟨mK 0 [v] .lf,h⟩ (kT C6.res K)=true;obtain⟨h1,e1,A⟩:=A.alloc (z:=[.au]) (by decide) rfl;generalize h.sz=o at e1 A;obtain⟨h2,e2,A⟩:=A.alloc (z:=[.int .i64 0]) (by decide) rfl;generalize h1.sz=c at e2 A;have A:=A.swapL;refine zq rfl (eP rfl e1 (eP rfl e2 (jW ?_)));refine ag2 (f:= .t 6) (pre:=[⟨some 6, .mkfn 11 [] [.t 2, .t 3],none⟩]) rfl (eP (v:= .fn (.func 11) [] [.ptr o 0 0 0, .ptr c 0 0 0]) (h':=h2) rfl rfl (jW ?_));show Go.Ab.runT _ _ n (.seq (.reg _) _) [(.fn (.func 11) [] [.ptr o 0 0 0, .ptr c 0 0 0],[])] ⟨_,h2⟩ _=true;refine zq rfl (eP (v:=v) (h':=h2) rfl (by rcases V with⟨_,rfl |rfl⟩|⟨_,_,_,_,_,_,rfl,_⟩<;>rfl) (Hr (tgt:= .func 13) (first:=[]) (cap:=[]) (vs:=[v, .int .i64 1]) rfl rfl ?_))
 refine qs _ n h2 b l v es 1 _ _ _ _ (Nat.le_refl _) (by omega) (by omega) A V R fun h r A=> ?_;show Go.Ab.mR _ _ _ _=true;refine Hr (tgt:= .func 12) (first:=[]) (cap:=[]) (vs:=[.bool r]) rfl rfl ?_
 refine IV (by omega) (fun _=> ?_) fun _=>ak5 rfl rfl A fun h A=>bad h b (Ext.refl _) A;show Go.Ab.dh (ak E n) n (.seq (.reg _) (.block 0 (.loop LB))) _ _=true;show Go.Ab.mR (ak E n) _ _ _=true;refine eP (v:=v) (h':=h) rfl (by rcases V with⟨_,rfl |rfl⟩|⟨_,_,_,_,_,_,rfl,_⟩<;>rfl) (Hr (tgt:= .func 14) (first:=[]) (cap:=[]) (vs:=[v]) rfl rfl ?_)
 refine asN h8 hW _ n h b l v es _ _ _ _ (Nat.le_refl _) hw wf (by omega) A V R (fun h b1 e A=>ak5 rfl rfl A fun h A=>bad h b1 e A) fun h b1 u eu e1 A V1 R1 l1 k1=> ?_;rw[show iB u=none from nZ V1]
 have R1l:=R1.len;refine eP (v:= .int .i64 ((fE l).length:Int)) (h':=h) rfl ?_ (eP (v:= .int .i64 0) (h':=h) rfl rfl (jW ?_))
 ·show bT (AP h 1 u) h=_;rw[(V1.ext A.f0).len,R1l];rfl
 have gd:=Q6 h8 wf hw;show iter (dh (ak E n) n LB) _ n _=true;refine lp6 (W:=W) (o:=o) (c:=c) (x:=fE l) l1 (fun z hz=> ?_) V1 R1 (fun ρ h b2 vo eo e2 g2 g3 A Ro=> ?_) n 0 _ h b1 .au [] (Nat.zero_le _) (by omega) (Ext.refl _) rfl rfl rfl rfl rfl (A.slc 1) eH.nil
 ·have q1:=LU z (gd z hz);have q2:(W+1)*kC.kCs z≤100001*64:=Nat.mul_le_mul (by omega) (k1 z hz);omega
 show Go.Ab.runT _ _ n (.seq (.reg [⟨some 23, .load false 1 (.t 2),none⟩,⟨none, .store 1 (.t 2) (.t 23),none⟩,⟨none, .store 1 (.t 3) (.c (.int .i64 0)),none⟩]) .ret) _ ⟨ρ,h⟩ _=true;refine zq rfl (eP (v:=vo) (h':=h) rfl ?_ ?_)
 ·simp only[aN,qo,ev,g2];show bT (dL h false 1 (.ptr o 0 0 0)) h=_;rw[A.var.load];rfl
 have A0:=A.leafS;obtain⟨h4,e4,A⟩:=A.set1 (off:=0) (v:=vo) (by simp) A0;refine eP (v:= .tup []) (h':=h4) rfl (by simp only[aN,ev,gpe,sP (show(2:Nat)≠23 by decide),g2];show unit (bM h 1 _ _)=_;rw[show bM h 1 _ _=some h4 from e4];rfl) ?_
 obtain⟨h5,e5,A⟩:=A.swapL.set1 (off:=0) (v:= .int .i64 0) (by simp) rfl;have g2':(put (put ρ (some 23) vo) none (.tup [])).get 2=some (.ptr o 0 0 0):=by show(put ρ (some 23) vo).get 2=_;rw[sP (by decide)];exact g2
 have g3':(put (put ρ (some 23) vo) none (.tup [])).get 3=some (.ptr c 0 0 0):=by show(put ρ (some 23) vo).get 3=_;rw[sP (by decide)];exact g3
 refine eP (v:= .tup []) (h':=h5) rfl (by simp only[aN,ev,g3'];show unit (bM h4 1 _ _)=_;rw[show bM h4 1 _ _=some h5 from e5];rfl) (jW ?_)
 refine akg (aay ?_);refine akN (x:=vo) (y:= .int .i64 0) g2' g3' (by show dL h5 false 1 _=_;rw[A.v1.load];rfl) (by show dL h5 false 1 _=_;rw[A.var.load];rfl) ?_;obtain⟨b3,e3,V3,A⟩:=A.frz;exact ok h5 b3 vo eo (e1.trans (e2.trans e3)) A.rest.rest V3 (eH.ext e3 Ro) l1 k1
end
section
variable {T:List Lx} {k:Nat}
def Al {α:Type} (P:α→Prop) (m:PM α):Prop:=∀i o v i' o',m i o= .ok v i' o'→P v
theorem qQ {α β:Type} {P:α→Prop} {Q:β→Prop} {m:PM α} {g:α→PM β} (h:Al P m) (k:∀v,P v→Al Q (g v)):Al Q (bnd m g):=by
 intro i o v i' o' e;exact have⟨w,i1,o1,e1,e2⟩:=kU e;k w (h _ _ _ _ _ e1) _ _ _ _ _ e2
theorem fK {α β:Type} {Q:β→Prop} {m:PM α} {g:α→PM β} (k:∀v,Al Q (g v)):Al Q (bnd m g):=by
 intro i o v i' o' e;exact have⟨w,i1,o1,e1,e2⟩:=kU e;k w _ _ _ _ _ e2
theorem pY {α:Type} {P:α→Prop} {v:α} (h:P v):Al P (ret v):=fun i o w i' o' e=>by cases e;exact h
theorem Yx {α:Type} {P:α→Prop} {c:Nat→Bool} {m1 m2:PM α} (h1:Al P m1) (h2:Al P m2):Al P fun i o=>if c i=true then m1 i o else m2 i o:=by
 intro i o v i' o' e;simp only at e;split at e
 ·exact h1 _ _ _ _ _ e
 ·exact h2 _ _ _ _ _ e
theorem GU {α:Type} {P:α→Prop} {c:Nat→Bool} {m1 m2:PM α} (h1:Al P m1) (h2:Al P m2):Al P fun i o=>if c i=true then m1 (i+1) o else m2 i o:=by
 intro i o v i' o' e;simp only at e;split at e
 ·exact h1 _ _ _ _ _ e
 ·exact h2 _ _ _ _ _ e
theorem yN {α:Type} {P:α→Prop}:Al P (tV:PM α):=fun _ _ _ _ _ e=>by cases e
theorem ai8 {α:Type} {P:α→Prop} {b:Bool} {m1 m2:PM α} (h1:Al P m1) (h2:Al P m2):Al P (if b=true then m1 else m2):=by
 split
 ·exact h1
 ·exact h2
theorem apX {v c:Str} {bs:List (Str×Str)} {ts:List Ex}:Jc (.mk 1 v c bs ts [] [] [] wm [] [] []):=by simp[Jc,uU,uq]
theorem ai2:Al Jc (Uh T k):=fK fun nm=>fK fun _=>fK fun l=>pY (by simp[Jc,uU,uq])
theorem Mk (v:Str):Al Jc (mQ T k v):=fK fun c=>fK fun _=>fK fun s=>pY apX
theorem aij:Al Jc (SL T k):=Yx (c:=fun i=>dS T i 1) (fK fun v=>fK fun _=>Mk v) (Mk [])
structure WfP (T:List Lx) (k:Nat):Prop where
 conds:∀ends acc,uU acc→Al uU (jG T k ends acc)
 some:∀ends,Al uU (jN T k ends)
 block:Al uU (nY T k)
 alts:∀acc,uq acc→Al uq (uy T k acc)
 or:Al Jc (orM T k)
 acc:Al Jc (NS T k)
 cond:Al Jc (vM T k)
theorem afX {c:Cd} (h:Jc c):uU [c]:=by simp only[uU];exact⟨h,trivial⟩
theorem ahy {n:Int} {l:List Cd} (hn:n=2∨n=3) (h:uU l):Jc (SS n l):=by
 unfold SS Jc;refine⟨fun _=>⟨rfl,rfl,rfl,rfl,rfl,rfl,rfl,rfl⟩,fun _=>rfl,fun _=>rfl,fun q=> ?_,h,by simp[uU],by simp[uq]⟩;rcases hn with e |e
 ·exact absurd e q.1
 ·exact absurd e q.2.1
theorem wfp:∀k,WfP T k
 |0=>⟨fun _ _ _=>yN,fun _=>yN,yN,fun _ _=>yN,yN,yN,yN⟩
 |k+1=>by
  refine have W:=wfp k;⟨fun ends acc ha=> ?_,fun ends=> ?_, ?_,fun acc ha=> ?_, ?_, ?_, ?_⟩
  ·exact Yx (c:=fun i=>ends.any fun w=>bA T i w) (m1:=ret acc) (pY ha) (qQ W.cond fun c hc=>W.conds ends _ (Df _ _ ha (afX hc)))
  ·exact qQ W.cond fun c hc=>qQ (W.conds ends [] trivial) fun l hl=>pY (by simp only[uU];exact⟨hc,hl⟩)
  ·exact fK fun _=>qQ (W.some _) fun l hl=>fK fun _=>pY hl
  ·exact qQ (W.some _) fun l hl=>fK fun b=>ai8 (W.alts _ (MH _ _ ha (by simp only[uq];exact⟨hl,trivial⟩))) (pY (MH _ _ ha (by simp only[uq];exact⟨hl,trivial⟩)))
  ·exact fK fun _=>qQ (W.some _) fun l hl=>fK fun _=>qQ (W.alts [l] (by simp only[uq];exact⟨hl,trivial⟩)) fun a ha=>fK fun _=>pY (by simp[Jc,uU,ha])
  ·exact fK fun _=>fK fun v=>fK fun _=>fK fun b=>fK fun fn=>fK fun _=>fK fun e=>fK fun _=>fK fun _=>qQ (W.some _) fun l hl=>fK fun _=>pY (by simp[Jc,uU,uq,hl])
  ·exact GU (c:=fun i=>bA T i WH) (qQ W.block fun l hl=>pY (ahy (.inl rfl) hl)) (GU (c:=fun i=>bA T i xg) (qQ W.block fun l hl=>pY (ahy (.inr rfl) hl))
    (GU (c:=fun i=>bA T i xR) (fK fun _=>qQ (W.some _) fun l hl=>fK fun _=>qQ (W.some _) fun m hm=>fK fun _=>pY (by simp[Jc,uq,hl,hm]))
    (Yx (c:=fun i=>bA T i [40]) W.or (GU (c:=fun i=>bA T i MX) (fK fun _=>fK fun e=>fK fun _=>pY (by simp[Jc,uU,uq]))
    (GU (c:=fun i=>bA T i Wj) W.acc (GU (c:=fun i=>bA T i [63]) ai2 (Yx (c:=fun i=>dS T i 1&& !bA T (i+1) [58]) (fK fun v=>fK fun _=>fK fun e=>pY (by simp[Jc,uU,uq])) aij)))))))
theorem afy:Al (fun r:KR=>uU r.whn) (wF T k):=fK fun nm=>fK fun r=>qQ ((wfp k).conds _ _ trivial) fun w hw=>fK fun _=>fK fun t=>pY hw
theorem Jp (k0:Nat):∀(k:Nat) (b:NQ),(∀r∈b.rules,uU r.whn)→Al (fun b:NQ=>∀r∈b.rules,uU r.whn) (jB T k0 k b)
 |0,b,hb=>yN
 |k+1,b,hb=>by
  intro i o v i' o' h;have h:(if i<T.length then
   (if bA T i xG=true then bnd (rZ T k0) (fun c=>jB T k0 k {b with classes:=b.classes++[c]}) (i+1) o
   else if bA T i Io=true then bnd (wF T k0) (fun r=>jB T k0 k {b with rules:=b.rules++[r]}) (i+1) o
   else bnd (d9 T J5) (fun _=>bnd (qG T k0) fun q=>jB T k0 k {b with queries:=b.queries++[q]}) i o)
  else .ok b i o)= .ok v i' o':=h
  split at h
  ·split at h
   ·exact have⟨c,i1,o1,e1,h⟩:=kU h;Jp k0 k {b with classes:=b.classes++[c]} hb _ _ _ _ _ h
   ·split at h
    ·refine have⟨c,i1,o1,e1,h⟩:=kU h;Jp k0 k {b with rules:=b.rules++[c]} (fun r hr=> ?_) _ _ _ _ _ h
     rcases List.mem_append.1 hr with hr |hr
     ·exact hb r hr
     ·rw[List.mem_singleton] at hr;subst hr;exact afy _ _ _ _ _ e1
    ·have⟨_,i1,o1,e1,h⟩:=kU h;exact have⟨c,i2,o2,e2,h⟩:=kU h;Jp k0 k {b with queries:=b.queries++[c]} hb _ _ _ _ _ h
  ·cases h;exact hb
end
theorem af6 {l:Str} {kd m:Nat} {t:Str} (h:uE l=some (kd,t,m)):t.length≤m:=by
 cases l with
 |nil=>cases h
 |cons c l=>
  have h:(if lT c=true then some (0,(c :: l).take (nH (c :: l)),nH (c :: l))
   else if c=36 then(if 0<nH l then some (1,l.take (nH l),nH l+1) else none)
   else if gU c=true then some (2,(c :: l).take ((c :: l).takeWhile gU).length,((c :: l).takeWhile gU).length)
   else if c=34 then(quo l).map fun r=>(3,r.1,r.2+1)
   else if 0<l9 (c :: l) then some (4,(c :: l).take (l9 (c :: l)),l9 (c :: l)) else none)=some (kd,t,m):=h
  have tk:∀(n:Nat) (s:Str),(s.take n).length≤n:=fun n s=>by rw[List.length_take];omega
  by_cases h1:lT c=true
  ·rw[if_pos h1] at h;cases h;exact tk _ _
  rw[if_neg h1] at h;by_cases h2:c=36
  ·rw[if_pos h2] at h;by_cases h3:0<nH l
   ·rw[if_pos h3] at h;cases h;exact Nat.le_succ_of_le (tk _ _)
   ·rw[if_neg h3] at h;cases h
  rw[if_neg h2] at h;by_cases hd:gU c=true
  ·rw[if_pos hd] at h;cases h;exact tk _ _
  rw[if_neg hd] at h;by_cases h4:c=34
  ·rw[if_pos h4] at h;cases e:quo l with
   |none=>rw[e] at h;cases h
   |some r=>
    rw[e] at h;simp only[Option.map_some,Option.some.injEq,Prod.mk.injEq] at h;have:=SH l r.1 r.2 e;rw[←h.2.1];omega
  rw[if_neg h4] at h;by_cases h5:0<l9 (c :: l)
  ·rw[if_pos h5] at h;cases h;exact tk _ _
  ·rw[if_neg h5] at h;cases h
theorem Tk:∀(f p:Nat) (l:Str) (r:List Lx),I9 f p l= .ok r→(r.map fun y=>y.text.length+10).sum≤11*l.length
 |0,_,_,_,h=>by cases h;simp
 |f+1,p,l,r,h=>by
  simp only[I9] at h;by_cases hend:l.length≤skip false l
  ·rw[if_pos hend] at h;cases h;simp
  ·rw[if_neg hend] at h;cases hn:uE (l.drop (skip false l)) with
   |none=>rw[hn] at h;cases h
   |some q=>
    have⟨kd,t,m⟩:=q;rw[hn] at h;simp only at h;cases hr:I9 f (p+skip false l+m) (l.drop (skip false l+m)) with
    |error e=>rw[hr] at h;cases h
    |ok r'=>
     rw[hr] at h;have ih:=Tk f _ _ r' hr;cases h;have h1:=af6 hn;have h2:=JB hn;simp only[List.length_drop,List.map_cons,List.sum_cons] at ih h2 ⊢;omega
theorem alg {s:Str} {b:NQ} (h:s.length≤60000) (e:afU s= .ok b):FX b≤11*s.length∧∀r∈b.rules,uU r.whn:=by
 unfold afU acg at e;cases hl:Fz s with
 |error x=>rw[hl] at e;cases e
 |ok T=>
  rw[hl] at e;simp only at e;cases hf:Bl T 100000 0 0 with
  |out=>rw[hf] at e;cases e
  |fail x=>rw[hf] at e;cases e
  |ok b' i o=>
   rw[hf] at e;cases e;obtain⟨hl',_⟩:=RF _ _ _ _ _ hl (Nat.zero_le _);rw[List.drop_zero] at hl';have hs:=Tk _ _ _ _ hl';unfold Bl at hf;obtain⟨b',i1,o1,e1,hf⟩:=Ky hf;split at hf
   ·rename_i hi;cases hf;refine⟨?_,Jp _ _ _ (by simp) _ _ _ _ _ e1⟩;have:=ahT 100000 100000 _ e1;have h3:wt T i=(T.map fun l=>l.text.length+10).sum:=by unfold wt;rw[hi,List.take_length]
    have h4:wt T 0=0:=by unfold wt;simp
    have h5:FX ⟨[],[],[]⟩=0:=rfl;omega
   ·cases hf
theorem acA {x y:Str} {k:AV→Bool} (l:x.length+y.length≤most) (s:k (.str (x++y))=true):eG (.str x) (.str y) k=true:=by
 have e:dV .add (.str x) (.str y)=some (.str (x++y)):=by
  simp only[dV,Dl,aI.2 l,cond_true]
 rw[WX,e];exact s
section
variable {h b:ah} {L:gB} {S:List Sl} {F:List (ah→Prop)} {K:aK} {n:Nat}
def wA:Str:=[114,117,108,101,32,34,114,34,32,119,104,101,110,32]
def wB:Str:=[32,116,104,101,110,32,101,110,100]
theorem x4 {s:Str} (hn:500000≤n) (hb:∀b∈s,b<256) (hs:s.length≤3000) (hg:GvF∈F) (A:Cx h L S (Ext b :: F))
 (k:∀h b' u eu l,Ext b b'→Cx h L S (Ext b' :: F)→View b' 19 u eu→eY b' eu l→uU l→gH l≤34000→K u h=true):ak E n (.func 4) [.str s] h K=true:=by
 obtain⟨n,rfl⟩:∃m,n=m+1:=⟨n-1,by omega⟩;apply d4;unfold s4;have hmo:most=1099511627776:=rfl;refine acA (x:=wA) (y:=s) (by show 14+s.length≤most;omega) (acA (x:=wA++s) (y:=wB) (by rw[List.length_append];show 14+s.length+9≤most;omega) ?_);have hl:(wA++s++wB).length≤3023:=by simp only[List.length_append];show 14+s.length+9≤3023;omega
 refine cp6 (s:=wA++s++wB) (by omega) ?_ (by omega) (List.mem_cons_of_mem _ hg) A ?_
 ·intro x hx;rcases List.mem_append.1 hx with hx |hx
  ·rcases List.mem_append.1 hx with hx |hx
   ·exact(show ∀x∈wA,x<256 by decide) x hx
   ·exact hb x hx
  ·exact(show ∀x∈wB,x<256 by decide) x hx
 have none:∀{h:ah} {b1:ah} {x y:AV} {c:List AV} {v1:AV},Ext b b1→Cx h L S (Ext b1 :: F)→c.length=3→aB c=true→c[1]? =some v1→View b1 8 v1 []→DJ (ak E n) n (.tup [.agg c,x,y]) h K=true:=by
  intro h b1 x y c v1 e A hc hl h1 V;unfold DJ;refine jY (kg (Hl (pG A rfl rfl rfl fun q h A=>LH A rfl hc rfl hl fun h A=>ay (aJ A.var h1 ?_))));refine dZ (V.ext A.f0) (kQ ?_);exact bN (k h b1 _ _ [] e A.rest (View.nil _ 19) eY.nil trivial (Nat.zero_le _))
 cases hp:afU (wA++s++wB) with
 |error e=>
  intro h A;exact aD rfl (none (Ext.refl _) A rfl rfl rfl (View.nil _ 8))
 |ok bs=>
  intro h c A;obtain⟨pw1,pw2⟩:=alg (by omega) hp;obtain⟨b1,e1,R,A1⟩:=A.sub1;clear A;have C:=(R:I8 b1 c bs).cells;obtain⟨v0,e0,v1,e1',v2,e2,rfl,h1,h2,h3,h4,h5,h6⟩:=R;refine aD rfl ?_;have rl:=JX.len h4;cases hr:bs.rules with
  |nil=>
   rw[hr] at rl h4;cases (show e1'=[] from h4)
   exact none e1 A1 rfl C.2 rfl h3
  |cons r rs=>
   rw[hr] at rl h4;obtain⟨cr,er,rfl,Rr,_⟩:=h4;unfold DJ;refine jY (kg (Hl (pG A1 rfl rfl rfl fun q h A=>LH A rfl rfl rfl C.2 fun h A=>ay (aJ A.var rfl ?_))));refine dZ (h3.ext A.f0) (kQ ?_);rw[decide_eq_false (by simp only[List.length_cons];omega)];refine bE (ay (aJ A.var rfl ?_));obtain⟨vw,ew,vt,et,rfl,Vw,Rw,_⟩:=Rr;refine Fu (i:=0) (h3.ext A.f0) rfl fun id g j ld=>ay (aU (by rw[ld];rfl) ?_);refine k h b1 vw ew r.whn e1 A.rest Vw Rw (pw2 r (by rw[hr];exact List.mem_cons_self)) ?_;have:gH r.whn≤FX bs:=by unfold FX;rw[hr];simp only[cRs,cR];omega
   omega
end
theorem _root_.Go.Ab.View.atE {h:ah} {n:Nat} {v:AV} {es:List (List AV)} (V:View h n v es) {i:Nat} {e:List AV} (hi:es[i]? =some e):
 ∃id g j,∀h',Ext h h'→(∀k,oG h' n v (.int k (i:Int))=some (.ptr id g j 0))∧∀ag off m,dL h' ag m (.ptr id g j off)=mM ag off m e:=by
 rcases V with⟨rfl,_⟩|⟨id,g,s,cap,ex,r,rfl,h2,h3,h4,h5,h6⟩
 ·simp at hi
 ·have hlt:i<es.length:=(List.getElem?_eq_some_iff.1 hi).1;refine⟨id,g,s+i,fun h' e'=> ?_⟩;have h2':=e'.row h2;refine⟨fun k=> ?_,fun ag off m=> ?_⟩
  ·have:pK h' id n=true:=by simp only[pK,h2',aG];exact h4
   simp only[oG,qE,bC.2 hlt,this,Bool.and_self,cond_true]
  ·have hn:nth r.es (s+i)=some e:=by
    rw[nk];rw[←h5,List.getElem?_take] at hi;simp only[hlt,if_true,List.getElem?_drop] at hi;exact hi
   simp only[dL,h2',aI.2 h3,hn,cond_true]
theorem aju (v:Ex):2≤cE v:=by cases v with |mk op t v l=>have:=QW v;unfold cE;omega
def QZ (N:Nat):Prop:=∀(n:Nat) (h b:ah) (l:List Cd) (v:AV) (es:List (List AV)) (d:Nat) (L:gB) (S:List Sl) (F:List (ah→Prop)) (K:aK),gH l≤N→gH l≤1000000→3*gH l+10≤n→d≤81→Cx h L S (Ext b :: F)→View b 19 v es→eY b es l→
 (∀h m,m≤(gH l+1)*1048576→Cx h L S (Ext b :: F)→K (.int .i64 (m:Int)) h=true)→ak E n (.func 5) [v, .int .i64 (d:Int)] h K=true
theorem qz (N:Nat):QZ N:=by
 induction N using Nat.strongRecOn with
 |ind N IH=>
 intro n h b l v es d L S F K hN hB hn hd A V R k;obtain⟨n,rfl⟩:∃m,n=m+1:=⟨n-1,by omega⟩;have hlim:lim=4611686018427387904:=rfl;have hl:=pO l;obtain⟨g1,g2⟩:=R.get;apply d5;unfold s5;refine yh ?_;by_cases hd8:(80:Int)<(d:Int)
 ·rw[decide_eq_true hd8];exact bN (k h 1048576 (by omega) A)
 rw[decide_eq_false hd8];refine bE ?_;unfold adq;have lp:∀(m i t:Nat) (h:ah),i≤l.length→l.length-i<m→t≤gH (l.take i)*1048576→Cx h L S (Ext b :: F)→O8 (ak E n) n m v (.int .i64 (d:Int)) (.int .i64 (t:Int)) (.int .i64 (i:Int)) h K=true:=by
  intro m
  induction m with
  |zero=>intro i t h _ hm;omega
  |succ m ih=>
   intro i t h hi hm ht A;have tk:gH (l.take i)+gH (l.drop i)=gH l:=by rw[←xJ,List.take_append_drop]
   rw[agA];unfold Yv;refine dZ (V.ext A.f0) (fT ?_);rw[g1];by_cases hlt:i<l.length
   ·rw[decide_eq_true hlt];have hb:l[i]? =some l[i]:=List.getElem?_eq_getElem hlt;generalize l[i]=y at hb;obtain⟨c1,hc1,R1⟩:=g2 i y hb;obtain⟨id,g,j,ld⟩:=V.atE hc1;have hw:=rF hb;have tk1:gH (l.take (i+1))=gH (l.take i)+cC y:=by rw[kJ hb,xJ];simp only[gH];omega
    have tk2:gH (l.take (i+1))+gH (l.drop (i+1))=gH l:=by rw[←xJ,List.take_append_drop]
    obtain⟨kind,var,cls,binds,tests,conds,thn,alts,ex,fn,name,args⟩:=y;have he:=aju ex;have hal:=rV alts;simp only[cC] at hw tk1;simp only[RC] at R1;obtain⟨vb,vt,et,vc,ec,vn,en,va,ea,ce,vg,eg,rfl,Vb,Vt,Rt,Vc,Rc,Vn,Rn,Va,Ra,Re,Vg,Rg⟩:=R1;have ia:∀{h:ah} {k:AV→Bool},Cx h L S (Ext b :: F)→k (.ptr id g j 0)=true→dG h 19 v (.int .i64 (i:Int)) k=true:=fun A q=>uP ((ld _ A.f0).1 _) q;have l5:∀{h:ah} {k:AV→Bool},Cx h L S (Ext b :: F)→k vc=true→av h (.ptr id g j 5) k=true:=fun A q=>aU (by rw[(ld _ A.f0).2];rfl) q;have l6:∀{h:ah} {k:AV→Bool},Cx h L S (Ext b :: F)→k vn=true→av h (.ptr id g j 6) k=true:=fun A q=>aU (by rw[(ld _ A.f0).2];rfl) q;have l7:∀{h:ah} {k:AV→Bool},Cx h L S (Ext b :: F)→k va=true→av h (.ptr id g j 7) k=true:=fun A q=>aU (by rw[(ld _ A.f0).2];rfl) q;refine bN ?_;unfold acQ;refine gZ (by omega) (ia A (ay (l5 A (gZ (by omega) (ia A (ay (l6 A (gZ (by omega) ?_))))))));refine IH (gH conds) (by omega) n h b conds vc ec (d+1) _ _ _ _ (Nat.le_refl _) (by omega) (by omega) (by omega) A Vc Rc fun h m1 hm1 A=>aD rfl ?_;refine ia A (bI (iW.ptr _ _ _ _) (l6 A (bI Vn.iW (uj (x:=t+1) (y:=m1) (by omega) ?_))));refine IH (gH thn) (by omega) n h b thn vn en (d+1) _ _ _ _ (Nat.le_refl _) (by omega) (by omega) (by omega) A Vn Rn fun h m2 hm2 A=>aD rfl (uj (x:=t+1+m1) (y:=m2) (by omega) ?_);obtain⟨a1,a2⟩:=Ra.get;have lp2:∀(m' j' u:Nat) (h:ah),j'≤alts.length→alts.length-j'<m'→u≤t+1+m1+m2+iP (alts.take j')*1048576→Cx h L S (Ext b :: F)→U0 (ak E n) n (fun x0 x1 x5 x6 h=>O8 (ak E n) n m x0 x1 x5 x6 h K) m' v (.int .i64 (d:Int)) (.int .i64 (u:Int)) (.int .i64 (i:Int)) (.int .i64 (j':Int)) h K=true:=by
     intro m'
     induction m' with
     |zero=>intro j' u h _ hm;omega
     |succ m' ih2=>
      intro j' u h hj hm' hu A;have ta:iP (alts.take j')+iP (alts.drop j')=iP alts:=by rw[←uN,List.take_append_drop]
      rw[ae8];unfold aap;refine ia A (ay (l7 A (dZ (Va.ext A.f0) (fT ?_))));rw[a1];by_cases hjt:j'<alts.length
      ·rw[decide_eq_true hjt];have hb2:alts[j']? =some alts[j']:=List.getElem?_eq_getElem hjt;generalize alts[j']=y2 at hb2;obtain⟨v2,ec2,hv2,V2,R2⟩:=a2 j' y2 hb2;have hw2:=rO hb2;have ta1:iP (alts.take (j'+1))=iP (alts.take j')+(gH y2+1):=by rw[kJ hb2,uN];simp only[iP]
       have ta2:iP (alts.take (j'+1))+iP (alts.drop (j'+1))=iP alts:=by rw[←uN,List.take_append_drop]
       refine bN (ia A (ay (l7 A (nV (Va.ext A.f0) hv2 rfl (gZ (by omega) ?_)))));refine IH (gH y2) (by omega) n h b y2 v2 ec2 (d+1) _ _ _ _ (Nat.le_refl _) (by omega) (by omega) (by omega) A V2 R2 fun h m3 hm3 A=>aD rfl ?_;unfold MQ;exact uj (x:=u) (y:=m3) (by omega) (gZ (by omega) (ih2 (j'+1) (u+m3) h (by omega) (by omega) (by omega) A))
      ·rw[decide_eq_false hjt];rw[List.take_of_length_le (by omega)] at hu;refine bE ?_;unfold acD;exact gZ (by omega) (ih (i+1) u h (by omega) (by omega) (by omega) A)
    exact lp2 n 0 (t+1+m1+m2) h (Nat.zero_le _) (by omega) (by omega) A
   ·rw[decide_eq_false hlt];exact bE (k h t (Nat.le_trans ht (Nat.mul_le_mul_right _ (by omega))) A)
 exact lp n 0 0 h (Nat.zero_le _) (by omega) (Nat.zero_le _) A
set_option maxRecDepth 100000
theorem nu {k:Nat} {s:Go.Ab.Sh} (v:dB E k s) (e:(E0.code k,E0.prim k)=(E.code k,E.prim k)):dB E0 k s:=by
 simp only[Prod.mk.injEq] at e;unfold dB;rw[e.1,e.2];exact v
noncomputable def shs:List (Nat×Go.Ab.Sh):=[(4,w4),(8,w8),(9,w9),(10,w10),(12,w12),(13,w13),(14,w14),(15,w15),(17,w17),(18,w18),(19,w19),(20,w20),(21,w21),(22,w22),(23,w23),(24,w24),(25,w25),(26,w26),(27,w27),(28,w28),(29,w29),(30,w30),(34,w34),(36,w36),(38,w38),(39,w39),(41,w41),(42,w42),(45,w45),(46,w46),(47,w47),(51,w51),(52,w52),(53,w53),(54,w54),(55,w55),(56,w56),(58,w58),(59,w59),(61,w61),(63,w63),(66,w66),(68,w68),(70,w70),(71,w71),(72,w72),(73,w73),(74,w74),(75,w75),(77,w77),(80,w80),(81,w81),(82,w82),(86,w86),(87,w87),(90,w90),(93,w93),(94,w94),(95,w95),(96,w96),(97,w97),(98,w98),(99,w99),(100,ahW),(101,ahX),(111,aiC),(112,ai3),(113,ajc),(114,aiE),(115,ajl),(123,ah6),(124,ahM)]
theorem aiU:aez E0 shs:=⟨nu v4 (by kernel_rfl),nu v8 (by kernel_rfl),v9,nu v10 (by kernel_rfl),nu v12 (by kernel_rfl),nu v13 (by kernel_rfl),nu v14 (by kernel_rfl),nu v15 (by kernel_rfl),nu v17 (by kernel_rfl),nu v18 (by kernel_rfl),nu v19 (by kernel_rfl),nu v20 (by kernel_rfl),nu v21 (by kernel_rfl),nu v22 (by kernel_rfl),nu v23 (by kernel_rfl),nu v24 (by kernel_rfl),nu v25 (by kernel_rfl),nu v26 (by kernel_rfl),nu v27 (by kernel_rfl),nu v28 (by kernel_rfl),nu v29 (by kernel_rfl),nu v30 (by kernel_rfl),nu v34 (by kernel_rfl),nu v36 (by kernel_rfl),nu v38 (by kernel_rfl),nu v39 (by kernel_rfl),nu v41 (by kernel_rfl),nu v42 (by kernel_rfl),nu v45 (by kernel_rfl),nu v46 (by kernel_rfl),nu v47 (by kernel_rfl),nu v51 (by kernel_rfl),nu v52 (by kernel_rfl),nu v53 (by kernel_rfl),nu v54 (by kernel_rfl),nu v55 (by kernel_rfl),nu v56 (by kernel_rfl),nu v58 (by kernel_rfl),nu v59 (by kernel_rfl),nu v61 (by kernel_rfl),nu v63 (by kernel_rfl),nu v66 (by kernel_rfl),nu v68 (by kernel_rfl),nu v70 (by kernel_rfl),nu v71 (by kernel_rfl),nu v72 (by kernel_rfl),nu v73 (by kernel_rfl),nu v74 (by kernel_rfl),nu v75 (by kernel_rfl),nu v77 (by kernel_rfl),nu v80 (by kernel_rfl),nu v81 (by kernel_rfl),nu v82 (by kernel_rfl),nu v86 (by kernel_rfl),nu v87 (by kernel_rfl),nu v90 (by kernel_rfl),nu v93 (by kernel_rfl),nu v94 (by kernel_rfl),nu v95 (by kernel_rfl),nu v96 (by kernel_rfl),nu v97 (by kernel_rfl),nu v98 (by kernel_rfl),nu v99 (by kernel_rfl),nu TV (by kernel_rfl),nu abO (by kernel_rfl),nu abd (by kernel_rfl),nu XY (by kernel_rfl),nu afn (by kernel_rfl),nu abA (by kernel_rfl),nu ND (by kernel_rfl),nu agR (by kernel_rfl),nu v124 (by kernel_rfl),trivial⟩
noncomputable def alu:PT Go.Ab.Sh:=(.nd none (.nd none (.nd none (.nd (some w21) .lf .lf .lf .lf) (.nd none (.nd (some ahX) .lf .lf .lf .lf) .lf .lf .lf) (.nd (some w53) .lf .lf .lf .lf) .lf) (.nd (some w9) (.nd (some w25) .lf .lf .lf .lf) (.nd (some w41) .lf .lf .lf .lf) .lf (.nd (some w73) .lf .lf .lf .lf)) (.nd (some w13) (.nd (some w29) (.nd (some w93) .lf .lf .lf .lf) .lf .lf .lf) (.nd (some w45) .lf .lf .lf .lf) (.nd (some w61) .lf .lf .lf .lf) (.nd (some w77) .lf .lf .lf .lf)) (.nd (some w17) (.nd none (.nd (some w97) .lf .lf .lf .lf) .lf .lf .lf) (.nd none (.nd (some ajc) .lf .lf .lf .lf) .lf .lf .lf) .lf (.nd (some w81) .lf .lf .lf .lf))) (.nd none (.nd none (.nd (some w22) (.nd (some w86) .lf .lf .lf .lf) .lf .lf .lf) (.nd (some w38) .lf .lf .lf .lf) (.nd (some w54) .lf .lf .lf .lf) (.nd (some w70) .lf .lf .lf .lf)) (.nd (some w10) (.nd (some w26) (.nd (some w90) .lf .lf .lf .lf) .lf .lf .lf) (.nd (some w42) .lf .lf .lf .lf) (.nd (some w58) .lf .lf .lf .lf) (.nd (some w74) .lf .lf .lf .lf)) (.nd (some w14) (.nd (some w30) (.nd (some w94) .lf .lf .lf .lf) .lf .lf .lf) (.nd (some w46) .lf .lf .lf .lf) .lf .lf) (.nd (some w18) (.nd (some w34) (.nd (some w98) .lf .lf .lf .lf) .lf .lf .lf) (.nd none (.nd (some aiE) .lf .lf .lf .lf) .lf .lf .lf) (.nd (some w66) .lf .lf .lf .lf) (.nd (some w82) .lf .lf .lf .lf))) (.nd none (.nd none (.nd (some w23) (.nd (some w87) .lf .lf .lf .lf) .lf .lf .lf) (.nd (some w39) .lf .lf .lf .lf) (.nd (some w55) .lf .lf .lf .lf) (.nd (some w71) .lf .lf .lf .lf)) (.nd none (.nd (some w27) .lf .lf .lf .lf) .lf (.nd (some w59) (.nd (some ah6) .lf .lf .lf .lf) .lf .lf .lf) (.nd (some w75) .lf .lf .lf .lf)) (.nd (some w15) (.nd none (.nd (some w95) .lf .lf .lf .lf) .lf .lf .lf) (.nd (some w47) (.nd (some aiC) .lf .lf .lf .lf) .lf .lf .lf) (.nd (some w63) .lf .lf .lf .lf) .lf) (.nd (some w19) (.nd none (.nd (some w99) .lf .lf .lf .lf) .lf .lf .lf) (.nd (some w51) (.nd (some ajl) .lf .lf .lf .lf) .lf .lf .lf) .lf .lf)) (.nd (some w4) (.nd (some w8) (.nd (some w24) .lf .lf .lf .lf) .lf (.nd (some w56) .lf .lf .lf .lf) (.nd (some w72) .lf .lf .lf .lf)) (.nd (some w12) (.nd (some w28) .lf .lf .lf .lf) .lf (.nd none (.nd (some ahM) .lf .lf .lf .lf) .lf .lf .lf) .lf) (.nd none (.nd none (.nd (some w96) .lf .lf .lf .lf) .lf .lf .lf) (.nd none (.nd (some ai3) .lf .lf .lf .lf) .lf .lf .lf) .lf (.nd (some w80) .lf .lf .lf .lf)) (.nd (some w20) (.nd (some w36) (.nd (some ahW) .lf .lf .lf .lf) .lf .lf .lf) (.nd (some w52) .lf .lf .lf .lf) (.nd (some w68) .lf .lf .lf .lf) .lf)))
theorem agB:alu=afe shs:=by kernel_rfl
noncomputable def tab (k:Nat):Option Go.Ab.Sh:=alu.get k
theorem ajv:∀k s,tab k=some s→dB E0 k s:=by
 unfold tab;rw[agB];exact Zb aiU
theorem anN:TB E0 tab 300 (.func 9) [] ah.empty (fun v _=>AV.same v (.bool true))=true:=by kernel_rfl
theorem ald:ak E0 300 (.func 9) [] ah.empty (fun v _=>AV.same v (.bool true))=true:=Un (YR PE) ajv 300 _ _ _ _ _ anN fun _ _ s=>s
theorem x9 {n:Nat} {h:ah} {K:aK} (s:K (.bool true) h=true):ak E (n+1) (.func 9) [] h K=true:=by
 have e:E.prim 9=some (Ph E0 A9 [([], .bool true)]):=by kernel_rfl
 simp only[ak,e]
 exact s
end Go.Proofs.YtbijepcediaghaaGreatDoor
