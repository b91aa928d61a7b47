/-
  Texts that the claim hangs on, part 8.
-/
import Derived.Test.YtibillhjmfbneaaGreatDoorJ6
import Derived.KernelRfl
import Derived.Shelf.LaysC
import Derived.Ground.NamesProg
import Derived.Test.YtibillhjmfbneaaGreatDoorProg
import Derived.Conc.MuLone
set_option linter.unusedSimpArgs false
set_option linter.unusedVariables false
namespace Go.Proofs.YtibillhjmfbneaaGreatDoor
open Go.Ab
section
variable {T:List Lx} {i i' k:Nat} {o o':Int}
theorem abF {s v:List (Str×Ex)} (h:ql T k s i o= .ok v i' o'):cG v+wt T i≤wt T i'+cG s:=by
 have h:(if(dN T i 1&&bC T (i+1) [63])=true then bnd (mD T) (fun v=>bnd (bU T [63]) fun _=>ret (s++[(v,rX)])) i o else bnd (gH T k) (fun e=>ret (s++[([],e)])) i o)= .ok v i' o':=h
 split at h
 ·obtain⟨t,i1,o1,e1,h⟩:=bW h
  obtain⟨_,i2,o2,e2,h⟩:=bW h
  obtain⟨q1,q2⟩:=jg h
  have:=Jo e1
  have:=lC e2
  rw[q1,q2,Oa];simp only[cG,Pb];omega
 ·obtain⟨e,i1,o1,e1,h⟩:=bW h
  obtain⟨q1,q2⟩:=jg h
  have:=xk e1
  rw[q1,q2,Oa];simp only[cG,List.length_nil];omega
theorem agH {c:Cd} (h:QU T k i o= .ok c i' o'):cC c+1+wt T i≤wt T i':=by
 obtain⟨nm,i1,o1,e1,h⟩:=bW (show bnd (fD T) (fun nm=>bnd (dJ T [40]) fun _=>bnd (fV T [41] (ql T k) k []) fun l=>ret (Cd.mk 9 [] [] [] [] [] [] [] rX [] nm l)) i o=_ from h)
 obtain⟨_,i2,o2,e2,h⟩:=bW h
 obtain⟨l,i3,o3,e3,h⟩:=bW h
 obtain⟨q1,q2⟩:=jg h
 have:=qO e1
 have:=lU e2
 have:=JG cG (fun s i o v i' o' h=>abF h) e3
 simp only[cG] at this
 rw[q1,q2];simp only[cC,cB,wR,vF,qy,Pb,List.length_nil];omega
def cP (s:List (Str×Str)×List Ex):Nat:=cB s.1+wR s.2
theorem aay {s v:List (Str×Str)×List Ex} (h:nV T k s i o= .ok v i' o'):cP v+wt T i≤wt T i'+cP s:=by
 have h:(if(dN T i 1&&bC T (i+1) [58])=true then bnd (mD T) (fun v=>bnd (bU T [58]) fun _=>bnd (fD T) fun f=>ret (s.1++[(v,f)],s.2)) i o
  else bnd (gH T k) (fun e=>ret (s.1,s.2++[e])) i o)= .ok v i' o':=h
 split at h
 ·obtain⟨t,i1,o1,e1,h⟩:=bW h
  obtain⟨_,i2,o2,e2,h⟩:=bW h
  obtain⟨f,i3,o3,e3,h⟩:=bW h
  obtain⟨q1,q2⟩:=jg h
  have:=Jo e1
  have:=lC e2
  have:=qO e3
  rw[q1,q2];simp only[cP,abJ,cB];omega
 ·obtain⟨e,i1,o1,e1,h⟩:=bW h
  obtain⟨q1,q2⟩:=jg h
  have:=xk e1
  rw[q1,q2];simp only[cP,Im,wR];omega
theorem MN {v:Str} {c:Cd} (h:jY T k v i o= .ok c i' o'):cC c+1+wt T i≤wt T i'+v.length:=by
 obtain⟨nm,i1,o1,e1,h⟩:=bW (show bnd (fD T) (fun c=>bnd (dJ T [40]) fun _=>bnd (fV T [41] (nV T k) k ([],[])) fun s=>ret (Cd.mk 1 v c s.1 s.2 [] [] [] rX [] [] [])) i o=_ from h)
 obtain⟨_,i2,o2,e2,h⟩:=bW h
 obtain⟨l,i3,o3,e3,h⟩:=bW h
 obtain⟨q1,q2⟩:=jg h
 have:=qO e1
 have:=lU e2
 have:=JG cP (fun s i o v i' o' h=>aay h) e3
 simp only[cP,cB,wR] at this
 rw[q1,q2];simp only[cC,cG,vF,qy,Pb,List.length_nil];omega
theorem ahc {c:Cd} (h:Md T k i o= .ok c i' o'):cC c+1+wt T i≤wt T i':=by
 have h:(if dN T i 1=true then bnd (mD T) (fun v=>bnd (bU T [58]) fun _=>jY T k v) i o else jY T k [] i o)= .ok c i' o':=h
 split at h
 ·obtain⟨t,i1,o1,e1,h⟩:=bW h
  obtain⟨_,i2,o2,e2,h⟩:=bW h
  have:=Jo e1
  have:=lC e2
  have:=MN h
  omega
 ·have:=MN h
  simpa using this
structure WtC (T:List Lx) (k:Nat):Prop where
 conds:∀ends acc i o v i' o',iI T k ends acc i o= .ok v i' o'→vF v+wt T i≤wt T i'+vF acc
 some:∀ends i o v i' o',gZ T k ends i o= .ok v i' o'→vF v+1+wt T i≤wt T i'
 block:∀i o v i' o',kY T k i o= .ok v i' o'→vF v+1+wt T i≤wt T i'
 alts:∀acc i o v i' o',qI T k acc i o= .ok v i' o'→qy v+wt T i≤wt T i'+qy acc
 or:∀i o c i' o',orM T k i o= .ok c i' o'→cC c+1+wt T i≤wt T i'
 acc:∀i o c i' o',Fb T k i o= .ok c i' o'→cC c+1+wt T i≤wt T i'
 cond:∀i o c i' o',qG T k i o= .ok c i' o'→cC c+1+wt T i≤wt T i'
theorem wtc (T:List Lx):∀k,WtC T k
 |0=>⟨fun _ _ _ _ _ _ _ h=>(by cases h),fun _ _ _ _ _ _ h=>(by cases h),fun _ _ _ _ _ h=>(by cases h),fun _ _ _ _ _ _ h=>(by cases h),fun _ _ _ _ _ h=>(by cases h),fun _ _ _ _ _ h=>(by cases h),fun _ _ _ _ _ h=>(by cases h)⟩
 |k+1=>by
  have W:=wtc T k
  refine⟨fun ends acc i o v i' o' h=> ?_,fun ends i o v i' o' h=> ?_,fun i o v i' o' h=> ?_,fun acc i o v i' o' h=> ?_,fun i o c i' o' h=> ?_,fun i o c i' o' h=> ?_,fun i o c i' o' h=> ?_⟩
  ·have h:(if(ends.any fun w=>bC T i w)=true then .ok acc i o else bnd (qG T k) (fun c=>iI T k ends (acc++[c])) i o)= .ok v i' o':=h
   split at h
   ·cases h;omega
   ·obtain⟨c,i1,o1,e1,h⟩:=bW h
    have:=W.cond _ _ _ _ _ e1
    have:=W.conds _ _ _ _ _ _ _ h
    rw[Xi] at this;simp only[vF] at this;omega
  ·obtain⟨c,i1,o1,e1,h⟩:=bW (show bnd (qG T k) (fun c=>bnd (iI T k ends []) fun l=>ret (c :: l)) i o=_ from h)
   obtain⟨l,i2,o2,e2,h⟩:=bW h
   obtain⟨q1,q2⟩:=jg h
   have:=W.cond _ _ _ _ _ e1
   have:=W.conds _ _ _ _ _ _ _ e2
   simp only[vF] at this
   rw[q1,q2];simp only[vF];omega
  ·obtain⟨_,i1,o1,e1,h⟩:=bW (show bnd (dJ T [40]) (fun _=>bnd (gZ T k [[41]]) fun l=>bnd (bX T [41]) fun _=>ret l) i o=_ from h)
   obtain⟨l,i2,o2,e2,h⟩:=bW h
   obtain⟨_,i3,o3,e3,h⟩:=bW h
   obtain⟨q1,q2⟩:=jg h
   have:=lU e1
   have:=W.some _ _ _ _ _ _ e2
   have:=mW e3
   rw[q1,q2];omega
  ·obtain⟨l,i1,o1,e1,h⟩:=bW (show bnd (gZ T k [Mc,[41]]) (fun l=>bnd (fq T Mc) fun b=>if b=true then qI T k (acc++[l]) else ret (acc++[l])) i o=_ from h)
   obtain⟨b,i2,o2,e2,h⟩:=bW h
   have h1:=W.some _ _ _ _ _ _ e1
   have h2:=Vz e2
   split at h
   ·have:=W.alts _ _ _ _ _ _ h
    rw[IV] at this;simp only[qy] at this;omega
   ·obtain⟨q1,q2⟩:=jg h
    rw[q1,q2,IV];simp only[qy];omega
  ·obtain⟨_,i1,o1,e1,h⟩:=bW (show bnd (dJ T [40]) (fun _=>bnd (gZ T k [Mc,[41]]) fun l=>bnd (bU T Mc) fun _=>bnd (qI T k [l]) fun a=>bnd (bX T [41]) fun _=>ret (Cd.mk 5 [] [] [] [] [] [] a rX [] [] [])) i o=_ from h)
   obtain⟨l,i2,o2,e2,h⟩:=bW h
   obtain⟨_,i3,o3,e3,h⟩:=bW h
   obtain⟨a,i4,o4,e4,h⟩:=bW h
   obtain⟨_,i5,o5,e5,h⟩:=bW h
   obtain⟨q1,q2⟩:=jg h
   have:=lU e1
   have:=W.some _ _ _ _ _ _ e2
   have:=lC e3
   have h4:=W.alts _ _ _ _ _ _ e4
   simp only[qy] at h4
   have:=mW e5
   rw[q1,q2];simp only[cC,cB,cG,wR,vF,Pb,List.length_nil];omega
  ·obtain⟨_,i1,o1,e1,h⟩:=bW (show bnd (dJ T [40]) (fun _=>bnd (mD T) fun v=>bnd (bU T [58]) fun _=>bnd (fq T oO) fun b=>bnd (if b=true then ret oO else fD T) fun fn=>
    bnd (dJ T [40]) fun _=>bnd (gH T k) fun e=>bnd (bX T [41]) fun _=>bnd (bU T VQ) fun _=>bnd (gZ T k [[41]]) fun l=>bnd (bX T [41]) fun _=>ret (Cd.mk 7 v [] [] [] l [] [] e fn [] [])) i o=_ from h)
   obtain⟨v,i2,o2,e2,h⟩:=bW h
   obtain⟨_,i3,o3,e3,h⟩:=bW h
   obtain⟨b,i4,o4,e4,h⟩:=bW h
   obtain⟨fn,i5,o5,e5,h⟩:=bW h
   obtain⟨_,i6,o6,e6,h⟩:=bW h
   obtain⟨e,i7,o7,e7,h⟩:=bW h
   obtain⟨_,i8,o8,e8,h⟩:=bW h
   obtain⟨_,i9,o9,e9,h⟩:=bW h
   obtain⟨l,i10,o10,e10,h⟩:=bW h
   obtain⟨_,i11,o11,e11,h⟩:=bW h
   obtain⟨q1,q2⟩:=jg h
   have:=lU e1
   have:=Jo e2
   have:=lC e3
   have:=Vz e4
   have h5:fn.length+wt T i4≤wt T i5+4:=by
    split at e5
    ·obtain⟨q3,q4⟩:=jg e5
     rw[q3,q4];simp only[oO,List.length_cons,List.length_nil];omega
    ·have:=qO e5;omega
   have:=lU e6
   have:=xk e7
   have:=mW e8
   have:=lC e9
   have:=W.some _ _ _ _ _ _ e10
   have:=mW e11
   rw[q1,q2];simp only[cC,cB,cG,wR,vF,qy,List.length_nil];omega
  ·have h:(if bC T i Ut=true then bnd (kY T k) (fun l=>ret (cdL 2 l)) (i+1) o
    else if bC T i wO=true then bnd (kY T k) (fun l=>ret (cdL 3 l)) (i+1) o
    else if bC T i xg=true then bnd (dJ T [40]) (fun _=>bnd (gZ T k [[59]]) fun l=>bnd (bU T [59]) fun _=>bnd (gZ T k [[41]]) fun m=>bnd (bX T [41]) fun _=>ret (.mk 4 [] [] [] [] l m [] rX [] [] [])) (i+1) o
    else if bC T i [40]=true then orM T k i o
    else if bC T i Kc=true then bnd (dJ T [40]) (fun _=>bnd (gH T k) fun e=>bnd (bX T [41]) fun _=>ret (.mk 8 [] [] [] [] [] [] [] e [] [] [])) (i+1) o
    else if bC T i TP=true then Fb T k (i+1) o
    else if bC T i [63]=true then QU T k (i+1) o
    else if(dN T i 1&& !bC T (i+1) [58])=true then bnd (mD T) (fun v=>bnd (bU T Qy) fun _=>bnd (gH T k) fun e=>ret (.mk 6 v [] [] [] [] [] [] e [] [] [])) i o
    else Md T k i o)= .ok c i' o':=h
   have blk:∀{s:Str} {n:Int},bC T i s=true→bnd (kY T k) (fun l=>ret (cdL n l)) (i+1) o= .ok c i' o'→cC c+1+wt T i≤wt T i':=by
    intro s n hc h
    have hs:=gX (is_lt hc)
    obtain⟨l,i1,o1,e1,h⟩:=bW h
    obtain⟨q1,q2⟩:=jg h
    have:=W.block _ _ _ _ _ e1
    rw[q1,q2];simp only[cdL,cC,cB,cG,wR,vF,qy,Pb,List.length_nil];omega
   by_cases h1:bC T i Ut=true
   ·rw[if_pos h1] at h;exact blk h1 h
   rw[if_neg h1] at h
   by_cases h1:bC T i wO=true
   ·rw[if_pos h1] at h;exact blk h1 h
   rw[if_neg h1] at h
   by_cases h1:bC T i xg=true
   ·rw[if_pos h1] at h
    have hs:=gX (is_lt h1)
    obtain⟨_,i1,o1,e1,h⟩:=bW h
    obtain⟨l,i2,o2,e2,h⟩:=bW h
    obtain⟨_,i3,o3,e3,h⟩:=bW h
    obtain⟨m,i4,o4,e4,h⟩:=bW h
    obtain⟨_,i5,o5,e5,h⟩:=bW h
    obtain⟨q1,q2⟩:=jg h
    have:=lU e1
    have:=W.some _ _ _ _ _ _ e2
    have:=lC e3
    have:=W.some _ _ _ _ _ _ e4
    have:=mW e5
    rw[q1,q2];simp only[cC,cB,cG,wR,vF,qy,Pb,List.length_nil];omega
   rw[if_neg h1] at h
   by_cases h1:bC T i [40]=true
   ·rw[if_pos h1] at h;exact W.or _ _ _ _ _ h
   rw[if_neg h1] at h
   by_cases h1:bC T i Kc=true
   ·rw[if_pos h1] at h
    have hs:=gX (is_lt h1)
    obtain⟨_,i1,o1,e1,h⟩:=bW h
    obtain⟨e,i2,o2,e2,h⟩:=bW h
    obtain⟨_,i3,o3,e3,h⟩:=bW h
    obtain⟨q1,q2⟩:=jg h
    have:=lU e1
    have:=xk e2
    have:=mW e3
    rw[q1,q2];simp only[cC,cB,cG,wR,vF,qy,List.length_nil];omega
   rw[if_neg h1] at h
   by_cases h1:bC T i TP=true
   ·rw[if_pos h1] at h
    have hs:=gX (is_lt h1)
    have:=W.acc _ _ _ _ _ h
    omega
   rw[if_neg h1] at h
   by_cases h1:bC T i [63]=true
   ·rw[if_pos h1] at h
    have hs:=gX (is_lt h1)
    have:=agH h
    omega
   rw[if_neg h1] at h
   by_cases h1:(dN T i 1&& !bC T (i+1) [58])=true
   ·rw[if_pos h1] at h
    obtain⟨v,i1,o1,e1,h⟩:=bW h
    obtain⟨_,i2,o2,e2,h⟩:=bW h
    obtain⟨e,i3,o3,e3,h⟩:=bW h
    obtain⟨q1,q2⟩:=jg h
    have:=Jo e1
    have:=lC e2
    have:=xk e3
    rw[q1,q2];simp only[cC,cB,cG,wR,vF,qy,List.length_nil];omega
   rw[if_neg h1] at h
   exact ahc h
theorem aaJ {s v:List (Str×Ex)} (h:iw T k s i o= .ok v i' o'):cG v+wt T i≤wt T i'+cG s:=by
 obtain⟨t,i1,o1,e1,h⟩:=bW (show bnd (fD T) (fun f=>bnd (bU T [61]) fun _=>bnd (gH T k) fun e=>ret (s++[(f,e)])) i o=_ from h)
 obtain⟨_,i2,o2,e2,h⟩:=bW h
 obtain⟨e,i3,o3,e3,h⟩:=bW h
 obtain⟨q1,q2⟩:=jg h
 have:=qO e1
 have:=lC e2
 have:=xk e3
 rw[q1,q2,Oa];simp only[cG];omega
theorem aat {least:Bool} {v:List (Str×Ex)} (h:oQ T k least i o= .ok v i' o'):cG v+wt T i≤wt T i':=by
 obtain⟨_,i1,o1,e1,h⟩:=bW (show bnd (dJ T [123]) (fun _ i o=>if least=true then bnd (uW (!bC T i [125])) (fun _=>fV T [125] (iw T k) k []) i o else fV T [125] (iw T k) k [] i o) i o=_ from h)
 have:=lU e1
 have hl:fV T [125] (iw T k) k [] i1 o1= .ok v i' o':=by
  try simp only at h
  split at h
  ·rw[CJ] at h
   split at h
   ·cases h
   ·exact h
  ·exact h
 have:=JG cG (fun s i o v i' o' h=>aaJ h) hl
 simp only[cG] at this
 omega
theorem E9 {a b:Act} (h:kZ T a i o= .ok b i' o'):b=a∧wt T i+10≤wt T i':=by
 obtain⟨_,i1,o1,e1,h⟩:=bW (show bnd (bU T [59]) (fun _=>ret a) i o=_ from h)
 obtain⟨q1,q2⟩:=jg h
 have:=lC e1
 exact⟨q1,by rw[q2];exact this⟩
theorem agV {a:Act} (h:AA T k i o= .ok a i' o'):cA a+wt T i≤wt T i':=by
 have h:=(congrFun (congrFun (congrFun (congrFun (I9 k) 0) T) i) o).symm.trans h
 try simp only at h
 by_cases h1:(bC T i oC||bC T i gI)=true
 ·rw[if_pos h1] at h
  have hi:i<T.length:=by
   rw[Bool.or_eq_true] at h1
   rcases h1 with h1 |h1<;>exact is_lt h1
  obtain⟨t,i1,o1,e1,h⟩:=bW h
  obtain⟨c,i2,o2,e2,h⟩:=bW h
  obtain⟨l,i3,o3,e3,h⟩:=bW h
  obtain⟨q1,q2⟩:=E9 h
  have hs:=gX hi
  have q3:i1=i+1:=by cases e1;rfl
  rw[q3] at e2
  have:=qO e2
  have:=aat e3
  rw[q1];simp only[cA,Pb,List.length_nil];omega
 rw[if_neg h1] at h
 by_cases h1:bC T i uI=true
 ·rw[if_pos h1] at h
  have hs:=gX (is_lt h1)
  obtain⟨e,i1,o1,e1,h⟩:=bW h
  obtain⟨l,i2,o2,e2,h⟩:=bW h
  obtain⟨q1,q2⟩:=E9 h
  have:=xk e1
  have:=aat e2
  rw[q1];simp only[cA,List.length_nil];omega
 rw[if_neg h1] at h
 by_cases h1:bC T i uX=true
 ·rw[if_pos h1] at h
  have hs:=gX (is_lt h1)
  obtain⟨e,i1,o1,e1,h⟩:=bW h
  obtain⟨q1,q2⟩:=E9 h
  have:=xk e1
  rw[q1];simp only[cA,cG,List.length_nil];omega
 rw[if_neg h1] at h
 by_cases h1:bC T i yL=true
 ·rw[if_pos h1] at h
  have hs:=gX (is_lt h1)
  obtain⟨e,i1,o1,e1,h⟩:=bW h
  obtain⟨q1,q2⟩:=E9 h
  have:=Dw e1
  rw[q1];simp only[cA,cG,Pb,List.length_nil];omega
 rw[if_neg h1] at h
 by_cases h1:bC T i zq=true
 ·rw[if_pos h1] at h
  have hs:=gX (is_lt h1)
  obtain⟨e,i1,o1,e1,h⟩:=bW h
  obtain⟨q1,q2⟩:=E9 h
  have:=xk e1
  rw[q1];simp only[cA,cG,List.length_nil];omega
 rw[if_neg h1] at h
 obtain⟨_,i1,o1,e1,h⟩:=bW h
 obtain⟨q1,q2⟩:=E9 h
 have:=lC e1
 rw[q1];simp only[cA,cG,Pb,List.length_nil];omega
theorem ahd {n:Int} (h:Jl T i o= .ok n i' o'):wt T i≤wt T i':=xS (Ux.mono 0 _ _ _ _ _ _ h)
theorem Ee:∀(k:Nat) (r:Ay) {i:Nat} {o:Int} {v:Ay} {i':Nat} {o':Int},jw T k r i o= .ok v i' o'→cR v+wt T i≤wt T i'+cR r
 |0,_,_,_,_,_,_,h=>by cases h
 |k+1,r,i,o,v,i',o',h=>by
  have h:(if bC T i Ko=true then .ok r (i+1) o
   else if bC T i Zm=true then bnd (Jl T) (fun n=>jw T k {r with sal:=n}) (i+1) o
   else if bC T i FD=true then bnd (iE T) (fun t=>jw T k {r with group:=t}) (i+1) o
   else if bC T i Nb=true then bnd (iE T) (fun t=>jw T k {r with flow:=t}) (i+1) o
   else if bC T i zN=true then jw T k {r with noloop:=true} (i+1) o
   else bnd (bU T Wy) (fun _=>jw T k {r with lock:=true}) i o)= .ok v i' o':=h
  have st:∀{s:Str},bC T i s=true→wt T i≤wt T (i+1):=fun hc=>xS (Nat.le_succ i)
  split at h
  ·cases h;have:=@xS T i (i+1) (Nat.le_succ i);omega
  split at h
  ·have:=@xS T i (i+1) (Nat.le_succ i)
   obtain⟨n,i1,o1,e1,h⟩:=bW h
   have:=ahd e1
   have:=Ee k _ h
   simp only[cR] at this ⊢
   omega
  split at h
  ·have:=@xS T i (i+1) (Nat.le_succ i)
   obtain⟨n,i1,o1,e1,h⟩:=bW h
   have:=Dw e1
   have:=Ee k _ h
   simp only[cR] at this ⊢
   omega
  split at h
  ·have:=@xS T i (i+1) (Nat.le_succ i)
   obtain⟨n,i1,o1,e1,h⟩:=bW h
   have:=Dw e1
   have:=Ee k _ h
   simp only[cR] at this ⊢
   omega
  split at h
  ·have:=@xS T i (i+1) (Nat.le_succ i)
   have:=Ee k _ h
   simp only[cR] at this ⊢
   omega
  ·obtain⟨n,i1,o1,e1,h⟩:=bW h
   have:=lC e1
   have:=Ee k _ h
   simp only[cR] at this ⊢
   omega
theorem abY (k0:Nat):∀(k:Nat) (acc:List Act) {i:Nat} {o:Int} {v:List Act} {i':Nat} {o':Int},pY T k0 k acc i o= .ok v i' o'→Oo v+wt T i≤wt T i'+Oo acc
 |0,_,_,_,_,_,_,h=>by cases h
 |k+1,acc,i,o,v,i',o',h=>by
  have h:(if bC T i wG=true then .ok acc (i+1) o else bnd (AA T k0) (fun a=>pY T k0 k (acc++[a])) i o)= .ok v i' o':=h
  split at h
  ·cases h;have:=@xS T i (i+1) (Nat.le_succ i);omega
  ·obtain⟨a,i1,o1,e1,h⟩:=bW h
   have:=agV e1
   have:=abY k0 k _ h
   rw[X0] at this;simp only[Oo] at this;omega
theorem aeQ {r:Ay} (h:wD T k i o= .ok r i' o'):cR r+wt T i≤wt T i':=by
 obtain⟨nm,i1,o1,e1,h⟩:=bW (show bnd (iE T) (fun nm=>bnd (jw T k ⟨nm,0,[],[],false,false,[],[]⟩) fun r=>bnd (iI T k [yM] []) fun w=>bnd (bU T yM) fun _=>bnd (pY T k k []) fun t=>ret ({r with whn:=w,thn:=t}:Ay)) i o=_ from h)
 obtain⟨rr,i2,o2,e2,h⟩:=bW h
 obtain⟨w,i3,o3,e3,h⟩:=bW h
 obtain⟨_,i4,o4,e4,h⟩:=bW h
 obtain⟨t,i5,o5,e5,h⟩:=bW h
 obtain⟨q1,q2⟩:=jg h
 have:=Dw e1
 have h2:=Ee k _ e2
 have:=(wtc T k).conds _ _ _ _ _ _ _ e3
 have:=lC e4
 have:=abY k k _ e5
 rw[q1,q2];simp only[cR,vF,Oo,List.length_nil] at *;omega
theorem ZJ {s v:List Str} (h:pR T s i o= .ok v i' o'):cT v+wt T i≤wt T i'+cT s:=by
 obtain⟨t,i1,o1,e1,h⟩:=bW (show bnd (mD T) (fun v=>ret (s++[v])) i o=_ from h)
 obtain⟨q1,q2⟩:=jg h
 have:=Jo e1
 rw[q1,q2,abZ];simp only[cT];omega
theorem ac2 {q:Ju} (h:oK T k i o= .ok q i' o'):cQ q+wt T i≤wt T i':=by
 obtain⟨nm,i1,o1,e1,h⟩:=bW (show bnd (fD T) (fun nm=>bnd (dJ T [40]) fun _=>bnd (fV T [41] (pR T) k []) fun ps=>bnd (iI T k [wG] []) fun w=>bnd (bU T wG) fun _=>ret (⟨nm,ps,w⟩:Ju)) i o=_ from h)
 obtain⟨_,i2,o2,e2,h⟩:=bW h
 obtain⟨ps,i3,o3,e3,h⟩:=bW h
 obtain⟨w,i4,o4,e4,h⟩:=bW h
 obtain⟨_,i5,o5,e5,h⟩:=bW h
 obtain⟨q1,q2⟩:=jg h
 have:=qO e1
 have:=lU e2
 have h3:=JG cT (fun s i o v i' o' h=>ZJ h) e3
 have h4:=(wtc T k).conds _ _ _ _ _ _ _ e4
 have:=lC e5
 simp only[cT,vF] at h3 h4
 rw[q1,q2];simp only[cQ];omega
theorem ac8 {f:BR} (h:oJ T i o= .ok f i' o'):f.name.length+f.cls.length+1+wt T i≤wt T i':=by
 obtain⟨nm,i1,o1,e1,h⟩:=bW (show bnd (fD T) (fun nm=>bnd (bU T [58]) fun _=>vC nm T) i o=_ from h)
 obtain⟨_,i2,o2,e2,h⟩:=bW h
 have:=qO e1
 have:=lC e2
 have:=@xS T i2 (i2+1) (Nat.le_succ i2)
 unfold vC at h
 split at h
 ·cases h;simp only[List.length_nil];omega
 split at h
 ·cases h;simp only[List.length_nil];omega
 split at h
 ·cases h;simp only[List.length_nil];omega
 split at h
 ·cases h;simp only[List.length_nil];omega
 split at h
 ·cases h;simp only[List.length_nil];omega
 ·obtain⟨_,i3,o3,e3,h⟩:=bW h
  obtain⟨c,i4,o4,e4,h⟩:=bW h
  obtain⟨q1,q2⟩:=jg h
  have:=lC e3
  have:=qO e4
  rw[q1,q2];simp only;omega
theorem SV:∀(k:Nat) (first:Bool) (acc:List BR) {i:Nat} {o:Int} {v:List BR} {i':Nat} {o':Int},gF T k first acc i o= .ok v i' o'→cF v+wt T i≤wt T i'+cF acc
 |0,_,_,_,_,_,_,_,h=>by cases h
 |k+1,first,acc,i,o,v,i',o',h=>by
  have hb:∀{j:Nat} {o:Int},bnd (oJ T) (fun f=>gF T k false (acc++[f])) j o= .ok v i' o'→cF v+wt T j≤wt T i'+cF acc:=by
   intro j o h
   obtain⟨f,i1,o1,e1,h⟩:=bW h
   have:=ac8 e1
   have:=SV k false _ h
   rw[Z4] at this;simp only[cF] at this;omega
  have h:(if first=true then(if bC T i [125]=true then .ok acc i o else bnd (oJ T) (fun f=>gF T k false (acc++[f])) i o)
   else if bC T i [44]=true then bnd (oJ T) (fun f=>gF T k false (acc++[f])) (i+1) o
   else if nY T i=true then bnd (oJ T) (fun f=>gF T k false (acc++[f])) i o
   else .ok acc i o)= .ok v i' o':=h
  split at h
  ·split at h
   ·cases h;omega
   ·exact hb h
  ·split at h
   ·have:=hb h
    have:=@xS T i (i+1) (Nat.le_succ i)
    omega
   ·split at h
    ·exact hb h
    ·cases h;omega
theorem acY {c:Cls} (h:qM T k i o= .ok c i' o'):cK c+wt T i≤wt T i':=by
 obtain⟨nm,i1,o1,e1,h⟩:=bW (show bnd (fD T) (fun nm=>bnd (JI T) fun su=>bnd (dJ T [123]) fun _=>bnd (gF T k true []) fun fs=>bnd (bX T [125]) fun _=>ret (⟨nm,su,fs⟩:Cls)) i o=_ from h)
 obtain⟨su,i2,o2,e2,h⟩:=bW h
 obtain⟨_,i3,o3,e3,h⟩:=bW h
 obtain⟨fs,i4,o4,e4,h⟩:=bW h
 obtain⟨_,i5,o5,e5,h⟩:=bW h
 obtain⟨q1,q2⟩:=jg h
 have:=qO e1
 have h2:su.length+wt T i1≤wt T i2:=by
  obtain⟨b,j,oo,f1,f2⟩:=bW (show bnd (fq T Sn) (fun b=>if b=true then fD T else ret []) i1 o1=_ from e2)
  have:=Vz f1
  split at f2
  ·have:=qO f2;omega
  ·obtain⟨q3,q4⟩:=jg f2
   rw[q3,q4];simpa using this
 have:=lU e3
 have h4:=SV k true _ e4
 have:=mW e5
 simp only[cF] at h4
 rw[q1,q2];simp only[cK];omega
theorem Pd (k0:Nat):∀(k:Nat) (b:wz) {i:Nat} {o:Int} {v:wz} {i':Nat} {o':Int},fO T k0 k b i o= .ok v i' o'→Bg v+wt T i≤wt T i'+Bg b
 |0,_,_,_,_,_,_,h=>by cases h
 |k+1,b,i,o,v,i',o',h=>by
  have h:(if i<T.length then
   (if bC T i qd=true then bnd (qM T k0) (fun c=>fO T k0 k {b with classes:=b.classes++[c]}) (i+1) o
   else if bC T i wm=true then bnd (wD T k0) (fun r=>fO T k0 k {b with rules:=b.rules++[r]}) (i+1) o
   else bnd (bU T xP) (fun _=>bnd (oK T k0) fun q=>fO T k0 k {b with queries:=b.queries++[q]}) i o)
  else .ok b i o)= .ok v i' o':=h
  split at h
  ·split at h
   ·have:=@xS T i (i+1) (Nat.le_succ i)
    obtain⟨c,i1,o1,e1,h⟩:=bW h
    have:=acY e1
    have:=Pd k0 k _ h
    simp only[Bg,XE,SX] at this ⊢
    omega
   ·split at h
    ·have:=@xS T i (i+1) (Nat.le_succ i)
     obtain⟨c,i1,o1,e1,h⟩:=bW h
     have:=aeQ e1
     have:=Pd k0 k _ h
     simp only[Bg,Ww,SY] at this ⊢
     omega
    ·obtain⟨_,i1,o1,e1,h⟩:=bW h
     obtain⟨c,i2,o2,e2,h⟩:=bW h
     have:=lC e1
     have:=ac2 e2
     have:=Pd k0 k _ h
     simp only[Bg,Xz,S9] at this ⊢
     omega
  ·cases h;omega
end
mutual
theorem RW.ext {h h':aj} (e:Ext h h'):∀{a:List AV} {v:Val},RW h a v→RW h' a v
 |a, .mk k b n t l,H=>by
  simp only[RW] at H ⊢
  obtain⟨lv,es,h1,h2,h3⟩:=H
  exact⟨lv,es,h1,h2.ext e,PV.ext e h3⟩
theorem PV.ext {h h':aj} (e:Ext h h'):∀{a:List (List AV)} {l:List Val},PV h a l→PV h' a l
 |a,[],H=>by simp only[PV] at H ⊢;exact H
 |a,v :: l,H=>by
  simp only[PV] at H ⊢
  obtain⟨c,r,h1,h2,h3⟩:=H
  exact⟨c,r,h1,RW.ext e h2,PV.ext e h3⟩
end
mutual
theorem RE.ext {h h':aj} (e:Ext h h'):∀{a:List AV} {v:Ex},RE h a v→RE h' a v
 |a, .mk op t v l,H=>by
  simp only[RE] at H ⊢
  obtain⟨cv,va,es,h1,h2,h3,h4⟩:=H
  exact⟨cv,va,es,h1,h2.ext e,h3.ext e,qw.ext e h4⟩
theorem qw.ext {h h':aj} (e:Ext h h'):∀{a:List (List AV)} {l:List Ex},qw h a l→qw h' a l
 |a,[],H=>by simp only[qw] at H ⊢;exact H
 |a,v :: l,H=>by
  simp only[qw] at H ⊢
  obtain⟨c,r,h1,h2,h3⟩:=H
  exact⟨c,r,h1,RE.ext e h2,qw.ext e h3⟩
end
theorem PV.get {h:aj}:∀{es:List (List AV)} {l:List Val},PV h es l→es.length=l.length∧∀(j:Nat) (b:Val),l[j]? =some b→∃c,es[j]? =some c∧RW h c b
 |es,[],R=>by simp only[PV] at R;subst R;exact⟨rfl,fun j b e=>by simp at e⟩
 |es,v :: l,R=>by
  simp only[PV] at R
  obtain⟨c,r,rfl,R1,R2⟩:=R
  obtain⟨h1,h2⟩:=PV.get R2
  refine⟨by simp[h1],fun j b e=> ?_⟩
  cases j with
  |zero=>simp only[List.getElem?_cons_zero,Option.some.injEq] at e ⊢;subst e;exact⟨c,rfl,R1⟩
  |succ j=>simp only[List.getElem?_cons_succ] at e ⊢;exact h2 j b e
theorem qw.get {h:aj}:∀{es:List (List AV)} {l:List Ex},qw h es l→es.length=l.length∧∀(j:Nat) (b:Ex),l[j]? =some b→∃c,es[j]? =some c∧RE h c b
 |es,[],R=>by simp only[qw] at R;subst R;exact⟨rfl,fun j b e=>by simp at e⟩
 |es,v :: l,R=>by
  simp only[qw] at R
  obtain⟨c,r,rfl,R1,R2⟩:=R
  obtain⟨h1,h2⟩:=qw.get R2
  refine⟨by simp[h1],fun j b e=> ?_⟩
  cases j with
  |zero=>simp only[List.getElem?_cons_zero,Option.some.injEq] at e ⊢;subst e;exact⟨c,rfl,R1⟩
  |succ j=>simp only[List.getElem?_cons_succ] at e ⊢;exact h2 j b e
theorem _root_.Go.Ab.Cx.start {h:aj} (o:h.Ok) {F:List (aj→Prop)} (f:∀R∈F,∀h',Ext h h'→R h'):Cx h [] [] (Ext h :: F):=
 have ex:∀h',Kp (· ∈places [] []) h h'→Ext h h':=fun h' k=>⟨k.1,fun id ob e=>k.2 id ob (fun m=>nomatch m) e⟩
 ⟨o,fun _ m=>(nomatch m),fun _ m=>(nomatch m),List.nodup_nil,fun R m=>(List.mem_cons.1 m).elim (fun e h' k=>by subst e;exact ex h' k) fun m h' k=>f R m h' (ex h' k)⟩
theorem _root_.Go.Ab.Cx.start2 {h:aj} (o:h.Ok) {R1 R2:aj→Prop} (f1:∀h',Ext h h'→R1 h') (f2:∀h',Ext h h'→R2 h'):Cx h [] [] [Ext h,R1,R2]:=
 Cx.start o fun R m=>by
  rcases List.mem_cons.1 m with rfl |m
  ·exact f1
  rcases List.mem_cons.1 m with rfl |m
  ·exact f2
  ·cases m
theorem uP {h:aj} {v:AV} {n:Nat} {es:List (List AV)} {J:IntKind} {i:Nat} {e:List AV} {k:AV→Bool} (V:View h n v es) (hi:es[i]? =some e) (hl:e.length=n) (s:k (.agg e)=true):(eX h n v (.int J (i:Int)) fun p=>bO h n p k)=true:=
 pO V hi fun id g j ld=>rC (by
  rw[ld]
  simp only[ng,cond_true]
  rw[aI.2 (by omega),cond_true,List.drop_zero,List.take_of_length_le (by omega)]) s
theorem MS {h:aj} {v a:AV} {n:Nat} {es:List (List AV)} {J:IntKind} {i:Nat} {e:List AV} {k:AV→Bool} (V:View h n v es) (hi:es[i]? =some e) (ha:e[0]? =some a) (s:k a=true):(eX h n v (.int J (i:Int)) fun p=>av h p k)=true:=
 pO V hi fun id g j ld=>aS (by
  rw[ld]
  simp only[ng,cond_false,nW]
  exact ha) s
theorem abP (h:aj) (b:Bool):Ey h false .bool (.bool b) (.bool b)=some (.bool true):=by cases b<;>rfl
theorem UM (v:Val):0<cV v:=by cases v;unfold cV;omega
theorem TT (v:Ex):0<cE v:=by cases v;unfold cE;omega
theorem WM:∀{l:List Val} {j:Nat} {b:Val},l[j]? =some b→cV b≤TY l
 | [],j,b,e=>by simp at e
 |v :: l,0,b,e=>by simp only[List.getElem?_cons_zero,Option.some.injEq] at e;subst e;unfold TY;omega
 |v :: l,j+1,b,e=>by simp only[List.getElem?_cons_succ] at e;have:=WM e;unfold TY;omega
theorem WX:∀(l:List Val),l.length≤TY l
 | []=>Nat.le_refl _
 |v :: l=>by have:=WX l;have:=UM v;unfold TY;simp only[List.length_cons];omega
theorem WR:∀{l:List Ex} {j:Nat} {b:Ex},l[j]? =some b→cE b≤wR l
 | [],j,b,e=>by simp at e
 |v :: l,0,b,e=>by simp only[List.getElem?_cons_zero,Option.some.injEq] at e;subst e;unfold wR;omega
 |v :: l,j+1,b,e=>by simp only[List.getElem?_cons_succ] at e;have:=WR e;unfold wR;omega
theorem Xq:∀(l:List Ex),l.length≤wR l
 | []=>Nat.le_refl _
 |v :: l=>by have:=Xq l;have:=TT v;unfold wR;simp only[List.length_cons];omega
def big:Nat:=1000000000
section
variable {k:AV→Bool}
theorem RF {J:IntKind} {x:Int} (s:k (.bool true)=true):eO (.int J x) (.int J x) k=true:=uy (by rw[decide_eq_true rfl];exact s)
theorem CS {J:IntKind} {x:Int} (s:k (.bool false)=true):jM (.int J x) (.int J x) k=true:=eF (by rw[decide_eq_true rfl];exact s)
theorem aeb {x:Str} (s:k (.bool true)=true):eO (.str x) (.str x) k=true:=Cq (by rw[decide_eq_true rfl];exact s)
theorem AQ {x:Str} (s:k (.bool false)=true):jM (.str x) (.str x) k=true:=agT (by rw[decide_eq_true rfl];exact s)
theorem ahf {h:aj} {b:Bool} (s:k (.bool true)=true):bQ (Ey h false .bool (.bool b) (.bool b)) k=true:=qN (abP h b) s
theorem YB (h:aj) (b:Bool):Ey h true .bool (.bool b) (.bool b)=some (.bool false):=by cases b<;>rfl
theorem ahi {h:aj} {b:Bool} (s:k (.bool false)=true):bQ (Ey h true .bool (.bool b) (.bool b)) k=true:=qN (YB h b) s
end
section
variable {n:Nat}
theorem rnd {v:AV} {h:aj} {i:Nat} {R:Bool} {S:AV→Bool} (hi:i<big) (s:S (.int .i64 ((i+1:Nat):Int))=true):(mO (.bool true) fun v11=>aL v11 R (gW (.int .i64 (i:Int)) (.int .i64 1) S))=true:=
 bJ (bg (nP (by have:lim=4611686018427387904:=rfl;have:big=1000000000:=rfl;omega) s))
end
def QV (N:Nat):Prop:=∀(n:Nat) (h:aj) (v:Val) (c c':List AV) (K:aM),cV v≤N→cV v≤big→3*cV v+6≤n→h.Ok→RW h c v→RW h c' v→(∀h',Ext h h'→h'.Ok→K (.bool true) h'=true)→au E n (.func 48) [.agg c, .agg c'] h K=true
theorem q69 {N:Nat} (Q:QV N) {n:Nat} {h:aj} {l:List Val} {va vb:AV} {es es':List (List AV)} {K:aM} (hN:TY l≤N) (hB:TY l≤big) (hn:3*TY l+8≤n) (ho:h.Ok) (V:View h 5 va es) (R:PV h es l) (V':View h 5 vb es') (R':PV h es' l)
 (k:∀h',Ext h h'→h'.Ok→K (.bool true) h'=true):au E n (.func 69) [va,vb] h K=true:=by
 obtain⟨n,rfl⟩:∃m,n=m+1:=⟨n-1,by omega⟩
 have hlen:=WX l
 obtain⟨g1,g2⟩:=R.get
 obtain⟨g1',g2'⟩:=R'.get
 apply d69
 unfold s69
 refine fM V (fM V' (eF ?_))
 rw[g1,g1',decide_eq_true rfl]
 refine bg ?_
 unfold Uw
 have lp:∀(m i:Nat) (h':aj),i≤l.length→l.length-i<m→Ext h h'→h'.Ok→Iu (au E n) n m va vb (.int .i64 (i:Int)) h' K=true:=by
  intro m
  induction m with
  |zero=>intro i h' _ hm;omega
  |succ m ih=>
   intro i h' hi hm e o
   rw[abK]
   unfold Pf
   refine fM (V.ext e) (jI ?_)
   rw[g1]
   by_cases hlt:i<l.length
   ·rw[decide_eq_true hlt]
    have hb:l[i]? =some l[i]:=List.getElem?_eq_getElem hlt
    generalize l[i]=b at hb
    obtain⟨c,hc,Rc⟩:=g2 i b hb
    obtain⟨c',hc',Rc'⟩:=g2' i b hb
    have hw:=WM hb
    refine bL (uP (V.ext e) hc Rc.cells.1 (uP (V'.ext e) hc' Rc'.cells.1 ?_))
    refine Q _ _ _ _ _ _ (by omega) (by omega) (by omega) o (Rc.ext e) (Rc'.ext e) fun h'' e' o'=> ?_
    refine aG rfl (rnd (v:=va) (h:=h) (by omega) ?_)
    exact ih (i+1) h'' (by omega) (by omega) (e.trans e') o'
   ·rw[decide_eq_false hlt]
    exact bg (k h' e o)
 exact lp n 0 h (Nat.zero_le _) (by omega) (Ext.refl _) ho
theorem qv:∀N,QV N
 |0=>fun n h v c c' K hv _ _ _ _ _ _=>by have:=UM v;omega
 |N+1=>fun n h0 v c c' K hv hB hn ho R R' k=>by
  have Q:=qv N
  obtain⟨n,rfl⟩:∃m,n=m+1:=⟨n-1,by omega⟩
  obtain⟨kd,b,x,t,l⟩:=v
  have A:=Cx.start2 ho (R1:=fun h=>RW h c (.mk kd b x t l)) (R2:=fun h=>RW h c' (.mk kd b x t l)) (fun h' e=>R.ext e) (fun h' e=>R'.ext e)
  have hc:cV (.mk kd b x t l)=t.length+TY l+1:=by simp only[cV]
  simp only[RW] at R R'
  obtain⟨lv,es,rfl,V,Rl⟩:=R
  obtain⟨lv',es',rfl,V',Rl'⟩:=R'
  apply d48
  unfold s48
  refine Aw A rfl rfl (by simp only[aD,V.leaf];rfl) fun a h A=> ?_
  refine Ou A rfl rfl (by simp only[aD,V'.leaf];rfl) fun a' h A=> ?_
  repeat first |refine RF ?_ |refine aeb ?_ |refine ahf ?_ |(with_reducible first |refine aA ?_ |refine aW ?_ |refine eu ?_ |refine dF ?_ |refine aB A.var rfl ?_ |refine aB A.v1 rfl ?_)
  have e0:Ext h0 h:=A.f0
  refine q69 Q (by omega) (by omega) (by omega) A.ok (V.ext e0) (Rl.ext e0) (V'.ext e0) (Rl'.ext e0) fun h' e' o'=> ?_
  refine aG rfl ?_
  unfold Jw
  exact dF (k h' (e0.trans e') o')
def QX (N:Nat):Prop:=∀(n:Nat) (h:aj) (v:Ex) (c c':List AV) (K:aM),cE v≤N→cE v≤big→3*cE v+6≤n→h.Ok→RE h c v→RE h c' v→(∀h',Ext h h'→h'.Ok→K (.bool true) h'=true)→au E n (.func 26) [.agg c, .agg c'] h K=true
theorem q46 {N:Nat} (Q:QX N) {n:Nat} {h:aj} {l:List Ex} {va vb:AV} {es es':List (List AV)} {K:aM} (hN:wR l≤N) (hB:wR l≤big) (hn:3*wR l+8≤n) (ho:h.Ok) (V:View h 8 va es) (R:qw h es l) (V':View h 8 vb es') (R':qw h es' l)
 (k:∀h',Ext h h'→h'.Ok→K (.bool true) h'=true):au E n (.func 46) [va,vb] h K=true:=by
 obtain⟨n,rfl⟩:∃m,n=m+1:=⟨n-1,by omega⟩
 have hlen:=Xq l
 obtain⟨g1,g2⟩:=R.get
 obtain⟨g1',g2'⟩:=R'.get
 apply d46
 unfold s46
 refine fM V (fM V' (eF ?_))
 rw[g1,g1',decide_eq_true rfl]
 refine bg ?_
 unfold Ud
 have lp:∀(m i:Nat) (h':aj),i≤l.length→l.length-i<m→Ext h h'→h'.Ok→Kq (au E n) n m va vb (.int .i64 (i:Int)) h' K=true:=by
  intro m
  induction m with
  |zero=>intro i h' _ hm;omega
  |succ m ih=>
   intro i h' hi hm e o
   rw[Z7]
   unfold Pq
   refine fM (V.ext e) (jI ?_)
   rw[g1]
   by_cases hlt:i<l.length
   ·rw[decide_eq_true hlt]
    have hb:l[i]? =some l[i]:=List.getElem?_eq_getElem hlt
    generalize l[i]=b at hb
    obtain⟨c,hc,Rc⟩:=g2 i b hb
    obtain⟨c',hc',Rc'⟩:=g2' i b hb
    have hw:=WR hb
    refine bL (uP (V.ext e) hc Rc.cells.1 (uP (V'.ext e) hc' Rc'.cells.1 ?_))
    refine Q _ _ _ _ _ _ (by omega) (by omega) (by omega) o (Rc.ext e) (Rc'.ext e) fun h'' e' o'=> ?_
    refine aG rfl (rnd (v:=va) (h:=h) (by omega) ?_)
    exact ih (i+1) h'' (by omega) (by omega) (e.trans e') o'
   ·rw[decide_eq_false hlt]
    exact bg (k h' e o)
 exact lp n 0 h (Nat.zero_le _) (by omega) (Ext.refl _) ho
theorem abq {h:aj} {a:Nat} {x y z:AV} {cv:List AV} {k:AV→Bool} (V:Var h a (x :: y :: (cv++[z]))) (hl:cv.length=5) (s:k (.agg cv)=true):bO h 5 (.ptr a 0 0 2) k=true:=by
 refine aJ V (aI.2 (by simp;omega)) ?_
 rw[show((x :: y :: (cv++[z])).drop 2).take 5=cv from by simp only[List.drop_succ_cons,List.drop_zero];rw[List.take_append_of_le_length (by omega),List.take_of_length_le (by omega)]]
 exact s
theorem aev {h:aj} {a:Nat} {x y z:AV} {cv:List AV} {k:AV→Bool} (V:Var h a (x :: y :: (cv++[z]))) (hl:cv.length=5) (s:k z=true):av h (.ptr a 0 0 7) k=true:=by
 refine aB V ?_ s
 simp only[List.getElem?_cons_succ]
 rw[List.getElem?_append_right (by omega),hl];rfl
theorem qx:∀N,QX N
 |0=>fun n h v c c' K hv _ _ _ _ _ _=>by have:=TT v;omega
 |N+1=>fun n h0 v c c' K hv hB hn ho R R' k=>by
  have Q:=qx N
  obtain⟨n,rfl⟩:∃m,n=m+1:=⟨n-1,by omega⟩
  obtain⟨op,t,v,l⟩:=v
  have A:=Cx.start2 ho (R1:=fun h=>RE h c (.mk op t v l)) (R2:=fun h=>RE h c' (.mk op t v l)) (fun h' e=>R.ext e) (fun h' e=>R'.ext e)
  have hc:cE (.mk op t v l)=t.length+cV v+wR l+1:=by simp only[cE]
  have hcv:=UM v
  have C1:=R.cells
  have C2:=R'.cells
  simp only[RE] at R R'
  obtain⟨cv,va,es,rfl,W,V,Rl⟩:=R
  obtain⟨cv',va',es',rfl,W',V',Rl'⟩:=R'
  apply d26
  unfold s26
  refine Aw A C1.1 rfl C1.2.1 fun a h A=> ?_
  refine Ou A C2.1 rfl C2.2.1 fun a' h A=> ?_
  have A:=A.swapL
  repeat first |refine RF ?_ |refine aeb ?_ |refine abq A.var W'.cells.1 ?_ |refine abq A.v1 W.cells.1 ?_ |(with_reducible first |refine aA ?_ |refine aW ?_ |refine eu ?_ |refine dF ?_ |refine aB A.var rfl ?_ |refine aB A.v1 rfl ?_)
  have e0:Ext h0 h:=A.f0
  refine qv _ _ _ _ _ _ _ (Nat.le_refl _) (by omega) (by omega) A.ok (W.ext e0) (W'.ext e0) fun h' e' o'=> ?_
  have A:=A.ext e' o'
  have e0:=e0.trans e'
  refine aG rfl ?_
  unfold KW
  refine aev A.v1 W.cells.1 ?_;refine aev A.var W'.cells.1 ?_;refine eu ?_
  refine q46 Q (by omega) (by omega) (by omega) A.ok (V.ext e0) (Rl.ext e0) (V'.ext e0) (Rl'.ext e0) fun h'' e'' o''=> ?_
  refine aG rfl ?_
  unfold JJ
  exact dF (k h'' (e0.trans e'') o'')
theorem c26 {n:Nat} {h:aj} {v:Ex} {c c':List AV} {K:aM} (hB:cE v≤big) (hn:3*cE v+6≤n) (ho:h.Ok) (R:RE h c v) (R':RE h c' v) (k:∀h',Ext h h'→h'.Ok→K (.bool true) h'=true):au E n (.func 26) [.agg c, .agg c'] h K=true:=
 qx _ _ _ _ _ _ _ (Nat.le_refl _) hB hn ho R R' k
theorem c46 {n:Nat} {h:aj} {l:List Ex} {va vb:AV} {es es':List (List AV)} {K:aM} (hB:wR l≤big) (hn:3*wR l+8≤n) (ho:h.Ok) (V:View h 8 va es) (R:qw h es l) (V':View h 8 vb es') (R':qw h es' l)
 (k:∀h',Ext h h'→h'.Ok→K (.bool true) h'=true):au E n (.func 46) [va,vb] h K=true:=q46 (qx _) (Nat.le_refl _) hB hn ho V R V' R' k
theorem rU.ext {h h':aj} (e:Ext h h'):∀{a:List (List AV)} {l:List (Str×Ex)},rU h a l→rU h' a l
 |a,[],H=>by simp only[rU] at H ⊢;exact H
 |a,v :: l,H=>by
  simp only[rU] at H ⊢
  obtain⟨c,r,h1,h2,h3⟩:=H
  exact⟨c,r,h1,h2.ext e,rU.ext e h3⟩
mutual
theorem RC.ext {h h':aj} (e:Ext h h'):∀{a:List AV} {v:Cd},RC h a v→RC h' a v
 |a, .mk kind var cls binds tests conds thn alts ex fn name args,H=>by
  simp only[RC] at H ⊢
  obtain⟨vb,vt,et,vc,ec,vn,en,va,ea,ce,vg,eg,h0,h1,h2,h3,h4,h5,h6,h7,h8,h9,h10,h11,h12⟩:=H
  exact⟨vb,vt,et,vc,ec,vn,en,va,ea,ce,vg,eg,h0,h1.ext e,h2.ext e,h3.ext e,h4.ext e,kW.ext e h5,h6.ext e,kW.ext e h7,h8.ext e,jy.ext e h9,h10.ext e,h11.ext e,h12.ext e⟩
theorem kW.ext {h h':aj} (e:Ext h h'):∀{a:List (List AV)} {l:List Cd},kW h a l→kW h' a l
 |a,[],H=>by simp only[kW] at H ⊢;exact H
 |a,v :: l,H=>by
  simp only[kW] at H ⊢
  obtain⟨c,r,h1,h2,h3⟩:=H
  exact⟨c,r,h1,RC.ext e h2,kW.ext e h3⟩
theorem jy.ext {h h':aj} (e:Ext h h'):∀{a:List (List AV)} {l:List (List Cd)},jy h a l→jy h' a l
 |a,[],H=>by simp only[jy] at H ⊢;exact H
 |a,v :: l,H=>by
  simp only[jy] at H ⊢
  obtain⟨c,ec,r,h1,h2,h3,h4⟩:=H
  exact⟨c,ec,r,h1,h2.ext e,kW.ext e h3,jy.ext e h4⟩
end
theorem rU.get {h:aj}:∀{es:List (List AV)} {l:List (Str×Ex)},rU h es l→es.length=l.length∧∀(j:Nat) (b:Str×Ex),l[j]? =some b→∃c,es[j]? =some (.str b.1 :: c)∧RE h c b.2
 |es,[],R=>by simp only[rU] at R;subst R;exact⟨rfl,fun j b e=>by simp at e⟩
 |es,v :: l,R=>by
  simp only[rU] at R
  obtain⟨c,r,rfl,R1,R2⟩:=R
  obtain⟨h1,h2⟩:=rU.get R2
  refine⟨by simp[h1],fun j b e=> ?_⟩
  cases j with
  |zero=>simp only[List.getElem?_cons_zero,Option.some.injEq] at e ⊢;subst e;exact⟨c,rfl,R1⟩
  |succ j=>simp only[List.getElem?_cons_succ] at e ⊢;exact h2 j b e
theorem kW.get {h:aj}:∀{es:List (List AV)} {l:List Cd},kW h es l→es.length=l.length∧∀(j:Nat) (b:Cd),l[j]? =some b→∃c,es[j]? =some c∧RC h c b
 |es,[],R=>by simp only[kW] at R;subst R;exact⟨rfl,fun j b e=>by simp at e⟩
 |es,v :: l,R=>by
  simp only[kW] at R
  obtain⟨c,r,rfl,R1,R2⟩:=R
  obtain⟨h1,h2⟩:=kW.get R2
  refine⟨by simp[h1],fun j b e=> ?_⟩
  cases j with
  |zero=>simp only[List.getElem?_cons_zero,Option.some.injEq] at e ⊢;subst e;exact⟨c,rfl,R1⟩
  |succ j=>simp only[List.getElem?_cons_succ] at e ⊢;exact h2 j b e
theorem jy.get {h:aj}:∀{es:List (List AV)} {l:List (List Cd)},jy h es l→es.length=l.length∧∀(j:Nat) (b:List Cd),l[j]? =some b→∃v ec,es[j]? =some [v]∧View h 19 v ec∧kW h ec b
 |es,[],R=>by simp only[jy] at R;subst R;exact⟨rfl,fun j b e=>by simp at e⟩
 |es,v :: l,R=>by
  simp only[jy] at R
  obtain⟨c,ec,r,rfl,R1,R2,R3⟩:=R
  obtain⟨h1,h2⟩:=jy.get R3
  refine⟨by simp[h1],fun j b e=> ?_⟩
  cases j with
  |zero=>simp only[List.getElem?_cons_zero,Option.some.injEq] at e ⊢;subst e;exact⟨c,ec,rfl,R1,R2⟩
  |succ j=>simp only[List.getElem?_cons_succ] at e ⊢;exact h2 j b e
theorem ZH (v:Cd):0<cC v:=by cases v;unfold cC;omega
theorem WH:∀{l:List Cd} {j:Nat} {b:Cd},l[j]? =some b→cC b≤vF l
 | [],j,b,e=>by simp at e
 |v :: l,0,b,e=>by simp only[List.getElem?_cons_zero,Option.some.injEq] at e;subst e;unfold vF;omega
 |v :: l,j+1,b,e=>by simp only[List.getElem?_cons_succ] at e;have:=WH e;unfold vF;omega
theorem Xn:∀(l:List Cd),l.length≤vF l
 | []=>Nat.le_refl _
 |v :: l=>by have:=Xn l;have:=ZH v;unfold vF;simp only[List.length_cons];omega
theorem Sr:∀{l:List (List Cd)} {j:Nat} {b:List Cd},l[j]? =some b→vF b+1≤qy l
 | [],j,b,e=>by simp at e
 |v :: l,0,b,e=>by simp only[List.getElem?_cons_zero,Option.some.injEq] at e;subst e;unfold qy;omega
 |v :: l,j+1,b,e=>by simp only[List.getElem?_cons_succ] at e;have:=Sr e;unfold qy;omega
theorem Ro:∀(l:List (List Cd)),l.length≤qy l
 | []=>Nat.le_refl _
 |v :: l=>by have:=Ro l;unfold qy;simp only[List.length_cons];omega
theorem U3:∀{l:List (Str×Ex)} {j:Nat} {b:Str×Ex},l[j]? =some b→cE b.2≤cG l
 | [],j,b,e=>by simp at e
 |v :: l,0,b,e=>by simp only[List.getElem?_cons_zero,Option.some.injEq] at e;subst e;unfold cG;omega
 |v :: l,j+1,b,e=>by simp only[List.getElem?_cons_succ] at e;have:=U3 e;unfold cG;omega
theorem Uq:∀(l:List (Str×Ex)),l.length≤cG l
 | []=>Nat.le_refl _
 |v :: l=>by have:=Uq l;unfold cG;simp only[List.length_cons];omega
theorem ab5:∀(l:List (Str×Str)),l.length≤cB l
 | []=>Nat.le_refl _
 |v :: l=>by have:=ab5 l;unfold cB;simp only[List.length_cons];omega
theorem afw (h:aj) (b:Str×Str):Ey h true (.agg [.str, .str]) (.agg (oP b)) (.agg (oP b))=some (.bool false):=by
 simp only[Ey,XU,VZ,oP,uq,rG,cond_true,oh,um,rR,decide_true,Bool.not_true]
theorem aeP (h:aj) (b:BR):Ey h true (.agg [.str, .int, .str]) (.agg (qB b)) (.agg (qB b))=some (.bool false):=by
 simp only[Ey,XU,VZ,qB,uq,rG,cond_true,oh,um,rR,rO,decide_true,Bool.not_true,Nat.beq_refl]
def QC (N:Nat):Prop:=∀(n:Nat) (h:aj) (v:Cd) (c c':List AV) (K:aM),cC v≤N→cC v≤big→3*cC v+6≤n→h.Ok→RC h c v→RC h c' v→(∀h',Ext h h'→h'.Ok→K (.bool true) h'=true)→au E n (.func 25) [.agg c, .agg c'] h K=true
theorem q15 {N:Nat} (Q:QC N) {n:Nat} {h:aj} {l:List Cd} {va vb:AV} {es es':List (List AV)} {K:aM} (hN:vF l≤N) (hB:vF l≤big) (hn:3*vF l+8≤n) (ho:h.Ok) (V:View h 19 va es) (R:kW h es l) (V':View h 19 vb es') (R':kW h es' l)
 (k:∀h',Ext h h'→h'.Ok→K (.bool true) h'=true):au E n (.func 15) [va,vb] h K=true:=by
 obtain⟨n,rfl⟩:∃m,n=m+1:=⟨n-1,by omega⟩
 have hlen:=Xn l
 obtain⟨g1,g2⟩:=R.get
 obtain⟨g1',g2'⟩:=R'.get
 apply d15
 unfold s15
 refine fM V (fM V' (eF ?_))
 rw[g1,g1',decide_eq_true rfl]
 refine bg ?_
 unfold UE
 have lp:∀(m i:Nat) (h':aj),i≤l.length→l.length-i<m→Ext h h'→h'.Ok→Kv (au E n) n m va vb (.int .i64 (i:Int)) h' K=true:=by
  intro m
  induction m with
  |zero=>intro i h' _ hm;omega
  |succ m ih=>
   intro i h' hi hm e o
   rw[aac]
   unfold Pz
   refine fM (V.ext e) (jI ?_)
   rw[g1]
   by_cases hlt:i<l.length
   ·rw[decide_eq_true hlt]
    have hb:l[i]? =some l[i]:=List.getElem?_eq_getElem hlt
    generalize l[i]=b at hb
    obtain⟨c,hc,Rc⟩:=g2 i b hb
    obtain⟨c',hc',Rc'⟩:=g2' i b hb
    have hw:=WH hb
    refine bL (uP (V.ext e) hc Rc.cells.1 (uP (V'.ext e) hc' Rc'.cells.1 ?_))
    refine Q _ _ _ _ _ _ (by omega) (by omega) (by omega) o (Rc.ext e) (Rc'.ext e) fun h'' e' o'=> ?_
    refine aG rfl (rnd (v:=va) (h:=h) (by omega) ?_)
    exact ih (i+1) h'' (by omega) (by omega) (e.trans e') o'
   ·rw[decide_eq_false hlt]
    exact bg (k h' e o)
 exact lp n 0 h (Nat.zero_le _) (by omega) (Ext.refl _) ho
theorem q47 {N:Nat} (Q:QC N) {n:Nat} {h:aj} {l:List (List Cd)} {va vb:AV} {es es':List (List AV)} {K:aM} (hN:qy l≤N) (hB:qy l≤big) (hn:3*qy l+9≤n) (ho:h.Ok) (V:View h 1 va es) (R:jy h es l) (V':View h 1 vb es') (R':jy h es' l)
 (k:∀h',Ext h h'→h'.Ok→K (.bool true) h'=true):au E n (.func 47) [va,vb] h K=true:=by
 obtain⟨n,rfl⟩:∃m,n=m+1:=⟨n-1,by omega⟩
 have hlen:=Ro l
 obtain⟨g1,g2⟩:=R.get
 obtain⟨g1',g2'⟩:=R'.get
 apply d47
 unfold s47
 refine fM V (fM V' (eF ?_))
 rw[g1,g1',decide_eq_true rfl]
 refine bg ?_
 unfold TK
 have lp:∀(m i:Nat) (h':aj),i≤l.length→l.length-i<m→Ext h h'→h'.Ok→Ir (au E n) n m va vb (.int .i64 (i:Int)) h' K=true:=by
  intro m
  induction m with
  |zero=>intro i h' _ hm;omega
  |succ m ih=>
   intro i h' hi hm e o
   rw[aaN]
   unfold OE
   refine fM (V.ext e) (jI ?_)
   rw[g1]
   by_cases hlt:i<l.length
   ·rw[decide_eq_true hlt]
    have hb:l[i]? =some l[i]:=List.getElem?_eq_getElem hlt
    generalize l[i]=b at hb
    obtain⟨v,ec,hc,Vc,Rc⟩:=g2 i b hb
    obtain⟨v',ec',hc',Vc',Rc'⟩:=g2' i b hb
    have hw:=Sr hb
    refine bL (MS (V.ext e) hc rfl (MS (V'.ext e) hc' rfl ?_))
    refine q15 Q (by omega) (by omega) (by omega) o (Vc.ext e) (Rc.ext e) (Vc'.ext e) (Rc'.ext e) fun h'' e' o'=> ?_
    refine aG rfl (rnd (v:=va) (h:=h) (by omega) ?_)
    exact ih (i+1) h'' (by omega) (by omega) (e.trans e') o'
   ·rw[decide_eq_false hlt]
    exact bg (k h' e o)
 exact lp n 0 h (Nat.zero_le _) (by omega) (Ext.refl _) ho
set_option maxRecDepth 100000 in
theorem qc:∀N,QC N
 |0=>fun n h v c c' K hv _ _ _ _ _ _=>by have:=ZH v;omega
 |N+1=>fun n h0 v c c' K hv hB hn ho R R' k=>by
  have Q:=qc N
  have hbig:big=1000000000:=rfl
  have hlim:lim=4611686018427387904:=rfl
  obtain⟨n,rfl⟩:∃m,n=m+1:=⟨n-1,by omega⟩
  obtain⟨kind,var,cls,binds,tests,conds,thn,alts,ex,fn,name,args⟩:=v
  have hc:cC (.mk kind var cls binds tests conds thn alts ex fn name args)=var.length+cls.length+cB binds+wR tests+vF conds+vF thn+qy alts+cE ex+fn.length+name.length+cG args+1:=by simp only[cC]
  have hce:=TT ex
  have hbl:=ab5 binds
  have hgl:=Uq args
  have C1:=R.cells
  have C2:=R'.cells
  simp only[RC] at R R'
  obtain⟨vb,vt,et,vc,ec,vn,en,va,ea,ce,vg,eg,rfl,Vb,Vt,Rt,Vc,Rc,Vn,Rn,Va,Ra,Re,Vg,Rg⟩:=R
  obtain⟨vb',vt',et',vc',ec',vn',en',va',ea',ce',vg',eg',rfl,Vb',Vt',Rt',Vc',Rc',Vn',Rn',Va',Ra',Re',Vg',Rg'⟩:=R'
  obtain⟨x0,x1,x2,x3,x4,x5,x6,x7,rfl⟩:=len8 Re.cells.1
  obtain⟨y0,y1,y2,y3,y4,y5,y6,y7,rfl⟩:=len8 Re'.cells.1
  simp only[List.cons_append,List.nil_append] at C1 C2 ⊢
  have A:=Cx.start ho (F:=[]) (fun R m=>nomatch m)
  obtain⟨gg1,gg2⟩:=Rg.get
  obtain⟨gg1',gg2'⟩:=Rg'.get
  apply d25
  unfold s25
  refine Aw A C1.1 rfl C1.2.1 fun a h A=> ?_
  refine Ou A C2.1 rfl C2.2.1 fun a' h A=> ?_
  have A:=A.swapL
  have e0:Ext h0 h:=A.f0
  repeat first |refine CS ?_ |refine AQ ?_ |refine fM (Vb.ext e0) ?_ |refine fM (Vb'.ext e0) ?_ |(with_reducible first |refine aA ?_ |refine aR ?_ |refine bJ ?_ |refine dx ?_ |refine bL ?_ |refine bg ?_ |refine aW ?_ |refine bP ?_ |refine eu ?_ |refine dL ?_ |refine dF ?_ |refine dM ?_ |refine dI ?_ |refine eF ?_ |refine aB A.var rfl ?_ |refine aB A.v1 rfl ?_ |refine aB A.v2 rfl ?_ |refine aB A.v3 rfl ?_ |refine aJ A.var rfl ?_ |refine aJ A.v1 rfl ?_ |refine aJ A.v2 rfl ?_ |refine aJ A.v3 rfl ?_)
  repeat first |refine CS ?_ |refine AQ ?_ |refine fM (Vg.ext e0) ?_ |refine fM (Vg'.ext e0) ?_ |(with_reducible first |refine aA ?_ |refine aR ?_ |refine bJ ?_ |refine dx ?_ |refine bL ?_ |refine bg ?_ |refine aW ?_ |refine bP ?_ |refine eu ?_ |refine dL ?_ |refine dF ?_ |refine dM ?_ |refine dI ?_ |refine eF ?_ |refine aB A.var rfl ?_ |refine aB A.v1 rfl ?_ |refine aB A.v2 rfl ?_ |refine aB A.v3 rfl ?_ |refine aJ A.var rfl ?_ |refine aJ A.v1 rfl ?_ |refine aJ A.v2 rfl ?_ |refine aJ A.v3 rfl ?_)
  rw[gg1,gg1',decide_eq_true rfl]
  repeat first |(with_reducible first |refine aA ?_ |refine aR ?_ |refine bJ ?_ |refine dx ?_ |refine bL ?_ |refine bg ?_ |refine aW ?_ |refine bP ?_ |refine eu ?_ |refine dL ?_ |refine dF ?_ |refine dM ?_ |refine dI ?_ |refine eF ?_ |refine aB A.var rfl ?_ |refine aB A.v1 rfl ?_ |refine aB A.v2 rfl ?_ |refine aB A.v3 rfl ?_ |refine aJ A.var rfl ?_ |refine aJ A.v1 rfl ?_ |refine aJ A.v2 rfl ?_ |refine aJ A.v3 rfl ?_)
  unfold TD
  have l1:∀(m i:Nat),i≤binds.length→binds.length-i<m→(O7 (au E n) n (.ptr a 0 0 0) (.ptr a' 0 0 0) h K=true)→IJ (au E n) n m (.ptr a 0 0 0) (.ptr a' 0 0 0) (.int .i64 (i:Int)) h K=true:=by
   intro m
   induction m with
   |zero=>intro i _ hm;omega
   |succ m ih=>
    intro i hi hm kk
    rw[abh]
    unfold Pm
    repeat first |refine fM (Vb.ext e0) ?_ |refine jI ?_ |(with_reducible first |refine aA ?_ |refine aR ?_ |refine bJ ?_ |refine dx ?_ |refine bL ?_ |refine bg ?_ |refine aW ?_ |refine bP ?_ |refine eu ?_ |refine dL ?_ |refine dF ?_ |refine dM ?_ |refine dI ?_ |refine eF ?_ |refine aB A.var rfl ?_ |refine aB A.v1 rfl ?_ |refine aB A.v2 rfl ?_ |refine aB A.v3 rfl ?_ |refine aJ A.var rfl ?_ |refine aJ A.v1 rfl ?_ |refine aJ A.v2 rfl ?_ |refine aJ A.v3 rfl ?_)
    rw[List.length_map]
    by_cases hlt:i<binds.length
    ·rw[decide_eq_true hlt]
     have hb:binds[i]? =some binds[i]:=List.getElem?_eq_getElem hlt
     generalize binds[i]=b at hb
     have hb':(binds.map oP)[i]? =some (oP b):=by rw[List.getElem?_map,hb];rfl
     repeat first |refine uP (Vb.ext e0) hb' rfl ?_ |(with_reducible first |refine aA ?_ |refine aR ?_ |refine bJ ?_ |refine dx ?_ |refine bL ?_ |refine bg ?_ |refine aW ?_ |refine bP ?_ |refine eu ?_ |refine dL ?_ |refine dF ?_ |refine dM ?_ |refine dI ?_ |refine eF ?_ |refine aB A.var rfl ?_ |refine aB A.v1 rfl ?_ |refine aB A.v2 rfl ?_ |refine aB A.v3 rfl ?_ |refine aJ A.var rfl ?_ |refine aJ A.v1 rfl ?_ |refine aJ A.v2 rfl ?_ |refine aJ A.v3 rfl ?_)
     repeat first |refine uP (Vb'.ext e0) hb' rfl ?_ |refine qN (afw _ _) ?_ |(with_reducible first |refine aA ?_ |refine aR ?_ |refine bJ ?_ |refine dx ?_ |refine bL ?_ |refine bg ?_ |refine aW ?_ |refine bP ?_ |refine eu ?_ |refine dL ?_ |refine dF ?_ |refine dM ?_ |refine dI ?_ |refine eF ?_ |refine aB A.var rfl ?_ |refine aB A.v1 rfl ?_ |refine aB A.v2 rfl ?_ |refine aB A.v3 rfl ?_ |refine aJ A.var rfl ?_ |refine aJ A.v1 rfl ?_ |refine aJ A.v2 rfl ?_ |refine aJ A.v3 rfl ?_)
     refine nP (by omega) ?_
     exact ih (i+1) (by omega) (by omega) kk
    ·rw[decide_eq_false hlt]
     exact bg kk
  refine l1 n 0 (Nat.zero_le _) (by omega) ?_
  unfold O7
  have l2:∀(m i:Nat) (h:aj),i≤args.length→args.length-i<m→Cx h [vr a' [AV.int IntKind.i64 kind,AV.str var,AV.str cls,vb',vt',vc',vn',va',y0,y1,y2,y3,y4,y5,y6,y7,AV.str fn,AV.str name,vg'],vr a [AV.int IntKind.i64 kind,AV.str var,AV.str cls,vb,vt,vc,vn,va,x0,x1,x2,x3,x4,x5,x6,x7,AV.str fn,AV.str name,vg]] [] [Ext h0]→
   (∀h,Cx h [vr a' [AV.int IntKind.i64 kind,AV.str var,AV.str cls,vb',vt',vc',vn',va',y0,y1,y2,y3,y4,y5,y6,y7,AV.str fn,AV.str name,vg'],vr a [AV.int IntKind.i64 kind,AV.str var,AV.str cls,vb,vt,vc,vn,va,x0,x1,x2,x3,x4,x5,x6,x7,AV.str fn,AV.str name,vg]] [] [Ext h0]→NK (au E n) n (.ptr a 0 0 0) (.ptr a' 0 0 0) h K=true)→Kr (au E n) n m (.ptr a 0 0 0) (.ptr a' 0 0 0) (.int .i64 (i:Int)) h K=true:=by
   intro m
   induction m with
   |zero=>intro i h _ hm;omega
   |succ m ih=>
    intro i h hi hm A kk
    have e0:Ext h0 h:=A.f0
    rw[abt]
    unfold Pg
    repeat first |refine fM (Vg.ext e0) ?_ |refine jI ?_ |(with_reducible first |refine aA ?_ |refine aR ?_ |refine bJ ?_ |refine dx ?_ |refine bL ?_ |refine bg ?_ |refine aW ?_ |refine bP ?_ |refine eu ?_ |refine dL ?_ |refine dF ?_ |refine dM ?_ |refine dI ?_ |refine eF ?_ |refine aB A.var rfl ?_ |refine aB A.v1 rfl ?_ |refine aB A.v2 rfl ?_ |refine aB A.v3 rfl ?_ |refine aJ A.var rfl ?_ |refine aJ A.v1 rfl ?_ |refine aJ A.v2 rfl ?_ |refine aJ A.v3 rfl ?_)
    rw[gg1]
    by_cases hlt:i<args.length
    ·rw[decide_eq_true hlt]
     have hb:args[i]? =some args[i]:=List.getElem?_eq_getElem hlt
     generalize args[i]=b at hb
     have hw:=U3 hb
     obtain⟨c,hc,R⟩:=gg2 i b hb
     obtain⟨c',hc',R'⟩:=gg2' i b hb
     obtain⟨w0,w1,w2,w3,w4,w5,w6,w7,rfl⟩:=len8 R.cells.1
     obtain⟨z0,z1,z2,z3,z4,z5,z6,z7,rfl⟩:=len8 R'.cells.1
     repeat first |(with_reducible first |refine aA ?_ |refine aR ?_ |refine bJ ?_ |refine dx ?_ |refine bL ?_ |refine bg ?_ |refine aW ?_ |refine bP ?_ |refine eu ?_ |refine dL ?_ |refine dF ?_ |refine dM ?_ |refine dI ?_ |refine eF ?_ |refine aB A.var rfl ?_ |refine aB A.v1 rfl ?_ |refine aB A.v2 rfl ?_ |refine aB A.v3 rfl ?_ |refine aJ A.var rfl ?_ |refine aJ A.v1 rfl ?_ |refine aJ A.v2 rfl ?_ |refine aJ A.v3 rfl ?_)
     refine pO (Vg.ext e0) hc fun i1 g1 j1 q1=> ?_
     repeat first |refine aS (q1 false 0 1) ?_ |(with_reducible first |refine aA ?_ |refine aR ?_ |refine bJ ?_ |refine dx ?_ |refine bL ?_ |refine bg ?_ |refine aW ?_ |refine bP ?_ |refine eu ?_ |refine dL ?_ |refine dF ?_ |refine dM ?_ |refine dI ?_ |refine eF ?_ |refine aB A.var rfl ?_ |refine aB A.v1 rfl ?_ |refine aB A.v2 rfl ?_ |refine aB A.v3 rfl ?_ |refine aJ A.var rfl ?_ |refine aJ A.v1 rfl ?_ |refine aJ A.v2 rfl ?_ |refine aJ A.v3 rfl ?_)
     refine pO (Vg'.ext e0) hc' fun i2 g2 j2 q2=> ?_
     repeat first |refine aS (q2 false 0 1) ?_ |refine AQ ?_ |(with_reducible first |refine aA ?_ |refine aR ?_ |refine bJ ?_ |refine dx ?_ |refine bL ?_ |refine bg ?_ |refine aW ?_ |refine bP ?_ |refine eu ?_ |refine dL ?_ |refine dF ?_ |refine dM ?_ |refine dI ?_ |refine eF ?_ |refine aB A.var rfl ?_ |refine aB A.v1 rfl ?_ |refine aB A.v2 rfl ?_ |refine aB A.v3 rfl ?_ |refine aJ A.var rfl ?_ |refine aJ A.v1 rfl ?_ |refine aJ A.v2 rfl ?_ |refine aJ A.v3 rfl ?_)
     refine pO (Vg.ext e0) hc fun i1 g1 j1 q1=> ?_
     repeat first |refine rC (q1 true 1 8) ?_ |(with_reducible first |refine aA ?_ |refine aR ?_ |refine bJ ?_ |refine dx ?_ |refine bL ?_ |refine bg ?_ |refine aW ?_ |refine bP ?_ |refine eu ?_ |refine dL ?_ |refine dF ?_ |refine dM ?_ |refine dI ?_ |refine eF ?_ |refine aB A.var rfl ?_ |refine aB A.v1 rfl ?_ |refine aB A.v2 rfl ?_ |refine aB A.v3 rfl ?_ |refine aJ A.var rfl ?_ |refine aJ A.v1 rfl ?_ |refine aJ A.v2 rfl ?_ |refine aJ A.v3 rfl ?_)
     refine pO (Vg'.ext e0) hc' fun i2 g2 j2 q2=> ?_
     repeat first |refine rC (q2 true 1 8) ?_ |(with_reducible first |refine aA ?_ |refine aR ?_ |refine bJ ?_ |refine dx ?_ |refine bL ?_ |refine bg ?_ |refine aW ?_ |refine bP ?_ |refine eu ?_ |refine dL ?_ |refine dF ?_ |refine dM ?_ |refine dI ?_ |refine eF ?_ |refine aB A.var rfl ?_ |refine aB A.v1 rfl ?_ |refine aB A.v2 rfl ?_ |refine aB A.v3 rfl ?_ |refine aJ A.var rfl ?_ |refine aJ A.v1 rfl ?_ |refine aJ A.v2 rfl ?_ |refine aJ A.v3 rfl ?_)
     refine c26 (by omega) (by omega) A.ok (R.ext e0) (R'.ext e0) fun h' e' o'=> ?_
     refine aG rfl ?_
     repeat first |(with_reducible first |refine aA ?_ |refine aR ?_ |refine bJ ?_ |refine dx ?_ |refine bL ?_ |refine bg ?_ |refine aW ?_ |refine bP ?_ |refine eu ?_ |refine dL ?_ |refine dF ?_ |refine dM ?_ |refine dI ?_ |refine eF ?_ |refine aB A.var rfl ?_ |refine aB A.v1 rfl ?_ |refine aB A.v2 rfl ?_ |refine aB A.v3 rfl ?_ |refine aJ A.var rfl ?_ |refine aJ A.v1 rfl ?_ |refine aJ A.v2 rfl ?_ |refine aJ A.v3 rfl ?_)
     refine nP (by omega) ?_
     exact ih (i+1) h' (by omega) (by omega) (A.ext e' o') kk
    ·rw[decide_eq_false hlt]
     exact bg (kk h A)
  refine l2 n 0 h (Nat.zero_le _) (by omega) A fun h A=> ?_
  unfold NK
  repeat first |(with_reducible first |refine aA ?_ |refine aR ?_ |refine bJ ?_ |refine dx ?_ |refine bL ?_ |refine bg ?_ |refine aW ?_ |refine bP ?_ |refine eu ?_ |refine dL ?_ |refine dF ?_ |refine dM ?_ |refine dI ?_ |refine eF ?_ |refine aB A.var rfl ?_ |refine aB A.v1 rfl ?_ |refine aB A.v2 rfl ?_ |refine aB A.v3 rfl ?_ |refine aJ A.var rfl ?_ |refine aJ A.v1 rfl ?_ |refine aJ A.v2 rfl ?_ |refine aJ A.v3 rfl ?_)
  have e0:Ext h0 h:=A.f0
  refine c46 (by omega) (by omega) A.ok (Vt.ext e0) (Rt.ext e0) (Vt'.ext e0) (Rt'.ext e0) fun h e' o'=> ?_
  have A:=A.ext e' o'
  refine aG rfl ?_
  unfold Fp
  repeat first |(with_reducible first |refine aA ?_ |refine aR ?_ |refine bJ ?_ |refine dx ?_ |refine bL ?_ |refine bg ?_ |refine aW ?_ |refine bP ?_ |refine eu ?_ |refine dL ?_ |refine dF ?_ |refine dM ?_ |refine dI ?_ |refine eF ?_ |refine aB A.var rfl ?_ |refine aB A.v1 rfl ?_ |refine aB A.v2 rfl ?_ |refine aB A.v3 rfl ?_ |refine aJ A.var rfl ?_ |refine aJ A.v1 rfl ?_ |refine aJ A.v2 rfl ?_ |refine aJ A.v3 rfl ?_)
  have e0:Ext h0 h:=A.f0
  refine q15 Q (by omega) (by omega) (by omega) A.ok (Vc.ext e0) (Rc.ext e0) (Vc'.ext e0) (Rc'.ext e0) fun h e' o'=> ?_
  have A:=A.ext e' o'
  refine aG rfl ?_
  unfold Gi
  repeat first |(with_reducible first |refine aA ?_ |refine aR ?_ |refine bJ ?_ |refine dx ?_ |refine bL ?_ |refine bg ?_ |refine aW ?_ |refine bP ?_ |refine eu ?_ |refine dL ?_ |refine dF ?_ |refine dM ?_ |refine dI ?_ |refine eF ?_ |refine aB A.var rfl ?_ |refine aB A.v1 rfl ?_ |refine aB A.v2 rfl ?_ |refine aB A.v3 rfl ?_ |refine aJ A.var rfl ?_ |refine aJ A.v1 rfl ?_ |refine aJ A.v2 rfl ?_ |refine aJ A.v3 rfl ?_)
  have e0:Ext h0 h:=A.f0
  refine q15 Q (by omega) (by omega) (by omega) A.ok (Vn.ext e0) (Rn.ext e0) (Vn'.ext e0) (Rn'.ext e0) fun h e' o'=> ?_
  have A:=A.ext e' o'
  refine aG rfl ?_
  unfold Fv
  repeat first |(with_reducible first |refine aA ?_ |refine aR ?_ |refine bJ ?_ |refine dx ?_ |refine bL ?_ |refine bg ?_ |refine aW ?_ |refine bP ?_ |refine eu ?_ |refine dL ?_ |refine dF ?_ |refine dM ?_ |refine dI ?_ |refine eF ?_ |refine aB A.var rfl ?_ |refine aB A.v1 rfl ?_ |refine aB A.v2 rfl ?_ |refine aB A.v3 rfl ?_ |refine aJ A.var rfl ?_ |refine aJ A.v1 rfl ?_ |refine aJ A.v2 rfl ?_ |refine aJ A.v3 rfl ?_)
  have e0:Ext h0 h:=A.f0
  refine q47 Q (by omega) (by omega) (by omega) A.ok (Va.ext e0) (Ra.ext e0) (Va'.ext e0) (Ra'.ext e0) fun h e' o'=> ?_
  have A:=A.ext e' o'
  refine aG rfl ?_
  unfold Gg
  repeat first |(with_reducible first |refine aA ?_ |refine aR ?_ |refine bJ ?_ |refine dx ?_ |refine bL ?_ |refine bg ?_ |refine aW ?_ |refine bP ?_ |refine eu ?_ |refine dL ?_ |refine dF ?_ |refine dM ?_ |refine dI ?_ |refine eF ?_ |refine aB A.var rfl ?_ |refine aB A.v1 rfl ?_ |refine aB A.v2 rfl ?_ |refine aB A.v3 rfl ?_ |refine aJ A.var rfl ?_ |refine aJ A.v1 rfl ?_ |refine aJ A.v2 rfl ?_ |refine aJ A.v3 rfl ?_)
  have e0:Ext h0 h:=A.f0
  refine c26 (by omega) (by omega) A.ok (Re.ext e0) (Re'.ext e0) fun h e' o'=> ?_
  refine aG rfl ?_
  unfold Em
  exact dF (k h (e0.trans e') o')
theorem c15 {n:Nat} {h:aj} {l:List Cd} {va vb:AV} {es es':List (List AV)} {K:aM} (hB:vF l≤big) (hn:3*vF l+8≤n) (ho:h.Ok) (V:View h 19 va es) (R:kW h es l) (V':View h 19 vb es') (R':kW h es' l)
 (k:∀h',Ext h h'→h'.Ok→K (.bool true) h'=true):au E n (.func 15) [va,vb] h K=true:=q15 (qc _) (Nat.le_refl _) hB hn ho V R V' R' k
theorem RA.ext {h h':aj} (e:Ext h h') {c:List AV} {a:Act} (R:RA h c a):RA h' c a:=by
 obtain⟨vs,eg,ce,h1,h2,h3,h4⟩:=R
 exact⟨vs,eg,ce,h1,h2.ext e,h3.ext e,h4.ext e⟩
theorem Bj.get {h:aj}:∀{es:List (List AV)} {l:List Act},Bj h es l→es.length=l.length∧∀(j:Nat) (b:Act),l[j]? =some b→∃c,es[j]? =some c∧RA h c b
 |es,[],R=>by simp only[Bj] at R;subst R;exact⟨rfl,fun j b e=>by simp at e⟩
 |es,v :: l,R=>by
  simp only[Bj] at R
  obtain⟨c,r,rfl,R1,R2⟩:=R
  obtain⟨h1,h2⟩:=Bj.get R2
  refine⟨by simp[h1],fun j b e=> ?_⟩
  cases j with
  |zero=>simp only[List.getElem?_cons_zero,Option.some.injEq] at e ⊢;subst e;exact⟨c,rfl,R1⟩
  |succ j=>simp only[List.getElem?_cons_succ] at e ⊢;exact h2 j b e
theorem Bj.ext {h h':aj} (e:Ext h h'):∀{a:List (List AV)} {l:List Act},Bj h a l→Bj h' a l
 |a,[],H=>H
 |a,v :: l,⟨c,r,h1,h2,h3⟩=>⟨c,r,h1,h2.ext e,Bj.ext e h3⟩
theorem RK.ext {h h':aj} (e:Ext h h') {c:List AV} {a:Cls} (R:RK h c a):RK h' c a:=by
 obtain⟨v,h1,h2⟩:=R;exact⟨v,h1,h2.ext e⟩
theorem RR.ext {h h':aj} (e:Ext h h') {c:List AV} {a:Ay} (R:RR h c a):RR h' c a:=by
 obtain⟨vw,ew,vt,et,h1,h2,h3,h4,h5⟩:=R;exact⟨vw,ew,vt,et,h1,h2.ext e,h3.ext e,h4.ext e,h5.ext e⟩
theorem RQ.ext {h h':aj} (e:Ext h h') {c:List AV} {a:Ju} (R:RQ h c a):RQ h' c a:=by
 obtain⟨vp,vw,ew,h1,h2,h3,h4⟩:=R;exact⟨vp,vw,ew,h1,h2.ext e,h3.ext e,h4.ext e⟩
theorem yY.ext {h h':aj} (e:Ext h h'):∀{a:List (List AV)} {l:List Cls},yY h a l→yY h' a l
 |a,[],H=>H
 |a,v :: l,⟨c,r,h1,h2,h3⟩=>⟨c,r,h1,h2.ext e,yY.ext e h3⟩
theorem zm.ext {h h':aj} (e:Ext h h'):∀{a:List (List AV)} {l:List Ay},zm h a l→zm h' a l
 |a,[],H=>H
 |a,v :: l,⟨c,r,h1,h2,h3⟩=>⟨c,r,h1,h2.ext e,zm.ext e h3⟩
theorem yJ.ext {h h':aj} (e:Ext h h'):∀{a:List (List AV)} {l:List Ju},yJ h a l→yJ h' a l
 |a,[],H=>H
 |a,v :: l,⟨c,r,h1,h2,h3⟩=>⟨c,r,h1,h2.ext e,yJ.ext e h3⟩
theorem rH.ext {h h':aj} (e:Ext h h') {c:List AV} {b:wz} (R:rH h c b):rH h' c b:=by
 obtain⟨v0,e0,v1,e1,v2,e2,h0,h1,h2,h3,h4,h5,h6⟩:=R
 exact⟨v0,e0,v1,e1,v2,e2,h0,h1.ext e,h2.ext e,h3.ext e,h4.ext e,h5.ext e,h6.ext e⟩
theorem yY.get {h:aj}:∀{es:List (List AV)} {l:List Cls},yY h es l→es.length=l.length∧∀(j:Nat) (b:Cls),l[j]? =some b→∃c,es[j]? =some c∧RK h c b
 |es,[],R=>by simp only[yY] at R;subst R;exact⟨rfl,fun j b e=>by simp at e⟩
 |es,v :: l,R=>by
  simp only[yY] at R
  obtain⟨c,r,rfl,R1,R2⟩:=R
  obtain⟨h1,h2⟩:=yY.get R2
  refine⟨by simp[h1],fun j b e=> ?_⟩
  cases j with
  |zero=>simp only[List.getElem?_cons_zero,Option.some.injEq] at e ⊢;subst e;exact⟨c,rfl,R1⟩
  |succ j=>simp only[List.getElem?_cons_succ] at e ⊢;exact h2 j b e
theorem zm.get {h:aj}:∀{es:List (List AV)} {l:List Ay},zm h es l→es.length=l.length∧∀(j:Nat) (b:Ay),l[j]? =some b→∃c,es[j]? =some c∧RR h c b
 |es,[],R=>by simp only[zm] at R;subst R;exact⟨rfl,fun j b e=>by simp at e⟩
 |es,v :: l,R=>by
  simp only[zm] at R
  obtain⟨c,r,rfl,R1,R2⟩:=R
  obtain⟨h1,h2⟩:=zm.get R2
  refine⟨by simp[h1],fun j b e=> ?_⟩
  cases j with
  |zero=>simp only[List.getElem?_cons_zero,Option.some.injEq] at e ⊢;subst e;exact⟨c,rfl,R1⟩
  |succ j=>simp only[List.getElem?_cons_succ] at e ⊢;exact h2 j b e
theorem yJ.get {h:aj}:∀{es:List (List AV)} {l:List Ju},yJ h es l→es.length=l.length∧∀(j:Nat) (b:Ju),l[j]? =some b→∃c,es[j]? =some c∧RQ h c b
 |es,[],R=>by simp only[yJ] at R;subst R;exact⟨rfl,fun j b e=>by simp at e⟩
 |es,v :: l,R=>by
  simp only[yJ] at R
  obtain⟨c,r,rfl,R1,R2⟩:=R
  obtain⟨h1,h2⟩:=yJ.get R2
  refine⟨by simp[h1],fun j b e=> ?_⟩
  cases j with
  |zero=>simp only[List.getElem?_cons_zero,Option.some.injEq] at e ⊢;subst e;exact⟨c,rfl,R1⟩
  |succ j=>simp only[List.getElem?_cons_succ] at e ⊢;exact h2 j b e
theorem Xu:∀{l:List Act} {j:Nat} {b:Act},l[j]? =some b→cA b≤Oo l
 | [],j,b,e=>by simp at e
 |v :: l,0,b,e=>by simp only[List.getElem?_cons_zero,Option.some.injEq] at e;subst e;unfold Oo;omega
 |v :: l,j+1,b,e=>by simp only[List.getElem?_cons_succ] at e;have:=Xu e;unfold Oo;omega
theorem V9:∀(l:List Act),l.length≤Oo l
 | []=>Nat.le_refl _
 |v :: l=>by have:=V9 l;unfold Oo cA;simp only[List.length_cons];omega
theorem aaw:∀(l:List Str),l.length≤cT l
 | []=>Nat.le_refl _
 |v :: l=>by have:=aaw l;unfold cT;simp only[List.length_cons];omega
theorem aaP:∀(l:List BR),l.length≤cF l
 | []=>Nat.le_refl _
 |v :: l=>by have:=aaP l;unfold cF;simp only[List.length_cons];omega
theorem VY:∀{l:List Cls} {j:Nat} {b:Cls},l[j]? =some b→cK b≤SX l
 | [],j,b,e=>by simp at e
 |v :: l,0,b,e=>by simp only[List.getElem?_cons_zero,Option.some.injEq] at e;subst e;unfold SX;omega
 |v :: l,j+1,b,e=>by simp only[List.getElem?_cons_succ] at e;have:=VY e;unfold SX;omega
theorem PE:∀(l:List Cls),l.length≤SX l
 | []=>Nat.le_refl _
 |v :: l=>by have:=PE l;unfold SX cK;simp only[List.length_cons];omega
theorem VO:∀{l:List Ay} {j:Nat} {b:Ay},l[j]? =some b→cR b≤SY l
 | [],j,b,e=>by simp at e
 |v :: l,0,b,e=>by simp only[List.getElem?_cons_zero,Option.some.injEq] at e;subst e;unfold SY;omega
 |v :: l,j+1,b,e=>by simp only[List.getElem?_cons_succ] at e;have:=VO e;unfold SY;omega
theorem Pe:∀(l:List Ay),l.length≤SY l
 | []=>Nat.le_refl _
 |v :: l=>by have:=Pe l;unfold SY cR;simp only[List.length_cons];omega
theorem Wu:∀{l:List Ju} {j:Nat} {b:Ju},l[j]? =some b→cQ b≤S9 l
 | [],j,b,e=>by simp at e
 |v :: l,0,b,e=>by simp only[List.getElem?_cons_zero,Option.some.injEq] at e;subst e;unfold S9;omega
 |v :: l,j+1,b,e=>by simp only[List.getElem?_cons_succ] at e;have:=Wu e;unfold S9;omega
theorem N9:∀(l:List Ju),l.length≤S9 l
 | []=>Nat.le_refl _
 |v :: l=>by have:=N9 l;unfold S9 cQ;simp only[List.length_cons];omega
theorem c17 {n:Nat} {h:aj} {l:List Str} {va vb:AV} {K:aM} (hB:l.length≤big) (hn:l.length+2≤n) (V:View h 1 va (l.map pJ)) (V':View h 1 vb (l.map pJ))
 (k:K (.bool true) h=true):au E n (.func 17) [va,vb] h K=true:=by
 have hbig:big=1000000000:=rfl
 have hlim:lim=4611686018427387904:=rfl
 obtain⟨n,rfl⟩:∃m,n=m+1:=⟨n-1,by omega⟩
 apply d17
 unfold s17
 refine fM V ?_;refine fM V' ?_;refine CS ?_;refine bg ?_
 unfold Vl
 have lp:∀(m i:Nat),i≤l.length→l.length-i<m→KI (au E n) n m va vb (.int .i64 (i:Int)) h K=true:=by
  intro m
  induction m with
  |zero=>intro i _ hm;omega
  |succ m ih=>
   intro i hi hm
   rw[aaY]
   unfold NT
   refine fM V ?_;refine jI ?_
   rw[List.length_map]
   by_cases hlt:i<l.length
   ·rw[decide_eq_true hlt]
    have hb:l[i]? =some l[i]:=List.getElem?_eq_getElem hlt
    generalize l[i]=b at hb
    have hb':(l.map pJ)[i]? =some (pJ b):=by rw[List.getElem?_map,hb];rfl
    refine MS V hb' rfl ?_
    refine MS V' hb' rfl ?_;refine AQ ?_;refine bg ?_
    refine nP (by omega) ?_
    exact ih (i+1) (by omega) (by omega)
   ·rw[decide_eq_false hlt]
    exact bg k
 exact lp n 0 (Nat.zero_le _) (by omega)
theorem c14 {n:Nat} {h:aj} {l:List BR} {va vb:AV} {K:aM} (hB:l.length≤big) (hn:l.length+2≤n) (V:View h 3 va (l.map qB)) (V':View h 3 vb (l.map qB))
 (k:K (.bool true) h=true):au E n (.func 14) [va,vb] h K=true:=by
 have hbig:big=1000000000:=rfl
 have hlim:lim=4611686018427387904:=rfl
 obtain⟨n,rfl⟩:∃m,n=m+1:=⟨n-1,by omega⟩
 apply d14
 unfold s14
 refine fM V ?_;refine fM V' ?_;refine CS ?_;refine bg ?_
 unfold U5
 have lp:∀(m i:Nat),i≤l.length→l.length-i<m→J5 (au E n) n m va vb (.int .i64 (i:Int)) h K=true:=by
  intro m
  induction m with
  |zero=>intro i _ hm;omega
  |succ m ih=>
   intro i hi hm
   rw[abN]
   unfold NP
   refine fM V ?_;refine jI ?_
   rw[List.length_map]
   by_cases hlt:i<l.length
   ·rw[decide_eq_true hlt]
    have hb:l[i]? =some l[i]:=List.getElem?_eq_getElem hlt
    generalize l[i]=b at hb
    have hb':(l.map qB)[i]? =some (qB b):=by rw[List.getElem?_map,hb];rfl
    refine uP V hb' rfl ?_
    refine uP V' hb' rfl ?_;refine qN (aeP _ _) ?_;refine bg ?_
    refine nP (by omega) ?_
    exact ih (i+1) (by omega) (by omega)
   ·rw[decide_eq_false hlt]
    exact bg k
 exact lp n 0 (Nat.zero_le _) (by omega)
set_option maxRecDepth 100000 in
theorem c16 {n:Nat} {h:aj} {l:List Act} {va vb:AV} {es es':List (List AV)} {K:aM} (hB:Oo l≤big) (hn:3*Oo l+12≤n) (ho:h.Ok) (V:View h 12 va es) (R:Bj h es l) (V':View h 12 vb es') (R':Bj h es' l)
 (k:∀h',Ext h h'→h'.Ok→K (.bool true) h'=true):au E n (.func 16) [va,vb] h K=true:=by
 have hbig:big=1000000000:=rfl
 have hlim:lim=4611686018427387904:=rfl
 obtain⟨n,rfl⟩:∃m,n=m+1:=⟨n-1,by omega⟩
 have hlen:=V9 l
 obtain⟨g1,g2⟩:=R.get
 obtain⟨g1',g2'⟩:=R'.get
 apply d16
 unfold s16
 refine fM V (fM V' (eF ?_))
 rw[g1,g1',decide_eq_true rfl]
 refine bg ?_
 unfold Vo
 have lp:∀(m i:Nat) (h':aj),i≤l.length→l.length-i<m→Ext h h'→h'.Ok→Jr (au E n) n m va vb (.int .i64 (i:Int)) h' K=true:=by
  intro m
  induction m with
  |zero=>intro i h' _ hm;omega
  |succ m ih=>
   intro i h' hi hm e o
   rw[aa3]
   unfold OH
   refine fM (V.ext e) (jI ?_)
   rw[g1]
   by_cases hlt:i<l.length
   ·rw[decide_eq_true hlt]
    have hb:l[i]? =some l[i]:=List.getElem?_eq_getElem hlt
    generalize l[i]=b at hb
    obtain⟨c,hc,Rc⟩:=g2 i b hb
    obtain⟨c',hc',Rc'⟩:=g2' i b hb
    have hw:=Xu hb
    have C1:=Rc.cells
    have C2:=Rc'.cells
    obtain⟨vs,eg,ce,rfl,Vs,Rg,Re⟩:=Rc
    obtain⟨vs',eg',ce',rfl,Vs',Rg',Re'⟩:=Rc'
    obtain⟨x0,x1,x2,x3,x4,x5,x6,x7,rfl⟩:=len8 Re.cells.1
    obtain⟨y0,y1,y2,y3,y4,y5,y6,y7,rfl⟩:=len8 Re'.cells.1
    simp only[List.cons_append,List.nil_append] at C1 C2 hc hc'
    obtain⟨gg1,gg2⟩:=Rg.get
    obtain⟨gg1',gg2'⟩:=Rg'.get
    have hcA:cA b=b.cls.length+cG b.set+cE b.e+b.text.length+1:=rfl
    have hgl:=Uq b.set
    have A:=Cx.start o (F:=[]) (fun R m=>nomatch m)
    refine bL ?_
    unfold TN
    refine uP (V.ext e) hc C1.1 ?_
    refine pW A rfl rfl rfl fun a h2 A=> ?_
    refine Hg A rfl C1.1 rfl C1.2.1 fun h2 A=> ?_
    have e1:Ext h' h2:=A.f0
    refine uP (V'.ext (e.trans e1)) hc' C2.1 ?_
    refine bZ A rfl rfl rfl fun a' h2 A=> ?_
    refine iG A rfl C2.1 rfl C2.2.1 fun h2 A=> ?_
    have e1:Ext h' h2:=A.f0
    repeat first |refine CS ?_ |refine AQ ?_ |refine aJ A.var rfl ?_ |refine aJ A.v1 rfl ?_ |(with_reducible first |refine aA ?_ |refine bP ?_ |refine dL ?_ |refine dM ?_ |refine aB A.var rfl ?_ |refine aB A.v1 rfl ?_)
    refine c26 (by omega) (by omega) A.ok (Re.ext (e.trans e1)) (Re'.ext (e.trans e1)) fun h3 e2 o2=> ?_
    have A:=A.ext e2 o2
    refine aG rfl ?_
    unfold Eb
    have e1:=e.trans (e1.trans e2)
    repeat first |refine fM (Vs.ext e1) ?_ |refine fM (Vs'.ext e1) ?_ |(with_reducible first |refine aA ?_ |refine bJ ?_ |refine bP ?_ |refine dM ?_ |refine eF ?_ |refine aB A.var rfl ?_ |refine aB A.v1 rfl ?_)
    rw[gg1,gg1',decide_eq_true rfl]
    skip
    unfold UZ
    have l2:∀(m j:Nat) (h4:aj),j≤b.set.length→b.set.length-j<m→Cx h4 [vr a [AV.int IntKind.i64 b.kind,AV.str b.cls,vs,x0,x1,x2,x3,x4,x5,x6,x7,AV.str b.text],vr a' [AV.int IntKind.i64 b.kind,AV.str b.cls,vs',y0,y1,y2,y3,y4,y5,y6,y7,AV.str b.text]] [] [Ext h']→
     ∀(Bk:AV→AV→AV→aj→Bool),(∀h4,Ext h' h4→h4.Ok→Bk va vb (.int .i64 ((i+1:Nat):Int)) h4=true)→K6 (au E n) n Bk m va vb (.int .i64 (i:Int)) (.ptr a 0 0 0) (.ptr a' 0 0 0) (.int .i64 (j:Int)) h4 K=true:=by
     intro m
     induction m with
     |zero=>intro j h4 _ hm;omega
     |succ m ih2=>
      intro j h4 hj hm A Bk kk
      have e2:Ext h h4:=e.trans (A.f0:Ext h' h4)
      rw[aaG]
      unfold OZ
      refine aA ?_;refine aB A.var rfl ?_;refine fM (Vs.ext e2) ?_;refine jI ?_
      rw[gg1]
      by_cases hlt:j<b.set.length
      ·rw[decide_eq_true hlt]
       have hb2:b.set[j]? =some b.set[j]:=List.getElem?_eq_getElem hlt
       generalize b.set[j]=g at hb2
       have hw2:=U3 hb2
       obtain⟨c,hc,R⟩:=gg2 j g hb2
       obtain⟨c',hc',R'⟩:=gg2' j g hb2
       obtain⟨w0,w1,w2,w3,w4,w5,w6,w7,rfl⟩:=len8 R.cells.1
       obtain⟨z0,z1,z2,z3,z4,z5,z6,z7,rfl⟩:=len8 R'.cells.1
       refine bL ?_;refine aA ?_;refine aB A.var rfl ?_
       refine pO (Vs.ext e2) hc fun i1 g1 j1 q1=> ?_
       refine aS (q1 false 0 1) ?_;refine aA ?_;refine aB A.v1 rfl ?_
       refine pO (Vs'.ext e2) hc' fun i2 g2 j2 q2=> ?_
       repeat first |refine aS (q2 false 0 1) ?_ |refine AQ ?_ |(with_reducible first |refine aA ?_ |refine aR ?_ |refine bP ?_ |refine aB A.var rfl ?_)
       refine pO (Vs.ext e2) hc fun i1 g1 j1 q1=> ?_
       repeat first |refine rC (q1 true 1 8) ?_ |(with_reducible first |refine aA ?_ |refine aR ?_ |refine bP ?_ |refine aB A.v1 rfl ?_)
       refine pO (Vs'.ext e2) hc' fun i2 g2 j2 q2=> ?_
       refine bP ?_;refine aA ?_;refine bP ?_;refine rC (q2 true 1 8) ?_;refine dL ?_
       refine c26 (by omega) (by omega) A.ok (R.ext e2) (R'.ext e2) fun h5 e' o'=> ?_
       refine aG rfl ?_
       refine bP ?_;refine bJ ?_;refine dM ?_;refine bg ?_
       refine nP (by omega) ?_
       exact ih2 (j+1) h5 (by omega) (by omega) (A.ext e' o') Bk kk
      ·rw[decide_eq_false hlt]
       refine bg ?_
       unfold Vf
       refine nP (by omega) ?_
       exact kk h4 A.f0 A.ok
    refine l2 n 0 _ (Nat.zero_le _) (by omega) A _ fun h4 e4 o4=> ?_
    exact ih (i+1) h4 (by omega) (by omega) (e.trans e4) o4
   ·rw[decide_eq_false hlt]
    exact bg (k h' e o)
 exact lp n 0 h (Nat.zero_le _) (by omega) (Ext.refl _) ho
section
variable {n:Nat} {h0 h:aj} {b:wz} {v0 v1 v2 w0 w1 w2:AV} {a a':Nat} {K:aM}
abbrev C8 (a a':Nat) (h0 h:aj) (v0 v1 v2 w0 w1 w2:AV):Prop:=Cx h [vr a' [w0,w1,w2],vr a [v0,v1,v2]] [] [Ext h0]
set_option maxRecDepth 100000 in
theorem p60 {l:List Ju} {es es':List (List AV)} (hB:S9 l≤big) (hn:3*S9 l+12≤n) (V:View h0 3 v2 es) (R:yJ h0 es l) (V':View h0 3 w2 es') (R':yJ h0 es' l) (A:C8 a a' h0 h v0 v1 v2 w0 w1 w2)
 (k:∀h',Ext h0 h'→h'.Ok→K (.bool true) h'=true):Ru (au E n) n (.ptr a 0 0 0) (.ptr a' 0 0 0) h K=true:=by
 have hbig:big=1000000000:=rfl
 have hlim:lim=4611686018427387904:=rfl
 have hlen:=N9 l
 obtain⟨g1,g2⟩:=R.get
 obtain⟨g1',g2'⟩:=R'.get
 unfold Ru
 have lp:∀(m i:Nat) (h:aj),i≤l.length→l.length-i<m→C8 a a' h0 h v0 v1 v2 w0 w1 w2→Q9 (au E n) n m (.ptr a 0 0 0) (.ptr a' 0 0 0) (.int .i64 (i:Int)) h K=true:=by
  intro m
  induction m with
  |zero=>intro i h _ hm;omega
  |succ m ih=>
   intro i h hi hm A
   have e0:Ext h0 h:=A.f0
   rw[adn]
   unfold X5
   repeat first |refine fM (V.ext e0) ?_ |refine jI ?_ |(with_reducible first |refine aA ?_ |refine aR ?_ |refine bJ ?_ |refine dx ?_ |refine bL ?_ |refine bg ?_ |refine aW ?_ |refine bP ?_ |refine eu ?_ |refine dL ?_ |refine dF ?_ |refine dM ?_ |refine dI ?_ |refine eF ?_ |refine aB A.var rfl ?_ |refine aB A.v1 rfl ?_ |refine aB A.v2 rfl ?_ |refine aB A.v3 rfl ?_ |refine aJ A.var rfl ?_ |refine aJ A.v1 rfl ?_ |refine aJ A.v2 rfl ?_ |refine aJ A.v3 rfl ?_)
   rw[g1]
   by_cases hlt:i<l.length
   ·rw[decide_eq_true hlt]
    have hb:l[i]? =some l[i]:=List.getElem?_eq_getElem hlt
    generalize l[i]=q at hb
    obtain⟨c,hc,Rc⟩:=g2 i q hb
    obtain⟨c',hc',Rc'⟩:=g2' i q hb
    have hw:=Wu hb
    have hq:cQ q=q.name.length+cT q.params+vF q.whn+1:=rfl
    have hT:=aaw q.params
    obtain⟨vp,vw,ew,rfl,Vp,Vw,Rw⟩:=Rc
    obtain⟨vp',vw',ew',rfl,Vp',Vw',Rw'⟩:=Rc'
    repeat first |(with_reducible first |refine aA ?_ |refine aR ?_ |refine bJ ?_ |refine dx ?_ |refine bL ?_ |refine bg ?_ |refine aW ?_ |refine bP ?_ |refine eu ?_ |refine dL ?_ |refine dF ?_ |refine dM ?_ |refine dI ?_ |refine eF ?_ |refine aB A.var rfl ?_ |refine aB A.v1 rfl ?_ |refine aB A.v2 rfl ?_ |refine aB A.v3 rfl ?_ |refine aJ A.var rfl ?_ |refine aJ A.v1 rfl ?_ |refine aJ A.v2 rfl ?_ |refine aJ A.v3 rfl ?_)
    refine pO (V.ext e0) hc fun i1 g1 j1 q1=> ?_
    repeat first |refine aS (q1 false 0 1) ?_ |(with_reducible first |refine aA ?_ |refine aR ?_ |refine bJ ?_ |refine dx ?_ |refine bL ?_ |refine bg ?_ |refine aW ?_ |refine bP ?_ |refine eu ?_ |refine dL ?_ |refine dF ?_ |refine dM ?_ |refine dI ?_ |refine eF ?_ |refine aB A.var rfl ?_ |refine aB A.v1 rfl ?_ |refine aB A.v2 rfl ?_ |refine aB A.v3 rfl ?_ |refine aJ A.var rfl ?_ |refine aJ A.v1 rfl ?_ |refine aJ A.v2 rfl ?_ |refine aJ A.v3 rfl ?_)
    refine pO (V'.ext e0) hc' fun i2 g2 j2 q2=> ?_
    repeat first |refine aS (q2 false 0 1) ?_ |refine AQ ?_ |(with_reducible first |refine aA ?_ |refine aR ?_ |refine bJ ?_ |refine dx ?_ |refine bL ?_ |refine bg ?_ |refine aW ?_ |refine bP ?_ |refine eu ?_ |refine dL ?_ |refine dF ?_ |refine dM ?_ |refine dI ?_ |refine eF ?_ |refine aB A.var rfl ?_ |refine aB A.v1 rfl ?_ |refine aB A.v2 rfl ?_ |refine aB A.v3 rfl ?_ |refine aJ A.var rfl ?_ |refine aJ A.v1 rfl ?_ |refine aJ A.v2 rfl ?_ |refine aJ A.v3 rfl ?_)
    refine pO (V.ext e0) hc fun i1 g1 j1 q1=> ?_
    repeat first |refine aS (q1 false 1 1) ?_ |(with_reducible first |refine aA ?_ |refine aR ?_ |refine bJ ?_ |refine dx ?_ |refine bL ?_ |refine bg ?_ |refine aW ?_ |refine bP ?_ |refine eu ?_ |refine dL ?_ |refine dF ?_ |refine dM ?_ |refine dI ?_ |refine eF ?_ |refine aB A.var rfl ?_ |refine aB A.v1 rfl ?_ |refine aB A.v2 rfl ?_ |refine aB A.v3 rfl ?_ |refine aJ A.var rfl ?_ |refine aJ A.v1 rfl ?_ |refine aJ A.v2 rfl ?_ |refine aJ A.v3 rfl ?_)
    refine pO (V'.ext e0) hc' fun i2 g2 j2 q2=> ?_
    repeat first |refine aS (q2 false 1 1) ?_ |(with_reducible first |refine aA ?_ |refine aR ?_ |refine bJ ?_ |refine dx ?_ |refine bL ?_ |refine bg ?_ |refine aW ?_ |refine bP ?_ |refine eu ?_ |refine dL ?_ |refine dF ?_ |refine dM ?_ |refine dI ?_ |refine eF ?_ |refine aB A.var rfl ?_ |refine aB A.v1 rfl ?_ |refine aB A.v2 rfl ?_ |refine aB A.v3 rfl ?_ |refine aJ A.var rfl ?_ |refine aJ A.v1 rfl ?_ |refine aJ A.v2 rfl ?_ |refine aJ A.v3 rfl ?_)
    refine c17 (by omega) (by omega) (Vp.ext e0) (Vp'.ext e0) ?_
    refine aG rfl ?_
    repeat first |(with_reducible first |refine aA ?_ |refine aR ?_ |refine bJ ?_ |refine dx ?_ |refine bL ?_ |refine bg ?_ |refine aW ?_ |refine bP ?_ |refine eu ?_ |refine dL ?_ |refine dF ?_ |refine dM ?_ |refine dI ?_ |refine eF ?_ |refine aB A.var rfl ?_ |refine aB A.v1 rfl ?_ |refine aB A.v2 rfl ?_ |refine aB A.v3 rfl ?_ |refine aJ A.var rfl ?_ |refine aJ A.v1 rfl ?_ |refine aJ A.v2 rfl ?_ |refine aJ A.v3 rfl ?_)
    refine pO (V.ext e0) hc fun i1 g1 j1 q1=> ?_
    repeat first |refine aS (q1 false 2 1) ?_ |(with_reducible first |refine aA ?_ |refine aR ?_ |refine bJ ?_ |refine dx ?_ |refine bL ?_ |refine bg ?_ |refine aW ?_ |refine bP ?_ |refine eu ?_ |refine dL ?_ |refine dF ?_ |refine dM ?_ |refine dI ?_ |refine eF ?_ |refine aB A.var rfl ?_ |refine aB A.v1 rfl ?_ |refine aB A.v2 rfl ?_ |refine aB A.v3 rfl ?_ |refine aJ A.var rfl ?_ |refine aJ A.v1 rfl ?_ |refine aJ A.v2 rfl ?_ |refine aJ A.v3 rfl ?_)
    refine pO (V'.ext e0) hc' fun i2 g2 j2 q2=> ?_
    repeat first |refine aS (q2 false 2 1) ?_ |(with_reducible first |refine aA ?_ |refine aR ?_ |refine bJ ?_ |refine dx ?_ |refine bL ?_ |refine bg ?_ |refine aW ?_ |refine bP ?_ |refine eu ?_ |refine dL ?_ |refine dF ?_ |refine dM ?_ |refine dI ?_ |refine eF ?_ |refine aB A.var rfl ?_ |refine aB A.v1 rfl ?_ |refine aB A.v2 rfl ?_ |refine aB A.v3 rfl ?_ |refine aJ A.var rfl ?_ |refine aJ A.v1 rfl ?_ |refine aJ A.v2 rfl ?_ |refine aJ A.v3 rfl ?_)
    refine c15 (by omega) (by omega) A.ok (Vw.ext e0) (Rw.ext e0) (Vw'.ext e0) (Rw'.ext e0) fun h' e' o'=> ?_
    refine aG rfl ?_
    repeat first |(with_reducible first |refine aA ?_ |refine aR ?_ |refine bJ ?_ |refine dx ?_ |refine bL ?_ |refine bg ?_ |refine aW ?_ |refine bP ?_ |refine eu ?_ |refine dL ?_ |refine dF ?_ |refine dM ?_ |refine dI ?_ |refine eF ?_ |refine aB A.var rfl ?_ |refine aB A.v1 rfl ?_ |refine aB A.v2 rfl ?_ |refine aB A.v3 rfl ?_ |refine aJ A.var rfl ?_ |refine aJ A.v1 rfl ?_ |refine aJ A.v2 rfl ?_ |refine aJ A.v3 rfl ?_)
    refine nP (by omega) ?_
    exact ih (i+1) h' (by omega) (by omega) (Cx.ext A e' o')
   ·rw[decide_eq_false hlt]
    exact bg (k h e0 A.ok)
 exact lp n 0 h (Nat.zero_le _) (by omega) A
set_option maxRecDepth 100000 in
theorem p35 {l:List Ay} {es es':List (List AV)} (hB:SY l≤big) (hn:3*SY l+14≤n) (V:View h0 8 v1 es) (R:zm h0 es l) (V':View h0 8 w1 es') (R':zm h0 es' l) (A:C8 a a' h0 h v0 v1 v2 w0 w1 w2)
 (k:∀h,C8 a a' h0 h v0 v1 v2 w0 w1 w2→Ru (au E n) n (.ptr a 0 0 0) (.ptr a' 0 0 0) h K=true):RS (au E n) n (.ptr a 0 0 0) (.ptr a' 0 0 0) h K=true:=by
 have hbig:big=1000000000:=rfl
 have hlim:lim=4611686018427387904:=rfl
 have hlen:=Pe l
 obtain⟨g1,g2⟩:=R.get
 obtain⟨g1',g2'⟩:=R'.get
 unfold RS
 have lp:∀(m i:Nat) (h:aj),i≤l.length→l.length-i<m→C8 a a' h0 h v0 v1 v2 w0 w1 w2→Rx (au E n) n m (.ptr a 0 0 0) (.ptr a' 0 0 0) (.int .i64 (i:Int)) h K=true:=by
  intro m
  induction m with
  |zero=>intro i h _ hm;omega
  |succ m ih=>
   intro i h hi hm A
   have e0:Ext h0 h:=A.f0
   rw[acj]
   unfold WK
   repeat first |refine fM (V.ext e0) ?_ |refine jI ?_ |(with_reducible first |refine aA ?_ |refine aR ?_ |refine bJ ?_ |refine dx ?_ |refine bL ?_ |refine bg ?_ |refine aW ?_ |refine bP ?_ |refine eu ?_ |refine dL ?_ |refine dF ?_ |refine dM ?_ |refine dI ?_ |refine eF ?_ |refine aB A.var rfl ?_ |refine aB A.v1 rfl ?_ |refine aB A.v2 rfl ?_ |refine aB A.v3 rfl ?_ |refine aJ A.var rfl ?_ |refine aJ A.v1 rfl ?_ |refine aJ A.v2 rfl ?_ |refine aJ A.v3 rfl ?_)
   rw[g1]
   by_cases hlt:i<l.length
   ·rw[decide_eq_true hlt]
    have hb:l[i]? =some l[i]:=List.getElem?_eq_getElem hlt
    generalize l[i]=q at hb
    obtain⟨c,hc,Rc⟩:=g2 i q hb
    obtain⟨c',hc',Rc'⟩:=g2' i q hb
    have hw:=VO hb
    have hq:cR q=q.name.length+q.group.length+q.flow.length+vF q.whn+Oo q.thn+1:=rfl
    have C1:=Rc.cells
    have C2:=Rc'.cells
    obtain⟨vw,ew,vt,et,rfl,Vw,Rw,Vt,Rt⟩:=Rc
    obtain⟨vw',ew',vt',et',rfl,Vw',Rw',Vt',Rt'⟩:=Rc'
    repeat first |(with_reducible first |refine aA ?_ |refine aR ?_ |refine bJ ?_ |refine dx ?_ |refine bL ?_ |refine bg ?_ |refine aW ?_ |refine bP ?_ |refine eu ?_ |refine dL ?_ |refine dF ?_ |refine dM ?_ |refine dI ?_ |refine eF ?_ |refine aB A.var rfl ?_ |refine aB A.v1 rfl ?_ |refine aB A.v2 rfl ?_ |refine aB A.v3 rfl ?_ |refine aJ A.var rfl ?_ |refine aJ A.v1 rfl ?_ |refine aJ A.v2 rfl ?_ |refine aJ A.v3 rfl ?_)
    refine uP (V.ext e0) hc C1.1 ?_
    refine pW A rfl rfl rfl fun x h A=> ?_
    refine Hg A rfl C1.1 rfl C1.2.1 fun h A=> ?_
    have e0:Ext h0 h:=A.f0
    repeat first |refine aB A.v2 rfl ?_ |(with_reducible first |refine aA ?_ |refine aR ?_ |refine bJ ?_ |refine dx ?_ |refine bL ?_ |refine bg ?_ |refine aW ?_ |refine bP ?_ |refine eu ?_ |refine dL ?_ |refine dF ?_ |refine dM ?_ |refine dI ?_ |refine eF ?_ |refine aB A.var rfl ?_ |refine aB A.v1 rfl ?_ |refine aB A.v2 rfl ?_ |refine aB A.v3 rfl ?_ |refine aJ A.var rfl ?_ |refine aJ A.v1 rfl ?_ |refine aJ A.v2 rfl ?_ |refine aJ A.v3 rfl ?_)
    refine uP (V'.ext e0) hc' C2.1 ?_
    refine pW A rfl rfl rfl fun x' h A=> ?_
    refine Hg A rfl C2.1 rfl C2.2.1 fun h A=> ?_
    have e0:Ext h0 h:=A.f0
    repeat first |refine CS ?_ |refine AQ ?_ |refine ahi ?_ |(with_reducible first |refine aA ?_ |refine aR ?_ |refine bJ ?_ |refine dx ?_ |refine bL ?_ |refine bg ?_ |refine aW ?_ |refine bP ?_ |refine eu ?_ |refine dL ?_ |refine dF ?_ |refine dM ?_ |refine dI ?_ |refine eF ?_ |refine aB A.var rfl ?_ |refine aB A.v1 rfl ?_ |refine aB A.v2 rfl ?_ |refine aB A.v3 rfl ?_ |refine aJ A.var rfl ?_ |refine aJ A.v1 rfl ?_ |refine aJ A.v2 rfl ?_ |refine aJ A.v3 rfl ?_)
    refine c15 (by omega) (by omega) A.ok (Vw.ext e0) (Rw.ext e0) (Vw'.ext e0) (Rw'.ext e0) fun h e' o'=> ?_
    have A:=A.ext e' o'
    have e0:Ext h0 h:=A.f0
    refine aG rfl ?_
    unfold JQ
    repeat first |(with_reducible first |refine aA ?_ |refine aR ?_ |refine bJ ?_ |refine dx ?_ |refine bL ?_ |refine bg ?_ |refine aW ?_ |refine bP ?_ |refine eu ?_ |refine dL ?_ |refine dF ?_ |refine dM ?_ |refine dI ?_ |refine eF ?_ |refine aB A.var rfl ?_ |refine aB A.v1 rfl ?_ |refine aB A.v2 rfl ?_ |refine aB A.v3 rfl ?_ |refine aJ A.var rfl ?_ |refine aJ A.v1 rfl ?_ |refine aJ A.v2 rfl ?_ |refine aJ A.v3 rfl ?_)
    refine c16 (by omega) (by omega) A.ok (Vt.ext e0) (Rt.ext e0) (Vt'.ext e0) (Rt'.ext e0) fun h e' o'=> ?_
    have A:=A.ext e' o'
    refine aG rfl ?_
    unfold Lf
    repeat first |(with_reducible first |refine aA ?_ |refine aR ?_ |refine bJ ?_ |refine dx ?_ |refine bL ?_ |refine bg ?_ |refine aW ?_ |refine bP ?_ |refine eu ?_ |refine dL ?_ |refine dF ?_ |refine dM ?_ |refine dI ?_ |refine eF ?_ |refine aB A.var rfl ?_ |refine aB A.v1 rfl ?_ |refine aB A.v2 rfl ?_ |refine aB A.v3 rfl ?_ |refine aJ A.var rfl ?_ |refine aJ A.v1 rfl ?_ |refine aJ A.v2 rfl ?_ |refine aJ A.v3 rfl ?_)
    refine nP (by omega) ?_
    exact ih (i+1) h (by omega) (by omega) A.rest.rest
   ·rw[decide_eq_false hlt]
    exact bg (k h A)
 exact lp n 0 h (Nat.zero_le _) (by omega) A
set_option maxRecDepth 100000 in
theorem p14 {l:List Cls} {es es':List (List AV)} (hB:SX l≤big) (hn:3*SX l+14≤n) (V:View h0 3 v0 es) (R:yY h0 es l) (V':View h0 3 w0 es') (R':yY h0 es' l) (A:C8 a a' h0 h v0 v1 v2 w0 w1 w2)
 (k:∀h,C8 a a' h0 h v0 v1 v2 w0 w1 w2→RS (au E n) n (.ptr a 0 0 0) (.ptr a' 0 0 0) h K=true):V7 (au E n) n (.ptr a 0 0 0) (.ptr a' 0 0 0) h K=true:=by
 have hbig:big=1000000000:=rfl
 have hlim:lim=4611686018427387904:=rfl
 have hlen:=PE l
 obtain⟨g1,g2⟩:=R.get
 obtain⟨g1',g2'⟩:=R'.get
 have e0:Ext h0 h:=A.f0
 unfold V7
 have lp:∀(m i:Nat),i≤l.length→l.length-i<m→Q8 (au E n) n m (.ptr a 0 0 0) (.ptr a' 0 0 0) (.int .i64 (i:Int)) h K=true:=by
  intro m
  induction m with
  |zero=>intro i _ hm;omega
  |succ m ih=>
   intro i hi hm
   rw[adv]
   unfold XY
   repeat first |refine fM (V.ext e0) ?_ |refine jI ?_ |(with_reducible first |refine aA ?_ |refine aR ?_ |refine bJ ?_ |refine dx ?_ |refine bL ?_ |refine bg ?_ |refine aW ?_ |refine bP ?_ |refine eu ?_ |refine dL ?_ |refine dF ?_ |refine dM ?_ |refine dI ?_ |refine eF ?_ |refine aB A.var rfl ?_ |refine aB A.v1 rfl ?_ |refine aB A.v2 rfl ?_ |refine aB A.v3 rfl ?_ |refine aJ A.var rfl ?_ |refine aJ A.v1 rfl ?_ |refine aJ A.v2 rfl ?_ |refine aJ A.v3 rfl ?_)
   rw[g1]
   by_cases hlt:i<l.length
   ·rw[decide_eq_true hlt]
    have hb:l[i]? =some l[i]:=List.getElem?_eq_getElem hlt
    generalize l[i]=q at hb
    obtain⟨c,hc,Rc⟩:=g2 i q hb
    obtain⟨c',hc',Rc'⟩:=g2' i q hb
    have hw:=VY hb
    have hq:cK q=q.name.length+q.super.length+cF q.fields+1:=rfl
    have hT:=aaP q.fields
    obtain⟨vp,rfl,Vp⟩:=Rc
    obtain⟨vp',rfl,Vp'⟩:=Rc'
    repeat first |(with_reducible first |refine aA ?_ |refine aR ?_ |refine bJ ?_ |refine dx ?_ |refine bL ?_ |refine bg ?_ |refine aW ?_ |refine bP ?_ |refine eu ?_ |refine dL ?_ |refine dF ?_ |refine dM ?_ |refine dI ?_ |refine eF ?_ |refine aB A.var rfl ?_ |refine aB A.v1 rfl ?_ |refine aB A.v2 rfl ?_ |refine aB A.v3 rfl ?_ |refine aJ A.var rfl ?_ |refine aJ A.v1 rfl ?_ |refine aJ A.v2 rfl ?_ |refine aJ A.v3 rfl ?_)
    refine pO (V.ext e0) hc fun i1 g1 j1 q1=> ?_
    repeat first |refine aS (q1 false 0 1) ?_ |(with_reducible first |refine aA ?_ |refine aR ?_ |refine bJ ?_ |refine dx ?_ |refine bL ?_ |refine bg ?_ |refine aW ?_ |refine bP ?_ |refine eu ?_ |refine dL ?_ |refine dF ?_ |refine dM ?_ |refine dI ?_ |refine eF ?_ |refine aB A.var rfl ?_ |refine aB A.v1 rfl ?_ |refine aB A.v2 rfl ?_ |refine aB A.v3 rfl ?_ |refine aJ A.var rfl ?_ |refine aJ A.v1 rfl ?_ |refine aJ A.v2 rfl ?_ |refine aJ A.v3 rfl ?_)
    refine pO (V'.ext e0) hc' fun i2 g2 j2 q2=> ?_
    repeat first |refine aS (q2 false 0 1) ?_ |refine AQ ?_ |(with_reducible first |refine aA ?_ |refine aR ?_ |refine bJ ?_ |refine dx ?_ |refine bL ?_ |refine bg ?_ |refine aW ?_ |refine bP ?_ |refine eu ?_ |refine dL ?_ |refine dF ?_ |refine dM ?_ |refine dI ?_ |refine eF ?_ |refine aB A.var rfl ?_ |refine aB A.v1 rfl ?_ |refine aB A.v2 rfl ?_ |refine aB A.v3 rfl ?_ |refine aJ A.var rfl ?_ |refine aJ A.v1 rfl ?_ |refine aJ A.v2 rfl ?_ |refine aJ A.v3 rfl ?_)
    refine pO (V.ext e0) hc fun i1 g1 j1 q1=> ?_
    repeat first |refine aS (q1 false 1 1) ?_ |(with_reducible first |refine aA ?_ |refine aR ?_ |refine bJ ?_ |refine dx ?_ |refine bL ?_ |refine bg ?_ |refine aW ?_ |refine bP ?_ |refine eu ?_ |refine dL ?_ |refine dF ?_ |refine dM ?_ |refine dI ?_ |refine eF ?_ |refine aB A.var rfl ?_ |refine aB A.v1 rfl ?_ |refine aB A.v2 rfl ?_ |refine aB A.v3 rfl ?_ |refine aJ A.var rfl ?_ |refine aJ A.v1 rfl ?_ |refine aJ A.v2 rfl ?_ |refine aJ A.v3 rfl ?_)
    refine pO (V'.ext e0) hc' fun i2 g2 j2 q2=> ?_
    repeat first |refine aS (q2 false 1 1) ?_ |refine AQ ?_ |(with_reducible first |refine aA ?_ |refine aR ?_ |refine bJ ?_ |refine dx ?_ |refine bL ?_ |refine bg ?_ |refine aW ?_ |refine bP ?_ |refine eu ?_ |refine dL ?_ |refine dF ?_ |refine dM ?_ |refine dI ?_ |refine eF ?_ |refine aB A.var rfl ?_ |refine aB A.v1 rfl ?_ |refine aB A.v2 rfl ?_ |refine aB A.v3 rfl ?_ |refine aJ A.var rfl ?_ |refine aJ A.v1 rfl ?_ |refine aJ A.v2 rfl ?_ |refine aJ A.v3 rfl ?_)
    refine pO (V.ext e0) hc fun i1 g1 j1 q1=> ?_
    repeat first |refine aS (q1 false 2 1) ?_ |(with_reducible first |refine aA ?_ |refine aR ?_ |refine bJ ?_ |refine dx ?_ |refine bL ?_ |refine bg ?_ |refine aW ?_ |refine bP ?_ |refine eu ?_ |refine dL ?_ |refine dF ?_ |refine dM ?_ |refine dI ?_ |refine eF ?_ |refine aB A.var rfl ?_ |refine aB A.v1 rfl ?_ |refine aB A.v2 rfl ?_ |refine aB A.v3 rfl ?_ |refine aJ A.var rfl ?_ |refine aJ A.v1 rfl ?_ |refine aJ A.v2 rfl ?_ |refine aJ A.v3 rfl ?_)
    refine pO (V'.ext e0) hc' fun i2 g2 j2 q2=> ?_
    repeat first |refine aS (q2 false 2 1) ?_ |(with_reducible first |refine aA ?_ |refine aR ?_ |refine bJ ?_ |refine dx ?_ |refine bL ?_ |refine bg ?_ |refine aW ?_ |refine bP ?_ |refine eu ?_ |refine dL ?_ |refine dF ?_ |refine dM ?_ |refine dI ?_ |refine eF ?_ |refine aB A.var rfl ?_ |refine aB A.v1 rfl ?_ |refine aB A.v2 rfl ?_ |refine aB A.v3 rfl ?_ |refine aJ A.var rfl ?_ |refine aJ A.v1 rfl ?_ |refine aJ A.v2 rfl ?_ |refine aJ A.v3 rfl ?_)
    refine c14 (by omega) (by omega) (Vp.ext e0) (Vp'.ext e0) ?_
    refine aG rfl ?_
    repeat first |(with_reducible first |refine aA ?_ |refine aR ?_ |refine bJ ?_ |refine dx ?_ |refine bL ?_ |refine bg ?_ |refine aW ?_ |refine bP ?_ |refine eu ?_ |refine dL ?_ |refine dF ?_ |refine dM ?_ |refine dI ?_ |refine eF ?_ |refine aB A.var rfl ?_ |refine aB A.v1 rfl ?_ |refine aB A.v2 rfl ?_ |refine aB A.v3 rfl ?_ |refine aJ A.var rfl ?_ |refine aJ A.v1 rfl ?_ |refine aJ A.v2 rfl ?_ |refine aJ A.v3 rfl ?_)
    refine nP (by omega) ?_
    exact ih (i+1) (by omega) (by omega)
   ·rw[decide_eq_false hlt]
    exact bg (k h A)
 exact lp n 0 (Nat.zero_le _) (by omega)
set_option maxRecDepth 100000 in
theorem c8 {c c':List AV} (hB:Bg b≤big) (hn:3*Bg b+20≤n) (ho:h.Ok) (R:rH h c b) (R':rH h c' b) (k:∀h',Ext h h'→h'.Ok→K (.bool true) h'=true):au E n (.func 8) [.agg c, .agg c'] h K=true:=by
 obtain⟨n,rfl⟩:∃m,n=m+1:=⟨n-1,by omega⟩
 have hb:Bg b=SX b.classes+SY b.rules+S9 b.queries:=rfl
 have C1:=R.cells
 have C2:=R'.cells
 obtain⟨v0,e0,v1,e1,v2,e2,rfl,V0,R0,V1,R1,V2,R2⟩:=R
 obtain⟨w0,f0,w1,f1,w2,f2,rfl,W0,S0,W1,S1,W2,S2⟩:=R'
 have A:=Cx.start ho (F:=[]) (fun R m=>nomatch m)
 apply d8
 unfold s8
 refine Aw A C1.1 rfl C1.2 fun a h1 A=> ?_
 refine Ou A C2.1 rfl C2.2 fun a' h1 A=> ?_
 have A:=A.swapL
 have e:Ext h h1:=A.f0
 repeat first |refine fM (V0.ext e) ?_ |refine fM (W0.ext e) ?_ |(with_reducible first |refine aA ?_ |refine aR ?_ |refine bJ ?_ |refine dx ?_ |refine bL ?_ |refine bg ?_ |refine aW ?_ |refine bP ?_ |refine eu ?_ |refine dL ?_ |refine dF ?_ |refine dM ?_ |refine dI ?_ |refine eF ?_ |refine aB A.var rfl ?_ |refine aB A.v1 rfl ?_ |refine aB A.v2 rfl ?_ |refine aB A.v3 rfl ?_ |refine aJ A.var rfl ?_ |refine aJ A.v1 rfl ?_ |refine aJ A.v2 rfl ?_ |refine aJ A.v3 rfl ?_)
 rw[R0.len,S0.len,decide_eq_true rfl,Bool.not_true]
 repeat first |refine fM (V1.ext e) ?_ |refine fM (W1.ext e) ?_ |(with_reducible first |refine aA ?_ |refine aR ?_ |refine bJ ?_ |refine dx ?_ |refine bL ?_ |refine bg ?_ |refine aW ?_ |refine bP ?_ |refine eu ?_ |refine dL ?_ |refine dF ?_ |refine dM ?_ |refine dI ?_ |refine eF ?_ |refine aB A.var rfl ?_ |refine aB A.v1 rfl ?_ |refine aB A.v2 rfl ?_ |refine aB A.v3 rfl ?_ |refine aJ A.var rfl ?_ |refine aJ A.v1 rfl ?_ |refine aJ A.v2 rfl ?_ |refine aJ A.v3 rfl ?_)
 rw[R1.len,S1.len,decide_eq_true rfl,Bool.not_true]
 repeat first |refine fM (V2.ext e) ?_ |refine fM (W2.ext e) ?_ |(with_reducible first |refine aA ?_ |refine aR ?_ |refine bJ ?_ |refine dx ?_ |refine bL ?_ |refine bg ?_ |refine aW ?_ |refine bP ?_ |refine eu ?_ |refine dL ?_ |refine dF ?_ |refine dM ?_ |refine dI ?_ |refine eF ?_ |refine aB A.var rfl ?_ |refine aB A.v1 rfl ?_ |refine aB A.v2 rfl ?_ |refine aB A.v3 rfl ?_ |refine aJ A.var rfl ?_ |refine aJ A.v1 rfl ?_ |refine aJ A.v2 rfl ?_ |refine aJ A.v3 rfl ?_)
 rw[R2.len,S2.len,decide_eq_true rfl,Bool.not_true]
 repeat first |(with_reducible first |refine aA ?_ |refine aR ?_ |refine bJ ?_ |refine dx ?_ |refine bL ?_ |refine bg ?_ |refine aW ?_ |refine bP ?_ |refine eu ?_ |refine dL ?_ |refine dF ?_ |refine dM ?_ |refine dI ?_ |refine eF ?_ |refine aB A.var rfl ?_ |refine aB A.v1 rfl ?_ |refine aB A.v2 rfl ?_ |refine aB A.v3 rfl ?_ |refine aJ A.var rfl ?_ |refine aJ A.v1 rfl ?_ |refine aJ A.v2 rfl ?_ |refine aJ A.v3 rfl ?_)
 refine p14 (by omega) (by omega) V0 R0 W0 S0 A fun h1 A=> ?_
 refine p35 (by omega) (by omega) V1 R1 W1 S1 A fun h1 A=> ?_
 exact p60 (by omega) (by omega) V2 R2 W2 S2 A k
end
theorem aai {l:Str} {kd m:Nat} {t:Str} (h:lK l=some (kd,t,m)):t.length≤l.length:=by
 cases l with
 |nil=>cases h
 |cons c l=>
  have h:(if kP c=true then some (0,(c :: l).take (mG (c :: l)),mG (c :: l))
   else if c=36 then(if 0<mG l then some (1,l.take (mG l),mG l+1) else none)
   else if gD c=true then some (2,(c :: l).take ((c :: l).takeWhile gD).length,((c :: l).takeWhile gD).length)
   else if c=34 then(quo l).map fun r=>(3,r.1,r.2+1)
   else if 0<kK (c :: l) then some (4,(c :: l).take (kK (c :: l)),kK (c :: l)) else none)=some (kd,t,m):=h
  have tk:∀(n:Nat) (s:Str),s.length≤l.length+1→(s.take n).length≤(c :: l).length:=fun n s hs=>by
   rw[List.length_take,List.length_cons];omega
  by_cases h1:kP c=true
  ·rw[if_pos h1] at h;cases h;exact tk _ _ (Nat.le_refl _)
  rw[if_neg h1] at h
  by_cases h2:c=36
  ·rw[if_pos h2] at h
   by_cases h3:0<mG l
   ·rw[if_pos h3] at h;cases h;exact tk _ _ (Nat.le_succ _)
   ·rw[if_neg h3] at h;cases h
  rw[if_neg h2] at h
  by_cases hd:gD c=true
  ·rw[if_pos hd] at h;cases h;exact tk _ _ (Nat.le_refl _)
  rw[if_neg hd] at h
  by_cases h4:c=34
  ·rw[if_pos h4] at h
   cases e:quo l with
   |none=>rw[e] at h;cases h
   |some r=>
    rw[e] at h
    simp only[Option.map_some,Option.some.injEq,Prod.mk.injEq] at h
    have:=Oi l r.1 r.2 e
    rw[←h.2.1,List.length_cons];omega
  rw[if_neg h4] at h
  by_cases h5:0<kK (c :: l)
  ·rw[if_pos h5] at h;cases h;exact tk _ _ (Nat.le_refl _)
  ·rw[if_neg h5] at h;cases h
theorem Rz:∀(f p:Nat) (l:Str) (r:List Lx),kC f p l= .ok r→∀y∈r,y.text.length≤l.length
 |0,_,_,_,h=>by cases h;intro y hy;cases hy
 |f+1,p,l,r,h=>by
  simp only[kC] at h
  by_cases hend:l.length≤skip false l
  ·rw[if_pos hend] at h;cases h;intro y hy;cases hy
  ·rw[if_neg hend] at h
   cases hn:lK (l.drop (skip false l)) with
   |none=>rw[hn] at h;cases h
   |some q=>
    obtain⟨kd,t,m⟩:=q
    rw[hn] at h
    simp only at h
    cases hr:kC f (p+skip false l+m) (l.drop (skip false l+m)) with
    |error e=>rw[hr] at h;cases h
    |ok r'=>
     rw[hr] at h
     have ih:=Rz f _ _ r' hr
     cases h
     intro y hy
     rcases List.mem_cons.1 hy with rfl |hy
     ·have:=aai hn
      simp only[List.length_drop] at this
      simp only;omega
     ·have:=ih y hy
      simp only[List.length_drop] at this
      omega
theorem RX {m:Nat}:∀(T:List Lx),(∀y∈T,y.text.length≤m)→(T.map fun l=>l.text.length+10).sum≤T.length*(m+10)
 | [],_=>Nat.le_of_eq (by simp)
 |y :: T,h=>by
  have h1:=h y List.mem_cons_self
  have h2:=RX T fun z hz=>h z (List.mem_cons_of_mem _ hz)
  simp only[List.map_cons,List.sum_cons,List.length_cons]
  rw[Nat.add_mul,Nat.one_mul]
  omega
theorem TV {T:List Lx} {m kk:Nat} {b:wz} {i:Nat} {o:Int} (hT:T.length≤4096) (h:∀y∈T,y.text.length≤m) (e:oW T kk 0 0= .ok b i o):Bg b≤4096*(m+10):=by
 unfold oW at e
 obtain⟨b',i1,o1,e1,e⟩:=Gu e
 split at e
 ·rename_i hi
  cases e
  have:=Pd kk kk _ e1
  have h2:=RX T h
  have h3:wt T i=(T.map fun l=>l.text.length+10).sum:=by unfold wt;rw[hi,List.take_length]
  have h4:wt T 0=0:=by unfold wt;simp
  have h5:Bg ⟨[],[],[]⟩=0:=rfl
  have h6:T.length*(m+10)≤4096*(m+10):=Nat.mul_le_mul hT (Nat.le_refl _)
  omega
 ·cases e
theorem VK {s:Str} {kk:Nat} {b:wz} (h:s.length≤60000) (e:Bo kk s= .ok b):Bg b≤4096*(s.length+10):=by
 unfold Bo at e
 cases hl:uG s with
 |error x=>rw[hl] at e;cases e
 |ok T=>
  rw[hl] at e
  simp only at e
  cases hf:oW T kk 0 0 with
  |out=>rw[hf] at e;cases e
  |fail x=>rw[hf] at e;cases e
  |ok b' i o=>
   rw[hf] at e
   cases e
   obtain⟨hl',_⟩:=NG _ _ _ _ _ hl (Nat.zero_le _)
   rw[List.drop_zero] at hl'
   exact TV (Od h hl).len (Rz _ _ _ _ hl') hf
theorem FZ {s:Str} {kk:Nat} {b:wz} (h:s.length≤4096) (e:Bo kk s= .ok b):Bg b≤17000000:=by
 have:=VK (by omega) e
 omega
theorem aaM {s:Str} {kk:Nat} (h:Bo kk s≠ .error 0):∀T,uG s= .ok T→oW T kk 0 0≠ .out:=by
 intro T hl hf
 apply h
 unfold Bo
 rw[hl]
 simp only[hf]
theorem abB {h:aj} {v:AV} {n:Nat} {es:List (List AV)} {k:AV→Bool} (m:Int) (V:View h n v es) (e:(es.length:Int)=m) (s:k (.int .i64 m)=true):iq v k=true:=fM V (by rw[e];exact s)
def ZV:Str:=[114,117,108,101,32,34,114,34,32,115,97,108,105,101,110,99,101,32,45,50,32,119,104,101,110,32,36,112,32,58,32,80,40,120,32,62,32,49,44,32,36,121,32,58,32,121,41,32,110,111,116,32,40,81,40,122,32,61,61,32,36,121,41,41,32,116,104,101,110,32,105,110,115,101,114,116,32,82,32,123,32,97,32,61,32,36,121,32,43,32,49,32,125,59,32,101,110,100]
def abS:Str:=[114,117,108,101]
theorem YF:(match Bo 200 ZV with
 | .ok b=>match b.rules with
   | [r]=>decide (r.sal= -2)&&decide (r.whn.length=2)
   |_=>false
 | .error _=>false)=true:=by kernel_rfl
theorem Zg:(match Bo 200 abS with
 | .ok b=>false
 | .error e=>decide (e=4))=true:=by kernel_rfl
section
variable {h:aj} {L:jB} {S:List Sl} {F:List (aj→Prop)} {n:Nat} {K:aM}
theorem c9 (hn:2000≤n) (hg:ZL∈F) (A:Cx h L S F) (k:∀h,K (.bool true) h=true):au E n (.func 9) [] h K=true:=by
 obtain⟨n,rfl⟩:∃m,n=m+1:=⟨n-1,by omega⟩
 apply d9
 unfold s9
 have h1:=YF
 cases hp:Bo 200 ZV with
 |error e=>rw[hp] at h1;cases h1
 |ok b=>
  rw[hp] at h1
  simp only at h1
  obtain⟨r,hr⟩:∃r,b.rules=[r]:=by
   cases hb:b.rules with
   |nil=>rw[hb] at h1;cases h1
   |cons r l=>
    cases l with
    |nil=>exact⟨r,rfl⟩
    |cons r' l=>rw[hb] at h1;cases h1
  rw[hr] at h1
  simp only[Bool.and_eq_true,decide_eq_true_eq] at h1
  refine c6k (s:=ZV) (kk:=200) (by omega) (by omega) (by show 98+40≤n;omega) (by decide) (by show 98≤60000;omega) hg A (aaM (by rw[hp];simp)) ?_
  rw[hp]
  intro h c A
  have C:=(A.f0:rH h c b).cells
  refine aG rfl ?_
  unfold OA
  refine jR (jQ (xA ?_))
  refine pW A rfl rfl rfl fun a h A=> ?_
  refine Hg A rfl C.1 rfl C.2 fun h A=> ?_
  have h2:=Zg
  cases hp2:Bo 200 abS with
  |ok b=>rw[hp2] at h2;cases h2
  |error e=>
   rw[hp2] at h2
   have h2:e=4:=of_decide_eq_true h2
   subst h2
   refine c6k (s:=abS) (kk:=200) (by omega) (by omega) (by show 4+40≤n;omega) (by decide) (by show 4≤60000;omega) (List.mem_cons_of_mem _ hg) A (aaM (by rw[hp2];intro q;cases q)) ?_
   rw[hp2]
   intro h A
   refine aG rfl ?_
   unfold PG
   refine jR (jQ (xA ?_))
   refine bZ A rfl rfl rfl fun a2 h A=> ?_
   refine iG A rfl rfl rfl rfl fun h A=> ?_
   obtain⟨v0,e0,v1,e1,v2,e2,rfl,V0,R0,V1,R1,V2,R2⟩:=(A.f0:rH h c b)
   rw[hr] at R1
   obtain⟨c,e1,rfl,⟨vw,ew,vt,et,rfl,Vw,Rw,Vt,Rt⟩,rfl⟩:=R1
   have hw:=Rw.len
   rw[h1.2] at hw
   have hw:((ew.length:Nat):Int)=2:=by rw[hw];rfl
   repeat first |refine RF ?_ |refine abB 1 V1 rfl ?_ |(with_reducible first |refine aA ?_ |refine aW ?_ |refine dF ?_ |refine aB A.var rfl ?_)
   refine pO (i:=0) V1 rfl fun i1 g1 j1 q1=> ?_
   have hs:eP h false 1 (.ptr i1 g1 j1 1)=some (.int .i64 (-2)):=by
    rw[q1 false 1 1]
    show some (AV.int .i64 r.sal)=_
    rw[h1.1]
   repeat first |refine RF ?_ |refine aS hs ?_ |(with_reducible first |refine aA ?_ |refine aW ?_ |refine dF ?_ |refine aB A.var rfl ?_)
   refine pO (i:=0) V1 rfl fun i2 g2 j2 q2=> ?_
   repeat first |refine RF ?_ |refine aS (q2 false 6 1) ?_ |refine abB 2 Vw hw ?_ |(with_reducible first |refine aR ?_ |refine aW ?_ |refine dF ?_)
   exact k h
end
section
variable {T:List Lx} {α:Type} {d:Int}
theorem CW {c:Nat→Bool} {m1 m2:PM α} (h1:Sh d m1) (h2:Sh d m2):Sh d fun i o=>if c i=true then m1 i o else m2 i o:=by
 intro i o v i' o' e
 simp only at e
 split at e
 ·exact h1 _ _ _ _ _ e
 ·exact h2 _ _ _ _ _ e
theorem jP {c:Nat→Bool} {m1 m2:PM α} (h1:Sh d m1) (h2:Sh d m2):Sh d fun i o=>if c i=true then m1 (i+1) o else m2 i o:=by
 intro i o v i' o' e
 simp only at e
 split at e
 ·exact uN h1 e
 ·exact h2 _ _ _ _ _ e
theorem Un {b:Bool} {m1 m2:PM α} (h1:Sh d m1) (h2:Sh d m2):Sh d (if b=true then m1 else m2):=by
 split
 ·exact h1
 ·exact h2
theorem sI {k:Nat}:Sh 0 (gH T k):=aN ((shE k).level 0) (fun _=>fB) rfl
theorem YT {k:Nat} (l:List (Str×Ex)):Sh 0 (ql T k l):=
 CW (c:=fun i=>dN T i 1&&bC T (i+1) [63]) (aN Bv (fun _=>aN jo (fun _=>fB) rfl) rfl) (aN sI (fun _=>fB) rfl)
theorem afn {k:Nat}:Sh 0 (QU T k):=aN nH (fun _=>aN jH (fun _=>aN (Du YT _ _) (fun _=>fB) rfl) rfl) rfl
theorem Y6 {k:Nat} (s:List (Str×Str)×List Ex):Sh 0 (nV T k s):=
 CW (c:=fun i=>dN T i 1&&bC T (i+1) [58]) (aN Bv (fun _=>aN jo (fun _=>aN nH (fun _=>fB) rfl) rfl) rfl) (aN sI (fun _=>fB) rfl)
theorem Kn {k:Nat} (v:Str):Sh 0 (jY T k v):=aN nH (fun _=>aN jH (fun _=>aN (Du Y6 _ _) (fun _=>fB) rfl) rfl) rfl
theorem af4 {k:Nat}:Sh 0 (Md T k):=CW (c:=fun i=>dN T i 1) (aN Bv (fun _=>aN jo (fun _=>Kn _) rfl) rfl) (Kn _)
structure ShC (T:List Lx) (k:Nat):Prop where
 conds:∀ends acc,Sh 0 (iI T k ends acc)
 some:∀ends,Sh 0 (gZ T k ends)
 block:Sh 0 (kY T k)
 alts:∀acc,Sh 0 (qI T k acc)
 or:Sh 0 (orM T k)
 acc:Sh 0 (Fb T k)
 cond:Sh 0 (qG T k)
theorem shC:∀k,ShC T k
 |0=>⟨fun _ _=>mY,fun _=>mY,mY,fun _=>mY,mY,mY,mY⟩
 |k+1=>by
  have W:=shC k
  refine⟨fun ends acc=> ?_,fun ends=> ?_, ?_,fun acc=> ?_, ?_, ?_, ?_⟩
  ·exact CW (c:=fun i=>ends.any fun w=>bC T i w) fB (aN W.cond (fun _=>W.conds _ _) rfl)
  ·exact aN W.cond (fun _=>aN (W.conds _ _) (fun _=>fB) rfl) rfl
  ·exact aN jH (fun _=>aN (W.some _) (fun _=>aN kX (fun _=>fB) rfl) rfl) rfl
  ·exact aN (W.some _) (fun _=>aN Dv (fun _=>Un (W.alts _) fB) rfl) rfl
  ·exact aN jH (fun _=>aN (W.some _) (fun _=>aN jo (fun _=>aN (W.alts _) (fun _=>aN kX (fun _=>fB) rfl) rfl) rfl) rfl) rfl
  ·exact aN jH (fun _=>aN Bv (fun _=>aN jo (fun _=>aN Dv (fun _=>aN (Un fB nH) (fun _=>aN jH (fun _=>aN sI (fun _=>aN kX (fun _=>
    aN jo (fun _=>aN (W.some _) (fun _=>aN kX (fun _=>fB) rfl) rfl) rfl) rfl) rfl) rfl) rfl) rfl) rfl) rfl) rfl
  ·exact jP (c:=fun i=>bC T i Ut) (aN W.block (fun _=>fB) rfl) (jP (c:=fun i=>bC T i wO) (aN W.block (fun _=>fB) rfl)
    (jP (c:=fun i=>bC T i xg) (aN jH (fun _=>aN (W.some _) (fun _=>aN jo (fun _=>aN (W.some _) (fun _=>aN kX (fun _=>fB) rfl) rfl) rfl) rfl) rfl)
    (CW (c:=fun i=>bC T i [40]) W.or (jP (c:=fun i=>bC T i Kc) (aN jH (fun _=>aN sI (fun _=>aN kX (fun _=>fB) rfl) rfl) rfl)
    (jP (c:=fun i=>bC T i TP) W.acc (jP (c:=fun i=>bC T i [63]) afn (CW (c:=fun i=>dN T i 1&& !bC T (i+1) [58]) (aN Bv (fun _=>aN jo (fun _=>aN sI (fun _=>fB) rfl) rfl) rfl) af4)))))))
theorem Yj {k:Nat} (l:List (Str×Ex)):Sh 0 (iw T k l):=aN nH (fun _=>aN jo (fun _=>aN sI (fun _=>fB) rfl) rfl) rfl
theorem XT {k:Nat} {least:Bool}:Sh 0 (oQ T k least):=by
 refine aN jH (b:= -1) (fun _=> ?_) rfl
 intro i o v i' o' e
 have hl:fV T [125] (iw T k) k [] i o= .ok v i' o':=by
  simp only at e
  split at e
  ·rw[CJ] at e
   split at e
   ·cases e
   ·exact e
  ·exact e
 exact Du Yj _ _ _ _ _ _ _ hl
theorem zW {a:Act}:Sh 0 (kZ T a):=aN jo (fun _=>fB) rfl
theorem afR {k:Nat}:Sh 0 (AA T k):=by
 have e:AA T k=fun i o=>if(bC T i oC||bC T i gI)=true then bnd (xW T) (fun t=>bnd (fD T) fun c=>bnd (oQ T k false) fun l=>kZ T ⟨if t=gI then 2 else 1,c,l,rX,[]⟩) i o
  else if bC T i uI=true then bnd (gH T k) (fun e=>bnd (oQ T k true) fun l=>kZ T ⟨3,[],l,e,[]⟩) (i+1) o
  else if bC T i uX=true then bnd (gH T k) (fun e=>kZ T ⟨4,[],[],e,[]⟩) (i+1) o
  else if bC T i yL=true then bnd (iE T) (fun t=>kZ T ⟨5,[],[],rX,t⟩) (i+1) o
  else if bC T i zq=true then bnd (gH T k) (fun e=>kZ T ⟨6,[],[],e,[]⟩) (i+1) o
  else bnd (bU T Mk) (fun _=>kZ T ⟨7,[],[],rX,[]⟩) i o:=by
  funext i o
  exact congrFun (congrFun (congrFun (congrFun (I9 k) 0) T) i) o
 rw[e]
 exact CW (c:=fun i=>bC T i oC||bC T i gI) (aN acS (fun _=>aN nH (fun _=>aN XT (fun _=>zW) rfl) rfl) rfl)
  (jP (c:=fun i=>bC T i uI) (aN sI (fun _=>aN XT (fun _=>zW) rfl) rfl) (jP (c:=fun i=>bC T i uX) (aN sI (fun _=>zW) rfl)
  (jP (c:=fun i=>bC T i yL) (aN zZ (fun _=>zW) rfl) (jP (c:=fun i=>bC T i zq) (aN sI (fun _=>zW) rfl) (aN jo (fun _=>zW) rfl)))))
theorem afe:Sh 0 (Jl T):=by
 refine aN Dv (b:=0) (fun b=> ?_) rfl
 intro i o v i' o' e
 simp only at e
 split at e
 ·split at e
  ·split at e<;>cases e
   exact⟨by omega,by omega⟩
  ·cases e
 ·cases e
theorem sh_head:∀(k:Nat) (r:Ay),Sh 0 (jw T k r)
 |0,_=>mY
 |k+1,r=>jP (c:=fun i=>bC T i Ko) (m1:=ret r) fB (jP (c:=fun i=>bC T i Zm) (aN afe (fun _=>sh_head k _) rfl) (jP (c:=fun i=>bC T i FD) (aN zZ (fun _=>sh_head k _) rfl)
  (jP (c:=fun i=>bC T i Nb) (aN zZ (fun _=>sh_head k _) rfl) (jP (c:=fun i=>bC T i zN) (m1:=jw T k {r with noloop:=true}) (sh_head k _) (aN jo (fun _=>sh_head k _) rfl)))))
theorem XF (k0:Nat):∀(k:Nat) (acc:List Act),Sh 0 (pY T k0 k acc)
 |0,_=>mY
 |k+1,acc=>jP (c:=fun i=>bC T i wG) (m1:=ret acc) fB (aN afR (fun _=>XF k0 k _) rfl)
theorem acU {k:Nat}:Sh 0 (wD T k):=aN zZ (fun _=>aN (sh_head k _) (fun _=>aN ((shC k).conds _ _) (fun _=>aN jo (fun _=>aN (XF k k _) (fun _=>fB) rfl) rfl) rfl) rfl) rfl
theorem Zw (l:List Str):Sh 0 (pR T l):=aN Bv (fun _=>fB) rfl
theorem aaE {k:Nat}:Sh 0 (oK T k):=aN nH (fun _=>aN jH (fun _=>aN (Du Zw _ _) (fun _=>aN ((shC k).conds _ _) (fun _=>aN jo (fun _=>fB) rfl) rfl) rfl) rfl) rfl
theorem JF:Sh 0 (oJ T):=aN nH (fun nm=>aN jo (b:=0) (fun _=>(jP (c:=fun i=>bC T i RO) (m1:=ret _) fB (jP (c:=fun i=>bC T i GU) (m1:=ret _) fB (jP (c:=fun i=>bC T i G5) (m1:=ret _) fB
 (jP (c:=fun i=>bC T i oO) (m1:=ret _) fB (jP (c:=fun i=>bC T i Rj) (m1:=ret _) fB (aN jo (fun _=>aN nH (fun _=>fB) rfl) rfl))))):Sh 0 (vC nm T))) rfl) rfl
theorem zK:∀(k:Nat) (first:Bool) (acc:List BR),Sh 0 (gF T k first acc)
 |0,_,_=>mY
 |k+1,true,acc=>CW (c:=fun i=>bC T i [125]) fB (aN JF (fun _=>zK k false _) rfl)
 |k+1,false,acc=>jP (c:=fun i=>bC T i [44]) (aN JF (fun _=>zK k false _) rfl) (CW (c:=fun i=>nY T i) (aN JF (fun _=>zK k false _) rfl) fB)
theorem Z0 {k:Nat}:Sh 0 (qM T k):=aN nH (fun _=>aN (aN Dv (fun _=>Un nH fB) rfl) (fun _=>aN jH (fun _=>aN (zK k true []) (fun _=>aN kX (fun _=>fB) rfl) rfl) rfl) rfl) rfl
end
theorem sO {T:List Lx} {k0 k:Nat} {b:wz} {i:Nat} {o:Int}:fO T k0 (k+1) b i o=if i<T.length then
 (if bC T i qd=true then bnd (qM T k0) (fun c=>fO T k0 k {b with classes:=b.classes++[c]}) (i+1) o
 else if bC T i wm=true then bnd (wD T k0) (fun r=>fO T k0 k {b with rules:=b.rules++[r]}) (i+1) o
 else bnd (bU T xP) (fun _=>bnd (oK T k0) fun q=>fO T k0 k {b with queries:=b.queries++[q]}) i o)
 else .ok b i o:=rfl
theorem Cw {T:List Lx} (k0:Nat) (U:List Lx):∀(k:Nat) (b:wz) (i:Nat) (o:Int) (v:wz) (i':Nat) (o':Int),fO T k0 k b i o= .ok v i' o'→∃j,j≤k∧k+i≤j+i'∧o'=o∧fO (T++U) k0 k b i o=fO (T++U) k0 j v i' o'
 |0,b,i,o,v,i',o',h=>by cases h
 |k+1,b,i,o,v,i',o',h=>by
  rw[sO] at h
  by_cases hi:i<T.length
  ·rw[if_pos hi] at h
   have hU:i<(T++U).length:=by rw[List.length_append];omega
   rw[sO,if_pos hU,(fG qd).loc T U i hi,(fG wm).loc T U i hi]
   by_cases h1:bC T i qd=true
   ·rw[if_pos h1] at h ⊢
    obtain⟨c,i1,o1,e1,h⟩:=bW h
    rw[PK ((Fa k0).loc 0 T U _ _ _ _ _ e1)]
    have s1:=Z0 _ _ _ _ _ e1
    obtain⟨j,q1,q2,q3,q4⟩:=Cw k0 U k _ _ _ _ _ _ h
    exact⟨j,by omega,by omega,by rw[q3,s1.1];omega,q4⟩
   rw[if_neg h1] at h ⊢
   by_cases h2:bC T i wm=true
   ·rw[if_pos h2] at h ⊢
    obtain⟨c,i1,o1,e1,h⟩:=bW h
    rw[PK ((IL k0).loc 0 T U _ _ _ _ _ e1)]
    have s1:=acU _ _ _ _ _ e1
    obtain⟨j,q1,q2,q3,q4⟩:=Cw k0 U k _ _ _ _ _ _ h
    exact⟨j,by omega,by omega,by rw[q3,s1.1];omega,q4⟩
   rw[if_neg h2] at h ⊢
   obtain⟨_,i1,o1,e1,h⟩:=bW h
   obtain⟨c,i2,o2,e2,h⟩:=bW h
   rw[PK ((uj xP).loc 0 T U _ _ _ _ _ e1),PK ((EL k0).loc 0 T U _ _ _ _ _ e2)]
   have s1:=jo _ _ _ _ _ e1
   have s2:=aaE _ _ _ _ _ e2
   have s3:=Af xP 0 _ _ _ _ _ _ e1
   obtain⟨j,q1,q2,q3,q4⟩:=Cw k0 U k _ _ _ _ _ _ h
   exact⟨j,by omega,by omega,by rw[q3,s2.1,s1.1];omega,q4⟩
  ·rw[if_neg hi] at h
   cases h
   exact⟨k+1,Nat.le_refl _,Nat.le_refl _,rfl,rfl⟩
theorem OY {d:Nat} {T U:List Lx} (q:Qm d T U) {i:Nat}:i<T.length↔d+i<U.length:=by
 constructor
 ·intro h
  obtain⟨m,e,_⟩:=q.some (List.getElem?_eq_getElem h)
  exact(List.getElem?_eq_some_iff.1 e).1
 ·intro h
  apply Decidable.byContradiction
  intro hn
  have:=q.none (List.getElem?_eq_none (Nat.le_of_not_lt hn))
  rw[List.getElem?_eq_none_iff] at this
  omega
theorem Ib {d:Nat} {T U:List Lx} (q:Qm d T U) (k0:Nat):∀(k:Nat) (b:wz) (i:Nat) (o:Int),fO U k0 k b (d+i) o=(fO T k0 k b i o).mv d
 |0,_,_,_=>rfl
 |k+1,b,i,o=>by
  rw[sO,sO,(fG qd).sf T U d i q,(fG wm).sf T U d i q]
  by_cases hi:i<T.length
  ·rw[if_pos hi,if_pos (OY q |>.1 hi)]
   by_cases h1:bC T i qd=true
   ·rw[if_pos h1,if_pos h1]
    exact Jh (m:=fun _ T=>qM T k0) (g:=fun c _ T=>fO T k0 k {b with classes:=b.classes++[c]}) (x:=0) (i:=i+1) (U:=U) (T:=T) (fun x T U d i o q=>(Fa k0).sf x T U d i o q) (fun v x T U d i o q=>Ib q k0 k _ i o) q
   rw[if_neg h1,if_neg h1]
   by_cases h2:bC T i wm=true
   ·rw[if_pos h2,if_pos h2]
    exact Jh (m:=fun _ T=>wD T k0) (g:=fun c _ T=>fO T k0 k {b with rules:=b.rules++[c]}) (x:=0) (i:=i+1) (U:=U) (T:=T) (fun x T U d i o q=>(IL k0).sf x T U d i o q) (fun v x T U d i o q=>Ib q k0 k _ i o) q
   rw[if_neg h2,if_neg h2]
   exact Jh (m:=fun _ T=>bU T xP) (g:=fun _ _ T=>bnd (oK T k0) fun c=>fO T k0 k {b with queries:=b.queries++[c]}) (x:=0) (U:=U) (T:=T) (fun x T U d i o q=>(uj xP).sf x T U d i o q)
    (fun v x T U d i o q=>Jh (m:=fun _ T=>oK T k0) (g:=fun c _ T=>fO T k0 k {b with queries:=b.queries++[c]}) (x:=0) (fun x T U d i o q=>(EL k0).sf x T U d i o q) (fun v x T U d i o q=>Ib q k0 k _ i o) q) q
  ·rw[if_neg hi,if_neg (fun h=>hi (OY q |>.2 h))]
   rfl
def jn (x b:wz):wz:=⟨x.classes++b.classes,x.rules++b.rules,x.queries++b.queries⟩
def Hw.map {α β:Type} (f:α→β):Hw α→Hw β
 | .ok v i o=> .ok (f v) i o
 | .fail i=> .fail i
 | .out=> .out
theorem Ii {α β γ:Type} {f:β→γ} {m:PM α} {g:α→PM β} {g':α→PM γ} (h:∀v i o,g' v i o=(g v i o).map f) (i:Nat) (o:Int):bnd m g' i o=(bnd m g i o).map f:=by
 unfold bnd
 cases m i o with
 |ok v i o=>exact h v i o
 |fail i=>rfl
 |out=>rfl
theorem DY {T:List Lx} (k0:Nat) (x:wz):∀(k:Nat) (b:wz) (i:Nat) (o:Int),fO T k0 k (jn x b) i o=(fO T k0 k b i o).map (jn x)
 |0,_,_,_=>rfl
 |k+1,b,i,o=>by
  rw[sO,sO]
  by_cases hi:i<T.length
  ·rw[if_pos hi,if_pos hi]
   by_cases h1:bC T i qd=true
   ·rw[if_pos h1,if_pos h1]
    exact Ii (fun c i o=>by
     have:=DY (T:=T) k0 x k {b with classes:=b.classes++[c]} i o
     simp only[jn,List.append_assoc] at this ⊢;exact this) _ _
   rw[if_neg h1,if_neg h1]
   by_cases h2:bC T i wm=true
   ·rw[if_pos h2,if_pos h2]
    exact Ii (fun c i o=>by
     have:=DY (T:=T) k0 x k {b with rules:=b.rules++[c]} i o
     simp only[jn,List.append_assoc] at this ⊢;exact this) _ _
   rw[if_neg h2,if_neg h2]
   exact Ii (fun _ i o=>Ii (fun c i o=>by
    have:=DY (T:=T) k0 x k {b with queries:=b.queries++[c]} i o
    simp only[jn,List.append_assoc] at this ⊢;exact this) i o) _ _
  ·rw[if_neg hi,if_neg hi];rfl
theorem OP {α β:Type} {m:PM α} {g g':α→PM β} {i:Nat} {o:Int} (h:∀v i o,g v i o≠ .out→g' v i o=g v i o) (hn:bnd m g i o≠ .out):bnd m g' i o=bnd m g i o:=by
 unfold bnd at hn ⊢
 cases e:m i o with
 |ok v i o=>rw[e] at hn;exact h v i o hn
 |fail i=>rfl
 |out=>rfl
theorem zL {T:List Lx} (k0 m:Nat):∀(k:Nat) (b:wz) (i:Nat) (o:Int),fO T k0 k b i o≠ .out→fO T k0 (k+m) b i o=fO T k0 k b i o
 |0,_,_,_,h=>absurd rfl h
 |k+1,b,i,o,h=>by
  rw[show k+1+m=k+m+1 by omega]
  rw[sO] at h
  rw[sO,sO]
  by_cases hi:i<T.length
  ·rw[if_pos hi] at h
   rw[if_pos hi,if_pos hi]
   by_cases h1:bC T i qd=true
   ·rw[if_pos h1] at h
    rw[if_pos h1,if_pos h1]
    exact OP (fun c i o hn=>zL k0 m k _ i o hn) h
   rw[if_neg h1] at h
   rw[if_neg h1,if_neg h1]
   by_cases h2:bC T i wm=true
   ·rw[if_pos h2] at h
    rw[if_pos h2,if_pos h2]
    exact OP (fun c i o hn=>zL k0 m k _ i o hn) h
   rw[if_neg h2] at h
   rw[if_neg h2,if_neg h2]
   exact OP (fun _ i o hn=>OP (fun c i o hn=>zL k0 m k _ i o hn) hn) h
  ·rw[if_neg hi,if_neg hi]
theorem Y5 {Ta Tb U:List Lx} {x:wz} {i:Nat} {o:Int} (q:Qm Ta.length Tb (Ta++U)) (hT:Ta.length+Tb.length≤4096) (h:oW Ta 100000 0 0= .ok x i o):oW (Ta++U) 100000 0 0=((oW Tb 100000 0 0).map (jn x)).mv Ta.length:=by
 unfold oW at h
 obtain⟨b',i1,o1,e1,h⟩:=Gu h
 split at h
 ·rename_i hi
  cases h
  obtain⟨j,q1,q2,q3,q4⟩:=Cw 100000 U _ _ _ _ _ _ _ e1
  have e0:jn x ⟨[],[],[]⟩=x:=by simp[jn]
  have hne:fO Tb 100000 j ⟨[],[],[]⟩ 0 0≠ .out:=DW 100000 j 4096 ⟨[],[],[]⟩ (by omega) (by omega) 0 Tb 0 0 (by omega)
  have e2:fO (Ta++U) 100000 100000 ⟨[],[],[]⟩ 0 0=((fO Tb 100000 100000 ⟨[],[],[]⟩ 0 0).map (jn x)).mv Ta.length:=by
   rw[q4,hi,q3]
   have:=Ib q 100000 j x 0 0
   rw[Nat.add_zero] at this
   rw[this, ←zL 100000 (100000-j) j x 0 0 (by
    rw[←e0,DY]
    intro hh
    cases hc:fO Tb 100000 j ⟨[],[],[]⟩ 0 0 with
    |ok v i o=>rw[hc] at hh;cases hh
    |fail i=>rw[hc] at hh;cases hh
    |out=>exact hne hc),show j+(100000-j)=100000 by omega]
   conv=>lhs;rw[←e0,DY]
  have hl:(Ta++U).length=Ta.length+Tb.length:=by
   have h1:=@OY _ _ _ q Tb.length
   have h2:=@OY _ _ _ q (Tb.length-1)
   rw[List.length_append] at *
   omega
  unfold oW bnd
  rw[e2]
  cases hb:fO Tb 100000 100000 ⟨[],[],[]⟩ 0 0 with
  |ok v i o=>
   simp only[Hw.map,Hw.mv,hl]
   by_cases hi2:i=Tb.length
   ·rw[if_pos hi2,if_pos (by omega)]
   ·rw[if_neg hi2,if_neg (by omega)]
  |fail i=>rfl
  |out=>rfl
 ·cases h
theorem ad1 {Ta Tb:List Lx} {d:Nat}:Qm Ta.length Tb (Ta++Tb.map (mvL d)):=by
 intro i
 rw[List.getElem?_append_right (Nat.le_add_right _ _),Nat.add_sub_cancel_left,List.getElem?_map]
 cases Tb[i]? <;>rfl
theorem abl {a b:Str} {x:wz} (h:a.length+b.length≤3000) (ha:wC a= .ok x):wC (a++[10]++b)=match wC b with
 | .ok y=> .ok (jn x y)
 | .error e=> .error (a.length+1+e):=by
 have hla:a.length≤4096:=by omega
 have hlb:b.length≤4096:=by omega
 have hlen:(a++[10]++b).length=a.length+1+b.length:=by simp;omega
 unfold wC Bo at ha ⊢
 cases la:uG a with
 |error e=>rw[la] at ha;cases ha
 |ok Ta=>
  rw[la] at ha
  simp only at ha
  cases fa:oW Ta 100000 0 0 with
  |out=>rw[fa] at ha;cases ha
  |fail i=>rw[fa] at ha;cases ha
  |ok x' i o=>
   rw[fa] at ha
   cases ha
   rw[aak (by omega),la]
   cases lb:uG b with
   |error e=>rfl
   |ok Tb=>
    have hTa:Ta.length≤a.length:=by
     have:=la;rw[xB hla] at this;exact(yG _ _ _ _ this).1
    have hTb:Tb.length≤b.length:=by
     have:=lb;rw[xB hlb] at this;exact(yG _ _ _ _ this).1
    simp only
    rw[Y5 (x:=x) (U:=Tb.map (mvL (a.length+1))) ad1 (by omega) fa,hlen]
    cases fb:oW Tb 100000 0 0 with
    |out=>exact absurd fb (WQ (by omega))
    |ok y i o=>rfl
    |fail i=>
     simp only[Hw.map,Hw.mv]
     congr 1
     unfold LJ
     rw[List.getElem?_append_right (Nat.le_add_right _ _),Nat.add_sub_cancel_left,List.getElem?_map]
     cases Tb[i]? with
     |none=>rfl
     |some y=>simp only[Option.map_some,mvL];omega
def Pk (r:Except Nat wz) (c:List AV) (h:aj):Prop:=match r with
 | .ok b=>rH h c b
 | .error _=>c=PU
def atR:Except Nat wz→Nat
 | .ok _=>0
 | .error e=>e
def erR:Except Nat wz→Nat
 | .ok _=>0
 | .error _=>20
theorem Pk.cells {r:Except Nat wz} {c:List AV} {h:aj} (R:Pk r c h):c.length=3∧aD c=true:=by
 cases r with
 |ok b=>exact rH.cells R
 |error e=>
  have R:c=PU:=R
  subst R;exact⟨rfl,rfl⟩
section
variable {h:aj} {L:jB} {S:List Sl} {F:List (aj→Prop)} {n:Nat} {s:Str} {K:aM}
theorem c6u (hn:400200≤n) (hb:∀b∈s,b<256) (hs:s.length≤60000) (hg:ZL∈F) (A:Cx h L S F)
 (H:∀h c,Cx h L S ((fun h=>Pk (wC s) c h) :: F)→K (.tup [.agg c, .int .i64 (atR (wC s):Int), .int .i64 (erR (wC s):Int)]) h=true):au E n (.func 6) [.str s] h K=true:=by
 refine c6 hn hb hs hg A ?_
 cases hp:wC s with
 |ok b=>
  intro h c A
  rw[hp] at H
  exact H h c A
 |error e=>
  intro h A
  rw[hp] at H
  exact H h PU (A.tru fun _=>rfl)
theorem aiS {a b:Str} (h:a.length+b.length≤most):eZ .add (.str a) (.str b)=some (.str (a++b)):=by
 simp only[eZ,Dj,aI.2 h,cond_true]
theorem abE {a b:Str} {k:AV→Bool} (h:a.length+b.length≤most) (s:k (.str (a++b))=true):gW (.str a) (.str b) k=true:=by
 rw[Uy,aiS h];exact s
theorem rH.len {h:aj} {c:List AV} {b:wz} (R:rH h c b):b.classes.length+b.rules.length+b.queries.length≤Bg b:=by
 have:=PE b.classes
 have:=Pe b.rules
 have:=N9 b.queries
 unfold Bg
 omega
theorem TM {s:Str} {e:Nat} (hs:s.length≤4096) (h:wC s= .error e):e≤s.length:=by
 unfold wC Bo at h
 cases hl:uG s with
 |error x=>
  rw[hl] at h;cases h
  rw[xB hs] at hl
  have:=Qu _ _ _ _ hl
  omega
 |ok T=>
  rw[hl] at h
  simp only at h
  cases hf:oW T 100000 0 0 with
  |out=>rw[hf] at h;cases h;exact Nat.zero_le _
  |ok b i o=>rw[hf] at h;cases h
  |fail x=>
   rw[hf] at h;cases h
   have hl':=hl
   rw[xB hs] at hl'
   have:=(yG _ _ _ _ hl').2
   unfold LJ
   cases hx:T[x]? with
   |none=>exact Nat.le_refl _
   |some y=>have:=this y (List.mem_of_getElem? hx);simp only;omega
theorem both {x y:wz} {h:aj} {u0 u1 u2:AV} {e0 e1 e2 f0 f1 f2:List (List AV)} (U0:View h 3 u0 (e0++f0)) (U1:View h 8 u1 (e1++f1)) (U2:View h 3 u2 (e2++f2)) (R0:yY h e0 x.classes) (R1:zm h e1 x.rules) (R2:yJ h e2 x.queries)
 (S0:yY h f0 y.classes) (S1:zm h f1 y.rules) (S2:yJ h f2 y.queries):rH h [u0,u1,u2] (jn x y):=
 ⟨u0,_,u1,_,u2,_,rfl,U0,R0.app S0,U1,R1.app S1,U2,R2.app S2⟩
set_option maxRecDepth 100000 in
theorem c4 {x0:AV} {ls:List Str} (hn:1000000000≤n) (hg:ZL∈F) (hv:(fun h=>View h 1 x0 (ls.map pJ))∈F) (hb:∀s∈ls,∀b∈s,b<256) (hsm:∀s∈ls,s.length≤2000000000) (A:Cx h L S F) (k:∀h,K (.bool true) h=true):au E n (.func 4) [x0] h K=true:=by
 have hlim:lim=4611686018427387904:=rfl
 have hmost:most=1099511627776:=rfl
 have hbig:big=1000000000:=rfl
 obtain⟨n,rfl⟩:∃m,n=m+1:=⟨n-1,by omega⟩
 apply d4
 unfold s4
 have wk:∀h,Cx h L S F→Xb (au E n) n h K=true:=by
  intro h A
  unfold Xb
  exact c9 (by omega) hg A fun h=>aG rfl (k h)
 have lp:∀(m i:Nat) (h:aj),1≤i→i≤6→6-i<m→Cx h L S F→Zz (au E n) n m x0 (.int .i64 (i:Int)) h K=true:=by
  intro m
  induction m with
  |zero=>intro i h _ _ hm;omega
  |succ m ih=>
   intro i h hi1 hi hm A
   have V:View h 1 x0 (ls.map pJ):=A.fact hv
   rw[af3]
   unfold acN
   repeat first |refine fM V ?_ |refine jI ?_ |(with_reducible first |refine aA ?_ |refine aR ?_ |refine bJ ?_ |refine bL ?_ |refine bg ?_ |refine aW ?_ |refine bP ?_ |refine gQ ?_ |refine dU ?_ |refine dL ?_ |refine dF ?_ |refine dM ?_ |refine dI ?_ |refine kV ?_ |refine gJ ?_ |refine aB A.var rfl ?_ |refine aB A.v1 rfl ?_ |refine aB A.v2 rfl ?_)
   rw[List.length_map]
   by_cases hlt:i<ls.length
   ·rw[decide_eq_true hlt]
    repeat first |(with_reducible first |refine aA ?_ |refine aR ?_ |refine bJ ?_ |refine bL ?_ |refine bg ?_ |refine aW ?_ |refine bP ?_ |refine gQ ?_ |refine dU ?_ |refine dL ?_ |refine dF ?_ |refine dM ?_ |refine dI ?_ |refine kV ?_ |refine gJ ?_ |refine aB A.var rfl ?_ |refine aB A.v1 rfl ?_ |refine aB A.v2 rfl ?_)
    by_cases h6:i<6
    ·rw[decide_eq_true (show((i:Nat):Int)<6 by omega)]
     have next:∀h,Cx h L S F→JW (au E n) n (fun x0 x3 h=>Zz (au E n) n m x0 x3 h K) x0 (.int .i64 (i:Int)) h K=true:=by
      intro h A
      unfold JW
      refine nP (by omega) ?_
      exact ih (i+1) h (by omega) (by omega) (by omega) A
     have hs:ls[i]? =some ls[i]:=List.getElem?_eq_getElem hlt
     have hmem:=List.getElem_mem hlt
     have hlt1:i-1<ls.length:=by omega
     have hs1:ls[i-1]? =some ls[i-1]:=List.getElem?_eq_getElem hlt1
     have hmem1:=List.getElem_mem hlt1
     generalize ls[i]=b at hs hmem
     generalize ls[i-1]=a at hs1 hmem1
     have hs':(ls.map pJ)[i]? =some (pJ b):=by rw[List.getElem?_map,hs];rfl
     have hs1':(ls.map pJ)[i-1]? =some (pJ a):=by rw[List.getElem?_map,hs1];rfl
     have hbb:=hb b hmem
     have hba:=hb a hmem1
     have la:=hsm a hmem1
     have lb:=hsm b hmem
     repeat first |(with_reducible first |refine aA ?_ |refine aR ?_ |refine bJ ?_ |refine bL ?_ |refine bg ?_ |refine aW ?_ |refine bP ?_ |refine gQ ?_ |refine dU ?_ |refine dL ?_ |refine dF ?_ |refine dM ?_ |refine dI ?_ |refine kV ?_ |refine gJ ?_ |refine aB A.var rfl ?_ |refine aB A.v1 rfl ?_ |refine aB A.v2 rfl ?_)
     refine OI (by omega) (by omega) ?_
     rw[show((i:Nat):Int)-1=((i-1:Nat):Int) by omega]
     refine MS V hs1' rfl ?_
     refine MS V hs' rfl ?_
     repeat first |(with_reducible first |refine aA ?_ |refine aR ?_ |refine bJ ?_ |refine bL ?_ |refine bg ?_ |refine aW ?_ |refine bP ?_ |refine gQ ?_ |refine dU ?_ |refine dL ?_ |refine dF ?_ |refine dM ?_ |refine dI ?_ |refine kV ?_ |refine gJ ?_ |refine aB A.var rfl ?_ |refine aB A.v1 rfl ?_ |refine aB A.v2 rfl ?_)
     refine FR (by omega) ?_
     repeat first |(with_reducible first |refine aA ?_ |refine aR ?_ |refine bJ ?_ |refine bL ?_ |refine bg ?_ |refine aW ?_ |refine bP ?_ |refine gQ ?_ |refine dU ?_ |refine dL ?_ |refine dF ?_ |refine dM ?_ |refine dI ?_ |refine kV ?_ |refine gJ ?_ |refine aB A.var rfl ?_ |refine aB A.v1 rfl ?_ |refine aB A.v2 rfl ?_)
     by_cases hlen:a.length+b.length≤3000
     ·rw[decide_eq_false (show ¬((3000:Int)<((a.length+b.length:Nat):Int)) by omega)]
      refine bg ?_
      refine c6u (by omega) hba (by omega) hg A fun h c1 A=> ?_
      refine aG rfl ?_
      unfold Lj
      have C1:=(A.f0:Pk (wC a) c1 h).cells
      refine jR (jQ (xA ?_))
      refine pW A rfl rfl rfl fun v1 h A=> ?_
      refine Hg A rfl C1.1 rfl C1.2 fun h A=> ?_
      refine c6u (by omega) hbb (by omega) (List.mem_cons_of_mem _ hg) A fun h c2 A=> ?_
      refine aG rfl ?_
      unfold Lr
      have C2:=(A.f0:Pk (wC b) c2 h).cells
      refine jR (jQ (xA ?_))
      refine pW A rfl rfl rfl fun v2 h A=> ?_
      refine Hg A rfl C2.1 rfl C2.2 fun h A=> ?_
      refine abE (by simp only[List.length_cons,List.length_nil];omega) ?_
      refine abE (by simp only[List.length_append,List.length_cons,List.length_nil];omega) ?_
      refine c6u (by omega) (fun z hz=>by
       simp only[List.mem_append,List.mem_singleton] at hz
       rcases hz with(hz |hz)|hz
       ·exact hba z hz
       ·omega
       ·exact hbb z hz) (by simp only[List.length_append,List.length_cons,List.length_nil];omega) (List.mem_cons_of_mem _ (List.mem_cons_of_mem _ hg)) A fun h c3 A=> ?_
      refine aG rfl ?_
      unfold K7
      have C3:=(A.f0:Pk (wC (a++[10]++b)) c3 h).cells
      refine jR (jQ (xA ?_))
      refine pW A rfl rfl rfl fun v3 h A=> ?_
      refine Hg A rfl C3.1 rfl C3.2 fun h A=> ?_
      have back:∀{h:aj},Cx h (vr v3 c3 :: vr v2 c2 :: vr v1 c1 :: L) S ((fun h=>Pk (wC (a++[10]++b)) c3 h) :: (fun h=>Pk (wC b) c2 h) :: (fun h=>Pk (wC a) c1 h) :: F)→Cx h L S F:=fun A=>A.rest.rest.rest.eY.eY.eY
      cases pa:wC a with
      |error e=>
       refine eF (bL ?_)
       exact next h (back A)
      |ok x=>
       have R1:rH h c1 x:=by have q:=A.f2;rw[pa] at q;exact q
       have pj:=abl hlen pa
       refine eF (bg ?_)
       cases pb:wC b with
       |error e=>
        rw[pb] at pj
        rw[pj]
        refine eF (bL ?_)
        repeat first |refine CS ?_ |(with_reducible first |refine aA ?_ |refine aR ?_ |refine bJ ?_ |refine bL ?_ |refine bg ?_ |refine aW ?_ |refine bP ?_ |refine gQ ?_ |refine dU ?_ |refine dL ?_ |refine dF ?_ |refine dM ?_ |refine dI ?_ |refine kV ?_ |refine gJ ?_ |refine aB A.var rfl ?_ |refine aB A.v1 rfl ?_ |refine aB A.v2 rfl ?_)
        refine FR (x:=a.length) (y:=1) (by omega) ?_
        repeat first |(with_reducible first |refine aA ?_ |refine aR ?_ |refine bJ ?_ |refine bL ?_ |refine bg ?_ |refine aW ?_ |refine bP ?_ |refine gQ ?_ |refine dU ?_ |refine dL ?_ |refine dF ?_ |refine dM ?_ |refine dI ?_ |refine kV ?_ |refine gJ ?_ |refine aB A.var rfl ?_ |refine aB A.v1 rfl ?_ |refine aB A.v2 rfl ?_)
        have he:=TM (by omega) pb
        have hat:atR (Except.error e:Except Nat wz)=e:=rfl
        refine FR (by omega) ?_
        repeat first |refine CS ?_ |(with_reducible first |refine aA ?_ |refine aR ?_ |refine bJ ?_ |refine bL ?_ |refine bg ?_ |refine aW ?_ |refine bP ?_ |refine gQ ?_ |refine dU ?_ |refine dL ?_ |refine dF ?_ |refine dM ?_ |refine dI ?_ |refine kV ?_ |refine gJ ?_ |refine aB A.var rfl ?_ |refine aB A.v1 rfl ?_ |refine aB A.v2 rfl ?_)
        exact next h (back A)
       |ok y=>
        rw[pb] at pj
        have pj:wC (a++[10]++b)= .ok (jn x y):=pj
        have er0:((erR (Except.ok (jn x y):Except Nat wz):Nat):Int)=0:=rfl
        rw[pj,er0]
        have R2:rH h c2 y:=by have q:=A.f1;rw[pb] at q;exact q
        have R3:rH h c3 (jn x y):=by have q:=A.f0;rw[pj] at q;exact q
        refine eF (bg ?_)
        have hx:=FZ (by omega) pa
        have hy:=FZ (by omega) pb
        have hxl:=R1.len
        have hyl:=R2.len
        have hj:Bg (jn x y)≤17000000:=FZ (by simp only[List.length_append,List.length_cons,List.length_nil];omega) pj
        have O:=A
        obtain⟨v0,e0,v1',e1,v2',e2,rfl,V0,P0,V1,P1,V2,P2⟩:=R1
        obtain⟨w0,f0,w1',f1,w2',f2,rfl,W0,Q0,W1,Q1,W2,Q2⟩:=R2
        have n0:=P0.len
        have n1:=P1.len
        have n2:=P2.len
        have m0:=Q0.len
        have m1:=Q1.len
        have m2:=Q2.len
        have A:=Cx.start O.ok (F:=[]) (fun R m=>nomatch m)
        refine pW A rfl rfl rfl fun u h A=> ?_
        repeat first |refine aB A.var rfl ?_ |refine aB (O.ext A.f0 A.ok).v2 rfl ?_ |refine aB (O.ext A.f0 A.ok).v1 rfl ?_ |(with_reducible first |refine aA ?_ |refine aR ?_ |refine bJ ?_ |refine bL ?_ |refine bg ?_ |refine aW ?_ |refine bP ?_ |refine gQ ?_ |refine dU ?_ |refine dL ?_ |refine dF ?_ |refine dM ?_ |refine dI ?_ |refine kV ?_ |refine gJ ?_ |refine aB A.var rfl ?_ |refine aB A.v1 rfl ?_ |refine aB A.v2 rfl ?_)
        refine nN (A.slc 3) rfl (V0.ext A.f0).src (by simp only[List.length_nil];omega) (by simp only[List.length_nil];omega) fun a0 h A ha0=> ?_
        repeat first |refine aB (O.ext A.f0 A.ok).v1 rfl ?_ |refine dS W0.lF ?_ |(with_reducible first |refine aA ?_ |refine aR ?_ |refine bJ ?_ |refine bL ?_ |refine bg ?_ |refine aW ?_ |refine bP ?_ |refine gQ ?_ |refine dU ?_ |refine dL ?_ |refine dF ?_ |refine dM ?_ |refine dI ?_ |refine kV ?_ |refine gJ ?_ |refine aB A.var rfl ?_ |refine aB A.v1 rfl ?_ |refine aB A.v2 rfl ?_)
        refine nN A rfl (W0.ext A.f0).src (by simp only[List.nil_append];omega) (by simp only[List.nil_append];omega) fun a0 h A ha0=> ?_
        repeat first |(with_reducible first |refine aA ?_ |refine aR ?_ |refine bJ ?_ |refine bL ?_ |refine bg ?_ |refine aW ?_ |refine bP ?_ |refine gQ ?_ |refine dU ?_ |refine dL ?_ |refine dF ?_ |refine dM ?_ |refine dI ?_ |refine kV ?_ |refine gJ ?_ |refine aB A.var rfl ?_ |refine aB A.v1 rfl ?_ |refine aB A.v2 rfl ?_)
        refine xX A rfl A.leafS fun h A=> ?_
        repeat first |refine aB A.var rfl ?_ |refine aB (O.ext A.f0 A.ok).v2 rfl ?_ |refine aB (O.ext A.f0 A.ok).v1 rfl ?_ |(with_reducible first |refine aA ?_ |refine aR ?_ |refine bJ ?_ |refine bL ?_ |refine bg ?_ |refine aW ?_ |refine bP ?_ |refine gQ ?_ |refine dU ?_ |refine dL ?_ |refine dF ?_ |refine dM ?_ |refine dI ?_ |refine kV ?_ |refine gJ ?_ |refine aB A.var rfl ?_ |refine aB A.v1 rfl ?_ |refine aB A.v2 rfl ?_)
        refine nN (A.slc 8) rfl (V1.ext A.f0).src (by simp only[List.length_nil];omega) (by simp only[List.length_nil];omega) fun a1 h A ha1=> ?_
        repeat first |refine aB (O.ext A.f0 A.ok).v1 rfl ?_ |refine dS W1.lF ?_ |(with_reducible first |refine aA ?_ |refine aR ?_ |refine bJ ?_ |refine bL ?_ |refine bg ?_ |refine aW ?_ |refine bP ?_ |refine gQ ?_ |refine dU ?_ |refine dL ?_ |refine dF ?_ |refine dM ?_ |refine dI ?_ |refine kV ?_ |refine gJ ?_ |refine aB A.var rfl ?_ |refine aB A.v1 rfl ?_ |refine aB A.v2 rfl ?_)
        refine nN A rfl (W1.ext A.f0).src (by simp only[List.nil_append];omega) (by simp only[List.nil_append];omega) fun a1 h A ha1=> ?_
        repeat first |(with_reducible first |refine aA ?_ |refine aR ?_ |refine bJ ?_ |refine bL ?_ |refine bg ?_ |refine aW ?_ |refine bP ?_ |refine gQ ?_ |refine dU ?_ |refine dL ?_ |refine dF ?_ |refine dM ?_ |refine dI ?_ |refine kV ?_ |refine gJ ?_ |refine aB A.var rfl ?_ |refine aB A.v1 rfl ?_ |refine aB A.v2 rfl ?_)
        refine xX A rfl A.leafS fun h A=> ?_
        repeat first |refine aB A.var rfl ?_ |refine aB (O.ext A.f0 A.ok).v2 rfl ?_ |refine aB (O.ext A.f0 A.ok).v1 rfl ?_ |(with_reducible first |refine aA ?_ |refine aR ?_ |refine bJ ?_ |refine bL ?_ |refine bg ?_ |refine aW ?_ |refine bP ?_ |refine gQ ?_ |refine dU ?_ |refine dL ?_ |refine dF ?_ |refine dM ?_ |refine dI ?_ |refine kV ?_ |refine gJ ?_ |refine aB A.var rfl ?_ |refine aB A.v1 rfl ?_ |refine aB A.v2 rfl ?_)
        refine nN (A.slc 3) rfl (V2.ext A.f0).src (by simp only[List.length_nil];omega) (by simp only[List.length_nil];omega) fun a2 h A ha2=> ?_
        repeat first |refine aB (O.ext A.f0 A.ok).v1 rfl ?_ |refine dS W2.lF ?_ |(with_reducible first |refine aA ?_ |refine aR ?_ |refine bJ ?_ |refine bL ?_ |refine bg ?_ |refine aW ?_ |refine bP ?_ |refine gQ ?_ |refine dU ?_ |refine dL ?_ |refine dF ?_ |refine dM ?_ |refine dI ?_ |refine kV ?_ |refine gJ ?_ |refine aB A.var rfl ?_ |refine aB A.v1 rfl ?_ |refine aB A.v2 rfl ?_)
        refine nN A rfl (W2.ext A.f0).src (by simp only[List.nil_append];omega) (by simp only[List.nil_append];omega) fun a2 h A ha2=> ?_
        repeat first |(with_reducible first |refine aA ?_ |refine aR ?_ |refine bJ ?_ |refine bL ?_ |refine bg ?_ |refine aW ?_ |refine bP ?_ |refine gQ ?_ |refine dU ?_ |refine dL ?_ |refine dF ?_ |refine dM ?_ |refine dI ?_ |refine kV ?_ |refine gJ ?_ |refine aB A.var rfl ?_ |refine aB A.v1 rfl ?_ |refine aB A.v2 rfl ?_)
        refine xX A rfl A.leafS fun h A=> ?_
        have ex:=A.f0
        have O:=O.ext A.f0 A.ok
        have A:=A.freeze.freeze.freeze
        repeat first |refine CS ?_ |refine iR O.var C3.1 ?_ |refine iR A.var rfl ?_ |(with_reducible first |refine aA ?_ |refine aR ?_ |refine bJ ?_ |refine bL ?_ |refine bg ?_ |refine aW ?_ |refine bP ?_ |refine gQ ?_ |refine dU ?_ |refine dL ?_ |refine dF ?_ |refine dM ?_ |refine dI ?_ |refine kV ?_ |refine gJ ?_ |refine aB A.var rfl ?_ |refine aB A.v1 rfl ?_ |refine aB A.v2 rfl ?_)
        have RB:=both (h:=h) (x:=x) (y:=y) A.f0 A.f1 A.f2 (P0.ext ex) (P1.ext ex) (P2.ext ex) (Q0.ext ex) (Q1.ext ex) (Q2.ext ex)
        refine c8 (n:=n) (b:=jn x y) (by omega) (by omega) A.ok (R3.ext ex) RB fun h' e' o'=> ?_
        refine aG rfl ?_
        unfold Iw
        repeat first |(with_reducible first |refine aA ?_ |refine aR ?_ |refine bJ ?_ |refine bL ?_ |refine bg ?_ |refine aW ?_ |refine bP ?_ |refine gQ ?_ |refine dU ?_ |refine dL ?_ |refine dF ?_ |refine dM ?_ |refine dI ?_ |refine kV ?_ |refine gJ ?_ |refine aB A.var rfl ?_ |refine aB A.v1 rfl ?_ |refine aB A.v2 rfl ?_)
        exact next h' (back (O.ext e' o'))
     ·rw[decide_eq_true (show((3000:Int)<((a.length+b.length:Nat):Int)) by omega)]
      exact bL (next h A)
    ·rw[decide_eq_false (show ¬((i:Nat):Int)<6 by omega)]
     repeat first |(with_reducible first |refine aA ?_ |refine aR ?_ |refine bJ ?_ |refine bL ?_ |refine bg ?_ |refine aW ?_ |refine bP ?_ |refine gQ ?_ |refine dU ?_ |refine dL ?_ |refine dF ?_ |refine dM ?_ |refine dI ?_ |refine kV ?_ |refine gJ ?_ |refine aB A.var rfl ?_ |refine aB A.v1 rfl ?_ |refine aB A.v2 rfl ?_)
     exact wk h A
   ·rw[decide_eq_false hlt]
    repeat first |(with_reducible first |refine aA ?_ |refine aR ?_ |refine bJ ?_ |refine bL ?_ |refine bg ?_ |refine aW ?_ |refine bP ?_ |refine gQ ?_ |refine dU ?_ |refine dL ?_ |refine dF ?_ |refine dM ?_ |refine dI ?_ |refine kV ?_ |refine gJ ?_ |refine aB A.var rfl ?_ |refine aB A.v1 rfl ?_ |refine aB A.v2 rfl ?_)
    exact wk h A
 exact lp n 1 h (Nat.le_refl _) (by omega) (by omega) A
end
end Go.Proofs.YtibillhjmfbneaaGreatDoor
namespace Go.Proofs
open Go.Shelf
def YtibillhjmfbneaaGreatDoor.pintL_ren:Go.Shelf.Ren:=⟨fun |174=>56 |247=>70 |245=>71 |287=>85 |279=>86 |280=>87 |281=>88 |282=>89 |321=>97 |322=>98 |316=>99 |171=>101 |205=>100 |243=>104 |246=>106 |283=>109 |284=>110 |285=>111 |286=>112 |129=>114 |317=>113 |318=>115 |319=>116 |320=>117 |337=>118 |338=>119 |n=>n,fun |9=>9 |3=>3 |2=>2 |75=>120 |85=>121 |4=>4 |167=>146 |5=>5 |53=>147 |175=>148 |46=>150 |168=>151 |37=>141 |0=>0 |210=>161 |21=>21 |127=>157 |145=>169 |143=>167 |171=>172 |173=>175 |212=>178 |51=>179 |20=>20 |213=>180 |232=>183 |233=>184 |80=>98 |n=>n,fun |15=>0 |16=>1 |17=>3 |18=>4 |19=>5 |n=>n⟩
theorem YtibillhjmfbneaaGreatDoor.pintL:Go.Proofs.LaysC.n174 Tryz.prog YtibillhjmfbneaaGreatDoor.pintL_ren:={
 mixed:=by kernel_rfl
 f129:=Tryz.func114.trans (congrArg some (by kernel_rfl))
 f171:=Tryz.func101.trans (congrArg some (by kernel_rfl))
 f174:=Tryz.func56.trans (congrArg some (by kernel_rfl))
 f205:=Tryz.func100.trans (congrArg some (by kernel_rfl))
 f243:=Tryz.func104.trans (congrArg some (by kernel_rfl))
 f245:=Tryz.func71.trans (congrArg some (by kernel_rfl))
 f246:=Tryz.func106.trans (congrArg some (by kernel_rfl))
 f247:=Tryz.func70.trans (congrArg some (by kernel_rfl))
 f279:=Tryz.func86.trans (congrArg some (by kernel_rfl))
 f280:=Tryz.func87.trans (congrArg some (by kernel_rfl))
 f281:=Tryz.func88.trans (congrArg some (by kernel_rfl))
 f282:=Tryz.func89.trans (congrArg some (by kernel_rfl))
 f283:=Tryz.func109.trans (congrArg some (by kernel_rfl))
 f284:=Tryz.func110.trans (congrArg some (by kernel_rfl))
 f285:=Tryz.func111.trans (congrArg some (by kernel_rfl))
 f286:=Tryz.func112.trans (congrArg some (by kernel_rfl))
 f287:=Tryz.func85.trans (congrArg some (by kernel_rfl))
 f316:=Tryz.func99.trans (congrArg some (by kernel_rfl))
 f317:=Tryz.func113.trans (congrArg some (by kernel_rfl))
 f318:=Tryz.func115.trans (congrArg some (by kernel_rfl))
 f319:=Tryz.func116.trans (congrArg some (by kernel_rfl))
 f320:=Tryz.func117.trans (congrArg some (by kernel_rfl))
 f321:=Tryz.func97.trans (congrArg some (by kernel_rfl))
 f322:=Tryz.func98.trans (congrArg some (by kernel_rfl))
 f337:=Tryz.func118.trans (congrArg some (by kernel_rfl))
 f338:=Tryz.func119.trans (congrArg some (by kernel_rfl))
 t0:=Tryz.underlying0
 a0:=Tryz.isAgg0
 z0:=Tryz.sizeOf0
 v0:=Tryz.zeroValue0
 t2:=Tryz.underlying2
 a2:=Tryz.isAgg2
 z2:=Tryz.sizeOf2
 v2:=Tryz.zeroValue2
 t3:=Tryz.underlying3
 a3:=Tryz.isAgg3
 z3:=Tryz.sizeOf3
 v3:=Tryz.zeroValue3
 t4:=Tryz.underlying4
 a4:=Tryz.isAgg4
 z4:=Tryz.sizeOf4
 v4:=Tryz.zeroValue4
 t5:=Tryz.underlying5
 a5:=Tryz.isAgg5
 z5:=Tryz.sizeOf5
 v5:=Tryz.zeroValue5
 t9:=Tryz.underlying9
 a9:=Tryz.isAgg9
 z9:=Tryz.sizeOf9
 v9:=Tryz.zeroValue9
 t20:=Tryz.underlying20
 a20:=Tryz.isAgg20
 z20:=Tryz.sizeOf20
 v20:=Tryz.zeroValue20
 t21:=Tryz.underlying21
 a21:=Tryz.isAgg21
 z21:=Tryz.sizeOf21
 v21:=Tryz.zeroValue21
 t37:=Tryz.underlying141
 a37:=Tryz.isAgg141
 z37:=Tryz.sizeOf141
 v37:=Tryz.zeroValue141
 t46:=Tryz.underlying150
 a46:=Tryz.isAgg150
 z46:=Tryz.sizeOf150
 v46:=Tryz.zeroValue150
 t51:=Tryz.underlying179
 a51:=Tryz.isAgg179
 z51:=Tryz.sizeOf179
 v51:=Tryz.zeroValue179
 t53:=Tryz.underlying147
 a53:=Tryz.isAgg147
 z53:=Tryz.sizeOf147
 v53:=Tryz.zeroValue147
 t75:=Tryz.underlying120
 a75:=Tryz.isAgg120
 z75:=Tryz.sizeOf120
 v75:=Tryz.zeroValue120
 t85:=Tryz.underlying121
 a85:=Tryz.isAgg121
 z85:=Tryz.sizeOf121
 v85:=Tryz.zeroValue121
 t127:=Tryz.underlying157
 a127:=Tryz.isAgg157
 z127:=Tryz.sizeOf157
 v127:=Tryz.zeroValue157
 t143:=Tryz.underlying167
 a143:=Tryz.isAgg167
 z143:=Tryz.sizeOf167
 v143:=Tryz.zeroValue167
 t145:=Tryz.underlying169
 a145:=Tryz.isAgg169
 z145:=Tryz.sizeOf169
 v145:=Tryz.zeroValue169
 t167:=Tryz.underlying146
 a167:=Tryz.isAgg146
 z167:=Tryz.sizeOf146
 v167:=Tryz.zeroValue146
 t168:=Tryz.underlying151
 a168:=Tryz.isAgg151
 z168:=Tryz.sizeOf151
 v168:=Tryz.zeroValue151
 t171:=Tryz.underlying172
 a171:=Tryz.isAgg172
 z171:=Tryz.sizeOf172
 v171:=Tryz.zeroValue172
 t173:=Tryz.underlying175
 a173:=Tryz.isAgg175
 z173:=Tryz.sizeOf175
 v173:=Tryz.zeroValue175
 t175:=Tryz.underlying148
 a175:=Tryz.isAgg148
 z175:=Tryz.sizeOf148
 v175:=Tryz.zeroValue148
 t210:=Tryz.underlying161
 a210:=Tryz.isAgg161
 z210:=Tryz.sizeOf161
 v210:=Tryz.zeroValue161
 t212:=Tryz.underlying178
 a212:=Tryz.isAgg178
 z212:=Tryz.sizeOf178
 v212:=Tryz.zeroValue178
 t213:=Tryz.underlying180
 a213:=Tryz.isAgg180
 z213:=Tryz.sizeOf180
 t232:=Tryz.underlying183
 a232:=Tryz.isAgg183
 z232:=Tryz.sizeOf183
 v232:=Tryz.zeroValue183
 t233:=Tryz.underlying184
 a233:=Tryz.isAgg184
 z233:=Tryz.sizeOf184
 v233:=Tryz.zeroValue184
 g15:=by kernel_rfl
 g16:=by kernel_rfl
 g17:=by kernel_rfl
 g18:=by kernel_rfl
 g19:=by kernel_rfl
 t80:=Tryz.underlying98
 a80:=Tryz.isAgg98
 z80:=Tryz.sizeOf98
 v80:=Tryz.zeroValue98
 i0:=by kernel_rfl
 i2:=by kernel_rfl
 i3:=by kernel_rfl
 i4:=by kernel_rfl
 i5:=by kernel_rfl
 i9:=by kernel_rfl
 i20:=by kernel_rfl
 i21:=by kernel_rfl
 i37:=by kernel_rfl
 i46:=by kernel_rfl
 i51:=by kernel_rfl
 i53:=by kernel_rfl
 i75:=by kernel_rfl
 i80:=by kernel_rfl
 i85:=by kernel_rfl
 i127:=by kernel_rfl
 i143:=by kernel_rfl
 i145:=by kernel_rfl
 i167:=by kernel_rfl
 i168:=by kernel_rfl
 i171:=by kernel_rfl
 i173:=by kernel_rfl
 i175:=by kernel_rfl
 i210:=by kernel_rfl
 i212:=by kernel_rfl
 i232:=by kernel_rfl
 i233:=by kernel_rfl
 m15:=by kernel_rfl
 m16:=by kernel_rfl
 m17:=by kernel_rfl
 m18:=by kernel_rfl
 m19:=by kernel_rfl
 c0:=by kernel_rfl
 c2:=by kernel_rfl
 c3:=by kernel_rfl
 c4:=by kernel_rfl
 c5:=by kernel_rfl
 c9:=by kernel_rfl
 c20:=by kernel_rfl
 c21:=by kernel_rfl
 c37:=by kernel_rfl
 c46:=by kernel_rfl
 c51:=by kernel_rfl
 c53:=by kernel_rfl
 c75:=by kernel_rfl
 c80:=by kernel_rfl
 c85:=by kernel_rfl
 c127:=by kernel_rfl
 c143:=by kernel_rfl
 c145:=by kernel_rfl
 c167:=by kernel_rfl
 c168:=by kernel_rfl
 c171:=by kernel_rfl
 c173:=by kernel_rfl
 c175:=by kernel_rfl
 c210:=by kernel_rfl
 c212:=by kernel_rfl
 c213:=by kernel_rfl
 c232:=by kernel_rfl
 c233:=by kernel_rfl}
end Go.Proofs
namespace Go.Proofs.YtibillhjmfbneaaGreatDoor
open Go.Ab
theorem afZ:∃c,Tryz.f56.body=some c:=by
 have h:Tryz.f56.body.isSome=true:=by kernel_rfl
 cases e:Tryz.f56.body with
 |none=>rw[e] at h;cases h
 |some c=>exact⟨c,rfl⟩
theorem adp (args:Array Value) (w:World):(callFunc 56 args).run Tryz.prog w= .ok (.enter 56 args) w:=by
 obtain⟨c,h⟩:=afZ
 exact _root_.Go.MuLone.run_callFunc_enter Tryz.func56 (by kernel_rfl) h args w
theorem aan:Au Tryz.prog abW:=⟨aa8 YtibillhjmfbneaaGreatDoor.pintL rfl rfl rfl adp,
 Tn Tryz.func94 (by kernel_rfl) (by kernel_rfl) (by kernel_rfl) (by kernel_rfl),
 abO Tryz.func103 (by kernel_rfl) (by kernel_rfl) (by kernel_rfl) (by kernel_rfl),trivial⟩
theorem aeO:M5 Tryz.prog E:=aco afA aan
end Go.Proofs.YtibillhjmfbneaaGreatDoor
