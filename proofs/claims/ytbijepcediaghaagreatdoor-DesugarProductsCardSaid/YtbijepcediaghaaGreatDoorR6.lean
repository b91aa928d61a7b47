/-
  Texts that the claim hangs on, part 7.
-/
import Derived.Test.YtbijepcediaghaaGreatDoorR5
set_option linter.unusedSimpArgs false
set_option linter.unusedVariables false
namespace Go.Proofs.YtbijepcediaghaaGreatDoor
open Go.Ab
section
variable {h:ah} {L:gB} {S:List Sl} {F:List (ah→Prop)} {p mp en i n:Nat} {o:Int} {tv:AV} {T:List Lx} {K Q k:aK}
theorem aex {call:bg} {μ:Go.Ab.Mode} {d:Bool} {σ:Go.Ab.St} {KM:Go.Ab.KMo} (s:KM .normal d σ=true):Go.Ab.mE call n μ .skip d σ KM=true:=s
theorem aaG {call:bg} {a b:Nat} {KD:Mf} (s:KD .ret h=true):uF E call n 50 [.ptr a 0 0 0, .ptr b 0 0 0] .ret h KD=true:=by
 have hp:E.prim 50=none:=rfl;have hc:E.code 50=some C50:=rfl;simp only[uF,hp,hc];exact s
theorem aaI {call:bg} {a b:Nat} {x va vb:AV} {KD:Mf} (A:Cx h (vr a [va] :: vr b [vb] :: L) S F) (hx:x.leaf=true) (s:∀h,Cx h (vr a [x] :: vr b [.int .i64 20] :: L) S F→KD .ret h=true):
 uF E call n 50 [.ptr a 0 0 0, .ptr b 0 0 0] (.pan (.ifc 111 (.agg [x]))) h KD=true:=by
 have hp:E.prim 50=none:=rfl;have hc:E.code 50=some C50:=rfl;simp only[uF,hp,hc];show mE call n (.pan (.ifc 111 (.agg [x]))) C50.body false ⟨mK 0 [.ptr a 0 0 0, .ptr b 0 0 0] .lf,h⟩ _=true;refine Bu (ahc rfl ?_);show mE call n _ _ true ⟨((mK 0 [.ptr a 0 0 0, .ptr b 0 0 0] .lf).set 5 (.ifc 111 (.agg [x]))).set 2 (.ifc 111 (.agg [x])),h⟩ _=true;refine Bu (IY rfl ?_);refine eP (v:= .ifc 111 (.agg [x])) (h':=h) rfl rfl (eP (v:= .bool true) (h':=h) rfl rfl (jW ?_));refine ZO rfl (Bu (IY rfl ?_));refine eP (v:= .ifc 111 (.agg [x])) (h':=h) rfl rfl (eP (v:= .tup [.agg [x], .bool true]) (h':=h) rfl rfl (eP (v:= .tup [.agg [x], .bool true]) (h':=h) rfl rfl (eP (v:= .agg [x]) (h':=h) rfl rfl (eP (v:= .bool true) (h':=h) rfl rfl ?_))));obtain⟨h1,e1,A⟩:=A.alloc (z:=[.int .i64 0]) (by decide) rfl;refine eP rfl e1 ?_;obtain⟨h2,e2,A⟩:=A.store (n:=1) (off:=0) (v:= .agg [x]) rfl (by decide) (aF hx rfl);refine eP (v:= .tup []) (h':=h2) rfl (by show unit (bM h1 1 _ _)=_;rw[show bM h1 1 _ _=some h2 from e2];rfl) ?_
 refine eP (v:= .bool true) (h':=h2) rfl rfl (jW ?_);refine Bu (Bu (IY rfl ?_));refine eP (v:= .bool true) (h':=h2) rfl rfl (eP (v:= .bool false) (h':=h2) rfl rfl (jW ?_));show mE call n _ (.cond (.t 14) _ .skip) true _ _=true;refine Yz rfl (aex ?_);show mE call n _ (.reg _) true _ _=true;refine IY rfl ?_;refine eP (v:= .ptr h.sz 0 0 0) (h':=h2) rfl rfl ?_;have A:Cx h2 (vr h.sz [x] :: vr a [va] :: vr b [vb] :: L) S F:=A;have el:dL h2 false 1 (.ptr h.sz 0 0 0)=some x:=by rw[A.var.load];rfl
 refine eP (v:=x) (h':=h2) rfl (by show bT (dL h2 false 1 (.ptr h.sz 0 0 0)) h2=_;rw[el];rfl) ?_;obtain⟨h3,e3,A⟩:=A.rest.set1 (off:=0) (v:=x) (by simp) hx;refine eP (v:= .tup []) (h':=h3) rfl (by show unit (bM h2 1 _ _)=_;rw[show bM h2 1 _ _=some h3 from e3];rfl) ?_
 obtain⟨h4,e4,A⟩:=A.swapL.set1 (off:=0) (v:= .int .i64 20) (by simp) rfl;refine eP (v:= .tup []) (h':=h4) rfl (by show unit (bM h3 1 _ _)=_;rw[show bM h3 1 _ _=some h4 from e4];rfl) (jW ?_)
 exact s h4 A.swapL
end
section
variable {h:ah} {L:gB} {S:List Sl} {F:List (ah→Prop)} {n:Nat} {K:aK}
theorem _root_.Go.Ab.Cx.frozeO {id:Nat} {o:fC} (A:Cx h ((id,o) :: L) S F):Cx h L S ((fun h=>h.get id=some o) :: F):=by
 have C:=A.rest;have hn:=A.nod;have hs:places ((id,o) :: L) S=id :: places L S:=rfl;rw[hs] at hn;refine⟨C.ok,C.has,C.sls,C.nod,fun R m=> ?_⟩;rcases List.mem_cons.1 m with rfl |m
 ·exact fun h' k=>k.2 id _ (fun q=>(List.nodup_cons.1 hn).1 q) (A.has _ List.mem_cons_self)
 ·exact C.facts R m
theorem abv (A:Cx h L S F) (s:∀id h',Cx h' ((id, .map [] 0) :: L) S F→K (.map id) h'=true):aQ (zJ h) K=true:=s _ _ (A.new _)
noncomputable def afd (kk:KK) (k v:AV) (es:List (AV×AV×Nat)) (c:Nat):Option (List (AV×AV×Nat)×Nat):=
 bif kP kk k then(match nU k es with
  |some (some _)=>some (XB k v es,c)
  |some none=>some (es++[(k,v,c)],c+1)
  |none=>none) else none
theorem agG {kk:KK} {k v:AV} {es es':List (AV×AV×Nat)} {c c' id:Nat} (hg:h.get id=some (.map es c)) (e:afd kk k v es c=some (es',c')):lM h kk (.map id) k v=some (h.put id (.map es' c')):=by
 unfold afd at e;unfold lM;cases hf:kP kk k with
 |false=>rw[hf] at e;cases e
 |true=>
  rw[hf,cond_true] at e;simp only[cond_true,hg];cases hx:nU k es with
  |none=>rw[hx] at e;cases e
  |some x=>
   rw[hx] at e;cases x<;>(simp only[Option.some.injEq,Prod.mk.injEq] at e;obtain⟨rfl,rfl⟩:=e;rfl)
theorem vE {kk:KK} {k v:AV} {es es':List (AV×AV×Nat)} {c c' id:Nat} (A:Cx h ((id, .map es c) :: L) S F) (e:afd kk k v es c=some (es',c')) (s:∀h',Cx h' ((id, .map es' c') :: L) S F→K (.tup []) h'=true):aQ (unit (lM h kk (.map id) k v)) K=true:=by
 rw[agG (A.has _ List.mem_cons_self) e];exact s _ (A.wr _)
theorem TY {kk:KK} {k v:AV} {es es':List (AV×AV×Nat)} {c c' id:Nat} {e1:Nat×fC} (A:Cx h (e1 :: (id, .map es c) :: L) S F) (e:afd kk k v es c=some (es',c')) (s:∀h',Cx h' (e1 :: (id, .map es' c') :: L) S F→K (.tup []) h'=true):aQ (unit (lM h kk (.map id) k v)) K=true:=
 vE A.swapL e fun h' B=>s h' B.swapL
theorem wP {t u:Str} {v:AV} {m:Nat} {l:List (AV×AV×Nat)}:nU (.str t) ((.str u,v,m) :: l)=if t=u then some (some v) else nU (.str t) l:=by
 simp only[nU,DL,vV,ug];by_cases h:t=u
 ·simp[h]
 ·simp[h]
theorem Dn {id c:Nat} {es:List (AV×AV×Nat)} (hg:h.get id=some (.map es c)) (t:Str) {x:Option Int} (e:nU (.str t) es=some (x.map fun n=> .int .i64 n)):uH h (.leaf .str) true (.int .i64 0) (.map id) (.str t)=some (.tup [.int .i64 (x.getD 0), .bool x.isSome]):=by
 simp only[uH,kP,sM,cond_true,mapOf,hg,e];cases x<;>rfl
@[reducible] def EA:List (AV×AV×Nat):=[(.str [124,124], .int .i64 9,0)]
@[reducible] def EB:List (AV×AV×Nat):=[(.str [38,38], .int .i64 8,0)]
@[reducible] def EC:List (AV×AV×Nat):=[(.str [61,61], .int .i64 10,0),(.str [33,61], .int .i64 11,1),(.str [60], .int .i64 12,2),(.str [60,61], .int .i64 13,3),(.str [62], .int .i64 14,4),(.str [62,61], .int .i64 15,5)]
@[reducible] def ED:List (AV×AV×Nat):=[(.str [43], .int .i64 16,0),(.str [45], .int .i64 17,1)]
@[reducible] def EE:List (AV×AV×Nat):=[(.str [42], .int .i64 18,0),(.str [47], .int .i64 19,1),(.str [37], .int .i64 20,2)]
@[reducible] def EM (a b c d e:Nat):List (AV×AV×Nat):=[(.int .i64 0, .map a,0),(.int .i64 1, .map b,1),(.int .i64 2, .map c,2),(.int .i64 3, .map d,3),(.int .i64 4, .map e,4)]
def opsV (a b c d e:Nat):Nat→AV
 |0=> .map a
 |1=> .map b
 |2=> .map c
 |3=> .map d
 |_=> .map e
theorem wR {k:AV}:nU k []=some none:=rfl
theorem akn (t:Str):nU (.str t) EA=some ((xQ 0 t).map fun n=> .int .i64 n):=by
 by_cases e0:t=[124,124]
 ·subst e0;rfl
 simp[wP,wR,xQ,e0]
theorem akL (t:Str):nU (.str t) EB=some ((xQ 1 t).map fun n=> .int .i64 n):=by
 by_cases e0:t=[38,38]
 ·subst e0;rfl
 simp[wP,wR,xQ,e0]
theorem akK (t:Str):nU (.str t) EC=some ((xQ 2 t).map fun n=> .int .i64 n):=by
 by_cases e0:t=[61,61]
 ·subst e0;rfl
 by_cases e1:t=[33,61]
 ·subst e1;rfl
 by_cases e2:t=[60]
 ·subst e2;rfl
 by_cases e3:t=[60,61]
 ·subst e3;rfl
 by_cases e4:t=[62]
 ·subst e4;rfl
 by_cases e5:t=[62,61]
 ·subst e5;rfl
 simp[wP,wR,xQ,e0,e1,e2,e3,e4,e5]
theorem findD (t:Str):nU (.str t) ED=some ((xQ 3 t).map fun n=> .int .i64 n):=by
 by_cases e0:t=[43]
 ·subst e0;rfl
 by_cases e1:t=[45]
 ·subst e1;rfl
 simp[wP,wR,xQ,e0,e1]
theorem findF (t:Str):nU (.str t) EE=some ((xQ 4 t).map fun n=> .int .i64 n):=by
 by_cases e0:t=[42]
 ·subst e0;rfl
 by_cases e1:t=[47]
 ·subst e1;rfl
 by_cases e2:t=[37]
 ·subst e2;rfl
 simp[wP,wR,xQ,e0,e1,e2]
theorem agn {m a b c d e:Nat} (hm:h.get m=some (.map (EM a b c d e) 5)) (ha:h.get a=some (.map EA 1)) (hb:h.get b=some (.map EB 1)) (hc:h.get c=some (.map EC 6)) (hd:h.get d=some (.map ED 2)) (he:h.get e=some (.map EE 3)):PY m h:=by
 refine⟨opsV a b c d e,fun lv hlv=> ?_,fun lv t hlv=> ?_⟩
 ·match lv,hlv with
  |0,_=>simp only[uH,kP,sM,cond_true,mapOf,hm];rfl
  |1,_=>simp only[uH,kP,sM,cond_true,mapOf,hm];rfl
  |2,_=>simp only[uH,kP,sM,cond_true,mapOf,hm];rfl
  |3,_=>simp only[uH,kP,sM,cond_true,mapOf,hm];rfl
  |4,_=>simp only[uH,kP,sM,cond_true,mapOf,hm];rfl
 ·match lv,hlv with
  |0,_=>exact Dn ha t (akn t)
  |1,_=>exact Dn hb t (akL t)
  |2,_=>exact Dn hc t (akK t)
  |3,_=>exact Dn hd t (findD t)
  |4,_=>exact Dn he t (findF t)
theorem aoO (hn:2≤n) (A:Cx h L S F) (H:∀h mp,Cx h L S (PY mp :: F)→K (.map mp) h=true):ak E n (.func 51) [] h K=true:=by
 obtain⟨n,rfl⟩:∃m,n=m+1:=⟨n-1,by omega⟩;apply d51;unfold s51;refine abv A fun m h A=>abv A fun a h A=>vE A rfl fun h A=>TY A rfl fun h A=>have A:=A.frozeO;abv A fun b h A=>vE A rfl fun h A=>TY A rfl fun h A=>have A:=A.frozeO;abv A fun c h A=>vE A rfl fun h A=>vE A rfl fun h A=>vE A rfl fun h A=>vE A rfl fun h A=>vE A rfl fun h A=>vE A rfl fun h A=>TY A rfl fun h A=>have A:=A.frozeO;abv A fun d h A=>vE A rfl fun h A=>vE A rfl fun h A=>TY A rfl fun h A=>have A:=A.frozeO;abv A fun e h A=>vE A rfl fun h A=>vE A rfl fun h A=>vE A rfl fun h A=>TY A rfl fun h A=>have A:=A.frozeO.frozeO;have A:Cx h L S ((fun h=>h.get m=some (.map (EM a b c d e) 5)) :: (fun h=>h.get e=some (.map EE 3)) :: (fun h=>h.get d=some (.map ED 2)) :: (fun h=>h.get c=some (.map EC 6)) :: (fun h=>h.get b=some (.map EB 1)) :: (fun h=>h.get a=some (.map EA 1)) :: F):=A;?_
 have A:=A.add (R:=PY m) fun h q=>agn (q (fun h=>h.get m=some (.map (EM a b c d e) 5)) (by simp)) (q (fun h=>h.get a=some (.map EA 1)) (by simp)) (q (fun h=>h.get b=some (.map EB 1)) (by simp)) (q (fun h=>h.get c=some (.map EC 6)) (by simp)) (q (fun h=>h.get d=some (.map ED 2)) (by simp)) (q (fun h=>h.get e=some (.map EE 3)) (by simp));exact H h m A.drop1.drop1.drop1.drop1.drop1.drop1
end
def Bl (T:List Lx) (k:Nat):PM NQ:=bnd (jB T k k ⟨[],[],[]⟩) fun b i o=>if i=T.length then .ok b i o else .fail i
theorem Ky {α β:Type} {m:PM α} {g:α→PM β} {i:Nat} {o:Int} {v:β} {i':Nat} {o':Int} (h:bnd m g i o= .ok v i' o'):∃w i1 o1,m i o= .ok w i1 o1∧g w i1 o1= .ok v i' o':=by
 unfold bnd at h;cases e:m i o with
 |ok w i1 o1=>rw[e] at h;exact⟨w,i1,o1,rfl,h⟩
 |fail x=>rw[e] at h;cases h
 |out=>rw[e] at h;cases h
theorem zP {T:List Lx} (k0:Nat):∀(k:Nat) (b:NQ) (i:Nat) (o:Int) (v:NQ) (i':Nat) (o':Int),jB T k0 k b i o= .ok v i' o'→T.length≤i'
 |0,b,i,o,v,i',o',h=>by unfold jB at h;cases h
 |k+1,b,i,o,v,i',o',h=>by
  unfold jB at h;by_cases hc:i<T.length
  ·rw[if_pos hc] at h;refine sF h (fun h=> ?_) fun h=> ?_
   ·exact have⟨_,_,_,_,h⟩:=Ky h;zP k0 k _ _ _ _ _ _ h
   ·refine sF h (fun h=> ?_) fun h=> ?_
    ·exact have⟨_,_,_,_,h⟩:=Ky h;zP k0 k _ _ _ _ _ _ h
    ·have⟨_,_,_,_,h⟩:=Ky h;exact have⟨_,_,_,_,h⟩:=Ky h;zP k0 k _ _ _ _ _ _ h
  ·rw[if_neg hc] at h;cases h;exact Nat.le_of_not_lt hc
section
variable {h:ah} {L:gB} {S:List Sl} {F:List (ah→Prop)} {p mp en i n:Nat} {o:Int} {tv:AV} {T:List Lx} {K Q k:aK}
theorem aoJ {kk:Nat} (hk:kk≤100000) (hn:4*kk+101≤n) [b:dN tv mp T F] {bx:Nat} (A:Cx h (vr p (pc tv mp en i o) :: vr bx Xk :: L) S F) (s:dM T en i o)
 (H:Post (jB T kk kk ⟨[],[],[]⟩ i o) (fun v i o=>∀h c,Cx h (vr p (pc tv mp en i o) :: vr bx c :: L) S ((fun h=>I8 h c v) :: F)→dM T en i o→K (.tup []) h=true) (FK K p mp en tv T (vr bx Xk :: L) S F)):
 ak E n (.func 19) [.ptr p 0 0 0, .ptr bx 0 0 0] h K=true:=by
 obtain⟨n,rfl⟩:∃m,n=m+1:=⟨n-1,by omega⟩;apply d19;unfold s19;refine an8 hk hk (by omega) (by omega) A s (Post.mono H ?_ fun x f=>FK.pz' f);intro v i o H h c A s;exact have⟨w1,w2⟩:=(A.f0:I8 h c v).cells;aD rfl<|gF A rfl w1 rfl w2 fun h A=>H h c A s
def OkP (K:aK) (T:List Lx) (en:Nat) (bx:Nat) (L:gB) (S:List Sl) (F:List (ah→Prop)) (r:Res NQ):Prop:=
 Post r (fun b _ _=>∀h c,Cx h (vr bx c :: L) S ((fun h=>I8 h c b) :: F)→K (.tup [.int .i64 0, .int .i64 0]) h=true)
  (fun x=>∀h c,Cx h (vr bx c :: L) S F→K (.tup [.int .i64 (Px T en x:Int), .int .i64 20]) h=true)
theorem aje {call:bg} {df:ni} {n:Nat} {σ:Go.Ab.St} {pend:List (AV×List AV)} {KT:Go.Ab.Mode→Go.Ab.St→Bool} {n0:List aT} {rest:List (aT×List aT×List aT)} {b:cZ} {ρ':bZ} (e:oz n0 σ.regs σ.h=some ρ')
 (s:Go.Ab.oq call (BK rest (zD n0 σ.regs)) [] rest ⟨ρ',σ.h⟩ (fun x σ'=>match x with | .normal=>Go.Ab.runT call df n b pend σ' KT |x=>atEnd df pend x σ' KT)=true):Go.Ab.runT call df n (.seq (.dreg n0 rest) b) pend σ KT=true:=by
 simp only[Go.Ab.runT,Go.Ab.dh,e];exact s
theorem kH {ρ ρ':bZ} {h h':ah} {dst:Option Nat} {op:dW} {v:AV} {l:List aT} (e:aN ρ h op=some (v,h')) (s:oz l (put ρ dst v) h=some ρ'):oz (⟨dst,op,none⟩ :: l) ρ h=some ρ':=by
 simp only[oz,eO,e];exact s
theorem aft {call:bg} {ρ ρ0:bZ} {h:ah} {KE:ow} {dst:Option Nat} {f:bB} {args:List bB} {tgt:NG} {first cap vs:List AV} (ef:ev ρ f=some (.fn tgt first cap)) (ea:evs ρ args=some vs)
 (s:call tgt (first++vs++cap) h (fun v h'=>match iB v with |some x=>KE (.panic x) ⟨ρ0,h'⟩|none=>KE .normal ⟨put ρ dst v,h'⟩)=true):Go.Ab.oq call ρ0 [] [(⟨dst, .call f args,none⟩,[],[])] ⟨ρ,h⟩ KE=true:=by
 simp only[Go.Ab.oq,jM,eO,gW,ef,ea,dI,oL,zF,cond_true,nN,again,oz];refine(congrArg (fun k=>call tgt (first++vs++cap) h k) ?_).trans s
 funext v h'
 cases iB v<;>rfl
theorem alo {call:bg} {df:ni} {n:Nat} {σ:Go.Ab.St} {pend:List (AV×List AV)} {KT:Go.Ab.Mode→Go.Ab.St→Bool} (s:ends df pend .ret σ.h (fun μ h=>KT μ ⟨σ.regs,h⟩)=true):Go.Ab.runT call df n .ret pend σ KT=true:=s
theorem ahF {ρ:bZ} {h:ah} {a c:Nat} {x y:AV} (e6:ρ.get 6=some (.ptr a 0 0 0)) (e7:ρ.get 7=some (.ptr c 0 0 0)) (l6:dL h false 1 (.ptr a 0 0 0)=some x) (l7:dL h false 1 (.ptr c 0 0 0)=some y) (s:K (.tup [x,y]) h=true):kT C35.res K .ret ⟨ρ,h⟩=true:=by
 show(match jg ρ h [(6,some (false,1)),(7,some (false,1))] with |some l=>K (oneOf l) h |none=>false)=true
 simp only[jg,vv,e6,e7,l6,l7];exact s
def Tj:Nat→cZ→cZ
 |n+1, .seq _ b=>Tj n b
 |_,b=>b
theorem akf {df:ni} {g:Nat} {fs cs ag:List AV} {v:AV} {σ:Go.Ab.St} {KT:Go.Ab.Mode→Go.Ab.St→Bool} (s:df g (fs++ag++cs) (.pan v) σ.h (fun μ h=>KT μ ⟨σ.regs,h⟩)=true):atEnd df [(.fn (.func g) fs cs,ag)] (.panic v) σ KT=true:=s
theorem akg {call:bg} {df:ni} {n g:Nat} {fs cs ag:List AV} {σ:Go.Ab.St} {KT:Go.Ab.Mode→Go.Ab.St→Bool} (s:df g (fs++ag++cs) .ret σ.h (fun μ h=>KT μ ⟨σ.regs,h⟩)=true):Go.Ab.runT call df n .ret [(.fn (.func g) fs cs,ag)] σ KT=true:=s
theorem aqv {a c:Nat} {x y:AV} {ρ:bZ} (e6:ρ.get 6=some (.ptr a 0 0 0)) (e7:ρ.get 7=some (.ptr c 0 0 0)) (A:Cx h (vr a [x] :: vr c [y] :: L) S F)
 (s:∀h,Cx h (vr c [.int .i64 0] :: vr a [.int .i64 0] :: L) S F→K (.tup [.int .i64 0, .int .i64 0]) h=true):
 Go.Ab.runT (ak E n) (uF E (ak E n) n) n (Tj 5 C35.body) [(.fn (.func 50) [] [.ptr a 0 0 0, .ptr c 0 0 0],[])] ⟨ρ,h⟩ (kT C35.res K)=true:=by
 have⟨h4,e4,A⟩:=A.set1 (off:=0) (v:= .int .i64 0) (by simp) rfl;have A:Cx h4 (vr a [.int .i64 0] :: vr c [y] :: L) S F:=A;have⟨h5,e5,A⟩:=A.swapL.set1 (off:=0) (v:= .int .i64 0) (by simp) rfl;have A:Cx h5 (vr c [.int .i64 0] :: vr a [.int .i64 0] :: L) S F:=A;show Go.Ab.runT _ _ n (.seq (.reg _) .ret) _ _ _=true;have f6:aN ρ h (.store 1 (.t 6) (.c (.int .i64 0)))=some (.tup [],h4):=by
  simp only[aN,ev,e6];show unit (bM h 1 _ _)=_;rw[show bM h 1 _ _=some h4 from e4]
  rfl
 have f7:aN ρ h4 (.store 1 (.t 7) (.c (.int .i64 0)))=some (.tup [],h5):=by
  simp only[aN,ev,e7];show unit (bM h4 1 _ _)=_;rw[show bM h4 1 _ _=some h5 from e5]
  rfl
 exact zq rfl (eP rfl f6 (eP rfl f7 (jW<|akg (aaG<|ahF e6 e7 (x:= .int .i64 0) (y:= .int .i64 0) (by rw[A.v1.load];rfl) (by rw[A.var.load];rfl)<|s h5 A))))
theorem ale {a c:Nat} {x y v:AV} {ρ:bZ} (hl:v.leaf=true) (e6:ρ.get 6=some (.ptr a 0 0 0)) (e7:ρ.get 7=some (.ptr c 0 0 0)) (A:Cx h (vr a [x] :: vr c [y] :: L) S F)
 (s:∀h,Cx h (vr a [v] :: vr c [.int .i64 20] :: L) S F→K (.tup [v, .int .i64 20]) h=true):
 atEnd (uF E (ak E n) n) [(.fn (.func 50) [] [.ptr a 0 0 0, .ptr c 0 0 0],[])] (.panic (.ifc 111 (.agg [v]))) ⟨ρ,h⟩ (kT C35.res K)=true:=by
 exact akf (aaI A hl fun h A=>ahF e6 e7 (x:=v) (y:= .int .i64 20) (by rw[A.var.load];rfl) (by rw[A.v1.load];rfl)<|s h A)
theorem aqE {kk:Nat} (hk:kk≤100000) (hn:4*kk+110≤n) (ht:agi tv T∈F) (hg:GvF∈F) {bx:Nat} (A:Cx h (vr bx Xk :: L) S F) (s:dM T en 0 0)
 (H:OkP K T en bx L S F (Bl T kk 0 0)):ak E n (.func 35) [tv, .int .i64 (en:Int), .fn (.func 19) [] [.ptr bx 0 0 0]] h K=true:=by
 obtain⟨n,rfl⟩:∃m,n=m+1:=⟨n-1,by omega⟩;have hp:E.prim 35=none:=rfl;have hc:E.code 35=some C35:=rfl;simp only[ak,hp,hc];show Go.Ab.runT (ak E n) (uF E (ak E n) n) n C35.body [] ⟨mK 0 [tv, .int .i64 (en:Int), .fn (.func 19) [] [.ptr bx 0 0 0]] .lf,h⟩ (kT C35.res K)=true;have V:View h 4 tv (T.map lI):=A.fact ht;obtain⟨h1,e1,A⟩:=A.alloc (z:=[.int .i64 0]) (by decide) rfl;have ha:h.sz=h.sz:=rfl;generalize h.sz=a at e1 A;obtain⟨h2,e2,A⟩:=A.alloc (z:=[.int .i64 0]) (by decide) rfl;generalize h1.sz=c at e2 A;refine zq rfl (eP rfl e1 (eP rfl e2 (jW ?_)));refine ag2 (f:= .t 9) (pre:=[⟨some 9, .mkfn 50 [] [.t 6, .t 7],none⟩]) rfl (eP (v:= .fn (.func 50) [] [.ptr a 0 0 0, .ptr c 0 0 0]) (h':=h2) rfl rfl (jW ?_));show Go.Ab.runT _ _ n (.seq (.reg _) _) [(.fn (.func 50) [] [.ptr a 0 0 0, .ptr c 0 0 0],[])] ⟨_,h2⟩ _=true;refine zq rfl (eP (v:=tv) (h':=h2) rfl rfl (eP (v:= .int .i64 (en:Int)) (h':=h2) rfl rfl (Hr (tgt:= .func 51) (first:=[]) (cap:=[]) (vs:=[]) rfl rfl ?_)))
 show ak E n (.func 51) [] h2 _=true;refine aoO (by omega) A fun h mp A=> ?_;show Go.Ab.mR _ _ _ _=true;have hcl:aB (AV.agg (pc tv mp en 0 0)).cells=true:=aF V.leaf rfl;refine eP (v:= .agg (pc tv mp en 0 0)) (h':=h) rfl (by rcases V with⟨_,rfl |rfl⟩|⟨_,_,_,_,_,_,rfl,_⟩<;>rfl) ?_
 obtain⟨h3,e3,A⟩:=A.box (n:=5) (v:= .agg (pc tv mp en 0 0)) rfl (by decide) hcl;generalize h.sz=p at e3 A;refine eP rfl e3 (eP (v:= .ptr p 0 0 0) (h':=h3) rfl rfl (jW ?_));have A:Cx h3 (vr p (pc tv mp en 0 0) :: vr c [.int .i64 0] :: vr a [.int .i64 0] :: vr bx Xk :: L) S (PY mp :: F):=A;have A:=A.swap23.swap12;have bF:dN tv mp T (PY mp :: F):=⟨List.mem_cons_of_mem _ ht,List.mem_cons_self,List.mem_cons_of_mem _ hg⟩;show Go.Ab.runT _ _ n (.seq (.reg _) _) _ _ _=true;refine zq rfl (eP (v:= .fn (.func 19) [] [.ptr bx 0 0 0]) (h':=h3) rfl rfl (eP (v:= .ptr p 0 0 0) (h':=h3) rfl rfl (Hr (tgt:= .func 19) (first:=[]) (cap:=[.ptr bx 0 0 0]) (vs:=[.ptr p 0 0 0]) rfl rfl ?_)))
 show ak E n (.func 19) [.ptr p 0 0 0, .ptr bx 0 0 0] h3 _=true;unfold OkP Bl at H;rw[aC] at H;refine aoJ hk (by omega) A s (Post.mono H.eqn ?_ ?_)
 ·intro v i o ⟨eq,H⟩ h cb A s;have hi:i=T.length:=Nat.le_antisymm s.le (zP kk kk _ _ _ _ _ _ eq);rw[if_pos hi] at H;have V:View h 4 tv (T.map lI):=A.fact (List.mem_cons_of_mem _ bF.tok);have el1:dL h false 1 (.ptr p 0 0 1)=some (.int .i64 (i:Int)):=by rw[A.var.load];rfl
  have el0:dL h false 1 (.ptr p 0 0 0)=some tv:=by rw[A.var.load];rfl
  show Go.Ab.mR _ [] _ _=true;refine jW ?_;show Go.Ab.runT _ _ n (.seq (.dreg _ _) _) _ _ _=true;refine aje (kH (v:= .ptr p 0 0 0) (h':=h) rfl (kH (v:= .ptr p 0 0 0) (h':=h) rfl (kH (v:= .ptr p 0 0 0) (h':=h) rfl (kH (v:= .ptr p 0 0 1) (h':=h) rfl
   (kH (v:= .int .i64 (i:Int)) (h':=h) (by show bT (dL h false 1 (.ptr p 0 0 1)) h=_;rw[el1];rfl) (kH (v:= .ptr p 0 0 0) (h':=h) rfl (kH (v:= .ptr p 0 0 0) (h':=h) rfl (kH (v:= .ptr p 0 0 0) (h':=h) rfl
   (kH (v:=tv) (h':=h) (by show bT (dL h false 1 (.ptr p 0 0 0)) h=_;rw[el0];rfl) (kH (v:= .int .i64 ((T.map lI).length:Int)) (h':=h) (by show bT (AP h 1 tv) h=_;rw[V.len];rfl)
   (kH (v:= .bool true) (h':=h) (by
     show bT (dV .eql (.int .i64 (i:Int)) (.int .i64 ((T.map lI).length:Int))) h=_;rw[gM _ _ _ _ rfl];simp only[lQ,qd,List.length_map,hi,decide_true];rfl) rfl))))))))))) ?_
  refine aft (tgt:= .func 52) (first:=[]) (cap:=[]) (vs:=[.ptr p 0 0 0, .bool true]) rfl rfl ?_
  show ak E n (.func 52) [.ptr p 0 0 0, .bool true] h _=true;refine yB (by omega) A s (aY fun h A s=> ?_);show Go.Ab.runT _ _ n (.seq (.reg _) _) _ _ _=true;have A:Cx h (vr a [.int .i64 0] :: vr c [.int .i64 0] :: vr bx cb :: vr p (pc tv mp en i o) :: L) S ((fun h=>I8 h cb v) :: PY mp :: F):=A.perm (by
   have q1:List.Perm [vr a [AV.int .i64 0],vr c [.int .i64 0],vr bx cb,vr p (pc tv mp en i o)] [vr p (pc tv mp en i o),vr bx cb,vr c [.int .i64 0],vr a [.int .i64 0]]:=List.reverse_perm [vr p (pc tv mp en i o),vr bx cb,vr c [.int .i64 0],vr a [.int .i64 0]];exact q1.append_right L) (.refl _)
  refine aqv rfl rfl A fun h A=> ?_;exact H h cb (A.rest.rest.aZ.drop1)
 ·intro x f h i o A;have A:Cx h (vr a [.int .i64 0] :: vr c [.int .i64 0] :: vr bx Xk :: vr p (pc tv mp en i o) :: L) S (PY mp :: F):=A.perm (by
   have q1:List.Perm [vr a [AV.int .i64 0],vr c [.int .i64 0],vr bx Xk,vr p (pc tv mp en i o)] [vr p (pc tv mp en i o),vr bx Xk,vr c [.int .i64 0],vr a [.int .i64 0]]:=List.reverse_perm [vr p (pc tv mp en i o),vr bx Xk,vr c [.int .i64 0],vr a [.int .i64 0]];exact q1.append_right L) (.refl _)
  refine ale rfl rfl rfl A fun h A=> ?_;exact f h Xk (A.rest.rest.aZ.dJ)
end
structure But (x:Nat) (h h':ah):Prop where
 sz:h.sz≤h'.sz
 keep:∀j o,j≠x→h.get j=some o→h'.get j=some o
theorem But.refl (x:Nat) (h:ah):But x h h:=⟨Nat.le_refl _,fun _ _ _ e=>e⟩
theorem But.trans {x:Nat} {a b c:ah} (p:But x a b) (q:But x b c):But x a c:=⟨Nat.le_trans p.sz q.sz,fun j o e h=>q.keep j o e (p.keep j o e h)⟩
theorem But.put (x:Nat) (h:ah) (o:fC):But x h (h.put x o):=⟨by simp,fun j o' e hj=>by rw[ah.get_put,if_neg e];exact hj⟩
theorem But.ext {x:Nat} {h0 h h':ah} (p:But x h h') (e:Ext h0 h) (k0:h0.Ok) (hx:h0.sz≤x):Ext h0 h':=
 ⟨Nat.le_trans e.1 p.sz,fun j o hj=>p.keep j o (by have:=k0.lt hj;omega) (e.2 j o hj)⟩
theorem But.var {x j:Nat} {h h':ah} {c:List AV} (p:But x h h') (V:Var h j c) (e:j≠x):Var h' j c:=by
 have V':h.row j=some (mq c):=V;show h'.row j=_;rw[ah.row_some] at V' ⊢;exact p.keep j _ e V'
theorem VI {b:Nat} {h h':ah} {n:Nat} {v:AV} {es:List (List AV)} (O:Own b h n v es) (p:∀j o,b≤j→h.get j=some o→h'.get j=some o):Own b h' n v es:=by
 rcases O with V |⟨id,r,w1,w2,w3,w4,w5,w6,w7⟩
 ·exact .inl V
 ·exact .inr ⟨id,r,w1,w2,by rw[ah.row_some] at w3 ⊢;exact p _ _ w1 w3,w4,w5,w6,w7⟩
theorem But.own {x b:Nat} {h h':ah} {n:Nat} {v:AV} {es:List (List AV)} (p:But x h h') (O:Own b h n v es) (e:x<b):Own b h' n v es:=
 VI O fun j o hj g=>p.keep j o (by omega) g
theorem Qn {h h':ah} {v:AV} {e:Nat} (T:SC h v e) (p:∀id g s l c ex o,v= .slc id g s l c ex→h.get id=some o→h'.get id=some o):SC h' v e:=by
 intro id g s l c ex hv;exact have⟨r,q1,q2⟩:=T id g s l c ex hv;⟨r,by rw[ah.row_some] at q1 ⊢;exact p _ _ _ _ _ _ _ hv q1,q2⟩
def Lp (regs:bZ) (ps:List Nat) (asg body:cZ) (st:Kq):fC:= .loop {regs,ps,asg,body,st}
theorem AU (h:ah) (o:fC):(h.push o).get h.sz=some o:=by rw[ah.get_push,if_pos rfl]
theorem qj (h:ah) (id:Nat) (o:fC):(h.put id o).get id=some o:=by rw[ah.get_put,if_pos rfl]
theorem Kr {h:ah} {id j:Nat} {o:fC} (e:j≠id):(h.put id o).get j=h.get j:=by rw[ah.get_put,if_neg e]
theorem JY (k:IntKind) (a:Int):AV.same (.int k a) (.int k a)=true:=by
 simp only[AV.same,Nat.beq_refl,Bool.true_and];rw[qd];simp
theorem adx (a b c d:Nat):AV.same (.ptr a b c d) (.ptr a b c d)=true:=by
 simp only[AV.same,Nat.beq_refl,Bool.and_self]
theorem qW {s:Str} {j k:IntKind} {a b:Nat} (hab:a≤b) (hb:b≤s.length):nQ (.str s) (some (.int j (a:Int))) (some (.int k (b:Int)))=some (.str ((s.take b).drop a)):=by
 simp only[nQ,uJ,qE,aI.2 hab,aI.2 hb,Bool.and_self,cond_true]
theorem dX {s:Str} {j:IntKind} {a:Nat} (hb:a≤s.length):nQ (.str s) (some (.int j (a:Int))) none=some (.str (s.drop a)):=by
 simp only[nQ,uJ,qE,aI.2 hb,aI.2 (Nat.le_refl _),Bool.and_self,cond_true,List.take_length]
theorem adf {s:Str} {k:IntKind} {b:Nat} (hb:b≤s.length):nQ (.str s) none (some (.int k (b:Int)))=some (.str (s.take b)):=by
 simp only[nQ,uJ,qE,aI.2 hb,aI.2 (Nat.zero_le _),Bool.and_self,cond_true,List.drop_zero]
theorem dn {a b:Nat} (h:a+b<lim):dV .add (.int .i64 (a:Int)) (.int .i64 (b:Int))=some (.int .i64 ((a+b:Nat):Int)):=by
 have h':a+b<4611686018427387904:=h;rw[ahp (by omega) (by omega)];rfl
theorem lX {a b:Nat} (h:b≤a) (h2:a<lim):dV .sub (.int .i64 (a:Int)) (.int .i64 (b:Int))=some (.int .i64 ((a-b:Nat):Int)):=by
 have h':a<4611686018427387904:=h2;rw[akD (by omega) (by omega)];congr 2;omega
theorem Vm {a:Nat} (k:Nat) (h:a+k<lim):dV .add (.int .i64 (a:Int)) (.int .i64 (@OfNat.ofNat Int k _))=some (.int .i64 ((a+k:Nat):Int)):=dn h
def yC (s:Str):List (List AV):=s.map fun(b:Nat)=>[AV.int .u8 (b:Int)]
theorem I6:∀(s:Str),(∀b∈s,b<256)→bytesOf (yC s)=some s
 | [],_=>rfl
 |b :: s,h=>by
  show bytesOf ([AV.int .u8 (.ofNat b)] :: yC s)=_;simp only[bytesOf,I6 s (fun c hc=>h c (List.mem_cons_of_mem _ hc)),bC.2 (h b List.mem_cons_self),cond_true]
def pk (s:Str) (i:Nat):Nat:=s[i]?.getD 0
theorem ZA {s:Str} {i:Nat} (h:i<s.length):pk s i=s[i]:=by simp[pk,h]
theorem KO {s:Str} {i:Nat} (h:s.length≤i):pk s i=0:=by simp[pk,h]
theorem eF {s:Str} {k:IntKind} {i:Nat} (h:i<s.length):mX (.str s) (.int k (i:Int))=some (.int .u8 (pk s i:Int)):=by
 rw[ZA h];exact Xp (List.getElem?_eq_getElem h)
theorem tq {s:Str} {i:Nat} (h:i<s.length):s.drop i=pk s i :: s.drop (i+1):=by
 rw[ZA h];exact List.drop_eq_getElem_cons h
theorem gX {x y v:AV} {k:AV→Bool} (e:dV .add x y=some v) (s:k v=true):eG x y k=true:=by rw[WX,e];exact s
theorem iX {x y v:AV} {k:AV→Bool} (e:dV .sub x y=some v) (s:k v=true):FE x y k=true:=by rw[adv,e];exact s
theorem jf {x y v:AV} {k:AV→Bool} (e:mX x y=some v) (s:k v=true):Ia x y k=true:=by rw[agJ,e];exact s
theorem iR {x v:AV} {y z:Option AV} {k:AV→Bool} (e:nQ x y z=some v) (s:k v=true):R7 x y z k=true:=by rw[ajs,e];exact s
theorem Ip {h h':ah} {w v:AV} {k:ah→Bool} (e:bM h 1 w v=some h') (s:k h'=true):aV h w v k=true:=by rw[Ve,e];exact s
theorem lq {x y v:AV} {k:AV→Bool} (e:dV .eql x y=some v) (s:k v=true):dQ x y k=true:=by rw[X8,e];exact s
theorem pF {x y v:AV} {k:AV→Bool} (e:dV .lss x y=some v) (s:k v=true):jL x y k=true:=by rw[adV,e];exact s
theorem sG {x y v:AV} {k:AV→Bool} (e:dV .geq x y=some v) (s:k v=true):CF x y k=true:=by rw[adb,e];exact s
theorem sw {h:ah} {x v:AV} {k:AV→Bool} (e:AP h 1 x=some v) (s:k v=true):fI x k=true:=by rw[adt h,e];exact s
theorem adp {h h':ah} {v w:AV} {k:aK} (e:mo h none 1 v=some (w,h')) (s:k w h'=true):Ct h v k=true:=by rw[Wi,e];exact s
theorem Xe {h h':ah} {z:List AV} {w:AV} {n:Nat} {k:aK} (hn:z.length=n) (h0:Nat.beq n 0=false) (hl:aB z=true) (e:pV h z=some (w,h')) (s:k w h'=true):bL h z n k=true:=by rw[Nb _ _ _ _ hn h0 hl,e];exact s
theorem adM {h h':ah} {n:Nat} {w v:AV} {k:ah→Bool} (hn:Nat.beq n 0=false) (e:bM h n w v=some h') (s:k h'=true):aL h n w v k=true:=by rw[Oz _ _ _ _ _ hn,e];exact s
theorem Pb {z:List AV} {ps:List (Nat×Nat×AV)} {v:AV} {k:AV→Bool} (e:qM z ps=some v) (s:k v=true):dK z ps k=true:=by rw[Tc,e];exact s
theorem wH {c a b:Bool} (e:c=false) (s:b=true):aH (.bool c) a b=true:=by subst e;exact s
theorem wC {c a b:Bool} (e:c=true) (s:a=true):aH (.bool c) a b=true:=by subst e;exact s
def lT (b:Nat):Bool:=(decide (97≤b)&&decide (b≤122))||(decide (65≤b)&&decide (b≤90))
def gU (b:Nat):Bool:=decide (48≤b)&&decide (b≤57)
def Nk (b:Nat):Bool:=lT b||gU b||decide (b=95)
def CP (b:Nat):Bool:=decide (b=32)||decide (b=9)||decide (b=13)||decide (b=10)
def Jq (b:Int):Bool:=(decide (97≤b)&&decide (b≤122))||(decide (65≤b)&&decide (b≤90))
def RG (b:Int):Bool:=decide (48≤b)&&decide (b≤57)
theorem X6 (b:Nat):Jq (b:Int)=lT b:=by
 unfold Jq lT;rw[show decide ((97:Int)≤(b:Int))=decide (97≤b) from decide_eq_decide.2 (by omega),show decide ((b:Int)≤122)=decide (b≤122) from decide_eq_decide.2 (by omega),
  show decide ((65:Int)≤(b:Int))=decide (65≤b) from decide_eq_decide.2 (by omega),show decide ((b:Int)≤90)=decide (b≤90) from decide_eq_decide.2 (by omega)]
theorem aaD (b:Nat):RG (b:Int)=gU b:=by
 unfold RG gU;rw[show decide ((48:Int)≤(b:Int))=decide (48≤b) from decide_eq_decide.2 (by omega),show decide ((b:Int)≤57)=decide (b≤57) from decide_eq_decide.2 (by omega)]
theorem i63 {n:Nat} {b:Int} {h:ah} {K:aK} (k:K (.bool (Jq b)) h=true):ak E (n+1) (.func 96) [.int .u8 b] h K=true:=by
 apply d96;unfold s96;unfold Jq at k;cases h1:decide (97≤b)<;>cases h2:decide (b≤122)<;>cases h3:decide (65≤b)<;>cases h4:decide (b≤90)<;>rw[h1,h2,h3,h4] at k
 all_goals(repeat first |(with_reducible first |refine bU ?_ |refine fH ?_ |refine gD ?_ |refine cO ?_ |refine dx ?_ |refine eD ?_ |refine eZ ?_ |refine Ka ?_ |refine Ij ?_)|rw[h1]|rw[h2]|rw[h3]|rw[h4])
 all_goals exact k
theorem ajj {n b:Nat} {h:ah} {K:aK} (k:K (.bool (lT b)) h=true):ak E (n+1) (.func 96) [.int .u8 (b:Int)] h K=true:=i63 (by rw[X6];exact k)
theorem i65 {n:Nat} {b:Int} {h:ah} {K:aK} (k:K (.bool (RG b)) h=true):ak E (n+1) (.func 98) [.int .u8 b] h K=true:=by
 apply d98;unfold s98;unfold RG at k;cases h1:decide (48≤b)<;>cases h2:decide (b≤57)<;>rw[h1,h2] at k
 all_goals(repeat first |(with_reducible first |refine bU ?_ |refine fH ?_ |refine gD ?_ |refine cO ?_ |refine dx ?_ |refine eD ?_ |refine eZ ?_ |refine Ka ?_ |refine Ij ?_)|rw[h1]|rw[h2])
 all_goals exact k
theorem ah5 {n b:Nat} {h:ah} {K:aK} (k:K (.bool (gU b)) h=true):ak E (n+1) (.func 98) [.int .u8 (b:Int)] h K=true:=i65 (by rw[aaD];exact k)
theorem eqb (c:Nat) (b:Nat):dV .eql (.int .u8 (b:Int)) (.int .u8 (c:Int))=some (.bool (decide (b=c))):=by
 rw[UK,show decide ((b:Int)=(c:Int))=decide (b=c) from decide_eq_decide.2 (by omega)]
theorem ltb (c:Nat) (b:Nat):dV .lss (.int .u8 (b:Int)) (.int .u8 (c:Int))=some (.bool (decide (b<c))):=by
 rw[Ep,show decide ((b:Int)<(c:Int))=decide (b<c) from decide_eq_decide.2 (by omega)]
theorem anP {n b:Nat} {h:ah} {K:aK} (k:K (.bool (Nk b)) h=true):ak E (n+2) (.func 112) [.int .u8 (b:Int)] h K=true:=by
 apply apq;unfold agx;refine ajj ?_;unfold Nk at k;cases hl:lT b with
 |true=>
  rw[hl] at k;exact aD rfl<|eD<|Bn<|fH<|eD<|eD<|fH<|k
 |false=>
  rw[hl] at k;refine aD rfl<|dx<|bU<|lK<|ah5 (aD rfl ?_);unfold zZ;cases hd:gU b with
  |true=>
   rw[hd] at k;exact gD<|eD<|eD<|fH<|k
  |false=>
   rw[hd] at k;refine have e:dV .eql (.int .u8 (b:Int)) (AV.int .u8 95)=some (.bool (decide (b=95))):=eqb 95 b;gD (dx (bU (dx (lq e (gD ?_)))))
   simpa using k
def LX (h:ah) (x:Nat) (s:Str) (a:Nat) (bad:Bool):Prop:=Var h x [.str s, .int .i64 (a:Int), .bool bad]
theorem LX.l0 {h:ah} {x a:Nat} {s:Str} {bad:Bool} (V:LX h x s a bad):dL h false 1 (.ptr x 0 0 0)=some (.str s):=by rw[Var.load V];rfl
theorem LX.l1 {h:ah} {x a:Nat} {s:Str} {bad:Bool} (V:LX h x s a bad):dL h false 1 (.ptr x 0 0 1)=some (.int .i64 (a:Int)):=by rw[Var.load V];rfl
theorem LX.l2 {h:ah} {x a:Nat} {s:Str} {bad:Bool} (V:LX h x s a bad):dL h false 1 (.ptr x 0 0 2)=some (.bool bad):=by rw[Var.load V];rfl
theorem LX.set {h:ah} {x a:Nat} {s:Str} {bad:Bool} (V:LX h x s a bad) (b:Nat):bM h 1 (.ptr x 0 0 1) (.int .i64 (b:Int))=some (h.put x (.row (mq [.str s, .int .i64 (b:Int), .bool bad]))):=by
 rw[Var.set1 V (by show 1<3;omega) rfl];rfl
theorem LX.setb {h:ah} {x a:Nat} {s:Str} {bad:Bool} (V:LX h x s a bad) (b:Bool):bM h 1 (.ptr x 0 0 2) (.bool b)=some (h.put x (.row (mq [.str s, .int .i64 (a:Int), .bool b]))):=by
 rw[Var.set1 V (by show 2<3;omega) rfl];rfl
theorem XL (h:ah) (x:Nat) (s:Str) (a:Nat) (bad:Bool):LX (h.put x (.row (mq [.str s, .int .i64 (a:Int), .bool bad]))) x s a bad:=xu x _
theorem abE {n x a k:Nat} {s:Str} {bad:Bool} {h:ah} {K:aK} (V:LX h x s a bad) (hL:s.length+k<lim) (ha:a≤s.length) (kk:K (.int .u8 (pk s (a+k):Int)) h=true):ak E (n+1) (.func 93) [.ptr x 0 0 0, .int .i64 (k:Int)] h K=true:=by
 apply d93;unfold s93;refine eB<|ay<|aU (LX.l1 V) ?_
 first |refine aU (dn (show a+k<lim by omega)) ?_ |refine gX (dn (show a+k<lim by omega)) ?_ |refine iX (dn (show a+k<lim by omega)) ?_ |refine jf (dn (show a+k<lim by omega)) ?_ |refine iR (dn (show a+k<lim by omega)) ?_ |refine qJ (dn (show a+k<lim by omega)) ?_
 refine eB<|ay<|aU (LX.l0 V)<|ql<|Ka ?_;by_cases hlt:a+k<s.length
 ·refine wH (decide_eq_false (by omega))<|eB<|ay<|aU (LX.l0 V)<|eB<|ay<|aU (LX.l1 V) ?_
  first |refine aU (dn (show a+k<lim by omega)) ?_ |refine gX (dn (show a+k<lim by omega)) ?_ |refine iX (dn (show a+k<lim by omega)) ?_ |refine jf (dn (show a+k<lim by omega)) ?_ |refine iR (dn (show a+k<lim by omega)) ?_ |refine qJ (dn (show a+k<lim by omega)) ?_
  first |refine aU (eF hlt) ?_ |refine gX (eF hlt) ?_ |refine iX (eF hlt) ?_ |refine jf (eF hlt) ?_ |refine iR (eF hlt) ?_ |refine qJ (eF hlt) ?_
  exact kk
 ·refine wC (decide_eq_true (by omega)) ?_;rw[KO (by omega)] at kk;exact kk
theorem l66 {n x a f:Nat} {p:Nat→Bool} {fv:AV} {s:Str} {bad:Bool} {h:ah} {K:aK} (V:LX h x s a bad) (hL:s.length+f<lim) (ha:a≤s.length)
 (hf:∀(b:Nat) (K':aK),K' (.bool (p b)) h=true→kR (ak E n) fv [.int .u8 (b:Int)] h K'=true):∀(m j:Nat),a+f+j≤s.length∨j=0→s.length-(a+f+j)<m→
 K (.int .i64 ((j+((s.drop (a+f+j)).takeWhile p).length:Nat):Int)) h=true→ZC (ak E n) n m (.ptr x 0 0 0) (.int .i64 (f:Int)) fv (.int .i64 (j:Int)) h K=true:=by
 intro m
 induction m with
 |zero=>intro j _ hm;omega
 |succ m ih=>
  intro j hj hm k;unfold ZC acR;refine have hb1:a+f+j<lim:=(by omega);eB<|ay<|aU (LX.l1 V) ?_
  first |refine aU (dn (show a+f<lim by omega)) ?_ |refine gX (dn (show a+f<lim by omega)) ?_ |refine iX (dn (show a+f<lim by omega)) ?_ |refine jf (dn (show a+f<lim by omega)) ?_ |refine iR (dn (show a+f<lim by omega)) ?_ |refine qJ (dn (show a+f<lim by omega)) ?_
  first |refine aU (dn hb1) ?_ |refine gX (dn hb1) ?_ |refine iX (dn hb1) ?_ |refine jf (dn hb1) ?_ |refine iR (dn hb1) ?_ |refine qJ (dn hb1) ?_
  refine eB<|ay<|aU (LX.l0 V)<|ql<|fT ?_;by_cases hlt:a+f+j<s.length
  ·have hd:decide (a+f+j<s.length)=true:=decide_eq_true (by omega);rw[tq hlt,List.takeWhile_cons] at k;rw[hd]
   repeat first |(with_reducible first |refine eB ?_ |refine ay ?_ |refine bU ?_ |refine cO ?_)|refine aU (LX.l0 V) ?_ |refine aU (LX.l1 V) ?_
   first |refine aU (dn (show a+f<lim by omega)) ?_ |refine gX (dn (show a+f<lim by omega)) ?_ |refine iX (dn (show a+f<lim by omega)) ?_ |refine jf (dn (show a+f<lim by omega)) ?_ |refine iR (dn (show a+f<lim by omega)) ?_ |refine qJ (dn (show a+f<lim by omega)) ?_
   refine cO<|bU<|cO ?_
   first |refine aU (dn hb1) ?_ |refine gX (dn hb1) ?_ |refine iX (dn hb1) ?_ |refine jf (dn hb1) ?_ |refine iR (dn hb1) ?_ |refine qJ (dn hb1) ?_
   refine cO ?_
   first |refine aU (eF hlt) ?_ |refine gX (eF hlt) ?_ |refine iX (eF hlt) ?_ |refine jf (eF hlt) ?_ |refine iR (eF hlt) ?_ |refine qJ (eF hlt) ?_
   refine iU<|hf _ _ ?_;cases hp:p (pk s (a+f+j)) with
   |true=>
    rw[hp] at k;refine aD rfl<|fH<|bN ?_
    first |refine aU (jX (show j<lim by omega)) ?_ |refine gX (jX (show j<lim by omega)) ?_ |refine iX (jX (show j<lim by omega)) ?_ |refine jf (jX (show j<lim by omega)) ?_ |refine iR (jX (show j<lim by omega)) ?_ |refine qJ (jX (show j<lim by omega)) ?_
    refine ih (j+1) (by omega) (by omega) ?_;rw[if_pos rfl,List.length_cons] at k;have e1:j+1+((s.drop (a+f+(j+1))).takeWhile p).length=j+(((s.drop (a+f+j+1)).takeWhile p).length+1):=by
     rw[show a+f+(j+1)=a+f+j+1 by omega];omega
    rw[e1];exact k
   |false=>
    rw[hp] at k;refine aD rfl<|fH<|bE ?_;simpa using k
  ·have hd:decide (a+f+j<s.length)=false:=decide_eq_false (by omega);rw[hd]
   repeat first |(with_reducible first |refine bE ?_ |refine eZ ?_ |refine sK ?_ |refine gD ?_)
   rw[List.drop_of_length_le (by omega)] at k;simpa using k
theorem akj {n x a f:Nat} {p:Nat→Bool} {fv:AV} {s:Str} {bad:Bool} {h:ah} {K:aK} (V:LX h x s a bad) (hL:s.length+f<lim) (hn:s.length<n) (ha:a≤s.length)
 (hf:∀(b:Nat) (K':aK),K' (.bool (p b)) h=true→kR (ak E n) fv [.int .u8 (b:Int)] h K'=true)
 (k:K (.int .i64 (((s.drop (a+f)).takeWhile p).length:Int)) h=true):ak E (n+1) (.func 99) [.ptr x 0 0 0, .int .i64 (f:Int),fv] h K=true:=by
 apply d99;unfold s99;exact l66 V hL ha hf n 0 (.inr rfl) (by omega) (by simpa using k)
def nH (l:Str):Nat:=match l with
 | []=>0
 |c :: l=>if lT c=true then((c :: l).takeWhile Nk).length else 0
theorem abg {s:Str} {i:Nat}:nH (s.drop i)=if lT (pk s i)=true then((s.drop i).takeWhile Nk).length else 0:=by
 by_cases h:i<s.length
 ·rw[tq h];rfl
 ·rw[List.drop_of_length_le (by omega),KO (by omega)];rfl
theorem ak0 {n x a f:Nat} {s:Str} {bad:Bool} {h:ah} {K:aK} (V:LX h x s a bad) (hL:s.length+f<lim) (hn:s.length<n) (hn3:3≤n) (ha:a≤s.length)
 (k:K (.int .i64 (nH (s.drop (a+f)):Int)) h=true):ak E (n+2) (.func 97) [.ptr x 0 0 0, .int .i64 (f:Int)] h K=true:=by
 apply d97;unfold s97;refine abE V hL ha (aD rfl<|ajj (aD rfl ?_));unfold K7;rw[abg] at k;refine L8 ?_;cases hl:lT (pk s (a+f)) with
 |false=>rw[hl] at k;refine bN ?_;simpa using k
 |true=>
  rw[hl] at k;refine bE<|akj (p:=Nk) V hL hn ha ?_ (aD rfl (by simpa using k));intro b K' kk;obtain⟨n,rfl⟩:∃j,n=j+2:=⟨n-2,by omega⟩;exact anP kk
theorem aqL {n x a p f m:Nat} {s:Str} {bad:Bool} {h:ah} {K:aK} (V:LX h x s a bad) (P:Var h p [.ptr x 0 0 0]) (hL:s.length<lim) (hb:a+f+m≤s.length)
 (k:K (.str ((s.drop (a+f)).take m)) h=true):ak E (n+1) (.func 95) [.int .i64 (f:Int), .int .i64 (m:Int), .ptr p 0 0 0] h K=true:=by
 apply d95;unfold s95;have P0:dL h false 1 (.ptr p 0 0 0)=some (.ptr x 0 0 0):=by rw[P.load];rfl
 first |refine aU P0 ?_ |refine gX P0 ?_ |refine iX P0 ?_ |refine jf P0 ?_ |refine iR P0 ?_ |refine qJ P0 ?_
 refine eB ?_;refine ay ?_
 first |refine aU V.l0 ?_ |refine gX V.l0 ?_ |refine iX V.l0 ?_ |refine jf V.l0 ?_ |refine iR V.l0 ?_ |refine qJ V.l0 ?_
 first |refine aU P0 ?_ |refine gX P0 ?_ |refine iX P0 ?_ |refine jf P0 ?_ |refine iR P0 ?_ |refine qJ P0 ?_
 refine eB ?_;refine ay ?_
 first |refine aU V.l1 ?_ |refine gX V.l1 ?_ |refine iX V.l1 ?_ |refine jf V.l1 ?_ |refine iR V.l1 ?_ |refine qJ V.l1 ?_
 first |refine aU (dn (show a+f<lim by omega)) ?_ |refine gX (dn (show a+f<lim by omega)) ?_ |refine iX (dn (show a+f<lim by omega)) ?_ |refine jf (dn (show a+f<lim by omega)) ?_ |refine iR (dn (show a+f<lim by omega)) ?_ |refine qJ (dn (show a+f<lim by omega)) ?_
 first |refine aU P0 ?_ |refine gX P0 ?_ |refine iX P0 ?_ |refine jf P0 ?_ |refine iR P0 ?_ |refine qJ P0 ?_
 refine eB ?_;refine ay ?_
 first |refine aU V.l1 ?_ |refine gX V.l1 ?_ |refine iX V.l1 ?_ |refine jf V.l1 ?_ |refine iR V.l1 ?_ |refine qJ V.l1 ?_
 first |refine aU (dn (show a+f<lim by omega)) ?_ |refine gX (dn (show a+f<lim by omega)) ?_ |refine iX (dn (show a+f<lim by omega)) ?_ |refine jf (dn (show a+f<lim by omega)) ?_ |refine iR (dn (show a+f<lim by omega)) ?_ |refine qJ (dn (show a+f<lim by omega)) ?_
 first |refine aU (dn (show a+f+m<lim by omega)) ?_ |refine gX (dn (show a+f+m<lim by omega)) ?_ |refine iX (dn (show a+f+m<lim by omega)) ?_ |refine jf (dn (show a+f+m<lim by omega)) ?_ |refine iR (dn (show a+f+m<lim by omega)) ?_ |refine qJ (dn (show a+f+m<lim by omega)) ?_
 first |refine aU (qW (show a+f≤a+f+m by omega) hb) ?_ |refine gX (qW (show a+f≤a+f+m by omega) hb) ?_ |refine iX (qW (show a+f≤a+f+m by omega) hb) ?_ |refine jf (qW (show a+f≤a+f+m by omega) hb) ?_ |refine iR (qW (show a+f≤a+f+m by omega) hb) ?_ |refine qJ (qW (show a+f≤a+f+m by omega) hb) ?_
 have e:(s.take (a+f+m)).drop (a+f)=(s.drop (a+f)).take m:=by rw[List.drop_take];congr 1;omega
 rw[e];exact k
def bidx (c:Nat):Str→Option Nat
 | []=>none
 |b :: l=>if b=c then some 0 else(bidx c l).map (· + 1)
def fint:Option Nat→Int
 |none=> -1
 |some k=>k
theorem OA (c:Nat):∀(l:Str) (i:Nat),NM c l i=match bidx c l with |none=> -1 |some k=>((i+k:Nat):Int)
 | [],i=>rfl
 |b :: l,i=>by
  simp only[NM,bidx];by_cases e:b=c
  ·rw[aG.2 e,cond_true,if_pos e];rfl
  ·rw[dF.2 e,cond_false,if_neg e,OA c l (i+1)];cases bidx c l with
   |none=>rfl
   |some k=>simp only[Option.map];congr 1;omega
theorem aa0 (c:Nat) (l:Str):NM c l 0=fint (bidx c l):=by
 rw[OA];cases bidx c l with
 |none=>rfl
 |some k=>simp[fint]
theorem anG {n c:Nat} {s:Str} {h:ah} {K:aK} (hc:c<256) (k:K (.int .i64 (fint (bidx c s))) h=true):ak E (n+1) (.func 122) [.str s, .int .u8 (c:Int)] h K=true:=by
 show xB (ak E n) n [.str s, .int .u8 (.ofNat c)] h K=true;simp only[xB,bC.2 hc,cond_true,aa0];exact k
theorem anw {n c:Nat} {s:Str} {h:ah} {K:aK} (hc:c<256) (k:K (.int .i64 (fint (bidx c s))) h=true):ak E (n+2) (.func 111) [.str s, .int .u8 (c:Int)] h K=true:=by
 apply am2;unfold afC;exact anG hc k
theorem ai7 {n c:Nat} {s:Str} {h:ah} {K:aK} (hc:c<256) (k:K (.int .i64 (fint (bidx c s))) h=true):ak E (n+3) (.func 94) [.str s, .int .u8 (c:Int)] h K=true:=by
 apply d94;unfold s94;exact anw hc k
theorem an7 {n:Nat} {s t:Str} {h:ah} {K:aK} (k:K (.bool (t.isPrefixOf s)) h=true):ak E (n+1) (.func 124) [.str s, .str t] h K=true:=by
 apply anO;unfold ae0;refine ql (ql (Ka ?_));by_cases hle:t.length≤s.length
 ·have hd:decide ((t.length:Int)≤(s.length:Int))=true:=decide_eq_true (by omega);have e:(decide (s.take t.length=t))=t.isPrefixOf s:=by
   rw[Bool.eq_iff_iff,decide_eq_true_iff,List.isPrefixOf_iff_prefix,List.prefix_iff_eq_take];exact eq_comm
  rw[hd];refine cO (bU (cO (bU (cO (ql (cO (iR (adf hle) (cO (bU (cO (DT (fH ?_))))))))))));rw[e];exact k
 ·have hd:decide ((t.length:Int)≤(s.length:Int))=false:=decide_eq_false (by omega);have e:t.isPrefixOf s=false:=by
   cases hh:t.isPrefixOf s with
   |false=>rfl
   |true=>exact absurd (List.isPrefixOf_iff_prefix.1 hh).length_le hle
  rw[e] at k;rw[hd];exact eZ (eZ (eZ (eZ (eZ (eZ (gD<|k))))))
theorem aqO {n:Nat} {s t:Str} {h:ah} {K:aK} (k:K (.bool (t.isPrefixOf s)) h=true):ak E (n+2) (.func 115) [.str s, .str t] h K=true:=by
 apply anj;unfold afA;exact an7 k
def BU (p buf:AV):Row:={es:=[[p,buf]],sz:=2,g:=0,m:=0,rw:=true,ty:=some 180}
theorem Ga {h:ah} {id:Nat} {p buf:AV} (V:h.row id=some (BU p buf)) (ag:Bool) (off n:Nat):dL h ag n (.ptr id 0 0 off)=mM ag off n [p,buf]:=by
 simp only[dL,V,BU,Nat.ble_self_eq_true,cond_true,y8]
theorem aa5 {h:ah} {id:Nat} {p buf v:AV} (V:h.row id=some (BU p buf)) (hv:v.leaf=true):bM h 1 (.ptr id 0 0 0) v=some (h.put id (.row (BU v buf))):=by
 have hc:=oM hv;simp only[bM,V,BU,hc,Nat.beq_refl,aB,hv,List.length_cons,List.length_nil,Bool.and_self,cond_true,y8,mI,lay];rfl
theorem aav {h:ah} {id:Nat} {p buf v:AV} (V:h.row id=some (BU p buf)) (hv:v.leaf=true):bM h 1 (.ptr id 0 0 1) v=some (h.put id (.row (BU p v))):=by
 have hc:=oM hv;simp only[bM,V,BU,hc,Nat.beq_refl,aB,hv,List.length_cons,List.length_nil,Bool.and_self,cond_true,y8,mI,lay];rfl
structure Bld (h:ah) (id:Nat) (s:Str):Prop where
 ex:∃p buf,h.row id=some (BU p buf)∧(p= .nilPtr∨p= .ptr id 0 0 0)∧Own (id+1) h 1 buf (yC s)∧SC h buf 5∧(s=[]→buf= .au)
 bytes:∀b∈s,b<256
theorem afO {h:ah} (k:h.Ok):XJ h 180 [AV.nilPtr,AV.au]=some (.ptr h.sz 0 0 0,Ab.newRow h [[AV.nilPtr,AV.au]] 2 (some 180))∧Bld (Ab.newRow h [[AV.nilPtr,AV.au]] 2 (some 180)) h.sz []∧(Ab.newRow h [[AV.nilPtr,AV.au]] 2 (some 180)).Ok∧Ext h (Ab.newRow h [[AV.nilPtr,AV.au]] 2 (some 180)):=by
 refine⟨rfl,⟨⟨.nilPtr, .au, ?_, .inl rfl,Own.nil _ _ _, ?_,fun _=>rfl⟩,fun b hb=>by cases hb⟩,k.push _,rR k _⟩
 ·rw[ah.row_some];exact AU _ _
 ·intro id g s l c ex hv;cases hv
theorem alk {n a b c d:Nat} {h:ah} {K:aK} (k:K (.ptr a b c d) h=true):ak E (n+1) (.func 127) [.ptr a b c d] h K=true:=by
 show Ot (ak E n) n [.ptr a b c d] h K=true;exact k
theorem aq0 {n id:Nat} {p buf:AV} {h:ah} {K:aK} (V:h.row id=some (BU p buf)) (hp:p= .nilPtr∨p= .ptr id 0 0 0) (ho:h.Ok)
 (k:∀h',But id h h'→h'.Ok→h'.row id=some (BU (.ptr id 0 0 0) buf)→K (.tup []) h'=true):ak E (n+2) (.func 123) [.ptr id 0 0 0] h K=true:=by
 apply anW;unfold aga;have hid:=ho.lt (ah.row_some.1 V);have L0:dL h false 1 (.ptr id 0 0 0)=some p:=by rw[Ga V];rfl
 refine eB (ay (aU L0 ?_));rcases hp with rfl |rfl
 ·have e1:Ja h false .ptr .nilPtr .nilPtr=some (.bool true):=rfl;have e2:Xn h (.ptr id 0 0 0)=some (.ptr id 0 0 0):=by simp only[Xn,V,BU];rfl
  refine qJ e1 (bN (qJ e2 (alk (aD rfl ?_))));have e3:V9 h 180 2 [] (.ptr id 0 0 0)=some (.ptr id 0 0 0):=by simp only[V9,V,BU];rfl
  unfold E5;refine qJ e3 (eB (ay (Ip (aa5 V (show(AV.ptr id 0 0 0).leaf=true from rfl)) ?_)))
  exact k _ (But.put _ _ _) (ho.put hid _) (by rw[ah.row_some];exact qj _ _ _)
 ·have e1:Ja h false .ptr (.ptr id 0 0 0) .nilPtr=some (.bool false):=rfl;have e2:Ja h true .ptr (.ptr id 0 0 0) (.ptr id 0 0 0)=some (.bool false):=by
   simp only[Ja,eqA,Yq,V,BU,Nat.beq_refl,cond_true];rfl
  refine qJ e1 (bE (eB (ay (aU L0 (qJ e2 (bE ?_))))));exact k _ (But.refl _ _) ho V
theorem aky {n id b:Nat} {s:Str} {h h0:ah} {K:aK} (B:Bld h id s) (ho:h.Ok) (ho0:h0.Ok) (e0:Ext h0 h) (hid:h0.sz≤id) (hl:s.length+1≤most) (hb:b<256)
 (k:∀h',Ext h0 h'→h'.Ok→Bld h' id (s++[b])→K .iC h'=true):ak E (n+3) (.func 114) [.ptr id 0 0 0, .int .u8 (b:Int)] h K=true:=by
 apply anb;unfold agf;obtain⟨⟨p,buf,V,hp,O,T,hn⟩,hB⟩:=B;refine aq0 V hp ho ?_;intro h1 B1 o1 V1;refine aD rfl ?_;have x1:=B1.ext e0 ho0 hid;have id1:id<h1.sz:=o1.lt (ah.row_some.1 V1);have O1:=B1.own O (by omega);have T1:SC h1 buf 5:=Qn T fun i g st l c ex o hv ho=>by
  rcases O with⟨rfl,_⟩|⟨i',r,q1,q2,_⟩
  ·cases hv
  ·rw[q2] at hv;cases hv;exact B1.keep _ _ (by omega) ho
 have L1:dL h1 false 1 (.ptr id 0 0 1)=some buf:=by rw[Ga V1];rfl
 refine eB (ay (aU L1 ?_));obtain⟨v,g1,W⟩:=yU (h:=h1) (n:=1) (sz:=1) (z:=[AV.int .u8 0]) (ps:=[(0, .int .u8 (b:Int))]) (es:=[[.int .u8 (b:Int)]]) rfl (by decide) (by decide) rfl rfl rfl;refine abN g1 ?_;have e2:=iG o1 [[AV.int .u8 (b:Int)]] 1;have o2:=jk o1 [[AV.int .u8 (b:Int)]] 1;have z2:(Ab.newRow h1 [[AV.int .u8 (b:Int)]] 1).sz=h1.sz+1:=rfl;have T2:SC (Ab.newRow h1 [[AV.int .u8 (b:Int)]] 1) buf 5:=Qn T1 fun _ _ _ _ _ _ _ _ hg=>e2.2 _ _ hg;generalize Ab.newRow h1 [[AV.int .u8 (b:Int)]] 1=h2 at *;obtain⟨v',h3,a1,a2,a3,a4,a5,a6,_,a8⟩:=(O1.ext e2).appb (e:=5) (by omega) o2 ho0 (x1.trans e2) (by omega) W.src (by simpa[yC] using hl);refine abN a1 ?_;have V3:h3.row id=some (BU (.ptr id 0 0 0) buf):=by
  rw[ah.row_some];refine a6 _ _ (e2.2 _ _ (ah.row_some.1 V1)) ?_;intro i g st l c ex hv;rcases O with⟨rfl,_⟩|⟨i',r,q1,q2,_⟩
  ·cases hv
  ·rw[q2] at hv;cases hv;omega
 have id3:id<h3.sz:=a3.lt (ah.row_some.1 V3);refine eB (ay (Ip (aav V3 a2.view.leaf) ?_));refine k _ (Js a4 ho0 hid _) (a3.put id3 _) ⟨⟨.ptr id 0 0 0,v',by rw[ah.row_some];exact qj _ _ _, .inr rfl, ?_, ?_,fun h=>by simp at h⟩, ?_⟩
 ·have:yC (s++[b])=yC s++[[.int .u8 (b:Int)]]:=by simp[yC]
  rw[this];exact VI a2 fun j o hj g=>by rw[Kr (by omega)];exact g
 ·refine Qn (a8 T2) fun i g st l c ex o hv hg=> ?_;rcases a2 with⟨rfl,_⟩|⟨i',r,q1,q2,_⟩
  ·cases hv
  ·rw[q2] at hv;cases hv;rw[Kr (by omega)];exact hg
 ·intro c hc;rcases List.mem_append.1 hc with hc |hc
  ·exact hB c hc
  ·simp only[List.mem_singleton] at hc;omega
theorem an6 {n id:Nat} {s:Str} {h h0:ah} {K:aK} (B:Bld h id s) (ho:h.Ok) (ho0:h0.Ok) (e0:Ext h0 h) (hid:h0.sz≤id) (hl:s.length≤most)
 (k:∀h',Ext h0 h'→h'.Ok→K (.str s) h'=true):ak E (n+1) (.func 113) [.ptr id 0 0 0] h K=true:=by
 apply apK;unfold afs;obtain⟨⟨p,buf,V,hp,O,T,hn⟩,hB⟩:=B;have L1:dL h false 1 (.ptr id 0 0 1)=some buf:=by rw[Ga V];rfl
 have V0:=O.view;refine eB (ay (aU L1 ?_));by_cases hs:s=[]
 ·subst hs;rw[hn rfl] at L1;rw[hn rfl];refine qJ (v:= .nilPtr) rfl (eB (ay (aU L1 (ajz (abN (v:= .str []) (h':=h) rfl ?_)))));exact k _ e0 ho
 ·rcases O with⟨rfl,he⟩|⟨i,r,q1,rfl,q3,q4,q5,q6,q7⟩
  ·cases s with
   |nil=>exact absurd rfl hs
   |cons b s=>simp[yC] at he
  ·obtain⟨r',t1,t2⟩:=T _ _ _ _ _ _ rfl;rw[q3] at t1;cases t1;have hpos:0<(yC s).length:=by cases s with |nil=>exact absurd rfl hs |cons b s=>simp[yC]
   have hlen:(yC s).length=s.length:=by simp[yC]
   have e1:K5 (.slc i r.g 0 (yC s).length (yC s).length false)=some (.ptr i r.g 0 0):=by simp only[K5,bC.2 hpos,cond_true]
   have hk:Nat.beq (yC s).length 0=false:=dF.2 (by omega);have e2:IE h 5 (.ptr i r.g 0 0) (.int .i64 ((yC s).length:Int))=some (.str s,h.put i .gone):=by
    show IE h 5 (.ptr i r.g 0 0) (.int .i64 (.ofNat (yC s).length))=_;simp only[IE,hk,cond_false,q3,t2,q4,Nat.beq_refl,q6,aI.2 (show(yC s).length≤most by omega),Bool.and_self,cond_true,q7,List.take_length,I6 s hB]
   refine qJ e1 (eB (ay (aU L1 (dZ V0 (abN e2 ?_)))));exact k _ (Js e0 ho0 (by omega) _) (ho.put (ho.lt (ah.row_some.1 q3)) _)
def skip:Bool→Str→Nat
 |_,[]=>0
 |true,c :: l=>if c=10 then skip false l+1 else skip true l+1
 |false,c :: l=>if CP c=true then skip false l+1 else if c=47∧l.head? =some 47 then skip true l+1 else 0
theorem zY:∀(b:Bool) (l:Str),skip b l≤l.length
 |_,[]=>by simp[skip]
 |true,c :: l=>by
  have h1:=zY true l;have h2:=zY false l;simp only[skip,List.length_cons];split<;>omega
 |false,c :: l=>by
  have h1:=zY true l;have h2:=zY false l;simp only[skip,List.length_cons];split
  ·omega
  ·split<;>omega
theorem IQ:∀(l:Str),skip true l=match bidx 10 l with |none=>l.length |some k=>k+skip false (l.drop k)
 | []=>rfl
 |c :: l=>by
  simp only[skip,bidx];by_cases e:c=10
  ·subst e;simp[skip,CP]
  ·rw[if_neg e,if_neg e,IQ l];cases bidx 10 l with
   |none=>rfl
   |some k=>
    show k+skip false (l.drop k)+1=(k+1)+skip false ((c :: l).drop (k+1));rw[List.drop_succ_cons];omega
theorem P8 {c:Nat}:∀{l:Str} {k:Nat},bidx c l=some k→k<l.length
 | [],_,h=>by cases h
 |b :: l,k,h=>by
  simp only[bidx] at h;split at h
  ·cases h;simp
  ·cases hb:bidx c l with
   |none=>rw[hb] at h;cases h
   |some j=>rw[hb] at h;cases h;have:=P8 hb;simp;omega
theorem ags {s:Str} {i:Nat} {c:Nat} (hc:c≠0):((s.drop i).head? =some c)↔pk s i=c:=by
 by_cases h:i<s.length
 ·rw[tq h];simp
 ·rw[List.drop_of_length_le (by omega),KO (by omega)];constructor
  ·intro e;cases e
  ·intro e;omega
theorem af0 {s:Str} {a:Nat} (h:a<s.length):skip false (s.drop a)=if CP (pk s a)=true then skip false (s.drop (a+1))+1 else if pk s a=47∧pk s (a+1)=47 then skip true (s.drop a) else 0:=by
 rw[tq h];simp only[skip];split
 ·rfl
 ·rename_i hb;have hp:=ags (s:=s) (i:=a+1) (c:=47) (by decide);by_cases hh:pk s a=47∧pk s (a+1)=47
  ·have:¬pk s a=10:=by rw[hh.1];decide
   rw[if_pos ⟨hh.1,hp.2 hh.2⟩,if_pos hh,if_neg this]
  ·rw[if_neg (fun e=>hh ⟨e.1,hp.1 e.2⟩),if_neg hh]
theorem agC (b:Nat) {k:AV→Bool} (s:k (.bool (CP b))=true):
 (dQ (.int .u8 (b:Int)) (.int .u8 32) fun v2=>gK v2 false (bK (some (.int .u8 (b:Int)))) fun v3=>gK v2 false (dQ v3 (.int .u8 9)) fun v4=>dA v2 (.bool true) v4 fun v5=>gK v5 false (bK (some (.int .u8 (b:Int)))) fun v6=>gK v5 false (dQ v6 (.int .u8 13)) fun v7=>dA v5 (.bool true) v7 fun v8=>gK v8 false (bK (some (.int .u8 (b:Int)))) fun v9=>gK v8 false (dQ v9 (.int .u8 10)) fun v10=>dA v8 (.bool true) v10 fun v11=>k v11)=true:=by
 have e1:dV .eql (.int .u8 (b:Int)) (AV.int .u8 32)=some (.bool (decide (b=32))):=eqb 32 b;have e2:dV .eql (.int .u8 (b:Int)) (AV.int .u8 9)=some (.bool (decide (b=9))):=eqb 9 b;have e3:dV .eql (.int .u8 (b:Int)) (AV.int .u8 13)=some (.bool (decide (b=13))):=eqb 13 b;have e4:dV .eql (.int .u8 (b:Int)) (AV.int .u8 10)=some (.bool (decide (b=10))):=eqb 10 b;unfold CP at s;cases h1:decide (b=32)<;>cases h2:decide (b=9)<;>cases h3:decide (b=13)<;>cases h4:decide (b=10)<;>rw[h1,h2,h3,h4] at s<;>rw[h1] at e1<;>rw[h2] at e2<;>rw[h3] at e3<;>rw[h4] at e4
 all_goals(repeat first |(with_reducible first |refine fH ?_ |refine gD ?_ |refine dx ?_ |refine eD ?_ |refine bU ?_)|refine lq e1 ?_ |refine lq e2 ?_ |refine lq e3 ?_ |refine lq e4 ?_)
 all_goals exact s
theorem j44 {n x a:Nat} {s:Str} {bad:Bool} {h:ah} {K:aK} {B0:AV→ah→Bool} (V:LX h x s a bad) (ho:h.Ok) (hL:s.length+1<lim) (ha:a≤s.length)
 (kB:∀h' a',But x h h'→h'.Ok→LX h' x s a' bad→a<a'→a'≤s.length→a+skip false (s.drop a)=a'+skip false (s.drop a')→B0 (.ptr x 0 0 0) h'=true)
 (kE:skip false (s.drop a)=0→K (.tup []) h=true):Ux (ak E (n+3)) (n+3) B0 (.ptr x 0 0 0) h K=true:=by
 have hx:x<h.sz:=Var.lt V ho;unfold Ux;refine abE (k:=0) V (by omega) ha (aD rfl ?_);refine agC _ ?_;rw[Nat.add_zero];have go:∀a',a<a'→a'≤s.length→a+skip false (s.drop a)=a'+skip false (s.drop a')→
  B0 (.ptr x 0 0 0) (h.put x (.row (mq [.str s, .int .i64 (a':Int), .bool bad])))=true:=fun a' h1 h2 h3=>kB _ a' (But.put x h _) (ho.put hx _) (XL h x s a' bad) h1 h2 h3
 by_cases hend:a<s.length
 ·have hs:=af0 hend;cases hb:CP (pk s a) with
  |true=>
   rw[hb,if_pos rfl] at hs;refine bN ?_;refine eB ?_;refine ay ?_;refine aU (LX.l1 V) ?_
   first |refine aU (jX (show a<lim by omega)) ?_ |refine gX (jX (show a<lim by omega)) ?_ |refine iX (jX (show a<lim by omega)) ?_ |refine jf (jX (show a<lim by omega)) ?_ |refine iR (jX (show a<lim by omega)) ?_ |refine qJ (jX (show a<lim by omega)) ?_ |refine lq (jX (show a<lim by omega)) ?_ |refine z_neE (jX (show a<lim by omega)) ?_ |refine pF (jX (show a<lim by omega)) ?_ |refine sG (jX (show a<lim by omega)) ?_ |refine uP (jX (show a<lim by omega)) ?_ |refine sw (jX (show a<lim by omega)) ?_
   refine eB ?_;refine ay ?_;refine Ip (V.set _) ?_;exact go (a+1) (by omega) (by omega) (by omega)
  |false=>
   rw[hb,if_neg (by decide)] at hs;have e47:dV .eql (.int .u8 (pk s a:Int)) (AV.int .u8 47)=some (.bool (decide (pk s a=47))):=eqb 47 _;refine bE ?_;refine kQ ?_;rw[show decide ((pk s a:Int)=47)=decide (pk s a=47) from decide_eq_decide.2 (by omega)]
   by_cases h1:pk s a=47
   ·rw[decide_eq_true h1];refine cO ?_;refine bU ?_;refine iU ?_;refine abE (k:=1) V hL ha (aD rfl ?_);unfold Gb;have e47':dV .eql (.int .u8 (pk s (a+1):Int)) (AV.int .u8 47)=some (.bool (decide (pk s (a+1)=47))):=eqb 47 _;refine cO ?_;refine kQ ?_;refine fH ?_;rw[show decide ((pk s (a+1):Int)=47)=decide (pk s (a+1)=47) from decide_eq_decide.2 (by omega)]
    skip
    by_cases h2:pk s (a+1)=47
    ·refine wC (decide_eq_true h2) ?_;rw[if_pos ⟨h1,h2⟩,IQ] at hs;refine eB ?_;refine ay ?_;refine aU (LX.l0 V) ?_;refine eB ?_;refine ay ?_;refine aU (LX.l1 V) ?_
     first |refine aU (dX ha) ?_ |refine gX (dX ha) ?_ |refine iX (dX ha) ?_ |refine jf (dX ha) ?_ |refine iR (dX ha) ?_ |refine qJ (dX ha) ?_ |refine lq (dX ha) ?_ |refine z_neE (dX ha) ?_ |refine pF (dX ha) ?_ |refine sG (dX ha) ?_ |refine uP (dX ha) ?_ |refine sw (dX ha) ?_
     refine ai7 (c:=10) (by decide) (aD rfl ?_);have hgo:∀d:Nat,a+d≤s.length→0<d→a+skip false (s.drop a)=(a+d)+skip false (s.drop (a+d))→Kv (ak E (n+3)) (n+3) B0 (.ptr x 0 0 0) (.int .i64 (d:Int)) h K=true:=by
      intro d hd hd0 he;unfold Kv;refine eB ?_;refine ay ?_;refine aU (LX.l1 V) ?_
      first |refine aU (dn (show a+d<lim by omega)) ?_ |refine gX (dn (show a+d<lim by omega)) ?_ |refine iX (dn (show a+d<lim by omega)) ?_ |refine jf (dn (show a+d<lim by omega)) ?_ |refine iR (dn (show a+d<lim by omega)) ?_ |refine qJ (dn (show a+d<lim by omega)) ?_ |refine lq (dn (show a+d<lim by omega)) ?_ |refine z_neE (dn (show a+d<lim by omega)) ?_ |refine pF (dn (show a+d<lim by omega)) ?_ |refine sG (dn (show a+d<lim by omega)) ?_ |refine uP (dn (show a+d<lim by omega)) ?_ |refine sw (dn (show a+d<lim by omega)) ?_
      refine eB ?_;refine ay ?_;refine Ip (V.set _) ?_;exact go (a+d) (by omega) hd he
     cases hk:bidx 10 (s.drop a) with
     |none=>
      rw[hk] at hs;have hl:(s.drop a).length=s.length-a:=by simp
      have e0:dV .lss (.int .i64 (fint none)) (AV.int .i64 0)=some (.bool true):=rfl
      first |refine aU e0 ?_ |refine gX e0 ?_ |refine iX e0 ?_ |refine jf e0 ?_ |refine iR e0 ?_ |refine qJ e0 ?_ |refine lq e0 ?_ |refine z_neE e0 ?_ |refine pF e0 ?_ |refine sG e0 ?_ |refine uP e0 ?_ |refine sw e0 ?_
      refine bN ?_;refine eB ?_;refine ay ?_;refine aU (LX.l0 V) ?_;refine ql ?_;refine eB ?_;refine ay ?_;refine aU (LX.l1 V) ?_
      first |refine aU (lX ha (show s.length<lim by omega)) ?_ |refine gX (lX ha (show s.length<lim by omega)) ?_ |refine iX (lX ha (show s.length<lim by omega)) ?_ |refine jf (lX ha (show s.length<lim by omega)) ?_ |refine iR (lX ha (show s.length<lim by omega)) ?_ |refine qJ (lX ha (show s.length<lim by omega)) ?_ |refine lq (lX ha (show s.length<lim by omega)) ?_ |refine z_neE (lX ha (show s.length<lim by omega)) ?_ |refine pF (lX ha (show s.length<lim by omega)) ?_ |refine sG (lX ha (show s.length<lim by omega)) ?_ |refine uP (lX ha (show s.length<lim by omega)) ?_ |refine sw (lX ha (show s.length<lim by omega)) ?_
      refine hgo (s.length-a) (by omega) (by omega) ?_;rw[show a+(s.length-a)=s.length by omega,List.drop_length];simp only[hl] at hs;rw[hs];simp only[skip];omega
     |some k=>
      rw[hk] at hs;have hlt:=P8 hk;simp only[List.length_drop] at hlt;have hk0:0<k:=by
       rcases Nat.eq_zero_or_pos k with h0 |h0
       ·subst h0;rw[tq hend] at hk;simp only[bidx] at hk;rw[if_neg (by rw[h1];decide)] at hk;cases hq:bidx 10 (s.drop (a+1))<;>rw[hq] at hk<;>simp at hk
       ·exact h0
      have e0:dV .lss (.int .i64 (fint (some k))) (AV.int .i64 0)=some (.bool false):=by
       rw[Ep];rfl
      first |refine aU e0 ?_ |refine gX e0 ?_ |refine iX e0 ?_ |refine jf e0 ?_ |refine iR e0 ?_ |refine qJ e0 ?_ |refine lq e0 ?_ |refine z_neE e0 ?_ |refine pF e0 ?_ |refine sG e0 ?_ |refine uP e0 ?_ |refine sw e0 ?_
      skip
      refine hgo k (by omega) hk0 ?_;simp only[List.drop_drop] at hs;omega
    ·refine wH (decide_eq_false h2) ?_;rw[if_neg (by omega)] at hs;exact kE hs
   ·rw[decide_eq_false h1];refine eZ ?_;refine sK ?_;rw[if_neg (by omega)] at hs;exact kE hs
 ·have hp:=KO (s:=s) (i:=a) (by omega);have hb:CP (pk s a)=false:=by rw[hp];rfl
  have e47:dV .eql (.int .u8 (pk s a:Int)) (AV.int .u8 47)=some (.bool false):=by rw[hp];rfl
  rw[hb];refine bE ?_;refine kQ ?_;rw[show decide ((pk s a:Int)=47)=false from by rw[hp];rfl]
  refine eZ ?_;refine sK ?_;exact kE (by rw[List.drop_of_length_le (by omega)];rfl)
theorem g44 {n x:Nat} {s:Str} {bad:Bool} {K:aK} (hL:s.length+1<lim):∀(m a:Nat) (h:ah),LX h x s a bad→h.Ok→a≤s.length→s.length-a<m→
 (∀h',But x h h'→h'.Ok→LX h' x s (a+skip false (s.drop a)) bad→K (.tup []) h'=true)→VD (ak E (n+3)) (n+3) m (.ptr x 0 0 0) h K=true:=by
 intro m
 induction m with
 |zero=>intro a h _ _ _ hm;omega
 |succ m ih=>
  refine fun a h V ho ha hm k=>j44 V ho hL ha (fun h' a' B o' V' h1 h2 h3=>ih a' h' V' o' h2 (by omega) fun h'' B' o'' V''=>k h'' (B.trans B') o'' (by rw[h3];exact V'')) fun h0=>k h (But.refl _ _) ho (by rw[h0];exact V)
theorem aqw {n x a:Nat} {s:Str} {bad:Bool} {h:ah} {K:aK} (V:LX h x s a bad) (ho:h.Ok) (hL:s.length+1<lim) (ha:a≤s.length) (hn:s.length<n)
 (k:∀h',But x h h'→h'.Ok→LX h' x s (a+skip false (s.drop a)) bad→K (.tup []) h'=true):ak E (n+4) (.func 81) [.ptr x 0 0 0] h K=true:=by
 apply d81;show Ux (ak E (n+3)) (n+3) (fun x0 h=>VD (ak E (n+3)) (n+3) (n+3) x0 h K) (.ptr x 0 0 0) h K=true;refine j44 V ho hL ha (fun h' a' B o' V' h1 h2 h3=>g44 hL _ a' h' V' o' h2 (by omega) fun h'' B' o'' V''=>k h'' (B.trans B') o'' (by rw[h3];exact V'')) fun h0=>k h (But.refl _ _) ho (by rw[h0];exact V)
def zl:List Str:=[[61,61],[33,61],[60,61],[62,61],[38,38],[124,124]]
def Ji:Str:=[40,41,91,93,123,125,44,46,58,59,63,60,62,61,43,45,42,47,37,33]
def l9 (l:Str):Nat:=if(zl.any fun t=>t.isPrefixOf l)=true then 2 else match l with
 | []=>0
 |c :: _=>if(bidx c Ji).isSome=true then 1 else 0
theorem l68 {n x a:Nat} {s:Str} {bad:Bool} {h:ah} {v:AV} {K:aK} (V:LX h x s a bad) (W:View h 1 v (zl.map fun t=>[.str t])) (hb:∀b∈s,b<256) (ha:a<s.length)
 (k:K (.int .i64 (l9 (s.drop a):Int)) h=true):∀(m i:Nat),i≤6→6-i<m→((zl.take i).any fun t=>t.isPrefixOf (s.drop a))=false→
 SE (ak E (n+3)) (n+3) m (.ptr x 0 0 0) v (.int .i64 6) (.int .i64 (i:Int)) h K=true:=by
 intro m
 induction m with
 |zero=>intro i _ hm;omega
 |succ m ih=>
  intro i hi hm hany;unfold SE XE;by_cases hlt:i<6
  ·have ht:zl[i]? =some (zl[i]'hlt):=List.getElem?_eq_getElem hlt;have he:(zl.map fun t=>[AV.str t])[i]? =some [.str (zl[i]'hlt)]:=by rw[List.getElem?_map,ht];rfl
   obtain⟨id,g,j,p1,p2⟩:=W.at he;have e6:decide ((i:Int)<6)=true:=decide_eq_true (by omega);have p3:dL h false 1 (.ptr id g j 0)=some (.str (zl[i]'hlt)):=by rw[p2];rfl
   refine mP (wC e6 ?_)
   first |refine aU (p1 _) ?_ |refine gX (p1 _) ?_ |refine iX (p1 _) ?_ |refine jf (p1 _) ?_ |refine iR (p1 _) ?_ |refine qJ (p1 _) ?_ |refine lq (p1 _) ?_ |refine z_neE (p1 _) ?_ |refine pF (p1 _) ?_ |refine sG (p1 _) ?_ |refine uP (p1 _) ?_ |refine sw (p1 _) ?_
   first |refine aU p3 ?_ |refine gX p3 ?_ |refine iX p3 ?_ |refine jf p3 ?_ |refine iR p3 ?_ |refine qJ p3 ?_ |refine lq p3 ?_ |refine z_neE p3 ?_ |refine pF p3 ?_ |refine sG p3 ?_ |refine uP p3 ?_ |refine sw p3 ?_
   refine eB ?_;refine ay ?_;refine aU (LX.l0 V) ?_;refine eB ?_;refine ay ?_;refine aU (LX.l1 V) ?_
   first |refine aU (dX (Nat.le_of_lt ha)) ?_ |refine gX (dX (Nat.le_of_lt ha)) ?_ |refine iX (dX (Nat.le_of_lt ha)) ?_ |refine jf (dX (Nat.le_of_lt ha)) ?_ |refine iR (dX (Nat.le_of_lt ha)) ?_ |refine qJ (dX (Nat.le_of_lt ha)) ?_ |refine lq (dX (Nat.le_of_lt ha)) ?_ |refine z_neE (dX (Nat.le_of_lt ha)) ?_ |refine pF (dX (Nat.le_of_lt ha)) ?_ |refine sG (dX (Nat.le_of_lt ha)) ?_ |refine uP (dX (Nat.le_of_lt ha)) ?_ |refine sw (dX (Nat.le_of_lt ha)) ?_
   refine aqO ?_;cases hp:(zl[i]'hlt).isPrefixOf (s.drop a) with
   |true=>
    have:(zl.any fun t=>t.isPrefixOf (s.drop a))=true:=List.any_eq_true.2 ⟨_,List.getElem_mem hlt,hp⟩;have e:l9 (s.drop a)=2:=by unfold l9;rw[if_pos this]
    rw[e] at k;refine aD rfl ?_;refine bN ?_;exact k
   |false=>
    refine aD rfl ?_;refine bE ?_
    first |refine aU (jX (show i<lim by have:=rY;omega)) ?_ |refine gX (jX (show i<lim by have:=rY;omega)) ?_ |refine iX (jX (show i<lim by have:=rY;omega)) ?_ |refine jf (jX (show i<lim by have:=rY;omega)) ?_ |refine iR (jX (show i<lim by have:=rY;omega)) ?_ |refine qJ (jX (show i<lim by have:=rY;omega)) ?_ |refine lq (jX (show i<lim by have:=rY;omega)) ?_ |refine z_neE (jX (show i<lim by have:=rY;omega)) ?_ |refine pF (jX (show i<lim by have:=rY;omega)) ?_ |refine sG (jX (show i<lim by have:=rY;omega)) ?_ |refine uP (jX (show i<lim by have:=rY;omega)) ?_ |refine sw (jX (show i<lim by have:=rY;omega)) ?_
    refine ih (i+1) (by omega) (by omega) ?_;rw[List.take_add_one,ht,List.any_append,hany];simp[hp]
  ·have hi6:i=6:=by omega
   subst hi6;have e6:decide (((6:Nat):Int)<6)=false:=decide_eq_false (by omega);have hany':(zl.any fun t=>t.isPrefixOf (s.drop a))=false:=by
    have:zl.take 6=zl:=rfl;rw[this] at hany;exact hany
   have hm0:l9 (s.drop a)=if(bidx (pk s a) Ji).isSome=true then 1 else 0:=by
    unfold l9;rw[if_neg (by rw[hany'];decide),tq ha]
   refine mP (wH e6 ?_);unfold Qu;refine eB ?_;refine ay ?_;refine aU (LX.l0 V) ?_;refine eB ?_;refine ay ?_;refine aU (LX.l1 V) ?_
   first |refine aU (eF ha) ?_ |refine gX (eF ha) ?_ |refine iX (eF ha) ?_ |refine jf (eF ha) ?_ |refine iR (eF ha) ?_ |refine qJ (eF ha) ?_ |refine lq (eF ha) ?_ |refine z_neE (eF ha) ?_ |refine pF (eF ha) ?_ |refine sG (eF ha) ?_ |refine uP (eF ha) ?_ |refine sw (eF ha) ?_
   refine ai7 (c:=pk s a) (by rw[ZA ha];exact hb _ (List.getElem_mem ha)) ?_;rw[hm0] at k;refine aD rfl ?_;show CF (.int .i64 (fint (bidx (pk s a) Ji))) _ _=true;cases hs:bidx (pk s a) Ji with
   |none=>
    rw[hs] at k;have e0:dV .geq (.int .i64 (fint none)) (AV.int .i64 0)=some (.bool false):=rfl
    first |refine aU e0 ?_ |refine gX e0 ?_ |refine iX e0 ?_ |refine jf e0 ?_ |refine iR e0 ?_ |refine qJ e0 ?_ |refine lq e0 ?_ |refine z_neE e0 ?_ |refine pF e0 ?_ |refine sG e0 ?_ |refine uP e0 ?_ |refine sw e0 ?_
    refine bE ?_;exact k
   |some j=>
    rw[hs] at k;have e0:dV .geq (.int .i64 (fint (some j))) (AV.int .i64 0)=some (.bool true):=by
     rw[S9];rfl
    first |refine aU e0 ?_ |refine gX e0 ?_ |refine iX e0 ?_ |refine jf e0 ?_ |refine iR e0 ?_ |refine qJ e0 ?_ |refine lq e0 ?_ |refine z_neE e0 ?_ |refine pF e0 ?_ |refine sG e0 ?_ |refine uP e0 ?_ |refine sw e0 ?_
    skip
    exact k
theorem amV {n x a:Nat} {s:Str} {bad:Bool} {h:ah} {K:aK} (V:LX h x s a bad) (ho:h.Ok) (hb:∀b∈s,b<256) (ha:a<s.length) (hn:6≤n)
 (k:∀h',Ext h h'→h'.Ok→K (.int .i64 (l9 (s.drop a):Int)) h'=true):ak E (n+4) (.func 101) [.ptr x 0 0 0] h K=true:=by
 apply aqD;unfold afu;refine have⟨v,g1,W⟩:=yU (h:=h) (n:=6) (sz:=1) (z:=[AV.str []]) (ps:=[(0,(AV.str [61,61])),(1,(AV.str [33,61])),(2,(AV.str [60,61])),(3,(AV.str [62,61])),(4,(AV.str [38,38])),(5,(AV.str [124,124]))]) (es:=zl.map fun t=>[.str t]) rfl (by decide) (by decide) rfl rfl rfl;abN g1<|have e:=iG ho (zl.map fun t=>[AV.str t]) 1;have o:=jk ho (zl.map fun t=>[AV.str t]) 1;?_
 first |refine aU W.len ?_ |refine gX W.len ?_ |refine iX W.len ?_ |refine jf W.len ?_ |refine iR W.len ?_ |refine qJ W.len ?_ |refine lq W.len ?_ |refine z_neE W.len ?_ |refine pF W.len ?_ |refine sG W.len ?_ |refine uP W.len ?_ |refine sw W.len ?_
 exact l68 (V.ext e) W hb ha (k _ e o) (n+3) 0 (by omega) (by omega) rfl
def esc (d:Nat):Option Nat:=if d=34 then some 34 else if d=92 then some 92 else if d=110 then some 10 else if d=116 then some 9 else none
def quo:Str→Option (Str×Nat)
 | []=>none
 | [c]=>if c=34 then some ([],1) else none
 |c :: d :: l=>if c=34 then some ([],1) else if c=92 then(match esc d with
   |none=>none
   |some e=>(quo l).map fun r=>(e :: r.1,r.2+2))
  else if c<32 then none else(quo (d :: l)).map fun r=>(c :: r.1,r.2+1)
theorem SH:∀(l:Str) (t:Str) (m:Nat),quo l=some (t,m)→0<m∧m≤l.length∧t.length+1≤m
 | [],t,m,h=>by cases h
 | [c],t,m,h=>by
   simp only[quo] at h;split at h
   ·cases h;simp
   ·cases h
 |c :: d :: l,t,m,h=>by
  simp only[quo] at h;split at h
  ·cases h;simp
  ·split at h
   ·cases he:esc d with
    |none=>rw[he] at h;cases h
    |some e=>
     rw[he] at h;cases hq:quo l with
     |none=>rw[hq] at h;cases h
     |some r=>
      rw[hq] at h;have⟨t',m'⟩:=r;have:=SH l t' m' hq;cases h;simp only[List.length_cons];omega
   ·split at h
    ·cases h
    ·cases hq:quo (d :: l) with
     |none=>rw[hq] at h;cases h
     |some r=>
      rw[hq] at h;have⟨t',m'⟩:=r;have:=SH (d :: l) t' m' hq;cases h;simp only[List.length_cons] at *;omega
theorem acH {s:Str} {i:Nat} (h:i<s.length):quo (s.drop i)=if pk s i=34 then some ([],1) else if pk s i=92 then(match esc (pk s (i+1)) with
 |none=>none
 |some e=>(quo (s.drop (i+2))).map fun r=>(e :: r.1,r.2+2))
 else if pk s i<32 then none else(quo (s.drop (i+1))).map fun r=>(pk s i :: r.1,r.2+1):=by
 rw[tq h];by_cases h1:i+1<s.length
 ·rw[tq h1];rfl
 ·rw[List.drop_of_length_le (show s.length≤i+1 by omega),KO (show s.length≤i+1 by omega)];have e0:esc 0=none:=rfl;simp only[quo,e0];split
  ·rfl
  ·split
   ·rfl
   ·split<;>rfl
theorem aeZ (d:Nat):esc d=match bidx d [34,92,110,116] with |none=>none |some k=>some (pk [34,92,10,9] k):=by
 by_cases h1:d=34
 ·subst h1;rfl
 by_cases h2:d=92
 ·subst h2;rfl
 by_cases h3:d=110
 ·subst h3;rfl
 by_cases h4:d=116
 ·subst h4;rfl
 simp only[esc,bidx,if_neg h1,if_neg h2,if_neg h3,if_neg h4,if_neg (fun e=>h1 (Eq.symm e):¬34=d),if_neg (fun e=>h2 (Eq.symm e):¬92=d),if_neg (fun e=>h3 (Eq.symm e):¬110=d),if_neg (fun e=>h4 (Eq.symm e):¬116=d)];rfl
theorem Sr {s:Str} (hb:∀b∈s,b<256) (i:Nat):pk s i<256:=by
 by_cases h:i<s.length
 ·rw[ZA h];exact hb _ (List.getElem_mem h)
 ·rw[KO (by omega)];omega
def aeu (acc:Str) (i:Nat):Option (Str×Nat)→AV
 |none=> .tup [.str [], .int .i64 0]
 |some r=> .tup [.str (acc++r.1), .int .i64 ((i+r.2:Nat):Int)]
theorem l67 {n x a bd:Nat} {s:Str} {bad:Bool} {h0:ah} {K:aK} (V:LX h0 x s a bad) (ho0:h0.Ok) (hL:2*s.length+4<most) (hb:∀b∈s,b<256) (ha:a≤s.length) (hid:h0.sz≤bd)
 :∀(m i:Nat) (acc:Str) (h:ah),h.Ok→Ext h0 h→Bld h bd acc→acc.length≤i→i≤s.length+2→s.length+2-i<m→
  (∀h',Ext h0 h'→h'.Ok→K (aeu acc i (quo (s.drop (a+i)))) h'=true)→QF (ak E (n+3)) (n+3) m (.ptr x 0 0 0) (.ptr bd 0 0 0) (.int .i64 (i:Int)) h K=true:=by
 have hlim:most<lim:=by decide
 intro m
 induction m with
 |zero=>intro i acc h _ _ _ _ _ hm;omega
 |succ m ih=>
  intro i acc h ho e0 B hacc hi hm k;have V':LX h x s a bad:=Var.ext V e0;unfold QF Ws;refine eB ?_;refine ay ?_;refine aU (LX.l1 V') ?_
  first |refine aU (dn (show a+i<lim by omega)) ?_ |refine gX (dn (show a+i<lim by omega)) ?_ |refine iX (dn (show a+i<lim by omega)) ?_ |refine jf (dn (show a+i<lim by omega)) ?_ |refine iR (dn (show a+i<lim by omega)) ?_ |refine qJ (dn (show a+i<lim by omega)) ?_ |refine lq (dn (show a+i<lim by omega)) ?_ |refine z_neE (dn (show a+i<lim by omega)) ?_ |refine pF (dn (show a+i<lim by omega)) ?_ |refine sG (dn (show a+i<lim by omega)) ?_ |refine uP (dn (show a+i<lim by omega)) ?_ |refine sw (dn (show a+i<lim by omega)) ?_
  refine eB ?_;refine ay ?_;refine aU (LX.l0 V') ?_;refine ql ?_;refine fT ?_;by_cases hlt:a+i<s.length
  ·refine wC (decide_eq_true (by omega)) ?_;have hq:=acH hlt;rw[hq] at k;refine abE V' (by omega) ha (aD rfl ?_);have e34:dV .eql (.int .u8 (pk s (a+i):Int)) (AV.int .u8 34)=some (.bool (decide (pk s (a+i)=34))):=eqb 34 _;refine lq e34 ?_;by_cases h1:pk s (a+i)=34
   ·refine wC (decide_eq_true h1) ?_;rw[if_pos h1] at k;refine an6 B ho ho0 e0 hid (by omega) fun h' e' o'=> ?_;have e1:dV .add (.int .i64 (i:Int)) (AV.int .i64 1)=some (.int .i64 ((i+1:Nat):Int)):=Vm 1 (by omega);refine aD rfl ?_;unfold Bz;refine gX e1 ?_;have:=k h' e' o';simp only[aeu,List.append_nil] at this;exact this
   ·refine wH (decide_eq_false h1) ?_;rw[if_neg h1] at k;have e92:dV .eql (.int .u8 (pk s (a+i):Int)) (AV.int .u8 92)=some (.bool (decide (pk s (a+i)=92))):=eqb 92 _;refine lq e92 ?_;by_cases h2:pk s (a+i)=92
    ·refine wC (decide_eq_true h2) ?_;rw[if_pos h2,show a+i+1=a+(i+1) by omega] at k;have e1:dV .add (.int .i64 (i:Int)) (AV.int .i64 1)=some (.int .i64 ((i+1:Nat):Int)):=Vm 1 (by omega);refine gX e1 ?_;refine abE V' (k:=i+1) (by omega) ha (aD rfl ?_);unfold BA;refine ai7 (Sr hb _) (aD rfl ?_);rw[aeZ] at k;show jL (.int .i64 (fint (bidx (pk s (a+(i+1))) [34,92,110,116]))) _ _=true;cases hk:bidx (pk s (a+(i+1))) [34,92,110,116] with
     |none=>
      rw[hk] at k;have e0':dV .lss (.int .i64 (fint none)) (AV.int .i64 0)=some (.bool true):=rfl;refine pF e0' ?_;refine bN ?_;exact k h e0 ho
     |some j=>
      rw[hk] at k;have e0':dV .lss (.int .i64 (fint (some j))) (AV.int .i64 0)=some (.bool false):=by rw[Ep];rfl
      have hj:=P8 hk;have hj4:j<4:=hj;refine pF e0' ?_;refine bE ?_
      first |refine aU (show mX (.str [34,92,10,9]) (.int .i64 (fint (some j)))=some (.int .u8 (pk [34,92,10,9] j:Int)) from eF (s:=[34,92,10,9]) hj) ?_ |refine gX (show mX (.str [34,92,10,9]) (.int .i64 (fint (some j)))=some (.int .u8 (pk [34,92,10,9] j:Int)) from eF (s:=[34,92,10,9]) hj) ?_ |refine iX (show mX (.str [34,92,10,9]) (.int .i64 (fint (some j)))=some (.int .u8 (pk [34,92,10,9] j:Int)) from eF (s:=[34,92,10,9]) hj) ?_ |refine jf (show mX (.str [34,92,10,9]) (.int .i64 (fint (some j)))=some (.int .u8 (pk [34,92,10,9] j:Int)) from eF (s:=[34,92,10,9]) hj) ?_ |refine iR (show mX (.str [34,92,10,9]) (.int .i64 (fint (some j)))=some (.int .u8 (pk [34,92,10,9] j:Int)) from eF (s:=[34,92,10,9]) hj) ?_ |refine qJ (show mX (.str [34,92,10,9]) (.int .i64 (fint (some j)))=some (.int .u8 (pk [34,92,10,9] j:Int)) from eF (s:=[34,92,10,9]) hj) ?_ |refine lq (show mX (.str [34,92,10,9]) (.int .i64 (fint (some j)))=some (.int .u8 (pk [34,92,10,9] j:Int)) from eF (s:=[34,92,10,9]) hj) ?_ |refine z_neE (show mX (.str [34,92,10,9]) (.int .i64 (fint (some j)))=some (.int .u8 (pk [34,92,10,9] j:Int)) from eF (s:=[34,92,10,9]) hj) ?_ |refine pF (show mX (.str [34,92,10,9]) (.int .i64 (fint (some j)))=some (.int .u8 (pk [34,92,10,9] j:Int)) from eF (s:=[34,92,10,9]) hj) ?_ |refine sG (show mX (.str [34,92,10,9]) (.int .i64 (fint (some j)))=some (.int .u8 (pk [34,92,10,9] j:Int)) from eF (s:=[34,92,10,9]) hj) ?_ |refine uP (show mX (.str [34,92,10,9]) (.int .i64 (fint (some j)))=some (.int .u8 (pk [34,92,10,9] j:Int)) from eF (s:=[34,92,10,9]) hj) ?_ |refine sw (show mX (.str [34,92,10,9]) (.int .i64 (fint (some j)))=some (.int .u8 (pk [34,92,10,9] j:Int)) from eF (s:=[34,92,10,9]) hj) ?_
      refine aky B ho ho0 e0 hid (by omega) (Sr (by decide) j) fun h' e' o' B'=>aD rfl ?_;unfold Ev;have e2:dV .add (.int .i64 ((i+1:Nat):Int)) (AV.int .i64 1)=some (.int .i64 ((i+2:Nat):Int)):=Vm 1 (by omega);refine gX e2 ?_;have hpos:a+(i+1)<s.length:=by
       rcases Nat.lt_or_ge (a+(i+1)) s.length with hh |hh
       ·exact hh
       ·rw[KO hh] at hk;cases hk
      refine ih (i+2) _ h' o' e' B' (by simp;omega) (by omega) (by omega) fun h'' e'' o''=> ?_;have:=k h'' e'' o'';rw[show a+i+2=a+(i+2) by omega] at this;cases hq2:quo (s.drop (a+(i+2))) with
      |none=>rw[hq2] at this;exact this
      |some r=>
       rw[hq2] at this;simp only[Option.map,aeu] at this ⊢;rw[List.append_assoc];rw[show i+2+r.2=i+(r.2+2) by omega];exact this
    ·refine wH (decide_eq_false h2) ?_;rw[if_neg h2] at k;have e32:dV .lss (.int .u8 (pk s (a+i):Int)) (AV.int .u8 32)=some (.bool (decide (pk s (a+i)<32))):=ltb 32 _;refine pF e32 ?_;by_cases h3:pk s (a+i)<32
     ·refine wC (decide_eq_true h3) ?_;rw[if_pos h3] at k;exact k h e0 ho
     ·refine wH (decide_eq_false h3) ?_;rw[if_neg h3] at k;refine aky B ho ho0 e0 hid (by omega) (Sr hb _) fun h' e' o' B'=>aD rfl ?_;unfold Ev;have e2:dV .add (.int .i64 (i:Int)) (AV.int .i64 1)=some (.int .i64 ((i+1:Nat):Int)):=Vm 1 (by omega);refine gX e2 ?_;refine ih (i+1) _ h' o' e' B' (by simp;omega) (by omega) (by omega) fun h'' e'' o''=> ?_;have:=k h'' e'' o'';rw[show a+i+1=a+(i+1) by omega] at this;cases hq2:quo (s.drop (a+(i+1))) with
      |none=>rw[hq2] at this;exact this
      |some r=>
       rw[hq2] at this;simp only[Option.map,aeu] at this ⊢;rw[List.append_assoc];rw[show i+1+r.2=i+(r.2+1) by omega];exact this
  ·refine wH (decide_eq_false (by omega)) ?_;rw[List.drop_of_length_le (by omega)] at k;exact k h e0 ho
theorem aoe {n x a:Nat} {s:Str} {bad:Bool} {h:ah} {K:aK} (V:LX h x s a bad) (ho:h.Ok) (hL:2*s.length+4<most) (hb:∀b∈s,b<256) (ha:a≤s.length) (hn:s.length<n)
 (k:∀h',Ext h h'→h'.Ok→K (aeu [] 1 (quo (s.drop (a+1)))) h'=true):ak E (n+4) (.func 100) [.ptr x 0 0 0] h K=true:=by
 apply apG;unfold agP;exact have⟨b1,b2,b3,b4⟩:=afO ho;abN b1<|l67 V ho hL hb ha (Nat.le_refl _) (n+3) 1 [] _ b3 b4 b2 (by simp) (by omega) (by omega) k
def uE:Str→Option (Nat×Str×Nat)
 | []=>none
 |c :: l=>if lT c=true then some (0,(c :: l).take (nH (c :: l)),nH (c :: l))
  else if c=36 then(if 0<nH l then some (1,l.take (nH l),nH l+1) else none)
  else if gU c=true then some (2,(c :: l).take ((c :: l).takeWhile gU).length,((c :: l).takeWhile gU).length)
  else if c=34 then(quo l).map fun r=>(3,r.1,r.2+1)
  else if 0<l9 (c :: l) then some (4,(c :: l).take (l9 (c :: l)),l9 (c :: l)) else none
theorem ae2 {s:Str} {a:Nat} (h:a<s.length):uE (s.drop a)=if lT (pk s a)=true then some (0,(s.drop a).take (nH (s.drop a)),nH (s.drop a))
 else if pk s a=36 then(if 0<nH (s.drop (a+1)) then some (1,(s.drop (a+1)).take (nH (s.drop (a+1))),nH (s.drop (a+1))+1) else none)
 else if gU (pk s a)=true then some (2,(s.drop a).take ((s.drop a).takeWhile gU).length,((s.drop a).takeWhile gU).length)
 else if pk s a=34 then(quo (s.drop (a+1))).map fun r=>(3,r.1,r.2+1)
 else if 0<l9 (s.drop a) then some (4,(s.drop a).take (l9 (s.drop a)),l9 (s.drop a)) else none:=by
 rw[tq h];rfl
theorem C8 {p:Nat→Bool}:∀(l:Str),(l.takeWhile p).length≤l.length
 | []=>by simp
 |c :: l=>by
  rw[List.takeWhile_cons];split
  ·have:=C8 (p:=p) l;simp only[List.length_cons];omega
  ·simp
theorem Jo (l:Str):nH l≤l.length:=by
 cases l with
 |nil=>simp[nH]
 |cons c l=>simp only[nH];split
            ·exact C8 _
            ·omega
theorem YB (l:Str):l9 l≤l.length:=by
 unfold l9;split
 ·rename_i h;have⟨t,ht,hp⟩:=List.any_eq_true.1 h;have h1:=(List.isPrefixOf_iff_prefix.1 hp).length_le;have h2:t.length=2:=by
   have:∀t∈zl,t.length=2:=by decide
   exact this t ht
  omega
 ·cases l with
  |nil=>simp
  |cons c l=>simp only[List.length_cons];split<;>omega
theorem JB {l:Str} {kd m:Nat} {t:Str} (h:uE l=some (kd,t,m)):0<m∧m≤l.length:=by
 cases l with
 |nil=>cases h
 |cons c l=>
  have e1:=Jo (c :: l);have e2:=Jo l;have e3:=YB (c :: l);have e4:=C8 (p:=gU) (c :: l);simp only[uE] at h;split at h
  ·rename_i hc;cases h;refine⟨?_,e1⟩;have hw:Nk c=true:=by simp[Nk,hc]
   simp only[nH,hc,if_true];rw[List.takeWhile_cons,hw];simp
  ·split at h
   ·split at h
    ·cases h;simp only[List.length_cons];omega
    ·cases h
   ·split at h
    ·rename_i hc;cases h;refine⟨?_,e4⟩;rw[List.takeWhile_cons,hc];simp
    ·split at h
     ·cases hq:quo l with
      |none=>rw[hq] at h;cases h
      |some r=>
       rw[hq] at h;have⟨t',m'⟩:=r;have:=SH l t' m' hq;cases h;simp only[List.length_cons];omega
     ·split at h
      ·cases h;omega
      ·cases h
theorem akI {h:ah} {id:Nat} {c:List AV} {a b v:AV} {K:aK} (V:Var h id c) (hc:c.length=4) (ha:a.leaf=true) (hb:b.leaf=true)
 (k:K (.tup [.agg [a,b, .int .i64 0, .int .i64 0],v]) (h.put id (.row (mq [a,b, .int .i64 0, .int .i64 0])))=true):
 (aL h 4 (.ptr id 0 0 0) (.agg [a,b, .int .i64 0, .int .i64 0]) fun h=>gI (fF h [(.ptr id 0 0 0,some (true,4)),(v,none)]) h K)=true:=by
 have hl:aB (AV.agg [a,b, .int .i64 0, .int .i64 0]).cells=true:=by
  show(bif a.leaf then(bif b.leaf then _ else false) else false)=true;rw[ha,hb];rfl
 have hy:lay c 0 (AV.agg [a,b, .int .i64 0, .int .i64 0]).cells=[a,b, .int .i64 0, .int .i64 0]:=by
  match c,hc with
  | [_,_,_,_],_=>rfl
 have hs:=V.store (n:=4) (off:=0) (v:= .agg [a,b, .int .i64 0, .int .i64 0]) rfl (by omega) hl;rw[hy] at hs;refine adM rfl hs ?_;have V':=xu (h:=h) id [a,b, .int .i64 0, .int .i64 0];simp only[fF,V'.load];exact k
theorem apj {n x a:Nat} {s:Str} {bad:Bool} {h:ah} {K:aK} (V:LX h x s a bad) (ho:h.Ok) (hL:2*s.length+4<most) (hb:∀b∈s,b<256) (ha:a<s.length) (hn:s.length<n) (hn6:6≤n)
 (kS:∀kd t m h',uE (s.drop a)=some (kd,t,m)→Ext h h'→h'.Ok→K (.tup [.agg [.int .i64 (kd:Int), .str t, .int .i64 0, .int .i64 0], .int .i64 (m:Int)]) h'=true)
 (kN:uE (s.drop a)=none→∀(kd:Nat) t h',Ext h h'→h'.Ok→K (.tup [.agg [.int .i64 (kd:Int), .str t, .int .i64 0, .int .i64 0], .int .i64 0]) h'=true):ak E (n+5) (.func 82) [.ptr x 0 0 0] h K=true:=by
 have hlim:most<lim:=by decide
 apply d82;unfold s82;have A1:mo h none 1 (.ptr x 0 0 0)=some (.ptr h.sz 0 0 0,Ab.newRow h [[AV.ptr x 0 0 0]] 1):=Q0 (n:=1) rfl (by decide) rfl;have A2:pV (Ab.newRow h [[AV.ptr x 0 0 0]] 1) [AV.int .i64 0, .str [], .int .i64 0, .int .i64 0]=some (.ptr (h.sz+1) 0 0 0,Ab.newRow (Ab.newRow h [[AV.ptr x 0 0 0]] 1) [[AV.int .i64 0, .str [], .int .i64 0, .int .i64 0]] 4):=alloc_eq (by decide) rfl;refine adp A1 (Xe rfl rfl rfl A2 ?_);have e1:=iG ho [[AV.ptr x 0 0 0]] 1;have o1:=jk ho [[AV.ptr x 0 0 0]] 1;have V1:=oH h [AV.ptr x 0 0 0];have e2:=iG o1 [[AV.int .i64 0, .str [], .int .i64 0, .int .i64 0]] 4;have o2:=jk o1 [[AV.int .i64 0, .str [], .int .i64 0, .int .i64 0]] 4;have V2:=oH (Ab.newRow h [[AV.ptr x 0 0 0]] 1) [AV.int .i64 0, .str [], .int .i64 0, .int .i64 0];have V1':=V1.ext e2;have E2:=e1.trans e2;have VX:LX (Ab.newRow (Ab.newRow h [[AV.ptr x 0 0 0]] 1) [[AV.int .i64 0, .str [], .int .i64 0, .int .i64 0]] 4) x s a bad:=Var.ext V E2;simp only[List.length_cons,List.length_nil,Nat.zero_add,abe] at V1' V2;generalize(Ab.newRow (Ab.newRow h [[AV.ptr x 0 0 0]] 1) [[AV.int .i64 0, .str [], .int .i64 0, .int .i64 0]] 4)=h2 at *;have P0:dL h2 false 1 (.ptr h.sz 0 0 0)=some (.ptr x 0 0 0):=by rw[V1'.load];rfl
 have hz2:h.sz+1<h2.sz:=V2.lt o2;have fin:∀(h':ah) (kd m:Nat) (t:Str),Ext h2 h'→h'.Ok→(uE (s.drop a)=some (kd,t,m)∨(uE (s.drop a)=none∧m=0))→
  (aL h' 4 (.ptr (h.sz+1) 0 0 0) (.agg [.int .i64 (kd:Int), .str t, .int .i64 0, .int .i64 0]) fun h''=>gI (fF h'' [(.ptr (h.sz+1) 0 0 0,some (true,4)),(.int .i64 (m:Int),none)]) h'' K)=true:=by
  intro h' kd m t e' o' hr;refine akI (V2.ext e') rfl rfl rfl ?_;have e3:Ext h (h'.put (h.sz+1) (.row (mq [.int .i64 (kd:Int), .str t, .int .i64 0, .int .i64 0]))):=Js (E2.trans e') ho (by omega) _;have o3:(h'.put (h.sz+1) (.row (mq [.int .i64 (kd:Int), .str t, .int .i64 0, .int .i64 0]))).Ok:=o'.put (Nat.lt_of_lt_of_le hz2 e'.1) _;rcases hr with hr |⟨hr,rfl⟩
  ·exact kS _ _ _ _ hr e3 o3
  ·exact kN hr _ _ _ e3 o3
 have part:∀(h':ah) (f m:Nat) (K':aK),Ext h2 h'→a+f+m≤s.length→K' (.str ((s.drop (a+f)).take m)) h'=true→kR (ak E (n+4)) (.fn (.func 95) [] [.ptr h.sz 0 0 0]) [.int .i64 (f:Int), .int .i64 (m:Int)] h' K'=true:=by
  intro h' f m K' e' hm hk;exact aqL (Var.ext VX e') (V1'.ext e') (by omega) hm hk
 have hN:=ae2 ha;have hlen:(s.drop a).length=s.length-a:=by simp
 have hlen1:(s.drop (a+1)).length=s.length-(a+1):=by simp
 refine bU (aU P0 ?_);refine abE (k:=0) VX (by omega) (Nat.le_of_lt ha) (aD rfl ?_);refine ajj (aD rfl ?_);rw[Nat.add_zero];by_cases h1:lT (pk s a)=true
 ·rw[if_pos h1] at hN;refine wC h1 ?_;refine aU P0 ?_;refine ak0 (f:=0) VX (by omega) (by omega) (by omega) (Nat.le_of_lt ha) (aD rfl ?_);have hw:=Jo (s.drop a);refine part h2 0 _ _ (Ext.refl _) (by rw[Nat.add_zero];omega) ?_;refine aD rfl (Pb (show qM [AV.int .i64 0, .str [], .int .i64 0, .int .i64 0] [(0,1,AV.int .i64 0),(1,1,AV.str ((s.drop (a+0)).take (nH (s.drop (a+0)))))]=some (.agg [.int .i64 ((0:Nat):Int), .str ((s.drop (a+0)).take (nH (s.drop (a+0)))), .int .i64 0, .int .i64 0]) from rfl) ?_)
  exact fin h2 0 _ _ (Ext.refl _) o2 (.inl hN)
 ·rw[if_neg h1] at hN;refine wH (by simpa using h1) ?_;have e36:dV .eql (.int .u8 (pk s a:Int)) (AV.int .u8 36)=some (.bool (decide (pk s a=36))):=eqb 36 _;refine lq e36 ?_;by_cases h3:pk s a=36
  ·rw[if_pos h3] at hN;refine wC (decide_eq_true h3) ?_;refine aU P0 ?_;refine ak0 (f:=1) VX (by omega) (by omega) (by omega) (Nat.le_of_lt ha) (aD rfl ?_);have hw:=Jo (s.drop (a+1));refine yh ?_;by_cases h4:0<nH (s.drop (a+1))
   ·rw[if_pos h4] at hN;refine wC (decide_eq_true (by omega)) ?_;refine part h2 1 _ _ (Ext.refl _) (by omega) ?_;refine aD rfl (Pb (show qM [AV.int .i64 0, .str [], .int .i64 0, .int .i64 0] [(0,1,AV.int .i64 1),(1,1,AV.str ((s.drop (a+1)).take (nH (s.drop (a+1)))))]=some (.agg [.int .i64 ((1:Nat):Int), .str ((s.drop (a+1)).take (nH (s.drop (a+1)))), .int .i64 0, .int .i64 0]) from rfl) ?_)
    have e1':dV .add (.int .i64 (nH (s.drop (a+1)):Int)) (AV.int .i64 1)=some (.int .i64 ((nH (s.drop (a+1))+1:Nat):Int)):=Vm 1 (by omega);refine gX e1' ?_;exact fin h2 1 _ _ (Ext.refl _) o2 (.inl hN)
   ·rw[if_neg h4] at hN;refine wH (decide_eq_false (by omega)) ?_;refine vF (show dL h2 true 4 (.ptr (h.sz+1) 0 0 0)=some (.agg [.int .i64 ((0:Nat):Int), .str [], .int .i64 0, .int .i64 0]) by rw[V2.load];rfl) ?_;exact fin h2 0 0 [] (Ext.refl _) o2 (.inr ⟨hN,rfl⟩)
  ·rw[if_neg h3] at hN;refine wH (decide_eq_false h3) ?_;refine ah5 (aD rfl ?_);by_cases h5:gU (pk s a)=true
   ·rw[if_pos h5] at hN;refine wC h5 ?_;refine aU P0 ?_;have hw:=C8 (p:=gU) (s.drop a);refine akj (f:=0) (p:=gU) VX (by omega) (by omega) (Nat.le_of_lt ha) (fun b K' hk=>ah5 hk) (aD rfl ?_);refine part h2 0 _ _ (Ext.refl _) (by rw[Nat.add_zero];omega) ?_;refine aD rfl (Pb (show qM [AV.int .i64 0, .str [], .int .i64 0, .int .i64 0] [(0,1,AV.int .i64 2),(1,1,AV.str ((s.drop (a+0)).take ((s.drop (a+0)).takeWhile gU).length))]=some (.agg [.int .i64 ((2:Nat):Int), .str ((s.drop (a+0)).take ((s.drop (a+0)).takeWhile gU).length), .int .i64 0, .int .i64 0]) from rfl) ?_)
    exact fin h2 2 _ _ (Ext.refl _) o2 (.inl hN)
   ·rw[if_neg h5] at hN;refine wH (by simpa using h5) ?_;have e34:dV .eql (.int .u8 (pk s a:Int)) (AV.int .u8 34)=some (.bool (decide (pk s a=34))):=eqb 34 _;refine lq e34 ?_;by_cases h6:pk s a=34
    ·rw[if_pos h6] at hN;refine wC (decide_eq_true h6) ?_;refine aU P0 ?_;refine aoe VX o2 hL hb (Nat.le_of_lt ha) hn fun h' e' o'=> ?_;cases hq:quo (s.drop (a+1)) with
     |none=>
      rw[hq] at hN;refine aD rfl ?_;unfold Ah;show lU 0 (.tup [.str [], .int .i64 0]) _=true;refine jY (kg (Pb (show qM [AV.int .i64 0, .str [], .int .i64 0, .int .i64 0] [(0,1,AV.int .i64 3),(1,1,AV.str [])]=some (.agg [.int .i64 ((3:Nat):Int), .str [], .int .i64 0, .int .i64 0]) from rfl) ?_))
      exact fin h' 3 0 [] e' o' (.inr ⟨hN,rfl⟩)
     |some r=>
      rw[hq] at hN;refine aD rfl ?_;unfold Ah;show lU 0 (.tup [.str r.1, .int .i64 ((1+r.2:Nat):Int)]) _=true;refine jY (kg (Pb (show qM [AV.int .i64 0, .str [], .int .i64 0, .int .i64 0] [(0,1,AV.int .i64 3),(1,1,AV.str r.1)]=some (.agg [.int .i64 ((3:Nat):Int), .str r.1, .int .i64 0, .int .i64 0]) from rfl) ?_))
      have f:=fin h' 3 (r.2+1) r.1 e' o' (.inl (by rw[hN];rfl));rw[Nat.add_comm r.2 1] at f;exact f
    ·rw[if_neg h6] at hN;refine wH (decide_eq_false h6) ?_;refine aU P0 ?_;refine amV VX o2 hb ha hn6 fun h' e' o'=>aD rfl ?_;have hw:=YB (s.drop a);refine part h' 0 _ _ e' (by rw[Nat.add_zero];omega) ?_;refine aD rfl (Pb (show qM [AV.int .i64 0, .str [], .int .i64 0, .int .i64 0] [(0,1,AV.int .i64 4),(1,1,AV.str ((s.drop (a+0)).take (l9 (s.drop a))))]=some (.agg [.int .i64 ((4:Nat):Int), .str ((s.drop (a+0)).take (l9 (s.drop a))), .int .i64 0, .int .i64 0]) from rfl) ?_)
     by_cases h7:0<l9 (s.drop a)
     ·rw[if_pos h7] at hN;exact fin h' 4 _ _ e' o' (.inl hN)
     ·rw[if_neg h7] at hN;exact fin h' 4 _ _ e' o' (.inr ⟨hN,by omega⟩)
def R4:Nat→Str→Nat→Nat→Except Nat (List Lx)
 |0,_,_,_=> .ok []
 |f+1,s,a,k=>
  if s.length≤a+skip false (s.drop a) then .ok [] else match uE (s.drop (a+skip false (s.drop a))) with
   |none=> .error (a+skip false (s.drop a))
   |some (kd,t,m)=>if 4096≤k then .error (a+skip false (s.drop a)) else match R4 f s (a+skip false (s.drop a)+m) (k+1) with
    | .error e=> .error e
    | .ok l=> .ok (⟨kd,t,a+skip false (s.drop a),a+skip false (s.drop a)+m⟩ :: l)
def Fz (s:Str):Except Nat (List Lx):=R4 (s.length+1) s 0 0
theorem aeF {h:ah} {c:List AV} {n off:Nat} {v:AV} (hc:c.length=n) (hv:v.leaf=true) (ho:off<n):bM (Ab.newRow h [c] n) 1 (.ptr h.sz 0 0 off) v=some (Ab.newRow h [c.set off v] n):=by
 subst hc;rw[(oH h c).set1 ho hv];simp only[Ab.newRow,Tn,mq,List.length_set]
def nW:cZ:=(.reg [{dst:=some 7,op:=dW.alloc [AV.int (IntKind.i64) 0,AV.str [],AV.int (IntKind.i64) 0,AV.int (IntKind.i64) 0],grd:=none},{dst:=none,op:=dW.store 4 (bB.t 7) (bB.t 13),grd:=none}])
def jV:cZ:=(.block 1 (.seq (.seq (.reg [{dst:=some 14,op:=dW.load false 1 (bB.t 6),grd:=none},{dst:=some 15,op:=dW.len 1 (bB.t 14),grd:=none},{dst:=some 16,op:=dW.bin (BinOp.geq) (bB.t 15) (bB.c (AV.int (IntKind.i64) 4096)),grd:=none}]) (.cond (.t 16) (.seq (.dreg [{dst:=some 17,op:=dW.fadr 2 (bB.t 7),grd:=none},{dst:=some 18,op:=dW.load false 1 (bB.t 17),grd:=none}] [({dst:=none,op:=dW.store 1 (bB.t 2) (bB.c (AV.au)),grd:=none},[{dst:=some 18,op:=dW.load false 1 (bB.t 17),grd:=none}],[]),({dst:=none,op:=dW.store 1 (bB.t 3) (bB.t 18),grd:=none},[],[]),({dst:=none,op:=dW.store 1 (bB.t 4) (bB.c (AV.int (IntKind.i64) 20)),grd:=none},[],[])]) (.ret)) (.skip))) (.reg [{dst:=some 19,op:=dW.load false 1 (bB.t 6),grd:=none},{dst:=some 20,op:=dW.load true 4 (bB.t 7),grd:=none},{dst:=some 21,op:=dW.bslice 1 4 [AV.int (IntKind.i64) 0,AV.str [],AV.int (IntKind.i64) 0,AV.int (IntKind.i64) 0] [(0,bB.t 20)],grd:=none},{dst:=some 22,op:=dW.app 4 40 (bB.t 19) (bB.t 21),grd:=none},{dst:=none,op:=dW.store 1 (bB.t 6) (bB.t 22),grd:=none}])))
noncomputable def iI (b:Nat) (s:Str):bZ:=put (put (put (put (put (put (put (put (put (put (mK 0 [.str s] .lf) (some 2) (.ptr b 0 0 0)) (some 3) (.ptr (b+1) 0 0 0)) (some 4) (.ptr (b+2) 0 0 0)) (some 8) (.str s)) (some 9) (.agg [.str s, .int .i64 0, .bool false])) (some 10) (.ptr (b+3) 0 0 0)) (some 5) (.ptr (b+3) 0 0 0)) (some 6) (.ptr (b+4) 0 0 0)) (some 11) (.ptr (b+3) 0 0 0)) (some 12) (.fn (.func 80) [] [.ptr (b+5) 0 0 0])
section
variable {call:bg} {n:Nat} {σ:Go.Ab.St} {ρ ρ0 ρ':bZ} {h h':ah} {KE:ow} {v:AV} {a b:cZ} {l n0 chk ns:List aT} {es:List Nat} {rest:List (aT×List aT×List aT)}
theorem q_reg (s:mR call l σ KE=true):dh call n (.reg l) σ KE=true:=by simp only[dh];exact s
theorem JR (s:dh call n a σ (fun x σ'=>match x with | .normal=>dh call n b σ' KE |x=>KE x σ')=true):dh call n (.seq a b) σ KE=true:=by simp only[dh];exact s
theorem aai {c:bB} (e:ev σ.regs c=some (.bool true)) (s:dh call n a σ KE=true):dh call n (.cond c a b) σ KE=true:=by simp only[dh,e];exact s
theorem Yp {c:bB} (e:ev σ.regs c=some (.bool false)) (s:dh call n b σ KE=true):dh call n (.cond c a b) σ KE=true:=by simp only[dh,e];exact s
theorem q_skip (s:KE .normal σ=true):dh call n .skip σ KE=true:=by simp only[dh];exact s
theorem agW (s:KE .ret σ=true):dh call n .ret σ KE=true:=by simp only[dh];exact s
theorem Yr {id:Nat} (s:dh call n a σ (fun x σ'=>match x with | .exit i=>bif Nat.beq i id then KE .normal σ' else KE (.exit i) σ' |x=>KE x σ')=true):dh call n (.block id a) σ KE=true:=by simp only[dh];exact s
theorem adP (e:oz n0 σ.regs σ.h=some ρ') (s:Go.Ab.oq call (BK rest (zD n0 σ.regs)) [] rest ⟨ρ',σ.h⟩ KE=true):dh call n (.dreg n0 rest) σ KE=true:=by simp only[dh,e];exact s
theorem ahD (s:KE .normal σ=true):Go.Ab.oq call ρ0 es [] σ KE=true:=by simp only[Go.Ab.oq];exact s
theorem abG {dst:Option Nat} {op:dW} (hn:dI op=false) (he:iH ⟨dst,op,none⟩=false) (e:aN ρ h op=some (v,h')) (ch:again (put ρ dst v) h' chk=true) (cs:oz ns (put ρ dst v) h'=some ρ')
 (s:Go.Ab.oq call ρ0 es rest ⟨ρ',h'⟩ KE=true):Go.Ab.oq call ρ0 es ((⟨dst,op,none⟩,chk,ns) :: rest) ⟨ρ,h⟩ KE=true:=by
 have ek:∀K,gW call ρ h op K=K v h':=by
  intro K;cases op<;>first |(cases hn;done)|(simp only[gW,e])
 simp only[Go.Ab.oq,jM,eO,hn,oL,zF,ek,cond_false,ch,cond_true,cs,he];exact s
end
noncomputable def acw (id:Nat) (K:aK):ow:=fun x σ2=>
 match σ2.h.get id with
 |some (.loop l2)=>match x with
  | .normal=>K (.bool true) (σ2.h.put id (.loop {l2 with st:= .ready}))
  | .panic _=>false
  |x=>K (.bool false) (σ2.h.put id (.loop {l2 with st:= .done x}))
 |_=>false
theorem Uw {h:ah} {id:Nat} {ρ regs:bZ} {ps:List Nat} {asg body:cZ} {K:aK} (hg:h.get id=some (Lp regs ps asg body .busy)) (s:K (.bool true) (h.put id (Lp regs ps asg body .ready))=true):acw id K .normal ⟨ρ,h⟩=true:=by
 unfold acw;unfold Lp at hg;simp only[hg];exact s
theorem acV {h:ah} {id:Nat} {ρ regs:bZ} {ps:List Nat} {asg body:cZ} {K:aK} (hg:h.get id=some (Lp regs ps asg body .busy)) (s:K (.bool false) (h.put id (Lp regs ps asg body (.done .ret)))=true):acw id K .ret ⟨ρ,h⟩=true:=by
 unfold acw;unfold Lp at hg;simp only[hg];exact s
theorem aof {n id:Nat} {h:ah} {regs ρ:bZ} {ps:List Nat} {ops:List aT} {body:cZ} {args:List AV} {K:aK} (hg:h.get id=some (Lp regs ps (.reg ops) body .ready)) (hs:DX ps args regs=some ρ)
 (s:mR (ak E n) ops ⟨ρ,h⟩ (fun x σ=>match x with
   | .normal=>(match σ.h.get id with
     |some (.loop l1)=>match l1.st with
      | .ready=>dh (ak E n) n body ⟨σ.regs,σ.h.put id (.loop {l1 with st:= .busy})⟩ (acw id K)
      |_=>false
     |_=>false)
   |_=>false)=true):ak E (n+1) (.yield id) args h K=true:=by
 simp only[ak,hg,Lp,hs,dh];exact s
theorem acP {ρ:bZ} {h h':ah} {d:Nat} {op:dW} {v:AV} (e:aN ρ h op=some (v,h')) (g:ρ.get d=some v) (sm:AV.same v v=true):again ρ h [⟨some d,op,none⟩]=true:=by
 simp only[again,lW,eO,e,g,sm,cond_true]
structure Jd (h0:ah) (s:Str) (regs:bZ) (h:ah) (a:Nat) (bad:Bool) (acc:List Lx):Prop where
 ext:Ext h0 h
 ok:h.Ok
 sz:h0.sz+7≤h.sz
 r1:Var h h0.sz [.au]
 r2:Var h (h0.sz+1) [.int .i64 0]
 r3:Var h (h0.sz+2) [.int .i64 0]
 lx:LX h (h0.sz+3) s a bad
 l:∃v,Var h (h0.sz+4) [v]∧Own (h0.sz+7) h 4 v (acc.map lI)
 p:Var h (h0.sz+5) [.ptr (h0.sz+3) 0 0 0]
 y:h.get (h0.sz+6)=some (Lp regs [13] nW jV .ready)
theorem Jd.grow {h0 h h':ah} {s:Str} {regs:bZ} {a:Nat} {bad:Bool} {acc:List Lx} (I:Jd h0 s regs h a bad acc) (e:Ext h h') (o:h'.Ok):Jd h0 s regs h' a bad acc:=
 ⟨I.ext.trans e,o,Nat.le_trans I.sz e.1,I.r1.ext e,I.r2.ext e,I.r3.ext e,Var.ext I.lx e,let⟨v,p,q⟩:=I.l;⟨v,p.ext e,q.ext e⟩,I.p.ext e,e.2 _ _ I.y⟩
theorem Jd.but {h0 h h':ah} {s:Str} {regs:bZ} {a a':Nat} {bad bad':Bool} {acc:List Lx} (I:Jd h0 s regs h a bad acc) (k0:h0.Ok) (e:But (h0.sz+3) h h') (o:h'.Ok) (V:LX h' (h0.sz+3) s a' bad'):Jd h0 s regs h' a' bad' acc:=
 ⟨e.ext I.ext k0 (by omega),o,Nat.le_trans I.sz e.sz,e.var I.r1 (by omega),e.var I.r2 (by omega),e.var I.r3 (by omega),V,let⟨v,p,q⟩:=I.l;⟨v,e.var p (by omega),e.own q (by omega)⟩,e.var I.p (by omega),e.keep _ _ (by omega) I.y⟩
structure ag0 (h0:ah) (regs:bZ) (h:ah) (e:Nat):Prop where
 ext:Ext h0 h
 ok:h.Ok
 sz:h0.sz+7≤h.sz
 r1:Var h h0.sz [.au]
 r2:Var h (h0.sz+1) [.int .i64 (e:Int)]
 r3:Var h (h0.sz+2) [.int .i64 20]
 y:h.get (h0.sz+6)=some (Lp regs [13] nW jV (.done .ret))
theorem y13 {n:Nat} {h h0:ah} {s:Str} {a:Nat} {acc:List Lx} {x:Lx} {K:aK} (k0:h0.Ok) (I:Jd h0 s (iI h0.sz s) h a false acc) (hacc:acc.length≤4096)
 (k1:acc.length<4096→∀h',Jd h0 s (iI h0.sz s) h' a false (acc++[x])→K (.bool true) h'=true)
 (k2:4096≤acc.length→∀h',ag0 h0 (iI h0.sz s) h' x.beg→K (.bool false) h'=true):ak E (n+1) (.yield (h0.sz+6)) [.agg (lI x)] h K=true:=by
 refine aof I.y rfl ?_;have A:pV h [AV.int .i64 0, .str [], .int .i64 0, .int .i64 0]=some (.ptr h.sz 0 0 0,Ab.newRow h [[AV.int .i64 0, .str [], .int .i64 0, .int .i64 0]] 4):=alloc_eq (by decide) rfl;refine eP rfl A ?_;have S:=Ez (h:=h) (z:=[AV.int .i64 0, .str [], .int .i64 0, .int .i64 0]) (n:=4) (v:= .agg (lI x)) rfl rfl rfl;refine eP (v:= .tup []) (h':=Ab.newRow h [lI x] 4) rfl (by show unit (bM (Ab.newRow h [[AV.int .i64 0, .str [], .int .i64 0, .int .i64 0]] 4) 4 (.ptr h.sz 0 0 0) (.agg (lI x)))=_;rw[S];rfl) (jW ?_);have e1:=iG I.ok [lI x] 4;have I1:=I.grow e1 (jk I.ok [lI x] 4);have V1:=oH h (lI x);simp only[show(lI x).length=4 from rfl] at V1
 have hh:=I.sz;generalize Ab.newRow h [lI x] 4=h1 at *;have y1:=I1.y;unfold Lp at y1;simp only[y1];show dh _ n jV ⟨_,h1.put (h0.sz+6) (Lp (iI h0.sz s) [13] nW jV .busy)⟩ _=true;obtain⟨v,L,O⟩:=I1.l;have hx:But (h0.sz+6) h1 (h1.put (h0.sz+6) (Lp (iI h0.sz s) [13] nW jV .busy)):=But.put _ _ _;have hg:(h1.put (h0.sz+6) (Lp (iI h0.sz s) [13] nW jV .busy)).get (h0.sz+6)=some (Lp (iI h0.sz s) [13] nW jV .busy):=qj _ _ _;have o2:(h1.put (h0.sz+6) (Lp (iI h0.sz s) [13] nW jV .busy)).Ok:=I1.ok.put (by have:=I1.sz;omega) _;have hz2:(h1.put (h0.sz+6) (Lp (iI h0.sz s) [13] nW jV .busy)).sz=h1.sz:=by simp
 generalize h1.put (h0.sz+6) (Lp (iI h0.sz s) [13] nW jV .busy)=h2 at *;have L2:=hx.var L (by omega);have O2:=hx.own O (by omega);have V2:=hx.var V1 (by omega);have r1:=hx.var I1.r1 (by omega);have r2:=hx.var I1.r2 (by omega);have r3:=hx.var I1.r3 (by omega);have X2:=hx.ext I1.ext k0 (by omega);have LL:dL h2 false 1 (.ptr (h0.sz+4) 0 0 0)=some v:=by rw[L2.load];rfl
 have LV:dL h2 false 1 (.ptr h.sz 0 0 2)=some (.int .i64 (x.beg:Int)):=by rw[V2.load];rfl
 have sz1:=I1.sz;refine Yr (JR (JR (q_reg ?_)));refine eP (v:=v) (h':=h2) rfl (by show bT (dL h2 false 1 (.ptr (h0.sz+4) 0 0 0)) h2=_;rw[LL];rfl) ?_;refine eP (v:= .int .i64 ((acc.map lI).length:Int)) (h':=h2) rfl (by show bT (AP h2 1 v) h2=_;rw[O2.view.len];rfl) ?_;refine eP (v:= .bool (decide ((4096:Int)≤((acc.map lI).length:Int)))) (h':=h2) rfl (by show bT (dV .geq (.int .i64 ((acc.map lI).length:Int)) (.int .i64 4096)) h2=_;rw[S9];rfl) (jW ?_);by_cases hfull:4096≤acc.length
 ·refine aai (by show some (AV.bool (decide _))=_;rw[decide_eq_true (by rw[List.length_map];omega)]) ?_;refine JR (adP (kH (v:= .ptr h.sz 0 0 2) (h':=h2) rfl (kH (v:= .int .i64 (x.beg:Int)) (h':=h2) (by show bT (dL h2 false 1 (.ptr h.sz 0 0 2)) h2=_;rw[LV];rfl) rfl)) ?_);have st1:=r1.set1 (off:=0) (v:= .au) (by decide) rfl;have b1:=But.put h0.sz h2 (.row (mq ([AV.au].set 0 .au)));have V3:=b1.var V2 (by omega);have LV3:dL (h2.put h0.sz (.row (mq ([AV.au].set 0 .au)))) false 1 (.ptr h.sz 0 0 2)=some (.int .i64 (x.beg:Int)):=by rw[V3.load];rfl
  refine abG (v:= .tup []) (h':=h2.put h0.sz (.row (mq ([AV.au].set 0 .au)))) rfl rfl (by show unit (bM h2 1 (.ptr h0.sz 0 0 0) .au)=_;rw[st1];rfl)
   (acP (v:= .int .i64 (x.beg:Int)) (h':=h2.put h0.sz (.row (mq ([AV.au].set 0 .au)))) (by show bT (dL _ false 1 (.ptr h.sz 0 0 2)) _=_;rw[LV3];rfl) rfl (JY _ _)) rfl ?_
  have r2':=b1.var r2 (by omega);have st2:=r2'.set1 (off:=0) (v:= .int .i64 (x.beg:Int)) (by decide) rfl;refine abG (v:= .tup []) rfl rfl (by show unit (bM _ 1 (.ptr (h0.sz+1) 0 0 0) (.int .i64 (x.beg:Int)))=_;rw[st2];rfl) rfl rfl ?_;have b2:=But.put (h0.sz+1) (h2.put h0.sz (.row (mq ([AV.au].set 0 .au)))) (.row (mq ([AV.int .i64 0].set 0 (.int .i64 (x.beg:Int)))));have r3':=b2.var (b1.var r3 (by omega)) (by omega);have st3:=r3'.set1 (off:=0) (v:= .int .i64 20) (by decide) rfl;refine abG (v:= .tup []) rfl rfl (by show unit (bM _ 1 (.ptr (h0.sz+2) 0 0 0) (.int .i64 20))=_;rw[st3];rfl) rfl rfl (ahD ?_);have b3:=But.put (h0.sz+2) ((h2.put h0.sz (.row (mq ([AV.au].set 0 .au)))).put (h0.sz+1) (.row (mq ([AV.int .i64 0].set 0 (.int .i64 (x.beg:Int)))))) (.row (mq ([AV.int .i64 0].set 0 (.int .i64 20))));have g3:=b3.keep _ _ (by omega) (b2.keep _ _ (by omega) (b1.keep _ _ (by omega) hg));refine agW (acV g3 ?_);have b4:=But.put (h0.sz+6) (((h2.put h0.sz (.row (mq ([AV.au].set 0 .au)))).put (h0.sz+1) (.row (mq ([AV.int .i64 0].set 0 (.int .i64 (x.beg:Int)))))).put (h0.sz+2) (.row (mq ([AV.int .i64 0].set 0 (.int .i64 20))))) (Lp (iI h0.sz s) [13] nW jV (.done .ret));refine k2 hfull _ ⟨b4.ext (b3.ext (b2.ext (b1.ext X2 k0 (by omega)) k0 (by omega)) k0 (by omega)) k0 (by omega), ?_, ?_, ?_, ?_, ?_,qj _ _ _⟩
  ·exact(((o2.put (by omega) _).put (by simp;omega) _).put (by simp;omega) _).put (by simp;omega) _
  ·simp;omega
  ·exact b4.var (b3.var (b2.var (xu h0.sz [AV.au]) (by omega)) (by omega)) (by omega)
  ·exact b4.var (b3.var (xu (h0.sz+1) [AV.int .i64 (x.beg:Int)]) (by omega)) (by omega)
  ·exact b4.var (xu (h0.sz+2) [AV.int .i64 20]) (by omega)
 ·refine Yp (by show some (AV.bool (decide _))=_;rw[decide_eq_false (by rw[List.length_map];omega)]) (q_skip ?_);refine q_reg (eP (v:=v) (h':=h2) rfl (by show bT (dL h2 false 1 (.ptr (h0.sz+4) 0 0 0)) h2=_;rw[LL];rfl) ?_);have LA:dL h2 true 4 (.ptr h.sz 0 0 0)=some (.agg (lI x)):=by rw[V2.load];rfl
  refine eP (v:= .agg (lI x)) (h':=h2) rfl (by show bT (dL h2 true 4 (.ptr h.sz 0 0 0)) h2=_;rw[LA];rfl) ?_;obtain⟨u,g1,W⟩:=yU (h:=h2) (n:=1) (sz:=4) (z:=[AV.int .i64 0, .str [], .int .i64 0, .int .i64 0]) (ps:=[(0, .agg (lI x))]) (es:=[lI x]) rfl (by decide) (by decide) rfl rfl rfl;refine eP rfl g1 ?_;have e3:=iG o2 [lI x] 4;have o3:=jk o2 [lI x] 4;generalize Ab.newRow h2 [lI x] 4=h3 at *;have hm:most=1099511627776:=rfl;obtain⟨v',h4,a1,a2,a3,a4,a5,a6,_⟩:=(O2.ext e3).app (bytes:=40) (by decide) (by have:=e3.1;omega) o3 k0 (X2.trans e3) (by omega) W.src (by simp only[List.length_map,List.length_cons,List.length_nil];omega) (by simp only[List.length_map,List.length_cons,List.length_nil];omega);refine eP rfl a1 ?_;have kp:∀j o,j<h0.sz+7→h2.get j=some o→h4.get j=some o:=fun j o hj hg=>a6 j o (e3.2 _ _ hg) (by
   intro id g st l c ex hv;rcases O2 with⟨rfl,_⟩|⟨i',r,q1,q2,_⟩
   ·cases hv
   ·rw[q2] at hv;cases hv;omega)
  have kv:∀(j:Nat) (c:List AV),j<h0.sz+7→Var h2 j c→Var h4 j c:=fun j c hj V=>by
   have V':h2.row j=some (mq c):=V;show h4.row j=_;rw[ah.row_some] at V' ⊢;exact kp j _ hj V'
  have L4:=kv _ _ (by omega) L2;have st4:=L4.set1 (off:=0) (v:=v') (by show 0<1;omega) a2.view.leaf;refine eP (v:= .tup []) rfl (by show unit (bM h4 1 (.ptr (h0.sz+4) 0 0 0) v')=_;rw[st4];rfl) (jW ?_);have b5:=But.put (h0.sz+4) h4 (.row (mq ([v].set 0 v')));have g5:=b5.keep _ _ (by omega) (kp _ _ (by omega) hg);refine Uw g5 ?_;have b6:=But.put (h0.sz+6) (h4.put (h0.sz+4) (.row (mq ([v].set 0 v')))) (Lp (iI h0.sz s) [13] nW jV .ready);have s4:h0.sz+7≤h4.sz:=by have:=e3.1;omega
  refine k1 (by omega) _ ⟨b6.ext (b5.ext a4 k0 (by omega)) k0 (by omega),(a3.put (by omega) _).put (by simp;omega) _,by simp;omega, ?_, ?_, ?_, ?_,⟨v',b6.var (xu (h0.sz+4) [v']) (by omega), ?_⟩, ?_,qj _ _ _⟩
  ·exact b6.var (b5.var (kv _ _ (by omega) r1) (by omega)) (by omega)
  ·exact b6.var (b5.var (kv _ _ (by omega) r2) (by omega)) (by omega)
  ·exact b6.var (b5.var (kv _ _ (by omega) r3) (by omega)) (by omega)
  ·exact b6.var (b5.var (kv _ _ (by omega) (hx.var I1.lx (by omega))) (by omega)) (by omega)
  ·rw[List.map_append];exact b6.own (b5.own a2 (by omega)) (by omega)
  ·exact b6.var (b5.var (kv _ _ (by omega) (hx.var I1.p (by omega))) (by omega)) (by omega)
theorem ae7 (call:bg) (f:NG) (vs:List AV) (h:ah) (K:aK):kR call (.fn f [] []) vs h K=call f vs h K:=by
 rw[adz,List.nil_append,List.append_nil]
theorem aau {h:ah} {id:Nat} {w v:AV} (V:Var h id [w]) (hv:v.leaf=true) (o:h.Ok):∃h',bM h 1 (.ptr id 0 0 0) v=some h'∧But id h h'∧Var h' id [v]∧h'.Ok:=
 ⟨_,V.set1 (by show 0<1;omega) hv,But.put _ _ _,xu id [v],o.put (V.lt o) _⟩
theorem l43 {n:Nat} {h0:ah} {s:Str} {K:aK} (k0:h0.Ok) (hL:2*s.length+4<most) (hb:∀b∈s,b<256) (hn:s.length<n) (hn6:6≤n):
 ∀(m a f:Nat) (acc:List Lx) (h:ah),Jd h0 s (iI h0.sz s) h a false acc→a≤s.length→s.length-a<m→s.length-a<f→acc.length≤4096→
  (∀l h' a',R4 f s a acc.length= .ok l→Jd h0 s (iI h0.sz s) h' a' false (acc++l)→K (.tup []) h'=true)→
  (∀e l h',R4 f s a acc.length= .error e→Jd h0 s (iI h0.sz s) h' e true l→K (.tup []) h'=true)→
  (∀e h',R4 f s a acc.length= .error e→ag0 h0 (iI h0.sz s) h' e→K (.tup []) h'=true)→
  aak (ak E (n+6)) (n+6) m (.fn (.yield (h0.sz+6)) [] []) (.ptr (h0.sz+5) 0 0 0) h K=true:=by
 have hlim:most<lim:=by decide
 intro m
 induction m with
 |zero=>intro a f acc h _ _ hm;omega
 |succ m ih=>
  intro a f acc h I ha hm hf hacc k1 k2 k3;obtain⟨f,rfl⟩:∃j,f=j+1:=⟨f-1,by omega⟩;simp only[R4] at k1 k2 k3;unfold aak acv;have P0:dL h false 1 (.ptr (h0.sz+5) 0 0 0)=some (.ptr (h0.sz+3) 0 0 0):=by rw[I.p.load];rfl
  refine aU P0 ?_;refine aqw I.lx I.ok (by omega) ha (by omega) fun h1 B1 o1 V1=>aD rfl ?_;have I1:=I.but k0 B1 o1 V1;have hsk:a+skip false (s.drop a)≤s.length:=by
   have:=zY false (s.drop a);simp only[List.length_drop] at this;omega
  have hab:a≤a+skip false (s.drop a):=Nat.le_add_right _ _;generalize a+skip false (s.drop a)=b at *;have P1:dL h1 false 1 (.ptr (h0.sz+5) 0 0 0)=some (.ptr (h0.sz+3) 0 0 0):=by rw[I1.p.load];rfl
  refine aU P1 (eB (ay (aU V1.l1 (aU P1 (eB (ay (aU V1.l0 (ql (Ka ?_)))))))));by_cases hend:s.length≤b
  ·refine wC (decide_eq_true (by omega)) ?_;rw[if_pos hend] at k1;exact k1 [] h1 b rfl (by rw[List.append_nil];exact I1)
  ·refine wH (decide_eq_false (by omega)) ?_;refine aU P1 ?_;rw[if_neg hend] at k1 k2 k3;have hbl:b<s.length:=by omega
   refine apj (n:=n+1) V1 o1 hL hb hbl (by omega) (by omega) ?_ ?_
   ·intro kd t mm h2 hN e2 o2;obtain⟨hm0,hml⟩:=JB hN;simp only[List.length_drop] at hml;simp only[hN] at k1 k2 k3;have I2:=I1.grow e2 o2;refine aD rfl ?_;unfold Aw;have A:pV h2 [AV.int .i64 0, .str [], .int .i64 0, .int .i64 0]=some (.ptr h2.sz 0 0 0,Ab.newRow h2 [[AV.int .i64 0, .str [], .int .i64 0, .int .i64 0]] 4):=alloc_eq (by decide) rfl;refine jY (kg (Xe rfl rfl rfl A (adM rfl (Ez (h:=h2) (z:=[AV.int .i64 0, .str [], .int .i64 0, .int .i64 0]) (n:=4) (v:= .agg [.int .i64 (kd:Int), .str t, .int .i64 0, .int .i64 0]) rfl rfl rfl) ?_)));have e0:dV .eql (.int .i64 (mm:Int)) (AV.int .i64 0)=some (.bool false):=by
     rw[UK,decide_eq_false (by omega)]
    refine lq e0 (bE ?_);have hc0:(AV.agg [AV.int .i64 (kd:Int), .str t, .int .i64 0, .int .i64 0]).cells=[AV.int .i64 (kd:Int), .str t, .int .i64 0, .int .i64 0]:=rfl;rw[hc0];have nb:∀c,Ext h2 (Ab.newRow h2 [c] 4)∧(Ab.newRow h2 [c] 4).Ok:=fun c=>⟨iG o2 _ _,jk o2 _ _⟩;have pp:∀c,dL (Ab.newRow h2 [c] 4) false 1 (.ptr (h0.sz+5) 0 0 0)=some (.ptr (h0.sz+3) 0 0 0):=fun c=>by rw[(I2.p.ext (nb c).1).load];rfl
    have l1:∀c,dL (Ab.newRow h2 [c] 4) false 1 (.ptr (h0.sz+3) 0 0 1)=some (.int .i64 (b:Int)):=fun c=>LX.l1 (Var.ext I2.lx (nb c).1);have ad:=dn (show b+mm<lim by omega);refine aU (pp _) (eB (ay (aU (l1 _) (aU (pp _) (eB (ay (aU (l1 _) (gX ad (ay (Ip (aeF (n:=4) rfl rfl (by decide)) ?_))))))))));refine aU (pp _) (bI (adx _ _ _ _) (aU (l1 _) (bI (JY _ _) (ay (Ip (aeF (n:=4) rfl rfl (by decide)) ?_)))));refine aU (pp _) (eB (ay (aU (l1 _) (gX ad (eB (ay ?_))))));have hcs:([AV.int .i64 (kd:Int), .str t, .int .i64 0, .int .i64 0].set 2 (.int .i64 (b:Int))).set 3 (.int .i64 ((b+mm:Nat):Int))=lI ⟨kd,t,b,b+mm⟩:=rfl;rw[hcs];have V3:Var (Ab.newRow h2 [lI ⟨kd,t,b,b+mm⟩] 4) h2.sz (lI ⟨kd,t,b,b+mm⟩):=oH h2 _;have I3:=I2.grow (nb (lI ⟨kd,t,b,b+mm⟩)).1 (nb _).2;have sz3:(Ab.newRow h2 [lI ⟨kd,t,b,b+mm⟩] 4).sz=h2.sz+1:=rfl;have sz2:=I2.sz;generalize Ab.newRow h2 [lI ⟨kd,t,b,b+mm⟩] 4=h3 at *;refine Ip (LX.set I3.lx (b+mm)) ?_;have B4:=But.put (h0.sz+3) h3 (.row (mq [.str s, .int .i64 ((b+mm:Nat):Int), .bool false]));have V4:=B4.var V3 (by omega);have I4:=I3.but k0 B4 (I3.ok.put (by omega) _) (XL h3 (h0.sz+3) s (b+mm) false);generalize h3.put (h0.sz+3) (.row (mq [.str s, .int .i64 ((b+mm:Nat):Int), .bool false]))=h4 at *;have LA:dL h4 true 4 (.ptr h2.sz 0 0 0)=some (.agg (lI ⟨kd,t,b,b+mm⟩)):=by rw[V4.load];rfl
    refine vF LA ?_;rw[ae7];refine y13 (n:=n+5) (x:=⟨kd,t,b,b+mm⟩) k0 I4 hacc ?_ ?_
    ·intro hlt h5 I5;rw[if_neg (by omega)] at k1 k2 k3;refine aD rfl ?_;unfold Ak;refine fP (bE ?_);refine ih (b+mm) f (acc++[⟨kd,t,b,b+mm⟩]) h5 I5 (by omega) (by omega) (by omega) (by simp;omega) ?_ ?_ ?_
     ·intro l h' a' hl I';simp only[List.length_append,List.length_cons,List.length_nil,Nat.zero_add] at hl;rw[hl] at k1;exact k1 _ h' a' rfl (by rw[List.append_assoc] at I';exact I')
     ·intro e l h' hl I';simp only[List.length_append,List.length_cons,List.length_nil,Nat.zero_add] at hl;rw[hl] at k2;exact k2 e l h' rfl I'
     ·intro e h' hl I';simp only[List.length_append,List.length_cons,List.length_nil,Nat.zero_add] at hl;rw[hl] at k3;exact k3 e h' rfl I'
    ·intro hge h5 S5;rw[if_pos hge] at k3;refine aD rfl ?_;unfold Ak;refine fM (bN ?_);exact k3 b h5 rfl S5
   ·intro hN kd t h2 e2 o2;simp only[hN] at k2;have I2:=I1.grow e2 o2;refine aD rfl ?_;unfold Aw;have A:pV h2 [AV.int .i64 0, .str [], .int .i64 0, .int .i64 0]=some (.ptr h2.sz 0 0 0,Ab.newRow h2 [[AV.int .i64 0, .str [], .int .i64 0, .int .i64 0]] 4):=alloc_eq (by decide) rfl;refine jY (kg (Xe rfl rfl rfl A (adM rfl (Ez (h:=h2) (z:=[AV.int .i64 0, .str [], .int .i64 0, .int .i64 0]) (n:=4) (v:= .agg [.int .i64 (kd:Int), .str t, .int .i64 0, .int .i64 0]) rfl rfl rfl) ?_)));refine lq (v:= .bool true) rfl (bN ?_);have I3:=I2.grow (iG o2 [(AV.agg [AV.int .i64 (kd:Int), .str t, .int .i64 0, .int .i64 0]).cells] 4) (jk o2 _ _);generalize Ab.newRow h2 [(AV.agg [AV.int .i64 (kd:Int), .str t, .int .i64 0, .int .i64 0]).cells] 4=h3 at *;have P3:dL h3 false 1 (.ptr (h0.sz+5) 0 0 0)=some (.ptr (h0.sz+3) 0 0 0):=by rw[I3.p.load];rfl
    have sz3:=I3.sz;refine aU P3 (eB (ay (Ip (LX.setb I3.lx true) ?_)));exact k2 b acc _ rfl (I3.but k0 (But.put _ _ _) (I3.ok.put (by omega) _) (XL h3 (h0.sz+3) s b true))
theorem aon {call:bg} {n fid:Nat} {σ:Go.Ab.St} {f:bB} {ps:List Nat} {asg body:cZ} {first cap:List AV} {KE:ow} (e:ev σ.regs f=some (.fn (.func fid) first cap))
 (s:call (.func fid) (first++[.fn (.yield σ.h.sz) [] []]++cap) (σ.h.push (Lp σ.regs ps asg body .ready)) (fun v h'=>
   match iB v with
   |some _=>false
   |none=>
   match h'.get σ.h.sz with
   |some (.loop l)=>match l.st with
    | .ready=>KE .normal ⟨σ.regs,h'.put σ.h.sz (.loop {l with st:= .exh})⟩
    | .done x=>KE x ⟨σ.regs,h'.put σ.h.sz (.loop {l with st:= .exh})⟩
    |_=>false
   |_=>false)=true):dh call n (.rf f ps asg body) σ KE=true:=by
 simp only[dh,e];exact s
theorem adI {call:bg} {df:ni} {n:Nat} {σ:Go.Ab.St} {pend:List (AV×List AV)} {KT:Go.Ab.Mode→Go.Ab.St→Bool} {a1 a2 b:cZ} (s:Go.Ab.dh call n (.seq a1 a2) σ (fun x σ'=>match x with | .normal=>Go.Ab.runT call df n b pend σ' KT |x=>atEnd df pend x σ' KT)=true):Go.Ab.runT call df n (.seq (.seq a1 a2) b) pend σ KT=true:=by
 simp only[Go.Ab.runT];exact s
theorem _root_.Go.Ab.Own.low {b c n:Nat} {h:ah} {v:AV} {es:List (List AV)} (O:Own b h n v es) (l:c≤b):Own c h n v es:=by
 rcases O with O |⟨id,r,q1,q⟩
 ·exact .inl O
 ·exact .inr ⟨id,r,Nat.le_trans l q1,q⟩
def aqx (b:Nat) (h:ah) (v:AV):Except Nat (List Lx)→Prop
 | .ok l=>∃u,v= .tup [u, .int .i64 0, .int .i64 0]∧Own b h 4 u (l.map lI)
 | .error e=>v= .tup [.au, .int .i64 (e:Int), .int .i64 20]
section
variable {call:bg} {df:ni} {m:Nat} {ρ:bZ} {g:ah} {b a e:Nat} {s:Str} {v x y z:AV} {K:aK}
theorem aer (e2:ρ.get 2=some (.ptr b 0 0 0)) (e3:ρ.get 3=some (.ptr (b+1) 0 0 0)) (e4:ρ.get 4=some (.ptr (b+2) 0 0 0)) (R1:Var g b [x]) (R2:Var g (b+1) [y]) (R3:Var g (b+2) [z]) (k:K (.tup [x,y,z]) g=true):kT C49.res K .ret ⟨ρ,g⟩=true:=by
 show(match jg ρ g [(2,some (false,1)),(3,some (false,1)),(4,some (false,1))] with |some l=>K (oneOf l) g |none=>false)=true
 have l1:dL g false 1 (.ptr b 0 0 0)=some x:=by rw[R1.load];rfl
 have l2:dL g false 1 (.ptr (b+1) 0 0 0)=some y:=by rw[R2.load];rfl
 have l3:dL g false 1 (.ptr (b+2) 0 0 0)=some z:=by rw[R3.load];rfl
 simp only[jg,vv,e2,e3,e4,l1,l2,l3];exact k
theorem ap5 (e2:ρ.get 2=some (.ptr b 0 0 0)) (e3:ρ.get 3=some (.ptr (b+1) 0 0 0)) (e4:ρ.get 4=some (.ptr (b+2) 0 0 0)) (e5:ρ.get 5=some (.ptr (b+3) 0 0 0)) (e6:ρ.get 6=some (.ptr (b+4) 0 0 0))
 (V:LX g (b+3) s a false) (L:Var g (b+4) [v]) (lf:v.leaf=true) (R1:Var g b [x]) (R2:Var g (b+1) [y]) (R3:Var g (b+2) [z]) (o:g.Ok)
 (k:∀g1 g2 g3,But b g g1→But (b+1) g1 g2→But (b+2) g2 g3→g3.Ok→K (.tup [v, .int .i64 0, .int .i64 0]) g3=true):
 Go.Ab.runT call df m (Tj 4 C49.body) [] ⟨ρ,g⟩ (kT C49.res K)=true:=by
 show Go.Ab.runT _ _ m (.seq (.seq (.reg _) (.cond _ _ _)) (.seq (.reg _) .ret)) [] ⟨ρ,g⟩ _=true;refine adI (JR (q_reg ?_));refine eP (v:= .ptr (b+3) 0 0 0) (h':=g) rfl (by simp only[aN,qo,ev,e5];rfl) ?_;refine eP (v:= .ptr (b+3) 0 0 0) (h':=g) rfl (by simp only[aN,qo,ev,iN];rfl) ?_;refine eP (v:= .ptr (b+3) 0 0 2) (h':=g) rfl (by simp only[aN,qo,ev,iN];rfl) ?_;refine eP (v:= .bool false) (h':=g) rfl (by simp only[aN,qo,ev,iN];rw[LX.l2 V];rfl) (jW ?_);refine Yp (by simp only[ev,iN]) (q_skip ?_);have p2:(put (put (put (put ρ (some 23) (.ptr (b+3) 0 0 0)) (some 24) (.ptr (b+3) 0 0 0)) (some 25) (.ptr (b+3) 0 0 2)) (some 26) (.bool false)).get 2=some (.ptr b 0 0 0):=by
  rw[bY (by decide),bY (by decide),bY (by decide),bY (by decide)];exact e2
 have p3:(put (put (put (put ρ (some 23) (.ptr (b+3) 0 0 0)) (some 24) (.ptr (b+3) 0 0 0)) (some 25) (.ptr (b+3) 0 0 2)) (some 26) (.bool false)).get 3=some (.ptr (b+1) 0 0 0):=by
  rw[bY (by decide),bY (by decide),bY (by decide),bY (by decide)];exact e3
 have p4:(put (put (put (put ρ (some 23) (.ptr (b+3) 0 0 0)) (some 24) (.ptr (b+3) 0 0 0)) (some 25) (.ptr (b+3) 0 0 2)) (some 26) (.bool false)).get 4=some (.ptr (b+2) 0 0 0):=by
  rw[bY (by decide),bY (by decide),bY (by decide),bY (by decide)];exact e4
 have p6:(put (put (put (put ρ (some 23) (.ptr (b+3) 0 0 0)) (some 24) (.ptr (b+3) 0 0 0)) (some 25) (.ptr (b+3) 0 0 2)) (some 26) (.bool false)).get 6=some (.ptr (b+4) 0 0 0):=by
  rw[bY (by decide),bY (by decide),bY (by decide),bY (by decide)];exact e6
 generalize put (put (put (put ρ (some 23) (.ptr (b+3) 0 0 0)) (some 24) (.ptr (b+3) 0 0 0)) (some 25) (.ptr (b+3) 0 0 2)) (some 26) (.bool false)=ρ1 at *;show Go.Ab.runT _ _ m (.seq (.reg _) .ret) [] ⟨ρ1,g⟩ _=true;have lv:dL g false 1 (.ptr (b+4) 0 0 0)=some v:=by rw[L.load];rfl
 refine zq rfl (eP (v:=v) (h':=g) rfl (by simp only[aN,qo,ev,p6];rw[lv];rfl) ?_);have q2:(put ρ1 (some 31) v).get 2=some (.ptr b 0 0 0):=by rw[bY (by decide)];exact p2
 have q3:(put ρ1 (some 31) v).get 3=some (.ptr (b+1) 0 0 0):=by rw[bY (by decide)];exact p3
 have q4:(put ρ1 (some 31) v).get 4=some (.ptr (b+2) 0 0 0):=by rw[bY (by decide)];exact p4
 have q31:(put ρ1 (some 31) v).get 31=some v:=iN;generalize put ρ1 (some 31) v=ρ2 at *;obtain⟨g1,s1,b1,w1,y1⟩:=aau R1 lf o;obtain⟨g2,s2,b2,w2,y2⟩:=aau (v:= .int .i64 0) (b1.var R2 (by omega)) rfl y1;obtain⟨g3,s3,b3,w3,y3⟩:=aau (v:= .int .i64 0) (b2.var (b1.var R3 (by omega)) (by omega)) rfl y2;refine eP (v:= .tup []) (h':=g1) rfl (by simp only[aN,qo,ev,q2,q31];rw[s1];rfl) ?_;refine eP (v:= .tup []) (h':=g2) rfl (by simp only[aN,qo,ev,put,q3];rw[s2];rfl) ?_;refine eP (v:= .tup []) (h':=g3) rfl (by simp only[aN,qo,ev,put,q4];rw[s3];rfl) (jW ?_);refine alo ?_;show kT C49.res K .ret ⟨ρ2,g3⟩=true;exact aer q2 q3 q4 (b3.var (b2.var w1 (by omega)) (by omega)) (b3.var w2 (by omega)) w3 (k g1 g2 g3 b1 b2 b3 y3)
theorem ak4 (e2:ρ.get 2=some (.ptr b 0 0 0)) (e3:ρ.get 3=some (.ptr (b+1) 0 0 0)) (e4:ρ.get 4=some (.ptr (b+2) 0 0 0)) (e5:ρ.get 5=some (.ptr (b+3) 0 0 0))
 (V:LX g (b+3) s e true) (R1:Var g b [x]) (R2:Var g (b+1) [y]) (R3:Var g (b+2) [z]) (o:g.Ok)
 (k:∀g1 g2 g3,But b g g1→But (b+1) g1 g2→But (b+2) g2 g3→g3.Ok→K (.tup [.au, .int .i64 (e:Int), .int .i64 20]) g3=true):
 Go.Ab.runT call df m (Tj 4 C49.body) [] ⟨ρ,g⟩ (kT C49.res K)=true:=by
 show Go.Ab.runT _ _ m (.seq (.seq (.reg _) (.cond _ _ _)) (.seq (.reg _) .ret)) [] ⟨ρ,g⟩ _=true;refine adI (JR (q_reg<|eP (v:= .ptr (b+3) 0 0 0) (h':=g) rfl (by simp only[aN,qo,ev,e5];rfl)<|eP (v:= .ptr (b+3) 0 0 0) (h':=g) rfl (by simp only[aN,qo,ev,iN];rfl)<|eP (v:= .ptr (b+3) 0 0 2) (h':=g) rfl (by simp only[aN,qo,ev,iN];rfl)<|eP (v:= .bool true) (h':=g) rfl (by simp only[aN,qo,ev,iN];rw[LX.l2 V];rfl) (jW<|aai (by simp only[ev,iN]) ?_)));have p2:(put (put (put (put ρ (some 23) (.ptr (b+3) 0 0 0)) (some 24) (.ptr (b+3) 0 0 0)) (some 25) (.ptr (b+3) 0 0 2)) (some 26) (.bool true)).get 2=some (.ptr b 0 0 0):=by
  rw[bY (by decide),bY (by decide),bY (by decide),bY (by decide)];exact e2
 have p3:(put (put (put (put ρ (some 23) (.ptr (b+3) 0 0 0)) (some 24) (.ptr (b+3) 0 0 0)) (some 25) (.ptr (b+3) 0 0 2)) (some 26) (.bool true)).get 3=some (.ptr (b+1) 0 0 0):=by
  rw[bY (by decide),bY (by decide),bY (by decide),bY (by decide)];exact e3
 have p4:(put (put (put (put ρ (some 23) (.ptr (b+3) 0 0 0)) (some 24) (.ptr (b+3) 0 0 0)) (some 25) (.ptr (b+3) 0 0 2)) (some 26) (.bool true)).get 4=some (.ptr (b+2) 0 0 0):=by
  rw[bY (by decide),bY (by decide),bY (by decide),bY (by decide)];exact e4
 have p5:(put (put (put (put ρ (some 23) (.ptr (b+3) 0 0 0)) (some 24) (.ptr (b+3) 0 0 0)) (some 25) (.ptr (b+3) 0 0 2)) (some 26) (.bool true)).get 5=some (.ptr (b+3) 0 0 0):=by
  rw[bY (by decide),bY (by decide),bY (by decide),bY (by decide)];exact e5
 generalize put (put (put (put ρ (some 23) (.ptr (b+3) 0 0 0)) (some 24) (.ptr (b+3) 0 0 0)) (some 25) (.ptr (b+3) 0 0 2)) (some 26) (.bool true)=ρ1 at *;refine JR (adP (kH (v:= .ptr (b+3) 0 0 0) (h':=g) (by simp only[aN,qo,ev,p5];rfl) (kH (v:= .ptr (b+3) 0 0 0) (h':=g) (by simp only[aN,qo,ev,iN];rfl) (kH (v:= .ptr (b+3) 0 0 1) (h':=g) (by simp only[aN,qo,ev,iN];rfl)
  (kH (v:= .int .i64 (e:Int)) (h':=g) (by simp only[aN,qo,ev,iN];rw[LX.l1 V];rfl) rfl)))) ?_)
 have q2:(put (put (put (put ρ1 (some 27) (.ptr (b+3) 0 0 0)) (some 28) (.ptr (b+3) 0 0 0)) (some 29) (.ptr (b+3) 0 0 1)) (some 30) (.int .i64 (e:Int))).get 2=some (.ptr b 0 0 0):=by
  rw[bY (by decide),bY (by decide),bY (by decide),bY (by decide)];exact p2
 have q3:(put (put (put (put ρ1 (some 27) (.ptr (b+3) 0 0 0)) (some 28) (.ptr (b+3) 0 0 0)) (some 29) (.ptr (b+3) 0 0 1)) (some 30) (.int .i64 (e:Int))).get 3=some (.ptr (b+1) 0 0 0):=by
  rw[bY (by decide),bY (by decide),bY (by decide),bY (by decide)];exact p3
 have q4:(put (put (put (put ρ1 (some 27) (.ptr (b+3) 0 0 0)) (some 28) (.ptr (b+3) 0 0 0)) (some 29) (.ptr (b+3) 0 0 1)) (some 30) (.int .i64 (e:Int))).get 4=some (.ptr (b+2) 0 0 0):=by
  rw[bY (by decide),bY (by decide),bY (by decide),bY (by decide)];exact p4
 have q29:(put (put (put (put ρ1 (some 27) (.ptr (b+3) 0 0 0)) (some 28) (.ptr (b+3) 0 0 0)) (some 29) (.ptr (b+3) 0 0 1)) (some 30) (.int .i64 (e:Int))).get 29=some (.ptr (b+3) 0 0 1):=by
  rw[bY (by decide),iN]
 have q30:(put (put (put (put ρ1 (some 27) (.ptr (b+3) 0 0 0)) (some 28) (.ptr (b+3) 0 0 0)) (some 29) (.ptr (b+3) 0 0 1)) (some 30) (.int .i64 (e:Int))).get 30=some (.int .i64 (e:Int)):=iN;generalize put (put (put (put ρ1 (some 27) (.ptr (b+3) 0 0 0)) (some 28) (.ptr (b+3) 0 0 0)) (some 29) (.ptr (b+3) 0 0 1)) (some 30) (.int .i64 (e:Int))=ρ2 at *;have⟨g1,s1,b1,w1,y1⟩:=aau (v:= .au) R1 rfl o;have⟨g2,s2,b2,w2,y2⟩:=aau (v:= .int .i64 (e:Int)) (b1.var R2 (by omega)) rfl y1;have⟨g3,s3,b3,w3,y3⟩:=aau (v:= .int .i64 20) (b2.var (b1.var R3 (by omega)) (by omega)) rfl y2;have V1:LX g1 (b+3) s e true:=b1.var V (by omega);refine abG (v:= .tup []) (h':=g1) (ρ':=ρ2) rfl rfl (by simp only[aN,qo,ev,q2];rw[s1];rfl)
  (acP (v:= .int .i64 (e:Int)) (h':=g1) (by simp only[aN,qo,ev,put,q29];rw[LX.l1 V1];rfl) q30 (JY _ _)) rfl ?_
 refine abG (v:= .tup []) (h':=g2) (ρ':=ρ2) rfl rfl (by simp only[aN,qo,ev,q3,q30];rw[s2];rfl) rfl rfl<|abG (v:= .tup []) (h':=g3) (ρ':=ρ2) rfl rfl (by simp only[aN,qo,ev,q4];rw[s3];rfl) rfl rfl (ahD<|agW ?_);show kT C49.res K .ret ⟨ρ2,g3⟩=true;exact aer q2 q3 q4 (b3.var (b2.var w1 (by omega)) (by omega)) (b3.var w2 (by omega)) w3 (k g1 g2 g3 b1 b2 b3 y3)
end
theorem aq4 {n:Nat} {h:ah} {s:Str} {K:aK} (ho:h.Ok) (hL:2*s.length+4<most) (hb:∀b∈s,b<256) (hn:s.length<n) (hn6:6≤n)
 (k:∀v h',Ext h h'→h'.Ok→aqx h.sz h' v (Fz s)→K v h'=true):ak E (n+8) (.func 49) [.str s] h K=true:=by
 have hp:E.prim 49=none:=rfl;have hc:E.code 49=some C49:=rfl;show ak E (n+7+1) (.func 49) [.str s] h K=true;have st:∀m,Go.Ab.runT (ak E m) (uF E (ak E m) m) m C49.body [] ⟨mK 0 [.str s] .lf,h⟩ (kT C49.res K)=true→ak E (m+1) (.func 49) [.str s] h K=true:=by
  intro m q;simp only[ak,hp,hc];exact q
 refine st (n+7)<|zq rfl<|have A1:pV h [AV.au]=some (.ptr h.sz 0 0 0,Ab.newRow h [[AV.au]] 1):=alloc_eq (by decide) rfl;eP rfl A1<|have e1:=iG ho [[AV.au]] 1;have o1:=jk ho [[AV.au]] 1;have V1:Var (Ab.newRow h [[AV.au]] 1) h.sz [AV.au]:=oH h [AV.au];have s1:(Ab.newRow h [[AV.au]] 1).sz=h.sz+1:=rfl;?_
 generalize Ab.newRow h [[AV.au]] 1=h1 at *;refine have A2:pV h1 [AV.int .i64 0]=some (.ptr h1.sz 0 0 0,Ab.newRow h1 [[AV.int .i64 0]] 1):=alloc_eq (by decide) rfl;eP rfl A2<|have e2:=iG o1 [[AV.int .i64 0]] 1;have o2:=jk o1 [[AV.int .i64 0]] 1;have V2:Var (Ab.newRow h1 [[AV.int .i64 0]] 1) h1.sz [AV.int .i64 0]:=oH h1 [AV.int .i64 0];have s2:(Ab.newRow h1 [[AV.int .i64 0]] 1).sz=h1.sz+1:=rfl;?_
 generalize Ab.newRow h1 [[AV.int .i64 0]] 1=h2 at *;refine have A3:pV h2 [AV.int .i64 0]=some (.ptr h2.sz 0 0 0,Ab.newRow h2 [[AV.int .i64 0]] 1):=alloc_eq (by decide) rfl;eP rfl A3 (jW<|have e3:=iG o2 [[AV.int .i64 0]] 1;have o3:=jk o2 [[AV.int .i64 0]] 1;have V3:Var (Ab.newRow h2 [[AV.int .i64 0]] 1) h2.sz [AV.int .i64 0]:=oH h2 [AV.int .i64 0];have s3:(Ab.newRow h2 [[AV.int .i64 0]] 1).sz=h2.sz+1:=rfl;?_)
 generalize Ab.newRow h2 [[AV.int .i64 0]] 1=h3 at *;show Go.Ab.runT _ _ _ (.seq (.reg _) _) _ _ _=true;refine zq rfl (eP (v:= .str s) (h':=h3) rfl rfl (eP (v:= .agg [.str s, .int .i64 ((0:Nat):Int), .bool false]) (h':=h3) rfl rfl<|have A4:mo h3 none 3 (.agg [.str s, .int .i64 ((0:Nat):Int), .bool false])=some (.ptr h3.sz 0 0 0,Ab.newRow h3 [[.str s, .int .i64 ((0:Nat):Int), .bool false]] 3):=Q0 (n:=3) rfl (by decide) rfl;eP rfl A4 (eP (v:= .ptr h3.sz 0 0 0) (h':=Ab.newRow h3 [[.str s, .int .i64 ((0:Nat):Int), .bool false]] 3) rfl rfl (jW<|have e4:=iG o3 [[.str s, .int .i64 ((0:Nat):Int), .bool false]] 3;have o4:=jk o3 [[.str s, .int .i64 ((0:Nat):Int), .bool false]] 3;have V4:LX (Ab.newRow h3 [[.str s, .int .i64 ((0:Nat):Int), .bool false]] 3) h3.sz s 0 false:=oH h3 [.str s, .int .i64 ((0:Nat):Int), .bool false];have s4:(Ab.newRow h3 [[.str s, .int .i64 ((0:Nat):Int), .bool false]] 3).sz=h3.sz+1:=rfl;?_))));generalize Ab.newRow h3 [[.str s, .int .i64 ((0:Nat):Int), .bool false]] 3=h4 at *;have A5:pV h4 [AV.au]=some (.ptr h4.sz 0 0 0,Ab.newRow h4 [[AV.au]] 1):=alloc_eq (by decide) rfl;show Go.Ab.runT _ _ _ (.seq (.reg _) _) _ _ _=true;refine zq rfl (eP rfl A5 (jW<|have e5:=iG o4 [[AV.au]] 1;have o5:=jk o4 [[AV.au]] 1;have V5:Var (Ab.newRow h4 [[AV.au]] 1) h4.sz [AV.au]:=oH h4 [AV.au];have s5:(Ab.newRow h4 [[AV.au]] 1).sz=h4.sz+1:=rfl;?_));generalize Ab.newRow h4 [[AV.au]] 1=h5 at *;show Go.Ab.runT _ _ _ (.seq (.seq _ _) _) _ _ _=true;refine adI (JR (q_reg<|eP (v:= .ptr h3.sz 0 0 0) (h':=h5) rfl rfl (Hr (tgt:= .func 68) (first:=[]) (cap:=[]) (vs:=[.ptr h3.sz 0 0 0]) rfl rfl ?_)))
 show ak E (n+7) (.func 68) [.ptr h3.sz 0 0 0] h5 _=true;apply d68;unfold s68;refine have A6:mo h5 none 1 (.ptr h3.sz 0 0 0)=some (.ptr h5.sz 0 0 0,Ab.newRow h5 [[AV.ptr h3.sz 0 0 0]] 1):=Q0 (n:=1) rfl (by decide) rfl;adp A6<|have e6:=iG o5 [[AV.ptr h3.sz 0 0 0]] 1;have o6:=jk o5 [[AV.ptr h3.sz 0 0 0]] 1;have V6:Var (Ab.newRow h5 [[AV.ptr h3.sz 0 0 0]] 1) h5.sz [AV.ptr h3.sz 0 0 0]:=oH h5 [AV.ptr h3.sz 0 0 0];have s6:(Ab.newRow h5 [[AV.ptr h3.sz 0 0 0]] 1).sz=h5.sz+1:=rfl;?_
 generalize Ab.newRow h5 [[AV.ptr h3.sz 0 0 0]] 1=h6 at *;refine bU<|have z1:h1.sz=h.sz+1:=s1;have z2:h2.sz=h.sz+2:=(by omega);have z3:h3.sz=h.sz+3:=(by omega);have z4:h4.sz=h.sz+4:=(by omega);have z5:h5.sz=h.sz+5:=(by omega);have z6:h6.sz=h.sz+6:=(by omega);?_
 rw[z1] at V2;rw[z2] at V3;rw[z3] at V4 V6;rw[z4] at V5;rw[z5] at V6;rw[z1,z2,z3,z4,z5];have e7:=rR o6 (Lp (iI h.sz s) [13] nW jV .ready);have I0:Jd h s (iI h.sz s) (h6.push (Lp (iI h.sz s) [13] nW jV .ready)) 0 false []:=by
  refine⟨e1.trans (e2.trans (e3.trans (e4.trans (e5.trans (e6.trans e7))))),o6.push _,by simp[z6],V1.ext (e2.trans (e3.trans (e4.trans (e5.trans (e6.trans e7))))),V2.ext (e3.trans (e4.trans (e5.trans (e6.trans e7)))),V3.ext (e4.trans (e5.trans (e6.trans e7))),Var.ext V4 (e5.trans (e6.trans e7)),⟨.au,V5.ext (e6.trans e7),Own.nil _ _ _⟩,V6.ext e7, ?_⟩;rw[←z6];exact AU _ _
 refine jW<|Yr (aon (fid:=80) (first:=[]) (cap:=[.ptr (h.sz+5) 0 0 0]) rfl ?_)
 show ak E (n+7) (.func 80) [.fn (.yield h6.sz) [] [], .ptr (h.sz+5) 0 0 0] (h6.push (Lp (iI h.sz s) [13] nW jV .ready)) _=true;apply d80;unfold s80;rw[z6];refine l43 ho hL hb hn hn6 (n+6) 0 (s.length+1) [] _ I0 (by omega) (by omega) (by omega) (by simp) ?_ ?_ ?_
 ·intro l h' a' hl I';have hl':Fz s= .ok l:=hl;have y:=I'.y;unfold Lp at y;rw[show iB (AV.tup [])=none from rfl]
  simp only[y];have B:=But.put (h.sz+6) h' (.loop {regs:=iI h.sz s,ps:=[13],asg:=nW,body:=jV,st:= .exh});have sz':=I'.sz;have X':=B.ext I'.ext ho (by omega);have O':=I'.ok.put (show h.sz+6<h'.sz by omega) (.loop {regs:=iI h.sz s,ps:=[13],asg:=nW,body:=jV,st:= .exh});have LXx:=B.var I'.lx (by omega);have⟨v,L,OO⟩:=I'.l;have L':=B.var L (by omega);have OO':=B.own OO;have R1:=B.var I'.r1 (by omega);have R2:=B.var I'.r2 (by omega);have R3:=B.var I'.r3 (by omega);generalize h'.put (h.sz+6) (.loop {regs:=iI h.sz s,ps:=[13],asg:=nW,body:=jV,st:= .exh})=g at *;refine have lf:v.leaf=true:=OO.view.leaf;ap5 (b:=h.sz) (s:=s) (a:=a') (x:= .au) (y:= .int .i64 0) (z:= .int .i64 0) (v:=v) rfl rfl rfl rfl rfl LXx L' lf R1 R2 R3 O' fun g1 g2 g3 b1 b2 b3 y3=>have EX:=b3.ext (b2.ext (b1.ext X' ho (by omega)) ho (by omega)) ho (by omega);have OW:=b3.own (b2.own (b1.own (OO' (by omega)) (by omega)) (by omega)) (by omega);k _ _ EX y3 ?_
  rw[hl'];exact⟨v,rfl,by rw[List.nil_append] at OW;exact OW.low (by omega)⟩
 ·intro e l h' hl I';have hl':Fz s= .error e:=hl;have y:=I'.y;unfold Lp at y;rw[show iB (AV.tup [])=none from rfl]
  simp only[y];have B:=But.put (h.sz+6) h' (.loop {regs:=iI h.sz s,ps:=[13],asg:=nW,body:=jV,st:= .exh});have sz':=I'.sz;have X':=B.ext I'.ext ho (by omega);have O':=I'.ok.put (show h.sz+6<h'.sz by omega) (.loop {regs:=iI h.sz s,ps:=[13],asg:=nW,body:=jV,st:= .exh});have LXx:=B.var I'.lx (by omega);have R1:=B.var I'.r1 (by omega);have R2:=B.var I'.r2 (by omega);have R3:=B.var I'.r3 (by omega);generalize h'.put (h.sz+6) (.loop {regs:=iI h.sz s,ps:=[13],asg:=nW,body:=jV,st:= .exh})=g at *;refine ak4 (b:=h.sz) (s:=s) (e:=e) (x:= .au) (y:= .int .i64 0) (z:= .int .i64 0) rfl rfl rfl rfl LXx R1 R2 R3 O' fun g1 g2 g3 b1 b2 b3 y3=>have EX:=b3.ext (b2.ext (b1.ext X' ho (by omega)) ho (by omega)) ho (by omega);k _ _ EX y3 ?_
  rw[hl'];rfl
 ·intro e h' hl S';have hl':Fz s= .error e:=hl;have y:=S'.y;unfold Lp at y;rw[show iB (AV.tup [])=none from rfl]
  simp only[y];have B:=But.put (h.sz+6) h' (.loop {regs:=iI h.sz s,ps:=[13],asg:=nW,body:=jV,st:= .exh});have sz':=S'.sz;show kT C49.res K .ret ⟨iI h.sz s,h'.put (h.sz+6) (.loop {regs:=iI h.sz s,ps:=[13],asg:=nW,body:=jV,st:= .exh})⟩=true;refine aer (b:=h.sz) rfl rfl rfl (B.var S'.r1 (by omega)) (B.var S'.r2 (by omega)) (B.var S'.r3 (by omega))<|k _ _ (B.ext S'.ext ho (by omega)) (S'.ok.put (by omega) _) ?_;rw[hl'];rfl
def I9:Nat→Nat→Str→Except Nat (List Lx)
 |0,_,_=> .ok []
 |f+1,p,l=>if l.length≤skip false l then .ok [] else match uE (l.drop (skip false l)) with
  |none=> .error (p+skip false l)
  |some (kd,t,m)=>match I9 f (p+skip false l+m) (l.drop (skip false l+m)) with
   | .error e=> .error e
   | .ok r=> .ok (⟨kd,t,p+skip false l,p+skip false l+m⟩ :: r)
theorem Ti:∀(f p:Nat) (l:Str) (r:List Lx),I9 f p l= .ok r→r.length≤l.length∧∀y∈r,p≤y.beg∧y.beg<y.fin∧y.fin≤p+l.length
 |0,_,_,_,h=>by cases h;exact⟨by simp,fun _ h=>by cases h⟩
 |f+1,p,l,r,h=>by
  simp only[I9] at h;by_cases hend:l.length≤skip false l
  ·rw[if_pos hend] at h;cases h;exact⟨by simp,fun _ h=>by cases h⟩
  ·rw[if_neg hend] at h;cases hn:uE (l.drop (skip false l)) with
   |none=>rw[hn] at h;cases h
   |some q=>
    have⟨kd,t,m⟩:=q;have hm:=JB hn;simp only[List.length_drop] at hm;rw[hn] at h;simp only at h;cases hr:I9 f (p+skip false l+m) (l.drop (skip false l+m)) with
    |error e=>rw[hr] at h;cases h
    |ok r'=>
     rw[hr] at h;have ih:=Ti f _ _ r' hr;simp only[List.length_drop] at ih;cases h;refine⟨by simp only[List.length_cons];omega,fun y hy=> ?_⟩;rcases List.mem_cons.1 hy with rfl |hy
     ·exact⟨by simp only;omega,by simp only;omega,by simp only;omega⟩
     ·have:=ih.2 y hy;omega
theorem Zk:∀(l:Str) (a:Nat),(∀c∈l,gU c=true)→(pM l a).isSome=true
 | [],a,_=>rfl
 |c :: l,a,h=>by
  have hc:=h c List.mem_cons_self;unfold gU at hc;simp only[Bool.and_eq_true,decide_eq_true_eq] at hc;unfold pM;rw[aI.2 hc.1,aI.2 hc.2,Bool.and_self,cond_true];cases Nat.ble 1844674407370955162 a with
  |true=>rfl
  |false=>
   rw[cond_false];cases Nat.blt 18446744073709551615 (a*10+(c-48)) with
   |true=>rfl
   |false=>rw[cond_false];exact Zk l _ fun d hd=>h d (List.mem_cons_of_mem _ hd)
theorem abn {t:Str} (h0:t≠[]) (h:∀c∈t,gU c=true):(pI t).isSome=true∧∀v,pI t=some (some v)→0≤v:=by
 cases t with
 |nil=>exact absurd rfl h0
 |cons c r=>
  have hc:=h c List.mem_cons_self;unfold gU at hc;simp only[Bool.and_eq_true,decide_eq_true_eq] at hc;have e1:Nat.beq c 43=false:=dF.2 (by omega);have e2:Nat.beq c 45=false:=dF.2 (by omega);have hp:=Zk (c :: r) 0 h;unfold pI pU;simp only[e1,e2,Bool.or_self,cond_false];cases e:pM (c :: r) 0 with
  |none=>rw[e] at hp;cases hp
  |some x=>
   cases x with
   |none=>exact⟨rfl,fun v q=>by cases q⟩
   |some u=>
    simp only;cases Nat.ble 9223372036854775808 u with
    |true=>exact⟨rfl,fun v q=>by cases q⟩
    |false=>exact⟨rfl,fun v q=>by cases q;exact Int.natCast_nonneg u⟩
theorem ZP {p:Nat→Bool}:∀(l:Str),l.take (l.takeWhile p).length=l.takeWhile p
 | []=>rfl
 |c :: l=>by
  rw[List.takeWhile_cons];split
  ·rw[List.length_cons,List.take_succ_cons,ZP l]
  ·rfl
theorem acj {l:Str} {t:Str} {m:Nat} (h:uE l=some (2,t,m)):t≠[]∧(∀c∈t,gU c=true)∧t.length≤l.length:=by
 cases l with
 |nil=>cases h
 |cons c l=>
  have h:(if lT c=true then some (0,(c :: l).take (nH (c :: l)),nH (c :: l))
   else if c=36 then(if 0<nH l then some (1,l.take (nH l),nH l+1) else none)
   else if gU c=true then some (2,(c :: l).take ((c :: l).takeWhile gU).length,((c :: l).takeWhile gU).length)
   else if c=34 then(quo l).map fun r=>(3,r.1,r.2+1)
   else if 0<l9 (c :: l) then some (4,(c :: l).take (l9 (c :: l)),l9 (c :: l)) else none)=some (2,t,m):=h
  by_cases h1:lT c=true
  ·rw[if_pos h1] at h;cases h
  rw[if_neg h1] at h;by_cases h2:c=36
  ·rw[if_pos h2] at h;by_cases h3:0<nH l
   ·rw[if_pos h3] at h;cases h
   ·rw[if_neg h3] at h;cases h
  rw[if_neg h2] at h;by_cases hd:gU c=true
  ·rw[if_pos hd,ZP] at h;cases h;refine⟨?_,fun d hm=> ?_,C8 _⟩
   ·rw[List.takeWhile_cons,if_pos hd];simp
   ·exact List.all_eq_true.1 (List.all_takeWhile (l:=c :: l) (p:=gU)) d hm
  rw[if_neg hd] at h;by_cases h4:c=34
  ·rw[if_pos h4] at h;cases e:quo l with
   |none=>rw[e] at h;cases h
   |some r=>rw[e] at h;cases h
  rw[if_neg h4] at h;by_cases h5:0<l9 (c :: l)
  ·rw[if_pos h5] at h;cases h
  ·rw[if_neg h5] at h;cases h
theorem UC:∀(f p:Nat) (l:Str) (r:List Lx),I9 f p l= .ok r→∀y∈r,y.kind=2→y.text≠[]∧(∀c∈y.text,gU c=true)∧y.text.length≤l.length
 |0,_,_,_,h=>by cases h;intro y hy;cases hy
 |f+1,p,l,r,h=>by
  simp only[I9] at h;by_cases hend:l.length≤skip false l
  ·rw[if_pos hend] at h;cases h;intro y hy;cases hy
  ·rw[if_neg hend] at h;cases hn:uE (l.drop (skip false l)) with
   |none=>rw[hn] at h;cases h
   |some q=>
    have⟨kd,t,m⟩:=q;rw[hn] at h;simp only at h;cases hr:I9 f (p+skip false l+m) (l.drop (skip false l+m)) with
    |error e=>rw[hr] at h;cases h
    |ok r'=>
     rw[hr] at h;have ih:=UC f _ _ r' hr;cases h;intro y hy hk;rcases List.mem_cons.1 hy with rfl |hy
     ·simp only at hk;subst hk;have:=acj hn;simp only[List.length_drop] at this;exact⟨this.1,this.2.1,by simp only;omega⟩
     ·have:=ih y hy hk;simp only[List.length_drop] at this;exact⟨this.1,this.2.1,by omega⟩
theorem RF:∀(f:Nat) (s:Str) (a k:Nat) (r:List Lx),R4 f s a k= .ok r→a≤s.length→I9 f a (s.drop a)= .ok r∧(k≤4096→k+r.length≤4096)
 |0,s,a,k,r,h,ha=>by cases h;exact⟨rfl,fun h=>h⟩
 |f+1,s,a,k,r,h,ha=>by
  simp only[R4] at h;simp only[I9];have hle:=zY false (s.drop a);simp only[List.length_drop] at hle ⊢;by_cases hend:s.length≤a+skip false (s.drop a)
  ·rw[if_pos hend] at h;rw[if_pos (by omega)];cases h;exact⟨rfl,fun h=>h⟩
  ·rw[if_neg hend] at h;rw[if_neg (by omega),List.drop_drop];cases hn:uE (s.drop (a+skip false (s.drop a))) with
   |none=>rw[hn] at h;cases h
   |some q=>
    have⟨kd,t,m⟩:=q;have hm:=JB hn;simp only[List.length_drop] at hm;rw[hn] at h;simp only at h ⊢;by_cases hk:4096≤k
    ·rw[if_pos hk] at h;cases h
    ·rw[if_neg hk] at h;cases hr:R4 f s (a+skip false (s.drop a)+m) (k+1) with
     |error e=>rw[hr] at h;cases h
     |ok r'=>
      rw[hr] at h;have⟨i1,i2⟩:=RF f s _ _ r' hr (by omega);cases h;rw[List.drop_drop,show a+(skip false (s.drop a)+m)=a+skip false (s.drop a)+m by omega,i1];exact⟨rfl,fun _=>by have:=i2 (by omega);simp only[List.length_cons];omega⟩
theorem ZF {s:Str} {l:List Lx} (h:s.length≤60000) (e:Fz s= .ok l):dM l s.length 0 0:=by
 have⟨e,h1⟩:=RF _ _ _ _ _ e (Nat.zero_le _);rw[List.drop_zero] at e;have h1:=h1 (by omega);have⟨_,h2⟩:=Ti _ _ _ _ e;have h3:=UC _ _ _ _ e;refine have hlim:lim=4611686018427387904:=rfl;⟨by omega,Nat.zero_le _,by omega,by omega,fun j=> ?_,fun y hy hk=> ?_⟩
 ·unfold Px;cases hj:l[j]? with
  |none=>simp only;omega
  |some y=>have:=h2 y (List.mem_of_getElem? hj);simp only;omega
 ·have⟨q1,q2,q3⟩:=h3 y hy hk;exact have⟨q4,q5⟩:=abn q1 q2;⟨q4,by omega,q5⟩
section
variable {h h':ah} {L:gB} {S:List Sl} {F:List (ah→Prop)} {n:Nat} {K:aK}
theorem _root_.Go.Ab.Cx.ext (A:Cx h L S F) (e:Ext h h') (o:h'.Ok):Cx h' L S F:=
 ⟨o,fun x m=>e.2 _ _ (A.has x m),fun s m=>by
   rcases A.sls s m with k |⟨id,g,q,m0,hm,k⟩
   ·exact .inl k
   ·exact .inr ⟨id,g,q,m0,hm,e.2 _ _ k⟩,A.nod,fun R m=>(A.facts R m).step (Kp.ext e _)⟩
theorem _root_.Go.Ab.Cx.ownNew {m:Nat} {u:AV} {es:List (List AV)} (A:Cx h L S F) (e:Ext h h') (o:h'.Ok) (O:Own h.sz h' m u es):Cx h' L S ((fun h=>View h m u es) :: F):=by
 have B:=A.ext e o;refine⟨B.ok,B.has,B.sls,B.nod,fun R hR=> ?_⟩;rcases List.mem_cons.1 hR with rfl |hR
 ·intro h2 k;rcases O with⟨rfl,rfl⟩|⟨id,r,q1,rfl,q2,q3⟩
  ·exact View.nil _ _
  ·have hn:¬id∈places L S:=fun hp=>by have:=A.pl hp;omega
   have:=k.2 id _ hn (ah.row_some.1 q2);exact(show Own h.sz h2 m _ es from .inr ⟨id,r,q1,rfl,ah.row_some.2 this,q3⟩).view
 ·exact B.facts R hR
def apH (s:Str) (L:gB) (S:List Sl) (F:List (ah→Prop)) (K:aK):Except Nat (List Lx)→Prop
 | .ok l=>∀h u,Cx h L S ((fun h=>agi u l h) :: F)→K (.tup [u, .int .i64 0, .int .i64 0]) h=true
 | .error e=>∀h,Cx h L S F→K (.tup [.au, .int .i64 (e:Int), .int .i64 20]) h=true
theorem cp7 {s:Str} (hb:∀b∈s,b<256) (hs:s.length≤60000) (hn:s.length+20≤n) (A:Cx h L S F) (H:apH s L S F K (Fz s)):ak E n (.func 34) [.str s] h K=true:=by
 obtain⟨n,rfl⟩:∃m,n=m+10:=⟨n-10,by omega⟩;have hm:most=1099511627776:=rfl;show ak E (n+9+1) _ _ _ _=true;apply d34;unfold s34;refine ql (yh ?_);rw[decide_eq_false (by omega)];refine bE<|aq4 (n:=n+1) A.ok (by omega) hb (by omega) (by omega) fun v h' e o a=> ?_;cases hl:Fz s with
 |ok l=>
  rw[hl] at a H;obtain⟨u,rfl,O⟩:=a;exact aD rfl (jY (kg (Hl<|H _ _ (A.ownNew e o O))))
 |error x=>
  rw[hl] at a H;cases a;exact aD rfl (jY (kg (Hl<|H _ (A.ext e o))))
end
theorem is_lt {T:List Lx} {i:Nat} {s:Str} (h:bA T i s=true):i<T.length:=by
 unfold bA at h;cases e:T[i]? with
 |none=>rw[e] at h;cases h
 |some l=>exact(List.getElem?_eq_some_iff.1 e).1
theorem VK {T:List Lx} {i:Nat} (h:qP T i=true):i<T.length:=by
 unfold qP at h;cases e:T[i]? with
 |none=>rw[e] at h;cases h
 |some l=>exact(List.getElem?_eq_some_iff.1 e).1
theorem sO {T:List Lx} {i k:Nat} (h:dS T i k=true):i<T.length:=by
 unfold dS at h;cases e:T[i]? with
 |none=>rw[e] at h;cases h
 |some l=>exact(List.getElem?_eq_some_iff.1 e).1
abbrev yD (α:Type):=Nat→List Lx→PM α
def Gd {α:Type} (m:yD α):Prop:=∀x T i o v i' o',m x T i o= .ok v i' o'→i≤i'
def Cs {α:Type} (m:yD α):Prop:=∀x T i o v i' o',m x T i o= .ok v i' o'→i<i'∧i<T.length
theorem Gd.mono {α:Type} {m:yD α} (h:Gd m):∀x T i o v i' o',m x T i o= .ok v i' o'→i≤i':=h
theorem iy {α:Type} {d:Int} {m:yD α} (h:∀x T,Sh d (m x T)):Gd m:=fun x T i o v i' o' e=>(h x T i o v i' o' e).2
theorem qg {α:Type}:Gd fun _ _=>(tV:PM α):=fun _ _ _ _ _ _ _ e=>by cases e
structure GdE {α:Type} (m:yD α):Prop where
 gd:Gd m
 cs:Cs m
section
variable {α β:Type}
theorem kZ {v:α}:Gd fun _ _=>ret v:=iy fun _ _=>dP
theorem kU {m:PM α} {g:α→PM β} {i:Nat} {o:Int} {v:β} {i':Nat} {o':Int} (h:bnd m g i o= .ok v i' o'):∃w i1 o1,m i o= .ok w i1 o1∧g w i1 o1= .ok v i' o':=by
 unfold bnd at h;cases e:m i o with
 |ok w i1 o1=>rw[e] at h;exact⟨w,i1,o1,rfl,h⟩
 |fail x=>rw[e] at h;cases h
 |out=>rw[e] at h;cases h
theorem apM {m:PM α} {g:α→PM β} {i:Nat} {o:Int} {w:α} {i1:Nat} {o1:Int} (h:m i o= .ok w i1 o1):bnd m g i o=g w i1 o1:=by unfold bnd;rw[h]
theorem eT {m:yD α} {g:α→yD β} (h:Gd m) (k:∀v,Gd (g v)):Gd fun x T=>bnd (m x T) fun v=>g v x T:=fun x T i o v i' o' e=>by
 exact have⟨w,i1,o1,e1,e2⟩:=kU e;Nat.le_trans (h _ _ _ _ _ _ _ e1) (k w _ _ _ _ _ _ _ e2)
theorem nI {m:yD α} {g:α→yD β} (h:Cs m) (k:∀v,Gd (g v)):Cs fun x T=>bnd (m x T) fun v=>g v x T:=by
 intro x T i o v i' o' e;have⟨w,i1,o1,e1,e2⟩:=kU e;have h1:=h _ _ _ _ _ _ _ e1;have h2:=k w _ _ _ _ _ _ _ e2;omega
theorem Yy {m:yD α} {g:α→yD β} (h:Gd m) (k:∀v,Cs (g v)):Cs fun x T=>bnd (m x T) fun v=>g v x T:=by
 intro x T i o v i' o' e;have⟨w,i1,o1,e1,e2⟩:=kU e;have h1:=h _ _ _ _ _ _ _ e1;have h2:=k w _ _ _ _ _ _ _ e2;omega
theorem IJ {c:List Lx→Nat→Bool} {m1 m2:yD α} (h1:Cs m1) (h2:Cs m2):Cs fun x T i o=>if c T i=true then m1 x T i o else m2 x T i o:=by
 intro x T i o v i' o' e
 try simp only at e
 split at e
 ·exact h1 _ _ _ _ _ _ _ e
 ·exact h2 _ _ _ _ _ _ _ e
theorem ng {c:List Lx→Nat→Bool} {m1 m2:yD α} (l:∀T i,c T i=true→i<T.length) (h1:Gd m1) (h2:Cs m2):Cs fun x T i o=>if c T i=true then m1 x T (i+1) o else m2 x T i o:=by
 intro x T i o v i' o' e
 try simp only at e
 split at e
 ·rename_i hc;have:=h1 _ _ _ _ _ _ _ e;exact⟨by omega,l _ _ hc⟩
 ·exact h2 _ _ _ _ _ _ _ e
theorem RP {m:yD α} (h:Cs m):Cs fun _ T i o=>m i T i o:=fun x T i o v i' o' e=>h _ _ _ _ _ _ _ e
end
theorem SI {T:List Lx} {w:Str} {i:Nat} {o:Int}:d9 T w i o=if bA T i w=true then .ok () (i+1) o else .fail i:=by
 unfold d9 bnd fA;by_cases h:bA T i w=true
 ·rw[if_pos h,if_pos h];rfl
 ·rw[if_neg h,if_neg h];rfl
theorem ac4 {α:Type}:Gd fun _ _ i _=>(.fail i:Res α):=fun _ _ _ _ _ _ _ e=>by cases e
theorem akP {α:Type} {c:List Lx→Nat→Bool} {m1 m2:yD α} (h1:Gd m1) (h2:Gd m2):Gd fun x T i o=>if c T i=true then m1 x T i o else m2 x T i o:=by
 intro x T i o v i' o' e
 try simp only at e
 split at e
 ·exact h1 _ _ _ _ _ _ _ e
 ·exact h2 _ _ _ _ _ _ _ e
theorem CJ {α:Type}:Cs fun _ _=>(tV:PM α):=fun _ _ _ _ _ _ _ e=>by cases e
theorem Sb (w:Str):Gd fun _ T=>fA T w:=iy fun _ _=>xM
theorem iF (w:Str):Gd fun _ T=>d9 T w:=iy fun _ _=>iL
theorem Ew (w:Str):Cs fun _ T=>d9 T w:=fun x T i o v i' o' e=>by
 simp only[SI] at e;split at e
 ·rename_i hc;cases e;exact⟨by omega,is_lt hc⟩
 ·cases e
theorem jy:GdE fun _ T=>iD T:=⟨iy fun _ _=>kX,fun x T i o v i' o' e=>by
 simp only[iD] at e;split at e
 ·rename_i hc;simp only[Bool.and_eq_true] at hc;cases e;exact⟨by omega,VK hc.1⟩
 ·cases e⟩
theorem rA:GdE fun _ T=>qF T:=⟨iy fun _ _=>yS,fun x T i o v i' o' e=>by
 simp only[qF] at e;split at e
 ·rename_i hc;simp only[Bool.and_eq_true] at hc;cases e;exact⟨by omega,sO hc.1⟩
 ·cases e⟩
theorem uL:GdE fun _ T=>jm T:=⟨iy fun _ _=>wz,fun x T i o v i' o' e=>by
 simp only[jm] at e;split at e
 ·rename_i hc;cases e;exact⟨by omega,sO hc⟩
 ·cases e⟩
theorem LZ:Gd fun x _=>jc x:=iy fun _ _=>zm
theorem KQ:Gd fun _ _=>mG:=iy fun _ _=>Ej
theorem jU (w:Str):Gd fun _ T=>fB T w:=iy fun _ _=>jA
theorem rU (w:Str):Cs fun _ T=>fB T w:=RP (m:=fun x T=>bnd (d9 T w) fun _=>jc x) (nI (Ew w) fun _=>LZ)
theorem fO (w:Str):GdE fun _ T=>dH T w:=⟨iy fun _ _=>ko,nI (Ew w) fun _=>KQ⟩
theorem Af (e:Ex) (l:List Bt):Gd fun x _=>gY x e l:=iy fun _ _=>vH
section
variable {σ:Type}
theorem Kj {w:Str} {one:σ→yD σ} (h:∀s,Gd (one s)):∀(k:Nat) (first:Bool) (s:σ),Gd fun x T=>oW T w (fun s=>one s x T) k first s
 |0,_,_=>fun _ _ _ _ _ _ _ e=>by cases e
 |k+1,first,s=>fun x T i o v i' o' e=>by
  have hb:∀{j o},bnd (one s x T) (oW T w (fun s=>one s x T) k false) j o= .ok v i' o'→j≤i':=fun e=>(eT (h s) fun v=>Kj h k false v) x T _ _ _ _ _ e;have e:(if first=true then(if bA T i w=true then .ok s i o else bnd (one s x T) (oW T w (fun s=>one s x T) k false) i o)
   else(if bA T i [44]=true then bnd (one s x T) (oW T w (fun s=>one s x T) k false) (i+1) o else .ok s i o))= .ok v i' o':=e
  split at e
  ·split at e
   ·cases e;exact Nat.le_refl _
   ·exact hb e
  ·split at e
   ·have:=hb e;omega
   ·cases e;exact Nat.le_refl _
theorem Z0 {w:Str} {one:σ→yD σ} (h:∀s,Gd (one s)) (k:Nat) (s:σ):Cs fun x T=>iQ T w (fun s=>one s x T) k s:=
 Yy (Kj h k true s) fun v=>nI (fO w).cs fun _=>kZ
theorem uo {w:Str} {one:σ→yD σ} (h:∀s,Gd (one s)) (k:Nat) (s:σ):GdE fun x T=>iQ T w (fun s=>one s x T) k s:=
 ⟨fun x T i o v i' o' e=>Nat.le_of_lt (Z0 h k s x T i o v i' o' e).1,Z0 h k s⟩
end
structure GdX (k:Nat):Prop where
 level:∀lv,Gd fun _ T=>bP T k lv
 levelC:∀lv,Cs fun _ T=>bP T k lv
 ops:∀lv e,Gd fun _ T=>qU T k lv e
 sign:Gd fun _ T=>jK T k
 signC:Cs fun _ T=>jK T k
 post:Gd fun _ T=>sJ T k
 postC:Cs fun _ T=>sJ T k
 dots:∀e,Gd fun _ T=>qy T k e
 atom:Gd fun _ T=>qA T k
 atomC:Cs fun _ T=>qA T k
def opB (T:List Lx) (i lv:Nat):Bool:=match T[i]? with
 |none=>false
 |some l=>(xQ lv l.text).isSome&&decide (l.kind=4)
theorem ag9 {T:List Lx} {i lv:Nat} (h:opB T i lv=true):i<T.length:=by
 unfold opB at h;cases e:T[i]? with
 |none=>rw[e] at h;cases h
 |some l=>exact(List.getElem?_eq_some_iff.1 e).1
theorem adW {T:List Lx} {k lv:Nat} {e:Bt} {i:Nat} {o:Int}:qU T (k+1) lv e i o=if opB T i lv=true then bnd (bP T k (lv+1)) (fun b=>bnd (gY i (jr ((xQ lv (txt T i)).getD 0) []) [e,b]) fun e'=>if lv=2 then ret e' else qU T k lv e') (i+1) o else .ok e i o:=by
 show(match T[i]? with
  |none=>Res.ok e i o
  |some l=>match xQ lv l.text with
   |none=> .ok e i o
   |some op=>if l.kind=4 then bnd (bP T k (lv+1)) (fun b=>bnd (gY i (jr op []) [e,b]) fun e'=>if lv=2 then ret e' else qU T k lv e') (i+1) o else .ok e i o)=_
 unfold opB txt;cases h:T[i]? with
 |none=>rfl
 |some l=>
  simp only;cases hp:xQ lv l.text with
  |none=>rfl
  |some op=>
   by_cases h4:l.kind=4
   ·simp only[h4,if_true,Option.isSome,decide_true,Bool.and_true,Option.getD]
   ·simp only[h4,if_false,Option.isSome,decide_false,Bool.and_false];rfl
def afm (T:List Lx) (i:Nat):Bool:=match pI (txt T i) with
 |some (some _)=>true
 |_=>false
def afb (t:Str):Int:=match pI t with
 |some (some n)=>n
 |_=>0
theorem Sk (k:Nat):(fun(_:Nat) T=>qA T (k+1))=fun(_:Nat) T i o=>(fun(x:Nat) T i o=>
 if dS T i 2=true then(if(dS T i 2&&afm T i)=true then .ok (lit (.mk 2 false (afb (txt T i)) [] [])) (i+1) o else(.fail i:Res Bt))
 else if dS T i 3=true then(fun s (_:Nat) (_:List Lx)=>ret (lit (.mk 3 false 0 s []))) (txt T i) x T (i+1) o
 else if bA T i [116,114,117,101]=true then ret (lit (.mk 1 true 0 [] [])) (i+1) o
 else if bA T i [102,97,108,115,101]=true then ret (lit (.mk 1 false 0 [] [])) (i+1) o
 else if bA T i [110,117,108,108]=true then ret (lit NJ) (i+1) o
 else if dS T i 1=true then(bnd (qF T) fun t=>ret (⟨jr 2 t,1⟩:Bt)) i o
 else if bA T i [40]=true then(bnd (fB T [40]) fun _=>bnd (bP T k 0) fun e=>bnd (dH T [41]) fun _=>ret e) i o
 else if bA T i [91]=true then(bnd (fB T [91]) fun _=>bnd (iQ T [93] (fun l=>bnd (bP T k 0) fun b=>ret (l++[b])) k []) fun l=>gY x (jr 5 []) l) i o
 else if bA T i [115,105,122,101]=true then(bnd (fB T [40]) fun _=>bnd (bP T k 0) fun e=>bnd (dH T [41]) fun _=>gY x (jr 21 []) [e]) (i+1) o
 else if bA T i [104,97,115]=true then(bnd (fB T [40]) fun _=>bnd (bP T k 0) fun a=>bnd (d9 T [44]) fun _=>bnd (bP T k 0) fun b=>bnd (dH T [41]) fun _=>gY x (jr 22 []) [a,b]) (i+1) o
 else(bnd (iD T) fun t=>ret (⟨jr 3 t,1⟩:Bt)) i o) i T i o:=by
 funext x T i o
 unfold qA;by_cases h2:dS T i 2=true
 ·simp only[if_pos h2,h2,afm,afb,Bool.true_and];cases hp:pI (txt T i) with
  |none=>rfl
  |some r=>cases r<;>rfl
 ·simp only[if_neg h2];rfl
theorem gdx:∀k,GdX k
 |0=>⟨fun _=>qg,fun _=>CJ,fun _ _=>qg,qg,CJ,qg,CJ,fun _=>qg,qg,CJ⟩
 |k+1=>by
  have W:=gdx k;have H:∀T,ShE T (k+1):=fun T=>shE (k+1);have post:Cs fun _ T=>sJ T (k+1):=nI (m:=fun _ T=>qA T k) (g:=fun v _ T=>qy T k v) W.atomC fun v=>W.dots v;have s1:∀op,Gd fun x T=>bnd (jc x) fun _=>bnd (jK T k) fun e=>bnd mG fun _=>gY x (jr op []) [e]:=fun op=>eT LZ fun _=>eT W.sign fun e=>eT KQ fun _=>Af _ _;have li:Gd fun _ T=>iQ T [93] (fun l=>bnd (bP T k 0) fun b=>ret (l++[b])) k []:=(uo (one:=fun l _ T=>bnd (bP T k 0) fun b=>ret (l++[b])) (fun l=>eT (m:=fun _ T=>bP T k 0) (W.level 0) fun b=>kZ) k []).gd;have a1:Cs fun _ T=>bnd (fB T [40]) fun _=>bnd (bP T k 0) fun e=>bnd (dH T [41]) fun _=>ret e:=nI (rU _) fun _=>eT (m:=fun _ T=>bP T k 0) (W.level 0) fun e=>eT (fO _).gd fun _=>kZ;have a2:Cs fun x T=>bnd (fB T [91]) fun _=>bnd (iQ T [93] (fun l=>bnd (bP T k 0) fun b=>ret (l++[b])) k []) fun l=>gY x (jr 5 []) l:=nI (rU _) fun _=>eT li fun l=>Af _ _;have a3:Gd fun x T=>bnd (fB T [40]) fun _=>bnd (bP T k 0) fun e=>bnd (dH T [41]) fun _=>gY x (jr 21 []) [e]:=eT (jU _) fun _=>eT (m:=fun _ T=>bP T k 0) (W.level 0) fun e=>eT (fO _).gd fun _=>Af _ _;have a4:Gd fun x T=>bnd (fB T [40]) fun _=>bnd (bP T k 0) fun a=>bnd (d9 T [44]) fun _=>bnd (bP T k 0) fun b=>bnd (dH T [41]) fun _=>gY x (jr 22 []) [a,b]:=eT (jU _) fun _=>eT (m:=fun _ T=>bP T k 0) (W.level 0) fun e=>eT (iF _) fun _=>eT (m:=fun _ T=>bP T k 0) (W.level 0) fun b=>eT (fO _).gd fun _=>Af _ _;have a5:Cs fun _ T=>bnd (qF T) fun t=>ret (⟨jr 2 t,1⟩:Bt):=nI rA.cs fun _=>kZ;have a6:Cs fun _ T=>bnd (iD T) fun t=>ret (⟨jr 3 t,1⟩:Bt):=nI jy.cs fun _=>kZ;have a0:Cs fun _ T i o=>if(dS T i 2&&afm T i)=true then .ok (lit (.mk 2 false (afb (txt T i)) [] [])) (i+1) o else(.fail i:Res Bt):=fun x T i o v i' o' e=>by
   simp only at e;split at e
   ·rename_i hc;simp only[Bool.and_eq_true] at hc;cases e;exact⟨by omega,sO hc.1⟩
   ·cases e
  have cT:∀{c:List Lx→Nat→Bool} {m1:Str→yD Bt} {m2:yD Bt},(∀T i,c T i=true→i<T.length)→(∀s,Gd (m1 s))→Cs m2→Cs fun x T i o=>if c T i=true then m1 (txt T i) x T (i+1) o else m2 x T i o:=by
   intro c m1 m2 l h1 h2 x T i o v i' o' e;simp only at e;split at e
   ·rename_i hc;have:=(h1 _).mono _ _ _ _ _ _ _ e;exact⟨by omega,l _ _ hc⟩
   ·exact h2 _ _ _ _ _ _ _ e
  have atom:Cs fun _ T=>qA T (k+1):=by
   rw[Sk];exact RP (IJ (c:=fun T i=>dS T i 2) a0 (cT (m1:=fun s _ _=>ret (lit (.mk 3 false 0 s []))) (fun _ _=>sO) (fun _=>kZ) (ng (m1:=fun _ _=>ret (lit (.mk 1 true 0 [] []))) (fun _ _=>is_lt) kZ (ng (m1:=fun _ _=>ret (lit (.mk 1 false 0 [] []))) (fun _ _=>is_lt) kZ
    (ng (m1:=fun _ _=>ret (lit NJ)) (fun _ _=>is_lt) kZ (IJ (c:=fun T i=>dS T i 1) a5 (IJ (c:=fun T i=>bA T i [40]) a1 (IJ (c:=fun T i=>bA T i [91]) a2 (ng (fun _ _=>is_lt) a3 (ng (fun _ _=>is_lt) a4 a6))))))))))
  have sign:Cs fun _ T=>jK T (k+1):=RP (m:=fun x T i o=>if bA T i [45]=true then bnd (jc x) (fun _=>bnd (jK T k) fun e=>bnd mG fun _=>gY x (jr 6 []) [e]) (i+1) o
   else if bA T i [33]=true then bnd (jc x) (fun _=>bnd (jK T k) fun e=>bnd mG fun _=>gY x (jr 7 []) [e]) (i+1) o else sJ T k i o) (ng (fun _ _=>is_lt) (s1 6) (ng (fun _ _=>is_lt) (s1 7) W.postC))
  refine⟨fun lv=>iy fun _ T=>(H T).level lv,fun lv=> ?_,fun lv e=>iy fun _ T=>(H T).ops lv e,iy fun _ T=>(H T).sign,sign,iy fun _ T=>(H T).post,post,fun e=>iy fun _ T=>(H T).dots e,iy fun _ T=>(H T).atom,atom⟩;by_cases h5:lv=5
  ·refine(funext fun x=>funext fun T=> ?_:(fun(_:Nat) T=>bP T (k+1) lv)=fun _ T=>jK T k)▸W.signC;show(if lv=5 then jK T k else bnd (bP T k (lv+1)) (qU T k lv))=_
   rw[if_pos h5]
  ·refine(funext fun x=>funext fun T=> ?_:(fun(_:Nat) T=>bP T (k+1) lv)=fun _ T=>bnd (bP T k (lv+1)) (qU T k lv))▸nI (m:=fun _ T=>bP T k (lv+1)) (g:=fun v _ T=>qU T k lv v) (W.levelC _) fun v=>W.ops lv v;show(if lv=5 then jK T k else bnd (bP T k (lv+1)) (qU T k lv))=_
   rw[if_neg h5]
theorem nL (k:Nat):Gd fun _ T=>jw T k:=eT (m:=fun _ T=>bP T k 0) ((gdx k).level 0) fun _=>kZ
theorem JA {α:Type} {c:Bool} {g:Unit→PM α} {i:Nat} {o:Int}:bnd (yK (!c)) g i o=if c=true then .fail i else g () i o:=by cases c<;>rfl
section
variable (k:Nat)
theorem Sj:(fun(_:Nat) T=>Jb T k)=fun(_:Nat) T i o=>if(bA T i oI||bA T i iw)=true then bnd (Dm T) (fun t=>bnd (iD T) fun c=>bnd (rG T k false) fun l=>og T ⟨if t=iw then 2 else 1,c,l,wm,[]⟩) i o
 else if bA T i u7=true then bnd (jw T k) (fun e=>bnd (rG T k true) fun l=>og T ⟨3,[],l,e,[]⟩) (i+1) o
 else if bA T i uW=true then bnd (jw T k) (fun e=>og T ⟨4,[],[],e,[]⟩) (i+1) o
 else if bA T i zh=true then bnd (jm T) (fun t=>og T ⟨5,[],[],wm,t⟩) (i+1) o
 else if bA T i yF=true then bnd (jw T k) (fun e=>og T ⟨6,[],[],e,[]⟩) (i+1) o
 else bnd (d9 T YI) (fun _=>og T ⟨7,[],[],wm,[]⟩) i o:=by
 funext x T i o
 unfold Jb;by_cases h:bA T i oI=true∨bA T i iw=true
 ·rw[if_pos h,if_pos (by simpa using h)]
 ·have h':¬(bA T i oI||bA T i iw)=true:=by rw[Bool.or_eq_true];exact h
  rw[if_neg h,if_neg h']
end
def Lj (nm:Str) (T:List Lx):PM Nw:=fun i o=>if bA T i QH=true then .ok ⟨nm,2,[]⟩ (i+1) o
 else if bA T i DZ=true then .ok ⟨nm,1,[]⟩ (i+1) o
 else if bA T i Ea=true then .ok ⟨nm,3,[]⟩ (i+1) o
 else if bA T i vG=true then .ok ⟨nm,4,[]⟩ (i+1) o
 else if bA T i Ql=true then .ok ⟨nm,0,[]⟩ (i+1) o
 else bnd (d9 T afh) (fun _=>bnd (iD T) fun c=>ret ⟨nm,5,c⟩) i o
section
variable {T:List Lx} {α:Type} {d:Int}
theorem D5 {c:Nat→Bool} {m1 m2:PM α} (h1:Sh d m1) (h2:Sh d m2):Sh d fun i o=>if c i=true then m1 i o else m2 i o:=by
 intro i o v i' o' e;simp only at e;split at e
 ·exact h1 _ _ _ _ _ e
 ·exact h2 _ _ _ _ _ e
theorem iO {c:Nat→Bool} {m1 m2:PM α} (h1:Sh d m1) (h2:Sh d m2):Sh d fun i o=>if c i=true then m1 (i+1) o else m2 i o:=by
 intro i o v i' o' e;simp only at e;split at e
 ·exact uY h1 e
 ·exact h2 _ _ _ _ _ e
theorem Qh {b:Bool} {m1 m2:PM α} (h1:Sh d m1) (h2:Sh d m2):Sh d (if b=true then m1 else m2):=by
 split
 ·exact h1
 ·exact h2
theorem sQ {k:Nat}:Sh 0 (jw T k):=aM ((shE k).level 0) (fun _=>dP) rfl
theorem OD {k:Nat} (l:List (Str×Ex)):Sh 0 (um T k l):=
 D5 (c:=fun i=>dS T i 1&&bA T (i+1) [63]) (aM yS (fun _=>aM iL (fun _=>dP) rfl) rfl) (aM sQ (fun _=>dP) rfl)
theorem acB {k:Nat}:Sh 0 (Uh T k):=aM kX (fun _=>aM jA (fun _=>aM (DC OD _ _) (fun _=>dP) rfl) rfl) rfl
theorem OY {k:Nat} (s:List (Str×Str)×List Ex):Sh 0 (qN T k s):=
 D5 (c:=fun i=>dS T i 1&&bA T (i+1) [58]) (aM yS (fun _=>aM iL (fun _=>aM kX (fun _=>dP) rfl) rfl) rfl) (aM sQ (fun _=>dP) rfl)
theorem BR {k:Nat} (v:Str):Sh 0 (mQ T k v):=aM kX (fun _=>aM jA (fun _=>aM (DC OY _ _) (fun _=>dP) rfl) rfl) rfl
theorem aix {k:Nat}:Sh 0 (SL T k):=D5 (c:=fun i=>dS T i 1) (aM yS (fun _=>aM iL (fun _=>BR _) rfl) rfl) (BR _)
structure ShC (T:List Lx) (k:Nat):Prop where
 conds:∀ends acc,Sh 0 (jG T k ends acc)
 some:∀ends,Sh 0 (jN T k ends)
 block:Sh 0 (nY T k)
 alts:∀acc,Sh 0 (uy T k acc)
 or:Sh 0 (orM T k)
 acc:Sh 0 (NS T k)
 cond:Sh 0 (vM T k)
theorem shC:∀k,ShC T k
 |0=>⟨fun _ _=>ny,fun _=>ny,ny,fun _=>ny,ny,ny,ny⟩
 |k+1=>by
  refine have W:=shC k;⟨fun ends acc=> ?_,fun ends=> ?_, ?_,fun acc=> ?_, ?_, ?_, ?_⟩
  ·exact D5 (c:=fun i=>ends.any fun w=>bA T i w) dP (aM W.cond (fun _=>W.conds _ _) rfl)
  ·exact aM W.cond (fun _=>aM (W.conds _ _) (fun _=>dP) rfl) rfl
  ·exact aM jA (fun _=>aM (W.some _) (fun _=>aM ko (fun _=>dP) rfl) rfl) rfl
  ·exact aM (W.some _) (fun _=>aM xM (fun _=>Qh (W.alts _) dP) rfl) rfl
  ·exact aM jA (fun _=>aM (W.some _) (fun _=>aM iL (fun _=>aM (W.alts _) (fun _=>aM ko (fun _=>dP) rfl) rfl) rfl) rfl) rfl
  ·exact aM jA (fun _=>aM yS (fun _=>aM iL (fun _=>aM xM (fun _=>aM (Qh dP kX) (fun _=>aM jA (fun _=>aM sQ (fun _=>aM ko (fun _=>
    aM iL (fun _=>aM (W.some _) (fun _=>aM ko (fun _=>dP) rfl) rfl) rfl) rfl) rfl) rfl) rfl) rfl) rfl) rfl) rfl
  ·exact iO (c:=fun i=>bA T i WH) (aM W.block (fun _=>dP) rfl) (iO (c:=fun i=>bA T i xg) (aM W.block (fun _=>dP) rfl)
    (iO (c:=fun i=>bA T i xR) (aM jA (fun _=>aM (W.some _) (fun _=>aM iL (fun _=>aM (W.some _) (fun _=>aM ko (fun _=>dP) rfl) rfl) rfl) rfl) rfl)
    (D5 (c:=fun i=>bA T i [40]) W.or (iO (c:=fun i=>bA T i MX) (aM jA (fun _=>aM sQ (fun _=>aM ko (fun _=>dP) rfl) rfl) rfl)
    (iO (c:=fun i=>bA T i Wj) W.acc (iO (c:=fun i=>bA T i [63]) acB (D5 (c:=fun i=>dS T i 1&& !bA T (i+1) [58]) (aM yS (fun _=>aM iL (fun _=>aM sQ (fun _=>dP) rfl) rfl) rfl) aix)))))))
theorem Pw {k:Nat} (l:List (Str×Ex)):Sh 0 (jJ T k l):=aM kX (fun _=>aM iL (fun _=>aM sQ (fun _=>dP) rfl) rfl) rfl
theorem Qp {k:Nat} {least:Bool}:Sh 0 (rG T k least):=by
 refine aM jA (b:= -1) (fun _=> ?_) rfl;intro i o v i' o' e;have hl:iQ T [125] (jJ T k) k [] i o= .ok v i' o':=by
  simp only at e;split at e
  ·rw[JA] at e;split at e
   ·cases e
   ·exact e
  ·exact e
 exact DC Pw _ _ _ _ _ _ _ hl
theorem xU {a:Act}:Sh 0 (og T a):=aM iL (fun _=>dP) rfl
theorem aji {k:Nat}:Sh 0 (Jb T k):=by
 have e:Jb T k=fun i o=>if(bA T i oI||bA T i iw)=true then bnd (Dm T) (fun t=>bnd (iD T) fun c=>bnd (rG T k false) fun l=>og T ⟨if t=iw then 2 else 1,c,l,wm,[]⟩) i o
  else if bA T i u7=true then bnd (jw T k) (fun e=>bnd (rG T k true) fun l=>og T ⟨3,[],l,e,[]⟩) (i+1) o
  else if bA T i uW=true then bnd (jw T k) (fun e=>og T ⟨4,[],[],e,[]⟩) (i+1) o
  else if bA T i zh=true then bnd (jm T) (fun t=>og T ⟨5,[],[],wm,t⟩) (i+1) o
  else if bA T i yF=true then bnd (jw T k) (fun e=>og T ⟨6,[],[],e,[]⟩) (i+1) o
  else bnd (d9 T YI) (fun _=>og T ⟨7,[],[],wm,[]⟩) i o:=by
  funext i o
  exact congrFun (congrFun (congrFun (congrFun (Sj k) 0) T) i) o
 rw[e];exact D5 (c:=fun i=>bA T i oI||bA T i iw) (aM Zi (fun _=>aM kX (fun _=>aM Qp (fun _=>xU) rfl) rfl) rfl)
  (iO (c:=fun i=>bA T i u7) (aM sQ (fun _=>aM Qp (fun _=>xU) rfl) rfl) (iO (c:=fun i=>bA T i uW) (aM sQ (fun _=>xU) rfl)
  (iO (c:=fun i=>bA T i zh) (aM wz (fun _=>xU) rfl) (iO (c:=fun i=>bA T i yF) (aM sQ (fun _=>xU) rfl) (aM iL (fun _=>xU) rfl)))))
theorem acy:Sh 0 (Qd T):=by
 refine aM xM (b:=0) (fun b=> ?_) rfl;intro i o v i' o' e;simp only at e;split at e
 ·split at e
  ·split at e<;>cases e;exact⟨by omega,by omega⟩
  ·cases e
 ·cases e
theorem sh_head:∀(k:Nat) (r:KR),Sh 0 (oZ T k r)
 |0,_=>ny
 |k+1,r=>iO (c:=fun i=>bA T i KP) (m1:=ret r) dP (iO (c:=fun i=>bA T i abm) (aM acy (fun _=>sh_head k _) rfl) (iO (c:=fun i=>bA T i Fe) (aM wz (fun _=>sh_head k _) rfl)
  (iO (c:=fun i=>bA T i Oa) (aM wz (fun _=>sh_head k _) rfl) (iO (c:=fun i=>bA T i Aa) (m1:=oZ T k {r with noloop:=true}) (sh_head k _) (aM iL (fun _=>sh_head k _) rfl)))))
theorem Ri (k0:Nat):∀(k:Nat) (acc:List Act),Sh 0 (wI T k0 k acc)
 |0,_=>ny
 |k+1,acc=>iO (c:=fun i=>bA T i Kn) (m1:=ret acc) dP (aM aji (fun _=>Ri k0 k _) rfl)
theorem afZ {k:Nat}:Sh 0 (wF T k):=aM wz (fun _=>aM (sh_head k _) (fun _=>aM ((shC k).conds _ _) (fun _=>aM iL (fun _=>aM (Ri k k _) (fun _=>dP) rfl) rfl) rfl) rfl) rfl
theorem OC (l:List Str):Sh 0 (tT T l):=aM yS (fun _=>dP) rfl
theorem adi {k:Nat}:Sh 0 (qG T k):=aM kX (fun _=>aM jA (fun _=>aM (DC OC _ _) (fun _=>aM ((shC k).conds _ _) (fun _=>aM iL (fun _=>dP) rfl) rfl) rfl) rfl) rfl
theorem Er:Sh 0 (r9 T):=aM kX (fun nm=>aM iL (b:=0) (fun _=>(iO (c:=fun i=>bA T i QH) (m1:=ret _) dP (iO (c:=fun i=>bA T i DZ) (m1:=ret _) dP (iO (c:=fun i=>bA T i Ea) (m1:=ret _) dP
 (iO (c:=fun i=>bA T i vG) (m1:=ret _) dP (iO (c:=fun i=>bA T i Ql) (m1:=ret _) dP (aM iL (fun _=>aM kX (fun _=>dP) rfl) rfl))))):Sh 0 (Lj nm T))) rfl) rfl
theorem wE:∀(k:Nat) (first:Bool) (acc:List Nw),Sh 0 (jI T k first acc)
 |0,_,_=>ny
 |k+1,true,acc=>D5 (c:=fun i=>bA T i [125]) dP (aM Er (fun _=>wE k false _) rfl)
 |k+1,false,acc=>iO (c:=fun i=>bA T i [44]) (aM Er (fun _=>wE k false _) rfl) (D5 (c:=fun i=>qP T i) (aM Er (fun _=>wE k false _) rfl) dP)
theorem ac9 {k:Nat}:Sh 0 (rZ T k):=aM kX (fun _=>aM (aM xM (fun _=>Qh kX dP) rfl) (fun _=>aM jA (fun _=>aM (wE k true []) (fun _=>aM ko (fun _=>dP) rfl) rfl) rfl) rfl) rfl
end
theorem ajD (k:Nat):Gd fun _ T=>Uh T k:=iy fun _ _=>acB
theorem NV (k:Nat) (l:List (Str×Ex)):Gd fun _ T=>um T k l:=iy fun _ _=>OD l
theorem FY (k:Nat) (s:List (Str×Str)×List Ex):Gd fun _ T=>qN T k s:=iy fun _ _=>OY s
theorem Yn (k:Nat) (v:Str):Gd fun _ T=>mQ T k v:=iy fun _ _=>BR v
theorem ajr {α:Type} {b:Bool} {m1 m2:yD α} (h1:Gd m1) (h2:Gd m2):Gd fun x T=>if b=true then m1 x T else m2 x T:=by
 cases b
 ·exact h2
 ·exact h1
theorem X7 (k:Nat) (v:Str):Cs fun _ T=>mQ T k v:=
 nI jy.cs fun _=>eT (jU _) fun _=>eT (m:=fun _ T=>iQ T [41] (qN T k) k ([],[])) (uo (one:=fun l _ T=>qN T k l) (FY k) k ([],[])).gd fun _=>kZ
theorem ah3 (k:Nat):Cs fun _ T=>SL T k:=
 IJ (c:=fun T i=>dS T i 1) (m1:=fun _ T=>bnd (qF T) fun v=>bnd (d9 T [58]) fun _=>mQ T k v) (m2:=fun _ T=>mQ T k []) (nI rA.cs fun v=>eT (iF _) fun _=>Yn k v) (X7 k [])
structure GdC (k:Nat):Prop where
 conds:∀ends acc,Gd fun _ T=>jG T k ends acc
 some:∀ends,Gd fun _ T=>jN T k ends
 someC:∀ends,Cs fun _ T=>jN T k ends
 block:Gd fun _ T=>nY T k
 alts:∀acc,Gd fun _ T=>uy T k acc
 orC:Cs fun _ T=>orM T k
 acc:Gd fun _ T=>NS T k
 condC:Cs fun _ T=>vM T k
theorem gdc:∀k,GdC k
 |0=>⟨fun _ _=>qg,fun _=>qg,fun _=>CJ,qg,fun _=>qg,CJ,qg,CJ⟩
 |k+1=>by
  have W:=gdc k;have H:∀T,ShC T (k+1):=fun T=>shC (k+1);have o1:Gd fun(_:Nat) T=>bnd (jN T k [Xj,[41]]) fun l=>bnd (d9 T Xj) fun _=>bnd (uy T k [l]) fun a=>bnd (dH T [41]) fun _=>ret (Cd.mk 5 [] [] [] [] [] [] a wm [] [] []):=
   eT (m:=fun _ T=>jN T k [Xj,[41]]) (W.some _) fun l=>eT (iF _) fun _=>eT (m:=fun _ T=>uy T k [l]) (W.alts _) fun a=>eT (fO _).gd fun _=>kZ
  have c1:∀n,Gd fun(_:Nat) T=>bnd (nY T k) fun l=>ret (SS n l):=fun n=>eT (m:=fun _ T=>nY T k) W.block fun _=>kZ;have c2:Gd fun(_:Nat) T=>bnd (fB T [40]) fun _=>bnd (jN T k [[59]]) fun l=>bnd (d9 T [59]) fun _=>bnd (jN T k [[41]]) fun m=>bnd (dH T [41]) fun _=>ret (Cd.mk 4 [] [] [] [] l m [] wm [] [] []):=
   eT (jU _) fun _=>eT (m:=fun _ T=>jN T k [[59]]) (W.some _) fun l=>eT (iF _) fun _=>eT (m:=fun _ T=>jN T k [[41]]) (W.some _) fun m=>eT (fO _).gd fun _=>kZ
  have c3:Gd fun(_:Nat) T=>bnd (fB T [40]) fun _=>bnd (jw T k) fun e=>bnd (dH T [41]) fun _=>ret (Cd.mk 8 [] [] [] [] [] [] [] e [] [] []):=
   eT (jU _) fun _=>eT (nL k) fun e=>eT (fO _).gd fun _=>kZ
  refine have c4:Cs fun(_:Nat) T=>bnd (qF T) fun v=>bnd (d9 T acJ) fun _=>bnd (jw T k) fun e=>ret (Cd.mk 6 v [] [] [] [] [] [] e [] [] []):=nI rA.cs fun v=>eT (iF _) fun _=>eT (nL k) fun e=>kZ;⟨fun ends acc=>iy fun _ T=>(H T).conds ends acc,fun ends=>iy fun _ T=>(H T).some ends,fun ends=> ?_,iy fun _ T=>(H T).block,fun acc=>iy fun _ T=>(H T).alts acc,nI (rU _) fun _=>o1,iy fun _ T=>(H T).acc, ?_⟩
  ·exact nI (m:=fun _ T=>vM T k) W.condC fun c=>eT (m:=fun _ T=>jG T k ends []) (W.conds ends []) fun _=>kZ
  ·exact ng (fun _ _=>is_lt) (c1 2) (ng (fun _ _=>is_lt) (c1 3) (ng (fun _ _=>is_lt) c2 (IJ (c:=fun T i=>bA T i [40]) W.orC (ng (fun _ _=>is_lt) c3 (ng (fun _ _=>is_lt) W.acc (ng (fun _ _=>is_lt) (ajD k) (IJ (c:=fun T i=>dS T i 1&& !bA T (i+1) [58]) c4 (ah3 k))))))))
theorem Yt:Gd fun _ T=>Dm T:=iy fun _ _=>Zi
theorem PI (k:Nat) (l:List (Str×Ex)):Gd fun _ T=>jJ T k l:=iy fun _ _=>Pw l
theorem Ju (k:Nat) (least:Bool):Gd fun _ T=>rG T k least:=iy fun _ _=>Qp
theorem Tp (k:Nat):GdE fun _ T=>iQ T [125] (jJ T k) k []:=uo (one:=fun l _ T=>jJ T k l) (PI k) k []
theorem Aq (a:Act):Gd fun _ T=>og T a:=iy fun _ _=>xU
theorem aiG (k:Nat):Cs fun _ T=>Jb T k:=by
 rw[Sj];exact IJ (c:=fun T i=>bA T i oI||bA T i iw) (Yy Yt fun t=>nI jy.cs fun c=>eT (Ju k false) fun l=>Aq _) (ng (fun _ _=>is_lt) (eT (nL k) fun e=>eT (Ju k true) fun l=>Aq _)
  (ng (fun _ _=>is_lt) (eT (nL k) fun e=>Aq _) (ng (fun _ _=>is_lt) (eT uL.gd fun e=>Aq _) (ng (fun _ _=>is_lt) (eT (nL k) fun e=>Aq _) (nI (Ew _) fun e=>Aq _)))))
theorem ad9:Gd fun _ T=>Qd T:=iy fun _ _=>acy
theorem afR (k:Nat) (r:KR):Gd fun _ T=>oZ T k r:=iy fun _ _=>sh_head k r
theorem acs (k0 k:Nat) (acc:List Act):Gd fun _ T=>wI T k0 k acc:=iy fun _ _=>Ri k0 k acc
theorem Py (l:List Str):Gd fun _ T=>tT T l:=iy fun _ _=>OC l
theorem acX:Gd fun _ T=>r9 T:=iy fun _ _=>Er
theorem Ul:Cs fun _ T=>r9 T:=nI jy.cs (g:=fun nm _ T=>bnd (d9 T [58]) fun _=>Lj nm T) fun nm=>iy fun x T i o v i' o' e=>(aM (a:=0) (b:=0) iL (fun _=>(iO (c:=fun i=>bA T i QH) (m1:=ret _) dP (iO (c:=fun i=>bA T i DZ) (m1:=ret _) dP (iO (c:=fun i=>bA T i Ea) (m1:=ret _) dP
 (iO (c:=fun i=>bA T i vG) (m1:=ret _) dP (iO (c:=fun i=>bA T i Ql) (m1:=ret _) dP (aM iL (fun _=>aM kX (fun _=>dP) rfl) rfl))))):Sh 0 (Lj nm T))) rfl:Sh 0 _) i o v i' o' e
theorem aaM (k:Nat) (first:Bool) (acc:List Nw):Gd fun _ T=>jI T k first acc:=iy fun _ _=>wE k first acc
theorem adu:Gd fun _ T=>RI T:=iy fun _ T=>(aM xM (fun _=>Qh kX dP) rfl:Sh 0 _)
theorem aaR (k:Nat):Gd fun _ T=>rZ T k:=iy fun _ _=>ac9
theorem aey (k:Nat):Gd fun _ T=>wF T k:=iy fun _ _=>afZ
theorem abp (k:Nat):Gd fun _ T=>qG T k:=iy fun _ _=>adi
theorem Gd.gd {α:Type} {m:yD α} (h:Gd m):Gd m:=h
def Tt {α:Type} (R:Nat) (m:yD α):Prop:=∀x T i o,T.length-i≤R→m x T i o≠ .out
section
variable {α β:Type} {R:Nat}
theorem dR {v:α}:Tt R fun _ _=>ret v:=fun _ _ _ _ _ e=>by cases e
theorem afl:Tt R fun x _=>(adS x:PM α):=fun _ _ _ _ _ e=>by cases e
theorem aR {m:yD α} {g:α→yD β} (h:Tt R m) (hm:Gd m) (k:∀v,Tt R (g v)):Tt R fun x T=>bnd (m x T) fun v=>g v x T:=by
 intro x T i o l e;simp only at e;unfold bnd at e;cases e1:m x T i o with
 |ok w i1 o1=>
  rw[e1] at e;have:=hm.mono _ _ _ _ _ _ _ e1;exact k w x T i1 o1 (by omega) e
 |fail y=>rw[e1] at e;cases e
 |out=>exact h x T i o l e1
theorem mO {m:yD α} {g:α→yD β} (h:Tt R m) (hm:Cs m) (k:0<R→∀v,Tt (R-1) (g v)):Tt R fun x T=>bnd (m x T) fun v=>g v x T:=by
 intro x T i o l e;simp only at e;unfold bnd at e;cases e1:m x T i o with
 |ok w i1 o1=>
  rw[e1] at e;have:=hm _ _ _ _ _ _ _ e1;exact k (by omega) w x T i1 o1 (by omega) e
 |fail y=>rw[e1] at e;cases e
 |out=>exact h x T i o l e1
theorem zk {c:List Lx→Nat→Bool} {m1 m2:yD α} (h1:Tt R m1) (h2:Tt R m2):Tt R fun x T i o=>if c T i=true then m1 x T i o else m2 x T i o:=by
 intro x T i o l e;simp only at e;split at e
 ·exact h1 _ _ _ _ l e
 ·exact h2 _ _ _ _ l e
theorem gJ {c:List Lx→Nat→Bool} {m1 m2:yD α} (lt:∀T i,c T i=true→i<T.length) (h1:0<R→Tt (R-1) m1) (h2:Tt R m2):Tt R fun x T i o=>if c T i=true then m1 x T (i+1) o else m2 x T i o:=by
 intro x T i o l e;simp only at e;split at e
 ·rename_i hc;have:=lt _ _ hc;exact h1 (by omega) _ _ _ _ (by omega) e
 ·exact h2 _ _ _ _ l e
theorem ada {c:List Lx→Nat→Bool} {m1:Str→yD α} {m2:yD α} (lt:∀T i,c T i=true→i<T.length) (h1:0<R→∀s,Tt (R-1) (m1 s)) (h2:Tt R m2):Tt R fun x T i o=>if c T i=true then m1 (txt T i) x T (i+1) o else m2 x T i o:=by
 intro x T i o l e;simp only at e;split at e
 ·rename_i hc;have:=lt _ _ hc;exact h1 (by omega) _ _ _ _ _ (by omega) e
 ·exact h2 _ _ _ _ l e
theorem Du {m:yD α} (h:Tt R m):Tt R fun _ T i o=>m i T i o:=fun x T i o l=>h _ _ _ _ l
theorem XU {b:Bool} {m1 m2:yD α} (h1:Tt R m1) (h2:Tt R m2):Tt R fun x T=>if b=true then m1 x T else m2 x T:=by
 cases b
 ·exact h2
 ·exact h1
theorem RZ (w:Str):Tt R fun _ T=>fA T w:=fun x T i o _ e=>by simp only[fA] at e;split at e<;>cases e
theorem jl (w:Str):Tt R fun _ T=>d9 T w:=fun x T i o _ e=>by simp only[SI] at e;split at e<;>cases e
theorem nO:Tt R fun _ T=>iD T:=fun x T i o _ e=>by simp only[iD] at e;split at e<;>cases e
theorem BM:Tt R fun _ T=>qF T:=fun x T i o _ e=>by simp only[qF] at e;split at e<;>cases e
theorem zW:Tt R fun _ T=>jm T:=fun x T i o _ e=>by simp only[jm] at e;split at e<;>cases e
theorem afH:Tt R fun _ T=>Dm T:=fun x T i o _ e=>by cases e
theorem TN:Tt R fun x _=>jc x:=fun x T i o _ e=>by simp only[jc] at e;split at e<;>cases e
theorem VH:Tt R fun _ _=>mG:=fun x T i o _ e=>by cases e
theorem jR (w:Str):Tt R fun _ T=>fB T w:=Du (m:=fun x T=>bnd (d9 T w) fun _=>jc x) (aR (jl w) (iF w) fun _=>TN)
theorem lu (w:Str):Tt R fun _ T=>dH T w:=aR (jl w) (iF w) fun _=>VH
theorem Ae (e:Ex) (l:List Bt):Tt R fun x _=>gY x e l:=by
 unfold gY;split
 ·exact afl
 ·exact dR
end
section
variable {σ:Type}
theorem Ui {w:Str} {one:σ→yD σ} (g:∀s,Gd (one s)):∀(k R:Nat) (s:σ),(∀R',R'≤R→∀s,Tt R' (one s))→R+1≤k→Tt R fun x T=>oW T w (fun s=>one s x T) k false s
 |0,R,s,h,hk=>by omega
 |k+1,R,s,h,hk=>gJ (c:=fun T i=>bA T i [44]) (fun _ _=>is_lt) (m1:=fun x T=>bnd (one s x T) fun v=>oW T w (fun s=>one s x T) k false v) (fun hR=>aR (h _ (by omega) s) (g s) fun v=>Ui g k (R-1) v (fun R' l=>h R' (by omega)) (by omega)) dR
theorem DY {w:Str} {one:σ→yD σ} (g:∀s,Gd (one s)) {k R:Nat} {s:σ} (h:∀R',R'≤R→∀s,Tt R' (one s)) (hk:R+2≤k):Tt R fun x T=>iQ T w (fun s=>one s x T) k s:=by
 obtain⟨k,rfl⟩:∃j,k=j+1:=⟨k-1,by omega⟩;have h1:Tt R fun x T=>oW T w (fun s=>one s x T) (k+1) true s:=
  zk (c:=fun T i=>bA T i w) dR (aR (h R (Nat.le_refl _) s) (g s) fun v=>Ui g k R v h (by omega))
 exact aR h1 (Kj g (k+1) true s) fun v=>aR (lu w) (fO w).gd fun _=>dR
end
structure TtX (k:Nat):Prop where
 level:∀R lv,lv≤5→20*R+13≤k+lv→Tt R fun _ T=>bP T k lv
 ops:∀R lv e,lv≤4→20*R+3≤k→Tt R fun _ T=>qU T k lv e
 sign:∀R,20*R+7≤k→Tt R fun _ T=>jK T k
 post:∀R,20*R+6≤k→Tt R fun _ T=>sJ T k
 dots:∀R e,20*R+1≤k→Tt R fun _ T=>qy T k e
 atom:∀R,20*R+5≤k→Tt R fun _ T=>qA T k
theorem ttx:∀k,TtX k
 |0=>⟨fun R lv _ h=>by omega,fun R lv e _ h=>by omega,fun R h=>by omega,fun R h=>by omega,fun R e h=>by omega,fun R h=>by omega⟩
 |k+1=>by
  have W:=ttx k;have G:=gdx k;have lev:∀R,0<R→20*R+5≤k+1→Tt (R-1) fun _ T=>bP T k 0:=fun R h0 h=>W.level (R-1) 0 (by omega) (by omega);refine⟨fun R lv hl hk=> ?_,fun R lv e hl hk=> ?_,fun R hk=> ?_,fun R hk=> ?_,fun R e hk=> ?_,fun R hk=> ?_⟩
  ·by_cases h5:lv=5
   ·refine(funext fun x=>funext fun T=> ?_:(fun(_:Nat) T=>bP T (k+1) lv)=fun _ T=>jK T k)▸W.sign R (by omega);show(if lv=5 then jK T k else bnd (bP T k (lv+1)) (qU T k lv))=_;rw[if_pos h5]
   ·refine(funext fun x=>funext fun T=> ?_:(fun(_:Nat) T=>bP T (k+1) lv)=fun _ T=>bnd (bP T k (lv+1)) (qU T k lv))▸aR (m:=fun _ T=>bP T k (lv+1)) (g:=fun v _ T=>qU T k lv v) (W.level R _ (by omega) (by omega)) (G.level _) fun v=>W.ops R lv v (by omega) (by omega);show(if lv=5 then jK T k else bnd (bP T k (lv+1)) (qU T k lv))=_;rw[if_neg h5]
  ·have h:=Du (ada (R:=R) (c:=fun T i=>opB T i lv) (m1:=fun s x T=>bnd (bP T k (lv+1)) (fun b=>bnd (gY x (jr ((xQ lv s).getD 0) []) [e,b]) fun e'=>if lv=2 then ret e' else qU T k lv e')) (m2:=fun _ _=>ret e) (fun _ _=>ag9)
    (fun h0 s=>aR (m:=fun _ T=>bP T k (lv+1)) (W.level _ _ (by omega) (by omega)) (G.level _) fun b=>aR (Ae _ _) (Af _ _) (g:=fun e' _ T=>if lv=2 then ret e' else qU T k lv e') fun e'=>by
      by_cases h2:lv=2
      ·simp only[if_pos h2];exact dR
      ·simp only[if_neg h2];exact W.ops _ lv e' hl (by omega)) dR)
   refine(funext fun x=>funext fun T=>funext fun i=>funext fun o=> ?_:(fun(_:Nat) T=>qU T (k+1) lv e)=_)▸h;exact adW
  ·have s1:∀op,0<R→Tt (R-1) fun x T=>bnd (jc x) fun _=>bnd (jK T k) fun e=>bnd mG fun _=>gY x (jr op []) [e]:=fun op h0=>aR TN LZ fun _=>aR (W.sign _ (by omega)) G.sign fun e=>aR VH KQ fun _=>Ae _ _;exact Du (m:=fun x T i o=>if bA T i [45]=true then bnd (jc x) (fun _=>bnd (jK T k) fun e=>bnd mG fun _=>gY x (jr 6 []) [e]) (i+1) o
    else if bA T i [33]=true then bnd (jc x) (fun _=>bnd (jK T k) fun e=>bnd mG fun _=>gY x (jr 7 []) [e]) (i+1) o else sJ T k i o) (gJ (fun _ _=>is_lt) (s1 6) (gJ (fun _ _=>is_lt) (s1 7) (W.post _ (by omega))))
  ·exact aR (m:=fun _ T=>qA T k) (g:=fun v _ T=>qy T k v) (W.atom _ (by omega)) G.atom fun v=>W.dots _ v (by omega)
  ·exact Du (m:=fun x T i o=>if bA T i [46]=true then bnd (iD T) (fun t=>bnd (gY x (jr 4 t) [e]) (qy T k)) (i+1) o else .ok e i o)
    (gJ (fun _ _=>is_lt) (fun h0=>aR nO jy.gd fun t=>aR (Ae _ _) (Af _ _) (g:=fun e' _ T=>qy T k e') fun e'=>W.dots _ e' (by omega)) dR)
  ·
   have a0:Tt R fun _ T i o=>if(dS T i 2&&afm T i)=true then .ok (lit (.mk 2 false (afb (txt T i)) [] [])) (i+1) o else(.fail i:Res Bt):=fun x T i o _ e=>by simp only at e;split at e<;>cases e
   have L0:∀R',R'+1≤R→Tt R' fun _ T=>bP T k 0:=fun R' h=>W.level R' 0 (by omega) (by omega);have a1:Tt R fun _ T=>bnd (fB T [40]) fun _=>bnd (bP T k 0) fun e=>bnd (dH T [41]) fun _=>ret e:=mO (jR _) (rU _) fun h0 _=>aR (m:=fun _ T=>bP T k 0) (L0 _ (by omega)) (G.level 0) fun e=>aR (lu _) (fO _).gd fun _=>dR;have li:0<R→Tt (R-1) fun _ T=>iQ T [93] (fun l=>bnd (bP T k 0) fun b=>ret (l++[b])) k []:=fun h0=>DY (one:=fun l _ T=>bnd (bP T k 0) fun b=>ret (l++[b])) (fun l=>eT (m:=fun _ T=>bP T k 0) (G.level 0) fun b=>kZ)
    (fun R' l s=>aR (m:=fun _ T=>bP T k 0) (L0 _ (by omega)) (G.level 0) fun b=>dR) (by omega)
   have a2:Tt R fun x T=>bnd (fB T [91]) fun _=>bnd (iQ T [93] (fun l=>bnd (bP T k 0) fun b=>ret (l++[b])) k []) fun l=>gY x (jr 5 []) l:=mO (jR _) (rU _) fun h0 _=>aR (li h0) (uo (one:=fun l _ T=>bnd (bP T k 0) fun b=>ret (l++[b])) (fun l=>eT (m:=fun _ T=>bP T k 0) (G.level 0) fun b=>kZ) k []).gd fun l=>Ae _ _;have a3:0<R→Tt (R-1) fun x T=>bnd (fB T [40]) fun _=>bnd (bP T k 0) fun e=>bnd (dH T [41]) fun _=>gY x (jr 21 []) [e]:=fun h0=>aR (jR _) (jU _) fun _=>aR (m:=fun _ T=>bP T k 0) (L0 _ (by omega)) (G.level 0) fun e=>aR (lu _) (fO _).gd fun _=>Ae _ _;have a4:0<R→Tt (R-1) fun x T=>bnd (fB T [40]) fun _=>bnd (bP T k 0) fun a=>bnd (d9 T [44]) fun _=>bnd (bP T k 0) fun b=>bnd (dH T [41]) fun _=>gY x (jr 22 []) [a,b]:=fun h0=>aR (jR _) (jU _) fun _=>aR (m:=fun _ T=>bP T k 0) (L0 _ (by omega)) (G.level 0) fun e=>aR (jl _) (iF _) fun _=>aR (m:=fun _ T=>bP T k 0) (L0 _ (by omega)) (G.level 0) fun b=>aR (lu _) (fO _).gd fun _=>Ae _ _;have a5:Tt R fun _ T=>bnd (qF T) fun t=>ret (⟨jr 2 t,1⟩:Bt):=aR BM rA.gd fun _=>dR;have a6:Tt R fun _ T=>bnd (iD T) fun t=>ret (⟨jr 3 t,1⟩:Bt):=aR nO jy.gd fun _=>dR;rw[Sk];exact Du (zk (c:=fun T i=>dS T i 2) a0 (ada (c:=fun T i=>dS T i 3) (m1:=fun s _ _=>ret (lit (.mk 3 false 0 s []))) (fun _ _=>sO) (fun _ _=>dR) (gJ (m1:=fun _ _=>ret (lit (.mk 1 true 0 [] []))) (fun _ _=>is_lt) (fun _=>dR) (gJ (m1:=fun _ _=>ret (lit (.mk 1 false 0 [] []))) (fun _ _=>is_lt) (fun _=>dR)
    (gJ (m1:=fun _ _=>ret (lit NJ)) (fun _ _=>is_lt) (fun _=>dR) (zk (c:=fun T i=>dS T i 1) a5 (zk (c:=fun T i=>bA T i [40]) a1 (zk (c:=fun T i=>bA T i [91]) a2 (gJ (fun _ _=>is_lt) a3 (gJ (fun _ _=>is_lt) a4 a6))))))))))
theorem vN {R k:Nat} (h:20*R+13≤k):Tt R fun _ T=>jw T k:=aR (m:=fun _ T=>bP T k 0) ((ttx k).level R 0 (by omega) (by omega)) ((gdx k).level 0) fun _=>dR
theorem XV {α:Type} {R:Nat} {a b:List Lx→Nat→Bool} {f:Bool→Bool→Bool} {m1 m2:yD α} (h1:Tt R m1) (h2:Tt R m2):Tt R fun x T i o=>if f (a T i) (b T (i+1))=true then m1 x T i o else m2 x T i o:=by
 intro x T i o l e;simp only at e;split at e
 ·exact h1 _ _ _ _ l e
 ·exact h2 _ _ _ _ l e
section
variable {R k:Nat}
theorem aaX (h:20*R+13≤k) (l:List (Str×Ex)):Tt R fun _ T=>um T k l:=
 XV (f:=fun a b=>a&&b) (a:=fun T i=>dS T i 1) (b:=fun T i=>bA T i [63]) (m1:=fun _ T=>bnd (qF T) fun v=>bnd (d9 T [63]) fun _=>ret (l++[(v,wm)])) (m2:=fun _ T=>bnd (jw T k) fun e=>ret (l++[([],e)]))
  (aR BM rA.gd fun _=>aR (jl _) (iF _) fun _=>dR) (aR (vN h) (nL k) fun _=>dR)
theorem aiM (h:20*R+13≤k):Tt R fun _ T=>Uh T k:=
 aR nO jy.gd fun _=>aR (jR _) (jU _) fun _=>aR (m:=fun _ T=>iQ T [41] (um T k) k []) (DY (one:=fun l _ T=>um T k l) (NV k) (fun R' l s=>aaX (by omega) s) (by omega)) (uo (one:=fun l _ T=>um T k l) (NV k) k []).gd fun _=>dR
theorem abb (h:20*R+13≤k) (s:List (Str×Str)×List Ex):Tt R fun _ T=>qN T k s:=
 XV (f:=fun a b=>a&&b) (a:=fun T i=>dS T i 1) (b:=fun T i=>bA T i [58]) (m1:=fun _ T=>bnd (qF T) fun v=>bnd (d9 T [58]) fun _=>bnd (iD T) fun f=>ret (s.1++[(v,f)],s.2)) (m2:=fun _ T=>bnd (jw T k) fun e=>ret (s.1,s.2++[e]))
  (aR BM rA.gd fun _=>aR (jl _) (iF _) fun _=>aR nO jy.gd fun _=>dR) (aR (vN h) (nL k) fun _=>dR)
theorem Nl (h:20*R+13≤k) (v:Str):Tt R fun _ T=>mQ T k v:=
 aR nO jy.gd fun _=>aR (jR _) (jU _) fun _=>aR (m:=fun _ T=>iQ T [41] (qN T k) k ([],[])) (DY (one:=fun l _ T=>qN T k l) (FY k) (fun R' l s=>abb (by omega) s) (by omega)) (uo (one:=fun l _ T=>qN T k l) (FY k) k ([],[])).gd fun _=>dR
theorem aiw (h:20*R+13≤k):Tt R fun _ T=>SL T k:=
 zk (c:=fun T i=>dS T i 1) (m1:=fun _ T=>bnd (qF T) fun v=>bnd (d9 T [58]) fun _=>mQ T k v) (m2:=fun _ T=>mQ T k []) (aR BM rA.gd fun v=>aR (jl _) (iF _) fun _=>Nl h v) (Nl h [])
end
structure TtC (k:Nat):Prop where
 conds:∀R ends acc,20*R+16≤k→Tt R fun _ T=>jG T k ends acc
 some:∀R ends,20*R+16≤k→Tt R fun _ T=>jN T k ends
 block:∀R,20*R+1≤k→Tt R fun _ T=>nY T k
 alts:∀R acc,20*R+17≤k→Tt R fun _ T=>uy T k acc
 or:∀R,20*R+14≤k→Tt R fun _ T=>orM T k
 acc:∀R,20*R+14≤k→Tt R fun _ T=>NS T k
 cond:∀R,20*R+15≤k→Tt R fun _ T=>vM T k
theorem ttc:∀k,TtC k
 |0=>⟨fun R _ _ h=>by omega,fun R _ h=>by omega,fun R h=>by omega,fun R _ h=>by omega,fun R h=>by omega,fun R h=>by omega,fun R h=>by omega⟩
 |k+1=>by
  have W:=ttc k;refine have G:=gdc k;⟨fun R ends acc hk=> ?_,fun R ends hk=> ?_,fun R hk=> ?_,fun R acc hk=> ?_,fun R hk=> ?_,fun R hk=> ?_,fun R hk=> ?_⟩
  ·exact zk (c:=fun T i=>ends.any fun w=>bA T i w) dR (mO (m:=fun _ T=>vM T k) (g:=fun c _ T=>jG T k ends (acc++[c])) (W.cond R (by omega)) G.condC fun h0 c=>W.conds _ _ _ (by omega))
  ·exact mO (m:=fun _ T=>vM T k) (g:=fun c _ T=>bnd (jG T k ends []) fun l=>ret (c :: l)) (W.cond R (by omega)) G.condC fun h0 c=>aR (m:=fun _ T=>jG T k ends []) (W.conds _ _ _ (by omega)) (G.conds ends []) fun _=>dR
  ·exact mO (jR _) (rU _) fun h0 _=>aR (m:=fun _ T=>jN T k [[41]]) (W.some _ _ (by omega)) (G.some _) fun l=>aR (lu _) (fO _).gd fun _=>dR
  ·exact mO (m:=fun _ T=>jN T k [Xj,[41]]) (W.some _ _ (by omega)) (G.someC _) fun h0 l=>aR (RZ Xj) (Sb Xj) fun b=>XU (m1:=fun _ T=>uy T k (acc++[l])) (W.alts _ _ (by omega)) dR
  ·exact mO (jR _) (rU _) fun h0 _=>mO (m:=fun _ T=>jN T k [Xj,[41]]) (W.some _ _ (by omega)) (G.someC _) fun h1 l=>aR (jl _) (iF _) fun _=>aR (m:=fun _ T=>uy T k [l]) (W.alts _ _ (by omega)) (G.alts _) fun a=>aR (lu _) (fO _).gd fun _=>dR
  ·exact mO (jR _) (rU _) fun h0 _=>aR BM rA.gd fun v=>aR (jl _) (iF _) fun _=>aR (RZ _) (Sb _) fun b=>aR (m:=fun _ T=>if b=true then ret vG else iD T) (XU (m1:=fun _ _=>ret vG) dR nO) (ajr (m1:=fun _ _=>ret vG) kZ jy.gd) fun fn=>
    aR (jR _) (jU _) fun _=>aR (vN (by omega)) (nL k) fun e=>aR (lu _) (fO _).gd fun _=>aR (jl _) (iF _) fun _=>aR (m:=fun _ T=>jN T k [[41]]) (W.some _ _ (by omega)) (G.some _) fun l=>aR (lu _) (fO _).gd fun _=>dR
  ·have c1:∀n,0<R→Tt (R-1) fun(_:Nat) T=>bnd (nY T k) fun l=>ret (SS n l):=fun n h0=>aR (m:=fun _ T=>nY T k) (W.block _ (by omega)) G.block fun _=>dR;have c2:0<R→Tt (R-1) fun(_:Nat) T=>bnd (fB T [40]) fun _=>bnd (jN T k [[59]]) fun l=>bnd (d9 T [59]) fun _=>bnd (jN T k [[41]]) fun m=>bnd (dH T [41]) fun _=>ret (Cd.mk 4 [] [] [] [] l m [] wm [] [] []):=fun h0=>
    aR (jR _) (jU _) fun _=>aR (m:=fun _ T=>jN T k [[59]]) (W.some _ _ (by omega)) (G.some _) fun l=>aR (jl _) (iF _) fun _=>aR (m:=fun _ T=>jN T k [[41]]) (W.some _ _ (by omega)) (G.some _) fun m=>aR (lu _) (fO _).gd fun _=>dR
   have c3:0<R→Tt (R-1) fun(_:Nat) T=>bnd (fB T [40]) fun _=>bnd (jw T k) fun e=>bnd (dH T [41]) fun _=>ret (Cd.mk 8 [] [] [] [] [] [] [] e [] [] []):=fun h0=>
    aR (jR _) (jU _) fun _=>aR (vN (by omega)) (nL k) fun e=>aR (lu _) (fO _).gd fun _=>dR
   exact have c4:Tt R fun(_:Nat) T=>bnd (qF T) fun v=>bnd (d9 T acJ) fun _=>bnd (jw T k) fun e=>ret (Cd.mk 6 v [] [] [] [] [] [] e [] [] []):=aR BM rA.gd fun v=>aR (jl _) (iF _) fun _=>aR (vN (by omega)) (nL k) fun e=>dR;gJ (fun _ _=>is_lt) (c1 2) (gJ (fun _ _=>is_lt) (c1 3) (gJ (fun _ _=>is_lt) c2 (zk (c:=fun T i=>bA T i [40]) (W.or _ (by omega)) (gJ (fun _ _=>is_lt) c3 (gJ (fun _ _=>is_lt) (fun h0=>W.acc _ (by omega)) (gJ (fun _ _=>is_lt) (fun h0=>aiM (by omega)) (XV (f:=fun a b=>a&& !b) (a:=fun T i=>dS T i 1) (b:=fun T i=>bA T i [58]) c4 (aiw (by omega)))))))))
section
variable {R k:Nat}
theorem abR (h:20*R+13≤k) (l:List (Str×Ex)):Tt R fun _ T=>jJ T k l:=aR nO jy.gd fun f=>aR (jl _) (iF _) fun _=>aR (vN h) (nL k) fun e=>dR
theorem ZX (h:20*R+13≤k):Tt R fun _ T=>iQ T [125] (jJ T k) k []:=DY (one:=fun l _ T=>jJ T k l) (PI k) (fun R' l s=>abR (by omega) s) (by omega)
theorem YK (h:20*R+13≤k) (least:Bool):Tt R fun _ T=>rG T k least:=by
 have g:Gd fun(_:Nat) T i o=>if least=true then bnd (yK (!bA T i [125])) (fun _=>iQ T [125] (jJ T k) k []) i o else iQ T [125] (jJ T k) k [] i o:=by
  cases least with
  |false=>exact(Tp k).gd
  |true=>
   have h:=akP (c:=fun T i=>bA T i [125]) ac4 (Tp k).gd;have e:(fun(_:Nat) T i o=>if true=true then bnd (yK (!bA T i [125])) (fun _=>iQ T [125] (jJ T k) k []) i o else iQ T [125] (jJ T k) k [] i o)=fun(_:Nat) T i o=>if bA T i [125]=true then .fail i else iQ T [125] (jJ T k) k [] i o:=by
    funext x T i o
    rw[if_pos rfl];exact JA
   rw[e];exact h
 refine aR (jR _) (jU _) (g:=fun _ _ T i o=>if least=true then bnd (yK (!bA T i [125])) (fun _=>iQ T [125] (jJ T k) k []) i o else iQ T [125] (jJ T k) k [] i o) fun _=>fun x T i o l e=>?_
 cases least with
 |false=>exact ZX h x T i o l e
 |true=>
  have e:bnd (yK (!bA T i [125])) (fun _=>iQ T [125] (jJ T k) k []) i o= .out:=e;rw[JA] at e;split at e
  ·cases e
  ·exact ZX h x T i o l e
theorem Dw (a:Act):Tt R fun _ T=>og T a:=aR (jl _) (iF _) fun _=>dR
theorem aip (h:20*R+13≤k):Tt R fun _ T=>Jb T k:=by
 rw[Sj];have i1:Tt R fun(_:Nat) T=>bnd (Dm T) fun t=>bnd (iD T) fun c=>bnd (rG T k false) fun l=>og T ⟨if t=iw then 2 else 1,c,l,wm,[]⟩:=aR afH Yt fun t=>aR nO jy.gd fun c=>aR (YK h false) (Ju k false) fun l=>Dw _
 have i2:0<R→Tt (R-1) fun(_:Nat) T=>bnd (jw T k) fun e=>bnd (rG T k true) fun l=>og T ⟨3,[],l,e,[]⟩:=fun h0=>aR (vN (by omega)) (nL k) fun e=>aR (YK (by omega) true) (Ju k true) fun l=>Dw _;have i3:∀n,0<R→Tt (R-1) fun(_:Nat) T=>bnd (jw T k) fun e=>og T ⟨n,[],[],e,[]⟩:=fun n h0=>aR (vN (by omega)) (nL k) fun e=>Dw _;have i4:0<R→Tt (R-1) fun(_:Nat) T=>bnd (jm T) fun t=>og T ⟨5,[],[],wm,t⟩:=fun h0=>aR zW uL.gd fun e=>Dw _;exact have i5:Tt R fun(_:Nat) T=>bnd (d9 T YI) fun _=>og T ⟨7,[],[],wm,[]⟩:=aR (jl _) (iF _) fun e=>Dw _;zk (c:=fun T i=>bA T i oI||bA T i iw) i1 (gJ (fun _ _=>is_lt) i2 (gJ (fun _ _=>is_lt) (i3 4) (gJ (fun _ _=>is_lt) i4 (gJ (fun _ _=>is_lt) (i3 6) i5))))
theorem aiY:Tt R fun _ T=>Qd T:=by
 intro x T i o _ e;simp only[Qd] at e;obtain⟨b,i1,o1,e1⟩:∃b i1 o1,fA T [45] i o= .ok b i1 o1:=by unfold fA;split<;>exact⟨_,_,_,rfl⟩
 rw[apM e1] at e;split at e
 ·split at e
  ·split at e<;>cases e
  ·cases e
 ·cases e
end
theorem Ar:∀(k R:Nat) (r:KR),R+1≤k→Tt R fun _ T=>oZ T k r
 |0,R,_,h=>by omega
 |k+1,R,r,h=>gJ (c:=fun T i=>bA T i KP) (fun _ _=>is_lt) (m1:=fun _ _=>ret r) (fun _=>dR) (gJ (fun _ _=>is_lt) (m1:=fun _ T=>bnd (Qd T) fun n=>oZ T k {r with sal:=n}) (fun h0=>aR aiY ad9 fun n=>Ar k _ _ (by omega))
  (gJ (fun _ _=>is_lt) (m1:=fun _ T=>bnd (jm T) fun t=>oZ T k {r with group:=t}) (fun h0=>aR zW uL.gd fun n=>Ar k _ _ (by omega)) (gJ (fun _ _=>is_lt) (m1:=fun _ T=>bnd (jm T) fun t=>oZ T k {r with flow:=t}) (fun h0=>aR zW uL.gd fun n=>Ar k _ _ (by omega))
  (gJ (fun _ _=>is_lt) (m1:=fun _ T=>oZ T k {r with noloop:=true}) (fun h0=>Ar k _ _ (by omega)) (m2:=fun _ T=>bnd (d9 T ag8) fun _=>oZ T k {r with lock:=true}) (mO (jl _) (Ew _) fun h0 n=>Ar k _ _ (by omega))))))
theorem ZY (k0:Nat):∀(k R:Nat) (acc:List Act),R+1≤k→20*R+13≤k0→Tt R fun _ T=>wI T k0 k acc
 |0,R,_,h,_=>by omega
 |k+1,R,acc,h,h0=>gJ (c:=fun T i=>bA T i Kn) (fun _ _=>is_lt) (m1:=fun _ _=>ret acc) (fun _=>dR) (mO (m:=fun _ T=>Jb T k0) (g:=fun a _ T=>wI T k0 k (acc++[a])) (aip h0) (aiG k0) fun hR a=>ZY k0 k _ _ (by omega) (by omega))
theorem af7 {R k:Nat} (h:20*R+16≤k):Tt R fun _ T=>wF T k:=
 aR zW uL.gd fun nm=>aR (m:=fun _ T=>oZ T k ⟨nm,0,[],[],false,false,[],[]⟩) (Ar k _ _ (by omega)) (afR k _) fun r=>aR (m:=fun _ T=>jG T k [Iq] []) ((ttc k).conds _ _ _ (by omega)) ((gdc k).conds _ _) fun w=>aR (jl _) (iF _) fun _=>
  aR (m:=fun _ T=>wI T k k []) (ZY k k _ _ (by omega) (by omega)) (acs k k []).gd fun _=>dR
theorem abD {R:Nat} (l:List Str):Tt R fun _ T=>tT T l:=aR BM rA.gd fun _=>dR
theorem aeB {R k:Nat} (h:20*R+16≤k):Tt R fun _ T=>qG T k:=
 aR nO jy.gd fun nm=>aR (jR _) (jU _) fun _=>aR (m:=fun _ T=>iQ T [41] (tT T) k []) (DY (one:=fun l _ T=>tT T l) Py (fun R' l s=>abD s) (by omega)) (uo (one:=fun l _ T=>tT T l) Py k []).gd fun ps=>
  aR (m:=fun _ T=>jG T k [Kn] []) ((ttc k).conds _ _ _ (by omega)) ((gdc k).conds _ _) fun w=>aR (jl _) (iF _) fun _=>dR
theorem MR {R:Nat}:Tt R fun _ T=>r9 T:=aR nO jy.gd (g:=fun nm _ T=>bnd (d9 T [58]) fun _=>Lj nm T) fun nm=>aR (jl _) (iF _) (g:=fun _ _ T=>Lj nm T) fun _=>
 gJ (c:=fun T i=>bA T i QH) (fun _ _=>is_lt) (m1:=fun _ _=>ret (⟨nm,2,[]⟩:Nw)) (fun _=>dR) (gJ (c:=fun T i=>bA T i DZ) (fun _ _=>is_lt) (m1:=fun _ _=>ret (⟨nm,1,[]⟩:Nw)) (fun _=>dR) (gJ (c:=fun T i=>bA T i Ea) (fun _ _=>is_lt) (m1:=fun _ _=>ret (⟨nm,3,[]⟩:Nw)) (fun _=>dR)
  (gJ (c:=fun T i=>bA T i vG) (fun _ _=>is_lt) (m1:=fun _ _=>ret (⟨nm,4,[]⟩:Nw)) (fun _=>dR) (gJ (c:=fun T i=>bA T i Ql) (fun _ _=>is_lt) (m1:=fun _ _=>ret (⟨nm,0,[]⟩:Nw)) (fun _=>dR) (aR (jl afh) (iF afh) (g:=fun _ _ T=>bnd (iD T) fun c=>ret (⟨nm,5,c⟩:Nw)) fun _=>aR nO jy.gd fun c=>dR)))))
theorem HZ:∀(k R:Nat) (acc:List Nw),R+1≤k→Tt R fun _ T=>jI T k false acc
 |0,R,_,h=>by omega
 |k+1,R,acc,h=>gJ (c:=fun T i=>bA T i [44]) (fun _ _=>is_lt) (fun h0=>aR (g:=fun f _ T=>jI T k false (acc++[f])) MR acX fun f=>HZ k _ _ (by omega)) (zk (c:=fun T i=>qP T i) (mO (g:=fun f _ T=>jI T k false (acc++[f])) MR Ul fun h0 f=>HZ k _ _ (by omega)) dR)
theorem XD {k R:Nat} {acc:List Nw} (h:R+1≤k):Tt R fun _ T=>jI T k true acc:=by
 obtain⟨k,rfl⟩:∃j,k=j+1:=⟨k-1,by omega⟩;exact zk (c:=fun T i=>bA T i [125]) dR (mO (g:=fun f _ T=>jI T k false (acc++[f])) MR Ul fun h0 f=>HZ k _ _ (by omega))
theorem acz {R:Nat}:Tt R fun _ T=>RI T:=aR (RZ _) (Sb _) fun b=>XU (m1:=fun _ T=>iD T) nO dR
theorem ac8 {R k:Nat} (h:R+1≤k):Tt R fun _ T=>rZ T k:=
 aR nO jy.gd fun nm=>aR acz adu fun su=>aR (jR _) (jU _) fun _=>aR (m:=fun _ T=>jI T k true []) (XD h) (aaM k true []) fun fs=>aR (lu _) (fO _).gd fun _=>dR
theorem Jl (k0:Nat):∀(k R:Nat) (b:NQ),R+1≤k→20*R+16≤k0→Tt R fun _ T=>jB T k0 k b
 |0,R,_,h,_=>by omega
 |k+1,R,b,h,h0=>by
  intro x T i o l e;have e:(if i<T.length then
   (if bA T i xG=true then bnd (rZ T k0) (fun c=>jB T k0 k {b with classes:=b.classes++[c]}) (i+1) o
   else if bA T i Io=true then bnd (wF T k0) (fun r=>jB T k0 k {b with rules:=b.rules++[r]}) (i+1) o
   else bnd (d9 T J5) (fun _=>bnd (qG T k0) fun q=>jB T k0 k {b with queries:=b.queries++[q]}) i o)
  else .ok b i o)= .out:=e
  split at e
  ·refine(gJ (c:=fun T i=>bA T i xG) (fun _ _=>is_lt) (m1:=fun _ T=>bnd (rZ T k0) fun c=>jB T k0 k {b with classes:=b.classes++[c]}) (fun hR=>aR (m:=fun _ T=>rZ T k0) (g:=fun c _ T=>jB T k0 k {b with classes:=b.classes++[c]}) (ac8 (by omega)) (aaR k0).gd fun c=>Jl k0 k _ _ (by omega) (by omega))
    (gJ (fun _ _=>is_lt) (m1:=fun _ T=>bnd (wF T k0) fun r=>jB T k0 k {b with rules:=b.rules++[r]}) (fun hR=>aR (m:=fun _ T=>wF T k0) (g:=fun r _ T=>jB T k0 k {b with rules:=b.rules++[r]}) (af7 (by omega)) (aey k0).gd fun c=>Jl k0 k _ _ (by omega) (by omega))
    (m2:=fun _ T=>bnd (d9 T J5) fun _=>bnd (qG T k0) fun q=>jB T k0 k {b with queries:=b.queries++[q]}) (mO (jl _) (Ew _) (g:=fun _ _ T=>bnd (qG T k0) fun q=>jB T k0 k {b with queries:=b.queries++[q]}) fun hR _=>aR (m:=fun _ T=>qG T k0) (g:=fun q _ T=>jB T k0 k {b with queries:=b.queries++[q]}) (aeB (by omega)) (abp k0).gd fun c=>Jl k0 k _ _ (by omega) (by omega)))) x T i o l e
  ·cases e
def acg (kk:Nat) (s:Str):Except Nat NQ:=match Fz s with
 | .error e=> .error e
 | .ok T=>match Bl T kk 0 0 with
   | .ok b _ _=> .ok b
   | .fail i=> .error (Px T s.length i)
   | .out=> .error 0
def afU (s:Str):Except Nat NQ:=acg 100000 s
theorem afW {T:List Lx} (h:T.length≤4096):Bl T 100000 0 0≠ .out:=by
 intro e;unfold Bl bnd at e;have h1:=Jl 100000 100000 4096 ⟨[],[],[]⟩ (by omega) (by omega) 0 T 0 0 (by omega);simp only at h1;cases hb:jB T 100000 100000 ⟨[],[],[]⟩ 0 0 with
 |ok b i o=>
  rw[hb] at e;simp only at e;split at e<;>cases e
 |fail i=>rw[hb] at e;cases e
 |out=>exact h1 hb
section
variable {h h':ah} {L:gB} {S:List Sl} {F:List (ah→Prop)} {n kk:Nat} {s:Str} {K:aK}
theorem aoE {bx:Nat} (hk:kk≤100000) (hn:4*kk+130≤n) (hn2:s.length+30≤n) (hb:∀b∈s,b<256) (hs:s.length≤60000) (hg:GvF∈F) (A:Cx h (vr bx Xk :: L) S F)
 (H1:∀e,Fz s= .error e→∀h,Cx h (vr bx Xk :: L) S F→K (.tup [.int .i64 (e:Int), .int .i64 20]) h=true)
 (H2:∀T,Fz s= .ok T→∀tv,OkP K T s.length bx L S (agi tv T :: F) (Bl T kk 0 0)):ak E n (.func 18) [.str s, .fn (.func 19) [] [.ptr bx 0 0 0]] h K=true:=by
 obtain⟨n,rfl⟩:∃m,n=m+1:=⟨n-1,by omega⟩;apply d18;unfold s18;refine cp7 hb (by omega) (by omega) A ?_;cases hl:Fz s with
 |error e=>
  exact fun h A=>aD rfl<|jY (kg (Hl (jC<|bN (H1 e hl h A))))
 |ok T=>
  refine fun h u A=>aD rfl<|jY (kg (Hl (jC<|bE (ql<|aqE hk (by omega) (List.mem_cons_self) (List.mem_cons_of_mem _ hg) A (ZF hs hl)<|Post.mono (H2 T hl u) ?_ ?_))))
  ·exact fun b i o H h c A=>aD rfl<|jY (kg (H h c A))
  ·exact fun x H h c A=>aD rfl<|jY (kg (H h c A))
theorem acU {id m:Nat} {c:List AV} {x y:AV} (V:Var h id c) (hc:c.length=m) (s:K (.tup [.agg c,x,y]) h=true):gI (fF h [(.ptr id 0 0 0,some (true,m)),(x,none),(y,none)]) h K=true:=by
 have e:dL h true m (.ptr id 0 0 0)=some (.agg c):=by
  rw[V.load];simp only[mM,cond_true];rw[aI.2 (by omega),cond_true,List.drop_zero,List.take_of_length_le (by omega)]
 simp only[fF,e];exact s
def aiv (L:gB) (S:List Sl) (F:List (ah→Prop)) (K:aK):Except Nat NQ→Prop
 | .ok b=>∀h c,Cx h L S ((fun h=>I8 h c b) :: F)→K (.tup [.agg c, .int .i64 0, .int .i64 0]) h=true
 | .error e=>∀h,Cx h L S F→K (.tup [.agg Xk, .int .i64 (e:Int), .int .i64 20]) h=true
theorem c6k (hk:kk≤100000) (hn:4*kk+140≤n) (hn2:s.length+40≤n) (hb:∀b∈s,b<256) (hs:s.length≤60000) (hg:GvF∈F) (A:Cx h L S F)
 (ht:∀T,Fz s= .ok T→Bl T kk 0 0≠ .out) (H:aiv L S F K (acg kk s)):ak E n (.func 10) [.str s] h K=true:=by
 obtain⟨n,rfl⟩:∃m,n=m+1:=⟨n-1,by omega⟩;apply d10;unfold s10;refine pG A rfl rfl rfl fun a h A=>bO A rfl rfl rfl fun bx h A=>have A:=A.swapL;bU ?_
 have bad:∀e,aiv L S F K (.error e)→∀h c,Cx h (vr bx c :: vr a Xk :: L) S F→pz K (fun v4 h=>zu (ak E n) n (.ptr a 0 0 0) (.ptr bx 0 0 0) v4 h K) (.tup [.int .i64 (e:Int), .int .i64 20]) h=true:=by
  exact fun e H h c A=>aD rfl<|jY (kg (jC (bN (dO rfl<|gF A rfl rfl rfl rfl fun h A=>acU A.v1 rfl<|H h A.rest.rest))))
 refine aoE hk (by omega) (by omega) hb hs hg A (fun e hl h A=> ?_) fun T hl tv=> ?_
 ·refine bad e ?_ h _ A;unfold acg at H;rw[hl] at H;exact H
 ·have hT:=ht T hl;unfold acg at H;rw[hl] at H;unfold OkP Post;cases hf:Bl T kk 0 0 with
  |out=>exact absurd hf hT
  |fail x=>
   simp only[hf] at H;exact fun h c A=>bad _ H h c A.dJ
  |ok b i o=>
   simp only[hf] at H;intro h c A;exact have⟨w1,w2⟩:=(A.f0:I8 h c b).cells;aD rfl<|jY (kg (jC (bE<|fJ A.var w1<|gF A rfl w1 rfl w2 fun h A=>acU A.v1 w1<|H h c A.rest.rest.drop1)))
theorem cp6 (hn:400200≤n) (hb:∀b∈s,b<256) (hs:s.length≤60000) (hg:GvF∈F) (A:Cx h L S F) (H:aiv L S F K (afU s)):ak E n (.func 10) [.str s] h K=true:=
 c6k (kk:=100000) (by omega) (by omega) (by omega) hb hs hg A (fun T hl=>afW (ZF hs hl).len) H
end
end Go.Proofs.YtbijepcediaghaaGreatDoor
