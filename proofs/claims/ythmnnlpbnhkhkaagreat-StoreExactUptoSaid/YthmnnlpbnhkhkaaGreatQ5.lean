/-
  Texts that the claim hangs on, part 6.
-/
import Derived.Test.YthmnnlpbnhkhkaaGreatQ4
set_option linter.unusedSimpArgs false
set_option linter.unusedVariables false
namespace Go.Proofs.YthmnnlpbnhkhkaaGreat
open Go.Ab
section
variable {B:Nat} {τ τ':Nat→Tag} {o:Nat} {h0 h h':aj} {T:SD} {i:IK} {r:RD} {K:aC} {n:Nat} {k hd:Int} {x:FD}
theorem SO.aside {S:PT→Prop} (O:SO B τ o h0 h T) (f:Fr (XS τ o S) h h') (ok:h'.Ok) (n1:¬S .p) (n2:¬S .fm) (n3:¬S .bm) (n4:¬S .sm) (n5:∀i,¬S (.rb i)∧¬S (.rl i)) (n6:∀k x,(k,x)∈T.fs→¬S (.f k)∧¬S (.st k)):SO B τ o h0 h' T∧St o τ τ h h':=
 ⟨O.step f ok (O.tg f.sz) rfl rfl rfl rfl (f.var O.var (iy O.tp n1)) (f.kmap O.fs (iy O.tf n2)) (f.kmap O.by' (iy O.tb n3)) (f.kmap O.same (iy O.ts n4)) (fun k x hk=>O.f' f (O.tg f.sz) (n6 k x hk).1 (n6 k x hk).2 hk) fun i r hr=>O.r' f (O.tg f.sz) (n5 i).1 (n5 i).2 hr,
  ok,f.mono fun j ⟨t,_,e⟩=>⟨t,e⟩,fun _ _=>rfl,fun j hj=> .inl (O.hi j hj)⟩
theorem SO.wf (O:SO B τ o h0 h T) (hn:jm T.fs hd=none) (f:Fr (fun j=>τ j= .own o (.f hd)∨τ j= .own o (.st hd)) h h') (ok:h'.Ok):SO B τ o h0 h' T∧St o τ τ h h':=by
 refine O.aside (S:=fun t=>t= .f hd∨t= .st hd) (f.mono fun j e=> ?_) ok (by simp) (by simp) (by simp) (by simp) (by simp) fun k x hk=> ?_
 ·rcases e with e |e
  ·exact⟨_, .inl rfl,e⟩
  ·exact⟨_, .inr rfl,e⟩
 ·have:k≠hd:=fun e=>by rw[xS] at hn;exact hn (by rw[←e];exact List.mem_map.2 ⟨_,hk,rfl⟩)
  simp[this]
theorem SO.putS (O:SO B τ o h0 h T) {nx ck:Nat} (f:But T.p h h') (ok:h'.Ok) (V:Var h' T.p [T.tb, .int .i64 T.most, .int .i64 (nx:Int), .int .i64 (ck:Int), .map T.fm, .ptr T.all.id 0 0 0, .map T.bm, .map T.sm]):SO B τ o h0 h' {T with next:=nx,clock:=ck}∧St o τ τ h h':=
 ⟨O.put (Fr.of_but rfl f) ok V,ok,Fr.of_but ⟨_,O.tp⟩ f,fun _ _=>rfl,fun j hj=> .inl (O.hi j hj)⟩
theorem SO.addF (O:SO B τ o h0 h T) (f:But T.fm h h') (ok:h'.Ok) (M:kK uy h' T.fm (up (mp fp T.fs) hd (fp x))) (F:FO B τ o h hd x):SO B τ o h0 h' {T with fs:=nT T.fs hd x}∧St o τ τ h h':=by
 have f':Fr (XS τ o fun t=>t= .fm) h h':=Fr.of_but ⟨_,rfl,O.tf⟩ f
 refine⟨O.step (T':={T with fs:=nT T.fs hd x}) f' ok (O.tg f.sz) rfl rfl rfl rfl (f'.var O.var (iy O.tp nofun)) (by rw[Un, ←vR] at M;exact M) (f'.kmap O.by' (iy O.tb nofun)) (f'.kmap O.same (iy O.ts nofun)) (fun k y hk=> ?_) fun i r hr=>O.r' f' (O.tg f.sz) nofun nofun hr,
  ok,Fr.of_but ⟨_,O.tf⟩ f,fun _ _=>rfl,fun j hj=> .inl (O.hi j hj)⟩
 rcases uG hk with e |e
 ·cases e
  exact F.fr O.ok f' (fun j q=>⟨KT q,zh nofun q,zh nofun q⟩) fun _ _=>rfl
 ·exact O.f' f' (O.tg f.sz) nofun nofun e
theorem xC {T':SD} {P:Int→Prop} (R:Rs T T' i P) (j:IK) (y:Int):jr T' j y↔if j=i then P y else jr T j y:=by
 by_cases e:j=i
 ·rw[if_pos e,e];exact R.at' y
 ·rw[if_neg e];unfold jr;rw[R.ne j e]
theorem zN:∀{l:List Int} {a N:Int},N8 l→(∀y∈l,a<y∧y≤N)→a≤N→(l.length:Int)≤N-a
 | [],a,N,_,_,h=>by simp;omega
 |y :: l,a,N,s,b,h=>by
  have hy:=b y List.mem_cons_self
  have:=zN (l:=l) (a:=y) (N:=N) (List.pairwise_cons.1 s).2 (fun z hz=>⟨(List.pairwise_cons.1 s).1 z hz,(b z (List.mem_cons_of_mem _ hz)).2⟩) hy.2
  rw[List.length_cons];omega
abbrev zV:Val:= .mk 0 false 0 [] []
theorem Nh (Q:Nat→Prop) (h:aj):DX Q h z5 zV:=fun h' _=>RV.of ⟨[],View.nil _ _, .nil⟩ ⟨⟨by decide,by decide⟩,⟨by decide,by decide⟩,nofun⟩
theorem Js {α β:Type} {R:α→β→Prop} {a:α} {b:β} (r:R a b):∀n,gM R (List.replicate n a) (List.replicate n b)
 |0=> .nil
 |n+1=> .cons r (Js r n)
end
def Hit:IK→FD→Prop
 | .all,_=>True
 | .c s,x=>x.cls=s
 | .k q,x=>keyOf x=q
structure SI (cs:List Cls) (b:Nat) (T:SD):Prop where
 ks:(T.fs.map fun p=>p.1).Pairwise (· < ·)
 kb:∀k x,(k,x)∈T.fs→1≤k∧k≤T.next
 rw:∀i y,jr T i y↔∃x,jm T.fs y=some x∧Hit i x
 fc:∀k x,(k,x)∈T.fs→(idx x.cls (names cs)).isSome∧x.vs.length=(fieldsOf cs x.cls).length∧x.stamps.length=x.vs.length∧∀v∈x.vs,jg v≤b
theorem CU {b:Nat}:∀{l:List Val},(∀v∈l,jg v≤b)→fU l≤l.length*b
 | [],_=>by simp[fU]
 |v :: l,h=>by
  have h1:=h v List.mem_cons_self
  have h2:=CU (l:=l) fun w hw=>h w (List.mem_cons_of_mem _ hw)
  simp only[fU,List.length_cons]
  rw[Nat.succ_mul];omega
theorem EW {P:Val→Prop} {cs:List Cls} {fs:List lK} {of:Int→Option Str}:∀{gs:List (Str×Val)} {m:Nat} {vs vs':List Val},(∀v∈vs,P v)→(∀p∈gs,P p.2)→rE cs fs of gs m vs=some vs'→∀v∈vs',P v
 | [],m,vs,vs',h1,h2,h=>by simp only[rE,Option.some.injEq] at h;subst h;exact h1
 |p :: t,m,vs,vs',h1,h2,h=>by
  simp only[rE] at h
  split at h
  ·cases h
  ·split at h
   ·cases h
   ·split at h
    ·cases h
    ·refine EW (fun v hv=> ?_) (fun q hq=>h2 q (List.mem_cons_of_mem _ hq)) h
     rcases List.mem_or_eq_of_mem_set hv with e |e
     ·exact h1 v e
     ·rw[e];exact h2 p List.mem_cons_self
theorem Dz {P:Val→Prop} {cs:List Cls} {nm:Str} {of:Int→Option Str} {gs:List (Str×Val)} {vs vs':List Val} (h1:∀v∈vs,P v) (h2:∀p∈gs,P p.2) (h:given cs nm of gs vs=some vs'):∀v∈vs',P v:=by
 unfold given at h
 split at h
 ·cases h
 ·exact EW h1 h2 h
structure aey (T T':SD) (name:Str) (vs:List Val) (st:Bool):Prop where
 fs:∃x,T'.fs=T.fs++[(((T.next+1:Nat):Int),x)]∧x.cls=name∧x.vs=vs∧x.stated=st∧x.born=T.clock+1∧x.stamps=List.replicate vs.length ((T.clock+1:Nat):Int)
 sc:T'.p=T.p∧T'.tb=T.tb∧T'.most=T.most∧T'.next=T.next+1∧T'.clock=T.clock+1
 rw:∀i y,jr T' i y↔jr T i y∨(y=((T.next+1:Nat):Int)∧(i= .all∨i= .c name∨i= .k (name,nV vs)))
section
variable {B b:Nat} {τ:Nat→Tag} {o:Nat} {h0 h:aj} {T:SD} {K:aC} {n:Nat} {Q:Nat→Prop} {sv:AV} {cs:List Cls} {name:Str} {gs:List (Str×Val)} {st:Bool}
theorem SI.len (I:SI cs b T) (O:SO B τ o h0 h T) {i:IK} {r:RD} (hr:T.row i=some r):r.l.length≤T.next:=by
 have:=zN (a:=0) (N:=T.next) (O.r i r hr).rn.srt (fun y hy=>by
  obtain⟨x,e,_⟩:=(I.rw i y).1 ⟨r,hr,hy⟩
  have:=I.kb y x (gU e);omega) (by omega)
 omega
theorem SI.fresh (I:SI cs b T):jm T.fs ((T.next+1:Nat):Int)=none:=by
 cases e:jm T.fs ((T.next+1:Nat):Int) with
 |none=>rfl
 |some x=>have:=I.kb _ x (gU e);omega
theorem SI.nin (I:SI cs b T) {i:IK} {r:RD} (hr:T.row i=some r):((T.next+1:Nat):Int) ∉ r.l:=fun q=>by
 obtain⟨x,e,_⟩:=(I.rw i _).1 ⟨r,hr,q⟩
 rw[I.fresh] at e;cases e
theorem Ru (i L:Nat) (c:Int) (h:i<L):(ints (List.replicate i c++List.replicate (L-i) 0)).set i [AV.int .i64 c]=ints (List.replicate (i+1) c++List.replicate (L-(i+1)) 0):=by
 have e1:L-i=(L-(i+1))+1:=by omega
 rw[e1,List.replicate_succ,List.replicate_succ',oW,oW,oW]
 have hl:(ints (List.replicate i c)).length=i:=by rw[dN,List.length_replicate]
 rw[List.set_append_right _ _ (by omega),hl,Nat.sub_self,List.append_assoc]
 rfl
theorem Sr {τ0:Nat→Tag} {h00:aj} {T0:SD} {x:FD} (I:SI cs b T0) (O:SO B τ o h0 h T) (s0:St o τ0 τ h00 h) (O0:SO B τ0 o h0 h00 T0)
 (eq:T={T0 with fs:=T0.fs++[(((T0.next+1:Nat):Int),x)],next:=T0.next+1,clock:=T0.clock+1})
 (hN:T0.next<500000) (hB:B<1000000000) (hn:B+3000000≤n) (hL:n+100<lim)
 (kk:∀h' τ' T',SO B τ' o h0 h' T'→St o τ0 τ' h00 h'→T'={T with all:=T'.all,by':=T'.by',same:=T'.same}→(∀i y,jr T' i y↔jr T i y∨(y=((T0.next+1:Nat):Int)∧(i= .all∨i= .c x.cls∨i= .k (keyOf x))))→K (.tup [.int .i64 ((T0.next+1:Nat):Int), .int .i64 0]) h'=true):
 (aD E (n+7) (.func 28) [.ptr T.all.id 0 0 0, .int .i64 ((T0.next+1:Nat):Int)] h fun v80 h=>ah (bK (.ptr T.p 0 0 0)) fun v81=>ah (aH 6 v81) fun v82=>ah (au h false 1 v82) fun v83=>ah (fC h (.leaf .str) false .nilPtr v83 (.str x.cls)) fun v84=>ah (ru h false .ptr v84 .nilPtr) fun v85=>aZ v85 (ah (bK (.ptr T.p 0 0 0)) fun v86=>ah (aH 6 v86) fun v87=>ah (au h false 1 v87) fun xZ=>aD E (n+7) (.func 29) [] h fun v89 h=>fA (au h false 1 v87) xZ <| bP (unit (kQ h (.leaf .str) xZ (.str x.cls) v89)) fun _ h=>Ch (aD E (n+7)) (n+7) (.ptr T.p 0 0 0) (.str x.cls) (.ptr x.id 0 0 0) h K) (Ch (aD E (n+7)) (n+7) (.ptr T.p 0 0 0) (.str x.cls) (.ptr x.id 0 0 0) h K))=true:=by
 have hsm:small ((T0.next+1:Nat):Int):=⟨by omega,by omega⟩
 generalize hhd:((T0.next+1:Nat):Int)=hd at *
 have hr:∀i,T.row i=T0.row i:=fun i=>by rw[eq];cases i<;>rfl
 have hlen:∀i r,T0.row i=some r→r.l.length≤500000:=fun i r e=>by have:=I.len O0 e;omega
 have hnin:∀i r,T0.row i=some r→hd ∉ r.l:=fun i r e=>by rw[←hhd];exact I.nin e
 have hx:(hd,x)∈T.fs:=by rw[eq];simp
 refine Gb (n:=n+4) (i:= .all) O rfl hsm (by have:=hnin .all T.all (by rw[←hr];rfl);exact this) (by have:=hlen .all T.all (by rw[←hr];rfl);omega) (by have:=hlen .all T.all (by rw[←hr];rfl);omega) fun h1 τ1 r1 O1 s1 i1 m1=> ?_
 have S1:=tX (T:=T) (i:= .all) (r':=r1) m1
 generalize hT1:T.setRow .all r1=T1 at *
 have t1:T1.p=T.p∧T1.bm=T.bm∧T1.fs=T.fs:=by rw[S1.eq];exact⟨rfl,rfl,rfl⟩
 have R1:∀i,i≠ .all→T1.row i=T0.row i:=fun i e=>by rw[S1.ne i e,hr]
 have L6:∀{h' τ' T'},SO B τ' o h0 h' T'→T'.p=T.p→T'.bm=T.bm→au h' false 1 (.ptr T.p 0 0 6)=some (.map T.bm):=fun O e1 e2=>by rw[←e1, ←e2];exact O.l6
 have fin:∀h2 τ2 T2 r2,SO B τ2 o h0 h2 T2→St o τ0 τ2 h00 h2→T2={T with all:=T2.all,by':=T2.by',same:=T2.same}→T2.row (.c x.cls)=some r2→(∀y,y∈r2.l↔jr T0 (.c x.cls) y)→(∀i,i≠ .all→i≠ .c x.cls→T2.row i=T0.row i)→(∀y,jr T2 .all y↔y=hd∨jr T0 .all y)→
  Ch (aD E (n+7)) (n+7) (.ptr T.p 0 0 0) (.str x.cls) (.ptr x.id 0 0 0) h2 K=true:=by
  intro h2 τ2 T2 r2 O2 s2 e2 hr2 m2 n2 a2
  unfold Ch
  have p2:T2.p=T.p:=by rw[e2]
  have b2:T2.bm=T.bm:=by rw[e2]
  have hx2:(hd,x)∈T2.fs:=by rw[e2];exact hx
  have F2:=O2.f hd x hx2
  have lk2:fC h2 (.leaf .str) false .nilPtr (.map T.bm) (.str x.cls)=some (.ptr r2.id 0 0 0):=by rw[←b2];exact O2.lkb hr2
  have nin2:hd ∉ r2.l:=fun q=>by
   obtain⟨r,e,q⟩:=(m2 hd).1 q
   exact hnin _ r e q
  have len2:r2.l.length≤500000:=by
   have:=zN (a:=0) (N:=T0.next) (O2.r _ r2 hr2).rn.srt (fun y hy=>by
    obtain⟨z,e,_⟩:=(I.rw _ y).1 ((m2 y).1 hy)
    have:=I.kb y z (gU e);omega) (by omega)
   omega
  refine aN ?_;refine aA ?_;refine aF (L6 O2 p2 b2) ?_;refine aF lk2 ?_;refine aN ?_;refine aA ?_;refine aF F2.l0 ?_
  refine Gb (n:=n+4) O2 hr2 hsm nin2 (by omega) (by omega) fun h3 τ3 r3 O3 s3 i3 m3=> ?_
  have S3:=tX (T:=T2) (i:= .c x.cls) (r':=r3) m3
  generalize hT3:T2.setRow (.c x.cls) r3=T3 at *
  have p3:T3.p=T.p:=by rw[S3.eq];exact p2
  have f3:T3.fs=T.fs:=by rw[S3.eq,e2]
  have hx3:(hd,x)∈T3.fs:=by rw[f3];exact hx
  have hk3:T3.row (.k (keyOf x))=T0.row (.k (keyOf x)):=by rw[S3.ne (.k (keyOf x)) nofun,n2 (.k (keyOf x)) nofun nofun]
  rw[←p3]
  refine aaF (n:=n+2) O3 hx3 hsm (fun r e=>hnin _ r (by rw[←hk3];exact e)) (fun r e=>by have:=hlen _ r (by rw[←hk3];exact e);omega) (by omega) (by omega) (by omega) fun h4 τ4 T4 O4 s4 S4=> ?_
  have F4:=O4.f hd x (by rw[S4.eq];exact hx3)
  refine aN ?_;refine aA ?_;refine aF F4.l0 ?_
  refine kk h4 τ4 T4 O4 ((s2.trans O0.ok s3).trans O0.ok s4) (by rw[S4.eq,S3.eq,e2]) fun i y=> ?_
  rw[xC S4]
  by_cases e1:i= .k (keyOf x)
  ·subst e1
   rw[if_pos rfl]
   have:jr T (.k (keyOf x)) y↔∃r,T3.row (.k (keyOf x))=some r∧y∈r.l:=by unfold jr;rw[hr,hk3]
   rw[this]
   simp only[reduceCtorEq,false_or,and_true]
   exact Or.comm
  ·rw[if_neg e1,xC S3]
   by_cases e2:i= .c x.cls
   ·subst e2
    rw[if_pos rfl,m2]
    have:jr T (.c x.cls) y↔jr T0 (.c x.cls) y:=by unfold jr;rw[hr]
    rw[this]
    simp only[reduceCtorEq,false_or,or_false,and_true]
    exact Or.comm
   ·rw[if_neg e2]
    by_cases e3:i= .all
    ·subst e3
     have:jr T .all y↔jr T0 .all y:=by unfold jr;rw[hr]
     rw[a2,this]
     simp only[true_or,and_true]
     exact Or.comm
    ·have h1:jr T2 i y↔jr T0 i y:=by unfold jr;rw[n2 i e3 e2]
     have h2:jr T i y↔jr T0 i y:=by unfold jr;rw[hr]
     rw[h1,h2]
     simp only[e1,e2,e3,or_self,and_false,or_false]
 have s01:=s0.trans O0.ok s1
 have a1:∀y,jr T1 .all y↔y=hd∨jr T0 .all y:=fun y=>by
  rw[xC S1,if_pos rfl]
  have:jr T0 .all y↔y∈T.all.l:=by
   unfold jr;rw[←hr]
   constructor
   ·rintro⟨r,e,q⟩;cases e;exact q
   ·exact fun q=>⟨_,rfl,q⟩
  rw[this]
 refine aN ?_;refine aA ?_;refine aF (L6 O1 t1.1 t1.2.1) ?_
 have rc:=R1 (.c x.cls) nofun
 cases hc:T1.row (.c x.cls) with
 |some r=>
  have lk1:fC h1 (.leaf .str) false .nilPtr (.map T.bm) (.str x.cls)=some (.ptr r.id 0 0 0):=by rw[←t1.2.1];exact O1.lkb hc
  refine aF lk1 ?_;refine bn ?_;refine bO ?_
  refine fin h1 τ1 T1 r O1 s01 S1.eq hc (fun y=> ?_) (fun i e1 _=>R1 i e1) a1
  unfold jr
  rw[←rc,hc]
  constructor
  ·exact fun q=>⟨r,rfl,q⟩
  ·rintro⟨r',e,q⟩;cases e;exact q
 |none=>
  have lk1:fC h1 (.leaf .str) false .nilPtr (.map T.bm) (.str x.cls)=some .nilPtr:=by rw[←t1.2.1];exact O1.lkb0 hc
  refine aF lk1 ?_;refine bA ?_;refine bN ?_;refine aN ?_;refine aA ?_;refine aF (L6 O1 t1.1 t1.2.1) ?_
  refine X8 O1.ok fun h2 e2 o2 z2 V2=> ?_
  have O2:=O1.ext e2 o2
  refine fQ (L6 O2 t1.1 t1.2.1) (Aq _) ?_
  obtain⟨h3,u1,u2,u3,u4,u5⟩:=O2.by'.upd strKeys x.cls (.ptr h1.sz 0 0 0)
  rw[t1.2.1] at u1
  refine lq u1 ?_
  have lbm:=O1.by'.lt O1.ok
  obtain⟨τ3,O3,s3⟩:=O1.newBy (s:=x.cls) hc ((Fr.of_ext e2).trans (Fr.of_but rfl u2)) (u4 o2) (u2.var V2 (by omega)) u5
  have S3:=tX (T:=T1) (i:= .c x.cls) (r':=⟨h1.sz, .nilSlc,[]⟩) (P:=fun _=>False) fun y=>by simp
  refine fin h3 τ3 _ ⟨h1.sz, .nilSlc,[]⟩ O3 (s01.trans O0.ok s3) (by rw[S3.eq,S1.eq]) (by rw[oD,if_pos rfl]) (fun y=> ?_) (fun i e1 e2=>by rw[S3.ne i e2,R1 i e1]) fun y=>by rw[xC S3,if_neg nofun];exact a1 y
  unfold jr
  rw[←rc,hc]
  simp
end
def zeros (fs:List lK):List Val:=List.replicate fs.length zV
section
variable {B b:Nat} {τ:Nat→Tag} {o:Nat} {h0 h:aj} {T:SD} {K:aC} {n:Nat} {Q:Nat→Prop} {sv:AV} {cs:List Cls} {name:Str} {gs:List (Str×Val)} {st:Bool}
theorem abZ (O:SO B τ o h0 h T) (I:SI cs b T) (TR:fJ h0 T.tb cs) (A:Asc cs) (hcs:cs.length≤64) (hfs:∀s,(fieldsOf cs s).length≤62)
 (S:Sq Q h sv gs) (hQ:∀j,Q j→j<h.sz) (hgB:∀p∈gs,jg p.2≤b) (hb1:1≤b) (hb:62*b≤B)
 (hN:T.next<500000) (hC:T.clock<500000) (hB:B<1000000000) (hn:B+3000000≤n) (hL:n+200<lim)
 (k1:idx name (names cs)=none→∀h',Ext h h'→h'.Ok→K (.tup [.int .i64 0, .int .i64 10]) h'=true)
 (k2:(idx name (names cs)).isSome→given cs name (zX T) gs (zeros (fieldsOf cs name))=none→∀h',Ext h h'→h'.Ok→K (.tup [.int .i64 0, .int .i64 11]) h'=true)
 (k3:∀vs,(idx name (names cs)).isSome→given cs name (zX T) gs (zeros (fieldsOf cs name))=some vs→T.most≤T.fs.length→∀h',Ext h h'→h'.Ok→K (.tup [.int .i64 0, .int .i64 12]) h'=true)
 (k4:∀vs,(idx name (names cs)).isSome→given cs name (zX T) gs (zeros (fieldsOf cs name))=some vs→T.fs.length<T.most→∀h' τ' T',SO B τ' o h0 h' T'→St o τ τ' h h'→SI cs b T'→aey T T' name vs st→K (.tup [.int .i64 ((T.next+1:Nat):Int), .int .i64 0]) h'=true):
 aD E (n+8) (.func 8) [.ptr T.p 0 0 0, .str name,sv, .bool st] h K=true:=by
 have hlm:lim=4611686018427387904:=rfl
 have hmo:most=1099511627776:=rfl
 apply d8
 unfold s8
 have hf62:=hfs name
 refine aN ?_;refine aA ?_;refine aF O.l0 ?_
 refine u16 (n:=n+5) (TR.ext O.e) A O.ok (by omega) (by omega) (fun e=> ?_) fun ci h1 v hi e1 o1 V1=> ?_
 ·refine aJ ?_;refine aK ?_;refine aY ?_
  rw[show(!decide ((10:Int)=0))=true from rfl]
  refine bN ?_
  exact k1 e h (Ext.refl _) O.ok
 have his:(idx name (names cs)).isSome:=by rw[hi];rfl
 refine aJ ?_;refine aK ?_;refine aY ?_
 rw[show(!decide ((0:Int)=0))=false from rfl]
 refine bO ?_
 unfold Rh
 have O1:=O.ext e1 o1
 have vlen:∀h',dw h' 1 v=some (.int .i64 ((fieldsOf cs name).length:Int)):=fun h'=>by
  rcases V1 with⟨q,rfl |rfl⟩|⟨id,g,s,cap,ex,r,rfl,_⟩
  ·have:(fieldsOf cs name).length=0:=by have:=congrArg List.length q;simpa using this
   rw[this];rfl
  ·have:(fieldsOf cs name).length=0:=by have:=congrArg List.length q;simpa using this
   rw[this];rfl
  ·simp[dw]
 have hof:zX T=zX T:=rfl
 generalize hF:fieldsOf cs name=F at *
 have si:∀x:Int,AV.same (.int .i64 x) (.int .i64 x)=true:=fun x=>oJ _ _
 refine aF (vlen h1) ?_;refine aF (vlen h1) ?_
 obtain⟨vv,h2,q2,M2,r2,e2,o2,z2⟩:=TH (n:=5) (i:=F.length) (by':=64) (z:=z5) o1 rfl (by decide) rfl (by omega) (by omega)
 refine iW q2 ?_
 refine fQ (vlen h2) (si _) ?_
 refine fQ (vlen h2) (si _) ?_
 obtain⟨sw,h3,q3,M3,r3,e3,o3,z3⟩:=TH (n:=1) (i:=F.length) (by':=8) (z:=[AV.int .i64 0]) o2 rfl (by decide) rfl (by omega) (by omega)
 refine iW q3 ?_
 refine fQ (vlen h3) (si _) ?_
 refine fQ (vlen h3) (si _) ?_
 have lvv:vv.leaf=true:=M2.view.leaf
 have lsw:sw.leaf=true:=M3.view.leaf
 have hbv:eP [.int .i64 0, .str [], .nilSlc, .bool false, .int .i64 0, .nilSlc] [(1,1,(AV.str name)),(3,1,(AV.bool st)),(2,1,vv),(5,1,sw)]=some (.agg [.int .i64 0, .str name,vv, .bool st, .int .i64 0,sw]):=by
  have c1:=jV lvv
  have c2:=jV lsw
  have cc3:(AV.str name).cells=[AV.str name]:=rfl
  have cc4:(AV.bool st).cells=[AV.bool st]:=rfl
  simp only[eP,wP,c1,c2,cc3,cc4,List.length_cons,List.length_nil,aV,lvv,lsw,lay]
  rfl
 refine aF hbv ?_
 obtain⟨h4,b4,V4,e4,o4,z4⟩:=kZ (n:=6) (v:= .agg [.int .i64 0, .str name,vv, .bool st, .int .i64 0,sw]) o3 rfl (by decide) (by show aV [.int .i64 0, .str name,vv, .bool st, .int .i64 0,sw]=true;simp only[aV,lvv,lsw];rfl)
 refine iW b4 ?_
 refine fQ (vlen h4) (si _) ?_
 refine fQ (vlen h4) (si _) ?_
 have V4:Var h4 h3.sz [.int .i64 0, .str name,vv, .bool st, .int .i64 0,sw]:=V4
 have A2:au h4 false 1 (.ptr h3.sz 0 0 2)=some vv:=V4.get rfl
 refine aN ?_;refine aA ?_;refine aF A2 ?_
 have s1:=e1.1
 have e14:Ext h1 h4:=bH (bH e2 e3) e4
 have rvv:∀j,bL vv j→j=h1.sz:=r2
 generalize hhd:((T.next+1:Nat):Int)=hd at *
 have hfr:jm T.fs hd=none:=by rw[←hhd];exact I.fresh
 let τ2:Nat→Tag:=gI (gI τ (fun j=>j=h3.sz) (.own o (.f hd))) (bL sw) (.own o (.st hd))
 have t2f:τ2 h3.sz= .own o (.f hd):=by
  show gI (gI τ (fun j=>j=h3.sz) (.own o (.f hd))) (bL sw) (.own o (.st hd)) h3.sz=_
  rw[dS fun q=>by have:=r3 _ q;omega];exact gL (P:=fun j=>j=h3.sz) rfl
 have t2s:∀j,bL sw j→τ2 j= .own o (.st hd):=fun j q=>gL q
 have t2o:∀j,j≠h3.sz→¬bL sw j→τ2 j=τ j:=fun j a q=>by
  show gI (gI τ (fun j=>j=h3.sz) (.own o (.f hd))) (bL sw) (.own o (.st hd)) j=_
  rw[dS q,dS (P:=fun j=>j=h3.sz) a]
 have rsw:∀j,bL sw j→j=h2.sz:=r3
 have old2:∀j,j<h1.sz→τ2 j=τ j:=fun j hj=>t2o j (by omega) fun q=>by have:=rsw j q;omega
 have new2:∀j,h4.sz≤j→τ2 j= .out:=fun j hj=>by rw[t2o j (by omega) fun q=>by have:=rsw j q;omega];exact O1.hi j (by omega)
 have O4:SO B (gI τ2 (bL vv) .dat) o h0 h4 T:=O1.fr (Fr.of_ext (X:=fun _=>False) e14) o4 (fun _ x=>x.elim) ⟨fun j hj=>by rw[dS fun q=>by have:=rvv j q;omega];exact old2 j hj,fun j hj=>by
  rw[dS fun q=>by have:=rvv j q;omega];exact new2 j hj⟩
 have hzl:(zeros F).length=F.length:=by simp[zeros]
 have S4:Sq Q h4 sv gs:=fun h' L=>S h' ((Lt.of_ext (bH e1 e14)).trans L)
 have fall:∀h5,Fr (fun j=>F≠[]∧bL vv j) h4 h5→Ext h1 h5:=fun h5 f5=>f5.ext e14 o1 fun j q=>by have:=rvv j q.2;omega
 refine aay (n:=n+2) (vals:=zeros F) O4 TR A hcs hi (by rw[hF];exact hf62) S4 (fun p hp=>by have:=hgB p hp;omega) (by rw[hF];exact hzl) (fun _=>⟨⟨_,(M2.ext e3).ext e4,Js (Nh _ _) _⟩,fun j q=>gL q,fun j q w=>by have:=rvv j q;have:=hQ j w;omega⟩) (by omega) (by omega) (by omega) ?_ ?_
 ·intro hg h5 O5 f5
  rw[hF] at f5
  refine aM ?_;refine bN ?_
  exact k2 his hg h5 (bH e1 (fall h5 f5)) O5.ok
 intro vs hg hvl h5 O5 f5 W5
 rw[hF] at f5 W5
 have e15:=fall h5 f5
 have O5':=O1.ext e15 O5.ok
 have flen:dw h5 2 (.map T.fm)=some (.int .i64 (T.fs.length:Int)):=by have:=O5.fs.len;simpa[mp] using this
 refine aL ?_;refine bO ?_;refine aN ?_;refine aA ?_;refine aF O5.l4 ?_;refine aF flen ?_;refine aN ?_;refine aA ?_;refine aF O5.l1 ?_;refine bg ?_
 by_cases hfull:T.most≤T.fs.length
 ·rw[decide_eq_true hfull]
  refine bN ?_
  exact k3 vs his hg hfull h5 (bH e1 e15) O5.ok
 rw[decide_eq_false hfull]
 refine bO ?_
 unfold Sn
 have s5:=f5.sz
 have tg2:Tg τ τ2 h1 h5:=⟨old2,fun j hj=>new2 j (by omega)⟩
 have P5:SO B τ2 o h0 h5 T:=O1.fr (Fr.of_ext (X:=fun _=>False) e15) O5.ok (fun _ x=>x.elim) tg2
 have st5:St o τ τ2 h h5:=⟨O5.ok,Fr.of_ext (bH e1 e15),fun j hj=>old2 j (by omega),fun j hj=>by
  by_cases w1:j=h3.sz
  ·exact .inr ⟨⟨_,by rw[w1];exact t2f⟩,by omega⟩
  ·by_cases w2:bL sw j
   ·exact .inr ⟨⟨_,t2s j w2⟩,by have:=rsw j w2;omega⟩
   ·left;rw[t2o j w1 w2];exact O.hi j hj⟩
 have D5:DV (Out τ2) h5 vv vs:=by
  have t1o:∀j,j<h5.sz→Out (gI τ2 (bL vv) .dat) j→Out τ2 j:=fun j _ q=>by
   have q:gI τ2 (bL vv) .dat j= .out:=q
   by_cases w:bL vv j
   ·rw[gL w] at q;cases q
   ·rwa [dS w] at q
  have tvv:∀j,bL vv j→Out τ2 j:=fun j q=>by
   have e:=rvv j q
   show τ2 j= .out
   rw[t2o j (by omega) fun q=>by have:=rsw j q;omega];exact O1.hi j (by omega)
  by_cases hF0:F=[]
  ·subst hF0
   have hv0:vs=[]:=by apply List.eq_nil_of_length_eq_zero;rw[hvl,hzl];rfl
   have M5:=((M2.ext e3).ext e4).fr f5 fun j _ w=>w.1 rfl
   subst hv0
   exact⟨_,M5.view,tvv, .nil⟩
  ·obtain⟨es,M5,D⟩:=W5 hF0
   exact⟨es,M5.view,tvv,D.mono fun _ _ r=>r.fr (Lt.refl _ _) O5.ok t1o⟩
 have V5:Var h5 h3.sz [.int .i64 0, .str name,vv, .bool st, .int .i64 0,sw]:=f5.var V4 fun q=>by have:=rvv _ q.2;omega
 have M5:Mr h5 1 sw (List.replicate F.length [AV.int .i64 0]):=(M3.ext e4).fr f5 fun j q w=>by have:=rvv _ w.2;have:=rsw _ q;omega
 have lp:T.p<h1.sz:=O1.var.lt o1
 have lf:T.fm<h1.sz:=O1.fs.lt o1
 refine aN ?_;refine aA ?_;refine aF P5.l3 ?_;refine aF (dV (i:=T.clock) (by omega)) ?_;refine aN ?_;refine aA ?_
 obtain⟨h6,w6,V6,b6,o6,z6⟩:=P5.var.wr P5.ok (off:=3) (v:= .int .i64 ((T.clock+1:Nat):Int)) (show 3<8 by decide) rfl
 refine lq w6 ?_
 obtain⟨P6,s6⟩:=P5.putS (nx:=T.next) (ck:=T.clock+1) b6 o6 V6
 refine aN ?_;refine aA ?_;refine aF P6.l2 ?_;refine aF (dV (i:=T.next) (by omega)) ?_;refine aN ?_;refine aA ?_
 obtain⟨h7,w7,V7,b7,o7,z7⟩:=P6.var.wr P6.ok (off:=2) (v:= .int .i64 ((T.next+1:Nat):Int)) (show 2<8 by decide) rfl
 refine lq w7 ?_
 obtain⟨P7,s7⟩:=P6.putS (nx:=T.next+1) (ck:=T.clock+1) b7 o7 V7
 have P7:SO B τ2 o h0 h7 {T with next:=T.next+1,clock:=T.clock+1}:=P7
 have hT1:∃T1:SD,T1={T with next:=T.next+1,clock:=T.clock+1}:=⟨_,rfl⟩
 obtain⟨T1,hT1⟩:=hT1
 rw[←hT1] at P7
 have p1:T1.p=T.p:=by rw[hT1]
 have fs1:T1.fs=T.fs:=by rw[hT1]
 have L2:∀{g},SO B τ2 o h0 g T1→au g false 1 (.ptr T.p 0 0 2)=some (.int .i64 hd):=fun P=>by have:=P.l2;rw[hT1] at this;rw[←hhd];exact this
 have L3:∀{g},SO B τ2 o h0 g T1→au g false 1 (.ptr T.p 0 0 3)=some (.int .i64 ((T.clock+1:Nat):Int)):=fun P=>by have:=P.l3;rw[hT1] at this;exact this
 generalize hc:((T.clock+1:Nat):Int)=c at *
 have ZI:=(st5.trans O.ok s6).trans O.ok s7
 have D7:DV (Out τ2) h7 vv vs:=(D5.st P5.ok s6).st P6.ok s7
 have V7':Var h7 h3.sz [.int .i64 0, .str name,vv, .bool st, .int .i64 0,sw]:=b7.var (b6.var V5 (by omega)) (show h3.sz≠T.p by omega)
 have M7:Mr h7 1 sw (List.replicate F.length [AV.int .i64 0]):=(M5.fr (X:=fun j=>j=T.p) (Fr.of_but rfl b6) fun j q e=>by have:=rsw j q;omega).fr (X:=fun j=>j=T.p) (Fr.of_but rfl b7) fun j q e=>by have:=rsw j q;omega
 have hfr1:jm T1.fs hd=none:=by rw[fs1];exact hfr
 refine aN ?_;refine aA ?_;refine aF (L2 P7) ?_;refine aN ?_;refine aA ?_;refine aF (L3 P7) ?_;refine aN ?_;refine aA ?_
 obtain⟨h8,w8,V8,b8,o8,z8⟩:=V7'.wr o7 (off:=0) (v:= .int .i64 hd) (show 0<6 by decide) rfl
 refine lq w8 ?_
 obtain⟨P8,s8⟩:=P7.wf hfr1 (Fr.of_but (.inl t2f) b8) o8
 have D8:=D7.st P7.ok s8
 have M8:=M7.fr (X:=fun j=>j=h3.sz) (Fr.of_but rfl b8) fun j q e=>by have:=rsw j q;omega
 refine aN ?_;refine aA ?_
 obtain⟨h9,w9,V9,b9,o9,z9⟩:=V8.wr o8 (off:=4) (v:= .int .i64 c) (show 4<6 by decide) rfl
 refine lq w9 ?_
 obtain⟨P9,s9⟩:=P8.wf hfr1 (Fr.of_but (.inl t2f) b9) o9
 have D9:=D8.st P8.ok s9
 have M9:=M8.fr (X:=fun j=>j=h3.sz) (Fr.of_but rfl b9) fun j q e=>by have:=rsw j q;omega
 have V9:Var h9 h3.sz [.int .i64 hd, .str name,vv, .bool st, .int .i64 c,sw]:=V9
 have ZN:=(ZI.trans O.ok s8).trans O.ok s9
 have A5:au h9 false 1 (.ptr h3.sz 0 0 5)=some sw:=V9.get rfl
 have len9:dw h9 1 sw=some (.int .i64 (F.length:Int)):=by have:=M9.view.len;rwa [List.length_replicate] at this
 refine aN ?_;refine aA ?_;refine aF A5 ?_;refine aF len9 ?_
 clear s6 s7 s8 s9 D5 D7 D8 M5 M7 M8 V5 V7' V8 P5 P6 P8
 suffices H:∀m i g,F.length-i<m→i≤F.length→SO B τ2 o h0 g T1→St o τ τ2 h g→Var g h3.sz [.int .i64 hd, .str name,vv, .bool st, .int .i64 c,sw]→Mr g 1 sw (ints (List.replicate i c++List.replicate (F.length-i) 0))→DV (Out τ2) g vv vs→
  IL (aD E (n+7)) (n+7) m (.ptr T.p 0 0 0) (.str name) (.ptr h3.sz 0 0 0) (.int .i64 (F.length:Int)) (.int .i64 (i:Int)) g K=true from
  H (n+7) 0 h9 (by omega) (Nat.zero_le _) P9 ZN V9 (by rw[List.replicate_zero,List.nil_append,Nat.sub_zero];simpa[ints] using M9) D9
 intro m
 induction m with
 |zero=>intro i g hm;omega
 |succ m ih=>
  intro i g hm hi P s V M D
  unfold IL Qp
  refine aT ?_
  by_cases hlt:i<F.length
  ·refine iM (decide_eq_true (by omega)) ?_
   have A5:au g false 1 (.ptr h3.sz 0 0 5)=some sw:=V.get rfl
   have hil:i<(ints (List.replicate i c++List.replicate (F.length-i) 0)).length:=by rw[dN];simp;omega
   obtain⟨id3,g3,i1,i2,g',i3,M',b',z',o'⟩:=M.set (x:= .int .i64 c) (List.getElem?_eq_getElem hil) (by simp[ints]) rfl rfl
   refine aN ?_;refine aA ?_;refine aF A5 ?_;refine aN ?_;refine aA ?_;refine aF (L3 P) ?_;refine aF (i1 .i64) ?_;refine lq i3 ?_;refine aF (dV (i:=i) (by omega)) ?_
   obtain⟨P',s'⟩:=P.wf hfr1 (Fr.of_but (.inr (t2s _ i2)) b') (o' P.ok)
   have M':Mr g' 1 sw (ints (List.replicate (i+1) c++List.replicate (F.length-(i+1)) 0)):=by rw[←Ru i F.length c hlt];exact M'
   exact ih (i+1) g' (by omega) (by omega) P' (s.trans O.ok s') (b'.var V (by have:=rsw _ i2;omega)) M' (D.st P.ok s')
  ·refine iF (decide_eq_false (by omega)) ?_
   have hiF:i=F.length:=by omega
   subst hiF
   rw[Nat.sub_self,List.replicate_zero,List.append_nil] at M
   unfold Tj
   have L4:au g false 1 (.ptr T.p 0 0 4)=some (.map T.fm):=by have:=P.l4;rw[hT1] at this;exact this
   have A0:au g false 1 (.ptr h3.sz 0 0 0)=some (.int .i64 hd):=V.get rfl
   refine aN ?_;refine aA ?_;refine aF L4 ?_;refine aN ?_;refine aA ?_;refine aF A0 ?_
   have hvF:vs.length=F.length:=by rw[hvl,hzl]
   have hvb:∀v∈vs,jg v≤b:=Dz (P:=fun v=>jg v≤b) (fun v hv=>by rw[List.eq_of_mem_replicate hv];exact hb1) hgB hg
   have hvB:fU vs≤B:=by
    have h1:=CU hvb
    have h2:vs.length*b≤62*b:=Nat.mul_le_mul_right b (by omega)
    omega
   let x:FD:=⟨h3.sz,name,vv,vs,st,T.clock+1,sw,List.replicate F.length c⟩
   have FX:FO B τ2 o g hd x:=⟨t2f,by rw[←hc] at V;exact V,D,hvB,M,t2s⟩
   obtain⟨g1,u1,u2,u3,u4,u5⟩:=P.fs.upd intKeys hd (.ptr h3.sz 0 0 0)
   have ef:T1.fm=T.fm:=by rw[hT1]
   have u1':kQ g (.leaf .int) (.map T.fm) (.int .i64 hd) (.ptr h3.sz 0 0 0)=some g1:=by rw[←ef];exact u1
   refine lq u1' ?_
   obtain⟨PP,sP⟩:=P.addF (x:=x) u2 (u4 P.ok) u5 FX
   have hup:nT T1.fs hd x=T.fs++[(hd,x)]:=by rw[xE hfr1,fs1]
   have F1:=PP.f hd x (by show(hd,x)∈nT T1.fs hd x;rw[hup];simp)
   have L5:au g1 false 1 (.ptr T.p 0 0 5)=some (.ptr T.all.id 0 0 0):=by have:=PP.l5;rw[hT1] at this;exact this
   have A0:au g1 false 1 (.ptr h3.sz 0 0 0)=some (.int .i64 hd):=F1.l0
   refine aN ?_;refine aA ?_;refine aF L5 ?_;refine aN ?_;refine aA ?_;refine aF A0 ?_
   have hT2:{T1 with fs:=nT T1.fs hd x}={T with fs:=T.fs++[(((T.next+1:Nat):Int),x)],next:=T.next+1,clock:=T.clock+1}:=by rw[hup,hT1,hhd]
   rw[hT2] at PP
   have ir:=Sr (n:=n) (K:=K) I PP (s.trans O.ok sP) O rfl (by omega) (by omega) (by omega) (by omega) fun h' τ' T' O' s' eq' rows=> ?_
   ·rw[hhd] at ir
    exact ir
   rw[hhd] at eq' rows ⊢
   have hrT:∀i y,jr T' i y↔jr T i y∨(y=hd∧(i= .all∨i= .c name∨i= .k (name,nV vs))):=fun i y=>by
    rw[rows i y]
    refine or_congr (Iff.of_eq ?_) Iff.rfl
    unfold jr
    have:({T with fs:=T.fs++[(hd,x)],next:=T.next+1,clock:=T.clock+1}:SD).row i=T.row i:=by cases i<;>rfl
    rw[this]
   have fs':T'.fs=T.fs++[(hd,x)]:=by rw[eq']
   have fsu:T'.fs=nT T.fs hd x:=by rw[fs',xE hfr]
   refine k4 vs his hg (by omega) h' τ' T' O' s' ⟨?_,fun k y hk=> ?_,fun i y=> ?_,fun k y hk=> ?_⟩ ⟨⟨x,by rw[fs',hhd],rfl,rfl,rfl,rfl,by rw[hvF,hc]⟩,⟨by rw[eq'],by rw[eq'],by rw[eq'],by rw[eq'],by rw[eq']⟩,by rw[hhd];exact hrT⟩
   ·rw[fs',List.map_append,List.pairwise_append]
    refine⟨I.ks,by simp,fun a ha z hz=> ?_⟩
    obtain⟨⟨k,y⟩,hk,rfl⟩:=List.mem_map.1 ha
    have:=I.kb k y hk
    simp only[List.map_cons,List.map_nil,List.mem_singleton] at hz
    rw[hz];show k<hd;omega
   ·have hn:T'.next=T.next+1:=by rw[eq']
    rw[hn]
    rw[fs'] at hk
    rcases List.mem_append.1 hk with hk |hk
    ·have:=I.kb k y hk;omega
    ·simp only[List.mem_singleton,Prod.mk.injEq] at hk
     rw[hk.1];omega
   ·rw[hrT,fsu,sK,I.rw]
    by_cases e:y=hd
    ·rw[if_pos e]
     subst e
     constructor
     ·rintro(⟨z,q,_⟩|⟨_,q⟩)
      ·rw[hfr] at q;cases q
      ·refine⟨x,rfl, ?_⟩
       rcases q with rfl |rfl |rfl
       ·trivial
       ·rfl
       ·rfl
     ·rintro⟨z,q,w⟩
      cases q
      refine .inr ⟨rfl, ?_⟩
      cases i with
      |all=>exact .inl rfl
      |c s=>have w:name=s:=w;rw[w];exact .inr (.inl rfl)
      |k s=>have w:(name,nV vs)=s:=w;rw[w];exact .inr (.inr rfl)
    ·rw[if_neg e]
     simp[e]
   ·rw[fs'] at hk
    rcases List.mem_append.1 hk with hk |hk
    ·exact I.fc k y hk
    ·simp only[List.mem_singleton,Prod.mk.injEq] at hk
     rw[hk.2]
     refine⟨his, ?_, ?_,hvb⟩
     ·show vs.length=(fieldsOf cs name).length
      rw[hF];exact hvF
     ·show(List.replicate F.length c).length=vs.length
      rw[List.length_replicate,hvF]
end
theorem Vt {n:Nat} {h:aj} {a a':List AV} {x x':Val} {K:aC} (ho:h.Ok) (R:RV h a x) (R':RV h a' x')
 (hl:∀{h1 lv lv' ll ll'} {K':aC},(∃k b n t,x= .mk k b n t ll)→VV h1 lv ll→VV h1 lv' ll'→h1.Ok→(∀h2 r,Ext h1 h2→h2.Ok→(r=true↔ll=ll')→K' (.bool r) h2=true)→aD E n (.func 68) [lv,lv'] h1 K'=true)
 (kk:∀h2 r,Ext h h2→h2.Ok→(r=true↔x=x')→K (.bool r) h2=true):aD E (n+1) (.func 39) [.agg a, .agg a'] h K=true:=by
 obtain⟨g1,g2,g3,g4⟩:=R.agg
 obtain⟨g1',g2',g3',g4'⟩:=R'.agg
 obtain⟨k,b,nn,t,ll⟩:=x
 obtain⟨k',b',nn',t',ll'⟩:=x'
 obtain⟨lv,rfl,VL,rr⟩:=R.cells
 obtain⟨lv',rfl,VL',rr'⟩:=R'.cells
 apply d39
 unfold s39
 obtain⟨h1,q1,V1,e1,o1,z1⟩:=kZ (n:=5) ho g2 (by decide) g3
 rw[g4] at V1
 refine iW q1 ?_
 obtain⟨h2,q2,V2,e2,o2,z2⟩:=kZ (n:=5) o1 g2' (by decide) g3'
 rw[g4'] at V2
 refine iW q2 ?_
 have V1:=V1.ext e2
 have e12:=bH e1 e2
 have A0:au h2 false 1 (.ptr h.sz 0 0 0)=some (.int .i64 k):=V1.get rfl
 have A1:au h2 false 1 (.ptr h.sz 0 0 1)=some (.bool b):=V1.get rfl
 have A2:au h2 false 1 (.ptr h.sz 0 0 2)=some (.int .i64 nn):=V1.get rfl
 have A3:au h2 false 1 (.ptr h.sz 0 0 3)=some (.str t):=V1.get rfl
 have A4:au h2 false 1 (.ptr h.sz 0 0 4)=some lv:=V1.get rfl
 have B0:au h2 false 1 (.ptr h1.sz 0 0 0)=some (.int .i64 k'):=V2.get rfl
 have B1:au h2 false 1 (.ptr h1.sz 0 0 1)=some (.bool b'):=V2.get rfl
 have B2:au h2 false 1 (.ptr h1.sz 0 0 2)=some (.int .i64 nn'):=V2.get rfl
 have B3:au h2 false 1 (.ptr h1.sz 0 0 3)=some (.str t'):=V2.get rfl
 have B4:au h2 false 1 (.ptr h1.sz 0 0 4)=some lv':=V2.get rfl
 have no:∀{p:Prop},¬p→((Val.mk k b nn t ll=Val.mk k' b' nn' t' ll')→p)→K (.bool false) h2=true:=fun hp hq=>kk h2 false e12 o2 ⟨fun h=>(by cases h),fun h=>absurd (hq h) hp⟩
 refine aA ?_;refine aF A0 ?_;refine aA ?_;refine aF B0 ?_;refine aX ?_
 by_cases c0:k=k'
 rotate_left
 ·rw[decide_eq_false c0]
  refine aG ?_;refine aG ?_;refine aG ?_;refine aG ?_;refine aG ?_;refine bM ?_;refine aG ?_;refine aG ?_;refine aG ?_;refine aG ?_;refine aG ?_;refine bM ?_;refine aG ?_;refine aG ?_;refine aG ?_;refine aG ?_;refine aG ?_;refine bM ?_;refine aG ?_;refine aG ?_;refine aG ?_;refine aG ?_;refine aW ?_;refine bM ?_
  exact no c0 fun h=>by cases h;rfl
 rw[decide_eq_true c0]
 refine aP ?_;refine aA ?_;refine aP ?_;refine aF A1 ?_;refine aP ?_;refine aA ?_;refine aP ?_;refine aF B1 ?_;refine aP ?_;refine aF (NK h2 b b') ?_;refine bQ ?_
 by_cases c1:b=b'
 rotate_left
 ·rw[beq_eq_false_iff_ne.2 c1]
  refine aG ?_;refine aG ?_;refine aG ?_;refine aG ?_;refine aG ?_;refine bM ?_;refine aG ?_;refine aG ?_;refine aG ?_;refine aG ?_;refine aG ?_;refine bM ?_;refine aG ?_;refine aG ?_;refine aG ?_;refine aG ?_;refine aW ?_;refine bM ?_
  exact no c1 fun h=>by cases h;rfl
 rw[beq_iff_eq.2 c1]
 refine aP ?_;refine aA ?_;refine aP ?_;refine aF A2 ?_;refine aP ?_;refine aA ?_;refine aP ?_;refine aF B2 ?_;refine aP ?_;refine aX ?_;refine bQ ?_
 by_cases c2:nn=nn'
 rotate_left
 ·rw[decide_eq_false c2]
  refine aG ?_;refine aG ?_;refine aG ?_;refine aG ?_;refine aG ?_;refine bM ?_;refine aG ?_;refine aG ?_;refine aG ?_;refine aG ?_;refine aW ?_;refine bM ?_
  exact no c2 fun h=>by cases h;rfl
 rw[decide_eq_true c2]
 refine aP ?_;refine aA ?_;refine aP ?_;refine aF A3 ?_;refine aP ?_;refine aA ?_;refine aP ?_;refine aF B3 ?_;refine aP ?_;refine bq ?_;refine bQ ?_
 by_cases w3:t=t'
 rotate_left
 ·rw[decide_eq_false w3]
  refine aG ?_;refine aG ?_;refine aG ?_;refine aG ?_;refine aW ?_;refine bM ?_
  exact no w3 fun h=>by cases h;rfl
 rw[decide_eq_true w3]
 refine aP ?_;refine aA ?_;refine aP ?_;refine aF A4 ?_;refine aP ?_;refine aA ?_;refine aP ?_;refine aF B4 ?_;refine bf ?_
 refine hl ⟨k,b,nn,t,rfl⟩ ((VL.ext e1).ext e2) ((VL'.ext e1).ext e2) o2 fun h3 r e3 o3 hr=> ?_
 refine bQ ?_
 refine kk h3 r (bH e12 e3) o3 (hr.trans ⟨fun h=> ?_,fun h=> ?_⟩)
 ·rw[c0,c1,c2,w3,h]
 ·cases h;rfl
theorem JO:∀(k n:Nat) {h:aj} {v v':AV} {l l':List Val} {K:aC},VV h v l→VV h v' l'→h.Ok→fU l≤k→2*k+2≤n→k<1000000000→n<lim→
 (∀h2 r,Ext h h2→h2.Ok→(r=true↔l=l')→K (.bool r) h2=true)→aD E (n+1) (.func 68) [v,v'] h K=true:=by
 intro k
 induction k with
 |zero=>
  intro n h v v' l l' K V V' ho hk hn hB hL kk
  have:l=[]:=by
   cases l with
   |nil=>rfl
   |cons x t=>have:=iE (x :: t);simp at this;omega
  subst this
  apply d68
  unfold s68
  refine aF V.len ?_;refine aF V'.len ?_;refine aY ?_
  cases l' with
  |cons x t=>
   refine iM (by simp;omega) ?_
   exact kk h false (Ext.refl _) ho (by simp)
  |nil=>
   refine iF (by simp) ?_
   unfold F8
   obtain⟨n,rfl⟩:∃j,n=j+1:=⟨n-1,by omega⟩
   unfold yR FT
   refine aF V.len ?_;refine aT ?_
   exact kk h true (Ext.refl _) ho (by simp)
 |succ k ih=>
  intro n hs v v' l l' K V V' ho hk hn hB hL kk
  have hlm:lim=4611686018427387904:=rfl
  have hlen:=iE l
  apply d68
  unfold s68
  refine aF V.len ?_;refine aF V'.len ?_;refine aY ?_
  by_cases hll:l.length=l'.length
  rotate_left
  ·refine iM (by rw[decide_eq_false (by omega)];rfl) ?_
   exact kk hs false (Ext.refl _) ho ⟨fun h=>(by cases h),fun h=>absurd (by rw[h]) hll⟩
  refine iF (by rw[decide_eq_true (by omega)];rfl) ?_
  unfold F8
  suffices H:∀m i h,l.length-i<m→i≤l.length→Ext hs h→h.Ok→l.take i=l'.take i→yR (aD E n) n m v v' (.int .i64 (i:Int)) h K=true from
   H n 0 hs (by omega) (Nat.zero_le _) (Ext.refl _) ho rfl
  intro m
  induction m with
  |zero=>intro i h hm;omega
  |succ m ihm=>
   intro i h hm hi e o C
   unfold yR FT
   refine aF (V.ext e).len ?_;refine aT ?_
   by_cases hlt:i<l.length
   ·refine iM (decide_eq_true (by omega)) ?_
    obtain⟨id,g,j,ee,p1,p2,R⟩:=(V.ext e).at (List.getElem?_eq_getElem hlt)
    obtain⟨id',g',j',ee',p1',p2',R'⟩:=(V'.ext e).at (List.getElem?_eq_getElem (show i<l'.length by omega))
    have A:au h true 5 (.ptr id g j 0)=some (.agg ee):=by rw[p2];exact R.agg.1
    have A':au h true 5 (.ptr id' g' j' 0)=some (.agg ee'):=by rw[p2'];exact R'.agg.1
    have hm2:=jF (List.getElem_mem hlt)
    refine aF (p1 .i64) ?_;refine aF A ?_;refine aF (p1' .i64) ?_;refine aF A' ?_
    obtain⟨n,rfl⟩:∃j,n=j+2:=⟨n-2,by omega⟩
    refine Vt (n:=n+1) o R R' (fun{h1 lv lv' ll ll' K'} hx V1 V1' o1 kk'=> ?_) fun h4 r e4 o4 hr=> ?_
    ·obtain⟨k',b,nn,t,hx⟩:=hx
     have:fU ll+1≤fU l:=by rw[hx] at hm2;simp only[jg] at hm2;omega
     exact ih n V1 V1' o1 (by omega) (by omega) (by omega) (by omega) kk'
    ·have t1:l.take (i+1)=l.take i++[l[i]]:=by rw[List.take_succ_eq_append_getElem hlt]
     have t2:l'.take (i+1)=l'.take i++[l'[i]'(by omega)]:=by rw[List.take_succ_eq_append_getElem (by omega)]
     cases r with
     |false=>
      refine aM ?_;refine bN ?_
      refine kk h4 false (bH e e4) o4 ⟨fun h=>(by cases h),fun h=> ?_⟩
      subst h
      exact hr.2 rfl
     |true=>
      refine aL ?_;refine bO ?_;refine aF (dV (i:=i) (by omega)) ?_
      exact ihm (i+1) h4 (by omega) (by omega) (bH e e4) o4 (by rw[t1,t2,C,hr.1 rfl])
   ·refine iF (decide_eq_false (by omega)) ?_
    refine kk h true e o ⟨fun _=> ?_,fun _=>rfl⟩
    rw[List.take_of_length_le (by omega),List.take_of_length_le (by omega)] at C
    exact C
theorem aaz {n:Nat} {h:aj} {a a':List AV} {x x':Val} {K:aC} (ho:h.Ok) (R:RV h a x) (R':RV h a' x')
 (hl:∀{h1 lv lv' ll ll'} {K':aC},(∃k b n t,x= .mk k b n t ll)→VV h1 lv ll→VV h1 lv' ll'→h1.Ok→(∀h2 r,Ext h1 h2→h2.Ok→(r=true↔ll=ll')→K' (.bool r) h2=true)→aD E n (.func 67) [lv,lv', .fn (.func 35) [] []] h1 K'=true)
 (kk:∀h2 r,Ext h h2→h2.Ok→(r=true↔x=x')→K (.bool r) h2=true):aD E (n+1) (.func 35) [.agg a, .agg a'] h K=true:=by
 obtain⟨g1,g2,g3,g4⟩:=R.agg
 obtain⟨g1',g2',g3',g4'⟩:=R'.agg
 obtain⟨k,b,nn,t,ll⟩:=x
 obtain⟨k',b',nn',t',ll'⟩:=x'
 obtain⟨lv,rfl,VL,rr⟩:=R.cells
 obtain⟨lv',rfl,VL',rr'⟩:=R'.cells
 apply d35
 unfold s35
 obtain⟨h1,q1,V1,e1,o1,z1⟩:=kZ (n:=5) ho g2 (by decide) g3
 rw[g4] at V1
 refine iW q1 ?_
 obtain⟨h2,q2,V2,e2,o2,z2⟩:=kZ (n:=5) o1 g2' (by decide) g3'
 rw[g4'] at V2
 refine iW q2 ?_
 have V1:=V1.ext e2
 have e12:=bH e1 e2
 have A0:au h2 false 1 (.ptr h.sz 0 0 0)=some (.int .i64 k):=V1.get rfl
 have A1:au h2 false 1 (.ptr h.sz 0 0 1)=some (.bool b):=V1.get rfl
 have A2:au h2 false 1 (.ptr h.sz 0 0 2)=some (.int .i64 nn):=V1.get rfl
 have A3:au h2 false 1 (.ptr h.sz 0 0 3)=some (.str t):=V1.get rfl
 have A4:au h2 false 1 (.ptr h.sz 0 0 4)=some lv:=V1.get rfl
 have B0:au h2 false 1 (.ptr h1.sz 0 0 0)=some (.int .i64 k'):=V2.get rfl
 have B1:au h2 false 1 (.ptr h1.sz 0 0 1)=some (.bool b'):=V2.get rfl
 have B2:au h2 false 1 (.ptr h1.sz 0 0 2)=some (.int .i64 nn'):=V2.get rfl
 have B3:au h2 false 1 (.ptr h1.sz 0 0 3)=some (.str t'):=V2.get rfl
 have B4:au h2 false 1 (.ptr h1.sz 0 0 4)=some lv':=V2.get rfl
 have no:∀{p:Prop},¬p→((Val.mk k b nn t ll=Val.mk k' b' nn' t' ll')→p)→K (.bool false) h2=true:=fun hp hq=>kk h2 false e12 o2 ⟨fun h=>(by cases h),fun h=>absurd (hq h) hp⟩
 refine aA ?_;refine aF A0 ?_;refine aA ?_;refine aF B0 ?_;refine aX ?_
 by_cases c0:k=k'
 rotate_left
 ·rw[decide_eq_false c0]
  refine aG ?_;refine aG ?_;refine aG ?_;refine aG ?_;refine aG ?_;refine bM ?_;refine aG ?_;refine aG ?_;refine aG ?_;refine aG ?_;refine aG ?_;refine bM ?_;refine aG ?_;refine aG ?_;refine aG ?_;refine aG ?_;refine aG ?_;refine bM ?_;refine aG ?_;refine aG ?_;refine aG ?_;refine aG ?_;refine aW ?_;refine bM ?_
  exact no c0 fun h=>by cases h;rfl
 rw[decide_eq_true c0]
 refine aP ?_;refine aA ?_;refine aP ?_;refine aF A1 ?_;refine aP ?_;refine aA ?_;refine aP ?_;refine aF B1 ?_;refine aP ?_;refine aF (NK h2 b b') ?_;refine bQ ?_
 by_cases c1:b=b'
 rotate_left
 ·rw[beq_eq_false_iff_ne.2 c1]
  refine aG ?_;refine aG ?_;refine aG ?_;refine aG ?_;refine aG ?_;refine bM ?_;refine aG ?_;refine aG ?_;refine aG ?_;refine aG ?_;refine aG ?_;refine bM ?_;refine aG ?_;refine aG ?_;refine aG ?_;refine aG ?_;refine aW ?_;refine bM ?_
  exact no c1 fun h=>by cases h;rfl
 rw[beq_iff_eq.2 c1]
 refine aP ?_;refine aA ?_;refine aP ?_;refine aF A2 ?_;refine aP ?_;refine aA ?_;refine aP ?_;refine aF B2 ?_;refine aP ?_;refine aX ?_;refine bQ ?_
 by_cases c2:nn=nn'
 rotate_left
 ·rw[decide_eq_false c2]
  refine aG ?_;refine aG ?_;refine aG ?_;refine aG ?_;refine aG ?_;refine bM ?_;refine aG ?_;refine aG ?_;refine aG ?_;refine aG ?_;refine aW ?_;refine bM ?_
  exact no c2 fun h=>by cases h;rfl
 rw[decide_eq_true c2]
 refine aP ?_;refine aA ?_;refine aP ?_;refine aF A3 ?_;refine aP ?_;refine aA ?_;refine aP ?_;refine aF B3 ?_;refine aP ?_;refine bq ?_;refine bQ ?_
 by_cases w3:t=t'
 rotate_left
 ·rw[decide_eq_false w3]
  refine aG ?_;refine aG ?_;refine aG ?_;refine aG ?_;refine aW ?_;refine bM ?_
  exact no w3 fun h=>by cases h;rfl
 rw[decide_eq_true w3]
 refine aP ?_;refine aA ?_;refine aP ?_;refine aF A4 ?_;refine aP ?_;refine aA ?_;refine aP ?_;refine aF B4 ?_;refine bf ?_
 refine hl ⟨k,b,nn,t,rfl⟩ ((VL.ext e1).ext e2) ((VL'.ext e1).ext e2) o2 fun h3 r e3 o3 hr=> ?_
 refine bQ ?_
 refine kk h3 r (bH e12 e3) o3 (hr.trans ⟨fun h=> ?_,fun h=> ?_⟩)
 ·rw[c0,c1,c2,w3,h]
 ·cases h;rfl
theorem ad7:∀(k n:Nat) {h:aj} {v v':AV} {l l':List Val} {K:aC},VV h v l→VV h v' l'→h.Ok→fU l≤k→2*k+2≤n→k<1000000000→n<lim→
 (∀h2 r,Ext h h2→h2.Ok→(r=true↔l=l')→K (.bool r) h2=true)→aD E (n+1) (.func 67) [v,v', .fn (.func 35) [] []] h K=true:=by
 intro k
 induction k with
 |zero=>
  intro n h v v' l l' K V V' ho hk hn hB hL kk
  have:l=[]:=by
   cases l with
   |nil=>rfl
   |cons x t=>have:=iE (x :: t);simp at this;omega
  subst this
  apply d67
  unfold s67
  refine aF V.len ?_;refine aF V'.len ?_;refine aY ?_
  cases l' with
  |cons x t=>
   refine iM (by simp;omega) ?_
   exact kk h false (Ext.refl _) ho (by simp)
  |nil=>
   refine iF (by simp) ?_
   unfold Gu
   obtain⟨n,rfl⟩:∃j,n=j+1:=⟨n-1,by omega⟩
   refine aF V.len ?_
   unfold yc Gy
   refine aT ?_
   refine iF (by simp) ?_
   exact kk h true (Ext.refl _) ho (by simp)
 |succ k ih=>
  intro n hs v v' l l' K V V' ho hk hn hB hL kk
  have hlm:lim=4611686018427387904:=rfl
  have hlen:=iE l
  apply d67
  unfold s67
  refine aF V.len ?_;refine aF V'.len ?_;refine aY ?_
  by_cases hll:l.length=l'.length
  rotate_left
  ·refine iM (by rw[decide_eq_false (by omega)];rfl) ?_
   exact kk hs false (Ext.refl _) ho ⟨fun h=>(by cases h),fun h=>absurd (by rw[h]) hll⟩
  refine iF (by rw[decide_eq_true (by omega)];rfl) ?_
  unfold Gu
  refine aF V.len ?_
  suffices H:∀m i h,l.length-i<m→i≤l.length→Ext hs h→h.Ok→l.take i=l'.take i→yc (aD E n) n m v' (.fn (.func 35) [] []) v (.int .i64 (l.length:Int)) (.int .i64 (i:Int)) h K=true from
   H n 0 hs (by omega) (Nat.zero_le _) (Ext.refl _) ho rfl
  intro m
  induction m with
  |zero=>intro i h hm;omega
  |succ m ihm=>
   intro i h hm hi e o C
   unfold yc Gy
   refine aT ?_
   by_cases hlt:i<l.length
   ·refine iM (decide_eq_true (by omega)) ?_
    obtain⟨id,g,j,ee,p1,p2,R⟩:=(V.ext e).at (List.getElem?_eq_getElem hlt)
    have hel:=R.len5
    obtain⟨g1,g2,g3,g4⟩:=R.agg
    have A:au h true 5 (.ptr id g j 0)=some (.agg ee):=by rw[p2];exact g1
    have hm2:=jF (List.getElem_mem hlt)
    refine aF (p1 .i64) ?_;refine aF A ?_
    obtain⟨h2,q2,V2,e2,o2,z2⟩:=gW (z:=[AV.int .i64 0, .bool false, .int .i64 0, .str [], .nilSlc]) o (by decide) rfl
    refine iW q2 ?_
    obtain⟨h3,u1,U,u3,o3,u5⟩:=V2.wrs o2 (n:=5) (v:= .agg ee) g2 rfl g3
    refine lq u1 ?_
    rw[g4] at U
    have e3:Ext h h3:=u3.ext e2 o (Nat.le_refl _)
    obtain⟨id',g',j',ee',p1',p2',R'⟩:=(V'.ext (bH e e3)).at (List.getElem?_eq_getElem (show i<l'.length by omega))
    have hel':=R'.len5
    obtain⟨g1',g2',g3',g4'⟩:=R'.agg
    have A':au h3 true 5 (.ptr id' g' j' 0)=some (.agg ee'):=by rw[p2'];exact g1'
    refine aF (p1' .i64) ?_;refine aF A' ?_
    obtain⟨h4,q4,V4,e4,o4,z4⟩:=gW (z:=[AV.int .i64 0, .bool false, .int .i64 0, .str [], .nilSlc]) o3 (by decide) rfl
    refine iW q4 ?_
    obtain⟨h5,x1,X,x3,o5,x5⟩:=V4.wrs o4 (n:=5) (v:= .agg ee') g2' rfl g3'
    refine lq x1 ?_
    rw[g4'] at X
    have e5:Ext h3 h5:=x3.ext e4 o3 (Nat.le_refl _)
    have B1:au h5 true 5 (.ptr h.sz 0 0 0)=some (.agg ee):=(U.ext e5).all hel
    have B2:au h5 true 5 (.ptr h3.sz 0 0 0)=some (.agg ee'):=X.all hel'
    refine aF B1 ?_;refine aF B2 ?_;refine bR ?_
    obtain⟨n,rfl⟩:∃j,n=j+2:=⟨n-2,by omega⟩
    have e35:=bH e3 e5
    refine aaz (n:=n+1) o5 (RV.ext e35 R) (RV.ext e5 R') (fun{h1 lv lv' ll ll' K'} hx V1 V1' o1 kk'=> ?_) fun h6 r e6 o6 hr=> ?_
    ·obtain⟨k',b,nn,t,hx⟩:=hx
     have:fU ll+1≤fU l:=by rw[hx] at hm2;simp only[jg] at hm2;omega
     exact ih n V1 V1' o1 (by omega) (by omega) (by omega) (by omega) kk'
    ·have t1:l.take (i+1)=l.take i++[l[i]]:=by rw[List.take_succ_eq_append_getElem hlt]
     have t2:l'.take (i+1)=l'.take i++[l'[i]'(by omega)]:=by rw[List.take_succ_eq_append_getElem (by omega)]
     have e06:=bH e (bH e35 e6)
     cases r with
     |false=>
      refine aM ?_;refine bN ?_
      refine kk h6 false e06 o6 ⟨fun h=>(by cases h),fun h=> ?_⟩
      subst h
      exact hr.2 rfl
     |true=>
      refine aL ?_;refine bO ?_;refine aF (dV (i:=i) (by omega)) ?_
      exact ihm (i+1) h6 (by omega) (by omega) e06 o6 (by rw[t1,t2,C,hr.1 rfl])
   ·refine iF (decide_eq_false (by omega)) ?_
    refine kk h true e o ⟨fun _=> ?_,fun _=>rfl⟩
    rw[List.take_of_length_le (by omega),List.take_of_length_le (by omega)] at C
    exact C
theorem adK {k n:Nat} {h:aj} {a a':List AV} {x x':Val} {K:aC} (ho:h.Ok) (R:RV h a x) (R':RV h a' x') (hk:jg x≤k) (hn:2*k+3≤n) (hB:k<1000000000) (hL:n<lim)
 (kk:∀h2 r,Ext h h2→h2.Ok→(r=true↔x=x')→K (.bool r) h2=true):aD E (n+1) (.func 35) [.agg a, .agg a'] h K=true:=by
 obtain⟨n,rfl⟩:∃j,n=j+1:=⟨n-1,by omega⟩
 refine aaz ho R R' (fun{h1 lv lv' ll ll' K'} hx V V' o1 kk'=> ?_) kk
 obtain⟨k',b,nn,t,hx⟩:=hx
 have:fU ll≤k:=by rw[hx] at hk;simp only[jg] at hk;omega
 exact ad7 k n V V' o1 this (by omega) hB (by omega) kk'
structure WZ (T T':SD) (k:Int):Prop where
 fs:T'.fs=zx T.fs k
 sc:T'.p=T.p∧T'.tb=T.tb∧T'.most=T.most∧T'.next=T.next∧T'.clock=T.clock+1
 rw:∀i y,jr T' i y↔jr T i y∧y≠k
section
variable {B b:Nat} {τ:Nat→Tag} {o:Nat} {h0 h h':aj} {T:SD} {K:aC} {n:Nat} {cs:List Cls} {k:Int}
theorem SO.delF (O:SO B τ o h0 h T) (f:But T.fm h h') (ok:h'.Ok) (M:kK uy h' T.fm (dl (mp fp T.fs) k)):SO B τ o h0 h' {T with fs:=zx T.fs k}∧St o τ τ h h':=by
 have f':Fr (XS τ o fun t=>t= .fm) h h':=Fr.of_but ⟨_,rfl,O.tf⟩ f
 exact⟨O.step (T':={T with fs:=zx T.fs k}) f' ok (O.tg f.sz) rfl rfl rfl rfl (f'.var O.var (iy O.tp nofun)) (by rw[Xn, ←Kl] at M;exact M) (f'.kmap O.by' (iy O.tb nofun)) (f'.kmap O.same (iy O.ts nofun)) (fun k y hk=>O.f' f' (O.tg f.sz) nofun nofun (wK.subset hk)) fun i r hr=>O.r' f' (O.tg f.sz) nofun nofun hr,
  ok,Fr.of_but ⟨_,O.tf⟩ f,fun _ _=>rfl,fun j hj=> .inl (O.hi j hj)⟩
theorem SI.del {T':SD} (I:SI cs b T) (O:SO B τ o h0 h T) (D:WZ T T' k):SI cs b T':=by
 have sub:∀j y,(j,y)∈T'.fs→(j,y)∈T.fs:=fun j y q=>by rw[D.fs] at q;exact wK.subset q
 refine⟨?_,fun j y q=> ?_,fun i y=> ?_,fun j y q=>I.fc j y (sub j y q)⟩
 ·rw[D.fs];exact I.ks.sublist (wK.map _)
 ·rw[D.sc.2.2.2.1];exact I.kb j y (sub j y q)
 ·rw[D.rw,I.rw,D.fs,Bb O.nf]
  by_cases e:y=k
  ·rw[if_pos e];simp[e]
  ·rw[if_neg e];simp[e]
theorem aeQ (O:SO B τ o h0 h T) (I:SI cs b T) (hN:T.next<500000) (hC:T.clock<500000) (hB:B<1000000000) (hn:B+3000000≤n) (hL:n+200<lim)
 (k0:jm T.fs k=none→K (.int .i64 7) h=true)
 (k1:∀x,jm T.fs k=some x→∀h' τ' T',SO B τ' o h0 h' T'→St o τ τ' h h'→SI cs b T'→WZ T T' k→K (.int .i64 0) h'=true):
 aD E (n+8) (.func 12) [.ptr T.p 0 0 0, .int .i64 k] h K=true:=by
 have hlm:lim=4611686018427387904:=rfl
 apply d12
 unfold s12
 have L:=O.lkf k
 cases hx:jm T.fs k with
 |none=>
  rw[hx] at L
  have L:fC h (.leaf .int) true .nilPtr (.map T.fm) (.int .i64 k)=some (.tup [.nilPtr, .bool false]):=L
  refine aN ?_;refine aA ?_;refine aF O.l4 ?_;refine aF L ?_;refine aJ ?_;refine aK ?_;refine aM ?_;refine bN ?_
  exact k0 hx
 |some x=>
  rw[hx] at L
  have L:fC h (.leaf .int) true .nilPtr (.map T.fm) (.int .i64 k)=some (.tup [.ptr x.id 0 0 0, .bool true]):=L
  have hk:=gU hx
  obtain⟨kb1,kb2⟩:=I.kb k x hk
  have hsm:small k:=⟨by omega,by omega⟩
  refine aN ?_;refine aA ?_;refine aF O.l4 ?_;refine aF L ?_;refine aJ ?_;refine aK ?_;refine aL ?_;refine bO ?_;refine aN ?_;refine aA ?_;refine aF O.l3 ?_;refine aF (dV (i:=T.clock) (by omega)) ?_;refine aN ?_;refine aA ?_
  obtain⟨h1,w1,V1,b1,o1,z1⟩:=O.var.wr O.ok (off:=3) (v:= .int .i64 ((T.clock+1:Nat):Int)) (show 3<8 by decide) rfl
  refine lq w1 ?_
  obtain⟨P1,s1⟩:=O.putS (nx:=T.next) (ck:=T.clock+1) b1 o1 V1
  obtain⟨T1,hT1⟩:∃T1:SD,T1={T with next:=T.next,clock:=T.clock+1}:=⟨_,rfl⟩
  rw[←hT1] at P1
  have p1:T1.p=T.p:=by rw[hT1]
  have r1:∀i,T1.row i=T.row i:=fun i=>by rw[hT1];cases i<;>rfl
  have hk1:(k,x)∈T1.fs:=by rw[hT1];exact hk
  have ir1:∀i y,jr T1 i y↔jr T i y:=fun i y=>by unfold jr;rw[r1]
  have len1:∀i r,T1.row i=some r→r.l.length≤500000:=fun i r e=>by
   have:=I.len O (by rw[←r1];exact e);omega
  obtain⟨ra,ea,ka⟩:jr T1 (.k (keyOf x)) k:=by rw[ir1];exact(I.rw _ _).2 ⟨x,hx,rfl⟩
  rw[←p1]
  refine Z5 (n:=n+2) P1 hk1 hsm ea ka (by have:=len1 _ ra ea;omega) (by omega) (by omega) (by omega) fun h2 τ2 T2 P2 s2 S2=> ?_
  have p2:T2.p=T1.p:=by rw[S2.eq]
  have hk2:(k,x)∈T2.fs:=by rw[S2.eq];exact hk1
  have ir2:∀i y,jr T2 i y↔jr T1 i y∧¬(i= .k (keyOf x)∧y=k):=fun i y=>by
   rw[xC S2]
   by_cases e:i= .k (keyOf x)
   ·rw[if_pos e,e]
    have:jr T1 (.k (keyOf x)) y↔y∈ra.l:=by
     unfold jr
     constructor
     ·rintro⟨r,e,q⟩;rw[ea] at e;cases e;exact q
     ·exact fun q=>⟨_,ea,q⟩
    rw[this];simp
   ·rw[if_neg e];simp[e]
  have L5:au h2 false 1 (.ptr T1.p 0 0 5)=some (.ptr T2.all.id 0 0 0):=by rw[←p2];exact P2.l5
  refine aN ?_;refine aA ?_;refine aF L5 ?_
  have ia:jr T2 .all k:=by rw[ir2,ir1];exact⟨(I.rw _ _).2 ⟨x,hx,trivial⟩,fun q=>by cases q.1⟩
  obtain⟨r2,e2,k2⟩:=ia
  cases e2
  have ll2:T2.all.l.length≤500000:=by
   have:=len1 .all T1.all rfl
   have h3:T2.row .all=T1.row .all:=S2.ne .all nofun
   simp only[SD.row,Option.some.injEq] at h3
   rw[h3];exact this
  refine Cw (n:=n+4) (i:= .all) P2 rfl hsm k2 (by omega) fun h3 τ3 r3 P3 s3 i3 m3=> ?_
  have S3:=tX (T:=T2) (i:= .all) (r':=r3) m3
  generalize hT3:T2.setRow .all r3=T3 at *
  have p3:T3.p=T1.p:=by rw[S3.eq];exact p2
  have hk3:(k,x)∈T3.fs:=by rw[S3.eq];exact hk2
  have ir3:∀i y,jr T3 i y↔jr T2 i y∧¬(i= .all∧y=k):=fun i y=>by
   rw[xC S3]
   by_cases e:i= .all
   ·rw[if_pos e,e]
    have:jr T2 .all y↔y∈T2.all.l:=by
     unfold jr
     constructor
     ·rintro⟨r,e,q⟩;cases e;exact q
     ·exact fun q=>⟨_,rfl,q⟩
    rw[this];simp
   ·rw[if_neg e];simp[e]
  have F3:=P3.f k x hk3
  obtain⟨r4,e4,k4⟩:jr T3 (.c x.cls) k:=by rw[ir3,ir2,ir1];exact⟨⟨(I.rw _ _).2 ⟨x,hx,rfl⟩,fun q=>by cases q.1⟩,fun q=>by cases q.1⟩
  have ll4:r4.l.length≤500000:=len1 (.c x.cls) r4 (by rw[←S2.ne _ (show IK.c x.cls≠ .k (keyOf x) from nofun), ←S3.ne _ (show IK.c x.cls≠ .all from nofun)];exact e4)
  have L6:au h3 false 1 (.ptr T1.p 0 0 6)=some (.map T3.bm):=by rw[←p3];exact P3.l6
  refine aN ?_;refine aA ?_;refine aF L6 ?_;refine aN ?_;refine aA ?_;refine aF F3.l1 ?_;refine aF (P3.lkb e4) ?_
  refine Cw (n:=n+4) P3 e4 hsm k4 (by omega) fun h4 τ4 r5 P4 s4 i4 m4=> ?_
  have S4:=tX (T:=T3) (i:= .c x.cls) (r':=r5) m4
  generalize hT4:T3.setRow (.c x.cls) r5=T4 at *
  have p4:T4.p=T1.p:=by rw[S4.eq];exact p3
  have ir4:∀i y,jr T4 i y↔jr T3 i y∧¬(i= .c x.cls∧y=k):=fun i y=>by
   rw[xC S4]
   by_cases e:i= .c x.cls
   ·rw[if_pos e,e]
    have:jr T3 (.c x.cls) y↔y∈r4.l:=by
     unfold jr
     constructor
     ·rintro⟨r,e,q⟩;rw[e4] at e;cases e;exact q
     ·exact fun q=>⟨_,e4,q⟩
    rw[this];simp
   ·rw[if_neg e];simp[e]
  have L4:au h4 false 1 (.ptr T1.p 0 0 4)=some (.map T4.fm):=by rw[←p4];exact P4.l4
  refine aN ?_;refine aA ?_;refine aF L4 ?_
  obtain⟨h5,u1,u2,u3,u4,u5⟩:=P4.fs.del intKeys k
  refine lq u1 ?_
  obtain⟨P5,s5⟩:=P4.delF u2 (u4 P4.ok) u5
  have eqT:T4={T with clock:=T.clock+1,all:=T4.all,by':=T4.by',same:=T4.same}:=by rw[S4.eq,S3.eq,S2.eq,hT1]
  have D:WZ T {T4 with fs:=zx T4.fs k} k:=by
   refine⟨by show zx T4.fs k=_;rw[eqT],⟨by show T4.p=_;rw[eqT],by show T4.tb=_;rw[eqT],by show T4.most=_;rw[eqT],by show T4.next=_;rw[eqT],by show T4.clock=_;rw[eqT]⟩,fun i y=> ?_⟩
   have h0:jr {T4 with fs:=zx T4.fs k} i y↔jr T4 i y:=by unfold jr;cases i<;>exact Iff.rfl
   rw[h0,ir4,ir3,ir2,ir1]
   constructor
   ·rintro⟨⟨⟨q,a⟩,b⟩,c⟩
    refine⟨q,fun e=> ?_⟩
    obtain⟨z,ez,hz⟩:=(I.rw i y).1 q
    rw[e,hx] at ez;cases ez
    cases i with
    |all=>exact b ⟨rfl,e⟩
    |c s=>exact c ⟨by rw[show x.cls=s from hz],e⟩
    |k s=>exact a ⟨by rw[show keyOf x=s from hz],e⟩
   ·rintro⟨q,e⟩
    exact⟨⟨⟨q,fun w=>e w.2⟩,fun w=>e w.2⟩,fun w=>e w.2⟩
  exact k1 x hx h5 τ4 _ P5 ((((s1.trans O.ok s2).trans O.ok s3).trans O.ok s4).trans O.ok s5) (I.del O D) D
end
theorem adn {n:Nat} {h:aj} {v:AV} {es:List (List AV)} {K:aC} (ho:h.Ok) (V:View h 5 v es) (hl:es.length<1000000)
 (k:∀h' v',Ext h h'→h'.Ok→View h' 5 v' es→(es≠[]→Mr h' 5 v' es)→(∀j,bL v' j→h.sz≤j)→K v' h'=true):aD E (n+1) (.func 34) [v] h K=true:=by
 apply d34
 unfold s34
 have hnil:v= .nilSlc∨ru h false .slc v .nilSlc=some (.bool false):=by
  rcases V with⟨_,rfl |rfl⟩|⟨id,g,s,cap,ex,r,rfl,_⟩
  ·exact .inl rfl
  ·exact .inr rfl
  ·exact .inr rfl
 rcases hnil with rfl |hne
 ·have hes:es=[]:=by
   rcases V with⟨e,_⟩|⟨_,_,_,_,_,_,e,_⟩
   ·exact e
   ·cases e
  have:ru h false .slc .nilSlc .nilSlc=some (.bool true):=rfl
  refine aF this ?_;refine bN ?_
  exact k h _ (Ext.refl h) ho V (fun e=>absurd hes e) fun j q=>absurd q eH
 ·refine aF hne ?_;refine bO ?_
  have hb:dX h 0 5 [AV.int .i64 0,AV.bool false,AV.int .i64 0,AV.str [],AV.nilSlc] []=some (.slc h.sz 0 0 0 0 true,Ab.newRow h [] 5):=rfl
  refine iW hb ?_
  have e1:=bU ho [] 5
  have o1:=cZ ho [] 5
  have r1:(Ab.newRow h [] 5).row h.sz=some {es:=[],sz:=5,g:=0,m:=0,rw:=true}:=by rw[aj.row_some];exact eX _ _
  generalize Ab.newRow h [] 5=h1 at *
  have V1:=V.ext e1
  cases es with
  |nil=>
   have:cK h1 5 64 (.slc h.sz 0 0 0 0 true) v=some (.slc h.sz 0 0 0 0 true,h1):=by
    simp only[cK,show Nat.beq 5 0=false from rfl,cond_false,V1.src,eZ]
   refine iW this ?_
   exact k h1 _ e1 o1 (.inr ⟨h.sz,0,0,0,true,_,rfl,r1,Nat.le_refl _,rfl,rfl,Nat.le_refl _⟩) (fun e=>absurd rfl e) fun j q=>by rw[dh.1 q];exact Nat.le_refl _
  |cons y l=>
   have b1:Nat.ble ((0+(y :: l).length)*64) most=true:=bI.2 (by unfold most;omega)
   have b2:Nat.ble (0+(y :: l).length) most=true:=bI.2 (by unfold most;omega)
   have b3:Nat.ble (0+(y :: l).length) 0=false:=by
    cases hh:Nat.ble (0+(y :: l).length) 0 with
    |false=>rfl
    |true=>have:=bI.1 hh;simp at this
   have:cK h1 5 64 (.slc h.sz 0 0 0 0 true) v=some (.slc h1.sz 0 0 (0+(y :: l).length) (0+(y :: l).length) false,Ab.newRow h1 (y :: l) 5):=by
    simp only[cK,show Nat.beq 5 0=false from rfl,cond_false,V1.src,eZ,r1,b1,b2,b3,Nat.beq_refl,Bool.and_self,cond_true,Nat.ble_self_eq_true,List.drop_nil,List.take_nil,List.length_nil,List.nil_append]
   refine iW this ?_
   have M:Mr (Ab.newRow h1 (y :: l) 5) 5 (.slc h1.sz 0 0 (0+(y :: l).length) (0+(y :: l).length) false) (y :: l):=
    ⟨h1.sz,0+(y :: l).length,false,{es:=y :: l,sz:=5,g:=0,m:=0,rw:=true},by simp,by rw[aj.row_some];exact eX _ _,rfl,Nat.le_refl _,rfl,rfl,by simp⟩
   exact k _ _ (e1.trans (bU o1 _ 5)) (cZ o1 _ 5) M.view (fun _=>M) fun j q=>by rw[←dh.1 q];exact e1.1
noncomputable instance valDec:DecidableEq Val:=fun a b=>Classical.propDecidable (a=b)
noncomputable def dm (old new:List Val):Nat→Nat
 |0=>0
 |i+1=>if old[i]? =new[i]? then dm old new i else dm old new i|||2 ^ i
theorem oU (old new:List Val):∀(m i:Nat),(dm old new m).testBit i=decide (i<m∧old[i]? ≠new[i]?)
 |0,i=>by simp[dm]
 |m+1,i=>by
  simp only[dm]
  by_cases e:old[m]? =new[m]?
  ·rw[if_pos e,oU old new m i]
   by_cases q:i=m
   ·subst q;simp[e]
   ·congr 1;apply propext;constructor<;>(rintro⟨a,b⟩;exact⟨by omega,b⟩)
  ·rw[if_neg e,Nat.testBit_or,oU old new m i,Nat.testBit_two_pow]
   by_cases q:i=m
   ·subst q;simp[e]
   ·have:¬m=i:=fun w=>q w.symm
    simp only[this,decide_false,Bool.or_false]
    congr 1;apply propext;constructor<;>(rintro⟨a,b⟩;exact⟨by omega,b⟩)
theorem Na (old new:List Val):∀m,dm old new m<2 ^ m
 |0=>by simp[dm]
 |m+1=>by
  have h1:=Na old new m
  have h2:2 ^ m<2 ^ (m+1):=Nat.pow_lt_pow_right (by decide) (by omega)
  simp only[dm]
  split
  ·omega
  ·exact Nat.or_lt_two_pow (Nat.lt_trans h1 h2) h2
theorem xO {old new:List Val} (hl:old.length=new.length):dm old new new.length=0↔old=new:=by
 constructor
 ·intro h
  apply List.ext_getElem?
  intro i
  by_cases q:i<new.length
  ·have:=oU old new new.length i
   rw[h,Nat.zero_testBit] at this
   have:=(decide_eq_false_iff_not.1 this.symm)
   exact Classical.byContradiction fun w=>this ⟨q,w⟩
  ·rw[List.getElem?_eq_none (by omega),List.getElem?_eq_none (by omega)]
 ·rintro rfl
  apply Nat.eq_of_testBit_eq
  intro i
  rw[oU];simp
noncomputable def sD (old new:List Val) (c:Int) (st:List Int):List Int:=st.mapIdx fun i s=>if old[i]? =new[i]? then s else c
section
variable {B:Nat} {τ:Nat→Tag} {o:Nat} {h0 h h':aj} {T:SD} {k:Int} {x x':FD}
theorem SO.updF (O:SO B τ o h0 h T) (hx:jm T.fs k=some x) (f:Fr (fun j=>τ j= .own o (.f k)∨τ j= .own o (.st k)) h h') (ok:h'.Ok) (F:FO B τ o h' k x') (hid:x'.id=x.id):SO B τ o h0 h' {T with fs:=nT T.fs k x'}∧St o τ τ h h':=by
 let S:PT→Prop:=fun t=>t= .f k∨t= .st k
 have f':Fr (XS τ o S) h h':=f.mono fun j e=>by
  rcases e with e |e
  ·exact⟨_, .inl rfl,e⟩
  ·exact⟨_, .inr rfl,e⟩
 refine⟨O.step (T':={T with fs:=nT T.fs k x'}) f' ok (O.tg f.sz) rfl rfl rfl rfl (f'.var O.var (iy O.tp nofun)) ?_ (f'.kmap O.by' (iy O.tb nofun)) (f'.kmap O.same (iy O.ts nofun)) (fun k' y hk=> ?_) fun i r hr=>O.r' f' (O.tg f.sz) nofun nofun hr,
  ok,f'.mono fun j ⟨t,_,e⟩=>⟨t,e⟩,fun _ _=>rfl,fun j hj=> .inl (O.hi j hj)⟩
 ·have:mp fp (nT T.fs k x')=mp fp T.fs:=by
   rw[vR,xR]
   rw[pW,hx];simp[fp,hid]
  show kK uy h' T.fm (mp fp (nT T.fs k x'))
  rw[this];exact f'.kmap O.fs (iy O.tf nofun)
 ·by_cases e:k'=k
  ·subst e
   have:=mR (yO O.nf) hk
   rw[sK,if_pos rfl] at this
   cases this;exact F
  ·rcases uG hk with q |q
   ·cases q;exact absurd rfl e
   ·exact O.f' f' (O.tg f.sz) (by simp[S,e]) (by simp[S,e]) q
end
structure Wy (T T':SD) (k:Int) (x:FD) (vs:List Val):Prop where
 fs:∃x',T'.fs=nT T.fs k x'∧x'.cls=x.cls∧x'.vs=vs∧x'.stated=x.stated∧x'.born=x.born∧x'.stamps=sD x.vs vs ((T.clock+1:Nat):Int) x.stamps
 sc:T'.p=T.p∧T'.tb=T.tb∧T'.most=T.most∧T'.next=T.next∧T'.clock=T.clock+1
 rw:∀i y,jr T' i y↔(jr T i y∧y≠k)∨(y=k∧(i= .all∨i= .c x.cls∨i= .k (x.cls,nV vs)))
theorem Od (old new:List Val) (c:Int) (st:List Int):(sD old new c st).length=st.length:=by simp[sD]
section
variable {B b:Nat} {τ:Nat→Tag} {o:Nat} {h0 h h':aj} {T:SD} {K:aC} {n:Nat} {cs:List Cls} {k:Int} {Q:Nat→Prop} {sv:AV} {gs:List (Str×Val)}
theorem SI.upd {T':SD} {x:FD} {vs:List Val} (I:SI cs b T) (hx:jm T.fs k=some x) (hl:vs.length=x.vs.length) (hb:∀v∈vs,jg v≤b) (U:Wy T T' k x vs):SI cs b T':=by
 obtain⟨x',fs,u1,u2,u3,u4,u5⟩:=U.fs
 obtain⟨c1,c2,cc3,cc4⟩:=I.fc k x (gU hx)
 have keys:T'.fs.map (fun p=>p.1)=T.fs.map fun p=>p.1:=by rw[fs];exact BP hx
 refine⟨by rw[keys];exact I.ks,fun j y q=> ?_,fun i y=> ?_,fun j y q=> ?_⟩
 ·rw[U.sc.2.2.2.1]
  rw[fs] at q
  rcases uG q with e |e
  ·cases e;exact I.kb k x (gU hx)
  ·exact I.kb j y e
 ·rw[U.rw,I.rw,fs,sK]
  by_cases e:y=k
  ·rw[if_pos e]
   constructor
   ·rintro(⟨_,q⟩|⟨_,q⟩)
    ·exact absurd e q
    ·refine⟨x',rfl, ?_⟩
     rcases q with rfl |rfl |rfl
     ·trivial
     ·exact u1
     ·show(x'.cls,nV x'.vs)=_
      rw[u1,u2]
   ·rintro⟨z,q,w⟩
    cases q
    refine .inr ⟨e, ?_⟩
    cases i with
    |all=>exact .inl rfl
    |c s=>have w:x'.cls=s:=w;rw[←w,u1];exact .inr (.inl rfl)
    |k s=>have w:(x'.cls,nV x'.vs)=s:=w;rw[←w,u1,u2];exact .inr (.inr rfl)
  ·rw[if_neg e];simp[e]
 ·rw[fs] at q
  rcases uG q with e |e
  ·cases e
   refine⟨by rw[u1];exact c1,by rw[u1,u2,hl];exact c2,by rw[u5,u2,Od,hl];exact cc3,by rw[u2];exact hb⟩
  ·exact I.fc j y e
theorem adY (O:SO B τ o h0 h T) (I:SI cs b T) (TR:fJ h0 T.tb cs) (A:Asc cs) (hcs:cs.length≤64) (hfs:∀s,(fieldsOf cs s).length≤62)
 (S:Sq Q h sv gs) (hQ:∀j,Q j→j<h.sz) (hgB:∀p∈gs,jg p.2≤b) (hb:62*b≤B)
 (hN:T.next<500000) (hC:T.clock<500000) (hB:B<100000000) (hn:3*B+3000000≤n) (hL:n+200<lim)
 (k0:jm T.fs k=none→K (.tup [.int .u64 0, .int .i64 7]) h=true)
 (k1:∀x,jm T.fs k=some x→given cs x.cls (zX T) gs x.vs=none→∀h',Ext h h'→h'.Ok→K (.tup [.int .u64 0, .int .i64 11]) h'=true)
 (k2:∀x,jm T.fs k=some x→given cs x.cls (zX T) gs x.vs=some x.vs→∀h',Ext h h'→h'.Ok→K (.tup [.int .u64 0, .int .i64 0]) h'=true)
 (k3:∀x vs,jm T.fs k=some x→given cs x.cls (zX T) gs x.vs=some vs→vs.length=x.vs.length→x.vs≠vs→∀h' τ' T',SO B τ' o h0 h' T'→St o τ τ' h h'→SI cs b T'→Wy T T' k x vs→K (.tup [.int .u64 ((dm x.vs vs vs.length:Nat):Int), .int .i64 0]) h'=true):
 aD E (n+8) (.func 10) [.ptr T.p 0 0 0, .int .i64 k,sv] h K=true:=by
 have hlm:lim=4611686018427387904:=rfl
 apply d10
 unfold s10
 have L:=O.lkf k
 cases hx:jm T.fs k with
 |none=>
  rw[hx] at L
  have L:fC h (.leaf .int) true .nilPtr (.map T.fm) (.int .i64 k)=some (.tup [.nilPtr, .bool false]):=L
  refine aN ?_;refine aA ?_;refine aF O.l4 ?_;refine aF L ?_;refine aJ ?_;refine aK ?_;refine aM ?_;refine bN ?_
  exact k0 hx
 |some x=>
  rw[hx] at L
  have L:fC h (.leaf .int) true .nilPtr (.map T.fm) (.int .i64 k)=some (.tup [.ptr x.id 0 0 0, .bool true]):=L
  have hk:=gU hx
  obtain⟨kb1,kb2⟩:=I.kb k x hk
  obtain⟨c1,c2,cc3,cc4⟩:=I.fc k x hk
  have hsm:small k:=⟨by omega,by omega⟩
  have F0:=O.f k x hk
  refine aN ?_;refine aA ?_;refine aF O.l4 ?_;refine aF L ?_;refine aJ ?_;refine aK ?_;refine aL ?_;refine bO ?_
  unfold J2
  refine aN ?_;refine aA ?_;refine aF F0.l2 ?_
  obtain⟨es0,W0,t0,D0⟩:=F0.vals
  have hf62:=hfs x.cls
  have hes0:es0.length=x.vs.length:=D0.length
  refine adn (n:=n+6) O.ok W0 (by omega) fun h1 v1 e1 o1 W1 M1 r1=> ?_
  have O1:=O.ext e1 o1
  have F1:=O1.f k x hk
  refine aN ?_;refine aA ?_;refine aF F1.l1 ?_
  have O1':SO B (gI τ (bL v1) .dat) o h0 h1 T:=O.fr (Fr.of_ext (X:=fun _=>False) e1) o1 (fun _ x=>x.elim) ⟨fun j hj=>dS fun q=>by have:=r1 j q;omega,fun j hj=>by
   rw[dS fun q=>by have:=W1.rlt o1 q;omega];exact O1.hi j hj⟩
  have D1:gM (DX (Out (gI τ (bL v1) .dat)) h1) es0 x.vs:=D0.mono fun _ _ r=>r.fr (Lt.of_ext e1) O.ok fun j hj e=>by
   show gI τ (bL v1) .dat j= .out
   rw[dS fun q=>by have:=r1 j q;omega];exact e
  obtain⟨ci,hci⟩:=Option.isSome_iff_exists.1 c1
  have fall:∀h5,Fr (fun j=>fieldsOf cs x.cls≠[]∧bL v1 j) h1 h5→Ext h h5:=fun h5 f5=>f5.ext e1 O.ok fun j q=>r1 j q.2
  refine aay (n:=n+2) (vals:=x.vs) O1' TR A hcs hci hf62 (fun h' L=>S h' ((Lt.of_ext e1).trans L)) (fun p hp=>by have:=hgB p hp;omega) c2 (fun ne=>⟨⟨es0,M1 (fun e=>ne (by apply List.eq_nil_of_length_eq_zero;rw[←c2, ←hes0,e];rfl)),D1⟩,fun j q=>gL q,fun j q w=>by have:=r1 j q;have:=hQ j w;omega⟩) (by omega) (by omega) (by omega) ?_ ?_
  ·intro hg h5 O5 f5
   refine aM ?_;refine bN ?_
   exact k1 x hx hg h5 (fall h5 f5) O5.ok
  intro vs hg hvl h2 O2 f2 W2
  have e2:=fall h2 f2
  refine aL ?_;refine bO ?_
  unfold Mx
  have hg':=hg
  have P2:=O.ext e2 O2.ok
  have D2:DV (Out τ) h2 v1 vs:=by
   have t1o:∀j,j<h2.sz→Out (gI τ (bL v1) .dat) j→Out τ j:=fun j _ q=>by
    have q:gI τ (bL v1) .dat j= .out:=q
    by_cases w:bL v1 j
    ·rw[gL w] at q;cases q
    ·rwa [dS w] at q
   have tvv:∀j,bL v1 j→Out τ j:=fun j q=>O.hi j (r1 j q)
   by_cases hF0:fieldsOf cs x.cls=[]
   ·have hv0:vs=[]:=by apply List.eq_nil_of_length_eq_zero;rw[hvl,c2,hF0];rfl
    have he0:es0=[]:=by apply List.eq_nil_of_length_eq_zero;rw[hes0,c2,hF0];rfl
    subst hv0
    subst he0
    exact⟨_,f2.view W1 fun id g s l c ex _ q=>q.1 hF0,tvv, .nil⟩
   ·obtain⟨es,M5,D⟩:=W2 hF0
    exact⟨es,M5.view,tvv,D.mono fun _ _ r=>r.fr (Lt.refl _ _) O2.ok t1o⟩
  have hlen:∀g,Ext h2 g→dw g 1 v1=some (.int .i64 (vs.length:Int)):=fun g e=>(D2.now.ext e).len
  refine aF (hlen h2 (Ext.refl _)) ?_
  have m0:(AV.int .u64 0)=AV.int .u64 ((0:Nat):Int):=rfl
  rw[m0]
  have hvb:∀v∈vs,jg v≤b:=Dz (P:=fun v=>jg v≤b) cc4 hgB hg
  suffices H:∀m i g,vs.length-i<m→i≤vs.length→Ext h2 g→g.Ok→C8 (aD E (n+7)) (n+7) m (.ptr T.p 0 0 0) (.ptr x.id 0 0 0) v1 (.int .u64 ((dm x.vs vs i:Nat):Int)) (.int .i64 (vs.length:Int)) (.int .i64 (i:Int)) g K=true from
   H (n+7) 0 h2 (by omega) (Nat.zero_le _) (Ext.refl _) O2.ok
  intro m
  induction m with
  |zero=>intro i g hm;omega
  |succ m ih=>
   intro i g hm hi e ok
   have Pg:=P2.ext e ok
   have Fg:=Pg.f k x hk
   unfold C8 Ku
   refine aT ?_
   by_cases hlt:i<vs.length
   ·refine iM (decide_eq_true (by omega)) ?_
    have hlt0:i<x.vs.length:=by omega
    obtain⟨id,gg,j,ee,p1,p2,R⟩:=(D2.now.ext e).at (List.getElem?_eq_getElem hlt)
    obtain⟨id',gg',j',ee',p1',p2',R'⟩:=Fg.vals.now.at (List.getElem?_eq_getElem hlt0)
    have A1:au g true 5 (.ptr id gg j 0)=some (.agg ee):=by rw[p2];exact R.agg.1
    have A2:au g true 5 (.ptr id' gg' j' 0)=some (.agg ee'):=by rw[p2'];exact R'.agg.1
    have hsz:=hvb _ (List.getElem_mem hlt)
    refine aF (p1 .i64) ?_;refine aF A1 ?_;refine aN ?_;refine aA ?_;refine aF Fg.l2 ?_;refine aF (p1' .i64) ?_;refine aF A2 ?_
    refine adK (k:=b) (n:=n+6) ok R R' hsz (by omega) (by omega) (by omega) fun g2 r e3 o3 hr=> ?_
    have e23:=bH e e3
    have hdm:dm x.vs vs (i+1)=if r=true then dm x.vs vs i else dm x.vs vs i|||2 ^ i:=by
     simp only[dm,List.getElem?_eq_getElem hlt,List.getElem?_eq_getElem hlt0,Option.some.injEq]
     cases r with
     |true=>rw[if_pos (hr.1 rfl).symm,if_pos rfl]
     |false=>rw[if_neg (fun q=>Bool.false_ne_true (hr.2 q.symm)),if_neg Bool.false_ne_true]
    have hlt2:=Na x.vs vs i
    have h2i:2 ^ i≤2 ^ 62:=Nat.pow_le_pow_right (by decide) (by omega)
    have h264:2 ^ 62<18446744073709551616:=by decide
    cases r with
    |true=>
     rw[if_pos rfl] at hdm
     refine aL ?_;refine bO ?_
     unfold Bg
     refine aF (dV (i:=i) (by omega)) ?_
     rw[←hdm]
     exact ih (i+1) g2 (by omega) (by omega) e23 o3
    |false=>
     rw[if_neg Bool.false_ne_true] at hdm
     refine aM ?_;refine bN ?_;refine aF (RX (i:=i) (by omega)) ?_;refine aF (Xd (a:=dm x.vs vs i) (b:=2 ^ i) (by omega) (by omega)) ?_
     unfold Bg
     refine aF (dV (i:=i) (by omega)) ?_
     rw[←hdm]
     exact ih (i+1) g2 (by omega) (by omega) e23 o3
   ·refine iF (decide_eq_false (by omega)) ?_
    have hiv:i=vs.length:=by omega
    subst hiv
    unfold Ma
    refine aX ?_
    by_cases hz:dm x.vs vs vs.length=0
    ·refine iM (decide_eq_true (by rw[hz];rfl)) ?_
     have heq:x.vs=vs:=(xO (by omega)).1 hz
     exact k2 x hx (by rw[hg,heq]) g (bH e2 e) ok
    ·refine iF (decide_eq_false (by omega)) ?_
     have hne:x.vs≠vs:=fun q=>hz ((xO (by omega)).2 q)
     have Dg:DV (Out τ) g v1 vs:=D2.fr (Lt.of_ext e) O2.ok fun _ _ q=>q
     unfold LQ
     refine aN ?_;refine aA ?_;refine aF Pg.l3 ?_;refine aF (dV (i:=T.clock) (by omega)) ?_;refine aN ?_;refine aA ?_
     obtain⟨h3,w3,V3,b3,o3,z3⟩:=Pg.var.wr Pg.ok (off:=3) (v:= .int .i64 ((T.clock+1:Nat):Int)) (show 3<8 by decide) rfl
     refine lq w3 ?_
     obtain⟨P3,s3⟩:=Pg.putS (nx:=T.next) (ck:=T.clock+1) b3 o3 V3
     obtain⟨T1,hT1⟩:∃T1:SD,T1={T with next:=T.next,clock:=T.clock+1}:=⟨_,rfl⟩
     rw[←hT1] at P3
     have sg:St o τ τ h g:=St.ext (bH e2 e) ok O.hi
     have s03:=sg.trans O.ok s3
     have D3:=Dg.st Pg.ok s3
     have p1:T1.p=T.p:=by rw[hT1]
     have r1':∀i,T1.row i=T.row i:=fun i=>by rw[hT1];cases i<;>rfl
     have hk1:(k,x)∈T1.fs:=by rw[hT1];exact hk
     have ir1:∀i y,jr T1 i y↔jr T i y:=fun i y=>by unfold jr;rw[r1']
     have len1:∀i r,T1.row i=some r→r.l.length≤500000:=fun i r e=>by
      have:=I.len O (by rw[←r1'];exact e);omega
     obtain⟨ra,ea,ka⟩:jr T1 (.k (keyOf x)) k:=by rw[ir1];exact(I.rw _ _).2 ⟨x,hx,rfl⟩
     rw[←p1]
     refine Z5 (n:=n+2) P3 hk1 hsm ea ka (by have:=len1 _ ra ea;omega) (by omega) (by omega) (by omega) fun h4 τ4 T2 P4 s4 S4=> ?_
     have p2:T2.p=T1.p:=by rw[S4.eq]
     have f2':T2.fs=T.fs:=by rw[S4.eq,hT1]
     have hx2:jm T2.fs k=some x:=by rw[f2'];exact hx
     have ir2:∀i y,jr T2 i y↔jr T i y∧¬(i= .k (keyOf x)∧y=k):=fun i y=>by
      rw[xC S4, ←ir1]
      by_cases e:i= .k (keyOf x)
      ·rw[if_pos e,e]
       have:jr T1 (.k (keyOf x)) y↔y∈ra.l:=by
        unfold jr
        constructor
        ·rintro⟨r,e,q⟩;rw[ea] at e;cases e;exact q
        ·exact fun q=>⟨_,ea,q⟩
       rw[this];simp
      ·rw[if_neg e];simp[e]
     have s04:=s03.trans O.ok s4
     have D4:=D3.st P3.ok s4
     have F4:=P4.f k x (gU hx2)
     refine aN ?_;refine aA ?_
     obtain⟨h5,w5,V5,b5,o5,z5⟩:=F4.row.wr P4.ok (off:=2) (v:=v1) (show 2<6 by decide) Dg.leaf
     refine lq w5 ?_
     have V5:Var h5 x.id [.int .i64 k, .str x.cls,v1, .bool x.stated, .int .i64 (x.born:Int),x.sv]:=V5
     have fr5:Fr (fun j=>τ4 j= .own o (.f k)∨τ4 j= .own o (.st k)) h4 h5:=Fr.of_but (.inl F4.tid) b5
     have D5:DV (Out τ4) h5 v1 vs:=D4.fr (Lt.of_fr fr5 fun j q w=>by rcases q with q |q<;>rw[show τ4 j= .out from w] at q<;>cases q) P4.ok fun _ _ q=>q
     have hvB:fU vs≤B:=by
      have h1:=CU hvb
      have h2:vs.length*b≤62*b:=Nat.mul_le_mul_right b (by omega)
      omega
     let x1:FD:={x with vv:=v1,vs:=vs}
     have FX:FO B τ4 o h5 k x1:=⟨F4.tid,V5,D5,hvB,F4.st.fr (X:=fun j=>j=x.id) (Fr.of_but rfl b5) fun j q w=>(by have:=F4.ts j q;rw[w,F4.tid] at this;cases this),F4.ts⟩
     obtain⟨P5,s5⟩:=P4.updF hx2 fr5 o5 FX rfl
     have s05:=s04.trans O.ok s5
     obtain⟨T3,hT3⟩:∃T3:SD,T3={T2 with fs:=nT T2.fs k x1}:=⟨_,rfl⟩
     rw[←hT3] at P5
     have p3:T3.p=T1.p:=by rw[hT3];exact p2
     have hx3:jm T3.fs k=some x1:=by rw[hT3];show jm (nT T2.fs k x1) k=_;rw[sK,if_pos rfl]
     have r3':∀i,T3.row i=T2.row i:=fun i=>by rw[hT3];cases i<;>rfl
     have nin3:∀r,T3.row (.k (keyOf x1))=some r→k ∉ r.l:=fun r e q=>by
      have:jr T2 (.k (keyOf x1)) k:=⟨r,by rw[←r3'];exact e,q⟩
      rw[ir2] at this
      obtain⟨z,ez,hz⟩:=(I.rw _ _).1 this.1
      rw[hx] at ez;cases ez
      exact this.2 ⟨by rw[show keyOf x=keyOf x1 from hz],rfl⟩
     have len3:∀r,T3.row (.k (keyOf x1))=some r→r.l.length<999999:=fun r e=>by
      have:=zN (a:=0) (N:=T.next) (P5.r _ r e).rn.srt (fun y hy=>by
       have:jr T2 (.k (keyOf x1)) y:=⟨r,by rw[←r3'];exact e,hy⟩
       obtain⟨z,ez,_⟩:=(I.rw _ _).1 ((ir2 _ _).1 this).1
       have:=I.kb y z (gU ez);omega) (by omega)
      omega
     rw[←p3]
     refine aaF (x:=x1) (n:=n+2) P5 (gU hx3) hsm nin3 len3 (by omega) (by omega) (by omega) fun h6 τ6 T4 P6 s6 S6=> ?_
     have s06:=s05.trans O.ok s6
     have p4:T4.p=T3.p:=by rw[S6.eq]
     have hrows:∀i y,jr T4 i y↔(jr T i y∧y≠k)∨(y=k∧(i= .all∨i= .c x.cls∨i= .k (x.cls,nV vs))):=fun i y=>by
      have i3:jr T3 i y↔jr T2 i y:=by unfold jr;rw[r3']
      have hkk:keyOf x1=(x.cls,nV vs):=rfl
      have h4:jr T4 i y↔jr T2 i y∨(i= .k (x.cls,nV vs)∧y=k):=by
       rw[xC S6,hkk]
       by_cases e:i= .k (x.cls,nV vs)
       ·rw[if_pos e,e]
        have:jr T2 (.k (x.cls,nV vs)) y↔∃r,T3.row (.k (x.cls,nV vs))=some r∧y∈r.l:=by unfold jr;rw[r3']
        rw[this]
        simp only[true_and]
        exact Or.comm
       ·rw[if_neg e,i3];simp[e]
      rw[h4,ir2]
      by_cases e:y=k
      ·have hit:jr T i y↔Hit i x:=by
        rw[I.rw,e,hx]
        constructor
        ·rintro⟨z,q,w⟩;cases q;exact w
        ·exact fun w=>⟨x,rfl,w⟩
       rw[hit]
       cases i with
       |all=>simp[e,Hit]
       |c s=>simp[e,Hit,eq_comm]
       |k s=>simp[e,Hit,eq_comm]
      ·simp[e]
     have hl6:dw h6 1 v1=some (.int .i64 (vs.length:Int)):=by
      have F6:=P6.f k x1 (by rw[S6.eq];exact gU hx3)
      exact F6.vals.now.len
     refine aF hl6 ?_
     have hsl:x.stamps.length=vs.length:=by rw[cc3,hvl]
     have eq6:T4={T with clock:=T.clock+1,fs:=nT T.fs k x1,all:=T4.all,by':=T4.by',same:=T4.same}:=by rw[S6.eq,hT3,S4.eq,hT1]
     rw[p3,p1]
     suffices H:∀m i g τg Tg L,vs.length-i<m→i≤vs.length→SO B τg o h0 g Tg→St o τ τg h g→Tg={T with clock:=T.clock+1,fs:=nT T.fs k {x1 with stamps:=L},all:=T4.all,by':=T4.by',same:=T4.same}→L.length=x.stamps.length→(∀j,L[j]? =if j<i then(sD x.vs vs ((T.clock+1:Nat):Int) x.stamps)[j]? else x.stamps[j]?)→
      AL (aD E (n+7)) (n+7) m (.ptr T.p 0 0 0) (.ptr x.id 0 0 0) (.int .u64 ((dm x.vs vs vs.length:Nat):Int)) (.int .i64 (vs.length:Int)) (.int .i64 (i:Int)) g K=true from
      H (n+7) 0 h6 τ6 T4 x.stamps (by omega) (Nat.zero_le _) P6 s06 eq6 rfl (fun j=>by rw[if_neg (by omega)])
     clear ih
     intro m
     induction m with
     |zero=>intro i g τg Tg L hm;omega
     |succ m ih=>
      intro i g τg Tg L hm hi P s eqg hL' hLj
      unfold AL MN
      refine aT ?_
      have hlt62:=Na x.vs vs vs.length
      have h2i:2 ^ vs.length≤2 ^ 62:=Nat.pow_le_pow_right (by decide) (by omega)
      have h264:2 ^ 62<18446744073709551616:=by decide
      by_cases hlt:i<vs.length
      ·refine iM (decide_eq_true (by omega)) ?_
       obtain⟨vb,mb1,mb2⟩:=RH (m:=dm x.vs vs vs.length) (i:=i) (by omega)
       refine aF (Sd (m:=dm x.vs vs vs.length) (i:=i) (by omega)) ?_;refine aF mb1 ?_;refine aF mb2 ?_
       rw[oU]
       have hni:(sD x.vs vs ((T.clock+1:Nat):Int) x.stamps)[i]? =some (if x.vs[i]? =vs[i]? then x.stamps[i]'(by omega) else((T.clock+1:Nat):Int)):=by
        unfold sD
        rw[List.getElem?_mapIdx,List.getElem?_eq_getElem (by omega:i<x.stamps.length)];rfl
       by_cases hch:x.vs[i]? =vs[i]?
       ·rw[decide_eq_false (fun q=>q.2 hch)]
        refine bO ?_
        unfold Br
        refine aF (dV (i:=i) (by omega)) ?_
        refine ih (i+1) g τg Tg L (by omega) (by omega) P s eqg hL' fun j=> ?_
        rw[hLj]
        by_cases e1:j=i
        ·subst e1
         rw[if_neg (by omega),if_pos (by omega),hni,if_pos hch,List.getElem?_eq_getElem (by omega)]
        ·by_cases e2:j<i
         ·rw[if_pos e2,if_pos (by omega)]
         ·rw[if_neg e2,if_neg (by omega)]
       ·rw[decide_eq_true ⟨hlt,hch⟩]
        have hxg:jm Tg.fs k=some {x1 with stamps:=L}:=by rw[eqg];show jm (nT T.fs k _) k=_;rw[sK,if_pos rfl]
        have Fg:=P.f k _ (gU hxg)
        have A5:au g false 1 (.ptr x.id 0 0 5)=some x.sv:=Fg.l5
        have L3:au g false 1 (.ptr T.p 0 0 3)=some (.int .i64 ((T.clock+1:Nat):Int)):=by have:=P.l3;rw[eqg] at this;exact this
        have hil:i<(ints L).length:=by rw[dN];omega
        have Ms:Mr g 1 x.sv (ints L):=Fg.st
        obtain⟨id3,g3,i1,i2,g',i3,M',b',z',o'⟩:=Ms.set (x:= .int .i64 ((T.clock+1:Nat):Int)) (List.getElem?_eq_getElem hil) (by simp[ints]) rfl rfl
        refine bN ?_;refine aN ?_;refine aA ?_;refine aF A5 ?_;refine aN ?_;refine aA ?_;refine aF L3 ?_;refine aF (i1 .i64) ?_;refine lq i3 ?_
        unfold Br
        refine aF (dV (i:=i) (by omega)) ?_
        have t3:=Fg.ts id3 i2
        have frw:Fr (fun j=>τg j= .own o (.f k)∨τg j= .own o (.st k)) g g':=Fr.of_but (.inr t3) b'
        have ne3:x.id≠id3:=fun w=>by have:=Fg.tid;rw[show({x1 with stamps:=L}:FD).id=x.id from rfl,w,t3] at this;cases this
        have sw:ints (L.set i ((T.clock+1:Nat):Int))=(ints L).set i [AV.int .i64 ((T.clock+1:Nat):Int)]:=by simp[ints,List.map_set]
        have FX':FO B τg o g' k {x1 with stamps:=L.set i ((T.clock+1:Nat):Int)}:=⟨Fg.tid,b'.var Fg.row ne3,Fg.vals.fr (Lt.of_fr frw fun j q w=>by rcases q with q |q<;>rw[show τg j= .out from w] at q<;>cases q) P.ok fun _ _ q=>q,Fg.sz,(by show Mr g' 1 x.sv (ints (L.set i _));rw[sw];exact M'),Fg.ts⟩
        obtain⟨P',s'⟩:=P.updF hxg frw (o' P.ok) FX' rfl
        refine ih (i+1) g' τg _ (L.set i ((T.clock+1:Nat):Int)) (by omega) (by omega) P' (s.trans O.ok s') (by rw[eqg];simp only[SN]) (by rw[List.length_set];exact hL') fun j=> ?_
        by_cases e1:j=i
        ·subst e1
         rw[List.getElem?_set_self (by omega),if_pos (by omega),hni,if_neg hch]
        ·rw[List.getElem?_set_ne (fun w=>e1 w.symm),hLj]
         by_cases e2:j<i
         ·rw[if_pos e2,if_pos (by omega)]
         ·rw[if_neg e2,if_neg (by omega)]
      ·refine iF (decide_eq_false (by omega)) ?_
       have hLn:L=sD x.vs vs ((T.clock+1:Nat):Int) x.stamps:=by
        apply List.ext_getElem?
        intro j
        rw[hLj]
        by_cases e:j<i
        ·rw[if_pos e]
        ·rw[if_neg e,List.getElem?_eq_none (by omega),List.getElem?_eq_none (by rw[Od];omega)]
       have U:Wy T Tg k x vs:=by
        refine⟨⟨{x1 with stamps:=L},by rw[eqg],rfl,rfl,rfl,rfl,hLn⟩,⟨by rw[eqg],by rw[eqg],by rw[eqg],by rw[eqg],by rw[eqg]⟩,fun i y=> ?_⟩
        rw[←hrows]
        unfold jr
        have:Tg.row i=T4.row i:=by rw[eqg];cases i<;>rfl
        rw[this]
       exact k3 x vs hx hg hvl hne g τg Tg P s (I.upd hx hvl hvb U) U
end
theorem aax {n:Nat} {h:aj} {v:AV} {es:List (List AV)} {K:aC} (ho:h.Ok) (V:View h 1 v es) (hl:es.length<1000000)
 (k:∀h' v',Ext h h'→h'.Ok→View h' 1 v' es→((v'= .nilSlc∧es=[])∨Mr h' 1 v' es)→(∀j,bL v' j→h.sz≤j)→K v' h'=true):aD E (n+1) (.func 71) [v] h K=true:=by
 apply d71
 unfold s71
 have hnil:v= .nilSlc∨ru h false .slc v .nilSlc=some (.bool false):=by
  rcases V with⟨_,rfl |rfl⟩|⟨id,g,s,cap,ex,r,rfl,_⟩
  ·exact .inl rfl
  ·exact .inr rfl
  ·exact .inr rfl
 rcases hnil with rfl |hne
 ·have hes:es=[]:=by
   rcases V with⟨e,_⟩|⟨_,_,_,_,_,_,e,_⟩
   ·exact e
   ·cases e
  have:ru h false .slc .nilSlc .nilSlc=some (.bool true):=rfl
  refine aF this ?_;refine bN ?_
  exact k h _ (Ext.refl h) ho V (.inl ⟨rfl,hes⟩) fun j q=>absurd q eH
 ·refine aF hne ?_;refine bO ?_
  have hb:dX h 0 1 [AV.int .i64 0] []=some (.slc h.sz 0 0 0 0 true,Ab.newRow h [] 1):=rfl
  refine iW hb ?_
  have e1:=bU ho [] 1
  have o1:=cZ ho [] 1
  have r1:(Ab.newRow h [] 1).row h.sz=some {es:=[],sz:=1,g:=0,m:=0,rw:=true}:=by rw[aj.row_some];exact eX _ _
  generalize Ab.newRow h [] 1=h1 at *
  have V1:=V.ext e1
  cases es with
  |nil=>
   have:cK h1 1 8 (.slc h.sz 0 0 0 0 true) v=some (.slc h.sz 0 0 0 0 true,h1):=by
    simp only[cK,show Nat.beq 1 0=false from rfl,cond_false,V1.src,eZ]
   refine iW this ?_
   exact k h1 _ e1 o1 (.inr ⟨h.sz,0,0,0,true,_,rfl,r1,Nat.le_refl _,rfl,rfl,Nat.le_refl _⟩) (.inr ⟨h.sz,0,true,_,rfl,r1,rfl,Nat.le_refl _,rfl,rfl,Nat.le_refl _⟩) fun j q=>by rw[dh.1 q];exact Nat.le_refl _
  |cons y l=>
   have b1:Nat.ble ((0+(y :: l).length)*8) most=true:=bI.2 (by unfold most;omega)
   have b2:Nat.ble (0+(y :: l).length) most=true:=bI.2 (by unfold most;omega)
   have b3:Nat.ble (0+(y :: l).length) 0=false:=by
    cases hh:Nat.ble (0+(y :: l).length) 0 with
    |false=>rfl
    |true=>have:=bI.1 hh;simp at this
   have:cK h1 1 8 (.slc h.sz 0 0 0 0 true) v=some (.slc h1.sz 0 0 (0+(y :: l).length) (0+(y :: l).length) false,Ab.newRow h1 (y :: l) 1):=by
    simp only[cK,show Nat.beq 1 0=false from rfl,cond_false,V1.src,eZ,r1,b1,b2,b3,Nat.beq_refl,Bool.and_self,cond_true,Nat.ble_self_eq_true,List.drop_nil,List.take_nil,List.length_nil,List.nil_append]
   refine iW this ?_
   have M:Mr (Ab.newRow h1 (y :: l) 1) 1 (.slc h1.sz 0 0 (0+(y :: l).length) (0+(y :: l).length) false) (y :: l):=
    ⟨h1.sz,0+(y :: l).length,false,{es:=y :: l,sz:=1,g:=0,m:=0,rw:=true},by simp,by rw[aj.row_some];exact eX _ _,rfl,Nat.le_refl _,rfl,rfl,by simp⟩
   exact k _ _ (e1.trans (bU o1 _ 1)) (cZ o1 _ 1) M.view (.inr M) fun j q=>by rw[←dh.1 q];exact e1.1
structure PF where
 k:Int
 cls:Str
 vs:List Val
 stated:Bool
 born:Nat
 stamps:List Int
def pf (p:Int×FD):PF:=⟨p.1,p.2.cls,p.2.vs,p.2.stated,p.2.born,p.2.stamps⟩
def RF (h:aj) (a:List AV) (f:PF):Prop:=∃vv sv,a=[.int .i64 f.k, .str f.cls,vv, .bool f.stated, .int .i64 (f.born:Int),sv]∧VV h vv f.vs∧View h 1 sv (ints f.stamps)
def FV (h:aj) (v:AV) (l:List PF):Prop:=∃es,View h 6 v es∧gM (RF h) es l
theorem RF.ext {h h':aj} {a:List AV} {f:PF} (R:RF h a f) (e:Ext h h'):RF h' a f:=let⟨vv,sv,q,V,W⟩:=R;⟨vv,sv,q,V.ext e,W.ext e⟩
structure Tld (h h2:aj) (x:FD) (vv sv:AV):Prop where
 g:∃lo hi,Gv x.vs h2 lo hi vv∧h.sz≤lo∧lo≤hi∧hi≤h2.sz∧∀j,bL sv j→hi≤j∧j<h2.sz
 l:vv.leaf=true
 v:View h2 1 sv (ints x.stamps)
 m:(sv= .nilSlc∧ints x.stamps=[])∨Mr h2 1 sv (ints x.stamps)
section
variable {B b:Nat} {τ:Nat→Tag} {o:Nat} {h0 h h':aj} {T:SD} {K:aC} {n:Nat} {k:Int} {x:FD}
theorem aaS (F:FO B τ o h k x) (ho:h.Ok) (hs:x.stamps.length<1000000) (hB:B<100000000) (hn:B+100≤n) (hL:n<lim)
 (kk:∀h2 vv sv,Ext h h2→h2.Ok→Tld h h2 x vv sv→K (.agg [.int .i64 k, .str x.cls,vv, .bool x.stated, .int .i64 (x.born:Int),sv]) h2=true):aD E (n+2) (.func 41) [.ptr x.id 0 0 0] h K=true:=by
 have hBs:=F.sz
 apply d41
 unfold s41
 obtain⟨h1,q1,V1,e1,o1,z1⟩:=gW (z:=[AV.int .i64 0, .str [], .nilSlc, .bool false, .int .i64 0, .nilSlc]) ho (by decide) rfl
 refine iW q1 ?_
 have R1:=F.row.ext e1
 have A:au h1 true 6 (.ptr x.id 0 0 0)=some (.agg [.int .i64 k, .str x.cls,x.vv, .bool x.stated, .int .i64 (x.born:Int),x.sv]):=R1.all rfl
 refine aN ?_;refine aF A ?_
 obtain⟨h2,q2,V2,e2,o2,z2⟩:=gW (z:=[AV.int .i64 0, .str [], .nilSlc, .bool false, .int .i64 0, .nilSlc]) o1 (by decide) rfl
 refine iW q2 ?_
 have lvv:=F.vals.leaf
 have lsv:x.sv.leaf=true:=F.st.view.leaf
 obtain⟨h3,w3,V3,b3,o3,z3⟩:=V2.wrs o2 (n:=6) (v:= .agg [.int .i64 k, .str x.cls,x.vv, .bool x.stated, .int .i64 (x.born:Int),x.sv]) rfl rfl (by show aV [.int .i64 k, .str x.cls,x.vv, .bool x.stated, .int .i64 (x.born:Int),x.sv]=true;simp only[aV,lvv,lsv];rfl)
 refine lq w3 ?_
 have V3:Var h3 h1.sz [.int .i64 k, .str x.cls,x.vv, .bool x.stated, .int .i64 (x.born:Int),x.sv]:=V3
 have e03:Ext h h3:=b3.ext (bH e1 e2) ho (by omega)
 have R3:=F.row.ext e03
 have A2:au h3 false 1 (.ptr x.id 0 0 2)=some x.vv:=R3.get rfl
 have A5:∀g,Ext h3 g→au g false 1 (.ptr x.id 0 0 5)=some x.sv:=fun g e=>(R3.ext e).get rfl
 refine aN ?_;refine aA ?_;refine aF A2 ?_;refine aN ?_;refine aA ?_;refine aF (A5 h3 (Ext.refl _)) ?_
 have VV3:VV h3 x.vv x.vs:=F.vals.now.ext e03
 refine ac8 (n:=n) VV3 o3 (by omega) (by omega) hL fun h4 vv e4 o4 l4 s4 G=> ?_
 refine fQ (A5 h4 e4) F.st.view.same ?_
 refine aax (n:=n) o4 ((F.st.view.ext e03).ext e4) (by rw[dN];exact hs) fun h5 sv e5 o5 W5 M5 r5=> ?_
 have V5:=(V3.ext e4).ext e5
 obtain⟨h6,w6,V6,b6,o6,z6⟩:=V5.wr o5 (off:=2) (v:=vv) (show 2<6 by decide) l4
 refine aA ?_
 refine lq w6 ?_
 have V6:Var h6 h1.sz [.int .i64 k, .str x.cls,vv, .bool x.stated, .int .i64 (x.born:Int),x.sv]:=V6
 obtain⟨h7,w7,V7,b7,o7,z7⟩:=V6.wr o6 (off:=5) (v:=sv) (show 5<6 by decide) W5.leaf
 refine aA ?_
 refine lq w7 ?_
 have V7:Var h7 h1.sz [.int .i64 k, .str x.cls,vv, .bool x.stated, .int .i64 (x.born:Int),sv]:=V7
 have A7:au h7 true 6 (.ptr h1.sz 0 0 0)=some (.agg [.int .i64 k, .str x.cls,vv, .bool x.stated, .int .i64 (x.born:Int),sv]):=V7.all rfl
 refine aF A7 ?_
 have e23:Ext h1 h3:=b3.ext e2 o1 (Nat.le_refl _)
 have U1:=(((V1.ext e23).ext e4).ext e5)
 have s1:=e1.1
 have U7:=b7.var (b6.var U1 (show h.sz≠h1.sz by omega)) (show h.sz≠h1.sz by omega)
 have lsv':=W5.leaf
 obtain⟨h8,w8,V8,b8,o8,z8⟩:=U7.wrs o7 (n:=6) (v:= .agg [.int .i64 k, .str x.cls,vv, .bool x.stated, .int .i64 (x.born:Int),sv]) rfl rfl (by show aV [.int .i64 k, .str x.cls,vv, .bool x.stated, .int .i64 (x.born:Int),sv]=true;simp only[aV,l4,lsv'];rfl)
 refine lq w8 ?_
 have V8:Var h8 h.sz [.int .i64 k, .str x.cls,vv, .bool x.stated, .int .i64 (x.born:Int),sv]:=V8
 refine res1 (V8.all rfl) ?_
 have s3:=e03.1
 have s4':=e4.1
 have s5:=e5.1
 have hz3:h3.sz=h1.sz+1:=by omega
 have e05:Ext h h5:=bH (bH e03 e4) e5
 have e08:Ext h h8:=b8.ext (b7.ext (b6.ext e05 ho (by omega)) ho (by omega)) ho (Nat.le_refl _)
 have f58:Fr (fun j=>j=h1.sz∨j=h.sz) h5 h8:=((Fr.of_but (.inl rfl) b6).trans (Fr.of_but (.inl rfl) b7)).trans (Fr.of_but (.inr rfl) b8)
 have dr:∀j,bL sv j→¬(j=h1.sz∨j=h.sz):=fun j q w=>by have:=r5 j q;omega
 refine kk h8 vv sv e08 o8 ⟨⟨h3.sz,h4.sz,(G.fr (Kp.of_ext e5)).fr (Kp.of_fr f58 fun j w=>by omega),s3,s4',by have:=f58.sz;omega,fun j q=>⟨r5 j q,by have:=W5.rlt o5 q;have:=f58.sz;omega⟩⟩,l4,f58.view W5 fun id g s l c ex e=>dr id (by rw[e];exact dh.2 rfl),M5.imp id fun M=>M.fr f58 dr⟩
end
section
variable {B b:Nat} {τ:Nat→Tag} {o:Nat} {h0 h h':aj} {T:SD} {K:aC} {n:Nat} {cs:List Cls}
theorem SI.all (I:SI cs b T) (O:SO B τ o h0 h T):T.all.l=T.fs.map fun p=>p.1:=by
 refine zO (O.r .all T.all rfl).rn.srt I.ks fun y=> ?_
 have:y∈T.all.l↔jr T .all y:=⟨fun q=>⟨_,rfl,q⟩,fun⟨r,e,q⟩=>by cases e;exact q⟩
 rw[this,I.rw]
 constructor
 ·rintro⟨x,e,_⟩;exact List.mem_map.2 ⟨_,gU e,rfl⟩
 ·intro q
  obtain⟨⟨k,x⟩,e,rfl⟩:=List.mem_map.1 q
  exact⟨x,mR O.nf e,trivial⟩
theorem SI.fslen (I:SI cs b T) (O:SO B τ o h0 h T):T.fs.length≤T.next:=by
 have:=I.len O (i:= .all) rfl
 rw[I.all O,List.length_map] at this;exact this
theorem acp (O:SO B τ o h0 h T) (kk:K (.int .i64 (T.clock:Int)) h=true):aD E (n+1) (.func 16) [.ptr T.p 0 0 0] h K=true:=by
 apply d16
 unfold s16
 refine aN ?_;refine aA ?_;refine aF O.l3 ?_
 exact kk
theorem aei (O:SO B τ o h0 h T) (kk:K (.int .i64 (T.fs.length:Int)) h=true):aD E (n+1) (.func 15) [.ptr T.p 0 0 0] h K=true:=by
 apply d15
 unfold s15
 have flen:dw h 2 (.map T.fm)=some (.int .i64 (T.fs.length:Int)):=by have:=O.fs.len;simpa[mp] using this
 refine aN ?_;refine aA ?_;refine aF O.l4 ?_;refine aF flen ?_
 exact kk
end
theorem WQ {n:Nat} {hs:aj} {v v':AV} {l l':List Int} {K:aC} (V:View hs 1 v (ints l)) (V':View hs 1 v' (ints l')) (hlen:l.length<1000000000) (hn:l.length<n)
 (kk:∀r,(r=true↔l=l')→K (.bool r) hs=true):aD E (n+1) (.func 46) [v,v'] hs K=true:=by
 have hlm:lim=4611686018427387904:=rfl
 apply d46
 unfold s46
 have la:dw hs 1 v=some (.int .i64 (l.length:Int)):=by have:=V.len;rwa [dN] at this
 have lb:dw hs 1 v'=some (.int .i64 (l'.length:Int)):=by have:=V'.len;rwa [dN] at this
 refine aF la ?_;refine aF lb ?_;refine aY ?_
 by_cases hll:l.length=l'.length
 rotate_left
 ·refine iM (by rw[decide_eq_false (by omega)];rfl) ?_
  exact kk false ⟨fun h=>(by cases h),fun h=>absurd (by rw[h]) hll⟩
 refine iF (by rw[decide_eq_true (by omega)];rfl) ?_
 unfold MS
 suffices H:∀m i,l.length-i<m→i≤l.length→l.take i=l'.take i→AQ (aD E n) n m v v' (.int .i64 (i:Int)) hs K=true from
  H n 0 (by omega) (Nat.zero_le _) rfl
 intro m
 induction m with
 |zero=>intro i hm;omega
 |succ m ihm=>
  intro i hm hi C
  unfold AQ Kj
  refine aF la ?_;refine aT ?_
  by_cases hlt:i<l.length
  ·refine iM (decide_eq_true (by omega)) ?_
   have hlt':i<l'.length:=by omega
   obtain⟨id,g,j,p1,p2⟩:=V.at (qD hlt)
   obtain⟨id',g',j',p1',p2'⟩:=V'.at (qD hlt')
   have A:au hs false 1 (.ptr id g j 0)=some (.int .i64 l[i]):=by rw[p2];rfl
   have A':au hs false 1 (.ptr id' g' j' 0)=some (.int .i64 l'[i]):=by rw[p2'];rfl
   have t1:l.take (i+1)=l.take i++[l[i]]:=by rw[List.take_succ_eq_append_getElem hlt]
   have t2:l'.take (i+1)=l'.take i++[l'[i]]:=by rw[List.take_succ_eq_append_getElem hlt']
   refine aF (p1 .i64) ?_;refine aF A ?_;refine aF (p1' .i64) ?_;refine aF A' ?_;refine aY ?_
   by_cases c0:l[i]=l'[i]
   rotate_left
   ·rw[decide_eq_false c0,Bool.not_false]
    refine bN ?_
    exact kk false ⟨fun h=>(by cases h),fun h=>absurd (by subst h;rfl) c0⟩
   rw[decide_eq_true c0,Bool.not_true]
   refine bO ?_;refine aF (dV (i:=i) (by omega)) ?_
   exact ihm (i+1) (by omega) (by omega) (by rw[t1,t2,C,c0])
  ·refine iF (decide_eq_false (by omega)) ?_
   refine kk true ⟨fun _=> ?_,fun _=>rfl⟩
   rw[List.take_of_length_le (by omega),List.take_of_length_le (by omega)] at C
   exact C
def fit (b:Nat) (f:PF):Prop:=fU f.vs≤b∧f.stamps.length≤b
theorem Xm {n b:Nat} {h:aj} {a a':List AV} {f f':PF} {K:aC} (ho:h.Ok) (R:RF h a f) (R':RF h a' f') (hf:fit b f) (hb:b<1000000000) (hn:2*b+2<n) (hL:n<lim)
 (kk:∀h2 r,Ext h h2→h2.Ok→(r=true↔f=f')→K (.bool r) h2=true):aD E (n+2) (.func 42) [.agg a, .agg a'] h K=true:=by
 obtain⟨k,c,vs,st,bo,sp⟩:=f
 obtain⟨k',c',vs',st',bo',sp'⟩:=f'
 obtain⟨vv,sv,rfl,V,W⟩:=R
 obtain⟨vv',sv',rfl,V',W'⟩:=R'
 have hf1:fU vs≤b:=hf.1
 have hf2:sp.length≤b:=hf.2
 have lv:=V.leaf
 have lw:=W.leaf
 have lv':=V'.leaf
 have lw':=W'.leaf
 apply d42
 unfold s42
 obtain⟨h1,q1,V1,e1,o1,z1⟩:=kZ (n:=6) (v:= .agg [.int .i64 k, .str c,vv, .bool st, .int .i64 (bo:Int),sv]) ho rfl (by decide) (by show aV [.int .i64 k, .str c,vv, .bool st, .int .i64 (bo:Int),sv]=true;simp only[aV,lv,lw];rfl)
 refine iW q1 ?_
 obtain⟨h2,q2,V2,e2,o2,z2⟩:=kZ (n:=6) (v:= .agg [.int .i64 k', .str c',vv', .bool st', .int .i64 (bo':Int),sv']) o1 rfl (by decide) (by show aV [.int .i64 k', .str c',vv', .bool st', .int .i64 (bo':Int),sv']=true;simp only[aV,lv',lw'];rfl)
 refine iW q2 ?_
 have V1:Var h2 h.sz [.int .i64 k, .str c,vv, .bool st, .int .i64 (bo:Int),sv]:=V1.ext e2
 have V2:Var h2 h1.sz [.int .i64 k', .str c',vv', .bool st', .int .i64 (bo':Int),sv']:=V2
 have e12:=bH e1 e2
 have A0:au h2 false 1 (.ptr h.sz 0 0 0)=some (.int .i64 k):=V1.get rfl
 have A1:au h2 false 1 (.ptr h.sz 0 0 1)=some (.str c):=V1.get rfl
 have A2:au h2 false 1 (.ptr h.sz 0 0 2)=some vv:=V1.get rfl
 have B0:au h2 false 1 (.ptr h1.sz 0 0 0)=some (.int .i64 k'):=V2.get rfl
 have B1:au h2 false 1 (.ptr h1.sz 0 0 1)=some (.str c'):=V2.get rfl
 have B2:au h2 false 1 (.ptr h1.sz 0 0 2)=some vv':=V2.get rfl
 have no:∀{g:aj} {p:Prop},Ext h g→g.Ok→¬p→((PF.mk k c vs st bo sp=PF.mk k' c' vs' st' bo' sp')→p)→K (.bool false) g=true:=fun e o hp hq=>kk _ false e o ⟨fun h=>(by cases h),fun h=>absurd (hq h) hp⟩
 refine aA ?_;refine aF A0 ?_;refine aA ?_;refine aF B0 ?_;refine aX ?_
 by_cases c0:k=k'
 rotate_left
 ·rw[decide_eq_false c0]
  refine aG ?_;refine aG ?_;refine aG ?_;refine aG ?_;refine aG ?_;refine bM ?_;refine aG ?_;refine aG ?_;refine aG ?_;refine aG ?_;refine aW ?_;refine bM ?_;refine aG ?_;refine aG ?_;refine aG ?_;refine aG ?_;refine aG ?_;refine bM ?_;refine aG ?_;refine aG ?_;refine aG ?_;refine aG ?_;refine aG ?_;refine bM ?_;refine aG ?_;refine aG ?_;refine aG ?_;refine aG ?_;refine aW ?_;refine bM ?_
  exact no e12 o2 c0 fun h=>by cases h;rfl
 rw[decide_eq_true c0]
 refine aP ?_;refine aA ?_;refine aP ?_;refine aF A1 ?_;refine aP ?_;refine aA ?_;refine aP ?_;refine aF B1 ?_;refine aP ?_;refine bq ?_;refine bQ ?_
 by_cases c1:c=c'
 rotate_left
 ·rw[decide_eq_false c1]
  refine aG ?_;refine aG ?_;refine aG ?_;refine aG ?_;refine aW ?_;refine bM ?_;refine aG ?_;refine aG ?_;refine aG ?_;refine aG ?_;refine aG ?_;refine bM ?_;refine aG ?_;refine aG ?_;refine aG ?_;refine aG ?_;refine aG ?_;refine bM ?_;refine aG ?_;refine aG ?_;refine aG ?_;refine aG ?_;refine aW ?_;refine bM ?_
  exact no e12 o2 c1 fun h=>by cases h;rfl
 rw[decide_eq_true c1]
 refine aP ?_;refine aA ?_;refine aP ?_;refine aF A2 ?_;refine aP ?_;refine aA ?_;refine aP ?_;refine aF B2 ?_;refine bf ?_
 refine JO b n (V.ext e12) (V'.ext e12) o2 hf1 (by omega) (by omega) (by omega) fun h3 r e3 o3 hr=> ?_
 have e13:=bH e12 e3
 cases r with
 |false=>
  refine bQ ?_;refine aG ?_;refine aG ?_;refine aG ?_;refine aG ?_;refine aG ?_;refine bM ?_;refine aG ?_;refine aG ?_;refine aG ?_;refine aG ?_;refine aG ?_;refine bM ?_;refine aG ?_;refine aG ?_;refine aG ?_;refine aG ?_;refine aW ?_;refine bM ?_
  exact no e13 o3 (p:=vs=vs') (fun q=>by have:=hr.2 q;cases this) fun h=>by cases h;rfl
 |true=>
  have c2:vs=vs':=hr.1 rfl
  have U1:=V1.ext e3
  have U2:=V2.ext e3
  have A3:au h3 false 1 (.ptr h.sz 0 0 3)=some (.bool st):=U1.get rfl
  have A4:au h3 false 1 (.ptr h.sz 0 0 4)=some (.int .i64 (bo:Int)):=U1.get rfl
  have A5:au h3 false 1 (.ptr h.sz 0 0 5)=some sv:=U1.get rfl
  have B3:au h3 false 1 (.ptr h1.sz 0 0 3)=some (.bool st'):=U2.get rfl
  have B4:au h3 false 1 (.ptr h1.sz 0 0 4)=some (.int .i64 (bo':Int)):=U2.get rfl
  have B5:au h3 false 1 (.ptr h1.sz 0 0 5)=some sv':=U2.get rfl
  refine bQ ?_;refine aP ?_;refine aA ?_;refine aP ?_;refine aF A3 ?_;refine aP ?_;refine aA ?_;refine aP ?_;refine aF B3 ?_;refine aP ?_;refine aF (NK h3 st st') ?_;refine bQ ?_
  by_cases cc3:st=st'
  rotate_left
  ·rw[beq_eq_false_iff_ne.2 cc3]
   refine aG ?_;refine aG ?_;refine aG ?_;refine aG ?_;refine aG ?_;refine bM ?_;refine aG ?_;refine aG ?_;refine aG ?_;refine aG ?_;refine aW ?_;refine bM ?_
   exact no e13 o3 cc3 fun h=>by cases h;rfl
  rw[beq_iff_eq.2 cc3]
  refine aP ?_;refine aA ?_;refine aP ?_;refine aF A4 ?_;refine aP ?_;refine aA ?_;refine aP ?_;refine aF B4 ?_;refine aP ?_;refine aX ?_;refine bQ ?_
  by_cases cc4:(bo:Int)=(bo':Int)
  rotate_left
  ·rw[decide_eq_false cc4]
   refine aG ?_;refine aG ?_;refine aG ?_;refine aG ?_;refine aW ?_;refine bM ?_
   exact no e13 o3 cc4 fun h=>by cases h;rfl
  rw[decide_eq_true cc4]
  refine aP ?_;refine aA ?_;refine aP ?_;refine aF A5 ?_;refine aP ?_;refine aA ?_;refine aP ?_;refine aF B5 ?_;refine bf ?_
  refine WQ (n:=n) (l:=sp) (l':=sp') (W.ext e13) (W'.ext e13) (by omega) (by omega) fun r hr5=> ?_
  refine bQ ?_
  refine kk h3 r e13 o3 (hr5.trans ⟨fun q=> ?_,fun q=> ?_⟩)
  ·have cc4':bo=bo':=by omega
   rw[c0,c1,c2,cc3,cc4',q]
  ·cases q;rfl
theorem aeR {n b:Nat} {hs:aj} {v v':AV} {l l':List PF} {K:aC} (V:FV hs v l) (V':FV hs v' l') (ho:hs.Ok) (hf:∀f∈l,fit b f) (hb:b<1000000000) (hlen:l.length<1000000) (hn:2*b+l.length+4<n) (hL:n<lim)
 (kk:∀h2 r,Ext hs h2→h2.Ok→(r=true↔l=l')→K (.bool r) h2=true):aD E (n+1) (.func 18) [v,v'] hs K=true:=by
 have hlm:lim=4611686018427387904:=rfl
 obtain⟨es,W,A⟩:=V
 obtain⟨es',W',A'⟩:=V'
 apply d18
 unfold s18
 have la:∀h,Ext hs h→dw h 1 v=some (.int .i64 (l.length:Int)):=fun h e=>by rw[(W.ext e).len,A.length]
 have lb:dw hs 1 v'=some (.int .i64 (l'.length:Int)):=by rw[W'.len,A'.length]
 refine aF (la hs (Ext.refl _)) ?_;refine aF lb ?_;refine aY ?_
 by_cases hll:l.length=l'.length
 rotate_left
 ·refine iM (by rw[decide_eq_false (by omega)];rfl) ?_
  exact kk hs false (Ext.refl _) ho ⟨fun h=>(by cases h),fun h=>absurd (by rw[h]) hll⟩
 refine iF (by rw[decide_eq_true (by omega)];rfl) ?_
 unfold LC
 suffices H:∀m i h,l.length-i<m→i≤l.length→Ext hs h→h.Ok→l.take i=l'.take i→BU (aD E n) n m v v' (.int .i64 (i:Int)) h K=true from
  H n 0 hs (by omega) (Nat.zero_le _) (Ext.refl _) ho rfl
 intro m
 induction m with
 |zero=>intro i h hm;omega
 |succ m ihm=>
  intro i h hm hi e o C
  unfold BU J9
  refine aF (la h e) ?_;refine aT ?_
  by_cases hlt:i<l.length
  ·refine iM (decide_eq_true (by omega)) ?_
   have hlt':i<l'.length:=by omega
   obtain⟨ee,he,R⟩:=A.get (List.getElem?_eq_getElem hlt)
   obtain⟨ee',he',R'⟩:=A'.get (List.getElem?_eq_getElem hlt')
   obtain⟨id,g,j,p1,p2⟩:=(W.ext e).at he
   obtain⟨id',g',j',p1',p2'⟩:=(W'.ext e).at he'
   have hl6:ee.length=6:=by obtain⟨_,_,q,_⟩:=R;rw[q];rfl
   have hl6':ee'.length=6:=by obtain⟨_,_,q,_⟩:=R';rw[q];rfl
   have P:∀{c:List AV},c.length=6→iH true 0 6 c=some (.agg c):=fun hc=>by
    simp only[iH,cond_true,hc,Nat.zero_add]
    rw[bI.2 (Nat.le_refl 6),cond_true,List.drop_zero,List.take_of_length_le (by omega)]
   have L:au h true 6 (.ptr id g j 0)=some (.agg ee):=by rw[p2];exact P hl6
   have L':au h true 6 (.ptr id' g' j' 0)=some (.agg ee'):=by rw[p2'];exact P hl6'
   have t1:l.take (i+1)=l.take i++[l[i]]:=by rw[List.take_succ_eq_append_getElem hlt]
   have t2:l'.take (i+1)=l'.take i++[l'[i]]:=by rw[List.take_succ_eq_append_getElem hlt']
   refine aF (p1 .i64) ?_;refine aF L ?_;refine aF (p1' .i64) ?_;refine aF L' ?_
   obtain⟨n,rfl⟩:∃j,n=j+2:=⟨n-2,by omega⟩
   refine Xm (n:=n) (b:=b) o (R.ext e) (R'.ext e) (hf _ (List.getElem_mem hlt)) hb (by omega) (by omega) fun h2 r e2 o2 hr=> ?_
   cases r with
   |false=>
    refine aM ?_;refine bN ?_
    refine kk h2 false (bH e e2) o2 ⟨fun h=>(by cases h),fun h=> ?_⟩
    subst h
    exact hr.2 rfl
   |true=>
    refine aL ?_;refine bO ?_;refine aF (dV (i:=i) (by omega)) ?_
    exact ihm (i+1) h2 (by omega) (by omega) (bH e e2) o2 (by rw[t1,t2,C,hr.1 rfl])
  ·refine iF (decide_eq_false (by omega)) ?_
   refine kk h true e o ⟨fun _=> ?_,fun _=>rfl⟩
   rw[List.take_of_length_le (by omega),List.take_of_length_le (by omega)] at C
   exact C
theorem Good.noName {l:List Cls} (G:Good l):idx [] (names l)=none:=by
 cases h:idx [] (names l) with
 |none=>rfl
 |some i=>
  have:=Gh h
  simp only[names,List.mem_map] at this
  obtain⟨d,hd,hd2⟩:=this
  have:=(G.2 d hd).1
  rw[hd2,zZ] at this;cases this
theorem rR {s:Str}:∀{l:List Str},s∈l→(idx s l).isSome=true
 | [],h=>by cases h
 |c :: l,h=>by
  simp only[idx]
  by_cases e:c=s
  ·simp[e]
  ·rw[if_neg e]
   have:s∈l:=by
    rcases List.mem_cons.1 h with h |h
    ·exact absurd h.symm e
    ·exact h
   have:=rR this
   cases hx:idx s l with
   |none=>rw[hx] at this;cases this
   |some i=>rfl
theorem OD {l m:List Cls} (A:Asc l) (B:Asc (l++m)):∀(i:Nat) {s:Str},idx s (names l)=some i→(∀c∈l,idx c.super (names l)=none→idx c.super (names (l++m))=none)→chain (l++m) s=chain l s:=by
 intro i
 induction i using Nat.strongRecOn with
 |_ i ih=>
  intro s hs hsup
  obtain⟨c,hc,_⟩:=nE hs
  have hs':idx s (names (l++m))=some i:=by rw[mD,lF,hs]
  have hc':(l++m)[i]? =some c:=by
   rw[List.getElem?_append_left (List.getElem?_eq_some_iff.1 hc).1];exact hc
  rw[jY A hs hc,jY B hs' hc']
  congr 1
  cases hj:idx c.super (names l) with
  |none=>rw[gF hj,gF (hsup c (List.mem_of_getElem? hc) hj)]
  |some j=>exact ih j (A i c hc j hj) hj hsup
theorem Af {all:List Str}:∀(l pre:List Cls),kG all pre l=true→∀(i:Nat) c,l[i]? =some c→l9 (pre++l.take i) c all=true∧c.fields.length≤62
 | [],_,_,i,c,h=>by simp at h
 |d :: l,pre,hv,i,c,h=>by
  simp only[kG,Bool.and_eq_true,decide_eq_true_eq] at hv
  cases i with
  |zero=>simp at h;subst h;simpa using⟨hv.1.2,hv.1.1⟩
  |succ i=>
   simp at h
   have:=Af l _ hv.2 i c h
   simpa using this
theorem wO {l:List Cls} (hv:valid l=true) {i:Nat} {c:Cls} (hc:l[i]? =some c):l9 (l.take i) c (names l)=true∧c.fields.length≤62:=by
 simp only[valid,Bool.and_eq_true] at hv
 simpa using Af l [] hv.2 i c hc
theorem uniq {l:List Cls} (hv:valid l=true) {i:Nat} {c:Cls} (hc:l[i]? =some c):idx c.name (names l)=some i:=by
 have hf:=(wO hv hc).1
 simp only[l9,Bool.and_eq_true,Bool.not_eq_true'] at hf
 have hn:=hf.1.1.1.2
 have hlt:=(List.getElem?_eq_some_iff.1 hc).1
 have e:l=l.take i++c :: l.drop (i+1):=by
  have h1:=(List.getElem?_eq_some_iff.1 hc).2
  rw[←h1, ←List.drop_eq_getElem_cons hlt,List.take_append_drop]
 have e2:names l=names (l.take i)++names (c :: l.drop (i+1)):=by rw[←mD, ←e]
 rw[e2,lF]
 cases hx:idx c.name (names (l.take i)) with
 |some j=>rw[hx] at hn;cases hn
 |none=>
  have hl:(names (l.take i)).length=i:=by rw[eD];simp;omega
  simp[names,idx]
  omega
theorem CO {l:List Cls} {s:Str} {i j:Nat} (h:idx s (names l)=some j) (hj:j<i):idx s (names (l.take i))=some j:=by
 have e:names l=names (l.take i)++names (l.drop i):=by rw[←mD,List.take_append_drop]
 rw[e,lF] at h
 cases hx:idx s (names (l.take i)) with
 |some k=>rw[hx] at h;exact h
 |none=>
  rw[hx] at h
  simp only at h
  cases hy:idx s (names (l.drop i)) with
  |none=>rw[hy] at h;cases h
  |some k=>
   rw[hy] at h
   simp at h
   rw[eD] at h
   have hd:=(mE hy).1
   rw[eD] at hd
   simp at hd h
   omega
theorem Good.take {l:List Cls} (G:Good l) (i:Nat):Good (l.take i):=by
 refine⟨fun k c hc=> ?_,fun c hc=>G.2 c (List.mem_of_mem_take hc)⟩
 have hk:k<i:=by
  have:=(List.getElem?_eq_some_iff.1 hc).1
  simp at this;omega
 rw[List.getElem?_take] at hc
 simp only[hk,if_true] at hc
 rcases G.1 k c hc with h |⟨j,h1,h2⟩
 ·exact .inl h
 ·exact .inr ⟨j,h1,CO h2 (by omega)⟩
theorem AA {l:List Cls} (G:Good l) {i:Nat} {c:Cls} (hc:l[i]? =some c):chain (l.take i) c.super=chain l c.super:=by
 have Gt:=G.take i
 rcases G.1 i c hc with h |⟨j,h1,h2⟩
 ·rw[h,gF G.noName,gF Gt.noName]
 ·have e:l.take i++l.drop i=l:=List.take_append_drop i l
  have B:Asc (l.take i++l.drop i):=by rw[e];exact G.asc
  have:=OD (m:=l.drop i) Gt.asc B j (CO h2 h1) (fun d hd hn=> ?_)
  ·rw[e] at this;exact this.symm
  ·rw[e]
   obtain⟨k,hk⟩:=List.getElem?_of_mem hd
   rcases Gt.1 k d hk with h |⟨q,_,hq⟩
   ·rw[h];exact G.noName
   ·rw[hn] at hq;cases hq
theorem DZ {all:List Str}:∀(fs prev:List lK),LX all prev fs=true→(fnames fs).Nodup∧∀n∈fnames fs,n ∉ fnames prev
 | [],_,_=>⟨List.nodup_nil,fun n h=>by cases h⟩
 |f :: fs,prev,h=>by
  simp only[LX,Bool.and_eq_true,decide_eq_true_eq] at h
  obtain⟨i1,i2⟩:=DZ fs _ h.2
  have hn:f.name ∉ fnames prev:=by
   intro hm
   simp only[fnames,List.mem_map] at hm
   obtain⟨g,hg,hgn⟩:=hm
   have h0:=h.1.2
   unfold cnt at h0
   rw[List.length_eq_zero_iff,List.filter_eq_nil_iff] at h0
   exact h0 g hg (by simpa using hgn)
  refine⟨?_,fun n hm=> ?_⟩
  ·show(f.name :: fnames fs).Nodup
   refine List.nodup_cons.2 ⟨fun hm=>i2 _ hm (by simp[fnames]),i1⟩
  ·have hm':n=f.name∨n∈fnames fs:=by simpa[fnames] using hm
   rcases hm' with rfl |hm'
   ·exact hn
   ·intro hp
    refine i2 n hm' ?_
    simp only[fnames,List.map_append,List.mem_append] at hp ⊢
    exact .inl hp
theorem zG {l:List Cls} (A:Asc l) {s:Str} {i:Nat} {c:Cls} (hs:idx s (names l)=some i) (hc:l[i]? =some c):fieldsOf l s=fieldsOf l c.super++c.fields:=by
 unfold fieldsOf
 rw[jY A hs hc]
 simp
theorem Hg {α β:Type} (f:α→List β):∀(l:List α),(l.reverse.flatMap f).length=(l.flatMap f).length
 | []=>rfl
 |x :: l=>by
  rw[List.reverse_cons,List.flatMap_append,List.length_append,Hg f l]
  simp;omega
theorem Ll {l:List Cls} {s n:Str}:n∈fnames (fieldsOf l s)↔n∈fnames (Bu l s):=by
 simp[fnames,fieldsOf,Bu]
theorem J6 {l:List Cls} {s:Str}:(fieldsOf l s).length=(Bu l s).length:=Hg _ _
theorem Ei {l:List Cls} (hv:valid l=true) (G:Good l):∀(i:Nat) {s:Str},idx s (names l)=some i→(fnames (fieldsOf l s)).Nodup∧(fieldsOf l s).length≤62:=by
 intro i
 induction i using Nat.strongRecOn with
 |_ i ih=>
  intro s hs
  obtain⟨c,hc,hcn⟩:=nE hs
  have hf:=(wO hv hc).1
  simp only[l9,Bool.and_eq_true,decide_eq_true_eq] at hf
  have hg:=hf.1.2
  have h62:=hf.2
  have hup:Bu (l.take i) c.super=Bu l c.super:=by unfold Bu;rw[AA G hc]
  rw[hup] at hg h62
  obtain⟨g1,g2⟩:=DZ _ _ hg
  rw[zG G.asc hs hc]
  have hfst:(fnames (fieldsOf l c.super)).Nodup:=by
   cases hj:idx c.super (names l) with
   |none=>unfold fieldsOf;rw[gF hj];exact List.nodup_nil
   |some j=>exact(ih j (G.asc i c hc j hj) hj).1
  refine⟨?_,by rw[List.length_append,J6];exact h62⟩
  have e:fnames (fieldsOf l c.super++c.fields)=fnames (fieldsOf l c.super)++fnames c.fields:=by simp[fnames]
  rw[e]
  refine List.nodup_append.2 ⟨hfst,g1,fun a ha b hb hab=> ?_⟩
  subst hab
  exact g2 a hb (Ll.1 ha)
theorem Qf {l:List Cls} (hv:valid l=true) (G:Good l) (s:Str):(fieldsOf l s).length≤62:=by
 cases h:idx s (names l) with
 |some i=>exact(Ei hv G i h).2
 |none=>
  have:chain l s=[]:=by unfold chain nX;rw[h]
  unfold fieldsOf;rw[this];simp
section
variable {T T' T1 T1':SD} {k:Int} {x x':FD} {vs:List Val} {name:Str} {st:Bool}
end
structure N7 where
 d:Int
 cls:Str
 set:List (Str×Val)
 k:Int
 st:Bool
def QJ (h:aj) (a:List AV) (p:N7):Prop:=∃sv,a=[.int .i64 p.d, .str p.cls,sv, .int .i64 p.k, .bool p.st]∧GV h sv p.set
def OV (h:aj) (v:AV) (l:List N7):Prop:=∃es,View h 5 v es∧gM (QJ h) es l
theorem GV.ext {h h':aj} {v:AV} {l:List (Str×Val)} (G:GV h v l) (e:Ext h h'):GV h' v l:=let⟨es,V,A⟩:=G;⟨es,V.ext e,A.mono fun _ _ ⟨c,q,R⟩=>⟨c,q,RV.ext e R⟩⟩
theorem QJ.ext {h h':aj} {a:List AV} {p:N7} (R:QJ h a p) (e:Ext h h'):QJ h' a p:=let⟨sv,q,G⟩:=R;⟨sv,q,G.ext e⟩
theorem OV.ext {h h':aj} {v:AV} {l:List N7} (R:OV h v l) (e:Ext h h'):OV h' v l:=let⟨es,V,A⟩:=R;⟨es,V.ext e,A.mono fun _ _ r=>r.ext e⟩
section
variable {cs:List Cls} {B b i n:Nat} {h0 h h':aj} {τ:Nat→Tag} {T T':SD} {tb sv:AV} {K:aC} {p:N7}
end
section
variable {cs:List Cls} {B b n:Nat} {h0:aj} {tb lv dv nv hv:AV} {mo:Int} {K:aC} {l:List N7} {q pa pb:Nat}
end
theorem cc7 {n:Nat} {h:aj} {K:aC} (k:K (.bool true) h=true):aD E (n+1) (.func 5) [] h K=true:=k
section
variable {cs:List Cls} {B b n:Nat} {h0 h:aj} {τ:Nat→Tag} {T T':SD} {tb lv dv nv hv:AV} {mo:Int} {K:aC} {q:Nat}
end
theorem Gf (x y:Int):∃z,aR .add (.int .i64 x) (.int .i64 y)=some (.int .i64 z):=⟨_,by rw[iP _ _ _ _ rfl];rfl⟩
section
variable {cs:List Cls} {b n:Nat} {h:aj} {lv dv nv hv:AV} {mo:Int} {K:aC} {l:List N7} {q:Nat}
theorem l35 {B23:F3} {i:Nat} {sv:AV} {p:N7} (hs:h.Ok) (V1:Var h q [lv, .int .i64 mo,dv,nv,hv]) (D:OV h dv l) (hp:l[i]? =some p) (hb:∀p∈l,(∀q∈p.set,jg q.2≤b)∧p.set.length≤n) (hn:b+200≤n) (hL:n+10<lim) (hi:i<1000)
 (kk:∀z h',Ext h h'→h'.Ok→B23 (.ptr q 0 0 0) (.int .i64 z) (.int .i64 ((i+1:Nat):Int)) h'=true):
 ∀m j x g,p.set.length-j<m→j≤p.set.length→Ext h g→g.Ok→IB (aD E (n+2)) (n+2) B23 m (.ptr q 0 0 0) (.int .i64 x) (.int .i64 (i:Int)) (.int .i64 (j:Int)) g K=true:=by
 have hlm:lim=4611686018427387904:=rfl
 obtain⟨es,W,A⟩:=D
 obtain⟨ee,he,sv,rfl,G⟩:=A.get hp
 obtain⟨hb1,hb2⟩:=hb p (List.mem_of_getElem? hp)
 obtain⟨id,gg,jj,u⟩:=W.atE he
 intro m
 induction m with
 |zero=>intro j x g hm;omega
 |succ m ih=>
  intro j x g hm hj e o
  have A2:au g false 1 (.ptr q 0 0 2)=some dv:=(V1.ext e).get rfl
  obtain⟨p1,p2⟩:=u g e
  have L2:au g false 1 (.ptr id gg jj 2)=some sv:=by rw[p2];rfl
  obtain⟨es6,W6,A6⟩:=G.ext e
  have len:dw g 1 sv=some (.int .i64 (p.set.length:Int)):=by rw[W6.len,A6.length]
  unfold IB Rt
  refine aA ?_;refine aF A2 ?_;refine aF (p1 .i64) ?_;refine aA ?_;refine aF L2 ?_;refine aF len ?_;refine aT ?_
  by_cases hlt:j<p.set.length
  ·refine iM (decide_eq_true (by omega)) ?_
   obtain⟨e6,he6,c,rfl,Rc⟩:=A6.get (List.getElem?_eq_getElem hlt)
   have hbq:=hb1 _ (List.getElem_mem hlt)
   obtain⟨id6,g6,j6,y1,y2⟩:=W6.at he6
   obtain⟨z,az⟩:=Gf x 1
   have hc5:=Rc.len5
   have L5:au g true 5 (.ptr id6 g6 j6 1)=some (.agg c):=by
    rw[y2]
    simp only[iH,cond_true,List.length_cons,hc5]
    rw[bI.2 (Nat.le_refl 6),cond_true,List.drop_succ_cons,List.drop_zero,List.take_of_length_le (by omega)]
   refine aF az ?_;refine aA ?_;refine aF A2 ?_;refine aF (p1 .i64) ?_;refine aA ?_;refine aF L2 ?_;refine aF (y1 .i64) ?_;refine aA ?_;refine aF L5 ?_
   obtain⟨r1,r2,r3,r4⟩:=Rc.agg
   obtain⟨w',g3,b1,b2,e3,o3,z3,_⟩:=iL (sz:=5) (z:=[AV.int .i64 0, .bool false, .int .i64 0, .str [], .nilSlc]) (v:= .agg c) o rfl (by decide) (by decide) rfl r2 r3
   rw[r4] at b2
   refine iW b1 ?_
   have VVw:VV g3 w' [(p.set[j]).2]:=⟨[c],b2, .cons (RV.ext e3 Rc) .nil⟩
   refine u24 (n:=n) VVw (by simp only[fU];omega) (by omega) fun y=> ?_
   obtain⟨z2,az2⟩:=Gf z y
   refine aF az2 ?_;refine aF (dV (i:=j) (by omega)) ?_
   exact ih (j+1) z2 g3 (by omega) (by omega) (bH e e3) o3
  ·refine iF (decide_eq_false (by omega)) ?_
   unfold QC
   refine aF (dV (i:=i) (by omega)) ?_
   exact kk x g e o
theorem cc6 (hs:h.Ok) (C:CV h lv cs) (D:OV h dv l) (hlf:aV [lv, .int .i64 mo,dv,nv,hv]=true) (hb:∀p∈l,(∀q∈p.set,jg q.2≤b)∧p.set.length≤n) (hcl:cs.length≤n) (hn:b+200≤n) (hL:n+10<lim)
 (kk:∀c h',Ext h h'→h'.Ok→K (.bool c) h'=true):aD E (n+3) (.func 4) [.agg [lv, .int .i64 mo,dv,nv,hv]] h K=true:=by
 have hlm:lim=4611686018427387904:=rfl
 apply d4
 unfold s4
 obtain⟨h1,q1,V1,e1,o1,z1⟩:=kZ (n:=5) (v:= .agg [lv, .int .i64 mo,dv,nv,hv]) hs rfl (by decide) hlf
 have V1:Var h1 h.sz [lv, .int .i64 mo,dv,nv,hv]:=V1
 refine iW q1 ?_
 have ops:∀(m i:Nat) (x:Int) (g:aj),100-i<m→i≤100→Ext h1 g→g.Ok→IE (aD E (n+2)) (n+2) m (.ptr h.sz 0 0 0) (.int .i64 x) (.int .i64 (i:Int)) g K=true:=by
  intro m
  induction m with
  |zero=>intro i x g hm;omega
  |succ m ih=>
   intro i x g hm hi e o
   have A2:au g false 1 (.ptr h.sz 0 0 2)=some dv:=(V1.ext e).get rfl
   have Dg:=(D.ext e1).ext e
   have len:dw g 1 dv=some (.int .i64 (l.length:Int)):=by obtain⟨es,W,A⟩:=Dg;rw[W.len,A.length]
   have fin:Oa (aD E (n+2)) (n+2) (.int .i64 x) g K=true:=by
    unfold Oa
    refine bG ?_
    exact kk _ g (bH e1 e) o
   unfold IE Rl
   refine aA ?_;refine aF A2 ?_;refine aF len ?_;refine aT ?_
   by_cases hlt:i<l.length
   rotate_left
   ·rw[decide_eq_false (show ¬(i:Int)<(l.length:Int) by omega)]
    refine aG ?_;refine aG ?_;refine bM ?_;refine bO ?_
    exact fin
   rw[decide_eq_true (show(i:Int)<(l.length:Int) by omega)]
   refine aP ?_;refine aI ?_;refine aP ?_;refine aT ?_;refine bQ ?_
   by_cases h100:i<100
   rotate_left
   ·rw[decide_eq_false (show ¬(i:Int)<100 by omega)]
    refine bO ?_
    exact fin
   rw[decide_eq_true (show(i:Int)<100 by omega)]
   refine bN ?_
   unfold Qx
   obtain⟨hb1,hb2⟩:=hb _ (List.getElem_mem hlt)
   exact l35 (sv:=dv) o (V1.ext e) Dg (List.getElem?_eq_getElem hlt) hb hn hL (by omega) (fun z h' e' o'=>ih (i+1) z h' (by omega) (by omega) (bH e e') o') (n+2) 0 x g (by omega) (Nat.zero_le _) (Ext.refl _) o
 have cls:∀(m i:Nat) (x:Int),cs.length-i<m→i≤cs.length→RY (aD E (n+2)) (n+2) m (.ptr h.sz 0 0 0) (.int .i64 x) (.int .i64 (i:Int)) h1 K=true:=by
  intro m
  induction m with
  |zero=>intro i x hm;omega
  |succ m ih=>
   intro i x hm hi
   have A0:au h1 false 1 (.ptr h.sz 0 0 0)=some lv:=V1.get rfl
   have len:dw h1 1 lv=some (.int .i64 (cs.length:Int)):=by obtain⟨es,W,A⟩:=C.ext e1;rw[W.len,A.length]
   unfold RY XT
   refine aA ?_;refine aF A0 ?_;refine aF len ?_;refine aT ?_
   by_cases hlt:i<cs.length
   ·refine iM (decide_eq_true (by omega)) ?_
    obtain⟨id,g',j,f,y1,y2,y3,y4,y5,y6⟩:=C.at2 e1 (List.getElem?_eq_getElem hlt)
    obtain⟨z,az⟩:=Gf x 1
    obtain⟨z2,az2⟩:=Gf z (((cs[i]).fields.map dZ).length:Int)
    refine aF az ?_;refine aA ?_;refine aF A0 ?_;refine aF y1 ?_;refine aA ?_;refine aF y5 ?_;refine aF (y6.ext e1).len ?_;refine aF az2 ?_;refine aF (dV (i:=i) (by omega)) ?_
    exact ih (i+1) z2 (by omega) (by omega)
   ·refine iF (decide_eq_false (by omega)) ?_
    unfold Sm
    exact ops (n+2) 0 x h1 (by omega) (by omega) (Ext.refl _) o1
 exact cls (n+2) 0 0 (by omega) (Nat.zero_le _)
end
theorem SI.nil {cs:List Cls} {b:Nat} {T:SD} (h1:T.fs=[]) (h2:T.all.l=[]) (h3:T.by'=[]) (h4:T.same=[]):SI cs b T:=by
 refine⟨(by rw[h1];exact .nil),fun k x q=>(by rw[h1] at q;cases q),fun i y=> ?_,fun k x q=>(by rw[h1] at q;cases q)⟩
 constructor
 ·rintro⟨r,e,q⟩
  cases i with
  |all=>cases e;rw[h2] at q;cases q
  |c s=>simp only[SD.row,h3,jm] at e;cases e
  |k s=>simp only[SD.row,h4,jm] at e;cases e
 ·rintro⟨x,e,_⟩
  rw[h1] at e;cases e
section
variable {cs:List Cls} {B b n:Nat} {h:aj} {lv dv nv hv:AV} {mo:Int} {K:aC} {l:List N7}
end
theorem Em (x:Int) {a b:Int} (ha:0≤a):x%(a*b)=x%a+a*(x/a%b):=by
 have h1:=Int.emod_def x (a*b)
 have h2:=Int.emod_def x a
 have h3:=Int.emod_def (x/a) b
 have h4:x/a/b=x/(a*b):=Int.ediv_ediv_of_nonneg ha
 rw[h4] at h3
 rw[h1,h2,h3,Int.mul_sub,Int.mul_assoc]
 omega
theorem IC:∀(w:Nat) {x y:Int},rX x w=rX y w→x%2 ^ (8*w)=y%2 ^ (8*w)
 |0,x,y,_=>by simp
 |w+1,x,y,h=>by
  simp only[rX,List.cons.injEq] at h
  have ih:=IC w h.2
  have p:(0:Int)≤2 ^ (8*w):=Int.pow_nonneg (by decide)
  have e:(2:Int) ^ (8*(w+1))=2 ^ (8*w)*256:=by rw[Nat.mul_succ,Int.pow_add];rfl
  have b:=h.1
  unfold Y2 at b
  rw[Int.fdiv_eq_ediv_of_nonneg _ p,Int.fdiv_eq_ediv_of_nonneg _ p] at b
  have b':x/2 ^ (8*w)%256=y/2 ^ (8*w)%256:=by omega
  rw[e,Em x p,Em y p,ih,b']
theorem Cr (n:Int):gV .u64 n=n%18446744073709551616:=by
 rw[mM];simp[IntKind.wrap,IntKind.bits,IntKind.signed]
theorem FN {w:Nat} {x y:Int} {r r':List Nat} (h:rX x w++r=rX y w++r'):x%2 ^ (8*w)=y%2 ^ (8*w)∧r=r':=by
 obtain⟨h1,h2⟩:=List.append_inj h (by rw[kW,kW])
 exact⟨IC w h1,h2⟩
theorem Jj {k:Nat} {kd n:Int} {b:Bool} {t:List Nat} {l:List Val} (h:pE k (.mk kd b n t l)=true):
 (0≤kd∧kd≤5)∧(kd≠1→b=false)∧(kd≠2→kd≠5→n=0)∧(kd≠3→t=[])∧(kd≠4→l=[])∧t.length≤65536∧l.length≤4096∧(kd=4→∃j,k=j+1∧∀y∈l,pE j y=true):=by
 have leaf:iG kd b n t l.length=true→kd≠4∧(0≤kd∧kd≤5)∧(kd≠1→b=false)∧(kd≠2→kd≠5→n=0)∧(kd≠3→t=[])∧l=[]∧t.length≤65536:=by
  intro h
  unfold iG at h
  split at h
  ·simp at h;obtain⟨⟨⟨h1,h2⟩,h3⟩,h4⟩:=h;subst h3;subst h4;refine⟨by omega,by omega,fun _=>h1,fun _ _=>h2,fun _=>rfl,rfl,by simp⟩
  ·split at h
   ·simp at h;obtain⟨⟨h2,h3⟩,h4⟩:=h;subst h3;subst h4;refine⟨by omega,by omega,fun q=>by omega,fun _ _=>h2,fun _=>rfl,rfl,by simp⟩
   ·split at h
    ·simp at h;obtain⟨⟨h2,h3⟩,h4⟩:=h;subst h3;subst h4;refine⟨by omega,by omega,fun _=>h2,fun q=>by omega,fun _=>rfl,rfl,by simp⟩
    ·split at h
     ·simp at h;obtain⟨⟨⟨h1,h2⟩,h3⟩,h4⟩:=h;subst h3;refine⟨by omega,by omega,fun _=>h1,fun _ _=>h2,fun q=>by omega,rfl,h4⟩
     ·split at h
      ·simp at h;obtain⟨⟨⟨h1,h2⟩,h3⟩,h4⟩:=h;subst h2;subst h3;refine⟨by omega,by omega,fun _=>h1,fun q q'=>by omega,fun _=>rfl,rfl,by simp⟩
      ·cases h
 have fin:iG kd b n t l.length=true→(0≤kd∧kd≤5)∧(kd≠1→b=false)∧(kd≠2→kd≠5→n=0)∧(kd≠3→t=[])∧(kd≠4→l=[])∧t.length≤65536∧l.length≤4096∧(kd=4→∃j,k=j+1∧∀y∈l,pE j y=true):=fun h=>by
  obtain⟨g1,g2,g3,g4,g5,g6,g7⟩:=leaf h
  subst g6
  exact⟨g2,g3,g4,g5,fun _=>rfl,g7,by simp,fun q=>absurd q g1⟩
 cases k with
 |zero=>exact fin h
 |succ k=>
  simp only[pE] at h
  split at h
  ·rename_i e
   simp only[Bool.and_eq_true,decide_eq_true_eq,Bool.not_eq_true',List.all_eq_true] at h
   obtain⟨⟨⟨⟨h1,h2⟩,h3⟩,h4⟩,h5⟩:=h
   subst h3
   exact⟨by omega,fun _=>h1,fun _ _=>h2,fun _=>rfl,fun q=>absurd e q,by simp,h4,fun _=>⟨k,rfl,h5⟩⟩
  ·exact fin h
def Zz (k:Nat):Prop:=∀{x x':Val} {r r':List Nat} {h h':aj} {a a':List AV},RV h a x→RV h' a' x'→pE k x=true→pE k x'=true→qj x++r=qj x'++r'→x=x'∧r=r'
theorem EB {k:Nat} (P:Zz k):∀{l l':List Val} {r r':List Nat} {h h':aj} {es es':List (List AV)},gM (RV h) es l→gM (RV h') es' l'→(∀y∈l,pE k y=true)→(∀y∈l',pE k y=true)→l.length=l'.length→jv l++r=jv l'++r'→l=l'∧r=r'
 | [],[],r,r',h,h',es,es',_,_,_,_,_,e=>⟨rfl,e⟩
 | [],_ :: _,r,r',h,h',es,es',_,_,_,_,hl,e=>by simp at hl
 |_ :: _,[],r,r',h,h',es,es',_,_,_,_,hl,e=>by simp at hl
 |x :: l,x' :: l',r,r',h,h',_,_, .cons R A, .cons R' A',c,c',hl,e=>by
  simp only[jv,List.append_assoc] at e
  obtain⟨e1,e2⟩:=P R R' (c x List.mem_cons_self) (c' x' List.mem_cons_self) e
  obtain⟨e3,e4⟩:=EB P A A' (fun y hy=>c y (List.mem_cons_of_mem _ hy)) (fun y hy=>c' y (List.mem_cons_of_mem _ hy)) (by simpa using hl) e2
  exact⟨by rw[e1,e3],e4⟩
theorem QD:∀(k:Nat),Zz k:=by
 intro k
 induction k using Nat.strongRecOn with
 |ind k ih=>
  intro x x' r r' h h' a a' R R' c c' e
  obtain⟨kd,b,n,t,l⟩:=x
  obtain⟨kd',b',n',t',l'⟩:=x'
  obtain⟨lv,_,⟨es,_,A⟩,hn,_,_⟩:=R.cells
  obtain⟨lv',_,⟨es',_,A'⟩,hn',_,_⟩:=R'.cells
  obtain⟨g0,g1,g2,g3,g4,g5,g6,g7⟩:=Jj c
  obtain⟨f0,f1,f2,f3,f4,f5,f6,f7⟩:=Jj c'
  simp only[qj,List.cons_append,List.cons.injEq] at e
  obtain⟨e0,e⟩:=e
  have hk:kd=kd':=by omega
  subst hk
  clear e0
  by_cases k1:kd=1
  ·rw[if_pos k1,if_pos k1] at e
   have q1:=g2 (by omega) (by omega);have q2:=f2 (by omega) (by omega)
   have q3:=g3 (by omega);have q4:=f3 (by omega)
   have q5:=g4 (by omega);have q6:=f4 (by omega)
   simp only[List.cons_append,List.nil_append,List.cons.injEq] at e
   have hb:b=b':=by cases b<;>cases b'<;>simp at e<;>rfl
   exact⟨by rw[q1,q2,q3,q4,q5,q6,hb],e.2⟩
  rw[if_neg k1,if_neg k1] at e
  have qb:=(g1 k1).trans (f1 k1).symm
  by_cases k2:kd=2∨kd=5
  ·rw[if_pos k2,if_pos k2] at e
   have q3:=g3 (by omega);have q4:=f3 (by omega)
   have q5:=g4 (by omega);have q6:=f4 (by omega)
   obtain⟨e1,e2⟩:=FN e
   have e1:gV .u64 n%18446744073709551616=gV .u64 n'%18446744073709551616:=e1
   rw[Cr,Cr] at e1
   have hnn:n=n':=by omega
   exact⟨by rw[qb,hnn,q3,q4,q5,q6],e2⟩
  rw[if_neg k2,if_neg k2] at e
  have q1:=g2 (by omega) (by omega);have q2:=f2 (by omega) (by omega)
  by_cases k3:kd=3
  ·rw[if_pos k3,if_pos k3,List.append_assoc,List.append_assoc] at e
   have q5:=g4 (by omega);have q6:=f4 (by omega)
   obtain⟨e1,e2⟩:=FN e
   have e1:gV .u64 (t.length:Int)%4294967296=gV .u64 (t'.length:Int)%4294967296:=e1
   rw[Cr,Cr] at e1
   obtain⟨e3,e4⟩:=List.append_inj e2 (by omega)
   exact⟨by rw[qb,q1,q2,e3,q5,q6],e4⟩
  rw[if_neg k3,if_neg k3] at e
  have q3:=g3 k3;have q4:=f3 k3
  by_cases k4:kd=4
  ·rw[if_pos k4,if_pos k4,List.append_assoc,List.append_assoc] at e
   obtain⟨e1,e2⟩:=FN e
   have e1:gV .u64 (l.length:Int)%4294967296=gV .u64 (l'.length:Int)%4294967296:=e1
   rw[Cr,Cr] at e1
   obtain⟨j,rfl,u1⟩:=g7 k4
   obtain⟨j',hj,u2⟩:=f7 k4
   cases hj
   obtain⟨e3,e4⟩:=EB (ih j (Nat.lt_succ_self j)) A A' u1 u2 (by omega) e2
   exact⟨by rw[qb,q1,q2,q3,q4,e3],e4⟩
  ·rw[if_neg k4,if_neg k4] at e
   exact⟨by rw[qb,q1,q2,q3,q4,g4 k4,f4 k4],e⟩
theorem Fw:∀{l:List Val},(∀y∈l,pE 30 y=true)→nV l=jv l
 | [],_=>rfl
 |x :: l,h=>by
  have:nV (x :: l)=PZ x++nV l:=by simp[nV]
  rw[this,Fw fun y hy=>h y (List.mem_cons_of_mem _ hy)]
  unfold PZ;rw[if_pos (h x List.mem_cons_self)];rfl
theorem Cz:∀{l l':List Val} {h h':aj} {es es':List (List AV)},gM (RV h) es l→gM (RV h') es' l'→(∀y∈l,pE 30 y=true)→(∀y∈l',pE 30 y=true)→jv l=jv l'→l=l'
 | [],[],h,h',es,es',_,_,_,_,e=>rfl
 | [], .mk k b n t l :: _,h,h',es,es',_,_,_,_,e=>by simp[jv,qj] at e
 | .mk k b n t l :: _,[],h,h',es,es',_,_,_,_,e=>by simp[jv,qj] at e
 |x :: l,x' :: l',h,h',_,_, .cons R A, .cons R' A',c,c',e=>by
  simp only[jv] at e
  obtain⟨e1,e2⟩:=QD 30 R R' (c x List.mem_cons_self) (c' x' List.mem_cons_self) e
  rw[e1,Cz A A' (fun y hy=>c y (List.mem_cons_of_mem _ hy)) (fun y hy=>c' y (List.mem_cons_of_mem _ hy)) e2]
theorem U6 {h h':aj} {v v':AV} {l l':List Val} (V:VV h v l) (V':VV h' v' l') (b:∀y∈l,pE 30 y=true) (b':∀y∈l',pE 30 y=true) (e:nV l=nV l'):l=l':=by
 rw[Fw b,Fw b'] at e
 obtain⟨es,_,A⟩:=V
 obtain⟨es',_,A'⟩:=V'
 exact Cz A A' b b' e
theorem ED {s:Str}:∀{l:List Str} {i:Nat},l.Nodup→l[i]? =some s→idx s l=some i
 | [],i,_,h=>by simp at h
 |c :: l,0,_,h=>by simp at h;simp[idx,h]
 |c :: l,i+1,nd,h=>by
  simp at h
  have hm:=List.mem_of_getElem? h
  have hne:c≠s:=fun e=>(List.nodup_cons.1 nd).1 (e▸hm)
  simp only[idx,if_neg hne,ED (List.nodup_cons.1 nd).2 h,Option.map_some]
theorem res2 {a v u:AV} {m:Nat} {K:aC} {h:aj} (e:au h true m a=some v) (s:K (.tup [v,u]) h=true):vM (mq h [(a,some (true,m)),(u,none)]) h K=true:=by
 have:mq h [(a,some (true,m)),(u,none)]=some [v,u]:=by simp only[mq,e]
 rw[this];exact s
abbrev zF:List AV:=[AV.int .i64 0, .str [], .nilSlc, .bool false, .int .i64 0, .nilSlc]
section
variable {B b:Nat} {τ:Nat→Tag} {o:Nat} {h0 h h':aj} {T:SD} {K:aC} {n:Nat} {cs:List Cls} {k:Int}
theorem ZQ (O:SO B τ o h0 h T) (hst:∀x,jm T.fs k=some x→x.stamps.length<1000000) (hB:B<100000000) (hn:B+200≤n) (hL:n+10<lim)
 (k0:jm T.fs k=none→∀h',Ext h h'→h'.Ok→K (.tup [.agg zF, .bool false]) h'=true)
 (k1:∀x,jm T.fs k=some x→∀h' vv sv,Ext h h'→h'.Ok→Tld h h' x vv sv→K (.tup [.agg [.int .i64 k, .str x.cls,vv, .bool x.stated, .int .i64 (x.born:Int),sv], .bool true]) h'=true):
 aD E (n+3) (.func 24) [.ptr T.p 0 0 0, .int .i64 k] h K=true:=by
 apply d24
 unfold s24
 obtain⟨h1,q1,V1,e1,o1,z1⟩:=gW (z:=zF) O.ok (by decide) rfl
 refine iW q1 ?_
 have O1:=O.ext e1 o1
 have L:=O1.lkf k
 cases hx:jm T.fs k with
 |none=>
  rw[hx] at L
  have L:fC h1 (.leaf .int) true .nilPtr (.map T.fm) (.int .i64 k)=some (.tup [.nilPtr, .bool false]):=L
  have bv:eP [.int .i64 0, .str [], .nilSlc, .bool false, .int .i64 0, .nilSlc] []=some (.agg zF):=rfl
  refine aN ?_;refine aA ?_;refine aF O1.l4 ?_;refine aF L ?_;refine aJ ?_;refine aK ?_;refine aM ?_;refine bN ?_;refine aF bv ?_
  obtain⟨h2,w2,V2,b2,o2,z2⟩:=V1.wrs o1 (n:=6) (v:= .agg zF) rfl rfl rfl
  refine lq w2 ?_
  have V2:Var h2 h.sz zF:=V2
  refine res2 (V2.all rfl) ?_
  exact k0 hx h2 (b2.ext e1 O.ok (Nat.le_refl _)) o2
 |some x=>
  rw[hx] at L
  have L:fC h1 (.leaf .int) true .nilPtr (.map T.fm) (.int .i64 k)=some (.tup [.ptr x.id 0 0 0, .bool true]):=L
  have F:=O1.f k x (gU hx)
  refine aN ?_;refine aA ?_;refine aF O1.l4 ?_;refine aF L ?_;refine aJ ?_;refine aK ?_;refine aL ?_;refine bO ?_
  refine aaS (n:=n) F o1 (hst x hx) hB (by omega) (by omega) fun h2 vv sv e2 o2 D=> ?_
  have lv:=D.l
  have ls:=D.v.leaf
  obtain⟨h3,w3,V3,b3,o3,z3⟩:=(V1.ext e2).wrs o2 (n:=6) (v:= .agg [.int .i64 k, .str x.cls,vv, .bool x.stated, .int .i64 (x.born:Int),sv]) rfl rfl (by show aV [.int .i64 k, .str x.cls,vv, .bool x.stated, .int .i64 (x.born:Int),sv]=true;simp only[aV,lv,ls];rfl)
  refine lq w3 ?_
  have V3:Var h3 h.sz [.int .i64 k, .str x.cls,vv, .bool x.stated, .int .i64 (x.born:Int),sv]:=V3
  refine res2 (V3.all rfl) ?_
  have e02:=bH e1 e2
  obtain⟨lo,hi,G,q1,q2,q3,q4⟩:=D.g
  have f3:Fr (fun j=>j=h.sz) h2 h3:=Fr.of_but rfl b3
  have dr:∀j,bL sv j→¬j=h.sz:=fun j q w=>by have:=q4 j q;omega
  refine k1 x hx h3 vv sv (b3.ext e02 O.ok (Nat.le_refl _)) o3 ⟨⟨lo,hi,G.fr (Kp.of_but b3 (by omega)),by omega,q2,by omega,fun j q=>⟨(q4 j q).1,by have:=(q4 j q).2;omega⟩⟩,lv,f3.view D.v fun id g s l c ex e=>dr id (by rw[e];exact dh.2 rfl),D.m.imp id fun M=>M.fr f3 dr⟩
theorem aeA {a:List AV} {x:Val} (ho:h.Ok) (R:RV h a x) (hn:jg x+30≤n) (hL:n<lim) (k:∀h',Ext h h'→h'.Ok→K (.bool (!pE 30 x)) h'=true):aD E (n+3) (.func 76) [.agg a] h K=true:=by
 obtain⟨r1,r2,r3,r4⟩:=R.agg
 have hel:a.length=5:=by rw[←r4];exact r2
 apply d76
 unfold s76
 obtain⟨h1,q1,V1,e1,o1,z1⟩:=kZ (n:=5) (v:= .agg a) ho r2 (by decide) r3
 refine iW q1 ?_
 rw[r4] at V1
 refine aF (V1.all hel) ?_
 refine u41 (n:=n) (R.ext e1) o1 hn hL fun h2 e2 o2=> ?_
 refine aaH ?_
 exact k h2 (bH e1 e2) o2
theorem aew {v:AV} {l:List Val} (ho:h.Ok) (V:VV h v l) (hck:∀y∈l,pE 30 y=true) (hB:fU l<1000000000) (hn:fU l+40≤n) (hL:n+10<lim) (k:∀h',Ext h h'→h'.Ok→K (.bool false) h'=true):aD E (n+5) (.func 75) [v, .fn (.func 76) [] []] h K=true:=by
 have hlm:lim=4611686018427387904:=rfl
 have hlen:=iE l
 apply d75
 unfold s75
 apply d90
 unfold s90
 refine aF V.len ?_
 suffices H:∀m i g,l.length-i<m→i≤l.length→Ext h g→g.Ok→Jc (aD E (n+3)) (n+3) m v (.fn (.func 76) [] []) (.int .i64 (l.length:Int)) (.int .i64 (i:Int)) g (fun v1 h=>ah (aR .geq v1 (.int .i64 0)) fun v2=>K v2 h)=true from
  H (n+3) 0 h (by omega) (Nat.zero_le _) (Ext.refl _) ho
 intro m
 induction m with
 |zero=>intro i g hm;omega
 |succ m ih=>
  intro i g hm hi e o
  unfold Jc QT
  refine aT ?_
  by_cases hlt:i<l.length
  ·refine iM (decide_eq_true (by omega)) ?_
   obtain⟨id,gg,j,ee,p1,p2,R⟩:=(V.ext e).at (List.getElem?_eq_getElem hlt)
   have A:au g true 5 (.ptr id gg j 0)=some (.agg ee):=by rw[p2];exact R.agg.1
   have hs:=jF (List.getElem_mem hlt)
   refine aF (p1 .i64) ?_;refine aF A ?_;refine bR ?_
   refine aeA (n:=n) o R (by omega) (by omega) fun g2 e2 o2=> ?_
   rw[hck _ (List.getElem_mem hlt),Bool.not_true]
   refine bO ?_;refine aF (dV (i:=i) (by omega)) ?_
   exact ih (i+1) g2 (by omega) (by omega) (bH e e2) o2
  ·refine iF (decide_eq_false (by omega)) ?_
   refine bg ?_
   rw[show decide ((0:Int)≤ -1)=false from rfl]
   exact k g e o
def eql (T:SD) (c:Str) (l:List Val):List Int:=match T.row (.k (c,nV l)) with
 |some r=>r.l
 |none=>[]
theorem Ny {c:Str} {l:List Val} {y:Int}:y∈eql T c l↔jr T (.k (c,nV l)) y:=by
 unfold eql jr
 cases T.row (.k (c,nV l)) with
 |none=>simp
 |some r=>simp
theorem UD {c:Str} {l:List Val} (O:SO B τ o h0 h T):N8 (eql T c l):=by
 unfold eql
 cases e:T.row (.k (c,nV l)) with
 |none=>exact .nil
 |some r=>exact(O.r _ r e).rn.srt
theorem ZG {c:Str} {v:AV} {l:List Val} (O:SO B τ o h0 h T) (I:SI cs b T) (V:VV h v l) (hck:∀y∈l,pE 30 y=true) (hN:T.next<500000) (hB:fU l<1000000000) (hn:fU l+42≤n) (hL:n+20<lim)
 (k:∀h' w,Ext h h'→h'.Ok→((w= .nilSlc∧ints (eql T c l)=[])∨Mr h' 1 w (ints (eql T c l)))→(∀j,bL w j→h.sz≤j)→K w h'=true):aD E (n+6) (.func 48) [.ptr T.p 0 0 0, .str c,v] h K=true:=by
 have hlm:lim=4611686018427387904:=rfl
 apply d48
 unfold s48
 refine aew (n:=n) O.ok V hck hB (by omega) (by omega) fun h1 e1 o1=> ?_
 have O1:=O.ext e1 o1
 refine bO ?_;refine aN ?_;refine aA ?_;refine aF O1.l7 ?_
 refine WB (n:=n+1) (V.ext e1) o1 (by omega) (by omega) (by omega) fun h2 e2 o2=> ?_
 have O2:=O1.ext e2 o2
 refine fQ O2.l7 (Aq _) ?_
 cases hr:T.row (.k (c,nV l)) with
 |none=>
  have L:fC h2 (.st [.str, .str]) false .nilPtr (.map T.sm) (.agg [.str c, .str (nV l)])=some .nilPtr:=O2.lks0 hr
  refine aF L ?_;refine bA ?_;refine bN ?_
  exact k h2 _ (bH e1 e2) o2 (.inl ⟨rfl,by unfold eql;rw[hr];rfl⟩) fun j q=>absurd q eH
 |some r=>
  have L:fC h2 (.st [.str, .str]) false .nilPtr (.map T.sm) (.agg [.str c, .str (nV l)])=some (.ptr r.id 0 0 0):=O2.lks hr
  have R:=(O2.r _ r hr).rn
  have A0:au h2 false 1 (.ptr r.id 0 0 0)=some r.v:=R.var.get rfl
  have hl:=I.len O hr
  refine aF L ?_;refine bn ?_;refine bO ?_;refine aN ?_;refine aA ?_;refine aF A0 ?_
  refine aax (n:=n+4) o2 R.buf.view (by rw[dN];omega) fun h3 w e3 o3 _ W r3=> ?_
  exact k h3 w (bH (bH e1 e2) e3) o3 (by unfold eql;rw[hr];exact W) fun j q=>by have:=r3 j q;have:=e1.1;have:=e2.1;omega
end
section
variable {B b:Nat} {τ τ':Nat→Tag} {o:Nat} {h0 h h':aj} {T T':SD} {K:aC} {n:Nat} {cs:List Cls} {k:Int} {nm:Str} {vs ws:List Val} {bo i j pa:Nat} {tb:AV}
end
theorem X3 {i:Nat} (h:i<64):aR .shl (.int .u64 1) (.int .u64 (i:Int))=some (.int .u64 ((2 ^ i:Nat):Int)):=by
 have:=RX h
 rw[Tm] at this ⊢
 exact this
theorem R7 {i:Nat} (h:i<64):lW .u64 (.int .i64 (i:Int))=some (.int .u64 (i:Int)):=by
 show some (AV.int .u64 (gV .u64 (i:Int)))=_
 rw[Cr]
 congr 2
 omega
section
variable {cs:List Cls} {B b n:Nat} {h0:aj} {tb:AV} {K:aC} {qo qx pa:Nat} {co:List AV} {nm:Str} {vs:List Val} {F:List lK} {vv sv fv:AV} {bo:Nat} {st:List Int}
end
section
variable {cs:List Cls} {B b n:Nat} {h0 g:aj} {τ:Nat→Tag} {T:SD} {tb:AV} {K:aC} {qo qx pa:Nat} {co:List AV} {nm:Str} {vs:List Val} {F:List lK} {vv sv fv:AV} {bo:Nat} {st:List Int}
end
theorem wN (zs:List Int):(iU zs).Perm zs:=List.mergeSort_perm _ _
theorem Lu (zs:List Int):(iU zs).Pairwise fun a b=>a≤b:=by
 have:=List.pairwise_mergeSort (le:=fun x y:Int=>decide (x≤y)) (fun a b c h1 h2=>by simp only[decide_eq_true_eq] at *;omega) (fun a b=>by simp only[Bool.or_eq_true,decide_eq_true_eq];omega) zs
 exact this.imp fun h=>by simpa using h
theorem Kw {zs ks:List Int} (hk:N8 ks) (nd:zs.Nodup) (hm:∀y,y∈zs↔y∈ks):iU zs=ks:=by
 refine zO ?_ hk fun y=>by rw[(wN zs).mem_iff];exact hm y
 have h1:=Lu zs
 have h2:(iU zs).Pairwise fun a b=>a≠b:=(wN zs).nodup_iff.2 nd
 exact(h1.and h2).imp fun⟨a,b⟩=>by omega
section
variable {b n:Nat} {h:aj} {v:AV} {zs:List Int} {K:aC}
theorem aer (O:Own b h 1 v (ints zs)) (o:h.Ok) (hl:zs.length<1000000000)
 (kk:∀h',Own b h' 1 v (ints (iU zs))→Fr (bL v) h h'→h'.Ok→K (.tup []) h'=true):aD E (n+1) (.func 73) [v] h K=true:=by
 show CW (aD E n) n [v] h K=true
 have hsl:(iU zs).length=zs.length:=List.length_mergeSort _
 have nil:zs=[]→Own b h 1 v (ints (iU zs)):=fun e=>by subst e;rw[show iU []=[] by simp[iU]];exact O
 rcases O with⟨rfl,hz⟩|⟨id,r,w1,rfl,w3,w4,w5,w6,w7⟩
 ·have:zs=[]:=by simpa[ints] using hz
  show K (.tup []) h=true
  exact kk h (nil this) (Fr.refl _ _) o
 ·show(bif Nat.beq (ints zs).length 0 then K (.tup []) h else UL _)=true
  cases hz:Nat.beq (ints zs).length 0 with
  |true=>
   rw[cond_true]
   have:=bJ.1 hz
   rw[dN] at this
   exact kk h (nil (List.eq_nil_of_length_eq_zero this)) (Fr.refl _ _) o
  |false=>
   rw[cond_false]
   refine uJ.2 ⟨r,zs,rfl,(dN zs).symm,aj.row_some.1 w3,w4,w6, ?_,by omega, ?_⟩
   ·rw[w7,List.drop_zero,List.take_of_length_le (by rw[dN];exact Nat.le_refl _)];simp[ints]
   ·have hlay:lay r.es 0 (((iU zs).map (AV.int .i64)).map fun v=>[v])=ints (iU zs):=by
     rw[w7]
     have e1:((iU zs).map (AV.int .i64)).map (fun v=>[v])=ints (iU zs):=by simp[ints]
     rw[e1]
     simp only[lay,List.take_zero,List.nil_append,Nat.zero_add]
     rw[List.drop_of_length_le (by rw[dN,dN,hsl];exact Nat.le_refl _),List.append_nil]
    unfold Bf
    rw[hlay]
    refine kk _ (.inr ⟨id,{r with es:=ints (iU zs),m:=r.g},w1,by rw[dN,dN,hsl],aj.row_some.2 (eU _ _ _),w4,Nat.le_refl _,w6,rfl⟩) ((Fr.put (X:=fun j=>j=id) rfl h _).mono fun j e=>by rw[e];exact dh.2 rfl) (o.put (o.lt (aj.row_some.1 w3)) _)
end
def rowOf (T:SD) (c:Str):List Int:=match T.row (.c c) with
 |some r=>r.l
 |none=>[]
theorem yF {T:SD} {c:Str} {y:Int}:y∈rowOf T c↔jr T (.c c) y:=by
 unfold rowOf jr
 cases T.row (.c c) with
 |none=>simp
 |some r=>simp
def EY (cs:List Cls) (T:SD) (s:Str):List Int:=(T.fs.filter fun p=>zM cs p.2.cls s).map fun p=>p.1
theorem H6 {l:List Cls} (hv:valid l=true):(names l).Nodup:=by
 unfold List.Nodup
 rw[List.pairwise_iff_getElem]
 intro i j hi hj hij e
 rw[eD] at hi hj
 have u1:=uniq hv (List.getElem?_eq_getElem hi)
 have u2:=uniq hv (List.getElem?_eq_getElem hj)
 simp only[names,List.getElem_map] at e
 rw[e,u2] at u1
 cases u1;omega
theorem KV {l:List Cls} (hv:valid l=true) (s:Str):(mY l s).Nodup:=by
 unfold mY
 exact(H6 hv).sublist (List.filter_sublist.map _)
theorem Ia {l:List Cls} {c s:Str}:c∈mY l s↔c∈names l∧zM l c s=true:=by
 unfold mY zM
 simp only[List.mem_map,List.mem_filter,names]
 constructor
 ·rintro⟨d,⟨h1,h2⟩,rfl⟩;exact⟨⟨d,h1,rfl⟩,h2⟩
 ·rintro⟨⟨d,h1,rfl⟩,h2⟩;exact⟨d,⟨h1,h2⟩,rfl⟩
section
variable {B b:Nat} {τ:Nat→Tag} {o:Nat} {h0 h:aj} {T:SD} {K:aC} {n:Nat} {cs:List Cls} {s:Str}
theorem G9 (O:SO B τ o h0 h T) {y:Int}:y∈EY cs T s↔∃x,jm T.fs y=some x∧zM cs x.cls s=true:=by
 unfold EY
 simp only[List.mem_map,List.mem_filter]
 constructor
 ·rintro⟨⟨k,x⟩,⟨h1,h2⟩,rfl⟩;exact⟨x,mR O.nf h1,h2⟩
 ·rintro⟨x,h1,h2⟩;exact⟨(y,x),⟨gU h1,h2⟩,rfl⟩
theorem Ti (I:SI cs b T):N8 (EY cs T s):=I.ks.sublist (List.filter_sublist.map _)
theorem Ud (A:Asc cs) {c:Str} (h:zM cs c s=true):s∈names cs:=by
 unfold zM at h
 rw[List.any_eq_true] at h
 obtain⟨d,hd,e⟩:=h
 cases hi:idx c (names cs) with
 |none=>
  have:chain cs c=[]:=by unfold chain nX;rw[hi]
  rw[this] at hd;cases hd
 |some i=>
  have:=yY A i hi d hd
  exact List.mem_map.2 ⟨d,this,of_decide_eq_true e⟩
theorem JG (I:SI cs b T) {L:List Str} {y:Int}:y∈(L.map (rowOf T)).flatten↔∃x,jm T.fs y=some x∧x.cls∈L:=by
 simp only[List.mem_flatten,List.mem_map]
 constructor
 ·rintro⟨_,⟨c,hc,rfl⟩,hy⟩
  rw[yF,I.rw] at hy
  obtain⟨x,h1,h2⟩:=hy
  exact⟨x,h1,by rw[show x.cls=c from h2];exact hc⟩
 ·rintro⟨x,h1,h2⟩
  exact⟨_,⟨_,h2,rfl⟩,yF.2 ((I.rw _ _).2 ⟨x,h1,rfl⟩)⟩
theorem rows_nodup (I:SI cs b T) (O:SO B τ o h0 h T):∀{L:List Str},L.Nodup→(L.map (rowOf T)).flatten.Nodup
 | [],_=> .nil
 |c :: L,hn=>by
  obtain⟨n1,n2⟩:=List.nodup_cons.1 hn
  rw[List.map_cons,List.flatten_cons,List.nodup_append]
  refine⟨?_,rows_nodup I O n2,fun a ha b hb e=> ?_⟩
  ·unfold rowOf
   cases hr:T.row (.c c) with
   |none=>exact .nil
   |some r=>exact(O.r _ r hr).rn.srt.imp fun h=>by omega
  ·subst e
   rw[yF,I.rw] at ha
   rw[JG I] at hb
   obtain⟨x,h1,h2⟩:=ha
   obtain⟨x',h1',h2'⟩:=hb
   rw[h1] at h1';cases h1'
   exact n1 (by rw[←show x.cls=c from h2];exact h2')
theorem Tt (I:SI cs b T) (O:SO B τ o h0 h T) (hv:valid cs=true):iU ((mY cs s).map (rowOf T)).flatten=EY cs T s:=by
 refine Kw (Ti I) (rows_nodup I O (KV hv s)) fun y=> ?_
 rw[JG I,G9 O]
 constructor
 ·rintro⟨x,h1,h2⟩;exact⟨x,h1,(Ia.1 h2).2⟩
 ·rintro⟨x,h1,h2⟩
  refine⟨x,h1,Ia.2 ⟨?_,h2⟩⟩
  have:=(I.fc y x (gU h1)).1
  cases hi:idx x.cls (names cs) with
  |none=>rw[hi] at this;cases this
  |some i=>exact Gh hi
theorem adq (O:SO B τ o h0 h T) (I:SI cs b T) (TR:fJ h0 T.tb cs) (A:Asc cs) (hv:valid cs=true) (hcs:cs.length≤64) (hN:T.next<500000) (hn:1000000≤n) (hL:n<lim)
 (k:∀h' v,Ext h h'→h'.Ok→Own h.sz h' 1 v (ints (EY cs T s))→K v h'=true):aD E (n+4) (.func 45) [.ptr T.p 0 0 0, .str s] h K=true:=by
 have hlm:lim=4611686018427387904:=rfl
 have hmo:most=1099511627776:=rfl
 apply d45
 unfold s45
 refine aN ?_;refine aA ?_;refine aF O.l0 ?_
 refine u20 (n:=n) (TR.ext O.e) A O.ok (by omega) (by omega) (fun e=> ?_) fun ci h1 v hi e1 o1 V1=> ?_
 ·refine aJ ?_;refine aK ?_;refine aY ?_
  rw[show(!decide ((10:Int)=0))=true from rfl]
  refine bN ?_
  refine k h _ (Ext.refl _) O.ok ?_
  have:EY cs T s=[]:=by
   rw[List.eq_nil_iff_forall_not_mem]
   intro y hy
   obtain⟨x,_,h2⟩:=(G9 O).1 hy
   exact wQ.1 e (Ud A h2)
  rw[this];exact Own.nil _ _ _
 refine aJ ?_;refine aK ?_;refine aY ?_
 rw[show(!decide ((0:Int)=0))=false from rfl]
 refine bO ?_
 unfold K7
 have hex:=Tt (s:=s) I O hv
 have hsl:(mY cs s).length≤64:=by
  unfold mY
  rw[List.length_map]
  exact Nat.le_trans (List.length_filter_le _ _) hcs
 generalize mY cs s=L at *
 have vl:dw h1 1 v=some (.int .i64 (L.length:Int)):=by rw[V1.len,List.length_map]
 refine aF vl ?_
 suffices H:∀m i g out zs,L.length-i<m→i≤L.length→Ext h1 g→g.Ok→Own h1.sz g 1 out (ints zs)→zs=((L.take i).map (rowOf T)).flatten→zs.length≤i*500000→yT (aD E (n+3)) (n+3) m (.ptr T.p 0 0 0) out v (.int .i64 (L.length:Int)) (.int .i64 (i:Int)) g K=true from
  H (n+3) 0 h1 .nilSlc [] (by omega) (Nat.zero_le _) (Ext.refl _) o1 (Own.nil _ _ _) rfl (by simp)
 intro m
 induction m with
 |zero=>intro i g out zs hm;omega
 |succ m ih=>
  intro i g out zs hm hi e ok W hz hzl
  have Og:=O.ext (bH e1 e) ok
  unfold yT KD
  refine aT ?_
  by_cases hlt:i<L.length
  rotate_left
  ·refine iF (decide_eq_false (by omega)) ?_
   unfold Kq
   rw[List.take_of_length_le (by omega)] at hz
   refine aer (n:=n+2) W ok (by omega) fun g' W' f o'=> ?_
   rw[hz,hex] at W'
   exact k g' out (f.ext (bH e1 e) O.ok fun j q=>by have:=kJ W q;have:=e1.1;omega) o' (Own.low W' (by have:=e1.1;omega))
  refine iM (decide_eq_true (by omega)) ?_
  obtain⟨id,gg,j,p1,p2⟩:=(V1.ext e).at (i:=i) (e:=[AV.str L[i]]) (by simp[hlt])
  have Ai:au g false 1 (.ptr id gg j 0)=some (.str L[i]):=by rw[p2];rfl
  have t1:((L.take (i+1)).map (rowOf T)).flatten=zs++rowOf T L[i]:=by rw[List.take_succ_eq_append_getElem hlt,List.map_append,List.flatten_append, ←hz];simp
  refine aF (p1 .i64) ?_;refine aF Ai ?_;refine aN ?_;refine aA ?_;refine aF Og.l6 ?_
  have nx:∀g' out' zs',Ext h1 g'→g'.Ok→Own h1.sz g' 1 out' (ints zs')→zs'=zs++rowOf T L[i]→(rowOf T L[i]).length≤500000→AB (aD E (n+3)) (n+3) (fun x0 x7 x22 x23 x24 h=>yT (aD E (n+3)) (n+3) m x0 x7 x22 x23 x24 h K) (.ptr T.p 0 0 0) out' v (.int .i64 (L.length:Int)) (.int .i64 (i:Int)) g' K=true:=by
   intro g' out' zs' e' ok' W' hz' hl'
   unfold AB
   refine aF (dV (i:=i) (by omega)) ?_
   refine ih (i+1) g' out' zs' (by omega) (by omega) e' ok' W' (by rw[hz',t1]) ?_
   rw[hz',List.length_append,Nat.succ_mul];omega
  cases hr:T.row (.c L[i]) with
  |none=>
   have hro:rowOf T L[i]=[]:=by unfold rowOf;rw[hr]
   have eqn:ru g true .ptr .nilPtr .nilPtr=some (.bool false):=rfl
   refine aF (Og.lkb0 hr) ?_;refine aF eqn ?_;refine bO ?_
   exact nx g out zs e ok W (by rw[hro,List.append_nil]) (by rw[hro];exact Nat.zero_le _)
  |some r=>
   have hro:rowOf T L[i]=r.l:=by unfold rowOf;rw[hr]
   have R:=(Og.r _ r hr).rn
   have hlr:=I.len O hr
   have eqn:ru g true .ptr (.ptr r.id 0 0 0) .nilPtr=some (.bool true):=rfl
   have A0:au g false 1 (.ptr r.id 0 0 0)=some r.v:=R.var.get rfl
   refine aF (Og.lkb hr) ?_;refine aF eqn ?_;refine bN ?_;refine aN ?_;refine aA ?_;refine aF A0 ?_
   obtain⟨out',g4,a1,a2,a3,a4,a5,a6⟩:=kR (bytes:=8) W (by decide) e.1 ok o1 e (Nat.le_refl _) R.buf.view.src (by
    rw[dN,dN]
    have:i*500000≤64*500000:=Nat.mul_le_mul_right _ (by omega)
    omega) (by
    rw[dN,dN]
    have:i*500000≤64*500000:=Nat.mul_le_mul_right _ (by omega)
    omega)
   refine iW a1 ?_
   rw[←oW] at a2
   exact nx g4 out' _ a4 a3 a2 (by rw[hro]) (by rw[hro];omega)
end
theorem Zp {n:Nat} {h:aj} {v:AV} {es:List (List AV)} {ns:List Str} {s:Str} {K:aC} (V:View h 3 v es) (N:Named es ns) (hl:ns.length<lim):∀(m i:Nat),i≤ns.length→ns.length-i<m→
 K (.int .i64 (fint (off i (idx s (ns.drop i))))) h=true→GY (aD E n) n m v (.str s) (.int .i64 (i:Int)) h K=true
 |0,i,_,hm,_=>by omega
 |m+1,i,hi,hm,k=>by
  have hlen:=N.length
  unfold GY Sv
  rw[V.len,hlen]
  by_cases hlt:i<ns.length
  ·have hd:ns.drop i=ns[i] :: ns.drop (i+1):=List.drop_eq_getElem_cons hlt
   obtain⟨id,g,j,p1,p2,_⟩:=Ep (n:=n) (s:=s) (K:=K) (B:=fun _ _ _ _=>true) V N hlt
   rw[hd] at k
   simp[hlt,p1,p2,idx] at k ⊢
   by_cases hs:ns[i]=s
   ·simp[hs,off,fint] at k ⊢;exact k
   ·simp[hs] at k ⊢
    rw[dV (by omega)]
    refine Zp V N hl m (i+1) (by omega) (by omega) ?_
    cases hx:idx s (ns.drop (i+1)) with
    |none=>simp only[hx,off,Option.map] at k ⊢;exact k
    |some x=>simp only[hx,off,Option.map] at k ⊢;rw[show i+1+x=i+(x+1) by omega];exact k
  ·have:ns.drop i=[]:=List.drop_of_length_le (by omega)
   rw[this] at k
   simp[hlt]
   exact k
theorem u33 {n:Nat} {h:aj} {v:AV} {es:List (List AV)} {ns:List Str} {s:Str} {K:aC} (V:View h 3 v es) (N:Named es ns) (hl:ns.length<n) (hl2:ns.length<lim) (k:K (.int .i64 (fint (idx s ns))) h=true):
 aD E (n+1) (.func 31) [v, .str s] h K=true:=
 d31 (Zp V N hl2 n 0 (by omega) (by omega) (by rw[Ta];simpa using k))
theorem ZH {n:Nat} {h:aj} {v:AV} {es:List (List AV)} {ns:List Str} {s:Str} {K:aC} (V:View h 3 v es) (N:Named es ns) (hl:ns.length<lim):∀(m i:Nat),i≤ns.length→ns.length-i<m→
 K (.int .i64 (fint (off i (idx s (ns.drop i))))) h=true→Ih (aD E n) n m v (.str s) (.int .i64 (i:Int)) h K=true
 |0,i,_,hm,_=>by omega
 |m+1,i,hi,hm,k=>by
  have hlen:=N.length
  unfold Ih SA
  rw[V.len,hlen]
  by_cases hlt:i<ns.length
  ·have hd:ns.drop i=ns[i] :: ns.drop (i+1):=List.drop_eq_getElem_cons hlt
   obtain⟨id,g,j,p1,p2,_⟩:=Ep (n:=n) (s:=s) (K:=K) (B:=fun _ _ _ _=>true) V N hlt
   rw[hd] at k
   simp[hlt,p1,p2,idx] at k ⊢
   by_cases hs:ns[i]=s
   ·simp[hs,off,fint] at k ⊢;exact k
   ·simp[hs] at k ⊢
    rw[dV (by omega)]
    refine ZH V N hl m (i+1) (by omega) (by omega) ?_
    cases hx:idx s (ns.drop (i+1)) with
    |none=>simp only[hx,off,Option.map] at k ⊢;exact k
    |some x=>simp only[hx,off,Option.map] at k ⊢;rw[show i+1+x=i+(x+1) by omega];exact k
  ·have:ns.drop i=[]:=List.drop_of_length_le (by omega)
   rw[this] at k
   simp[hlt]
   exact k
theorem u35 {n:Nat} {h:aj} {v:AV} {es:List (List AV)} {ns:List Str} {s:Str} {K:aC} (V:View h 3 v es) (N:Named es ns) (hl:ns.length<n) (hl2:ns.length<lim) (k:K (.int .i64 (fint (idx s ns))) h=true):
 aD E (n+1) (.func 38) [v, .str s] h K=true:=
 d38 (ZH V N hl2 n 0 (by omega) (by omega) (by rw[Ta];simpa using k))
def load (l:List Cls):Nat:=(l.map fun c=>1+c.fields.length).sum
theorem zB (a b:List Cls):load (a++b)=load a+load b:=by simp[load]
theorem ES (l:List Cls) (i:Nat):load (l.take i)≤load l:=by
 have:=zB (l.take i) (l.drop i)
 rw[List.take_append_drop] at this;omega
def uX:Nat→List Cls→Str→List lK
 |0,_,_=>[]
 |k+1,l,s=>match idx s (names l) with
  |none=>[]
  |some i=>match l[i]? with
   |none=>[]
   |some c=>(if c.super=[] then [] else uX k (l.take i) c.super)++c.fields
theorem IV:∀(k:Nat) (l:List Cls) (s:Str),(uX k l s).length≤load l
 |0,_,_=>Nat.zero_le _
 |k+1,l,s=>by
  simp only[uX]
  cases hs:idx s (names l) with
  |none=>exact Nat.zero_le _
  |some i=>
   simp only
   cases hc:l[i]? with
   |none=>exact Nat.zero_le _
   |some c=>
    simp only[List.length_append]
    have hlt:=(List.getElem?_eq_some_iff.1 hc).1
    have hcc:=(List.getElem?_eq_some_iff.1 hc).2
    have h1:load (l.take (i+1))=load (l.take i)+(1+c.fields.length):=by
     rw[DI hlt,zB,hcc];simp[load]
    have h2:=ES l (i+1)
    have h3:(if c.super=[] then [] else uX k (l.take i) c.super).length≤load (l.take i):=by
     by_cases h:c.super=[]
     ·rw[if_pos h];exact Nat.zero_le _
     ·rw[if_neg h];exact IV k _ _
    omega
theorem CV.front {h:aj} {v:AV} {l:List Cls} (C:CV h v l) {i:Nat} (hi:i≤l.length):∃v',fZ h 3 v none (some (.int .i64 (i:Int))) none=some v'∧CV h v' (l.take i):=by
 obtain⟨es,V,A⟩:=C
 obtain⟨v',h1,h2⟩:=V.front (j:= .i64) (b:=i) (by rw[A.length];exact hi)
 exact⟨v',h1,_,h2,A.take i⟩
theorem u34:∀(d n:Nat) {h:aj} {v:AV} {l:List Cls} {s:Str} {K:aC},l.length≤d→d+2<n→n<lim→h.Ok→CV h v l→load l≤100000→
 (∀h' u,Ext h h'→h'.Ok→Own h.sz h' 3 u ((uX (d+1) l s).map dZ)→K u h'=true)→aD E (n+1) (.func 33) [v, .str s] h K=true:=by
 intro d
 induction d with
 |zero=>
  intro n h v l s K hl hn hL ho C hld k
  have hnil:l=[]:=List.length_eq_zero_iff.1 (by omega)
  subst hnil
  apply d33
  unfold s33
  obtain⟨es,V,A,N⟩:=C.named
  obtain⟨n,rfl⟩:∃j,n=j+1:=⟨n-1,by omega⟩
  refine u33 V N (by simp[names];omega) (by simp[names];unfold lim;omega) ?_
  rw[eF,ak,dB (by rfl)]
  exact k h _ (Ext.refl _) ho (Own.nil _ _ _)
 |succ d ih=>
  intro n h v l s K hl hn hL ho C hld k
  apply d33
  unfold s33
  obtain⟨es,V,A,N⟩:=C.named
  obtain⟨n,rfl⟩:∃j,n=j+1:=⟨n-1,by omega⟩
  refine u33 V N (by rw[eD];omega) (by rw[eD];omega) ?_
  rw[eF,ak]
  cases hs:idx s (names l) with
  |none=>
   rw[dB (by rfl)]
   refine k h _ (Ext.refl _) ho ?_
   have:uX (d+1+1) l s=[]:=by simp only[uX,hs]
   rw[this];exact Own.nil _ _ _
  |some i=>
   obtain⟨c,hc,hcn⟩:=nE hs
   have hlt:=(List.getElem?_eq_some_iff.1 hc).1
   have hcc:=(List.getElem?_eq_some_iff.1 hc).2
   have hr:uX (d+1+1) l s=(if c.super=[] then [] else uX (d+1) (l.take i) c.super)++c.fields:=by
    conv=>lhs;unfold uX
    simp only[hs,hc]
   have hlen:=IV (d+1+1) l s
   rw[hr,List.length_append] at hlen
   rw[hr] at k
   obtain⟨id,g,j,f,p1,p2,p3,p4,p5,p6⟩:=C.at hc
   have hfi:fint (some i)=(i:Int):=rfl
   rw[hfi,dG (decide_eq_false (by omega)),p1,ak,cO,ak,Nat.zero_add,p4,ak,yV,ak]
   have fin:∀(h1:aj) (u:AV) (pre:List lK),Ext h h1→h1.Ok→Own h.sz h1 3 u (pre.map dZ)→pre.length+c.fields.length≤load l→(∀h' u,Ext h h'→h'.Ok→Own h.sz h' 3 u ((pre++c.fields).map dZ)→K u h'=true)→BA (aD E (n+1)) (n+1) v (.int .i64 (i:Int)) u h1 K=true:=by
    intro h1 u pre e1 o1 O hb kk
    obtain⟨id1,g1,j1,f1,r1,r2,r3,r4,r5,r6⟩:=(C.ext e1).at hc
    unfold BA
    rw[r1,ak,cO,ak,Nat.zero_add,r5,ak]
    obtain⟨v',h2,a1,a2,a3,a4,a5,a6,a7⟩:=O.app (bytes:=40) (by decide) e1.1 o1 ho e1 (Nat.le_refl _) r6.src (by simp only[List.length_map];unfold most;omega) (by simp only[List.length_map];unfold most;omega)
    rw[a1,dD]
    exact kk h2 v' a4 a3 (by rw[List.map_append];exact a2)
   by_cases hsup:c.super=[]
   ·rw[if_pos hsup] at k hlen
    rw[dG (by simp[hsup])]
    exact fin h .nilSlc [] (Ext.refl _) ho (Own.nil _ _ _) hlen k
   ·rw[if_neg hsup] at k hlen
    obtain⟨v7,f1,f2⟩:=C.front (i:=i) (by omega)
    rw[dB (by simp[hsup]),f1,ak,ak,cO,ak,Nat.zero_add,p4,ak]
    refine ih n (by simp;omega) (by omega) (by omega) ho f2 (by have:=ES l i;omega) ?_
    intro h1 u e1 o1 O
    exact fin h1 u _ e1 o1 O hlen k
theorem acs {n:Nat} {h:aj} {v:AV} {l:List Cls} {of:Str} {K:aC} (C:CV h v l) (A:Asc l) (hl:l.length<n) (hl2:l.length<lim):
 ∀(m:Nat) (s:Str),(chain l s).length<m→K (.bool (zM l s of)) h=true→yQ (aD E (n+1)) (n+1) m v (.str of) (.int .i64 (fint (idx s (names l)))) h K=true:=by
 intro m
 induction m with
 |zero=>intro s hm;omega
 |succ m ih=>
  intro s hm k
  rw[QZ]
  unfold E9
  rw[nP,ak]
  cases hs:idx s (names l) with
  |none=>
   rw[dG (by rfl)]
   have:zM l s of=false:=by unfold zM;rw[gF hs];rfl
   rw[this] at k;exact k
  |some i=>
   obtain⟨c,hc,hcn⟩:=nE hs
   have hfi:fint (some i)=(i:Int):=rfl
   obtain⟨id,g,j,f,p1,p2,p3,p4,p5,p6⟩:=C.at hc
   rw[jY A hs hc] at hm
   have hb:zM l s of=(decide (c.name=of)||zM l c.super of):=by
    unfold zM;rw[jY A hs hc];rfl
   rw[hfi,dB (decide_eq_true (by omega)),p1,ak,cO,ak,Nat.zero_add,p3,ak,mW,ak]
   by_cases hn:c.name=of
   ·rw[dB (by simp[hn])]
    rw[hb,decide_eq_true hn,Bool.true_or] at k;exact k
   ·rw[dG (by simp[hn]),ak,cO,ak,Nat.zero_add,p4,ak]
    obtain⟨es,V,A2,N⟩:=C.named
    refine u33 V N (by rw[eD];omega) (by rw[eD];omega) ?_
    refine ih c.super (by simp at hm;omega) ?_
    rw[hb,decide_eq_false hn,Bool.false_or] at k;exact k
theorem Sj {l:List Cls} {s of:Str} (h:zM l s of=true):(idx s (names l)).isSome=true:=by
 unfold zM at h
 cases hx:idx s (names l) with
 |none=>rw[gF hx] at h;cases h
 |some i=>rfl
theorem QE {l:List Cls} (A:Asc l) {s of:Str} (h:idx of (names l)=none):zM l s of=false:=by
 cases hb:zM l s of with
 |false=>rfl
 |true=>
  exfalso
  have hs:=Sj hb
  unfold zM at hb
  rw[List.any_eq_true] at hb
  obtain⟨d,hd,hdn⟩:=hb
  simp at hdn
  cases hx:idx s (names l) with
  |none=>rw[hx] at hs;cases hs
  |some i=>
   have:=rR (List.mem_map_of_mem (f:=Cls.name) (yY A i hx d hd))
   rw[hdn] at this
   have h':idx of (List.map Cls.name l)=none:=h
   rw[h'] at this;cases this
theorem u15 {n:Nat} {h:aj} {v:AV} {l:List Cls} {s of:Str} {K:aC} (C:CV h v l) (A:Asc l) (hl:l.length+2<n) (hl2:l.length<lim) (k:K (.bool (zM l s of)) h=true):aD E (n+2) (.func 74) [v, .str s, .str of] h K=true:=by
 apply d74
 unfold s74
 obtain⟨es,V,A2,N⟩:=C.named
 refine u33 V N (by rw[eD];omega) (by rw[eD];omega) ?_
 rw[eF,ak]
 cases hof:idx of (names l) with
 |none=>
  rw[dB (by rfl)]
  rw[QE A hof] at k;exact k
 |some i=>
  have hfi:fint (some i)=(i:Int):=rfl
  rw[hfi,dG (decide_eq_false (by omega))]
  unfold JR
  refine u33 V N (by rw[eD];omega) (by rw[eD];omega) ?_
  refine acs C A (by omega) hl2 (n+1) s ?_ k
  cases hx:idx s (names l) with
  |none=>rw[gF hx];simp
  |some j=>
   have h1:=rD A j hx
   have h2:=(mE hx).1
   rw[eD] at h2
   omega
theorem wu (fs:List lK):Named (fs.map dZ) (fnames fs):=by
 induction fs with
 |nil=>exact .nil
 |cons f fs ih=>exact .cons rfl ih
theorem vC {l:List Cls} {s:Str} (h:idx s (names l)=none):fieldsOf l s=[]:=by unfold fieldsOf;rw[gF h];rfl
theorem Dr {l:List Cls} (G:Good l) {i:Nat} {c:Cls} (hc:l[i]? =some c):fieldsOf (l.take i) c.super=fieldsOf l c.super:=by
 unfold fieldsOf;rw[AA G hc]
theorem Pn {l:List Cls} {k:Nat} {s:Str} {i:Nat} {c:Cls} (hs:idx s (names l)=some i) (hc:l[i]? =some c):uX (k+1) l s=(if c.super=[] then [] else uX k (l.take i) c.super)++c.fields:=by
 conv=>lhs;unfold uX
 simp only[hs,hc]
theorem UC:∀(i:Nat) {l:List Cls} {s:Str} {k:Nat},Good l→idx s (names l)=some i→i<k→uX k l s=fieldsOf l s:=by
 intro i
 induction i using Nat.strongRecOn with
 |_ i ih=>
  intro l s k G hs hk
  obtain⟨k,rfl⟩:∃j,k=j+1:=⟨k-1,by omega⟩
  obtain⟨c,hc,hcn⟩:=nE hs
  rw[Pn hs hc,zG G.asc hs hc]
  congr 1
  rcases G.1 i c hc with h |⟨j,h1,h2⟩
  ·rw[if_pos h,h,vC G.noName]
  ·have hne:c.super≠[]:=fun e=>by rw[e,G.noName] at h2;cases h2
   rw[if_neg hne,ih j h1 (G.take i) (CO h2 h1) (by omega),Dr G hc]
theorem CY {l:List Cls} (G:Good l) (s:Str):uX (l.length+1) l s=fieldsOf l s:=by
 cases hs:idx s (names l) with
 |none=>rw[vC hs];simp only[uX,hs]
 |some i=>
  have:=(mE hs).1
  rw[eD] at this
  exact UC i G hs (by omega)
section
variable {h:aj}
theorem v34 {n:Nat} {a:List AV} {x:Val} {K:aC} (ho:h.Ok) (R:RV h a x)
 (hl:∀{h1 lv ll} {K':aC},(∃k b n t,x= .mk k b n t ll)→VV h1 lv ll→h1.Ok→(∀h2 v,Ext h1 h2→h2.Ok→v.leaf=true→AV.same v v=true→Gv ll h2 h1.sz h2.sz v→K' v h2=true)→aD E n (.func 53) [lv] h1 K'=true)
 (kk:∀h2 a',Ext h h2→h2.Ok→Gx x h2 h.sz h2.sz a'→K (.agg a') h2=true):aD E (n+1) (.func 25) [.agg a] h K=true:=by
 obtain⟨g1,g2,g3,g4⟩:=R.agg
 obtain⟨k,b,nn,t,ll⟩:=x
 obtain⟨lv,rfl,VL,rr⟩:=R.cells
 apply d25
 unfold s25
 obtain⟨h1,q1,V1,e1,o1,z1⟩:=kZ (n:=5) ho g2 (by decide) g3
 rw[g4] at V1
 refine iW q1 ?_
 obtain⟨h2,q2,V2,e2,o2,z2⟩:=gW (z:=[AV.int .i64 0, .bool false, .int .i64 0, .str [], .nilSlc]) o1 (by decide) rfl
 refine iW q2 ?_
 have V1:=V1.ext e2
 have A4:au h2 false 1 (.ptr h.sz 0 0 4)=some lv:=V1.get rfl
 refine aA ?_;refine aF A4 ?_
 refine hl ⟨k,b,nn,t,rfl⟩ ((VL.ext e1).ext e2) o2 fun h3 v e3 o3 lf sm G=> ?_
 obtain⟨h4,w1,W,w3,o4,w5⟩:=(V1.ext e3).wr o3 (off:=4) (v:=v) (show 4<5 by decide) lf
 refine aA ?_
 refine lq w1 ?_
 have W:Var h4 h.sz [.int .i64 k, .bool b, .int .i64 nn, .str t,v]:=W
 have A:au h4 true 5 (.ptr h.sz 0 0 0)=some (.agg [.int .i64 k, .bool b, .int .i64 nn, .str t,v]):=W.all rfl
 refine aF A ?_
 have V2:Var h4 h1.sz [AV.int .i64 0, .bool false, .int .i64 0, .str [], .nilSlc]:=w3.var (V2.ext e3) (by omega)
 obtain⟨h5,x1,X,x3,o5,x5⟩:=V2.wrs o4 (n:=5) (v:= .agg [.int .i64 k, .bool b, .int .i64 nn, .str t,v]) rfl rfl (by simp only[AV.cells,aV,lf];rfl)
 refine lq x1 ?_
 have X:Var h5 h1.sz [.int .i64 k, .bool b, .int .i64 nn, .str t,v]:=X
 refine res1 (X.all rfl) ?_
 have e15:Ext h h5:=x3.ext (w3.ext (bH (bH e1 e2) e3) ho (Nat.le_refl _)) ho (by omega)
 have kq:Kp h2.sz h3.sz h3 h5:=fun j o j1 j2 g=>x3.keep j o (by omega) (w3.keep j o (by omega) g)
 obtain⟨q,OW⟩:=G.ow
 refine kk h5 _ e15 o5 ⟨fun h' kp=>RV.of (G.rd h' (kq.trans (kp.sub (by omega) (by have:=w5;have:=x5;omega)))) rr,q,v,rfl,lf,(OW.kp kq).wide (by omega) (by have:=w5;have:=x5;omega)⟩
theorem v9:∀(k n:Nat) {h:aj} {v:AV} {l:List Val} {K:aC},VV h v l→h.Ok→fU l≤k→2*k+2≤n→k<1000000000→n<lim→
 (∀h2 v',Ext h h2→h2.Ok→v'.leaf=true→AV.same v' v'=true→Gv l h2 h.sz h2.sz v'→K v' h2=true)→aD E (n+1) (.func 53) [v] h K=true:=by
 intro k
 induction k with
 |zero=>
  intro n h v l K V ho hk hn hB hL kk
  have:l=[]:=by
   cases l with
   |nil=>rfl
   |cons x t=>have:=iE (x :: t);simp at this;omega
  subst this
  apply d53
  unfold s53
  obtain⟨n,rfl⟩:∃j,n=j+1:=⟨n-1,by omega⟩
  unfold Ea NG
  refine aF V.len ?_;refine aT ?_
  exact kk h .nilSlc (Ext.refl _) ho rfl EC ⟨fun h' _=>⟨[],View.nil _ _, .nil⟩,0,rfl,rfl⟩
 |succ k ih=>
  intro n hs v l K V ho hk hn hB hL kk
  have hlm:lim=4611686018427387904:=rfl
  have hmo:most=1099511627776:=rfl
  have hlen:=iE l
  apply d53
  unfold s53
  suffices H:∀m i h out es,l.length-i<m→i≤l.length→Ext hs h→h.Ok→Kv hs.sz h out es (l.take i)→Ea (aD E n) n m v out (.int .i64 (i:Int)) h K=true from
   H n 0 hs .nilSlc [] (by omega) (Nat.zero_le _) (Ext.refl _) ho ⟨Own.nil _ _ _,fun j i=>absurd i eH,rfl,fun _=>(0,0),by simp,by simp,by simp⟩
  intro m
  induction m with
  |zero=>intro i h out es hm;omega
  |succ m ihm=>
   intro i h out es hm hi e o C
   unfold Ea NG
   refine aF (V.ext e).len ?_;refine aT ?_
   by_cases hlt:i<l.length
   ·refine iM (decide_eq_true (by omega)) ?_
    obtain⟨id,g,j,ee,p1,p2,R⟩:=(V.ext e).at (List.getElem?_eq_getElem hlt)
    obtain⟨g1,g2,g3,g4⟩:=R.agg
    have hel:ee.length=5:=by rw[←g4];exact g2
    have A:au h true 5 (.ptr id g j 0)=some (.agg ee):=by rw[p2];exact g1
    have hm2:=jF (List.getElem_mem hlt)
    refine aF (p1 .i64) ?_;refine aF A ?_
    have e3:Ext h h:=Ext.refl _
    obtain⟨n,rfl⟩:∃j,n=j+2:=⟨n-2,by omega⟩
    refine v34 (n:=n+1) o R (fun{h1 lv ll K'} hx V1 o1 kk'=> ?_) fun h4 a' e4 o4 Gx'=> ?_
    ·obtain⟨k',b,nn,t,hx⟩:=hx
     have:fU ll+1≤fU l:=by rw[hx] at hm2;simp only[jg] at hm2;omega
     exact ih n V1 o1 (by omega) (by omega) (by omega) (by omega) kk'
    ·obtain⟨f1,f2,f3,f4⟩:=Gx'.now.agg
     obtain⟨w,h5,b1,b2,e5,o5,z5,_⟩:=iL (sz:=5) (z:=[AV.int .i64 0, .bool false, .int .i64 0, .str [], .nilSlc]) (v:= .agg a') o4 rfl (by decide) (by decide) rfl f2 f3
     rw[f4] at b2
     refine iW b1 ?_
     have eh5:=bH (bH e3 e4) e5
     have e05:=bH e eh5
     have hEl:es.length=i:=by rw[C.len,List.length_take];omega
     obtain⟨out',h6,a1,a2,a3,a4,a5,a6⟩:=kR (bytes:=64) (C.own.ext eh5) (by decide) e05.1 o5 ho e05 (Nat.le_refl _) b2.src (by rw[hEl];simp;omega) (by rw[hEl];simp;omega)
     refine iW a1 ?_
     refine aF (dV (i:=i) (by omega)) ?_
     have lowr:∀j,bL out j→j<h.sz:=fun j hj=>jW (iV C.own) o hj
     obtain⟨reg,r1,r2,r3⟩:=C.g
     have s1:=e.1;have s2:=e3.1;have s3:=e4.1;have s4:=e5.1;have s5:=a5.sz;have s6:=eh5.1
     obtain⟨rg,n1,n2⟩:∃rg:Nat→Nat×Nat,(∀q,q<i→rg q=reg q)∧rg i=(h.sz,h4.sz):=⟨fun q=>if q<i then reg q else(h.sz,h4.sz),fun q hq=>if_pos hq,if_neg (Nat.lt_irrefl i)⟩
     have hl:(es++[a']).length=i+1:=by simp[hEl]
     refine ihm (i+1) h6 out' (es++[a']) (by omega) (by omega) a4 a3 ⟨a2,fun j hj=>jW (iV a2) a3 hj,by rw[hl,List.length_take];omega,rg,fun q hq=> ?_,fun q q' h1 h2=> ?_,fun i' e' x he hx=> ?_⟩
     ·by_cases hq':q<i
      ·rw[n1 q hq']
       obtain⟨c1,c2,c3⟩:=r1 q (by omega)
       refine⟨c1,by omega,fun j hj p=> ?_⟩
       rcases a6 j hj with q' |q'
       ·exact c3 j q' p
       ·omega
      ·have:q=i:=by omega
       subst this
       rw[n2]
       refine⟨by show hs.sz≤h.sz;omega,by show h4.sz≤h6.sz;omega,fun j hj p=> ?_⟩
       have p1:h.sz≤j:=p.1
       have p2:j<h4.sz:=p.2
       rcases a6 j hj with q' |q'
       ·have:=lowr j q';omega
       ·omega
     ·rw[n1 q (by omega)]
      by_cases hq':q'<i
      ·rw[n1 q' hq'];exact r2 q q' h1 (by omega)
      ·have:q'=i:=by omega
       subst this
       rw[n2]
       have:=(r1 q (by omega)).2.1
       show(reg q).2≤h.sz
       omega
     by_cases hlt':i'<i
     ·rw[List.getElem?_append_left (by omega)] at he
      rw[List.getElem?_take_of_lt (by omega)] at hx
      rw[n1 i' hlt']
      exact(r3 i' e' x he (by rw[List.getElem?_take_of_lt hlt'];exact hx)).fr ((Kp.of_ext eh5).trans (Kp.of_fr a5 (r1 i' (by omega)).2.2))
     ·have:i'=i:=by
       have:=(List.getElem?_eq_some_iff.1 he).1
       omega
      subst this
      rw[List.getElem?_append_right (by omega),hEl,Nat.sub_self] at he
      simp at he
      subst he
      rw[List.getElem?_take_of_lt (by omega),List.getElem?_eq_getElem hlt] at hx
      cases hx
      rw[n2]
      refine Gx'.fr ((Kp.of_ext e5).trans (Kp.of_fr a5 fun j hj q=> ?_))
      have:=lowr j hj;have:=q.1;omega
   ·refine iF (decide_eq_false (by omega)) ?_
    rw[List.take_of_length_le (by omega)] at C
    have V':=(C.own.view)
    exact kk h out e o V'.leaf V'.same (C.gv o e.1)
end
theorem Ow.opened:∀{k lo hi:Nat} {h:aj} {v:AV} {l:List Val},Ow k lo hi h v l→∃(es:List (List AV)) (reg:Nat→Nat×Nat),Own lo h 5 v es∧(∀j,bL v j→j<hi)∧es.length=l.length∧
 (∀i,i<es.length→lo≤(reg i).1∧(reg i).2≤hi∧∀j,bL v j→¬((reg i).1≤j∧j<(reg i).2))∧
 (∀i i',i<i'→i'<es.length→(reg i).2≤(reg i').1)∧
 ∀(i:Nat) e x,es[i]? =some e→l[i]? =some x→∃lv,e=shape x lv∧lv.leaf=true∧∃k',k=k'+1∧Ow k' (reg i).1 (reg i).2 h lv x.ls
 |0,lo,hi,h,v,l,⟨e1,e2⟩=>by
  subst e1;subst e2
  exact⟨[],fun _=>(0,0), .inl ⟨rfl,rfl⟩,fun j i=>absurd i eH,rfl,by simp,by simp,by simp⟩
 |k+1,lo,hi,h,v,l,O=>by
  obtain⟨es,reg,a1,a2,a3,a4,a5,a6⟩:=O
  exact⟨es,reg,a1,a2,a3,a4,a5,fun i e x he hx=>let⟨lv,b1,b2,b3⟩:=a6 i e x he hx;⟨lv,b1,b2,k,rfl,b3⟩⟩
abbrev zA:AV:= .agg [.int .i64 0, .bool false, .int .i64 0, .str [], .nilSlc]
abbrev Au (lo hi:Nat):Nat→Prop:=fun j=>lo≤j∧j<hi
structure Rest (lo hi i:Nat) (es:List (List AV)) (reg:Nat→Nat×Nat) (h g:aj) (v:AV):Prop where
 own:∃es',Own lo g 5 v es'∧es'.length=es.length∧∀j,i≤j→es'[j]? =es[j]?
 fr:Fr (Au lo hi) h g
 kp:∀j,i≤j→j<es.length→Kp (reg j).1 (reg j).2 h g
theorem Rest.step {lo hi i:Nat} {es:List (List AV)} {reg:Nat→Nat×Nat} {h g g1:aj} {v x:AV} {eo:List AV} (R:Rest lo hi i es reg h g v) (hr:∀j,bL v j→j<hi) (hlo:∀j,bL v j→lo≤j)
 (r1:∀i,i<es.length→lo≤(reg i).1∧(reg i).2≤hi∧∀j,bL v j→¬((reg i).1≤j∧j<(reg i).2)) (r2:∀i i',i<i'→i'<es.length→(reg i).2≤(reg i').1) (hi':i<es.length) (heo:es[i]? =some eo) (hl:eo.length=5)
 (f1:Fr (Au (reg i).1 (reg i).2) g g1) (o1:g1.Ok) (hx:x.cells.length=5) (hf:aV x.cells=true):
 ∃id gg,(∀k,bS g1 5 v (.int k (i:Int))=some (.ptr id gg i 0))∧∃g2,bT g1 5 (.ptr id gg i 0) x=some g2∧g2.Ok∧Rest lo hi (i+1) es reg h g2 v:=by
 obtain⟨es',w1,w2,w3⟩:=R.own
 have W:=Own.fr w1 f1 fun j hj=>(r1 i hi').2.2 j hj
 obtain⟨id,gg,p1,p2,g2,p3,p4,p5,p6⟩:=wZ W (by rw[w3 i (Nat.le_refl _)];exact heo) hl hx hf
 refine⟨id,gg,p1,g2,p3,p6 o1,⟨_,p4,by rw[List.length_set,w2],fun j hj=> ?_⟩, ?_,fun j hj hj2=> ?_⟩
 ·rw[List.getElem?_set_ne (by omega)];exact w3 j (by omega)
 ·refine(R.fr.trans (f1.mono fun j hj=>⟨Nat.le_trans (r1 i hi').1 hj.1,Nat.lt_of_lt_of_le hj.2 (r1 i hi').2.1⟩)).trans (Fr.of_but ⟨hlo id p2,hr id p2⟩ p5)
 ·have:=r2 i j (by omega) hj2
  refine(R.kp j (by omega) hj2).trans ((Kp.of_fr f1 fun q hq hq2=> ?_).trans (Kp.of_but p5 fun q=>(r1 j hj2).2.2 id p2 q))
  have:=hq.2;have:=hq2.1;omega
theorem G6 {lo hi:Nat} {g:aj} {v:AV} {es:List (List AV)} (O:Own lo g 5 v es) (hr:∀j,bL v j→j<hi) (hlo:∀j,bL v j→lo≤j) (o:g.Ok) (hb:es.length<1000000000):
 ∃w g1,dX g 1 5 [AV.int .i64 0, .bool false, .int .i64 0, .str [], .nilSlc] [(0,zA)]=some (w,g1)∧Ext g g1∧∃v' g2,cK g1 5 64 v w=some (v',g2)∧Fr (Au lo hi) g g2∧
  ∃id gg,(∀k,bS g2 5 v' (.int k (es.length:Int))=some (.ptr id gg es.length 0))∧∃g3,bT g2 5 (.ptr id gg es.length 0) (.agg [.int .i64 97, .bool false, .int .i64 0, .str [], .nilSlc])=some g3∧Fr (Au lo hi) g g3∧g3.Ok:=by
 have hmo:most=1099511627776:=rfl
 obtain⟨w,g1,b1,b2,e1,o1,z1,_⟩:=iL (sz:=5) (z:=[AV.int .i64 0, .bool false, .int .i64 0, .str [], .nilSlc]) (v:=zA) o rfl (by decide) (by decide) rfl rfl rfl
 obtain⟨v',g2,a1,a2,a3,a4,a5⟩:=Uq (bytes:=64) (iV (O.ext e1)) (by decide) o1 b2.src (by simp;omega) (by simp;omega)
 have f2:Fr (Au lo hi) g g2:=(Fr.of_ext e1).trans (a4.mono fun j hj=>⟨hlo j hj,hr j hj⟩)
 obtain⟨id,gg,p1,p2,g3,p3,p4,p5,p6⟩:=wZ (i:=es.length) (x:= .agg [.int .i64 97, .bool false, .int .i64 0, .str [], .nilSlc]) a2 (List.getElem?_concat_length ..) rfl rfl rfl
 refine⟨w,g1,b1,e1,v',g2,a1,f2,id,gg,p1,g3,p3,f2.new (Fr.of_but ?_ p5) o,p6 a3⟩
 rcases a5 id p2 with q |q
 ·exact .inl ⟨hlo id q,hr id q⟩
 ·have:=e1.1;exact .inr (by omega)
theorem Own.len' {b n:Nat} {h h':aj} {v:AV} {es:List (List AV)} (O:Own b h n v es):dw h' 1 v=some (.int .i64 (es.length:Int)):=by
 rcases O with⟨rfl,rfl⟩|⟨id,r,_,rfl,_⟩<;>rfl
theorem v45:∀(k n:Nat) {hs:aj} {lv:AV} {lo hi:Nat} {x:Val} {K:aC},Ow k lo hi hs lv x.ls→lv.leaf=true→hs.Ok→hi≤hs.sz→jg x≤n→jg x<1000000000→n<lim→
 (∀h',Fr (Au lo hi) hs h'→h'.Ok→K (.tup []) h'=true)→aD E (n+1) (.func 14) [.agg (shape x lv)] hs K=true:=by
 intro k
 induction k using Nat.strongRecOn with
 |ind k ih=>
  intro n hs lv lo hi x K OW hlf ho hhi hn hB hL kk
  have hlm:lim=4611686018427387904:=rfl
  obtain⟨L1,L2,L3⟩:=wh (x:=x) hlf
  apply d14
  unfold s14
  obtain⟨h1,q1,V1,e1,o1,z1⟩:=kZ (n:=5) (v:= .agg (shape x lv)) ho (by rw[L1];exact L3) (by decide) (by rw[L1];exact L2)
  rw[L1] at V1
  refine iW q1 ?_
  obtain⟨es,reg,a1,a2,a3,a4,a5,a6⟩:=OW.opened
  have hlo:∀j,bL lv j→lo≤j:=fun j hj=>kJ a1 hj
  have hsz:fU x.ls+1≤jg x:=by cases x;simp only[Val.ls,jg];omega
  have hlen:=iE x.ls
  suffices H:∀m i g,es.length-i<m→i≤es.length→g.Ok→Rest lo hi i es reg h1 g lv→Iq (aD E n) n m (.ptr hs.sz 0 0 0) (.int .i64 (i:Int)) g K=true from
   H n 0 h1 (by omega) (Nat.zero_le _) o1 ⟨⟨es,a1.ext e1,rfl,fun _ _=>rfl⟩,Fr.refl _ _,fun j _ _=>Kp.refl _ _ _⟩
  intro m
  induction m with
  |zero=>intro i g hm;omega
  |succ m ihm=>
   intro i g hm hi' o R
   have A4:au g false 1 (.ptr hs.sz 0 0 4)=some lv:=(R.fr.var V1 (fun q=>by have:=q.2;omega)).get (Mh x lv)
   obtain⟨es',w1,w2,w3⟩:=R.own
   have hle:∀h',dw h' 1 lv=some (.int .i64 (es.length:Int)):=fun h'=>by rw[Own.len' w1,w2]
   unfold Iq Qw
   refine aA ?_;refine aF A4 ?_;refine aF (hle g) ?_;refine aT ?_
   by_cases hlt:i<es.length
   ·refine iM (decide_eq_true (by omega)) ?_
    have hx:i<x.ls.length:=by omega
    obtain⟨lv',b1,b2,k',hk,b3⟩:=a6 i _ _ (List.getElem?_eq_getElem hlt) (List.getElem?_eq_getElem hx)
    have hm2:=jF (List.getElem_mem hx)
    obtain⟨M1,M2,M3⟩:=wh (x:=x.ls[i]) b2
    have he:es'[i]? =some (shape x.ls[i] lv'):=by rw[w3 i (Nat.le_refl _),List.getElem?_eq_getElem hlt,b1]
    obtain⟨id,g0,j,p1,p2⟩:=w1.view.at1 he
    have A:au g true 5 (.ptr id g0 j 0)=some (.agg (shape x.ls[i] lv')):=by rw[p2];cases x.ls[i];rfl
    have r1:=a4 i hlt
    have s1:=R.fr.sz
    have s2:=e1.1
    refine aA ?_;refine aF A4 ?_;refine aF (p1 .i64) ?_;refine aF A ?_
    obtain⟨n,rfl⟩:∃j,n=j+1:=⟨n-1,by have:=iE x.ls;omega⟩
    refine ih k' (by omega) n ((b3.kp (Kp.of_ext e1)).kp (R.kp i (Nat.le_refl _) hlt)) b2 o (by have:=r1.2.1;omega) (by omega) (by omega) (by omega) fun g1 f1 o1'=> ?_
    have A4':au g1 false 1 (.ptr hs.sz 0 0 4)=some lv:=(f1.var (R.fr.var V1 (fun q=>by have:=q.2;omega)) (fun q=>by have:=q.2;have:=r1.2.1;omega)).get (Mh x lv)
    obtain⟨id2,gg,t1,g2,t2,t3,R'⟩:=R.step (x:= .agg [.int .i64 98, .bool false, .int .i64 0, .str [], .nilSlc]) a2 hlo a4 a5 hlt (by rw[List.getElem?_eq_getElem hlt,b1]) M3 f1 o1' rfl rfl
    refine aA ?_;refine aF A4' ?_;refine aF (show eP [AV.int .i64 0, .bool false, .int .i64 0, .str [], .nilSlc] [(0,1,(.int .i64 98))]=some (.agg [.int .i64 98, .bool false, .int .i64 0, .str [], .nilSlc]) from rfl) ?_;refine aF (t1 .i64) ?_
    refine lq t2 ?_
    refine aF (dV (i:=i) (by omega)) ?_
    exact ihm (i+1) g2 (by omega) (by omega) t3 R'
   ·refine iF (decide_eq_false (by omega)) ?_
    unfold LM
    obtain⟨w,g1,b1,e2,v',g2,b2,f2,id,gg,b3,g3,b4,f3,o3⟩:=G6 w1 a2 hlo o (by omega)
    refine aA ?_;refine aF A4 ?_;refine aF (show eP [AV.int .i64 0, .bool false, .int .i64 0, .str [], .nilSlc] []=some zA from rfl) ?_
    refine iW b1 ?_
    refine iW b2 ?_
    have A5:au g2 false 1 (.ptr hs.sz 0 0 4)=some lv:=((R.fr.trans f2).var V1 (fun q=>by have:=q.2;omega)).get (Mh x lv)
    refine aA ?_;refine aF A5 ?_;refine aF (hle g2) ?_;refine aF (show eP [AV.int .i64 0, .bool false, .int .i64 0, .str [], .nilSlc] [(0,1,(.int .i64 97))]=some (.agg [.int .i64 97, .bool false, .int .i64 0, .str [], .nilSlc]) from rfl) ?_
    rw[w2] at b3 b4
    refine aF (b3 .i64) ?_
    refine lq b4 ?_
    exact kk g3 ((Fr.of_ext e1).trans (R.fr.trans f3)) o3
theorem v12 (k n:Nat) {hs:aj} {lv:AV} {lo hi:Nat} {l:List Val} {K:aC} (OW:Ow k lo hi hs lv l) (ho:hs.Ok) (hhi:hi≤hs.sz) (hn:fU l+1≤n) (hB:fU l<1000000000) (hL:n<lim)
 (kk:∀h',Fr (Au lo hi) hs h'→h'.Ok→K (.tup []) h'=true):aD E (n+1) (.func 43) [lv] hs K=true:=by
 have hlm:lim=4611686018427387904:=rfl
 apply d43
 unfold s43
 obtain⟨es,reg,a1,a2,a3,a4,a5,a6⟩:=OW.opened
 have hlo:∀j,bL lv j→lo≤j:=fun j hj=>kJ a1 hj
 have hlen:=iE l
 suffices H:∀m i g,es.length-i<m→i≤es.length→g.Ok→Rest lo hi i es reg hs g lv→Im (aD E n) n m lv (.int .i64 (i:Int)) g K=true from
  H n 0 hs (by omega) (Nat.zero_le _) ho ⟨⟨es,a1,rfl,fun _ _=>rfl⟩,Fr.refl _ _,fun j _ _=>Kp.refl _ _ _⟩
 intro m
 induction m with
 |zero=>intro i g hm;omega
 |succ m ihm=>
  intro i g hm hi' o R
  obtain⟨es',w1,w2,w3⟩:=R.own
  have hle:∀h',dw h' 1 lv=some (.int .i64 (es.length:Int)):=fun h'=>by rw[Own.len' w1,w2]
  unfold Im Qg
  refine aF (hle g) ?_;refine aT ?_
  by_cases hlt:i<es.length
  ·refine iM (decide_eq_true (by omega)) ?_
   have hx:i<l.length:=by omega
   obtain⟨lv',b1,b2,k',hk,b3⟩:=a6 i _ _ (List.getElem?_eq_getElem hlt) (List.getElem?_eq_getElem hx)
   have hm2:=jF (List.getElem_mem hx)
   obtain⟨M1,M2,M3⟩:=wh (x:=l[i]) b2
   have he:es'[i]? =some (shape l[i] lv'):=by rw[w3 i (Nat.le_refl _),List.getElem?_eq_getElem hlt,b1]
   obtain⟨id,g0,j,p1,p2⟩:=w1.view.at1 he
   have A:au g true 5 (.ptr id g0 j 0)=some (.agg (shape l[i] lv')):=by rw[p2];cases l[i];rfl
   have r1:=a4 i hlt
   have s1:=R.fr.sz
   refine aF (p1 .i64) ?_;refine aF A ?_
   obtain⟨n,rfl⟩:∃j,n=j+1:=⟨n-1,by omega⟩
   refine v45 k' n (b3.kp (R.kp i (Nat.le_refl _) hlt)) b2 o (by have:=r1.2.1;omega) (by omega) (by omega) (by omega) fun g1 f1 o1'=> ?_
   obtain⟨id2,gg,t1,g2,t2,t3,R'⟩:=R.step (x:= .agg [.int .i64 98, .bool false, .int .i64 0, .str [111,118,101,114], .nilSlc]) a2 hlo a4 a5 hlt (by rw[List.getElem?_eq_getElem hlt,b1]) M3 f1 o1' rfl rfl
   refine aF (show eP [AV.int .i64 0, .bool false, .int .i64 0, .str [], .nilSlc] [(0,1,(.int .i64 98)),(3,1,(.str [111,118,101,114]))]=some (.agg [.int .i64 98, .bool false, .int .i64 0, .str [111,118,101,114], .nilSlc]) from rfl) ?_;refine aF (t1 .i64) ?_
   refine lq t2 ?_
   refine aF (dV (i:=i) (by omega)) ?_
   exact ihm (i+1) g2 (by omega) (by omega) t3 R'
  ·refine iF (decide_eq_false (by omega)) ?_
   obtain⟨w,g1,b1,e2,v',g2,b2,f2,id,gg,b3,g3,b4,f3,o3⟩:=G6 w1 a2 hlo o (by omega)
   unfold J3
   refine aF (show eP [AV.int .i64 0, .bool false, .int .i64 0, .str [], .nilSlc] []=some zA from rfl) ?_
   refine iW b1 ?_
   refine iW b2 ?_
   refine aF (hle g2) ?_;refine aF (show eP [AV.int .i64 0, .bool false, .int .i64 0, .str [], .nilSlc] [(0,1,(.int .i64 97))]=some (.agg [.int .i64 97, .bool false, .int .i64 0, .str [], .nilSlc]) from rfl) ?_
   rw[w2] at b3 b4
   refine aF (b3 .i64) ?_
   refine lq b4 ?_
   exact kk g3 (R.fr.trans f3) o3
theorem mJ {c d:Bool} {k:AV→Bool}:(ah (aQ (aB (.bool c) true) (some (.bool d))) fun v18=>ah (aQ (aB (.bool c) true) (fT v18)) fun v19=>ah (cB (.bool c) v19 (.bool false)) fun v20=>k v20)=k (.bool (c&& !d)):=by
 cases c with
 |false=>rfl
 |true=>simp only[jh,fB,ak,gH,jB,Bool.true_and]
theorem Xx {h:aj} {c:Bool} {p:AV} {x:Int} {k:AV→Bool} (ha:au h false 1 p=some (.int .i64 x)):(ah (aQ (aB (.bool c) true) (some p)) fun v64=>ah (aQ (aB (.bool c) true) (au h false 1 v64)) fun v65=>ah (aQ (aB (.bool c) true) (aR .geq v65 (.int .i64 1))) fun v66=>ah (cB (.bool c) v66 (.bool false)) fun v67=>k v67)=k (.bool (c&&decide (1≤x))):=by
 cases c with
 |false=>rfl
 |true=>simp only[jh,fB,ak,ha,nP,jB,Bool.true_and]
theorem aao {c d:Bool} {k:AV→Bool}:(ah (aQ (aB (.bool c) false) (some (.bool d))) fun v69=>ah (cB (.bool c) (.bool true) v69) fun v70=>k v70)=k (.bool (c||d)):=by
 cases c with
 |true=>rfl
 |false=>simp only[jd,Bool.not_false,fB,ak,iJ,Bool.false_or]
theorem acW {h:aj} {c:Bool} {p lv:AV} {len:Nat} {k:AV→Bool} (ha:au h false 1 p=some lv) (L:dw h 1 lv=some (.int .i64 (len:Int))):(ah (aQ (aB (.bool c) false) (some p)) fun v73=>ah (aQ (aB (.bool c) false) (au h false 1 v73)) fun v74=>ah (aQ (aB (.bool c) false) (dw h 1 v74)) fun v75=>ah (aQ (aB (.bool c) false) (aR .gtr v75 (.int .i64 4096))) fun v76=>ah (cB (.bool c) (.bool true) v76) fun v77=>k v77)=k (.bool (c||decide (4096<len))):=by
 have e:decide ((4096:Int)<(len:Int))=decide (4096<len):=by congr 1;apply propext;omega
 cases c with
 |true=>rfl
 |false=>simp only[jd,Bool.not_false,fB,ak,ha,L,lg,e,iJ,Bool.false_or]
theorem adA {c:Bool} {deep:Int} {k:AV→Bool}:(ah (aQ (aB (.bool c) false) (some (.int .i64 deep))) fun v78=>ah (aQ (aB (.bool c) false) (aR .geq v78 (.int .i64 30))) fun v79=>ah (cB (.bool c) (.bool true) v79) fun v80=>k v80)=k (.bool (c||decide (30≤deep))):=by
 cases c with
 |true=>rfl
 |false=>simp only[jd,Bool.not_false,fB,ak,nP,iJ,Bool.false_or]
theorem xL (len:Nat):(!decide ((0:Int)<(len:Int)))=decide (len=0):=by
 by_cases h:len=0
 ·subst h;rfl
 ·have:(0:Int)<(len:Int):=by omega
  rw[decide_eq_true this,decide_eq_false h];rfl
theorem Vg {n:Nat} {h:aj} {kind x deep:Int} {b:Bool} {t:Str} {lv:AV} {len:Nat} {K:aC} (ho:h.Ok) (hlf:lv.leaf=true) (L:∀h',Ext h h'→dw h' 1 lv=some (.int .i64 (len:Int)))
 (kl:kind≠4→∀h',Ext h h'→h'.Ok→K (.bool (iG kind b x t len)) h'=true)
 (k4:kind=4→∀h' p,Ext h h'→h'.Ok→Var h' p [.int .i64 kind, .bool b, .int .i64 x, .str t,lv]→(aZ (.bool (b|| !decide (x=0)|| !decide (t=[])||decide (4096<len)||decide (30≤deep))) (K (.bool false) h') (Fb (aD E n) n (.int .i64 deep) (.ptr p 0 0 0) h' K))=true):
 aD E (n+1) (.func 96) [.agg [.int .i64 kind, .bool b, .int .i64 x, .str t,lv], .int .i64 deep] h K=true:=by
 obtain⟨lf1,lf2⟩:=Rv (a:= .int .i64 kind) (b:= .bool b) (c:= .int .i64 x) (d:= .str t) (e:=lv) rfl rfl rfl rfl hlf
 apply d96
 unfold s96
 rw[lM (n:=5) (v:= .agg [.int .i64 kind, .bool b, .int .i64 x, .str t,lv]) (by rw[lf1];rfl) (by decide) (by rw[lf1];exact lf2),dD,lf1]
 have e1:=bU ho [[AV.int .i64 kind, .bool b, .int .i64 x, .str t,lv]] 5
 have o1:=cZ ho [[AV.int .i64 kind, .bool b, .int .i64 x, .str t,lv]] 5
 have V1:=eY h [AV.int .i64 kind, .bool b, .int .i64 x, .str t,lv]
 simp only[List.length_cons,List.length_nil,Nat.zero_add] at V1
 generalize Ab.newRow h [[AV.int .i64 kind, .bool b, .int .i64 x, .str t,lv]] 5=h1 at *
 generalize h.sz=p at *
 have stay:=L h1 e1
 have ef:∀o,aH o (.ptr p 0 0 0)=some (.ptr p 0 0 o):=fun o=>by rw[cO,Nat.zero_add]
 have l0:au h1 false 1 (.ptr p 0 0 0)=some (.int .i64 kind):=by rw[V1.load];rfl
 have l1:au h1 false 1 (.ptr p 0 0 1)=some (.bool b):=by rw[V1.load];rfl
 have l2:au h1 false 1 (.ptr p 0 0 2)=some (.int .i64 x):=by rw[V1.load];rfl
 have l3:au h1 false 1 (.ptr p 0 0 3)=some (.str t):=by rw[V1.load];rfl
 have l4:au h1 false 1 (.ptr p 0 0 4)=some lv:=by rw[V1.load];rfl
 rw[ef 1,ak,l1,ak,ef 2,ak,l2,ak,Bl,ak,ef 3,ak,l3,ak,yV,ak,ef 4,ak,l4,ak,stay,ak,lg,ak,ef 0,ak,l0,ak,dP,ak]
 by_cases c0:kind=0
 ·subst c0
  rw[dB (by decide),gH,ak,mJ,mJ,mJ,xL,Bool.not_not,Bool.not_not]
  exact kl (by decide) h1 e1 o1
 rw[dG (by simp[c0]),dP,ak]
 by_cases c1:kind=1
 ·subst c1
  rw[dB (by decide),gH,ak,mJ,mJ,xL,Bool.not_not,Bool.not_not]
  exact kl (by decide) h1 e1 o1
 rw[dG (by simp[c1]),dP,ak]
 by_cases c2:kind=2
 ·subst c2
  rw[dB (by decide),gH,ak,mJ,mJ,xL,Bool.not_not]
  exact kl (by decide) h1 e1 o1
 rw[dG (by simp[c2]),dP,ak]
 by_cases c3:kind=3
 ·subst c3
  rw[dB (by decide),gH,ak,mJ,mJ,xL,Bool.not_not,N9 l3]
  exact kl (by decide) h1 e1 o1
 rw[dG (by simp[c3]),dP,ak]
 by_cases c5:kind=5
 ·subst c5
  rw[dB (by decide),gH,ak,mJ,mJ,xL,Bool.not_not,Xx l2]
  exact kl (by decide) h1 e1 o1
 rw[dG (by simp[c5]),dP,ak]
 by_cases c4:kind=4
 ·rw[dB (by simp[c4]),aao,aao,acW l4 stay,adA]
  exact k4 c4 h1 p e1 o1 V1
 ·rw[dG (by simp[c4])]
  have:=kl c4 h1 e1 o1
  rw[zH c0 c1 c2 c3 c5] at this
  exact this
theorem v62:∀(k n:Nat) {h:aj} {a:List AV} {v:Val} {deep:Int} {K:aC},RV h a v→h.Ok→deep+(k:Int)=30→k≤30→jg v+k≤n→n<lim→(∀h',Ext h h'→h'.Ok→K (.bool (pE k v)) h'=true)→aD E (n+1) (.func 96) [.agg a, .int .i64 deep] h K=true:=by
 intro k
 induction k with
 |zero=>
  intro n h a v deep K R ho hd _ hsz hL kk
  cases v with
  |mk kind b x t l=>
   obtain⟨lv,rfl,V,_⟩:=R.cells
   refine Vg (len:=l.length) ho V.leaf (fun h' e=>(V.ext e).len) (fun h4 h' e o=> ?_) (fun h4 h' p e o _=> ?_)
   ·have:=kk h' e o
    rw[xW h4] at this;exact this
   ·subst h4
    rw[dB (by rw[decide_eq_true (show(30:Int)≤deep by omega),Bool.or_true])]
    exact kk h' e o
 |succ k ih=>
  intro n h a v deep K R ho hd hk hsz hL kk
  cases v with
  |mk kind b x t l=>
   obtain⟨lv,rfl,V,_⟩:=R.cells
   simp only[jg] at hsz
   have hlen:=iE l
   refine Vg (len:=l.length) ho V.leaf (fun h' e=>(V.ext e).len) (fun h4 h' e o=> ?_) (fun h4 h1 p e o P=> ?_)
   ·have:=kk h' e o
    rw[xW h4] at this;exact this
   ·subst h4
    have hd':decide ((30:Int)≤deep)=false:=decide_eq_false (by omega)
    rw[hd',Bool.or_false]
    have hle:(!decide (4096<l.length))=decide (l.length≤4096):=by
     by_cases h:l.length≤4096
     ·rw[decide_eq_true h,decide_eq_false (by omega)];rfl
     ·rw[decide_eq_false h,decide_eq_true (by omega)];rfl
    have hck:pE (k+1) (.mk 4 b x t l)=((!(b|| !decide (x=0)|| !decide (t=[])||decide (4096<l.length)))&&l.all (pE k)):=by
     rw[wL, ←hle]
     simp only[Bool.not_or,Bool.not_not]
    cases hbad:(b|| !decide (x=0)|| !decide (t=[])||decide (4096<l.length)) with
    |true=>
     rw[fV]
     have:=kk h1 e o
     rw[hck,hbad] at this
     exact this
    |false=>
     rw[fM]
     rw[hbad,Bool.not_false,Bool.true_and] at hck
     unfold Fb
     obtain⟨n,rfl⟩:∃j,n=j+1:=⟨n-1,by omega⟩
     have loop:∀(m i:Nat) (h2:aj),Ext h1 h2→h2.Ok→i≤l.length→l.length-i<m→(l.take i).all (pE k)=true→CS (aD E (n+1)) (n+1) m (.int .i64 deep) (.ptr p 0 0 0) (.int .i64 (i:Int)) h2 K=true:=by
      intro m
      induction m with
      |zero=>intro i h2 _ _ _ hm;omega
      |succ m ihm=>
       intro i h2 e2 o2 hi hm hall
       have P2:=P.ext e2
       have l4:au h2 false 1 (.ptr p 0 0 4)=some lv:=by rw[P2.load];rfl
       unfold CS K5
       rw[cO,ak,Nat.zero_add,l4,ak,(V.ext (e.trans e2)).len,ak,eF,ak]
       by_cases hlt:i<l.length
       ·have hci:=List.getElem?_eq_getElem hlt
        have ht:l.take (i+1)=l.take i++[l[i]]:=by rw[List.take_succ_eq_append_getElem hlt]
        have hmem:=jF (List.getElem_mem hlt)
        obtain⟨id,g,j,ee,p1,p2,R2⟩:=(V.ext (e.trans e2)).at hci
        obtain⟨g1,g2,g3,g4⟩:=R2.agg
        have hfalse:pE k l[i]=false→l.all (pE k)=false:=by
         intro hf
         rw[List.all_eq_false]
         exact⟨l[i],List.getElem_mem hlt,by rw[hf];decide⟩
        generalize l[i]=w at *
        rw[dB (by simpa using hlt),ak,l4,ak,p1,ak,p2,g1,ak,pI (by omega) (by omega),ak]
        refine ih n R2 o2 (by omega) (by omega) (by omega) (by omega) ?_
        intro h4 e4 o4
        rw[gH,ak]
        cases hc:pE k w with
        |false=>
         rw[Bool.not_false,fV]
         have:=kk h4 (e.trans (e2.trans e4)) o4
         rw[hck,hfalse hc] at this
         exact this
        |true=>
         rw[Bool.not_true,fM,dV (by omega),ak]
         refine ihm (i+1) h4 (e2.trans e4) o4 (by omega) (by omega) ?_
         rw[ht,List.all_append,hall]
         simp[hc]
       ·have hil:l.take i=l:=List.take_of_length_le (by omega)
        rw[hil] at hall
        rw[dG (by simpa using hlt)]
        have:=kk h2 (e.trans e2) o2
        rw[hck,hall] at this
        exact this
     exact loop (n+1) 0 h1 (Ext.refl _) o (Nat.zero_le _) (by omega) rfl
theorem v42 {n:Nat} {h:aj} {a:List AV} {v:Val} {K:aC} (R:RV h a v) (ho:h.Ok) (hn:jg v+30≤n) (hL:n<lim) (k:∀h',Ext h h'→h'.Ok→K (.bool (pE 30 v)) h'=true):aD E (n+2) (.func 87) [.agg a] h K=true:=by
 obtain⟨g1,g2,g3,g4⟩:=R.agg
 have hel:a.length=5:=by rw[←g4];exact g2
 apply d87
 unfold s87
 rw[lM (n:=5) g2 (by decide) g3,dD,g4]
 have e1:=bU ho [a] 5
 have o1:=cZ ho [a] 5
 have V1:=eY h a
 rw[hel] at V1
 generalize Ab.newRow h [a] 5=h1 at *
 rw[V1.load,g1,ak]
 exact v62 30 n (RV.ext e1 R) o1 (by omega) (Nat.le_refl _) hn hL (fun h' e o=>k h' (e1.trans e) o)
structure Pz where
 handle:Int
 cls:Str
def RFa (a:List AV) (f:Pz):Prop:=∃x2 x3 x4 x5,a=[.int .i64 f.handle, .str f.cls,x2,x3,x4,x5]
def TM (h:aj) (v:AV) (l:List Pz):Prop:=∃es,View h 6 v es∧gM RFa es l
theorem TM.ext {h h':aj} {v:AV} {l:List Pz} (V:TM h v l) (e:Ext h h'):TM h' v l:=let⟨es,h1,h2⟩:=V;⟨es,h1.ext e,h2⟩
theorem TM.len {h:aj} {v:AV} {l:List Pz} (V:TM h v l):dw h 1 v=some (.int .i64 (l.length:Int)):=by
 obtain⟨es,h1,h2⟩:=V;rw[h1.len,h2.length]
theorem TM.at {h:aj} {v:AV} {l:List Pz} (V:TM h v l) {i:Nat} {f:Pz} (hi:l[i]? =some f):
 ∃id g j,(∀k,bS h 6 v (.int k (i:Int))=some (.ptr id g j 0))∧au h false 1 (.ptr id g j 0)=some (.int .i64 f.handle)∧au h false 1 (.ptr id g j 1)=some (.str f.cls):=by
 obtain⟨es,h1,h2⟩:=V
 obtain⟨e,he,x2,x3,x4,x5,rfl⟩:=h2.get hi
 obtain⟨id,g,j,p1,p2⟩:=h1.at he
 exact⟨id,g,j,p1,by rw[p2];rfl,by rw[p2];rfl⟩
def qZ (x:Int):List Pz→Option Nat
 | []=>none
 |f :: l=>if f.handle=x then some 0 else(qZ x l).map (· + 1)
theorem MO {x:Int}:∀{l:List Pz} {i:Nat},qZ x l=some i→i<l.length
 | [],i,h=>by cases h
 |f :: l,i,h=>by
  simp only[qZ] at h
  by_cases e:f.handle=x
  ·rw[if_pos e] at h;cases h;simp
  ·rw[if_neg e] at h
   cases hx:qZ x l with
   |none=>rw[hx] at h;cases h
   |some j=>
    rw[hx] at h
    simp at h
    have:=MO hx
    simp;omega
theorem u26 {n:Nat} {h:aj} {v:AV} {l:List Pz} {x:Int} {K:aC} (V:TM h v l) (hn:l.length<n) (hL:n<lim) (k:K (.int .i64 (fint (qZ x l))) h=true):aD E (n+1) (.func 37) [v, .int .i64 x] h K=true:=by
 apply d37
 unfold s37
 have loop:∀(m i:Nat),i≤l.length→l.length-i<m→qZ x l=off i (qZ x (l.drop i))→DJ (aD E n) n m v (.int .i64 x) (.int .i64 (i:Int)) h K=true:=by
  intro m
  induction m with
  |zero=>intro i _ hm;omega
  |succ m ih=>
   intro i hi hm hx
   rw[U3]
   unfold NR
   rw[V.len,ak,eF,ak]
   by_cases hlt:i<l.length
   ·have hci:=List.getElem?_eq_getElem hlt
    have hd:l.drop i=l[i] :: l.drop (i+1):=by rw[List.drop_eq_getElem_cons hlt]
    obtain⟨id,g,j,p1,p2,p3⟩:=V.at hci
    generalize l[i]=f at *
    rw[dB (by simpa using hlt),p1,ak,cO,ak,Nat.zero_add,p2,ak,dP,ak]
    rw[hd] at hx
    by_cases he:f.handle=x
    ·rw[dB (by simp[he])]
     have:qZ x l=some i:=by rw[hx];simp[qZ,he,off]
     rw[this] at k;exact k
    ·rw[dG (by simp[he]),dV (by omega),ak]
     refine ih (i+1) (by omega) (by omega) ?_
     rw[hx]
     simp only[qZ,if_neg he]
     cases qZ x (l.drop (i+1)) with
     |none=>rfl
     |some q=>simp[off];omega
   ·have hd:l.drop i=[]:=List.drop_of_length_le (by omega)
    rw[hd] at hx
    rw[dG (by simpa using hlt)]
    have:qZ x l=none:=by rw[hx];rfl
    rw[this] at k;exact k
 exact loop n 0 (Nat.zero_le _) (by omega) (by rw[Ta];rfl)
def Ht (x:Int) (facts:List Pz):Option Str:=match qZ x facts with
 |none=>none
 |some i=>(facts[i]?).map Pz.cls
theorem NH {call:ay} {h:aj} {x0 x3:AV} {kind:Int} {i:Option Nat} {p:Nat} {u:Str} {s:Str} {id g j:Nat} {k:AV→aj→Bool} (hp:au h false 1 (.ptr p 0 0 2)=some (.str u)) (hi:∀q,i=some q→bS h 6 x3 (.int .i64 (q:Int))=some (.ptr id g j 0)∧au h false 1 (.ptr id g j 1)=some (.str s))
 (h0:(decide (kind=5)&&i.isSome)=false→k (.bool false) h=true) (h1:(decide (kind=5)&&i.isSome)=true→call (.func 74) [x0, .str s, .str u] h (fun v h=>k v h)=true):
 (ah (aR .eql (.int .i64 kind) (.int .i64 5)) fun v34=>ah (aQ (aB v34 true) (some (.int .i64 (fint i)))) fun v35=>ah (aQ (aB v34 true) (aR .geq v35 (.int .i64 0))) fun v36=>ah (cB v34 v36 (.bool false)) fun v37=>ah (aQ (aB v37 true) (some x0)) fun v38=>ah (aQ (aB v37 true) (some x3)) fun v39=>ah (aQ (aB v37 true) (some (.int .i64 (fint i)))) fun v40=>ah (aQ (aB v37 true) (bS h 6 v39 v40)) fun v41=>ah (aQ (aB v37 true) (aH 1 v41)) fun v42=>ah (aQ (aB v37 true) (au h false 1 v42)) fun v43=>ah (aQ (aB v37 true) (aH 2 (.ptr p 0 0 0))) fun v44=>ah (aQ (aB v37 true) (au h false 1 v44)) fun v45=>ji (aB v37 true) (fun k=>call (.func 74) [v38,v43,v45] h k) h fun v46 h=>ah (cB v37 v46 (.bool false)) fun v47=>k v47 h)=true:=by
 rw[dP,ak]
 cases hd:decide (kind=5) with
 |false=>
  rw[hd,Bool.false_and] at h0
  exact h0 rfl
 |true=>
  rw[hd,Bool.true_and] at h0 h1
  rw[jh,fB,ak,fB,nP,ak,jB,ak]
  cases i with
  |none=>exact h0 rfl
  |some q=>
   obtain⟨i1,i2⟩:=hi q rfl
   have hfi:fint (some q)=(q:Int):=rfl
   have:=h1 rfl
   rw[hfi,decide_eq_true (show(0:Int)≤(q:Int) by omega)]
   simp only[jh,fB,ak,i1,cO,Nat.zero_add,i2,hp,qw,jB]
   exact this
theorem u28 {n:Nat} {h:aj} {lw fw:AV} {l:List Cls} {f:lK} {a:List AV} {v:Val} {facts:List Pz} {K:aC} (C:CV h lw l) (A:Asc l) (ho:h.Ok) (R:RV h a v) (F:TM h fw facts) (hl:l.length≤64) (hn:5000<n) (hL:n+10<lim) (hv:jg v+100≤n) (hf:facts.length+100≤n)
 (k:∀h',Ext h h'→h'.Ok→K (.bool (tO l f v (fun x=>Ht x facts))) h'=true):aD E (n+4) (.func 66) [lw, .agg (dZ f), .agg a,fw] h K=true:=by
 obtain⟨g1,g2,g3,g4⟩:=R.agg
 have hel:a.length=5:=by rw[←g4];exact g2
 apply d66
 unfold s66
 rw[lM (n:=3) (v:= .agg (dZ f)) rfl (by decide) rfl,dD]
 have hcc:(AV.agg (dZ f)).cells=dZ f:=rfl
 rw[hcc]
 have e1:=bU ho [dZ f] 3
 have o1:=cZ ho [dZ f] 3
 have V1:Var (Ab.newRow h [dZ f] 3) h.sz (dZ f):=eY h (dZ f)
 generalize Ab.newRow h [dZ f] 3=h1 at *
 generalize h.sz=p at *
 rw[lM (n:=5) g2 (by decide) g3,dD,g4]
 have e2:=bU o1 [a] 5
 have o2:=cZ o1 [a] 5
 have Q2:=eY h1 a
 rw[hel] at Q2
 have V2:=V1.ext e2
 generalize Ab.newRow h1 [a] 5=h2 at *
 generalize h1.sz=q at *
 have E2:=e1.trans e2
 rw[Q2.load,g1,ak]
 refine v42 (n:=n+1) (RV.ext E2 R) o2 (by omega) (by omega) ?_
 intro h3 e3 o3
 have E3:=E2.trans e3
 have V3:=V2.ext e3
 have Q3:=Q2.ext e3
 have hk:=k h3 E3 o3
 cases v with
 |mk kind b x s vl=>
  obtain⟨lv,rfl,VL,_⟩:=R.cells
  have q0:au h3 false 1 (.ptr q 0 0 0)=some (.int .i64 kind):=by rw[Q3.load];rfl
  have q2:au h3 false 1 (.ptr q 0 0 2)=some (.int .i64 x):=by rw[Q3.load];rfl
  have v1:au h3 false 1 (.ptr p 0 0 1)=some (.int .i64 f.ty):=by rw[V3.load];rfl
  have v2:au h3 false 1 (.ptr p 0 0 2)=some (.str f.cls):=by rw[V3.load];rfl
  rw[gH,ak]
  unfold tO at hk
  cases hck:pE 30 (.mk kind b x s vl) with
  |false=>
   rw[hck,Bool.false_and] at hk
   rw[Bool.not_false,fV];exact hk
  |true=>
   rw[hck,Bool.true_and] at hk
   simp only at hk
   rw[Bool.not_true,fM,cO,ak,Nat.zero_add,q0,ak,dP,ak]
   by_cases k0:kind=0
   ·rw[if_pos k0] at hk
    rw[dB (by simp[k0])];exact hk
   rw[if_neg k0] at hk
   rw[dG (by simp[k0]),cO,ak,Nat.zero_add,v1,ak,dP,ak]
   by_cases t0:f.ty=0
   ·rw[if_pos t0] at hk
    rw[dB (by simp[t0])];exact hk
   rw[if_neg t0] at hk
   rw[dG (by simp[t0]),dP,ak]
   by_cases t1:f.ty=1
   ·rw[if_pos t1] at hk
    rw[dB (by simp[t1]),ak,q0,ak,dP,ak];exact hk
   rw[if_neg t1] at hk
   rw[dG (by simp[t1]),dP,ak]
   by_cases t2:f.ty=2
   ·rw[if_pos t2] at hk
    rw[dB (by simp[t2]),ak,q0,ak,dP,ak];exact hk
   rw[if_neg t2] at hk
   rw[dG (by simp[t2]),dP,ak]
   by_cases t3:f.ty=3
   ·rw[if_pos t3] at hk
    rw[dB (by simp[t3]),ak,q0,ak,dP,ak];exact hk
   rw[if_neg t3] at hk
   rw[dG (by simp[t3]),dP,ak]
   by_cases t4:f.ty=4
   ·rw[if_pos t4] at hk
    rw[dB (by simp[t4]),ak,q0,ak,dP,ak];exact hk
   rw[if_neg t4] at hk
   rw[dG (by simp[t4]),dP,ak]
   by_cases t5:f.ty=5
   ·rw[if_pos t5] at hk
    rw[dB (by simp[t5]),cO,ak,Nat.zero_add,q2,ak]
    refine u26 (n:=n+2) (F.ext E3) (by omega) (by omega) ?_
    rw[ak,q0,ak]
    cases hx:qZ x facts with
    |none=>
     have e:Ht x facts=none:=by unfold Ht;rw[hx]
     rw[e,Bool.and_false] at hk
     refine NH (s:=[]) (id:=0) (g:=0) (j:=0) v2 (fun q hq=>by cases hq) (fun _=>hk) (fun hh=>by rw[Option.isSome_none,Bool.and_false] at hh;cases hh)
    |some i=>
     have hlt:=MO hx
     have hci:=List.getElem?_eq_getElem hlt
     obtain⟨id,g,j,p1,p2,p3⟩:=(F.ext E3).at hci
     have e:Ht x facts=some facts[i].cls:=by unfold Ht;rw[hx];simp[hci]
     rw[e] at hk
     refine NH (s:=facts[i].cls) (id:=id) (g:=g) (j:=j) v2 (fun q hq=>by cases hq;exact⟨p1 _,p3⟩) ?_ ?_
     ·intro hh
      rw[Option.isSome_some,Bool.and_true] at hh
      rw[hh,Bool.false_and] at hk
      exact hk
     ·intro hh
      rw[Option.isSome_some,Bool.and_true] at hh
      rw[hh,Bool.true_and] at hk
      exact u15 (n:=n+1) (C.ext E3) A (by omega) (by unfold lim;omega) hk
   ·rw[if_neg t5] at hk
    rw[dG (by simp[t5])];exact hk
def om (cs:List Cls) (fs:List lK) (of:Int→Option Str):List Str→List (Str×Val)→Bool
 |_,[]=>true
 |done,p :: t=>match idx p.1 (fnames fs) with
  |none=>false
  |some k=>match fs[k]? with
   |none=>false
   |some f=>if p.1∈done∨tO cs f p.2 of=false then false else om cs fs of (done++[p.1]) t
def lS (s:Str):List (Str×Val)→Val→Val
 | [],v=>v
 |p :: t,v=>lS s t (if p.1=s then p.2 else v)
theorem NZ {s t:Str} {l:List Str} {i:Nat} (h:idx s l=some i) (k:idx t l=some i):s=t:=by
 have a:=(mE h).2
 rw[(mE k).2] at a
 exact(Option.some.inj a).symm
theorem Ie {α:Type} [DecidableEq α]:∀{l m:List α},l.Nodup→(∀x∈l,x∈m)→l.length≤m.length
 | [],m,_,_=>Nat.zero_le _
 |a :: l,m,h,s=>by
  have h1:=List.nodup_cons.1 h
  have ha:=s a List.mem_cons_self
  have ih:=Ie (m:=m.erase a) h1.2 fun x hx=>(List.mem_erase_of_ne (fun e=>h1.1 (by rw[←e];exact hx))).2 (s x (List.mem_cons_of_mem _ hx))
  rw[List.length_erase_of_mem ha] at ih
  have:0<m.length:=List.length_pos_of_mem ha
  simp only[List.length_cons]
  omega
section
variable {cs:List Cls} {fs:List lK} {of:Int→Option Str}
def Bits (fs:List lK) (m:Nat) (done:List Str):Prop:=∀i,m.testBit i=true↔∃s∈done,idx s (fnames fs)=some i
theorem Bits.nil:Bits fs 0 []:=fun i=>by simp
theorem Bits.at {m:Nat} {done:List Str} {s:Str} {i:Nat} (B:Bits fs m done) (h:idx s (fnames fs)=some i):m.testBit i=true↔s∈done:=by
 rw[B i]
 constructor
 ·rintro⟨t,h1,h2⟩;rw[NZ h h2];exact h1
 ·intro q;exact⟨s,q,h⟩
theorem Bits.add {m:Nat} {done:List Str} {s:Str} {i:Nat} (B:Bits fs m done) (h:idx s (fnames fs)=some i):Bits fs (m|||2 ^ i) (done++[s]):=by
 intro j
 rw[Nat.testBit_or,Nat.testBit_two_pow,Bool.or_eq_true,B j,decide_eq_true_eq]
 constructor
 ·rintro(⟨t,h1,h2⟩|rfl)
  ·exact⟨t,List.mem_append_left _ h1,h2⟩
  ·exact⟨s,by simp,h⟩
 ·rintro⟨t,h1,h2⟩
  rcases List.mem_append.1 h1 with h1 |h1
  ·exact .inl ⟨t,h1,h2⟩
  ·rw[List.mem_singleton] at h1;subst h1
   rw[h] at h2;exact .inr (Option.some.inj h2)
theorem Me {s:Str} {i:Nat} (h:idx s (fnames fs)=some i):∃f,fs[i]? =some f∧f.name=s:=by
 obtain⟨h1,h2⟩:=mE h
 have hl:i<fs.length:=by simpa[fnames] using h1
 refine⟨fs[i],List.getElem?_eq_getElem hl, ?_⟩
 have:(fnames fs)[i]? =some fs[i].name:=by simp[fnames,hl]
 rw[this] at h2;exact Option.some.inj h2
theorem xw:∀(gs:List (Str×Val)) (m:Nat) (done:List Str) (vs:List Val),Bits fs m done→(rE cs fs of gs m vs).isSome=om cs fs of done gs
 | [],m,done,vs,B=>rfl
 |p :: t,m,done,vs,B=>by
  simp only[rE,om]
  cases hx:idx p.1 (fnames fs) with
  |none=>rfl
  |some i=>
   obtain⟨f,hf,_⟩:=Me hx
   simp only[hf]
   have hb:=B.at hx
   by_cases hd:p.1∈done
   ·simp[hb.2 hd,hd]
   ·have hm:m.testBit i=false:=by
     cases q:m.testBit i with
     |false=>rfl
     |true=>exact absurd (hb.1 q) hd
    cases hft:tO cs f p.2 of with
    |false=>simp
    |true=>
     have ih:=xw t _ _ (vs.set i p.2) (B.add hx)
     simp[hm,hd,ih]
theorem Ic:∀(gs:List (Str×Val)) (done:List Str),om cs fs of done gs=true→done.Nodup→(∀s∈done,s∈fnames fs)→done.length+gs.length≤fs.length
 | [],done,_,hd,hm=>by
   have:=Ie hd hm
   simpa[fnames] using this
 |p :: t,done,h,hd,hm=>by
  simp only[om] at h
  cases hx:idx p.1 (fnames fs) with
  |none=>rw[hx] at h;cases h
  |some i=>
   obtain⟨f,hf,_⟩:=Me hx
   rw[hx] at h
   simp only[hf] at h
   split at h
   ·cases h
   ·rename_i q
    have hmem:p.1∈fnames fs:=List.mem_of_getElem? (mE hx).2
    have:=Ic t (done++[p.1]) h (List.nodup_append.2 ⟨hd,by simp,fun a ha b hb e=>by rw[List.mem_singleton] at hb;subst hb;subst e;exact q (.inl ha)⟩) fun s hs=>by
     rcases List.mem_append.1 hs with hs |hs
     ·exact hm s hs
     ·rw[List.mem_singleton] at hs;subst hs;exact hmem
    simp only[List.length_append,List.length_singleton,List.length_cons] at this ⊢
    omega
theorem uL (cs:List Cls) (name:Str) (of:Int→Option Str) (gs:List (Str×Val)) (vs:List Val):(given cs name of gs vs).isSome=om cs (fieldsOf cs name) of [] gs:=by
 unfold given
 split
 ·rename_i h
  cases hs:om cs (fieldsOf cs name) of [] gs with
  |false=>rfl
  |true=>
   have:=Ic gs [] hs .nil (fun _ h=>by cases h)
   simp at this;omega
 ·exact xw gs 0 [] vs Bits.nil
theorem Ga:∀(gs:List (Str×Val)) (m:Nat) (vs vs':List Val),rE cs fs of gs m vs=some vs'→vs'.length=vs.length
 | [],m,vs,vs',h=>by simp only[rE,Option.some.injEq] at h;rw[h]
 |p :: t,m,vs,vs',h=>by
  simp only[rE] at h
  split at h
  ·cases h
  ·split at h
   ·cases h
   ·split at h
    ·cases h
    ·rw[Ga t _ _ _ h,List.length_set]
theorem Ci:∀(gs:List (Str×Val)) (m:Nat) (vs vs':List Val) (j:Nat),rE cs fs of gs m vs=some vs'→m.testBit j=true→vs'[j]? =vs[j]?
 | [],m,vs,vs',j,h,_=>by simp only[rE,Option.some.injEq] at h;rw[h]
 |p :: t,m,vs,vs',j,h,hb=>by
  simp only[rE] at h
  split at h
  ·cases h
  ·rename_i i hi
   split at h
   ·cases h
   ·split at h
    ·cases h
    ·rename_i f hf q
     have hne:i≠j:=fun e=>q (by rw[e,hb];rfl)
     rw[Ci t _ _ _ j h (by rw[Nat.testBit_or,hb];rfl),List.getElem?_set_ne hne]
theorem QU {nm:Str} {i:Nat} (hi:idx nm (fnames fs)=some i):∀(gs:List (Str×Val)) (m:Nat) (vs vs':List Val),rE cs fs of gs m vs=some vs'→vs'[i]? =(vs[i]?).map (lS nm gs)
 | [],m,vs,vs',h=>by
   simp only[rE,Option.some.injEq] at h
   rw[h];cases vs'[i]? <;>rfl
 |p :: t,m,vs,vs',h=>by
  simp only[rE] at h
  split at h
  ·cases h
  ·rename_i j hj
   split at h
   ·cases h
   ·split at h
    ·cases h
    ·rw[QU hi t _ _ _ h]
     by_cases e:j=i
     ·subst e
      have hn:=NZ hj hi
      by_cases hl:j<vs.length
      ·rw[List.getElem?_set_self hl,List.getElem?_eq_getElem hl]
       simp only[Option.map_some,lS,hn,if_true]
      ·rw[List.getElem?_eq_none (by rw[List.length_set];omega),List.getElem?_eq_none (by omega)];rfl
     ·have hn:p.1≠nm:=fun q=>by rw[q,hi] at hj;exact e (Option.some.inj hj).symm
      rw[List.getElem?_set_ne e]
      cases vs[i]? with
      |none=>rfl
      |some v=>simp only[Option.map_some,lS,if_neg hn]
theorem Jm {p:Str×Val} {t:List (Str×Val)} {m:Nat} {vs vs':List Val} (h:rE cs fs of (p :: t) m vs=some vs'):
 ∃j,idx p.1 (fnames fs)=some j∧j<fs.length∧m.testBit j=false∧rE cs fs of t (m|||2 ^ j) (vs.set j p.2)=some vs':=by
 simp only[rE] at h
 split at h
 ·cases h
 ·rename_i j hj
  split at h
  ·cases h
  ·rename_i f hf
   split at h
   ·cases h
   ·rename_i q
    refine⟨j,hj,(List.getElem?_eq_some_iff.1 hf).1, ?_,h⟩
    cases hb:m.testBit j with
    |false=>rfl
    |true=>exact absurd (by rw[hb];rfl) q
theorem YN {old w:List Val} {j len:Nat} {v:Val} (hj:j<len) (hl:w.length=len) (he:w[j]? =old[j]?):
 dm old (w.set j v) len=if old[j]? =some v then dm old w len else dm old w len|||2 ^ j:=by
 apply Nat.eq_of_testBit_eq
 intro i
 rw[oU]
 by_cases e:i=j
 ·subst e
  rw[List.getElem?_set_self (by omega)]
  by_cases q:old[i]? =some v
  ·rw[if_pos q,oU,he];simp[q]
  ·rw[if_neg q,Nat.testBit_or,oU,Nat.testBit_two_pow];simp[q,hj]
 ·rw[List.getElem?_set_ne (fun q=>e q.symm)]
  by_cases q:old[j]? =some v
  ·rw[if_pos q,oU]
  ·rw[if_neg q,Nat.testBit_or,oU,Nat.testBit_two_pow,decide_eq_false (show ¬j=i from fun q=>e q.symm),Bool.or_false]
theorem TY {old w:List Val} {j:Nat} {v:Val} {c:Int} {st:List Int} (hl:j<w.length) (he:w[j]? =old[j]?):
 sD old (w.set j v) c st=if old[j]? =some v then sD old w c st else(sD old w c st).set j c:=by
 apply List.ext_getElem?
 intro i
 have key:∀u:List Val,(sD old u c st)[i]? =(st[i]?).map fun s=>if old[i]? =u[i]? then s else c:=fun u=>by simp[sD,List.getElem?_mapIdx]
 rw[key]
 by_cases e:i=j
 ·subst e
  rw[List.getElem?_set_self hl]
  by_cases q:old[i]? =some v
  ·rw[if_pos q,key,he];simp[q]
  ·rw[if_neg q]
   simp only[q,if_false]
   by_cases hs:i<st.length
   ·rw[List.getElem?_eq_getElem hs,List.getElem?_set_self (by simpa[sD] using hs)];rfl
   ·rw[List.getElem?_eq_none (by omega),List.getElem?_eq_none (by simp[sD];omega)];rfl
 ·rw[List.getElem?_set_ne (fun q=>e q.symm)]
  by_cases q:old[j]? =some v
  ·rw[if_pos q,key]
  ·rw[if_neg q,List.getElem?_set_ne (fun q=>e q.symm),key]
theorem R8 (old:List Val) (c:Int) (st:List Int):sD old old c st=st:=by
 apply List.ext_getElem?
 intro i
 simp[sD,List.getElem?_mapIdx]
end
structure DF where
 k:Int
 cls:Str
 vv:AV
 vs:List Val
 stated:Bool
 born:Nat
 sv:AV
 stamps:List Int
abbrev zQ (x:DF):List AV:=[.int .i64 x.k, .str x.cls,x.vv, .bool x.stated, .int .i64 (x.born:Int),x.sv]
def GR (x:DF):PF:=⟨x.k,x.cls,x.vs,x.stated,x.born,x.stamps⟩
structure DD where
 q:Nat
 cv:AV
 most:Int
 lv:AV
 fs:List DF
 clock:Nat
 last:Nat
structure Vk (b B:Nat) (τ:Nat→Tag) (o:Nat) (h:aj) (x:DF):Prop where
 vals:∃es,Own b h 5 x.vv es∧gM (DX (Out τ) h) es x.vs
 tv:∀j,bL x.vv j→τ j= .own o (.f x.k)
 st:Own b h 1 x.sv (ints x.stamps)
 ts:∀j,bL x.sv j→τ j= .own o (.st x.k)
 sz:fU x.vs≤B
 len:x.stamps.length=x.vs.length
structure DO (B:Nat) (τ:Nat→Tag) (o:Nat) (h0 h:aj) (D:DD):Prop where
 ok:h.Ok
 k0:h0.Ok
 e:Ext h0 h
 t0:∀j,j<h0.sz→τ j= .out
 hi:∀j,h.sz≤j→τ j= .out
 tq:τ D.q= .own o .p
 var:Var h D.q [D.cv, .int .i64 D.most,D.lv, .int .i64 (D.clock:Int), .int .i64 (D.last:Int)]
 l:Own h0.sz h 6 D.lv (D.fs.map zQ)
 tl:∀j,bL D.lv j→τ j= .own o (.rl .all)
 f:∀x∈D.fs,Vk h0.sz B τ o h x
 nd:(D.fs.map DF.k).Nodup
 kb:∀x∈D.fs,x.k≤D.last
section
variable {b B:Nat} {τ τ':Nat→Tag} {o:Nat} {h0 h h':aj} {D:DD} {X:Nat→Prop} {x:DF}
theorem Vk.fr (F:Vk b B τ o h x) (ok:h.Ok) (f:Fr X h h') (hx:∀j,X j→τ j≠ .out∧τ j≠ .own o (.f x.k)∧τ j≠ .own o (.st x.k)) (old:∀j,j<h.sz→τ' j=τ j):Vk b B τ' o h' x:=by
 obtain⟨es,V,A⟩:=F.vals
 exact⟨⟨es,Own.fr V f fun j i q=>(hx j q).2.1 (F.tv j i),A.mono fun _ _ r=>r.fr (Lt.of_fr f fun j q=>(hx j q).1) ok fun j hj e=>(old j hj).trans e⟩,
  fun j i=>by rw[old j (jW (iV V) ok i)];exact F.tv j i,Own.fr F.st f fun j i q=>(hx j q).2.2 (F.ts j i),fun j i=>by rw[old j (jW (iV F.st) ok i)];exact F.ts j i,F.sz,F.len⟩
theorem DO.low (O:DO B τ o h0 h D) {j:Nat} {t:Tag} (e:τ j=t) (ht:t≠ .out):h0.sz≤j:=by
 by_cases q:j<h0.sz
 ·exact absurd (e.symm.trans (O.t0 j q)) ht
 ·omega
theorem DO.fr (O:DO B τ o h0 h D) (f:Fr X h h') (ok:h'.Ok) (hx:∀j,X j→τ j≠ .out∧∀t,τ j≠ .own o t) (g:Tg τ τ' h h'):DO B τ' o h0 h' D:=by
 refine⟨ok,O.k0,f.ext O.e O.k0 fun j x=>O.low rfl (hx j x).1,fun j hj=> ?_,g.hi, ?_,f.var O.var (fun x=>(hx _ x).2 _ O.tq),Own.fr O.l f fun j i q=>(hx j q).2 _ (O.tl j i),fun j i=> ?_,fun x hx'=>(O.f x hx').fr O.ok f (fun j q=>⟨(hx j q).1,(hx j q).2 _,(hx j q).2 _⟩) g.old,O.nd,O.kb⟩
 ·rw[g.old j (by have:=O.e.1;omega)];exact O.t0 j hj
 ·rw[g.old _ (O.var.lt O.ok)];exact O.tq
 ·rw[g.old j (jW (iV O.l) O.ok i)];exact O.tl j i
theorem DO.tg (O:DO B τ o h0 h D) (s:h.sz≤h'.sz):Tg τ τ h h':=⟨fun _ _=>rfl,fun j hj=>O.hi j (Nat.le_trans s hj)⟩
theorem DO.ext (O:DO B τ o h0 h D) (e:Ext h h') (ok:h'.Ok):DO B τ o h0 h' D:=O.fr (Fr.of_ext (X:=fun _=>False) e) ok (fun _ x=>x.elim) (O.tg e.1)
theorem DO.st {o':Nat} (O:DO B τ o' h0 h D) (s:St o τ τ' h h') (n:o≠o'):DO B τ' o' h0 h' D:=
 O.fr s.fr s.ok (fun j ⟨t,e⟩=>⟨by rw[e];exact nofun,fun u=>by rw[e];intro q;cases q;exact n rfl⟩) s.tg
theorem DO.step {S:PT→Prop} {D':DD} (O:DO B τ o h0 h D) (f:Fr (XS τ o S) h h') (ok:h'.Ok) (g:Tg τ τ' h h') (e1:D'.q=D.q)
 (hv:Var h' D.q [D'.cv, .int .i64 D'.most,D'.lv, .int .i64 (D'.clock:Int), .int .i64 (D'.last:Int)]) (hl:Own h0.sz h' 6 D'.lv (D'.fs.map zQ)) (tl:∀j,bL D'.lv j→τ' j= .own o (.rl .all))
 (hf:∀x∈D'.fs,Vk h0.sz B τ' o h' x) (nd:(D'.fs.map DF.k).Nodup) (kb:∀x∈D'.fs,x.k≤D'.last):DO B τ' o h0 h' D':=by
 refine⟨ok,O.k0,f.ext O.e O.k0 fun j ⟨t,_,x⟩=>O.low x nofun,fun j hj=> ?_,g.hi, ?_, ?_,hl,tl,hf,nd,kb⟩
 ·rw[g.old j (by have:=O.e.1;omega)];exact O.t0 j hj
 ·rw[e1,g.old _ (O.var.lt O.ok)];exact O.tq
 ·rw[e1];exact hv
theorem DO.f' {S:PT→Prop} (O:DO B τ o h0 h D) (f:Fr (XS τ o S) h h') (g:Tg τ τ' h h') (hx:x∈D.fs) (n1:¬S (.f x.k)) (n2:¬S (.st x.k)):Vk h0.sz B τ' o h' x:=
 (O.f x hx).fr O.ok f (fun j q=>⟨KT q,zh n1 q,zh n2 q⟩) g.old
theorem DO.l0 (O:DO B τ o h0 h D):au h false 1 (.ptr D.q 0 0 0)=some D.cv:=O.var.get rfl
theorem DO.l1 (O:DO B τ o h0 h D):au h false 1 (.ptr D.q 0 0 1)=some (.int .i64 D.most):=O.var.get rfl
theorem DO.l2 (O:DO B τ o h0 h D):au h false 1 (.ptr D.q 0 0 2)=some D.lv:=O.var.get rfl
theorem DO.l3 (O:DO B τ o h0 h D):au h false 1 (.ptr D.q 0 0 3)=some (.int .i64 (D.clock:Int)):=O.var.get rfl
theorem DO.len (O:DO B τ o h0 h D):dw h 1 D.lv=some (.int .i64 (D.fs.length:Int)):=by have:=O.l.view.len;rwa [List.length_map] at this
theorem DO.cell (O:DO B τ o h0 h D) {i:Nat} (hi:D.fs[i]? =some x):∃id g j,(∀k,bS h 6 D.lv (.int k (i:Int))=some (.ptr id g j 0))∧∀ag off m,au h ag m (.ptr id g j off)=iH ag off m (zQ x):=
 O.l.view.at1 (by rw[List.getElem?_map,hi];rfl)
def wG (x:DF):Pz:=⟨x.k,x.cls⟩
theorem DO.fva (O:DO B τ o h0 h D):TM h D.lv (D.fs.map wG):=by
 refine⟨_,O.l.view, ?_⟩
 induction D.fs with
 |nil=>exact .nil
 |cons x t ih=>exact .cons ⟨_,_,_,_,rfl⟩ ih
theorem NV {k:Int}:∀{l:List DF} {i:Nat},qZ k (l.map wG)=some i→∃x,l[i]? =some x∧x.k=k
 | [],i,h=>by cases h
 |y :: l,i,h=>by
  simp only[List.map_cons,qZ] at h
  by_cases e:(wG y).handle=k
  ·rw[if_pos e] at h;cases h;exact⟨y,rfl,e⟩
  ·rw[if_neg e] at h
   cases hx:qZ k (l.map wG) with
   |none=>rw[hx] at h;cases h
   |some j=>rw[hx] at h;cases h;obtain⟨x,a,c⟩:=NV hx;exact⟨x,a,c⟩
def xY (l:List DF) (k:Int):Option Str:=Ht k (l.map wG)
section
variable {cs:List Cls} {gs:List (Str×Val)} {sv:AV} {name:Str} {n:Nat} {K:aC}
theorem e32 (O:DO B τ o h0 h D) (C:CV h0 D.cv cs) (Gd:Good cs) (hcs:cs.length≤64) (hld:load cs≤100000) (hfs:(fieldsOf cs name).length≤62) (S:GV h0 sv gs) (hb:∀p∈gs,jg p.2≤b) (hlen:gs.length<1000000000) (hfl:D.fs.length≤1000000) (hn:b+gs.length+3000000≤n) (hL:n+20<lim)
 (k:∀h',Ext h h'→h'.Ok→K (.int .i64 (if om cs (fieldsOf cs name) (xY D.fs) [] gs=true then 0 else 11)) h'=true):aD E (n+6) (.func 32) [.ptr D.q 0 0 0, .str name,sv] h K=true:=by
 have hlm:lim=4611686018427387904:=rfl
 apply d32
 unfold s32
 refine aN ?_;refine aA ?_;refine aF O.l0 ?_
 refine u34 cs.length (n+4) (h:=h) (by omega) (by omega) (by omega) O.ok (C.ext O.e) hld fun h1 u e1 o1 Ou=> ?_
 rw[CY Gd] at Ou
 generalize hF:fieldsOf cs name=F at *
 have VF1:=Ou.view
 obtain⟨es,W,A⟩:=S
 suffices H:∀m i g,gs.length-i<m→i≤gs.length→Ext h1 g→g.Ok→om cs F (xY D.fs) [] gs=om cs F (xY D.fs) ((gs.take i).map fun p=>p.1) (gs.drop i)→EM (aD E (n+5)) (n+5) m (.ptr D.q 0 0 0) sv u (.int .i64 (i:Int)) g K=true from
  H (n+5) 0 h1 (by omega) (Nat.zero_le _) (Ext.refl _) o1 rfl
 intro m
 induction m with
 |zero=>intro i g hm;omega
 |succ m ih=>
  intro i g hm hi e ok hset
  have e0g:Ext h0 g:=bH O.e (bH e1 e)
  have ehg:Ext h g:=bH e1 e
  have lenS:dw g 1 sv=some (.int .i64 (gs.length:Int)):=by rw[(W.ext e0g).len,A.length]
  have nameAt:∀{t:Nat} (ht:t<gs.length) {g':aj},Ext h0 g'→∃id gg j c,(∀k,bS g' 6 sv (.int k (t:Int))=some (.ptr id gg j 0))∧au g' false 1 (.ptr id gg j 0)=some (.str gs[t].1)∧au g' true 5 (.ptr id gg j 1)=some (.agg c)∧RV g' c gs[t].2:=by
   intro t ht g' e'
   obtain⟨ee,he,c,rfl,Rc⟩:=A.get (List.getElem?_eq_getElem ht)
   obtain⟨id,gg,j,p1,p2⟩:=(W.ext e').at1 he
   refine⟨id,gg,j,c,p1,by rw[p2];rfl, ?_,RV.ext e' Rc⟩
   rw[p2]
   have hc5:=Rc.len5
   simp only[iH,cond_true,List.length_cons,hc5]
   rw[bI.2 (Nat.le_refl 6),cond_true,List.drop_succ_cons,List.drop_zero,List.take_of_length_le (by omega)]
  unfold EM Rq
  refine aF lenS ?_;refine aT ?_
  by_cases hlt:i<gs.length
  rotate_left
  ·refine iF (decide_eq_false (by omega)) ?_
   have:=k g ehg ok
   rw[hset,List.drop_of_length_le (by omega)] at this
   exact this
  refine iM (decide_eq_true (by omega)) ?_
  have hd:gs.drop i=gs[i] :: gs.drop (i+1):=List.drop_eq_getElem_cons hlt
  obtain⟨id,gg,j,c,p1,p2,p3,p4⟩:=nameAt hlt e0g
  unfold LG
  refine aF (p1 .i64) ?_;refine aA ?_;refine aF p2 ?_
  have VFg:View g 3 u (F.map dZ):=VF1.ext e
  have hk:=k
  rw[hset,hd] at hk
  have szp:=hb gs[i] (List.getElem_mem hlt)
  generalize hp:gs[i]=p at *
  refine u35 (n:=n+4) VFg (wu F) (by simp[fnames];omega) (by simp[fnames];omega) ?_
  cases hix:idx p.1 (fnames F) with
  |none=>
   rw[show fint none= -1 from rfl]
   refine aT ?_
   rw[show decide ((-1:Int)<0)=true from rfl]
   refine bN ?_
   have:=hk g ehg ok
   simp only[om,hix,Bool.false_eq_true,if_false] at this
   exact this
  |some q=>
   obtain⟨f,hf,_⟩:=Me hix
   rw[show fint (some q)=(q:Int) from rfl]
   refine aT ?_
   rw[decide_eq_false (show ¬(q:Int)<0 by omega)]
   refine bO ?_
   unfold JN
   suffices H2:∀m2 t,i-t<m2→t≤i→(∀s,s<t→∀hs:s<gs.length,gs[s].1≠p.1)→Cx (aD E (n+5)) (n+5) (fun x0 x2 x7 x8 h=>EM (aD E (n+5)) (n+5) m x0 x2 x7 x8 h K) m2 (.ptr D.q 0 0 0) sv u (.int .i64 (i:Int)) (.int .i64 (q:Int)) (.int .i64 (t:Int)) g K=true from
    H2 (n+5) 0 (by omega) (Nat.zero_le _) fun s hs=>by omega
   intro m2
   induction m2 with
   |zero=>intro t hm2;omega
   |succ m2 ih2=>
    intro t hm2 ht hne
    unfold Cx Lc
    refine aT ?_
    by_cases htl:t<i
    ·refine iM (decide_eq_true (by omega)) ?_
     obtain⟨id2,gg2,j2,c2,r1,r2, -, -⟩:=nameAt (t:=t) (by omega) e0g
     refine aF (r1 .i64) ?_;refine aA ?_;refine aF r2 ?_;refine aF (p1 .i64) ?_;refine aA ?_;refine aF p2 ?_;refine bq ?_
     by_cases hq:gs[t].1=p.1
     ·rw[decide_eq_true hq]
      refine bN ?_
      have:=hk g ehg ok
      have hmem:p.1∈(gs.take i).map fun p=>p.1:=by
       rw[←hq]
       refine List.mem_map.2 ⟨gs[t],List.mem_take_iff_getElem.2 ⟨t,by omega,rfl⟩,rfl⟩
      simp only[om,hix,hf,if_pos (Or.inl hmem:p.1∈(gs.take i).map (fun p=>p.1)∨tO cs f p.2 (xY D.fs)=false),Bool.false_eq_true,if_false] at this
      exact this
     ·rw[decide_eq_false hq]
      refine bO ?_;refine aF (dV (i:=t) (by omega)) ?_
      refine ih2 (t+1) (by omega) (by omega) fun s hs hsl=> ?_
      by_cases es:s=t
      ·subst es;exact hq
      ·exact hne s (by omega) hsl
    ·refine iF (decide_eq_false (by omega)) ?_
     have hnm:p.1 ∉ (gs.take i).map fun p=>p.1:=fun w=>by
      obtain⟨x,hx,hxe⟩:=List.mem_map.1 w
      obtain⟨s,hs,rfl⟩:=List.mem_take_iff_getElem.1 hx
      exact hne s (by omega) (by omega) hxe
     have Og:=O.ext ehg ok
     have hqF:q<F.length:=(List.getElem?_eq_some_iff.1 hf).1
     obtain⟨id3,g3,j3,s1,s2⟩:=VFg.at (show(F.map dZ)[q]? =some (dZ f) by rw[List.getElem?_map,hf];rfl)
     have B1:au g true 3 (.ptr id3 g3 j3 0)=some (.agg (dZ f)):=by rw[s2];rfl
     unfold JZ
     refine aN ?_;refine aA ?_;refine aF Og.l0 ?_;refine aF (s1 .i64) ?_;refine aF B1 ?_;refine aF (p1 .i64) ?_;refine aA ?_;refine aF p3 ?_;refine aN ?_;refine aA ?_;refine aF Og.l2 ?_
     refine u28 (n:=n+1) (C.ext e0g) Gd.asc ok p4 Og.fva hcs (by omega) (by omega) (by omega) (by rw[List.length_map];omega) fun g2 e2 o2=> ?_
     have hk2:=hk g2 (bH ehg e2) o2
     cases hft:tO cs f p.2 (fun x=>Ht x (D.fs.map wG)) with
     |false=>
      refine aM ?_;refine bN ?_
      simp only[om,hix,hf,if_pos (Or.inr hft:p.1∈(gs.take i).map (fun p=>p.1)∨tO cs f p.2 (xY D.fs)=false),Bool.false_eq_true,if_false] at hk2
      exact hk2
     |true=>
      refine aL ?_;refine bO ?_
      unfold JJ
      refine aF (dV (i:=i) (by omega)) ?_
      refine ih (i+1) g2 (by omega) (by omega) (bH e e2) o2 ?_
      rw[hset,hd]
      have hno:¬(p.1∈(gs.take i).map (fun p=>p.1)∨tO cs f p.2 (xY D.fs)=false):=fun w=>by
       rcases w with w |w
       ·exact hnm w
       ·rw[show tO cs f p.2 (xY D.fs)=true from hft] at w;cases w
      simp only[om,hix,hf,if_neg hno]
      rw[List.take_succ_eq_append_getElem hlt,List.map_append,hp];rfl
end
end
end Go.Proofs.YthmnnlpbnhkhkaaGreat
