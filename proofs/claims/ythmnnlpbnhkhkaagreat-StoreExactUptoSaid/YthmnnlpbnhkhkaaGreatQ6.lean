/-
  Texts that the claim hangs on, part 7.
-/
import Derived.Test.YthmnnlpbnhkhkaaGreatQ5
import Derived.Test.YthmnnlpbnhkhkaaGreatRows
import Derived.KernelRfl
import Derived.Shelf.Lays2
import Derived.Ground.Names2Prog
import Derived.Test.YthmnnlpbnhkhkaaGreatProg
import Derived.Shelf.Slices.In.SortNone
import Derived.Ground.NamesProg
import Derived.Test.YthmnnlpbnhkhkaaGreatChecked
import Derived.Conc.MuLone
set_option linter.unusedSimpArgs false
set_option linter.unusedVariables false
namespace Go.Proofs.YthmnnlpbnhkhkaaGreat
open Go.Ab
theorem e25 {n:Nat} {h:aj} {a:List AV} {x:Val} {K:aC} (k:Nat) (R:RV h a x) (ho:h.Ok) (hk:jg x≤k) (hn:2*k+4≤n) (hB:k<1000000000) (hL:n<lim)
 (kk:∀h2 a',Ext h h2→h2.Ok→Gx x h2 h.sz h2.sz a'→K (.agg a') h2=true):aD E (n+1) (.func 25) [.agg a] h K=true:=by
 obtain⟨n,rfl⟩:∃j,n=j+1:=⟨n-1,by omega⟩
 refine v34 ho R (fun{h1 lv ll K'} hx V o1 kk'=> ?_) kk
 obtain⟨k',b,nn,t,hx⟩:=hx
 have:fU ll≤k:=by rw[hx] at hk;simp only[jg] at hk;omega
 exact v9 k n V o1 this (by omega) hB (by omega) kk'
theorem pR {b m n:Nat} {h:aj} {v w:AV} {es ws:List (List AV)} (V:View h n v es) (O:Own b h m w ws) (hnm:n≠m):∀id g s l c ex,v= .slc id g s l c ex→¬bL w id:=by
 intro id g s l c ex hv i
 rcases O with⟨rfl,_⟩|⟨id',r,_,rfl,w3,_,_,w6,_⟩
 ·exact eH i
 ·have e:=dh.1 i
  rcases V with⟨_,rfl |rfl⟩|⟨id2,g2,s2,cap,ex2,r2,rfl,k1,k2,k3,k4⟩
  ·cases hv
  ·cases hv
  ·cases hv
   rw[←e,w3] at k1;cases k1
   omega
theorem wB {s:Str} {p:Str×Val}:∀{l:List (Str×Val)} {v:Val},lS s (l++[p]) v=if p.1=s then p.2 else lS s l v
 | [],v=>rfl
 |q :: l,v=>by simp only[List.cons_append,lS];exact wB
theorem Bc {s:Str} {b:Nat}:∀{l:List (Str×Val)} {v:Val},(∀p∈l,jg p.2≤b)→jg v≤b→jg (lS s l v)≤b
 | [],v,_,h=>h
 |p :: l,v,hp,h=>by
  simp only[lS]
  refine Bc (fun q hq=>hp q (List.mem_cons_of_mem _ hq)) ?_
  split
  ·exact hp p List.mem_cons_self
  ·exact h
structure Zx (D D':DD) (F:List lK) (name:Str) (gs:List (Str×Val)) (st:Bool):Prop where
 fs:∃x,D'.fs=D.fs++[x]∧GR x=⟨((D.last+1:Nat):Int),name,F.map fun f=>lS f.name gs zV,st,D.clock+1,List.replicate F.length ((D.clock+1:Nat):Int)⟩
 sc:D'.q=D.q∧D'.cv=D.cv∧D'.most=D.most∧D'.clock=D.clock+1∧D'.last=D.last+1
section
variable {b B:Nat} {τ:Nat→Tag} {o:Nat} {h0 h:aj} {D:DD} {cs:List Cls} {gs:List (Str×Val)} {sv:AV} {name:Str} {n:Nat} {K:aC} {st:Bool}
theorem e9 (O:DO B τ o h0 h D) (C:CV h0 D.cv cs) (Gd:Good cs) (hcs:cs.length≤64) (hld:load cs≤100000) (hfs:(fieldsOf cs name).length≤62) (S:GV h0 sv gs) (hb:∀p∈gs,jg p.2≤b) (b1:1≤b) (bB:62*b≤B) (hB:B<100000000) (hlen:gs.length<1000000000) (hfl:D.fs.length≤1000000)
 (hcl:D.clock<500000) (hla:D.last<500000) (hn:2*b+gs.length+3000000≤n) (hL:n+20<lim)
 (k1:idx name (names cs)=none→K (.tup [.int .i64 0, .int .i64 10]) h=true)
 (k2:(idx name (names cs)).isSome→om cs (fieldsOf cs name) (xY D.fs) [] gs=false→∀h',Ext h h'→h'.Ok→K (.tup [.int .i64 0, .int .i64 11]) h'=true)
 (k3:(idx name (names cs)).isSome→om cs (fieldsOf cs name) (xY D.fs) [] gs=true→D.most≤D.fs.length→∀h',Ext h h'→h'.Ok→K (.tup [.int .i64 0, .int .i64 12]) h'=true)
 (k4:(idx name (names cs)).isSome→om cs (fieldsOf cs name) (xY D.fs) [] gs=true→D.fs.length<D.most→∀h' τ' D',DO B τ' o h0 h' D'→St o τ τ' h h'→Zx D D' (fieldsOf cs name) name gs st→K (.tup [.int .i64 ((D.last+1:Nat):Int), .int .i64 0]) h'=true):
 aD E (n+7) (.func 9) [.ptr D.q 0 0 0, .str name,sv, .bool st] h K=true:=by
 have hlm:lim=4611686018427387904:=rfl
 have hmo:most=1099511627776:=rfl
 apply d9
 unfold s9
 refine aN ?_;refine aA ?_;refine aF O.l0 ?_
 obtain⟨ec,Vc,Ac,Nc⟩:=(C.ext O.e).named
 refine u33 (n:=n+5) Vc Nc (by rw[eD];omega) (by rw[eD];omega) ?_
 cases hix:idx name (names cs) with
 |none=>
  rw[show fint none= -1 from rfl]
  refine aT ?_
  rw[show decide ((-1:Int)<0)=true from rfl]
  refine bN ?_
  exact k1 hix
 |some ci=>
 have his:(idx name (names cs)).isSome=true:=by rw[hix];rfl
 rw[show fint (some ci)=(ci:Int) from rfl]
 refine aT ?_
 rw[decide_eq_false (show ¬(ci:Int)<0 by omega)]
 refine bO ?_
 unfold QK
 refine e32 (n:=n) O C Gd hcs hld hfs S hb hlen hfl (by omega) hL fun h1 e1 o1=> ?_
 have O1:=O.ext e1 o1
 cases hset:om cs (fieldsOf cs name) (xY D.fs) [] gs with
 |false=>
  simp only[Bool.false_eq_true,if_false]
  refine aY ?_
  rw[show(!decide ((11:Int)=0))=true from rfl]
  refine bN ?_
  exact k2 his hset h1 e1 o1
 |true=>
 simp only[if_true]
 refine aY ?_
 rw[show(!decide ((0:Int)=0))=false from rfl]
 refine bO ?_
 unfold Tw
 refine aN ?_;refine aA ?_;refine aF O1.l2 ?_;refine aF O1.len ?_;refine aN ?_;refine aA ?_;refine aF O1.l1 ?_;refine bg ?_
 by_cases hfull:D.most≤D.fs.length
 ·rw[decide_eq_true hfull]
  refine bN ?_
  exact k3 his hset hfull h1 e1 o1
 rw[decide_eq_false hfull]
 refine bO ?_
 unfold Rp
 refine aN ?_;refine aA ?_;refine aF O1.l0 ?_
 refine u34 cs.length (n+5) (h:=h1) (by omega) (by omega) (by omega) o1 (C.ext O1.e) hld fun h2 u e2 o2 Ou=> ?_
 rw[CY Gd] at Ou
 generalize hF:fieldsOf cs name=F at *
 have e02:=bH e1 e2
 have O2:=O1.ext e2 o2
 have hq:D.q<h.sz:=O.var.lt O.ok
 refine aN ?_;refine aA ?_;refine aF O2.l3 ?_;refine aF (dV (i:=D.clock) (by omega)) ?_;refine aN ?_;refine aA ?_
 obtain⟨h3,w3,V3,b3,o3,z3⟩:=O2.var.wr o2 (off:=3) (v:= .int .i64 ((D.clock+1:Nat):Int)) (show 3<5 by decide) rfl
 refine lq w3 ?_
 have V3:Var h3 D.q [D.cv, .int .i64 D.most,D.lv, .int .i64 ((D.clock+1:Nat):Int), .int .i64 (D.last:Int)]:=V3
 have YU:au h3 false 1 (.ptr D.q 0 0 4)=some (.int .i64 (D.last:Int)):=V3.get rfl
 refine aN ?_;refine aA ?_;refine aF YU ?_;refine aF (dV (i:=D.last) (by omega)) ?_;refine aN ?_;refine aA ?_
 obtain⟨h4,w4,V4,b4,o4,z4⟩:=V3.wr o3 (off:=4) (v:= .int .i64 ((D.last+1:Nat):Int)) (show 4<5 by decide) rfl
 refine lq w4 ?_
 generalize hc:((D.clock+1:Nat):Int)=c at *
 generalize hhd:((D.last+1:Nat):Int)=hd at *
 have V4:Var h4 D.q [D.cv, .int .i64 D.most,D.lv, .int .i64 c, .int .i64 hd]:=V4
 have g4:∀{g},Var g D.q [D.cv, .int .i64 D.most,D.lv, .int .i64 c, .int .i64 hd]→au g false 1 (.ptr D.q 0 0 4)=some (.int .i64 hd):=fun V=>V.get rfl
 have g3:∀{g},Var g D.q [D.cv, .int .i64 D.most,D.lv, .int .i64 c, .int .i64 hd]→au g false 1 (.ptr D.q 0 0 3)=some (.int .i64 c):=fun V=>V.get rfl
 refine aN ?_;refine aA ?_;refine aF (g4 V4) ?_;refine aN ?_;refine aA ?_;refine aF (g3 V4) ?_
 have hbv:eP [.int .i64 0, .str [], .nilSlc, .bool false, .int .i64 0, .nilSlc] [(0,1,(AV.int .i64 hd)),(1,1,(AV.str name)),(3,1,(AV.bool st)),(4,1,(AV.int .i64 c))]=some (.agg [.int .i64 hd, .str name, .nilSlc, .bool st, .int .i64 c, .nilSlc]):=rfl
 refine aF hbv ?_
 obtain⟨h5,w5,V5,e5,o5,zz5⟩:=gW (z:=[AV.int .i64 0, .str [], .nilSlc, .bool false, .int .i64 0, .nilSlc]) o4 (by decide) rfl
 refine iW w5 ?_
 refine fQ (g4 (V4.ext e5)) (oJ _ _) ?_
 refine fQ (g3 (V4.ext e5)) (oJ _ _) ?_
 obtain⟨h6,w6,V6,b6,o6,z6⟩:=V5.wrs o5 (n:=6) (v:= .agg [.int .i64 hd, .str name, .nilSlc, .bool st, .int .i64 c, .nilSlc]) rfl rfl rfl
 refine lq w6 ?_
 have V6:Var h6 h4.sz [.int .i64 hd, .str name, .nilSlc, .bool st, .int .i64 c, .nilSlc]:=V6
 have s02:=e02.1
 have s5:=e5.1
 have hxq:h.sz≤h4.sz:=by omega
 have f24:Fr (fun j=>j=D.q) h2 h4:=(Fr.of_but (X:=fun j=>j=D.q) rfl b3).trans (Fr.of_but rfl b4)
 have f06:Fr (fun j=>j=D.q) h h6:=((Fr.of_ext e02).trans f24).new ((Fr.of_ext (X:=fun j=>j=D.q∨h.sz≤j) e5).trans (Fr.of_but (.inr hxq) b6)) O.ok
 have VF2:View h2 3 u (F.map dZ):=Ou.view
 have rowu:∀id g s l cc ex,u= .slc id g s l cc ex→h.sz≤id∧id<h2.sz:=fun id g s l cc ex hu=>by
  have hr:bL u id:=by rw[hu];exact dh.2 rfl
  have:=kJ Ou hr
  have:=jW (iV Ou) o2 hr
  have:=e1.1
  omega
 have VF6:View h6 3 u (F.map dZ):=(Fr.of_but (X:=fun j=>j=h4.sz) rfl b6).view ((f24.view VF2 fun id g s l cc ex hu w=>by have:=(rowu _ _ _ _ _ _ hu).1;omega).ext e5) fun id g s l cc ex hu w=>by have:=(rowu _ _ _ _ _ _ hu).2;omega
 have Vq6:Var h6 D.q [D.cv, .int .i64 D.most,D.lv, .int .i64 c, .int .i64 hd]:=b6.var (V4.ext e5) (by omega)
 generalize hxs:h4.sz=xq at *
 obtain⟨es0,W0,A0⟩:=S
 have hmo2:F.length≤62:=hfs
 suffices H:∀m i g vv sw es,F.length-i<m→i≤F.length→Fr (fun j=>j=D.q) h g→g.Ok→xq<g.sz→Var g D.q [D.cv, .int .i64 D.most,D.lv, .int .i64 c, .int .i64 hd]→Var g xq [.int .i64 hd, .str name,vv, .bool st, .int .i64 c,sw]→Own h.sz g 5 vv es→Own h.sz g 1 sw (ints (List.replicate i c))→¬bL vv xq→¬bL sw xq→(∀j,bL vv j→¬bL sw j)→
  gM (DX (fun j=>h.sz≤j∧j≠xq∧¬bL vv j∧¬bL sw j) g) es ((F.take i).map fun f=>lS f.name gs zV)→View g 3 u (F.map dZ)→Ed (aD E (n+6)) (n+6) m (.ptr D.q 0 0 0) sv u (.ptr xq 0 0 0) (.int .i64 (i:Int)) g K=true from
  H (n+6) 0 h6 .nilSlc .nilSlc [] (by omega) (Nat.zero_le _) f06 o6 (by omega) Vq6 V6 (Own.nil _ _ _) (Own.nil _ _ _) eH eH (fun j i=>absurd i eH) .nil VF6
 intro m
 induction m with
 |zero=>intro i g vv sw es hm;omega
 |succ m ih=>
  intro i g vv sw es hm hi f ok hxg Vq Vx OV OS nx1 nx2 dj A VF
  have lenF:dw g 1 u=some (.int .i64 (F.length:Int)):=by rw[VF.len,List.length_map]
  have e0g:Ext h0 g:=f.ext O.e O.k0 fun j ej=>by rw[ej];exact O.low O.tq nofun
  have sg:=f.sz
  unfold Ed SS
  refine aF lenF ?_;refine aT ?_
  by_cases hlt:i<F.length
  ·refine iM (decide_eq_true (by omega)) ?_
   unfold R6
   refine aF (v:= .agg z5) rfl ?_
   obtain⟨g1,w1,X1,e1',o1',z1⟩:=gW (z:=[AV.int .i64 0, .bool false, .int .i64 0, .str [], .nilSlc]) ok (by decide) rfl
   refine iW w1 ?_
   obtain⟨g2,w2,X2,b2,o2',z2⟩:=X1.wrs o1' (n:=5) (v:= .agg z5) rfl rfl rfl
   refine lq w2 ?_
   have X2:Var g2 g.sz z5:=X2
   have e2':Ext g g2:=b2.ext e1' ok (Nat.le_refl _)
   obtain⟨idf,gf,jf,tat⟩:=VF.atE (show(F.map dZ)[i]? =some (dZ F[i]) by simp[hlt])
   suffices H2:∀m2 t g' a,gs.length-t<m2→t≤gs.length→Ext g g'→g'.Ok→Var g' g.sz a→RV g' a (lS F[i].name (gs.take t) zV)→
    Ir (aD E (n+6)) (n+6) (fun x0 x2 x11 x12 x13 h=>Ed (aD E (n+6)) (n+6) m x0 x2 x11 x12 x13 h K) m2 (.ptr D.q 0 0 0) sv u (.ptr xq 0 0 0) (.int .i64 (i:Int)) (.ptr g.sz 0 0 0) (.int .i64 (t:Int)) g' K=true from
    H2 (n+6) 0 g2 z5 (by omega) (Nat.zero_le _) e2' o2' X2 (Nh (fun _=>False) g2).now
   intro m2
   induction m2 with
   |zero=>intro t g' a hm2;omega
   |succ m2 ih2=>
    intro t g' a hm2 ht eg ok' Xa Ra
    have e0g':=bH e0g eg
    have lenS:dw g' 1 sv=some (.int .i64 (gs.length:Int)):=by rw[(W0.ext e0g').len,A0.length]
    unfold Ir Sk
    refine aF lenS ?_;refine aT ?_
    by_cases htl:t<gs.length
    ·refine iM (decide_eq_true (by omega)) ?_
     obtain⟨ee,he,cc,rfl,Rc0⟩:=A0.get (List.getElem?_eq_getElem htl)
     obtain⟨id,gg,j,p1,p2⟩:=(W0.ext e0g').at1 he
     have Rc:=RV.ext e0g' Rc0
     have hc5:=Rc.len5
     obtain⟨r1,r2,r3,r4⟩:=Rc.agg
     obtain⟨y1,y2⟩:=tat g' eg
     have p3:au g' false 1 (.ptr id gg j 0)=some (.str gs[t].1):=by rw[p2];rfl
     have p4:au g' true 5 (.ptr id gg j 1)=some (.agg cc):=by
      rw[p2]
      simp only[iH,cond_true,List.length_cons,hc5]
      rw[bI.2 (Nat.le_refl 6),cond_true,List.drop_succ_cons,List.drop_zero,List.take_of_length_le (by omega)]
     have y3:au g' false 1 (.ptr idf gf jf 0)=some (.str F[i].name):=by rw[y2];rfl
     refine aF (p1 .i64) ?_;refine aA ?_;refine aF p3 ?_;refine aF (y1 .i64) ?_;refine aA ?_;refine aF y3 ?_;refine bq ?_
     have tk:gs.take (t+1)=gs.take t++[gs[t]]:=List.take_succ_eq_append_getElem htl
     by_cases hnm:gs[t].1=F[i].name
     ·rw[decide_eq_true hnm]
      refine bN ?_;refine aF (p1 .i64) ?_;refine aA ?_;refine aF p4 ?_
      have hal:a.length=5:=Ra.len5
      obtain⟨g3',w3',X3',b3',o3',z3'⟩:=Xa.wrs ok' (n:=5) (v:= .agg cc) r2 hal r3
      refine lq w3' ?_
      rw[r4] at X3'
      unfold Hy
      refine aF (dV (i:=t) (by omega)) ?_
      have eg3:Ext g g3':=b3'.ext eg ok (Nat.le_refl _)
      refine ih2 (t+1) g3' cc (by omega) (by omega) eg3 o3' X3' ?_
      rw[tk,wB,if_pos hnm]
      exact RV.ext (bH e0g eg3) Rc0
     ·rw[decide_eq_false hnm]
      refine bO ?_
      unfold Hy
      refine aF (dV (i:=t) (by omega)) ?_
      refine ih2 (t+1) g' a (by omega) (by omega) eg ok' Xa ?_
      rw[tk,wB,if_neg hnm];exact Ra
    ·refine iF (decide_eq_false (by omega)) ?_
     rw[List.take_of_length_le (by omega)] at Ra
     unfold Qd
     have hvl:jg (lS F[i].name gs zV)≤b:=Bc hb (by show jg zV≤b;simpa[jg,fU] using b1)
     generalize hlv:lS F[i].name gs zV=val at *
     have lvv:vv.leaf=true:=OV.view.leaf
     have svv:AV.same vv vv=true:=OV.view.same
     have ssw:AV.same sw sw=true:=OS.view.same
     have Vx':=Vx.ext eg
     have B2:∀{g'},Var g' xq [.int .i64 hd, .str name,vv, .bool st, .int .i64 c,sw]→au g' false 1 (.ptr xq 0 0 2)=some vv:=fun V=>V.get rfl
     have Aa:au g' true 5 (.ptr g.sz 0 0 0)=some (.agg a):=Xa.all Ra.len5
     refine aA ?_;refine aF (B2 Vx') ?_;refine aF Aa ?_
     refine e25 (n:=n+5) b Ra ok' hvl (by omega) (by omega) (by omega) fun g3' a' e3' o3' G=> ?_
     have eg3:=bH eg e3'
     refine fQ (B2 (Vx.ext eg3)) svv ?_
     obtain⟨f1,f2,f3,f4⟩:=G.now.agg
     obtain⟨w,g4',x1,x2,e4',o4',z4',_⟩:=iL (sz:=5) (z:=[AV.int .i64 0, .bool false, .int .i64 0, .str [], .nilSlc]) (v:= .agg a') o3' rfl (by decide) (by decide) rfl f2 f3
     rw[f4] at x2
     refine iW x1 ?_
     have eg4:=bH eg3 e4'
     refine fQ (B2 (Vx.ext eg4)) svv ?_
     have e0g4:=bH e0g eg4
     have hes:es.length=i:=by rw[A.length];simp;omega
     have s4:=eg4.1
     obtain⟨vv',g5',y1,OV',o5',e5',f5',r5'⟩:=kR (bytes:=64) (OV.ext eg4) (by decide) (by omega) o4' O.k0 e0g4 (by have:=O.e.1;omega) x2.src (by rw[hes];simp;omega) (by rw[hes];simp;omega)
     refine iW y1 ?_
     have nvx:∀j,bL vv j→j≠xq:=fun j q w=>nx1 (by rw[←w];exact q)
     have Vx5:=f5'.var (Vx.ext eg4) nx1
     have lv':=OV'.view.leaf
     obtain⟨g6',w6',Vx6,b6',o6',z6'⟩:=Vx5.wr o5' (off:=2) (v:=vv') (show 2<6 by decide) lv'
     refine aA ?_
     refine lq w6' ?_
     have Vx6:Var g6' xq [.int .i64 hd, .str name,vv', .bool st, .int .i64 c,sw]:=Vx6
     have B5:∀{g'},Var g' xq [.int .i64 hd, .str name,vv', .bool st, .int .i64 c,sw]→au g' false 1 (.ptr xq 0 0 5)=some sw:=fun V=>V.get rfl
     have lowv:∀j,bL vv j→h.sz≤j:=fun j q=>kJ OV q
     have Vq6:=b6'.var (f5'.var (Vq.ext eg4) fun q=>by have:=lowv _ q;omega) (show D.q≠xq by omega)
     refine aA ?_;refine aF (B5 Vx6) ?_;refine aN ?_;refine aA ?_;refine aF (g3 Vq6) ?_
     obtain⟨w2',g7',x1',x2',e7',o7',z7',_⟩:=iL (sz:=1) (z:=[AV.int .i64 0]) (v:= .int .i64 c) o6' rfl (by decide) (by decide) rfl rfl rfl
     refine iW x1' ?_
     refine fQ (B5 (Vx6.ext e7')) ssw ?_
     have e0g7:Ext h0 g7':=bH (b6'.ext e5' O.k0 (by have:=O.e.1;omega)) e7'
     have OS4:=OS.ext eg4
     have OS5:Own h.sz g5' 1 sw (ints (List.replicate i c)):=Own.fr OS4 f5' fun j q w=>dj j w q
     have OS7:=(Own.fr OS5 (Fr.of_but (X:=fun j=>j=xq) rfl b6') fun j q w=>nx2 (by rw[←w];exact q)).ext e7'
     have s5:=f5'.sz
     have s7:=e7'.1
     obtain⟨sw',g8',y1',OS',o8',e8',f8',r8'⟩:=kR (bytes:=8) OS7 (by decide) (by omega) o7' O.k0 e0g7 (by have:=O.e.1;omega) x2'.src (by rw[dN];simp;omega) (by rw[dN];simp;omega)
     refine iW y1' ?_
     have Vx8:=f8'.var (Vx6.ext e7') nx2
     have ls':=OS'.view.leaf
     obtain⟨g9',w9',Vx9,b9',o9',z9'⟩:=Vx8.wr o8' (off:=5) (v:=sw') (show 5<6 by decide) ls'
     refine aA ?_
     refine lq w9' ?_
     have Vx9:Var g9' xq [.int .i64 hd, .str name,vv', .bool st, .int .i64 c,sw']:=Vx9
     unfold TB
     refine aF (dV (i:=i) (by omega)) ?_
     have lows:∀j,bL sw j→h.sz≤j:=fun j q=>kJ OS q
     have ltv:∀j,bL vv j→j<g.sz:=fun j q=>jW (iV OV) ok q
     have lts:∀j,bL sw j→j<g.sz:=fun j q=>jW (iV OS) ok q
     have s8:=f8'.sz
     have z3'':=e3'.1
     have z34:=e4'.1
     have zgg:=eg.1
     have nv'x:¬bL vv' xq:=fun q=>by rcases r5' _ q with q |q;exact nx1 q;omega
     have ns'x:¬bL sw' xq:=fun q=>by rcases r8' _ q with q |q;exact nx2 q;omega
     have ltv':∀j,bL vv' j→j<g5'.sz:=fun j q=>jW (iV OV') o5' q
     have dj':∀j,bL vv' j→¬bL sw' j:=fun j q w=>by
      rcases r8' j w with w |w
      ·rcases r5' j q with q |q
       ·exact dj j q w
       ·have:=lts j w;omega
      ·have:=ltv' j q;omega
     have OV9:Own h.sz g9' 5 vv' (es++[a']):=Own.fr (Own.fr ((Own.fr OV' (Fr.of_but (X:=fun j=>j=xq) rfl b6') fun j q w=>nv'x (by rw[←w];exact q)).ext e7') f8' fun j q w=>by
      rcases r5' j q with q |q
      ·exact dj j q w
      ·have:=lts j w;omega) (Fr.of_but (X:=fun j=>j=xq) rfl b9') fun j q w=>nv'x (by rw[←w];exact q)
     have OS9:Own h.sz g9' 1 sw' (ints (List.replicate (i+1) c)):=by
      have:ints (List.replicate (i+1) c)=ints (List.replicate i c)++[[AV.int .i64 c]]:=by rw[List.replicate_succ'];simp[ints]
      rw[this]
      exact Own.fr OS' (Fr.of_but (X:=fun j=>j=xq) rfl b9') fun j q w=>ns'x (by rw[←w];exact q)
     have fall:Fr (fun j=>j=xq∨bL vv j∨bL sw j) g4' g9':=
      (((f5'.mono fun j q=> .inr (.inl q)).trans (Fr.of_but (.inl rfl) b6')).trans (Fr.of_ext e7')).trans ((f8'.mono fun j q=> .inr (.inr q)).trans (Fr.of_but (.inl rfl) b9'))
     have fh:Fr (fun j=>j=D.q) h g9':=f.new ((Fr.of_ext (X:=fun j=>j=D.q∨h.sz≤j) eg4).trans (fall.mono fun j q=> .inr (by rcases q with q |q |q;omega;exact lowv j q;exact lows j q))) O.ok
     have grow:∀{e x},DX (fun j=>h.sz≤j∧j≠xq∧¬bL vv j∧¬bL sw j) g4' e x→DX (fun j=>h.sz≤j∧j≠xq∧¬bL vv' j∧¬bL sw' j) g9' e x:=fun r=>r.fr (Lt.of_fr fall fun j q w=>by
      rcases q with q |q |q
      ·exact w.2.1 q
      ·exact w.2.2.1 q
      ·exact w.2.2.2 q) o4' fun j hj q=>⟨q.1,q.2.1,fun w=>by rcases r5' j w with w |w;exact q.2.2.1 w;omega,fun w=>by rcases r8' j w with w |w;exact q.2.2.2 w;omega⟩
     have Vq9:=b9'.var (f8'.var (Vq6.ext e7') fun q=>by have:=lows _ q;omega) (show D.q≠xq by omega)
     have VF9:View g9' 3 u (F.map dZ):=by
      have a1:=f5'.view (VF.ext eg4) (pR (VF.ext eg4) (OV.ext eg4) (by decide))
      have a2:=(Fr.of_but (X:=fun j=>j=xq) rfl b6').view a1 fun id g s l cc ex hu w=>by have:=(rowu _ _ _ _ _ _ hu).2;omega
      have a3:=f8'.view (a2.ext e7') (pR (a2.ext e7') OS7 (by decide))
      exact(Fr.of_but (X:=fun j=>j=xq) rfl b9').view a3 fun id g s l cc ex hu w=>by have:=(rowu _ _ _ _ _ _ hu).2;omega
     refine ih (i+1) g9' vv' sw' (es++[a']) (by omega) (by omega) fh o9' (by omega) Vq9 Vx9 OV9 OS9 nv'x ns'x dj' ?_ VF9
     rw[List.take_succ_eq_append_getElem hlt,List.map_append]
     refine gM.append (A.mono fun _ _ r=>grow (r.fr (Lt.of_ext eg4) ok fun j _ q=>q)) (.cons (grow ?_) .nil)
     show DX _ g4' a' (lS F[i].name gs zV)
     rw[hlv]
     intro h'' L
     refine G.rd h'' fun j ob l1 l2 gq=>L j ob ⟨by omega,by omega,fun w=>by have:=ltv j w;omega,fun w=>by have:=lts j w;omega⟩ (e4'.2 j ob gq)
  ·refine iF (decide_eq_false (by omega)) ?_
   have hiF:i=F.length:=by omega
   subst hiF
   rw[List.take_length] at A
   unfold Tc
   have B2:∀{g'},Var g' D.q [D.cv, .int .i64 D.most,D.lv, .int .i64 c, .int .i64 hd]→au g' false 1 (.ptr D.q 0 0 2)=some D.lv:=fun V=>V.get rfl
   have Ax:au g true 6 (.ptr xq 0 0 0)=some (.agg [.int .i64 hd, .str name,vv, .bool st, .int .i64 c,sw]):=Vx.all rfl
   have lvv:vv.leaf=true:=OV.view.leaf
   have lsw:sw.leaf=true:=OS.view.leaf
   refine aN ?_;refine aA ?_;refine aF (B2 Vq) ?_;refine aF Ax ?_
   obtain⟨w,g1,x1,x2,e1',o1',z1',_⟩:=iL (sz:=6) (z:=[AV.int .i64 0, .str [], .nilSlc, .bool false, .int .i64 0, .nilSlc]) (v:= .agg [.int .i64 hd, .str name,vv, .bool st, .int .i64 c,sw]) ok rfl (by decide) (by decide) rfl rfl (by show aV [.int .i64 hd, .str name,vv, .bool st, .int .i64 c,sw]=true;simp only[aV,lvv,lsw];rfl)
   refine iW x1 ?_
   have slv:AV.same D.lv D.lv=true:=O.l.view.same
   refine fQ (B2 (Vq.ext e1')) slv ?_
   have lowl:∀j,bL D.lv j→h0.sz≤j∧j<h.sz∧j≠D.q:=fun j q=>⟨kJ O.l q,jW (iV O.l) O.ok q,fun w=>by have h1:=O.tl j q;rw[w,O.tq] at h1;cases h1⟩
   have Lg:Own h0.sz g 6 D.lv (D.fs.map zQ):=Own.fr O.l f fun j q w=>(lowl j q).2.2 w
   have s1:=e1'.1
   have s0:=O.e.1
   obtain⟨lv',g2,y1,L',o2',e2',f2',r2'⟩:=kR (bytes:=88) (Lg.ext e1') (by decide) (by omega) o1' O.k0 (bH e0g e1') (Nat.le_refl _) x2.src (by simp only[List.length_map,List.length_cons,List.length_nil];omega) (by simp only[List.length_map,List.length_cons,List.length_nil];omega)
   refine iW y1 ?_
   have Vq2:=f2'.var (Vq.ext e1') fun q=>(lowl _ q).2.2 rfl
   obtain⟨g3',w3',Vq3,b3',o3',z3'⟩:=Vq2.wr o2' (off:=2) (v:=lv') (show 2<5 by decide) L'.view.leaf
   refine aN ?_;refine aA ?_
   refine lq w3' ?_
   have Vq3:Var g3' D.q [D.cv, .int .i64 D.most,lv', .int .i64 c, .int .i64 hd]:=Vq3
   have A4:au g3' false 1 (.ptr D.q 0 0 4)=some (.int .i64 hd):=Vq3.get rfl
   refine aN ?_;refine aA ?_;refine aF A4 ?_
   have s2:=f2'.sz
   let x:DF:=⟨hd,name,vv,F.map fun f=>lS f.name gs zV,st,D.clock+1,sw,List.replicate F.length c⟩
   let D':DD:=⟨D.q,D.cv,D.most,lv',D.fs++[x],D.clock+1,D.last+1⟩
   let τ':Nat→Tag:=gI (gI (gI τ (bL vv) (.own o (.f hd))) (bL sw) (.own o (.st hd))) (bL lv') (.own o (.rl .all))
   have lowv:∀j,bL vv j→h.sz≤j:=fun j q=>kJ OV q
   have lows:∀j,bL sw j→h.sz≤j:=fun j q=>kJ OS q
   have ltv:∀j,bL vv j→j<g.sz:=fun j q=>jW (iV OV) ok q
   have lts:∀j,bL sw j→j<g.sz:=fun j q=>jW (iV OS) ok q
   have rl:∀j,bL lv' j→(j<h.sz∧τ j= .own o (.rl .all))∨(j=g1.sz):=fun j q=>by
    rcases r2' j q with q |q
    ·exact .inl ⟨(lowl j q).2.1,O.tl j q⟩
    ·exact .inr q
   have tl:∀j,bL lv' j→τ' j= .own o (.rl .all):=fun j q=>gL q
   have ts:∀j,bL sw j→τ' j= .own o (.st hd):=fun j q=>by
    show gI (gI _ _ _) (bL lv') _ j=_
    rw[dS fun w=>by rcases rl j w with w |w;have:=lows j q;omega;have:=lts j q;omega];exact gL q
   have tv:∀j,bL vv j→τ' j= .own o (.f hd):=fun j q=>by
    show gI (gI _ _ _) (bL lv') _ j=_
    rw[dS fun w=>by rcases rl j w with w |w;have:=lowv j q;omega;have:=ltv j q;omega,dS (dj j q)];exact gL q
   have to:∀j,¬bL vv j→¬bL sw j→¬bL lv' j→τ' j=τ j:=fun j a1 a2 a3=>by
    show gI (gI (gI _ _ _) _ _) (bL lv') _ j=_
    rw[dS a3,dS a2,dS a1]
   have old:∀j,j<h.sz→τ' j=τ j:=fun j hj=>by
    by_cases w:bL lv' j
    ·rw[tl j w]
     rcases rl j w with w |w
     ·exact w.2.symm
     ·omega
    ·exact to j (fun q=>by have:=lowv j q;omega) (fun q=>by have:=lows j q;omega) w
   have ltl:∀j,bL lv' j→j<g2.sz:=fun j q=>jW (iV L') o2' q
   have hi':∀j,g3'.sz≤j→τ' j= .out:=fun j hj=>by
    rw[to j (fun q=>by have:=ltv j q;omega) (fun q=>by have:=lts j q;omega) (fun q=>by have:=ltl j q;omega)];exact O.hi j (by omega)
   have fr:Fr (XS τ o fun t=>t= .p∨t= .rl .all) h g3':=by
    have a1:Fr (XS τ o fun t=>t= .p∨t= .rl .all) h g:=f.mono fun j ej=>⟨.p, .inl rfl,by rw[ej];exact O.tq⟩
    have a2:Fr (XS τ o fun t=>t= .p∨t= .rl .all) g1 g2:=f2'.mono fun j q=>⟨_, .inr rfl,O.tl j q⟩
    have a3:Fr (XS τ o fun t=>t= .p∨t= .rl .all) g2 g3':=Fr.of_but ⟨_, .inl rfl,O.tq⟩ b3'
    exact((a1.trans (Fr.of_ext e1')).trans a2).trans a3
   have gt:Tg τ τ' h g3':=⟨old,hi'⟩
   have nvl:∀{w:AV} {j},(∀j,bL w j→h.sz≤j∧j<g.sz)→bL w j→¬bL D.lv j∧j≠D.q:=fun hw q=>⟨fun w=>by have:=(lowl _ w).2.1;have:=(hw _ q).1;omega,fun w=>by have:=(hw _ q).1;omega⟩
   have xlast:x.k=hd:=rfl
   have O':DO B τ' o h0 g3' D':=by
    refine O.step (D':=D') fr o3' gt rfl (by show Var g3' D.q [D.cv, .int .i64 D.most,lv', .int .i64 ((D.clock+1:Nat):Int), .int .i64 ((D.last+1:Nat):Int)];rw[hc,hhd];exact Vq3) ?_ tl (fun y hy=> ?_) ?_ fun y hy=> ?_
    ·show Own h0.sz g3' 6 lv' ((D.fs++[x]).map zQ)
     have:(D.fs++[x]).map zQ=D.fs.map zQ++[[.int .i64 hd, .str name,vv, .bool st, .int .i64 c,sw]]:=by rw[List.map_append];show _++[zQ x]=_;simp only[zQ,x,hc]
     rw[this]
     exact Own.fr L' (Fr.of_but (X:=fun j=>j=D.q) rfl b3') fun j q w=>by
      rcases r2' j q with q |q
      ·exact(lowl j q).2.2 w
      ·omega
    ·rcases List.mem_append.1 hy with hy |hy
     ·exact O.f' fr gt hy (fun q=>by rcases q with q |q<;>cases q) (fun q=>by rcases q with q |q<;>cases q)
     ·rw[List.mem_singleton] at hy
      subst hy
      have fg3:Fr (fun j=>j<h.sz) g g3':=(Fr.of_ext e1').trans ((f2'.mono fun j q=>(lowl j q).2.1).trans (Fr.of_but hq b3'))
      have ho:∀j,j<g.sz→(h.sz≤j∧j≠xq∧¬bL vv j∧¬bL sw j)→Out τ' j:=fun j hj w=>by
       show τ' j= .out
       rw[to j w.2.2.1 w.2.2.2 fun q=>by rcases rl j q with q |q;have:=w.1;omega;omega]
       exact O.hi j w.1
      have a1:Own h0.sz g3' 5 vv es:=Own.low (Own.fr OV fg3 fun j q w=>by have:=lowv j q;omega) (by omega)
      have a2:Own h0.sz g3' 1 sw (ints (List.replicate F.length c)):=Own.low (Own.fr OS fg3 fun j q w=>by have:=lows j q;omega) (by omega)
      have a3:fU (F.map fun f=>lS f.name gs zV)≤B:=by
       have hvb:∀v∈F.map fun f=>lS f.name gs zV,jg v≤b:=fun v hv=>by
        obtain⟨fl,_,rfl⟩:=List.mem_map.1 hv
        exact Bc hb (by simpa[jg,fU] using b1)
       have h1:=CU hvb
       have h2:(F.map fun f=>lS f.name gs zV).length*b≤62*b:=Nat.mul_le_mul_right b (by rw[List.length_map];omega)
       omega
      exact⟨⟨es,a1,A.mono fun _ _ r=>r.fr (Lt.of_fr fg3 fun j q w=>by have:=w.1;omega) ok ho⟩,tv,a2,ts,a3,by simp[x]⟩
    ·show((D.fs++[x]).map DF.k).Nodup
     rw[List.map_append]
     refine List.nodup_append.2 ⟨O.nd,by simp,fun a ha b' hb' e=> ?_⟩
     obtain⟨y,hy,rfl⟩:=List.mem_map.1 ha
     have:=O.kb y hy
     simp only[List.map_cons,List.map_nil,List.mem_singleton] at hb'
     rw[←e,xlast, ←hhd] at hb'
     omega
    ·show y.k≤((D.last+1:Nat):Int)
     rcases List.mem_append.1 hy with hy |hy
     ·have:=O.kb y hy;omega
     ·rw[List.mem_singleton] at hy;subst hy;rw[xlast, ←hhd];exact Int.le_refl _
   have S':St o τ τ' h g3':=⟨o3',fr.mono fun j ⟨t,_,e⟩=>⟨t,e⟩,old,fun j hj=>by
    by_cases w1:bL lv' j
    ·exact .inr ⟨⟨_,tl j w1⟩,by have:=ltl j w1;omega⟩
    by_cases w2:bL sw j
    ·exact .inr ⟨⟨_,ts j w2⟩,by have:=lts j w2;omega⟩
    by_cases w3:bL vv j
    ·exact .inr ⟨⟨_,tv j w3⟩,by have:=ltv j w3;omega⟩
    ·exact .inl (by rw[to j w3 w2 w1];exact O.hi j hj)⟩
   have fin:=k4 his hset (by omega) g3' τ' D' O' S' ⟨⟨x,rfl,by rw[hhd,hc];rfl⟩,rfl,rfl,rfl,rfl,rfl⟩
   exact fin
end
theorem WH {m i:Nat} (h:i<64):aR .shr (.int .u64 (m:Int)) (.int .u64 (i:Int))=some (.int .u64 ((m >>> i:Nat):Int)):=by
 have:=Sd (m:=m) h
 simp only[aR,oC,cond_true] at this ⊢
 exact this
theorem e39 {n:Nat} {h:aj} {a a':List AV} {x x':Val} {K:aC} (k:Nat) (ho:h.Ok) (R:RV h a x) (R':RV h a' x') (hk:jg x≤k) (hn:2*k+4≤n) (hB:k<1000000000) (hL:n<lim)
 (kk:∀h2 r,Ext h h2→h2.Ok→(r=true↔x=x')→K (.bool r) h2=true):aD E (n+1) (.func 39) [.agg a, .agg a'] h K=true:=by
 obtain⟨n,rfl⟩:∃j,n=j+1:=⟨n-1,by omega⟩
 refine Vt ho R R' (fun{h1 lv lv' ll ll' K'} hx V V' o1 kk'=> ?_) kk
 obtain⟨k',b,nn,t,hx⟩:=hx
 have:fU ll≤k:=by rw[hx] at hk;simp only[jg] at hk;omega
 exact JO k n V V' o1 this (by omega) hB (by omega) kk'
section
variable {b B:Nat} {τ:Nat→Tag} {o:Nat} {h0 h h':aj} {D:DD} {cs:List Cls} {gs:List (Str×Val)} {sv:AV} {n i:Nat} {K:aC} {k:Int} {x x':DF}
theorem DO.setF (O:DO B τ o h0 h D) (hi:D.fs[i]? =some x) (f:Fr (fun j=>τ j= .own o (.f x.k)∨τ j= .own o (.st x.k)) h h') (ok:h'.Ok) (F:Vk h0.sz B τ o h' x') (hk:x'.k=x.k) (hd:zQ x'=zQ x):DO B τ o h0 h' {D with fs:=D.fs.set i x'}:=by
 have f':Fr (XS τ o fun t=>t= .f x.k∨t= .st x.k) h h':=f.mono fun j q=>by
  rcases q with q |q
  ·exact⟨_, .inl rfl,q⟩
  ·exact⟨_, .inr rfl,q⟩
 have hlt:=(List.getElem?_eq_some_iff.1 hi).1
 have keys:(D.fs.set i x').map DF.k=D.fs.map DF.k:=by
  rw[List.map_set]
  apply List.ext_getElem?
  intro j
  by_cases e:i=j
  ·subst e
   rw[List.getElem?_set_self (by simpa using hlt),List.getElem?_map,hi,Option.map_some,hk]
  ·rw[List.getElem?_set_ne e]
 refine O.step (D':={D with fs:=D.fs.set i x'}) f' ok (O.tg f.sz) rfl (f'.var O.var (iy O.tq fun q=>by rcases q with q |q<;>cases q)) ?_ O.tl (fun y hy=> ?_) (by rw[keys];exact O.nd) fun y hy=> ?_
 ·have:(D.fs.set i x').map zQ=D.fs.map zQ:=by
   rw[List.map_set]
   apply List.ext_getElem?
   intro j
   by_cases e:i=j
   ·subst e
    rw[List.getElem?_set_self (by simpa using hlt),List.getElem?_map,hi,Option.map_some,hd]
   ·rw[List.getElem?_set_ne e]
  show Own h0.sz h' 6 D.lv ((D.fs.set i x').map zQ)
  rw[this]
  exact Own.fr O.l f' fun j q=>iy (O.tl j q) fun w=>by rcases w with w |w<;>cases w
 ·obtain⟨j,hj⟩:=List.getElem?_of_mem hy
  by_cases e:i=j
  ·subst e
   rw[List.getElem?_set_self hlt] at hj
   cases hj;exact F
  ·rw[List.getElem?_set_ne e] at hj
   have hym:=List.mem_of_getElem? hj
   have hne:y.k≠x.k:=fun q=>by
    have h1:(D.fs.map DF.k)[j]? =some y.k:=by rw[List.getElem?_map,hj];rfl
    have h2:(D.fs.map DF.k)[i]? =some x.k:=by rw[List.getElem?_map,hi];rfl
    rw[q] at h1
    exact e ((List.getElem?_inj (by simpa using hlt) O.nd).1 (h2.trans h1.symm))
   exact O.f' f' (O.tg f.sz) hym (fun q=>by
    rcases q with q |q
    ·injection q with q;exact hne q
    ·cases q) (fun q=>by
    rcases q with q |q
    ·cases q
    ·injection q with q;exact hne q)
 ·have:y.k∈(D.fs.set i x').map DF.k:=List.mem_map_of_mem hy
  rw[keys] at this
  obtain⟨z,hz,e⟩:=List.mem_map.1 this
  rw[←e];exact O.kb z hz
theorem DO.tick (O:DO B τ o h0 h D) {c:Nat} (f:But D.q h h') (ok:h'.Ok) (V:Var h' D.q [D.cv, .int .i64 D.most,D.lv, .int .i64 (c:Int), .int .i64 (D.last:Int)]):DO B τ o h0 h' {D with clock:=c}:=by
 have f':Fr (XS τ o fun t=>t= .p) h h':=Fr.of_but ⟨_,rfl,O.tq⟩ f
 exact O.step (D':={D with clock:=c}) f' ok (O.tg f.sz) rfl V (Own.fr O.l f' fun j q=>iy (O.tl j q) nofun) O.tl (fun y hy=>O.f' f' (O.tg f.sz) hy nofun nofun) O.nd O.kb
structure aeH (D D':DD) (i:Nat):Prop where
 fs:D'.fs=D.fs.take i++D.fs.drop (i+1)
 sc:D'.q=D.q∧D'.cv=D.cv∧D'.most=D.most∧D'.clock=D.clock+1∧D'.last=D.last
theorem e13 (O:DO B τ o h0 h D) (hfl:D.fs.length≤1000000) (hcl:D.clock<500000) (hn:3000000≤n) (hL:n+20<lim)
 (k0:qZ k (D.fs.map wG)=none→K (.int .i64 7) h=true)
 (k1:∀i,qZ k (D.fs.map wG)=some i→∀h' τ' D',DO B τ' o h0 h' D'→St o τ τ' h h'→aeH D D' i→K (.int .i64 0) h'=true):
 aD E (n+3) (.func 13) [.ptr D.q 0 0 0, .int .i64 k] h K=true:=by
 have hlm:lim=4611686018427387904:=rfl
 have hmo:most=1099511627776:=rfl
 apply d13
 unfold s13
 refine aN ?_;refine aA ?_;refine aF O.l2 ?_
 refine u26 (n:=n+1) O.fva (by rw[List.length_map];omega) (by omega) ?_
 cases hx:qZ k (D.fs.map wG) with
 |none=>
  rw[show fint none= -1 from rfl]
  refine aT ?_
  rw[show decide ((-1:Int)<0)=true from rfl]
  refine bN ?_
  exact k0 hx
 |some i=>
  have hi:=MO hx
  rw[List.length_map] at hi
  rw[show fint (some i)=(i:Int) from rfl]
  refine aT ?_
  rw[decide_eq_false (show ¬(i:Int)<0 by omega)]
  refine bO ?_;refine aN ?_;refine aA ?_;refine aF O.l3 ?_;refine aF (dV (i:=D.clock) (by omega)) ?_;refine aN ?_;refine aA ?_
  obtain⟨h1,w1,V1,b1,o1,z1⟩:=O.var.wr O.ok (off:=3) (v:= .int .i64 ((D.clock+1:Nat):Int)) (show 3<5 by decide) rfl
  refine lq w1 ?_
  have V1:Var h1 D.q [D.cv, .int .i64 D.most,D.lv, .int .i64 ((D.clock+1:Nat):Int), .int .i64 (D.last:Int)]:=V1
  have O1:=O.tick b1 o1 V1
  have A2:∀{g},Var g D.q [D.cv, .int .i64 D.most,D.lv, .int .i64 ((D.clock+1:Nat):Int), .int .i64 (D.last:Int)]→au g false 1 (.ptr D.q 0 0 2)=some D.lv:=fun V=>V.get rfl
  refine aN ?_;refine aA ?_;refine aF (A2 V1) ?_
  have L1:Own h0.sz h1 6 D.lv (D.fs.map zQ):=O1.l
  obtain⟨v1,c1,c2⟩:=L1.view.front (j:= .i64) (b:=i) (by rw[List.length_map];omega)
  refine aF c1 ?_
  have e01:Ext h0 h1:=O1.e
  have hl:((D.fs.map zQ).take i).length=i:=by simp;omega
  obtain⟨v2,h2,y1,Y,o2,e2,f2,r2⟩:=kR (b:=h0.sz) (bytes:=88) (Own.nil h0.sz h1 6) (by decide) O1.e.1 o1 O.k0 e01 (Nat.le_refl _) c2.src (by rw[hl];simp;omega) (by rw[hl];simp;omega)
  refine iW y1 ?_
  have ext12:Ext h1 h2:=⟨f2.sz,fun j ob g=>f2.keep j ob eH g⟩
  have V2:=V1.ext ext12
  refine aN ?_;refine aA ?_;refine aF (A2 V2) ?_;refine aF (dV (i:=i) (by omega)) ?_
  have L2:=L1.ext ext12
  obtain⟨v3,c3,c4⟩:=L2.view.back (k:= .i64) (a:=i+1) (by rw[List.length_map];omega)
  refine aF c3 ?_
  have hl2:((D.fs.map zQ).drop (i+1)).length=D.fs.length-(i+1):=by simp
  rw[List.nil_append] at Y
  obtain⟨v4,h3,x1,X,o3,e3,f3,r3⟩:=kR (bytes:=88) Y (by decide) (by have:=O1.e.1;have:=f2.sz;omega) o2 O.k0 e2 (Nat.le_refl _) c4.src (by rw[hl,hl2];omega) (by rw[hl,hl2];omega)
  refine iW x1 ?_
  have newr2:∀j,bL v2 j→j=h1.sz:=fun j q=>by
   rcases r2 j q with q |q
   ·exact absurd q eH
   ·exact q
  have newr:∀j,bL v4 j→h1.sz≤j:=fun j q=>by
   rcases r3 j q with q |q
   ·exact Nat.le_of_eq (newr2 j q).symm
   ·have:=f2.sz;omega
  have hq:D.q<h.sz:=O.var.lt O.ok
  have s1:h.sz≤h1.sz:=b1.sz
  have V3:=f3.var V2 fun q=>by have:=newr2 _ q;omega
  obtain⟨h4,w4,V4,b4,o4,z4⟩:=V3.wr o3 (off:=2) (v:=v4) (show 2<5 by decide) X.view.leaf
  refine aN ?_;refine aA ?_
  refine lq w4 ?_
  have V4:Var h4 D.q [D.cv, .int .i64 D.most,v4, .int .i64 ((D.clock+1:Nat):Int), .int .i64 (D.last:Int)]:=V4
  let D':DD:=⟨D.q,D.cv,D.most,v4,D.fs.take i++D.fs.drop (i+1),D.clock+1,D.last⟩
  have f:Fr (XS τ o fun t=>t= .p) h h4:=by
   refine Fr.new (h':=h1) (Fr.of_but ⟨_,rfl,O.tq⟩ b1) ?_ O.ok
   exact((Fr.of_ext (X:=fun j=>XS τ o (fun t=>t= .p) j∨h.sz≤j) ext12).trans (f3.mono fun j q=> .inr (by have:=newr2 j q;omega))).trans (Fr.of_but (.inl ⟨_,rfl,O.tq⟩) b4)
  have s3:=f3.sz
  have s2:=f2.sz
  have ltr:∀j,bL v4 j→j<h3.sz:=fun j q=>jW (iV X) o3 q
  have old:∀j,j<h.sz→gI τ (bL v4) (.own o (.rl .all)) j=τ j:=fun j hj=>dS fun q=>by have:=newr j q;omega
  have g:Tg τ (gI τ (bL v4) (.own o (.rl .all))) h h4:=⟨old,fun j hj=>by
   rw[dS fun q=>by have:=ltr j q;omega];exact O.hi j (by omega)⟩
  have sub:(D.fs.take i++D.fs.drop (i+1)).Sublist D.fs:=by
   conv=>rhs;rw[←List.take_append_drop i D.fs]
   refine List.Sublist.append (List.Sublist.refl _) ?_
   rw[←List.drop_drop]
   exact List.drop_sublist _ _
  have O':DO B (gI τ (bL v4) (.own o (.rl .all))) o h0 h4 D':=by
   refine O.step (D':=D') f o4 g rfl V4 ?_ (fun j q=>gL q) (fun y hy=>O.f' f g (sub.subset hy) nofun nofun) (O.nd.sublist (sub.map _)) fun y hy=>O.kb y (sub.subset hy)
   show Own h0.sz h4 6 v4 ((D.fs.take i++D.fs.drop (i+1)).map zQ)
   rw[List.map_append,List.map_take,List.map_drop]
   exact Own.fr X (Fr.of_but (X:=fun j=>j=D.q) rfl b4) fun j q w=>by have:=newr j q;omega
  exact k1 i hx h4 _ D' O' ⟨o4,f.mono fun j ⟨t,_,e⟩=>⟨t,e⟩,old,fun j hj=>by
   by_cases q:bL v4 j
   ·exact .inr ⟨⟨_,gL q⟩,by have:=ltr j q;omega⟩
   ·rw[dS q];exact .inl (O.hi j hj)⟩ ⟨rfl,rfl,rfl,rfl,rfl,rfl⟩
structure aav (D D':DD) (i:Nat) (x:DF) (vs:List Val):Prop where
 fs:∃x',D'.fs=D.fs.set i x'∧GR x'=⟨x.k,x.cls,vs,x.stated,x.born,sD x.vs vs ((D.clock+1:Nat):Int) x.stamps⟩
 sc:D'.q=D.q∧D'.cv=D.cv∧D'.most=D.most∧D'.clock=D.clock+1∧D'.last=D.last
theorem e11 (O:DO B τ o h0 h D) (C:CV h0 D.cv cs) (Gd:Good cs) (hcs:cs.length≤64) (hld:load cs≤100000) (hfs:∀s,(fieldsOf cs s).length≤62) (S:GV h0 sv gs) (hb:∀p∈gs,jg p.2≤b) (bB:62*b≤B) (hB:B<100000000) (hlen:gs.length<1000000000) (hfl:D.fs.length≤1000000)
 (hvs:∀x∈D.fs,x.vs.length=(fieldsOf cs x.cls).length∧∀v∈x.vs,jg v≤b)
 (hcl:D.clock<500000) (hn:2*b+gs.length+3000000≤n) (hL:n+20<lim)
 (k0:qZ k (D.fs.map wG)=none→K (.tup [.int .u64 0, .int .i64 7]) h=true)
 (k1:∀i x,qZ k (D.fs.map wG)=some i→D.fs[i]? =some x→om cs (fieldsOf cs x.cls) (xY D.fs) [] gs=false→∀h',Ext h h'→h'.Ok→K (.tup [.int .u64 0, .int .i64 11]) h'=true)
 (k2:∀i x,qZ k (D.fs.map wG)=some i→D.fs[i]? =some x→rE cs (fieldsOf cs x.cls) (xY D.fs) gs 0 x.vs=some x.vs→∀h',Ext h h'→h'.Ok→K (.tup [.int .u64 0, .int .i64 0]) h'=true)
 (k3:∀i x vs,qZ k (D.fs.map wG)=some i→D.fs[i]? =some x→rE cs (fieldsOf cs x.cls) (xY D.fs) gs 0 x.vs=some vs→x.vs≠vs→∀h' D',DO B τ o h0 h' D'→St o τ τ h h'→aav D D' i x vs→K (.tup [.int .u64 ((dm x.vs vs vs.length:Nat):Int), .int .i64 0]) h'=true):
 aD E (n+7) (.func 11) [.ptr D.q 0 0 0, .int .i64 k,sv] h K=true:=by
 have hlm:lim=4611686018427387904:=rfl
 apply d11
 unfold s11
 refine aN ?_;refine aA ?_;refine aF O.l2 ?_
 refine u26 (n:=n+5) O.fva (by rw[List.length_map];omega) (by omega) ?_
 cases hx:qZ k (D.fs.map wG) with
 |none=>
  rw[show fint none= -1 from rfl]
  refine aT ?_
  rw[show decide ((-1:Int)<0)=true from rfl]
  refine bN ?_
  exact k0 hx
 |some i=>
 obtain⟨x,hi,hxk⟩:=NV hx
 have hxm:=List.mem_of_getElem? hi
 have hil:=(List.getElem?_eq_some_iff.1 hi).1
 rw[show fint (some i)=(i:Int) from rfl]
 refine aT ?_
 rw[decide_eq_false (show ¬(i:Int)<0 by omega)]
 refine bO ?_
 unfold MB
 obtain⟨id,gg,j,p1,p2⟩:=O.cell hi
 have L1:au h false 1 (.ptr id gg j 1)=some (.str x.cls):=by rw[p2];rfl
 refine aN ?_;refine aA ?_;refine aF O.l2 ?_;refine aF (p1 .i64) ?_;refine aA ?_;refine aF L1 ?_
 refine e32 (n:=n) O C Gd hcs hld (hfs _) S hb hlen hfl (by omega) hL fun h1 e1 o1=> ?_
 have O1:=O.ext e1 o1
 cases hset:om cs (fieldsOf cs x.cls) (xY D.fs) [] gs with
 |false=>
  simp only[Bool.false_eq_true,if_false]
  refine aY ?_
  rw[show(!decide ((11:Int)=0))=true from rfl]
  refine bN ?_
  exact k1 i x hx hi hset h1 e1 o1
 |true=>
 simp only[if_true]
 refine aY ?_
 rw[show(!decide ((0:Int)=0))=false from rfl]
 refine bO ?_
 unfold JQ
 obtain⟨id1,gg1,j1,p3,p4⟩:=O1.cell hi
 have L2:au h1 false 1 (.ptr id1 gg1 j1 1)=some (.str x.cls):=by rw[p4];rfl
 refine aN ?_;refine aA ?_;refine aF O1.l0 ?_;refine aN ?_;refine aA ?_;refine aF O1.l2 ?_;refine aF (p3 .i64) ?_;refine aA ?_;refine aF L2 ?_
 refine u34 cs.length (n+5) (h:=h1) (by omega) (by omega) (by omega) o1 (C.ext O1.e) hld fun h2 u e2 o2 Ou=> ?_
 rw[CY Gd] at Ou
 have hgs:(rE cs (fieldsOf cs x.cls) (xY D.fs) gs 0 x.vs).isSome=true:=by rw[xw gs 0 [] x.vs Bits.nil];exact hset
 obtain⟨vs,hvs'⟩:=Option.isSome_iff_exists.1 hgs
 obtain⟨hxl,hxb⟩:=hvs x hxm
 have hf62:=hfs x.cls
 generalize hF:fieldsOf cs x.cls=F at *
 have e02:=bH e1 e2
 have O2:=O1.ext e2 o2
 have VF2:View h2 3 u (F.map dZ):=Ou.view
 obtain⟨es0,W0,A0⟩:=S
 have nvl:vs.length=x.vs.length:=Ga gs 0 x.vs vs hvs'
 have FD0:=(O.f x hxm).len
 have setAt:∀{t:Nat} (ht:t<gs.length) {g':aj},Ext h0 g'→∃id gg j c,(∀k,bS g' 6 sv (.int k (t:Int))=some (.ptr id gg j 0))∧au g' false 1 (.ptr id gg j 0)=some (.str gs[t].1)∧au g' true 5 (.ptr id gg j 1)=some (.agg c)∧RV g' c gs[t].2:=by
  intro t ht g' e'
  obtain⟨ee,he,c,rfl,Rc⟩:=A0.get (List.getElem?_eq_getElem ht)
  obtain⟨id,gg,j,p1,p2⟩:=(W0.ext e').at1 he
  refine⟨id,gg,j,c,p1,by rw[p2];rfl, ?_,RV.ext e' Rc⟩
  rw[p2]
  have hc5:=Rc.len5
  simp only[iH,cond_true,List.length_cons,hc5]
  rw[bI.2 (Nat.le_refl 6),cond_true,List.drop_succ_cons,List.drop_zero,List.take_of_length_le (by omega)]
 have lenS:∀{g},Ext h0 g→dw g 1 sv=some (.int .i64 (gs.length:Int)):=fun e=>by rw[(W0.ext e).len,A0.length]
 have hm0:(AV.int .u64 0)=AV.int .u64 ((0:Nat):Int):=rfl
 rw[hm0]
 have hdm:∀w:List Val,w.length=vs.length→dm x.vs w vs.length<2 ^ 62:=fun w hw=>Nat.lt_of_lt_of_le (Na _ _ _) (Nat.pow_le_pow_right (by decide) (by omega))
 suffices H:∀m t g mb w,gs.length-t<m→t≤gs.length→Ext h2 g→g.Ok→rE cs F (xY D.fs) (gs.drop t) mb w=some vs→w.length=vs.length→(∀j,mb.testBit j=false→w[j]? =x.vs[j]?)→
  Cb (aD E (n+6)) (n+6) m (.ptr D.q 0 0 0) sv (.int .i64 (i:Int)) u (.int .u64 ((dm x.vs w vs.length:Nat):Int)) (.int .i64 (t:Int)) g K=true by
  have h00:dm x.vs x.vs vs.length=0:=by
   rw[nvl];exact(xO rfl).2 rfl
  have:=H (n+6) 0 h2 0 x.vs (by omega) (Nat.zero_le _) (Ext.refl _) o2 (by rw[List.drop_zero];exact hvs') nvl.symm fun j _=>rfl
  rw[h00] at this
  exact this
 intro m
 induction m with
 |zero=>intro t g mb w hm;omega
 |succ m ih=>
  intro t g mb w hm ht e ok hg hwl hkeep
  have Og:=O2.ext e ok
  have e0g:Ext h0 g:=Og.e
  have VFg:=VF2.ext e
  unfold Cb LA
  refine aF (lenS e0g) ?_;refine aT ?_
  by_cases htl:t<gs.length
  ·refine iM (decide_eq_true (by omega)) ?_
   obtain⟨ia,ga,ja,c,q1,q2,q3,q4⟩:=setAt htl e0g
   have hd:gs.drop t=gs[t] :: gs.drop (t+1):=List.drop_eq_getElem_cons htl
   have szp:=hb gs[t] (List.getElem_mem htl)
   rw[hd] at hg
   generalize hp:gs[t]=p at *
   obtain⟨jx,hjx,hjl,hjb,hg'⟩:=Jm hg
   have hwj:=hkeep jx hjb
   refine aF (q1 .i64) ?_;refine aA ?_;refine aF q2 ?_
   refine u35 (n:=n+5) VFg (wu F) (by simp[fnames];omega) (by simp[fnames];omega) ?_
   rw[hjx,show fint (some jx)=(jx:Int) from rfl]
   obtain⟨ib,gb,jb,r1,r2⟩:=Og.cell hi
   have L3:au g false 1 (.ptr ib gb jb 2)=some x.vv:=by rw[r2];rfl
   obtain⟨es,V,A⟩:=(Og.f x hxm).vals
   have hjv:jx<x.vs.length:=by omega
   obtain⟨ee,he,Rx⟩:=A.get (List.getElem?_eq_getElem hjv)
   obtain⟨ic,gc,jc,t1,t2⟩:=V.view.at1 he
   obtain⟨f1,f2,f3,f4⟩:=Rx.now.agg
   have L4:au g true 5 (.ptr ic gc jc 0)=some (.agg ee):=by rw[t2];exact f1
   refine aN ?_;refine aA ?_;refine aF Og.l2 ?_;refine aF (r1 .i64) ?_;refine aA ?_;refine aF L3 ?_;refine aF (t1 .i64) ?_;refine aF L4 ?_;refine aF (q1 .i64) ?_;refine aA ?_;refine aF q3 ?_
   refine e39 (n:=n+5) b ok Rx.now q4 (hxb _ (List.getElem_mem hjv)) (by omega) (by omega) (by omega) fun g2 r eg og hr=> ?_
   have dmb:=hdm w hwl
   have hset1:=YN (old:=x.vs) (w:=w) (j:=jx) (len:=vs.length) (v:=p.2) (by omega) hwl hwj
   have go1:(x.vs[jx]? =some p.2)↔r=true:=by rw[List.getElem?_eq_getElem hjv,hr];exact⟨fun q=>Option.some.inj q,fun q=>by rw[q]⟩
   have nx:=ih (t+1) g2 (mb|||2 ^ jx) (w.set jx p.2) (by omega) (by omega) (bH e eg) og hg' (by rw[List.length_set];exact hwl) fun j hj=>by
    rw[Nat.testBit_or,Bool.or_eq_false_iff,Nat.testBit_two_pow] at hj
    rw[List.getElem?_set_ne (fun q=>by simp[q] at hj)]
    exact hkeep j hj.1
   cases r with
   |true=>
    refine aL ?_;refine bO ?_
    unfold CK
    refine aF (dV (i:=t) (by omega)) ?_
    rw[hset1,if_pos (go1.2 rfl)] at nx
    exact nx
   |false=>
    have hp2:2 ^ jx<2 ^ 62:=Nat.pow_lt_pow_right (by decide) (by omega)
    refine aM ?_;refine bN ?_;refine aF (R7 (i:=jx) (by omega)) ?_;refine aF (X3 (i:=jx) (by omega)) ?_;refine aF (Xd (a:=dm x.vs w vs.length) (b:=2 ^ jx) (Nat.lt_trans dmb (by decide)) (Nat.lt_trans hp2 (by decide))) ?_
    unfold CK
    refine aF (dV (i:=t) (by omega)) ?_
    rw[hset1,if_neg (fun q=>by have:=go1.1 q;cases this)] at nx
    exact nx
  ·refine iF (decide_eq_false (by omega)) ?_
   have hnil:gs.drop t=[]:=List.drop_of_length_le (by omega)
   rw[hnil] at hg
   simp only[rE,Option.some.injEq] at hg
   subst hg
   have ehg:=bH e02 e
   unfold KI
   refine aX ?_
   by_cases hz:x.vs=w
   ·have:dm x.vs w w.length=0:=(xO (by omega)).2 hz
    rw[this]
    rw[show decide (((0:Nat):Int)=0)=true from rfl]
    refine bN ?_
    exact k2 i x hx hi (by rw[hF];rw[hvs',hz]) g ehg ok
   have hnz:¬((dm x.vs w w.length:Nat):Int)=0:=fun q=>hz ((xO (by omega)).1 (by omega))
   rw[decide_eq_false hnz]
   refine bO ?_
   unfold JW
   refine aN ?_;refine aA ?_;refine aF Og.l3 ?_;refine aF (dV (i:=D.clock) (by omega)) ?_;refine aN ?_;refine aA ?_
   obtain⟨g1,w1,V1,b1',o1',z1⟩:=Og.var.wr ok (off:=3) (v:= .int .i64 ((D.clock+1:Nat):Int)) (show 3<5 by decide) rfl
   refine lq w1 ?_
   have O3:=Og.tick b1' o1' V1
   generalize hM:dm x.vs w w.length=M at *
   generalize hc:((D.clock+1:Nat):Int)=c at *
   have hM62:M<2 ^ 62:=by rw[←hM];exact hdm w rfl
   have VF3:View g1 3 u (F.map dZ):=(Fr.of_but (X:=fun j=>j=D.q) rfl b1').view VFg fun id g s l cc ex hu wq=>by
    have hr:bL u id:=by rw[hu];exact dh.2 rfl
    have h1:=kJ Ou hr
    have h2:=O.var.lt O.ok
    have:=e1.1
    omega
   suffices H2:∀m2 t g2 mb y,gs.length-t<m2→t≤gs.length→DO B τ o h0 g2 {D with clock:=D.clock+1,fs:=D.fs.set i {x with vs:=y,stamps:=sD x.vs y c x.stamps}}→Fr (fun j=>j=D.q∨τ j= .own o (.f x.k)∨τ j= .own o (.st x.k)) h g2→View g2 3 u (F.map dZ)→
    rE cs F (xY D.fs) (gs.drop t) mb y=some w→y.length=w.length→(∀j,mb.testBit j=false→y[j]? =x.vs[j]?)→
    Cy (aD E (n+6)) (n+6) m2 (.ptr D.q 0 0 0) sv (.int .i64 (i:Int)) u (.int .u64 (M:Int)) (.int .i64 (t:Int)) g2 K=true from by
    refine H2 (n+6) 0 g1 0 x.vs (by omega) (Nat.zero_le _) ?_ ((Fr.of_ext ehg).trans (Fr.of_but (.inl rfl) b1')) VF3 (by rw[List.drop_zero];exact hvs') (by omega) fun j _=>rfl
    rw[R8]
    have:D.fs.set i {x with vs:=x.vs,stamps:=x.stamps}=D.fs:=by
     apply List.ext_getElem?
     intro j
     by_cases e:i=j
     ·subst e;rw[List.getElem?_set_self hil,hi]
     ·rw[List.getElem?_set_ne e]
    rw[this]
    exact O3
   intro m2
   induction m2 with
   |zero=>intro t g2 mb y hm2;omega
   |succ m2 ih2=>
    intro t g2 mb y hm2 ht2 P fq VF hgy hyl hky
    have e0g2:Ext h0 g2:=P.e
    unfold Cy Kc
    refine aF (lenS e0g2) ?_;refine aT ?_
    by_cases htl2:t<gs.length
    rotate_left
    ·refine iF (decide_eq_false (by omega)) ?_
     rw[List.drop_of_length_le (by omega)] at hgy
     simp only[rE,Option.some.injEq] at hgy
     subst hgy
     have hS:St o τ τ h g2:=⟨P.ok,fq.mono fun j q=>by
      rcases q with rfl |q |q
      ·exact⟨_,O.tq⟩
      ·exact⟨_,q⟩
      ·exact⟨_,q⟩,fun _ _=>rfl,fun j hj=> .inl (O.hi j hj)⟩
     have fin:=k3 i x y hx hi (by rw[hF];exact hvs') hz g2 _ P hS ⟨⟨_,rfl,by rw[hc];rfl⟩,rfl,rfl,rfl,rfl,rfl⟩
     rw[hM] at fin
     exact fin
    refine iM (decide_eq_true (by omega)) ?_
    obtain⟨ia,ga,ja,cc,q1,q2,q3,q4⟩:=setAt htl2 e0g2
    have hd:gs.drop t=gs[t] :: gs.drop (t+1):=List.drop_eq_getElem_cons htl2
    have szp:=hb gs[t] (List.getElem_mem htl2)
    rw[hd] at hgy
    generalize hp:gs[t]=p at *
    obtain⟨jx,hjx,hjl,hjb,hg'⟩:=Jm hgy
    have hyj:=hky jx hjb
    have hjw:w[jx]? =some p.2:=by
     rw[Ci _ _ _ _ jx hg' (by rw[Nat.testBit_or,Nat.testBit_two_pow];simp),List.getElem?_set_self (by omega)]
    refine aF (q1 .i64) ?_;refine aA ?_;refine aF q2 ?_
    refine u35 (n:=n+5) VF (wu F) (by simp[fnames];omega) (by simp[fnames];omega) ?_
    rw[hjx,show fint (some jx)=(jx:Int) from rfl]
    obtain⟨vb,mb1,mb2⟩:=RH (m:=M) (i:=jx) (Nat.lt_trans hM62 (by decide))
    refine aF (R7 (i:=jx) (by omega)) ?_;refine aF (WH (m:=M) (i:=jx) (by omega)) ?_;refine aF mb1 ?_;refine aF mb2 ?_
    have hbit:M.testBit jx=decide (x.vs[jx]? ≠some p.2):=by
     rw[←hM,oU,hjw];simp;omega
    have keep':∀j,(mb|||2 ^ jx).testBit j=false→(y.set jx p.2)[j]? =x.vs[j]? :=fun j hj=>by
     rw[Nat.testBit_or,Bool.or_eq_false_iff,Nat.testBit_two_pow] at hj
     rw[List.getElem?_set_ne (fun q=>by simp[q] at hj)]
     exact hky j hj.1
    have hns:=TY (old:=x.vs) (w:=y) (j:=jx) (v:=p.2) (c:=c) (st:=x.stamps) (by omega) hyj
    by_cases same:x.vs[jx]? =some p.2
    ·rw[hbit,decide_eq_false (fun q=>q same)]
     refine bO ?_
     unfold CX
     refine aF (dV (i:=t) (by omega)) ?_
     have hys:y.set jx p.2=y:=by
      apply List.ext_getElem?
      intro j
      by_cases e:jx=j
      ·subst e;rw[List.getElem?_set_self (by omega),hyj,same]
      ·rw[List.getElem?_set_ne e]
     refine ih2 (t+1) g2 (mb|||2 ^ jx) y (by omega) (by omega) P fq VF (by rw[hys] at hg';exact hg') hyl ?_
     rw[hys] at keep';exact keep'
    ·rw[hbit,decide_eq_true same]
     let X:DF:={x with vs:=y,stamps:=sD x.vs y c x.stamps}
     have hi2:(D.fs.set i X)[i]? =some X:=List.getElem?_set_self hil
     have hXm:X∈D.fs.set i X:=List.mem_of_getElem? hi2
     obtain⟨ib,gb,jb,r1,r2⟩:=P.cell (D:={D with clock:=D.clock+1,fs:=D.fs.set i X}) hi2
     have FX:=P.f X hXm
     obtain⟨es,V,A⟩:=FX.vals
     have lvv:x.vv.leaf=true:=V.view.leaf
     have svv:AV.same x.vv x.vv=true:=V.view.same
     have slv:AV.same D.lv D.lv=true:=O.l.view.same
     have hjy:jx<y.length:=by omega
     have P2:au g2 false 1 (.ptr D.q 0 0 2)=some D.lv:=P.l2
     have P3:au g2 false 1 (.ptr ib gb jb 2)=some x.vv:=by rw[r2];rfl
     have r1':∀kk,bS g2 6 D.lv (.int kk (i:Int))=some (.ptr ib gb jb 0):=r1
     refine bN ?_;refine aN ?_;refine aA ?_;refine aF P2 ?_;refine aF (r1' .i64) ?_;refine aA ?_;refine aF P3 ?_;refine aF (q1 .i64) ?_;refine aA ?_;refine aF q3 ?_
     refine e25 (n:=n+5) b q4 P.ok szp (by omega) (by omega) (by omega) fun g3 a' e3 o3 G=> ?_
     have P':=P.ext e3 o3
     obtain⟨idv,gbv,jbv,hat⟩:=(show View g2 6 D.lv ((D.fs.set i X).map zQ) from P.l.view).atE (show((D.fs.set i X).map zQ)[i]? =some (zQ X) by rw[List.getElem?_map,hi2];rfl)
     obtain⟨s1,s2⟩:=hat g2 (Ext.refl _)
     obtain⟨s3,s4⟩:=hat g3 e3
     have same1:=(r1' .i64).symm.trans (s1 .i64)
     cases same1
     have P2':au g3 false 1 (.ptr D.q 0 0 2)=some D.lv:=P'.l2
     have P3':au g3 false 1 (.ptr ib gb jb 2)=some x.vv:=by rw[s4];rfl
     refine fQ P2' slv ?_
     refine fQ (s3 .i64) (by simp[AV.same]) ?_
     refine fQ P3' svv ?_
     have V3:=V.ext e3
     obtain⟨ej,hej,Rj⟩:=A.get (List.getElem?_eq_getElem hjy)
     obtain⟨f1,f2,f3,f4⟩:=G.now.agg
     rw[f4] at f3
     obtain⟨id3,gg3,i1,i2,g4,i3,V4,b4,o4⟩:=wZ (x:= .agg a') V3 hej Rj.now.len5 f2 (by rw[f4];exact f3)
     rw[f4] at V4
     have o4:=o4 o3
     have tv:τ id3= .own o (.f x.k):=FX.tv _ i2
     have fr4:Fr (fun j=>τ j= .own o (.f x.k)∨τ j= .own o (.st x.k)) g3 g4:=Fr.of_but (.inl tv) b4
     have lt4:Lt (Out τ) g3 g4:=Lt.of_fr fr4 fun q w1 w2=>by have w2:τ q= .out:=w2;rcases w1 with w1 |w1<;>rw[w2] at w1<;>cases w1
     have Da:DX (Out τ) g3 a' p.2:=fun h'' L=>G.rd h'' fun q ob l1 l2 gq=>L q ob (P.hi q l1) gq
     have A4:gM (DX (Out τ) g4) (es.set jx a') (y.set jx p.2):=(Bn Da jx (A.mono fun _ _ r=>r.ext e3)).mono fun _ _ r=>r.fr lt4 o3 fun q _ w=>w
     have hszy:fU (y.set jx p.2)≤B:=by
      have hyb:∀v∈y.set jx p.2,jg v≤b:=by
       intro v hv
       obtain⟨j,hj⟩:=List.getElem?_of_mem hv
       by_cases e:jx=j
       ·subst e;rw[List.getElem?_set_self hjy] at hj;cases hj;exact szp
       ·rw[List.getElem?_set_ne e] at hj
        by_cases hbj:mb.testBit j=true
        ·
         have h1:=Ci _ _ _ _ j hgy hbj
         rw[hj] at h1
         have h2:j<F.length:=by
          have:=(List.getElem?_eq_some_iff.1 hj).1;omega
         exact EW (P:=fun v=>jg v≤b) hxb hb hvs' v (List.mem_of_getElem? h1)
        ·rw[hky j (by simpa using hbj)] at hj
         exact hxb v (List.mem_of_getElem? hj)
      have h1:=CU hyb
      have h2:(y.set jx p.2).length*b≤62*b:=Nat.mul_le_mul_right b (by rw[List.length_set];omega)
      omega
     have FX3:=P'.f X hXm
     have St4:Own h0.sz g4 1 x.sv (ints (sD x.vs y c x.stamps)):=Own.fr FX3.st (Fr.of_but (X:=fun j=>j=id3) rfl b4) fun j q w=>by
      have h1:=FX.ts j q
      rw[w,tv] at h1;cases h1
     have nl:(sD x.vs y c x.stamps).length=y.length:=FX.len
     have P4:=P'.setF (x':={x with vs:=y.set jx p.2,stamps:=sD x.vs y c x.stamps}) hi2 fr4 o4 ⟨⟨_,V4,A4⟩,FX.tv,St4,FX.ts,hszy,by rw[List.length_set];exact nl⟩ rfl rfl
     rw[show(({D with clock:=D.clock+1,fs:=D.fs.set i X}:DD).fs.set i {x with vs:=y.set jx p.2,stamps:=sD x.vs y c x.stamps})=D.fs.set i {x with vs:=y.set jx p.2,stamps:=sD x.vs y c x.stamps} from List.set_set ..] at P4
     refine aF (i1 .i64) ?_;refine lq i3 ?_;refine aN ?_;refine aA ?_
     have hi4:(D.fs.set i {x with vs:=y.set jx p.2,stamps:=sD x.vs y c x.stamps})[i]? =some {x with vs:=y.set jx p.2,stamps:=sD x.vs y c x.stamps}:=List.getElem?_set_self hil
     have hm4:=List.mem_of_getElem? hi4
     obtain⟨id5,g5,j5,u1,u2⟩:=P4.cell hi4
     have Q2:au g4 false 1 (.ptr D.q 0 0 2)=some D.lv:=P4.l2
     have Q3:au g4 false 1 (.ptr D.q 0 0 3)=some (.int .i64 c):=by have:=P4.l3;rw[←hc];exact this
     have Q5:au g4 false 1 (.ptr id5 g5 j5 5)=some x.sv:=by rw[u2];rfl
     have u1':∀kk,bS g4 6 D.lv (.int kk (i:Int))=some (.ptr id5 g5 j5 0):=u1
     have hjn:jx<(ints (sD x.vs y c x.stamps)).length:=by rw[dN,nl];exact hjy
     obtain⟨id6,g6,v1,v2,g7,v3,V7,b7,o7⟩:=wZ (x:= .int .i64 c) St4 (List.getElem?_eq_getElem hjn) (by simp[ints]) rfl rfl
     have o7:=o7 o4
     refine aF Q2 ?_;refine aF (u1' .i64) ?_;refine aA ?_;refine aF Q5 ?_;refine aN ?_;refine aA ?_;refine aF Q3 ?_;refine aF (v1 .i64) ?_;refine lq v3 ?_
     have ts6:τ id6= .own o (.st x.k):=FX.ts _ v2
     have fr7:Fr (fun j=>τ j= .own o (.f x.k)∨τ j= .own o (.st x.k)) g4 g7:=Fr.of_but (.inr ts6) b7
     have lt7:Lt (Out τ) g4 g7:=Lt.of_fr fr7 fun q w1 w2=>by have w2:τ q= .out:=w2;rcases w1 with w1 |w1<;>rw[w2] at w1<;>cases w1
     have V7':Own h0.sz g7 1 x.sv (ints (sD x.vs (y.set jx p.2) c x.stamps)):=by
      rw[hns,if_neg same]
      have:ints ((sD x.vs y c x.stamps).set jx c)=(ints (sD x.vs y c x.stamps)).set jx (AV.int .i64 c).cells:=by simp[ints,List.map_set];rfl
      rw[this];exact V7
     have V7v:Own h0.sz g7 5 x.vv (es.set jx a'):=Own.fr V4 (Fr.of_but (X:=fun j=>j=id6) rfl b7) fun j q w=>by
      have h1:=FX.tv j q
      rw[w,ts6] at h1
      cases h1
     have A7:gM (DX (Out τ) g7) (es.set jx a') (y.set jx p.2):=A4.mono fun _ _ r=>r.fr lt7 o4 fun q _ w=>w
     have F7:Vk h0.sz B τ o g7 {x with vs:=y.set jx p.2,stamps:=sD x.vs (y.set jx p.2) c x.stamps}:=⟨⟨_,V7v,A7⟩,FX.tv,V7',FX.ts,hszy,by rw[List.length_set];simpa[sD] using nl⟩
     have P7:=P4.setF (x':={x with vs:=y.set jx p.2,stamps:=sD x.vs (y.set jx p.2) c x.stamps}) hi4 fr7 o7 F7 rfl rfl
     rw[show(({D with clock:=D.clock+1,fs:=D.fs.set i {x with vs:=y.set jx p.2,stamps:=sD x.vs y c x.stamps}}:DD).fs.set i {x with vs:=y.set jx p.2,stamps:=sD x.vs (y.set jx p.2) c x.stamps})=D.fs.set i {x with vs:=y.set jx p.2,stamps:=sD x.vs (y.set jx p.2) c x.stamps} from List.set_set ..] at P7
     skip
     unfold CX
     refine aF (dV (i:=t) (by omega)) ?_
     have VF4:View g4 3 u (F.map dZ):=(Fr.of_but (X:=fun j=>j=id3) rfl b4).view (VF.ext e3) fun id g s l cc ex hu wq=>(pR (VF.ext e3) V3 (by decide) id g s l cc ex hu) (by rw[wq];exact i2)
     have VF7:View g7 3 u (F.map dZ):=(Fr.of_but (X:=fun j=>j=id6) rfl b7).view VF4 fun id g s l cc ex hu wq=>(pR VF4 St4 (by decide) id g s l cc ex hu) (by rw[wq];exact v2)
     exact ih2 (t+1) g7 (mb|||2 ^ jx) (y.set jx p.2) (by omega) (by omega) P7 (fq.trans ((Fr.of_ext e3).trans ((fr4.mono fun j q=> .inr q).trans (fr7.mono fun j q=> .inr q)))) VF7 hg' (by rw[List.length_set];exact hyl) keep'
end
def OM (h:aj) (n:Nat) (v:AV) (es:List (List AV)):Prop:=(v= .nilSlc∧es=[])∨Mr h n v es
section
variable {h h':aj} {n i b:Nat} {v x:AV} {es new:List (List AV)} {e:List AV} {X:Nat→Prop}
theorem OM.of (O:Own b h n v es):OM h n v es:=by
 rcases O with O |⟨id,r,_,rfl,w3,w4,w5,w6,w7⟩
 ·exact .inl O
 ·exact .inr ⟨id,es.length,false,r,rfl,w3,w4,w5,w6,w7,Nat.le_refl _⟩
theorem OM.view (O:OM h n v es):View h n v es:=by
 rcases O with⟨rfl,rfl⟩|M
 ·exact View.nil _ _
 ·exact M.view
theorem OM.fr (O:OM h n v es) (f:Fr X h h') (d:∀j,bL v j→¬X j):OM h' n v es:=by
 rcases O with O |M
 ·exact .inl O
 ·exact .inr (M.fr f d)
theorem OM.ext (O:OM h n v es) (e:Ext h h'):OM h' n v es:=O.fr (X:=fun _=>False) (Fr.of_ext e) fun _ _ q=>q
theorem OM.kp {lo hi:Nat} (O:OM h n v es) (k:Kp lo hi h h') (hr:∀j,bL v j→lo≤j∧j<hi):OM h' n v es:=by
 rcases O with O |⟨id,cap,ex,r,rfl,w3,w⟩
 ·exact .inl O
 ·have:=hr id (dh.2 rfl)
  refine .inr ⟨id,cap,ex,r,rfl, ?_,w⟩
  rw[aj.row_some] at w3 ⊢
  exact k id _ this.1 this.2 w3
theorem OM.lt (O:OM h n v es) (o:h.Ok) {j:Nat} (i:bL v j):j<h.sz:=O.view.rlt o i
theorem OM.len (O:OM h n v es) (g:aj):dw g 1 v=some (.int .i64 (es.length:Int)):=by
 rcases O with⟨rfl,rfl⟩|⟨id,cap,ex,r,rfl,_⟩<;>rfl
theorem OM.set (O:OM h n v es) (hi:es[i]? =some e) (hl:e.length=n) (hx:x.cells.length=n) (hf:aV x.cells=true):
 ∃id g,(∀k,bS h n v (.int k (i:Int))=some (.ptr id g i 0))∧bL v id∧∃h',bT h n (.ptr id g i 0) x=some h'∧OM h' n v (es.set i x.cells)∧But id h h'∧h'.sz=h.sz∧(h.Ok→h'.Ok):=by
 rcases O with⟨_,rfl⟩|M
 ·simp at hi
 ·obtain⟨id,g,a1,a2,h',a3,a4,a5,a6,a7⟩:=M.set hi hl hx hf
  exact⟨id,g,a1,a2,h',a3, .inr a4,a5,a6,a7⟩
theorem OM.app {bytes:Nat} (O:OM h n v es) (hn:0<n) (o:h.Ok) (hs:source h n x=some new) (hne:new≠[]) (h1:(es.length+new.length)*bytes≤most) (h2:es.length+new.length≤most):
 ∃v' h',cK h n bytes v x=some (v',h')∧OM h' n v' (es++new)∧h'.Ok∧Fr (bL v) h h'∧∀j,bL v' j→bL v j∨j=h.sz:=by
 have hn0:Nat.beq n 0=false:=fO.2 (by omega)
 obtain⟨y,l,rfl⟩:∃y l,new=y :: l:=by cases new with |nil=>exact absurd rfl hne |cons y l=>exact⟨y,l,rfl⟩
 rcases O with⟨rfl,rfl⟩|⟨id,cap,ex,r,rfl,w3,w4,w5,w6,w7,w8⟩
 ·have b1:Nat.ble ((y :: l).length*bytes) most=true:=bI.2 (by simpa using h1)
  have b2:Nat.ble (y :: l).length most=true:=bI.2 (by simpa using h2)
  refine⟨.slc h.sz 0 0 (y :: l).length (y :: l).length false,Ab.newRow h (y :: l) n, ?_, .inr ⟨h.sz,(y :: l).length,false,{es:=y :: l,sz:=n,g:=0,m:=0,rw:=true},rfl, ?_,rfl,Nat.le_refl _,rfl,rfl,Nat.le_refl _⟩,cZ o _ _,Fr.of_ext (bU o _ _),fun j q=> .inr (dh.1 q).symm⟩
  ·simp only[cK,hn0,cond_false,hs,eZ,b1,b2,Bool.and_self,cond_true]
  ·rw[aj.row_some];exact eX _ _
 ·have b1:Nat.ble ((es.length+(y :: l).length)*bytes) most=true:=bI.2 h1
  have b2:Nat.ble (es.length+(y :: l).length) most=true:=bI.2 h2
  have b3:Nat.beq r.sz n=true:=bJ.2 w6
  have hlt:=o.lt (aj.row_some.1 w3)
  cases hc:Nat.ble (es.length+(y :: l).length) cap with
  |true=>
   have hl:lay r.es (0+es.length) (y :: l)=es++(y :: l):=by
    rw[w7];simp only[lay,Nat.zero_add,List.take_length]
    rw[List.drop_of_length_le (by omega),List.append_nil]
   refine⟨.slc id r.g 0 (es.length+(y :: l).length) cap ex,h.put id (.row {r with es:=es++(y :: l),m:=r.g}), ?_, .inr ⟨id,cap,ex,{r with es:=es++(y :: l),m:=r.g},by simp,aj.row_some.2 (eU _ _ _),w4,Nat.le_refl _,w6,rfl,by rw[List.length_append];exact bI.1 hc⟩,o.put hlt _,Fr.put (dh.2 rfl) _ _,fun j q=> .inl (dh.2 (dh.1 q))⟩
   simp only[cK,hn0,cond_false,hs,eZ,w3,b1,b2,b3,Bool.and_self,cond_true,hc,w4,Nat.beq_refl,hl]
  |false=>
   cases ex with
   |true=>
    have hold:Nat.beq ((r.es.drop 0).take es.length).length es.length=true:=bJ.2 (by rw[w7];simp)
    have hold2:(r.es.drop 0).take es.length=es:=by rw[w7];simp
    refine⟨.slc h.sz 0 0 (es.length+(y :: l).length) (es.length+(y :: l).length) false,Ab.newRow h (es++(y :: l)) n, ?_, .inr ⟨h.sz,es.length+(y :: l).length,false,{es:=es++(y :: l),sz:=n,g:=0,m:=0,rw:=true},by simp, ?_,rfl,Nat.le_refl _,rfl,rfl,by simp⟩,cZ o _ _,Fr.of_ext (bU o _ _),fun j q=> .inr (dh.1 q).symm⟩
    ·simp only[cK,hn0,cond_false,hs,eZ,w3,b1,b2,b3,Bool.and_self,cond_true,hc,cond_false,bI.2 w5,hold]
     rw[hold2]
    ·rw[aj.row_some];exact eX _ _
   |false=>
    have hle:Nat.beq es.length r.es.length=true:=bJ.2 (by rw[w7])
    refine⟨.slc id (r.g+1) 0 (es.length+(y :: l).length) (es.length+(y :: l).length) false,h.put id (.row {r with es:=r.es++(y :: l),g:=r.g+1,ty:=ng r.ty none}), ?_, .inr ⟨id,es.length+(y :: l).length,false,{r with es:=r.es++(y :: l),g:=r.g+1,ty:=ng r.ty none},by simp,aj.row_some.2 (eU _ _ _),w4,Nat.le_succ_of_le w5,w6,by rw[w7],by simp⟩,o.put hlt _,Fr.put (dh.2 rfl) _ _,fun j q=> .inl (dh.2 (dh.1 q))⟩
    simp only[cK,hn0,cond_false,hs,eZ,w3,b1,b2,b3,Bool.and_self,cond_true,hc,cond_false,w4,Nat.beq_refl,hle]
end
theorem e44 {n lo hi:Nat} {h:aj} {w:AV} {es:List (List AV)} {K:aC} (O:OM h 1 w es) (h1:∀e∈es,e.length=1) (hr:∀j,bL w j→lo≤j∧j<hi) (hhi:hi≤h.sz) (ho:h.Ok) (hlen:es.length<1000000000) (hn:es.length<n) (hL:n<lim)
 (kk:∀h',Fr (Au lo hi) h h'→h'.Ok→K (.tup []) h'=true):aD E (n+1) (.func 44) [w] h K=true:=by
 have hlm:lim=4611686018427387904:=rfl
 have hmo:most=1099511627776:=rfl
 apply d44
 unfold s44
 suffices H:∀m i g es',es.length-i<m→i≤es.length→es'.length=es.length→(∀e∈es',e.length=1)→OM g 1 w es'→Fr (Au lo hi) h g→g.Ok→Ja (aD E n) n m w (.int .i64 (i:Int)) g K=true from
  H n 0 h es (by omega) (Nat.zero_le _) rfl h1 O (Fr.refl _ _) ho
 intro m
 induction m with
 |zero=>intro i g es' hm;omega
 |succ m ih=>
  intro i g es' hm hii hl h1 O f ok
  have hle:=O.len g
  rw[hl] at hle
  unfold Ja Sz
  refine aF hle ?_;refine aT ?_
  by_cases hlt:i<es.length
  ·refine iM (decide_eq_true (by omega)) ?_
   have hi':i<es'.length:=by omega
   obtain⟨id,gg,p1,p2,g2,p3,p4,p5,p6,p7⟩:=O.set (x:= .int .i64 (-99)) (List.getElem?_eq_getElem hi') (h1 _ (List.getElem_mem hi')) rfl rfl
   refine aF (p1 .i64) ?_;refine lq p3 ?_;refine aF (dV (i:=i) (by omega)) ?_
   refine ih (i+1) g2 _ (by omega) (by omega) (by rw[List.length_set];exact hl) (fun e he=> ?_) p4 (f.trans (Fr.of_but (hr id p2) p5)) (p7 ok)
   rcases List.mem_or_eq_of_mem_set he with he |he
   ·exact h1 e he
   ·rw[he];rfl
  ·refine iF (decide_eq_false (by omega)) ?_
   unfold Mg
   obtain⟨u,g1,b1,b2,e1,o1,z1,_⟩:=iL (sz:=1) (z:=[AV.int .i64 0]) (v:= .int .i64 1) ok rfl (by decide) (by decide) rfl rfl rfl
   refine iW b1 ?_
   obtain⟨v',g2,a1,a2,a3,a4,a5⟩:=(O.ext e1).app (bytes:=8) (by decide) o1 b2.src (by simp) (by simp;omega) (by simp;omega)
   refine iW a1 ?_
   have hle2:=(O.len g2)
   rw[hl] at hle2
   have hlast:(es'++[(AV.int .i64 1).cells])[es.length]? =some (AV.int .i64 1).cells:=by rw[←hl];exact List.getElem?_concat_length ..
   obtain⟨id,gg,p1,p2,g3,p3,p4,p5,p6,p7⟩:=a2.set (x:= .int .i64 (-99)) hlast rfl rfl rfl
   refine aF hle2 ?_;refine aF (p1 .i64) ?_;refine lq p3 ?_
   have s0:=f.sz
   have s1:=e1.1
   exact kk g3 (f.new (((Fr.of_ext (X:=fun j=>Au lo hi j∨h.sz≤j) e1).trans (a4.mono fun j q=> .inl (hr j q))).trans (Fr.of_but (by
    rcases a5 id p2 with q |q
    ·exact .inl (hr id q)
    ·exact .inr (by omega)) p5)) ho) (p7 a3)
section
variable {b B:Nat} {τ τ':Nat→Tag} {o:Nat} {h0 h h':aj} {D:DD} {cs:List Cls} {n:Nat} {K:aC} {s:Str}
def Ca (cs:List Cls) (l:List DF) (s:Str):List Int:=(l.filter fun x=>zM cs x.cls s).map DF.k
theorem e47 (O:DO B τ o h0 h D) (C:CV h0 D.cv cs) (A:Asc cs) (hcs:cs.length≤64) (hfl:D.fs.length≤1000000) (hn:3000000≤n) (hL:n+20<lim)
 (kk:∀h' w,Ext h h'→h'.Ok→Own h.sz h' 1 w (ints (Ca cs D.fs s))→K w h'=true):aD E (n+3) (.func 47) [.ptr D.q 0 0 0, .str s] h K=true:=by
 have hlm:lim=4611686018427387904:=rfl
 have hmo:most=1099511627776:=rfl
 apply d47
 unfold s47
 suffices H:∀m i g out,D.fs.length-i<m→i≤D.fs.length→Ext h g→g.Ok→Own h.sz g 1 out (ints (Ca cs (D.fs.take i) s))→Ij (aD E (n+2)) (n+2) m (.ptr D.q 0 0 0) (.str s) out (.int .i64 (i:Int)) g K=true from
  H (n+2) 0 h .nilSlc (by omega) (Nat.zero_le _) (Ext.refl _) O.ok (by rw[List.take_zero];exact Own.nil _ _ _)
 intro m
 induction m with
 |zero=>intro i g out hm;omega
 |succ m ih=>
  intro i g out hm hi e ok W
  have Og:=O.ext e ok
  unfold Ij Tf
  refine aN ?_;refine aA ?_;refine aF Og.l2 ?_;refine aF Og.len ?_;refine aT ?_
  by_cases hlt:i<D.fs.length
  rotate_left
  ·refine iF (decide_eq_false (by omega)) ?_
   rw[List.take_of_length_le (by omega)] at W
   exact kk g out e ok W
  refine iM (decide_eq_true (by omega)) ?_
  obtain⟨id,gg,j,p1,p2⟩:=Og.cell (List.getElem?_eq_getElem hlt)
  have tk:D.fs.take (i+1)=D.fs.take i++[D.fs[i]]:=List.take_succ_eq_append_getElem hlt
  have L1:au g false 1 (.ptr id gg j 1)=some (.str D.fs[i].cls):=by rw[p2];rfl
  have L0:au g false 1 (.ptr id gg j 0)=some (.int .i64 D.fs[i].k):=by rw[p2];rfl
  have hel:(Ca cs (D.fs.take i) s).length≤i:=by
   unfold Ca;rw[List.length_map]
   exact Nat.le_trans (List.length_filter_le _ _) (by rw[List.length_take];omega)
  refine aN ?_;refine aA ?_;refine aF Og.l0 ?_;refine aN ?_;refine aA ?_;refine aF Og.l2 ?_;refine aF (p1 .i64) ?_;refine aA ?_;refine aF L1 ?_
  refine u15 (n:=n) (C.ext Og.e) A (by omega) (by omega) ?_
  cases hb:zM cs D.fs[i].cls s with
  |false=>
   refine bO ?_
   unfold Aj
   refine aF (dV (i:=i) (by omega)) ?_
   refine ih (i+1) g out (by omega) (by omega) e ok ?_
   rw[tk];simp only[Ca,List.filter_append,List.map_append,List.filter_cons,hb,Bool.false_eq_true,if_false,List.filter_nil,List.map_nil,List.append_nil]
   exact W
  |true=>
   refine bN ?_;refine aN ?_;refine aA ?_;refine aF Og.l2 ?_;refine aF (p1 .i64) ?_;refine aA ?_;refine aF L0 ?_
   obtain⟨u,g1,b1,b2,e1,o1,z1,_⟩:=iL (sz:=1) (z:=[AV.int .i64 0]) (v:= .int .i64 D.fs[i].k) ok rfl (by decide) (by decide) rfl rfl rfl
   refine iW b1 ?_
   have s0:=e.1
   have s1:=e1.1
   obtain⟨out',g2,a1,a2,a3,a4,a5,a6⟩:=kR (bytes:=8) (W.ext e1) (by decide) (by omega) o1 O.ok (bH e e1) (Nat.le_refl _) b2.src (by rw[dN];simp;omega) (by rw[dN];simp;omega)
   refine iW a1 ?_
   unfold Aj
   refine aF (dV (i:=i) (by omega)) ?_
   refine ih (i+1) g2 out' (by omega) (by omega) a4 a3 ?_
   rw[tk];simp only[Ca,List.filter_append,List.map_append,List.filter_cons,hb,if_true,List.filter_nil,List.map_cons,List.map_nil]
   have:ints (List.map DF.k (List.filter (fun x=>zM cs x.cls s) (List.take i D.fs))++[D.fs[i].k])=ints (Ca cs (D.fs.take i) s)++[(AV.int .i64 D.fs[i].k).cells]:=by simp[ints,Ca];rfl
   rw[this];exact a2
noncomputable def yj (l:List DF) (s:Str) (vs:List Val):List Int:=(l.filter fun x=>decide (x.cls=s∧x.vs=vs)).map DF.k
theorem e49 {v:AV} {vs:List Val} (O:DO B τ o h0 h D) (V:∀h',Ext h h'→VV h' v vs) (hB:B<100000000) (hvs:fU vs≤B) (hfl:D.fs.length≤1000000) (hn:2*B+3000000≤n) (hL:n+20<lim)
 (kk:∀h' w,Ext h h'→h'.Ok→Own h.sz h' 1 w (ints (yj D.fs s vs))→K w h'=true):aD E (n+3) (.func 49) [.ptr D.q 0 0 0, .str s,v] h K=true:=by
 have hlm:lim=4611686018427387904:=rfl
 have hmo:most=1099511627776:=rfl
 apply d49
 unfold s49
 suffices H:∀m i g out,D.fs.length-i<m→i≤D.fs.length→Ext h g→g.Ok→Own h.sz g 1 out (ints (yj (D.fs.take i) s vs))→Cc (aD E (n+2)) (n+2) m (.ptr D.q 0 0 0) (.str s) v out (.int .i64 (i:Int)) g K=true from
  H (n+2) 0 h .nilSlc (by omega) (Nat.zero_le _) (Ext.refl _) O.ok (by rw[List.take_zero];exact Own.nil _ _ _)
 intro m
 induction m with
 |zero=>intro i g out hm;omega
 |succ m ih=>
  intro i g out hm hi e ok W
  have Og:=O.ext e ok
  unfold Cc QN
  refine aN ?_;refine aA ?_;refine aF Og.l2 ?_;refine aF Og.len ?_;refine aT ?_
  by_cases hlt:i<D.fs.length
  rotate_left
  ·refine iF (decide_eq_false (by omega)) ?_
   rw[List.take_of_length_le (by omega)] at W
   exact kk g out e ok W
  refine iM (decide_eq_true (by omega)) ?_
  have hgi:=List.getElem?_eq_getElem hlt
  have hmem:=List.getElem_mem hlt
  obtain⟨id,gg,j,p1,p2⟩:=Og.cell hgi
  have tk:D.fs.take (i+1)=D.fs.take i++[D.fs[i]]:=List.take_succ_eq_append_getElem hlt
  have L1:au g false 1 (.ptr id gg j 1)=some (.str D.fs[i].cls):=by rw[p2];rfl
  have L2:au g false 1 (.ptr id gg j 2)=some D.fs[i].vv:=by rw[p2];rfl
  have F:=Og.f _ hmem
  have hel:(yj (D.fs.take i) s vs).length≤i:=by
   unfold yj;rw[List.length_map]
   exact Nat.le_trans (List.length_filter_le _ _) (by rw[List.length_take];omega)
  have nxt:∀g' c,Ext g g'→g'.Ok→(c=true↔D.fs[i].cls=s∧D.fs[i].vs=vs)→aZ (.bool c) (ah (bK (.ptr D.q 0 0 0)) fun v24=>ah (aH 2 v24) fun v25=>ah (au g' false 1 v25) fun v26=>ah (bS g' 6 v26 (.int .i64 (i:Int))) fun v27=>ah (aH 0 v27) fun v28=>ah (au g' false 1 v28) fun v29=>bP (dX g' 1 1 [.int .i64 0] [(0,v29)]) fun v30 h=>bP (cK h 1 8 out v30) fun v31 h=>vZ (aD E (n+2)) (n+2) (fun x0 x1 x2 x7 x8 h=>Cc (aD E (n+2)) (n+2) m x0 x1 x2 x7 x8 h K) (.ptr D.q 0 0 0) (.str s) v v31 (.int .i64 (i:Int)) h K) (vZ (aD E (n+2)) (n+2) (fun x0 x1 x2 x7 x8 h=>Cc (aD E (n+2)) (n+2) m x0 x1 x2 x7 x8 h K) (.ptr D.q 0 0 0) (.str s) v out (.int .i64 (i:Int)) g' K)=true:=by
   intro g' c eg ok' hc
   have Og':=Og.ext eg ok'
   have e':=bH e eg
   obtain⟨id',gg',j',p1',p2'⟩:=Og'.cell hgi
   have L0:au g' false 1 (.ptr id' gg' j' 0)=some (.int .i64 D.fs[i].k):=by rw[p2'];rfl
   cases c with
   |false=>
    have hb:decide (D.fs[i].cls=s∧D.fs[i].vs=vs)=false:=decide_eq_false fun q=>by have:=hc.2 q;cases this
    refine bO ?_
    unfold vZ
    refine aF (dV (i:=i) (by omega)) ?_
    refine ih (i+1) g' out (by omega) (by omega) e' ok' ?_
    rw[tk];simp only[yj,List.filter_append,List.map_append,List.filter_cons,hb,Bool.false_eq_true,if_false,List.filter_nil,List.map_nil,List.append_nil]
    exact W.ext eg
   |true=>
    have hb:decide (D.fs[i].cls=s∧D.fs[i].vs=vs)=true:=decide_eq_true (hc.1 rfl)
    refine bN ?_;refine aN ?_;refine aA ?_;refine aF Og'.l2 ?_;refine aF (p1' .i64) ?_;refine aA ?_;refine aF L0 ?_
    obtain⟨u,g1,b1,b2,e1,o1,z1,_⟩:=iL (sz:=1) (z:=[AV.int .i64 0]) (v:= .int .i64 D.fs[i].k) ok' rfl (by decide) (by decide) rfl rfl rfl
    refine iW b1 ?_
    have s0:=e'.1
    have s1:=e1.1
    obtain⟨out',g2,a1,a2,a3,a4,a5,a6⟩:=kR (bytes:=8) ((W.ext eg).ext e1) (by decide) (by omega) o1 O.ok (bH e' e1) (Nat.le_refl _) b2.src (by rw[dN];simp;omega) (by rw[dN];simp;omega)
    refine iW a1 ?_
    unfold vZ
    refine aF (dV (i:=i) (by omega)) ?_
    refine ih (i+1) g2 out' (by omega) (by omega) a4 a3 ?_
    rw[tk];simp only[yj,List.filter_append,List.map_append,List.filter_cons,hb,if_true,List.filter_nil,List.map_cons,List.map_nil]
    have:ints (List.map DF.k (List.filter (fun x=>decide (x.cls=s∧x.vs=vs)) (List.take i D.fs))++[D.fs[i].k])=ints (yj (D.fs.take i) s vs)++[(AV.int .i64 D.fs[i].k).cells]:=by simp[ints,yj];rfl
    rw[this];exact a2
  refine aN ?_;refine aA ?_;refine aF Og.l2 ?_;refine aF (p1 .i64) ?_;refine aA ?_;refine aF L1 ?_;refine bq ?_
  by_cases hcl:D.fs[i].cls=s
  ·rw[decide_eq_true hcl]
   refine aP ?_;refine aI ?_;refine aP ?_;refine aN ?_;refine aP ?_;refine aA ?_;refine aP ?_;refine aF Og.l2 ?_;refine aP ?_;refine aI ?_;refine aP ?_;refine aF (p1 .i64) ?_;refine aP ?_;refine aA ?_;refine aP ?_;refine aF L2 ?_;refine aP ?_;refine aI ?_;refine bf ?_
   obtain⟨es,Vx,Ax⟩:=F.vals
   refine JO B (n+1) (l:=D.fs[i].vs) (l':=vs) ⟨es,Vx.view,Ax.mono fun _ _ r=>r.now⟩ (V g e) ok F.sz (by omega) (by omega) (by omega) fun g2 r eg og hr=> ?_
   refine bQ ?_
   exact nxt g2 r eg og (by rw[hr];exact⟨fun q=>⟨hcl,q⟩,fun q=>q.2⟩)
  ·rw[decide_eq_false hcl]
   refine aG ?_;refine aG ?_;refine aG ?_;refine aG ?_;refine aG ?_;refine aG ?_;refine aG ?_;refine aG ?_;refine aG ?_;refine aW ?_;refine bM ?_;refine bO ?_
   exact nxt g false (Ext.refl _) ok ⟨nofun,fun q=>absurd q.1 hcl⟩
end
abbrev RP (α:Type):=aj→Nat→Nat→List AV→α→Prop
structure Db {α:Type} (P:RP α) (b c:Nat) (h:aj) (out:AV) (es:List (List AV)) (l:List α):Prop where
 own:OM h 6 out es
 low:∀j,bL out j→b≤j∧j<c
 up:c≤h.sz
 len:es.length=l.length
 g:∃reg:Nat→Nat×Nat,(∀i,i<es.length→b≤(reg i).1∧(reg i).2≤c∧∀j,bL out j→¬((reg i).1≤j∧j<(reg i).2))∧(∀i i',i<i'→i'<es.length→(reg i).2≤(reg i').1)∧∀(i:Nat) (e:List AV) (x:α),es[i]? =some e→l[i]? =some x→P h (reg i).1 (reg i).2 e x
section
variable {α:Type} {P:RP α} {b c:Nat} {h h' h0:aj} {out:AV} {es:List (List AV)} {l:List α}
theorem Db.nil (P:RP α) (b:Nat) (h:aj):Db P b h.sz h .nilSlc [] []:=⟨.inl ⟨rfl,rfl⟩,fun j i=>absurd i eH,Nat.le_refl _,rfl,fun _=>(0,0),by simp,by simp,by simp⟩
theorem Db.kp (L:Db P b c h out es l) (hP:∀{h h' lo hi e x},P h lo hi e x→Kp lo hi h h'→P h' lo hi e x) (k:Kp b c h h') (s:h.sz≤h'.sz):Db P b c h' out es l:=by
 obtain⟨reg,r1,r2,r3⟩:=L.g
 refine⟨L.own.kp k L.low,L.low,Nat.le_trans L.up s,L.len,reg,r1,r2,fun i e x he hx=> ?_⟩
 have:=r1 i (List.getElem?_eq_some_iff.1 he).1
 exact hP (r3 i e x he hx) (k.sub this.1 this.2.1)
theorem Db.push {bytes:Nat} {h4:aj} {lo hi:Nat} {z e:List AV} {x:α} (L:Db P b c h out es l) (hP:∀{h h' lo hi e x},P h lo hi e x→Kp lo hi h h'→P h' lo hi e x) (o:h.Ok) (k0:h0.Ok) (e0:Ext h0 h) (hb0:h0.sz≤b) (hb:b≤h.sz) (e4:Ext h h4) (o4:h4.Ok)
 (p:P h4 lo hi e x) (hlo:h.sz≤lo) (hhi:hi≤h4.sz) (hz:z.length=6) (hzl:aV z=true) (he:e.length=6) (hel:aV e=true) (hl:l.length<1000000) (hby:bytes≤1000):
 ∃w h5,dX h4 1 6 z [(0, .agg e)]=some (w,h5)∧Ext h4 h5∧h5.Ok∧∃out' h6,cK h5 6 bytes out w=some (out',h6)∧h6.Ok∧Ext h0 h6∧Fr (bL out) h5 h6∧Db P b h6.sz h6 out' (es++[e]) (l++[x]):=by
 have hmo:most=1099511627776:=rfl
 obtain⟨w,h5,b1,b2,e5,o5,z5,_⟩:=iL (sz:=6) (z:=z) (v:= .agg e) o4 hz (by decide) (by decide) hzl he hel
 have hEl:es.length=l.length:=L.len
 have eh5:=bH e4 e5
 have hb1:(es.length+1)*bytes≤most:=by
  have:(es.length+1)*bytes≤1000001*1000:=Nat.mul_le_mul (by omega) hby
  omega
 obtain⟨out',h6,a1,a2,a3,a4,a5⟩:=(L.own.ext eh5).app (bytes:=bytes) (by decide) o5 b2.src (by simp) (by simpa using hb1) (by simp;omega)
 have e06:Ext h0 h6:=a4.ext (bH e0 eh5) k0 fun j q=>by have:=(L.low j q).1;omega
 refine⟨w,h5,b1,e5,o5,out',h6,a1,a3,e06,a4, ?_⟩
 obtain⟨reg,r1,r2,r3⟩:=L.g
 generalize hi':es.length=i at *
 have s2:=e4.1;have s4:=e5.1;have s5:=a4.sz;have s6:=eh5.1
 obtain⟨rg,n1,n2⟩:∃rg:Nat→Nat×Nat,(∀q,q<i→rg q=reg q)∧rg i=(lo,hi):=⟨fun q=>if q<i then reg q else(lo,hi),fun q hq=>if_pos hq,if_neg (Nat.lt_irrefl i)⟩
 have hl':(es++[e]).length=i+1:=by simp[hi']
 have newr:∀j,bL out' j→bL out j∨j=h5.sz:=a5
 have hup:=L.up
 refine⟨a2,fun j hj=>⟨?_,a2.lt a3 hj⟩,Nat.le_refl _,by rw[hl',List.length_append, ←hEl];rfl,rg,fun q hq=> ?_,fun q q' h1 h2=> ?_,fun i' e' x' he' hx'=> ?_⟩
 ·rcases newr j hj with q |q
  ·exact(L.low j q).1
  ·omega
 ·by_cases hq':q<i
  ·rw[n1 q hq']
   obtain⟨c1,c2,c3⟩:=r1 q (by omega)
   refine⟨c1,by omega,fun j hj w=> ?_⟩
   rcases newr j hj with q' |q'
   ·exact c3 j q' w
   ·omega
  ·have:q=i:=by omega
   subst this
   rw[n2]
   refine⟨by show b≤lo;omega,by show hi≤h6.sz;omega,fun j hj w=> ?_⟩
   have w1:lo≤j:=w.1
   have w2:j<hi:=w.2
   rcases newr j hj with q' |q'
   ·have:=(L.low j q').2;omega
   ·omega
 ·rw[n1 q (by omega)]
  by_cases hq':q'<i
  ·rw[n1 q' hq'];exact r2 q q' h1 (by omega)
  ·have:q'=i:=by omega
   subst this
   rw[n2]
   have:=(r1 q (by omega)).2.1
   show(reg q).2≤lo
   omega
 by_cases hlt':i'<i
 ·rw[List.getElem?_append_left (by omega)] at he'
  rw[List.getElem?_append_left (by omega)] at hx'
  rw[n1 i' hlt']
  exact hP (r3 i' e' x' he' hx') ((Kp.of_ext eh5).trans (Kp.of_fr a4 (r1 i' (by omega)).2.2))
 ·have:i'=i:=by
   have:=(List.getElem?_eq_some_iff.1 he').1
   omega
  subst this
  rw[List.getElem?_append_right (by omega),hi',Nat.sub_self] at he'
  simp at he'
  subst he'
  rw[List.getElem?_append_right (by omega), ←hEl,Nat.sub_self] at hx'
  simp at hx'
  subst hx'
  rw[n2]
  refine hP p ((Kp.of_ext e5).trans (Kp.of_fr a4 fun j hj q=> ?_))
  have:=(L.low j hj).2;have:=q.1;omega
theorem Db.one {h4:aj} {lo hi:Nat} {z e:List AV} {x:α} (hP:∀{h h' lo hi e x},P h lo hi e x→Kp lo hi h h'→P h' lo hi e x) (o4:h4.Ok) (p:P h4 lo hi e x) (hlo:b≤lo) (hlh:lo≤hi) (hhi:hi≤h4.sz) (hz:z.length=6) (hzl:aV z=true) (he:e.length=6) (hel:aV e=true):
 ∃w h5,dX h4 1 6 z [(0, .agg e)]=some (w,h5)∧Ext h4 h5∧h5.Ok∧Db P b h5.sz h5 w [e] [x]:=by
 obtain⟨w,h5,b1,b2,e5,o5,z5,hw⟩:=iL (sz:=6) (z:=z) (v:= .agg e) o4 hz (by decide) (by decide) hzl he hel
 subst hw
 have s5:=e5.1
 refine⟨_,h5,b1,e5,o5, ?_⟩
 have M:OM h5 6 (.slc h4.sz 0 0 1 1 true) [e]:=by
  have:h5=Ab.newRow h4 [e] 6:=by
   have:=b1
   simp only[dX,bJ.2 hz,hzl,jO,jG,AV.cells,bJ.2 he,List.length_cons,List.length_nil,hel,oP] at this
   have h2:Nat.blt 0 6=true:=rfl
   have h3:Nat.ble (1*6) 16777216=true:=rfl
   simp only[h2,h3,Bool.and_self,cond_true] at this
   have h4':Nat.blt 0 (0+1)=true:=rfl
   have h5':Nat.ble 0 0=true:=rfl
   injection this with this
   injection this with _ this
   exact this.symm
  subst this
  exact .inr ⟨h4.sz,1,true,{es:=[e],sz:=6,g:=0,m:=0,rw:=true},rfl,by rw[aj.row_some];exact eX _ _,rfl,Nat.le_refl _,rfl,rfl,Nat.le_refl _⟩
 refine⟨M,fun j q=>by rw[←dh.1 q];omega,Nat.le_refl _,rfl,fun _=>(lo,hi),fun i hi'=>⟨hlo,by show hi≤h5.sz;omega,fun j q w=> ?_⟩,fun i i' a c=>by simp at c;omega,fun i e' x' he' hx'=> ?_⟩
 ·have:=dh.1 q
  have w2:j<hi:=w.2
  omega
 ·have:i=0:=by have:=(List.getElem?_eq_some_iff.1 he').1;simpa using this
  subst this
  simp at he' hx'
  subst he';subst hx'
  exact hP p (Kp.of_ext e5)
structure G8 (lo hi i:Nat) (es:List (List AV)) (reg:Nat→Nat×Nat) (h g:aj) (v:AV):Prop where
 own:∃es',OM g 6 v es'∧es'.length=es.length∧∀j,i≤j→es'[j]? =es[j]?
 fr:Fr (Au lo hi) h g
 kp:∀j,i≤j→j<es.length→Kp (reg j).1 (reg j).2 h g
theorem G8.step {lo hi i:Nat} {es:List (List AV)} {reg:Nat→Nat×Nat} {h g g1:aj} {v x:AV} {eo:List AV} (R:G8 lo hi i es reg h g v) (hr:∀j,bL v j→lo≤j∧j<hi)
 (r1:∀i,i<es.length→lo≤(reg i).1∧(reg i).2≤hi∧∀j,bL v j→¬((reg i).1≤j∧j<(reg i).2)) (r2:∀i i',i<i'→i'<es.length→(reg i).2≤(reg i').1) (hi':i<es.length) (heo:es[i]? =some eo) (hl:eo.length=6)
 (f1:Fr (Au (reg i).1 (reg i).2) g g1) (o1:g1.Ok) (hx:x.cells.length=6) (hf:aV x.cells=true):
 ∃id gg,(∀k,bS g1 6 v (.int k (i:Int))=some (.ptr id gg i 0))∧∃g2,bT g1 6 (.ptr id gg i 0) x=some g2∧g2.Ok∧G8 lo hi (i+1) es reg h g2 v:=by
 obtain⟨es',w1,w2,w3⟩:=R.own
 have W:=w1.fr f1 fun j hj=>(r1 i hi').2.2 j hj
 obtain⟨id,gg,p1,p2,g2,p3,p4,p5,p6,p7⟩:=W.set (by rw[w3 i (Nat.le_refl _)];exact heo) hl hx hf
 refine⟨id,gg,p1,g2,p3,p7 o1,⟨_,p4,by rw[List.length_set,w2],fun j hj=> ?_⟩, ?_,fun j hj hj2=> ?_⟩
 ·rw[List.getElem?_set_ne (by omega)];exact w3 j (by omega)
 ·exact(R.fr.trans (f1.mono fun j hj=>⟨Nat.le_trans (r1 i hi').1 hj.1,Nat.lt_of_lt_of_le hj.2 (r1 i hi').2.1⟩)).trans (Fr.of_but (hr id p2) p5)
 ·have:=r2 i j (by omega) hj2
  refine(R.kp j (by omega) hj2).trans ((Kp.of_fr f1 fun q hq hq2=> ?_).trans (Kp.of_but p5 fun q=>(r1 j hj2).2.2 id p2 q))
  have:=hq.2;have:=hq2.1;omega
end
def GP:RP (Str×Val):=fun h lo hi a p=>∃c,a= .str p.1 :: c∧Gx p.2 h lo hi c
theorem GP.kp {h h':aj} {lo hi:Nat} {e:List AV} {x:Str×Val} (p:GP h lo hi e x) (k:Kp lo hi h h'):GP h' lo hi e x:=let⟨c,a,G⟩:=p;⟨c,a,G.fr k⟩
theorem Db.sq {b c:Nat} {h:aj} {out:AV} {es:List (List AV)} {gs:List (Str×Val)} (L:Db GP b c h out es gs):Sq (Au b c) h out gs:=fun h' q=>by
 have k:Kp b c h h':=fun j o a c g=>q j o ⟨a,c⟩ g
 obtain⟨reg,r1,r2,r3⟩:=L.g
 refine⟨es,(L.own.kp k L.low).view,wT L.len fun i e x he hx=> ?_⟩
 obtain⟨c,a,G⟩:=r3 i e x he hx
 have:=r1 i (List.getElem?_eq_some_iff.1 he).1
 exact⟨c,a,G.rd h' (k.sub this.1 this.2.1)⟩
theorem Yh {nm:Str} {a:List AV} (h5:a.length=5) (hl:aV a=true):eP [.str [], .int .i64 0, .bool false, .int .i64 0, .str [], .nilSlc] [(0,1,(AV.str nm)),(1,5,(AV.agg a))]=some (.agg (.str nm :: a)):=by
 match a,h5 with
 | [a1,a2,a3,a4,a5],_=>
   simp only[eP,wP,AV.cells,List.length_cons,List.length_nil,lay,hl]
   rfl
theorem e7 {n b:Nat} {h:aj} {sv:AV} {gs:List (Str×Val)} {K:aC} (S:GV h sv gs) (ho:h.Ok) (hb:∀p∈gs,jg p.2≤b) (hB:b<100000000) (hlen:gs.length<1000000) (hn:2*b+gs.length+10≤n) (hL:n<lim)
 (kk:∀h' w es,Ext h h'→h'.Ok→Db GP h.sz h'.sz h' w es gs→K w h'=true):aD E (n+1) (.func 7) [sv] h K=true:=by
 have hlm:lim=4611686018427387904:=rfl
 apply d7
 unfold s7
 obtain⟨es0,W,A⟩:=S
 suffices H:∀m i g out es,gs.length-i<m→i≤gs.length→Ext h g→g.Ok→Db GP h.sz g.sz g out es (gs.take i)→TD (aD E n) n m sv out (.int .i64 (i:Int)) g K=true from
  H n 0 h .nilSlc [] (by omega) (Nat.zero_le _) (Ext.refl _) ho (Db.nil _ _ _)
 intro m
 induction m with
 |zero=>intro i g out es hm;omega
 |succ m ih=>
  intro i g out es hm hi e ok L
  have lenS:dw g 1 sv=some (.int .i64 (gs.length:Int)):=by rw[(W.ext e).len,A.length]
  unfold TD Yp
  refine aF lenS ?_;refine aT ?_
  by_cases hlt:i<gs.length
  rotate_left
  ·refine iF (decide_eq_false (by omega)) ?_
   rw[List.take_of_length_le (by omega)] at L
   exact kk g out es e ok L
  refine iM (decide_eq_true (by omega)) ?_
  obtain⟨ee,he,c,rfl,Rc⟩:=A.get (List.getElem?_eq_getElem hlt)
  obtain⟨id,gg,j,hat⟩:=(W.ext e).atE he
  have hc5:=Rc.len5
  have tk:gs.take (i+1)=gs.take i++[gs[i]]:=List.take_succ_eq_append_getElem hlt
  have szp:=hb gs[i] (List.getElem_mem hlt)
  generalize hp:gs[i]=p at *
  obtain⟨p1,p2⟩:=hat g (Ext.refl _)
  have L0:au g false 1 (.ptr id gg j 0)=some (.str p.1):=by rw[p2];rfl
  have L1:au g true 5 (.ptr id gg j 1)=some (.agg c):=by
   rw[p2]
   simp only[iH,cond_true,List.length_cons,hc5]
   rw[bI.2 (Nat.le_refl 6),cond_true,List.drop_succ_cons,List.drop_zero,List.take_of_length_le (by omega)]
  refine aF (p1 .i64) ?_;refine aA ?_;refine aF L0 ?_;refine aF (p1 .i64) ?_;refine aA ?_;refine aF L1 ?_
  obtain⟨n,rfl⟩:∃j,n=j+1:=⟨n-1,by omega⟩
  refine e25 (n:=n) b (RV.ext e Rc) ok szp (by omega) (by omega) (by omega) fun g2 a' e2 o2 G=> ?_
  obtain⟨q1,q2⟩:=hat g2 e2
  have L0':au g2 false 1 (.ptr id gg j 0)=some (.str p.1):=by rw[q2];rfl
  refine fQ (q1 .i64) (by simp[AV.same]) ?_
  refine fQ L0' (sZ _) ?_
  obtain⟨f1,f2,f3,f4⟩:=G.now.agg
  have ha5:=G.now.len5
  rw[f4] at f3
  refine aF (Yh ha5 f3) ?_
  have hal:aV (.str p.1 :: a')=true:=by simp only[aV,f3];rfl
  have s2:=e2.1
  obtain⟨w,g3,x1,e3,o3,out',g4,x2,o4,e4,f4',L4⟩:=L.push (P:=GP) (bytes:=80) (z:=[.str [], .int .i64 0, .bool false, .int .i64 0, .str [], .nilSlc]) (e:= .str p.1 :: a') (x:=p) GP.kp ok ho e (Nat.le_refl _) e.1 e2 o2 ⟨a',rfl,G⟩ (Nat.le_refl _) (Nat.le_refl _) rfl rfl (by simp[ha5]) hal (by rw[List.length_take];omega) (by decide)
  refine iW x1 ?_
  refine iW x2 ?_
  refine aF (dV (i:=i) (by omega)) ?_
  rw[←tk] at L4
  exact ih (i+1) g4 out' _ (by omega) (by omega) e4 o4 L4
def TF:RP PF:=fun g lo hi a f=>∃vv sv mid,a=[.int .i64 f.k, .str f.cls,vv, .bool f.stated, .int .i64 (f.born:Int),sv]∧vv.leaf=true∧lo≤mid∧mid≤hi∧Gv f.vs g lo mid vv∧OM g 1 sv (ints f.stamps)∧∀j,bL sv j→mid≤j∧j<hi
theorem TF.kp {h h':aj} {lo hi:Nat} {e:List AV} {x:PF} (p:TF h lo hi e x) (k:Kp lo hi h h'):TF h' lo hi e x:=by
 obtain⟨vv,sv,mid,a,b,c,d,G,O,r⟩:=p
 exact⟨vv,sv,mid,a,b,c,d,G.fr (k.sub (Nat.le_refl _) d),O.kp (k.sub c (Nat.le_refl _)) r,r⟩
theorem TF.rf {h:aj} {lo hi:Nat} {e:List AV} {x:PF} (p:TF h lo hi e x):RF h e x:=by
 obtain⟨vv,sv,mid,a,b,c,d,G,O,r⟩:=p
 exact⟨vv,sv,a,G.now,O.view⟩
theorem TF.cells {h:aj} {lo hi:Nat} {e:List AV} {x:PF} (p:TF h lo hi e x):e.length=6∧aV e=true:=by
 obtain⟨vv,sv,mid,rfl,b,c,d,G,O,r⟩:=p
 have:=O.view.leaf
 exact⟨rfl,by simp only[aV,b,this];rfl⟩
theorem Tld.tf {h h2:aj} {x:FD} {vv sv:AV} {k:Int} (D:Tld h h2 x vv sv):∃lo,h.sz≤lo∧lo≤h2.sz∧TF h2 lo h2.sz [.int .i64 k, .str x.cls,vv, .bool x.stated, .int .i64 (x.born:Int),sv] (pf (k,x)):=by
 obtain⟨lo,hi,G,q1,q4,q2,q3⟩:=D.g
 exact⟨lo,q1,Nat.le_trans q4 q2,vv,sv,hi,rfl,D.l,q4,q2,G,D.m,q3⟩
theorem Db.fv {b c:Nat} {h:aj} {out:AV} {es:List (List AV)} {l:List PF} (L:Db TF b c h out es l):FV h out l:=by
 obtain⟨reg,r1,r2,r3⟩:=L.g
 exact⟨es,L.own.view,wT L.len fun i e x he hx=>(r3 i e x he hx).rf⟩
section
variable {B b:Nat} {τ:Nat→Tag} {o:Nat} {h0 h h':aj} {T:SD} {K:aC} {n:Nat} {cs:List Cls}
theorem e14 (O:SO B τ o h0 h T) (I:SI cs b T) (hfs:∀s,(fieldsOf cs s).length≤62) (hN:T.next<500000) (hB:B<100000000) (hn:B+1000000≤n) (hL:n<lim)
 (kk:∀h2 v es,Ext h h2→h2.Ok→Db TF h.sz h2.sz h2 v es (T.fs.map pf)→K v h2=true):aD E (n+3) (.func 17) [.ptr T.p 0 0 0] h K=true:=by
 have hlm:lim=4611686018427387904:=rfl
 have hmo:most=1099511627776:=rfl
 have hlf:=I.fslen O
 have Ra:=(O.r .all T.all rfl).rn
 have hal:=I.all O
 apply d17
 unfold s17
 have A0:au h false 1 (.ptr T.all.id 0 0 0)=some T.all.v:=Ra.var.get rfl
 have la:dw h 1 T.all.v=some (.int .i64 (T.fs.length:Int)):=by have:=Ra.buf.view.len;rw[dN,hal,List.length_map] at this;exact this
 refine aN ?_;refine aA ?_;refine aF O.l5 ?_;refine aN ?_;refine aA ?_;refine aF A0 ?_;refine aF la ?_
 have Vall:View h 1 T.all.v (ints (T.fs.map fun p=>p.1)):=by rw[←hal];exact Ra.buf.view
 suffices H:∀m i g out es,T.fs.length-i<m→i≤T.fs.length→Ext h g→g.Ok→Db TF h.sz g.sz g out es ((T.fs.take i).map pf)→H9 (aD E (n+2)) (n+2) m (.ptr T.p 0 0 0) out T.all.v (.int .i64 (T.fs.length:Int)) (.int .i64 (i:Int)) g K=true from
  H (n+2) 0 h .nilSlc [] (by omega) (Nat.zero_le _) (Ext.refl _) O.ok (Db.nil _ _ _)
 intro m
 induction m with
 |zero=>intro i g out es hm;omega
 |succ m ih=>
  intro i g out es hm hi e ok W
  have Og:=O.ext e ok
  unfold H9 QB
  refine aT ?_
  by_cases hlt:i<T.fs.length
  ·refine iM (decide_eq_true (by omega)) ?_
   have hik:i<(T.fs.map fun p=>p.1).length:=by simpa using hlt
   obtain⟨id,gg,j,p1,p2⟩:=(Vall.ext e).at (qD hik)
   have hp:(T.fs.map fun p=>p.1)[i]=(T.fs[i]).1:=by simp
   rw[hp] at p2
   have A:au g false 1 (.ptr id gg j 0)=some (.int .i64 (T.fs[i]).1):=by rw[p2];rfl
   have hmem:((T.fs[i]).1,(T.fs[i]).2)∈T.fs:=List.getElem_mem hlt
   have lk:fC g (.leaf .int) false .nilPtr (.map T.fm) (.int .i64 (T.fs[i]).1)=some (.ptr (T.fs[i]).2.id 0 0 0):=by
    have:=Og.fs.look intKeys .nilPtr (T.fs[i]).1
    rw[MI,pW,mR Og.nf hmem] at this;exact this
   refine aF (p1 .i64) ?_;refine aF A ?_;refine aN ?_;refine aA ?_;refine aF Og.l4 ?_;refine aF lk ?_
   have F:=Og.f _ _ hmem
   obtain⟨c1,c2,c3,c4⟩:=I.fc _ _ hmem
   have t1:(T.fs.take (i+1)).map pf=(T.fs.take i).map pf++[pf T.fs[i]]:=by rw[List.take_succ_eq_append_getElem hlt,List.map_append];rfl
   have hf:=hfs (T.fs[i]).2.cls
   refine aaS (n:=n) F ok (by omega) hB (by omega) hL fun g2 vv sv e2 o2 D=> ?_
   obtain⟨lo,q1,q2,Tx⟩:=D.tf (k:=(T.fs[i]).1)
   obtain⟨t2,t3⟩:=Tx.cells
   obtain⟨w',g3,b1,e3,o3,out',g4,a1,o4,e4,f4,L4⟩:=W.push (bytes:=88) (z:=[AV.int .i64 0, .str [], .nilSlc, .bool false, .int .i64 0, .nilSlc]) TF.kp ok O.ok e (Nat.le_refl _) e.1 e2 o2 Tx q1 (Nat.le_refl _) rfl rfl t2 t3 (by rw[List.length_map,List.length_take];omega) (by decide)
   refine iW b1 ?_
   refine iW a1 ?_
   refine aF (dV (i:=i) (by omega)) ?_
   rw[←t1] at L4
   exact ih (i+1) g4 out' _ (by omega) (by omega) e4 o4 L4
  ·refine iF (decide_eq_false (by omega)) ?_
   rw[List.take_of_length_le (by omega)] at W
   exact kk g out es e ok W
theorem e19 {c d:Nat} {hs:aj} {v:AV} {es:List (List AV)} {l:List PF} (L:Db TF c d hs v es l) (ho:hs.Ok) (hB:B<100000000) (hl:∀f∈l,fU f.vs≤B∧f.stamps.length≤B) (hlen:l.length<1000000) (hn:B+l.length+10≤n) (hL:n<lim)
 (kk:∀h',Fr (Au c d) hs h'→h'.Ok→K (.tup []) h'=true):aD E (n+2) (.func 19) [v] hs K=true:=by
 have hlm:lim=4611686018427387904:=rfl
 apply d19
 unfold s19
 have hel:es.length=l.length:=L.len
 have hup:=L.up
 obtain⟨reg,r1,r2,r3⟩:=L.g
 suffices H:∀m i g,es.length-i<m→i≤es.length→g.Ok→G8 c d i es reg hs g v→JF (aD E (n+1)) (n+1) m v (.int .i64 (i:Int)) g K=true from
  H (n+1) 0 hs (by omega) (Nat.zero_le _) ho ⟨⟨es,L.own,rfl,fun _ _=>rfl⟩,Fr.refl _ _,fun j _ _=>Kp.refl _ _ _⟩
 intro m
 induction m with
 |zero=>intro i g hm;omega
 |succ m ihm=>
  intro i g hm hi' o R
  obtain⟨es',w1,w2,w3⟩:=R.own
  have hle:dw g 1 v=some (.int .i64 (es.length:Int)):=by rw[w1.len,w2]
  unfold JF SH
  refine aF hle ?_;refine aT ?_
  by_cases hlt:i<es.length
  rotate_left
  ·refine iF (decide_eq_false (by omega)) ?_
   exact kk g R.fr o
  refine iM (decide_eq_true (by omega)) ?_
  have hx:i<l.length:=by omega
  have he0:=List.getElem?_eq_getElem hlt
  obtain⟨vv,sv,mid,ea,b2,c1,c2,G,Os,rs⟩:=(r3 i _ _ he0 (List.getElem?_eq_getElem hx)).kp (R.kp i (Nat.le_refl _) hlt)
  have hsz:=hl _ (List.getElem_mem hx)
  have he:es'[i]? =some [.int .i64 l[i].k, .str l[i].cls,vv, .bool l[i].stated, .int .i64 (l[i].born:Int),sv]:=by rw[w3 i (Nat.le_refl _),he0,ea]
  obtain⟨id,g0,j,p1,p2⟩:=w1.view.at1 he
  have A2:au g false 1 (.ptr id g0 j 2)=some vv:=by rw[p2];rfl
  have ri:=r1 i hlt
  have s1:=R.fr.sz
  obtain⟨k',OW⟩:=G.ow
  refine aF (p1 .i64) ?_;refine aA ?_;refine aF A2 ?_
  refine v12 k' n OW o (by have:=ri.2.1;omega) (by omega) (by omega) hL fun g1 f1 o1=> ?_
  have f1':Fr (Au (reg i).1 (reg i).2) g g1:=f1.mono fun q w=>⟨w.1,by have:=w.2;omega⟩
  have W1:=w1.fr f1' fun q hq=>ri.2.2 q hq
  obtain⟨id1,g01,j1,p3,p4⟩:=W1.view.at1 he
  have A5:au g1 false 1 (.ptr id1 g01 j1 5)=some sv:=by rw[p4];rfl
  have Os1:=Os.fr f1 fun q hq w=>by have:=(rs q hq).1;have:=w.2;omega
  have s2:=f1.sz
  refine aF (p3 .i64) ?_;refine aA ?_;refine aF A5 ?_
  refine e44 (n:=n) (lo:=mid) (hi:=(reg i).2) Os1 (fun e he=>by
   obtain⟨y,_,rfl⟩:=List.mem_map.1 he;rfl) rs (by have:=ri.2.1;omega) o1 (by rw[dN];omega) (by rw[dN];omega) hL fun g2 f2 o2=> ?_
  have f2':Fr (Au (reg i).1 (reg i).2) g g2:=f1'.trans (f2.mono fun q w=>⟨by have:=w.1;omega,w.2⟩)
  obtain⟨id2,gg2,t1,g3,t2,t3,R'⟩:=R.step (x:= .agg [.int .i64 (-5), .str [], .nilSlc, .bool false, .int .i64 0, .nilSlc]) L.low r1 r2 hlt he0 (by rw[ea];rfl) f2' o2 rfl rfl
  refine aF (show eP [.int .i64 0, .str [], .nilSlc, .bool false, .int .i64 0, .nilSlc] [(0,1,(AV.int .i64 (-5)))]=some (.agg [.int .i64 (-5), .str [], .nilSlc, .bool false, .int .i64 0, .nilSlc]) from rfl) ?_;refine aF (t1 .i64) ?_;refine lq t2 ?_;refine aF (dV (i:=i) (by omega)) ?_
  exact ihm (i+1) g3 (by omega) (by omega) t3 R'
end
theorem Hq {k:Int}:∀{l:List DF} {m:List (Int×FD)},l.map GR=m.map pf→(qZ k (l.map wG)=none→jm m k=none)∧∀i,qZ k (l.map wG)=some i→∃x y,jm m k=some x∧l[i]? =some y∧GR y=pf (k,x)∧(l.take i++l.drop (i+1)).map GR=(zx m k).map pf∧∀y' x',GR y'=pf (k,x')→(l.set i y').map GR=(nT m k x').map pf
 | [],[],_=>⟨fun _=>rfl,fun i h=>by cases h⟩
 | [],_ :: _,h=>by cases h
 |_ :: _,[],h=>by cases h
 |y :: l,(q,x) :: m,h=>by
  simp only[List.map_cons,List.cons.injEq] at h
  obtain⟨h1,h2⟩:=h
  obtain⟨i1,i2⟩:=Hq (k:=k) h2
  have hq:y.k=q:=by have:=congrArg PF.k h1;exact this
  simp only[List.map_cons,qZ]
  by_cases e:k=q
  ·have e':(wG y).handle=k:=by show y.k=k;rw[hq,e]
   rw[if_pos e']
   refine⟨nofun,fun i hi=> ?_⟩
   cases hi
   subst e
   refine⟨x,y,by simp[jm],rfl,h1,by simpa[zx] using h2,fun y' x' hy=> ?_⟩
   simp[nT,hy,h2]
  ·have e':¬(wG y).handle=k:=by show ¬y.k=k;rw[hq];exact fun w=>e w.symm
   rw[if_neg e']
   refine⟨fun hn=> ?_,fun i hi=> ?_⟩
   ·have:qZ k (l.map wG)=none:=by
     cases hx:qZ k (l.map wG) with
     |none=>rfl
     |some j=>rw[hx] at hn;cases hn
    simp[jm,e,i1 this]
   ·cases hx:qZ k (l.map wG) with
    |none=>rw[hx] at hi;cases hi
    |some j=>
     rw[hx] at hi
     cases hi
     obtain⟨x',y',a1,a2,a3,a4,a5⟩:=i2 j hx
     refine⟨x',y',by simp[jm,e,a1],by simpa using a2,a3, ?_,fun y2 x2 hy=> ?_⟩
     ·simp only[List.take_succ_cons,List.drop_succ_cons,List.cons_append,List.map_cons,zx,if_neg e,h1,a4]
     ·simp only[List.set_cons_succ,List.map_cons,nT,if_neg e,h1,a5 y2 x2 hy]
theorem of_eq {l:List DF} {T:SD} (h:l.map GR=T.fs.map pf):xY l=zX T:=by
 funext k
 obtain⟨a,b⟩:=Hq (k:=k) h
 unfold xY Ht zX
 cases hx:qZ k (l.map wG) with
 |none=>rw[a hx];rfl
 |some i=>
  obtain⟨x,y,c1,c2,c3, -, -⟩:=b i hx
  have:y.cls=x.cls:=congrArg PF.cls c3
  simp[c1,List.getElem?_map,c2,wG,this]
theorem qH {cs:List Cls} {name:Str} {of:Int→Option Str} {gs:List (Str×Val)} {vs vs':List Val} (h:given cs name of gs vs=some vs'):rE cs (fieldsOf cs name) of gs 0 vs=some vs':=by
 unfold given at h
 split at h
 ·cases h
 ·exact h
theorem Ls {cs:List Cls} {name:Str} {of:Int→Option Str} {gs:List (Str×Val)} {vs:List Val} (nd:(fnames (fieldsOf cs name)).Nodup) (h:given cs name of gs (zeros (fieldsOf cs name))=some vs):vs=(fieldsOf cs name).map fun f=>lS f.name gs zV:=by
 have h:=qH h
 have hl:=Ga _ _ _ _ h
 generalize fieldsOf cs name=F at *
 apply List.ext_getElem?
 intro i
 have hz:(zeros F).length=F.length:=by simp[zeros]
 by_cases hi:i<F.length
 ·have hx:idx F[i].name (fnames F)=some i:=ED nd (by simp[fnames,hi])
  rw[QU hx gs 0 _ _ h,List.getElem?_map,List.getElem?_eq_getElem hi]
  simp[zeros,hi]
 ·rw[List.getElem?_eq_none (by omega),List.getElem?_eq_none (by rw[List.length_map];omega)]
theorem JY {cs:List Cls} {fs:List lK} {of:Int→Option Str}:∀{gs:List (Str×Val)} {m:Nat} {vs vs':List Val},rE cs fs of gs m vs=some vs'→(∀v∈vs,pE 30 v=true)→∀v∈vs',pE 30 v=true
 | [],m,vs,vs',h,hv=>by simp only[rE,Option.some.injEq] at h;subst h;exact hv
 |p :: t,m,vs,vs',h,hv=>by
  simp only[rE] at h
  split at h
  ·cases h
  ·split at h
   ·cases h
   ·rename_i f _
    split at h
    ·cases h
    ·rename_i q
     refine JY h fun v hm=> ?_
     rcases List.mem_or_eq_of_mem_set hm with e |e
     ·exact hv v e
     ·rw[e]
      have hft:tO cs f p.2 of=true:=by
       cases hb:tO cs f p.2 of with
       |true=>rfl
       |false=>exact absurd (by rw[hb];simp) q
      unfold tO at hft
      simp only[Bool.and_eq_true] at hft
      exact hft.1
structure EX (cs:List Cls) (B b:Nat) (h0 h:aj) (τ:Nat→Tag) (T:SD) (D:DD) (i:Nat):Prop where
 a:SO B τ 0 h0 h T
 d:DO B τ 1 h0 h D
 ia:SI cs b T
 eq:D.fs.map GR=T.fs.map pf
 ck:D.clock=T.clock
 la:D.last=T.next
 mo:D.most=T.most
 nx:T.next≤i
 cc:T.clock≤i
 kv:∀k x,(k,x)∈T.fs→∀v∈x.vs,pE 30 v=true
structure Hf (cs:List Cls) (B b:Nat) (h0:aj) (tb cv:AV):Prop where
 tr:fJ h0 tb cs
 c:CV h0 cv cs
 gd:Good cs
 hv:valid cs=true
 len:cs.length≤64
 ld:load cs≤100000
 f62:∀s,(fieldsOf cs s).length≤62
 b1:1≤b
 bB:62*b≤B
 B:B<100000000
section
variable {cs:List Cls} {B b i n:Nat} {h0 h h':aj} {τ τ':Nat→Tag} {T:SD} {D:DD} {tb cv sv:AV} {K:aC} {p:N7} {X:Nat→Prop}
theorem EX.ext (S:EX cs B b h0 h τ T D i) (e:Ext h h') (o:h'.Ok):EX cs B b h0 h' τ T D i:=⟨S.a.ext e o,S.d.ext e o,S.ia,S.eq,S.ck,S.la,S.mo,S.nx,S.cc,S.kv⟩
theorem EX.up (S:EX cs B b h0 h τ T D i) {j:Nat} (q:i≤j):EX cs B b h0 h τ T D j:=⟨S.a,S.d,S.ia,S.eq,S.ck,S.la,S.mo,Nat.le_trans S.nx q,Nat.le_trans S.cc q,S.kv⟩
theorem EX.fr (S:EX cs B b h0 h τ T D i) (f:Fr X h h') (ok:h'.Ok) (hx:∀j,X j→τ j= .dat) (g:Tg τ τ' h h'):EX cs B b h0 h' τ' T D i:=
 ⟨S.a.fr f ok (fun j q=>by rw[hx j q];exact⟨nofun,nofun⟩) g,S.d.fr f ok (fun j q=>by rw[hx j q];exact⟨nofun,nofun⟩) g,S.ia,S.eq,S.ck,S.la,S.mo,S.nx,S.cc,S.kv⟩
theorem EX.len (S:EX cs B b h0 h τ T D i):D.fs.length=T.fs.length:=by have:=congrArg List.length S.eq;simpa using this
theorem EX.fl (S:EX cs B b h0 h τ T D i):D.fs.length≤i:=by rw[S.len];exact Nat.le_trans (S.ia.fslen S.a) S.nx
theorem EX.fc (S:EX cs B b h0 h τ T D i) {y:DF} (hy:y∈D.fs):∃x,(y.k,x)∈T.fs∧GR y=pf (y.k,x):=by
 have:GR y∈T.fs.map pf:=by rw[←S.eq];exact List.mem_map_of_mem hy
 obtain⟨⟨k,x⟩,hm,he⟩:=List.mem_map.1 this
 have hk:k=y.k:=congrArg PF.k he
 subst hk
 exact⟨x,hm,he.symm⟩
theorem WA (S:EX cs B b h0 h τ T D i) (X:Hf cs B b h0 tb cv) (ht:T.tb=tb) (hcv:D.cv=cv) {Q:Nat→Prop} (Sq1:Sq Q h sv p.set) (hQ:∀j,Q j→j<h.sz) {sv2:AV} (G:GV h0 sv2 p.set) (hb:∀q∈p.set,jg q.2≤b) (hi:i<400000) (hlen:p.set.length<1000000) (hn:3*B+p.set.length+4000000≤n) (hL:n+200<lim)
 (kk:∀(r e:Int) h1 τ1 T1,St 0 τ τ1 h h1→SO B τ1 0 h0 h1 T1→(∀K2:aC,(∀h2 τ2 D2,EX cs B b h0 h2 τ2 T1 D2 (i+1)→St 1 τ1 τ2 h1 h2→T1.tb=tb→D2.cv=cv→T1.p=T.p→D2.q=D.q→K2 (.tup [.int .i64 r, .int .i64 e]) h2=true)→aD E (n+8) (.func 9) [.ptr D.q 0 0 0, .str p.cls,sv2, .bool p.st] h1 K2=true)→K (.tup [.int .i64 r, .int .i64 e]) h1=true):
 aD E (n+8) (.func 8) [.ptr T.p 0 0 0, .str p.cls,sv, .bool p.st] h K=true:=by
 have hlm:lim=4611686018427387904:=rfl
 have hXB:=X.B
 have hXb:b≤B:=by have:=X.bB;omega
 have fl:=S.fl
 have hof:=of_eq S.eq
 have hdof:∀h1 τ1,St 0 τ τ1 h h1→DO B τ1 1 h0 h1 D:=fun h1 τ1 s=>S.d.st s (by decide)
 have key:=uL cs p.cls (zX T) p.set (zeros (fieldsOf cs p.cls))
 have hex:Ext h h→True:=fun _=>trivial
 have stx:∀{h1},Ext h h1→h1.Ok→St 0 τ τ h h1:=fun e o=>St.ext e o S.a.hi
 have call9:∀h1 τ1 (K2:aC),DO B τ1 1 h0 h1 D→(idx p.cls (names cs)=none→K2 (.tup [.int .i64 0, .int .i64 10]) h1=true)→
  ((idx p.cls (names cs)).isSome→om cs (fieldsOf cs p.cls) (xY D.fs) [] p.set=false→∀h',Ext h1 h'→h'.Ok→K2 (.tup [.int .i64 0, .int .i64 11]) h'=true)→
  ((idx p.cls (names cs)).isSome→om cs (fieldsOf cs p.cls) (xY D.fs) [] p.set=true→D.most≤D.fs.length→∀h',Ext h1 h'→h'.Ok→K2 (.tup [.int .i64 0, .int .i64 12]) h'=true)→
  ((idx p.cls (names cs)).isSome→om cs (fieldsOf cs p.cls) (xY D.fs) [] p.set=true→D.fs.length<D.most→∀h' τ' D',DO B τ' 1 h0 h' D'→St 1 τ1 τ' h1 h'→Zx D D' (fieldsOf cs p.cls) p.cls p.set p.st→K2 (.tup [.int .i64 ((D.last+1:Nat):Int), .int .i64 0]) h'=true)→
  aD E (n+8) (.func 9) [.ptr D.q 0 0 0, .str p.cls,sv2, .bool p.st] h1 K2=true:=fun h1 τ1 K2 O k1 k2 k3 k4=>
  e9 (n:=n+1) (b:=b) O (by rw[hcv];exact X.c) X.gd X.len X.ld (X.f62 _) G hb X.b1 X.bB X.B (by omega) (by omega) (by rw[S.ck];have:=S.cc;omega) (by rw[S.la];have:=S.nx;omega) (by omega) (by omega) k1 k2 k3 k4
 have same:∀{h1 τ1} (s:St 0 τ τ1 h h1) (O1:SO B τ1 0 h0 h1 T) (D1:DO B τ1 1 h0 h1 D),EX cs B b h0 h1 τ1 T D (i+1):=fun s O1 D1=>⟨O1,D1,S.ia,S.eq,S.ck,S.la,S.mo,Nat.le_succ_of_le S.nx,Nat.le_succ_of_le S.cc,S.kv⟩
 refine abZ S.a S.ia (by rw[ht];exact X.tr) X.gd.asc X.len X.f62 Sq1 hQ hb X.b1 X.bB (by have:=S.nx;omega) (by have:=S.cc;omega) (by omega) (by omega) hL ?_ ?_ ?_ ?_
 ·intro hix h1 e1 o1
  have s1:=stx e1 o1
  have D1:=hdof _ _ s1
  refine kk 0 10 h1 τ T s1 (S.a.ext e1 o1) fun K2 kf=>call9 h1 τ K2 D1 (fun _=> ?_) (fun q=>by rw[hix] at q;cases q) (fun q=>by rw[hix] at q;cases q) (fun q=>by rw[hix] at q;cases q)
  exact kf h1 τ D (same s1 (S.a.ext e1 o1) D1) (St.refl D1.ok D1.hi) ht hcv rfl rfl
 ·intro his hg h1 e1 o1
  have s1:=stx e1 o1
  have D1:=hdof _ _ s1
  rw[hg, ←hof] at key
  refine kk 0 11 h1 τ T s1 (S.a.ext e1 o1) fun K2 kf=>call9 h1 τ K2 D1 (fun q=>by rw[q] at his;cases his) (fun _ _ h' e' o'=> ?_) (fun _ q=>by rw[←key] at q;cases q) (fun _ q=>by rw[←key] at q;cases q)
  exact kf h' τ D (same (stx (bH e1 e') o') (S.a.ext (bH e1 e') o') (D1.ext e' o')) (St.ext e' o' D1.hi) ht hcv rfl rfl
 ·intro vs his hg hfull h1 e1 o1
  have s1:=stx e1 o1
  have D1:=hdof _ _ s1
  rw[hg, ←hof] at key
  refine kk 0 12 h1 τ T s1 (S.a.ext e1 o1) fun K2 kf=>call9 h1 τ K2 D1 (fun q=>by rw[q] at his;cases his) (fun _ q=>by rw[←key] at q;cases q) (fun _ _ _ h' e' o'=> ?_) (fun _ _ q=>by have:=S.len;have:=S.mo;omega)
  exact kf h' τ D (same (stx (bH e1 e') o') (S.a.ext (bH e1 e') o') (D1.ext e' o')) (St.ext e' o' D1.hi) ht hcv rfl rfl
 ·intro vs his hg hroom h1 τ1 T1 O1 s1 I1 N1
  have D1:=hdof _ _ s1
  rw[hg, ←hof] at key
  refine kk ((T.next+1:Nat):Int) 0 h1 τ1 T1 s1 O1 fun K2 kf=>call9 h1 τ1 K2 D1 (fun q=>by rw[q] at his;cases his) (fun _ q=>by rw[←key] at q;cases q) (fun _ _ q=>by have:=S.len;have:=S.mo;omega) (fun _ _ _ h2 τ2 D2 P2 s2 M2=> ?_)
  obtain⟨ci,hci⟩:=Option.isSome_iff_exists.1 his
  have nd:=(Ei X.hv X.gd ci hci).1
  have hvs:=Ls nd hg
  obtain⟨x,n1,n2,n3,n4,n5,n6⟩:=N1.fs
  obtain⟨y,m1,m2⟩:=M2.fs
  obtain⟨c1,c2,c3,c4,c5⟩:=N1.sc
  obtain⟨d1,d2,d3,d4,d5⟩:=M2.sc
  have hl:(((D.last+1:Nat):Int))=((T.next+1:Nat):Int):=by rw[S.la]
  rw[hl]
  refine kf h2 τ2 D2 ⟨O1.st s2 (by decide),P2,I1, ?_,by rw[d4,c5,S.ck],by rw[d5,c4,S.la],by rw[d3,c3];exact S.mo,by rw[c4];have:=S.nx;omega,by rw[c5];have:=S.cc;omega,fun k z hz=> ?_⟩ s2 (by rw[c2];exact ht) (by rw[d2];exact hcv) c1 d1
  rotate_left
  ·rw[n1] at hz
   rcases List.mem_append.1 hz with hz |hz
   ·exact S.kv k z hz
   ·simp only[List.mem_singleton,Prod.mk.injEq] at hz
    rw[hz.2,n3]
    exact JY (qH hg) fun v hv=>by rw[List.eq_of_mem_replicate hv];rfl
  rw[m1,n1,List.map_append,List.map_append,S.eq,List.map_cons,List.map_nil,List.map_cons,List.map_nil,m2]
  congr 2
  have hvl:vs.length=(fieldsOf cs p.cls).length:=by rw[hvs,List.length_map]
  simp only[pf,n2,n3,n4,n5,n6,S.la,S.ck,PF.mk.injEq,true_and]
  exact⟨hvs.symm,by rw[hvl]⟩
theorem Xp (S:EX cs B b h0 h τ T D i) (X:Hf cs B b h0 tb cv) (ht:T.tb=tb) (hcv:D.cv=cv) {Q:Nat→Prop} (Sq1:Sq Q h sv p.set) (hQ:∀j,Q j→j<h.sz) {sv2:AV} (G:GV h0 sv2 p.set) (hb:∀q∈p.set,jg q.2≤b) (hi:i<400000) (hlen:p.set.length<1000000) (hn:3*B+p.set.length+4000000≤n) (hL:n+200<lim)
 (kk:∀(r:Nat) (e:Int) h1 τ1 T1,St 0 τ τ1 h h1→SO B τ1 0 h0 h1 T1→(∀K2:aC,(∀h2 τ2 D2,EX cs B b h0 h2 τ2 T1 D2 (i+1)→St 1 τ1 τ2 h1 h2→T1.tb=tb→D2.cv=cv→T1.p=T.p→D2.q=D.q→K2 (.tup [.int .u64 (r:Int), .int .i64 e]) h2=true)→aD E (n+8) (.func 11) [.ptr D.q 0 0 0, .int .i64 p.k,sv2] h1 K2=true)→K (.tup [.int .u64 (r:Int), .int .i64 e]) h1=true):
 aD E (n+8) (.func 10) [.ptr T.p 0 0 0, .int .i64 p.k,sv] h K=true:=by
 have hlm:lim=4611686018427387904:=rfl
 have hXB:=X.B
 have hXb:b≤B:=by have:=X.bB;omega
 have fl:=S.fl
 have hof:=of_eq S.eq
 obtain⟨an,asm⟩:=Hq (k:=p.k) S.eq
 have hdof:∀h1 τ1,St 0 τ τ1 h h1→DO B τ1 1 h0 h1 D:=fun h1 τ1 s=>S.d.st s (by decide)
 have stx:∀{h1},Ext h h1→h1.Ok→St 0 τ τ h h1:=fun e o=>St.ext e o S.a.hi
 have same:∀{h1 τ1} (s:St 0 τ τ1 h h1) (O1:SO B τ1 0 h0 h1 T) (D1:DO B τ1 1 h0 h1 D),EX cs B b h0 h1 τ1 T D (i+1):=fun s O1 D1=>⟨O1,D1,S.ia,S.eq,S.ck,S.la,S.mo,Nat.le_succ_of_le S.nx,Nat.le_succ_of_le S.cc,S.kv⟩
 have hvs:∀y∈D.fs,y.vs.length=(fieldsOf cs y.cls).length∧∀v∈y.vs,jg v≤b:=fun y hy=>by
  obtain⟨x,hm,he⟩:=S.fc hy
  obtain⟨f1,f2,f3,f4⟩:=S.ia.fc _ _ hm
  have e1:y.vs=x.vs:=congrArg PF.vs he
  have e2:y.cls=x.cls:=congrArg PF.cls he
  rw[e1,e2];exact⟨f2,f4⟩
 have call11:∀h1 τ1 (K2:aC),DO B τ1 1 h0 h1 D→(qZ p.k (D.fs.map wG)=none→K2 (.tup [.int .u64 0, .int .i64 7]) h1=true)→
  (∀i x,qZ p.k (D.fs.map wG)=some i→D.fs[i]? =some x→om cs (fieldsOf cs x.cls) (xY D.fs) [] p.set=false→∀h',Ext h1 h'→h'.Ok→K2 (.tup [.int .u64 0, .int .i64 11]) h'=true)→
  (∀i x,qZ p.k (D.fs.map wG)=some i→D.fs[i]? =some x→rE cs (fieldsOf cs x.cls) (xY D.fs) p.set 0 x.vs=some x.vs→∀h',Ext h1 h'→h'.Ok→K2 (.tup [.int .u64 0, .int .i64 0]) h'=true)→
  (∀i x vs,qZ p.k (D.fs.map wG)=some i→D.fs[i]? =some x→rE cs (fieldsOf cs x.cls) (xY D.fs) p.set 0 x.vs=some vs→x.vs≠vs→∀h' D',DO B τ1 1 h0 h' D'→St 1 τ1 τ1 h1 h'→aav D D' i x vs→K2 (.tup [.int .u64 ((dm x.vs vs vs.length:Nat):Int), .int .i64 0]) h'=true)→
  aD E (n+8) (.func 11) [.ptr D.q 0 0 0, .int .i64 p.k,sv2] h1 K2=true:=fun h1 τ1 K2 O k0 k1 k2 k3=>
  e11 (n:=n+1) (b:=b) O (by rw[hcv];exact X.c) X.gd X.len X.ld X.f62 G hb X.bB X.B (by omega) (by omega) hvs (by rw[S.ck];have:=S.cc;omega) (by omega) (by omega) k0 k1 k2 k3
 refine adY S.a S.ia (by rw[ht];exact X.tr) X.gd.asc X.len X.f62 Sq1 hQ hb X.bB (by have:=S.nx;omega) (by have:=S.cc;omega) X.B (by omega) hL ?_ ?_ ?_ ?_
 ·intro hx
  have s1:St 0 τ τ h h:=St.refl S.a.ok S.a.hi
  refine kk 0 7 h τ T s1 S.a fun K2 kf=>call11 h τ K2 S.d (fun _=>kf h τ D (same s1 S.a S.d) (St.refl S.d.ok S.d.hi) ht hcv rfl rfl) ?_ ?_ ?_
  ·intro j x hj;obtain⟨x',y,c1,_⟩:=asm j hj;rw[hx] at c1;cases c1
  ·intro j x hj;obtain⟨x',y,c1,_⟩:=asm j hj;rw[hx] at c1;cases c1
  ·intro j x vs hj;obtain⟨x',y,c1,_⟩:=asm j hj;rw[hx] at c1;cases c1
 ·intro x hx hg h1 e1 o1
  have s1:=stx e1 o1
  have D1:=hdof _ _ s1
  have key:=uL cs x.cls (zX T) p.set x.vs
  rw[hg, ←hof] at key
  refine kk 0 11 h1 τ T s1 (S.a.ext e1 o1) fun K2 kf=>call11 h1 τ K2 D1 ?_ ?_ ?_ ?_
  ·intro hn;rw[an hn] at hx;cases hx
  ·intro j y hj hy hs h' e' o'
   exact kf h' τ D (same (stx (bH e1 e') o') (S.a.ext (bH e1 e') o') (D1.ext e' o')) (St.ext e' o' D1.hi) ht hcv rfl rfl
  ·intro j y hj hy hs h' e' o'
   obtain⟨x',y',c1,c2,c3, -, -⟩:=asm j hj
   rw[hx] at c1;cases c1;rw[hy] at c2;cases c2
   have q1:y.vs=x.vs:=congrArg PF.vs c3
   have q2:y.cls=x.cls:=congrArg PF.cls c3
   have:=xw (cs:=cs) (of:=xY D.fs) p.set 0 [] y.vs (Bits.nil (fs:=fieldsOf cs y.cls))
   rw[hs,q2, ←key] at this;cases this
  ·intro j y vs hj hy hs
   obtain⟨x',y',c1,c2,c3, -, -⟩:=asm j hj
   rw[hx] at c1;cases c1;rw[hy] at c2;cases c2
   have q2:y.cls=x.cls:=congrArg PF.cls c3
   have:=xw (cs:=cs) (of:=xY D.fs) p.set 0 [] y.vs (Bits.nil (fs:=fieldsOf cs y.cls))
   rw[hs,q2, ←key] at this;cases this
 ·intro x hx hg h1 e1 o1
  have s1:=stx e1 o1
  have D1:=hdof _ _ s1
  refine kk 0 0 h1 τ T s1 (S.a.ext e1 o1) fun K2 kf=>call11 h1 τ K2 D1 ?_ ?_ ?_ ?_
  ·intro hn;rw[an hn] at hx;cases hx
  ·intro j y hj hy hs
   obtain⟨x',y',c1,c2,c3, -, -⟩:=asm j hj
   rw[hx] at c1;cases c1;rw[hy] at c2;cases c2
   have q2:y.cls=x.cls:=congrArg PF.cls c3
   have key:=uL cs x.cls (zX T) p.set x.vs
   rw[hg, ←hof] at key
   rw[q2, ←key] at hs;cases hs
  ·intro j y hj hy hs h' e' o'
   exact kf h' τ D (same (stx (bH e1 e') o') (S.a.ext (bH e1 e') o') (D1.ext e' o')) (St.ext e' o' D1.hi) ht hcv rfl rfl
  ·intro j y vs hj hy hs hne
   obtain⟨x',y',c1,c2,c3, -, -⟩:=asm j hj
   rw[hx] at c1;cases c1;rw[hy] at c2;cases c2
   have q1:y.vs=x.vs:=congrArg PF.vs c3
   have q2:y.cls=x.cls:=congrArg PF.cls c3
   have hg':=qH hg
   rw[q1,q2,hof,hg'] at hs
   exact absurd (q1.trans (Option.some.inj hs)) hne
 ·intro x vs hx hg hvl hne h1 τ1 T1 O1 s1 I1 U1
  have D1:=hdof _ _ s1
  refine kk (dm x.vs vs vs.length) 0 h1 τ1 T1 s1 O1 fun K2 kf=>call11 h1 τ1 K2 D1 ?_ ?_ ?_ ?_
  ·intro hn;rw[an hn] at hx;cases hx
  ·intro j y hj hy hs
   obtain⟨x',y',c1,c2,c3, -, -⟩:=asm j hj
   rw[hx] at c1;cases c1;rw[hy] at c2;cases c2
   have q2:y.cls=x.cls:=congrArg PF.cls c3
   have key:=uL cs x.cls (zX T) p.set x.vs
   rw[hg, ←hof] at key
   rw[q2, ←key] at hs;cases hs
  ·intro j y hj hy hs
   obtain⟨x',y',c1,c2,c3, -, -⟩:=asm j hj
   rw[hx] at c1;cases c1;rw[hy] at c2;cases c2
   have q1:y.vs=x.vs:=congrArg PF.vs c3
   have q2:y.cls=x.cls:=congrArg PF.cls c3
   have hg':=qH hg
   rw[q1,q2,hof,hg'] at hs
   exact absurd (Option.some.inj hs).symm hne
  ·intro j y ws hj hy hs hne2 h2 D2 P2 s2 M2
   obtain⟨x',y',c1,c2,c3, -,c5⟩:=asm j hj
   rw[hx] at c1;cases c1;rw[hy] at c2;cases c2
   have q1:y.vs=x.vs:=congrArg PF.vs c3
   have q2:y.cls=x.cls:=congrArg PF.cls c3
   have hg':=qH hg
   rw[q1,q2,hof,hg'] at hs
   cases hs
   obtain⟨x1,n1,n2,n3,n4,n5,n6⟩:=U1.fs
   obtain⟨y1,m1,m2⟩:=M2.fs
   obtain⟨d1,d2,d3,d4,d5⟩:=U1.sc
   obtain⟨f1,f2,f3,f4,f5⟩:=M2.sc
   rw[q1]
   refine kf h2 τ1 D2 ⟨O1.st s2 (by decide),P2,I1, ?_,by rw[f4,d5,S.ck],by rw[f5,d4,S.la],by rw[f3,d3];exact S.mo,by rw[d4];exact Nat.le_succ_of_le S.nx,by rw[d5];have:=S.cc;omega,fun k z hz=> ?_⟩ s2 (by rw[d2];exact ht) (by rw[f2];exact hcv) d1 f1
   rotate_left
   ·rw[n1] at hz
    rcases uG hz with hz |hz
    ·cases hz
     rw[n3]
     exact JY hg' (S.kv _ _ (gU hx))
    ·exact S.kv k z hz
   rw[m1,n1]
   refine c5 y1 x1 ?_
   rw[m2]
   have k1:y.k=p.k:=congrArg PF.k c3
   have k3:y.stated=x.stated:=congrArg PF.stated c3
   have k4:y.born=x.born:=congrArg PF.born c3
   have k5:y.stamps=x.stamps:=congrArg PF.stamps c3
   simp only[pf,n2,n3,n4,n5,n6,k1,q1,q2,k3,k4,k5,S.ck]
theorem Yu (S:EX cs B b h0 h τ T D i) (X:Hf cs B b h0 tb cv) (ht:T.tb=tb) (hcv:D.cv=cv) (hi:i<400000) (hn:3*B+4000000≤n) (hL:n+200<lim)
 (kk:∀(e:Int) h1 τ1 T1,St 0 τ τ1 h h1→SO B τ1 0 h0 h1 T1→(∀K2:aC,(∀h2 τ2 D2,EX cs B b h0 h2 τ2 T1 D2 (i+1)→St 1 τ1 τ2 h1 h2→T1.tb=tb→D2.cv=cv→T1.p=T.p→D2.q=D.q→K2 (.int .i64 e) h2=true)→aD E (n+8) (.func 13) [.ptr D.q 0 0 0, .int .i64 p.k] h1 K2=true)→K (.int .i64 e) h1=true):
 aD E (n+8) (.func 12) [.ptr T.p 0 0 0, .int .i64 p.k] h K=true:=by
 have hlm:lim=4611686018427387904:=rfl
 have hXB:=X.B
 have fl:=S.fl
 obtain⟨an,asm⟩:=Hq (k:=p.k) S.eq
 refine aeQ S.a S.ia (by have:=S.nx;omega) (by have:=S.cc;omega) (by omega) (by omega) hL ?_ ?_
 ·intro hx
  have s1:St 0 τ τ h h:=St.refl S.a.ok S.a.hi
  refine kk 7 h τ T s1 S.a fun K2 kf=>e13 (n:=n+5) S.d (by omega) (by rw[S.ck];have:=S.cc;omega) (by omega) (by omega) (fun _=>kf h τ D ⟨S.a,S.d,S.ia,S.eq,S.ck,S.la,S.mo,Nat.le_succ_of_le S.nx,Nat.le_succ_of_le S.cc,S.kv⟩ (St.refl S.d.ok S.d.hi) ht hcv rfl rfl) fun j hj=> ?_
  obtain⟨x',y,c1,_⟩:=asm j hj;rw[hx] at c1;cases c1
 ·intro x hx h1 τ1 T1 O1 s1 I1 N1
  have D1:=S.d.st s1 (by decide)
  refine kk 0 h1 τ1 T1 s1 O1 fun K2 kf=>e13 (n:=n+5) D1 (by omega) (by rw[S.ck];have:=S.cc;omega) (by omega) (by omega) (fun hn=>by rw[an hn] at hx;cases hx) fun j hj h2 τ2 D2 P2 s2 M2=> ?_
  obtain⟨x',y,c1,c2,c3,c4, -⟩:=asm j hj
  obtain⟨d1,d2,d3,d4,d5⟩:=N1.sc
  obtain⟨f1,f2,f3,f4,f5⟩:=M2.sc
  refine kf h2 τ2 D2 ⟨O1.st s2 (by decide),P2,I1, ?_,by rw[f4,d5,S.ck],by rw[f5,d4,S.la],by rw[f3,d3];exact S.mo,by rw[d4];exact Nat.le_succ_of_le S.nx,by rw[d5];have:=S.cc;omega,fun k z hz=>S.kv k z (wK.subset (by rw[N1.fs] at hz;exact hz))⟩ s2 (by rw[d2];exact ht) (by rw[f2];exact hcv) d1 f1
  rw[M2.fs,N1.fs];exact c4
end
theorem aai {o:Option AV} {u:AV} {r:Bool} (e:o=some u) (j:AV.same u u=true) (s:r=true):zf (aB (.bool false) false) o u r=true:=fQ e j s
theorem l80 {B24:F4} {x1 x3 x4 x6:AV} {n b c d:Nat} {hs:aj} {v:AV} {es:List (List AV)} {gs:List (Str×Val)} {K:aC} (L:Db GP c d hs v es gs) (ho:hs.Ok) (hb:∀p∈gs,jg p.2≤b) (hB:b<100000000) (hlen:gs.length<1000000) (hn:b+gs.length+10≤n) (hL:n<lim)
 (kk:∀g,Fr (Au c d) hs g→g.Ok→Nr (aD E (n+1)) (n+1) B24 x1 x3 x4 x6 g K=true):
 DK (aD E (n+1)) (n+1) B24 (n+1) x1 x3 x4 x6 v (.int .i64 0) hs K=true:=by
 have hlm:lim=4611686018427387904:=rfl
 have hel:es.length=gs.length:=L.len
 have hup:=L.up
 obtain⟨reg,r1,r2,r3⟩:=L.g
 suffices H:∀m i g,es.length-i<m→i≤es.length→g.Ok→G8 c d i es reg hs g v→DK (aD E (n+1)) (n+1) B24 m x1 x3 x4 x6 v (.int .i64 (i:Int)) g K=true from
  H (n+1) 0 hs (by omega) (Nat.zero_le _) ho ⟨⟨es,L.own,rfl,fun _ _=>rfl⟩,Fr.refl _ _,fun j _ _=>Kp.refl _ _ _⟩
 intro m
 induction m with
 |zero=>intro i g hm;omega
 |succ m ihm=>
  intro i g hm hi' o R
  obtain⟨es',w1,w2,w3⟩:=R.own
  have hle:dw g 1 v=some (.int .i64 (es.length:Int)):=by rw[w1.len,w2]
  unfold DK Qm
  refine aF hle ?_;refine aT ?_
  by_cases hlt:i<es.length
  rotate_left
  ·refine iF (decide_eq_false (by omega)) ?_
   exact kk g R.fr o
  refine iM (decide_eq_true (by omega)) ?_
  have hx:i<gs.length:=by omega
  have he0:=List.getElem?_eq_getElem hlt
  obtain⟨cc,ea,G⟩:=(r3 i _ _ he0 (List.getElem?_eq_getElem hx)).kp (R.kp i (Nat.le_refl _) hlt)
  have hsz:=hb _ (List.getElem_mem hx)
  have he:es'[i]? =some (.str gs[i].1 :: cc):=by rw[w3 i (Nat.le_refl _),he0,ea]
  obtain⟨id,g0,j,p1,p2⟩:=w1.view.at1 he
  have hc5:=G.now.len5
  have A1:au g true 5 (.ptr id g0 j 1)=some (.agg cc):=by
   rw[p2]
   simp only[iH,cond_true,List.length_cons,hc5]
   rw[bI.2 (Nat.le_refl 6),cond_true,List.drop_succ_cons,List.drop_zero,List.take_of_length_le (by omega)]
  have ri:=r1 i hlt
  have s1:=R.fr.sz
  obtain⟨k',lv,rfl,lf,OW⟩:=G.ow
  refine aF (p1 .i64) ?_;refine aA ?_;refine aF A1 ?_
  refine v45 k' n OW lf o (by have:=ri.2.1;omega) (by omega) (by omega) hL fun g1 f1 o1=> ?_
  obtain⟨id2,gg2,t1,g3,t2,t3,R'⟩:=R.step (x:= .agg [.str [111,118,101,114], .int .i64 0, .bool false, .int .i64 0, .str [], .nilSlc]) L.low r1 r2 hlt he0 (by rw[ea];simp[hc5]) f1 o1 rfl rfl
  refine aF (show eP [.str [], .int .i64 0, .bool false, .int .i64 0, .str [], .nilSlc] [(0,1,(AV.str [111,118,101,114]))]=some (.agg [.str [111,118,101,114], .int .i64 0, .bool false, .int .i64 0, .str [], .nilSlc]) from rfl) ?_;refine aF (t1 .i64) ?_;refine lq t2 ?_;refine aF (dV (i:=i) (by omega)) ?_
  exact ihm (i+1) g3 (by omega) (by omega) t3 R'
section
variable {cs:List Cls} {B b n:Nat} {h0:aj} {tb lv dv nv hv:AV} {mo:Int} {K:aC} {l:List N7} {q pa pb:Nat}
theorem l24 (X:Hf cs B b h0 tb lv) (V1:Var h0 q [lv, .int .i64 mo,dv,nv,hv]) (Dl:OV h0 dv l) (hb:∀p∈l,∀q∈p.set,jg q.2≤b) (hset:∀p∈l,p.set.length<1000000) (hn:3*B+6000000≤n) (hL:n+200<lim)
 (fin:∀h τ T D,EX cs B b h0 h τ T D 30→T.tb=tb→D.cv=lv→T.p=pa→D.q=pb→Fu (aD E (n+8)) (n+8) (.ptr q 0 0 0) (.ptr pa 0 0 0) (.ptr pb 0 0 0) h K=true):
 ∀m i h τ T D,30-i<m→i≤30→EX cs B b h0 h τ T D i→T.tb=tb→D.cv=lv→T.p=pa→D.q=pb→
  zD (aD E (n+8)) (n+8) m (.ptr q 0 0 0) (.ptr pa 0 0 0) (.ptr pb 0 0 0) (.int .i64 (i:Int)) h K=true:=by
 have hlm:lim=4611686018427387904:=rfl
 have hXB:=X.B
 have hXb:b≤B:=by have:=X.bB;omega
 obtain⟨es,W,A⟩:=Dl
 intro m
 induction m with
 |zero=>intro i h τ T D hm;omega
 |succ m ih=>
  intro i h τ T D hm hi S ht hcv hp hq
  have e0:=S.a.e
  have V:=V1.ext e0
  have A2:au h false 1 (.ptr q 0 0 2)=some dv:=V.get rfl
  have len:dw h 1 dv=some (.int .i64 (l.length:Int)):=by rw[(W.ext e0).len,A.length]
  unfold zD RU
  refine aA ?_;refine aF A2 ?_;refine aF len ?_;refine aT ?_
  by_cases hlt:i<l.length
  rotate_left
  ·rw[decide_eq_false (show ¬(i:Int)<(l.length:Int) by omega)]
   refine aG ?_;refine aG ?_;refine bM ?_;refine bO ?_
   exact fin h τ T D (S.up hi) ht hcv hp hq
  rw[decide_eq_true (show(i:Int)<(l.length:Int) by omega)]
  refine aP ?_;refine aI ?_;refine aP ?_;refine aT ?_;refine bQ ?_
  by_cases h30:i<30
  rotate_left
  ·rw[decide_eq_false (show ¬(i:Int)<30 by omega)]
   refine bO ?_
   exact fin h τ T D (S.up hi) ht hcv hp hq
  rw[decide_eq_true (show(i:Int)<30 by omega)]
  obtain⟨ee,he,R⟩:=A.get (List.getElem?_eq_getElem hlt)
  have hbp:=hb _ (List.getElem_mem hlt)
  have hsl:=hset _ (List.getElem_mem hlt)
  generalize l[i]=p at *
  obtain⟨sv,rfl,G⟩:=R
  obtain⟨id,gg,j,u⟩:=W.atE he
  obtain⟨p1,p2⟩:=u h e0
  have lsv:sv.leaf=true:=by obtain⟨_,w,_⟩:=G;exact w.leaf
  have Lo:au h true 5 (.ptr id gg j 0)=some (.agg [.int .i64 p.d, .str p.cls,sv, .int .i64 p.k, .bool p.st]):=by rw[p2];rfl
  refine bN ?_
  unfold Rk
  refine aA ?_;refine aF A2 ?_;refine aF (p1 .i64) ?_;refine aF Lo ?_
  obtain⟨h1,q1,V2,e1,o1,z1⟩:=gW (z:=[AV.int .i64 0, .str [], .nilSlc, .int .i64 0, .bool false]) S.a.ok (by decide) rfl
  refine iW q1 ?_
  obtain⟨h2,w2,V3,b3,o2,z2⟩:=V2.wrs o1 (n:=5) (v:= .agg [.int .i64 p.d, .str p.cls,sv, .int .i64 p.k, .bool p.st]) rfl rfl (by show aV [.int .i64 p.d, .str p.cls,sv, .int .i64 p.k, .bool p.st]=true;simp only[aV,lsv];rfl)
  refine lq w2 ?_
  have V3:Var h2 h.sz [.int .i64 p.d, .str p.cls,sv, .int .i64 p.k, .bool p.st]:=V3
  have e2:Ext h h2:=b3.ext e1 S.a.ok (Nat.le_refl _)
  have S2:=S.ext e2 o2
  have a0:∀{g},Var g h.sz [.int .i64 p.d, .str p.cls,sv, .int .i64 p.k, .bool p.st]→au g false 1 (.ptr h.sz 0 0 0)=some (.int .i64 p.d):=fun V=>V.get rfl
  have a1:∀{g},Var g h.sz [.int .i64 p.d, .str p.cls,sv, .int .i64 p.k, .bool p.st]→au g false 1 (.ptr h.sz 0 0 1)=some (.str p.cls):=fun V=>V.get rfl
  have a2:∀{g},Var g h.sz [.int .i64 p.d, .str p.cls,sv, .int .i64 p.k, .bool p.st]→au g false 1 (.ptr h.sz 0 0 2)=some sv:=fun V=>V.get rfl
  have a3:∀{g},Var g h.sz [.int .i64 p.d, .str p.cls,sv, .int .i64 p.k, .bool p.st]→au g false 1 (.ptr h.sz 0 0 3)=some (.int .i64 p.k):=fun V=>V.get rfl
  have a4:∀{g},Var g h.sz [.int .i64 p.d, .str p.cls,sv, .int .i64 p.k, .bool p.st]→au g false 1 (.ptr h.sz 0 0 4)=some (.bool p.st):=fun V=>V.get rfl
  refine aA ?_;refine aF (a2 V3) ?_
  refine e7 (n:=n+7) (b:=b) (G.ext S2.a.e) o2 hbp (by omega) hsl (by omega) (by omega) fun h3 w es3 e3 o3 L3=> ?_
  have s23:=e3.1
  have hszlt:h.sz<h2.sz:=V3.lt o2
  let τ3:Nat→Tag:=gI τ (Au h2.sz h3.sz) .dat
  have g3:Tg τ τ3 h2 h3:=⟨fun j hj=>dS fun w=>by have:=w.1;omega,fun j hj=>by
   show gI τ _ _ j=_
   rw[dS fun w=>by have:=w.2;omega];exact S2.a.hi j (by omega)⟩
  have S3:EX cs B b h0 h3 τ3 T D i:=S2.fr (X:=fun _=>False) (Fr.of_ext e3) o3 (fun _ x=>x.elim) g3
  have V4:=V3.ext e3
  have tdat:∀j,Au h2.sz h3.sz j→τ3 j= .dat:=fun j w=>gL w
  have tout:τ3 h.sz= .out:=by
   show gI τ _ _ _=_
   rw[dS fun w=>by have:=w.1;omega];exact S.a.hi _ (Nat.le_refl _)
  have Q3:Sq (Au h2.sz h3.sz) h3 w p.set:=L3.sq
  have after:∀h4 τ4 T1 h5 τ5 D5,St 0 τ3 τ4 h3 h4→St 1 τ4 τ5 h4 h5→EX cs B b h0 h5 τ5 T1 D5 (i+1)→T1.tb=tb→D5.cv=lv→T1.p=T.p→D5.q=D.q→
   Eu (aD E (n+8)) (n+8) (fun x1 x3 x4 x6 h=>zD (aD E (n+8)) (n+8) m x1 x3 x4 x6 h K) (.ptr q 0 0 0) (.ptr pa 0 0 0) (.ptr pb 0 0 0) (.int .i64 (i:Int)) w h5 K=true:=by
   intro h4 τ4 T1 h5 τ5 D5 s4 s5 S5 t1 t2 t3 t4
   unfold Eu
   have t45:∀j,Au h2.sz h3.sz j→τ4 j= .dat:=fun j w=>by rw[s4.old j w.2];exact tdat j w
   have t55:∀j,Au h2.sz h3.sz j→τ5 j= .dat:=fun j w=>by rw[s5.old j (by have:=s4.fr.sz;have:=w.2;omega)];exact t45 j w
   have k5:Kp h2.sz h3.sz h3 h5:=(Kp.of_fr s4.fr fun j ⟨t,x⟩ w=>by rw[tdat j w] at x;cases x).trans (Kp.of_fr s5.fr fun j ⟨t,x⟩ w=>by rw[t45 j w] at x;cases x)
   have L5:=L3.kp GP.kp k5 (Nat.le_trans s4.fr.sz s5.fr.sz)
   refine l80 (n:=n+7) (b:=b) L5 S5.a.ok hbp (by omega) hsl (by omega) (by omega) fun g f og=> ?_
   have S6:EX cs B b h0 g τ5 T1 D5 (i+1):=S5.fr f og t55 (S5.a.tg f.sz)
   have hp':T1.p=pa:=t3.trans hp
   have hq':D5.q=pb:=t4.trans hq
   unfold Nr
   have L2:au g false 1 (.ptr pb 0 0 2)=some D5.lv:=by rw[←hq'];exact S6.d.l2
   have L3':au g false 1 (.ptr pb 0 0 3)=some (.int .i64 (T1.clock:Int)):=by rw[←hq', ←S6.ck];exact S6.d.l3
   have slv:AV.same D5.lv D5.lv=true:=S6.d.l.view.same
   refine aN ?_;refine aA ?_;refine aF L2 ?_;refine aF S6.d.len ?_
   have c15:=aei (n:=n+7) (K:=fun v68 h=>fA (au h false 1 (.ptr pb 0 0 2)) D5.lv <| fA (dw h 1 D5.lv) (.int .i64 (D5.fs.length:Int)) <| ah (aR .neq v68 (.int .i64 (D5.fs.length:Int))) fun v69=>ah (aQ (aB v69 false) (some (.ptr pa 0 0 0))) fun v70=>ah (aQ (aB v69 false) (some (.ptr pb 0 0 0))) fun v71=>ah (aQ (aB v69 false) (bK v71)) fun v72=>ah (aQ (aB v69 false) (aH 3 v72)) fun v73=>ah (aQ (aB v69 false) (au h false 1 v73)) fun v74=>ji (aB v69 false) (fun k=>(aD E (n+8)) (.func 16) [v70] h k) h fun v75 h=>zf (aB v69 false) (au h false 1 v73) v74 <| ah (aQ (aB v69 false) (aR .neq v75 v74)) fun v76=>ah (cB v69 (.bool true) v76) fun v77=>aZ v77 (K (.bool false) h) (CG (aD E (n+8)) (n+8) (fun x1 x3 x4 x6 h=>zD (aD E (n+8)) (n+8) m x1 x3 x4 x6 h K) (.ptr q 0 0 0) (.ptr pa 0 0 0) (.ptr pb 0 0 0) (.int .i64 (i:Int)) h K)) S6.a ?_
   ·rw[hp'] at c15;exact c15
   ·refine fQ L2 slv ?_
    refine fQ S6.d.len (oJ _ _) ?_
    have hle:((T1.fs.length:Nat):Int)=(D5.fs.length:Int):=by rw[S6.len]
    refine aY ?_
    rw[show(!decide ((T1.fs.length:Int)=(D5.fs.length:Int)))=false by rw[hle];simp]
    refine aU ?_;refine aI ?_;refine aU ?_;refine aI ?_;refine aU ?_;refine aN ?_;refine aU ?_;refine aA ?_;refine aU ?_;refine aF L3' ?_;refine bF ?_
    have c16:=acp (n:=n+7) (K:=fun v75 h=>zf (aB (.bool false) false) (au h false 1 (.ptr pb 0 0 3)) (.int .i64 (T1.clock:Int)) <| ah (aQ (aB (.bool false) false) (aR .neq v75 (.int .i64 (T1.clock:Int)))) fun v76=>ah (cB (.bool false) (.bool true) v76) fun v77=>aZ v77 (K (.bool false) h) (CG (aD E (n+8)) (n+8) (fun x1 x3 x4 x6 h=>zD (aD E (n+8)) (n+8) m x1 x3 x4 x6 h K) (.ptr q 0 0 0) (.ptr pa 0 0 0) (.ptr pb 0 0 0) (.int .i64 (i:Int)) h K)) S6.a ?_
    ·rw[hp'] at c16;exact c16
    ·refine aai L3' (oJ _ _) ?_
     refine aU ?_;refine aY ?_;refine bM ?_
     rw[show(!decide ((T1.clock:Int)=(T1.clock:Int)))=false by simp]
     refine bO ?_
     unfold CG
     refine aF (dV (i:=i) (by omega)) ?_
     exact ih (i+1) g τ5 T1 D5 (by omega) (by omega) S6 t1 t2 hp' hq'
  refine aA ?_;refine aF (a0 V4) ?_;refine aX ?_
  have hQlt:∀j,Au h2.sz h3.sz j→j<h3.sz:=fun j w=>w.2
  by_cases d0:p.d=0
  ·rw[decide_eq_true d0]
   refine bN ?_;refine aA ?_;refine aF (a1 V4) ?_;refine aA ?_;refine aF (a4 V4) ?_
   rw[←hp]
   refine WA (n:=n) S3 X ht hcv Q3 hQlt G hbp (by omega) hsl (by omega) hL fun r e h4 τ4 T1 s4 O4 cont=> ?_
   have V5:=s4.var S3.a V4 tout
   refine aJ ?_;refine aK ?_;refine aA ?_;refine aF (a1 V5) ?_;refine aA ?_;refine aF (a2 V5) ?_;refine aA ?_;refine aF (a4 V5) ?_
   rw[←hq]
   refine cont _ fun h5 τ5 D5 S5 s5 t1 t2 t3 t4=> ?_
   have af:=after h4 τ4 T1 h5 τ5 D5 s4 s5 S5 t1 t2 t3 t4
   refine aJ ?_;refine aK ?_;refine aY ?_
   rw[show(!decide (r=r))=false by simp]
   refine aU ?_;refine aI ?_;refine aU ?_;refine aI ?_;refine aU ?_;refine aY ?_;refine bM ?_
   rw[show(!decide (e=e))=false by simp]
   refine bO ?_
   rw[hp,hq];exact af
  rw[decide_eq_false d0]
  refine bO ?_;refine aX ?_
  by_cases d1:p.d=1
  ·rw[decide_eq_true d1]
   refine bN ?_;refine aA ?_;refine aF (a3 V4) ?_
   rw[←hp]
   refine Xp (n:=n) S3 X ht hcv Q3 hQlt G hbp (by omega) hsl (by omega) hL fun r e h4 τ4 T1 s4 O4 cont=> ?_
   have V5:=s4.var S3.a V4 tout
   refine aJ ?_;refine aK ?_;refine aA ?_;refine aF (a3 V5) ?_;refine aA ?_;refine aF (a2 V5) ?_
   rw[←hq]
   refine cont _ fun h5 τ5 D5 S5 s5 t1 t2 t3 t4=> ?_
   have af:=after h4 τ4 T1 h5 τ5 D5 s4 s5 S5 t1 t2 t3 t4
   refine aJ ?_;refine aK ?_;refine aY ?_
   rw[show(!decide ((r:Int)=(r:Int)))=false by simp]
   refine aU ?_;refine aI ?_;refine aU ?_;refine aI ?_;refine aU ?_;refine aY ?_;refine bM ?_
   rw[show(!decide (e=e))=false by simp]
   refine bO ?_
   rw[hp,hq];exact af
  ·rw[decide_eq_false d1]
   refine bO ?_;refine aA ?_;refine aF (a3 V4) ?_;refine aA ?_;refine aF (a3 V4) ?_
   rw[←hp]
   refine Yu (n:=n) S3 X ht hcv (by omega) (by omega) hL fun e h4 τ4 T1 s4 O4 cont=> ?_
   have V5:=s4.var S3.a V4 tout
   refine fQ (a3 V5) (oJ _ _) ?_
   rw[←hq]
   refine cont _ fun h5 τ5 D5 S5 s5 t1 t2 t3 t4=> ?_
   have af:=after h4 τ4 T1 h5 τ5 D5 s4 s5 S5 t1 t2 t3 t4
   refine aY ?_
   rw[show(!decide (e=e))=false by simp]
   refine bO ?_
   rw[hp,hq];exact af
end
abbrev NS:Str:=[110,111,32,99,108,97,115,115]
theorem LH {cs:List Cls} (hv:valid cs=true):idx NS (names cs)=none:=by
 cases hx:idx NS (names cs) with
 |none=>rfl
 |some i=>
  obtain⟨c,hc,hcn⟩:=nE hx
  have h1:=(wO hv hc).1
  simp only[l9,Bool.and_eq_true] at h1
  have h2:=h1.1.1.1.1
  rw[hcn] at h2
  exact absurd h2 (by decide)
section
variable {cs:List Cls} {B b i n:Nat} {h0 h h':aj} {τ:Nat→Tag} {T:SD} {D:DD} {tb cv:AV} {K:aC}
theorem EX.ext_eq (S:EX cs B b h0 h τ T D i) (s:Str):EY cs T s=Ca cs D.fs s:=by
 have e1:EY cs T s=((T.fs.map pf).filter fun f=>zM cs f.cls s).map PF.k:=by
  rw[List.filter_map,List.map_map];rfl
 have e2:Ca cs D.fs s=((D.fs.map GR).filter fun f=>zM cs f.cls s).map PF.k:=by
  rw[List.filter_map,List.map_map];rfl
 rw[e1,e2,S.eq]
theorem EX.keys (S:EX cs B b h0 h τ T D i):D.fs.map DF.k=T.fs.map fun p=>p.1:=by
 have:=congrArg (List.map PF.k) S.eq
 rw[List.map_map,List.map_map] at this
 exact this
theorem EX.lk (S:EX cs B b h0 h τ T D i) {y:DF} (hy:y∈D.fs):∃x,jm T.fs y.k=some x∧(y.k,x)∈T.fs∧GR y=pf (y.k,x):=by
 obtain⟨x,hm,he⟩:=S.fc hy
 exact⟨x,mR S.a.nf hm,hm,he⟩
theorem EX.back (S:EX cs B b h0 h τ T D i) {k:Int} {x:FD} (hx:jm T.fs k=some x):∃y∈D.fs,GR y=pf (k,x):=by
 have:pf (k,x)∈D.fs.map GR:=by rw[S.eq];exact List.mem_map_of_mem (gU hx)
 obtain⟨y,hy,he⟩:=List.mem_map.1 this
 exact⟨y,hy,he⟩
theorem EX.vv (S:EX cs B b h0 h τ T D i) {y:DF} (hy:y∈D.fs):VV h y.vv y.vs:=by
 obtain⟨es,V,A⟩:=(S.d.f y hy).vals
 exact⟨es,V.view,A.mono fun _ _ r=>r.now⟩
theorem EX.ck9 (S:EX cs B b h0 h τ T D i) {y:DF} (hy:y∈D.fs):∀v∈y.vs,pE 30 v=true:=by
 obtain⟨x,h1,h2,h3⟩:=S.lk hy
 have e:y.vs=x.vs:=congrArg PF.vs h3
 rw[e];exact S.kv _ _ h2
theorem EX.eql_eq (S:EX cs B b h0 h τ T D i) {y:DF} (hy:y∈D.fs):eql T y.cls y.vs=yj D.fs y.cls y.vs:=by
 have hs:N8 (yj D.fs y.cls y.vs):=by
  have h1:=S.ia.ks
  rw[←S.keys] at h1
  exact h1.sublist (List.filter_sublist.map _)
 refine zO (UD S.a) hs fun k=> ?_
 rw[Ny,S.ia.rw]
 unfold yj
 simp only[List.mem_map,List.mem_filter,decide_eq_true_eq]
 constructor
 ·rintro⟨x,hx,hk⟩
  obtain⟨z,hz,he⟩:=S.back hx
  have e1:z.cls=x.cls:=congrArg PF.cls he
  have e2:z.vs=x.vs:=congrArg PF.vs he
  have e3:z.k=k:=congrArg PF.k he
  have hk:(x.cls,nV x.vs)=(y.cls,nV y.vs):=hk
  injection hk with k1 k2
  rw[←e2] at k2
  exact⟨z,⟨hz,by rw[e1];exact k1,U6 (S.vv hz) (S.vv hy) (S.ck9 hz) (S.ck9 hy) k2⟩,e3⟩
 ·rintro⟨z,⟨hz,e1,e2⟩,rfl⟩
  obtain⟨x,h1,h2,h3⟩:=S.lk hz
  refine⟨x,h1, ?_⟩
  have c1:z.cls=x.cls:=congrArg PF.cls h3
  have c2:z.vs=x.vs:=congrArg PF.vs h3
  show(x.cls,nV x.vs)=(y.cls,nV y.vs)
  rw[←c1, ←c2,e1,e2]
theorem EX.eql_none (S:EX cs B b h0 h τ T D i) (hv:valid cs=true) (l:List Val):eql T NS l=[]:=by
 rw[List.eq_nil_iff_forall_not_mem]
 intro y hy
 rw[Ny,S.ia.rw] at hy
 obtain⟨x,hx,hk⟩:=hy
 have hk:(x.cls,nV x.vs)=(NS,nV l):=hk
 injection hk with k1 k2
 have:=(S.ia.fc y x (gU hx)).1
 rw[k1,LH hv] at this;cases this
theorem EX.fit (S:EX cs B b h0 h τ T D i) (X:Hf cs B b h0 tb cv) {y:DF} (hy:y∈D.fs):fit B (GR y):=by
 have F:=S.d.f y hy
 obtain⟨x,h1,h2,h3⟩:=S.lk hy
 obtain⟨f1,f2,f3,f4⟩:=S.ia.fc _ _ h2
 have c2:y.stamps=x.stamps:=congrArg PF.stamps h3
 have:=X.f62 x.cls
 have:=X.bB
 have:=X.b1
 exact⟨F.sz,by show y.stamps.length≤B;rw[c2,f3,f2];omega⟩
theorem DO.rf (O:DO B τ 1 h0 h D) {y:DF} (hy:y∈D.fs):RF h (zQ y) (GR y):=by
 obtain⟨es,V,A⟩:=(O.f y hy).vals
 exact⟨y.vv,y.sv,rfl,⟨es,V.view,A.mono fun _ _ r=>r.now⟩,(O.f y hy).st.view⟩
theorem DO.fv (O:DO B τ 1 h0 h D):FV h D.lv (D.fs.map GR):=by
 refine⟨_,O.l.view,wT (by simp) fun i a f ha hf=> ?_⟩
 rw[List.getElem?_map] at ha hf
 cases hy:D.fs[i]? with
 |none=>rw[hy] at ha;cases ha
 |some y=>
  rw[hy] at ha hf
  cases ha;cases hf
  exact O.rf (List.mem_of_getElem? hy)
theorem Np (h:aj):RF h zF ⟨0,[],[],false,0,[]⟩:=⟨.nilSlc, .nilSlc,rfl,⟨[],View.nil _ _, .nil⟩,View.nil _ _⟩
theorem e20 {lv dv nv hv:AV} {mo:Int} {ns:List Str} {hs:List Int} {en:List (List AV)} (S:EX cs B b h0 h τ T D i) (X:Hf cs B b h0 tb cv) (ht:T.tb=tb) (hcv:D.cv=cv) (Vn:View h0 1 nv en) (Nn:Named en ns) (Vh:View h0 1 hv (ints hs)) (hlf:aV [lv, .int .i64 mo,dv,nv,hv]=true) (hi:i<400000) (hn:3*B+6000000≤n) (hL:n+200<lim)
 (kk:∀h',Ext h h'→h'.Ok→K (.bool true) h'=true):aD E (n+8) (.func 20) [.agg [lv, .int .i64 mo,dv,nv,hv], .ptr T.p 0 0 0, .ptr D.q 0 0 0] h K=true:=by
 have hlm:lim=4611686018427387904:=rfl
 have hXB:=X.B
 have hXb:b≤B:=by have:=X.bB;omega
 have fl:=S.fl
 have hnx:=S.nx
 apply d20
 unfold s20
 obtain⟨h1,q1,V1,e1,o1,z1⟩:=kZ (n:=5) (v:= .agg [lv, .int .i64 mo,dv,nv,hv]) S.a.ok rfl (by decide) hlf
 have V1:Var h1 h.sz [lv, .int .i64 mo,dv,nv,hv]:=V1
 refine iW q1 ?_
 have A3:∀{g},Ext h1 g→au g false 1 (.ptr h.sz 0 0 3)=some nv:=fun e=>(V1.ext e).get rfl
 have A4:∀{g},Ext h1 g→au g false 1 (.ptr h.sz 0 0 4)=some hv:=fun e=>(V1.ext e).get rfl
 have z0:=S.a.e.1
 have s1:=e1.1
 have part3:∀(m j:Nat) (g:aj),20-j<m→j≤20→Ext h1 g→g.Ok→CP (aD E (n+7)) (n+7) m (.ptr T.p 0 0 0) (.ptr D.q 0 0 0) (.ptr h.sz 0 0 0) (.int .i64 (j:Int)) g K=true:=by
  intro m
  induction m with
  |zero=>intro j g hm;omega
  |succ m ih=>
   intro j g hm hj e ok
   have ehg:=bH e1 e
   have Sg:=S.ext ehg ok
   have e0g:Ext h0 g:=Sg.a.e
   have len:dw g 1 hv=some (.int .i64 (hs.length:Int)):=by have:=(Vh.ext e0g).len;rwa [dN] at this
   unfold CP Li
   refine aA ?_;refine aF (A4 e) ?_;refine aF len ?_;refine aT ?_
   by_cases hlt:j<hs.length
   rotate_left
   ·rw[decide_eq_false (show ¬(j:Int)<(hs.length:Int) by omega)]
    refine aG ?_;refine aG ?_;refine bM ?_;refine bO ?_
    exact kk g ehg ok
   rw[decide_eq_true (show(j:Int)<(hs.length:Int) by omega)]
   refine aP ?_;refine aI ?_;refine aP ?_;refine aT ?_;refine bQ ?_
   by_cases h20:j<20
   rotate_left
   ·rw[decide_eq_false (show ¬(j:Int)<20 by omega)]
    refine bO ?_
    exact kk g ehg ok
   rw[decide_eq_true (show(j:Int)<20 by omega)]
   obtain⟨id,gg,jj,hat⟩:=Vh.atE (qD hlt)
   obtain⟨p1,p2⟩:=hat g e0g
   have L1:au g false 1 (.ptr id gg jj 0)=some (.int .i64 hs[j]):=by rw[p2];rfl
   refine bN ?_;refine aA ?_;refine aF (A4 e) ?_;refine aF (p1 .i64) ?_;refine aF L1 ?_
   obtain⟨an,asm⟩:=Hq (k:=hs[j]) S.eq
   refine ZQ (n:=n+4) Sg.a (fun x hx=>by
    obtain⟨f1,f2,f3,f4⟩:=S.ia.fc _ _ (gU hx)
    have:=X.f62 x.cls
    omega) X.B (by omega) (by omega) ?_ ?_
   ·intro hx g2 e2 o2
    refine aJ ?_;refine aK ?_
    obtain⟨g3,w3,V3,e3,o3,z3⟩:=gW (z:=[AV.int .i64 0, .str [], .nilSlc, .bool false, .int .i64 0, .nilSlc]) o2 (by decide) rfl
    refine iW w3 ?_
    obtain⟨g4,w4,V4,b4,o4,z4⟩:=V3.wrs o3 (n:=6) (v:= .agg zF) rfl rfl rfl
    refine lq w4 ?_
    have V4:Var g4 g2.sz zF:=V4
    have e24:Ext g2 g4:=b4.ext e3 o2 (Nat.le_refl _)
    have eg4:=bH e2 e24
    have S4:=Sg.ext eg4 o4
    obtain⟨p3,p4⟩:=hat g4 (bH e0g eg4)
    have L2:au g4 false 1 (.ptr id gg jj 0)=some (.int .i64 hs[j]):=by rw[p4];rfl
    refine aN ?_;refine aA ?_;refine aF S4.d.l2 ?_;refine aA ?_;refine aF (A4 (bH e eg4)) ?_;refine aF (p3 .i64) ?_;refine aF L2 ?_
    refine u26 (n:=n+6) S4.d.fva (by rw[List.length_map];omega) (by omega) ?_
    have ha:qZ hs[j] (D.fs.map wG)=none:=by
     cases hq:qZ hs[j] (D.fs.map wG) with
     |none=>rfl
     |some r=>obtain⟨x',y',c1,_⟩:=asm r hq;rw[hx] at c1;cases c1
    rw[ha,show fint none= -1 from rfl]
    refine bg ?_
    rw[show decide ((0:Int)≤ -1)=false from rfl]
    refine aF (show ru g4 true .bool (.bool false) (.bool false)=some (.bool false) from rfl) ?_;refine aU ?_;refine aI ?_;refine aU ?_;refine aM ?_;refine aU ?_;refine aI ?_;refine aP ?_
    have L6:au g4 true 6 (.ptr g2.sz 0 0 0)=some (.agg zF):=V4.all rfl
    refine aF L6 ?_;refine aP ?_;refine aF (show eP [.int .i64 0, .str [], .nilSlc, .bool false, .int .i64 0, .nilSlc] []=some (.agg zF) from rfl) ?_;refine bf ?_
    refine Xm (n:=n+5) (b:=0) o4 (Np _) (Np _) ⟨by simp[fU],by simp⟩ (by omega) (by omega) (by omega) fun g5 r e5 o5 hr=> ?_
    have:r=true:=hr.2 rfl
    subst this
    refine aP ?_;refine aL ?_;refine aU ?_;refine bQ ?_;refine bM ?_;refine bO ?_;refine aF (dV (i:=j) (by omega)) ?_
    exact ih (j+1) g5 (by omega) (by omega) (bH e (bH eg4 e5)) o5
   ·intro x hx g2 vv sv e2 o2 Dt
    obtain⟨lo,q1',q2',Tx⟩:=Dt.tf (k:=hs[j])
    obtain⟨t2,t3⟩:=Tx.cells
    refine aJ ?_;refine aK ?_
    obtain⟨g3,w3,V3,e3,o3,z3⟩:=gW (z:=[AV.int .i64 0, .str [], .nilSlc, .bool false, .int .i64 0, .nilSlc]) o2 (by decide) rfl
    refine iW w3 ?_
    obtain⟨g4,w4,V4,b4,o4,z4⟩:=V3.wrs o3 (n:=6) (v:= .agg [.int .i64 hs[j], .str x.cls,vv, .bool x.stated, .int .i64 (x.born:Int),sv]) t2 rfl t3
    refine lq w4 ?_
    have e24:Ext g2 g4:=b4.ext e3 o2 (Nat.le_refl _)
    have eg4:=bH e2 e24
    have S4:=Sg.ext eg4 o4
    obtain⟨p3,p4⟩:=hat g4 (bH e0g eg4)
    have L2:au g4 false 1 (.ptr id gg jj 0)=some (.int .i64 hs[j]):=by rw[p4];rfl
    refine aN ?_;refine aA ?_;refine aF S4.d.l2 ?_;refine aA ?_;refine aF (A4 (bH e eg4)) ?_;refine aF (p3 .i64) ?_;refine aF L2 ?_
    refine u26 (n:=n+6) S4.d.fva (by rw[List.length_map];omega) (by omega) ?_
    cases hq:qZ hs[j] (D.fs.map wG) with
    |none=>rw[an hq] at hx;cases hx
    |some r=>
     rw[show fint (some r)=(r:Int) from rfl]
     refine bg ?_
     rw[decide_eq_true (show(0:Int)≤(r:Int) by omega)]
     refine aF (show ru g4 true .bool (.bool true) (.bool true)=some (.bool false) from rfl) ?_;refine aU ?_;refine aI ?_;refine aU ?_;refine aL ?_;refine aU ?_;refine aI ?_;refine aG ?_;refine aG ?_;refine aW ?_;refine aG ?_;refine aU ?_;refine bM ?_;refine bM ?_;refine bO ?_
     refine aF (dV (i:=j) (by omega)) ?_
     exact ih (j+1) g4 (by omega) (by omega) (bH e eg4) o4
 have part2:∀(m j:Nat) (g:aj),20-j<m→j≤20→Ext h1 g→g.Ok→Cq (aD E (n+7)) (n+7) m (.ptr T.p 0 0 0) (.ptr D.q 0 0 0) (.ptr h.sz 0 0 0) (.int .i64 (j:Int)) g K=true:=by
  intro m
  induction m with
  |zero=>intro j g hm;omega
  |succ m ih=>
   intro j g hm hj e ok
   have ehg:=bH e1 e
   have Sg:=S.ext ehg ok
   have p64:Fa (aD E (n+7)) (n+7) (.ptr T.p 0 0 0) (.ptr D.q 0 0 0) (.ptr h.sz 0 0 0) g K=true:=by
    unfold Fa
    exact part3 (n+7) 0 g (by omega) (Nat.zero_le _) e ok
   unfold Cq Kt
   refine aN ?_;refine aA ?_;refine aF Sg.d.l2 ?_;refine aF Sg.d.len ?_;refine aT ?_
   by_cases hlt:j<D.fs.length
   rotate_left
   ·rw[decide_eq_false (show ¬(j:Int)<(D.fs.length:Int) by omega)]
    refine aG ?_;refine aG ?_;refine bM ?_;refine bO ?_
    exact p64
   rw[decide_eq_true (show(j:Int)<(D.fs.length:Int) by omega)]
   refine aP ?_;refine aI ?_;refine aP ?_;refine aT ?_;refine bQ ?_
   by_cases h20:j<20
   rotate_left
   ·rw[decide_eq_false (show ¬(j:Int)<20 by omega)]
    refine bO ?_
    exact p64
   rw[decide_eq_true (show(j:Int)<20 by omega)]
   have hgi:=List.getElem?_eq_getElem hlt
   have hy:=List.getElem_mem hlt
   generalize D.fs[j]=y at *
   obtain⟨x,hx1,hx2,hx3⟩:=S.lk hy
   have hck:=S.ck9 hy
   have hvB:=(S.d.f y hy).sz
   have heq:=S.eql_eq hy
   have hlenE:(eql T y.cls y.vs).length≤i:=by
    rw[heq];unfold yj;rw[List.length_map]
    exact Nat.le_trans (List.length_filter_le _ _) fl
   have hne:(eql T y.cls y.vs).length≠0:=by
    rw[heq];unfold yj;rw[List.length_map]
    have:y∈D.fs.filter fun x=>decide (x.cls=y.cls∧x.vs=y.vs):=by simp[hy]
    exact fun w=>by rw[List.eq_nil_of_length_eq_zero w] at this;cases this
   have cell:∀{g'},Ext g g'→g'.Ok→∃id gg jj,(∀k,bS g' 6 D.lv (.int k (j:Int))=some (.ptr id gg jj 0))∧∀ag off m,au g' ag m (.ptr id gg jj off)=iH ag off m (zQ y):=fun e' o'=>(Sg.ext e' o').d.cell hgi
   refine bN ?_;refine aN ?_;refine aA ?_
   obtain⟨i1,j1,k1,a1,b1⟩:=cell (Ext.refl g) ok
   have L1:au g false 1 (.ptr i1 j1 k1 1)=some (.str y.cls):=by rw[b1];rfl
   have L2:au g false 1 (.ptr i1 j1 k1 2)=some y.vv:=by rw[b1];rfl
   refine aF Sg.d.l2 ?_;refine aF (a1 .i64) ?_;refine aA ?_;refine aF L1 ?_;refine aN ?_;refine aA ?_;refine aF Sg.d.l2 ?_;refine aF (a1 .i64) ?_;refine aA ?_;refine aF L2 ?_
   refine ZG (n:=n+1) Sg.a S.ia (Sg.vv hy) hck (by omega) (by omega) (by omega) (by omega) fun g2 w e2 o2 W r2=> ?_
   have S2:=Sg.ext e2 o2
   obtain⟨i2,j2,k2,a2,b2⟩:=cell e2 o2
   have M1:au g2 false 1 (.ptr i2 j2 k2 1)=some (.str y.cls):=by rw[b2];rfl
   have M2:au g2 false 1 (.ptr i2 j2 k2 2)=some y.vv:=by rw[b2];rfl
   refine aN ?_;refine aA ?_;refine aF S2.d.l2 ?_;refine aF (a2 .i64) ?_;refine aA ?_;refine aF M1 ?_;refine aN ?_;refine aA ?_;refine aF S2.d.l2 ?_;refine aF (a2 .i64) ?_;refine aA ?_;refine aF M2 ?_
   refine e49 (n:=n+4) S2.d (fun h' e'=>(S2.vv hy).ext e') X.B hvB (by omega) (by omega) (by omega) fun g3 w2 e3 o3 W2=> ?_
   have OW:OM g2 1 w (ints (eql T y.cls y.vs)):=W
   have OW3:=OW.ext e3
   have s2:=e2.1
   have s3:=e3.1
   refine WQ (n:=n+6) OW3.view W2.view (by omega) (by omega) fun r hr=> ?_
   have:r=true:=hr.2 heq
   subst this
   have lw:dw g3 1 w=some (.int .i64 ((eql T y.cls y.vs).length:Int)):=by have:=OW3.len g3;rwa [dN] at this
   refine aL ?_;refine aU ?_;refine aI ?_;refine aU ?_;refine aF lw ?_;refine aU ?_;refine aX ?_;refine bM ?_
   rw[decide_eq_false (show ¬((eql T y.cls y.vs).length:Int)=0 by omega)]
   have e13:=bH e2 e3
   have S3:=Sg.ext e13 o3
   obtain⟨i3,j3,k3,a3,b3⟩:=cell e13 o3
   have N2:au g3 false 1 (.ptr i3 j3 k3 2)=some y.vv:=by rw[b3];rfl
   refine aU ?_;refine aI ?_;refine aU ?_;refine aI ?_;refine aU ?_;refine aN ?_;refine aU ?_;refine aA ?_;refine aU ?_;refine aF S3.d.l2 ?_;refine aU ?_;refine aI ?_;refine aU ?_;refine aF (a3 .i64) ?_;refine aU ?_;refine aA ?_;refine aU ?_;refine aF N2 ?_;refine bF ?_
   refine ZG (n:=n+1) S3.a S.ia (S3.vv hy) hck (by omega) (by omega) (by omega) (by omega) fun g4 w3 e4 o4 W3 r4=> ?_
   rw[S.eql_none X.hv] at W3
   have OW4:OM g4 1 w3 (ints []):=W3
   have lw3:dw g4 1 w3=some (.int .i64 ((0:Nat):Int)):=OW4.len g4
   refine aU ?_;refine aF lw3 ?_;refine aU ?_;refine bE ?_;refine bM ?_
   rw[show decide ((0:Int)<((0:Nat):Int))=false from rfl]
   refine bO ?_
   have s4:=e4.1
   refine e44 (n:=n+6) (lo:=g.sz) (hi:=g4.sz) (OW3.ext e4) (fun e he=>by
    obtain⟨y,_,rfl⟩:=List.mem_map.1 he;rfl) (fun q hq=>⟨r2 q hq,by have:=OW.lt o2 hq;omega⟩) (Nat.le_refl _) o4 (by rw[dN];omega) (by rw[dN];omega) (by omega) fun g5 f5 o5=> ?_
   have e15:Ext g g5:=f5.ext (bH e13 e4) ok fun q w=>w.1
   have S5:=Sg.ext e15 o5
   obtain⟨i5,j5,k5,a5,b5⟩:=cell e15 o5
   have P0:au g5 false 1 (.ptr i5 j5 k5 0)=some (.int .i64 y.k):=by rw[b5];rfl
   refine aN ?_;refine aA ?_;refine aF S5.d.l2 ?_;refine aF (a5 .i64) ?_;refine aA ?_;refine aF P0 ?_
   refine ZQ (n:=n+4) S5.a (fun x hx=>by
    obtain⟨f1,f2,f3,f4⟩:=S.ia.fc _ _ (gU hx)
    have:=X.f62 x.cls
    omega) X.B (by omega) (by omega) (fun hx=>by rw[hx1] at hx;cases hx) fun x' hx' g6 vv sv e6 o6 Dt=> ?_
   rw[hx1] at hx';cases hx'
   obtain⟨lo,c1,c2,Tx⟩:=Dt.tf (k:=y.k)
   obtain⟨t2,t3⟩:=Tx.cells
   refine aJ ?_;refine aK ?_
   obtain⟨g7,w7,V7,e7',o7,z7⟩:=gW (z:=[AV.int .i64 0, .str [], .nilSlc, .bool false, .int .i64 0, .nilSlc]) o6 (by decide) rfl
   refine iW w7 ?_
   obtain⟨g8,w8,V8,b8,o8,z8⟩:=V7.wrs o7 (n:=6) (v:= .agg [.int .i64 y.k, .str x.cls,vv, .bool x.stated, .int .i64 (x.born:Int),sv]) t2 rfl t3
   refine lq w8 ?_
   have V8:Var g8 g6.sz [.int .i64 y.k, .str x.cls,vv, .bool x.stated, .int .i64 (x.born:Int),sv]:=V8
   have e68:Ext g6 g8:=b8.ext e7' o6 (Nat.le_refl _)
   have e18:Ext g g8:=bH (bH e15 e6) e68
   have S8:=Sg.ext e18 o8
   obtain⟨i8,j8,k8,a8,b8'⟩:=cell e18 o8
   have L8:∀{g'},Ext g8 g'→au g' true 6 (.ptr g6.sz 0 0 0)=some (.agg [.int .i64 y.k, .str x.cls,vv, .bool x.stated, .int .i64 (x.born:Int),sv]):=fun e'=>(V8.ext e').all rfl
   have Q8:au g8 true 6 (.ptr i8 j8 k8 0)=some (.agg (zQ y)):=by rw[b8'];rfl
   have T8:=Tx.kp (Kp.of_ext e68)
   refine aL ?_;refine aU ?_;refine aF (L8 (Ext.refl _)) ?_;refine aU ?_;refine aI ?_;refine aU ?_;refine aN ?_;refine aU ?_;refine aA ?_;refine aU ?_;refine aF S8.d.l2 ?_;refine aU ?_;refine aI ?_;refine aU ?_;refine aF (a8 .i64) ?_;refine aU ?_;refine aF Q8 ?_;refine bF ?_
   have hfit:=S.fit X hy
   rw[hx3] at hfit
   refine Xm (n:=n+5) (b:=B) o8 T8.rf (S8.d.rf hy) hfit (by omega) (by omega) (by omega) fun g9 r9 e9' o9 hr9=> ?_
   have:r9=true:=hr9.2 hx3.symm
   subst this
   refine aU ?_;refine aL ?_;refine bM ?_;refine bO ?_;refine aF (L8 e9') ?_
   have T9:=T8.kp (Kp.of_ext e9')
   have s6:=e6.1
   have s68:=e68.1
   have s9:=e9'.1
   have s5:=e15.1
   obtain⟨u,ga,x1,ea,oa,La⟩:=Db.one (P:=TF) (b:=lo) (z:=[AV.int .i64 0, .str [], .nilSlc, .bool false, .int .i64 0, .nilSlc]) TF.kp o9 T9 (Nat.le_refl _) c2 (by omega) rfl rfl t2 t3
   refine iW x1 ?_
   refine e19 (n:=n+5) (B:=B) La oa X.B (fun f hf=>by
    rw[List.mem_singleton] at hf;subst hf;exact hfit) (by simp) (by simp;omega) (by omega) fun gb fb ob=> ?_
   have eb:Ext g gb:=fb.ext (bH e18 (bH e9' ea)) ok fun q w=>by have:=w.1;omega
   refine aF (dV (i:=j) (by omega)) ?_
   exact ih (j+1) gb (by omega) (by omega) (bH e eb) ob
 have part1:∀(m j:Nat) (g:aj),10-j<m→j≤10→Ext h1 g→g.Ok→Iy (aD E (n+7)) (n+7) m (.ptr T.p 0 0 0) (.ptr D.q 0 0 0) (.ptr h.sz 0 0 0) (.int .i64 (j:Int)) g K=true:=by
  intro m
  induction m with
  |zero=>intro j g hm;omega
  |succ m ih=>
   intro j g hm hj e ok
   have ehg:=bH e1 e
   have Sg:=S.ext ehg ok
   have e0g:Ext h0 g:=Sg.a.e
   have p27:Fj (aD E (n+7)) (n+7) (.ptr T.p 0 0 0) (.ptr D.q 0 0 0) (.ptr h.sz 0 0 0) g K=true:=by
    unfold Fj
    exact part2 (n+7) 0 g (by omega) (Nat.zero_le _) e ok
   have len:dw g 1 nv=some (.int .i64 (ns.length:Int)):=by rw[(Vn.ext e0g).len,Nn.length]
   unfold Iy Sb
   refine aA ?_;refine aF (A3 e) ?_;refine aF len ?_;refine aT ?_
   by_cases hlt:j<ns.length
   rotate_left
   ·rw[decide_eq_false (show ¬(j:Int)<(ns.length:Int) by omega)]
    refine aG ?_;refine aG ?_;refine bM ?_;refine bO ?_
    exact p27
   rw[decide_eq_true (show(j:Int)<(ns.length:Int) by omega)]
   refine aP ?_;refine aI ?_;refine aP ?_;refine aT ?_;refine bQ ?_
   by_cases h10:j<10
   rotate_left
   ·rw[decide_eq_false (show ¬(j:Int)<10 by omega)]
    refine bO ?_
    exact p27
   rw[decide_eq_true (show(j:Int)<10 by omega)]
   obtain⟨ee,he,hs0⟩:=Nn.get (List.getElem?_eq_getElem hlt)
   obtain⟨id,gg,jj,hat⟩:=Vn.atE he
   obtain⟨p1,p2⟩:=hat g e0g
   have part0:∀g',au g' false 1 (.ptr id gg jj 0)=iH false 0 1 ee→au g' false 1 (.ptr id gg jj 0)=some (.str ns[j]):=fun g' q=>by rw[q];simp only[iH,cond_false];exact hs0
   refine bN ?_;refine aA ?_;refine aF (A3 e) ?_;refine aF (p1 .i64) ?_;refine aF (part0 g (p2 _ _ _)) ?_
   have hex:=S.ext_eq ns[j]
   have hel:(EY cs T ns[j]).length≤i:=by
    rw[hex];unfold Ca;rw[List.length_map]
    exact Nat.le_trans (List.length_filter_le _ _) fl
   refine adq (n:=n+3) Sg.a S.ia (by rw[ht];exact X.tr) X.gd.asc X.hv X.len (by omega) (by omega) (by omega) fun g2 w e2 o2 W=> ?_
   have S2:=Sg.ext e2 o2
   obtain⟨p3,p4⟩:=hat g2 (bH e0g e2)
   refine aA ?_;refine aF (A3 (bH e e2)) ?_;refine aF (p3 .i64) ?_;refine aF (part0 g2 (p4 _ _ _)) ?_
   refine e47 (n:=n+4) S2.d (by rw[hcv];exact X.c) X.gd.asc X.len (by omega) (by omega) (by omega) fun g3 w2 e3 o3 W2=> ?_
   refine WQ (n:=n+6) (W.view.ext e3) W2.view (by omega) (by omega) fun r hr=> ?_
   have:r=true:=hr.2 hex
   subst this
   refine aL ?_;refine bO ?_
   have s2:=e2.1
   have s3:=e3.1
   refine e44 (n:=n+6) (lo:=g.sz) (hi:=g3.sz) ((OM.of W).ext e3) (fun e he=>by
    obtain⟨y,_,rfl⟩:=List.mem_map.1 he;rfl) (fun q hq=>⟨kJ W hq,by have:=jW (iV W) o2 hq;omega⟩) (Nat.le_refl _) o3 (by rw[dN];omega) (by rw[dN];omega) (by omega) fun g4 f4 o4=> ?_
   have e14':Ext g g4:=f4.ext (bH e2 e3) ok fun q w=>w.1
   refine aF (dV (i:=j) (by omega)) ?_
   exact ih (j+1) g4 (by omega) (by omega) (bH e e14') o4
 exact part1 (n+7) 0 h1 (by omega) (Nat.zero_le _) (Ext.refl _) o1
end
theorem KQ {cs:List Cls} (hv:valid cs=true):load cs≤100000:=by
 have h64:cs.length≤64:=by
  have:=hv
  unfold valid at this
  simp only[Bool.and_eq_true,decide_eq_true_eq] at this
  exact this.1
 have key:∀l:List Cls,(∀c∈l,c.fields.length≤62)→load l≤l.length*63:=by
  intro l
  induction l with
  |nil=>intro _;simp[load]
  |cons c l ih=>
   intro h
   have h1:=ih fun d hd=>h d (List.mem_cons_of_mem _ hd)
   have h2:=h c List.mem_cons_self
   unfold load at h1 ⊢
   simp only[List.map_cons,List.sum_cons,List.length_cons]
   omega
 have:=key cs fun c hc=>by
  obtain⟨i,hi⟩:=List.getElem?_of_mem hc
  exact(wO hv hi).2
 have:cs.length*63≤64*63:=Nat.mul_le_mul_right _ h64
 omega
section
variable {cs:List Cls} {B b n:Nat} {h:aj} {lv dv nv hv:AV} {mo:Int} {K:aC} {l:List N7} {ns:List Str} {hds:List Int} {en:List (List AV)}
theorem e6 (hs:h.Ok) (C:CV h lv cs) (hlf:aV [lv, .int .i64 mo,dv,nv,hv]=true) (hcl:cs.length≤n) (b1:1≤b) (bB:62*b≤B) (hB:B<100000000) (hn:3*B+3000000≤n) (hL:n+300<lim)
 (hnm:∀c∈cs,c.name.length≤n∧∀f∈c.fields,f.name.length≤n)
 (k0:∀h',Ext h h'→h'.Ok→K (.tup [.nilPtr, .nilPtr, .bool true]) h'=true)
 (k1:∀h0 tb h' τ T D,Ext h h0→h0.Ok→Hf cs B b h0 tb lv→EX cs B b h0 h' τ T D 0→T.tb=tb→D.cv=lv→K (.tup [.ptr T.p 0 0 0, .ptr D.q 0 0 0, .bool true]) h'=true):
 aD E (n+8) (.func 6) [.agg [lv, .int .i64 mo,dv,nv,hv]] h K=true:=by
 have hlm:lim=4611686018427387904:=rfl
 apply d6
 unfold s6
 obtain⟨h1,q1,V1,e1,o1,z1⟩:=kZ (n:=5) (v:= .agg [lv, .int .i64 mo,dv,nv,hv]) hs rfl (by decide) hlf
 have V1:Var h1 h.sz [lv, .int .i64 mo,dv,nv,hv]:=V1
 refine iW q1 ?_
 have A0:∀{g},Ext h1 g→au g false 1 (.ptr h.sz 0 0 0)=some lv:=fun e=>(V1.ext e).get rfl
 have A1:∀{g},Ext h1 g→au g false 1 (.ptr h.sz 0 0 1)=some (.int .i64 mo):=fun e=>(V1.ext e).get rfl
 refine aA ?_;refine aF (A0 (Ext.refl _)) ?_
 have C1:=C.ext e1
 refine u11 (n:=n+1) o1 C1 ⟨by omega,by omega,fun c hc=>⟨by have:=(hnm c hc).1;omega,fun f hf=>by have:=(hnm c hc).2 f hf;omega⟩⟩ (fun _ h3 e3 o3=> ?_) fun hv' G h3 t e3 o3 TR=> ?_
 ·refine aJ ?_;refine aK ?_;refine aY ?_
  rw[show(!decide ((10:Int)=0))=true from rfl]
  refine aS ?_;refine aS ?_;refine bQ ?_;refine bN ?_
  exact k0 h3 (bH e1 e3) o3
 obtain⟨tid,tl,tm,rfl,_,_,_⟩:=id TR
 refine aJ ?_;refine aK ?_;refine aY ?_
 rw[show(!decide ((0:Int)=0))=false from rfl]
 refine aU ?_;refine aI ?_;refine aU ?_;refine bn ?_;refine bM ?_;refine bO ?_;refine aA ?_
 refine aF (A1 e3) ?_
 have e13:=bH e1 e3
 have X:Hf cs B b h3 (.ptr tid 0 0 0) lv:=⟨TR,C.ext e13,G,hv',by
  have:=hv'
  unfold valid at this
  simp only[Bool.and_eq_true,decide_eq_true_eq] at this
  exact this.1,KQ hv',Qf hv' G,b1,bB,hB⟩
 refine cc9 (B:=B) (τ:=fun _=> .out) (o:=0) (n:=n+5) o3 o3 (Ext.refl _) (fun _ _=>rfl) (fun _ _=>rfl) (fun w=> ?_) fun m1 m2 h4 τ4 T P4 s4 a1 a2 a3 a4 a5 a6 a7 a8=> ?_
 ·refine aJ ?_;refine aK ?_;refine aA ?_;refine aF (A1 e3) ?_;refine aT ?_
  by_cases hlo:mo<1
  ·rw[decide_eq_true hlo]
   refine aS ?_;refine aS ?_;refine aS ?_;refine bQ ?_;refine bN ?_;refine bA ?_;refine aP ?_;refine aI ?_;refine aP ?_;refine aX ?_;refine bQ ?_
   rw[show decide ((1:Int)=1)=true from rfl]
   skip
   exact k0 h3 e13 o3
  ·rw[decide_eq_false hlo]
   refine aU ?_;refine aA ?_;refine aU ?_;refine aF (A1 e3) ?_;refine aU ?_;refine bE ?_;refine bM ?_
   rw[decide_eq_true (show(65536:Int)<mo by omega)]
   refine bN ?_;refine bA ?_;refine aP ?_;refine aI ?_;refine aP ?_;refine aX ?_;refine bQ ?_
   rw[show decide ((1:Int)=1)=true from rfl]
   skip
   exact k0 h3 e13 o3
 ·have e14:Ext h1 h4:=bH e3 P4.e
  refine aJ ?_;refine aK ?_;refine aA ?_;refine aF (A1 e14) ?_;refine aT ?_
  rw[decide_eq_false (show ¬mo<1 by omega)]
  refine aU ?_;refine aA ?_;refine aU ?_;refine aF (A1 e14) ?_;refine aU ?_;refine bE ?_;refine bM ?_
  rw[decide_eq_false (show ¬(65536:Int)<mo by omega)]
  refine bO ?_;refine bn ?_;refine aU ?_;refine aI ?_;refine aU ?_;refine aY ?_;refine bM ?_
  rw[show(!decide ((0:Int)=0))=false from rfl]
  refine bO ?_;refine aA ?_;refine aF (A0 e14) ?_;refine aA ?_;refine aF (A1 e14) ?_
  have llv:lv.leaf=true:=by
   obtain⟨_,w,_⟩:=C
   exact w.leaf
  have hbv:eP [.nilSlc, .int .i64 0, .nilSlc, .int .i64 0, .int .i64 0] [(0,1,lv),(1,1,(AV.int .i64 mo))]=some (.agg [lv, .int .i64 mo, .nilSlc, .int .i64 0, .int .i64 0]):=by
   have c1:=jV llv
   have c2:(AV.int .i64 mo).cells=[AV.int .i64 mo]:=rfl
   simp only[eP,wP,c1,c2,List.length_cons,List.length_nil,aV,llv,lay]
   rfl
  refine aF hbv ?_
  obtain⟨h5,q5,V5,e5,o5,z5⟩:=kZ (n:=5) (v:= .agg [lv, .int .i64 mo, .nilSlc, .int .i64 0, .int .i64 0]) P4.ok rfl (by decide) (by show aV [lv, .int .i64 mo, .nilSlc, .int .i64 0, .int .i64 0]=true;simp only[aV,llv];rfl)
  have V5:Var h5 h4.sz [lv, .int .i64 mo, .nilSlc, .int .i64 ((0:Nat):Int), .int .i64 ((0:Nat):Int)]:=V5
  refine iW q5 ?_
  obtain⟨es,w,_⟩:=C
  refine fQ (A0 (bH e14 e5)) w.same ?_
  refine fQ (A1 (bH e14 e5)) (oJ _ _) ?_
  let τ5:Nat→Tag:=gI τ4 (fun j=>j=h4.sz) (.own 1 .p)
  have s5:=e5.1
  have g5:Tg τ4 τ5 h4 h5:=⟨fun j hj=>dS (P:=fun j=>j=h4.sz) (by omega),fun j hj=>by
   show gI τ4 (fun j=>j=h4.sz) _ j=_
   rw[dS (P:=fun j=>j=h4.sz) (by omega)];exact P4.hi j (by omega)⟩
  have P5:SO B τ5 0 h3 h5 T:=P4.fr (Fr.of_ext (X:=fun _=>False) e5) o5 (fun _ x=>x.elim) g5
  let D:DD:=⟨h4.sz,lv,mo, .nilSlc,[],0,0⟩
  have z4:=P4.e.1
  have PD:DO B τ5 1 h3 h5 D:=⟨o5,o3,bH P4.e e5,P5.t0,P5.hi,gL (P:=fun j=>j=h4.sz) rfl,V5,Own.nil _ _ _,fun j q=>absurd q eH,(fun x hx=>by cases hx), .nil,(fun x hx=>by cases hx)⟩
  exact k1 h3 (.ptr tid 0 0 0) h5 τ5 T D e13 o3 X ⟨P5,PD,SI.nil a5 a6 a7 a8,by rw[a5];rfl,by rw[a4],by rw[a3],by rw[a2],by omega,by omega,fun k x hx=>by rw[a5] at hx;cases hx⟩ a1 rfl
theorem e3 (hs:h.Ok) (C:CV h lv cs) (Dl:OV h dv l) (Vn:View h 1 nv en) (Nn:Named en ns) (Vh:View h 1 hv (ints hds)) (hlf:aV [lv, .int .i64 mo,dv,nv,hv]=true) (hb:∀p∈l,(∀q∈p.set,jg q.2≤b)∧p.set.length<1000000) (hcl:cs.length≤n) (b1:1≤b) (bB:62*b≤B) (hB:B<100000000) (hn:3*B+6000000≤n) (hL:n+300<lim)
 (hnm:∀c∈cs,c.name.length≤n∧∀f∈c.fields,f.name.length≤n)
 (kk:∀h,K (.bool true) h=true):aD E (n+9) (.func 3) [.agg [lv, .int .i64 mo,dv,nv,hv]] h K=true:=by
 have hlm:lim=4611686018427387904:=rfl
 have hbB:b≤B:=by omega
 apply d3
 unfold s3
 obtain⟨h1,q1,V1,e1,o1,z1⟩:=kZ (n:=5) (v:= .agg [lv, .int .i64 mo,dv,nv,hv]) hs rfl (by decide) hlf
 have V1:Var h1 h.sz [lv, .int .i64 mo,dv,nv,hv]:=V1
 refine iW q1 ?_
 have A:∀{g},Ext h1 g→au g true 5 (.ptr h.sz 0 0 0)=some (.agg [lv, .int .i64 mo,dv,nv,hv]):=fun e=>(V1.ext e).all rfl
 have kw:∀h,aD E (n+8) (.func 5) [] h (fun v h=>K v h)=true:=fun h=>cc7 (n:=n+7) (kk h)
 refine aF (A (Ext.refl _)) ?_
 refine cc6 (n:=n+5) (b:=b) o1 (C.ext e1) (Dl.ext e1) hlf (fun p hp=>⟨(hb p hp).1,by have:=(hb p hp).2;omega⟩) (by omega) (by omega) (by omega) fun c h2 e2 o2=> ?_
 cases c with
 |false=>
  refine aM ?_;refine bN ?_
  exact kw h2
 |true=>
  refine aL ?_;refine bO ?_
  unfold Sw
  refine aF (A e2) ?_
  have e02:=bH e1 e2
  refine e6 (n:=n) (B:=B) (b:=b) o2 (C.ext e02) hlf hcl b1 bB hB (by omega) hL hnm (fun h3 e3 o3=> ?_) fun h0 tb h3 τ T D e03 o0 X S ht hcv=> ?_
  ·refine aJ ?_;refine aK ?_
   exact cc7 (n:=n+7) (kk h3)
  ·refine aJ ?_;refine aK ?_
   unfold SC
   have e00:Ext h h0:=bH e02 e03
   have V0:Var h0 h.sz [lv, .int .i64 mo,dv,nv,hv]:=(V1.ext e2).ext e03
   refine l24 (K:=K) (n:=n) (pa:=T.p) (pb:=D.q) X V0 (Dl.ext e00) (fun p hp=>(hb p hp).1) (fun p hp=>(hb p hp).2) hn (by omega) (fun h4 τ4 T4 D4 S4 t1 t2 t3 t4=> ?_) (n+8) 0 h3 τ T D (by omega) (by omega) S ht hcv rfl rfl
   rw[←t3, ←t4]
   unfold Fu
   have fl:=S4.fl
   refine e14 (n:=n+5) S4.a S4.ia X.f62 (by have:=S4.nx;omega) hB (by omega) (by omega) fun h5 v es e5 o5 L5=> ?_
   have S5:=S4.ext e5 o5
   have hfit:∀f∈T4.fs.map pf,fit B f:=fun f hf=>by
    rw[←S4.eq] at hf
    obtain⟨y,hy,rfl⟩:=List.mem_map.1 hf
    exact S4.fit X hy
   have hlen:(T4.fs.map pf).length≤30:=by rw[←S4.eq,List.length_map];exact fl
   refine aN ?_;refine aA ?_;refine aF S5.d.l2 ?_
   refine aeR (n:=n+7) (b:=B) L5.fv S5.d.fv o5 hfit (by omega) (by omega) (by omega) (by omega) fun h6 r e6' o6 hr=> ?_
   have:r=true:=hr.2 S4.eq.symm
   subst this
   refine aL ?_;refine bO ?_
   have L6:=L5.kp TF.kp (Kp.of_ext e6') e6'.1
   refine e19 (n:=n+6) (B:=B) L6 o6 hB hfit (by omega) (by omega) (by omega) fun h7 f7 o7=> ?_
   have e47:Ext h4 h7:=f7.ext (bH e5 e6') S4.a.ok fun q w=>w.1
   have S7:=S4.ext e47 o7
   have e17:Ext h1 h7:=bH (bH e2 e03) S7.a.e
   refine aF (A e17) ?_
   refine e20 (n:=n) (ns:=ns) (hs:=hds) S7 X t1 t2 (Vn.ext e00) Nn (Vh.ext e00) hlf (by omega) (by omega) (by omega) fun h8 e8 o8=> ?_
   have S8:=S7.ext e8 o8
   refine aP ?_;refine aF (A (bH e17 e8)) ?_;refine aP ?_;refine aI ?_;refine aP ?_;refine aI ?_;refine bf ?_
   refine e20 (n:=n) (ns:=ns) (hs:=hds) S8 X t1 t2 (Vn.ext e00) Nn (Vh.ext e00) hlf (by omega) (by omega) (by omega) fun h9 e9' o9=> ?_
   refine bQ ?_;refine bf ?_
   refine cc7 (n:=n+7) ?_
   refine bQ ?_
   exact kk h9
end
mutual
theorem zT {H:Type}:∀(d:DataW H),Rows.uptoBulk d=bulk d
 | .lit l=>by cases l<;>simp[Rows.uptoBulk,bulk]
 | .nil=>by simp[Rows.uptoBulk,bulk]
 | .ptr d=>by simp[Rows.uptoBulk,bulk,zT d]
 | .slice a b=>by simp[Rows.uptoBulk,bulk,pz a,pz b]
 | .agg a=>by simp[Rows.uptoBulk,bulk,pz a]
 | .iface _ d=>by simp[Rows.uptoBulk,bulk,zT d]
 | .map es=>by simp[Rows.uptoBulk,bulk,uz es]
 | .held _=>by simp[Rows.uptoBulk,bulk]
theorem pz {H:Type}:∀(l:List (DataW H)),Rows.uptoBulkAll l=lD l
 | []=>rfl
 |d :: l=>by simp[Rows.uptoBulkAll,lD,zT d,pz l]
theorem uz {H:Type}:∀(l:List (Lit×DataW H)),Rows.uptoBulkEntries l=pV l
 | []=>rfl
 |(k,d) :: l=>by
  have h1:=zT d
  have h2:=uz l
  cases k<;>simp[Rows.uptoBulkEntries,pV,Rows.uptoBulkEntry,EG,h1,h2]
end
def Yj (f:lK):Nat:=f.name.length+1
def Ul (c:Cls):Nat:=c.name.length+sF Yj c.fields+1
def WG:Rd lK:=fun _ a f=>a=dZ f
def RC:Rd Cls:=fun h a c=>Jg h a c
theorem Qk {h:aj} {es:List (List AV)} {fs:List lK} (he:gM (WG h) es fs):es=fs.map dZ:=by
 induction he with
 |nil=>rfl
 |cons h _ ih=>
  have h':_=dZ _:=h
  rw[List.map_cons,ih,h']
theorem WG.mono:wo WG:=fun _ _ _ _ _ h=>h
theorem RC.mono:wo RC:=fun _ _ _ _ e h=>Jg.ext h e
def TP (p:Str×Val):Nat:=p.1.length+jg p.2+1
def YT (p:N7):Nat:=p.cls.length+sF TP p.set+1
theorem RG.mono:wo RG:=fun _ _ _ _ e h=>let⟨c,q,R⟩:=h;⟨c,q,RV.ext e R⟩
theorem QJ.mono:wo QJ:=fun _ _ _ _ e h=>QJ.ext h e
section
variable {H:Type} {enc:TypeId×Value→H} {W:World} {held:Bool}
theorem inV:In enc Tryz.prog W held 48 5 jg RV:=
 aaP (t0:=3) (t1:=4) (t2:=2) (t3:=9) (tl:=46) Tryz.underlying48 rfl (by kernel_rfl) Tryz.underlying3 (by kernel_rfl) Tryz.underlying4 (by kernel_rfl) Tryz.underlying2 (by kernel_rfl) Tryz.underlying9 (by kernel_rfl) Tryz.underlying46 (by kernel_rfl)
theorem adf:In enc Tryz.prog W held 67 3 Yj WG:=by
 have I:=In.struct (enc:=enc) (W:=W) (held:=held) (P:=Tryz.prog) (t:=67) (tot:=3) Tryz.underlying67 rfl (by kernel_rfl)
  (wF.cons (off:=0) (n:=1) (by kernel_rfl) yx.mono (In.str Tryz.underlying9) (wF.cons (off:=1) (n:=1) (by kernel_rfl) yI.mono (In.int Tryz.underlying3) (wF.cons (off:=2) (n:=1) (by kernel_rfl) yx.mono (In.str Tryz.underlying9) wF.nil)))
 refine I.conv ?_
 rintro h a ⟨s,i,s2,u⟩ ⟨b1,c1,rfl,_,⟨rfl,_⟩,b2,c2,rfl,_,⟨rfl,_⟩,b3,cc3,rfl,_,⟨rfl,_⟩,rfl⟩
 exact⟨⟨s,i,s2⟩,rfl,by simp[Yj];omega⟩
theorem adH:In enc Tryz.prog W held 59 1 (fun l=>sF Yj l+1) (DY 3 WG):=In.slice Tryz.underlying59 (by kernel_rfl) (by decide) WG.mono adf
theorem inC:In enc Tryz.prog W held 61 3 Ul RC:=by
 have I:=In.struct (enc:=enc) (W:=W) (held:=held) (P:=Tryz.prog) (t:=61) (tot:=3) Tryz.underlying61 rfl (by kernel_rfl)
  (wF.cons (off:=0) (n:=1) (by kernel_rfl) yx.mono (In.str Tryz.underlying9) (wF.cons (off:=1) (n:=1) (by kernel_rfl) yx.mono (In.str Tryz.underlying9) (wF.cons (off:=2) (n:=1) (by kernel_rfl) (DY.mono WG.mono) adH wF.nil)))
 refine I.conv ?_
 rintro h a ⟨s,s2,fs,u⟩ ⟨b1,c1,rfl,_,⟨rfl,_⟩,b2,c2,rfl,_,⟨rfl,_⟩,b3,cc3,rfl,_,hf,rfl⟩
 obtain⟨v,es,rfl,hv,he⟩:=hf.view
 rw[Qk he] at hv
 exact⟨⟨s,s2,fs⟩,⟨v,rfl,hv⟩,by simp[Ul];omega⟩
theorem adh:In enc Tryz.prog W held 22 1 (fun l=>sF Ul l+1) (DY 3 RC):=In.slice Tryz.underlying22 (by kernel_rfl) (by decide) RC.mono inC
theorem inG:In enc Tryz.prog W held 50 6 TP RG:=by
 have I:=In.struct (enc:=enc) (W:=W) (held:=held) (P:=Tryz.prog) (t:=50) (tot:=6) Tryz.underlying50 rfl (by kernel_rfl)
  (wF.cons (off:=0) (n:=1) (by kernel_rfl) yx.mono (In.str Tryz.underlying9) (wF.cons (off:=1) (n:=5) (by kernel_rfl) RV.mono inV wF.nil))
 refine I.conv ?_
 rintro h a ⟨s,v,u⟩ ⟨b1,c1,rfl,_,⟨rfl,hs⟩,b2,c2,rfl,_,hv,rfl⟩
 exact⟨(s,v),⟨b2,by simp,hv⟩,by simp only[TP];omega⟩
theorem aeK:In enc Tryz.prog W held 34 1 (fun l=>sF TP l+1) (DY 6 RG):=In.slice Tryz.underlying34 (by kernel_rfl) (by decide) RG.mono inG
theorem inO:In enc Tryz.prog W held 36 5 YT QJ:=by
 have I:=In.struct (enc:=enc) (W:=W) (held:=held) (P:=Tryz.prog) (t:=36) (tot:=5) Tryz.underlying36 rfl (by kernel_rfl)
  (wF.cons (off:=0) (n:=1) (by kernel_rfl) yI.mono (In.int Tryz.underlying3) (wF.cons (off:=1) (n:=1) (by kernel_rfl) yx.mono (In.str Tryz.underlying9) (wF.cons (off:=2) (n:=1) (by kernel_rfl) (DY.mono RG.mono) aeK (wF.cons (off:=3) (n:=1) (by kernel_rfl) yI.mono (In.int Tryz.underlying3) (wF.cons (off:=4) (n:=1) (by kernel_rfl) Jq.mono (In.bool Tryz.underlying4) wF.nil)))))
 refine I.conv ?_
 rintro h a ⟨d,c,gs,k,st,u⟩ ⟨b1,c1,rfl,_,⟨rfl,_⟩,b2,c2,rfl,_,⟨rfl,_⟩,b3,cc3,rfl,_,hg,b4,cc4,rfl,_,⟨rfl,_⟩,b5,cc5,rfl,_,hst,rfl⟩
 obtain⟨v,es,rfl,hv,he⟩:=hg.view
 cases hst
 exact⟨⟨d,c,gs,k,st⟩,⟨v,rfl,es,hv,he⟩,by simp only[YT];omega⟩
theorem aeb:In enc Tryz.prog W held 23 1 (fun l=>sF YT l+1) (DY 5 QJ):=In.slice Tryz.underlying23 (by kernel_rfl) (by decide) QJ.mono inO
theorem acU:In enc Tryz.prog W held 24 1 (fun l=>sF (fun s:Str=>s.length+1) l+1) (DY 1 yx):=In.slice Tryz.underlying24 (by kernel_rfl) (by decide) yx.mono (In.str Tryz.underlying9)
theorem adp:In enc Tryz.prog W held 25 1 (fun l=>sF (fun _:Int=>1) l+1) (DY 1 (yI .i64)):=In.slice Tryz.underlying25 (by kernel_rfl) (by decide) yI.mono (In.int Tryz.underlying3)
theorem UQ {h:aj} {es:List (List AV)} {l:List Int} (A:gM (yI .i64 h) es l):es=ints l:=by
 induction A with
 |nil=>rfl
 |cons r _ ih=>
  obtain⟨q,_⟩:=r
  rw[q,ih];rfl
def RSx:Rd (List Cls×List N7×List Str×List Int):=fun h a p=>∃lv mo dv nv hv en,a=[lv, .int .i64 mo,dv,nv,hv]∧CV h lv p.1∧OV h dv p.2.1∧View h 1 nv en∧Named en p.2.2.1∧View h 1 hv (ints p.2.2.2)∧aV [lv, .int .i64 mo,dv,nv,hv]=true
theorem adr:In enc Tryz.prog W held 27 5 (fun p=>sF Ul p.1+sF YT p.2.1) RSx:=by
 have I:=In.struct (enc:=enc) (W:=W) (held:=held) (P:=Tryz.prog) (t:=27) (tot:=5) Tryz.underlying27 rfl (by kernel_rfl)
  (wF.cons (off:=0) (n:=1) (by kernel_rfl) (DY.mono RC.mono) adh (wF.cons (off:=1) (n:=1) (by kernel_rfl) yI.mono (In.int Tryz.underlying3) (wF.cons (off:=2) (n:=1) (by kernel_rfl) (DY.mono QJ.mono) aeb (wF.cons (off:=3) (n:=1) (by kernel_rfl) (DY.mono yx.mono) acU (wF.cons (off:=4) (n:=1) (by kernel_rfl) (DY.mono yI.mono) adp wF.nil)))))
 refine I.conv ?_
 rintro h a ⟨cs,mo,ops,ns,hs,u⟩ ⟨b1,c1,rfl,_,hc,b2,c2,rfl,_,⟨rfl,_⟩,b3,cc3,rfl,_,ho,b4,cc4,rfl,_,hn,b5,cc5,rfl,_,hh,rfl⟩
 obtain⟨v1,e1,rfl,w1,x1⟩:=hc.view
 obtain⟨v3,e3,rfl,w3,x3⟩:=ho.view
 obtain⟨v4,e4,rfl,w4,x4⟩:=hn.view
 obtain⟨v5,e5,rfl,w5,x5⟩:=hh.view
 have l1:=w1.leaf
 have l3:=w3.leaf
 have l4:=w4.leaf
 have l5:=w5.leaf
 have n4:Named e4 ns:=x4.mono fun a s r=>by
  obtain⟨q,_⟩:=r
  rw[q];rfl
 have n5:e5=ints hs:=UQ x5
 rw[n5] at w5
 exact⟨(cs,ops,ns,hs),⟨v1,mo,v3,v4,v5,e4,rfl,⟨e1,w1,x1⟩,⟨e3,w3,x3⟩,w4,n4,w5,by simp only[aV,l1,l3,l4,l5];rfl⟩,by dsimp only;omega⟩
theorem Nz:∀l:List (Str×Val),2*l.length≤sF TP l
 | []=>Nat.zero_le _
 |p :: t=>by
  have h1:=Nz t
  have h2:2≤TP p:=by
   unfold TP
   cases p.2
   simp only[jg]
   omega
  simp only[sF,List.length_cons]
  omega
end
end Go.Proofs.YthmnnlpbnhkhkaaGreat
namespace Go.Proofs
open Go.Shelf
def YthmnnlpbnhkhkaaGreat.insL_ren:Go.Shelf.Ren:=⟨fun |21=>63 |27=>84 |28=>85 |35=>94 |39=>108 |n=>n,fun |22=>25 |3=>3 |4=>4 |0=>0 |n=>n,fun |n=>n⟩
theorem YthmnnlpbnhkhkaaGreat.insL:Go.Proofs.Lays2.n21 Tryz.prog YthmnnlpbnhkhkaaGreat.insL_ren:={
 mixed:=by kernel_rfl
 f21:=Tryz.func63.trans (congrArg some (by kernel_rfl))
 f27:=Tryz.func84.trans (congrArg some (by kernel_rfl))
 f28:=Tryz.func85.trans (congrArg some (by kernel_rfl))
 f35:=Tryz.func94.trans (congrArg some (by kernel_rfl))
 f39:=Tryz.func108.trans (congrArg some (by kernel_rfl))
 t0:=Tryz.underlying0
 a0:=Tryz.isAgg0
 z0:=Tryz.sizeOf0
 v0:=Tryz.zeroValue0
 t3:=Tryz.underlying3
 a3:=Tryz.isAgg3
 z3:=Tryz.sizeOf3
 v3:=Tryz.zeroValue3
 t4:=Tryz.underlying4
 a4:=Tryz.isAgg4
 z4:=Tryz.sizeOf4
 v4:=Tryz.zeroValue4
 t22:=Tryz.underlying25
 a22:=Tryz.isAgg25
 z22:=Tryz.sizeOf25
 v22:=Tryz.zeroValue25
 i3:=by kernel_rfl}
end Go.Proofs
namespace Go.Proofs
open Go.Shelf
def YthmnnlpbnhkhkaaGreat.sortL_ren:Go.Shelf.Ren:=⟨fun |189=>73 |125=>89 |257=>88 |128=>106 |129=>107 |294=>97 |295=>98 |296=>99 |297=>100 |298=>101 |299=>102 |216=>103 |300=>104 |301=>105 |328=>111 |329=>112 |330=>113 |331=>114 |332=>115 |215=>116 |343=>117 |n=>n,fun |28=>25 |3=>3 |46=>96 |0=>0 |51=>163 |53=>41 |4=>4 |183=>156 |182=>155 |131=>122 |5=>5 |9=>9 |218=>167 |222=>171 |228=>174 |229=>175 |n=>n,fun |n=>n⟩
theorem YthmnnlpbnhkhkaaGreat.sortL:Go.Proofs.Lays.n189 Tryz.prog YthmnnlpbnhkhkaaGreat.sortL_ren:={
 mixed:=by kernel_rfl
 f125:=Tryz.func89.trans (congrArg some (by kernel_rfl))
 f128:=Tryz.func106.trans (congrArg some (by kernel_rfl))
 f129:=Tryz.func107.trans (congrArg some (by kernel_rfl))
 f189:=Tryz.func73.trans (congrArg some (by kernel_rfl))
 f215:=Tryz.func116.trans (congrArg some (by kernel_rfl))
 f216:=Tryz.func103.trans (congrArg some (by kernel_rfl))
 f257:=Tryz.func88.trans (congrArg some (by kernel_rfl))
 f294:=Tryz.func97.trans (congrArg some (by kernel_rfl))
 f295:=Tryz.func98.trans (congrArg some (by kernel_rfl))
 f296:=Tryz.func99.trans (congrArg some (by kernel_rfl))
 f297:=Tryz.func100.trans (congrArg some (by kernel_rfl))
 f298:=Tryz.func101.trans (congrArg some (by kernel_rfl))
 f299:=Tryz.func102.trans (congrArg some (by kernel_rfl))
 f300:=Tryz.func104.trans (congrArg some (by kernel_rfl))
 f301:=Tryz.func105.trans (congrArg some (by kernel_rfl))
 f328:=Tryz.func111.trans (congrArg some (by kernel_rfl))
 f329:=Tryz.func112.trans (congrArg some (by kernel_rfl))
 f330:=Tryz.func113.trans (congrArg some (by kernel_rfl))
 f331:=Tryz.func114.trans (congrArg some (by kernel_rfl))
 f332:=Tryz.func115.trans (congrArg some (by kernel_rfl))
 f343:=Tryz.func117.trans (congrArg some (by kernel_rfl))
 t0:=Tryz.underlying0
 a0:=Tryz.isAgg0
 z0:=Tryz.sizeOf0
 v0:=Tryz.zeroValue0
 t3:=Tryz.underlying3
 a3:=Tryz.isAgg3
 z3:=Tryz.sizeOf3
 v3:=Tryz.zeroValue3
 t4:=Tryz.underlying4
 a4:=Tryz.isAgg4
 z4:=Tryz.sizeOf4
 v4:=Tryz.zeroValue4
 t5:=Tryz.underlying5
 a5:=Tryz.isAgg5
 z5:=Tryz.sizeOf5
 v5:=Tryz.zeroValue5
 t9:=Tryz.underlying9
 a9:=Tryz.isAgg9
 z9:=Tryz.sizeOf9
 v9:=Tryz.zeroValue9
 t28:=Tryz.underlying25
 a28:=Tryz.isAgg25
 z28:=Tryz.sizeOf25
 v28:=Tryz.zeroValue25
 t46:=Tryz.underlying96
 a46:=Tryz.isAgg96
 z46:=Tryz.sizeOf96
 v46:=Tryz.zeroValue96
 t51:=Tryz.underlying163
 a51:=Tryz.isAgg163
 z51:=Tryz.sizeOf163
 v51:=Tryz.zeroValue163
 t53:=Tryz.underlying41
 a53:=Tryz.isAgg41
 z53:=Tryz.sizeOf41
 v53:=Tryz.zeroValue41
 t131:=Tryz.underlying122
 a131:=Tryz.isAgg122
 z131:=Tryz.sizeOf122
 v131:=Tryz.zeroValue122
 t182:=Tryz.underlying155
 a182:=Tryz.isAgg155
 z182:=Tryz.sizeOf155
 v182:=Tryz.zeroValue155
 t183:=Tryz.underlying156
 a183:=Tryz.isAgg156
 z183:=Tryz.sizeOf156
 v183:=Tryz.zeroValue156
 t218:=Tryz.underlying167
 a218:=Tryz.isAgg167
 z218:=Tryz.sizeOf167
 v218:=Tryz.zeroValue167
 t222:=Tryz.underlying171
 a222:=Tryz.isAgg171
 z222:=Tryz.sizeOf171
 v222:=Tryz.zeroValue171
 t228:=Tryz.underlying174
 a228:=Tryz.isAgg174
 z228:=Tryz.sizeOf174
 v228:=Tryz.zeroValue174
 t229:=Tryz.underlying175
 a229:=Tryz.isAgg175
 z229:=Tryz.sizeOf175
 v229:=Tryz.zeroValue175}
end Go.Proofs
namespace Go.Proofs.YthmnnlpbnhkhkaaGreat
open Go.Ab
@[irreducible] noncomputable def A5:dW:=(bC Tryz.prog Tryz.f5).getD ⟨0,[], .skip⟩
noncomputable def Z7:List (Nat×dW):=[(5,A5),(8,A8),(10,A10),(15,A15),(16,A16),(22,A22),(23,A23),(24,A24),(26,TS),(27,A27),(28,A28),(29,A29),(30,A30),(34,YU),(35,A35),(36,A36),(40,A40),(41,A41),(51,QO),(52,A52),(54,A54),(55,VK),(56,A56),(57,A57),(58,A58),(59,A59),(60,A60),(61,A61),(62,A62),(64,A64),(65,A65),(67,A67),(69,A69),(70,A70),(71,A71),(77,A77),(78,A78),(79,A79),(80,A80),(81,Vr),(82,A82),(83,VH),(86,A86),(91,A91),(92,A92),(93,A93),(95,A95),(109,Ui),(110,Uw)]
set_option maxRecDepth 1000000 in
theorem aeV:aD (UN Z7 [(63,zL)]) 300 (.func 5) [] aj.empty (fun v _=>isTrue v)=true:=by kernel_rfl
theorem tt3:bC Tryz.prog Tryz.f3=some (bW A3):=by kernel_rfl
theorem tt4:bC Tryz.prog Tryz.f4=some (bW A4):=by kernel_rfl
theorem tt5:bC Tryz.prog Tryz.f5=some (bW A5):=by kernel_rfl
theorem tt6:bC Tryz.prog Tryz.f6=some (bW A6):=by kernel_rfl
theorem tt7:bC Tryz.prog Tryz.f7=some (bW A7):=by kernel_rfl
theorem tt8:bC Tryz.prog Tryz.f8=some (bW A8):=by kernel_rfl
theorem tt9:bC Tryz.prog Tryz.f9=some (bW A9):=by kernel_rfl
theorem Zg:bC Tryz.prog Tryz.f10=some (bW A10):=by kernel_rfl
theorem acV:bC Tryz.prog Tryz.f11=some (bW A11):=by kernel_rfl
theorem ab3:bC Tryz.prog Tryz.f12=some (bW A12):=by kernel_rfl
theorem ael:bC Tryz.prog Tryz.f13=some (bW A13):=by kernel_rfl
theorem aex:bC Tryz.prog Tryz.f14=some (bW A14):=by kernel_rfl
theorem Y5:bC Tryz.prog Tryz.f15=some (bW A15):=by kernel_rfl
theorem Zw:bC Tryz.prog Tryz.f16=some (bW A16):=by kernel_rfl
theorem adU:bC Tryz.prog Tryz.f17=some (bW A17):=by kernel_rfl
theorem aeS:bC Tryz.prog Tryz.f18=some (bW A18):=by kernel_rfl
theorem ad2:bC Tryz.prog Tryz.f19=some (bW A19):=by kernel_rfl
theorem adW:bC Tryz.prog Tryz.f20=some (bW A20):=by kernel_rfl
theorem adZ:bC Tryz.prog Tryz.f21=some (bW A21):=by kernel_rfl
theorem ZL:bC Tryz.prog Tryz.f22=some (bW A22):=by kernel_rfl
theorem Y9:bC Tryz.prog Tryz.f23=some (bW A23):=by kernel_rfl
theorem ZV:bC Tryz.prog Tryz.f24=some (bW A24):=by kernel_rfl
theorem acI:bC Tryz.prog Tryz.f25=some (bW A25):=by kernel_rfl
theorem Z9:bC Tryz.prog Tryz.f26=some (bW TS):=by kernel_rfl
theorem aau:bC Tryz.prog Tryz.f27=some (bW A27):=by kernel_rfl
theorem Zi:bC Tryz.prog Tryz.f28=some (bW A28):=by kernel_rfl
theorem Zr:bC Tryz.prog Tryz.f29=some (bW A29):=by kernel_rfl
theorem ZW:bC Tryz.prog Tryz.f30=some (bW A30):=by kernel_rfl
theorem adR:bC Tryz.prog Tryz.f31=some (bW A31):=by kernel_rfl
theorem acg:bC Tryz.prog Tryz.f32=some (bW A32):=by kernel_rfl
theorem ab8:bC Tryz.prog Tryz.f33=some (bW A33):=by kernel_rfl
theorem Zd:bC Tryz.prog Tryz.f34=some (bW YU):=by kernel_rfl
theorem aaU:bC Tryz.prog Tryz.f35=some (bW A35):=by kernel_rfl
theorem ZR:bC Tryz.prog Tryz.f36=some (bW A36):=by kernel_rfl
theorem ab9:bC Tryz.prog Tryz.f37=some (bW A37):=by kernel_rfl
theorem aeG:bC Tryz.prog Tryz.f38=some (bW A38):=by kernel_rfl
theorem ac0:bC Tryz.prog Tryz.f39=some (bW A39):=by kernel_rfl
theorem aah:bC Tryz.prog Tryz.f40=some (bW A40):=by kernel_rfl
theorem aaV:bC Tryz.prog Tryz.f41=some (bW A41):=by kernel_rfl
theorem acR:bC Tryz.prog Tryz.f42=some (bW A42):=by kernel_rfl
theorem ae0:bC Tryz.prog Tryz.f43=some (bW A43):=by kernel_rfl
theorem adL:bC Tryz.prog Tryz.f44=some (bW A44):=by kernel_rfl
theorem aen:bC Tryz.prog Tryz.f45=some (bW A45):=by kernel_rfl
theorem acw:bC Tryz.prog Tryz.f46=some (bW A46):=by kernel_rfl
theorem acn:bC Tryz.prog Tryz.f47=some (bW A47):=by kernel_rfl
theorem adC:bC Tryz.prog Tryz.f48=some (bW A48):=by kernel_rfl
theorem aeJ:bC Tryz.prog Tryz.f49=some (bW A49):=by kernel_rfl
theorem adt:bC Tryz.prog Tryz.f50=some (bW A50):=by kernel_rfl
theorem ZU:bC Tryz.prog Tryz.f51=some (bW QO):=by kernel_rfl
theorem Z4:bC Tryz.prog Tryz.f52=some (bW A52):=by kernel_rfl
theorem adx:bC Tryz.prog Tryz.f53=some (bW A53):=by kernel_rfl
theorem aaI:bC Tryz.prog Tryz.f54=some (bW A54):=by kernel_rfl
theorem ZT:bC Tryz.prog Tryz.f55=some (bW VK):=by kernel_rfl
theorem ZB:bC Tryz.prog Tryz.f56=some (bW A56):=by kernel_rfl
theorem aaw:bC Tryz.prog Tryz.f57=some (bW A57):=by kernel_rfl
theorem aac:bC Tryz.prog Tryz.f58=some (bW A58):=by kernel_rfl
theorem Zy:bC Tryz.prog Tryz.f59=some (bW A59):=by kernel_rfl
theorem Y7:bC Tryz.prog Tryz.f60=some (bW A60):=by kernel_rfl
theorem ZA:bC Tryz.prog Tryz.f61=some (bW A61):=by kernel_rfl
theorem aaE:bC Tryz.prog Tryz.f62=some (bW A62):=by kernel_rfl
theorem ZY:bC Tryz.prog Tryz.f64=some (bW A64):=by kernel_rfl
theorem aaq:bC Tryz.prog Tryz.f65=some (bW A65):=by kernel_rfl
theorem aea:bC Tryz.prog Tryz.f66=some (bW A66):=by kernel_rfl
theorem aaJ:bC Tryz.prog Tryz.f67=some (bW A67):=by kernel_rfl
theorem acf:bC Tryz.prog Tryz.f68=some (bW A68):=by kernel_rfl
theorem aaG:bC Tryz.prog Tryz.f69=some (bW A69):=by kernel_rfl
theorem ZE:bC Tryz.prog Tryz.f70=some (bW A70):=by kernel_rfl
theorem Z0:bC Tryz.prog Tryz.f71=some (bW A71):=by kernel_rfl
theorem acu:bC Tryz.prog Tryz.f72=some (bW A72):=by kernel_rfl
theorem ada:bC Tryz.prog Tryz.f74=some (bW A74):=by kernel_rfl
theorem adw:bC Tryz.prog Tryz.f75=some (bW A75):=by kernel_rfl
theorem ac4:bC Tryz.prog Tryz.f76=some (bW A76):=by kernel_rfl
theorem ZC:bC Tryz.prog Tryz.f77=some (bW A77):=by kernel_rfl
theorem aam:bC Tryz.prog Tryz.f78=some (bW A78):=by kernel_rfl
theorem ZX:bC Tryz.prog Tryz.f79=some (bW A79):=by kernel_rfl
theorem Zo:bC Tryz.prog Tryz.f80=some (bW A80):=by kernel_rfl
theorem aaj:bC Tryz.prog Tryz.f81=some (bW Vr):=by kernel_rfl
theorem aaO:bC Tryz.prog Tryz.f82=some (bW A82):=by kernel_rfl
theorem ZO:bC Tryz.prog Tryz.f83=some (bW VH):=by kernel_rfl
theorem aae:bC Tryz.prog Tryz.f86=some (bW A86):=by kernel_rfl
theorem aci:bC Tryz.prog Tryz.f87=some (bW A87):=by kernel_rfl
theorem ab6:bC Tryz.prog Tryz.f90=some (bW A90):=by kernel_rfl
theorem ZM:bC Tryz.prog Tryz.f91=some (bW A91):=by kernel_rfl
theorem aak:bC Tryz.prog Tryz.f92=some (bW A92):=by kernel_rfl
theorem aaQ:bC Tryz.prog Tryz.f93=some (bW A93):=by kernel_rfl
theorem Ze:bC Tryz.prog Tryz.f95=some (bW A95):=by kernel_rfl
theorem ab1:bC Tryz.prog Tryz.f96=some (bW A96):=by kernel_rfl
theorem Vv:bC Tryz.prog Tryz.f109=some (bW Ui):=by kernel_rfl
theorem Vj:bC Tryz.prog Tryz.f110=some (bW Uw):=by kernel_rfl
theorem Xe:BF Tryz.prog Uc:=⟨⟨_,Tryz.func3,tt3⟩,⟨_,Tryz.func4,tt4⟩,⟨_,Tryz.func6,tt6⟩,⟨_,Tryz.func7,tt7⟩,⟨_,Tryz.func8,tt8⟩,⟨_,Tryz.func9,tt9⟩,⟨_,Tryz.func10,Zg⟩,⟨_,Tryz.func11,acV⟩,⟨_,Tryz.func12,ab3⟩,⟨_,Tryz.func13,ael⟩,⟨_,Tryz.func14,aex⟩,⟨_,Tryz.func15,Y5⟩,⟨_,Tryz.func16,Zw⟩,⟨_,Tryz.func17,adU⟩,⟨_,Tryz.func18,aeS⟩,⟨_,Tryz.func19,ad2⟩,⟨_,Tryz.func20,adW⟩,⟨_,Tryz.func21,adZ⟩,⟨_,Tryz.func22,ZL⟩,⟨_,Tryz.func23,Y9⟩,⟨_,Tryz.func24,ZV⟩,⟨_,Tryz.func25,acI⟩,⟨_,Tryz.func27,aau⟩,⟨_,Tryz.func28,Zi⟩,⟨_,Tryz.func29,Zr⟩,⟨_,Tryz.func30,ZW⟩,⟨_,Tryz.func31,adR⟩,⟨_,Tryz.func32,acg⟩,⟨_,Tryz.func33,ab8⟩,⟨_,Tryz.func34,Zd⟩,⟨_,Tryz.func35,aaU⟩,⟨_,Tryz.func36,ZR⟩,⟨_,Tryz.func37,ab9⟩,⟨_,Tryz.func38,aeG⟩,⟨_,Tryz.func39,ac0⟩,⟨_,Tryz.func40,aah⟩,⟨_,Tryz.func41,aaV⟩,⟨_,Tryz.func42,acR⟩,⟨_,Tryz.func43,ae0⟩,⟨_,Tryz.func44,adL⟩,⟨_,Tryz.func45,aen⟩,⟨_,Tryz.func46,acw⟩,⟨_,Tryz.func47,acn⟩,⟨_,Tryz.func48,adC⟩,⟨_,Tryz.func49,aeJ⟩,⟨_,Tryz.func50,adt⟩,⟨_,Tryz.func52,Z4⟩,⟨_,Tryz.func53,adx⟩,⟨_,Tryz.func54,aaI⟩,⟨_,Tryz.func56,ZB⟩,⟨_,Tryz.func57,aaw⟩,⟨_,Tryz.func58,aac⟩,⟨_,Tryz.func59,Zy⟩,⟨_,Tryz.func60,Y7⟩,⟨_,Tryz.func61,ZA⟩,⟨_,Tryz.func62,aaE⟩,⟨_,Tryz.func64,ZY⟩,⟨_,Tryz.func65,aaq⟩,⟨_,Tryz.func66,aea⟩,⟨_,Tryz.func67,aaJ⟩,⟨_,Tryz.func68,acf⟩,⟨_,Tryz.func69,aaG⟩,⟨_,Tryz.func70,ZE⟩,⟨_,Tryz.func71,Z0⟩,⟨_,Tryz.func72,acu⟩,⟨_,Tryz.func74,ada⟩,⟨_,Tryz.func75,adw⟩,⟨_,Tryz.func76,ac4⟩,⟨_,Tryz.func77,ZC⟩,⟨_,Tryz.func78,aam⟩,⟨_,Tryz.func79,ZX⟩,⟨_,Tryz.func80,Zo⟩,⟨_,Tryz.func82,aaO⟩,⟨_,Tryz.func86,aae⟩,⟨_,Tryz.func87,aci⟩,⟨_,Tryz.func90,ab6⟩,⟨_,Tryz.func91,ZM⟩,⟨_,Tryz.func92,aak⟩,⟨_,Tryz.func93,aaQ⟩,⟨_,Tryz.func95,Ze⟩,⟨_,Tryz.func96,ab1⟩,⟨_,Tryz.func109,Vv⟩,⟨_,Tryz.func110,Vj⟩,⟨_,Tryz.func26,Z9⟩,⟨_,Tryz.func51,ZU⟩,⟨_,Tryz.func55,ZT⟩,⟨_,Tryz.func81,aaj⟩,⟨_,Tryz.func83,ZO⟩,trivial⟩
theorem UJ:BF Tryz.prog Z7:=⟨⟨_,Tryz.func5,tt5⟩,⟨_,Tryz.func8,tt8⟩,⟨_,Tryz.func10,Zg⟩,⟨_,Tryz.func15,Y5⟩,⟨_,Tryz.func16,Zw⟩,⟨_,Tryz.func22,ZL⟩,⟨_,Tryz.func23,Y9⟩,⟨_,Tryz.func24,ZV⟩,⟨_,Tryz.func26,Z9⟩,⟨_,Tryz.func27,aau⟩,⟨_,Tryz.func28,Zi⟩,⟨_,Tryz.func29,Zr⟩,⟨_,Tryz.func30,ZW⟩,⟨_,Tryz.func34,Zd⟩,⟨_,Tryz.func35,aaU⟩,⟨_,Tryz.func36,ZR⟩,⟨_,Tryz.func40,aah⟩,⟨_,Tryz.func41,aaV⟩,⟨_,Tryz.func51,ZU⟩,⟨_,Tryz.func52,Z4⟩,⟨_,Tryz.func54,aaI⟩,⟨_,Tryz.func55,ZT⟩,⟨_,Tryz.func56,ZB⟩,⟨_,Tryz.func57,aaw⟩,⟨_,Tryz.func58,aac⟩,⟨_,Tryz.func59,Zy⟩,⟨_,Tryz.func60,Y7⟩,⟨_,Tryz.func61,ZA⟩,⟨_,Tryz.func62,aaE⟩,⟨_,Tryz.func64,ZY⟩,⟨_,Tryz.func65,aaq⟩,⟨_,Tryz.func67,aaJ⟩,⟨_,Tryz.func69,aaG⟩,⟨_,Tryz.func70,ZE⟩,⟨_,Tryz.func71,Z0⟩,⟨_,Tryz.func77,ZC⟩,⟨_,Tryz.func78,aam⟩,⟨_,Tryz.func79,ZX⟩,⟨_,Tryz.func80,Zo⟩,⟨_,Tryz.func81,aaj⟩,⟨_,Tryz.func82,aaO⟩,⟨_,Tryz.func83,ZO⟩,⟨_,Tryz.func86,aae⟩,⟨_,Tryz.func91,ZM⟩,⟨_,Tryz.func92,aak⟩,⟨_,Tryz.func93,aaQ⟩,⟨_,Tryz.func95,Ze⟩,⟨_,Tryz.func109,Vv⟩,⟨_,Tryz.func110,Vj⟩,trivial⟩
theorem VZ:∃c,Tryz.f63.body=some c:=by
 have h:Tryz.f63.body.isSome=true:=by kernel_rfl
 cases e:Tryz.f63.body with
 |none=>rw[e] at h;cases h
 |some c=>exact⟨c,rfl⟩
theorem TQ (args:Array Value) (w:World):(callFunc 63 args).run Tryz.prog w= .ok (.enter 63 args) w:=by
 obtain⟨c,h⟩:=VZ
 exact _root_.Go.MuLone.run_callFunc_enter Tryz.func63 (by kernel_rfl) h args w
theorem Xu:∃c,Tryz.f73.body=some c:=by
 have h:Tryz.f73.body.isSome=true:=by kernel_rfl
 cases e:Tryz.f73.body with
 |none=>rw[e] at h;cases h
 |some c=>exact⟨c,rfl⟩
theorem TW (args:Array Value) (w:World):(callFunc 73 args).run Tryz.prog w= .ok (.enter 73 args) w:=by
 obtain⟨c,h⟩:=Xu
 exact _root_.Go.MuLone.run_callFunc_enter Tryz.func73 (by kernel_rfl) h args w
theorem QM:uh Tryz.prog 63 zL:=UW insL rfl TQ
theorem Wp:uh Tryz.prog 73 CW:=QG sortL rfl TW
theorem Te:rH Tryz.prog Rm:=⟨QM,Wp,Sy Tryz.checked.mixed (ND UJ (ps:=[(63,zL)]) (show rH Tryz.prog [(63,zL)] from⟨QM,trivial⟩)) (fn:=A5) rfl aeV,trivial⟩
theorem XL:Ej Tryz.prog E:=ND Xe Te
end Go.Proofs.YthmnnlpbnhkhkaaGreat
