/-
  Texts that the claim hangs on, part 9.
-/
import Derived.Test.YtbijepcediaghaaGreatDoorR7
import Derived.ReadAgain
import Derived.ChangeBears
import Derived.Shelf.LaysC
import Derived.Ground.NamesProg
import Derived.Test.YtbijepcediaghaaGreatDoorProg
import Derived.Conc.MuLone
import Derived.KernelRfl
set_option linter.unusedSimpArgs false
set_option linter.unusedVariables false
namespace Go.Proofs.YtbijepcediaghaaGreatDoor
open Go.Ab
theorem ajn {x y:Nat} {k:AV→Bool} (h0:0<y) (l:x≤1000000000) (s:k (.int .i64 ((x/y:Nat):Int))=true):bK (dV .quo (.int .i64 (x:Int)) (.int .i64 (y:Int))) k=true:=by
 have:=Nat.div_le_self x y;rw[gM _ _ _ _ rfl];simp only[lQ,qd];rw[decide_eq_false (by omega),cond_false, ←Int.ofNat_tdiv];generalize x/y=q at this s ⊢;rw[wrap64 (by omega) (by omega)];exact s
theorem ajg {x y:Nat} {k:AV→Bool} (h0:0<y) (s:k (.int .i64 ((x%y:Nat):Int))=true):bK (dV .rem (.int .i64 (x:Int)) (.int .i64 (y:Int))) k=true:=by
 rw[gM _ _ _ _ rfl];simp only[lQ,qd];rw[decide_eq_false (by omega),cond_false, ←Int.ofNat_tmod];exact s
section
variable {h b:ah} {L:gB} {S:List Sl} {F:List (ah→Prop)} {K:aK} {n:Nat}
theorem x7 {l:List Cd} {va vb:AV} {es es':List (List AV)} (hB:gH l≤big) (hn:3*gH l+8≤n) (A:Cx h L S (Ext b :: F)) (V:View b 19 va es) (R:eY b es l) (V':View b 19 vb es') (R':eY b es' l) (k:∀h,Cx h L S (Ext b :: F)→K (.bool true) h=true):ak E n (.func 7) [va,vb] h K=true:=
 anl hB hn A.ok (V.ext A.f0) (eY.ext A.f0 R) (V'.ext A.f0) (eY.ext A.f0 R') fun h' e o=>k h' (A.ext e o)
theorem x8' {l:List Cd} {v:AV} {es:List (List AV)} (hB:gH l≤big) (hn:3*gH l+9≤n) (A:Cx h L S (Ext b :: F)) (V:View b 19 v es) (R:eY b es l) (k:∀h,Cx h L S (Ext b :: F)→K (.bool (Je l)) h=true):ak E n (.func 8) [v] h K=true:=
 x8 hB hn A.ok (V.ext A.f0) (eY.ext A.f0 R) fun h' e o=>k h' (A.ext e o)
theorem pairs {B6:AV→AV→ah→Bool} {x1 x3 va vx vy vw:AV} {la lb:List Cd} {ea ex ey ew:List (List AV)} (hn:1000000000≤n) (wa:uU la) (wb:uU lb) (ha:gH la≤34000) (hb:gH lb≤34000)
 (A:Cx h L S (Ext b :: F)) (Va:View b 19 va ea) (Ra:eY b ea la) (Vx:View b 1 vx ex) (Rx:eH b ex (fE la)) (Vy:View b 1 vy ey) (Ry:eH b ey (fE lb)) (Vw:View b 1 vw ew) (Rw:eH b ew (fE (la++lb)))
 (h1:(fE la).length≤512) (h2:(fE lb).length≤512) (h3:∀z∈fE (la++lb),gH z≤10000000)
 (next:∀h b',Ext b b'→Cx h L S (Ext b' :: F)→Ec (ak E n) n B6 x1 x3 h K=true):aaq (ak E n) n B6 x1 x3 va vx vy vw h K=true:=by
 have hlim:lim=4611686018427387904:=rfl;have hmo:most=1099511627776:=rfl;have hbig:big=1000000000:=rfl;obtain⟨x1',x2'⟩:=Rx.get;obtain⟨y1',y2'⟩:=Ry.get;obtain⟨w1',w2'⟩:=Rw.get;have ew:=acC la lb;have el:(fE (la++lb)).length=(fE la).length*(fE lb).length:=by rw[ew,AO (· ++·)]
 have hm:(fE la).length*(fE lb).length≤512*512:=Nat.mul_le_mul h1 h2;have cab:gH (la++lb)≤68000:=by rw[xJ];omega
 have gd:=Q6 (W:=100000) (by omega) (Df la lb wa wb) (by omega);unfold aaq;refine dZ (Vw.ext A.f0) (dZ (Vx.ext A.f0) (dZ (Vy.ext A.f0) ?_));rw[x1',y1',w1'];refine aep (by omega) (jC ?_);rw[decide_eq_true (by rw[el])];refine bE ?_;unfold acT;have fin:∀h b',Ext b b'→Cx h L S (Ext b' :: F)→YU (ak E n) n B6 x1 x3 va vx h K=true:=by
  intro h b1 e1 A;unfold YU;refine x8' (by omega) (by omega) A (Va.ext e1) (eY.ext e1 Ra) fun h A=>aD rfl ?_;unfold MJ;cases hc:Je la with
  |false=>
   refine eZ (eZ (eZ (eZ ?_)));exact oh (oh (oh (oh (zM (by unfold CZ;exact oh (eZ (gD (bE (next h b1 e1 A)))))))))
  |true=>
   have e:=aei wa hc;obtain⟨v,ev,hv,V,R⟩:=x2' 0 la (by rw[e];rfl);rw[e] at x1';refine cO (bU (cO (dZ (Vx.ext (e1.trans A.f0)) ?_)));rw[x1'];refine cO (jC (cO (bU (dx (bU (dx ?_))))));refine nV (i:=0) (Vx.ext (e1.trans A.f0)) hv rfl ?_;refine dx (bU (lK (x7 (by omega) (by omega) A (V.ext e1) (eY.ext e1 R) (Va.ext e1) (eY.ext e1 Ra) fun h A=>aD rfl ?_)));unfold CZ;exact dx (fP (cO (gD (fH (bE (next h b1 e1 A))))))
 have lp:∀(m k:Nat) (h b1:ah),k≤(fE (la++lb)).length→(fE (la++lb)).length-k<m→Ext b b1→Cx h L S (Ext b1 :: F)→Tx (ak E n) n B6 m x1 x3 va vx vy vw (.int .i64 (k:Int)) h K=true:=by
  intro m
  induction m with
  |zero=>intro k h b1 _ hm;omega
  |succ m ih=>
   intro k h b1 hk hm e1 A;rw[aeT];unfold Zd;refine dZ (Vw.ext (e1.trans A.f0)) (fT ?_);rw[w1'];by_cases hlt:k<(fE (la++lb)).length
   ·rw[decide_eq_true hlt];have hlt':=hlt;rw[el] at hlt';have hy0:0<(fE lb).length:=Nat.pos_of_ne_zero fun e=>by rw[e] at hlt';simp at hlt'
    have hq:k/(fE lb).length<(fE la).length:=(Nat.div_lt_iff_lt_mul hy0).2 hlt';have hr:k%(fE lb).length<(fE lb).length:=Nat.mod_lt _ hy0;have hz:(fE (la++lb))[k]? =some (fE (la++lb))[k]:=List.getElem?_eq_getElem hlt;have hpg:=OV (· ++·) (fE la) (fE lb) k hlt';have hxq:(fE la)[k/(fE lb).length]? =some (fE la)[k/(fE lb).length]:=List.getElem?_eq_getElem hq;have hyr:(fE lb)[k%(fE lb).length]? =some (fE lb)[k%(fE lb).length]:=List.getElem?_eq_getElem hr;generalize(fE la)[k/(fE lb).length]=xq at hxq;generalize(fE lb)[k%(fE lb).length]=yr at hyr;generalize(fE (la++lb))[k]=z at hz;have hzz:z=xq++yr:=by
     have q:(fE (la++lb))[k]? =some (xq++yr):=by rw[ew];refine hpg.trans ?_;rw[hxq,hyr];rfl
     rw[hz] at q;exact Option.some.inj q
    obtain⟨v1,qo,hv1,V1,R1⟩:=x2' _ xq hxq;obtain⟨v2,Ue,hv2,V2,R2⟩:=y2' _ yr hyr;obtain⟨v3,ev3,hv3,V3,R3⟩:=w2' _ z hz;have hzm:=List.mem_of_getElem? hz;have hzs:=h3 z hzm;have hzc:=Yg z (gd z hzm);have hlen:=pO z;rw[hzz,List.length_append] at hlen;rw[hzz] at hzs;obtain⟨id,g,j,ld⟩:=Vy.atE hv2;have ly:∀{h b2:ah} {S:List Sl} {k:AV→Bool},Ext b b2→Cx h L S (Ext b2 :: F)→k (.int .i64 ((fE lb).length:Int))=true→fI vy k=true:=fun e A q=>dZ (Vy.ext (e.trans A.f0)) (by rw[y1'];exact q);have l1:=R1.len;have l2:=R2.len;refine bN (ly e1 A (ajn hy0 (by omega) (nV (Vx.ext (e1.trans A.f0)) hv1 rfl (ly e1 A (ajg hy0 ?_)))));refine uP ((ld _ (e1.trans A.f0)).1 _) (aU (by rw[(ld _ (e1.trans A.f0)).2];rfl) ?_);refine jo (A.slc 19) rfl (V1.ext (e1.trans A.f0)).src ?_ ?_ fun u1 h A _=> ?_
    ·rw[l1];show(0+xq.length)*328≤most;omega
    ·rw[l1];show 0+xq.length≤most;omega
    refine ly e1 A (bI (iW.int _ _) (uP ((ld _ (e1.trans A.f0)).1 _) (bI (iW.ptr _ _ _ _) (aU (by rw[(ld _ (e1.trans A.f0)).2];rfl) (bI V2.iW ?_)))));refine jo A rfl (V2.ext (e1.trans A.f0)).src ?_ ?_ fun u2 h A _=> ?_
    ·rw[List.length_append,l1,l2];show(0+xq.length+yr.length)*328≤most;omega
    ·rw[List.length_append,l1,l2];show 0+xq.length+yr.length≤most;omega
    obtain⟨b2,e2,U,A⟩:=A.frz;have e12:=e1.trans e2;have RU:eY b2 (qo++Ue) z:=by rw[hzz];exact(eY.ext e12 R1).app (eY.ext e12 R2)
    refine nV (Vw.ext (e12.trans A.f0)) hv3 rfl ?_;have hzs':gH z≤10000000:=by rw[hzz];exact hzs
    refine x7 (by omega) (by omega) A (V3.ext e12) (eY.ext e12 R3) U RU fun h A=>aD rfl ?_;unfold K8;refine fP (dx (bU (dx (bU (dx (nV (Vw.ext (e12.trans A.f0)) hv3 rfl (lK ?_)))))));refine x8' (by omega) (by omega) A (V3.ext e12) (eY.ext e12 R3) fun h A=>aD rfl ?_;rw[hzc];unfold Mw;exact dx (fP (gD (bE (gZ (by omega) (ih (k+1) h b2 (by omega) (by omega) e12 A)))))
   ·rw[decide_eq_false hlt];exact bE (fin h b1 e1 A)
 exact lp n 0 h b (Nat.zero_le _) (by omega) (Ext.refl _) A
def D6 (b:ah) (l:List Cd) (u:AV) (e:Int):Prop:=(e=1)∨(e=0∧∃eu,View b 1 u eu∧eH b eu (fE l)∧(fE l).length≤512∧∀z∈fE l,kC.kCs z≤64)
theorem x6' {l:List Cd} {v:AV} {es:List (List AV)} (wf:uU l) (hw:gH l≤100000) (hn:2*FF≤n) (A:Cx h L S (Ext b :: F)) (V:View b 19 v es) (R:eY b es l)
 (k:∀h b' u e,Ext b b'→Cx h L S (Ext b' :: F)→D6 b' l u e→iB u=none→K (.tup [u, .int .i64 e]) h=true):ak E n (.func 6) [v] h K=true:=
 x6 (W:=100000) (by omega) (Nat.le_refl _) wf hw hn A V R (fun h b' e A=>k h b' _ 1 e A (.inl rfl) rfl) fun h b' u eu e A V R l1 k1=>k h b' u 0 e A (.inr ⟨rfl,eu,V,R,l1,k1⟩) (nZ V)
theorem both {B6:AV→AV→ah→Bool} {x1 x3 va vb:AV} {la lb:List Cd} {ea eb:List (List AV)} (hn:3*FF≤n) (wa:uU la) (wb:uU lb) (ha:gH la≤34000) (hb:gH lb≤34000)
 (A:Cx h L S (Ext b :: F)) (Va:View b 19 va ea) (Ra:eY b ea la) (Vb:View b 19 vb eb) (Rb:eY b eb lb)
 (next:∀h b',Ext b b'→Cx h L S (Ext b' :: F)→Ec (ak E n) n B6 x1 x3 h K=true):Yw (ak E n) n B6 x1 x3 va vb h K=true:=by
 have hmo:most=1099511627776:=rfl;have hff:FF=1000000000000000000:=rfl;have cab:gH (la++lb)≤68000:=by rw[xJ];omega
 unfold Yw;refine x6' wa (by omega) (by omega) A Va Ra fun h b1 vx e1 x1' A D1 p1=>aD rfl ?_;unfold MU;refine jY (kg ?_);refine x6' wb (by omega) (by omega) A (Vb.ext x1') (eY.ext x1' Rb) fun h b2 vy e2 x2' A D2 p2=>aD rfl ?_;unfold MB;refine jY (kg ?_);have x12':=x1'.trans x2';have l1:=Ra.len;have l2:=Rb.len;have c1:=pO la;have c2:=pO lb;refine jo (A.slc 19) rfl (Va.ext (x12'.trans A.f0)).src ?_ ?_ fun u1 h A _=> ?_
 ·rw[l1];show(0+la.length)*328≤most;omega
 ·rw[l1];show 0+la.length≤most;omega
 refine jo A rfl (Vb.ext (x12'.trans A.f0)).src ?_ ?_ fun u2 h A _=> ?_
 ·rw[List.length_append,l1,l2];show(0+la.length+lb.length)*328≤most;omega
 ·rw[List.length_append,l1,l2];show 0+la.length+lb.length≤most;omega
 obtain⟨b3,x3',U,A⟩:=A.frz;have x13:=x12'.trans x3';have RU:eY b3 (ea++eb) (la++lb):=(eY.ext x13 Ra).app (eY.ext x13 Rb);refine x6' (Df _ _ wa wb) (by omega) (by omega) A U RU fun h b4 vw e3 x4' A D3 p3=>aD rfl ?_;unfold ME;have x14:=x13.trans x4';refine jY (kg (jC ?_));rcases D1 with rfl |⟨rfl,ex,Vx,Rx,h1,_⟩
 ·exact eD (eD (fH (eD (eD (fH (bN (next h b4 x14 A)))))))
 refine dx (bU (dx (jC (gD ?_))));rcases D2 with rfl |⟨rfl,ey,Vy,Ry,h2,_⟩
 ·exact eD (eD (fH (bN (next h b4 x14 A))))
 refine dx (bU (dx (jC (gD ?_))));rcases D3 with rfl |⟨rfl,ew,Vw,Rw,h3,k3⟩
 ·exact bN (next h b4 x14 A)
 have gd:=Q6 (W:=100000) (by omega) (Df la lb wa wb) (by omega);have x24:=x3'.trans x4';refine bE (pairs (by omega) wa wb ha hb A (Va.ext x14) (eY.ext x14 Ra) (Vx.ext (x2'.trans x24)) (eH.ext (x2'.trans x24) Rx) (Vy.ext x24) (eH.ext x24 Ry) Vw Rw h1 h2 (fun z hz=> ?_) fun h b5 x A=>next h b5 (x14.trans x) A);have q1:=LU z (gd z hz);have q2:(100000+1)*kC.kCs z≤100001*64:=Nat.mul_le_mul (Nat.le_refl _) (k3 z hz);omega
theorem x3 {vL vS:AV} {ls:List Str} (hn:4*FF≤n) (hg:GvF∈F) (hL:vL.leaf=true) (V:View b 1 vS (ls.map sV)) (hb:∀s∈ls,∀b∈s,b<256) (A:Cx h L S (Ext b :: F)) (k:∀h,K (.bool true) h=true):ak E n (.func 3) [.agg [vL,vS]] h K=true:=by
 have hlim:lim=4611686018427387904:=rfl;have hff:FF=1000000000000000000:=rfl;obtain⟨n,rfl⟩:∃m,n=m+1:=⟨n-1,by omega⟩;apply d3;unfold s3;refine rC A rfl rfl (aF hL (aF V.leaf rfl)) fun q h A=> ?_;have wk:∀h,Y1 (ak E n) n h K=true:=by
  intro h;unfold Y1;obtain⟨m,rfl⟩:∃m,n=m+1:=⟨n-1,by omega⟩;exact x9 (aD rfl (k h))
 have lp:∀(m i:Nat) (h b1:ah),1≤i→i≤8→8-i<m→Ext b b1→Cx h (vr q [vL,vS] :: L) S (Ext b1 :: F)→abx (ak E n) n m (.ptr q 0 0 0) (.int .i64 (i:Int)) h K=true:=by
  intro m
  induction m with
  |zero=>intro i h b1 _ _ hm;omega
  |succ m ih=>
   intro i h b1 hi0 hi hm e A;have next:∀h b2,Ext b1 b2→Cx h (vr q [vL,vS] :: L) S (Ext b2 :: F)→i<8→Ec (ak E n) n (fun x1 x3 h=>abx (ak E n) n m x1 x3 h K) (.ptr q 0 0 0) (.int .i64 (i:Int)) h K=true:=by
    intro h b2 e2 A h8;unfold Ec;exact gZ (by omega) (ih (i+1) h b2 (by omega) (by omega) (by omega) (e.trans e2) A)
   have V1:=V.ext e;rw[aiI];unfold ae3;refine ay (aJ A.var rfl (dZ (V1.ext A.f0) (fT ?_)));rw[List.length_map];by_cases hlt:i<ls.length
   ·rw[decide_eq_true hlt];refine cO (bU (cO (mP (fH ?_))));by_cases h8:i<8
    ·rw[decide_eq_true (show((i:Nat):Int)<8 by omega)];have hs:ls[i]? =some ls[i]:=List.getElem?_eq_getElem hlt;have hms:=List.getElem_mem hlt;generalize ls[i]=s at hs hms;have hs':(ls.map sV)[i]? =some (sV s):=by rw[List.getElem?_map,hs];rfl
     have hlt0:i-1<ls.length:=by omega
     have ht:ls[i-1]? =some ls[i-1]:=List.getElem?_eq_getElem hlt0;have hmt:=List.getElem_mem hlt0;generalize ls[i-1]=t at ht hmt;have ht':(ls.map sV)[i-1]? =some (sV t):=by rw[List.getElem?_map,ht];rfl
     have ei:((i:Nat):Int)-1=((i-1:Nat):Int):=by omega
     obtain⟨id,g,j,ld⟩:=V1.atE hs';refine bN ?_;unfold adR;refine ay (aJ A.var rfl (nV (V1.ext A.f0) hs' rfl (ql (yh ?_))));by_cases hsl:(3000:Int)<(s.length:Int)
     ·rw[decide_eq_true hsl];exact eD (eD (eD (eD (eD (eD (eD (eD (fH (bN (next h b1 (Ext.refl _) A h8))))))))))
     rw[decide_eq_false hsl];refine dx (ay (dx (aJ A.var rfl (dx (bU (dx (Hg (by omega) (by omega) ?_)))))));rw[ei];refine dx (nV (V1.ext A.f0) ht' rfl (dx (ql (dx (yh (gD ?_))))));by_cases htl:(3000:Int)<(t.length:Int)
     ·rw[decide_eq_true htl];exact bN (next h b1 (Ext.refl _) A h8)
     rw[decide_eq_false htl];refine bE ?_;unfold aeM;refine ay (aJ A.var rfl (Hg (by omega) (by omega) ?_));rw[ei];refine nV (V1.ext A.f0) ht' rfl (ay (aJ A.var rfl (uP ((ld _ A.f0).1 _) (aU (by rw[(ld _ A.f0).2];rfl) ?_))));refine x4 (by omega) (hb t hmt) (by omega) hg A fun h b2 va ea la e2 A Va Ra wa ca=>aD (nZ Va) ?_;refine aJ A.var rfl (bI (V1.iW) (uP ((ld _ (e2.trans A.f0)).1 _) (bI (iW.ptr _ _ _ _) (aU (by rw[(ld _ (e2.trans A.f0)).2];rfl) (bI (iW.str _) ?_)))));refine x4 (by omega) (hb s hms) (by omega) hg A fun h b3 vb eb lb e3 A Vb Rb wb cb=>aD (nZ Vb) ?_;have e23:=e2.trans e3;refine qz _ n h b3 la va ea 0 _ _ _ _ (Nat.le_refl _) (by omega) (by omega) (by omega) A (Va.ext e3) (eY.ext e3 Ra) fun h m1 hm1 A=>aD rfl ?_;unfold Mr;refine qz _ n h b3 lb vb eb 0 _ _ _ _ (Nat.le_refl _) (by omega) (by omega) (by omega) A Vb Rb fun h m2 hm2 A=>aD rfl ?_;unfold MK;refine uj (x:=m1) (y:=m2) (by omega) (yh ?_);by_cases h60:(60:Int)<((m1+m2:Nat):Int)
     ·rw[decide_eq_true h60];exact bN (next h b3 e23 A h8)
     rw[decide_eq_false h60];exact bE (both (by omega) wa wb ca cb A (Va.ext e3) (eY.ext e3 Ra) Vb Rb fun h b4 e4 A=>next h b4 (e23.trans e4) A h8)
    ·rw[decide_eq_false (show ¬((i:Nat):Int)<8 by omega)];exact bE (wk h)
   ·rw[decide_eq_false hlt];exact eZ (eZ (gD (bE (wk h))))
 exact lp n 1 h b (Nat.le_refl _) (by omega) (by omega) (Ext.refl _) A
end
end Go.Proofs.YtbijepcediaghaaGreatDoor
namespace Go.Ab
section
variable {H:Type} {enc:TypeId×Value→H} {P:Program} {W:World} {T:TypeId→Prop}
theorem Xo (K:Kids P T) (hz:∀t e,T t→P.underlying t=some (.slice e)→0<P.cellsOf e) {fuel:Nat} {t:TypeId} (hT:T t) {cs:List Value} {d:DataW H} {ps:List MemPlace}
 (ht:DataW.trod enc P W 0 (fun _=>true) true fuel t cs=some (d,ps)) {W':World} {sp':Nat→Bool} (hW:∀k:Nat,k<W.heap.size→W'.heap[k]? =W.heap[k]?) (hp:∀p∈ps,sp' p.block=true):DataW.trod enc P W' 0 sp' true fuel t cs=some (d,ps):=by
 refine DataW.trod_respare K hz _ _ _ _ hT (DataW.trod_carry _ _ _ _ ht fun p hpp=> ?_) hp;have g:=DataW.trod_good K (fun h=>by cases h) _ _ _ _ hT ht p hpp;have lt:∀{b:Nat} {o:Obj},W.heap[b]? =some o→b<W.heap.size:=fun e=>(Array.getElem?_eq_some_iff.1 e).1;cases p with
 |cell b off=>
  have⟨v,hv,_⟩:=g;show W'.cell? _=W.cell? _;have hb:b<W.heap.size:=by
   simp only[World.cell?] at hv;split at hv
   ·rename_i h;exact lt h
   ·cases hv
  simp only[World.cell?];rw[hW _ hb]
 |map b=>
  exact have⟨es,c,hv⟩:=g;hW _ (lt hv)
theorem In.any (K:Kids P T) (hz:∀t e,T t→P.underlying t=some (.slice e)→0<P.cellsOf e) {t e:TypeId} (hT:T t) (hu:P.underlying t=some (.slice e)):
 In enc P W true t 1 (fun _:Unit=>0) (fun _ a _=>∃v,a=[v]∧v.leaf=true):=by
 intro fuel cs d ps ht φ h HH;refine⟨fun W' sp' hW hp=>Xo K hz hT ht hW hp, ?_⟩;have g:=DataW.trod_good K (fun h=>by cases h) _ _ _ _ hT ht;cases fuel with
 |zero=>simp[DataW.trod] at ht
 |succ fuel=>
  unfold DataW.trod at ht;rw[hu] at ht;split at ht<;>simp only[reduceCtorEq,Option.some.injEq,TypeDesc.slice.injEq] at * <;>try(cases ht;done)
  ·exact⟨φ,h,[.au],(),φ.le_refl,Ext.refl h,HH, .cons .au .nil,rfl,rfl,⟨_,rfl,rfl⟩,Nat.zero_le _⟩
  ·rename_i e' a len cap h1;subst h1;split at ht
   rotate_left
   ·cases ht
   rename_i hc;obtain⟨c1,c2,c3⟩:=hc;by_cases hcap:cap=0
   ·subst hcap;have:len=0:=by omega
    subst this;exact⟨φ,h,[.emp],(),φ.le_refl,Ext.refl h,HH, .cons .emp .nil,rfl,rfl,⟨_,rfl,rfl⟩,Nat.zero_le _⟩
   have hpos:=hz _ _ hT hu;simp only[if_true] at ht;cases hel:(List.range len).mapM (fun i=>(W.cells? 0 (a.add (i*P.cellsOf e)) (P.cellsOf e)).bind (DataW.trod enc P W 0 (fun _=>true) true fuel e)) with
   |none=>rw[hel] at ht;cases ht
   |some elems=>
   rw[hel] at ht;simp only[Option.bind_some] at ht;cases hsp:(List.range (cap-len)).mapM (fun j=>(W.cells? 0 (a.add ((len+j)*P.cellsOf e)) (P.cellsOf e)).bind (DataW.trod enc P W 0 (fun _=>true) true fuel e)) with
   |none=>rw[hsp] at ht;cases ht
   |some rest=>
   have h0:∃cells,W.cells? 0 (a.add (0*P.cellsOf e)) (P.cellsOf e)=some cells:=by
    cases len with
    |zero=>
     obtain⟨k,rfl⟩:∃k,cap=k+1:=⟨cap-1,by omega⟩;rw[show k+1-0=k+1 from rfl,List.range_succ_eq_map] at hsp
     obtain⟨y,m,hy,_,_⟩:=pQ hsp;cases hq:W.cells? 0 (a.add ((0+0)*P.cellsOf e)) (P.cellsOf e) with
     |none=>rw[hq] at hy;cases hy
     |some c=>exact⟨c,rfl⟩
    |succ len=>
     rw[List.range_succ_eq_map] at hel;obtain⟨y,m,hy,_,_⟩:=pQ hel;cases hq:W.cells? 0 (a.add (0*P.cellsOf e)) (P.cellsOf e) with
     |none=>rw[hq] at hy;cases hy
     |some c=>exact⟨c,rfl⟩
   obtain⟨cells,k1⟩:=h0;obtain⟨w1,w2⟩:=MN hpos k1;have hv:∃v,cells[0]? =some v:=⟨cells[0]'(by omega),by simp⟩;obtain⟨v,hv⟩:=hv;have hcell:=w2 0 v hv;obtain⟨oc,ot,of,hob⟩:∃c t f,W.heap[a.block]? =some (.cells c t f):=by
    simp only[World.cell?] at hcell;split at hcell
    ·rename_i c t f hh;exact⟨c,t,f,hh⟩
    ·cases hcell
   have hspot:a=⟨a.block,a.off,none⟩:=by
    obtain⟨_,hl,hcc⟩:=World.cells?_some k1;have h0:=hcc 0 hpos;rw[hv] at h0;have e0:(a.add (0*P.cellsOf e)).add 0=a.add 0:=by unfold Addr.add;simp
    rw[e0] at h0;have:=qY h0;unfold Addr.add at this;simpa using this
   let L:Loc:=⟨a.block,a.off,P.cellsOf e,cap,cap⟩
   have H3:=bR.pushRO (L:=L) HH (r:= .dead) rfl (Array.getElem?_eq_some_iff.1 hob).1 (fun ds=>by
    show W.heap[a.block]? ≠_;rw[hob];intro e;cases e) trivial
   refine⟨_,_,[.slc h.sz 0 0 len cap true],(),dD.le_add L (HH.fresh 0),⟨by simp,fun id o e=> ?_⟩,H3, ?_,rfl,rfl,⟨_,rfl,rfl⟩,Nat.zero_le _⟩
   ·rw[ah.get_push];have:id<h.sz:=by
     rcases Nat.lt_or_ge id h.sz with h1 |h1
     ·exact h1
     ·rw[HH.gone id h1] at e;cases e
    rw[if_neg (by omega)];exact e
   ·rw[hspot];exact .cons (.slc (L:=L) (dD.add_same _ _ _ _) c2 (by simp[L]) (by simp[L]) (Nat.le_refl _) (fun _=>rfl) (fun _=>by simp[L])) .nil
end
end Go.Ab
namespace Go.Proofs
open Go.Shelf
def YtbijepcediaghaaGreatDoor.pintL_ren:Go.Shelf.Ren:=⟨fun |174=>76 |247=>83 |245=>84 |287=>102 |279=>103 |280=>104 |281=>105 |282=>106 |321=>116 |322=>117 |316=>118 |171=>120 |205=>119 |243=>125 |246=>128 |283=>131 |284=>132 |285=>133 |286=>134 |129=>136 |317=>135 |318=>137 |319=>138 |320=>139 |337=>140 |338=>141 |n=>n,fun |9=>9 |3=>3 |2=>2 |75=>142 |85=>143 |4=>4 |167=>166 |5=>5 |53=>167 |175=>168 |46=>170 |168=>171 |37=>178 |0=>0 |210=>186 |21=>21 |127=>190 |145=>193 |143=>191 |171=>198 |173=>201 |212=>204 |51=>205 |20=>20 |213=>206 |232=>209 |233=>210 |80=>115 |n=>n,fun |15=>0 |16=>1 |17=>3 |18=>4 |19=>5 |n=>n⟩
theorem YtbijepcediaghaaGreatDoor.pintL:Go.Proofs.LaysC.n174 Tryz.prog YtbijepcediaghaaGreatDoor.pintL_ren:={
 mixed:=by kernel_rfl
 f129:=Tryz.func136.trans (congrArg some (by kernel_rfl))
 f171:=Tryz.func120.trans (congrArg some (by kernel_rfl))
 f174:=Tryz.func76.trans (congrArg some (by kernel_rfl))
 f205:=Tryz.func119.trans (congrArg some (by kernel_rfl))
 f243:=Tryz.func125.trans (congrArg some (by kernel_rfl))
 f245:=Tryz.func84.trans (congrArg some (by kernel_rfl))
 f246:=Tryz.func128.trans (congrArg some (by kernel_rfl))
 f247:=Tryz.func83.trans (congrArg some (by kernel_rfl))
 f279:=Tryz.func103.trans (congrArg some (by kernel_rfl))
 f280:=Tryz.func104.trans (congrArg some (by kernel_rfl))
 f281:=Tryz.func105.trans (congrArg some (by kernel_rfl))
 f282:=Tryz.func106.trans (congrArg some (by kernel_rfl))
 f283:=Tryz.func131.trans (congrArg some (by kernel_rfl))
 f284:=Tryz.func132.trans (congrArg some (by kernel_rfl))
 f285:=Tryz.func133.trans (congrArg some (by kernel_rfl))
 f286:=Tryz.func134.trans (congrArg some (by kernel_rfl))
 f287:=Tryz.func102.trans (congrArg some (by kernel_rfl))
 f316:=Tryz.func118.trans (congrArg some (by kernel_rfl))
 f317:=Tryz.func135.trans (congrArg some (by kernel_rfl))
 f318:=Tryz.func137.trans (congrArg some (by kernel_rfl))
 f319:=Tryz.func138.trans (congrArg some (by kernel_rfl))
 f320:=Tryz.func139.trans (congrArg some (by kernel_rfl))
 f321:=Tryz.func116.trans (congrArg some (by kernel_rfl))
 f322:=Tryz.func117.trans (congrArg some (by kernel_rfl))
 f337:=Tryz.func140.trans (congrArg some (by kernel_rfl))
 f338:=Tryz.func141.trans (congrArg some (by kernel_rfl))
 t0:=Tryz.underlying0
 a0:=Tryz.isAgg0
 z0:=Tryz.sizeOf0
 v0:=Tryz.zeroValue0
 t2:=Tryz.underlying2
 a2:=Tryz.isAgg2
 z2:=Tryz.sizeOf2
 v2:=Tryz.zeroValue2
 t3:=Tryz.underlying3
 a3:=Tryz.isAgg3
 z3:=Tryz.sizeOf3
 v3:=Tryz.zeroValue3
 t4:=Tryz.underlying4
 a4:=Tryz.isAgg4
 z4:=Tryz.sizeOf4
 v4:=Tryz.zeroValue4
 t5:=Tryz.underlying5
 a5:=Tryz.isAgg5
 z5:=Tryz.sizeOf5
 v5:=Tryz.zeroValue5
 t9:=Tryz.underlying9
 a9:=Tryz.isAgg9
 z9:=Tryz.sizeOf9
 v9:=Tryz.zeroValue9
 t20:=Tryz.underlying20
 a20:=Tryz.isAgg20
 z20:=Tryz.sizeOf20
 v20:=Tryz.zeroValue20
 t21:=Tryz.underlying21
 a21:=Tryz.isAgg21
 z21:=Tryz.sizeOf21
 v21:=Tryz.zeroValue21
 t37:=Tryz.underlying178
 a37:=Tryz.isAgg178
 z37:=Tryz.sizeOf178
 v37:=Tryz.zeroValue178
 t46:=Tryz.underlying170
 a46:=Tryz.isAgg170
 z46:=Tryz.sizeOf170
 v46:=Tryz.zeroValue170
 t51:=Tryz.underlying205
 a51:=Tryz.isAgg205
 z51:=Tryz.sizeOf205
 v51:=Tryz.zeroValue205
 t53:=Tryz.underlying167
 a53:=Tryz.isAgg167
 z53:=Tryz.sizeOf167
 v53:=Tryz.zeroValue167
 t75:=Tryz.underlying142
 a75:=Tryz.isAgg142
 z75:=Tryz.sizeOf142
 v75:=Tryz.zeroValue142
 t85:=Tryz.underlying143
 a85:=Tryz.isAgg143
 z85:=Tryz.sizeOf143
 v85:=Tryz.zeroValue143
 t127:=Tryz.underlying190
 a127:=Tryz.isAgg190
 z127:=Tryz.sizeOf190
 v127:=Tryz.zeroValue190
 t143:=Tryz.underlying191
 a143:=Tryz.isAgg191
 z143:=Tryz.sizeOf191
 v143:=Tryz.zeroValue191
 t145:=Tryz.underlying193
 a145:=Tryz.isAgg193
 z145:=Tryz.sizeOf193
 v145:=Tryz.zeroValue193
 t167:=Tryz.underlying166
 a167:=Tryz.isAgg166
 z167:=Tryz.sizeOf166
 v167:=Tryz.zeroValue166
 t168:=Tryz.underlying171
 a168:=Tryz.isAgg171
 z168:=Tryz.sizeOf171
 v168:=Tryz.zeroValue171
 t171:=Tryz.underlying198
 a171:=Tryz.isAgg198
 z171:=Tryz.sizeOf198
 v171:=Tryz.zeroValue198
 t173:=Tryz.underlying201
 a173:=Tryz.isAgg201
 z173:=Tryz.sizeOf201
 v173:=Tryz.zeroValue201
 t175:=Tryz.underlying168
 a175:=Tryz.isAgg168
 z175:=Tryz.sizeOf168
 v175:=Tryz.zeroValue168
 t210:=Tryz.underlying186
 a210:=Tryz.isAgg186
 z210:=Tryz.sizeOf186
 v210:=Tryz.zeroValue186
 t212:=Tryz.underlying204
 a212:=Tryz.isAgg204
 z212:=Tryz.sizeOf204
 v212:=Tryz.zeroValue204
 t213:=Tryz.underlying206
 a213:=Tryz.isAgg206
 z213:=Tryz.sizeOf206
 t232:=Tryz.underlying209
 a232:=Tryz.isAgg209
 z232:=Tryz.sizeOf209
 v232:=Tryz.zeroValue209
 t233:=Tryz.underlying210
 a233:=Tryz.isAgg210
 z233:=Tryz.sizeOf210
 v233:=Tryz.zeroValue210
 g15:=by kernel_rfl
 g16:=by kernel_rfl
 g17:=by kernel_rfl
 g18:=by kernel_rfl
 g19:=by kernel_rfl
 t80:=Tryz.underlying115
 a80:=Tryz.isAgg115
 z80:=Tryz.sizeOf115
 v80:=Tryz.zeroValue115
 i0:=by kernel_rfl
 i2:=by kernel_rfl
 i3:=by kernel_rfl
 i4:=by kernel_rfl
 i5:=by kernel_rfl
 i9:=by kernel_rfl
 i20:=by kernel_rfl
 i21:=by kernel_rfl
 i37:=by kernel_rfl
 i46:=by kernel_rfl
 i51:=by kernel_rfl
 i53:=by kernel_rfl
 i75:=by kernel_rfl
 i80:=by kernel_rfl
 i85:=by kernel_rfl
 i127:=by kernel_rfl
 i143:=by kernel_rfl
 i145:=by kernel_rfl
 i167:=by kernel_rfl
 i168:=by kernel_rfl
 i171:=by kernel_rfl
 i173:=by kernel_rfl
 i175:=by kernel_rfl
 i210:=by kernel_rfl
 i212:=by kernel_rfl
 i232:=by kernel_rfl
 i233:=by kernel_rfl
 m15:=by kernel_rfl
 m16:=by kernel_rfl
 m17:=by kernel_rfl
 m18:=by kernel_rfl
 m19:=by kernel_rfl
 c0:=by kernel_rfl
 c2:=by kernel_rfl
 c3:=by kernel_rfl
 c4:=by kernel_rfl
 c5:=by kernel_rfl
 c9:=by kernel_rfl
 c20:=by kernel_rfl
 c21:=by kernel_rfl
 c37:=by kernel_rfl
 c46:=by kernel_rfl
 c51:=by kernel_rfl
 c53:=by kernel_rfl
 c75:=by kernel_rfl
 c80:=by kernel_rfl
 c85:=by kernel_rfl
 c127:=by kernel_rfl
 c143:=by kernel_rfl
 c145:=by kernel_rfl
 c167:=by kernel_rfl
 c168:=by kernel_rfl
 c171:=by kernel_rfl
 c173:=by kernel_rfl
 c175:=by kernel_rfl
 c210:=by kernel_rfl
 c212:=by kernel_rfl
 c213:=by kernel_rfl
 c232:=by kernel_rfl
 c233:=by kernel_rfl}
end Go.Proofs
namespace Go.Proofs.YtbijepcediaghaaGreatDoor
open Go.Ab
theorem aiW:∃c,Tryz.f76.body=some c:=by
 have h:Tryz.f76.body.isSome=true:=by kernel_rfl
 cases e:Tryz.f76.body with
 |none=>rw[e] at h;cases h
 |some c=>exact⟨c,rfl⟩
theorem agH (args:Array Value) (w:World):(callFunc 76 args).run Tryz.prog w= .ok (.enter 76 args) w:=by
 exact have⟨c,h⟩:=aiW;_root_.Go.MuLone.run_callFunc_enter Tryz.func76 (by kernel_rfl) h args w
theorem Om:wZ Tryz.prog Rp:=⟨adT YtbijepcediaghaaGreatDoor.pintL rfl rfl rfl agH,
 VU Tryz.func122 (by kernel_rfl) (by kernel_rfl) (by kernel_rfl) (by kernel_rfl),
 acN Tryz.func127 (by kernel_rfl) (by kernel_rfl) (by kernel_rfl) (by kernel_rfl),trivial⟩
theorem agd:Em Tryz.prog E0:=ZK ade Om
theorem ace:wZ Tryz.prog adn:=⟨abW (f:=9) (by kernel_rfl) agd (by kernel_rfl) 300 (fun i m=>by rw[List.mem_singleton.1 m];exact⟨rfl,rfl⟩) (fun i m=>by rw[List.mem_singleton.1 m];exact ald),Om⟩
theorem aiV:Em Tryz.prog E:=ZK ade ace
end Go.Proofs.YtbijepcediaghaaGreatDoor
