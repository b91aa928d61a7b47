/-
  Texts that the claim hangs on, part 7.
-/
import Derived.Test.YtibillhjmfbneaaGreatDoorJ5
set_option linter.unusedSimpArgs false
set_option linter.unusedVariables false
namespace Go.Proofs.YtibillhjmfbneaaGreatDoor
open Go.Ab
def Bp (p buf:AV):Row:={es:=[[p,buf]],sz:=2,g:=0,m:=0,rw:=true,ty:=some 143}
theorem Gj {h:aj} {id:Nat} {p buf:AV} (V:h.row id=some (Bp p buf)) (ag:Bool) (off n:Nat):eP h ag n (.ptr id 0 0 off)=ng ag off n [p,buf]:=by
 simp only[eP,V,Bp,Nat.ble_self_eq_true,cond_true,yI]
theorem Zv {h:aj} {id:Nat} {p buf v:AV} (V:h.row id=some (Bp p buf)) (hv:v.leaf=true):cZ h 1 (.ptr id 0 0 0) v=some (h.put id (.row (Bp v buf))):=by
 have hc:=qU hv
 simp only[cZ,V,Bp,hc,Nat.beq_refl,aD,hv,List.length_cons,List.length_nil,Bool.and_self,cond_true,yI,mh,lay]
 rfl
theorem Y3 {h:aj} {id:Nat} {p buf v:AV} (V:h.row id=some (Bp p buf)) (hv:v.leaf=true):cZ h 1 (.ptr id 0 0 1) v=some (h.put id (.row (Bp p v))):=by
 have hc:=qU hv
 simp only[cZ,V,Bp,hc,Nat.beq_refl,aD,hv,List.length_cons,List.length_nil,Bool.and_self,cond_true,yI,mh,lay]
 rfl
structure Bld (h:aj) (id:Nat) (s:Str):Prop where
 ex:∃p buf,h.row id=some (Bp p buf)∧(p= .nilPtr∨p= .ptr id 0 0 0)∧Own (id+1) h 1 buf (yj s)∧NI h buf 5∧(s=[]→buf= .ah)
 bytes:∀b∈s,b<256
theorem acF {h:aj} (k:h.Ok):Tx h 143 [AV.nilPtr,AV.ah]=some (.ptr h.sz 0 0 0,Ab.newRow h [[AV.nilPtr,AV.ah]] 2 (some 143))∧Bld (Ab.newRow h [[AV.nilPtr,AV.ah]] 2 (some 143)) h.sz []∧(Ab.newRow h [[AV.nilPtr,AV.ah]] 2 (some 143)).Ok∧Ext h (Ab.newRow h [[AV.nilPtr,AV.ah]] 2 (some 143)):=by
 refine⟨rfl,⟨⟨.nilPtr, .ah, ?_, .inl rfl,Own.nil _ _ _, ?_,fun _=>rfl⟩,fun b hb=>by cases hb⟩,k.push _,uf k _⟩
 ·rw[aj.row_some];exact AU _ _
 ·intro id g s l c ex hv;cases hv
theorem ajI {n a b c d:Nat} {h:aj} {K:aM} (k:K (.ptr a b c d) h=true):au E (n+1) (.func 103) [.ptr a b c d] h K=true:=by
 show Nt (au E n) n [.ptr a b c d] h K=true
 exact k
theorem c95 {n id:Nat} {p buf:AV} {h:aj} {K:aM} (V:h.row id=some (Bp p buf)) (hp:p= .nilPtr∨p= .ptr id 0 0 0) (ho:h.Ok)
 (k:∀h',But id h h'→h'.Ok→h'.row id=some (Bp (.ptr id 0 0 0) buf)→K (.tup []) h'=true):au E (n+2) (.func 95) [.ptr id 0 0 0] h K=true:=by
 apply d95
 unfold s95
 have hid:=ho.lt (aj.row_some.1 V)
 have L0:eP h false 1 (.ptr id 0 0 0)=some p:=by rw[Gj V];rfl
 refine eB (aA (aS L0 ?_))
 rcases hp with rfl |rfl
 ·have e1:Ey h false .ptr .nilPtr .nilPtr=some (.bool true):=rfl
  have e2:Ul h (.ptr id 0 0 0)=some (.ptr id 0 0 0):=by simp only[Ul,V,Bp];rfl
  refine qN e1 (bL (qN e2 (ajI (aG rfl ?_))))
  have e3:VL h 143 2 [] (.ptr id 0 0 0)=some (.ptr id 0 0 0):=by simp only[VL,V,Bp];rfl
  unfold Iy
  refine qN e3 (eB (aA (GN (Zv V (show(AV.ptr id 0 0 0).leaf=true from rfl)) ?_)))
  exact k _ (But.put _ _ _) (ho.put hid _) (by rw[aj.row_some];exact qo _ _ _)
 ·have e1:Ey h false .ptr (.ptr id 0 0 0) .nilPtr=some (.bool false):=rfl
  have e2:Ey h true .ptr (.ptr id 0 0 0) (.ptr id 0 0 0)=some (.bool false):=by
   simp only[Ey,XU,XJ,V,Bp,Nat.beq_refl,cond_true]
   rfl
  refine qN e1 (bg (eB (aA (aS L0 (qN e2 (bg ?_))))))
  exact k _ (But.refl _ _) ho V
theorem c83 {n id b:Nat} {s:Str} {h h0:aj} {K:aM} (B:Bld h id s) (ho:h.Ok) (ho0:h0.Ok) (e0:Ext h0 h) (hid:h0.sz≤id) (hl:s.length+1≤most) (hb:b<256)
 (k:∀h',Ext h0 h'→h'.Ok→Bld h' id (s++[b])→K .iZ h'=true):au E (n+3) (.func 83) [.ptr id 0 0 0, .int .u8 (b:Int)] h K=true:=by
 apply d83
 unfold s83
 obtain⟨⟨p,buf,V,hp,O,T,hn⟩,hB⟩:=B
 refine c95 V hp ho ?_
 intro h1 B1 o1 V1
 refine aG rfl ?_
 have x1:=B1.ext e0 ho0 hid
 have id1:id<h1.sz:=o1.lt (aj.row_some.1 V1)
 have O1:=B1.own O (by omega)
 have T1:NI h1 buf 5:=NA T fun i g st l c ex o hv ho=>by
  rcases O with⟨rfl,_⟩|⟨i',r,q1,q2,_⟩
  ·cases hv
  ·rw[q2] at hv;cases hv
   exact B1.keep _ _ (by omega) ho
 have L1:eP h1 false 1 (.ptr id 0 0 1)=some buf:=by rw[Gj V1];rfl
 refine eB (aA (aS L1 ?_))
 obtain⟨v,g1,W⟩:=zi (h:=h1) (n:=1) (sz:=1) (z:=[AV.int .u8 0]) (ps:=[(0, .int .u8 (b:Int))]) (es:=[[.int .u8 (b:Int)]]) rfl (by decide) (by decide) rfl rfl rfl
 refine Yv g1 ?_
 have e2:=iK o1 [[AV.int .u8 (b:Int)]] 1
 have o2:=jm o1 [[AV.int .u8 (b:Int)]] 1
 have z2:(Ab.newRow h1 [[AV.int .u8 (b:Int)]] 1).sz=h1.sz+1:=rfl
 have T2:NI (Ab.newRow h1 [[AV.int .u8 (b:Int)]] 1) buf 5:=NA T1 fun _ _ _ _ _ _ _ _ hg=>e2.2 _ _ hg
 generalize Ab.newRow h1 [[AV.int .u8 (b:Int)]] 1=h2 at *
 obtain⟨v',h3,a1,a2,a3,a4,a5,a6,_,a8⟩:=(O1.ext e2).appb (e:=5) (by omega) o2 ho0 (x1.trans e2) (by omega) W.src (by simpa[yj] using hl)
 refine Yv a1 ?_
 have V3:h3.row id=some (Bp (.ptr id 0 0 0) buf):=by
  rw[aj.row_some]
  refine a6 _ _ (e2.2 _ _ (aj.row_some.1 V1)) ?_
  intro i g st l c ex hv
  rcases O with⟨rfl,_⟩|⟨i',r,q1,q2,_⟩
  ·cases hv
  ·rw[q2] at hv;cases hv;omega
 have id3:id<h3.sz:=a3.lt (aj.row_some.1 V3)
 refine eB (aA (GN (Y3 V3 a2.view.leaf) ?_))
 refine k _ (Il a4 ho0 hid _) (a3.put id3 _) ⟨⟨.ptr id 0 0 0,v',by rw[aj.row_some];exact qo _ _ _, .inr rfl, ?_, ?_,fun h=>by simp at h⟩, ?_⟩
 ·have:yj (s++[b])=yj s++[[.int .u8 (b:Int)]]:=by simp[yj]
  rw[this]
  exact Qt a2 fun j o hj g=>by rw[Jd (by omega)];exact g
 ·refine NA (a8 T2) fun i g st l c ex o hv hg=> ?_
  rcases a2 with⟨rfl,_⟩|⟨i',r,q1,q2,_⟩
  ·cases hv
  ·rw[q2] at hv;cases hv
   rw[Jd (by omega)];exact hg
 ·intro c hc
  rcases List.mem_append.1 hc with hc |hc
  ·exact hB c hc
  ·simp only[List.mem_singleton] at hc;omega
theorem c82 {n id:Nat} {s:Str} {h h0:aj} {K:aM} (B:Bld h id s) (ho:h.Ok) (ho0:h0.Ok) (e0:Ext h0 h) (hid:h0.sz≤id) (hl:s.length≤most)
 (k:∀h',Ext h0 h'→h'.Ok→K (.str s) h'=true):au E (n+1) (.func 82) [.ptr id 0 0 0] h K=true:=by
 apply d82
 unfold s82
 obtain⟨⟨p,buf,V,hp,O,T,hn⟩,hB⟩:=B
 have L1:eP h false 1 (.ptr id 0 0 1)=some buf:=by rw[Gj V];rfl
 have V0:=O.view
 refine eB (aA (aS L1 ?_))
 by_cases hs:s=[]
 ·subst hs
  rw[hn rfl] at L1
  rw[hn rfl]
  refine qN (v:= .nilPtr) rfl (eB (aA (aS L1 (ae0 (Yv (v:= .str []) (h':=h) rfl ?_)))))
  exact k _ e0 ho
 ·rcases O with⟨rfl,he⟩|⟨i,r,q1,rfl,q3,q4,q5,q6,q7⟩
  ·cases s with
   |nil=>exact absurd rfl hs
   |cons b s=>simp[yj] at he
  ·obtain⟨r',t1,t2⟩:=T _ _ _ _ _ _ rfl
   rw[q3] at t1;cases t1
   have hpos:0<(yj s).length:=by cases s with |nil=>exact absurd rfl hs |cons b s=>simp[yj]
   have hlen:(yj s).length=s.length:=by simp[yj]
   have e1:J3 (.slc i r.g 0 (yj s).length (yj s).length false)=some (.ptr i r.g 0 0):=by simp only[J3,bD.2 hpos,cond_true]
   have hk:Nat.beq (yj s).length 0=false:=dn.2 (by omega)
   have e2:Hy h 5 (.ptr i r.g 0 0) (.int .i64 ((yj s).length:Int))=some (.str s,h.put i .gone):=by
    show Hy h 5 (.ptr i r.g 0 0) (.int .i64 (.ofNat (yj s).length))=_
    simp only[Hy,hk,cond_false,q3,t2,q4,Nat.beq_refl,q6,aI.2 (show(yj s).length≤most by omega),Bool.and_self,cond_true,q7,List.take_length,Gz s hB]
   refine qN e1 (eB (aA (aS L1 (fM V0 (Yv e2 ?_)))))
   exact k _ (Il e0 ho0 (by omega) _) (ho.put (ho.lt (aj.row_some.1 q3)) _)
def skip:Bool→Str→Nat
 |_,[]=>0
 |true,c :: l=>if c=10 then skip false l+1 else skip true l+1
 |false,c :: l=>if tY c=true then skip false l+1 else if c=47∧l.head? =some 47 then skip true l+1 else 0
theorem uO:∀(b:Bool) (l:Str),skip b l≤l.length
 |_,[]=>by simp[skip]
 |true,c :: l=>by
  have h1:=uO true l
  have h2:=uO false l
  simp only[skip,List.length_cons];split<;>omega
 |false,c :: l=>by
  have h1:=uO true l
  have h2:=uO false l
  simp only[skip,List.length_cons];split
  ·omega
  ·split<;>omega
theorem Gy:∀(l:Str),skip true l=match bidx 10 l with |none=>l.length |some k=>k+skip false (l.drop k)
 | []=>rfl
 |c :: l=>by
  simp only[skip,bidx]
  by_cases e:c=10
  ·subst e
   simp[skip,tY]
  ·rw[if_neg e,if_neg e,Gy l]
   cases bidx 10 l with
   |none=>rfl
   |some k=>
    show k+skip false (l.drop k)+1=(k+1)+skip false ((c :: l).drop (k+1))
    rw[List.drop_succ_cons];omega
theorem OJ {c:Nat}:∀{l:Str} {k:Nat},bidx c l=some k→k<l.length
 | [],_,h=>by cases h
 |b :: l,k,h=>by
  simp only[bidx] at h
  split at h
  ·cases h;simp
  ·cases hb:bidx c l with
   |none=>rw[hb] at h;cases h
   |some j=>rw[hb] at h;cases h;have:=OJ hb;simp;omega
theorem adH {s:Str} {i:Nat} {c:Nat} (hc:c≠0):((s.drop i).head? =some c)↔pk s i=c:=by
 by_cases h:i<s.length
 ·rw[sG h];simp
 ·rw[List.drop_of_length_le (by omega),KX (by omega)]
  constructor
  ·intro e;cases e
  ·intro e;omega
theorem adT {s:Str} {a:Nat} (h:a<s.length):skip false (s.drop a)=if tY (pk s a)=true then skip false (s.drop (a+1))+1 else if pk s a=47∧pk s (a+1)=47 then skip true (s.drop a) else 0:=by
 rw[sG h]
 simp only[skip]
 split
 ·rfl
 ·rename_i hb
  have hp:=adH (s:=s) (i:=a+1) (c:=47) (by decide)
  by_cases hh:pk s a=47∧pk s (a+1)=47
  ·have:¬pk s a=10:=by rw[hh.1];decide
   rw[if_pos ⟨hh.1,hp.2 hh.2⟩,if_pos hh,if_neg this]
  ·rw[if_neg (fun e=>hh ⟨e.1,hp.1 e.2⟩),if_neg hh]
theorem ada (b:Nat) {k:AV→Bool} (s:k (.bool (tY b))=true):
 (eO (.int .u8 (b:Int)) (.int .u8 32) fun v2=>gK v2 false (bQ (some (.int .u8 (b:Int)))) fun v3=>gK v2 false (eO v3 (.int .u8 9)) fun v4=>cO v2 (.bool true) v4 fun v5=>gK v5 false (bQ (some (.int .u8 (b:Int)))) fun v6=>gK v5 false (eO v6 (.int .u8 13)) fun v7=>cO v5 (.bool true) v7 fun v8=>gK v8 false (bQ (some (.int .u8 (b:Int)))) fun v9=>gK v8 false (eO v9 (.int .u8 10)) fun v10=>cO v8 (.bool true) v10 fun v11=>k v11)=true:=by
 have e1:eZ .eql (.int .u8 (b:Int)) (AV.int .u8 32)=some (.bool (decide (b=32))):=ZY 32 b
 have e2:eZ .eql (.int .u8 (b:Int)) (AV.int .u8 9)=some (.bool (decide (b=9))):=ZY 9 b
 have e3:eZ .eql (.int .u8 (b:Int)) (AV.int .u8 13)=some (.bool (decide (b=13))):=ZY 13 b
 have e4:eZ .eql (.int .u8 (b:Int)) (AV.int .u8 10)=some (.bool (decide (b=10))):=ZY 10 b
 unfold tY at s
 cases h1:decide (b=32)<;>cases h2:decide (b=9)<;>cases h3:decide (b=13)<;>cases h4:decide (b=10)<;>rw[h1,h2,h3,h4] at s<;>rw[h1] at e1<;>rw[h2] at e2<;>rw[h3] at e3<;>rw[h4] at e4
 all_goals(repeat first |(with_reducible first |refine dF ?_ |refine dM ?_ |refine bP ?_ |refine gQ ?_ |refine aR ?_)|refine kT e1 ?_ |refine kT e2 ?_ |refine kT e3 ?_ |refine kT e4 ?_)
 all_goals exact s
theorem j44 {n x a:Nat} {s:Str} {bad:Bool} {h:aj} {K:aM} {B0:AV→aj→Bool} (V:LX h x s a bad) (ho:h.Ok) (hL:s.length+1<lim) (ha:a≤s.length)
 (kB:∀h' a',But x h h'→h'.Ok→LX h' x s a' bad→a<a'→a'≤s.length→a+skip false (s.drop a)=a'+skip false (s.drop a')→B0 (.ptr x 0 0 0) h'=true)
 (kE:skip false (s.drop a)=0→K (.tup []) h=true):QL (au E (n+3)) (n+3) B0 (.ptr x 0 0 0) h K=true:=by
 have hx:x<h.sz:=Var.lt V ho
 unfold QL
 refine c60 (k:=0) V (by omega) ha (aG rfl ?_)
 refine ada _ ?_
 rw[Nat.add_zero]
 have go:∀a',a<a'→a'≤s.length→a+skip false (s.drop a)=a'+skip false (s.drop a')→
  B0 (.ptr x 0 0 0) (h.put x (.row (mH [.str s, .int .i64 (a':Int), .bool bad])))=true:=fun a' h1 h2 h3=>kB _ a' (But.put x h _) (ho.put hx _) (Vj h x s a' bad) h1 h2 h3
 by_cases hend:a<s.length
 ·have hs:=adT hend
  cases hb:tY (pk s a) with
  |true=>
   rw[hb,if_pos rfl] at hs
   refine bL ?_;refine eB ?_;refine aA ?_;refine aS (LX.l1 V) ?_
   first |refine aS (jN (show a<lim by omega)) ?_ |refine ig (jN (show a<lim by omega)) ?_ |refine jf (jN (show a<lim by omega)) ?_ |refine je (jN (show a<lim by omega)) ?_ |refine iW (jN (show a<lim by omega)) ?_ |refine qN (jN (show a<lim by omega)) ?_ |refine kT (jN (show a<lim by omega)) ?_ |refine z_neE (jN (show a<lim by omega)) ?_ |refine pX (jN (show a<lim by omega)) ?_ |refine sj (jN (show a<lim by omega)) ?_ |refine yg (jN (show a<lim by omega)) ?_ |refine sw (jN (show a<lim by omega)) ?_
   refine eB ?_;refine aA ?_
   refine GN (V.set _) ?_
   exact go (a+1) (by omega) (by omega) (by omega)
  |false=>
   rw[hb,if_neg (by decide)] at hs
   have e47:eZ .eql (.int .u8 (pk s a:Int)) (AV.int .u8 47)=some (.bool (decide (pk s a=47))):=ZY 47 _
   refine bg ?_;refine uy ?_
   rw[show decide ((pk s a:Int)=47)=decide (pk s a=47) from decide_eq_decide.2 (by omega)]
   by_cases h1:pk s a=47
   ·rw[decide_eq_true h1]
    refine aW ?_;refine aR ?_;refine eu ?_
    refine c60 (k:=1) V hL ha (aG rfl ?_)
    unfold Fy
    have e47':eZ .eql (.int .u8 (pk s (a+1):Int)) (AV.int .u8 47)=some (.bool (decide (pk s (a+1)=47))):=ZY 47 _
    refine aW ?_;refine uy ?_;refine dF ?_
    rw[show decide ((pk s (a+1):Int)=47)=decide (pk s (a+1)=47) from decide_eq_decide.2 (by omega)]
    skip
    by_cases h2:pk s (a+1)=47
    ·refine vQ (decide_eq_true h2) ?_
     rw[if_pos ⟨h1,h2⟩,Gy] at hs
     refine eB ?_;refine aA ?_;refine aS (LX.l0 V) ?_;refine eB ?_;refine aA ?_;refine aS (LX.l1 V) ?_
     first |refine aS (dY ha) ?_ |refine ig (dY ha) ?_ |refine jf (dY ha) ?_ |refine je (dY ha) ?_ |refine iW (dY ha) ?_ |refine qN (dY ha) ?_ |refine kT (dY ha) ?_ |refine z_neE (dY ha) ?_ |refine pX (dY ha) ?_ |refine sj (dY ha) ?_ |refine yg (dY ha) ?_ |refine sw (dY ha) ?_
     refine c61 (c:=10) (by decide) (aG rfl ?_)
     have hgo:∀d:Nat,a+d≤s.length→0<d→a+skip false (s.drop a)=(a+d)+skip false (s.drop (a+d))→Kh (au E (n+3)) (n+3) B0 (.ptr x 0 0 0) (.int .i64 (d:Int)) h K=true:=by
      intro d hd hd0 he
      unfold Kh
      refine eB ?_;refine aA ?_;refine aS (LX.l1 V) ?_
      first |refine aS (dB (show a+d<lim by omega)) ?_ |refine ig (dB (show a+d<lim by omega)) ?_ |refine jf (dB (show a+d<lim by omega)) ?_ |refine je (dB (show a+d<lim by omega)) ?_ |refine iW (dB (show a+d<lim by omega)) ?_ |refine qN (dB (show a+d<lim by omega)) ?_ |refine kT (dB (show a+d<lim by omega)) ?_ |refine z_neE (dB (show a+d<lim by omega)) ?_ |refine pX (dB (show a+d<lim by omega)) ?_ |refine sj (dB (show a+d<lim by omega)) ?_ |refine yg (dB (show a+d<lim by omega)) ?_ |refine sw (dB (show a+d<lim by omega)) ?_
      refine eB ?_;refine aA ?_
      refine GN (V.set _) ?_
      exact go (a+d) (by omega) hd he
     cases hk:bidx 10 (s.drop a) with
     |none=>
      rw[hk] at hs
      have hl:(s.drop a).length=s.length-a:=by simp
      have e0:eZ .lss (.int .i64 (fint none)) (AV.int .i64 0)=some (.bool true):=rfl
      first |refine aS e0 ?_ |refine ig e0 ?_ |refine jf e0 ?_ |refine je e0 ?_ |refine iW e0 ?_ |refine qN e0 ?_ |refine kT e0 ?_ |refine z_neE e0 ?_ |refine pX e0 ?_ |refine sj e0 ?_ |refine yg e0 ?_ |refine sw e0 ?_
      refine bL ?_;refine eB ?_;refine aA ?_;refine aS (LX.l0 V) ?_;refine gJ ?_;refine eB ?_;refine aA ?_;refine aS (LX.l1 V) ?_
      first |refine aS (l8 ha (show s.length<lim by omega)) ?_ |refine ig (l8 ha (show s.length<lim by omega)) ?_ |refine jf (l8 ha (show s.length<lim by omega)) ?_ |refine je (l8 ha (show s.length<lim by omega)) ?_ |refine iW (l8 ha (show s.length<lim by omega)) ?_ |refine qN (l8 ha (show s.length<lim by omega)) ?_ |refine kT (l8 ha (show s.length<lim by omega)) ?_ |refine z_neE (l8 ha (show s.length<lim by omega)) ?_ |refine pX (l8 ha (show s.length<lim by omega)) ?_ |refine sj (l8 ha (show s.length<lim by omega)) ?_ |refine yg (l8 ha (show s.length<lim by omega)) ?_ |refine sw (l8 ha (show s.length<lim by omega)) ?_
      refine hgo (s.length-a) (by omega) (by omega) ?_
      rw[show a+(s.length-a)=s.length by omega,List.drop_length]
      simp only[hl] at hs
      rw[hs]
      simp only[skip];omega
     |some k=>
      rw[hk] at hs
      have hlt:=OJ hk
      simp only[List.length_drop] at hlt
      have hk0:0<k:=by
       rcases Nat.eq_zero_or_pos k with h0 |h0
       ·subst h0
        rw[sG hend] at hk
        simp only[bidx] at hk
        rw[if_neg (by rw[h1];decide)] at hk
        cases hq:bidx 10 (s.drop (a+1))<;>rw[hq] at hk<;>simp at hk
       ·exact h0
      have e0:eZ .lss (.int .i64 (fint (some k))) (AV.int .i64 0)=some (.bool false):=by
       rw[II];rfl
      first |refine aS e0 ?_ |refine ig e0 ?_ |refine jf e0 ?_ |refine je e0 ?_ |refine iW e0 ?_ |refine qN e0 ?_ |refine kT e0 ?_ |refine z_neE e0 ?_ |refine pX e0 ?_ |refine sj e0 ?_ |refine yg e0 ?_ |refine sw e0 ?_
      skip
      refine hgo k (by omega) hk0 ?_
      simp only[List.drop_drop] at hs
      omega
    ·refine vM (decide_eq_false h2) ?_
     rw[if_neg (by omega)] at hs
     exact kE hs
   ·rw[decide_eq_false h1]
    refine dU ?_;refine sD ?_
    rw[if_neg (by omega)] at hs
    exact kE hs
 ·have hp:=KX (s:=s) (i:=a) (by omega)
  have hb:tY (pk s a)=false:=by rw[hp];rfl
  have e47:eZ .eql (.int .u8 (pk s a:Int)) (AV.int .u8 47)=some (.bool false):=by rw[hp];rfl
  rw[hb]
  refine bg ?_;refine uy ?_
  rw[show decide ((pk s a:Int)=47)=false from by rw[hp];rfl]
  refine dU ?_;refine sD ?_
  exact kE (by rw[List.drop_of_length_le (by omega)];rfl)
theorem g44 {n x:Nat} {s:Str} {bad:Bool} {K:aM} (hL:s.length+1<lim):∀(m a:Nat) (h:aj),LX h x s a bad→h.Ok→a≤s.length→s.length-a<m→
 (∀h',But x h h'→h'.Ok→LX h' x s (a+skip false (s.drop a)) bad→K (.tup []) h'=true)→RY (au E (n+3)) (n+3) m (.ptr x 0 0 0) h K=true:=by
 intro m
 induction m with
 |zero=>intro a h _ _ _ hm;omega
 |succ m ih=>
  intro a h V ho ha hm k
  unfold RY
  refine j44 V ho hL ha (fun h' a' B o' V' h1 h2 h3=>ih a' h' V' o' h2 (by omega) fun h'' B' o'' V''=>k h'' (B.trans B') o'' (by rw[h3];exact V'')) fun h0=>k h (But.refl _ _) ho (by rw[h0];exact V)
theorem c44 {n x a:Nat} {s:Str} {bad:Bool} {h:aj} {K:aM} (V:LX h x s a bad) (ho:h.Ok) (hL:s.length+1<lim) (ha:a≤s.length) (hn:s.length<n)
 (k:∀h',But x h h'→h'.Ok→LX h' x s (a+skip false (s.drop a)) bad→K (.tup []) h'=true):au E (n+4) (.func 44) [.ptr x 0 0 0] h K=true:=by
 apply d44
 show QL (au E (n+3)) (n+3) (fun x0 h=>RY (au E (n+3)) (n+3) (n+3) x0 h K) (.ptr x 0 0 0) h K=true
 refine j44 V ho hL ha (fun h' a' B o' V' h1 h2 h3=>g44 hL _ a' h' V' o' h2 (by omega) fun h'' B' o'' V''=>k h'' (B.trans B') o'' (by rw[h3];exact V'')) fun h0=>k h (But.refl _ _) ho (by rw[h0];exact V)
def rE:List Str:=[[61,61],[33,61],[60,61],[62,61],[38,38],[124,124]]
def Ik:Str:=[40,41,91,93,123,125,44,46,58,59,63,60,62,61,43,45,42,47,37,33]
def kK (l:Str):Nat:=if(rE.any fun t=>t.isPrefixOf l)=true then 2 else match l with
 | []=>0
 |c :: _=>if(bidx c Ik).isSome=true then 1 else 0
theorem l68 {n x a:Nat} {s:Str} {bad:Bool} {h:aj} {v:AV} {K:aM} (V:LX h x s a bad) (W:View h 1 v (rE.map fun t=>[.str t])) (hb:∀b∈s,b<256) (ha:a<s.length)
 (k:K (.int .i64 (kK (s.drop a):Int)) h=true):∀(m i:Nat),i≤6→6-i<m→((rE.take i).any fun t=>t.isPrefixOf (s.drop a))=false→
 Xv (au E (n+3)) (n+3) m (.ptr x 0 0 0) v (.int .i64 6) (.int .i64 (i:Int)) h K=true:=by
 intro m
 induction m with
 |zero=>intro i _ hm;omega
 |succ m ih=>
  intro i hi hm hany
  unfold Xv aa9
  by_cases hlt:i<6
  ·have ht:rE[i]? =some (rE[i]'hlt):=List.getElem?_eq_getElem hlt
   have he:(rE.map fun t=>[AV.str t])[i]? =some [.str (rE[i]'hlt)]:=by rw[List.getElem?_map,ht];rfl
   obtain⟨id,g,j,p1,p2⟩:=W.at he
   have e6:decide ((i:Int)<6)=true:=decide_eq_true (by omega)
   have p3:eP h false 1 (.ptr id g j 0)=some (.str (rE[i]'hlt)):=by rw[p2];rfl
   refine dI (vQ e6 ?_)
   first |refine aS (p1 _) ?_ |refine ig (p1 _) ?_ |refine jf (p1 _) ?_ |refine je (p1 _) ?_ |refine iW (p1 _) ?_ |refine qN (p1 _) ?_ |refine kT (p1 _) ?_ |refine z_neE (p1 _) ?_ |refine pX (p1 _) ?_ |refine sj (p1 _) ?_ |refine yg (p1 _) ?_ |refine sw (p1 _) ?_
   first |refine aS p3 ?_ |refine ig p3 ?_ |refine jf p3 ?_ |refine je p3 ?_ |refine iW p3 ?_ |refine qN p3 ?_ |refine kT p3 ?_ |refine z_neE p3 ?_ |refine pX p3 ?_ |refine sj p3 ?_ |refine yg p3 ?_ |refine sw p3 ?_
   refine eB ?_;refine aA ?_;refine aS (LX.l0 V) ?_;refine eB ?_;refine aA ?_;refine aS (LX.l1 V) ?_
   first |refine aS (dY (Nat.le_of_lt ha)) ?_ |refine ig (dY (Nat.le_of_lt ha)) ?_ |refine jf (dY (Nat.le_of_lt ha)) ?_ |refine je (dY (Nat.le_of_lt ha)) ?_ |refine iW (dY (Nat.le_of_lt ha)) ?_ |refine qN (dY (Nat.le_of_lt ha)) ?_ |refine kT (dY (Nat.le_of_lt ha)) ?_ |refine z_neE (dY (Nat.le_of_lt ha)) ?_ |refine pX (dY (Nat.le_of_lt ha)) ?_ |refine sj (dY (Nat.le_of_lt ha)) ?_ |refine yg (dY (Nat.le_of_lt ha)) ?_ |refine sw (dY (Nat.le_of_lt ha)) ?_
   refine c84 ?_
   cases hp:(rE[i]'hlt).isPrefixOf (s.drop a) with
   |true=>
    have:(rE.any fun t=>t.isPrefixOf (s.drop a))=true:=List.any_eq_true.2 ⟨_,List.getElem_mem hlt,hp⟩
    have e:kK (s.drop a)=2:=by unfold kK;rw[if_pos this]
    rw[e] at k
    refine aG rfl ?_;refine bL ?_
    exact k
   |false=>
    refine aG rfl ?_;refine bg ?_
    first |refine aS (jN (show i<lim by have:=rY;omega)) ?_ |refine ig (jN (show i<lim by have:=rY;omega)) ?_ |refine jf (jN (show i<lim by have:=rY;omega)) ?_ |refine je (jN (show i<lim by have:=rY;omega)) ?_ |refine iW (jN (show i<lim by have:=rY;omega)) ?_ |refine qN (jN (show i<lim by have:=rY;omega)) ?_ |refine kT (jN (show i<lim by have:=rY;omega)) ?_ |refine z_neE (jN (show i<lim by have:=rY;omega)) ?_ |refine pX (jN (show i<lim by have:=rY;omega)) ?_ |refine sj (jN (show i<lim by have:=rY;omega)) ?_ |refine yg (jN (show i<lim by have:=rY;omega)) ?_ |refine sw (jN (show i<lim by have:=rY;omega)) ?_
    refine ih (i+1) (by omega) (by omega) ?_
    rw[List.take_add_one,ht,List.any_append,hany]
    simp[hp]
  ·have hi6:i=6:=by omega
   subst hi6
   have e6:decide (((6:Nat):Int)<6)=false:=decide_eq_false (by omega)
   have hany':(rE.any fun t=>t.isPrefixOf (s.drop a))=false:=by
    have:rE.take 6=rE:=rfl
    rw[this] at hany;exact hany
   have hm0:kK (s.drop a)=if(bidx (pk s a) Ik).isSome=true then 1 else 0:=by
    unfold kK
    rw[if_neg (by rw[hany'];decide),sG ha]
   refine dI (vM e6 ?_)
   unfold Uk
   refine eB ?_;refine aA ?_;refine aS (LX.l0 V) ?_;refine eB ?_;refine aA ?_;refine aS (LX.l1 V) ?_
   first |refine aS (eU ha) ?_ |refine ig (eU ha) ?_ |refine jf (eU ha) ?_ |refine je (eU ha) ?_ |refine iW (eU ha) ?_ |refine qN (eU ha) ?_ |refine kT (eU ha) ?_ |refine z_neE (eU ha) ?_ |refine pX (eU ha) ?_ |refine sj (eU ha) ?_ |refine yg (eU ha) ?_ |refine sw (eU ha) ?_
   refine c61 (c:=pk s a) (by rw[Xa ha];exact hb _ (List.getElem_mem ha)) ?_
   rw[hm0] at k
   refine aG rfl ?_
   show Gq (.int .i64 (fint (bidx (pk s a) Ik))) _ _=true
   cases hs:bidx (pk s a) Ik with
   |none=>
    rw[hs] at k
    have e0:eZ .geq (.int .i64 (fint none)) (AV.int .i64 0)=some (.bool false):=rfl
    first |refine aS e0 ?_ |refine ig e0 ?_ |refine jf e0 ?_ |refine je e0 ?_ |refine iW e0 ?_ |refine qN e0 ?_ |refine kT e0 ?_ |refine z_neE e0 ?_ |refine pX e0 ?_ |refine sj e0 ?_ |refine yg e0 ?_ |refine sw e0 ?_
    refine bg ?_
    exact k
   |some j=>
    rw[hs] at k
    have e0:eZ .geq (.int .i64 (fint (some j))) (AV.int .i64 0)=some (.bool true):=by
     rw[Q6];rfl
    first |refine aS e0 ?_ |refine ig e0 ?_ |refine jf e0 ?_ |refine je e0 ?_ |refine iW e0 ?_ |refine qN e0 ?_ |refine kT e0 ?_ |refine z_neE e0 ?_ |refine pX e0 ?_ |refine sj e0 ?_ |refine yg e0 ?_ |refine sw e0 ?_
    skip
    exact k
theorem c68 {n x a:Nat} {s:Str} {bad:Bool} {h:aj} {K:aM} (V:LX h x s a bad) (ho:h.Ok) (hb:∀b∈s,b<256) (ha:a<s.length) (hn:6≤n)
 (k:∀h',Ext h h'→h'.Ok→K (.int .i64 (kK (s.drop a):Int)) h'=true):au E (n+4) (.func 68) [.ptr x 0 0 0] h K=true:=by
 apply d68
 unfold s68
 obtain⟨v,g1,W⟩:=zi (h:=h) (n:=6) (sz:=1) (z:=[AV.str []]) (ps:=[(0,(AV.str [61,61])),(1,(AV.str [33,61])),(2,(AV.str [60,61])),(3,(AV.str [62,61])),(4,(AV.str [38,38])),(5,(AV.str [124,124]))]) (es:=rE.map fun t=>[.str t]) rfl (by decide) (by decide) rfl rfl rfl
 refine Yv g1 ?_
 have e:=iK ho (rE.map fun t=>[AV.str t]) 1
 have o:=jm ho (rE.map fun t=>[AV.str t]) 1
 first |refine aS W.len ?_ |refine ig W.len ?_ |refine jf W.len ?_ |refine je W.len ?_ |refine iW W.len ?_ |refine qN W.len ?_ |refine kT W.len ?_ |refine z_neE W.len ?_ |refine pX W.len ?_ |refine sj W.len ?_ |refine yg W.len ?_ |refine sw W.len ?_
 exact l68 (V.ext e) W hb ha (k _ e o) (n+3) 0 (by omega) (by omega) rfl
def esc (d:Nat):Option Nat:=if d=34 then some 34 else if d=92 then some 92 else if d=110 then some 10 else if d=116 then some 9 else none
def quo:Str→Option (Str×Nat)
 | []=>none
 | [c]=>if c=34 then some ([],1) else none
 |c :: d :: l=>if c=34 then some ([],1) else if c=92 then(match esc d with
   |none=>none
   |some e=>(quo l).map fun r=>(e :: r.1,r.2+2))
  else if c<32 then none else(quo (d :: l)).map fun r=>(c :: r.1,r.2+1)
theorem Oi:∀(l:Str) (t:Str) (m:Nat),quo l=some (t,m)→0<m∧m≤l.length∧t.length+1≤m
 | [],t,m,h=>by cases h
 | [c],t,m,h=>by
   simp only[quo] at h
   split at h
   ·cases h;simp
   ·cases h
 |c :: d :: l,t,m,h=>by
  simp only[quo] at h
  split at h
  ·cases h;simp
  ·split at h
   ·cases he:esc d with
    |none=>rw[he] at h;cases h
    |some e=>
     rw[he] at h
     cases hq:quo l with
     |none=>rw[hq] at h;cases h
     |some r=>
      rw[hq] at h
      obtain⟨t',m'⟩:=r
      have:=Oi l t' m' hq
      cases h
      simp only[List.length_cons];omega
   ·split at h
    ·cases h
    ·cases hq:quo (d :: l) with
     |none=>rw[hq] at h;cases h
     |some r=>
      rw[hq] at h
      obtain⟨t',m'⟩:=r
      have:=Oi (d :: l) t' m' hq
      cases h
      simp only[List.length_cons] at *;omega
theorem abH {s:Str} {i:Nat} (h:i<s.length):quo (s.drop i)=if pk s i=34 then some ([],1) else if pk s i=92 then(match esc (pk s (i+1)) with
 |none=>none
 |some e=>(quo (s.drop (i+2))).map fun r=>(e :: r.1,r.2+2))
 else if pk s i<32 then none else(quo (s.drop (i+1))).map fun r=>(pk s i :: r.1,r.2+1):=by
 rw[sG h]
 by_cases h1:i+1<s.length
 ·rw[sG h1];rfl
 ·rw[List.drop_of_length_le (show s.length≤i+1 by omega),KX (show s.length≤i+1 by omega)]
  have e0:esc 0=none:=rfl
  simp only[quo,e0]
  split
  ·rfl
  ·split
   ·rfl
   ·split<;>rfl
theorem adV (d:Nat):esc d=match bidx d [34,92,110,116] with |none=>none |some k=>some (pk [34,92,10,9] k):=by
 by_cases h1:d=34
 ·subst h1;rfl
 by_cases h2:d=92
 ·subst h2;rfl
 by_cases h3:d=110
 ·subst h3;rfl
 by_cases h4:d=116
 ·subst h4;rfl
 simp only[esc,bidx,if_neg h1,if_neg h2,if_neg h3,if_neg h4,if_neg (fun e=>h1 (Eq.symm e):¬34=d),if_neg (fun e=>h2 (Eq.symm e):¬92=d),if_neg (fun e=>h3 (Eq.symm e):¬110=d),if_neg (fun e=>h4 (Eq.symm e):¬116=d)]
 rfl
theorem PI {s:Str} (hb:∀b∈s,b<256) (i:Nat):pk s i<256:=by
 by_cases h:i<s.length
 ·rw[Xa h];exact hb _ (List.getElem_mem h)
 ·rw[KX (by omega)];omega
def aaz (acc:Str) (i:Nat):Option (Str×Nat)→AV
 |none=> .tup [.str [], .int .i64 0]
 |some r=> .tup [.str (acc++r.1), .int .i64 ((i+r.2:Nat):Int)]
theorem l67 {n x a bd:Nat} {s:Str} {bad:Bool} {h0:aj} {K:aM} (V:LX h0 x s a bad) (ho0:h0.Ok) (hL:2*s.length+4<most) (hb:∀b∈s,b<256) (ha:a≤s.length) (hid:h0.sz≤bd)
 :∀(m i:Nat) (acc:Str) (h:aj),h.Ok→Ext h0 h→Bld h bd acc→acc.length≤i→i≤s.length+2→s.length+2-i<m→
  (∀h',Ext h0 h'→h'.Ok→K (aaz acc i (quo (s.drop (a+i)))) h'=true)→XW (au E (n+3)) (n+3) m (.ptr x 0 0 0) (.ptr bd 0 0 0) (.int .i64 (i:Int)) h K=true:=by
 have hlim:most<lim:=by decide
 intro m
 induction m with
 |zero=>intro i acc h _ _ _ _ _ hm;omega
 |succ m ih=>
  intro i acc h ho e0 B hacc hi hm k
  have V':LX h x s a bad:=Var.ext V e0
  unfold XW aaK
  refine eB ?_;refine aA ?_;refine aS (LX.l1 V') ?_
  first |refine aS (dB (show a+i<lim by omega)) ?_ |refine ig (dB (show a+i<lim by omega)) ?_ |refine jf (dB (show a+i<lim by omega)) ?_ |refine je (dB (show a+i<lim by omega)) ?_ |refine iW (dB (show a+i<lim by omega)) ?_ |refine qN (dB (show a+i<lim by omega)) ?_ |refine kT (dB (show a+i<lim by omega)) ?_ |refine z_neE (dB (show a+i<lim by omega)) ?_ |refine pX (dB (show a+i<lim by omega)) ?_ |refine sj (dB (show a+i<lim by omega)) ?_ |refine yg (dB (show a+i<lim by omega)) ?_ |refine sw (dB (show a+i<lim by omega)) ?_
  refine eB ?_;refine aA ?_;refine aS (LX.l0 V') ?_;refine gJ ?_;refine jI ?_
  by_cases hlt:a+i<s.length
  ·refine vQ (decide_eq_true (by omega)) ?_
   have hq:=abH hlt
   rw[hq] at k
   refine c60 V' (by omega) ha (aG rfl ?_)
   have e34:eZ .eql (.int .u8 (pk s (a+i):Int)) (AV.int .u8 34)=some (.bool (decide (pk s (a+i)=34))):=ZY 34 _
   refine kT e34 ?_
   by_cases h1:pk s (a+i)=34
   ·refine vQ (decide_eq_true h1) ?_
    rw[if_pos h1] at k
    refine c82 B ho ho0 e0 hid (by omega) fun h' e' o'=> ?_
    have e1:eZ .add (.int .i64 (i:Int)) (AV.int .i64 1)=some (.int .i64 ((i+1:Nat):Int)):=P7 1 (by omega)
    refine aG rfl ?_
    unfold Gt
    refine ig e1 ?_
    have:=k h' e' o'
    simp only[aaz,List.append_nil] at this
    exact this
   ·refine vM (decide_eq_false h1) ?_
    rw[if_neg h1] at k
    have e92:eZ .eql (.int .u8 (pk s (a+i):Int)) (AV.int .u8 92)=some (.bool (decide (pk s (a+i)=92))):=ZY 92 _
    refine kT e92 ?_
    by_cases h2:pk s (a+i)=92
    ·refine vQ (decide_eq_true h2) ?_
     rw[if_pos h2,show a+i+1=a+(i+1) by omega] at k
     have e1:eZ .add (.int .i64 (i:Int)) (AV.int .i64 1)=some (.int .i64 ((i+1:Nat):Int)):=P7 1 (by omega)
     refine ig e1 ?_
     refine c60 V' (k:=i+1) (by omega) ha (aG rfl ?_)
     unfold Fu
     refine c61 (PI hb _) (aG rfl ?_)
     rw[adV] at k
     show mQ (.int .i64 (fint (bidx (pk s (a+(i+1))) [34,92,110,116]))) _ _=true
     cases hk:bidx (pk s (a+(i+1))) [34,92,110,116] with
     |none=>
      rw[hk] at k
      have e0':eZ .lss (.int .i64 (fint none)) (AV.int .i64 0)=some (.bool true):=rfl
      refine pX e0' ?_
      refine bL ?_
      exact k h e0 ho
     |some j=>
      rw[hk] at k
      have e0':eZ .lss (.int .i64 (fint (some j))) (AV.int .i64 0)=some (.bool false):=by rw[II];rfl
      have hj:=OJ hk
      have hj4:j<4:=hj
      refine pX e0' ?_
      refine bg ?_
      first |refine aS (show mV (.str [34,92,10,9]) (.int .i64 (fint (some j)))=some (.int .u8 (pk [34,92,10,9] j:Int)) from eU (s:=[34,92,10,9]) hj) ?_ |refine ig (show mV (.str [34,92,10,9]) (.int .i64 (fint (some j)))=some (.int .u8 (pk [34,92,10,9] j:Int)) from eU (s:=[34,92,10,9]) hj) ?_ |refine jf (show mV (.str [34,92,10,9]) (.int .i64 (fint (some j)))=some (.int .u8 (pk [34,92,10,9] j:Int)) from eU (s:=[34,92,10,9]) hj) ?_ |refine je (show mV (.str [34,92,10,9]) (.int .i64 (fint (some j)))=some (.int .u8 (pk [34,92,10,9] j:Int)) from eU (s:=[34,92,10,9]) hj) ?_ |refine iW (show mV (.str [34,92,10,9]) (.int .i64 (fint (some j)))=some (.int .u8 (pk [34,92,10,9] j:Int)) from eU (s:=[34,92,10,9]) hj) ?_ |refine qN (show mV (.str [34,92,10,9]) (.int .i64 (fint (some j)))=some (.int .u8 (pk [34,92,10,9] j:Int)) from eU (s:=[34,92,10,9]) hj) ?_ |refine kT (show mV (.str [34,92,10,9]) (.int .i64 (fint (some j)))=some (.int .u8 (pk [34,92,10,9] j:Int)) from eU (s:=[34,92,10,9]) hj) ?_ |refine z_neE (show mV (.str [34,92,10,9]) (.int .i64 (fint (some j)))=some (.int .u8 (pk [34,92,10,9] j:Int)) from eU (s:=[34,92,10,9]) hj) ?_ |refine pX (show mV (.str [34,92,10,9]) (.int .i64 (fint (some j)))=some (.int .u8 (pk [34,92,10,9] j:Int)) from eU (s:=[34,92,10,9]) hj) ?_ |refine sj (show mV (.str [34,92,10,9]) (.int .i64 (fint (some j)))=some (.int .u8 (pk [34,92,10,9] j:Int)) from eU (s:=[34,92,10,9]) hj) ?_ |refine yg (show mV (.str [34,92,10,9]) (.int .i64 (fint (some j)))=some (.int .u8 (pk [34,92,10,9] j:Int)) from eU (s:=[34,92,10,9]) hj) ?_ |refine sw (show mV (.str [34,92,10,9]) (.int .i64 (fint (some j)))=some (.int .u8 (pk [34,92,10,9] j:Int)) from eU (s:=[34,92,10,9]) hj) ?_
      refine c83 B ho ho0 e0 hid (by omega) (PI (by decide) j) fun h' e' o' B'=>aG rfl ?_
      unfold Kt
      have e2:eZ .add (.int .i64 ((i+1:Nat):Int)) (AV.int .i64 1)=some (.int .i64 ((i+2:Nat):Int)):=P7 1 (by omega)
      refine ig e2 ?_
      have hpos:a+(i+1)<s.length:=by
       rcases Nat.lt_or_ge (a+(i+1)) s.length with hh |hh
       ·exact hh
       ·rw[KX hh] at hk;cases hk
      refine ih (i+2) _ h' o' e' B' (by simp;omega) (by omega) (by omega) fun h'' e'' o''=> ?_
      have:=k h'' e'' o''
      rw[show a+i+2=a+(i+2) by omega] at this
      cases hq2:quo (s.drop (a+(i+2))) with
      |none=>rw[hq2] at this;exact this
      |some r=>
       rw[hq2] at this
       simp only[Option.map,aaz] at this ⊢
       rw[List.append_assoc]
       rw[show i+2+r.2=i+(r.2+2) by omega]
       exact this
    ·refine vM (decide_eq_false h2) ?_
     rw[if_neg h2] at k
     have e32:eZ .lss (.int .u8 (pk s (a+i):Int)) (AV.int .u8 32)=some (.bool (decide (pk s (a+i)<32))):=ltb 32 _
     refine pX e32 ?_
     by_cases h3:pk s (a+i)<32
     ·refine vQ (decide_eq_true h3) ?_
      rw[if_pos h3] at k
      exact k h e0 ho
     ·refine vM (decide_eq_false h3) ?_
      rw[if_neg h3] at k
      refine c83 B ho ho0 e0 hid (by omega) (PI hb _) fun h' e' o' B'=>aG rfl ?_
      unfold Kt
      have e2:eZ .add (.int .i64 (i:Int)) (AV.int .i64 1)=some (.int .i64 ((i+1:Nat):Int)):=P7 1 (by omega)
      refine ig e2 ?_
      refine ih (i+1) _ h' o' e' B' (by simp;omega) (by omega) (by omega) fun h'' e'' o''=> ?_
      have:=k h'' e'' o''
      rw[show a+i+1=a+(i+1) by omega] at this
      cases hq2:quo (s.drop (a+(i+1))) with
      |none=>rw[hq2] at this;exact this
      |some r=>
       rw[hq2] at this
       simp only[Option.map,aaz] at this ⊢
       rw[List.append_assoc]
       rw[show i+1+r.2=i+(r.2+1) by omega]
       exact this
  ·refine vM (decide_eq_false (by omega)) ?_
   rw[List.drop_of_length_le (by omega)] at k
   exact k h e0 ho
theorem c67 {n x a:Nat} {s:Str} {bad:Bool} {h:aj} {K:aM} (V:LX h x s a bad) (ho:h.Ok) (hL:2*s.length+4<most) (hb:∀b∈s,b<256) (ha:a≤s.length) (hn:s.length<n)
 (k:∀h',Ext h h'→h'.Ok→K (aaz [] 1 (quo (s.drop (a+1)))) h'=true):au E (n+4) (.func 67) [.ptr x 0 0 0] h K=true:=by
 apply d67
 unfold s67
 obtain⟨b1,b2,b3,b4⟩:=acF ho
 refine Yv b1 ?_
 exact l67 V ho hL hb ha (Nat.le_refl _) (n+3) 1 [] _ b3 b4 b2 (by simp) (by omega) (by omega) k
def lK:Str→Option (Nat×Str×Nat)
 | []=>none
 |c :: l=>if kP c=true then some (0,(c :: l).take (mG (c :: l)),mG (c :: l))
  else if c=36 then(if 0<mG l then some (1,l.take (mG l),mG l+1) else none)
  else if gD c=true then some (2,(c :: l).take ((c :: l).takeWhile gD).length,((c :: l).takeWhile gD).length)
  else if c=34 then(quo l).map fun r=>(3,r.1,r.2+1)
  else if 0<kK (c :: l) then some (4,(c :: l).take (kK (c :: l)),kK (c :: l)) else none
theorem adL {s:Str} {a:Nat} (h:a<s.length):lK (s.drop a)=if kP (pk s a)=true then some (0,(s.drop a).take (mG (s.drop a)),mG (s.drop a))
 else if pk s a=36 then(if 0<mG (s.drop (a+1)) then some (1,(s.drop (a+1)).take (mG (s.drop (a+1))),mG (s.drop (a+1))+1) else none)
 else if gD (pk s a)=true then some (2,(s.drop a).take ((s.drop a).takeWhile gD).length,((s.drop a).takeWhile gD).length)
 else if pk s a=34 then(quo (s.drop (a+1))).map fun r=>(3,r.1,r.2+1)
 else if 0<kK (s.drop a) then some (4,(s.drop a).take (kK (s.drop a)),kK (s.drop a)) else none:=by
 rw[sG h];rfl
theorem zO {p:Nat→Bool}:∀(l:Str),(l.takeWhile p).length≤l.length
 | []=>by simp
 |c :: l=>by
  rw[List.takeWhile_cons]
  split
  ·have:=zO (p:=p) l
   simp only[List.length_cons];omega
  ·simp
theorem zI (l:Str):mG l≤l.length:=by
 cases l with
 |nil=>simp[mG]
 |cons c l=>simp only[mG];split
            ·exact zO _
            ·omega
theorem N7 (l:Str):kK l≤l.length:=by
 unfold kK
 split
 ·rename_i h
  obtain⟨t,ht,hp⟩:=List.any_eq_true.1 h
  have h1:=(List.isPrefixOf_iff_prefix.1 hp).length_le
  have h2:t.length=2:=by
   have:∀t∈rE,t.length=2:=by decide
   exact this t ht
  omega
 ·cases l with
  |nil=>simp
  |cons c l=>simp only[List.length_cons];split<;>omega
theorem wT {l:Str} {kd m:Nat} {t:Str} (h:lK l=some (kd,t,m)):0<m∧m≤l.length:=by
 cases l with
 |nil=>cases h
 |cons c l=>
  have e1:=zI (c :: l)
  have e2:=zI l
  have e3:=N7 (c :: l)
  have e4:=zO (p:=gD) (c :: l)
  simp only[lK] at h
  split at h
  ·rename_i hc
   cases h
   refine⟨?_,e1⟩
   have hw:GV c=true:=by simp[GV,hc]
   simp only[mG,hc,if_true]
   rw[List.takeWhile_cons,hw];simp
  ·split at h
   ·split at h
    ·cases h;simp only[List.length_cons];omega
    ·cases h
   ·split at h
    ·rename_i hc
     cases h
     refine⟨?_,e4⟩
     rw[List.takeWhile_cons,hc];simp
    ·split at h
     ·cases hq:quo l with
      |none=>rw[hq] at h;cases h
      |some r=>
       rw[hq] at h
       obtain⟨t',m'⟩:=r
       have:=Oi l t' m' hq
       cases h
       simp only[List.length_cons];omega
     ·split at h
      ·cases h;omega
      ·cases h
theorem agE {h:aj} {id:Nat} {c:List AV} {a b v:AV} {K:aM} (V:Var h id c) (hc:c.length=4) (ha:a.leaf=true) (hb:b.leaf=true)
 (k:K (.tup [.agg [a,b, .int .i64 0, .int .i64 0],v]) (h.put id (.row (mH [a,b, .int .i64 0, .int .i64 0])))=true):
 (aK h 4 (.ptr id 0 0 0) (.agg [a,b, .int .i64 0, .int .i64 0]) fun h=>gU (fQ h [(.ptr id 0 0 0,some (true,4)),(v,none)]) h K)=true:=by
 have hl:aD (AV.agg [a,b, .int .i64 0, .int .i64 0]).cells=true:=by
  show(bif a.leaf then(bif b.leaf then _ else false) else false)=true
  rw[ha,hb];rfl
 have hy:lay c 0 (AV.agg [a,b, .int .i64 0, .int .i64 0]).cells=[a,b, .int .i64 0, .int .i64 0]:=by
  match c,hc with
  | [_,_,_,_],_=>rfl
 have hs:=V.store (n:=4) (off:=0) (v:= .agg [a,b, .int .i64 0, .int .i64 0]) rfl (by omega) hl
 rw[hy] at hs
 refine abw rfl hs ?_
 have V':=xE (h:=h) id [a,b, .int .i64 0, .int .i64 0]
 simp only[fQ,V'.load]
 exact k
theorem c45 {n x a:Nat} {s:Str} {bad:Bool} {h:aj} {K:aM} (V:LX h x s a bad) (ho:h.Ok) (hL:2*s.length+4<most) (hb:∀b∈s,b<256) (ha:a<s.length) (hn:s.length<n) (hn6:6≤n)
 (kS:∀kd t m h',lK (s.drop a)=some (kd,t,m)→Ext h h'→h'.Ok→K (.tup [.agg [.int .i64 (kd:Int), .str t, .int .i64 0, .int .i64 0], .int .i64 (m:Int)]) h'=true)
 (kN:lK (s.drop a)=none→∀(kd:Nat) t h',Ext h h'→h'.Ok→K (.tup [.agg [.int .i64 (kd:Int), .str t, .int .i64 0, .int .i64 0], .int .i64 0]) h'=true):au E (n+5) (.func 45) [.ptr x 0 0 0] h K=true:=by
 have hlim:most<lim:=by decide
 apply d45
 unfold s45
 have A1:nU h none 1 (.ptr x 0 0 0)=some (.ptr h.sz 0 0 0,Ab.newRow h [[AV.ptr x 0 0 0]] 1):=Oz (n:=1) rfl (by decide) rfl
 have A2:qb (Ab.newRow h [[AV.ptr x 0 0 0]] 1) [AV.int .i64 0, .str [], .int .i64 0, .int .i64 0]=some (.ptr (h.sz+1) 0 0 0,Ab.newRow (Ab.newRow h [[AV.ptr x 0 0 0]] 1) [[AV.int .i64 0, .str [], .int .i64 0, .int .i64 0]] 4):=alloc_eq (by decide) rfl
 refine aaZ A1 (VB rfl rfl rfl A2 ?_)
 have e1:=iK ho [[AV.ptr x 0 0 0]] 1
 have o1:=jm ho [[AV.ptr x 0 0 0]] 1
 have V1:=oD h [AV.ptr x 0 0 0]
 have e2:=iK o1 [[AV.int .i64 0, .str [], .int .i64 0, .int .i64 0]] 4
 have o2:=jm o1 [[AV.int .i64 0, .str [], .int .i64 0, .int .i64 0]] 4
 have V2:=oD (Ab.newRow h [[AV.ptr x 0 0 0]] 1) [AV.int .i64 0, .str [], .int .i64 0, .int .i64 0]
 have V1':=V1.ext e2
 have E2:=e1.trans e2
 have VX:LX (Ab.newRow (Ab.newRow h [[AV.ptr x 0 0 0]] 1) [[AV.int .i64 0, .str [], .int .i64 0, .int .i64 0]] 4) x s a bad:=Var.ext V E2
 simp only[List.length_cons,List.length_nil,Nat.zero_add,Y1] at V1' V2
 generalize(Ab.newRow (Ab.newRow h [[AV.ptr x 0 0 0]] 1) [[AV.int .i64 0, .str [], .int .i64 0, .int .i64 0]] 4)=h2 at *
 have P0:eP h2 false 1 (.ptr h.sz 0 0 0)=some (.ptr x 0 0 0):=by rw[V1'.load];rfl
 have hz2:h.sz+1<h2.sz:=V2.lt o2
 have fin:∀(h':aj) (kd m:Nat) (t:Str),Ext h2 h'→h'.Ok→(lK (s.drop a)=some (kd,t,m)∨(lK (s.drop a)=none∧m=0))→
  (aK h' 4 (.ptr (h.sz+1) 0 0 0) (.agg [.int .i64 (kd:Int), .str t, .int .i64 0, .int .i64 0]) fun h''=>gU (fQ h'' [(.ptr (h.sz+1) 0 0 0,some (true,4)),(.int .i64 (m:Int),none)]) h'' K)=true:=by
  intro h' kd m t e' o' hr
  refine agE (V2.ext e') rfl rfl rfl ?_
  have e3:Ext h (h'.put (h.sz+1) (.row (mH [.int .i64 (kd:Int), .str t, .int .i64 0, .int .i64 0]))):=Il (E2.trans e') ho (by omega) _
  have o3:(h'.put (h.sz+1) (.row (mH [.int .i64 (kd:Int), .str t, .int .i64 0, .int .i64 0]))).Ok:=o'.put (Nat.lt_of_lt_of_le hz2 e'.1) _
  rcases hr with hr |⟨hr,rfl⟩
  ·exact kS _ _ _ _ hr e3 o3
  ·exact kN hr _ _ _ e3 o3
 have part:∀(h':aj) (f m:Nat) (K':aM),Ext h2 h'→a+f+m≤s.length→K' (.str ((s.drop (a+f)).take m)) h'=true→nM (au E (n+4)) (.fn (.func 62) [] [.ptr h.sz 0 0 0]) [.int .i64 (f:Int), .int .i64 (m:Int)] h' K'=true:=by
  intro h' f m K' e' hm hk
  exact c62 (Var.ext VX e') (V1'.ext e') (by omega) hm hk
 have hN:=adL ha
 have hlen:(s.drop a).length=s.length-a:=by simp
 have hlen1:(s.drop (a+1)).length=s.length-(a+1):=by simp
 refine aR (aS P0 ?_)
 refine c60 (k:=0) VX (by omega) (Nat.le_of_lt ha) (aG rfl ?_)
 refine c63 (aG rfl ?_)
 rw[Nat.add_zero]
 by_cases h1:kP (pk s a)=true
 ·rw[if_pos h1] at hN
  refine vQ h1 ?_
  refine aS P0 ?_
  refine c64 (f:=0) VX (by omega) (by omega) (by omega) (Nat.le_of_lt ha) (aG rfl ?_)
  have hw:=zI (s.drop a)
  refine part h2 0 _ _ (Ext.refl _) (by rw[Nat.add_zero];omega) ?_
  refine aG rfl (M0 (show qV [AV.int .i64 0, .str [], .int .i64 0, .int .i64 0] [(0,1,AV.int .i64 0),(1,1,AV.str ((s.drop (a+0)).take (mG (s.drop (a+0)))))]=some (.agg [.int .i64 ((0:Nat):Int), .str ((s.drop (a+0)).take (mG (s.drop (a+0)))), .int .i64 0, .int .i64 0]) from rfl) ?_)
  exact fin h2 0 _ _ (Ext.refl _) o2 (.inl hN)
 ·rw[if_neg h1] at hN
  refine vM (by simpa using h1) ?_
  have e36:eZ .eql (.int .u8 (pk s a:Int)) (AV.int .u8 36)=some (.bool (decide (pk s a=36))):=ZY 36 _
  refine kT e36 ?_
  by_cases h3:pk s a=36
  ·rw[if_pos h3] at hN
   refine vQ (decide_eq_true h3) ?_
   refine aS P0 ?_
   refine c64 (f:=1) VX (by omega) (by omega) (by omega) (Nat.le_of_lt ha) (aG rfl ?_)
   have hw:=zI (s.drop (a+1))
   refine kV ?_
   by_cases h4:0<mG (s.drop (a+1))
   ·rw[if_pos h4] at hN
    refine vQ (decide_eq_true (by omega)) ?_
    refine part h2 1 _ _ (Ext.refl _) (by omega) ?_
    refine aG rfl (M0 (show qV [AV.int .i64 0, .str [], .int .i64 0, .int .i64 0] [(0,1,AV.int .i64 1),(1,1,AV.str ((s.drop (a+1)).take (mG (s.drop (a+1)))))]=some (.agg [.int .i64 ((1:Nat):Int), .str ((s.drop (a+1)).take (mG (s.drop (a+1)))), .int .i64 0, .int .i64 0]) from rfl) ?_)
    have e1':eZ .add (.int .i64 (mG (s.drop (a+1)):Int)) (AV.int .i64 1)=some (.int .i64 ((mG (s.drop (a+1))+1:Nat):Int)):=P7 1 (by omega)
    refine ig e1' ?_
    exact fin h2 1 _ _ (Ext.refl _) o2 (.inl hN)
   ·rw[if_neg h4] at hN
    refine vM (decide_eq_false (by omega)) ?_
    refine rC (show eP h2 true 4 (.ptr (h.sz+1) 0 0 0)=some (.agg [.int .i64 ((0:Nat):Int), .str [], .int .i64 0, .int .i64 0]) by rw[V2.load];rfl) ?_
    exact fin h2 0 0 [] (Ext.refl _) o2 (.inr ⟨hN,rfl⟩)
  ·rw[if_neg h3] at hN
   refine vM (decide_eq_false h3) ?_
   refine c65 (aG rfl ?_)
   by_cases h5:gD (pk s a)=true
   ·rw[if_pos h5] at hN
    refine vQ h5 ?_
    refine aS P0 ?_
    have hw:=zO (p:=gD) (s.drop a)
    refine c66 (f:=0) (p:=gD) VX (by omega) (by omega) (Nat.le_of_lt ha) (fun b K' hk=>c65 hk) (aG rfl ?_)
    refine part h2 0 _ _ (Ext.refl _) (by rw[Nat.add_zero];omega) ?_
    refine aG rfl (M0 (show qV [AV.int .i64 0, .str [], .int .i64 0, .int .i64 0] [(0,1,AV.int .i64 2),(1,1,AV.str ((s.drop (a+0)).take ((s.drop (a+0)).takeWhile gD).length))]=some (.agg [.int .i64 ((2:Nat):Int), .str ((s.drop (a+0)).take ((s.drop (a+0)).takeWhile gD).length), .int .i64 0, .int .i64 0]) from rfl) ?_)
    exact fin h2 2 _ _ (Ext.refl _) o2 (.inl hN)
   ·rw[if_neg h5] at hN
    refine vM (by simpa using h5) ?_
    have e34:eZ .eql (.int .u8 (pk s a:Int)) (AV.int .u8 34)=some (.bool (decide (pk s a=34))):=ZY 34 _
    refine kT e34 ?_
    by_cases h6:pk s a=34
    ·rw[if_pos h6] at hN
     refine vQ (decide_eq_true h6) ?_
     refine aS P0 ?_
     refine c67 VX o2 hL hb (Nat.le_of_lt ha) hn fun h' e' o'=> ?_
     cases hq:quo (s.drop (a+1)) with
     |none=>
      rw[hq] at hN
      refine aG rfl ?_
      unfold zP
      show kI 0 (.tup [.str [], .int .i64 0]) _=true
      refine jR (jQ (M0 (show qV [AV.int .i64 0, .str [], .int .i64 0, .int .i64 0] [(0,1,AV.int .i64 3),(1,1,AV.str [])]=some (.agg [.int .i64 ((3:Nat):Int), .str [], .int .i64 0, .int .i64 0]) from rfl) ?_))
      exact fin h' 3 0 [] e' o' (.inr ⟨hN,rfl⟩)
     |some r=>
      rw[hq] at hN
      refine aG rfl ?_
      unfold zP
      show kI 0 (.tup [.str r.1, .int .i64 ((1+r.2:Nat):Int)]) _=true
      refine jR (jQ (M0 (show qV [AV.int .i64 0, .str [], .int .i64 0, .int .i64 0] [(0,1,AV.int .i64 3),(1,1,AV.str r.1)]=some (.agg [.int .i64 ((3:Nat):Int), .str r.1, .int .i64 0, .int .i64 0]) from rfl) ?_))
      have f:=fin h' 3 (r.2+1) r.1 e' o' (.inl (by rw[hN];rfl))
      rw[Nat.add_comm r.2 1] at f
      exact f
    ·rw[if_neg h6] at hN
     refine vM (decide_eq_false h6) ?_
     refine aS P0 ?_
     refine c68 VX o2 hb ha hn6 fun h' e' o'=>aG rfl ?_
     have hw:=N7 (s.drop a)
     refine part h' 0 _ _ e' (by rw[Nat.add_zero];omega) ?_
     refine aG rfl (M0 (show qV [AV.int .i64 0, .str [], .int .i64 0, .int .i64 0] [(0,1,AV.int .i64 4),(1,1,AV.str ((s.drop (a+0)).take (kK (s.drop a))))]=some (.agg [.int .i64 ((4:Nat):Int), .str ((s.drop (a+0)).take (kK (s.drop a))), .int .i64 0, .int .i64 0]) from rfl) ?_)
     by_cases h7:0<kK (s.drop a)
     ·rw[if_pos h7] at hN
      exact fin h' 4 _ _ e' o' (.inl hN)
     ·rw[if_neg h7] at hN
      exact fin h' 4 _ _ e' o' (.inr ⟨hN,by omega⟩)
def Js:Nat→Str→Nat→Nat→Except Nat (List Lx)
 |0,_,_,_=> .ok []
 |f+1,s,a,k=>
  if s.length≤a+skip false (s.drop a) then .ok [] else match lK (s.drop (a+skip false (s.drop a))) with
   |none=> .error (a+skip false (s.drop a))
   |some (kd,t,m)=>if 4096≤k then .error (a+skip false (s.drop a)) else match Js f s (a+skip false (s.drop a)+m) (k+1) with
    | .error e=> .error e
    | .ok l=> .ok (⟨kd,t,a+skip false (s.drop a),a+skip false (s.drop a)+m⟩ :: l)
def uG (s:Str):Except Nat (List Lx):=Js (s.length+1) s 0 0
theorem aao {h:aj} {c:List AV} {n off:Nat} {v:AV} (hc:c.length=n) (hv:v.leaf=true) (ho:off<n):cZ (Ab.newRow h [c] n) 1 (.ptr h.sz 0 0 off) v=some (Ab.newRow h [c.set off v] n):=by
 subst hc
 rw[(oD h c).set1 ho hv]
 simp only[Ab.newRow,RJ,mH,List.length_set]
def nO:dA:=(.reg [{dst:=some 7,op:=fP.alloc [AV.int (IntKind.i64) 0,AV.str [],AV.int (IntKind.i64) 0,AV.int (IntKind.i64) 0],grd:=none},{dst:=none,op:=fP.store 4 (bY.t 7) (bY.t 13),grd:=none}])
def jL:dA:=(.block 1 (.seq (.seq (.reg [{dst:=some 14,op:=fP.load false 1 (bY.t 6),grd:=none},{dst:=some 15,op:=fP.len 1 (bY.t 14),grd:=none},{dst:=some 16,op:=fP.bin (BinOp.geq) (bY.t 15) (bY.c (AV.int (IntKind.i64) 4096)),grd:=none}]) (.cond (.t 16) (.seq (.dreg [{dst:=some 17,op:=fP.fadr 2 (bY.t 7),grd:=none},{dst:=some 18,op:=fP.load false 1 (bY.t 17),grd:=none}] [({dst:=none,op:=fP.store 1 (bY.t 2) (bY.c (AV.ah)),grd:=none},[{dst:=some 18,op:=fP.load false 1 (bY.t 17),grd:=none}],[]),({dst:=none,op:=fP.store 1 (bY.t 3) (bY.t 18),grd:=none},[],[]),({dst:=none,op:=fP.store 1 (bY.t 4) (bY.c (AV.int (IntKind.i64) 20)),grd:=none},[],[])]) (.ret)) (.skip))) (.reg [{dst:=some 19,op:=fP.load false 1 (bY.t 6),grd:=none},{dst:=some 20,op:=fP.load true 4 (bY.t 7),grd:=none},{dst:=some 21,op:=fP.bslice 1 4 [AV.int (IntKind.i64) 0,AV.str [],AV.int (IntKind.i64) 0,AV.int (IntKind.i64) 0] [(0,bY.t 20)],grd:=none},{dst:=some 22,op:=fP.app 4 40 (bY.t 19) (bY.t 21),grd:=none},{dst:=none,op:=fP.store 1 (bY.t 6) (bY.t 22),grd:=none}])))
noncomputable def iM (b:Nat) (s:Str):dz:=put (put (put (put (put (put (put (put (put (put (qJ 0 [.str s] .lf) (some 2) (.ptr b 0 0 0)) (some 3) (.ptr (b+1) 0 0 0)) (some 4) (.ptr (b+2) 0 0 0)) (some 8) (.str s)) (some 9) (.agg [.str s, .int .i64 0, .bool false])) (some 10) (.ptr (b+3) 0 0 0)) (some 5) (.ptr (b+3) 0 0 0)) (some 6) (.ptr (b+4) 0 0 0)) (some 11) (.ptr (b+3) 0 0 0)) (some 12) (.fn (.func 43) [] [.ptr (b+5) 0 0 0])
section
variable {call:bM} {n:Nat} {σ:Go.Ab.St} {ρ ρ0 ρ':dz} {h h':aj} {KE:oM} {v:AV} {a b:dA} {l n0 chk ns:List aU} {es:List Nat} {rest:List (aU×List aU×List aU)}
theorem q_reg (s:nS call l σ KE=true):dD call n (.reg l) σ KE=true:=by simp only[dD];exact s
theorem Kl (s:dD call n a σ (fun x σ'=>match x with | .normal=>dD call n b σ' KE |x=>KE x σ')=true):dD call n (.seq a b) σ KE=true:=by simp only[dD];exact s
theorem Wz {c:bY} (e:ev σ.regs c=some (.bool true)) (s:dD call n a σ KE=true):dD call n (.cond c a b) σ KE=true:=by simp only[dD,e];exact s
theorem WU {c:bY} (e:ev σ.regs c=some (.bool false)) (s:dD call n b σ KE=true):dD call n (.cond c a b) σ KE=true:=by simp only[dD,e];exact s
theorem q_skip (s:KE .normal σ=true):dD call n .skip σ KE=true:=by simp only[dD];exact s
theorem ad5 (s:KE .ret σ=true):dD call n .ret σ KE=true:=by simp only[dD];exact s
theorem X4 {id:Nat} (s:dD call n a σ (fun x σ'=>match x with | .exit i=>bif Nat.beq i id then KE .normal σ' else KE (.exit i) σ' |x=>KE x σ')=true):dD call n (.block id a) σ KE=true:=by simp only[dD];exact s
theorem ZG (e:qm n0 σ.regs σ.h=some ρ') (s:Go.Ab.oI call (Ca rest (yD n0 σ.regs)) [] rest ⟨ρ',σ.h⟩ KE=true):dD call n (.dreg n0 rest) σ KE=true:=by simp only[dD,e];exact s
theorem aea (s:KE .normal σ=true):Go.Ab.oI call ρ0 es [] σ KE=true:=by simp only[Go.Ab.oI];exact s
theorem Ze {dst:Option Nat} {op:fP} (hn:dK op=false) (he:iU ⟨dst,op,none⟩=false) (e:aO ρ h op=some (v,h')) (ch:again (put ρ dst v) h' chk=true) (cs:qm ns (put ρ dst v) h'=some ρ')
 (s:Go.Ab.oI call ρ0 es rest ⟨ρ',h'⟩ KE=true):Go.Ab.oI call ρ0 es ((⟨dst,op,none⟩,chk,ns) :: rest) ⟨ρ,h⟩ KE=true:=by
 have ek:∀K,gY call ρ h op K=K v h':=by
  intro K
  cases op<;>first |(cases hn;done)|(simp only[gY,e])
 simp only[Go.Ab.oI,jO,fE,hn,qA,AB,ek,cond_false,ch,cond_true,cs,he]
 exact s
end
noncomputable def abb (id:Nat) (K:aM):oM:=fun x σ2=>
 match σ2.h.get id with
 |some (.loop l2)=>match x with
  | .normal=>K (.bool true) (σ2.h.put id (.loop {l2 with st:= .ready}))
  | .panic _=>false
  |x=>K (.bool false) (σ2.h.put id (.loop {l2 with st:= .done x}))
 |_=>false
theorem Sj {h:aj} {id:Nat} {ρ regs:dz} {ps:List Nat} {asg body:dA} {K:aM} (hg:h.get id=some (Lp regs ps asg body .busy)) (s:K (.bool true) (h.put id (Lp regs ps asg body .ready))=true):abb id K .normal ⟨ρ,h⟩=true:=by
 unfold abb;unfold Lp at hg;simp only[hg];exact s
theorem aaW {h:aj} {id:Nat} {ρ regs:dz} {ps:List Nat} {asg body:dA} {K:aM} (hg:h.get id=some (Lp regs ps asg body .busy)) (s:K (.bool false) (h.put id (Lp regs ps asg body (.done .ret)))=true):abb id K .ret ⟨ρ,h⟩=true:=by
 unfold abb;unfold Lp at hg;simp only[hg];exact s
theorem ajk {n id:Nat} {h:aj} {regs ρ:dz} {ps:List Nat} {ops:List aU} {body:dA} {args:List AV} {K:aM} (hg:h.get id=some (Lp regs ps (.reg ops) body .ready)) (hs:DJ ps args regs=some ρ)
 (s:nS (au E n) ops ⟨ρ,h⟩ (fun x σ=>match x with
   | .normal=>(match σ.h.get id with
     |some (.loop l1)=>match l1.st with
      | .ready=>dD (au E n) n body ⟨σ.regs,σ.h.put id (.loop {l1 with st:= .busy})⟩ (abb id K)
      |_=>false
     |_=>false)
   |_=>false)=true):au E (n+1) (.yield id) args h K=true:=by
 simp only[au,hg,Lp,hs,dD]
 exact s
theorem abu {ρ:dz} {h h':aj} {d:Nat} {op:fP} {v:AV} (e:aO ρ h op=some (v,h')) (g:ρ.get d=some v) (sm:AV.same v v=true):again ρ h [⟨some d,op,none⟩]=true:=by
 simp only[again,mP,fE,e,g,sm,cond_true]
structure Hz (h0:aj) (s:Str) (regs:dz) (h:aj) (a:Nat) (bad:Bool) (acc:List Lx):Prop where
 ext:Ext h0 h
 ok:h.Ok
 sz:h0.sz+7≤h.sz
 r1:Var h h0.sz [.ah]
 r2:Var h (h0.sz+1) [.int .i64 0]
 r3:Var h (h0.sz+2) [.int .i64 0]
 lx:LX h (h0.sz+3) s a bad
 l:∃v,Var h (h0.sz+4) [v]∧Own (h0.sz+7) h 4 v (acc.map lH)
 p:Var h (h0.sz+5) [.ptr (h0.sz+3) 0 0 0]
 y:h.get (h0.sz+6)=some (Lp regs [13] nO jL .ready)
theorem Hz.grow {h0 h h':aj} {s:Str} {regs:dz} {a:Nat} {bad:Bool} {acc:List Lx} (I:Hz h0 s regs h a bad acc) (e:Ext h h') (o:h'.Ok):Hz h0 s regs h' a bad acc:=
 ⟨I.ext.trans e,o,Nat.le_trans I.sz e.1,I.r1.ext e,I.r2.ext e,I.r3.ext e,Var.ext I.lx e,let⟨v,p,q⟩:=I.l;⟨v,p.ext e,q.ext e⟩,I.p.ext e,e.2 _ _ I.y⟩
theorem Hz.but {h0 h h':aj} {s:Str} {regs:dz} {a a':Nat} {bad bad':Bool} {acc:List Lx} (I:Hz h0 s regs h a bad acc) (k0:h0.Ok) (e:But (h0.sz+3) h h') (o:h'.Ok) (V:LX h' (h0.sz+3) s a' bad'):Hz h0 s regs h' a' bad' acc:=
 ⟨e.ext I.ext k0 (by omega),o,Nat.le_trans I.sz e.sz,e.var I.r1 (by omega),e.var I.r2 (by omega),e.var I.r3 (by omega),V,let⟨v,p,q⟩:=I.l;⟨v,e.var p (by omega),e.own q (by omega)⟩,e.var I.p (by omega),e.keep _ _ (by omega) I.y⟩
structure aeu (h0:aj) (regs:dz) (h:aj) (e:Nat):Prop where
 ext:Ext h0 h
 ok:h.Ok
 sz:h0.sz+7≤h.sz
 r1:Var h h0.sz [.ah]
 r2:Var h (h0.sz+1) [.int .i64 (e:Int)]
 r3:Var h (h0.sz+2) [.int .i64 20]
 y:h.get (h0.sz+6)=some (Lp regs [13] nO jL (.done .ret))
theorem y13 {n:Nat} {h h0:aj} {s:Str} {a:Nat} {acc:List Lx} {x:Lx} {K:aM} (k0:h0.Ok) (I:Hz h0 s (iM h0.sz s) h a false acc) (hacc:acc.length≤4096)
 (k1:acc.length<4096→∀h',Hz h0 s (iM h0.sz s) h' a false (acc++[x])→K (.bool true) h'=true)
 (k2:4096≤acc.length→∀h',aeu h0 (iM h0.sz s) h' x.beg→K (.bool false) h'=true):au E (n+1) (.yield (h0.sz+6)) [.agg (lH x)] h K=true:=by
 refine ajk I.y rfl ?_
 have A:qb h [AV.int .i64 0, .str [], .int .i64 0, .int .i64 0]=some (.ptr h.sz 0 0 0,Ab.newRow h [[AV.int .i64 0, .str [], .int .i64 0, .int .i64 0]] 4):=alloc_eq (by decide) rfl
 refine iJ rfl A ?_
 have S:=Ec (h:=h) (z:=[AV.int .i64 0, .str [], .int .i64 0, .int .i64 0]) (n:=4) (v:= .agg (lH x)) rfl rfl rfl
 refine iJ (v:= .tup []) (h':=Ab.newRow h [lH x] 4) rfl (by show unit (cZ (Ab.newRow h [[AV.int .i64 0, .str [], .int .i64 0, .int .i64 0]] 4) 4 (.ptr h.sz 0 0 0) (.agg (lH x)))=_;rw[S];rfl) (pV ?_)
 have e1:=iK I.ok [lH x] 4
 have I1:=I.grow e1 (jm I.ok [lH x] 4)
 have V1:=oD h (lH x)
 simp only[show(lH x).length=4 from rfl] at V1
 have hh:=I.sz
 generalize Ab.newRow h [lH x] 4=h1 at *
 have y1:=I1.y
 unfold Lp at y1
 simp only[y1]
 show dD _ n jL ⟨_,h1.put (h0.sz+6) (Lp (iM h0.sz s) [13] nO jL .busy)⟩ _=true
 obtain⟨v,L,O⟩:=I1.l
 have hx:But (h0.sz+6) h1 (h1.put (h0.sz+6) (Lp (iM h0.sz s) [13] nO jL .busy)):=But.put _ _ _
 have hg:(h1.put (h0.sz+6) (Lp (iM h0.sz s) [13] nO jL .busy)).get (h0.sz+6)=some (Lp (iM h0.sz s) [13] nO jL .busy):=qo _ _ _
 have o2:(h1.put (h0.sz+6) (Lp (iM h0.sz s) [13] nO jL .busy)).Ok:=I1.ok.put (by have:=I1.sz;omega) _
 have hz2:(h1.put (h0.sz+6) (Lp (iM h0.sz s) [13] nO jL .busy)).sz=h1.sz:=by simp
 generalize h1.put (h0.sz+6) (Lp (iM h0.sz s) [13] nO jL .busy)=h2 at *
 have L2:=hx.var L (by omega)
 have O2:=hx.own O (by omega)
 have V2:=hx.var V1 (by omega)
 have r1:=hx.var I1.r1 (by omega)
 have r2:=hx.var I1.r2 (by omega)
 have r3:=hx.var I1.r3 (by omega)
 have X2:=hx.ext I1.ext k0 (by omega)
 have LL:eP h2 false 1 (.ptr (h0.sz+4) 0 0 0)=some v:=by rw[L2.load];rfl
 have LV:eP h2 false 1 (.ptr h.sz 0 0 2)=some (.int .i64 (x.beg:Int)):=by rw[V2.load];rfl
 have sz1:=I1.sz
 refine X4 (Kl (Kl (q_reg ?_)))
 refine iJ (v:=v) (h':=h2) rfl (by show bT (eP h2 false 1 (.ptr (h0.sz+4) 0 0 0)) h2=_;rw[LL];rfl) ?_
 refine iJ (v:= .int .i64 ((acc.map lH).length:Int)) (h':=h2) rfl (by show bT (Bu h2 1 v) h2=_;rw[O2.view.len];rfl) ?_
 refine iJ (v:= .bool (decide ((4096:Int)≤((acc.map lH).length:Int)))) (h':=h2) rfl (by show bT (eZ .geq (.int .i64 ((acc.map lH).length:Int)) (.int .i64 4096)) h2=_;rw[Q6];rfl) (pV ?_)
 by_cases hfull:4096≤acc.length
 ·refine Wz (by show some (AV.bool (decide _))=_;rw[decide_eq_true (by rw[List.length_map];omega)]) ?_
  refine Kl (ZG (jZ (v:= .ptr h.sz 0 0 2) (h':=h2) rfl (jZ (v:= .int .i64 (x.beg:Int)) (h':=h2) (by show bT (eP h2 false 1 (.ptr h.sz 0 0 2)) h2=_;rw[LV];rfl) rfl)) ?_)
  have st1:=r1.set1 (off:=0) (v:= .ah) (by decide) rfl
  have b1:=But.put h0.sz h2 (.row (mH ([AV.ah].set 0 .ah)))
  have V3:=b1.var V2 (by omega)
  have LV3:eP (h2.put h0.sz (.row (mH ([AV.ah].set 0 .ah)))) false 1 (.ptr h.sz 0 0 2)=some (.int .i64 (x.beg:Int)):=by rw[V3.load];rfl
  refine Ze (v:= .tup []) (h':=h2.put h0.sz (.row (mH ([AV.ah].set 0 .ah)))) rfl rfl (by show unit (cZ h2 1 (.ptr h0.sz 0 0 0) .ah)=_;rw[st1];rfl)
   (abu (v:= .int .i64 (x.beg:Int)) (h':=h2.put h0.sz (.row (mH ([AV.ah].set 0 .ah)))) (by show bT (eP _ false 1 (.ptr h.sz 0 0 2)) _=_;rw[LV3];rfl) rfl (Ky _ _)) rfl ?_
  have r2':=b1.var r2 (by omega)
  have st2:=r2'.set1 (off:=0) (v:= .int .i64 (x.beg:Int)) (by decide) rfl
  refine Ze (v:= .tup []) rfl rfl (by show unit (cZ _ 1 (.ptr (h0.sz+1) 0 0 0) (.int .i64 (x.beg:Int)))=_;rw[st2];rfl) rfl rfl ?_
  have b2:=But.put (h0.sz+1) (h2.put h0.sz (.row (mH ([AV.ah].set 0 .ah)))) (.row (mH ([AV.int .i64 0].set 0 (.int .i64 (x.beg:Int)))))
  have r3':=b2.var (b1.var r3 (by omega)) (by omega)
  have st3:=r3'.set1 (off:=0) (v:= .int .i64 20) (by decide) rfl
  refine Ze (v:= .tup []) rfl rfl (by show unit (cZ _ 1 (.ptr (h0.sz+2) 0 0 0) (.int .i64 20))=_;rw[st3];rfl) rfl rfl (aea ?_)
  have b3:=But.put (h0.sz+2) ((h2.put h0.sz (.row (mH ([AV.ah].set 0 .ah)))).put (h0.sz+1) (.row (mH ([AV.int .i64 0].set 0 (.int .i64 (x.beg:Int)))))) (.row (mH ([AV.int .i64 0].set 0 (.int .i64 20))))
  have g3:=b3.keep _ _ (by omega) (b2.keep _ _ (by omega) (b1.keep _ _ (by omega) hg))
  refine ad5 (aaW g3 ?_)
  have b4:=But.put (h0.sz+6) (((h2.put h0.sz (.row (mH ([AV.ah].set 0 .ah)))).put (h0.sz+1) (.row (mH ([AV.int .i64 0].set 0 (.int .i64 (x.beg:Int)))))).put (h0.sz+2) (.row (mH ([AV.int .i64 0].set 0 (.int .i64 20))))) (Lp (iM h0.sz s) [13] nO jL (.done .ret))
  refine k2 hfull _ ⟨b4.ext (b3.ext (b2.ext (b1.ext X2 k0 (by omega)) k0 (by omega)) k0 (by omega)) k0 (by omega), ?_, ?_, ?_, ?_, ?_,qo _ _ _⟩
  ·exact(((o2.put (by omega) _).put (by simp;omega) _).put (by simp;omega) _).put (by simp;omega) _
  ·simp;omega
  ·exact b4.var (b3.var (b2.var (xE h0.sz [AV.ah]) (by omega)) (by omega)) (by omega)
  ·exact b4.var (b3.var (xE (h0.sz+1) [AV.int .i64 (x.beg:Int)]) (by omega)) (by omega)
  ·exact b4.var (xE (h0.sz+2) [AV.int .i64 20]) (by omega)
 ·refine WU (by show some (AV.bool (decide _))=_;rw[decide_eq_false (by rw[List.length_map];omega)]) (q_skip ?_)
  refine q_reg (iJ (v:=v) (h':=h2) rfl (by show bT (eP h2 false 1 (.ptr (h0.sz+4) 0 0 0)) h2=_;rw[LL];rfl) ?_)
  have LA:eP h2 true 4 (.ptr h.sz 0 0 0)=some (.agg (lH x)):=by rw[V2.load];rfl
  refine iJ (v:= .agg (lH x)) (h':=h2) rfl (by show bT (eP h2 true 4 (.ptr h.sz 0 0 0)) h2=_;rw[LA];rfl) ?_
  obtain⟨u,g1,W⟩:=zi (h:=h2) (n:=1) (sz:=4) (z:=[AV.int .i64 0, .str [], .int .i64 0, .int .i64 0]) (ps:=[(0, .agg (lH x))]) (es:=[lH x]) rfl (by decide) (by decide) rfl rfl rfl
  refine iJ rfl g1 ?_
  have e3:=iK o2 [lH x] 4
  have o3:=jm o2 [lH x] 4
  generalize Ab.newRow h2 [lH x] 4=h3 at *
  have hm:most=1099511627776:=rfl
  obtain⟨v',h4,a1,a2,a3,a4,a5,a6,_⟩:=(O2.ext e3).app (bytes:=40) (by decide) (by have:=e3.1;omega) o3 k0 (X2.trans e3) (by omega) W.src (by simp only[List.length_map,List.length_cons,List.length_nil];omega) (by simp only[List.length_map,List.length_cons,List.length_nil];omega)
  refine iJ rfl a1 ?_
  have kp:∀j o,j<h0.sz+7→h2.get j=some o→h4.get j=some o:=fun j o hj hg=>a6 j o (e3.2 _ _ hg) (by
   intro id g st l c ex hv
   rcases O2 with⟨rfl,_⟩|⟨i',r,q1,q2,_⟩
   ·cases hv
   ·rw[q2] at hv;cases hv;omega)
  have kv:∀(j:Nat) (c:List AV),j<h0.sz+7→Var h2 j c→Var h4 j c:=fun j c hj V=>by
   have V':h2.row j=some (mH c):=V
   show h4.row j=_
   rw[aj.row_some] at V' ⊢
   exact kp j _ hj V'
  have L4:=kv _ _ (by omega) L2
  have st4:=L4.set1 (off:=0) (v:=v') (by show 0<1;omega) a2.view.leaf
  refine iJ (v:= .tup []) rfl (by show unit (cZ h4 1 (.ptr (h0.sz+4) 0 0 0) v')=_;rw[st4];rfl) (pV ?_)
  have b5:=But.put (h0.sz+4) h4 (.row (mH ([v].set 0 v')))
  have g5:=b5.keep _ _ (by omega) (kp _ _ (by omega) hg)
  refine Sj g5 ?_
  have b6:=But.put (h0.sz+6) (h4.put (h0.sz+4) (.row (mH ([v].set 0 v')))) (Lp (iM h0.sz s) [13] nO jL .ready)
  have s4:h0.sz+7≤h4.sz:=by have:=e3.1;omega
  refine k1 (by omega) _ ⟨b6.ext (b5.ext a4 k0 (by omega)) k0 (by omega),(a3.put (by omega) _).put (by simp;omega) _,by simp;omega, ?_, ?_, ?_, ?_,⟨v',b6.var (xE (h0.sz+4) [v']) (by omega), ?_⟩, ?_,qo _ _ _⟩
  ·exact b6.var (b5.var (kv _ _ (by omega) r1) (by omega)) (by omega)
  ·exact b6.var (b5.var (kv _ _ (by omega) r2) (by omega)) (by omega)
  ·exact b6.var (b5.var (kv _ _ (by omega) r3) (by omega)) (by omega)
  ·exact b6.var (b5.var (kv _ _ (by omega) (hx.var I1.lx (by omega))) (by omega)) (by omega)
  ·rw[List.map_append];exact b6.own (b5.own a2 (by omega)) (by omega)
  ·exact b6.var (b5.var (kv _ _ (by omega) (hx.var I1.p (by omega))) (by omega)) (by omega)
theorem adI (call:bM) (f:Yg) (vs:List AV) (h:aj) (K:aM):nM call (.fn f [] []) vs h K=call f vs h K:=by
 rw[ZU,List.nil_append,List.append_nil]
theorem Y4 {h:aj} {id:Nat} {w v:AV} (V:Var h id [w]) (hv:v.leaf=true) (o:h.Ok):∃h',cZ h 1 (.ptr id 0 0 0) v=some h'∧But id h h'∧Var h' id [v]∧h'.Ok:=
 ⟨_,V.set1 (by show 0<1;omega) hv,But.put _ _ _,xE id [v],o.put (V.lt o) _⟩
theorem l43 {n:Nat} {h0:aj} {s:Str} {K:aM} (k0:h0.Ok) (hL:2*s.length+4<most) (hb:∀b∈s,b<256) (hn:s.length<n) (hn6:6≤n):
 ∀(m a f:Nat) (acc:List Lx) (h:aj),Hz h0 s (iM h0.sz s) h a false acc→a≤s.length→s.length-a<m→s.length-a<f→acc.length≤4096→
  (∀l h' a',Js f s a acc.length= .ok l→Hz h0 s (iM h0.sz s) h' a' false (acc++l)→K (.tup []) h'=true)→
  (∀e l h',Js f s a acc.length= .error e→Hz h0 s (iM h0.sz s) h' e true l→K (.tup []) h'=true)→
  (∀e h',Js f s a acc.length= .error e→aeu h0 (iM h0.sz s) h' e→K (.tup []) h'=true)→
  Xj (au E (n+6)) (n+6) m (.fn (.yield (h0.sz+6)) [] []) (.ptr (h0.sz+5) 0 0 0) h K=true:=by
 have hlim:most<lim:=by decide
 intro m
 induction m with
 |zero=>intro a f acc h _ _ hm;omega
 |succ m ih=>
  intro a f acc h I ha hm hf hacc k1 k2 k3
  obtain⟨f,rfl⟩:∃j,f=j+1:=⟨f-1,by omega⟩
  simp only[Js] at k1 k2 k3
  unfold Xj aa4
  have P0:eP h false 1 (.ptr (h0.sz+5) 0 0 0)=some (.ptr (h0.sz+3) 0 0 0):=by rw[I.p.load];rfl
  refine aS P0 ?_
  refine c44 I.lx I.ok (by omega) ha (by omega) fun h1 B1 o1 V1=>aG rfl ?_
  have I1:=I.but k0 B1 o1 V1
  have hsk:a+skip false (s.drop a)≤s.length:=by
   have:=uO false (s.drop a)
   simp only[List.length_drop] at this
   omega
  have hab:a≤a+skip false (s.drop a):=Nat.le_add_right _ _
  generalize a+skip false (s.drop a)=b at *
  have P1:eP h1 false 1 (.ptr (h0.sz+5) 0 0 0)=some (.ptr (h0.sz+3) 0 0 0):=by rw[I1.p.load];rfl
  refine aS P1 (eB (aA (aS V1.l1 (aS P1 (eB (aA (aS V1.l0 (gJ (RI ?_)))))))))
  by_cases hend:s.length≤b
  ·refine vQ (decide_eq_true (by omega)) ?_
   rw[if_pos hend] at k1
   exact k1 [] h1 b rfl (by rw[List.append_nil];exact I1)
  ·refine vM (decide_eq_false (by omega)) ?_
   refine aS P1 ?_
   rw[if_neg hend] at k1 k2 k3
   have hbl:b<s.length:=by omega
   refine c45 (n:=n+1) V1 o1 hL hb hbl (by omega) (by omega) ?_ ?_
   ·intro kd t mm h2 hN e2 o2
    obtain⟨hm0,hml⟩:=wT hN
    simp only[List.length_drop] at hml
    simp only[hN] at k1 k2 k3
    have I2:=I1.grow e2 o2
    refine aG rfl ?_
    unfold Ac
    have A:qb h2 [AV.int .i64 0, .str [], .int .i64 0, .int .i64 0]=some (.ptr h2.sz 0 0 0,Ab.newRow h2 [[AV.int .i64 0, .str [], .int .i64 0, .int .i64 0]] 4):=alloc_eq (by decide) rfl
    refine jR (jQ (VB rfl rfl rfl A (abw rfl (Ec (h:=h2) (z:=[AV.int .i64 0, .str [], .int .i64 0, .int .i64 0]) (n:=4) (v:= .agg [.int .i64 (kd:Int), .str t, .int .i64 0, .int .i64 0]) rfl rfl rfl) ?_)))
    have e0:eZ .eql (.int .i64 (mm:Int)) (AV.int .i64 0)=some (.bool false):=by
     rw[QE,decide_eq_false (by omega)]
    refine kT e0 (bg ?_)
    have hc0:(AV.agg [AV.int .i64 (kd:Int), .str t, .int .i64 0, .int .i64 0]).cells=[AV.int .i64 (kd:Int), .str t, .int .i64 0, .int .i64 0]:=rfl
    rw[hc0]
    have nb:∀c,Ext h2 (Ab.newRow h2 [c] 4)∧(Ab.newRow h2 [c] 4).Ok:=fun c=>⟨iK o2 _ _,jm o2 _ _⟩
    have pp:∀c,eP (Ab.newRow h2 [c] 4) false 1 (.ptr (h0.sz+5) 0 0 0)=some (.ptr (h0.sz+3) 0 0 0):=fun c=>by rw[(I2.p.ext (nb c).1).load];rfl
    have l1:∀c,eP (Ab.newRow h2 [c] 4) false 1 (.ptr (h0.sz+3) 0 0 1)=some (.int .i64 (b:Int)):=fun c=>LX.l1 (Var.ext I2.lx (nb c).1)
    have ad:=dB (show b+mm<lim by omega)
    refine aS (pp _) (eB (aA (aS (l1 _) (aS (pp _) (eB (aA (aS (l1 _) (ig ad (aA (GN (aao (n:=4) rfl rfl (by decide)) ?_))))))))))
    refine aS (pp _) (dS (ab0 _ _ _ _) (aS (l1 _) (dS (Ky _ _) (aA (GN (aao (n:=4) rfl rfl (by decide)) ?_)))))
    refine aS (pp _) (eB (aA (aS (l1 _) (ig ad (eB (aA ?_))))))
    have hcs:([AV.int .i64 (kd:Int), .str t, .int .i64 0, .int .i64 0].set 2 (.int .i64 (b:Int))).set 3 (.int .i64 ((b+mm:Nat):Int))=lH ⟨kd,t,b,b+mm⟩:=rfl
    rw[hcs]
    have V3:Var (Ab.newRow h2 [lH ⟨kd,t,b,b+mm⟩] 4) h2.sz (lH ⟨kd,t,b,b+mm⟩):=oD h2 _
    have I3:=I2.grow (nb (lH ⟨kd,t,b,b+mm⟩)).1 (nb _).2
    have sz3:(Ab.newRow h2 [lH ⟨kd,t,b,b+mm⟩] 4).sz=h2.sz+1:=rfl
    have sz2:=I2.sz
    generalize Ab.newRow h2 [lH ⟨kd,t,b,b+mm⟩] 4=h3 at *
    refine GN (LX.set I3.lx (b+mm)) ?_
    have B4:=But.put (h0.sz+3) h3 (.row (mH [.str s, .int .i64 ((b+mm:Nat):Int), .bool false]))
    have V4:=B4.var V3 (by omega)
    have I4:=I3.but k0 B4 (I3.ok.put (by omega) _) (Vj h3 (h0.sz+3) s (b+mm) false)
    generalize h3.put (h0.sz+3) (.row (mH [.str s, .int .i64 ((b+mm:Nat):Int), .bool false]))=h4 at *
    have LA:eP h4 true 4 (.ptr h2.sz 0 0 0)=some (.agg (lH ⟨kd,t,b,b+mm⟩)):=by rw[V4.load];rfl
    refine rC LA ?_
    rw[adI]
    refine y13 (n:=n+5) (x:=⟨kd,t,b,b+mm⟩) k0 I4 hacc ?_ ?_
    ·intro hlt h5 I5
     rw[if_neg (by omega)] at k1 k2 k3
     refine aG rfl ?_
     unfold Aj
     refine bJ (bg ?_)
     refine ih (b+mm) f (acc++[⟨kd,t,b,b+mm⟩]) h5 I5 (by omega) (by omega) (by omega) (by simp;omega) ?_ ?_ ?_
     ·intro l h' a' hl I'
      simp only[List.length_append,List.length_cons,List.length_nil,Nat.zero_add] at hl
      rw[hl] at k1
      exact k1 _ h' a' rfl (by rw[List.append_assoc] at I';exact I')
     ·intro e l h' hl I'
      simp only[List.length_append,List.length_cons,List.length_nil,Nat.zero_add] at hl
      rw[hl] at k2
      exact k2 e l h' rfl I'
     ·intro e h' hl I'
      simp only[List.length_append,List.length_cons,List.length_nil,Nat.zero_add] at hl
      rw[hl] at k3
      exact k3 e h' rfl I'
    ·intro hge h5 S5
     rw[if_pos hge] at k3
     refine aG rfl ?_
     unfold Aj
     refine dx (bL ?_)
     exact k3 b h5 rfl S5
   ·intro hN kd t h2 e2 o2
    simp only[hN] at k2
    have I2:=I1.grow e2 o2
    refine aG rfl ?_
    unfold Ac
    have A:qb h2 [AV.int .i64 0, .str [], .int .i64 0, .int .i64 0]=some (.ptr h2.sz 0 0 0,Ab.newRow h2 [[AV.int .i64 0, .str [], .int .i64 0, .int .i64 0]] 4):=alloc_eq (by decide) rfl
    refine jR (jQ (VB rfl rfl rfl A (abw rfl (Ec (h:=h2) (z:=[AV.int .i64 0, .str [], .int .i64 0, .int .i64 0]) (n:=4) (v:= .agg [.int .i64 (kd:Int), .str t, .int .i64 0, .int .i64 0]) rfl rfl rfl) ?_)))
    refine kT (v:= .bool true) rfl (bL ?_)
    have I3:=I2.grow (iK o2 [(AV.agg [AV.int .i64 (kd:Int), .str t, .int .i64 0, .int .i64 0]).cells] 4) (jm o2 _ _)
    generalize Ab.newRow h2 [(AV.agg [AV.int .i64 (kd:Int), .str t, .int .i64 0, .int .i64 0]).cells] 4=h3 at *
    have P3:eP h3 false 1 (.ptr (h0.sz+5) 0 0 0)=some (.ptr (h0.sz+3) 0 0 0):=by rw[I3.p.load];rfl
    have sz3:=I3.sz
    refine aS P3 (eB (aA (GN (LX.setb I3.lx true) ?_)))
    exact k2 b acc _ rfl (I3.but k0 (But.put _ _ _) (I3.ok.put (by omega) _) (Vj h3 (h0.sz+3) s b true))
theorem ajD {call:bM} {n fid:Nat} {σ:Go.Ab.St} {f:bY} {ps:List Nat} {asg body:dA} {first cap:List AV} {KE:oM} (e:ev σ.regs f=some (.fn (.func fid) first cap))
 (s:call (.func fid) (first++[.fn (.yield σ.h.sz) [] []]++cap) (σ.h.push (Lp σ.regs ps asg body .ready)) (fun v h'=>
   match jl v with
   |some _=>false
   |none=>
   match h'.get σ.h.sz with
   |some (.loop l)=>match l.st with
    | .ready=>KE .normal ⟨σ.regs,h'.put σ.h.sz (.loop {l with st:= .exh})⟩
    | .done x=>KE x ⟨σ.regs,h'.put σ.h.sz (.loop {l with st:= .exh})⟩
    |_=>false
   |_=>false)=true):dD call n (.rf f ps asg body) σ KE=true:=by
 simp only[dD,e]
 exact s
theorem abM {call:bM} {df:ni} {n:Nat} {σ:Go.Ab.St} {pend:List (AV×List AV)} {KT:Go.Ab.Mode→Go.Ab.St→Bool} {a1 a2 b:dA} (s:Go.Ab.dD call n (.seq a1 a2) σ (fun x σ'=>match x with | .normal=>Go.Ab.runT call df n b pend σ' KT |x=>atEnd df pend x σ' KT)=true):Go.Ab.runT call df n (.seq (.seq a1 a2) b) pend σ KT=true:=by
 simp only[Go.Ab.runT];exact s
theorem _root_.Go.Ab.Own.low {b c n:Nat} {h:aj} {v:AV} {es:List (List AV)} (O:Own b h n v es) (l:c≤b):Own c h n v es:=by
 rcases O with O |⟨id,r,q1,q⟩
 ·exact .inl O
 ·exact .inr ⟨id,r,Nat.le_trans l q1,q⟩
def ajV (b:Nat) (h:aj) (v:AV):Except Nat (List Lx)→Prop
 | .ok l=>∃u,v= .tup [u, .int .i64 0, .int .i64 0]∧Own b h 4 u (l.map lH)
 | .error e=>v= .tup [.ah, .int .i64 (e:Int), .int .i64 20]
section
variable {call:bM} {df:ni} {m:Nat} {ρ:dz} {g:aj} {b a e:Nat} {s:Str} {v x y z:AV} {K:aM}
theorem ab4 (e2:ρ.get 2=some (.ptr b 0 0 0)) (e3:ρ.get 3=some (.ptr (b+1) 0 0 0)) (e4:ρ.get 4=some (.ptr (b+2) 0 0 0)) (R1:Var g b [x]) (R2:Var g (b+1) [y]) (R3:Var g (b+2) [z]) (k:K (.tup [x,y,z]) g=true):ou YR.res K .ret ⟨ρ,g⟩=true:=by
 show(match jF ρ g [(2,some (false,1)),(3,some (false,1)),(4,some (false,1))] with |some l=>K (oneOf l) g |none=>false)=true
 have l1:eP g false 1 (.ptr b 0 0 0)=some x:=by rw[R1.load];rfl
 have l2:eP g false 1 (.ptr (b+1) 0 0 0)=some y:=by rw[R2.load];rfl
 have l3:eP g false 1 (.ptr (b+2) 0 0 0)=some z:=by rw[R3.load];rfl
 simp only[jF,xG,e2,e3,e4,l1,l2,l3]
 exact k
theorem ajw (e2:ρ.get 2=some (.ptr b 0 0 0)) (e3:ρ.get 3=some (.ptr (b+1) 0 0 0)) (e4:ρ.get 4=some (.ptr (b+2) 0 0 0)) (e5:ρ.get 5=some (.ptr (b+3) 0 0 0)) (e6:ρ.get 6=some (.ptr (b+4) 0 0 0))
 (V:LX g (b+3) s a false) (L:Var g (b+4) [v]) (lf:v.leaf=true) (R1:Var g b [x]) (R2:Var g (b+1) [y]) (R3:Var g (b+2) [z]) (o:g.Ok)
 (k:∀g1 g2 g3,But b g g1→But (b+1) g1 g2→But (b+2) g2 g3→g3.Ok→K (.tup [v, .int .i64 0, .int .i64 0]) g3=true):
 Go.Ab.runT call df m (W9 4 YR.body) [] ⟨ρ,g⟩ (ou YR.res K)=true:=by
 show Go.Ab.runT _ _ m (.seq (.seq (.reg _) (.cond _ _ _)) (.seq (.reg _) .ret)) [] ⟨ρ,g⟩ _=true
 refine abM (Kl (q_reg ?_))
 refine iJ (v:= .ptr (b+3) 0 0 0) (h':=g) rfl (by simp only[aO,uh,ev,e5];rfl) ?_
 refine iJ (v:= .ptr (b+3) 0 0 0) (h':=g) rfl (by simp only[aO,uh,ev,iT];rfl) ?_
 refine iJ (v:= .ptr (b+3) 0 0 2) (h':=g) rfl (by simp only[aO,uh,ev,iT];rfl) ?_
 refine iJ (v:= .bool false) (h':=g) rfl (by simp only[aO,uh,ev,iT];rw[LX.l2 V];rfl) (pV ?_)
 refine WU (by simp only[ev,iT]) (q_skip ?_)
 have p2:(put (put (put (put ρ (some 23) (.ptr (b+3) 0 0 0)) (some 24) (.ptr (b+3) 0 0 0)) (some 25) (.ptr (b+3) 0 0 2)) (some 26) (.bool false)).get 2=some (.ptr b 0 0 0):=by
  rw[dh (by decide),dh (by decide),dh (by decide),dh (by decide)];exact e2
 have p3:(put (put (put (put ρ (some 23) (.ptr (b+3) 0 0 0)) (some 24) (.ptr (b+3) 0 0 0)) (some 25) (.ptr (b+3) 0 0 2)) (some 26) (.bool false)).get 3=some (.ptr (b+1) 0 0 0):=by
  rw[dh (by decide),dh (by decide),dh (by decide),dh (by decide)];exact e3
 have p4:(put (put (put (put ρ (some 23) (.ptr (b+3) 0 0 0)) (some 24) (.ptr (b+3) 0 0 0)) (some 25) (.ptr (b+3) 0 0 2)) (some 26) (.bool false)).get 4=some (.ptr (b+2) 0 0 0):=by
  rw[dh (by decide),dh (by decide),dh (by decide),dh (by decide)];exact e4
 have p6:(put (put (put (put ρ (some 23) (.ptr (b+3) 0 0 0)) (some 24) (.ptr (b+3) 0 0 0)) (some 25) (.ptr (b+3) 0 0 2)) (some 26) (.bool false)).get 6=some (.ptr (b+4) 0 0 0):=by
  rw[dh (by decide),dh (by decide),dh (by decide),dh (by decide)];exact e6
 generalize put (put (put (put ρ (some 23) (.ptr (b+3) 0 0 0)) (some 24) (.ptr (b+3) 0 0 0)) (some 25) (.ptr (b+3) 0 0 2)) (some 26) (.bool false)=ρ1 at *
 show Go.Ab.runT _ _ m (.seq (.reg _) .ret) [] ⟨ρ1,g⟩ _=true
 have lv:eP g false 1 (.ptr (b+4) 0 0 0)=some v:=by rw[L.load];rfl
 refine Hl rfl (iJ (v:=v) (h':=g) rfl (by simp only[aO,uh,ev,p6];rw[lv];rfl) ?_)
 have q2:(put ρ1 (some 31) v).get 2=some (.ptr b 0 0 0):=by rw[dh (by decide)];exact p2
 have q3:(put ρ1 (some 31) v).get 3=some (.ptr (b+1) 0 0 0):=by rw[dh (by decide)];exact p3
 have q4:(put ρ1 (some 31) v).get 4=some (.ptr (b+2) 0 0 0):=by rw[dh (by decide)];exact p4
 have q31:(put ρ1 (some 31) v).get 31=some v:=iT
 generalize put ρ1 (some 31) v=ρ2 at *
 obtain⟨g1,s1,b1,w1,y1⟩:=Y4 R1 lf o
 obtain⟨g2,s2,b2,w2,y2⟩:=Y4 (v:= .int .i64 0) (b1.var R2 (by omega)) rfl y1
 obtain⟨g3,s3,b3,w3,y3⟩:=Y4 (v:= .int .i64 0) (b2.var (b1.var R3 (by omega)) (by omega)) rfl y2
 refine iJ (v:= .tup []) (h':=g1) rfl (by simp only[aO,uh,ev,q2,q31];rw[s1];rfl) ?_
 refine iJ (v:= .tup []) (h':=g2) rfl (by simp only[aO,uh,ev,put,q3];rw[s2];rfl) ?_
 refine iJ (v:= .tup []) (h':=g3) rfl (by simp only[aO,uh,ev,put,q4];rw[s3];rfl) (pV ?_)
 refine agN ?_
 show ou YR.res K .ret ⟨ρ2,g3⟩=true
 exact ab4 q2 q3 q4 (b3.var (b2.var w1 (by omega)) (by omega)) (b3.var w2 (by omega)) w3 (k g1 g2 g3 b1 b2 b3 y3)
theorem agK (e2:ρ.get 2=some (.ptr b 0 0 0)) (e3:ρ.get 3=some (.ptr (b+1) 0 0 0)) (e4:ρ.get 4=some (.ptr (b+2) 0 0 0)) (e5:ρ.get 5=some (.ptr (b+3) 0 0 0))
 (V:LX g (b+3) s e true) (R1:Var g b [x]) (R2:Var g (b+1) [y]) (R3:Var g (b+2) [z]) (o:g.Ok)
 (k:∀g1 g2 g3,But b g g1→But (b+1) g1 g2→But (b+2) g2 g3→g3.Ok→K (.tup [.ah, .int .i64 (e:Int), .int .i64 20]) g3=true):
 Go.Ab.runT call df m (W9 4 YR.body) [] ⟨ρ,g⟩ (ou YR.res K)=true:=by
 show Go.Ab.runT _ _ m (.seq (.seq (.reg _) (.cond _ _ _)) (.seq (.reg _) .ret)) [] ⟨ρ,g⟩ _=true
 refine abM (Kl (q_reg ?_))
 refine iJ (v:= .ptr (b+3) 0 0 0) (h':=g) rfl (by simp only[aO,uh,ev,e5];rfl) ?_
 refine iJ (v:= .ptr (b+3) 0 0 0) (h':=g) rfl (by simp only[aO,uh,ev,iT];rfl) ?_
 refine iJ (v:= .ptr (b+3) 0 0 2) (h':=g) rfl (by simp only[aO,uh,ev,iT];rfl) ?_
 refine iJ (v:= .bool true) (h':=g) rfl (by simp only[aO,uh,ev,iT];rw[LX.l2 V];rfl) (pV ?_)
 refine Wz (by simp only[ev,iT]) ?_
 have p2:(put (put (put (put ρ (some 23) (.ptr (b+3) 0 0 0)) (some 24) (.ptr (b+3) 0 0 0)) (some 25) (.ptr (b+3) 0 0 2)) (some 26) (.bool true)).get 2=some (.ptr b 0 0 0):=by
  rw[dh (by decide),dh (by decide),dh (by decide),dh (by decide)];exact e2
 have p3:(put (put (put (put ρ (some 23) (.ptr (b+3) 0 0 0)) (some 24) (.ptr (b+3) 0 0 0)) (some 25) (.ptr (b+3) 0 0 2)) (some 26) (.bool true)).get 3=some (.ptr (b+1) 0 0 0):=by
  rw[dh (by decide),dh (by decide),dh (by decide),dh (by decide)];exact e3
 have p4:(put (put (put (put ρ (some 23) (.ptr (b+3) 0 0 0)) (some 24) (.ptr (b+3) 0 0 0)) (some 25) (.ptr (b+3) 0 0 2)) (some 26) (.bool true)).get 4=some (.ptr (b+2) 0 0 0):=by
  rw[dh (by decide),dh (by decide),dh (by decide),dh (by decide)];exact e4
 have p5:(put (put (put (put ρ (some 23) (.ptr (b+3) 0 0 0)) (some 24) (.ptr (b+3) 0 0 0)) (some 25) (.ptr (b+3) 0 0 2)) (some 26) (.bool true)).get 5=some (.ptr (b+3) 0 0 0):=by
  rw[dh (by decide),dh (by decide),dh (by decide),dh (by decide)];exact e5
 generalize put (put (put (put ρ (some 23) (.ptr (b+3) 0 0 0)) (some 24) (.ptr (b+3) 0 0 0)) (some 25) (.ptr (b+3) 0 0 2)) (some 26) (.bool true)=ρ1 at *
 refine Kl (ZG (jZ (v:= .ptr (b+3) 0 0 0) (h':=g) (by simp only[aO,uh,ev,p5];rfl) (jZ (v:= .ptr (b+3) 0 0 0) (h':=g) (by simp only[aO,uh,ev,iT];rfl) (jZ (v:= .ptr (b+3) 0 0 1) (h':=g) (by simp only[aO,uh,ev,iT];rfl)
  (jZ (v:= .int .i64 (e:Int)) (h':=g) (by simp only[aO,uh,ev,iT];rw[LX.l1 V];rfl) rfl)))) ?_)
 have q2:(put (put (put (put ρ1 (some 27) (.ptr (b+3) 0 0 0)) (some 28) (.ptr (b+3) 0 0 0)) (some 29) (.ptr (b+3) 0 0 1)) (some 30) (.int .i64 (e:Int))).get 2=some (.ptr b 0 0 0):=by
  rw[dh (by decide),dh (by decide),dh (by decide),dh (by decide)];exact p2
 have q3:(put (put (put (put ρ1 (some 27) (.ptr (b+3) 0 0 0)) (some 28) (.ptr (b+3) 0 0 0)) (some 29) (.ptr (b+3) 0 0 1)) (some 30) (.int .i64 (e:Int))).get 3=some (.ptr (b+1) 0 0 0):=by
  rw[dh (by decide),dh (by decide),dh (by decide),dh (by decide)];exact p3
 have q4:(put (put (put (put ρ1 (some 27) (.ptr (b+3) 0 0 0)) (some 28) (.ptr (b+3) 0 0 0)) (some 29) (.ptr (b+3) 0 0 1)) (some 30) (.int .i64 (e:Int))).get 4=some (.ptr (b+2) 0 0 0):=by
  rw[dh (by decide),dh (by decide),dh (by decide),dh (by decide)];exact p4
 have q29:(put (put (put (put ρ1 (some 27) (.ptr (b+3) 0 0 0)) (some 28) (.ptr (b+3) 0 0 0)) (some 29) (.ptr (b+3) 0 0 1)) (some 30) (.int .i64 (e:Int))).get 29=some (.ptr (b+3) 0 0 1):=by
  rw[dh (by decide),iT]
 have q30:(put (put (put (put ρ1 (some 27) (.ptr (b+3) 0 0 0)) (some 28) (.ptr (b+3) 0 0 0)) (some 29) (.ptr (b+3) 0 0 1)) (some 30) (.int .i64 (e:Int))).get 30=some (.int .i64 (e:Int)):=iT
 generalize put (put (put (put ρ1 (some 27) (.ptr (b+3) 0 0 0)) (some 28) (.ptr (b+3) 0 0 0)) (some 29) (.ptr (b+3) 0 0 1)) (some 30) (.int .i64 (e:Int))=ρ2 at *
 obtain⟨g1,s1,b1,w1,y1⟩:=Y4 (v:= .ah) R1 rfl o
 obtain⟨g2,s2,b2,w2,y2⟩:=Y4 (v:= .int .i64 (e:Int)) (b1.var R2 (by omega)) rfl y1
 obtain⟨g3,s3,b3,w3,y3⟩:=Y4 (v:= .int .i64 20) (b2.var (b1.var R3 (by omega)) (by omega)) rfl y2
 have V1:LX g1 (b+3) s e true:=b1.var V (by omega)
 refine Ze (v:= .tup []) (h':=g1) (ρ':=ρ2) rfl rfl (by simp only[aO,uh,ev,q2];rw[s1];rfl)
  (abu (v:= .int .i64 (e:Int)) (h':=g1) (by simp only[aO,uh,ev,put,q29];rw[LX.l1 V1];rfl) q30 (Ky _ _)) rfl ?_
 refine Ze (v:= .tup []) (h':=g2) (ρ':=ρ2) rfl rfl (by simp only[aO,uh,ev,q3,q30];rw[s2];rfl) rfl rfl ?_
 refine Ze (v:= .tup []) (h':=g3) (ρ':=ρ2) rfl rfl (by simp only[aO,uh,ev,q4];rw[s3];rfl) rfl rfl (aea ?_)
 refine ad5 ?_
 show ou YR.res K .ret ⟨ρ2,g3⟩=true
 exact ab4 q2 q3 q4 (b3.var (b2.var w1 (by omega)) (by omega)) (b3.var w2 (by omega)) w3 (k g1 g2 g3 b1 b2 b3 y3)
end
theorem c13 {n:Nat} {h:aj} {s:Str} {K:aM} (ho:h.Ok) (hL:2*s.length+4<most) (hb:∀b∈s,b<256) (hn:s.length<n) (hn6:6≤n)
 (k:∀v h',Ext h h'→h'.Ok→ajV h.sz h' v (uG s)→K v h'=true):au E (n+8) (.func 13) [.str s] h K=true:=by
 have hp:E.prim 13=none:=rfl
 have hc:E.code 13=some YR:=rfl
 show au E (n+7+1) (.func 13) [.str s] h K=true
 have st:∀m,Go.Ab.runT (au E m) (Ci E (au E m) m) m YR.body [] ⟨qJ 0 [.str s] .lf,h⟩ (ou YR.res K)=true→au E (m+1) (.func 13) [.str s] h K=true:=by
  intro m q
  simp only[au,hp,hc]
  exact q
 refine st (n+7) ?_
 refine Hl rfl ?_
 have A1:qb h [AV.ah]=some (.ptr h.sz 0 0 0,Ab.newRow h [[AV.ah]] 1):=alloc_eq (by decide) rfl
 refine iJ rfl A1 ?_
 have e1:=iK ho [[AV.ah]] 1
 have o1:=jm ho [[AV.ah]] 1
 have V1:Var (Ab.newRow h [[AV.ah]] 1) h.sz [AV.ah]:=oD h [AV.ah]
 have s1:(Ab.newRow h [[AV.ah]] 1).sz=h.sz+1:=rfl
 generalize Ab.newRow h [[AV.ah]] 1=h1 at *
 have A2:qb h1 [AV.int .i64 0]=some (.ptr h1.sz 0 0 0,Ab.newRow h1 [[AV.int .i64 0]] 1):=alloc_eq (by decide) rfl
 refine iJ rfl A2 ?_
 have e2:=iK o1 [[AV.int .i64 0]] 1
 have o2:=jm o1 [[AV.int .i64 0]] 1
 have V2:Var (Ab.newRow h1 [[AV.int .i64 0]] 1) h1.sz [AV.int .i64 0]:=oD h1 [AV.int .i64 0]
 have s2:(Ab.newRow h1 [[AV.int .i64 0]] 1).sz=h1.sz+1:=rfl
 generalize Ab.newRow h1 [[AV.int .i64 0]] 1=h2 at *
 have A3:qb h2 [AV.int .i64 0]=some (.ptr h2.sz 0 0 0,Ab.newRow h2 [[AV.int .i64 0]] 1):=alloc_eq (by decide) rfl
 refine iJ rfl A3 (pV ?_)
 have e3:=iK o2 [[AV.int .i64 0]] 1
 have o3:=jm o2 [[AV.int .i64 0]] 1
 have V3:Var (Ab.newRow h2 [[AV.int .i64 0]] 1) h2.sz [AV.int .i64 0]:=oD h2 [AV.int .i64 0]
 have s3:(Ab.newRow h2 [[AV.int .i64 0]] 1).sz=h2.sz+1:=rfl
 generalize Ab.newRow h2 [[AV.int .i64 0]] 1=h3 at *
 show Go.Ab.runT _ _ _ (.seq (.reg _) _) _ _ _=true
 refine Hl rfl (iJ (v:= .str s) (h':=h3) rfl rfl (iJ (v:= .agg [.str s, .int .i64 ((0:Nat):Int), .bool false]) (h':=h3) rfl rfl ?_))
 have A4:nU h3 none 3 (.agg [.str s, .int .i64 ((0:Nat):Int), .bool false])=some (.ptr h3.sz 0 0 0,Ab.newRow h3 [[.str s, .int .i64 ((0:Nat):Int), .bool false]] 3):=Oz (n:=3) rfl (by decide) rfl
 refine iJ rfl A4 (iJ (v:= .ptr h3.sz 0 0 0) (h':=Ab.newRow h3 [[.str s, .int .i64 ((0:Nat):Int), .bool false]] 3) rfl rfl (pV ?_))
 have e4:=iK o3 [[.str s, .int .i64 ((0:Nat):Int), .bool false]] 3
 have o4:=jm o3 [[.str s, .int .i64 ((0:Nat):Int), .bool false]] 3
 have V4:LX (Ab.newRow h3 [[.str s, .int .i64 ((0:Nat):Int), .bool false]] 3) h3.sz s 0 false:=oD h3 [.str s, .int .i64 ((0:Nat):Int), .bool false]
 have s4:(Ab.newRow h3 [[.str s, .int .i64 ((0:Nat):Int), .bool false]] 3).sz=h3.sz+1:=rfl
 generalize Ab.newRow h3 [[.str s, .int .i64 ((0:Nat):Int), .bool false]] 3=h4 at *
 have A5:qb h4 [AV.ah]=some (.ptr h4.sz 0 0 0,Ab.newRow h4 [[AV.ah]] 1):=alloc_eq (by decide) rfl
 show Go.Ab.runT _ _ _ (.seq (.reg _) _) _ _ _=true
 refine Hl rfl (iJ rfl A5 (pV ?_))
 have e5:=iK o4 [[AV.ah]] 1
 have o5:=jm o4 [[AV.ah]] 1
 have V5:Var (Ab.newRow h4 [[AV.ah]] 1) h4.sz [AV.ah]:=oD h4 [AV.ah]
 have s5:(Ab.newRow h4 [[AV.ah]] 1).sz=h4.sz+1:=rfl
 generalize Ab.newRow h4 [[AV.ah]] 1=h5 at *
 show Go.Ab.runT _ _ _ (.seq (.seq _ _) _) _ _ _=true
 refine abM (Kl (q_reg ?_))
 refine iJ (v:= .ptr h3.sz 0 0 0) (h':=h5) rfl rfl (TG (tgt:= .func 24) (first:=[]) (cap:=[]) (vs:=[.ptr h3.sz 0 0 0]) rfl rfl ?_)
 show au E (n+7) (.func 24) [.ptr h3.sz 0 0 0] h5 _=true
 apply d24
 unfold s24
 have A6:nU h5 none 1 (.ptr h3.sz 0 0 0)=some (.ptr h5.sz 0 0 0,Ab.newRow h5 [[AV.ptr h3.sz 0 0 0]] 1):=Oz (n:=1) rfl (by decide) rfl
 refine aaZ A6 ?_
 have e6:=iK o5 [[AV.ptr h3.sz 0 0 0]] 1
 have o6:=jm o5 [[AV.ptr h3.sz 0 0 0]] 1
 have V6:Var (Ab.newRow h5 [[AV.ptr h3.sz 0 0 0]] 1) h5.sz [AV.ptr h3.sz 0 0 0]:=oD h5 [AV.ptr h3.sz 0 0 0]
 have s6:(Ab.newRow h5 [[AV.ptr h3.sz 0 0 0]] 1).sz=h5.sz+1:=rfl
 generalize Ab.newRow h5 [[AV.ptr h3.sz 0 0 0]] 1=h6 at *
 refine aR ?_
 have z1:h1.sz=h.sz+1:=s1
 have z2:h2.sz=h.sz+2:=by omega
 have z3:h3.sz=h.sz+3:=by omega
 have z4:h4.sz=h.sz+4:=by omega
 have z5:h5.sz=h.sz+5:=by omega
 have z6:h6.sz=h.sz+6:=by omega
 rw[z1] at V2
 rw[z2] at V3
 rw[z3] at V4 V6
 rw[z4] at V5
 rw[z5] at V6
 rw[z1,z2,z3,z4,z5]
 have e7:=uf o6 (Lp (iM h.sz s) [13] nO jL .ready)
 have I0:Hz h s (iM h.sz s) (h6.push (Lp (iM h.sz s) [13] nO jL .ready)) 0 false []:=by
  refine⟨e1.trans (e2.trans (e3.trans (e4.trans (e5.trans (e6.trans e7))))),o6.push _,by simp[z6],V1.ext (e2.trans (e3.trans (e4.trans (e5.trans (e6.trans e7))))),V2.ext (e3.trans (e4.trans (e5.trans (e6.trans e7)))),V3.ext (e4.trans (e5.trans (e6.trans e7))),Var.ext V4 (e5.trans (e6.trans e7)),⟨.ah,V5.ext (e6.trans e7),Own.nil _ _ _⟩,V6.ext e7, ?_⟩
  rw[←z6];exact AU _ _
 refine pV ?_
 refine X4 (ajD (fid:=43) (first:=[]) (cap:=[.ptr (h.sz+5) 0 0 0]) rfl ?_)
 show au E (n+7) (.func 43) [.fn (.yield h6.sz) [] [], .ptr (h.sz+5) 0 0 0] (h6.push (Lp (iM h.sz s) [13] nO jL .ready)) _=true
 apply d43
 unfold s43
 rw[z6]
 refine l43 ho hL hb hn hn6 (n+6) 0 (s.length+1) [] _ I0 (by omega) (by omega) (by omega) (by simp) ?_ ?_ ?_
 ·intro l h' a' hl I'
  have hl':uG s= .ok l:=hl
  have y:=I'.y
  unfold Lp at y
  rw[show jl (AV.tup [])=none from rfl]
  simp only[y]
  have B:=But.put (h.sz+6) h' (.loop {regs:=iM h.sz s,ps:=[13],asg:=nO,body:=jL,st:= .exh})
  have sz':=I'.sz
  have X':=B.ext I'.ext ho (by omega)
  have O':=I'.ok.put (show h.sz+6<h'.sz by omega) (.loop {regs:=iM h.sz s,ps:=[13],asg:=nO,body:=jL,st:= .exh})
  have LXx:=B.var I'.lx (by omega)
  obtain⟨v,L,OO⟩:=I'.l
  have L':=B.var L (by omega)
  have OO':=B.own OO
  have R1:=B.var I'.r1 (by omega)
  have R2:=B.var I'.r2 (by omega)
  have R3:=B.var I'.r3 (by omega)
  generalize h'.put (h.sz+6) (.loop {regs:=iM h.sz s,ps:=[13],asg:=nO,body:=jL,st:= .exh})=g at *
  have lf:v.leaf=true:=OO.view.leaf
  refine ajw (b:=h.sz) (s:=s) (a:=a') (x:= .ah) (y:= .int .i64 0) (z:= .int .i64 0) (v:=v) rfl rfl rfl rfl rfl LXx L' lf R1 R2 R3 O' fun g1 g2 g3 b1 b2 b3 y3=> ?_
  have EX:=b3.ext (b2.ext (b1.ext X' ho (by omega)) ho (by omega)) ho (by omega)
  have OW:=b3.own (b2.own (b1.own (OO' (by omega)) (by omega)) (by omega)) (by omega)
  refine k _ _ EX y3 ?_
  rw[hl']
  exact⟨v,rfl,by rw[List.nil_append] at OW;exact OW.low (by omega)⟩
 ·intro e l h' hl I'
  have hl':uG s= .error e:=hl
  have y:=I'.y
  unfold Lp at y
  rw[show jl (AV.tup [])=none from rfl]
  simp only[y]
  have B:=But.put (h.sz+6) h' (.loop {regs:=iM h.sz s,ps:=[13],asg:=nO,body:=jL,st:= .exh})
  have sz':=I'.sz
  have X':=B.ext I'.ext ho (by omega)
  have O':=I'.ok.put (show h.sz+6<h'.sz by omega) (.loop {regs:=iM h.sz s,ps:=[13],asg:=nO,body:=jL,st:= .exh})
  have LXx:=B.var I'.lx (by omega)
  have R1:=B.var I'.r1 (by omega)
  have R2:=B.var I'.r2 (by omega)
  have R3:=B.var I'.r3 (by omega)
  generalize h'.put (h.sz+6) (.loop {regs:=iM h.sz s,ps:=[13],asg:=nO,body:=jL,st:= .exh})=g at *
  refine agK (b:=h.sz) (s:=s) (e:=e) (x:= .ah) (y:= .int .i64 0) (z:= .int .i64 0) rfl rfl rfl rfl LXx R1 R2 R3 O' fun g1 g2 g3 b1 b2 b3 y3=> ?_
  have EX:=b3.ext (b2.ext (b1.ext X' ho (by omega)) ho (by omega)) ho (by omega)
  refine k _ _ EX y3 ?_
  rw[hl']
  rfl
 ·intro e h' hl S'
  have hl':uG s= .error e:=hl
  have y:=S'.y
  unfold Lp at y
  rw[show jl (AV.tup [])=none from rfl]
  simp only[y]
  have B:=But.put (h.sz+6) h' (.loop {regs:=iM h.sz s,ps:=[13],asg:=nO,body:=jL,st:= .exh})
  have sz':=S'.sz
  show ou YR.res K .ret ⟨iM h.sz s,h'.put (h.sz+6) (.loop {regs:=iM h.sz s,ps:=[13],asg:=nO,body:=jL,st:= .exh})⟩=true
  refine ab4 (b:=h.sz) rfl rfl rfl (B.var S'.r1 (by omega)) (B.var S'.r2 (by omega)) (B.var S'.r3 (by omega)) ?_
  refine k _ _ (B.ext S'.ext ho (by omega)) (S'.ok.put (by omega) _) ?_
  rw[hl']
  rfl
def kC:Nat→Nat→Str→Except Nat (List Lx)
 |0,_,_=> .ok []
 |f+1,p,l=>if l.length≤skip false l then .ok [] else match lK (l.drop (skip false l)) with
  |none=> .error (p+skip false l)
  |some (kd,t,m)=>match kC f (p+skip false l+m) (l.drop (skip false l+m)) with
   | .error e=> .error e
   | .ok r=> .ok (⟨kd,t,p+skip false l,p+skip false l+m⟩ :: r)
theorem Wh:∀(f:Nat) (s:Str) (a k:Nat),a≤s.length→k+(s.length-a)≤4096→Js f s a k=kC f a (s.drop a)
 |0,_,_,_,_,_=>rfl
 |f+1,s,a,k,ha,hk=>by
  simp only[Js,kC]
  have hle:=uO false (s.drop a)
  simp only[List.length_drop] at hle ⊢
  by_cases hend:s.length≤a+skip false (s.drop a)
  ·rw[if_pos hend,if_pos (by omega)]
  ·rw[if_neg hend,if_neg (by omega),List.drop_drop]
   cases hn:lK (s.drop (a+skip false (s.drop a))) with
   |none=>rfl
   |some r=>
    obtain⟨kd,t,m⟩:=r
    have hm:=wT hn
    simp only[List.length_drop] at hm
    simp only
    rw[if_neg (by omega),Wh f s _ (k+1) (by omega) (by omega),List.drop_drop]
    rw[show a+(skip false (s.drop a)+m)=a+skip false (s.drop a)+m by omega]
    all_goals(cases kC f (a+skip false (s.drop a)+m) (s.drop (a+skip false (s.drop a)+m))<;>rfl)
theorem Aa:∀(f g p:Nat) (l:Str),l.length<f→l.length<g→kC f p l=kC g p l
 |0,_,_,_,h,_=>by omega
 |_,0,_,_,_,h=>by omega
 |f+1,g+1,p,l,hf,hg=>by
  simp only[kC]
  by_cases hend:l.length≤skip false l
  ·rw[if_pos hend,if_pos hend]
  ·rw[if_neg hend,if_neg hend]
   cases hn:lK (l.drop (skip false l)) with
   |none=>rfl
   |some r=>
    obtain⟨kd,t,m⟩:=r
    have hm:=wT hn
    simp only[List.length_drop] at hm
    simp only
    rw[Aa f g _ (l.drop (skip false l+m)) (by simp only[List.length_drop];omega) (by simp only[List.length_drop];omega)]
theorem xB {s:Str} (h:s.length≤4096):uG s=kC (s.length+1) 0 s:=by
 unfold uG
 rw[Wh _ s 0 0 (by omega) (by omega),List.drop_zero]
theorem zy (b:Str):∀(m:Bool) (l:Str),skip m (l++10 :: b)=if skip m l=l.length then l.length+1+skip false b else skip m l
 |true,[]=>by simp[skip];omega
 |false,[]=>by simp[skip,tY];omega
 |true,c :: l=>by
  have h1:=zy b true l
  have h2:=zy b false l
  have s1:skip true (c :: l)=if c=10 then skip false l+1 else skip true l+1:=rfl
  have s2:skip true (c :: l++10 :: b)=if c=10 then skip false (l++10 :: b)+1 else skip true (l++10 :: b)+1:=rfl
  by_cases hc:c=10
  ·rw[if_pos hc] at s1 s2
   rw[s2,s1,h2,List.length_cons]
   by_cases h:skip false l=l.length
   ·rw[if_pos h,if_pos (by omega)];omega
   ·rw[if_neg h,if_neg (by omega)]
  ·rw[if_neg hc] at s1 s2
   rw[s2,s1,h1,List.length_cons]
   by_cases h:skip true l=l.length
   ·rw[if_pos h,if_pos (by omega)];omega
   ·rw[if_neg h,if_neg (by omega)]
 |false,c :: l=>by
  have h1:=zy b true l
  have h2:=zy b false l
  have hh:((l++10 :: b).head? =some 47)↔(l.head? =some 47):=by
   cases l with
   |nil=>simp
   |cons d l=>simp
  have s1:skip false (c :: l)=if tY c=true then skip false l+1 else if c=47∧l.head? =some 47 then skip true l+1 else 0:=rfl
  have s2:skip false (c :: l++10 :: b)=if tY c=true then skip false (l++10 :: b)+1 else if c=47∧(l++10 :: b).head? =some 47 then skip true (l++10 :: b)+1 else 0:=rfl
  by_cases hb:tY c=true
  ·rw[if_pos hb] at s1 s2
   rw[s2,s1,h2,List.length_cons]
   by_cases h:skip false l=l.length
   ·rw[if_pos h,if_pos (by omega)];omega
   ·rw[if_neg h,if_neg (by omega)]
  ·rw[if_neg hb] at s1 s2
   by_cases hc:c=47∧l.head? =some 47
   ·rw[if_pos hc] at s1
    rw[if_pos ⟨hc.1,hh.2 hc.2⟩] at s2
    rw[s2,s1,h1,List.length_cons]
    by_cases h:skip true l=l.length
    ·rw[if_pos h,if_pos (by omega)];omega
    ·rw[if_neg h,if_neg (by omega)]
   ·rw[if_neg hc] at s1
    rw[if_neg (fun e=>hc ⟨e.1,hh.1 e.2⟩)] at s2
    rw[s2,s1,List.length_cons,if_neg (by omega)]
theorem u6 {p:Nat→Bool} (h:p 10=false) (b:Str):∀(l:Str),(l++10 :: b).takeWhile p=l.takeWhile p
 | []=>by simp[h]
 |c :: l=>by
  simp only[List.cons_append,List.takeWhile_cons,u6 h b l]
theorem RH (b:Str) (l:Str):mG (l++10 :: b)=mG l:=by
 cases l with
 |nil=>rfl
 |cons c l=>
  show(if kP c=true then((c :: l++10 :: b).takeWhile GV).length else 0)=_
  rw[u6 (by decide)]
  rfl
theorem Ih (b:Str):∀(l:Str),quo (l++10 :: b)=quo l
 | []=>by
   cases b with
   |nil=>rfl
   |cons d b=>rfl
 | [c]=>by
   have h0:quo (10 :: b)=none:=Ih b []
   show quo (c :: 10 :: b)=quo [c]
   simp only[quo,h0]
   have e10:esc 10=none:=rfl
   rw[e10]
   by_cases h1:c=34
   ·rw[if_pos h1,if_pos h1]
   ·rw[if_neg h1,if_neg h1]
    by_cases h2:c=92
    ·rw[if_pos h2]
    ·rw[if_neg h2]
     by_cases h3:c<32
     ·rw[if_pos h3]
     ·rw[if_neg h3];rfl
 |c :: d :: l=>by
  have h1:=Ih b l
  have h2:=Ih b (d :: l)
  show quo (c :: d :: (l++10 :: b))=_
  simp only[quo,h1]
  rw[show d :: (l++10 :: b)=d :: l++10 :: b from rfl,h2]
theorem ac5 {t:Str} (ht:t∈rE) (b:Str) {l:Str} (hl:l≠[]):t.isPrefixOf (l++10 :: b)=t.isPrefixOf l:=by
 match l,hl with
 | [c],_=>
   have:∀t∈rE,∃x y,t=[x,y]∧y≠10:=by
    intro t ht
    simp only[rE,List.mem_cons,List.not_mem_nil,or_false] at ht
    rcases ht with rfl |rfl |rfl |rfl |rfl |rfl<;>exact⟨_,_,rfl,by decide⟩
   obtain⟨x,y,rfl,hy⟩:=this t ht
   have e:(y==10)=false:=by simpa using hy
   show((x==c)&&((y==10)&&true))=((x==c)&&false)
   rw[e];cases (x==c)<;>rfl
 |c :: d :: l,_=>
  have:∀t∈rE,∃x y,t=[x,y]:=by
   intro t ht
   simp only[rE,List.mem_cons,List.not_mem_nil,or_false] at ht
   rcases ht with rfl |rfl |rfl |rfl |rfl |rfl<;>exact⟨_,_,rfl⟩
  obtain⟨x,y,rfl⟩:=this t ht
  rfl
theorem abL (b:Str) {l:Str} (hl:l≠[]):kK (l++10 :: b)=kK l:=by
 have h:(rE.any fun t=>t.isPrefixOf (l++10 :: b))=(rE.any fun t=>t.isPrefixOf l):=by
  have:∀(us:List Str),(∀t∈us,t∈rE)→(us.any fun t=>t.isPrefixOf (l++10 :: b))=(us.any fun t=>t.isPrefixOf l):=by
   intro us
   induction us with
   |nil=>intro _;rfl
   |cons t us ih=>intro hu;rw[List.any_cons,List.any_cons,ac5 (hu t List.mem_cons_self) b hl,ih (fun u hu'=>hu u (List.mem_cons_of_mem _ hu'))]
  exact this rE fun _ h=>h
 unfold kK
 rw[h]
 cases l with
 |nil=>exact absurd rfl hl
 |cons c l=>rfl
theorem C9 {l:Str} {n:Nat} (b:Str) (h:n≤l.length):(l++b).take n=l.take n:=by
 rw[List.take_append_of_le_length h]
theorem abm (b:Str) {l:Str} (hl:l≠[]):lK (l++10 :: b)=lK l:=by
 cases l with
 |nil=>exact absurd rfl hl
 |cons c l=>
  have e1:=RH b (c :: l)
  have e2:=RH b l
  have e3:=abL b (l:=c :: l) (by simp)
  have e4:=u6 (p:=gD) (by decide) b (c :: l)
  have e5:=Ih b l
  have t1:=C9 (10 :: b) (zI (c :: l))
  have t2:=C9 (10 :: b) (zI l)
  have t3:=C9 (10 :: b) (N7 (c :: l))
  have t4:=C9 (10 :: b) (zO (p:=gD) (c :: l))
  simp only[List.cons_append] at e1 e3 e4 t1 t3 t4
  simp only[List.cons_append,lK,e1,e2,e3,e4,e5,t1,t2,t3,t4]
theorem SB (b:Str):∀(f p:Nat) (l:Str),l.length+1+b.length<f→kC f p (l++10 :: b)=(match kC f p l with
 | .error e=> .error e
 | .ok x=>match kC f (p+l.length+1) b with
   | .error e=> .error e
   | .ok y=> .ok (x++y))
 |0,_,_,h=>by omega
 |f+1,p,l,hf=>by
  have hs:=zy b false l
  have hle:=uO false l
  by_cases hend:skip false l=l.length
  ·rw[if_pos hend] at hs
   have h1:kC (f+1) p l= .ok []:=by simp only[kC];rw[if_pos (by omega)]
   rw[h1]
   simp only[kC,hs]
   have hlen:(l++10 :: b).length=l.length+1+b.length:=by simp;omega
   rw[hlen]
   have hd:∀j,(l++10 :: b).drop (l.length+1+j)=b.drop j:=by
    intro j
    rw[←List.drop_drop, ←List.drop_drop,List.drop_left]
    rfl
   by_cases hb:b.length≤skip false b
   ·rw[if_pos (by omega),if_pos hb];rfl
   ·rw[if_neg (by omega),if_neg hb,hd]
    cases hn:lK (b.drop (skip false b)) with
    |none=>simp only[Nat.add_assoc]
    |some r=>
     obtain⟨kd,t,m⟩:=r
     simp only
     rw[show l.length+1+skip false b+m=l.length+1+(skip false b+m) by omega,hd,show p+(l.length+1+skip false b)=p+l.length+1+skip false b by omega]
     cases kC f (p+l.length+1+skip false b+m) (b.drop (skip false b+m))<;>rfl
  ·rw[if_neg hend] at hs
   have hlt:skip false l<l.length:=by omega
   have hlen:(l++10 :: b).length=l.length+1+b.length:=by simp;omega
   have hd:(l++10 :: b).drop (skip false l)=l.drop (skip false l)++10 :: b:=List.drop_append_of_le_length hle
   have hne:l.drop (skip false l)≠[]:=by
    intro e
    have:=congrArg List.length e
    simp only[List.length_drop,List.length_nil] at this
    omega
   have h1:kC (f+1) p (l++10 :: b)=match lK (l.drop (skip false l)) with
    |none=> .error (p+skip false l)
    |some (kd,t,m)=>match kC f (p+skip false l+m) ((l++10 :: b).drop (skip false l+m)) with
     | .error e=> .error e
     | .ok r=> .ok (⟨kd,t,p+skip false l,p+skip false l+m⟩ :: r):=by
    simp only[kC,hs,hlen]
    rw[if_neg (by omega),hd,abm b hne]
   have h2:kC (f+1) p l=match lK (l.drop (skip false l)) with
    |none=> .error (p+skip false l)
    |some (kd,t,m)=>match kC f (p+skip false l+m) (l.drop (skip false l+m)) with
     | .error e=> .error e
     | .ok r=> .ok (⟨kd,t,p+skip false l,p+skip false l+m⟩ :: r):=by
    simp only[kC]
    rw[if_neg (by omega)]
   rw[h1,h2]
   cases hn:lK (l.drop (skip false l)) with
   |none=>rfl
   |some r=>
    obtain⟨kd,t,m⟩:=r
    have hm:=wT hn
    simp only[List.length_drop] at hm
    simp only
    rw[List.drop_append_of_le_length (show skip false l+m≤l.length by omega)]
    have hdl:(l.drop (skip false l+m)).length=l.length-(skip false l+m):=by simp
    rw[SB b f _ (l.drop (skip false l+m)) (by rw[hdl];omega),hdl]
    rw[show p+skip false l+m+(l.length-(skip false l+m))+1=p+l.length+1 by omega]
    rw[Aa f (f+1) (p+l.length+1) b (by omega) (by omega)]
    cases kC f (p+skip false l+m) (l.drop (skip false l+m)) with
    |error e=>rfl
    |ok x=>
     simp only
     cases kC (f+1) (p+l.length+1) b<;>rfl
def mvL (d:Nat) (x:Lx):Lx:=⟨x.kind,x.text,x.beg+d,x.fin+d⟩
theorem Nv (d:Nat):∀(f p:Nat) (l:Str),kC f (p+d) l=(match kC f p l with
 | .error e=> .error (e+d)
 | .ok x=> .ok (x.map (mvL d)))
 |0,_,_=>rfl
 |f+1,p,l=>by
  simp only[kC]
  by_cases hend:l.length≤skip false l
  ·rw[if_pos hend,if_pos hend];rfl
  ·rw[if_neg hend,if_neg hend]
   cases hn:lK (l.drop (skip false l)) with
   |none=>simp only;congr 1;omega
   |some r=>
    obtain⟨kd,t,m⟩:=r
    simp only
    rw[show p+d+skip false l+m=(p+skip false l+m)+d by omega,Nv d f]
    cases kC f (p+skip false l+m) (l.drop (skip false l+m)) with
    |error e=>rfl
    |ok x=>
     simp only[List.map_cons,mvL]
     rw[show p+d+skip false l=p+skip false l+d by omega]
theorem aak {a b:Str} (h:a.length+b.length≤4000):uG (a++[10]++b)=match uG a with
 | .error e=> .error e
 | .ok x=>match uG b with
   | .error e=> .error (a.length+1+e)
   | .ok y=> .ok (x++y.map (mvL (a.length+1))):=by
 have e:a++[10]++b=a++10 :: b:=by simp
 have hl:(a++10 :: b).length=a.length+1+b.length:=by simp;omega
 rw[e,xB (by omega),xB (s:=a) (by omega),xB (s:=b) (by omega),SB b _ 0 a (by omega),hl]
 rw[Aa (a.length+1+b.length+1) (a.length+1) 0 a (by omega) (by omega)]
 rw[show 0+a.length+1=0+(a.length+1) by omega,Nv,Aa (a.length+1+b.length+1) (b.length+1) 0 b (by omega) (by omega)]
 cases kC (a.length+1) 0 a with
 |error e=>rfl
 |ok x=>
  simp only
  cases kC (b.length+1) 0 b with
  |error e=>simp only;rw[Nat.add_comm]
  |ok y=>rfl
theorem yG:∀(f p:Nat) (l:Str) (r:List Lx),kC f p l= .ok r→r.length≤l.length∧∀y∈r,p≤y.beg∧y.beg<y.fin∧y.fin≤p+l.length
 |0,_,_,_,h=>by cases h;exact⟨by simp,fun _ h=>by cases h⟩
 |f+1,p,l,r,h=>by
  simp only[kC] at h
  by_cases hend:l.length≤skip false l
  ·rw[if_pos hend] at h;cases h;exact⟨by simp,fun _ h=>by cases h⟩
  ·rw[if_neg hend] at h
   cases hn:lK (l.drop (skip false l)) with
   |none=>rw[hn] at h;cases h
   |some q=>
    obtain⟨kd,t,m⟩:=q
    have hm:=wT hn
    simp only[List.length_drop] at hm
    rw[hn] at h
    simp only at h
    cases hr:kC f (p+skip false l+m) (l.drop (skip false l+m)) with
    |error e=>rw[hr] at h;cases h
    |ok r'=>
     rw[hr] at h
     have ih:=yG f _ _ r' hr
     simp only[List.length_drop] at ih
     cases h
     refine⟨by simp only[List.length_cons];omega,fun y hy=> ?_⟩
     rcases List.mem_cons.1 hy with rfl |hy
     ·exact⟨by simp only;omega,by simp only;omega,by simp only;omega⟩
     ·have:=ih.2 y hy
      omega
theorem Qu:∀(f p:Nat) (l:Str) (e:Nat),kC f p l= .error e→p≤e∧e<p+l.length
 |0,_,_,_,h=>by cases h
 |f+1,p,l,e,h=>by
  simp only[kC] at h
  by_cases hend:l.length≤skip false l
  ·rw[if_pos hend] at h;cases h
  ·rw[if_neg hend] at h
   cases hn:lK (l.drop (skip false l)) with
   |none=>rw[hn] at h;cases h;omega
   |some q=>
    obtain⟨kd,t,m⟩:=q
    have hm:=wT hn
    simp only[List.length_drop] at hm
    rw[hn] at h
    simp only at h
    cases hr:kC f (p+skip false l+m) (l.drop (skip false l+m)) with
    |ok r'=>rw[hr] at h;cases h
    |error e'=>
     rw[hr] at h
     have ih:=Qu f _ _ e' hr
     simp only[List.length_drop] at ih
     cases h
     omega
theorem WE:∀(l:Str) (a:Nat),(∀c∈l,gD c=true)→(pM l a).isSome=true
 | [],a,_=>rfl
 |c :: l,a,h=>by
  have hc:=h c List.mem_cons_self
  unfold gD at hc
  simp only[Bool.and_eq_true,decide_eq_true_eq] at hc
  unfold pM
  rw[aI.2 hc.1,aI.2 hc.2,Bool.and_self,cond_true]
  cases Nat.ble 1844674407370955162 a with
  |true=>rfl
  |false=>
   rw[cond_false]
   cases Nat.blt 18446744073709551615 (a*10+(c-48)) with
   |true=>rfl
   |false=>rw[cond_false];exact WE l _ fun d hd=>h d (List.mem_cons_of_mem _ hd)
theorem Y8 {t:Str} (h0:t≠[]) (h:∀c∈t,gD c=true):(pI t).isSome=true∧∀v,pI t=some (some v)→0≤v:=by
 cases t with
 |nil=>exact absurd rfl h0
 |cons c r=>
  have hc:=h c List.mem_cons_self
  unfold gD at hc
  simp only[Bool.and_eq_true,decide_eq_true_eq] at hc
  have e1:Nat.beq c 43=false:=dn.2 (by omega)
  have e2:Nat.beq c 45=false:=dn.2 (by omega)
  have hp:=WE (c :: r) 0 h
  unfold pI pU
  simp only[e1,e2,Bool.or_self,cond_false]
  cases e:pM (c :: r) 0 with
  |none=>rw[e] at hp;cases hp
  |some x=>
   cases x with
   |none=>exact⟨rfl,fun v q=>by cases q⟩
   |some u=>
    simp only
    cases Nat.ble 9223372036854775808 u with
    |true=>exact⟨rfl,fun v q=>by cases q⟩
    |false=>exact⟨rfl,fun v q=>by cases q;exact Int.natCast_nonneg u⟩
theorem WY {p:Nat→Bool}:∀(l:Str),l.take (l.takeWhile p).length=l.takeWhile p
 | []=>rfl
 |c :: l=>by
  rw[List.takeWhile_cons]
  split
  ·rw[List.length_cons,List.take_succ_cons,WY l]
  ·rfl
theorem abd {l:Str} {t:Str} {m:Nat} (h:lK l=some (2,t,m)):t≠[]∧(∀c∈t,gD c=true)∧t.length≤l.length:=by
 cases l with
 |nil=>cases h
 |cons c l=>
  have h:(if kP c=true then some (0,(c :: l).take (mG (c :: l)),mG (c :: l))
   else if c=36 then(if 0<mG l then some (1,l.take (mG l),mG l+1) else none)
   else if gD c=true then some (2,(c :: l).take ((c :: l).takeWhile gD).length,((c :: l).takeWhile gD).length)
   else if c=34 then(quo l).map fun r=>(3,r.1,r.2+1)
   else if 0<kK (c :: l) then some (4,(c :: l).take (kK (c :: l)),kK (c :: l)) else none)=some (2,t,m):=h
  by_cases h1:kP c=true
  ·rw[if_pos h1] at h;cases h
  rw[if_neg h1] at h
  by_cases h2:c=36
  ·rw[if_pos h2] at h
   by_cases h3:0<mG l
   ·rw[if_pos h3] at h;cases h
   ·rw[if_neg h3] at h;cases h
  rw[if_neg h2] at h
  by_cases hd:gD c=true
  ·rw[if_pos hd,WY] at h
   cases h
   refine⟨?_,fun d hm=> ?_,zO _⟩
   ·rw[List.takeWhile_cons,if_pos hd];simp
   ·exact List.all_eq_true.1 (List.all_takeWhile (l:=c :: l) (p:=gD)) d hm
  rw[if_neg hd] at h
  by_cases h4:c=34
  ·rw[if_pos h4] at h
   cases e:quo l with
   |none=>rw[e] at h;cases h
   |some r=>rw[e] at h;cases h
  rw[if_neg h4] at h
  by_cases h5:0<kK (c :: l)
  ·rw[if_pos h5] at h;cases h
  ·rw[if_neg h5] at h;cases h
theorem Rq:∀(f p:Nat) (l:Str) (r:List Lx),kC f p l= .ok r→∀y∈r,y.kind=2→y.text≠[]∧(∀c∈y.text,gD c=true)∧y.text.length≤l.length
 |0,_,_,_,h=>by cases h;intro y hy;cases hy
 |f+1,p,l,r,h=>by
  simp only[kC] at h
  by_cases hend:l.length≤skip false l
  ·rw[if_pos hend] at h;cases h;intro y hy;cases hy
  ·rw[if_neg hend] at h
   cases hn:lK (l.drop (skip false l)) with
   |none=>rw[hn] at h;cases h
   |some q=>
    obtain⟨kd,t,m⟩:=q
    rw[hn] at h
    simp only at h
    cases hr:kC f (p+skip false l+m) (l.drop (skip false l+m)) with
    |error e=>rw[hr] at h;cases h
    |ok r'=>
     rw[hr] at h
     have ih:=Rq f _ _ r' hr
     cases h
     intro y hy hk
     rcases List.mem_cons.1 hy with rfl |hy
     ·simp only at hk
      subst hk
      have:=abd hn
      simp only[List.length_drop] at this
      exact⟨this.1,this.2.1,by simp only;omega⟩
     ·have:=ih y hy hk
      simp only[List.length_drop] at this
      exact⟨this.1,this.2.1,by omega⟩
theorem NG:∀(f:Nat) (s:Str) (a k:Nat) (r:List Lx),Js f s a k= .ok r→a≤s.length→kC f a (s.drop a)= .ok r∧(k≤4096→k+r.length≤4096)
 |0,s,a,k,r,h,ha=>by cases h;exact⟨rfl,fun h=>h⟩
 |f+1,s,a,k,r,h,ha=>by
  simp only[Js] at h
  simp only[kC]
  have hle:=uO false (s.drop a)
  simp only[List.length_drop] at hle ⊢
  by_cases hend:s.length≤a+skip false (s.drop a)
  ·rw[if_pos hend] at h
   rw[if_pos (by omega)]
   cases h;exact⟨rfl,fun h=>h⟩
  ·rw[if_neg hend] at h
   rw[if_neg (by omega),List.drop_drop]
   cases hn:lK (s.drop (a+skip false (s.drop a))) with
   |none=>rw[hn] at h;cases h
   |some q=>
    obtain⟨kd,t,m⟩:=q
    have hm:=wT hn
    simp only[List.length_drop] at hm
    rw[hn] at h
    simp only at h ⊢
    by_cases hk:4096≤k
    ·rw[if_pos hk] at h;cases h
    ·rw[if_neg hk] at h
     cases hr:Js f s (a+skip false (s.drop a)+m) (k+1) with
     |error e=>rw[hr] at h;cases h
     |ok r'=>
      rw[hr] at h
      obtain⟨i1,i2⟩:=NG f s _ _ r' hr (by omega)
      cases h
      rw[List.drop_drop,show a+(skip false (s.drop a)+m)=a+skip false (s.drop a)+m by omega,i1]
      exact⟨rfl,fun _=>by have:=i2 (by omega);simp only[List.length_cons];omega⟩
theorem Od {s:Str} {l:List Lx} (h:s.length≤60000) (e:uG s= .ok l):dO l s.length 0 0:=by
 obtain⟨e,h1⟩:=NG _ _ _ _ _ e (Nat.zero_le _)
 rw[List.drop_zero] at e
 have h1:=h1 (by omega)
 obtain⟨_,h2⟩:=yG _ _ _ _ e
 have h3:=Rq _ _ _ _ e
 have hlim:lim=4611686018427387904:=rfl
 refine⟨by omega,Nat.zero_le _,by omega,by omega,fun j=> ?_,fun y hy hk=> ?_⟩
 ·unfold LJ
  cases hj:l[j]? with
  |none=>simp only;omega
  |some y=>have:=h2 y (List.mem_of_getElem? hj);simp only;omega
 ·obtain⟨q1,q2,q3⟩:=h3 y hy hk
  obtain⟨q4,q5⟩:=Y8 q1 q2
  exact⟨q4,by omega,q5⟩
section
variable {h h':aj} {L:jB} {S:List Sl} {F:List (aj→Prop)} {n:Nat} {K:aM}
theorem _root_.Go.Ab.Cx.ext (A:Cx h L S F) (e:Ext h h') (o:h'.Ok):Cx h' L S F:=
 ⟨o,fun x m=>e.2 _ _ (A.has x m),fun s m=>by
   rcases A.sls s m with k |⟨id,g,q,m0,hm,k⟩
   ·exact .inl k
   ·exact .inr ⟨id,g,q,m0,hm,e.2 _ _ k⟩,A.nod,fun R m=>(A.facts R m).step (Kp.ext e _)⟩
theorem _root_.Go.Ab.Cx.ownNew {m:Nat} {u:AV} {es:List (List AV)} (A:Cx h L S F) (e:Ext h h') (o:h'.Ok) (O:Own h.sz h' m u es):Cx h' L S ((fun h=>View h m u es) :: F):=by
 have B:=A.ext e o
 refine⟨B.ok,B.has,B.sls,B.nod,fun R hR=> ?_⟩
 rcases List.mem_cons.1 hR with rfl |hR
 ·intro h2 k
  rcases O with⟨rfl,rfl⟩|⟨id,r,q1,rfl,q2,q3⟩
  ·exact View.nil _ _
  ·have hn:¬id∈places L S:=fun hp=>by have:=A.pl hp;omega
   have:=k.2 id _ hn (aj.row_some.1 q2)
   exact(show Own h.sz h2 m _ es from .inr ⟨id,r,q1,rfl,aj.row_some.2 this,q3⟩).view
 ·exact B.facts R hR
def akt (s:Str) (L:jB) (S:List Sl) (F:List (aj→Prop)) (K:aM):Except Nat (List Lx)→Prop
 | .ok l=>∀h u,Cx h L S ((fun h=>ad2 u l h) :: F)→K (.tup [u, .int .i64 0, .int .i64 0]) h=true
 | .error e=>∀h,Cx h L S F→K (.tup [.ah, .int .i64 (e:Int), .int .i64 20]) h=true
theorem c7 {s:Str} (hb:∀b∈s,b<256) (hs:s.length≤60000) (hn:s.length+20≤n) (A:Cx h L S F) (H:akt s L S F K (uG s)):au E n (.func 7) [.str s] h K=true:=by
 obtain⟨n,rfl⟩:∃m,n=m+10:=⟨n-10,by omega⟩
 have hm:most=1099511627776:=rfl
 show au E (n+9+1) _ _ _ _=true
 apply d7
 unfold s7
 refine gJ (kV ?_)
 rw[decide_eq_false (by omega)]
 refine bg ?_
 refine c13 (n:=n+1) A.ok (by omega) hb (by omega) (by omega) fun v h' e o a=> ?_
 cases hl:uG s with
 |ok l=>
  rw[hl] at a H
  obtain⟨u,rfl,O⟩:=a
  refine aG rfl (jR (jQ (xA ?_)))
  exact H _ _ (A.ownNew e o O)
 |error x=>
  rw[hl] at a H
  cases a
  refine aG rfl (jR (jQ (xA ?_)))
  exact H _ (A.ext e o)
end
def Qm (d:Nat) (T U:List Lx):Prop:=∀i:Nat,(U[d+i]?).map (fun l=>(l.kind,l.text))=(T[i]?).map fun l=>(l.kind,l.text)
def Hw.mv {α:Type} (d:Nat):Hw α→Hw α
 | .ok v i o=> .ok v (d+i) o
 | .fail i=> .fail (d+i)
 | .out=> .out
theorem Qm.none {d:Nat} {T U:List Lx} (q:Qm d T U) {i:Nat} (e:T[i]? =none):U[d+i]? =none:=by
 have:=q i
 rw[e] at this
 cases h:U[d+i]? with
 |none=>rfl
 |some l=>rw[h] at this;cases this
theorem Qm.some {d:Nat} {T U:List Lx} (q:Qm d T U) {i:Nat} {l:Lx} (e:T[i]? =some l):∃m,U[d+i]? =some m∧m.kind=l.kind∧m.text=l.text:=by
 have:=q i
 rw[e] at this
 cases h:U[d+i]? with
 |none=>rw[h] at this;cases this
 |some m=>
  rw[h] at this
  simp only[Option.map_some,Option.some.injEq,Prod.mk.injEq] at this
  exact⟨m,rfl,this.1,this.2⟩
structure Te (c:List Lx→Nat→Bool):Prop where
 loc:∀T U i,i<T.length→c (T++U) i=c T i
 sf:∀T U d i,Qm d T U→c U (d+i)=c T i
theorem DL {T U:List Lx} {i:Nat} (h:i<T.length):(T++U)[i]? =T[i]? :=List.getElem?_append_left h
theorem fG (s:Str):Te fun T i=>bC T i s:=by
 refine⟨fun T U i h=> ?_,fun T U d i q=> ?_⟩
 ·simp only[bC,DL h]
 ·simp only[bC]
  cases e:T[i]? with
  |none=>rw[q.none e]
  |some l=>obtain⟨m,e1,e2,e3⟩:=q.some e;rw[e1];simp only[e2,e3]
theorem Qx:Te fun T i=>nY T i:=by
 refine⟨fun T U i h=> ?_,fun T U d i q=> ?_⟩
 ·simp only[nY,DL h]
 ·simp only[nY]
  cases e:T[i]? with
  |none=>rw[q.none e]
  |some l=>obtain⟨m,e1,e2,e3⟩:=q.some e;rw[e1];simp only[e2,e3]
theorem qg (k:Nat):Te fun T i=>dN T i k:=by
 refine⟨fun T U i h=> ?_,fun T U d i q=> ?_⟩
 ·simp only[dN,DL h]
 ·simp only[dN]
  cases e:T[i]? with
  |none=>rw[q.none e]
  |some l=>obtain⟨m,e1,e2,e3⟩:=q.some e;rw[e1];simp only[e2]
theorem z8 {T U:List Lx} {i:Nat} (h:i<T.length):txt (T++U) i=txt T i:=by simp only[txt,DL h]
theorem EP {T U:List Lx} {d i:Nat} (q:Qm d T U):txt U (d+i)=txt T i:=by
 simp only[txt]
 cases e:T[i]? with
 |none=>rw[q.none e]
 |some l=>obtain⟨m,e1,e2,e3⟩:=q.some e;rw[e1];simp only[e3]
theorem aei {a b:List Lx→Nat→Bool} (h:Te a) (k:Te b):Te fun T i=>a T i||b T i:=
 ⟨fun T U i l=>by simp only[h.loc T U i l,k.loc T U i l],fun T U d i q=>by simp only[h.sf T U d i q,k.sf T U d i q]⟩
theorem PN {a b:List Lx→Nat→Bool} (h:Te a) (k:Te b):Te fun T i=>a T i&&b T i:=
 ⟨fun T U i l=>by simp only[h.loc T U i l,k.loc T U i l],fun T U d i q=>by simp only[h.sf T U d i q,k.sf T U d i q]⟩
theorem ae5 (l:List Str):Te fun T i=>l.any fun w=>bC T i w:=by
 induction l with
 |nil=>exact⟨fun _ _ _ _=>rfl,fun _ _ _ _ _=>rfl⟩
 |cons w l ih=>exact aei (fG w) ih
theorem abC (n:Nat):Te fun T i=>decide ((txt T i).length≤n):=⟨fun T U i h=>by simp only[z8 h],fun T U d i q=>by simp only[EP q]⟩
theorem is_lt {T:List Lx} {i:Nat} {s:Str} (h:bC T i s=true):i<T.length:=by
 unfold bC at h
 cases e:T[i]? with
 |none=>rw[e] at h;cases h
 |some l=>exact(List.getElem?_eq_some_iff.1 e).1
theorem SL {T:List Lx} {i:Nat} (h:nY T i=true):i<T.length:=by
 unfold nY at h
 cases e:T[i]? with
 |none=>rw[e] at h;cases h
 |some l=>exact(List.getElem?_eq_some_iff.1 e).1
theorem qZ {T:List Lx} {i k:Nat} (h:dN T i k=true):i<T.length:=by
 unfold dN at h
 cases e:T[i]? with
 |none=>rw[e] at h;cases h
 |some l=>exact(List.getElem?_eq_some_iff.1 e).1
abbrev vo (α:Type):=Nat→List Lx→PM α
structure Gd {α:Type} (m:vo α):Prop where
 mono:∀x T i o v i' o',m x T i o= .ok v i' o'→i≤i'
 loc:∀x T U i o v i' o',m x T i o= .ok v i' o'→i'<T.length→m x (T++U) i o= .ok v i' o'
 sf:∀x T U d i o,Qm d T U→m (d+x) U (d+i) o=(m x T i o).mv d
def Cs {α:Type} (m:vo α):Prop:=∀x T i o v i' o',m x T i o= .ok v i' o'→i<i'∧i<T.length
structure ME {α:Type} (m:vo α):Prop where
 mono:∀x T i o v i' o',m x T i o= .ok v i' o'→i≤i'
 cs:Cs m
 loc:∀x T U i o v i' o',m x T i o= .ok v i' o'→m x (T++U) i o= .ok v i' o'
 sf:∀x T U d i o,Qm d T U→m (d+x) U (d+i) o=(m x T i o).mv d
theorem ME.gd {α:Type} {m:vo α} (h:ME m):Gd m:=⟨h.mono,fun x T U i o v i' o' e _=>h.loc x T U i o v i' o' e,h.sf⟩
section
variable {α β:Type}
theorem bR {v:α}:Gd fun _ _=>ret v:=⟨fun _ _ _ _ _ _ _ e=>by cases e;exact Nat.le_refl _,fun _ _ _ _ _ _ _ _ e _=>e,fun _ _ _ _ _ _ _=>rfl⟩
theorem mq:Gd fun _ _=>(vD:PM α):=⟨fun _ _ _ _ _ _ _ e=>(by cases e),fun _ _ _ _ _ _ _ _ e _=>(by cases e),fun _ _ _ _ _ _ _=>rfl⟩
theorem adM:Gd fun x _=>(X8 x:PM α):=⟨fun _ _ _ _ _ _ _ e=>(by cases e),fun _ _ _ _ _ _ _ _ e _=>(by cases e),fun _ _ _ _ _ _ _=>rfl⟩
theorem bW {m:PM α} {g:α→PM β} {i:Nat} {o:Int} {v:β} {i':Nat} {o':Int} (h:bnd m g i o= .ok v i' o'):∃w i1 o1,m i o= .ok w i1 o1∧g w i1 o1= .ok v i' o':=by
 unfold bnd at h
 cases e:m i o with
 |ok w i1 o1=>rw[e] at h;exact⟨w,i1,o1,rfl,h⟩
 |fail x=>rw[e] at h;cases h
 |out=>rw[e] at h;cases h
theorem PK {m:PM α} {g:α→PM β} {i:Nat} {o:Int} {w:α} {i1:Nat} {o1:Int} (h:m i o= .ok w i1 o1):bnd m g i o=g w i1 o1:=by unfold bnd;rw[h]
theorem Jh {m:vo α} {g:α→vo β} (h:∀x T U d i o,Qm d T U→m (d+x) U (d+i) o=(m x T i o).mv d) (k:∀v x T U d i o,Qm d T U→g v (d+x) U (d+i) o=(g v x T i o).mv d) {x:Nat} {T U:List Lx} {d i:Nat} {o:Int} (q:Qm d T U):bnd (m (d+x) U) (fun v=>g v (d+x) U) (d+i) o=(bnd (m x T) (fun v=>g v x T) i o).mv d:=by
 unfold bnd
 rw[h x T U d i o q]
 cases m x T i o with
 |ok w i1 o1=>exact k w x T U d i1 o1 q
 |fail x=>rfl
 |out=>rfl
theorem aP {m:vo α} {g:α→vo β} (h:Gd m) (k:∀v,Gd (g v)):Gd fun x T=>bnd (m x T) fun v=>g v x T:=by
 refine⟨fun x T i o v i' o' e=> ?_,fun x T U i o v i' o' e hl=> ?_,fun x T U d i o q=>Jh h.sf (fun v=>(k v).sf) q⟩
 ·obtain⟨w,i1,o1,e1,e2⟩:=bW e
  exact Nat.le_trans (h.mono _ _ _ _ _ _ _ e1) ((k w).mono _ _ _ _ _ _ _ e2)
 ·obtain⟨w,i1,o1,e1,e2⟩:=bW e
  have:=(k w).mono _ _ _ _ _ _ _ e2
  show bnd (m x (T++U)) (fun v=>g v x (T++U)) i o=_
  rw[PK (h.loc x T U _ _ _ _ _ e1 (by omega))]
  exact(k w).loc x T U _ _ _ _ _ e2 hl
theorem jv {m:vo α} {g:α→vo β} (h:Cs m) (k:∀v,Gd (g v)):Cs fun x T=>bnd (m x T) fun v=>g v x T:=by
 intro x T i o v i' o' e
 obtain⟨w,i1,o1,e1,e2⟩:=bW e
 have h1:=h _ _ _ _ _ _ _ e1
 have h2:=(k w).mono _ _ _ _ _ _ _ e2
 omega
theorem XR {m:vo α} {g:α→vo β} (h:Gd m) (k:∀v,Cs (g v)):Cs fun x T=>bnd (m x T) fun v=>g v x T:=by
 intro x T i o v i' o' e
 obtain⟨w,i1,o1,e1,e2⟩:=bW e
 have h1:=h.mono _ _ _ _ _ _ _ e1
 have h2:=k w _ _ _ _ _ _ _ e2
 omega
theorem mI {m:vo α} {g:α→vo β} (h:Gd m) (k:∀v,ME (g v)):ME fun x T=>bnd (m x T) fun v=>g v x T:=by
 refine⟨(aP h fun v=>(k v).gd).mono,XR h fun v=>(k v).cs,fun x T U i o v i' o' e=> ?_,(aP h fun v=>(k v).gd).sf⟩
 obtain⟨w,i1,o1,e1,e2⟩:=bW e
 have h2:=(k w).cs _ _ _ _ _ _ _ e2
 show bnd (m x (T++U)) (fun v=>g v x (T++U)) i o=_
 rw[PK (h.loc x T U _ _ _ _ _ e1 h2.2)]
 exact(k w).loc x T U _ _ _ _ _ e2
theorem zw {m:vo α} {f:α→β} (h:ME m):ME fun x T=>bnd (m x T) fun v=>ret (f v):=by
 have h2:=aP h.gd fun v=>bR (v:=f v)
 refine⟨h2.mono,jv h.cs fun v=>bR (v:=f v),fun x T U i o v i' o' e=> ?_,h2.sf⟩
 obtain⟨w,i1,o1,e1,e2⟩:=bW e
 show bnd (m x (T++U)) (fun v=>ret (f v)) i o=_
 rw[PK (h.loc x T U _ _ _ _ _ e1)]
 exact e2
theorem uJ {c:List Lx→Nat→Bool} {m1 m2:vo α} (t:Te c) (h1:Gd m1) (h2:Gd m2):Gd fun x T i o=>if c T i=true then m1 x T i o else m2 x T i o:=by
 refine⟨fun x T i o v i' o' e=> ?_,fun x T U i o v i' o' e hl=> ?_,fun x T U d i o q=> ?_⟩
 ·try simp only at e
  split at e
  ·exact h1.mono _ _ _ _ _ _ _ e
  ·exact h2.mono _ _ _ _ _ _ _ e
 ·try simp only at e ⊢
  have hi:i<T.length:=by
   split at e
   ·exact Nat.lt_of_le_of_lt (h1.mono _ _ _ _ _ _ _ e) hl
   ·exact Nat.lt_of_le_of_lt (h2.mono _ _ _ _ _ _ _ e) hl
  rw[t.loc T U i hi]
  split at e
  ·rename_i hc;rw[if_pos hc];exact h1.loc _ _ _ _ _ _ _ _ e hl
  ·rename_i hc;rw[if_neg hc];exact h2.loc _ _ _ _ _ _ _ _ e hl
 ·try simp only
  rw[t.sf T U d i q]
  split
  ·exact h1.sf _ _ _ _ _ _ q
  ·exact h2.sf _ _ _ _ _ _ q
theorem GZ {c:List Lx→Nat→Bool} {m1 m2:vo α} (h1:Cs m1) (h2:Cs m2):Cs fun x T i o=>if c T i=true then m1 x T i o else m2 x T i o:=by
 intro x T i o v i' o' e
 try simp only at e
 split at e
 ·exact h1 _ _ _ _ _ _ _ e
 ·exact h2 _ _ _ _ _ _ _ e
theorem Ug {a b:List Lx→Nat→Bool} {f:Bool→Bool→Bool} {m1 m2:vo α} (ta:Te a) (tb:Te b) (h1:Gd m1) (h2:Gd m2) (k1:Cs m1) (k2:Cs m2):Gd fun x T i o=>if f (a T i) (b T (i+1))=true then m1 x T i o else m2 x T i o:=by
 refine⟨fun x T i o v i' o' e=> ?_,fun x T U i o v i' o' e hl=> ?_,fun x T U d i o q=> ?_⟩
 ·try simp only at e
  split at e
  ·exact h1.mono _ _ _ _ _ _ _ e
  ·exact h2.mono _ _ _ _ _ _ _ e
 ·try simp only at e ⊢
  have hi:i+1<T.length:=by
   split at e
   ·exact Nat.lt_of_le_of_lt (k1 _ _ _ _ _ _ _ e).1 hl
   ·exact Nat.lt_of_le_of_lt (k2 _ _ _ _ _ _ _ e).1 hl
  rw[ta.loc T U i (by omega),tb.loc T U (i+1) hi]
  split at e
  ·rename_i hc;rw[if_pos hc];exact h1.loc _ _ _ _ _ _ _ _ e hl
  ·rename_i hc;rw[if_neg hc];exact h2.loc _ _ _ _ _ _ _ _ e hl
 ·try simp only
  rw[ta.sf T U d i q,Nat.add_assoc,tb.sf T U d (i+1) q]
  split
  ·exact h1.sf _ _ _ _ _ _ q
  ·exact h2.sf _ _ _ _ _ _ q
theorem gM {c:List Lx→Nat→Bool} {m1 m2:vo α} (t:Te c) (h1:Gd m1) (h2:Gd m2):Gd fun x T i o=>if c T i=true then m1 x T (i+1) o else m2 x T i o:=by
 refine uJ (m1:=fun x T i o=>m1 x T (i+1) o) t ⟨fun x T i o v i' o' e=> ?_,fun x T U i o v i' o' e hl=>h1.loc _ _ _ _ _ _ _ _ e hl,fun x T U d i o q=> ?_⟩ h2
 ·have:=h1.mono _ _ _ _ _ _ _ e;omega
 ·exact h1.sf x T U d (i+1) o q
theorem lT {c:List Lx→Nat→Bool} {m1 m2:vo α} (l:∀T i,c T i=true→i<T.length) (h1:Gd m1) (h2:Cs m2):Cs fun x T i o=>if c T i=true then m1 x T (i+1) o else m2 x T i o:=by
 intro x T i o v i' o' e
 try simp only at e
 split at e
 ·rename_i hc
  have:=h1.mono _ _ _ _ _ _ _ e
  exact⟨by omega,l _ _ hc⟩
 ·exact h2 _ _ _ _ _ _ _ e
theorem Cu {m:vo α} (h:Gd m):Gd fun _ T i o=>m i T i o:=
 ⟨fun x T i o v i' o' e=>h.mono _ _ _ _ _ _ _ e,fun x T U i o v i' o' e hl=>h.loc _ _ _ _ _ _ _ _ e hl,fun x T U d i o q=>h.sf _ _ _ _ _ _ q⟩
theorem NW {m:vo α} (h:Cs m):Cs fun _ T i o=>m i T i o:=fun x T i o v i' o' e=>h _ _ _ _ _ _ _ e
end
theorem xJ (w:Str):Gd fun _ T=>fq T w:=by
 have:=gM (fG w) (bR (v:=true)) (bR (v:=false))
 exact this
theorem Pp {T:List Lx} {w:Str} {i:Nat} {o:Int}:bU T w i o=if bC T i w=true then .ok () (i+1) o else .fail i:=by
 unfold bU bnd fq
 by_cases h:bC T i w=true
 ·rw[if_pos h,if_pos h];rfl
 ·rw[if_neg h,if_neg h];rfl
theorem KG {α:Type}:Gd fun _ _ i _=>(.fail i:Hw α):=⟨fun _ _ _ _ _ _ _ e=>(by cases e),fun _ _ _ _ _ _ _ _ e _=>(by cases e),fun _ _ _ _ _ _ _=>rfl⟩
theorem aa6 {α:Type}:Cs fun _ _ i _=>(.fail i:Hw α):=fun _ _ _ _ _ _ _ e=>by cases e
theorem uj (w:Str):ME fun _ T=>bU T w:=by
 have e:(fun(_:Nat) T=>bU T w)=fun _ T i o=>if bC T i w=true then .ok () (i+1) o else .fail i:=by
  funext x T i o;exact Pp
 rw[e]
 have h:=gM (fG w) (bR (v:=())) KG
 refine⟨h.mono,lT (fun _ _=>is_lt) bR aa6,fun x T U i o v i' o' e=> ?_,h.sf⟩
 try simp only at e ⊢
 split at e
 ·rename_i hc
  rw[(fG w).loc T U i (is_lt hc),if_pos hc];exact e
 ·cases e
theorem dV (w:Str):Gd fun _ T=>bU T w:=(uj w).gd
theorem Af (w:Str):Cs fun _ T=>bU T w:=(uj w).cs
theorem yP {α:Type} {c:List Lx→Nat→Bool} (t:Te c) (l:∀T i,c T i=true→i<T.length) (f:Str→α):ME fun _ T i o=>if c T i=true then .ok (f (txt T i)) (i+1) o else(.fail i:Hw α):=by
 refine⟨fun x T i o v i' o' e=> ?_,fun x T i o v i' o' e=> ?_,fun x T U i o v i' o' e=> ?_,fun x T U d i o q=> ?_⟩
 ·(try simp only at e);split at e<;>cases e;omega
 ·(try simp only at e);split at e<;>cases e;exact⟨by omega,l _ _ (by assumption)⟩
 ·try simp only at e ⊢
  split at e
  ·rename_i hc
   rw[t.loc T U i (l _ _ hc),if_pos hc,z8 (l _ _ hc)];exact e
  ·cases e
 ·try simp only
  rw[t.sf T U d i q,EP q]
  split<;>rfl
theorem eT:ME fun _ T=>fD T:=yP (PN Qx (abC 64)) (fun T i h=>SL (by simp only[Bool.and_eq_true] at h;exact h.1)) id
theorem jr:ME fun _ T=>mD T:=yP (PN (qg 1) (abC 64)) (fun T i h=>qZ (by simp only[Bool.and_eq_true] at h;exact h.1)) id
theorem nA:ME fun _ T=>iE T:=yP (qg 3) (fun T i h=>qZ h) id
theorem Dm:Gd fun x _=>iy x:=by
 refine⟨fun x T i o v i' o' e=> ?_,fun x T U i o v i' o' e _=>e,fun x T U d i o q=> ?_⟩
 ·simp only[iy] at e;split at e<;>cases e;exact Nat.le_refl _
 ·simp only[iy];split<;>rfl
theorem Db:Gd fun _ _=>ku:=⟨fun _ _ _ _ _ _ _ e=>(by cases e;exact Nat.le_refl _),fun _ _ _ _ _ _ _ _ e _=>e,fun _ _ _ _ _ _ _=>rfl⟩
theorem fH (w:Str):Gd fun _ T=>dJ T w:=Cu (m:=fun x T=>bnd (bU T w) fun _=>iy x) (aP (dV w) fun _=>Dm)
theorem og (w:Str):Cs fun _ T=>dJ T w:=NW (m:=fun x T=>bnd (bU T w) fun _=>iy x) (jv (Af w) fun _=>Dm)
theorem eD (w:Str):ME fun _ T=>bX T w:=by
 have h:=aP (dV w) fun _=>Db
 refine⟨h.mono,jv (Af w) fun _=>Db,fun x T U i o v i' o' e=> ?_,h.sf⟩
 obtain⟨u,i1,o1,e1,e2⟩:=bW e
 show bnd (bU (T++U) w) (fun _=>ku) i o=_
 rw[PK ((uj w).loc x T U _ _ _ _ _ e1)]
 exact e2
theorem sM (e:Ex) (l:List Bt):Gd fun x _=>fZ x e l:=by
 unfold fZ
 split
 ·exact adM
 ·exact bR
section
variable {σ:Type}
theorem Dt {w:Str} {one:σ→vo σ} (h:∀s,Gd (one s)):∀(k:Nat) (first:Bool) (s:σ),Gd fun x T=>rT T w (fun s=>one s x T) k first s
 |0,_,_=>mq
 |k+1,true,s=>uJ (fG w) bR (aP (h s) fun v=>Dt h k false v)
 |k+1,false,s=>gM (fG [44]) (aP (h s) fun v=>Dt h k false v) bR
theorem om {w:Str} {one:σ→vo σ} (h:∀s,Gd (one s)) (k:Nat) (s:σ):ME fun x T=>fV T w (fun s=>one s x T) k s:=
 mI (Dt h k true s) fun v=>zw (f:=fun _=>v) (eD w)
end
structure GdX (k:Nat):Prop where
 level:∀lv,Gd fun _ T=>bB T k lv
 levelC:∀lv,Cs fun _ T=>bB T k lv
 ops:∀lv e,Gd fun _ T=>nC T k lv e
 sign:Gd fun _ T=>iO T k
 signC:Cs fun _ T=>iO T k
 post:Gd fun _ T=>qH T k
 postC:Cs fun _ T=>qH T k
 dots:∀e,Gd fun _ T=>nQ T k e
 atom:Gd fun _ T=>oV T k
 atomC:Cs fun _ T=>oV T k
theorem aax {α:Type} {c:List Lx→Nat→Bool} {m1:Str→vo α} {m2:vo α} (t:Te c) (h1:∀s,Gd (m1 s)) (h2:Gd m2):Gd fun x T i o=>if c T i=true then m1 (txt T i) x T (i+1) o else m2 x T i o:=by
 refine⟨fun x T i o v i' o' e=> ?_,fun x T U i o v i' o' e hl=> ?_,fun x T U d i o q=> ?_⟩
 ·try simp only at e
  split at e
  ·have:=(h1 _).mono _ _ _ _ _ _ _ e;omega
  ·exact h2.mono _ _ _ _ _ _ _ e
 ·try simp only at e ⊢
  have hi:i<T.length:=by
   split at e
   ·have:=(h1 _).mono _ _ _ _ _ _ _ e;omega
   ·exact Nat.lt_of_le_of_lt (h2.mono _ _ _ _ _ _ _ e) hl
  rw[t.loc T U i hi,z8 hi]
  split at e
  ·rename_i hc;rw[if_pos hc];exact(h1 _).loc _ _ _ _ _ _ _ _ e hl
  ·rename_i hc;rw[if_neg hc];exact h2.loc _ _ _ _ _ _ _ _ e hl
 ·try simp only
  rw[t.sf T U d i q,EP q]
  split
  ·exact(h1 _).sf x T U d (i+1) o q
  ·exact h2.sf _ _ _ _ _ _ q
def opB (T:List Lx) (i lv:Nat):Bool:=match T[i]? with
 |none=>false
 |some l=>(vK lv l.text).isSome&&decide (l.kind=4)
theorem agI (lv:Nat):Te fun T i=>opB T i lv:=by
 refine⟨fun T U i h=> ?_,fun T U d i q=> ?_⟩
 ·simp only[opB,DL h]
 ·simp only[opB]
  cases e:T[i]? with
  |none=>rw[q.none e]
  |some l=>obtain⟨m,e1,e2,e3⟩:=q.some e;rw[e1];simp only[e2,e3]
theorem aeA {T:List Lx} {i lv:Nat} (h:opB T i lv=true):i<T.length:=by
 unfold opB at h
 cases e:T[i]? with
 |none=>rw[e] at h;cases h
 |some l=>exact(List.getElem?_eq_some_iff.1 e).1
theorem TB {T:List Lx} {k lv:Nat} {e:Bt} {i:Nat} {o:Int}:nC T (k+1) lv e i o=if opB T i lv=true then bnd (bB T k (lv+1)) (fun b=>bnd (fZ i (iP ((vK lv (txt T i)).getD 0) []) [e,b]) fun e'=>if lv=2 then ret e' else nC T k lv e') (i+1) o else .ok e i o:=by
 show(match T[i]? with
  |none=>Hw.ok e i o
  |some l=>match vK lv l.text with
   |none=> .ok e i o
   |some op=>if l.kind=4 then bnd (bB T k (lv+1)) (fun b=>bnd (fZ i (iP op []) [e,b]) fun e'=>if lv=2 then ret e' else nC T k lv e') (i+1) o else .ok e i o)=_
 unfold opB txt
 cases h:T[i]? with
 |none=>rfl
 |some l=>
  simp only
  cases hp:vK lv l.text with
  |none=>rfl
  |some op=>
   by_cases h4:l.kind=4
   ·simp only[h4,if_true,Option.isSome,decide_true,Bool.and_true,Option.getD]
   ·simp only[h4,if_false,Option.isSome,decide_false,Bool.and_false];rfl
def UU (T:List Lx) (i:Nat):Bool:=match pI (txt T i) with
 |some (some _)=>true
 |_=>false
theorem afj:Te fun T i=>UU T i:=⟨fun T U i h=>by simp only[UU,z8 h],fun T U d i q=>by simp only[UU,EP q]⟩
def LZ (t:Str):Int:=match pI t with
 |some (some n)=>n
 |_=>0
theorem Ia (k:Nat):(fun(_:Nat) T=>oV T (k+1))=fun(_:Nat) T i o=>(fun(x:Nat) T i o=>
 if dN T i 2=true then(if(dN T i 2&&UU T i)=true then .ok (lit (.mk 2 false (LZ (txt T i)) [] [])) (i+1) o else(.fail i:Hw Bt))
 else if dN T i 3=true then(fun s (_:Nat) (_:List Lx)=>ret (lit (.mk 3 false 0 s []))) (txt T i) x T (i+1) o
 else if bC T i [116,114,117,101]=true then ret (lit (.mk 1 true 0 [] [])) (i+1) o
 else if bC T i [102,97,108,115,101]=true then ret (lit (.mk 1 false 0 [] [])) (i+1) o
 else if bC T i [110,117,108,108]=true then ret (lit O8) (i+1) o
 else if dN T i 1=true then(bnd (mD T) fun t=>ret (⟨iP 2 t,1⟩:Bt)) i o
 else if bC T i [40]=true then(bnd (dJ T [40]) fun _=>bnd (bB T k 0) fun e=>bnd (bX T [41]) fun _=>ret e) i o
 else if bC T i [91]=true then(bnd (dJ T [91]) fun _=>bnd (fV T [93] (fun l=>bnd (bB T k 0) fun b=>ret (l++[b])) k []) fun l=>fZ x (iP 5 []) l) i o
 else if bC T i [115,105,122,101]=true then(bnd (dJ T [40]) fun _=>bnd (bB T k 0) fun e=>bnd (bX T [41]) fun _=>fZ x (iP 21 []) [e]) (i+1) o
 else if bC T i [104,97,115]=true then(bnd (dJ T [40]) fun _=>bnd (bB T k 0) fun a=>bnd (bU T [44]) fun _=>bnd (bB T k 0) fun b=>bnd (bX T [41]) fun _=>fZ x (iP 22 []) [a,b]) (i+1) o
 else(bnd (fD T) fun t=>ret (⟨iP 3 t,1⟩:Bt)) i o) i T i o:=by
 funext x T i o
 unfold oV
 by_cases h2:dN T i 2=true
 ·simp only[if_pos h2,h2,UU,LZ,Bool.true_and]
  cases hp:pI (txt T i) with
  |none=>rfl
  |some r=>cases r<;>rfl
 ·simp only[if_neg h2];rfl
theorem gdx:∀k,GdX k
 |0=>⟨fun _=>mq,fun _ _ _ _ _ _ _ _ e=>(by cases e),fun _ _=>mq,mq,fun _ _ _ _ _ _ _ e=>(by cases e),mq,fun _ _ _ _ _ _ _ e=>(by cases e),fun _=>mq,mq,fun _ _ _ _ _ _ _ e=>(by cases e)⟩
 |k+1=>by
  have W:=gdx k
  have post:Gd fun _ T=>qH T (k+1):=aP (m:=fun _ T=>oV T k) (g:=fun v _ T=>nQ T k v) W.atom fun v=>W.dots v
  have postC:Cs fun _ T=>qH T (k+1):=jv (m:=fun _ T=>oV T k) (g:=fun v _ T=>nQ T k v) W.atomC fun v=>W.dots v
  have s1:∀op,Gd fun x T=>bnd (iy x) fun _=>bnd (iO T k) fun e=>bnd ku fun _=>fZ x (iP op []) [e]:=fun op=>aP Dm fun _=>aP W.sign fun e=>aP Db fun _=>sM _ _
  have sign:Gd fun _ T=>iO T (k+1):=Cu (m:=fun x T i o=>if bC T i [45]=true then bnd (iy x) (fun _=>bnd (iO T k) fun e=>bnd ku fun _=>fZ x (iP 6 []) [e]) (i+1) o
   else if bC T i [33]=true then bnd (iy x) (fun _=>bnd (iO T k) fun e=>bnd ku fun _=>fZ x (iP 7 []) [e]) (i+1) o else qH T k i o) (gM (fG _) (s1 6) (gM (fG _) (s1 7) W.post))
  have signC:Cs fun _ T=>iO T (k+1):=NW (m:=fun x T i o=>if bC T i [45]=true then bnd (iy x) (fun _=>bnd (iO T k) fun e=>bnd ku fun _=>fZ x (iP 6 []) [e]) (i+1) o
   else if bC T i [33]=true then bnd (iy x) (fun _=>bnd (iO T k) fun e=>bnd ku fun _=>fZ x (iP 7 []) [e]) (i+1) o else qH T k i o) (lT (fun _ _=>is_lt) (s1 6) (lT (fun _ _=>is_lt) (s1 7) W.postC))
  have ops:∀lv e,Gd fun _ T=>nC T (k+1) lv e:=by
   intro lv e
   have h:=Cu (aax (m1:=fun s x T=>bnd (bB T k (lv+1)) (fun b=>bnd (fZ x (iP ((vK lv s).getD 0) []) [e,b]) fun e'=>if lv=2 then ret e' else nC T k lv e')) (m2:=fun _ _=>ret e) (agI lv)
    (fun s=>aP (m:=fun _ T=>bB T k (lv+1)) (W.level _) fun b=>aP (sM _ _) (g:=fun e' _ T=>if lv=2 then ret e' else nC T k lv e') fun e'=>by
      by_cases h2:lv=2
      ·simp only[if_pos h2];exact bR
      ·simp only[if_neg h2];exact W.ops lv e') bR)
   refine(funext fun x=>funext fun T=>funext fun i=>funext fun o=> ?_:(fun(_:Nat) T=>nC T (k+1) lv e)=_)▸h
   exact TB
  have dots:∀e,Gd fun _ T=>nQ T (k+1) e:=fun e=>Cu (m:=fun x T i o=>if bC T i [46]=true then bnd (fD T) (fun t=>bnd (fZ x (iP 4 t) [e]) (nQ T k)) (i+1) o else .ok e i o)
   (gM (fG _) (aP eT.gd fun t=>aP (sM _ _) (g:=fun e' _ T=>nQ T k e') fun e'=>W.dots e') bR)
  have a0:ME fun _ T i o=>if(dN T i 2&&UU T i)=true then .ok (lit (.mk 2 false (LZ (txt T i)) [] [])) (i+1) o else(.fail i:Hw Bt):=yP (PN (qg 2) afj) (fun T i h=>qZ (by simp only[Bool.and_eq_true] at h;exact h.1)) fun t=>lit (.mk 2 false (LZ t) [] [])
  have a1:Gd fun _ T=>bnd (dJ T [40]) fun _=>bnd (bB T k 0) fun e=>bnd (bX T [41]) fun _=>ret e:=aP (fH _) fun _=>aP (m:=fun _ T=>bB T k 0) (W.level 0) fun e=>aP (eD _).gd fun _=>bR
  have a1C:Cs fun _ T=>bnd (dJ T [40]) fun _=>bnd (bB T k 0) fun e=>bnd (bX T [41]) fun _=>ret e:=jv (og _) fun _=>aP (m:=fun _ T=>bB T k 0) (W.level 0) fun e=>aP (eD _).gd fun _=>bR
  have li:Gd fun _ T=>fV T [93] (fun l=>bnd (bB T k 0) fun b=>ret (l++[b])) k []:=(om (one:=fun l _ T=>bnd (bB T k 0) fun b=>ret (l++[b])) (fun l=>aP (m:=fun _ T=>bB T k 0) (W.level 0) fun b=>bR) k []).gd
  have a2:Gd fun x T=>bnd (dJ T [91]) fun _=>bnd (fV T [93] (fun l=>bnd (bB T k 0) fun b=>ret (l++[b])) k []) fun l=>fZ x (iP 5 []) l:=aP (fH _) fun _=>aP li fun l=>sM _ _
  have a2C:Cs fun x T=>bnd (dJ T [91]) fun _=>bnd (fV T [93] (fun l=>bnd (bB T k 0) fun b=>ret (l++[b])) k []) fun l=>fZ x (iP 5 []) l:=jv (og _) fun _=>aP li fun l=>sM _ _
  have a3:Gd fun x T=>bnd (dJ T [40]) fun _=>bnd (bB T k 0) fun e=>bnd (bX T [41]) fun _=>fZ x (iP 21 []) [e]:=aP (fH _) fun _=>aP (m:=fun _ T=>bB T k 0) (W.level 0) fun e=>aP (eD _).gd fun _=>sM _ _
  have a4:Gd fun x T=>bnd (dJ T [40]) fun _=>bnd (bB T k 0) fun a=>bnd (bU T [44]) fun _=>bnd (bB T k 0) fun b=>bnd (bX T [41]) fun _=>fZ x (iP 22 []) [a,b]:=aP (fH _) fun _=>aP (m:=fun _ T=>bB T k 0) (W.level 0) fun e=>aP (dV _) fun _=>aP (m:=fun _ T=>bB T k 0) (W.level 0) fun b=>aP (eD _).gd fun _=>sM _ _
  have a5:Gd fun _ T=>bnd (mD T) fun t=>ret (⟨iP 2 t,1⟩:Bt):=aP jr.gd fun _=>bR
  have a5C:Cs fun _ T=>bnd (mD T) fun t=>ret (⟨iP 2 t,1⟩:Bt):=jv jr.cs fun _=>bR
  have a6:Gd fun _ T=>bnd (fD T) fun t=>ret (⟨iP 3 t,1⟩:Bt):=aP eT.gd fun _=>bR
  have a6C:Cs fun _ T=>bnd (fD T) fun t=>ret (⟨iP 3 t,1⟩:Bt):=jv eT.cs fun _=>bR
  have cst:∀(T:List Lx) i,dN T i 3=true→i<T.length:=fun _ _=>qZ
  have cT:∀{c:List Lx→Nat→Bool} {m1:Str→vo Bt} {m2:vo Bt},(∀T i,c T i=true→i<T.length)→(∀s,Gd (m1 s))→Cs m2→Cs fun x T i o=>if c T i=true then m1 (txt T i) x T (i+1) o else m2 x T i o:=by
   intro c m1 m2 l h1 h2 x T i o v i' o' e
   try simp only at e
   split at e
   ·rename_i hc
    have:=(h1 _).mono _ _ _ _ _ _ _ e
    exact⟨by omega,l _ _ hc⟩
   ·exact h2 _ _ _ _ _ _ _ e
  have atom:Gd fun _ T=>oV T (k+1):=by
   rw[Ia]
   exact Cu (uJ (qg 2) a0.gd (aax (m1:=fun s _ _=>ret (lit (.mk 3 false 0 s []))) (qg 3) (fun _=>bR) (gM (fG _) bR (gM (fG _) bR (gM (fG _) bR (uJ (qg 1) a5 (uJ (fG _) a1 (uJ (fG _) a2 (gM (fG _) a3 (gM (fG _) a4 a6))))))))))
  have atomC:Cs fun _ T=>oV T (k+1):=by
   rw[Ia]
   exact NW (GZ a0.cs (cT (m1:=fun s _ _=>ret (lit (.mk 3 false 0 s []))) cst (fun _=>bR) (lT (fun _ _=>is_lt) bR (lT (fun _ _=>is_lt) bR (lT (fun _ _=>is_lt) bR (GZ a5C (GZ a1C (GZ a2C (lT (fun _ _=>is_lt) a3 (lT (fun _ _=>is_lt) a4 a6C))))))))))
  refine⟨fun lv=> ?_,fun lv=> ?_,ops,sign,signC,post,postC,dots,atom,atomC⟩
  ·by_cases h5:lv=5
   ·refine(funext fun x=>funext fun T=> ?_:(fun(_:Nat) T=>bB T (k+1) lv)=fun _ T=>iO T k)▸W.sign
    show(if lv=5 then iO T k else bnd (bB T k (lv+1)) (nC T k lv))=_;rw[if_pos h5]
   ·refine(funext fun x=>funext fun T=> ?_:(fun(_:Nat) T=>bB T (k+1) lv)=fun _ T=>bnd (bB T k (lv+1)) (nC T k lv))▸aP (m:=fun _ T=>bB T k (lv+1)) (g:=fun v _ T=>nC T k lv v) (W.level _) fun v=>W.ops lv v
    show(if lv=5 then iO T k else bnd (bB T k (lv+1)) (nC T k lv))=_;rw[if_neg h5]
  ·by_cases h5:lv=5
   ·refine(funext fun x=>funext fun T=> ?_:(fun(_:Nat) T=>bB T (k+1) lv)=fun _ T=>iO T k)▸W.signC
    show(if lv=5 then iO T k else bnd (bB T k (lv+1)) (nC T k lv))=_;rw[if_pos h5]
   ·refine(funext fun x=>funext fun T=> ?_:(fun(_:Nat) T=>bB T (k+1) lv)=fun _ T=>bnd (bB T k (lv+1)) (nC T k lv))▸jv (m:=fun _ T=>bB T k (lv+1)) (g:=fun v _ T=>nC T k lv v) (W.levelC _) fun v=>W.ops lv v
    show(if lv=5 then iO T k else bnd (bB T k (lv+1)) (nC T k lv))=_;rw[if_neg h5]
theorem jX (k:Nat):Gd fun _ T=>gH T k:=aP (m:=fun _ T=>bB T k 0) ((gdx k).level 0) fun _=>bR
theorem XL (k:Nat):Cs fun _ T=>gH T k:=jv (m:=fun _ T=>bB T k 0) ((gdx k).levelC 0) fun _=>bR
theorem Oe {α:Type} {b:Bool} {m1 m2:vo α} (h1:Gd m1) (h2:Gd m2):Gd fun x T=>if b=true then m1 x T else m2 x T:=by
 cases b
 ·exact h2
 ·exact h1
theorem Gb (k:Nat) (l:List (Str×Ex)):Gd fun _ T=>ql T k l:=
 Ug (f:=fun a b=>a&&b) (qg 1) (fG [63]) (m1:=fun _ T=>bnd (mD T) fun v=>bnd (bU T [63]) fun _=>ret (l++[(v,rX)])) (m2:=fun _ T=>bnd (gH T k) fun e=>ret (l++[([],e)]))
  (aP jr.gd fun _=>aP (dV _) fun _=>bR) (aP (jX k) fun _=>bR) (jv jr.cs fun _=>aP (dV _) fun _=>bR) (jv (XL k) fun _=>bR)
theorem abo (k:Nat):Gd fun _ T=>QU T k:=
 aP eT.gd fun _=>aP (fH _) fun _=>aP (m:=fun _ T=>fV T [41] (ql T k) k []) (om (one:=fun l _ T=>ql T k l) (Gb k) k []).gd fun _=>bR
theorem Al (k:Nat) (s:List (Str×Str)×List Ex):Gd fun _ T=>nV T k s:=
 Ug (f:=fun a b=>a&&b) (qg 1) (fG [58]) (m1:=fun _ T=>bnd (mD T) fun v=>bnd (bU T [58]) fun _=>bnd (fD T) fun f=>ret (s.1++[(v,f)],s.2)) (m2:=fun _ T=>bnd (gH T k) fun e=>ret (s.1,s.2++[e]))
  (aP jr.gd fun _=>aP (dV _) fun _=>aP eT.gd fun _=>bR) (aP (jX k) fun _=>bR) (jv jr.cs fun _=>aP (dV _) fun _=>aP eT.gd fun _=>bR) (jv (XL k) fun _=>bR)
theorem BZ (k:Nat) (v:Str):Gd fun _ T=>jY T k v:=
 aP eT.gd fun _=>aP (fH _) fun _=>aP (m:=fun _ T=>fV T [41] (nV T k) k ([],[])) (om (one:=fun l _ T=>nV T k l) (Al k) k ([],[])).gd fun _=>bR
theorem Vk (k:Nat) (v:Str):Cs fun _ T=>jY T k v:=
 jv eT.cs fun _=>aP (fH _) fun _=>aP (m:=fun _ T=>fV T [41] (nV T k) k ([],[])) (om (one:=fun l _ T=>nV T k l) (Al k) k ([],[])).gd fun _=>bR
theorem afT (k:Nat):Gd fun _ T=>Md T k:=
 uJ (qg 1) (m1:=fun _ T=>bnd (mD T) fun v=>bnd (bU T [58]) fun _=>jY T k v) (m2:=fun _ T=>jY T k []) (aP jr.gd fun v=>aP (dV _) fun _=>BZ k v) (BZ k [])
theorem abp (k:Nat):Cs fun _ T=>Md T k:=
 GZ (c:=fun T i=>dN T i 1) (m1:=fun _ T=>bnd (mD T) fun v=>bnd (bU T [58]) fun _=>jY T k v) (m2:=fun _ T=>jY T k []) (jv jr.cs fun v=>aP (dV _) fun _=>BZ k v) (Vk k [])
structure GdC (k:Nat):Prop where
 conds:∀ends acc,Gd fun _ T=>iI T k ends acc
 some:∀ends,Gd fun _ T=>gZ T k ends
 someC:∀ends,Cs fun _ T=>gZ T k ends
 block:Gd fun _ T=>kY T k
 blockC:Cs fun _ T=>kY T k
 alts:∀acc,Gd fun _ T=>qI T k acc
 or:Gd fun _ T=>orM T k
 orC:Cs fun _ T=>orM T k
 acc:Gd fun _ T=>Fb T k
 accC:Cs fun _ T=>Fb T k
 cond:Gd fun _ T=>qG T k
 condC:Cs fun _ T=>qG T k
theorem Et {α:Type}:Cs fun _ _=>(vD:PM α):=fun _ _ _ _ _ _ _ e=>by cases e
theorem gdc:∀k,GdC k
 |0=>⟨fun _ _=>mq,fun _=>mq,fun _=>Et,mq,Et,fun _=>mq,mq,Et,mq,Et,mq,Et⟩
 |k+1=>by
  have W:=gdc k
  have some:∀ends,Gd fun _ T=>gZ T (k+1) ends:=fun ends=>aP (m:=fun _ T=>qG T k) W.cond fun c=>aP (m:=fun _ T=>iI T k ends []) (W.conds ends []) fun _=>bR
  have someC:∀ends,Cs fun _ T=>gZ T (k+1) ends:=fun ends=>jv (m:=fun _ T=>qG T k) W.condC fun c=>aP (m:=fun _ T=>iI T k ends []) (W.conds ends []) fun _=>bR
  have b1:=fun(_:Unit)=>aP (m:=fun _ T=>gZ T k [[41]]) (W.some _) fun l=>aP (eD [41]).gd fun _=>bR (v:=l)
  have block:Gd fun _ T=>kY T (k+1):=aP (fH _) fun u=>b1 u
  have blockC:Cs fun _ T=>kY T (k+1):=jv (og _) fun u=>b1 u
  have alts:∀acc,Gd fun _ T=>qI T (k+1) acc:=fun acc=>aP (m:=fun _ T=>gZ T k [Mc,[41]]) (W.some _) fun l=>aP (xJ Mc) fun b=>Oe (m1:=fun _ T=>qI T k (acc++[l])) (W.alts _) bR
  have o1:Gd fun(_:Nat) T=>bnd (gZ T k [Mc,[41]]) fun l=>bnd (bU T Mc) fun _=>bnd (qI T k [l]) fun a=>bnd (bX T [41]) fun _=>ret (Cd.mk 5 [] [] [] [] [] [] a rX [] [] []):=
   aP (m:=fun _ T=>gZ T k [Mc,[41]]) (W.some _) fun l=>aP (dV _) fun _=>aP (m:=fun _ T=>qI T k [l]) (W.alts _) fun a=>aP (eD _).gd fun _=>bR
  have or:Gd fun _ T=>orM T (k+1):=aP (fH _) fun _=>o1
  have orC:Cs fun _ T=>orM T (k+1):=jv (og _) fun _=>o1
  have a1:Gd fun(_:Nat) T=>bnd (mD T) fun v=>bnd (bU T [58]) fun _=>bnd (fq T oO) fun b=>bnd (if b=true then ret oO else fD T) fun fn=>
   bnd (dJ T [40]) fun _=>bnd (gH T k) fun e=>bnd (bX T [41]) fun _=>bnd (bU T VQ) fun _=>bnd (gZ T k [[41]]) fun l=>bnd (bX T [41]) fun _=>ret (Cd.mk 7 v [] [] [] l [] [] e fn [] []):=
   aP jr.gd fun v=>aP (dV _) fun _=>aP (xJ _) fun b=>aP (m:=fun _ T=>if b=true then ret oO else fD T) (Oe (m1:=fun _ _=>ret oO) bR eT.gd) fun fn=>
    aP (fH _) fun _=>aP (jX k) fun e=>aP (eD _).gd fun _=>aP (dV _) fun _=>aP (m:=fun _ T=>gZ T k [[41]]) (W.some _) fun l=>aP (eD _).gd fun _=>bR
  have acc:Gd fun _ T=>Fb T (k+1):=aP (fH _) fun _=>a1
  have accC:Cs fun _ T=>Fb T (k+1):=jv (og _) fun _=>a1
  have c1:∀n,Gd fun(_:Nat) T=>bnd (kY T k) fun l=>ret (cdL n l):=fun n=>aP (m:=fun _ T=>kY T k) W.block fun _=>bR
  have c2:Gd fun(_:Nat) T=>bnd (dJ T [40]) fun _=>bnd (gZ T k [[59]]) fun l=>bnd (bU T [59]) fun _=>bnd (gZ T k [[41]]) fun m=>bnd (bX T [41]) fun _=>ret (Cd.mk 4 [] [] [] [] l m [] rX [] [] []):=
   aP (fH _) fun _=>aP (m:=fun _ T=>gZ T k [[59]]) (W.some _) fun l=>aP (dV _) fun _=>aP (m:=fun _ T=>gZ T k [[41]]) (W.some _) fun m=>aP (eD _).gd fun _=>bR
  have c3:Gd fun(_:Nat) T=>bnd (dJ T [40]) fun _=>bnd (gH T k) fun e=>bnd (bX T [41]) fun _=>ret (Cd.mk 8 [] [] [] [] [] [] [] e [] [] []):=
   aP (fH _) fun _=>aP (jX k) fun e=>aP (eD _).gd fun _=>bR
  have c4:Gd fun(_:Nat) T=>bnd (mD T) fun v=>bnd (bU T Qy) fun _=>bnd (gH T k) fun e=>ret (Cd.mk 6 v [] [] [] [] [] [] e [] [] []):=aP jr.gd fun v=>aP (dV _) fun _=>aP (jX k) fun e=>bR
  have c4C:Cs fun(_:Nat) T=>bnd (mD T) fun v=>bnd (bU T Qy) fun _=>bnd (gH T k) fun e=>ret (Cd.mk 6 v [] [] [] [] [] [] e [] [] []):=jv jr.cs fun v=>aP (dV _) fun _=>aP (jX k) fun e=>bR
  refine⟨fun ends acc=> ?_,some,someC,block,blockC,alts,or,orC,acc,accC, ?_, ?_⟩
  ·exact uJ (ae5 ends) bR (aP (m:=fun _ T=>qG T k) (g:=fun c _ T=>iI T k ends (acc++[c])) W.cond fun c=>W.conds _ _)
  ·exact gM (fG _) (c1 2) (gM (fG _) (c1 3) (gM (fG _) c2 (uJ (fG _) W.or (gM (fG _) c3 (gM (fG _) W.acc (gM (fG _) (abo k) (Ug (f:=fun a b=>a&& !b) (qg 1) (fG [58]) c4 (afT k) c4C (abp k))))))))
  ·exact lT (fun _ _=>is_lt) (c1 2) (lT (fun _ _=>is_lt) (c1 3) (lT (fun _ _=>is_lt) c2 (GZ (c:=fun T i=>bC T i [40]) W.orC (lT (fun _ _=>is_lt) c3 (lT (fun _ _=>is_lt) W.acc (lT (fun _ _=>is_lt) (abo k) (GZ (c:=fun T i=>dN T i 1&& !bC T (i+1) [58]) c4C (abp k))))))))
theorem OM:Gd fun _ T=>xW T:=by
 refine⟨fun x T i o v i' o' e=> ?_,fun x T U i o v i' o' e hl=> ?_,fun x T U d i o q=> ?_⟩
 ·cases e;omega
 ·cases e;simp only[xW,z8 (show i<T.length by omega)]
 ·simp only[xW,EP q];rfl
theorem Mg (k:Nat) (l:List (Str×Ex)):Gd fun _ T=>iw T k l:=aP eT.gd fun f=>aP (dV _) fun _=>aP (jX k) fun e=>bR
theorem CB (k:Nat):ME fun _ T=>fV T [125] (iw T k) k []:=om (one:=fun l _ T=>iw T k l) (Mg k) k []
theorem CJ {α:Type} {c:Bool} {g:Unit→PM α} {i:Nat} {o:Int}:bnd (uW (!c)) g i o=if c=true then .fail i else g () i o:=by cases c<;>rfl
theorem DT (k:Nat) (least:Bool):Gd fun _ T=>oQ T k least:=by
 refine aP (fH _) (g:=fun _ _ T i o=>if least=true then bnd (uW (!bC T i [125])) (fun _=>fV T [125] (iw T k) k []) i o else fV T [125] (iw T k) k [] i o) fun _=> ?_
 cases least with
 |false=>exact(CB k).gd
 |true=>
  have h:=uJ (fG [125]) KG (CB k).gd
  have e:(fun(_:Nat) T i o=>if true=true then bnd (uW (!bC T i [125])) (fun _=>fV T [125] (iw T k) k []) i o else fV T [125] (iw T k) k [] i o)=fun(_:Nat) T i o=>if bC T i [125]=true then .fail i else fV T [125] (iw T k) k [] i o:=by
   funext x T i o;rw[if_pos rfl];exact CJ
  rw[e];exact h
theorem aaL (a:Act):ME fun _ T=>kZ T a:=zw (f:=fun _=>a) (uj _)
theorem wV (a:Act):Gd fun _ T=>kZ T a:=(aaL a).gd
section
variable (k:Nat)
theorem afV:Gd fun(_:Nat) T=>bnd (xW T) fun t=>bnd (fD T) fun c=>bnd (oQ T k false) fun l=>kZ T ⟨if t=gI then 2 else 1,c,l,rX,[]⟩:=aP OM fun t=>aP eT.gd fun c=>aP (DT k false) fun l=>wV _
theorem afl:Cs fun(_:Nat) T=>bnd (xW T) fun t=>bnd (fD T) fun c=>bnd (oQ T k false) fun l=>kZ T ⟨if t=gI then 2 else 1,c,l,rX,[]⟩:=XR OM fun t=>jv eT.cs fun c=>aP (DT k false) fun l=>wV _
theorem abf:Gd fun(_:Nat) T=>bnd (gH T k) fun e=>bnd (oQ T k true) fun l=>kZ T ⟨3,[],l,e,[]⟩:=aP (jX k) fun e=>aP (DT k true) fun l=>wV _
theorem PO (n:Int):Gd fun(_:Nat) T=>bnd (gH T k) fun e=>kZ T ⟨n,[],[],e,[]⟩:=aP (jX k) fun e=>wV _
theorem aam:Gd fun(_:Nat) T=>bnd (iE T) fun t=>kZ T ⟨5,[],[],rX,t⟩:=aP nA.gd fun e=>wV _
theorem afg:Gd fun(_:Nat) T=>bnd (bU T Mk) fun _=>kZ T ⟨7,[],[],rX,[]⟩:=aP (dV _) fun e=>wV _
theorem aeY:Cs fun(_:Nat) T=>bnd (bU T Mk) fun _=>kZ T ⟨7,[],[],rX,[]⟩:=jv (Af _) fun e=>wV _
theorem I9:(fun(_:Nat) T=>AA T k)=fun(_:Nat) T i o=>if(bC T i oC||bC T i gI)=true then bnd (xW T) (fun t=>bnd (fD T) fun c=>bnd (oQ T k false) fun l=>kZ T ⟨if t=gI then 2 else 1,c,l,rX,[]⟩) i o
 else if bC T i uI=true then bnd (gH T k) (fun e=>bnd (oQ T k true) fun l=>kZ T ⟨3,[],l,e,[]⟩) (i+1) o
 else if bC T i uX=true then bnd (gH T k) (fun e=>kZ T ⟨4,[],[],e,[]⟩) (i+1) o
 else if bC T i yL=true then bnd (iE T) (fun t=>kZ T ⟨5,[],[],rX,t⟩) (i+1) o
 else if bC T i zq=true then bnd (gH T k) (fun e=>kZ T ⟨6,[],[],e,[]⟩) (i+1) o
 else bnd (bU T Mk) (fun _=>kZ T ⟨7,[],[],rX,[]⟩) i o:=by
 funext x T i o
 unfold AA
 by_cases h:bC T i oC=true∨bC T i gI=true
 ·rw[if_pos h,if_pos (by simpa using h)]
 ·have h':¬(bC T i oC||bC T i gI)=true:=by rw[Bool.or_eq_true];exact h
  rw[if_neg h,if_neg h']
theorem ae4:Gd fun _ T=>AA T k:=by
 rw[I9]
 exact uJ (aei (fG _) (fG _)) (afV k) (gM (fG _) (abf k) (gM (fG _) (PO k 4) (gM (fG _) aam (gM (fG _) (PO k 6) afg))))
theorem afd:Cs fun _ T=>AA T k:=by
 rw[I9]
 exact GZ (c:=fun T i=>bC T i oC||bC T i gI) (afl k) (lT (fun _ _=>is_lt) (abf k) (lT (fun _ _=>is_lt) (PO k 4) (lT (fun _ _=>is_lt) aam (lT (fun _ _=>is_lt) (PO k 6) aeY))))
end
def aaC (T:List Lx) (i:Nat):Bool:=match pI (txt T i) with
 |some (some n)=>decide (n≤2147483648)
 |_=>false
theorem adB:Te fun T i=>aaC T i:=⟨fun T U i h=>by simp only[aaC,z8 h],fun T U d i q=>by simp only[aaC,EP q]⟩
theorem aeX (b:Bool):(fun(_:Nat) T i o=>if dN T i 2=true then(match pI (txt T i) with
 |some (some n)=>if n≤2147483648 then .ok (if b=true then -n else n) (i+1) o else .fail i
 |_=> .fail i) else .fail i)=fun(_:Nat) T i o=>if(dN T i 2&&aaC T i)=true then .ok ((fun t=>if b=true then -LZ t else LZ t) (txt T i)) (i+1) o else(.fail i:Hw Int):=by
 funext x T i o
 by_cases h:dN T i 2=true
 ·rw[if_pos h,h,Bool.true_and]
  obtain⟨x,hp⟩:∃x,pI (txt T i)=x:=⟨_,rfl⟩
  simp only[aaC,LZ,hp]
  rcases x with _ |_ |n
  ·rfl
  ·rfl
  ·simp only
   by_cases hn:n≤2147483648
   ·rw[if_pos hn,if_pos (decide_eq_true hn)]
   ·rw[if_neg hn,if_neg (by simpa using hn)]
 ·rw[if_neg h,if_neg (by simp[h])]
theorem Ux:Gd fun _ T=>Jl T:=by
 refine aP (xJ _) (g:=fun b _ T i o=>if dN T i 2=true then(match pI (txt T i) with
  |some (some n)=>if n≤2147483648 then .ok (if b=true then -n else n) (i+1) o else .fail i
  |_=> .fail i) else .fail i) fun b=> ?_
 rw[aeX]
 exact(yP (PN (qg 2) adB) (fun T i h=>qZ (by simp only[Bool.and_eq_true] at h;exact h.1)) (fun t=>if b=true then -LZ t else LZ t)).gd
theorem wY:∀(k:Nat) (r:Ay),Gd fun _ T=>jw T k r
 |0,_=>mq
 |k+1,r=>gM (fG _) (m1:=fun _ _=>ret r) bR (gM (fG _) (m1:=fun _ T=>bnd (Jl T) fun n=>jw T k {r with sal:=n}) (aP Ux fun n=>wY k _)
  (gM (fG _) (m1:=fun _ T=>bnd (iE T) fun t=>jw T k {r with group:=t}) (aP nA.gd fun n=>wY k _) (gM (fG _) (m1:=fun _ T=>bnd (iE T) fun t=>jw T k {r with flow:=t}) (aP nA.gd fun n=>wY k _)
  (gM (fG _) (m1:=fun _ T=>jw T k {r with noloop:=true}) (wY k _) (m2:=fun _ T=>bnd (bU T Wy) fun _=>jw T k {r with lock:=true}) (aP (dV _) fun n=>wY k _)))))
theorem IG (k0:Nat):∀(k:Nat) (acc:List Act),ME fun _ T=>pY T k0 k acc
 |0,_=>⟨mq.mono,Et,fun _ _ _ _ _ _ _ _ e=>(by cases e),mq.sf⟩
 |k+1,acc=>by
  have h2:=mI (m:=fun _ T=>AA T k0) (g:=fun a _ T=>pY T k0 k (acc++[a])) (ae4 k0) fun a=>IG k0 k _
  have h:=gM (fG wG) (m1:=fun _ _=>ret acc) bR h2.gd
  refine⟨h.mono,lT (m1:=fun _ _=>ret acc) (fun _ _=>is_lt) bR h2.cs,fun x T U i o v i' o' e=> ?_,h.sf⟩
  have e':(if bC T i wG=true then(.ok acc (i+1) o:Hw (List Act)) else bnd (AA T k0) (fun a=>pY T k0 k (acc++[a])) i o)= .ok v i' o':=e
  show(if bC (T++U) i wG=true then(.ok acc (i+1) o:Hw (List Act)) else bnd (AA (T++U) k0) (fun a=>pY (T++U) k0 k (acc++[a])) i o)= .ok v i' o'
  by_cases hc:bC T i wG=true
  ·rw[if_pos hc] at e'
   rw[(fG wG).loc T U i (is_lt hc),if_pos hc];exact e'
  ·rw[if_neg hc] at e'
   have:=h2.cs x T i o v i' o' e'
   rw[(fG wG).loc T U i this.2,if_neg hc]
   exact h2.loc x T U i o v i' o' e'
theorem IL (k:Nat):ME fun _ T=>wD T k:=
 mI nA.gd fun nm=>mI (m:=fun _ T=>jw T k ⟨nm,0,[],[],false,false,[],[]⟩) (wY k _) fun r=>mI (m:=fun _ T=>iI T k [yM] []) ((gdc k).conds _ _) fun w=>mI (dV _) fun _=>
  zw (m:=fun _ T=>pY T k k []) (f:=fun t=>{r with whn:=w,thn:=t}) (IG k k [])
theorem Ej (l:List Str):Gd fun _ T=>pR T l:=aP jr.gd fun _=>bR
theorem EL (k:Nat):ME fun _ T=>oK T k:=
 mI eT.gd fun nm=>mI (fH _) fun _=>mI (m:=fun _ T=>fV T [41] (pR T) k []) (om (one:=fun l _ T=>pR T l) Ej k []).gd fun ps=>mI (m:=fun _ T=>iI T k [wG] []) ((gdc k).conds _ _) fun w=>
  zw (f:=fun _=>(⟨nm,ps,w⟩:Ju)) (uj _)
def vC (nm:Str) (T:List Lx):PM BR:=fun i o=>if bC T i RO=true then .ok ⟨nm,2,[]⟩ (i+1) o
 else if bC T i GU=true then .ok ⟨nm,1,[]⟩ (i+1) o
 else if bC T i G5=true then .ok ⟨nm,3,[]⟩ (i+1) o
 else if bC T i oO=true then .ok ⟨nm,4,[]⟩ (i+1) o
 else if bC T i Rj=true then .ok ⟨nm,0,[]⟩ (i+1) o
 else bnd (bU T Z5) (fun _=>bnd (fD T) fun c=>ret ⟨nm,5,c⟩) i o
theorem ML (nm:Str):Gd fun _ T=>vC nm T:=
 gM (fG RO) (m1:=fun _ _=>ret (⟨nm,2,[]⟩:BR)) bR (gM (fG GU) (m1:=fun _ _=>ret (⟨nm,1,[]⟩:BR)) bR (gM (fG G5) (m1:=fun _ _=>ret (⟨nm,3,[]⟩:BR)) bR
  (gM (fG oO) (m1:=fun _ _=>ret (⟨nm,4,[]⟩:BR)) bR (gM (fG Rj) (m1:=fun _ _=>ret (⟨nm,0,[]⟩:BR)) bR (aP (dV Z5) (g:=fun _ _ T=>bnd (fD T) fun c=>ret (⟨nm,5,c⟩:BR)) fun _=>aP eT.gd fun c=>bR)))))
theorem DC:Gd fun _ T=>oJ T:=aP eT.gd (g:=fun nm _ T=>bnd (bU T [58]) fun _=>vC nm T) fun nm=>aP (dV _) (g:=fun _ _ T=>vC nm T) fun _=>ML nm
theorem Sw:Cs fun _ T=>oJ T:=jv eT.cs (g:=fun nm _ T=>bnd (bU T [58]) fun _=>vC nm T) fun nm=>aP (dV _) (g:=fun _ _ T=>vC nm T) fun _=>ML nm
theorem vN:∀(k:Nat) (first:Bool) (acc:List BR),Gd fun _ T=>gF T k first acc
 |0,_,_=>mq
 |k+1,true,acc=>uJ (fG _) bR (aP (g:=fun f _ T=>gF T k false (acc++[f])) DC fun f=>vN k false _)
 |k+1,false,acc=>gM (fG _) (aP (g:=fun f _ T=>gF T k false (acc++[f])) DC fun f=>vN k false _) (uJ Qx (aP (g:=fun f _ T=>gF T k false (acc++[f])) DC fun f=>vN k false _) bR)
theorem QW:Gd fun _ T=>JI T:=aP (xJ _) fun b=>Oe (m1:=fun _ T=>fD T) eT.gd bR
theorem Fa (k:Nat):ME fun _ T=>qM T k:=
 mI eT.gd fun nm=>mI QW fun su=>mI (fH _) fun _=>mI (m:=fun _ T=>gF T k true []) (vN k true []) fun fs=>zw (f:=fun _=>(⟨nm,su,fs⟩:Cls)) (eD _)
def Tt {α:Type} (R:Nat) (m:vo α):Prop:=∀x T i o,T.length-i≤R→m x T i o≠ .out
section
variable {α β:Type} {R:Nat}
theorem dW {v:α}:Tt R fun _ _=>ret v:=fun _ _ _ _ _ e=>by cases e
theorem adK:Tt R fun x _=>(X8 x:PM α):=fun _ _ _ _ _ e=>by cases e
theorem aQ {m:vo α} {g:α→vo β} (h:Tt R m) (hm:Gd m) (k:∀v,Tt R (g v)):Tt R fun x T=>bnd (m x T) fun v=>g v x T:=by
 intro x T i o l e
 simp only at e
 unfold bnd at e
 cases e1:m x T i o with
 |ok w i1 o1=>
  rw[e1] at e
  have:=hm.mono _ _ _ _ _ _ _ e1
  exact k w x T i1 o1 (by omega) e
 |fail y=>rw[e1] at e;cases e
 |out=>exact h x T i o l e1
theorem mJ {m:vo α} {g:α→vo β} (h:Tt R m) (hm:Cs m) (k:0<R→∀v,Tt (R-1) (g v)):Tt R fun x T=>bnd (m x T) fun v=>g v x T:=by
 intro x T i o l e
 simp only at e
 unfold bnd at e
 cases e1:m x T i o with
 |ok w i1 o1=>
  rw[e1] at e
  have:=hm _ _ _ _ _ _ _ e1
  exact k (by omega) w x T i1 o1 (by omega) e
 |fail y=>rw[e1] at e;cases e
 |out=>exact h x T i o l e1
theorem y8 {c:List Lx→Nat→Bool} {m1 m2:vo α} (h1:Tt R m1) (h2:Tt R m2):Tt R fun x T i o=>if c T i=true then m1 x T i o else m2 x T i o:=by
 intro x T i o l e
 simp only at e
 split at e
 ·exact h1 _ _ _ _ l e
 ·exact h2 _ _ _ _ l e
theorem gL {c:List Lx→Nat→Bool} {m1 m2:vo α} (lt:∀T i,c T i=true→i<T.length) (h1:0<R→Tt (R-1) m1) (h2:Tt R m2):Tt R fun x T i o=>if c T i=true then m1 x T (i+1) o else m2 x T i o:=by
 intro x T i o l e
 simp only at e
 split at e
 ·rename_i hc
  have:=lt _ _ hc
  exact h1 (by omega) _ _ _ _ (by omega) e
 ·exact h2 _ _ _ _ l e
theorem abQ {c:List Lx→Nat→Bool} {m1:Str→vo α} {m2:vo α} (lt:∀T i,c T i=true→i<T.length) (h1:0<R→∀s,Tt (R-1) (m1 s)) (h2:Tt R m2):Tt R fun x T i o=>if c T i=true then m1 (txt T i) x T (i+1) o else m2 x T i o:=by
 intro x T i o l e
 simp only at e
 split at e
 ·rename_i hc
  have:=lt _ _ hc
  exact h1 (by omega) _ _ _ _ _ (by omega) e
 ·exact h2 _ _ _ _ l e
theorem Dn {m:vo α} (h:Tt R m):Tt R fun _ T i o=>m i T i o:=fun x T i o l=>h _ _ _ _ l
theorem Tp {b:Bool} {m1 m2:vo α} (h1:Tt R m1) (h2:Tt R m2):Tt R fun x T=>if b=true then m1 x T else m2 x T:=by
 cases b
 ·exact h2
 ·exact h1
theorem NQ (w:Str):Tt R fun _ T=>fq T w:=fun x T i o _ e=>by simp only[fq] at e;split at e<;>cases e
theorem jk (w:Str):Tt R fun _ T=>bU T w:=fun x T i o _ e=>by simp only[Pp] at e;split at e<;>cases e
theorem nE:Tt R fun _ T=>fD T:=fun x T i o _ e=>by simp only[fD] at e;split at e<;>cases e
theorem Bh:Tt R fun _ T=>mD T:=fun x T i o _ e=>by simp only[mD] at e;split at e<;>cases e
theorem zU:Tt R fun _ T=>iE T:=fun x T i o _ e=>by simp only[iE] at e;split at e<;>cases e
theorem ac6:Tt R fun _ T=>xW T:=fun x T i o _ e=>by cases e
theorem Qo:Tt R fun x _=>iy x:=fun x T i o _ e=>by simp only[iy] at e;split at e<;>cases e
theorem QD:Tt R fun _ _=>ku:=fun x T i o _ e=>by cases e
theorem jG (w:Str):Tt R fun _ T=>dJ T w:=Dn (m:=fun x T=>bnd (bU T w) fun _=>iy x) (aQ (jk w) (dV w) fun _=>Qo)
theorem lD (w:Str):Tt R fun _ T=>bX T w:=aQ (jk w) (dV w) fun _=>QD
theorem zM (e:Ex) (l:List Bt):Tt R fun x _=>fZ x e l:=by
 unfold fZ
 split
 ·exact adK
 ·exact dW
end
section
variable {σ:Type}
theorem SN {w:Str} {one:σ→vo σ} (g:∀s,Gd (one s)):∀(k R:Nat) (s:σ),(∀R',R'≤R→∀s,Tt R' (one s))→R+1≤k→Tt R fun x T=>rT T w (fun s=>one s x T) k false s
 |0,R,s,h,hk=>by omega
 |k+1,R,s,h,hk=>gL (c:=fun T i=>bC T i [44]) (fun _ _=>is_lt) (m1:=fun x T=>bnd (one s x T) fun v=>rT T w (fun s=>one s x T) k false v) (fun hR=>aQ (h _ (by omega) s) (g s) fun v=>SN g k (R-1) v (fun R' l=>h R' (by omega)) (by omega)) dW
theorem Dk {w:Str} {one:σ→vo σ} (g:∀s,Gd (one s)) {k R:Nat} {s:σ} (h:∀R',R'≤R→∀s,Tt R' (one s)) (hk:R+2≤k):Tt R fun x T=>fV T w (fun s=>one s x T) k s:=by
 obtain⟨k,rfl⟩:∃j,k=j+1:=⟨k-1,by omega⟩
 have h1:Tt R fun x T=>rT T w (fun s=>one s x T) (k+1) true s:=
  y8 (c:=fun T i=>bC T i w) dW (aQ (h R (Nat.le_refl _) s) (g s) fun v=>SN g k R v h (by omega))
 exact aQ h1 (Dt g (k+1) true s) fun v=>aQ (lD w) (eD w).gd fun _=>dW
end
structure TtX (k:Nat):Prop where
 level:∀R lv,lv≤5→20*R+13≤k+lv→Tt R fun _ T=>bB T k lv
 ops:∀R lv e,lv≤4→20*R+3≤k→Tt R fun _ T=>nC T k lv e
 sign:∀R,20*R+7≤k→Tt R fun _ T=>iO T k
 post:∀R,20*R+6≤k→Tt R fun _ T=>qH T k
 dots:∀R e,20*R+1≤k→Tt R fun _ T=>nQ T k e
 atom:∀R,20*R+5≤k→Tt R fun _ T=>oV T k
theorem ttx:∀k,TtX k
 |0=>⟨fun R lv _ h=>by omega,fun R lv e _ h=>by omega,fun R h=>by omega,fun R h=>by omega,fun R e h=>by omega,fun R h=>by omega⟩
 |k+1=>by
  have W:=ttx k
  have G:=gdx k
  have lev:∀R,0<R→20*R+5≤k+1→Tt (R-1) fun _ T=>bB T k 0:=fun R h0 h=>W.level (R-1) 0 (by omega) (by omega)
  refine⟨fun R lv hl hk=> ?_,fun R lv e hl hk=> ?_,fun R hk=> ?_,fun R hk=> ?_,fun R e hk=> ?_,fun R hk=> ?_⟩
  ·by_cases h5:lv=5
   ·refine(funext fun x=>funext fun T=> ?_:(fun(_:Nat) T=>bB T (k+1) lv)=fun _ T=>iO T k)▸W.sign R (by omega)
    show(if lv=5 then iO T k else bnd (bB T k (lv+1)) (nC T k lv))=_;rw[if_pos h5]
   ·refine(funext fun x=>funext fun T=> ?_:(fun(_:Nat) T=>bB T (k+1) lv)=fun _ T=>bnd (bB T k (lv+1)) (nC T k lv))▸aQ (m:=fun _ T=>bB T k (lv+1)) (g:=fun v _ T=>nC T k lv v) (W.level R _ (by omega) (by omega)) (G.level _) fun v=>W.ops R lv v (by omega) (by omega)
    show(if lv=5 then iO T k else bnd (bB T k (lv+1)) (nC T k lv))=_;rw[if_neg h5]
  ·have h:=Dn (abQ (R:=R) (c:=fun T i=>opB T i lv) (m1:=fun s x T=>bnd (bB T k (lv+1)) (fun b=>bnd (fZ x (iP ((vK lv s).getD 0) []) [e,b]) fun e'=>if lv=2 then ret e' else nC T k lv e')) (m2:=fun _ _=>ret e) (fun _ _=>aeA)
    (fun h0 s=>aQ (m:=fun _ T=>bB T k (lv+1)) (W.level _ _ (by omega) (by omega)) (G.level _) fun b=>aQ (zM _ _) (sM _ _) (g:=fun e' _ T=>if lv=2 then ret e' else nC T k lv e') fun e'=>by
      by_cases h2:lv=2
      ·simp only[if_pos h2];exact dW
      ·simp only[if_neg h2];exact W.ops _ lv e' hl (by omega)) dW)
   refine(funext fun x=>funext fun T=>funext fun i=>funext fun o=> ?_:(fun(_:Nat) T=>nC T (k+1) lv e)=_)▸h
   exact TB
  ·have s1:∀op,0<R→Tt (R-1) fun x T=>bnd (iy x) fun _=>bnd (iO T k) fun e=>bnd ku fun _=>fZ x (iP op []) [e]:=fun op h0=>aQ Qo Dm fun _=>aQ (W.sign _ (by omega)) G.sign fun e=>aQ QD Db fun _=>zM _ _
   exact Dn (m:=fun x T i o=>if bC T i [45]=true then bnd (iy x) (fun _=>bnd (iO T k) fun e=>bnd ku fun _=>fZ x (iP 6 []) [e]) (i+1) o
    else if bC T i [33]=true then bnd (iy x) (fun _=>bnd (iO T k) fun e=>bnd ku fun _=>fZ x (iP 7 []) [e]) (i+1) o else qH T k i o) (gL (fun _ _=>is_lt) (s1 6) (gL (fun _ _=>is_lt) (s1 7) (W.post _ (by omega))))
  ·exact aQ (m:=fun _ T=>oV T k) (g:=fun v _ T=>nQ T k v) (W.atom _ (by omega)) G.atom fun v=>W.dots _ v (by omega)
  ·exact Dn (m:=fun x T i o=>if bC T i [46]=true then bnd (fD T) (fun t=>bnd (fZ x (iP 4 t) [e]) (nQ T k)) (i+1) o else .ok e i o)
    (gL (fun _ _=>is_lt) (fun h0=>aQ nE eT.gd fun t=>aQ (zM _ _) (sM _ _) (g:=fun e' _ T=>nQ T k e') fun e'=>W.dots _ e' (by omega)) dW)
  ·
   have a0:Tt R fun _ T i o=>if(dN T i 2&&UU T i)=true then .ok (lit (.mk 2 false (LZ (txt T i)) [] [])) (i+1) o else(.fail i:Hw Bt):=fun x T i o _ e=>by simp only at e;split at e<;>cases e
   have L0:∀R',R'+1≤R→Tt R' fun _ T=>bB T k 0:=fun R' h=>W.level R' 0 (by omega) (by omega)
   have a1:Tt R fun _ T=>bnd (dJ T [40]) fun _=>bnd (bB T k 0) fun e=>bnd (bX T [41]) fun _=>ret e:=mJ (jG _) (og _) fun h0 _=>aQ (m:=fun _ T=>bB T k 0) (L0 _ (by omega)) (G.level 0) fun e=>aQ (lD _) (eD _).gd fun _=>dW
   have li:0<R→Tt (R-1) fun _ T=>fV T [93] (fun l=>bnd (bB T k 0) fun b=>ret (l++[b])) k []:=fun h0=>Dk (one:=fun l _ T=>bnd (bB T k 0) fun b=>ret (l++[b])) (fun l=>aP (m:=fun _ T=>bB T k 0) (G.level 0) fun b=>bR)
    (fun R' l s=>aQ (m:=fun _ T=>bB T k 0) (L0 _ (by omega)) (G.level 0) fun b=>dW) (by omega)
   have a2:Tt R fun x T=>bnd (dJ T [91]) fun _=>bnd (fV T [93] (fun l=>bnd (bB T k 0) fun b=>ret (l++[b])) k []) fun l=>fZ x (iP 5 []) l:=mJ (jG _) (og _) fun h0 _=>aQ (li h0) (om (one:=fun l _ T=>bnd (bB T k 0) fun b=>ret (l++[b])) (fun l=>aP (m:=fun _ T=>bB T k 0) (G.level 0) fun b=>bR) k []).gd fun l=>zM _ _
   have a3:0<R→Tt (R-1) fun x T=>bnd (dJ T [40]) fun _=>bnd (bB T k 0) fun e=>bnd (bX T [41]) fun _=>fZ x (iP 21 []) [e]:=fun h0=>aQ (jG _) (fH _) fun _=>aQ (m:=fun _ T=>bB T k 0) (L0 _ (by omega)) (G.level 0) fun e=>aQ (lD _) (eD _).gd fun _=>zM _ _
   have a4:0<R→Tt (R-1) fun x T=>bnd (dJ T [40]) fun _=>bnd (bB T k 0) fun a=>bnd (bU T [44]) fun _=>bnd (bB T k 0) fun b=>bnd (bX T [41]) fun _=>fZ x (iP 22 []) [a,b]:=fun h0=>aQ (jG _) (fH _) fun _=>aQ (m:=fun _ T=>bB T k 0) (L0 _ (by omega)) (G.level 0) fun e=>aQ (jk _) (dV _) fun _=>aQ (m:=fun _ T=>bB T k 0) (L0 _ (by omega)) (G.level 0) fun b=>aQ (lD _) (eD _).gd fun _=>zM _ _
   have a5:Tt R fun _ T=>bnd (mD T) fun t=>ret (⟨iP 2 t,1⟩:Bt):=aQ Bh jr.gd fun _=>dW
   have a6:Tt R fun _ T=>bnd (fD T) fun t=>ret (⟨iP 3 t,1⟩:Bt):=aQ nE eT.gd fun _=>dW
   rw[Ia]
   exact Dn (y8 (c:=fun T i=>dN T i 2) a0 (abQ (c:=fun T i=>dN T i 3) (m1:=fun s _ _=>ret (lit (.mk 3 false 0 s []))) (fun _ _=>qZ) (fun _ _=>dW) (gL (m1:=fun _ _=>ret (lit (.mk 1 true 0 [] []))) (fun _ _=>is_lt) (fun _=>dW) (gL (m1:=fun _ _=>ret (lit (.mk 1 false 0 [] []))) (fun _ _=>is_lt) (fun _=>dW)
    (gL (m1:=fun _ _=>ret (lit O8)) (fun _ _=>is_lt) (fun _=>dW) (y8 (c:=fun T i=>dN T i 1) a5 (y8 (c:=fun T i=>bC T i [40]) a1 (y8 (c:=fun T i=>bC T i [91]) a2 (gL (fun _ _=>is_lt) a3 (gL (fun _ _=>is_lt) a4 a6))))))))))
theorem uT {R k:Nat} (h:20*R+13≤k):Tt R fun _ T=>gH T k:=aQ (m:=fun _ T=>bB T k 0) ((ttx k).level R 0 (by omega) (by omega)) ((gdx k).level 0) fun _=>dW
theorem VH {α:Type} {R:Nat} {a b:List Lx→Nat→Bool} {f:Bool→Bool→Bool} {m1 m2:vo α} (h1:Tt R m1) (h2:Tt R m2):Tt R fun x T i o=>if f (a T i) (b T (i+1))=true then m1 x T i o else m2 x T i o:=by
 intro x T i o l e
 simp only at e
 split at e
 ·exact h1 _ _ _ _ l e
 ·exact h2 _ _ _ _ l e
section
variable {R k:Nat}
theorem Y2 (h:20*R+13≤k) (l:List (Str×Ex)):Tt R fun _ T=>ql T k l:=
 VH (f:=fun a b=>a&&b) (a:=fun T i=>dN T i 1) (b:=fun T i=>bC T i [63]) (m1:=fun _ T=>bnd (mD T) fun v=>bnd (bU T [63]) fun _=>ret (l++[(v,rX)])) (m2:=fun _ T=>bnd (gH T k) fun e=>ret (l++[([],e)]))
  (aQ Bh jr.gd fun _=>aQ (jk _) (dV _) fun _=>dW) (aQ (uT h) (jX k) fun _=>dW)
theorem afW (h:20*R+13≤k):Tt R fun _ T=>QU T k:=
 aQ nE eT.gd fun _=>aQ (jG _) (fH _) fun _=>aQ (m:=fun _ T=>fV T [41] (ql T k) k []) (Dk (one:=fun l _ T=>ql T k l) (Gb k) (fun R' l s=>Y2 (by omega) s) (by omega)) (om (one:=fun l _ T=>ql T k l) (Gb k) k []).gd fun _=>dW
theorem Yp (h:20*R+13≤k) (s:List (Str×Str)×List Ex):Tt R fun _ T=>nV T k s:=
 VH (f:=fun a b=>a&&b) (a:=fun T i=>dN T i 1) (b:=fun T i=>bC T i [58]) (m1:=fun _ T=>bnd (mD T) fun v=>bnd (bU T [58]) fun _=>bnd (fD T) fun f=>ret (s.1++[(v,f)],s.2)) (m2:=fun _ T=>bnd (gH T k) fun e=>ret (s.1,s.2++[e]))
  (aQ Bh jr.gd fun _=>aQ (jk _) (dV _) fun _=>aQ nE eT.gd fun _=>dW) (aQ (uT h) (jX k) fun _=>dW)
theorem La (h:20*R+13≤k) (v:Str):Tt R fun _ T=>jY T k v:=
 aQ nE eT.gd fun _=>aQ (jG _) (fH _) fun _=>aQ (m:=fun _ T=>fV T [41] (nV T k) k ([],[])) (Dk (one:=fun l _ T=>nV T k l) (Al k) (fun R' l s=>Yp (by omega) s) (by omega)) (om (one:=fun l _ T=>nV T k l) (Al k) k ([],[])).gd fun _=>dW
theorem aeT (h:20*R+13≤k):Tt R fun _ T=>Md T k:=
 y8 (c:=fun T i=>dN T i 1) (m1:=fun _ T=>bnd (mD T) fun v=>bnd (bU T [58]) fun _=>jY T k v) (m2:=fun _ T=>jY T k []) (aQ Bh jr.gd fun v=>aQ (jk _) (dV _) fun _=>La h v) (La h [])
end
structure TtC (k:Nat):Prop where
 conds:∀R ends acc,20*R+16≤k→Tt R fun _ T=>iI T k ends acc
 some:∀R ends,20*R+16≤k→Tt R fun _ T=>gZ T k ends
 block:∀R,20*R+1≤k→Tt R fun _ T=>kY T k
 alts:∀R acc,20*R+17≤k→Tt R fun _ T=>qI T k acc
 or:∀R,20*R+14≤k→Tt R fun _ T=>orM T k
 acc:∀R,20*R+14≤k→Tt R fun _ T=>Fb T k
 cond:∀R,20*R+15≤k→Tt R fun _ T=>qG T k
theorem ttc:∀k,TtC k
 |0=>⟨fun R _ _ h=>by omega,fun R _ h=>by omega,fun R h=>by omega,fun R _ h=>by omega,fun R h=>by omega,fun R h=>by omega,fun R h=>by omega⟩
 |k+1=>by
  have W:=ttc k
  have G:=gdc k
  refine⟨fun R ends acc hk=> ?_,fun R ends hk=> ?_,fun R hk=> ?_,fun R acc hk=> ?_,fun R hk=> ?_,fun R hk=> ?_,fun R hk=> ?_⟩
  ·exact y8 (c:=fun T i=>ends.any fun w=>bC T i w) dW (mJ (m:=fun _ T=>qG T k) (g:=fun c _ T=>iI T k ends (acc++[c])) (W.cond R (by omega)) G.condC fun h0 c=>W.conds _ _ _ (by omega))
  ·exact mJ (m:=fun _ T=>qG T k) (g:=fun c _ T=>bnd (iI T k ends []) fun l=>ret (c :: l)) (W.cond R (by omega)) G.condC fun h0 c=>aQ (m:=fun _ T=>iI T k ends []) (W.conds _ _ _ (by omega)) (G.conds ends []) fun _=>dW
  ·exact mJ (jG _) (og _) fun h0 _=>aQ (m:=fun _ T=>gZ T k [[41]]) (W.some _ _ (by omega)) (G.some _) fun l=>aQ (lD _) (eD _).gd fun _=>dW
  ·exact mJ (m:=fun _ T=>gZ T k [Mc,[41]]) (W.some _ _ (by omega)) (G.someC _) fun h0 l=>aQ (NQ Mc) (xJ Mc) fun b=>Tp (m1:=fun _ T=>qI T k (acc++[l])) (W.alts _ _ (by omega)) dW
  ·exact mJ (jG _) (og _) fun h0 _=>mJ (m:=fun _ T=>gZ T k [Mc,[41]]) (W.some _ _ (by omega)) (G.someC _) fun h1 l=>aQ (jk _) (dV _) fun _=>aQ (m:=fun _ T=>qI T k [l]) (W.alts _ _ (by omega)) (G.alts _) fun a=>aQ (lD _) (eD _).gd fun _=>dW
  ·exact mJ (jG _) (og _) fun h0 _=>aQ Bh jr.gd fun v=>aQ (jk _) (dV _) fun _=>aQ (NQ _) (xJ _) fun b=>aQ (m:=fun _ T=>if b=true then ret oO else fD T) (Tp (m1:=fun _ _=>ret oO) dW nE) (Oe (m1:=fun _ _=>ret oO) bR eT.gd) fun fn=>
    aQ (jG _) (fH _) fun _=>aQ (uT (by omega)) (jX k) fun e=>aQ (lD _) (eD _).gd fun _=>aQ (jk _) (dV _) fun _=>aQ (m:=fun _ T=>gZ T k [[41]]) (W.some _ _ (by omega)) (G.some _) fun l=>aQ (lD _) (eD _).gd fun _=>dW
  ·have c1:∀n,0<R→Tt (R-1) fun(_:Nat) T=>bnd (kY T k) fun l=>ret (cdL n l):=fun n h0=>aQ (m:=fun _ T=>kY T k) (W.block _ (by omega)) G.block fun _=>dW
   have c2:0<R→Tt (R-1) fun(_:Nat) T=>bnd (dJ T [40]) fun _=>bnd (gZ T k [[59]]) fun l=>bnd (bU T [59]) fun _=>bnd (gZ T k [[41]]) fun m=>bnd (bX T [41]) fun _=>ret (Cd.mk 4 [] [] [] [] l m [] rX [] [] []):=fun h0=>
    aQ (jG _) (fH _) fun _=>aQ (m:=fun _ T=>gZ T k [[59]]) (W.some _ _ (by omega)) (G.some _) fun l=>aQ (jk _) (dV _) fun _=>aQ (m:=fun _ T=>gZ T k [[41]]) (W.some _ _ (by omega)) (G.some _) fun m=>aQ (lD _) (eD _).gd fun _=>dW
   have c3:0<R→Tt (R-1) fun(_:Nat) T=>bnd (dJ T [40]) fun _=>bnd (gH T k) fun e=>bnd (bX T [41]) fun _=>ret (Cd.mk 8 [] [] [] [] [] [] [] e [] [] []):=fun h0=>
    aQ (jG _) (fH _) fun _=>aQ (uT (by omega)) (jX k) fun e=>aQ (lD _) (eD _).gd fun _=>dW
   have c4:Tt R fun(_:Nat) T=>bnd (mD T) fun v=>bnd (bU T Qy) fun _=>bnd (gH T k) fun e=>ret (Cd.mk 6 v [] [] [] [] [] [] e [] [] []):=aQ Bh jr.gd fun v=>aQ (jk _) (dV _) fun _=>aQ (uT (by omega)) (jX k) fun e=>dW
   exact gL (fun _ _=>is_lt) (c1 2) (gL (fun _ _=>is_lt) (c1 3) (gL (fun _ _=>is_lt) c2 (y8 (c:=fun T i=>bC T i [40]) (W.or _ (by omega)) (gL (fun _ _=>is_lt) c3 (gL (fun _ _=>is_lt) (fun h0=>W.acc _ (by omega)) (gL (fun _ _=>is_lt) (fun h0=>afW (by omega)) (VH (f:=fun a b=>a&& !b) (a:=fun T i=>dN T i 1) (b:=fun T i=>bC T i [58]) c4 (aeT (by omega)))))))))
section
variable {R k:Nat}
theorem Yi (h:20*R+13≤k) (l:List (Str×Ex)):Tt R fun _ T=>iw T k l:=aQ nE eT.gd fun f=>aQ (jk _) (dV _) fun _=>aQ (uT h) (jX k) fun e=>dW
theorem Xp (h:20*R+13≤k):Tt R fun _ T=>fV T [125] (iw T k) k []:=Dk (one:=fun l _ T=>iw T k l) (Mg k) (fun R' l s=>Yi (by omega) s) (by omega)
theorem Wo (h:20*R+13≤k) (least:Bool):Tt R fun _ T=>oQ T k least:=by
 have g:Gd fun(_:Nat) T i o=>if least=true then bnd (uW (!bC T i [125])) (fun _=>fV T [125] (iw T k) k []) i o else fV T [125] (iw T k) k [] i o:=by
  cases least with
  |false=>exact(CB k).gd
  |true=>
   have h:=uJ (fG [125]) KG (CB k).gd
   have e:(fun(_:Nat) T i o=>if true=true then bnd (uW (!bC T i [125])) (fun _=>fV T [125] (iw T k) k []) i o else fV T [125] (iw T k) k [] i o)=fun(_:Nat) T i o=>if bC T i [125]=true then .fail i else fV T [125] (iw T k) k [] i o:=by
    funext x T i o;rw[if_pos rfl];exact CJ
   rw[e];exact h
 refine aQ (jG _) (fH _) (g:=fun _ _ T i o=>if least=true then bnd (uW (!bC T i [125])) (fun _=>fV T [125] (iw T k) k []) i o else fV T [125] (iw T k) k [] i o) fun _=> ?_
 intro x T i o l e
 cases least with
 |false=>exact Xp h x T i o l e
 |true=>
  have e:bnd (uW (!bC T i [125])) (fun _=>fV T [125] (iw T k) k []) i o= .out:=e
  rw[CJ] at e
  split at e
  ·cases e
  ·exact Xp h x T i o l e
theorem Da (a:Act):Tt R fun _ T=>kZ T a:=aQ (jk _) (dV _) fun _=>dW
theorem afU (h:20*R+13≤k):Tt R fun _ T=>AA T k:=by
 rw[I9]
 have i1:Tt R fun(_:Nat) T=>bnd (xW T) fun t=>bnd (fD T) fun c=>bnd (oQ T k false) fun l=>kZ T ⟨if t=gI then 2 else 1,c,l,rX,[]⟩:=aQ ac6 OM fun t=>aQ nE eT.gd fun c=>aQ (Wo h false) (DT k false) fun l=>Da _
 have i2:0<R→Tt (R-1) fun(_:Nat) T=>bnd (gH T k) fun e=>bnd (oQ T k true) fun l=>kZ T ⟨3,[],l,e,[]⟩:=fun h0=>aQ (uT (by omega)) (jX k) fun e=>aQ (Wo (by omega) true) (DT k true) fun l=>Da _
 have i3:∀n,0<R→Tt (R-1) fun(_:Nat) T=>bnd (gH T k) fun e=>kZ T ⟨n,[],[],e,[]⟩:=fun n h0=>aQ (uT (by omega)) (jX k) fun e=>Da _
 have i4:0<R→Tt (R-1) fun(_:Nat) T=>bnd (iE T) fun t=>kZ T ⟨5,[],[],rX,t⟩:=fun h0=>aQ zU nA.gd fun e=>Da _
 have i5:Tt R fun(_:Nat) T=>bnd (bU T Mk) fun _=>kZ T ⟨7,[],[],rX,[]⟩:=aQ (jk _) (dV _) fun e=>Da _
 exact y8 (c:=fun T i=>bC T i oC||bC T i gI) i1 (gL (fun _ _=>is_lt) i2 (gL (fun _ _=>is_lt) (i3 4) (gL (fun _ _=>is_lt) i4 (gL (fun _ _=>is_lt) (i3 6) i5))))
theorem aeR:Tt R fun _ T=>Jl T:=by
 intro x T i o _ e
 simp only[Jl] at e
 obtain⟨b,i1,o1,e1⟩:∃b i1 o1,fq T [45] i o= .ok b i1 o1:=by unfold fq;split<;>exact⟨_,_,_,rfl⟩
 rw[PK e1] at e
 split at e
 ·split at e
  ·split at e<;>cases e
  ·cases e
 ·cases e
end
theorem Av:∀(k R:Nat) (r:Ay),R+1≤k→Tt R fun _ T=>jw T k r
 |0,R,_,h=>by omega
 |k+1,R,r,h=>gL (c:=fun T i=>bC T i Ko) (fun _ _=>is_lt) (m1:=fun _ _=>ret r) (fun _=>dW) (gL (fun _ _=>is_lt) (m1:=fun _ T=>bnd (Jl T) fun n=>jw T k {r with sal:=n}) (fun h0=>aQ aeR Ux fun n=>Av k _ _ (by omega))
  (gL (fun _ _=>is_lt) (m1:=fun _ T=>bnd (iE T) fun t=>jw T k {r with group:=t}) (fun h0=>aQ zU nA.gd fun n=>Av k _ _ (by omega)) (gL (fun _ _=>is_lt) (m1:=fun _ T=>bnd (iE T) fun t=>jw T k {r with flow:=t}) (fun h0=>aQ zU nA.gd fun n=>Av k _ _ (by omega))
  (gL (fun _ _=>is_lt) (m1:=fun _ T=>jw T k {r with noloop:=true}) (fun h0=>Av k _ _ (by omega)) (m2:=fun _ T=>bnd (bU T Wy) fun _=>jw T k {r with lock:=true}) (mJ (jk _) (Af _) fun h0 n=>Av k _ _ (by omega))))))
theorem Xf (k0:Nat):∀(k R:Nat) (acc:List Act),R+1≤k→20*R+13≤k0→Tt R fun _ T=>pY T k0 k acc
 |0,R,_,h,_=>by omega
 |k+1,R,acc,h,h0=>gL (c:=fun T i=>bC T i wG) (fun _ _=>is_lt) (m1:=fun _ _=>ret acc) (fun _=>dW) (mJ (m:=fun _ T=>AA T k0) (g:=fun a _ T=>pY T k0 k (acc++[a])) (afU h0) (afd k0) fun hR a=>Xf k0 k _ _ (by omega) (by omega))
theorem adi {R k:Nat} (h:20*R+16≤k):Tt R fun _ T=>wD T k:=
 aQ zU nA.gd fun nm=>aQ (m:=fun _ T=>jw T k ⟨nm,0,[],[],false,false,[],[]⟩) (Av k _ _ (by omega)) (wY k _) fun r=>aQ (m:=fun _ T=>iI T k [yM] []) ((ttc k).conds _ _ _ (by omega)) ((gdc k).conds _ _) fun w=>aQ (jk _) (dV _) fun _=>
  aQ (m:=fun _ T=>pY T k k []) (Xf k k _ _ (by omega) (by omega)) (IG k k []).gd fun _=>dW
theorem Yd {R:Nat} (l:List Str):Tt R fun _ T=>pR T l:=aQ Bh jr.gd fun _=>dW
theorem ZX {R k:Nat} (h:20*R+16≤k):Tt R fun _ T=>oK T k:=
 aQ nE eT.gd fun nm=>aQ (jG _) (fH _) fun _=>aQ (m:=fun _ T=>fV T [41] (pR T) k []) (Dk (one:=fun l _ T=>pR T l) Ej (fun R' l s=>Yd s) (by omega)) (om (one:=fun l _ T=>pR T l) Ej k []).gd fun ps=>
  aQ (m:=fun _ T=>iI T k [wG] []) ((ttc k).conds _ _ _ (by omega)) ((gdc k).conds _ _) fun w=>aQ (jk _) (dV _) fun _=>dW
theorem KR {R:Nat}:Tt R fun _ T=>oJ T:=aQ nE eT.gd (g:=fun nm _ T=>bnd (bU T [58]) fun _=>vC nm T) fun nm=>aQ (jk _) (dV _) (g:=fun _ _ T=>vC nm T) fun _=>
 gL (c:=fun T i=>bC T i RO) (fun _ _=>is_lt) (m1:=fun _ _=>ret (⟨nm,2,[]⟩:BR)) (fun _=>dW) (gL (c:=fun T i=>bC T i GU) (fun _ _=>is_lt) (m1:=fun _ _=>ret (⟨nm,1,[]⟩:BR)) (fun _=>dW) (gL (c:=fun T i=>bC T i G5) (fun _ _=>is_lt) (m1:=fun _ _=>ret (⟨nm,3,[]⟩:BR)) (fun _=>dW)
  (gL (c:=fun T i=>bC T i oO) (fun _ _=>is_lt) (m1:=fun _ _=>ret (⟨nm,4,[]⟩:BR)) (fun _=>dW) (gL (c:=fun T i=>bC T i Rj) (fun _ _=>is_lt) (m1:=fun _ _=>ret (⟨nm,0,[]⟩:BR)) (fun _=>dW) (aQ (jk Z5) (dV Z5) (g:=fun _ _ T=>bnd (fD T) fun c=>ret (⟨nm,5,c⟩:BR)) fun _=>aQ nE eT.gd fun c=>dW)))))
theorem Gs:∀(k R:Nat) (acc:List BR),R+1≤k→Tt R fun _ T=>gF T k false acc
 |0,R,_,h=>by omega
 |k+1,R,acc,h=>gL (c:=fun T i=>bC T i [44]) (fun _ _=>is_lt) (fun h0=>aQ (g:=fun f _ T=>gF T k false (acc++[f])) KR DC fun f=>Gs k _ _ (by omega)) (y8 (c:=fun T i=>nY T i) (mJ (g:=fun f _ T=>gF T k false (acc++[f])) KR Sw fun h0 f=>Gs k _ _ (by omega)) dW)
theorem Tg {k R:Nat} {acc:List BR} (h:R+1≤k):Tt R fun _ T=>gF T k true acc:=by
 obtain⟨k,rfl⟩:∃j,k=j+1:=⟨k-1,by omega⟩
 exact y8 (c:=fun T i=>bC T i [125]) dW (mJ (g:=fun f _ T=>gF T k false (acc++[f])) KR Sw fun h0 f=>Gs k _ _ (by omega))
theorem ab2 {R:Nat}:Tt R fun _ T=>JI T:=aQ (NQ _) (xJ _) fun b=>Tp (m1:=fun _ T=>fD T) nE dW
theorem abz {R k:Nat} (h:R+1≤k):Tt R fun _ T=>qM T k:=
 aQ nE eT.gd fun nm=>aQ ab2 QW fun su=>aQ (jG _) (fH _) fun _=>aQ (m:=fun _ T=>gF T k true []) (Tg h) (vN k true []) fun fs=>aQ (lD _) (eD _).gd fun _=>dW
theorem DW (k0:Nat):∀(k R:Nat) (b:wz),R+1≤k→20*R+16≤k0→Tt R fun _ T=>fO T k0 k b
 |0,R,_,h,_=>by omega
 |k+1,R,b,h,h0=>by
  intro x T i o l e
  have e:(if i<T.length then
   (if bC T i qd=true then bnd (qM T k0) (fun c=>fO T k0 k {b with classes:=b.classes++[c]}) (i+1) o
   else if bC T i wm=true then bnd (wD T k0) (fun r=>fO T k0 k {b with rules:=b.rules++[r]}) (i+1) o
   else bnd (bU T xP) (fun _=>bnd (oK T k0) fun q=>fO T k0 k {b with queries:=b.queries++[q]}) i o)
  else .ok b i o)= .out:=e
  split at e
  ·refine(gL (c:=fun T i=>bC T i qd) (fun _ _=>is_lt) (m1:=fun _ T=>bnd (qM T k0) fun c=>fO T k0 k {b with classes:=b.classes++[c]}) (fun hR=>aQ (m:=fun _ T=>qM T k0) (g:=fun c _ T=>fO T k0 k {b with classes:=b.classes++[c]}) (abz (by omega)) (Fa k0).gd fun c=>DW k0 k _ _ (by omega) (by omega))
    (gL (fun _ _=>is_lt) (m1:=fun _ T=>bnd (wD T k0) fun r=>fO T k0 k {b with rules:=b.rules++[r]}) (fun hR=>aQ (m:=fun _ T=>wD T k0) (g:=fun r _ T=>fO T k0 k {b with rules:=b.rules++[r]}) (adi (by omega)) (IL k0).gd fun c=>DW k0 k _ _ (by omega) (by omega))
    (m2:=fun _ T=>bnd (bU T xP) fun _=>bnd (oK T k0) fun q=>fO T k0 k {b with queries:=b.queries++[q]}) (mJ (jk _) (Af _) (g:=fun _ _ T=>bnd (oK T k0) fun q=>fO T k0 k {b with queries:=b.queries++[q]}) fun hR _=>aQ (m:=fun _ T=>oK T k0) (g:=fun q _ T=>fO T k0 k {b with queries:=b.queries++[q]}) (ZX (by omega)) (EL k0).gd fun c=>DW k0 k _ _ (by omega) (by omega)))) x T i o l e
  ·cases e
def Bo (kk:Nat) (s:Str):Except Nat wz:=match uG s with
 | .error e=> .error e
 | .ok T=>match oW T kk 0 0 with
   | .ok b _ _=> .ok b
   | .fail i=> .error (LJ T s.length i)
   | .out=> .error 0
def wC (s:Str):Except Nat wz:=Bo 100000 s
theorem WQ {T:List Lx} (h:T.length≤4096):oW T 100000 0 0≠ .out:=by
 intro e
 unfold oW bnd at e
 have h1:=DW 100000 100000 4096 ⟨[],[],[]⟩ (by omega) (by omega) 0 T 0 0 (by omega)
 simp only at h1
 cases hb:fO T 100000 100000 ⟨[],[],[]⟩ 0 0 with
 |ok b i o=>
  rw[hb] at e
  simp only at e
  split at e<;>cases e
 |fail i=>rw[hb] at e;cases e
 |out=>exact h1 hb
section
variable {h h':aj} {L:jB} {S:List Sl} {F:List (aj→Prop)} {n kk:Nat} {s:Str} {K:aM}
theorem c10 {bx:Nat} (hk:kk≤100000) (hn:4*kk+130≤n) (hn2:s.length+30≤n) (hb:∀b∈s,b<256) (hs:s.length≤60000) (hg:ZL∈F) (A:Cx h (vr bx PU :: L) S F)
 (H1:∀e,uG s= .error e→∀h,Cx h (vr bx PU :: L) S F→K (.tup [.int .i64 (e:Int), .int .i64 20]) h=true)
 (H2:∀T,uG s= .ok T→∀tv,OkP K T s.length bx L S (ad2 tv T :: F) (oW T kk 0 0)):au E n (.func 10) [.str s, .fn (.func 11) [] [.ptr bx 0 0 0]] h K=true:=by
 obtain⟨n,rfl⟩:∃m,n=m+1:=⟨n-1,by omega⟩
 apply d10
 unfold s10
 refine c7 hb (by omega) (by omega) A ?_
 cases hl:uG s with
 |error e=>
  intro h A
  refine aG rfl ?_
  unfold CG
  refine jR (jQ (xA (eF ?_)))
  exact bL (H1 e hl h A)
 |ok T=>
  intro h u A
  refine aG rfl ?_
  unfold CG
  refine jR (jQ (xA (eF ?_)))
  refine bg (gJ ?_)
  refine c18 hk (by omega) (List.mem_cons_self) (List.mem_cons_of_mem _ hg) A (Od hs hl) ?_
  refine Post.mono (H2 T hl u) ?_ ?_
  ·intro b i o H h c A
   refine aG rfl ?_
   unfold Ao
   exact jR (jQ (H h c A))
  ·intro x H h c A
   refine aG rfl ?_
   unfold Ao
   exact jR (jQ (H h c A))
theorem aby {id m:Nat} {c:List AV} {x y:AV} (V:Var h id c) (hc:c.length=m) (s:K (.tup [.agg c,x,y]) h=true):gU (fQ h [(.ptr id 0 0 0,some (true,m)),(x,none),(y,none)]) h K=true:=by
 have e:eP h true m (.ptr id 0 0 0)=some (.agg c):=by
  rw[V.load]
  simp only[ng,cond_true]
  rw[aI.2 (by omega),cond_true,List.drop_zero,List.take_of_length_le (by omega)]
 simp only[fQ,e]
 exact s
def afC (L:jB) (S:List Sl) (F:List (aj→Prop)) (K:aM):Except Nat wz→Prop
 | .ok b=>∀h c,Cx h L S ((fun h=>rH h c b) :: F)→K (.tup [.agg c, .int .i64 0, .int .i64 0]) h=true
 | .error e=>∀h,Cx h L S F→K (.tup [.agg PU, .int .i64 (e:Int), .int .i64 20]) h=true
theorem c6k (hk:kk≤100000) (hn:4*kk+140≤n) (hn2:s.length+40≤n) (hb:∀b∈s,b<256) (hs:s.length≤60000) (hg:ZL∈F) (A:Cx h L S F)
 (ht:∀T,uG s= .ok T→oW T kk 0 0≠ .out) (H:afC L S F K (Bo kk s)):au E n (.func 6) [.str s] h K=true:=by
 obtain⟨n,rfl⟩:∃m,n=m+1:=⟨n-1,by omega⟩
 apply d6
 unfold s6
 refine pW A rfl rfl rfl fun a h A=> ?_
 refine bZ A rfl rfl rfl fun bx h A=> ?_
 have A:=A.swapL
 refine aR ?_
 have bad:∀e,afC L S F K (.error e)→∀h c,Cx h (vr bx c :: vr a PU :: L) S F→pz K (fun v4 h=>CU (au E n) n (.ptr a 0 0 0) (.ptr bx 0 0 0) v4 h K) (.tup [.int .i64 (e:Int), .int .i64 20]) h=true:=by
  intro e H h c A
  refine aG rfl ?_
  unfold CU
  refine jR (jQ (eF (bL (eH rfl ?_))))
  refine iG A rfl rfl rfl rfl fun h A=> ?_
  refine aby A.v1 rfl ?_
  exact H h A.rest.rest
 refine c10 hk (by omega) (by omega) hb hs hg A (fun e hl h A=> ?_) fun T hl tv=> ?_
 ·refine bad e ?_ h _ A
  unfold Bo at H;rw[hl] at H;exact H
 ·have hT:=ht T hl
  unfold Bo at H;rw[hl] at H
  unfold OkP Post
  cases hf:oW T kk 0 0 with
  |out=>exact absurd hf hT
  |fail x=>
   simp only[hf] at H
   intro h c A
   exact bad _ H h c A.eY
  |ok b i o=>
   simp only[hf] at H
   intro h c A
   obtain⟨w1,w2⟩:=(A.f0:rH h c b).cells
   refine aG rfl ?_
   unfold CU
   refine jR (jQ (eF (bg ?_)))
   refine iR A.var w1 ?_
   refine iG A rfl w1 rfl w2 fun h A=> ?_
   refine aby A.v1 w1 ?_
   exact H h c A.rest.rest.drop1
theorem c6 (hn:400200≤n) (hb:∀b∈s,b<256) (hs:s.length≤60000) (hg:ZL∈F) (A:Cx h L S F) (H:afC L S F K (wC s)):au E n (.func 6) [.str s] h K=true:=
 c6k (kk:=100000) (by omega) (by omega) (by omega) hb hs hg A (fun T hl=>WQ (Od hs hl).len) H
end
mutual
def cV:Val→Nat
 | .mk _ _ _ t l=>t.length+TY l+1
def TY:List Val→Nat
 | []=>0
 |v :: l=>cV v+TY l
end
mutual
def cE:Ex→Nat
 | .mk _ t v l=>t.length+cV v+wR l+1
def wR:List Ex→Nat
 | []=>0
 |v :: l=>cE v+wR l
end
def cG:List (Str×Ex)→Nat
 | []=>0
 |a :: l=>a.1.length+cE a.2+cG l+1
def cB:List (Str×Str)→Nat
 | []=>0
 |a :: l=>a.1.length+a.2.length+cB l+1
mutual
def cC:Cd→Nat
 | .mk _ var cls binds tests conds thn alts e fn name args=>var.length+cls.length+cB binds+wR tests+vF conds+vF thn+qy alts+cE e+fn.length+name.length+cG args+1
def vF:List Cd→Nat
 | []=>0
 |c :: l=>cC c+vF l
def qy:List (List Cd)→Nat
 | []=>0
 |l :: m=>vF l+qy m+1
end
def cA (a:Act):Nat:=a.cls.length+cG a.set+cE a.e+a.text.length+1
def Oo:List Act→Nat
 | []=>0
 |a :: l=>cA a+Oo l
def cT:List Str→Nat
 | []=>0
 |a :: l=>a.length+cT l+1
def cF:List BR→Nat
 | []=>0
 |a :: l=>a.name.length+a.cls.length+cF l+1
def cK (a:Cls):Nat:=a.name.length+a.super.length+cF a.fields+1
def cR (a:Ay):Nat:=a.name.length+a.group.length+a.flow.length+vF a.whn+Oo a.thn+1
def cQ (a:Ju):Nat:=a.name.length+cT a.params+vF a.whn+1
def SX:List Cls→Nat
 | []=>0
 |a :: l=>cK a+SX l
def SY:List Ay→Nat
 | []=>0
 |a :: l=>cR a+SY l
def S9:List Ju→Nat
 | []=>0
 |a :: l=>cQ a+S9 l
def Bg (b:wz):Nat:=SX b.classes+SY b.rules+S9 b.queries
theorem Im:∀(l m:List Ex),wR (l++m)=wR l+wR m
 | [],m=>by simp[wR]
 |e :: l,m=>by simp only[List.cons_append,wR,Im l m];omega
theorem Oa:∀(l m:List (Str×Ex)),cG (l++m)=cG l+cG m
 | [],m=>by simp[cG]
 |e :: l,m=>by simp only[List.cons_append,cG,Oa l m];omega
theorem abJ:∀(l m:List (Str×Str)),cB (l++m)=cB l+cB m
 | [],m=>by simp[cB]
 |e :: l,m=>by simp only[List.cons_append,cB,abJ l m];omega
theorem Xi:∀(l m:List Cd),vF (l++m)=vF l+vF m
 | [],m=>by simp[vF]
 |e :: l,m=>by simp only[List.cons_append,vF,Xi l m];omega
theorem IV:∀(l m:List (List Cd)),qy (l++m)=qy l+qy m
 | [],m=>by simp[qy]
 |e :: l,m=>by simp only[List.cons_append,qy,IV l m];omega
theorem X0:∀(l m:List Act),Oo (l++m)=Oo l+Oo m
 | [],m=>by simp[Oo]
 |e :: l,m=>by simp only[List.cons_append,Oo,X0 l m];omega
theorem abZ:∀(l m:List Str),cT (l++m)=cT l+cT m
 | [],m=>by simp[cT]
 |e :: l,m=>by simp only[List.cons_append,cT,abZ l m];omega
theorem Z4:∀(l m:List BR),cF (l++m)=cF l+cF m
 | [],m=>by simp[cF]
 |e :: l,m=>by simp only[List.cons_append,cF,Z4 l m];omega
theorem XE:∀(l m:List Cls),SX (l++m)=SX l+SX m
 | [],m=>by simp[SX]
 |e :: l,m=>by simp only[List.cons_append,SX,XE l m];omega
theorem Ww:∀(l m:List Ay),SY (l++m)=SY l+SY m
 | [],m=>by simp[SY]
 |e :: l,m=>by simp only[List.cons_append,SY,Ww l m];omega
theorem Xz:∀(l m:List Ju),S9 (l++m)=S9 l+S9 m
 | [],m=>by simp[S9]
 |e :: l,m=>by simp only[List.cons_append,S9,Xz l m];omega
theorem ae7 (e:Ex) (l:List Ex):cE (e.add l)=cE e+wR l:=by cases e;simp only[Ex.add,cE,Im];omega
theorem GY (op:Int) (t:Str):cE (iP op t)=t.length+2:=by simp only[iP,cE,cV,O8,TY,wR,List.length_nil]
theorem Pb:cE rX=2:=by simp only[rX,cE,cV,O8,TY,wR,List.length_nil]
def wt (T:List Lx) (i:Nat):Nat:=((T.take i).map fun l=>l.text.length+10).sum
theorem gX {T:List Lx} {i:Nat} (h:i<T.length):wt T (i+1)=wt T i+(txt T i).length+10:=by
 have e:T[i]? =some T[i]:=List.getElem?_eq_getElem h
 have t0:txt T i=(T[i]).text:=by unfold txt;rw[e]
 rw[t0]
 unfold wt
 rw[List.take_add_one,e,Option.toList_some,List.map_append,List.sum_append]
 simp only[List.map_cons,List.map_nil,List.sum_cons,List.sum_nil]
 omega
theorem xS {T:List Lx} {i j:Nat} (h:i≤j):wt T i≤wt T j:=by
 induction j with
 |zero=>have:i=0:=by omega
        subst this;exact Nat.le_refl _
 |succ j ih=>
  by_cases e:i=j+1
  ·subst e;exact Nat.le_refl _
  ·have:=ih (by omega)
   by_cases hj:j<T.length
   ·rw[gX hj];omega
   ·have e1:T.take (j+1)=T.take j:=by rw[List.take_of_length_le (by omega),List.take_of_length_le (by omega)]
    have:wt T (j+1)=wt T j:=by unfold wt;rw[e1]
    omega
section
variable {T:List Lx} {i i':Nat} {o o':Int}
theorem lC {w:Str} {u:Unit} (h:bU T w i o= .ok u i' o'):wt T i+10≤wt T i':=by
 rw[Pp] at h
 split at h
 ·rename_i hc;cases h;rw[gX (is_lt hc)];omega
 ·cases h
theorem Vz {w:Str} {b:Bool} (h:fq T w i o= .ok b i' o'):wt T i≤wt T i':=by
 unfold fq at h
 split at h
 ·rename_i hc;cases h;rw[gX (is_lt hc)];omega
 ·cases h;exact Nat.le_refl _
theorem qO {t:Str} (h:fD T i o= .ok t i' o'):t.length+10+wt T i≤wt T i':=by
 unfold fD at h
 split at h
 ·rename_i hc;simp only[Bool.and_eq_true] at hc;cases h;rw[gX (SL hc.1)];omega
 ·cases h
theorem Jo {t:Str} (h:mD T i o= .ok t i' o'):t.length+10+wt T i≤wt T i':=by
 unfold mD at h
 split at h
 ·rename_i hc;simp only[Bool.and_eq_true] at hc;cases h;rw[gX (qZ hc.1)];omega
 ·cases h
theorem Dw {t:Str} (h:iE T i o= .ok t i' o'):t.length+10+wt T i≤wt T i':=by
 unfold iE at h
 split at h
 ·rename_i hc;cases h;rw[gX (qZ hc)];omega
 ·cases h
theorem WI {x:Nat} {u:Unit} (h:iy x i o= .ok u i' o'):i'=i:=by
 unfold iy at h;split at h<;>cases h;rfl
theorem XA {u:Unit} (h:ku i o= .ok u i' o'):i'=i:=by cases h;rfl
theorem lU {w:Str} {u:Unit} (h:dJ T w i o= .ok u i' o'):wt T i+10≤wt T i':=by
 obtain⟨_,i1,o1,h1,h⟩:=bW (show bnd (bU T w) (fun _=>iy i) i o=_ from h)
 rw[WI h];exact lC h1
theorem mW {w:Str} {u:Unit} (h:bX T w i o= .ok u i' o'):wt T i+10≤wt T i':=by
 obtain⟨_,i1,o1,h1,h⟩:=bW (show bnd (bU T w) (fun _=>ku) i o=_ from h)
 rw[XA h];exact lC h1
def cBs (l:List Bt):Nat:=wR (l.map Bt.e)
theorem adD (l m:List Bt):cBs (l++m)=cBs l+cBs m:=by unfold cBs;rw[List.map_append,Im]
theorem Eo {x:Nat} {e:Ex} {l:List Bt} {b:Bt} (h:fZ x e l i o= .ok b i' o'):i'=i∧cE b.e=cE e+cBs l:=by
 unfold fZ at h
 split at h
 ·cases h
 ·cases h;exact⟨rfl,ae7 e _⟩
theorem jg {α:Type} {v w:α} (h:ret v i o= .ok w i' o'):w=v∧i'=i:=by cases h;exact⟨rfl,rfl⟩
theorem XI {σ:Type} {w:Str} {one:σ→PM σ} (f:σ→Nat) (h1:∀s i o v i' o',one s i o= .ok v i' o'→f v+wt T i≤wt T i'+f s):
 ∀(k:Nat) (first:Bool) (s:σ) {i:Nat} {o:Int} {v:σ} {i':Nat} {o':Int},rT T w one k first s i o= .ok v i' o'→f v+wt T i≤wt T i'+f s
 |0,_,_,_,_,_,_,_,h=>by cases h
 |k+1,first,s,i,o,v,i',o',h=>by
  have hb:∀{j:Nat} {o:Int},bnd (one s) (rT T w one k false) j o= .ok v i' o'→f v+wt T j≤wt T i'+f s:=by
   intro j o h
   obtain⟨a,i1,o1,e1,h⟩:=bW h
   have:=h1 _ _ _ _ _ _ e1
   have:=XI f h1 k false a h
   omega
  unfold rT at h
  split at h
  ·split at h
   ·cases h;omega
   ·exact hb h
  ·split at h
   ·rename_i hc
    have:=hb h
    rw[gX (is_lt hc)] at this;omega
   ·cases h;omega
theorem JG {σ:Type} {w:Str} {one:σ→PM σ} (f:σ→Nat) (h1:∀s i o v i' o',one s i o= .ok v i' o'→f v+wt T i≤wt T i'+f s) {k:Nat} {s v:σ} (h:fV T w one k s i o= .ok v i' o'):f v+10+wt T i≤wt T i'+f s:=by
 obtain⟨a,i1,o1,e1,h⟩:=bW (show bnd (rT T w one k true s) (fun s=>bnd (bX T w) fun _=>ret s) i o=_ from h)
 obtain⟨_,i2,o2,e2,h⟩:=bW h
 obtain⟨rfl,rfl⟩:=jg h
 have:=XI f h1 k true s e1
 have:=mW e2
 omega
structure WtX (T:List Lx) (k:Nat):Prop where
 level:∀lv i o b i' o',bB T k lv i o= .ok b i' o'→cE b.e+4+wt T i≤wt T i'
 ops:∀lv e i o b i' o',nC T k lv e i o= .ok b i' o'→cE b.e+wt T i≤wt T i'+cE e.e
 sign:∀i o b i' o',iO T k i o= .ok b i' o'→cE b.e+4+wt T i≤wt T i'
 post:∀i o b i' o',qH T k i o= .ok b i' o'→cE b.e+4+wt T i≤wt T i'
 dots:∀e i o b i' o',nQ T k e i o= .ok b i' o'→cE b.e+wt T i≤wt T i'+cE e.e
 atom:∀i o b i' o',oV T k i o= .ok b i' o'→cE b.e+4+wt T i≤wt T i'
theorem VR (b:Bt):cBs [b]=cE b.e:=by simp only[cBs,List.map_cons,List.map_nil,wR,Nat.add_zero]
theorem aey (a b:Bt):cBs [a,b]=cE a.e+cE b.e:=by simp only[cBs,List.map_cons,List.map_nil,wR,Nat.add_zero]
theorem wtx (T:List Lx):∀k,WtX T k
 |0=>⟨fun _ _ _ _ _ _ h=>(by cases h),fun _ _ _ _ _ _ _ h=>(by cases h),fun _ _ _ _ _ h=>(by cases h),fun _ _ _ _ _ h=>(by cases h),fun _ _ _ _ _ _ h=>(by cases h),fun _ _ _ _ _ h=>(by cases h)⟩
 |k+1=>by
  have W:=wtx T k
  refine⟨fun lv i o b i' o' h=> ?_,fun lv e i o b i' o' h=> ?_,fun i o b i' o' h=> ?_,fun i o b i' o' h=> ?_,fun e i o b i' o' h=> ?_,fun i o b i' o' h=> ?_⟩
  ·have h:(if lv=5 then iO T k else bnd (bB T k (lv+1)) (nC T k lv)) i o= .ok b i' o':=h
   by_cases h5:lv=5
   ·rw[if_pos h5] at h;exact W.sign _ _ _ _ _ h
   ·rw[if_neg h5] at h
    obtain⟨a,i1,o1,e1,h⟩:=bW h
    have:=W.level _ _ _ _ _ _ e1
    have:=W.ops _ _ _ _ _ _ _ h
    omega
  ·rw[TB] at h
   split at h
   ·rename_i hc
    have hs:=gX (aeA hc)
    obtain⟨a,i1,o1,e1,h⟩:=bW h
    obtain⟨m,i2,o2,e2,h⟩:=bW h
    have h1:=W.level _ _ _ _ _ _ e1
    obtain⟨q1,h2⟩:=Eo e2
    rw[q1] at h
    rw[GY,aey,List.length_nil] at h2
    split at h
    ·obtain⟨q2,q3⟩:=jg h;rw[q2,q3];omega
    ·have:=W.ops _ _ _ _ _ _ _ h;omega
   ·cases h;omega
  ·have h:(if bC T i [45]=true then bnd (iy i) (fun _=>bnd (iO T k) fun e=>bnd ku fun _=>fZ i (iP 6 []) [e]) (i+1) o
    else if bC T i [33]=true then bnd (iy i) (fun _=>bnd (iO T k) fun e=>bnd ku fun _=>fZ i (iP 7 []) [e]) (i+1) o
    else qH T k i o)= .ok b i' o':=h
   have sg:∀{op:Int} {s:Str},bC T i s=true→bnd (iy i) (fun _=>bnd (iO T k) fun e=>bnd ku fun _=>fZ i (iP op []) [e]) (i+1) o= .ok b i' o'→cE b.e+4+wt T i≤wt T i':=by
    intro op s hc h
    have hs:=gX (is_lt hc)
    obtain⟨_,i1,o1,e1,h⟩:=bW h
    obtain⟨a,i2,o2,e2,h⟩:=bW h
    obtain⟨_,i3,o3,e3,h⟩:=bW h
    obtain⟨rfl,h2⟩:=Eo h
    rw[GY,VR,List.length_nil] at h2
    have:=W.sign _ _ _ _ _ e2
    have:=WI e1
    have:=XA e3
    subst_vars
    omega
   split at h
   ·exact sg (by assumption) h
   ·split at h
    ·exact sg (by assumption) h
    ·exact W.post _ _ _ _ _ h
  ·obtain⟨a,i1,o1,e1,h⟩:=bW (show bnd (oV T k) (nQ T k) i o=_ from h)
   have:=W.atom _ _ _ _ _ e1
   have:=W.dots _ _ _ _ _ _ h
   omega
  ·have h:(if bC T i [46]=true then bnd (fD T) (fun t=>bnd (fZ i (iP 4 t) [e]) (nQ T k)) (i+1) o else .ok e i o)= .ok b i' o':=h
   split at h
   ·rename_i hc
    have hs:=gX (is_lt hc)
    obtain⟨t,i1,o1,e1,h⟩:=bW h
    obtain⟨m,i2,o2,e2,h⟩:=bW h
    obtain⟨q1,h2⟩:=Eo e2
    rw[q1] at h
    rw[GY,VR] at h2
    have:=qO e1
    have:=W.dots _ _ _ _ _ _ h
    omega
   ·cases h;omega
  ·have h:=(congrFun (congrFun (congrFun (congrFun (Ia k) 0) T) i) o).symm.trans h
   simp only at h
   have L0:∀{i o b i' o'},bB T k 0 i o= .ok b i' o'→cE b.e+4+wt T i≤wt T i':=fun h=>W.level 0 _ _ _ _ _ h
   have lt:∀{s:Str},cE (lit (.mk 3 false 0 s [])).e=s.length+2:=by intro s;simp only[lit,cE,cV,TY,wR,List.length_nil];omega
   have hl:∀s:Str,bC T i s=true→∀(v:Val),cV v=1→cE (lit v).e+4+wt T i≤wt T (i+1):=by
    intro s hc v hv
    rw[gX (is_lt hc)]
    simp only[lit,cE,hv,wR,List.length_nil];omega
   refine r9 h (fun h=> ?_) fun h=> ?_
   ·split at h
    ·rename_i hc
     simp only[Bool.and_eq_true] at hc
     cases h
     rw[gX (qZ hc.1)]
     simp only[lit,cE,cV,TY,wR,List.length_nil];omega
    ·cases h
   by_cases h3:dN T i 3=true
   ·rw[if_pos h3] at h
    obtain⟨rfl,rfl⟩:=jg h
    rw[gX (qZ h3),lt];omega
   rw[if_neg h3] at h
   by_cases h4:bC T i [116,114,117,101]=true
   ·rw[if_pos h4] at h
    obtain⟨rfl,rfl⟩:=jg h
    exact hl _ h4 _ rfl
   rw[if_neg h4] at h
   by_cases h4:bC T i [102,97,108,115,101]=true
   ·rw[if_pos h4] at h
    obtain⟨rfl,rfl⟩:=jg h
    exact hl _ h4 _ rfl
   rw[if_neg h4] at h
   by_cases h4:bC T i [110,117,108,108]=true
   ·rw[if_pos h4] at h
    obtain⟨rfl,rfl⟩:=jg h
    exact hl _ h4 _ rfl
   rw[if_neg h4] at h
   refine r9 h (fun h=> ?_) fun h=> ?_
   ·obtain⟨t,i1,o1,e1,h⟩:=bW h
    obtain⟨rfl,rfl⟩:=jg h
    have:=Jo e1
    simp only[GY];omega
   refine r9 h (fun h=> ?_) fun h=> ?_
   ·obtain⟨_,i1,o1,e1,h⟩:=bW h
    obtain⟨a,i2,o2,e2,h⟩:=bW h
    obtain⟨_,i3,o3,e3,h⟩:=bW h
    obtain⟨rfl,rfl⟩:=jg h
    have:=lU e1
    have:=L0 e2
    have:=mW e3
    omega
   refine r9 h (fun h=> ?_) fun h=> ?_
   ·obtain⟨_,i1,o1,e1,h⟩:=bW h
    obtain⟨l,i2,o2,e2,h⟩:=bW h
    obtain⟨rfl,h2⟩:=Eo h
    have:=lU e1
    have:=JG cBs (fun s i o v i' o' h=>by
     obtain⟨a,i1,o1,e1,h⟩:=bW h
     obtain⟨rfl,rfl⟩:=jg h
     have:=L0 e1
     rw[adD,VR];omega) e2
    rw[GY,List.length_nil] at h2
    simp only[show cBs []=0 from rfl] at this
    omega
   by_cases h5:bC T i [115,105,122,101]=true
   ·rw[if_pos h5] at h
    have hs:=gX (is_lt h5)
    obtain⟨_,i1,o1,e1,h⟩:=bW h
    obtain⟨a,i2,o2,e2,h⟩:=bW h
    obtain⟨_,i3,o3,e3,h⟩:=bW h
    obtain⟨rfl,h2⟩:=Eo h
    rw[GY,VR,List.length_nil] at h2
    have:=lU e1
    have:=L0 e2
    have:=mW e3
    omega
   rw[if_neg h5] at h
   by_cases h6:bC T i [104,97,115]=true
   ·rw[if_pos h6] at h
    have hs:=gX (is_lt h6)
    obtain⟨_,i1,o1,e1,h⟩:=bW h
    obtain⟨a,i2,o2,e2,h⟩:=bW h
    obtain⟨_,i3,o3,e3,h⟩:=bW h
    obtain⟨c,i4,o4,e4,h⟩:=bW h
    obtain⟨_,i5,o5,e5,h⟩:=bW h
    obtain⟨rfl,h2⟩:=Eo h
    rw[GY,aey,List.length_nil] at h2
    have:=lU e1
    have:=L0 e2
    have:=lC e3
    have:=L0 e4
    have:=mW e5
    omega
   rw[if_neg h6] at h
   obtain⟨t,i1,o1,e1,h⟩:=bW h
   obtain⟨rfl,rfl⟩:=jg h
   have:=qO e1
   simp only[GY];omega
theorem xk {k:Nat} {e:Ex} (h:gH T k i o= .ok e i' o'):cE e+4+wt T i≤wt T i':=by
 obtain⟨b,i1,o1,e1,h⟩:=bW (show bnd (bB T k 0) (fun b=>ret b.e) i o=_ from h)
 obtain⟨rfl,rfl⟩:=jg h
 exact(wtx T k).level _ _ _ _ _ _ e1
end
end Go.Proofs.YtibillhjmfbneaaGreatDoor
