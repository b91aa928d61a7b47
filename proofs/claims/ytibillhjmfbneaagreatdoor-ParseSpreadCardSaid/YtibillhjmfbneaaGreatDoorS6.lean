/-
  Texts that the claim hangs on, part 7.
-/
import Derived.Test.YtibillhjmfbneaaGreatDoorS5
set_option linter.unusedSimpArgs false
set_option linter.unusedVariables false
namespace Go.Proofs.YtibillhjmfbneaaGreatDoor
open Go.Ab
def AJ (p buf:AV):Row:={es:=[[p,buf]],sz:=2,g:=0,m:=0,rw:=true,ty:=some 143}
theorem EI {h:aj} {id:Nat} {p buf:AV} (V:h.row id=some (AJ p buf)) (ag:Bool) (off n:Nat):eO h ag n (.ptr id 0 0 off)=mG ag off n [p,buf]:=by
 simp only[eO,V,AJ,Nat.ble_self_eq_true,cond_true,xQ]
theorem Zc {h:aj} {id:Nat} {p buf v:AV} (V:h.row id=some (AJ p buf)) (hv:v.leaf=true):cZ h 1 (.ptr id 0 0 0) v=some (h.put id (.row (AJ v buf))):=by
 have hc:=qA hv
 simp only[cZ,V,AJ,hc,Nat.beq_refl,aD,hv,List.length_cons,List.length_nil,Bool.and_self,cond_true,xQ,l5,lay]
 rfl
theorem YT {h:aj} {id:Nat} {p buf v:AV} (V:h.row id=some (AJ p buf)) (hv:v.leaf=true):cZ h 1 (.ptr id 0 0 1) v=some (h.put id (.row (AJ p v))):=by
 have hc:=qA hv
 simp only[cZ,V,AJ,hc,Nat.beq_refl,aD,hv,List.length_cons,List.length_nil,Bool.and_self,cond_true,xQ,l5,lay]
 rfl
structure Bld (h:aj) (id:Nat) (s:Str):Prop where
 ex:∃p buf,h.row id=some (AJ p buf)∧(p= .nilPtr∨p= .ptr id 0 0 0)∧Own (id+1) h 1 buf (xE s)∧Nl h buf 5∧(s=[]→buf= .ah)
 bytes:∀b∈s,b<256
theorem acu {h:aj} (k:h.Ok):TM h 143 [AV.nilPtr,AV.ah]=some (.ptr h.sz 0 0 0,Ab.newRow h [[AV.nilPtr,AV.ah]] 2 (some 143))∧Bld (Ab.newRow h [[AV.nilPtr,AV.ah]] 2 (some 143)) h.sz []∧(Ab.newRow h [[AV.nilPtr,AV.ah]] 2 (some 143)).Ok∧Ext h (Ab.newRow h [[AV.nilPtr,AV.ah]] 2 (some 143)):=by
 refine⟨rfl,⟨⟨.nilPtr, .ah, ?_, .inl rfl,Own.nil _ _ _, ?_,fun _=>rfl⟩,fun b hb=>by cases hb⟩,k.push _,tL k _⟩
 ·rw[aj.row_some];exact zW _ _
 ·intro id g s l c ex hv;cases hv
theorem ajg {n a b c d:Nat} {h:aj} {K:aM} (k:K (.ptr a b c d) h=true):au E (n+1) (.func 103) [.ptr a b c d] h K=true:=by
 show LD (au E n) n [.ptr a b c d] h K=true
 exact k
theorem c95 {n id:Nat} {p buf:AV} {h:aj} {K:aM} (V:h.row id=some (AJ p buf)) (hp:p= .nilPtr∨p= .ptr id 0 0 0) (ho:h.Ok)
 (k:∀h',But id h h'→h'.Ok→h'.row id=some (AJ (.ptr id 0 0 0) buf)→K (.tup []) h'=true):au E (n+2) (.func 95) [.ptr id 0 0 0] h K=true:=by
 apply d95
 unfold s95
 have hid:=ho.lt (aj.row_some.1 V)
 have L0:eO h false 1 (.ptr id 0 0 0)=some p:=by rw[EI V];rfl
 refine eu (aA (aQ L0 ?_))
 rcases hp with rfl |rfl
 ·have e1:EN h false .ptr .nilPtr .nilPtr=some (.bool true):=rfl
  have e2:UC h (.ptr id 0 0 0)=some (.ptr id 0 0 0):=by simp only[UC,V,AJ];rfl
  refine qG e1 (bK (qG e2 (ajg (aG rfl ?_))))
  have e3:TY h 143 2 [] (.ptr id 0 0 0)=some (.ptr id 0 0 0):=by simp only[TY,V,AJ];rfl
  unfold JW
  refine qG e3 (eu (aA (F9 (Zc V (show(AV.ptr id 0 0 0).leaf=true from rfl)) ?_)))
  exact k _ (But.put _ _ _) (ho.put hid _) (by rw[aj.row_some];exact oV _ _ _)
 ·have e1:EN h false .ptr (.ptr id 0 0 0) .nilPtr=some (.bool false):=rfl
  have e2:EN h true .ptr (.ptr id 0 0 0) (.ptr id 0 0 0)=some (.bool false):=by
   simp only[EN,VF,Vx,V,AJ,Nat.beq_refl,cond_true]
   rfl
  refine qG e1 (bg (eu (aA (aQ L0 (qG e2 (bg ?_))))))
  exact k _ (But.refl _ _) ho V
theorem c83 {n id b:Nat} {s:Str} {h h0:aj} {K:aM} (B:Bld h id s) (ho:h.Ok) (ho0:h0.Ok) (e0:Ext h0 h) (hid:h0.sz≤id) (hl:s.length+1≤most) (hb:b<256)
 (k:∀h',Ext h0 h'→h'.Ok→Bld h' id (s++[b])→K .iX h'=true):au E (n+3) (.func 83) [.ptr id 0 0 0, .int .u8 (b:Int)] h K=true:=by
 apply d83
 unfold s83
 obtain⟨⟨p,buf,V,hp,O,T,hn⟩,hB⟩:=B
 refine c95 V hp ho ?_
 intro h1 B1 o1 V1
 refine aG rfl ?_
 have x1:=B1.ext e0 ho0 hid
 have id1:id<h1.sz:=o1.lt (aj.row_some.1 V1)
 have O1:=B1.own O (by omega)
 have T1:Nl h1 buf 5:=OL T fun i g st l c ex o hv ho=>by
  rcases O with⟨rfl,_⟩|⟨i',r,q1,q2,_⟩
  ·cases hv
  ·rw[q2] at hv;cases hv
   exact B1.keep _ _ (by omega) ho
 have L1:eO h1 false 1 (.ptr id 0 0 1)=some buf:=by rw[EI V1];rfl
 refine eu (aA (aQ L1 ?_))
 obtain⟨v,g1,W⟩:=xR (h:=h1) (n:=1) (sz:=1) (z:=[AV.int .u8 0]) (ps:=[(0, .int .u8 (b:Int))]) (es:=[[.int .u8 (b:Int)]]) rfl (by decide) (by decide) rfl rfl rfl
 refine Y2 g1 ?_
 have e2:=iH o1 [[AV.int .u8 (b:Int)]] 1
 have o2:=ji o1 [[AV.int .u8 (b:Int)]] 1
 have z2:(Ab.newRow h1 [[AV.int .u8 (b:Int)]] 1).sz=h1.sz+1:=rfl
 have T2:Nl (Ab.newRow h1 [[AV.int .u8 (b:Int)]] 1) buf 5:=OL T1 fun _ _ _ _ _ _ _ _ hg=>e2.2 _ _ hg
 generalize Ab.newRow h1 [[AV.int .u8 (b:Int)]] 1=h2 at *
 obtain⟨v',h3,a1,a2,a3,a4,a5,a6,_,a8⟩:=(O1.ext e2).appb (e:=5) (by omega) o2 ho0 (x1.trans e2) (by omega) W.src (by simpa[xE] using hl)
 refine Y2 a1 ?_
 have V3:h3.row id=some (AJ (.ptr id 0 0 0) buf):=by
  rw[aj.row_some]
  refine a6 _ _ (e2.2 _ _ (aj.row_some.1 V1)) ?_
  intro i g st l c ex hv
  rcases O with⟨rfl,_⟩|⟨i',r,q1,q2,_⟩
  ·cases hv
  ·rw[q2] at hv;cases hv;omega
 have id3:id<h3.sz:=a3.lt (aj.row_some.1 V3)
 refine eu (aA (F9 (YT V3 a2.view.leaf) ?_))
 refine k _ (G6 a4 ho0 hid _) (a3.put id3 _) ⟨⟨.ptr id 0 0 0,v',by rw[aj.row_some];exact oV _ _ _, .inr rfl, ?_, ?_,fun h=>by simp at h⟩, ?_⟩
 ·have:xE (s++[b])=xE s++[[.int .u8 (b:Int)]]:=by simp[xE]
  rw[this]
  exact RU a2 fun j o hj g=>by rw[JZ (by omega)];exact g
 ·refine OL (a8 T2) fun i g st l c ex o hv hg=> ?_
  rcases a2 with⟨rfl,_⟩|⟨i',r,q1,q2,_⟩
  ·cases hv
  ·rw[q2] at hv;cases hv
   rw[JZ (by omega)];exact hg
 ·intro c hc
  rcases List.mem_append.1 hc with hc |hc
  ·exact hB c hc
  ·simp only[List.mem_singleton] at hc;omega
theorem c82 {n id:Nat} {s:Str} {h h0:aj} {K:aM} (B:Bld h id s) (ho:h.Ok) (ho0:h0.Ok) (e0:Ext h0 h) (hid:h0.sz≤id) (hl:s.length≤most)
 (k:∀h',Ext h0 h'→h'.Ok→K (.str s) h'=true):au E (n+1) (.func 82) [.ptr id 0 0 0] h K=true:=by
 apply d82
 unfold s82
 obtain⟨⟨p,buf,V,hp,O,T,hn⟩,hB⟩:=B
 have L1:eO h false 1 (.ptr id 0 0 1)=some buf:=by rw[EI V];rfl
 have V0:=O.view
 refine eu (aA (aQ L1 ?_))
 by_cases hs:s=[]
 ·subst hs
  rw[hn rfl] at L1
  rw[hn rfl]
  refine qG (v:= .nilPtr) rfl (eu (aA (aQ L1 (aeJ (Y2 (v:= .str []) (h':=h) rfl ?_)))))
  exact k _ e0 ho
 ·rcases O with⟨rfl,he⟩|⟨i,r,q1,rfl,q3,q4,q5,q6,q7⟩
  ·cases s with
   |nil=>exact absurd rfl hs
   |cons b s=>simp[xE] at he
  ·obtain⟨r',t1,t2⟩:=T _ _ _ _ _ _ rfl
   rw[q3] at t1;cases t1
   have hpos:0<(xE s).length:=by cases s with |nil=>exact absurd rfl hs |cons b s=>simp[xE]
   have hlen:(xE s).length=s.length:=by simp[xE]
   have e1:J5 (.slc i r.g 0 (xE s).length (xE s).length false)=some (.ptr i r.g 0 0):=by simp only[J5,bB.2 hpos,cond_true]
   have hk:Nat.beq (xE s).length 0=false:=dh.2 (by omega)
   have e2:Gf h 5 (.ptr i r.g 0 0) (.int .i64 ((xE s).length:Int))=some (.str s,h.put i .gone):=by
    show Gf h 5 (.ptr i r.g 0 0) (.int .i64 (.ofNat (xE s).length))=_
    simp only[Gf,hk,cond_false,q3,t2,q4,Nat.beq_refl,q6,aI.2 (show(xE s).length≤most by omega),Bool.and_self,cond_true,q7,List.take_length,F7 s hB]
   refine qG e1 (eu (aA (aQ L1 (fI V0 (Y2 e2 ?_)))))
   exact k _ (G6 e0 ho0 (by omega) _) (ho.put (ho.lt (aj.row_some.1 q3)) _)
def skip:Bool→Str→Nat
 |_,[]=>0
 |true,c :: l=>if c=10 then skip false l+1 else skip true l+1
 |false,c :: l=>if qB c=true then skip false l+1 else if c=47∧l.head? =some 47 then skip true l+1 else 0
theorem uj:∀(b:Bool) (l:Str),skip b l≤l.length
 |_,[]=>by simp[skip]
 |true,c :: l=>by
  have h1:=uj true l
  have h2:=uj false l
  simp only[skip,List.length_cons];split<;>omega
 |false,c :: l=>by
  have h1:=uj true l
  have h2:=uj false l
  simp only[skip,List.length_cons];split
  ·omega
  ·split<;>omega
theorem FY:∀(l:Str),skip true l=match bidx 10 l with |none=>l.length |some k=>k+skip false (l.drop k)
 | []=>rfl
 |c :: l=>by
  simp only[skip,bidx]
  by_cases e:c=10
  ·subst e
   simp[skip,qB]
  ·rw[if_neg e,if_neg e,FY l]
   cases bidx 10 l with
   |none=>rfl
   |some k=>
    show k+skip false (l.drop k)+1=(k+1)+skip false ((c :: l).drop (k+1))
    rw[List.drop_succ_cons];omega
theorem Og {c:Nat}:∀{l:Str} {k:Nat},bidx c l=some k→k<l.length
 | [],_,h=>by cases h
 |b :: l,k,h=>by
  simp only[bidx] at h
  split at h
  ·cases h;simp
  ·cases hb:bidx c l with
   |none=>rw[hb] at h;cases h
   |some j=>rw[hb] at h;cases h;have:=Og hb;simp;omega
theorem ac8 {s:Str} {i:Nat} {c:Nat} (hc:c≠0):((s.drop i).head? =some c)↔pk s i=c:=by
 by_cases h:i<s.length
 ·rw[rX h];simp
 ·rw[List.drop_of_length_le (by omega),Ip (by omega)]
  constructor
  ·intro e;cases e
  ·intro e;omega
theorem adu {s:Str} {a:Nat} (h:a<s.length):skip false (s.drop a)=if qB (pk s a)=true then skip false (s.drop (a+1))+1 else if pk s a=47∧pk s (a+1)=47 then skip true (s.drop a) else 0:=by
 rw[rX h]
 simp only[skip]
 split
 ·rfl
 ·rename_i hb
  have hp:=ac8 (s:=s) (i:=a+1) (c:=47) (by decide)
  by_cases hh:pk s a=47∧pk s (a+1)=47
  ·have:¬pk s a=10:=by rw[hh.1];decide
   rw[if_pos ⟨hh.1,hp.2 hh.2⟩,if_pos hh,if_neg this]
  ·rw[if_neg (fun e=>hh ⟨e.1,hp.1 e.2⟩),if_neg hh]
theorem adG (b:Nat) {k:AV→Bool} (s:k (.bool (qB b))=true):
 (eD (.int .u8 (b:Int)) (.int .u8 32) fun v2=>gK v2 false (bP (some (.int .u8 (b:Int)))) fun v3=>gK v2 false (eD v3 (.int .u8 9)) fun v4=>bZ v2 (.bool true) v4 fun v5=>gK v5 false (bP (some (.int .u8 (b:Int)))) fun v6=>gK v5 false (eD v6 (.int .u8 13)) fun v7=>bZ v5 (.bool true) v7 fun v8=>gK v8 false (bP (some (.int .u8 (b:Int)))) fun v9=>gK v8 false (eD v9 (.int .u8 10)) fun v10=>bZ v8 (.bool true) v10 fun v11=>k v11)=true:=by
 have e1:eY .eql (.int .u8 (b:Int)) (AV.int .u8 32)=some (.bool (decide (b=32))):=eqb 32 b
 have e2:eY .eql (.int .u8 (b:Int)) (AV.int .u8 9)=some (.bool (decide (b=9))):=eqb 9 b
 have e3:eY .eql (.int .u8 (b:Int)) (AV.int .u8 13)=some (.bool (decide (b=13))):=eqb 13 b
 have e4:eY .eql (.int .u8 (b:Int)) (AV.int .u8 10)=some (.bool (decide (b=10))):=eqb 10 b
 unfold qB at s
 cases h1:decide (b=32)<;>cases h2:decide (b=9)<;>cases h3:decide (b=13)<;>cases h4:decide (b=10)<;>rw[h1,h2,h3,h4] at s<;>rw[h1] at e1<;>rw[h2] at e2<;>rw[h3] at e3<;>rw[h4] at e4
 all_goals(repeat first |(with_reducible first |refine dG ?_ |refine dQ ?_ |refine bR ?_ |refine iR ?_ |refine aS ?_)|refine kU e1 ?_ |refine kU e2 ?_ |refine kU e3 ?_ |refine kU e4 ?_)
 all_goals exact s
theorem j44 {n x a:Nat} {s:Str} {bad:Bool} {h:aj} {K:aM} {B0:AV→aj→Bool} (V:LX h x s a bad) (ho:h.Ok) (hL:s.length+1<lim) (ha:a≤s.length)
 (kB:∀h' a',But x h h'→h'.Ok→LX h' x s a' bad→a<a'→a'≤s.length→a+skip false (s.drop a)=a'+skip false (s.drop a')→B0 (.ptr x 0 0 0) h'=true)
 (kE:skip false (s.drop a)=0→K (.tup []) h=true):QZ (au E (n+3)) (n+3) B0 (.ptr x 0 0 0) h K=true:=by
 have hx:x<h.sz:=Var.lt V ho
 unfold QZ
 refine c60 (k:=0) V (by omega) ha (aG rfl ?_)
 refine adG _ ?_
 rw[Nat.add_zero]
 have go:∀a',a<a'→a'≤s.length→a+skip false (s.drop a)=a'+skip false (s.drop a')→
  B0 (.ptr x 0 0 0) (h.put x (.row (lZ [.str s, .int .i64 (a':Int), .bool bad])))=true:=fun a' h1 h2 h3=>kB _ a' (But.put x h _) (ho.put hx _) (TD h x s a' bad) h1 h2 h3
 by_cases hend:a<s.length
 ·have hs:=adu hend
  cases hb:qB (pk s a) with
  |true=>
   rw[hb,if_pos rfl] at hs
   refine bK ?_;refine eu ?_;refine aA ?_;refine aQ (LX.l1 V) ?_
   first |refine aQ (jN (show a<lim by omega)) ?_ |refine gN (jN (show a<lim by omega)) ?_ |refine iZ (jN (show a<lim by omega)) ?_ |refine jg (jN (show a<lim by omega)) ?_ |refine iO (jN (show a<lim by omega)) ?_ |refine qG (jN (show a<lim by omega)) ?_ |refine kU (jN (show a<lim by omega)) ?_ |refine z_neE (jN (show a<lim by omega)) ?_ |refine pE (jN (show a<lim by omega)) ?_ |refine rO (jN (show a<lim by omega)) ?_ |refine xC (jN (show a<lim by omega)) ?_ |refine rM (jN (show a<lim by omega)) ?_
   refine eu ?_;refine aA ?_
   refine F9 (V.set _) ?_
   exact go (a+1) (by omega) (by omega) (by omega)
  |false=>
   rw[hb,if_neg (by decide)] at hs
   have e47:eY .eql (.int .u8 (pk s a:Int)) (AV.int .u8 47)=some (.bool (decide (pk s a=47))):=eqb 47 _
   refine bg ?_;refine sS ?_
   rw[show decide ((pk s a:Int)=47)=decide (pk s a=47) from decide_eq_decide.2 (by omega)]
   by_cases h1:pk s a=47
   ·rw[decide_eq_true h1]
    refine aY ?_;refine aS ?_;refine dY ?_
    refine c60 (k:=1) V hL ha (aG rfl ?_)
    unfold EF
    have e47':eY .eql (.int .u8 (pk s (a+1):Int)) (AV.int .u8 47)=some (.bool (decide (pk s (a+1)=47))):=eqb 47 _
    refine aY ?_;refine sS ?_;refine dG ?_
    rw[show decide ((pk s (a+1):Int)=47)=decide (pk s (a+1)=47) from decide_eq_decide.2 (by omega)]
    skip
    by_cases h2:pk s (a+1)=47
    ·refine vT (decide_eq_true h2) ?_
     rw[if_pos ⟨h1,h2⟩,FY] at hs
     refine eu ?_;refine aA ?_;refine aQ (LX.l0 V) ?_;refine eu ?_;refine aA ?_;refine aQ (LX.l1 V) ?_
     first |refine aQ (dW ha) ?_ |refine gN (dW ha) ?_ |refine iZ (dW ha) ?_ |refine jg (dW ha) ?_ |refine iO (dW ha) ?_ |refine qG (dW ha) ?_ |refine kU (dW ha) ?_ |refine z_neE (dW ha) ?_ |refine pE (dW ha) ?_ |refine rO (dW ha) ?_ |refine xC (dW ha) ?_ |refine rM (dW ha) ?_
     refine c61 (c:=10) (by decide) (aG rfl ?_)
     have hgo:∀d:Nat,a+d≤s.length→0<d→a+skip false (s.drop a)=(a+d)+skip false (s.drop (a+d))→IK (au E (n+3)) (n+3) B0 (.ptr x 0 0 0) (.int .i64 (d:Int)) h K=true:=by
      intro d hd hd0 he
      unfold IK
      refine eu ?_;refine aA ?_;refine aQ (LX.l1 V) ?_
      first |refine aQ (dA (show a+d<lim by omega)) ?_ |refine gN (dA (show a+d<lim by omega)) ?_ |refine iZ (dA (show a+d<lim by omega)) ?_ |refine jg (dA (show a+d<lim by omega)) ?_ |refine iO (dA (show a+d<lim by omega)) ?_ |refine qG (dA (show a+d<lim by omega)) ?_ |refine kU (dA (show a+d<lim by omega)) ?_ |refine z_neE (dA (show a+d<lim by omega)) ?_ |refine pE (dA (show a+d<lim by omega)) ?_ |refine rO (dA (show a+d<lim by omega)) ?_ |refine xC (dA (show a+d<lim by omega)) ?_ |refine rM (dA (show a+d<lim by omega)) ?_
      refine eu ?_;refine aA ?_
      refine F9 (V.set _) ?_
      exact go (a+d) (by omega) hd he
     cases hk:bidx 10 (s.drop a) with
     |none=>
      rw[hk] at hs
      have hl:(s.drop a).length=s.length-a:=by simp
      have e0:eY .lss (.int .i64 (fint none)) (AV.int .i64 0)=some (.bool true):=rfl
      first |refine aQ e0 ?_ |refine gN e0 ?_ |refine iZ e0 ?_ |refine jg e0 ?_ |refine iO e0 ?_ |refine qG e0 ?_ |refine kU e0 ?_ |refine z_neE e0 ?_ |refine pE e0 ?_ |refine rO e0 ?_ |refine xC e0 ?_ |refine rM e0 ?_
      refine bK ?_;refine eu ?_;refine aA ?_;refine aQ (LX.l0 V) ?_;refine iT ?_;refine eu ?_;refine aA ?_;refine aQ (LX.l1 V) ?_
      first |refine aQ (lT ha (show s.length<lim by omega)) ?_ |refine gN (lT ha (show s.length<lim by omega)) ?_ |refine iZ (lT ha (show s.length<lim by omega)) ?_ |refine jg (lT ha (show s.length<lim by omega)) ?_ |refine iO (lT ha (show s.length<lim by omega)) ?_ |refine qG (lT ha (show s.length<lim by omega)) ?_ |refine kU (lT ha (show s.length<lim by omega)) ?_ |refine z_neE (lT ha (show s.length<lim by omega)) ?_ |refine pE (lT ha (show s.length<lim by omega)) ?_ |refine rO (lT ha (show s.length<lim by omega)) ?_ |refine xC (lT ha (show s.length<lim by omega)) ?_ |refine rM (lT ha (show s.length<lim by omega)) ?_
      refine hgo (s.length-a) (by omega) (by omega) ?_
      rw[show a+(s.length-a)=s.length by omega,List.drop_length]
      simp only[hl] at hs
      rw[hs]
      simp only[skip];omega
     |some k=>
      rw[hk] at hs
      have hlt:=Og hk
      simp only[List.length_drop] at hlt
      have hk0:0<k:=by
       rcases Nat.eq_zero_or_pos k with h0 |h0
       ·subst h0
        rw[rX hend] at hk
        simp only[bidx] at hk
        rw[if_neg (by rw[h1];decide)] at hk
        cases hq:bidx 10 (s.drop (a+1))<;>rw[hq] at hk<;>simp at hk
       ·exact h0
      have e0:eY .lss (.int .i64 (fint (some k))) (AV.int .i64 0)=some (.bool false):=by
       rw[Ij];rfl
      first |refine aQ e0 ?_ |refine gN e0 ?_ |refine iZ e0 ?_ |refine jg e0 ?_ |refine iO e0 ?_ |refine qG e0 ?_ |refine kU e0 ?_ |refine z_neE e0 ?_ |refine pE e0 ?_ |refine rO e0 ?_ |refine xC e0 ?_ |refine rM e0 ?_
      skip
      refine hgo k (by omega) hk0 ?_
      simp only[List.drop_drop] at hs
      omega
    ·refine u6 (decide_eq_false h2) ?_
     rw[if_neg (by omega)] at hs
     exact kE hs
   ·rw[decide_eq_false h1]
    refine eH ?_;refine rT ?_
    rw[if_neg (by omega)] at hs
    exact kE hs
 ·have hp:=Ip (s:=s) (i:=a) (by omega)
  have hb:qB (pk s a)=false:=by rw[hp];rfl
  have e47:eY .eql (.int .u8 (pk s a:Int)) (AV.int .u8 47)=some (.bool false):=by rw[hp];rfl
  rw[hb]
  refine bg ?_;refine sS ?_
  rw[show decide ((pk s a:Int)=47)=false from by rw[hp];rfl]
  refine eH ?_;refine rT ?_
  exact kE (by rw[List.drop_of_length_le (by omega)];rfl)
theorem g44 {n x:Nat} {s:Str} {bad:Bool} {K:aM} (hL:s.length+1<lim):∀(m a:Nat) (h:aj),LX h x s a bad→h.Ok→a≤s.length→s.length-a<m→
 (∀h',But x h h'→h'.Ok→LX h' x s (a+skip false (s.drop a)) bad→K (.tup []) h'=true)→P6 (au E (n+3)) (n+3) m (.ptr x 0 0 0) h K=true:=by
 intro m
 induction m with
 |zero=>intro a h _ _ _ hm;omega
 |succ m ih=>
  intro a h V ho ha hm k
  unfold P6
  refine j44 V ho hL ha (fun h' a' B o' V' h1 h2 h3=>ih a' h' V' o' h2 (by omega) fun h'' B' o'' V''=>k h'' (B.trans B') o'' (by rw[h3];exact V'')) fun h0=>k h (But.refl _ _) ho (by rw[h0];exact V)
theorem c44 {n x a:Nat} {s:Str} {bad:Bool} {h:aj} {K:aM} (V:LX h x s a bad) (ho:h.Ok) (hL:s.length+1<lim) (ha:a≤s.length) (hn:s.length<n)
 (k:∀h',But x h h'→h'.Ok→LX h' x s (a+skip false (s.drop a)) bad→K (.tup []) h'=true):au E (n+4) (.func 44) [.ptr x 0 0 0] h K=true:=by
 apply d44
 show QZ (au E (n+3)) (n+3) (fun x0 h=>P6 (au E (n+3)) (n+3) (n+3) x0 h K) (.ptr x 0 0 0) h K=true
 refine j44 V ho hL ha (fun h' a' B o' V' h1 h2 h3=>g44 hL _ a' h' V' o' h2 (by omega) fun h'' B' o'' V''=>k h'' (B.trans B') o'' (by rw[h3];exact V'')) fun h0=>k h (But.refl _ _) ho (by rw[h0];exact V)
def qo:List Str:=[[61,61],[33,61],[60,61],[62,61],[38,38],[124,124]]
def yZ:Str:=[40,41,91,93,123,125,44,46,58,59,63,60,62,61,43,45,42,47,37,33]
def jo (l:Str):Nat:=if(qo.any fun t=>t.isPrefixOf l)=true then 2 else match l with
 | []=>0
 |c :: _=>if(bidx c yZ).isSome=true then 1 else 0
theorem l68 {n x a:Nat} {s:Str} {bad:Bool} {h:aj} {v:AV} {K:aM} (V:LX h x s a bad) (W:View h 1 v (qo.map fun t=>[.str t])) (hb:∀b∈s,b<256) (ha:a<s.length)
 (k:K (.int .i64 (jo (s.drop a):Int)) h=true):∀(m i:Nat),i≤6→6-i<m→((qo.take i).any fun t=>t.isPrefixOf (s.drop a))=false→
 Wz (au E (n+3)) (n+3) m (.ptr x 0 0 0) v (.int .i64 6) (.int .i64 (i:Int)) h K=true:=by
 intro m
 induction m with
 |zero=>intro i _ hm;omega
 |succ m ih=>
  intro i hi hm hany
  unfold Wz aaN
  by_cases hlt:i<6
  ·have ht:qo[i]? =some (qo[i]'hlt):=List.getElem?_eq_getElem hlt
   have he:(qo.map fun t=>[AV.str t])[i]? =some [.str (qo[i]'hlt)]:=by rw[List.getElem?_map,ht];rfl
   obtain⟨id,g,j,p1,p2⟩:=W.at he
   have e6:decide ((i:Int)<6)=true:=decide_eq_true (by omega)
   have p3:eO h false 1 (.ptr id g j 0)=some (.str (qo[i]'hlt)):=by rw[p2];rfl
   refine dS (vT e6 ?_)
   first |refine aQ (p1 _) ?_ |refine gN (p1 _) ?_ |refine iZ (p1 _) ?_ |refine jg (p1 _) ?_ |refine iO (p1 _) ?_ |refine qG (p1 _) ?_ |refine kU (p1 _) ?_ |refine z_neE (p1 _) ?_ |refine pE (p1 _) ?_ |refine rO (p1 _) ?_ |refine xC (p1 _) ?_ |refine rM (p1 _) ?_
   first |refine aQ p3 ?_ |refine gN p3 ?_ |refine iZ p3 ?_ |refine jg p3 ?_ |refine iO p3 ?_ |refine qG p3 ?_ |refine kU p3 ?_ |refine z_neE p3 ?_ |refine pE p3 ?_ |refine rO p3 ?_ |refine xC p3 ?_ |refine rM p3 ?_
   refine eu ?_;refine aA ?_;refine aQ (LX.l0 V) ?_;refine eu ?_;refine aA ?_;refine aQ (LX.l1 V) ?_
   first |refine aQ (dW (Nat.le_of_lt ha)) ?_ |refine gN (dW (Nat.le_of_lt ha)) ?_ |refine iZ (dW (Nat.le_of_lt ha)) ?_ |refine jg (dW (Nat.le_of_lt ha)) ?_ |refine iO (dW (Nat.le_of_lt ha)) ?_ |refine qG (dW (Nat.le_of_lt ha)) ?_ |refine kU (dW (Nat.le_of_lt ha)) ?_ |refine z_neE (dW (Nat.le_of_lt ha)) ?_ |refine pE (dW (Nat.le_of_lt ha)) ?_ |refine rO (dW (Nat.le_of_lt ha)) ?_ |refine xC (dW (Nat.le_of_lt ha)) ?_ |refine rM (dW (Nat.le_of_lt ha)) ?_
   refine c84 ?_
   cases hp:(qo[i]'hlt).isPrefixOf (s.drop a) with
   |true=>
    have:(qo.any fun t=>t.isPrefixOf (s.drop a))=true:=List.any_eq_true.2 ⟨_,List.getElem_mem hlt,hp⟩
    have e:jo (s.drop a)=2:=by unfold jo;rw[if_pos this]
    rw[e] at k
    refine aG rfl ?_;refine bK ?_
    exact k
   |false=>
    refine aG rfl ?_;refine bg ?_
    first |refine aQ (jN (show i<lim by have:=rG;omega)) ?_ |refine gN (jN (show i<lim by have:=rG;omega)) ?_ |refine iZ (jN (show i<lim by have:=rG;omega)) ?_ |refine jg (jN (show i<lim by have:=rG;omega)) ?_ |refine iO (jN (show i<lim by have:=rG;omega)) ?_ |refine qG (jN (show i<lim by have:=rG;omega)) ?_ |refine kU (jN (show i<lim by have:=rG;omega)) ?_ |refine z_neE (jN (show i<lim by have:=rG;omega)) ?_ |refine pE (jN (show i<lim by have:=rG;omega)) ?_ |refine rO (jN (show i<lim by have:=rG;omega)) ?_ |refine xC (jN (show i<lim by have:=rG;omega)) ?_ |refine rM (jN (show i<lim by have:=rG;omega)) ?_
    refine ih (i+1) (by omega) (by omega) ?_
    rw[List.take_add_one,ht,List.any_append,hany]
    simp[hp]
  ·have hi6:i=6:=by omega
   subst hi6
   have e6:decide (((6:Nat):Int)<6)=false:=decide_eq_false (by omega)
   have hany':(qo.any fun t=>t.isPrefixOf (s.drop a))=false:=by
    have:qo.take 6=qo:=rfl
    rw[this] at hany;exact hany
   have hm0:jo (s.drop a)=if(bidx (pk s a) yZ).isSome=true then 1 else 0:=by
    unfold jo
    rw[if_neg (by rw[hany'];decide),rX ha]
   refine dS (u6 e6 ?_)
   unfold Ti
   refine eu ?_;refine aA ?_;refine aQ (LX.l0 V) ?_;refine eu ?_;refine aA ?_;refine aQ (LX.l1 V) ?_
   first |refine aQ (eT ha) ?_ |refine gN (eT ha) ?_ |refine iZ (eT ha) ?_ |refine jg (eT ha) ?_ |refine iO (eT ha) ?_ |refine qG (eT ha) ?_ |refine kU (eT ha) ?_ |refine z_neE (eT ha) ?_ |refine pE (eT ha) ?_ |refine rO (eT ha) ?_ |refine xC (eT ha) ?_ |refine rM (eT ha) ?_
   refine c61 (c:=pk s a) (by rw[Wp ha];exact hb _ (List.getElem_mem ha)) ?_
   rw[hm0] at k
   refine aG rfl ?_
   show FP (.int .i64 (fint (bidx (pk s a) yZ))) _ _=true
   cases hs:bidx (pk s a) yZ with
   |none=>
    rw[hs] at k
    have e0:eY .geq (.int .i64 (fint none)) (AV.int .i64 0)=some (.bool false):=rfl
    first |refine aQ e0 ?_ |refine gN e0 ?_ |refine iZ e0 ?_ |refine jg e0 ?_ |refine iO e0 ?_ |refine qG e0 ?_ |refine kU e0 ?_ |refine z_neE e0 ?_ |refine pE e0 ?_ |refine rO e0 ?_ |refine xC e0 ?_ |refine rM e0 ?_
    refine bg ?_
    exact k
   |some j=>
    rw[hs] at k
    have e0:eY .geq (.int .i64 (fint (some j))) (AV.int .i64 0)=some (.bool true):=by
     rw[Qs];rfl
    first |refine aQ e0 ?_ |refine gN e0 ?_ |refine iZ e0 ?_ |refine jg e0 ?_ |refine iO e0 ?_ |refine qG e0 ?_ |refine kU e0 ?_ |refine z_neE e0 ?_ |refine pE e0 ?_ |refine rO e0 ?_ |refine xC e0 ?_ |refine rM e0 ?_
    skip
    exact k
theorem c68 {n x a:Nat} {s:Str} {bad:Bool} {h:aj} {K:aM} (V:LX h x s a bad) (ho:h.Ok) (hb:∀b∈s,b<256) (ha:a<s.length) (hn:6≤n)
 (k:∀h',Ext h h'→h'.Ok→K (.int .i64 (jo (s.drop a):Int)) h'=true):au E (n+4) (.func 68) [.ptr x 0 0 0] h K=true:=by
 apply d68
 unfold s68
 obtain⟨v,g1,W⟩:=xR (h:=h) (n:=6) (sz:=1) (z:=[AV.str []]) (ps:=[(0,(AV.str [61,61])),(1,(AV.str [33,61])),(2,(AV.str [60,61])),(3,(AV.str [62,61])),(4,(AV.str [38,38])),(5,(AV.str [124,124]))]) (es:=qo.map fun t=>[.str t]) rfl (by decide) (by decide) rfl rfl rfl
 refine Y2 g1 ?_
 have e:=iH ho (qo.map fun t=>[AV.str t]) 1
 have o:=ji ho (qo.map fun t=>[AV.str t]) 1
 first |refine aQ W.len ?_ |refine gN W.len ?_ |refine iZ W.len ?_ |refine jg W.len ?_ |refine iO W.len ?_ |refine qG W.len ?_ |refine kU W.len ?_ |refine z_neE W.len ?_ |refine pE W.len ?_ |refine rO W.len ?_ |refine xC W.len ?_ |refine rM W.len ?_
 exact l68 (V.ext e) W hb ha (k _ e o) (n+3) 0 (by omega) (by omega) rfl
def esc (d:Nat):Option Nat:=if d=34 then some 34 else if d=92 then some 92 else if d=110 then some 10 else if d=116 then some 9 else none
def quo:Str→Option (Str×Nat)
 | []=>none
 | [c]=>if c=34 then some ([],1) else none
 |c :: d :: l=>if c=34 then some ([],1) else if c=92 then(match esc d with
   |none=>none
   |some e=>(quo l).map fun r=>(e :: r.1,r.2+2))
  else if c<32 then none else(quo (d :: l)).map fun r=>(c :: r.1,r.2+1)
theorem Aj:∀(l:Str) (t:Str) (m:Nat),quo l=some (t,m)→0<m∧m≤l.length∧t.length+1≤m
 | [],t,m,h=>by cases h
 | [c],t,m,h=>by
   simp only[quo] at h
   split at h
   ·cases h;simp
   ·cases h
 |c :: d :: l,t,m,h=>by
  simp only[quo] at h
  split at h
  ·cases h;simp
  ·split at h
   ·cases he:esc d with
    |none=>rw[he] at h;cases h
    |some e=>
     rw[he] at h
     cases hq:quo l with
     |none=>rw[hq] at h;cases h
     |some r=>
      rw[hq] at h
      obtain⟨t',m'⟩:=r
      have:=Aj l t' m' hq
      cases h
      simp only[List.length_cons];omega
   ·split at h
    ·cases h
    ·cases hq:quo (d :: l) with
     |none=>rw[hq] at h;cases h
     |some r=>
      rw[hq] at h
      obtain⟨t',m'⟩:=r
      have:=Aj (d :: l) t' m' hq
      cases h
      simp only[List.length_cons] at *;omega
theorem aan {s:Str} {i:Nat} (h:i<s.length):quo (s.drop i)=if pk s i=34 then some ([],1) else if pk s i=92 then(match esc (pk s (i+1)) with
 |none=>none
 |some e=>(quo (s.drop (i+2))).map fun r=>(e :: r.1,r.2+2))
 else if pk s i<32 then none else(quo (s.drop (i+1))).map fun r=>(pk s i :: r.1,r.2+1):=by
 rw[rX h]
 by_cases h1:i+1<s.length
 ·rw[rX h1];rfl
 ·rw[List.drop_of_length_le (show s.length≤i+1 by omega),Ip (show s.length≤i+1 by omega)]
  have e0:esc 0=none:=rfl
  simp only[quo,e0]
  split
  ·rfl
  ·split
   ·rfl
   ·split<;>rfl
theorem adv (d:Nat):esc d=match bidx d [34,92,110,116] with |none=>none |some k=>some (pk [34,92,10,9] k):=by
 by_cases h1:d=34
 ·subst h1;rfl
 by_cases h2:d=92
 ·subst h2;rfl
 by_cases h3:d=110
 ·subst h3;rfl
 by_cases h4:d=116
 ·subst h4;rfl
 simp only[esc,bidx,if_neg h1,if_neg h2,if_neg h3,if_neg h4,if_neg (fun e=>h1 (Eq.symm e):¬34=d),if_neg (fun e=>h2 (Eq.symm e):¬92=d),if_neg (fun e=>h3 (Eq.symm e):¬110=d),if_neg (fun e=>h4 (Eq.symm e):¬116=d)]
 rfl
theorem Nh {s:Str} (hb:∀b∈s,b<256) (i:Nat):pk s i<256:=by
 by_cases h:i<s.length
 ·rw[Wp h];exact hb _ (List.getElem_mem h)
 ·rw[Ip (by omega)];omega
def aaX (acc:Str) (i:Nat):Option (Str×Nat)→AV
 |none=> .tup [.str [], .int .i64 0]
 |some r=> .tup [.str (acc++r.1), .int .i64 ((i+r.2:Nat):Int)]
theorem l67 {n x a bd:Nat} {s:Str} {bad:Bool} {h0:aj} {K:aM} (V:LX h0 x s a bad) (ho0:h0.Ok) (hL:2*s.length+4<most) (hb:∀b∈s,b<256) (ha:a≤s.length) (hid:h0.sz≤bd)
 :∀(m i:Nat) (acc:Str) (h:aj),h.Ok→Ext h0 h→Bld h bd acc→acc.length≤i→i≤s.length+2→s.length+2-i<m→
  (∀h',Ext h0 h'→h'.Ok→K (aaX acc i (quo (s.drop (a+i)))) h'=true)→VI (au E (n+3)) (n+3) m (.ptr x 0 0 0) (.ptr bd 0 0 0) (.int .i64 (i:Int)) h K=true:=by
 have hlim:most<lim:=by decide
 intro m
 induction m with
 |zero=>intro i acc h _ _ _ _ _ hm;omega
 |succ m ih=>
  intro i acc h ho e0 B hacc hi hm k
  have V':LX h x s a bad:=Var.ext V e0
  unfold VI abF
  refine eu ?_;refine aA ?_;refine aQ (LX.l1 V') ?_
  first |refine aQ (dA (show a+i<lim by omega)) ?_ |refine gN (dA (show a+i<lim by omega)) ?_ |refine iZ (dA (show a+i<lim by omega)) ?_ |refine jg (dA (show a+i<lim by omega)) ?_ |refine iO (dA (show a+i<lim by omega)) ?_ |refine qG (dA (show a+i<lim by omega)) ?_ |refine kU (dA (show a+i<lim by omega)) ?_ |refine z_neE (dA (show a+i<lim by omega)) ?_ |refine pE (dA (show a+i<lim by omega)) ?_ |refine rO (dA (show a+i<lim by omega)) ?_ |refine xC (dA (show a+i<lim by omega)) ?_ |refine rM (dA (show a+i<lim by omega)) ?_
  refine eu ?_;refine aA ?_;refine aQ (LX.l0 V') ?_;refine iT ?_;refine jw ?_
  by_cases hlt:a+i<s.length
  ·refine vT (decide_eq_true (by omega)) ?_
   have hq:=aan hlt
   rw[hq] at k
   refine c60 V' (by omega) ha (aG rfl ?_)
   have e34:eY .eql (.int .u8 (pk s (a+i):Int)) (AV.int .u8 34)=some (.bool (decide (pk s (a+i)=34))):=eqb 34 _
   refine kU e34 ?_
   by_cases h1:pk s (a+i)=34
   ·refine vT (decide_eq_true h1) ?_
    rw[if_pos h1] at k
    refine c82 B ho ho0 e0 hid (by omega) fun h' e' o'=> ?_
    have e1:eY .add (.int .i64 (i:Int)) (AV.int .i64 1)=some (.int .i64 ((i+1:Nat):Int)):=Pk 1 (by omega)
    refine aG rfl ?_
    unfold ER
    refine gN e1 ?_
    have:=k h' e' o'
    simp only[aaX,List.append_nil] at this
    exact this
   ·refine u6 (decide_eq_false h1) ?_
    rw[if_neg h1] at k
    have e92:eY .eql (.int .u8 (pk s (a+i):Int)) (AV.int .u8 92)=some (.bool (decide (pk s (a+i)=92))):=eqb 92 _
    refine kU e92 ?_
    by_cases h2:pk s (a+i)=92
    ·refine vT (decide_eq_true h2) ?_
     rw[if_pos h2,show a+i+1=a+(i+1) by omega] at k
     have e1:eY .add (.int .i64 (i:Int)) (AV.int .i64 1)=some (.int .i64 ((i+1:Nat):Int)):=Pk 1 (by omega)
     refine gN e1 ?_
     refine c60 V' (k:=i+1) (by omega) ha (aG rfl ?_)
     unfold Es
     refine c61 (Nh hb _) (aG rfl ?_)
     rw[adv] at k
     show mE (.int .i64 (fint (bidx (pk s (a+(i+1))) [34,92,110,116]))) _ _=true
     cases hk:bidx (pk s (a+(i+1))) [34,92,110,116] with
     |none=>
      rw[hk] at k
      have e0':eY .lss (.int .i64 (fint none)) (AV.int .i64 0)=some (.bool true):=rfl
      refine pE e0' ?_
      refine bK ?_
      exact k h e0 ho
     |some j=>
      rw[hk] at k
      have e0':eY .lss (.int .i64 (fint (some j))) (AV.int .i64 0)=some (.bool false):=by rw[Ij];rfl
      have hj:=Og hk
      have hj4:j<4:=hj
      refine pE e0' ?_
      refine bg ?_
      first |refine aQ (show mP (.str [34,92,10,9]) (.int .i64 (fint (some j)))=some (.int .u8 (pk [34,92,10,9] j:Int)) from eT (s:=[34,92,10,9]) hj) ?_ |refine gN (show mP (.str [34,92,10,9]) (.int .i64 (fint (some j)))=some (.int .u8 (pk [34,92,10,9] j:Int)) from eT (s:=[34,92,10,9]) hj) ?_ |refine iZ (show mP (.str [34,92,10,9]) (.int .i64 (fint (some j)))=some (.int .u8 (pk [34,92,10,9] j:Int)) from eT (s:=[34,92,10,9]) hj) ?_ |refine jg (show mP (.str [34,92,10,9]) (.int .i64 (fint (some j)))=some (.int .u8 (pk [34,92,10,9] j:Int)) from eT (s:=[34,92,10,9]) hj) ?_ |refine iO (show mP (.str [34,92,10,9]) (.int .i64 (fint (some j)))=some (.int .u8 (pk [34,92,10,9] j:Int)) from eT (s:=[34,92,10,9]) hj) ?_ |refine qG (show mP (.str [34,92,10,9]) (.int .i64 (fint (some j)))=some (.int .u8 (pk [34,92,10,9] j:Int)) from eT (s:=[34,92,10,9]) hj) ?_ |refine kU (show mP (.str [34,92,10,9]) (.int .i64 (fint (some j)))=some (.int .u8 (pk [34,92,10,9] j:Int)) from eT (s:=[34,92,10,9]) hj) ?_ |refine z_neE (show mP (.str [34,92,10,9]) (.int .i64 (fint (some j)))=some (.int .u8 (pk [34,92,10,9] j:Int)) from eT (s:=[34,92,10,9]) hj) ?_ |refine pE (show mP (.str [34,92,10,9]) (.int .i64 (fint (some j)))=some (.int .u8 (pk [34,92,10,9] j:Int)) from eT (s:=[34,92,10,9]) hj) ?_ |refine rO (show mP (.str [34,92,10,9]) (.int .i64 (fint (some j)))=some (.int .u8 (pk [34,92,10,9] j:Int)) from eT (s:=[34,92,10,9]) hj) ?_ |refine xC (show mP (.str [34,92,10,9]) (.int .i64 (fint (some j)))=some (.int .u8 (pk [34,92,10,9] j:Int)) from eT (s:=[34,92,10,9]) hj) ?_ |refine rM (show mP (.str [34,92,10,9]) (.int .i64 (fint (some j)))=some (.int .u8 (pk [34,92,10,9] j:Int)) from eT (s:=[34,92,10,9]) hj) ?_
      refine c83 B ho ho0 e0 hid (by omega) (Nh (by decide) j) fun h' e' o' B'=>aG rfl ?_
      unfold JI
      have e2:eY .add (.int .i64 ((i+1:Nat):Int)) (AV.int .i64 1)=some (.int .i64 ((i+2:Nat):Int)):=Pk 1 (by omega)
      refine gN e2 ?_
      have hpos:a+(i+1)<s.length:=by
       rcases Nat.lt_or_ge (a+(i+1)) s.length with hh |hh
       ·exact hh
       ·rw[Ip hh] at hk;cases hk
      refine ih (i+2) _ h' o' e' B' (by simp;omega) (by omega) (by omega) fun h'' e'' o''=> ?_
      have:=k h'' e'' o''
      rw[show a+i+2=a+(i+2) by omega] at this
      cases hq2:quo (s.drop (a+(i+2))) with
      |none=>rw[hq2] at this;exact this
      |some r=>
       rw[hq2] at this
       simp only[Option.map,aaX] at this ⊢
       rw[List.append_assoc]
       rw[show i+2+r.2=i+(r.2+2) by omega]
       exact this
    ·refine u6 (decide_eq_false h2) ?_
     rw[if_neg h2] at k
     have e32:eY .lss (.int .u8 (pk s (a+i):Int)) (AV.int .u8 32)=some (.bool (decide (pk s (a+i)<32))):=ltb 32 _
     refine pE e32 ?_
     by_cases h3:pk s (a+i)<32
     ·refine vT (decide_eq_true h3) ?_
      rw[if_pos h3] at k
      exact k h e0 ho
     ·refine u6 (decide_eq_false h3) ?_
      rw[if_neg h3] at k
      refine c83 B ho ho0 e0 hid (by omega) (Nh hb _) fun h' e' o' B'=>aG rfl ?_
      unfold JI
      have e2:eY .add (.int .i64 (i:Int)) (AV.int .i64 1)=some (.int .i64 ((i+1:Nat):Int)):=Pk 1 (by omega)
      refine gN e2 ?_
      refine ih (i+1) _ h' o' e' B' (by simp;omega) (by omega) (by omega) fun h'' e'' o''=> ?_
      have:=k h'' e'' o''
      rw[show a+i+1=a+(i+1) by omega] at this
      cases hq2:quo (s.drop (a+(i+1))) with
      |none=>rw[hq2] at this;exact this
      |some r=>
       rw[hq2] at this
       simp only[Option.map,aaX] at this ⊢
       rw[List.append_assoc]
       rw[show i+1+r.2=i+(r.2+1) by omega]
       exact this
  ·refine u6 (decide_eq_false (by omega)) ?_
   rw[List.drop_of_length_le (by omega)] at k
   exact k h e0 ho
theorem c67 {n x a:Nat} {s:Str} {bad:Bool} {h:aj} {K:aM} (V:LX h x s a bad) (ho:h.Ok) (hL:2*s.length+4<most) (hb:∀b∈s,b<256) (ha:a≤s.length) (hn:s.length<n)
 (k:∀h',Ext h h'→h'.Ok→K (aaX [] 1 (quo (s.drop (a+1)))) h'=true):au E (n+4) (.func 67) [.ptr x 0 0 0] h K=true:=by
 apply d67
 unfold s67
 obtain⟨b1,b2,b3,b4⟩:=acu ho
 refine Y2 b1 ?_
 exact l67 V ho hL hb ha (Nat.le_refl _) (n+3) 1 [] _ b3 b4 b2 (by simp) (by omega) (by omega) k
def mR:Str→Option (Nat×Str×Nat)
 | []=>none
 |c :: l=>if jv c=true then some (0,(c :: l).take (jW (c :: l)),jW (c :: l))
  else if c=36 then(if 0<jW l then some (1,l.take (jW l),jW l+1) else none)
  else if fP c=true then some (2,(c :: l).take ((c :: l).takeWhile fP).length,((c :: l).takeWhile fP).length)
  else if c=34 then(quo l).map fun r=>(3,r.1,r.2+1)
  else if 0<jo (c :: l) then some (4,(c :: l).take (jo (c :: l)),jo (c :: l)) else none
theorem adw {s:Str} {a:Nat} (h:a<s.length):mR (s.drop a)=if jv (pk s a)=true then some (0,(s.drop a).take (jW (s.drop a)),jW (s.drop a))
 else if pk s a=36 then(if 0<jW (s.drop (a+1)) then some (1,(s.drop (a+1)).take (jW (s.drop (a+1))),jW (s.drop (a+1))+1) else none)
 else if fP (pk s a)=true then some (2,(s.drop a).take ((s.drop a).takeWhile fP).length,((s.drop a).takeWhile fP).length)
 else if pk s a=34 then(quo (s.drop (a+1))).map fun r=>(3,r.1,r.2+1)
 else if 0<jo (s.drop a) then some (4,(s.drop a).take (jo (s.drop a)),jo (s.drop a)) else none:=by
 rw[rX h];rfl
theorem CW {p:Nat→Bool}:∀(l:Str),(l.takeWhile p).length≤l.length
 | []=>by simp
 |c :: l=>by
  rw[List.takeWhile_cons]
  split
  ·have:=CW (p:=p) l
   simp only[List.length_cons];omega
  ·simp
theorem GV (l:Str):jW l≤l.length:=by
 cases l with
 |nil=>simp[jW]
 |cons c l=>simp only[jW];split
            ·exact CW _
            ·omega
theorem WS (l:Str):jo l≤l.length:=by
 unfold jo
 split
 ·rename_i h
  obtain⟨t,ht,hp⟩:=List.any_eq_true.1 h
  have h1:=(List.isPrefixOf_iff_prefix.1 hp).length_le
  have h2:t.length=2:=by
   have:∀t∈qo,t.length=2:=by decide
   exact this t ht
  omega
 ·cases l with
  |nil=>simp
  |cons c l=>simp only[List.length_cons];split<;>omega
theorem vY {l:Str} {kd m:Nat} {t:Str} (h:mR l=some (kd,t,m)):0<m∧m≤l.length:=by
 cases l with
 |nil=>cases h
 |cons c l=>
  have e1:=GV (c :: l)
  have e2:=GV l
  have e3:=WS (c :: l)
  have e4:=CW (p:=fP) (c :: l)
  simp only[mR] at h
  split at h
  ·rename_i hc
   cases h
   refine⟨?_,e1⟩
   have hw:Gc c=true:=by simp[Gc,hc]
   simp only[jW,hc,if_true]
   rw[List.takeWhile_cons,hw];simp
  ·split at h
   ·split at h
    ·cases h;simp only[List.length_cons];omega
    ·cases h
   ·split at h
    ·rename_i hc
     cases h
     refine⟨?_,e4⟩
     rw[List.takeWhile_cons,hc];simp
    ·split at h
     ·cases hq:quo l with
      |none=>rw[hq] at h;cases h
      |some r=>
       rw[hq] at h
       obtain⟨t',m'⟩:=r
       have:=Aj l t' m' hq
       cases h
       simp only[List.length_cons];omega
     ·split at h
      ·cases h;omega
      ·cases h
theorem agS {h:aj} {id:Nat} {c:List AV} {a b v:AV} {K:aM} (V:Var h id c) (hc:c.length=4) (ha:a.leaf=true) (hb:b.leaf=true)
 (k:K (.tup [.agg [a,b, .int .i64 0, .int .i64 0],v]) (h.put id (.row (lZ [a,b, .int .i64 0, .int .i64 0])))=true):
 (aL h 4 (.ptr id 0 0 0) (.agg [a,b, .int .i64 0, .int .i64 0]) fun h=>gI (fM h [(.ptr id 0 0 0,some (true,4)),(v,none)]) h K)=true:=by
 have hl:aD (AV.agg [a,b, .int .i64 0, .int .i64 0]).cells=true:=by
  show(bif a.leaf then(bif b.leaf then _ else false) else false)=true
  rw[ha,hb];rfl
 have hy:lay c 0 (AV.agg [a,b, .int .i64 0, .int .i64 0]).cells=[a,b, .int .i64 0, .int .i64 0]:=by
  match c,hc with
  | [_,_,_,_],_=>rfl
 have hs:=V.store (n:=4) (off:=0) (v:= .agg [a,b, .int .i64 0, .int .i64 0]) rfl (by omega) hl
 rw[hy] at hs
 refine Zk rfl hs ?_
 have V':=wG (h:=h) id [a,b, .int .i64 0, .int .i64 0]
 simp only[fM,V'.load]
 exact k
theorem c45 {n x a:Nat} {s:Str} {bad:Bool} {h:aj} {K:aM} (V:LX h x s a bad) (ho:h.Ok) (hL:2*s.length+4<most) (hb:∀b∈s,b<256) (ha:a<s.length) (hn:s.length<n) (hn6:6≤n)
 (kS:∀kd t m h',mR (s.drop a)=some (kd,t,m)→Ext h h'→h'.Ok→K (.tup [.agg [.int .i64 (kd:Int), .str t, .int .i64 0, .int .i64 0], .int .i64 (m:Int)]) h'=true)
 (kN:mR (s.drop a)=none→∀(kd:Nat) t h',Ext h h'→h'.Ok→K (.tup [.agg [.int .i64 (kd:Int), .str t, .int .i64 0, .int .i64 0], .int .i64 0]) h'=true):au E (n+5) (.func 45) [.ptr x 0 0 0] h K=true:=by
 have hlim:most<lim:=by decide
 apply d45
 unfold s45
 have A1:nK h none 1 (.ptr x 0 0 0)=some (.ptr h.sz 0 0 0,Ab.newRow h [[AV.ptr x 0 0 0]] 1):=NS (n:=1) rfl (by decide) rfl
 have A2:pG (Ab.newRow h [[AV.ptr x 0 0 0]] 1) [AV.int .i64 0, .str [], .int .i64 0, .int .i64 0]=some (.ptr (h.sz+1) 0 0 0,Ab.newRow (Ab.newRow h [[AV.ptr x 0 0 0]] 1) [[AV.int .i64 0, .str [], .int .i64 0, .int .i64 0]] 4):=alloc_eq (by decide) rfl
 refine aa0 A1 (Uq rfl rfl rfl A2 ?_)
 have e1:=iH ho [[AV.ptr x 0 0 0]] 1
 have o1:=ji ho [[AV.ptr x 0 0 0]] 1
 have V1:=nY h [AV.ptr x 0 0 0]
 have e2:=iH o1 [[AV.int .i64 0, .str [], .int .i64 0, .int .i64 0]] 4
 have o2:=ji o1 [[AV.int .i64 0, .str [], .int .i64 0, .int .i64 0]] 4
 have V2:=nY (Ab.newRow h [[AV.ptr x 0 0 0]] 1) [AV.int .i64 0, .str [], .int .i64 0, .int .i64 0]
 have V1':=V1.ext e2
 have E2:=e1.trans e2
 have VX:LX (Ab.newRow (Ab.newRow h [[AV.ptr x 0 0 0]] 1) [[AV.int .i64 0, .str [], .int .i64 0, .int .i64 0]] 4) x s a bad:=Var.ext V E2
 simp only[List.length_cons,List.length_nil,Nat.zero_add,Yb] at V1' V2
 generalize(Ab.newRow (Ab.newRow h [[AV.ptr x 0 0 0]] 1) [[AV.int .i64 0, .str [], .int .i64 0, .int .i64 0]] 4)=h2 at *
 have P0:eO h2 false 1 (.ptr h.sz 0 0 0)=some (.ptr x 0 0 0):=by rw[V1'.load];rfl
 have hz2:h.sz+1<h2.sz:=V2.lt o2
 have fin:∀(h':aj) (kd m:Nat) (t:Str),Ext h2 h'→h'.Ok→(mR (s.drop a)=some (kd,t,m)∨(mR (s.drop a)=none∧m=0))→
  (aL h' 4 (.ptr (h.sz+1) 0 0 0) (.agg [.int .i64 (kd:Int), .str t, .int .i64 0, .int .i64 0]) fun h''=>gI (fM h'' [(.ptr (h.sz+1) 0 0 0,some (true,4)),(.int .i64 (m:Int),none)]) h'' K)=true:=by
  intro h' kd m t e' o' hr
  refine agS (V2.ext e') rfl rfl rfl ?_
  have e3:Ext h (h'.put (h.sz+1) (.row (lZ [.int .i64 (kd:Int), .str t, .int .i64 0, .int .i64 0]))):=G6 (E2.trans e') ho (by omega) _
  have o3:(h'.put (h.sz+1) (.row (lZ [.int .i64 (kd:Int), .str t, .int .i64 0, .int .i64 0]))).Ok:=o'.put (Nat.lt_of_lt_of_le hz2 e'.1) _
  rcases hr with hr |⟨hr,rfl⟩
  ·exact kS _ _ _ _ hr e3 o3
  ·exact kN hr _ _ _ e3 o3
 have part:∀(h':aj) (f m:Nat) (K':aM),Ext h2 h'→a+f+m≤s.length→K' (.str ((s.drop (a+f)).take m)) h'=true→nI (au E (n+4)) (.fn (.func 62) [] [.ptr h.sz 0 0 0]) [.int .i64 (f:Int), .int .i64 (m:Int)] h' K'=true:=by
  intro h' f m K' e' hm hk
  exact c62 (Var.ext VX e') (V1'.ext e') (by omega) hm hk
 have hN:=adw ha
 have hlen:(s.drop a).length=s.length-a:=by simp
 have hlen1:(s.drop (a+1)).length=s.length-(a+1):=by simp
 refine aS (aQ P0 ?_)
 refine c60 (k:=0) VX (by omega) (Nat.le_of_lt ha) (aG rfl ?_)
 refine c63 (aG rfl ?_)
 rw[Nat.add_zero]
 by_cases h1:jv (pk s a)=true
 ·rw[if_pos h1] at hN
  refine vT h1 ?_
  refine aQ P0 ?_
  refine c64 (f:=0) VX (by omega) (by omega) (by omega) (Nat.le_of_lt ha) (aG rfl ?_)
  have hw:=GV (s.drop a)
  refine part h2 0 _ _ (Ext.refl _) (by rw[Nat.add_zero];omega) ?_
  refine aG rfl (Lv (show qE [AV.int .i64 0, .str [], .int .i64 0, .int .i64 0] [(0,1,AV.int .i64 0),(1,1,AV.str ((s.drop (a+0)).take (jW (s.drop (a+0)))))]=some (.agg [.int .i64 ((0:Nat):Int), .str ((s.drop (a+0)).take (jW (s.drop (a+0)))), .int .i64 0, .int .i64 0]) from rfl) ?_)
  exact fin h2 0 _ _ (Ext.refl _) o2 (.inl hN)
 ·rw[if_neg h1] at hN
  refine u6 (by simpa using h1) ?_
  have e36:eY .eql (.int .u8 (pk s a:Int)) (AV.int .u8 36)=some (.bool (decide (pk s a=36))):=eqb 36 _
  refine kU e36 ?_
  by_cases h3:pk s a=36
  ·rw[if_pos h3] at hN
   refine vT (decide_eq_true h3) ?_
   refine aQ P0 ?_
   refine c64 (f:=1) VX (by omega) (by omega) (by omega) (Nat.le_of_lt ha) (aG rfl ?_)
   have hw:=GV (s.drop (a+1))
   refine nR ?_
   by_cases h4:0<jW (s.drop (a+1))
   ·rw[if_pos h4] at hN
    refine vT (decide_eq_true (by omega)) ?_
    refine part h2 1 _ _ (Ext.refl _) (by omega) ?_
    refine aG rfl (Lv (show qE [AV.int .i64 0, .str [], .int .i64 0, .int .i64 0] [(0,1,AV.int .i64 1),(1,1,AV.str ((s.drop (a+1)).take (jW (s.drop (a+1)))))]=some (.agg [.int .i64 ((1:Nat):Int), .str ((s.drop (a+1)).take (jW (s.drop (a+1)))), .int .i64 0, .int .i64 0]) from rfl) ?_)
    have e1':eY .add (.int .i64 (jW (s.drop (a+1)):Int)) (AV.int .i64 1)=some (.int .i64 ((jW (s.drop (a+1))+1:Nat):Int)):=Pk 1 (by omega)
    refine gN e1' ?_
    exact fin h2 1 _ _ (Ext.refl _) o2 (.inl hN)
   ·rw[if_neg h4] at hN
    refine u6 (decide_eq_false (by omega)) ?_
    refine qH (show eO h2 true 4 (.ptr (h.sz+1) 0 0 0)=some (.agg [.int .i64 ((0:Nat):Int), .str [], .int .i64 0, .int .i64 0]) by rw[V2.load];rfl) ?_
    exact fin h2 0 0 [] (Ext.refl _) o2 (.inr ⟨hN,rfl⟩)
  ·rw[if_neg h3] at hN
   refine u6 (decide_eq_false h3) ?_
   refine c65 (aG rfl ?_)
   by_cases h5:fP (pk s a)=true
   ·rw[if_pos h5] at hN
    refine vT h5 ?_
    refine aQ P0 ?_
    have hw:=CW (p:=fP) (s.drop a)
    refine c66 (f:=0) (p:=fP) VX (by omega) (by omega) (Nat.le_of_lt ha) (fun b K' hk=>c65 hk) (aG rfl ?_)
    refine part h2 0 _ _ (Ext.refl _) (by rw[Nat.add_zero];omega) ?_
    refine aG rfl (Lv (show qE [AV.int .i64 0, .str [], .int .i64 0, .int .i64 0] [(0,1,AV.int .i64 2),(1,1,AV.str ((s.drop (a+0)).take ((s.drop (a+0)).takeWhile fP).length))]=some (.agg [.int .i64 ((2:Nat):Int), .str ((s.drop (a+0)).take ((s.drop (a+0)).takeWhile fP).length), .int .i64 0, .int .i64 0]) from rfl) ?_)
    exact fin h2 2 _ _ (Ext.refl _) o2 (.inl hN)
   ·rw[if_neg h5] at hN
    refine u6 (by simpa using h5) ?_
    have e34:eY .eql (.int .u8 (pk s a:Int)) (AV.int .u8 34)=some (.bool (decide (pk s a=34))):=eqb 34 _
    refine kU e34 ?_
    by_cases h6:pk s a=34
    ·rw[if_pos h6] at hN
     refine vT (decide_eq_true h6) ?_
     refine aQ P0 ?_
     refine c67 VX o2 hL hb (Nat.le_of_lt ha) hn fun h' e' o'=> ?_
     cases hq:quo (s.drop (a+1)) with
     |none=>
      rw[hq] at hN
      refine aG rfl ?_
      unfold zk
      show kg 0 (.tup [.str [], .int .i64 0]) _=true
      refine jL (jG (Lv (show qE [AV.int .i64 0, .str [], .int .i64 0, .int .i64 0] [(0,1,AV.int .i64 3),(1,1,AV.str [])]=some (.agg [.int .i64 ((3:Nat):Int), .str [], .int .i64 0, .int .i64 0]) from rfl) ?_))
      exact fin h' 3 0 [] e' o' (.inr ⟨hN,rfl⟩)
     |some r=>
      rw[hq] at hN
      refine aG rfl ?_
      unfold zk
      show kg 0 (.tup [.str r.1, .int .i64 ((1+r.2:Nat):Int)]) _=true
      refine jL (jG (Lv (show qE [AV.int .i64 0, .str [], .int .i64 0, .int .i64 0] [(0,1,AV.int .i64 3),(1,1,AV.str r.1)]=some (.agg [.int .i64 ((3:Nat):Int), .str r.1, .int .i64 0, .int .i64 0]) from rfl) ?_))
      have f:=fin h' 3 (r.2+1) r.1 e' o' (.inl (by rw[hN];rfl))
      rw[Nat.add_comm r.2 1] at f
      exact f
    ·rw[if_neg h6] at hN
     refine u6 (decide_eq_false h6) ?_
     refine aQ P0 ?_
     refine c68 VX o2 hb ha hn6 fun h' e' o'=>aG rfl ?_
     have hw:=WS (s.drop a)
     refine part h' 0 _ _ e' (by rw[Nat.add_zero];omega) ?_
     refine aG rfl (Lv (show qE [AV.int .i64 0, .str [], .int .i64 0, .int .i64 0] [(0,1,AV.int .i64 4),(1,1,AV.str ((s.drop (a+0)).take (jo (s.drop a))))]=some (.agg [.int .i64 ((4:Nat):Int), .str ((s.drop (a+0)).take (jo (s.drop a))), .int .i64 0, .int .i64 0]) from rfl) ?_)
     by_cases h7:0<jo (s.drop a)
     ·rw[if_pos h7] at hN
      exact fin h' 4 _ _ e' o' (.inl hN)
     ·rw[if_neg h7] at hN
      exact fin h' 4 _ _ e' o' (.inr ⟨hN,by omega⟩)
def Ey:Nat→Str→Nat→Nat→Except Nat (List Lx)
 |0,_,_,_=> .ok []
 |f+1,s,a,k=>
  if s.length≤a+skip false (s.drop a) then .ok [] else match mR (s.drop (a+skip false (s.drop a))) with
   |none=> .error (a+skip false (s.drop a))
   |some (kd,t,m)=>if 4096≤k then .error (a+skip false (s.drop a)) else match Ey f s (a+skip false (s.drop a)+m) (k+1) with
    | .error e=> .error e
    | .ok l=> .ok (⟨kd,t,a+skip false (s.drop a),a+skip false (s.drop a)+m⟩ :: l)
def uG (s:Str):Except Nat (List Lx):=Ey (s.length+1) s 0 0
theorem aau {h:aj} {c:List AV} {n off:Nat} {v:AV} (hc:c.length=n) (hv:v.leaf=true) (ho:off<n):cZ (Ab.newRow h [c] n) 1 (.ptr h.sz 0 0 off) v=some (Ab.newRow h [c.set off v] n):=by
 subst hc
 rw[(nY h c).set1 ho hv]
 simp only[Ab.newRow,Rm,lZ,List.length_set]
def nE:dz:=(.reg [{dst:=some 7,op:=fK.alloc [AV.int (IntKind.i64) 0,AV.str [],AV.int (IntKind.i64) 0,AV.int (IntKind.i64) 0],grd:=none},{dst:=none,op:=fK.store 4 (bW.t 7) (bW.t 13),grd:=none}])
def jI:dz:=(.block 1 (.seq (.seq (.reg [{dst:=some 14,op:=fK.load false 1 (bW.t 6),grd:=none},{dst:=some 15,op:=fK.len 1 (bW.t 14),grd:=none},{dst:=some 16,op:=fK.bin (BinOp.geq) (bW.t 15) (bW.c (AV.int (IntKind.i64) 4096)),grd:=none}]) (.cond (.t 16) (.seq (.dreg [{dst:=some 17,op:=fK.fadr 2 (bW.t 7),grd:=none},{dst:=some 18,op:=fK.load false 1 (bW.t 17),grd:=none}] [({dst:=none,op:=fK.store 1 (bW.t 2) (bW.c (AV.ah)),grd:=none},[{dst:=some 18,op:=fK.load false 1 (bW.t 17),grd:=none}],[]),({dst:=none,op:=fK.store 1 (bW.t 3) (bW.t 18),grd:=none},[],[]),({dst:=none,op:=fK.store 1 (bW.t 4) (bW.c (AV.int (IntKind.i64) 20)),grd:=none},[],[])]) (.ret)) (.skip))) (.reg [{dst:=some 19,op:=fK.load false 1 (bW.t 6),grd:=none},{dst:=some 20,op:=fK.load true 4 (bW.t 7),grd:=none},{dst:=some 21,op:=fK.bslice 1 4 [AV.int (IntKind.i64) 0,AV.str [],AV.int (IntKind.i64) 0,AV.int (IntKind.i64) 0] [(0,bW.t 20)],grd:=none},{dst:=some 22,op:=fK.app 4 40 (bW.t 19) (bW.t 21),grd:=none},{dst:=none,op:=fK.store 1 (bW.t 6) (bW.t 22),grd:=none}])))
noncomputable def iA (b:Nat) (s:Str):dx:=put (put (put (put (put (put (put (put (put (put (qb 0 [.str s] .lf) (some 2) (.ptr b 0 0 0)) (some 3) (.ptr (b+1) 0 0 0)) (some 4) (.ptr (b+2) 0 0 0)) (some 8) (.str s)) (some 9) (.agg [.str s, .int .i64 0, .bool false])) (some 10) (.ptr (b+3) 0 0 0)) (some 5) (.ptr (b+3) 0 0 0)) (some 6) (.ptr (b+4) 0 0 0)) (some 11) (.ptr (b+3) 0 0 0)) (some 12) (.fn (.func 43) [] [.ptr (b+5) 0 0 0])
section
variable {call:bI} {n:Nat} {σ:Go.Ab.St} {ρ ρ0 ρ':dx} {h h':aj} {KE:oC} {v:AV} {a b:dz} {l n0 chk ns:List aT} {es:List Nat} {rest:List (aT×List aT×List aT)}
theorem q_reg (s:nL call l σ KE=true):dB call n (.reg l) σ KE=true:=by simp only[dB];exact s
theorem IG (s:dB call n a σ (fun x σ'=>match x with | .normal=>dB call n b σ' KE |x=>KE x σ')=true):dB call n (.seq a b) σ KE=true:=by simp only[dB];exact s
theorem Vo {c:bW} (e:ev σ.regs c=some (.bool true)) (s:dB call n a σ KE=true):dB call n (.cond c a b) σ KE=true:=by simp only[dB,e];exact s
theorem Wq {c:bW} (e:ev σ.regs c=some (.bool false)) (s:dB call n b σ KE=true):dB call n (.cond c a b) σ KE=true:=by simp only[dB,e];exact s
theorem q_skip (s:KE .normal σ=true):dB call n .skip σ KE=true:=by simp only[dB];exact s
theorem ad5 (s:KE .ret σ=true):dB call n .ret σ KE=true:=by simp only[dB];exact s
theorem VA {id:Nat} (s:dB call n a σ (fun x σ'=>match x with | .exit i=>bif Nat.beq i id then KE .normal σ' else KE (.exit i) σ' |x=>KE x σ')=true):dB call n (.block id a) σ KE=true:=by simp only[dB];exact s
theorem abe (e:pF n0 σ.regs σ.h=some ρ') (s:Go.Ab.ou call (Bp rest (yj n0 σ.regs)) [] rest ⟨ρ',σ.h⟩ KE=true):dB call n (.dreg n0 rest) σ KE=true:=by simp only[dB,e];exact s
theorem adQ (s:KE .normal σ=true):Go.Ab.ou call ρ0 es [] σ KE=true:=by simp only[Go.Ab.ou];exact s
theorem YC {dst:Option Nat} {op:fK} (hn:dH op=false) (he:iQ ⟨dst,op,none⟩=false) (e:aN ρ h op=some (v,h')) (ch:again (put ρ dst v) h' chk=true) (cs:pF ns (put ρ dst v) h'=some ρ')
 (s:Go.Ab.ou call ρ0 es rest ⟨ρ',h'⟩ KE=true):Go.Ab.ou call ρ0 es ((⟨dst,op,none⟩,chk,ns) :: rest) ⟨ρ,h⟩ KE=true:=by
 have ek:∀K,gM call ρ h op K=K v h':=by
  intro K
  cases op<;>first |(cases hn;done)|(simp only[gM,e])
 simp only[Go.Ab.ou,jM,fC,hn,pR,zP,ek,cond_false,ch,cond_true,cs,he]
 exact s
end
noncomputable def aaQ (id:Nat) (K:aM):oC:=fun x σ2=>
 match σ2.h.get id with
 |some (.loop l2)=>match x with
  | .normal=>K (.bool true) (σ2.h.put id (.loop {l2 with st:= .ready}))
  | .panic _=>false
  |x=>K (.bool false) (σ2.h.put id (.loop {l2 with st:= .done x}))
 |_=>false
theorem PS {h:aj} {id:Nat} {ρ regs:dx} {ps:List Nat} {asg body:dz} {K:aM} (hg:h.get id=some (Lp regs ps asg body .busy)) (s:K (.bool true) (h.put id (Lp regs ps asg body .ready))=true):aaQ id K .normal ⟨ρ,h⟩=true:=by
 unfold aaQ;unfold Lp at hg;simp only[hg];exact s
theorem Zy {h:aj} {id:Nat} {ρ regs:dx} {ps:List Nat} {asg body:dz} {K:aM} (hg:h.get id=some (Lp regs ps asg body .busy)) (s:K (.bool false) (h.put id (Lp regs ps asg body (.done .ret)))=true):aaQ id K .ret ⟨ρ,h⟩=true:=by
 unfold aaQ;unfold Lp at hg;simp only[hg];exact s
theorem aiZ {n id:Nat} {h:aj} {regs ρ:dx} {ps:List Nat} {ops:List aT} {body:dz} {args:List AV} {K:aM} (hg:h.get id=some (Lp regs ps (.reg ops) body .ready)) (hs:BA ps args regs=some ρ)
 (s:nL (au E n) ops ⟨ρ,h⟩ (fun x σ=>match x with
   | .normal=>(match σ.h.get id with
     |some (.loop l1)=>match l1.st with
      | .ready=>dB (au E n) n body ⟨σ.regs,σ.h.put id (.loop {l1 with st:= .busy})⟩ (aaQ id K)
      |_=>false
     |_=>false)
   |_=>false)=true):au E (n+1) (.yield id) args h K=true:=by
 simp only[au,hg,Lp,hs,dB]
 exact s
theorem aac {ρ:dx} {h h':aj} {d:Nat} {op:fK} {v:AV} (e:aN ρ h op=some (v,h')) (g:ρ.get d=some v) (sm:AV.same v v=true):again ρ h [⟨some d,op,none⟩]=true:=by
 simp only[again,mF,fC,e,g,sm,cond_true]
structure GJ (h0:aj) (s:Str) (regs:dx) (h:aj) (a:Nat) (bad:Bool) (acc:List Lx):Prop where
 ext:Ext h0 h
 ok:h.Ok
 sz:h0.sz+7≤h.sz
 r1:Var h h0.sz [.ah]
 r2:Var h (h0.sz+1) [.int .i64 0]
 r3:Var h (h0.sz+2) [.int .i64 0]
 lx:LX h (h0.sz+3) s a bad
 l:∃v,Var h (h0.sz+4) [v]∧Own (h0.sz+7) h 4 v (acc.map kH)
 p:Var h (h0.sz+5) [.ptr (h0.sz+3) 0 0 0]
 y:h.get (h0.sz+6)=some (Lp regs [13] nE jI .ready)
theorem GJ.grow {h0 h h':aj} {s:Str} {regs:dx} {a:Nat} {bad:Bool} {acc:List Lx} (I:GJ h0 s regs h a bad acc) (e:Ext h h') (o:h'.Ok):GJ h0 s regs h' a bad acc:=
 ⟨I.ext.trans e,o,Nat.le_trans I.sz e.1,I.r1.ext e,I.r2.ext e,I.r3.ext e,Var.ext I.lx e,let⟨v,p,q⟩:=I.l;⟨v,p.ext e,q.ext e⟩,I.p.ext e,e.2 _ _ I.y⟩
theorem GJ.but {h0 h h':aj} {s:Str} {regs:dx} {a a':Nat} {bad bad':Bool} {acc:List Lx} (I:GJ h0 s regs h a bad acc) (k0:h0.Ok) (e:But (h0.sz+3) h h') (o:h'.Ok) (V:LX h' (h0.sz+3) s a' bad'):GJ h0 s regs h' a' bad' acc:=
 ⟨e.ext I.ext k0 (by omega),o,Nat.le_trans I.sz e.sz,e.var I.r1 (by omega),e.var I.r2 (by omega),e.var I.r3 (by omega),V,let⟨v,p,q⟩:=I.l;⟨v,e.var p (by omega),e.own q (by omega)⟩,e.var I.p (by omega),e.keep _ _ (by omega) I.y⟩
structure adL (h0:aj) (regs:dx) (h:aj) (e:Nat):Prop where
 ext:Ext h0 h
 ok:h.Ok
 sz:h0.sz+7≤h.sz
 r1:Var h h0.sz [.ah]
 r2:Var h (h0.sz+1) [.int .i64 (e:Int)]
 r3:Var h (h0.sz+2) [.int .i64 20]
 y:h.get (h0.sz+6)=some (Lp regs [13] nE jI (.done .ret))
theorem y13 {n:Nat} {h h0:aj} {s:Str} {a:Nat} {acc:List Lx} {x:Lx} {K:aM} (k0:h0.Ok) (I:GJ h0 s (iA h0.sz s) h a false acc) (hacc:acc.length≤4096)
 (k1:acc.length<4096→∀h',GJ h0 s (iA h0.sz s) h' a false (acc++[x])→K (.bool true) h'=true)
 (k2:4096≤acc.length→∀h',adL h0 (iA h0.sz s) h' x.beg→K (.bool false) h'=true):au E (n+1) (.yield (h0.sz+6)) [.agg (kH x)] h K=true:=by
 refine aiZ I.y rfl ?_
 have A:pG h [AV.int .i64 0, .str [], .int .i64 0, .int .i64 0]=some (.ptr h.sz 0 0 0,Ab.newRow h [[AV.int .i64 0, .str [], .int .i64 0, .int .i64 0]] 4):=alloc_eq (by decide) rfl
 refine iD rfl A ?_
 have S:=Eo (h:=h) (z:=[AV.int .i64 0, .str [], .int .i64 0, .int .i64 0]) (n:=4) (v:= .agg (kH x)) rfl rfl rfl
 refine iD (v:= .tup []) (h':=Ab.newRow h [kH x] 4) rfl (by show unit (cZ (Ab.newRow h [[AV.int .i64 0, .str [], .int .i64 0, .int .i64 0]] 4) 4 (.ptr h.sz 0 0 0) (.agg (kH x)))=_;rw[S];rfl) (oO ?_)
 have e1:=iH I.ok [kH x] 4
 have I1:=I.grow e1 (ji I.ok [kH x] 4)
 have V1:=nY h (kH x)
 simp only[show(kH x).length=4 from rfl] at V1
 have hh:=I.sz
 generalize Ab.newRow h [kH x] 4=h1 at *
 have y1:=I1.y
 unfold Lp at y1
 simp only[y1]
 show dB _ n jI ⟨_,h1.put (h0.sz+6) (Lp (iA h0.sz s) [13] nE jI .busy)⟩ _=true
 obtain⟨v,L,O⟩:=I1.l
 have hx:But (h0.sz+6) h1 (h1.put (h0.sz+6) (Lp (iA h0.sz s) [13] nE jI .busy)):=But.put _ _ _
 have hg:(h1.put (h0.sz+6) (Lp (iA h0.sz s) [13] nE jI .busy)).get (h0.sz+6)=some (Lp (iA h0.sz s) [13] nE jI .busy):=oV _ _ _
 have o2:(h1.put (h0.sz+6) (Lp (iA h0.sz s) [13] nE jI .busy)).Ok:=I1.ok.put (by have:=I1.sz;omega) _
 have hz2:(h1.put (h0.sz+6) (Lp (iA h0.sz s) [13] nE jI .busy)).sz=h1.sz:=by simp
 generalize h1.put (h0.sz+6) (Lp (iA h0.sz s) [13] nE jI .busy)=h2 at *
 have L2:=hx.var L (by omega)
 have O2:=hx.own O (by omega)
 have V2:=hx.var V1 (by omega)
 have r1:=hx.var I1.r1 (by omega)
 have r2:=hx.var I1.r2 (by omega)
 have r3:=hx.var I1.r3 (by omega)
 have X2:=hx.ext I1.ext k0 (by omega)
 have LL:eO h2 false 1 (.ptr (h0.sz+4) 0 0 0)=some v:=by rw[L2.load];rfl
 have LV:eO h2 false 1 (.ptr h.sz 0 0 2)=some (.int .i64 (x.beg:Int)):=by rw[V2.load];rfl
 have sz1:=I1.sz
 refine VA (IG (IG (q_reg ?_)))
 refine iD (v:=v) (h':=h2) rfl (by show bQ (eO h2 false 1 (.ptr (h0.sz+4) 0 0 0)) h2=_;rw[LL];rfl) ?_
 refine iD (v:= .int .i64 ((acc.map kH).length:Int)) (h':=h2) rfl (by show bQ (AX h2 1 v) h2=_;rw[O2.view.len];rfl) ?_
 refine iD (v:= .bool (decide ((4096:Int)≤((acc.map kH).length:Int)))) (h':=h2) rfl (by show bQ (eY .geq (.int .i64 ((acc.map kH).length:Int)) (.int .i64 4096)) h2=_;rw[Qs];rfl) (oO ?_)
 by_cases hfull:4096≤acc.length
 ·refine Vo (by show some (AV.bool (decide _))=_;rw[decide_eq_true (by rw[List.length_map];omega)]) ?_
  refine IG (abe (jY (v:= .ptr h.sz 0 0 2) (h':=h2) rfl (jY (v:= .int .i64 (x.beg:Int)) (h':=h2) (by show bQ (eO h2 false 1 (.ptr h.sz 0 0 2)) h2=_;rw[LV];rfl) rfl)) ?_)
  have st1:=r1.set1 (off:=0) (v:= .ah) (by decide) rfl
  have b1:=But.put h0.sz h2 (.row (lZ ([AV.ah].set 0 .ah)))
  have V3:=b1.var V2 (by omega)
  have LV3:eO (h2.put h0.sz (.row (lZ ([AV.ah].set 0 .ah)))) false 1 (.ptr h.sz 0 0 2)=some (.int .i64 (x.beg:Int)):=by rw[V3.load];rfl
  refine YC (v:= .tup []) (h':=h2.put h0.sz (.row (lZ ([AV.ah].set 0 .ah)))) rfl rfl (by show unit (cZ h2 1 (.ptr h0.sz 0 0 0) .ah)=_;rw[st1];rfl)
   (aac (v:= .int .i64 (x.beg:Int)) (h':=h2.put h0.sz (.row (lZ ([AV.ah].set 0 .ah)))) (by show bQ (eO _ false 1 (.ptr h.sz 0 0 2)) _=_;rw[LV3];rfl) rfl (Ho _ _)) rfl ?_
  have r2':=b1.var r2 (by omega)
  have st2:=r2'.set1 (off:=0) (v:= .int .i64 (x.beg:Int)) (by decide) rfl
  refine YC (v:= .tup []) rfl rfl (by show unit (cZ _ 1 (.ptr (h0.sz+1) 0 0 0) (.int .i64 (x.beg:Int)))=_;rw[st2];rfl) rfl rfl ?_
  have b2:=But.put (h0.sz+1) (h2.put h0.sz (.row (lZ ([AV.ah].set 0 .ah)))) (.row (lZ ([AV.int .i64 0].set 0 (.int .i64 (x.beg:Int)))))
  have r3':=b2.var (b1.var r3 (by omega)) (by omega)
  have st3:=r3'.set1 (off:=0) (v:= .int .i64 20) (by decide) rfl
  refine YC (v:= .tup []) rfl rfl (by show unit (cZ _ 1 (.ptr (h0.sz+2) 0 0 0) (.int .i64 20))=_;rw[st3];rfl) rfl rfl (adQ ?_)
  have b3:=But.put (h0.sz+2) ((h2.put h0.sz (.row (lZ ([AV.ah].set 0 .ah)))).put (h0.sz+1) (.row (lZ ([AV.int .i64 0].set 0 (.int .i64 (x.beg:Int)))))) (.row (lZ ([AV.int .i64 0].set 0 (.int .i64 20))))
  have g3:=b3.keep _ _ (by omega) (b2.keep _ _ (by omega) (b1.keep _ _ (by omega) hg))
  refine ad5 (Zy g3 ?_)
  have b4:=But.put (h0.sz+6) (((h2.put h0.sz (.row (lZ ([AV.ah].set 0 .ah)))).put (h0.sz+1) (.row (lZ ([AV.int .i64 0].set 0 (.int .i64 (x.beg:Int)))))).put (h0.sz+2) (.row (lZ ([AV.int .i64 0].set 0 (.int .i64 20))))) (Lp (iA h0.sz s) [13] nE jI (.done .ret))
  refine k2 hfull _ ⟨b4.ext (b3.ext (b2.ext (b1.ext X2 k0 (by omega)) k0 (by omega)) k0 (by omega)) k0 (by omega), ?_, ?_, ?_, ?_, ?_,oV _ _ _⟩
  ·exact(((o2.put (by omega) _).put (by simp;omega) _).put (by simp;omega) _).put (by simp;omega) _
  ·simp;omega
  ·exact b4.var (b3.var (b2.var (wG h0.sz [AV.ah]) (by omega)) (by omega)) (by omega)
  ·exact b4.var (b3.var (wG (h0.sz+1) [AV.int .i64 (x.beg:Int)]) (by omega)) (by omega)
  ·exact b4.var (wG (h0.sz+2) [AV.int .i64 20]) (by omega)
 ·refine Wq (by show some (AV.bool (decide _))=_;rw[decide_eq_false (by rw[List.length_map];omega)]) (q_skip ?_)
  refine q_reg (iD (v:=v) (h':=h2) rfl (by show bQ (eO h2 false 1 (.ptr (h0.sz+4) 0 0 0)) h2=_;rw[LL];rfl) ?_)
  have LA:eO h2 true 4 (.ptr h.sz 0 0 0)=some (.agg (kH x)):=by rw[V2.load];rfl
  refine iD (v:= .agg (kH x)) (h':=h2) rfl (by show bQ (eO h2 true 4 (.ptr h.sz 0 0 0)) h2=_;rw[LA];rfl) ?_
  obtain⟨u,g1,W⟩:=xR (h:=h2) (n:=1) (sz:=4) (z:=[AV.int .i64 0, .str [], .int .i64 0, .int .i64 0]) (ps:=[(0, .agg (kH x))]) (es:=[kH x]) rfl (by decide) (by decide) rfl rfl rfl
  refine iD rfl g1 ?_
  have e3:=iH o2 [kH x] 4
  have o3:=ji o2 [kH x] 4
  generalize Ab.newRow h2 [kH x] 4=h3 at *
  have hm:most=1099511627776:=rfl
  obtain⟨v',h4,a1,a2,a3,a4,a5,a6,_⟩:=(O2.ext e3).app (bytes:=40) (by decide) (by have:=e3.1;omega) o3 k0 (X2.trans e3) (by omega) W.src (by simp only[List.length_map,List.length_cons,List.length_nil];omega) (by simp only[List.length_map,List.length_cons,List.length_nil];omega)
  refine iD rfl a1 ?_
  have kp:∀j o,j<h0.sz+7→h2.get j=some o→h4.get j=some o:=fun j o hj hg=>a6 j o (e3.2 _ _ hg) (by
   intro id g st l c ex hv
   rcases O2 with⟨rfl,_⟩|⟨i',r,q1,q2,_⟩
   ·cases hv
   ·rw[q2] at hv;cases hv;omega)
  have kv:∀(j:Nat) (c:List AV),j<h0.sz+7→Var h2 j c→Var h4 j c:=fun j c hj V=>by
   have V':h2.row j=some (lZ c):=V
   show h4.row j=_
   rw[aj.row_some] at V' ⊢
   exact kp j _ hj V'
  have L4:=kv _ _ (by omega) L2
  have st4:=L4.set1 (off:=0) (v:=v') (by show 0<1;omega) a2.view.leaf
  refine iD (v:= .tup []) rfl (by show unit (cZ h4 1 (.ptr (h0.sz+4) 0 0 0) v')=_;rw[st4];rfl) (oO ?_)
  have b5:=But.put (h0.sz+4) h4 (.row (lZ ([v].set 0 v')))
  have g5:=b5.keep _ _ (by omega) (kp _ _ (by omega) hg)
  refine PS g5 ?_
  have b6:=But.put (h0.sz+6) (h4.put (h0.sz+4) (.row (lZ ([v].set 0 v')))) (Lp (iA h0.sz s) [13] nE jI .ready)
  have s4:h0.sz+7≤h4.sz:=by have:=e3.1;omega
  refine k1 (by omega) _ ⟨b6.ext (b5.ext a4 k0 (by omega)) k0 (by omega),(a3.put (by omega) _).put (by simp;omega) _,by simp;omega, ?_, ?_, ?_, ?_,⟨v',b6.var (wG (h0.sz+4) [v']) (by omega), ?_⟩, ?_,oV _ _ _⟩
  ·exact b6.var (b5.var (kv _ _ (by omega) r1) (by omega)) (by omega)
  ·exact b6.var (b5.var (kv _ _ (by omega) r2) (by omega)) (by omega)
  ·exact b6.var (b5.var (kv _ _ (by omega) r3) (by omega)) (by omega)
  ·exact b6.var (b5.var (kv _ _ (by omega) (hx.var I1.lx (by omega))) (by omega)) (by omega)
  ·rw[List.map_append];exact b6.own (b5.own a2 (by omega)) (by omega)
  ·exact b6.var (b5.var (kv _ _ (by omega) (hx.var I1.p (by omega))) (by omega)) (by omega)
theorem adA (call:bI) (f:Yc) (vs:List AV) (h:aj) (K:aM):nI call (.fn f [] []) vs h K=call f vs h K:=by
 rw[abN,List.nil_append,List.append_nil]
theorem XK {h:aj} {id:Nat} {w v:AV} (V:Var h id [w]) (hv:v.leaf=true) (o:h.Ok):∃h',cZ h 1 (.ptr id 0 0 0) v=some h'∧But id h h'∧Var h' id [v]∧h'.Ok:=
 ⟨_,V.set1 (by show 0<1;omega) hv,But.put _ _ _,wG id [v],o.put (V.lt o) _⟩
theorem l43 {n:Nat} {h0:aj} {s:Str} {K:aM} (k0:h0.Ok) (hL:2*s.length+4<most) (hb:∀b∈s,b<256) (hn:s.length<n) (hn6:6≤n):
 ∀(m a f:Nat) (acc:List Lx) (h:aj),GJ h0 s (iA h0.sz s) h a false acc→a≤s.length→s.length-a<m→s.length-a<f→acc.length≤4096→
  (∀l h' a',Ey f s a acc.length= .ok l→GJ h0 s (iA h0.sz s) h' a' false (acc++l)→K (.tup []) h'=true)→
  (∀e l h',Ey f s a acc.length= .error e→GJ h0 s (iA h0.sz s) h' e true l→K (.tup []) h'=true)→
  (∀e h',Ey f s a acc.length= .error e→adL h0 (iA h0.sz s) h' e→K (.tup []) h'=true)→
  Xz (au E (n+6)) (n+6) m (.fn (.yield (h0.sz+6)) [] []) (.ptr (h0.sz+5) 0 0 0) h K=true:=by
 have hlim:most<lim:=by decide
 intro m
 induction m with
 |zero=>intro a f acc h _ _ hm;omega
 |succ m ih=>
  intro a f acc h I ha hm hf hacc k1 k2 k3
  obtain⟨f,rfl⟩:∃j,f=j+1:=⟨f-1,by omega⟩
  simp only[Ey] at k1 k2 k3
  unfold Xz abJ
  have P0:eO h false 1 (.ptr (h0.sz+5) 0 0 0)=some (.ptr (h0.sz+3) 0 0 0):=by rw[I.p.load];rfl
  refine aQ P0 ?_
  refine c44 I.lx I.ok (by omega) ha (by omega) fun h1 B1 o1 V1=>aG rfl ?_
  have I1:=I.but k0 B1 o1 V1
  have hsk:a+skip false (s.drop a)≤s.length:=by
   have:=uj false (s.drop a)
   simp only[List.length_drop] at this
   omega
  have hab:a≤a+skip false (s.drop a):=Nat.le_add_right _ _
  generalize a+skip false (s.drop a)=b at *
  have P1:eO h1 false 1 (.ptr (h0.sz+5) 0 0 0)=some (.ptr (h0.sz+3) 0 0 0):=by rw[I1.p.load];rfl
  refine aQ P1 (eu (aA (aQ V1.l1 (aQ P1 (eu (aA (aQ V1.l0 (iT (Q5 ?_)))))))))
  by_cases hend:s.length≤b
  ·refine vT (decide_eq_true (by omega)) ?_
   rw[if_pos hend] at k1
   exact k1 [] h1 b rfl (by rw[List.append_nil];exact I1)
  ·refine u6 (decide_eq_false (by omega)) ?_
   refine aQ P1 ?_
   rw[if_neg hend] at k1 k2 k3
   have hbl:b<s.length:=by omega
   refine c45 (n:=n+1) V1 o1 hL hb hbl (by omega) (by omega) ?_ ?_
   ·intro kd t mm h2 hN e2 o2
    obtain⟨hm0,hml⟩:=vY hN
    simp only[List.length_drop] at hml
    simp only[hN] at k1 k2 k3
    have I2:=I1.grow e2 o2
    refine aG rfl ?_
    unfold zJ
    have A:pG h2 [AV.int .i64 0, .str [], .int .i64 0, .int .i64 0]=some (.ptr h2.sz 0 0 0,Ab.newRow h2 [[AV.int .i64 0, .str [], .int .i64 0, .int .i64 0]] 4):=alloc_eq (by decide) rfl
    refine jL (jG (Uq rfl rfl rfl A (Zk rfl (Eo (h:=h2) (z:=[AV.int .i64 0, .str [], .int .i64 0, .int .i64 0]) (n:=4) (v:= .agg [.int .i64 (kd:Int), .str t, .int .i64 0, .int .i64 0]) rfl rfl rfl) ?_)))
    have e0:eY .eql (.int .i64 (mm:Int)) (AV.int .i64 0)=some (.bool false):=by
     rw[QG,decide_eq_false (by omega)]
    refine kU e0 (bg ?_)
    have hc0:(AV.agg [AV.int .i64 (kd:Int), .str t, .int .i64 0, .int .i64 0]).cells=[AV.int .i64 (kd:Int), .str t, .int .i64 0, .int .i64 0]:=rfl
    rw[hc0]
    have nb:∀c,Ext h2 (Ab.newRow h2 [c] 4)∧(Ab.newRow h2 [c] 4).Ok:=fun c=>⟨iH o2 _ _,ji o2 _ _⟩
    have pp:∀c,eO (Ab.newRow h2 [c] 4) false 1 (.ptr (h0.sz+5) 0 0 0)=some (.ptr (h0.sz+3) 0 0 0):=fun c=>by rw[(I2.p.ext (nb c).1).load];rfl
    have l1:∀c,eO (Ab.newRow h2 [c] 4) false 1 (.ptr (h0.sz+3) 0 0 1)=some (.int .i64 (b:Int)):=fun c=>LX.l1 (Var.ext I2.lx (nb c).1)
    have ad:=dA (show b+mm<lim by omega)
    refine aQ (pp _) (eu (aA (aQ (l1 _) (aQ (pp _) (eu (aA (aQ (l1 _) (gN ad (aA (F9 (aau (n:=4) rfl rfl (by decide)) ?_))))))))))
    refine aQ (pp _) (dZ (aam _ _ _ _) (aQ (l1 _) (dZ (Ho _ _) (aA (F9 (aau (n:=4) rfl rfl (by decide)) ?_)))))
    refine aQ (pp _) (eu (aA (aQ (l1 _) (gN ad (eu (aA ?_))))))
    have hcs:([AV.int .i64 (kd:Int), .str t, .int .i64 0, .int .i64 0].set 2 (.int .i64 (b:Int))).set 3 (.int .i64 ((b+mm:Nat):Int))=kH ⟨kd,t,b,b+mm⟩:=rfl
    rw[hcs]
    have V3:Var (Ab.newRow h2 [kH ⟨kd,t,b,b+mm⟩] 4) h2.sz (kH ⟨kd,t,b,b+mm⟩):=nY h2 _
    have I3:=I2.grow (nb (kH ⟨kd,t,b,b+mm⟩)).1 (nb _).2
    have sz3:(Ab.newRow h2 [kH ⟨kd,t,b,b+mm⟩] 4).sz=h2.sz+1:=rfl
    have sz2:=I2.sz
    generalize Ab.newRow h2 [kH ⟨kd,t,b,b+mm⟩] 4=h3 at *
    refine F9 (LX.set I3.lx (b+mm)) ?_
    have B4:=But.put (h0.sz+3) h3 (.row (lZ [.str s, .int .i64 ((b+mm:Nat):Int), .bool false]))
    have V4:=B4.var V3 (by omega)
    have I4:=I3.but k0 B4 (I3.ok.put (by omega) _) (TD h3 (h0.sz+3) s (b+mm) false)
    generalize h3.put (h0.sz+3) (.row (lZ [.str s, .int .i64 ((b+mm:Nat):Int), .bool false]))=h4 at *
    have LA:eO h4 true 4 (.ptr h2.sz 0 0 0)=some (.agg (kH ⟨kd,t,b,b+mm⟩)):=by rw[V4.load];rfl
    refine qH LA ?_
    rw[adA]
    refine y13 (n:=n+5) (x:=⟨kd,t,b,b+mm⟩) k0 I4 hacc ?_ ?_
    ·intro hlt h5 I5
     rw[if_neg (by omega)] at k1 k2 k3
     refine aG rfl ?_
     unfold yX
     refine bM (bg ?_)
     refine ih (b+mm) f (acc++[⟨kd,t,b,b+mm⟩]) h5 I5 (by omega) (by omega) (by omega) (by simp;omega) ?_ ?_ ?_
     ·intro l h' a' hl I'
      simp only[List.length_append,List.length_cons,List.length_nil,Nat.zero_add] at hl
      rw[hl] at k1
      exact k1 _ h' a' rfl (by rw[List.append_assoc] at I';exact I')
     ·intro e l h' hl I'
      simp only[List.length_append,List.length_cons,List.length_nil,Nat.zero_add] at hl
      rw[hl] at k2
      exact k2 e l h' rfl I'
     ·intro e h' hl I'
      simp only[List.length_append,List.length_cons,List.length_nil,Nat.zero_add] at hl
      rw[hl] at k3
      exact k3 e h' rfl I'
    ·intro hge h5 S5
     rw[if_pos hge] at k3
     refine aG rfl ?_
     unfold yX
     refine dw (bK ?_)
     exact k3 b h5 rfl S5
   ·intro hN kd t h2 e2 o2
    simp only[hN] at k2
    have I2:=I1.grow e2 o2
    refine aG rfl ?_
    unfold zJ
    have A:pG h2 [AV.int .i64 0, .str [], .int .i64 0, .int .i64 0]=some (.ptr h2.sz 0 0 0,Ab.newRow h2 [[AV.int .i64 0, .str [], .int .i64 0, .int .i64 0]] 4):=alloc_eq (by decide) rfl
    refine jL (jG (Uq rfl rfl rfl A (Zk rfl (Eo (h:=h2) (z:=[AV.int .i64 0, .str [], .int .i64 0, .int .i64 0]) (n:=4) (v:= .agg [.int .i64 (kd:Int), .str t, .int .i64 0, .int .i64 0]) rfl rfl rfl) ?_)))
    refine kU (v:= .bool true) rfl (bK ?_)
    have I3:=I2.grow (iH o2 [(AV.agg [AV.int .i64 (kd:Int), .str t, .int .i64 0, .int .i64 0]).cells] 4) (ji o2 _ _)
    generalize Ab.newRow h2 [(AV.agg [AV.int .i64 (kd:Int), .str t, .int .i64 0, .int .i64 0]).cells] 4=h3 at *
    have P3:eO h3 false 1 (.ptr (h0.sz+5) 0 0 0)=some (.ptr (h0.sz+3) 0 0 0):=by rw[I3.p.load];rfl
    have sz3:=I3.sz
    refine aQ P3 (eu (aA (F9 (LX.setb I3.lx true) ?_)))
    exact k2 b acc _ rfl (I3.but k0 (But.put _ _ _) (I3.ok.put (by omega) _) (TD h3 (h0.sz+3) s b true))
theorem ajR {call:bI} {n fid:Nat} {σ:Go.Ab.St} {f:bW} {ps:List Nat} {asg body:dz} {first cap:List AV} {KE:oC} (e:ev σ.regs f=some (.fn (.func fid) first cap))
 (s:call (.func fid) (first++[.fn (.yield σ.h.sz) [] []]++cap) (σ.h.push (Lp σ.regs ps asg body .ready)) (fun v h'=>
   match jk v with
   |some _=>false
   |none=>
   match h'.get σ.h.sz with
   |some (.loop l)=>match l.st with
    | .ready=>KE .normal ⟨σ.regs,h'.put σ.h.sz (.loop {l with st:= .exh})⟩
    | .done x=>KE x ⟨σ.regs,h'.put σ.h.sz (.loop {l with st:= .exh})⟩
    |_=>false
   |_=>false)=true):dB call n (.rf f ps asg body) σ KE=true:=by
 simp only[dB,e]
 exact s
theorem Zg {call:bI} {df:mQ} {n:Nat} {σ:Go.Ab.St} {pend:List (AV×List AV)} {KT:Go.Ab.Mode→Go.Ab.St→Bool} {a1 a2 b:dz} (s:Go.Ab.dB call n (.seq a1 a2) σ (fun x σ'=>match x with | .normal=>Go.Ab.runT call df n b pend σ' KT |x=>atEnd df pend x σ' KT)=true):Go.Ab.runT call df n (.seq (.seq a1 a2) b) pend σ KT=true:=by
 simp only[Go.Ab.runT];exact s
theorem _root_.Go.Ab.Own.low {b c n:Nat} {h:aj} {v:AV} {es:List (List AV)} (O:Own b h n v es) (l:c≤b):Own c h n v es:=by
 rcases O with O |⟨id,r,q1,q⟩
 ·exact .inl O
 ·exact .inr ⟨id,r,Nat.le_trans l q1,q⟩
def ai6 (b:Nat) (h:aj) (v:AV):Except Nat (List Lx)→Prop
 | .ok l=>∃u,v= .tup [u, .int .i64 0, .int .i64 0]∧Own b h 4 u (l.map kH)
 | .error e=>v= .tup [.ah, .int .i64 (e:Int), .int .i64 20]
section
variable {call:bI} {df:mQ} {m:Nat} {ρ:dx} {g:aj} {b a e:Nat} {s:Str} {v x y z:AV} {K:aM}
theorem aby (e2:ρ.get 2=some (.ptr b 0 0 0)) (e3:ρ.get 3=some (.ptr (b+1) 0 0 0)) (e4:ρ.get 4=some (.ptr (b+2) 0 0 0)) (R1:Var g b [x]) (R2:Var g (b+1) [y]) (R3:Var g (b+2) [z]) (k:K (.tup [x,y,z]) g=true):nQ XQ.res K .ret ⟨ρ,g⟩=true:=by
 show(match jH ρ g [(2,some (false,1)),(3,some (false,1)),(4,some (false,1))] with |some l=>K (oneOf l) g |none=>false)=true
 have l1:eO g false 1 (.ptr b 0 0 0)=some x:=by rw[R1.load];rfl
 have l2:eO g false 1 (.ptr (b+1) 0 0 0)=some y:=by rw[R2.load];rfl
 have l3:eO g false 1 (.ptr (b+2) 0 0 0)=some z:=by rw[R3.load];rfl
 simp only[jH,wK,e2,e3,e4,l1,l2,l3]
 exact k
theorem ajI (e2:ρ.get 2=some (.ptr b 0 0 0)) (e3:ρ.get 3=some (.ptr (b+1) 0 0 0)) (e4:ρ.get 4=some (.ptr (b+2) 0 0 0)) (e5:ρ.get 5=some (.ptr (b+3) 0 0 0)) (e6:ρ.get 6=some (.ptr (b+4) 0 0 0))
 (V:LX g (b+3) s a false) (L:Var g (b+4) [v]) (lf:v.leaf=true) (R1:Var g b [x]) (R2:Var g (b+1) [y]) (R3:Var g (b+2) [z]) (o:g.Ok)
 (k:∀g1 g2 g3,But b g g1→But (b+1) g1 g2→But (b+2) g2 g3→g3.Ok→K (.tup [v, .int .i64 0, .int .i64 0]) g3=true):
 Go.Ab.runT call df m (VD 4 XQ.body) [] ⟨ρ,g⟩ (nQ XQ.res K)=true:=by
 show Go.Ab.runT _ _ m (.seq (.seq (.reg _) (.cond _ _ _)) (.seq (.reg _) .ret)) [] ⟨ρ,g⟩ _=true
 refine Zg (IG (q_reg ?_))
 refine iD (v:= .ptr (b+3) 0 0 0) (h':=g) rfl (by simp only[aN,tQ,ev,e5];rfl) ?_
 refine iD (v:= .ptr (b+3) 0 0 0) (h':=g) rfl (by simp only[aN,tQ,ev,iP];rfl) ?_
 refine iD (v:= .ptr (b+3) 0 0 2) (h':=g) rfl (by simp only[aN,tQ,ev,iP];rfl) ?_
 refine iD (v:= .bool false) (h':=g) rfl (by simp only[aN,tQ,ev,iP];rw[LX.l2 V];rfl) (oO ?_)
 refine Wq (by simp only[ev,iP]) (q_skip ?_)
 have p2:(put (put (put (put ρ (some 23) (.ptr (b+3) 0 0 0)) (some 24) (.ptr (b+3) 0 0 0)) (some 25) (.ptr (b+3) 0 0 2)) (some 26) (.bool false)).get 2=some (.ptr b 0 0 0):=by
  rw[cO (by decide),cO (by decide),cO (by decide),cO (by decide)];exact e2
 have p3:(put (put (put (put ρ (some 23) (.ptr (b+3) 0 0 0)) (some 24) (.ptr (b+3) 0 0 0)) (some 25) (.ptr (b+3) 0 0 2)) (some 26) (.bool false)).get 3=some (.ptr (b+1) 0 0 0):=by
  rw[cO (by decide),cO (by decide),cO (by decide),cO (by decide)];exact e3
 have p4:(put (put (put (put ρ (some 23) (.ptr (b+3) 0 0 0)) (some 24) (.ptr (b+3) 0 0 0)) (some 25) (.ptr (b+3) 0 0 2)) (some 26) (.bool false)).get 4=some (.ptr (b+2) 0 0 0):=by
  rw[cO (by decide),cO (by decide),cO (by decide),cO (by decide)];exact e4
 have p6:(put (put (put (put ρ (some 23) (.ptr (b+3) 0 0 0)) (some 24) (.ptr (b+3) 0 0 0)) (some 25) (.ptr (b+3) 0 0 2)) (some 26) (.bool false)).get 6=some (.ptr (b+4) 0 0 0):=by
  rw[cO (by decide),cO (by decide),cO (by decide),cO (by decide)];exact e6
 generalize put (put (put (put ρ (some 23) (.ptr (b+3) 0 0 0)) (some 24) (.ptr (b+3) 0 0 0)) (some 25) (.ptr (b+3) 0 0 2)) (some 26) (.bool false)=ρ1 at *
 show Go.Ab.runT _ _ m (.seq (.reg _) .ret) [] ⟨ρ1,g⟩ _=true
 have lv:eO g false 1 (.ptr (b+4) 0 0 0)=some v:=by rw[L.load];rfl
 refine FZ rfl (iD (v:=v) (h':=g) rfl (by simp only[aN,tQ,ev,p6];rw[lv];rfl) ?_)
 have q2:(put ρ1 (some 31) v).get 2=some (.ptr b 0 0 0):=by rw[cO (by decide)];exact p2
 have q3:(put ρ1 (some 31) v).get 3=some (.ptr (b+1) 0 0 0):=by rw[cO (by decide)];exact p3
 have q4:(put ρ1 (some 31) v).get 4=some (.ptr (b+2) 0 0 0):=by rw[cO (by decide)];exact p4
 have q31:(put ρ1 (some 31) v).get 31=some v:=iP
 generalize put ρ1 (some 31) v=ρ2 at *
 obtain⟨g1,s1,b1,w1,y1⟩:=XK R1 lf o
 obtain⟨g2,s2,b2,w2,y2⟩:=XK (v:= .int .i64 0) (b1.var R2 (by omega)) rfl y1
 obtain⟨g3,s3,b3,w3,y3⟩:=XK (v:= .int .i64 0) (b2.var (b1.var R3 (by omega)) (by omega)) rfl y2
 refine iD (v:= .tup []) (h':=g1) rfl (by simp only[aN,tQ,ev,q2,q31];rw[s1];rfl) ?_
 refine iD (v:= .tup []) (h':=g2) rfl (by simp only[aN,tQ,ev,put,q3];rw[s2];rfl) ?_
 refine iD (v:= .tup []) (h':=g3) rfl (by simp only[aN,tQ,ev,put,q4];rw[s3];rfl) (oO ?_)
 refine agp ?_
 show nQ XQ.res K .ret ⟨ρ2,g3⟩=true
 exact aby q2 q3 q4 (b3.var (b2.var w1 (by omega)) (by omega)) (b3.var w2 (by omega)) w3 (k g1 g2 g3 b1 b2 b3 y3)
theorem agh (e2:ρ.get 2=some (.ptr b 0 0 0)) (e3:ρ.get 3=some (.ptr (b+1) 0 0 0)) (e4:ρ.get 4=some (.ptr (b+2) 0 0 0)) (e5:ρ.get 5=some (.ptr (b+3) 0 0 0))
 (V:LX g (b+3) s e true) (R1:Var g b [x]) (R2:Var g (b+1) [y]) (R3:Var g (b+2) [z]) (o:g.Ok)
 (k:∀g1 g2 g3,But b g g1→But (b+1) g1 g2→But (b+2) g2 g3→g3.Ok→K (.tup [.ah, .int .i64 (e:Int), .int .i64 20]) g3=true):
 Go.Ab.runT call df m (VD 4 XQ.body) [] ⟨ρ,g⟩ (nQ XQ.res K)=true:=by
 show Go.Ab.runT _ _ m (.seq (.seq (.reg _) (.cond _ _ _)) (.seq (.reg _) .ret)) [] ⟨ρ,g⟩ _=true
 refine Zg (IG (q_reg ?_))
 refine iD (v:= .ptr (b+3) 0 0 0) (h':=g) rfl (by simp only[aN,tQ,ev,e5];rfl) ?_
 refine iD (v:= .ptr (b+3) 0 0 0) (h':=g) rfl (by simp only[aN,tQ,ev,iP];rfl) ?_
 refine iD (v:= .ptr (b+3) 0 0 2) (h':=g) rfl (by simp only[aN,tQ,ev,iP];rfl) ?_
 refine iD (v:= .bool true) (h':=g) rfl (by simp only[aN,tQ,ev,iP];rw[LX.l2 V];rfl) (oO ?_)
 refine Vo (by simp only[ev,iP]) ?_
 have p2:(put (put (put (put ρ (some 23) (.ptr (b+3) 0 0 0)) (some 24) (.ptr (b+3) 0 0 0)) (some 25) (.ptr (b+3) 0 0 2)) (some 26) (.bool true)).get 2=some (.ptr b 0 0 0):=by
  rw[cO (by decide),cO (by decide),cO (by decide),cO (by decide)];exact e2
 have p3:(put (put (put (put ρ (some 23) (.ptr (b+3) 0 0 0)) (some 24) (.ptr (b+3) 0 0 0)) (some 25) (.ptr (b+3) 0 0 2)) (some 26) (.bool true)).get 3=some (.ptr (b+1) 0 0 0):=by
  rw[cO (by decide),cO (by decide),cO (by decide),cO (by decide)];exact e3
 have p4:(put (put (put (put ρ (some 23) (.ptr (b+3) 0 0 0)) (some 24) (.ptr (b+3) 0 0 0)) (some 25) (.ptr (b+3) 0 0 2)) (some 26) (.bool true)).get 4=some (.ptr (b+2) 0 0 0):=by
  rw[cO (by decide),cO (by decide),cO (by decide),cO (by decide)];exact e4
 have p5:(put (put (put (put ρ (some 23) (.ptr (b+3) 0 0 0)) (some 24) (.ptr (b+3) 0 0 0)) (some 25) (.ptr (b+3) 0 0 2)) (some 26) (.bool true)).get 5=some (.ptr (b+3) 0 0 0):=by
  rw[cO (by decide),cO (by decide),cO (by decide),cO (by decide)];exact e5
 generalize put (put (put (put ρ (some 23) (.ptr (b+3) 0 0 0)) (some 24) (.ptr (b+3) 0 0 0)) (some 25) (.ptr (b+3) 0 0 2)) (some 26) (.bool true)=ρ1 at *
 refine IG (abe (jY (v:= .ptr (b+3) 0 0 0) (h':=g) (by simp only[aN,tQ,ev,p5];rfl) (jY (v:= .ptr (b+3) 0 0 0) (h':=g) (by simp only[aN,tQ,ev,iP];rfl) (jY (v:= .ptr (b+3) 0 0 1) (h':=g) (by simp only[aN,tQ,ev,iP];rfl)
  (jY (v:= .int .i64 (e:Int)) (h':=g) (by simp only[aN,tQ,ev,iP];rw[LX.l1 V];rfl) rfl)))) ?_)
 have q2:(put (put (put (put ρ1 (some 27) (.ptr (b+3) 0 0 0)) (some 28) (.ptr (b+3) 0 0 0)) (some 29) (.ptr (b+3) 0 0 1)) (some 30) (.int .i64 (e:Int))).get 2=some (.ptr b 0 0 0):=by
  rw[cO (by decide),cO (by decide),cO (by decide),cO (by decide)];exact p2
 have q3:(put (put (put (put ρ1 (some 27) (.ptr (b+3) 0 0 0)) (some 28) (.ptr (b+3) 0 0 0)) (some 29) (.ptr (b+3) 0 0 1)) (some 30) (.int .i64 (e:Int))).get 3=some (.ptr (b+1) 0 0 0):=by
  rw[cO (by decide),cO (by decide),cO (by decide),cO (by decide)];exact p3
 have q4:(put (put (put (put ρ1 (some 27) (.ptr (b+3) 0 0 0)) (some 28) (.ptr (b+3) 0 0 0)) (some 29) (.ptr (b+3) 0 0 1)) (some 30) (.int .i64 (e:Int))).get 4=some (.ptr (b+2) 0 0 0):=by
  rw[cO (by decide),cO (by decide),cO (by decide),cO (by decide)];exact p4
 have q29:(put (put (put (put ρ1 (some 27) (.ptr (b+3) 0 0 0)) (some 28) (.ptr (b+3) 0 0 0)) (some 29) (.ptr (b+3) 0 0 1)) (some 30) (.int .i64 (e:Int))).get 29=some (.ptr (b+3) 0 0 1):=by
  rw[cO (by decide),iP]
 have q30:(put (put (put (put ρ1 (some 27) (.ptr (b+3) 0 0 0)) (some 28) (.ptr (b+3) 0 0 0)) (some 29) (.ptr (b+3) 0 0 1)) (some 30) (.int .i64 (e:Int))).get 30=some (.int .i64 (e:Int)):=iP
 generalize put (put (put (put ρ1 (some 27) (.ptr (b+3) 0 0 0)) (some 28) (.ptr (b+3) 0 0 0)) (some 29) (.ptr (b+3) 0 0 1)) (some 30) (.int .i64 (e:Int))=ρ2 at *
 obtain⟨g1,s1,b1,w1,y1⟩:=XK (v:= .ah) R1 rfl o
 obtain⟨g2,s2,b2,w2,y2⟩:=XK (v:= .int .i64 (e:Int)) (b1.var R2 (by omega)) rfl y1
 obtain⟨g3,s3,b3,w3,y3⟩:=XK (v:= .int .i64 20) (b2.var (b1.var R3 (by omega)) (by omega)) rfl y2
 have V1:LX g1 (b+3) s e true:=b1.var V (by omega)
 refine YC (v:= .tup []) (h':=g1) (ρ':=ρ2) rfl rfl (by simp only[aN,tQ,ev,q2];rw[s1];rfl)
  (aac (v:= .int .i64 (e:Int)) (h':=g1) (by simp only[aN,tQ,ev,put,q29];rw[LX.l1 V1];rfl) q30 (Ho _ _)) rfl ?_
 refine YC (v:= .tup []) (h':=g2) (ρ':=ρ2) rfl rfl (by simp only[aN,tQ,ev,q3,q30];rw[s2];rfl) rfl rfl ?_
 refine YC (v:= .tup []) (h':=g3) (ρ':=ρ2) rfl rfl (by simp only[aN,tQ,ev,q4];rw[s3];rfl) rfl rfl (adQ ?_)
 refine ad5 ?_
 show nQ XQ.res K .ret ⟨ρ2,g3⟩=true
 exact aby q2 q3 q4 (b3.var (b2.var w1 (by omega)) (by omega)) (b3.var w2 (by omega)) w3 (k g1 g2 g3 b1 b2 b3 y3)
end
theorem c13 {n:Nat} {h:aj} {s:Str} {K:aM} (ho:h.Ok) (hL:2*s.length+4<most) (hb:∀b∈s,b<256) (hn:s.length<n) (hn6:6≤n)
 (k:∀v h',Ext h h'→h'.Ok→ai6 h.sz h' v (uG s)→K v h'=true):au E (n+8) (.func 13) [.str s] h K=true:=by
 have hp:E.prim 13=none:=rfl
 have hc:E.code 13=some XQ:=rfl
 show au E (n+7+1) (.func 13) [.str s] h K=true
 have st:∀m,Go.Ab.runT (au E m) (Az E (au E m) m) m XQ.body [] ⟨qb 0 [.str s] .lf,h⟩ (nQ XQ.res K)=true→au E (m+1) (.func 13) [.str s] h K=true:=by
  intro m q
  simp only[au,hp,hc]
  exact q
 refine st (n+7) ?_
 refine FZ rfl ?_
 have A1:pG h [AV.ah]=some (.ptr h.sz 0 0 0,Ab.newRow h [[AV.ah]] 1):=alloc_eq (by decide) rfl
 refine iD rfl A1 ?_
 have e1:=iH ho [[AV.ah]] 1
 have o1:=ji ho [[AV.ah]] 1
 have V1:Var (Ab.newRow h [[AV.ah]] 1) h.sz [AV.ah]:=nY h [AV.ah]
 have s1:(Ab.newRow h [[AV.ah]] 1).sz=h.sz+1:=rfl
 generalize Ab.newRow h [[AV.ah]] 1=h1 at *
 have A2:pG h1 [AV.int .i64 0]=some (.ptr h1.sz 0 0 0,Ab.newRow h1 [[AV.int .i64 0]] 1):=alloc_eq (by decide) rfl
 refine iD rfl A2 ?_
 have e2:=iH o1 [[AV.int .i64 0]] 1
 have o2:=ji o1 [[AV.int .i64 0]] 1
 have V2:Var (Ab.newRow h1 [[AV.int .i64 0]] 1) h1.sz [AV.int .i64 0]:=nY h1 [AV.int .i64 0]
 have s2:(Ab.newRow h1 [[AV.int .i64 0]] 1).sz=h1.sz+1:=rfl
 generalize Ab.newRow h1 [[AV.int .i64 0]] 1=h2 at *
 have A3:pG h2 [AV.int .i64 0]=some (.ptr h2.sz 0 0 0,Ab.newRow h2 [[AV.int .i64 0]] 1):=alloc_eq (by decide) rfl
 refine iD rfl A3 (oO ?_)
 have e3:=iH o2 [[AV.int .i64 0]] 1
 have o3:=ji o2 [[AV.int .i64 0]] 1
 have V3:Var (Ab.newRow h2 [[AV.int .i64 0]] 1) h2.sz [AV.int .i64 0]:=nY h2 [AV.int .i64 0]
 have s3:(Ab.newRow h2 [[AV.int .i64 0]] 1).sz=h2.sz+1:=rfl
 generalize Ab.newRow h2 [[AV.int .i64 0]] 1=h3 at *
 show Go.Ab.runT _ _ _ (.seq (.reg _) _) _ _ _=true
 refine FZ rfl (iD (v:= .str s) (h':=h3) rfl rfl (iD (v:= .agg [.str s, .int .i64 ((0:Nat):Int), .bool false]) (h':=h3) rfl rfl ?_))
 have A4:nK h3 none 3 (.agg [.str s, .int .i64 ((0:Nat):Int), .bool false])=some (.ptr h3.sz 0 0 0,Ab.newRow h3 [[.str s, .int .i64 ((0:Nat):Int), .bool false]] 3):=NS (n:=3) rfl (by decide) rfl
 refine iD rfl A4 (iD (v:= .ptr h3.sz 0 0 0) (h':=Ab.newRow h3 [[.str s, .int .i64 ((0:Nat):Int), .bool false]] 3) rfl rfl (oO ?_))
 have e4:=iH o3 [[.str s, .int .i64 ((0:Nat):Int), .bool false]] 3
 have o4:=ji o3 [[.str s, .int .i64 ((0:Nat):Int), .bool false]] 3
 have V4:LX (Ab.newRow h3 [[.str s, .int .i64 ((0:Nat):Int), .bool false]] 3) h3.sz s 0 false:=nY h3 [.str s, .int .i64 ((0:Nat):Int), .bool false]
 have s4:(Ab.newRow h3 [[.str s, .int .i64 ((0:Nat):Int), .bool false]] 3).sz=h3.sz+1:=rfl
 generalize Ab.newRow h3 [[.str s, .int .i64 ((0:Nat):Int), .bool false]] 3=h4 at *
 have A5:pG h4 [AV.ah]=some (.ptr h4.sz 0 0 0,Ab.newRow h4 [[AV.ah]] 1):=alloc_eq (by decide) rfl
 show Go.Ab.runT _ _ _ (.seq (.reg _) _) _ _ _=true
 refine FZ rfl (iD rfl A5 (oO ?_))
 have e5:=iH o4 [[AV.ah]] 1
 have o5:=ji o4 [[AV.ah]] 1
 have V5:Var (Ab.newRow h4 [[AV.ah]] 1) h4.sz [AV.ah]:=nY h4 [AV.ah]
 have s5:(Ab.newRow h4 [[AV.ah]] 1).sz=h4.sz+1:=rfl
 generalize Ab.newRow h4 [[AV.ah]] 1=h5 at *
 show Go.Ab.runT _ _ _ (.seq (.seq _ _) _) _ _ _=true
 refine Zg (IG (q_reg ?_))
 refine iD (v:= .ptr h3.sz 0 0 0) (h':=h5) rfl rfl (U1 (tgt:= .func 24) (first:=[]) (cap:=[]) (vs:=[.ptr h3.sz 0 0 0]) rfl rfl ?_)
 show au E (n+7) (.func 24) [.ptr h3.sz 0 0 0] h5 _=true
 apply d24
 unfold s24
 have A6:nK h5 none 1 (.ptr h3.sz 0 0 0)=some (.ptr h5.sz 0 0 0,Ab.newRow h5 [[AV.ptr h3.sz 0 0 0]] 1):=NS (n:=1) rfl (by decide) rfl
 refine aa0 A6 ?_
 have e6:=iH o5 [[AV.ptr h3.sz 0 0 0]] 1
 have o6:=ji o5 [[AV.ptr h3.sz 0 0 0]] 1
 have V6:Var (Ab.newRow h5 [[AV.ptr h3.sz 0 0 0]] 1) h5.sz [AV.ptr h3.sz 0 0 0]:=nY h5 [AV.ptr h3.sz 0 0 0]
 have s6:(Ab.newRow h5 [[AV.ptr h3.sz 0 0 0]] 1).sz=h5.sz+1:=rfl
 generalize Ab.newRow h5 [[AV.ptr h3.sz 0 0 0]] 1=h6 at *
 refine aS ?_
 have z1:h1.sz=h.sz+1:=s1
 have z2:h2.sz=h.sz+2:=by omega
 have z3:h3.sz=h.sz+3:=by omega
 have z4:h4.sz=h.sz+4:=by omega
 have z5:h5.sz=h.sz+5:=by omega
 have z6:h6.sz=h.sz+6:=by omega
 rw[z1] at V2
 rw[z2] at V3
 rw[z3] at V4 V6
 rw[z4] at V5
 rw[z5] at V6
 rw[z1,z2,z3,z4,z5]
 have e7:=tL o6 (Lp (iA h.sz s) [13] nE jI .ready)
 have I0:GJ h s (iA h.sz s) (h6.push (Lp (iA h.sz s) [13] nE jI .ready)) 0 false []:=by
  refine⟨e1.trans (e2.trans (e3.trans (e4.trans (e5.trans (e6.trans e7))))),o6.push _,by simp[z6],V1.ext (e2.trans (e3.trans (e4.trans (e5.trans (e6.trans e7))))),V2.ext (e3.trans (e4.trans (e5.trans (e6.trans e7)))),V3.ext (e4.trans (e5.trans (e6.trans e7))),Var.ext V4 (e5.trans (e6.trans e7)),⟨.ah,V5.ext (e6.trans e7),Own.nil _ _ _⟩,V6.ext e7, ?_⟩
  rw[←z6];exact zW _ _
 refine oO ?_
 refine VA (ajR (fid:=43) (first:=[]) (cap:=[.ptr (h.sz+5) 0 0 0]) rfl ?_)
 show au E (n+7) (.func 43) [.fn (.yield h6.sz) [] [], .ptr (h.sz+5) 0 0 0] (h6.push (Lp (iA h.sz s) [13] nE jI .ready)) _=true
 apply d43
 unfold s43
 rw[z6]
 refine l43 ho hL hb hn hn6 (n+6) 0 (s.length+1) [] _ I0 (by omega) (by omega) (by omega) (by simp) ?_ ?_ ?_
 ·intro l h' a' hl I'
  have hl':uG s= .ok l:=hl
  have y:=I'.y
  unfold Lp at y
  rw[show jk (AV.tup [])=none from rfl]
  simp only[y]
  have B:=But.put (h.sz+6) h' (.loop {regs:=iA h.sz s,ps:=[13],asg:=nE,body:=jI,st:= .exh})
  have sz':=I'.sz
  have X':=B.ext I'.ext ho (by omega)
  have O':=I'.ok.put (show h.sz+6<h'.sz by omega) (.loop {regs:=iA h.sz s,ps:=[13],asg:=nE,body:=jI,st:= .exh})
  have LXx:=B.var I'.lx (by omega)
  obtain⟨v,L,OO⟩:=I'.l
  have L':=B.var L (by omega)
  have OO':=B.own OO
  have R1:=B.var I'.r1 (by omega)
  have R2:=B.var I'.r2 (by omega)
  have R3:=B.var I'.r3 (by omega)
  generalize h'.put (h.sz+6) (.loop {regs:=iA h.sz s,ps:=[13],asg:=nE,body:=jI,st:= .exh})=g at *
  have lf:v.leaf=true:=OO.view.leaf
  refine ajI (b:=h.sz) (s:=s) (a:=a') (x:= .ah) (y:= .int .i64 0) (z:= .int .i64 0) (v:=v) rfl rfl rfl rfl rfl LXx L' lf R1 R2 R3 O' fun g1 g2 g3 b1 b2 b3 y3=> ?_
  have EX:=b3.ext (b2.ext (b1.ext X' ho (by omega)) ho (by omega)) ho (by omega)
  have OW:=b3.own (b2.own (b1.own (OO' (by omega)) (by omega)) (by omega)) (by omega)
  refine k _ _ EX y3 ?_
  rw[hl']
  exact⟨v,rfl,by rw[List.nil_append] at OW;exact OW.low (by omega)⟩
 ·intro e l h' hl I'
  have hl':uG s= .error e:=hl
  have y:=I'.y
  unfold Lp at y
  rw[show jk (AV.tup [])=none from rfl]
  simp only[y]
  have B:=But.put (h.sz+6) h' (.loop {regs:=iA h.sz s,ps:=[13],asg:=nE,body:=jI,st:= .exh})
  have sz':=I'.sz
  have X':=B.ext I'.ext ho (by omega)
  have O':=I'.ok.put (show h.sz+6<h'.sz by omega) (.loop {regs:=iA h.sz s,ps:=[13],asg:=nE,body:=jI,st:= .exh})
  have LXx:=B.var I'.lx (by omega)
  have R1:=B.var I'.r1 (by omega)
  have R2:=B.var I'.r2 (by omega)
  have R3:=B.var I'.r3 (by omega)
  generalize h'.put (h.sz+6) (.loop {regs:=iA h.sz s,ps:=[13],asg:=nE,body:=jI,st:= .exh})=g at *
  refine agh (b:=h.sz) (s:=s) (e:=e) (x:= .ah) (y:= .int .i64 0) (z:= .int .i64 0) rfl rfl rfl rfl LXx R1 R2 R3 O' fun g1 g2 g3 b1 b2 b3 y3=> ?_
  have EX:=b3.ext (b2.ext (b1.ext X' ho (by omega)) ho (by omega)) ho (by omega)
  refine k _ _ EX y3 ?_
  rw[hl']
  rfl
 ·intro e h' hl S'
  have hl':uG s= .error e:=hl
  have y:=S'.y
  unfold Lp at y
  rw[show jk (AV.tup [])=none from rfl]
  simp only[y]
  have B:=But.put (h.sz+6) h' (.loop {regs:=iA h.sz s,ps:=[13],asg:=nE,body:=jI,st:= .exh})
  have sz':=S'.sz
  show nQ XQ.res K .ret ⟨iA h.sz s,h'.put (h.sz+6) (.loop {regs:=iA h.sz s,ps:=[13],asg:=nE,body:=jI,st:= .exh})⟩=true
  refine aby (b:=h.sz) rfl rfl rfl (B.var S'.r1 (by omega)) (B.var S'.r2 (by omega)) (B.var S'.r3 (by omega)) ?_
  refine k _ _ (B.ext S'.ext ho (by omega)) (S'.ok.put (by omega) _) ?_
  rw[hl']
  rfl
def nZ:Nat→Nat→Str→Except Nat (List Lx)
 |0,_,_=> .ok []
 |f+1,p,l=>if l.length≤skip false l then .ok [] else match mR (l.drop (skip false l)) with
  |none=> .error (p+skip false l)
  |some (kd,t,m)=>match nZ f (p+skip false l+m) (l.drop (skip false l+m)) with
   | .error e=> .error e
   | .ok r=> .ok (⟨kd,t,p+skip false l,p+skip false l+m⟩ :: r)
theorem Xm:∀(f:Nat) (s:Str) (a k:Nat),a≤s.length→k+(s.length-a)≤4096→Ey f s a k=nZ f a (s.drop a)
 |0,_,_,_,_,_=>rfl
 |f+1,s,a,k,ha,hk=>by
  simp only[Ey,nZ]
  have hle:=uj false (s.drop a)
  simp only[List.length_drop] at hle ⊢
  by_cases hend:s.length≤a+skip false (s.drop a)
  ·rw[if_pos hend,if_pos (by omega)]
  ·rw[if_neg hend,if_neg (by omega),List.drop_drop]
   cases hn:mR (s.drop (a+skip false (s.drop a))) with
   |none=>rfl
   |some r=>
    obtain⟨kd,t,m⟩:=r
    have hm:=vY hn
    simp only[List.length_drop] at hm
    simp only
    rw[if_neg (by omega),Xm f s _ (k+1) (by omega) (by omega),List.drop_drop]
    rw[show a+(skip false (s.drop a)+m)=a+skip false (s.drop a)+m by omega]
    all_goals(cases nZ f (a+skip false (s.drop a)+m) (s.drop (a+skip false (s.drop a)+m))<;>rfl)
theorem V9 {s:Str} (h:s.length≤4096):uG s=nZ (s.length+1) 0 s:=by
 unfold uG
 rw[Xm _ s 0 0 (by omega) (by omega),List.drop_zero]
theorem Dl:∀(f p:Nat) (l:Str) (r:List Lx),nZ f p l= .ok r→r.length≤l.length∧∀y∈r,p≤y.beg∧y.beg<y.fin∧y.fin≤p+l.length
 |0,_,_,_,h=>by cases h;exact⟨by simp,fun _ h=>by cases h⟩
 |f+1,p,l,r,h=>by
  simp only[nZ] at h
  by_cases hend:l.length≤skip false l
  ·rw[if_pos hend] at h;cases h;exact⟨by simp,fun _ h=>by cases h⟩
  ·rw[if_neg hend] at h
   cases hn:mR (l.drop (skip false l)) with
   |none=>rw[hn] at h;cases h
   |some q=>
    obtain⟨kd,t,m⟩:=q
    have hm:=vY hn
    simp only[List.length_drop] at hm
    rw[hn] at h
    simp only at h
    cases hr:nZ f (p+skip false l+m) (l.drop (skip false l+m)) with
    |error e=>rw[hr] at h;cases h
    |ok r'=>
     rw[hr] at h
     have ih:=Dl f _ _ r' hr
     simp only[List.length_drop] at ih
     cases h
     refine⟨by simp only[List.length_cons];omega,fun y hy=> ?_⟩
     rcases List.mem_cons.1 hy with rfl |hy
     ·exact⟨by simp only;omega,by simp only;omega,by simp only;omega⟩
     ·have:=ih.2 y hy
      omega
theorem WV:∀(l:Str) (a:Nat),(∀c∈l,fP c=true)→(pM l a).isSome=true
 | [],a,_=>rfl
 |c :: l,a,h=>by
  have hc:=h c List.mem_cons_self
  unfold fP at hc
  simp only[Bool.and_eq_true,decide_eq_true_eq] at hc
  unfold pM
  rw[aI.2 hc.1,aI.2 hc.2,Bool.and_self,cond_true]
  cases Nat.ble 1844674407370955162 a with
  |true=>rfl
  |false=>
   rw[cond_false]
   cases Nat.blt 18446744073709551615 (a*10+(c-48)) with
   |true=>rfl
   |false=>rw[cond_false];exact WV l _ fun d hd=>h d (List.mem_cons_of_mem _ hd)
theorem Yn {t:Str} (h0:t≠[]) (h:∀c∈t,fP c=true):(pI t).isSome=true∧∀v,pI t=some (some v)→0≤v:=by
 cases t with
 |nil=>exact absurd rfl h0
 |cons c r=>
  have hc:=h c List.mem_cons_self
  unfold fP at hc
  simp only[Bool.and_eq_true,decide_eq_true_eq] at hc
  have e1:Nat.beq c 43=false:=dh.2 (by omega)
  have e2:Nat.beq c 45=false:=dh.2 (by omega)
  have hp:=WV (c :: r) 0 h
  unfold pI pU
  simp only[e1,e2,Bool.or_self,cond_false]
  cases e:pM (c :: r) 0 with
  |none=>rw[e] at hp;cases hp
  |some x=>
   cases x with
   |none=>exact⟨rfl,fun v q=>by cases q⟩
   |some u=>
    simp only
    cases Nat.ble 9223372036854775808 u with
    |true=>exact⟨rfl,fun v q=>by cases q⟩
    |false=>exact⟨rfl,fun v q=>by cases q;exact Int.natCast_nonneg u⟩
theorem Vr {p:Nat→Bool}:∀(l:Str),l.take (l.takeWhile p).length=l.takeWhile p
 | []=>rfl
 |c :: l=>by
  rw[List.takeWhile_cons]
  split
  ·rw[List.length_cons,List.take_succ_cons,Vr l]
  ·rfl
theorem abf {l:Str} {t:Str} {m:Nat} (h:mR l=some (2,t,m)):t≠[]∧(∀c∈t,fP c=true)∧t.length≤l.length:=by
 cases l with
 |nil=>cases h
 |cons c l=>
  have h:(if jv c=true then some (0,(c :: l).take (jW (c :: l)),jW (c :: l))
   else if c=36 then(if 0<jW l then some (1,l.take (jW l),jW l+1) else none)
   else if fP c=true then some (2,(c :: l).take ((c :: l).takeWhile fP).length,((c :: l).takeWhile fP).length)
   else if c=34 then(quo l).map fun r=>(3,r.1,r.2+1)
   else if 0<jo (c :: l) then some (4,(c :: l).take (jo (c :: l)),jo (c :: l)) else none)=some (2,t,m):=h
  by_cases h1:jv c=true
  ·rw[if_pos h1] at h;cases h
  rw[if_neg h1] at h
  by_cases h2:c=36
  ·rw[if_pos h2] at h
   by_cases h3:0<jW l
   ·rw[if_pos h3] at h;cases h
   ·rw[if_neg h3] at h;cases h
  rw[if_neg h2] at h
  by_cases hd:fP c=true
  ·rw[if_pos hd,Vr] at h
   cases h
   refine⟨?_,fun d hm=> ?_,CW _⟩
   ·rw[List.takeWhile_cons,if_pos hd];simp
   ·exact List.all_eq_true.1 (List.all_takeWhile (l:=c :: l) (p:=fP)) d hm
  rw[if_neg hd] at h
  by_cases h4:c=34
  ·rw[if_pos h4] at h
   cases e:quo l with
   |none=>rw[e] at h;cases h
   |some r=>rw[e] at h;cases h
  rw[if_neg h4] at h
  by_cases h5:0<jo (c :: l)
  ·rw[if_pos h5] at h;cases h
  ·rw[if_neg h5] at h;cases h
theorem Pg:∀(f p:Nat) (l:Str) (r:List Lx),nZ f p l= .ok r→∀y∈r,y.kind=2→y.text≠[]∧(∀c∈y.text,fP c=true)∧y.text.length≤l.length
 |0,_,_,_,h=>by cases h;intro y hy;cases hy
 |f+1,p,l,r,h=>by
  simp only[nZ] at h
  by_cases hend:l.length≤skip false l
  ·rw[if_pos hend] at h;cases h;intro y hy;cases hy
  ·rw[if_neg hend] at h
   cases hn:mR (l.drop (skip false l)) with
   |none=>rw[hn] at h;cases h
   |some q=>
    obtain⟨kd,t,m⟩:=q
    rw[hn] at h
    simp only at h
    cases hr:nZ f (p+skip false l+m) (l.drop (skip false l+m)) with
    |error e=>rw[hr] at h;cases h
    |ok r'=>
     rw[hr] at h
     have ih:=Pg f _ _ r' hr
     cases h
     intro y hy hk
     rcases List.mem_cons.1 hy with rfl |hy
     ·simp only at hk
      subst hk
      have:=abf hn
      simp only[List.length_drop] at this
      exact⟨this.1,this.2.1,by simp only;omega⟩
     ·have:=ih y hy hk
      simp only[List.length_drop] at this
      exact⟨this.1,this.2.1,by omega⟩
theorem NC:∀(f:Nat) (s:Str) (a k:Nat) (r:List Lx),Ey f s a k= .ok r→a≤s.length→nZ f a (s.drop a)= .ok r∧(k≤4096→k+r.length≤4096)
 |0,s,a,k,r,h,ha=>by cases h;exact⟨rfl,fun h=>h⟩
 |f+1,s,a,k,r,h,ha=>by
  simp only[Ey] at h
  simp only[nZ]
  have hle:=uj false (s.drop a)
  simp only[List.length_drop] at hle ⊢
  by_cases hend:s.length≤a+skip false (s.drop a)
  ·rw[if_pos hend] at h
   rw[if_pos (by omega)]
   cases h;exact⟨rfl,fun h=>h⟩
  ·rw[if_neg hend] at h
   rw[if_neg (by omega),List.drop_drop]
   cases hn:mR (s.drop (a+skip false (s.drop a))) with
   |none=>rw[hn] at h;cases h
   |some q=>
    obtain⟨kd,t,m⟩:=q
    have hm:=vY hn
    simp only[List.length_drop] at hm
    rw[hn] at h
    simp only at h ⊢
    by_cases hk:4096≤k
    ·rw[if_pos hk] at h;cases h
    ·rw[if_neg hk] at h
     cases hr:Ey f s (a+skip false (s.drop a)+m) (k+1) with
     |error e=>rw[hr] at h;cases h
     |ok r'=>
      rw[hr] at h
      obtain⟨i1,i2⟩:=NC f s _ _ r' hr (by omega)
      cases h
      rw[List.drop_drop,show a+(skip false (s.drop a)+m)=a+skip false (s.drop a)+m by omega,i1]
      exact⟨rfl,fun _=>by have:=i2 (by omega);simp only[List.length_cons];omega⟩
theorem M9 {s:Str} {l:List Lx} (h:s.length≤60000) (e:uG s= .ok l):dK l s.length 0 0:=by
 obtain⟨e,h1⟩:=NC _ _ _ _ _ e (Nat.zero_le _)
 rw[List.drop_zero] at e
 have h1:=h1 (by omega)
 obtain⟨_,h2⟩:=Dl _ _ _ _ e
 have h3:=Pg _ _ _ _ e
 have hlim:lim=4611686018427387904:=rfl
 refine⟨by omega,Nat.zero_le _,by omega,by omega,fun j=> ?_,fun y hy hk=> ?_⟩
 ·unfold LQ
  cases hj:l[j]? with
  |none=>simp only;omega
  |some y=>have:=h2 y (List.mem_of_getElem? hj);simp only;omega
 ·obtain⟨q1,q2,q3⟩:=h3 y hy hk
  obtain⟨q4,q5⟩:=Yn q1 q2
  exact⟨q4,by omega,q5⟩
section
variable {h h':aj} {L:jq} {S:List Sl} {F:List (aj→Prop)} {n:Nat} {K:aM}
theorem _root_.Go.Ab.Cx.ext (A:Cx h L S F) (e:Ext h h') (o:h'.Ok):Cx h' L S F:=
 ⟨o,fun x m=>e.2 _ _ (A.has x m),fun s m=>by
   rcases A.sls s m with k |⟨id,g,q,m0,hm,k⟩
   ·exact .inl k
   ·exact .inr ⟨id,g,q,m0,hm,e.2 _ _ k⟩,A.nod,fun R m=>(A.facts R m).step (Kp.ext e _)⟩
theorem _root_.Go.Ab.Cx.ownNew {m:Nat} {u:AV} {es:List (List AV)} (A:Cx h L S F) (e:Ext h h') (o:h'.Ok) (O:Own h.sz h' m u es):Cx h' L S ((fun h=>View h m u es) :: F):=by
 have B:=A.ext e o
 refine⟨B.ok,B.has,B.sls,B.nod,fun R hR=> ?_⟩
 rcases List.mem_cons.1 hR with rfl |hR
 ·intro h2 k
  rcases O with⟨rfl,rfl⟩|⟨id,r,q1,rfl,q2,q3⟩
  ·exact View.nil _ _
  ·have hn:¬id∈places L S:=fun hp=>by have:=A.pl hp;omega
   have:=k.2 id _ hn (aj.row_some.1 q2)
   exact(show Own h.sz h2 m _ es from .inr ⟨id,r,q1,rfl,aj.row_some.2 this,q3⟩).view
 ·exact B.facts R hR
def ajf (s:Str) (L:jq) (S:List Sl) (F:List (aj→Prop)) (K:aM):Except Nat (List Lx)→Prop
 | .ok l=>∀h u,Cx h L S ((fun h=>ab7 u l h) :: F)→K (.tup [u, .int .i64 0, .int .i64 0]) h=true
 | .error e=>∀h,Cx h L S F→K (.tup [.ah, .int .i64 (e:Int), .int .i64 20]) h=true
theorem c7 {s:Str} (hb:∀b∈s,b<256) (hs:s.length≤60000) (hn:s.length+20≤n) (A:Cx h L S F) (H:ajf s L S F K (uG s)):au E n (.func 7) [.str s] h K=true:=by
 obtain⟨n,rfl⟩:∃m,n=m+10:=⟨n-10,by omega⟩
 have hm:most=1099511627776:=rfl
 show au E (n+9+1) _ _ _ _=true
 apply d7
 unfold s7
 refine iT (nR ?_)
 rw[decide_eq_false (by omega)]
 refine bg ?_
 refine c13 (n:=n+1) A.ok (by omega) hb (by omega) (by omega) fun v h' e o a=> ?_
 cases hl:uG s with
 |ok l=>
  rw[hl] at a H
  obtain⟨u,rfl,O⟩:=a
  refine aG rfl (jL (jG (uI ?_)))
  exact H _ _ (A.ownNew e o O)
 |error x=>
  rw[hl] at a H
  cases a
  refine aG rfl (jL (jG (uI ?_)))
  exact H _ (A.ext e o)
end
def Qm (d:Nat) (T U:List Lx):Prop:=∀i:Nat,(U[d+i]?).map (fun l=>(l.kind,l.text))=(T[i]?).map fun l=>(l.kind,l.text)
def Lb.mv {α:Type} (d:Nat):Lb α→Lb α
 | .ok v i o=> .ok v (d+i) o
 | .fail i=> .fail (d+i)
 | .out=> .out
theorem Qm.none {d:Nat} {T U:List Lx} (q:Qm d T U) {i:Nat} (e:T[i]? =none):U[d+i]? =none:=by
 have:=q i
 rw[e] at this
 cases h:U[d+i]? with
 |none=>rfl
 |some l=>rw[h] at this;cases this
theorem Qm.some {d:Nat} {T U:List Lx} (q:Qm d T U) {i:Nat} {l:Lx} (e:T[i]? =some l):∃m,U[d+i]? =some m∧m.kind=l.kind∧m.text=l.text:=by
 have:=q i
 rw[e] at this
 cases h:U[d+i]? with
 |none=>rw[h] at this;cases this
 |some m=>
  rw[h] at this
  simp only[Option.map_some,Option.some.injEq,Prod.mk.injEq] at this
  exact⟨m,rfl,this.1,this.2⟩
structure Te (c:List Lx→Nat→Bool):Prop where
 loc:∀T U i,i<T.length→c (T++U) i=c T i
 sf:∀T U d i,Qm d T U→c U (d+i)=c T i
theorem Cg {T U:List Lx} {i:Nat} (h:i<T.length):(T++U)[i]? =T[i]? :=List.getElem?_append_left h
theorem fJ (s:Str):Te fun T i=>bN T i s:=by
 refine⟨fun T U i h=> ?_,fun T U d i q=> ?_⟩
 ·simp only[bN,Cg h]
 ·simp only[bN]
  cases e:T[i]? with
  |none=>rw[q.none e]
  |some l=>obtain⟨m,e1,e2,e3⟩:=q.some e;rw[e1];simp only[e2,e3]
theorem QT:Te fun T i=>om T i:=by
 refine⟨fun T U i h=> ?_,fun T U d i q=> ?_⟩
 ·simp only[om,Cg h]
 ·simp only[om]
  cases e:T[i]? with
  |none=>rw[q.none e]
  |some l=>obtain⟨m,e1,e2,e3⟩:=q.some e;rw[e1];simp only[e2,e3]
theorem oP (k:Nat):Te fun T i=>dN T i k:=by
 refine⟨fun T U i h=> ?_,fun T U d i q=> ?_⟩
 ·simp only[dN,Cg h]
 ·simp only[dN]
  cases e:T[i]? with
  |none=>rw[q.none e]
  |some l=>obtain⟨m,e1,e2,e3⟩:=q.some e;rw[e1];simp only[e2]
theorem yR {T U:List Lx} {i:Nat} (h:i<T.length):txt (T++U) i=txt T i:=by simp only[txt,Cg h]
theorem Fb {T U:List Lx} {d i:Nat} (q:Qm d T U):txt U (d+i)=txt T i:=by
 simp only[txt]
 cases e:T[i]? with
 |none=>rw[q.none e]
 |some l=>obtain⟨m,e1,e2,e3⟩:=q.some e;rw[e1];simp only[e3]
theorem adI {a b:List Lx→Nat→Bool} (h:Te a) (k:Te b):Te fun T i=>a T i||b T i:=
 ⟨fun T U i l=>by simp only[h.loc T U i l,k.loc T U i l],fun T U d i q=>by simp only[h.sf T U d i q,k.sf T U d i q]⟩
theorem M7 {a b:List Lx→Nat→Bool} (h:Te a) (k:Te b):Te fun T i=>a T i&&b T i:=
 ⟨fun T U i l=>by simp only[h.loc T U i l,k.loc T U i l],fun T U d i q=>by simp only[h.sf T U d i q,k.sf T U d i q]⟩
theorem ae9 (l:List Str):Te fun T i=>l.any fun w=>bN T i w:=by
 induction l with
 |nil=>exact⟨fun _ _ _ _=>rfl,fun _ _ _ _ _=>rfl⟩
 |cons w l ih=>exact adI (fJ w) ih
theorem abI (n:Nat):Te fun T i=>decide ((txt T i).length≤n):=⟨fun T U i h=>by simp only[yR h],fun T U d i q=>by simp only[Fb q]⟩
theorem is_lt {T:List Lx} {i:Nat} {s:Str} (h:bN T i s=true):i<T.length:=by
 unfold bN at h
 cases e:T[i]? with
 |none=>rw[e] at h;cases h
 |some l=>exact(List.getElem?_eq_some_iff.1 e).1
theorem RL {T:List Lx} {i:Nat} (h:om T i=true):i<T.length:=by
 unfold om at h
 cases e:T[i]? with
 |none=>rw[e] at h;cases h
 |some l=>exact(List.getElem?_eq_some_iff.1 e).1
theorem qJ {T:List Lx} {i k:Nat} (h:dN T i k=true):i<T.length:=by
 unfold dN at h
 cases e:T[i]? with
 |none=>rw[e] at h;cases h
 |some l=>exact(List.getElem?_eq_some_iff.1 e).1
abbrev uM (α:Type):=Nat→List Lx→PM α
structure Gd {α:Type} (m:uM α):Prop where
 mono:∀x T i o v i' o',m x T i o= .ok v i' o'→i≤i'
 loc:∀x T U i o v i' o',m x T i o= .ok v i' o'→i'<T.length→m x (T++U) i o= .ok v i' o'
 sf:∀x T U d i o,Qm d T U→m (d+x) U (d+i) o=(m x T i o).mv d
def Cs {α:Type} (m:uM α):Prop:=∀x T i o v i' o',m x T i o= .ok v i' o'→i<i'∧i<T.length
structure LM {α:Type} (m:uM α):Prop where
 mono:∀x T i o v i' o',m x T i o= .ok v i' o'→i≤i'
 cs:Cs m
 loc:∀x T U i o v i' o',m x T i o= .ok v i' o'→m x (T++U) i o= .ok v i' o'
 sf:∀x T U d i o,Qm d T U→m (d+x) U (d+i) o=(m x T i o).mv d
theorem LM.gd {α:Type} {m:uM α} (h:LM m):Gd m:=⟨h.mono,fun x T U i o v i' o' e _=>h.loc x T U i o v i' o' e,h.sf⟩
section
variable {α β:Type}
theorem bO {v:α}:Gd fun _ _=>ret v:=⟨fun _ _ _ _ _ _ _ e=>by cases e;exact Nat.le_refl _,fun _ _ _ _ _ _ _ _ e _=>e,fun _ _ _ _ _ _ _=>rfl⟩
theorem lW:Gd fun _ _=>(uJ:PM α):=⟨fun _ _ _ _ _ _ _ e=>(by cases e),fun _ _ _ _ _ _ _ _ e _=>(by cases e),fun _ _ _ _ _ _ _=>rfl⟩
theorem ac6:Gd fun x _=>(U8 x:PM α):=⟨fun _ _ _ _ _ _ _ e=>(by cases e),fun _ _ _ _ _ _ _ _ e _=>(by cases e),fun _ _ _ _ _ _ _=>rfl⟩
theorem bX {m:PM α} {g:α→PM β} {i:Nat} {o:Int} {v:β} {i':Nat} {o':Int} (h:bnd m g i o= .ok v i' o'):∃w i1 o1,m i o= .ok w i1 o1∧g w i1 o1= .ok v i' o':=by
 unfold bnd at h
 cases e:m i o with
 |ok w i1 o1=>rw[e] at h;exact⟨w,i1,o1,rfl,h⟩
 |fail x=>rw[e] at h;cases h
 |out=>rw[e] at h;cases h
theorem abL {m:PM α} {g:α→PM β} {i:Nat} {o:Int} {w:α} {i1:Nat} {o1:Int} (h:m i o= .ok w i1 o1):bnd m g i o=g w i1 o1:=by unfold bnd;rw[h]
theorem Ii {m:uM α} {g:α→uM β} (h:∀x T U d i o,Qm d T U→m (d+x) U (d+i) o=(m x T i o).mv d) (k:∀v x T U d i o,Qm d T U→g v (d+x) U (d+i) o=(g v x T i o).mv d) {x:Nat} {T U:List Lx} {d i:Nat} {o:Int} (q:Qm d T U):bnd (m (d+x) U) (fun v=>g v (d+x) U) (d+i) o=(bnd (m x T) (fun v=>g v x T) i o).mv d:=by
 unfold bnd
 rw[h x T U d i o q]
 cases m x T i o with
 |ok w i1 o1=>exact k w x T U d i1 o1 q
 |fail x=>rfl
 |out=>rfl
theorem aO {m:uM α} {g:α→uM β} (h:Gd m) (k:∀v,Gd (g v)):Gd fun x T=>bnd (m x T) fun v=>g v x T:=by
 refine⟨fun x T i o v i' o' e=> ?_,fun x T U i o v i' o' e hl=> ?_,fun x T U d i o q=>Ii h.sf (fun v=>(k v).sf) q⟩
 ·obtain⟨w,i1,o1,e1,e2⟩:=bX e
  exact Nat.le_trans (h.mono _ _ _ _ _ _ _ e1) ((k w).mono _ _ _ _ _ _ _ e2)
 ·obtain⟨w,i1,o1,e1,e2⟩:=bX e
  have:=(k w).mono _ _ _ _ _ _ _ e2
  show bnd (m x (T++U)) (fun v=>g v x (T++U)) i o=_
  rw[abL (h.loc x T U _ _ _ _ _ e1 (by omega))]
  exact(k w).loc x T U _ _ _ _ _ e2 hl
theorem jr {m:uM α} {g:α→uM β} (h:Cs m) (k:∀v,Gd (g v)):Cs fun x T=>bnd (m x T) fun v=>g v x T:=by
 intro x T i o v i' o' e
 obtain⟨w,i1,o1,e1,e2⟩:=bX e
 have h1:=h _ _ _ _ _ _ _ e1
 have h2:=(k w).mono _ _ _ _ _ _ _ e2
 omega
theorem WY {m:uM α} {g:α→uM β} (h:Gd m) (k:∀v,Cs (g v)):Cs fun x T=>bnd (m x T) fun v=>g v x T:=by
 intro x T i o v i' o' e
 obtain⟨w,i1,o1,e1,e2⟩:=bX e
 have h1:=h.mono _ _ _ _ _ _ _ e1
 have h2:=k w _ _ _ _ _ _ _ e2
 omega
theorem mh {m:uM α} {g:α→uM β} (h:Gd m) (k:∀v,LM (g v)):LM fun x T=>bnd (m x T) fun v=>g v x T:=by
 refine⟨(aO h fun v=>(k v).gd).mono,WY h fun v=>(k v).cs,fun x T U i o v i' o' e=> ?_,(aO h fun v=>(k v).gd).sf⟩
 obtain⟨w,i1,o1,e1,e2⟩:=bX e
 have h2:=(k w).cs _ _ _ _ _ _ _ e2
 show bnd (m x (T++U)) (fun v=>g v x (T++U)) i o=_
 rw[abL (h.loc x T U _ _ _ _ _ e1 h2.2)]
 exact(k w).loc x T U _ _ _ _ _ e2
theorem yK {m:uM α} {f:α→β} (h:LM m):LM fun x T=>bnd (m x T) fun v=>ret (f v):=by
 have h2:=aO h.gd fun v=>bO (v:=f v)
 refine⟨h2.mono,jr h.cs fun v=>bO (v:=f v),fun x T U i o v i' o' e=> ?_,h2.sf⟩
 obtain⟨w,i1,o1,e1,e2⟩:=bX e
 show bnd (m x (T++U)) (fun v=>ret (f v)) i o=_
 rw[abL (h.loc x T U _ _ _ _ _ e1)]
 exact e2
theorem uo {c:List Lx→Nat→Bool} {m1 m2:uM α} (t:Te c) (h1:Gd m1) (h2:Gd m2):Gd fun x T i o=>if c T i=true then m1 x T i o else m2 x T i o:=by
 refine⟨fun x T i o v i' o' e=> ?_,fun x T U i o v i' o' e hl=> ?_,fun x T U d i o q=> ?_⟩
 ·try simp only at e
  split at e
  ·exact h1.mono _ _ _ _ _ _ _ e
  ·exact h2.mono _ _ _ _ _ _ _ e
 ·try simp only at e ⊢
  have hi:i<T.length:=by
   split at e
   ·exact Nat.lt_of_le_of_lt (h1.mono _ _ _ _ _ _ _ e) hl
   ·exact Nat.lt_of_le_of_lt (h2.mono _ _ _ _ _ _ _ e) hl
  rw[t.loc T U i hi]
  split at e
  ·rename_i hc;rw[if_pos hc];exact h1.loc _ _ _ _ _ _ _ _ e hl
  ·rename_i hc;rw[if_neg hc];exact h2.loc _ _ _ _ _ _ _ _ e hl
 ·try simp only
  rw[t.sf T U d i q]
  split
  ·exact h1.sf _ _ _ _ _ _ q
  ·exact h2.sf _ _ _ _ _ _ q
theorem Ga {c:List Lx→Nat→Bool} {m1 m2:uM α} (h1:Cs m1) (h2:Cs m2):Cs fun x T i o=>if c T i=true then m1 x T i o else m2 x T i o:=by
 intro x T i o v i' o' e
 try simp only at e
 split at e
 ·exact h1 _ _ _ _ _ _ _ e
 ·exact h2 _ _ _ _ _ _ _ e
theorem TG {a b:List Lx→Nat→Bool} {f:Bool→Bool→Bool} {m1 m2:uM α} (ta:Te a) (tb:Te b) (h1:Gd m1) (h2:Gd m2) (k1:Cs m1) (k2:Cs m2):Gd fun x T i o=>if f (a T i) (b T (i+1))=true then m1 x T i o else m2 x T i o:=by
 refine⟨fun x T i o v i' o' e=> ?_,fun x T U i o v i' o' e hl=> ?_,fun x T U d i o q=> ?_⟩
 ·try simp only at e
  split at e
  ·exact h1.mono _ _ _ _ _ _ _ e
  ·exact h2.mono _ _ _ _ _ _ _ e
 ·try simp only at e ⊢
  have hi:i+1<T.length:=by
   split at e
   ·exact Nat.lt_of_le_of_lt (k1 _ _ _ _ _ _ _ e).1 hl
   ·exact Nat.lt_of_le_of_lt (k2 _ _ _ _ _ _ _ e).1 hl
  rw[ta.loc T U i (by omega),tb.loc T U (i+1) hi]
  split at e
  ·rename_i hc;rw[if_pos hc];exact h1.loc _ _ _ _ _ _ _ _ e hl
  ·rename_i hc;rw[if_neg hc];exact h2.loc _ _ _ _ _ _ _ _ e hl
 ·try simp only
  rw[ta.sf T U d i q,Nat.add_assoc,tb.sf T U d (i+1) q]
  split
  ·exact h1.sf _ _ _ _ _ _ q
  ·exact h2.sf _ _ _ _ _ _ q
theorem gD {c:List Lx→Nat→Bool} {m1 m2:uM α} (t:Te c) (h1:Gd m1) (h2:Gd m2):Gd fun x T i o=>if c T i=true then m1 x T (i+1) o else m2 x T i o:=by
 refine uo (m1:=fun x T i o=>m1 x T (i+1) o) t ⟨fun x T i o v i' o' e=> ?_,fun x T U i o v i' o' e hl=>h1.loc _ _ _ _ _ _ _ _ e hl,fun x T U d i o q=> ?_⟩ h2
 ·have:=h1.mono _ _ _ _ _ _ _ e;omega
 ·exact h1.sf x T U d (i+1) o q
theorem lF {c:List Lx→Nat→Bool} {m1 m2:uM α} (l:∀T i,c T i=true→i<T.length) (h1:Gd m1) (h2:Cs m2):Cs fun x T i o=>if c T i=true then m1 x T (i+1) o else m2 x T i o:=by
 intro x T i o v i' o' e
 try simp only at e
 split at e
 ·rename_i hc
  have:=h1.mono _ _ _ _ _ _ _ e
  exact⟨by omega,l _ _ hc⟩
 ·exact h2 _ _ _ _ _ _ _ e
theorem C9 {m:uM α} (h:Gd m):Gd fun _ T i o=>m i T i o:=
 ⟨fun x T i o v i' o' e=>h.mono _ _ _ _ _ _ _ e,fun x T U i o v i' o' e hl=>h.loc _ _ _ _ _ _ _ _ e hl,fun x T U d i o q=>h.sf _ _ _ _ _ _ q⟩
theorem OD {m:uM α} (h:Cs m):Cs fun _ T i o=>m i T i o:=fun x T i o v i' o' e=>h _ _ _ _ _ _ _ e
end
theorem vW (w:Str):Gd fun _ T=>eZ T w:=by
 have:=gD (fJ w) (bO (v:=true)) (bO (v:=false))
 exact this
theorem Nq {T:List Lx} {w:Str} {i:Nat} {o:Int}:bU T w i o=if bN T i w=true then .ok () (i+1) o else .fail i:=by
 unfold bU bnd eZ
 by_cases h:bN T i w=true
 ·rw[if_pos h,if_pos h];rfl
 ·rw[if_neg h,if_neg h];rfl
theorem JB {α:Type}:Gd fun _ _ i _=>(.fail i:Lb α):=⟨fun _ _ _ _ _ _ _ e=>(by cases e),fun _ _ _ _ _ _ _ _ e _=>(by cases e),fun _ _ _ _ _ _ _=>rfl⟩
theorem aa7 {α:Type}:Cs fun _ _ i _=>(.fail i:Lb α):=fun _ _ _ _ _ _ _ e=>by cases e
theorem vD (w:Str):LM fun _ T=>bU T w:=by
 have e:(fun(_:Nat) T=>bU T w)=fun _ T i o=>if bN T i w=true then .ok () (i+1) o else .fail i:=by
  funext x T i o;exact Nq
 rw[e]
 have h:=gD (fJ w) (bO (v:=())) JB
 refine⟨h.mono,lF (fun _ _=>is_lt) bO aa7,fun x T U i o v i' o' e=> ?_,h.sf⟩
 try simp only at e ⊢
 split at e
 ·rename_i hc
  rw[(fJ w).loc T U i (is_lt hc),if_pos hc];exact e
 ·cases e
theorem dM (w:Str):Gd fun _ T=>bU T w:=(vD w).gd
theorem CZ (w:Str):Cs fun _ T=>bU T w:=(vD w).cs
theorem xL {α:Type} {c:List Lx→Nat→Bool} (t:Te c) (l:∀T i,c T i=true→i<T.length) (f:Str→α):LM fun _ T i o=>if c T i=true then .ok (f (txt T i)) (i+1) o else(.fail i:Lb α):=by
 refine⟨fun x T i o v i' o' e=> ?_,fun x T i o v i' o' e=> ?_,fun x T U i o v i' o' e=> ?_,fun x T U d i o q=> ?_⟩
 ·(try simp only at e);split at e<;>cases e;omega
 ·(try simp only at e);split at e<;>cases e;exact⟨by omega,l _ _ (by assumption)⟩
 ·try simp only at e ⊢
  split at e
  ·rename_i hc
   rw[t.loc T U i (l _ _ hc),if_pos hc,yR (l _ _ hc)];exact e
  ·cases e
 ·try simp only
  rw[t.sf T U d i q,Fb q]
  split<;>rfl
theorem eP:LM fun _ T=>fB T:=xL (M7 QT (abI 64)) (fun T i h=>RL (by simp only[Bool.and_eq_true] at h;exact h.1)) id
theorem jy:LM fun _ T=>lX T:=xL (M7 (oP 1) (abI 64)) (fun T i h=>qJ (by simp only[Bool.and_eq_true] at h;exact h.1)) id
theorem mV:LM fun _ T=>iY T:=xL (oP 3) (fun T i h=>qJ h) id
theorem BS:Gd fun x _=>gU x:=by
 refine⟨fun x T i o v i' o' e=> ?_,fun x T U i o v i' o' e _=>e,fun x T U d i o q=> ?_⟩
 ·simp only[gU] at e;split at e<;>cases e;exact Nat.le_refl _
 ·simp only[gU];split<;>rfl
theorem CV:Gd fun _ _=>kD:=⟨fun _ _ _ _ _ _ _ e=>(by cases e;exact Nat.le_refl _),fun _ _ _ _ _ _ _ _ e _=>e,fun _ _ _ _ _ _ _=>rfl⟩
theorem fE (w:Str):Gd fun _ T=>dI T w:=C9 (m:=fun x T=>bnd (bU T w) fun _=>gU x) (aO (dM w) fun _=>BS)
theorem nT (w:Str):Cs fun _ T=>dI T w:=OD (m:=fun x T=>bnd (bU T w) fun _=>gU x) (jr (CZ w) fun _=>BS)
theorem eB (w:Str):LM fun _ T=>bV T w:=by
 have h:=aO (dM w) fun _=>CV
 refine⟨h.mono,jr (CZ w) fun _=>CV,fun x T U i o v i' o' e=> ?_,h.sf⟩
 obtain⟨u,i1,o1,e1,e2⟩:=bX e
 show bnd (bU (T++U) w) (fun _=>kD) i o=_
 rw[abL ((vD w).loc x T U _ _ _ _ _ e1)]
 exact e2
theorem r9 (e:Ex) (l:List Bt):Gd fun x _=>fT x e l:=by
 unfold fT
 split
 ·exact ac6
 ·exact bO
section
variable {σ:Type}
theorem BH {w:Str} {one:σ→uM σ} (h:∀s,Gd (one s)):∀(k:Nat) (first:Bool) (s:σ),Gd fun x T=>qP T w (fun s=>one s x T) k first s
 |0,_,_=>lW
 |k+1,true,s=>uo (fJ w) bO (aO (h s) fun v=>BH h k false v)
 |k+1,false,s=>gD (fJ [44]) (aO (h s) fun v=>BH h k false v) bO
theorem nS {w:Str} {one:σ→uM σ} (h:∀s,Gd (one s)) (k:Nat) (s:σ):LM fun x T=>gq T w (fun s=>one s x T) k s:=
 mh (BH h k true s) fun v=>yK (f:=fun _=>v) (eB w)
end
structure GdX (k:Nat):Prop where
 level:∀lv,Gd fun _ T=>bA T k lv
 levelC:∀lv,Cs fun _ T=>bA T k lv
 ops:∀lv e,Gd fun _ T=>mM T k lv e
 sign:Gd fun _ T=>iJ T k
 signC:Cs fun _ T=>iJ T k
 post:Gd fun _ T=>qg T k
 postC:Cs fun _ T=>qg T k
 dots:∀e,Gd fun _ T=>nG T k e
 atom:Gd fun _ T=>oF T k
 atomC:Cs fun _ T=>oF T k
theorem ZG {α:Type} {c:List Lx→Nat→Bool} {m1:Str→uM α} {m2:uM α} (t:Te c) (h1:∀s,Gd (m1 s)) (h2:Gd m2):Gd fun x T i o=>if c T i=true then m1 (txt T i) x T (i+1) o else m2 x T i o:=by
 refine⟨fun x T i o v i' o' e=> ?_,fun x T U i o v i' o' e hl=> ?_,fun x T U d i o q=> ?_⟩
 ·try simp only at e
  split at e
  ·have:=(h1 _).mono _ _ _ _ _ _ _ e;omega
  ·exact h2.mono _ _ _ _ _ _ _ e
 ·try simp only at e ⊢
  have hi:i<T.length:=by
   split at e
   ·have:=(h1 _).mono _ _ _ _ _ _ _ e;omega
   ·exact Nat.lt_of_le_of_lt (h2.mono _ _ _ _ _ _ _ e) hl
  rw[t.loc T U i hi,yR hi]
  split at e
  ·rename_i hc;rw[if_pos hc];exact(h1 _).loc _ _ _ _ _ _ _ _ e hl
  ·rename_i hc;rw[if_neg hc];exact h2.loc _ _ _ _ _ _ _ _ e hl
 ·try simp only
  rw[t.sf T U d i q,Fb q]
  split
  ·exact(h1 _).sf x T U d (i+1) o q
  ·exact h2.sf _ _ _ _ _ _ q
def opB (T:List Lx) (i lv:Nat):Bool:=match T[i]? with
 |none=>false
 |some l=>(uZ lv l.text).isSome&&decide (l.kind=4)
theorem agz (lv:Nat):Te fun T i=>opB T i lv:=by
 refine⟨fun T U i h=> ?_,fun T U d i q=> ?_⟩
 ·simp only[opB,Cg h]
 ·simp only[opB]
  cases e:T[i]? with
  |none=>rw[q.none e]
  |some l=>obtain⟨m,e1,e2,e3⟩:=q.some e;rw[e1];simp only[e2,e3]
theorem ad4 {T:List Lx} {i lv:Nat} (h:opB T i lv=true):i<T.length:=by
 unfold opB at h
 cases e:T[i]? with
 |none=>rw[e] at h;cases h
 |some l=>exact(List.getElem?_eq_some_iff.1 e).1
theorem Tp {T:List Lx} {k lv:Nat} {e:Bt} {i:Nat} {o:Int}:mM T (k+1) lv e i o=if opB T i lv=true then bnd (bA T k (lv+1)) (fun b=>bnd (fT i (iL ((uZ lv (txt T i)).getD 0) []) [e,b]) fun e'=>if lv=2 then ret e' else mM T k lv e') (i+1) o else .ok e i o:=by
 show(match T[i]? with
  |none=>Lb.ok e i o
  |some l=>match uZ lv l.text with
   |none=> .ok e i o
   |some op=>if l.kind=4 then bnd (bA T k (lv+1)) (fun b=>bnd (fT i (iL op []) [e,b]) fun e'=>if lv=2 then ret e' else mM T k lv e') (i+1) o else .ok e i o)=_
 unfold opB txt
 cases h:T[i]? with
 |none=>rfl
 |some l=>
  simp only
  cases hp:uZ lv l.text with
  |none=>rfl
  |some op=>
   by_cases h4:l.kind=4
   ·simp only[h4,if_true,Option.isSome,decide_true,Bool.and_true,Option.getD]
   ·simp only[h4,if_false,Option.isSome,decide_false,Bool.and_false];rfl
def TI (T:List Lx) (i:Nat):Bool:=match pI (txt T i) with
 |some (some _)=>true
 |_=>false
theorem aeY:Te fun T i=>TI T i:=⟨fun T U i h=>by simp only[TI,yR h],fun T U d i q=>by simp only[TI,Fb q]⟩
def KW (t:Str):Int:=match pI t with
 |some (some n)=>n
 |_=>0
theorem Hg (k:Nat):(fun(_:Nat) T=>oF T (k+1))=fun(_:Nat) T i o=>(fun(x:Nat) T i o=>
 if dN T i 2=true then(if(dN T i 2&&TI T i)=true then .ok (lit (.mk 2 false (KW (txt T i)) [] [])) (i+1) o else(.fail i:Lb Bt))
 else if dN T i 3=true then(fun s (_:Nat) (_:List Lx)=>ret (lit (.mk 3 false 0 s []))) (txt T i) x T (i+1) o
 else if bN T i [116,114,117,101]=true then ret (lit (.mk 1 true 0 [] [])) (i+1) o
 else if bN T i [102,97,108,115,101]=true then ret (lit (.mk 1 false 0 [] [])) (i+1) o
 else if bN T i [110,117,108,108]=true then ret (lit OA) (i+1) o
 else if dN T i 1=true then(bnd (lX T) fun t=>ret (⟨iL 2 t,1⟩:Bt)) i o
 else if bN T i [40]=true then(bnd (dI T [40]) fun _=>bnd (bA T k 0) fun e=>bnd (bV T [41]) fun _=>ret e) i o
 else if bN T i [91]=true then(bnd (dI T [91]) fun _=>bnd (gq T [93] (fun l=>bnd (bA T k 0) fun b=>ret (l++[b])) k []) fun l=>fT x (iL 5 []) l) i o
 else if bN T i [115,105,122,101]=true then(bnd (dI T [40]) fun _=>bnd (bA T k 0) fun e=>bnd (bV T [41]) fun _=>fT x (iL 21 []) [e]) (i+1) o
 else if bN T i [104,97,115]=true then(bnd (dI T [40]) fun _=>bnd (bA T k 0) fun a=>bnd (bU T [44]) fun _=>bnd (bA T k 0) fun b=>bnd (bV T [41]) fun _=>fT x (iL 22 []) [a,b]) (i+1) o
 else(bnd (fB T) fun t=>ret (⟨iL 3 t,1⟩:Bt)) i o) i T i o:=by
 funext x T i o
 unfold oF
 by_cases h2:dN T i 2=true
 ·simp only[if_pos h2,h2,TI,KW,Bool.true_and]
  cases hp:pI (txt T i) with
  |none=>rfl
  |some r=>cases r<;>rfl
 ·simp only[if_neg h2];rfl
theorem gdx:∀k,GdX k
 |0=>⟨fun _=>lW,fun _ _ _ _ _ _ _ _ e=>(by cases e),fun _ _=>lW,lW,fun _ _ _ _ _ _ _ e=>(by cases e),lW,fun _ _ _ _ _ _ _ e=>(by cases e),fun _=>lW,lW,fun _ _ _ _ _ _ _ e=>(by cases e)⟩
 |k+1=>by
  have W:=gdx k
  have post:Gd fun _ T=>qg T (k+1):=aO (m:=fun _ T=>oF T k) (g:=fun v _ T=>nG T k v) W.atom fun v=>W.dots v
  have postC:Cs fun _ T=>qg T (k+1):=jr (m:=fun _ T=>oF T k) (g:=fun v _ T=>nG T k v) W.atomC fun v=>W.dots v
  have s1:∀op,Gd fun x T=>bnd (gU x) fun _=>bnd (iJ T k) fun e=>bnd kD fun _=>fT x (iL op []) [e]:=fun op=>aO BS fun _=>aO W.sign fun e=>aO CV fun _=>r9 _ _
  have sign:Gd fun _ T=>iJ T (k+1):=C9 (m:=fun x T i o=>if bN T i [45]=true then bnd (gU x) (fun _=>bnd (iJ T k) fun e=>bnd kD fun _=>fT x (iL 6 []) [e]) (i+1) o
   else if bN T i [33]=true then bnd (gU x) (fun _=>bnd (iJ T k) fun e=>bnd kD fun _=>fT x (iL 7 []) [e]) (i+1) o else qg T k i o) (gD (fJ _) (s1 6) (gD (fJ _) (s1 7) W.post))
  have signC:Cs fun _ T=>iJ T (k+1):=OD (m:=fun x T i o=>if bN T i [45]=true then bnd (gU x) (fun _=>bnd (iJ T k) fun e=>bnd kD fun _=>fT x (iL 6 []) [e]) (i+1) o
   else if bN T i [33]=true then bnd (gU x) (fun _=>bnd (iJ T k) fun e=>bnd kD fun _=>fT x (iL 7 []) [e]) (i+1) o else qg T k i o) (lF (fun _ _=>is_lt) (s1 6) (lF (fun _ _=>is_lt) (s1 7) W.postC))
  have ops:∀lv e,Gd fun _ T=>mM T (k+1) lv e:=by
   intro lv e
   have h:=C9 (ZG (m1:=fun s x T=>bnd (bA T k (lv+1)) (fun b=>bnd (fT x (iL ((uZ lv s).getD 0) []) [e,b]) fun e'=>if lv=2 then ret e' else mM T k lv e')) (m2:=fun _ _=>ret e) (agz lv)
    (fun s=>aO (m:=fun _ T=>bA T k (lv+1)) (W.level _) fun b=>aO (r9 _ _) (g:=fun e' _ T=>if lv=2 then ret e' else mM T k lv e') fun e'=>by
      by_cases h2:lv=2
      ·simp only[if_pos h2];exact bO
      ·simp only[if_neg h2];exact W.ops lv e') bO)
   refine(funext fun x=>funext fun T=>funext fun i=>funext fun o=> ?_:(fun(_:Nat) T=>mM T (k+1) lv e)=_)▸h
   exact Tp
  have dots:∀e,Gd fun _ T=>nG T (k+1) e:=fun e=>C9 (m:=fun x T i o=>if bN T i [46]=true then bnd (fB T) (fun t=>bnd (fT x (iL 4 t) [e]) (nG T k)) (i+1) o else .ok e i o)
   (gD (fJ _) (aO eP.gd fun t=>aO (r9 _ _) (g:=fun e' _ T=>nG T k e') fun e'=>W.dots e') bO)
  have a0:LM fun _ T i o=>if(dN T i 2&&TI T i)=true then .ok (lit (.mk 2 false (KW (txt T i)) [] [])) (i+1) o else(.fail i:Lb Bt):=xL (M7 (oP 2) aeY) (fun T i h=>qJ (by simp only[Bool.and_eq_true] at h;exact h.1)) fun t=>lit (.mk 2 false (KW t) [] [])
  have a1:Gd fun _ T=>bnd (dI T [40]) fun _=>bnd (bA T k 0) fun e=>bnd (bV T [41]) fun _=>ret e:=aO (fE _) fun _=>aO (m:=fun _ T=>bA T k 0) (W.level 0) fun e=>aO (eB _).gd fun _=>bO
  have a1C:Cs fun _ T=>bnd (dI T [40]) fun _=>bnd (bA T k 0) fun e=>bnd (bV T [41]) fun _=>ret e:=jr (nT _) fun _=>aO (m:=fun _ T=>bA T k 0) (W.level 0) fun e=>aO (eB _).gd fun _=>bO
  have li:Gd fun _ T=>gq T [93] (fun l=>bnd (bA T k 0) fun b=>ret (l++[b])) k []:=(nS (one:=fun l _ T=>bnd (bA T k 0) fun b=>ret (l++[b])) (fun l=>aO (m:=fun _ T=>bA T k 0) (W.level 0) fun b=>bO) k []).gd
  have a2:Gd fun x T=>bnd (dI T [91]) fun _=>bnd (gq T [93] (fun l=>bnd (bA T k 0) fun b=>ret (l++[b])) k []) fun l=>fT x (iL 5 []) l:=aO (fE _) fun _=>aO li fun l=>r9 _ _
  have a2C:Cs fun x T=>bnd (dI T [91]) fun _=>bnd (gq T [93] (fun l=>bnd (bA T k 0) fun b=>ret (l++[b])) k []) fun l=>fT x (iL 5 []) l:=jr (nT _) fun _=>aO li fun l=>r9 _ _
  have a3:Gd fun x T=>bnd (dI T [40]) fun _=>bnd (bA T k 0) fun e=>bnd (bV T [41]) fun _=>fT x (iL 21 []) [e]:=aO (fE _) fun _=>aO (m:=fun _ T=>bA T k 0) (W.level 0) fun e=>aO (eB _).gd fun _=>r9 _ _
  have a4:Gd fun x T=>bnd (dI T [40]) fun _=>bnd (bA T k 0) fun a=>bnd (bU T [44]) fun _=>bnd (bA T k 0) fun b=>bnd (bV T [41]) fun _=>fT x (iL 22 []) [a,b]:=aO (fE _) fun _=>aO (m:=fun _ T=>bA T k 0) (W.level 0) fun e=>aO (dM _) fun _=>aO (m:=fun _ T=>bA T k 0) (W.level 0) fun b=>aO (eB _).gd fun _=>r9 _ _
  have a5:Gd fun _ T=>bnd (lX T) fun t=>ret (⟨iL 2 t,1⟩:Bt):=aO jy.gd fun _=>bO
  have a5C:Cs fun _ T=>bnd (lX T) fun t=>ret (⟨iL 2 t,1⟩:Bt):=jr jy.cs fun _=>bO
  have a6:Gd fun _ T=>bnd (fB T) fun t=>ret (⟨iL 3 t,1⟩:Bt):=aO eP.gd fun _=>bO
  have a6C:Cs fun _ T=>bnd (fB T) fun t=>ret (⟨iL 3 t,1⟩:Bt):=jr eP.cs fun _=>bO
  have cst:∀(T:List Lx) i,dN T i 3=true→i<T.length:=fun _ _=>qJ
  have cT:∀{c:List Lx→Nat→Bool} {m1:Str→uM Bt} {m2:uM Bt},(∀T i,c T i=true→i<T.length)→(∀s,Gd (m1 s))→Cs m2→Cs fun x T i o=>if c T i=true then m1 (txt T i) x T (i+1) o else m2 x T i o:=by
   intro c m1 m2 l h1 h2 x T i o v i' o' e
   try simp only at e
   split at e
   ·rename_i hc
    have:=(h1 _).mono _ _ _ _ _ _ _ e
    exact⟨by omega,l _ _ hc⟩
   ·exact h2 _ _ _ _ _ _ _ e
  have atom:Gd fun _ T=>oF T (k+1):=by
   rw[Hg]
   exact C9 (uo (oP 2) a0.gd (ZG (m1:=fun s _ _=>ret (lit (.mk 3 false 0 s []))) (oP 3) (fun _=>bO) (gD (fJ _) bO (gD (fJ _) bO (gD (fJ _) bO (uo (oP 1) a5 (uo (fJ _) a1 (uo (fJ _) a2 (gD (fJ _) a3 (gD (fJ _) a4 a6))))))))))
  have atomC:Cs fun _ T=>oF T (k+1):=by
   rw[Hg]
   exact OD (Ga a0.cs (cT (m1:=fun s _ _=>ret (lit (.mk 3 false 0 s []))) cst (fun _=>bO) (lF (fun _ _=>is_lt) bO (lF (fun _ _=>is_lt) bO (lF (fun _ _=>is_lt) bO (Ga a5C (Ga a1C (Ga a2C (lF (fun _ _=>is_lt) a3 (lF (fun _ _=>is_lt) a4 a6C))))))))))
  refine⟨fun lv=> ?_,fun lv=> ?_,ops,sign,signC,post,postC,dots,atom,atomC⟩
  ·by_cases h5:lv=5
   ·refine(funext fun x=>funext fun T=> ?_:(fun(_:Nat) T=>bA T (k+1) lv)=fun _ T=>iJ T k)▸W.sign
    show(if lv=5 then iJ T k else bnd (bA T k (lv+1)) (mM T k lv))=_;rw[if_pos h5]
   ·refine(funext fun x=>funext fun T=> ?_:(fun(_:Nat) T=>bA T (k+1) lv)=fun _ T=>bnd (bA T k (lv+1)) (mM T k lv))▸aO (m:=fun _ T=>bA T k (lv+1)) (g:=fun v _ T=>mM T k lv v) (W.level _) fun v=>W.ops lv v
    show(if lv=5 then iJ T k else bnd (bA T k (lv+1)) (mM T k lv))=_;rw[if_neg h5]
  ·by_cases h5:lv=5
   ·refine(funext fun x=>funext fun T=> ?_:(fun(_:Nat) T=>bA T (k+1) lv)=fun _ T=>iJ T k)▸W.signC
    show(if lv=5 then iJ T k else bnd (bA T k (lv+1)) (mM T k lv))=_;rw[if_pos h5]
   ·refine(funext fun x=>funext fun T=> ?_:(fun(_:Nat) T=>bA T (k+1) lv)=fun _ T=>bnd (bA T k (lv+1)) (mM T k lv))▸jr (m:=fun _ T=>bA T k (lv+1)) (g:=fun v _ T=>mM T k lv v) (W.levelC _) fun v=>W.ops lv v
    show(if lv=5 then iJ T k else bnd (bA T k (lv+1)) (mM T k lv))=_;rw[if_neg h5]
theorem jZ (k:Nat):Gd fun _ T=>gY T k:=aO (m:=fun _ T=>bA T k 0) ((gdx k).level 0) fun _=>bO
theorem Vu (k:Nat):Cs fun _ T=>gY T k:=jr (m:=fun _ T=>bA T k 0) ((gdx k).levelC 0) fun _=>bO
theorem OT {α:Type} {b:Bool} {m1 m2:uM α} (h1:Gd m1) (h2:Gd m2):Gd fun x T=>if b=true then m1 x T else m2 x T:=by
 cases b
 ·exact h2
 ·exact h1
theorem Eu (k:Nat) (l:List (Str×Ex)):Gd fun _ T=>qC T k l:=
 TG (f:=fun a b=>a&&b) (oP 1) (fJ [63]) (m1:=fun _ T=>bnd (lX T) fun v=>bnd (bU T [63]) fun _=>ret (l++[(v,sG)])) (m2:=fun _ T=>bnd (gY T k) fun e=>ret (l++[([],e)]))
  (aO jy.gd fun _=>aO (dM _) fun _=>bO) (aO (jZ k) fun _=>bO) (jr jy.cs fun _=>aO (dM _) fun _=>bO) (jr (Vu k) fun _=>bO)
theorem aay (k:Nat):Gd fun _ T=>UY T k:=
 aO eP.gd fun _=>aO (fE _) fun _=>aO (m:=fun _ T=>gq T [41] (qC T k) k []) (nS (one:=fun l _ T=>qC T k l) (Eu k) k []).gd fun _=>bO
theorem zI (k:Nat) (s:List (Str×Str)×List Ex):Gd fun _ T=>ow T k s:=
 TG (f:=fun a b=>a&&b) (oP 1) (fJ [58]) (m1:=fun _ T=>bnd (lX T) fun v=>bnd (bU T [58]) fun _=>bnd (fB T) fun f=>ret (s.1++[(v,f)],s.2)) (m2:=fun _ T=>bnd (gY T k) fun e=>ret (s.1,s.2++[e]))
  (aO jy.gd fun _=>aO (dM _) fun _=>aO eP.gd fun _=>bO) (aO (jZ k) fun _=>bO) (jr jy.cs fun _=>aO (dM _) fun _=>aO eP.gd fun _=>bO) (jr (Vu k) fun _=>bO)
theorem Au (k:Nat) (v:Str):Gd fun _ T=>kK T k v:=
 aO eP.gd fun _=>aO (fE _) fun _=>aO (m:=fun _ T=>gq T [41] (ow T k) k ([],[])) (nS (one:=fun l _ T=>ow T k l) (zI k) k ([],[])).gd fun _=>bO
theorem TW (k:Nat) (v:Str):Cs fun _ T=>kK T k v:=
 jr eP.cs fun _=>aO (fE _) fun _=>aO (m:=fun _ T=>gq T [41] (ow T k) k ([],[])) (nS (one:=fun l _ T=>ow T k l) (zI k) k ([],[])).gd fun _=>bO
theorem aey (k:Nat):Gd fun _ T=>OE T k:=
 uo (oP 1) (m1:=fun _ T=>bnd (lX T) fun v=>bnd (bU T [58]) fun _=>kK T k v) (m2:=fun _ T=>kK T k []) (aO jy.gd fun v=>aO (dM _) fun _=>Au k v) (Au k [])
theorem aax (k:Nat):Cs fun _ T=>OE T k:=
 Ga (c:=fun T i=>dN T i 1) (m1:=fun _ T=>bnd (lX T) fun v=>bnd (bU T [58]) fun _=>kK T k v) (m2:=fun _ T=>kK T k []) (jr jy.cs fun v=>aO (dM _) fun _=>Au k v) (TW k [])
structure GdC (k:Nat):Prop where
 conds:∀ends acc,Gd fun _ T=>iK T k ends acc
 some:∀ends,Gd fun _ T=>iq T k ends
 someC:∀ends,Cs fun _ T=>iq T k ends
 block:Gd fun _ T=>lK T k
 blockC:Cs fun _ T=>lK T k
 alts:∀acc,Gd fun _ T=>rz T k acc
 or:Gd fun _ T=>orM T k
 orC:Cs fun _ T=>orM T k
 acc:Gd fun _ T=>GN T k
 accC:Cs fun _ T=>GN T k
 cond:Gd fun _ T=>qX T k
 condC:Cs fun _ T=>qX T k
theorem EW {α:Type}:Cs fun _ _=>(uJ:PM α):=fun _ _ _ _ _ _ _ e=>by cases e
theorem gdc:∀k,GdC k
 |0=>⟨fun _ _=>lW,fun _=>lW,fun _=>EW,lW,EW,fun _=>lW,lW,EW,lW,EW,lW,EW⟩
 |k+1=>by
  have W:=gdc k
  have some:∀ends,Gd fun _ T=>iq T (k+1) ends:=fun ends=>aO (m:=fun _ T=>qX T k) W.cond fun c=>aO (m:=fun _ T=>iK T k ends []) (W.conds ends []) fun _=>bO
  have someC:∀ends,Cs fun _ T=>iq T (k+1) ends:=fun ends=>jr (m:=fun _ T=>qX T k) W.condC fun c=>aO (m:=fun _ T=>iK T k ends []) (W.conds ends []) fun _=>bO
  have b1:=fun(_:Unit)=>aO (m:=fun _ T=>iq T k [[41]]) (W.some _) fun l=>aO (eB [41]).gd fun _=>bO (v:=l)
  have block:Gd fun _ T=>lK T (k+1):=aO (fE _) fun u=>b1 u
  have blockC:Cs fun _ T=>lK T (k+1):=jr (nT _) fun u=>b1 u
  have alts:∀acc,Gd fun _ T=>rz T (k+1) acc:=fun acc=>aO (m:=fun _ T=>iq T k [KZ,[41]]) (W.some _) fun l=>aO (vW KZ) fun b=>OT (m1:=fun _ T=>rz T k (acc++[l])) (W.alts _) bO
  have o1:Gd fun(_:Nat) T=>bnd (iq T k [KZ,[41]]) fun l=>bnd (bU T KZ) fun _=>bnd (rz T k [l]) fun a=>bnd (bV T [41]) fun _=>ret (Cd.mk 5 [] [] [] [] [] [] a sG [] [] []):=
   aO (m:=fun _ T=>iq T k [KZ,[41]]) (W.some _) fun l=>aO (dM _) fun _=>aO (m:=fun _ T=>rz T k [l]) (W.alts _) fun a=>aO (eB _).gd fun _=>bO
  have or:Gd fun _ T=>orM T (k+1):=aO (fE _) fun _=>o1
  have orC:Cs fun _ T=>orM T (k+1):=jr (nT _) fun _=>o1
  have a1:Gd fun(_:Nat) T=>bnd (lX T) fun v=>bnd (bU T [58]) fun _=>bnd (eZ T oW) fun b=>bnd (if b=true then ret oW else fB T) fun fn=>
   bnd (dI T [40]) fun _=>bnd (gY T k) fun e=>bnd (bV T [41]) fun _=>bnd (bU T Vi) fun _=>bnd (iq T k [[41]]) fun l=>bnd (bV T [41]) fun _=>ret (Cd.mk 7 v [] [] [] l [] [] e fn [] []):=
   aO jy.gd fun v=>aO (dM _) fun _=>aO (vW _) fun b=>aO (m:=fun _ T=>if b=true then ret oW else fB T) (OT (m1:=fun _ _=>ret oW) bO eP.gd) fun fn=>
    aO (fE _) fun _=>aO (jZ k) fun e=>aO (eB _).gd fun _=>aO (dM _) fun _=>aO (m:=fun _ T=>iq T k [[41]]) (W.some _) fun l=>aO (eB _).gd fun _=>bO
  have acc:Gd fun _ T=>GN T (k+1):=aO (fE _) fun _=>a1
  have accC:Cs fun _ T=>GN T (k+1):=jr (nT _) fun _=>a1
  have c1:∀n,Gd fun(_:Nat) T=>bnd (lK T k) fun l=>ret (cdL n l):=fun n=>aO (m:=fun _ T=>lK T k) W.block fun _=>bO
  have c2:Gd fun(_:Nat) T=>bnd (dI T [40]) fun _=>bnd (iq T k [[59]]) fun l=>bnd (bU T [59]) fun _=>bnd (iq T k [[41]]) fun m=>bnd (bV T [41]) fun _=>ret (Cd.mk 4 [] [] [] [] l m [] sG [] [] []):=
   aO (fE _) fun _=>aO (m:=fun _ T=>iq T k [[59]]) (W.some _) fun l=>aO (dM _) fun _=>aO (m:=fun _ T=>iq T k [[41]]) (W.some _) fun m=>aO (eB _).gd fun _=>bO
  have c3:Gd fun(_:Nat) T=>bnd (dI T [40]) fun _=>bnd (gY T k) fun e=>bnd (bV T [41]) fun _=>ret (Cd.mk 8 [] [] [] [] [] [] [] e [] [] []):=
   aO (fE _) fun _=>aO (jZ k) fun e=>aO (eB _).gd fun _=>bO
  have c4:Gd fun(_:Nat) T=>bnd (lX T) fun v=>bnd (bU T QU) fun _=>bnd (gY T k) fun e=>ret (Cd.mk 6 v [] [] [] [] [] [] e [] [] []):=aO jy.gd fun v=>aO (dM _) fun _=>aO (jZ k) fun e=>bO
  have c4C:Cs fun(_:Nat) T=>bnd (lX T) fun v=>bnd (bU T QU) fun _=>bnd (gY T k) fun e=>ret (Cd.mk 6 v [] [] [] [] [] [] e [] [] []):=jr jy.cs fun v=>aO (dM _) fun _=>aO (jZ k) fun e=>bO
  refine⟨fun ends acc=> ?_,some,someC,block,blockC,alts,or,orC,acc,accC, ?_, ?_⟩
  ·exact uo (ae9 ends) bO (aO (m:=fun _ T=>qX T k) (g:=fun c _ T=>iK T k ends (acc++[c])) W.cond fun c=>W.conds _ _)
  ·exact gD (fJ _) (c1 2) (gD (fJ _) (c1 3) (gD (fJ _) c2 (uo (fJ _) W.or (gD (fJ _) c3 (gD (fJ _) W.acc (gD (fJ _) (aay k) (TG (f:=fun a b=>a&& !b) (oP 1) (fJ [58]) c4 (aey k) c4C (aax k))))))))
  ·exact lF (fun _ _=>is_lt) (c1 2) (lF (fun _ _=>is_lt) (c1 3) (lF (fun _ _=>is_lt) c2 (Ga (c:=fun T i=>bN T i [40]) W.orC (lF (fun _ _=>is_lt) c3 (lF (fun _ _=>is_lt) W.acc (lF (fun _ _=>is_lt) (aay k) (Ga (c:=fun T i=>dN T i 1&& !bN T (i+1) [58]) c4C (aax k))))))))
theorem OY:Gd fun _ T=>zZ T:=by
 refine⟨fun x T i o v i' o' e=> ?_,fun x T U i o v i' o' e hl=> ?_,fun x T U d i o q=> ?_⟩
 ·cases e;omega
 ·cases e;simp only[zZ,yR (show i<T.length by omega)]
 ·simp only[zZ,Fb q];rfl
theorem Ml (k:Nat) (l:List (Str×Ex)):Gd fun _ T=>iB T k l:=aO eP.gd fun f=>aO (dM _) fun _=>aO (jZ k) fun e=>bO
theorem Cw (k:Nat):LM fun _ T=>gq T [125] (iB T k) k []:=nS (one:=fun l _ T=>iB T k l) (Ml k) k []
theorem He {α:Type} {c:Bool} {g:Unit→PM α} {i:Nat} {o:Int}:bnd (uy (!c)) g i o=if c=true then .fail i else g () i o:=by cases c<;>rfl
theorem BQ (k:Nat) (least:Bool):Gd fun _ T=>qV T k least:=by
 refine aO (fE _) (g:=fun _ _ T i o=>if least=true then bnd (uy (!bN T i [125])) (fun _=>gq T [125] (iB T k) k []) i o else gq T [125] (iB T k) k [] i o) fun _=> ?_
 cases least with
 |false=>exact(Cw k).gd
 |true=>
  have h:=uo (fJ [125]) JB (Cw k).gd
  have e:(fun(_:Nat) T i o=>if true=true then bnd (uy (!bN T i [125])) (fun _=>gq T [125] (iB T k) k []) i o else gq T [125] (iB T k) k [] i o)=fun(_:Nat) T i o=>if bN T i [125]=true then .fail i else gq T [125] (iB T k) k [] i o:=by
   funext x T i o;rw[if_pos rfl];exact He
  rw[e];exact h
theorem abM (a:Act):LM fun _ T=>nA T a:=yK (f:=fun _=>a) (vD _)
theorem wS (a:Act):Gd fun _ T=>nA T a:=(abM a).gd
section
variable (k:Nat)
theorem afk:Gd fun(_:Nat) T=>bnd (zZ T) fun t=>bnd (fB T) fun c=>bnd (qV T k false) fun l=>nA T ⟨if t=iE then 2 else 1,c,l,sG,[]⟩:=aO OY fun t=>aO eP.gd fun c=>aO (BQ k false) fun l=>wS _
theorem aeZ:Cs fun(_:Nat) T=>bnd (zZ T) fun t=>bnd (fB T) fun c=>bnd (qV T k false) fun l=>nA T ⟨if t=iE then 2 else 1,c,l,sG,[]⟩:=WY OY fun t=>jr eP.cs fun c=>aO (BQ k false) fun l=>wS _
theorem aap:Gd fun(_:Nat) T=>bnd (gY T k) fun e=>bnd (qV T k true) fun l=>nA T ⟨3,[],l,e,[]⟩:=aO (jZ k) fun e=>aO (BQ k true) fun l=>wS _
theorem NI (n:Int):Gd fun(_:Nat) T=>bnd (gY T k) fun e=>nA T ⟨n,[],[],e,[]⟩:=aO (jZ k) fun e=>wS _
theorem aa2:Gd fun(_:Nat) T=>bnd (iY T) fun t=>nA T ⟨5,[],[],sG,t⟩:=aO mV.gd fun e=>wS _
theorem aeo:Gd fun(_:Nat) T=>bnd (bU T RJ) fun _=>nA T ⟨7,[],[],sG,[]⟩:=aO (dM _) fun e=>wS _
theorem afz:Cs fun(_:Nat) T=>bnd (bU T RJ) fun _=>nA T ⟨7,[],[],sG,[]⟩:=jr (CZ _) fun e=>wS _
theorem Ot:(fun(_:Nat) T=>Dr T k)=fun(_:Nat) T i o=>if(bN T i qK||bN T i iE)=true then bnd (zZ T) (fun t=>bnd (fB T) fun c=>bnd (qV T k false) fun l=>nA T ⟨if t=iE then 2 else 1,c,l,sG,[]⟩) i o
 else if bN T i zH=true then bnd (gY T k) (fun e=>bnd (qV T k true) fun l=>nA T ⟨3,[],l,e,[]⟩) (i+1) o
 else if bN T i zq=true then bnd (gY T k) (fun e=>nA T ⟨4,[],[],e,[]⟩) (i+1) o
 else if bN T i Eh=true then bnd (iY T) (fun t=>nA T ⟨5,[],[],sG,t⟩) (i+1) o
 else if bN T i Ee=true then bnd (gY T k) (fun e=>nA T ⟨6,[],[],e,[]⟩) (i+1) o
 else bnd (bU T RJ) (fun _=>nA T ⟨7,[],[],sG,[]⟩) i o:=by
 funext x T i o
 unfold Dr
 by_cases h:bN T i qK=true∨bN T i iE=true
 ·rw[if_pos h,if_pos (by simpa using h)]
 ·have h':¬(bN T i qK||bN T i iE)=true:=by rw[Bool.or_eq_true];exact h
  rw[if_neg h,if_neg h']
theorem aeu:Gd fun _ T=>Dr T k:=by
 rw[Ot]
 exact uo (adI (fJ _) (fJ _)) (afk k) (gD (fJ _) (aap k) (gD (fJ _) (NI k 4) (gD (fJ _) aa2 (gD (fJ _) (NI k 6) aeo))))
theorem afl:Cs fun _ T=>Dr T k:=by
 rw[Ot]
 exact Ga (c:=fun T i=>bN T i qK||bN T i iE) (aeZ k) (lF (fun _ _=>is_lt) (aap k) (lF (fun _ _=>is_lt) (NI k 4) (lF (fun _ _=>is_lt) aa2 (lF (fun _ _=>is_lt) (NI k 6) afz))))
end
def abB (T:List Lx) (i:Nat):Bool:=match pI (txt T i) with
 |some (some n)=>decide (n≤2147483648)
 |_=>false
theorem acf:Te fun T i=>abB T i:=⟨fun T U i h=>by simp only[abB,yR h],fun T U d i q=>by simp only[abB,Fb q]⟩
theorem aef (b:Bool):(fun(_:Nat) T i o=>if dN T i 2=true then(match pI (txt T i) with
 |some (some n)=>if n≤2147483648 then .ok (if b=true then -n else n) (i+1) o else .fail i
 |_=> .fail i) else .fail i)=fun(_:Nat) T i o=>if(dN T i 2&&abB T i)=true then .ok ((fun t=>if b=true then -KW t else KW t) (txt T i)) (i+1) o else(.fail i:Lb Int):=by
 funext x T i o
 by_cases h:dN T i 2=true
 ·rw[if_pos h,h,Bool.true_and]
  obtain⟨x,hp⟩:∃x,pI (txt T i)=x:=⟨_,rfl⟩
  simp only[abB,KW,hp]
  rcases x with _ |_ |n
  ·rfl
  ·rfl
  ·simp only
   by_cases hn:n≤2147483648
   ·rw[if_pos hn,if_pos (decide_eq_true hn)]
   ·rw[if_neg hn,if_neg (by simpa using hn)]
 ·rw[if_neg h,if_neg (by simp[h])]
theorem U5:Gd fun _ T=>KX T:=by
 refine aO (vW _) (g:=fun b _ T i o=>if dN T i 2=true then(match pI (txt T i) with
  |some (some n)=>if n≤2147483648 then .ok (if b=true then -n else n) (i+1) o else .fail i
  |_=> .fail i) else .fail i) fun b=> ?_
 rw[aef]
 exact(xL (M7 (oP 2) acf) (fun T i h=>qJ (by simp only[Bool.and_eq_true] at h;exact h.1)) (fun t=>if b=true then -KW t else KW t)).gd
theorem wC:∀(k:Nat) (r:Bu),Gd fun _ T=>jO T k r
 |0,_=>lW
 |k+1,r=>gD (fJ _) (m1:=fun _ _=>ret r) bO (gD (fJ _) (m1:=fun _ T=>bnd (KX T) fun n=>jO T k {r with sal:=n}) (aO U5 fun n=>wC k _)
  (gD (fJ _) (m1:=fun _ T=>bnd (iY T) fun t=>jO T k {r with group:=t}) (aO mV.gd fun n=>wC k _) (gD (fJ _) (m1:=fun _ T=>bnd (iY T) fun t=>jO T k {r with flow:=t}) (aO mV.gd fun n=>wC k _)
  (gD (fJ _) (m1:=fun _ T=>jO T k {r with noloop:=true}) (wC k _) (m2:=fun _ T=>bnd (bU T XB) fun _=>jO T k {r with lock:=true}) (aO (dM _) fun n=>wC k _)))))
theorem Ki (k0:Nat):∀(k:Nat) (acc:List Act),LM fun _ T=>pW T k0 k acc
 |0,_=>⟨lW.mono,EW,fun _ _ _ _ _ _ _ _ e=>(by cases e),lW.sf⟩
 |k+1,acc=>by
  have h2:=mh (m:=fun _ T=>Dr T k0) (g:=fun a _ T=>pW T k0 k (acc++[a])) (aeu k0) fun a=>Ki k0 k _
  have h:=gD (fJ vZ) (m1:=fun _ _=>ret acc) bO h2.gd
  refine⟨h.mono,lF (m1:=fun _ _=>ret acc) (fun _ _=>is_lt) bO h2.cs,fun x T U i o v i' o' e=> ?_,h.sf⟩
  have e':(if bN T i vZ=true then(.ok acc (i+1) o:Lb (List Act)) else bnd (Dr T k0) (fun a=>pW T k0 k (acc++[a])) i o)= .ok v i' o':=e
  show(if bN (T++U) i vZ=true then(.ok acc (i+1) o:Lb (List Act)) else bnd (Dr (T++U) k0) (fun a=>pW (T++U) k0 k (acc++[a])) i o)= .ok v i' o'
  by_cases hc:bN T i vZ=true
  ·rw[if_pos hc] at e'
   rw[(fJ vZ).loc T U i (is_lt hc),if_pos hc];exact e'
  ·rw[if_neg hc] at e'
   have:=h2.cs x T i o v i' o' e'
   rw[(fJ vZ).loc T U i this.2,if_neg hc]
   exact h2.loc x T U i o v i' o' e'
theorem Qk (k:Nat):LM fun _ T=>xq T k:=
 mh mV.gd fun nm=>mh (m:=fun _ T=>jO T k ⟨nm,0,[],[],false,false,[],[]⟩) (wC k _) fun r=>mh (m:=fun _ T=>iK T k [yD] []) ((gdc k).conds _ _) fun w=>mh (dM _) fun _=>
  yK (m:=fun _ T=>pW T k k []) (f:=fun t=>{r with whn:=w,thn:=t}) (Ki k k [])
theorem E5 (l:List Str):Gd fun _ T=>ql T l:=aO jy.gd fun _=>bO
theorem LW (k:Nat):LM fun _ T=>oZ T k:=
 mh eP.gd fun nm=>mh (fE _) fun _=>mh (m:=fun _ T=>gq T [41] (ql T) k []) (nS (one:=fun l _ T=>ql T l) E5 k []).gd fun ps=>mh (m:=fun _ T=>iK T k [vZ] []) ((gdc k).conds _ _) fun w=>
  yK (f:=fun _=>(⟨nm,ps,w⟩:K3)) (vD _)
def wU (nm:Str) (T:List Lx):PM Bv:=fun i o=>if bN T i Tv=true then .ok ⟨nm,2,[]⟩ (i+1) o
 else if bN T i IJ=true then .ok ⟨nm,1,[]⟩ (i+1) o
 else if bN T i Hq=true then .ok ⟨nm,3,[]⟩ (i+1) o
 else if bN T i oW=true then .ok ⟨nm,4,[]⟩ (i+1) o
 else if bN T i SN=true then .ok ⟨nm,0,[]⟩ (i+1) o
 else bnd (bU T abb) (fun _=>bnd (fB T) fun c=>ret ⟨nm,5,c⟩) i o
theorem Lj (nm:Str):Gd fun _ T=>wU nm T:=
 gD (fJ Tv) (m1:=fun _ _=>ret (⟨nm,2,[]⟩:Bv)) bO (gD (fJ IJ) (m1:=fun _ _=>ret (⟨nm,1,[]⟩:Bv)) bO (gD (fJ Hq) (m1:=fun _ _=>ret (⟨nm,3,[]⟩:Bv)) bO
  (gD (fJ oW) (m1:=fun _ _=>ret (⟨nm,4,[]⟩:Bv)) bO (gD (fJ SN) (m1:=fun _ _=>ret (⟨nm,0,[]⟩:Bv)) bO (aO (dM abb) (g:=fun _ _ T=>bnd (fB T) fun c=>ret (⟨nm,5,c⟩:Bv)) fun _=>aO eP.gd fun c=>bO)))))
theorem Dm:Gd fun _ T=>pq T:=aO eP.gd (g:=fun nm _ T=>bnd (bU T [58]) fun _=>wU nm T) fun nm=>aO (dM _) (g:=fun _ _ T=>wU nm T) fun _=>Lj nm
theorem Po:Cs fun _ T=>pq T:=jr eP.cs (g:=fun nm _ T=>bnd (bU T [58]) fun _=>wU nm T) fun nm=>aO (dM _) (g:=fun _ _ T=>wU nm T) fun _=>Lj nm
theorem vL:∀(k:Nat) (first:Bool) (acc:List Bv),Gd fun _ T=>gG T k first acc
 |0,_,_=>lW
 |k+1,true,acc=>uo (fJ _) bO (aO (g:=fun f _ T=>gG T k false (acc++[f])) Dm fun f=>vL k false _)
 |k+1,false,acc=>gD (fJ _) (aO (g:=fun f _ T=>gG T k false (acc++[f])) Dm fun f=>vL k false _) (uo QT (aO (g:=fun f _ T=>gG T k false (acc++[f])) Dm fun f=>vL k false _) bO)
theorem PW:Gd fun _ T=>J8 T:=aO (vW _) fun b=>OT (m1:=fun _ T=>fB T) eP.gd bO
theorem Ma (k:Nat):LM fun _ T=>rD T k:=
 mh eP.gd fun nm=>mh PW fun su=>mh (fE _) fun _=>mh (m:=fun _ T=>gG T k true []) (vL k true []) fun fs=>yK (f:=fun _=>(⟨nm,su,fs⟩:Cls)) (eB _)
def Tt {α:Type} (R:Nat) (m:uM α):Prop:=∀x T i o,T.length-i≤R→m x T i o≠ .out
section
variable {α β:Type} {R:Nat}
theorem dR {v:α}:Tt R fun _ _=>ret v:=fun _ _ _ _ _ e=>by cases e
theorem ab8:Tt R fun x _=>(U8 x:PM α):=fun _ _ _ _ _ e=>by cases e
theorem aP {m:uM α} {g:α→uM β} (h:Tt R m) (hm:Gd m) (k:∀v,Tt R (g v)):Tt R fun x T=>bnd (m x T) fun v=>g v x T:=by
 intro x T i o l e
 simp only at e
 unfold bnd at e
 cases e1:m x T i o with
 |ok w i1 o1=>
  rw[e1] at e
  have:=hm.mono _ _ _ _ _ _ _ e1
  exact k w x T i1 o1 (by omega) e
 |fail y=>rw[e1] at e;cases e
 |out=>exact h x T i o l e1
theorem l9 {m:uM α} {g:α→uM β} (h:Tt R m) (hm:Cs m) (k:0<R→∀v,Tt (R-1) (g v)):Tt R fun x T=>bnd (m x T) fun v=>g v x T:=by
 intro x T i o l e
 simp only at e
 unfold bnd at e
 cases e1:m x T i o with
 |ok w i1 o1=>
  rw[e1] at e
  have:=hm _ _ _ _ _ _ _ e1
  exact k (by omega) w x T i1 o1 (by omega) e
 |fail y=>rw[e1] at e;cases e
 |out=>exact h x T i o l e1
theorem yA {c:List Lx→Nat→Bool} {m1 m2:uM α} (h1:Tt R m1) (h2:Tt R m2):Tt R fun x T i o=>if c T i=true then m1 x T i o else m2 x T i o:=by
 intro x T i o l e
 simp only at e
 split at e
 ·exact h1 _ _ _ _ l e
 ·exact h2 _ _ _ _ l e
theorem gF {c:List Lx→Nat→Bool} {m1 m2:uM α} (lt:∀T i,c T i=true→i<T.length) (h1:0<R→Tt (R-1) m1) (h2:Tt R m2):Tt R fun x T i o=>if c T i=true then m1 x T (i+1) o else m2 x T i o:=by
 intro x T i o l e
 simp only at e
 split at e
 ·rename_i hc
  have:=lt _ _ hc
  exact h1 (by omega) _ _ _ _ (by omega) e
 ·exact h2 _ _ _ _ l e
theorem abu {c:List Lx→Nat→Bool} {m1:Str→uM α} {m2:uM α} (lt:∀T i,c T i=true→i<T.length) (h1:0<R→∀s,Tt (R-1) (m1 s)) (h2:Tt R m2):Tt R fun x T i o=>if c T i=true then m1 (txt T i) x T (i+1) o else m2 x T i o:=by
 intro x T i o l e
 simp only at e
 split at e
 ·rename_i hc
  have:=lt _ _ hc
  exact h1 (by omega) _ _ _ _ _ (by omega) e
 ·exact h2 _ _ _ _ l e
theorem CY {m:uM α} (h:Tt R m):Tt R fun _ T i o=>m i T i o:=fun x T i o l=>h _ _ _ _ l
theorem Uh {b:Bool} {m1 m2:uM α} (h1:Tt R m1) (h2:Tt R m2):Tt R fun x T=>if b=true then m1 x T else m2 x T:=by
 cases b
 ·exact h2
 ·exact h1
theorem Oo (w:Str):Tt R fun _ T=>eZ T w:=fun x T i o _ e=>by simp only[eZ] at e;split at e<;>cases e
theorem jh (w:Str):Tt R fun _ T=>bU T w:=fun x T i o _ e=>by simp only[Nq] at e;split at e<;>cases e
theorem nu:Tt R fun _ T=>fB T:=fun x T i o _ e=>by simp only[fB] at e;split at e<;>cases e
theorem Al:Tt R fun _ T=>lX T:=fun x T i o _ e=>by simp only[lX] at e;split at e<;>cases e
theorem zl:Tt R fun _ T=>iY T:=fun x T i o _ e=>by simp only[iY] at e;split at e<;>cases e
theorem acR:Tt R fun _ T=>zZ T:=fun x T i o _ e=>by cases e
theorem QS:Tt R fun x _=>gU x:=fun x T i o _ e=>by simp only[gU] at e;split at e<;>cases e
theorem QA:Tt R fun _ _=>kD:=fun x T i o _ e=>by cases e
theorem jD (w:Str):Tt R fun _ T=>dI T w:=CY (m:=fun x T=>bnd (bU T w) fun _=>gU x) (aP (jh w) (dM w) fun _=>QS)
theorem kQ (w:Str):Tt R fun _ T=>bV T w:=aP (jh w) (dM w) fun _=>QA
theorem zm (e:Ex) (l:List Bt):Tt R fun x _=>fT x e l:=by
 unfold fT
 split
 ·exact ab8
 ·exact dR
end
section
variable {σ:Type}
theorem P5 {w:Str} {one:σ→uM σ} (g:∀s,Gd (one s)):∀(k R:Nat) (s:σ),(∀R',R'≤R→∀s,Tt R' (one s))→R+1≤k→Tt R fun x T=>qP T w (fun s=>one s x T) k false s
 |0,R,s,h,hk=>by omega
 |k+1,R,s,h,hk=>gF (c:=fun T i=>bN T i [44]) (fun _ _=>is_lt) (m1:=fun x T=>bnd (one s x T) fun v=>qP T w (fun s=>one s x T) k false v) (fun hR=>aP (h _ (by omega) s) (g s) fun v=>P5 g k (R-1) v (fun R' l=>h R' (by omega)) (by omega)) dR
theorem BI {w:Str} {one:σ→uM σ} (g:∀s,Gd (one s)) {k R:Nat} {s:σ} (h:∀R',R'≤R→∀s,Tt R' (one s)) (hk:R+2≤k):Tt R fun x T=>gq T w (fun s=>one s x T) k s:=by
 obtain⟨k,rfl⟩:∃j,k=j+1:=⟨k-1,by omega⟩
 have h1:Tt R fun x T=>qP T w (fun s=>one s x T) (k+1) true s:=
  yA (c:=fun T i=>bN T i w) dR (aP (h R (Nat.le_refl _) s) (g s) fun v=>P5 g k R v h (by omega))
 exact aP h1 (BH g (k+1) true s) fun v=>aP (kQ w) (eB w).gd fun _=>dR
end
structure TtX (k:Nat):Prop where
 level:∀R lv,lv≤5→20*R+13≤k+lv→Tt R fun _ T=>bA T k lv
 ops:∀R lv e,lv≤4→20*R+3≤k→Tt R fun _ T=>mM T k lv e
 sign:∀R,20*R+7≤k→Tt R fun _ T=>iJ T k
 post:∀R,20*R+6≤k→Tt R fun _ T=>qg T k
 dots:∀R e,20*R+1≤k→Tt R fun _ T=>nG T k e
 atom:∀R,20*R+5≤k→Tt R fun _ T=>oF T k
theorem ttx:∀k,TtX k
 |0=>⟨fun R lv _ h=>by omega,fun R lv e _ h=>by omega,fun R h=>by omega,fun R h=>by omega,fun R e h=>by omega,fun R h=>by omega⟩
 |k+1=>by
  have W:=ttx k
  have G:=gdx k
  have lev:∀R,0<R→20*R+5≤k+1→Tt (R-1) fun _ T=>bA T k 0:=fun R h0 h=>W.level (R-1) 0 (by omega) (by omega)
  refine⟨fun R lv hl hk=> ?_,fun R lv e hl hk=> ?_,fun R hk=> ?_,fun R hk=> ?_,fun R e hk=> ?_,fun R hk=> ?_⟩
  ·by_cases h5:lv=5
   ·refine(funext fun x=>funext fun T=> ?_:(fun(_:Nat) T=>bA T (k+1) lv)=fun _ T=>iJ T k)▸W.sign R (by omega)
    show(if lv=5 then iJ T k else bnd (bA T k (lv+1)) (mM T k lv))=_;rw[if_pos h5]
   ·refine(funext fun x=>funext fun T=> ?_:(fun(_:Nat) T=>bA T (k+1) lv)=fun _ T=>bnd (bA T k (lv+1)) (mM T k lv))▸aP (m:=fun _ T=>bA T k (lv+1)) (g:=fun v _ T=>mM T k lv v) (W.level R _ (by omega) (by omega)) (G.level _) fun v=>W.ops R lv v (by omega) (by omega)
    show(if lv=5 then iJ T k else bnd (bA T k (lv+1)) (mM T k lv))=_;rw[if_neg h5]
  ·have h:=CY (abu (R:=R) (c:=fun T i=>opB T i lv) (m1:=fun s x T=>bnd (bA T k (lv+1)) (fun b=>bnd (fT x (iL ((uZ lv s).getD 0) []) [e,b]) fun e'=>if lv=2 then ret e' else mM T k lv e')) (m2:=fun _ _=>ret e) (fun _ _=>ad4)
    (fun h0 s=>aP (m:=fun _ T=>bA T k (lv+1)) (W.level _ _ (by omega) (by omega)) (G.level _) fun b=>aP (zm _ _) (r9 _ _) (g:=fun e' _ T=>if lv=2 then ret e' else mM T k lv e') fun e'=>by
      by_cases h2:lv=2
      ·simp only[if_pos h2];exact dR
      ·simp only[if_neg h2];exact W.ops _ lv e' hl (by omega)) dR)
   refine(funext fun x=>funext fun T=>funext fun i=>funext fun o=> ?_:(fun(_:Nat) T=>mM T (k+1) lv e)=_)▸h
   exact Tp
  ·have s1:∀op,0<R→Tt (R-1) fun x T=>bnd (gU x) fun _=>bnd (iJ T k) fun e=>bnd kD fun _=>fT x (iL op []) [e]:=fun op h0=>aP QS BS fun _=>aP (W.sign _ (by omega)) G.sign fun e=>aP QA CV fun _=>zm _ _
   exact CY (m:=fun x T i o=>if bN T i [45]=true then bnd (gU x) (fun _=>bnd (iJ T k) fun e=>bnd kD fun _=>fT x (iL 6 []) [e]) (i+1) o
    else if bN T i [33]=true then bnd (gU x) (fun _=>bnd (iJ T k) fun e=>bnd kD fun _=>fT x (iL 7 []) [e]) (i+1) o else qg T k i o) (gF (fun _ _=>is_lt) (s1 6) (gF (fun _ _=>is_lt) (s1 7) (W.post _ (by omega))))
  ·exact aP (m:=fun _ T=>oF T k) (g:=fun v _ T=>nG T k v) (W.atom _ (by omega)) G.atom fun v=>W.dots _ v (by omega)
  ·exact CY (m:=fun x T i o=>if bN T i [46]=true then bnd (fB T) (fun t=>bnd (fT x (iL 4 t) [e]) (nG T k)) (i+1) o else .ok e i o)
    (gF (fun _ _=>is_lt) (fun h0=>aP nu eP.gd fun t=>aP (zm _ _) (r9 _ _) (g:=fun e' _ T=>nG T k e') fun e'=>W.dots _ e' (by omega)) dR)
  ·
   have a0:Tt R fun _ T i o=>if(dN T i 2&&TI T i)=true then .ok (lit (.mk 2 false (KW (txt T i)) [] [])) (i+1) o else(.fail i:Lb Bt):=fun x T i o _ e=>by simp only at e;split at e<;>cases e
   have L0:∀R',R'+1≤R→Tt R' fun _ T=>bA T k 0:=fun R' h=>W.level R' 0 (by omega) (by omega)
   have a1:Tt R fun _ T=>bnd (dI T [40]) fun _=>bnd (bA T k 0) fun e=>bnd (bV T [41]) fun _=>ret e:=l9 (jD _) (nT _) fun h0 _=>aP (m:=fun _ T=>bA T k 0) (L0 _ (by omega)) (G.level 0) fun e=>aP (kQ _) (eB _).gd fun _=>dR
   have li:0<R→Tt (R-1) fun _ T=>gq T [93] (fun l=>bnd (bA T k 0) fun b=>ret (l++[b])) k []:=fun h0=>BI (one:=fun l _ T=>bnd (bA T k 0) fun b=>ret (l++[b])) (fun l=>aO (m:=fun _ T=>bA T k 0) (G.level 0) fun b=>bO)
    (fun R' l s=>aP (m:=fun _ T=>bA T k 0) (L0 _ (by omega)) (G.level 0) fun b=>dR) (by omega)
   have a2:Tt R fun x T=>bnd (dI T [91]) fun _=>bnd (gq T [93] (fun l=>bnd (bA T k 0) fun b=>ret (l++[b])) k []) fun l=>fT x (iL 5 []) l:=l9 (jD _) (nT _) fun h0 _=>aP (li h0) (nS (one:=fun l _ T=>bnd (bA T k 0) fun b=>ret (l++[b])) (fun l=>aO (m:=fun _ T=>bA T k 0) (G.level 0) fun b=>bO) k []).gd fun l=>zm _ _
   have a3:0<R→Tt (R-1) fun x T=>bnd (dI T [40]) fun _=>bnd (bA T k 0) fun e=>bnd (bV T [41]) fun _=>fT x (iL 21 []) [e]:=fun h0=>aP (jD _) (fE _) fun _=>aP (m:=fun _ T=>bA T k 0) (L0 _ (by omega)) (G.level 0) fun e=>aP (kQ _) (eB _).gd fun _=>zm _ _
   have a4:0<R→Tt (R-1) fun x T=>bnd (dI T [40]) fun _=>bnd (bA T k 0) fun a=>bnd (bU T [44]) fun _=>bnd (bA T k 0) fun b=>bnd (bV T [41]) fun _=>fT x (iL 22 []) [a,b]:=fun h0=>aP (jD _) (fE _) fun _=>aP (m:=fun _ T=>bA T k 0) (L0 _ (by omega)) (G.level 0) fun e=>aP (jh _) (dM _) fun _=>aP (m:=fun _ T=>bA T k 0) (L0 _ (by omega)) (G.level 0) fun b=>aP (kQ _) (eB _).gd fun _=>zm _ _
   have a5:Tt R fun _ T=>bnd (lX T) fun t=>ret (⟨iL 2 t,1⟩:Bt):=aP Al jy.gd fun _=>dR
   have a6:Tt R fun _ T=>bnd (fB T) fun t=>ret (⟨iL 3 t,1⟩:Bt):=aP nu eP.gd fun _=>dR
   rw[Hg]
   exact CY (yA (c:=fun T i=>dN T i 2) a0 (abu (c:=fun T i=>dN T i 3) (m1:=fun s _ _=>ret (lit (.mk 3 false 0 s []))) (fun _ _=>qJ) (fun _ _=>dR) (gF (m1:=fun _ _=>ret (lit (.mk 1 true 0 [] []))) (fun _ _=>is_lt) (fun _=>dR) (gF (m1:=fun _ _=>ret (lit (.mk 1 false 0 [] []))) (fun _ _=>is_lt) (fun _=>dR)
    (gF (m1:=fun _ _=>ret (lit OA)) (fun _ _=>is_lt) (fun _=>dR) (yA (c:=fun T i=>dN T i 1) a5 (yA (c:=fun T i=>bN T i [40]) a1 (yA (c:=fun T i=>bN T i [91]) a2 (gF (fun _ _=>is_lt) a3 (gF (fun _ _=>is_lt) a4 a6))))))))))
theorem uf {R k:Nat} (h:20*R+13≤k):Tt R fun _ T=>gY T k:=aP (m:=fun _ T=>bA T k 0) ((ttx k).level R 0 (by omega) (by omega)) ((gdx k).level 0) fun _=>dR
theorem Si {α:Type} {R:Nat} {a b:List Lx→Nat→Bool} {f:Bool→Bool→Bool} {m1 m2:uM α} (h1:Tt R m1) (h2:Tt R m2):Tt R fun x T i o=>if f (a T i) (b T (i+1))=true then m1 x T i o else m2 x T i o:=by
 intro x T i o l e
 simp only at e
 split at e
 ·exact h1 _ _ _ _ l e
 ·exact h2 _ _ _ _ l e
section
variable {R k:Nat}
theorem YV (h:20*R+13≤k) (l:List (Str×Ex)):Tt R fun _ T=>qC T k l:=
 Si (f:=fun a b=>a&&b) (a:=fun T i=>dN T i 1) (b:=fun T i=>bN T i [63]) (m1:=fun _ T=>bnd (lX T) fun v=>bnd (bU T [63]) fun _=>ret (l++[(v,sG)])) (m2:=fun _ T=>bnd (gY T k) fun e=>ret (l++[([],e)]))
  (aP Al jy.gd fun _=>aP (jh _) (dM _) fun _=>dR) (aP (uf h) (jZ k) fun _=>dR)
theorem afp (h:20*R+13≤k):Tt R fun _ T=>UY T k:=
 aP nu eP.gd fun _=>aP (jD _) (fE _) fun _=>aP (m:=fun _ T=>gq T [41] (qC T k) k []) (BI (one:=fun l _ T=>qC T k l) (Eu k) (fun R' l s=>YV (by omega) s) (by omega)) (nS (one:=fun l _ T=>qC T k l) (Eu k) k []).gd fun _=>dR
theorem Ye (h:20*R+13≤k) (s:List (Str×Str)×List Ex):Tt R fun _ T=>ow T k s:=
 Si (f:=fun a b=>a&&b) (a:=fun T i=>dN T i 1) (b:=fun T i=>bN T i [58]) (m1:=fun _ T=>bnd (lX T) fun v=>bnd (bU T [58]) fun _=>bnd (fB T) fun f=>ret (s.1++[(v,f)],s.2)) (m2:=fun _ T=>bnd (gY T k) fun e=>ret (s.1,s.2++[e]))
  (aP Al jy.gd fun _=>aP (jh _) (dM _) fun _=>aP nu eP.gd fun _=>dR) (aP (uf h) (jZ k) fun _=>dR)
theorem KF (h:20*R+13≤k) (v:Str):Tt R fun _ T=>kK T k v:=
 aP nu eP.gd fun _=>aP (jD _) (fE _) fun _=>aP (m:=fun _ T=>gq T [41] (ow T k) k ([],[])) (BI (one:=fun l _ T=>ow T k l) (zI k) (fun R' l s=>Ye (by omega) s) (by omega)) (nS (one:=fun l _ T=>ow T k l) (zI k) k ([],[])).gd fun _=>dR
theorem aeM (h:20*R+13≤k):Tt R fun _ T=>OE T k:=
 yA (c:=fun T i=>dN T i 1) (m1:=fun _ T=>bnd (lX T) fun v=>bnd (bU T [58]) fun _=>kK T k v) (m2:=fun _ T=>kK T k []) (aP Al jy.gd fun v=>aP (jh _) (dM _) fun _=>KF h v) (KF h [])
end
structure TtC (k:Nat):Prop where
 conds:∀R ends acc,20*R+16≤k→Tt R fun _ T=>iK T k ends acc
 some:∀R ends,20*R+16≤k→Tt R fun _ T=>iq T k ends
 block:∀R,20*R+1≤k→Tt R fun _ T=>lK T k
 alts:∀R acc,20*R+17≤k→Tt R fun _ T=>rz T k acc
 or:∀R,20*R+14≤k→Tt R fun _ T=>orM T k
 acc:∀R,20*R+14≤k→Tt R fun _ T=>GN T k
 cond:∀R,20*R+15≤k→Tt R fun _ T=>qX T k
theorem ttc:∀k,TtC k
 |0=>⟨fun R _ _ h=>by omega,fun R _ h=>by omega,fun R h=>by omega,fun R _ h=>by omega,fun R h=>by omega,fun R h=>by omega,fun R h=>by omega⟩
 |k+1=>by
  have W:=ttc k
  have G:=gdc k
  refine⟨fun R ends acc hk=> ?_,fun R ends hk=> ?_,fun R hk=> ?_,fun R acc hk=> ?_,fun R hk=> ?_,fun R hk=> ?_,fun R hk=> ?_⟩
  ·exact yA (c:=fun T i=>ends.any fun w=>bN T i w) dR (l9 (m:=fun _ T=>qX T k) (g:=fun c _ T=>iK T k ends (acc++[c])) (W.cond R (by omega)) G.condC fun h0 c=>W.conds _ _ _ (by omega))
  ·exact l9 (m:=fun _ T=>qX T k) (g:=fun c _ T=>bnd (iK T k ends []) fun l=>ret (c :: l)) (W.cond R (by omega)) G.condC fun h0 c=>aP (m:=fun _ T=>iK T k ends []) (W.conds _ _ _ (by omega)) (G.conds ends []) fun _=>dR
  ·exact l9 (jD _) (nT _) fun h0 _=>aP (m:=fun _ T=>iq T k [[41]]) (W.some _ _ (by omega)) (G.some _) fun l=>aP (kQ _) (eB _).gd fun _=>dR
  ·exact l9 (m:=fun _ T=>iq T k [KZ,[41]]) (W.some _ _ (by omega)) (G.someC _) fun h0 l=>aP (Oo KZ) (vW KZ) fun b=>Uh (m1:=fun _ T=>rz T k (acc++[l])) (W.alts _ _ (by omega)) dR
  ·exact l9 (jD _) (nT _) fun h0 _=>l9 (m:=fun _ T=>iq T k [KZ,[41]]) (W.some _ _ (by omega)) (G.someC _) fun h1 l=>aP (jh _) (dM _) fun _=>aP (m:=fun _ T=>rz T k [l]) (W.alts _ _ (by omega)) (G.alts _) fun a=>aP (kQ _) (eB _).gd fun _=>dR
  ·exact l9 (jD _) (nT _) fun h0 _=>aP Al jy.gd fun v=>aP (jh _) (dM _) fun _=>aP (Oo _) (vW _) fun b=>aP (m:=fun _ T=>if b=true then ret oW else fB T) (Uh (m1:=fun _ _=>ret oW) dR nu) (OT (m1:=fun _ _=>ret oW) bO eP.gd) fun fn=>
    aP (jD _) (fE _) fun _=>aP (uf (by omega)) (jZ k) fun e=>aP (kQ _) (eB _).gd fun _=>aP (jh _) (dM _) fun _=>aP (m:=fun _ T=>iq T k [[41]]) (W.some _ _ (by omega)) (G.some _) fun l=>aP (kQ _) (eB _).gd fun _=>dR
  ·have c1:∀n,0<R→Tt (R-1) fun(_:Nat) T=>bnd (lK T k) fun l=>ret (cdL n l):=fun n h0=>aP (m:=fun _ T=>lK T k) (W.block _ (by omega)) G.block fun _=>dR
   have c2:0<R→Tt (R-1) fun(_:Nat) T=>bnd (dI T [40]) fun _=>bnd (iq T k [[59]]) fun l=>bnd (bU T [59]) fun _=>bnd (iq T k [[41]]) fun m=>bnd (bV T [41]) fun _=>ret (Cd.mk 4 [] [] [] [] l m [] sG [] [] []):=fun h0=>
    aP (jD _) (fE _) fun _=>aP (m:=fun _ T=>iq T k [[59]]) (W.some _ _ (by omega)) (G.some _) fun l=>aP (jh _) (dM _) fun _=>aP (m:=fun _ T=>iq T k [[41]]) (W.some _ _ (by omega)) (G.some _) fun m=>aP (kQ _) (eB _).gd fun _=>dR
   have c3:0<R→Tt (R-1) fun(_:Nat) T=>bnd (dI T [40]) fun _=>bnd (gY T k) fun e=>bnd (bV T [41]) fun _=>ret (Cd.mk 8 [] [] [] [] [] [] [] e [] [] []):=fun h0=>
    aP (jD _) (fE _) fun _=>aP (uf (by omega)) (jZ k) fun e=>aP (kQ _) (eB _).gd fun _=>dR
   have c4:Tt R fun(_:Nat) T=>bnd (lX T) fun v=>bnd (bU T QU) fun _=>bnd (gY T k) fun e=>ret (Cd.mk 6 v [] [] [] [] [] [] e [] [] []):=aP Al jy.gd fun v=>aP (jh _) (dM _) fun _=>aP (uf (by omega)) (jZ k) fun e=>dR
   exact gF (fun _ _=>is_lt) (c1 2) (gF (fun _ _=>is_lt) (c1 3) (gF (fun _ _=>is_lt) c2 (yA (c:=fun T i=>bN T i [40]) (W.or _ (by omega)) (gF (fun _ _=>is_lt) c3 (gF (fun _ _=>is_lt) (fun h0=>W.acc _ (by omega)) (gF (fun _ _=>is_lt) (fun h0=>afp (by omega)) (Si (f:=fun a b=>a&& !b) (a:=fun T i=>dN T i 1) (b:=fun T i=>bN T i [58]) c4 (aeM (by omega)))))))))
section
variable {R k:Nat}
theorem Y3 (h:20*R+13≤k) (l:List (Str×Ex)):Tt R fun _ T=>iB T k l:=aP nu eP.gd fun f=>aP (jh _) (dM _) fun _=>aP (uf h) (jZ k) fun e=>dR
theorem VN (h:20*R+13≤k):Tt R fun _ T=>gq T [125] (iB T k) k []:=BI (one:=fun l _ T=>iB T k l) (Ml k) (fun R' l s=>Y3 (by omega) s) (by omega)
theorem VQ (h:20*R+13≤k) (least:Bool):Tt R fun _ T=>qV T k least:=by
 have g:Gd fun(_:Nat) T i o=>if least=true then bnd (uy (!bN T i [125])) (fun _=>gq T [125] (iB T k) k []) i o else gq T [125] (iB T k) k [] i o:=by
  cases least with
  |false=>exact(Cw k).gd
  |true=>
   have h:=uo (fJ [125]) JB (Cw k).gd
   have e:(fun(_:Nat) T i o=>if true=true then bnd (uy (!bN T i [125])) (fun _=>gq T [125] (iB T k) k []) i o else gq T [125] (iB T k) k [] i o)=fun(_:Nat) T i o=>if bN T i [125]=true then .fail i else gq T [125] (iB T k) k [] i o:=by
    funext x T i o;rw[if_pos rfl];exact He
   rw[e];exact h
 refine aP (jD _) (fE _) (g:=fun _ _ T i o=>if least=true then bnd (uy (!bN T i [125])) (fun _=>gq T [125] (iB T k) k []) i o else gq T [125] (iB T k) k [] i o) fun _=> ?_
 intro x T i o l e
 cases least with
 |false=>exact VN h x T i o l e
 |true=>
  have e:bnd (uy (!bN T i [125])) (fun _=>gq T [125] (iB T k) k []) i o= .out:=e
  rw[He] at e
  split at e
  ·cases e
  ·exact VN h x T i o l e
theorem Cu (a:Act):Tt R fun _ T=>nA T a:=aP (jh _) (dM _) fun _=>dR
theorem aen (h:20*R+13≤k):Tt R fun _ T=>Dr T k:=by
 rw[Ot]
 have i1:Tt R fun(_:Nat) T=>bnd (zZ T) fun t=>bnd (fB T) fun c=>bnd (qV T k false) fun l=>nA T ⟨if t=iE then 2 else 1,c,l,sG,[]⟩:=aP acR OY fun t=>aP nu eP.gd fun c=>aP (VQ h false) (BQ k false) fun l=>Cu _
 have i2:0<R→Tt (R-1) fun(_:Nat) T=>bnd (gY T k) fun e=>bnd (qV T k true) fun l=>nA T ⟨3,[],l,e,[]⟩:=fun h0=>aP (uf (by omega)) (jZ k) fun e=>aP (VQ (by omega) true) (BQ k true) fun l=>Cu _
 have i3:∀n,0<R→Tt (R-1) fun(_:Nat) T=>bnd (gY T k) fun e=>nA T ⟨n,[],[],e,[]⟩:=fun n h0=>aP (uf (by omega)) (jZ k) fun e=>Cu _
 have i4:0<R→Tt (R-1) fun(_:Nat) T=>bnd (iY T) fun t=>nA T ⟨5,[],[],sG,t⟩:=fun h0=>aP zl mV.gd fun e=>Cu _
 have i5:Tt R fun(_:Nat) T=>bnd (bU T RJ) fun _=>nA T ⟨7,[],[],sG,[]⟩:=aP (jh _) (dM _) fun e=>Cu _
 exact yA (c:=fun T i=>bN T i qK||bN T i iE) i1 (gF (fun _ _=>is_lt) i2 (gF (fun _ _=>is_lt) (i3 4) (gF (fun _ _=>is_lt) i4 (gF (fun _ _=>is_lt) (i3 6) i5))))
theorem ae1:Tt R fun _ T=>KX T:=by
 intro x T i o _ e
 simp only[KX] at e
 obtain⟨b,i1,o1,e1⟩:∃b i1 o1,eZ T [45] i o= .ok b i1 o1:=by unfold eZ;split<;>exact⟨_,_,_,rfl⟩
 rw[abL e1] at e
 split at e
 ·split at e
  ·split at e<;>cases e
  ·cases e
 ·cases e
end
theorem yS:∀(k R:Nat) (r:Bu),R+1≤k→Tt R fun _ T=>jO T k r
 |0,R,_,h=>by omega
 |k+1,R,r,h=>gF (c:=fun T i=>bN T i MV) (fun _ _=>is_lt) (m1:=fun _ _=>ret r) (fun _=>dR) (gF (fun _ _=>is_lt) (m1:=fun _ T=>bnd (KX T) fun n=>jO T k {r with sal:=n}) (fun h0=>aP ae1 U5 fun n=>yS k _ _ (by omega))
  (gF (fun _ _=>is_lt) (m1:=fun _ T=>bnd (iY T) fun t=>jO T k {r with group:=t}) (fun h0=>aP zl mV.gd fun n=>yS k _ _ (by omega)) (gF (fun _ _=>is_lt) (m1:=fun _ T=>bnd (iY T) fun t=>jO T k {r with flow:=t}) (fun h0=>aP zl mV.gd fun n=>yS k _ _ (by omega))
  (gF (fun _ _=>is_lt) (m1:=fun _ T=>jO T k {r with noloop:=true}) (fun h0=>yS k _ _ (by omega)) (m2:=fun _ T=>bnd (bU T XB) fun _=>jO T k {r with lock:=true}) (l9 (jh _) (CZ _) fun h0 n=>yS k _ _ (by omega))))))
theorem Wo (k0:Nat):∀(k R:Nat) (acc:List Act),R+1≤k→20*R+13≤k0→Tt R fun _ T=>pW T k0 k acc
 |0,R,_,h,_=>by omega
 |k+1,R,acc,h,h0=>gF (c:=fun T i=>bN T i vZ) (fun _ _=>is_lt) (m1:=fun _ _=>ret acc) (fun _=>dR) (l9 (m:=fun _ T=>Dr T k0) (g:=fun a _ T=>pW T k0 k (acc++[a])) (aen h0) (afl k0) fun hR a=>Wo k0 k _ _ (by omega) (by omega))
theorem ac7 {R k:Nat} (h:20*R+16≤k):Tt R fun _ T=>xq T k:=
 aP zl mV.gd fun nm=>aP (m:=fun _ T=>jO T k ⟨nm,0,[],[],false,false,[],[]⟩) (yS k _ _ (by omega)) (wC k _) fun r=>aP (m:=fun _ T=>iK T k [yD] []) ((ttc k).conds _ _ _ (by omega)) ((gdc k).conds _ _) fun w=>aP (jh _) (dM _) fun _=>
  aP (m:=fun _ T=>pW T k k []) (Wo k k _ _ (by omega) (by omega)) (Ki k k []).gd fun _=>dR
theorem YS {R:Nat} (l:List Str):Tt R fun _ T=>ql T l:=aP Al jy.gd fun _=>dR
theorem abO {R k:Nat} (h:20*R+16≤k):Tt R fun _ T=>oZ T k:=
 aP nu eP.gd fun nm=>aP (jD _) (fE _) fun _=>aP (m:=fun _ T=>gq T [41] (ql T) k []) (BI (one:=fun l _ T=>ql T l) E5 (fun R' l s=>YS s) (by omega)) (nS (one:=fun l _ T=>ql T l) E5 k []).gd fun ps=>
  aP (m:=fun _ T=>iK T k [vZ] []) ((ttc k).conds _ _ _ (by omega)) ((gdc k).conds _ _) fun w=>aP (jh _) (dM _) fun _=>dR
theorem Ir {R:Nat}:Tt R fun _ T=>pq T:=aP nu eP.gd (g:=fun nm _ T=>bnd (bU T [58]) fun _=>wU nm T) fun nm=>aP (jh _) (dM _) (g:=fun _ _ T=>wU nm T) fun _=>
 gF (c:=fun T i=>bN T i Tv) (fun _ _=>is_lt) (m1:=fun _ _=>ret (⟨nm,2,[]⟩:Bv)) (fun _=>dR) (gF (c:=fun T i=>bN T i IJ) (fun _ _=>is_lt) (m1:=fun _ _=>ret (⟨nm,1,[]⟩:Bv)) (fun _=>dR) (gF (c:=fun T i=>bN T i Hq) (fun _ _=>is_lt) (m1:=fun _ _=>ret (⟨nm,3,[]⟩:Bv)) (fun _=>dR)
  (gF (c:=fun T i=>bN T i oW) (fun _ _=>is_lt) (m1:=fun _ _=>ret (⟨nm,4,[]⟩:Bv)) (fun _=>dR) (gF (c:=fun T i=>bN T i SN) (fun _ _=>is_lt) (m1:=fun _ _=>ret (⟨nm,0,[]⟩:Bv)) (fun _=>dR) (aP (jh abb) (dM abb) (g:=fun _ _ T=>bnd (fB T) fun c=>ret (⟨nm,5,c⟩:Bv)) fun _=>aP nu eP.gd fun c=>dR)))))
theorem FT:∀(k R:Nat) (acc:List Bv),R+1≤k→Tt R fun _ T=>gG T k false acc
 |0,R,_,h=>by omega
 |k+1,R,acc,h=>gF (c:=fun T i=>bN T i [44]) (fun _ _=>is_lt) (fun h0=>aP (g:=fun f _ T=>gG T k false (acc++[f])) Ir Dm fun f=>FT k _ _ (by omega)) (yA (c:=fun T i=>om T i) (l9 (g:=fun f _ T=>gG T k false (acc++[f])) Ir Po fun h0 f=>FT k _ _ (by omega)) dR)
theorem TN {k R:Nat} {acc:List Bv} (h:R+1≤k):Tt R fun _ T=>gG T k true acc:=by
 obtain⟨k,rfl⟩:∃j,k=j+1:=⟨k-1,by omega⟩
 exact yA (c:=fun T i=>bN T i [125]) dR (l9 (g:=fun f _ T=>gG T k false (acc++[f])) Ir Po fun h0 f=>FT k _ _ (by omega))
theorem Zj {R:Nat}:Tt R fun _ T=>J8 T:=aP (Oo _) (vW _) fun b=>Uh (m1:=fun _ T=>fB T) nu dR
theorem Zl {R k:Nat} (h:R+1≤k):Tt R fun _ T=>rD T k:=
 aP nu eP.gd fun nm=>aP Zj PW fun su=>aP (jD _) (fE _) fun _=>aP (m:=fun _ T=>gG T k true []) (TN h) (vL k true []) fun fs=>aP (kQ _) (eB _).gd fun _=>dR
theorem GX (k0:Nat):∀(k R:Nat) (b:DU),R+1≤k→20*R+16≤k0→Tt R fun _ T=>iF T k0 k b
 |0,R,_,h,_=>by omega
 |k+1,R,b,h,h0=>by
  intro x T i o l e
  have e:(if i<T.length then
   (if bN T i uQ=true then bnd (rD T k0) (fun c=>iF T k0 k {b with classes:=b.classes++[c]}) (i+1) o
   else if bN T i Dh=true then bnd (xq T k0) (fun r=>iF T k0 k {b with rules:=b.rules++[r]}) (i+1) o
   else bnd (bU T AY) (fun _=>bnd (oZ T k0) fun q=>iF T k0 k {b with queries:=b.queries++[q]}) i o)
  else .ok b i o)= .out:=e
  split at e
  ·refine(gF (c:=fun T i=>bN T i uQ) (fun _ _=>is_lt) (m1:=fun _ T=>bnd (rD T k0) fun c=>iF T k0 k {b with classes:=b.classes++[c]}) (fun hR=>aP (m:=fun _ T=>rD T k0) (g:=fun c _ T=>iF T k0 k {b with classes:=b.classes++[c]}) (Zl (by omega)) (Ma k0).gd fun c=>GX k0 k _ _ (by omega) (by omega))
    (gF (fun _ _=>is_lt) (m1:=fun _ T=>bnd (xq T k0) fun r=>iF T k0 k {b with rules:=b.rules++[r]}) (fun hR=>aP (m:=fun _ T=>xq T k0) (g:=fun r _ T=>iF T k0 k {b with rules:=b.rules++[r]}) (ac7 (by omega)) (Qk k0).gd fun c=>GX k0 k _ _ (by omega) (by omega))
    (m2:=fun _ T=>bnd (bU T AY) fun _=>bnd (oZ T k0) fun q=>iF T k0 k {b with queries:=b.queries++[q]}) (l9 (jh _) (CZ _) (g:=fun _ _ T=>bnd (oZ T k0) fun q=>iF T k0 k {b with queries:=b.queries++[q]}) fun hR _=>aP (m:=fun _ T=>oZ T k0) (g:=fun q _ T=>iF T k0 k {b with queries:=b.queries++[q]}) (abO (by omega)) (LW k0).gd fun c=>GX k0 k _ _ (by omega) (by omega)))) x T i o l e
  ·cases e
def D5 (kk:Nat) (s:Str):Except Nat DU:=match uG s with
 | .error e=> .error e
 | .ok T=>match rR T kk 0 0 with
   | .ok b _ _=> .ok b
   | .fail i=> .error (LQ T s.length i)
   | .out=> .error 0
def wh (s:Str):Except Nat DU:=D5 100000 s
theorem acs {T:List Lx} (h:T.length≤4096):rR T 100000 0 0≠ .out:=by
 intro e
 unfold rR bnd at e
 have h1:=GX 100000 100000 4096 ⟨[],[],[]⟩ (by omega) (by omega) 0 T 0 0 (by omega)
 simp only at h1
 cases hb:iF T 100000 100000 ⟨[],[],[]⟩ 0 0 with
 |ok b i o=>
  rw[hb] at e
  simp only at e
  split at e<;>cases e
 |fail i=>rw[hb] at e;cases e
 |out=>exact h1 hb
section
variable {h h':aj} {L:jq} {S:List Sl} {F:List (aj→Prop)} {n kk:Nat} {s:Str} {K:aM}
theorem c10 {bx:Nat} (hk:kk≤100000) (hn:4*kk+130≤n) (hn2:s.length+30≤n) (hb:∀b∈s,b<256) (hs:s.length≤60000) (hg:GvF∈F) (A:Cx h (vr bx K6 :: L) S F)
 (H1:∀e,uG s= .error e→∀h,Cx h (vr bx K6 :: L) S F→K (.tup [.int .i64 (e:Int), .int .i64 20]) h=true)
 (H2:∀T,uG s= .ok T→∀tv,OkP K T s.length bx L S (ab7 tv T :: F) (rR T kk 0 0)):au E n (.func 10) [.str s, .fn (.func 11) [] [.ptr bx 0 0 0]] h K=true:=by
 obtain⟨n,rfl⟩:∃m,n=m+1:=⟨n-1,by omega⟩
 apply d10
 unfold s10
 refine c7 hb (by omega) (by omega) A ?_
 cases hl:uG s with
 |error e=>
  intro h A
  refine aG rfl ?_
  unfold Ci
  refine jL (jG (uI (eU ?_)))
  exact bK (H1 e hl h A)
 |ok T=>
  intro h u A
  refine aG rfl ?_
  unfold Ci
  refine jL (jG (uI (eU ?_)))
  refine bg (iT ?_)
  refine c18 hk (by omega) (List.mem_cons_self) (List.mem_cons_of_mem _ hg) A (M9 hs hl) ?_
  refine Post.mono (H2 T hl u) ?_ ?_
  ·intro b i o H h c A
   refine aG rfl ?_
   unfold zi
   exact jL (jG (H h c A))
  ·intro x H h c A
   refine aG rfl ?_
   unfold zi
   exact jL (jG (H h c A))
theorem aar {id m:Nat} {c:List AV} {x y:AV} (V:Var h id c) (hc:c.length=m) (s:K (.tup [.agg c,x,y]) h=true):gI (fM h [(.ptr id 0 0 0,some (true,m)),(x,none),(y,none)]) h K=true:=by
 have e:eO h true m (.ptr id 0 0 0)=some (.agg c):=by
  rw[V.load]
  simp only[mG,cond_true]
  rw[aI.2 (by omega),cond_true,List.drop_zero,List.take_of_length_le (by omega)]
 simp only[fM,e]
 exact s
def aeL (L:jq) (S:List Sl) (F:List (aj→Prop)) (K:aM):Except Nat DU→Prop
 | .ok b=>∀h c,Cx h L S ((fun h=>sQ h c b) :: F)→K (.tup [.agg c, .int .i64 0, .int .i64 0]) h=true
 | .error e=>∀h,Cx h L S F→K (.tup [.agg K6, .int .i64 (e:Int), .int .i64 20]) h=true
theorem c6k (hk:kk≤100000) (hn:4*kk+140≤n) (hn2:s.length+40≤n) (hb:∀b∈s,b<256) (hs:s.length≤60000) (hg:GvF∈F) (A:Cx h L S F)
 (ht:∀T,uG s= .ok T→rR T kk 0 0≠ .out) (H:aeL L S F K (D5 kk s)):au E n (.func 6) [.str s] h K=true:=by
 obtain⟨n,rfl⟩:∃m,n=m+1:=⟨n-1,by omega⟩
 apply d6
 unfold s6
 refine vF A rfl rfl rfl fun a h A=> ?_
 refine bY A rfl rfl rfl fun bx h A=> ?_
 have A:=A.swapL
 refine aS ?_
 have bad:∀e,aeL L S F K (.error e)→∀h c,Cx h (vr bx c :: vr a K6 :: L) S F→pz K (fun v4 h=>BF (au E n) n (.ptr a 0 0 0) (.ptr bx 0 0 0) v4 h K) (.tup [.int .i64 (e:Int), .int .i64 20]) h=true:=by
  intro e H h c A
  refine aG rfl ?_
  unfold BF
  refine jL (jG (eU (bK (eG rfl ?_))))
  refine gZ A rfl rfl rfl rfl fun h A=> ?_
  refine aar A.v1 rfl ?_
  exact H h A.rest.rest
 refine c10 hk (by omega) (by omega) hb hs hg A (fun e hl h A=> ?_) fun T hl tv=> ?_
 ·refine bad e ?_ h _ A
  unfold D5 at H;rw[hl] at H;exact H
 ·have hT:=ht T hl
  unfold D5 at H;rw[hl] at H
  unfold OkP Post
  cases hf:rR T kk 0 0 with
  |out=>exact absurd hf hT
  |fail x=>
   simp only[hf] at H
   intro h c A
   exact bad _ H h c A.eX
  |ok b i o=>
   simp only[hf] at H
   intro h c A
   obtain⟨w1,w2⟩:=(A.f0:sQ h c b).cells
   refine aG rfl ?_
   unfold BF
   refine jL (jG (eU (bg ?_)))
   refine iN A.var w1 ?_
   refine gZ A rfl w1 rfl w2 fun h A=> ?_
   refine aar A.v1 w1 ?_
   exact H h c A.rest.rest.drop1
theorem c6 (hn:400200≤n) (hb:∀b∈s,b<256) (hs:s.length≤60000) (hg:GvF∈F) (A:Cx h L S F) (H:aeL L S F K (wh s)):au E n (.func 6) [.str s] h K=true:=
 c6k (kk:=100000) (by omega) (by omega) (by omega) hb hs hg A (fun T hl=>acs (M9 hs hl).len) H
end
mutual
def cV:Val→Nat
 | .mk _ _ _ t l=>t.length+Ub l+1
def Ub:List Val→Nat
 | []=>0
 |v :: l=>cV v+Ub l
end
mutual
def cE:Ex→Nat
 | .mk _ t v l=>t.length+cV v+wM l+1
def wM:List Ex→Nat
 | []=>0
 |v :: l=>cE v+wM l
end
def cG:List (Str×Ex)→Nat
 | []=>0
 |a :: l=>a.1.length+cE a.2+cG l+1
def cB:List (Str×Str)→Nat
 | []=>0
 |a :: l=>a.1.length+a.2.length+cB l+1
mutual
def cC:Cd→Nat
 | .mk _ var cls binds tests conds thn alts e fn name args=>var.length+cls.length+cB binds+wM tests+uK conds+uK thn+pQ alts+cE e+fn.length+name.length+cG args+1
def uK:List Cd→Nat
 | []=>0
 |c :: l=>cC c+uK l
def pQ:List (List Cd)→Nat
 | []=>0
 |l :: m=>uK l+pQ m+1
end
def cA (a:Act):Nat:=a.cls.length+cG a.set+cE a.e+a.text.length+1
def Ny:List Act→Nat
 | []=>0
 |a :: l=>cA a+Ny l
def cT:List Str→Nat
 | []=>0
 |a :: l=>a.length+cT l+1
def cF:List Bv→Nat
 | []=>0
 |a :: l=>a.name.length+a.cls.length+cF l+1
def cK (a:Cls):Nat:=a.name.length+a.super.length+cF a.fields+1
def cR (a:Bu):Nat:=a.name.length+a.group.length+a.flow.length+uK a.whn+Ny a.thn+1
def cQ (a:K3):Nat:=a.name.length+cT a.params+uK a.whn+1
def R7:List Cls→Nat
 | []=>0
 |a :: l=>cK a+R7 l
def R5:List Bu→Nat
 | []=>0
 |a :: l=>cR a+R5 l
def R6:List K3→Nat
 | []=>0
 |a :: l=>cQ a+R6 l
def GL (b:DU):Nat:=R7 b.classes+R5 b.rules+R6 b.queries
theorem GZ:∀(l m:List Ex),wM (l++m)=wM l+wM m
 | [],m=>by simp[wM]
 |e :: l,m=>by simp only[List.cons_append,wM,GZ l m];omega
theorem Ns:∀(l m:List (Str×Ex)),cG (l++m)=cG l+cG m
 | [],m=>by simp[cG]
 |e :: l,m=>by simp only[List.cons_append,cG,Ns l m];omega
theorem aa8:∀(l m:List (Str×Str)),cB (l++m)=cB l+cB m
 | [],m=>by simp[cB]
 |e :: l,m=>by simp only[List.cons_append,cB,aa8 l m];omega
theorem VZ:∀(l m:List Cd),uK (l++m)=uK l+uK m
 | [],m=>by simp[uK]
 |e :: l,m=>by simp only[List.cons_append,uK,VZ l m];omega
theorem KA:∀(l m:List (List Cd)),pQ (l++m)=pQ l+pQ m
 | [],m=>by simp[pQ]
 |e :: l,m=>by simp only[List.cons_append,pQ,KA l m];omega
theorem WE:∀(l m:List Act),Ny (l++m)=Ny l+Ny m
 | [],m=>by simp[Ny]
 |e :: l,m=>by simp only[List.cons_append,Ny,WE l m];omega
theorem Zh:∀(l m:List Str),cT (l++m)=cT l+cT m
 | [],m=>by simp[cT]
 |e :: l,m=>by simp only[List.cons_append,cT,Zh l m];omega
theorem abo:∀(l m:List Bv),cF (l++m)=cF l+cF m
 | [],m=>by simp[cF]
 |e :: l,m=>by simp only[List.cons_append,cF,abo l m];omega
theorem Wm:∀(l m:List Cls),R7 (l++m)=R7 l+R7 m
 | [],m=>by simp[R7]
 |e :: l,m=>by simp only[List.cons_append,R7,Wm l m];omega
theorem Vf:∀(l m:List Bu),R5 (l++m)=R5 l+R5 m
 | [],m=>by simp[R5]
 |e :: l,m=>by simp only[List.cons_append,R5,Vf l m];omega
theorem XC:∀(l m:List K3),R6 (l++m)=R6 l+R6 m
 | [],m=>by simp[R6]
 |e :: l,m=>by simp only[List.cons_append,R6,XC l m];omega
theorem aeg (e:Ex) (l:List Ex):cE (e.add l)=cE e+wM l:=by cases e;simp only[Ex.add,cE,GZ];omega
theorem GI (op:Int) (t:Str):cE (iL op t)=t.length+2:=by simp only[iL,cE,cV,OA,Ub,wM,List.length_nil]
theorem Oz:cE sG=2:=by simp only[sG,cE,cV,OA,Ub,wM,List.length_nil]
def wt (T:List Lx) (i:Nat):Nat:=((T.take i).map fun l=>l.text.length+10).sum
theorem gL {T:List Lx} {i:Nat} (h:i<T.length):wt T (i+1)=wt T i+(txt T i).length+10:=by
 have e:T[i]? =some T[i]:=List.getElem?_eq_getElem h
 have t0:txt T i=(T[i]).text:=by unfold txt;rw[e]
 rw[t0]
 unfold wt
 rw[List.take_add_one,e,Option.toList_some,List.map_append,List.sum_append]
 simp only[List.map_cons,List.map_nil,List.sum_cons,List.sum_nil]
 omega
theorem xk {T:List Lx} {i j:Nat} (h:i≤j):wt T i≤wt T j:=by
 induction j with
 |zero=>have:i=0:=by omega
        subst this;exact Nat.le_refl _
 |succ j ih=>
  by_cases e:i=j+1
  ·subst e;exact Nat.le_refl _
  ·have:=ih (by omega)
   by_cases hj:j<T.length
   ·rw[gL hj];omega
   ·have e1:T.take (j+1)=T.take j:=by rw[List.take_of_length_le (by omega),List.take_of_length_le (by omega)]
    have:wt T (j+1)=wt T j:=by unfold wt;rw[e1]
    omega
section
variable {T:List Lx} {i i':Nat} {o o':Int}
theorem kV {w:Str} {u:Unit} (h:bU T w i o= .ok u i' o'):wt T i+10≤wt T i':=by
 rw[Nq] at h
 split at h
 ·rename_i hc;cases h;rw[gL (is_lt hc)];omega
 ·cases h
theorem SI {w:Str} {b:Bool} (h:eZ T w i o= .ok b i' o'):wt T i≤wt T i':=by
 unfold eZ at h
 split at h
 ·rename_i hc;cases h;rw[gL (is_lt hc)];omega
 ·cases h;exact Nat.le_refl _
theorem qF {t:Str} (h:fB T i o= .ok t i' o'):t.length+10+wt T i≤wt T i':=by
 unfold fB at h
 split at h
 ·rename_i hc;simp only[Bool.and_eq_true] at hc;cases h;rw[gL (RL hc.1)];omega
 ·cases h
theorem I6 {t:Str} (h:lX T i o= .ok t i' o'):t.length+10+wt T i≤wt T i':=by
 unfold lX at h
 split at h
 ·rename_i hc;simp only[Bool.and_eq_true] at hc;cases h;rw[gL (qJ hc.1)];omega
 ·cases h
theorem Dc {t:Str} (h:iY T i o= .ok t i' o'):t.length+10+wt T i≤wt T i':=by
 unfold iY at h
 split at h
 ·rename_i hc;cases h;rw[gL (qJ hc)];omega
 ·cases h
theorem Wj {x:Nat} {u:Unit} (h:gU x i o= .ok u i' o'):i'=i:=by
 unfold gU at h;split at h<;>cases h;rfl
theorem Xn {u:Unit} (h:kD i o= .ok u i' o'):i'=i:=by cases h;rfl
theorem lC {w:Str} {u:Unit} (h:dI T w i o= .ok u i' o'):wt T i+10≤wt T i':=by
 obtain⟨_,i1,o1,h1,h⟩:=bX (show bnd (bU T w) (fun _=>gU i) i o=_ from h)
 rw[Wj h];exact kV h1
theorem mX {w:Str} {u:Unit} (h:bV T w i o= .ok u i' o'):wt T i+10≤wt T i':=by
 obtain⟨_,i1,o1,h1,h⟩:=bX (show bnd (bU T w) (fun _=>kD) i o=_ from h)
 rw[Xn h];exact kV h1
def Zt (l:List Bt):Nat:=wM (l.map Bt.e)
theorem acI (l m:List Bt):Zt (l++m)=Zt l+Zt m:=by unfold Zt;rw[List.map_append,GZ]
theorem DL {x:Nat} {e:Ex} {l:List Bt} {b:Bt} (h:fT x e l i o= .ok b i' o'):i'=i∧cE b.e=cE e+Zt l:=by
 unfold fT at h
 split at h
 ·cases h
 ·cases h;exact⟨rfl,aeg e _⟩
theorem je {α:Type} {v w:α} (h:ret v i o= .ok w i' o'):w=v∧i'=i:=by cases h;exact⟨rfl,rfl⟩
theorem WU {σ:Type} {w:Str} {one:σ→PM σ} (f:σ→Nat) (h1:∀s i o v i' o',one s i o= .ok v i' o'→f v+wt T i≤wt T i'+f s):
 ∀(k:Nat) (first:Bool) (s:σ) {i:Nat} {o:Int} {v:σ} {i':Nat} {o':Int},qP T w one k first s i o= .ok v i' o'→f v+wt T i≤wt T i'+f s
 |0,_,_,_,_,_,_,_,h=>by cases h
 |k+1,first,s,i,o,v,i',o',h=>by
  have hb:∀{j:Nat} {o:Int},bnd (one s) (qP T w one k false) j o= .ok v i' o'→f v+wt T j≤wt T i'+f s:=by
   intro j o h
   obtain⟨a,i1,o1,e1,h⟩:=bX h
   have:=h1 _ _ _ _ _ _ e1
   have:=WU f h1 k false a h
   omega
  unfold qP at h
  split at h
  ·split at h
   ·cases h;omega
   ·exact hb h
  ·split at h
   ·rename_i hc
    have:=hb h
    rw[gL (is_lt hc)] at this;omega
   ·cases h;omega
theorem Kg {σ:Type} {w:Str} {one:σ→PM σ} (f:σ→Nat) (h1:∀s i o v i' o',one s i o= .ok v i' o'→f v+wt T i≤wt T i'+f s) {k:Nat} {s v:σ} (h:gq T w one k s i o= .ok v i' o'):f v+10+wt T i≤wt T i'+f s:=by
 obtain⟨a,i1,o1,e1,h⟩:=bX (show bnd (qP T w one k true s) (fun s=>bnd (bV T w) fun _=>ret s) i o=_ from h)
 obtain⟨_,i2,o2,e2,h⟩:=bX h
 obtain⟨rfl,rfl⟩:=je h
 have:=WU f h1 k true s e1
 have:=mX e2
 omega
structure WtX (T:List Lx) (k:Nat):Prop where
 level:∀lv i o b i' o',bA T k lv i o= .ok b i' o'→cE b.e+4+wt T i≤wt T i'
 ops:∀lv e i o b i' o',mM T k lv e i o= .ok b i' o'→cE b.e+wt T i≤wt T i'+cE e.e
 sign:∀i o b i' o',iJ T k i o= .ok b i' o'→cE b.e+4+wt T i≤wt T i'
 post:∀i o b i' o',qg T k i o= .ok b i' o'→cE b.e+4+wt T i≤wt T i'
 dots:∀e i o b i' o',nG T k e i o= .ok b i' o'→cE b.e+wt T i≤wt T i'+cE e.e
 atom:∀i o b i' o',oF T k i o= .ok b i' o'→cE b.e+4+wt T i≤wt T i'
theorem Xt (b:Bt):Zt [b]=cE b.e:=by simp only[Zt,List.map_cons,List.map_nil,wM,Nat.add_zero]
theorem aed (a b:Bt):Zt [a,b]=cE a.e+cE b.e:=by simp only[Zt,List.map_cons,List.map_nil,wM,Nat.add_zero]
theorem wtx (T:List Lx):∀k,WtX T k
 |0=>⟨fun _ _ _ _ _ _ h=>(by cases h),fun _ _ _ _ _ _ _ h=>(by cases h),fun _ _ _ _ _ h=>(by cases h),fun _ _ _ _ _ h=>(by cases h),fun _ _ _ _ _ _ h=>(by cases h),fun _ _ _ _ _ h=>(by cases h)⟩
 |k+1=>by
  have W:=wtx T k
  refine⟨fun lv i o b i' o' h=> ?_,fun lv e i o b i' o' h=> ?_,fun i o b i' o' h=> ?_,fun i o b i' o' h=> ?_,fun e i o b i' o' h=> ?_,fun i o b i' o' h=> ?_⟩
  ·have h:(if lv=5 then iJ T k else bnd (bA T k (lv+1)) (mM T k lv)) i o= .ok b i' o':=h
   by_cases h5:lv=5
   ·rw[if_pos h5] at h;exact W.sign _ _ _ _ _ h
   ·rw[if_neg h5] at h
    obtain⟨a,i1,o1,e1,h⟩:=bX h
    have:=W.level _ _ _ _ _ _ e1
    have:=W.ops _ _ _ _ _ _ _ h
    omega
  ·rw[Tp] at h
   split at h
   ·rename_i hc
    have hs:=gL (ad4 hc)
    obtain⟨a,i1,o1,e1,h⟩:=bX h
    obtain⟨m,i2,o2,e2,h⟩:=bX h
    have h1:=W.level _ _ _ _ _ _ e1
    obtain⟨q1,h2⟩:=DL e2
    rw[q1] at h
    rw[GI,aed,List.length_nil] at h2
    split at h
    ·obtain⟨q2,q3⟩:=je h;rw[q2,q3];omega
    ·have:=W.ops _ _ _ _ _ _ _ h;omega
   ·cases h;omega
  ·have h:(if bN T i [45]=true then bnd (gU i) (fun _=>bnd (iJ T k) fun e=>bnd kD fun _=>fT i (iL 6 []) [e]) (i+1) o
    else if bN T i [33]=true then bnd (gU i) (fun _=>bnd (iJ T k) fun e=>bnd kD fun _=>fT i (iL 7 []) [e]) (i+1) o
    else qg T k i o)= .ok b i' o':=h
   have sg:∀{op:Int} {s:Str},bN T i s=true→bnd (gU i) (fun _=>bnd (iJ T k) fun e=>bnd kD fun _=>fT i (iL op []) [e]) (i+1) o= .ok b i' o'→cE b.e+4+wt T i≤wt T i':=by
    intro op s hc h
    have hs:=gL (is_lt hc)
    obtain⟨_,i1,o1,e1,h⟩:=bX h
    obtain⟨a,i2,o2,e2,h⟩:=bX h
    obtain⟨_,i3,o3,e3,h⟩:=bX h
    obtain⟨rfl,h2⟩:=DL h
    rw[GI,Xt,List.length_nil] at h2
    have:=W.sign _ _ _ _ _ e2
    have:=Wj e1
    have:=Xn e3
    subst_vars
    omega
   split at h
   ·exact sg (by assumption) h
   ·split at h
    ·exact sg (by assumption) h
    ·exact W.post _ _ _ _ _ h
  ·obtain⟨a,i1,o1,e1,h⟩:=bX (show bnd (oF T k) (nG T k) i o=_ from h)
   have:=W.atom _ _ _ _ _ e1
   have:=W.dots _ _ _ _ _ _ h
   omega
  ·have h:(if bN T i [46]=true then bnd (fB T) (fun t=>bnd (fT i (iL 4 t) [e]) (nG T k)) (i+1) o else .ok e i o)= .ok b i' o':=h
   split at h
   ·rename_i hc
    have hs:=gL (is_lt hc)
    obtain⟨t,i1,o1,e1,h⟩:=bX h
    obtain⟨m,i2,o2,e2,h⟩:=bX h
    obtain⟨q1,h2⟩:=DL e2
    rw[q1] at h
    rw[GI,Xt] at h2
    have:=qF e1
    have:=W.dots _ _ _ _ _ _ h
    omega
   ·cases h;omega
  ·have h:=(congrFun (congrFun (congrFun (congrFun (Hg k) 0) T) i) o).symm.trans h
   simp only at h
   have L0:∀{i o b i' o'},bA T k 0 i o= .ok b i' o'→cE b.e+4+wt T i≤wt T i':=fun h=>W.level 0 _ _ _ _ _ h
   have lt:∀{s:Str},cE (lit (.mk 3 false 0 s [])).e=s.length+2:=by intro s;simp only[lit,cE,cV,Ub,wM,List.length_nil];omega
   have hl:∀s:Str,bN T i s=true→∀(v:Val),cV v=1→cE (lit v).e+4+wt T i≤wt T (i+1):=by
    intro s hc v hv
    rw[gL (is_lt hc)]
    simp only[lit,cE,hv,wM,List.length_nil];omega
   refine rP h (fun h=> ?_) fun h=> ?_
   ·split at h
    ·rename_i hc
     simp only[Bool.and_eq_true] at hc
     cases h
     rw[gL (qJ hc.1)]
     simp only[lit,cE,cV,Ub,wM,List.length_nil];omega
    ·cases h
   by_cases h3:dN T i 3=true
   ·rw[if_pos h3] at h
    obtain⟨rfl,rfl⟩:=je h
    rw[gL (qJ h3),lt];omega
   rw[if_neg h3] at h
   by_cases h4:bN T i [116,114,117,101]=true
   ·rw[if_pos h4] at h
    obtain⟨rfl,rfl⟩:=je h
    exact hl _ h4 _ rfl
   rw[if_neg h4] at h
   by_cases h4:bN T i [102,97,108,115,101]=true
   ·rw[if_pos h4] at h
    obtain⟨rfl,rfl⟩:=je h
    exact hl _ h4 _ rfl
   rw[if_neg h4] at h
   by_cases h4:bN T i [110,117,108,108]=true
   ·rw[if_pos h4] at h
    obtain⟨rfl,rfl⟩:=je h
    exact hl _ h4 _ rfl
   rw[if_neg h4] at h
   refine rP h (fun h=> ?_) fun h=> ?_
   ·obtain⟨t,i1,o1,e1,h⟩:=bX h
    obtain⟨rfl,rfl⟩:=je h
    have:=I6 e1
    simp only[GI];omega
   refine rP h (fun h=> ?_) fun h=> ?_
   ·obtain⟨_,i1,o1,e1,h⟩:=bX h
    obtain⟨a,i2,o2,e2,h⟩:=bX h
    obtain⟨_,i3,o3,e3,h⟩:=bX h
    obtain⟨rfl,rfl⟩:=je h
    have:=lC e1
    have:=L0 e2
    have:=mX e3
    omega
   refine rP h (fun h=> ?_) fun h=> ?_
   ·obtain⟨_,i1,o1,e1,h⟩:=bX h
    obtain⟨l,i2,o2,e2,h⟩:=bX h
    obtain⟨rfl,h2⟩:=DL h
    have:=lC e1
    have:=Kg Zt (fun s i o v i' o' h=>by
     obtain⟨a,i1,o1,e1,h⟩:=bX h
     obtain⟨rfl,rfl⟩:=je h
     have:=L0 e1
     rw[acI,Xt];omega) e2
    rw[GI,List.length_nil] at h2
    simp only[show Zt []=0 from rfl] at this
    omega
   by_cases h5:bN T i [115,105,122,101]=true
   ·rw[if_pos h5] at h
    have hs:=gL (is_lt h5)
    obtain⟨_,i1,o1,e1,h⟩:=bX h
    obtain⟨a,i2,o2,e2,h⟩:=bX h
    obtain⟨_,i3,o3,e3,h⟩:=bX h
    obtain⟨rfl,h2⟩:=DL h
    rw[GI,Xt,List.length_nil] at h2
    have:=lC e1
    have:=L0 e2
    have:=mX e3
    omega
   rw[if_neg h5] at h
   by_cases h6:bN T i [104,97,115]=true
   ·rw[if_pos h6] at h
    have hs:=gL (is_lt h6)
    obtain⟨_,i1,o1,e1,h⟩:=bX h
    obtain⟨a,i2,o2,e2,h⟩:=bX h
    obtain⟨_,i3,o3,e3,h⟩:=bX h
    obtain⟨c,i4,o4,e4,h⟩:=bX h
    obtain⟨_,i5,o5,e5,h⟩:=bX h
    obtain⟨rfl,h2⟩:=DL h
    rw[GI,aed,List.length_nil] at h2
    have:=lC e1
    have:=L0 e2
    have:=kV e3
    have:=L0 e4
    have:=mX e5
    omega
   rw[if_neg h6] at h
   obtain⟨t,i1,o1,e1,h⟩:=bX h
   obtain⟨rfl,rfl⟩:=je h
   have:=qF e1
   simp only[GI];omega
theorem wV {k:Nat} {e:Ex} (h:gY T k i o= .ok e i' o'):cE e+4+wt T i≤wt T i':=by
 obtain⟨b,i1,o1,e1,h⟩:=bX (show bnd (bA T k 0) (fun b=>ret b.e) i o=_ from h)
 obtain⟨rfl,rfl⟩:=je h
 exact(wtx T k).level _ _ _ _ _ _ e1
end
section
variable {T:List Lx} {i i' k:Nat} {o o':Int}
theorem aaF {s v:List (Str×Ex)} (h:qC T k s i o= .ok v i' o'):cG v+wt T i≤wt T i'+cG s:=by
 have h:(if(dN T i 1&&bN T (i+1) [63])=true then bnd (lX T) (fun v=>bnd (bU T [63]) fun _=>ret (s++[(v,sG)])) i o else bnd (gY T k) (fun e=>ret (s++[([],e)])) i o)= .ok v i' o':=h
 split at h
 ·obtain⟨t,i1,o1,e1,h⟩:=bX h
  obtain⟨_,i2,o2,e2,h⟩:=bX h
  obtain⟨q1,q2⟩:=je h
  have:=I6 e1
  have:=kV e2
  rw[q1,q2,Ns];simp only[cG,Oz];omega
 ·obtain⟨e,i1,o1,e1,h⟩:=bX h
  obtain⟨q1,q2⟩:=je h
  have:=wV e1
  rw[q1,q2,Ns];simp only[cG,List.length_nil];omega
theorem agd {c:Cd} (h:UY T k i o= .ok c i' o'):cC c+1+wt T i≤wt T i':=by
 obtain⟨nm,i1,o1,e1,h⟩:=bX (show bnd (fB T) (fun nm=>bnd (dI T [40]) fun _=>bnd (gq T [41] (qC T k) k []) fun l=>ret (Cd.mk 9 [] [] [] [] [] [] [] sG [] nm l)) i o=_ from h)
 obtain⟨_,i2,o2,e2,h⟩:=bX h
 obtain⟨l,i3,o3,e3,h⟩:=bX h
 obtain⟨q1,q2⟩:=je h
 have:=qF e1
 have:=lC e2
 have:=Kg cG (fun s i o v i' o' h=>aaF h) e3
 simp only[cG] at this
 rw[q1,q2];simp only[cC,cB,wM,uK,pQ,Oz,List.length_nil];omega
def cP (s:List (Str×Str)×List Ex):Nat:=cB s.1+wM s.2
theorem Zw {s v:List (Str×Str)×List Ex} (h:ow T k s i o= .ok v i' o'):cP v+wt T i≤wt T i'+cP s:=by
 have h:(if(dN T i 1&&bN T (i+1) [58])=true then bnd (lX T) (fun v=>bnd (bU T [58]) fun _=>bnd (fB T) fun f=>ret (s.1++[(v,f)],s.2)) i o
  else bnd (gY T k) (fun e=>ret (s.1,s.2++[e])) i o)= .ok v i' o':=h
 split at h
 ·obtain⟨t,i1,o1,e1,h⟩:=bX h
  obtain⟨_,i2,o2,e2,h⟩:=bX h
  obtain⟨f,i3,o3,e3,h⟩:=bX h
  obtain⟨q1,q2⟩:=je h
  have:=I6 e1
  have:=kV e2
  have:=qF e3
  rw[q1,q2];simp only[cP,aa8,cB];omega
 ·obtain⟨e,i1,o1,e1,h⟩:=bX h
  obtain⟨q1,q2⟩:=je h
  have:=wV e1
  rw[q1,q2];simp only[cP,GZ,wM];omega
theorem Lf {v:Str} {c:Cd} (h:kK T k v i o= .ok c i' o'):cC c+1+wt T i≤wt T i'+v.length:=by
 obtain⟨nm,i1,o1,e1,h⟩:=bX (show bnd (fB T) (fun c=>bnd (dI T [40]) fun _=>bnd (gq T [41] (ow T k) k ([],[])) fun s=>ret (Cd.mk 1 v c s.1 s.2 [] [] [] sG [] [] [])) i o=_ from h)
 obtain⟨_,i2,o2,e2,h⟩:=bX h
 obtain⟨l,i3,o3,e3,h⟩:=bX h
 obtain⟨q1,q2⟩:=je h
 have:=qF e1
 have:=lC e2
 have:=Kg cP (fun s i o v i' o' h=>Zw h) e3
 simp only[cP,cB,wM] at this
 rw[q1,q2];simp only[cC,cG,uK,pQ,Oz,List.length_nil];omega
theorem agL {c:Cd} (h:OE T k i o= .ok c i' o'):cC c+1+wt T i≤wt T i':=by
 have h:(if dN T i 1=true then bnd (lX T) (fun v=>bnd (bU T [58]) fun _=>kK T k v) i o else kK T k [] i o)= .ok c i' o':=h
 split at h
 ·obtain⟨t,i1,o1,e1,h⟩:=bX h
  obtain⟨_,i2,o2,e2,h⟩:=bX h
  have:=I6 e1
  have:=kV e2
  have:=Lf h
  omega
 ·have:=Lf h
  simpa using this
structure WtC (T:List Lx) (k:Nat):Prop where
 conds:∀ends acc i o v i' o',iK T k ends acc i o= .ok v i' o'→uK v+wt T i≤wt T i'+uK acc
 some:∀ends i o v i' o',iq T k ends i o= .ok v i' o'→uK v+1+wt T i≤wt T i'
 block:∀i o v i' o',lK T k i o= .ok v i' o'→uK v+1+wt T i≤wt T i'
 alts:∀acc i o v i' o',rz T k acc i o= .ok v i' o'→pQ v+wt T i≤wt T i'+pQ acc
 or:∀i o c i' o',orM T k i o= .ok c i' o'→cC c+1+wt T i≤wt T i'
 acc:∀i o c i' o',GN T k i o= .ok c i' o'→cC c+1+wt T i≤wt T i'
 cond:∀i o c i' o',qX T k i o= .ok c i' o'→cC c+1+wt T i≤wt T i'
theorem wtc (T:List Lx):∀k,WtC T k
 |0=>⟨fun _ _ _ _ _ _ _ h=>(by cases h),fun _ _ _ _ _ _ h=>(by cases h),fun _ _ _ _ _ h=>(by cases h),fun _ _ _ _ _ _ h=>(by cases h),fun _ _ _ _ _ h=>(by cases h),fun _ _ _ _ _ h=>(by cases h),fun _ _ _ _ _ h=>(by cases h)⟩
 |k+1=>by
  have W:=wtc T k
  refine⟨fun ends acc i o v i' o' h=> ?_,fun ends i o v i' o' h=> ?_,fun i o v i' o' h=> ?_,fun acc i o v i' o' h=> ?_,fun i o c i' o' h=> ?_,fun i o c i' o' h=> ?_,fun i o c i' o' h=> ?_⟩
  ·have h:(if(ends.any fun w=>bN T i w)=true then .ok acc i o else bnd (qX T k) (fun c=>iK T k ends (acc++[c])) i o)= .ok v i' o':=h
   split at h
   ·cases h;omega
   ·obtain⟨c,i1,o1,e1,h⟩:=bX h
    have:=W.cond _ _ _ _ _ e1
    have:=W.conds _ _ _ _ _ _ _ h
    rw[VZ] at this;simp only[uK] at this;omega
  ·obtain⟨c,i1,o1,e1,h⟩:=bX (show bnd (qX T k) (fun c=>bnd (iK T k ends []) fun l=>ret (c :: l)) i o=_ from h)
   obtain⟨l,i2,o2,e2,h⟩:=bX h
   obtain⟨q1,q2⟩:=je h
   have:=W.cond _ _ _ _ _ e1
   have:=W.conds _ _ _ _ _ _ _ e2
   simp only[uK] at this
   rw[q1,q2];simp only[uK];omega
  ·obtain⟨_,i1,o1,e1,h⟩:=bX (show bnd (dI T [40]) (fun _=>bnd (iq T k [[41]]) fun l=>bnd (bV T [41]) fun _=>ret l) i o=_ from h)
   obtain⟨l,i2,o2,e2,h⟩:=bX h
   obtain⟨_,i3,o3,e3,h⟩:=bX h
   obtain⟨q1,q2⟩:=je h
   have:=lC e1
   have:=W.some _ _ _ _ _ _ e2
   have:=mX e3
   rw[q1,q2];omega
  ·obtain⟨l,i1,o1,e1,h⟩:=bX (show bnd (iq T k [KZ,[41]]) (fun l=>bnd (eZ T KZ) fun b=>if b=true then rz T k (acc++[l]) else ret (acc++[l])) i o=_ from h)
   obtain⟨b,i2,o2,e2,h⟩:=bX h
   have h1:=W.some _ _ _ _ _ _ e1
   have h2:=SI e2
   split at h
   ·have:=W.alts _ _ _ _ _ _ h
    rw[KA] at this;simp only[pQ] at this;omega
   ·obtain⟨q1,q2⟩:=je h
    rw[q1,q2,KA];simp only[pQ];omega
  ·obtain⟨_,i1,o1,e1,h⟩:=bX (show bnd (dI T [40]) (fun _=>bnd (iq T k [KZ,[41]]) fun l=>bnd (bU T KZ) fun _=>bnd (rz T k [l]) fun a=>bnd (bV T [41]) fun _=>ret (Cd.mk 5 [] [] [] [] [] [] a sG [] [] [])) i o=_ from h)
   obtain⟨l,i2,o2,e2,h⟩:=bX h
   obtain⟨_,i3,o3,e3,h⟩:=bX h
   obtain⟨a,i4,o4,e4,h⟩:=bX h
   obtain⟨_,i5,o5,e5,h⟩:=bX h
   obtain⟨q1,q2⟩:=je h
   have:=lC e1
   have:=W.some _ _ _ _ _ _ e2
   have:=kV e3
   have h4:=W.alts _ _ _ _ _ _ e4
   simp only[pQ] at h4
   have:=mX e5
   rw[q1,q2];simp only[cC,cB,cG,wM,uK,Oz,List.length_nil];omega
  ·obtain⟨_,i1,o1,e1,h⟩:=bX (show bnd (dI T [40]) (fun _=>bnd (lX T) fun v=>bnd (bU T [58]) fun _=>bnd (eZ T oW) fun b=>bnd (if b=true then ret oW else fB T) fun fn=>
    bnd (dI T [40]) fun _=>bnd (gY T k) fun e=>bnd (bV T [41]) fun _=>bnd (bU T Vi) fun _=>bnd (iq T k [[41]]) fun l=>bnd (bV T [41]) fun _=>ret (Cd.mk 7 v [] [] [] l [] [] e fn [] [])) i o=_ from h)
   obtain⟨v,i2,o2,e2,h⟩:=bX h
   obtain⟨_,i3,o3,e3,h⟩:=bX h
   obtain⟨b,i4,o4,e4,h⟩:=bX h
   obtain⟨fn,i5,o5,e5,h⟩:=bX h
   obtain⟨_,i6,o6,e6,h⟩:=bX h
   obtain⟨e,i7,o7,e7,h⟩:=bX h
   obtain⟨_,i8,o8,e8,h⟩:=bX h
   obtain⟨_,i9,o9,e9,h⟩:=bX h
   obtain⟨l,i10,o10,e10,h⟩:=bX h
   obtain⟨_,i11,o11,e11,h⟩:=bX h
   obtain⟨q1,q2⟩:=je h
   have:=lC e1
   have:=I6 e2
   have:=kV e3
   have:=SI e4
   have h5:fn.length+wt T i4≤wt T i5+4:=by
    split at e5
    ·obtain⟨q3,q4⟩:=je e5
     rw[q3,q4];simp only[oW,List.length_cons,List.length_nil];omega
    ·have:=qF e5;omega
   have:=lC e6
   have:=wV e7
   have:=mX e8
   have:=kV e9
   have:=W.some _ _ _ _ _ _ e10
   have:=mX e11
   rw[q1,q2];simp only[cC,cB,cG,wM,uK,pQ,List.length_nil];omega
  ·have h:(if bN T i YK=true then bnd (lK T k) (fun l=>ret (cdL 2 l)) (i+1) o
    else if bN T i yU=true then bnd (lK T k) (fun l=>ret (cdL 3 l)) (i+1) o
    else if bN T i zn=true then bnd (dI T [40]) (fun _=>bnd (iq T k [[59]]) fun l=>bnd (bU T [59]) fun _=>bnd (iq T k [[41]]) fun m=>bnd (bV T [41]) fun _=>ret (.mk 4 [] [] [] [] l m [] sG [] [] [])) (i+1) o
    else if bN T i [40]=true then orM T k i o
    else if bN T i MK=true then bnd (dI T [40]) (fun _=>bnd (gY T k) fun e=>bnd (bV T [41]) fun _=>ret (.mk 8 [] [] [] [] [] [] [] e [] [] [])) (i+1) o
    else if bN T i Yz=true then GN T k (i+1) o
    else if bN T i [63]=true then UY T k (i+1) o
    else if(dN T i 1&& !bN T (i+1) [58])=true then bnd (lX T) (fun v=>bnd (bU T QU) fun _=>bnd (gY T k) fun e=>ret (.mk 6 v [] [] [] [] [] [] e [] [] [])) i o
    else OE T k i o)= .ok c i' o':=h
   have blk:∀{s:Str} {n:Int},bN T i s=true→bnd (lK T k) (fun l=>ret (cdL n l)) (i+1) o= .ok c i' o'→cC c+1+wt T i≤wt T i':=by
    intro s n hc h
    have hs:=gL (is_lt hc)
    obtain⟨l,i1,o1,e1,h⟩:=bX h
    obtain⟨q1,q2⟩:=je h
    have:=W.block _ _ _ _ _ e1
    rw[q1,q2];simp only[cdL,cC,cB,cG,wM,uK,pQ,Oz,List.length_nil];omega
   by_cases h1:bN T i YK=true
   ·rw[if_pos h1] at h;exact blk h1 h
   rw[if_neg h1] at h
   by_cases h1:bN T i yU=true
   ·rw[if_pos h1] at h;exact blk h1 h
   rw[if_neg h1] at h
   by_cases h1:bN T i zn=true
   ·rw[if_pos h1] at h
    have hs:=gL (is_lt h1)
    obtain⟨_,i1,o1,e1,h⟩:=bX h
    obtain⟨l,i2,o2,e2,h⟩:=bX h
    obtain⟨_,i3,o3,e3,h⟩:=bX h
    obtain⟨m,i4,o4,e4,h⟩:=bX h
    obtain⟨_,i5,o5,e5,h⟩:=bX h
    obtain⟨q1,q2⟩:=je h
    have:=lC e1
    have:=W.some _ _ _ _ _ _ e2
    have:=kV e3
    have:=W.some _ _ _ _ _ _ e4
    have:=mX e5
    rw[q1,q2];simp only[cC,cB,cG,wM,uK,pQ,Oz,List.length_nil];omega
   rw[if_neg h1] at h
   by_cases h1:bN T i [40]=true
   ·rw[if_pos h1] at h;exact W.or _ _ _ _ _ h
   rw[if_neg h1] at h
   by_cases h1:bN T i MK=true
   ·rw[if_pos h1] at h
    have hs:=gL (is_lt h1)
    obtain⟨_,i1,o1,e1,h⟩:=bX h
    obtain⟨e,i2,o2,e2,h⟩:=bX h
    obtain⟨_,i3,o3,e3,h⟩:=bX h
    obtain⟨q1,q2⟩:=je h
    have:=lC e1
    have:=wV e2
    have:=mX e3
    rw[q1,q2];simp only[cC,cB,cG,wM,uK,pQ,List.length_nil];omega
   rw[if_neg h1] at h
   by_cases h1:bN T i Yz=true
   ·rw[if_pos h1] at h
    have hs:=gL (is_lt h1)
    have:=W.acc _ _ _ _ _ h
    omega
   rw[if_neg h1] at h
   by_cases h1:bN T i [63]=true
   ·rw[if_pos h1] at h
    have hs:=gL (is_lt h1)
    have:=agd h
    omega
   rw[if_neg h1] at h
   by_cases h1:(dN T i 1&& !bN T (i+1) [58])=true
   ·rw[if_pos h1] at h
    obtain⟨v,i1,o1,e1,h⟩:=bX h
    obtain⟨_,i2,o2,e2,h⟩:=bX h
    obtain⟨e,i3,o3,e3,h⟩:=bX h
    obtain⟨q1,q2⟩:=je h
    have:=I6 e1
    have:=kV e2
    have:=wV e3
    rw[q1,q2];simp only[cC,cB,cG,wM,uK,pQ,List.length_nil];omega
   rw[if_neg h1] at h
   exact agL h
theorem aaY {s v:List (Str×Ex)} (h:iB T k s i o= .ok v i' o'):cG v+wt T i≤wt T i'+cG s:=by
 obtain⟨t,i1,o1,e1,h⟩:=bX (show bnd (fB T) (fun f=>bnd (bU T [61]) fun _=>bnd (gY T k) fun e=>ret (s++[(f,e)])) i o=_ from h)
 obtain⟨_,i2,o2,e2,h⟩:=bX h
 obtain⟨e,i3,o3,e3,h⟩:=bX h
 obtain⟨q1,q2⟩:=je h
 have:=qF e1
 have:=kV e2
 have:=wV e3
 rw[q1,q2,Ns];simp only[cG];omega
theorem aaP {least:Bool} {v:List (Str×Ex)} (h:qV T k least i o= .ok v i' o'):cG v+wt T i≤wt T i':=by
 obtain⟨_,i1,o1,e1,h⟩:=bX (show bnd (dI T [123]) (fun _ i o=>if least=true then bnd (uy (!bN T i [125])) (fun _=>gq T [125] (iB T k) k []) i o else gq T [125] (iB T k) k [] i o) i o=_ from h)
 have:=lC e1
 have hl:gq T [125] (iB T k) k [] i1 o1= .ok v i' o':=by
  try simp only at h
  split at h
  ·rw[He] at h
   split at h
   ·cases h
   ·exact h
  ·exact h
 have:=Kg cG (fun s i o v i' o' h=>aaY h) hl
 simp only[cG] at this
 omega
theorem Ez {a b:Act} (h:nA T a i o= .ok b i' o'):b=a∧wt T i+10≤wt T i':=by
 obtain⟨_,i1,o1,e1,h⟩:=bX (show bnd (bU T [59]) (fun _=>ret a) i o=_ from h)
 obtain⟨q1,q2⟩:=je h
 have:=kV e1
 exact⟨q1,by rw[q2];exact this⟩
theorem agf {a:Act} (h:Dr T k i o= .ok a i' o'):cA a+wt T i≤wt T i':=by
 have h:=(congrFun (congrFun (congrFun (congrFun (Ot k) 0) T) i) o).symm.trans h
 try simp only at h
 by_cases h1:(bN T i qK||bN T i iE)=true
 ·rw[if_pos h1] at h
  have hi:i<T.length:=by
   rw[Bool.or_eq_true] at h1
   rcases h1 with h1 |h1<;>exact is_lt h1
  obtain⟨t,i1,o1,e1,h⟩:=bX h
  obtain⟨c,i2,o2,e2,h⟩:=bX h
  obtain⟨l,i3,o3,e3,h⟩:=bX h
  obtain⟨q1,q2⟩:=Ez h
  have hs:=gL hi
  have q3:i1=i+1:=by cases e1;rfl
  rw[q3] at e2
  have:=qF e2
  have:=aaP e3
  rw[q1];simp only[cA,Oz,List.length_nil];omega
 rw[if_neg h1] at h
 by_cases h1:bN T i zH=true
 ·rw[if_pos h1] at h
  have hs:=gL (is_lt h1)
  obtain⟨e,i1,o1,e1,h⟩:=bX h
  obtain⟨l,i2,o2,e2,h⟩:=bX h
  obtain⟨q1,q2⟩:=Ez h
  have:=wV e1
  have:=aaP e2
  rw[q1];simp only[cA,List.length_nil];omega
 rw[if_neg h1] at h
 by_cases h1:bN T i zq=true
 ·rw[if_pos h1] at h
  have hs:=gL (is_lt h1)
  obtain⟨e,i1,o1,e1,h⟩:=bX h
  obtain⟨q1,q2⟩:=Ez h
  have:=wV e1
  rw[q1];simp only[cA,cG,List.length_nil];omega
 rw[if_neg h1] at h
 by_cases h1:bN T i Eh=true
 ·rw[if_pos h1] at h
  have hs:=gL (is_lt h1)
  obtain⟨e,i1,o1,e1,h⟩:=bX h
  obtain⟨q1,q2⟩:=Ez h
  have:=Dc e1
  rw[q1];simp only[cA,cG,Oz,List.length_nil];omega
 rw[if_neg h1] at h
 by_cases h1:bN T i Ee=true
 ·rw[if_pos h1] at h
  have hs:=gL (is_lt h1)
  obtain⟨e,i1,o1,e1,h⟩:=bX h
  obtain⟨q1,q2⟩:=Ez h
  have:=wV e1
  rw[q1];simp only[cA,cG,List.length_nil];omega
 rw[if_neg h1] at h
 obtain⟨_,i1,o1,e1,h⟩:=bX h
 obtain⟨q1,q2⟩:=Ez h
 have:=kV e1
 rw[q1];simp only[cA,cG,Oz,List.length_nil];omega
theorem af2 {n:Int} (h:KX T i o= .ok n i' o'):wt T i≤wt T i':=xk (U5.mono 0 _ _ _ _ _ _ h)
theorem FD:∀(k:Nat) (r:Bu) {i:Nat} {o:Int} {v:Bu} {i':Nat} {o':Int},jO T k r i o= .ok v i' o'→cR v+wt T i≤wt T i'+cR r
 |0,_,_,_,_,_,_,h=>by cases h
 |k+1,r,i,o,v,i',o',h=>by
  have h:(if bN T i MV=true then .ok r (i+1) o
   else if bN T i aav=true then bnd (KX T) (fun n=>jO T k {r with sal:=n}) (i+1) o
   else if bN T i Jp=true then bnd (iY T) (fun t=>jO T k {r with group:=t}) (i+1) o
   else if bN T i RO=true then bnd (iY T) (fun t=>jO T k {r with flow:=t}) (i+1) o
   else if bN T i Db=true then jO T k {r with noloop:=true} (i+1) o
   else bnd (bU T XB) (fun _=>jO T k {r with lock:=true}) i o)= .ok v i' o':=h
  have st:∀{s:Str},bN T i s=true→wt T i≤wt T (i+1):=fun hc=>xk (Nat.le_succ i)
  split at h
  ·cases h;have:=@xk T i (i+1) (Nat.le_succ i);omega
  split at h
  ·have:=@xk T i (i+1) (Nat.le_succ i)
   obtain⟨n,i1,o1,e1,h⟩:=bX h
   have:=af2 e1
   have:=FD k _ h
   simp only[cR] at this ⊢
   omega
  split at h
  ·have:=@xk T i (i+1) (Nat.le_succ i)
   obtain⟨n,i1,o1,e1,h⟩:=bX h
   have:=Dc e1
   have:=FD k _ h
   simp only[cR] at this ⊢
   omega
  split at h
  ·have:=@xk T i (i+1) (Nat.le_succ i)
   obtain⟨n,i1,o1,e1,h⟩:=bX h
   have:=Dc e1
   have:=FD k _ h
   simp only[cR] at this ⊢
   omega
  split at h
  ·have:=@xk T i (i+1) (Nat.le_succ i)
   have:=FD k _ h
   simp only[cR] at this ⊢
   omega
  ·obtain⟨n,i1,o1,e1,h⟩:=bX h
   have:=kV e1
   have:=FD k _ h
   simp only[cR] at this ⊢
   omega
theorem aaB (k0:Nat):∀(k:Nat) (acc:List Act) {i:Nat} {o:Int} {v:List Act} {i':Nat} {o':Int},pW T k0 k acc i o= .ok v i' o'→Ny v+wt T i≤wt T i'+Ny acc
 |0,_,_,_,_,_,_,h=>by cases h
 |k+1,acc,i,o,v,i',o',h=>by
  have h:(if bN T i vZ=true then .ok acc (i+1) o else bnd (Dr T k0) (fun a=>pW T k0 k (acc++[a])) i o)= .ok v i' o':=h
  split at h
  ·cases h;have:=@xk T i (i+1) (Nat.le_succ i);omega
  ·obtain⟨a,i1,o1,e1,h⟩:=bX h
   have:=agf e1
   have:=aaB k0 k _ h
   rw[WE] at this;simp only[Ny] at this;omega
theorem aeF {r:Bu} (h:xq T k i o= .ok r i' o'):cR r+wt T i≤wt T i':=by
 obtain⟨nm,i1,o1,e1,h⟩:=bX (show bnd (iY T) (fun nm=>bnd (jO T k ⟨nm,0,[],[],false,false,[],[]⟩) fun r=>bnd (iK T k [yD] []) fun w=>bnd (bU T yD) fun _=>bnd (pW T k k []) fun t=>ret ({r with whn:=w,thn:=t}:Bu)) i o=_ from h)
 obtain⟨rr,i2,o2,e2,h⟩:=bX h
 obtain⟨w,i3,o3,e3,h⟩:=bX h
 obtain⟨_,i4,o4,e4,h⟩:=bX h
 obtain⟨t,i5,o5,e5,h⟩:=bX h
 obtain⟨q1,q2⟩:=je h
 have:=Dc e1
 have h2:=FD k _ e2
 have:=(wtc T k).conds _ _ _ _ _ _ _ e3
 have:=kV e4
 have:=aaB k k _ e5
 rw[q1,q2];simp only[cR,uK,Ny,List.length_nil] at *;omega
theorem abn {s v:List Str} (h:ql T s i o= .ok v i' o'):cT v+wt T i≤wt T i'+cT s:=by
 obtain⟨t,i1,o1,e1,h⟩:=bX (show bnd (lX T) (fun v=>ret (s++[v])) i o=_ from h)
 obtain⟨q1,q2⟩:=je h
 have:=I6 e1
 rw[q1,q2,Zh];simp only[cT];omega
theorem acV {q:K3} (h:oZ T k i o= .ok q i' o'):cQ q+wt T i≤wt T i':=by
 obtain⟨nm,i1,o1,e1,h⟩:=bX (show bnd (fB T) (fun nm=>bnd (dI T [40]) fun _=>bnd (gq T [41] (ql T) k []) fun ps=>bnd (iK T k [vZ] []) fun w=>bnd (bU T vZ) fun _=>ret (⟨nm,ps,w⟩:K3)) i o=_ from h)
 obtain⟨_,i2,o2,e2,h⟩:=bX h
 obtain⟨ps,i3,o3,e3,h⟩:=bX h
 obtain⟨w,i4,o4,e4,h⟩:=bX h
 obtain⟨_,i5,o5,e5,h⟩:=bX h
 obtain⟨q1,q2⟩:=je h
 have:=qF e1
 have:=lC e2
 have h3:=Kg cT (fun s i o v i' o' h=>abn h) e3
 have h4:=(wtc T k).conds _ _ _ _ _ _ _ e4
 have:=kV e5
 simp only[cT,uK] at h3 h4
 rw[q1,q2];simp only[cQ];omega
theorem acU {f:Bv} (h:pq T i o= .ok f i' o'):f.name.length+f.cls.length+1+wt T i≤wt T i':=by
 obtain⟨nm,i1,o1,e1,h⟩:=bX (show bnd (fB T) (fun nm=>bnd (bU T [58]) fun _=>wU nm T) i o=_ from h)
 obtain⟨_,i2,o2,e2,h⟩:=bX h
 have:=qF e1
 have:=kV e2
 have:=@xk T i2 (i2+1) (Nat.le_succ i2)
 unfold wU at h
 split at h
 ·cases h;simp only[List.length_nil];omega
 split at h
 ·cases h;simp only[List.length_nil];omega
 split at h
 ·cases h;simp only[List.length_nil];omega
 split at h
 ·cases h;simp only[List.length_nil];omega
 split at h
 ·cases h;simp only[List.length_nil];omega
 ·obtain⟨_,i3,o3,e3,h⟩:=bX h
  obtain⟨c,i4,o4,e4,h⟩:=bX h
  obtain⟨q1,q2⟩:=je h
  have:=kV e3
  have:=qF e4
  rw[q1,q2];simp only;omega
theorem Qw:∀(k:Nat) (first:Bool) (acc:List Bv) {i:Nat} {o:Int} {v:List Bv} {i':Nat} {o':Int},gG T k first acc i o= .ok v i' o'→cF v+wt T i≤wt T i'+cF acc
 |0,_,_,_,_,_,_,_,h=>by cases h
 |k+1,first,acc,i,o,v,i',o',h=>by
  have hb:∀{j:Nat} {o:Int},bnd (pq T) (fun f=>gG T k false (acc++[f])) j o= .ok v i' o'→cF v+wt T j≤wt T i'+cF acc:=by
   intro j o h
   obtain⟨f,i1,o1,e1,h⟩:=bX h
   have:=acU e1
   have:=Qw k false _ h
   rw[abo] at this;simp only[cF] at this;omega
  have h:(if first=true then(if bN T i [125]=true then .ok acc i o else bnd (pq T) (fun f=>gG T k false (acc++[f])) i o)
   else if bN T i [44]=true then bnd (pq T) (fun f=>gG T k false (acc++[f])) (i+1) o
   else if om T i=true then bnd (pq T) (fun f=>gG T k false (acc++[f])) i o
   else .ok acc i o)= .ok v i' o':=h
  split at h
  ·split at h
   ·cases h;omega
   ·exact hb h
  ·split at h
   ·have:=hb h
    have:=@xk T i (i+1) (Nat.le_succ i)
    omega
   ·split at h
    ·exact hb h
    ·cases h;omega
theorem ady {c:Cls} (h:rD T k i o= .ok c i' o'):cK c+wt T i≤wt T i':=by
 obtain⟨nm,i1,o1,e1,h⟩:=bX (show bnd (fB T) (fun nm=>bnd (J8 T) fun su=>bnd (dI T [123]) fun _=>bnd (gG T k true []) fun fs=>bnd (bV T [125]) fun _=>ret (⟨nm,su,fs⟩:Cls)) i o=_ from h)
 obtain⟨su,i2,o2,e2,h⟩:=bX h
 obtain⟨_,i3,o3,e3,h⟩:=bX h
 obtain⟨fs,i4,o4,e4,h⟩:=bX h
 obtain⟨_,i5,o5,e5,h⟩:=bX h
 obtain⟨q1,q2⟩:=je h
 have:=qF e1
 have h2:su.length+wt T i1≤wt T i2:=by
  obtain⟨b,j,oo,f1,f2⟩:=bX (show bnd (eZ T Q6) (fun b=>if b=true then fB T else ret []) i1 o1=_ from e2)
  have:=SI f1
  split at f2
  ·have:=qF f2;omega
  ·obtain⟨q3,q4⟩:=je f2
   rw[q3,q4];simpa using this
 have:=lC e3
 have h4:=Qw k true _ e4
 have:=mX e5
 simp only[cF] at h4
 rw[q1,q2];simp only[cK];omega
theorem NA (k0:Nat):∀(k:Nat) (b:DU) {i:Nat} {o:Int} {v:DU} {i':Nat} {o':Int},iF T k0 k b i o= .ok v i' o'→GL v+wt T i≤wt T i'+GL b
 |0,_,_,_,_,_,_,h=>by cases h
 |k+1,b,i,o,v,i',o',h=>by
  have h:(if i<T.length then
   (if bN T i uQ=true then bnd (rD T k0) (fun c=>iF T k0 k {b with classes:=b.classes++[c]}) (i+1) o
   else if bN T i Dh=true then bnd (xq T k0) (fun r=>iF T k0 k {b with rules:=b.rules++[r]}) (i+1) o
   else bnd (bU T AY) (fun _=>bnd (oZ T k0) fun q=>iF T k0 k {b with queries:=b.queries++[q]}) i o)
  else .ok b i o)= .ok v i' o':=h
  split at h
  ·split at h
   ·have:=@xk T i (i+1) (Nat.le_succ i)
    obtain⟨c,i1,o1,e1,h⟩:=bX h
    have:=ady e1
    have:=NA k0 k _ h
    simp only[GL,Wm,R7] at this ⊢
    omega
   ·split at h
    ·have:=@xk T i (i+1) (Nat.le_succ i)
     obtain⟨c,i1,o1,e1,h⟩:=bX h
     have:=aeF e1
     have:=NA k0 k _ h
     simp only[GL,Vf,R5] at this ⊢
     omega
    ·obtain⟨_,i1,o1,e1,h⟩:=bX h
     obtain⟨c,i2,o2,e2,h⟩:=bX h
     have:=kV e1
     have:=acV e2
     have:=NA k0 k _ h
     simp only[GL,XC,R6] at this ⊢
     omega
  ·cases h;omega
end
end Go.Proofs.YtibillhjmfbneaaGreatDoor
