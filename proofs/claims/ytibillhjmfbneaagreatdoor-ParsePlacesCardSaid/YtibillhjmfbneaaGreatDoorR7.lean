/-
  Texts that the claim hangs on, part 8.
-/
import Derived.Test.YtibillhjmfbneaaGreatDoorR6
set_option linter.unusedSimpArgs false
set_option linter.unusedVariables false
namespace Go.Proofs.YtibillhjmfbneaaGreatDoor
open Go.Ab
def esc (d:Nat):Option Nat:=if d=34 then some 34 else if d=92 then some 92 else if d=110 then some 10 else if d=116 then some 9 else none
def quo:Str→Option (Str×Nat)
 | []=>none
 | [c]=>if c=34 then some ([],1) else none
 |c :: d :: l=>if c=34 then some ([],1) else if c=92 then(match esc d with
   |none=>none
   |some e=>(quo l).map fun r=>(e :: r.1,r.2+2))
  else if c<32 then none else(quo (d :: l)).map fun r=>(c :: r.1,r.2+1)
theorem QE:∀(l:Str) (t:Str) (m:Nat),quo l=some (t,m)→0<m∧m≤l.length∧t.length+1≤m
 | [],t,m,h=>by cases h
 | [c],t,m,h=>by
   simp only[quo] at h
   split at h
   ·cases h;simp
   ·cases h
 |c :: d :: l,t,m,h=>by
  simp only[quo] at h
  split at h
  ·cases h;simp
  ·split at h
   ·cases he:esc d with
    |none=>rw[he] at h;cases h
    |some e=>
     rw[he] at h
     cases hq:quo l with
     |none=>rw[hq] at h;cases h
     |some r=>
      rw[hq] at h
      obtain⟨t',m'⟩:=r
      have:=QE l t' m' hq
      cases h
      simp only[List.length_cons];omega
   ·split at h
    ·cases h
    ·cases hq:quo (d :: l) with
     |none=>rw[hq] at h;cases h
     |some r=>
      rw[hq] at h
      obtain⟨t',m'⟩:=r
      have:=QE (d :: l) t' m' hq
      cases h
      simp only[List.length_cons] at *;omega
theorem ZT {s:Str} {i:Nat} (h:i<s.length):quo (s.drop i)=if pk s i=34 then some ([],1) else if pk s i=92 then(match esc (pk s (i+1)) with
 |none=>none
 |some e=>(quo (s.drop (i+2))).map fun r=>(e :: r.1,r.2+2))
 else if pk s i<32 then none else(quo (s.drop (i+1))).map fun r=>(pk s i :: r.1,r.2+1):=by
 rw[qL h]
 by_cases h1:i+1<s.length
 ·rw[qL h1];rfl
 ·rw[List.drop_of_length_le (show s.length≤i+1 by omega),Hu (show s.length≤i+1 by omega)]
  have e0:esc 0=none:=rfl
  simp only[quo,e0]
  split
  ·rfl
  ·split
   ·rfl
   ·split<;>rfl
theorem abO (d:Nat):esc d=match bidx d [34,92,110,116] with |none=>none |some k=>some (pk [34,92,10,9] k):=by
 by_cases h1:d=34
 ·subst h1;rfl
 by_cases h2:d=92
 ·subst h2;rfl
 by_cases h3:d=110
 ·subst h3;rfl
 by_cases h4:d=116
 ·subst h4;rfl
 simp only[esc,bidx,if_neg h1,if_neg h2,if_neg h3,if_neg h4,if_neg (fun e=>h1 (Eq.symm e):¬34=d),if_neg (fun e=>h2 (Eq.symm e):¬92=d),if_neg (fun e=>h3 (Eq.symm e):¬110=d),if_neg (fun e=>h4 (Eq.symm e):¬116=d)]
 rfl
theorem MU {s:Str} (hb:∀b∈s,b<256) (i:Nat):pk s i<256:=by
 by_cases h:i<s.length
 ·rw[TR h];exact hb _ (List.getElem_mem h)
 ·rw[Hu (by omega)];omega
def X4 (acc:Str) (i:Nat):Option (Str×Nat)→AV
 |none=> .tup [.str [], .int .i64 0]
 |some r=> .tup [.str (acc++r.1), .int .i64 ((i+r.2:Nat):Int)]
theorem l67 {n x a bd:Nat} {s:Str} {bad:Bool} {h0:ah} {K:au} (V:LX h0 x s a bad) (ho0:h0.Ok) (hL:2*s.length+4<most) (hb:∀b∈s,b<256) (ha:a≤s.length) (hid:h0.sz≤bd)
 :∀(m i:Nat) (acc:Str) (h:ah),h.Ok→Ext h0 h→Bld h bd acc→acc.length≤i→i≤s.length+2→s.length+2-i<m→
  (∀h',Ext h0 h'→h'.Ok→K (X4 acc i (quo (s.drop (a+i)))) h'=true)→UY (av E (n+3)) (n+3) m (.ptr x 0 0 0) (.ptr bd 0 0 0) (.int .i64 (i:Int)) h K=true:=by
 have hlim:most<lim:=by decide
 intro m
 induction m with
 |zero=>intro i acc h _ _ _ _ _ hm;omega
 |succ m ih=>
  intro i acc h ho e0 B hacc hi hm k
  have V':LX h x s a bad:=Var.ext V e0
  unfold UY Y2
  refine dW ?_;refine aB ?_;refine aR (LX.l1 V') ?_
  first |refine aR (dz (show a+i<lim by omega)) ?_ |refine gD (dz (show a+i<lim by omega)) ?_ |refine iI (dz (show a+i<lim by omega)) ?_ |refine iH (dz (show a+i<lim by omega)) ?_ |refine iD (dz (show a+i<lim by omega)) ?_ |refine oU (dz (show a+i<lim by omega)) ?_ |refine kg (dz (show a+i<lim by omega)) ?_ |refine z_neE (dz (show a+i<lim by omega)) ?_ |refine nT (dz (show a+i<lim by omega)) ?_ |refine qC (dz (show a+i<lim by omega)) ?_ |refine wm (dz (show a+i<lim by omega)) ?_ |refine qB (dz (show a+i<lim by omega)) ?_
  refine dW ?_;refine aB ?_;refine aR (LX.l0 V') ?_;refine oF ?_;refine iZ ?_
  by_cases hlt:a+i<s.length
  ·refine tZ (decide_eq_true (by omega)) ?_
   have hq:=ZT hlt
   rw[hq] at k
   refine c60 V' (by omega) ha (aI rfl ?_)
   have e34:eH .eql (.int .u8 (pk s (a+i):Int)) (AV.int .u8 34)=some (.bool (decide (pk s (a+i)=34))):=Yw 34 _
   refine kg e34 ?_
   by_cases h1:pk s (a+i)=34
   ·refine tZ (decide_eq_true h1) ?_
    rw[if_pos h1] at k
    refine c82 B ho ho0 e0 hid (by omega) fun h' e' o'=> ?_
    have e1:eH .add (.int .i64 (i:Int)) (AV.int .i64 1)=some (.int .i64 ((i+1:Nat):Int)):=PO 1 (by omega)
    refine aI rfl ?_
    unfold DI
    refine gD e1 ?_
    have:=k h' e' o'
    simp only[X4,List.append_nil] at this
    exact this
   ·refine uI (decide_eq_false h1) ?_
    rw[if_neg h1] at k
    have e92:eH .eql (.int .u8 (pk s (a+i):Int)) (AV.int .u8 92)=some (.bool (decide (pk s (a+i)=92))):=Yw 92 _
    refine kg e92 ?_
    by_cases h2:pk s (a+i)=92
    ·refine tZ (decide_eq_true h2) ?_
     rw[if_pos h2,show a+i+1=a+(i+1) by omega] at k
     have e1:eH .add (.int .i64 (i:Int)) (AV.int .i64 1)=some (.int .i64 ((i+1:Nat):Int)):=PO 1 (by omega)
     refine gD e1 ?_
     refine c60 V' (k:=i+1) (by omega) ha (aI rfl ?_)
     unfold C9
     refine c61 (MU hb _) (aI rfl ?_)
     rw[abO] at k
     show lI (.int .i64 (fint (bidx (pk s (a+(i+1))) [34,92,110,116]))) _ _=true
     cases hk:bidx (pk s (a+(i+1))) [34,92,110,116] with
     |none=>
      rw[hk] at k
      have e0':eH .lss (.int .i64 (fint none)) (AV.int .i64 0)=some (.bool true):=rfl
      refine nT e0' ?_
      refine bN ?_
      exact k h e0 ho
     |some j=>
      rw[hk] at k
      have e0':eH .lss (.int .i64 (fint (some j))) (AV.int .i64 0)=some (.bool false):=by rw[He];rfl
      have hj:=LZ hk
      have hj4:j<4:=hj
      refine nT e0' ?_
      refine bC ?_
      first |refine aR (show lX (.str [34,92,10,9]) (.int .i64 (fint (some j)))=some (.int .u8 (pk [34,92,10,9] j:Int)) from eD (s:=[34,92,10,9]) hj) ?_ |refine gD (show lX (.str [34,92,10,9]) (.int .i64 (fint (some j)))=some (.int .u8 (pk [34,92,10,9] j:Int)) from eD (s:=[34,92,10,9]) hj) ?_ |refine iI (show lX (.str [34,92,10,9]) (.int .i64 (fint (some j)))=some (.int .u8 (pk [34,92,10,9] j:Int)) from eD (s:=[34,92,10,9]) hj) ?_ |refine iH (show lX (.str [34,92,10,9]) (.int .i64 (fint (some j)))=some (.int .u8 (pk [34,92,10,9] j:Int)) from eD (s:=[34,92,10,9]) hj) ?_ |refine iD (show lX (.str [34,92,10,9]) (.int .i64 (fint (some j)))=some (.int .u8 (pk [34,92,10,9] j:Int)) from eD (s:=[34,92,10,9]) hj) ?_ |refine oU (show lX (.str [34,92,10,9]) (.int .i64 (fint (some j)))=some (.int .u8 (pk [34,92,10,9] j:Int)) from eD (s:=[34,92,10,9]) hj) ?_ |refine kg (show lX (.str [34,92,10,9]) (.int .i64 (fint (some j)))=some (.int .u8 (pk [34,92,10,9] j:Int)) from eD (s:=[34,92,10,9]) hj) ?_ |refine z_neE (show lX (.str [34,92,10,9]) (.int .i64 (fint (some j)))=some (.int .u8 (pk [34,92,10,9] j:Int)) from eD (s:=[34,92,10,9]) hj) ?_ |refine nT (show lX (.str [34,92,10,9]) (.int .i64 (fint (some j)))=some (.int .u8 (pk [34,92,10,9] j:Int)) from eD (s:=[34,92,10,9]) hj) ?_ |refine qC (show lX (.str [34,92,10,9]) (.int .i64 (fint (some j)))=some (.int .u8 (pk [34,92,10,9] j:Int)) from eD (s:=[34,92,10,9]) hj) ?_ |refine wm (show lX (.str [34,92,10,9]) (.int .i64 (fint (some j)))=some (.int .u8 (pk [34,92,10,9] j:Int)) from eD (s:=[34,92,10,9]) hj) ?_ |refine qB (show lX (.str [34,92,10,9]) (.int .i64 (fint (some j)))=some (.int .u8 (pk [34,92,10,9] j:Int)) from eD (s:=[34,92,10,9]) hj) ?_
      refine c83 B ho ho0 e0 hid (by omega) (MU (by decide) j) fun h' e' o' B'=>aI rfl ?_
      unfold GK
      have e2:eH .add (.int .i64 ((i+1:Nat):Int)) (AV.int .i64 1)=some (.int .i64 ((i+2:Nat):Int)):=PO 1 (by omega)
      refine gD e2 ?_
      have hpos:a+(i+1)<s.length:=by
       rcases Nat.lt_or_ge (a+(i+1)) s.length with hh |hh
       ·exact hh
       ·rw[Hu hh] at hk;cases hk
      refine ih (i+2) _ h' o' e' B' (by simp;omega) (by omega) (by omega) fun h'' e'' o''=> ?_
      have:=k h'' e'' o''
      rw[show a+i+2=a+(i+2) by omega] at this
      cases hq2:quo (s.drop (a+(i+2))) with
      |none=>rw[hq2] at this;exact this
      |some r=>
       rw[hq2] at this
       simp only[Option.map,X4] at this ⊢
       rw[List.append_assoc]
       rw[show i+2+r.2=i+(r.2+2) by omega]
       exact this
    ·refine uI (decide_eq_false h2) ?_
     rw[if_neg h2] at k
     have e32:eH .lss (.int .u8 (pk s (a+i):Int)) (AV.int .u8 32)=some (.bool (decide (pk s (a+i)<32))):=ltb 32 _
     refine nT e32 ?_
     by_cases h3:pk s (a+i)<32
     ·refine tZ (decide_eq_true h3) ?_
      rw[if_pos h3] at k
      exact k h e0 ho
     ·refine uI (decide_eq_false h3) ?_
      rw[if_neg h3] at k
      refine c83 B ho ho0 e0 hid (by omega) (MU hb _) fun h' e' o' B'=>aI rfl ?_
      unfold GK
      have e2:eH .add (.int .i64 (i:Int)) (AV.int .i64 1)=some (.int .i64 ((i+1:Nat):Int)):=PO 1 (by omega)
      refine gD e2 ?_
      refine ih (i+1) _ h' o' e' B' (by simp;omega) (by omega) (by omega) fun h'' e'' o''=> ?_
      have:=k h'' e'' o''
      rw[show a+i+1=a+(i+1) by omega] at this
      cases hq2:quo (s.drop (a+(i+1))) with
      |none=>rw[hq2] at this;exact this
      |some r=>
       rw[hq2] at this
       simp only[Option.map,X4] at this ⊢
       rw[List.append_assoc]
       rw[show i+1+r.2=i+(r.2+1) by omega]
       exact this
  ·refine uI (decide_eq_false (by omega)) ?_
   rw[List.drop_of_length_le (by omega)] at k
   exact k h e0 ho
theorem c67 {n x a:Nat} {s:Str} {bad:Bool} {h:ah} {K:au} (V:LX h x s a bad) (ho:h.Ok) (hL:2*s.length+4<most) (hb:∀b∈s,b<256) (ha:a≤s.length) (hn:s.length<n)
 (k:∀h',Ext h h'→h'.Ok→K (X4 [] 1 (quo (s.drop (a+1)))) h'=true):av E (n+4) (.func 67) [.ptr x 0 0 0] h K=true:=by
 apply d67
 unfold s67
 obtain⟨b1,b2,b3,b4⟩:=aaP ho
 refine Wd b1 ?_
 exact l67 V ho hL hb ha (Nat.le_refl _) (n+3) 1 [] _ b3 b4 b2 (by simp) (by omega) (by omega) k
def tT:Str→Option (Nat×Str×Nat)
 | []=>none
 |c :: l=>if mH c=true then some (0,(c :: l).take (nV (c :: l)),nV (c :: l))
  else if c=36 then(if 0<nV l then some (1,l.take (nV l),nV l+1) else none)
  else if ig c=true then some (2,(c :: l).take ((c :: l).takeWhile ig).length,((c :: l).takeWhile ig).length)
  else if c=34 then(quo l).map fun r=>(3,r.1,r.2+1)
  else if 0<nu (c :: l) then some (4,(c :: l).take (nu (c :: l)),nu (c :: l)) else none
theorem aaw {s:Str} {a:Nat} (h:a<s.length):tT (s.drop a)=if mH (pk s a)=true then some (0,(s.drop a).take (nV (s.drop a)),nV (s.drop a))
 else if pk s a=36 then(if 0<nV (s.drop (a+1)) then some (1,(s.drop (a+1)).take (nV (s.drop (a+1))),nV (s.drop (a+1))+1) else none)
 else if ig (pk s a)=true then some (2,(s.drop a).take ((s.drop a).takeWhile ig).length,((s.drop a).takeWhile ig).length)
 else if pk s a=34 then(quo (s.drop (a+1))).map fun r=>(3,r.1,r.2+1)
 else if 0<nu (s.drop a) then some (4,(s.drop a).take (nu (s.drop a)),nu (s.drop a)) else none:=by
 rw[qL h];rfl
theorem AO {p:Nat→Bool}:∀(l:Str),(l.takeWhile p).length≤l.length
 | []=>by simp
 |c :: l=>by
  rw[List.takeWhile_cons]
  split
  ·have:=AO (p:=p) l
   simp only[List.length_cons];omega
  ·simp
theorem FQ (l:Str):nV l≤l.length:=by
 cases l with
 |nil=>simp[nV]
 |cons c l=>simp only[nV];split
            ·exact AO _
            ·omega
theorem TB (l:Str):nu l≤l.length:=by
 unfold nu
 split
 ·rename_i h
  obtain⟨t,ht,hp⟩:=List.any_eq_true.1 h
  have h1:=(List.isPrefixOf_iff_prefix.1 hp).length_le
  have h2:t.length=2:=by
   have:∀t∈xw,t.length=2:=by decide
   exact this t ht
  omega
 ·cases l with
  |nil=>simp
  |cons c l=>simp only[List.length_cons];split<;>omega
theorem LD {l:Str} {kd m:Nat} {t:Str} (h:tT l=some (kd,t,m)):0<m∧m≤l.length:=by
 cases l with
 |nil=>cases h
 |cons c l=>
  have e1:=FQ (c :: l)
  have e2:=FQ l
  have e3:=TB (c :: l)
  have e4:=AO (p:=ig) (c :: l)
  simp only[tT] at h
  split at h
  ·rename_i hc
   cases h
   refine⟨?_,e1⟩
   have hw:G9 c=true:=by simp[G9,hc]
   simp only[nV,hc,if_true]
   rw[List.takeWhile_cons,hw];simp
  ·split at h
   ·split at h
    ·cases h;simp only[List.length_cons];omega
    ·cases h
   ·split at h
    ·rename_i hc
     cases h
     refine⟨?_,e4⟩
     rw[List.takeWhile_cons,hc];simp
    ·split at h
     ·cases hq:quo l with
      |none=>rw[hq] at h;cases h
      |some r=>
       rw[hq] at h
       obtain⟨t',m'⟩:=r
       have:=QE l t' m' hq
       cases h
       simp only[List.length_cons];omega
     ·split at h
      ·cases h;omega
      ·cases h
theorem agO {h:ah} {id:Nat} {c:List AV} {a b v:AV} {K:au} (V:Var h id c) (hc:c.length=4) (ha:a.leaf=true) (hb:b.leaf=true)
 (k:K (.tup [.agg [a,b, .int .i64 0, .int .i64 0],v]) (h.put id (.row (kW [a,b, .int .i64 0, .int .i64 0])))=true):
 (aN h 4 (.ptr id 0 0 0) (.agg [a,b, .int .i64 0, .int .i64 0]) fun h=>gq (fG h [(.ptr id 0 0 0,some (true,4)),(v,none)]) h K)=true:=by
 have hl:aD (AV.agg [a,b, .int .i64 0, .int .i64 0]).cells=true:=by
  show(bif a.leaf then(bif b.leaf then _ else false) else false)=true
  rw[ha,hb];rfl
 have hy:lay c 0 (AV.agg [a,b, .int .i64 0, .int .i64 0]).cells=[a,b, .int .i64 0, .int .i64 0]:=by
  match c,hc with
  | [_,_,_,_],_=>rfl
 have hs:=V.store (n:=4) (off:=0) (v:= .agg [a,b, .int .i64 0, .int .i64 0]) rfl (by omega) hl
 rw[hy] at hs
 refine ZI rfl hs ?_
 have V':=vv (h:=h) id [a,b, .int .i64 0, .int .i64 0]
 simp only[fG,V'.load]
 exact k
theorem c45 {n x a:Nat} {s:Str} {bad:Bool} {h:ah} {K:au} (V:LX h x s a bad) (ho:h.Ok) (hL:2*s.length+4<most) (hb:∀b∈s,b<256) (ha:a<s.length) (hn:s.length<n) (hn6:6≤n)
 (kS:∀kd t m h',tT (s.drop a)=some (kd,t,m)→Ext h h'→h'.Ok→K (.tup [.agg [.int .i64 (kd:Int), .str t, .int .i64 0, .int .i64 0], .int .i64 (m:Int)]) h'=true)
 (kN:tT (s.drop a)=none→∀(kd:Nat) t h',Ext h h'→h'.Ok→K (.tup [.agg [.int .i64 (kd:Int), .str t, .int .i64 0, .int .i64 0], .int .i64 0]) h'=true):av E (n+5) (.func 45) [.ptr x 0 0 0] h K=true:=by
 have hlim:most<lim:=by decide
 apply d45
 unfold s45
 have A1:mU h none 1 (.ptr x 0 0 0)=some (.ptr h.sz 0 0 0,Ab.newRow h [[AV.ptr x 0 0 0]] 1):=Nf (n:=1) rfl (by decide) rfl
 have A2:oh (Ab.newRow h [[AV.ptr x 0 0 0]] 1) [AV.int .i64 0, .str [], .int .i64 0, .int .i64 0]=some (.ptr (h.sz+1) 0 0 0,Ab.newRow (Ab.newRow h [[AV.ptr x 0 0 0]] 1) [[AV.int .i64 0, .str [], .int .i64 0, .int .i64 0]] 4):=alloc_eq (by decide) rfl
 refine Y1 A1 (Sc rfl rfl rfl A2 ?_)
 have e1:=gY ho [[AV.ptr x 0 0 0]] 1
 have o1:=iN ho [[AV.ptr x 0 0 0]] 1
 have V1:=nC h [AV.ptr x 0 0 0]
 have e2:=gY o1 [[AV.int .i64 0, .str [], .int .i64 0, .int .i64 0]] 4
 have o2:=iN o1 [[AV.int .i64 0, .str [], .int .i64 0, .int .i64 0]] 4
 have V2:=nC (Ab.newRow h [[AV.ptr x 0 0 0]] 1) [AV.int .i64 0, .str [], .int .i64 0, .int .i64 0]
 have V1':=V1.ext e2
 have E2:=e1.trans e2
 have VX:LX (Ab.newRow (Ab.newRow h [[AV.ptr x 0 0 0]] 1) [[AV.int .i64 0, .str [], .int .i64 0, .int .i64 0]] 4) x s a bad:=Var.ext V E2
 simp only[List.length_cons,List.length_nil,Nat.zero_add,Xj] at V1' V2
 generalize(Ab.newRow (Ab.newRow h [[AV.ptr x 0 0 0]] 1) [[AV.int .i64 0, .str [], .int .i64 0, .int .i64 0]] 4)=h2 at *
 have P0:dZ h2 false 1 (.ptr h.sz 0 0 0)=some (.ptr x 0 0 0):=by rw[V1'.load];rfl
 have hz2:h.sz+1<h2.sz:=V2.lt o2
 have fin:∀(h':ah) (kd m:Nat) (t:Str),Ext h2 h'→h'.Ok→(tT (s.drop a)=some (kd,t,m)∨(tT (s.drop a)=none∧m=0))→
  (aN h' 4 (.ptr (h.sz+1) 0 0 0) (.agg [.int .i64 (kd:Int), .str t, .int .i64 0, .int .i64 0]) fun h''=>gq (fG h'' [(.ptr (h.sz+1) 0 0 0,some (true,4)),(.int .i64 (m:Int),none)]) h'' K)=true:=by
  intro h' kd m t e' o' hr
  refine agO (V2.ext e') rfl rfl rfl ?_
  have e3:Ext h (h'.put (h.sz+1) (.row (kW [.int .i64 (kd:Int), .str t, .int .i64 0, .int .i64 0]))):=FU (E2.trans e') ho (by omega) _
  have o3:(h'.put (h.sz+1) (.row (kW [.int .i64 (kd:Int), .str t, .int .i64 0, .int .i64 0]))).Ok:=o'.put (Nat.lt_of_lt_of_le hz2 e'.1) _
  rcases hr with hr |⟨hr,rfl⟩
  ·exact kS _ _ _ _ hr e3 o3
  ·exact kN hr _ _ _ e3 o3
 have part:∀(h':ah) (f m:Nat) (K':au),Ext h2 h'→a+f+m≤s.length→K' (.str ((s.drop (a+f)).take m)) h'=true→mI (av E (n+4)) (.fn (.func 62) [] [.ptr h.sz 0 0 0]) [.int .i64 (f:Int), .int .i64 (m:Int)] h' K'=true:=by
  intro h' f m K' e' hm hk
  exact c62 (Var.ext VX e') (V1'.ext e') (by omega) hm hk
 have hN:=aaw ha
 have hlen:(s.drop a).length=s.length-a:=by simp
 have hlen1:(s.drop (a+1)).length=s.length-(a+1):=by simp
 refine aY (aR P0 ?_)
 refine c60 (k:=0) VX (by omega) (Nat.le_of_lt ha) (aI rfl ?_)
 refine c63 (aI rfl ?_)
 rw[Nat.add_zero]
 by_cases h1:mH (pk s a)=true
 ·rw[if_pos h1] at hN
  refine tZ h1 ?_
  refine aR P0 ?_
  refine c64 (f:=0) VX (by omega) (by omega) (by omega) (Nat.le_of_lt ha) (aI rfl ?_)
  have hw:=FQ (s.drop a)
  refine part h2 0 _ _ (Ext.refl _) (by rw[Nat.add_zero];omega) ?_
  refine aI rfl (J8 (show oZ [AV.int .i64 0, .str [], .int .i64 0, .int .i64 0] [(0,1,AV.int .i64 0),(1,1,AV.str ((s.drop (a+0)).take (nV (s.drop (a+0)))))]=some (.agg [.int .i64 ((0:Nat):Int), .str ((s.drop (a+0)).take (nV (s.drop (a+0)))), .int .i64 0, .int .i64 0]) from rfl) ?_)
  exact fin h2 0 _ _ (Ext.refl _) o2 (.inl hN)
 ·rw[if_neg h1] at hN
  refine uI (by simpa using h1) ?_
  have e36:eH .eql (.int .u8 (pk s a:Int)) (AV.int .u8 36)=some (.bool (decide (pk s a=36))):=Yw 36 _
  refine kg e36 ?_
  by_cases h3:pk s a=36
  ·rw[if_pos h3] at hN
   refine tZ (decide_eq_true h3) ?_
   refine aR P0 ?_
   refine c64 (f:=1) VX (by omega) (by omega) (by omega) (Nat.le_of_lt ha) (aI rfl ?_)
   have hw:=FQ (s.drop (a+1))
   refine Jy ?_
   by_cases h4:0<nV (s.drop (a+1))
   ·rw[if_pos h4] at hN
    refine tZ (decide_eq_true (by omega)) ?_
    refine part h2 1 _ _ (Ext.refl _) (by omega) ?_
    refine aI rfl (J8 (show oZ [AV.int .i64 0, .str [], .int .i64 0, .int .i64 0] [(0,1,AV.int .i64 1),(1,1,AV.str ((s.drop (a+1)).take (nV (s.drop (a+1)))))]=some (.agg [.int .i64 ((1:Nat):Int), .str ((s.drop (a+1)).take (nV (s.drop (a+1)))), .int .i64 0, .int .i64 0]) from rfl) ?_)
    have e1':eH .add (.int .i64 (nV (s.drop (a+1)):Int)) (AV.int .i64 1)=some (.int .i64 ((nV (s.drop (a+1))+1:Nat):Int)):=PO 1 (by omega)
    refine gD e1' ?_
    exact fin h2 1 _ _ (Ext.refl _) o2 (.inl hN)
   ·rw[if_neg h4] at hN
    refine uI (decide_eq_false (by omega)) ?_
    refine pR (show dZ h2 true 4 (.ptr (h.sz+1) 0 0 0)=some (.agg [.int .i64 ((0:Nat):Int), .str [], .int .i64 0, .int .i64 0]) by rw[V2.load];rfl) ?_
    exact fin h2 0 0 [] (Ext.refl _) o2 (.inr ⟨hN,rfl⟩)
  ·rw[if_neg h3] at hN
   refine uI (decide_eq_false h3) ?_
   refine c65 (aI rfl ?_)
   by_cases h5:ig (pk s a)=true
   ·rw[if_pos h5] at hN
    refine tZ h5 ?_
    refine aR P0 ?_
    have hw:=AO (p:=ig) (s.drop a)
    refine c66 (f:=0) (p:=ig) VX (by omega) (by omega) (Nat.le_of_lt ha) (fun b K' hk=>c65 hk) (aI rfl ?_)
    refine part h2 0 _ _ (Ext.refl _) (by rw[Nat.add_zero];omega) ?_
    refine aI rfl (J8 (show oZ [AV.int .i64 0, .str [], .int .i64 0, .int .i64 0] [(0,1,AV.int .i64 2),(1,1,AV.str ((s.drop (a+0)).take ((s.drop (a+0)).takeWhile ig).length))]=some (.agg [.int .i64 ((2:Nat):Int), .str ((s.drop (a+0)).take ((s.drop (a+0)).takeWhile ig).length), .int .i64 0, .int .i64 0]) from rfl) ?_)
    exact fin h2 2 _ _ (Ext.refl _) o2 (.inl hN)
   ·rw[if_neg h5] at hN
    refine uI (by simpa using h5) ?_
    have e34:eH .eql (.int .u8 (pk s a:Int)) (AV.int .u8 34)=some (.bool (decide (pk s a=34))):=Yw 34 _
    refine kg e34 ?_
    by_cases h6:pk s a=34
    ·rw[if_pos h6] at hN
     refine tZ (decide_eq_true h6) ?_
     refine aR P0 ?_
     refine c67 VX o2 hL hb (Nat.le_of_lt ha) hn fun h' e' o'=> ?_
     cases hq:quo (s.drop (a+1)) with
     |none=>
      rw[hq] at hN
      refine aI rfl ?_
      unfold xZ
      show ko 0 (.tup [.str [], .int .i64 0]) _=true
      refine jl (jh (J8 (show oZ [AV.int .i64 0, .str [], .int .i64 0, .int .i64 0] [(0,1,AV.int .i64 3),(1,1,AV.str [])]=some (.agg [.int .i64 ((3:Nat):Int), .str [], .int .i64 0, .int .i64 0]) from rfl) ?_))
      exact fin h' 3 0 [] e' o' (.inr ⟨hN,rfl⟩)
     |some r=>
      rw[hq] at hN
      refine aI rfl ?_
      unfold xZ
      show ko 0 (.tup [.str r.1, .int .i64 ((1+r.2:Nat):Int)]) _=true
      refine jl (jh (J8 (show oZ [AV.int .i64 0, .str [], .int .i64 0, .int .i64 0] [(0,1,AV.int .i64 3),(1,1,AV.str r.1)]=some (.agg [.int .i64 ((3:Nat):Int), .str r.1, .int .i64 0, .int .i64 0]) from rfl) ?_))
      have f:=fin h' 3 (r.2+1) r.1 e' o' (.inl (by rw[hN];rfl))
      rw[Nat.add_comm r.2 1] at f
      exact f
    ·rw[if_neg h6] at hN
     refine uI (decide_eq_false h6) ?_
     refine aR P0 ?_
     refine c68 VX o2 hb ha hn6 fun h' e' o'=>aI rfl ?_
     have hw:=TB (s.drop a)
     refine part h' 0 _ _ e' (by rw[Nat.add_zero];omega) ?_
     refine aI rfl (J8 (show oZ [AV.int .i64 0, .str [], .int .i64 0, .int .i64 0] [(0,1,AV.int .i64 4),(1,1,AV.str ((s.drop (a+0)).take (nu (s.drop a))))]=some (.agg [.int .i64 ((4:Nat):Int), .str ((s.drop (a+0)).take (nu (s.drop a))), .int .i64 0, .int .i64 0]) from rfl) ?_)
     by_cases h7:0<nu (s.drop a)
     ·rw[if_pos h7] at hN
      exact fin h' 4 _ _ e' o' (.inl hN)
     ·rw[if_neg h7] at hN
      exact fin h' 4 _ _ e' o' (.inr ⟨hN,by omega⟩)
def Pd:Nat→Str→Nat→Nat→Except Nat (List Lx)
 |0,_,_,_=> .ok []
 |f+1,s,a,k=>
  if s.length≤a+skip false (s.drop a) then .ok [] else match tT (s.drop (a+skip false (s.drop a))) with
   |none=> .error (a+skip false (s.drop a))
   |some (kd,t,m)=>if 4096≤k then .error (a+skip false (s.drop a)) else match Pd f s (a+skip false (s.drop a)+m) (k+1) with
    | .error e=> .error e
    | .ok l=> .ok (⟨kd,t,a+skip false (s.drop a),a+skip false (s.drop a)+m⟩ :: l)
def wo (s:Str):Except Nat (List Lx):=Pd (s.length+1) s 0 0
theorem YT {h:ah} {c:List AV} {n off:Nat} {v:AV} (hc:c.length=n) (hv:v.leaf=true) (ho:off<n):bW (Ab.newRow h [c] n) 1 (.ptr h.sz 0 0 off) v=some (Ab.newRow h [c.set off v] n):=by
 subst hc
 rw[(nC h c).set1 ho hv]
 simp only[Ab.newRow,P8,kW,List.length_set]
def mJ:dx:=(.reg [{dst:=some 7,op:=fE.alloc [AV.int (IntKind.i64) 0,AV.str [],AV.int (IntKind.i64) 0,AV.int (IntKind.i64) 0],grd:=none},{dst:=none,op:=fE.store 4 (bS.t 7) (bS.t 13),grd:=none}])
def jr:dx:=(.block 1 (.seq (.seq (.reg [{dst:=some 14,op:=fE.load false 1 (bS.t 6),grd:=none},{dst:=some 15,op:=fE.len 1 (bS.t 14),grd:=none},{dst:=some 16,op:=fE.bin (BinOp.geq) (bS.t 15) (bS.c (AV.int (IntKind.i64) 4096)),grd:=none}]) (.cond (.t 16) (.seq (.dreg [{dst:=some 17,op:=fE.fadr 2 (bS.t 7),grd:=none},{dst:=some 18,op:=fE.load false 1 (bS.t 17),grd:=none}] [({dst:=none,op:=fE.store 1 (bS.t 2) (bS.c (AV.nilSlc)),grd:=none},[{dst:=some 18,op:=fE.load false 1 (bS.t 17),grd:=none}],[]),({dst:=none,op:=fE.store 1 (bS.t 3) (bS.t 18),grd:=none},[],[]),({dst:=none,op:=fE.store 1 (bS.t 4) (bS.c (AV.int (IntKind.i64) 20)),grd:=none},[],[])]) (.ret)) (.skip))) (.reg [{dst:=some 19,op:=fE.load false 1 (bS.t 6),grd:=none},{dst:=some 20,op:=fE.load true 4 (bS.t 7),grd:=none},{dst:=some 21,op:=fE.bslice 1 4 [AV.int (IntKind.i64) 0,AV.str [],AV.int (IntKind.i64) 0,AV.int (IntKind.i64) 0] [(0,bS.t 20)],grd:=none},{dst:=some 22,op:=fE.app 4 40 (bS.t 19) (bS.t 21),grd:=none},{dst:=none,op:=fE.store 1 (bS.t 6) (bS.t 22),grd:=none}])))
noncomputable def gQ (b:Nat) (s:Str):dw:=put (put (put (put (put (put (put (put (put (put (oK 0 [.str s] .lf) (some 2) (.ptr b 0 0 0)) (some 3) (.ptr (b+1) 0 0 0)) (some 4) (.ptr (b+2) 0 0 0)) (some 8) (.str s)) (some 9) (.agg [.str s, .int .i64 0, .bool false])) (some 10) (.ptr (b+3) 0 0 0)) (some 5) (.ptr (b+3) 0 0 0)) (some 6) (.ptr (b+4) 0 0 0)) (some 11) (.ptr (b+3) 0 0 0)) (some 12) (.fn (.func 43) [] [.ptr (b+5) 0 0 0])
section
variable {call:aj} {n:Nat} {σ:Go.Ab.St} {ρ ρ0 ρ':dw} {h h':ah} {KE:nG} {v:AV} {a b:dx} {l n0 chk ns:List aU} {es:List Nat} {rest:List (aU×List aU×List aU)}
theorem q_reg (s:mR call l σ KE=true):dA call n (.reg l) σ KE=true:=by simp only[dA];exact s
theorem HV (s:dA call n a σ (fun x σ'=>match x with | .normal=>dA call n b σ' KE |x=>KE x σ')=true):dA call n (.seq a b) σ KE=true:=by simp only[dA];exact s
theorem Vk {c:bS} (e:ev σ.regs c=some (.bool true)) (s:dA call n a σ KE=true):dA call n (.cond c a b) σ KE=true:=by simp only[dA,e];exact s
theorem Tx {c:bS} (e:ev σ.regs c=some (.bool false)) (s:dA call n b σ KE=true):dA call n (.cond c a b) σ KE=true:=by simp only[dA,e];exact s
theorem q_skip (s:KE .normal σ=true):dA call n .skip σ KE=true:=by simp only[dA];exact s
theorem acd (s:KE .ret σ=true):dA call n .ret σ KE=true:=by simp only[dA];exact s
theorem UZ {id:Nat} (s:dA call n a σ (fun x σ'=>match x with | .exit i=>bif Nat.beq i id then KE .normal σ' else KE (.exit i) σ' |x=>KE x σ')=true):dA call n (.block id a) σ KE=true:=by simp only[dA];exact s
theorem Y8 (e:nX n0 σ.regs σ.h=some ρ') (s:Go.Ab.nI call (zS rest (xH n0 σ.regs)) [] rest ⟨ρ',σ.h⟩ KE=true):dA call n (.dreg n0 rest) σ KE=true:=by simp only[dA,e];exact s
theorem acy (s:KE .normal σ=true):Go.Ab.nI call ρ0 es [] σ KE=true:=by simp only[Go.Ab.nI];exact s
theorem Xh {dst:Option Nat} {op:fE} (hn:dF op=false) (he:iB ⟨dst,op,none⟩=false) (e:aO ρ h op=some (v,h')) (ch:again (put ρ dst v) h' chk=true) (cs:nX ns (put ρ dst v) h'=some ρ')
 (s:Go.Ab.nI call ρ0 es rest ⟨ρ',h'⟩ KE=true):Go.Ab.nI call ρ0 es ((⟨dst,op,none⟩,chk,ns) :: rest) ⟨ρ,h⟩ KE=true:=by
 have ek:∀K,gy call ρ h op K=K v h':=by
  intro K
  cases op<;>first |(cases hn;done)|(simp only[gy,e])
 simp only[Go.Ab.nI,jy,eT,hn,oH,yP,ek,cond_false,ch,cond_true,cs,he]
 exact s
end
noncomputable def Yb (id:Nat) (K:au):nG:=fun x σ2=>
 match σ2.h.get id with
 |some (.loop l2)=>match x with
  | .normal=>K (.bool true) (σ2.h.put id (.loop {l2 with st:= .ready}))
  | .panic _=>false
  |x=>K (.bool false) (σ2.h.put id (.loop {l2 with st:= .done x}))
 |_=>false
theorem N7 {h:ah} {id:Nat} {ρ regs:dw} {ps:List Nat} {asg body:dx} {K:au} (hg:h.get id=some (Lp regs ps asg body .busy)) (s:K (.bool true) (h.put id (Lp regs ps asg body .ready))=true):Yb id K .normal ⟨ρ,h⟩=true:=by
 unfold Yb;unfold Lp at hg;simp only[hg];exact s
theorem Yv {h:ah} {id:Nat} {ρ regs:dw} {ps:List Nat} {asg body:dx} {K:au} (hg:h.get id=some (Lp regs ps asg body .busy)) (s:K (.bool false) (h.put id (Lp regs ps asg body (.done .ret)))=true):Yb id K .ret ⟨ρ,h⟩=true:=by
 unfold Yb;unfold Lp at hg;simp only[hg];exact s
theorem ai8 {n id:Nat} {h:ah} {regs ρ:dw} {ps:List Nat} {ops:List aU} {body:dx} {args:List AV} {K:au} (hg:h.get id=some (Lp regs ps (.reg ops) body .ready)) (hs:Cg ps args regs=some ρ)
 (s:mR (av E n) ops ⟨ρ,h⟩ (fun x σ=>match x with
   | .normal=>(match σ.h.get id with
     |some (.loop l1)=>match l1.st with
      | .ready=>dA (av E n) n body ⟨σ.regs,σ.h.put id (.loop {l1 with st:= .busy})⟩ (Yb id K)
      |_=>false
     |_=>false)
   |_=>false)=true):av E (n+1) (.yield id) args h K=true:=by
 simp only[av,hg,Lp,hs,dA]
 exact s
theorem XM {ρ:dw} {h h':ah} {d:Nat} {op:fE} {v:AV} (e:aO ρ h op=some (v,h')) (g:ρ.get d=some v) (sm:AV.same v v=true):again ρ h [⟨some d,op,none⟩]=true:=by
 simp only[again,lT,eT,e,g,sm,cond_true]
structure Fz (h0:ah) (s:Str) (regs:dw) (h:ah) (a:Nat) (bad:Bool) (acc:List Lx):Prop where
 ext:Ext h0 h
 ok:h.Ok
 sz:h0.sz+7≤h.sz
 r1:Var h h0.sz [.nilSlc]
 r2:Var h (h0.sz+1) [.int .i64 0]
 r3:Var h (h0.sz+2) [.int .i64 0]
 lx:LX h (h0.sz+3) s a bad
 l:∃v,Var h (h0.sz+4) [v]∧Own (h0.sz+7) h 4 v (acc.map jP)
 p:Var h (h0.sz+5) [.ptr (h0.sz+3) 0 0 0]
 y:h.get (h0.sz+6)=some (Lp regs [13] mJ jr .ready)
theorem Fz.grow {h0 h h':ah} {s:Str} {regs:dw} {a:Nat} {bad:Bool} {acc:List Lx} (I:Fz h0 s regs h a bad acc) (e:Ext h h') (o:h'.Ok):Fz h0 s regs h' a bad acc:=
 ⟨I.ext.trans e,o,Nat.le_trans I.sz e.1,I.r1.ext e,I.r2.ext e,I.r3.ext e,Var.ext I.lx e,let⟨v,p,q⟩:=I.l;⟨v,p.ext e,q.ext e⟩,I.p.ext e,e.2 _ _ I.y⟩
theorem Fz.but {h0 h h':ah} {s:Str} {regs:dw} {a a':Nat} {bad bad':Bool} {acc:List Lx} (I:Fz h0 s regs h a bad acc) (k0:h0.Ok) (e:But (h0.sz+3) h h') (o:h'.Ok) (V:LX h' (h0.sz+3) s a' bad'):Fz h0 s regs h' a' bad' acc:=
 ⟨e.ext I.ext k0 (by omega),o,Nat.le_trans I.sz e.sz,e.var I.r1 (by omega),e.var I.r2 (by omega),e.var I.r3 (by omega),V,let⟨v,p,q⟩:=I.l;⟨v,e.var p (by omega),e.own q (by omega)⟩,e.var I.p (by omega),e.keep _ _ (by omega) I.y⟩
structure ab8 (h0:ah) (regs:dw) (h:ah) (e:Nat):Prop where
 ext:Ext h0 h
 ok:h.Ok
 sz:h0.sz+7≤h.sz
 r1:Var h h0.sz [.nilSlc]
 r2:Var h (h0.sz+1) [.int .i64 (e:Int)]
 r3:Var h (h0.sz+2) [.int .i64 20]
 y:h.get (h0.sz+6)=some (Lp regs [13] mJ jr (.done .ret))
theorem y13 {n:Nat} {h h0:ah} {s:Str} {a:Nat} {acc:List Lx} {x:Lx} {K:au} (k0:h0.Ok) (I:Fz h0 s (gQ h0.sz s) h a false acc) (hacc:acc.length≤4096)
 (k1:acc.length<4096→∀h',Fz h0 s (gQ h0.sz s) h' a false (acc++[x])→K (.bool true) h'=true)
 (k2:4096≤acc.length→∀h',ab8 h0 (gQ h0.sz s) h' x.beg→K (.bool false) h'=true):av E (n+1) (.yield (h0.sz+6)) [.agg (jP x)] h K=true:=by
 refine ai8 I.y rfl ?_
 have A:oh h [AV.int .i64 0, .str [], .int .i64 0, .int .i64 0]=some (.ptr h.sz 0 0 0,Ab.newRow h [[AV.int .i64 0, .str [], .int .i64 0, .int .i64 0]] 4):=alloc_eq (by decide) rfl
 refine gU rfl A ?_
 have S:=Eu (h:=h) (z:=[AV.int .i64 0, .str [], .int .i64 0, .int .i64 0]) (n:=4) (v:= .agg (jP x)) rfl rfl rfl
 refine gU (v:= .tup []) (h':=Ab.newRow h [jP x] 4) rfl (by show unit (bW (Ab.newRow h [[AV.int .i64 0, .str [], .int .i64 0, .int .i64 0]] 4) 4 (.ptr h.sz 0 0 0) (.agg (jP x)))=_;rw[S];rfl) (oq ?_)
 have e1:=gY I.ok [jP x] 4
 have I1:=I.grow e1 (iN I.ok [jP x] 4)
 have V1:=nC h (jP x)
 simp only[show(jP x).length=4 from rfl] at V1
 have hh:=I.sz
 generalize Ab.newRow h [jP x] 4=h1 at *
 have y1:=I1.y
 unfold Lp at y1
 simp only[y1]
 show dA _ n jr ⟨_,h1.put (h0.sz+6) (Lp (gQ h0.sz s) [13] mJ jr .busy)⟩ _=true
 obtain⟨v,L,O⟩:=I1.l
 have hx:But (h0.sz+6) h1 (h1.put (h0.sz+6) (Lp (gQ h0.sz s) [13] mJ jr .busy)):=But.put _ _ _
 have hg:(h1.put (h0.sz+6) (Lp (gQ h0.sz s) [13] mJ jr .busy)).get (h0.sz+6)=some (Lp (gQ h0.sz s) [13] mJ jr .busy):=ow _ _ _
 have o2:(h1.put (h0.sz+6) (Lp (gQ h0.sz s) [13] mJ jr .busy)).Ok:=I1.ok.put (by have:=I1.sz;omega) _
 have hz2:(h1.put (h0.sz+6) (Lp (gQ h0.sz s) [13] mJ jr .busy)).sz=h1.sz:=by simp
 generalize h1.put (h0.sz+6) (Lp (gQ h0.sz s) [13] mJ jr .busy)=h2 at *
 have L2:=hx.var L (by omega)
 have O2:=hx.own O (by omega)
 have V2:=hx.var V1 (by omega)
 have r1:=hx.var I1.r1 (by omega)
 have r2:=hx.var I1.r2 (by omega)
 have r3:=hx.var I1.r3 (by omega)
 have X2:=hx.ext I1.ext k0 (by omega)
 have LL:dZ h2 false 1 (.ptr (h0.sz+4) 0 0 0)=some v:=by rw[L2.load];rfl
 have LV:dZ h2 false 1 (.ptr h.sz 0 0 2)=some (.int .i64 (x.beg:Int)):=by rw[V2.load];rfl
 have sz1:=I1.sz
 refine UZ (HV (HV (q_reg ?_)))
 refine gU (v:=v) (h':=h2) rfl (by show bP (dZ h2 false 1 (.ptr (h0.sz+4) 0 0 0)) h2=_;rw[LL];rfl) ?_
 refine gU (v:= .int .i64 ((acc.map jP).length:Int)) (h':=h2) rfl (by show bP (Ae h2 1 v) h2=_;rw[O2.view.len];rfl) ?_
 refine gU (v:= .bool (decide ((4096:Int)≤((acc.map jP).length:Int)))) (h':=h2) rfl (by show bP (eH .geq (.int .i64 ((acc.map jP).length:Int)) (.int .i64 4096)) h2=_;rw[OL];rfl) (oq ?_)
 by_cases hfull:4096≤acc.length
 ·refine Vk (by show some (AV.bool (decide _))=_;rw[decide_eq_true (by rw[List.length_map];omega)]) ?_
  refine HV (Y8 (jH (v:= .ptr h.sz 0 0 2) (h':=h2) rfl (jH (v:= .int .i64 (x.beg:Int)) (h':=h2) (by show bP (dZ h2 false 1 (.ptr h.sz 0 0 2)) h2=_;rw[LV];rfl) rfl)) ?_)
  have st1:=r1.set1 (off:=0) (v:= .nilSlc) (by decide) rfl
  have b1:=But.put h0.sz h2 (.row (kW ([AV.nilSlc].set 0 .nilSlc)))
  have V3:=b1.var V2 (by omega)
  have LV3:dZ (h2.put h0.sz (.row (kW ([AV.nilSlc].set 0 .nilSlc)))) false 1 (.ptr h.sz 0 0 2)=some (.int .i64 (x.beg:Int)):=by rw[V3.load];rfl
  refine Xh (v:= .tup []) (h':=h2.put h0.sz (.row (kW ([AV.nilSlc].set 0 .nilSlc)))) rfl rfl (by show unit (bW h2 1 (.ptr h0.sz 0 0 0) .nilSlc)=_;rw[st1];rfl)
   (XM (v:= .int .i64 (x.beg:Int)) (h':=h2.put h0.sz (.row (kW ([AV.nilSlc].set 0 .nilSlc)))) (by show bP (dZ _ false 1 (.ptr h.sz 0 0 2)) _=_;rw[LV3];rfl) rfl (GZ _ _)) rfl ?_
  have r2':=b1.var r2 (by omega)
  have st2:=r2'.set1 (off:=0) (v:= .int .i64 (x.beg:Int)) (by decide) rfl
  refine Xh (v:= .tup []) rfl rfl (by show unit (bW _ 1 (.ptr (h0.sz+1) 0 0 0) (.int .i64 (x.beg:Int)))=_;rw[st2];rfl) rfl rfl ?_
  have b2:=But.put (h0.sz+1) (h2.put h0.sz (.row (kW ([AV.nilSlc].set 0 .nilSlc)))) (.row (kW ([AV.int .i64 0].set 0 (.int .i64 (x.beg:Int)))))
  have r3':=b2.var (b1.var r3 (by omega)) (by omega)
  have st3:=r3'.set1 (off:=0) (v:= .int .i64 20) (by decide) rfl
  refine Xh (v:= .tup []) rfl rfl (by show unit (bW _ 1 (.ptr (h0.sz+2) 0 0 0) (.int .i64 20))=_;rw[st3];rfl) rfl rfl (acy ?_)
  have b3:=But.put (h0.sz+2) ((h2.put h0.sz (.row (kW ([AV.nilSlc].set 0 .nilSlc)))).put (h0.sz+1) (.row (kW ([AV.int .i64 0].set 0 (.int .i64 (x.beg:Int)))))) (.row (kW ([AV.int .i64 0].set 0 (.int .i64 20))))
  have g3:=b3.keep _ _ (by omega) (b2.keep _ _ (by omega) (b1.keep _ _ (by omega) hg))
  refine acd (Yv g3 ?_)
  have b4:=But.put (h0.sz+6) (((h2.put h0.sz (.row (kW ([AV.nilSlc].set 0 .nilSlc)))).put (h0.sz+1) (.row (kW ([AV.int .i64 0].set 0 (.int .i64 (x.beg:Int)))))).put (h0.sz+2) (.row (kW ([AV.int .i64 0].set 0 (.int .i64 20))))) (Lp (gQ h0.sz s) [13] mJ jr (.done .ret))
  refine k2 hfull _ ⟨b4.ext (b3.ext (b2.ext (b1.ext X2 k0 (by omega)) k0 (by omega)) k0 (by omega)) k0 (by omega), ?_, ?_, ?_, ?_, ?_,ow _ _ _⟩
  ·exact(((o2.put (by omega) _).put (by simp;omega) _).put (by simp;omega) _).put (by simp;omega) _
  ·simp;omega
  ·exact b4.var (b3.var (b2.var (vv h0.sz [AV.nilSlc]) (by omega)) (by omega)) (by omega)
  ·exact b4.var (b3.var (vv (h0.sz+1) [AV.int .i64 (x.beg:Int)]) (by omega)) (by omega)
  ·exact b4.var (vv (h0.sz+2) [AV.int .i64 20]) (by omega)
 ·refine Tx (by show some (AV.bool (decide _))=_;rw[decide_eq_false (by rw[List.length_map];omega)]) (q_skip ?_)
  refine q_reg (gU (v:=v) (h':=h2) rfl (by show bP (dZ h2 false 1 (.ptr (h0.sz+4) 0 0 0)) h2=_;rw[LL];rfl) ?_)
  have LA:dZ h2 true 4 (.ptr h.sz 0 0 0)=some (.agg (jP x)):=by rw[V2.load];rfl
  refine gU (v:= .agg (jP x)) (h':=h2) rfl (by show bP (dZ h2 true 4 (.ptr h.sz 0 0 0)) h2=_;rw[LA];rfl) ?_
  obtain⟨u,g1,W⟩:=xE (h:=h2) (n:=1) (sz:=4) (z:=[AV.int .i64 0, .str [], .int .i64 0, .int .i64 0]) (ps:=[(0, .agg (jP x))]) (es:=[jP x]) rfl (by decide) (by decide) rfl rfl rfl
  refine gU rfl g1 ?_
  have e3:=gY o2 [jP x] 4
  have o3:=iN o2 [jP x] 4
  generalize Ab.newRow h2 [jP x] 4=h3 at *
  have hm:most=1099511627776:=rfl
  obtain⟨v',h4,a1,a2,a3,a4,a5,a6,_⟩:=(O2.ext e3).app (bytes:=40) (by decide) (by have:=e3.1;omega) o3 k0 (X2.trans e3) (by omega) W.src (by simp only[List.length_map,List.length_cons,List.length_nil];omega) (by simp only[List.length_map,List.length_cons,List.length_nil];omega)
  refine gU rfl a1 ?_
  have kp:∀j o,j<h0.sz+7→h2.get j=some o→h4.get j=some o:=fun j o hj hg=>a6 j o (e3.2 _ _ hg) (by
   intro id g st l c ex hv
   rcases O2 with⟨rfl,_⟩|⟨i',r,q1,q2,_⟩
   ·cases hv
   ·rw[q2] at hv;cases hv;omega)
  have kv:∀(j:Nat) (c:List AV),j<h0.sz+7→Var h2 j c→Var h4 j c:=fun j c hj V=>by
   have V':h2.row j=some (kW c):=V
   show h4.row j=_
   rw[ah.row_some] at V' ⊢
   exact kp j _ hj V'
  have L4:=kv _ _ (by omega) L2
  have st4:=L4.set1 (off:=0) (v:=v') (by show 0<1;omega) a2.view.leaf
  refine gU (v:= .tup []) rfl (by show unit (bW h4 1 (.ptr (h0.sz+4) 0 0 0) v')=_;rw[st4];rfl) (oq ?_)
  have b5:=But.put (h0.sz+4) h4 (.row (kW ([v].set 0 v')))
  have g5:=b5.keep _ _ (by omega) (kp _ _ (by omega) hg)
  refine N7 g5 ?_
  have b6:=But.put (h0.sz+6) (h4.put (h0.sz+4) (.row (kW ([v].set 0 v')))) (Lp (gQ h0.sz s) [13] mJ jr .ready)
  have s4:h0.sz+7≤h4.sz:=by have:=e3.1;omega
  refine k1 (by omega) _ ⟨b6.ext (b5.ext a4 k0 (by omega)) k0 (by omega),(a3.put (by omega) _).put (by simp;omega) _,by simp;omega, ?_, ?_, ?_, ?_,⟨v',b6.var (vv (h0.sz+4) [v']) (by omega), ?_⟩, ?_,ow _ _ _⟩
  ·exact b6.var (b5.var (kv _ _ (by omega) r1) (by omega)) (by omega)
  ·exact b6.var (b5.var (kv _ _ (by omega) r2) (by omega)) (by omega)
  ·exact b6.var (b5.var (kv _ _ (by omega) r3) (by omega)) (by omega)
  ·exact b6.var (b5.var (kv _ _ (by omega) (hx.var I1.lx (by omega))) (by omega)) (by omega)
  ·rw[List.map_append];exact b6.own (b5.own a2 (by omega)) (by omega)
  ·exact b6.var (b5.var (kv _ _ (by omega) (hx.var I1.p (by omega))) (by omega)) (by omega)
theorem aa9 (call:aj) (f:VI) (vs:List AV) (h:ah) (K:au):mI call (.fn f [] []) vs h K=call f vs h K:=by
 rw[Y3,List.nil_append,List.append_nil]
theorem Wy {h:ah} {id:Nat} {w v:AV} (V:Var h id [w]) (hv:v.leaf=true) (o:h.Ok):∃h',bW h 1 (.ptr id 0 0 0) v=some h'∧But id h h'∧Var h' id [v]∧h'.Ok:=
 ⟨_,V.set1 (by show 0<1;omega) hv,But.put _ _ _,vv id [v],o.put (V.lt o) _⟩
theorem l43 {n:Nat} {h0:ah} {s:Str} {K:au} (k0:h0.Ok) (hL:2*s.length+4<most) (hb:∀b∈s,b<256) (hn:s.length<n) (hn6:6≤n):
 ∀(m a f:Nat) (acc:List Lx) (h:ah),Fz h0 s (gQ h0.sz s) h a false acc→a≤s.length→s.length-a<m→s.length-a<f→acc.length≤4096→
  (∀l h' a',Pd f s a acc.length= .ok l→Fz h0 s (gQ h0.sz s) h' a' false (acc++l)→K (.tup []) h'=true)→
  (∀e l h',Pd f s a acc.length= .error e→Fz h0 s (gQ h0.sz s) h' e true l→K (.tup []) h'=true)→
  (∀e h',Pd f s a acc.length= .error e→ab8 h0 (gQ h0.sz s) h' e→K (.tup []) h'=true)→
  Vd (av E (n+6)) (n+6) m (.fn (.yield (h0.sz+6)) [] []) (.ptr (h0.sz+5) 0 0 0) h K=true:=by
 have hlim:most<lim:=by decide
 intro m
 induction m with
 |zero=>intro a f acc h _ _ hm;omega
 |succ m ih=>
  intro a f acc h I ha hm hf hacc k1 k2 k3
  obtain⟨f,rfl⟩:∃j,f=j+1:=⟨f-1,by omega⟩
  simp only[Pd] at k1 k2 k3
  unfold Vd Yu
  have P0:dZ h false 1 (.ptr (h0.sz+5) 0 0 0)=some (.ptr (h0.sz+3) 0 0 0):=by rw[I.p.load];rfl
  refine aR P0 ?_
  refine c44 I.lx I.ok (by omega) ha (by omega) fun h1 B1 o1 V1=>aI rfl ?_
  have I1:=I.but k0 B1 o1 V1
  have hsk:a+skip false (s.drop a)≤s.length:=by
   have:=yF false (s.drop a)
   simp only[List.length_drop] at this
   omega
  have hab:a≤a+skip false (s.drop a):=Nat.le_add_right _ _
  generalize a+skip false (s.drop a)=b at *
  have P1:dZ h1 false 1 (.ptr (h0.sz+5) 0 0 0)=some (.ptr (h0.sz+3) 0 0 0):=by rw[I1.p.load];rfl
  refine aR P1 (dW (aB (aR V1.l1 (aR P1 (dW (aB (aR V1.l0 (oF (O8 ?_)))))))))
  by_cases hend:s.length≤b
  ·refine tZ (decide_eq_true (by omega)) ?_
   rw[if_pos hend] at k1
   exact k1 [] h1 b rfl (by rw[List.append_nil];exact I1)
  ·refine uI (decide_eq_false (by omega)) ?_
   refine aR P1 ?_
   rw[if_neg hend] at k1 k2 k3
   have hbl:b<s.length:=by omega
   refine c45 (n:=n+1) V1 o1 hL hb hbl (by omega) (by omega) ?_ ?_
   ·intro kd t mm h2 hN e2 o2
    obtain⟨hm0,hml⟩:=LD hN
    simp only[List.length_drop] at hml
    simp only[hN] at k1 k2 k3
    have I2:=I1.grow e2 o2
    refine aI rfl ?_
    unfold yu
    have A:oh h2 [AV.int .i64 0, .str [], .int .i64 0, .int .i64 0]=some (.ptr h2.sz 0 0 0,Ab.newRow h2 [[AV.int .i64 0, .str [], .int .i64 0, .int .i64 0]] 4):=alloc_eq (by decide) rfl
    refine jl (jh (Sc rfl rfl rfl A (ZI rfl (Eu (h:=h2) (z:=[AV.int .i64 0, .str [], .int .i64 0, .int .i64 0]) (n:=4) (v:= .agg [.int .i64 (kd:Int), .str t, .int .i64 0, .int .i64 0]) rfl rfl rfl) ?_)))
    have e0:eH .eql (.int .i64 (mm:Int)) (AV.int .i64 0)=some (.bool false):=by
     rw[OZ,decide_eq_false (by omega)]
    refine kg e0 (bC ?_)
    have hc0:(AV.agg [AV.int .i64 (kd:Int), .str t, .int .i64 0, .int .i64 0]).cells=[AV.int .i64 (kd:Int), .str t, .int .i64 0, .int .i64 0]:=rfl
    rw[hc0]
    have nb:∀c,Ext h2 (Ab.newRow h2 [c] 4)∧(Ab.newRow h2 [c] 4).Ok:=fun c=>⟨gY o2 _ _,iN o2 _ _⟩
    have pp:∀c,dZ (Ab.newRow h2 [c] 4) false 1 (.ptr (h0.sz+5) 0 0 0)=some (.ptr (h0.sz+3) 0 0 0):=fun c=>by rw[(I2.p.ext (nb c).1).load];rfl
    have l1:∀c,dZ (Ab.newRow h2 [c] 4) false 1 (.ptr (h0.sz+3) 0 0 1)=some (.int .i64 (b:Int)):=fun c=>LX.l1 (Var.ext I2.lx (nb c).1)
    have ad:=dz (show b+mm<lim by omega)
    refine aR (pp _) (dW (aB (aR (l1 _) (aR (pp _) (dW (aB (aR (l1 _) (gD ad (aB (Ew (YT (n:=4) rfl rfl (by decide)) ?_))))))))))
    refine aR (pp _) (dU (YN _ _ _ _) (aR (l1 _) (dU (GZ _ _) (aB (Ew (YT (n:=4) rfl rfl (by decide)) ?_)))))
    refine aR (pp _) (dW (aB (aR (l1 _) (gD ad (dW (aB ?_))))))
    have hcs:([AV.int .i64 (kd:Int), .str t, .int .i64 0, .int .i64 0].set 2 (.int .i64 (b:Int))).set 3 (.int .i64 ((b+mm:Nat):Int))=jP ⟨kd,t,b,b+mm⟩:=rfl
    rw[hcs]
    have V3:Var (Ab.newRow h2 [jP ⟨kd,t,b,b+mm⟩] 4) h2.sz (jP ⟨kd,t,b,b+mm⟩):=nC h2 _
    have I3:=I2.grow (nb (jP ⟨kd,t,b,b+mm⟩)).1 (nb _).2
    have sz3:(Ab.newRow h2 [jP ⟨kd,t,b,b+mm⟩] 4).sz=h2.sz+1:=rfl
    have sz2:=I2.sz
    generalize Ab.newRow h2 [jP ⟨kd,t,b,b+mm⟩] 4=h3 at *
    refine Ew (LX.set I3.lx (b+mm)) ?_
    have B4:=But.put (h0.sz+3) h3 (.row (kW [.str s, .int .i64 ((b+mm:Nat):Int), .bool false]))
    have V4:=B4.var V3 (by omega)
    have I4:=I3.but k0 B4 (I3.ok.put (by omega) _) (R6 h3 (h0.sz+3) s (b+mm) false)
    generalize h3.put (h0.sz+3) (.row (kW [.str s, .int .i64 ((b+mm:Nat):Int), .bool false]))=h4 at *
    have LA:dZ h4 true 4 (.ptr h2.sz 0 0 0)=some (.agg (jP ⟨kd,t,b,b+mm⟩)):=by rw[V4.load];rfl
    refine pR LA ?_
    rw[aa9]
    refine y13 (n:=n+5) (x:=⟨kd,t,b,b+mm⟩) k0 I4 hacc ?_ ?_
    ·intro hlt h5 I5
     rw[if_neg (by omega)] at k1 k2 k3
     refine aI rfl ?_
     unfold yM
     refine bY (bC ?_)
     refine ih (b+mm) f (acc++[⟨kd,t,b,b+mm⟩]) h5 I5 (by omega) (by omega) (by omega) (by simp;omega) ?_ ?_ ?_
     ·intro l h' a' hl I'
      simp only[List.length_append,List.length_cons,List.length_nil,Nat.zero_add] at hl
      rw[hl] at k1
      exact k1 _ h' a' rfl (by rw[List.append_assoc] at I';exact I')
     ·intro e l h' hl I'
      simp only[List.length_append,List.length_cons,List.length_nil,Nat.zero_add] at hl
      rw[hl] at k2
      exact k2 e l h' rfl I'
     ·intro e h' hl I'
      simp only[List.length_append,List.length_cons,List.length_nil,Nat.zero_add] at hl
      rw[hl] at k3
      exact k3 e h' rfl I'
    ·intro hge h5 S5
     rw[if_pos hge] at k3
     refine aI rfl ?_
     unfold yM
     refine dn (bN ?_)
     exact k3 b h5 rfl S5
   ·intro hN kd t h2 e2 o2
    simp only[hN] at k2
    have I2:=I1.grow e2 o2
    refine aI rfl ?_
    unfold yu
    have A:oh h2 [AV.int .i64 0, .str [], .int .i64 0, .int .i64 0]=some (.ptr h2.sz 0 0 0,Ab.newRow h2 [[AV.int .i64 0, .str [], .int .i64 0, .int .i64 0]] 4):=alloc_eq (by decide) rfl
    refine jl (jh (Sc rfl rfl rfl A (ZI rfl (Eu (h:=h2) (z:=[AV.int .i64 0, .str [], .int .i64 0, .int .i64 0]) (n:=4) (v:= .agg [.int .i64 (kd:Int), .str t, .int .i64 0, .int .i64 0]) rfl rfl rfl) ?_)))
    refine kg (v:= .bool true) rfl (bN ?_)
    have I3:=I2.grow (gY o2 [(AV.agg [AV.int .i64 (kd:Int), .str t, .int .i64 0, .int .i64 0]).cells] 4) (iN o2 _ _)
    generalize Ab.newRow h2 [(AV.agg [AV.int .i64 (kd:Int), .str t, .int .i64 0, .int .i64 0]).cells] 4=h3 at *
    have P3:dZ h3 false 1 (.ptr (h0.sz+5) 0 0 0)=some (.ptr (h0.sz+3) 0 0 0):=by rw[I3.p.load];rfl
    have sz3:=I3.sz
    refine aR P3 (dW (aB (Ew (LX.setb I3.lx true) ?_)))
    exact k2 b acc _ rfl (I3.but k0 (But.put _ _ _) (I3.ok.put (by omega) _) (R6 h3 (h0.sz+3) s b true))
theorem aiI {call:aj} {n fid:Nat} {σ:Go.Ab.St} {f:bS} {ps:List Nat} {asg body:dx} {first cap:List AV} {KE:nG} (e:ev σ.regs f=some (.fn (.func fid) first cap))
 (s:call (.func fid) (first++[.fn (.yield σ.h.sz) [] []]++cap) (σ.h.push (Lp σ.regs ps asg body .ready)) (fun v h'=>
   match iQ v with
   |some _=>false
   |none=>
   match h'.get σ.h.sz with
   |some (.loop l)=>match l.st with
    | .ready=>KE .normal ⟨σ.regs,h'.put σ.h.sz (.loop {l with st:= .exh})⟩
    | .done x=>KE x ⟨σ.regs,h'.put σ.h.sz (.loop {l with st:= .exh})⟩
    |_=>false
   |_=>false)=true):dA call n (.rf f ps asg body) σ KE=true:=by
 simp only[dA,e]
 exact s
theorem Zw {call:aj} {df:lN} {n:Nat} {σ:Go.Ab.St} {pend:List (AV×List AV)} {KT:Go.Ab.Mode→Go.Ab.St→Bool} {a1 a2 b:dx} (s:Go.Ab.dA call n (.seq a1 a2) σ (fun x σ'=>match x with | .normal=>Go.Ab.runT call df n b pend σ' KT |x=>atEnd df pend x σ' KT)=true):Go.Ab.runT call df n (.seq (.seq a1 a2) b) pend σ KT=true:=by
 simp only[Go.Ab.runT];exact s
theorem _root_.Go.Ab.Own.low {b c n:Nat} {h:ah} {v:AV} {es:List (List AV)} (O:Own b h n v es) (l:c≤b):Own c h n v es:=by
 rcases O with O |⟨id,r,q1,q⟩
 ·exact .inl O
 ·exact .inr ⟨id,r,Nat.le_trans l q1,q⟩
def ajJ (b:Nat) (h:ah) (v:AV):Except Nat (List Lx)→Prop
 | .ok l=>∃u,v= .tup [u, .int .i64 0, .int .i64 0]∧Own b h 4 u (l.map jP)
 | .error e=>v= .tup [.nilSlc, .int .i64 (e:Int), .int .i64 20]
section
variable {call:aj} {df:lN} {m:Nat} {ρ:dw} {g:ah} {b a e:Nat} {s:Str} {v x y z:AV} {K:au}
theorem Zh (e2:ρ.get 2=some (.ptr b 0 0 0)) (e3:ρ.get 3=some (.ptr (b+1) 0 0 0)) (e4:ρ.get 4=some (.ptr (b+2) 0 0 0)) (R1:Var g b [x]) (R2:Var g (b+1) [y]) (R3:Var g (b+2) [z]) (k:K (.tup [x,y,z]) g=true):nk VO.res K .ret ⟨ρ,g⟩=true:=by
 show(match jm ρ g [(2,some (false,1)),(3,some (false,1)),(4,some (false,1))] with |some l=>K (oneOf l) g |none=>false)=true
 have l1:dZ g false 1 (.ptr b 0 0 0)=some x:=by rw[R1.load];rfl
 have l2:dZ g false 1 (.ptr (b+1) 0 0 0)=some y:=by rw[R2.load];rfl
 have l3:dZ g false 1 (.ptr (b+2) 0 0 0)=some z:=by rw[R3.load];rfl
 simp only[jm,uR,e2,e3,e4,l1,l2,l3]
 exact k
theorem ajy (e2:ρ.get 2=some (.ptr b 0 0 0)) (e3:ρ.get 3=some (.ptr (b+1) 0 0 0)) (e4:ρ.get 4=some (.ptr (b+2) 0 0 0)) (e5:ρ.get 5=some (.ptr (b+3) 0 0 0)) (e6:ρ.get 6=some (.ptr (b+4) 0 0 0))
 (V:LX g (b+3) s a false) (L:Var g (b+4) [v]) (lf:v.leaf=true) (R1:Var g b [x]) (R2:Var g (b+1) [y]) (R3:Var g (b+2) [z]) (o:g.Ok)
 (k:∀g1 g2 g3,But b g g1→But (b+1) g1 g2→But (b+2) g2 g3→g3.Ok→K (.tup [v, .int .i64 0, .int .i64 0]) g3=true):
 Go.Ab.runT call df m (Uk 4 VO.body) [] ⟨ρ,g⟩ (nk VO.res K)=true:=by
 show Go.Ab.runT _ _ m (.seq (.seq (.reg _) (.cond _ _ _)) (.seq (.reg _) .ret)) [] ⟨ρ,g⟩ _=true
 refine Zw (HV (q_reg ?_))
 refine gU (v:= .ptr (b+3) 0 0 0) (h':=g) rfl (by simp only[aO,rR,ev,e5];rfl) ?_
 refine gU (v:= .ptr (b+3) 0 0 0) (h':=g) rfl (by simp only[aO,rR,ev,iy];rfl) ?_
 refine gU (v:= .ptr (b+3) 0 0 2) (h':=g) rfl (by simp only[aO,rR,ev,iy];rfl) ?_
 refine gU (v:= .bool false) (h':=g) rfl (by simp only[aO,rR,ev,iy];rw[LX.l2 V];rfl) (oq ?_)
 refine Tx (by simp only[ev,iy]) (q_skip ?_)
 have p2:(put (put (put (put ρ (some 23) (.ptr (b+3) 0 0 0)) (some 24) (.ptr (b+3) 0 0 0)) (some 25) (.ptr (b+3) 0 0 2)) (some 26) (.bool false)).get 2=some (.ptr b 0 0 0):=by
  rw[bX (by decide),bX (by decide),bX (by decide),bX (by decide)];exact e2
 have p3:(put (put (put (put ρ (some 23) (.ptr (b+3) 0 0 0)) (some 24) (.ptr (b+3) 0 0 0)) (some 25) (.ptr (b+3) 0 0 2)) (some 26) (.bool false)).get 3=some (.ptr (b+1) 0 0 0):=by
  rw[bX (by decide),bX (by decide),bX (by decide),bX (by decide)];exact e3
 have p4:(put (put (put (put ρ (some 23) (.ptr (b+3) 0 0 0)) (some 24) (.ptr (b+3) 0 0 0)) (some 25) (.ptr (b+3) 0 0 2)) (some 26) (.bool false)).get 4=some (.ptr (b+2) 0 0 0):=by
  rw[bX (by decide),bX (by decide),bX (by decide),bX (by decide)];exact e4
 have p6:(put (put (put (put ρ (some 23) (.ptr (b+3) 0 0 0)) (some 24) (.ptr (b+3) 0 0 0)) (some 25) (.ptr (b+3) 0 0 2)) (some 26) (.bool false)).get 6=some (.ptr (b+4) 0 0 0):=by
  rw[bX (by decide),bX (by decide),bX (by decide),bX (by decide)];exact e6
 generalize put (put (put (put ρ (some 23) (.ptr (b+3) 0 0 0)) (some 24) (.ptr (b+3) 0 0 0)) (some 25) (.ptr (b+3) 0 0 2)) (some 26) (.bool false)=ρ1 at *
 show Go.Ab.runT _ _ m (.seq (.reg _) .ret) [] ⟨ρ1,g⟩ _=true
 have lv:dZ g false 1 (.ptr (b+4) 0 0 0)=some v:=by rw[L.load];rfl
 refine EY rfl (gU (v:=v) (h':=g) rfl (by simp only[aO,rR,ev,p6];rw[lv];rfl) ?_)
 have q2:(put ρ1 (some 31) v).get 2=some (.ptr b 0 0 0):=by rw[bX (by decide)];exact p2
 have q3:(put ρ1 (some 31) v).get 3=some (.ptr (b+1) 0 0 0):=by rw[bX (by decide)];exact p3
 have q4:(put ρ1 (some 31) v).get 4=some (.ptr (b+2) 0 0 0):=by rw[bX (by decide)];exact p4
 have q31:(put ρ1 (some 31) v).get 31=some v:=iy
 generalize put ρ1 (some 31) v=ρ2 at *
 obtain⟨g1,s1,b1,w1,y1⟩:=Wy R1 lf o
 obtain⟨g2,s2,b2,w2,y2⟩:=Wy (v:= .int .i64 0) (b1.var R2 (by omega)) rfl y1
 obtain⟨g3,s3,b3,w3,y3⟩:=Wy (v:= .int .i64 0) (b2.var (b1.var R3 (by omega)) (by omega)) rfl y2
 refine gU (v:= .tup []) (h':=g1) rfl (by simp only[aO,rR,ev,q2,q31];rw[s1];rfl) ?_
 refine gU (v:= .tup []) (h':=g2) rfl (by simp only[aO,rR,ev,put,q3];rw[s2];rfl) ?_
 refine gU (v:= .tup []) (h':=g3) rfl (by simp only[aO,rR,ev,put,q4];rw[s3];rfl) (oq ?_)
 refine ahe ?_
 show nk VO.res K .ret ⟨ρ2,g3⟩=true
 exact Zh q2 q3 q4 (b3.var (b2.var w1 (by omega)) (by omega)) (b3.var w2 (by omega)) w3 (k g1 g2 g3 b1 b2 b3 y3)
theorem agf (e2:ρ.get 2=some (.ptr b 0 0 0)) (e3:ρ.get 3=some (.ptr (b+1) 0 0 0)) (e4:ρ.get 4=some (.ptr (b+2) 0 0 0)) (e5:ρ.get 5=some (.ptr (b+3) 0 0 0))
 (V:LX g (b+3) s e true) (R1:Var g b [x]) (R2:Var g (b+1) [y]) (R3:Var g (b+2) [z]) (o:g.Ok)
 (k:∀g1 g2 g3,But b g g1→But (b+1) g1 g2→But (b+2) g2 g3→g3.Ok→K (.tup [.nilSlc, .int .i64 (e:Int), .int .i64 20]) g3=true):
 Go.Ab.runT call df m (Uk 4 VO.body) [] ⟨ρ,g⟩ (nk VO.res K)=true:=by
 show Go.Ab.runT _ _ m (.seq (.seq (.reg _) (.cond _ _ _)) (.seq (.reg _) .ret)) [] ⟨ρ,g⟩ _=true
 refine Zw (HV (q_reg ?_))
 refine gU (v:= .ptr (b+3) 0 0 0) (h':=g) rfl (by simp only[aO,rR,ev,e5];rfl) ?_
 refine gU (v:= .ptr (b+3) 0 0 0) (h':=g) rfl (by simp only[aO,rR,ev,iy];rfl) ?_
 refine gU (v:= .ptr (b+3) 0 0 2) (h':=g) rfl (by simp only[aO,rR,ev,iy];rfl) ?_
 refine gU (v:= .bool true) (h':=g) rfl (by simp only[aO,rR,ev,iy];rw[LX.l2 V];rfl) (oq ?_)
 refine Vk (by simp only[ev,iy]) ?_
 have p2:(put (put (put (put ρ (some 23) (.ptr (b+3) 0 0 0)) (some 24) (.ptr (b+3) 0 0 0)) (some 25) (.ptr (b+3) 0 0 2)) (some 26) (.bool true)).get 2=some (.ptr b 0 0 0):=by
  rw[bX (by decide),bX (by decide),bX (by decide),bX (by decide)];exact e2
 have p3:(put (put (put (put ρ (some 23) (.ptr (b+3) 0 0 0)) (some 24) (.ptr (b+3) 0 0 0)) (some 25) (.ptr (b+3) 0 0 2)) (some 26) (.bool true)).get 3=some (.ptr (b+1) 0 0 0):=by
  rw[bX (by decide),bX (by decide),bX (by decide),bX (by decide)];exact e3
 have p4:(put (put (put (put ρ (some 23) (.ptr (b+3) 0 0 0)) (some 24) (.ptr (b+3) 0 0 0)) (some 25) (.ptr (b+3) 0 0 2)) (some 26) (.bool true)).get 4=some (.ptr (b+2) 0 0 0):=by
  rw[bX (by decide),bX (by decide),bX (by decide),bX (by decide)];exact e4
 have p5:(put (put (put (put ρ (some 23) (.ptr (b+3) 0 0 0)) (some 24) (.ptr (b+3) 0 0 0)) (some 25) (.ptr (b+3) 0 0 2)) (some 26) (.bool true)).get 5=some (.ptr (b+3) 0 0 0):=by
  rw[bX (by decide),bX (by decide),bX (by decide),bX (by decide)];exact e5
 generalize put (put (put (put ρ (some 23) (.ptr (b+3) 0 0 0)) (some 24) (.ptr (b+3) 0 0 0)) (some 25) (.ptr (b+3) 0 0 2)) (some 26) (.bool true)=ρ1 at *
 refine HV (Y8 (jH (v:= .ptr (b+3) 0 0 0) (h':=g) (by simp only[aO,rR,ev,p5];rfl) (jH (v:= .ptr (b+3) 0 0 0) (h':=g) (by simp only[aO,rR,ev,iy];rfl) (jH (v:= .ptr (b+3) 0 0 1) (h':=g) (by simp only[aO,rR,ev,iy];rfl)
  (jH (v:= .int .i64 (e:Int)) (h':=g) (by simp only[aO,rR,ev,iy];rw[LX.l1 V];rfl) rfl)))) ?_)
 have q2:(put (put (put (put ρ1 (some 27) (.ptr (b+3) 0 0 0)) (some 28) (.ptr (b+3) 0 0 0)) (some 29) (.ptr (b+3) 0 0 1)) (some 30) (.int .i64 (e:Int))).get 2=some (.ptr b 0 0 0):=by
  rw[bX (by decide),bX (by decide),bX (by decide),bX (by decide)];exact p2
 have q3:(put (put (put (put ρ1 (some 27) (.ptr (b+3) 0 0 0)) (some 28) (.ptr (b+3) 0 0 0)) (some 29) (.ptr (b+3) 0 0 1)) (some 30) (.int .i64 (e:Int))).get 3=some (.ptr (b+1) 0 0 0):=by
  rw[bX (by decide),bX (by decide),bX (by decide),bX (by decide)];exact p3
 have q4:(put (put (put (put ρ1 (some 27) (.ptr (b+3) 0 0 0)) (some 28) (.ptr (b+3) 0 0 0)) (some 29) (.ptr (b+3) 0 0 1)) (some 30) (.int .i64 (e:Int))).get 4=some (.ptr (b+2) 0 0 0):=by
  rw[bX (by decide),bX (by decide),bX (by decide),bX (by decide)];exact p4
 have q29:(put (put (put (put ρ1 (some 27) (.ptr (b+3) 0 0 0)) (some 28) (.ptr (b+3) 0 0 0)) (some 29) (.ptr (b+3) 0 0 1)) (some 30) (.int .i64 (e:Int))).get 29=some (.ptr (b+3) 0 0 1):=by
  rw[bX (by decide),iy]
 have q30:(put (put (put (put ρ1 (some 27) (.ptr (b+3) 0 0 0)) (some 28) (.ptr (b+3) 0 0 0)) (some 29) (.ptr (b+3) 0 0 1)) (some 30) (.int .i64 (e:Int))).get 30=some (.int .i64 (e:Int)):=iy
 generalize put (put (put (put ρ1 (some 27) (.ptr (b+3) 0 0 0)) (some 28) (.ptr (b+3) 0 0 0)) (some 29) (.ptr (b+3) 0 0 1)) (some 30) (.int .i64 (e:Int))=ρ2 at *
 obtain⟨g1,s1,b1,w1,y1⟩:=Wy (v:= .nilSlc) R1 rfl o
 obtain⟨g2,s2,b2,w2,y2⟩:=Wy (v:= .int .i64 (e:Int)) (b1.var R2 (by omega)) rfl y1
 obtain⟨g3,s3,b3,w3,y3⟩:=Wy (v:= .int .i64 20) (b2.var (b1.var R3 (by omega)) (by omega)) rfl y2
 have V1:LX g1 (b+3) s e true:=b1.var V (by omega)
 refine Xh (v:= .tup []) (h':=g1) (ρ':=ρ2) rfl rfl (by simp only[aO,rR,ev,q2];rw[s1];rfl)
  (XM (v:= .int .i64 (e:Int)) (h':=g1) (by simp only[aO,rR,ev,put,q29];rw[LX.l1 V1];rfl) q30 (GZ _ _)) rfl ?_
 refine Xh (v:= .tup []) (h':=g2) (ρ':=ρ2) rfl rfl (by simp only[aO,rR,ev,q3,q30];rw[s2];rfl) rfl rfl ?_
 refine Xh (v:= .tup []) (h':=g3) (ρ':=ρ2) rfl rfl (by simp only[aO,rR,ev,q4];rw[s3];rfl) rfl rfl (acy ?_)
 refine acd ?_
 show nk VO.res K .ret ⟨ρ2,g3⟩=true
 exact Zh q2 q3 q4 (b3.var (b2.var w1 (by omega)) (by omega)) (b3.var w2 (by omega)) w3 (k g1 g2 g3 b1 b2 b3 y3)
end
theorem c13 {n:Nat} {h:ah} {s:Str} {K:au} (ho:h.Ok) (hL:2*s.length+4<most) (hb:∀b∈s,b<256) (hn:s.length<n) (hn6:6≤n)
 (k:∀v h',Ext h h'→h'.Ok→ajJ h.sz h' v (wo s)→K v h'=true):av E (n+8) (.func 13) [.str s] h K=true:=by
 have hp:E.prim 13=none:=rfl
 have hc:E.code 13=some VO:=rfl
 show av E (n+7+1) (.func 13) [.str s] h K=true
 have st:∀m,Go.Ab.runT (av E m) (zF E (av E m) m) m VO.body [] ⟨oK 0 [.str s] .lf,h⟩ (nk VO.res K)=true→av E (m+1) (.func 13) [.str s] h K=true:=by
  intro m q
  simp only[av,hp,hc]
  exact q
 refine st (n+7) ?_
 refine EY rfl ?_
 have A1:oh h [AV.nilSlc]=some (.ptr h.sz 0 0 0,Ab.newRow h [[AV.nilSlc]] 1):=alloc_eq (by decide) rfl
 refine gU rfl A1 ?_
 have e1:=gY ho [[AV.nilSlc]] 1
 have o1:=iN ho [[AV.nilSlc]] 1
 have V1:Var (Ab.newRow h [[AV.nilSlc]] 1) h.sz [AV.nilSlc]:=nC h [AV.nilSlc]
 have s1:(Ab.newRow h [[AV.nilSlc]] 1).sz=h.sz+1:=rfl
 generalize Ab.newRow h [[AV.nilSlc]] 1=h1 at *
 have A2:oh h1 [AV.int .i64 0]=some (.ptr h1.sz 0 0 0,Ab.newRow h1 [[AV.int .i64 0]] 1):=alloc_eq (by decide) rfl
 refine gU rfl A2 ?_
 have e2:=gY o1 [[AV.int .i64 0]] 1
 have o2:=iN o1 [[AV.int .i64 0]] 1
 have V2:Var (Ab.newRow h1 [[AV.int .i64 0]] 1) h1.sz [AV.int .i64 0]:=nC h1 [AV.int .i64 0]
 have s2:(Ab.newRow h1 [[AV.int .i64 0]] 1).sz=h1.sz+1:=rfl
 generalize Ab.newRow h1 [[AV.int .i64 0]] 1=h2 at *
 have A3:oh h2 [AV.int .i64 0]=some (.ptr h2.sz 0 0 0,Ab.newRow h2 [[AV.int .i64 0]] 1):=alloc_eq (by decide) rfl
 refine gU rfl A3 (oq ?_)
 have e3:=gY o2 [[AV.int .i64 0]] 1
 have o3:=iN o2 [[AV.int .i64 0]] 1
 have V3:Var (Ab.newRow h2 [[AV.int .i64 0]] 1) h2.sz [AV.int .i64 0]:=nC h2 [AV.int .i64 0]
 have s3:(Ab.newRow h2 [[AV.int .i64 0]] 1).sz=h2.sz+1:=rfl
 generalize Ab.newRow h2 [[AV.int .i64 0]] 1=h3 at *
 show Go.Ab.runT _ _ _ (.seq (.reg _) _) _ _ _=true
 refine EY rfl (gU (v:= .str s) (h':=h3) rfl rfl (gU (v:= .agg [.str s, .int .i64 ((0:Nat):Int), .bool false]) (h':=h3) rfl rfl ?_))
 have A4:mU h3 none 3 (.agg [.str s, .int .i64 ((0:Nat):Int), .bool false])=some (.ptr h3.sz 0 0 0,Ab.newRow h3 [[.str s, .int .i64 ((0:Nat):Int), .bool false]] 3):=Nf (n:=3) rfl (by decide) rfl
 refine gU rfl A4 (gU (v:= .ptr h3.sz 0 0 0) (h':=Ab.newRow h3 [[.str s, .int .i64 ((0:Nat):Int), .bool false]] 3) rfl rfl (oq ?_))
 have e4:=gY o3 [[.str s, .int .i64 ((0:Nat):Int), .bool false]] 3
 have o4:=iN o3 [[.str s, .int .i64 ((0:Nat):Int), .bool false]] 3
 have V4:LX (Ab.newRow h3 [[.str s, .int .i64 ((0:Nat):Int), .bool false]] 3) h3.sz s 0 false:=nC h3 [.str s, .int .i64 ((0:Nat):Int), .bool false]
 have s4:(Ab.newRow h3 [[.str s, .int .i64 ((0:Nat):Int), .bool false]] 3).sz=h3.sz+1:=rfl
 generalize Ab.newRow h3 [[.str s, .int .i64 ((0:Nat):Int), .bool false]] 3=h4 at *
 have A5:oh h4 [AV.nilSlc]=some (.ptr h4.sz 0 0 0,Ab.newRow h4 [[AV.nilSlc]] 1):=alloc_eq (by decide) rfl
 show Go.Ab.runT _ _ _ (.seq (.reg _) _) _ _ _=true
 refine EY rfl (gU rfl A5 (oq ?_))
 have e5:=gY o4 [[AV.nilSlc]] 1
 have o5:=iN o4 [[AV.nilSlc]] 1
 have V5:Var (Ab.newRow h4 [[AV.nilSlc]] 1) h4.sz [AV.nilSlc]:=nC h4 [AV.nilSlc]
 have s5:(Ab.newRow h4 [[AV.nilSlc]] 1).sz=h4.sz+1:=rfl
 generalize Ab.newRow h4 [[AV.nilSlc]] 1=h5 at *
 show Go.Ab.runT _ _ _ (.seq (.seq _ _) _) _ _ _=true
 refine Zw (HV (q_reg ?_))
 refine gU (v:= .ptr h3.sz 0 0 0) (h':=h5) rfl rfl (Sb (tgt:= .func 24) (first:=[]) (cap:=[]) (vs:=[.ptr h3.sz 0 0 0]) rfl rfl ?_)
 show av E (n+7) (.func 24) [.ptr h3.sz 0 0 0] h5 _=true
 apply d24
 unfold s24
 have A6:mU h5 none 1 (.ptr h3.sz 0 0 0)=some (.ptr h5.sz 0 0 0,Ab.newRow h5 [[AV.ptr h3.sz 0 0 0]] 1):=Nf (n:=1) rfl (by decide) rfl
 refine Y1 A6 ?_
 have e6:=gY o5 [[AV.ptr h3.sz 0 0 0]] 1
 have o6:=iN o5 [[AV.ptr h3.sz 0 0 0]] 1
 have V6:Var (Ab.newRow h5 [[AV.ptr h3.sz 0 0 0]] 1) h5.sz [AV.ptr h3.sz 0 0 0]:=nC h5 [AV.ptr h3.sz 0 0 0]
 have s6:(Ab.newRow h5 [[AV.ptr h3.sz 0 0 0]] 1).sz=h5.sz+1:=rfl
 generalize Ab.newRow h5 [[AV.ptr h3.sz 0 0 0]] 1=h6 at *
 refine aY ?_
 have z1:h1.sz=h.sz+1:=s1
 have z2:h2.sz=h.sz+2:=by omega
 have z3:h3.sz=h.sz+3:=by omega
 have z4:h4.sz=h.sz+4:=by omega
 have z5:h5.sz=h.sz+5:=by omega
 have z6:h6.sz=h.sz+6:=by omega
 rw[z1] at V2
 rw[z2] at V3
 rw[z3] at V4 V6
 rw[z4] at V5
 rw[z5] at V6
 rw[z1,z2,z3,z4,z5]
 have e7:=sj o6 (Lp (gQ h.sz s) [13] mJ jr .ready)
 have I0:Fz h s (gQ h.sz s) (h6.push (Lp (gQ h.sz s) [13] mJ jr .ready)) 0 false []:=by
  refine⟨e1.trans (e2.trans (e3.trans (e4.trans (e5.trans (e6.trans e7))))),o6.push _,by simp[z6],V1.ext (e2.trans (e3.trans (e4.trans (e5.trans (e6.trans e7))))),V2.ext (e3.trans (e4.trans (e5.trans (e6.trans e7)))),V3.ext (e4.trans (e5.trans (e6.trans e7))),Var.ext V4 (e5.trans (e6.trans e7)),⟨.nilSlc,V5.ext (e6.trans e7),Own.nil _ _ _⟩,V6.ext e7, ?_⟩
  rw[←z6];exact y8 _ _
 refine oq ?_
 refine UZ (aiI (fid:=43) (first:=[]) (cap:=[.ptr (h.sz+5) 0 0 0]) rfl ?_)
 show av E (n+7) (.func 43) [.fn (.yield h6.sz) [] [], .ptr (h.sz+5) 0 0 0] (h6.push (Lp (gQ h.sz s) [13] mJ jr .ready)) _=true
 apply d43
 unfold s43
 rw[z6]
 refine l43 ho hL hb hn hn6 (n+6) 0 (s.length+1) [] _ I0 (by omega) (by omega) (by omega) (by simp) ?_ ?_ ?_
 ·intro l h' a' hl I'
  have hl':wo s= .ok l:=hl
  have y:=I'.y
  unfold Lp at y
  rw[show iQ (AV.tup [])=none from rfl]
  simp only[y]
  have B:=But.put (h.sz+6) h' (.loop {regs:=gQ h.sz s,ps:=[13],asg:=mJ,body:=jr,st:= .exh})
  have sz':=I'.sz
  have X':=B.ext I'.ext ho (by omega)
  have O':=I'.ok.put (show h.sz+6<h'.sz by omega) (.loop {regs:=gQ h.sz s,ps:=[13],asg:=mJ,body:=jr,st:= .exh})
  have LXx:=B.var I'.lx (by omega)
  obtain⟨v,L,OO⟩:=I'.l
  have L':=B.var L (by omega)
  have OO':=B.own OO
  have R1:=B.var I'.r1 (by omega)
  have R2:=B.var I'.r2 (by omega)
  have R3:=B.var I'.r3 (by omega)
  generalize h'.put (h.sz+6) (.loop {regs:=gQ h.sz s,ps:=[13],asg:=mJ,body:=jr,st:= .exh})=g at *
  have lf:v.leaf=true:=OO.view.leaf
  refine ajy (b:=h.sz) (s:=s) (a:=a') (x:= .nilSlc) (y:= .int .i64 0) (z:= .int .i64 0) (v:=v) rfl rfl rfl rfl rfl LXx L' lf R1 R2 R3 O' fun g1 g2 g3 b1 b2 b3 y3=> ?_
  have EX:=b3.ext (b2.ext (b1.ext X' ho (by omega)) ho (by omega)) ho (by omega)
  have OW:=b3.own (b2.own (b1.own (OO' (by omega)) (by omega)) (by omega)) (by omega)
  refine k _ _ EX y3 ?_
  rw[hl']
  exact⟨v,rfl,by rw[List.nil_append] at OW;exact OW.low (by omega)⟩
 ·intro e l h' hl I'
  have hl':wo s= .error e:=hl
  have y:=I'.y
  unfold Lp at y
  rw[show iQ (AV.tup [])=none from rfl]
  simp only[y]
  have B:=But.put (h.sz+6) h' (.loop {regs:=gQ h.sz s,ps:=[13],asg:=mJ,body:=jr,st:= .exh})
  have sz':=I'.sz
  have X':=B.ext I'.ext ho (by omega)
  have O':=I'.ok.put (show h.sz+6<h'.sz by omega) (.loop {regs:=gQ h.sz s,ps:=[13],asg:=mJ,body:=jr,st:= .exh})
  have LXx:=B.var I'.lx (by omega)
  have R1:=B.var I'.r1 (by omega)
  have R2:=B.var I'.r2 (by omega)
  have R3:=B.var I'.r3 (by omega)
  generalize h'.put (h.sz+6) (.loop {regs:=gQ h.sz s,ps:=[13],asg:=mJ,body:=jr,st:= .exh})=g at *
  refine agf (b:=h.sz) (s:=s) (e:=e) (x:= .nilSlc) (y:= .int .i64 0) (z:= .int .i64 0) rfl rfl rfl rfl LXx R1 R2 R3 O' fun g1 g2 g3 b1 b2 b3 y3=> ?_
  have EX:=b3.ext (b2.ext (b1.ext X' ho (by omega)) ho (by omega)) ho (by omega)
  refine k _ _ EX y3 ?_
  rw[hl']
  rfl
 ·intro e h' hl S'
  have hl':wo s= .error e:=hl
  have y:=S'.y
  unfold Lp at y
  rw[show iQ (AV.tup [])=none from rfl]
  simp only[y]
  have B:=But.put (h.sz+6) h' (.loop {regs:=gQ h.sz s,ps:=[13],asg:=mJ,body:=jr,st:= .exh})
  have sz':=S'.sz
  show nk VO.res K .ret ⟨gQ h.sz s,h'.put (h.sz+6) (.loop {regs:=gQ h.sz s,ps:=[13],asg:=mJ,body:=jr,st:= .exh})⟩=true
  refine Zh (b:=h.sz) rfl rfl rfl (B.var S'.r1 (by omega)) (B.var S'.r2 (by omega)) (B.var S'.r3 (by omega)) ?_
  refine k _ _ (B.ext S'.ext ho (by omega)) (S'.ok.put (by omega) _) ?_
  rw[hl']
  rfl
def JG:Nat→Nat→Str→Except Nat (List Lx)
 |0,_,_=> .ok []
 |f+1,p,l=>if l.length≤skip false l then .ok [] else match tT (l.drop (skip false l)) with
  |none=> .error (p+skip false l)
  |some (kd,t,m)=>match JG f (p+skip false l+m) (l.drop (skip false l+m)) with
   | .error e=> .error e
   | .ok r=> .ok (⟨kd,t,p+skip false l,p+skip false l+m⟩ :: r)
theorem Um:∀(f:Nat) (s:Str) (a k:Nat),a≤s.length→k+(s.length-a)≤4096→Pd f s a k=JG f a (s.drop a)
 |0,_,_,_,_,_=>rfl
 |f+1,s,a,k,ha,hk=>by
  simp only[Pd,JG]
  have hle:=yF false (s.drop a)
  simp only[List.length_drop] at hle ⊢
  by_cases hend:s.length≤a+skip false (s.drop a)
  ·rw[if_pos hend,if_pos (by omega)]
  ·rw[if_neg hend,if_neg (by omega),List.drop_drop]
   cases hn:tT (s.drop (a+skip false (s.drop a))) with
   |none=>rfl
   |some r=>
    obtain⟨kd,t,m⟩:=r
    have hm:=LD hn
    simp only[List.length_drop] at hm
    simp only
    rw[if_neg (by omega),Um f s _ (k+1) (by omega) (by omega),List.drop_drop]
    rw[show a+(skip false (s.drop a)+m)=a+skip false (s.drop a)+m by omega]
    all_goals(cases JG f (a+skip false (s.drop a)+m) (s.drop (a+skip false (s.drop a)+m))<;>rfl)
theorem aaQ {s:Str} (h:s.length≤4096):wo s=JG (s.length+1) 0 s:=by
 unfold wo
 rw[Um _ s 0 0 (by omega) (by omega),List.drop_zero]
theorem NI:∀(f p:Nat) (l:Str) (r:List Lx),JG f p l= .ok r→r.length≤l.length∧∀y∈r,p≤y.beg∧y.beg<y.fin∧y.fin≤p+l.length
 |0,_,_,_,h=>by cases h;exact⟨by simp,fun _ h=>by cases h⟩
 |f+1,p,l,r,h=>by
  simp only[JG] at h
  by_cases hend:l.length≤skip false l
  ·rw[if_pos hend] at h;cases h;exact⟨by simp,fun _ h=>by cases h⟩
  ·rw[if_neg hend] at h
   cases hn:tT (l.drop (skip false l)) with
   |none=>rw[hn] at h;cases h
   |some q=>
    obtain⟨kd,t,m⟩:=q
    have hm:=LD hn
    simp only[List.length_drop] at hm
    rw[hn] at h
    simp only at h
    cases hr:JG f (p+skip false l+m) (l.drop (skip false l+m)) with
    |error e=>rw[hr] at h;cases h
    |ok r'=>
     rw[hr] at h
     have ih:=NI f _ _ r' hr
     simp only[List.length_drop] at ih
     cases h
     refine⟨by simp only[List.length_cons];omega,fun y hy=> ?_⟩
     rcases List.mem_cons.1 hy with rfl |hy
     ·exact⟨by simp only;omega,by simp only;omega,by simp only;omega⟩
     ·have:=ih.2 y hy
      omega
theorem Uo:∀(l:Str) (a:Nat),(∀c∈l,ig c=true)→(pM l a).isSome=true
 | [],a,_=>rfl
 |c :: l,a,h=>by
  have hc:=h c List.mem_cons_self
  unfold ig at hc
  simp only[Bool.and_eq_true,decide_eq_true_eq] at hc
  unfold pM
  rw[aK.2 hc.1,aK.2 hc.2,Bool.and_self,cond_true]
  cases Nat.ble 1844674407370955162 a with
  |true=>rfl
  |false=>
   rw[cond_false]
   cases Nat.blt 18446744073709551615 (a*10+(c-48)) with
   |true=>rfl
   |false=>rw[cond_false];exact Uo l _ fun d hd=>h d (List.mem_cons_of_mem _ hd)
theorem Wu {t:Str} (h0:t≠[]) (h:∀c∈t,ig c=true):(pI t).isSome=true∧∀v,pI t=some (some v)→0≤v:=by
 cases t with
 |nil=>exact absurd rfl h0
 |cons c r=>
  have hc:=h c List.mem_cons_self
  unfold ig at hc
  simp only[Bool.and_eq_true,decide_eq_true_eq] at hc
  have e1:Nat.beq c 43=false:=bZ.2 (by omega)
  have e2:Nat.beq c 45=false:=bZ.2 (by omega)
  have hp:=Uo (c :: r) 0 h
  unfold pI pU
  simp only[e1,e2,Bool.or_self,cond_false]
  cases e:pM (c :: r) 0 with
  |none=>rw[e] at hp;cases hp
  |some x=>
   cases x with
   |none=>exact⟨rfl,fun v q=>by cases q⟩
   |some u=>
    simp only
    cases Nat.ble 9223372036854775808 u with
    |true=>exact⟨rfl,fun v q=>by cases q⟩
    |false=>exact⟨rfl,fun v q=>by cases q;exact Int.natCast_nonneg u⟩
theorem Uv {p:Nat→Bool}:∀(l:Str),l.take (l.takeWhile p).length=l.takeWhile p
 | []=>rfl
 |c :: l=>by
  rw[List.takeWhile_cons]
  split
  ·rw[List.length_cons,List.take_succ_cons,Uv l]
  ·rfl
theorem Yo {l:Str} {t:Str} {m:Nat} (h:tT l=some (2,t,m)):t≠[]∧(∀c∈t,ig c=true)∧t.length≤l.length:=by
 cases l with
 |nil=>cases h
 |cons c l=>
  have h:(if mH c=true then some (0,(c :: l).take (nV (c :: l)),nV (c :: l))
   else if c=36 then(if 0<nV l then some (1,l.take (nV l),nV l+1) else none)
   else if ig c=true then some (2,(c :: l).take ((c :: l).takeWhile ig).length,((c :: l).takeWhile ig).length)
   else if c=34 then(quo l).map fun r=>(3,r.1,r.2+1)
   else if 0<nu (c :: l) then some (4,(c :: l).take (nu (c :: l)),nu (c :: l)) else none)=some (2,t,m):=h
  by_cases h1:mH c=true
  ·rw[if_pos h1] at h;cases h
  rw[if_neg h1] at h
  by_cases h2:c=36
  ·rw[if_pos h2] at h
   by_cases h3:0<nV l
   ·rw[if_pos h3] at h;cases h
   ·rw[if_neg h3] at h;cases h
  rw[if_neg h2] at h
  by_cases hd:ig c=true
  ·rw[if_pos hd,Uv] at h
   cases h
   refine⟨?_,fun d hm=> ?_,AO _⟩
   ·rw[List.takeWhile_cons,if_pos hd];simp
   ·exact List.all_eq_true.1 (List.all_takeWhile (l:=c :: l) (p:=ig)) d hm
  rw[if_neg hd] at h
  by_cases h4:c=34
  ·rw[if_pos h4] at h
   cases e:quo l with
   |none=>rw[e] at h;cases h
   |some r=>rw[e] at h;cases h
  rw[if_neg h4] at h
  by_cases h5:0<nu (c :: l)
  ·rw[if_pos h5] at h;cases h
  ·rw[if_neg h5] at h;cases h
theorem P7:∀(f p:Nat) (l:Str) (r:List Lx),JG f p l= .ok r→∀y∈r,y.kind=2→y.text≠[]∧(∀c∈y.text,ig c=true)∧y.text.length≤l.length
 |0,_,_,_,h=>by cases h;intro y hy;cases hy
 |f+1,p,l,r,h=>by
  simp only[JG] at h
  by_cases hend:l.length≤skip false l
  ·rw[if_pos hend] at h;cases h;intro y hy;cases hy
  ·rw[if_neg hend] at h
   cases hn:tT (l.drop (skip false l)) with
   |none=>rw[hn] at h;cases h
   |some q=>
    obtain⟨kd,t,m⟩:=q
    rw[hn] at h
    simp only at h
    cases hr:JG f (p+skip false l+m) (l.drop (skip false l+m)) with
    |error e=>rw[hr] at h;cases h
    |ok r'=>
     rw[hr] at h
     have ih:=P7 f _ _ r' hr
     cases h
     intro y hy hk
     rcases List.mem_cons.1 hy with rfl |hy
     ·simp only at hk
      subst hk
      have:=Yo hn
      simp only[List.length_drop] at this
      exact⟨this.1,this.2.1,by simp only;omega⟩
     ·have:=ih y hy hk
      simp only[List.length_drop] at this
      exact⟨this.1,this.2.1,by omega⟩
theorem FP {s:Str} {l:List Lx} (h:s.length≤4096) (e:wo s= .ok l):dJ l s.length 0 0:=by
 rw[aaQ h] at e
 obtain⟨h1,h2⟩:=NI _ _ _ _ e
 have h3:=P7 _ _ _ _ e
 have hlim:lim=4611686018427387904:=rfl
 refine⟨by omega,Nat.zero_le _,by omega,by omega,fun j=> ?_,fun y hy hk=> ?_⟩
 ·unfold FB
  cases hj:l[j]? with
  |none=>simp only;omega
  |some y=>have:=h2 y (List.mem_of_getElem? hj);simp only;omega
 ·obtain⟨q1,q2,q3⟩:=h3 y hy hk
  obtain⟨q4,q5⟩:=Wu q1 q2
  exact⟨q4,by omega,q5⟩
section
variable {h h':ah} {L:jf} {S:List Sl} {F:List (ah→Prop)} {n:Nat} {K:au}
theorem _root_.Go.Ab.Cx.ext (A:Cx h L S F) (e:Ext h h') (o:h'.Ok):Cx h' L S F:=
 ⟨o,fun x m=>e.2 _ _ (A.has x m),fun s m=>by
   rcases A.sls s m with k |⟨id,g,q,m0,hm,k⟩
   ·exact .inl k
   ·exact .inr ⟨id,g,q,m0,hm,e.2 _ _ k⟩,A.nod,fun R m=>(A.facts R m).step (Kp.ext e _)⟩
theorem _root_.Go.Ab.Cx.ownNew {m:Nat} {u:AV} {es:List (List AV)} (A:Cx h L S F) (e:Ext h h') (o:h'.Ok) (O:Own h.sz h' m u es):Cx h' L S ((fun h=>View h m u es) :: F):=by
 have B:=A.ext e o
 refine⟨B.ok,B.has,B.sls,B.nod,fun R hR=> ?_⟩
 rcases List.mem_cons.1 hR with rfl |hR
 ·intro h2 k
  rcases O with⟨rfl,rfl⟩|⟨id,r,q1,rfl,q2,q3⟩
  ·exact View.nil _ _
  ·have hn:¬id∈places L S:=fun hp=>by have:=A.pl hp;omega
   have:=k.2 id _ hn (ah.row_some.1 q2)
   exact(show Own h.sz h2 m _ es from .inr ⟨id,r,q1,rfl,ah.row_some.2 this,q3⟩).view
 ·exact B.facts R hR
def aif (s:Str) (L:jf) (S:List Sl) (F:List (ah→Prop)) (K:au):Except Nat (List Lx)→Prop
 | .ok l=>∀h u,Cx h L S ((fun h=>abk u l h) :: F)→K (.tup [u, .int .i64 0, .int .i64 0]) h=true
 | .error e=>∀h,Cx h L S F→K (.tup [.nilSlc, .int .i64 (e:Int), .int .i64 20]) h=true
theorem c7 {s:Str} (hb:∀b∈s,b<256) (hs:s.length≤60000) (hn:s.length+20≤n) (A:Cx h L S F) (H:aif s L S F K (wo s)):av E n (.func 7) [.str s] h K=true:=by
 obtain⟨n,rfl⟩:∃m,n=m+10:=⟨n-10,by omega⟩
 have hm:most=1099511627776:=rfl
 show av E (n+9+1) _ _ _ _=true
 apply d7
 unfold s7
 refine oF (Jy ?_)
 rw[decide_eq_false (by omega)]
 refine bC ?_
 refine c13 (n:=n+1) A.ok (by omega) hb (by omega) (by omega) fun v h' e o a=> ?_
 cases hl:wo s with
 |ok l=>
  rw[hl] at a H
  obtain⟨u,rfl,O⟩:=a
  refine aI rfl (jl (jh (tJ ?_)))
  exact H _ _ (A.ownNew e o O)
 |error x=>
  rw[hl] at a H
  cases a
  refine aI rfl (jl (jh (tJ ?_)))
  exact H _ (A.ext e o)
end
def Qm (d:Nat) (T U:List Lx):Prop:=∀i:Nat,(U[d+i]?).map (fun l=>(l.kind,l.text))=(T[i]?).map fun l=>(l.kind,l.text)
def Mx.mv {α:Type} (d:Nat):Mx α→Mx α
 | .ok v i o=> .ok v (d+i) o
 | .fail i=> .fail (d+i)
 | .out=> .out
theorem Qm.none {d:Nat} {T U:List Lx} (q:Qm d T U) {i:Nat} (e:T[i]? =none):U[d+i]? =none:=by
 have:=q i
 rw[e] at this
 cases h:U[d+i]? with
 |none=>rfl
 |some l=>rw[h] at this;cases this
theorem Qm.some {d:Nat} {T U:List Lx} (q:Qm d T U) {i:Nat} {l:Lx} (e:T[i]? =some l):∃m,U[d+i]? =some m∧m.kind=l.kind∧m.text=l.text:=by
 have:=q i
 rw[e] at this
 cases h:U[d+i]? with
 |none=>rw[h] at this;cases this
 |some m=>
  rw[h] at this
  simp only[Option.map_some,Option.some.injEq,Prod.mk.injEq] at this
  exact⟨m,rfl,this.1,this.2⟩
structure Te (c:List Lx→Nat→Bool):Prop where
 loc:∀T U i,i<T.length→c (T++U) i=c T i
 sf:∀T U d i,Qm d T U→c U (d+i)=c T i
theorem BL {T U:List Lx} {i:Nat} (h:i<T.length):(T++U)[i]? =T[i]? :=List.getElem?_append_left h
theorem fI (s:Str):Te fun T i=>cZ T i s:=by
 refine⟨fun T U i h=> ?_,fun T U d i q=> ?_⟩
 ·simp only[cZ,BL h]
 ·simp only[cZ]
  cases e:T[i]? with
  |none=>rw[q.none e]
  |some l=>obtain⟨m,e1,e2,e3⟩:=q.some e;rw[e1];simp only[e2,e3]
theorem Ob:Te fun T i=>ou T i:=by
 refine⟨fun T U i h=> ?_,fun T U d i q=> ?_⟩
 ·simp only[ou,BL h]
 ·simp only[ou]
  cases e:T[i]? with
  |none=>rw[q.none e]
  |some l=>obtain⟨m,e1,e2,e3⟩:=q.some e;rw[e1];simp only[e2,e3]
theorem nU (k:Nat):Te fun T i=>eB T i k:=by
 refine⟨fun T U i h=> ?_,fun T U d i q=> ?_⟩
 ·simp only[eB,BL h]
 ·simp only[eB]
  cases e:T[i]? with
  |none=>rw[q.none e]
  |some l=>obtain⟨m,e1,e2,e3⟩:=q.some e;rw[e1];simp only[e2]
theorem yJ {T U:List Lx} {i:Nat} (h:i<T.length):txt (T++U) i=txt T i:=by simp only[txt,BL h]
theorem Ea {T U:List Lx} {d i:Nat} (q:Qm d T U):txt U (d+i)=txt T i:=by
 simp only[txt]
 cases e:T[i]? with
 |none=>rw[q.none e]
 |some l=>obtain⟨m,e1,e2,e3⟩:=q.some e;rw[e1];simp only[e3]
theorem acu {a b:List Lx→Nat→Bool} (h:Te a) (k:Te b):Te fun T i=>a T i||b T i:=
 ⟨fun T U i l=>by simp only[h.loc T U i l,k.loc T U i l],fun T U d i q=>by simp only[h.sf T U d i q,k.sf T U d i q]⟩
theorem Mr {a b:List Lx→Nat→Bool} (h:Te a) (k:Te b):Te fun T i=>a T i&&b T i:=
 ⟨fun T U i l=>by simp only[h.loc T U i l,k.loc T U i l],fun T U d i q=>by simp only[h.sf T U d i q,k.sf T U d i q]⟩
theorem afd (l:List Str):Te fun T i=>l.any fun w=>cZ T i w:=by
 induction l with
 |nil=>exact⟨fun _ _ _ _=>rfl,fun _ _ _ _ _=>rfl⟩
 |cons w l ih=>exact acu (fI w) ih
theorem X7 (n:Nat):Te fun T i=>decide ((txt T i).length≤n):=⟨fun T U i h=>by simp only[yJ h],fun T U d i q=>by simp only[Ea q]⟩
theorem is_lt {T:List Lx} {i:Nat} {s:Str} (h:cZ T i s=true):i<T.length:=by
 unfold cZ at h
 cases e:T[i]? with
 |none=>rw[e] at h;cases h
 |some l=>exact(List.getElem?_eq_some_iff.1 e).1
theorem Ye {T:List Lx} {i:Nat} (h:ou T i=true):i<T.length:=by
 unfold ou at h
 cases e:T[i]? with
 |none=>rw[e] at h;cases h
 |some l=>exact(List.getElem?_eq_some_iff.1 e).1
theorem yK {T:List Lx} {i k:Nat} (h:eB T i k=true):i<T.length:=by
 unfold eB at h
 cases e:T[i]? with
 |none=>rw[e] at h;cases h
 |some l=>exact(List.getElem?_eq_some_iff.1 e).1
abbrev tN (α:Type):=Nat→List Lx→PM α
structure Gd {α:Type} (m:tN α):Prop where
 mono:∀x T i o v i' o',m x T i o= .ok v i' o'→i≤i'
 loc:∀x T U i o v i' o',m x T i o= .ok v i' o'→i'<T.length→m x (T++U) i o= .ok v i' o'
 sf:∀x T U d i o,Qm d T U→m (d+x) U (d+i) o=(m x T i o).mv d
def Cs {α:Type} (m:tN α):Prop:=∀x T i o v i' o',m x T i o= .ok v i' o'→i<i'∧i<T.length
structure KR {α:Type} (m:tN α):Prop where
 mono:∀x T i o v i' o',m x T i o= .ok v i' o'→i≤i'
 cs:Cs m
 loc:∀x T U i o v i' o',m x T i o= .ok v i' o'→m x (T++U) i o= .ok v i' o'
 sf:∀x T U d i o,Qm d T U→m (d+x) U (d+i) o=(m x T i o).mv d
theorem KR.gd {α:Type} {m:tN α} (h:KR m):Gd m:=⟨h.mono,fun x T U i o v i' o' e _=>h.loc x T U i o v i' o' e,h.sf⟩
section
variable {α β:Type}
theorem bO {v:α}:Gd fun _ _=>ret v:=⟨fun _ _ _ _ _ _ _ e=>by cases e;exact Nat.le_refl _,fun _ _ _ _ _ _ _ _ e _=>e,fun _ _ _ _ _ _ _=>rfl⟩
theorem kZ:Gd fun _ _=>(tC:PM α):=⟨fun _ _ _ _ _ _ _ e=>(by cases e),fun _ _ _ _ _ _ _ _ e _=>(by cases e),fun _ _ _ _ _ _ _=>rfl⟩
theorem abP:Gd fun x _=>(Ug x:PM α):=⟨fun _ _ _ _ _ _ _ e=>(by cases e),fun _ _ _ _ _ _ _ _ e _=>(by cases e),fun _ _ _ _ _ _ _=>rfl⟩
theorem Ro {m:PM α} {g:α→PM β} {i:Nat} {o:Int} {v:β} {i':Nat} {o':Int} (h:bnd m g i o= .ok v i' o'):∃w i1 o1,m i o= .ok w i1 o1∧g w i1 o1= .ok v i' o':=by
 unfold bnd at h
 cases e:m i o with
 |ok w i1 o1=>rw[e] at h;exact⟨w,i1,o1,rfl,h⟩
 |fail x=>rw[e] at h;cases h
 |out=>rw[e] at h;cases h
theorem Zn {m:PM α} {g:α→PM β} {i:Nat} {o:Int} {w:α} {i1:Nat} {o1:Int} (h:m i o= .ok w i1 o1):bnd m g i o=g w i1 o1:=by unfold bnd;rw[h]
theorem ae0 {m:tN α} {g:α→tN β} (h:∀x T U d i o,Qm d T U→m (d+x) U (d+i) o=(m x T i o).mv d) (k:∀v x T U d i o,Qm d T U→g v (d+x) U (d+i) o=(g v x T i o).mv d) {x:Nat} {T U:List Lx} {d i:Nat} {o:Int} (q:Qm d T U):bnd (m (d+x) U) (fun v=>g v (d+x) U) (d+i) o=(bnd (m x T) (fun v=>g v x T) i o).mv d:=by
 unfold bnd
 rw[h x T U d i o q]
 cases m x T i o with
 |ok w i1 o1=>exact k w x T U d i1 o1 q
 |fail x=>rfl
 |out=>rfl
theorem aP {m:tN α} {g:α→tN β} (h:Gd m) (k:∀v,Gd (g v)):Gd fun x T=>bnd (m x T) fun v=>g v x T:=by
 refine⟨fun x T i o v i' o' e=> ?_,fun x T U i o v i' o' e hl=> ?_,fun x T U d i o q=>ae0 h.sf (fun v=>(k v).sf) q⟩
 ·obtain⟨w,i1,o1,e1,e2⟩:=Ro e
  exact Nat.le_trans (h.mono _ _ _ _ _ _ _ e1) ((k w).mono _ _ _ _ _ _ _ e2)
 ·obtain⟨w,i1,o1,e1,e2⟩:=Ro e
  have:=(k w).mono _ _ _ _ _ _ _ e2
  show bnd (m x (T++U)) (fun v=>g v x (T++U)) i o=_
  rw[Zn (h.loc x T U _ _ _ _ _ e1 (by omega))]
  exact(k w).loc x T U _ _ _ _ _ e2 hl
theorem iY {m:tN α} {g:α→tN β} (h:Cs m) (k:∀v,Gd (g v)):Cs fun x T=>bnd (m x T) fun v=>g v x T:=by
 intro x T i o v i' o' e
 obtain⟨w,i1,o1,e1,e2⟩:=Ro e
 have h1:=h _ _ _ _ _ _ _ e1
 have h2:=(k w).mono _ _ _ _ _ _ _ e2
 omega
theorem Ux {m:tN α} {g:α→tN β} (h:Gd m) (k:∀v,Cs (g v)):Cs fun x T=>bnd (m x T) fun v=>g v x T:=by
 intro x T i o v i' o' e
 obtain⟨w,i1,o1,e1,e2⟩:=Ro e
 have h1:=h.mono _ _ _ _ _ _ _ e1
 have h2:=k w _ _ _ _ _ _ _ e2
 omega
theorem lu {m:tN α} {g:α→tN β} (h:Gd m) (k:∀v,KR (g v)):KR fun x T=>bnd (m x T) fun v=>g v x T:=by
 refine⟨(aP h fun v=>(k v).gd).mono,Ux h fun v=>(k v).cs,fun x T U i o v i' o' e=> ?_,(aP h fun v=>(k v).gd).sf⟩
 obtain⟨w,i1,o1,e1,e2⟩:=Ro e
 have h2:=(k w).cs _ _ _ _ _ _ _ e2
 show bnd (m x (T++U)) (fun v=>g v x (T++U)) i o=_
 rw[Zn (h.loc x T U _ _ _ _ _ e1 h2.2)]
 exact(k w).loc x T U _ _ _ _ _ e2
theorem xD {m:tN α} {f:α→β} (h:KR m):KR fun x T=>bnd (m x T) fun v=>ret (f v):=by
 have h2:=aP h.gd fun v=>bO (v:=f v)
 refine⟨h2.mono,iY h.cs fun v=>bO (v:=f v),fun x T U i o v i' o' e=> ?_,h2.sf⟩
 obtain⟨w,i1,o1,e1,e2⟩:=Ro e
 show bnd (m x (T++U)) (fun v=>ret (f v)) i o=_
 rw[Zn (h.loc x T U _ _ _ _ _ e1)]
 exact e2
theorem sG {c:List Lx→Nat→Bool} {m1 m2:tN α} (t:Te c) (h1:Gd m1) (h2:Gd m2):Gd fun x T i o=>if c T i=true then m1 x T i o else m2 x T i o:=by
 refine⟨fun x T i o v i' o' e=> ?_,fun x T U i o v i' o' e hl=> ?_,fun x T U d i o q=> ?_⟩
 ·try simp only at e
  split at e
  ·exact h1.mono _ _ _ _ _ _ _ e
  ·exact h2.mono _ _ _ _ _ _ _ e
 ·try simp only at e ⊢
  have hi:i<T.length:=by
   split at e
   ·exact Nat.lt_of_le_of_lt (h1.mono _ _ _ _ _ _ _ e) hl
   ·exact Nat.lt_of_le_of_lt (h2.mono _ _ _ _ _ _ _ e) hl
  rw[t.loc T U i hi]
  split at e
  ·rename_i hc;rw[if_pos hc];exact h1.loc _ _ _ _ _ _ _ _ e hl
  ·rename_i hc;rw[if_neg hc];exact h2.loc _ _ _ _ _ _ _ _ e hl
 ·try simp only
  rw[t.sf T U d i q]
  split
  ·exact h1.sf _ _ _ _ _ _ q
  ·exact h2.sf _ _ _ _ _ _ q
theorem Fv {c:List Lx→Nat→Bool} {m1 m2:tN α} (h1:Cs m1) (h2:Cs m2):Cs fun x T i o=>if c T i=true then m1 x T i o else m2 x T i o:=by
 intro x T i o v i' o' e
 try simp only at e
 split at e
 ·exact h1 _ _ _ _ _ _ _ e
 ·exact h2 _ _ _ _ _ _ _ e
theorem Ru {a b:List Lx→Nat→Bool} {f:Bool→Bool→Bool} {m1 m2:tN α} (ta:Te a) (tb:Te b) (h1:Gd m1) (h2:Gd m2) (k1:Cs m1) (k2:Cs m2):Gd fun x T i o=>if f (a T i) (b T (i+1))=true then m1 x T i o else m2 x T i o:=by
 refine⟨fun x T i o v i' o' e=> ?_,fun x T U i o v i' o' e hl=> ?_,fun x T U d i o q=> ?_⟩
 ·try simp only at e
  split at e
  ·exact h1.mono _ _ _ _ _ _ _ e
  ·exact h2.mono _ _ _ _ _ _ _ e
 ·try simp only at e ⊢
  have hi:i+1<T.length:=by
   split at e
   ·exact Nat.lt_of_le_of_lt (k1 _ _ _ _ _ _ _ e).1 hl
   ·exact Nat.lt_of_le_of_lt (k2 _ _ _ _ _ _ _ e).1 hl
  rw[ta.loc T U i (by omega),tb.loc T U (i+1) hi]
  split at e
  ·rename_i hc;rw[if_pos hc];exact h1.loc _ _ _ _ _ _ _ _ e hl
  ·rename_i hc;rw[if_neg hc];exact h2.loc _ _ _ _ _ _ _ _ e hl
 ·try simp only
  rw[ta.sf T U d i q,Nat.add_assoc,tb.sf T U d (i+1) q]
  split
  ·exact h1.sf _ _ _ _ _ _ q
  ·exact h2.sf _ _ _ _ _ _ q
theorem fT {c:List Lx→Nat→Bool} {m1 m2:tN α} (t:Te c) (h1:Gd m1) (h2:Gd m2):Gd fun x T i o=>if c T i=true then m1 x T (i+1) o else m2 x T i o:=by
 refine sG (m1:=fun x T i o=>m1 x T (i+1) o) t ⟨fun x T i o v i' o' e=> ?_,fun x T U i o v i' o' e hl=>h1.loc _ _ _ _ _ _ _ _ e hl,fun x T U d i o q=> ?_⟩ h2
 ·have:=h1.mono _ _ _ _ _ _ _ e;omega
 ·exact h1.sf x T U d (i+1) o q
theorem kI {c:List Lx→Nat→Bool} {m1 m2:tN α} (l:∀T i,c T i=true→i<T.length) (h1:Gd m1) (h2:Cs m2):Cs fun x T i o=>if c T i=true then m1 x T (i+1) o else m2 x T i o:=by
 intro x T i o v i' o' e
 try simp only at e
 split at e
 ·rename_i hc
  have:=h1.mono _ _ _ _ _ _ _ e
  exact⟨by omega,l _ _ hc⟩
 ·exact h2 _ _ _ _ _ _ _ e
theorem Am {m:tN α} (h:Gd m):Gd fun _ T i o=>m i T i o:=
 ⟨fun x T i o v i' o' e=>h.mono _ _ _ _ _ _ _ e,fun x T U i o v i' o' e hl=>h.loc _ _ _ _ _ _ _ _ e hl,fun x T U d i o q=>h.sf _ _ _ _ _ _ q⟩
theorem MB {m:tN α} (h:Cs m):Cs fun _ T i o=>m i T i o:=fun x T i o v i' o' e=>h _ _ _ _ _ _ _ e
end
theorem vE (w:Str):Gd fun _ T=>fq T w:=by
 have:=fT (fI w) (bO (v:=true)) (bO (v:=false))
 exact this
theorem Ud {T:List Lx} {w:Str} {i:Nat} {o:Int}:dI T w i o=if cZ T i w=true then .ok () (i+1) o else .fail i:=by
 unfold dI bnd fq
 by_cases h:cZ T i w=true
 ·rw[if_pos h,if_pos h];rfl
 ·rw[if_neg h,if_neg h];rfl
theorem GQ {α:Type}:Gd fun _ _ i _=>(.fail i:Mx α):=⟨fun _ _ _ _ _ _ _ e=>(by cases e),fun _ _ _ _ _ _ _ _ e _=>(by cases e),fun _ _ _ _ _ _ _=>rfl⟩
theorem Zf {α:Type}:Cs fun _ _ i _=>(.fail i:Mx α):=fun _ _ _ _ _ _ _ e=>by cases e
theorem wT (w:Str):KR fun _ T=>dI T w:=by
 have e:(fun(_:Nat) T=>dI T w)=fun _ T i o=>if cZ T i w=true then .ok () (i+1) o else .fail i:=by
  funext x T i o;exact Ud
 rw[e]
 have h:=fT (fI w) (bO (v:=())) GQ
 refine⟨h.mono,kI (fun _ _=>is_lt) bO Zf,fun x T U i o v i' o' e=> ?_,h.sf⟩
 try simp only at e ⊢
 split at e
 ·rename_i hc
  rw[(fI w).loc T U i (is_lt hc),if_pos hc];exact e
 ·cases e
theorem dL (w:Str):Gd fun _ T=>dI T w:=(wT w).gd
theorem BK (w:Str):Cs fun _ T=>dI T w:=(wT w).cs
theorem xI {α:Type} {c:List Lx→Nat→Bool} (t:Te c) (l:∀T i,c T i=true→i<T.length) (f:Str→α):KR fun _ T i o=>if c T i=true then .ok (f (txt T i)) (i+1) o else(.fail i:Mx α):=by
 refine⟨fun x T i o v i' o' e=> ?_,fun x T i o v i' o' e=> ?_,fun x T U i o v i' o' e=> ?_,fun x T U d i o q=> ?_⟩
 ·(try simp only at e);split at e<;>cases e;omega
 ·(try simp only at e);split at e<;>cases e;exact⟨by omega,l _ _ (by assumption)⟩
 ·try simp only at e ⊢
  split at e
  ·rename_i hc
   rw[t.loc T U i (l _ _ hc),if_pos hc,yJ (l _ _ hc)];exact e
  ·cases e
 ·try simp only
  rw[t.sf T U d i q,Ea q]
  split<;>rfl
theorem eu:KR fun _ T=>fZ T:=xI (Mr Ob (X7 64)) (fun T i h=>Ye (by simp only[Bool.and_eq_true] at h;exact h.1)) id
theorem iX:KR fun _ T=>og T:=xI (Mr (nU 1) (X7 64)) (fun T i h=>yK (by simp only[Bool.and_eq_true] at h;exact h.1)) id
theorem l5:KR fun _ T=>jS T:=xI (nU 3) (fun T i h=>yK h) id
theorem Bp:Gd fun x _=>iR x:=by
 refine⟨fun x T i o v i' o' e=> ?_,fun x T U i o v i' o' e _=>e,fun x T U d i o q=> ?_⟩
 ·simp only[iR] at e;split at e<;>cases e;exact Nat.le_refl _
 ·simp only[iR];split<;>rfl
theorem BQ:Gd fun _ _=>mV:=⟨fun _ _ _ _ _ _ _ e=>(by cases e;exact Nat.le_refl _),fun _ _ _ _ _ _ _ _ e _=>e,fun _ _ _ _ _ _ _=>rfl⟩
theorem eZ (w:Str):Gd fun _ T=>eP T w:=Am (m:=fun x T=>bnd (dI T w) fun _=>iR x) (aP (dL w) fun _=>Bp)
theorem ng (w:Str):Cs fun _ T=>eP T w:=MB (m:=fun x T=>bnd (dI T w) fun _=>iR x) (iY (BK w) fun _=>Bp)
theorem dY (w:Str):KR fun _ T=>dD T w:=by
 have h:=aP (dL w) fun _=>BQ
 refine⟨h.mono,iY (BK w) fun _=>BQ,fun x T U i o v i' o' e=> ?_,h.sf⟩
 obtain⟨u,i1,o1,e1,e2⟩:=Ro e
 show bnd (dI (T++U) w) (fun _=>mV) i o=_
 rw[Zn ((wT w).loc x T U _ _ _ _ _ e1)]
 exact e2
theorem qF (e:Ex) (l:List Bt):Gd fun x _=>gB x e l:=by
 unfold gB
 split
 ·exact abP
 ·exact bO
section
variable {σ:Type}
theorem Bl {w:Str} {one:σ→tN σ} (h:∀s,Gd (one s)):∀(k:Nat) (first:Bool) (s:σ),Gd fun x T=>tQ T w (fun s=>one s x T) k first s
 |0,_,_=>kZ
 |k+1,true,s=>sG (fI w) bO (aP (h s) fun v=>Bl h k false v)
 |k+1,false,s=>fT (fI [44]) (aP (h s) fun v=>Bl h k false v) bO
theorem mY {w:Str} {one:σ→tN σ} (h:∀s,Gd (one s)) (k:Nat) (s:σ):KR fun x T=>gM T w (fun s=>one s x T) k s:=
 lu (Bl h k true s) fun v=>xD (f:=fun _=>v) (dY w)
end
structure GdX (k:Nat):Prop where
 level:∀lv,Gd fun _ T=>bD T k lv
 levelC:∀lv,Cs fun _ T=>bD T k lv
 ops:∀lv e,Gd fun _ T=>mQ T k lv e
 sign:Gd fun _ T=>iV T k
 signC:Cs fun _ T=>iV T k
 post:Gd fun _ T=>qE T k
 postC:Cs fun _ T=>qE T k
 dots:∀e,Gd fun _ T=>oD T k e
 atom:Gd fun _ T=>oJ T k
 atomC:Cs fun _ T=>oJ T k
theorem XK {α:Type} {c:List Lx→Nat→Bool} {m1:Str→tN α} {m2:tN α} (t:Te c) (h1:∀s,Gd (m1 s)) (h2:Gd m2):Gd fun x T i o=>if c T i=true then m1 (txt T i) x T (i+1) o else m2 x T i o:=by
 refine⟨fun x T i o v i' o' e=> ?_,fun x T U i o v i' o' e hl=> ?_,fun x T U d i o q=> ?_⟩
 ·try simp only at e
  split at e
  ·have:=(h1 _).mono _ _ _ _ _ _ _ e;omega
  ·exact h2.mono _ _ _ _ _ _ _ e
 ·try simp only at e ⊢
  have hi:i<T.length:=by
   split at e
   ·have:=(h1 _).mono _ _ _ _ _ _ _ e;omega
   ·exact Nat.lt_of_le_of_lt (h2.mono _ _ _ _ _ _ _ e) hl
  rw[t.loc T U i hi,yJ hi]
  split at e
  ·rename_i hc;rw[if_pos hc];exact(h1 _).loc _ _ _ _ _ _ _ _ e hl
  ·rename_i hc;rw[if_neg hc];exact h2.loc _ _ _ _ _ _ _ _ e hl
 ·try simp only
  rw[t.sf T U d i q,Ea q]
  split
  ·exact(h1 _).sf x T U d (i+1) o q
  ·exact h2.sf _ _ _ _ _ _ q
def opB (T:List Lx) (i lv:Nat):Bool:=match T[i]? with
 |none=>false
 |some l=>(uz lv l.text).isSome&&decide (l.kind=4)
theorem agj (lv:Nat):Te fun T i=>opB T i lv:=by
 refine⟨fun T U i h=> ?_,fun T U d i q=> ?_⟩
 ·simp only[opB,BL h]
 ·simp only[opB]
  cases e:T[i]? with
  |none=>rw[q.none e]
  |some l=>obtain⟨m,e1,e2,e3⟩:=q.some e;rw[e1];simp only[e2,e3]
theorem agP {T:List Lx} {i lv:Nat} (h:opB T i lv=true):i<T.length:=by
 unfold opB at h
 cases e:T[i]? with
 |none=>rw[e] at h;cases h
 |some l=>exact(List.getElem?_eq_some_iff.1 e).1
theorem Zd {T:List Lx} {k lv:Nat} {e:Bt} {i:Nat} {o:Int}:mQ T (k+1) lv e i o=if opB T i lv=true then bnd (bD T k (lv+1)) (fun b=>bnd (gB i (iT ((uz lv (txt T i)).getD 0) []) [e,b]) fun e'=>if lv=2 then ret e' else mQ T k lv e') (i+1) o else .ok e i o:=by
 show(match T[i]? with
  |none=>Mx.ok e i o
  |some l=>match uz lv l.text with
   |none=> .ok e i o
   |some op=>if l.kind=4 then bnd (bD T k (lv+1)) (fun b=>bnd (gB i (iT op []) [e,b]) fun e'=>if lv=2 then ret e' else mQ T k lv e') (i+1) o else .ok e i o)=_
 unfold opB txt
 cases h:T[i]? with
 |none=>rfl
 |some l=>
  simp only
  cases hp:uz lv l.text with
  |none=>rfl
  |some op=>
   by_cases h4:l.kind=4
   ·simp only[h4,if_true,Option.isSome,decide_true,Bool.and_true,Option.getD]
   ·simp only[h4,if_false,Option.isSome,decide_false,Bool.and_false];rfl
def Rz (T:List Lx) (i:Nat):Bool:=match pI (txt T i) with
 |some (some _)=>true
 |_=>false
theorem aef:Te fun T i=>Rz T i:=⟨fun T U i h=>by simp only[Rz,yJ h],fun T U d i q=>by simp only[Rz,Ea q]⟩
def JV (t:Str):Int:=match pI t with
 |some (some n)=>n
 |_=>0
theorem L9 (k:Nat):(fun(_:Nat) T=>oJ T (k+1))=fun(_:Nat) T i o=>(fun(x:Nat) T i o=>
 if eB T i 2=true then(if(eB T i 2&&Rz T i)=true then .ok (lit (.mk 2 false (JV (txt T i)) [] [])) (i+1) o else(.fail i:Mx Bt))
 else if eB T i 3=true then(fun s (_:Nat) (_:List Lx)=>ret (lit (.mk 3 false 0 s []))) (txt T i) x T (i+1) o
 else if cZ T i [116,114,117,101]=true then ret (lit (.mk 1 true 0 [] [])) (i+1) o
 else if cZ T i [102,97,108,115,101]=true then ret (lit (.mk 1 false 0 [] [])) (i+1) o
 else if cZ T i [110,117,108,108]=true then ret (lit SE) (i+1) o
 else if eB T i 1=true then(bnd (og T) fun t=>ret (⟨iT 2 t,1⟩:Bt)) i o
 else if cZ T i [40]=true then(bnd (eP T [40]) fun _=>bnd (bD T k 0) fun e=>bnd (dD T [41]) fun _=>ret e) i o
 else if cZ T i [91]=true then(bnd (eP T [91]) fun _=>bnd (gM T [93] (fun l=>bnd (bD T k 0) fun b=>ret (l++[b])) k []) fun l=>gB x (iT 5 []) l) i o
 else if cZ T i [115,105,122,101]=true then(bnd (eP T [40]) fun _=>bnd (bD T k 0) fun e=>bnd (dD T [41]) fun _=>gB x (iT 21 []) [e]) (i+1) o
 else if cZ T i [104,97,115]=true then(bnd (eP T [40]) fun _=>bnd (bD T k 0) fun a=>bnd (dI T [44]) fun _=>bnd (bD T k 0) fun b=>bnd (dD T [41]) fun _=>gB x (iT 22 []) [a,b]) (i+1) o
 else(bnd (fZ T) fun t=>ret (⟨iT 3 t,1⟩:Bt)) i o) i T i o:=by
 funext x T i o
 unfold oJ
 by_cases h2:eB T i 2=true
 ·simp only[if_pos h2,h2,Rz,JV,Bool.true_and]
  cases hp:pI (txt T i) with
  |none=>rfl
  |some r=>cases r<;>rfl
 ·simp only[if_neg h2];rfl
theorem gdx:∀k,GdX k
 |0=>⟨fun _=>kZ,fun _ _ _ _ _ _ _ _ e=>(by cases e),fun _ _=>kZ,kZ,fun _ _ _ _ _ _ _ e=>(by cases e),kZ,fun _ _ _ _ _ _ _ e=>(by cases e),fun _=>kZ,kZ,fun _ _ _ _ _ _ _ e=>(by cases e)⟩
 |k+1=>by
  have W:=gdx k
  have post:Gd fun _ T=>qE T (k+1):=aP (m:=fun _ T=>oJ T k) (g:=fun v _ T=>oD T k v) W.atom fun v=>W.dots v
  have postC:Cs fun _ T=>qE T (k+1):=iY (m:=fun _ T=>oJ T k) (g:=fun v _ T=>oD T k v) W.atomC fun v=>W.dots v
  have s1:∀op,Gd fun x T=>bnd (iR x) fun _=>bnd (iV T k) fun e=>bnd mV fun _=>gB x (iT op []) [e]:=fun op=>aP Bp fun _=>aP W.sign fun e=>aP BQ fun _=>qF _ _
  have sign:Gd fun _ T=>iV T (k+1):=Am (m:=fun x T i o=>if cZ T i [45]=true then bnd (iR x) (fun _=>bnd (iV T k) fun e=>bnd mV fun _=>gB x (iT 6 []) [e]) (i+1) o
   else if cZ T i [33]=true then bnd (iR x) (fun _=>bnd (iV T k) fun e=>bnd mV fun _=>gB x (iT 7 []) [e]) (i+1) o else qE T k i o) (fT (fI _) (s1 6) (fT (fI _) (s1 7) W.post))
  have signC:Cs fun _ T=>iV T (k+1):=MB (m:=fun x T i o=>if cZ T i [45]=true then bnd (iR x) (fun _=>bnd (iV T k) fun e=>bnd mV fun _=>gB x (iT 6 []) [e]) (i+1) o
   else if cZ T i [33]=true then bnd (iR x) (fun _=>bnd (iV T k) fun e=>bnd mV fun _=>gB x (iT 7 []) [e]) (i+1) o else qE T k i o) (kI (fun _ _=>is_lt) (s1 6) (kI (fun _ _=>is_lt) (s1 7) W.postC))
  have ops:∀lv e,Gd fun _ T=>mQ T (k+1) lv e:=by
   intro lv e
   have h:=Am (XK (m1:=fun s x T=>bnd (bD T k (lv+1)) (fun b=>bnd (gB x (iT ((uz lv s).getD 0) []) [e,b]) fun e'=>if lv=2 then ret e' else mQ T k lv e')) (m2:=fun _ _=>ret e) (agj lv)
    (fun s=>aP (m:=fun _ T=>bD T k (lv+1)) (W.level _) fun b=>aP (qF _ _) (g:=fun e' _ T=>if lv=2 then ret e' else mQ T k lv e') fun e'=>by
      by_cases h2:lv=2
      ·simp only[if_pos h2];exact bO
      ·simp only[if_neg h2];exact W.ops lv e') bO)
   refine(funext fun x=>funext fun T=>funext fun i=>funext fun o=> ?_:(fun(_:Nat) T=>mQ T (k+1) lv e)=_)▸h
   exact Zd
  have dots:∀e,Gd fun _ T=>oD T (k+1) e:=fun e=>Am (m:=fun x T i o=>if cZ T i [46]=true then bnd (fZ T) (fun t=>bnd (gB x (iT 4 t) [e]) (oD T k)) (i+1) o else .ok e i o)
   (fT (fI _) (aP eu.gd fun t=>aP (qF _ _) (g:=fun e' _ T=>oD T k e') fun e'=>W.dots e') bO)
  have a0:KR fun _ T i o=>if(eB T i 2&&Rz T i)=true then .ok (lit (.mk 2 false (JV (txt T i)) [] [])) (i+1) o else(.fail i:Mx Bt):=xI (Mr (nU 2) aef) (fun T i h=>yK (by simp only[Bool.and_eq_true] at h;exact h.1)) fun t=>lit (.mk 2 false (JV t) [] [])
  have a1:Gd fun _ T=>bnd (eP T [40]) fun _=>bnd (bD T k 0) fun e=>bnd (dD T [41]) fun _=>ret e:=aP (eZ _) fun _=>aP (m:=fun _ T=>bD T k 0) (W.level 0) fun e=>aP (dY _).gd fun _=>bO
  have a1C:Cs fun _ T=>bnd (eP T [40]) fun _=>bnd (bD T k 0) fun e=>bnd (dD T [41]) fun _=>ret e:=iY (ng _) fun _=>aP (m:=fun _ T=>bD T k 0) (W.level 0) fun e=>aP (dY _).gd fun _=>bO
  have li:Gd fun _ T=>gM T [93] (fun l=>bnd (bD T k 0) fun b=>ret (l++[b])) k []:=(mY (one:=fun l _ T=>bnd (bD T k 0) fun b=>ret (l++[b])) (fun l=>aP (m:=fun _ T=>bD T k 0) (W.level 0) fun b=>bO) k []).gd
  have a2:Gd fun x T=>bnd (eP T [91]) fun _=>bnd (gM T [93] (fun l=>bnd (bD T k 0) fun b=>ret (l++[b])) k []) fun l=>gB x (iT 5 []) l:=aP (eZ _) fun _=>aP li fun l=>qF _ _
  have a2C:Cs fun x T=>bnd (eP T [91]) fun _=>bnd (gM T [93] (fun l=>bnd (bD T k 0) fun b=>ret (l++[b])) k []) fun l=>gB x (iT 5 []) l:=iY (ng _) fun _=>aP li fun l=>qF _ _
  have a3:Gd fun x T=>bnd (eP T [40]) fun _=>bnd (bD T k 0) fun e=>bnd (dD T [41]) fun _=>gB x (iT 21 []) [e]:=aP (eZ _) fun _=>aP (m:=fun _ T=>bD T k 0) (W.level 0) fun e=>aP (dY _).gd fun _=>qF _ _
  have a4:Gd fun x T=>bnd (eP T [40]) fun _=>bnd (bD T k 0) fun a=>bnd (dI T [44]) fun _=>bnd (bD T k 0) fun b=>bnd (dD T [41]) fun _=>gB x (iT 22 []) [a,b]:=aP (eZ _) fun _=>aP (m:=fun _ T=>bD T k 0) (W.level 0) fun e=>aP (dL _) fun _=>aP (m:=fun _ T=>bD T k 0) (W.level 0) fun b=>aP (dY _).gd fun _=>qF _ _
  have a5:Gd fun _ T=>bnd (og T) fun t=>ret (⟨iT 2 t,1⟩:Bt):=aP iX.gd fun _=>bO
  have a5C:Cs fun _ T=>bnd (og T) fun t=>ret (⟨iT 2 t,1⟩:Bt):=iY iX.cs fun _=>bO
  have a6:Gd fun _ T=>bnd (fZ T) fun t=>ret (⟨iT 3 t,1⟩:Bt):=aP eu.gd fun _=>bO
  have a6C:Cs fun _ T=>bnd (fZ T) fun t=>ret (⟨iT 3 t,1⟩:Bt):=iY eu.cs fun _=>bO
  have cst:∀(T:List Lx) i,eB T i 3=true→i<T.length:=fun _ _=>yK
  have cT:∀{c:List Lx→Nat→Bool} {m1:Str→tN Bt} {m2:tN Bt},(∀T i,c T i=true→i<T.length)→(∀s,Gd (m1 s))→Cs m2→Cs fun x T i o=>if c T i=true then m1 (txt T i) x T (i+1) o else m2 x T i o:=by
   intro c m1 m2 l h1 h2 x T i o v i' o' e
   try simp only at e
   split at e
   ·rename_i hc
    have:=(h1 _).mono _ _ _ _ _ _ _ e
    exact⟨by omega,l _ _ hc⟩
   ·exact h2 _ _ _ _ _ _ _ e
  have atom:Gd fun _ T=>oJ T (k+1):=by
   rw[L9]
   exact Am (sG (nU 2) a0.gd (XK (m1:=fun s _ _=>ret (lit (.mk 3 false 0 s []))) (nU 3) (fun _=>bO) (fT (fI _) bO (fT (fI _) bO (fT (fI _) bO (sG (nU 1) a5 (sG (fI _) a1 (sG (fI _) a2 (fT (fI _) a3 (fT (fI _) a4 a6))))))))))
  have atomC:Cs fun _ T=>oJ T (k+1):=by
   rw[L9]
   exact MB (Fv a0.cs (cT (m1:=fun s _ _=>ret (lit (.mk 3 false 0 s []))) cst (fun _=>bO) (kI (fun _ _=>is_lt) bO (kI (fun _ _=>is_lt) bO (kI (fun _ _=>is_lt) bO (Fv a5C (Fv a1C (Fv a2C (kI (fun _ _=>is_lt) a3 (kI (fun _ _=>is_lt) a4 a6C))))))))))
  refine⟨fun lv=> ?_,fun lv=> ?_,ops,sign,signC,post,postC,dots,atom,atomC⟩
  ·by_cases h5:lv=5
   ·refine(funext fun x=>funext fun T=> ?_:(fun(_:Nat) T=>bD T (k+1) lv)=fun _ T=>iV T k)▸W.sign
    show(if lv=5 then iV T k else bnd (bD T k (lv+1)) (mQ T k lv))=_;rw[if_pos h5]
   ·refine(funext fun x=>funext fun T=> ?_:(fun(_:Nat) T=>bD T (k+1) lv)=fun _ T=>bnd (bD T k (lv+1)) (mQ T k lv))▸aP (m:=fun _ T=>bD T k (lv+1)) (g:=fun v _ T=>mQ T k lv v) (W.level _) fun v=>W.ops lv v
    show(if lv=5 then iV T k else bnd (bD T k (lv+1)) (mQ T k lv))=_;rw[if_neg h5]
  ·by_cases h5:lv=5
   ·refine(funext fun x=>funext fun T=> ?_:(fun(_:Nat) T=>bD T (k+1) lv)=fun _ T=>iV T k)▸W.signC
    show(if lv=5 then iV T k else bnd (bD T k (lv+1)) (mQ T k lv))=_;rw[if_pos h5]
   ·refine(funext fun x=>funext fun T=> ?_:(fun(_:Nat) T=>bD T (k+1) lv)=fun _ T=>bnd (bD T k (lv+1)) (mQ T k lv))▸iY (m:=fun _ T=>bD T k (lv+1)) (g:=fun v _ T=>mQ T k lv v) (W.levelC _) fun v=>W.ops lv v
    show(if lv=5 then iV T k else bnd (bD T k (lv+1)) (mQ T k lv))=_;rw[if_neg h5]
theorem jK (k:Nat):Gd fun _ T=>iM T k:=aP (m:=fun _ T=>bD T k 0) ((gdx k).level 0) fun _=>bO
theorem TG (k:Nat):Cs fun _ T=>iM T k:=iY (m:=fun _ T=>bD T k 0) ((gdx k).levelC 0) fun _=>bO
theorem Mf {α:Type} {b:Bool} {m1 m2:tN α} (h1:Gd m1) (h2:Gd m2):Gd fun x T=>if b=true then m1 x T else m2 x T:=by
 cases b
 ·exact h2
 ·exact h1
theorem Cq (k:Nat) (l:List (Str×Ex)):Gd fun _ T=>rW T k l:=
 Ru (f:=fun a b=>a&&b) (nU 1) (fI [63]) (m1:=fun _ T=>bnd (og T) fun v=>bnd (dI T [63]) fun _=>ret (l++[(v,uJ)])) (m2:=fun _ T=>bnd (iM T k) fun e=>ret (l++[([],e)]))
  (aP iX.gd fun _=>aP (dL _) fun _=>bO) (aP (jK k) fun _=>bO) (iY iX.cs fun _=>aP (dL _) fun _=>bO) (iY (TG k) fun _=>bO)
theorem Yh (k:Nat):Gd fun _ T=>Y4 T k:=
 aP eu.gd fun _=>aP (eZ _) fun _=>aP (m:=fun _ T=>gM T [41] (rW T k) k []) (mY (one:=fun l _ T=>rW T k l) (Cq k) k []).gd fun _=>bO
theorem yc (k:Nat) (s:List (Str×Str)×List Ex):Gd fun _ T=>o7 T k s:=
 Ru (f:=fun a b=>a&&b) (nU 1) (fI [58]) (m1:=fun _ T=>bnd (og T) fun v=>bnd (dI T [58]) fun _=>bnd (fZ T) fun f=>ret (s.1++[(v,f)],s.2)) (m2:=fun _ T=>bnd (iM T k) fun e=>ret (s.1,s.2++[e]))
  (aP iX.gd fun _=>aP (dL _) fun _=>aP eu.gd fun _=>bO) (aP (jK k) fun _=>bO) (iY iX.cs fun _=>aP (dL _) fun _=>aP eu.gd fun _=>bO) (iY (TG k) fun _=>bO)
theorem zq (k:Nat) (v:Str):Gd fun _ T=>mE T k v:=
 aP eu.gd fun _=>aP (eZ _) fun _=>aP (m:=fun _ T=>gM T [41] (o7 T k) k ([],[])) (mY (one:=fun l _ T=>o7 T k l) (yc k) k ([],[])).gd fun _=>bO
theorem Rv (k:Nat) (v:Str):Cs fun _ T=>mE T k v:=
 iY eu.cs fun _=>aP (eZ _) fun _=>aP (m:=fun _ T=>gM T [41] (o7 T k) k ([],[])) (mY (one:=fun l _ T=>o7 T k l) (yc k) k ([],[])).gd fun _=>bO
theorem ad3 (k:Nat):Gd fun _ T=>Q5 T k:=
 sG (nU 1) (m1:=fun _ T=>bnd (og T) fun v=>bnd (dI T [58]) fun _=>mE T k v) (m2:=fun _ T=>mE T k []) (aP iX.gd fun v=>aP (dL _) fun _=>zq k v) (zq k [])
theorem Yr (k:Nat):Cs fun _ T=>Q5 T k:=
 Fv (c:=fun T i=>eB T i 1) (m1:=fun _ T=>bnd (og T) fun v=>bnd (dI T [58]) fun _=>mE T k v) (m2:=fun _ T=>mE T k []) (iY iX.cs fun v=>aP (dL _) fun _=>zq k v) (Rv k [])
structure GdC (k:Nat):Prop where
 conds:∀ends acc,Gd fun _ T=>jq T k ends acc
 some:∀ends,Gd fun _ T=>iP T k ends
 someC:∀ends,Cs fun _ T=>iP T k ends
 block:Gd fun _ T=>nD T k
 blockC:Cs fun _ T=>nD T k
 alts:∀acc,Gd fun _ T=>sU T k acc
 or:Gd fun _ T=>orM T k
 orC:Cs fun _ T=>orM T k
 acc:Gd fun _ T=>JN T k
 accC:Cs fun _ T=>JN T k
 cond:Gd fun _ T=>sN T k
 condC:Cs fun _ T=>sN T k
theorem CW {α:Type}:Cs fun _ _=>(tC:PM α):=fun _ _ _ _ _ _ _ e=>by cases e
theorem gdc:∀k,GdC k
 |0=>⟨fun _ _=>kZ,fun _=>kZ,fun _=>CW,kZ,CW,fun _=>kZ,kZ,CW,kZ,CW,kZ,CW⟩
 |k+1=>by
  have W:=gdc k
  have some:∀ends,Gd fun _ T=>iP T (k+1) ends:=fun ends=>aP (m:=fun _ T=>sN T k) W.cond fun c=>aP (m:=fun _ T=>jq T k ends []) (W.conds ends []) fun _=>bO
  have someC:∀ends,Cs fun _ T=>iP T (k+1) ends:=fun ends=>iY (m:=fun _ T=>sN T k) W.condC fun c=>aP (m:=fun _ T=>jq T k ends []) (W.conds ends []) fun _=>bO
  have b1:=fun(_:Unit)=>aP (m:=fun _ T=>iP T k [[41]]) (W.some _) fun l=>aP (dY [41]).gd fun _=>bO (v:=l)
  have block:Gd fun _ T=>nD T (k+1):=aP (eZ _) fun u=>b1 u
  have blockC:Cs fun _ T=>nD T (k+1):=iY (ng _) fun u=>b1 u
  have alts:∀acc,Gd fun _ T=>sU T (k+1) acc:=fun acc=>aP (m:=fun _ T=>iP T k [Qg,[41]]) (W.some _) fun l=>aP (vE Qg) fun b=>Mf (m1:=fun _ T=>sU T k (acc++[l])) (W.alts _) bO
  have o1:Gd fun(_:Nat) T=>bnd (iP T k [Qg,[41]]) fun l=>bnd (dI T Qg) fun _=>bnd (sU T k [l]) fun a=>bnd (dD T [41]) fun _=>ret (Cd.mk 5 [] [] [] [] [] [] a uJ [] [] []):=
   aP (m:=fun _ T=>iP T k [Qg,[41]]) (W.some _) fun l=>aP (dL _) fun _=>aP (m:=fun _ T=>sU T k [l]) (W.alts _) fun a=>aP (dY _).gd fun _=>bO
  have or:Gd fun _ T=>orM T (k+1):=aP (eZ _) fun _=>o1
  have orC:Cs fun _ T=>orM T (k+1):=iY (ng _) fun _=>o1
  have a1:Gd fun(_:Nat) T=>bnd (og T) fun v=>bnd (dI T [58]) fun _=>bnd (fq T qD) fun b=>bnd (if b=true then ret qD else fZ T) fun fn=>
   bnd (eP T [40]) fun _=>bnd (iM T k) fun e=>bnd (dD T [41]) fun _=>bnd (dI T YM) fun _=>bnd (iP T k [[41]]) fun l=>bnd (dD T [41]) fun _=>ret (Cd.mk 7 v [] [] [] l [] [] e fn [] []):=
   aP iX.gd fun v=>aP (dL _) fun _=>aP (vE _) fun b=>aP (m:=fun _ T=>if b=true then ret qD else fZ T) (Mf (m1:=fun _ _=>ret qD) bO eu.gd) fun fn=>
    aP (eZ _) fun _=>aP (jK k) fun e=>aP (dY _).gd fun _=>aP (dL _) fun _=>aP (m:=fun _ T=>iP T k [[41]]) (W.some _) fun l=>aP (dY _).gd fun _=>bO
  have acc:Gd fun _ T=>JN T (k+1):=aP (eZ _) fun _=>a1
  have accC:Cs fun _ T=>JN T (k+1):=iY (ng _) fun _=>a1
  have c1:∀n,Gd fun(_:Nat) T=>bnd (nD T k) fun l=>ret (cdL n l):=fun n=>aP (m:=fun _ T=>nD T k) W.block fun _=>bO
  have c2:Gd fun(_:Nat) T=>bnd (eP T [40]) fun _=>bnd (iP T k [[59]]) fun l=>bnd (dI T [59]) fun _=>bnd (iP T k [[41]]) fun m=>bnd (dD T [41]) fun _=>ret (Cd.mk 4 [] [] [] [] l m [] uJ [] [] []):=
   aP (eZ _) fun _=>aP (m:=fun _ T=>iP T k [[59]]) (W.some _) fun l=>aP (dL _) fun _=>aP (m:=fun _ T=>iP T k [[41]]) (W.some _) fun m=>aP (dY _).gd fun _=>bO
  have c3:Gd fun(_:Nat) T=>bnd (eP T [40]) fun _=>bnd (iM T k) fun e=>bnd (dD T [41]) fun _=>ret (Cd.mk 8 [] [] [] [] [] [] [] e [] [] []):=
   aP (eZ _) fun _=>aP (jK k) fun e=>aP (dY _).gd fun _=>bO
  have c4:Gd fun(_:Nat) T=>bnd (og T) fun v=>bnd (dI T Ub) fun _=>bnd (iM T k) fun e=>ret (Cd.mk 6 v [] [] [] [] [] [] e [] [] []):=aP iX.gd fun v=>aP (dL _) fun _=>aP (jK k) fun e=>bO
  have c4C:Cs fun(_:Nat) T=>bnd (og T) fun v=>bnd (dI T Ub) fun _=>bnd (iM T k) fun e=>ret (Cd.mk 6 v [] [] [] [] [] [] e [] [] []):=iY iX.cs fun v=>aP (dL _) fun _=>aP (jK k) fun e=>bO
  refine⟨fun ends acc=> ?_,some,someC,block,blockC,alts,or,orC,acc,accC, ?_, ?_⟩
  ·exact sG (afd ends) bO (aP (m:=fun _ T=>sN T k) (g:=fun c _ T=>jq T k ends (acc++[c])) W.cond fun c=>W.conds _ _)
  ·exact fT (fI _) (c1 2) (fT (fI _) (c1 3) (fT (fI _) c2 (sG (fI _) W.or (fT (fI _) c3 (fT (fI _) W.acc (fT (fI _) (Yh k) (Ru (f:=fun a b=>a&& !b) (nU 1) (fI [58]) c4 (ad3 k) c4C (Yr k))))))))
  ·exact kI (fun _ _=>is_lt) (c1 2) (kI (fun _ _=>is_lt) (c1 3) (kI (fun _ _=>is_lt) c2 (Fv (c:=fun T i=>cZ T i [40]) W.orC (kI (fun _ _=>is_lt) c3 (kI (fun _ _=>is_lt) W.acc (kI (fun _ _=>is_lt) (Yh k) (Fv (c:=fun T i=>eB T i 1&& !cZ T (i+1) [58]) c4C (Yr k))))))))
theorem Mw:Gd fun _ T=>yU T:=by
 refine⟨fun x T i o v i' o' e=> ?_,fun x T U i o v i' o' e hl=> ?_,fun x T U d i o q=> ?_⟩
 ·cases e;omega
 ·cases e;simp only[yU,yJ (show i<T.length by omega)]
 ·simp only[yU,Ea q];rfl
theorem K8 (k:Nat) (l:List (Str×Ex)):Gd fun _ T=>iU T k l:=aP eu.gd fun f=>aP (dL _) fun _=>aP (jK k) fun e=>bO
theorem BP (k:Nat):KR fun _ T=>gM T [125] (iU T k) k []:=mY (one:=fun l _ T=>iU T k l) (K8 k) k []
theorem Ms {α:Type} {c:Bool} {g:Unit→PM α} {i:Nat} {o:Int}:bnd (uH (!c)) g i o=if c=true then .fail i else g () i o:=by cases c<;>rfl
theorem Bc (k:Nat) (least:Bool):Gd fun _ T=>qz T k least:=by
 refine aP (eZ _) (g:=fun _ _ T i o=>if least=true then bnd (uH (!cZ T i [125])) (fun _=>gM T [125] (iU T k) k []) i o else gM T [125] (iU T k) k [] i o) fun _=> ?_
 cases least with
 |false=>exact(BP k).gd
 |true=>
  have h:=sG (fI [125]) GQ (BP k).gd
  have e:(fun(_:Nat) T i o=>if true=true then bnd (uH (!cZ T i [125])) (fun _=>gM T [125] (iU T k) k []) i o else gM T [125] (iU T k) k [] i o)=fun(_:Nat) T i o=>if cZ T i [125]=true then .fail i else gM T [125] (iU T k) k [] i o:=by
   funext x T i o;rw[if_pos rfl];exact Ms
  rw[e];exact h
theorem Zt (a:Act):KR fun _ T=>mP T a:=xD (f:=fun _=>a) (wT _)
theorem vH (a:Act):Gd fun _ T=>mP T a:=(Zt a).gd
section
variable (k:Nat)
theorem ad9:Gd fun(_:Nat) T=>bnd (yU T) fun t=>bnd (fZ T) fun c=>bnd (qz T k false) fun l=>mP T ⟨if t=iA then 2 else 1,c,l,uJ,[]⟩:=aP Mw fun t=>aP eu.gd fun c=>aP (Bc k false) fun l=>vH _
theorem ady:Cs fun(_:Nat) T=>bnd (yU T) fun t=>bnd (fZ T) fun c=>bnd (qz T k false) fun l=>mP T ⟨if t=iA then 2 else 1,c,l,uJ,[]⟩:=Ux Mw fun t=>iY eu.cs fun c=>aP (Bc k false) fun l=>vH _
theorem XO:Gd fun(_:Nat) T=>bnd (iM T k) fun e=>bnd (qz T k true) fun l=>mP T ⟨3,[],l,e,[]⟩:=aP (jK k) fun e=>aP (Bc k true) fun l=>vH _
theorem MJ (n:Int):Gd fun(_:Nat) T=>bnd (iM T k) fun e=>mP T ⟨n,[],[],e,[]⟩:=aP (jK k) fun e=>vH _
theorem ZX:Gd fun(_:Nat) T=>bnd (jS T) fun t=>mP T ⟨5,[],[],uJ,t⟩:=aP l5.gd fun e=>vH _
theorem aea:Gd fun(_:Nat) T=>bnd (dI T PU) fun _=>mP T ⟨7,[],[],uJ,[]⟩:=aP (dL _) fun e=>vH _
theorem adO:Cs fun(_:Nat) T=>bnd (dI T PU) fun _=>mP T ⟨7,[],[],uJ,[]⟩:=iY (BK _) fun e=>vH _
theorem SQ:(fun(_:Nat) T=>Fw T k)=fun(_:Nat) T i o=>if(cZ T i qG||cZ T i iA)=true then bnd (yU T) (fun t=>bnd (fZ T) fun c=>bnd (qz T k false) fun l=>mP T ⟨if t=iA then 2 else 1,c,l,uJ,[]⟩) i o
 else if cZ T i Ce=true then bnd (iM T k) (fun e=>bnd (qz T k true) fun l=>mP T ⟨3,[],l,e,[]⟩) (i+1) o
 else if cZ T i Bg=true then bnd (iM T k) (fun e=>mP T ⟨4,[],[],e,[]⟩) (i+1) o
 else if cZ T i H6=true then bnd (jS T) (fun t=>mP T ⟨5,[],[],uJ,t⟩) (i+1) o
 else if cZ T i Ja=true then bnd (iM T k) (fun e=>mP T ⟨6,[],[],e,[]⟩) (i+1) o
 else bnd (dI T PU) (fun _=>mP T ⟨7,[],[],uJ,[]⟩) i o:=by
 funext x T i o
 unfold Fw
 by_cases h:cZ T i qG=true∨cZ T i iA=true
 ·rw[if_pos h,if_pos (by simpa using h)]
 ·have h':¬(cZ T i qG||cZ T i iA)=true:=by rw[Bool.or_eq_true];exact h
  rw[if_neg h,if_neg h']
theorem adb:Gd fun _ T=>Fw T k:=by
 rw[SQ]
 exact sG (acu (fI _) (fI _)) (ad9 k) (fT (fI _) (XO k) (fT (fI _) (MJ k 4) (fT (fI _) ZX (fT (fI _) (MJ k 6) aea))))
theorem aeg:Cs fun _ T=>Fw T k:=by
 rw[SQ]
 exact Fv (c:=fun T i=>cZ T i qG||cZ T i iA) (ady k) (kI (fun _ _=>is_lt) (XO k) (kI (fun _ _=>is_lt) (MJ k 4) (kI (fun _ _=>is_lt) ZX (kI (fun _ _=>is_lt) (MJ k 6) adO))))
end
def Zy (T:List Lx) (i:Nat):Bool:=match pI (txt T i) with
 |some (some n)=>decide (n≤2147483648)
 |_=>false
theorem aaB:Te fun T i=>Zy T i:=⟨fun T U i h=>by simp only[Zy,yJ h],fun T U d i q=>by simp only[Zy,Ea q]⟩
theorem adq (b:Bool):(fun(_:Nat) T i o=>if eB T i 2=true then(match pI (txt T i) with
 |some (some n)=>if n≤2147483648 then .ok (if b=true then -n else n) (i+1) o else .fail i
 |_=> .fail i) else .fail i)=fun(_:Nat) T i o=>if(eB T i 2&&Zy T i)=true then .ok ((fun t=>if b=true then -JV t else JV t) (txt T i)) (i+1) o else(.fail i:Mx Int):=by
 funext x T i o
 by_cases h:eB T i 2=true
 ·rw[if_pos h,h,Bool.true_and]
  obtain⟨x,hp⟩:∃x,pI (txt T i)=x:=⟨_,rfl⟩
  simp only[Zy,JV,hp]
  rcases x with _ |_ |n
  ·rfl
  ·rfl
  ·simp only
   by_cases hn:n≤2147483648
   ·rw[if_pos hn,if_pos (decide_eq_true hn)]
   ·rw[if_neg hn,if_neg (by simpa using hn)]
 ·rw[if_neg h,if_neg (by simp[h])]
theorem ZV:Gd fun _ T=>Oh T:=by
 refine aP (vE _) (g:=fun b _ T i o=>if eB T i 2=true then(match pI (txt T i) with
  |some (some n)=>if n≤2147483648 then .ok (if b=true then -n else n) (i+1) o else .fail i
  |_=> .fail i) else .fail i) fun b=> ?_
 rw[adq]
 exact(xI (Mr (nU 2) aaB) (fun T i h=>yK (by simp only[Bool.and_eq_true] at h;exact h.1)) (fun t=>if b=true then -JV t else JV t)).gd
theorem vk:∀(k:Nat) (r:Fy),Gd fun _ T=>lM T k r
 |0,_=>kZ
 |k+1,r=>fT (fI _) (m1:=fun _ _=>ret r) bO (fT (fI _) (m1:=fun _ T=>bnd (Oh T) fun n=>lM T k {r with sal:=n}) (aP ZV fun n=>vk k _)
  (fT (fI _) (m1:=fun _ T=>bnd (jS T) fun t=>lM T k {r with group:=t}) (aP l5.gd fun n=>vk k _) (fT (fI _) (m1:=fun _ T=>bnd (jS T) fun t=>lM T k {r with flow:=t}) (aP l5.gd fun n=>vk k _)
  (fT (fI _) (m1:=fun _ T=>lM T k {r with noloop:=true}) (vk k _) (m2:=fun _ T=>bnd (dI T XG) fun _=>lM T k {r with lock:=true}) (aP (dL _) fun n=>vk k _)))))
theorem JE (k0:Nat):∀(k:Nat) (acc:List Act),KR fun _ T=>rP T k0 k acc
 |0,_=>⟨kZ.mono,CW,fun _ _ _ _ _ _ _ _ e=>(by cases e),kZ.sf⟩
 |k+1,acc=>by
  have h2:=lu (m:=fun _ T=>Fw T k0) (g:=fun a _ T=>rP T k0 k (acc++[a])) (adb k0) fun a=>JE k0 k _
  have h:=fT (fI yQ) (m1:=fun _ _=>ret acc) bO h2.gd
  refine⟨h.mono,kI (m1:=fun _ _=>ret acc) (fun _ _=>is_lt) bO h2.cs,fun x T U i o v i' o' e=> ?_,h.sf⟩
  have e':(if cZ T i yQ=true then(.ok acc (i+1) o:Mx (List Act)) else bnd (Fw T k0) (fun a=>rP T k0 k (acc++[a])) i o)= .ok v i' o':=e
  show(if cZ (T++U) i yQ=true then(.ok acc (i+1) o:Mx (List Act)) else bnd (Fw (T++U) k0) (fun a=>rP (T++U) k0 k (acc++[a])) i o)= .ok v i' o'
  by_cases hc:cZ T i yQ=true
  ·rw[if_pos hc] at e'
   rw[(fI yQ).loc T U i (is_lt hc),if_pos hc];exact e'
  ·rw[if_neg hc] at e'
   have:=h2.cs x T i o v i' o' e'
   rw[(fI yQ).loc T U i this.2,if_neg hc]
   exact h2.loc x T U i o v i' o' e'
theorem Ze (k:Nat):KR fun _ T=>E5 T k:=
 lu l5.gd fun nm=>lu (m:=fun _ T=>lM T k ⟨nm,0,[],[],false,false,[],[]⟩) (vk k _) fun r=>lu (m:=fun _ T=>jq T k [Aw] []) ((gdc k).conds _ _) fun w=>lu (dL _) fun _=>
  xD (m:=fun _ T=>rP T k k []) (f:=fun t=>{r with whn:=w,thn:=t}) (JE k k [])
theorem DV (l:List Str):Gd fun _ T=>rD T l:=aP iX.gd fun _=>bO
theorem Xv (k:Nat):KR fun _ T=>vM T k:=
 lu eu.gd fun nm=>lu (eZ _) fun _=>lu (m:=fun _ T=>gM T [41] (rD T) k []) (mY (one:=fun l _ T=>rD T l) DV k []).gd fun ps=>lu (m:=fun _ T=>jq T k [yQ] []) ((gdc k).conds _ _) fun w=>
  xD (f:=fun _=>(⟨nm,ps,w⟩:Nt)) (wT _)
def zu (nm:Str) (T:List Lx):PM Ey:=fun i o=>if cZ T i QJ=true then .ok ⟨nm,2,[]⟩ (i+1) o
 else if cZ T i Ir=true then .ok ⟨nm,1,[]⟩ (i+1) o
 else if cZ T i Gz=true then .ok ⟨nm,3,[]⟩ (i+1) o
 else if cZ T i qD=true then .ok ⟨nm,4,[]⟩ (i+1) o
 else if cZ T i Ri=true then .ok ⟨nm,0,[]⟩ (i+1) o
 else bnd (dI T Zl) (fun _=>bnd (fZ T) fun c=>ret ⟨nm,5,c⟩) i o
theorem KJ (nm:Str):Gd fun _ T=>zu nm T:=
 fT (fI QJ) (m1:=fun _ _=>ret (⟨nm,2,[]⟩:Ey)) bO (fT (fI Ir) (m1:=fun _ _=>ret (⟨nm,1,[]⟩:Ey)) bO (fT (fI Gz) (m1:=fun _ _=>ret (⟨nm,3,[]⟩:Ey)) bO
  (fT (fI qD) (m1:=fun _ _=>ret (⟨nm,4,[]⟩:Ey)) bO (fT (fI Ri) (m1:=fun _ _=>ret (⟨nm,0,[]⟩:Ey)) bO (aP (dL Zl) (g:=fun _ _ T=>bnd (fZ T) fun c=>ret (⟨nm,5,c⟩:Ey)) fun _=>aP eu.gd fun c=>bO)))))
theorem Ar:Gd fun _ T=>vB T:=aP eu.gd (g:=fun nm _ T=>bnd (dI T [58]) fun _=>zu nm T) fun nm=>aP (dL _) (g:=fun _ _ T=>zu nm T) fun _=>KJ nm
theorem Oq:Cs fun _ T=>vB T:=iY eu.cs (g:=fun nm _ T=>bnd (dI T [58]) fun _=>zu nm T) fun nm=>aP (dL _) (g:=fun _ _ T=>zu nm T) fun _=>KJ nm
theorem uN:∀(k:Nat) (first:Bool) (acc:List Ey),Gd fun _ T=>iO T k first acc
 |0,_,_=>kZ
 |k+1,true,acc=>sG (fI _) bO (aP (g:=fun f _ T=>iO T k false (acc++[f])) Ar fun f=>uN k false _)
 |k+1,false,acc=>fT (fI _) (aP (g:=fun f _ T=>iO T k false (acc++[f])) Ar fun f=>uN k false _) (sG Ob (aP (g:=fun f _ T=>iO T k false (acc++[f])) Ar fun f=>uN k false _) bO)
theorem PI:Gd fun _ T=>MO T:=aP (vE _) fun b=>Mf (m1:=fun _ T=>fZ T) eu.gd bO
theorem Wp (k:Nat):KR fun _ T=>xu T k:=
 lu eu.gd fun nm=>lu PI fun su=>lu (eZ _) fun _=>lu (m:=fun _ T=>iO T k true []) (uN k true []) fun fs=>xD (f:=fun _=>(⟨nm,su,fs⟩:Cls)) (dY _)
def Tt {α:Type} (R:Nat) (m:tN α):Prop:=∀x T i o,T.length-i≤R→m x T i o≠ .out
section
variable {α β:Type} {R:Nat}
theorem dM {v:α}:Tt R fun _ _=>ret v:=fun _ _ _ _ _ e=>by cases e
theorem abC:Tt R fun x _=>(Ug x:PM α):=fun _ _ _ _ _ e=>by cases e
theorem aQ {m:tN α} {g:α→tN β} (h:Tt R m) (hm:Gd m) (k:∀v,Tt R (g v)):Tt R fun x T=>bnd (m x T) fun v=>g v x T:=by
 intro x T i o l e
 simp only at e
 unfold bnd at e
 cases e1:m x T i o with
 |ok w i1 o1=>
  rw[e1] at e
  have:=hm.mono _ _ _ _ _ _ _ e1
  exact k w x T i1 o1 (by omega) e
 |fail y=>rw[e1] at e;cases e
 |out=>exact h x T i o l e1
theorem lF {m:tN α} {g:α→tN β} (h:Tt R m) (hm:Cs m) (k:0<R→∀v,Tt (R-1) (g v)):Tt R fun x T=>bnd (m x T) fun v=>g v x T:=by
 intro x T i o l e
 simp only at e
 unfold bnd at e
 cases e1:m x T i o with
 |ok w i1 o1=>
  rw[e1] at e
  have:=hm _ _ _ _ _ _ _ e1
  exact k (by omega) w x T i1 o1 (by omega) e
 |fail y=>rw[e1] at e;cases e
 |out=>exact h x T i o l e1
theorem wN {c:List Lx→Nat→Bool} {m1 m2:tN α} (h1:Tt R m1) (h2:Tt R m2):Tt R fun x T i o=>if c T i=true then m1 x T i o else m2 x T i o:=by
 intro x T i o l e
 simp only at e
 split at e
 ·exact h1 _ _ _ _ l e
 ·exact h2 _ _ _ _ l e
theorem fU {c:List Lx→Nat→Bool} {m1 m2:tN α} (lt:∀T i,c T i=true→i<T.length) (h1:0<R→Tt (R-1) m1) (h2:Tt R m2):Tt R fun x T i o=>if c T i=true then m1 x T (i+1) o else m2 x T i o:=by
 intro x T i o l e
 simp only at e
 split at e
 ·rename_i hc
  have:=lt _ _ hc
  exact h1 (by omega) _ _ _ _ (by omega) e
 ·exact h2 _ _ _ _ l e
theorem Zo {c:List Lx→Nat→Bool} {m1:Str→tN α} {m2:tN α} (lt:∀T i,c T i=true→i<T.length) (h1:0<R→∀s,Tt (R-1) (m1 s)) (h2:Tt R m2):Tt R fun x T i o=>if c T i=true then m1 (txt T i) x T (i+1) o else m2 x T i o:=by
 intro x T i o l e
 simp only at e
 split at e
 ·rename_i hc
  have:=lt _ _ hc
  exact h1 (by omega) _ _ _ _ _ (by omega) e
 ·exact h2 _ _ _ _ l e
theorem Ai {m:tN α} (h:Tt R m):Tt R fun _ T i o=>m i T i o:=fun x T i o l=>h _ _ _ _ l
theorem QI {b:Bool} {m1 m2:tN α} (h1:Tt R m1) (h2:Tt R m2):Tt R fun x T=>if b=true then m1 x T else m2 x T:=by
 cases b
 ·exact h2
 ·exact h1
theorem Nl (w:Str):Tt R fun _ T=>fq T w:=fun x T i o _ e=>by simp only[fq] at e;split at e<;>cases e
theorem iL (w:Str):Tt R fun _ T=>dI T w:=fun x T i o _ e=>by simp only[Ud] at e;split at e<;>cases e
theorem mD:Tt R fun _ T=>fZ T:=fun x T i o _ e=>by simp only[fZ] at e;split at e<;>cases e
theorem zH:Tt R fun _ T=>og T:=fun x T i o _ e=>by simp only[og] at e;split at e<;>cases e
theorem yw:Tt R fun _ T=>jS T:=fun x T i o _ e=>by simp only[jS] at e;split at e<;>cases e
theorem abz:Tt R fun _ T=>yU T:=fun x T i o _ e=>by cases e
theorem Px:Tt R fun x _=>iR x:=fun x T i o _ e=>by simp only[iR] at e;split at e<;>cases e
theorem Pb:Tt R fun _ _=>mV:=fun x T i o _ e=>by cases e
theorem jk (w:Str):Tt R fun _ T=>eP T w:=Ai (m:=fun x T=>bnd (dI T w) fun _=>iR x) (aQ (iL w) (dL w) fun _=>Px)
theorem jZ (w:Str):Tt R fun _ T=>dD T w:=aQ (iL w) (dL w) fun _=>Pb
theorem yj (e:Ex) (l:List Bt):Tt R fun x _=>gB x e l:=by
 unfold gB
 split
 ·exact abC
 ·exact dM
end
section
variable {σ:Type}
theorem Pj {w:Str} {one:σ→tN σ} (g:∀s,Gd (one s)):∀(k R:Nat) (s:σ),(∀R',R'≤R→∀s,Tt R' (one s))→R+1≤k→Tt R fun x T=>tQ T w (fun s=>one s x T) k false s
 |0,R,s,h,hk=>by omega
 |k+1,R,s,h,hk=>fU (c:=fun T i=>cZ T i [44]) (fun _ _=>is_lt) (m1:=fun x T=>bnd (one s x T) fun v=>tQ T w (fun s=>one s x T) k false v) (fun hR=>aQ (h _ (by omega) s) (g s) fun v=>Pj g k (R-1) v (fun R' l=>h R' (by omega)) (by omega)) dM
theorem BS {w:Str} {one:σ→tN σ} (g:∀s,Gd (one s)) {k R:Nat} {s:σ} (h:∀R',R'≤R→∀s,Tt R' (one s)) (hk:R+2≤k):Tt R fun x T=>gM T w (fun s=>one s x T) k s:=by
 obtain⟨k,rfl⟩:∃j,k=j+1:=⟨k-1,by omega⟩
 have h1:Tt R fun x T=>tQ T w (fun s=>one s x T) (k+1) true s:=
  wN (c:=fun T i=>cZ T i w) dM (aQ (h R (Nat.le_refl _) s) (g s) fun v=>Pj g k R v h (by omega))
 exact aQ h1 (Bl g (k+1) true s) fun v=>aQ (jZ w) (dY w).gd fun _=>dM
end
structure TtX (k:Nat):Prop where
 level:∀R lv,lv≤5→20*R+13≤k+lv→Tt R fun _ T=>bD T k lv
 ops:∀R lv e,lv≤4→20*R+3≤k→Tt R fun _ T=>mQ T k lv e
 sign:∀R,20*R+7≤k→Tt R fun _ T=>iV T k
 post:∀R,20*R+6≤k→Tt R fun _ T=>qE T k
 dots:∀R e,20*R+1≤k→Tt R fun _ T=>oD T k e
 atom:∀R,20*R+5≤k→Tt R fun _ T=>oJ T k
theorem ttx:∀k,TtX k
 |0=>⟨fun R lv _ h=>by omega,fun R lv e _ h=>by omega,fun R h=>by omega,fun R h=>by omega,fun R e h=>by omega,fun R h=>by omega⟩
 |k+1=>by
  have W:=ttx k
  have G:=gdx k
  have lev:∀R,0<R→20*R+5≤k+1→Tt (R-1) fun _ T=>bD T k 0:=fun R h0 h=>W.level (R-1) 0 (by omega) (by omega)
  refine⟨fun R lv hl hk=> ?_,fun R lv e hl hk=> ?_,fun R hk=> ?_,fun R hk=> ?_,fun R e hk=> ?_,fun R hk=> ?_⟩
  ·by_cases h5:lv=5
   ·refine(funext fun x=>funext fun T=> ?_:(fun(_:Nat) T=>bD T (k+1) lv)=fun _ T=>iV T k)▸W.sign R (by omega)
    show(if lv=5 then iV T k else bnd (bD T k (lv+1)) (mQ T k lv))=_;rw[if_pos h5]
   ·refine(funext fun x=>funext fun T=> ?_:(fun(_:Nat) T=>bD T (k+1) lv)=fun _ T=>bnd (bD T k (lv+1)) (mQ T k lv))▸aQ (m:=fun _ T=>bD T k (lv+1)) (g:=fun v _ T=>mQ T k lv v) (W.level R _ (by omega) (by omega)) (G.level _) fun v=>W.ops R lv v (by omega) (by omega)
    show(if lv=5 then iV T k else bnd (bD T k (lv+1)) (mQ T k lv))=_;rw[if_neg h5]
  ·have h:=Ai (Zo (R:=R) (c:=fun T i=>opB T i lv) (m1:=fun s x T=>bnd (bD T k (lv+1)) (fun b=>bnd (gB x (iT ((uz lv s).getD 0) []) [e,b]) fun e'=>if lv=2 then ret e' else mQ T k lv e')) (m2:=fun _ _=>ret e) (fun _ _=>agP)
    (fun h0 s=>aQ (m:=fun _ T=>bD T k (lv+1)) (W.level _ _ (by omega) (by omega)) (G.level _) fun b=>aQ (yj _ _) (qF _ _) (g:=fun e' _ T=>if lv=2 then ret e' else mQ T k lv e') fun e'=>by
      by_cases h2:lv=2
      ·simp only[if_pos h2];exact dM
      ·simp only[if_neg h2];exact W.ops _ lv e' hl (by omega)) dM)
   refine(funext fun x=>funext fun T=>funext fun i=>funext fun o=> ?_:(fun(_:Nat) T=>mQ T (k+1) lv e)=_)▸h
   exact Zd
  ·have s1:∀op,0<R→Tt (R-1) fun x T=>bnd (iR x) fun _=>bnd (iV T k) fun e=>bnd mV fun _=>gB x (iT op []) [e]:=fun op h0=>aQ Px Bp fun _=>aQ (W.sign _ (by omega)) G.sign fun e=>aQ Pb BQ fun _=>yj _ _
   exact Ai (m:=fun x T i o=>if cZ T i [45]=true then bnd (iR x) (fun _=>bnd (iV T k) fun e=>bnd mV fun _=>gB x (iT 6 []) [e]) (i+1) o
    else if cZ T i [33]=true then bnd (iR x) (fun _=>bnd (iV T k) fun e=>bnd mV fun _=>gB x (iT 7 []) [e]) (i+1) o else qE T k i o) (fU (fun _ _=>is_lt) (s1 6) (fU (fun _ _=>is_lt) (s1 7) (W.post _ (by omega))))
  ·exact aQ (m:=fun _ T=>oJ T k) (g:=fun v _ T=>oD T k v) (W.atom _ (by omega)) G.atom fun v=>W.dots _ v (by omega)
  ·exact Ai (m:=fun x T i o=>if cZ T i [46]=true then bnd (fZ T) (fun t=>bnd (gB x (iT 4 t) [e]) (oD T k)) (i+1) o else .ok e i o)
    (fU (fun _ _=>is_lt) (fun h0=>aQ mD eu.gd fun t=>aQ (yj _ _) (qF _ _) (g:=fun e' _ T=>oD T k e') fun e'=>W.dots _ e' (by omega)) dM)
  ·
   have a0:Tt R fun _ T i o=>if(eB T i 2&&Rz T i)=true then .ok (lit (.mk 2 false (JV (txt T i)) [] [])) (i+1) o else(.fail i:Mx Bt):=fun x T i o _ e=>by simp only at e;split at e<;>cases e
   have L0:∀R',R'+1≤R→Tt R' fun _ T=>bD T k 0:=fun R' h=>W.level R' 0 (by omega) (by omega)
   have a1:Tt R fun _ T=>bnd (eP T [40]) fun _=>bnd (bD T k 0) fun e=>bnd (dD T [41]) fun _=>ret e:=lF (jk _) (ng _) fun h0 _=>aQ (m:=fun _ T=>bD T k 0) (L0 _ (by omega)) (G.level 0) fun e=>aQ (jZ _) (dY _).gd fun _=>dM
   have li:0<R→Tt (R-1) fun _ T=>gM T [93] (fun l=>bnd (bD T k 0) fun b=>ret (l++[b])) k []:=fun h0=>BS (one:=fun l _ T=>bnd (bD T k 0) fun b=>ret (l++[b])) (fun l=>aP (m:=fun _ T=>bD T k 0) (G.level 0) fun b=>bO)
    (fun R' l s=>aQ (m:=fun _ T=>bD T k 0) (L0 _ (by omega)) (G.level 0) fun b=>dM) (by omega)
   have a2:Tt R fun x T=>bnd (eP T [91]) fun _=>bnd (gM T [93] (fun l=>bnd (bD T k 0) fun b=>ret (l++[b])) k []) fun l=>gB x (iT 5 []) l:=lF (jk _) (ng _) fun h0 _=>aQ (li h0) (mY (one:=fun l _ T=>bnd (bD T k 0) fun b=>ret (l++[b])) (fun l=>aP (m:=fun _ T=>bD T k 0) (G.level 0) fun b=>bO) k []).gd fun l=>yj _ _
   have a3:0<R→Tt (R-1) fun x T=>bnd (eP T [40]) fun _=>bnd (bD T k 0) fun e=>bnd (dD T [41]) fun _=>gB x (iT 21 []) [e]:=fun h0=>aQ (jk _) (eZ _) fun _=>aQ (m:=fun _ T=>bD T k 0) (L0 _ (by omega)) (G.level 0) fun e=>aQ (jZ _) (dY _).gd fun _=>yj _ _
   have a4:0<R→Tt (R-1) fun x T=>bnd (eP T [40]) fun _=>bnd (bD T k 0) fun a=>bnd (dI T [44]) fun _=>bnd (bD T k 0) fun b=>bnd (dD T [41]) fun _=>gB x (iT 22 []) [a,b]:=fun h0=>aQ (jk _) (eZ _) fun _=>aQ (m:=fun _ T=>bD T k 0) (L0 _ (by omega)) (G.level 0) fun e=>aQ (iL _) (dL _) fun _=>aQ (m:=fun _ T=>bD T k 0) (L0 _ (by omega)) (G.level 0) fun b=>aQ (jZ _) (dY _).gd fun _=>yj _ _
   have a5:Tt R fun _ T=>bnd (og T) fun t=>ret (⟨iT 2 t,1⟩:Bt):=aQ zH iX.gd fun _=>dM
   have a6:Tt R fun _ T=>bnd (fZ T) fun t=>ret (⟨iT 3 t,1⟩:Bt):=aQ mD eu.gd fun _=>dM
   rw[L9]
   exact Ai (wN (c:=fun T i=>eB T i 2) a0 (Zo (c:=fun T i=>eB T i 3) (m1:=fun s _ _=>ret (lit (.mk 3 false 0 s []))) (fun _ _=>yK) (fun _ _=>dM) (fU (m1:=fun _ _=>ret (lit (.mk 1 true 0 [] []))) (fun _ _=>is_lt) (fun _=>dM) (fU (m1:=fun _ _=>ret (lit (.mk 1 false 0 [] []))) (fun _ _=>is_lt) (fun _=>dM)
    (fU (m1:=fun _ _=>ret (lit SE)) (fun _ _=>is_lt) (fun _=>dM) (wN (c:=fun T i=>eB T i 1) a5 (wN (c:=fun T i=>cZ T i [40]) a1 (wN (c:=fun T i=>cZ T i [91]) a2 (fU (fun _ _=>is_lt) a3 (fU (fun _ _=>is_lt) a4 a6))))))))))
theorem sK {R k:Nat} (h:20*R+13≤k):Tt R fun _ T=>iM T k:=aQ (m:=fun _ T=>bD T k 0) ((ttx k).level R 0 (by omega) (by omega)) ((gdx k).level 0) fun _=>dM
theorem RV {α:Type} {R:Nat} {a b:List Lx→Nat→Bool} {f:Bool→Bool→Bool} {m1 m2:tN α} (h1:Tt R m1) (h2:Tt R m2):Tt R fun x T i o=>if f (a T i) (b T (i+1))=true then m1 x T i o else m2 x T i o:=by
 intro x T i o l e
 simp only at e
 split at e
 ·exact h1 _ _ _ _ l e
 ·exact h2 _ _ _ _ l e
section
variable {R k:Nat}
theorem WG (h:20*R+13≤k) (l:List (Str×Ex)):Tt R fun _ T=>rW T k l:=
 RV (f:=fun a b=>a&&b) (a:=fun T i=>eB T i 1) (b:=fun T i=>cZ T i [63]) (m1:=fun _ T=>bnd (og T) fun v=>bnd (dI T [63]) fun _=>ret (l++[(v,uJ)])) (m2:=fun _ T=>bnd (iM T k) fun e=>ret (l++[([],e)]))
  (aQ zH iX.gd fun _=>aQ (iL _) (dL _) fun _=>dM) (aQ (sK h) (jK k) fun _=>dM)
theorem acE (h:20*R+13≤k):Tt R fun _ T=>Y4 T k:=
 aQ mD eu.gd fun _=>aQ (jk _) (eZ _) fun _=>aQ (m:=fun _ T=>gM T [41] (rW T k) k []) (BS (one:=fun l _ T=>rW T k l) (Cq k) (fun R' l s=>WG (by omega) s) (by omega)) (mY (one:=fun l _ T=>rW T k l) (Cq k) k []).gd fun _=>dM
theorem Xn (h:20*R+13≤k) (s:List (Str×Str)×List Ex):Tt R fun _ T=>o7 T k s:=
 RV (f:=fun a b=>a&&b) (a:=fun T i=>eB T i 1) (b:=fun T i=>cZ T i [58]) (m1:=fun _ T=>bnd (og T) fun v=>bnd (dI T [58]) fun _=>bnd (fZ T) fun f=>ret (s.1++[(v,f)],s.2)) (m2:=fun _ T=>bnd (iM T k) fun e=>ret (s.1,s.2++[e]))
  (aQ zH iX.gd fun _=>aQ (iL _) (dL _) fun _=>aQ mD eu.gd fun _=>dM) (aQ (sK h) (jK k) fun _=>dM)
theorem Jc (h:20*R+13≤k) (v:Str):Tt R fun _ T=>mE T k v:=
 aQ mD eu.gd fun _=>aQ (jk _) (eZ _) fun _=>aQ (m:=fun _ T=>gM T [41] (o7 T k) k ([],[])) (BS (one:=fun l _ T=>o7 T k l) (yc k) (fun R' l s=>Xn (by omega) s) (by omega)) (mY (one:=fun l _ T=>o7 T k l) (yc k) k ([],[])).gd fun _=>dM
theorem ae9 (h:20*R+13≤k):Tt R fun _ T=>Q5 T k:=
 wN (c:=fun T i=>eB T i 1) (m1:=fun _ T=>bnd (og T) fun v=>bnd (dI T [58]) fun _=>mE T k v) (m2:=fun _ T=>mE T k []) (aQ zH iX.gd fun v=>aQ (iL _) (dL _) fun _=>Jc h v) (Jc h [])
end
structure TtC (k:Nat):Prop where
 conds:∀R ends acc,20*R+16≤k→Tt R fun _ T=>jq T k ends acc
 some:∀R ends,20*R+16≤k→Tt R fun _ T=>iP T k ends
 block:∀R,20*R+1≤k→Tt R fun _ T=>nD T k
 alts:∀R acc,20*R+17≤k→Tt R fun _ T=>sU T k acc
 or:∀R,20*R+14≤k→Tt R fun _ T=>orM T k
 acc:∀R,20*R+14≤k→Tt R fun _ T=>JN T k
 cond:∀R,20*R+15≤k→Tt R fun _ T=>sN T k
theorem ttc:∀k,TtC k
 |0=>⟨fun R _ _ h=>by omega,fun R _ h=>by omega,fun R h=>by omega,fun R _ h=>by omega,fun R h=>by omega,fun R h=>by omega,fun R h=>by omega⟩
 |k+1=>by
  have W:=ttc k
  have G:=gdc k
  refine⟨fun R ends acc hk=> ?_,fun R ends hk=> ?_,fun R hk=> ?_,fun R acc hk=> ?_,fun R hk=> ?_,fun R hk=> ?_,fun R hk=> ?_⟩
  ·exact wN (c:=fun T i=>ends.any fun w=>cZ T i w) dM (lF (m:=fun _ T=>sN T k) (g:=fun c _ T=>jq T k ends (acc++[c])) (W.cond R (by omega)) G.condC fun h0 c=>W.conds _ _ _ (by omega))
  ·exact lF (m:=fun _ T=>sN T k) (g:=fun c _ T=>bnd (jq T k ends []) fun l=>ret (c :: l)) (W.cond R (by omega)) G.condC fun h0 c=>aQ (m:=fun _ T=>jq T k ends []) (W.conds _ _ _ (by omega)) (G.conds ends []) fun _=>dM
  ·exact lF (jk _) (ng _) fun h0 _=>aQ (m:=fun _ T=>iP T k [[41]]) (W.some _ _ (by omega)) (G.some _) fun l=>aQ (jZ _) (dY _).gd fun _=>dM
  ·exact lF (m:=fun _ T=>iP T k [Qg,[41]]) (W.some _ _ (by omega)) (G.someC _) fun h0 l=>aQ (Nl Qg) (vE Qg) fun b=>QI (m1:=fun _ T=>sU T k (acc++[l])) (W.alts _ _ (by omega)) dM
  ·exact lF (jk _) (ng _) fun h0 _=>lF (m:=fun _ T=>iP T k [Qg,[41]]) (W.some _ _ (by omega)) (G.someC _) fun h1 l=>aQ (iL _) (dL _) fun _=>aQ (m:=fun _ T=>sU T k [l]) (W.alts _ _ (by omega)) (G.alts _) fun a=>aQ (jZ _) (dY _).gd fun _=>dM
  ·exact lF (jk _) (ng _) fun h0 _=>aQ zH iX.gd fun v=>aQ (iL _) (dL _) fun _=>aQ (Nl _) (vE _) fun b=>aQ (m:=fun _ T=>if b=true then ret qD else fZ T) (QI (m1:=fun _ _=>ret qD) dM mD) (Mf (m1:=fun _ _=>ret qD) bO eu.gd) fun fn=>
    aQ (jk _) (eZ _) fun _=>aQ (sK (by omega)) (jK k) fun e=>aQ (jZ _) (dY _).gd fun _=>aQ (iL _) (dL _) fun _=>aQ (m:=fun _ T=>iP T k [[41]]) (W.some _ _ (by omega)) (G.some _) fun l=>aQ (jZ _) (dY _).gd fun _=>dM
  ·have c1:∀n,0<R→Tt (R-1) fun(_:Nat) T=>bnd (nD T k) fun l=>ret (cdL n l):=fun n h0=>aQ (m:=fun _ T=>nD T k) (W.block _ (by omega)) G.block fun _=>dM
   have c2:0<R→Tt (R-1) fun(_:Nat) T=>bnd (eP T [40]) fun _=>bnd (iP T k [[59]]) fun l=>bnd (dI T [59]) fun _=>bnd (iP T k [[41]]) fun m=>bnd (dD T [41]) fun _=>ret (Cd.mk 4 [] [] [] [] l m [] uJ [] [] []):=fun h0=>
    aQ (jk _) (eZ _) fun _=>aQ (m:=fun _ T=>iP T k [[59]]) (W.some _ _ (by omega)) (G.some _) fun l=>aQ (iL _) (dL _) fun _=>aQ (m:=fun _ T=>iP T k [[41]]) (W.some _ _ (by omega)) (G.some _) fun m=>aQ (jZ _) (dY _).gd fun _=>dM
   have c3:0<R→Tt (R-1) fun(_:Nat) T=>bnd (eP T [40]) fun _=>bnd (iM T k) fun e=>bnd (dD T [41]) fun _=>ret (Cd.mk 8 [] [] [] [] [] [] [] e [] [] []):=fun h0=>
    aQ (jk _) (eZ _) fun _=>aQ (sK (by omega)) (jK k) fun e=>aQ (jZ _) (dY _).gd fun _=>dM
   have c4:Tt R fun(_:Nat) T=>bnd (og T) fun v=>bnd (dI T Ub) fun _=>bnd (iM T k) fun e=>ret (Cd.mk 6 v [] [] [] [] [] [] e [] [] []):=aQ zH iX.gd fun v=>aQ (iL _) (dL _) fun _=>aQ (sK (by omega)) (jK k) fun e=>dM
   exact fU (fun _ _=>is_lt) (c1 2) (fU (fun _ _=>is_lt) (c1 3) (fU (fun _ _=>is_lt) c2 (wN (c:=fun T i=>cZ T i [40]) (W.or _ (by omega)) (fU (fun _ _=>is_lt) c3 (fU (fun _ _=>is_lt) (fun h0=>W.acc _ (by omega)) (fU (fun _ _=>is_lt) (fun h0=>acE (by omega)) (RV (f:=fun a b=>a&& !b) (a:=fun T i=>eB T i 1) (b:=fun T i=>cZ T i [58]) c4 (ae9 (by omega)))))))))
section
variable {R k:Nat}
theorem Xe (h:20*R+13≤k) (l:List (Str×Ex)):Tt R fun _ T=>iU T k l:=aQ mD eu.gd fun f=>aQ (iL _) (dL _) fun _=>aQ (sK h) (jK k) fun e=>dM
theorem Vm (h:20*R+13≤k):Tt R fun _ T=>gM T [125] (iU T k) k []:=BS (one:=fun l _ T=>iU T k l) (K8 k) (fun R' l s=>Xe (by omega) s) (by omega)
theorem Tw (h:20*R+13≤k) (least:Bool):Tt R fun _ T=>qz T k least:=by
 have g:Gd fun(_:Nat) T i o=>if least=true then bnd (uH (!cZ T i [125])) (fun _=>gM T [125] (iU T k) k []) i o else gM T [125] (iU T k) k [] i o:=by
  cases least with
  |false=>exact(BP k).gd
  |true=>
   have h:=sG (fI [125]) GQ (BP k).gd
   have e:(fun(_:Nat) T i o=>if true=true then bnd (uH (!cZ T i [125])) (fun _=>gM T [125] (iU T k) k []) i o else gM T [125] (iU T k) k [] i o)=fun(_:Nat) T i o=>if cZ T i [125]=true then .fail i else gM T [125] (iU T k) k [] i o:=by
    funext x T i o;rw[if_pos rfl];exact Ms
   rw[e];exact h
 refine aQ (jk _) (eZ _) (g:=fun _ _ T i o=>if least=true then bnd (uH (!cZ T i [125])) (fun _=>gM T [125] (iU T k) k []) i o else gM T [125] (iU T k) k [] i o) fun _=> ?_
 intro x T i o l e
 cases least with
 |false=>exact Vm h x T i o l e
 |true=>
  have e:bnd (uH (!cZ T i [125])) (fun _=>gM T [125] (iU T k) k []) i o= .out:=e
  rw[Ms] at e
  split at e
  ·cases e
  ·exact Vm h x T i o l e
theorem Ay (a:Act):Tt R fun _ T=>mP T a:=aQ (iL _) (dL _) fun _=>dM
theorem acP (h:20*R+13≤k):Tt R fun _ T=>Fw T k:=by
 rw[SQ]
 have i1:Tt R fun(_:Nat) T=>bnd (yU T) fun t=>bnd (fZ T) fun c=>bnd (qz T k false) fun l=>mP T ⟨if t=iA then 2 else 1,c,l,uJ,[]⟩:=aQ abz Mw fun t=>aQ mD eu.gd fun c=>aQ (Tw h false) (Bc k false) fun l=>Ay _
 have i2:0<R→Tt (R-1) fun(_:Nat) T=>bnd (iM T k) fun e=>bnd (qz T k true) fun l=>mP T ⟨3,[],l,e,[]⟩:=fun h0=>aQ (sK (by omega)) (jK k) fun e=>aQ (Tw (by omega) true) (Bc k true) fun l=>Ay _
 have i3:∀n,0<R→Tt (R-1) fun(_:Nat) T=>bnd (iM T k) fun e=>mP T ⟨n,[],[],e,[]⟩:=fun n h0=>aQ (sK (by omega)) (jK k) fun e=>Ay _
 have i4:0<R→Tt (R-1) fun(_:Nat) T=>bnd (jS T) fun t=>mP T ⟨5,[],[],uJ,t⟩:=fun h0=>aQ yw l5.gd fun e=>Ay _
 have i5:Tt R fun(_:Nat) T=>bnd (dI T PU) fun _=>mP T ⟨7,[],[],uJ,[]⟩:=aQ (iL _) (dL _) fun e=>Ay _
 exact wN (c:=fun T i=>cZ T i qG||cZ T i iA) i1 (fU (fun _ _=>is_lt) i2 (fU (fun _ _=>is_lt) (i3 4) (fU (fun _ _=>is_lt) i4 (fU (fun _ _=>is_lt) (i3 6) i5))))
theorem adk:Tt R fun _ T=>Oh T:=by
 intro x T i o _ e
 simp only[Oh] at e
 obtain⟨b,i1,o1,e1⟩:∃b i1 o1,fq T [45] i o= .ok b i1 o1:=by unfold fq;split<;>exact⟨_,_,_,rfl⟩
 rw[Zn e1] at e
 split at e
 ·split at e
  ·split at e<;>cases e
  ·cases e
 ·cases e
end
theorem xY:∀(k R:Nat) (r:Fy),R+1≤k→Tt R fun _ T=>lM T k r
 |0,R,_,h=>by omega
 |k+1,R,r,h=>fU (c:=fun T i=>cZ T i Pn) (fun _ _=>is_lt) (m1:=fun _ _=>ret r) (fun _=>dM) (fU (fun _ _=>is_lt) (m1:=fun _ T=>bnd (Oh T) fun n=>lM T k {r with sal:=n}) (fun h0=>aQ adk ZV fun n=>xY k _ _ (by omega))
  (fU (fun _ _=>is_lt) (m1:=fun _ T=>bnd (jS T) fun t=>lM T k {r with group:=t}) (fun h0=>aQ yw l5.gd fun n=>xY k _ _ (by omega)) (fU (fun _ _=>is_lt) (m1:=fun _ T=>bnd (jS T) fun t=>lM T k {r with flow:=t}) (fun h0=>aQ yw l5.gd fun n=>xY k _ _ (by omega))
  (fU (fun _ _=>is_lt) (m1:=fun _ T=>lM T k {r with noloop:=true}) (fun h0=>xY k _ _ (by omega)) (m2:=fun _ T=>bnd (dI T XG) fun _=>lM T k {r with lock:=true}) (lF (iL _) (BK _) fun h0 n=>xY k _ _ (by omega))))))
theorem TM (k0:Nat):∀(k R:Nat) (acc:List Act),R+1≤k→20*R+13≤k0→Tt R fun _ T=>rP T k0 k acc
 |0,R,_,h,_=>by omega
 |k+1,R,acc,h,h0=>fU (c:=fun T i=>cZ T i yQ) (fun _ _=>is_lt) (m1:=fun _ _=>ret acc) (fun _=>dM) (lF (m:=fun _ T=>Fw T k0) (g:=fun a _ T=>rP T k0 k (acc++[a])) (acP h0) (aeg k0) fun hR a=>TM k0 k _ _ (by omega) (by omega))
theorem abd {R k:Nat} (h:20*R+16≤k):Tt R fun _ T=>E5 T k:=
 aQ yw l5.gd fun nm=>aQ (m:=fun _ T=>lM T k ⟨nm,0,[],[],false,false,[],[]⟩) (xY k _ _ (by omega)) (vk k _) fun r=>aQ (m:=fun _ T=>jq T k [Aw] []) ((ttc k).conds _ _ _ (by omega)) ((gdc k).conds _ _) fun w=>aQ (iL _) (dL _) fun _=>
  aQ (m:=fun _ T=>rP T k k []) (TM k k _ _ (by omega) (by omega)) (JE k k []).gd fun _=>dM
theorem WL {R:Nat} (l:List Str):Tt R fun _ T=>rD T l:=aQ zH iX.gd fun _=>dM
theorem YS {R k:Nat} (h:20*R+16≤k):Tt R fun _ T=>vM T k:=
 aQ mD eu.gd fun nm=>aQ (jk _) (eZ _) fun _=>aQ (m:=fun _ T=>gM T [41] (rD T) k []) (BS (one:=fun l _ T=>rD T l) DV (fun R' l s=>WL s) (by omega)) (mY (one:=fun l _ T=>rD T l) DV k []).gd fun ps=>
  aQ (m:=fun _ T=>jq T k [yQ] []) ((ttc k).conds _ _ _ (by omega)) ((gdc k).conds _ _) fun w=>aQ (iL _) (dL _) fun _=>dM
theorem Jo {R:Nat}:Tt R fun _ T=>vB T:=aQ mD eu.gd (g:=fun nm _ T=>bnd (dI T [58]) fun _=>zu nm T) fun nm=>aQ (iL _) (dL _) (g:=fun _ _ T=>zu nm T) fun _=>
 fU (c:=fun T i=>cZ T i QJ) (fun _ _=>is_lt) (m1:=fun _ _=>ret (⟨nm,2,[]⟩:Ey)) (fun _=>dM) (fU (c:=fun T i=>cZ T i Ir) (fun _ _=>is_lt) (m1:=fun _ _=>ret (⟨nm,1,[]⟩:Ey)) (fun _=>dM) (fU (c:=fun T i=>cZ T i Gz) (fun _ _=>is_lt) (m1:=fun _ _=>ret (⟨nm,3,[]⟩:Ey)) (fun _=>dM)
  (fU (c:=fun T i=>cZ T i qD) (fun _ _=>is_lt) (m1:=fun _ _=>ret (⟨nm,4,[]⟩:Ey)) (fun _=>dM) (fU (c:=fun T i=>cZ T i Ri) (fun _ _=>is_lt) (m1:=fun _ _=>ret (⟨nm,0,[]⟩:Ey)) (fun _=>dM) (aQ (iL Zl) (dL Zl) (g:=fun _ _ T=>bnd (fZ T) fun c=>ret (⟨nm,5,c⟩:Ey)) fun _=>aQ mD eu.gd fun c=>dM)))))
theorem CX:∀(k R:Nat) (acc:List Ey),R+1≤k→Tt R fun _ T=>iO T k false acc
 |0,R,_,h=>by omega
 |k+1,R,acc,h=>fU (c:=fun T i=>cZ T i [44]) (fun _ _=>is_lt) (fun h0=>aQ (g:=fun f _ T=>iO T k false (acc++[f])) Jo Ar fun f=>CX k _ _ (by omega)) (wN (c:=fun T i=>ou T i) (lF (g:=fun f _ T=>iO T k false (acc++[f])) Jo Oq fun h0 f=>CX k _ _ (by omega)) dM)
theorem QL {k R:Nat} {acc:List Ey} (h:R+1≤k):Tt R fun _ T=>iO T k true acc:=by
 obtain⟨k,rfl⟩:∃j,k=j+1:=⟨k-1,by omega⟩
 exact wN (c:=fun T i=>cZ T i [125]) dM (lF (g:=fun f _ T=>iO T k false (acc++[f])) Jo Oq fun h0 f=>CX k _ _ (by omega))
theorem Zz {R:Nat}:Tt R fun _ T=>MO T:=aQ (Nl _) (vE _) fun b=>QI (m1:=fun _ T=>fZ T) mD dM
theorem YR {R k:Nat} (h:R+1≤k):Tt R fun _ T=>xu T k:=
 aQ mD eu.gd fun nm=>aQ Zz PI fun su=>aQ (jk _) (eZ _) fun _=>aQ (m:=fun _ T=>iO T k true []) (QL h) (uN k true []) fun fs=>aQ (jZ _) (dY _).gd fun _=>dM
theorem FR (k0:Nat):∀(k R:Nat) (b:Qp),R+1≤k→20*R+16≤k0→Tt R fun _ T=>lH T k0 k b
 |0,R,_,h,_=>by omega
 |k+1,R,b,h,h0=>by
  intro x T i o l e
  have e:(if i<T.length then
   (if cZ T i Da=true then bnd (xu T k0) (fun c=>lH T k0 k {b with classes:=b.classes++[c]}) (i+1) o
   else if cZ T i Om=true then bnd (E5 T k0) (fun r=>lH T k0 k {b with rules:=b.rules++[r]}) (i+1) o
   else bnd (dI T Qw) (fun _=>bnd (vM T k0) fun q=>lH T k0 k {b with queries:=b.queries++[q]}) i o)
  else .ok b i o)= .out:=e
  split at e
  ·refine(fU (c:=fun T i=>cZ T i Da) (fun _ _=>is_lt) (m1:=fun _ T=>bnd (xu T k0) fun c=>lH T k0 k {b with classes:=b.classes++[c]}) (fun hR=>aQ (m:=fun _ T=>xu T k0) (g:=fun c _ T=>lH T k0 k {b with classes:=b.classes++[c]}) (YR (by omega)) (Wp k0).gd fun c=>FR k0 k _ _ (by omega) (by omega))
    (fU (fun _ _=>is_lt) (m1:=fun _ T=>bnd (E5 T k0) fun r=>lH T k0 k {b with rules:=b.rules++[r]}) (fun hR=>aQ (m:=fun _ T=>E5 T k0) (g:=fun r _ T=>lH T k0 k {b with rules:=b.rules++[r]}) (abd (by omega)) (Ze k0).gd fun c=>FR k0 k _ _ (by omega) (by omega))
    (m2:=fun _ T=>bnd (dI T Qw) fun _=>bnd (vM T k0) fun q=>lH T k0 k {b with queries:=b.queries++[q]}) (lF (iL _) (BK _) (g:=fun _ _ T=>bnd (vM T k0) fun q=>lH T k0 k {b with queries:=b.queries++[q]}) fun hR _=>aQ (m:=fun _ T=>vM T k0) (g:=fun q _ T=>lH T k0 k {b with queries:=b.queries++[q]}) (YS (by omega)) (Xv k0).gd fun c=>FR k0 k _ _ (by omega) (by omega)))) x T i o l e
  ·cases e
def H8 (kk:Nat) (s:Str):Except Nat Qp:=match wo s with
 | .error e=> .error e
 | .ok T=>match wV T kk 0 0 with
   | .ok b _ _=> .ok b
   | .fail i=> .error (FB T s.length i)
   | .out=> .error 0
def abw (s:Str):Except Nat Qp:=H8 100000 s
theorem Vv {T:List Lx} (h:T.length≤4096):wV T 100000 0 0≠ .out:=by
 intro e
 unfold wV bnd at e
 have h1:=FR 100000 100000 4096 ⟨[],[],[]⟩ (by omega) (by omega) 0 T 0 0 (by omega)
 simp only at h1
 cases hb:lH T 100000 100000 ⟨[],[],[]⟩ 0 0 with
 |ok b i o=>
  rw[hb] at e
  simp only at e
  split at e<;>cases e
 |fail i=>rw[hb] at e;cases e
 |out=>exact h1 hb
section
variable {h h':ah} {L:jf} {S:List Sl} {F:List (ah→Prop)} {n kk:Nat} {s:Str} {K:au}
theorem c10 {bx:Nat} (hk:kk≤100000) (hn:4*kk+130≤n) (hn2:s.length+30≤n) (hb:∀b∈s,b<256) (hs:s.length≤4096) (hg:GvF∈F) (A:Cx h (vr bx Qk :: L) S F)
 (H1:∀e,wo s= .error e→∀h,Cx h (vr bx Qk :: L) S F→K (.tup [.int .i64 (e:Int), .int .i64 20]) h=true)
 (H2:∀T,wo s= .ok T→∀tv,OkP K T s.length bx L S (abk tv T :: F) (wV T kk 0 0)):av E n (.func 10) [.str s, .fn (.func 11) [] [.ptr bx 0 0 0]] h K=true:=by
 obtain⟨n,rfl⟩:∃m,n=m+1:=⟨n-1,by omega⟩
 apply d10
 unfold s10
 refine c7 hb (by omega) (by omega) A ?_
 cases hl:wo s with
 |error e=>
  intro h A
  refine aI rfl ?_
  unfold BO
  refine jl (jh (tJ (eF ?_)))
  exact bN (H1 e hl h A)
 |ok T=>
  intro h u A
  refine aI rfl ?_
  unfold BO
  refine jl (jh (tJ (eF ?_)))
  refine bC (oF ?_)
  refine c18 hk (by omega) (List.mem_cons_self) (List.mem_cons_of_mem _ hg) A (FP hs hl) ?_
  refine Post.mono (H2 T hl u) ?_ ?_
  ·intro b i o H h c A
   refine aI rfl ?_
   unfold xO
   exact jl (jh (H h c A))
  ·intro x H h c A
   refine aI rfl ?_
   unfold xO
   exact jl (jh (H h c A))
theorem ZN {id m:Nat} {c:List AV} {x y:AV} (V:Var h id c) (hc:c.length=m) (s:K (.tup [.agg c,x,y]) h=true):gq (fG h [(.ptr id 0 0 0,some (true,m)),(x,none),(y,none)]) h K=true:=by
 have e:dZ h true m (.ptr id 0 0 0)=some (.agg c):=by
  rw[V.load]
  simp only[lY,cond_true]
  rw[aK.2 (by omega),cond_true,List.drop_zero,List.take_of_length_le (by omega)]
 simp only[fG,e]
 exact s
def aeb (L:jf) (S:List Sl) (F:List (ah→Prop)) (K:au):Except Nat Qp→Prop
 | .ok b=>∀h c,Cx h L S ((fun h=>sw h c b) :: F)→K (.tup [.agg c, .int .i64 0, .int .i64 0]) h=true
 | .error e=>∀h,Cx h L S F→K (.tup [.agg Qk, .int .i64 (e:Int), .int .i64 20]) h=true
theorem c6k (hk:kk≤100000) (hn:4*kk+140≤n) (hn2:s.length+40≤n) (hb:∀b∈s,b<256) (hs:s.length≤4096) (hg:GvF∈F) (A:Cx h L S F)
 (ht:∀T,wo s= .ok T→wV T kk 0 0≠ .out) (H:aeb L S F K (H8 kk s)):av E n (.func 6) [.str s] h K=true:=by
 obtain⟨n,rfl⟩:∃m,n=m+1:=⟨n-1,by omega⟩
 apply d6
 unfold s6
 refine rM A rfl rfl rfl fun a h A=> ?_
 refine bT A rfl rfl rfl fun bx h A=> ?_
 have A:=A.swapL
 refine aY ?_
 have bad:∀e,aeb L S F K (.error e)→∀h c,Cx h (vr bx c :: vr a Qk :: L) S F→pz K (fun v4 h=>BM (av E n) n (.ptr a 0 0 0) (.ptr bx 0 0 0) v4 h K) (.tup [.int .i64 (e:Int), .int .i64 20]) h=true:=by
  intro e H h c A
  refine aI rfl ?_
  unfold BM
  refine jl (jh (eF (bN (dQ rfl ?_))))
  refine gL A rfl rfl rfl rfl fun h A=> ?_
  refine ZN A.v1 rfl ?_
  exact H h A.rest.rest
 refine c10 hk (by omega) (by omega) hb hs hg A (fun e hl h A=> ?_) fun T hl tv=> ?_
 ·refine bad e ?_ h _ A
  unfold H8 at H;rw[hl] at H;exact H
 ·have hT:=ht T hl
  unfold H8 at H;rw[hl] at H
  unfold OkP Post
  cases hf:wV T kk 0 0 with
  |out=>exact absurd hf hT
  |fail x=>
   simp only[hf] at H
   intro h c A
   exact bad _ H h c A.dropF
  |ok b i o=>
   simp only[hf] at H
   intro h c A
   obtain⟨w1,w2⟩:=(A.f0:sw h c b).cells
   refine aI rfl ?_
   unfold BM
   refine jl (jh (eF (bC ?_)))
   refine iw A.var w1 ?_
   refine gL A rfl w1 rfl w2 fun h A=> ?_
   refine ZN A.v1 w1 ?_
   exact H h c A.rest.rest.drop1
theorem c6 (hn:400200≤n) (hb:∀b∈s,b<256) (hs:s.length≤4096) (hg:GvF∈F) (A:Cx h L S F) (H:aeb L S F K (abw s)):av E n (.func 6) [.str s] h K=true:=
 c6k (kk:=100000) (by omega) (by omega) (by omega) hb hs hg A (fun T hl=>Vv (FP hs hl).len) H
end
mutual
def cV:Val→Nat
 | .mk _ _ _ t l=>t.length+XI l+1
def XI:List Val→Nat
 | []=>0
 |v :: l=>cV v+XI l
end
mutual
def cE:Ex→Nat
 | .mk _ t v l=>t.length+cV v+Rp l+1
def Rp:List Ex→Nat
 | []=>0
 |v :: l=>cE v+Rp l
end
def cG:List (Str×Ex)→Nat
 | []=>0
 |a :: l=>a.1.length+cE a.2+cG l+1
def cB:List (Str×Str)→Nat
 | []=>0
 |a :: l=>a.1.length+a.2.length+cB l+1
mutual
def cC:Cd→Nat
 | .mk _ var cls binds tests conds thn alts e fn name args=>var.length+cls.length+cB binds+Rp tests+JO conds+JO thn+JB alts+cE e+fn.length+name.length+cG args+1
def JO:List Cd→Nat
 | []=>0
 |c :: l=>cC c+JO l
def JB:List (List Cd)→Nat
 | []=>0
 |l :: m=>JO l+JB m+1
end
def cA (a:Act):Nat:=a.cls.length+cG a.set+cE a.e+a.text.length+1
def cAs:List Act→Nat
 | []=>0
 |a :: l=>cA a+cAs l
def cT:List Str→Nat
 | []=>0
 |a :: l=>a.length+cT l+1
def cF:List Ey→Nat
 | []=>0
 |a :: l=>a.name.length+a.cls.length+cF l+1
def cK (a:Cls):Nat:=a.name.length+a.super.length+cF a.fields+1
def cR (a:Fy):Nat:=a.name.length+a.group.length+a.flow.length+JO a.whn+cAs a.thn+1
def cQ (a:Nt):Nat:=a.name.length+cT a.params+JO a.whn+1
def cKs:List Cls→Nat
 | []=>0
 |a :: l=>cK a+cKs l
def cRs:List Fy→Nat
 | []=>0
 |a :: l=>cR a+cRs l
def cQs:List Nt→Nat
 | []=>0
 |a :: l=>cQ a+cQs l
def aeT (b:Qp):Nat:=cKs b.classes+cRs b.rules+cQs b.queries
section
variable {T:List Lx} {i i':Nat} {o o':Int}
end
section
variable {T:List Lx} {i i' k:Nat} {o o':Int}
end
mutual
theorem RW.ext {h h':ah} (e:Ext h h'):∀{a:List AV} {v:Val},RW h a v→RW h' a v
 |a, .mk k b n t l,H=>by
  simp only[RW] at H ⊢
  obtain⟨lv,es,h1,h2,h3⟩:=H
  exact⟨lv,es,h1,h2.ext e,Ns.ext e h3⟩
theorem Ns.ext {h h':ah} (e:Ext h h'):∀{a:List (List AV)} {l:List Val},Ns h a l→Ns h' a l
 |a,[],H=>by simp only[Ns] at H ⊢;exact H
 |a,v :: l,H=>by
  simp only[Ns] at H ⊢
  obtain⟨c,r,h1,h2,h3⟩:=H
  exact⟨c,r,h1,RW.ext e h2,Ns.ext e h3⟩
end
mutual
theorem RE.ext {h h':ah} (e:Ext h h'):∀{a:List AV} {v:Ex},RE h a v→RE h' a v
 |a, .mk op t v l,H=>by
  simp only[RE] at H ⊢
  obtain⟨cv,va,es,h1,h2,h3,h4⟩:=H
  exact⟨cv,va,es,h1,h2.ext e,h3.ext e,oG.ext e h4⟩
theorem oG.ext {h h':ah} (e:Ext h h'):∀{a:List (List AV)} {l:List Ex},oG h a l→oG h' a l
 |a,[],H=>by simp only[oG] at H ⊢;exact H
 |a,v :: l,H=>by
  simp only[oG] at H ⊢
  obtain⟨c,r,h1,h2,h3⟩:=H
  exact⟨c,r,h1,RE.ext e h2,oG.ext e h3⟩
end
theorem Ns.get {h:ah}:∀{es:List (List AV)} {l:List Val},Ns h es l→es.length=l.length∧∀(j:Nat) (b:Val),l[j]? =some b→∃c,es[j]? =some c∧RW h c b
 |es,[],R=>by simp only[Ns] at R;subst R;exact⟨rfl,fun j b e=>by simp at e⟩
 |es,v :: l,R=>by
  simp only[Ns] at R
  obtain⟨c,r,rfl,R1,R2⟩:=R
  obtain⟨h1,h2⟩:=Ns.get R2
  refine⟨by simp[h1],fun j b e=> ?_⟩
  cases j with
  |zero=>simp only[List.getElem?_cons_zero,Option.some.injEq] at e ⊢;subst e;exact⟨c,rfl,R1⟩
  |succ j=>simp only[List.getElem?_cons_succ] at e ⊢;exact h2 j b e
theorem oG.get {h:ah}:∀{es:List (List AV)} {l:List Ex},oG h es l→es.length=l.length∧∀(j:Nat) (b:Ex),l[j]? =some b→∃c,es[j]? =some c∧RE h c b
 |es,[],R=>by simp only[oG] at R;subst R;exact⟨rfl,fun j b e=>by simp at e⟩
 |es,v :: l,R=>by
  simp only[oG] at R
  obtain⟨c,r,rfl,R1,R2⟩:=R
  obtain⟨h1,h2⟩:=oG.get R2
  refine⟨by simp[h1],fun j b e=> ?_⟩
  cases j with
  |zero=>simp only[List.getElem?_cons_zero,Option.some.injEq] at e ⊢;subst e;exact⟨c,rfl,R1⟩
  |succ j=>simp only[List.getElem?_cons_succ] at e ⊢;exact h2 j b e
theorem _root_.Go.Ab.Cx.start {h:ah} (o:h.Ok) {F:List (ah→Prop)} (f:∀R∈F,∀h',Ext h h'→R h'):Cx h [] [] (Ext h :: F):=
 have ex:∀h',Kp (· ∈places [] []) h h'→Ext h h':=fun h' k=>⟨k.1,fun id ob e=>k.2 id ob (fun m=>nomatch m) e⟩
 ⟨o,fun _ m=>(nomatch m),fun _ m=>(nomatch m),List.nodup_nil,fun R m=>(List.mem_cons.1 m).elim (fun e h' k=>by subst e;exact ex h' k) fun m h' k=>f R m h' (ex h' k)⟩
theorem _root_.Go.Ab.Cx.start2 {h:ah} (o:h.Ok) {R1 R2:ah→Prop} (f1:∀h',Ext h h'→R1 h') (f2:∀h',Ext h h'→R2 h'):Cx h [] [] [Ext h,R1,R2]:=
 Cx.start o fun R m=>by
  rcases List.mem_cons.1 m with rfl |m
  ·exact f1
  rcases List.mem_cons.1 m with rfl |m
  ·exact f2
  ·cases m
theorem sQ {h:ah} {v:AV} {n:Nat} {es:List (List AV)} {J:IntKind} {i:Nat} {e:List AV} {k:AV→Bool} (V:View h n v es) (hi:es[i]? =some e) (hl:e.length=n) (s:k (.agg e)=true):(dX h n v (.int J (i:Int)) fun p=>bL h n p k)=true:=
 nE V hi fun id g j ld=>pR (by
  rw[ld]
  simp only[lY,cond_true]
  rw[aK.2 (by omega),cond_true,List.drop_zero,List.take_of_length_le (by omega)]) s
theorem Pw {h:ah} {v a:AV} {n:Nat} {es:List (List AV)} {J:IntKind} {i:Nat} {e:List AV} {k:AV→Bool} (V:View h n v es) (hi:es[i]? =some e) (ha:e[0]? =some a) (s:k a=true):(dX h n v (.int J (i:Int)) fun p=>ay h p k)=true:=
 nE V hi fun id g j ld=>aR (by
  rw[ld]
  simp only[lY,cond_false,mM]
  exact ha) s
theorem Y5 (h:ah) (b:Bool):D6 h false .bool (.bool b) (.bool b)=some (.bool true):=by cases b<;>rfl
theorem SY (v:Val):0<cV v:=by cases v;unfold cV;omega
theorem SX (v:Ex):0<cE v:=by cases v;unfold cE;omega
theorem Tm:∀{l:List Val} {j:Nat} {b:Val},l[j]? =some b→cV b≤XI l
 | [],j,b,e=>by simp at e
 |v :: l,0,b,e=>by simp only[List.getElem?_cons_zero,Option.some.injEq] at e;subst e;unfold XI;omega
 |v :: l,j+1,b,e=>by simp only[List.getElem?_cons_succ] at e;have:=Tm e;unfold XI;omega
theorem Ur:∀(l:List Val),l.length≤XI l
 | []=>Nat.le_refl _
 |v :: l=>by have:=Ur l;have:=SY v;unfold XI;simp only[List.length_cons];omega
theorem Uc:∀{l:List Ex} {j:Nat} {b:Ex},l[j]? =some b→cE b≤Rp l
 | [],j,b,e=>by simp at e
 |v :: l,0,b,e=>by simp only[List.getElem?_cons_zero,Option.some.injEq] at e;subst e;unfold Rp;omega
 |v :: l,j+1,b,e=>by simp only[List.getElem?_cons_succ] at e;have:=Uc e;unfold Rp;omega
theorem Vu:∀(l:List Ex),l.length≤Rp l
 | []=>Nat.le_refl _
 |v :: l=>by have:=Vu l;have:=SX v;unfold Rp;simp only[List.length_cons];omega
def big:Nat:=1000000000
section
variable {k:AV→Bool}
theorem J6 {J:IntKind} {x:Int} (s:k (.bool true)=true):dS (.int J x) (.int J x) k=true:=oO (by rw[decide_eq_true rfl];exact s)
theorem zl {J:IntKind} {x:Int} (s:k (.bool false)=true):jF (.int J x) (.int J x) k=true:=eF (by rw[decide_eq_true rfl];exact s)
theorem acj {x:Str} (s:k (.bool true)=true):dS (.str x) (.str x) k=true:=BR (by rw[decide_eq_true rfl];exact s)
theorem yY {x:Str} (s:k (.bool false)=true):jF (.str x) (.str x) k=true:=agW (by rw[decide_eq_true rfl];exact s)
theorem ag2 {h:ah} {b:Bool} (s:k (.bool true)=true):bM (D6 h false .bool (.bool b) (.bool b)) k=true:=oU (Y5 h b) s
theorem VQ (h:ah) (b:Bool):D6 h true .bool (.bool b) (.bool b)=some (.bool false):=by cases b<;>rfl
theorem af4 {h:ah} {b:Bool} (s:k (.bool false)=true):bM (D6 h true .bool (.bool b) (.bool b)) k=true:=oU (VQ h b) s
end
section
variable {n:Nat}
theorem rnd {v:AV} {h:ah} {i:Nat} {R:Bool} {S:AV→Bool} (hi:i<big) (s:S (.int .i64 ((i+1:Nat):Int))=true):(lq (.bool true) fun v11=>aM v11 R (gX (.int .i64 (i:Int)) (.int .i64 1) S))=true:=
 bY (bC (lD (by have:lim=4611686018427387904:=rfl;have:big=1000000000:=rfl;omega) s))
end
def QV (N:Nat):Prop:=∀(n:Nat) (h:ah) (v:Val) (c c':List AV) (K:au),cV v≤N→cV v≤big→3*cV v+6≤n→h.Ok→RW h c v→RW h c' v→(∀h',Ext h h'→h'.Ok→K (.bool true) h'=true)→av E n (.func 48) [.agg c, .agg c'] h K=true
theorem q69 {N:Nat} (Q:QV N) {n:Nat} {h:ah} {l:List Val} {va vb:AV} {es es':List (List AV)} {K:au} (hN:XI l≤N) (hB:XI l≤big) (hn:3*XI l+8≤n) (ho:h.Ok) (V:View h 5 va es) (R:Ns h es l) (V':View h 5 vb es') (R':Ns h es' l)
 (k:∀h',Ext h h'→h'.Ok→K (.bool true) h'=true):av E n (.func 69) [va,vb] h K=true:=by
 obtain⟨n,rfl⟩:∃m,n=m+1:=⟨n-1,by omega⟩
 have hlen:=Ur l
 obtain⟨g1,g2⟩:=R.get
 obtain⟨g1',g2'⟩:=R'.get
 apply d69
 unfold s69
 refine fD V (fD V' (eF ?_))
 rw[g1,g1',decide_eq_true rfl]
 refine bC ?_
 unfold Rh
 have lp:∀(m i:Nat) (h':ah),i≤l.length→l.length-i<m→Ext h h'→h'.Ok→Jd (av E n) n m va vb (.int .i64 (i:Int)) h' K=true:=by
  intro m
  induction m with
  |zero=>intro i h' _ hm;omega
  |succ m ih=>
   intro i h' hi hm e o
   rw[Yk]
   unfold MI
   refine fD (V.ext e) (iZ ?_)
   rw[g1]
   by_cases hlt:i<l.length
   ·rw[decide_eq_true hlt]
    have hb:l[i]? =some l[i]:=List.getElem?_eq_getElem hlt
    generalize l[i]=b at hb
    obtain⟨c,hc,Rc⟩:=g2 i b hb
    obtain⟨c',hc',Rc'⟩:=g2' i b hb
    have hw:=Tm hb
    refine bN (sQ (V.ext e) hc Rc.cells.1 (sQ (V'.ext e) hc' Rc'.cells.1 ?_))
    refine Q _ _ _ _ _ _ (by omega) (by omega) (by omega) o (Rc.ext e) (Rc'.ext e) fun h'' e' o'=> ?_
    refine aI rfl (rnd (v:=va) (h:=h) (by omega) ?_)
    exact ih (i+1) h'' (by omega) (by omega) (e.trans e') o'
   ·rw[decide_eq_false hlt]
    exact bC (k h' e o)
 exact lp n 0 h (Nat.zero_le _) (by omega) (Ext.refl _) ho
theorem qv:∀N,QV N
 |0=>fun n h v c c' K hv _ _ _ _ _ _=>by have:=SY v;omega
 |N+1=>fun n h0 v c c' K hv hB hn ho R R' k=>by
  have Q:=qv N
  obtain⟨n,rfl⟩:∃m,n=m+1:=⟨n-1,by omega⟩
  obtain⟨kd,b,x,t,l⟩:=v
  have A:=Cx.start2 ho (R1:=fun h=>RW h c (.mk kd b x t l)) (R2:=fun h=>RW h c' (.mk kd b x t l)) (fun h' e=>R.ext e) (fun h' e=>R'.ext e)
  have hc:cV (.mk kd b x t l)=t.length+XI l+1:=by simp only[cV]
  simp only[RW] at R R'
  obtain⟨lv,es,rfl,V,Rl⟩:=R
  obtain⟨lv',es',rfl,V',Rl'⟩:=R'
  apply d48
  unfold s48
  refine yO A rfl rfl (by simp only[aD,V.leaf];rfl) fun a h A=> ?_
  refine LQ A rfl rfl (by simp only[aD,V'.leaf];rfl) fun a' h A=> ?_
  repeat first |refine J6 ?_ |refine acj ?_ |refine ag2 ?_ |(with_reducible first |refine aB ?_ |refine bH ?_ |refine dR ?_ |refine dV ?_ |refine aG A.var rfl ?_ |refine aG A.v1 rfl ?_)
  have e0:Ext h0 h:=A.f0
  refine q69 Q (by omega) (by omega) (by omega) A.ok (V.ext e0) (Rl.ext e0) (V'.ext e0) (Rl'.ext e0) fun h' e' o'=> ?_
  refine aI rfl ?_
  unfold Ib
  exact dV (k h' (e0.trans e') o')
def QX (N:Nat):Prop:=∀(n:Nat) (h:ah) (v:Ex) (c c':List AV) (K:au),cE v≤N→cE v≤big→3*cE v+6≤n→h.Ok→RE h c v→RE h c' v→(∀h',Ext h h'→h'.Ok→K (.bool true) h'=true)→av E n (.func 26) [.agg c, .agg c'] h K=true
theorem q46 {N:Nat} (Q:QX N) {n:Nat} {h:ah} {l:List Ex} {va vb:AV} {es es':List (List AV)} {K:au} (hN:Rp l≤N) (hB:Rp l≤big) (hn:3*Rp l+8≤n) (ho:h.Ok) (V:View h 8 va es) (R:oG h es l) (V':View h 8 vb es') (R':oG h es' l)
 (k:∀h',Ext h h'→h'.Ok→K (.bool true) h'=true):av E n (.func 46) [va,vb] h K=true:=by
 obtain⟨n,rfl⟩:∃m,n=m+1:=⟨n-1,by omega⟩
 have hlen:=Vu l
 obtain⟨g1,g2⟩:=R.get
 obtain⟨g1',g2'⟩:=R'.get
 apply d46
 unfold s46
 refine fD V (fD V' (eF ?_))
 rw[g1,g1',decide_eq_true rfl]
 refine bC ?_
 unfold Ta
 have lp:∀(m i:Nat) (h':ah),i≤l.length→l.length-i<m→Ext h h'→h'.Ok→Hw (av E n) n m va vb (.int .i64 (i:Int)) h' K=true:=by
  intro m
  induction m with
  |zero=>intro i h' _ hm;omega
  |succ m ih=>
   intro i h' hi hm e o
   rw[ZW]
   unfold Mk
   refine fD (V.ext e) (iZ ?_)
   rw[g1]
   by_cases hlt:i<l.length
   ·rw[decide_eq_true hlt]
    have hb:l[i]? =some l[i]:=List.getElem?_eq_getElem hlt
    generalize l[i]=b at hb
    obtain⟨c,hc,Rc⟩:=g2 i b hb
    obtain⟨c',hc',Rc'⟩:=g2' i b hb
    have hw:=Uc hb
    refine bN (sQ (V.ext e) hc Rc.cells.1 (sQ (V'.ext e) hc' Rc'.cells.1 ?_))
    refine Q _ _ _ _ _ _ (by omega) (by omega) (by omega) o (Rc.ext e) (Rc'.ext e) fun h'' e' o'=> ?_
    refine aI rfl (rnd (v:=va) (h:=h) (by omega) ?_)
    exact ih (i+1) h'' (by omega) (by omega) (e.trans e') o'
   ·rw[decide_eq_false hlt]
    exact bC (k h' e o)
 exact lp n 0 h (Nat.zero_le _) (by omega) (Ext.refl _) ho
theorem Z0 {h:ah} {a:Nat} {x y z:AV} {cv:List AV} {k:AV→Bool} (V:Var h a (x :: y :: (cv++[z]))) (hl:cv.length=5) (s:k (.agg cv)=true):bL h 5 (.ptr a 0 0 2) k=true:=by
 refine aL V (aK.2 (by simp;omega)) ?_
 rw[show((x :: y :: (cv++[z])).drop 2).take 5=cv from by simp only[List.drop_succ_cons,List.drop_zero];rw[List.take_append_of_le_length (by omega),List.take_of_length_le (by omega)]]
 exact s
theorem ab9 {h:ah} {a:Nat} {x y z:AV} {cv:List AV} {k:AV→Bool} (V:Var h a (x :: y :: (cv++[z]))) (hl:cv.length=5) (s:k z=true):ay h (.ptr a 0 0 7) k=true:=by
 refine aG V ?_ s
 simp only[List.getElem?_cons_succ]
 rw[List.getElem?_append_right (by omega),hl];rfl
theorem qx:∀N,QX N
 |0=>fun n h v c c' K hv _ _ _ _ _ _=>by have:=SX v;omega
 |N+1=>fun n h0 v c c' K hv hB hn ho R R' k=>by
  have Q:=qx N
  obtain⟨n,rfl⟩:∃m,n=m+1:=⟨n-1,by omega⟩
  obtain⟨op,t,v,l⟩:=v
  have A:=Cx.start2 ho (R1:=fun h=>RE h c (.mk op t v l)) (R2:=fun h=>RE h c' (.mk op t v l)) (fun h' e=>R.ext e) (fun h' e=>R'.ext e)
  have hc:cE (.mk op t v l)=t.length+cV v+Rp l+1:=by simp only[cE]
  have hcv:=SY v
  have C1:=R.cells
  have C2:=R'.cells
  simp only[RE] at R R'
  obtain⟨cv,va,es,rfl,W,V,Rl⟩:=R
  obtain⟨cv',va',es',rfl,W',V',Rl'⟩:=R'
  apply d26
  unfold s26
  refine yO A C1.1 rfl C1.2.1 fun a h A=> ?_
  refine LQ A C2.1 rfl C2.2.1 fun a' h A=> ?_
  have A:=A.swapL
  repeat first |refine J6 ?_ |refine acj ?_ |refine Z0 A.var W'.cells.1 ?_ |refine Z0 A.v1 W.cells.1 ?_ |(with_reducible first |refine aB ?_ |refine bH ?_ |refine dR ?_ |refine dV ?_ |refine aG A.var rfl ?_ |refine aG A.v1 rfl ?_)
  have e0:Ext h0 h:=A.f0
  refine qv _ _ _ _ _ _ _ (Nat.le_refl _) (by omega) (by omega) A.ok (W.ext e0) (W'.ext e0) fun h' e' o'=> ?_
  have A:=A.ext e' o'
  have e0:=e0.trans e'
  refine aI rfl ?_
  unfold Ia
  refine ab9 A.v1 W.cells.1 ?_;refine ab9 A.var W'.cells.1 ?_;refine dR ?_
  refine q46 Q (by omega) (by omega) (by omega) A.ok (V.ext e0) (Rl.ext e0) (V'.ext e0) (Rl'.ext e0) fun h'' e'' o''=> ?_
  refine aI rfl ?_
  unfold Gj
  exact dV (k h'' (e0.trans e'') o'')
theorem c26 {n:Nat} {h:ah} {v:Ex} {c c':List AV} {K:au} (hB:cE v≤big) (hn:3*cE v+6≤n) (ho:h.Ok) (R:RE h c v) (R':RE h c' v) (k:∀h',Ext h h'→h'.Ok→K (.bool true) h'=true):av E n (.func 26) [.agg c, .agg c'] h K=true:=
 qx _ _ _ _ _ _ _ (Nat.le_refl _) hB hn ho R R' k
theorem c46 {n:Nat} {h:ah} {l:List Ex} {va vb:AV} {es es':List (List AV)} {K:au} (hB:Rp l≤big) (hn:3*Rp l+8≤n) (ho:h.Ok) (V:View h 8 va es) (R:oG h es l) (V':View h 8 vb es') (R':oG h es' l)
 (k:∀h',Ext h h'→h'.Ok→K (.bool true) h'=true):av E n (.func 46) [va,vb] h K=true:=q46 (qx _) (Nat.le_refl _) hB hn ho V R V' R' k
theorem qw.ext {h h':ah} (e:Ext h h'):∀{a:List (List AV)} {l:List (Str×Ex)},qw h a l→qw h' a l
 |a,[],H=>by simp only[qw] at H ⊢;exact H
 |a,v :: l,H=>by
  simp only[qw] at H ⊢
  obtain⟨c,r,h1,h2,h3⟩:=H
  exact⟨c,r,h1,h2.ext e,qw.ext e h3⟩
mutual
theorem RC.ext {h h':ah} (e:Ext h h'):∀{a:List AV} {v:Cd},RC h a v→RC h' a v
 |a, .mk kind var cls binds tests conds thn alts ex fn name args,H=>by
  simp only[RC] at H ⊢
  obtain⟨vb,vt,et,vc,ec,vn,en,va,ea,ce,vg,eg,h0,h1,h2,h3,h4,h5,h6,h7,h8,h9,h10,h11,h12⟩:=H
  exact⟨vb,vt,et,vc,ec,vn,en,va,ea,ce,vg,eg,h0,h1.ext e,h2.ext e,h3.ext e,h4.ext e,jY.ext e h5,h6.ext e,jY.ext e h7,h8.ext e,jg.ext e h9,h10.ext e,h11.ext e,h12.ext e⟩
theorem jY.ext {h h':ah} (e:Ext h h'):∀{a:List (List AV)} {l:List Cd},jY h a l→jY h' a l
 |a,[],H=>by simp only[jY] at H ⊢;exact H
 |a,v :: l,H=>by
  simp only[jY] at H ⊢
  obtain⟨c,r,h1,h2,h3⟩:=H
  exact⟨c,r,h1,RC.ext e h2,jY.ext e h3⟩
theorem jg.ext {h h':ah} (e:Ext h h'):∀{a:List (List AV)} {l:List (List Cd)},jg h a l→jg h' a l
 |a,[],H=>by simp only[jg] at H ⊢;exact H
 |a,v :: l,H=>by
  simp only[jg] at H ⊢
  obtain⟨c,ec,r,h1,h2,h3,h4⟩:=H
  exact⟨c,ec,r,h1,h2.ext e,jY.ext e h3,jg.ext e h4⟩
end
theorem qw.get {h:ah}:∀{es:List (List AV)} {l:List (Str×Ex)},qw h es l→es.length=l.length∧∀(j:Nat) (b:Str×Ex),l[j]? =some b→∃c,es[j]? =some (.str b.1 :: c)∧RE h c b.2
 |es,[],R=>by simp only[qw] at R;subst R;exact⟨rfl,fun j b e=>by simp at e⟩
 |es,v :: l,R=>by
  simp only[qw] at R
  obtain⟨c,r,rfl,R1,R2⟩:=R
  obtain⟨h1,h2⟩:=qw.get R2
  refine⟨by simp[h1],fun j b e=> ?_⟩
  cases j with
  |zero=>simp only[List.getElem?_cons_zero,Option.some.injEq] at e ⊢;subst e;exact⟨c,rfl,R1⟩
  |succ j=>simp only[List.getElem?_cons_succ] at e ⊢;exact h2 j b e
theorem jY.get {h:ah}:∀{es:List (List AV)} {l:List Cd},jY h es l→es.length=l.length∧∀(j:Nat) (b:Cd),l[j]? =some b→∃c,es[j]? =some c∧RC h c b
 |es,[],R=>by simp only[jY] at R;subst R;exact⟨rfl,fun j b e=>by simp at e⟩
 |es,v :: l,R=>by
  simp only[jY] at R
  obtain⟨c,r,rfl,R1,R2⟩:=R
  obtain⟨h1,h2⟩:=jY.get R2
  refine⟨by simp[h1],fun j b e=> ?_⟩
  cases j with
  |zero=>simp only[List.getElem?_cons_zero,Option.some.injEq] at e ⊢;subst e;exact⟨c,rfl,R1⟩
  |succ j=>simp only[List.getElem?_cons_succ] at e ⊢;exact h2 j b e
theorem jg.get {h:ah}:∀{es:List (List AV)} {l:List (List Cd)},jg h es l→es.length=l.length∧∀(j:Nat) (b:List Cd),l[j]? =some b→∃v ec,es[j]? =some [v]∧View h 19 v ec∧jY h ec b
 |es,[],R=>by simp only[jg] at R;subst R;exact⟨rfl,fun j b e=>by simp at e⟩
 |es,v :: l,R=>by
  simp only[jg] at R
  obtain⟨c,ec,r,rfl,R1,R2,R3⟩:=R
  obtain⟨h1,h2⟩:=jg.get R3
  refine⟨by simp[h1],fun j b e=> ?_⟩
  cases j with
  |zero=>simp only[List.getElem?_cons_zero,Option.some.injEq] at e ⊢;subst e;exact⟨c,ec,rfl,R1,R2⟩
  |succ j=>simp only[List.getElem?_cons_succ] at e ⊢;exact h2 j b e
theorem YP (v:Cd):0<cC v:=by cases v;unfold cC;omega
theorem UA:∀{l:List Cd} {j:Nat} {b:Cd},l[j]? =some b→cC b≤JO l
 | [],j,b,e=>by simp at e
 |v :: l,0,b,e=>by simp only[List.getElem?_cons_zero,Option.some.injEq] at e;subst e;unfold JO;omega
 |v :: l,j+1,b,e=>by simp only[List.getElem?_cons_succ] at e;have:=UA e;unfold JO;omega
theorem VB:∀(l:List Cd),l.length≤JO l
 | []=>Nat.le_refl _
 |v :: l=>by have:=VB l;have:=YP v;unfold JO;simp only[List.length_cons];omega
theorem Oj:∀{l:List (List Cd)} {j:Nat} {b:List Cd},l[j]? =some b→JO b+1≤JB l
 | [],j,b,e=>by simp at e
 |v :: l,0,b,e=>by simp only[List.getElem?_cons_zero,Option.some.injEq] at e;subst e;unfold JB;omega
 |v :: l,j+1,b,e=>by simp only[List.getElem?_cons_succ] at e;have:=Oj e;unfold JB;omega
theorem Oz:∀(l:List (List Cd)),l.length≤JB l
 | []=>Nat.le_refl _
 |v :: l=>by have:=Oz l;unfold JB;simp only[List.length_cons];omega
theorem SK:∀{l:List (Str×Ex)} {j:Nat} {b:Str×Ex},l[j]? =some b→cE b.2≤cG l
 | [],j,b,e=>by simp at e
 |v :: l,0,b,e=>by simp only[List.getElem?_cons_zero,Option.some.injEq] at e;subst e;unfold cG;omega
 |v :: l,j+1,b,e=>by simp only[List.getElem?_cons_succ] at e;have:=SK e;unfold cG;omega
theorem QM:∀(l:List (Str×Ex)),l.length≤cG l
 | []=>Nat.le_refl _
 |v :: l=>by have:=QM l;unfold cG;simp only[List.length_cons];omega
theorem Yi:∀(l:List (Str×Str)),l.length≤cB l
 | []=>Nat.le_refl _
 |v :: l=>by have:=Yi l;unfold cB;simp only[List.length_cons];omega
theorem aes (h:ah) (b:Str×Str):D6 h true (.agg [.str, .str]) (.agg (nR b)) (.agg (nR b))=some (.bool false):=by
 simp only[D6,TS,UW,nR,r9,pW,cond_true,mZ,qX,pX,decide_true,Bool.not_true]
theorem acL (h:ah) (b:Ey):D6 h true (.agg [.str, .int, .str]) (.agg (oQ b)) (.agg (oQ b))=some (.bool false):=by
 simp only[D6,TS,UW,oQ,r9,pW,cond_true,mZ,qX,pX,qb,decide_true,Bool.not_true,Nat.beq_refl]
def QC (N:Nat):Prop:=∀(n:Nat) (h:ah) (v:Cd) (c c':List AV) (K:au),cC v≤N→cC v≤big→3*cC v+6≤n→h.Ok→RC h c v→RC h c' v→(∀h',Ext h h'→h'.Ok→K (.bool true) h'=true)→av E n (.func 25) [.agg c, .agg c'] h K=true
theorem q15 {N:Nat} (Q:QC N) {n:Nat} {h:ah} {l:List Cd} {va vb:AV} {es es':List (List AV)} {K:au} (hN:JO l≤N) (hB:JO l≤big) (hn:3*JO l+8≤n) (ho:h.Ok) (V:View h 19 va es) (R:jY h es l) (V':View h 19 vb es') (R':jY h es' l)
 (k:∀h',Ext h h'→h'.Ok→K (.bool true) h'=true):av E n (.func 15) [va,vb] h K=true:=by
 obtain⟨n,rfl⟩:∃m,n=m+1:=⟨n-1,by omega⟩
 have hlen:=VB l
 obtain⟨g1,g2⟩:=R.get
 obtain⟨g1',g2'⟩:=R'.get
 apply d15
 unfold s15
 refine fD V (fD V' (eF ?_))
 rw[g1,g1',decide_eq_true rfl]
 refine bC ?_
 unfold QW
 have lp:∀(m i:Nat) (h':ah),i≤l.length→l.length-i<m→Ext h h'→h'.Ok→IL (av E n) n m va vb (.int .i64 (i:Int)) h' K=true:=by
  intro m
  induction m with
  |zero=>intro i h' _ hm;omega
  |succ m ih=>
   intro i h' hi hm e o
   rw[Yc]
   unfold LY
   refine fD (V.ext e) (iZ ?_)
   rw[g1]
   by_cases hlt:i<l.length
   ·rw[decide_eq_true hlt]
    have hb:l[i]? =some l[i]:=List.getElem?_eq_getElem hlt
    generalize l[i]=b at hb
    obtain⟨c,hc,Rc⟩:=g2 i b hb
    obtain⟨c',hc',Rc'⟩:=g2' i b hb
    have hw:=UA hb
    refine bN (sQ (V.ext e) hc Rc.cells.1 (sQ (V'.ext e) hc' Rc'.cells.1 ?_))
    refine Q _ _ _ _ _ _ (by omega) (by omega) (by omega) o (Rc.ext e) (Rc'.ext e) fun h'' e' o'=> ?_
    refine aI rfl (rnd (v:=va) (h:=h) (by omega) ?_)
    exact ih (i+1) h'' (by omega) (by omega) (e.trans e') o'
   ·rw[decide_eq_false hlt]
    exact bC (k h' e o)
 exact lp n 0 h (Nat.zero_le _) (by omega) (Ext.refl _) ho
theorem q47 {N:Nat} (Q:QC N) {n:Nat} {h:ah} {l:List (List Cd)} {va vb:AV} {es es':List (List AV)} {K:au} (hN:JB l≤N) (hB:JB l≤big) (hn:3*JB l+9≤n) (ho:h.Ok) (V:View h 1 va es) (R:jg h es l) (V':View h 1 vb es') (R':jg h es' l)
 (k:∀h',Ext h h'→h'.Ok→K (.bool true) h'=true):av E n (.func 47) [va,vb] h K=true:=by
 obtain⟨n,rfl⟩:∃m,n=m+1:=⟨n-1,by omega⟩
 have hlen:=Oz l
 obtain⟨g1,g2⟩:=R.get
 obtain⟨g1',g2'⟩:=R'.get
 apply d47
 unfold s47
 refine fD V (fD V' (eF ?_))
 rw[g1,g1',decide_eq_true rfl]
 refine bC ?_
 unfold Sv
 have lp:∀(m i:Nat) (h':ah),i≤l.length→l.length-i<m→Ext h h'→h'.Ok→G8 (av E n) n m va vb (.int .i64 (i:Int)) h' K=true:=by
  intro m
  induction m with
  |zero=>intro i h' _ hm;omega
  |succ m ih=>
   intro i h' hi hm e o
   rw[X9]
   unfold Mj
   refine fD (V.ext e) (iZ ?_)
   rw[g1]
   by_cases hlt:i<l.length
   ·rw[decide_eq_true hlt]
    have hb:l[i]? =some l[i]:=List.getElem?_eq_getElem hlt
    generalize l[i]=b at hb
    obtain⟨v,ec,hc,Vc,Rc⟩:=g2 i b hb
    obtain⟨v',ec',hc',Vc',Rc'⟩:=g2' i b hb
    have hw:=Oj hb
    refine bN (Pw (V.ext e) hc rfl (Pw (V'.ext e) hc' rfl ?_))
    refine q15 Q (by omega) (by omega) (by omega) o (Vc.ext e) (Rc.ext e) (Vc'.ext e) (Rc'.ext e) fun h'' e' o'=> ?_
    refine aI rfl (rnd (v:=va) (h:=h) (by omega) ?_)
    exact ih (i+1) h'' (by omega) (by omega) (e.trans e') o'
   ·rw[decide_eq_false hlt]
    exact bC (k h' e o)
 exact lp n 0 h (Nat.zero_le _) (by omega) (Ext.refl _) ho
set_option maxRecDepth 100000 in
theorem qc:∀N,QC N
 |0=>fun n h v c c' K hv _ _ _ _ _ _=>by have:=YP v;omega
 |N+1=>fun n h0 v c c' K hv hB hn ho R R' k=>by
  have Q:=qc N
  have hbig:big=1000000000:=rfl
  have hlim:lim=4611686018427387904:=rfl
  obtain⟨n,rfl⟩:∃m,n=m+1:=⟨n-1,by omega⟩
  obtain⟨kind,var,cls,binds,tests,conds,thn,alts,ex,fn,name,args⟩:=v
  have hc:cC (.mk kind var cls binds tests conds thn alts ex fn name args)=var.length+cls.length+cB binds+Rp tests+JO conds+JO thn+JB alts+cE ex+fn.length+name.length+cG args+1:=by simp only[cC]
  have hce:=SX ex
  have hbl:=Yi binds
  have hgl:=QM args
  have C1:=R.cells
  have C2:=R'.cells
  simp only[RC] at R R'
  obtain⟨vb,vt,et,vc,ec,vn,en,va,ea,ce,vg,eg,rfl,Vb,Vt,Rt,Vc,Rc,Vn,Rn,Va,Ra,Re,Vg,Rg⟩:=R
  obtain⟨vb',vt',et',vc',ec',vn',en',va',ea',ce',vg',eg',rfl,Vb',Vt',Rt',Vc',Rc',Vn',Rn',Va',Ra',Re',Vg',Rg'⟩:=R'
  obtain⟨x0,x1,x2,x3,x4,x5,x6,x7,rfl⟩:=len8 Re.cells.1
  obtain⟨y0,y1,y2,y3,y4,y5,y6,y7,rfl⟩:=len8 Re'.cells.1
  simp only[List.cons_append,List.nil_append] at C1 C2 ⊢
  have A:=Cx.start ho (F:=[]) (fun R m=>nomatch m)
  obtain⟨gg1,gg2⟩:=Rg.get
  obtain⟨gg1',gg2'⟩:=Rg'.get
  apply d25
  unfold s25
  refine yO A C1.1 rfl C1.2.1 fun a h A=> ?_
  refine LQ A C2.1 rfl C2.2.1 fun a' h A=> ?_
  have A:=A.swapL
  have e0:Ext h0 h:=A.f0
  repeat first |refine zl ?_ |refine yY ?_ |refine fD (Vb.ext e0) ?_ |refine fD (Vb'.ext e0) ?_ |(with_reducible first |refine aB ?_ |refine aY ?_ |refine bY ?_ |refine dn ?_ |refine bN ?_ |refine bC ?_ |refine bH ?_ |refine bV ?_ |refine dR ?_ |refine eX ?_ |refine dV ?_ |refine eG ?_ |refine eY ?_ |refine eF ?_ |refine aG A.var rfl ?_ |refine aG A.v1 rfl ?_ |refine aG A.v2 rfl ?_ |refine aG A.v3 rfl ?_ |refine aL A.var rfl ?_ |refine aL A.v1 rfl ?_ |refine aL A.v2 rfl ?_ |refine aL A.v3 rfl ?_)
  repeat first |refine zl ?_ |refine yY ?_ |refine fD (Vg.ext e0) ?_ |refine fD (Vg'.ext e0) ?_ |(with_reducible first |refine aB ?_ |refine aY ?_ |refine bY ?_ |refine dn ?_ |refine bN ?_ |refine bC ?_ |refine bH ?_ |refine bV ?_ |refine dR ?_ |refine eX ?_ |refine dV ?_ |refine eG ?_ |refine eY ?_ |refine eF ?_ |refine aG A.var rfl ?_ |refine aG A.v1 rfl ?_ |refine aG A.v2 rfl ?_ |refine aG A.v3 rfl ?_ |refine aL A.var rfl ?_ |refine aL A.v1 rfl ?_ |refine aL A.v2 rfl ?_ |refine aL A.v3 rfl ?_)
  rw[gg1,gg1',decide_eq_true rfl]
  repeat first |(with_reducible first |refine aB ?_ |refine aY ?_ |refine bY ?_ |refine dn ?_ |refine bN ?_ |refine bC ?_ |refine bH ?_ |refine bV ?_ |refine dR ?_ |refine eX ?_ |refine dV ?_ |refine eG ?_ |refine eY ?_ |refine eF ?_ |refine aG A.var rfl ?_ |refine aG A.v1 rfl ?_ |refine aG A.v2 rfl ?_ |refine aG A.v3 rfl ?_ |refine aL A.var rfl ?_ |refine aL A.v1 rfl ?_ |refine aL A.v2 rfl ?_ |refine aL A.v3 rfl ?_)
  unfold QH
  have l1:∀(m i:Nat),i≤binds.length→binds.length-i<m→(Ll (av E n) n (.ptr a 0 0 0) (.ptr a' 0 0 0) h K=true)→Gs (av E n) n m (.ptr a 0 0 0) (.ptr a' 0 0 0) (.int .i64 (i:Int)) h K=true:=by
   intro m
   induction m with
   |zero=>intro i _ hm;omega
   |succ m ih=>
    intro i hi hm kk
    rw[Yl]
    unfold MZ
    repeat first |refine fD (Vb.ext e0) ?_ |refine iZ ?_ |(with_reducible first |refine aB ?_ |refine aY ?_ |refine bY ?_ |refine dn ?_ |refine bN ?_ |refine bC ?_ |refine bH ?_ |refine bV ?_ |refine dR ?_ |refine eX ?_ |refine dV ?_ |refine eG ?_ |refine eY ?_ |refine eF ?_ |refine aG A.var rfl ?_ |refine aG A.v1 rfl ?_ |refine aG A.v2 rfl ?_ |refine aG A.v3 rfl ?_ |refine aL A.var rfl ?_ |refine aL A.v1 rfl ?_ |refine aL A.v2 rfl ?_ |refine aL A.v3 rfl ?_)
    rw[List.length_map]
    by_cases hlt:i<binds.length
    ·rw[decide_eq_true hlt]
     have hb:binds[i]? =some binds[i]:=List.getElem?_eq_getElem hlt
     generalize binds[i]=b at hb
     have hb':(binds.map nR)[i]? =some (nR b):=by rw[List.getElem?_map,hb];rfl
     repeat first |refine sQ (Vb.ext e0) hb' rfl ?_ |(with_reducible first |refine aB ?_ |refine aY ?_ |refine bY ?_ |refine dn ?_ |refine bN ?_ |refine bC ?_ |refine bH ?_ |refine bV ?_ |refine dR ?_ |refine eX ?_ |refine dV ?_ |refine eG ?_ |refine eY ?_ |refine eF ?_ |refine aG A.var rfl ?_ |refine aG A.v1 rfl ?_ |refine aG A.v2 rfl ?_ |refine aG A.v3 rfl ?_ |refine aL A.var rfl ?_ |refine aL A.v1 rfl ?_ |refine aL A.v2 rfl ?_ |refine aL A.v3 rfl ?_)
     repeat first |refine sQ (Vb'.ext e0) hb' rfl ?_ |refine oU (aes _ _) ?_ |(with_reducible first |refine aB ?_ |refine aY ?_ |refine bY ?_ |refine dn ?_ |refine bN ?_ |refine bC ?_ |refine bH ?_ |refine bV ?_ |refine dR ?_ |refine eX ?_ |refine dV ?_ |refine eG ?_ |refine eY ?_ |refine eF ?_ |refine aG A.var rfl ?_ |refine aG A.v1 rfl ?_ |refine aG A.v2 rfl ?_ |refine aG A.v3 rfl ?_ |refine aL A.var rfl ?_ |refine aL A.v1 rfl ?_ |refine aL A.v2 rfl ?_ |refine aL A.v3 rfl ?_)
     refine lD (by omega) ?_
     exact ih (i+1) (by omega) (by omega) kk
    ·rw[decide_eq_false hlt]
     exact bC kk
  refine l1 n 0 (Nat.zero_le _) (by omega) ?_
  unfold Ll
  have l2:∀(m i:Nat) (h:ah),i≤args.length→args.length-i<m→Cx h [vr a' [AV.int IntKind.i64 kind,AV.str var,AV.str cls,vb',vt',vc',vn',va',y0,y1,y2,y3,y4,y5,y6,y7,AV.str fn,AV.str name,vg'],vr a [AV.int IntKind.i64 kind,AV.str var,AV.str cls,vb,vt,vc,vn,va,x0,x1,x2,x3,x4,x5,x6,x7,AV.str fn,AV.str name,vg]] [] [Ext h0]→
   (∀h,Cx h [vr a' [AV.int IntKind.i64 kind,AV.str var,AV.str cls,vb',vt',vc',vn',va',y0,y1,y2,y3,y4,y5,y6,y7,AV.str fn,AV.str name,vg'],vr a [AV.int IntKind.i64 kind,AV.str var,AV.str cls,vb,vt,vc,vn,va,x0,x1,x2,x3,x4,x5,x6,x7,AV.str fn,AV.str name,vg]] [] [Ext h0]→L6 (av E n) n (.ptr a 0 0 0) (.ptr a' 0 0 0) h K=true)→Jj (av E n) n m (.ptr a 0 0 0) (.ptr a' 0 0 0) (.int .i64 (i:Int)) h K=true:=by
   intro m
   induction m with
   |zero=>intro i h _ hm;omega
   |succ m ih=>
    intro i h hi hm A kk
    have e0:Ext h0 h:=A.f0
    rw[YL]
    unfold Lf
    repeat first |refine fD (Vg.ext e0) ?_ |refine iZ ?_ |(with_reducible first |refine aB ?_ |refine aY ?_ |refine bY ?_ |refine dn ?_ |refine bN ?_ |refine bC ?_ |refine bH ?_ |refine bV ?_ |refine dR ?_ |refine eX ?_ |refine dV ?_ |refine eG ?_ |refine eY ?_ |refine eF ?_ |refine aG A.var rfl ?_ |refine aG A.v1 rfl ?_ |refine aG A.v2 rfl ?_ |refine aG A.v3 rfl ?_ |refine aL A.var rfl ?_ |refine aL A.v1 rfl ?_ |refine aL A.v2 rfl ?_ |refine aL A.v3 rfl ?_)
    rw[gg1]
    by_cases hlt:i<args.length
    ·rw[decide_eq_true hlt]
     have hb:args[i]? =some args[i]:=List.getElem?_eq_getElem hlt
     generalize args[i]=b at hb
     have hw:=SK hb
     obtain⟨c,hc,R⟩:=gg2 i b hb
     obtain⟨c',hc',R'⟩:=gg2' i b hb
     obtain⟨w0,w1,w2,w3,w4,w5,w6,w7,rfl⟩:=len8 R.cells.1
     obtain⟨z0,z1,z2,z3,z4,z5,z6,z7,rfl⟩:=len8 R'.cells.1
     repeat first |(with_reducible first |refine aB ?_ |refine aY ?_ |refine bY ?_ |refine dn ?_ |refine bN ?_ |refine bC ?_ |refine bH ?_ |refine bV ?_ |refine dR ?_ |refine eX ?_ |refine dV ?_ |refine eG ?_ |refine eY ?_ |refine eF ?_ |refine aG A.var rfl ?_ |refine aG A.v1 rfl ?_ |refine aG A.v2 rfl ?_ |refine aG A.v3 rfl ?_ |refine aL A.var rfl ?_ |refine aL A.v1 rfl ?_ |refine aL A.v2 rfl ?_ |refine aL A.v3 rfl ?_)
     refine nE (Vg.ext e0) hc fun i1 g1 j1 q1=> ?_
     repeat first |refine aR (q1 false 0 1) ?_ |(with_reducible first |refine aB ?_ |refine aY ?_ |refine bY ?_ |refine dn ?_ |refine bN ?_ |refine bC ?_ |refine bH ?_ |refine bV ?_ |refine dR ?_ |refine eX ?_ |refine dV ?_ |refine eG ?_ |refine eY ?_ |refine eF ?_ |refine aG A.var rfl ?_ |refine aG A.v1 rfl ?_ |refine aG A.v2 rfl ?_ |refine aG A.v3 rfl ?_ |refine aL A.var rfl ?_ |refine aL A.v1 rfl ?_ |refine aL A.v2 rfl ?_ |refine aL A.v3 rfl ?_)
     refine nE (Vg'.ext e0) hc' fun i2 g2 j2 q2=> ?_
     repeat first |refine aR (q2 false 0 1) ?_ |refine yY ?_ |(with_reducible first |refine aB ?_ |refine aY ?_ |refine bY ?_ |refine dn ?_ |refine bN ?_ |refine bC ?_ |refine bH ?_ |refine bV ?_ |refine dR ?_ |refine eX ?_ |refine dV ?_ |refine eG ?_ |refine eY ?_ |refine eF ?_ |refine aG A.var rfl ?_ |refine aG A.v1 rfl ?_ |refine aG A.v2 rfl ?_ |refine aG A.v3 rfl ?_ |refine aL A.var rfl ?_ |refine aL A.v1 rfl ?_ |refine aL A.v2 rfl ?_ |refine aL A.v3 rfl ?_)
     refine nE (Vg.ext e0) hc fun i1 g1 j1 q1=> ?_
     repeat first |refine pR (q1 true 1 8) ?_ |(with_reducible first |refine aB ?_ |refine aY ?_ |refine bY ?_ |refine dn ?_ |refine bN ?_ |refine bC ?_ |refine bH ?_ |refine bV ?_ |refine dR ?_ |refine eX ?_ |refine dV ?_ |refine eG ?_ |refine eY ?_ |refine eF ?_ |refine aG A.var rfl ?_ |refine aG A.v1 rfl ?_ |refine aG A.v2 rfl ?_ |refine aG A.v3 rfl ?_ |refine aL A.var rfl ?_ |refine aL A.v1 rfl ?_ |refine aL A.v2 rfl ?_ |refine aL A.v3 rfl ?_)
     refine nE (Vg'.ext e0) hc' fun i2 g2 j2 q2=> ?_
     repeat first |refine pR (q2 true 1 8) ?_ |(with_reducible first |refine aB ?_ |refine aY ?_ |refine bY ?_ |refine dn ?_ |refine bN ?_ |refine bC ?_ |refine bH ?_ |refine bV ?_ |refine dR ?_ |refine eX ?_ |refine dV ?_ |refine eG ?_ |refine eY ?_ |refine eF ?_ |refine aG A.var rfl ?_ |refine aG A.v1 rfl ?_ |refine aG A.v2 rfl ?_ |refine aG A.v3 rfl ?_ |refine aL A.var rfl ?_ |refine aL A.v1 rfl ?_ |refine aL A.v2 rfl ?_ |refine aL A.v3 rfl ?_)
     refine c26 (by omega) (by omega) A.ok (R.ext e0) (R'.ext e0) fun h' e' o'=> ?_
     refine aI rfl ?_
     repeat first |(with_reducible first |refine aB ?_ |refine aY ?_ |refine bY ?_ |refine dn ?_ |refine bN ?_ |refine bC ?_ |refine bH ?_ |refine bV ?_ |refine dR ?_ |refine eX ?_ |refine dV ?_ |refine eG ?_ |refine eY ?_ |refine eF ?_ |refine aG A.var rfl ?_ |refine aG A.v1 rfl ?_ |refine aG A.v2 rfl ?_ |refine aG A.v3 rfl ?_ |refine aL A.var rfl ?_ |refine aL A.v1 rfl ?_ |refine aL A.v2 rfl ?_ |refine aL A.v3 rfl ?_)
     refine lD (by omega) ?_
     exact ih (i+1) h' (by omega) (by omega) (A.ext e' o') kk
    ·rw[decide_eq_false hlt]
     exact bC (kk h A)
  refine l2 n 0 h (Nat.zero_le _) (by omega) A fun h A=> ?_
  unfold L6
  repeat first |(with_reducible first |refine aB ?_ |refine aY ?_ |refine bY ?_ |refine dn ?_ |refine bN ?_ |refine bC ?_ |refine bH ?_ |refine bV ?_ |refine dR ?_ |refine eX ?_ |refine dV ?_ |refine eG ?_ |refine eY ?_ |refine eF ?_ |refine aG A.var rfl ?_ |refine aG A.v1 rfl ?_ |refine aG A.v2 rfl ?_ |refine aG A.v3 rfl ?_ |refine aL A.var rfl ?_ |refine aL A.v1 rfl ?_ |refine aL A.v2 rfl ?_ |refine aL A.v3 rfl ?_)
  have e0:Ext h0 h:=A.f0
  refine c46 (by omega) (by omega) A.ok (Vt.ext e0) (Rt.ext e0) (Vt'.ext e0) (Rt'.ext e0) fun h e' o'=> ?_
  have A:=A.ext e' o'
  refine aI rfl ?_
  unfold Db
  repeat first |(with_reducible first |refine aB ?_ |refine aY ?_ |refine bY ?_ |refine dn ?_ |refine bN ?_ |refine bC ?_ |refine bH ?_ |refine bV ?_ |refine dR ?_ |refine eX ?_ |refine dV ?_ |refine eG ?_ |refine eY ?_ |refine eF ?_ |refine aG A.var rfl ?_ |refine aG A.v1 rfl ?_ |refine aG A.v2 rfl ?_ |refine aG A.v3 rfl ?_ |refine aL A.var rfl ?_ |refine aL A.v1 rfl ?_ |refine aL A.v2 rfl ?_ |refine aL A.v3 rfl ?_)
  have e0:Ext h0 h:=A.f0
  refine q15 Q (by omega) (by omega) (by omega) A.ok (Vc.ext e0) (Rc.ext e0) (Vc'.ext e0) (Rc'.ext e0) fun h e' o'=> ?_
  have A:=A.ext e' o'
  refine aI rfl ?_
  unfold Dp
  repeat first |(with_reducible first |refine aB ?_ |refine aY ?_ |refine bY ?_ |refine dn ?_ |refine bN ?_ |refine bC ?_ |refine bH ?_ |refine bV ?_ |refine dR ?_ |refine eX ?_ |refine dV ?_ |refine eG ?_ |refine eY ?_ |refine eF ?_ |refine aG A.var rfl ?_ |refine aG A.v1 rfl ?_ |refine aG A.v2 rfl ?_ |refine aG A.v3 rfl ?_ |refine aL A.var rfl ?_ |refine aL A.v1 rfl ?_ |refine aL A.v2 rfl ?_ |refine aL A.v3 rfl ?_)
  have e0:Ext h0 h:=A.f0
  refine q15 Q (by omega) (by omega) (by omega) A.ok (Vn.ext e0) (Rn.ext e0) (Vn'.ext e0) (Rn'.ext e0) fun h e' o'=> ?_
  have A:=A.ext e' o'
  refine aI rfl ?_
  unfold Dk
  repeat first |(with_reducible first |refine aB ?_ |refine aY ?_ |refine bY ?_ |refine dn ?_ |refine bN ?_ |refine bC ?_ |refine bH ?_ |refine bV ?_ |refine dR ?_ |refine eX ?_ |refine dV ?_ |refine eG ?_ |refine eY ?_ |refine eF ?_ |refine aG A.var rfl ?_ |refine aG A.v1 rfl ?_ |refine aG A.v2 rfl ?_ |refine aG A.v3 rfl ?_ |refine aL A.var rfl ?_ |refine aL A.v1 rfl ?_ |refine aL A.v2 rfl ?_ |refine aL A.v3 rfl ?_)
  have e0:Ext h0 h:=A.f0
  refine q47 Q (by omega) (by omega) (by omega) A.ok (Va.ext e0) (Ra.ext e0) (Va'.ext e0) (Ra'.ext e0) fun h e' o'=> ?_
  have A:=A.ext e' o'
  refine aI rfl ?_
  unfold Dx
  repeat first |(with_reducible first |refine aB ?_ |refine aY ?_ |refine bY ?_ |refine dn ?_ |refine bN ?_ |refine bC ?_ |refine bH ?_ |refine bV ?_ |refine dR ?_ |refine eX ?_ |refine dV ?_ |refine eG ?_ |refine eY ?_ |refine eF ?_ |refine aG A.var rfl ?_ |refine aG A.v1 rfl ?_ |refine aG A.v2 rfl ?_ |refine aG A.v3 rfl ?_ |refine aL A.var rfl ?_ |refine aL A.v1 rfl ?_ |refine aL A.v2 rfl ?_ |refine aL A.v3 rfl ?_)
  have e0:Ext h0 h:=A.f0
  refine c26 (by omega) (by omega) A.ok (Re.ext e0) (Re'.ext e0) fun h e' o'=> ?_
  refine aI rfl ?_
  unfold Cm
  exact dV (k h (e0.trans e') o')
theorem c15 {n:Nat} {h:ah} {l:List Cd} {va vb:AV} {es es':List (List AV)} {K:au} (hB:JO l≤big) (hn:3*JO l+8≤n) (ho:h.Ok) (V:View h 19 va es) (R:jY h es l) (V':View h 19 vb es') (R':jY h es' l)
 (k:∀h',Ext h h'→h'.Ok→K (.bool true) h'=true):av E n (.func 15) [va,vb] h K=true:=q15 (qc _) (Nat.le_refl _) hB hn ho V R V' R' k
theorem RA.ext {h h':ah} (e:Ext h h') {c:List AV} {a:Act} (R:RA h c a):RA h' c a:=by
 obtain⟨vs,eg,ce,h1,h2,h3,h4⟩:=R
 exact⟨vs,eg,ce,h1,h2.ext e,h3.ext e,h4.ext e⟩
theorem zG.get {h:ah}:∀{es:List (List AV)} {l:List Act},zG h es l→es.length=l.length∧∀(j:Nat) (b:Act),l[j]? =some b→∃c,es[j]? =some c∧RA h c b
 |es,[],R=>by simp only[zG] at R;subst R;exact⟨rfl,fun j b e=>by simp at e⟩
 |es,v :: l,R=>by
  simp only[zG] at R
  obtain⟨c,r,rfl,R1,R2⟩:=R
  obtain⟨h1,h2⟩:=zG.get R2
  refine⟨by simp[h1],fun j b e=> ?_⟩
  cases j with
  |zero=>simp only[List.getElem?_cons_zero,Option.some.injEq] at e ⊢;subst e;exact⟨c,rfl,R1⟩
  |succ j=>simp only[List.getElem?_cons_succ] at e ⊢;exact h2 j b e
theorem zG.ext {h h':ah} (e:Ext h h'):∀{a:List (List AV)} {l:List Act},zG h a l→zG h' a l
 |a,[],H=>H
 |a,v :: l,⟨c,r,h1,h2,h3⟩=>⟨c,r,h1,h2.ext e,zG.ext e h3⟩
theorem AB.get {h:ah}:∀{es:List (List AV)} {l:List Cls},AB h es l→es.length=l.length∧∀(j:Nat) (b:Cls),l[j]? =some b→∃c,es[j]? =some c∧RK h c b
 |es,[],R=>by simp only[AB] at R;subst R;exact⟨rfl,fun j b e=>by simp at e⟩
 |es,v :: l,R=>by
  simp only[AB] at R
  obtain⟨c,r,rfl,R1,R2⟩:=R
  obtain⟨h1,h2⟩:=AB.get R2
  refine⟨by simp[h1],fun j b e=> ?_⟩
  cases j with
  |zero=>simp only[List.getElem?_cons_zero,Option.some.injEq] at e ⊢;subst e;exact⟨c,rfl,R1⟩
  |succ j=>simp only[List.getElem?_cons_succ] at e ⊢;exact h2 j b e
theorem BG.get {h:ah}:∀{es:List (List AV)} {l:List Fy},BG h es l→es.length=l.length∧∀(j:Nat) (b:Fy),l[j]? =some b→∃c,es[j]? =some c∧RR h c b
 |es,[],R=>by simp only[BG] at R;subst R;exact⟨rfl,fun j b e=>by simp at e⟩
 |es,v :: l,R=>by
  simp only[BG] at R
  obtain⟨c,r,rfl,R1,R2⟩:=R
  obtain⟨h1,h2⟩:=BG.get R2
  refine⟨by simp[h1],fun j b e=> ?_⟩
  cases j with
  |zero=>simp only[List.getElem?_cons_zero,Option.some.injEq] at e ⊢;subst e;exact⟨c,rfl,R1⟩
  |succ j=>simp only[List.getElem?_cons_succ] at e ⊢;exact h2 j b e
theorem Br.get {h:ah}:∀{es:List (List AV)} {l:List Nt},Br h es l→es.length=l.length∧∀(j:Nat) (b:Nt),l[j]? =some b→∃c,es[j]? =some c∧RQ h c b
 |es,[],R=>by simp only[Br] at R;subst R;exact⟨rfl,fun j b e=>by simp at e⟩
 |es,v :: l,R=>by
  simp only[Br] at R
  obtain⟨c,r,rfl,R1,R2⟩:=R
  obtain⟨h1,h2⟩:=Br.get R2
  refine⟨by simp[h1],fun j b e=> ?_⟩
  cases j with
  |zero=>simp only[List.getElem?_cons_zero,Option.some.injEq] at e ⊢;subst e;exact⟨c,rfl,R1⟩
  |succ j=>simp only[List.getElem?_cons_succ] at e ⊢;exact h2 j b e
theorem Vi:∀{l:List Act} {j:Nat} {b:Act},l[j]? =some b→cA b≤cAs l
 | [],j,b,e=>by simp at e
 |v :: l,0,b,e=>by simp only[List.getElem?_cons_zero,Option.some.injEq] at e;subst e;unfold cAs;omega
 |v :: l,j+1,b,e=>by simp only[List.getElem?_cons_succ] at e;have:=Vi e;unfold cAs;omega
theorem UU:∀(l:List Act),l.length≤cAs l
 | []=>Nat.le_refl _
 |v :: l=>by have:=UU l;unfold cAs cA;simp only[List.length_cons];omega
theorem Ya:∀(l:List Str),l.length≤cT l
 | []=>Nat.le_refl _
 |v :: l=>by have:=Ya l;unfold cT;simp only[List.length_cons];omega
theorem ZA:∀(l:List Ey),l.length≤cF l
 | []=>Nat.le_refl _
 |v :: l=>by have:=ZA l;unfold cF;simp only[List.length_cons];omega
theorem Uj:∀{l:List Cls} {j:Nat} {b:Cls},l[j]? =some b→cK b≤cKs l
 | [],j,b,e=>by simp at e
 |v :: l,0,b,e=>by simp only[List.getElem?_cons_zero,Option.some.injEq] at e;subst e;unfold cKs;omega
 |v :: l,j+1,b,e=>by simp only[List.getElem?_cons_succ] at e;have:=Uj e;unfold cKs;omega
theorem TU:∀(l:List Cls),l.length≤cKs l
 | []=>Nat.le_refl _
 |v :: l=>by have:=TU l;unfold cKs cK;simp only[List.length_cons];omega
theorem Ve:∀{l:List Fy} {j:Nat} {b:Fy},l[j]? =some b→cR b≤cRs l
 | [],j,b,e=>by simp at e
 |v :: l,0,b,e=>by simp only[List.getElem?_cons_zero,Option.some.injEq] at e;subst e;unfold cRs;omega
 |v :: l,j+1,b,e=>by simp only[List.getElem?_cons_succ] at e;have:=Ve e;unfold cRs;omega
theorem TV:∀(l:List Fy),l.length≤cRs l
 | []=>Nat.le_refl _
 |v :: l=>by have:=TV l;unfold cRs cR;simp only[List.length_cons];omega
theorem U4:∀{l:List Nt} {j:Nat} {b:Nt},l[j]? =some b→cQ b≤cQs l
 | [],j,b,e=>by simp at e
 |v :: l,0,b,e=>by simp only[List.getElem?_cons_zero,Option.some.injEq] at e;subst e;unfold cQs;omega
 |v :: l,j+1,b,e=>by simp only[List.getElem?_cons_succ] at e;have:=U4 e;unfold cQs;omega
theorem Vz:∀(l:List Nt),l.length≤cQs l
 | []=>Nat.le_refl _
 |v :: l=>by have:=Vz l;unfold cQs cQ;simp only[List.length_cons];omega
theorem c17 {n:Nat} {h:ah} {l:List Str} {va vb:AV} {K:au} (hB:l.length≤big) (hn:l.length+2≤n) (V:View h 1 va (l.map oC)) (V':View h 1 vb (l.map oC))
 (k:K (.bool true) h=true):av E n (.func 17) [va,vb] h K=true:=by
 have hbig:big=1000000000:=rfl
 have hlim:lim=4611686018427387904:=rfl
 obtain⟨n,rfl⟩:∃m,n=m+1:=⟨n-1,by omega⟩
 apply d17
 unfold s17
 refine fD V ?_;refine fD V' ?_;refine zl ?_;refine bC ?_
 unfold QK
 have lp:∀(m i:Nat),i≤l.length→l.length-i<m→Hz (av E n) n m va vb (.int .i64 (i:Int)) h K=true:=by
  intro m
  induction m with
  |zero=>intro i _ hm;omega
  |succ m ih=>
   intro i hi hm
   rw[Yq]
   unfold Lr
   refine fD V ?_;refine iZ ?_
   rw[List.length_map]
   by_cases hlt:i<l.length
   ·rw[decide_eq_true hlt]
    have hb:l[i]? =some l[i]:=List.getElem?_eq_getElem hlt
    generalize l[i]=b at hb
    have hb':(l.map oC)[i]? =some (oC b):=by rw[List.getElem?_map,hb];rfl
    refine Pw V hb' rfl ?_
    refine Pw V' hb' rfl ?_;refine yY ?_;refine bC ?_
    refine lD (by omega) ?_
    exact ih (i+1) (by omega) (by omega)
   ·rw[decide_eq_false hlt]
    exact bC k
 exact lp n 0 (Nat.zero_le _) (by omega)
theorem c14 {n:Nat} {h:ah} {l:List Ey} {va vb:AV} {K:au} (hB:l.length≤big) (hn:l.length+2≤n) (V:View h 3 va (l.map oQ)) (V':View h 3 vb (l.map oQ))
 (k:K (.bool true) h=true):av E n (.func 14) [va,vb] h K=true:=by
 have hbig:big=1000000000:=rfl
 have hlim:lim=4611686018427387904:=rfl
 obtain⟨n,rfl⟩:∃m,n=m+1:=⟨n-1,by omega⟩
 apply d14
 unfold s14
 refine fD V ?_;refine fD V' ?_;refine zl ?_;refine bC ?_
 unfold Sd
 have lp:∀(m i:Nat),i≤l.length→l.length-i<m→Hl (av E n) n m va vb (.int .i64 (i:Int)) h K=true:=by
  intro m
  induction m with
  |zero=>intro i _ hm;omega
  |succ m ih=>
   intro i hi hm
   rw[Yz]
   unfold LM
   refine fD V ?_;refine iZ ?_
   rw[List.length_map]
   by_cases hlt:i<l.length
   ·rw[decide_eq_true hlt]
    have hb:l[i]? =some l[i]:=List.getElem?_eq_getElem hlt
    generalize l[i]=b at hb
    have hb':(l.map oQ)[i]? =some (oQ b):=by rw[List.getElem?_map,hb];rfl
    refine sQ V hb' rfl ?_
    refine sQ V' hb' rfl ?_;refine oU (acL _ _) ?_;refine bC ?_
    refine lD (by omega) ?_
    exact ih (i+1) (by omega) (by omega)
   ·rw[decide_eq_false hlt]
    exact bC k
 exact lp n 0 (Nat.zero_le _) (by omega)
set_option maxRecDepth 100000 in
theorem c16 {n:Nat} {h:ah} {l:List Act} {va vb:AV} {es es':List (List AV)} {K:au} (hB:cAs l≤big) (hn:3*cAs l+12≤n) (ho:h.Ok) (V:View h 12 va es) (R:zG h es l) (V':View h 12 vb es') (R':zG h es' l)
 (k:∀h',Ext h h'→h'.Ok→K (.bool true) h'=true):av E n (.func 16) [va,vb] h K=true:=by
 have hbig:big=1000000000:=rfl
 have hlim:lim=4611686018427387904:=rfl
 obtain⟨n,rfl⟩:∃m,n=m+1:=⟨n-1,by omega⟩
 have hlen:=UU l
 obtain⟨g1,g2⟩:=R.get
 obtain⟨g1',g2'⟩:=R'.get
 apply d16
 unfold s16
 refine fD V (fD V' (eF ?_))
 rw[g1,g1',decide_eq_true rfl]
 refine bC ?_
 unfold QB
 have lp:∀(m i:Nat) (h':ah),i≤l.length→l.length-i<m→Ext h h'→h'.Ok→GR (av E n) n m va vb (.int .i64 (i:Int)) h' K=true:=by
  intro m
  induction m with
  |zero=>intro i h' _ hm;omega
  |succ m ih=>
   intro i h' hi hm e o
   rw[Zq]
   unfold L8
   refine fD (V.ext e) (iZ ?_)
   rw[g1]
   by_cases hlt:i<l.length
   ·rw[decide_eq_true hlt]
    have hb:l[i]? =some l[i]:=List.getElem?_eq_getElem hlt
    generalize l[i]=b at hb
    obtain⟨c,hc,Rc⟩:=g2 i b hb
    obtain⟨c',hc',Rc'⟩:=g2' i b hb
    have hw:=Vi hb
    have C1:=Rc.cells
    have C2:=Rc'.cells
    obtain⟨vs,eg,ce,rfl,Vs,Rg,Re⟩:=Rc
    obtain⟨vs',eg',ce',rfl,Vs',Rg',Re'⟩:=Rc'
    obtain⟨x0,x1,x2,x3,x4,x5,x6,x7,rfl⟩:=len8 Re.cells.1
    obtain⟨y0,y1,y2,y3,y4,y5,y6,y7,rfl⟩:=len8 Re'.cells.1
    simp only[List.cons_append,List.nil_append] at C1 C2 hc hc'
    obtain⟨gg1,gg2⟩:=Rg.get
    obtain⟨gg1',gg2'⟩:=Rg'.get
    have hcA:cA b=b.cls.length+cG b.set+cE b.e+b.text.length+1:=rfl
    have hgl:=QM b.set
    have A:=Cx.start o (F:=[]) (fun R m=>nomatch m)
    refine bN ?_
    unfold RF
    refine sQ (V.ext e) hc C1.1 ?_
    refine rM A rfl rfl rfl fun a h2 A=> ?_
    refine Iy A rfl C1.1 rfl C1.2.1 fun h2 A=> ?_
    have e1:Ext h' h2:=A.f0
    refine sQ (V'.ext (e.trans e1)) hc' C2.1 ?_
    refine bT A rfl rfl rfl fun a' h2 A=> ?_
    refine gL A rfl C2.1 rfl C2.2.1 fun h2 A=> ?_
    have e1:Ext h' h2:=A.f0
    repeat first |refine zl ?_ |refine yY ?_ |refine aL A.var rfl ?_ |refine aL A.v1 rfl ?_ |(with_reducible first |refine aB ?_ |refine bV ?_ |refine eX ?_ |refine eG ?_ |refine aG A.var rfl ?_ |refine aG A.v1 rfl ?_)
    refine c26 (by omega) (by omega) A.ok (Re.ext (e.trans e1)) (Re'.ext (e.trans e1)) fun h3 e2 o2=> ?_
    have A:=A.ext e2 o2
    refine aI rfl ?_
    unfold D9
    have e1:=e.trans (e1.trans e2)
    repeat first |refine fD (Vs.ext e1) ?_ |refine fD (Vs'.ext e1) ?_ |(with_reducible first |refine aB ?_ |refine bY ?_ |refine bV ?_ |refine eG ?_ |refine eF ?_ |refine aG A.var rfl ?_ |refine aG A.v1 rfl ?_)
    rw[gg1,gg1',decide_eq_true rfl]
    skip
    unfold Td
    have l2:∀(m j:Nat) (h4:ah),j≤b.set.length→b.set.length-j<m→Cx h4 [vr a [AV.int IntKind.i64 b.kind,AV.str b.cls,vs,x0,x1,x2,x3,x4,x5,x6,x7,AV.str b.text],vr a' [AV.int IntKind.i64 b.kind,AV.str b.cls,vs',y0,y1,y2,y3,y4,y5,y6,y7,AV.str b.text]] [] [Ext h']→
     ∀(Bk:AV→AV→AV→ah→Bool),(∀h4,Ext h' h4→h4.Ok→Bk va vb (.int .i64 ((i+1:Nat):Int)) h4=true)→Hq (av E n) n Bk m va vb (.int .i64 (i:Int)) (.ptr a 0 0 0) (.ptr a' 0 0 0) (.int .i64 (j:Int)) h4 K=true:=by
     intro m
     induction m with
     |zero=>intro j h4 _ hm;omega
     |succ m ih2=>
      intro j h4 hj hm A Bk kk
      have e2:Ext h h4:=e.trans (A.f0:Ext h' h4)
      rw[XQ]
      unfold M8
      refine aB ?_;refine aG A.var rfl ?_;refine fD (Vs.ext e2) ?_;refine iZ ?_
      rw[gg1]
      by_cases hlt:j<b.set.length
      ·rw[decide_eq_true hlt]
       have hb2:b.set[j]? =some b.set[j]:=List.getElem?_eq_getElem hlt
       generalize b.set[j]=g at hb2
       have hw2:=SK hb2
       obtain⟨c,hc,R⟩:=gg2 j g hb2
       obtain⟨c',hc',R'⟩:=gg2' j g hb2
       obtain⟨w0,w1,w2,w3,w4,w5,w6,w7,rfl⟩:=len8 R.cells.1
       obtain⟨z0,z1,z2,z3,z4,z5,z6,z7,rfl⟩:=len8 R'.cells.1
       refine bN ?_;refine aB ?_;refine aG A.var rfl ?_
       refine nE (Vs.ext e2) hc fun i1 g1 j1 q1=> ?_
       refine aR (q1 false 0 1) ?_;refine aB ?_;refine aG A.v1 rfl ?_
       refine nE (Vs'.ext e2) hc' fun i2 g2 j2 q2=> ?_
       repeat first |refine aR (q2 false 0 1) ?_ |refine yY ?_ |(with_reducible first |refine aB ?_ |refine aY ?_ |refine bV ?_ |refine aG A.var rfl ?_)
       refine nE (Vs.ext e2) hc fun i1 g1 j1 q1=> ?_
       repeat first |refine pR (q1 true 1 8) ?_ |(with_reducible first |refine aB ?_ |refine aY ?_ |refine bV ?_ |refine aG A.v1 rfl ?_)
       refine nE (Vs'.ext e2) hc' fun i2 g2 j2 q2=> ?_
       refine bV ?_;refine aB ?_;refine bV ?_;refine pR (q2 true 1 8) ?_;refine eX ?_
       refine c26 (by omega) (by omega) A.ok (R.ext e2) (R'.ext e2) fun h5 e' o'=> ?_
       refine aI rfl ?_
       refine bV ?_;refine bY ?_;refine eG ?_;refine bC ?_
       refine lD (by omega) ?_
       exact ih2 (j+1) h5 (by omega) (by omega) (A.ext e' o') Bk kk
      ·rw[decide_eq_false hlt]
       refine bC ?_
       unfold R7
       refine lD (by omega) ?_
       exact kk h4 A.f0 A.ok
    refine l2 n 0 _ (Nat.zero_le _) (by omega) A _ fun h4 e4 o4=> ?_
    exact ih (i+1) h4 (by omega) (by omega) (e.trans e4) o4
   ·rw[decide_eq_false hlt]
    exact bC (k h' e o)
 exact lp n 0 h (Nat.zero_le _) (by omega) (Ext.refl _) ho
end Go.Proofs.YtibillhjmfbneaaGreatDoor
