/-
  Texts that the claim hangs on, part 5.
-/
import Derived.Test.YthmnnlpbnhkhkaaGreatQ3
set_option linter.unusedSimpArgs false
set_option linter.unusedVariables false
namespace Go.Proofs.YthmnnlpbnhkhkaaGreat
open Go.Ab
structure uW (hb:aj) (b mid vn vc:Nat) (q:Nat) (qc:List AV) (p:Nat) (pc:List AV) (fs:List lK) (h:aj):Prop where
 k:Counts hb b mid vn vc fs h
 vq:Var h q qc
 vp:Var h p pc
 ne:q≠mid∧q≠vn∧q≠vc∧p≠mid∧p≠vn∧p≠vc
theorem uW.grow {hb h h':aj} {b mid vn vc q p:Nat} {qc pc:List AV} {fs:List lK} (I:uW hb b mid vn vc q qc p pc fs h) (e:Ext h h') (o:h'.Ok):uW hb b mid vn vc q qc p pc fs h':=
 ⟨I.k.grow e o,I.vq.ext e,I.vp.ext e,I.ne⟩
theorem uW.name {hb h:aj} {b mid vn vc q p:Nat} {qc pc:List AV} {fs:List lK} (k0:hb.Ok) (I:uW hb b mid vn vc q qc p pc fs h) (f:lK) (hlt:fs.length<lim):
 ∃h',kQ h (.leaf .str) (.map mid) (.str f.name) (.int .i64 ((cnt f.name fs+1:Nat):Int))=some h'∧h'.sz=h.sz∧h'.Ok∧Ext hb h'∧Var h' vn [.map mid]∧Var h' vc [.int .i64 (fs.length:Int)]∧ig h' mid (rP (fs++[f]))∧Var h' q qc∧Var h' p pc∧
  (∀j o,j≠mid→h.get j=some o→h'.get j=some o):=by
 obtain⟨h',a1,a2,a3,a4,a5,a6,a7,a8⟩:=I.k.name k0 f hlt
 obtain⟨n1,n2,n3,n4,n5,n6⟩:=I.ne
 refine⟨h',a1,a2,a3,a4,a5,a6,a7, ?_, ?_,a8⟩
 ·show aj.row _ _=_
  rw[aj.row_some];exact a8 _ _ n1 (aj.row_some.1 I.vq)
 ·show aj.row _ _=_
  rw[aj.row_some];exact a8 _ _ n4 (aj.row_some.1 I.vp)
theorem uW.done {hb h:aj} {b mid vn vc q p:Nat} {qc pc:List AV} {fs:List lK} (k0:hb.Ok) {f:lK} (lo:hb.sz≤b∧b≤mid∧b≤vn∧b≤vc∧mid≠vn∧mid≠vc∧vn≠vc) (ne:q≠mid∧q≠vn∧q≠vc∧p≠mid∧p≠vn∧p≠vc)
 (o:h.Ok) (e:Ext hb h) (n:Var h vn [.map mid]) (c:Var h vc [.int .i64 (fs.length:Int)]) (m:ig h mid (rP (fs++[f]))) (Q:Var h q qc) (Pp:Var h p pc):
 uW hb b mid vn vc q qc p pc (fs++[f]) (h.put vc (.row (lI [.int .i64 ((fs.length+1:Nat):Int)]))):=by
 obtain⟨a0,a1,a2,a3,a4,a5,a6⟩:=lo
 obtain⟨n1,n2,n3,n4,n5,n6⟩:=ne
 have hv:=c.lt o
 refine⟨⟨gY e k0 (by omega) _,o.put hv _,⟨a0,a1,a2,a3,a4,a5,a6⟩,n.other a6 _, ?_,m.other a5 _⟩,Q.other n3 _,Pp.other n6 _,⟨n1,n2,n3,n4,n5,n6⟩⟩
 have:=oq (h:=h) vc [AV.int .i64 ((fs.length+1:Nat):Int)]
 simpa using this
theorem lkC (h:aj) (mid:Nat) (fs:List lK) (M:ig h mid (rP fs)) (s:Str):fC h (.leaf .str) false (.int .i64 0) (.map mid) (.str s)=some (.int .i64 (cnt s fs:Int)):=by
 rw[M.look,PL]
theorem CB {h:aj} {f:lK} {k:aC}:(bP (fG h [AV.str [],AV.int .i64 0,AV.str []]) fun p h=>bP (unit (bT h 3 p (.agg (dZ f)))) fun _ h=>k p h)=k (.ptr h.sz 0 0 0) (Ab.newRow h [dZ f] 3):=
 jH rfl (by decide) rfl rfl (OG f)
theorem X9 {n:Nat} {hb:aj} {b mid vn vc q p y:Nat} {qc pc:List AV} {f:AV} {fs prev:List lK} {lp:iq} {K:aC} (k0:hb.Ok) (V:View hb 3 f (fs.map dZ)) (hl:prev.length+fs.length<1000000) (hy:y≠mid∧y≠vc)
 (k:∀h',uW hb b mid vn vc q qc p pc (prev++fs) h'→h'.get y=some lp→wW y K .normal h'=true):∀(m i:Nat) (h:aj),uW hb b mid vn vc q qc p pc (prev++fs.take i) h→h.get y=some lp→i≤fs.length→fs.length-i<m→
 yL (aD E n) n y m (.ptr vn 0 0 0) (.ptr vc 0 0 0) f (.int .i64 (fs.length:Int)) (.int .i64 (i:Int)) h K=true:=by
 intro m
 induction m with
 |zero=>intro i h _ _ _ hm;omega
 |succ m ih=>
  intro i h I hg hi hm
  rw[RS]
  unfold Fe
  by_cases hlt:i<fs.length
  ·have he:(fs.map dZ)[i]? =some (dZ fs[i]):=by simp[hlt]
   obtain⟨id,g,j,p1,p2⟩:=(V.ext I.k.ext).at he
   have hp:iH true 0 3 (dZ fs[i])=some (.agg (dZ fs[i])):=rfl
   rw[eF,ak,dB (by simpa using hlt),p1,ak,p2,hp,ak,CB]
   have e1:=bU I.k.ok [dZ fs[i]] 3
   have o1:=cZ I.k.ok [dZ fs[i]] 3
   have I1:=I.grow e1 o1
   have V1:=eY h (dZ fs[i])
   have g1:=e1.2 _ _ hg
   have hl3:(dZ fs[i]).length=3:=rfl
   rw[hl3] at V1
   generalize Ab.newRow h [dZ fs[i]] 3=h1 at *
   have hlen:(prev++fs.take i).length=prev.length+i:=by simp;omega
   have hbig:(prev++fs.take i).length<lim:=by rw[hlen];unfold lim;omega
   have hcl:cnt fs[i].name (prev++fs.take i)<lim:=Nat.lt_of_le_of_lt (J5 _ _) hbig
   simp only[I1.k.n.load,bY,dR,ak,cO,Nat.zero_add,V1.load]
   have hnm:nth (dZ fs[i]) 0=some (.str fs[i].name):=rfl
   rw[hnm,ak,lkC _ _ _ I1.k.m,ak,dV hcl,ak]
   obtain⟨h2,u1,u2,u3,u4,u5,u6,u7,u8,u9,u10⟩:=I1.name k0 fs[i] hbig
   rw[u1,unit,dD,u6.load,bY,dR,ak,dV hbig,ak,bump u6 hbig,unit,dD,dV (by unfold lim;omega),ak]
   have I3:=uW.done k0 I.k.lo I.ne u3 u4 u5 u6 u7 u8 u9
   refine ih (i+1) _ ?_ ?_ (by omega) (by omega)
   ·have:fs.take (i+1)=fs.take i++[fs[i]]:=by rw[List.take_succ_eq_append_getElem hlt]
    rw[this, ←List.append_assoc]
    exact I3
   ·rw[jZ hy.2];exact u10 _ _ hy.1 g1
  ·have:fs.take i=fs:=List.take_of_length_le (by omega)
   rw[this] at I
   rw[eF,ak,dG (by simpa using hlt)]
   exact k h I hg
theorem R9 {call:ay} {h:aj} {x f:AV} {d:Bool} {k:AV→aj→Bool} (Q:aj→Prop) (rest:∀h2,Q h2→k (.bool false) h2=true)
 (ht:d=true→(∀h2,Q h2→k (.bool false) h2=true)→call (.func 79) [x,f] h (fun v h=>ah (fT v) fun w=>k w h)=true) (hf:d=false→Q h):
 (ah (aQ (aB (.bool d) true) (some x)) fun v81=>ah (aQ (aB (.bool d) true) (some f)) fun v82=>ji (aB (.bool d) true) (fun k=>call (.func 79) [v81,v82] h k) h fun v83 h=>ah (aQ (aB (.bool d) true) (fT v83)) fun v84=>ah (cB (.bool d) v84 (AV.bool false)) fun v85=>k v85 h)=true:=by
 cases d with
 |true=>exact ht rfl rest
 |false=>exact rest h (hf rfl)
theorem Yi {n:Nat} {hb:aj} {b mid vn vc q p:Nat} {qc pc:List AV} {f va:AV} {all:List Cls} {fs prev:List lK} {K:aC} (k0:hb.Ok) (V:View hb 3 f (fs.map dZ)) (C:CV hb va all) (hl:prev.length+fs.length<1000000) (hla:all.length<n) (hla2:all.length<lim)
 (hs:∀f∈fs,f.name.length≤n∧f.name.length<lim) (k:∀h',Ext hb h'→h'.Ok→K (.bool (LX (names all) prev fs&&decide (prev.length+fs.length≤62))) h'=true):∀(m i:Nat) (h:aj),uW hb b mid vn vc q qc p pc (prev++fs.take i) h→i≤fs.length→fs.length-i<m→
 LX (names all) prev fs=LX (names all) (prev++fs.take i) (fs.drop i)→
 yG (aD E (n+3)) (n+3) m va (.ptr vn 0 0 0) (.ptr vc 0 0 0) f (.int .i64 (fs.length:Int)) (.int .i64 (i:Int)) h K=true:=by
 intro m
 induction m with
 |zero=>intro i h _ _ hm;omega
 |succ m ih=>
  intro i h I hi hm hgo
  rw[Qj]
  unfold F9
  by_cases hlt:i<fs.length
  ·have hd:fs.drop i=fs[i] :: fs.drop (i+1):=List.drop_eq_getElem_cons hlt
   have he:(fs.map dZ)[i]? =some (dZ fs[i]):=by simp[hlt]
   obtain⟨id,g,j,p1,p2⟩:=(V.ext I.k.ext).at he
   have hp:iH true 0 3 (dZ fs[i])=some (.agg (dZ fs[i])):=rfl
   rw[eF,ak,dB (by simpa using hlt),p1,ak,p2,hp,ak,CB]
   have e1:=bU I.k.ok [dZ fs[i]] 3
   have o1:=cZ I.k.ok [dZ fs[i]] 3
   have I1:=I.grow e1 o1
   have V1:=eY h (dZ fs[i])
   have hl3:(dZ fs[i]).length=3:=rfl
   rw[hl3] at V1
   generalize Ab.newRow h [dZ fs[i]] 3=h1 at *
   have hlen:(prev++fs.take i).length=prev.length+i:=by simp;omega
   have hbig:(prev++fs.take i).length<lim:=by rw[hlen];unfold lim;omega
   have hcl:cnt fs[i].name (prev++fs.take i)<lim:=Nat.lt_of_le_of_lt (J5 _ _) hbig
   have hcl1:cnt fs[i].name (prev++fs.take i)≤1000000:=Nat.le_trans (J5 _ _) (by rw[hlen];omega)
   have hnm:nth (dZ fs[i]) 0=some (.str fs[i].name):=rfl
   have hty:nth (dZ fs[i]) 1=some (.int .i64 fs[i].ty):=rfl
   have hbad:Ee (names all) fs[i]=false∨¬cnt fs[i].name (prev++fs.take i)=0→LX (names all) prev fs=false:=by
    intro hh
    rw[hgo,hd,LX]
    rcases hh with hh |hh
    ·rw[hh];rfl
    ·rw[decide_eq_false hh];simp
   have kbad:∀h',LX (names all) prev fs=false→Ext hb h'→h'.Ok→K (.bool false) h'=true:=by
    intro h' hg e o
    have:=k h' e o
    rw[hg,Bool.false_and] at this
    exact this
   rw[cO,ak,Nat.zero_add,V1.load,bY,hnm,ak]
   have hsi:=hs fs[i] (List.getElem_mem hlt)
   refine u43 (by omega) hsi.2 ?_
   rw[HY h1 h.sz fs[i] V1]
   cases hfc:(isName fs[i].name&&decide (0≤fs[i].ty)&&decide (fs[i].ty≤5)&&(decide (fs[i].ty=5)== !decide (fs[i].cls=[]))) with
   |false=>
    rw[dB (show(!false)=true from rfl)]
    exact kbad h1 (hbad (.inl (by simp only[Ee,hfc,Bool.false_and]))) I1.k.ext o1
   |true=>
    rw[dG (show(!true)=false from rfl)]
    rw[cO,ak,Nat.zero_add,V1.load,bY,hty,ak,dP,ak]
    have hfc':Ee (names all) fs[i]=(!decide (fs[i].ty=5)||(idx fs[i].cls (names all)).isSome):=by
     simp only[Ee,hfc,Bool.true_and]
    refine R9 (fun h2=>Ext h1 h2∧h2.Ok∧Ee (names all) fs[i]=true) ?_ ?_ ?_
    ·rintro h2 ⟨e2,o2,hok⟩
     rw[fM]
     have I2:=I1.grow e2 o2
     have V2:=V1.ext e2
     simp only[I2.k.n.load,bY,dR,ak,cO,Nat.zero_add,V2.load]
     rw[hnm,ak,lkC _ _ _ I2.k.m,ak,dV hcl,ak]
     obtain⟨h3,u1,u2,u3,u4,u5,u6,u7,u8,u9,u10⟩:=I2.name k0 fs[i] hbig
     have V3:Var h3 h.sz (dZ fs[i]):=by
      show aj.row _ _=_
      rw[aj.row_some]
      refine u10 _ _ ?_ (aj.row_some.1 V2)
      have:=I.k.lt.1
      omega
     rw[u1,unit,dD,u5.load,bY,dR,ak,V3.load,bY,hnm,ak,lkC _ _ _ u7,ak,lg,ak]
     have hc1:cnt fs[i].name ((prev++fs.take i)++[fs[i]])=cnt fs[i].name (prev++fs.take i)+1:=by
      rw[CJ,Nq,if_pos rfl]
     rw[hc1]
     by_cases hz:cnt fs[i].name (prev++fs.take i)=0
     ·rw[hz,dG (by decide),u6.load,bY,dR,ak,dV hbig,ak,bump u6 hbig,unit,dD,dV (by unfold lim;omega),ak]
      have I4:=uW.done k0 I.k.lo I.ne u3 u4 u5 u6 u7 u8 u9
      have htk:fs.take (i+1)=fs.take i++[fs[i]]:=by rw[List.take_succ_eq_append_getElem hlt]
      refine ih (i+1) _ ?_ (by omega) (by omega) ?_
      ·rw[htk, ←List.append_assoc];exact I4
      ·rw[hgo,hd,LX,hok,decide_eq_true hz,htk, ←List.append_assoc];rfl
     ·rw[dB (decide_eq_true (by omega))]
      exact kbad h3 (hbad (.inr hz)) u4 u3
    ·intro h5 rest
     refine u44 o1 (C.ext I1.k.ext) V1 hla2 hla ?_
     intro h2 e2 o2
     rw[gH,ak]
     cases hex:(idx fs[i].cls (names all)).isSome with
     |false=>
      rw[dB (show(!false)=true from rfl)]
      exact kbad h2 (hbad (.inl (by rw[hfc',hex,h5];rfl))) (I1.k.ext.trans e2) o2
     |true=>exact rest h2 ⟨e2,o2,by rw[hfc',hex];simp⟩
    ·intro h5
     exact⟨Ext.refl h1,o1,by rw[hfc',h5];rfl⟩
  ·have:fs.take i=fs:=List.take_of_length_le (by omega)
   rw[this] at I
   have hd:fs.drop i=[]:=List.drop_of_length_le (by omega)
   rw[hd,LX] at hgo
   rw[eF,ak,dG (by simpa using hlt)]
   unfold Km
   rw[I.k.c.load,bY,dR,ak,BH,ak]
   have:=k h I.k.ext I.k.ok
   rw[hgo,Bool.true_and] at this
   have e:decide (((prev++fs).length:Int)≤62)=decide (prev.length+fs.length≤62):=by
    congr 1;apply propext;simp;omega
   rw[e];exact this
theorem uW.putY {hb h:aj} {b mid vn vc q p y:Nat} {qc pc:List AV} {fs:List lK} (k0:hb.Ok) (I:uW hb b mid vn vc q qc p pc fs h) (hy:mid≠y∧vn≠y∧vc≠y∧q≠y∧p≠y) (h1:hb.sz≤y) (h2:y<h.sz) (o:iq):
 uW hb b mid vn vc q qc p pc fs (h.put y o):=
 ⟨⟨gY I.k.ext k0 h1 _,I.k.ok.put h2 _,I.k.lo,I.k.n.other hy.2.1 _,I.k.c.other hy.2.2.1 _,I.k.m.other hy.1 _⟩,I.vq.other hy.2.2.2.1 _,I.vp.other hy.2.2.2.2 _,I.ne⟩
theorem SG {call:ay} {h:aj} {x:AV} {p:Nat} {s u:Str} {g:AV} {nm:Bool} {k:AV→aj→Bool} (V:Var h p [.str s, .str u,g]) (h0:nm=false→k (.bool true) h=true) (h1:nm=true→call (.func 54) [x, .str s] h k=true):
 (ah (fT (.bool nm)) fun v5=>ah (aQ (aB v5 false) (some x)) fun v6=>ah (aQ (aB v5 false) (aH 0 (.ptr p 0 0 0))) fun v7=>ah (aQ (aB v5 false) (au h false 1 v7)) fun v8=>ji (aB v5 false) (fun k=>call (.func 54) [v6,v8] h k) h fun v9 h=>ah (cB v5 (AV.bool true) v9) fun v10=>k v10 h)=true:=by
 cases nm with
 |false=>exact h0 rfl
 |true=>
  have:=h1 rfl
  simp only[gH,Bool.not_true,ak,jd,Bool.not_false,fB,cO,Nat.zero_add,V.load,bY,dR,qw,iJ]
  exact this
theorem Bw {call:ay} {h:aj} {x:AV} {p:Nat} {s u:Str} {g:AV} {b:Bool} {k:AV→aj→Bool} (V:Var h p [.str s, .str u,g]) (h0:b=true→k (.bool true) h=true) (h1:b=false→u=[]→k (.bool false) h=true) (h2:b=false→u≠[]→call (.func 54) [x, .str u] h (fun v h=>ah (fT v) fun w=>k w h)=true):
 (ah (aQ (aB (.bool b) false) (aH 1 (.ptr p 0 0 0))) fun v11=>ah (aQ (aB (.bool b) false) (au h false 1 v11)) fun v12=>ah (aQ (aB (.bool b) false) (aR (BinOp.neq) v12 (AV.str []))) fun v13=>ah (aQ (aB (.bool b) false) (some v13)) fun v14=>ah (aQ (aB v14 true) (some x)) fun v15=>ah (aQ (aB v14 true) (aH 1 (.ptr p 0 0 0))) fun v16=>ah (aQ (aB v14 true) (au h false 1 v16)) fun v17=>ji (aB v14 true) (fun k=>call (.func 54) [v15,v17] h k) h fun v18 h=>ah (aQ (aB v14 true) (fT v18)) fun v19=>ah (aQ (aB (.bool b) false) (cB v14 v19 (AV.bool false))) fun v20=>ah (cB (.bool b) (AV.bool true) v20) fun v21=>k v21 h)=true:=by
 cases b with
 |true=>exact h0 rfl
 |false=>
  simp only[jd,Bool.not_false,fB,cO,ak,Nat.zero_add,V.load,bY,dR,fE,yV]
  by_cases hu:u=[]
  ·have:=h1 rfl hu
   simp only[hu,decide_true,Bool.not_true,jh,JL,ak,LB,iJ]
   exact this
  ·have:=h2 rfl hu
   simp only[hu,decide_false,Bool.not_false,jh,fB,ak,cO,Nat.zero_add,V.load,bY,fE,dR,qw,jB,iJ]
   exact this
theorem Ro {n:Nat} {h h1:aj} {t va cf:AV} {l all:List Cls} {c:Cls} {K:aC} (T:fJ h t l) (A:Asc l) (ho:h.Ok) (C:CV h va all) (Vc:View h 3 cf (c.fields.map dZ))
 (hn:l.length+8<n) (hna:all.length<n) (hnf:c.fields.length<n) (hU:(Bu l c.super).length+c.fields.length<1000000) (hUn:(Bu l c.super).length<n) (hnb:n<lim) (hs:∀f∈c.fields,f.name.length≤n)
 (V1:Var h1 h.sz [.str c.name, .str c.super,cf]) (e1:Ext h h1) (o1:h1.Ok) (s1:h1.sz=h.sz+1)
 (k:∀h',Ext h h'→h'.Ok→K (.bool (LX (names all) (Bu l c.super) c.fields&&decide ((Bu l c.super).length+c.fields.length≤62))) h'=true):GD (aD E (n+4)) (n+4) t va (.ptr h.sz 0 0 0) h1 K=true:=by
 have T0:=T
 obtain⟨id,lv,mt,rfl,V0,C0,M0⟩:=T
 unfold GD
 obtain⟨m1,m2⟩:=Cj h1
 rw[m1,dD]
 have e2:=kY o1 (.map [] 0)
 have o2:=o1.push (.map [] 0)
 have s2:(h1.push (.map [] 0)).sz=h.sz+2:=by simp[s1]
 rw[s1] at m2 ⊢
 have V2:=V1.ext e2
 generalize h1.push (.map [] 0)=h2 at *
 rw[jH (n:=1) rfl (by decide) rfl rfl rfl,s2]
 have o3:=cZ o2 [(AV.map (h.sz+1)).cells] 1
 have e3:=bU o2 [(AV.map (h.sz+1)).cells] 1
 have W3:=eY h2 [AV.map (h.sz+1)]
 simp only[List.length_cons,List.length_nil,Nat.zero_add,s2] at W3
 have hcm:(AV.map (h.sz+1)).cells=[AV.map (h.sz+1)]:=rfl
 rw[hcm] at o3 e3 ⊢
 have s3:(Ab.newRow h2 [[AV.map (h.sz+1)]] 1).sz=h.sz+3:=by simp[s2]
 generalize Ab.newRow h2 [[AV.map (h.sz+1)]] 1=h3 at *
 rw[jH (n:=1) rfl (by decide) rfl rfl rfl,s3]
 have o4:=cZ o3 [(AV.int .i64 0).cells] 1
 have e4:=bU o3 [(AV.int .i64 0).cells] 1
 have W4:=eY h3 [AV.int .i64 0]
 simp only[List.length_cons,List.length_nil,Nat.zero_add,s3] at W4
 have hci:(AV.int .i64 0).cells=[AV.int .i64 0]:=rfl
 rw[hci] at o4 e4 ⊢
 have s4:(Ab.newRow h3 [[AV.int .i64 0]] 1).sz=h.sz+4:=by simp[s3]
 generalize Ab.newRow h3 [[AV.int .i64 0]] 1=h4 at *
 have V4:=(V2.ext e3).ext e4
 rw[cO,ak,Nat.zero_add,V4.load,bY,fE,dR,ak]
 refine u38 ?_
 have o5:=cZ o4 [[AV.ptr id 0 0 0]] 1
 have e5:=bU o4 [[AV.ptr id 0 0 0]] 1
 have P5:=eY h4 [AV.ptr id 0 0 0]
 have o6:=cZ o5 [[AV.str c.super]] 1
 have e6:=bU o5 [[AV.str c.super]] 1
 have P6:=eY (Ab.newRow h4 [[AV.ptr id 0 0 0]] 1) [AV.str c.super]
 have s6:(Ab.newRow (Ab.newRow h4 [[AV.ptr id 0 0 0]] 1) [[AV.str c.super]] 1).sz=h.sz+6:=by simp[s4]
 simp only[List.length_cons,List.length_nil,Nat.zero_add] at P5 P6
 have P5':=P5.ext e6
 generalize Ab.newRow (Ab.newRow h4 [[AV.ptr id 0 0 0]] 1) [[AV.str c.super]] 1=h6 at *
 simp only[yC,s4] at P5 P6 P5' ⊢
 have E6:Ext h h6:=e1.trans (e2.trans (e3.trans (e4.trans (e5.trans e6))))
 have E24:Ext h2 h6:=e3.trans (e4.trans (e5.trans e6))
 generalize hreg:FI [(2,va),(4,AV.ptr h.sz 0 0 0),(7,AV.ptr (h.sz+2) 0 0 0),(8,AV.ptr (h.sz+3) 0 0 0),(40,AV.fn (Qa.func 81) [] [AV.ptr (h.sz+4) 0 0 0,AV.ptr (h.sz+4+1) 0 0 0])]=regs
 have e7:=kY o6 (Lp regs [41] mZ ni .ready)
 obtain⟨n,rfl⟩:∃j,n=j+1:=⟨n-1,by omega⟩
 have lo:h.sz≤h.sz∧h.sz≤h.sz+1∧h.sz≤h.sz+2∧h.sz≤h.sz+3∧h.sz+1≠h.sz+2∧h.sz+1≠h.sz+3∧h.sz+2≠h.sz+3:=by omega
 refine SF (n:=n+4) (t:= .ptr id 0 0 0) (l:=l) (s:=c.super) (hb:=h) A T0 (by omega)
  (fun r h'=>∃prev,Bu l c.super=prev++r.flatMap Cls.fields∧uW h h.sz (h.sz+1) (h.sz+2) (h.sz+3) h.sz [.str c.name, .str c.super,cf] (h.sz+4) [.ptr id 0 0 0] prev h'∧h'.get (h.sz+6)=some (Lp regs [41] mZ ni .ready)∧h.sz+7≤h'.sz)
  (fun x h'=>False) (P6.ext e7) ?_ ?_ ?_ ?_ ?_
 ·rintro r h' ⟨prev,i1,i2,i3,i4⟩
  exact⟨i2.k.ext,i2.vp,by rw[s6];exact i3⟩
 ·refine⟨[],by simp[Bu],⟨⟨E6.trans e7,o6.push _,lo,W3.ext ((e4.trans (e5.trans e6)).trans e7),W4.ext ((e5.trans e6).trans e7), ?_⟩,V4.ext ((e5.trans e6).trans e7),P5'.ext e7,by omega⟩, ?_,by simp[s6]⟩
  ·have:=m2.ext (E24.trans e7)
   have ec:rP []=fun _=>none:=by funext s;simp[rP,cnt]
   rw[ec];exact this
  ·rw[←s6];exact eX _ _
 ·rintro d r h' f K' ⟨prev,i1,i2,i3,i4⟩ hf k1 _
  rw[s6]
  have hy:=i3
  rw[←hreg] at hy
  refine KR bZ hy ?_
  rw[hreg] at hy
  unfold KU
  rw[jH (n:=3) rfl (by decide) rfl rfl (zm hf.leaf)]
  have o8:=cZ i2.k.ok [[AV.str d.name,AV.str d.super,f]] 3
  have e8:=bU i2.k.ok [[AV.str d.name,AV.str d.super,f]] 3
  have V8:=eY h' [AV.str d.name,AV.str d.super,f]
  have hc:(AV.agg [AV.str d.name,AV.str d.super,f]).cells=[AV.str d.name,AV.str d.super,f]:=rfl
  rw[hc]
  simp only[List.length_cons,List.length_nil,Nat.zero_add] at V8
  have s8:(Ab.newRow h' [[AV.str d.name,AV.str d.super,f]] 3).sz=h'.sz+1:=rfl
  generalize Ab.newRow h' [[AV.str d.name,AV.str d.super,f]] 3=h8 at *
  have I8:=i2.grow e8 o8
  rw[Gq (e8.2 _ _ hy)]
  have V9:=V8.other (j:=h.sz+6) (by omega) (Lp regs [41] mZ ni .busy)
  have I9:=I8.putY (y:=h.sz+6) ho (by omega) (by omega) (by omega) (Lp regs [41] mZ ni .busy)
  have g9:=eU h8 (h.sz+6) (Lp regs [41] mZ ni .busy)
  have s9:(h8.put (h.sz+6) (Lp regs [41] mZ ni .busy)).sz=h'.sz+1:=by simp[s8]
  generalize h8.put (h.sz+6) (Lp regs [41] mZ ni .busy)=h9 at *
  rw[cO,ak,Nat.zero_add,V9.load,bY,fE,fE,dR,ak,(hf.ext I9.k.ext).len,ak,List.length_map]
  have hlen:prev.length+d.fields.length≤(Bu l c.super).length:=by rw[i1];simp
  refine X9 (prev:=prev) (fs:=d.fields) (y:=h.sz+6) (mid:=h.sz+1) (vn:=h.sz+2) (vc:=h.sz+3) (b:=h.sz) (q:=h.sz) (p:=h.sz+4) (lp:=Lp regs [41] mZ ni .busy) ho hf (by omega) (by omega) ?_ (n+3) 0 h9 (by simpa using I9) g9 (by omega) (by omega)
  intro h10 I10 g10
  rw[vP g10]
  have hlt:=I10.k.lt
  have hsz10:h.sz+6<h10.sz:=I10.k.ok.lt g10
  refine k1 _ ⟨prev++d.fields,by rw[i1];simp,I10.putY ho (by omega) (by omega) hsz10 _,eU _ _ _,by simp;omega⟩
 ·rintro h' ⟨prev,i1,i2,i3,i4⟩
  rw[s6]
  simp only[List.flatMap_nil,List.append_nil] at i1
  subst i1
  have I2:=i2.putY (y:=h.sz+6) ho (by omega) (by omega) (by omega) (Lp regs [41] mZ ni .exh)
  unfold Mv
  rw[cO,ak,Nat.zero_add,I2.vq.load,bY,fE,fE,dR,ak,(Vc.ext I2.k.ext).len,ak,List.length_map]
  exact Yi (n:=n+2) ho Vc C hU (by omega) (by omega) (fun f hf=>⟨by have:=hs f hf;omega,by have:=hs f hf;omega⟩) k (n+5) 0 _ (by simpa using I2) (by omega) (by omega) (by simp)
 ·intro x h' hf;exact hf.elim
theorem u30 {n:Nat} {h:aj} {t va cf:AV} {l all:List Cls} {c:Cls} {K:aC} (T:fJ h t l) (A:Asc l) (ho:h.Ok) (C:CV h va all) (Vc:View h 3 cf (c.fields.map dZ))
 (hn:l.length+8<n) (hna:all.length<n) (hnf:c.fields.length<n) (hU:(Bu l c.super).length+c.fields.length<1000000) (hUn:(Bu l c.super).length<n) (hnb:n<lim)
 (hs0:c.name.length≤n) (hs:∀f∈c.fields,f.name.length≤n)
 (k:∀h',Ext h h'→h'.Ok→K (.bool (l9 l c (names all))) h'=true):aD E (n+5) (.func 51) [t, .agg [.str c.name, .str c.super,cf],va] h K=true:=by
 have T0:=T
 obtain⟨id,lv,mt,rfl,V0,C0,M0⟩:=T
 apply d51
 unfold s51
 rw[lM (n:=3) rfl (by decide) (zm Vc.leaf),dD]
 have hc:(AV.agg [AV.str c.name,AV.str c.super,cf]).cells=[AV.str c.name,AV.str c.super,cf]:=rfl
 rw[hc]
 have e1:=bU ho [[AV.str c.name,AV.str c.super,cf]] 3
 have o1:=cZ ho [[AV.str c.name,AV.str c.super,cf]] 3
 have V1:=eY h [AV.str c.name,AV.str c.super,cf]
 simp only[List.length_cons,List.length_nil,Nat.zero_add] at V1
 have s1:(Ab.newRow h [[AV.str c.name,AV.str c.super,cf]] 3).sz=h.sz+1:=rfl
 generalize Ab.newRow h [[AV.str c.name,AV.str c.super,cf]] 3=h1 at *
 rw[cO,ak,Nat.zero_add,V1.load,bY,dR,ak]
 refine u43 (by omega) (by omega) ?_
 have kbad:∀h',l9 l c (names all)=false→Ext h h'→h'.Ok→K (.bool false) h'=true:=by
  intro h' hf e o
  have:=k h' e o
  rw[hf] at this;exact this
 refine SG V1 ?_ ?_
 ·intro hnm
  refine Bw V1 ?_ (fun hh=>by cases hh) (fun hh=>by cases hh)
  intro _
  rw[fV]
  exact kbad h1 (by simp only[l9,hnm,Bool.false_and]) e1 o1
 ·intro hnm
  refine u19 (T0.ext e1) ?_
  refine Bw V1 ?_ ?_ ?_
  ·intro hh
   rw[fV]
   exact kbad h1 (by simp only[l9,hh,Bool.not_true,Bool.and_false,Bool.false_and]) e1 o1
  all_goals
   intro hh hu
  rotate_left
  ·refine u19 (T0.ext e1) ?_
   rw[gH,ak]
   cases hsup:(idx c.super (names l)).isSome with
   |false=>
    rw[Bool.not_false,fV]
    exact kbad h1 (by simp only[l9,hnm,hh,hsup,decide_eq_false hu,Bool.or_self,Bool.and_false,Bool.false_and]) e1 o1
   |true=>
    rw[Bool.not_true]
    have hgood:l9 l c (names all)=(LX (names all) (Bu l c.super) c.fields&&decide ((Bu l c.super).length+c.fields.length≤62)):=by
     simp only[l9,hnm,hh,hsup,Bool.not_false,Bool.or_true,Bool.and_true,Bool.true_and]
    rw[fM]
    exact Ro T0 A ho C Vc hn hna hnf hU hUn hnb hs V1 e1 o1 s1 (fun h' e o=>by have:=k h' e o;rw[hgood] at this;exact this)
  ·have hgood:l9 l c (names all)=(LX (names all) (Bu l c.super) c.fields&&decide ((Bu l c.super).length+c.fields.length≤62)):=by
    simp only[l9,hnm,hh,hu,decide_true,Bool.not_false,Bool.true_or,Bool.and_true,Bool.true_and]
   rw[fM]
   exact Ro T0 A ho C Vc hn hna hnf hU hUn hnb hs V1 e1 o1 s1 (fun h' e o=>by have:=k h' e o;rw[hgood] at this;exact this)
theorem u31 {n:Nat} {h:aj} {v:AV} {es:List (List AV)} {K:aC} (ho:h.Ok) (V:View h 3 v es) (hl:es.length<1000000)
 (k:∀h' v',Ext h h'→h'.Ok→View h' 3 v' es→(∀id g s l c ex,v'= .slc id g s l c ex→h.sz≤id)→K v' h'=true):aD E (n+1) (.func 52) [v] h K=true:=by
 apply d52
 unfold s52
 have hnil:v= .nilSlc∨ru h false .slc v .nilSlc=some (.bool false):=by
  rcases V with⟨_,rfl |rfl⟩|⟨id,g,s,cap,ex,r,rfl,_⟩
  ·exact .inl rfl
  ·exact .inr rfl
  ·exact .inr rfl
 rcases hnil with rfl |hne
 ·have:ru h false .slc .nilSlc .nilSlc=some (.bool true):=rfl
  rw[this,ak,fV]
  exact k h _ (Ext.refl h) ho V (by intro id g s l c ex hh;cases hh)
 ·rw[hne,ak,fM]
  have hb:dX h 0 3 [AV.str [],AV.int .i64 0,AV.str []] []=some (.slc h.sz 0 0 0 0 true,Ab.newRow h [] 3):=rfl
  rw[hb,dD]
  have e1:=bU ho [] 3
  have o1:=cZ ho [] 3
  have r1:(Ab.newRow h [] 3).row h.sz=some {es:=[],sz:=3,g:=0,m:=0,rw:=true}:=by rw[aj.row_some];exact eX _ _
  generalize Ab.newRow h [] 3=h1 at *
  have V1:=V.ext e1
  cases es with
  |nil=>
   have:cK h1 3 40 (.slc h.sz 0 0 0 0 true) v=some (.slc h.sz 0 0 0 0 true,h1):=by
    simp only[cK,show Nat.beq 3 0=false from rfl,cond_false,V1.src,eZ]
   rw[this,dD]
   exact k h1 _ e1 o1 (.inr ⟨h.sz,0,0,0,true,_,rfl,r1,Nat.le_refl _,rfl,rfl,Nat.le_refl _⟩) (by intro id g s l c ex hh;cases hh;exact Nat.le_refl _)
  |cons y l=>
   have b1:Nat.ble ((0+(y :: l).length)*40) most=true:=bI.2 (by unfold most;omega)
   have b2:Nat.ble (0+(y :: l).length) most=true:=bI.2 (by unfold most;omega)
   have b3:Nat.ble (0+(y :: l).length) 0=false:=by
    cases hh:Nat.ble (0+(y :: l).length) 0 with
    |false=>rfl
    |true=>have:=bI.1 hh;simp at this
   have:cK h1 3 40 (.slc h.sz 0 0 0 0 true) v=some (.slc h1.sz 0 0 (0+(y :: l).length) (0+(y :: l).length) false,Ab.newRow h1 (y :: l) 3):=by
    simp only[cK,show Nat.beq 3 0=false from rfl,cond_false,V1.src,eZ,r1,b1,b2,b3,Nat.beq_refl,Bool.and_self,cond_true,Nat.ble_self_eq_true,List.drop_nil,List.take_nil,List.length_nil,List.nil_append]
   rw[this,dD]
   refine k _ _ (e1.trans (bU o1 _ 3)) (cZ o1 _ 3) (.inr ⟨h1.sz,0,0,0+(y :: l).length,false,{es:=y :: l,sz:=3,g:=0,m:=0,rw:=true},by simp, ?_,Nat.le_refl _,rfl,by simp,by simp⟩) (by intro id g s l c ex hh;cases hh;exact e1.1)
   rw[aj.row_some];exact eX _ _
def kG (all:List Str):List Cls→List Cls→Bool
 |_,[]=>true
 |pre,c :: r=>decide (c.fields.length≤62)&&l9 pre c all&&kG all (pre++[c]) r
def valid (l:List Cls):Bool:=decide (l.length≤64)&&kG (names l) [] l
def Good (pre:List Cls):Prop:=(∀(i:Nat) c,pre[i]? =some c→c.super=[]∨∃j,j<i∧idx c.super (names pre)=some j)∧∀c∈pre,isName c.name=true∧c.fields.length≤62
theorem zZ:isName []=false:=rfl
theorem Gh {s:Str} {l:List Str} {i:Nat} (h:idx s l=some i):s∈l:=List.mem_of_getElem? (mE h).2
theorem Good.asc {pre:List Cls} (G:Good pre):Asc pre:=by
 intro i c hc j hj
 rcases G.1 i c hc with h |⟨k,hk,hk2⟩
 ·rw[h] at hj
  have:=Gh hj
  simp only[names,List.mem_map] at this
  obtain⟨d,hd,hd2⟩:=this
  have:=(G.2 d hd).1
  rw[hd2,zZ] at this;cases this
 ·rw[hk2] at hj;cases hj;exact hk
theorem lF {s:Str}:∀{l m:List Str},idx s (l++m)=match idx s l with |some i=>some i |none=>(idx s m).map (· + l.length)
 | [],m=>by simp[idx]
 |c :: l,m=>by
  simp only[List.cons_append,idx]
  by_cases h:c=s
  ·simp[h]
  ·rw[if_neg h,if_neg h,lF (l:=l)]
   cases idx s l with
   |some i=>rfl
   |none=>cases idx s m<;>simp;omega
theorem mD (a b:List Cls):names (a++b)=names a++names b:=by simp[names]
theorem Good.next {pre:List Cls} {c:Cls} {all:List Str} (G:Good pre) (hf:l9 pre c all=true) (h62:c.fields.length≤62):Good (pre++[c]):=by
 simp only[l9,Bool.and_eq_true,Bool.or_eq_true,decide_eq_true_eq,Bool.not_eq_true'] at hf
 obtain⟨⟨⟨⟨f1,f2⟩,f3⟩,f4⟩,f5⟩:=hf
 refine⟨fun i d hd=> ?_,fun d hd=> ?_⟩
 ·rw[mD]
  by_cases hi:i<pre.length
  ·rw[List.getElem?_append_left hi] at hd
   rcases G.1 i d hd with h |⟨j,h1,h2⟩
   ·exact .inl h
   ·exact .inr ⟨j,h1,by rw[lF,h2]⟩
  ·rw[List.getElem?_append_right (by omega)] at hd
   have hz:i-pre.length=0:=by
    rcases Nat.eq_zero_or_pos (i-pre.length) with h |h
    ·exact h
    ·rw[List.getElem?_eq_none (by simp;omega)] at hd;cases hd
   rw[hz] at hd
   simp at hd;subst hd
   rcases f3 with f3 |f3
   ·exact .inl f3
   ·cases hx:idx c.super (names pre) with
    |none=>rw[hx] at f3;cases f3
    |some j=>
     have:=(mE hx).1
     rw[eD] at this
     exact .inr ⟨j,by omega,by rw[lF,hx]⟩
 ·rcases List.mem_append.1 hd with h |h
  ·exact G.2 d h
  ·simp at h;subst h;exact⟨f1,h62⟩
theorem VY {pre:List Cls} (G:Good pre) (s:Str):(Bu pre s).length≤pre.length*62:=by
 unfold Bu
 have h1:(chain pre s).length≤pre.length:=by
  cases hs:idx s (names pre) with
  |none=>rw[gF hs];simp
  |some i=>
   have:=rD G.asc i hs
   have:=(mE hs).1
   rw[eD] at this
   omega
 have h2:∀c∈chain pre s,c.fields.length≤62:=by
  intro c hc
  cases hs:idx s (names pre) with
  |none=>rw[gF hs] at hc;cases hc
  |some i=>exact(G.2 c (yY G.asc i hs c hc)).2
 have h3:∀(m:List Cls),(∀c∈m,c.fields.length≤62)→(m.flatMap Cls.fields).length≤m.length*62:=by
  intro m
  induction m with
  |nil=>intro _;simp
  |cons c m ih=>
   intro hm
   have a:=hm c List.mem_cons_self
   have b:=ih (fun d hd=>hm d (List.mem_cons_of_mem _ hd))
   simp only[List.flatMap_cons,List.length_append,List.length_cons]
   omega
 have:=h3 _ h2
 have:(chain pre s).length*62≤pre.length*62:=Nat.mul_le_mul_right _ h1
 omega
def kS (h h':aj):Prop:=∀j r,h.row j=some r→r.sz=3→h'.row j=some r
theorem kS.of_ext {h h':aj} (e:Ext h h'):kS h h':=fun _ _ hr _=>e.row hr
theorem kS.trans {a b c:aj} (x:kS a b) (y:kS b c):kS a c:=fun j r hr hs=>y j r (x j r hr hs) hs
theorem kS.put {h h':aj} (x:kS h h') {id:Nat} (hid:∀r,h.row id=some r→r.sz≠3) (o:iq):kS h (h'.put id o):=by
 intro j r hr hs
 have hne:j≠id:=fun e=>hid r (by rw[←e];exact hr) hs
 have:=x j r hr hs
 rw[aj.row_some] at this ⊢
 rw[aj.get_put,if_neg hne];exact this
theorem _root_.Go.Ab.View.rows {h h':aj} {v:AV} {es:List (List AV)} (V:View h 3 v es) (x:kS h h'):View h' 3 v es:=by
 rcases V with V |⟨i',g',s',cp,ex,rr,w1,w2,w3,w4,w5⟩
 ·exact .inl V
 ·exact .inr ⟨i',g',s',cp,ex,rr,w1,x _ _ w2 w4,w3,w4,w5⟩
theorem _root_.Go.Ab.Own.rows {b:Nat} {h h':aj} {v:AV} {es:List (List AV)} (V:Own b h 3 v es) (x:kS h h'):Own b h' 3 v es:=by
 rcases V with V |⟨id,r,w1,w2,w3,w4,w5,w6,w7⟩
 ·exact .inl V
 ·exact .inr ⟨id,r,w1,w2,x _ _ w3 w6,w4,w5,w6,w7⟩
theorem _root_.Go.Ab.View.put' {h:aj} {n:Nat} {v:AV} {es:List (List AV)} (V:View h n v es) {id:Nat} (hid:∀i g s l c ex,v= .slc i g s l c ex→i≠id) (o:iq):View (h.put id o) n v es:=by
 rcases V with V |⟨i',g',s',cp,ex,rr,w1,w2,w3,w4,w5⟩
 ·exact .inl V
 ·refine .inr ⟨i',g',s',cp,ex,rr,w1, ?_,w3,w4,w5⟩
  have hne:i'≠id:=hid _ _ _ _ _ _ w1
  rw[aj.row_some] at w2 ⊢
  rw[aj.get_put,if_neg hne];exact w2
theorem _root_.Go.Ab.Own.row_ne {b:Nat} {h:aj} {v:AV} {es:List (List AV)} (O:Own b h 3 v es) {j:Nat} {o:iq} (hj:h.get j=some o) (hne:∀r,o= .row r→r.sz≠3):∀id g s l c ex,v= .slc id g s l c ex→j≠id:=by
 intro id g s l c ex hv hjd
 rcases O with⟨rfl,_⟩|⟨id',r,w1,rfl,w3,w4,w5,w6,w7⟩
 ·cases hv
 ·cases hv
  subst hjd
  rw[aj.row_some,hj] at w3
  cases w3
  exact hne r rfl w6
theorem _root_.Go.Ab.Own.same {b:Nat} {h:aj} {v:AV} {es:List (List AV)} (O:Own b h 3 v es):AV.same v v=true:=by
 rcases O with⟨rfl,_⟩|⟨id',r,w1,rfl,_⟩
 ·rfl
 ·simp[AV.same]
theorem R5 {call:ay} {h:aj} {t v:AV} {q:Nat} {s u:Str} {g:AV} {b:Bool} {k:AV→aj→Bool} (V:Var h q [.str s, .str u,g]) (h0:b=true→k (.bool true) h=true) (h1:b=false→call (.func 51) [t, .agg [.str s, .str u,g],v] h (fun w h=>ah (fT w) fun x=>k x h)=true):
 (ah (aQ (aB (.bool b) false) (some t)) fun v16=>ah (aQ (aB (.bool b) false) (au h true 3 (.ptr q 0 0 0))) fun v17=>ah (aQ (aB (.bool b) false) (some v)) fun v18=>ji (aB (.bool b) false) (fun k=>call (.func 51) [v16,v17,v18] h k) h fun v19 h=>ah (aQ (aB (.bool b) false) (fT v19)) fun v20=>ah (cB (.bool b) (AV.bool true) v20) fun v21=>k v21 h)=true:=by
 cases b with
 |true=>exact h0 rfl
 |false=>
  have:=h1 rfl
  have hl:au h true 3 (.ptr q 0 0 0)=some (.agg [.str s, .str u,g]):=by rw[V.load];rfl
  simp only[jd,Bool.not_false,fB,ak,hl,qw,iJ]
  exact this
def KY (pre:List Cls) (s:Str):Option AV:=(idx s (names pre)).map fun i=> .int .i64 (i:Int)
def VAt (b:Nat) (v:AV):Prop:=∀id g s l c ex,v= .slc id g s l c ex→b≤id
def yw (b:Nat) (h:aj) (a:List AV) (c:Cls):Prop:=∃v,a=[.str c.name, .str c.super,v]∧View h 3 v (c.fields.map dZ)∧VAt b v
theorem yw.cls {b:Nat} {h:aj} {a:List AV} {c:Cls} (R:yw b h a c):Jg h a c:=let⟨v,h1,h2,_⟩:=R;⟨v,h1,h2⟩
theorem _root_.Go.Ab.Own.at_ {b n:Nat} {h:aj} {v:AV} {es:List (List AV)} (O:Own b h n v es):VAt b v:=by
 intro id g s l c ex hv
 rcases O with⟨rfl,_⟩|⟨id',r,w1,rfl,_⟩
 ·cases hv
 ·cases hv;exact w1
def TabAt (b:Nat) (h:aj) (t:AV) (l:List Cls):Prop:=
 ∃id lv mid es,t= .ptr id 0 0 0∧b≤id∧b≤mid∧Var h id [lv, .map mid]∧View h 3 lv es∧VAt b lv∧gM (yw b h) es l∧ig h mid (fun s=>(idx s (names l)).map fun i=> .int .i64 (i:Int))
theorem TabAt.rep {b:Nat} {h:aj} {t:AV} {l:List Cls} (T:TabAt b h t l):fJ h t l:=
 let⟨id,lv,mid,es,h1,_,_,h4,h5,_,h7,h8⟩:=T;⟨id,lv,mid,h1,h4,⟨es,h5,h7.mono fun _ _ r=>r.cls⟩,h8⟩
structure Ki (h0:aj) (t mid:Nat) (pre:List Cls) (h:aj):Prop where
 ext:Ext h0 h
 ok:h.Ok
 v:∃lv es,Var h t [lv, .map mid]∧Own h0.sz h 3 lv es∧gM (yw h0.sz h) es pre
 m:ig h mid (KY pre)
 lo:h0.sz≤t∧h0.sz≤mid∧t≠mid
theorem Ki.table {h0 h:aj} {t mid:Nat} {pre:List Cls} (I:Ki h0 t mid pre h):fJ h (.ptr t 0 0 0) pre:=by
 obtain⟨lv,es,v1,v2,v3⟩:=I.v
 exact⟨t,lv,mid,rfl,v1,⟨es,v2.view,v3.mono fun _ _ r=>r.cls⟩,I.m⟩
theorem Ki.tabAt {h0 h:aj} {t mid:Nat} {pre:List Cls} (I:Ki h0 t mid pre h):TabAt h0.sz h (.ptr t 0 0 0) pre:=by
 obtain⟨lv,es,v1,v2,v3⟩:=I.v
 exact⟨t,lv,mid,es,rfl,I.lo.1,I.lo.2.1,v1,v2.view,v2.at_,v3,I.m⟩
theorem Pt {pre:List Cls} {c:Cls} (hn:(idx c.name (names pre)).isSome=false):(fun s=>if s=c.name then some (AV.int .i64 (pre.length:Int)) else KY pre s)=KY (pre++[c]):=by
 funext s
 unfold KY
 rw[mD,lF]
 by_cases h:s=c.name
 ·subst h
  cases hx:idx c.name (names pre) with
  |none=>simp[names,idx]
  |some i=>rw[hx] at hn;cases hn
 ·have h':¬c.name=s:=fun e=>h e.symm
  cases hx:idx s (names pre) with
  |none=>simp[names,idx,h,h']
  |some i=>simp[h]
theorem Q0 (a b:Str) (f:AV) (hf:f.leaf=true):jG 3 (jO 1 [AV.str [],AV.str [],AV.nilSlc]) [(0,AV.agg [AV.str a,AV.str b,f])]=some [[AV.str a,AV.str b,f]]:=by
 have hc:(AV.agg [AV.str a,AV.str b,f]).cells=[AV.str a,AV.str b,f]:=rfl
 have e:=zm (a:=a) (b:=b) hf
 simp only[jG,e,hc]
 rw[hc] at e
 simp only[e]
 rfl
def q11 (call:ay) (n:Nat) (B:AV→aj→Bool) (x4 v10 x15:AV) (h:aj):Bool:=
 ah (bK x4) fun v22=>ah (aH 1 v22) fun v23=>ah (au h false 1 v23) fun v24=>ah (aH 0 v10) fun v25=>ah (au h false 1 v25) fun v26=>ah (bK x4) fun v27=>ah (aH 0 v27) fun v28=>ah (au h false 1 v28) fun v29=>ah (dw h 1 v29) fun v30=>bP (unit (kQ h (.leaf .str) v24 v26 v30)) fun _ h=>ah (aH 2 v10) fun v32=>ah (au h false 1 v32) fun v33=>call (.func 52) [v33] h fun v34 h=>ah (aH 2 v10) fun v35=>bP (unit (bT h 1 v35 v34)) fun _ h=>ah (bK x4) fun v37=>ah (aH 0 v37) fun v38=>ah (au h false 1 v38) fun v39=>ah (au h true 3 v10) fun v40=>bP (dX h 1 3 [.str [], .str [], .nilSlc] [(0,v40)]) fun v41 h=>fA (au h false 1 v38) v39 <| bP (cK h 3 56 v39 v41) fun v42 h=>ah (bK x4) fun v43=>ah (aH 0 v43) fun v44=>bP (unit (bT h 1 v44 v42)) fun _ h=>ah (aR .add x15 (.int .i64 1)) fun v46=>B v46 h
theorem Xk {n i:Nat} {h0 h h2:aj} {t mid q:Nat} {pre:List Cls} {c:Cls} {f:AV} {B:AV→aj→Bool} (k0:h0.Ok) (I:Ki h0 t mid pre h) (e:Ext h h2) (o2:h2.Ok) (hq:h.sz≤q) (Vq:Var h2 q [.str c.name, .str c.super,f]) (Vf:View h2 3 f (c.fields.map dZ))
 (hn:(idx c.name (names pre)).isSome=false) (h64:pre.length<64) (h62:c.fields.length≤62) (hi:i<lim)
 (k:∀h',Ki h0 t mid (pre++[c]) h'→B (.int .i64 ((i+1:Nat):Int)) h'=true):q11 (aD E (n+1)) n B (.ptr t 0 0 0) (.ptr q 0 0 0) (.int .i64 (i:Int)) h2=true:=by
 obtain⟨lv,es,v1,v2,v3⟩:=I.v
 obtain⟨lo1,lo2,lo3⟩:=I.lo
 have tlt:t<h.sz:=v1.lt I.ok
 have mlt:mid<h.sz:=I.m.lt I.ok
 have qlt:q<h2.sz:=Vq.lt o2
 have hsz:=e.1
 have hlen:es.length=pre.length:=v3.length
 have V1:=v1.ext e
 have O2:=v2.rows (kS.of_ext e)
 have M2:=I.m.ext e
 unfold q11
 simp only[jX,cO,ak,Nat.zero_add,bY,fE,dR,V1.load,Vq.load,O2.view.len]
 obtain⟨ob,u1,u2⟩:=M2.upd c.name (.int .i64 (es.length:Int))
 rw[hlen] at u1 u2
 rw[hlen,u1]
 rw[Pt hn] at u2
 have r3:kS h (h2.put mid ob):=by
  refine(kS.of_ext e).put ?_ ob
  intro r hr
  obtain⟨es',cc,m1,_⟩:=I.m
  rw[aj.row_some,m1] at hr;cases hr
 have r23:kS h2 (h2.put mid ob):=by
  refine(kS.of_ext (Ext.refl h2)).put ?_ ob
  intro r hr
  obtain⟨es',cc,m1,_⟩:=M2
  rw[aj.row_some,m1] at hr;cases hr
 have Vq3:=Vq.other (j:=mid) (by omega) ob
 have V13:=V1.other (j:=mid) lo3 ob
 have Vf3:=Vf.rows r23
 have E3:Ext h0 (h2.put mid ob):=gY (I.ext.trans e) k0 lo2 ob
 have o3:(h2.put mid ob).Ok:=o2.put (by omega) ob
 have s3:(h2.put mid ob).sz=h2.sz:=by simp
 generalize h2.put mid ob=h3 at *
 simp only[unit,Option.map_some,dD,jX,cO,ak,Nat.zero_add,bY,fE,dR,Vq3.load]
 refine u31 o3 Vf3 (by rw[List.length_map];omega) ?_
 intro h4 v34 e4 o4 V34 hfresh
 have Vq4:=Vq3.ext e4
 have V14:=V13.ext e4
 have M4:=u2.ext e4
 rw[Vq4.set1 (by simp) V34.leaf]
 simp only[unit,Option.map_some,dD]
 have r4:kS h (h4.put q (.row (lI ([AV.str c.name,AV.str c.super,f].set 2 v34)))):=by
  refine(r3.trans (kS.of_ext e4)).put ?_ _
  intro r hr
  have:=I.ok.lt (aj.row_some.1 hr)
  omega
 have Vq5:=oq (h:=h4) q ([AV.str c.name,AV.str c.super,f].set 2 v34)
 have V15:=V14.other (j:=q) (by omega) (.row (lI ([AV.str c.name,AV.str c.super,f].set 2 v34)))
 have M5:=M4.other (j:=q) (by omega) (.row (lI ([AV.str c.name,AV.str c.super,f].set 2 v34)))
 have hlo0:=I.ext.1
 have E5:Ext h0 (h4.put q (.row (lI ([AV.str c.name,AV.str c.super,f].set 2 v34)))):=gY (E3.trans e4) k0 (by omega) _
 have hlo4:=e4.1
 have o5:(h4.put q (.row (lI ([AV.str c.name,AV.str c.super,f].set 2 v34)))).Ok:=o4.put (by omega) _
 have V35:=V34.put' (id:=q) (by intro i g s l c ex hv;have:=hfresh i g s l c ex hv;omega) (.row (lI ([AV.str c.name,AV.str c.super,f].set 2 v34)))
 have O5:=v2.rows r4
 have A5:gM (yw h0.sz (h4.put q (.row (lI ([AV.str c.name,AV.str c.super,f].set 2 v34))))) es pre:=v3.mono fun _ _ ⟨v,a1,a2,a3⟩=>⟨v,a1,a2.rows r4,a3⟩
 have s5:(h4.put q (.row (lI ([AV.str c.name,AV.str c.super,f].set 2 v34)))).sz=h4.sz:=by simp
 generalize h4.put q (.row (lI ([AV.str c.name,AV.str c.super,f].set 2 v34)))=h5 at *
 have hl40:au h5 true 3 (.ptr q 0 0 0)=some (.agg [.str c.name, .str c.super,v34]):=by rw[Vq5.load];rfl
 simp only[V15.load,hl40,jX,cO,ak,Nat.zero_add,bY,fE,dR]
 obtain⟨v41,b1,b2⟩:=uj (h:=h5) (n:=1) (sz:=3) (z:=[AV.str [],AV.str [],AV.nilSlc]) rfl (by decide) (by decide) rfl (Q0 c.name c.super v34 V34.leaf) rfl
 rw[b1,dD]
 have e6:=bU o5 [[AV.str c.name,AV.str c.super,v34]] 3
 have o6:=cZ o5 [[AV.str c.name,AV.str c.super,v34]] 3
 have s6:(Ab.newRow h5 [[AV.str c.name,AV.str c.super,v34]] 3).sz=h5.sz+1:=rfl
 generalize Ab.newRow h5 [[AV.str c.name,AV.str c.super,v34]] 3=h6 at *
 have V16:=V15.ext e6
 have O6:=O5.rows (kS.of_ext e6)
 have M6:=M5.ext e6
 have A6:gM (yw h0.sz h6) es pre:=A5.mono fun _ _ ⟨v,a1,a2,a3⟩=>⟨v,a1,a2.ext e6,a3⟩
 have V36:=V35.ext e6
 have hs:fA (au h6 false 1 (.ptr t 0 0 0)) lv=fun r=>r:=by
  funext r
  rw[V16.load,bY,dR]
  simp only[fA,O6.same,cond_true]
 rw[hs]
 obtain⟨v42,h7,a1,a2,a3,a4,a5,a6,a7⟩:=O6.app (bytes:=56) (by decide) (by have:=E5.1;omega) o6 k0 (E5.trans e6) (Nat.le_refl _) b2.src (by simp;unfold most;omega) (by simp;unfold most;omega)
 rw[a1,dD]
 have V17:Var h7 t [lv, .map mid]:=by
  have V16':h6.row t=some (lI [lv, .map mid]):=V16
  show h7.row t=some _
  rw[aj.row_some] at V16' ⊢
  refine a6 _ _ V16' (O6.row_ne V16' ?_)
  intro r hr;cases hr;simp[lI]
 have M7:ig h7 mid (KY (pre++[c])):=by
  obtain⟨es',cc,m1,m2⟩:=M6
  refine⟨es',cc,a6 _ _ m1 (O6.row_ne m1 ?_),m2⟩
  intro r hr;cases hr
 rw[V17.set1 (by simp) a2.view.leaf]
 simp only[unit,Option.map_some,dD]
 rw[dV hi,ak]
 have hne:∀r,h7.row t=some r→r.sz≠3:=by
  intro r hr
  have V17':h7.row t=some (lI [lv, .map mid]):=V17
  rw[V17'] at hr;cases hr;simp[lI]
 have r8:kS h7 (h7.put t (.row (lI ([lv,AV.map mid].set 0 v42)))):=(kS.of_ext (Ext.refl h7)).put hne _
 refine k _ ⟨gY a4 k0 lo1 _,a3.put (V17.lt a3) _,⟨v42,es++[[.str c.name, .str c.super,v34]],oq _ _,a2.rows r8, ?_⟩,M7.other (Ne.symm lo3) _,lo1,lo2,lo3⟩
 refine gM.append ?_ (.cons ⟨v34,rfl,(a7 _ _ _ V36).rows r8, ?_⟩ .nil)
 ·exact A6.mono fun _ _ ⟨v,b1,b2,b3⟩=>⟨v,b1,(a7 _ _ _ b2).rows r8,b3⟩
 ·intro i g s l c ex hv;have:=hfresh i g s l c ex hv;have:=E3.1;omega
theorem DI {l:List Cls} {i:Nat} (hlt:i<l.length):l.take (i+1)=l.take i++[l[i]]:=by
 rw[List.take_add_one,List.getElem?_eq_getElem hlt];rfl
structure Room (n:Nat) (l:List Cls):Prop where
 big:5000<n
 top:n+10<lim
 name:∀c∈l,c.name.length≤n∧∀f∈c.fields,f.name.length≤n
theorem l11 {n:Nat} {h0:aj} {va:AV} {l:List Cls} {t mid:Nat} {K:aC} (k0:h0.Ok) (C:CV h0 va l) (h64:l.length≤64) (R:Room n l)
 (kbad:kG (names l) [] l=false→∀h',Ext h0 h'→h'.Ok→K (.tup [.nilPtr, .int .i64 10]) h'=true)
 (kgood:kG (names l) [] l=true→Good l→∀h',Ext h0 h'→h'.Ok→TabAt h0.sz h' (.ptr t 0 0 0) l→K (.tup [.ptr t 0 0 0, .int .i64 0]) h'=true):
 ∀(m i:Nat) (h:aj),Ki h0 t mid (l.take i) h→Good (l.take i)→kG (names l) [] l=kG (names l) (l.take i) (l.drop i)→i≤l.length→l.length-i<m→
  vQ (aD E (n+5)) (n+5) m va (.ptr t 0 0 0) va (.int .i64 (l.length:Int)) (.int .i64 (i:Int)) h K=true:=by
 intro m
 induction m with
 |zero=>intro i h _ _ _ _ hm;omega
 |succ m ih=>
  intro i h I G hv hi hm
  have hR:=R.big
  have hL:=R.top
  rw[QX]
  unfold FM
  rw[eF,ak]
  by_cases hlt:i<l.length
  ·have hd:l.drop i=l[i] :: l.drop (i+1):=List.drop_eq_getElem_cons hlt
   have hpl:(l.take i).length=i:=by simp;omega
   obtain⟨id,g,j,f,p1,p2,p3,p4,p5,p6⟩:=(C.ext I.ext).at (List.getElem?_eq_getElem hlt)
   obtain⟨hr1,hr2⟩:=R.name _ (List.getElem_mem hlt)
   rw[hd] at hv
   have hnx:=DI hlt
   generalize l[i]=c at *
   rw[dB (by simpa using hlt),p1,ak,p2,ak,jH (n:=3) rfl (by decide) rfl rfl (zm p6.leaf)]
   have e1:=bU I.ok [[AV.str c.name,AV.str c.super,f]] 3
   have o1:=cZ I.ok [[AV.str c.name,AV.str c.super,f]] 3
   have V1:=eY h [AV.str c.name,AV.str c.super,f]
   have hc:(AV.agg [AV.str c.name,AV.str c.super,f]).cells=[AV.str c.name,AV.str c.super,f]:=rfl
   rw[hc]
   simp only[List.length_cons,List.length_nil,Nat.zero_add] at V1
   generalize Ab.newRow h [[AV.str c.name,AV.str c.super,f]] 3=h1 at *
   have P1:=p6.ext e1
   have hU:=VY G c.super
   rw[hpl] at hU
   have hUU:i*62≤64*62:=Nat.mul_le_mul_right _ (by omega)
   have bad:kG (names l) [] l=false→∀h',Ext h1 h'→h'.Ok→K (.tup [.nilPtr, .int .i64 10]) h'=true:=fun hb h' e o=>kbad hb h' ((I.ext.trans e1).trans e) o
   rw[cO,ak,V1.load,Nat.zero_add,bY,fE,fE,dR,ak,P1.len,ak,lg,ak,List.length_map]
   refine R5 V1 ?_ ?_
   ·intro hb
    rw[fV]
    refine bad ?_ h1 (Ext.refl h1) o1
    rw[hv]
    have:¬c.fields.length≤62:=by simp at hb;omega
    simp only[kG,decide_eq_false this,Bool.false_and]
   ·intro hb
    have h62:c.fields.length≤62:=by simp at hb;omega
    refine u30 (I.table.ext e1) G.asc o1 (C.ext (I.ext.trans e1)) P1 (by omega) (by omega) (by omega) (by omega) (by omega) (by omega) (by omega) (fun x hx=>hr2 x hx) ?_
    intro h2 e2 o2
    rw[gH,ak]
    cases hfit:l9 (l.take i) c (names l) with
    |false=>
     rw[Bool.not_false,fV]
     exact bad (by rw[hv];simp only[kG,hfit,Bool.and_false,Bool.false_and]) h2 e2 o2
    |true=>
     rw[Bool.not_true,fM]
     have hno:(idx c.name (names (l.take i))).isSome=false:=by
      have:=hfit
      simp only[l9,Bool.and_eq_true,Bool.not_eq_true'] at this
      exact this.1.1.1.2
     refine Xk (B:=fun v46 h=>vQ (aD E (n+5)) (n+5) m va (.ptr t 0 0 0) va (.int .i64 (l.length:Int)) v46 h K) k0 I (e1.trans e2) o2 (Nat.le_refl _) (V1.ext e2) (P1.ext e2) hno (by omega) h62 (by omega) ?_
     intro h3 I3
     rw[←hnx] at I3
     refine ih (i+1) h3 I3 (by rw[hnx];exact G.next hfit h62) ?_ (by omega) (by omega)
     rw[hv,hnx]
     simp only[kG,hfit,decide_eq_true h62,Bool.true_and]
  ·have hd:l.drop i=[]:=List.drop_of_length_le (by omega)
   have ht:l.take i=l:=List.take_of_length_le (by omega)
   rw[hd] at hv
   rw[ht] at I G
   rw[dG (by simpa using hlt)]
   exact kgood (by rw[hv];rfl) G h I.ext I.ok I.tabAt
theorem aeX {n:Nat} {h:aj} {va:AV} {l:List Cls} {K:aC} (ho:h.Ok) (C:CV h va l) (R:Room n l)
 (kbad:valid l=false→∀h',Ext h h'→h'.Ok→K (.tup [.nilPtr, .int .i64 10]) h'=true)
 (kgood:valid l=true→Good l→∀h' t,Ext h h'→h'.Ok→TabAt h.sz h' t l→K (.tup [t, .int .i64 0]) h'=true):aD E (n+6) (.func 22) [va] h K=true:=by
 have hR:=R.big
 have hL:=R.top
 apply d22
 unfold s22
 obtain⟨m1,m2⟩:=Cj h
 rw[m1,dD]
 have e1:=kY ho (.map [] 0)
 have o1:=ho.push (.map [] 0)
 have s1:(h.push (.map [] 0)).sz=h.sz+1:=by simp
 generalize h.push (.map [] 0)=h1 at *
 have hb:eP [AV.nilSlc,AV.nilMap] [(1,1,AV.map h.sz)]=some (.agg [.nilSlc, .map h.sz]):=rfl
 rw[hb,ak,lM (n:=2) rfl (by decide) rfl,dD]
 have hc:(AV.agg [AV.nilSlc,AV.map h.sz]).cells=[AV.nilSlc,AV.map h.sz]:=rfl
 rw[hc,s1]
 have e2:=bU o1 [[AV.nilSlc,AV.map h.sz]] 2
 have o2:=cZ o1 [[AV.nilSlc,AV.map h.sz]] 2
 have V2:=eY h1 [AV.nilSlc,AV.map h.sz]
 simp only[List.length_cons,List.length_nil,Nat.zero_add,s1] at V2
 generalize Ab.newRow h1 [[AV.nilSlc,AV.map h.sz]] 2=h2 at *
 rw[(C.ext (e1.trans e2)).len,ak,lg,ak]
 by_cases h64:l.length≤64
 ·have hva:valid l=kG (names l) [] l:=by simp only[valid,decide_eq_true h64,Bool.true_and]
  rw[dG (by simp;omega)]
  unfold MQ
  rw[(C.ext (e1.trans e2)).len,ak]
  refine l11 (h0:=h) (mid:=h.sz) (t:=h.sz+1) ho C h64 R ?_ ?_ (n+5) 0 h2 ?_ ?_ rfl (by omega) (by omega)
  ·intro hb h' e o;exact kbad (by rw[hva];exact hb) h' e o
  ·intro hg G h' e o T;exact kgood (by rw[hva];exact hg) G h' _ e o T
  ·refine⟨e1.trans e2,o2,⟨.nilSlc,[],V2,Own.nil _ _ _, .nil⟩, ?_,by omega⟩
   have:=m2.ext e2
   have he:KY []=fun _=>none:=by funext s;rfl
   show ig h2 h.sz (KY [])
   rw[he];exact this
  ·exact⟨fun i c hc=>by simp at hc,fun c hc=>by simp at hc⟩
 ·have hva:valid l=false:=by simp only[valid,decide_eq_false h64,Bool.false_and]
  rw[dB (by simp;omega)]
  exact kbad hva h2 (e1.trans e2) o2
theorem u11 {n:Nat} {h:aj} {va:AV} {l:List Cls} {K:aC} (ho:h.Ok) (C:CV h va l) (R:Room n l)
 (kbad:valid l=false→∀h',Ext h h'→h'.Ok→K (.tup [.nilPtr, .int .i64 10]) h'=true)
 (kgood:valid l=true→Good l→∀h' t,Ext h h'→h'.Ok→fJ h' t l→K (.tup [t, .int .i64 0]) h'=true):aD E (n+6) (.func 22) [va] h K=true:=
 aeX ho C R kbad fun hv G h' t e o T=>kgood hv G h' t e o T.rep
theorem YA (s:Str) (r:Bool):fA (some (.str s)) (.str s) r=r:=by simp[fA,AV.same,ql]
theorem Wj (a b c d:Nat) (r:Bool):fA (some (.ptr a b c d)) (.ptr a b c d) r=r:=by simp[fA,AV.same]
theorem XR (k:IntKind) (n:Int) (r:Bool):fA (some (.int k n)) (.int k n) r=r:=by simp[fA,AV.same,sH]
theorem u40:∀(k n:Nat) {h:aj} {v:AV} {l:List Val} {deep:Int} {K:aC},VV h v l→deep+(k:Int)=101→k≤101→fU l+k≤n→n<lim→(∀x,K (.int .i64 x) h=true)→aD E (n+1) (.func 50) [v, .int .i64 deep] h K=true:=by
 intro k
 induction k with
 |zero=>
  intro n h v l deep K V hd hk hn hL kk
  apply d50
  unfold s50
  rw[lg,ak,dB (decide_eq_true (by omega))]
  exact kk _
 |succ k ih=>
  intro n h v l deep K V hd hk hn hL kk
  apply d50
  unfold s50
  rw[lg,ak,dG (decide_eq_false (by omega))]
  unfold L9
  obtain⟨n,rfl⟩:∃j,n=j+1:=⟨n-1,by omega⟩
  have hlen:l.length≤fU l:=by rw[lC];exact qR (fun v=>by cases v;simp only[jg];omega) l
  have loop:∀(m i:Nat) (x:Int),i≤l.length→l.length-i<m→yK (aD E (n+1)) (n+1) m v (.int .i64 deep) (.int .i64 x) (.int .i64 (i:Int)) h K=true:=by
   intro m
   induction m with
   |zero=>intro i x _ hm;omega
   |succ m ihm=>
    intro i x hi hm
    rw[Qh]
    unfold FL
    rw[V.len,ak,eF,ak]
    by_cases hlt:i<l.length
    ·have hci:=List.getElem?_eq_getElem hlt
     obtain⟨id,g,j,e,p1,p2,R⟩:=V.at hci
     have hmem:=List.getElem_mem hlt
     obtain⟨kk',b,nn,t,ll,hv⟩:∃kk' b nn t ll,l[i]=Val.mk kk' b nn t ll:=by cases h:l[i];exact⟨_,_,_,_,_,rfl⟩
     rw[hv] at R hmem
     obtain⟨lv,rfl,VL,_⟩:=R.cells
     have hsz:jg (Val.mk kk' b nn t ll)≤fU l:=by rw[lC];exact qO hmem
     simp only[jg] at hsz
     have q3:au h false 1 (.ptr id g j 3)=some (.str t):=by rw[p2];rfl
     have q4:au h false 1 (.ptr id g j 4)=some lv:=by rw[p2];rfl
     have hq:∃y,aR .quo (.int .i64 (t.length:Int)) (.int .i64 64)=some (.int .i64 y):=by rw[iP _ _ _ _ rfl];exact⟨_,rfl⟩
     obtain⟨y,hq⟩:=hq
     rw[dB (by simpa using hlt),xk,ak,p1,ak,cO,ak,Nat.zero_add,q3,ak,ug,ak,hq,ak,xk,ak,ak,cO,ak,Nat.zero_add,q4,ak,pI (by omega) (by omega),ak]
     refine ih n VL (by omega) (by omega) (by omega) (by omega) ?_
     intro z
     rw[p1,Wj,q3,YA,ug,XR,xk,ak,dV (by omega),ak]
     exact ihm (i+1) _ (by omega) (by omega)
    ·rw[dG (by simpa using hlt)]
     exact kk x
  exact loop (n+1) 0 0 (Nat.zero_le _) (by omega)
theorem u24 {n:Nat} {h:aj} {v:AV} {l:List Val} {K:aC} (V:VV h v l) (hn:fU l+101≤n) (hL:n<lim) (k:∀x,K (.int .i64 x) h=true):aD E (n+2) (.func 21) [v] h K=true:=by
 apply d21
 unfold s21
 exact u40 101 n V (by omega) (Nat.le_refl _) hn hL k
def iG (kind:Int) (b:Bool) (n:Int) (t:Str) (len:Nat):Bool:=
 if kind=0 then !b&&decide (n=0)&&decide (t=[])&&decide (len=0)
 else if kind=1 then decide (n=0)&&decide (t=[])&&decide (len=0)
 else if kind=2 then !b&&decide (t=[])&&decide (len=0)
 else if kind=3 then !b&&decide (n=0)&&decide (len=0)&&decide (t.length≤65536)
 else if kind=5 then !b&&decide (t=[])&&decide (len=0)&&decide (1≤n)
 else false
def pE:Nat→Val→Bool
 |0=>fun v=>match v with | .mk kind b n t l=>iG kind b n t l.length
 |k+1=>fun v=>match v with
  | .mk kind b n t l=>if kind=4 then !b&&decide (n=0)&&decide (t=[])&&decide (l.length≤4096)&&l.all (pE k) else iG kind b n t l.length
theorem NK (h:aj) (a b:Bool):ru h false .bool (.bool a) (.bool b)=some (.bool (a==b)):=rfl
theorem QH {h:aj} {c r:Bool} {p q a b:AV} {op:BinOp} {k:AV→Bool} (ha:au h false 1 p=some a) (hb:au h false 1 q=some b) (hr:aR op a b=some (.bool r)):
 (ah (aQ (aB (.bool c) true) (some p)) fun v15=>ah (aQ (aB (.bool c) true) (au h false 1 v15)) fun v16=>ah (aQ (aB (.bool c) true) (some q)) fun v17=>ah (aQ (aB (.bool c) true) (au h false 1 v17)) fun v18=>ah (aQ (aB (.bool c) true) (aR op v16 v18)) fun v19=>ah (cB (.bool c) v19 (.bool false)) fun v20=>k v20)=k (.bool (c&&r)):=by
 cases c with
 |false=>rfl
 |true=>simp only[jh,fB,ak,ha,hb,hr,jB,Bool.true_and]
theorem N9 {h:aj} {c:Bool} {p:AV} {t:Str} {k:AV→Bool} (ha:au h false 1 p=some (.str t)):
 (ah (aQ (aB (.bool c) true) (some p)) fun v27=>ah (aQ (aB (.bool c) true) (au h false 1 v27)) fun v28=>ah (aQ (aB (.bool c) true) (dw h 0 v28)) fun v29=>ah (aQ (aB (.bool c) true) (aR .leq v29 (.int .i64 65536))) fun v30=>ah (cB (.bool c) v30 (.bool false)) fun v31=>k v31)=k (.bool (c&&decide (t.length≤65536))):=by
 have e1:decide ((t.length:Int)≤65536)=decide (t.length≤65536):=by congr 1;apply propext;omega
 cases c with
 |false=>rfl
 |true=>simp only[jh,fB,ak,ha,ug,BH,e1,jB,Bool.true_and]
theorem Ub {h:aj} {c:Bool} {p q lv:AV} {len:Nat} {kind:Int} {k:AV→Bool} (ha:au h false 1 p=some lv) (L:dw h 1 lv=some (.int .i64 (len:Int))) (hb:au h false 1 q=some (.int .i64 kind)):
 (ah (aQ (aB (.bool c) true) (some p)) fun v32=>ah (aQ (aB (.bool c) true) (au h false 1 v32)) fun v33=>ah (aQ (aB (.bool c) true) (dw h 1 v33)) fun v34=>ah (aQ (aB (.bool c) true) (aR .eql v34 (.int .i64 0))) fun v35=>ah (aQ (aB (.bool c) true) (some v35)) fun v36=>ah (aQ (aB v36 false) (some q)) fun v37=>ah (aQ (aB v36 false) (au h false 1 v37)) fun v38=>ah (aQ (aB v36 false) (aR .eql v38 (.int .i64 4))) fun v39=>ah (aQ (aB (.bool c) true) (cB v36 (.bool true) v39)) fun v40=>ah (cB (.bool c) v40 (.bool false)) fun v41=>k v41)=k (.bool (c&&(decide (len=0)||decide (kind=4)))):=by
 have e2:decide ((len:Int)=0)=decide (len=0):=by congr 1;apply propext;omega
 cases c with
 |false=>rfl
 |true=>
  rw[jh,fB,ak,fB,ha,ak,fB,L,ak,fB,dP,e2,ak,fB,ak]
  cases hd:decide (len=0) with
  |true=>rfl
  |false=>simp only[jd,Bool.not_false,fB,ak,hb,dP,iJ,jB,Bool.true_and,Bool.false_or]
theorem t64 {n p q len:Nat} {h:aj} {kind x x':Int} {b b':Bool} {t t':Str} {lv k0 l0:AV} {K:aC} {call:ay} (V:Var h p [.int .i64 kind, .bool b, .int .i64 x, .str t,lv]) (Q:Var h q [k0, .bool b', .int .i64 x', .str t',l0]) (L:dw h 1 lv=some (.int .i64 (len:Int))):
 qU call n (.ptr p 0 0 0) (.ptr q 0 0 0) h K=K (.bool ((b==b')&&decide (x=x')&&decide (t=t')&&decide (t.length≤65536)&&(decide (len=0)||decide (kind=4)))) h:=by
 unfold qU
 have e:∀o,aH o (.ptr p 0 0 0)=some (.ptr p 0 0 o):=fun o=>by rw[cO,Nat.zero_add]
 have e':∀o,aH o (.ptr q 0 0 0)=some (.ptr q 0 0 o):=fun o=>by rw[cO,Nat.zero_add]
 rw[e,ak,V.load,bY,fE,dR,ak,e',ak,Q.load,bY,fE,dR,ak,NK,ak,e,e',
  QH (a:= .int .i64 x) (b:= .int .i64 x') (r:=decide (x=x')) (by rw[V.load];rfl) (by rw[Q.load];rfl) (dP _ _ _),e,e',
  QH (a:= .str t) (b:= .str t') (r:=decide (t=t')) (by rw[V.load];rfl) (by rw[Q.load];rfl) (mW _ _),
  N9 (t:=t) (by rw[V.load];rfl),e,e,Ub (lv:=lv) (len:=len) (kind:=kind) (by rw[V.load];rfl) L (by rw[V.load];rfl)]
theorem xW {k:Nat} {kind:Int} {b:Bool} {n:Int} {t:Str} {l:List Val} (h:kind≠4):pE k (.mk kind b n t l)=iG kind b n t l.length:=by
 cases k with
 |zero=>rfl
 |succ k=>simp only[pE,if_neg h]
theorem wL {k:Nat} {b:Bool} {n:Int} {t:Str} {l:List Val}:pE (k+1) (.mk 4 b n t l)=(!b&&decide (n=0)&&decide (t=[])&&decide (l.length≤4096)&&l.all (pE k)):=by
 simp only[pE,if_pos]
theorem UA {h:aj} {p lv:AV} {len:Nat} {deep:Int} {k:AV→Bool} (ha:au h false 1 p=some lv) (L:dw h 1 lv=some (.int .i64 (len:Int))):
 (ah (aR .geq (.int .i64 deep) (.int .i64 30)) fun v64=>ah (aQ (aB v64 false) (some p)) fun v65=>ah (aQ (aB v64 false) (au h false 1 v65)) fun v66=>ah (aQ (aB v64 false) (dw h 1 v66)) fun v67=>ah (aQ (aB v64 false) (aR .gtr v67 (.int .i64 4096))) fun v68=>ah (cB v64 (.bool true) v68) fun v69=>k v69)=k (.bool (decide (30≤deep)||decide (4096<len))):=by
 have e:decide ((4096:Int)<(len:Int))=decide (4096<len):=by congr 1;apply propext;omega
 rw[nP,ak]
 cases hd:decide (30≤deep) with
 |true=>rfl
 |false=>simp only[jd,Bool.not_false,fB,ak,ha,L,lg,e,iJ,Bool.false_or]
theorem Rv {a b c d e:AV} (ha:a.leaf=true) (hb:b.leaf=true) (hc:c.leaf=true) (hd:d.leaf=true) (he:e.leaf=true):(AV.agg [a,b,c,d,e]).cells=[a,b,c,d,e]∧aV [a,b,c,d,e]=true:=by
 refine⟨rfl, ?_⟩
 show(bif a.leaf then(bif b.leaf then(bif c.leaf then(bif d.leaf then(bif e.leaf then true else false) else false) else false) else false) else false)=true
 rw[ha,hb,hc,hd,he];rfl
theorem Uo {b:Bool} {x:Int} {t:Str} {len:Nat}:(((b==false)&&decide (x=0)&&decide (t=[])&&decide (t.length≤65536)&&(decide (len=0)||decide ((0:Int)=4))))=iG 0 b x t len:=by
 by_cases ht:t=[]
 ·subst ht;cases b<;>simp[iG]
 ·cases b<;>simp[iG,ht]
theorem UO {b:Bool} {x:Int} {t:Str} {len:Nat}:(((b==b)&&decide (x=0)&&decide (t=[])&&decide (t.length≤65536)&&(decide (len=0)||decide ((1:Int)=4))))=iG 1 b x t len:=by
 by_cases ht:t=[]
 ·subst ht;cases b<;>simp[iG]
 ·cases b<;>simp[iG,ht]
theorem Uz {b:Bool} {x:Int} {t:Str} {len:Nat}:(((b==false)&&decide (x=x)&&decide (t=[])&&decide (t.length≤65536)&&(decide (len=0)||decide ((2:Int)=4))))=iG 2 b x t len:=by
 by_cases ht:t=[]
 ·subst ht;cases b<;>simp[iG]
 ·cases b<;>simp[iG,ht]
theorem Uh {b:Bool} {x:Int} {t:Str} {len:Nat}:(((b==false)&&decide (x=0)&&decide (t=t)&&decide (t.length≤65536)&&(decide (len=0)||decide ((3:Int)=4))))=iG 3 b x t len:=by
 cases b<;>simp[iG,Bool.and_comm,Bool.and_assoc,Bool.and_left_comm]
theorem Ue {b:Bool} {x:Int} {t:Str} {len:Nat}:(((b==false)&&decide (x=if x<1 then 1 else x)&&decide (t=[])&&decide (t.length≤65536)&&(decide (len=0)||decide ((5:Int)=4))))=iG 5 b x t len:=by
 have e:decide (x=if x<1 then 1 else x)=decide (1≤x):=by
  congr 1;apply propext
  by_cases h:x<1
  ·rw[if_pos h];omega
  ·rw[if_neg h];omega
 rw[e]
 by_cases ht:t=[]
 ·subst ht;cases b<;>simp[iG,Bool.and_comm]
 ·cases b<;>simp[iG,ht]
theorem zH {kind:Int} {b:Bool} {x:Int} {t:Str} {len:Nat} (h0:kind≠0) (h1:kind≠1) (h2:kind≠2) (h3:kind≠3) (h5:kind≠5):iG kind b x t len=false:=by
 simp only[iG,if_neg h0,if_neg h1,if_neg h2,if_neg h3,if_neg h5]
theorem aar (x:Int):mmV true [.int .i64 x, .int .i64 1]=some (.int .i64 (if x<1 then 1 else x)):=by
 simp only[mmV,XP,Nat.beq_refl,cond_true,oQ]
 by_cases h:x<1
 ·simp[h]
 ·simp[h]
theorem zW {o:Option aj} {h:aj} {k:aC} (e:o=some h) (hk:k (.tup []) h=true):bP (unit o) k=true:=by subst e;exact hk
theorem Vs {n:Nat} {h:aj} {kind x deep:Int} {b:Bool} {t:Str} {lv:AV} {len:Nat} {K:aC} (ho:h.Ok) (hlf:lv.leaf=true) (L:∀h',Ext h h'→dw h' 1 lv=some (.int .i64 (len:Int)))
 (kl:kind≠4→∀h',Ext h h'→h'.Ok→K (.bool (iG kind b x t len)) h'=true)
 (k4:kind=4→∀h' p q,Ext h h'→h'.Ok→Var h' p [.int .i64 kind, .bool b, .int .i64 x, .str t,lv]→Var h' q [.int .i64 kind, .bool false, .int .i64 0, .str [], .nilSlc]→(aZ (.bool (decide (30≤deep)||decide (4096<len))) (K (.bool false) h') (FC (aD E n) n (.int .i64 deep) (.ptr p 0 0 0) (.ptr q 0 0 0) h' K))=true):
 aD E (n+1) (.func 91) [.agg [.int .i64 kind, .bool b, .int .i64 x, .str t,lv], .int .i64 deep] h K=true:=by
 obtain⟨lf1,lf2⟩:=Rv (a:= .int .i64 kind) (b:= .bool b) (c:= .int .i64 x) (d:= .str t) (e:=lv) rfl rfl rfl rfl hlf
 apply d91
 unfold s91
 rw[lM (n:=5) (v:= .agg [.int .i64 kind, .bool b, .int .i64 x, .str t,lv]) (by rw[lf1];rfl) (by decide) (by rw[lf1];exact lf2),dD,lf1]
 have e1:=bU ho [[AV.int .i64 kind, .bool b, .int .i64 x, .str t,lv]] 5
 have o1:=cZ ho [[AV.int .i64 kind, .bool b, .int .i64 x, .str t,lv]] 5
 have V1:=eY h [AV.int .i64 kind, .bool b, .int .i64 x, .str t,lv]
 simp only[List.length_cons,List.length_nil,Nat.zero_add] at V1
 have s1:(Ab.newRow h [[AV.int .i64 kind, .bool b, .int .i64 x, .str t,lv]] 5).sz=h.sz+1:=rfl
 generalize Ab.newRow h [[AV.int .i64 kind, .bool b, .int .i64 x, .str t,lv]] 5=h1 at *
 have hb:eP [AV.int .i64 0, .bool false, .int .i64 0, .str [], .nilSlc] [(0,1,AV.int .i64 kind)]=some (.agg [.int .i64 kind, .bool false, .int .i64 0, .str [], .nilSlc]):=rfl
 rw[cO,ak,Nat.zero_add,V1.load,bY,dR,ak,hb,ak,jH (n:=5) rfl (by decide) rfl rfl rfl]
 have hcc:(AV.agg [AV.int .i64 kind, .bool false, .int .i64 0, .str [], .nilSlc]).cells=[AV.int .i64 kind, .bool false, .int .i64 0, .str [], .nilSlc]:=rfl
 rw[hcc]
 have e2:=bU o1 [[AV.int .i64 kind, .bool false, .int .i64 0, .str [], .nilSlc]] 5
 have o2:=cZ o1 [[AV.int .i64 kind, .bool false, .int .i64 0, .str [], .nilSlc]] 5
 have Q2:=eY h1 [AV.int .i64 kind, .bool false, .int .i64 0, .str [], .nilSlc]
 simp only[List.length_cons,List.length_nil,Nat.zero_add] at Q2
 have V2:=V1.ext e2
 generalize Ab.newRow h1 [[AV.int .i64 kind, .bool false, .int .i64 0, .str [], .nilSlc]] 5=h2 at *
 have hpq:h.sz≠h1.sz:=by omega
 have hq:h.sz≤h1.sz:=by omega
 have put2:∀o,Ext h (h2.put h1.sz o):=fun o=>gY (e1.trans e2) ho (by omega) o
 have hql:h1.sz<h2.sz:=Q2.lt o2
 generalize h.sz=p at *
 generalize h1.sz=q at *
 have E2:=e1.trans e2
 have ef:∀o,aH o (.ptr p 0 0 0)=some (.ptr p 0 0 o):=fun o=>by rw[cO,Nat.zero_add]
 have eg:∀o,aH o (.ptr q 0 0 0)=some (.ptr q 0 0 o):=fun o=>by rw[cO,Nat.zero_add]
 have stay:=L h2 E2
 have set:∀(o:Nat) (w:AV),o<5→w.leaf=true→∃h3,bT h2 1 (.ptr q 0 0 o) w=some h3∧Ext h h3∧h3.Ok∧Var h3 p [.int .i64 kind, .bool b, .int .i64 x, .str t,lv]∧Var h3 q ([AV.int .i64 kind, .bool false, .int .i64 0, .str [], .nilSlc].set o w):=by
  intro o w h5 hw
  exact⟨_,Q2.set1 (by simpa using h5) hw,put2 _,o2.put hql _,V2.other hpq _,oq q _⟩
 have cp:∀(o:Nat) (w:AV) (k:AV→AV→Bool),au h2 false 1 (.ptr p 0 0 o)=some w→(ah (aH o (.ptr p 0 0 0)) fun v43=>ah (au h2 false 1 v43) fun v44=>ah (aH o (.ptr q 0 0 0)) fun v45=>k v44 v45)=k w (.ptr q 0 0 o):=by
  intro o w k hw
  rw[ef,eg,ak,hw,ak,ak]
 have k11:=fun k=>cp 1 (.bool b) k (by rw[V2.load];rfl)
 have k22:=fun k=>cp 2 (.int .i64 x) k (by rw[V2.load];rfl)
 have k33:=fun k=>cp 3 (.str t) k (by rw[V2.load];rfl)
 have k25:∀(k:AV→AV→Bool),(ah (aH 2 (.ptr p 0 0 0)) fun v43=>ah (au h2 false 1 v43) fun v44=>ah (mmV true [v44, .int .i64 1]) fun v55=>ah (aH 2 (.ptr q 0 0 0)) fun v45=>k v55 v45)=k (.int .i64 (if x<1 then 1 else x)) (.ptr q 0 0 2):=by
  intro k
  rw[ef,eg,ak,V2.load,bY,fE,fE,dR,ak,aar,ak,ak]
 rw[ak,V2.load,bY,dR,ak,dP,ak]
 by_cases c0:kind=0
 ·subst c0
  rw[dB (by decide),t64 V2 Q2 stay,Uo]
  exact kl (by decide) h2 E2 o2
 rw[dG (by simp[c0]),dP,ak]
 by_cases c1:kind=1
 ·subst c1
  obtain⟨h3,w1,w2,w3,w4,w5⟩:=set 1 (.bool b) (by decide) rfl
  rw[dB (by decide),k11]
  refine zW w1 ?_
  rw[t64 w4 w5 (L h3 w2),UO]
  exact kl (by decide) h3 w2 w3
 rw[dG (by simp[c1]),dP,ak]
 by_cases c2:kind=2
 ·subst c2
  obtain⟨h3,w1,w2,w3,w4,w5⟩:=set 2 (.int .i64 x) (by decide) rfl
  rw[dB (by decide),k22]
  refine zW w1 ?_
  rw[t64 w4 w5 (L h3 w2),Uz]
  exact kl (by decide) h3 w2 w3
 rw[dG (by simp[c2]),dP,ak]
 by_cases u5:kind=5
 ·subst u5
  obtain⟨h3,w1,w2,w3,w4,w5⟩:=set 2 (.int .i64 (if x<1 then 1 else x)) (by decide) rfl
  rw[dB (by decide),k25]
  refine zW w1 ?_
  rw[t64 w4 w5 (L h3 w2),Ue]
  exact kl (by decide) h3 w2 w3
 rw[dG (by simp[u5]),dP,ak]
 by_cases u3:kind=3
 ·subst u3
  obtain⟨h3,w1,w2,w3,w4,w5⟩:=set 3 (.str t) (by decide) rfl
  rw[dB (by decide),k33]
  refine zW w1 ?_
  rw[t64 w4 w5 (L h3 w2),Uh]
  exact kl (by decide) h3 w2 w3
 rw[dG (by simp[u3]),dP,ak]
 by_cases u4:kind=4
 ·rw[dB (by simp[u4]),ef 4,UA (lv:=lv) (len:=len) (by rw[V2.load];rfl) stay]
  exact k4 u4 h2 p q E2 o2 V2 Q2
 ·rw[dG (by simp[u4])]
  have:=kl u4 h2 E2 o2
  rw[zH c0 c1 c2 u3 u5] at this
  exact this
theorem jF {l:List Val} {v:Val} (h:v∈l):jg v≤fU l:=by rw[lC];exact qO h
theorem iE (l:List Val):l.length≤fU l:=by rw[lC];exact qR (fun v=>by cases v;simp only[jg];omega) l
theorem _root_.Go.Ab.RV.agg {h:aj} {a:List AV} {v:Val} (R:RV h a v):iH true 0 5 a=some (.agg a)∧(AV.agg a).cells.length=5∧aV (AV.agg a).cells=true∧(AV.agg a).cells=a:=by
 cases v with
 |mk kind b x t l=>
  obtain⟨lv,rfl,V,_⟩:=R.cells
  obtain⟨lf1,lf2⟩:=Rv (a:= .int .i64 kind) (b:= .bool b) (c:= .int .i64 x) (d:= .str t) (e:=lv) rfl rfl rfl rfl V.leaf
  exact⟨rfl,rfl,by rw[lf1];exact lf2,lf1⟩
theorem u52:∀(k n:Nat) {h:aj} {a:List AV} {v:Val} {deep:Int} {K:aC},RV h a v→h.Ok→deep+(k:Int)=30→k≤30→jg v+k≤n→n<lim→(∀h',Ext h h'→h'.Ok→K (.bool (pE k v)) h'=true)→aD E (n+1) (.func 91) [.agg a, .int .i64 deep] h K=true:=by
 intro k
 induction k with
 |zero=>
  intro n h a v deep K R ho hd _ hsz hL kk
  cases v with
  |mk kind b x t l=>
   obtain⟨lv,rfl,V,_⟩:=R.cells
   refine Vs (len:=l.length) ho V.leaf (fun h' e=>(V.ext e).len) (fun h4 h' e o=> ?_) (fun h4 h' p q e o _ _=> ?_)
   ·have:=kk h' e o
    rw[xW h4] at this;exact this
   ·subst h4
    rw[dB (by rw[decide_eq_true (show(30:Int)≤deep by omega)];rfl)]
    exact kk h' e o
 |succ k ih=>
  intro n h a v deep K R ho hd hk hsz hL kk
  cases v with
  |mk kind b x t l=>
   obtain⟨lv,rfl,V,_⟩:=R.cells
   simp only[jg] at hsz
   have hlen:=iE l
   refine Vs (len:=l.length) ho V.leaf (fun h' e=>(V.ext e).len) (fun h4 h' e o=> ?_) (fun h4 h1 p q e o P Q=> ?_)
   ·have:=kk h' e o
    rw[xW h4] at this;exact this
   ·subst h4
    have hd':decide ((30:Int)≤deep)=false:=decide_eq_false (by omega)
    rw[hd',Bool.false_or]
    by_cases hl:l.length≤4096
    ·rw[dG (decide_eq_false (by omega))]
     unfold FC
     rw[cO,ak,Nat.zero_add,P.load,bY,fE,fE,fE,fE,dR,ak,(V.ext e).len,ak]
     obtain⟨n,rfl⟩:∃j,n=j+1:=⟨n-1,by omega⟩
     have loop:∀(m i:Nat) (h2:aj),Ext h1 h2→h2.Ok→i≤l.length→l.length-i<m→(l.take i).all (pE k)=true→yE (aD E (n+1)) (n+1) m (.int .i64 deep) (.ptr p 0 0 0) (.ptr q 0 0 0) lv (.int .i64 (l.length:Int)) (.int .i64 (i:Int)) h2 K=true:=by
      intro m
      induction m with
      |zero=>intro i h2 _ _ _ hm;omega
      |succ m ihm=>
       intro i h2 e2 o2 hi hm hall
       rw[RZ]
       unfold GL
       rw[eF,ak]
       by_cases hlt:i<l.length
       ·have hci:=List.getElem?_eq_getElem hlt
        have ht:l.take (i+1)=l.take i++[l[i]]:=by rw[List.take_succ_eq_append_getElem hlt]
        have hmem:=jF (List.getElem_mem hlt)
        obtain⟨id,g,j,ee,p1,p2,R2⟩:=(V.ext (e.trans e2)).at hci
        obtain⟨g1,g2,g3,g4⟩:=R2.agg
        have hfalse:pE k l[i]=false→pE (k+1) (.mk 4 b x t l)=false:=by
         intro hf
         rw[wL]
         have:l.all (pE k)=false:=by
          rw[List.all_eq_false]
          exact⟨l[i],List.getElem_mem hlt,by rw[hf];decide⟩
         rw[this,Bool.and_false]
        generalize l[i]=w at *
        have hll:∀a:Nat→Prop,True:=fun _=>trivial
        rw[dB (by simpa using hlt),p1,ak,p2,g1,ak,jH (n:=5) rfl (by decide) rfl g2 g3]
        have e3:=bU o2 [ee] 5
        have o3:=cZ o2 [ee] 5
        have V3:=eY h2 ee
        have hel:ee.length=5:=by rw[←g4];exact g2
        rw[hel] at V3
        rw[g4]
        generalize Ab.newRow h2 [ee] 5=h3 at *
        rw[V3.load,g1,ak,pI (by omega) (by omega),ak]
        refine ih n (R2.ext e3) o3 (by omega) (by omega) (by omega) (by omega) ?_
        intro h4 e4 o4
        rw[gH,ak]
        cases hc:pE k w with
        |false=>
         rw[Bool.not_false,fV]
         have:=kk h4 (e.trans (e2.trans (e3.trans e4))) o4
         rw[hfalse hc] at this
         exact this
        |true=>
         rw[Bool.not_true,fM,dV (by omega),ak]
         refine ihm (i+1) h4 (e2.trans (e3.trans e4)) o4 (by omega) (by omega) ?_
         rw[ht,List.all_append,hall]
         simp[hc]
       ·have hil:l.take i=l:=List.take_of_length_le (by omega)
        rw[hil] at hall
        rw[dG (by simpa using hlt),t64 (P.ext e2) (Q.ext e2) (V.ext (e.trans e2)).len]
        have:=kk h2 (e.trans e2) o2
        rw[wL,hall,decide_eq_true hl] at this
        have e5:(((b==false)&&decide (x=0)&&decide (t=[])&&decide (t.length≤65536)&&(decide (l.length=0)||decide ((4:Int)=4))))=(!b&&decide (x=0)&&decide (t=[])&&true&&true):=by
         by_cases ht:t=[]
         ·subst ht;cases b<;>simp
         ·cases b<;>simp[ht]
        rw[e5];exact this
     exact loop (n+1) 0 h1 (Ext.refl _) o (Nat.zero_le _) (by omega) rfl
    ·rw[dB (decide_eq_true (by omega))]
     have:=kk h1 e o
     rw[wL,decide_eq_false hl,Bool.and_false,Bool.false_and] at this
     exact this
theorem u41 {n:Nat} {h:aj} {a:List AV} {v:Val} {K:aC} (R:RV h a v) (ho:h.Ok) (hn:jg v+30≤n) (hL:n<lim) (k:∀h',Ext h h'→h'.Ok→K (.bool (pE 30 v)) h'=true):aD E (n+2) (.func 77) [.agg a] h K=true:=by
 obtain⟨g1,g2,g3,g4⟩:=R.agg
 have hel:a.length=5:=by rw[←g4];exact g2
 apply d77
 unfold s77
 rw[lM (n:=5) g2 (by decide) g3,dD,g4]
 have e1:=bU ho [a] 5
 have o1:=cZ ho [a] 5
 have V1:=eY h a
 rw[hel] at V1
 generalize Ab.newRow h [a] 5=h1 at *
 rw[V1.load,g1,ak]
 exact u52 30 n (R.ext e1) o1 (by omega) (Nat.le_refl _) hn hL (fun h' e o=>k h' (e1.trans e) o)
def zM (l:List Cls) (s of:Str):Bool:=(chain l s).any fun c=>decide (c.name=of)
def tO (l:List Cls) (f:lK) (v:Val) (Ht:Int→Option Str):Bool:=
 pE 30 v&&(match v with
  | .mk kind _ x _ _=>
    if kind=0 then true else if f.ty=0 then true else if f.ty=1 then decide (kind=1) else if f.ty=2 then decide (kind=2) else if f.ty=3 then decide (kind=3) else if f.ty=4 then decide (kind=4)
    else if f.ty=5 then(decide (kind=5)&&match Ht x with
     |none=>false
     |some s=>zM l s f.cls)
    else false)
theorem UE {h:aj} {kind:Int} {of:AV} {k:AV→Bool} (c:Bool) (hof:ru h false .fn of .nilFn=some (.bool c)):(ah (aR .neq (.int .i64 kind) (.int .i64 5)) fun v31=>ah (aQ (aB v31 false) (some of)) fun v32=>ah (aQ (aB v31 false) (ru h false .fn v32 .nilFn)) fun v33=>ah (cB v31 (.bool true) v33) fun v34=>k v34)=k (.bool (!decide (kind=5)||c)):=by
 rw[Bl,ak]
 cases decide (kind=5) with
 |false=>rfl
 |true=>simp only[Bool.not_true,jd,Bool.not_false,fB,ak,hof,iJ,Bool.false_or]
theorem YB {call:ay} {h:aj} {x0:AV} {s u:Str} {p:Nat} {ok:Bool} {k:AV→aj→Bool} (hp:au h false 1 (.ptr p 0 0 2)=some (.str u)) (h0:ok=false→k (.bool false) h=true) (h1:ok=true→call (.func 83) [x0, .str s, .str u] h (fun v h=>k v h)=true):
 (ah (aQ (aB (.bool ok) true) (some x0)) fun v40=>ah (aQ (aB (.bool ok) true) (some (.str s))) fun v41=>ah (aQ (aB (.bool ok) true) (aH 2 (.ptr p 0 0 0))) fun v42=>ah (aQ (aB (.bool ok) true) (au h false 1 v42)) fun v43=>ji (aB (.bool ok) true) (fun k=>call (.func 83) [v40,v41,v43] h k) h fun v44 h=>ah (cB (.bool ok) v44 (.bool false)) fun v45=>k v45 h)=true:=by
 cases ok with
 |false=>exact h0 rfl
 |true=>
  have:=h1 rfl
  simp only[jh,fB,ak,cO,Nat.zero_add,hp,qw,jB]
  exact this
theorem u27 {n:Nat} {h:aj} {t:AV} {l:List Cls} {f:lK} {a:List AV} {v:Val} {Ht:Int→Option Str} {fo:Qa} {fa fb:List AV} {K:aC} (T:fJ h t l) (A:Asc l) (ho:h.Ok) (R:RV h a v) (O:∀(x:Int) h1,Ext h h1→h1.Ok→∀K':aC,(∀h2,Ext h1 h2→h2.Ok→K' (.tup [.str ((Ht x).getD []), .bool (Ht x).isSome]) h2=true)→aD E (n+3) fo (fa++[.int .i64 x]++fb) h1 K'=true) (hl:l.length≤64) (hn:5000<n) (hL:n+10<lim) (hv:jg v+100≤n)
 (k:∀h',Ext h h'→h'.Ok→K (.bool (tO l f v Ht)) h'=true):aD E (n+4) (.func 59) [t, .agg (dZ f), .agg a, .fn fo fa fb] h K=true:=by
 obtain⟨g1,g2,g3,g4⟩:=R.agg
 have hel:a.length=5:=by rw[←g4];exact g2
 apply d59
 unfold ZN
 rw[lM (n:=3) (v:= .agg (dZ f)) rfl (by decide) rfl,dD]
 have hcc:(AV.agg (dZ f)).cells=dZ f:=rfl
 rw[hcc]
 have e1:=bU ho [dZ f] 3
 have o1:=cZ ho [dZ f] 3
 have V1:Var (Ab.newRow h [dZ f] 3) h.sz (dZ f):=eY h (dZ f)
 generalize Ab.newRow h [dZ f] 3=h1 at *
 generalize h.sz=p at *
 rw[lM (n:=5) g2 (by decide) g3,dD,g4]
 have e2:=bU o1 [a] 5
 have o2:=cZ o1 [a] 5
 have Q2:=eY h1 a
 rw[hel] at Q2
 have V2:=V1.ext e2
 generalize Ab.newRow h1 [a] 5=h2 at *
 generalize h1.sz=q at *
 have E2:=e1.trans e2
 rw[Q2.load,g1,ak]
 refine u41 (n:=n+1) (RV.ext E2 R) o2 (by omega) (by omega) ?_
 intro h3 e3 o3
 have E3:=E2.trans e3
 have V3:=V2.ext e3
 have Q3:=Q2.ext e3
 have hk:=k h3 E3 o3
 cases v with
 |mk kind b x s vl=>
  obtain⟨lv,rfl,VL,_⟩:=R.cells
  have q0:au h3 false 1 (.ptr q 0 0 0)=some (.int .i64 kind):=by rw[Q3.load];rfl
  have q2:au h3 false 1 (.ptr q 0 0 2)=some (.int .i64 x):=by rw[Q3.load];rfl
  have v1:au h3 false 1 (.ptr p 0 0 1)=some (.int .i64 f.ty):=by rw[V3.load];rfl
  have v2:∀h',Ext h3 h'→au h' false 1 (.ptr p 0 0 2)=some (.str f.cls):=fun h' e=>by rw[(V3.ext e).load];rfl
  rw[gH,ak]
  unfold tO at hk
  cases hck:pE 30 (.mk kind b x s vl) with
  |false=>
   rw[hck,Bool.false_and] at hk
   rw[Bool.not_false,fV];exact hk
  |true=>
   rw[hck,Bool.true_and] at hk
   simp only at hk
   rw[Bool.not_true,fM,cO,ak,Nat.zero_add,q0,ak,dP,ak]
   by_cases k0:kind=0
   ·rw[if_pos k0] at hk
    rw[dB (by simp[k0])];exact hk
   rw[if_neg k0] at hk
   rw[dG (by simp[k0]),cO,ak,Nat.zero_add,v1,ak,dP,ak]
   by_cases t0:f.ty=0
   ·rw[if_pos t0] at hk
    rw[dB (by simp[t0])];exact hk
   rw[if_neg t0] at hk
   rw[dG (by simp[t0]),dP,ak]
   by_cases t1:f.ty=1
   ·rw[if_pos t1] at hk
    rw[dB (by simp[t1]),ak,q0,ak,dP,ak];exact hk
   rw[if_neg t1] at hk
   rw[dG (by simp[t1]),dP,ak]
   by_cases t2:f.ty=2
   ·rw[if_pos t2] at hk
    rw[dB (by simp[t2]),ak,q0,ak,dP,ak];exact hk
   rw[if_neg t2] at hk
   rw[dG (by simp[t2]),dP,ak]
   by_cases t3:f.ty=3
   ·rw[if_pos t3] at hk
    rw[dB (by simp[t3]),ak,q0,ak,dP,ak];exact hk
   rw[if_neg t3] at hk
   rw[dG (by simp[t3]),dP,ak]
   by_cases t4:f.ty=4
   ·rw[if_pos t4] at hk
    rw[dB (by simp[t4]),ak,q0,ak,dP,ak];exact hk
   rw[if_neg t4] at hk
   rw[dG (by simp[t4]),dP,ak]
   by_cases t5:f.ty=5
   ·rw[dB (by simp[t5]),ak,q0,ak]
    have kk:∀h',Ext h3 h'→h'.Ok→K (.bool (decide (kind=5)&&match Ht x with
     |none=>false
     |some s=>zM l s f.cls)) h'=true:=by
     intro h' e' o'
     have:=k h' (E3.trans e') o'
     unfold tO at this
     rw[hck,Bool.true_and] at this
     simp only at this
     rw[if_neg k0,if_neg t0,if_neg t1,if_neg t2,if_neg t3,if_neg t4,if_pos t5] at this
     exact this
    rw[UE false rfl,Bool.or_false]
    by_cases k5:kind=5
    ·rw[decide_eq_true k5,Bool.not_true,fM,cO,ak,Nat.zero_add,q2,ak,BK]
     refine O x h3 E3 o3 _ fun h4 e4 o4=> ?_
     rw[tu,dR,ak,tu,fE,dR,ak]
     have kk:=fun h' e o=>kk h' e o
     rw[decide_eq_true k5] at kk
     simp only[Bool.true_and] at kk
     refine YB (v2 h4 e4) ?_ ?_
     ·intro hno
      have:=kk h4 e4 o4
      cases hx:Ht x with
      |none=>rw[hx] at this;exact this
      |some w=>rw[hx] at hno;cases hno
     ·intro hyes
      cases hx:Ht x with
      |none=>rw[hx] at hyes;cases hyes
      |some w=>
       rw[hx] at kk
       refine u14 (n:=n+1) (T.ext (E3.trans e4)) A o4 (by omega) ?_
       intro h5 e5 o5
       exact kk h5 (e4.trans e5) o5
    ·rw[decide_eq_false k5,Bool.not_false,fV]
     have:=kk h3 (Ext.refl _) o3
     rw[decide_eq_false k5,Bool.false_and] at this
     exact this
   ·rw[if_neg t5] at hk
    rw[dG (by simp[t5])];exact hk
end Go.Proofs.YthmnnlpbnhkhkaaGreat
namespace Go.Ab
abbrev Str:=List Nat
structure But (x:Nat) (h h':aj):Prop where
 sz:h.sz≤h'.sz
 keep:∀j o,j≠x→h.get j=some o→h'.get j=some o
theorem But.refl (x:Nat) (h:aj):But x h h:=⟨Nat.le_refl _,fun _ _ _ e=>e⟩
theorem But.put (x:Nat) (h:aj) (o:iq):But x h (h.put x o):=⟨by simp,fun j o' e hj=>by rw[aj.get_put,if_neg e];exact hj⟩
theorem But.ext {x:Nat} {h0 h h':aj} (p:But x h h') (e:Ext h0 h) (k0:h0.Ok) (hx:h0.sz≤x):Ext h0 h':=
 ⟨Nat.le_trans e.1 p.sz,fun j o hj=>p.keep j o (by have:=k0.lt hj;omega) (e.2 j o hj)⟩
theorem But.var {x j:Nat} {h h':aj} {c:List AV} (p:But x h h') (V:Var h j c) (e:j≠x):Var h' j c:=by
 have V':h.row j=some (lI c):=V
 show h'.row j=_
 rw[aj.row_some] at V' ⊢
 exact p.keep j _ e V'
theorem eX (h:aj) (o:iq):(h.push o).get h.sz=some o:=by rw[aj.get_push,if_pos rfl]
theorem oJ (k:IntKind) (a:Int):AV.same (.int k a) (.int k a)=true:=by
 simp only[AV.same,Nat.beq_refl,Bool.true_and];rw[sH];simp
theorem sZ (s:Str):AV.same (.str s) (.str s)=true:=by
 simp only[AV.same];rw[ql];simp
theorem Qy (a b c d e:Nat) (f:Bool):AV.same (.slc a b c d e f) (.slc a b c d e f)=true:=by
 simp only[AV.same,Nat.beq_refl,Bool.and_self,Bool.true_and];cases f<;>rfl
theorem Uf (off a b c:Nat) (k:AV→Bool):ah (aH off (.ptr a b c 0)) k=k (.ptr a b c off):=by rw[cO,Nat.zero_add];rfl
theorem Z6 (K:IntKind) (a b:Int) (k:AV→Bool):ah (aR .lss (.int K a) (.int K b)) k=k (.bool (decide (a<b))):=by rw[eF];rfl
theorem aaM (K:IntKind) (a b:Int) (k:AV→Bool):ah (aR .gtr (.int K a) (.int K b)) k=k (.bool (decide (b<a))):=by rw[lg];rfl
theorem aaK (K:IntKind) (a b:Int) (k:AV→Bool):ah (aR .leq (.int K a) (.int K b)) k=k (.bool (decide (a≤b))):=by rw[BH];rfl
theorem Zj (K:IntKind) (a b:Int) (k:AV→Bool):ah (aR .geq (.int K a) (.int K b)) k=k (.bool (decide (b≤a))):=by rw[nP];rfl
theorem Za (K:IntKind) (a b:Int) (k:AV→Bool):ah (aR .eql (.int K a) (.int K b)) k=k (.bool (decide (a=b))):=by rw[dP];rfl
theorem Y8 (K:IntKind) (a b:Int) (k:AV→Bool):ah (aR .neq (.int K a) (.int K b)) k=k (.bool (!decide (a=b))):=by rw[Bl];rfl
theorem aaL {a b:Nat} (h:a+b<lim):aR .add (.int .i64 (a:Int)) (.int .i64 (b:Int))=some (.int .i64 ((a+b:Nat):Int)):=by
 have h':a+b<4611686018427387904:=h
 rw[pI (by omega) (by omega)];rfl
def lN (s:Str):List (List AV):=s.map fun(b:Nat)=>[AV.int .u8 (b:Int)]
theorem zi:∀(s:Str),(∀b∈s,b<256)→bytesOf (lN s)=some s
 | [],_=>rfl
 |b :: s,h=>by
  show bytesOf ([AV.int .u8 (.ofNat b)] :: lN s)=_
  simp only[bytesOf,zi s (fun c hc=>h c (List.mem_cons_of_mem _ hc)),dL.2 (h b List.mem_cons_self),cond_true]
theorem View.atE {h:aj} {n:Nat} {v:AV} {es:List (List AV)} (V:View h n v es) {i:Nat} {e:List AV} (hi:es[i]? =some e):
 ∃id g j,∀h',Ext h h'→(∀k,bS h' n v (.int k (i:Int))=some (.ptr id g j 0))∧∀ag off m,au h' ag m (.ptr id g j off)=iH ag off m e:=by
 rcases V with⟨rfl,_⟩|⟨id,g,s,cap,ex,r,rfl,h2,h3,h4,h5,h6⟩
 ·simp at hi
 ·have hlt:i<es.length:=(List.getElem?_eq_some_iff.1 hi).1
  refine⟨id,g,s+i,fun h' e'=> ?_⟩
  have h2':=e'.row h2
  refine⟨fun k=> ?_,fun ag off m=> ?_⟩
  ·have:jo h' id n=true:=by simp only[jo,h2',bJ];exact h4
   simp only[bS,iK,dL.2 hlt,this,Bool.and_self,cond_true]
  ·have hn:nth r.es (s+i)=some e:=by
    rw[lJ]
    rw[←h5,List.getElem?_take] at hi
    simp only[hlt,if_true,List.getElem?_drop] at hi
    exact hi
   simp only[au,h2',bI.2 h3,cond_true,hn]
structure Fr (X:Nat→Prop) (h h':aj):Prop where
 sz:h.sz≤h'.sz
 keep:∀j o,¬X j→h.get j=some o→h'.get j=some o
section
variable {X Y:Nat→Prop} {h h' h'' h0:aj}
theorem Fr.refl (X:Nat→Prop) (h:aj):Fr X h h:=⟨Nat.le_refl _,fun _ _ _ e=>e⟩
theorem Fr.trans (p:Fr X h h') (q:Fr X h' h''):Fr X h h'':=⟨Nat.le_trans p.sz q.sz,fun j o e g=>q.keep j o e (p.keep j o e g)⟩
theorem Fr.mono (p:Fr X h h') (i:∀j,X j→Y j):Fr Y h h':=⟨p.sz,fun j o e g=>p.keep j o (fun x=>e (i j x)) g⟩
theorem Fr.of_ext (e:Ext h h'):Fr X h h':=⟨e.1,fun j o _ g=>e.2 j o g⟩
theorem Fr.put {id:Nat} (hx:X id) (h:aj) (o:iq):Fr X h (h.put id o):=⟨by simp,fun j o' e g=>by rw[aj.get_put,if_neg (fun e'=>e (by rw[e'];exact hx))];exact g⟩
theorem Fr.of_but {id:Nat} (hx:X id) (b:But id h h'):Fr X h h':=⟨b.sz,fun j o e g=>b.keep j o (fun e'=>e (by rw[e'];exact hx)) g⟩
theorem Fr.ext (p:Fr X h h') (e:Ext h0 h) (k0:h0.Ok) (hx:∀j,X j→h0.sz≤j):Ext h0 h':=
 ⟨Nat.le_trans e.1 p.sz,fun j o hj=>p.keep j o (fun x=>by have:=k0.lt hj;have:=hx j x;omega) (e.2 j o hj)⟩
theorem Fr.new (p:Fr X h h') (q:Fr (fun j=>X j∨h.sz≤j) h' h'') (k:h.Ok):Fr X h h'':=
 ⟨Nat.le_trans p.sz q.sz,fun j o e g=>q.keep j o (fun x=>by rcases x with x |x;exact e x;have:=k.lt g;omega) (p.keep j o e g)⟩
theorem Fr.row {j:Nat} {r:Row} (p:Fr X h h') (e:¬X j) (g:h.row j=some r):h'.row j=some r:=by
 rw[aj.row_some] at *;exact p.keep j _ e g
theorem Fr.var {j:Nat} {c:List AV} (p:Fr X h h') (V:Var h j c) (e:¬X j):Var h' j c:=p.row e V
theorem Fr.view {n:Nat} {v:AV} {es:List (List AV)} (p:Fr X h h') (V:View h n v es) (e:∀id g s l c ex,v= .slc id g s l c ex→¬X id):View h' n v es:=by
 rcases V with h1 |⟨id,g,s,cap,ex,r,rfl,h2,h3⟩
 ·exact .inl h1
 ·exact .inr ⟨id,g,s,cap,ex,r,rfl,p.row (e _ _ _ _ _ _ rfl) h2,h3⟩
end
section
variable {κ:Type}
def lk [DecidableEq κ]:List (κ×AV)→κ→Option AV
 | [],_=>none
 |p :: t,k=>if k=p.1 then some p.2 else lk t k
def up [DecidableEq κ]:List (κ×AV)→κ→AV→List (κ×AV)
 | [],k,v=>[(k,v)]
 |p :: t,k,v=>if k=p.1 then(k,v) :: t else p :: up t k v
def dl [DecidableEq κ]:List (κ×AV)→κ→List (κ×AV)
 | [],_=>[]
 |p :: t,k=>if k=p.1 then t else p :: dl t k
structure Keys [DecidableEq κ] (kk:KK) (ek:κ→AV):Prop where
 fits:∀k,jD kk (ek k)=true
 eq:∀a b,qJ (ek a) (ek b)=some (decide (a=b))
def yh:Str→AV:= .str
def uy:Int→AV:= .int .i64
theorem strKeys:Keys (.leaf .str) yh:=⟨fun _=>rfl,lZ⟩
theorem intKeys:Keys (.leaf .int) uy:=⟨fun _=>rfl,fun a b=>by simp only[uy,qJ,pq,Nat.beq_refl,cond_true,sH]⟩
inductive sI (ek:κ→AV):List (AV×AV×Nat)→List (κ×AV)→Prop
 |nil:sI ek [] []
 |cons {k:κ} {v:AV} {b:Nat} {es:List (AV×AV×Nat)} {l:List (κ×AV)} (t:sI ek es l):sI ek ((ek k,v,b) :: es) ((k,v) :: l)
structure Zm (ek:κ→AV) (h:aj) (id:Nat) (es:List (AV×AV×Nat)) (c:Nat) (l:List (κ×AV)):Prop where
 get:h.get id=some (.map es c)
 ents:sI ek es l
 born:∀e∈es,e.2.2<c
 nd:(es.map fun e=>e.2.2).Nodup
 keys:(l.map fun p=>p.1).Nodup
def kK (ek:κ→AV) (h:aj) (id:Nat) (l:List (κ×AV)):Prop:=∃es c,Zm ek h id es c l
variable {kk:KK} {ek:κ→AV} {h h':aj} {id:Nat} {l:List (κ×AV)}
theorem aaW [DecidableEq κ] {l:List (κ×AV)} {k:κ}:lk l k=none↔k ∉ l.map fun p=>p.1:=by
 induction l with
 |nil=>simp[lk]
 |cons p t ih=>
  simp only[lk,List.map_cons,List.mem_cons,not_or]
  by_cases e:k=p.1
  ·simp[e]
  ·simp[e,ih]
theorem abl [DecidableEq κ] {l:List (κ×AV)} {k:κ} {v:AV} (hn:(l.map fun p=>p.1).Nodup):lk l k=some v↔(k,v)∈l:=by
 induction l with
 |nil=>simp[lk]
 |cons p t ih=>
  obtain⟨a,b⟩:=p
  simp only[List.map_cons,List.nodup_cons] at hn
  simp only[lk,List.mem_cons,Prod.mk.injEq]
  by_cases e:k=a
  ·subst e
   simp only[if_true,Option.some.injEq]
   constructor
   ·intro e;subst e;exact .inl ⟨by simp,rfl⟩
   ·rintro(⟨_,e⟩|hm)
    ·exact e.symm
    ·exact absurd (List.mem_map.2 ⟨_,hm,rfl⟩) hn.1
  ·rw[if_neg e,ih hn.2]
   constructor
   ·exact .inr
   ·rintro(⟨e',_⟩|hm)
    ·exact absurd e' e
    ·exact hm
theorem Gc [DecidableEq κ] {k:κ} {v:AV}:∀{l:List (κ×AV)},(l.map fun p=>p.1).Nodup→((up l k v).map fun p=>p.1).Nodup∧∀x,x∈(up l k v).map (fun p=>p.1)→x=k∨x∈l.map fun p=>p.1
 | [],_=>by simp[up]
 |p :: t,hn=>by
  simp only[List.map_cons,List.nodup_cons] at hn
  obtain⟨i1,i2⟩:=Gc (k:=k) (v:=v) hn.2
  simp only[up]
  by_cases e:k=p.1
  ·rw[if_pos e]
   subst e
   exact⟨by simp only[List.map_cons,List.nodup_cons];exact hn,fun x hx=> .inr (by simpa using hx)⟩
  ·rw[if_neg e]
   refine⟨?_,fun x hx=> ?_⟩
   ·simp only[List.map_cons,List.nodup_cons]
    refine⟨fun hm=> ?_,i1⟩
    rcases i2 _ hm with e' |hm
    ·exact e e'.symm
    ·exact hn.1 hm
   ·simp only[List.map_cons,List.mem_cons] at hx ⊢
    rcases hx with hx |hx
    ·exact .inr (.inl hx)
    ·rcases i2 x hx with hx |hx
     ·exact .inl hx
     ·exact .inr (.inr hx)
theorem Sc [DecidableEq κ] {k:κ}:∀{l:List (κ×AV)},(dl l k).Sublist l
 | []=> .slnil
 |p :: t=>by
  simp only[dl]
  by_cases e:k=p.1
  ·rw[if_pos e];exact List.sublist_cons_self _ _
  ·rw[if_neg e];exact Sc.cons_cons _
theorem sI.find [DecidableEq κ] (K:Keys kk ek) (k:κ) {es:List (AV×AV×Nat)} {l:List (κ×AV)} (E:sI ek es l):jw (ek k) es=some (lk l k):=by
 induction E with
 |nil=>rfl
 |cons t ih=>
  rename_i k' v b es l
  simp only[jw,K.eq,lk]
  by_cases e:k=k'
  ·rw[decide_eq_true e,if_pos e]
  ·rw[decide_eq_false e,if_neg e];exact ih
theorem sI.set [DecidableEq κ] (K:Keys kk ek) (k:κ) (v:AV) {es:List (AV×AV×Nat)} {l:List (κ×AV)} (E:sI ek es l) (hs:lk l k≠none):sI ek (sS (ek k) v es) (up l k v)∧(sS (ek k) v es).map (fun e=>e.2.2)=es.map fun e=>e.2.2:=by
 induction E with
 |nil=>exact absurd rfl hs
 |cons t ih=>
  rename_i k' v' b es l
  simp only[sS,K.eq,up]
  simp only[lk] at hs
  by_cases e:k=k'
  ·rw[decide_eq_true e,if_pos e]
   exact⟨.cons t,rfl⟩
  ·rw[if_neg e] at hs
   rw[decide_eq_false e,if_neg e]
   obtain⟨i1,i2⟩:=ih hs
   exact⟨.cons i1,by simp only[List.map_cons,i2]⟩
theorem sI.add [DecidableEq κ] {k:κ} {v:AV} {c:Nat} {es:List (AV×AV×Nat)} {l:List (κ×AV)} (E:sI ek es l) (hs:lk l k=none):sI ek (es++[(ek k,v,c)]) (up l k v):=by
 induction E with
 |nil=>exact .cons .nil
 |cons t ih=>
  rename_i k' v' b es l
  simp only[lk] at hs
  simp only[up,List.cons_append]
  by_cases e:k=k'
  ·rw[if_pos e] at hs;cases hs
  ·rw[if_neg e] at hs ⊢
   exact .cons (ih hs)
theorem sI.del [DecidableEq κ] (K:Keys kk ek) (k:κ) {es:List (AV×AV×Nat)} {l:List (κ×AV)} (E:sI ek es l):sI ek (Bp (ek k) es) (dl l k)∧(Bp (ek k) es).Sublist es:=by
 induction E with
 |nil=>exact⟨.nil, .slnil⟩
 |cons t ih=>
  rename_i k' v' b es l
  simp only[Bp,K.eq,dl]
  by_cases e:k=k'
  ·rw[decide_eq_true e,if_pos e]
   exact⟨t,List.sublist_cons_self _ _⟩
  ·rw[decide_eq_false e,if_neg e]
   exact⟨.cons ih.1,ih.2.cons_cons _⟩
theorem sI.length {es:List (AV×AV×Nat)} {l:List (κ×AV)} (E:sI ek es l):es.length=l.length:=by
 induction E with
 |nil=>rfl
 |cons t ih=>simp[ih]
theorem Nb [DecidableEq κ] {k:κ}:∀{l:List (κ×AV)},lk l k=none→dl l k=l
 | [],_=>rfl
 |p :: t,hs=>by
  simp only[lk] at hs
  simp only[dl]
  by_cases e:k=p.1
  ·rw[if_pos e] at hs;cases hs
  ·rw[if_neg e] at hs ⊢
   rw[Nb hs]
theorem Qi (h:aj):qN h=some (.map h.sz,h.push (.map [] 0))∧kK ek (h.push (.map [] 0)) h.sz ([]:List (κ×AV)):=
 ⟨rfl,[],0,by rw[aj.get_push,if_pos rfl], .nil,by simp,by simp,by simp⟩
theorem kK.lt (M:kK ek h id l) (k:h.Ok):id<h.sz:=by obtain⟨es,c,m⟩:=M;exact k.lt m.get
theorem kK.keys (M:kK ek h id l):(l.map fun p=>p.1).Nodup:=by obtain⟨es,c,m⟩:=M;exact m.keys
theorem Fr.kmap {X:Nat→Prop} (p:Fr X h h') (M:kK ek h id l) (e:¬X id):kK ek h' id l:=by
 obtain⟨es,c,m⟩:=M
 exact⟨es,c,p.keep _ _ e m.get,m.ents,m.born,m.nd,m.keys⟩
theorem kK.look [DecidableEq κ] (M:kK ek h id l) (K:Keys kk ek) (z:AV) (k:κ):fC h kk false z (.map id) (ek k)=some ((lk l k).getD z):=by
 obtain⟨es,c,m⟩:=M
 simp only[fC,K.fits,cond_true,mapOf,m.get,m.ents.find K]
 cases lk l k<;>rfl
theorem kK.look2 [DecidableEq κ] (M:kK ek h id l) (K:Keys kk ek) (z:AV) (k:κ):fC h kk true z (.map id) (ek k)=some (.tup [(lk l k).getD z, .bool (lk l k).isSome]):=by
 obtain⟨es,c,m⟩:=M
 simp only[fC,K.fits,cond_true,mapOf,m.get,m.ents.find K]
 cases lk l k<;>rfl
theorem kK.len (M:kK ek h id l):dw h 2 (.map id)=some (.int .i64 (l.length:Int)):=by
 obtain⟨es,c,m⟩:=M
 simp only[dw,m.get,m.ents.length];rfl
theorem kK.upd [DecidableEq κ] (M:kK ek h id l) (K:Keys kk ek) (k:κ) (v:AV):∃h',kQ h kk (.map id) (ek k) v=some h'∧But id h h'∧h'.sz=h.sz∧(h.Ok→h'.Ok)∧kK ek h' id (up l k v):=by
 obtain⟨es,c,m⟩:=M
 have hid:=m.get
 cases hl:lk l k with
 |none=>
  refine⟨h.put id (.map (es++[(ek k,v,c)]) (c+1)), ?_,But.put _ _ _,by simp,fun o=>o.put (o.lt m.get) _,es++[(ek k,v,c)],c+1,by rw[aj.get_put,if_pos rfl],m.ents.add hl, ?_, ?_,(Gc m.keys).1⟩
  ·simp only[kQ,K.fits,cond_true,m.get,m.ents.find K,hl]
  ·intro e he
   rcases List.mem_append.1 he with he |he
   ·have:=m.born e he;omega
   ·simp only[List.mem_singleton] at he;subst he;simp
  ·rw[List.map_append,List.nodup_append]
   refine⟨m.nd,by simp,fun a ha b hb=> ?_⟩
   obtain⟨e,he,rfl⟩:=List.mem_map.1 ha
   have:=m.born e he
   simp at hb;omega
 |some u=>
  obtain⟨i1,i2⟩:=m.ents.set K k v (by rw[hl];exact fun e=>by cases e)
  refine⟨h.put id (.map (sS (ek k) v es) c), ?_,But.put _ _ _,by simp,fun o=>o.put (o.lt m.get) _,sS (ek k) v es,c,by rw[aj.get_put,if_pos rfl],i1, ?_,by rw[i2];exact m.nd,(Gc m.keys).1⟩
  ·simp only[kQ,K.fits,cond_true,m.get,m.ents.find K,hl]
  ·intro e he
   have:e.2.2∈(sS (ek k) v es).map fun e=>e.2.2:=List.mem_map.2 ⟨e,he,rfl⟩
   rw[i2] at this
   obtain⟨e',he',heq⟩:=List.mem_map.1 this
   rw[←heq];exact m.born e' he'
theorem kK.del [DecidableEq κ] (M:kK ek h id l) (K:Keys kk ek) (k:κ):∃h',Dm h kk (.map id) (ek k)=some h'∧But id h h'∧h'.sz=h.sz∧(h.Ok→h'.Ok)∧kK ek h' id (dl l k):=by
 obtain⟨es,c,m⟩:=M
 cases hl:lk l k with
 |none=>
  refine⟨h, ?_,But.refl _ _,rfl,fun o=>o,es,c,by rw[Nb hl];exact m⟩
  simp only[Dm,K.fits,cond_true,m.get,m.ents.find K,hl]
 |some u=>
  obtain⟨i1,i2⟩:=m.ents.del K k
  refine⟨h.put id (.map (Bp (ek k) es) c), ?_,But.put _ _ _,by simp,fun o=>o.put (o.lt m.get) _,Bp (ek k) es,c,by rw[aj.get_put,if_pos rfl],i1,fun e he=>m.born e (i2.subset he),m.nd.sublist (i2.map _),m.keys.sublist (Sc.map _)⟩
  simp only[Dm,K.fits,cond_true,m.get,m.ents.find K,hl]
end
section
variable {k:AV→Bool} {K:aC} {v u:AV} {h h':aj} {o:Option AV} {p:Option (AV×aj)} {q:Option aj} {a b:Bool} {r:aC→Bool}
theorem aI (s:k v=true):ah (some v) k=true:=s
theorem aF (e:o=some v) (s:k v=true):ah o k=true:=by subst e;exact s
theorem iW (e:p=some (v,h)) (s:K v h=true):bP p K=true:=by subst e;exact s
theorem lq (e:q=some h) (s:K (.tup []) h=true):bP (unit q) K=true:=by subst e;exact s
theorem aN {x y z w:Nat} (s:k (.ptr x y z w)=true):ah (bK (.ptr x y z w)) k=true:=s
theorem aA {f x y z:Nat} (s:k (.ptr x y z f)=true):ah (aH f (.ptr x y z 0)) k=true:=by rw[Uf];exact s
theorem aJ {l:List AV} (s:k v=true):ah (gX 0 (.tup (v :: l))) k=true:=s
theorem aK {l:List AV} (s:k u=true):ah (gX 1 (.tup (v :: u :: l))) k=true:=s
theorem aaH {c:Bool} (s:k (.bool (!c))=true):ah (fT (.bool c)) k=true:=s
theorem aL (s:k (.bool false)=true):ah (fT (.bool true)) k=true:=s
theorem aM (s:k (.bool true)=true):ah (fT (.bool false)) k=true:=s
theorem iM {c:Bool} (e:c=true) (s:a=true):aZ (.bool c) a b=true:=by subst e;exact s
theorem iF {c:Bool} (e:c=false) (s:b=true):aZ (.bool c) a b=true:=by subst e;exact s
theorem bN (s:a=true):aZ (.bool true) a b=true:=s
theorem bO (s:b=true):aZ (.bool false) a b=true:=s
theorem aP (s:ah o k=true):ah (aQ (aB (.bool true) true) o) k=true:=s
theorem aU (s:ah o k=true):ah (aQ (aB (.bool false) false) o) k=true:=s
theorem aS (s:k (.tup [])=true):ah (aQ (aB (.bool true) false) o) k=true:=s
theorem aG (s:k (.tup [])=true):ah (aQ (aB (.bool false) true) o) k=true:=s
theorem bf (s:r K=true):ji (aB (.bool true) true) r h K=true:=s
theorem bF (s:r K=true):ji (aB (.bool false) false) r h K=true:=s
theorem bD (s:K (.tup []) h=true):ji (aB (.bool true) false) r h K=true:=s
theorem aW (s:K (.tup []) h=true):ji (aB (.bool false) true) r h K=true:=s
theorem bQ (s:k v=true):ah (cB (.bool true) v u) k=true:=s
theorem bM (s:k u=true):ah (cB (.bool false) v u) k=true:=s
theorem aT {J:IntKind} {x y:Int} (s:k (.bool (decide (x<y)))=true):ah (aR .lss (.int J x) (.int J y)) k=true:=by rw[Z6];exact s
theorem bE {J:IntKind} {x y:Int} (s:k (.bool (decide (y<x)))=true):ah (aR .gtr (.int J x) (.int J y)) k=true:=by rw[aaM];exact s
theorem bG {J:IntKind} {x y:Int} (s:k (.bool (decide (x≤y)))=true):ah (aR .leq (.int J x) (.int J y)) k=true:=by rw[aaK];exact s
theorem bg {J:IntKind} {x y:Int} (s:k (.bool (decide (y≤x)))=true):ah (aR .geq (.int J x) (.int J y)) k=true:=by rw[Zj];exact s
theorem aX {J:IntKind} {x y:Int} (s:k (.bool (decide (x=y)))=true):ah (aR .eql (.int J x) (.int J y)) k=true:=by rw[Za];exact s
theorem aY {J:IntKind} {x y:Int} (s:k (.bool (!decide (x=y)))=true):ah (aR .neq (.int J x) (.int J y)) k=true:=by rw[Y8];exact s
theorem bq {x y:Str} (s:k (.bool (decide (x=y)))=true):ah (aR .eql (.str x) (.str y)) k=true:=by rw[mW];exact s
theorem aO {x:Str} (s:k (.int .i64 (x.length:Int))=true):ah (dw h 0 (.str x)) k=true:=s
theorem fQ (e:o=some u) (j:AV.same u u=true) (s:a=true):fA o u a=true:=by subst e;simp only[fA,j,cond_true,s]
theorem bR {call:ay} {f:Qa} {first args cap:List AV} (s:call f (first++args++cap) h K=true):kg call (.fn f first cap) args h K=true:=s
theorem bn {a1 a2 a3 a4:Nat} (s:k (.bool false)=true):ah (ru h false Vp.ptr (.ptr a1 a2 a3 a4) .nilPtr) k=true:=s
theorem bA (s:k (.bool true)=true):ah (ru h false Vp.ptr .nilPtr .nilPtr) k=true:=s
end
theorem Aq (a:Nat):AV.same (.map a) (.map a)=true:=by simp only[AV.same,Nat.beq_refl]
theorem Rb {l:List AV} (h:xP l l=true):AV.same (.agg l) (.agg l)=true:=by simpa only[AV.same] using h
theorem EC:AV.same .nilSlc .nilSlc=true:=by simp only[AV.same]
theorem Qc:AV.same .emp .emp=true:=by simp only[AV.same]
theorem View.same {h:aj} {n:Nat} {v:AV} {es:List (List AV)} (V:View h n v es):AV.same v v=true:=by
 rcases V with⟨_,e |e⟩|⟨id,g,s,cap,ex,r,rfl,_⟩
 ·subst e;exact EC
 ·subst e;exact Qc
 ·exact Qy _ _ _ _ _ _
section
variable {h h':aj} {id:Nat} {c:List AV}
theorem Var.get (V:Var h id c) {off:Nat} {v:AV} (e:nth c off=some v):au h false 1 (.ptr id 0 0 off)=some v:=by
 rw[V.load,bY];exact e
theorem Var.all (V:Var h id c) {n:Nat} (e:c.length=n):au h true n (.ptr id 0 0 0)=some (.agg c):=by
 subst e
 rw[V.load]
 simp[iH,bI.2 (Nat.le_refl _)]
theorem gW {z:List AV} (o:h.Ok) (h1:0<z.length) (h2:aV z=true):∃h',fG h z=some (.ptr h.sz 0 0 0,h')∧Var h' h.sz z∧Ext h h'∧h'.Ok∧h'.sz=h.sz+1:=
 ⟨_,alloc_eq h1 h2,eY h z,bU o _ _,cZ o _ _,rfl⟩
theorem kZ {n:Nat} {v:AV} (o:h.Ok) (h0:v.cells.length=n) (h1:0<n) (h2:aV v.cells=true):∃h',iY h n v=some (.ptr h.sz 0 0 0,h')∧Var h' h.sz v.cells∧Ext h h'∧h'.Ok∧h'.sz=h.sz+1:=by
 refine⟨_,lM h0 h1 h2, ?_,bU o _ _,cZ o _ _,rfl⟩
 have:=eY h v.cells
 rw[h0] at this;exact this
theorem Var.wr (V:Var h id c) (o:h.Ok) {off:Nat} {v:AV} (h1:off<c.length) (h2:v.leaf=true):∃h',bT h 1 (.ptr id 0 0 off) v=some h'∧Var h' id (c.set off v)∧But id h h'∧h'.Ok∧h'.sz=h.sz:=
 ⟨_,V.set1 h1 h2,oq id _,But.put _ _ _,o.put (V.lt o) _,by simp⟩
theorem Var.wrs (V:Var h id c) (o:h.Ok) {n:Nat} {v:AV} (h0:v.cells.length=n) (h1:c.length=n) (h2:aV v.cells=true):∃h',bT h n (.ptr id 0 0 0) v=some h'∧Var h' id v.cells∧But id h h'∧h'.Ok∧h'.sz=h.sz:=by
 refine⟨_,V.store h0 (by omega) h2, ?_,But.put _ _ _,o.put (V.lt o) _,by simp⟩
 have:lay c 0 v.cells=v.cells:=by simp[lay];omega
 rw[this];exact oq id _
theorem iL {sz:Nat} {z:List AV} {v:AV} (o:h.Ok) (h1:z.length=sz) (h2:0<sz) (h3:1*sz≤16777216) (h4:aV z=true) (h5:v.cells.length=sz) (h6:aV v.cells=true):∃w h',dX h 1 sz z [(0,v)]=some (w,h')∧View h' sz w [v.cells]∧Ext h h'∧h'.Ok∧h'.sz=h.sz+1∧w= .slc h.sz 0 0 1 1 true:=by
 refine⟨.slc h.sz 0 0 1 1 true,Ab.newRow h [v.cells] sz, ?_, .inr ⟨h.sz,0,0,1,true,{es:=[v.cells],sz,g:=0,m:=0,rw:=true},rfl, ?_,Nat.le_refl _,rfl,by simp,by simp⟩,bU o _ _,cZ o _ _,rfl,rfl⟩
 ·simp only[dX,bJ.2 h1,dL.2 h2,bI.2 h3,h4,Bool.and_self,cond_true,jO,jG,bJ.2 h5,List.length_cons,List.length_nil,h6,oP]
  rfl
 ·rw[aj.row_some];simp only[newRow,aj.get_push,if_pos]
end
abbrev SK:=Str×Str
def sk (a:SK):AV:= .agg [.str a.1, .str a.2]
theorem sks:Keys (.st [.str, .str]) sk:=⟨fun _=>rfl,fun a b=>by
 obtain⟨a1,a2⟩:=a;obtain⟨b1,b2⟩:=b
 simp only[sk,qJ,mI,pq,ql]
 by_cases e1:a1=b1<;>by_cases e2:a2=b2<;>simp[e1,e2]⟩
section
variable {κ:Type} [DecidableEq κ] {kk:KK} {ek:κ→AV} {h h':aj} {id it:Nat} {l:List (κ×AV)}
end
def bL (v:AV) (j:Nat):Prop:=∃g s l c ex,v= .slc j g s l c ex
theorem eH {j:Nat}:¬bL .nilSlc j:=by rintro⟨_,_,_,_,_,e⟩;cases e
theorem dh {i g s l c:Nat} {ex:Bool} {j:Nat}:bL (.slc i g s l c ex) j↔i=j:=⟨fun⟨_,_,_,_,_,e⟩=>by cases e;rfl,fun e=>by subst e;exact⟨_,_,_,_,_,rfl⟩⟩
theorem zP {h h':aj} {n bytes:Nat} {nt:Option Nat} {v x v':AV} (e:cK h n bytes v x nt=some (v',h')) {j:Nat} (i:bL v' j):bL v j∨j=h.sz:=by
 unfold cK at e
 cases hn:Nat.beq n 0 with
 |true=>rw[hn] at e;cases e
 |false=>
  rw[hn,cond_false] at e
  split at e
  ·cases e
  ·rename_i new hs
   unfold eZ at e
   split at e
   ·split at e
    ·cases e;exact absurd i eH
    ·cases hc:(Nat.ble (new.length*bytes) most&&Nat.ble new.length most) with
     |true=>rw[hc] at e;cases e;exact .inr (dh.1 i).symm
     |false=>rw[hc] at e;cases e
   ·split at e
    ·cases e;obtain⟨_,_,_,_,_,e⟩:=i;cases e
    ·cases hc:(Nat.ble (new.length*bytes) most&&Nat.ble new.length most) with
     |true=>rw[hc] at e;cases e;exact .inr (dh.1 i).symm
     |false=>rw[hc] at e;cases e
   ·rename_i id g st len cap ex
    split at e
    ·cases e;exact .inl i
    ·split at e
     ·cases e
     ·rename_i r hr
      revert e
      cases (Nat.ble ((len+new.length)*bytes) most&&Nat.ble (len+new.length) most&&Nat.beq r.sz n) with
      |false=>intro e;cases e
      |true=>
       cases Nat.ble (len+new.length) cap with
       |true=>
        cases (r.rw&&Nat.beq g r.g) with
        |true=>intro e;cases e;exact .inl (dh.2 (dh.1 i))
        |false=>intro e;cases e
       |false=>
        cases ex with
        |true=>
         simp only[cond_true,cond_false]
         cases Nat.ble r.m g with
         |false=>intro e;cases e
         |true=>
          simp only[cond_true]
          cases Nat.beq (List.take len (List.drop st r.es)).length len with
          |true=>intro e;cases e;exact .inr (dh.1 i).symm
          |false=>intro e;cases e
        |false=>
         simp only[cond_true,cond_false]
         cases (r.rw&&Nat.beq g r.g&&Nat.beq st 0) with
         |false=>intro e;cases e
         |true=>
          simp only[cond_true]
          cases Nat.beq len r.es.length with
          |true=>intro e;cases e;exact .inl (dh.2 (dh.1 i))
          |false=>intro e;cases e;exact .inl (dh.2 (dh.1 i))
   ·cases e
theorem Tp {h:aj}:Ext aj.empty h:=⟨Nat.zero_le _,fun id o e=>by cases e⟩
theorem ok_none:aj.empty.Ok:=fun id _=>rfl
theorem Uq {h:aj} {n bytes:Nat} {v x:AV} {es new:List (List AV)} (O:Own 0 h n v es) (hn:0<n) (o:h.Ok) (hs:source h n x=some new) (h1:(es.length+new.length)*bytes≤most) (h2:es.length+new.length≤most):
 ∃v' h',cK h n bytes v x=some (v',h')∧Own 0 h' n v' (es++new)∧h'.Ok∧Fr (bL v) h h'∧(∀j,bL v' j→bL v j∨h.sz≤j):=by
 obtain⟨v',h',a1,a2,a3,a4,a5,a6,a7⟩:=O.app hn (Nat.zero_le _) o ok_none Tp (Nat.le_refl _) hs h1 h2
 exact⟨v',h',a1,a2,a3,⟨a5,fun j o' nj g=>a6 j o' g fun id g' s l c ex e q=>nj ⟨g',s,l,c,ex,by rw[e,q]⟩⟩,fun j i=>by rcases zP a1 i with e |e;exact .inl e;exact .inr (by omega)⟩
theorem jW {h:aj} {n:Nat} {v:AV} {es:List (List AV)} (O:Own 0 h n v es) (o:h.Ok) {j:Nat} (i:bL v j):j<h.sz:=by
 rcases O with⟨rfl,_⟩|⟨id,r,w1,rfl,w3,_⟩
 ·exact absurd i eH
 ·rw[←dh.1 i];exact o.lt (aj.row_some.1 w3)
theorem kJ {b:Nat} {h:aj} {n:Nat} {v:AV} {es:List (List AV)} (O:Own b h n v es) {j:Nat} (i:bL v j):b≤j:=by
 rcases O with⟨rfl,_⟩|⟨id,r,w1,rfl,_⟩
 ·exact absurd i eH
 ·rw[←dh.1 i];exact w1
theorem iV {b:Nat} {h:aj} {n:Nat} {v:AV} {es:List (List AV)} (O:Own b h n v es):Own 0 h n v es:=by
 rcases O with V |⟨id,r,w1,w2⟩
 ·exact .inl V
 ·exact .inr ⟨id,r,Nat.zero_le _,w2⟩
theorem Qz {A X:Nat→Prop} {h h1 h2:aj} (o:h.Ok) (F:Fr A h h1) (G:Fr X h1 h2) (hx:∀j,X j→A j∨h.sz≤j):Fr A h h2:=F.new (G.mono hx) o
theorem bH {h h1 h2:aj} (e:Ext h h1) (f:Ext h1 h2):Ext h h2:=⟨Nat.le_trans e.1 f.1,fun j o g=>f.2 j o (e.2 j o g)⟩
theorem View.at1 {h:aj} {n:Nat} {v:AV} {es:List (List AV)} (V:View h n v es) {i:Nat} {e:List AV} (hi:es[i]? =some e):∃id g j,(∀k,bS h n v (.int k (i:Int))=some (.ptr id g j 0))∧∀ag off m,au h ag m (.ptr id g j off)=iH ag off m e:=by
 obtain⟨id,g,j,q⟩:=V.atE hi
 exact⟨id,g,j,q h (Ext.refl h)⟩
end Go.Ab
namespace Go.Proofs.YthmnnlpbnhkhkaaGreat
open Go.Ab
theorem kR {b:Nat} {h h0:aj} {n bytes:Nat} {v x:AV} {es new:List (List AV)} (O:Own b h n v es) (hn:0<n) (hb:b≤h.sz) (o:h.Ok) (k0:h0.Ok) (e0:Ext h0 h) (hb0:h0.sz≤b) (hs:source h n x=some new) (h1:(es.length+new.length)*bytes≤most) (h2:es.length+new.length≤most):
 ∃v' h',cK h n bytes v x=some (v',h')∧Own b h' n v' (es++new)∧h'.Ok∧Ext h0 h'∧Fr (bL v) h h'∧(∀j,bL v' j→bL v j∨j=h.sz):=by
 obtain⟨v',h',a1,a2,a3,a4,a5,a6,a7⟩:=O.app hn hb o k0 e0 hb0 hs h1 h2
 exact⟨v',h',a1,a2,a3,a4,⟨a5,fun j o' nj g=>a6 j o' g fun id g' s l c ex e q=>nj ⟨g',s,l,c,ex,by rw[e,q]⟩⟩,fun j i=>zP a1 i⟩
theorem _root_.Go.Ab.VV.sm {h:aj} {v:AV} {l:List Val} (V:VV h v l):AV.same v v=true:=by obtain⟨es,h1,_⟩:=V;exact h1.same
def Kp (lo hi:Nat) (h h':aj):Prop:=∀j o,lo≤j→j<hi→h.get j=some o→h'.get j=some o
theorem Kp.refl (lo hi:Nat) (h:aj):Kp lo hi h h:=fun _ _ _ _ e=>e
theorem Kp.trans {lo hi:Nat} {a b c:aj} (p:Kp lo hi a b) (q:Kp lo hi b c):Kp lo hi a c:=fun j o l1 l2 e=>q j o l1 l2 (p j o l1 l2 e)
theorem Kp.of_ext {lo hi:Nat} {h h':aj} (e:Ext h h'):Kp lo hi h h':=fun j o _ _ g=>e.2 j o g
theorem Kp.sub {lo hi lo' hi':Nat} {h h':aj} (p:Kp lo hi h h') (l1:lo≤lo') (l2:hi'≤hi):Kp lo' hi' h h':=fun j o a b g=>p j o (by omega) (by omega) g
theorem Kp.of_fr {lo hi:Nat} {h h':aj} {X:Nat→Prop} (f:Fr X h h') (d:∀j,X j→¬(lo≤j∧j<hi)):Kp lo hi h h':=fun j o a b g=>f.keep j o (fun x=>d j x ⟨a,b⟩) g
theorem Kp.of_but {lo hi id:Nat} {h h':aj} (f:But id h h') (d:¬(lo≤id∧id<hi)):Kp lo hi h h':=fun j o a b g=>f.keep j o (fun e=>d (by rw[←e];exact⟨a,b⟩)) g
def _root_.Go.Ab.Val.ls:Val→List Val
 | .mk _ _ _ _ l=>l
def shape (x:Val) (lv:AV):List AV:=
 match x with
 | .mk k b n t _=>[.int .i64 k, .bool b, .int .i64 n, .str t,lv]
def Ow:Nat→Nat→Nat→aj→AV→List Val→Prop
 |0,_,_,_,v,l=>v= .nilSlc∧l=[]
 |k+1,lo,hi,h,v,l=>∃(es:List (List AV)) (reg:Nat→Nat×Nat),Own lo h 5 v es∧(∀j,bL v j→j<hi)∧es.length=l.length∧
  (∀i,i<es.length→lo≤(reg i).1∧(reg i).2≤hi∧∀j,bL v j→¬((reg i).1≤j∧j<(reg i).2))∧
  (∀i i',i<i'→i'<es.length→(reg i).2≤(reg i').1)∧
  ∀(i:Nat) e x,es[i]? =some e→l[i]? =some x→∃lv,e=shape x lv∧lv.leaf=true∧Ow k (reg i).1 (reg i).2 h lv x.ls
theorem Own.kp {lo hi n:Nat} {h h':aj} {v:AV} {es:List (List AV)} (O:Own lo h n v es) (hr:∀j,bL v j→j<hi) (k:Kp lo hi h h'):Own lo h' n v es:=by
 rcases O with O |⟨id,r,w1,rfl,w3,w4⟩
 ·exact .inl O
 ·refine .inr ⟨id,r,w1,rfl, ?_,w4⟩
  rw[aj.row_some] at w3 ⊢
  exact k id _ w1 (hr id (dh.2 rfl)) w3
theorem Ow.kp:∀{k lo hi:Nat} {h h':aj} {v:AV} {l:List Val},Ow k lo hi h v l→Kp lo hi h h'→Ow k lo hi h' v l
 |0,lo,hi,h,h',v,l,O,_=>O
 |k+1,lo,hi,h,h',v,l,O,q=>by
  obtain⟨es,reg,a1,a2,a3,a4,a5,a6⟩:=O
  refine⟨es,reg,Own.kp a1 a2 q,a2,a3,a4,a5,fun i e x he hx=> ?_⟩
  obtain⟨lv,b1,b2,b3⟩:=a6 i e x he hx
  have:=a4 i (List.getElem?_eq_some_iff.1 he).1
  exact⟨lv,b1,b2,b3.kp (q.sub this.1 this.2.1)⟩
theorem Own.low {lo lo' n:Nat} {h:aj} {v:AV} {es:List (List AV)} (O:Own lo h n v es) (e:lo'≤lo):Own lo' h n v es:=by
 rcases O with O |⟨id,r,w1,w2⟩
 ·exact .inl O
 ·exact .inr ⟨id,r,Nat.le_trans e w1,w2⟩
theorem Ow.wide:∀{k lo hi lo' hi':Nat} {h:aj} {v:AV} {l:List Val},Ow k lo hi h v l→lo'≤lo→hi≤hi'→Ow k lo' hi' h v l
 |0,lo,hi,lo',hi',h,v,l,O,_,_=>O
 |k+1,lo,hi,lo',hi',h,v,l,O,e1,e2=>by
  obtain⟨es,reg,a1,a2,a3,a4,a5,a6⟩:=O
  exact⟨es,reg,Own.low a1 e1,fun j hj=>Nat.lt_of_lt_of_le (a2 j hj) e2,a3,fun i hi=>⟨Nat.le_trans e1 (a4 i hi).1,Nat.le_trans (a4 i hi).2.1 e2,(a4 i hi).2.2⟩,a5,a6⟩
structure Gv (l:List Val) (h:aj) (lo hi:Nat) (v:AV):Prop where
 rd:∀h',Kp lo hi h h'→VV h' v l
 ow:∃k,Ow k lo hi h v l
structure Gx (x:Val) (h:aj) (lo hi:Nat) (a:List AV):Prop where
 rd:∀h',Kp lo hi h h'→RV h' a x
 ow:∃k lv,a=shape x lv∧lv.leaf=true∧Ow k lo hi h lv x.ls
theorem Gv.fr {l:List Val} {h h':aj} {lo hi:Nat} {v:AV} (G:Gv l h lo hi v) (k:Kp lo hi h h'):Gv l h' lo hi v:=⟨fun h'' q=>G.rd h'' (k.trans q),let⟨n,O⟩:=G.ow;⟨n,O.kp k⟩⟩
theorem Gx.fr {x:Val} {h h':aj} {lo hi:Nat} {v:List AV} (G:Gx x h lo hi v) (k:Kp lo hi h h'):Gx x h' lo hi v:=⟨fun h'' q=>G.rd h'' (k.trans q),let⟨n,lv,e,f,O⟩:=G.ow;⟨n,lv,e,f,O.kp k⟩⟩
theorem Gv.now {l:List Val} {h:aj} {lo hi:Nat} {v:AV} (G:Gv l h lo hi v):VV h v l:=G.rd h (Kp.refl _ _ _)
theorem Gx.now {x:Val} {h:aj} {lo hi:Nat} {v:List AV} (G:Gx x h lo hi v):RV h v x:=G.rd h (Kp.refl _ _ _)
theorem RV.of {h:aj} {k n:Int} {b:Bool} {t:Str} {l:List Val} {lv:AV} (V:VV h lv l) (r:(-9223372036854775808≤n∧n≤9223372036854775807)∧(-9223372036854775808≤k∧k≤9223372036854775807)∧∀x∈t,x<256):RV h [.int .i64 k, .bool b, .int .i64 n, .str t,lv] (.mk k b n t l):=by
 obtain⟨es,h1,h2⟩:=V
 simp only[RV]
 exact⟨lv,es,rfl,h1,Dh.of h2,r⟩
structure Kv (b:Nat) (h:aj) (out:AV) (es:List (List AV)) (l:List Val):Prop where
 own:Own b h 5 out es
 row:∀j,bL out j→j<h.sz
 len:es.length=l.length
 g:∃reg:Nat→Nat×Nat,(∀i,i<es.length→b≤(reg i).1∧(reg i).2≤h.sz∧∀j,bL out j→¬((reg i).1≤j∧j<(reg i).2))∧(∀i i',i<i'→i'<es.length→(reg i).2≤(reg i').1)∧∀(i:Nat) (e:List AV) (x:Val),es[i]? =some e→l[i]? =some x→Gx x h (reg i).1 (reg i).2 e
theorem wT {α β:Type} {R:α→β→Prop}:∀{l:List α} {m:List β},l.length=m.length→(∀(i:Nat) a b,l[i]? =some a→m[i]? =some b→R a b)→gM R l m
 | [],[],_,_=> .nil
 | [],_ :: _,h,_=>by simp at h
 |_ :: _,[],h,_=>by simp at h
 |a :: l,b :: m,h,k=> .cons (k 0 a b rfl rfl) (wT (by simpa using h) fun i x y h1 h2=>k (i+1) x y h1 h2)
theorem Ow.up:∀{k lo hi:Nat} {h:aj} {v:AV} {l:List Val},Ow k lo hi h v l→Ow (k+1) lo hi h v l
 |0,lo,hi,h,v,l,⟨e1,e2⟩=>by
  subst e1;subst e2
  exact⟨[],fun _=>(0,0), .inl ⟨rfl,rfl⟩,fun j i=>absurd i eH,rfl,by simp,by simp,by simp⟩
 |k+1,lo,hi,h,v,l,O=>by
  obtain⟨es,reg,a1,a2,a3,a4,a5,a6⟩:=O
  exact⟨es,reg,a1,a2,a3,a4,a5,fun i e x he hx=>let⟨lv,b1,b2,b3⟩:=a6 i e x he hx;⟨lv,b1,b2,b3.up⟩⟩
theorem Nj {P:Nat→Nat→Prop} (up:∀i k,P i k→P i (k+1)):∀n,(∀i,i<n→∃k,P i k)→∃k,∀i,i<n→P i k
 |0,_=>⟨0,fun i h=>by omega⟩
 |n+1,h=>by
  obtain⟨k,hk⟩:=Nj up n fun i hi=>h i (by omega)
  obtain⟨k',hk'⟩:=h n (by omega)
  have more:∀d i q,P i q→P i (q+d):=fun d=>by
   induction d with
   |zero=>intro i q p;exact p
   |succ d ih=>intro i q p;exact up _ _ (ih i q p)
  refine⟨k+k',fun i hi=> ?_⟩
  by_cases e:i=n
  ·subst e;rw[Nat.add_comm];exact more _ _ _ hk'
  ·exact more _ _ _ (hk i (by omega))
theorem Kv.gv {b:Nat} {h:aj} {out:AV} {es:List (List AV)} {l:List Val} (C:Kv b h out es l) (o:h.Ok) (hb:b≤h.sz):Gv l h b h.sz out:=by
 obtain⟨reg,r1,r2,r3⟩:=C.g
 refine⟨fun h' k=>⟨es, ?_,wT C.len fun i e x h1 h2=> ?_⟩, ?_⟩
 ·exact(Own.kp C.own C.row k).view
 ·have:=r1 i (List.getElem?_eq_some_iff.1 h1).1
  exact(r3 i e x h1 h2).rd h' (k.sub this.1 this.2.1)
 ·obtain⟨K,hK⟩:=Nj (P:=fun i k=>∀e x,es[i]? =some e→l[i]? =some x→∃lv,e=shape x lv∧lv.leaf=true∧Ow k (reg i).1 (reg i).2 h lv x.ls)
   (fun i k p e x he hx=>let⟨lv,b1,b2,b3⟩:=p e x he hx;⟨lv,b1,b2,b3.up⟩) es.length (fun i hi=>by
     obtain⟨k,lv,e1,e2,e3⟩:=(r3 i _ _ (List.getElem?_eq_getElem hi) (List.getElem?_eq_getElem (by rw[←C.len];exact hi))).ow
     refine⟨k,fun e x he hx=> ?_⟩
     rw[List.getElem?_eq_getElem hi] at he;cases he
     rw[List.getElem?_eq_getElem (by rw[←C.len];exact hi)] at hx;cases hx
     exact⟨lv,e1,e2,e3⟩)
  exact⟨K+1,es,reg,C.own,C.row,C.len,r1,r2,fun i e x he hx=>hK i (List.getElem?_eq_some_iff.1 he).1 e x he hx⟩
theorem Own.fr {b n:Nat} {X:Nat→Prop} {h h':aj} {v:AV} {es:List (List AV)} (O:Own b h n v es) (f:Fr X h h') (d:∀j,bL v j→¬X j):Own b h' n v es:=by
 rcases O with V |⟨id,r,w1,w2,w3,w4⟩
 ·exact .inl V
 ·exact .inr ⟨id,r,w1,w2,f.row (d id (by rw[w2];exact⟨_,_,_,_,_,rfl⟩)) w3,w4⟩
theorem wZ {b:Nat} {h:aj} {n i:Nat} {v x:AV} {es:List (List AV)} {e:List AV} (O:Own b h n v es) (hi:es[i]? =some e) (hl:e.length=n) (hx:x.cells.length=n) (hf:aV x.cells=true):
 ∃id g,(∀k,bS h n v (.int k (i:Int))=some (.ptr id g i 0))∧bL v id∧∃h',bT h n (.ptr id g i 0) x=some h'∧Own b h' n v (es.set i x.cells)∧But id h h'∧(h.Ok→h'.Ok):=by
 have hlt:i<es.length:=(List.getElem?_eq_some_iff.1 hi).1
 rcases O with⟨rfl,rfl⟩|⟨id,r,w1,rfl,w3,w4,w5,w6,w7⟩
 ·simp at hi
 ·refine⟨id,r.g,fun k=> ?_,⟨_,_,_,_,_,rfl⟩,h.put id (.row {r with es:=es.set i x.cells,m:=r.g}), ?_, ?_,But.put _ _ _,fun o=>o.put (o.lt (aj.row_some.1 w3)) _⟩
  ·have:jo h id n=true:=by simp only[jo,w3,bJ];exact w6
   simp only[bS,iK,dL.2 hlt,this,Bool.and_self,cond_true,Nat.zero_add]
  ·have hn:nth r.es i=some e:=by rw[lJ,w7];exact hi
   have hlay:lay e 0 x.cells=x.cells:=by simp[lay];omega
   simp only[bT,w3,w4,Nat.beq_refl,bJ.2 hx,hf,Bool.and_self,cond_true,hn,Nat.zero_add]
   rw[bI.2 (by omega),cond_true,oF,hlay,w7]
  ·exact .inr ⟨id,_,w1,by simp only[List.length_set],aj.row_some.2 (eU _ _ _),w4,Nat.le_refl _,w6,rfl⟩
theorem wh {x:Val} {lv:AV} (h:lv.leaf=true):(AV.agg (shape x lv)).cells=shape x lv∧aV (shape x lv)=true∧(shape x lv).length=5:=by
 obtain⟨k,b,n,t,l⟩:=x
 exact⟨rfl,by simp only[shape,aV,h];rfl,rfl⟩
theorem Mh (x:Val) (lv:AV):nth (shape x lv) 4=some lv:=by cases x;rfl
theorem res1 {a v:AV} {m:Nat} {K:aC} {h:aj} (e:au h true m a=some v) (s:K v h=true):vM (mq h [(a,some (true,m))]) h K=true:=by
 have:mq h [(a,some (true,m))]=some [v]:=by simp only[mq,e]
 rw[this];exact s
theorem Kv.fr {b:Nat} {X:Nat→Prop} {h h':aj} {out:AV} {es:List (List AV)} {l:List Val} (C:Kv b h out es l) (f:Fr X h h') (hX:∀j,X j→j<b):Kv b h' out es l:=by
 obtain⟨reg,r1,r2,r3⟩:=C.g
 refine⟨Own.fr C.own f fun j hj x=>by have:=hX j x;have:=kJ C.own hj;omega,fun j hj=>Nat.lt_of_lt_of_le (C.row j hj) f.sz,C.len,reg,fun i hi=>⟨(r1 i hi).1,Nat.le_trans (r1 i hi).2.1 f.sz,(r1 i hi).2.2⟩,r2,fun i e x he hx=> ?_⟩
 have:=(r1 i (List.getElem?_eq_some_iff.1 he).1).1
 exact(r3 i e x he hx).fr (Kp.of_fr f fun j x q=>by have:=hX j x;have:=q.1;omega)
theorem Kv.nil (b:Nat) (h:aj):Kv b h .nilSlc [] []:=⟨Own.nil _ _ _,fun j i=>absurd i eH,rfl,fun _=>(0,0),by simp,by simp,by simp⟩
theorem Kv.push {b:Nat} {h0 h h3 h4:aj} {out:AV} {es:List (List AV)} {l:List Val} {x:Val} {a':List AV} (C:Kv b h out es l) (o:h.Ok) (k0:h0.Ok) (e0:Ext h0 h) (hb0:h0.sz≤b) (hb:b≤h.sz) (e3:Ext h h3) (e4:Ext h3 h4) (o4:h4.Ok) (G:Gx x h4 h3.sz h4.sz a') (hl:l.length<1000000000):
 ∃w h5,dX h4 1 5 [.int .i64 0, .bool false, .int .i64 0, .str [], .nilSlc] [(0, .agg a')]=some (w,h5)∧Ext h4 h5∧h5.Ok∧∃out' h6,cK h5 5 64 out w=some (out',h6)∧h6.Ok∧Ext h0 h6∧Fr (bL out) h5 h6∧Kv b h6 out' (es++[a']) (l++[x]):=by
 have hmo:most=1099511627776:=rfl
 obtain⟨f1,f2,f3,f4⟩:=G.now.agg
 obtain⟨w,h5,b1,b2,e5,o5,z5,_⟩:=iL (sz:=5) (z:=[AV.int .i64 0, .bool false, .int .i64 0, .str [], .nilSlc]) (v:= .agg a') o4 rfl (by decide) (by decide) rfl f2 f3
 rw[f4] at b2
 have eh5:=bH (bH e3 e4) e5
 have e05:=bH e0 eh5
 have hEl:es.length=l.length:=C.len
 obtain⟨out',h6,a1,a2,a3,a4,a5,a6⟩:=kR (bytes:=64) (C.own.ext eh5) (by decide) (by have:=eh5.1;omega) o5 k0 e05 hb0 b2.src (by rw[hEl];simp;omega) (by rw[hEl];simp;omega)
 refine⟨w,h5,b1,e5,o5,out',h6,a1,a3,a4,a5, ?_⟩
 have lowr:∀j,bL out j→j<h.sz:=C.row
 obtain⟨reg,r1,r2,r3⟩:=C.g
 generalize hi:es.length=i at *
 have s2:=e3.1;have s3:=e4.1;have s4:=e5.1;have s5:=a5.sz;have s6:=eh5.1
 obtain⟨rg,n1,n2⟩:∃rg:Nat→Nat×Nat,(∀q,q<i→rg q=reg q)∧rg i=(h3.sz,h4.sz):=⟨fun q=>if q<i then reg q else(h3.sz,h4.sz),fun q hq=>if_pos hq,if_neg (Nat.lt_irrefl i)⟩
 have hl:(es++[a']).length=i+1:=by simp[hi]
 refine⟨a2,fun j hj=>jW (iV a2) a3 hj,by rw[hl,List.length_append,hEl];rfl,rg,fun q hq=> ?_,fun q q' h1 h2=> ?_,fun i' e' x' he hx=> ?_⟩
 ·by_cases hq':q<i
  ·rw[n1 q hq']
   obtain⟨c1,c2,cc3⟩:=r1 q (by omega)
   refine⟨c1,by omega,fun j hj p=> ?_⟩
   rcases a6 j hj with q' |q'
   ·exact cc3 j q' p
   ·omega
  ·have:q=i:=by omega
   subst this
   rw[n2]
   refine⟨by show b≤h3.sz;omega,by show h4.sz≤h6.sz;omega,fun j hj p=> ?_⟩
   have p1:h3.sz≤j:=p.1
   have p2:j<h4.sz:=p.2
   rcases a6 j hj with q' |q'
   ·have:=lowr j q';omega
   ·omega
 ·rw[n1 q (by omega)]
  by_cases hq':q'<i
  ·rw[n1 q' hq'];exact r2 q q' h1 (by omega)
  ·have:q'=i:=by omega
   subst this
   rw[n2]
   have:=(r1 q (by omega)).2.1
   show(reg q).2≤h3.sz
   omega
 by_cases hlt':i'<i
 ·rw[List.getElem?_append_left (by omega)] at he
  rw[List.getElem?_append_left (by omega)] at hx
  rw[n1 i' hlt']
  exact(r3 i' e' x' he hx).fr ((Kp.of_ext eh5).trans (Kp.of_fr a5 (r1 i' (by omega)).2.2))
 ·have:i'=i:=by
   have:=(List.getElem?_eq_some_iff.1 he).1
   omega
  subst this
  rw[List.getElem?_append_right (by omega),hi,Nat.sub_self] at he
  simp at he
  subst he
  rw[List.getElem?_append_right (by omega), ←hEl,Nat.sub_self] at hx
  simp at hx
  subst hx
  rw[n2]
  refine G.fr ((Kp.of_ext e5).trans (Kp.of_fr a5 fun j hj q=> ?_))
  have:=lowr j hj;have:=q.1;omega
abbrev z5:List AV:=[.int .i64 0, .bool false, .int .i64 0, .str [], .nilSlc]
theorem Zf:∀(k n:Nat) {h:aj} {a:List AV} {x:Val} {K:aC},RV h a x→h.Ok→jg x≤k→k+2≤n→k<1000000000→n<lim→
 (∀h2 a',Ext h h2→h2.Ok→Gx x h2 h.sz h2.sz a'→K (.agg a') h2=true)→aD E (n+1) (.func 61) [.agg a] h K=true:=by
 intro k
 induction k with
 |zero=>intro n h a x K R ho hk;cases x;simp only[jg] at hk;omega
 |succ k ih=>
  intro n hs a x K R ho hk hn hB hL kk
  have hlm:lim=4611686018427387904:=rfl
  obtain⟨g1,g2,g3,g4⟩:=R.agg
  obtain⟨kd,b,nn,t,ll⟩:=x
  obtain⟨lv,rfl,VL,rr⟩:=R.cells
  have hsz:fU ll+1≤jg (Val.mk kd b nn t ll):=by simp only[jg];omega
  have hlen:=iE ll
  apply d61
  unfold s61
  obtain⟨h1,q1,V1,e1,o1,z1⟩:=kZ (n:=5) ho g2 (by decide) g3
  rw[g4] at V1
  refine iW q1 ?_
  obtain⟨h2,q2,V2,e2,o2,z2⟩:=gW (z:=[AV.int .i64 0, .bool false, .int .i64 0, .str [], .nilSlc]) o1 (by decide) rfl
  refine iW q2 ?_
  have V1:=V1.ext e2
  have A4:au h2 false 1 (.ptr hs.sz 0 0 4)=some lv:=V1.get rfl
  refine aA ?_;refine aF A4 ?_;refine aA ?_
  obtain⟨h3,w1,W,w3,o3,w5⟩:=V1.wr o2 (off:=4) (v:= .nilSlc) (show 4<5 by decide) rfl
  skip
  refine lq w1 ?_
  have W:Var h3 hs.sz [.int .i64 kd, .bool b, .int .i64 nn, .str t, .nilSlc]:=W
  have e03:Ext hs h3:=w3.ext (bH e1 e2) ho (Nat.le_refl _)
  have V2:Var h3 h1.sz [AV.int .i64 0, .bool false, .int .i64 0, .str [], .nilSlc]:=w3.var V2 (by omega)
  have s3:h3.sz=hs.sz+2:=by omega
  refine aF (VL.ext e03).len ?_
  suffices H:∀m i g out es,ll.length-i<m→i≤ll.length→Ext hs g→g.Ok→h3.sz≤g.sz→Var g hs.sz [.int .i64 kd, .bool b, .int .i64 nn, .str t,out]→Var g h1.sz [AV.int .i64 0, .bool false, .int .i64 0, .str [], .nilSlc]→Kv h3.sz g out es (ll.take i)→BN (aD E n) n m (.ptr hs.sz 0 0 0) (.ptr h1.sz 0 0 0) lv (.int .i64 (ll.length:Int)) (.int .i64 (i:Int)) g K=true from
   H n 0 h3 .nilSlc [] (by omega) (Nat.zero_le _) e03 o3 (Nat.le_refl _) W V2 (Kv.nil _ _)
  intro m
  induction m with
  |zero=>intro i g out es hm;omega
  |succ m ihm=>
   intro i g out es hm hi e o hg W V2 C
   unfold BN KM
   refine aT ?_
   have hb3:∀j,bL out j→h3.sz≤j:=fun j hj=>kJ C.own hj
   have so:AV.same out out=true:=C.own.view.same
   by_cases hlt:i<ll.length
   ·refine iM (decide_eq_true (by omega)) ?_
    obtain⟨id,gg,j,ee,p1,p2,R'⟩:=(VL.ext e).at (List.getElem?_eq_getElem hlt)
    obtain⟨g1',g2',g3',g4'⟩:=R'.agg
    have hel:ee.length=5:=by rw[←g4'];exact g2'
    have A:au g true 5 (.ptr id gg j 0)=some (.agg ee):=by rw[p2];exact g1'
    have hm2:=jF (List.getElem_mem hlt)
    refine aF (p1 .i64) ?_;refine aF A ?_
    obtain⟨g2,q2',V3,e2',o2',z2'⟩:=gW (z:=[AV.int .i64 0, .bool false, .int .i64 0, .str [], .nilSlc]) o (by decide) rfl
    refine iW q2' ?_
    obtain⟨g3,u1,U,u3,o3',u5⟩:=V3.wrs o2' (n:=5) (v:= .agg ee) g2' rfl g3'
    refine lq u1 ?_
    rw[g4'] at U
    have A2:au g3 true 5 (.ptr g.sz 0 0 0)=some (.agg ee):=U.all hel
    have e3':Ext g g3:=u3.ext e2' o (Nat.le_refl _)
    have B4:∀{g'},Ext g3 g'→au g' false 1 (.ptr hs.sz 0 0 4)=some out:=fun e'=>(W.ext (bH e3' e')).get rfl
    refine aA ?_;refine aF (B4 (Ext.refl _)) ?_;refine aF A2 ?_
    obtain⟨n,rfl⟩:∃j,n=j+1:=⟨n-1,by omega⟩
    refine ih n (RV.ext e3' R') o3' (by omega) (by omega) (by omega) (by omega) fun g4 a' e4 o4 G=> ?_
    have htl:(ll.take i).length=i:=by rw[List.length_take];omega
    obtain⟨w,g5,x1,e5,o5,out',g6,x2,o6,e6,f6,C6⟩:=C.push o ho e (by omega) hg e3' e4 o4 G (by omega)
    refine fQ (B4 e4) so ?_
    refine iW x1 ?_
    refine fQ (B4 (bH e4 e5)) so ?_
    refine iW x2 ?_
    have W6:=f6.var (W.ext (bH e3' (bH e4 e5))) fun q=>by have:=hb3 _ q;omega
    have V6:=f6.var (V2.ext (bH e3' (bH e4 e5))) fun q=>by have:=hb3 _ q;omega
    obtain⟨g7,y1,Y,y3,o7,y5⟩:=W6.wr o6 (off:=4) (v:=out') (show 4<5 by decide) C6.own.view.leaf
    refine aA ?_
    refine lq y1 ?_
    have Y:Var g7 hs.sz [.int .i64 kd, .bool b, .int .i64 nn, .str t,out']:=Y
    refine aF (dV (i:=i) (by omega)) ?_
    have t1:ll.take (i+1)=ll.take i++[ll[i]]:=by rw[List.take_succ_eq_append_getElem hlt]
    have s1:=e3'.1;have s2:=e4.1;have s5:=e5.1;have s6:=f6.sz
    refine ihm (i+1) g7 out' (es++[a']) (by omega) (by omega) (y3.ext e6 ho (Nat.le_refl _)) o7 (by omega) Y (y3.var V6 (by omega)) ?_
    rw[t1]
    exact C6.fr (Fr.of_but (X:=fun j=>j=hs.sz) rfl y3) fun j hj=>by omega
   ·refine iF (decide_eq_false (by omega)) ?_
    rw[List.take_of_length_le (by omega)] at C
    unfold KF
    have G:=C.gv o hg
    have lf:=C.own.view.leaf
    have A:au g true 5 (.ptr hs.sz 0 0 0)=some (.agg [.int .i64 kd, .bool b, .int .i64 nn, .str t,out]):=W.all rfl
    refine aF A ?_
    obtain⟨g5,x1,X,x3,o5,x5⟩:=V2.wrs o (n:=5) (v:= .agg [.int .i64 kd, .bool b, .int .i64 nn, .str t,out]) rfl rfl (by simp only[AV.cells,aV,lf];rfl)
    refine lq x1 ?_
    have X:Var g5 h1.sz [.int .i64 kd, .bool b, .int .i64 nn, .str t,out]:=X
    refine res1 (X.all rfl) ?_
    have kq:Kp h3.sz g.sz g g5:=Kp.of_but x3 (by omega)
    obtain⟨q,OW⟩:=G.ow
    refine kk g5 _ (x3.ext e ho (by omega)) o5 ⟨fun h' kp=>RV.of (G.rd h' (kq.trans (kp.sub (by omega) (by omega)))) rr,q,out,rfl,lf,(OW.kp kq).wide (by omega) (by omega)⟩
theorem ac8 {n:Nat} {hs:aj} {v:AV} {l:List Val} {K:aC} (V:VV hs v l) (ho:hs.Ok) (hn:fU l+4≤n) (hB:fU l<1000000000) (hL:n<lim)
 (kk:∀h2 v',Ext hs h2→h2.Ok→v'.leaf=true→AV.same v' v'=true→Gv l h2 hs.sz h2.sz v'→K v' h2=true):aD E (n+1) (.func 70) [v] hs K=true:=by
 have hlm:lim=4611686018427387904:=rfl
 have hlen:=iE l
 apply d70
 unfold s70
 refine aF V.len ?_
 suffices H:∀m i h out es,l.length-i<m→i≤l.length→Ext hs h→h.Ok→Kv hs.sz h out es (l.take i)→IQ (aD E n) n m out v (.int .i64 (l.length:Int)) (.int .i64 (i:Int)) h K=true from
  H n 0 hs .nilSlc [] (by omega) (Nat.zero_le _) (Ext.refl _) ho (Kv.nil _ _)
 intro m
 induction m with
 |zero=>intro i h out es hm;omega
 |succ m ihm=>
  intro i h out es hm hi e o C
  unfold IQ SE
  refine aT ?_
  by_cases hlt:i<l.length
  ·refine iM (decide_eq_true (by omega)) ?_
   obtain⟨id,g,j,ee,p1,p2,R⟩:=(V.ext e).at (List.getElem?_eq_getElem hlt)
   obtain⟨g1,g2,g3,g4⟩:=R.agg
   have hel:ee.length=5:=by rw[←g4];exact g2
   have A:au h true 5 (.ptr id g j 0)=some (.agg ee):=by rw[p2];exact g1
   have hm2:=jF (List.getElem_mem hlt)
   refine aF (p1 .i64) ?_;refine aF A ?_
   obtain⟨h2,q2,V2,e2,o2,z2⟩:=gW (z:=[AV.int .i64 0, .bool false, .int .i64 0, .str [], .nilSlc]) o (by decide) rfl
   refine iW q2 ?_
   obtain⟨h3,w1,W,w3,o3,w5⟩:=V2.wrs o2 (n:=5) (v:= .agg ee) g2 rfl g3
   refine lq w1 ?_
   rw[g4] at W
   have A2:au h3 true 5 (.ptr h.sz 0 0 0)=some (.agg ee):=W.all hel
   have e3:Ext h h3:=w3.ext e2 o (Nat.le_refl _)
   refine aF A2 ?_
   obtain⟨n,rfl⟩:∃j,n=j+1:=⟨n-1,by omega⟩
   refine Zf (fU l) n (R.ext e3) o3 (by omega) (by omega) (by omega) (by omega) fun h4 a' e4 o4 G=> ?_
   have htl:(l.take i).length=i:=by rw[List.length_take];omega
   obtain⟨w,g5,x1,e5,o5,out',g6,x2,o6,e6,f6,C6⟩:=C.push o ho e (Nat.le_refl _) e.1 e3 e4 o4 G (by omega)
   refine iW x1 ?_
   refine iW x2 ?_
   refine aF (dV (i:=i) (by omega)) ?_
   have t1:l.take (i+1)=l.take i++[l[i]]:=by rw[List.take_succ_eq_append_getElem hlt]
   refine ihm (i+1) g6 out' (es++[a']) (by omega) (by omega) e6 o6 ?_
   rw[t1];exact C6
  ·refine iF (decide_eq_false (by omega)) ?_
   rw[List.take_of_length_le (by omega)] at C
   have V':=(C.own.view)
   exact kk h out e o V'.leaf V'.same (C.gv o e.1)
theorem _root_.Go.Ab.RV.len5 {h:aj} {a:List AV} {x:Val} (R:RV h a x):a.length=5:=by
 obtain⟨g1,g2,g3,g4⟩:=R.agg;rw[←g4];exact g2
theorem Xw {z1 z2 a b:AV} (h1:a.leaf=true) (h2:b.leaf=true):eP [z1,z2] [(0,1,a),(1,1,b)]=some (.agg [a,b]):=by
 have c1:=jV h1
 have c2:=jV h2
 simp only[eP,wP,c1,c2,List.length_cons,List.length_nil,aV,h1,h2,lay]
 rfl
def Y2 (x:Int) (i:Nat):Nat:=(x.fdiv (2 ^ (8*i))%256).toNat
def rX (x:Int):Nat→List Nat
 |0=>[]
 |w+1=>Y2 x w :: rX x w
theorem Xt (x:Int) (i:Nat):Y2 x i<256:=by unfold Y2;omega
theorem kW (x:Int):∀w,(rX x w).length=w
 |0=>rfl
 |w+1=>by simp[rX,kW x w]
theorem zR (x:Int):∀w,∀b∈rX x w,b<256
 |0,b,h=>by cases h
 |w+1,b,h=>by
  rcases List.mem_cons.1 h with h |h
  ·rw[h];exact Xt x w
  ·exact zR x w b h
theorem aad (y:Int):gV .u8 y=y%256:=by
 rw[mM];simp[IntKind.wrap,IntKind.bits,IntKind.signed]
theorem Vl (k:IntKind) (y:Int):lW .u8 (.int k y)=some (.int .u8 ((y%256).toNat:Int)):=by
 show some (AV.int .u8 (gV .u8 y))=_
 rw[aad];congr 2;omega
theorem adN (i:Nat) (h:i<100):aR .mul (.int .i64 8) (.int .i64 (i:Int))=some (.int .i64 ((8*i:Nat):Int)):=by
 rw[SV,wrap64 (by omega) (by omega)];congr 2
theorem adX {k:IntKind} (hk:k.bits=64) (x:Int) (i:Nat) (h:i<8):aR .shr (.int k x) (.int .i64 ((8*i:Nat):Int))=some (.int k (x.fdiv (2 ^ (8*i)))):=by
 simp only[aR,oC,cond_true,wz]
 have:tF ((8*i:Nat):Int) 0=false:=rfl
 rw[this,cond_false]
 simp only[hk]
 have:min (((8*i:Nat):Int).toNat) 64=8*i:=by omega
 rw[this]
structure App (b:Nat) (h0 h h':aj) (v v':AV) (acc new:List Nat):Prop where
 own:Own b h' 1 v' (lN (acc++new))
 ok:h'.Ok
 ext:Ext h0 h'
 fr:Fr (bL v) h h'
 rows:∀j,bL v' j→bL v j∨h.sz≤j
section
variable {b:Nat} {h0 h h1 h2 h3:aj} {v v' v'':AV} {acc new new':List Nat}
theorem App.refl (O:Own b h 1 v (lN acc)) (o:h.Ok) (e:Ext h0 h):App b h0 h h v v acc []:=⟨by rw[List.append_nil];exact O,o,e,Fr.refl _ _,fun j i=> .inl i⟩
theorem App.trans (o:h.Ok) (p:App b h0 h h1 v v' acc new) (q:App b h0 h1 h2 v' v'' (acc++new) new'):App b h0 h h2 v v'' acc (new++new'):=
 ⟨by rw[←List.append_assoc];exact q.own,q.ok,q.ext,Qz o p.fr q.fr fun j i=>p.rows j i,fun j i=>by
   have:=p.fr.sz
   rcases q.rows j i with i |i
   ·exact p.rows j i
   ·exact .inr (by omega)⟩
theorem App.ahead (e:Ext h h1) (p:App b h0 h1 h2 v v' acc new):App b h0 h h2 v v' acc new:=
 ⟨p.own,p.ok,p.ext,(Fr.of_ext e).trans p.fr,fun j i=>by have:=e.1;rcases p.rows j i with i |i;exact .inl i;exact .inr (by omega)⟩
theorem Zh (O:Own b h 1 v (lN acc)) (hb:b≤h.sz) (o:h.Ok) (k0:h0.Ok) (e0:Ext h0 h) (hb0:h0.sz≤b) {x:AV} (hs:source h 1 x=some (lN new)) (h2:acc.length+new.length≤most):
 ∃v' h',cK h 1 1 v x=some (v',h')∧App b h0 h h' v v' acc new:=by
 have e1:(lN acc).length=acc.length:=by simp[lN]
 have e2:(lN new).length=new.length:=by simp[lN]
 obtain⟨v',h',a1,a2,a3,a4,a5,a6,a7⟩:=O.app (bytes:=1) (by decide) hb o k0 e0 hb0 hs (by omega) (by omega)
 refine⟨v',h',a1,⟨?_,a3,a4,⟨a5,fun j o' nj g=>a6 j o' g fun id g' s l c ex e q=>nj ⟨g',s,l,c,ex,by rw[e,q]⟩⟩,fun j i=> ?_⟩⟩
 ·have:lN (acc++new)=lN acc++lN new:=by simp[lN]
  rw[this];exact a2
 ·rcases zP a1 i with q |q
  ·exact .inl q
  ·exact .inr (by omega)
theorem QY {e:Nat} (O:Own b h 1 v (lN acc)) (hb:b≤h.sz) (o:h.Ok) (k0:h0.Ok) (e0:Ext h0 h) (hb0:h0.sz≤b) {x:AV} (hs:source h 1 x=some (lN new)) (h2:acc.length+new.length≤most):
 ∃v' h',zJ h e v x=some (v',h')∧App b h0 h h' v v' acc new:=by
 have e1:(lN acc).length=acc.length:=by simp[lN]
 have e2:(lN new).length=new.length:=by simp[lN]
 obtain⟨v',h',a1,a2,a3,a4,a5,a6,a7,_⟩:=O.appb (e:=e) hb o k0 e0 hb0 hs (by omega)
 refine⟨v',h',a1,⟨?_,a3,a4,⟨a5,fun j o' nj g=>a6 j o' g fun id g' s l c ex e q=>nj ⟨g',s,l,c,ex,by rw[e,q]⟩⟩,fun j i=> ?_⟩⟩
 ·have:lN (acc++new)=lN acc++lN new:=by simp[lN]
  rw[this];exact a2
 ·rcases zP a1 i with q |q
  ·exact .inl q
  ·exact .inr (by omega)
theorem LJ {e:Nat} {K:aC} {c:Nat} (O:Own b h 1 v (lN acc)) (hb:b≤h.sz) (o:h.Ok) (k0:h0.Ok) (e0:Ext h0 h) (hb0:h0.sz≤b) (hl:acc.length<1000000000000)
 (kk:∀h' v',App b h0 h h' v v' acc [c]→K v' h'=true):
 (bP (dX h 1 1 [.int .u8 0] [(0, .int .u8 (c:Int))]) fun v5 h=>bP (zJ h e v v5) fun v6 h=>K v6 h)=true:=by
 have hmo:most=1099511627776:=rfl
 obtain⟨w,h1,q1,V,e1,o1,z1,_⟩:=iL (sz:=1) (z:=[AV.int .u8 0]) (v:= .int .u8 (c:Int)) o rfl (by decide) (by decide) rfl rfl rfl
 refine iW q1 ?_
 obtain⟨v',h',a1,A⟩:=QY (e:=e) (new:=[c]) (O.ext e1) (by have:=e1.1;omega) o1 k0 (bH e0 e1) hb0 V.src (by simp;omega)
 refine iW a1 ?_
 exact kk h' v' (A.ahead e1)
end
section
variable {b:Nat} {h0 h:aj} {v:AV} {acc:List Nat} {K:aC} {n:Nat} {k:IntKind}
theorem v89 {x:Int} {w:Nat} (hk:k.bits=64) (hw:w≤8) (O:Own b h 1 v (lN acc)) (hb:b≤h.sz) (o:h.Ok) (k0:h0.Ok) (e0:Ext h0 h) (hb0:h0.sz≤b) (hl:acc.length<900000000000) (hn:9≤n)
 (kk:∀h' v',App b h0 h h' v v' acc (rX x w)→K v' h'=true):aD E (n+1) (.func 110) [v, .int k x, .int .i64 (w:Int)] h K=true:=by
 apply acv
 unfold YE
 refine aF (JA (a:=(w:Int)) (b:=1) (by omega) (by omega)) ?_
 suffices H:∀w' m h1 v1 done,w'<m→w'≤8→App b h0 h h1 v v1 acc done→done.length≤8→done++rX x w'=rX x w→yD (aD E n) n m v1 (.int k x) (.int .i64 ((w':Int)-1)) h1 K=true from
  H w n h v [] (by omega) hw (App.refl O o e0) (by simp) rfl
 intro w'
 induction w' with
 |zero=>
  intro m h1 v1 done hm _ A hd he
  obtain⟨m,rfl⟩:∃j,m=j+1:=⟨m-1,by omega⟩
  unfold yD FQ
  refine bg ?_
  refine iF (by decide) ?_
  rw[show rX x 0=[] from rfl,List.append_nil] at he
  exact kk h1 v1 (he▸A)
 |succ w' ih=>
  intro m h1 v1 done hm hw8 A hd he
  obtain⟨m,rfl⟩:∃j,m=j+1:=⟨m-1,by omega⟩
  unfold yD FQ
  have e1:(((w'+1:Nat):Int)-1)=(w':Int):=by omega
  rw[e1]
  refine bg ?_
  refine iM (decide_eq_true (by omega)) ?_
  refine aF (adN w' (by omega)) ?_;refine aF (adX hk x w' (by omega)) ?_;refine aF (Vl k (x.fdiv (2 ^ (8*w')))) ?_
  have hb1:b≤h1.sz:=by have:=A.fr.sz;omega
  refine LJ (c:=Y2 x w') A.own hb1 A.ok k0 A.ext hb0 (by simp;omega) fun h2 v2 A2=> ?_
  refine aF (JA (a:=(w':Int)) (b:=1) (by omega) (by omega)) ?_
  have hle:=congrArg List.length he
  rw[List.length_append,kW,kW] at hle
  refine ih m h2 v2 (done++[Y2 x w']) (by omega) (by omega) (A.trans o A2) (by simp;omega) ?_
  rw[List.append_assoc];exact he
end
mutual
def qj:Val→List Nat
 | .mk k b n t l=>(k%256).toNat :: (if k=1 then [if b then 1 else 0] else if k=2∨k=5 then rX (gV .u64 n) 8 else if k=3 then rX (gV .u64 (t.length:Int)) 4++t else if k=4 then rX (gV .u64 (l.length:Int)) 4++jv l else [])
def jv:List Val→List Nat
 | []=>[]
 |v :: l=>qj v++jv l
end
theorem DU (l m:List Val):jv (l++m)=jv l++jv m:=by
 induction l with
 |nil=>rfl
 |cons x t ih=>simp only[List.cons_append,jv,ih,List.append_assoc]
theorem Ec (x:Val):jv [x]=qj x:=by simp[jv]
mutual
theorem Az:∀(x:Val),(qj x).length≤13*jg x
 | .mk k b n t l=>by
   have h1:=kW (gV .u64 n) 8
   have h2:=kW (gV .u64 (t.length:Int)) 4
   have h3:=kW (gV .u64 (l.length:Int)) 4
   have h4:=uR l
   simp only[qj,jg,List.length_cons]
   split
   ·simp;omega
   ·split
    ·omega
    ·split
     ·rw[List.length_append];omega
     ·split
      ·rw[List.length_append];omega
      ·simp;omega
theorem uR:∀(l:List Val),(jv l).length≤13*fU l
 | []=>by simp[jv]
 |x :: l=>by
  have h1:=Az x
  have h2:=uR l
  simp only[jv,fU,List.length_append];omega
end
theorem J8 (n:Int):lW .u64 (.int .i64 n)=some (.int .u64 (gV .u64 n)):=rfl
theorem TU {h:aj} (s:Str):source h 1 (.str s)=some (lN s):=rfl
theorem xZ {h:aj} {K:aC} {n:Nat} {b:Bool} (k:K (.int .i64 (if b then 1 else 0)) h=true):aD E (n+1) (.func 109) [.bool b] h K=true:=by
 apply acK
 unfold VP
 cases b
 ·exact bO k
 ·exact bN k
section
variable {b:Nat} {h0 h:aj} {v:AV} {acc:List Nat} {K:aC}
theorem App.box {h1:aj} {c:List AV} {id:Nat} {v':AV} {new:List Nat} (A:App b h0 h h1 v v' acc new) (V:Var h id c) (hv:∀j,bL v j→j≠id):Var h1 id c:=A.fr.var V fun q=>hv _ q rfl
theorem v68:∀(k n:Nat) {b:Nat} {h0 h:aj} {v:AV} {acc:List Nat} {a:List AV} {x:Val} {K:aC},RV h0 a x→Own b h 1 v (lN acc)→b≤h.sz→h.Ok→h0.Ok→Ext h0 h→h0.sz≤b→jg x≤k→acc.length+13*jg x<800000000000→k+12≤n→n<lim-5→
 (∀h' v',App b h0 h h' v v' acc (qj x)→K v' h'=true)→aD E (n+1) (.func 95) [v, .agg a] h K=true:=by
 intro k
 induction k with
 |zero=>
  intro n b h0 h v acc a x K R O hb o k0 e0 hb0 hk
  cases x;simp only[jg] at hk;omega
 |succ k ih=>
  intro n b h0 h v acc a x K R O hb o k0 e0 hb0 hk hl hn hL kk
  have hlm:lim=4611686018427387904:=rfl
  have hmo:most=1099511627776:=rfl
  obtain⟨g1,g2,g3,g4⟩:=R.agg
  obtain⟨kd,bb,nn,t,l⟩:=x
  obtain⟨lv,rfl,VL,rr⟩:=R.cells
  have hlen:=iE l
  have hel:=Az (.mk kd bb nn t l)
  simp only[jg] at hk hel hl
  apply d95
  unfold s95
  obtain⟨h1,q1,V1,e1,o1,z1⟩:=kZ (n:=5) o g2 (by decide) g3
  rw[g4] at V1
  refine iW q1 ?_
  have A0:au h1 false 1 (.ptr h.sz 0 0 0)=some (.int .i64 kd):=V1.get rfl
  refine aA ?_;refine aF A0 ?_;refine aF (Vl .i64 kd) ?_
  have hv1:∀j,bL v j→j≠h.sz:=fun j hj=>by have:=jW (iV O) o hj;omega
  refine LJ (e:=5) (O.ext e1) (by omega) o1 k0 (bH e0 e1) hb0 (by omega) fun h2 v2 A2=> ?_
  have V2:=A2.box V1 hv1
  have A2h:=A2.ahead e1
  have hb2:b≤h2.sz:=by have:=A2.fr.sz;omega
  have hv2:∀j,bL v2 j→j≠h.sz:=fun j hj=>by
   rcases A2.rows j hj with q |q
   ·exact hv1 j q
   ·omega
  have al:(acc++[(kd%256).toNat]).length=acc.length+1:=by simp
  have B0:au h2 false 1 (.ptr h.sz 0 0 0)=some (.int .i64 kd):=V2.get rfl
  refine aA ?_;refine aF B0 ?_;refine aX ?_
  have fin:∀new,qj (.mk kd bb nn t l)=(kd%256).toNat :: new→∀h' v',App b h0 h2 h' v2 v' (acc++[(kd%256).toNat]) new→K v' h'=true:=fun new he h' v' A'=>by
   refine kk h' v' ?_
   rw[he]
   exact A2h.trans o A'
  by_cases k1:kd=1
  ·refine iM (decide_eq_true k1) ?_
   have B1:au h2 false 1 (.ptr h.sz 0 0 1)=some (.bool bb):=V2.get rfl
   refine aA ?_;refine aF B1 ?_
   obtain⟨n,rfl⟩:∃j,n=j+1:=⟨n-1,by omega⟩
   refine xZ ?_
   have hc:lW .u8 (.int .i64 (if bb then 1 else 0))=some (.int .u8 ((if bb then 1 else 0:Nat):Int)):=by cases bb<;>rfl
   refine aF hc ?_
   refine LJ (e:=5) A2.own hb2 A2.ok k0 A2.ext hb0 (by rw[al];omega) fun h3 v3 A3=> ?_
   exact fin _ (by simp only[qj,if_pos k1]) h3 v3 A3
  ·refine iF (decide_eq_false k1) ?_
   have p18:∀c:Bool,c=decide (kd=2∨kd=5)→Av (aD E n) n v2 (.ptr h.sz 0 0 0) (.int .i64 kd) (.bool c) h2 K=true:=by
    intro c hc
    unfold Av
    by_cases k25:kd=2∨kd=5
    ·rw[hc,decide_eq_true k25]
     refine bN ?_
     have B2:au h2 false 1 (.ptr h.sz 0 0 2)=some (.int .i64 nn):=V2.get rfl
     refine aA ?_;refine aF B2 ?_;refine aF (J8 nn) ?_
     obtain⟨n,rfl⟩:∃j,n=j+1:=⟨n-1,by omega⟩
     refine v89 (k:= .u64) (w:=8) rfl (by omega) A2.own hb2 A2.ok k0 A2.ext hb0 (by rw[al];omega) (by omega) fun h3 v3 A3=> ?_
     exact fin _ (by simp only[qj,if_neg k1,if_pos k25]) h3 v3 A3
    ·rw[hc,decide_eq_false k25]
     refine bO ?_
     refine aX ?_
     by_cases k3:kd=3
     ·refine iM (decide_eq_true k3) ?_
      have B3:∀{g},Var g h.sz [.int .i64 kd, .bool bb, .int .i64 nn, .str t,lv]→au g false 1 (.ptr h.sz 0 0 3)=some (.str t):=fun V=>V.get rfl
      refine aA ?_;refine aF (B3 V2) ?_;refine aO ?_;refine aF (J8 (t.length:Int)) ?_;refine aA ?_;refine aF (B3 V2) ?_
      obtain⟨n,rfl⟩:∃j,n=j+1:=⟨n-1,by omega⟩
      refine v89 (k:= .u64) (w:=4) rfl (by omega) A2.own hb2 A2.ok k0 A2.ext hb0 (by rw[al];omega) (by omega) fun h3 v3 A3=> ?_
      have V3:=A3.box V2 hv2
      refine fQ (B3 V3) (sZ _) ?_
      have b4:=kW (gV .u64 (t.length:Int)) 4
      obtain⟨v4,h4,a1,A4⟩:=Zh (new:=t) A3.own (by have:=A3.fr.sz;omega) A3.ok k0 A3.ext hb0 (TU t) (by rw[List.length_append,al,b4];omega)
      refine iW a1 ?_
      exact fin _ (by simp only[qj,if_neg k1,if_neg k25,if_pos k3]) h4 v4 (A3.trans A2.ok A4)
     ·refine iF (decide_eq_false k3) ?_
      refine aX ?_
      by_cases k4:kd=4
      ·refine iM (decide_eq_true k4) ?_
       have B4:∀{g},Var g h.sz [.int .i64 kd, .bool bb, .int .i64 nn, .str t,lv]→au g false 1 (.ptr h.sz 0 0 4)=some lv:=fun V=>V.get rfl
       refine aA ?_;refine aF (B4 V2) ?_;refine aF (VL.ext A2.ext).len ?_;refine aF (J8 (l.length:Int)) ?_
       obtain⟨n,rfl⟩:∃j,n=j+1:=⟨n-1,by omega⟩
       refine v89 (k:= .u64) (w:=4) rfl (by omega) A2.own hb2 A2.ok k0 A2.ext hb0 (by rw[al];omega) (by omega) fun h3 v3 A3=> ?_
       have V3:=A3.box V2 hv2
       refine aA ?_;refine aF (B4 V3) ?_;refine aF (VL.ext A3.ext).len ?_
       have b4:=kW (gV .u64 (l.length:Int)) 4
       suffices H:∀m i g w done,l.length-i<m→i≤l.length→App b h0 h3 g v3 w (acc++[(kd%256).toNat]++rX (gV .u64 (l.length:Int)) 4) done→done=jv (l.take i)→AP (aD E (n+1)) (n+1) m w lv (.int .i64 (l.length:Int)) (.int .i64 (i:Int)) g K=true from
        H (n+1) 0 h3 v3 [] (by omega) (Nat.zero_le _) (App.refl A3.own A3.ok A3.ext) rfl
       intro m
       induction m with
       |zero=>intro i g w done hm;omega
       |succ m ihm=>
        intro i g w done hm hi A hd
        unfold AP Lx
        refine aT ?_
        by_cases hlt:i<l.length
        ·refine iM (decide_eq_true (by omega)) ?_
         obtain⟨id,gg,j,ee,p1,p2,R2⟩:=VL.at (List.getElem?_eq_getElem hlt)
         obtain⟨id,gg,j,ee',p1,p2,R2'⟩:=(VL.ext A.ext).at (List.getElem?_eq_getElem hlt)
         obtain⟨f1,f2,f3,f4⟩:=R2'.agg
         have B5:au g true 5 (.ptr id gg j 0)=some (.agg ee'):=by rw[p2];exact f1
         refine aF (p1 .i64) ?_;refine aF B5 ?_
         obtain⟨g2,x2,W2,y2,oo2,zz2⟩:=gW (z:=[AV.int .i64 0, .bool false, .int .i64 0, .str [], .nilSlc]) A.ok (by decide) rfl
         refine iW x2 ?_
         obtain⟨g3',w1,W,w3,o3,w5⟩:=W2.wrs oo2 (n:=5) (v:= .agg ee') f2 rfl f3
         refine lq w1 ?_
         rw[f4] at W
         have ye:Ext g g3':=w3.ext y2 A.ok (Nat.le_refl _)
         have B6:au g3' true 5 (.ptr g.sz 0 0 0)=some (.agg ee'):=W.all (RV.len5 R2')
         refine aF B6 ?_
         have hm2:=jF (List.getElem_mem hlt)
         have R0:RV h0 ee' l[i]:=by
          obtain⟨es,v1,v2⟩:=VL
          obtain⟨e0',he0,hr0⟩:=v2.get (List.getElem?_eq_getElem hlt)
          obtain⟨id',g',j',u⟩:=v1.atE he0
          have u1:=(u g A.ext).1 .i64
          have u2:=(u g A.ext).2 true 0 5
          rw[p1 .i64] at u1
          injection u1 with u1
          rw[←u1] at u2
          rw[B5] at u2
          have:iH true 0 5 e0'=some (.agg e0'):=(hr0.agg).1
          rw[this] at u2
          injection u2 with u2
          injection u2 with u2
          rw[u2];exact hr0
         have hdl:done.length≤13*fU l:=by
          rw[hd]
          refine Nat.le_trans (uR _) (Nat.mul_le_mul_left 13 ?_)
          rw[lC,lC];exact xQ l i
         have hdl2:done.length+13*jg l[i]≤13*fU l:=by
          have h5:jv (l.take (i+1))=jv (l.take i)++qj l[i]:=by rw[List.take_succ_eq_append_getElem hlt,DU,Ec]
          have:fU (l.take i)+jg l[i]≤fU l:=by
           have h6:fU (l.take (i+1))≤fU l:=by rw[lC,lC];exact xQ l (i+1)
           have h7:fU (l.take (i+1))=fU (l.take i)+jg l[i]:=by
            rw[List.take_succ_eq_append_getElem hlt]
            have:∀(p q:List Val),fU (p++q)=fU p+fU q:=by
             intro p q
             induction p with
             |nil=>simp[fU]
             |cons y t ih=>simp only[List.cons_append,fU,ih];omega
            rw[this];simp[fU]
           omega
          have h8:=uR (l.take i)
          rw[hd];omega
         refine ih n R0 (A.own.ext ye) (by have:=A.fr.sz;have:=A3.fr.sz;have:=ye.1;omega) o3 k0 (bH A.ext ye) hb0 (by omega) (by rw[List.length_append,List.length_append,al,b4];omega) (by omega) (by omega) fun g4 w4 A4=> ?_
         refine aF (dV (i:=i) (by omega)) ?_
         refine ihm (i+1) g4 w4 (done++qj l[i]) (by omega) (by omega) (A.trans A3.ok (A4.ahead ye)) ?_
         rw[hd,List.take_succ_eq_append_getElem hlt,DU,Ec]
        ·refine iF (decide_eq_false (by omega)) ?_
         rw[List.take_of_length_le (by omega)] at hd
         refine fin (rX (gV .u64 (l.length:Int)) 4++jv l) (by simp only[qj,if_neg k1,if_neg k25,if_neg k3,if_pos k4]) g w ?_
         rw[←hd]
         exact A3.trans A2.ok A
      ·refine iF (decide_eq_false k4) ?_
       exact fin [] (by simp only[qj,if_neg k1,if_neg k25,if_neg k3,if_neg k4]) h2 v2 (App.refl A2.own A2.ok A2.ext)
   refine aX ?_
   by_cases k2:kd=2
   ·rw[decide_eq_true k2]
    refine bN (p18 true ?_)
    rw[decide_eq_true (.inl k2)]
   ·rw[decide_eq_false k2]
    refine bO ?_
    refine aX ?_
    refine p18 _ ?_
    congr 1;apply propext
    exact⟨.inr,fun q=>q.elim (fun q=>absurd q k2) id⟩
end
mutual
theorem Nv {h:aj}:∀{x:Val} {a:List AV},RV h a x→∀c∈qj x,c<256
 | .mk k b n t l,a,R,c,hc=>by
   simp only[RV] at R
   obtain⟨lv,es,rfl,_,hr,_,_,ht⟩:=R
   simp only[qj] at hc
   rcases List.mem_cons.1 hc with hc |hc
   ·omega
   ·split at hc
    ·simp only[List.mem_singleton] at hc;cases b<;>simp at hc<;>omega
    ·split at hc
     ·exact zR _ _ c hc
     ·split at hc
      ·rcases List.mem_append.1 hc with hc |hc
       ·exact zR _ _ c hc
       ·exact ht c hc
      ·split at hc
       ·rcases List.mem_append.1 hc with hc |hc
        ·exact zR _ _ c hc
        ·exact Hr hr c hc
       ·cases hc
theorem Hr {h:aj}:∀{l:List Val} {es:List (List AV)},Dh h es l→∀c∈jv l,c<256
 | [],_,_,c,hc=>by simp[jv] at hc
 |x :: l,es,R,c,hc=>by
  simp only[Dh] at R
  obtain⟨e,r,rfl,h1,h2⟩:=R
  simp only[jv] at hc
  rcases List.mem_append.1 hc with hc |hc
  ·exact Nv h1 c hc
  ·exact Hr h2 c hc
end
def PZ (x:Val):List Nat:=if pE 30 x=true then qj x else []
def nV (l:List Val):List Nat:=(l.map PZ).flatten
theorem Q6 {l:List Val} {i:Nat} (h:i<l.length):nV (l.take (i+1))=nV (l.take i)++PZ l[i]:=by
 unfold nV
 rw[List.take_succ_eq_append_getElem h,List.map_append,List.flatten_append];simp
theorem Oc (x:Val):(PZ x).length≤13*jg x:=by
 unfold PZ
 split
 ·exact Az x
 ·simp
theorem MZ:∀(l:List Val),(nV l).length≤13*fU l
 | []=>by simp[nV]
 |x :: l=>by
  have h1:=Oc x
  have h2:=MZ l
  have:nV (x :: l)=PZ x++nV l:=by simp[nV]
  rw[this,List.length_append];simp only[fU];omega
theorem Fp (l:List Val) (i:Nat):(nV (l.take i)).length≤13*fU l:=Nat.le_trans (MZ _) (Nat.mul_le_mul_left 13 (by rw[lC,lC];exact xQ l i))
theorem _root_.Go.Ab.VV.lt {h:aj} {v:AV} {l:List Val} (V:VV h v l):∀x∈l,∀c∈PZ x,c<256:=by
 intro x hx c hc
 obtain⟨i,hi,rfl⟩:=List.mem_iff_getElem.1 hx
 obtain⟨id,g,j,e,_,_,R⟩:=V.at (List.getElem?_eq_getElem hi)
 unfold PZ at hc
 split at hc
 ·exact Nv R c hc
 ·cases hc
theorem _root_.Go.Ab.VV.lts {h:aj} {v:AV} {l:List Val} (V:VV h v l):∀c∈nV l,c<256:=by
 intro c hc
 obtain⟨s,hs,hc⟩:=List.mem_flatten.1 hc
 obtain⟨x,hx,rfl⟩:=List.mem_map.1 hs
 exact V.lt x hx c hc
theorem UH {b:Nat} {h:aj} {v:AV} {s:Str} (O:Own b h 1 v (lN s)) (hb:∀c∈s,c<256):K8 h v=some (.str s):=by
 have hs:=O.view.src
 rcases O with⟨rfl,he⟩|⟨i,r,q1,rfl,_⟩
 ·cases s with
  |nil=>rfl
  |cons b s=>simp[lN] at he
 ·simp only[K8,hs,zi s hb]
section
variable {h:aj} {K:aC} {n:Nat}
theorem v59 {a:List AV} {x:Val} (R:RV h a x) (ho:h.Ok) (hB:jg x<10000000000) (hn:jg x+42≤n) (hL:n<lim-9) (kk:∀h' e er,Ext h h'→h'.Ok→View h' 1 e (lN (PZ x))→K (.tup [e,er]) h'=true):aD E (n+3) (.func 86) [.agg a] h K=true:=by
 obtain⟨g1,g2,g3,g4⟩:=R.agg
 apply d86
 unfold s86
 obtain⟨h1,q1,V1,e1,o1,z1⟩:=kZ (n:=5) ho g2 (by decide) g3
 rw[g4] at V1
 refine iW q1 ?_
 have A:∀{g},Ext h1 g→au g true 5 (.ptr h.sz 0 0 0)=some (.agg a):=fun e=>(V1.ext e).all (RV.len5 R)
 refine aF (A (Ext.refl _)) ?_
 refine u41 (n:=n) (R.ext e1) o1 (by omega) (by omega) fun h2 e2 o2=> ?_
 unfold PZ at kk
 cases hc:pE 30 x with
 |false=>
  rw[hc] at kk
  refine aM ?_;refine bN ?_
  exact kk h2 .nilSlc _ (bH e1 e2) o2 (View.nil _ _)
 |true=>
  rw[hc] at kk
  refine aL ?_;refine bO ?_
  refine aF (A e2) ?_
  refine v68 (jg x) (n+1) (b:=h2.sz) (h0:=h2) (acc:=[]) ((R.ext e1).ext e2) (Own.nil _ _ _) (Nat.le_refl _) o2 o2 (Ext.refl _) (Nat.le_refl _) (Nat.le_refl _) (by simp;omega) (by omega) (by omega) fun h3 v3 A3=> ?_
  exact kk h3 v3 _ (bH (bH e1 e2) A3.ext) A3.ok A3.own.view
theorem WB {cls:Str} {v:AV} {l:List Val} (V:VV h v l) (ho:h.Ok) (hB:fU l<10000000000) (hn:fU l+42≤n) (hL:n<lim-9) (kk:∀h',Ext h h'→h'.Ok→K (.agg [.str cls, .str (nV l)]) h'=true):aD E (n+4) (.func 65) [.str cls,v] h K=true:=by
 have hlm:lim=4611686018427387904:=rfl
 have hmo:most=1099511627776:=rfl
 have hlen:=iE l
 apply d65
 unfold s65
 obtain⟨h2,q2,V2,e02,o2,z2⟩:=gW (z:=[AV.str [],AV.str []]) ho (by decide) rfl
 refine iW q2 ?_
 refine aF (V.ext e02).len ?_
 suffices H:∀m i g w,l.length-i<m→i≤l.length→App h2.sz h2 h2 g .nilSlc w [] (nV (l.take i))→JC (aD E (n+3)) (n+3) m (.str cls) (.ptr h.sz 0 0 0) w v (.int .i64 (l.length:Int)) (.int .i64 (i:Int)) g K=true from
  H (n+3) 0 h2 .nilSlc (by omega) (Nat.zero_le _) (App.refl (Own.nil _ _ _) o2 (Ext.refl _))
 intro m
 induction m with
 |zero=>intro i g w hm;omega
 |succ m ih=>
  intro i g w hm hi A
  unfold JC Tq
  refine aT ?_
  have e0g:=bH e02 A.ext
  by_cases hlt:i<l.length
  ·refine iM (decide_eq_true (by omega)) ?_
   obtain⟨id,gg,j,ee,p1,p2,R⟩:=(V.ext e0g).at (List.getElem?_eq_getElem hlt)
   obtain⟨g1,g2,g3,g4⟩:=R.agg
   have B:au g true 5 (.ptr id gg j 0)=some (.agg ee):=by rw[p2];exact g1
   have hm2:=jF (List.getElem_mem hlt)
   refine aF (p1 .i64) ?_;refine aF B ?_
   obtain⟨g2',x2,W2,y2,oo2,zz2⟩:=gW (z:=[AV.int .i64 0, .bool false, .int .i64 0, .str [], .nilSlc]) A.ok (by decide) rfl
   refine iW x2 ?_
   obtain⟨g3',w1,W,w3,o3,w5⟩:=W2.wrs oo2 (n:=5) (v:= .agg ee) g2 rfl g3
   refine lq w1 ?_
   rw[g4] at W
   have ye:Ext g g3':=w3.ext y2 A.ok (Nat.le_refl _)
   have B6:au g3' true 5 (.ptr g.sz 0 0 0)=some (.agg ee):=W.all (RV.len5 R)
   refine aF B6 ?_
   refine v59 (n:=n) (R.ext ye) o3 (by omega) (by omega) (by omega) fun g4' e er e4 o4 VE=> ?_
   refine aJ ?_;refine aK ?_
   have e34:=bH ye e4
   have hl1:=Fp l i
   have hl2:=Oc l[i]
   obtain⟨w',g5,a1,A5⟩:=QY (e:=5) (new:=PZ l[i]) (A.own.ext e34) (by have:=A.fr.sz;have:=e34.1;omega) o4 o2 (bH A.ext e34) (Nat.le_refl _) VE.src (by simp only[List.nil_append];omega)
   refine iW a1 ?_
   refine aF (dV (i:=i) (by omega)) ?_
   refine ih (i+1) g5 w' (by omega) (by omega) ?_
   rw[Q6 hlt]
   exact A.trans o2 (A5.ahead e34)
  ·refine iF (decide_eq_false (by omega)) ?_
   rw[List.take_of_length_le (by omega)] at A
   unfold Mw
   have AO:=A.own
   rw[List.nil_append] at AO
   refine aF (UH AO V.lts) ?_
   refine aF (Xw rfl rfl) ?_
   obtain⟨g1,w1,W,w3,o3,w5⟩:=(V2.ext A.ext).wrs A.ok (n:=2) (v:= .agg [.str cls, .str (nV l)]) rfl rfl rfl
   refine lq w1 ?_
   have W:Var g1 h.sz [.str cls, .str (nV l)]:=W
   refine res1 (W.all rfl) ?_
   exact kk g1 (w3.ext e0g ho (by omega)) o3
end
def ints (l:List Int):List (List AV):=l.map fun x=>[AV.int .i64 x]
theorem dN (l:List Int):(ints l).length=l.length:=by simp[ints]
theorem qD {l:List Int} {i:Nat} (h:i<l.length):(ints l)[i]? =some [AV.int .i64 l[i]]:=by
 simp only[ints,List.getElem?_map,List.getElem?_eq_getElem h,Option.map_some]
theorem oW (l m:List Int):ints (l++m)=ints l++ints m:=by simp[ints]
def Buf (b:Nat) (h:aj) (v:AV) (l:List Int):Prop:=
 (v= .nilSlc∧l=[])∨∃id r cap,b≤id∧v= .slc id r.g 0 l.length cap false∧h.row id=some r∧r.rw=true∧r.m≤r.g∧r.sz=1∧l.length≤cap∧cap≤r.es.length∧r.es.take l.length=ints l
section
variable {b:Nat} {h h':aj} {v:AV} {l:List Int} {X:Nat→Prop}
theorem Buf.nil (b:Nat) (h:aj):Buf b h .nilSlc []:= .inl ⟨rfl,rfl⟩
theorem Buf.view (B:Buf b h v l):View h 1 v (ints l):=by
 rcases B with⟨rfl,rfl⟩|⟨id,r,cap,w1,rfl,w3,w4,w5,w6,w7,w8,w9⟩
 ·exact View.nil h 1
 ·exact .inr ⟨id,r.g,0,cap,false,r,by rw[dN],w3,w5,w6,by rw[List.drop_zero,dN];exact w9,by rw[dN];exact w7⟩
theorem Buf.fr (B:Buf b h v l) (f:Fr X h h') (d:∀j,bL v j→¬X j):Buf b h' v l:=by
 rcases B with B |⟨id,r,cap,w1,rfl,w3,w⟩
 ·exact .inl B
 ·exact .inr ⟨id,r,cap,w1,rfl,f.row (d id (dh.2 rfl)) w3,w⟩
theorem Buf.ext (B:Buf b h v l) (e:Ext h h'):Buf b h' v l:=B.fr (Fr.of_ext (X:=fun _=>False) e) fun _ _=>id
theorem Buf.lt (B:Buf b h v l) (o:h.Ok) {j:Nat} (i:bL v j):j<h.sz:=by
 rcases B with⟨rfl,_⟩|⟨id,r,cap,w1,rfl,w3,_⟩
 ·exact absurd i eH
 ·rw[←dh.1 i];exact o.lt (aj.row_some.1 w3)
theorem Buf.leaf (B:Buf b h v l):v.leaf=true:=by
 rcases B with⟨rfl,rfl⟩|⟨id,r,cap,w1,rfl,_⟩<;>rfl
end
abbrev N8 (l:List Int):Prop:=l.Pairwise (· < ·)
theorem zO:∀{l m:List Int},N8 l→N8 m→(∀x,x∈l↔x∈m)→l=m
 | [],[],_,_,_=>rfl
 | [],y :: m,_,_,h=>absurd ((h y).2 List.mem_cons_self) (by simp)
 |x :: l,[],_,_,h=>absurd ((h x).1 List.mem_cons_self) (by simp)
 |x :: l,y :: m,sl,sm,h=>by
  obtain⟨s1,s2⟩:=List.pairwise_cons.1 sl
  obtain⟨t1,t2⟩:=List.pairwise_cons.1 sm
  have hxy:x=y:=by
   rcases List.mem_cons.1 ((h x).1 List.mem_cons_self) with e |e
   ·exact e
   ·rcases List.mem_cons.1 ((h y).2 List.mem_cons_self) with e' |e'
    ·exact e'.symm
    ·have:=t1 x e;have:=s1 y e';omega
  subst hxy
  rw[zO s2 t2 fun z=> ?_]
  constructor
  ·intro hz
   rcases List.mem_cons.1 ((h z).1 (List.mem_cons_of_mem _ hz)) with e |e
   ·have:=s1 z hz;omega
   ·exact e
  ·intro hz
   rcases List.mem_cons.1 ((h z).2 (List.mem_cons_of_mem _ hz)) with e |e
   ·have:=t1 z hz;omega
   ·exact e
theorem uK {l:List Int} (s:N8 l) {i j:Nat} (hij:i<j) (hj:j<l.length):l[i]<l[j]:=List.pairwise_iff_getElem.1 s i j (by omega) hj hij
theorem half (s:Nat) (h:s<lim):∃a b c,lW .u64 (.int .i64 (s:Int))=some a∧aR .shr a (.int .u64 1)=some b∧lW .i64 b=some c∧c= .int .i64 ((s/2:Nat):Int):=by
 have hlm:lim=4611686018427387904:=rfl
 refine⟨.int .u64 (s:Int), .int .u64 ((s/2:Nat):Int), .int .i64 ((s/2:Nat):Int), ?_, ?_, ?_,rfl⟩
 ·show some (AV.int .u64 (gV .u64 (s:Int)))=_
  rw[mM];congr 2;simp[IntKind.wrap,IntKind.bits,IntKind.signed];omega
 ·show wz .shr .u64 (s:Int) 1=_
  simp only[wz]
  have:tF (1:Int) 0=false:=rfl
  rw[this,cond_false]
  have:min ((1:Int).toNat) IntKind.u64.bits=1:=rfl
  rw[this]
  congr 2
  rw[Int.fdiv_eq_ediv_of_nonneg _ (by decide)]
  omega
 ·show some (AV.int .i64 (gV .i64 ((s/2:Nat):Int)))=_
  rw[wrap64 (by omega) (by omega)]
section
variable {b:Nat} {h:aj} {v:AV} {l:List Int} {K:aC} {n:Nat} {x:Int}
def small (x:Int):Prop:= -1000000000000000000≤x∧x≤1000000000000000000
theorem aaC {y:Int} (hx:small x) (hy:small y) (kk:K (.int .i64 (x-y)) h=true):aD E (n+1) (.func 64) [.int .i64 x, .int .i64 y] h K=true:=by
 unfold small at hx hy
 apply d64
 unfold s64
 refine aF (JA (a:=x) (b:=y) (by omega) (by omega)) ?_
 exact kk
theorem aas (V:View h 1 v (ints l)) (s:N8 l) (hl:∀y∈l,small y) (hx:small x) (hn:l.length<n) (hL:l.length<1000000000)
 (kk:∀i,i≤l.length→(∀j (hj:j<l.length),j<i→l[j]<x)→(∀j (hj:j<l.length),i≤j→x≤l[j])→K (.tup [.int .i64 (i:Int), .bool (decide (x∈l))]) h=true):
 aD E (n+2) (.func 62) [v, .int .i64 x, .fn (.func 64) [] []] h K=true:=by
 have hlm:lim=4611686018427387904:=rfl
 apply d62
 unfold s62
 have hvl:dw h 1 v=some (.int .i64 (l.length:Int)):=by rw[V.len,dN]
 refine aF hvl ?_
 suffices H:∀m lo hi,hi-lo<m→lo≤hi→hi≤l.length→(∀j (hj:j<l.length),j<lo→l[j]<x)→(∀j (hj:j<l.length),hi≤j→x≤l[j])→IW (aD E (n+1)) (n+1) m v (.int .i64 x) (.fn (.func 64) [] []) (.int .i64 (l.length:Int)) (.int .i64 (lo:Int)) (.int .i64 (hi:Int)) h K=true from
  H (n+1) 0 l.length (by omega) (Nat.zero_le _) (Nat.le_refl _) (fun j _ hj=>by omega) (fun j hj hj2=>by omega)
 intro m
 induction m with
 |zero=>intro lo hi hm;omega
 |succ m ih=>
  intro lo hi hm hlo hhi h1 h2
  unfold IW QF
  refine aT ?_
  by_cases hlt:lo<hi
  ·refine iM (decide_eq_true (by omega)) ?_
   obtain⟨a,b',c,q1,q2,q3,rfl⟩:=half (lo+hi) (by omega)
   refine aF (aaL (a:=lo) (b:=hi) (by omega)) ?_
   refine aF q1 ?_
   refine aF q2 ?_
   refine aF q3 ?_
   generalize hmid:(lo+hi)/2=mid
   have hm1:lo≤mid∧mid<hi:=by omega
   have hml:mid<l.length:=by omega
   obtain⟨id,g,j,p1,p2⟩:=V.at1 (qD hml)
   have A:au h false 1 (.ptr id g j 0)=some (.int .i64 l[mid]):=by rw[p2];rfl
   refine aF (p1 .i64) ?_;refine aF A ?_;refine bR ?_
   refine aaC (hl _ (List.getElem_mem hml)) hx ?_
   refine aT ?_
   by_cases hc:l[mid]<x
   ·refine iM (decide_eq_true (by omega)) ?_
    refine aF (dV (i:=mid) (by omega)) ?_
    refine ih (mid+1) hi (by omega) (by omega) hhi (fun j hj hj2=> ?_) h2
    by_cases e:j=mid
    ·subst e;exact hc
    ·have:=uK s (show j<mid by omega) hml;omega
   ·refine iF (decide_eq_false (by omega)) ?_
    refine ih lo mid (by omega) (by omega) (by omega) h1 fun j hj hj2=> ?_
    by_cases e:j=mid
    ·subst e;omega
    ·have:=uK s (show mid<j by omega) hj;omega
  ·refine iF (decide_eq_false (by omega)) ?_
   have:hi=lo:=by omega
   subst this
   unfold MR
   have hk:=kk hi hhi h1 h2
   by_cases hlt2:hi<l.length
   ·obtain⟨id,g,j,p1,p2⟩:=V.at1 (qD hlt2)
    have A:au h false 1 (.ptr id g j 0)=some (.int .i64 l[hi]):=by rw[p2];rfl
    refine aT ?_
    rw[decide_eq_true (show(hi:Int)<(l.length:Int) by omega)]
    refine aP ?_;refine aI ?_;refine aP ?_;refine aI ?_;refine aP ?_;refine aI ?_;refine aP ?_;refine aF (p1 .i64) ?_;refine aP ?_;refine aF A ?_;refine aP ?_;refine aI ?_;refine bf ?_;refine bR ?_
    refine aaC (hl _ (List.getElem_mem hlt2)) hx ?_
    refine aP ?_;refine aX ?_;refine bQ ?_
    have e:decide (l[hi]-x=0)=decide (x∈l):=by
     by_cases c:l[hi]=x
     ·rw[decide_eq_true (by omega),decide_eq_true (by rw[←c];exact List.getElem_mem hlt2)]
     ·rw[decide_eq_false (by omega),decide_eq_false fun hm=> ?_]
      obtain⟨j,hj,rfl⟩:=List.mem_iff_getElem.1 hm
      by_cases q:j<hi
      ·have:=h1 j hj q;omega
      ·by_cases q2:j=hi
       ·subst q2;exact c rfl
       ·have:=uK s (show hi<j by omega) hj;have:=h2 hi hlt2 (Nat.le_refl _);omega
    rw[e];exact hk
   ·refine aT ?_
    rw[decide_eq_false (show ¬(hi:Int)<(l.length:Int) by omega)]
    refine aG ?_;refine aG ?_;refine aG ?_;refine aG ?_;refine aG ?_;refine aG ?_;refine aW ?_;refine aG ?_;refine bM ?_
    have e:decide (x∈l)=false:=decide_eq_false fun hm=>by
     obtain⟨j,hj,rfl⟩:=List.mem_iff_getElem.1 hm
     have:=h1 j hj (by omega);omega
    rw[e] at hk
    exact hk
end
section
variable {b:Nat} {h:aj} {v:AV} {l:List Int} {K:aC} {n:Nat} {x:Int}
theorem Uj {i:Nat} (s:N8 l) (hi:i≤l.length) (h1:∀j (hj:j<l.length),j<i→l[j]<x) (h2:∀j (hj:j<l.length),i≤j→x≤l[j]) (hx:x ∉ l):
 N8 (l.take i++[x]++l.drop i)∧∀y,y∈l.take i++[x]++l.drop i↔y=x∨y∈l:=by
 have ht:∀y∈l.take i,y<x:=fun y hy=>by
  obtain⟨j,hj,rfl⟩:=List.mem_iff_getElem.1 hy
  rw[List.length_take] at hj
  rw[List.getElem_take]
  exact h1 j (by omega) (by omega)
 have hd:∀y∈l.drop i,x<y:=fun y hy=>by
  obtain⟨j,hj,rfl⟩:=List.mem_iff_getElem.1 hy
  rw[List.length_drop] at hj
  rw[List.getElem_drop]
  have q:=h2 (i+j) (by omega) (by omega)
  by_cases e:x=l[i+j]
  ·exact absurd (e▸List.getElem_mem _) hx
  ·omega
 refine⟨?_,fun y=> ?_⟩
 ·rw[List.append_assoc]
  refine List.pairwise_append.2 ⟨s.sublist (List.take_sublist _ _), ?_,fun a ha c hc=> ?_⟩
  ·exact List.pairwise_cons.2 ⟨hd,s.sublist (List.drop_sublist _ _)⟩
  ·rcases List.mem_cons.1 hc with e |e
   ·rw[e];exact ht a ha
   ·have:=ht a ha;have:=hd c e;omega
 ·rw[List.append_assoc,List.mem_append]
  show y∈l.take i∨y∈x :: l.drop i↔_
  rw[List.mem_cons]
  constructor
  ·rintro(q |q |q)
   ·exact .inr (List.mem_of_mem_take q)
   ·exact .inl q
   ·exact .inr (List.mem_of_mem_drop q)
  ·rintro(q |q)
   ·exact .inr (.inl q)
   ·rw[←List.take_append_drop i l,List.mem_append] at q
    exact q.elim .inl fun q=> .inr (.inr q)
theorem aeT {x:Int} (o:h.Ok):dX h 1 1 [.int .i64 0] [(0, .int .i64 x)]=some (.slc h.sz 0 0 1 1 true,Ab.newRow h [[.int .i64 x]] 1)∧(Ab.newRow h [[.int .i64 x]] 1).row h.sz=some {es:=[[AV.int .i64 x]],sz:=1,g:=0,m:=0,rw:=true}∧Ext h (Ab.newRow h [[.int .i64 x]] 1)∧(Ab.newRow h [[.int .i64 x]] 1).Ok:=by
 refine⟨rfl, ?_,bU o _ _,cZ o _ _⟩
 rw[aj.row_some];simp only[Ab.newRow,aj.get_push,if_pos]
theorem adT {i a:Nat} {h1:aj} (B:Buf b h1 v l) (o:h1.Ok) (hb:b≤h1.sz) (hi:i≤l.length) (hl:l.length<1000000000) (hr:h1.row a=some {es:=[[AV.int .i64 x]],sz:=1,g:=0,m:=0,rw:=true}) (hne:∀j,bL v j→j≠a)
 (kk:∀h' v',Buf b h' v' (l.take i++[x]++l.drop i)→Fr (bL v) h1 h'→h'.Ok→(∀j,bL v' j→bL v j∨h1.sz≤j)→K v' h'=true):
 aD E (n+1) (.func 63) [v, .int .i64 (i:Int), .slc a 0 0 1 1 true] h1 K=true:=by
 show zL (aD E n) n [v, .int .i64 (i:Int), .slc a 0 0 1 1 true] h1 K=true
 show zL (aD E n) n [v, .int .i64 (.ofNat i), .slc a 0 0 1 1 true] h1 K=true
 unfold zL
 have hs:source h1 1 (.slc a 0 0 1 1 true)=some [[AV.int .i64 x]]:=by
  simp only[source,hr];rfl
 simp only[hs,hr]
 show MF v i a x h1 K=true
 rcases B with⟨rfl,rfl⟩|⟨id,r,cap,w1,rfl,w3,w4,w5,w6,w7,w8,w9⟩
 ·have:i=0:=by simpa using hi
  subst this
  show K (.slc h1.sz 0 0 1 1 false) (Ab.newRow h1 [[.int .i64 x]] 1)=true
  refine kk _ _ (.inr ⟨h1.sz,{es:=[[AV.int .i64 x]],sz:=1,g:=0,m:=0,rw:=true},1,hb,rfl, ?_,rfl,Nat.le_refl _,rfl,Nat.le_refl _,Nat.le_refl _,rfl⟩) (Fr.of_ext (bU o _ _)) (cZ o _ _) fun j hj=> .inr (by rw[←dh.1 hj];exact Nat.le_refl _)
  rw[aj.row_some];simp only[Ab.newRow,aj.get_push,if_pos]
 ·have hc:Oo r r.g 0 l.length i id a=true:=by
   have:=hne id (dh.2 rfl)
   simp only[Oo,w4,w6,Nat.beq_refl,bI.2 (Nat.le_trans w7 w8),bI.2 hi,dL.2 hl,fO.2 this,Bool.and_self,Bool.not_false]
  unfold MF
  simp only[w3,hc,cond_true]
  have ht:r.es.take l.length=ints l:=w9
  have e1:(r.es.take l.length).take i++[[AV.int .i64 x]]++(r.es.take l.length).drop i=ints (l.take i++[x]++l.drop i):=by
   rw[ht,oW,oW]
   simp only[ints,List.map_take,List.map_drop];rfl
  have hlen:(l.take i++[x]++l.drop i).length=l.length+1:=by simp;omega
  refine kk _ _ (.inr ⟨id,{r with es:=(r.es.take l.length).take i++[[AV.int .i64 x]]++(r.es.take l.length).drop i,g:=r.g+1,m:=r.g+1,ty:=none},l.length+1,w1,by rw[hlen],aj.row_some.2 (eU _ _ _),w4,Nat.le_refl _,w6,by rw[hlen];exact Nat.le_refl _, ?_, ?_⟩) ((Fr.put (X:=fun j=>j=id) rfl h1 _).mono fun j e=>by rw[e];exact dh.2 rfl) (o.put (o.lt (aj.row_some.1 w3)) _) fun j hj=> .inl (dh.2 (dh.1 hj))
  ·show l.length+1≤((r.es.take l.length).take i++[[AV.int .i64 x]]++(r.es.take l.length).drop i).length
   rw[e1,dN,hlen];exact Nat.le_refl _
  ·show((r.es.take l.length).take i++[[AV.int .i64 x]]++(r.es.take l.length).drop i).take _=_
   rw[e1,List.take_of_length_le (by rw[dN];exact Nat.le_refl _)]
structure Rn (b:Nat) (h:aj) (id:Nat) (v:AV) (l:List Int):Prop where
 var:Var h id [v, .fn (.func 64) [] []]
 buf:Buf b h v l
 srt:N8 l
 sm:∀y∈l,small y
 len:l.length<1000000
 ne:∀j,bL v j→j≠id
theorem acj {id:Nat} (R:Rn b h id v l) (o:h.Ok) (hb:b≤h.sz) (hx:small x) (hnx:x ∉ l) (hn:l.length<n) (hl:l.length<999999)
 (kk:∀h' v' l',Rn b h' id v' l'→(∀y,y∈l'↔y=x∨y∈l)→Fr (fun j=>j=id∨bL v j) h h'→h'.Ok→(∀j,bL v' j→bL v j∨h.sz≤j)→K (.tup []) h'=true):
 aD E (n+3) (.func 28) [.ptr id 0 0 0, .int .i64 x] h K=true:=by
 apply d28
 unfold s28
 have A0:au h false 1 (.ptr id 0 0 0)=some v:=R.var.get rfl
 have A1:au h false 1 (.ptr id 0 0 1)=some (.fn (.func 64) [] []):=R.var.get rfl
 refine aN ?_;refine aA ?_;refine aF A0 ?_;refine aN ?_;refine aA ?_;refine aF A1 ?_
 refine aas R.buf.view R.srt R.sm hx hn (by omega) fun i hi h1 h2=> ?_
 refine aJ ?_;refine aK ?_;refine aN ?_;refine aA ?_;refine aF A0 ?_
 obtain⟨q1,q2,q3,q4⟩:=aeT (x:=x) o
 refine iW q1 ?_
 have lid:=R.var.lt o
 refine adT (R.buf.ext q3) q4 (Nat.le_trans hb q3.1) hi (by omega) q2 (fun j hj=>by have:=R.buf.lt o hj;omega) fun hB v' B' f' o' rows=> ?_
 have hlt:(Ab.newRow h [[AV.int IntKind.i64 x]] 1).sz=h.sz+1:=rfl
 obtain⟨h3,w1,V3,w3,o3,w5⟩:=(f'.var (R.var.ext q3) fun q=>R.ne _ q rfl).wr o' (off:=0) (v:=v') (show 0<2 by decide) B'.leaf
 refine aN ?_;refine aA ?_
 refine lq w1 ?_
 have V3:Var h3 id [v', .fn (.func 64) [] []]:=V3
 obtain⟨s1,s2⟩:=Uj R.srt hi h1 h2 hnx
 have ne':∀j,bL v' j→j≠id:=fun j hj=>by
  rcases rows j hj with q |q
  ·exact R.ne j q
  ·omega
 refine kk h3 v' _ ⟨V3,B'.fr (Fr.of_but (X:=fun j=>j=id) rfl w3) ne',s1,fun y hy=> ?_,by simp;omega,ne'⟩ s2 ((Fr.of_ext q3).trans ((f'.mono fun j q=> .inr q).trans (Fr.of_but (.inl rfl) w3))) o3 fun j hj=> ?_
 ·rcases(s2 y).1 hy with q |q
  ·rw[q];exact hx
  ·exact R.sm y q
 ·rcases rows j hj with q |q
  ·exact .inl q
  ·exact .inr (by omega)
theorem AY {h:aj} {s:AV} {new:List (List AV)} {id g st len cap:Nat} {ex:Bool} {r:Row} {sz by':Nat} (hs:source h sz s=some new) (hsz:Nat.beq sz 0=false) (w:h.row id=some r) (hne:new≠[])
 (h1:(len+new.length)*by'≤most) (h2:len+new.length≤most) (h3:r.sz=sz) (h4:len+new.length≤cap) (h5:r.rw=true) (h6:r.g=g):
 cK h sz by' (.slc id g st len cap ex) s=some (.slc id g st (len+new.length) cap ex,h.put id (.row {r with es:=lay r.es (st+len) new,m:=r.g})):=by
 unfold cK
 simp only[hs,hsz,cond_false]
 unfold eZ
 cases new with
 |nil=>exact absurd rfl hne
 |cons a t=>
  simp only[w,bI.2 h1,bI.2 h2,bJ.2 h3,bI.2 h4,h5,bJ.2 h6.symm,Bool.and_self,cond_true]
theorem aem {i:Nat} (B:Buf b h v l) (o:h.Ok) (hi:i<l.length) (hl:l.length<1000000)
 (kk:∀h' v',Buf b h' v' (l.eraseIdx i)→Fr (bL v) h h'→h'.Ok→(∀j,bL v' j→bL v j)→K v' h'=true):
 aD E (n+1) (.func 69) [v, .int .i64 (i:Int), .int .i64 ((i:Int)+1)] h K=true:=by
 have hmo:most=1099511627776:=rfl
 rcases B with⟨rfl,rfl⟩|⟨id,r,cap,w1,rfl,w3,w4,w5,w6,w7,w8,w9⟩
 ·simp at hi
 apply d69
 unfold s69
 have hi1:((i:Int)+1)=((i+1:Nat):Int):=by omega
 rw[hi1]
 have hrs:jo h id 1=true:=by simp only[jo,w3,bJ];exact w6
 have ll:dw h 1 (.slc id r.g 0 l.length cap false)=some (.int .i64 (l.length:Int)):=rfl
 have x1:fZ h 1 (.slc id r.g 0 l.length cap false) (some (.int .i64 (i:Int))) (some (.int .i64 ((i+1:Nat):Int))) (some (.int .i64 (l.length:Int)))=some (.slc id r.g (0+i) (i+1-i) (l.length-i) true):=by
  simp only[fZ,hrs,cond_true,mV,iK,bI.2 (show i≤i+1 by omega),bI.2 (show i+1≤l.length by omega),bI.2 w7,Option.isSome,Bool.and_self]
 have x2:fZ h 1 (.slc id r.g 0 l.length cap false) none (some (.int .i64 (i:Int))) none=some (.slc id r.g 0 i cap false):=by
  simp only[fZ,hrs,cond_true,mV,iK,bI.2 (show 0≤i by omega),bI.2 (show i≤cap by omega),Bool.and_self]
  rfl
 have x3:fZ h 1 (.slc id r.g 0 l.length cap false) (some (.int .i64 ((i+1:Nat):Int))) none none=some (.slc id r.g (0+(i+1)) (l.length-(i+1)) (cap-(i+1)) false):=by
  simp only[fZ,hrs,cond_true,mV,iK,bI.2 (show i+1≤l.length by omega),bI.2 w7,Bool.and_self]
 refine aF ll ?_;refine aF x1 ?_;refine aX ?_
 refine iF (decide_eq_false (by omega)) ?_
 refine aF ll ?_;refine aF x2 ?_;refine aF x3 ?_
 have hdl:((r.es.drop (i+1)).take (l.length-(i+1)))=ints (l.drop (i+1)):=by
  rw[←List.drop_take,w9];simp only[ints,List.map_drop]
 have hnl:(ints (l.drop (i+1))).length=l.length-(i+1):=by rw[dN,List.length_drop]
 have hsrc:source h 1 (.slc id r.g (0+(i+1)) (l.length-(i+1)) (cap-(i+1)) false)=some (ints (l.drop (i+1))):=by
  have V:View h 1 (.slc id r.g (i+1) (ints (l.drop (i+1))).length (cap-(i+1)) false) (ints (l.drop (i+1))):=
   .inr ⟨id,r.g,i+1,cap-(i+1),false,r,rfl,w3,w5,w6,by rw[hnl];exact hdl,by rw[hnl];omega⟩
  rw[Nat.zero_add, ←hnl];exact V.src
 have hget:=aj.row_some.1 w3
 have hti:r.es.take i=ints (l.take i):=by
  have:r.es.take i=(r.es.take l.length).take i:=by rw[List.take_take,Nat.min_eq_left (by omega)]
  rw[this,w9];simp only[ints,List.map_take]
 have fin:∀h1 r1,h1.row id=some r1→h1.Ok→r1.g=r.g→r1.rw=true→r1.sz=1→r1.es.length=r.es.length→r1.es.take (l.length-1)=ints (l.eraseIdx i)→Fr (bL (.slc id r.g 0 l.length cap false)) h h1→
  (ah (dw h1 1 (.slc id r.g 0 (l.length-1) cap false)) fun v8=>ah (fZ h1 1 (.slc id r.g 0 (l.length-1) cap false) (some v8) (some (.int .i64 (l.length:Int))) none) fun v9=>bP (unit (K6 h1 1 [.int .i64 0] v9)) fun _ h=>K (.slc id r.g 0 (l.length-1) cap false) h)=true:=by
  intro h1 r1 y1 y2 y3 y4 y5 y6 y7 f
  have ll1:dw h1 1 (.slc id r.g 0 (l.length-1) cap false)=some (.int .i64 ((l.length-1:Nat):Int)):=rfl
  have hrs1:jo h1 id 1=true:=by simp only[jo,y1,bJ];exact y5
  have x4:fZ h1 1 (.slc id r.g 0 (l.length-1) cap false) (some (.int .i64 ((l.length-1:Nat):Int))) (some (.int .i64 (l.length:Int))) none=some (.slc id r.g (0+(l.length-1)) (l.length-(l.length-1)) (cap-(l.length-1)) false):=by
   simp only[fZ,hrs1,cond_true,mV,iK,bI.2 (show l.length-1≤l.length by omega),bI.2 w7,Bool.and_self]
  have x5:K6 h1 1 [.int .i64 0] (.slc id r.g (0+(l.length-1)) (l.length-(l.length-1)) (cap-(l.length-1)) false)=some (h1.put id (.row {r1 with es:=lay r1.es (l.length-1) [[AV.int .i64 0]],m:=r1.g})):=by
   have e1:l.length-(l.length-1)=1:=by omega
   rw[e1,Nat.zero_add]
   show nO h1 1 id r.g (l.length-1) [[AV.int .i64 0]]=_
   unfold nO
   simp only[y1,y4,y3,bJ.2 y5,Nat.beq_refl,Bool.and_self,Bool.true_and]
   rw[bI.2 (by simp only[List.length_singleton];omega),cond_true]
  refine aF ll1 ?_
  refine aF x4 ?_
  refine lq x5 ?_
  have hel:(l.eraseIdx i).length=l.length-1:=by rw[List.length_eraseIdx,if_pos hi]
  refine kk _ _ (.inr ⟨id,{r1 with es:=lay r1.es (l.length-1) [[AV.int .i64 0]],m:=r1.g},cap,w1,by rw[hel];simp only[y3],aj.row_some.2 (eU _ _ _),y4,Nat.le_refl _,y5,by rw[hel];omega, ?_, ?_⟩) (f.trans ((Fr.put (X:=fun j=>j=id) rfl h1 _).mono fun j e=>by rw[e];exact dh.2 rfl)) (y2.put (y2.lt (aj.row_some.1 y1)) _) fun j hj=>dh.2 (dh.1 hj)
  ·show cap≤(lay r1.es (l.length-1) [[AV.int .i64 0]]).length
   rw[mX _ _ _ (by simp only[List.length_singleton];omega),y6];exact w8
  ·show(lay r1.es (l.length-1) [[AV.int .i64 0]]).take _=_
   rw[hel, ←y7]
   unfold lay
   rw[List.append_assoc,List.take_append_of_le_length (by rw[List.length_take];omega),List.take_take,Nat.min_self]
 have her:l.eraseIdx i=l.take i++l.drop (i+1):=List.eraseIdx_eq_take_drop_succ ..
 by_cases hlast:i+1=l.length
 ·have hn0:ints (l.drop (i+1))=[]:=by rw[List.drop_of_length_le (by omega)];rfl
  have ha:cK h 1 8 (.slc id r.g 0 i cap false) (.slc id r.g (0+(i+1)) (l.length-(i+1)) (cap-(i+1)) false)=some (.slc id r.g 0 i cap false,h):=by
   unfold cK
   simp only[hsrc,hn0];rfl
  refine iW ha ?_
  have hii:i=l.length-1:=by omega
  have:=fin h r w3 o rfl w4 w6 rfl (by rw[her,List.drop_of_length_le (by omega),List.append_nil, ←hii];exact hti) (Fr.refl _ _)
  rw[←hii] at this
  exact this
 ·have hnn:ints (l.drop (i+1))≠[]:=fun e=>by have:=congrArg List.length e;rw[hnl] at this;simp at this;omega
  have ha:cK h 1 8 (.slc id r.g 0 i cap false) (.slc id r.g (0+(i+1)) (l.length-(i+1)) (cap-(i+1)) false)=some (.slc id r.g 0 (l.length-1) cap false,h.put id (.row {r with es:=lay r.es (0+i) (ints (l.drop (i+1))),m:=r.g})):=by
   have q:=AY (by':=8) (g:=r.g) (st:=0) (len:=i) (cap:=cap) (ex:=false) hsrc rfl w3 hnn (by rw[hnl];omega) (by rw[hnl];omega) w6 (by rw[hnl];omega) w4 rfl
   rw[q,hnl,show i+(l.length-(i+1))=l.length-1 by omega]
  refine iW ha ?_
  have hlen2:(lay r.es (0+i) (ints (l.drop (i+1)))).length=r.es.length:=mX _ _ _ (by rw[hnl];omega)
  refine fin _ {r with es:=lay r.es (0+i) (ints (l.drop (i+1))),m:=r.g} (aj.row_some.2 (eU _ _ _)) (o.put (o.lt hget) _) rfl w4 w6 hlen2 ?_ ((Fr.put (X:=fun j=>j=id) rfl h _).mono fun j e=>by rw[e];exact dh.2 rfl)
  show(lay r.es (0+i) (ints (l.drop (i+1)))).take (l.length-1)=_
  rw[her,oW, ←hti]
  unfold lay
  have hti2:(r.es.take i).length=i:=by rw[List.length_take];omega
  rw[Nat.zero_add,List.take_append_of_le_length (by rw[List.length_append,hti2,hnl];omega)]
  rw[List.take_of_length_le (by rw[List.length_append,hti2,hnl];omega)]
theorem Um {i:Nat} (s:N8 l) (hi:i<l.length):N8 (l.eraseIdx i)∧∀y,y∈l.eraseIdx i↔y∈l∧y≠l[i]:=by
 have her:l.eraseIdx i=l.take i++l.drop (i+1):=List.eraseIdx_eq_take_drop_succ ..
 refine⟨s.sublist (List.eraseIdx_sublist _ _),fun y=> ?_⟩
 rw[her,List.mem_append]
 constructor
 ·rintro(q |q)
  ·obtain⟨j,hj,rfl⟩:=List.mem_iff_getElem.1 q
   rw[List.length_take] at hj
   rw[List.getElem_take]
   exact⟨List.getElem_mem _,fun e=>by have:=uK s (show j<i by omega) hi;omega⟩
  ·obtain⟨j,hj,rfl⟩:=List.mem_iff_getElem.1 q
   rw[List.length_drop] at hj
   rw[List.getElem_drop]
   exact⟨List.getElem_mem _,fun e=>by have:=uK s (show i<i+1+j by omega) (by omega);omega⟩
 ·rintro⟨q,hne⟩
  obtain⟨j,hj,rfl⟩:=List.mem_iff_getElem.1 q
  by_cases e:j<i
  ·exact .inl (List.mem_iff_getElem.2 ⟨j,by rw[List.length_take];omega,by rw[List.getElem_take]⟩)
  ·have:j≠i:=fun e=>by subst e;exact hne rfl
   exact .inr (List.mem_iff_getElem.2 ⟨j-(i+1),by rw[List.length_drop];omega,by rw[List.getElem_drop];congr 1;omega⟩)
theorem ado {id:Nat} (R:Rn b h id v l) (o:h.Ok) (hx:small x) (hxl:x∈l) (hn:l.length<n)
 (kk:∀h' v' l',Rn b h' id v' l'→(∀y,y∈l'↔y∈l∧y≠x)→Fr (fun j=>j=id∨bL v j) h h'→h'.Ok→(∀j,bL v' j→bL v j)→K (.tup []) h'=true):
 aD E (n+3) (.func 40) [.ptr id 0 0 0, .int .i64 x] h K=true:=by
 apply d40
 unfold s40
 have A0:au h false 1 (.ptr id 0 0 0)=some v:=R.var.get rfl
 have A1:au h false 1 (.ptr id 0 0 1)=some (.fn (.func 64) [] []):=R.var.get rfl
 have hlen:=R.len
 refine aN ?_;refine aA ?_;refine aF A0 ?_;refine aN ?_;refine aA ?_;refine aF A1 ?_
 refine aas R.buf.view R.srt R.sm hx hn (by omega) fun i hi h1 h2=> ?_
 rw[decide_eq_true hxl]
 obtain⟨k,hk,hkx⟩:=List.mem_iff_getElem.1 hxl
 have hki:k=i:=by
  by_cases q:k<i
  ·have:=h1 k hk q;omega
  ·by_cases q2:k=i
   ·exact q2
   ·have:=h2 i (by omega) (Nat.le_refl _);have:=uK R.srt (show i<k by omega) hk;omega
 subst hki
 have e1:aR .add (.int .i64 (k:Int)) (.int .i64 1)=some (.int .i64 ((k:Int)+1)):=pI (by omega) (by omega)
 refine aJ ?_;refine aK ?_;refine bN ?_;refine aN ?_;refine aA ?_;refine aF A0 ?_;refine aF e1 ?_
 refine aem R.buf o hk (by omega) fun hB v' B' f' o' rows=> ?_
 obtain⟨h3,w1,V3,w3,o3,w5⟩:=(f'.var R.var fun q=>R.ne _ q rfl).wr o' (off:=0) (v:=v') (show 0<2 by decide) B'.leaf
 refine aN ?_;refine aA ?_
 refine lq w1 ?_
 have V3:Var h3 id [v', .fn (.func 64) [] []]:=V3
 obtain⟨s1,s2⟩:=Um R.srt hk
 have ne':∀j,bL v' j→j≠id:=fun j hj=>R.ne j (rows j hj)
 refine kk h3 v' _ ⟨V3,B'.fr (Fr.of_but (X:=fun j=>j=id) rfl w3) ne',s1,fun y hy=>R.sm y ((s2 y).1 hy).1,by rw[List.length_eraseIdx,if_pos hk];omega,ne'⟩ (fun y=>by rw[s2,hkx]) ((f'.mono fun j q=> .inr q).trans (Fr.of_but (.inl rfl) w3)) o3 rows
end
section
variable {κ β γ:Type} [DecidableEq κ]
def jm:List (κ×β)→κ→Option β
 | [],_=>none
 |p :: t,k=>if k=p.1 then some p.2 else jm t k
def nT:List (κ×β)→κ→β→List (κ×β)
 | [],k,v=>[(k,v)]
 |p :: t,k,v=>if k=p.1 then(k,v) :: t else p :: nT t k v
def zx:List (κ×β)→κ→List (κ×β)
 | [],_=>[]
 |p :: t,k=>if k=p.1 then t else p :: zx t k
def mp (f:β→γ) (l:List (κ×β)):List (κ×γ):=l.map fun p=>(p.1,f p.2)
theorem pW (f:β→γ) (k:κ):∀(l:List (κ×β)),jm (mp f l) k=(jm l k).map f
 | []=>rfl
 |p :: t=>by
  show(if k=p.1 then some (f p.2) else jm (mp f t) k)=_
  simp only[jm]
  by_cases e:k=p.1
  ·rw[if_pos e,if_pos e];rfl
  ·rw[if_neg e,if_neg e,pW f k t]
theorem vR (f:β→γ) (k:κ) (v:β):∀(l:List (κ×β)),mp f (nT l k v)=nT (mp f l) k (f v)
 | []=>rfl
 |p :: t=>by
  show _=(if k=p.1 then(k,f v) :: mp f t else(p.1,f p.2) :: nT (mp f t) k (f v))
  simp only[nT]
  by_cases e:k=p.1
  ·rw[if_pos e,if_pos e];rfl
  ·rw[if_neg e,if_neg e, ←vR f k v t];rfl
theorem Kl (f:β→γ) (k:κ):∀(l:List (κ×β)),mp f (zx l k)=zx (mp f l) k
 | []=>rfl
 |p :: t=>by
  show _=(if k=p.1 then mp f t else(p.1,f p.2) :: zx (mp f t) k)
  simp only[zx]
  by_cases e:k=p.1
  ·rw[if_pos e,if_pos e]
  ·rw[if_neg e,if_neg e, ←Kl f k t];rfl
theorem MI (k:κ):∀(l:List (κ×AV)),lk l k=jm l k
 | []=>rfl
 |p :: t=>by simp only[lk,jm,MI k t]
theorem Un (k:κ) (v:AV):∀(l:List (κ×AV)),up l k v=nT l k v
 | []=>rfl
 |p :: t=>by simp only[up,nT,Un k v t]
theorem Xn (k:κ):∀(l:List (κ×AV)),dl l k=zx l k
 | []=>rfl
 |p :: t=>by simp only[dl,zx,Xn k t]
theorem xE {k:κ} {v:β}:∀{l:List (κ×β)},jm l k=none→nT l k v=l++[(k,v)]
 | [],_=>rfl
 |p :: t,h=>by
  simp only[jm] at h
  simp only[nT]
  by_cases e:k=p.1
  ·rw[if_pos e] at h;cases h
  ·rw[if_neg e] at h ⊢
   rw[xE h];rfl
theorem BP {k:κ} {v u:β}:∀{l:List (κ×β)},jm l k=some u→(nT l k v).map (fun p=>p.1)=l.map fun p=>p.1
 | [],h=>by cases h
 |p :: t,h=>by
  simp only[jm] at h
  simp only[nT]
  by_cases e:k=p.1
  ·rw[if_pos e];simp[e]
  ·rw[if_neg e] at h ⊢
   simp only[List.map_cons,BP h]
theorem uG {k:κ} {v:β}:∀{l:List (κ×β)} {x:κ×β},x∈nT l k v→x=(k,v)∨x∈l
 | [],x,h=> .inl (List.mem_singleton.1 h)
 |p :: t,x,h=>by
  simp only[nT] at h
  by_cases e:k=p.1
  ·rw[if_pos e] at h
   rcases List.mem_cons.1 h with h |h
   ·exact .inl h
   ·exact .inr (List.mem_cons_of_mem _ h)
  ·rw[if_neg e] at h
   rcases List.mem_cons.1 h with h |h
   ·exact .inr (by rw[h];exact List.mem_cons_self)
   ·rcases uG h with h |h
    ·exact .inl h
    ·exact .inr (List.mem_cons_of_mem _ h)
theorem wK {k:κ}:∀{l:List (κ×β)},(zx l k).Sublist l
 | []=> .slnil
 |p :: t=>by
  simp only[zx]
  by_cases e:k=p.1
  ·rw[if_pos e];exact List.sublist_cons_self _ _
  ·rw[if_neg e];exact wK.cons_cons _
theorem gU {k:κ} {u:β}:∀{l:List (κ×β)},jm l k=some u→(k,u)∈l
 | [],h=>by cases h
 |p :: t,h=>by
  simp only[jm] at h
  by_cases e:k=p.1
  ·rw[if_pos e] at h
   cases h;rw[e];exact List.mem_cons_self
  ·rw[if_neg e] at h
   exact List.mem_cons_of_mem _ (gU h)
theorem mR {k:κ} {u:β}:∀{l:List (κ×β)},(l.map fun p=>p.1).Nodup→(k,u)∈l→jm l k=some u
 | [],_,h=>by cases h
 |p :: t,hn,h=>by
  simp only[List.map_cons,List.nodup_cons] at hn
  simp only[jm]
  rcases List.mem_cons.1 h with h |h
  ·rw[←h];simp
  ·by_cases e:k=p.1
   ·exact absurd (List.mem_map.2 ⟨_,h,e⟩) hn.1
   ·rw[if_neg e];exact mR hn.2 h
theorem xS {k:κ}:∀{l:List (κ×β)},jm l k=none↔k ∉ l.map fun p=>p.1
 | []=>by simp[jm]
 |p :: t=>by
  simp only[jm,List.map_cons,List.mem_cons,not_or]
  by_cases e:k=p.1
  ·simp[e]
  ·rw[if_neg e,xS (l:=t)];simp[e]
theorem sK {k j:κ} {v:β}:∀{l:List (κ×β)},jm (nT l k v) j=if j=k then some v else jm l j
 | []=>rfl
 |p :: t=>by
  simp only[nT]
  by_cases e:k=p.1
  ·rw[if_pos e]
   simp only[jm, ←e]
   by_cases e2:j=k
   ·rw[if_pos e2,if_pos e2]
   ·rw[if_neg e2,if_neg e2,if_neg e2]
  ·rw[if_neg e]
   simp only[jm]
   by_cases e2:j=p.1
   ·rw[if_pos e2,if_neg (fun q=>e (q.symm.trans e2)),if_pos e2]
   ·rw[if_neg e2,sK (l:=t),if_neg e2]
theorem Bb {k j:κ}:∀{l:List (κ×β)},(l.map fun p=>p.1).Nodup→jm (zx l k) j=if j=k then none else jm l j
 | [],_=>by simp[zx,jm]
 |p :: t,hn=>by
  simp only[List.map_cons,List.nodup_cons] at hn
  simp only[zx]
  by_cases e:k=p.1
  ·rw[if_pos e]
   simp only[jm, ←e]
   by_cases e2:j=k
   ·rw[if_pos e2,xS,e2,e];exact hn.1
   ·rw[if_neg e2,if_neg e2]
  ·rw[if_neg e]
   simp only[jm]
   by_cases e2:j=p.1
   ·rw[if_pos e2,if_neg (fun q=>e (q.symm.trans e2)),if_pos e2]
   ·rw[if_neg e2,Bb hn.2,if_neg e2]
theorem yO {k:κ} {v:β}:∀{l:List (κ×β)},(l.map fun p=>p.1).Nodup→((nT l k v).map fun p=>p.1).Nodup
 |l,hn=>by
  cases h:jm l k with
  |some u=>rw[BP h];exact hn
  |none=>
   rw[xE h,List.map_append,List.nodup_append]
   refine⟨hn,by simp,fun a ha b hb=> ?_⟩
   rw[xS] at h
   simp only[List.map_cons,List.map_nil,List.mem_singleton] at hb
   subst hb
   exact fun q=>h (by rw[←q];exact ha)
end
section
variable {κ β:Type} [DecidableEq κ]
theorem xR {k:κ} {u:β}:∀{l:List (κ×β)},jm l k=some u→nT l k u=l
 | [],h=>by cases h
 |p :: t,h=>by
  simp only[jm] at h
  simp only[nT]
  by_cases e:k=p.1
  ·rw[if_pos e] at h ⊢
   cases h;subst e;rfl
  ·rw[if_neg e] at h ⊢
   rw[xR h]
theorem SN {k:κ} {u v:β}:∀{l:List (κ×β)},nT (nT l k u) k v=nT l k v
 | []=>by simp[nT]
 |p :: t=>by
  simp only[nT]
  by_cases e:k=p.1
  ·rw[if_pos e,if_pos e];simp[nT]
  ·rw[if_neg e,if_neg e]
   simp only[nT,if_neg e]
   rw[SN]
omit [DecidableEq κ] in
theorem NI {γ:Type} (f:β→γ) (l:List (κ×β)):(mp f l).map (fun p=>p.1)=l.map fun p=>p.1:=by simp[mp,List.map_map,Function.comp_def]
end
def Lt (Q:Nat→Prop) (h h':aj):Prop:=∀j o,Q j→h.get j=some o→h'.get j=some o
theorem Lt.refl (Q:Nat→Prop) (h:aj):Lt Q h h:=fun _ _ _ g=>g
theorem Lt.trans {Q:Nat→Prop} {a b c:aj} (p:Lt Q a b) (q:Lt Q b c):Lt Q a c:=fun j o k g=>q j o k (p j o k g)
theorem Lt.of_ext {Q:Nat→Prop} {h h':aj} (e:Ext h h'):Lt Q h h':=fun j o _ g=>e.2 j o g
theorem Lt.of_fr {Q X:Nat→Prop} {h h':aj} (f:Fr X h h') (d:∀j,X j→¬Q j):Lt Q h h':=fun j o q g=>f.keep j o (fun x=>d j x q) g
def DX (Q:Nat→Prop) (h:aj) (e:List AV) (x:Val):Prop:=∀h',Lt Q h h'→RV h' e x
def DV (Q:Nat→Prop) (h:aj) (v:AV) (l:List Val):Prop:=∃es,View h 5 v es∧(∀j,bL v j→Q j)∧gM (DX Q h) es l
section
variable {Q Q' X:Nat→Prop} {h h':aj} {e:List AV} {x:Val} {v:AV} {l:List Val}
theorem DX.now (D:DX Q h e x):RV h e x:=D h (Lt.refl _ _)
theorem DX.fr (D:DX Q h e x) (L:Lt Q h h') (o:h.Ok) (q:∀j,j<h.sz→Q j→Q' j):DX Q' h' e x:=fun h'' L'=>D h'' fun j ob k g=>L' j ob (q j (o.lt g) k) (L j ob k g)
theorem DX.ext (D:DX Q h e x) (f:Ext h h'):DX Q h' e x:=fun h'' L'=>D h'' ((Lt.of_ext f).trans L')
theorem _root_.Go.Ab.View.lt {n:Nat} {es:List (List AV)} (V:View h n v es) (L:Lt Q h h') (q:∀j,bL v j→Q j):View h' n v es:=by
 rcases V with V |⟨id,g,s,cap,ex,r,rfl,h2,h3⟩
 ·exact .inl V
 ·exact .inr ⟨id,g,s,cap,ex,r,rfl,by rw[aj.row_some] at h2 ⊢;exact L _ _ (q id (dh.2 rfl)) h2,h3⟩
theorem _root_.Go.Ab.View.rlt {n:Nat} {es:List (List AV)} (V:View h n v es) (o:h.Ok) {j:Nat} (i:bL v j):j<h.sz:=by
 rcases V with⟨_,rfl |rfl⟩|⟨id,g,s,cap,ex,r,rfl,h2,h3⟩
 ·exact absurd i eH
 ·obtain⟨_,_,_,_,_,e⟩:=i;cases e
 ·rw[←dh.1 i];exact o.lt (aj.row_some.1 h2)
theorem DV.now (D:DV Q h v l):VV h v l:=let⟨es,a,_,c⟩:=D;⟨es,a,c.mono fun _ _ r=>r.now⟩
theorem DV.fr (D:DV Q h v l) (L:Lt Q h h') (o:h.Ok) (q:∀j,j<h.sz→Q j→Q' j):DV Q' h' v l:=
 let⟨es,a,b,c⟩:=D
 ⟨es,a.lt L b,fun j i=>q j (a.rlt o i) (b j i),c.mono fun _ _ r=>r.fr L o q⟩
theorem DV.leaf (D:DV Q h v l):v.leaf=true:=D.now.leaf
end
def Mr (h:aj) (n:Nat) (v:AV) (es:List (List AV)):Prop:=
 ∃id cap ex r,v= .slc id r.g 0 es.length cap ex∧h.row id=some r∧r.rw=true∧r.m≤r.g∧r.sz=n∧r.es=es∧es.length≤cap
section
variable {h h':aj} {n i:Nat} {v x:AV} {es:List (List AV)} {e:List AV} {X:Nat→Prop}
theorem Mr.view (M:Mr h n v es):View h n v es:=by
 obtain⟨id,cap,ex,r,rfl,w1,w2,w3,w4,w5,w6⟩:=M
 exact .inr ⟨id,r.g,0,cap,ex,r,rfl,w1,w3,w4,by rw[w5];simp,w6⟩
theorem Mr.fr (M:Mr h n v es) (f:Fr X h h') (d:∀j,bL v j→¬X j):Mr h' n v es:=by
 obtain⟨id,cap,ex,r,rfl,w1,w⟩:=M
 exact⟨id,cap,ex,r,rfl,f.row (d id (dh.2 rfl)) w1,w⟩
theorem Mr.ext (M:Mr h n v es) (f:Ext h h'):Mr h' n v es:=M.fr (X:=fun _=>False) (Fr.of_ext f) fun _ _ x=>x
theorem Mr.lt (M:Mr h n v es) (o:h.Ok) {j:Nat} (i:bL v j):j<h.sz:=M.view.rlt o i
theorem Mr.set (O:Mr h n v es) (hi:es[i]? =some e) (hl:e.length=n) (hx:x.cells.length=n) (hf:aV x.cells=true):
 ∃id g,(∀k,bS h n v (.int k (i:Int))=some (.ptr id g i 0))∧bL v id∧∃h',bT h n (.ptr id g i 0) x=some h'∧Mr h' n v (es.set i x.cells)∧But id h h'∧h'.sz=h.sz∧(h.Ok→h'.Ok):=by
 have hlt:i<es.length:=(List.getElem?_eq_some_iff.1 hi).1
 obtain⟨id,cap,ex,r,rfl,w3,w4,w5,w6,w7,w8⟩:=O
 refine⟨id,r.g,fun k=> ?_,⟨_,_,_,_,_,rfl⟩,h.put id (.row {r with es:=es.set i x.cells,m:=r.g}), ?_, ?_,But.put _ _ _,by simp,fun o=>o.put (o.lt (aj.row_some.1 w3)) _⟩
 ·have:jo h id n=true:=by simp only[jo,w3,bJ];exact w6
  simp only[bS,iK,dL.2 hlt,this,Bool.and_self,cond_true,Nat.zero_add]
 ·have hn:nth r.es i=some e:=by rw[lJ,w7];exact hi
  have hlay:lay e 0 x.cells=x.cells:=by simp[lay];omega
  simp only[bT,w3,w4,Nat.beq_refl,bJ.2 hx,hf,Bool.and_self,cond_true,hn,Nat.zero_add]
  rw[bI.2 (by omega),cond_true,oF,hlay,w7]
 ·exact⟨id,cap,ex,_,by simp only[List.length_set],aj.row_some.2 (eU _ _ _),w4,Nat.le_refl _,w6,rfl,by rw[List.length_set];exact w8⟩
theorem TH {by':Nat} {z:List AV} (o:h.Ok) (hz:z.length=n) (hn:0<n) (hl:aV z=true) (h1:i*by'≤most) (h2:i≤most):
 ∃v h',sG h n by' z (.int .i64 (i:Int)) (.int .i64 (i:Int))=some (v,h')∧Mr h' n v (List.replicate i z)∧(∀j,bL v j→j=h.sz)∧Ext h h'∧h'.Ok∧h'.sz=h.sz+1:=by
 have hr:∀k,jO k z=List.replicate k z:=fun k=>by
  induction k with
  |zero=>rfl
  |succ k ih=>simp only[jO,ih,List.replicate_succ]
 refine⟨.slc h.sz 0 0 i i true,Ab.newRow h (jO i z) n, ?_,⟨h.sz,i,true,{es:=jO i z,sz:=n,g:=0,m:=0,rw:=true},by simp, ?_,rfl,Nat.le_refl _,rfl,hr i,by simp⟩,fun j q=>(dh.1 q).symm,bU o _ _,cZ o _ _,rfl⟩
 ·simp only[sG,iK,bI.2 (Nat.le_refl i),bI.2 h1,bI.2 h2,bJ.2 hz,dL.2 hn,hl,Bool.and_self,cond_true]
 ·rw[aj.row_some];simp only[Ab.newRow,aj.get_push,if_pos]
end
inductive IK where
 |all
 |c (s:Str)
 |k (s:SK)
inductive PT where
 |p |fm |bm |sm
 |rb (i:IK)
 |rl (i:IK)
 |f (h:Int)
 |st (h:Int)
inductive Tag where
 |out |dat |doc
 |own (o:Nat) (t:PT)
structure FD where
 id:Nat
 cls:Str
 vv:AV
 vs:List Val
 stated:Bool
 born:Nat
 sv:AV
 stamps:List Int
structure RD where
 id:Nat
 v:AV
 l:List Int
structure SD where
 p:Nat
 fm:Nat
 bm:Nat
 sm:Nat
 tb:AV
 most:Int
 next:Nat
 clock:Nat
 fs:List (Int×FD)
 all:RD
 by':List (Str×RD)
 same:List (SK×RD)
def SD.row (T:SD):IK→Option RD
 | .all=>some T.all
 | .c s=>jm T.by' s
 | .k s=>jm T.same s
def SD.setRow (T:SD) (i:IK) (r:RD):SD:=
 match i with
 | .all=>{T with all:=r}
 | .c s=>{T with by':=nT T.by' s r}
 | .k s=>{T with same:=nT T.same s r}
abbrev fp (x:FD):AV:= .ptr x.id 0 0 0
abbrev rp (x:RD):AV:= .ptr x.id 0 0 0
abbrev Out (τ:Nat→Tag):Nat→Prop:=fun j=>τ j= .out
structure FO (B:Nat) (τ:Nat→Tag) (o:Nat) (h:aj) (k:Int) (x:FD):Prop where
 tid:τ x.id= .own o (.f k)
 row:Var h x.id [.int .i64 k, .str x.cls,x.vv, .bool x.stated, .int .i64 (x.born:Int),x.sv]
 vals:DV (Out τ) h x.vv x.vs
 sz:fU x.vs≤B
 st:Mr h 1 x.sv (ints x.stamps)
 ts:∀j,bL x.sv j→τ j= .own o (.st k)
structure RO (τ:Nat→Tag) (o:Nat) (h:aj) (i:IK) (r:RD):Prop where
 tid:τ r.id= .own o (.rb i)
 tr:∀j,bL r.v j→τ j= .own o (.rl i)
 rn:Rn 0 h r.id r.v r.l
structure SO (B:Nat) (τ:Nat→Tag) (o:Nat) (h0 h:aj) (T:SD):Prop where
 ok:h.Ok
 k0:h0.Ok
 e:Ext h0 h
 t0:∀j,j<h0.sz→τ j= .out
 hi:∀j,h.sz≤j→τ j= .out
 tp:τ T.p= .own o .p
 tf:τ T.fm= .own o .fm
 tb:τ T.bm= .own o .bm
 ts:τ T.sm= .own o .sm
 var:Var h T.p [T.tb, .int .i64 T.most, .int .i64 (T.next:Int), .int .i64 (T.clock:Int), .map T.fm, .ptr T.all.id 0 0 0, .map T.bm, .map T.sm]
 fs:kK uy h T.fm (mp fp T.fs)
 by':kK yh h T.bm (mp rp T.by')
 same:kK sk h T.sm (mp rp T.same)
 f:∀k x,(k,x)∈T.fs→FO B τ o h k x
 r:∀i r,T.row i=some r→RO τ o h i r
abbrev XS (τ:Nat→Tag) (o:Nat) (S:PT→Prop):Nat→Prop:=fun j=>∃t,S t∧τ j= .own o t
structure Tg (τ τ':Nat→Tag) (h h':aj):Prop where
 old:∀j,j<h.sz→τ' j=τ j
 hi:∀j,h'.sz≤j→τ' j= .out
section
variable {B:Nat} {τ τ':Nat→Tag} {o:Nat} {h0 h h':aj} {T:SD} {X:Nat→Prop} {k:Int} {x:FD} {i:IK} {r:RD}
theorem FO.fr (F:FO B τ o h k x) (ok:h.Ok) (f:Fr X h h') (hx:∀j,X j→τ j≠ .out∧τ j≠ .own o (.f k)∧τ j≠ .own o (.st k)) (old:∀j,j<h.sz→τ' j=τ j):FO B τ' o h' k x:=
 ⟨by rw[old _ (F.row.lt ok)];exact F.tid,f.var F.row fun q=>(hx _ q).2.1 F.tid,F.vals.fr (Lt.of_fr f fun j q=>(hx j q).1) ok fun j hj e=>by show τ' j= .out;rw[old j hj];exact e,F.sz,F.st.fr f fun j i q=>(hx j q).2.2 (F.ts j i),fun j i=>by rw[old j (F.st.lt ok i)];exact F.ts j i⟩
theorem RO.fr (R:RO τ o h i r) (ok:h.Ok) (f:Fr X h h') (hx:∀j,X j→τ j≠ .own o (.rb i)∧τ j≠ .own o (.rl i)) (old:∀j,j<h.sz→τ' j=τ j):RO τ' o h' i r:=
 ⟨by rw[old _ (R.rn.var.lt ok)];exact R.tid,fun j q=>by rw[old j (R.rn.buf.lt ok q)];exact R.tr j q,f.var R.rn.var fun q=>(hx _ q).1 R.tid,R.rn.buf.fr f fun j q w=>(hx j w).2 (R.tr j q),R.rn.srt,R.rn.sm,R.rn.len,R.rn.ne⟩
theorem SO.nf (O:SO B τ o h0 h T):(T.fs.map fun p=>p.1).Nodup:=by have:=O.fs.keys;rwa [NI] at this
theorem SO.nk (O:SO B τ o h0 h T):(T.same.map fun p=>p.1).Nodup:=by have:=O.same.keys;rwa [NI] at this
theorem SO.low (O:SO B τ o h0 h T) {j:Nat} {t:Tag} (e:τ j=t) (ht:t≠ .out):h0.sz≤j:=by
 by_cases q:j<h0.sz
 ·exact absurd (e.symm.trans (O.t0 j q)) ht
 ·omega
theorem SO.fr (O:SO B τ o h0 h T) (f:Fr X h h') (ok:h'.Ok) (hx:∀j,X j→τ j≠ .out∧∀t,τ j≠ .own o t) (g:Tg τ τ' h h'):SO B τ' o h0 h' T:=by
 have no:∀{j t},τ j= .own o t→¬X j:=fun e x=>(hx _ x).2 _ e
 refine⟨ok,O.k0,f.ext O.e O.k0 fun j x=>O.low rfl (hx j x).1,fun j hj=> ?_,g.hi, ?_, ?_, ?_, ?_,f.var O.var (no O.tp),f.kmap O.fs (no O.tf),f.kmap O.by' (no O.tb),f.kmap O.same (no O.ts),fun k x hk=>(O.f k x hk).fr O.ok f (fun j q=>⟨(hx j q).1,(hx j q).2 _,(hx j q).2 _⟩) g.old,fun i r hr=>(O.r i r hr).fr O.ok f (fun j q=>⟨(hx j q).2 _,(hx j q).2 _⟩) g.old⟩
 ·rw[g.old j (by have:=O.e.1;omega)];exact O.t0 j hj
 ·rw[g.old _ (O.var.lt O.ok)];exact O.tp
 ·rw[g.old _ (O.fs.lt O.ok)];exact O.tf
 ·rw[g.old _ (O.by'.lt O.ok)];exact O.tb
 ·rw[g.old _ (O.same.lt O.ok)];exact O.ts
theorem SO.tg (O:SO B τ o h0 h T) (s:h.sz≤h'.sz):Tg τ τ h h':=⟨fun _ _=>rfl,fun j hj=>O.hi j (Nat.le_trans s hj)⟩
theorem SO.ext (O:SO B τ o h0 h T) (e:Ext h h') (ok:h'.Ok):SO B τ o h0 h' T:=O.fr (Fr.of_ext (X:=fun _=>False) e) ok (fun _ x=>x.elim) (O.tg e.1)
theorem SO.step {S:PT→Prop} {T':SD} (O:SO B τ o h0 h T) (f:Fr (XS τ o S) h h') (ok:h'.Ok) (g:Tg τ τ' h h') (e1:T'.p=T.p) (e2:T'.fm=T.fm) (e3:T'.bm=T.bm) (e4:T'.sm=T.sm)
 (hv:Var h' T.p [T'.tb, .int .i64 T'.most, .int .i64 (T'.next:Int), .int .i64 (T'.clock:Int), .map T.fm, .ptr T'.all.id 0 0 0, .map T.bm, .map T.sm])
 (hf:kK uy h' T.fm (mp fp T'.fs)) (hb:kK yh h' T.bm (mp rp T'.by')) (hs:kK sk h' T.sm (mp rp T'.same))
 (f1:∀k x,(k,x)∈T'.fs→FO B τ' o h' k x) (r1:∀i r,T'.row i=some r→RO τ' o h' i r):SO B τ' o h0 h' T':=by
 refine⟨ok,O.k0,f.ext O.e O.k0 fun j ⟨t,_,x⟩=>O.low x nofun,fun j hj=> ?_,g.hi, ?_, ?_, ?_, ?_, ?_, ?_, ?_, ?_,f1,r1⟩
 ·rw[g.old j (by have:=O.e.1;omega)];exact O.t0 j hj
 ·rw[e1,g.old _ (O.var.lt O.ok)];exact O.tp
 ·rw[e2,g.old _ (O.fs.lt O.ok)];exact O.tf
 ·rw[e3,g.old _ (O.by'.lt O.ok)];exact O.tb
 ·rw[e4,g.old _ (O.same.lt O.ok)];exact O.ts
 ·rw[e1,e2,e3,e4];exact hv
 ·rw[e2];exact hf
 ·rw[e3];exact hb
 ·rw[e4];exact hs
theorem iy {S:PT→Prop} {j:Nat} {t:PT} (e:τ j= .own o t) (n:¬S t):¬XS τ o S j:=fun⟨u,s,q⟩=>by rw[e] at q;cases q;exact n s
theorem zh {S:PT→Prop} {j:Nat} {t:PT} (n:¬S t) (x:XS τ o S j):τ j≠ .own o t:=fun e=>iy e n x
theorem KT {S:PT→Prop} {j:Nat} (x:XS τ o S j):τ j≠ .out:=fun e=>by obtain⟨t,_,q⟩:=x;rw[e] at q;cases q
theorem SO.f' {S:PT→Prop} (O:SO B τ o h0 h T) (f:Fr (XS τ o S) h h') (g:Tg τ τ' h h') (n1:¬S (.f k)) (n2:¬S (.st k)) (hk:(k,x)∈T.fs):FO B τ' o h' k x:=
 (O.f k x hk).fr O.ok f (fun j q=>⟨KT q,zh n1 q,zh n2 q⟩) g.old
theorem SO.r' {S:PT→Prop} (O:SO B τ o h0 h T) (f:Fr (XS τ o S) h h') (g:Tg τ τ' h h') (n1:¬S (.rb i)) (n2:¬S (.rl i)) (hk:T.row i=some r):RO τ' o h' i r:=
 (O.r i r hk).fr O.ok f (fun j q=>⟨zh n1 q,zh n2 q⟩) g.old
theorem SO.put (O:SO B τ o h0 h T) {nx ck:Nat} (f:Fr (fun j=>j=T.p) h h') (ok:h'.Ok) (V:Var h' T.p [T.tb, .int .i64 T.most, .int .i64 (nx:Int), .int .i64 (ck:Int), .map T.fm, .ptr T.all.id 0 0 0, .map T.bm, .map T.sm]):SO B τ o h0 h' {T with next:=nx,clock:=ck}:=by
 have f':Fr (XS τ o fun t=>t= .p) h h':=f.mono fun j e=>⟨.p,rfl,by rw[e];exact O.tp⟩
 have g:=O.tg f.sz
 refine O.step f' ok g rfl rfl rfl rfl V (f'.kmap O.fs (iy O.tf nofun)) (f'.kmap O.by' (iy O.tb nofun)) (f'.kmap O.same (iy O.ts nofun)) (fun k x hk=>O.f' f' g nofun nofun hk) fun i r hr=>O.r' f' g nofun nofun hr
end
theorem X8 {n:Nat} {h:aj} {K:aC} (o:h.Ok) (kk:∀h',Ext h h'→h'.Ok→h'.sz=h.sz+1→Var h' h.sz [.nilSlc, .fn (.func 64) [] []]→K (.ptr h.sz 0 0 0) h'=true):aD E (n+1) (.func 29) [] h K=true:=by
 apply d29
 unfold s29
 have e:eP [.nilSlc, .nilFn] [(1,1,(AV.fn (.func 64) [] []))]=some (.agg [.nilSlc, .fn (.func 64) [] []]):=rfl
 refine aF e ?_
 obtain⟨h1,b1,V1,e1,o1,z1⟩:=kZ (n:=2) (v:= .agg [.nilSlc, .fn (.func 64) [] []]) o rfl (by decide) rfl
 refine iW b1 ?_
 exact kk h1 e1 o1 z1 V1
structure St (o:Nat) (τ τ':Nat→Tag) (h h':aj):Prop where
 ok:h'.Ok
 fr:Fr (fun j=>∃t,τ j= .own o t) h h'
 old:∀j,j<h.sz→τ' j=τ j
 new:∀j,h.sz≤j→τ' j= .out∨((∃t,τ' j= .own o t)∧j<h'.sz)
section
variable {τ τ' τ'':Nat→Tag} {o:Nat} {h h' h'':aj}
theorem St.refl (ok:h.Ok) (hi:∀j,h.sz≤j→τ j= .out):St o τ τ h h:=⟨ok,Fr.refl _ _,fun _ _=>rfl,fun j hj=> .inl (hi j hj)⟩
theorem St.trans (k:h.Ok) (a:St o τ τ' h h') (b:St o τ' τ'' h' h''):St o τ τ'' h h'':=by
 refine⟨b.ok, ?_,fun j hj=> ?_,fun j hj=> ?_⟩
 ·refine Qz k a.fr b.fr fun j hj=> ?_
  by_cases q:j<h.sz
  ·left;rw[←a.old j q];exact hj
  ·right;omega
 ·have:=a.fr.sz;rw[b.old j (by omega),a.old j hj]
 ·by_cases q:j<h'.sz
  ·rw[b.old j q]
   rcases a.new j hj with e |e
   ·exact .inl e
   ·exact .inr ⟨e.1,by have:=b.fr.sz;omega⟩
  ·exact b.new j (by omega)
theorem St.tg (s:St o τ τ' h h'):Tg τ τ' h h':=⟨s.old,fun j hj=>by
 rcases s.new j (Nat.le_trans s.fr.sz hj) with e |e
 ·exact e
 ·omega⟩
theorem St.ext (e:Ext h h') (ok:h'.Ok) (hi:∀j,h.sz≤j→τ j= .out):St o τ τ h h':=⟨ok,Fr.of_ext e,fun _ _=>rfl,fun j hj=> .inl (hi j hj)⟩
theorem SO.st {B o':Nat} {h0:aj} {T:SD} (O:SO B τ o' h0 h T) (s:St o τ τ' h h') (n:o≠o'):SO B τ' o' h0 h' T:=
 O.fr s.fr s.ok (fun j ⟨t,e⟩=>⟨by rw[e];exact nofun,fun u=>by rw[e];intro q;cases q;exact n rfl⟩) s.tg
theorem DV.st {v:AV} {l:List Val} (D:DV (Out τ) h v l) (ok:h.Ok) (s:St o τ τ' h h'):DV (Out τ') h' v l:=
 D.fr (Lt.of_fr s.fr fun j ⟨t,e⟩ q=>by rw[show τ j= .out from q] at e;cases e) ok fun j hj q=>(s.old j hj).trans q
end
deriving instance DecidableEq for IK
theorem oD (T:SD) (i j:IK) (r:RD):(T.setRow i r).row j=if j=i then some r else T.row j:=by
 cases i<;>cases j<;>simp[SD.setRow,SD.row,sK]
structure Rs (T T':SD) (i:IK) (P:Int→Prop):Prop where
 eq:T'={T with all:=T'.all,by':=T'.by',same:=T'.same}
 ne:∀j,j≠i→T'.row j=T.row j
 at':∀y,(∃r,T'.row i=some r∧y∈r.l)↔P y
noncomputable def gI (τ:Nat→Tag) (P:Nat→Prop) (t:Tag):Nat→Tag:=fun j=>open Classical in if P j then t else τ j
theorem gL {τ:Nat→Tag} {P:Nat→Prop} {t:Tag} {j:Nat} (h:P j):gI τ P t j=t:=by unfold gI;rw[if_pos h]
theorem dS {τ:Nat→Tag} {P:Nat→Prop} {t:Tag} {j:Nat} (h:¬P j):gI τ P t j=τ j:=by unfold gI;rw[if_neg h]
section
variable {B:Nat} {τ τ':Nat→Tag} {o:Nat} {h0 h h':aj} {T:SD} {i:IK} {r:RD}
theorem SO.setK (O:SO B τ o h0 h T) (hr:T.row i=some r) (v':AV) (l':List Int):
 mp rp (T.setRow i ⟨r.id,v',l'⟩).by'=mp rp T.by'∧mp rp (T.setRow i ⟨r.id,v',l'⟩).same=mp rp T.same∧(T.setRow i ⟨r.id,v',l'⟩).all.id=T.all.id:=by
 cases i with
 |all=>simp only[SD.row,Option.some.injEq] at hr;subst hr;exact⟨rfl,rfl,rfl⟩
 |c s=>
  simp only[SD.row] at hr
  refine⟨?_,rfl,rfl⟩
  show mp rp (nT T.by' s _)=_
  rw[vR,xR];rw[pW,hr];rfl
 |k s=>
  simp only[SD.row] at hr
  refine⟨rfl, ?_,rfl⟩
  show mp rp (nT T.same s _)=_
  rw[vR,xR];rw[pW,hr];rfl
theorem SO.rowSet (O:SO B τ o h0 h T) (hr:T.row i=some r) {v':AV} {l':List Int} (R:Rn 0 h' r.id v' l') (f:Fr (fun j=>j=r.id∨bL r.v j) h h') (ok:h'.Ok) (rows:∀j,bL v' j→bL r.v j∨h.sz≤j):
 ∃τ',SO B τ' o h0 h' (T.setRow i ⟨r.id,v',l'⟩)∧St o τ τ' h h':=by
 have Ri:=O.r i r hr
 have lid:=Ri.rn.var.lt O.ok
 let S:PT→Prop:=fun t=>t= .rb i∨t= .rl i
 have f':Fr (XS τ o S) h h':=f.mono fun j e=>by
  rcases e with e |e
  ·exact⟨.rb i, .inl rfl,by rw[e];exact Ri.tid⟩
  ·exact⟨.rl i, .inr rfl,Ri.tr j e⟩
 have old:∀j,j<h.sz→gI τ (bL v') (.own o (.rl i)) j=τ j:=fun j hj=>by
  by_cases q:bL v' j
  ·rw[gL q]
   rcases rows j q with e |e
   ·exact(Ri.tr j e).symm
   ·omega
  ·exact dS q
 have g:Tg τ (gI τ (bL v') (.own o (.rl i))) h h':=⟨old,fun j hj=>by
  rw[dS fun q=>by have:=R.buf.lt ok q;omega];exact O.hi j (Nat.le_trans f.sz hj)⟩
 obtain⟨k1,k2,k3⟩:=O.setK hr v' l'
 have sp:(T.setRow i ⟨r.id,v',l'⟩).p=T.p∧(T.setRow i ⟨r.id,v',l'⟩).fm=T.fm∧(T.setRow i ⟨r.id,v',l'⟩).bm=T.bm∧(T.setRow i ⟨r.id,v',l'⟩).sm=T.sm∧(T.setRow i ⟨r.id,v',l'⟩).tb=T.tb∧(T.setRow i ⟨r.id,v',l'⟩).most=T.most∧(T.setRow i ⟨r.id,v',l'⟩).next=T.next∧(T.setRow i ⟨r.id,v',l'⟩).clock=T.clock∧(T.setRow i ⟨r.id,v',l'⟩).fs=T.fs:=by
  cases i<;>exact⟨rfl,rfl,rfl,rfl,rfl,rfl,rfl,rfl,rfl⟩
 obtain⟨p1,p2,p3,p4,p5,p6,p7,p8,p9⟩:=sp
 refine⟨_,O.step f' ok g p1 p2 p3 p4 ?_ ?_ ?_ ?_ (fun k x hk=> ?_) fun i' r' hr'=> ?_,ok,f'.mono fun j ⟨t,_,e⟩=>⟨t,e⟩,old,fun j hj=> ?_⟩
 ·rw[p5,p6,p7,p8,k3];exact f'.var O.var (iy O.tp nofun)
 ·rw[p9];exact f'.kmap O.fs (iy O.tf nofun)
 ·rw[k1];exact f'.kmap O.by' (iy O.tb nofun)
 ·rw[k2];exact f'.kmap O.same (iy O.ts nofun)
 ·rw[p9] at hk;exact O.f' f' g nofun nofun hk
 ·rw[oD] at hr'
  by_cases e:i'=i
  ·rw[if_pos e] at hr'
   cases hr';subst e
   exact⟨by rw[old _ lid];exact Ri.tid,fun j q=>gL q,R⟩
  ·rw[if_neg e] at hr'
   exact O.r' f' g (fun q=>by rcases q with q |q<;>cases q;exact e rfl) (fun q=>by rcases q with q |q<;>cases q;exact e rfl) hr'
 ·by_cases q:bL v' j
  ·exact .inr ⟨⟨_,gL q⟩,R.buf.lt ok q⟩
  ·rw[dS q];exact .inl (O.hi j hj)
theorem SO.newBy {s:Str} (O:SO B τ o h0 h T) (hn:jm T.by' s=none) (f:Fr (fun j=>j=T.bm) h h') (ok:h'.Ok) (V:Var h' h.sz [.nilSlc, .fn (.func 64) [] []]) (M:kK yh h' T.bm (up (mp rp T.by') s (.ptr h.sz 0 0 0))):
 ∃τ',SO B τ' o h0 h' (T.setRow (.c s) ⟨h.sz, .nilSlc,[]⟩)∧St o τ τ' h h':=by
 let S:PT→Prop:=fun t=>t= .bm
 have f':Fr (XS τ o S) h h':=f.mono fun j e=>⟨.bm,rfl,by rw[e];exact O.tb⟩
 have old:∀j,j<h.sz→gI τ (fun j=>j=h.sz) (.own o (.rb (.c s))) j=τ j:=fun j hj=>dS (by omega)
 have lt:=V.lt ok
 have g:Tg τ (gI τ (fun j=>j=h.sz) (.own o (.rb (.c s)))) h h':=⟨old,fun j hj=>by rw[dS (by omega)];exact O.hi j (Nat.le_trans f.sz hj)⟩
 refine⟨_,O.step (T':=T.setRow (.c s) ⟨h.sz, .nilSlc,[]⟩) f' ok g rfl rfl rfl rfl (f'.var O.var (iy O.tp nofun)) (f'.kmap O.fs (iy O.tf nofun)) ?_ (f'.kmap O.same (iy O.ts nofun)) (fun k x hk=>O.f' f' g nofun nofun hk) (fun i' r' hr'=> ?_),ok,f'.mono fun j ⟨t,_,e⟩=>⟨t,e⟩,old,fun j hj=> ?_⟩
 ·show kK yh h' T.bm (mp rp (nT T.by' s _))
  rw[vR, ←Un];exact M
 ·rw[oD] at hr'
  by_cases e:i'= .c s
  ·rw[if_pos e] at hr'
   cases hr';subst e
   exact⟨gL rfl,fun j q=>absurd q eH,V,Buf.nil _ _, .nil,nofun,by simp,fun j q=>absurd q eH⟩
  ·rw[if_neg e] at hr'
   exact O.r' f' g nofun nofun hr'
 ·by_cases q:j=h.sz
  ·exact .inr ⟨⟨_,gL q⟩,by omega⟩
  ·rw[dS (P:=fun j=>j=h.sz) q];exact .inl (O.hi j hj)
theorem SO.newSame {s:SK} (O:SO B τ o h0 h T) (hn:jm T.same s=none) (f:Fr (fun j=>j=T.sm) h h') (ok:h'.Ok) (V:Var h' h.sz [.nilSlc, .fn (.func 64) [] []]) (M:kK sk h' T.sm (up (mp rp T.same) s (.ptr h.sz 0 0 0))):
 ∃τ',SO B τ' o h0 h' (T.setRow (.k s) ⟨h.sz, .nilSlc,[]⟩)∧St o τ τ' h h':=by
 let S:PT→Prop:=fun t=>t= .sm
 have f':Fr (XS τ o S) h h':=f.mono fun j e=>⟨.sm,rfl,by rw[e];exact O.ts⟩
 have old:∀j,j<h.sz→gI τ (fun j=>j=h.sz) (.own o (.rb (.k s))) j=τ j:=fun j hj=>dS (by omega)
 have lt:=V.lt ok
 have g:Tg τ (gI τ (fun j=>j=h.sz) (.own o (.rb (.k s)))) h h':=⟨old,fun j hj=>by rw[dS (by omega)];exact O.hi j (Nat.le_trans f.sz hj)⟩
 refine⟨_,O.step (T':=T.setRow (.k s) ⟨h.sz, .nilSlc,[]⟩) f' ok g rfl rfl rfl rfl (f'.var O.var (iy O.tp nofun)) (f'.kmap O.fs (iy O.tf nofun)) (f'.kmap O.by' (iy O.tb nofun)) ?_ (fun k x hk=>O.f' f' g nofun nofun hk) (fun i' r' hr'=> ?_),ok,f'.mono fun j ⟨t,_,e⟩=>⟨t,e⟩,old,fun j hj=> ?_⟩
 ·show kK sk h' T.sm (mp rp (nT T.same s _))
  rw[vR, ←Un];exact M
 ·rw[oD] at hr'
  by_cases e:i'= .k s
  ·rw[if_pos e] at hr'
   cases hr';subst e
   exact⟨gL rfl,fun j q=>absurd q eH,V,Buf.nil _ _, .nil,nofun,by simp,fun j q=>absurd q eH⟩
  ·rw[if_neg e] at hr'
   exact O.r' f' g nofun nofun hr'
 ·by_cases q:j=h.sz
  ·exact .inr ⟨⟨_,gL q⟩,by omega⟩
  ·rw[dS (P:=fun j=>j=h.sz) q];exact .inl (O.hi j hj)
theorem SO.delSame {s:SK} (O:SO B τ o h0 h T) (f:Fr (fun j=>j=T.sm) h h') (ok:h'.Ok) (M:kK sk h' T.sm (dl (mp rp T.same) s)):SO B τ o h0 h' {T with same:=zx T.same s}∧St o τ τ h h':=by
 let S:PT→Prop:=fun t=>t= .sm
 have f':Fr (XS τ o S) h h':=f.mono fun j e=>⟨.sm,rfl,by rw[e];exact O.ts⟩
 have g:=O.tg f.sz
 refine⟨O.step (T':={T with same:=zx T.same s}) f' ok g rfl rfl rfl rfl (f'.var O.var (iy O.tp nofun)) (f'.kmap O.fs (iy O.tf nofun)) (f'.kmap O.by' (iy O.tb nofun)) (by rw[Xn, ←Kl] at M;exact M) (fun k x hk=>O.f' f' g nofun nofun hk) (fun i' r' hr'=> ?_),ok,f'.mono fun j ⟨t,_,e⟩=>⟨t,e⟩,fun _ _=>rfl,fun j hj=> .inl (O.hi j hj)⟩
 have:T.row i'=some r':=by
  cases i' with
  |all=>exact hr'
  |c s=>exact hr'
  |k u=>
   have hr':jm (zx T.same s) u=some r':=hr'
   rw[Bb O.nk] at hr'
   by_cases e:u=s
   ·rw[if_pos e] at hr';cases hr'
   ·rw[if_neg e] at hr';exact hr'
 exact O.r' f' g nofun nofun this
theorem SO.l0 (O:SO B τ o h0 h T):au h false 1 (.ptr T.p 0 0 0)=some T.tb:=O.var.get rfl
theorem SO.l1 (O:SO B τ o h0 h T):au h false 1 (.ptr T.p 0 0 1)=some (.int .i64 T.most):=O.var.get rfl
theorem SO.l2 (O:SO B τ o h0 h T):au h false 1 (.ptr T.p 0 0 2)=some (.int .i64 (T.next:Int)):=O.var.get rfl
theorem SO.l3 (O:SO B τ o h0 h T):au h false 1 (.ptr T.p 0 0 3)=some (.int .i64 (T.clock:Int)):=O.var.get rfl
theorem SO.l4 (O:SO B τ o h0 h T):au h false 1 (.ptr T.p 0 0 4)=some (.map T.fm):=O.var.get rfl
theorem SO.l5 (O:SO B τ o h0 h T):au h false 1 (.ptr T.p 0 0 5)=some (.ptr T.all.id 0 0 0):=O.var.get rfl
theorem SO.l6 (O:SO B τ o h0 h T):au h false 1 (.ptr T.p 0 0 6)=some (.map T.bm):=O.var.get rfl
theorem SO.l7 (O:SO B τ o h0 h T):au h false 1 (.ptr T.p 0 0 7)=some (.map T.sm):=O.var.get rfl
theorem SO.lkb (O:SO B τ o h0 h T) {s:Str} {r:RD} (e:T.row (.c s)=some r):fC h (.leaf .str) false .nilPtr (.map T.bm) (.str s)=some (.ptr r.id 0 0 0):=by
 have:=O.by'.look strKeys .nilPtr s
 have e:jm T.by' s=some r:=e
 rw[MI,pW,e] at this;exact this
theorem SO.lkb0 (O:SO B τ o h0 h T) {s:Str} (e:T.row (.c s)=none):fC h (.leaf .str) false .nilPtr (.map T.bm) (.str s)=some .nilPtr:=by
 have:=O.by'.look strKeys .nilPtr s
 have e:jm T.by' s=none:=e
 rw[MI,pW,e] at this;exact this
theorem SO.lks (O:SO B τ o h0 h T) {s:SK} {r:RD} (e:T.row (.k s)=some r):fC h (.st [.str, .str]) false .nilPtr (.map T.sm) (sk s)=some (.ptr r.id 0 0 0):=by
 have:=O.same.look sks .nilPtr s
 have e:jm T.same s=some r:=e
 rw[MI,pW,e] at this;exact this
theorem SO.lks0 (O:SO B τ o h0 h T) {s:SK} (e:T.row (.k s)=none):fC h (.st [.str, .str]) false .nilPtr (.map T.sm) (sk s)=some .nilPtr:=by
 have:=O.same.look sks .nilPtr s
 have e:jm T.same s=none:=e
 rw[MI,pW,e] at this;exact this
theorem SO.lkf (O:SO B τ o h0 h T) (k:Int):fC h (.leaf .int) true .nilPtr (.map T.fm) (.int .i64 k)=some (.tup [((jm T.fs k).map fp).getD .nilPtr, .bool (jm T.fs k).isSome]):=by
 have:=O.fs.look2 intKeys .nilPtr k
 rw[MI,pW] at this
 have h2:((jm T.fs k).map fp).isSome=(jm T.fs k).isSome:=by cases jm T.fs k<;>rfl
 rw[h2] at this;exact this
end
section
variable {B:Nat} {τ:Nat→Tag} {o:Nat} {h:aj} {k:Int} {x:FD}
theorem FO.l0 (F:FO B τ o h k x):au h false 1 (.ptr x.id 0 0 0)=some (.int .i64 k):=F.row.get rfl
theorem FO.l1 (F:FO B τ o h k x):au h false 1 (.ptr x.id 0 0 1)=some (.str x.cls):=F.row.get rfl
theorem FO.l2 (F:FO B τ o h k x):au h false 1 (.ptr x.id 0 0 2)=some x.vv:=F.row.get rfl
theorem FO.l5 (F:FO B τ o h k x):au h false 1 (.ptr x.id 0 0 5)=some x.sv:=F.row.get rfl
end
section
variable {B:Nat} {τ τ':Nat→Tag} {o:Nat} {h0 h h':aj} {T T':SD} {i:IK} {r:RD} {K:aC} {n:Nat} {k:Int} {x:FD} {P:Int→Prop}
theorem St.var (O:SO B τ o h0 h T) (s:St o τ τ' h h') {j:Nat} {c:List AV} (V:Var h j c) (e:τ j= .out):Var h' j c:=s.fr.var V fun⟨t,q⟩=>by rw[e] at q;cases q
theorem Gb (O:SO B τ o h0 h T) (hr:T.row i=some r) (hx:small k) (hnx:k ∉ r.l) (hn:r.l.length<n) (hl:r.l.length<999999)
 (kk:∀h' τ' r',SO B τ' o h0 h' (T.setRow i r')→St o τ τ' h h'→r'.id=r.id→(∀y,y∈r'.l↔y=k∨y∈r.l)→K (.tup []) h'=true):
 aD E (n+3) (.func 28) [.ptr r.id 0 0 0, .int .i64 k] h K=true:=by
 refine acj (O.r i r hr).rn O.ok (Nat.zero_le _) hx hnx hn hl fun h' v' l' R m f ok rows=> ?_
 obtain⟨τ',O',s⟩:=O.rowSet hr R f ok rows
 exact kk h' τ' ⟨r.id,v',l'⟩ O' s rfl m
theorem Cw (O:SO B τ o h0 h T) (hr:T.row i=some r) (hx:small k) (hkr:k∈r.l) (hn:r.l.length<n)
 (kk:∀h' τ' r',SO B τ' o h0 h' (T.setRow i r')→St o τ τ' h h'→r'.id=r.id→(∀y,y∈r'.l↔y∈r.l∧y≠k)→K (.tup []) h'=true):
 aD E (n+3) (.func 40) [.ptr r.id 0 0 0, .int .i64 k] h K=true:=by
 refine ado (O.r i r hr).rn O.ok hx hkr hn fun h' v' l' R m f ok rows=> ?_
 obtain⟨τ',O',s⟩:=O.rowSet hr R (f.mono fun j q=>q) ok fun j q=> .inl (rows j q)
 exact kk h' τ' ⟨r.id,v',l'⟩ O' s rfl m
theorem tX {r':RD} (hP:∀y,y∈r'.l↔P y):Rs T (T.setRow i r') i P:=by
 refine⟨?_,fun j e=>by rw[oD,if_neg e],fun y=> ?_⟩
 ·cases i<;>rfl
 ·rw[oD,if_pos rfl, ←hP]
  constructor
  ·rintro⟨r,e,q⟩;cases e;exact q
  ·exact fun q=>⟨r',rfl,q⟩
def keyOf (x:FD):SK:=(x.cls,nV x.vs)
theorem aaF (O:SO B τ o h0 h T) (hk:(k,x)∈T.fs) (hx:small k) (hnx:∀r,T.row (.k (keyOf x))=some r→k ∉ r.l) (hl:∀r,T.row (.k (keyOf x))=some r→r.l.length<999999) (hB:B<10000000000) (hn:B+1000042≤n) (hL:n<lim-9)
 (kk:∀h' τ' T',SO B τ' o h0 h' T'→St o τ τ' h h'→Rs T T' (.k (keyOf x)) (fun y=>y=k∨∃r,T.row (.k (keyOf x))=some r∧y∈r.l)→K (.tup []) h'=true):
 aD E (n+5) (.func 30) [.ptr T.p 0 0 0, .ptr x.id 0 0 0] h K=true:=by
 have F:=O.f k x hk
 apply d30
 unfold s30
 refine aN ?_;refine aA ?_;refine aF F.l1 ?_;refine aN ?_;refine aA ?_;refine aF F.l2 ?_
 obtain⟨h1,b1,V1,e1,o1,z1⟩:=gW (z:=[AV.str [],AV.str []]) O.ok (by decide) rfl
 refine iW b1 ?_
 have O1:=O.ext e1 o1
 have F1:=O1.f k x hk
 refine fQ F1.l1 (sZ _) ?_
 refine fQ F1.l2 F1.vals.now.sm ?_
 refine WB F1.vals.now o1 (by have:=F.sz;omega) (by have:=F.sz;omega) hL fun h2 e2 o2=> ?_
 obtain⟨h3,w1,V3,w3,o3,w5⟩:=(V1.ext e2).wrs o2 (n:=2) (v:= .agg [.str x.cls, .str (nV x.vs)]) rfl rfl rfl
 refine lq w1 ?_
 have V3:Var h3 h.sz [.str x.cls, .str (nV x.vs)]:=V3
 have e3:Ext h h3:=w3.ext (bH e1 e2) O.ok (Nat.le_refl _)
 have O3:=O.ext e3 o3
 have A3:au h3 true 2 (.ptr h.sz 0 0 0)=some (sk (keyOf x)):=V3.all rfl
 have t3:τ h.sz= .out:=O.hi _ (Nat.le_refl _)
 have s3:St o τ τ h h3:=St.ext e3 o3 O.hi
 have fin:∀h4 τ4 T4 r4,SO B τ4 o h0 h4 T4→St o τ τ4 h h4→τ4 h.sz= .out→Var h4 h.sz [.str x.cls, .str (nV x.vs)]→(k,x)∈T4.fs→T4.p=T.p→T4.row (.k (keyOf x))=some r4→k ∉ r4.l→r4.l.length<999999→
  (∀r',(∀y,y∈r'.l↔y=k∨y∈r4.l)→Rs T (T4.setRow (.k (keyOf x)) r') (.k (keyOf x)) (fun y=>y=k∨∃r,T.row (.k (keyOf x))=some r∧y∈r.l))→
  I7 (aD E (n+4)) (n+4) (.ptr T.p 0 0 0) (.ptr x.id 0 0 0) (.ptr h.sz 0 0 0) h4 K=true:=by
  intro h4 τ4 T4 r4 O4 s4 t4 V4 hk4 hp hr hnr hlr fin'
  unfold I7
  have A4:au h4 true 2 (.ptr h.sz 0 0 0)=some (sk (keyOf x)):=V4.all rfl
  have L7:au h4 false 1 (.ptr T.p 0 0 7)=some (.map T4.sm):=by rw[←hp];exact O4.l7
  have F4:=O4.f k x hk4
  refine aN ?_;refine aA ?_;refine aF L7 ?_;refine aF A4 ?_;refine aF (O4.lks hr) ?_;refine aN ?_;refine aA ?_;refine aF F4.l0 ?_
  refine Gb (n:=n+1) O4 hr hx hnr (by omega) hlr fun h5 τ5 r5 O5 s5 _ m5=> ?_
  exact kk h5 τ5 _ O5 (s4.trans O.ok s5) (fin' r5 m5)
 refine aN ?_;refine aA ?_;refine aF O3.l7 ?_;refine aF A3 ?_
 cases hr:T.row (.k (keyOf x)) with
 |none=>
  refine aF (O3.lks0 hr) ?_;refine bA ?_;refine bN ?_;refine aN ?_;refine aA ?_;refine aF O3.l7 ?_;refine aF A3 ?_
  refine X8 o3 fun h4 e4 o4 z4 V4=> ?_
  have O4:=O3.ext e4 o4
  refine fQ O4.l7 (Aq _) ?_
  have W4:=V3.ext e4
  have A4:au h4 true 2 (.ptr h.sz 0 0 0)=some (sk (keyOf x)):=W4.all rfl
  refine fQ A4 (Rb (by simp only[xP,sZ,Bool.and_self])) ?_
  obtain⟨h5,u1,u2,u3,u4,u5⟩:=O4.same.upd sks (keyOf x) (.ptr h3.sz 0 0 0)
  refine lq u1 ?_
  have lsm:=O3.same.lt o3
  have V5:=u2.var V4 (show h3.sz≠T.sm by omega)
  have hn':jm T.same (keyOf x)=none:=hr
  obtain⟨τ5,O5,s5⟩:=O3.newSame (s:=keyOf x) hn' ((Fr.of_ext e4).trans (Fr.of_but rfl u2)) (u4 o4) V5 u5
  have t5:τ5 h.sz= .out:=by rw[s5.old _ (V3.lt o3)];exact t3
  refine fin h5 τ5 _ ⟨h3.sz, .nilSlc,[]⟩ O5 (s3.trans O.ok s5) t5 (s5.var O3 V3 t3) hk rfl (by rw[oD,if_pos rfl]) (by simp) (by simp) fun r' m=> ?_
  have:=tX (T:=T.setRow (.k (keyOf x)) ⟨h3.sz, .nilSlc,[]⟩) (i:= .k (keyOf x)) (r':=r') (P:=fun y=>y=k∨∃r,T.row (.k (keyOf x))=some r∧y∈r.l) fun y=>by
   rw[m]
   constructor
   ·rintro(q |q)
    ·exact .inl q
    ·cases q
   ·rintro(q |⟨r,e,q⟩)
    ·exact .inl q
    ·rw[hr] at e;cases e
  exact⟨by rw[this.eq];rfl,fun j hj=>by rw[this.ne j hj,oD,if_neg hj],this.at'⟩
 |some r=>
  refine aF (O3.lks hr) ?_;refine bn ?_;refine bO ?_
  refine fin h3 τ T r O3 s3 t3 V3 hk rfl hr (hnx r hr) (hl r hr) fun r' m=> ?_
  refine tX fun y=> ?_
  rw[m]
  constructor
  ·rintro(q |q)
   ·exact .inl q
   ·exact .inr ⟨r,hr,q⟩
  ·rintro(q |⟨r2,e,q⟩)
   ·exact .inl q
   ·rw[hr] at e;cases e;exact .inr q
theorem Z5 (O:SO B τ o h0 h T) (hk:(k,x)∈T.fs) (hx:small k) (hr:T.row (.k (keyOf x))=some r) (hkr:k∈r.l) (hl:r.l.length<999999) (hB:B<10000000000) (hn:B+1000042≤n) (hL:n<lim-9)
 (kk:∀h' τ' T',SO B τ' o h0 h' T'→St o τ τ' h h'→Rs T T' (.k (keyOf x)) (fun y=>y∈r.l∧y≠k)→K (.tup []) h'=true):
 aD E (n+5) (.func 36) [.ptr T.p 0 0 0, .ptr x.id 0 0 0] h K=true:=by
 have F:=O.f k x hk
 apply d36
 unfold s36
 refine aN ?_;refine aA ?_;refine aF F.l1 ?_;refine aN ?_;refine aA ?_;refine aF F.l2 ?_
 obtain⟨h1,b1,V1,e1,o1,z1⟩:=gW (z:=[AV.str [],AV.str []]) O.ok (by decide) rfl
 refine iW b1 ?_
 have O1:=O.ext e1 o1
 have F1:=O1.f k x hk
 refine fQ F1.l1 (sZ _) ?_
 refine fQ F1.l2 F1.vals.now.sm ?_
 refine WB F1.vals.now o1 (by have:=F.sz;omega) (by have:=F.sz;omega) hL fun h2 e2 o2=> ?_
 obtain⟨h3,w1,V3,w3,o3,w5⟩:=(V1.ext e2).wrs o2 (n:=2) (v:= .agg [.str x.cls, .str (nV x.vs)]) rfl rfl rfl
 refine lq w1 ?_
 have V3:Var h3 h.sz [.str x.cls, .str (nV x.vs)]:=V3
 have e3:Ext h h3:=w3.ext (bH e1 e2) O.ok (Nat.le_refl _)
 have O3:=O.ext e3 o3
 have A3:au h3 true 2 (.ptr h.sz 0 0 0)=some (sk (keyOf x)):=V3.all rfl
 have t3:τ h.sz= .out:=O.hi _ (Nat.le_refl _)
 have s3:St o τ τ h h3:=St.ext e3 o3 O.hi
 have F3:=O3.f k x hk
 refine aN ?_;refine aA ?_;refine aF O3.l7 ?_;refine aF A3 ?_;refine aF (O3.lks hr) ?_;refine aN ?_;refine aA ?_;refine aF F3.l0 ?_
 refine Cw (n:=n+1) O3 hr hx hkr (by omega) fun h4 τ4 r4 O4 s4 i4 m4=> ?_
 have V4:=s4.var O3 V3 t3
 have t4:τ4 h.sz= .out:=by rw[s4.old _ (V3.lt o3)];exact t3
 have A4:au h4 true 2 (.ptr h.sz 0 0 0)=some (sk (keyOf x)):=V4.all rfl
 have L7:au h4 false 1 (.ptr T.p 0 0 7)=some (.map T.sm):=O4.l7
 have hr4:(T.setRow (.k (keyOf x)) r4).row (.k (keyOf x))=some r4:=by rw[oD,if_pos rfl]
 have lk4:fC h4 (.st [.str, .str]) false .nilPtr (.map T.sm) (sk (keyOf x))=some (.ptr r4.id 0 0 0):=O4.lks hr4
 have R4:=(O4.r _ r4 hr4).rn
 have A0:au h4 false 1 (.ptr r4.id 0 0 0)=some r4.v:=R4.var.get rfl
 have len4:dw h4 1 r4.v=some (.int .i64 (r4.l.length:Int)):=by have:=R4.buf.view.len;rwa [dN] at this
 refine aN ?_;refine aA ?_;refine aF L7 ?_;refine aF A4 ?_;refine aF lk4 ?_;refine aN ?_;refine aA ?_;refine aF A0 ?_;refine aF len4 ?_;refine aX ?_
 by_cases e:r4.l.length=0
 ·refine iM (decide_eq_true (by omega)) ?_
  refine aN ?_;refine aA ?_;refine aF L7 ?_;refine aF A4 ?_
  obtain⟨h5,u1,u2,u3,u4,u5⟩:=O4.same.del sks (keyOf x)
  have u1:Dm h4 (.st [.str, .str]) (.map T.sm) (sk (keyOf x))=some h5:=u1
  refine lq u1 ?_
  obtain⟨O5,s5⟩:=O4.delSame (Fr.of_but rfl u2) (u4 O4.ok) u5
  refine kk h5 τ4 _ O5 ((s3.trans O.ok s4).trans O.ok s5) ⟨rfl,fun j hj=> ?_,fun y=> ?_⟩
  ·cases j with
   |all=>rfl
   |c s=>rfl
   |k s=>
    show jm (zx (nT T.same (keyOf x) r4) (keyOf x)) s=jm T.same s
    have hs:s≠keyOf x:=fun e=>hj (by rw[e])
    rw[Bb (yO O.nk),if_neg hs,sK,if_neg hs]
  ·constructor
   ·rintro⟨r',q,_⟩
    have q:jm (zx (nT T.same (keyOf x) r4) (keyOf x)) (keyOf x)=some r':=q
    rw[Bb (yO O.nk),if_pos rfl] at q;cases q
   ·intro q
    have:=(m4 y).2 q
    rw[List.length_eq_zero_iff.1 e] at this;cases this
 ·refine iF (decide_eq_false (by omega)) ?_
  exact kk h4 τ4 _ O4 (s3.trans O.ok s4) (tX m4)
end
theorem XZ {m:Nat} (h:m<18446744073709551616):IntKind.u64.wrap (m:Int)=(m:Int):=by
 show(m:Int)%_=_
 exact Int.emod_eq_of_lt (by omega) (by exact_mod_cast h)
theorem RX {i:Nat} (h:i<64):aR .shl (.int .u64 1) (.int .i64 (i:Int))=some (.int .u64 ((2 ^ i:Nat):Int)):=by
 rw[Tm]
 have:UU i=((2 ^ i:Nat):Int):=by
  unfold UU
  rw[Nat.min_eq_left (by omega),Int.one_mul]
  have h2:2 ^ i<18446744073709551616:=Nat.pow_lt_pow_right (a:=2) (n:=64) (m:=i) (by decide) h
  have:((2:Int) ^ i)=((2 ^ i:Nat):Int):=by push_cast;rfl
  rw[this,XZ h2]
 rw[this]
theorem Xd {a b:Nat} (ha:a<18446744073709551616) (hb:b<18446744073709551616):aR .or (.int .u64 (a:Int)) (.int .u64 (b:Int))=some (.int .u64 ((a|||b:Nat):Int)):=by
 rw[or_eq]
 have:orU a b=((a|||b:Nat):Int):=by
  unfold orU
  have h1:(BitVec.ofInt 64 (a:Int)|||BitVec.ofInt 64 (b:Int)).toNat=a|||b:=by
   rw[BitVec.toNat_or,BitVec.ofInt_natCast,BitVec.ofInt_natCast,BitVec.toNat_ofNat,BitVec.toNat_ofNat,Nat.mod_eq_of_lt ha,Nat.mod_eq_of_lt hb]
  rw[h1]
  exact XZ (Nat.or_lt_two_pow (n:=64) ha hb)
 rw[this]
theorem Sd {m i:Nat} (h:i<64):aR .shr (.int .u64 (m:Int)) (.int .i64 (i:Int))=some (.int .u64 ((m >>> i:Nat):Int)):=by
 have:tF (i:Int) 0=false:=by rw[oQ];simp
 simp only[aR,oC,cond_true,wz,this,cond_false]
 have h1:min ((i:Int).toNat) IntKind.u64.bits=i:=by
  rw[Int.toNat_natCast];exact Nat.min_eq_left (by show i≤64;omega)
 rw[h1]
 have:(m:Int).fdiv (2 ^ i)=((m >>> i:Nat):Int):=by
  rw[Nat.shiftRight_eq_div_pow,Int.fdiv_eq_ediv_of_nonneg _ (Int.pow_nonneg (by decide))]
  push_cast;rfl
 rw[←this]
theorem RH {m i:Nat} (hm:m<18446744073709551616):∃v,aR .and (.int .u64 ((m >>> i:Nat):Int)) (.int .u64 1)=some v∧aR .eql v (.int .u64 1)=some (.bool (m.testBit i)):=by
 have hs:m >>> i<18446744073709551616:=Nat.lt_of_le_of_lt (Nat.shiftRight_le _ _) hm
 refine⟨.int .u64 (((m >>> i)&&& 1:Nat):Int), ?_, ?_⟩
 ·rw[iP _ _ _ _ rfl]
  show some (AV.int .u64 (IntKind.u64.wrap (((BitVec.ofInt 64 ((m >>> i:Nat):Int))&&& BitVec.ofInt 64 1).toNat:Nat)))=_
  have h1:(BitVec.ofInt 64 ((m >>> i:Nat):Int)&&& BitVec.ofInt 64 1).toNat=(m >>> i)&&& 1:=by
   rw[BitVec.toNat_and,BitVec.ofInt_natCast,BitVec.toNat_ofNat,Nat.mod_eq_of_lt hs];rfl
  rw[h1,XZ (Nat.lt_of_le_of_lt Nat.and_le_left hs)]
 ·rw[dP]
  congr 2
  rw[Nat.testBit,Nat.and_comm 1]
  have:(m >>> i)&&& 1=0∨(m >>> i)&&& 1=1:=by rw[Nat.and_one_is_mod];omega
  rcases this with e |e<;>rw[e]<;>rfl
theorem aef {n:Nat} {f:lK} {s:Str} {p:Nat} {c:List AV} {K:aC} {h:aj} (ho:h.Ok) (V:Var h p (.str s :: c)) (k:∀h',Ext h h'→h'.Ok→K (.bool (decide (f.name=s))) h'=true):aD E (n+1) (.func 58) [.agg (dZ f), .ptr p 0 0 0] h K=true:=by
 apply d58
 unfold s58
 obtain⟨h2,b,V2,e,o,_⟩:=kZ (n:=3) (v:= .agg (dZ f)) ho rfl (by decide) rfl
 refine iW b ?_
 have V2:Var h2 h.sz (dZ f):=V2
 have A1:au h2 false 1 (.ptr h.sz 0 0 0)=some (.str f.name):=V2.get rfl
 have A2:au h2 false 1 (.ptr p 0 0 0)=some (.str s):=(V.ext e).get rfl
 refine aA ?_;refine aF A1 ?_;refine aA ?_;refine aF A2 ?_;refine bq ?_
 exact k h2 e o
theorem r53 {n:Nat} {v:AV} {fs:List lK} {p:Nat} {s:Str} {c:List AV} {K:aC} {h0:aj} (V:View h0 3 v (fs.map dZ)) (P:Var h0 p (.str s :: c)) (hl:fs.length<lim)
 (k:∀h',Ext h0 h'→h'.Ok→K (.int .i64 (fint (idx s (fnames fs)))) h'=true):∀(m i:Nat) (h:aj),Ext h0 h→h.Ok→i≤fs.length→fs.length-i<m→idx s (fnames fs)=off i (idx s (fnames (fs.drop i)))→
 Ho (aD E (n+1)) (n+1) m v (.fn (.func 58) [] [.ptr p 0 0 0]) (.int .i64 (fs.length:Int)) (.int .i64 (i:Int)) h K=true:=by
 intro m
 induction m with
 |zero=>intro i h _ _ _ hm;omega
 |succ m ih=>
  intro i h e ho hi hm hx
  unfold Ho Qu
  refine aT ?_
  by_cases hlt:i<fs.length
  ·refine iM (decide_eq_true (by omega)) ?_
   have hd:fs.drop i=fs[i] :: fs.drop (i+1):=List.drop_eq_getElem_cons hlt
   have he:(fs.map dZ)[i]? =some (dZ fs[i]):=by simp[hlt]
   obtain⟨id,g,j,p1,p2⟩:=(V.ext e).at he
   have A:au h true 3 (.ptr id g j 0)=some (.agg (dZ fs[i])):=by rw[p2];rfl
   refine aF (p1 .i64) ?_;refine aF A ?_;refine bR ?_
   refine aef ho (P.ext e) fun h' e' o'=> ?_
   rw[hd] at hx
   simp only[fnames,List.map_cons,idx] at hx
   by_cases hs:fs[i].name=s
   ·refine iM (by simpa using hs) ?_
    have:=k h' (e.trans e') o'
    simp only[fnames] at this
    rw[hx] at this
    simpa[hs,off,fint] using this
   ·refine iF (by simpa using hs) ?_
    refine aF (dV (i:=i) (by omega)) ?_
    refine ih (i+1) h' (e.trans e') o' (by omega) (by omega) ?_
    rw[if_neg hs] at hx
    simp only[fnames]
    rw[hx]
    cases idx s (List.map lK.name (List.drop (i+1) fs)) with
    |none=>rfl
    |some x=>simp[off];omega
  ·have:fs.drop i=[]:=List.drop_of_length_le (by omega)
   rw[this] at hx
   refine iF (decide_eq_false (by omega)) ?_
   have:=k h e ho
   rw[hx] at this
   exact this
theorem ads {n:Nat} {v:AV} {fs:List lK} {p:Nat} {s:Str} {c:List AV} {K:aC} {h:aj} (ho:h.Ok) (V:View h 3 v (fs.map dZ)) (P:Var h p (.str s :: c)) (hl:fs.length<lim) (hn:fs.length<n)
 (k:∀h',Ext h h'→h'.Ok→K (.int .i64 (fint (idx s (fnames fs)))) h'=true):aD E (n+2) (.func 57) [v, .fn (.func 58) [] [.ptr p 0 0 0]] h K=true:=by
 apply d57
 unfold ZI
 refine aF V.len ?_
 simp only[List.length_map]
 exact r53 V P hl k (n+1) 0 h (Ext.refl h) ho (by omega) (by omega) (by rw[Ta];rfl)
def zX (T:SD) (x:Int):Option Str:=(jm T.fs x).map FD.cls
theorem ad9 {B:Nat} {τ:Nat→Tag} {o n:Nat} {h0 h:aj} {T:SD} {x:Int} {K:aC} (O:SO B τ o h0 h T) (kk:K (.tup [.str ((zX T x).getD []), .bool (zX T x).isSome]) h=true):aD E (n+1) (.func 60) [.ptr T.p 0 0 0, .int .i64 x] h K=true:=by
 apply d60
 unfold s60
 have L:=O.lkf x
 unfold zX at kk
 cases hx:jm T.fs x with
 |none=>
  rw[hx] at L kk
  have L:fC h (.leaf .int) true .nilPtr (.map T.fm) (.int .i64 x)=some (.tup [.nilPtr, .bool false]):=L
  refine aN ?_;refine aA ?_;refine aF O.l4 ?_;refine aF L ?_;refine aJ ?_;refine aK ?_;refine aM ?_;refine bN ?_
  exact kk
 |some f=>
  rw[hx] at L kk
  have F:=O.f x f (gU hx)
  have L:fC h (.leaf .int) true .nilPtr (.map T.fm) (.int .i64 x)=some (.tup [.ptr f.id 0 0 0, .bool true]):=L
  refine aN ?_;refine aA ?_;refine aF O.l4 ?_;refine aF L ?_;refine aJ ?_;refine aK ?_;refine aL ?_;refine bO ?_;refine aN ?_;refine aA ?_;refine aF F.l1 ?_
  exact kk
def RG (h:aj) (a:List AV) (p:Str×Val):Prop:=∃c,a= .str p.1 :: c∧RV h c p.2
def GV (h:aj) (v:AV) (l:List (Str×Val)):Prop:=∃es,View h 6 v es∧gM (RG h) es l
def Sq (Q:Nat→Prop) (h:aj) (v:AV) (l:List (Str×Val)):Prop:=∀h',Lt Q h h'→GV h' v l
def rE (cs:List Cls) (fs:List lK) (of:Int→Option Str):List (Str×Val)→Nat→List Val→Option (List Val)
 | [],_,vs=>some vs
 |p :: t,m,vs=>match idx p.1 (fnames fs) with
  |none=>none
  |some i=>match fs[i]? with
   |none=>none
   |some f=>if(m.testBit i|| !tO cs f p.2 of)=true then none else rE cs fs of t (m|||2 ^ i) (vs.set i p.2)
def given (cs:List Cls) (name:Str) (of:Int→Option Str) (gs:List (Str×Val)) (vs:List Val):Option (List Val):=
 if(fieldsOf cs name).length<gs.length then none else rE cs (fieldsOf cs name) of gs 0 vs
theorem Bn {α β:Type} {R:α→β→Prop} {a:α} {b:β} (r:R a b):∀{l:List α} {m:List β} (i:Nat),gM R l m→gM R (l.set i a) (m.set i b)
 | [],[],i,h=>by simpa using h
 |_ :: _,[],i,h=>by cases h
 | [],_ :: _,i,h=>by cases h
 |x :: l,y :: m,0, .cons h t=> .cons r t
 |x :: l,y :: m,i+1, .cons h t=> .cons h (Bn r i t)
section
variable {B:Nat} {τ:Nat→Tag} {o:Nat} {h0 h:aj} {T:SD} {K:aC} {n:Nat} {Q:Nat→Prop} {x3 sv:AV} {cs:List Cls} {name:Str} {vals:List Val} {gs:List (Str×Val)}
theorem aay (O:SO B τ o h0 h T) (TR:fJ h0 T.tb cs) (A:Asc cs) (hcs:cs.length≤64) {ci:Nat} (hc:idx name (names cs)=some ci) (hfs:(fieldsOf cs name).length≤62)
 (S:Sq Q h sv gs) (hgB:∀p∈gs,jg p.2≤B) (hvl:vals.length=(fieldsOf cs name).length)
 (W:fieldsOf cs name≠[]→(∃es,Mr h 5 x3 es∧gM (DX (Out τ) h) es vals)∧(∀j,bL x3 j→τ j= .dat)∧∀j,bL x3 j→¬Q j)
 (hB:B<1000000000) (hn:B+1000000≤n) (hL:n+100<lim)
 (kk0:given cs name (zX T) gs vals=none→∀h',SO B τ o h0 h' T→Fr (fun j=>fieldsOf cs name≠[]∧bL x3 j) h h'→K (.bool false) h'=true)
 (kk1:∀vals',given cs name (zX T) gs vals=some vals'→vals'.length=vals.length→∀h',SO B τ o h0 h' T→Fr (fun j=>fieldsOf cs name≠[]∧bL x3 j) h h'→
   (fieldsOf cs name≠[]→∃es,Mr h' 5 x3 es∧gM (DX (Out τ) h') es vals')→K (.bool true) h'=true):
 aD E (n+5) (.func 27) [.ptr T.p 0 0 0, .str name,sv,x3] h K=true:=by
 have hlm:lim=4611686018427387904:=rfl
 apply d27
 unfold s27
 refine aN ?_;refine aA ?_;refine aF O.l0 ?_
 refine u16 (n:=n+2) (TR.ext O.e) A O.ok (by omega) (by omega) (fun e=>by rw[hc] at e;cases e) fun i h1 v hi e1 o1 V1=> ?_
 have glen:∀h',Lt Q h h'→dw h' 1 sv=some (.int .i64 (gs.length:Int)):=fun h' L=>by
  obtain⟨es,a,b⟩:=S h' L;rw[a.len,b.length]
 have L1:Lt Q h h1:=Lt.of_ext e1
 have vlen:dw h1 1 v=some (.int .i64 ((fieldsOf cs name).length:Int)):=by rw[V1.len,List.length_map]
 refine aJ ?_;refine aK ?_;refine aY ?_
 rw[show(!decide ((0:Int)=0))=false from rfl]
 refine aU ?_;refine aI ?_;refine aU ?_;refine aF (glen h1 L1) ?_;refine aU ?_;refine aI ?_;refine aU ?_;refine aF vlen ?_;refine aU ?_;refine bE ?_;refine bM ?_
 have O1:=O.ext e1 o1
 by_cases hgl:(fieldsOf cs name).length<gs.length
 ·rw[decide_eq_true (by omega)]
  refine bN ?_
  exact kk0 (by unfold given;rw[if_pos hgl]) h1 O1 (Fr.of_ext e1)
 ·rw[decide_eq_false (by omega)]
  refine bO ?_
  unfold Kz
  refine aF (glen h1 L1) ?_
  have m0:(AV.int .u64 0)=AV.int .u64 ((0:Nat):Int):=rfl
  rw[m0]
  have g0:given cs name (zX T) gs vals=rE cs (fieldsOf cs name) (zX T) (gs.drop 0) 0 vals:=by unfold given;rw[if_neg hgl];rfl
  rw[g0] at kk0 kk1
  generalize hf:fieldsOf cs name=fs at *
  generalize hX:(fun j=>fs≠[]∧bL x3 j)=X at *
  suffices H:∀m i g mk vs,gs.length-i<m→i≤gs.length→SO B τ o h0 g T→Fr X h g→View g 3 v (fs.map dZ)→(fs≠[]→∃es,Mr g 5 x3 es∧gM (DX (Out τ) g) es vs)→vs.length=vals.length→mk<2 ^ 62→rE cs fs (zX T) (gs.drop 0) 0 vals=rE cs fs (zX T) (gs.drop i) mk vs→
   AU (aD E (n+4)) (n+4) m (.ptr T.p 0 0 0) x3 v (.int .u64 (mk:Int)) sv (.int .i64 (gs.length:Int)) (.int .i64 (i:Int)) g K=true from
   H (n+4) 0 h1 0 vals (by omega) (Nat.zero_le _) O1 (Fr.of_ext e1) V1 (fun q=>let⟨es,a,b⟩:=(W q).1;⟨es,a.ext e1,b.mono fun _ _ r=>r.ext e1⟩) rfl (by decide) rfl
  intro m
  induction m with
  |zero=>intro i g mk vs hm;omega
  |succ m ih=>
   intro i g mk vs hm hi O f V W' hvs hmk hg
   have hX':∀j,X j→fs≠[]∧bL x3 j:=fun j q=>by rw[←hX] at q;exact q
   unfold AU Mk
   refine aT ?_
   by_cases hlt:i<gs.length
   ·refine iM (decide_eq_true (by omega)) ?_
    have hne:fs≠[]:=fun e=>hgl (by rw[e,List.length_nil];omega)
    obtain⟨w1,w2,w3⟩:=W hne
    have xt:∀j,X j→τ j= .dat:=fun j q=>w2 j (hX' j q).2
    have hd:gs.drop i=gs[i] :: gs.drop (i+1):=List.drop_eq_getElem_cons hlt
    have hpm:=hgB gs[i] (List.getElem_mem hlt)
    rw[hd] at hg
    generalize hp:gs[i]=p at *
    have Lg:Lt Q h g:=Lt.of_fr f fun j q=>w3 j (hX' j q).2
    obtain⟨es6,V6,A6⟩:=S g Lg
    obtain⟨e6,he6,c,rfl,Rc⟩:=A6.get (b:=p) (by rw[List.getElem?_eq_getElem hlt,hp])
    obtain⟨id,gg,j6,u6⟩:=V6.atE he6
    obtain⟨p1,p2⟩:=u6 g (Ext.refl g)
    have hc5:=Rc.len5
    obtain⟨r1,r2,r3,r4⟩:=Rc.agg
    rw[r4] at r3
    have A6g:au g true 6 (.ptr id gg j6 0)=some (.agg (.str p.1 :: c)):=by
     rw[p2];simp only[iH,cond_true,List.length_cons,hc5,Nat.zero_add]
     rw[bI.2 (Nat.le_refl 6),cond_true,List.drop_zero,List.take_of_length_le (by simp[hc5])]
    refine aF (p1 .i64) ?_;refine aF A6g ?_
    obtain⟨h2,q2,V2,e2,o2,z2⟩:=gW (z:=[AV.str [],AV.int .i64 0,AV.bool false,AV.int .i64 0,AV.str [],AV.nilSlc]) O.ok (by decide) rfl
    refine iW q2 ?_
    obtain⟨h3,y1,V3,y3,o3,y5⟩:=V2.wrs o2 (n:=6) (v:= .agg (.str p.1 :: c)) (by show(AV.str p.1 :: c).length=6;simp[hc5]) rfl (by show aV (AV.str p.1 :: c)=true;simp only[aV,r3];rfl)
    refine lq y1 ?_
    have V3:Var h3 g.sz (.str p.1 :: c):=V3
    have e3:Ext g h3:=y3.ext e2 O.ok (Nat.le_refl _)
    refine aI ?_
    refine ads (n:=n+2) o3 (V.ext e3) V3 (by omega) (by omega) fun h4 e4 o4=> ?_
    have e34:=bH e3 e4
    have O4:=O.ext e34 o4
    have f4:Fr X h h4:=f.trans (Fr.of_ext e34)
    cases hix:idx p.1 (fnames fs) with
    |none=>
     have hn1:fint none= -1:=rfl
     rw[hn1]
     refine aT ?_
     rw[show decide ((-1:Int)<0)=true from rfl]
     refine aS ?_;refine aS ?_;refine aS ?_;refine aS ?_;refine aS ?_;refine bQ ?_;refine aS ?_;refine aS ?_;refine aS ?_;refine aS ?_;refine aS ?_;refine aS ?_;refine aS ?_;refine aS ?_;refine aS ?_;refine aS ?_;refine aS ?_;refine aS ?_;refine bD ?_;refine aS ?_;refine bQ ?_;refine bN ?_
     exact kk0 (by rw[hg];simp only[rE,hix]) h4 O4 f4
    |some j=>
     have hj:=(mE hix).1
     have hjf:j<fs.length:=by simpa[fnames] using hj
     have hfj:fs[j]? =some fs[j]:=List.getElem?_eq_getElem hjf
     have hn1:fint (some j)=(j:Int):=rfl
     rw[hn1]
     refine aT ?_
     rw[decide_eq_false (show ¬(j:Int)<0 by omega)]
     have hmk2:mk<18446744073709551616:=Nat.lt_trans hmk (by decide)
     obtain⟨vb,mb1,mb2⟩:=RH (i:=j) hmk2
     refine aU ?_;refine aI ?_;refine aU ?_;refine aI ?_;refine aU ?_;refine aF (Sd (m:=mk) (i:=j) (by omega)) ?_;refine aU ?_;refine aF mb1 ?_;refine aU ?_;refine aF mb2 ?_;refine bM ?_
     cases htb:mk.testBit j with
     |true=>
      refine aS ?_;refine aS ?_;refine aS ?_;refine aS ?_;refine aS ?_;refine aS ?_;refine aS ?_;refine aS ?_;refine aS ?_;refine aS ?_;refine aS ?_;refine aS ?_;refine bD ?_;refine aS ?_;refine bQ ?_;refine bN ?_
      exact kk0 (by rw[hg];simp only[rE,hix,hfj,htb,Bool.true_or,if_true]) h4 O4 f4
     |false=>
      have V4:=V.ext e34
      obtain⟨id2,g2,j2,s1,s2⟩:=V4.at (show(fs.map dZ)[j]? =some (dZ fs[j]) by simp[hjf])
      have B1:au h4 true 3 (.ptr id2 g2 j2 0)=some (.agg (dZ fs[j])):=by rw[s2];rfl
      have V34:=V3.ext e4
      have B2:∀h',Ext h4 h'→au h' true 5 (.ptr g.sz 0 0 1)=some (.agg c):=fun h' e'=>by
       rw[(V34.ext e').load]
       simp only[iH,cond_true,List.length_cons,hc5]
       rw[bI.2 (Nat.le_refl 6),cond_true,List.drop_succ_cons,List.drop_zero,List.take_of_length_le (by omega)]
      refine aU ?_;refine aI ?_;refine aU ?_;refine aN ?_;refine aU ?_;refine aA ?_;refine aU ?_;refine aF O4.l0 ?_;refine aU ?_;refine aI ?_;refine aU ?_;refine aI ?_;refine aU ?_;refine aF (s1 .i64) ?_;refine aU ?_;refine aF B1 ?_;refine aU ?_;refine aA ?_;refine aU ?_;refine aF (B2 h4 (Ext.refl _)) ?_;refine aU ?_;refine aI ?_;refine aU ?_;refine aI ?_;refine bF ?_
      refine u27 (n:=n) (TR.ext O4.e) A o4 (RV.ext e34 Rc) (fun x h9 e9 o9 K' k9=>ad9 (n:=n+2) (O4.ext e9 o9) (k9 h9 (Ext.refl _) o9)) hcs (by omega) (by omega) (by omega) fun h5 e5 o5=> ?_
      have O5:=O4.ext e5 o5
      have f5:Fr X h h5:=f4.trans (Fr.of_ext e5)
      have e35:=bH e34 e5
      cases hft:tO cs fs[j] p.2 (zX T) with
      |false=>
       refine aU ?_;refine aM ?_;refine bM ?_;refine bN ?_
       exact kk0 (by rw[hg];simp only[rE,hix,hfj,htb,hft,Bool.false_or,Bool.not_false,if_true]) h5 O5 f5
      |true=>
       have hp2:2 ^ j<2 ^ 62:=Nat.pow_lt_pow_right (by decide) (by omega)
       refine aU ?_;refine aL ?_;refine bM ?_;refine bO ?_;refine aF (RX (i:=j) (by omega)) ?_;refine aF (Xd (a:=mk) (b:=2 ^ j) hmk2 (Nat.lt_trans hp2 (by decide))) ?_;refine aA ?_;refine aF (B2 h5 e5) ?_
       refine Zf (jg p.2) (n+3) (RV.ext e35 Rc) o5 (Nat.le_refl _) (by omega) (by omega) (by omega) fun h6 a' e6 o6 G=> ?_
       have e36:=bH e35 e6
       have O6:=O5.ext e6 o6
       obtain⟨es,M,D⟩:=W' hne
       have M6:=M.ext e36
       have D6:gM (DX (Out τ) h6) es vs:=D.mono fun _ _ r=>r.ext e36
       have hjv:j<vs.length:=by omega
       obtain⟨ej,hej,Rj⟩:=D6.get (List.getElem?_eq_getElem hjv)
       obtain⟨t1,t2,t3,t4⟩:=G.now.agg
       rw[t4] at t3
       obtain⟨id3,g3,i1,i2,h7,i3,M7,b7,z7,o7⟩:=M6.set (x:= .agg a') hej Rj.now.len5 t2 (by rw[t4];exact t3)
       rw[t4] at M7
       have f7:Fr X h6 h7:=Fr.of_but (by rw[←hX];exact⟨hne,i2⟩) b7
       have Da:DX (Out τ) h6 a' p.2:=fun h' L=>G.rd h' fun q ob l1 l2 gq=>L q ob (O5.hi q l1) gq
       have lt6:Lt (Out τ) h6 h7:=Lt.of_fr f7 fun q x=>by show ¬τ q= .out;rw[xt q x];exact nofun
       have D7:gM (DX (Out τ) h7) (es.set j a') (vs.set j p.2):=(Bn Da j D6).mono fun _ _ r=>r.fr lt6 o6 fun q _ e=>e
       have xo:∀q,X q→τ q≠ .out∧∀t,τ q≠ .own o t:=fun q x=>by rw[xt q x];exact⟨nofun,nofun⟩
       have O7:=O6.fr f7 (o7 o6) xo (O6.tg f7.sz)
       have V6':=V.ext e36
       have V7:View h7 3 v (fs.map dZ):=by
        rcases V6' with V6' |⟨id4,g4,s4,cap4,ex4,r4',rfl,k1,k2,k3,k4⟩
        ·exact .inl V6'
        ·refine f7.view (.inr ⟨id4,g4,s4,cap4,ex4,r4',rfl,k1,k2,k3,k4⟩) fun id5 g5 s5 l5 cc5 ex5 q x=> ?_
         cases q
         have:=(hX' _ x).2
         obtain⟨id6,cap6,ex6,r6,rfl,u1,u2,u3,u4,u5⟩:=M6
         rw[←dh.1 this,u1] at k1
         cases k1;omega
       refine aF (i1 .i64) ?_;refine lq i3 ?_;refine aF (dV (i:=i) (by omega)) ?_
       refine ih (i+1) h7 (mk|||2 ^ j) (vs.set j p.2) (by omega) (by omega) O7 ((f5.trans (Fr.of_ext e6)).trans f7) V7 (fun _=>⟨_,M7,D7⟩) (by rw[List.length_set];exact hvs) (Nat.or_lt_two_pow hmk hp2) ?_
       rw[hg]
       simp only[rE,hix,hfj,htb,hft,Bool.false_or,Bool.not_true,Bool.false_eq_true,if_false]
   ·refine iF (decide_eq_false (by omega)) ?_
    have:gs.drop i=[]:=List.drop_of_length_le (by omega)
    rw[this] at hg
    exact kk1 vs (by rw[hg];rfl) hvs g O f W'
end
def jr (T:SD) (i:IK) (y:Int):Prop:=∃r,T.row i=some r∧y∈r.l
theorem FY {h:aj} (o:h.Ok) {κ:Type} (ek:κ→AV):∃h',qN h=some (.map h.sz,h')∧kK ek h' h.sz ([]:List (κ×AV))∧Ext h h'∧h'.Ok∧h'.sz=h.sz+1:=by
 obtain⟨e,m⟩:=Qi (ek:=ek) h
 exact⟨_,e,m,kY o _,o.push _,by simp⟩
noncomputable def vN (τ:Nat→Tag) (o b:Nat):Nat→Tag:=fun j=>if j=b then .own o .fm else if j=b+1 then .own o (.rb .all) else if j=b+2 then .own o .bm else if j=b+3 then .own o .sm else if j=b+4 then .own o .p else τ j
theorem cc9 {B:Nat} {τ:Nat→Tag} {o n:Nat} {h0 h:aj} {p g i s:Nat} {most:Int} {K:aC} (ok:h.Ok) (k0:h0.Ok) (e:Ext h0 h) (t0:∀j,j<h0.sz→τ j= .out) (hi:∀j,h.sz≤j→τ j= .out)
 (kbad:¬(1≤most∧most≤65536)→K (.tup [.nilPtr, .int .i64 1]) h=true)
 (kk:1≤most→most≤65536→∀h' τ' T,SO B τ' o h0 h' T→St o τ τ' h h'→T.tb= .ptr p g i s→T.most=most→T.next=0→T.clock=0→T.fs=[]→T.all.l=[]→T.by'=[]→T.same=[]→K (.tup [.ptr T.p 0 0 0, .int .i64 0]) h'=true):
 aD E (n+2) (.func 23) [.ptr p g i s, .int .i64 most] h K=true:=by
 apply d23
 unfold s23
 refine bn ?_;refine aU ?_;refine aI ?_;refine aU ?_;refine aT ?_;refine bM ?_
 by_cases h1:most<1
 ·rw[decide_eq_true h1]
  refine aS ?_;refine aS ?_;refine bQ ?_;refine bN ?_
  exact kbad (by omega)
 rw[decide_eq_false h1]
 refine aU ?_;refine aI ?_;refine aU ?_;refine bE ?_;refine bM ?_
 by_cases h2:most>65536
 ·rw[decide_eq_true (by omega)]
  refine bN ?_
  exact kbad (by omega)
 rw[decide_eq_false (by omega)]
 refine bO ?_
 obtain⟨g1,a1,M1,e1,o1,z1⟩:=FY ok uy
 refine iW a1 ?_
 refine X8 o1 fun g2 e2 o2 z2 V2=> ?_
 obtain⟨g3,a3,M3,e3,o3,z3⟩:=FY o2 yh
 refine iW a3 ?_
 obtain⟨g4,a4,M4,e4,o4,z4⟩:=FY o3 sk
 refine iW a4 ?_
 have hb:eP [.nilPtr, .int .i64 0, .int .i64 0, .int .i64 0, .nilMap, .nilPtr, .nilMap, .nilMap] [(0,1,(AV.ptr p g i s)),(1,1,(AV.int .i64 most)),(4,1,(AV.map h.sz)),(5,1,(AV.ptr g1.sz 0 0 0)),(6,1,(AV.map g2.sz)),(7,1,(AV.map g3.sz))]=some (.agg [.ptr p g i s, .int .i64 most, .int .i64 0, .int .i64 0, .map h.sz, .ptr g1.sz 0 0 0, .map g2.sz, .map g3.sz]):=rfl
 refine aF hb ?_
 obtain⟨g5,b5,V5,e5,o5,z5⟩:=kZ (n:=8) (v:= .agg [.ptr p g i s, .int .i64 most, .int .i64 0, .int .i64 0, .map h.sz, .ptr g1.sz 0 0 0, .map g2.sz, .map g3.sz]) o4 rfl (by decide) rfl
 refine iW b5 ?_
 have V5:Var g5 g4.sz [.ptr p g i s, .int .i64 most, .int .i64 ((0:Nat):Int), .int .i64 ((0:Nat):Int), .map h.sz, .ptr g1.sz 0 0 0, .map g2.sz, .map g3.sz]:=V5
 have E25:=bH (bH e3 e4) e5
 have E5:Ext h g5:=bH (bH e1 e2) E25
 have s1:g1.sz=h.sz+1:=z1
 have s2:g2.sz=h.sz+2:=by omega
 have s3:g3.sz=h.sz+3:=by omega
 have s4:g4.sz=h.sz+4:=by omega
 have s5:g5.sz=h.sz+5:=by omega
 have old:∀j,j<h.sz→vN τ o h.sz j=τ j:=fun j hj=>by
  unfold vN
  rw[if_neg (by omega),if_neg (by omega),if_neg (by omega),if_neg (by omega),if_neg (by omega)]
 have new:∀j,h.sz+5≤j→vN τ o h.sz j=τ j:=fun j hj=>by
  unfold vN
  rw[if_neg (by omega),if_neg (by omega),if_neg (by omega),if_neg (by omega),if_neg (by omega)]
 have q0:vN τ o h.sz h.sz= .own o .fm:=by unfold vN;rw[if_pos rfl]
 have q1:vN τ o h.sz g1.sz= .own o (.rb .all):=by unfold vN;rw[if_neg (by omega),if_pos (by omega)]
 have q2:vN τ o h.sz g2.sz= .own o .bm:=by unfold vN;rw[if_neg (by omega),if_neg (by omega),if_pos (by omega)]
 have q3:vN τ o h.sz g3.sz= .own o .sm:=by unfold vN;rw[if_neg (by omega),if_neg (by omega),if_neg (by omega),if_pos (by omega)]
 have q4:vN τ o h.sz g4.sz= .own o .p:=by unfold vN;rw[if_neg (by omega),if_neg (by omega),if_neg (by omega),if_neg (by omega),if_pos (by omega)]
 refine kk (by omega) (by omega) g5 (vN τ o h.sz) ⟨g4.sz,h.sz,g2.sz,g3.sz, .ptr p g i s,most,0,0,[],⟨g1.sz, .nilSlc,[]⟩,[],[]⟩
  ⟨o5,k0,bH e E5,fun j hj=> ?_,fun j hj=> ?_,q4,q0,q2,q3,V5,(Fr.of_ext (X:=fun _=>False) (bH e2 E25)).kmap M1 nofun,(Fr.of_ext (X:=fun _=>False) (bH e4 e5)).kmap M3 nofun,(Fr.of_ext (X:=fun _=>False) e5).kmap M4 nofun,nofun,fun i r hr=> ?_⟩
  ⟨o5,Fr.of_ext E5,old,fun j hj=> ?_⟩ rfl rfl rfl rfl rfl rfl rfl rfl
 ·rw[old j (by have:=e.1;omega)];exact t0 j hj
 ·rw[new j (by omega)];exact hi j (by omega)
 ·cases i with
  |all=>
   simp only[SD.row,Option.some.injEq] at hr
   subst hr
   exact⟨q1,fun j q=>absurd q eH,V2.ext E25,Buf.nil _ _, .nil,nofun,by simp,fun j q=>absurd q eH⟩
  |c s=>cases hr
  |k s=>cases hr
 ·by_cases w:h.sz+5≤j
  ·left;rw[new j w];exact hi j hj
  ·right
   refine⟨?_,by omega⟩
   have:j=h.sz∨j=g1.sz∨j=g2.sz∨j=g3.sz∨j=g4.sz:=by omega
   rcases this with rfl |rfl |rfl |rfl |rfl
   ·exact⟨_,q0⟩
   ·exact⟨_,q1⟩
   ·exact⟨_,q2⟩
   ·exact⟨_,q3⟩
   ·exact⟨_,q4⟩
end Go.Proofs.YthmnnlpbnhkhkaaGreat
