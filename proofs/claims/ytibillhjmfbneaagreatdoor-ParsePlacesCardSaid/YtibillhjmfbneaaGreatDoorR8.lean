/-
  Texts that the claim hangs on, part 9.
-/
import Derived.Test.YtibillhjmfbneaaGreatDoorR7
import Derived.KernelRfl
import Derived.Shelf.LaysC
import Derived.Ground.NamesProg
import Derived.Test.YtibillhjmfbneaaGreatDoorProg
import Derived.Conc.MuLone
set_option linter.unusedSimpArgs false
set_option linter.unusedVariables false
namespace Go.Proofs.YtibillhjmfbneaaGreatDoor
open Go.Ab
section
variable {n:Nat} {h0 h:ah} {b:Qp} {v0 v1 v2 w0 w1 w2:AV} {a a':Nat} {K:au}
abbrev C8 (a a':Nat) (h0 h:ah) (v0 v1 v2 w0 w1 w2:AV):Prop:=Cx h [vr a' [w0,w1,w2],vr a [v0,v1,v2]] [] [Ext h0]
set_option maxRecDepth 100000 in
theorem p60 {l:List Nt} {es es':List (List AV)} (hB:cQs l≤big) (hn:3*cQs l+12≤n) (V:View h0 3 v2 es) (R:Br h0 es l) (V':View h0 3 w2 es') (R':Br h0 es' l) (A:C8 a a' h0 h v0 v1 v2 w0 w1 w2)
 (k:∀h',Ext h0 h'→h'.Ok→K (.bool true) h'=true):PV (av E n) n (.ptr a 0 0 0) (.ptr a' 0 0 0) h K=true:=by
 have hbig:big=1000000000:=rfl
 have hlim:lim=4611686018427387904:=rfl
 have hlen:=Vz l
 obtain⟨g1,g2⟩:=R.get
 obtain⟨g1',g2'⟩:=R'.get
 unfold PV
 have lp:∀(m i:Nat) (h:ah),i≤l.length→l.length-i<m→C8 a a' h0 h v0 v1 v2 w0 w1 w2→Ou (av E n) n m (.ptr a 0 0 0) (.ptr a' 0 0 0) (.int .i64 (i:Int)) h K=true:=by
  intro m
  induction m with
  |zero=>intro i h _ hm;omega
  |succ m ih=>
   intro i h hi hm A
   have e0:Ext h0 h:=A.f0
   rw[abM]
   unfold TH
   repeat first |refine fD (V.ext e0) ?_ |refine iZ ?_ |(with_reducible first |refine aB ?_ |refine aY ?_ |refine bY ?_ |refine dn ?_ |refine bN ?_ |refine bC ?_ |refine bH ?_ |refine bV ?_ |refine dR ?_ |refine eX ?_ |refine dV ?_ |refine eG ?_ |refine eY ?_ |refine eF ?_ |refine aG A.var rfl ?_ |refine aG A.v1 rfl ?_ |refine aG A.v2 rfl ?_ |refine aG A.v3 rfl ?_ |refine aL A.var rfl ?_ |refine aL A.v1 rfl ?_ |refine aL A.v2 rfl ?_ |refine aL A.v3 rfl ?_)
   rw[g1]
   by_cases hlt:i<l.length
   ·rw[decide_eq_true hlt]
    have hb:l[i]? =some l[i]:=List.getElem?_eq_getElem hlt
    generalize l[i]=q at hb
    obtain⟨c,hc,Rc⟩:=g2 i q hb
    obtain⟨c',hc',Rc'⟩:=g2' i q hb
    have hw:=U4 hb
    have hq:cQ q=q.name.length+cT q.params+JO q.whn+1:=rfl
    have hT:=Ya q.params
    obtain⟨vp,vw,ew,rfl,Vp,Vw,Rw⟩:=Rc
    obtain⟨vp',vw',ew',rfl,Vp',Vw',Rw'⟩:=Rc'
    repeat first |(with_reducible first |refine aB ?_ |refine aY ?_ |refine bY ?_ |refine dn ?_ |refine bN ?_ |refine bC ?_ |refine bH ?_ |refine bV ?_ |refine dR ?_ |refine eX ?_ |refine dV ?_ |refine eG ?_ |refine eY ?_ |refine eF ?_ |refine aG A.var rfl ?_ |refine aG A.v1 rfl ?_ |refine aG A.v2 rfl ?_ |refine aG A.v3 rfl ?_ |refine aL A.var rfl ?_ |refine aL A.v1 rfl ?_ |refine aL A.v2 rfl ?_ |refine aL A.v3 rfl ?_)
    refine nE (V.ext e0) hc fun i1 g1 j1 q1=> ?_
    repeat first |refine aR (q1 false 0 1) ?_ |(with_reducible first |refine aB ?_ |refine aY ?_ |refine bY ?_ |refine dn ?_ |refine bN ?_ |refine bC ?_ |refine bH ?_ |refine bV ?_ |refine dR ?_ |refine eX ?_ |refine dV ?_ |refine eG ?_ |refine eY ?_ |refine eF ?_ |refine aG A.var rfl ?_ |refine aG A.v1 rfl ?_ |refine aG A.v2 rfl ?_ |refine aG A.v3 rfl ?_ |refine aL A.var rfl ?_ |refine aL A.v1 rfl ?_ |refine aL A.v2 rfl ?_ |refine aL A.v3 rfl ?_)
    refine nE (V'.ext e0) hc' fun i2 g2 j2 q2=> ?_
    repeat first |refine aR (q2 false 0 1) ?_ |refine yY ?_ |(with_reducible first |refine aB ?_ |refine aY ?_ |refine bY ?_ |refine dn ?_ |refine bN ?_ |refine bC ?_ |refine bH ?_ |refine bV ?_ |refine dR ?_ |refine eX ?_ |refine dV ?_ |refine eG ?_ |refine eY ?_ |refine eF ?_ |refine aG A.var rfl ?_ |refine aG A.v1 rfl ?_ |refine aG A.v2 rfl ?_ |refine aG A.v3 rfl ?_ |refine aL A.var rfl ?_ |refine aL A.v1 rfl ?_ |refine aL A.v2 rfl ?_ |refine aL A.v3 rfl ?_)
    refine nE (V.ext e0) hc fun i1 g1 j1 q1=> ?_
    repeat first |refine aR (q1 false 1 1) ?_ |(with_reducible first |refine aB ?_ |refine aY ?_ |refine bY ?_ |refine dn ?_ |refine bN ?_ |refine bC ?_ |refine bH ?_ |refine bV ?_ |refine dR ?_ |refine eX ?_ |refine dV ?_ |refine eG ?_ |refine eY ?_ |refine eF ?_ |refine aG A.var rfl ?_ |refine aG A.v1 rfl ?_ |refine aG A.v2 rfl ?_ |refine aG A.v3 rfl ?_ |refine aL A.var rfl ?_ |refine aL A.v1 rfl ?_ |refine aL A.v2 rfl ?_ |refine aL A.v3 rfl ?_)
    refine nE (V'.ext e0) hc' fun i2 g2 j2 q2=> ?_
    repeat first |refine aR (q2 false 1 1) ?_ |(with_reducible first |refine aB ?_ |refine aY ?_ |refine bY ?_ |refine dn ?_ |refine bN ?_ |refine bC ?_ |refine bH ?_ |refine bV ?_ |refine dR ?_ |refine eX ?_ |refine dV ?_ |refine eG ?_ |refine eY ?_ |refine eF ?_ |refine aG A.var rfl ?_ |refine aG A.v1 rfl ?_ |refine aG A.v2 rfl ?_ |refine aG A.v3 rfl ?_ |refine aL A.var rfl ?_ |refine aL A.v1 rfl ?_ |refine aL A.v2 rfl ?_ |refine aL A.v3 rfl ?_)
    refine c17 (by omega) (by omega) (Vp.ext e0) (Vp'.ext e0) ?_
    refine aI rfl ?_
    repeat first |(with_reducible first |refine aB ?_ |refine aY ?_ |refine bY ?_ |refine dn ?_ |refine bN ?_ |refine bC ?_ |refine bH ?_ |refine bV ?_ |refine dR ?_ |refine eX ?_ |refine dV ?_ |refine eG ?_ |refine eY ?_ |refine eF ?_ |refine aG A.var rfl ?_ |refine aG A.v1 rfl ?_ |refine aG A.v2 rfl ?_ |refine aG A.v3 rfl ?_ |refine aL A.var rfl ?_ |refine aL A.v1 rfl ?_ |refine aL A.v2 rfl ?_ |refine aL A.v3 rfl ?_)
    refine nE (V.ext e0) hc fun i1 g1 j1 q1=> ?_
    repeat first |refine aR (q1 false 2 1) ?_ |(with_reducible first |refine aB ?_ |refine aY ?_ |refine bY ?_ |refine dn ?_ |refine bN ?_ |refine bC ?_ |refine bH ?_ |refine bV ?_ |refine dR ?_ |refine eX ?_ |refine dV ?_ |refine eG ?_ |refine eY ?_ |refine eF ?_ |refine aG A.var rfl ?_ |refine aG A.v1 rfl ?_ |refine aG A.v2 rfl ?_ |refine aG A.v3 rfl ?_ |refine aL A.var rfl ?_ |refine aL A.v1 rfl ?_ |refine aL A.v2 rfl ?_ |refine aL A.v3 rfl ?_)
    refine nE (V'.ext e0) hc' fun i2 g2 j2 q2=> ?_
    repeat first |refine aR (q2 false 2 1) ?_ |(with_reducible first |refine aB ?_ |refine aY ?_ |refine bY ?_ |refine dn ?_ |refine bN ?_ |refine bC ?_ |refine bH ?_ |refine bV ?_ |refine dR ?_ |refine eX ?_ |refine dV ?_ |refine eG ?_ |refine eY ?_ |refine eF ?_ |refine aG A.var rfl ?_ |refine aG A.v1 rfl ?_ |refine aG A.v2 rfl ?_ |refine aG A.v3 rfl ?_ |refine aL A.var rfl ?_ |refine aL A.v1 rfl ?_ |refine aL A.v2 rfl ?_ |refine aL A.v3 rfl ?_)
    refine c15 (by omega) (by omega) A.ok (Vw.ext e0) (Rw.ext e0) (Vw'.ext e0) (Rw'.ext e0) fun h' e' o'=> ?_
    refine aI rfl ?_
    repeat first |(with_reducible first |refine aB ?_ |refine aY ?_ |refine bY ?_ |refine dn ?_ |refine bN ?_ |refine bC ?_ |refine bH ?_ |refine bV ?_ |refine dR ?_ |refine eX ?_ |refine dV ?_ |refine eG ?_ |refine eY ?_ |refine eF ?_ |refine aG A.var rfl ?_ |refine aG A.v1 rfl ?_ |refine aG A.v2 rfl ?_ |refine aG A.v3 rfl ?_ |refine aL A.var rfl ?_ |refine aL A.v1 rfl ?_ |refine aL A.v2 rfl ?_ |refine aL A.v3 rfl ?_)
    refine lD (by omega) ?_
    exact ih (i+1) h' (by omega) (by omega) (Cx.ext A e' o')
   ·rw[decide_eq_false hlt]
    exact bC (k h e0 A.ok)
 exact lp n 0 h (Nat.zero_le _) (by omega) A
set_option maxRecDepth 100000 in
theorem p35 {l:List Fy} {es es':List (List AV)} (hB:cRs l≤big) (hn:3*cRs l+14≤n) (V:View h0 8 v1 es) (R:BG h0 es l) (V':View h0 8 w1 es') (R':BG h0 es' l) (A:C8 a a' h0 h v0 v1 v2 w0 w1 w2)
 (k:∀h,C8 a a' h0 h v0 v1 v2 w0 w1 w2→PV (av E n) n (.ptr a 0 0 0) (.ptr a' 0 0 0) h K=true):NJ (av E n) n (.ptr a 0 0 0) (.ptr a' 0 0 0) h K=true:=by
 have hbig:big=1000000000:=rfl
 have hlim:lim=4611686018427387904:=rfl
 have hlen:=TV l
 obtain⟨g1,g2⟩:=R.get
 obtain⟨g1',g2'⟩:=R'.get
 unfold NJ
 have lp:∀(m i:Nat) (h:ah),i≤l.length→l.length-i<m→C8 a a' h0 h v0 v1 v2 w0 w1 w2→O9 (av E n) n m (.ptr a 0 0 0) (.ptr a' 0 0 0) (.int .i64 (i:Int)) h K=true:=by
  intro m
  induction m with
  |zero=>intro i h _ hm;omega
  |succ m ih=>
   intro i h hi hm A
   have e0:Ext h0 h:=A.f0
   rw[aaI]
   unfold Vq
   repeat first |refine fD (V.ext e0) ?_ |refine iZ ?_ |(with_reducible first |refine aB ?_ |refine aY ?_ |refine bY ?_ |refine dn ?_ |refine bN ?_ |refine bC ?_ |refine bH ?_ |refine bV ?_ |refine dR ?_ |refine eX ?_ |refine dV ?_ |refine eG ?_ |refine eY ?_ |refine eF ?_ |refine aG A.var rfl ?_ |refine aG A.v1 rfl ?_ |refine aG A.v2 rfl ?_ |refine aG A.v3 rfl ?_ |refine aL A.var rfl ?_ |refine aL A.v1 rfl ?_ |refine aL A.v2 rfl ?_ |refine aL A.v3 rfl ?_)
   rw[g1]
   by_cases hlt:i<l.length
   ·rw[decide_eq_true hlt]
    have hb:l[i]? =some l[i]:=List.getElem?_eq_getElem hlt
    generalize l[i]=q at hb
    obtain⟨c,hc,Rc⟩:=g2 i q hb
    obtain⟨c',hc',Rc'⟩:=g2' i q hb
    have hw:=Ve hb
    have hq:cR q=q.name.length+q.group.length+q.flow.length+JO q.whn+cAs q.thn+1:=rfl
    have C1:=Rc.cells
    have C2:=Rc'.cells
    obtain⟨vw,ew,vt,et,rfl,Vw,Rw,Vt,Rt⟩:=Rc
    obtain⟨vw',ew',vt',et',rfl,Vw',Rw',Vt',Rt'⟩:=Rc'
    repeat first |(with_reducible first |refine aB ?_ |refine aY ?_ |refine bY ?_ |refine dn ?_ |refine bN ?_ |refine bC ?_ |refine bH ?_ |refine bV ?_ |refine dR ?_ |refine eX ?_ |refine dV ?_ |refine eG ?_ |refine eY ?_ |refine eF ?_ |refine aG A.var rfl ?_ |refine aG A.v1 rfl ?_ |refine aG A.v2 rfl ?_ |refine aG A.v3 rfl ?_ |refine aL A.var rfl ?_ |refine aL A.v1 rfl ?_ |refine aL A.v2 rfl ?_ |refine aL A.v3 rfl ?_)
    refine sQ (V.ext e0) hc C1.1 ?_
    refine rM A rfl rfl rfl fun x h A=> ?_
    refine Iy A rfl C1.1 rfl C1.2.1 fun h A=> ?_
    have e0:Ext h0 h:=A.f0
    repeat first |refine aG A.v2 rfl ?_ |(with_reducible first |refine aB ?_ |refine aY ?_ |refine bY ?_ |refine dn ?_ |refine bN ?_ |refine bC ?_ |refine bH ?_ |refine bV ?_ |refine dR ?_ |refine eX ?_ |refine dV ?_ |refine eG ?_ |refine eY ?_ |refine eF ?_ |refine aG A.var rfl ?_ |refine aG A.v1 rfl ?_ |refine aG A.v2 rfl ?_ |refine aG A.v3 rfl ?_ |refine aL A.var rfl ?_ |refine aL A.v1 rfl ?_ |refine aL A.v2 rfl ?_ |refine aL A.v3 rfl ?_)
    refine sQ (V'.ext e0) hc' C2.1 ?_
    refine rM A rfl rfl rfl fun x' h A=> ?_
    refine Iy A rfl C2.1 rfl C2.2.1 fun h A=> ?_
    have e0:Ext h0 h:=A.f0
    repeat first |refine zl ?_ |refine yY ?_ |refine af4 ?_ |(with_reducible first |refine aB ?_ |refine aY ?_ |refine bY ?_ |refine dn ?_ |refine bN ?_ |refine bC ?_ |refine bH ?_ |refine bV ?_ |refine dR ?_ |refine eX ?_ |refine dV ?_ |refine eG ?_ |refine eY ?_ |refine eF ?_ |refine aG A.var rfl ?_ |refine aG A.v1 rfl ?_ |refine aG A.v2 rfl ?_ |refine aG A.v3 rfl ?_ |refine aL A.var rfl ?_ |refine aL A.v1 rfl ?_ |refine aL A.v2 rfl ?_ |refine aL A.v3 rfl ?_)
    refine c15 (by omega) (by omega) A.ok (Vw.ext e0) (Rw.ext e0) (Vw'.ext e0) (Rw'.ext e0) fun h e' o'=> ?_
    have A:=A.ext e' o'
    have e0:Ext h0 h:=A.f0
    refine aI rfl ?_
    unfold Gh
    repeat first |(with_reducible first |refine aB ?_ |refine aY ?_ |refine bY ?_ |refine dn ?_ |refine bN ?_ |refine bC ?_ |refine bH ?_ |refine bV ?_ |refine dR ?_ |refine eX ?_ |refine dV ?_ |refine eG ?_ |refine eY ?_ |refine eF ?_ |refine aG A.var rfl ?_ |refine aG A.v1 rfl ?_ |refine aG A.v2 rfl ?_ |refine aG A.v3 rfl ?_ |refine aL A.var rfl ?_ |refine aL A.v1 rfl ?_ |refine aL A.v2 rfl ?_ |refine aL A.v3 rfl ?_)
    refine c16 (by omega) (by omega) A.ok (Vt.ext e0) (Rt.ext e0) (Vt'.ext e0) (Rt'.ext e0) fun h e' o'=> ?_
    have A:=A.ext e' o'
    refine aI rfl ?_
    unfold IB
    repeat first |(with_reducible first |refine aB ?_ |refine aY ?_ |refine bY ?_ |refine dn ?_ |refine bN ?_ |refine bC ?_ |refine bH ?_ |refine bV ?_ |refine dR ?_ |refine eX ?_ |refine dV ?_ |refine eG ?_ |refine eY ?_ |refine eF ?_ |refine aG A.var rfl ?_ |refine aG A.v1 rfl ?_ |refine aG A.v2 rfl ?_ |refine aG A.v3 rfl ?_ |refine aL A.var rfl ?_ |refine aL A.v1 rfl ?_ |refine aL A.v2 rfl ?_ |refine aL A.v3 rfl ?_)
    refine lD (by omega) ?_
    exact ih (i+1) h (by omega) (by omega) A.rest.rest
   ·rw[decide_eq_false hlt]
    exact bC (k h A)
 exact lp n 0 h (Nat.zero_le _) (by omega) A
set_option maxRecDepth 100000 in
theorem p14 {l:List Cls} {es es':List (List AV)} (hB:cKs l≤big) (hn:3*cKs l+14≤n) (V:View h0 3 v0 es) (R:AB h0 es l) (V':View h0 3 w0 es') (R':AB h0 es' l) (A:C8 a a' h0 h v0 v1 v2 w0 w1 w2)
 (k:∀h,C8 a a' h0 h v0 v1 v2 w0 w1 w2→NJ (av E n) n (.ptr a 0 0 0) (.ptr a' 0 0 0) h K=true):Vy (av E n) n (.ptr a 0 0 0) (.ptr a' 0 0 0) h K=true:=by
 have hbig:big=1000000000:=rfl
 have hlim:lim=4611686018427387904:=rfl
 have hlen:=TU l
 obtain⟨g1,g2⟩:=R.get
 obtain⟨g1',g2'⟩:=R'.get
 have e0:Ext h0 h:=A.f0
 unfold Vy
 have lp:∀(m i:Nat),i≤l.length→l.length-i<m→Oi (av E n) n m (.ptr a 0 0 0) (.ptr a' 0 0 0) (.int .i64 (i:Int)) h K=true:=by
  intro m
  induction m with
  |zero=>intro i _ hm;omega
  |succ m ih=>
   intro i hi hm
   rw[aay]
   unfold Uz
   repeat first |refine fD (V.ext e0) ?_ |refine iZ ?_ |(with_reducible first |refine aB ?_ |refine aY ?_ |refine bY ?_ |refine dn ?_ |refine bN ?_ |refine bC ?_ |refine bH ?_ |refine bV ?_ |refine dR ?_ |refine eX ?_ |refine dV ?_ |refine eG ?_ |refine eY ?_ |refine eF ?_ |refine aG A.var rfl ?_ |refine aG A.v1 rfl ?_ |refine aG A.v2 rfl ?_ |refine aG A.v3 rfl ?_ |refine aL A.var rfl ?_ |refine aL A.v1 rfl ?_ |refine aL A.v2 rfl ?_ |refine aL A.v3 rfl ?_)
   rw[g1]
   by_cases hlt:i<l.length
   ·rw[decide_eq_true hlt]
    have hb:l[i]? =some l[i]:=List.getElem?_eq_getElem hlt
    generalize l[i]=q at hb
    obtain⟨c,hc,Rc⟩:=g2 i q hb
    obtain⟨c',hc',Rc'⟩:=g2' i q hb
    have hw:=Uj hb
    have hq:cK q=q.name.length+q.super.length+cF q.fields+1:=rfl
    have hT:=ZA q.fields
    obtain⟨vp,rfl,Vp⟩:=Rc
    obtain⟨vp',rfl,Vp'⟩:=Rc'
    repeat first |(with_reducible first |refine aB ?_ |refine aY ?_ |refine bY ?_ |refine dn ?_ |refine bN ?_ |refine bC ?_ |refine bH ?_ |refine bV ?_ |refine dR ?_ |refine eX ?_ |refine dV ?_ |refine eG ?_ |refine eY ?_ |refine eF ?_ |refine aG A.var rfl ?_ |refine aG A.v1 rfl ?_ |refine aG A.v2 rfl ?_ |refine aG A.v3 rfl ?_ |refine aL A.var rfl ?_ |refine aL A.v1 rfl ?_ |refine aL A.v2 rfl ?_ |refine aL A.v3 rfl ?_)
    refine nE (V.ext e0) hc fun i1 g1 j1 q1=> ?_
    repeat first |refine aR (q1 false 0 1) ?_ |(with_reducible first |refine aB ?_ |refine aY ?_ |refine bY ?_ |refine dn ?_ |refine bN ?_ |refine bC ?_ |refine bH ?_ |refine bV ?_ |refine dR ?_ |refine eX ?_ |refine dV ?_ |refine eG ?_ |refine eY ?_ |refine eF ?_ |refine aG A.var rfl ?_ |refine aG A.v1 rfl ?_ |refine aG A.v2 rfl ?_ |refine aG A.v3 rfl ?_ |refine aL A.var rfl ?_ |refine aL A.v1 rfl ?_ |refine aL A.v2 rfl ?_ |refine aL A.v3 rfl ?_)
    refine nE (V'.ext e0) hc' fun i2 g2 j2 q2=> ?_
    repeat first |refine aR (q2 false 0 1) ?_ |refine yY ?_ |(with_reducible first |refine aB ?_ |refine aY ?_ |refine bY ?_ |refine dn ?_ |refine bN ?_ |refine bC ?_ |refine bH ?_ |refine bV ?_ |refine dR ?_ |refine eX ?_ |refine dV ?_ |refine eG ?_ |refine eY ?_ |refine eF ?_ |refine aG A.var rfl ?_ |refine aG A.v1 rfl ?_ |refine aG A.v2 rfl ?_ |refine aG A.v3 rfl ?_ |refine aL A.var rfl ?_ |refine aL A.v1 rfl ?_ |refine aL A.v2 rfl ?_ |refine aL A.v3 rfl ?_)
    refine nE (V.ext e0) hc fun i1 g1 j1 q1=> ?_
    repeat first |refine aR (q1 false 1 1) ?_ |(with_reducible first |refine aB ?_ |refine aY ?_ |refine bY ?_ |refine dn ?_ |refine bN ?_ |refine bC ?_ |refine bH ?_ |refine bV ?_ |refine dR ?_ |refine eX ?_ |refine dV ?_ |refine eG ?_ |refine eY ?_ |refine eF ?_ |refine aG A.var rfl ?_ |refine aG A.v1 rfl ?_ |refine aG A.v2 rfl ?_ |refine aG A.v3 rfl ?_ |refine aL A.var rfl ?_ |refine aL A.v1 rfl ?_ |refine aL A.v2 rfl ?_ |refine aL A.v3 rfl ?_)
    refine nE (V'.ext e0) hc' fun i2 g2 j2 q2=> ?_
    repeat first |refine aR (q2 false 1 1) ?_ |refine yY ?_ |(with_reducible first |refine aB ?_ |refine aY ?_ |refine bY ?_ |refine dn ?_ |refine bN ?_ |refine bC ?_ |refine bH ?_ |refine bV ?_ |refine dR ?_ |refine eX ?_ |refine dV ?_ |refine eG ?_ |refine eY ?_ |refine eF ?_ |refine aG A.var rfl ?_ |refine aG A.v1 rfl ?_ |refine aG A.v2 rfl ?_ |refine aG A.v3 rfl ?_ |refine aL A.var rfl ?_ |refine aL A.v1 rfl ?_ |refine aL A.v2 rfl ?_ |refine aL A.v3 rfl ?_)
    refine nE (V.ext e0) hc fun i1 g1 j1 q1=> ?_
    repeat first |refine aR (q1 false 2 1) ?_ |(with_reducible first |refine aB ?_ |refine aY ?_ |refine bY ?_ |refine dn ?_ |refine bN ?_ |refine bC ?_ |refine bH ?_ |refine bV ?_ |refine dR ?_ |refine eX ?_ |refine dV ?_ |refine eG ?_ |refine eY ?_ |refine eF ?_ |refine aG A.var rfl ?_ |refine aG A.v1 rfl ?_ |refine aG A.v2 rfl ?_ |refine aG A.v3 rfl ?_ |refine aL A.var rfl ?_ |refine aL A.v1 rfl ?_ |refine aL A.v2 rfl ?_ |refine aL A.v3 rfl ?_)
    refine nE (V'.ext e0) hc' fun i2 g2 j2 q2=> ?_
    repeat first |refine aR (q2 false 2 1) ?_ |(with_reducible first |refine aB ?_ |refine aY ?_ |refine bY ?_ |refine dn ?_ |refine bN ?_ |refine bC ?_ |refine bH ?_ |refine bV ?_ |refine dR ?_ |refine eX ?_ |refine dV ?_ |refine eG ?_ |refine eY ?_ |refine eF ?_ |refine aG A.var rfl ?_ |refine aG A.v1 rfl ?_ |refine aG A.v2 rfl ?_ |refine aG A.v3 rfl ?_ |refine aL A.var rfl ?_ |refine aL A.v1 rfl ?_ |refine aL A.v2 rfl ?_ |refine aL A.v3 rfl ?_)
    refine c14 (by omega) (by omega) (Vp.ext e0) (Vp'.ext e0) ?_
    refine aI rfl ?_
    repeat first |(with_reducible first |refine aB ?_ |refine aY ?_ |refine bY ?_ |refine dn ?_ |refine bN ?_ |refine bC ?_ |refine bH ?_ |refine bV ?_ |refine dR ?_ |refine eX ?_ |refine dV ?_ |refine eG ?_ |refine eY ?_ |refine eF ?_ |refine aG A.var rfl ?_ |refine aG A.v1 rfl ?_ |refine aG A.v2 rfl ?_ |refine aG A.v3 rfl ?_ |refine aL A.var rfl ?_ |refine aL A.v1 rfl ?_ |refine aL A.v2 rfl ?_ |refine aL A.v3 rfl ?_)
    refine lD (by omega) ?_
    exact ih (i+1) (by omega) (by omega)
   ·rw[decide_eq_false hlt]
    exact bC (k h A)
 exact lp n 0 (Nat.zero_le _) (by omega)
set_option maxRecDepth 100000 in
theorem c8 {c c':List AV} (hB:aeT b≤big) (hn:3*aeT b+20≤n) (ho:h.Ok) (R:sw h c b) (R':sw h c' b) (k:∀h',Ext h h'→h'.Ok→K (.bool true) h'=true):av E n (.func 8) [.agg c, .agg c'] h K=true:=by
 obtain⟨n,rfl⟩:∃m,n=m+1:=⟨n-1,by omega⟩
 have hb:aeT b=cKs b.classes+cRs b.rules+cQs b.queries:=rfl
 have C1:=R.cells
 have C2:=R'.cells
 obtain⟨v0,e0,v1,e1,v2,e2,rfl,V0,R0,V1,R1,V2,R2⟩:=R
 obtain⟨w0,f0,w1,f1,w2,f2,rfl,W0,S0,W1,S1,W2,S2⟩:=R'
 have A:=Cx.start ho (F:=[]) (fun R m=>nomatch m)
 apply d8
 unfold s8
 refine yO A C1.1 rfl C1.2 fun a h1 A=> ?_
 refine LQ A C2.1 rfl C2.2 fun a' h1 A=> ?_
 have A:=A.swapL
 have e:Ext h h1:=A.f0
 repeat first |refine fD (V0.ext e) ?_ |refine fD (W0.ext e) ?_ |(with_reducible first |refine aB ?_ |refine aY ?_ |refine bY ?_ |refine dn ?_ |refine bN ?_ |refine bC ?_ |refine bH ?_ |refine bV ?_ |refine dR ?_ |refine eX ?_ |refine dV ?_ |refine eG ?_ |refine eY ?_ |refine eF ?_ |refine aG A.var rfl ?_ |refine aG A.v1 rfl ?_ |refine aG A.v2 rfl ?_ |refine aG A.v3 rfl ?_ |refine aL A.var rfl ?_ |refine aL A.v1 rfl ?_ |refine aL A.v2 rfl ?_ |refine aL A.v3 rfl ?_)
 rw[R0.len,S0.len,decide_eq_true rfl,Bool.not_true]
 repeat first |refine fD (V1.ext e) ?_ |refine fD (W1.ext e) ?_ |(with_reducible first |refine aB ?_ |refine aY ?_ |refine bY ?_ |refine dn ?_ |refine bN ?_ |refine bC ?_ |refine bH ?_ |refine bV ?_ |refine dR ?_ |refine eX ?_ |refine dV ?_ |refine eG ?_ |refine eY ?_ |refine eF ?_ |refine aG A.var rfl ?_ |refine aG A.v1 rfl ?_ |refine aG A.v2 rfl ?_ |refine aG A.v3 rfl ?_ |refine aL A.var rfl ?_ |refine aL A.v1 rfl ?_ |refine aL A.v2 rfl ?_ |refine aL A.v3 rfl ?_)
 rw[R1.len,S1.len,decide_eq_true rfl,Bool.not_true]
 repeat first |refine fD (V2.ext e) ?_ |refine fD (W2.ext e) ?_ |(with_reducible first |refine aB ?_ |refine aY ?_ |refine bY ?_ |refine dn ?_ |refine bN ?_ |refine bC ?_ |refine bH ?_ |refine bV ?_ |refine dR ?_ |refine eX ?_ |refine dV ?_ |refine eG ?_ |refine eY ?_ |refine eF ?_ |refine aG A.var rfl ?_ |refine aG A.v1 rfl ?_ |refine aG A.v2 rfl ?_ |refine aG A.v3 rfl ?_ |refine aL A.var rfl ?_ |refine aL A.v1 rfl ?_ |refine aL A.v2 rfl ?_ |refine aL A.v3 rfl ?_)
 rw[R2.len,S2.len,decide_eq_true rfl,Bool.not_true]
 repeat first |(with_reducible first |refine aB ?_ |refine aY ?_ |refine bY ?_ |refine dn ?_ |refine bN ?_ |refine bC ?_ |refine bH ?_ |refine bV ?_ |refine dR ?_ |refine eX ?_ |refine dV ?_ |refine eG ?_ |refine eY ?_ |refine eF ?_ |refine aG A.var rfl ?_ |refine aG A.v1 rfl ?_ |refine aG A.v2 rfl ?_ |refine aG A.v3 rfl ?_ |refine aL A.var rfl ?_ |refine aL A.v1 rfl ?_ |refine aL A.v2 rfl ?_ |refine aL A.v3 rfl ?_)
 refine p14 (by omega) (by omega) V0 R0 W0 S0 A fun h1 A=> ?_
 refine p35 (by omega) (by omega) V1 R1 W1 S1 A fun h1 A=> ?_
 exact p60 (by omega) (by omega) V2 R2 W2 S2 A k
end
theorem Zg {s:Str} {kk:Nat} (h:H8 kk s≠ .error 0):∀T,wo s= .ok T→wV T kk 0 0≠ .out:=by
 intro T hl hf
 apply h
 unfold H8
 rw[hl]
 simp only[hf]
theorem Yx {h:ah} {v:AV} {n:Nat} {es:List (List AV)} {k:AV→Bool} (m:Int) (V:View h n v es) (e:(es.length:Int)=m) (s:k (.int .i64 m)=true):gu v k=true:=fD V (by rw[e];exact s)
def ZO:Str:=[114,117,108,101,32,34,114,34,32,115,97,108,105,101,110,99,101,32,45,50,32,119,104,101,110,32,36,112,32,58,32,80,40,120,32,62,32,49,44,32,36,121,32,58,32,121,41,32,110,111,116,32,40,81,40,122,32,61,61,32,36,121,41,41,32,116,104,101,110,32,105,110,115,101,114,116,32,82,32,123,32,97,32,61,32,36,121,32,43,32,49,32,125,59,32,101,110,100]
def Y6:Str:=[114,117,108,101]
theorem Xu:(match H8 200 ZO with
 | .ok b=>match b.rules with
   | [r]=>decide (r.sal= -2)&&decide (r.whn.length=2)
   |_=>false
 | .error _=>false)=true:=by kernel_rfl
theorem Wx:(match H8 200 Y6 with
 | .ok b=>false
 | .error e=>decide (e=4))=true:=by kernel_rfl
section
variable {h:ah} {L:jf} {S:List Sl} {F:List (ah→Prop)} {n:Nat} {K:au}
theorem c9 (hn:2000≤n) (hg:GvF∈F) (A:Cx h L S F) (k:∀h,K (.bool true) h=true):av E n (.func 9) [] h K=true:=by
 obtain⟨n,rfl⟩:∃m,n=m+1:=⟨n-1,by omega⟩
 apply d9
 unfold s9
 have h1:=Xu
 cases hp:H8 200 ZO with
 |error e=>rw[hp] at h1;cases h1
 |ok b=>
  rw[hp] at h1
  simp only at h1
  obtain⟨r,hr⟩:∃r,b.rules=[r]:=by
   cases hb:b.rules with
   |nil=>rw[hb] at h1;cases h1
   |cons r l=>
    cases l with
    |nil=>exact⟨r,rfl⟩
    |cons r' l=>rw[hb] at h1;cases h1
  rw[hr] at h1
  simp only[Bool.and_eq_true,decide_eq_true_eq] at h1
  refine c6k (s:=ZO) (kk:=200) (by omega) (by omega) (by show 98+40≤n;omega) (by decide) (by show 98≤4096;omega) hg A (Zg (by rw[hp];simp)) ?_
  rw[hp]
  intro h c A
  have C:=(A.f0:sw h c b).cells
  refine aI rfl ?_
  unfold LW
  refine jl (jh (tJ ?_))
  refine rM A rfl rfl rfl fun a h A=> ?_
  refine Iy A rfl C.1 rfl C.2 fun h A=> ?_
  have h2:=Wx
  cases hp2:H8 200 Y6 with
  |ok b=>rw[hp2] at h2;cases h2
  |error e=>
   rw[hp2] at h2
   have h2:e=4:=of_decide_eq_true h2
   subst h2
   refine c6k (s:=Y6) (kk:=200) (by omega) (by omega) (by show 4+40≤n;omega) (by decide) (by show 4≤4096;omega) (List.mem_cons_of_mem _ hg) A (Zg (by rw[hp2];intro q;cases q)) ?_
   rw[hp2]
   intro h A
   refine aI rfl ?_
   unfold MH
   refine jl (jh (tJ ?_))
   refine bT A rfl rfl rfl fun a2 h A=> ?_
   refine gL A rfl rfl rfl rfl fun h A=> ?_
   obtain⟨v0,e0,v1,e1,v2,e2,rfl,V0,R0,V1,R1,V2,R2⟩:=(A.f0:sw h c b)
   rw[hr] at R1
   obtain⟨c,e1,rfl,⟨vw,ew,vt,et,rfl,Vw,Rw,Vt,Rt⟩,rfl⟩:=R1
   have hw:=Rw.len
   rw[h1.2] at hw
   have hw:((ew.length:Nat):Int)=2:=by rw[hw];rfl
   repeat first |refine J6 ?_ |refine Yx 1 V1 rfl ?_ |(with_reducible first |refine aB ?_ |refine bH ?_ |refine dV ?_ |refine aG A.var rfl ?_)
   refine nE (i:=0) V1 rfl fun i1 g1 j1 q1=> ?_
   have hs:dZ h false 1 (.ptr i1 g1 j1 1)=some (.int .i64 (-2)):=by
    rw[q1 false 1 1]
    show some (AV.int .i64 r.sal)=_
    rw[h1.1]
   repeat first |refine J6 ?_ |refine aR hs ?_ |(with_reducible first |refine aB ?_ |refine bH ?_ |refine dV ?_ |refine aG A.var rfl ?_)
   refine nE (i:=0) V1 rfl fun i2 g2 j2 q2=> ?_
   repeat first |refine J6 ?_ |refine aR (q2 false 6 1) ?_ |refine Yx 2 Vw hw ?_ |(with_reducible first |refine aY ?_ |refine bH ?_ |refine dV ?_)
   exact k h
end
theorem abN {s:Str} {e:Nat} (hs:s.length≤4096) (h:abw s= .error e):wo s= .error e∨∃T i,wo s= .ok T∧e=FB T s.length i∧wV T 100000 0 0= .fail i:=by
 unfold abw H8 at h
 cases hl:wo s with
 |error x=>rw[hl] at h;cases h;exact .inl rfl
 |ok T=>
  rw[hl] at h
  simp only at h
  cases hf:wV T 100000 0 0 with
  |out=>exact absurd hf (Vv (FP hs hl).len)
  |fail x=>rw[hf] at h;cases h;exact .inr ⟨T,x,rfl,rfl,hf⟩
  |ok b i o=>rw[hf] at h;cases h
theorem aao {T:List Lx} {en i:Nat}:(decide ((FB T en i:Int)=(en:Int))||T.any fun y=>decide ((y.beg:Int)=(FB T en i:Int)))=true:=by
 unfold FB
 cases e:T[i]? with
 |none=>simp
 |some y=>
  simp only[Bool.or_eq_true,List.any_eq_true,decide_eq_true_eq]
  exact .inr ⟨y,List.mem_of_getElem? e,rfl⟩
theorem sw.zero {h:ah}:sw h Qk ⟨[],[],[]⟩:=⟨.nilSlc,[], .nilSlc,[], .nilSlc,[],rfl,View.nil h 3,rfl,View.nil h 8,rfl,View.nil h 3,rfl⟩
section
variable {h:ah} {L:jf} {S:List Sl} {F:List (ah→Prop)} {n:Nat} {x0:AV} {ls:List Str} {K:au}
theorem l59 {B:AV→AV→ah→Bool} {x3 v:AV} {e:Nat} {T:List Lx} (hT:T.length≤4096) (V:View h 4 v (T.map jP)) (k:EZ (av E n) n B x0 x3 h K=true):∀(m j:Nat) (acc:Bool),j≤T.length→T.length-j<m→(acc||(T.drop j).any fun y=>decide ((y.beg:Int)=(e:Int)))=true→
 OI (av E n) n B m x0 x3 (.int .i64 (e:Int)) v (.bool acc) (.int .i64 (j:Int)) h K=true:=by
 have hlim:lim=4611686018427387904:=rfl
 intro m
 induction m with
 |zero=>intro j acc _ hm;omega
 |succ m ih=>
  intro j acc hj hm ha
  rw[abn]
  unfold Un
  refine fD V ?_;refine iZ ?_
  rw[List.length_map]
  by_cases hlt:j<T.length
  ·rw[decide_eq_true hlt]
   have hb:T[j]? =some T[j]:=List.getElem?_eq_getElem hlt
   rw[List.drop_eq_getElem_cons hlt,List.any_cons] at ha
   generalize T[j]=y at hb ha
   have hb':=Bd hb
   cases acc with
   |true=>
    repeat first |(with_reducible first |refine bN ?_ |refine lK ?_ |refine dV ?_)
    refine lD (by omega) ?_
    exact ih (j+1) true (by omega) (by omega) rfl
   |false=>
    repeat first |(with_reducible first |refine aY ?_ |refine bN ?_ |refine bV ?_)
    refine nE V hb' fun i1 g1 j1 q1=> ?_
    refine aR (q1 false 2 1) ?_;refine bV ?_;refine aY ?_;refine bV ?_;refine oO ?_;refine eG ?_
    refine lD (by omega) ?_
    rw[Bool.false_or] at ha
    exact ih (j+1) _ (by omega) (by omega) ha
  ·rw[decide_eq_false hlt]
   rw[List.drop_of_length_le (by omega),List.any_nil,Bool.or_false] at ha
   subst ha
   refine bC ?_
   unfold ZE
   exact bY (bC k)
theorem c3 (hn:1000000000≤n) (hg:GvF∈F) (hv:(fun h=>View h 1 x0 (ls.map oC))∈F) (hb:∀s∈ls,∀b∈s,b<256) (A:Cx h L S F) (k:∀h,K (.bool true) h=true):av E n (.func 3) [x0] h K=true:=by
 have hlim:lim=4611686018427387904:=rfl
 obtain⟨n,rfl⟩:∃m,n=m+1:=⟨n-1,by omega⟩
 apply d3
 unfold s3
 have wk:∀h,Cx h L S F→UK (av E n) n h K=true:=by
  intro h A
  unfold UK
  exact c9 (by omega) hg A fun h=>aI rfl (k h)
 have lp:∀(m i:Nat) (h:ah),i≤6→6-i<m→Cx h L S F→WI (av E n) n m x0 (.int .i64 (i:Int)) h K=true:=by
  intro m
  induction m with
  |zero=>intro i h _ hm;omega
  |succ m ih=>
   intro i h hi hm A
   have V:View h 1 x0 (ls.map oC):=A.fact hv
   rw[adL]
   unfold abt
   refine fD V ?_;refine iZ ?_
   rw[List.length_map]
   by_cases hlt:i<ls.length
   ·rw[decide_eq_true hlt]
    refine bH ?_;refine aY ?_;refine bH ?_;refine eY ?_;refine dV ?_
    by_cases h6:i<6
    ·rw[decide_eq_true (show((i:Nat):Int)<6 by omega)]
     have next:∀h,Cx h L S F→EZ (av E n) n (fun x0 x3 h=>WI (av E n) n m x0 x3 h K) x0 (.int .i64 (i:Int)) h K=true:=by
      intro h A
      unfold EZ
      refine lD (by omega) ?_
      exact ih (i+1) h (by omega) (by omega) A
     have hs:ls[i]? =some ls[i]:=List.getElem?_eq_getElem hlt
     have hmem:=List.getElem_mem hlt
     generalize ls[i]=s at hs hmem
     have hs':(ls.map oC)[i]? =some (oC s):=by rw[List.getElem?_map,hs];rfl
     have hbs:=hb s hmem
     have rd:∀{h:ah} {k:AV→Bool},View h 1 x0 (ls.map oC)→k (.str s)=true→(dX h 1 x0 (.int .i64 (i:Int)) fun p=>ay h p k)=true:=fun V q=>Pw V hs' rfl q
     refine bN ?_
     unfold aac
     refine rd V ?_
     refine oF ?_;refine Jy ?_
     by_cases hlen:s.length≤3000
     ·rw[decide_eq_false (show ¬((3000:Int)<(s.length:Int)) by omega)]
      refine bC ?_
      unfold ZP
      refine rd V ?_
      refine c6 (by omega) hbs (by omega) hg A ?_
      cases hp:abw s with
      |ok b=>
       intro h c A
       have C:=(A.f0:sw h c b).cells
       refine aI rfl ?_
       unfold BN
       refine jl (jh (tJ ?_))
       refine rM A rfl rfl rfl fun a h A=> ?_
       refine Iy A rfl C.1 rfl C.2 fun h A=> ?_
       refine J6 ?_;refine bN ?_
       exact next h A.rest.dropF
      |error e=>
       intro h A
       refine aI rfl ?_
       unfold BN
       refine jl (jh (tJ ?_))
       refine rM A rfl rfl rfl fun a h A=> ?_
       refine Iy A rfl rfl rfl rfl fun h A=> ?_
       refine oO (bC ?_)
       unfold ZF
       refine rd (A.fact hv) ?_
       refine c7 hbs (by omega) (by omega) A ?_
       rcases abN (by omega) hp with hl |⟨T,j,hl,rfl,_⟩
       ·rw[hl]
        intro h A
        refine aI rfl ?_
        unfold AY
        refine jl ?_;refine jh ?_;refine tJ ?_;refine zl ?_;refine bV ?_;refine iw A.var rfl ?_;refine bV ?_
        refine dQ rfl ?_
        refine eX ?_
        refine c8 (b:=⟨[],[],[]⟩) (by decide) (by show 3*0+20≤n;omega) A.ok sw.zero sw.zero fun h e' o'=> ?_
        have A:=A.ext e' o'
        refine aI rfl ?_
        unfold Bu
        refine bV ?_;refine bY ?_;refine eG ?_;refine bC ?_
        unfold U3
        refine eF (bN ?_)
        refine zl ?_;refine bC ?_
        exact next h A.rest
       ·rw[hl]
        intro h u A
        have VT:View h 4 u (T.map jP):=A.f0
        refine aI rfl ?_
        unfold AY
        refine jl ?_;refine jh ?_;refine tJ ?_;refine zl ?_;refine bV ?_;refine iw A.var rfl ?_;refine bV ?_
        refine dQ rfl ?_
        refine eX ?_
        refine c8 (b:=⟨[],[],[]⟩) (by decide) (by show 3*0+20≤n;omega) A.ok sw.zero sw.zero fun h e' o'=> ?_
        have A:=A.ext e' o'
        refine aI rfl ?_
        unfold Bu
        refine bV ?_;refine bY ?_;refine eG ?_;refine bC ?_
        unfold U3
        refine zl ?_;refine bC ?_
        unfold Yd
        refine rd (A.fact (List.mem_cons_of_mem _ hv)) ?_
        refine oF ?_;refine oO ?_
        have hT:=(FP (by omega) hl).len
        exact l59 hT (VT.ext e') (next h A.rest.dropF) n 0 _ (Nat.zero_le _) (by omega) aao
     ·rw[decide_eq_true (show((3000:Int)<(s.length:Int)) by omega)]
      exact bN (next h A)
    ·rw[decide_eq_false (show ¬((i:Nat):Int)<6 by omega)]
     refine bC ?_
     exact wk h A
   ·rw[decide_eq_false hlt]
    refine fH ?_;refine fH ?_;refine eG ?_;refine bC ?_
    exact wk h A
 exact lp n 0 h (Nat.zero_le _) (by omega) A
end
end Go.Proofs.YtibillhjmfbneaaGreatDoor
namespace Go.Proofs
open Go.Shelf
def YtibillhjmfbneaaGreatDoor.pintL_ren:Go.Shelf.Ren:=⟨fun |174=>56 |247=>70 |245=>71 |287=>85 |279=>86 |280=>87 |281=>88 |282=>89 |321=>97 |322=>98 |316=>99 |171=>101 |205=>100 |243=>104 |246=>106 |283=>109 |284=>110 |285=>111 |286=>112 |129=>114 |317=>113 |318=>115 |319=>116 |320=>117 |337=>118 |338=>119 |n=>n,fun |9=>9 |3=>3 |2=>2 |75=>120 |85=>121 |4=>4 |167=>146 |5=>5 |53=>147 |175=>148 |46=>150 |168=>151 |37=>141 |0=>0 |210=>161 |21=>21 |127=>157 |145=>169 |143=>167 |171=>172 |173=>175 |212=>178 |51=>179 |20=>20 |213=>180 |232=>183 |233=>184 |80=>98 |n=>n,fun |15=>0 |16=>1 |17=>3 |18=>4 |19=>5 |n=>n⟩
theorem YtibillhjmfbneaaGreatDoor.pintL:Go.Proofs.LaysC.n174 Tryz.prog YtibillhjmfbneaaGreatDoor.pintL_ren:={
 mixed:=by kernel_rfl
 f129:=Tryz.func114.trans (congrArg some (by kernel_rfl))
 f171:=Tryz.func101.trans (congrArg some (by kernel_rfl))
 f174:=Tryz.func56.trans (congrArg some (by kernel_rfl))
 f205:=Tryz.func100.trans (congrArg some (by kernel_rfl))
 f243:=Tryz.func104.trans (congrArg some (by kernel_rfl))
 f245:=Tryz.func71.trans (congrArg some (by kernel_rfl))
 f246:=Tryz.func106.trans (congrArg some (by kernel_rfl))
 f247:=Tryz.func70.trans (congrArg some (by kernel_rfl))
 f279:=Tryz.func86.trans (congrArg some (by kernel_rfl))
 f280:=Tryz.func87.trans (congrArg some (by kernel_rfl))
 f281:=Tryz.func88.trans (congrArg some (by kernel_rfl))
 f282:=Tryz.func89.trans (congrArg some (by kernel_rfl))
 f283:=Tryz.func109.trans (congrArg some (by kernel_rfl))
 f284:=Tryz.func110.trans (congrArg some (by kernel_rfl))
 f285:=Tryz.func111.trans (congrArg some (by kernel_rfl))
 f286:=Tryz.func112.trans (congrArg some (by kernel_rfl))
 f287:=Tryz.func85.trans (congrArg some (by kernel_rfl))
 f316:=Tryz.func99.trans (congrArg some (by kernel_rfl))
 f317:=Tryz.func113.trans (congrArg some (by kernel_rfl))
 f318:=Tryz.func115.trans (congrArg some (by kernel_rfl))
 f319:=Tryz.func116.trans (congrArg some (by kernel_rfl))
 f320:=Tryz.func117.trans (congrArg some (by kernel_rfl))
 f321:=Tryz.func97.trans (congrArg some (by kernel_rfl))
 f322:=Tryz.func98.trans (congrArg some (by kernel_rfl))
 f337:=Tryz.func118.trans (congrArg some (by kernel_rfl))
 f338:=Tryz.func119.trans (congrArg some (by kernel_rfl))
 t0:=Tryz.underlying0
 a0:=Tryz.isAgg0
 z0:=Tryz.sizeOf0
 v0:=Tryz.zeroValue0
 t2:=Tryz.underlying2
 a2:=Tryz.isAgg2
 z2:=Tryz.sizeOf2
 v2:=Tryz.zeroValue2
 t3:=Tryz.underlying3
 a3:=Tryz.isAgg3
 z3:=Tryz.sizeOf3
 v3:=Tryz.zeroValue3
 t4:=Tryz.underlying4
 a4:=Tryz.isAgg4
 z4:=Tryz.sizeOf4
 v4:=Tryz.zeroValue4
 t5:=Tryz.underlying5
 a5:=Tryz.isAgg5
 z5:=Tryz.sizeOf5
 v5:=Tryz.zeroValue5
 t9:=Tryz.underlying9
 a9:=Tryz.isAgg9
 z9:=Tryz.sizeOf9
 v9:=Tryz.zeroValue9
 t20:=Tryz.underlying20
 a20:=Tryz.isAgg20
 z20:=Tryz.sizeOf20
 v20:=Tryz.zeroValue20
 t21:=Tryz.underlying21
 a21:=Tryz.isAgg21
 z21:=Tryz.sizeOf21
 v21:=Tryz.zeroValue21
 t37:=Tryz.underlying141
 a37:=Tryz.isAgg141
 z37:=Tryz.sizeOf141
 v37:=Tryz.zeroValue141
 t46:=Tryz.underlying150
 a46:=Tryz.isAgg150
 z46:=Tryz.sizeOf150
 v46:=Tryz.zeroValue150
 t51:=Tryz.underlying179
 a51:=Tryz.isAgg179
 z51:=Tryz.sizeOf179
 v51:=Tryz.zeroValue179
 t53:=Tryz.underlying147
 a53:=Tryz.isAgg147
 z53:=Tryz.sizeOf147
 v53:=Tryz.zeroValue147
 t75:=Tryz.underlying120
 a75:=Tryz.isAgg120
 z75:=Tryz.sizeOf120
 v75:=Tryz.zeroValue120
 t85:=Tryz.underlying121
 a85:=Tryz.isAgg121
 z85:=Tryz.sizeOf121
 v85:=Tryz.zeroValue121
 t127:=Tryz.underlying157
 a127:=Tryz.isAgg157
 z127:=Tryz.sizeOf157
 v127:=Tryz.zeroValue157
 t143:=Tryz.underlying167
 a143:=Tryz.isAgg167
 z143:=Tryz.sizeOf167
 v143:=Tryz.zeroValue167
 t145:=Tryz.underlying169
 a145:=Tryz.isAgg169
 z145:=Tryz.sizeOf169
 v145:=Tryz.zeroValue169
 t167:=Tryz.underlying146
 a167:=Tryz.isAgg146
 z167:=Tryz.sizeOf146
 v167:=Tryz.zeroValue146
 t168:=Tryz.underlying151
 a168:=Tryz.isAgg151
 z168:=Tryz.sizeOf151
 v168:=Tryz.zeroValue151
 t171:=Tryz.underlying172
 a171:=Tryz.isAgg172
 z171:=Tryz.sizeOf172
 v171:=Tryz.zeroValue172
 t173:=Tryz.underlying175
 a173:=Tryz.isAgg175
 z173:=Tryz.sizeOf175
 v173:=Tryz.zeroValue175
 t175:=Tryz.underlying148
 a175:=Tryz.isAgg148
 z175:=Tryz.sizeOf148
 v175:=Tryz.zeroValue148
 t210:=Tryz.underlying161
 a210:=Tryz.isAgg161
 z210:=Tryz.sizeOf161
 v210:=Tryz.zeroValue161
 t212:=Tryz.underlying178
 a212:=Tryz.isAgg178
 z212:=Tryz.sizeOf178
 v212:=Tryz.zeroValue178
 t213:=Tryz.underlying180
 a213:=Tryz.isAgg180
 z213:=Tryz.sizeOf180
 t232:=Tryz.underlying183
 a232:=Tryz.isAgg183
 z232:=Tryz.sizeOf183
 v232:=Tryz.zeroValue183
 t233:=Tryz.underlying184
 a233:=Tryz.isAgg184
 z233:=Tryz.sizeOf184
 v233:=Tryz.zeroValue184
 g15:=by kernel_rfl
 g16:=by kernel_rfl
 g17:=by kernel_rfl
 g18:=by kernel_rfl
 g19:=by kernel_rfl
 t80:=Tryz.underlying98
 a80:=Tryz.isAgg98
 z80:=Tryz.sizeOf98
 v80:=Tryz.zeroValue98
 i0:=by kernel_rfl
 i2:=by kernel_rfl
 i3:=by kernel_rfl
 i4:=by kernel_rfl
 i5:=by kernel_rfl
 i9:=by kernel_rfl
 i20:=by kernel_rfl
 i21:=by kernel_rfl
 i37:=by kernel_rfl
 i46:=by kernel_rfl
 i51:=by kernel_rfl
 i53:=by kernel_rfl
 i75:=by kernel_rfl
 i80:=by kernel_rfl
 i85:=by kernel_rfl
 i127:=by kernel_rfl
 i143:=by kernel_rfl
 i145:=by kernel_rfl
 i167:=by kernel_rfl
 i168:=by kernel_rfl
 i171:=by kernel_rfl
 i173:=by kernel_rfl
 i175:=by kernel_rfl
 i210:=by kernel_rfl
 i212:=by kernel_rfl
 i232:=by kernel_rfl
 i233:=by kernel_rfl
 m15:=by kernel_rfl
 m16:=by kernel_rfl
 m17:=by kernel_rfl
 m18:=by kernel_rfl
 m19:=by kernel_rfl
 c0:=by kernel_rfl
 c2:=by kernel_rfl
 c3:=by kernel_rfl
 c4:=by kernel_rfl
 c5:=by kernel_rfl
 c9:=by kernel_rfl
 c20:=by kernel_rfl
 c21:=by kernel_rfl
 c37:=by kernel_rfl
 c46:=by kernel_rfl
 c51:=by kernel_rfl
 c53:=by kernel_rfl
 c75:=by kernel_rfl
 c80:=by kernel_rfl
 c85:=by kernel_rfl
 c127:=by kernel_rfl
 c143:=by kernel_rfl
 c145:=by kernel_rfl
 c167:=by kernel_rfl
 c168:=by kernel_rfl
 c171:=by kernel_rfl
 c173:=by kernel_rfl
 c175:=by kernel_rfl
 c210:=by kernel_rfl
 c212:=by kernel_rfl
 c213:=by kernel_rfl
 c232:=by kernel_rfl
 c233:=by kernel_rfl}
end Go.Proofs
namespace Go.Proofs.YtibillhjmfbneaaGreatDoor
open Go.Ab
theorem adS:∃c,Tryz.f56.body=some c:=by
 have h:Tryz.f56.body.isSome=true:=by kernel_rfl
 cases e:Tryz.f56.body with
 |none=>rw[e] at h;cases h
 |some c=>exact⟨c,rfl⟩
theorem aar (args:Array Value) (w:World):(callFunc 56 args).run Tryz.prog w= .ok (.enter 56 args) w:=by
 obtain⟨c,h⟩:=adS
 exact _root_.Go.MuLone.run_callFunc_enter Tryz.func56 (by kernel_rfl) h args w
theorem Yp:xS Tryz.prog Yg:=⟨YB YtibillhjmfbneaaGreatDoor.pintL rfl rfl rfl aar,
 RP Tryz.func94 (by kernel_rfl) (by kernel_rfl) (by kernel_rfl) (by kernel_rfl),
 YQ Tryz.func103 (by kernel_rfl) (by kernel_rfl) (by kernel_rfl) (by kernel_rfl),trivial⟩
theorem adU:Kr Tryz.prog E:=abR aeV Yp
end Go.Proofs.YtibillhjmfbneaaGreatDoor
