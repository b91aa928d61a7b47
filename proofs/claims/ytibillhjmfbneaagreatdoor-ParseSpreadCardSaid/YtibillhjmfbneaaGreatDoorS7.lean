/-
  Texts that the claim hangs on, part 8.
-/
import Derived.Test.YtibillhjmfbneaaGreatDoorS6
import Derived.KernelRfl
import Derived.Shelf.LaysC
import Derived.Ground.NamesProg
import Derived.Test.YtibillhjmfbneaaGreatDoorProg
import Derived.Conc.MuLone
set_option linter.unusedSimpArgs false
set_option linter.unusedVariables false
namespace Go.Proofs.YtibillhjmfbneaaGreatDoor
open Go.Ab
mutual
theorem RW.ext {h h':aj} (e:Ext h h'):∀{a:List AV} {v:Val},RW h a v→RW h' a v
 |a, .mk k b n t l,H=>by
  simp only[RW] at H ⊢
  obtain⟨lv,es,h1,h2,h3⟩:=H
  exact⟨lv,es,h1,h2.ext e,O5.ext e h3⟩
theorem O5.ext {h h':aj} (e:Ext h h'):∀{a:List (List AV)} {l:List Val},O5 h a l→O5 h' a l
 |a,[],H=>by simp only[O5] at H ⊢;exact H
 |a,v :: l,H=>by
  simp only[O5] at H ⊢
  obtain⟨c,r,h1,h2,h3⟩:=H
  exact⟨c,r,h1,RW.ext e h2,O5.ext e h3⟩
end
mutual
theorem RE.ext {h h':aj} (e:Ext h h'):∀{a:List AV} {v:Ex},RE h a v→RE h' a v
 |a, .mk op t v l,H=>by
  simp only[RE] at H ⊢
  obtain⟨cv,va,es,h1,h2,h3,h4⟩:=H
  exact⟨cv,va,es,h1,h2.ext e,h3.ext e,pK.ext e h4⟩
theorem pK.ext {h h':aj} (e:Ext h h'):∀{a:List (List AV)} {l:List Ex},pK h a l→pK h' a l
 |a,[],H=>by simp only[pK] at H ⊢;exact H
 |a,v :: l,H=>by
  simp only[pK] at H ⊢
  obtain⟨c,r,h1,h2,h3⟩:=H
  exact⟨c,r,h1,RE.ext e h2,pK.ext e h3⟩
end
theorem O5.get {h:aj}:∀{es:List (List AV)} {l:List Val},O5 h es l→es.length=l.length∧∀(j:Nat) (b:Val),l[j]? =some b→∃c,es[j]? =some c∧RW h c b
 |es,[],R=>by simp only[O5] at R;subst R;exact⟨rfl,fun j b e=>by simp at e⟩
 |es,v :: l,R=>by
  simp only[O5] at R
  obtain⟨c,r,rfl,R1,R2⟩:=R
  obtain⟨h1,h2⟩:=O5.get R2
  refine⟨by simp[h1],fun j b e=> ?_⟩
  cases j with
  |zero=>simp only[List.getElem?_cons_zero,Option.some.injEq] at e ⊢;subst e;exact⟨c,rfl,R1⟩
  |succ j=>simp only[List.getElem?_cons_succ] at e ⊢;exact h2 j b e
theorem pK.get {h:aj}:∀{es:List (List AV)} {l:List Ex},pK h es l→es.length=l.length∧∀(j:Nat) (b:Ex),l[j]? =some b→∃c,es[j]? =some c∧RE h c b
 |es,[],R=>by simp only[pK] at R;subst R;exact⟨rfl,fun j b e=>by simp at e⟩
 |es,v :: l,R=>by
  simp only[pK] at R
  obtain⟨c,r,rfl,R1,R2⟩:=R
  obtain⟨h1,h2⟩:=pK.get R2
  refine⟨by simp[h1],fun j b e=> ?_⟩
  cases j with
  |zero=>simp only[List.getElem?_cons_zero,Option.some.injEq] at e ⊢;subst e;exact⟨c,rfl,R1⟩
  |succ j=>simp only[List.getElem?_cons_succ] at e ⊢;exact h2 j b e
theorem _root_.Go.Ab.Cx.start {h:aj} (o:h.Ok) {F:List (aj→Prop)} (f:∀R∈F,∀h',Ext h h'→R h'):Cx h [] [] (Ext h :: F):=
 have ex:∀h',Kp (· ∈places [] []) h h'→Ext h h':=fun h' k=>⟨k.1,fun id ob e=>k.2 id ob (fun m=>nomatch m) e⟩
 ⟨o,fun _ m=>(nomatch m),fun _ m=>(nomatch m),List.nodup_nil,fun R m=>(List.mem_cons.1 m).elim (fun e h' k=>by subst e;exact ex h' k) fun m h' k=>f R m h' (ex h' k)⟩
theorem _root_.Go.Ab.Cx.start2 {h:aj} (o:h.Ok) {R1 R2:aj→Prop} (f1:∀h',Ext h h'→R1 h') (f2:∀h',Ext h h'→R2 h'):Cx h [] [] [Ext h,R1,R2]:=
 Cx.start o fun R m=>by
  rcases List.mem_cons.1 m with rfl |m
  ·exact f1
  rcases List.mem_cons.1 m with rfl |m
  ·exact f2
  ·cases m
theorem uz {h:aj} {v:AV} {n:Nat} {es:List (List AV)} {J:IntKind} {i:Nat} {e:List AV} {k:AV→Bool} (V:View h n v es) (hi:es[i]? =some e) (hl:e.length=n) (s:k (.agg e)=true):(dO h n v (.int J (i:Int)) fun p=>bL h n p k)=true:=
 ng V hi fun id g j ld=>qH (by
  rw[ld]
  simp only[mG,cond_true]
  rw[aI.2 (by omega),cond_true,List.drop_zero,List.take_of_length_le (by omega)]) s
theorem M0 {h:aj} {v a:AV} {n:Nat} {es:List (List AV)} {J:IntKind} {i:Nat} {e:List AV} {k:AV→Bool} (V:View h n v es) (hi:es[i]? =some e) (ha:e[0]? =some a) (s:k a=true):(dO h n v (.int J (i:Int)) fun p=>av h p k)=true:=
 ng V hi fun id g j ld=>aQ (by
  rw[ld]
  simp only[mG,cond_false,nM]
  exact ha) s
theorem ZN (h:aj) (b:Bool):EN h false .bool (.bool b) (.bool b)=some (.bool true):=by cases b<;>rfl
theorem SH (v:Val):0<cV v:=by cases v;unfold cV;omega
theorem Ui (v:Ex):0<cE v:=by cases v;unfold cE;omega
theorem VW:∀{l:List Val} {j:Nat} {b:Val},l[j]? =some b→cV b≤Ub l
 | [],j,b,e=>by simp at e
 |v :: l,0,b,e=>by simp only[List.getElem?_cons_zero,Option.some.injEq] at e;subst e;unfold Ub;omega
 |v :: l,j+1,b,e=>by simp only[List.getElem?_cons_succ] at e;have:=VW e;unfold Ub;omega
theorem XI:∀(l:List Val),l.length≤Ub l
 | []=>Nat.le_refl _
 |v :: l=>by have:=XI l;have:=SH v;unfold Ub;simp only[List.length_cons];omega
theorem VB:∀{l:List Ex} {j:Nat} {b:Ex},l[j]? =some b→cE b≤wM l
 | [],j,b,e=>by simp at e
 |v :: l,0,b,e=>by simp only[List.getElem?_cons_zero,Option.some.injEq] at e;subst e;unfold wM;omega
 |v :: l,j+1,b,e=>by simp only[List.getElem?_cons_succ] at e;have:=VB e;unfold wM;omega
theorem WO:∀(l:List Ex),l.length≤wM l
 | []=>Nat.le_refl _
 |v :: l=>by have:=WO l;have:=Ui v;unfold wM;simp only[List.length_cons];omega
def big:Nat:=1000000000
section
variable {k:AV→Bool}
theorem PD {J:IntKind} {x:Int} (s:k (.bool true)=true):eD (.int J x) (.int J x) k=true:=sS (by rw[decide_eq_true rfl];exact s)
theorem FX {J:IntKind} {x:Int} (s:k (.bool false)=true):jV (.int J x) (.int J x) k=true:=eU (by rw[decide_eq_true rfl];exact s)
theorem adM {x:Str} (s:k (.bool true)=true):eD (.str x) (.str x) k=true:=Dj (by rw[decide_eq_true rfl];exact s)
theorem zY {x:Str} (s:k (.bool false)=true):jV (.str x) (.str x) k=true:=agw (by rw[decide_eq_true rfl];exact s)
theorem af7 {h:aj} {b:Bool} (s:k (.bool true)=true):bP (EN h false .bool (.bool b) (.bool b)) k=true:=qG (ZN h b) s
theorem Yw (h:aj) (b:Bool):EN h true .bool (.bool b) (.bool b)=some (.bool false):=by cases b<;>rfl
theorem agY {h:aj} {b:Bool} (s:k (.bool false)=true):bP (EN h true .bool (.bool b) (.bool b)) k=true:=qG (Yw h b) s
end
section
variable {n:Nat}
theorem rnd {v:AV} {h:aj} {i:Nat} {R:Bool} {S:AV→Bool} (hi:i<big) (s:S (.int .i64 ((i+1:Nat):Int))=true):(mD (.bool true) fun v11=>aK v11 R (gQ (.int .i64 (i:Int)) (.int .i64 1) S))=true:=
 bM (bg (mI (by have:lim=4611686018427387904:=rfl;have:big=1000000000:=rfl;omega) s))
end
def QV (N:Nat):Prop:=∀(n:Nat) (h:aj) (v:Val) (c c':List AV) (K:aM),cV v≤N→cV v≤big→3*cV v+6≤n→h.Ok→RW h c v→RW h c' v→(∀h',Ext h h'→h'.Ok→K (.bool true) h'=true)→au E n (.func 48) [.agg c, .agg c'] h K=true
theorem q69 {N:Nat} (Q:QV N) {n:Nat} {h:aj} {l:List Val} {va vb:AV} {es es':List (List AV)} {K:aM} (hN:Ub l≤N) (hB:Ub l≤big) (hn:3*Ub l+8≤n) (ho:h.Ok) (V:View h 5 va es) (R:O5 h es l) (V':View h 5 vb es') (R':O5 h es' l)
 (k:∀h',Ext h h'→h'.Ok→K (.bool true) h'=true):au E n (.func 69) [va,vb] h K=true:=by
 obtain⟨n,rfl⟩:∃m,n=m+1:=⟨n-1,by omega⟩
 have hlen:=XI l
 obtain⟨g1,g2⟩:=R.get
 obtain⟨g1',g2'⟩:=R'.get
 apply d69
 unfold s69
 refine fI V (fI V' (eU ?_))
 rw[g1,g1',decide_eq_true rfl]
 refine bg ?_
 unfold UK
 have lp:∀(m i:Nat) (h':aj),i≤l.length→l.length-i<m→Ext h h'→h'.Ok→JH (au E n) n m va vb (.int .i64 (i:Int)) h' K=true:=by
  intro m
  induction m with
  |zero=>intro i h' _ hm;omega
  |succ m ih=>
   intro i h' hi hm e o
   rw[Zm]
   unfold OG
   refine fI (V.ext e) (jw ?_)
   rw[g1]
   by_cases hlt:i<l.length
   ·rw[decide_eq_true hlt]
    have hb:l[i]? =some l[i]:=List.getElem?_eq_getElem hlt
    generalize l[i]=b at hb
    obtain⟨c,hc,Rc⟩:=g2 i b hb
    obtain⟨c',hc',Rc'⟩:=g2' i b hb
    have hw:=VW hb
    refine bK (uz (V.ext e) hc Rc.cells.1 (uz (V'.ext e) hc' Rc'.cells.1 ?_))
    refine Q _ _ _ _ _ _ (by omega) (by omega) (by omega) o (Rc.ext e) (Rc'.ext e) fun h'' e' o'=> ?_
    refine aG rfl (rnd (v:=va) (h:=h) (by omega) ?_)
    exact ih (i+1) h'' (by omega) (by omega) (e.trans e') o'
   ·rw[decide_eq_false hlt]
    exact bg (k h' e o)
 exact lp n 0 h (Nat.zero_le _) (by omega) (Ext.refl _) ho
theorem qv:∀N,QV N
 |0=>fun n h v c c' K hv _ _ _ _ _ _=>by have:=SH v;omega
 |N+1=>fun n h0 v c c' K hv hB hn ho R R' k=>by
  have Q:=qv N
  obtain⟨n,rfl⟩:∃m,n=m+1:=⟨n-1,by omega⟩
  obtain⟨kd,b,x,t,l⟩:=v
  have A:=Cx.start2 ho (R1:=fun h=>RW h c (.mk kd b x t l)) (R2:=fun h=>RW h c' (.mk kd b x t l)) (fun h' e=>R.ext e) (fun h' e=>R'.ext e)
  have hc:cV (.mk kd b x t l)=t.length+Ub l+1:=by simp only[cV]
  simp only[RW] at R R'
  obtain⟨lv,es,rfl,V,Rl⟩:=R
  obtain⟨lv',es',rfl,V',Rl'⟩:=R'
  apply d48
  unfold s48
  refine zD A rfl rfl (by simp only[aD,V.leaf];rfl) fun a h A=> ?_
  refine Nu A rfl rfl (by simp only[aD,V'.leaf];rfl) fun a' h A=> ?_
  repeat first |refine PD ?_ |refine adM ?_ |refine af7 ?_ |(with_reducible first |refine aA ?_ |refine aY ?_ |refine dY ?_ |refine dG ?_ |refine aB A.var rfl ?_ |refine aB A.v1 rfl ?_)
  have e0:Ext h0 h:=A.f0
  refine q69 Q (by omega) (by omega) (by omega) A.ok (V.ext e0) (Rl.ext e0) (V'.ext e0) (Rl'.ext e0) fun h' e' o'=> ?_
  refine aG rfl ?_
  unfold KI
  exact dG (k h' (e0.trans e') o')
def QX (N:Nat):Prop:=∀(n:Nat) (h:aj) (v:Ex) (c c':List AV) (K:aM),cE v≤N→cE v≤big→3*cE v+6≤n→h.Ok→RE h c v→RE h c' v→(∀h',Ext h h'→h'.Ok→K (.bool true) h'=true)→au E n (.func 26) [.agg c, .agg c'] h K=true
theorem q46 {N:Nat} (Q:QX N) {n:Nat} {h:aj} {l:List Ex} {va vb:AV} {es es':List (List AV)} {K:aM} (hN:wM l≤N) (hB:wM l≤big) (hn:3*wM l+8≤n) (ho:h.Ok) (V:View h 8 va es) (R:pK h es l) (V':View h 8 vb es') (R':pK h es' l)
 (k:∀h',Ext h h'→h'.Ok→K (.bool true) h'=true):au E n (.func 46) [va,vb] h K=true:=by
 obtain⟨n,rfl⟩:∃m,n=m+1:=⟨n-1,by omega⟩
 have hlen:=WO l
 obtain⟨g1,g2⟩:=R.get
 obtain⟨g1',g2'⟩:=R'.get
 apply d46
 unfold s46
 refine fI V (fI V' (eU ?_))
 rw[g1,g1',decide_eq_true rfl]
 refine bg ?_
 unfold Um
 have lp:∀(m i:Nat) (h':aj),i≤l.length→l.length-i<m→Ext h h'→h'.Ok→Hw (au E n) n m va vb (.int .i64 (i:Int)) h' K=true:=by
  intro m
  induction m with
  |zero=>intro i h' _ hm;omega
  |succ m ih=>
   intro i h' hi hm e o
   rw[aaK]
   unfold Nw
   refine fI (V.ext e) (jw ?_)
   rw[g1]
   by_cases hlt:i<l.length
   ·rw[decide_eq_true hlt]
    have hb:l[i]? =some l[i]:=List.getElem?_eq_getElem hlt
    generalize l[i]=b at hb
    obtain⟨c,hc,Rc⟩:=g2 i b hb
    obtain⟨c',hc',Rc'⟩:=g2' i b hb
    have hw:=VB hb
    refine bK (uz (V.ext e) hc Rc.cells.1 (uz (V'.ext e) hc' Rc'.cells.1 ?_))
    refine Q _ _ _ _ _ _ (by omega) (by omega) (by omega) o (Rc.ext e) (Rc'.ext e) fun h'' e' o'=> ?_
    refine aG rfl (rnd (v:=va) (h:=h) (by omega) ?_)
    exact ih (i+1) h'' (by omega) (by omega) (e.trans e') o'
   ·rw[decide_eq_false hlt]
    exact bg (k h' e o)
 exact lp n 0 h (Nat.zero_le _) (by omega) (Ext.refl _) ho
theorem aag {h:aj} {a:Nat} {x y z:AV} {cv:List AV} {k:AV→Bool} (V:Var h a (x :: y :: (cv++[z]))) (hl:cv.length=5) (s:k (.agg cv)=true):bL h 5 (.ptr a 0 0 2) k=true:=by
 refine aJ V (aI.2 (by simp;omega)) ?_
 rw[show((x :: y :: (cv++[z])).drop 2).take 5=cv from by simp only[List.drop_succ_cons,List.drop_zero];rw[List.take_append_of_le_length (by omega),List.take_of_length_le (by omega)]]
 exact s
theorem aec {h:aj} {a:Nat} {x y z:AV} {cv:List AV} {k:AV→Bool} (V:Var h a (x :: y :: (cv++[z]))) (hl:cv.length=5) (s:k z=true):av h (.ptr a 0 0 7) k=true:=by
 refine aB V ?_ s
 simp only[List.getElem?_cons_succ]
 rw[List.getElem?_append_right (by omega),hl];rfl
theorem qx:∀N,QX N
 |0=>fun n h v c c' K hv _ _ _ _ _ _=>by have:=Ui v;omega
 |N+1=>fun n h0 v c c' K hv hB hn ho R R' k=>by
  have Q:=qx N
  obtain⟨n,rfl⟩:∃m,n=m+1:=⟨n-1,by omega⟩
  obtain⟨op,t,v,l⟩:=v
  have A:=Cx.start2 ho (R1:=fun h=>RE h c (.mk op t v l)) (R2:=fun h=>RE h c' (.mk op t v l)) (fun h' e=>R.ext e) (fun h' e=>R'.ext e)
  have hc:cE (.mk op t v l)=t.length+cV v+wM l+1:=by simp only[cE]
  have hcv:=SH v
  have C1:=R.cells
  have C2:=R'.cells
  simp only[RE] at R R'
  obtain⟨cv,va,es,rfl,W,V,Rl⟩:=R
  obtain⟨cv',va',es',rfl,W',V',Rl'⟩:=R'
  apply d26
  unfold s26
  refine zD A C1.1 rfl C1.2.1 fun a h A=> ?_
  refine Nu A C2.1 rfl C2.2.1 fun a' h A=> ?_
  have A:=A.swapL
  repeat first |refine PD ?_ |refine adM ?_ |refine aag A.var W'.cells.1 ?_ |refine aag A.v1 W.cells.1 ?_ |(with_reducible first |refine aA ?_ |refine aY ?_ |refine dY ?_ |refine dG ?_ |refine aB A.var rfl ?_ |refine aB A.v1 rfl ?_)
  have e0:Ext h0 h:=A.f0
  refine qv _ _ _ _ _ _ _ (Nat.le_refl _) (by omega) (by omega) A.ok (W.ext e0) (W'.ext e0) fun h' e' o'=> ?_
  have A:=A.ext e' o'
  have e0:=e0.trans e'
  refine aG rfl ?_
  unfold HV
  refine aec A.v1 W.cells.1 ?_;refine aec A.var W'.cells.1 ?_;refine dY ?_
  refine q46 Q (by omega) (by omega) (by omega) A.ok (V.ext e0) (Rl.ext e0) (V'.ext e0) (Rl'.ext e0) fun h'' e'' o''=> ?_
  refine aG rfl ?_
  unfold Jr
  exact dG (k h'' (e0.trans e'') o'')
theorem c26 {n:Nat} {h:aj} {v:Ex} {c c':List AV} {K:aM} (hB:cE v≤big) (hn:3*cE v+6≤n) (ho:h.Ok) (R:RE h c v) (R':RE h c' v) (k:∀h',Ext h h'→h'.Ok→K (.bool true) h'=true):au E n (.func 26) [.agg c, .agg c'] h K=true:=
 qx _ _ _ _ _ _ _ (Nat.le_refl _) hB hn ho R R' k
theorem c46 {n:Nat} {h:aj} {l:List Ex} {va vb:AV} {es es':List (List AV)} {K:aM} (hB:wM l≤big) (hn:3*wM l+8≤n) (ho:h.Ok) (V:View h 8 va es) (R:pK h es l) (V':View h 8 vb es') (R':pK h es' l)
 (k:∀h',Ext h h'→h'.Ok→K (.bool true) h'=true):au E n (.func 46) [va,vb] h K=true:=q46 (qx _) (Nat.le_refl _) hB hn ho V R V' R' k
theorem rE.ext {h h':aj} (e:Ext h h'):∀{a:List (List AV)} {l:List (Str×Ex)},rE h a l→rE h' a l
 |a,[],H=>by simp only[rE] at H ⊢;exact H
 |a,v :: l,H=>by
  simp only[rE] at H ⊢
  obtain⟨c,r,h1,h2,h3⟩:=H
  exact⟨c,r,h1,h2.ext e,rE.ext e h3⟩
mutual
theorem RC.ext {h h':aj} (e:Ext h h'):∀{a:List AV} {v:Cd},RC h a v→RC h' a v
 |a, .mk kind var cls binds tests conds thn alts ex fn name args,H=>by
  simp only[RC] at H ⊢
  obtain⟨vb,vt,et,vc,ec,vn,en,va,ea,ce,vg,eg,h0,h1,h2,h3,h4,h5,h6,h7,h8,h9,h10,h11,h12⟩:=H
  exact⟨vb,vt,et,vc,ec,vn,en,va,ea,ce,vg,eg,h0,h1.ext e,h2.ext e,h3.ext e,h4.ext e,kW.ext e h5,h6.ext e,kW.ext e h7,h8.ext e,jC.ext e h9,h10.ext e,h11.ext e,h12.ext e⟩
theorem kW.ext {h h':aj} (e:Ext h h'):∀{a:List (List AV)} {l:List Cd},kW h a l→kW h' a l
 |a,[],H=>by simp only[kW] at H ⊢;exact H
 |a,v :: l,H=>by
  simp only[kW] at H ⊢
  obtain⟨c,r,h1,h2,h3⟩:=H
  exact⟨c,r,h1,RC.ext e h2,kW.ext e h3⟩
theorem jC.ext {h h':aj} (e:Ext h h'):∀{a:List (List AV)} {l:List (List Cd)},jC h a l→jC h' a l
 |a,[],H=>by simp only[jC] at H ⊢;exact H
 |a,v :: l,H=>by
  simp only[jC] at H ⊢
  obtain⟨c,ec,r,h1,h2,h3,h4⟩:=H
  exact⟨c,ec,r,h1,h2.ext e,kW.ext e h3,jC.ext e h4⟩
end
theorem rE.get {h:aj}:∀{es:List (List AV)} {l:List (Str×Ex)},rE h es l→es.length=l.length∧∀(j:Nat) (b:Str×Ex),l[j]? =some b→∃c,es[j]? =some (.str b.1 :: c)∧RE h c b.2
 |es,[],R=>by simp only[rE] at R;subst R;exact⟨rfl,fun j b e=>by simp at e⟩
 |es,v :: l,R=>by
  simp only[rE] at R
  obtain⟨c,r,rfl,R1,R2⟩:=R
  obtain⟨h1,h2⟩:=rE.get R2
  refine⟨by simp[h1],fun j b e=> ?_⟩
  cases j with
  |zero=>simp only[List.getElem?_cons_zero,Option.some.injEq] at e ⊢;subst e;exact⟨c,rfl,R1⟩
  |succ j=>simp only[List.getElem?_cons_succ] at e ⊢;exact h2 j b e
theorem kW.get {h:aj}:∀{es:List (List AV)} {l:List Cd},kW h es l→es.length=l.length∧∀(j:Nat) (b:Cd),l[j]? =some b→∃c,es[j]? =some c∧RC h c b
 |es,[],R=>by simp only[kW] at R;subst R;exact⟨rfl,fun j b e=>by simp at e⟩
 |es,v :: l,R=>by
  simp only[kW] at R
  obtain⟨c,r,rfl,R1,R2⟩:=R
  obtain⟨h1,h2⟩:=kW.get R2
  refine⟨by simp[h1],fun j b e=> ?_⟩
  cases j with
  |zero=>simp only[List.getElem?_cons_zero,Option.some.injEq] at e ⊢;subst e;exact⟨c,rfl,R1⟩
  |succ j=>simp only[List.getElem?_cons_succ] at e ⊢;exact h2 j b e
theorem jC.get {h:aj}:∀{es:List (List AV)} {l:List (List Cd)},jC h es l→es.length=l.length∧∀(j:Nat) (b:List Cd),l[j]? =some b→∃v ec,es[j]? =some [v]∧View h 19 v ec∧kW h ec b
 |es,[],R=>by simp only[jC] at R;subst R;exact⟨rfl,fun j b e=>by simp at e⟩
 |es,v :: l,R=>by
  simp only[jC] at R
  obtain⟨c,ec,r,rfl,R1,R2,R3⟩:=R
  obtain⟨h1,h2⟩:=jC.get R3
  refine⟨by simp[h1],fun j b e=> ?_⟩
  cases j with
  |zero=>simp only[List.getElem?_cons_zero,Option.some.injEq] at e ⊢;subst e;exact⟨c,ec,rfl,R1,R2⟩
  |succ j=>simp only[List.getElem?_cons_succ] at e ⊢;exact h2 j b e
theorem Zv (v:Cd):0<cC v:=by cases v;unfold cC;omega
theorem WQ:∀{l:List Cd} {j:Nat} {b:Cd},l[j]? =some b→cC b≤uK l
 | [],j,b,e=>by simp at e
 |v :: l,0,b,e=>by simp only[List.getElem?_cons_zero,Option.some.injEq] at e;subst e;unfold uK;omega
 |v :: l,j+1,b,e=>by simp only[List.getElem?_cons_succ] at e;have:=WQ e;unfold uK;omega
theorem VU:∀(l:List Cd),l.length≤uK l
 | []=>Nat.le_refl _
 |v :: l=>by have:=VU l;have:=Zv v;unfold uK;simp only[List.length_cons];omega
theorem Qv:∀{l:List (List Cd)} {j:Nat} {b:List Cd},l[j]? =some b→uK b+1≤pQ l
 | [],j,b,e=>by simp at e
 |v :: l,0,b,e=>by simp only[List.getElem?_cons_zero,Option.some.injEq] at e;subst e;unfold pQ;omega
 |v :: l,j+1,b,e=>by simp only[List.getElem?_cons_succ] at e;have:=Qv e;unfold pQ;omega
theorem QM:∀(l:List (List Cd)),l.length≤pQ l
 | []=>Nat.le_refl _
 |v :: l=>by have:=QM l;unfold pQ;simp only[List.length_cons];omega
theorem SL:∀{l:List (Str×Ex)} {j:Nat} {b:Str×Ex},l[j]? =some b→cE b.2≤cG l
 | [],j,b,e=>by simp at e
 |v :: l,0,b,e=>by simp only[List.getElem?_cons_zero,Option.some.injEq] at e;subst e;unfold cG;omega
 |v :: l,j+1,b,e=>by simp only[List.getElem?_cons_succ] at e;have:=SL e;unfold cG;omega
theorem Ux:∀(l:List (Str×Ex)),l.length≤cG l
 | []=>Nat.le_refl _
 |v :: l=>by have:=Ux l;unfold cG;simp only[List.length_cons];omega
theorem ZW:∀(l:List (Str×Str)),l.length≤cB l
 | []=>Nat.le_refl _
 |v :: l=>by have:=ZW l;unfold cB;simp only[List.length_cons];omega
theorem aeW (h:aj) (b:Str×Str):EN h true (.agg [.str, .str]) (.agg (oK b)) (.agg (oK b))=some (.bool false):=by
 simp only[EN,VF,Vq,oK,tT,qW,cond_true,nU,tF,qZ,decide_true,Bool.not_true]
theorem aeD (h:aj) (b:Bv):EN h true (.agg [.str, .int, .str]) (.agg (pX b)) (.agg (pX b))=some (.bool false):=by
 simp only[EN,VF,Vq,pX,tT,qW,cond_true,nU,tF,qZ,rC,decide_true,Bool.not_true,Nat.beq_refl]
def QC (N:Nat):Prop:=∀(n:Nat) (h:aj) (v:Cd) (c c':List AV) (K:aM),cC v≤N→cC v≤big→3*cC v+6≤n→h.Ok→RC h c v→RC h c' v→(∀h',Ext h h'→h'.Ok→K (.bool true) h'=true)→au E n (.func 25) [.agg c, .agg c'] h K=true
theorem q15 {N:Nat} (Q:QC N) {n:Nat} {h:aj} {l:List Cd} {va vb:AV} {es es':List (List AV)} {K:aM} (hN:uK l≤N) (hB:uK l≤big) (hn:3*uK l+8≤n) (ho:h.Ok) (V:View h 19 va es) (R:kW h es l) (V':View h 19 vb es') (R':kW h es' l)
 (k:∀h',Ext h h'→h'.Ok→K (.bool true) h'=true):au E n (.func 15) [va,vb] h K=true:=by
 obtain⟨n,rfl⟩:∃m,n=m+1:=⟨n-1,by omega⟩
 have hlen:=VU l
 obtain⟨g1,g2⟩:=R.get
 obtain⟨g1',g2'⟩:=R'.get
 apply d15
 unfold s15
 refine fI V (fI V' (eU ?_))
 rw[g1,g1',decide_eq_true rfl]
 refine bg ?_
 unfold UE
 have lp:∀(m i:Nat) (h':aj),i≤l.length→l.length-i<m→Ext h h'→h'.Ok→Kr (au E n) n m va vb (.int .i64 (i:Int)) h' K=true:=by
  intro m
  induction m with
  |zero=>intro i h' _ hm;omega
  |succ m ih=>
   intro i h' hi hm e o
   rw[Zn]
   unfold Nf
   refine fI (V.ext e) (jw ?_)
   rw[g1]
   by_cases hlt:i<l.length
   ·rw[decide_eq_true hlt]
    have hb:l[i]? =some l[i]:=List.getElem?_eq_getElem hlt
    generalize l[i]=b at hb
    obtain⟨c,hc,Rc⟩:=g2 i b hb
    obtain⟨c',hc',Rc'⟩:=g2' i b hb
    have hw:=WQ hb
    refine bK (uz (V.ext e) hc Rc.cells.1 (uz (V'.ext e) hc' Rc'.cells.1 ?_))
    refine Q _ _ _ _ _ _ (by omega) (by omega) (by omega) o (Rc.ext e) (Rc'.ext e) fun h'' e' o'=> ?_
    refine aG rfl (rnd (v:=va) (h:=h) (by omega) ?_)
    exact ih (i+1) h'' (by omega) (by omega) (e.trans e') o'
   ·rw[decide_eq_false hlt]
    exact bg (k h' e o)
 exact lp n 0 h (Nat.zero_le _) (by omega) (Ext.refl _) ho
theorem q47 {N:Nat} (Q:QC N) {n:Nat} {h:aj} {l:List (List Cd)} {va vb:AV} {es es':List (List AV)} {K:aM} (hN:pQ l≤N) (hB:pQ l≤big) (hn:3*pQ l+9≤n) (ho:h.Ok) (V:View h 1 va es) (R:jC h es l) (V':View h 1 vb es') (R':jC h es' l)
 (k:∀h',Ext h h'→h'.Ok→K (.bool true) h'=true):au E n (.func 47) [va,vb] h K=true:=by
 obtain⟨n,rfl⟩:∃m,n=m+1:=⟨n-1,by omega⟩
 have hlen:=QM l
 obtain⟨g1,g2⟩:=R.get
 obtain⟨g1',g2'⟩:=R'.get
 apply d47
 unfold s47
 refine fI V (fI V' (eU ?_))
 rw[g1,g1',decide_eq_true rfl]
 refine bg ?_
 unfold SQ
 have lp:∀(m i:Nat) (h':aj),i≤l.length→l.length-i<m→Ext h h'→h'.Ok→Iw (au E n) n m va vb (.int .i64 (i:Int)) h' K=true:=by
  intro m
  induction m with
  |zero=>intro i h' _ hm;omega
  |succ m ih=>
   intro i h' hi hm e o
   rw[ZA]
   unfold Nv
   refine fI (V.ext e) (jw ?_)
   rw[g1]
   by_cases hlt:i<l.length
   ·rw[decide_eq_true hlt]
    have hb:l[i]? =some l[i]:=List.getElem?_eq_getElem hlt
    generalize l[i]=b at hb
    obtain⟨v,ec,hc,Vc,Rc⟩:=g2 i b hb
    obtain⟨v',ec',hc',Vc',Rc'⟩:=g2' i b hb
    have hw:=Qv hb
    refine bK (M0 (V.ext e) hc rfl (M0 (V'.ext e) hc' rfl ?_))
    refine q15 Q (by omega) (by omega) (by omega) o (Vc.ext e) (Rc.ext e) (Vc'.ext e) (Rc'.ext e) fun h'' e' o'=> ?_
    refine aG rfl (rnd (v:=va) (h:=h) (by omega) ?_)
    exact ih (i+1) h'' (by omega) (by omega) (e.trans e') o'
   ·rw[decide_eq_false hlt]
    exact bg (k h' e o)
 exact lp n 0 h (Nat.zero_le _) (by omega) (Ext.refl _) ho
set_option maxRecDepth 100000 in
theorem qc:∀N,QC N
 |0=>fun n h v c c' K hv _ _ _ _ _ _=>by have:=Zv v;omega
 |N+1=>fun n h0 v c c' K hv hB hn ho R R' k=>by
  have Q:=qc N
  have hbig:big=1000000000:=rfl
  have hlim:lim=4611686018427387904:=rfl
  obtain⟨n,rfl⟩:∃m,n=m+1:=⟨n-1,by omega⟩
  obtain⟨kind,var,cls,binds,tests,conds,thn,alts,ex,fn,name,args⟩:=v
  have hc:cC (.mk kind var cls binds tests conds thn alts ex fn name args)=var.length+cls.length+cB binds+wM tests+uK conds+uK thn+pQ alts+cE ex+fn.length+name.length+cG args+1:=by simp only[cC]
  have hce:=Ui ex
  have hbl:=ZW binds
  have hgl:=Ux args
  have C1:=R.cells
  have C2:=R'.cells
  simp only[RC] at R R'
  obtain⟨vb,vt,et,vc,ec,vn,en,va,ea,ce,vg,eg,rfl,Vb,Vt,Rt,Vc,Rc,Vn,Rn,Va,Ra,Re,Vg,Rg⟩:=R
  obtain⟨vb',vt',et',vc',ec',vn',en',va',ea',ce',vg',eg',rfl,Vb',Vt',Rt',Vc',Rc',Vn',Rn',Va',Ra',Re',Vg',Rg'⟩:=R'
  obtain⟨x0,x1,x2,x3,x4,x5,x6,x7,rfl⟩:=len8 Re.cells.1
  obtain⟨y0,y1,y2,y3,y4,y5,y6,y7,rfl⟩:=len8 Re'.cells.1
  simp only[List.cons_append,List.nil_append] at C1 C2 ⊢
  have A:=Cx.start ho (F:=[]) (fun R m=>nomatch m)
  obtain⟨gg1,gg2⟩:=Rg.get
  obtain⟨gg1',gg2'⟩:=Rg'.get
  apply d25
  unfold s25
  refine zD A C1.1 rfl C1.2.1 fun a h A=> ?_
  refine Nu A C2.1 rfl C2.2.1 fun a' h A=> ?_
  have A:=A.swapL
  have e0:Ext h0 h:=A.f0
  repeat first |refine FX ?_ |refine zY ?_ |refine fI (Vb.ext e0) ?_ |refine fI (Vb'.ext e0) ?_ |(with_reducible first |refine aA ?_ |refine aS ?_ |refine bM ?_ |refine dw ?_ |refine bK ?_ |refine bg ?_ |refine aY ?_ |refine bR ?_ |refine dY ?_ |refine dV ?_ |refine dG ?_ |refine dQ ?_ |refine dS ?_ |refine eU ?_ |refine aB A.var rfl ?_ |refine aB A.v1 rfl ?_ |refine aB A.v2 rfl ?_ |refine aB A.v3 rfl ?_ |refine aJ A.var rfl ?_ |refine aJ A.v1 rfl ?_ |refine aJ A.v2 rfl ?_ |refine aJ A.v3 rfl ?_)
  repeat first |refine FX ?_ |refine zY ?_ |refine fI (Vg.ext e0) ?_ |refine fI (Vg'.ext e0) ?_ |(with_reducible first |refine aA ?_ |refine aS ?_ |refine bM ?_ |refine dw ?_ |refine bK ?_ |refine bg ?_ |refine aY ?_ |refine bR ?_ |refine dY ?_ |refine dV ?_ |refine dG ?_ |refine dQ ?_ |refine dS ?_ |refine eU ?_ |refine aB A.var rfl ?_ |refine aB A.v1 rfl ?_ |refine aB A.v2 rfl ?_ |refine aB A.v3 rfl ?_ |refine aJ A.var rfl ?_ |refine aJ A.v1 rfl ?_ |refine aJ A.v2 rfl ?_ |refine aJ A.v3 rfl ?_)
  rw[gg1,gg1',decide_eq_true rfl]
  repeat first |(with_reducible first |refine aA ?_ |refine aS ?_ |refine bM ?_ |refine dw ?_ |refine bK ?_ |refine bg ?_ |refine aY ?_ |refine bR ?_ |refine dY ?_ |refine dV ?_ |refine dG ?_ |refine dQ ?_ |refine dS ?_ |refine eU ?_ |refine aB A.var rfl ?_ |refine aB A.v1 rfl ?_ |refine aB A.v2 rfl ?_ |refine aB A.v3 rfl ?_ |refine aJ A.var rfl ?_ |refine aJ A.v1 rfl ?_ |refine aJ A.v2 rfl ?_ |refine aJ A.v3 rfl ?_)
  unfold Tx
  have l1:∀(m i:Nat),i≤binds.length→binds.length-i<m→(Oa (au E n) n (.ptr a 0 0 0) (.ptr a' 0 0 0) h K=true)→Jh (au E n) n m (.ptr a 0 0 0) (.ptr a' 0 0 0) (.int .i64 (i:Int)) h K=true:=by
   intro m
   induction m with
   |zero=>intro i _ hm;omega
   |succ m ih=>
    intro i hi hm kk
    rw[ZK]
    unfold NZ
    repeat first |refine fI (Vb.ext e0) ?_ |refine jw ?_ |(with_reducible first |refine aA ?_ |refine aS ?_ |refine bM ?_ |refine dw ?_ |refine bK ?_ |refine bg ?_ |refine aY ?_ |refine bR ?_ |refine dY ?_ |refine dV ?_ |refine dG ?_ |refine dQ ?_ |refine dS ?_ |refine eU ?_ |refine aB A.var rfl ?_ |refine aB A.v1 rfl ?_ |refine aB A.v2 rfl ?_ |refine aB A.v3 rfl ?_ |refine aJ A.var rfl ?_ |refine aJ A.v1 rfl ?_ |refine aJ A.v2 rfl ?_ |refine aJ A.v3 rfl ?_)
    rw[List.length_map]
    by_cases hlt:i<binds.length
    ·rw[decide_eq_true hlt]
     have hb:binds[i]? =some binds[i]:=List.getElem?_eq_getElem hlt
     generalize binds[i]=b at hb
     have hb':(binds.map oK)[i]? =some (oK b):=by rw[List.getElem?_map,hb];rfl
     repeat first |refine uz (Vb.ext e0) hb' rfl ?_ |(with_reducible first |refine aA ?_ |refine aS ?_ |refine bM ?_ |refine dw ?_ |refine bK ?_ |refine bg ?_ |refine aY ?_ |refine bR ?_ |refine dY ?_ |refine dV ?_ |refine dG ?_ |refine dQ ?_ |refine dS ?_ |refine eU ?_ |refine aB A.var rfl ?_ |refine aB A.v1 rfl ?_ |refine aB A.v2 rfl ?_ |refine aB A.v3 rfl ?_ |refine aJ A.var rfl ?_ |refine aJ A.v1 rfl ?_ |refine aJ A.v2 rfl ?_ |refine aJ A.v3 rfl ?_)
     repeat first |refine uz (Vb'.ext e0) hb' rfl ?_ |refine qG (aeW _ _) ?_ |(with_reducible first |refine aA ?_ |refine aS ?_ |refine bM ?_ |refine dw ?_ |refine bK ?_ |refine bg ?_ |refine aY ?_ |refine bR ?_ |refine dY ?_ |refine dV ?_ |refine dG ?_ |refine dQ ?_ |refine dS ?_ |refine eU ?_ |refine aB A.var rfl ?_ |refine aB A.v1 rfl ?_ |refine aB A.v2 rfl ?_ |refine aB A.v3 rfl ?_ |refine aJ A.var rfl ?_ |refine aJ A.v1 rfl ?_ |refine aJ A.v2 rfl ?_ |refine aJ A.v3 rfl ?_)
     refine mI (by omega) ?_
     exact ih (i+1) (by omega) (by omega) kk
    ·rw[decide_eq_false hlt]
     exact bg kk
  refine l1 n 0 (Nat.zero_le _) (by omega) ?_
  unfold Oa
  have l2:∀(m i:Nat) (h:aj),i≤args.length→args.length-i<m→Cx h [vr a' [AV.int IntKind.i64 kind,AV.str var,AV.str cls,vb',vt',vc',vn',va',y0,y1,y2,y3,y4,y5,y6,y7,AV.str fn,AV.str name,vg'],vr a [AV.int IntKind.i64 kind,AV.str var,AV.str cls,vb,vt,vc,vn,va,x0,x1,x2,x3,x4,x5,x6,x7,AV.str fn,AV.str name,vg]] [] [Ext h0]→
   (∀h,Cx h [vr a' [AV.int IntKind.i64 kind,AV.str var,AV.str cls,vb',vt',vc',vn',va',y0,y1,y2,y3,y4,y5,y6,y7,AV.str fn,AV.str name,vg'],vr a [AV.int IntKind.i64 kind,AV.str var,AV.str cls,vb,vt,vc,vn,va,x0,x1,x2,x3,x4,x5,x6,x7,AV.str fn,AV.str name,vg]] [] [Ext h0]→ND (au E n) n (.ptr a 0 0 0) (.ptr a' 0 0 0) h K=true)→Io (au E n) n m (.ptr a 0 0 0) (.ptr a' 0 0 0) (.int .i64 (i:Int)) h K=true:=by
   intro m
   induction m with
   |zero=>intro i h _ hm;omega
   |succ m ih=>
    intro i h hi hm A kk
    have e0:Ext h0 h:=A.f0
    rw[abD]
    unfold Np
    repeat first |refine fI (Vg.ext e0) ?_ |refine jw ?_ |(with_reducible first |refine aA ?_ |refine aS ?_ |refine bM ?_ |refine dw ?_ |refine bK ?_ |refine bg ?_ |refine aY ?_ |refine bR ?_ |refine dY ?_ |refine dV ?_ |refine dG ?_ |refine dQ ?_ |refine dS ?_ |refine eU ?_ |refine aB A.var rfl ?_ |refine aB A.v1 rfl ?_ |refine aB A.v2 rfl ?_ |refine aB A.v3 rfl ?_ |refine aJ A.var rfl ?_ |refine aJ A.v1 rfl ?_ |refine aJ A.v2 rfl ?_ |refine aJ A.v3 rfl ?_)
    rw[gg1]
    by_cases hlt:i<args.length
    ·rw[decide_eq_true hlt]
     have hb:args[i]? =some args[i]:=List.getElem?_eq_getElem hlt
     generalize args[i]=b at hb
     have hw:=SL hb
     obtain⟨c,hc,R⟩:=gg2 i b hb
     obtain⟨c',hc',R'⟩:=gg2' i b hb
     obtain⟨w0,w1,w2,w3,w4,w5,w6,w7,rfl⟩:=len8 R.cells.1
     obtain⟨z0,z1,z2,z3,z4,z5,z6,z7,rfl⟩:=len8 R'.cells.1
     repeat first |(with_reducible first |refine aA ?_ |refine aS ?_ |refine bM ?_ |refine dw ?_ |refine bK ?_ |refine bg ?_ |refine aY ?_ |refine bR ?_ |refine dY ?_ |refine dV ?_ |refine dG ?_ |refine dQ ?_ |refine dS ?_ |refine eU ?_ |refine aB A.var rfl ?_ |refine aB A.v1 rfl ?_ |refine aB A.v2 rfl ?_ |refine aB A.v3 rfl ?_ |refine aJ A.var rfl ?_ |refine aJ A.v1 rfl ?_ |refine aJ A.v2 rfl ?_ |refine aJ A.v3 rfl ?_)
     refine ng (Vg.ext e0) hc fun i1 g1 j1 q1=> ?_
     repeat first |refine aQ (q1 false 0 1) ?_ |(with_reducible first |refine aA ?_ |refine aS ?_ |refine bM ?_ |refine dw ?_ |refine bK ?_ |refine bg ?_ |refine aY ?_ |refine bR ?_ |refine dY ?_ |refine dV ?_ |refine dG ?_ |refine dQ ?_ |refine dS ?_ |refine eU ?_ |refine aB A.var rfl ?_ |refine aB A.v1 rfl ?_ |refine aB A.v2 rfl ?_ |refine aB A.v3 rfl ?_ |refine aJ A.var rfl ?_ |refine aJ A.v1 rfl ?_ |refine aJ A.v2 rfl ?_ |refine aJ A.v3 rfl ?_)
     refine ng (Vg'.ext e0) hc' fun i2 g2 j2 q2=> ?_
     repeat first |refine aQ (q2 false 0 1) ?_ |refine zY ?_ |(with_reducible first |refine aA ?_ |refine aS ?_ |refine bM ?_ |refine dw ?_ |refine bK ?_ |refine bg ?_ |refine aY ?_ |refine bR ?_ |refine dY ?_ |refine dV ?_ |refine dG ?_ |refine dQ ?_ |refine dS ?_ |refine eU ?_ |refine aB A.var rfl ?_ |refine aB A.v1 rfl ?_ |refine aB A.v2 rfl ?_ |refine aB A.v3 rfl ?_ |refine aJ A.var rfl ?_ |refine aJ A.v1 rfl ?_ |refine aJ A.v2 rfl ?_ |refine aJ A.v3 rfl ?_)
     refine ng (Vg.ext e0) hc fun i1 g1 j1 q1=> ?_
     repeat first |refine qH (q1 true 1 8) ?_ |(with_reducible first |refine aA ?_ |refine aS ?_ |refine bM ?_ |refine dw ?_ |refine bK ?_ |refine bg ?_ |refine aY ?_ |refine bR ?_ |refine dY ?_ |refine dV ?_ |refine dG ?_ |refine dQ ?_ |refine dS ?_ |refine eU ?_ |refine aB A.var rfl ?_ |refine aB A.v1 rfl ?_ |refine aB A.v2 rfl ?_ |refine aB A.v3 rfl ?_ |refine aJ A.var rfl ?_ |refine aJ A.v1 rfl ?_ |refine aJ A.v2 rfl ?_ |refine aJ A.v3 rfl ?_)
     refine ng (Vg'.ext e0) hc' fun i2 g2 j2 q2=> ?_
     repeat first |refine qH (q2 true 1 8) ?_ |(with_reducible first |refine aA ?_ |refine aS ?_ |refine bM ?_ |refine dw ?_ |refine bK ?_ |refine bg ?_ |refine aY ?_ |refine bR ?_ |refine dY ?_ |refine dV ?_ |refine dG ?_ |refine dQ ?_ |refine dS ?_ |refine eU ?_ |refine aB A.var rfl ?_ |refine aB A.v1 rfl ?_ |refine aB A.v2 rfl ?_ |refine aB A.v3 rfl ?_ |refine aJ A.var rfl ?_ |refine aJ A.v1 rfl ?_ |refine aJ A.v2 rfl ?_ |refine aJ A.v3 rfl ?_)
     refine c26 (by omega) (by omega) A.ok (R.ext e0) (R'.ext e0) fun h' e' o'=> ?_
     refine aG rfl ?_
     repeat first |(with_reducible first |refine aA ?_ |refine aS ?_ |refine bM ?_ |refine dw ?_ |refine bK ?_ |refine bg ?_ |refine aY ?_ |refine bR ?_ |refine dY ?_ |refine dV ?_ |refine dG ?_ |refine dQ ?_ |refine dS ?_ |refine eU ?_ |refine aB A.var rfl ?_ |refine aB A.v1 rfl ?_ |refine aB A.v2 rfl ?_ |refine aB A.v3 rfl ?_ |refine aJ A.var rfl ?_ |refine aJ A.v1 rfl ?_ |refine aJ A.v2 rfl ?_ |refine aJ A.v3 rfl ?_)
     refine mI (by omega) ?_
     exact ih (i+1) h' (by omega) (by omega) (A.ext e' o') kk
    ·rw[decide_eq_false hlt]
     exact bg (kk h A)
  refine l2 n 0 h (Nat.zero_le _) (by omega) A fun h A=> ?_
  unfold ND
  repeat first |(with_reducible first |refine aA ?_ |refine aS ?_ |refine bM ?_ |refine dw ?_ |refine bK ?_ |refine bg ?_ |refine aY ?_ |refine bR ?_ |refine dY ?_ |refine dV ?_ |refine dG ?_ |refine dQ ?_ |refine dS ?_ |refine eU ?_ |refine aB A.var rfl ?_ |refine aB A.v1 rfl ?_ |refine aB A.v2 rfl ?_ |refine aB A.v3 rfl ?_ |refine aJ A.var rfl ?_ |refine aJ A.v1 rfl ?_ |refine aJ A.v2 rfl ?_ |refine aJ A.v3 rfl ?_)
  have e0:Ext h0 h:=A.f0
  refine c46 (by omega) (by omega) A.ok (Vt.ext e0) (Rt.ext e0) (Vt'.ext e0) (Rt'.ext e0) fun h e' o'=> ?_
  have A:=A.ext e' o'
  refine aG rfl ?_
  unfold DX
  repeat first |(with_reducible first |refine aA ?_ |refine aS ?_ |refine bM ?_ |refine dw ?_ |refine bK ?_ |refine bg ?_ |refine aY ?_ |refine bR ?_ |refine dY ?_ |refine dV ?_ |refine dG ?_ |refine dQ ?_ |refine dS ?_ |refine eU ?_ |refine aB A.var rfl ?_ |refine aB A.v1 rfl ?_ |refine aB A.v2 rfl ?_ |refine aB A.v3 rfl ?_ |refine aJ A.var rfl ?_ |refine aJ A.v1 rfl ?_ |refine aJ A.v2 rfl ?_ |refine aJ A.v3 rfl ?_)
  have e0:Ext h0 h:=A.f0
  refine q15 Q (by omega) (by omega) (by omega) A.ok (Vc.ext e0) (Rc.ext e0) (Vc'.ext e0) (Rc'.ext e0) fun h e' o'=> ?_
  have A:=A.ext e' o'
  refine aG rfl ?_
  unfold EY
  repeat first |(with_reducible first |refine aA ?_ |refine aS ?_ |refine bM ?_ |refine dw ?_ |refine bK ?_ |refine bg ?_ |refine aY ?_ |refine bR ?_ |refine dY ?_ |refine dV ?_ |refine dG ?_ |refine dQ ?_ |refine dS ?_ |refine eU ?_ |refine aB A.var rfl ?_ |refine aB A.v1 rfl ?_ |refine aB A.v2 rfl ?_ |refine aB A.v3 rfl ?_ |refine aJ A.var rfl ?_ |refine aJ A.v1 rfl ?_ |refine aJ A.v2 rfl ?_ |refine aJ A.v3 rfl ?_)
  have e0:Ext h0 h:=A.f0
  refine q15 Q (by omega) (by omega) (by omega) A.ok (Vn.ext e0) (Rn.ext e0) (Vn'.ext e0) (Rn'.ext e0) fun h e' o'=> ?_
  have A:=A.ext e' o'
  refine aG rfl ?_
  unfold FI
  repeat first |(with_reducible first |refine aA ?_ |refine aS ?_ |refine bM ?_ |refine dw ?_ |refine bK ?_ |refine bg ?_ |refine aY ?_ |refine bR ?_ |refine dY ?_ |refine dV ?_ |refine dG ?_ |refine dQ ?_ |refine dS ?_ |refine eU ?_ |refine aB A.var rfl ?_ |refine aB A.v1 rfl ?_ |refine aB A.v2 rfl ?_ |refine aB A.v3 rfl ?_ |refine aJ A.var rfl ?_ |refine aJ A.v1 rfl ?_ |refine aJ A.v2 rfl ?_ |refine aJ A.v3 rfl ?_)
  have e0:Ext h0 h:=A.f0
  refine q47 Q (by omega) (by omega) (by omega) A.ok (Va.ext e0) (Ra.ext e0) (Va'.ext e0) (Ra'.ext e0) fun h e' o'=> ?_
  have A:=A.ext e' o'
  refine aG rfl ?_
  unfold Eb
  repeat first |(with_reducible first |refine aA ?_ |refine aS ?_ |refine bM ?_ |refine dw ?_ |refine bK ?_ |refine bg ?_ |refine aY ?_ |refine bR ?_ |refine dY ?_ |refine dV ?_ |refine dG ?_ |refine dQ ?_ |refine dS ?_ |refine eU ?_ |refine aB A.var rfl ?_ |refine aB A.v1 rfl ?_ |refine aB A.v2 rfl ?_ |refine aB A.v3 rfl ?_ |refine aJ A.var rfl ?_ |refine aJ A.v1 rfl ?_ |refine aJ A.v2 rfl ?_ |refine aJ A.v3 rfl ?_)
  have e0:Ext h0 h:=A.f0
  refine c26 (by omega) (by omega) A.ok (Re.ext e0) (Re'.ext e0) fun h e' o'=> ?_
  refine aG rfl ?_
  unfold Ew
  exact dG (k h (e0.trans e') o')
theorem c15 {n:Nat} {h:aj} {l:List Cd} {va vb:AV} {es es':List (List AV)} {K:aM} (hB:uK l≤big) (hn:3*uK l+8≤n) (ho:h.Ok) (V:View h 19 va es) (R:kW h es l) (V':View h 19 vb es') (R':kW h es' l)
 (k:∀h',Ext h h'→h'.Ok→K (.bool true) h'=true):au E n (.func 15) [va,vb] h K=true:=q15 (qc _) (Nat.le_refl _) hB hn ho V R V' R' k
theorem RA.ext {h h':aj} (e:Ext h h') {c:List AV} {a:Act} (R:RA h c a):RA h' c a:=by
 obtain⟨vs,eg,ce,h1,h2,h3,h4⟩:=R
 exact⟨vs,eg,ce,h1,h2.ext e,h3.ext e,h4.ext e⟩
theorem Ba.get {h:aj}:∀{es:List (List AV)} {l:List Act},Ba h es l→es.length=l.length∧∀(j:Nat) (b:Act),l[j]? =some b→∃c,es[j]? =some c∧RA h c b
 |es,[],R=>by simp only[Ba] at R;subst R;exact⟨rfl,fun j b e=>by simp at e⟩
 |es,v :: l,R=>by
  simp only[Ba] at R
  obtain⟨c,r,rfl,R1,R2⟩:=R
  obtain⟨h1,h2⟩:=Ba.get R2
  refine⟨by simp[h1],fun j b e=> ?_⟩
  cases j with
  |zero=>simp only[List.getElem?_cons_zero,Option.some.injEq] at e ⊢;subst e;exact⟨c,rfl,R1⟩
  |succ j=>simp only[List.getElem?_cons_succ] at e ⊢;exact h2 j b e
theorem Ba.ext {h h':aj} (e:Ext h h'):∀{a:List (List AV)} {l:List Act},Ba h a l→Ba h' a l
 |a,[],H=>H
 |a,v :: l,⟨c,r,h1,h2,h3⟩=>⟨c,r,h1,h2.ext e,Ba.ext e h3⟩
theorem CF.get {h:aj}:∀{es:List (List AV)} {l:List Cls},CF h es l→es.length=l.length∧∀(j:Nat) (b:Cls),l[j]? =some b→∃c,es[j]? =some c∧RK h c b
 |es,[],R=>by simp only[CF] at R;subst R;exact⟨rfl,fun j b e=>by simp at e⟩
 |es,v :: l,R=>by
  simp only[CF] at R
  obtain⟨c,r,rfl,R1,R2⟩:=R
  obtain⟨h1,h2⟩:=CF.get R2
  refine⟨by simp[h1],fun j b e=> ?_⟩
  cases j with
  |zero=>simp only[List.getElem?_cons_zero,Option.some.injEq] at e ⊢;subst e;exact⟨c,rfl,R1⟩
  |succ j=>simp only[List.getElem?_cons_succ] at e ⊢;exact h2 j b e
theorem Cj.get {h:aj}:∀{es:List (List AV)} {l:List Bu},Cj h es l→es.length=l.length∧∀(j:Nat) (b:Bu),l[j]? =some b→∃c,es[j]? =some c∧RR h c b
 |es,[],R=>by simp only[Cj] at R;subst R;exact⟨rfl,fun j b e=>by simp at e⟩
 |es,v :: l,R=>by
  simp only[Cj] at R
  obtain⟨c,r,rfl,R1,R2⟩:=R
  obtain⟨h1,h2⟩:=Cj.get R2
  refine⟨by simp[h1],fun j b e=> ?_⟩
  cases j with
  |zero=>simp only[List.getElem?_cons_zero,Option.some.injEq] at e ⊢;subst e;exact⟨c,rfl,R1⟩
  |succ j=>simp only[List.getElem?_cons_succ] at e ⊢;exact h2 j b e
theorem Cy.get {h:aj}:∀{es:List (List AV)} {l:List K3},Cy h es l→es.length=l.length∧∀(j:Nat) (b:K3),l[j]? =some b→∃c,es[j]? =some c∧RQ h c b
 |es,[],R=>by simp only[Cy] at R;subst R;exact⟨rfl,fun j b e=>by simp at e⟩
 |es,v :: l,R=>by
  simp only[Cy] at R
  obtain⟨c,r,rfl,R1,R2⟩:=R
  obtain⟨h1,h2⟩:=Cy.get R2
  refine⟨by simp[h1],fun j b e=> ?_⟩
  cases j with
  |zero=>simp only[List.getElem?_cons_zero,Option.some.injEq] at e ⊢;subst e;exact⟨c,rfl,R1⟩
  |succ j=>simp only[List.getElem?_cons_succ] at e ⊢;exact h2 j b e
theorem U9:∀{l:List Act} {j:Nat} {b:Act},l[j]? =some b→cA b≤Ny l
 | [],j,b,e=>by simp at e
 |v :: l,0,b,e=>by simp only[List.getElem?_cons_zero,Option.some.injEq] at e;subst e;unfold Ny;omega
 |v :: l,j+1,b,e=>by simp only[List.getElem?_cons_succ] at e;have:=U9 e;unfold Ny;omega
theorem WA:∀(l:List Act),l.length≤Ny l
 | []=>Nat.le_refl _
 |v :: l=>by have:=WA l;unfold Ny cA;simp only[List.length_cons];omega
theorem aaE:∀(l:List Str),l.length≤cT l
 | []=>Nat.le_refl _
 |v :: l=>by have:=aaE l;unfold cT;simp only[List.length_cons];omega
theorem aaG:∀(l:List Bv),l.length≤cF l
 | []=>Nat.le_refl _
 |v :: l=>by have:=aaG l;unfold cF;simp only[List.length_cons];omega
theorem XE:∀{l:List Cls} {j:Nat} {b:Cls},l[j]? =some b→cK b≤R7 l
 | [],j,b,e=>by simp at e
 |v :: l,0,b,e=>by simp only[List.getElem?_cons_zero,Option.some.injEq] at e;subst e;unfold R7;omega
 |v :: l,j+1,b,e=>by simp only[List.getElem?_cons_succ] at e;have:=XE e;unfold R7;omega
theorem Xu:∀(l:List Cls),l.length≤R7 l
 | []=>Nat.le_refl _
 |v :: l=>by have:=Xu l;unfold R7 cK;simp only[List.length_cons];omega
theorem VL:∀{l:List Bu} {j:Nat} {b:Bu},l[j]? =some b→cR b≤R5 l
 | [],j,b,e=>by simp at e
 |v :: l,0,b,e=>by simp only[List.getElem?_cons_zero,Option.some.injEq] at e;subst e;unfold R5;omega
 |v :: l,j+1,b,e=>by simp only[List.getElem?_cons_succ] at e;have:=VL e;unfold R5;omega
theorem WG:∀(l:List Bu),l.length≤R5 l
 | []=>Nat.le_refl _
 |v :: l=>by have:=WG l;unfold R5 cR;simp only[List.length_cons];omega
theorem V7:∀{l:List K3} {j:Nat} {b:K3},l[j]? =some b→cQ b≤R6 l
 | [],j,b,e=>by simp at e
 |v :: l,0,b,e=>by simp only[List.getElem?_cons_zero,Option.some.injEq] at e;subst e;unfold R6;omega
 |v :: l,j+1,b,e=>by simp only[List.getElem?_cons_succ] at e;have:=V7 e;unfold R6;omega
theorem Vz:∀(l:List K3),l.length≤R6 l
 | []=>Nat.le_refl _
 |v :: l=>by have:=Vz l;unfold R6 cQ;simp only[List.length_cons];omega
theorem c17 {n:Nat} {h:aj} {l:List Str} {va vb:AV} {K:aM} (hB:l.length≤big) (hn:l.length+2≤n) (V:View h 1 va (l.map nV)) (V':View h 1 vb (l.map nV))
 (k:K (.bool true) h=true):au E n (.func 17) [va,vb] h K=true:=by
 have hbig:big=1000000000:=rfl
 have hlim:lim=4611686018427387904:=rfl
 obtain⟨n,rfl⟩:∃m,n=m+1:=⟨n-1,by omega⟩
 apply d17
 unfold s17
 refine fI V ?_;refine fI V' ?_;refine FX ?_;refine bg ?_
 unfold TF
 have lp:∀(m i:Nat),i≤l.length→l.length-i<m→JC (au E n) n m va vb (.int .i64 (i:Int)) h K=true:=by
  intro m
  induction m with
  |zero=>intro i _ hm;omega
  |succ m ih=>
   intro i hi hm
   rw[abw]
   unfold N7
   refine fI V ?_;refine jw ?_
   rw[List.length_map]
   by_cases hlt:i<l.length
   ·rw[decide_eq_true hlt]
    have hb:l[i]? =some l[i]:=List.getElem?_eq_getElem hlt
    generalize l[i]=b at hb
    have hb':(l.map nV)[i]? =some (nV b):=by rw[List.getElem?_map,hb];rfl
    refine M0 V hb' rfl ?_
    refine M0 V' hb' rfl ?_;refine zY ?_;refine bg ?_
    refine mI (by omega) ?_
    exact ih (i+1) (by omega) (by omega)
   ·rw[decide_eq_false hlt]
    exact bg k
 exact lp n 0 (Nat.zero_le _) (by omega)
theorem c14 {n:Nat} {h:aj} {l:List Bv} {va vb:AV} {K:aM} (hB:l.length≤big) (hn:l.length+2≤n) (V:View h 3 va (l.map pX)) (V':View h 3 vb (l.map pX))
 (k:K (.bool true) h=true):au E n (.func 14) [va,vb] h K=true:=by
 have hbig:big=1000000000:=rfl
 have hlim:lim=4611686018427387904:=rfl
 obtain⟨n,rfl⟩:∃m,n=m+1:=⟨n-1,by omega⟩
 apply d14
 unfold s14
 refine fI V ?_;refine fI V' ?_;refine FX ?_;refine bg ?_
 unfold UH
 have lp:∀(m i:Nat),i≤l.length→l.length-i<m→Kl (au E n) n m va vb (.int .i64 (i:Int)) h K=true:=by
  intro m
  induction m with
  |zero=>intro i _ hm;omega
  |succ m ih=>
   intro i hi hm
   rw[Z4]
   unfold NY
   refine fI V ?_;refine jw ?_
   rw[List.length_map]
   by_cases hlt:i<l.length
   ·rw[decide_eq_true hlt]
    have hb:l[i]? =some l[i]:=List.getElem?_eq_getElem hlt
    generalize l[i]=b at hb
    have hb':(l.map pX)[i]? =some (pX b):=by rw[List.getElem?_map,hb];rfl
    refine uz V hb' rfl ?_
    refine uz V' hb' rfl ?_;refine qG (aeD _ _) ?_;refine bg ?_
    refine mI (by omega) ?_
    exact ih (i+1) (by omega) (by omega)
   ·rw[decide_eq_false hlt]
    exact bg k
 exact lp n 0 (Nat.zero_le _) (by omega)
set_option maxRecDepth 100000 in
theorem c16 {n:Nat} {h:aj} {l:List Act} {va vb:AV} {es es':List (List AV)} {K:aM} (hB:Ny l≤big) (hn:3*Ny l+12≤n) (ho:h.Ok) (V:View h 12 va es) (R:Ba h es l) (V':View h 12 vb es') (R':Ba h es' l)
 (k:∀h',Ext h h'→h'.Ok→K (.bool true) h'=true):au E n (.func 16) [va,vb] h K=true:=by
 have hbig:big=1000000000:=rfl
 have hlim:lim=4611686018427387904:=rfl
 obtain⟨n,rfl⟩:∃m,n=m+1:=⟨n-1,by omega⟩
 have hlen:=WA l
 obtain⟨g1,g2⟩:=R.get
 obtain⟨g1',g2'⟩:=R'.get
 apply d16
 unfold s16
 refine fI V (fI V' (eU ?_))
 rw[g1,g1',decide_eq_true rfl]
 refine bg ?_
 unfold Ul
 have lp:∀(m i:Nat) (h':aj),i≤l.length→l.length-i<m→Ext h h'→h'.Ok→Jt (au E n) n m va vb (.int .i64 (i:Int)) h' K=true:=by
  intro m
  induction m with
  |zero=>intro i h' _ hm;omega
  |succ m ih=>
   intro i h' hi hm e o
   rw[aaw]
   unfold Nc
   refine fI (V.ext e) (jw ?_)
   rw[g1]
   by_cases hlt:i<l.length
   ·rw[decide_eq_true hlt]
    have hb:l[i]? =some l[i]:=List.getElem?_eq_getElem hlt
    generalize l[i]=b at hb
    obtain⟨c,hc,Rc⟩:=g2 i b hb
    obtain⟨c',hc',Rc'⟩:=g2' i b hb
    have hw:=U9 hb
    have C1:=Rc.cells
    have C2:=Rc'.cells
    obtain⟨vs,eg,ce,rfl,Vs,Rg,Re⟩:=Rc
    obtain⟨vs',eg',ce',rfl,Vs',Rg',Re'⟩:=Rc'
    obtain⟨x0,x1,x2,x3,x4,x5,x6,x7,rfl⟩:=len8 Re.cells.1
    obtain⟨y0,y1,y2,y3,y4,y5,y6,y7,rfl⟩:=len8 Re'.cells.1
    simp only[List.cons_append,List.nil_append] at C1 C2 hc hc'
    obtain⟨gg1,gg2⟩:=Rg.get
    obtain⟨gg1',gg2'⟩:=Rg'.get
    have hcA:cA b=b.cls.length+cG b.set+cE b.e+b.text.length+1:=rfl
    have hgl:=Ux b.set
    have A:=Cx.start o (F:=[]) (fun R m=>nomatch m)
    refine bK ?_
    unfold UN
    refine uz (V.ext e) hc C1.1 ?_
    refine vF A rfl rfl rfl fun a h2 A=> ?_
    refine Mr A rfl C1.1 rfl C1.2.1 fun h2 A=> ?_
    have e1:Ext h' h2:=A.f0
    refine uz (V'.ext (e.trans e1)) hc' C2.1 ?_
    refine bY A rfl rfl rfl fun a' h2 A=> ?_
    refine gZ A rfl C2.1 rfl C2.2.1 fun h2 A=> ?_
    have e1:Ext h' h2:=A.f0
    repeat first |refine FX ?_ |refine zY ?_ |refine aJ A.var rfl ?_ |refine aJ A.v1 rfl ?_ |(with_reducible first |refine aA ?_ |refine bR ?_ |refine dV ?_ |refine dQ ?_ |refine aB A.var rfl ?_ |refine aB A.v1 rfl ?_)
    refine c26 (by omega) (by omega) A.ok (Re.ext (e.trans e1)) (Re'.ext (e.trans e1)) fun h3 e2 o2=> ?_
    have A:=A.ext e2 o2
    refine aG rfl ?_
    unfold DI
    have e1:=e.trans (e1.trans e2)
    repeat first |refine fI (Vs.ext e1) ?_ |refine fI (Vs'.ext e1) ?_ |(with_reducible first |refine aA ?_ |refine bM ?_ |refine bR ?_ |refine dQ ?_ |refine eU ?_ |refine aB A.var rfl ?_ |refine aB A.v1 rfl ?_)
    rw[gg1,gg1',decide_eq_true rfl]
    skip
    unfold Uu
    have l2:∀(m j:Nat) (h4:aj),j≤b.set.length→b.set.length-j<m→Cx h4 [vr a [AV.int IntKind.i64 b.kind,AV.str b.cls,vs,x0,x1,x2,x3,x4,x5,x6,x7,AV.str b.text],vr a' [AV.int IntKind.i64 b.kind,AV.str b.cls,vs',y0,y1,y2,y3,y4,y5,y6,y7,AV.str b.text]] [] [Ext h']→
     ∀(Bk:AV→AV→AV→aj→Bool),(∀h4,Ext h' h4→h4.Ok→Bk va vb (.int .i64 ((i+1:Nat):Int)) h4=true)→Jg (au E n) n Bk m va vb (.int .i64 (i:Int)) (.ptr a 0 0 0) (.ptr a' 0 0 0) (.int .i64 (j:Int)) h4 K=true:=by
     intro m
     induction m with
     |zero=>intro j h4 _ hm;omega
     |succ m ih2=>
      intro j h4 hj hm A Bk kk
      have e2:Ext h h4:=e.trans (A.f0:Ext h' h4)
      rw[Z5]
      unfold Nb
      refine aA ?_;refine aB A.var rfl ?_;refine fI (Vs.ext e2) ?_;refine jw ?_
      rw[gg1]
      by_cases hlt:j<b.set.length
      ·rw[decide_eq_true hlt]
       have hb2:b.set[j]? =some b.set[j]:=List.getElem?_eq_getElem hlt
       generalize b.set[j]=g at hb2
       have hw2:=SL hb2
       obtain⟨c,hc,R⟩:=gg2 j g hb2
       obtain⟨c',hc',R'⟩:=gg2' j g hb2
       obtain⟨w0,w1,w2,w3,w4,w5,w6,w7,rfl⟩:=len8 R.cells.1
       obtain⟨z0,z1,z2,z3,z4,z5,z6,z7,rfl⟩:=len8 R'.cells.1
       refine bK ?_;refine aA ?_;refine aB A.var rfl ?_
       refine ng (Vs.ext e2) hc fun i1 g1 j1 q1=> ?_
       refine aQ (q1 false 0 1) ?_;refine aA ?_;refine aB A.v1 rfl ?_
       refine ng (Vs'.ext e2) hc' fun i2 g2 j2 q2=> ?_
       repeat first |refine aQ (q2 false 0 1) ?_ |refine zY ?_ |(with_reducible first |refine aA ?_ |refine aS ?_ |refine bR ?_ |refine aB A.var rfl ?_)
       refine ng (Vs.ext e2) hc fun i1 g1 j1 q1=> ?_
       repeat first |refine qH (q1 true 1 8) ?_ |(with_reducible first |refine aA ?_ |refine aS ?_ |refine bR ?_ |refine aB A.v1 rfl ?_)
       refine ng (Vs'.ext e2) hc' fun i2 g2 j2 q2=> ?_
       refine bR ?_;refine aA ?_;refine bR ?_;refine qH (q2 true 1 8) ?_;refine dV ?_
       refine c26 (by omega) (by omega) A.ok (R.ext e2) (R'.ext e2) fun h5 e' o'=> ?_
       refine aG rfl ?_
       refine bR ?_;refine bM ?_;refine dQ ?_;refine bg ?_
       refine mI (by omega) ?_
       exact ih2 (j+1) h5 (by omega) (by omega) (A.ext e' o') Bk kk
      ·rw[decide_eq_false hlt]
       refine bg ?_
       unfold SY
       refine mI (by omega) ?_
       exact kk h4 A.f0 A.ok
    refine l2 n 0 _ (Nat.zero_le _) (by omega) A _ fun h4 e4 o4=> ?_
    exact ih (i+1) h4 (by omega) (by omega) (e.trans e4) o4
   ·rw[decide_eq_false hlt]
    exact bg (k h' e o)
 exact lp n 0 h (Nat.zero_le _) (by omega) (Ext.refl _) ho
section
variable {n:Nat} {h0 h:aj} {b:DU} {v0 v1 v2 w0 w1 w2:AV} {a a':Nat} {K:aM}
abbrev C8 (a a':Nat) (h0 h:aj) (v0 v1 v2 w0 w1 w2:AV):Prop:=Cx h [vr a' [w0,w1,w2],vr a [v0,v1,v2]] [] [Ext h0]
set_option maxRecDepth 100000 in
theorem p60 {l:List K3} {es es':List (List AV)} (hB:R6 l≤big) (hn:3*R6 l+12≤n) (V:View h0 3 v2 es) (R:Cy h0 es l) (V':View h0 3 w2 es') (R':Cy h0 es' l) (A:C8 a a' h0 h v0 v1 v2 w0 w1 w2)
 (k:∀h',Ext h0 h'→h'.Ok→K (.bool true) h'=true):Qo (au E n) n (.ptr a 0 0 0) (.ptr a' 0 0 0) h K=true:=by
 have hbig:big=1000000000:=rfl
 have hlim:lim=4611686018427387904:=rfl
 have hlen:=Vz l
 obtain⟨g1,g2⟩:=R.get
 obtain⟨g1',g2'⟩:=R'.get
 unfold Qo
 have lp:∀(m i:Nat) (h:aj),i≤l.length→l.length-i<m→C8 a a' h0 h v0 v1 v2 w0 w1 w2→Q9 (au E n) n m (.ptr a 0 0 0) (.ptr a' 0 0 0) (.int .i64 (i:Int)) h K=true:=by
  intro m
  induction m with
  |zero=>intro i h _ hm;omega
  |succ m ih=>
   intro i h hi hm A
   have e0:Ext h0 h:=A.f0
   rw[adq]
   unfold Xv
   repeat first |refine fI (V.ext e0) ?_ |refine jw ?_ |(with_reducible first |refine aA ?_ |refine aS ?_ |refine bM ?_ |refine dw ?_ |refine bK ?_ |refine bg ?_ |refine aY ?_ |refine bR ?_ |refine dY ?_ |refine dV ?_ |refine dG ?_ |refine dQ ?_ |refine dS ?_ |refine eU ?_ |refine aB A.var rfl ?_ |refine aB A.v1 rfl ?_ |refine aB A.v2 rfl ?_ |refine aB A.v3 rfl ?_ |refine aJ A.var rfl ?_ |refine aJ A.v1 rfl ?_ |refine aJ A.v2 rfl ?_ |refine aJ A.v3 rfl ?_)
   rw[g1]
   by_cases hlt:i<l.length
   ·rw[decide_eq_true hlt]
    have hb:l[i]? =some l[i]:=List.getElem?_eq_getElem hlt
    generalize l[i]=q at hb
    obtain⟨c,hc,Rc⟩:=g2 i q hb
    obtain⟨c',hc',Rc'⟩:=g2' i q hb
    have hw:=V7 hb
    have hq:cQ q=q.name.length+cT q.params+uK q.whn+1:=rfl
    have hT:=aaE q.params
    obtain⟨vp,vw,ew,rfl,Vp,Vw,Rw⟩:=Rc
    obtain⟨vp',vw',ew',rfl,Vp',Vw',Rw'⟩:=Rc'
    repeat first |(with_reducible first |refine aA ?_ |refine aS ?_ |refine bM ?_ |refine dw ?_ |refine bK ?_ |refine bg ?_ |refine aY ?_ |refine bR ?_ |refine dY ?_ |refine dV ?_ |refine dG ?_ |refine dQ ?_ |refine dS ?_ |refine eU ?_ |refine aB A.var rfl ?_ |refine aB A.v1 rfl ?_ |refine aB A.v2 rfl ?_ |refine aB A.v3 rfl ?_ |refine aJ A.var rfl ?_ |refine aJ A.v1 rfl ?_ |refine aJ A.v2 rfl ?_ |refine aJ A.v3 rfl ?_)
    refine ng (V.ext e0) hc fun i1 g1 j1 q1=> ?_
    repeat first |refine aQ (q1 false 0 1) ?_ |(with_reducible first |refine aA ?_ |refine aS ?_ |refine bM ?_ |refine dw ?_ |refine bK ?_ |refine bg ?_ |refine aY ?_ |refine bR ?_ |refine dY ?_ |refine dV ?_ |refine dG ?_ |refine dQ ?_ |refine dS ?_ |refine eU ?_ |refine aB A.var rfl ?_ |refine aB A.v1 rfl ?_ |refine aB A.v2 rfl ?_ |refine aB A.v3 rfl ?_ |refine aJ A.var rfl ?_ |refine aJ A.v1 rfl ?_ |refine aJ A.v2 rfl ?_ |refine aJ A.v3 rfl ?_)
    refine ng (V'.ext e0) hc' fun i2 g2 j2 q2=> ?_
    repeat first |refine aQ (q2 false 0 1) ?_ |refine zY ?_ |(with_reducible first |refine aA ?_ |refine aS ?_ |refine bM ?_ |refine dw ?_ |refine bK ?_ |refine bg ?_ |refine aY ?_ |refine bR ?_ |refine dY ?_ |refine dV ?_ |refine dG ?_ |refine dQ ?_ |refine dS ?_ |refine eU ?_ |refine aB A.var rfl ?_ |refine aB A.v1 rfl ?_ |refine aB A.v2 rfl ?_ |refine aB A.v3 rfl ?_ |refine aJ A.var rfl ?_ |refine aJ A.v1 rfl ?_ |refine aJ A.v2 rfl ?_ |refine aJ A.v3 rfl ?_)
    refine ng (V.ext e0) hc fun i1 g1 j1 q1=> ?_
    repeat first |refine aQ (q1 false 1 1) ?_ |(with_reducible first |refine aA ?_ |refine aS ?_ |refine bM ?_ |refine dw ?_ |refine bK ?_ |refine bg ?_ |refine aY ?_ |refine bR ?_ |refine dY ?_ |refine dV ?_ |refine dG ?_ |refine dQ ?_ |refine dS ?_ |refine eU ?_ |refine aB A.var rfl ?_ |refine aB A.v1 rfl ?_ |refine aB A.v2 rfl ?_ |refine aB A.v3 rfl ?_ |refine aJ A.var rfl ?_ |refine aJ A.v1 rfl ?_ |refine aJ A.v2 rfl ?_ |refine aJ A.v3 rfl ?_)
    refine ng (V'.ext e0) hc' fun i2 g2 j2 q2=> ?_
    repeat first |refine aQ (q2 false 1 1) ?_ |(with_reducible first |refine aA ?_ |refine aS ?_ |refine bM ?_ |refine dw ?_ |refine bK ?_ |refine bg ?_ |refine aY ?_ |refine bR ?_ |refine dY ?_ |refine dV ?_ |refine dG ?_ |refine dQ ?_ |refine dS ?_ |refine eU ?_ |refine aB A.var rfl ?_ |refine aB A.v1 rfl ?_ |refine aB A.v2 rfl ?_ |refine aB A.v3 rfl ?_ |refine aJ A.var rfl ?_ |refine aJ A.v1 rfl ?_ |refine aJ A.v2 rfl ?_ |refine aJ A.v3 rfl ?_)
    refine c17 (by omega) (by omega) (Vp.ext e0) (Vp'.ext e0) ?_
    refine aG rfl ?_
    repeat first |(with_reducible first |refine aA ?_ |refine aS ?_ |refine bM ?_ |refine dw ?_ |refine bK ?_ |refine bg ?_ |refine aY ?_ |refine bR ?_ |refine dY ?_ |refine dV ?_ |refine dG ?_ |refine dQ ?_ |refine dS ?_ |refine eU ?_ |refine aB A.var rfl ?_ |refine aB A.v1 rfl ?_ |refine aB A.v2 rfl ?_ |refine aB A.v3 rfl ?_ |refine aJ A.var rfl ?_ |refine aJ A.v1 rfl ?_ |refine aJ A.v2 rfl ?_ |refine aJ A.v3 rfl ?_)
    refine ng (V.ext e0) hc fun i1 g1 j1 q1=> ?_
    repeat first |refine aQ (q1 false 2 1) ?_ |(with_reducible first |refine aA ?_ |refine aS ?_ |refine bM ?_ |refine dw ?_ |refine bK ?_ |refine bg ?_ |refine aY ?_ |refine bR ?_ |refine dY ?_ |refine dV ?_ |refine dG ?_ |refine dQ ?_ |refine dS ?_ |refine eU ?_ |refine aB A.var rfl ?_ |refine aB A.v1 rfl ?_ |refine aB A.v2 rfl ?_ |refine aB A.v3 rfl ?_ |refine aJ A.var rfl ?_ |refine aJ A.v1 rfl ?_ |refine aJ A.v2 rfl ?_ |refine aJ A.v3 rfl ?_)
    refine ng (V'.ext e0) hc' fun i2 g2 j2 q2=> ?_
    repeat first |refine aQ (q2 false 2 1) ?_ |(with_reducible first |refine aA ?_ |refine aS ?_ |refine bM ?_ |refine dw ?_ |refine bK ?_ |refine bg ?_ |refine aY ?_ |refine bR ?_ |refine dY ?_ |refine dV ?_ |refine dG ?_ |refine dQ ?_ |refine dS ?_ |refine eU ?_ |refine aB A.var rfl ?_ |refine aB A.v1 rfl ?_ |refine aB A.v2 rfl ?_ |refine aB A.v3 rfl ?_ |refine aJ A.var rfl ?_ |refine aJ A.v1 rfl ?_ |refine aJ A.v2 rfl ?_ |refine aJ A.v3 rfl ?_)
    refine c15 (by omega) (by omega) A.ok (Vw.ext e0) (Rw.ext e0) (Vw'.ext e0) (Rw'.ext e0) fun h' e' o'=> ?_
    refine aG rfl ?_
    repeat first |(with_reducible first |refine aA ?_ |refine aS ?_ |refine bM ?_ |refine dw ?_ |refine bK ?_ |refine bg ?_ |refine aY ?_ |refine bR ?_ |refine dY ?_ |refine dV ?_ |refine dG ?_ |refine dQ ?_ |refine dS ?_ |refine eU ?_ |refine aB A.var rfl ?_ |refine aB A.v1 rfl ?_ |refine aB A.v2 rfl ?_ |refine aB A.v3 rfl ?_ |refine aJ A.var rfl ?_ |refine aJ A.v1 rfl ?_ |refine aJ A.v2 rfl ?_ |refine aJ A.v3 rfl ?_)
    refine mI (by omega) ?_
    exact ih (i+1) h' (by omega) (by omega) (Cx.ext A e' o')
   ·rw[decide_eq_false hlt]
    exact bg (k h e0 A.ok)
 exact lp n 0 h (Nat.zero_le _) (by omega) A
set_option maxRecDepth 100000 in
theorem p35 {l:List Bu} {es es':List (List AV)} (hB:R5 l≤big) (hn:3*R5 l+14≤n) (V:View h0 8 v1 es) (R:Cj h0 es l) (V':View h0 8 w1 es') (R':Cj h0 es' l) (A:C8 a a' h0 h v0 v1 v2 w0 w1 w2)
 (k:∀h,C8 a a' h0 h v0 v1 v2 w0 w1 w2→Qo (au E n) n (.ptr a 0 0 0) (.ptr a' 0 0 0) h K=true):QL (au E n) n (.ptr a 0 0 0) (.ptr a' 0 0 0) h K=true:=by
 have hbig:big=1000000000:=rfl
 have hlim:lim=4611686018427387904:=rfl
 have hlen:=WG l
 obtain⟨g1,g2⟩:=R.get
 obtain⟨g1',g2'⟩:=R'.get
 unfold QL
 have lp:∀(m i:Nat) (h:aj),i≤l.length→l.length-i<m→C8 a a' h0 h v0 v1 v2 w0 w1 w2→RN (au E n) n m (.ptr a 0 0 0) (.ptr a' 0 0 0) (.int .i64 (i:Int)) h K=true:=by
  intro m
  induction m with
  |zero=>intro i h _ hm;omega
  |succ m ih=>
   intro i h hi hm A
   have e0:Ext h0 h:=A.f0
   rw[acg]
   unfold W9
   repeat first |refine fI (V.ext e0) ?_ |refine jw ?_ |(with_reducible first |refine aA ?_ |refine aS ?_ |refine bM ?_ |refine dw ?_ |refine bK ?_ |refine bg ?_ |refine aY ?_ |refine bR ?_ |refine dY ?_ |refine dV ?_ |refine dG ?_ |refine dQ ?_ |refine dS ?_ |refine eU ?_ |refine aB A.var rfl ?_ |refine aB A.v1 rfl ?_ |refine aB A.v2 rfl ?_ |refine aB A.v3 rfl ?_ |refine aJ A.var rfl ?_ |refine aJ A.v1 rfl ?_ |refine aJ A.v2 rfl ?_ |refine aJ A.v3 rfl ?_)
   rw[g1]
   by_cases hlt:i<l.length
   ·rw[decide_eq_true hlt]
    have hb:l[i]? =some l[i]:=List.getElem?_eq_getElem hlt
    generalize l[i]=q at hb
    obtain⟨c,hc,Rc⟩:=g2 i q hb
    obtain⟨c',hc',Rc'⟩:=g2' i q hb
    have hw:=VL hb
    have hq:cR q=q.name.length+q.group.length+q.flow.length+uK q.whn+Ny q.thn+1:=rfl
    have C1:=Rc.cells
    have C2:=Rc'.cells
    obtain⟨vw,ew,vt,et,rfl,Vw,Rw,Vt,Rt⟩:=Rc
    obtain⟨vw',ew',vt',et',rfl,Vw',Rw',Vt',Rt'⟩:=Rc'
    repeat first |(with_reducible first |refine aA ?_ |refine aS ?_ |refine bM ?_ |refine dw ?_ |refine bK ?_ |refine bg ?_ |refine aY ?_ |refine bR ?_ |refine dY ?_ |refine dV ?_ |refine dG ?_ |refine dQ ?_ |refine dS ?_ |refine eU ?_ |refine aB A.var rfl ?_ |refine aB A.v1 rfl ?_ |refine aB A.v2 rfl ?_ |refine aB A.v3 rfl ?_ |refine aJ A.var rfl ?_ |refine aJ A.v1 rfl ?_ |refine aJ A.v2 rfl ?_ |refine aJ A.v3 rfl ?_)
    refine uz (V.ext e0) hc C1.1 ?_
    refine vF A rfl rfl rfl fun x h A=> ?_
    refine Mr A rfl C1.1 rfl C1.2.1 fun h A=> ?_
    have e0:Ext h0 h:=A.f0
    repeat first |refine aB A.v2 rfl ?_ |(with_reducible first |refine aA ?_ |refine aS ?_ |refine bM ?_ |refine dw ?_ |refine bK ?_ |refine bg ?_ |refine aY ?_ |refine bR ?_ |refine dY ?_ |refine dV ?_ |refine dG ?_ |refine dQ ?_ |refine dS ?_ |refine eU ?_ |refine aB A.var rfl ?_ |refine aB A.v1 rfl ?_ |refine aB A.v2 rfl ?_ |refine aB A.v3 rfl ?_ |refine aJ A.var rfl ?_ |refine aJ A.v1 rfl ?_ |refine aJ A.v2 rfl ?_ |refine aJ A.v3 rfl ?_)
    refine uz (V'.ext e0) hc' C2.1 ?_
    refine vF A rfl rfl rfl fun x' h A=> ?_
    refine Mr A rfl C2.1 rfl C2.2.1 fun h A=> ?_
    have e0:Ext h0 h:=A.f0
    repeat first |refine FX ?_ |refine zY ?_ |refine agY ?_ |(with_reducible first |refine aA ?_ |refine aS ?_ |refine bM ?_ |refine dw ?_ |refine bK ?_ |refine bg ?_ |refine aY ?_ |refine bR ?_ |refine dY ?_ |refine dV ?_ |refine dG ?_ |refine dQ ?_ |refine dS ?_ |refine eU ?_ |refine aB A.var rfl ?_ |refine aB A.v1 rfl ?_ |refine aB A.v2 rfl ?_ |refine aB A.v3 rfl ?_ |refine aJ A.var rfl ?_ |refine aJ A.v1 rfl ?_ |refine aJ A.v2 rfl ?_ |refine aJ A.v3 rfl ?_)
    refine c15 (by omega) (by omega) A.ok (Vw.ext e0) (Rw.ext e0) (Vw'.ext e0) (Rw'.ext e0) fun h e' o'=> ?_
    have A:=A.ext e' o'
    have e0:Ext h0 h:=A.f0
    refine aG rfl ?_
    unfold IY
    repeat first |(with_reducible first |refine aA ?_ |refine aS ?_ |refine bM ?_ |refine dw ?_ |refine bK ?_ |refine bg ?_ |refine aY ?_ |refine bR ?_ |refine dY ?_ |refine dV ?_ |refine dG ?_ |refine dQ ?_ |refine dS ?_ |refine eU ?_ |refine aB A.var rfl ?_ |refine aB A.v1 rfl ?_ |refine aB A.v2 rfl ?_ |refine aB A.v3 rfl ?_ |refine aJ A.var rfl ?_ |refine aJ A.v1 rfl ?_ |refine aJ A.v2 rfl ?_ |refine aJ A.v3 rfl ?_)
    refine c16 (by omega) (by omega) A.ok (Vt.ext e0) (Rt.ext e0) (Vt'.ext e0) (Rt'.ext e0) fun h e' o'=> ?_
    have A:=A.ext e' o'
    refine aG rfl ?_
    unfold Ja
    repeat first |(with_reducible first |refine aA ?_ |refine aS ?_ |refine bM ?_ |refine dw ?_ |refine bK ?_ |refine bg ?_ |refine aY ?_ |refine bR ?_ |refine dY ?_ |refine dV ?_ |refine dG ?_ |refine dQ ?_ |refine dS ?_ |refine eU ?_ |refine aB A.var rfl ?_ |refine aB A.v1 rfl ?_ |refine aB A.v2 rfl ?_ |refine aB A.v3 rfl ?_ |refine aJ A.var rfl ?_ |refine aJ A.v1 rfl ?_ |refine aJ A.v2 rfl ?_ |refine aJ A.v3 rfl ?_)
    refine mI (by omega) ?_
    exact ih (i+1) h (by omega) (by omega) A.rest.rest
   ·rw[decide_eq_false hlt]
    exact bg (k h A)
 exact lp n 0 h (Nat.zero_le _) (by omega) A
set_option maxRecDepth 100000 in
theorem p14 {l:List Cls} {es es':List (List AV)} (hB:R7 l≤big) (hn:3*R7 l+14≤n) (V:View h0 3 v0 es) (R:CF h0 es l) (V':View h0 3 w0 es') (R':CF h0 es' l) (A:C8 a a' h0 h v0 v1 v2 w0 w1 w2)
 (k:∀h,C8 a a' h0 h v0 v1 v2 w0 w1 w2→QL (au E n) n (.ptr a 0 0 0) (.ptr a' 0 0 0) h K=true):VG (au E n) n (.ptr a 0 0 0) (.ptr a' 0 0 0) h K=true:=by
 have hbig:big=1000000000:=rfl
 have hlim:lim=4611686018427387904:=rfl
 have hlen:=Xu l
 obtain⟨g1,g2⟩:=R.get
 obtain⟨g1',g2'⟩:=R'.get
 have e0:Ext h0 h:=A.f0
 unfold VG
 have lp:∀(m i:Nat),i≤l.length→l.length-i<m→PL (au E n) n m (.ptr a 0 0 0) (.ptr a' 0 0 0) (.int .i64 (i:Int)) h K=true:=by
  intro m
  induction m with
  |zero=>intro i _ hm;omega
  |succ m ih=>
   intro i hi hm
   rw[adl]
   unfold U6
   repeat first |refine fI (V.ext e0) ?_ |refine jw ?_ |(with_reducible first |refine aA ?_ |refine aS ?_ |refine bM ?_ |refine dw ?_ |refine bK ?_ |refine bg ?_ |refine aY ?_ |refine bR ?_ |refine dY ?_ |refine dV ?_ |refine dG ?_ |refine dQ ?_ |refine dS ?_ |refine eU ?_ |refine aB A.var rfl ?_ |refine aB A.v1 rfl ?_ |refine aB A.v2 rfl ?_ |refine aB A.v3 rfl ?_ |refine aJ A.var rfl ?_ |refine aJ A.v1 rfl ?_ |refine aJ A.v2 rfl ?_ |refine aJ A.v3 rfl ?_)
   rw[g1]
   by_cases hlt:i<l.length
   ·rw[decide_eq_true hlt]
    have hb:l[i]? =some l[i]:=List.getElem?_eq_getElem hlt
    generalize l[i]=q at hb
    obtain⟨c,hc,Rc⟩:=g2 i q hb
    obtain⟨c',hc',Rc'⟩:=g2' i q hb
    have hw:=XE hb
    have hq:cK q=q.name.length+q.super.length+cF q.fields+1:=rfl
    have hT:=aaG q.fields
    obtain⟨vp,rfl,Vp⟩:=Rc
    obtain⟨vp',rfl,Vp'⟩:=Rc'
    repeat first |(with_reducible first |refine aA ?_ |refine aS ?_ |refine bM ?_ |refine dw ?_ |refine bK ?_ |refine bg ?_ |refine aY ?_ |refine bR ?_ |refine dY ?_ |refine dV ?_ |refine dG ?_ |refine dQ ?_ |refine dS ?_ |refine eU ?_ |refine aB A.var rfl ?_ |refine aB A.v1 rfl ?_ |refine aB A.v2 rfl ?_ |refine aB A.v3 rfl ?_ |refine aJ A.var rfl ?_ |refine aJ A.v1 rfl ?_ |refine aJ A.v2 rfl ?_ |refine aJ A.v3 rfl ?_)
    refine ng (V.ext e0) hc fun i1 g1 j1 q1=> ?_
    repeat first |refine aQ (q1 false 0 1) ?_ |(with_reducible first |refine aA ?_ |refine aS ?_ |refine bM ?_ |refine dw ?_ |refine bK ?_ |refine bg ?_ |refine aY ?_ |refine bR ?_ |refine dY ?_ |refine dV ?_ |refine dG ?_ |refine dQ ?_ |refine dS ?_ |refine eU ?_ |refine aB A.var rfl ?_ |refine aB A.v1 rfl ?_ |refine aB A.v2 rfl ?_ |refine aB A.v3 rfl ?_ |refine aJ A.var rfl ?_ |refine aJ A.v1 rfl ?_ |refine aJ A.v2 rfl ?_ |refine aJ A.v3 rfl ?_)
    refine ng (V'.ext e0) hc' fun i2 g2 j2 q2=> ?_
    repeat first |refine aQ (q2 false 0 1) ?_ |refine zY ?_ |(with_reducible first |refine aA ?_ |refine aS ?_ |refine bM ?_ |refine dw ?_ |refine bK ?_ |refine bg ?_ |refine aY ?_ |refine bR ?_ |refine dY ?_ |refine dV ?_ |refine dG ?_ |refine dQ ?_ |refine dS ?_ |refine eU ?_ |refine aB A.var rfl ?_ |refine aB A.v1 rfl ?_ |refine aB A.v2 rfl ?_ |refine aB A.v3 rfl ?_ |refine aJ A.var rfl ?_ |refine aJ A.v1 rfl ?_ |refine aJ A.v2 rfl ?_ |refine aJ A.v3 rfl ?_)
    refine ng (V.ext e0) hc fun i1 g1 j1 q1=> ?_
    repeat first |refine aQ (q1 false 1 1) ?_ |(with_reducible first |refine aA ?_ |refine aS ?_ |refine bM ?_ |refine dw ?_ |refine bK ?_ |refine bg ?_ |refine aY ?_ |refine bR ?_ |refine dY ?_ |refine dV ?_ |refine dG ?_ |refine dQ ?_ |refine dS ?_ |refine eU ?_ |refine aB A.var rfl ?_ |refine aB A.v1 rfl ?_ |refine aB A.v2 rfl ?_ |refine aB A.v3 rfl ?_ |refine aJ A.var rfl ?_ |refine aJ A.v1 rfl ?_ |refine aJ A.v2 rfl ?_ |refine aJ A.v3 rfl ?_)
    refine ng (V'.ext e0) hc' fun i2 g2 j2 q2=> ?_
    repeat first |refine aQ (q2 false 1 1) ?_ |refine zY ?_ |(with_reducible first |refine aA ?_ |refine aS ?_ |refine bM ?_ |refine dw ?_ |refine bK ?_ |refine bg ?_ |refine aY ?_ |refine bR ?_ |refine dY ?_ |refine dV ?_ |refine dG ?_ |refine dQ ?_ |refine dS ?_ |refine eU ?_ |refine aB A.var rfl ?_ |refine aB A.v1 rfl ?_ |refine aB A.v2 rfl ?_ |refine aB A.v3 rfl ?_ |refine aJ A.var rfl ?_ |refine aJ A.v1 rfl ?_ |refine aJ A.v2 rfl ?_ |refine aJ A.v3 rfl ?_)
    refine ng (V.ext e0) hc fun i1 g1 j1 q1=> ?_
    repeat first |refine aQ (q1 false 2 1) ?_ |(with_reducible first |refine aA ?_ |refine aS ?_ |refine bM ?_ |refine dw ?_ |refine bK ?_ |refine bg ?_ |refine aY ?_ |refine bR ?_ |refine dY ?_ |refine dV ?_ |refine dG ?_ |refine dQ ?_ |refine dS ?_ |refine eU ?_ |refine aB A.var rfl ?_ |refine aB A.v1 rfl ?_ |refine aB A.v2 rfl ?_ |refine aB A.v3 rfl ?_ |refine aJ A.var rfl ?_ |refine aJ A.v1 rfl ?_ |refine aJ A.v2 rfl ?_ |refine aJ A.v3 rfl ?_)
    refine ng (V'.ext e0) hc' fun i2 g2 j2 q2=> ?_
    repeat first |refine aQ (q2 false 2 1) ?_ |(with_reducible first |refine aA ?_ |refine aS ?_ |refine bM ?_ |refine dw ?_ |refine bK ?_ |refine bg ?_ |refine aY ?_ |refine bR ?_ |refine dY ?_ |refine dV ?_ |refine dG ?_ |refine dQ ?_ |refine dS ?_ |refine eU ?_ |refine aB A.var rfl ?_ |refine aB A.v1 rfl ?_ |refine aB A.v2 rfl ?_ |refine aB A.v3 rfl ?_ |refine aJ A.var rfl ?_ |refine aJ A.v1 rfl ?_ |refine aJ A.v2 rfl ?_ |refine aJ A.v3 rfl ?_)
    refine c14 (by omega) (by omega) (Vp.ext e0) (Vp'.ext e0) ?_
    refine aG rfl ?_
    repeat first |(with_reducible first |refine aA ?_ |refine aS ?_ |refine bM ?_ |refine dw ?_ |refine bK ?_ |refine bg ?_ |refine aY ?_ |refine bR ?_ |refine dY ?_ |refine dV ?_ |refine dG ?_ |refine dQ ?_ |refine dS ?_ |refine eU ?_ |refine aB A.var rfl ?_ |refine aB A.v1 rfl ?_ |refine aB A.v2 rfl ?_ |refine aB A.v3 rfl ?_ |refine aJ A.var rfl ?_ |refine aJ A.v1 rfl ?_ |refine aJ A.v2 rfl ?_ |refine aJ A.v3 rfl ?_)
    refine mI (by omega) ?_
    exact ih (i+1) (by omega) (by omega)
   ·rw[decide_eq_false hlt]
    exact bg (k h A)
 exact lp n 0 (Nat.zero_le _) (by omega)
set_option maxRecDepth 100000 in
theorem c8 {c c':List AV} (hB:GL b≤big) (hn:3*GL b+20≤n) (ho:h.Ok) (R:sQ h c b) (R':sQ h c' b) (k:∀h',Ext h h'→h'.Ok→K (.bool true) h'=true):au E n (.func 8) [.agg c, .agg c'] h K=true:=by
 obtain⟨n,rfl⟩:∃m,n=m+1:=⟨n-1,by omega⟩
 have hb:GL b=R7 b.classes+R5 b.rules+R6 b.queries:=rfl
 have C1:=R.cells
 have C2:=R'.cells
 obtain⟨v0,e0,v1,e1,v2,e2,rfl,V0,R0,V1,R1,V2,R2⟩:=R
 obtain⟨w0,f0,w1,f1,w2,f2,rfl,W0,S0,W1,S1,W2,S2⟩:=R'
 have A:=Cx.start ho (F:=[]) (fun R m=>nomatch m)
 apply d8
 unfold s8
 refine zD A C1.1 rfl C1.2 fun a h1 A=> ?_
 refine Nu A C2.1 rfl C2.2 fun a' h1 A=> ?_
 have A:=A.swapL
 have e:Ext h h1:=A.f0
 repeat first |refine fI (V0.ext e) ?_ |refine fI (W0.ext e) ?_ |(with_reducible first |refine aA ?_ |refine aS ?_ |refine bM ?_ |refine dw ?_ |refine bK ?_ |refine bg ?_ |refine aY ?_ |refine bR ?_ |refine dY ?_ |refine dV ?_ |refine dG ?_ |refine dQ ?_ |refine dS ?_ |refine eU ?_ |refine aB A.var rfl ?_ |refine aB A.v1 rfl ?_ |refine aB A.v2 rfl ?_ |refine aB A.v3 rfl ?_ |refine aJ A.var rfl ?_ |refine aJ A.v1 rfl ?_ |refine aJ A.v2 rfl ?_ |refine aJ A.v3 rfl ?_)
 rw[R0.len,S0.len,decide_eq_true rfl,Bool.not_true]
 repeat first |refine fI (V1.ext e) ?_ |refine fI (W1.ext e) ?_ |(with_reducible first |refine aA ?_ |refine aS ?_ |refine bM ?_ |refine dw ?_ |refine bK ?_ |refine bg ?_ |refine aY ?_ |refine bR ?_ |refine dY ?_ |refine dV ?_ |refine dG ?_ |refine dQ ?_ |refine dS ?_ |refine eU ?_ |refine aB A.var rfl ?_ |refine aB A.v1 rfl ?_ |refine aB A.v2 rfl ?_ |refine aB A.v3 rfl ?_ |refine aJ A.var rfl ?_ |refine aJ A.v1 rfl ?_ |refine aJ A.v2 rfl ?_ |refine aJ A.v3 rfl ?_)
 rw[R1.len,S1.len,decide_eq_true rfl,Bool.not_true]
 repeat first |refine fI (V2.ext e) ?_ |refine fI (W2.ext e) ?_ |(with_reducible first |refine aA ?_ |refine aS ?_ |refine bM ?_ |refine dw ?_ |refine bK ?_ |refine bg ?_ |refine aY ?_ |refine bR ?_ |refine dY ?_ |refine dV ?_ |refine dG ?_ |refine dQ ?_ |refine dS ?_ |refine eU ?_ |refine aB A.var rfl ?_ |refine aB A.v1 rfl ?_ |refine aB A.v2 rfl ?_ |refine aB A.v3 rfl ?_ |refine aJ A.var rfl ?_ |refine aJ A.v1 rfl ?_ |refine aJ A.v2 rfl ?_ |refine aJ A.v3 rfl ?_)
 rw[R2.len,S2.len,decide_eq_true rfl,Bool.not_true]
 repeat first |(with_reducible first |refine aA ?_ |refine aS ?_ |refine bM ?_ |refine dw ?_ |refine bK ?_ |refine bg ?_ |refine aY ?_ |refine bR ?_ |refine dY ?_ |refine dV ?_ |refine dG ?_ |refine dQ ?_ |refine dS ?_ |refine eU ?_ |refine aB A.var rfl ?_ |refine aB A.v1 rfl ?_ |refine aB A.v2 rfl ?_ |refine aB A.v3 rfl ?_ |refine aJ A.var rfl ?_ |refine aJ A.v1 rfl ?_ |refine aJ A.v2 rfl ?_ |refine aJ A.v3 rfl ?_)
 refine p14 (by omega) (by omega) V0 R0 W0 S0 A fun h1 A=> ?_
 refine p35 (by omega) (by omega) V1 R1 W1 S1 A fun h1 A=> ?_
 exact p60 (by omega) (by omega) V2 R2 W2 S2 A k
end
theorem Zi {l:Str} {kd m:Nat} {t:Str} (h:mR l=some (kd,t,m)):t.length≤l.length:=by
 cases l with
 |nil=>cases h
 |cons c l=>
  have h:(if jv c=true then some (0,(c :: l).take (jW (c :: l)),jW (c :: l))
   else if c=36 then(if 0<jW l then some (1,l.take (jW l),jW l+1) else none)
   else if fP c=true then some (2,(c :: l).take ((c :: l).takeWhile fP).length,((c :: l).takeWhile fP).length)
   else if c=34 then(quo l).map fun r=>(3,r.1,r.2+1)
   else if 0<jo (c :: l) then some (4,(c :: l).take (jo (c :: l)),jo (c :: l)) else none)=some (kd,t,m):=h
  have tk:∀(n:Nat) (s:Str),s.length≤l.length+1→(s.take n).length≤(c :: l).length:=fun n s hs=>by
   rw[List.length_take,List.length_cons];omega
  by_cases h1:jv c=true
  ·rw[if_pos h1] at h;cases h;exact tk _ _ (Nat.le_refl _)
  rw[if_neg h1] at h
  by_cases h2:c=36
  ·rw[if_pos h2] at h
   by_cases h3:0<jW l
   ·rw[if_pos h3] at h;cases h;exact tk _ _ (Nat.le_succ _)
   ·rw[if_neg h3] at h;cases h
  rw[if_neg h2] at h
  by_cases hd:fP c=true
  ·rw[if_pos hd] at h;cases h;exact tk _ _ (Nat.le_refl _)
  rw[if_neg hd] at h
  by_cases h4:c=34
  ·rw[if_pos h4] at h
   cases e:quo l with
   |none=>rw[e] at h;cases h
   |some r=>
    rw[e] at h
    simp only[Option.map_some,Option.some.injEq,Prod.mk.injEq] at h
    have:=Aj l r.1 r.2 e
    rw[←h.2.1,List.length_cons];omega
  rw[if_neg h4] at h
  by_cases h5:0<jo (c :: l)
  ·rw[if_pos h5] at h;cases h;exact tk _ _ (Nat.le_refl _)
  ·rw[if_neg h5] at h;cases h
theorem PO:∀(f p:Nat) (l:Str) (r:List Lx),nZ f p l= .ok r→∀y∈r,y.text.length≤l.length
 |0,_,_,_,h=>by cases h;intro y hy;cases hy
 |f+1,p,l,r,h=>by
  simp only[nZ] at h
  by_cases hend:l.length≤skip false l
  ·rw[if_pos hend] at h;cases h;intro y hy;cases hy
  ·rw[if_neg hend] at h
   cases hn:mR (l.drop (skip false l)) with
   |none=>rw[hn] at h;cases h
   |some q=>
    obtain⟨kd,t,m⟩:=q
    rw[hn] at h
    simp only at h
    cases hr:nZ f (p+skip false l+m) (l.drop (skip false l+m)) with
    |error e=>rw[hr] at h;cases h
    |ok r'=>
     rw[hr] at h
     have ih:=PO f _ _ r' hr
     cases h
     intro y hy
     rcases List.mem_cons.1 hy with rfl |hy
     ·have:=Zi hn
      simp only[List.length_drop] at this
      simp only;omega
     ·have:=ih y hy
      simp only[List.length_drop] at this
      omega
theorem Qp {m:Nat}:∀(T:List Lx),(∀y∈T,y.text.length≤m)→(T.map fun l=>l.text.length+10).sum≤T.length*(m+10)
 | [],_=>Nat.le_of_eq (by simp)
 |y :: T,h=>by
  have h1:=h y List.mem_cons_self
  have h2:=Qp T fun z hz=>h z (List.mem_cons_of_mem _ hz)
  simp only[List.map_cons,List.sum_cons,List.length_cons]
  rw[Nat.add_mul,Nat.one_mul]
  omega
theorem TQ {T:List Lx} {m kk:Nat} {b:DU} {i:Nat} {o:Int} (hT:T.length≤4096) (h:∀y∈T,y.text.length≤m) (e:rR T kk 0 0= .ok b i o):GL b≤4096*(m+10):=by
 unfold rR at e
 obtain⟨b',i1,o1,e1,e⟩:=II e
 split at e
 ·rename_i hi
  cases e
  have:=NA kk kk _ e1
  have h2:=Qp T h
  have h3:wt T i=(T.map fun l=>l.text.length+10).sum:=by unfold wt;rw[hi,List.take_length]
  have h4:wt T 0=0:=by unfold wt;simp
  have h5:GL ⟨[],[],[]⟩=0:=rfl
  have h6:T.length*(m+10)≤4096*(m+10):=Nat.mul_le_mul hT (Nat.le_refl _)
  omega
 ·cases e
theorem Tm {s:Str} {kk:Nat} {b:DU} (h:s.length≤60000) (e:D5 kk s= .ok b):GL b≤4096*(s.length+10):=by
 unfold D5 at e
 cases hl:uG s with
 |error x=>rw[hl] at e;cases e
 |ok T=>
  rw[hl] at e
  simp only at e
  cases hf:rR T kk 0 0 with
  |out=>rw[hf] at e;cases e
  |fail x=>rw[hf] at e;cases e
  |ok b' i o=>
   rw[hf] at e
   cases e
   obtain⟨hl',_⟩:=NC _ _ _ _ _ hl (Nat.zero_le _)
   rw[List.drop_zero] at hl'
   exact TQ (M9 h hl).len (PO _ _ _ _ hl') hf
theorem abE {s:Str} {kk:Nat} (h:D5 kk s≠ .error 0):∀T,uG s= .ok T→rR T kk 0 0≠ .out:=by
 intro T hl hf
 apply h
 unfold D5
 rw[hl]
 simp only[hf]
theorem ZP {h:aj} {v:AV} {n:Nat} {es:List (List AV)} {k:AV→Bool} (m:Int) (V:View h n v es) (e:(es.length:Int)=m) (s:k (.int .i64 m)=true):gJ v k=true:=fI V (by rw[e];exact s)
def ZQ:Str:=[114,117,108,101,32,34,114,34,32,115,97,108,105,101,110,99,101,32,45,50,32,119,104,101,110,32,36,112,32,58,32,80,40,120,32,62,32,49,44,32,36,121,32,58,32,121,41,32,110,111,116,32,40,81,40,122,32,61,61,32,36,121,41,41,32,116,104,101,110,32,105,110,115,101,114,116,32,82,32,123,32,97,32,61,32,36,121,32,43,32,49,32,125,59,32,101,110,100]
def aa1:Str:=[114,117,108,101]
theorem YA:(match D5 200 ZQ with
 | .ok b=>match b.rules with
   | [r]=>decide (r.sal= -2)&&decide (r.whn.length=2)
   |_=>false
 | .error _=>false)=true:=by kernel_rfl
theorem Yr:(match D5 200 aa1 with
 | .ok b=>false
 | .error e=>decide (e=4))=true:=by kernel_rfl
section
variable {h:aj} {L:jq} {S:List Sl} {F:List (aj→Prop)} {n:Nat} {K:aM}
theorem c9 (hn:2000≤n) (hg:GvF∈F) (A:Cx h L S F) (k:∀h,K (.bool true) h=true):au E n (.func 9) [] h K=true:=by
 obtain⟨n,rfl⟩:∃m,n=m+1:=⟨n-1,by omega⟩
 apply d9
 unfold s9
 have h1:=YA
 cases hp:D5 200 ZQ with
 |error e=>rw[hp] at h1;cases h1
 |ok b=>
  rw[hp] at h1
  simp only at h1
  obtain⟨r,hr⟩:∃r,b.rules=[r]:=by
   cases hb:b.rules with
   |nil=>rw[hb] at h1;cases h1
   |cons r l=>
    cases l with
    |nil=>exact⟨r,rfl⟩
    |cons r' l=>rw[hb] at h1;cases h1
  rw[hr] at h1
  simp only[Bool.and_eq_true,decide_eq_true_eq] at h1
  refine c6k (s:=ZQ) (kk:=200) (by omega) (by omega) (by show 98+40≤n;omega) (by decide) (by show 98≤60000;omega) hg A (abE (by rw[hp];simp)) ?_
  rw[hp]
  intro h c A
  have C:=(A.f0:sQ h c b).cells
  refine aG rfl ?_
  unfold NT
  refine jL (jG (uI ?_))
  refine vF A rfl rfl rfl fun a h A=> ?_
  refine Mr A rfl C.1 rfl C.2 fun h A=> ?_
  have h2:=Yr
  cases hp2:D5 200 aa1 with
  |ok b=>rw[hp2] at h2;cases h2
  |error e=>
   rw[hp2] at h2
   have h2:e=4:=of_decide_eq_true h2
   subst h2
   refine c6k (s:=aa1) (kk:=200) (by omega) (by omega) (by show 4+40≤n;omega) (by decide) (by show 4≤60000;omega) (List.mem_cons_of_mem _ hg) A (abE (by rw[hp2];intro q;cases q)) ?_
   rw[hp2]
   intro h A
   refine aG rfl ?_
   unfold Nr
   refine jL (jG (uI ?_))
   refine bY A rfl rfl rfl fun a2 h A=> ?_
   refine gZ A rfl rfl rfl rfl fun h A=> ?_
   obtain⟨v0,e0,v1,e1,v2,e2,rfl,V0,R0,V1,R1,V2,R2⟩:=(A.f0:sQ h c b)
   rw[hr] at R1
   obtain⟨c,e1,rfl,⟨vw,ew,vt,et,rfl,Vw,Rw,Vt,Rt⟩,rfl⟩:=R1
   have hw:=Rw.len
   rw[h1.2] at hw
   have hw:((ew.length:Nat):Int)=2:=by rw[hw];rfl
   repeat first |refine PD ?_ |refine ZP 1 V1 rfl ?_ |(with_reducible first |refine aA ?_ |refine aY ?_ |refine dG ?_ |refine aB A.var rfl ?_)
   refine ng (i:=0) V1 rfl fun i1 g1 j1 q1=> ?_
   have hs:eO h false 1 (.ptr i1 g1 j1 1)=some (.int .i64 (-2)):=by
    rw[q1 false 1 1]
    show some (AV.int .i64 r.sal)=_
    rw[h1.1]
   repeat first |refine PD ?_ |refine aQ hs ?_ |(with_reducible first |refine aA ?_ |refine aY ?_ |refine dG ?_ |refine aB A.var rfl ?_)
   refine ng (i:=0) V1 rfl fun i2 g2 j2 q2=> ?_
   repeat first |refine PD ?_ |refine aQ (q2 false 6 1) ?_ |refine ZP 2 Vw hw ?_ |(with_reducible first |refine aS ?_ |refine aY ?_ |refine dG ?_)
   exact k h
end
section
variable {T:List Lx} {α:Type} {d:Int}
end
theorem WK {T:List Lx} {k0 k:Nat} {b:DU} {i:Nat} {o:Int}:iF T k0 (k+1) b i o=if i<T.length then
 (if bN T i uQ=true then bnd (rD T k0) (fun c=>iF T k0 k {b with classes:=b.classes++[c]}) (i+1) o
 else if bN T i Dh=true then bnd (xq T k0) (fun r=>iF T k0 k {b with rules:=b.rules++[r]}) (i+1) o
 else bnd (bU T AY) (fun _=>bnd (oZ T k0) fun q=>iF T k0 k {b with queries:=b.queries++[q]}) i o)
 else .ok b i o:=rfl
theorem aaI {d:Nat} {T U:List Lx} (q:Qm d T U) {i:Nat}:i<T.length↔d+i<U.length:=by
 constructor
 ·intro h
  obtain⟨m,e,_⟩:=q.some (List.getElem?_eq_getElem h)
  exact(List.getElem?_eq_some_iff.1 e).1
 ·intro h
  apply Decidable.byContradiction
  intro hn
  have:=q.none (List.getElem?_eq_none (Nat.le_of_not_lt hn))
  rw[List.getElem?_eq_none_iff] at this
  omega
theorem G8 {d:Nat} {T U:List Lx} (q:Qm d T U) (k0:Nat):∀(k:Nat) (b:DU) (i:Nat) (o:Int),iF U k0 k b (d+i) o=(iF T k0 k b i o).mv d
 |0,_,_,_=>rfl
 |k+1,b,i,o=>by
  rw[WK,WK,(fJ uQ).sf T U d i q,(fJ Dh).sf T U d i q]
  by_cases hi:i<T.length
  ·rw[if_pos hi,if_pos (aaI q |>.1 hi)]
   by_cases h1:bN T i uQ=true
   ·rw[if_pos h1,if_pos h1]
    exact Ii (m:=fun _ T=>rD T k0) (g:=fun c _ T=>iF T k0 k {b with classes:=b.classes++[c]}) (x:=0) (i:=i+1) (U:=U) (T:=T) (fun x T U d i o q=>(Ma k0).sf x T U d i o q) (fun v x T U d i o q=>G8 q k0 k _ i o) q
   rw[if_neg h1,if_neg h1]
   by_cases h2:bN T i Dh=true
   ·rw[if_pos h2,if_pos h2]
    exact Ii (m:=fun _ T=>xq T k0) (g:=fun c _ T=>iF T k0 k {b with rules:=b.rules++[c]}) (x:=0) (i:=i+1) (U:=U) (T:=T) (fun x T U d i o q=>(Qk k0).sf x T U d i o q) (fun v x T U d i o q=>G8 q k0 k _ i o) q
   rw[if_neg h2,if_neg h2]
   exact Ii (m:=fun _ T=>bU T AY) (g:=fun _ _ T=>bnd (oZ T k0) fun c=>iF T k0 k {b with queries:=b.queries++[c]}) (x:=0) (U:=U) (T:=T) (fun x T U d i o q=>(vD AY).sf x T U d i o q)
    (fun v x T U d i o q=>Ii (m:=fun _ T=>oZ T k0) (g:=fun c _ T=>iF T k0 k {b with queries:=b.queries++[c]}) (x:=0) (fun x T U d i o q=>(LW k0).sf x T U d i o q) (fun v x T U d i o q=>G8 q k0 k _ i o) q) q
  ·rw[if_neg hi,if_neg (fun h=>hi (aaI q |>.2 h))]
   rfl
def SK (r:Except Nat DU) (c:List AV) (h:aj):Prop:=match r with
 | .ok b=>sQ h c b
 | .error _=>c=K6
def atR:Except Nat DU→Nat
 | .ok _=>0
 | .error e=>e
def erR:Except Nat DU→Nat
 | .ok _=>0
 | .error _=>20
theorem SK.cells {r:Except Nat DU} {c:List AV} {h:aj} (R:SK r c h):c.length=3∧aD c=true:=by
 cases r with
 |ok b=>exact sQ.cells R
 |error e=>
  have R:c=K6:=R
  subst R;exact⟨rfl,rfl⟩
section
variable {h:aj} {L:jq} {S:List Sl} {F:List (aj→Prop)} {n:Nat} {s:Str} {K:aM}
theorem c6u (hn:400200≤n) (hb:∀b∈s,b<256) (hs:s.length≤60000) (hg:GvF∈F) (A:Cx h L S F)
 (H:∀h c,Cx h L S ((fun h=>SK (wh s) c h) :: F)→K (.tup [.agg c, .int .i64 (atR (wh s):Int), .int .i64 (erR (wh s):Int)]) h=true):au E n (.func 6) [.str s] h K=true:=by
 refine c6 hn hb hs hg A ?_
 cases hp:wh s with
 |ok b=>
  intro h c A
  rw[hp] at H
  exact H h c A
 |error e=>
  intro h A
  rw[hp] at H
  exact H h K6 (A.tru fun _=>rfl)
theorem aj2 {a b:Str} (h:a.length+b.length≤most):eY .add (.str a) (.str b)=some (.str (a++b)):=by
 simp only[eY,Cq,aI.2 h,cond_true]
theorem TT {a b:Str} {k:AV→Bool} (h:a.length+b.length≤most) (s:k (.str (a++b))=true):gQ (.str a) (.str b) k=true:=by
 rw[TH,aj2 h];exact s
end
theorem sQ.zero {h:aj}:sQ h K6 ⟨[],[],[]⟩:=⟨.ah,[], .ah,[], .ah,[],rfl,View.nil h 3,rfl,View.nil h 8,rfl,View.nil h 3,rfl⟩
section
variable {h:aj} {L:jq} {S:List Sl} {F:List (aj→Prop)} {n:Nat} {x0:AV} {ls:List Str} {K:aM}
end
theorem uV:∀(m:Bool) (l:Str),skip m l<l.length→skip false (l.drop (skip m l))=0
 |true,[],h=>by simp at h
 |false,[],h=>by simp at h
 |true,c :: l,h=>by
  have s1:skip true (c :: l)=if c=10 then skip false l+1 else skip true l+1:=rfl
  by_cases hc:c=10
  ·rw[if_pos hc] at s1
   rw[s1] at h ⊢
   rw[List.drop_succ_cons]
   exact uV false l (by simpa using h)
  ·rw[if_neg hc] at s1
   rw[s1] at h ⊢
   rw[List.drop_succ_cons]
   exact uV true l (by simpa using h)
 |false,c :: l,h=>by
  have s1:skip false (c :: l)=if qB c=true then skip false l+1 else if c=47∧l.head? =some 47 then skip true l+1 else 0:=rfl
  by_cases hb:qB c=true
  ·rw[if_pos hb] at s1
   rw[s1] at h ⊢
   rw[List.drop_succ_cons]
   exact uV false l (by simpa using h)
  ·rw[if_neg hb] at s1
   by_cases hc:c=47∧l.head? =some 47
   ·rw[if_pos hc] at s1
    rw[s1] at h ⊢
    rw[List.drop_succ_cons]
    exact uV true l (by simpa using h)
   ·rw[if_neg hc] at s1
    rw[s1,List.drop_zero];exact s1
def Nx (r r':Str):Prop:=r'.head? =r.head? ∨r'.head? =some 9∨r'.head? =some 32
theorem Nt {p:Nat→Bool} (h9:p 9=false) (h32:p 32=false) {r r':Str} (x:Nx r r'):∀(w:Str),((w++r).takeWhile p).length=w.length→((w++r').takeWhile p).length=w.length
 | [],h=>by
   rw[List.nil_append,List.length_nil] at h ⊢
   cases r' with
   |nil=>rfl
   |cons c r'=>
    have hc:p c=false:=by
     rcases x with x |x |x
     ·cases r with
      |nil=>cases x
      |cons d r=>
       have:c=d:=by simpa using x
       subst this
       cases hp:p c with
       |false=>rfl
       |true=>rw[List.takeWhile_cons,hp] at h;simp at h
     ·have:c=9:=by simpa using x
      subst this;exact h9
     ·have:c=32:=by simpa using x
      subst this;exact h32
    rw[List.takeWhile_cons,hc];rfl
 |c :: w,h=>by
  rw[List.cons_append,List.takeWhile_cons] at h ⊢
  cases hp:p c with
  |false=>rw[hp] at h;simp at h
  |true=>
   rw[hp] at h
   simp only[if_true,List.length_cons,Nat.add_right_cancel_iff] at h ⊢
   exact Nt h9 h32 x w h
theorem Ll {r r' w:Str} (x:Nx r r') (hw:w≠[]) (h:jW (w++r)=w.length):jW (w++r')=w.length:=by
 cases w with
 |nil=>exact absurd rfl hw
 |cons c l=>
  have e:∀q,jW (c :: l++q)=if jv c=true then((c :: l++q).takeWhile Gc).length else 0:=fun _=>rfl
  rw[e] at h ⊢
  by_cases hc:jv c=true
  ·rw[if_pos hc] at h ⊢;exact Nt (by decide) (by decide) x _ h
  ·rw[if_neg hc] at h;simp at h
theorem Jz (r r':Str):∀(l t:Str) (m:Nat),quo (l++r)=some (t,m)→m≤l.length→quo (l++r')=some (t,m)
 | [],t,m,h,hm=>by have:=Aj _ _ _ h;simp at hm;omega
 | [c],t,m,h,hm=>by
   have e34:∀q,quo (34 :: q)=some ([],1):=fun q=>by cases q<;>rfl
   by_cases h1:c=34
   ·subst h1
    rw[List.singleton_append,e34] at h
    rw[List.singleton_append,e34];exact h
   ·exfalso
    simp only[List.length_cons,List.length_nil] at hm
    cases r with
    |nil=>
     have:quo [c]=if c=34 then some ([],1) else none:=rfl
     rw[List.singleton_append,this,if_neg h1] at h;cases h
    |cons d r=>
     have e:quo (c :: d :: r)=if c=34 then some ([],1) else if c=92 then(match esc d with
      |none=>none
      |some e=>(quo r).map fun q=>(e :: q.1,q.2+2))
      else if c<32 then none else(quo (d :: r)).map fun q=>(c :: q.1,q.2+1):=rfl
     rw[List.singleton_append,e,if_neg h1] at h
     split at h
     ·split at h
      ·cases h
      ·cases hq:quo r with
       |none=>rw[hq] at h;cases h
       |some q=>rw[hq] at h;simp only[Option.map_some,Option.some.injEq,Prod.mk.injEq] at h;have:=Aj _ _ _ hq;omega
     ·split at h
      ·cases h
      ·cases hq:quo (d :: r) with
       |none=>rw[hq] at h;cases h
       |some q=>rw[hq] at h;simp only[Option.map_some,Option.some.injEq,Prod.mk.injEq] at h;have:=Aj _ _ _ hq;omega
 |c :: d :: l,t,m,h,hm=>by
  have e:∀q,quo (c :: d :: (l++q))=if c=34 then some ([],1) else if c=92 then(match esc d with
   |none=>none
   |some e=>(quo (l++q)).map fun q=>(e :: q.1,q.2+2))
   else if c<32 then none else(quo (d :: (l++q))).map fun q=>(c :: q.1,q.2+1):=fun _=>rfl
  simp only[List.cons_append,e,List.length_cons] at h hm ⊢
  by_cases h1:c=34
  ·rw[if_pos h1] at h ⊢;exact h
  rw[if_neg h1] at h ⊢
  by_cases h2:c=92
  ·rw[if_pos h2] at h ⊢
   cases he:esc d with
   |none=>rw[he] at h;cases h
   |some v=>
    rw[he] at h
    simp only at h ⊢
    cases hq:quo (l++r) with
    |none=>rw[hq] at h;cases h
    |some q=>
     rw[hq] at h
     simp only[Option.map_some,Option.some.injEq,Prod.mk.injEq] at h
     rw[Jz r r' l q.1 q.2 hq (by omega)]
     simp only[Option.map_some,Option.some.injEq,Prod.mk.injEq];exact h
  rw[if_neg h2] at h ⊢
  by_cases h3:c<32
  ·rw[if_pos h3] at h;cases h
  rw[if_neg h3] at h ⊢
  cases hq:quo (d :: (l++r)) with
  |none=>rw[hq] at h;cases h
  |some q=>
   rw[hq] at h
   simp only[Option.map_some,Option.some.injEq,Prod.mk.injEq] at h
   have:=Jz r r' (d :: l) q.1 q.2 hq (by simp only[List.length_cons];omega)
   rw[List.cons_append] at this
   rw[this]
   simp only[Option.map_some,Option.some.injEq,Prod.mk.injEq];exact h
theorem Mq:∀t∈qo,∃x y,t=[x,y]∧y≠9∧y≠32:=by
 intro t ht
 simp only[qo,List.mem_cons,List.not_mem_nil,or_false] at ht
 rcases ht with rfl |rfl |rfl |rfl |rfl |rfl<;>exact⟨_,_,rfl,by decide,by decide⟩
theorem YR {r r' w:Str} (x:Nx r r') (hw:w≠[]) (h:jo (w++r)=w.length):jo (w++r')=w.length:=by
 match w,hw with
 | [a],_=>
   have e:∀q,jo ([a]++q)=if(qo.any fun t=>t.isPrefixOf (a :: q))=true then 2 else if(bidx a yZ).isSome=true then 1 else 0:=fun _=>rfl
   rw[e] at h ⊢
   by_cases h1:(qo.any fun t=>t.isPrefixOf (a :: r))=true
   ·rw[if_pos h1] at h;simp at h
   ·rw[if_neg h1] at h
    have h2:¬(qo.any fun t=>t.isPrefixOf (a :: r'))=true:=by
     intro h2
     apply h1
     rw[List.any_eq_true] at h2 ⊢
     obtain⟨t,ht,h2⟩:=h2
     refine⟨t,ht, ?_⟩
     obtain⟨u,v,rfl,n9,n32⟩:=Mq t ht
     cases r' with
     |nil=>simp[List.isPrefixOf] at h2
     |cons c r'=>
      have hc:v=c:=by simp only[List.isPrefixOf,Bool.and_eq_true,beq_iff_eq] at h2;exact h2.2.1
      rcases x with x |x |x
      ·cases r with
       |nil=>cases x
       |cons d r=>
        have:c=d:=by simpa using x
        subst this
        simp only[List.isPrefixOf,Bool.and_eq_true,beq_iff_eq] at h2 ⊢
        exact⟨h2.1,h2.2.1,trivial⟩
      ·have:c=9:=by simpa using x
       omega
      ·have:c=32:=by simpa using x
       omega
    rw[if_neg h2];exact h
 |a :: b :: l,_=>
  have e:∀q,(qo.any fun t=>t.isPrefixOf (a :: b :: l++q))=qo.any fun t=>t.isPrefixOf [a,b]:=by
   intro q
   have:∀(us:List Str),(∀t∈us,t∈qo)→(us.any fun t=>t.isPrefixOf (a :: b :: l++q))=us.any fun t=>t.isPrefixOf [a,b]:=by
    intro us
    induction us with
    |nil=>intro _;rfl
    |cons t us ih=>
     intro hu
     obtain⟨u,v,rfl,_,_⟩:=Mq t (hu t List.mem_cons_self)
     rw[List.any_cons,List.any_cons,ih fun t ht=>hu t (List.mem_cons_of_mem _ ht)]
     rfl
   exact this qo fun _ h=>h
  have e2:∀q,jo (a :: b :: l++q)=if(qo.any fun t=>t.isPrefixOf (a :: b :: l++q))=true then 2 else if(bidx a yZ).isSome=true then 1 else 0:=fun _=>rfl
  rw[e2,e] at h ⊢
  exact h
theorem XU {r r' w t:Str} {kd:Nat} (x:Nx r r') (hw:w≠[]) (h:mR (w++r)=some (kd,t,w.length)):mR (w++r')=some (kd,t,w.length):=by
 have tk:∀q:Str,(w++q).take w.length=w:=fun q=>by rw[List.take_append_of_le_length (Nat.le_refl _),List.take_length]
 cases w with
 |nil=>exact absurd rfl hw
 |cons c l=>
  have e:∀q:Str,mR (c :: l++q)=(if jv c=true then some (0,(c :: l++q).take (jW (c :: l++q)),jW (c :: l++q))
   else if c=36 then(if 0<jW (l++q) then some (1,(l++q).take (jW (l++q)),jW (l++q)+1) else none)
   else if fP c=true then some (2,(c :: l++q).take ((c :: l++q).takeWhile fP).length,((c :: l++q).takeWhile fP).length)
   else if c=34 then(quo (l++q)).map fun r=>(3,r.1,r.2+1)
   else if 0<jo (c :: l++q) then some (4,(c :: l++q).take (jo (c :: l++q)),jo (c :: l++q)) else none):=fun _=>rfl
  rw[e] at h ⊢
  by_cases h1:jv c=true
  ·rw[if_pos h1] at h ⊢
   simp only[Option.some.injEq,Prod.mk.injEq] at h
   have:=Ll x hw h.2.2
   rw[h.2.2,tk] at h
   rw[this,tk]
   simp only[Option.some.injEq,Prod.mk.injEq];exact⟨h.1,h.2.1,trivial⟩
  rw[if_neg h1] at h ⊢
  by_cases h2:c=36
  ·rw[if_pos h2] at h ⊢
   by_cases h3:0<jW (l++r)
   ·rw[if_pos h3] at h
    simp only[Option.some.injEq,Prod.mk.injEq,List.length_cons,Nat.add_right_cancel_iff] at h
    have hl:l≠[]:=by intro hl;rw[h.2.2,hl] at h3;simp at h3
    have:=Ll x hl h.2.2
    have tk2:∀q:Str,(l++q).take l.length=l:=fun q=>by rw[List.take_append_of_le_length (Nat.le_refl _),List.take_length]
    have h4:0<l.length:=by rw[h.2.2] at h3;exact h3
    rw[h.2.2,tk2] at h
    rw[this,tk2,if_pos h4]
    simp only[Option.some.injEq,Prod.mk.injEq,List.length_cons];exact⟨h.1,h.2.1,trivial⟩
   ·rw[if_neg h3] at h;cases h
  rw[if_neg h2] at h ⊢
  by_cases h3:fP c=true
  ·rw[if_pos h3] at h ⊢
   simp only[Option.some.injEq,Prod.mk.injEq] at h
   have:=Nt (p:=fP) (by decide) (by decide) x _ h.2.2
   rw[h.2.2,tk] at h
   rw[this,tk]
   simp only[Option.some.injEq,Prod.mk.injEq];exact⟨h.1,h.2.1,trivial⟩
  rw[if_neg h3] at h ⊢
  by_cases h4:c=34
  ·rw[if_pos h4] at h ⊢
   cases hq:quo (l++r) with
   |none=>rw[hq] at h;cases h
   |some q=>
    rw[hq] at h
    simp only[Option.map_some,Option.some.injEq,Prod.mk.injEq,List.length_cons,Nat.add_right_cancel_iff] at h
    rw[Jz r r' l q.1 q.2 hq (by omega)]
    simp only[Option.map_some,Option.some.injEq,Prod.mk.injEq,List.length_cons,Nat.add_right_cancel_iff];exact h
  rw[if_neg h4] at h ⊢
  by_cases h5:0<jo (c :: l++r)
  ·rw[if_pos h5] at h
   simp only[Option.some.injEq,Prod.mk.injEq] at h
   have:=YR x hw h.2.2
   rw[h.2.2,tk] at h
   rw[this,tk,if_pos (by simp)]
   simp only[Option.some.injEq,Prod.mk.injEq];exact⟨h.1,h.2.1,trivial⟩
  ·rw[if_neg h5] at h;cases h
theorem Y1 {r r' w:Str} (x:Nx r r') (hw:w≠[]) (h:skip false (w++r)=0):skip false (w++r')=0:=by
 cases w with
 |nil=>exact absurd rfl hw
 |cons c l=>
  have e:∀q:Str,skip false (c :: l++q)=if qB c=true then skip false (l++q)+1 else if c=47∧(l++q).head? =some 47 then skip true (l++q)+1 else 0:=fun _=>rfl
  rw[e] at h ⊢
  by_cases hb:qB c=true
  ·rw[if_pos hb] at h;omega
  rw[if_neg hb] at h ⊢
  by_cases hc:c=47∧(l++r).head? =some 47
  ·rw[if_pos hc] at h;omega
  rw[if_neg]
  rintro⟨h1,h2⟩
  refine hc ⟨h1, ?_⟩
  cases l with
  |cons d l=>exact h2
  |nil=>
   rw[List.nil_append] at h2 ⊢
   rcases x with x |x |x
   ·rw[←x];exact h2
   ·rw[x] at h2;cases h2
   ·rw[x] at h2;cases h2
def zN:Str:=[9,47,47,32,120,10,32]
def Rq:Str:=[32,47,47,32,101,110,100]
def YL:Str:=[47,47,32,102,105,114,115,116,10]
def Dv (s:Str):Nat→List Lx→Str
 |_,[]=>Rq
 |frm,y :: T=>(if frm<y.beg then zN else [])++((s.drop y.beg).take (y.fin-y.beg)++Dv s y.fin T)
theorem ZM (y:Str):skip false (zN++y)=7+skip false y:=by simp[zN,skip,qB];omega
theorem abj (y:Str):skip false (YL++y)=9+skip false y:=by simp[YL,skip,qB];omega
def kt (x:Lx):Nat×Str:=(x.kind,x.text)
theorem XH (s:Str):∀(f p:Nat) (T:List Lx),nZ f p (s.drop p)= .ok T→p≤s.length→s.length-p<f→∀(g q:Nat),(Dv s p T).length<g→∃T',nZ g q (Dv s p T)= .ok T'∧T'.map kt=T.map kt∧(T≠[]→∀y∈T.head?,p≤y.beg∧y.beg<y.fin∧y.fin≤s.length)
 |0,p,T,h,hp,hf,g,q,hg=>by omega
 |f+1,p,T,h,hp,hf,0,q,hg=>by omega
 |f+1,p,T,h,hp,hf,g+1,q,hg=>by
  simp only[nZ] at h
  by_cases hend:(s.drop p).length≤skip false (s.drop p)
  ·rw[if_pos hend] at h
   cases h
   exact⟨[],rfl,rfl,fun h=>absurd rfl h⟩
  ·rw[if_neg hend] at h
   have hsk:=uV false (s.drop p) (by omega)
   simp only[List.length_drop] at hend
   rw[List.drop_drop] at h hsk
   generalize hb:p+skip false (s.drop p)=b at *
   cases hn:mR (s.drop b) with
   |none=>rw[hn] at h;cases h
   |some r=>
    obtain⟨kd,t,m⟩:=r
    have hm:=vY hn
    simp only[List.length_drop] at hm
    rw[hn] at h
    simp only at h
    rw[List.drop_drop,show p+(skip false (s.drop p)+m)=b+m by omega] at h
    cases hr:nZ f (b+m) (s.drop (b+m)) with
    |error e=>rw[hr] at h;cases h
    |ok r=>
     rw[hr] at h
     cases h
     have hw:((s.drop b).take m).length=m:=by rw[List.length_take,List.length_drop];omega
     have hsp:(s.drop b)=(s.drop b).take m++s.drop (b+m):=by
      rw[←List.drop_drop];exact(List.take_append_drop m _).symm
     have e1:Dv s p (⟨kd,t,b,b+m⟩ :: r)=(if p<b then zN else [])++((s.drop b).take m++Dv s (b+m) r):=by
      show(if p<b then zN else [])++((s.drop b).take (b+m-b)++Dv s (b+m) r)=_
      rw[Nat.add_sub_cancel_left]
     rw[e1] at hg ⊢
     have hlen:((if p<b then zN else [])++((s.drop b).take m++Dv s (b+m) r)).length=(if p<b then 7 else 0)+(m+(Dv s (b+m) r).length):=by
      rw[List.length_append,List.length_append,hw];split<;>rfl
     obtain⟨T',i1,i2,i3⟩:=XH s f (b+m) r hr (by omega) (by omega) g (q+(if p<b then 7 else 0)+m) (by rw[hlen] at hg;omega)
     have nx:Nx (s.drop (b+m)) (Dv s (b+m) r):=by
      cases r with
      |nil=>exact .inr (.inr rfl)
      |cons y r=>
       have hy:=i3 (by simp) y rfl
       by_cases hyb:b+m<y.beg
       ·refine .inr (.inl ?_)
        show((if b+m<y.beg then zN else [])++_).head? =some 9
        rw[if_pos hyb];rfl
       ·refine .inl ?_
        show((if b+m<y.beg then zN else [])++((s.drop y.beg).take (y.fin-y.beg)++Dv s y.fin r)).head? =_
        rw[if_neg hyb,List.nil_append,show y.beg=b+m by omega]
        have hlt:b+m<s.length:=by omega
        rw[List.drop_eq_getElem_cons hlt]
        obtain⟨z,hz⟩:∃z,y.fin-(b+m)=z+1:=⟨y.fin-(b+m)-1,by omega⟩
        rw[hz];rfl
     have hw0:(s.drop b).take m≠[]:=by intro e;rw[e] at hw;simp at hw;omega
     have hsk':skip false ((s.drop b).take m++Dv s (b+m) r)=0:=Y1 nx hw0 (by rw[←hsp];exact hsk)
     have hn':mR ((s.drop b).take m++Dv s (b+m) r)=some (kd,t,m):=by
      have:=XU (kd:=kd) (t:=t) nx hw0 (by rw[←hsp,hw];exact hn)
      rw[hw] at this;exact this
     have hsx:skip false ((if p<b then zN else [])++((s.drop b).take m++Dv s (b+m) r))=if p<b then 7 else 0:=by
      split
      ·rw[ZM,hsk']
      ·rw[List.nil_append,hsk']
     have hdr:∀k,((if p<b then zN else [])++((s.drop b).take m++Dv s (b+m) r)).drop ((if p<b then 7 else 0)+k)=((s.drop b).take m++Dv s (b+m) r).drop k:=by
      intro k
      split
      ·rw[←List.drop_drop];rfl
      ·rw[List.nil_append,Nat.zero_add]
     refine⟨⟨kd,t,q+(if p<b then 7 else 0),q+(if p<b then 7 else 0)+m⟩ :: T', ?_, ?_,fun _ y hy=> ?_⟩
     ·simp only[nZ]
      rw[hsx,hlen,if_neg (by omega)]
      have:=hdr 0
      rw[Nat.add_zero,List.drop_zero] at this
      rw[this,hn']
      simp only
      rw[hdr m,show((s.drop b).take m++Dv s (b+m) r).drop m=Dv s (b+m) r from by
       have:=List.drop_left (l₁:=(s.drop b).take m) (l₂:=Dv s (b+m) r)
       rw[hw] at this;exact this,i1]
     ·simp only[List.map_cons,i2,kt]
     ·cases hy
      simp only
      omega
theorem abk {P Y:Str} (h:skip false (P++Y)=P.length+skip false Y) (f q:Nat):nZ f q (P++Y)=nZ f (q+P.length) Y:=by
 cases f with
 |zero=>rfl
 |succ f=>
  have hd:∀k,(P++Y).drop (P.length+k)=Y.drop k:=fun k=>by rw[←List.drop_drop,List.drop_left]
  simp only[nZ,h,List.length_append,hd,Nat.add_assoc]
  by_cases hc:Y.length≤skip false Y
  ·rw[if_pos (by omega),if_pos hc]
  ·rw[if_neg (by omega),if_neg hc]
theorem XJ:∀(f:Nat) (s:Str) (a k:Nat) (r:List Lx),nZ f a (s.drop a)= .ok r→a≤s.length→k+r.length≤4096→Ey f s a k= .ok r
 |0,s,a,k,r,h,ha,hk=>by cases h;rfl
 |f+1,s,a,k,r,h,ha,hk=>by
  simp only[nZ] at h
  simp only[Ey]
  have hle:=uj false (s.drop a)
  simp only[List.length_drop] at hle h
  by_cases hend:s.length≤a+skip false (s.drop a)
  ·rw[if_pos (by omega)] at h
   rw[if_pos hend]
   cases h;rfl
  ·rw[if_neg (by omega),List.drop_drop] at h
   rw[if_neg hend]
   cases hn:mR (s.drop (a+skip false (s.drop a))) with
   |none=>rw[hn] at h;cases h
   |some q=>
    obtain⟨kd,t,m⟩:=q
    have hm:=vY hn
    simp only[List.length_drop] at hm
    rw[hn] at h
    simp only at h ⊢
    rw[List.drop_drop,show a+(skip false (s.drop a)+m)=a+skip false (s.drop a)+m by omega] at h
    cases hr:nZ f (a+skip false (s.drop a)+m) (s.drop (a+skip false (s.drop a)+m)) with
    |error e=>rw[hr] at h;cases h
    |ok r'=>
     rw[hr] at h
     cases h
     simp only[List.length_cons] at hk
     rw[if_neg (by omega),XJ f s _ (k+1) r' hr (by omega) (by omega)]
def Ch (n:Nat):Nat→List Lx→Prop
 |p,[]=>p≤n
 |p,y :: T=>p≤y.beg∧y.beg<y.fin∧y.fin≤n∧Ch n y.fin T
theorem OI (s:Str):∀(f p:Nat) (T:List Lx),nZ f p (s.drop p)= .ok T→p≤s.length→Ch s.length p T
 |0,p,T,h,hp=>by cases h;exact hp
 |f+1,p,T,h,hp=>by
  simp only[nZ] at h
  by_cases hend:(s.drop p).length≤skip false (s.drop p)
  ·rw[if_pos hend] at h
   cases h
   exact hp
  ·rw[if_neg hend] at h
   simp only[List.length_drop] at hend
   rw[List.drop_drop] at h
   cases hn:mR (s.drop (p+skip false (s.drop p))) with
   |none=>rw[hn] at h;cases h
   |some r=>
    obtain⟨kd,t,m⟩:=r
    have hm:=vY hn
    simp only[List.length_drop] at hm
    rw[hn] at h
    simp only at h
    rw[List.drop_drop,show p+(skip false (s.drop p)+m)=p+skip false (s.drop p)+m by omega] at h
    cases hr:nZ f (p+skip false (s.drop p)+m) (s.drop (p+skip false (s.drop p)+m)) with
    |error e=>rw[hr] at h;cases h
    |ok r=>
     rw[hr] at h
     cases h
     exact⟨Nat.le_add_right _ _,by show p+skip false (s.drop p)<p+skip false (s.drop p)+m;omega,by show p+skip false (s.drop p)+m≤s.length;omega,OI s f (p+skip false (s.drop p)+m) r hr (by omega)⟩
theorem Xf (s:Str):∀(T:List Lx) (p:Nat),Ch s.length p T→(Dv s p T).length+p≤7+T.length*7+s.length
 | [],p,h=>by have h:p≤s.length:=h;simp[Dv,Rq];omega
 |y :: T,p,h=>by
  obtain⟨h1,h2,h3,h4⟩:=h
  have ih:=Xf s T y.fin h4
  simp only[Dv,List.length_append,List.length_take,List.length_drop,List.length_cons,Nat.add_mul,Nat.one_mul]
  have:(if p<y.beg then zN else []).length≤7:=by split<;>simp[zN]
  omega
theorem agA {T T':List Lx} (h:T'.map kt=T.map kt):Qm 0 T T':=by
 intro i
 rw[Nat.zero_add]
 have:=congrArg (fun l:List (Nat×Str)=>l[i]?) h
 simp only[List.getElem?_map] at this
 exact this
def zO (s:Str) (T:List Lx):Str:=YL++Dv s 0 T
theorem spread {s:Str} {T:List Lx} (hs:s.length≤750) (h:uG s= .ok T):(zO s T).length≤6100∧∃T',uG (zO s T)= .ok T'∧T'.map kt=T.map kt:=by
 have hl:=h
 rw[V9 (by omega)] at hl
 have hl0:nZ (s.length+1) 0 (s.drop 0)= .ok T:=hl
 have hT:T.length≤s.length:=(Dl _ _ _ _ hl).1
 have hc:=OI s _ _ _ hl0 (Nat.zero_le _)
 have hlen:=Xf s T 0 hc
 have hL:(zO s T).length=9+(Dv s 0 T).length:=by unfold zO;rw[List.length_append];rfl
 refine⟨by omega, ?_⟩
 obtain⟨T',i1,i2,_⟩:=XH s _ 0 T hl0 (Nat.zero_le _) (by omega) ((zO s T).length+1) (0+9) (by omega)
 refine⟨T', ?_,i2⟩
 unfold uG
 refine XJ _ _ _ _ _ ?_ (Nat.zero_le _) ?_
 ·rw[List.drop_zero]
  have:=abk (abj (Dv s 0 T)) ((zO s T).length+1) 0
  unfold zO at this i1 ⊢
  rw[this]
  exact i1
 ·have:T'.length=T.length:=by have:=congrArg List.length i2;simpa using this
  omega
theorem acW {T T':List Lx} (h:T'.map kt=T.map kt):rR T' 100000 0 0=rR T 100000 0 0:=by
 have q:=agA h
 have e:=G8 q 100000 100000 ⟨[],[],[]⟩ 0 0
 have hl:T'.length=T.length:=by have:=congrArg List.length h;simpa using this
 rw[Nat.add_zero] at e
 unfold rR bnd
 rw[e,hl]
 cases iF T 100000 100000 ⟨[],[],[]⟩ 0 0 with
 |ok v i o=>simp only[Lb.mv,Nat.zero_add]
 |fail i=>simp only[Lb.mv,Nat.zero_add]
 |out=>rfl
theorem Uc {s:Str} {T:List Lx} (hs:s.length≤750) (h:uG s= .ok T):match wh s with
 | .ok b=>wh (zO s T)= .ok b
 | .error _=>∃e,wh (zO s T)= .error e:=by
 obtain⟨_,T',h1,h2⟩:=spread hs h
 have e:=acW h2
 unfold wh D5
 rw[h,h1]
 simp only[e]
 cases rR T 100000 0 0 with
 |ok b i o=>rfl
 |fail i=>exact⟨_,rfl⟩
 |out=>exact⟨_,rfl⟩
theorem Xw {s:Str} (hb:∀b∈s,b<256):∀(T:List Lx) (p:Nat),∀b∈Dv s p T,b<256
 | [],p,b,h=>by
   have h:b∈Rq:=h
   simp only[Rq,List.mem_cons,List.not_mem_nil,or_false] at h;omega
 |y :: T,p,b,h=>by
  simp only[Dv,List.mem_append] at h
  rcases h with h |h |h
  ·split at h
   ·simp only[zN,List.mem_cons,List.not_mem_nil,or_false] at h;omega
   ·cases h
  ·exact hb b (List.mem_of_mem_drop (List.mem_of_mem_take h))
  ·exact Xw hb T _ b h
section
variable {h:aj} {L:jq} {S:List Sl} {F:List (aj→Prop)} {n:Nat} {x0:AV} {ls:List Str} {K:aM}
theorem agG {x:Str} {a b:Nat} {k:AV→Bool} (h1:a≤b) (h2:b≤x.length) (s:k (.str ((x.drop a).take (b-a)))=true):Iq (.str x) (some (.int .i64 (a:Int))) (some (.int .i64 (b:Int))) k=true:=by
 refine iO (oq h1 h2) ?_
 rw[List.drop_take]
 exact s
theorem l37 {B:AV→AV→aj→Bool} {x3 v:AV} {i:Nat} {s:Str} {T:List Lx} (hx3:x3= .int .i64 (i:Int)) (hs:s.length≤750) (hT:T.length≤750) (V:View h 4 v (T.map kH)) (V0:View h 1 x0 (ls.map nV)) (hi:ls[i]? =some s)
 :∀(m j frm:Nat) (acc:Str),j≤T.length→T.length-j<m→Ch s.length frm (T.drop j)→acc.length≤9+800*j→
    (∀acc',acc'++Rq=acc++Dv s frm (T.drop j)→Rb (au E n) n B x0 x3 (.str acc') h K=true)→
  Mh (au E n) n B m x0 x3 v (.str acc) (.int .i64 (frm:Int)) (.int .i64 (j:Int)) h K=true:=by
  have hlim:lim=4611686018427387904:=rfl
  have hmost:most=1099511627776:=rfl
  have hs':(ls.map nV)[i]? =some (nV s):=by rw[List.getElem?_map,hi];rfl
  intro m
  induction m with
  |zero=>intro j frm acc _ hm;omega
  |succ m ih=>
   intro j frm acc hj hm hc ha kk
   rw[ads]
   unfold VP
   repeat first |refine fI V ?_ |refine jw ?_ |(with_reducible first |refine aA ?_ |refine aS ?_ |refine bM ?_ |refine bK ?_ |refine bg ?_ |refine aY ?_ |refine bR ?_ |refine iR ?_ |refine eH ?_ |refine dV ?_ |refine dG ?_ |refine dQ ?_ |refine dS ?_ |refine nR ?_ |refine iT ?_ |refine aB A.var rfl ?_ |refine aB A.v1 rfl ?_ |refine aB A.v2 rfl ?_)
   rw[List.length_map]
   by_cases hlt:j<T.length
   ·rw[decide_eq_true hlt]
    have hb:T[j]? =some T[j]:=List.getElem?_eq_getElem hlt
    rw[List.drop_eq_getElem_cons hlt] at hc kk
    generalize T[j]=y at hb hc kk
    have hb':=Ce hb
    obtain⟨c1,c2,c3,c4⟩:=hc
    have rest:∀acc2:Str,acc2.length≤9+800*j+7→(∀acc',acc'++Rq=acc2++((s.drop y.beg).take (y.fin-y.beg)++Dv s y.fin (T.drop (j+1)))→Rb (au E n) n B x0 x3 (.str acc') h K=true)→
     RI (au E n) n B (fun x0 x3 x4 x7 x8 x9 h=>Mh (au E n) n B m x0 x3 x4 x7 x8 x9 h K) x0 x3 v (.str acc2) (.int .i64 (j:Int)) h K=true:=by
     intro acc2 ha2 kk2
     subst hx3
     unfold RI
     refine M0 V0 hs' rfl ?_
     refine ng V hb' fun i1 g1 j1 q1=> ?_
     repeat first |refine aQ (q1 false 2 1) ?_ |(with_reducible first |refine aA ?_ |refine aS ?_ |refine bM ?_ |refine bK ?_ |refine bg ?_ |refine aY ?_ |refine bR ?_ |refine iR ?_ |refine eH ?_ |refine dV ?_ |refine dG ?_ |refine dQ ?_ |refine dS ?_ |refine nR ?_ |refine iT ?_ |refine aB A.var rfl ?_ |refine aB A.v1 rfl ?_ |refine aB A.v2 rfl ?_)
     refine ng V hb' fun i2 g2 j2 q2=> ?_
     repeat first |refine aQ (q2 false 3 1) ?_ |(with_reducible first |refine aA ?_ |refine aS ?_ |refine bM ?_ |refine bK ?_ |refine bg ?_ |refine aY ?_ |refine bR ?_ |refine iR ?_ |refine eH ?_ |refine dV ?_ |refine dG ?_ |refine dQ ?_ |refine dS ?_ |refine nR ?_ |refine iT ?_ |refine aB A.var rfl ?_ |refine aB A.v1 rfl ?_ |refine aB A.v2 rfl ?_)
     refine agG (Nat.le_of_lt c2) c3 ?_
     have hlw:((s.drop y.beg).take (y.fin-y.beg)).length≤750:=by rw[List.length_take,List.length_drop];omega
     refine TT (by omega) ?_
     refine ng V hb' fun i3 g3 j3 q3=> ?_
     repeat first |refine aQ (q3 false 3 1) ?_ |(with_reducible first |refine aA ?_ |refine aS ?_ |refine bM ?_ |refine bK ?_ |refine bg ?_ |refine aY ?_ |refine bR ?_ |refine iR ?_ |refine eH ?_ |refine dV ?_ |refine dG ?_ |refine dQ ?_ |refine dS ?_ |refine nR ?_ |refine iT ?_ |refine aB A.var rfl ?_ |refine aB A.v1 rfl ?_ |refine aB A.v2 rfl ?_)
     refine mI (by omega) ?_
     refine ih (j+1) y.fin _ (by omega) (by omega) c4 (by rw[List.length_append];omega) fun acc' he=> ?_
     exact kk2 acc' (by rw[he,List.append_assoc])
    repeat first |(with_reducible first |refine aA ?_ |refine aS ?_ |refine bM ?_ |refine bK ?_ |refine bg ?_ |refine aY ?_ |refine bR ?_ |refine iR ?_ |refine eH ?_ |refine dV ?_ |refine dG ?_ |refine dQ ?_ |refine dS ?_ |refine nR ?_ |refine iT ?_ |refine aB A.var rfl ?_ |refine aB A.v1 rfl ?_ |refine aB A.v2 rfl ?_)
    refine ng V hb' fun i1 g1 j1 q1=> ?_
    repeat first |refine aQ (q1 false 2 1) ?_ |(with_reducible first |refine aA ?_ |refine aS ?_ |refine bM ?_ |refine bK ?_ |refine bg ?_ |refine aY ?_ |refine bR ?_ |refine iR ?_ |refine eH ?_ |refine dV ?_ |refine dG ?_ |refine dQ ?_ |refine dS ?_ |refine nR ?_ |refine iT ?_ |refine aB A.var rfl ?_ |refine aB A.v1 rfl ?_ |refine aB A.v2 rfl ?_)
    by_cases hg:frm<y.beg
    ·rw[decide_eq_true (show((frm:Nat):Int)<(y.beg:Int) by omega)]
     refine bK ?_
     refine TT (by simp only[List.length_cons,List.length_nil];omega) ?_
     refine rest _ (by rw[List.length_append];simp only[List.length_cons,List.length_nil];omega) fun acc' he=> ?_
     refine kk acc' ?_
     rw[he,List.append_assoc]
     show acc++(zN++_)=acc++((if frm<y.beg then zN else [])++_)
     rw[if_pos hg]
    ·rw[decide_eq_false (show ¬((frm:Nat):Int)<(y.beg:Int) by omega)]
     refine bg ?_
     refine rest _ (by omega) fun acc' he=> ?_
     refine kk acc' ?_
     rw[he]
     show acc++_=acc++((if frm<y.beg then zN else [])++_)
     rw[if_neg hg,List.nil_append]
   ·rw[decide_eq_false hlt]
    refine bg ?_
    refine kk acc ?_
    rw[List.drop_of_length_le (by omega)];rfl
theorem c5 (hn:1000000000≤n) (hg:GvF∈F) (hv:(fun h=>View h 1 x0 (ls.map nV))∈F) (hb:∀s∈ls,∀b∈s,b<256) (A:Cx h L S F) (k:∀h,K (.bool true) h=true):au E n (.func 5) [x0] h K=true:=by
 have hlim:lim=4611686018427387904:=rfl
 have hmost:most=1099511627776:=rfl
 have hbig:big=1000000000:=rfl
 obtain⟨n,rfl⟩:∃m,n=m+1:=⟨n-1,by omega⟩
 apply d5
 unfold s5
 have wk:∀h,Cx h L S F→Vy (au E n) n h K=true:=by
  intro h A
  unfold Vy
  exact c9 (by omega) hg A fun h=>aG rfl (k h)
 have lp:∀(m i:Nat) (h:aj),i≤6→6-i<m→Cx h L S F→Uo (au E n) n m x0 (.int .i64 (i:Int)) h K=true:=by
  intro m
  induction m with
  |zero=>intro i h _ hm;omega
  |succ m ih=>
   intro i h hi hm A
   have V:View h 1 x0 (ls.map nV):=A.fact hv
   rw[ae7]
   unfold adp
   repeat first |refine fI V ?_ |refine jw ?_ |(with_reducible first |refine aA ?_ |refine aS ?_ |refine bM ?_ |refine bK ?_ |refine bg ?_ |refine aY ?_ |refine bR ?_ |refine iR ?_ |refine eH ?_ |refine dV ?_ |refine dG ?_ |refine dQ ?_ |refine dS ?_ |refine nR ?_ |refine iT ?_ |refine aB A.var rfl ?_ |refine aB A.v1 rfl ?_ |refine aB A.v2 rfl ?_)
   rw[List.length_map]
   by_cases hlt:i<ls.length
   ·rw[decide_eq_true hlt]
    repeat first |(with_reducible first |refine aA ?_ |refine aS ?_ |refine bM ?_ |refine bK ?_ |refine bg ?_ |refine aY ?_ |refine bR ?_ |refine iR ?_ |refine eH ?_ |refine dV ?_ |refine dG ?_ |refine dQ ?_ |refine dS ?_ |refine nR ?_ |refine iT ?_ |refine aB A.var rfl ?_ |refine aB A.v1 rfl ?_ |refine aB A.v2 rfl ?_)
    by_cases h6:i<6
    ·rw[decide_eq_true (show((i:Nat):Int)<6 by omega)]
     have next:∀h,Cx h L S F→Ld (au E n) n (fun x0 x3 h=>Uo (au E n) n m x0 x3 h K) x0 (.int .i64 (i:Int)) h K=true:=by
      intro h A
      unfold Ld
      refine mI (by omega) ?_
      exact ih (i+1) h (by omega) (by omega) A
     have hs:ls[i]? =some ls[i]:=List.getElem?_eq_getElem hlt
     have hmem:=List.getElem_mem hlt
     generalize ls[i]=s at hs hmem
     have hs':(ls.map nV)[i]? =some (nV s):=by rw[List.getElem?_map,hs];rfl
     have hbs:=hb s hmem
     have rd:∀{h:aj} {k:AV→Bool},View h 1 x0 (ls.map nV)→k (.str s)=true→(dO h 1 x0 (.int .i64 (i:Int)) fun p=>av h p k)=true:=fun V q=>M0 V hs' rfl q
     repeat first |(with_reducible first |refine aA ?_ |refine aS ?_ |refine bM ?_ |refine bK ?_ |refine bg ?_ |refine aY ?_ |refine bR ?_ |refine iR ?_ |refine eH ?_ |refine dV ?_ |refine dG ?_ |refine dQ ?_ |refine dS ?_ |refine nR ?_ |refine iT ?_ |refine aB A.var rfl ?_ |refine aB A.v1 rfl ?_ |refine aB A.v2 rfl ?_)
     unfold ZT
     refine rd V ?_
     repeat first |(with_reducible first |refine aA ?_ |refine aS ?_ |refine bM ?_ |refine bK ?_ |refine bg ?_ |refine aY ?_ |refine bR ?_ |refine iR ?_ |refine eH ?_ |refine dV ?_ |refine dG ?_ |refine dQ ?_ |refine dS ?_ |refine nR ?_ |refine iT ?_ |refine aB A.var rfl ?_ |refine aB A.v1 rfl ?_ |refine aB A.v2 rfl ?_)
     by_cases hlen:s.length≤750
     ·rw[decide_eq_false (show ¬((750:Int)<(s.length:Int)) by omega)]
      refine bg ?_
      unfold Z7
      refine rd V ?_
      refine c7 hbs (by omega) (by omega) A ?_
      cases hl:uG s with
      |error e=>
       intro h A
       refine aG rfl ?_
       unfold BP
       refine jL (jG (uI ?_))
       refine eU (bK ?_)
       exact next h A
      |ok T=>
       intro h u A
       refine aG rfl ?_
       unfold BP
       refine jL (jG (uI ?_))
       repeat first |refine FX ?_ |(with_reducible first |refine aA ?_ |refine aS ?_ |refine bM ?_ |refine bK ?_ |refine bg ?_ |refine aY ?_ |refine bR ?_ |refine iR ?_ |refine eH ?_ |refine dV ?_ |refine dG ?_ |refine dQ ?_ |refine dS ?_ |refine nR ?_ |refine iT ?_ |refine aB A.var rfl ?_ |refine aB A.v1 rfl ?_ |refine aB A.v2 rfl ?_)
       unfold aao
       have hl':=hl
       rw[V9 (by omega)] at hl'
       have hT:T.length≤s.length:=(Dl _ _ _ _ hl').1
       have hc:=OI s _ 0 T hl' (Nat.zero_le _)
       have hsp:=(spread hlen hl).1
       have hps:=Uc hlen hl
       have VT:View h 4 u (T.map kH):=A.f0
       refine l37 rfl hlen (by omega) VT (A.fact (List.mem_cons_of_mem _ hv)) hs n 0 0 YL (Nat.zero_le _) (by omega) hc (by simp[YL]) fun acc' he=> ?_
       have A:=A.eX
       unfold Rb
       refine rd (A.fact hv) ?_
       refine c6u (by omega) hbs (by omega) hg A fun h c1 A=> ?_
       refine aG rfl ?_
       unfold Jc
       have C1:=(A.f0:SK (wh s) c1 h).cells
       refine jL (jG (uI ?_))
       refine vF A rfl rfl rfl fun v1 h A=> ?_
       refine Mr A rfl C1.1 rfl C1.2 fun h A=> ?_
       have hacc:acc'++Rq=zO s T:=he
       have hla:=congrArg List.length hacc
       rw[List.length_append] at hla
       refine TT (b:=Rq) (by omega) ?_
       rw[hacc]
       refine c6u (by omega) (fun z hz=>by
        simp only[zO,List.mem_append] at hz
        rcases hz with hz |hz
        ·simp only[YL,List.mem_cons,List.not_mem_nil,or_false] at hz;omega
        ·exact Xw hbs T 0 z hz) (by omega) (List.mem_cons_of_mem _ hg) A fun h c2 A=> ?_
       refine aG rfl ?_
       unfold Ie
       have C2:=(A.f0:SK (wh (zO s T)) c2 h).cells
       refine jL (jG (uI ?_))
       refine bY A rfl rfl rfl fun v2 h A=> ?_
       refine gZ A rfl C2.1 rfl C2.2 fun h A=> ?_
       have fin:∀(b:DU),GL b≤250000000→sQ h c1 b→sQ h c2 b→erR (wh (zO s T))=erR (wh s)→(jV (AV.int .i64 ((erR (wh s):Nat):Int)) (AV.int .i64 ((erR (wh (zO s T)):Nat):Int)) fun v54=>gK v54 false (bL h 3 (.ptr v1 0 0 0)) fun v55=>gK v54 false (bL h 3 (.ptr v2 0 0 0)) fun v56=>gP v54 false (fun k=>au E n (.func 8) [v55,v56] h (pz K k)) h fun v57 h=>Bz (au E n) n (fun x0 x3 h=>Uo (au E n) n m x0 x3 h K) x0 (.int .i64 (i:Int)) v54 v57 h K)=true:=by
        intro b hcb R1 R2 her
        rw[her]
        repeat first |refine FX ?_ |refine iN A.var C1.1 ?_ |refine iN A.v1 C2.1 ?_ |(with_reducible first |refine aA ?_ |refine aS ?_ |refine bM ?_ |refine bK ?_ |refine bg ?_ |refine aY ?_ |refine bR ?_ |refine iR ?_ |refine eH ?_ |refine dV ?_ |refine dG ?_ |refine dQ ?_ |refine dS ?_ |refine nR ?_ |refine iT ?_ |refine aB A.var rfl ?_ |refine aB A.v1 rfl ?_ |refine aB A.v2 rfl ?_)
        refine c8 (n:=n) (b:=b) (by omega) (by omega) A.ok R1 R2 fun h' e' o'=> ?_
        refine aG rfl ?_
        unfold Bz
        repeat first |(with_reducible first |refine aA ?_ |refine aS ?_ |refine bM ?_ |refine bK ?_ |refine bg ?_ |refine aY ?_ |refine bR ?_ |refine iR ?_ |refine eH ?_ |refine dV ?_ |refine dG ?_ |refine dQ ?_ |refine dS ?_ |refine nR ?_ |refine iT ?_ |refine aB A.var rfl ?_ |refine aB A.v1 rfl ?_ |refine aB A.v2 rfl ?_)
        exact next h' (A.ext e' o').rest.rest.eX.eX
       have F1:SK (wh s) c1 h:=A.f1
       have F2:SK (wh (zO s T)) c2 h:=A.f0
       cases hp:wh s with
       |ok b=>
        rw[hp] at hps F1 fin
        have hps:wh (zO s T)= .ok b:=hps
        rw[hps] at F2 fin
        rw[hps]
        have:=Tm (by omega) hps
        exact fin b (by omega) F1 F2 rfl
       |error e=>
        rw[hp] at hps F1 fin
        obtain⟨e',hps⟩:=hps
        rw[hps] at F2 fin
        rw[hps]
        have F1:c1=K6:=F1
        have F2:c2=K6:=F2
        exact fin ⟨[],[],[]⟩ (by decide) (by rw[F1];exact sQ.zero) (by rw[F2];exact sQ.zero) rfl
     ·rw[decide_eq_true (show((750:Int)<(s.length:Int)) by omega)]
      exact bK (next h A)
    ·rw[decide_eq_false (show ¬((i:Nat):Int)<6 by omega)]
     repeat first |(with_reducible first |refine aA ?_ |refine aS ?_ |refine bM ?_ |refine bK ?_ |refine bg ?_ |refine aY ?_ |refine bR ?_ |refine iR ?_ |refine eH ?_ |refine dV ?_ |refine dG ?_ |refine dQ ?_ |refine dS ?_ |refine nR ?_ |refine iT ?_ |refine aB A.var rfl ?_ |refine aB A.v1 rfl ?_ |refine aB A.v2 rfl ?_)
     exact wk h A
   ·rw[decide_eq_false hlt]
    repeat first |(with_reducible first |refine aA ?_ |refine aS ?_ |refine bM ?_ |refine bK ?_ |refine bg ?_ |refine aY ?_ |refine bR ?_ |refine iR ?_ |refine eH ?_ |refine dV ?_ |refine dG ?_ |refine dQ ?_ |refine dS ?_ |refine nR ?_ |refine iT ?_ |refine aB A.var rfl ?_ |refine aB A.v1 rfl ?_ |refine aB A.v2 rfl ?_)
    exact wk h A
 exact lp n 0 h (Nat.zero_le _) (by omega) A
end
end Go.Proofs.YtibillhjmfbneaaGreatDoor
namespace Go.Proofs
open Go.Shelf
def YtibillhjmfbneaaGreatDoor.pintL_ren:Go.Shelf.Ren:=⟨fun |174=>56 |247=>70 |245=>71 |287=>85 |279=>86 |280=>87 |281=>88 |282=>89 |321=>97 |322=>98 |316=>99 |171=>101 |205=>100 |243=>104 |246=>106 |283=>109 |284=>110 |285=>111 |286=>112 |129=>114 |317=>113 |318=>115 |319=>116 |320=>117 |337=>118 |338=>119 |n=>n,fun |9=>9 |3=>3 |2=>2 |75=>120 |85=>121 |4=>4 |167=>146 |5=>5 |53=>147 |175=>148 |46=>150 |168=>151 |37=>141 |0=>0 |210=>161 |21=>21 |127=>157 |145=>169 |143=>167 |171=>172 |173=>175 |212=>178 |51=>179 |20=>20 |213=>180 |232=>183 |233=>184 |80=>98 |n=>n,fun |15=>0 |16=>1 |17=>3 |18=>4 |19=>5 |n=>n⟩
theorem YtibillhjmfbneaaGreatDoor.pintL:Go.Proofs.LaysC.n174 Tryz.prog YtibillhjmfbneaaGreatDoor.pintL_ren:={
 mixed:=by kernel_rfl
 f129:=Tryz.func114.trans (congrArg some (by kernel_rfl))
 f171:=Tryz.func101.trans (congrArg some (by kernel_rfl))
 f174:=Tryz.func56.trans (congrArg some (by kernel_rfl))
 f205:=Tryz.func100.trans (congrArg some (by kernel_rfl))
 f243:=Tryz.func104.trans (congrArg some (by kernel_rfl))
 f245:=Tryz.func71.trans (congrArg some (by kernel_rfl))
 f246:=Tryz.func106.trans (congrArg some (by kernel_rfl))
 f247:=Tryz.func70.trans (congrArg some (by kernel_rfl))
 f279:=Tryz.func86.trans (congrArg some (by kernel_rfl))
 f280:=Tryz.func87.trans (congrArg some (by kernel_rfl))
 f281:=Tryz.func88.trans (congrArg some (by kernel_rfl))
 f282:=Tryz.func89.trans (congrArg some (by kernel_rfl))
 f283:=Tryz.func109.trans (congrArg some (by kernel_rfl))
 f284:=Tryz.func110.trans (congrArg some (by kernel_rfl))
 f285:=Tryz.func111.trans (congrArg some (by kernel_rfl))
 f286:=Tryz.func112.trans (congrArg some (by kernel_rfl))
 f287:=Tryz.func85.trans (congrArg some (by kernel_rfl))
 f316:=Tryz.func99.trans (congrArg some (by kernel_rfl))
 f317:=Tryz.func113.trans (congrArg some (by kernel_rfl))
 f318:=Tryz.func115.trans (congrArg some (by kernel_rfl))
 f319:=Tryz.func116.trans (congrArg some (by kernel_rfl))
 f320:=Tryz.func117.trans (congrArg some (by kernel_rfl))
 f321:=Tryz.func97.trans (congrArg some (by kernel_rfl))
 f322:=Tryz.func98.trans (congrArg some (by kernel_rfl))
 f337:=Tryz.func118.trans (congrArg some (by kernel_rfl))
 f338:=Tryz.func119.trans (congrArg some (by kernel_rfl))
 t0:=Tryz.underlying0
 a0:=Tryz.isAgg0
 z0:=Tryz.sizeOf0
 v0:=Tryz.zeroValue0
 t2:=Tryz.underlying2
 a2:=Tryz.isAgg2
 z2:=Tryz.sizeOf2
 v2:=Tryz.zeroValue2
 t3:=Tryz.underlying3
 a3:=Tryz.isAgg3
 z3:=Tryz.sizeOf3
 v3:=Tryz.zeroValue3
 t4:=Tryz.underlying4
 a4:=Tryz.isAgg4
 z4:=Tryz.sizeOf4
 v4:=Tryz.zeroValue4
 t5:=Tryz.underlying5
 a5:=Tryz.isAgg5
 z5:=Tryz.sizeOf5
 v5:=Tryz.zeroValue5
 t9:=Tryz.underlying9
 a9:=Tryz.isAgg9
 z9:=Tryz.sizeOf9
 v9:=Tryz.zeroValue9
 t20:=Tryz.underlying20
 a20:=Tryz.isAgg20
 z20:=Tryz.sizeOf20
 v20:=Tryz.zeroValue20
 t21:=Tryz.underlying21
 a21:=Tryz.isAgg21
 z21:=Tryz.sizeOf21
 v21:=Tryz.zeroValue21
 t37:=Tryz.underlying141
 a37:=Tryz.isAgg141
 z37:=Tryz.sizeOf141
 v37:=Tryz.zeroValue141
 t46:=Tryz.underlying150
 a46:=Tryz.isAgg150
 z46:=Tryz.sizeOf150
 v46:=Tryz.zeroValue150
 t51:=Tryz.underlying179
 a51:=Tryz.isAgg179
 z51:=Tryz.sizeOf179
 v51:=Tryz.zeroValue179
 t53:=Tryz.underlying147
 a53:=Tryz.isAgg147
 z53:=Tryz.sizeOf147
 v53:=Tryz.zeroValue147
 t75:=Tryz.underlying120
 a75:=Tryz.isAgg120
 z75:=Tryz.sizeOf120
 v75:=Tryz.zeroValue120
 t85:=Tryz.underlying121
 a85:=Tryz.isAgg121
 z85:=Tryz.sizeOf121
 v85:=Tryz.zeroValue121
 t127:=Tryz.underlying157
 a127:=Tryz.isAgg157
 z127:=Tryz.sizeOf157
 v127:=Tryz.zeroValue157
 t143:=Tryz.underlying167
 a143:=Tryz.isAgg167
 z143:=Tryz.sizeOf167
 v143:=Tryz.zeroValue167
 t145:=Tryz.underlying169
 a145:=Tryz.isAgg169
 z145:=Tryz.sizeOf169
 v145:=Tryz.zeroValue169
 t167:=Tryz.underlying146
 a167:=Tryz.isAgg146
 z167:=Tryz.sizeOf146
 v167:=Tryz.zeroValue146
 t168:=Tryz.underlying151
 a168:=Tryz.isAgg151
 z168:=Tryz.sizeOf151
 v168:=Tryz.zeroValue151
 t171:=Tryz.underlying172
 a171:=Tryz.isAgg172
 z171:=Tryz.sizeOf172
 v171:=Tryz.zeroValue172
 t173:=Tryz.underlying175
 a173:=Tryz.isAgg175
 z173:=Tryz.sizeOf175
 v173:=Tryz.zeroValue175
 t175:=Tryz.underlying148
 a175:=Tryz.isAgg148
 z175:=Tryz.sizeOf148
 v175:=Tryz.zeroValue148
 t210:=Tryz.underlying161
 a210:=Tryz.isAgg161
 z210:=Tryz.sizeOf161
 v210:=Tryz.zeroValue161
 t212:=Tryz.underlying178
 a212:=Tryz.isAgg178
 z212:=Tryz.sizeOf178
 v212:=Tryz.zeroValue178
 t213:=Tryz.underlying180
 a213:=Tryz.isAgg180
 z213:=Tryz.sizeOf180
 t232:=Tryz.underlying183
 a232:=Tryz.isAgg183
 z232:=Tryz.sizeOf183
 v232:=Tryz.zeroValue183
 t233:=Tryz.underlying184
 a233:=Tryz.isAgg184
 z233:=Tryz.sizeOf184
 v233:=Tryz.zeroValue184
 g15:=by kernel_rfl
 g16:=by kernel_rfl
 g17:=by kernel_rfl
 g18:=by kernel_rfl
 g19:=by kernel_rfl
 t80:=Tryz.underlying98
 a80:=Tryz.isAgg98
 z80:=Tryz.sizeOf98
 v80:=Tryz.zeroValue98
 i0:=by kernel_rfl
 i2:=by kernel_rfl
 i3:=by kernel_rfl
 i4:=by kernel_rfl
 i5:=by kernel_rfl
 i9:=by kernel_rfl
 i20:=by kernel_rfl
 i21:=by kernel_rfl
 i37:=by kernel_rfl
 i46:=by kernel_rfl
 i51:=by kernel_rfl
 i53:=by kernel_rfl
 i75:=by kernel_rfl
 i80:=by kernel_rfl
 i85:=by kernel_rfl
 i127:=by kernel_rfl
 i143:=by kernel_rfl
 i145:=by kernel_rfl
 i167:=by kernel_rfl
 i168:=by kernel_rfl
 i171:=by kernel_rfl
 i173:=by kernel_rfl
 i175:=by kernel_rfl
 i210:=by kernel_rfl
 i212:=by kernel_rfl
 i232:=by kernel_rfl
 i233:=by kernel_rfl
 m15:=by kernel_rfl
 m16:=by kernel_rfl
 m17:=by kernel_rfl
 m18:=by kernel_rfl
 m19:=by kernel_rfl
 c0:=by kernel_rfl
 c2:=by kernel_rfl
 c3:=by kernel_rfl
 c4:=by kernel_rfl
 c5:=by kernel_rfl
 c9:=by kernel_rfl
 c20:=by kernel_rfl
 c21:=by kernel_rfl
 c37:=by kernel_rfl
 c46:=by kernel_rfl
 c51:=by kernel_rfl
 c53:=by kernel_rfl
 c75:=by kernel_rfl
 c80:=by kernel_rfl
 c85:=by kernel_rfl
 c127:=by kernel_rfl
 c143:=by kernel_rfl
 c145:=by kernel_rfl
 c167:=by kernel_rfl
 c168:=by kernel_rfl
 c171:=by kernel_rfl
 c173:=by kernel_rfl
 c175:=by kernel_rfl
 c210:=by kernel_rfl
 c212:=by kernel_rfl
 c213:=by kernel_rfl
 c232:=by kernel_rfl
 c233:=by kernel_rfl}
end Go.Proofs
namespace Go.Proofs.YtibillhjmfbneaaGreatDoor
open Go.Ab
theorem afw:∃c,Tryz.f56.body=some c:=by
 have h:Tryz.f56.body.isSome=true:=by kernel_rfl
 cases e:Tryz.f56.body with
 |none=>rw[e] at h;cases h
 |some c=>exact⟨c,rfl⟩
theorem adk (args:Array Value) (w:World):(callFunc 56 args).run Tryz.prog w= .ok (.enter 56 args) w:=by
 obtain⟨c,h⟩:=afw
 exact _root_.Go.MuLone.run_callFunc_enter Tryz.func56 (by kernel_rfl) h args w
theorem abg:zB Tryz.prog ZB:=⟨aa6 YtibillhjmfbneaaGreatDoor.pintL rfl rfl rfl adk,
 Sd Tryz.func94 (by kernel_rfl) (by kernel_rfl) (by kernel_rfl) (by kernel_rfl),
 aai Tryz.func103 (by kernel_rfl) (by kernel_rfl) (by kernel_rfl) (by kernel_rfl),trivial⟩
theorem aej:Lc Tryz.prog E:=acX afm abg
end Go.Proofs.YtibillhjmfbneaaGreatDoor
