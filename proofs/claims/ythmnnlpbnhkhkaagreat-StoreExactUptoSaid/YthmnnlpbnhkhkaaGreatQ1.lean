/-
  Texts that the claim hangs on, part 2.
-/
import Derived.Test.YthmnnlpbnhkhkaaGreatQ0
import Derived.Lib.Builder
import Derived.Lib.UnsafeStr
import Derived.OrdersIn
import Derived.LoopNIn
import Derived.RangeFuncRecord
import Derived.RangeFuncLeaves
import Derived.RowKit3
set_option linter.unusedSimpArgs false
set_option linter.unusedVariables false
namespace Go.Ab
section
variable {P:Program} {B:Base} {φ:eO} {h h':aj} {w:World} {v:AV}
theorem xu {t:TypeId} {k:K0} (hk:Du P t=some k):(∃i,k= .int∧P.underlying t=some (.int i))∨(k= .str∧P.underlying t=some .string)∨(k= .bool∧P.underlying t=some .bool):=by
 unfold Du at hk
 split at hk
 ·rename_i i hu;cases hk;exact .inl ⟨i,rfl,hu⟩
 ·rename_i hu;cases hk;exact .inr (.inl ⟨rfl,hu⟩)
 ·rename_i hu;cases hk;exact .inr (.inr ⟨rfl,hu⟩)
 ·cases hk
theorem YP {t:TypeId} {k:K0} (hk:Du P t=some k):kr P t=some false:=by
 unfold kr
 rcases xu hk with⟨i,_,hu⟩|⟨_,hu⟩|⟨_,hu⟩<;>rw[hu]
theorem vL {t:TypeId} {k:K0} (hk:Du P t=some k) {a b:AV} {ca cb:Value} (ha:dn φ a ca) (hb:dn φ b cb) (hf:qE k a=true) {r:Bool} (he:pq a b=some r) (d:Nat):
 (Op.equalIn (d+1) t ca cb).run P w= .ok r w∧(∀td,P.underlying t=some td→Instr.sameNow td ca cb=some r)∧(r=true→∀n,Instr.sameBits n cb ca=true):=by
 rcases xu hk with⟨i,rfl,hu⟩|⟨rfl,hu⟩|⟨rfl,hu⟩
 ·cases a<;>simp[qE] at hf
  cases b<;>simp only[pq] at he<;>try(cases he;done)
  rename_i k x j y
  cases hkj:Nat.beq (rC k) (rC j) with
  |false=>rw[hkj] at he;cases he
  |true=>
   rw[hkj,cond_true] at he;cases he
   have:=Cv (bJ.1 hkj);subst this
   cases ha;cases hb
   rw[rG]
   refine⟨run_equalIn_int w d t k i x y hu,fun td htd=> ?_,fun hr n=> ?_⟩
   ·rw[hu] at htd;cases htd
    simp[Instr.sameNow]
   ·have:=eq_of_beq hr;subst this
    simp[Instr.sameBits]
 ·cases a<;>simp[qE] at hf
  cases b<;>simp only[pq] at he<;>try(cases he;done)
  cases he
  cases ha with
  |str ha=>
   cases hb with
   |str hb=>
    rename_i s1 s2
    rw[Ct ha hb]
    refine⟨run_equalIn_string w d t _ _ hu,fun td htd=> ?_,fun hr n=> ?_⟩
    ·rw[hu] at htd;cases htd
     simp[Instr.sameNow,beq_toListBytes]
    ·have h0:=eq_of_beq hr
     unfold Instr.sameBits
     rw[beq_toListBytes,beq_iff_eq]
     exact h0.symm
 ·cases a<;>simp[qE] at hf
  cases b<;>simp only[pq] at he<;>try(cases he;done)
  cases he
  cases ha;cases hb
  rename_i x y
  refine⟨run_equalIn_bool w d t x y hu,fun td htd=> ?_,fun hr n=> ?_⟩
  ·rw[hu] at htd;cases htd
   simp[Instr.sameNow]
  ·have:=eq_of_beq hr;subst this
   simp[Instr.sameBits]
theorem pQ {t:TypeId} {ks:List K0} (hs:structOf P t=some ks):∃fs,P.underlying t=some (.struct fs)∧P.stoodInHeld t=false∧P.eqGuardType P.depth t=false∧xK P 0 fs.toList=some ks:=by
 unfold structOf at hs
 split at hs
 ·rename_i fs hu
  cases hc:(!P.stoodInHeld t&& !P.eqGuardType P.depth t) with
  |false=>rw[hc] at hs;cases hs
  |true=>
   rw[hc,cond_true] at hs
   simp only[Bool.and_eq_true,Bool.not_eq_true'] at hc
   exact⟨fs,hu,hc.1,hc.2,hs⟩
 ·cases hs
theorem Iu {n:Nat} {f:Field} {fs:List Field} {ks:List K0} (hs:xK P n (f :: fs)=some ks):∃k ks',f.offset=n∧f.name≠ "_" ∧Du P f.type=some k∧xK P (n+1) fs=some ks'∧ks=k :: ks':=by
 simp only[xK] at hs
 cases hc:(Nat.beq f.offset n&&(f.name != "_")) with
 |false=>rw[hc] at hs;cases hs
 |true=>
  rw[hc,cond_true] at hs
  simp only[Bool.and_eq_true,bJ,bne_iff_ne,ne_eq] at hc
  split at hs
  ·rename_i k hk
   split at hs
   ·rename_i ks' hks
    cases hs
    exact⟨k,ks',hc.1,hc.2,hk,hks,rfl⟩
   ·cases hs
  ·cases hs
theorem zy {k:K0} {ks:List K0} {l:List AV} (hf:qW (k :: ks) l=true):∃a l',l=a :: l'∧qE k a=true∧qW ks l'=true:=by
 cases l with
 |nil=>cases hf
 |cons a l'=>
  simp only[qW] at hf
  cases hk:qE k a with
  |false=>rw[hk] at hf;cases hf
  |true=>rw[hk,cond_true] at hf;exact⟨a,l',rfl,hk,hf⟩
theorem qh {t:TypeId} {k:K0} (hk:Du P t=some k) {cs:Array Value} {n:Nat} {c:Value} (hc:cs[n]? =some c):(part t cs n).run P w= .ok c w:=by
 simp[part,Sem.run_bind,oG (YP hk),hc]
theorem vJ {d:Nat} {cl cm:List Value}:∀(fs:List Field) (n:Nat) (ks:List K0) (l m:List AV),xK P n fs=some ks→qW ks l=true→dH φ l (cl.drop n)→dH φ m (cm.drop n)→∀r,mI l m=some r→
 (Op.eqFields (d+1) ⟨cl⟩ ⟨cm⟩ fs).run P w= .ok r w∧(r=true→∀nn,(cm.drop n).length=(cl.drop n).length∧(((cm.drop n).zip (cl.drop n)).all fun(x,y)=>Instr.sameBits nn x y)=true)
 | [],n,ks,l,m,hk,hf,hl,hm,r,he=>by
   simp[xK] at hk;subst hk
   have hln:l=[]:=by cases l with |nil=>rfl |cons=>cases hf
   subst hln
   cases m with
   |cons=>simp[mI] at he
   |nil=>
    simp[mI] at he;subst he
    have e1:=hl.length;have e2:=hm.length
    simp only[List.length_nil] at e1 e2
    have f1:cl.drop n=[]:=List.length_eq_zero_iff.1 e1.symm
    have f2:cm.drop n=[]:=List.length_eq_zero_iff.1 e2.symm
    exact⟨by simp[Op.eqFields],fun _ nn=>by rw[f1,f2];simp⟩
 |f :: fs,n,ks,l,m,hk,hf,hl,hm,r,he=>by
  obtain⟨k,ks',h1,h2,h3,h4,rfl⟩:=Iu hk
  obtain⟨a,l',rfl,h5,h6⟩:=zy hf
  cases m with
  |nil=>simp[mI] at he
  |cons b m'=>
   generalize hcl:cl.drop n=cl' at hl
   generalize hcm:cm.drop n=cm' at hm
   cases hl with
   |cons ha hl'=>
    rename_i ca cl2
    cases hm with
    |cons hb hm'=>
     rename_i cb cm2
     have g1:cl[n]? =some ca:=by
      have:=congrArg (fun x=>x[0]?) hcl
      simpa[List.getElem?_drop] using this
     have g2:cm[n]? =some cb:=by
      have:=congrArg (fun x=>x[0]?) hcm
      simpa[List.getElem?_drop] using this
     have d1:cl.drop (n+1)=cl2:=by rw[←List.drop_drop,hcl];rfl
     have d2:cm.drop (n+1)=cm2:=by rw[←List.drop_drop,hcm];rfl
     have p1:(part f.type ⟨cl⟩ f.offset).run P w= .ok ca w:=by rw[h1];exact qh h3 (by simpa using g1)
     have p2:(part f.type ⟨cm⟩ f.offset).run P w= .ok cb w:=by rw[h1];exact qh h3 (by simpa using g2)
     simp only[mI] at he
     split at he
     ·rename_i hab
      obtain⟨q1,q2,q3⟩:=vL (w:=w) h3 ha hb h5 hab d
      obtain⟨r1,r2⟩:=vJ (d:=d) fs (n+1) ks' l' m' h4 h6 (by rw[d1];exact hl') (by rw[d2];exact hm') r he
      refine⟨?_,fun hr nn=> ?_⟩
      ·simp only[Op.eqFields,ne_eq,h2,not_false_eq_true,if_true,Sem.run_bind,p1,Result.andThen_ok,p2,q1,Bool.not_true,Bool.false_eq_true,if_false,r1]
      ·obtain⟨s1,s2⟩:=r2 hr nn
       rw[d1,d2] at s1 s2
       refine⟨by simp only[List.length_cons,s1], ?_⟩
       simp only[List.zip_cons_cons,List.all_cons,q3 rfl nn,Bool.true_and]
       exact s2
     ·rename_i hab
      cases he
      obtain⟨q1,q2,q3⟩:=vL (w:=w) h3 ha hb h5 hab d
      refine⟨?_,fun hr=>by cases hr⟩
      simp only[Op.eqFields,ne_eq,h2,not_false_eq_true,if_true,Sem.run_bind,p1,Result.andThen_ok,p2,q1,Bool.not_false,Sem.run_pure]
     ·cases he
theorem uV {t:TypeId} {kk:KK} (hk:rY P t=some kk) {a b:AV} {ca cb:Value} (ha:dn φ a ca) (hb:dn φ b cb) (hf:jD kk a=true) {r:Bool} (he:qJ a b=some r):
 (Op.equal t ca cb).run P w= .ok r w∧((∃k,kk= .leaf k)→∀td,P.underlying t=some td→Instr.sameNow td ca cb=some r)∧(r=true→Instr.sameBits 10000 cb ca=true):=by
 unfold rY at hk
 split at hk
 ·rename_i k hk0
  cases hk
  have hle:pq a b=some r:=by
   unfold qJ at he
   split at he
   ·simp only[jD] at hf
    cases k<;>simp[qE] at hf
   ·exact he
  obtain⟨q1,q2,q3⟩:=vL (w:=w) hk0 ha hb hf hle 9999
  exact⟨q1,fun _=>q2,fun hr=>q3 hr 10000⟩
 ·split at hk
  ·rename_i ks hs
   cases hk
   obtain⟨fs,hu,s1,s2,s3⟩:=pQ hs
   cases a<;>simp[jD] at hf
   rename_i l
   cases b<;>simp only[qJ,pq] at he<;>try(cases he;done)
   rename_i m
   cases ha with
   |agg hl=>
    cases hb with
    |agg hm=>
     rename_i cl cm
     have hfo:P.underlying t=some (.struct (P.fieldsOf t)):=by rw[hu];simp[Program.fieldsOf,hu]
     have hfs:P.fieldsOf t=fs:=by simp[Program.fieldsOf,hu]
     obtain⟨r1,r2⟩:=vJ (d:=9998) (P:=P) (w:=w) fs.toList 0 ks l m s3 hf (by simpa using hl) (by simpa using hm) r he
     refine⟨?_,(fun⟨k,hk⟩=>by cases hk),fun hr=> ?_⟩
     ·have:=run_equalIn_agg (P:=P) w 9999 t ⟨cl⟩ ⟨cm⟩ hfo s1
      rw[hfs] at this
      exact this.trans r1
     ·obtain⟨z1,z2⟩:=r2 hr 9999
      simp only[List.drop_zero] at z1 z2
      simp only[Instr.sameBits,List.size_toArray,z1,beq_self_eq_true,Bool.true_and]
      exact z2
  ·cases hk
theorem xB {cl:List Value} {em:Bool} {d:Nat}:∀(fs:List Field) (n:Nat) (ks:List K0) (l:List AV),xK P n fs=some ks→qW ks l=true→dH φ l (cl.drop n)→
 (forIn fs PUnit.unit fun(f:Field) (_:PUnit)=>(if f.name≠ "_" then(do Instr.checkKey em (d+1) f.type (←part f.type ⟨cl⟩ f.offset);Pure.pure (ForInStep.yield PUnit.unit)) else Pure.pure (ForInStep.yield PUnit.unit):Sem (ForInStep PUnit))).run P w= .ok PUnit.unit w
 | [],n,ks,l,_,_,_=>by simp
 |f :: fs,n,ks,l,hk,hf,hl=>by
  obtain⟨k,ks',h1,h2,h3,h4,rfl⟩:=Iu hk
  obtain⟨a,l',rfl,h5,h6⟩:=zy hf
  generalize hcl:cl.drop n=cl' at hl
  cases hl with
  |cons ha hl'=>
   rename_i ca cl2
   have g1:cl[n]? =some ca:=by
    have:=congrArg (fun x=>x[0]?) hcl
    simpa[List.getElem?_drop] using this
   have d1:cl.drop (n+1)=cl2:=by rw[←List.drop_drop,hcl];rfl
   have p1:(part f.type ⟨cl⟩ f.offset).run P w= .ok ca w:=by rw[h1];exact qh h3 (by simpa using g1)
   have ih:=xB (em:=em) (d:=d) fs (n+1) ks' l' h4 h6 (by rw[d1];exact hl')
   have hck:(Instr.checkKey em (d+1) f.type ca).run P w= .ok () w:=by
    rcases xu h3 with⟨i,_,hu⟩|⟨_,hu⟩|⟨_,hu⟩<;>simp[Instr.checkKey,Sem.run_bind,run_underlying hu]
   simp only[List.forIn_cons,ne_eq,h2,not_false_eq_true,if_true,Sem.run_bind,p1,Result.andThen_ok,hck,Sem.run_pure]
   exact ih
theorem run_checkKey {t:TypeId} {kk:KK} (hk:rY P t=some kk) {a:AV} {ca:Value} (ha:dn φ a ca) (hf:jD kk a=true) (em:Bool) (d:Nat):(Instr.checkKey em (d+2) t ca).run P w= .ok () w:=by
 unfold rY at hk
 split at hk
 ·rename_i k hk0
  rcases xu hk0 with⟨i,_,hu⟩|⟨_,hu⟩|⟨_,hu⟩<;>simp[Instr.checkKey,Sem.run_bind,run_underlying hu]
 ·split at hk
  ·rename_i ks hs
   cases hk
   obtain⟨fs,hu,s1,s2,s3⟩:=pQ hs
   cases a<;>simp[jD] at hf
   rename_i l
   cases ha with
   |agg hl=>
    rename_i cl
    have:=xB (P:=P) (w:=w) (em:=em) (d:=d) fs.toList 0 ks l s3 hf (by simpa using hl)
    unfold Instr.checkKey
    simp only[Sem.run_bind,run_underlying hu,Result.andThen_ok]
    rw[←Array.forIn_toList]
    exact(congrArg (fun r=>Result.andThen r fun(_:PUnit) w'=>Sem.run P (Pure.pure ():Sem Unit) w') this).trans rfl
  ·cases hk
structure Found (φ:eO) (k:AV) (es:List (AV×AV×Nat)) (cs:List MapEntry) (v:AV) (j:Nat) (e:MapEntry):Prop where
 ce:cs[j]? =some e
 val:dn φ v e.val
 ent:∃k',es[j]? =some (k',v,e.born)∧qJ k k'=some true∧dn φ k' e.key
 set:∀x,sS k x es=es.set j (k,x,e.born)
 del:Bp k es=es.eraseIdx j
theorem Aw {t:TypeId} {kk:KK} (hk:rY P t=some kk) {k:AV} {ck:Value} (ha:dn φ k ck) (hf:jD kk k=true) {td:TypeDesc} (hu:P.underlying t=some td):
 ∀{es:List (AV×AV×Nat)} {cs:List MapEntry},iB φ es cs→∀{r:Option AV},jw k es=some r→∀i0,∃r',(Instr.findAsking t ck cs i0).run P w= .ok r' w∧((∃kl,kk= .leaf kl)→Instr.findNow td ck cs i0=some r')∧
  ((r=none∧r'=none)∨∃v j e,r=some v∧r'=some (i0+j,e.val)∧Found φ k es cs v j e)
 |_,_, .nil,r,he,i0=>by
  simp[jw] at he;subst he
  exact⟨none,by simp[Instr.findAsking],fun _=>by simp[Instr.findNow], .inl ⟨rfl,rfl⟩⟩
 |_,_, .cons (k:=k') (v:=v') (b:=b) (l:=l) (e:=e) (m:=m) hk' hv' hb ht,r,he,i0=>by
  simp only[jw] at he
  split at he
  ·rename_i hkeq
   cases he
   obtain⟨q1,q2,_⟩:=uV (w:=w) hk ha hk' hf hkeq
   refine⟨some (i0,e.val), ?_,fun hl=> ?_, .inr ⟨v',0,e,rfl,rfl,⟨by simp,hv',⟨k',by simp[hb],hkeq,hk'⟩,fun x=>by simp[sS,hkeq,hb],by simp[Bp,hkeq]⟩⟩⟩
   ·simp only[Instr.findAsking,Sem.run_bind,q1,Result.andThen_ok,if_true,Sem.run_pure]
   ·simp only[Instr.findNow,q2 hl td hu]
  ·rename_i hkeq
   obtain⟨q1,q2,_⟩:=uV (w:=w) hk ha hk' hf hkeq
   obtain⟨r',f1,f2,f3⟩:=Aw hk ha hf hu ht he (i0+1)
   refine⟨r', ?_,fun hl=> ?_, ?_⟩
   ·simp only[Instr.findAsking,Sem.run_bind,q1,Result.andThen_ok,Bool.false_eq_true,if_false,f1]
   ·simp only[Instr.findNow,q2 hl td hu,f2 hl]
   ·rcases f3 with h0 |⟨v,j,e2,g1,g2,g3⟩
    ·exact .inl h0
    ·refine .inr ⟨v,j+1,e2,g1,by rw[g2];congr 2;omega, ?_⟩
     obtain⟨k2,z1,z2,z3⟩:=g3.ent
     exact⟨by simpa using g3.ce,g3.val,⟨k2,by simpa using z1,z2,z3⟩,fun x=>by simp[sS,hkeq,g3.set x],by simp[Bp,hkeq,g3.del]⟩
  ·cases he
theorem jJ {t:TypeId} {kk:KK} (hk:rY P t=some kk) {k:AV} {ck:Value} (ha:dn φ k ck) (hf:jD kk k=true) {es:List (AV×AV×Nat)} {cs:List MapEntry} (hr:iB φ es cs) {r:Option AV} (he:jw k es=some r):
 ∃r',(Instr.findKey t ck cs).run P w= .ok r' w∧((r=none∧r'=none)∨∃v j e,r=some v∧r'=some (j,e.val)∧Found φ k es cs v j e):=by
 have hu:∃td,P.underlying t=some td∧((∃kl,kk= .leaf kl)∨∃fs,td= .struct fs):=by
  unfold rY at hk
  split at hk
  ·rename_i k0 hk0
   cases hk
   rcases xu hk0 with⟨i,_,hu⟩|⟨_,hu⟩|⟨_,hu⟩<;>exact⟨_,hu, .inl ⟨_,rfl⟩⟩
  ·split at hk
   ·rename_i ks hs
    cases hk
    obtain⟨fs,hu,_⟩:=pQ hs
    exact⟨_,hu, .inr ⟨fs,rfl⟩⟩
   ·cases hk
 obtain⟨td,hu,hkind⟩:=hu
 obtain⟨r',f1,f2,f3⟩:=Aw (w:=w) hk ha hf hu hr he 0
 refine⟨r', ?_, ?_⟩
 ·unfold Instr.findKey
  simp only[Sem.run_bind,run_underlying hu,Result.andThen_ok]
  rcases hkind with hl |⟨fs,rfl⟩
  ·rw[f2 hl];rfl
  ·cases hr with
   |nil=>
    simp[jw] at he;subst he
    rcases f3 with⟨_,rfl⟩|⟨v,j,e,g1,_⟩
    ·simp[Instr.findNow]
    ·cases g1
   |cons=>
    have:∀(e:MapEntry) (l:List MapEntry),Instr.findNow (.struct fs) ck (e :: l) 0=none:=by
     intro e l
     simp[Instr.findNow,Instr.sameNow]
    rw[this]
    exact f1
 ·rcases f3 with h0 |⟨v,j,e,g1,g2,g3⟩
  ·exact .inl h0
  ·exact .inr ⟨v,j,e,g1,by simpa using g2,g3⟩
theorem iB.set {φ:eO} {l:List (AV×AV×Nat)} {m:List MapEntry} (hr:iB φ l m):∀(j:Nat) {k v:AV} {b:Nat} {e:MapEntry},dn φ k e.key→dn φ v e.val→e.born=b→iB φ (l.set j (k,v,b)) (m.set j e):=by
 induction hr with
 |nil=>intro j k v b e _ _ _;simp;exact .nil
 |cons h1 h2 h3 ht ih=>
  intro j k v b e g1 g2 g3
  cases j with
  |zero=>simp;exact .cons g1 g2 g3 ht
  |succ j=>simp;exact .cons h1 h2 h3 (ih j g1 g2 g3)
theorem iB.eraseIdx {φ:eO} {l:List (AV×AV×Nat)} {m:List MapEntry} (hr:iB φ l m):∀(j:Nat),iB φ (l.eraseIdx j) (m.eraseIdx j):=by
 induction hr with
 |nil=>intro j;simp;exact .nil
 |cons h1 h2 h3 ht ih=>
  intro j
  cases j with
  |zero=>simp;exact ht
  |succ j=>simp;exact .cons h1 h2 h3 (ih j)
theorem iB.append {φ:eO} {l:List (AV×AV×Nat)} {m:List MapEntry} (hr:iB φ l m) {l':List (AV×AV×Nat)} {m':List MapEntry} (hr':iB φ l' m'):iB φ (l++l') (m++m'):=by
 induction hr with
 |nil=>exact hr'
 |cons h1 h2 h3 _ ih=>exact .cons h1 h2 h3 ih
theorem run_setObj_map {r:Nat} {cs:Array MapEntry} {clock:Nat} (o:Obj) (hh:w.heap[r]? =some (.map cs clock)):(setObj r o).run P w= .ok () (w.putObj r o):=by
 unfold setObj
 simp only[Sem.run,hh]
 rfl
theorem Gs (H:dI P B φ h w) {id:Nat} {es es':List (AV×AV×Nat)} {clock clock':Nat} (hget:h.get id=some (.map es clock)) {L:Loc} (hL:φ id 0=some L) {cs':Array MapEntry} (hr:iB φ es' cs'.toList):
 dI P B φ (h.put id (.map es' clock')) (w.putObj L.blk (.map cs' clock'))∧Gw B w (w.putObj L.blk (.map cs' clock')):=by
 obtain⟨L',cs,l1,l2,l3⟩:=H.obj id _ hget
 rw[hL] at l1;cases l1
 have hlt:L.blk<w.heap.size:=H.lt id 0 L hL
 have hB:B≤L.blk:=(H.own id _ 0 L hget hL).1 rfl
 refine⟨H.update hget rfl rfl φ.le_refl (fun _ _ _=>rfl) (fun g K e=> .inl e) (by simp) (fun k _ hk=>World.putObj_heap_other (fun e=>hk 0 L hL e.symm)) (kX.put w (fun ds e=>by cases e)) ⟨L,cs',hL,World.putObj_heap_same hlt,hr⟩, ?_⟩
 exact Gw.of_block l2 hB (fun ds e=>by cases e) (fun r e=>by cases e) (World.putObj_heap_same hlt) (fun _ _ _ e=>by cases e) (fun _ _ _ e=>by cases e) (fun k hk=>World.putObj_heap_other hk) (by simp) rfl rfl rfl
theorem K3 {t kt et:TypeId} {kk:KK} {ok:Bool} {z m k:AV} {cm ck:Value} (H:dI P B φ h w) (hu:P.underlying t=some (.map kt et)) (hk:rY P kt=some kk) (hz:je P et=some z) (hm:dn φ m cm) (hkv:dn φ k ck)
 (he:fC h kk ok z m k=some v):∃cv,(Instr.lookup t cm ck ok).run P w= .ok cv w∧dn φ v cv:=by
 unfold fC at he
 cases hf:jD kk k with
 |false=>rw[hf] at he;cases he
 |true=>
  rw[hf,cond_true] at he
  obtain⟨zv,it,z1,z2,z3,z4⟩:=jI hz w
  have hzr:dn φ z zv:=nC z2
  have main:∀(es:List (AV×AV×Nat)) (cs:Array MapEntry),iB φ es cs.toList→(∀(r:Option (Nat×Value)),(Instr.findKey kt ck cs.toList).run P w= .ok r w→
   (Instr.lookup t cm ck ok).run P w= .ok (match r with |some (_,x)=>if ok then .tuple #[x, .bool true] else x |none=>if ok then .tuple #[zv, .bool false] else zv) w)→
   (match jw k es with |some (some v)=>some (bif ok then AV.tup [v, .bool true] else v)|some none=>some (bif ok then AV.tup [z, .bool false] else z)|none=>none)=some v→
   ∃cv,(Instr.lookup t cm ck ok).run P w= .ok cv w∧dn φ v cv:=by
   intro es cs hr hrun hv
   split at hv
   ·rename_i u hfe
    obtain⟨r',g1,g2⟩:=jJ (w:=w) hk hkv hf hr hfe
    rcases g2 with⟨e,_⟩|⟨v2,j,e,e1,e2,e3⟩
    ·cases e
    ·cases e1
     subst e2
     cases hv
     refine⟨_,hrun _ g1, ?_⟩
     cases ok with
     |true=>exact .tup (.cons e3.val (.cons (.bool _) .nil))
     |false=>exact e3.val
   ·rename_i hfe
    obtain⟨r',g1,g2⟩:=jJ (w:=w) hk hkv hf hr hfe
    rcases g2 with⟨_,rfl⟩|⟨v2,j,e,e1,_⟩
    ·cases hv
     refine⟨_,hrun _ g1, ?_⟩
     cases ok with
     |true=>exact .tup (.cons hzr (.cons (.bool _) .nil))
     |false=>exact hzr
    ·cases e1
   ·cases hv
  have hck:∀em,(Instr.checkKey em 10000 kt ck).run P w= .ok () w:=fun em=>run_checkKey hk hkv hf em 9998
  cases m<;>simp only[mapOf] at he<;>try(cases he;done)
  ·rename_i id
   split at he
   ·rename_i es c hmo
    split at hmo
    ·rename_i es' c' hget
     cases hmo
     cases hm with
     |map hL=>
      obtain⟨L',cs,l1,l2,l3⟩:=H.obj id _ hget
      rw[hL] at l1;cases l1
      refine main es cs l3 (fun r hr=> ?_) he
      unfold Instr.lookup
      simp only[Sem.run_bind,run_underlying hu,Result.andThen_ok,run_getObj_map l2,Sem.run_pure,hck,hr]
      cases r with
      |none=>simp[z1]
      |some x=>simp
    ·rename_i es' c' hget
     cases hmo
     cases hm with
     |map hL=>
      obtain⟨L',cs,l1,l2,l3⟩:=H.obj id _ hget
      rw[hL] at l1;cases l1
      refine main es cs l3 (fun r hr=> ?_) he
      unfold Instr.lookup
      simp only[Sem.run_bind,run_underlying hu,Result.andThen_ok,run_getObj_map l2,Sem.run_pure,hck,hr]
      cases r with
      |none=>simp[z1]
      |some x=>simp
    ·cases hmo
   ·cases he
  ·cases hm
   refine main [] #[] .nil (fun r hr=> ?_) he
   unfold Instr.lookup
   simp only[Sem.run_bind,run_underlying hu,Result.andThen_ok,Sem.run_pure,hck,hr]
   cases r with
   |none=>simp[z1]
   |some x=>simp
theorem Md {t kt et:TypeId} {kk:KK} {m k u:AV} {cm ck cu:Value} (H:dI P B φ h w) (hu:P.underlying t=some (.map kt et)) (hk:rY P kt=some kk) (hm:dn φ m cm) (hkv:dn φ k ck) (huv:dn φ u cu)
 (he:kQ h kk m k u=some h'):WM P B φ h' w ((Instr.mapUpdate t cm ck cu).run P w):=by
 unfold kQ at he
 cases hf:jD kk k with
 |false=>rw[hf] at he;cases he
 |true=>
  rw[hf,cond_true] at he
  have hck:∀em,(Instr.checkKey em 10000 kt ck).run P w= .ok () w:=fun em=>run_checkKey hk hkv hf em 9998
  split at he
  ·rename_i id
   split at he
   ·rename_i es c hget
    cases hm with
    |map hL=>
     rename_i L
     obtain⟨L',cs,l1,l2,l3⟩:=H.obj id _ hget
     rw[hL] at l1;cases l1
     split at he
     ·rename_i v0 hfe
      cases he
      obtain⟨r',g1,g2⟩:=jJ (w:=w) hk hkv hf l3 hfe
      rcases g2 with⟨e,_⟩|⟨v2,j,e,e1,e2,e3⟩
      ·cases e
      ·cases e1
       subst e2
       obtain⟨k',z1,z2,z3⟩:=e3.ent
       have hsb:=(uV (w:=w) hk hkv z3 hf z2).2.2 rfl
       have hce:cs[j]? =some e:=by simpa using e3.ce
       have hstay:(Instr.keyThatStays (((cs[j]?).map (·.key)).getD ck) ck).run P w= .ok ck w:=by
        simp[hce,Instr.keyThatStays,hsb]
       have hmod:(cs.modify j fun e=>{e with key:=ck,val:=cu}).toList=cs.toList.set j {e with key:=ck,val:=cu}:=by
        apply List.ext_getElem?
        intro i
        rw[List.getElem?_set]
        by_cases hij:j=i
        ·subst hij
         have hlt:j<cs.toList.length:=by simpa using(Array.getElem?_eq_some_iff.1 hce).1
         rw[if_pos rfl,if_pos hlt,Array.getElem?_toList,Array.getElem?_modify,if_pos rfl,hce]
         rfl
        ·rw[if_neg hij,Array.getElem?_toList,Array.getElem?_modify,if_neg hij,Array.getElem?_toList]
       have hrel:iB φ (sS k u es) (cs.modify j fun e=>{e with key:=ck,val:=cu}).toList:=by
        rw[hmod,e3.set u]
        exact l3.set j hkv huv rfl
       obtain⟨m1,m2⟩:=Gs (clock':=c) H hget hL hrel
       refine⟨_,φ, ?_,m1,φ.le_refl,m2⟩
       unfold Instr.mapUpdate
       simp only[Sem.run_bind,run_underlying hu,Result.andThen_ok,run_getObj_map l2,hck,g1,hstay,run_setObj_map _ l2]
     ·rename_i hfe
      cases he
      obtain⟨r',g1,g2⟩:=jJ (w:=w) hk hkv hf l3 hfe
      rcases g2 with⟨_,rfl⟩|⟨v2,j,e,e1,_⟩
      ·have hrel:iB φ (es++[(k,u,c)]) (cs.push {key:=ck,val:=cu,born:=c}).toList:=by
        rw[Array.toList_push]
        exact l3.append (.cons hkv huv rfl .nil)
       obtain⟨m1,m2⟩:=Gs (clock':=c+1) H hget hL hrel
       refine⟨_,φ, ?_,m1,φ.le_refl,m2⟩
       unfold Instr.mapUpdate
       simp only[Sem.run_bind,run_underlying hu,Result.andThen_ok,run_getObj_map l2,hck,g1,run_setObj_map _ l2]
      ·cases e1
     ·cases he
   ·cases he
  ·cases he
theorem I6 {L:Nat} {o:Obj} (hh:w.heap[L]? =some o):w.putObj L o=w:=by
 unfold World.putObj
 obtain⟨hlt,hv⟩:=Array.getElem?_eq_some_iff.1 hh
 cases w with
 |mk heap tape drawn os output=>
  congr 1
  apply Array.ext_getElem?
  intro i
  by_cases hi:L=i
  ·subst hi
   simp only at hh hlt ⊢
   rw[hh];simp[hlt]
  ·exact Array.getElem?_setIfInBounds_ne hi
theorem PU {t kt et ty t2:TypeId} {kk:KK} {m k:AV} {cm ck:Value} (H:dI P B φ h w) (hu:P.underlying t=some (.map kt et)) (hk:rY P kt=some kk) (hm:dn φ m cm) (hkv:dn φ k ck)
 (he:Dm h kk m k=some h'):∃w',(Builtin.delete_ #[t,t2] ty #[cm,ck]).run P w= .ok (.tuple #[]) w'∧dI P B φ h' w'∧Gw B w w':=by
 unfold Dm at he
 cases hf:jD kk k with
 |false=>rw[hf] at he;cases he
 |true=>
  rw[hf,cond_true] at he
  have hck:∀em,(Instr.checkKey em 10000 kt ck).run P w= .ok () w:=fun em=>run_checkKey hk hkv hf em 9998
  split at he
  ·cases he;cases hm
   refine⟨w, ?_,H,Gw.refl B w⟩
   simp only[Builtin.delete_,List.getElem?_toArray,List.getElem?_cons_zero,List.getElem?_cons_succ,Sem.run_bind,run_underlying hu,Result.andThen_ok,hck,Sem.run_pure]
  ·rename_i id
   split at he
   ·rename_i es c hget
    cases hm with
    |map hL=>
     rename_i L
     obtain⟨L',cs,l1,l2,l3⟩:=H.obj id _ hget
     rw[hL] at l1;cases l1
     split at he
     ·rename_i v0 hfe
      cases he
      obtain⟨r',g1,g2⟩:=jJ (w:=w) hk hkv hf l3 hfe
      rcases g2 with⟨e,_⟩|⟨v2,j,e,e1,e2,e3⟩
      ·cases e
      ·cases e1
       subst e2
       have hce:cs[j]? =some e:=by simpa using e3.ce
       have hlt:j<cs.size:=(Array.getElem?_eq_some_iff.1 hce).1
       have hrel:iB φ (Bp k es) (cs.eraseIdxIfInBounds j).toList:=by
        rw[e3.del]
        have:(cs.eraseIdxIfInBounds j).toList=cs.toList.eraseIdx j:=by
         rw[Array.eraseIdxIfInBounds,dif_pos hlt];simp
        rw[this]
        exact l3.eraseIdx j
       obtain⟨m1,m2⟩:=Gs (clock':=c) H hget hL hrel
       refine⟨_, ?_,m1,m2⟩
       simp only[Builtin.delete_,List.getElem?_toArray,List.getElem?_cons_zero,List.getElem?_cons_succ,Sem.run_bind,run_underlying hu,Result.andThen_ok,run_getObj_map l2,hck,g1,run_setObj_map _ l2,Sem.run_pure]
     ·rename_i hfe
      cases he
      obtain⟨r',g1,g2⟩:=jJ (w:=w) hk hkv hf l3 hfe
      rcases g2 with⟨_,rfl⟩|⟨v2,j,e,e1,_⟩
      ·refine⟨w, ?_,H,Gw.refl B w⟩
       simp only[Builtin.delete_,List.getElem?_toArray,List.getElem?_cons_zero,List.getElem?_cons_succ,Sem.run_bind,run_underlying hu,Result.andThen_ok,run_getObj_map l2,hck,g1,run_setObj_map _ l2,Sem.run_pure,I6 l2]
      ·cases e1
     ·cases he
   ·cases he
  ·cases he
end
section
variable {P:Program} {B:Base} {φ:eO} {h h':aj} {w:World} {v:AV}
theorem DL {id:Nat} {r:Row} (H:dI P B φ h w) (hr:h.row id=some r) (hrw:r.rw=true) {L:Loc} (hL:φ id r.g=some L):∃c t,w.heap[L.blk]? =some (.cells c t (0,0)):=by
 have hrow:iC φ id r w:=H.obj id _ (aj.row_some.1 hr)
 obtain⟨_,c,t,h1,_⟩:=hrow.own hrw r.g L hrow.mg hL
 exact⟨c,t,h1⟩
theorem vX {a b:Addr} {c d:Array Value} {t u:TypeId} (ha:w.heap[a.block]? =some (.cells c t (0,0))) (hb:w.heap[b.block]? =some (.cells d u (0,0))) (hne:a.block≠b.block):(sameAddr a b).run P w= .ok false w:=by
 have hne':(a.block==b.block)=false:=by simp[hne]
 have f1:∀o,w.frozen? ⟨a.block,o,none⟩=false:=fun o=>by simp[World.frozen?,ha]
 have f2:∀o,w.frozen? ⟨b.block,o,none⟩=false:=fun o=>by simp[World.frozen?,hb]
 have g1:w.frozen? a=false:=by simp[World.frozen?,ha]
 have g2:w.frozen? b=false:=by simp[World.frozen?,hb]
 have s1:w.shape? a.block=some (t,c.size):=by simp[World.shape?,ha]
 have s2:w.shape? b.block=some (u,d.size):=by simp[World.shape?,hb]
 simp[sameAddr,hne',Sem.run_bind,g1,g2,noView,viewAt,s1,s2,mayBeOne,stringish,f1,f2]
theorem RL {t:TypeId} {cx cy:Value} {s:Sem Bool} (hh:∀d,(Op.equalIn (d+1) t cx cy).run P w=s.run P w):(Op.equal t cx cy).run P w=s.run P w:=hh 9999
theorem iX {t:TypeId} {cx cy:Value} {r:Bool} (hh:∀d,(Op.equalIn (d+1) t cx cy).run P w= .ok r w):(Op.equal t cx cy).run P w= .ok r w:=hh 9999
theorem jS {op:BinOp} {neg:Bool} (hop:(op= .eql∧neg=false)∨(op= .neq∧neg=true)) {t:TypeId} {cx cy:Value} {r:Bool} (ox oy:Operand) (hg:(eqGuard op t ox oy cx cy).run P w= .ok () w)
 (h1:∀(k:IntKind) (n:Int),cx≠ .int k n) (h2:∀k n,cx≠ .float k n) (h3:∀k a b,cx≠ .complex k a b) (h4:∀s,cx≠ .string s) (he:(Op.equal t cx cy).run P w= .ok r w):
 (do eqGuard op t ox oy cx cy;binOp op t cx cy:Sem Value).run P w= .ok (.bool (bif neg then !r else r)) w:=by
 have hb1:binOp .eql t cx cy=(do Pure.pure (.bool (←Op.equal t cx cy))):=by
  cases cx<;>first |rfl |exact absurd rfl (h1 _ _)|exact absurd rfl (h2 _ _)|exact absurd rfl (h3 _ _ _)|exact absurd rfl (h4 _)
 have hb2:binOp .neq t cx cy=(do Pure.pure (.bool (!(←Op.equal t cx cy)))):=by
  cases cx<;>first |rfl |exact absurd rfl (h1 _ _)|exact absurd rfl (h2 _ _)|exact absurd rfl (h3 _ _ _)|exact absurd rfl (h4 _)
 rcases hop with⟨rfl,rfl⟩|⟨rfl,rfl⟩
 ·simp[Sem.run_bind,hg,hb1,he]
 ·simp[Sem.run_bind,hg,hb2,he]
theorem gK {op:BinOp} {t:TypeId} {cx cy:Value} (ox oy:Operand) (h1:∀a,cx≠ .agg a) (h2:cx≠ .nilIface):(eqGuard op t ox oy cx cy).run P w= .ok () w:=by
 unfold eqGuard
 cases op<;>simp
 all_goals
  cases cx<;>first |rfl |exact absurd rfl (h1 _)|exact absurd rfl h2
theorem IY {t e:TypeId} {n:Nat} {x y:AV} {cx cy:Value} (H:dI P B φ h w) (hu:P.underlying t=some (.pointer e)) (hs:sizeT P e=some (n+1)) (hx:dn φ x cx) (hy:dn φ y cy) {r:Bool} (he:Qr h x y=some r):
 (Op.equal t cx cy).run P w= .ok r w∧∃p,cx= .pointer p:=by
 unfold Qr at he
 split at he
 ·cases he;cases hx;cases hy
  exact⟨iX fun d=>by simp[Op.equalIn,run_underlying hu],_,rfl⟩
 ·cases he;cases hx;cases hy
  exact⟨iX fun d=>by simp[Op.equalIn,run_underlying hu],_,rfl⟩
 ·cases he;cases hx;cases hy
  exact⟨iX fun d=>by simp[Op.equalIn,run_underlying hu],_,rfl⟩
 ·rename_i id g i o id' g' i' o'
  cases hx with
  |ptr hL hi=>
   rename_i L
   cases hy with
   |ptr hL' hi'=>
    rename_i L'
    refine⟨?_,_,rfl⟩
    have hred:(Op.equal t (.pointer (some ⟨L.blk,L.base+i*L.sz+o,none⟩)) (.pointer (some ⟨L'.blk,L'.base+i'*L'.sz+o',none⟩))).run P w=(sameAddr ⟨L.blk,L.base+i*L.sz+o,none⟩ ⟨L'.blk,L'.base+i'*L'.sz+o',none⟩).run P w:=
     RL fun d=>by simp[Op.equalIn,run_underlying hu,fK hs]
    rw[hred]
    cases hid:Nat.beq id id' with
    |true=>
     rw[hid,cond_true] at he
     have:=bJ.1 hid;subst this
     split at he
     ·rename_i rw hrow
      cases hc:(Nat.beq g rw.g&&Nat.beq g' rw.g&&Nat.blt o rw.sz&&Nat.blt o' rw.sz) with
      |false=>rw[hc] at he;cases he
      |true=>
       rw[hc,cond_true] at he;cases he
       simp only[Bool.and_eq_true,bJ,dL] at hc
       obtain⟨⟨⟨rfl,rfl⟩,c3⟩,c4⟩:=hc
       rw[hL] at hL';cases hL'
       have hr:iC φ id rw w:=H.obj id _ (aj.row_some.1 hrow)
       have hsz:L.sz=rw.sz:=(hr.gen _ L hL).2
       have hbb:(L.blk==L.blk)=true:=by simp
       simp only[sameAddr,hbb,if_true,Sem.run_pure]
       congr 1
       rw[Bool.eq_iff_iff]
       simp only[beq_iff_eq,Addr.mk.injEq,true_and,and_true,Bool.and_eq_true,bJ,hsz]
       constructor
       ·intro e
        have e2:i*rw.sz+o=i'*rw.sz+o':=by omega
        have d1:(i*rw.sz+o)/rw.sz=i:=by rw[Nat.mul_comm,Nat.mul_add_div hr.sz,Nat.div_eq_of_lt c3,Nat.add_zero]
        have d2:(i'*rw.sz+o')/rw.sz=i':=by rw[Nat.mul_comm,Nat.mul_add_div hr.sz,Nat.div_eq_of_lt c4,Nat.add_zero]
        have:i=i':=by rw[←d1, ←d2,e2]
        subst this
        exact⟨rfl,by omega⟩
       ·rintro⟨rfl,rfl⟩;rfl
     ·cases he
    |false=>
     rw[hid,cond_false] at he
     have hid:=fO.1 hid
     split at he
     ·rename_i r1 r2 hr1 hr2
      cases hc:(r1.rw&&r2.rw&&Nat.beq g r1.g&&Nat.beq g' r2.g) with
      |false=>rw[hc] at he;cases he
      |true=>
       rw[hc,cond_true] at he;cases he
       simp only[Bool.and_eq_true,bJ] at hc
       obtain⟨⟨⟨c1,c2⟩,rfl⟩,rfl⟩:=hc
       obtain⟨c,tt,q1⟩:=DL H hr1 c1 hL
       obtain⟨d,uu,q2⟩:=DL H hr2 c2 hL'
       exact vX q1 q2 (fun e=>hid (H.disj id _ id' _ _ L L' (aj.row_some.1 hr1) c1 hL hL' e))
     ·cases he
 ·cases he
theorem Jv {op:BinOp} {neg:Bool} (hop:(op= .eql∧neg=false)∨(op= .neq∧neg=true)) {t:TypeId} {k:Vp} {x y:AV} {cx cy:Value} (H:dI P B φ h w) (hk:DN P t=some k) (hx:dn φ x cx) (hy:dn φ y cy) {r:Bool} (he:TN h k x y=some r) (ox oy:Operand):
 (do eqGuard op t ox oy cx cy;binOp op t cx cy:Sem Value).run P w= .ok (.bool (bif neg then !r else r)) w:=by
 unfold DN at hk
 split at hk
 ·rename_i hu
  cases hk
  simp only[TN,QW] at he
  split at he
  ·cases he;cases hx;cases hy
   exact jS hop ox oy (gK ox oy (by simp) (by simp)) (by simp) (by simp) (by simp) (by simp) (run_equal_bool w t _ _ hu)
  ·cases he
 ·rename_i e hu
  split at hk
  ·rename_i n hs
   cases hk
   simp only[TN] at he
   obtain⟨h1,p,rfl⟩:=IY H hu hs hx hy he
   exact jS hop ox oy (gK ox oy (by simp) (by simp)) (by simp) (by simp) (by simp) (by simp) h1
  ·cases hk
 ·rename_i e hu
  cases hk
  simp only[TN,Vi] at he
  split at he
  ·cases he;cases hx;cases hy
   exact jS hop ox oy (gK ox oy (by simp) (by simp)) (by simp) (by simp) (by simp) (by simp) (iX fun d=>by simp[Op.equalIn,run_underlying hu])
  ·cases he;cases hx;cases hy
   exact jS hop ox oy (gK ox oy (by simp) (by simp)) (by simp) (by simp) (by simp) (by simp) (iX fun d=>by simp[Op.equalIn,run_underlying hu])
  ·cases he;cases hx;cases hy
   exact jS hop ox oy (gK ox oy (by simp) (by simp)) (by simp) (by simp) (by simp) (by simp) (iX fun d=>by simp[Op.equalIn,run_underlying hu])
  ·cases he;cases hx;cases hy
   exact jS hop ox oy (gK ox oy (by simp) (by simp)) (by simp) (by simp) (by simp) (by simp) (iX fun d=>by simp[Op.equalIn,run_underlying hu])
  ·cases he;cases hx;cases hy
   exact jS hop ox oy (gK ox oy (by simp) (by simp)) (by simp) (by simp) (by simp) (by simp) (iX fun d=>by simp[Op.equalIn,run_underlying hu])
  ·cases he
 ·rename_i e f hu
  cases hk
  simp only[TN,Vz] at he
  split at he
  ·cases he;cases hx;cases hy
   exact jS hop ox oy (gK ox oy (by simp) (by simp)) (by simp) (by simp) (by simp) (by simp) (iX fun d=>by simp[Op.equalIn,run_underlying hu])
  ·cases he;cases hx;cases hy
   exact jS hop ox oy (gK ox oy (by simp) (by simp)) (by simp) (by simp) (by simp) (by simp) (iX fun d=>by simp[Op.equalIn,run_underlying hu])
  ·cases he;cases hx;cases hy
   exact jS hop ox oy (gK ox oy (by simp) (by simp)) (by simp) (by simp) (by simp) (by simp) (iX fun d=>by simp[Op.equalIn,run_underlying hu])
  ·cases he
 ·rename_i e f g hu
  cases hk
  simp only[TN,eqFn] at he
  split at he
  ·cases he;cases hx;cases hy
   exact jS hop ox oy (gK ox oy (by simp) (by simp)) (by simp) (by simp) (by simp) (by simp) (iX fun d=>by simp[Op.equalIn,run_underlying hu])
  ·cases he;cases hy
   cases hx<;>exact jS hop ox oy (gK ox oy (by simp) (by simp)) (by simp) (by simp) (by simp) (by simp) (iX fun d=>by simp[Op.equalIn,run_underlying hu])
  ·cases he;cases hx
   cases hy<;>exact jS hop ox oy (gK ox oy (by simp) (by simp)) (by simp) (by simp) (by simp) (by simp) (iX fun d=>by simp[Op.equalIn,run_underlying hu])
  ·cases he
 ·rename_i fs hu
  split at hk
  ·rename_i ks hs
   cases hk
   obtain⟨fs',hu',s1,s2,s3⟩:=pQ hs
   simp only[TN,VD] at he
   split at he
   ·rename_i l m
    cases hf:qW ks l with
    |false=>rw[hf] at he;cases he
    |true=>
     rw[hf,cond_true] at he
     have hkk:rY P t=some (.st ks):=by
      unfold rY
      have:Du P t=none:=by unfold Du;rw[hu]
      rw[this,hs]
     have:=(uV (w:=w) hkk hx hy (by simpa[jD] using hf) (by simpa[qJ] using he)).1
     cases hx;cases hy
     exact jS hop ox oy (run_eqGuard_agg w _ _ _ _ _ _ s2) (by simp) (by simp) (by simp) (by simp) this
   ·cases he
  ·cases hk
 ·cases hk
theorem PO {t kt et:TypeId} {x:AV} {cx:Value} (H:dI P B φ h w) (hu:P.underlying t=some (.map kt et)) (hx:dn φ x cx) (he:U9 h x=some (v,h')):jU P B φ h' v w ((Instr.range t cx).run P w):=by
 unfold U9 at he
 split at he
 ·cases he;cases hx
  have hle:=eO.le_add (φ:=φ) (id:=h.sz) (g:=0) ⟨w.heap.size,0,0,0,0⟩ (H.fresh 0)
  have hp:=H.push (o:= .iter none 0 [] 0) rfl (L:=⟨w.heap.size,0,0,0,0⟩) (ob:= .mapIter none 0 #[] 0) rfl (fun ds e=>by cases e) ⟨_,eO.add_same _ _ _ _,none,heap_alloc_new w _,rfl⟩
  exact⟨_,_,_,by simp[Instr.range,run_underlying hu], .itr (eO.add_same _ _ _ _),hp,hle,Gw.alloc H.base (fun _ _ _ e=>by cases e)⟩
 ·rename_i id
  split at he
  ·rename_i es c hget
   cases he
   cases hx with
   |map hL=>
    rename_i L
    obtain⟨L',cs,l1,l2,l3⟩:=H.obj id _ hget
    rw[hL] at l1;cases l1
    have hle:=eO.le_add (φ:=φ) (id:=h.sz) (g:=0) ⟨w.heap.size,0,0,0,0⟩ (H.fresh 0)
    have hp:=H.push (o:= .iter (some id) c [] c) rfl (L:=⟨w.heap.size,0,0,0,0⟩) (ob:= .mapIter (some L.blk) c #[] c) rfl (fun ds e=>by cases e) ⟨_,eO.add_same _ _ _ _,some L.blk,heap_alloc_new w _,⟨L,hle _ _ _ hL,rfl⟩⟩
    exact⟨_,_,_,by simp[Instr.range,run_underlying hu,run_getObj_map l2], .itr (eO.add_same _ _ _ _),hp,hle,Gw.alloc H.base (fun _ _ _ e=>by cases e)⟩
  ·cases he
 ·cases he
theorem nY {r:Nat} {m:Option Nat} {s:Nat} {seen:Array Nat} {st:Nat} (hh:w.heap[r]? =some (.mapIter m s seen st)):(getObj r).run P w= .ok (.mapIter m s seen st) w:=by
 unfold getObj
 simp only[Sem.run,hh]
theorem tL {b:Nat}:∀{es:List (AV×AV×Nat)} {cs:List MapEntry},iB φ es cs→∀{e:AV×AV×Nat},sM b es=some e→∃ce,cs.find? (·.born==b)=some ce∧dn φ e.1 ce.key∧dn φ e.2.1 ce.val∧ce.born=e.2.2
 |_,_, .nil,e,he=>by simp[sM] at he
 |_,_, .cons (b:=b') (e:=ce) hk hv hb ht,e,he=>by
  simp only[sM] at he
  cases hc:Nat.beq b' b with
  |true=>
   rw[hc,cond_true] at he;cases he
   have:=bJ.1 hc;subst this
   exact⟨ce,by simp[List.find?,hb],hk,hv,hb⟩
  |false=>
   rw[hc,cond_false] at he
   obtain⟨ce',h1,h2⟩:=tL ht he
   refine⟨ce', ?_,h2⟩
   have:(ce.born==b)=false:=by rw[hb];simpa using fO.1 hc
   simp[List.find?,this,h1]
theorem Pm {x:AV} {cx:Value} (H:dI P B φ h w) (hx:dn φ x cx) (he:U4 h x=some v):∃cv,(Instr.entry cx).run P w= .ok cv w∧dn φ v cv:=by
 unfold U4 at he
 split at he
 ·rename_i id
  split at he
  ·rename_i m since b seen stepped hget
   split at he
   ·rename_i es clock hgm
    cases hc:Nat.beq clock stepped with
    |false=>rw[hc] at he;cases he
    |true=>
     rw[hc,cond_true] at he
     have:=bJ.1 hc;subst this
     split at he
     ·rename_i e hfb
      cases he
      cases hx with
      |itr hL=>
       rename_i L
       obtain⟨L',l1,cm,l2,l3⟩:=H.obj id _ hget
       rw[hL] at l1;cases l1
       obtain⟨Lm,l4,rfl⟩:=l3
       obtain⟨Lm',cs,m1,m2,m3⟩:=H.obj m _ hgm
       rw[l4] at m1;cases m1
       obtain⟨ce,f1,f2,f3,f4⟩:=tL m3 hfb
       refine⟨.tuple #[ce.key,ce.val], ?_, .tup (.cons f2 (.cons f3 .nil))⟩
       have hb:(b :: seen).reverse.toArray.back? =some b:=by simp
       have hf:cs.find? (·.born==b)=some ce:=by rw[←Array.find?_toList];exact f1
       unfold Instr.entry
       simp only[Sem.run_bind,nY l2,Result.andThen_ok,hb,run_getObj_map m2]
       simp[hf]
     ·cases he
   ·cases he
  ·cases he
 ·cases he
theorem iB.filter {φ:eO} {l:List (AV×AV×Nat)} {m:List MapEntry} (hr:iB φ l m) (p:Nat→Bool):iB φ (l.filter fun e=>p e.2.2) (m.filter fun e=>p e.born):=by
 induction hr with
 |nil=>exact .nil
 |cons h1 h2 h3 ht ih=>
  rename_i b _ e _
  simp only[List.filter_cons,h3]
  split
  ·exact .cons h1 h2 h3 ih
  ·exact ih
theorem iB.get {φ:eO} {l:List (AV×AV×Nat)} {m:List MapEntry} (hr:iB φ l m):∀{j:Nat} {e:MapEntry},m[j]? =some e→∃k v,l[j]? =some (k,v,e.born)∧dn φ k e.key∧dn φ v e.val:=by
 induction hr with
 |nil=>intro j e he;simp at he
 |cons h1 h2 h3 ht ih=>
  intro j e he
  cases j with
  |zero=>simp at he;subst he;exact⟨_,_,by simp[h3],h1,h2⟩
  |succ j=>simp at he;obtain⟨k,v,a,b⟩:=ih he;exact⟨k,v,by simpa using a,b⟩
theorem Ng (n:Nat):∀l:List Nat,nI n l=l.contains n
 | []=>rfl
 |m :: l=>by
  simp only[nI,List.contains_cons,Ng n l]
  cases hc:Nat.beq n m with
  |true=>have:=bJ.1 hc;subst this;simp
  |false=>have:=fO.1 hc;simp[this]
theorem Gi (a b:Nat):Nat.blt a b=decide (a<b):=by rw[Bool.eq_iff_iff,dL];simp
theorem K9 {ty:TypeId} {x:AV} {cx:Value} {K:aC} (H:dI P B φ h w) (hx:dn φ x cx) (hn:AZ h x K=true):∃v h',K v h'=true∧jU P B φ h' v w ((Instr.next cx false ty).run P w):=by
 unfold AZ at hn
 split at hn
 ·rename_i id
  split at hn
  ·rename_i s1 s2 s3 hget
   cases hx with
   |itr hL=>
    rename_i L
    obtain⟨L',l1,cm,l2,l3⟩:=H.obj id _ hget
    rw[hL] at l1;cases l1
    subst l3
    refine⟨_,_,hn,jU.pure H (cv:= .tuple #[.bool false]) ?_ (.tup (.cons (.bool _) .nil))⟩
    simp[Instr.next,Sem.run_bind,nY l2]
  ·rename_i m since seen last hget
   split at hn
   ·rename_i es clock hgm
    cases hx with
    |itr hL=>
     rename_i L
     obtain⟨L',l1,cm,l2,l3⟩:=H.obj id _ hget
     rw[hL] at l1;cases l1
     obtain⟨Lm,l4,rfl⟩:=l3
     obtain⟨Lm',cs,m1,m2,m3⟩:=H.obj m _ hgm
     rw[l4] at m1;cases m1
     have hlen:=m3.length
     simp only[Array.length_toList] at hlen
     cases hc:(!seen.isEmpty&& !es.isEmpty&&es.all (fun e=> !Nat.blt e.2.2 last)) with
     |true=>rw[hc] at hn;cases hn
     |false=>
      rw[hc,cond_false] at hn
      have hcond:(!(seen.reverse.toArray).isEmpty&& !cs.isEmpty&&cs.all (fun e=>decide (e.born≥last)))=false:=by
       have e1:(seen.reverse.toArray).isEmpty=seen.isEmpty:=by cases seen<;>simp
       have e2:cs.isEmpty=es.isEmpty:=by
        rw[Bool.eq_iff_iff,Array.isEmpty_iff_size_eq_zero,List.isEmpty_iff_length_eq_zero,hlen]
       have e3:cs.all (fun e=>decide (e.born≥last))=es.all (fun e=> !Nat.blt e.2.2 last):=by
        rw[←Array.all_toList]
        have gen:∀{l:List (AV×AV×Nat)} {mm:List MapEntry},iB φ l mm→mm.all (fun e=>decide (e.born≥last))=l.all (fun e=> !Nat.blt e.2.2 last):=by
         intro l mm hh
         induction hh with
         |nil=>rfl
         |cons h1 h2 h3 _ ih=>
          simp only[List.all_cons,ih,h3]
          congr 1
          rw[Gi,Bool.eq_iff_iff];simp
        exact gen m3
       rw[e1,e2,e3];exact hc
      have hleft:=m3.filter (fun b=> !nI b seen)
      have hold:=hleft.filter (fun b=>Nat.blt b since)
      have hnew:=hleft.filter (fun b=> !Nat.blt b since)
      have c1:(cs.filter fun e=> !(seen.reverse.toArray).contains e.born).toList=cs.toList.filter (fun e=> !nI e.born seen):=by
       rw[Array.toList_filter]
       congr 1
       funext e
       rw[Ng]
       simp
      have c2:((cs.filter fun e=> !(seen.reverse.toArray).contains e.born).filter (fun e=>decide (e.born<since))).toList=(cs.toList.filter (fun e=> !nI e.born seen)).filter (fun e=>Nat.blt e.born since):=by
       rw[Array.toList_filter,c1]
       congr 1
       funext e
       rw[Gi]
      have c3:((cs.filter fun e=> !(seen.reverse.toArray).contains e.born).filter (fun e=>decide (e.born≥since))).toList=(cs.toList.filter (fun e=> !nI e.born seen)).filter (fun e=> !Nat.blt e.born since):=by
       rw[Array.toList_filter,c1]
       congr 1
       funext e
       rw[Gi]
       rw[Bool.eq_iff_iff];simp
      generalize hO:((cs.filter fun e=> !(seen.reverse.toArray).contains e.born).filter (fun e=>decide (e.born<since)))=O at c2
      generalize hN:((cs.filter fun e=> !(seen.reverse.toArray).contains e.born).filter (fun e=>decide (e.born≥since)))=N at c3
      rw[←c2] at hold
      rw[←c3] at hnew
      generalize hCd:(if O.isEmpty then #[none] else #[])++(O++N).map some=Cd
      have hCdl:Cd.toList=(if O.toList=[] then [none] else [])++(O.toList++N.toList).map some:=by
       rw[←hCd]
       by_cases hO0:O= #[]
       ·subst hO0;simp
       ·have:O.toList≠[]:=by simpa using hO0
        simp[this,hO0]
      have hpos:0<Cd.size:=by
       have hl:Cd.size=Cd.toList.length:=by simp
       rw[hl,hCdl]
       by_cases hO0:O.toList=[]
       ·simp[hO0]
       ·have:=List.length_pos_iff.2 hO0
        simp[hO0];simp at this;omega
      have hdraw:∃i w1,i<Cd.size∧(choose (.mapNext Cd.size)).run P w= .ok i w1∧w1.heap=w.heap∧Gw B w w1:=by
       by_cases hf:(Question.mapNext Cd.size).forced=true
       ·exact⟨0,w,hpos,by simp[choose,Sem.run,hf],rfl,Gw.refl B w⟩
       ·exact⟨_,w.drew,Nat.mod_lt (w.tape w.drawn (.mapNext Cd.size)) hpos,by simp[choose,Sem.run,hf,Question.cut],rfl,Gw.drew B w⟩
      obtain⟨i,w1,hi,hch,hw1,hgw⟩:=hdraw
      have H1:=H.heap hw1
      have hget:∃c,Cd.toList[i]? =some c:=⟨_,List.getElem?_eq_getElem (by simpa using hi)⟩
      obtain⟨c,hcget⟩:=hget
      have hcget':Cd[i]? =some c:=by simpa using hcget
      have habs:∀cand,cand∈Dv es since seen→(match cand with |none=>K (.tup [.bool false]) h |some e=>K (.tup [.bool true,e.1,e.2.1]) (h.put id (.iter (some m) since (e.2.2 :: seen) clock)))=true:=by
       intro cand hmem
       have:=List.all_eq_true.1 hn cand hmem
       cases cand<;>exact this
      have hrunto:∀(rest:Option (Option MapEntry)→Sem Value),(Instr.next (.pointer (some ⟨L.blk,0,none⟩)) false ty).run P w=(match Cd[i]? with
       |some (some e)=>(do setObj L.blk (.mapIter (some Lm.blk) since ((seen.reverse.toArray).push e.born) clock);Pure.pure (.tuple #[.bool true,e.key,e.val]):Sem Value).run P w1
       |some none=> .ok (.tuple #[.bool false]) w1
       |none=>(stuck "Next: no such candidate" :Sem Value).run P w1):=by
       intro _
       unfold Instr.next
       simp only[Sem.run_bind,nY l2,Result.andThen_ok,run_getObj_map m2,hcond,Bool.false_eq_true,if_false]
       rw[hO,hN,hCd,hch]
       simp only[Result.andThen_ok]
       cases Cd[i]? with
       |none=>rfl
       |some o=>
        cases o with
        |none=>rfl
        |some e=>simp only[Sem.run_bind]
      have hrun:=hrunto (fun _=>stuck "")
      rw[hcget'] at hrun
      cases c with
      |none=>
       have hmem:none∈Dv es since seen:=by
        have:(none:Option MapEntry)∈Cd.toList:=List.mem_of_getElem? hcget
        rw[hCdl] at this
        have hO0:O.toList=[]:=by
         rcases List.mem_append.1 this with h1 |h1
         ·by_cases hO0:O.toList=[]
          ·exact hO0
          ·simp[hO0] at h1
         ·simp at h1
        have:((es.filter fun e=> !nI e.2.2 seen).filter fun e=>Nat.blt e.2.2 since)=[]:=by
         have:=hold.length
         rw[hO0] at this
         exact List.length_eq_zero_iff.1 this
        unfold Dv
        simp only[this]
        simp
       exact⟨_,_,habs none hmem,_,w1,φ,hrun, .tup (.cons (.bool _) .nil),H1,φ.le_refl,hgw⟩
      |some e=>
       have hmem:∃k u,(some (k,u,e.born))∈Dv es since seen∧dn φ k e.key∧dn φ u e.val:=by
        have:(some e:Option MapEntry)∈Cd.toList:=List.mem_of_getElem? hcget
        rw[hCdl] at this
        have hin:e∈O.toList++N.toList:=by
         rcases List.mem_append.1 this with h1 |h1
         ·by_cases hO0:O.toList=[]
          ·simp[hO0] at h1
          ·simp[hO0] at h1
         ·simpa using h1
        have hcat:=hold.append hnew
        obtain⟨j,hj⟩:=List.getElem?_of_mem hin
        obtain⟨k,u,g1,g2,g3⟩:=hcat.get hj
        refine⟨k,u, ?_,g2,g3⟩
        unfold Dv
        exact List.mem_append_right _ (List.mem_map.2 ⟨_,List.mem_of_getElem? g1,rfl⟩)
       obtain⟨k,u,g1,g2,g3⟩:=hmem
       have hk:=habs _ g1
       have hblk:L.blk<w1.heap.size:=H1.lt id 0 L hL
       have l2':w1.heap[L.blk]? =some (.mapIter (some Lm.blk) since seen.reverse.toArray last):=by rw[hw1];exact l2
       have hset:(setObj L.blk (.mapIter (some Lm.blk) since ((seen.reverse.toArray).push e.born) clock)).run P w1= .ok () (w1.putObj L.blk (.mapIter (some Lm.blk) since ((seen.reverse.toArray).push e.born) clock)):=by
        unfold setObj
        simp only[Sem.run,l2']
        rfl
       have hB:B≤L.blk:=(H.own id _ 0 L hget hL).1 rfl
       have hseen:((seen.reverse.toArray).push e.born)=(e.born :: seen).reverse.toArray:=by
        apply Array.ext';simp
       have hobj:uY P φ id (.iter (some m) since (e.born :: seen) clock) (w1.putObj L.blk (.mapIter (some Lm.blk) since ((seen.reverse.toArray).push e.born) clock)):=
        ⟨L,hL,some Lm.blk,by rw[←hseen];exact World.putObj_heap_same hblk,⟨Lm,l4,rfl⟩⟩
       refine⟨_,_,hk, .tuple #[.bool true,e.key,e.val],w1.putObj L.blk (.mapIter (some Lm.blk) since ((seen.reverse.toArray).push e.born) clock),φ,hrun.trans (by simp only[Sem.run_bind,hset,Result.andThen_ok,Sem.run_pure]), .tup (.cons (.bool _) (.cons g2 (.cons g3 .nil))), ?_,φ.le_refl,hgw.trans ?_⟩
       ·exact H1.update hget rfl rfl φ.le_refl (fun _ _ _=>rfl) (fun g K' e'=> .inl e') (by simp) (fun k' _ hk'=>World.putObj_heap_other (fun e'=>hk' 0 L hL e'.symm)) (kX.put w1 (fun ds e'=>by cases e')) hobj
       ·exact Gw.of_block l2' hB (fun ds e'=>by cases e') (fun r e'=>by cases e') (World.putObj_heap_same hblk) (fun _ _ _ e'=>by cases e') (fun _ _ _ e'=>by cases e') (fun k' hk'=>World.putObj_heap_other hk') (by simp) rfl rfl rfl
   ·cases hn
  ·cases hn
 ·cases hn
end
section
variable {P:Program} {B:Base} {φ:eO} {h h':aj} {w:World} {v:AV}
theorem Py {n id:Nat} {x:AV} {cx:Value} {t:TypeId} (H:dI P B φ h w) (hx:dn φ x cx) (hc:(Nat.beq x.cells.length n&&aV x.cells&&Nat.blt 0 n)=true) (hg:B.gh id=some (.row {es:=[x.cells],sz:=n,g:=0,m:=0,rw:=true,ty:=some t})):
 jU P (B.del id) φ h (.ptr id 0 0 0) w ((Instr.box t cx).run P w):=by
 simp only[Bool.and_eq_true,bJ,dL] at hc
 obtain⟨⟨c1,c2⟩,c3⟩:=hc
 have hcells:=hx.cells
 obtain⟨φ',h1,h2,h3,h4⟩:=uQ H (es:=[x.cells]) c3 (by intro e he;simp at he;subst he;exact c1) (by intro e he;simp at he;subst he;exact c2) (vals:=cx.cells.toList) (spare:=[]) (by simpa using hcells) (tot:=1)
  (by simp;rw[←c1,hcells.length];simp) t (some t) (fun _ e=>by cases e;rfl) hg
 refine⟨.pointer (some ⟨w.heap.size,0,none⟩),_,φ', ?_, ?_,h3,h1,h4⟩
 ·simp[Instr.box,newVar,newRow,Go.newRow]
 ·have:=dn.ptr (φ:=φ') (i:=0) (o:=0) h2 (by simp)
  simpa using this
theorem KN {z:List AV} {t:TypeId} {id:Nat} (H:dI P B φ h w) {za:AV} (hz:je P t=some za) (hzc:za.cells=z) (hc:(Nat.blt 0 z.length&&aV z)=true) (hg:B.gh id=some (.row {es:=[z],sz:=z.length,g:=0,m:=0,rw:=true,ty:=some t})):
 jU P (B.del id) φ h (.ptr id 0 0 0) w ((Instr.alloc t true (.tuple #[])).run P w):=by
 obtain⟨zv,i,h1,h2,h3,h4⟩:=jI hz w
 subst hzc
 obtain⟨cv,w',φ',a,b⟩:=Py (t:=t) (n:=za.cells.length) H (nC h2) (by simp only[Bool.and_eq_true] at hc ⊢;exact⟨⟨bJ.2 rfl,hc.2⟩,hc.1⟩) hg
 refine⟨cv,w',φ', ?_,b⟩
 simp[Instr.alloc,h1]
 simpa[Instr.box] using a
theorem KE {n:Nat} {x v:AV} {cx:Value} {t:TypeId} (H:dI P B φ h w) (hx:dn φ x cx) (hc:(Nat.beq x.cells.length n&&aV x.cells&&Nat.blt 0 n)=true) (he:some (AV.ptr h.sz 0 0 0,newRow h [x.cells] n (some t))=some (v,h')):jU P B φ h' v w ((Instr.box t cx).run P w):=by
 cases he
 simp only[Bool.and_eq_true,bJ,dL] at hc
 obtain⟨⟨c1,c2⟩,c3⟩:=hc
 have hcells:=hx.cells
 obtain⟨φ',h1,h2,h3,h4⟩:=qz H (es:=[x.cells]) c3 (by intro e he;simp at he;subst he;exact c1) (by intro e he;simp at he;subst he;exact c2) (vals:=cx.cells.toList) (spare:=[]) (by simpa using hcells) (tot:=1)
  (by simp;rw[←c1,hcells.length];simp) t (some t) (fun e he=>by cases he;rfl)
 refine⟨.pointer (some ⟨w.heap.size,0,none⟩),_,φ', ?_, ?_,h3,h1,h4⟩
 ·simp[Instr.box,newVar,newRow,Go.newRow]
 ·have:=dn.ptr (φ:=φ') (i:=0) (o:=0) h2 (by simp)
  simpa using this
theorem Jk {z:List AV} {v:AV} {t:TypeId} (H:dI P B φ h w) {za:AV} (hz:je P t=some za) (hzc:za.cells=z) (he:(bif Nat.blt 0 z.length&&aV z then some (AV.ptr h.sz 0 0 0,newRow h [z] z.length (some t)) else none)=some (v,h')):
 jU P B φ h' v w ((Instr.alloc t true (.tuple #[])).run P w):=by
 obtain⟨zv,i,h1,h2,h3,h4⟩:=jI hz w
 cases hb:(Nat.blt 0 z.length&&aV z) with
 |false=>rw[hb] at he;cases he
 |true=>
  rw[hb,cond_true] at he
  subst hzc
  obtain⟨cv,w',φ',a,b⟩:=KE (t:=t) H (nC h2) (by simp[bJ.2 rfl];simp only[Bool.and_eq_true,dL] at hb;exact⟨hb.2,hb.1⟩) he
  refine⟨cv,w',φ', ?_,b⟩
  simp[Instr.alloc,h1]
  simpa[Instr.box] using a
theorem GA {id g i o:Nat} {r:Row} (H:dI P B φ h w) (hr:h.row id=some r) (hrw:r.rw=true) (hg:g=r.g) {L:Loc} (hL:φ id g=some L):
 L.base=0∧L.sz=r.sz∧L.ext=r.es.length∧∃c t,w.heap[L.blk]? =some (.cells c t (0,0))∧c.size=L.tot*L.sz∧L.ext≤L.tot:=by
 subst hg
 have hrow:iC φ id r w:=H.obj id _ (aj.row_some.1 hr)
 obtain⟨hb,c,t,h1,h2,h3⟩:=hrow.own hrw r.g L hrow.mg hL
 obtain⟨L',hL',hext⟩:=hrow.cur
 rw[hL] at hL';cases hL'
 exact⟨hb,(hrow.gen _ _ hL).2,hext,c,t,h1,h2,h3⟩
theorem Pk {s d t:TypeId} {n:Nat} {x v:AV} {cx:Value} (H:dI P B φ h w) (hs:P.underlying s=some (.pointer t)) (hd:P.underlying d=some .unsafePointer) (hz:sizeT P t=some (n+1)) (hx:dn φ x cx) (he:Uv h x=some v):
 ∃cv,(convert s d cx).run P w= .ok cv w∧dn φ v cv:=by
 unfold Uv at he
 split at he
 ·cases he;cases hx
  exact⟨.pointer none,by simp[convert,run_underlying hs,run_underlying hd,Conv.unsafePointer], .nilPtr⟩
 ·rename_i id g i o
  split at he
  ·rename_i r hr
   cases hb:(r.rw&&Nat.ble r.m g&&Nat.beq g r.g&&Nat.blt i r.es.length&&Nat.blt o r.sz) with
   |false=>rw[hb] at he;cases he
   |true=>
    rw[hb,cond_true] at he;cases he
    simp only[Bool.and_eq_true,bI,bJ,dL] at hb
    obtain⟨⟨⟨⟨h1,h2⟩,h3⟩,h4⟩,h5⟩:=hb
    cases hx with
    |ptr hL hi=>
     rename_i L
     obtain⟨q1,q2,q3,c,u,q4,q5,q6⟩:=GA (i:=i) (o:=o) H hr h1 h3 hL
     obtain⟨j,hj,hjs⟩:∃j,P.info? t=some j∧j.size=n+1:=by
      unfold sizeT at hz
      cases hh:P.info? t with
      |none=>rw[hh] at hz;cases hz
      |some j=>rw[hh] at hz;simp at hz;exact⟨j,rfl,hz⟩
     refine⟨_,Lib.run_to_unsafe w ⟨L.blk,L.base+i*L.sz+o,none⟩ hs hd hj (by omega) (e:=u) (cells:=c.size) ?_ ?_, .ptr hL hi⟩
     ·simp only[World.shape?,q4]
     ·show L.base+i*L.sz+o<c.size
      rw[q1,q5,q2]
      have:(i+1)*r.sz≤L.tot*r.sz:=Nat.mul_le_mul_right _ (by omega)
      rw[Nat.add_mul] at this
      omega
  ·cases he
 ·cases he
theorem Jf {t:TypeId} {n count:Nat} (hs:um P t=true) (hn:P.cellsOf t=n+1) (hc:1≤count):liesAt P P.depth t count 0 t 1=true:=by
 unfold um at hs
 simp only[Bool.and_eq_true,dL] at hs
 obtain⟨d,hd⟩:∃d,P.depth=d+1:=⟨P.depth-1,by omega⟩
 have h2:=hs.2
 generalize hq:P.depth=q at *
 subst hd
 rw[liesAt,hq]
 rw[rowAt]
 simp only[hn,Nat.succ_ne_zero,if_false,Nat.zero_div,Nat.zero_mod,Nat.zero_add,h2,Bool.and_true]
 simp[hc]
theorem cellsOf_size {t:TypeId} {n:Nat} (hz:sizeT P t=some n):P.cellsOf t=n:=by
 unfold sizeT at hz
 cases hh:P.info? t with
 |none=>rw[hh] at hz;cases hz
 |some j=>
  rw[hh] at hz
  simp at hz
  simp[Program.cellsOf,hh,hz]
theorem Oj {s d t:TypeId} {n:Nat} {x v:AV} {cx:Value} (H:dI P B φ h w) (hs:P.underlying s=some .unsafePointer) (hd:P.underlying d=some (.pointer t)) (hz:sizeT P t=some (n+1)) (hl:um P t=true) (hx:dn φ x cx) (he:Ux h t (n+1) x=some v):
 ∃cv,(convert s d cx).run P w= .ok cv w∧dn φ v cv:=by
 unfold Ux at he
 split at he
 ·cases he;cases hx
  exact⟨.pointer none,by simp[convert,run_underlying hs,run_underlying hd,Conv.unsafePointer], .nilPtr⟩
 ·rename_i id g i o
  split at he
  ·rename_i r hr
   split at he
   ·rename_i u hu
    cases hb:(r.rw&&Nat.ble r.m g&&Nat.beq g r.g&&Nat.beq u t&&Nat.beq i 0&&Nat.beq o 0&&Nat.beq r.sz (n+1)&&Nat.blt 0 r.es.length) with
    |false=>rw[hb] at he;cases he
    |true=>
     rw[hb,cond_true] at he;cases he
     simp only[Bool.and_eq_true,bI,bJ,dL] at hb
     obtain⟨⟨⟨⟨⟨⟨⟨h1,h2⟩,h3⟩,rfl⟩,rfl⟩,rfl⟩,h7⟩,h8⟩:=hb
     cases hx with
     |ptr hL hi=>
      rename_i L
      obtain⟨q1,q2,q3,c,u',q4,q5,q6⟩:=GA (i:=0) (o:=0) H hr h1 h3 hL
      obtain⟨c',f',q7⟩:=(show iC φ id r w from H.obj id _ (aj.row_some.1 hr)).ty u hu h1 g L h2 hL
      rw[q4] at q7
      cases q7
      obtain⟨j,hj⟩:∃j,P.info? u=some j:=by
       unfold sizeT at hz
       cases hh:P.info? u with
       |none=>rw[hh] at hz;cases hz
       |some j=>exact⟨j,rfl⟩
      refine⟨_,Lib.run_from_unsafe w ⟨L.blk,L.base+0*L.sz+0,none⟩ hs hd hj (e:=u) (cells:=c.size) ?_ ?_, .ptr hL hi⟩
      ·simp only[World.shape?,q4]
      ·have hco:=cellsOf_size hz
       show liesAt P P.depth u (c.size/P.cellsOf u) (L.base+0*L.sz+0) u 1=true
       rw[q1,Nat.zero_mul,Nat.zero_add]
       refine Jf hl hco ?_
       rw[q5,q2,h7,hco,Nat.mul_div_cancel _ (Nat.succ_pos n)]
       omega
   ·cases he
  ·cases he
 ·cases he
theorem Ka {ts:Array TypeId} {ty:TypeId} {x v:AV} {cx:Value} (hx:dn φ x cx) (he:NW x=some v):∃cv,(Builtin.unsafeSliceData_ ts ty #[cx]).run P w= .ok cv w∧dn φ v cv:=by
 unfold NW at he
 split at he
 ·cases he;cases hx
  exact⟨_,Lib.run_unsafeSliceData_nil w ts ty 0 0, .nilPtr⟩
 ·rename_i id g s len cap ex
  cases hb:Nat.blt 0 cap with
  |false=>rw[hb] at he;cases he
  |true=>
   rw[hb,cond_true] at he;cases he
   have hb:=dL.1 hb
   cases hx with
   |slc hL h1 h2 h3 h4 h5 h6=>
    rename_i c off L
    refine⟨_,Lib.run_unsafeSliceData_row w ts ty ⟨L.blk,off,none⟩ len c (by omega), ?_⟩
    have:=dn.ptr (φ:=φ) (i:=s) (o:=0) hL (by omega)
    rw[h6 (by omega)]
    exact this
 ·cases he
theorem EZ (w:World) (b n:Nat) {c:Array Value} {t:TypeId} {f:Nat×Nat} (hb:w.heap[b]? =some (.cells c t f)):∃f',(w.freeze ⟨b,0,none⟩ n).heap[b]? =some (.cells c t f'):=by
 unfold World.freeze
 by_cases hn:n=0
 ·rw[if_pos hn];exact⟨f,hb⟩
 ·rw[if_neg hn]
  obtain⟨lo,hi⟩:=f
  refine⟨if lo==hi then(0,0+n) else(min lo 0,max hi (0+n)), ?_⟩
  simp only[Array.getElem?_modify,if_pos,hb,Option.map_some]
theorem FB (w:World) (b n k:Nat) (h:k≠b):(w.freeze ⟨b,0,none⟩ n).heap[k]? =w.heap[k]? :=by
 unfold World.freeze
 by_cases hn:n=0
 ·rw[if_pos hn]
 ·rw[if_neg hn]
  simp only[Array.getElem?_modify]
  rw[if_neg (fun e=>h e.symm)]
theorem zo (w:World) (b n:Nat):(w.freeze ⟨b,0,none⟩ n).heap.size=w.heap.size:=by
 unfold World.freeze
 by_cases hn:n=0
 ·rw[if_pos hn]
 ·rw[if_neg hn];simp
theorem Mi {pt it ty e:TypeId} {p n v:AV} {cp cn:Value} (H:dI P B φ h w) (hp:P.underlying pt=some (.pointer e)) (hz:sizeT P e=some 1) (hx:dn φ p cp) (hy:dn φ n cn) (he:NC h e p n=some (v,h')):
 jU P B φ h' v w ((Builtin.unsafeString_ #[pt,it] ty #[cp,cn]).run P w):=by
 unfold NC at he
 split at he
 ·rename_i k
  cases hy
  have zero:∀a:Option Addr,k=0→some (AV.str [],h)=some (v,h')→jU P B φ h' v w ((Builtin.unsafeString_ #[pt,it] ty #[.pointer a, .int .i64 (Int.ofNat k)]).run P w):=by
   intro a hk he2
   clear he
   subst hk
   cases he2
   exact jU.pure H (Lib.run_unsafeString_none w pt it ty a) (.str rfl)
  split at he
  ·cases hx
   cases hk:Nat.beq k 0 with
   |false=>rw[hk] at he;cases he
   |true=>rw[hk,cond_true] at he;exact zero none (bJ.1 hk) he
  ·rename_i id g i o
   cases hx with
   |ptr hL hi=>
    rename_i L
    cases hk:Nat.beq k 0 with
    |true=>rw[hk,cond_true] at he;exact zero _ (bJ.1 hk) he
    |false=>
     rw[hk,cond_false] at he
     have hk:=fO.1 hk
     split at he
     ·rename_i r hr
      split at he
      ·rename_i u hu
       cases hb:(r.rw&&Nat.beq g r.g&&Nat.beq u e&&Nat.beq i 0&&Nat.beq o 0&&Nat.beq r.sz 1&&Nat.ble k most) with
       |false=>rw[hb] at he;cases he
       |true=>
        rw[hb,cond_true] at he
        simp only[Bool.and_eq_true,bI,bJ] at hb
        obtain⟨⟨⟨⟨⟨⟨h1,rfl⟩,rfl⟩,rfl⟩,rfl⟩,h6⟩,h7⟩:=hb
        simp only at he
        cases hl:Nat.beq (r.es.take k).length k with
        |false=>rw[hl] at he;cases he
        |true=>
         rw[hl,cond_true] at he
         have hl:=bJ.1 hl
         split at he
         ·rename_i s hby
          cases he
          have hro:=aj.row_some.1 hr
          have hrow:iC φ id r w:=H.obj id _ hro
          obtain⟨q1,q2,q3,c,u',q4,q5,q6⟩:=GA (i:=0) (o:=0) H hr h1 rfl hL
          obtain⟨c',f',q7⟩:=hrow.ty u hu h1 r.g L hrow.mg hL
          rw[q4] at q7;cases q7
          obtain⟨_,vals,hv,hcv⟩:=hrow.cells r.g L hrow.mg hL
          rw[q3,List.take_of_length_le (Nat.le_refl _)] at hv
          have hfl:∀e∈r.es,e.length=1:=fun e he=>by rw[←h6];exact hrow.es e he
          have htk:(r.es.take k).flatten=r.es.flatten.take k:=by
           have:=oz (es:=r.es) hfl (n:=k)
           simpa using this
          have hnv:dH φ (r.es.take k).flatten (vals.take k):=by rw[htk];exact hv.take k
          obtain⟨e1,e2⟩:=pY hby hnv
          have hsl:s.length=k:=by
           have:=congrArg List.length e1
           simp at this
           have h8:=hnv.length
           rw[jP (sz:=1) (fun e he=>hfl e (List.mem_of_mem_take he)),hl] at h8
           simp at h8
           omega
          obtain⟨bs,hbs⟩:∃bs:List UInt8,bs.map UInt8.toNat=s:=⟨s.map UInt8.ofNat,by
           rw[List.map_map]
           conv=>rhs;rw[←List.map_id s]
           refine List.map_congr_left fun a ha=> ?_
           have:=e2 a ha
           simp[UInt8.toNat_ofNat',Nat.mod_eq_of_lt this]⟩
          have hbl:bs.length=k:=by rw[←hsl, ←hbs];simp
          have hcells:∀j x,bs[j]? =some x→w.cell? ((⟨L.blk,0,none⟩:Addr).add j)=some (.int .u8 x.toNat):=by
           intro j x hj
           have hjl:=(List.getElem?_eq_some_iff.1 hj).1
           have hvj:vals[j]? =some (.int .u8 (x.toNat:Int)):=by
            have h9:(vals.take k)[j]? =vals[j]? :=List.getElem?_take_of_lt (by omega)
            rw[←h9,e1, ←hbs]
            simp[hj]
           have:=hcv j _ hvj
           rw[q1,Nat.zero_add] at this
           unfold Addr.add
           simp only[Nat.zero_add]
           by_cases hj0:j=0
           ·subst hj0;simpa using this
           ·simpa[hj0] using this
          have hco:=cellsOf_size hz
          have hrun:=Lib.run_unsafeString_row (P:=P) w pt it ty u hp hco L.blk c.size (by simp only[World.shape?,q4]) bs (by intro hh;rw[hh] at hbl;simp at hbl;omega) (by
           rw[q5,q2,h6,Nat.mul_one,hbl]
           have:k≤r.es.length:=by rw[List.length_take] at hl;omega
           omega) (by unfold most at h7;omega) hcells
          rw[hbl] at hrun
          have haddr:(L.base+0*L.sz+0)=0:=by rw[q1];simp
          obtain⟨f',hfb⟩:=EZ w L.blk k q4
          have hoth:=fun j hj=>FB w L.blk k j hj
          refine⟨_,_,φ,by rw[haddr];exact hrun, .str (by simpa using hbs), ?_,φ.le_refl, ?_⟩
          ·refine H.update hro h1 rfl φ.le_refl (fun _ _ _=>rfl) (fun g K e=> .inl e) (by rw[zo];exact Nat.le_refl _) (fun j _ hj=>hoth j (fun e=>hj r.g L hL e.symm)) (kX.of_block hfb (fun ds e=>by cases e) hoth) trivial
          ·have hB:B≤L.blk:=(H.own id _ r.g L hro hL).1 h1
           refine⟨?_, ?_, ?_, ?_,by rw[zo];exact Nat.le_refl _,fun j hj=>hoth j (by omega),fun j ds hj=> ?_,fun j r hj=>⟨r, ?_⟩⟩
           ·unfold World.freeze;split<;>rfl
           ·unfold World.freeze;split<;>rfl
           ·unfold World.freeze;split<;>exact Nat.le_refl _
           ·unfold World.freeze;split<;>rfl
           ·rw[hoth j (fun e=>by subst e;rw[q4] at hj;cases hj)];exact hj
           ·rw[hoth j (fun e=>by subst e;rw[q4] at hj;cases hj)];exact hj
         ·cases he
      ·cases he
     ·cases he
  ·cases he
 ·cases he
end
section
variable {P:Program} {B:Base} {φ:eO} {h h':aj} {w:World} {v:AV} {N:Nat} {ρ:dY} {a:Act}
theorem gP {x:gJ} {f:AV→Option AV} (he:dQ (zK ρ x f) h=some (v,h')):∃u,ev ρ x=some u∧f u=some v∧h'=h:=by
 unfold dQ zK at he
 split at he
 ·rename_i r hr
  cases he
  split at hr
  ·rename_i u hu;exact⟨u,hu,hr,rfl⟩
  ·cases hr
 ·cases he
theorem qB {x y:gJ} {f:AV→AV→Option AV} (he:dQ (Tk ρ x y f) h=some (v,h')):∃u u',ev ρ x=some u∧ev ρ y=some u'∧f u u'=some v∧h'=h:=by
 unfold dQ Tk at he
 split at he
 ·rename_i r hr
  cases he
  split at hr
  ·rename_i u hu
   split at hr
   ·rename_i u' hu';exact⟨u,u',hu,hu',hr,rfl⟩
   ·cases hr
  ·cases hr
 ·cases he
theorem iQ {r:Option AV} (he:dQ r h=some (v,h')):r=some v∧h'=h:=by
 unfold dQ at he
 split at he
 ·cases he;exact⟨rfl,rfl⟩
 ·cases he
theorem uD {r:Option aj} (he:unit r=some (v,h')):r=some h'∧v= .tup []:=by
 unfold unit at he
 split at he
 ·cases he;exact⟨rfl,rfl⟩
 ·cases he
theorem kU.dQ {s:Sem Value} {cv:Value} (H:dI P B φ h w) (hs:s.run P w= .ok cv w) (hv:dn φ v cv):kU P B φ h v w ((do let x ←s;Pure.pure (Next.value x):Sem Next).run P w):=
 kU.ofV (jU.pure H hs hv)
theorem yg {c:Call} {b:Builtin} (hcal:c.callee= .builtin b) (ρ':Operand→Value) (ty:TypeId):(do let d ←resolve ρ' c ty;invoke d.target d.args:Sem Next).run P w=(builtin b c.argTypes ty (c.args.map fun | .const _=>true |_=>false) (c.args.map ρ')).run P w:=by
 unfold resolve
 simp only[hcal,Sem.run_bind,Sem.run_pure,Result.andThen_ok,invoke]
 rfl
theorem Dk {c:Call} {b:Builtin} {op:rU} {ty:TypeId} {consts:Array Bool} (hR:kI φ N ρ a.tmps) (H:dI P B φ h w) (hc:lX P b c.argTypes.toList c.args.toList=some op) (he:dz ρ h op=some (v,h')):
 kU P B φ h' v w ((builtin b c.argTypes ty consts (c.args.map a.eval)).run P w):=by
 obtain⟨cal,⟨args⟩,⟨types⟩⟩:=c
 simp only at hc
 unfold lX at hc
 split at hc
 ·
  rename_i t x
  simp only[Option.bind_eq_bind,Option.pure_def] at hc
  cases hx:bX x with
  |none=>simp[hx] at hc
  |some y=>
   rw[hx] at hc
   simp only[Option.bind_some] at hc
   split at hc
   ·rename_i hu
    cases hc
    simp only[dz] at he
    obtain⟨u,h1,h2,rfl⟩:=gP he
    obtain⟨cv,g1,g2⟩:=yP (ty:=ty) H hu (.inl ⟨rfl,rfl⟩) (dF hR hx h1) h2
    exact kU.dQ H (by simpa using g1) g2
   ·rename_i e hu
    cases hc
    simp only[dz] at he
    obtain⟨u,h1,h2,rfl⟩:=gP he
    obtain⟨cv,g1,g2⟩:=yP (ty:=ty) H hu (.inr (.inl ⟨rfl,e,rfl⟩)) (dF hR hx h1) h2
    exact kU.dQ H (by simpa using g1) g2
   ·rename_i e f hu
    cases hc
    simp only[dz] at he
    obtain⟨u,h1,h2,rfl⟩:=gP he
    obtain⟨cv,g1,g2⟩:=yP (ty:=ty) H hu (.inr (.inr ⟨rfl,e,f,rfl⟩)) (dF hR hx h1) h2
    exact kU.dQ H (by simpa using g1) g2
   ·rename_i n e hu
    cases hc
    simp only[dz,ev,Ab.dQ] at he
    cases he
    refine kU.dQ H (cv:= .int .i64 n) ?_ (.int _ _)
    simp[Builtin.len_,run_underlying hu,goInt]
   ·cases hc
 ·
  rename_i t x
  simp only[Option.bind_eq_bind,Option.pure_def] at hc
  cases hx:bX x with
  |none=>simp[hx] at hc
  |some y=>
   rw[hx] at hc
   simp only[Option.bind_some] at hc
   split at hc
   ·rename_i e hu
    cases hc
    simp only[dz] at he
    obtain⟨u,h1,h2,rfl⟩:=gP he
    obtain⟨cv,g1,g2⟩:=PX (w:=w) (ty:=ty) hu (dF hR hx h1) h2
    exact kU.dQ H (by simpa using g1) g2
   ·cases hc
 ·
  rename_i s t x y
  have:=Po (ty:=ty) hR H (t1:=s) (t2:=t) (x:=x) (y:=y) (op:=op) (by unfold lX;exact hc) he
  exact kU.ofV (by simpa using this)
 ·
  rename_i s t x y
  simp only[Option.bind_eq_bind,Option.pure_def] at hc
  cases hx:bX x with
  |none=>simp[hx] at hc
  |some p=>
   cases hy:bX y with
   |none=>simp[hx,hy] at hc
   |some q=>
    rw[hx,hy] at hc
    simp only[Option.bind_some] at hc
    split at hc
    ·rename_i e hu
     cases hs:sizeT P e with
     |none=>simp[hs] at hc
     |some sz=>
      simp[hs] at hc;subst hc
      simp only[dz] at he
      cases hp:ev ρ p with
      |none=>simp[hp] at he
      |some dv=>
       cases hq:ev ρ q with
       |none=>simp[hp,hq] at he
       |some sv=>
        rw[hp,hq] at he
        have:=LV (t1:=s) (t2:=t) (ty:=ty) H hu hs (dF hR hx hp) (dF hR hy hq) he
        exact kU.ofV (by simpa using this)
    ·cases hc
 ·
  rename_i s t x y
  simp only[Option.bind_eq_bind,Option.pure_def] at hc
  cases hx:bX x with
  |none=>simp[hx] at hc
  |some p=>
   cases hy:bX y with
   |none=>simp[hx,hy] at hc
   |some q=>
    rw[hx,hy] at hc
    simp only[Option.bind_some] at hc
    split at hc
    ·rename_i kt e hu
     cases hk:rY P kt with
     |none=>simp[hk] at hc
     |some kk=>
      simp[hk] at hc;subst hc
      simp only[dz] at he
      cases hp:ev ρ p with
      |none=>simp[hp] at he
      |some dv=>
       cases hq:ev ρ q with
       |none=>simp[hp,hq] at he
       |some sv=>
        rw[hp,hq] at he
        obtain⟨h1,rfl⟩:=uD he
        obtain⟨w',d1,d2,d3⟩:=PU (t2:=t) (ty:=ty) H hu hk (dF hR hx hp) (dF hR hy hq) h1
        exact kU.ofV ⟨.tuple #[],w',φ,by simpa using d1, .tup .nil,d2,φ.le_refl,d3⟩
    ·cases hc
 ·
  rename_i t x
  simp only[Option.bind_eq_bind,Option.pure_def] at hc
  cases hx:bX x with
  |none=>simp[hx] at hc
  |some y=>
   rw[hx] at hc
   simp only[Option.bind_some] at hc
   split at hc
   ·rename_i e hu
    cases hs:sizeT P e with
    |none=>simp[hs] at hc
    |some sz=>
     cases hz:je P e with
     |none=>simp[hs,hz] at hc
     |some z=>
      simp[hs,hz] at hc;subst hc
      simp only[dz] at he
      cases hp:ev ρ y with
      |none=>simp[hp] at he
      |some u=>
       rw[hp] at he
       obtain⟨h1,rfl⟩:=uD he
       obtain⟨w',d1,d2,d3⟩:=OJ (ty:=ty) H hu hs hz (dF hR hx hp) h1
       exact kU.ofV ⟨.tuple #[],w',φ,by simpa using d1, .tup .nil,d2,φ.le_refl,d3⟩
   ·cases hc
 ·
  rename_i t x
  simp only[Option.bind_eq_bind,Option.pure_def] at hc
  cases hx:bX x with
  |none=>simp[hx] at hc
  |some y=>
   simp[hx] at hc;subst hc
   simp only[dz] at he
   obtain⟨u,h1,h2,rfl⟩:=gP he
   obtain⟨cv,g1,g2⟩:=Ka (w:=w) (P:=P) (ts:= #[t]) (ty:=ty) (dF hR hx h1) h2
   exact kU.dQ H (by simpa using g1) g2
 ·
  rename_i t u x y
  split at hc
  ·rename_i p q e hx hy hu
   cases hz:(zY P e&&VU P e) with
   |false=>rw[hz] at hc;cases hc
   |true=>
    rw[hz,cond_true] at hc;cases hc
    simp only[Bool.and_eq_true] at hz
    have hs:sizeT P e=some 1:=by
     have h2:=hz.2
     unfold VU at h2
     split at h2
     ·assumption
     ·cases h2
    simp only[dz] at he
    cases hp:ev ρ p with
    |none=>simp[hp] at he
    |some a1=>
     cases hq:ev ρ q with
     |none=>simp[hp,hq] at he
     |some a2=>
      rw[hp,hq] at he
      have:=Mi (it:=u) (ty:=ty) H hu hs (dF hR hx hp) (dF hR hy hq) he
      exact kU.ofV (by simpa using this)
  ·cases hc
 ·
  rename_i xs
  simp only[Option.bind_eq_bind,Option.pure_def] at hc
  cases hx:kN args with
  |none=>simp[hx] at hc
  |some ys=>
   simp[hx] at hc;subst hc
   simp only[dz] at he
   split at he
   ·rename_i u l hvs
    obtain⟨h1,rfl⟩:=iQ he
    have hrel:=qG hR hx hvs
    cases hargs:args.map a.eval with
    |nil=>rw[hargs] at hrel;cases hrel
    |cons c0 cs=>
     rw[hargs] at hrel
     cases hrel with
     |cons r1 r2=>
      obtain⟨cv,g1,g2⟩:=BM (w:=w) (P:=P) r1 r2 h1
      refine kU.dQ H (cv:=cv) ?_ g2
      simpa[Builtin.max_,hargs] using g1
   ·cases he
 ·
  rename_i xs
  simp only[Option.bind_eq_bind,Option.pure_def] at hc
  cases hx:kN args with
  |none=>simp[hx] at hc
  |some ys=>
   simp[hx] at hc;subst hc
   simp only[dz] at he
   split at he
   ·rename_i u l hvs
    obtain⟨h1,rfl⟩:=iQ he
    have hrel:=qG hR hx hvs
    cases hargs:args.map a.eval with
    |nil=>rw[hargs] at hrel;cases hrel
    |cons c0 cs=>
     rw[hargs] at hrel
     cases hrel with
     |cons r1 r2=>
      obtain⟨cv,g1,g2⟩:=BM (w:=w) (P:=P) r1 r2 h1
      refine kU.dQ H (cv:=cv) ?_ g2
      simpa[Builtin.min_,hargs] using g1
   ·cases he
 ·cases hc
theorem Ib {o:Oper} {op:rU} (hR:kI φ N ρ a.tmps) (H:dI P B φ h w) (hc:kF P o.op=some op) (he:dz ρ h op=some (v,h')):kU P B φ h' v w ((execOp a.eval o).run P w):=by
 obtain⟨dst,oo,type,pos,after,guard⟩:=o
 simp only at hc
 cases oo<;>simp only[kF,Option.bind_eq_bind,Option.pure_def] at hc<;>try(cases hc;done)
 case move x=>
  cases hx:bX x with
  |none=>simp[hx] at hc
  |some y=>
   simp[hx] at hc;subst hc
   simp only[dz] at he
   obtain⟨h1,rfl⟩:=iQ he
   exact⟨a.eval x,w,φ, .inl (by simp[execOp]),dF hR hx h1,H,φ.le_refl,Gw.refl B w⟩
 case assign x=>
  cases hx:bX x with
  |none=>simp[hx] at hc
  |some y=>
   simp[hx] at hc;subst hc
   simp only[dz] at he
   obtain⟨h1,rfl⟩:=iQ he
   exact⟨a.eval x,w,φ, .inl (by simp[execOp]),dF hR hx h1,H,φ.le_refl,Gw.refl B w⟩
 case pick c x y=>
  cases h1:bX c with
  |none=>simp[h1] at hc
  |some c'=>
   cases h2:bX x with
   |none=>simp[h1,h2] at hc
   |some x'=>
    cases h3:bX y with
    |none=>simp[h1,h2,h3] at hc
    |some y'=>
     simp[h1,h2,h3] at hc;subst hc
     simp only[dz] at he
     split at he
     ·rename_i hcv
      obtain⟨h4,rfl⟩:=iQ he
      have hb:=dF hR h1 hcv
      generalize hg:a.eval c=cc at hb
      cases hb
      exact⟨a.eval x,w,φ, .inl (by simp[execOp,hg,asBool]),dF hR h2 h4,H,φ.le_refl,Gw.refl B w⟩
     ·rename_i hcv
      obtain⟨h4,rfl⟩:=iQ he
      have hb:=dF hR h1 hcv
      generalize hg:a.eval c=cc at hb
      cases hb
      exact⟨a.eval y,w,φ, .inl (by simp[execOp,hg,asBool]),dF hR h3 h4,H,φ.le_refl,Gw.refl B w⟩
     ·cases he
 case alloc t=>
  cases hz:je P t with
  |none=>simp[hz] at hc
  |some z=>
   simp only[hz,Option.some.injEq] at hc
   cases hn:uE z.cells with
   |false=>rw[hn,cond_false] at hc;subst hc;exact kU.ofV (Jd H hz rfl he)
   |true=>rw[hn,cond_true] at hc;subst hc;exact kU.ofV (Jk H hz rfl he)
 case box t x=>
  cases hs:sizeT P t with
  |none=>simp[hs] at hc
  |some n=>
   cases hx:bX x with
   |none=>simp[hs,hx] at hc
   |some y=>
    simp[hs,hx] at hc;subst hc
    simp only[dz] at he
    split at he
    ·rename_i u hu
     exact kU.ofV (PV H (dF hR hx hu) he)
    ·cases he
 case build t parts=>
  exact kU.ofV (Jb hR H (by simpa only[kF,Option.bind_eq_bind,Option.pure_def] using hc) he)
 case buildSlice t n parts=>
  exact kU.ofV (FP hR H (by simpa only[kF,Option.bind_eq_bind,Option.pure_def] using hc) he)
 case load t x=>
  cases hg:kr P t with
  |none=>simp[hg] at hc
  |some ag=>
   cases hs:sizeT P t with
   |none=>simp[hg,hs] at hc
   |some n=>
    cases hx:bX x with
    |none=>simp[hg,hs,hx] at hc
    |some y=>
     simp[hg,hs,hx] at hc;subst hc
     simp only[dz] at he
     obtain⟨u,h1,h2,rfl⟩:=gP he
     obtain⟨cv,g1,_,g2⟩:=Bd H (dF hR hx h1) h2 hg hs
     exact kU.dQ H g1 g2
 case store t x y=>
  cases hs:sizeT P t with
  |none=>simp[hs] at hc
  |some n=>
   cases hx:bX x with
   |none=>simp[hs,hx] at hc
   |some p=>
    cases hy:bX y with
    |none=>simp[hs,hx,hy] at hc
    |some q=>
     simp[hs,hx,hy] at hc;subst hc
     simp only[dz] at he
     split at he
     ·rename_i u u' hu hu'
      obtain⟨h1,rfl⟩:=uD he
      exact kU.ofU (H8 H (dF hR hx hu) (dF hR hy hu') h1 hs)
     ·cases he
 case nilCheck x=>
  cases hx:bX x with
  |none=>simp[hx] at hc
  |some y=>
   simp[hx] at hc;subst hc
   simp only[dz] at he
   obtain⟨u,h1,h2,rfl⟩:=gP he
   have hr:=dF hR hx h1
   obtain⟨rfl,k1,k2,k3,k4⟩:=IJ hr h2
   refine⟨a.eval x,w,φ, .inl ?_,hr,H,φ.le_refl,Gw.refl B w⟩
   simp only[execOp]
   generalize a.eval x=cx at *
   cases hr<;>first |rfl |exact absurd rfl k1 |exact absurd rfl k2
 case binOp bop t x y yt=>
  cases hx:bX x with
  |none=>simp[hx] at hc
  |some p=>
   cases hy:bX y with
   |none=>simp[hx,hy] at hc
   |some q=>
    rw[hx,hy] at hc
    simp only[Option.bind_some] at hc
    have bin:op= .bin bop p q→kU P B φ h' v w ((execOp a.eval ⟨dst, .binOp bop t x y yt,type,pos,after,guard⟩).run P w):=by
     rintro rfl
     simp only[dz] at he
     obtain⟨u,u',h1,h2,h3,rfl⟩:=qB he
     have r1:=dF hR hx h1
     have r2:=dF hR hy h2
     obtain⟨cv,g1,g2,g3,g4⟩:=MK (w:=w) (P:=P) r1 r2 h3 t
     refine kU.dQ (s:=do eqGuard bop t x y (a.eval x) (a.eval y);binOp bop t (a.eval x) (a.eval y)) H (cv:=cv) ?_ g2
     have hgd:(eqGuard bop t x y (a.eval x) (a.eval y)).run P w= .ok () w:=by
      unfold eqGuard
      cases bop<;>simp
      all_goals
       generalize a.eval x=cx at *
       generalize a.eval y=cy at *
       cases cx<;>first |rfl |exact absurd rfl g4 |(cases cy<;>first |rfl |(rcases g3 _ _ with hh |hh<;>exact absurd rfl hh))
     simp[Sem.run_bind,hgd,g1]
    split at hc
    ·cases hc;exact bin rfl
    ·cases hc;exact bin rfl
    ·split at hc
     ·cases hk:DN P t with
      |none=>simp[hk] at hc
      |some k=>
       simp[hk] at hc;subst hc
       simp only[dz] at he
       split at he
       ·rename_i u u' h1 h2
        split at he
        ·rename_i r hr
         cases he
         exact kU.dQ (s:=do eqGuard .eql t x y (a.eval x) (a.eval y);binOp .eql t (a.eval x) (a.eval y)) H (Jv (.inl ⟨rfl,rfl⟩) H hk (dF hR hx h1) (dF hR hy h2) hr x y) (.bool _)
        ·cases he
       ·cases he
     ·cases hk:DN P t with
      |none=>simp[hk] at hc
      |some k=>
       simp[hk] at hc;subst hc
       simp only[dz] at he
       split at he
       ·rename_i u u' h1 h2
        split at he
        ·rename_i r hr
         cases he
         exact kU.dQ (s:=do eqGuard .neq t x y (a.eval x) (a.eval y);binOp .neq t (a.eval x) (a.eval y)) H (Jv (.inr ⟨rfl,rfl⟩) H hk (dF hR hx h1) (dF hR hy h2) hr x y) (.bool _)
        ·cases he
       ·cases he
     ·cases hc
 case unOp uop t x=>
  cases hx:bX x with
  |none=>simp[hx] at hc
  |some y=>
   rw[hx] at hc
   simp only[Option.bind_some] at hc
   split at hc
   ·cases hc
    simp only[dz] at he
    obtain⟨u,h1,h2,rfl⟩:=gP he
    obtain⟨cv,g1,g2⟩:=OL (w:=w) (P:=P) (dF hR hx h1) h2
    exact kU.dQ H g1 g2
   ·cases hc
    simp only[dz] at he
    obtain⟨u,h1,h2,rfl⟩:=gP he
    obtain⟨cv,g1,g2⟩:=OP (w:=w) (P:=P) (dF hR hx h1) h2
    exact kU.dQ H g1 g2
   ·cases hc
 case convert s d x=>
  cases hx:bX x with
  |none=>simp[hx] at hc
  |some y=>
   rw[hx] at hc
   simp only[Option.bind_some] at hc
   split at hc
   ·rename_i ks k hs hd
    cases hc
    simp only[dz] at he
    obtain⟨u,h1,h2,rfl⟩:=gP he
    obtain⟨cv,g1,g2⟩:=JM (w:=w) hs hd (dF hR hx h1) h2
    exact kU.dQ H g1 g2
   ·rename_i hs hd
    cases hc
    simp only[dz] at he
    obtain⟨u,h1,h2,rfl⟩:=gP he
    unfold WT at h2
    split at h2
    ·cases h2
     have hr:=dF hR hx h1
     generalize hg:a.eval x=cx at hr
     cases hr with
     |str hs'=>
      refine kU.dQ (s:=convert s d (a.eval x)) H (cv:=a.eval x) ?_ (by rw[hg];exact .str hs')
      rw[hg]
      simp[convert,Sem.run_bind,run_underlying hs,run_underlying hd]
    ·cases h2
   ·rename_i e hs hd
    split at hc
    ·rename_i hu
     cases hc
     simp only[dz] at he
     obtain⟨u,h1,h2,rfl⟩:=gP he
     obtain⟨cv,g1,g2⟩:=OZ H hs hd hu (dF hR hx h1) h2
     exact kU.dQ H g1 g2
    ·cases hc
   ·rename_i t hs hd
    cases hz:Wz P t with
    |false=>rw[hz,cond_false] at hc;cases hc
    |true=>
     rw[hz,cond_true] at hc;cases hc
     obtain⟨m,hm⟩:∃m,sizeT P t=some (m+1):=by
      unfold Wz at hz
      split at hz
      ·rename_i m hm;exact⟨m,hm⟩
      ·cases hz
     simp only[dz] at he
     obtain⟨u,h1,h2,rfl⟩:=gP he
     obtain⟨cv,g1,g2⟩:=Pk H hs hd hm (dF hR hx h1) h2
     exact kU.dQ H g1 g2
   ·rename_i t hs hd
    split at hc
    ·rename_i m hm
     cases hl:um P t with
     |false=>rw[hl,cond_false] at hc;cases hc
     |true=>
      rw[hl,cond_true] at hc;cases hc
      simp only[dz] at he
      obtain⟨u,h1,h2,rfl⟩:=gP he
      obtain⟨cv,g1,g2⟩:=Oj H hs hd hm hl (dF hR hx h1) h2
      exact kU.dQ H g1 g2
    ·cases hc
   ·cases hc
 case makeFunc fn first cap=>
  split at hc
  ·rename_i f
   cases hx:kN first.toList with
   |none=>simp[hx] at hc
   |some xs=>
    cases hy:kN cap.toList with
    |none=>simp[hx,hy] at hc
    |some ys=>
     simp[hx,hy] at hc;subst hc
     simp only[dz] at he
     split at he
     ·rename_i vs ws h1 h2
      cases he
      have r1:=qG hR hx h1
      have r2:=qG hR hy h2
      refine kU.dQ (s:=Instr.makeFunc (.func f) (first.map a.eval) (cap.map a.eval)) H (cv:= .func (.func f) ⟨first.toList.map a.eval⟩ ⟨cap.toList.map a.eval⟩) ?_ (.func r1 r2)
      have e1:first.map a.eval=⟨first.toList.map a.eval⟩:=by apply Array.ext';simp
      have e2:cap.map a.eval=⟨cap.toList.map a.eval⟩:=by apply Array.ext';simp
      simp only[Instr.makeFunc,Sem.run_pure,e1,e2]
     ·cases he
  ·cases hc
 case makeMap t r=>
  split at hc
  ·cases hc
   simp only[dz] at he
   cases he
   have hle:=eO.le_add (φ:=φ) (id:=h.sz) (g:=0) ⟨w.heap.size,0,0,0,0⟩ (H.fresh 0)
   have hp:=H.push (o:= .map [] 0) rfl (L:=⟨w.heap.size,0,0,0,0⟩) (ob:= .map #[] 0) rfl (fun ds e=>by cases e) ⟨_, #[],eO.add_same _ _ _ _,heap_alloc_new w _, .nil⟩
   exact kU.ofV ⟨.map (some w.heap.size),_,_,by simp[Instr.makeMap], .map (eO.add_same _ _ _ _),hp,hle,Gw.alloc H.base (fun _ _ _ e=>by cases e)⟩
  ·cases hc
 case makeSlice t l c=>
  split at hc
  ·rename_i e hu
   cases hs:sizeT P e with
   |none=>simp[hs] at hc
   |some sz=>
    cases hb:qP P e with
    |none=>simp[hs,hb] at hc
    |some bytes=>
     cases hz:je P e with
     |none=>simp[hs,hb,hz] at hc
     |some z=>
      cases hl:bX l with
      |none=>simp[hs,hb,hz,hl] at hc
      |some l'=>
       cases hcc:bX c with
       |none=>simp[hs,hb,hz,hl,hcc] at hc
       |some c'=>
        simp[hs,hb,hz,hl,hcc] at hc;subst hc
        simp only[dz] at he
        split at he
        ·rename_i u u' h1 h2
         exact kU.ofV (JV H hu hs hb hz (dF hR hl h1) (dF hR hcc h2) he)
        ·cases he
  ·cases hc
 case slice t x lo hi mx=>
  split at hc
  ·rename_i mx _ _ e hu
   cases hs:sizeT P e with
   |none=>simp[hs] at hc
   |some sz=>
    cases hx:bX x with
    |none=>simp[hs,hx] at hc
    |some x'=>
     cases hl:mO lo with
     |none=>simp[hs,hx,hl] at hc
     |some l'=>
      cases hh:mO hi with
      |none=>simp[hs,hx,hl,hh] at hc
      |some h2=>
       cases hm:mO mx with
       |none=>simp[hs,hx,hl,hh,hm] at hc
       |some m'=>
        simp[hs,hx,hl,hh,hm] at hc;subst hc
        simp only[dz] at he
        obtain⟨u,g1,g2,rfl⟩:=gP he
        obtain⟨cv,k1,k2⟩:=G5 hR H hu hs (dF hR hx g1) hl hh hm g2
        exact kU.dQ H k1 k2
  ·rename_i hu
   cases hx:bX x with
   |none=>simp[hx] at hc
   |some x'=>
    cases hl:mO lo with
    |none=>simp[hx,hl] at hc
    |some l'=>
     cases hh:mO hi with
     |none=>simp[hx,hl,hh] at hc
     |some h2=>
      simp[hx,hl,hh] at hc;subst hc
      simp only[dz] at he
      obtain⟨u,g1,g2,rfl⟩:=gP he
      obtain⟨cv,k1,k2⟩:=GN (w:=w) hR hu (dF hR hx g1) hl hh g2
      exact kU.dQ (s:=Instr.sliceAt t (a.eval x) (lo.map a.eval) (hi.map a.eval) none) H k1 k2
  ·cases hc
 case fieldAddr s x f=>
  split at hc
  ·rename_i fs hu
   split at hc
   ·rename_i fl hf
    split at hc
    ·rename_i m hm
     cases hx:bX x with
     |none=>simp[hx] at hc
     |some x'=>
      simp[hx] at hc;subst hc
      simp only[dz] at he
      obtain⟨u,g1,g2,rfl⟩:=gP he
      obtain⟨cv,k1,k2⟩:=Mc (w:=w) hu hf rfl hm (dF hR hx g1) g2
      exact kU.dQ H k1 k2
    ·cases hc
   ·cases hc
  ·cases hc
 case field s x f=>
  split at hc
  ·rename_i fs hu
   split at hc
   ·rename_i fl hf
    cases hg:kr P fl.type with
    |none=>simp[hg] at hc
    |some ag=>
     cases hm:sizeT P fl.type with
     |none=>simp[hg,hm] at hc
     |some m=>
      cases hx:bX x with
      |none=>simp[hg,hm,hx] at hc
      |some x'=>
       simp[hg,hm,hx] at hc;subst hc
       simp only[dz] at he
       obtain⟨u,g1,g2,rfl⟩:=gP he
       obtain⟨cv,k1,k2⟩:=OT (w:=w) hu hf rfl hg hm (dF hR hx g1) g2
       exact kU.dQ H k1 k2
   ·cases hc
  ·cases hc
 case indexAddr t x i=>
  split at hc
  ·rename_i e hu
   cases hs:sizeT P e with
   |none=>simp[hs] at hc
   |some sz=>
    cases hx:bX x with
    |none=>simp[hs,hx] at hc
    |some x'=>
     cases hi:bX i with
     |none=>simp[hs,hx,hi] at hc
     |some i'=>
      simp[hs,hx,hi] at hc;subst hc
      simp only[dz] at he
      obtain⟨u,u',g1,g2,g3,rfl⟩:=qB he
      obtain⟨cv,k1,k2⟩:=Kk hu hs H (dF hR hx g1) (dF hR hi g2) g3
      exact kU.dQ H k1 k2
  ·rename_i n e hu
   split at hc
   ·rename_i m hs
    cases hx:bX x with
    |none=>simp[hx] at hc
    |some x'=>
     cases hi:bX i with
     |none=>simp[hx,hi] at hc
     |some i'=>
      simp[hx,hi] at hc;subst hc
      simp only[dz] at he
      obtain⟨u,u',g1,g2,g3,rfl⟩:=qB he
      obtain⟨cv,k1,k2⟩:=II (w:=w) hu hs (dF hR hx g1) (dF hR hi g2) g3
      exact kU.dQ H k1 k2
   ·cases hc
  ·cases hc
 case index t x i=>
  split at hc
  ·rename_i hu
   cases hx:bX x with
   |none=>simp[hx] at hc
   |some x'=>
    cases hi:bX i with
    |none=>simp[hx,hi] at hc
    |some i'=>
     simp[hx,hi] at hc;subst hc
     simp only[dz] at he
     obtain⟨u,u',g1,g2,g3,rfl⟩:=qB he
     obtain⟨cv,k1,k2⟩:=Mj (w:=w) hu (dF hR hx g1) (dF hR hi g2) g3
     exact kU.dQ H k1 k2
  ·rename_i n e hu
   cases hg:kr P e with
   |none=>simp[hg] at hc
   |some ag=>
    cases hs:sizeT P e with
    |none=>simp[hg,hs] at hc
    |some m=>
     cases hx:bX x with
     |none=>simp[hg,hs,hx] at hc
     |some x'=>
      cases hi:bX i with
      |none=>simp[hg,hs,hx,hi] at hc
      |some i'=>
       simp[hg,hs,hx,hi] at hc;subst hc
       simp only[dz] at he
       obtain⟨u,u',g1,g2,g3,rfl⟩:=qB he
       obtain⟨cv,k1,k2⟩:=MP (w:=w) hu hg hs (dF hR hx g1) (dF hR hi g2) g3
       exact kU.dQ H k1 k2
  ·cases hc
 case lookup t m k ok=>
  split at hc
  ·rename_i kt e hu
   cases hk:rY P kt with
   |none=>simp[hk] at hc
   |some kk=>
    cases hz:je P e with
    |none=>simp[hk,hz] at hc
    |some z=>
     cases hx:bX m with
     |none=>simp[hk,hz,hx] at hc
     |some x'=>
      cases hi:bX k with
      |none=>simp[hk,hz,hx,hi] at hc
      |some i'=>
       simp[hk,hz,hx,hi] at hc;subst hc
       simp only[dz] at he
       obtain⟨u,u',g1,g2,g3,rfl⟩:=qB he
       obtain⟨cv,k1,k2⟩:=K3 H hu hk hz (dF hR hx g1) (dF hR hi g2) g3
       exact kU.dQ H k1 k2
  ·cases hc
 case mapUpdate t m k u=>
  split at hc
  ·rename_i kt e hu
   cases hk:rY P kt with
   |none=>simp[hk] at hc
   |some kk=>
    cases hx:bX m with
    |none=>simp[hk,hx] at hc
    |some x'=>
     cases hi:bX k with
     |none=>simp[hk,hx,hi] at hc
     |some i'=>
      cases hy:bX u with
      |none=>simp[hk,hx,hi,hy] at hc
      |some y'=>
       simp[hk,hx,hi,hy] at hc;subst hc
       simp only[dz] at he
       split at he
       ·rename_i a1 a2 a3 g1 g2 g3
        obtain⟨h1,rfl⟩:=uD he
        exact kU.ofU (Md H hu hk (dF hR hx g1) (dF hR hi g2) (dF hR hy g3) h1)
       ·cases he
  ·cases hc
 case range t x=>
  split at hc
  ·rename_i kt e hu
   cases hx:bX x with
   |none=>simp[hx] at hc
   |some x'=>
    simp[hx] at hc;subst hc
    simp only[dz] at he
    split at he
    ·rename_i u hu'
     exact kU.ofV (PO H hu (dF hR hx hu') he)
    ·cases he
  ·cases hc
 case next x str=>
  split at hc
  ·cases hx:bX x with
   |none=>simp[hx] at hc
   |some x'=>
    simp[hx] at hc;subst hc
    simp[dz] at he
  ·cases hc
 case entry x=>
  cases hx:bX x with
  |none=>simp[hx] at hc
  |some x'=>
   simp[hx] at hc;subst hc
   simp only[dz] at he
   obtain⟨u,g1,g2,rfl⟩:=gP he
   obtain⟨cv,k1,k2⟩:=Pm H (dF hR hx g1) g2
   exact kU.dQ H k1 k2
 case extract x i=>
  cases hx:bX x with
  |none=>simp[hx] at hc
  |some x'=>
   simp[hx] at hc;subst hc
   simp only[dz] at he
   obtain⟨u,g1,g2,rfl⟩:=gP he
   obtain⟨cv,k1,k2⟩:=PG (w:=w) (P:=P) (dF hR hx g1) g2
   exact kU.dQ H k1 k2
 case call c=>
  split at hc
  ·rename_i b hb
   have:=Dk (ty:=type) (consts:=c.args.map fun | .const _=>true |_=>false) hR H hc he
   have e:=yg (P:=P) (w:=w) hb a.eval type
   have e2:execOp a.eval ⟨dst, .call c,type,pos,after,guard⟩=(do let d ←resolve a.eval c type;invoke d.target d.args):=rfl
   rw[e2,e]
   exact this
  ·rename_i f hf
   cases hx:bX f with
   |none=>simp[hx] at hc
   |some f'=>
    cases hy:kN c.args.toList with
    |none=>simp[hx,hy] at hc
    |some as=>
     simp[hx,hy] at hc;subst hc
     simp[dz] at he
  ·cases hc
end
def FW (r:Option Nat):Fence:={fn:=fun _=>True,depth:=none,alive:=false,round:=r}
theorem Bz (r:Option Nat) (n:Nat):(FW r).depth.isSome=true→1≤n:=fun h=>by cases h
def Ends (P:Program) (B:Base) (φ:eO) (w:World) (K:aC) (e:Ending) (w':World):Prop:=
 ∃v h' cv φ',e= .returned cv∧K v h'=true∧dn φ' v cv∧dI P B φ' h' w'∧φ.le φ'∧Gw B w w'
def oK (P:Program) (B:Base) (φ:eO) (w:World) (K:aC):Result Next→Prop
 | .ok (.value cv) w'=>Ends P B φ w K (.returned cv) w'
 | .ok .skip w'=>Ends P B φ w K (.returned undef) w'
 | .ok (.enter f args) w'=>∀n,CallsIn (FW none) n P f args w' (Ends P B φ w K)
 | .ok (.round l f tmps assign body) w'=>∀n,RoundIn (FW none) n P l f tmps assign body w' (Ends P B φ w K)
 |_=>False
def yN (P:Program) (B:Base) (φ:eO) (w:World) (K:aC) (f:Nat) (args:List AV) (cargs:List Value):Prop:=
 ((callFunc f ⟨cargs⟩).run P w= .ok (.enter f ⟨cargs⟩) w∧∀n,CallsIn (FW none) n P f ⟨cargs⟩ w (Ends P B φ w K))∨
 ((∀v∈args,∀id,v≠ .fn (.yield id) [] [])∧oK P B φ w K ((callFunc f ⟨cargs⟩).run P w))
theorem yN.lands {P:Program} {B:Base} {φ:eO} {w:World} {K:aC} {f:Nat} {args:List AV} {cargs:List Value} (h:yN P B φ w K f args cargs):oK P B φ w K ((callFunc f ⟨cargs⟩).run P w):=by
 rcases h with⟨h1,h2⟩|⟨_,h⟩
 ·rw[h1];exact h2
 ·exact h
def oM (P:Program) (call:ay):Prop:=
 ∀(tgt:Qa) (args:List AV) (h:aj) (K:aC),call tgt args h K=true→∀(B:Base) (φ:eO) (w:World) (cargs:List Value),dI P B φ h w→dH φ args cargs→
  match tgt with
  | .func f=>yN P B φ w K f args cargs
  | .yield id=>∀L,φ id 0=some L→oK P B φ w K ((Instr.yield L.blk ⟨cargs⟩).run P w)
section
variable {P:Program} {B:Base} {φ:eO} {h h':aj} {w:World} {v:AV} {N:Nat} {ρ:dY} {a:Act} {call:ay}
theorem oK.of_sim {K:aC} {r:Result Next} (hs:kU P B φ h' v w r) (hK:K v h'=true):oK P B φ w K r:=by
 obtain⟨cv,w',φ',hr,h1,h2,h3,h4⟩:=hs
 rcases hr with rfl |⟨rfl,rfl⟩
 ·exact⟨v,h',cv,φ',rfl,hK,h1,h2,h3,h4⟩
 ·exact⟨v,h',undef,φ',rfl,hK,h1,h2,h3,h4⟩
theorem ku {op:rU} {K:aC} (hn:mH op=false):kL call ρ h op K=(match dz ρ h op with |some (v,h')=>K v h' |none=>false):=by
 cases op<;>first |rfl |cases hn
theorem Ig {o:Oper} {op:rU} {K:aC} (hcall:oM P call) (hR:kI φ N ρ a.tmps) (H:dI P B φ h w) (hc:jM P o.op=some op) (he:kL call ρ h op K=true):oK P B φ w K ((execOp a.eval o).run P w):=by
 have plain:kF P o.op=some op→mH op=false→oK P B φ w K ((execOp a.eval o).run P w):=by
  intro hr hn
  rw[ku hn] at he
  split at he
  ·rename_i v h' hv
   exact oK.of_sim (Ib hR H hr hv) he
  ·cases he
 have chk:rM P o.op=some op→oK P B φ w K ((execOp a.eval o).run P w):=by
  intro hk
  unfold rM at hk
  split at hk
  ·rename_i x hx
   cases hi:mH x with
   |true=>rw[hi] at hk;cases hk
   |false=>rw[hi] at hk;cases hk;exact plain hx hi
  ·cases hk
 unfold jM at hc
 split at hc
 ·rename_i c hop
  split at hc
  ·rename_i f hf
   split at hc
   ·rename_i g as hg has
    cases hc
    simp only[kL] at he
    split at he
    ·rename_i tgt first cap vs h1 h2
     have hr1:=dF hR hg h1
     have hr2:=qG hR has h2
     have hexec:(execOp a.eval o).run P w=(do let d ←Deferred.ofValue (a.eval f) (c.args.map a.eval);invoke d.target d.args:Sem Next).run P w:=by
      simp only[execOp,hop,resolve,hf]
     rw[hexec]
     generalize a.eval f=cf at hr1
     have hargs:(c.args.map a.eval)=⟨c.args.toList.map a.eval⟩:=by apply Array.ext';simp
     cases hr1 with
     |func ha hb=>
      rename_i fid fst' cap'
      have:=hcall _ _ _ _ he B φ w _ H ((ha.append hr2).append hb)
      simp only at this
      simp only[Deferred.ofValue,Sem.run_bind,Sem.run_pure,Result.andThen_ok,invoke]
      have e:(⟨fst'⟩:Array Value)++c.args.map a.eval++⟨cap'⟩=⟨fst'++c.args.toList.map a.eval++cap'⟩:=by
       rw[hargs];apply Array.ext';simp
      rw[e]
      exact yN.lands this
     |yield hL=>
      rename_i id L
      have:=hcall _ _ _ _ he B φ w (c.args.toList.map a.eval) H (by simpa using hr2)
      simp only at this
      simp only[Deferred.ofValue,Sem.run_bind,Sem.run_pure,Result.andThen_ok,invoke]
      have e:(#[]:Array Value)++c.args.map a.eval=⟨c.args.toList.map a.eval⟩:=by
       rw[hargs];apply Array.ext';simp
      rw[e]
      exact this L hL
    ·cases he
   ·cases hc
  ·exact chk hc
 ·rename_i x str hop
  split at hc
  ·split at hc
   ·rename_i y hy
    cases hc
    simp only[kL] at he
    split at he
    ·rename_i u hu
     obtain⟨v,h',hK,hs⟩:=K9 (ty:=o.type) H (dF hR hy hu) he
     have:kU P B φ h' v w ((execOp a.eval o).run P w):=by
      simp only[execOp,hop]
      exact kU.ofV hs
     exact oK.of_sim this hK
    ·cases he
   ·cases hc
  ·cases hc
 ·exact chk hc
structure At (P:Program) (B:Base) (N:Nat) (φ:eO) (σ:St) (a:Act) (w:World):Prop where
 regs:kI φ N σ.regs a.tmps
 heap:dI P B φ σ.h w
theorem jk {ops:Array Oper} {o:Oper} {x:dA} (hc:mK P N ops o=some x):
 x.dst=o.dst∧Dx N o.dst=true∧x.op=(jM P o.op).getD .fail∧((o.guard=none∧x.grd=none)∨∃j wt g d,o.guard=some (j,wt)∧ops[j]? =some g∧g.dst=some d∧x.grd=some (d,wt)):=by
 unfold mK at hc
 cases hd:Dx N o.dst with
 |false=>rw[hd] at hc;cases hc
 |true=>
  rw[hd,cond_true] at hc
  split at hc
  ·rename_i hg;cases hc;exact⟨rfl,rfl,rfl, .inl ⟨hg,rfl⟩⟩
  ·rename_i j wt hg
   split at hc
   ·rename_i g hgj
    split at hc
    ·rename_i d hdd
     cases hc
     exact⟨rfl,rfl,rfl, .inr ⟨j,wt,g,d,hg,hgj,hdd,rfl⟩⟩
    ·cases hc
   ·cases hc
theorem nM {ops:Array Oper} {o:Oper} {x:dA} (hc:mK P N ops o=some x) (hR:kI φ N ρ a.tmps) {b:Bool} (hw:gB ρ x.grd=some b):Region.wanted o (yielded ops a.tmps)=b:=by
 obtain⟨_,_,_,hg⟩:=jk hc
 unfold Region.wanted
 rcases hg with⟨h1,h2⟩|⟨j,wt,g,d,h1,h2,h3,h4⟩
 ·rw[h1];rw[h2] at hw;simp[gB] at hw;subst hw;rfl
 ·rw[h1]
  rw[h4] at hw
  simp only[gB] at hw
  split at hw
  ·rename_i c hd
   cases hw
   obtain⟨cv,e1,e2⟩:=hR.2 d _ hd
   cases e2
   have:yielded ops a.tmps j=some c:=by simp[yielded,h2,h3,e1]
   simp[this]
  ·rename_i v hnb hd
   cases hw
   obtain⟨cv,e1,e2⟩:=hR.2 d _ hd
   have:yielded ops a.tmps j=none:=by
    simp only[yielded,h2,Option.bind_some,h3,e1]
    cases e2<;>first |rfl |exact absurd rfl (hnb _)
   simp[this]
  ·cases hw
theorem SY {o:Oper} {op:rU} (hc:jM P o.op=some op):∀c,o.op≠ .defer c:=by
 intro c e
 rw[e] at hc
 simp[jM,rM,kF] at hc
theorem Bv {r:Option Nat} {n:Nat} {o:Oper} {op:rU} {K:aC} {next:Act→World→Prop} {Q:Exit→Act→World→Prop} (hc:jM P o.op=some op) (hl:oK P B φ w K ((execOp a.eval o).run P w))
 (hnext:∀v h' cv φ' w',K v h'=true→dn φ' v cv→dI P B φ' h' w'→φ.le φ'→Gw B w w'→next (a.put o.dst cv) w'):o.wpIn (FW r) n P a w next Q:=by
 refine⟨fun _ _=>trivial, ?_⟩
 rw[Oper.semAt_eq _ _ _ (SY hc)]
 generalize(execOp a.eval o).run P w=res at hl
 have fin:∀e w',Ends P B φ w K e w'→∃cv,e= .returned cv∧next (a.put o.dst cv) w':=by
  rintro e w' ⟨v,h',cv,φ',rfl,hK,g1,g2,g3,g4⟩
  exact⟨cv,rfl,hnext v h' cv φ' w' hK g1 g2 g3 g4⟩
 cases res with
 |halt x w'=>exact hl.elim
 |ok nx w'=>
  cases nx<;>try exact hl.elim
  case value cv=>
   obtain⟨cv',e,hn⟩:=fin _ _ hl
   cases e
   exact hn
  case skip=>
   obtain⟨cv',e,hn⟩:=fin _ _ hl
   cases e
   exact hn
  case enter f args=>
   refine⟨Bz r n, ?_⟩
   refine CallsIn.mono (show CallsIn (FW r) (n-1) P f args w' (Ends P B φ w K) from hl (n-1)) ?_
   intro e w'' hee
   obtain⟨cv',rfl,hn⟩:=fin _ _ hee
   exact hn
  case round l f tmps assign body=>
   refine⟨Bz r n, ?_⟩
   refine RoundIn.mono (show RoundIn (FW r) (n-1) P l f tmps assign body w' (Ends P B φ w K) from hl (n-1)) ?_
   intro e w'' hee
   obtain⟨cv',rfl,hn⟩:=fin _ _ hee
   exact hn
theorem Ew {r:Option Nat} {n:Nat} {o:Oper} {op:rU} {K:aC} {next:Act→World→Prop} {Q:Exit→Act→World→Prop} (hcall:oM P call) (hR:kI φ N ρ a.tmps) (H:dI P B φ h w) (hc:jM P o.op=some op)
 (he:kL call ρ h op K=true) (hnext:∀v h' cv φ' w',K v h'=true→dn φ' v cv→dI P B φ' h' w'→φ.le φ'→Gw B w w'→next (a.put o.dst cv) w'):o.wpIn (FW r) n P a w next Q:=
 Bv hc (Ig hcall hR H hc he) hnext
theorem put_defers (a:Act) (d:Option Tmp) (v:Value):(a.put d v).defers=a.defers:=by cases d<;>rfl
theorem Oy {r:Option Nat} {n:Nat} {ops:Array Oper} {i:Nat} {o:Oper} {x:dA} {σ:St} {K:TL} {next:Act→World→Prop} {Q:Exit→Act→World→Prop} (hcall:oM P call) (hi:ops[i]? =some o) (hc:mK P N ops o=some x) (A:At P B N φ σ a w)
 (hs:gu call x σ K=true) (hnext:∀v σ' a' w' φ',K v σ'=true→At P B N φ' σ' a' w'→a'.defers=a.defers→φ.le φ'→Gw B w w'→next a' w'):wpOpIn (FW r) n P ops Q i next a w:=by
 obtain⟨h1,h2,h3,h4⟩:=jk hc
 unfold wpOpIn
 simp only[hi]
 unfold gu at hs
 split at hs
 ·rename_i hw
  rw[nM hc A.regs hw]
  simp only[if_true]
  cases hop:jM P o.op with
  |none=>rw[hop] at h3;rw[h3] at hs;simp[kL,dz] at hs
  |some op=>
   rw[hop] at h3
   simp only[Option.getD_some] at h3
   rw[h3] at hs
   refine Ew (K:=fun v h'=>K v ⟨put σ.regs x.dst v,h'⟩) hcall A.regs A.heap hop hs ?_
   intro v h' cv φ' w' hK g1 g2 g3 g4
   exact hnext v _ _ w' φ' hK ⟨by simp only;rw[h1];exact(A.regs.mono g3).put h2 g1,g2⟩ (put_defers _ _ _) g3 g4
 ·rename_i hw
  rw[nM hc A.regs hw]
  simp only[Bool.false_eq_true,if_false]
  refine⟨fun _ _=>trivial,hnext _ _ _ w φ hs ⟨?_,A.heap⟩ (put_defers _ _ _) φ.le_refl (Gw.refl B w)⟩
  simp only
  rw[h1]
  exact A.regs.put h2 (.tup .nil)
 ·cases hs
theorem BS {r:Option Nat} {n:Nat} {ops:Array Oper} {Q:Exit→Act→World→Prop} (hcall:oM P call):∀(l:List Oper) (al:List dA) (k:Nat) (σ:St) (K:St→Bool) (φ:eO) (a:Act) (w:World),
 (∀j,l[j]? =ops[k+j]?)→iA P N ops l=some al→At P B N φ σ a w→l8 call al σ K=true→
 (∀σ' a' w' φ',K σ'=true→At P B N φ' σ' a' w'→a'.defers=a.defers→φ.le φ'→Gw B w w'→Q .normal a' w')→wpOpsIn (FW r) n P ops Q (List.range' k l.length) a w
 | [],al,k,σ,K,φ,a,w,hl,hc,A,hr,hQ=>by
   simp[iA] at hc;subst hc
   simp only[l8] at hr
   exact hQ σ a w φ hr A rfl φ.le_refl (Gw.refl B w)
 |o :: l,al,k,σ,K,φ,a,w,hl,hc,A,hr,hQ=>by
  simp only[iA] at hc
  split at hc
  ·rename_i x hx
   split at hc
   ·rename_i al' hal
    cases hc
    simp only[l8] at hr
    have hk:ops[k]? =some o:=by rw[←Nat.add_zero k, ←hl 0];rfl
    simp only[List.length_cons,List.range'_succ]
    rw[wpOpsIn_cons]
    refine Oy hcall hk hx A hr ?_
    intro v σ' a' w' φ' hK A' hd hle hg
    refine BS hcall l al' (k+1) σ' K φ' a' w' (fun j=> ?_) hal A' hK ?_
    ·have:=hl (j+1)
     rw[show k+1+j=k+(j+1) by omega, ←this]
     rfl
    ·intro σ2 a2 w2 φ2 hK2 A2 hd2 hle2 hg2
     exact hQ σ2 a2 w2 φ2 hK2 A2 (hd2.trans hd) (eO.le_trans hle hle2) (hg.trans hg2)
   ·cases hc
  ·cases hc
theorem Ox {r:Option Nat} {n id:Nat} {ops:Array Oper} {al:List dA} {Q:Exit→Act→World→Prop} {σ:St} {K:St→Bool} (hcall:oM P call) (hc:iA P N ops ops.toList=some al) (A:At P B N φ σ a w) (hr:l8 call al σ K=true)
 (hQ:∀σ' a' w' φ',K σ'=true→At P B N φ' σ' a' w'→a'.defers=a.defers→φ.le φ'→Gw B w w'→Q .normal a' w'):(Code.region id ops false).wpIn (FW r) n P Q a w:=by
 refine wpIn_region ?_
 have:=BS (r:=r) (n:=n) (Q:=Q) hcall ops.toList al 0 σ K φ a w (fun j=>by simp) hc A hr hQ
 rw[Array.length_toList, ←List.range_eq_range'] at this
 exact this
end
def fI (ρ ρ':dY) (l:List Nat):Prop:=∀t∈l,ρ.get t=ρ'.get t
section
variable {ρ ρ':dY} {h h':aj} {v:AV}
theorem fI.left {l m:List Nat} (k:fI ρ ρ' (l++m)):fI ρ ρ' l:=fun t ht=>k t (List.mem_append_left _ ht)
theorem fI.right {l m:List Nat} (k:fI ρ ρ' (l++m)):fI ρ ρ' m:=fun t ht=>k t (List.mem_append_right _ ht)
theorem bV {x:gJ} (k:fI ρ ρ' (EF x)):ev ρ x=ev ρ' x:=by
 cases x with
 |t r=>exact k r (by simp[EF])
 |c v=>rfl
theorem qm:∀{l:List gJ},fI ρ ρ' (ME l)→evs ρ l=evs ρ' l
 | [],_=>rfl
 |x :: l,k=>by
  simp only[ME] at k
  simp only[evs,bV k.left,qm k.right]
theorem nR {d:Nat} {x:Option gJ} (k:fI ρ ρ' (DC x)):kT ρ d x=kT ρ' d x:=by
 cases x with
 |none=>rfl
 |some x=>simp only[kT,bV (show fI ρ ρ' (EF x) from k)]
theorem zq:∀{l:List (Nat×Nat×gJ)} {c:List AV},fI ρ ρ' (tsP l)→rT ρ c l=rT ρ' c l
 | [],_,_=>rfl
 |(a,b,x) :: l,c,k=>by
  simp only[tsP] at k
  simp only[rT,bV k.left]
  split
  ·rw[zq k.right]
  ·rfl
theorem vF {sz:Nat}:∀{l:List (Nat×gJ)} {c:List (List AV)},fI ρ ρ' (tsQ l)→jR ρ sz c l=jR ρ' sz c l
 | [],_,_=>rfl
 |(a,x) :: l,c,k=>by
  simp only[tsQ] at k
  simp only[jR,bV k.left]
  split
  ·rw[vF k.right]
  ·rfl
theorem lQ {op:rU} (k:fI ρ ρ' (X7 op)):dz ρ h op=dz ρ' h op:=by
 cases op<;>simp only[X7] at k<;>simp only[dz,zK,Tk]
 case mv=>rw[bV k]
 case pick=>rw[bV k.left.left,bV k.left.right,bV k.right]
 case box=>rw[bV k]
 case build=>rw[zq k]
 case bslice=>rw[vF k]
 case load=>rw[bV k]
 case store=>rw[bV k.left,bV k.right]
 case nilck=>rw[bV k]
 case bin=>rw[bV k.left,bV k.right]
 case eq=>rw[bV k.left,bV k.right]
 case not=>rw[bV k]
 case neg=>rw[bV k]
 case conv=>rw[bV k]
 case b2s=>rw[bV k]
 case cvs=>rw[bV k]
 case mkfn=>rw[qm k.left,qm k.right]
 case mksl=>rw[bV k.left,bV k.right]
 case sl sz x lo hi mx=>
  have k4:=k.right
  have e:∀v,tN ρ h sz v lo hi mx=tN ρ' h sz v lo hi mx:=by
   intro v
   simp only[tN,nR k.left.left.right,nR k.left.right]
   cases mx with
   |none=>rfl
   |some m=>simp only[nR k4]
  simp only[bV k.left.left.left,e]
 case sls=>simp only[Ay,bV k.left.left,nR k.left.right,nR k.right]
 case fadr=>rw[bV k]
 case fld=>rw[bV k]
 case iadr=>rw[bV k.left,bV k.right]
 case iadra=>rw[bV k.left,bV k.right]
 case idxs=>rw[bV k.left,bV k.right]
 case idxa=>rw[bV k.left,bV k.right]
 case look=>rw[bV k.left,bV k.right]
 case mupd=>rw[bV k.left.left,bV k.left.right,bV k.right]
 case ext=>rw[bV k]
 case len=>rw[bV k]
 case cap=>rw[bV k]
 case app=>rw[bV k.left,bV k.right]
 case appz=>rw[bV k.left,bV k.right]
 case copy=>rw[bV k.left,bV k.right]
 case del=>rw[bV k.left,bV k.right]
 case clr=>rw[bV k]
 case mm=>rw[qm k]
 case appb=>rw[bV k.left,bV k.right]
 case ustr=>rw[bV k.left,bV k.right]
 case uto=>rw[bV k]
 case ufr=>rw[bV k]
 case sdat=>rw[bV k]
 case rng=>rw[bV k]
 case ent=>rw[bV k]
theorem Hw {call:ay} {op:rU} {K:aC} (k:fI ρ ρ' (X7 op)):kL call ρ h op K=kL call ρ' h op K:=by
 cases hn:mH op with
 |false=>rw[ku hn,ku hn,lQ k]
 |true=>
  cases op<;>first |(cases hn;done)|skip
  case nxt x=>simp only[kL,bV (show fI ρ ρ' (EF x) from k)]
  case call f l=>
   simp only[X7] at k
   simp only[kL,bV k.left,qm k.right]
theorem FK {g:Option (Nat×Bool)} {op:rU} {d:Option Nat} (k:fI ρ ρ' (looks ⟨d,op,g⟩)):gB ρ g=gB ρ' g:=by
 cases g with
 |none=>rfl
 |some p=>
  obtain⟨j,b⟩:=p
  simp only[gB,k j (by simp[looks])]
theorem qF {o:dA} (k:fI ρ ρ' (looks o)):fI ρ ρ' (X7 o.op):=by
 intro t ht
 refine k t ?_
 unfold looks
 split
 ·exact List.mem_cons_of_mem _ ht
 ·exact ht
theorem qI {o:dA} (k:fI ρ ρ' (looks o)):gB ρ o.grd=gB ρ' o.grd:=by
 obtain⟨d,op,g⟩:=o
 exact FK k
theorem zI {op:rU} (hc:kD op<2) (he:dz ρ h op=some (v,h')):h'=h:=by
 cases op<;>first |(simp[kD] at hc;done)|skip
 all_goals simp only[dz] at he
 all_goals first |(exact(iQ he).2)|(cases he;done)|skip
 case pick=>
  split at he
  ·exact(iQ he).2
  ·exact(iQ he).2
  ·cases he
 case build=>
  split at he
  ·cases he;rfl
  ·cases he
 case eq=>
  split at he
  ·split at he
   ·cases he;rfl
   ·cases he
  ·cases he
 case mkfn=>
  split at he
  ·cases he;rfl
  ·cases he
 case mm=>
  split at he
  ·exact(iQ he).2
  ·cases he
theorem xM {r:Option AV} {g:aj} (he:dQ r h=some (v,h')):dQ r g=some (v,g):=by
 rw[(iQ he).1];rfl
theorem Jl {op:rU} {g:aj} (hc:kD op=0) (he:dz ρ h op=some (v,h')):dz ρ g op=some (v,g):=by
 cases op<;>first |(simp[kD] at hc;done)|skip
 all_goals simp only[dz] at he ⊢
 all_goals first |(exact xM he)|(cases he;done)|skip
 case pick=>
  split at he
  ·exact xM he
  ·exact xM he
  ·cases he
 case build=>
  split at he
  ·cases he;rfl
  ·cases he
 case mkfn=>
  split at he
  ·cases he;rfl
  ·cases he
 case mm=>
  split at he
  ·exact xM he
  ·cases he
theorem Uu {a b:IntKind} (k:Nat.beq (rC a) (rC b)=true):a=b:=by
 cases a<;>cases b<;>first |rfl |(exact absurd k (by decide))
theorem OA {f g:Qa} (k:Lj f g=true):f=g:=by
 cases f<;>cases g<;>simp only[Lj] at k<;>first |(cases k;done)|rw[Nat.eq_of_beq_eq_true k]
mutual
theorem same_eq (a b:AV) (k:AV.same a b=true):a=b:=by
 cases a<;>cases b<;>simp only[AV.same,Bool.and_eq_true] at k<;>try(cases k;done)
 case bool.bool=>rw[eq_of_beq k]
 case int.int=>rw[Uu k.1,eq_of_beq ((rG _ _).symm.trans k.2)]
 case str.str=>rw[eq_of_beq ((zS _ _).symm.trans k)]
 case ptr.ptr=>rw[Nat.eq_of_beq_eq_true k.1.1.1,Nat.eq_of_beq_eq_true k.1.1.2,Nat.eq_of_beq_eq_true k.1.2,Nat.eq_of_beq_eq_true k.2]
 case nilPtr.nilPtr=>rfl
 case slc.slc=>rw[Nat.eq_of_beq_eq_true k.1.1.1.1.1,Nat.eq_of_beq_eq_true k.1.1.1.1.2,Nat.eq_of_beq_eq_true k.1.1.1.2,Nat.eq_of_beq_eq_true k.1.1.2,Nat.eq_of_beq_eq_true k.1.2,eq_of_beq k.2]
 case nilSlc.nilSlc=>rfl
 case emp.emp=>rfl
 case map.map=>rw[Nat.eq_of_beq_eq_true k]
 case nilMap.nilMap=>rfl
 case fn.fn f l m f' l' m'=>
  rw[OA k.1.1,uf _ _ k.1.2,uf _ _ k.2]
 case nilFn.nilFn=>rfl
 case agg.agg=>rw[uf _ _ k]
 case tup.tup=>rw[uf _ _ k]
 case nilIf.nilIf=>rfl
 case ifc.ifc=>rw[Nat.eq_of_beq_eq_true k.1,same_eq _ _ k.2]
 termination_by SizeOf.sizeOf a
theorem uf (a b:List AV) (k:xP a b=true):a=b:=by
 cases a<;>cases b<;>simp only[xP,Bool.and_eq_true] at k<;>try(cases k;done)
 case nil.nil=>rfl
 case cons.cons=>rw[same_eq _ _ k.1,uf _ _ k.2]
 termination_by SizeOf.sizeOf a
end
theorem mF {n:Nat}:∀{l:List Nat},nI n l=true↔n∈l
 | []=>by simp[nI]
 |m :: l=>by
  simp only[nI,List.mem_cons]
  cases hb:Nat.beq n m with
  |true=>simp[Nat.eq_of_beq_eq_true hb]
  |false=>
   have:n≠m:=fO.1 hb
   simp[this,mF]
theorem jE {p:Nat→Bool}:∀{l:List Nat},rW l p=true↔∀i∈l,p i=true
 | []=>by simp[rW]
 |m :: l=>by
  simp only[rW]
  cases hb:p m with
  |true=>simp[hb,jE]
  |false=>simp[hb]
theorem qA {l m:List Nat}:lT l m=true↔∀i∈l,i ∉ m:=by
 unfold lT
 rw[jE]
 constructor
 ·intro k i hi hm
  have:=k i hi
  rw[mF.2 hm] at this
  cases this
 ·intro k i hi
  cases hb:nI i m with
  |false=>rfl
  |true=>exact absurd (mF.1 hb) (k i hi)
def restrict (ρ:dY):List Nat→dY
 | []=> .lf
 |t :: l=>match ρ.get t with
  |some v=>(restrict ρ l).set t v
  |none=>restrict ρ l
theorem ou {ρ:dY} {t:Nat}:∀{l:List Nat},(restrict ρ l).get t=if t∈l then ρ.get t else none
 | []=>by simp[restrict,PT.get_lf]
 |u :: l=>by
  unfold restrict
  split
  ·rename_i v hv
   rw[PT.get_set]
   by_cases e:t=u
   ·subst e;simp[hv]
   ·rw[if_neg e,ou];simp[e]
  ·rename_i hv
   rw[ou]
   by_cases e:t=u
   ·subst e;simp[hv]
   ·simp[e]
theorem oV {ρ:dY} {l:List Nat}:fI (restrict ρ l) ρ l:=fun t ht=>by rw[ou,if_pos ht]
theorem FZ {d:Option Nat} {t:Nat} (hd:d≠some t):(put ρ d v).get t=ρ.get t:=by
 cases d with
 |none=>rfl
 |some d=>simp only[put];rw[PT.get_set,if_neg (fun e=>hd (by rw[e]))]
theorem wS {d:Nat}:(put ρ (some d) v).get d=some v:=by simp only[put];rw[PT.get_set,if_pos rfl]
theorem nN {o:dA} {d:Nat}:d∈mP o↔o.dst=some d:=by
 unfold mP
 split
 ·rename_i e he;simp[he,eq_comm]
 ·rename_i he;simp[he]
end
section
variable {P:Program} {B:Base} {φ:eO} {h h':aj} {w:World} {v:AV} {N:Nat} {ρ:dY} {a:Act}
theorem IX {x:Op} {op:rU} (h:rM P x=some op):kF P x=some op:=by
 unfold rM at h
 split at h
 ·rename_i y hy
  cases hi:mH y with
  |true=>rw[hi] at h;cases h
  |false=>rw[hi] at h;cases h;exact hy
 ·cases h
theorem ER {o:Oper} (he:mU o=true):o.guard=none∧((∃t,o.op= .alloc t)∨(∃t x,o.op= .box t x)∨(∃t,o.op= .makeMap t none)∨∃t l c,o.op= .makeSlice t l c):=by
 unfold mU at he
 split at he
 ·cases he
 ·rename_i hg
  refine⟨hg, ?_⟩
  split at he
  ·rename_i t ho;exact .inl ⟨t,ho⟩
  ·rename_i t x ho;exact .inr (.inl ⟨t,x,ho⟩)
  ·rename_i t l c ho;exact .inr (.inr (.inr ⟨t,l,c,ho⟩))
  ·rename_i t ho;exact .inr (.inr (.inl ⟨t,ho⟩))
  ·cases he
theorem vS {o:Oper} {op:rU} (hc:jM P o.op=some op) (he:mU o=true):
 (∃t z,o.op= .alloc t∧je P t=some z∧op=bif uE z.cells then .allot t z.cells else .alloc z.cells)∨
 (∃t x n y,o.op= .box t x∧sizeT P t=some n∧bX x=some y∧op= .box n y)∨
 (∃t,o.op= .makeMap t none∧op= .mkmap)∨
 ∃t l c e sz bytes z x y,o.op= .makeSlice t l c∧P.underlying t=some (.slice e)∧sizeT P e=some sz∧qP P e=some bytes∧je P e=some z∧bX l=some x∧bX c=some y∧op= .mksl sz bytes z.cells x y:=by
 obtain⟨_,⟨t,ho⟩|⟨t,x,ho⟩|⟨t,ho⟩|⟨t,l,c,ho⟩⟩:=ER he
 all_goals
  rw[ho] at hc
  simp only[jM] at hc
  have hr:=IX hc
  simp only[kF] at hr
 ·cases hz:je P t with
  |none=>rw[hz] at hr;cases hr
  |some z=>rw[hz] at hr;cases hr;exact .inl ⟨t,z,ho,hz,rfl⟩
 ·cases hs:sizeT P t with
  |none=>simp[hs] at hr
  |some n=>
   cases hx:bX x with
   |none=>simp[hs,hx] at hr
   |some y=>simp[hs,hx] at hr;exact .inr (.inl ⟨t,x,n,y,ho,hs,hx,hr.symm⟩)
 ·cases hr;exact .inr (.inr (.inl ⟨t,ho,rfl⟩))
 ·split at hr
  ·rename_i e hu
   cases hs:sizeT P e with
   |none=>simp[hs] at hr
   |some sz=>
    cases hb:qP P e with
    |none=>simp[hs,hb] at hr
    |some bytes=>
     cases hz:je P e with
     |none=>simp[hs,hb,hz] at hr
     |some z=>
      cases hl:bX l with
      |none=>simp[hs,hb,hz,hl] at hr
      |some l'=>
       cases hcc:bX c with
       |none=>simp[hs,hb,hz,hl,hcc] at hr
       |some c'=>
        simp[hs,hb,hz,hl,hcc] at hr
        exact .inr (.inr (.inr ⟨t,l,c,e,sz,bytes,z,l',c',ho,hu,hs,hb,hz,hl,hcc,hr.symm⟩))
  ·cases hr
theorem MG {o:Oper} {op:rU} (hc:jM P o.op=some op) (he:mU o=true) (hv:dz ρ h op=some (v,h')):mH op=false∧∃ob,h'=h.push ob:=by
 rcases vS hc he with⟨t,z,_,hz,rfl⟩|⟨t,x,n,y,_,_,_,rfl⟩|⟨t,_,rfl⟩|⟨t,l,c,e,sz,bytes,z,x,y,_,_,_,_,_,_,_,rfl⟩
 ·cases hn:uE z.cells with
  |true=>
   rw[hn,cond_true] at hv;rw[cond_true]
   simp only[dz] at hv
   cases hb:(Nat.blt 0 z.cells.length&&aV z.cells) with
   |false=>rw[hb] at hv;cases hv
   |true=>rw[hb,cond_true] at hv;cases hv;exact⟨rfl,_,rfl⟩
  |false=>
   rw[hn,cond_false] at hv;rw[cond_false]
   simp only[dz] at hv
   obtain⟨_,ob,h1,_⟩:=sO hv
   exact⟨rfl,ob,h1⟩
 ·simp only[dz] at hv
  split at hv
  ·rename_i u hu
   unfold iY at hv
   cases hb:(Nat.beq u.cells.length n&&aV u.cells&&Nat.blt 0 n) with
   |false=>rw[hb] at hv;cases hv
   |true=>rw[hb,cond_true] at hv;cases hv;exact⟨rfl,_,rfl⟩
  ·cases hv
 ·simp only[dz] at hv
  cases hv;exact⟨rfl,_,rfl⟩
 ·simp only[dz] at hv
  split at hv
  ·obtain⟨ob,h1,_⟩:=BJ hv
   exact⟨rfl,ob,h1⟩
  ·cases hv
theorem LD {o:Oper} {op:rU} {hp:aj} {ob:iq} (hR:kI φ N ρ a.tmps) (H:dI P B φ h w) (hc:jM P o.op=some op) (he:mU o=true) (hv:dz ρ hp op=some (v,hp.push ob)) (hg:B.gh hp.sz=some ob):
 kU P (B.del hp.sz) φ h v w ((execOp a.eval o).run P w):=by
 rcases vS hc he with⟨t,z,ho,hz,rfl⟩|⟨t,x,n,y,ho,hs,hx,rfl⟩|⟨t,ho,rfl⟩|⟨t,l,c,e,sz,bytes,z,x,y,ho,hu,hs,hb,hz,hl,hcc,rfl⟩
 ·cases hn:uE z.cells with
  |true=>
   rw[hn,cond_true] at hv
   simp only[dz] at hv
   cases hb:(Nat.blt 0 z.cells.length&&aV z.cells) with
   |false=>rw[hb] at hv;cases hv
   |true=>
    rw[hb,cond_true] at hv
    simp only[Option.some.injEq,Prod.mk.injEq] at hv
    obtain⟨rfl,e⟩:=hv
    have hob:=push_inj e
    subst hob
    simp only[execOp,ho]
    exact kU.ofV (KN H hz rfl hb hg)
  |false=>
   rw[hn,cond_false] at hv
   simp only[dz] at hv
   simp only[execOp,ho]
   exact kU.ofV (zw H hz rfl hv hg)
 ·simp only[dz] at hv
  split at hv
  ·rename_i u hu
   unfold iY at hv
   cases hb:(Nat.beq u.cells.length n&&aV u.cells&&Nat.blt 0 n) with
   |false=>rw[hb] at hv;cases hv
   |true=>
    rw[hb,cond_true] at hv
    simp only[Option.some.injEq,Prod.mk.injEq] at hv
    obtain⟨rfl,e⟩:=hv
    have hob:=push_inj e
    subst hob
    simp only[execOp,ho]
    exact kU.ofV (BO H (dF hR hx hu) hb hg)
  ·cases hv
 ·simp only[dz] at hv
  simp only[Option.some.injEq,Prod.mk.injEq] at hv
  obtain⟨rfl,e⟩:=hv
  have hob:=push_inj e
  subst hob
  have hle:=eO.le_add (φ:=φ) (id:=hp.sz) (g:=0) ⟨w.heap.size,0,0,0,0⟩ ((H.ghost _ _ hg).2 0)
  have hp':=H.fill hg rfl (L:=⟨w.heap.size,0,0,0,0⟩) (ob:= .map #[] 0) rfl (fun ds e=>by cases e) ⟨_, #[],eO.add_same _ _ _ _,heap_alloc_new w _, .nil⟩
  simp only[execOp,ho]
  exact kU.ofV ⟨.map (some w.heap.size),_,_,by simp[Instr.makeMap], .map (eO.add_same _ _ _ _),hp',hle,Gw.alloc H.base (fun _ _ _ e=>by cases e)⟩
 ·simp only[dz] at hv
  split at hv
  ·rename_i u u' h1 h2
   simp only[execOp,ho]
   exact kU.ofV (Dy H hu hs hb hz (dF hR hl h1) (dF hR hcc h2) hv hg)
  ·cases hv
end
theorem sV {ms:List Nat} {i:Nat}:∀{l:List Edge},(nU ms l).testBit i=true→∃e∈l,Region.binds .any e=true∧(e.on=i∨(mk ms e.on).testBit i=true)
 | [],k=>by simp[nU] at k
 |e :: l,k=>by
  simp only[nU] at k
  cases hb:Region.binds .any e with
  |false=>
   rw[hb] at k
   obtain⟨e',h1,h2⟩:=sV (show(nU ms l).testBit i=true from k)
   exact⟨e',List.mem_cons_of_mem _ h1,h2⟩
  |true=>
   rw[hb,cond_true,Nat.testBit_or,Nat.testBit_or,Bool.or_eq_true,Bool.or_eq_true] at k
   rcases k with(k |k)|k
   ·obtain⟨e',h1,h2⟩:=sV k
    exact⟨e',List.mem_cons_of_mem _ h1,h2⟩
   ·rw[Nat.testBit_two_pow] at k
    exact⟨e,List.mem_cons_self,hb, .inl (by simpa using k)⟩
   ·exact⟨e,List.mem_cons_self,hb, .inr k⟩
def Ce (ops:List Oper) (ms:List Nat):Prop:=∀j i,(mk ms j).testBit i=true→∃o,ops[j]? =some o∧∃e∈o.after,Region.binds .any e=true∧(e.on=i∨(mk ms e.on).testBit i=true)
theorem EI {ms:List Nat} {x j:Nat} (h:j<ms.length):mk (ms++[x]) j=mk ms j:=by
 simp only[mk,lJ];rw[List.getElem?_append_left h]
theorem FR {ms:List Nat} {j:Nat} (h:ms.length≤j):mk ms j=0:=by
 simp only[mk,lJ];rw[List.getElem?_eq_none h];rfl
theorem Ar:∀(l pre:List Oper) (ms:List Nat),ms.length=pre.length→Ce pre ms→Ce (pre++l) (masks l ms)
 | [],pre,ms,hl,hm=>by simpa[masks] using hm
 |o :: l,pre,ms,hl,hm=>by
  have:=Ar l (pre++[o]) (ms++[nU ms o.after.toList]) (by simp[hl]) (by
   intro j i hj
   have lift:∀e:Edge,(mk ms e.on).testBit i=true→(mk (ms++[nU ms o.after.toList]) e.on).testBit i=true:=by
    intro e he
    by_cases hlt:e.on<ms.length
    ·rw[EI hlt];exact he
    ·rw[FR (Nat.le_of_not_lt hlt)] at he;simp at he
   by_cases hlt:j<ms.length
   ·rw[EI hlt] at hj
    obtain⟨o',h1,e,h2,h3,h4⟩:=hm j i hj
    exact⟨o',by rw[List.getElem?_append_left (by omega)];exact h1,e,h2,h3,h4.imp_right (lift e)⟩
   ·by_cases heq:j=ms.length
    ·subst heq
     have hx:mk (ms++[nU ms o.after.toList]) ms.length=nU ms o.after.toList:=by simp[mk,lJ]
     rw[hx] at hj
     obtain⟨e,h2,h3,h4⟩:=sV hj
     exact⟨o,by rw[hl];simp,e,by simpa using h2,h3,h4.imp_right (lift e)⟩
    ·rw[FR (by simp;omega)] at hj;simp at hj)
  simpa[masks] using this
theorem Si (l:List Oper):Ce l (masks l []):=by
 have:=Ar l [] [] rfl (by intro j i hj;rw[FR (by simp)] at hj;simp at hj)
 simpa using this
theorem xJ:∀{l:List Oper} {n:Nat},uP n l=true→∀j o,l[j]? =some o→∀e∈o.after,Region.binds .any e=true→e.on<n+j
 | [],_,_,j,o,hj,_,_,_=>by simp at hj
 |x :: l,n,k,j,o,hj,e,he,hb=>by
  simp only[uP,Bool.and_eq_true] at k
  cases j with
  |zero=>
   simp at hj;subst hj
   have:=List.all_eq_true.1 k.1 e (by simpa using he)
   rw[hb] at this
   simpa using this
  |succ j=>
   have:=xJ k.2 j o (by simpa using hj) e he hb
   omega
section
variable {P:Program} {B B0:Base} {N n:Nat} {ops:Array Oper} {as:List dA} {ms el:List Nat} {call:ay}
abbrev Listed (s:Array Bool) (i:Nat):Prop:=s.getD i false=true
theorem I5 (hm:Ce ops.toList ms) {s:Array Bool} (hs:∀j i,Listed s j→(mk ms j).testBit i=true→Listed s i) {j:Nat} (hr:j∈Region.ready .any ops s):
 ∀i,(mk ms j).testBit i=true→Listed s i:=by
 intro i hi
 obtain⟨_,o,ho,hall⟩:=mem_ready.1 hr
 obtain⟨o',h1,e,h2,h3,h4⟩:=hm j i hi
 have:o'=o:=by
  rw[Array.getElem?_toList,ho] at h1
  exact(Option.some.inj h1).symm
 subst this
 have hl:=hall e h2 h3
 rcases h4 with rfl |h4
 ·exact hl
 ·exact hs _ _ hl h4
theorem DT {s:Array Bool} {j:Nat} (hr:j∈Region.ready .any ops s):¬Listed s j∧j<ops.size∧j<s.size:=by
 obtain⟨h0,o,ho,_⟩:=mem_ready.1 hr
 have hsz:j<s.size:=by
  rcases Nat.lt_or_ge j s.size with h |h
  ·exact h
  ·simp[Array.getElem?_eq_none h] at h0
 refine⟨?_,(Array.getElem?_eq_some_iff.1 ho).1,hsz⟩
 intro hl
 simp[Listed,hsz] at hl h0
 rw[hl] at h0;cases h0
theorem fF {s:Array Bool} {i j:Nat} (hi:i<s.size):Listed (s.setIfInBounds i true) j↔(j=i∨Listed s j):=by
 by_cases h:j=i
 ·subst h;simp[Listed,hi]
 ·unfold Listed;rw[getD_set_ne false (Ne.symm h)];simp[h]
theorem KX (he:uP 0 ops.toList=true) {s:Array Bool} (hsz:s.size=ops.size) (hr:Region.ready .any ops s=[]):∀m j,j<m→j<ops.size→Listed s j:=by
 intro m
 induction m with
 |zero=>intro j h;omega
 |succ m ih=>
  intro j hj hlt
  by_cases hl:Listed s j
  ·exact hl
  ·exfalso
   have:j∈Region.ready .any ops s:=by
    refine mem_ready.2 ⟨?_,ops[j],by simp[hlt], ?_⟩
    ·simp[Listed,hsz,hlt] at hl ⊢;exact hl
    ·intro e hem hb
     have hlt2:=xJ he j ops[j] (by simp[hlt]) e hem hb
     exact ih e.on (by omega) (by omega)
   rw[hr] at this;cases this
def Fact (ρ:dY) (h:aj) (o:dA):Prop:=
 ∃b,gB ρ o.grd=some b∧∃v,(b=true→dz ρ h o.op=some (v,h))∧(b=false→v= .tup [])∧∀d,o.dst=some d→ρ.get d=some v
theorem Fact.agree {ρ ρ':dY} {h:aj} {o:dA} (k:Fact ρ h o) (h1:fI ρ ρ' (looks o)) (h2:fI ρ ρ' (mP o)):Fact ρ' h o:=by
 obtain⟨b,hb,v,e1,e2,e3⟩:=k
 refine⟨b,by rw[←qI h1];exact hb,v,fun t=>by rw[←lQ (qF h1)];exact e1 t,e2,fun d hd=> ?_⟩
 rw[←h2 d (nN.2 hd)];exact e3 d hd
theorem Om {ρ:dY} {d:Option Nat} {v:AV} {l:List Nat} (k:∀t,d=some t→t ∉ l):fI ρ (put ρ d v) l:=by
 intro t ht
 rw[FZ (fun e=>k t e ht)]
theorem iR {ρ:dY} {o:dA} {v:AV} {l:List Nat} (k:lT (mP o) l=true):fI ρ (put ρ o.dst v) l:=
 Om fun t ht=>qA.1 k t (nN.2 ht)
theorem fI.trans {ρ ρ' ρ'':dY} {l:List Nat} (h:fI ρ ρ' l) (k:fI ρ' ρ'' l):fI ρ ρ'' l:=fun t ht=>(h t ht).trans (k t ht)
theorem rF:∀{l:List Nat} {ρ ρ2:dY} {h:aj},vk (l.map (ao as)) ρ h=some ρ2→uN as l=true→
 (∀L,(∀j∈l,lT (mP (ao as j)) L=true)→fI ρ ρ2 L)∧∀i∈l,kD (ao as i).op<2∧Fact ρ2 h (ao as i)
 | [],ρ,ρ2,h,hc,_=>by
   simp[vk] at hc;subst hc
   exact⟨fun _ _ _ _=>rfl,fun i hi=>by cases hi⟩
 |i :: l,ρ,ρ2,h,hc,ho=>by
  simp only[uN] at ho
  cases hg:lT (mP (ao as i)) (looks (ao as i))&&Nat.blt (kD (ao as i).op) 2&&rW l (pX as i) with
  |false=>rw[hg] at ho;cases ho
  |true=>
   rw[hg,cond_true] at ho
   simp only[Bool.and_eq_true] at hg
   obtain⟨⟨g1,g2⟩,g3⟩:=hg
   have hcls:kD (ao as i).op<2:=dL.1 g2
   have hap:=jE.1 g3
   have key:∀v,vk (l.map (ao as)) (put ρ (ao as i).dst v) h=some ρ2→(∀L,(∀j∈i :: l,lT (mP (ao as j)) L=true)→fI ρ ρ2 L)∧
    (Fact (put ρ (ao as i).dst v) h (ao as i)→∀j∈i :: l,kD (ao as j).op<2∧Fact ρ2 h (ao as j)):=by
    intro v hv
    obtain⟨k1,k2⟩:=rF hv ho
    refine⟨fun L hL=>(iR (hL i List.mem_cons_self)).trans (k1 L fun j hj=>hL j (List.mem_cons_of_mem _ hj)),fun hf j hj=> ?_⟩
    rcases List.mem_cons.1 hj with rfl |hj
    ·refine⟨hcls,hf.agree (k1 _ fun j' hj'=> ?_) (k1 _ fun j' hj'=> ?_)⟩
     ·have:=hap j' hj';simp only[pX,Bool.and_eq_true] at this;exact this.1
     ·have:=hap j' hj';simp only[pX,Bool.and_eq_true] at this;exact this.2
    ·exact k2 j hj
   simp only[List.map_cons,vk] at hc
   have stay:∀v,fI ρ (put ρ (ao as i).dst v) (looks (ao as i)):=fun v=>iR g1
   split at hc
   ·rename_i hw
    split at hc
    ·rename_i v h' hv
     obtain⟨k1,k2⟩:=key v hc
     refine⟨k1,k2 ⟨true,by rw[←qI (stay v)];exact hw,v,fun _=> ?_,fun e=>(by cases e),fun d hd=>(by rw[hd];exact wS)⟩⟩
     rw[←lQ (qF (stay v)),hv,zI hcls hv]
    ·cases hc
   ·rename_i hw
    obtain⟨k1,k2⟩:=key _ hc
    exact⟨k1,k2 ⟨false,by rw[←qI (stay _)];exact hw, .tup [],fun e=>(by cases e),fun _=>rfl,fun d hd=>by rw[hd];exact wS⟩⟩
   ·cases hc
theorem Fact.again {ρ:dY} {h g:aj} {o:dA} (k:Fact ρ h o) (hc:kD o.op<2) (ha:mh ρ g o=true):Fact ρ g o:=by
 obtain⟨b,hb,v,e1,e2,e3⟩:=k
 cases b with
 |false=>exact⟨false,hb,v,fun t=>(by cases t),e2,e3⟩
 |true=>
  unfold mh at ha
  rw[hb] at ha
  simp only at ha
  split at ha
  ·rename_i u h' hu
   have:=zI hc hu
   subst this
   split at ha
   ·rename_i d hd
    rw[e3 d hd] at ha
    simp only at ha
    exact⟨true,hb,v,fun t=>by rw[hu,same_eq _ _ ha],e2,e3⟩
   ·rename_i hd
    exact⟨true,hb,u,fun t=>hu,fun e=>(by cases e),fun d hd'=>(by rw[hd] at hd';cases hd')⟩
  ·cases ha
theorem vV {ρ:dY} {h:aj}:∀{l:List Nat},again ρ h (l.map (ao as))=true→∀i∈l,mh ρ h (ao as i)=true
 | [],_,_,hi=>by cases hi
 |j :: l,k,i,hi=>by
  simp only[List.map_cons,again] at k
  cases hb:mh ρ h (ao as j) with
  |false=>rw[hb] at k;cases k
  |true=>
   rw[hb,cond_true] at k
   rcases List.mem_cons.1 hi with rfl |hi
   ·exact hb
   ·exact vV k i hi
theorem Fact.blind {ρ:dY} {h g:aj} {o:dA} (k:Fact ρ h o) (hc:kD o.op=0):Fact ρ g o:=by
 obtain⟨b,hb,v,e1,e2,e3⟩:=k
 exact⟨b,hb,v,fun t=>Jl hc (e1 t),e2,e3⟩
def opsOf (as:List dA) (pl:Plan):List (dA×List dA×List dA):=pl.map fun(a,c,l)=>(ao as a,c.map (ao as),l.map (ao as))
theorem xG {c x:Bool} (k:(bif c then x else false)=true):c=true∧x=true:=by
 cases c with
 |false=>cases k
 |true=>exact⟨rfl,k⟩
theorem nL {seen:List Nat} {a:Nat} {chk ns:List Nat} {rest:Plan} (k:tC as ms el seen ((a,chk,ns) :: rest)=true):
 a ∉ seen∧uN as ns=true∧(∀i∈ns,(mk ms i).testBit a=true)∧
 (∀i∈seen,((mk ms a).testBit i=true∧a ∉ el)∨(lT (mP (ao as a)) (looks (ao as i))=true∧lT (mP (ao as a)) (mP (ao as i))=true)∧(∀j∈ns,lT (mP (ao as j)) (looks (ao as i))=true∧lT (mP (ao as j)) (mP (ao as i))=true)∧(kD (ao as i).op=0∨kD (ao as i).op=2∨i∈chk))∧
 (∀b∈rest.map (·.1),(mk ms b).testBit a=true∨a∈el)∧tC as ms el (seen++a :: ns) rest=true∧
 (a∈el→lT (mP (ao as a)) (looks (ao as a))=true∧∀j∈ns,lT (mP (ao as j)) (looks (ao as a))=true∧lT (mP (ao as j)) (mP (ao as a))=true):=by
 unfold tC at k
 obtain⟨hg,k⟩:=xG k
 simp only[Bool.and_eq_true] at hg
 obtain⟨⟨⟨⟨⟨g1,g2⟩,g3⟩,g4⟩,g5⟩,g6⟩:=hg
 refine⟨fun hm=> ?_,g2,jE.1 g3,fun i hi=> ?_,fun b hb=> ?_,k,fun hm=> ?_⟩
 ·rw[mF.2 hm] at g1;cases g1
 ·have:=jE.1 g4 i hi
  simp only[Bool.or_eq_true,Bool.and_eq_true] at this
  refine this.imp (fun⟨t1,t2⟩=>⟨t1,fun hm=> ?_⟩) fun⟨⟨t1,t2⟩,t3⟩=>⟨?_,fun j hj=> ?_, ?_⟩
  ·rw[mF.2 hm] at t2;cases t2
  ·simpa[pX] using t1
  ·have:=jE.1 t2 j hj;simpa[pX] using this
  ·rcases t3 with(t3 |t3)|t3
   ·exact .inl (bJ.1 t3)
   ·exact .inr (.inl (bJ.1 t3))
   ·exact .inr (.inr (mF.1 t3))
 ·have:=jE.1 g5 b hb
  simp only[Bool.or_eq_true] at this
  exact this.imp_right mF.1
 ·rw[mF.2 hm] at g6
  simp only[Bool.not_true,Bool.false_or,Bool.and_eq_true] at g6
  refine⟨g6.1,fun j hj=> ?_⟩
  have:=jE.1 g6.2 j hj;simpa[pX] using this
theorem qY:∀{pl:Plan} {seen:List Nat},tC as ms el seen pl=true→∀b∈pl.map (·.1),b ∉ seen
 | [],_,_,b,hb=>by cases hb
 |(a,chk,ns) :: rest,seen,k,b,hb=>by
  obtain⟨h1,_,_,_,_,h6,_⟩:=nL k
  rcases List.mem_cons.1 hb with rfl |hb
  ·exact h1
  ·intro hm
   exact qY h6 b hb (List.mem_append_left _ hm)
theorem uq:∀{pl:Plan} {seen:List Nat},tC as ms el seen pl=true→∀i∈iw pl,i∈pl.map (·.1)∨∃b∈pl.map (·.1),(mk ms i).testBit b=true
 | [],_,_,i,hi=>by cases hi
 |(a,chk,ns) :: rest,seen,k,i,hi=>by
  obtain⟨_,_,h3,_,h5,h6,_⟩:=nL k
  simp only[iw,List.cons_append,List.mem_cons,List.mem_append] at hi
  rcases hi with rfl |hi |hi
  ·exact .inl List.mem_cons_self
  ·exact .inr ⟨a,List.mem_cons_self,h3 i hi⟩
  ·rcases uq h6 i hi with h |⟨b,hb,hbit⟩
   ·exact .inl (List.mem_cons_of_mem _ h)
   ·exact .inr ⟨b,List.mem_cons_of_mem _ hb,hbit⟩
def Il (B:Base) (ρ:dY) (o:dA) (id:Nat):Prop:=
 ∃(hp:aj) (v:AV) (ob:iq),hp.sz=id∧o.grd=none∧dz ρ hp o.op=some (v,hp.push ob)∧B.gh id=some ob∧∀d,o.dst=some d→ρ.get d=some v
theorem Il.agree {ρ ρ':dY} {o:dA} {id:Nat} (k:Il B ρ o id) (h1:fI ρ ρ' (looks o)) (h2:fI ρ ρ' (mP o)):Il B ρ' o id:=by
 obtain⟨hp,v,ob,e1,e2,e3,e4,e5⟩:=k
 refine⟨hp,v,ob,e1,e2, ?_,e4,fun d hd=> ?_⟩
 ·rw[←lQ (qF h1)];exact e3
 ·rw[←h2 d (nN.2 hd)];exact e5 d hd
theorem Il.base {B':Base} {ρ:dY} {o:dA} {id:Nat} (k:Il B ρ o id) (h:B'.gh id=B.gh id):Il B' ρ o id:=by
 obtain⟨hp,v,ob,e1,e2,e3,e4,e5⟩:=k
 exact⟨hp,v,ob,e1,e2,e3,h.trans e4,e5⟩
theorem GH {i:Nat} (h:i∈qX ops):∃o,ops[i]? =some o∧mU o=true:=by
 unfold qX at h
 have:=(List.mem_filter.1 h).2
 split at this
 ·rename_i o ho;exact⟨o,ho,this⟩
 ·cases this
theorem EK {o:Oper} {x:dA} (hc:mK P N ops o=some x) (he:mU o=true):kD x.op=2∧mH x.op=false:=by
 obtain⟨_,_,h3,_⟩:=jk hc
 rw[h3]
 cases hop:jM P o.op with
 |none=>exact⟨rfl,rfl⟩
 |some op=>
  simp only[Option.getD_some]
  rcases vS hop he with⟨t,z,_,hz,rfl⟩|⟨t,x,n,y,_,_,_,rfl⟩|⟨t,_,rfl⟩|⟨t,l,c,e,sz,bytes,z,x,y,_,_,_,_,_,_,_,rfl⟩
  ·cases uE z.cells<;>exact⟨rfl,rfl⟩
  ·exact⟨rfl,rfl⟩
  ·exact⟨rfl,rfl⟩
  ·exact⟨rfl,rfl⟩
structure Mid (P:Program) (B0 B:Base) (N:Nat) (ops:Array Oper) (as:List dA) (ms el:List Nat) (pe:Nat→Option Nat) (s:Array Bool) (seen:List Nat) (pl:Plan) (φ:eO) (σ:St) (a:Act) (w:World):Prop where
 size:s.size=ops.size
 closed:∀j i,Listed s j→(mk ms j).testBit i=true→Listed s i
 acts:∀b∈pl.map (·.1),¬Listed s b
 cover:∀i,i<ops.size→i∈seen++iw pl
 bound:∀i∈seen++iw pl,i<ops.size
 plan:tC as ms el seen pl=true
 waits:∀j,j<ops.size→∀i∈seen++xU pl++el,¬Listed s i→lT (mP (ao as i)) (looks (ao as j))=true∨(mk ms j).testBit i=true
 facts:∀i∈seen,¬Listed s i→(kD (ao as i).op<2∧Fact σ.regs σ.h (ao as i))∨∃id,pe i=some id
 pend:∀i id,pe i=some id→i∈seen∧¬Listed s i∧i∈el∧Il B σ.regs (ao as i) id
 inj:∀i j id,pe i=some id→pe j=some id→i=j
 same:∀id,(∀i,pe i≠some id)→B.gh id=B0.gh id
 old:∀i id,pe i=some id→B0.gh id=none
 num:B.n=B0.n
 room:N≤a.tmps.size
 regs:∀d v,σ.regs.get d=some v→(∃i∈seen,¬Listed s i∧(ao as i).dst=some d)∨∃cv,a.tmps[d]? =some cv∧dn φ v cv
 heap:dI P B φ σ.h w
theorem CZ (a:Act) (d:Option Tmp) (v:Value):(a.put d v).tmps.size=a.tmps.size:=by
 cases d with
 |none=>rfl
 |some d=>simp[Act.put]
theorem TI {a:Act} {d:Tmp} {v:Value} (h:d<a.tmps.size):(a.put (some d) v).tmps[d]? =some v:=by simp[Act.put,h]
theorem NJ {a:Act} {d:Option Tmp} {t:Tmp} {v:Value} (h:d≠some t):(a.put d v).tmps[t]? =a.tmps[t]? :=by
 cases d with
 |none=>rfl
 |some d=>simp only[Act.put];rw[Array.getElem?_setIfInBounds_ne (fun e=>h (by rw[e]))]
theorem nD {ops0:Array Oper}:∀{l:List Oper} {as:List dA},iA P N ops0 l=some as→∀i o,l[i]? =some o→mK P N ops0 o=some (ao as i)
 | [],_,_,i,o,hi=>by simp at hi
 |x :: l,as,hc,i,o,hi=>by
  simp only[iA] at hc
  split at hc
  ·rename_i y hy
   split at hc
   ·rename_i r hr
    cases hc
    cases i with
    |zero=>simp at hi;subst hi;simpa[ao,nth] using hy
    |succ i=>simpa[ao,nth] using nD hr i o (by simpa using hi)
   ·cases hc
  ·cases hc
theorem Bo {r:Option Nat} {i:Nat} {o:Oper} {x:dA} {σ:St} {ρ:dY} {φ:eO} {a:Act} {w:World} {K:TL} {next:Act→World→Prop} {Q:Exit→Act→World→Prop} (hcall:oM P call) (hi:ops[i]? =some o) (hc:mK P N ops o=some x)
 (hR:kI φ N ρ a.tmps) (H:dI P B φ σ.h w) (hag:fI ρ σ.regs (looks x)) (hs:gu call x σ K=true)
 (hnext:∀v h' cv φ' w',K v ⟨put σ.regs x.dst v,h'⟩=true→dn φ' v cv→dI P B φ' h' w'→φ.le φ'→Gw B w w'→next (a.put x.dst cv) w'):wpOpIn (FW r) n P ops Q i next a w:=by
 obtain⟨h1,h2,h3,h4⟩:=jk hc
 unfold wpOpIn
 simp only[hi]
 unfold gu at hs
 split at hs
 ·rename_i hw
  rw[nM hc hR (by rw[qI hag];exact hw)]
  simp only[if_true]
  rw[←Hw (qF hag)] at hs
  cases hop:jM P o.op with
  |none=>rw[hop] at h3;rw[h3] at hs;simp[kL,dz] at hs
  |some op=>
   rw[hop] at h3
   simp only[Option.getD_some] at h3
   rw[h3] at hs
   refine Ew (K:=fun v h'=>K v ⟨put σ.regs x.dst v,h'⟩) hcall hR H hop hs ?_
   intro v h' cv φ' w' hK g1 g2 g3 g4
   rw[←h1]
   exact hnext v _ _ φ' w' hK g1 g2 g3 g4
 ·rename_i hw
  rw[nM hc hR (by rw[qI hag];exact hw)]
  simp only[Bool.false_eq_true,if_false]
  refine⟨fun _ _=>trivial, ?_⟩
  rw[←h1]
  exact hnext _ _ _ φ w hs (.tup .nil) H φ.le_refl (Gw.refl B w)
 ·cases hs
theorem Ip {s:Array Bool} {seen:List Nat} {pl:Plan} {φ:eO} {σ:St} {a:Act} {w:World} {pe:Nat→Option Nat} (M:Mid P B0 B N ops as ms el pe s seen pl φ σ a w) {i:Nat} (hi:i<ops.size) (hw:∀j,(mk ms i).testBit j=true→Listed s j):
 kI φ N (restrict σ.regs (looks (ao as i))) a.tmps:=by
 refine⟨M.room,fun t v ht=> ?_⟩
 rw[ou] at ht
 split at ht
 ·rename_i hm
  rcases M.regs t v ht with⟨j,hj,hnl,hd⟩|h
  ·exfalso
   rcases M.waits i hi j (List.mem_append_left _ (List.mem_append_left _ hj)) hnl with h |h
   ·exact qA.1 h t (nN.2 hd) hm
   ·exact hnl (hw j h)
  ·exact h
 ·cases ht
theorem J7 {op:rU} (h:kD op<2):mH op=false:=by cases op<;>first |rfl |(simp[kD] at h;done)
theorem count_set {s:Array Bool} {i:Nat} (hi:i<s.size) (hn:¬Listed s i):(s.setIfInBounds i true).toList.count false<s.toList.count false:=by
 have h0:s.toList[i]'(by simpa using hi)=false:=by
  simp[Listed,hi] at hn;simpa using hn
 have hpos:0<s.toList.count false:=List.count_pos_iff.2 (by rw[←h0];exact List.getElem_mem _)
 rw[Array.toList_setIfInBounds,List.count_set (by simpa using hi),h0,if_pos (by rfl),if_neg (by decide)]
 omega
theorem PK {s:Array Bool} (h:s.toList.count false=0) (hsz:s.size=ops.size):Region.ready .any ops s=[]:=by
 rw[List.eq_nil_iff_forall_not_mem]
 intro j hj
 obtain⟨h1,h2,h3⟩:=DT hj
 have:false∈s.toList:=by
  simp[Listed,h3] at h1
  rw[←h1]
  have:=Array.getElem_mem_toList h3
  exact this
 have:=List.count_pos_iff.2 this
 omega
theorem ghost_step {s:Array Bool} {seen:List Nat} {b:Nat} {chk ns:List Nat} {rest:Plan} {pe:Nat→Option Nat} {φ:eO} {σ:St} {a:Act} {w:World} {K:St→Bool} (hc:iA P N ops ops.toList=some as) (hel:∀i∈el,∃o,ops[i]? =some o∧mU o=true)
 (M:Mid P B0 B N ops as ms el pe s seen ((b,chk,ns) :: rest) φ σ a w) (hb:b∈el) (hrun:nZ call (opsOf as ((b,chk,ns) :: rest)) σ K=true):
 ∃B' pe' σ',Mid P B0 B' N ops as ms el pe' s (seen++b :: ns) rest φ σ' a w∧nZ call (opsOf as rest) σ' K=true:=by
 obtain⟨o,ho,he⟩:=hel b hb
 have hco:=nD hc b o (by rw[Array.getElem?_toList];exact ho)
 obtain⟨h1,h2,h3,h4⟩:=jk hco
 have hgrd:(ao as b).grd=none:=by
  rcases h4 with⟨_,h⟩|⟨j,wt,g,d,hg,_⟩
  ·exact h
  ·rw[(ER he).1] at hg;cases hg
 simp only[opsOf,List.map_cons,nZ,gu,hgrd,gB] at hrun
 rw[ku (EK hco he).2] at hrun
 split at hrun
 rotate_left
 ·cases hrun
 rename_i v h' hv
 obtain⟨ob,rfl⟩:∃ob,h'=σ.h.push ob:=by
  cases hop:jM P o.op with
  |none=>rw[hop] at h3;rw[h3] at hv;cases hv
  |some op=>rw[hop] at h3;rw[h3] at hv;exact(MG hop he hv).2
 obtain⟨hag,hrun⟩:=xG hrun
 split at hrun
 rotate_left
 ·cases hrun
 rename_i ρ2 hρ2
 obtain⟨p1,p2,p3,p4,p5,p6,p7⟩:=nL M.plan
 obtain⟨p8,p9⟩:=p7 hb
 obtain⟨c1,c2⟩:=rF hρ2 p2
 have hng:=M.heap.noGhost
 have hbl:¬Listed s b:=M.acts b List.mem_cons_self
 have hbse:pe b=none:=by
  cases e:pe b with
  |none=>rfl
  |some id=>exact absurd (M.pend b id e).1 p1
 have hids:∀j id,pe j=some id→id≠σ.h.sz:=by
  rintro j id hj rfl
  obtain⟨_,_,_,hp,v',ob',_,_,_,e4,_⟩:=M.pend j _ hj
  rw[hng] at e4;cases e4
 have hpe:∀j id,(if j=b then some σ.h.sz else pe j)=some id→(j=b∧id=σ.h.sz)∨(j≠b∧pe j=some id):=by
  intro j id e
  by_cases hj:j=b
  ·rw[if_pos hj] at e;cases e;exact .inl ⟨hj,rfl⟩
  ·rw[if_neg hj] at e;exact .inr ⟨hj,e⟩
 have hfar:∀k∈seen,fI σ.regs ρ2 (looks (ao as k))∧fI σ.regs ρ2 (mP (ao as k))∧(kD (ao as k).op=0∨kD (ao as k).op=2∨k∈chk):=by
  intro k hk
  rcases p4 k hk with⟨_,h⟩|⟨⟨q1,q2⟩,q3,q4⟩
  ·exact absurd hb h
  ·exact⟨(iR q1).trans (c1 _ fun j hj=>(q3 j hj).1),(iR q2).trans (c1 _ fun j hj=>(q3 j hj).2),q4⟩
 refine⟨B.add σ.h.sz ob,fun j=>if j=b then some σ.h.sz else pe j,⟨ρ2,σ.h.push ob⟩,⟨M.size,M.closed,fun k hk=>M.acts k (List.mem_cons_of_mem _ hk),fun j hj=> ?_,fun j hj=> ?_,p6,fun j hj k hk hl=> ?_,fun k hk hl=> ?_,fun j id hj=> ?_,fun j k id hj hk=> ?_,fun id hid=> ?_,fun j id hj=> ?_,M.num,M.room,fun d u hu=> ?_,M.heap.pushGhost ob⟩,hrun⟩
 ·have:=M.cover j hj
  simpa[iw] using this
 ·exact M.bound j (by simpa[iw] using hj)
 ·refine M.waits j hj k ?_ hl
  simp only[List.append_assoc,List.cons_append,List.mem_append,List.mem_cons,xU] at hk ⊢
  rcases hk with h |rfl |h |h |h
  ·exact .inl h
  ·exact .inr (.inr (.inr hb))
  ·exact .inr (.inl h)
  ·exact .inr (.inr (.inl h))
  ·exact .inr (.inr (.inr h))
 ·simp only[List.mem_append,List.mem_cons] at hk
  rcases hk with hk |rfl |hk
  ·rcases M.facts k hk hl with⟨f1,f2⟩|⟨id,hid⟩
   ·refine .inl ⟨f1, ?_⟩
    rcases p4 k hk with⟨_,h⟩|⟨⟨q1,q2⟩,q3,q4⟩
    ·exact absurd hb h
    ·have f3:=f2.agree (ρ':=put σ.regs (ao as b).dst v) (iR q1) (iR q2)
     have f4:Fact (put σ.regs (ao as b).dst v) (σ.h.push ob) (ao as k):=by
      rcases q4 with q4 |q4 |q4
      ·exact f3.blind q4
      ·omega
      ·exact f3.again f1 (vV hag k q4)
     exact f4.agree (c1 _ fun j hj=>(q3 j hj).1) (c1 _ fun j hj=>(q3 j hj).2)
   ·exact .inr ⟨id,by rw[if_neg (by rintro rfl;exact p1 hk)];exact hid⟩
  ·exact .inr ⟨σ.h.sz,if_pos rfl⟩
  ·exact .inl (c2 k hk)
 ·rcases hpe j id hj with⟨rfl,rfl⟩|⟨hjb,hj⟩
  ·refine⟨by simp,hbl,hb,σ.h,v,ob,rfl,hgrd, ?_,Base.add_same _ _ _,fun d hd=> ?_⟩
   ·have:fI σ.regs ρ2 (looks (ao as j)):=(iR p8).trans (c1 _ fun k hk=>(p9 k hk).1)
    rw[←lQ (qF this)];exact hv
   ·have:=c1 (mP (ao as j)) (fun k hk=>(p9 k hk).2) d (nN.2 hd)
    rw[←this,hd,wS]
  ·obtain⟨k1,k2,k3,k4⟩:=M.pend j id hj
   obtain⟨q1,q2,_⟩:=hfar j k1
   exact⟨by simp[k1],k2,k3,(k4.agree q1 q2).base (Base.add_other _ _ (hids j id hj))⟩
 ·rcases hpe j id hj with⟨e1,e2⟩|⟨_,hj'⟩
  ·rcases hpe k _ hk with⟨e3,_⟩|⟨_,hk'⟩
   ·rw[e1,e3]
   ·exact absurd e2 (hids k _ hk')
  ·rcases hpe k _ hk with⟨_,e4⟩|⟨_,hk'⟩
   ·exact absurd e4 (hids j _ hj')
   ·exact M.inj j k id hj' hk'
 ·have hne:id≠σ.h.sz:=by
   rintro rfl
   exact hid b (if_pos rfl)
  rw[Base.add_other _ _ hne]
  refine M.same id fun i hi=> ?_
  by_cases hib:i=b
  ·subst hib;rw[hbse] at hi;cases hi
  ·exact hid i (by rw[if_neg hib];exact hi)
 ·rcases hpe j id hj with⟨rfl,rfl⟩|⟨hjb,hj⟩
  ·rw[←M.same σ.h.sz fun i hi=>hids i _ hi rfl];exact hng
  ·exact M.old j id hj
 ·have hnsl:∀j∈ns,¬Listed s j:=fun j hj hl=>hbl (M.closed j b hl (p3 j hj))
  by_cases hex:∃j∈ns,(ao as j).dst=some d
  ·obtain⟨j,hj,hjd⟩:=hex
   exact .inl ⟨j,by simp[hj],hnsl j hj,hjd⟩
  ·have hsame:(put σ.regs (ao as b).dst v).get d=ρ2.get d:=c1 [d] (fun j hj=>qA.2 fun t ht=>by
    intro h
    rw[List.mem_singleton] at h
    subst h
    exact hex ⟨j,hj,nN.1 ht⟩) d (List.mem_singleton.2 rfl)
   simp only at hu
   rw[←hsame] at hu
   by_cases hd:(ao as b).dst=some d
   ·exact .inl ⟨b,by simp,hbl,hd⟩
   ·rw[FZ hd] at hu
    rcases M.regs d u hu with⟨j,hj,hnj,hdj⟩|h
    ·exact .inl ⟨j,by simp[hj],hnj,hdj⟩
    ·exact .inr h
theorem Qt {s:Array Bool} {φ:eO} {a:Act} {w:World} {K:St→Bool} {i:Nat} (hc:iA P N ops ops.toList=some as) (hel:∀i∈el,∃o,ops[i]? =some o∧mU o=true) (hw:∀j,(mk ms i).testBit j=true→Listed s j):
 ∀(pl:Plan) (seen:List Nat) (B:Base) (pe:Nat→Option Nat) (σ:St),Mid P B0 B N ops as ms el pe s seen pl φ σ a w→nZ call (opsOf as pl) σ K=true→i∈iw pl→
 ∃B' pe' seen' σ' chk ns rest,Mid P B0 B' N ops as ms el pe' s seen' ((i,chk,ns) :: rest) φ σ' a w∧nZ call (opsOf as ((i,chk,ns) :: rest)) σ' K=true:=by
 intro pl
 induction pl with
 |nil=>intro seen B pe σ M hrun hi;cases hi
 |cons p rest ih=>
  obtain⟨b,chk,ns⟩:=p
  intro seen B pe σ M hrun hi
  by_cases hib:i=b
  ·subst hib
   exact⟨B,pe,seen,σ,chk,ns,rest,M,hrun⟩
  obtain⟨p1,p2,p3,p4,p5,p6,p7⟩:=nL M.plan
  have hbl:¬Listed s b:=M.acts b List.mem_cons_self
  simp only[iw,List.cons_append,List.mem_cons,List.mem_append] at hi
  rcases hi with hi |hi |hi
  ·exact absurd hi hib
  ·exact absurd (hw b (p3 i hi)) hbl
  ·by_cases hb:b∈el
   ·obtain⟨B',pe',σ',M',hrun'⟩:=ghost_step hc hel M hb hrun
    exact ih _ B' pe' σ' M' hrun' hi
   ·exfalso
    rcases uq p6 i hi with h |⟨b',hb',hbit⟩
    ·rcases p5 i h with h |h
     ·exact hbl (hw b h)
     ·exact hb h
    ·exact M.acts b' (List.mem_cons_of_mem _ hb') (hw b' hbit)
theorem PW {r:Option Nat} {i id:Nat} {o:Oper} {x:dA} {ρ τ:dY} {φ:eO} {h:aj} {a:Act} {w:World} {next:Act→World→Prop} {Q:Exit→Act→World→Prop} (hi:ops[i]? =some o) (hc:mK P N ops o=some x) (he:mU o=true)
 (hR:kI φ N ρ a.tmps) (H:dI P B φ h w) (hag:fI ρ τ (looks x)) (hp:Il B τ x id)
 (hnext:∀v cv φ' w',(∀d,x.dst=some d→τ.get d=some v)→dn φ' v cv→dI P (B.del id) φ' h w'→φ.le φ'→Gw B w w'→next (a.put x.dst cv) w'):wpOpIn (FW r) n P ops Q i next a w:=by
 obtain⟨h1,h2,h3,h4⟩:=jk hc
 obtain⟨hp,v,ob,rfl,e2,e3,e4,e5⟩:=hp
 unfold wpOpIn
 simp only[hi]
 rw[nM hc hR (b:=true) (by rw[e2];rfl)]
 simp only[if_true]
 rw[←lQ (qF hag)] at e3
 cases hop:jM P o.op with
 |none=>rw[hop] at h3;rw[h3] at e3;cases e3
 |some op=>
  rw[hop] at h3
  simp only[Option.getD_some] at h3
  rw[h3] at e3
  refine Bv (B:=B.del hp.sz) (φ:=φ) (K:=fun v' h'=>@decide (v'=v∧h'=h) (Classical.propDecidable _)) hop (oK.of_sim (LD hR H hop he e3 e4) (by simp)) ?_
  intro v' h' cv φ' w' hK g1 g2 g3 g4
  have hK:=@of_decide_eq_true _ (Classical.propDecidable _) hK
  obtain⟨rfl,rfl⟩:=hK
  rw[←h1]
  exact hnext _ cv φ' w' e5 g1 g2 g3 g4
theorem KH {r:Option Nat} {Q:Exit→Act→World→Prop} (hcall:oM P call) (hc:iA P N ops ops.toList=some as) (hm:Ce ops.toList ms) (he:uP 0 ops.toList=true) (hel:∀i∈el,∃o,ops[i]? =some o∧mU o=true) (K:St→Bool):
 ∀(fuel:Nat) (B:Base) (pe:Nat→Option Nat) (s:Array Bool) (seen:List Nat) (pl:Plan) (φ:eO) (σ:St) (a:Act) (w:World),Mid P B0 B N ops as ms el pe s seen pl φ σ a w→nZ call (opsOf as pl) σ K=true→s.toList.count false≤fuel→
 (∀σ' a' w' φ',K σ'=true→At P B0 N φ' σ' a' w'→a'.defers=a.defers→φ.le φ'→Gw B0 w w'→Q .normal a' w')→wpAnyIn (FW r) n P .any ops Q fuel s a w:=by
 have done:∀(B:Base) (pe:Nat→Option Nat) (s:Array Bool) (seen:List Nat) (pl:Plan) (φ:eO) (σ:St) (a:Act) (w:World),Mid P B0 B N ops as ms el pe s seen pl φ σ a w→nZ call (opsOf as pl) σ K=true→
  (∀σ' a' w' φ',K σ'=true→At P B0 N φ' σ' a' w'→a'.defers=a.defers→φ.le φ'→Gw B0 w w'→Q .normal a' w')→Region.ready .any ops s=[]→Q .normal a w:=by
  intro B pe s seen pl φ σ a w M hrun hQ hr
  have hall:∀j,j<ops.size→Listed s j:=fun j hj=>KX he M.size hr (j+1) j (Nat.lt_succ_self j) hj
  cases pl with
  |cons p rest=>
   obtain⟨b,c,ns⟩:=p
   exact absurd (hall b (M.bound b (by simp[iw]))) (M.acts b List.mem_cons_self)
  |nil=>
   simp only[opsOf,List.map_nil,nZ] at hrun
   have hB:B=B0:=by
    have h1:=M.num
    have h2:B.gh=B0.gh:=by
     funext id
     refine M.same id fun i hi=> ?_
     obtain⟨k1,k2,_⟩:=M.pend i id hi
     exact k2 (hall i (M.bound i (List.mem_append_left _ k1)))
    cases B;cases B0
    simp only at h1 h2
    subst h1;subst h2;rfl
   subst hB
   refine hQ σ a w φ hrun ⟨⟨M.room,fun t v ht=> ?_⟩,M.heap⟩ rfl φ.le_refl (Gw.refl B w)
   rcases M.regs t v ht with⟨j,hj,hnl,_⟩|h
   ·exact absurd (hall j (M.bound j (List.mem_append_left _ hj))) hnl
   ·exact h
 intro fuel
 induction fuel with
 |zero=>
  intro B pe s seen pl φ σ a w M hrun hcnt hQ
  have hr:=PK (ops:=ops) (Nat.le_zero.1 hcnt) M.size
  exact⟨hr,done B pe s seen pl φ σ a w M hrun hQ hr⟩
 |succ fuel ih=>
  intro B pe s seen pl φ σ a w M hrun hcnt hQ
  refine⟨done B pe s seen pl φ σ a w M hrun hQ,fun i hi=> ?_⟩
  obtain⟨hnl,hlt,hlt'⟩:=DT hi
  have hw:=I5 hm M.closed hi
  have ho:ops[i]? =some ops[i]:=by simp[hlt]
  have hco:=nD hc i ops[i] (by simp[hlt])
  have hdst:=(jk hco)
  have hcnt':(s.setIfInBounds i true).toList.count false≤fuel:=by
   have:=count_set hlt' hnl;omega
  have hin:∀d,(ao as i).dst=some d→d<a.tmps.size:=by
   intro d hd
   have:=hdst.2.1
   rw[←hdst.1,hd] at this
   simp only[Dx,Nat.blt_eq] at this
   exact Nat.lt_of_lt_of_le this M.room
  have hself:¬(mk ms i).testBit i=true:=fun h=>hnl (hw i h)
  rcases List.mem_append.1 (M.cover i hlt) with hseen |hord
  ·have hR:=Ip M hlt hw
   have hgw:∀w1 w2,Gw B w1 w2→Gw B0 w1 w2:=fun w1 w2 g=>M.num▸g
   have acts':∀b∈pl.map (·.1),¬Listed (s.setIfInBounds i true) b:=by
    intro b' hb' hl
    rw[fF hlt'] at hl
    rcases hl with rfl |hl
    ·exact qY M.plan b' hb' hseen
    ·exact M.acts b' hb' hl
   have closed':∀j k,Listed (s.setIfInBounds i true) j→(mk ms j).testBit k=true→Listed (s.setIfInBounds i true) k:=by
    intro j k hj hk
    rw[fF hlt'] at hj ⊢
    rcases hj with rfl |hj
    ·exact .inr (hw k hk)
    ·exact .inr (M.closed j k hj hk)
   have regs':∀(cv:Value) (v:AV) (φ':eO),(∀d,(ao as i).dst=some d→σ.regs.get d=some v)→dn φ' v cv→φ.le φ'→
    ∀d u,σ.regs.get d=some u→(∃j∈seen,¬Listed (s.setIfInBounds i true) j∧(ao as j).dst=some d)∨∃cu,(a.put (ao as i).dst cv).tmps[d]? =some cu∧dn φ' u cu:=by
    intro cv v φ' e3 g1 g3 d u hu
    by_cases hd:(ao as i).dst=some d
    ·refine .inr ⟨cv,by rw[hd];exact TI (hin d hd), ?_⟩
     rw[e3 d hd] at hu
     cases hu
     exact g1
    ·rcases M.regs d u hu with⟨j,hj,hnj,hdj⟩|⟨cu,h1,h2⟩
     ·refine .inl ⟨j,hj,fun h=> ?_,hdj⟩
      rw[fF hlt'] at h
      rcases h with rfl |h
      ·exact hd hdj
      ·exact hnj h
     ·exact .inr ⟨cu,by rw[NJ hd];exact h1,h2.mono g3⟩
   rcases M.facts i hseen hnl with⟨hcls,b,hb,v,e1,e2,e3⟩|⟨id,hid⟩
   ·refine Bo (K:=fun v' σ'=>@decide (v'=v∧σ'.h=σ.h) (Classical.propDecidable _)) hcall ho hco hR M.heap oV ?_ ?_
    ·unfold gu
     rw[hb]
     cases b with
     |true=>
      simp only
      rw[ku (J7 hcls),e1 rfl]
      simp
     |false=>
      simp only
      simp[e2 rfl]
    ·intro v' h' cv φ' w' hK g1 g2 g3 g4
     have hK:=@of_decide_eq_true _ (Classical.propDecidable _) hK
     obtain⟨rfl,hh⟩:=hK
     simp only at hh
     subst hh
     refine ih B pe _ seen pl φ' σ _ w' ?_ hrun hcnt' ?_
     ·refine⟨by simpa using M.size,closed',acts',M.cover,M.bound,M.plan, ?_, ?_, ?_,M.inj,M.same,M.old,M.num,by rw[CZ];exact M.room,regs' cv v' φ' e3 g1 g3,g2⟩
      ·intro j hj k hk hl
       exact M.waits j hj k hk fun h=>hl ((fF hlt').2 (.inr h))
      ·intro k hk hl
       exact M.facts k hk fun h=>hl ((fF hlt').2 (.inr h))
      ·intro k id hk
       obtain⟨k1,k2,k3,k4⟩:=M.pend k id hk
       refine⟨k1,fun h=> ?_,k3,k4⟩
       rw[fF hlt'] at h
       rcases h with rfl |h
       ·obtain⟨o',ho',he'⟩:=hel k k3
        have:=(EK (nD hc k o' (by rw[Array.getElem?_toList];exact ho')) he').1
        omega
       ·exact k2 h
     ·intro σ2 a2 w2 φ2 k1 k2 k3 k4 k5
      exact hQ σ2 a2 w2 φ2 k1 k2 (k3.trans (put_defers _ _ _)) (eO.le_trans g3 k4) ((hgw _ _ g4).trans k5)
   ·obtain⟨k1,k2,k3,k4⟩:=M.pend i id hid
    obtain⟨o',ho',he'⟩:=hel i k3
    have:o'=ops[i]:=by rw[ho] at ho';exact(Option.some.inj ho').symm
    subst this
    refine PW ho hco he' hR M.heap oV k4 ?_
    intro v cv φ' w' e3 g1 g2 g3 g4
    have hpe:∀j id',(if j=i then none else pe j)=some id'→j≠i∧pe j=some id'∧id'≠id:=by
     intro j id' e
     by_cases hj:j=i
     ·rw[if_pos hj] at e;cases e
     ·rw[if_neg hj] at e
      refine⟨hj,e, ?_⟩
      rintro rfl
      exact hj (M.inj j i _ e hid)
    refine ih (B.del id) (fun j=>if j=i then none else pe j) _ seen pl φ' σ _ w' ?_ hrun hcnt' ?_
    ·refine⟨by simpa using M.size,closed',acts',M.cover,M.bound,M.plan, ?_, ?_, ?_, ?_, ?_, ?_,M.num,by rw[CZ];exact M.room,regs' cv v φ' e3 g1 g3,g2⟩
     ·intro j hj k hk hl
      exact M.waits j hj k hk fun h=>hl ((fF hlt').2 (.inr h))
     ·intro k hk hl
      have hki:k≠i:=fun h=>hl ((fF hlt').2 (.inl h))
      refine(M.facts k hk fun h=>hl ((fF hlt').2 (.inr h))).imp_right fun⟨id',h⟩=>⟨id',by rw[if_neg hki];exact h⟩
     ·intro k id' hk
      obtain⟨q1,q2,q3⟩:=hpe k id' hk
      obtain⟨l1,l2,l3,l4⟩:=M.pend k id' q2
      refine⟨l1,fun h=> ?_,l3,l4.base (Base.del_other _ q3)⟩
      rw[fF hlt'] at h
      exact h.elim q1 l2
     ·intro j k id' hj hk
      exact M.inj j k id' (hpe j id' hj).2.1 (hpe k id' hk).2.1
     ·intro id' hid'
      by_cases hne:id'=id
      ·subst hne
       rw[Base.del_same]
       exact(M.old i _ hid).symm
      ·rw[Base.del_other _ hne]
       refine M.same id' fun j hj=> ?_
       by_cases hji:j=i
       ·subst hji;rw[hid] at hj;cases hj;exact hne rfl
       ·exact hid' j (by rw[if_neg hji];exact hj)
     ·intro j id' hj
      exact M.old j id' (hpe j id' hj).2.1
    ·intro σ2 a2 w2 φ2 k1 k2 k3 k4 k5
     exact hQ σ2 a2 w2 φ2 k1 k2 (k3.trans (put_defers _ _ _)) (eO.le_trans g3 k4) ((hgw _ _ g4).trans k5)
  ·obtain⟨B',pe',seen',σ',chk,ns,rest,M',hrun'⟩:=Qt hc hel hw pl seen B pe σ M hrun hord
   clear M hrun hord
   have hgw:∀w1 w2,Gw B' w1 w2→Gw B0 w1 w2:=fun w1 w2 g=>M'.num▸g
   have hR:=Ip M' hlt hw
   obtain⟨p1,p2,p3,p4,p5,p6,p7⟩:=nL M'.plan
   simp only[opsOf,List.map_cons,nZ] at hrun'
   refine Bo hcall ho hco hR M'.heap oV hrun' ?_
   intro v h' cv φ' w' hK g1 g2 g3 g4
   obtain⟨hag,hK⟩:=xG hK
   simp only at hag hK
   split at hK
   rotate_left
   ·cases hK
   rename_i ρ2 hρ2
   obtain⟨c1,c2⟩:=rF hρ2 p2
   have hnsl:∀j∈ns,¬Listed (s.setIfInBounds i true) j:=by
    intro j hj hl
    rw[fF hlt'] at hl
    rcases hl with rfl |hl
    ·exact hself (p3 j hj)
    ·exact hnl (M'.closed j i hl (p3 j hj))
   have hpei:pe' i=none:=by
    cases e:pe' i with
    |none=>rfl
    |some id=>exact absurd (M'.pend i id e).1 p1
   refine ih B' pe' _ (seen'++i :: ns) rest φ' ⟨ρ2,h'⟩ _ w' ?_ hK hcnt' ?_
   ·refine⟨by simpa using M'.size, ?_, ?_, ?_, ?_,p6, ?_, ?_, ?_,M'.inj,M'.same,M'.old,M'.num,by rw[CZ];exact M'.room, ?_,g2⟩
    ·intro j k hj hk
     rw[fF hlt'] at hj ⊢
     rcases hj with rfl |hj
     ·exact .inr (hw k hk)
     ·exact .inr (M'.closed j k hj hk)
    ·intro b hb hl
     rw[fF hlt'] at hl
     rcases hl with rfl |hl
     ·exact qY p6 b hb (by simp)
     ·exact M'.acts b (List.mem_cons_of_mem _ hb) hl
    ·intro j hj
     have:=M'.cover j hj
     simpa[iw] using this
    ·intro j hj
     exact M'.bound j (by simpa[iw] using hj)
    ·intro j hj k hk hl
     have hkl:¬Listed s k:=fun h=>hl ((fF hlt').2 (.inr h))
     have hki:k≠i:=fun h=>hl ((fF hlt').2 (.inl h))
     refine M'.waits j hj k ?_ hkl
     simp only[List.append_assoc,List.cons_append,List.mem_append,List.mem_cons,xU] at hk ⊢
     rcases hk with h |h |h |h |h
     ·exact .inl h
     ·exact absurd h hki
     ·exact .inr (.inl h)
     ·exact .inr (.inr (.inl h))
     ·exact .inr (.inr (.inr h))
    ·intro k hk hl
     have hkl:¬Listed s k:=fun h=>hl ((fF hlt').2 (.inr h))
     have hki:k≠i:=fun h=>hl ((fF hlt').2 (.inl h))
     simp only[List.mem_append,List.mem_cons] at hk
     rcases hk with hk |hk |hk
     ·rcases M'.facts k hk hkl with⟨f1,f2⟩|h
      ·refine .inl ⟨f1, ?_⟩
       rcases p4 k hk with⟨h,_⟩|⟨⟨q1,q2⟩,q3,q4⟩
       ·exact absurd (hw k h) hkl
       ·have f3:=f2.agree (ρ':=put σ'.regs (ao as i).dst v) (iR q1) (iR q2)
        have f4:Fact (put σ'.regs (ao as i).dst v) h' (ao as k):=by
         rcases q4 with q4 |q4 |q4
         ·exact f3.blind q4
         ·omega
         ·exact f3.again f1 (vV hag k q4)
        exact f4.agree (c1 _ fun j hj=>(q3 j hj).1) (c1 _ fun j hj=>(q3 j hj).2)
      ·exact .inr h
     ·exact absurd hk hki
     ·exact .inl (c2 k hk)
    ·intro k id hk
     obtain⟨k1,k2,k3,k4⟩:=M'.pend k id hk
     refine⟨by simp[k1],fun h=> ?_,k3, ?_⟩
     ·rw[fF hlt'] at h
      rcases h with rfl |h
      ·exact p1 k1
      ·exact k2 h
     ·rcases p4 k k1 with⟨h,_⟩|⟨⟨q1,q2⟩,q3,q4⟩
      ·exact absurd (hw k h) k2
      ·exact(k4.agree (ρ':=put σ'.regs (ao as i).dst v) (iR q1) (iR q2)).agree (c1 _ fun j hj=>(q3 j hj).1) (c1 _ fun j hj=>(q3 j hj).2)
    ·intro d u hu
     by_cases hex:∃j∈ns,(ao as j).dst=some d
     ·obtain⟨j,hj,hjd⟩:=hex
      exact .inl ⟨j,by simp[hj],hnsl j hj,hjd⟩
     ·have hsame:(put σ'.regs (ao as i).dst v).get d=ρ2.get d:=c1 [d] (fun j hj=>qA.2 fun t ht=>by
       intro h
       rw[List.mem_singleton] at h
       subst h
       exact hex ⟨j,hj,nN.1 ht⟩) d (List.mem_singleton.2 rfl)
      simp only at hu
      rw[←hsame] at hu
      by_cases hd:(ao as i).dst=some d
      ·rw[hd,wS] at hu
       cases hu
       exact .inr ⟨cv,by rw[hd];exact TI (hin d hd),g1⟩
      ·rw[FZ hd] at hu
       rcases M'.regs d u hu with⟨j,hj,hnj,hdj⟩|⟨cu,h1,h2⟩
       ·refine .inl ⟨j,by simp[hj],fun h=> ?_,hdj⟩
        rw[fF hlt'] at h
        rcases h with rfl |h
        ·exact p1 hj
        ·exact hnj h
       ·exact .inr ⟨cu,by rw[NJ hd];exact h1,h2.mono g3⟩
   ·intro σ2 a2 w2 φ2 k1 k2 k3 k4 k5
    exact hQ σ2 a2 w2 φ2 k1 k2 (k3.trans (put_defers _ _ _)) (eO.le_trans g3 k4) ((hgw _ _ g4).trans k5)
theorem vE {x:dO} (hd:qp as ops=some x):∃l0 pl,Fv as (masks ops.toList []) (qX ops) ops.size ops.toList l0 pl=true∧x= .dreg (l0.map (ao as)) (opsOf as pl):=by
 unfold qp Iz at hd
 simp only at hd
 generalize(List.filter (fun i=> !nI i _&&_) (List.range ops.size))=l0 at hd
 generalize(Lr as _ _ _ _ _ _)=pl at hd
 cases hb:Fv as (masks ops.toList []) (qX ops) ops.size ops.toList l0 pl with
 |false=>rw[hb] at hd;cases hd
 |true=>
  rw[hb,cond_true] at hd
  cases hd
  exact⟨l0,pl,hb,rfl⟩
theorem sQ {k i:Nat}:¬Listed (Array.replicate k false) i:=by
 unfold Listed
 by_cases h:i<k
 ·simp[h]
 ·simp[Array.getElem?_eq_none,h]
theorem MC {r:Option Nat} {id:Nat} {x:dO} {Q:Exit→Act→World→Prop} {φ:eO} {σ:St} {a:Act} {w:World} {K:sj} {m:Nat} (hmix:P.follows .mixedOrders=true) (hcall:oM P call)
 (hc:iA P N ops ops.toList=some as) (hd:qp as ops=some x) (A:At P B N φ σ a w) (hr:dU call m x σ K=true)
 (hQ:∀σ' a' w' φ',K .normal σ'=true→At P B N φ' σ' a' w'→a'.defers=a.defers→φ.le φ'→Gw B w w'→Q .normal a' w'):(Code.region id ops true).wpIn (FW r) n P Q a w:=by
 obtain⟨l0,pl,hok,rfl⟩:=vE hd
 have hm:=Si ops.toList
 have hel:∀i∈qX ops,∃o,ops[i]? =some o∧mU o=true:=fun i hi=>GH hi
 generalize masks ops.toList []=ms at hok hm
 generalize qX ops=el at hok hel
 simp only[dU] at hr
 unfold Fv at hok
 simp only[Bool.and_eq_true] at hok
 obtain⟨⟨⟨⟨⟨⟨d1,d2⟩,d3⟩,d4⟩,d5⟩,d6⟩,d7⟩:=hok
 split at hr
 rotate_left
 ·cases hr
 rename_i ρ hρ
 obtain⟨c1,c2⟩:=rF hρ d3
 refine wpIn_region_any hmix ?_
 refine KH (B0:=B) hcall hc hm d2 hel (K .normal) ops.size B (fun _=>none) _ l0 pl φ ⟨ρ,σ.h⟩ a w.drew ?_ hr ?_ ?_
 ·refine⟨by simp, ?_, ?_, ?_, ?_,d5, ?_, ?_,fun i id e=>(by cases e),fun i j id e _=>(by cases e),fun _ _=>rfl,fun i id e=>(by cases e),rfl,A.regs.1, ?_,A.heap.drew⟩
  ·intro j i hj;exact absurd hj sQ
  ·intro b _;exact sQ
  ·intro i hi
   exact mF.1 (jE.1 d6 i (List.mem_range.2 hi))
  ·intro i hi
   exact dL.1 (jE.1 d7 i hi)
  ·intro j hj i hi _
   have:=jE.1 (jE.1 d4 j (List.mem_range.2 hj)) i hi
   simpa using this
  ·intro i hi _;exact .inl (c2 i hi)
  ·intro d v hv
   by_cases hex:∃j∈l0,(ao as j).dst=some d
   ·obtain⟨j,hj,hjd⟩:=hex
    exact .inl ⟨j,hj,sQ,hjd⟩
   ·refine .inr (A.regs.2 d v ?_)
    rw[←hv]
    exact c1 [d] (fun j hj=>qA.2 fun t ht=>by
     intro h
     rw[List.mem_singleton] at h
     subst h
     exact hex ⟨j,hj,nN.1 ht⟩) d (List.mem_singleton.2 rfl)
 ·rw[Array.toList_replicate,List.count_replicate];simp
 ·intro σ' a' w' φ' h1 h2 h3 h4 h5
  exact hQ σ' a' w' φ' h1 h2 h3 h4 ((Gw.drew B w).trans h5)
end
def Marks (S:Nat) (w:World):List Deferred→Prop
 | []=>True
 |d :: ds=>(∃D,d.target= .collected D∧S≤D∧w.heap[D]? =some (Obj.deferred (some []))∧∀d'∈ds,d'.target≠ .collected D)∧Marks S w ds
theorem Marks.mono {S B:Nat} {w w':World} (hg:Gw B w w'):∀{ds:List Deferred},Marks S w ds→Marks S w' ds
 | [],_=>trivial
 |_ :: _,⟨⟨D,h1,h2,h3,h4⟩,h5⟩=>⟨⟨D,h1,h2,hg.defd D _ h3,h4⟩,Marks.mono hg h5⟩
theorem Marks.lt {S:Nat} {w:World}:∀{ds:List Deferred},Marks S w ds→∀d∈ds,∀D,d.target= .collected D→D<w.heap.size
 | [],_,_,h,_,_=>by cases h
 |_ :: _,⟨⟨D,h1,h2,h3,h4⟩,h5⟩,d',hd',D',e=>by
  rcases List.mem_cons.1 hd' with rfl |hd'
  ·rw[h1] at e;cases e
   exact(Array.getElem?_eq_some_iff.1 h3).1
  ·exact Marks.lt h5 d' hd' D' e
theorem Marks.put {S D:Nat} {w:World} {o:Obj}:∀{ds:List Deferred},Marks S w ds→(∀d'∈ds,d'.target≠ .collected D)→Marks S (w.putObj D o) ds
 | [],_,_=>trivial
 |d :: ds,⟨⟨D',h1,h2,h3,h4⟩,h5⟩,hn=>by
  refine⟨⟨D',h1,h2, ?_,h4⟩,Marks.put h5 fun d' hd'=>hn d' (List.mem_cons_of_mem _ hd')⟩
  rw[World.putObj_heap_other (fun e=>hn d List.mem_cons_self (by rw[h1,e]))]
  exact h3
structure Dn (S:Nat) (r:Option Nat) (w:World) (a:Act):Prop where
 size:S≤w.heap.size
 marks:Marks S w a.defers
 round:∀l,r=some l→∃R,w.heap[l]? =some (Obj.loop R)
theorem Dn.mono {S B:Nat} {r:Option Nat} {w w':World} {a a':Act} (h:Dn S r w a) (hg:Gw B w w') (hd:a'.defers=a.defers):Dn S r w' a':=
 ⟨Nat.le_trans h.size hg.size,by rw[hd];exact h.marks.mono hg,fun l e=>let⟨R,k⟩:=h.round l e;hg.loops l R k⟩
section
variable {P:Program} {B:Base} {N:Nat} {φ:eO} {h:aj} {w:World}
theorem dI.nodefBlock {D:Nat} {ds:Option (List Deferred)} (H:dI P B φ h w) (hD:w.heap[D]? =some (Obj.deferred ds)) (o:Obj):dI P B φ h (w.putObj D o):=
 H.keep (by simp) fun id g L hL=>World.putObj_heap_other fun e=>H.nodef id g L hL ds (by rw[e];exact hD)
theorem wI (H:dI P B φ h w) {id:Nat} {l:VI} (hget:h.get id=some (.loop l)) (hdm:∃g L,φ id g=some L:=by exact⟨_,_,by assumption⟩):∃L R N,φ id 0=some L∧w.heap[L.blk]? =some (Obj.loop R)∧kI φ N l.regs R.tmps∧R.params.toList=l.ps∧(∀p∈l.ps,p<N)∧comp P N R.assign=some (strip l.asg)∧comp P N R.body=some (strip l.body)∧Nf l.st R∧
 ∀(R':Loop) (st':AX),R'.tmps=R.tmps→R'.params=R.params→R'.assign=R.assign→R'.body=R.body→Nf st' R'→
  dI P B φ (h.put id (.loop {l with st:=st'})) (w.putObj L.blk (.loop R'))∧Gw B w (w.putObj L.blk (.loop R')):=by
 obtain⟨L,R,N,h1,h2,h3,h4,h5,h6,h7,h8⟩:=H.obj id _ hget hdm
 refine⟨L,R,N,h1,h2,h3,h4,h5,h6,h7,h8,fun R' st' e1 e2 e3 e4 e5=> ?_⟩
 have hlt:L.blk<w.heap.size:=H.lt id 0 L h1
 have hB:B≤L.blk:=(H.own id _ 0 L hget h1).1 rfl
 refine⟨H.update hget rfl rfl φ.le_refl (fun _ _ _=>rfl) (fun g K e=> .inl e) (by simp) (fun k _ hk=>World.putObj_heap_other (fun e=>hk 0 L h1 e.symm)) (kX.put w (fun ds e=>by cases e)) ?_, ?_⟩
 ·exact⟨L,R',N,h1,World.putObj_heap_same hlt,by rw[e1];exact h3,by rw[e2];exact h4,h5,by rw[e3];exact h6,by rw[e4];exact h7,e5⟩
 ·exact Gw.of_block h2 hB (fun ds e=>by cases e) (fun r e=>⟨R',rfl⟩) (World.putObj_heap_same hlt) (fun _ _ _ e=>by cases e) (fun _ _ _ e=>by cases e) (fun k hk=>World.putObj_heap_other hk) (by simp) rfl rfl rfl
theorem G7 {S:Nat} {r:Option Nat} {a:Act} (H:dI P B φ h w) (O:Dn S r w a) (fn:FuncId) (ps:Array Tmp) (assign body:Code):∃w0 mark R,(Instr.enterLoop fn a.tmps ps assign body r).run P w= .ok (w0.heap.size,mark) (w0.alloc (.loop R))∧
 dI P B φ h w0∧Gw B w w0∧Marks S w0 (mark++a.defers)∧R.state= .ready∧R.pending=none∧R.tmps=a.tmps∧R.params=ps∧R.assign=assign∧R.body=body:=by
 cases r with
 |none=>
  have hg:Gw B w (w.alloc (.deferred (some []))):=Gw.alloc H.base (fun _ _ _ e=>by cases e)
  refine⟨w.alloc (.deferred (some [])),[{target:= .collected w.heap.size,args:= #[]}],{state:= .ready,pending:=none,fn,tmps:=a.tmps,params:=ps,assign,body,defers:=w.heap.size}, ?_,H.alloc _,hg, ?_,rfl,rfl,rfl,rfl,rfl,rfl⟩
  ·exact(run_enterLoop_outer fn a.tmps ps assign body).trans (by simp)
  ·refine⟨⟨w.heap.size,rfl,O.size,heap_alloc_new w _,fun d' hd' e=> ?_⟩,O.marks.mono hg⟩
   have:=O.marks.lt d' hd' _ e
   omega
 |some l=>
  obtain⟨R0,hR0⟩:=O.round l rfl
  refine⟨w,[],{state:= .ready,pending:=none,fn,tmps:=a.tmps,params:=ps,assign,body,defers:=R0.defers}, ?_,H,Gw.refl B w,O.marks,rfl,rfl,rfl,rfl,rfl,rfl⟩
  unfold Instr.enterLoop
  simp only[Sem.run_bind,run_getLoop hR0,Result.andThen_ok,Sem.run_pure,run_newObj_alloc]
theorem xH {F:Fence} {n S:Nat} {fn:Func} {tmps:Array Value} {R:Ending→World→Prop} {w0:World} (hS:w0.heap.size≤S) (hB:B≤S)
 (fin:∀w',dI P B φ h w'→Gw B w0 w'→∃v,(results fn tmps).run P w'= .ok v w'∧R (.returned v) w'):∀(ds:List Deferred) (w:World),Marks S w ds→dI P B φ h w→Gw B w0 w→LeavesInM F n P fn tmps R ds .returning w
 | [],w,_,H,hg=>fin w H hg
 |d :: ds,w,⟨⟨D,h1,h2,h3,h4⟩,h5⟩,H,hg=>by
  refine⟨by simp, .inl ⟨D,w.putObj D (.deferred none),h1,run_takeDeferred h3, ?_⟩⟩
  refine xH hS hB fin ds _ (h5.put h4) (H.nodefBlock h3 _) ?_
  have hlt:D<w.heap.size:=(Array.getElem?_eq_some_iff.1 h3).1
  refine⟨hg.os,hg.tape,hg.drawn,hg.output,by simpa using hg.size,fun k hk=> ?_,fun k ds' hk=> ?_,fun k R' hk=> ?_⟩
  ·rw[World.putObj_heap_other (by omega)];exact hg.below k hk
  ·have:=(Array.getElem?_eq_some_iff.1 hk).1
   rw[World.putObj_heap_other (by omega)];exact hg.defd k ds' hk
  ·have:=(Array.getElem?_eq_some_iff.1 hk).1
   rw[World.putObj_heap_other (by omega)];exact hg.loops k R' hk
end
def Exit.jumpIn (l:Nat) (J:Act→World→Prop) (Q:Exit→Act→World→Prop):Exit→Act→World→Prop
 | .goto l',a,w=>l'=l∧J a w
 |e,a,w=>Q e a w
def Code.jumpsIn (F:Fence) (n:Nat) (P:Program) (rest:Code) (l:Nat) (Q:Exit→Act→World→Prop):Nat→Act→World→Prop
 |0,_,_=>False
 |m+1,a,w=>rest.wpIn F n P (Exit.jumpIn l (Code.jumpsIn F n P rest l Q m) Q) a w
section
variable {P:Program} {b:Frame} {a:Act} {k:List Item} {cs:List Frame} {w:World}
theorem kC {c:Code}:step P (lone (b.atR a (.code (.scope c) :: k)) cs w)= .next (lone (b.atR a (.code c :: .inScope c :: k)) cs w):=
 step_lone_go (by simp[stepG,stepG.exec,Frame.atR])
theorem vD {c:Code}:step P (lone (b.atR a (.inScope c :: k)) cs w)= .next (lone (b.atR a k) cs w):=
 step_lone_go (by simp[stepG,stepG.exec,Frame.atR])
end
theorem yH {F:Fence} {n:Nat} {P:Program} {Q:Exit→Act→World→Prop} {a:Act} {w:World} {c rest:Code} {l:Nat} (hf:findLabel c l=some rest) (m:Nat)
 (h:c.wpIn F n P (Exit.jumpIn l (Code.jumpsIn F n P rest l Q m) Q) a w):(Code.scope c).wpIn F n P Q a w:=by
 intro b k cs hro hb hr
 have hg:gotoIn l (.inScope c :: k)=some (.code rest :: .inScope c :: k):=by simp[gotoIn,hf]
 have key:∀m a w,Code.jumpsIn F n P rest l Q m a w→
  ∃e a' w',Q e a' w'∧ArrivesIn (Machine.fenced P F) P (lone (b.atR a (.code rest :: .inScope c :: k)) cs w) b k cs e a' w':=by
  intro m
  induction m with
  |zero=>intro a w h;exact h.elim
  |succ m ih=>
   intro a w h
   obtain⟨e,a₁,w₁,hq,harr⟩:=h b (.inScope c :: k) cs hro hb hr
   cases e with
   |normal=>exact⟨.normal,a₁,w₁,hq,StepsIn.trans harr (.one (fenced_calm hb hr rfl) vD)⟩
   |exit id=>exact⟨.exit id,a₁,w₁,hq,fun k' hk=>harr.1 k' (by simp[exitTo,hk]),fun hr' hk=>harr.2 hr' (by simp[exitTo,hk])⟩
   |goto l'=>
    obtain⟨rfl,hJ⟩:=hq
    obtain⟨e₂,a₂,w₂,hq₂,harr₂⟩:=ih a₁ w₁ hJ
    exact⟨e₂,a₂,w₂,hq₂, .of_steps (harr.1 _ hg) harr₂⟩
   |ret=>exact⟨_,a₁,w₁,hq,harr⟩
   |panic ch=>exact⟨_,a₁,w₁,hq,harr⟩
   |outgrown=>exact⟨_,a₁,w₁,hq,harr⟩
 have h0:(lone (b.atR a (.code (.scope c) :: k)) cs w).fenced P F:=fenced_calm hb hr rfl
 obtain⟨e,a₁,w₁,hq,harr⟩:=h b (.inScope c :: k) cs hro hb hr
 cases e with
 |normal=>exact⟨.normal,a₁,w₁,hq, .head h0 kC (StepsIn.trans harr (.one (fenced_calm hb hr rfl) vD))⟩
 |exit id=>exact⟨.exit id,a₁,w₁,hq,fun k' hk=> .head h0 kC (harr.1 k' (by simp[exitTo,hk])),fun hr' hk=>(let⟨k₁,h1,h2⟩:=harr.2 hr' (by simp[exitTo,hk]);⟨k₁,h1, .head h0 kC h2⟩)⟩
 |goto l'=>
  obtain⟨rfl,hJ⟩:=hq
  obtain⟨e₂,a₂,w₂,hq₂,harr₂⟩:=key _ a₁ w₁ hJ
  exact⟨e₂,a₂,w₂,hq₂, .of_steps (.head h0 kC (harr.1 _ hg)) harr₂⟩
 |ret=>exact⟨_,a₁,w₁,hq, .of_steps (.one h0 kC) harr⟩
 |panic ch=>exact⟨_,a₁,w₁,hq, .of_steps (.one h0 kC) harr⟩
 |outgrown=>exact⟨_,a₁,w₁,hq, .of_steps (.one h0 kC) harr⟩
def qC.toExit:qC→Exit
 | .normal=> .normal
 | .ret=> .ret
 | .exit id=> .exit id
 | .goto l=> .goto l
def Then (P:Program) (B:Base) (N S:Nat) (r:Option Nat) (φ:eO) (w:World) (K:sj) (Q:Exit→Act→World→Prop):Prop:=
 ∀ex σ' a' w' φ',K ex σ'=true→At P B N φ' σ' a' w'→Dn S r w' a'→φ.le φ'→Gw B w w'→Q ex.toExit a' w'
section
variable {P:Program} {B:Base} {N S n:Nat} {call:ay} {r:Option Nat}
theorem Then.later {φ φ':eO} {w w':World} {K:sj} {Q:Exit→Act→World→Prop} (h:Then P B N S r φ w K Q) (hle:φ.le φ') (hg:Gw B w w'):Then P B N S r φ' w' K Q:=
 fun ex σ2 a2 w2 φ2 k1 k2 k3 k4 k5=>h ex σ2 a2 w2 φ2 k1 k2 k3 (eO.le_trans hle k4) (hg.trans k5)
def Ko (P:Program) (B:Base) (N S n:Nat) (call:ay) (r:Option Nat) (m:Nat) (c:Code) (x:dO):Prop:=
 ∀(σ:St) (K:sj) (φ:eO) (a:Act) (w:World) (Q:Exit→Act→World→Prop),At P B N φ σ a w→Dn S r w a→dU call m x σ K=true→Then P B N S r φ w K Q→c.wpIn (FW r) n P Q a w
theorem xV {m:Nat} {c:Code} {x:dO} (hc:Ko P B N S n call r m c x):∀(k:Nat) (σ:St) (K:sj) (φ:eO) (a:Act) (w:World) (Q:Exit→Act→World→Prop),At P B N φ σ a w→Dn S r w a→iter (dU call m x) K k σ=true→Then P B N S r φ w K Q→Code.roundsIn (FW r) n P c Q k a w
 |0,σ,K,φ,a,w,Q,A,O,hr,hQ=>by simp[iter] at hr
 |k+1,σ,K,φ,a,w,Q,A,O,hr,hQ=>by
  simp only[iter] at hr
  rw[roundsIn_succ]
  refine hc σ _ φ a w _ A O hr ?_
  intro ex σ' a' w' φ' k1 k2 k3 k4 k5
  cases ex with
  |normal=>exact xV hc k σ' K φ' a' w' Q k2 k3 k1 (hQ.later k4 k5)
  |ret=>exact hQ .ret σ' a' w' φ' k1 k2 k3 k4 k5
  |exit id=>exact hQ (.exit id) σ' a' w' φ' k1 k2 k3 k4 k5
  |goto l=>exact hQ (.goto l) σ' a' w' φ' k1 k2 k3 k4 k5
theorem Iw {as:List dA} {ops:Array Oper} {x:dO} (h:qp as ops=some x):∃n0 rest,x= .dreg n0 rest:=by
 obtain⟨l0,pl,hok,e⟩:=vE h
 exact⟨_,_,e⟩
theorem iZ {c:Code} {y:dO} (h:comp P N c=some y):
 match y with
 | .skip=>c= .skip
 | .reg as=>∃id ops,c= .region id ops false∧iA P N ops ops.toList=some as
 | .dreg n0 rest=>∃id ops as,c= .region id ops true∧iA P N ops ops.toList=some as∧qp as ops=some (.dreg n0 rest)
 | .seq a b=>∃c1 c2,c= .seq c1 c2∧comp P N c1=some a∧comp P N c2=some b
 | .cond o a b=>∃p c1 c2,c= .cond p c1 c2∧bX p=some o∧comp P N c1=some a∧comp P N c2=some b
 | .block id a=>∃c1,c= .block id c1∧comp P N c1=some a
 | .loop a=>∃c1,c= .loop c1∧comp P N c1=some a
 | .rf f ps a b=>∃g ps' c1 c2,c= .rangeFunc g ps' c1 c2∧bX g=some f∧ps=ps'.toList∧comp P N c1=some a∧comp P N c2=some b∧ps'.toList.all (Nat.blt · N)=true
 | .exit id=>c= .exit id
 | .scope a l r=>∃c1,c= .scope c1∧comp P N c1=some a∧jl a l=some r
 | .label l=>c= .label l
 | .goto l=>c= .goto l
 | .ret=>c= .ret
 | .refuse=>∃why,c= .refuse why
 | .keep _ _=>False:=by
 cases c with
 |skip=>simp only[comp] at h;cases h;rfl
 |region id ops draw=>
  simp only[comp] at h
  split at h
  ·rename_i as has
   cases draw with
   |true=>
    simp only[cond_true] at h
    obtain⟨n0,rest,rfl⟩:=Iw h
    exact⟨id,ops,as,rfl,has,h⟩
   |false=>simp only[cond_false] at h;cases h;exact⟨id,ops,rfl,has⟩
  ·cases h
 |seq a b=>
  simp only[comp] at h
  split at h
  ·rename_i x y h1 h2;cases h;exact⟨a,b,rfl,h1,h2⟩
  ·cases h
 |cond o a b=>
  simp only[comp] at h
  split at h
  ·rename_i p x y h0 h1 h2;cases h;exact⟨o,a,b,rfl,h0,h1,h2⟩
  ·cases h
 |block id a=>
  simp only[comp] at h
  split at h
  ·rename_i x h1;cases h;exact⟨a,rfl,h1⟩
  ·cases h
 |loop a=>
  simp only[comp] at h
  split at h
  ·rename_i x h1;cases h;exact⟨a,rfl,h1⟩
  ·cases h
 |rangeFunc g ps a b=>
  simp only[comp] at h
  split at h
  ·rename_i f x y h0 h1 h2
   cases hps:ps.toList.all (Nat.blt · N) with
   |false=>rw[hps] at h;cases h
   |true=>rw[hps,cond_true] at h;cases h;exact⟨g,ps,a,b,rfl,h0,rfl,h1,h2,hps⟩
  ·cases h
 |exit id=>simp only[comp] at h;cases h;rfl
 |scope a=>
  simp only[comp] at h
  split at h
  ·rename_i x h1
   split at h
   ·rename_i l hl
    split at h
    ·rename_i r hr;cases h;exact⟨a,rfl,h1,hr⟩
    ·cases h
   ·cases h
  ·cases h
 |label l=>simp only[comp] at h;cases h;rfl
 |goto l=>simp only[comp] at h;cases h;rfl
 |ret=>simp only[comp] at h;cases h;rfl
 |refuse why=>simp only[comp] at h;cases h;exact⟨why,rfl⟩
theorem Ap {l:Nat}:∀{c:Code} {x:dO},comp P N c=some x→
 match jl x l with
 |some r=>∃rest,findLabel c l=some rest∧comp P N rest=some r
 |none=>findLabel c l=none:=by
 intro c
 induction c with
 |seq a b iha ihb=>
  intro x h
  obtain⟨y,z,hy,hz,rfl⟩:∃y z,comp P N a=some y∧comp P N b=some z∧x= .seq y z:=by
   simp only[comp] at h
   split at h
   ·rename_i y z h1 h2;cases h;exact⟨y,z,h1,h2,rfl⟩
   ·cases h
  have ha:=iha hy
  have hb:=ihb hz
  simp only[jl,findLabel]
  cases hfa:jl y l with
  |some r=>
   rw[hfa] at ha
   obtain⟨rest,e1,e2⟩:=ha
   simp only[e1]
   exact⟨_,rfl,by simp only[comp,e2,hz]⟩
  |none=>
   rw[hfa] at ha
   simp only at ha
   simp only[ha]
   exact hb
 |label l'=>
  intro x h
  simp only[comp] at h;cases h
  simp only[jl,findLabel]
  by_cases e:l'=l
  ·subst e;simp[comp]
  ·simp[e]
 |_=>
  intro x h
  have hx:=iZ h
  cases x<;>first |(exact hx.elim)|(simp only at hx;done)|skip
  all_goals first
   |(simp only[jl,findLabel];done)
   |(exfalso;simp only at hx;(repeat (first |(obtain⟨_,hx⟩:=hx)));cases hx;done)
   |(exfalso;simp only at hx;obtain⟨_,_,_,hx,_⟩:=hx;cases hx;done)
   |(exfalso;simp only at hx;obtain⟨_,_,hx,_⟩:=hx;cases hx;done)
   |(exfalso;simp only at hx;obtain⟨_,hx,_⟩:=hx;cases hx;done)
   |(exfalso;simp only at hx;cases hx;done)
   |simp[jl,findLabel]
theorem zC {m l:Nat} {rest:Code} {x:dO} (hc:Ko P B N S n call r m rest x):∀(k:Nat) (σ:St) (K:sj) (φ:eO) (a:Act) (w:World) (Q:Exit→Act→World→Prop),At P B N φ σ a w→Dn S r w a→pJ l (dU call m x) K k σ=true→Then P B N S r φ w K Q→Code.jumpsIn (FW r) n P rest l Q k a w
 |0,σ,K,φ,a,w,Q,A,O,hr,hQ=>by simp[pJ] at hr
 |k+1,σ,K,φ,a,w,Q,A,O,hr,hQ=>by
  simp only[pJ] at hr
  show rest.wpIn (FW r) n P (Exit.jumpIn l (Code.jumpsIn (FW r) n P rest l Q k) Q) a w
  refine hc σ _ φ a w _ A O hr ?_
  intro ex σ' a' w' φ' k1 k2 k3 k4 k5
  cases ex with
  |normal=>exact hQ .normal σ' a' w' φ' k1 k2 k3 k4 k5
  |ret=>exact hQ .ret σ' a' w' φ' k1 k2 k3 k4 k5
  |exit id=>exact hQ (.exit id) σ' a' w' φ' k1 k2 k3 k4 k5
  |goto l'=>
   simp only at k1
   cases hb:Nat.beq l' l with
   |false=>rw[hb] at k1;cases k1
   |true=>
    rw[hb] at k1
    exact⟨Nat.eq_of_beq_eq_true hb,zC hc k σ' K φ' a' w' Q k2 k3 k1 (hQ.later k4 k5)⟩
theorem At.keep {φ:eO} {σ:St} {a:Act} {w:World} (A:At P B N φ σ a w) (ks:List Nat):At P B N φ ⟨keepR ks σ.regs,σ.h⟩ a w:=by
 refine⟨⟨A.regs.1,fun t v ht=>A.regs.2 t v ?_⟩,A.heap⟩
 simp only at ht
 revert ht
 induction ks with
 |nil=>intro ht;simp only[keepR] at ht;rw[PT.get_lf] at ht;cases ht
 |cons k ks ih=>
  intro ht
  simp only[keepR] at ht
  split at ht
  ·rename_i u hu
   rw[PT.get_set] at ht
   split at ht
   ·rename_i e;subst e;cases ht;exact hu
   ·exact ih ht
  ·exact ih ht
theorem wE (hmix:P.follows .mixedOrders=true) (hcall:oM P call) (m:Nat):∀(x:dO) (c:Code),comp P N c=some (strip x)→Ko P B N S n call r m c x:=by
 intro x
 induction x with
 |keep ks y ih=>
  intro c hc σ K φ a w Q A O hr hQ
  exact ih c hc ⟨keepR ks σ.regs,σ.h⟩ K φ a w Q (A.keep ks) O hr hQ
 |skip=>
  intro c hc σ K φ a w Q A O hr hQ
  cases iZ hc
  exact wpIn_skip (hQ .normal σ a w φ hr A O φ.le_refl (Gw.refl B w))
 |refuse=>
  intro c hc σ K φ a w Q A O hr hQ
  cases hr
 |label l=>
  intro c hc σ K φ a w Q A O hr hQ
  cases iZ hc
  exact wpIn_label (hQ .normal σ a w φ hr A O φ.le_refl (Gw.refl B w))
 |goto l=>
  intro c hc σ K φ a w Q A O hr hQ
  cases iZ hc
  exact wpIn_goto (hQ (.goto l) σ a w φ hr A O φ.le_refl (Gw.refl B w))
 |reg as=>
  intro c hc σ K φ a w Q A O hr hQ
  obtain⟨id,ops,rfl,has⟩:=iZ hc
  exact Ox hcall has A hr fun σ' a' w' φ' k1 k2 k3 k4 k5=>hQ .normal σ' a' w' φ' k1 k2 (O.mono k5 k3) k4 k5
 |dreg n0 rest=>
  intro c hc σ K φ a w Q A O hr hQ
  obtain⟨id,ops,as,rfl,has,hd⟩:=iZ hc
  exact MC hmix hcall has hd A hr fun σ' a' w' φ' k1 k2 k3 k4 k5=>hQ .normal σ' a' w' φ' k1 k2 (O.mono k5 k3) k4 k5
 |seq y z ihc ihd=>
  intro c hc σ K φ a w Q A O hr hQ
  obtain⟨c1,c2,rfl,hy,hz⟩:=iZ hc
  simp only[dU] at hr
  refine wpIn_seq (ihc c1 hy σ _ φ a w _ A O hr ?_)
  intro ex σ' a' w' φ' k1 k2 k3 k4 k5
  cases ex with
  |normal=>exact ihd c2 hz σ' K φ' a' w' Q k2 k3 k1 (hQ.later k4 k5)
  |ret=>exact hQ .ret σ' a' w' φ' k1 k2 k3 k4 k5
  |exit id=>exact hQ (.exit id) σ' a' w' φ' k1 k2 k3 k4 k5
  |goto l=>exact hQ (.goto l) σ' a' w' φ' k1 k2 k3 k4 k5
 |cond o y z ihc ihd=>
  intro c hc σ K φ a w Q A O hr hQ
  obtain⟨p,c1,c2,rfl,hp,hy,hz⟩:=iZ hc
  simp only[dU] at hr
  split at hr
  ·rename_i hv
   have:=dF A.regs hp hv
   generalize hev:a.eval p=u at this
   cases this
   exact wpIn_cond_true hev (ihc c1 hy σ K φ a w Q A O hr hQ)
  ·rename_i hv
   have:=dF A.regs hp hv
   generalize hev:a.eval p=u at this
   cases this
   exact wpIn_cond_false hev (ihd c2 hz σ K φ a w Q A O hr hQ)
  ·cases hr
 |block id y ih=>
  intro c hc σ K φ a w Q A O hr hQ
  obtain⟨c1,rfl,hy⟩:=iZ hc
  simp only[dU] at hr
  refine wpIn_block (ih c1 hy σ _ φ a w _ A O hr ?_)
  intro ex σ' a' w' φ' k1 k2 k3 k4 k5
  cases ex with
  |normal=>exact hQ .normal σ' a' w' φ' k1 k2 k3 k4 k5
  |ret=>exact hQ .ret σ' a' w' φ' k1 k2 k3 k4 k5
  |goto l=>exact hQ (.goto l) σ' a' w' φ' k1 k2 k3 k4 k5
  |exit i=>
   simp only at k1
   simp only[qC.toExit,Exit.inBlock]
   cases hb:Nat.beq i id with
   |true=>
    rw[hb] at k1
    rw[if_pos (Nat.eq_of_beq_eq_true hb)]
    exact hQ .normal σ' a' w' φ' k1 k2 k3 k4 k5
   |false=>
    rw[hb] at k1
    rw[if_neg (fO.1 hb)]
    exact hQ (.exit i) σ' a' w' φ' k1 k2 k3 k4 k5
 |loop y ih=>
  intro c hc σ K φ a w Q A O hr hQ
  obtain⟨c1,rfl,hy⟩:=iZ hc
  simp only[dU] at hr
  exact wpIn_loop_rounds m (xV (ih c1 hy) m σ K φ a w Q A O hr hQ)
 |exit id=>
  intro c hc σ K φ a w Q A O hr hQ
  cases iZ hc
  exact wpIn_exit (hQ (.exit id) σ a w φ hr A O φ.le_refl (Gw.refl B w))
 |ret=>
  intro c hc σ K φ a w Q A O hr hQ
  cases iZ hc
  exact wpIn_ret (hQ .ret σ a w φ hr A O φ.le_refl (Gw.refl B w))
 |scope y l z ihy ihz=>
  intro c hc σ K φ a w Q A O hr hQ
  obtain⟨c1,rfl,hy,hl⟩:=iZ hc
  have hfl:=Ap (l:=l) hy
  rw[hl] at hfl
  obtain⟨rest,e1,e2⟩:=hfl
  simp only[dU] at hr
  refine yH e1 m (ihy c1 hy σ _ φ a w _ A O hr ?_)
  intro ex σ' a' w' φ' k1 k2 k3 k4 k5
  cases ex with
  |normal=>exact hQ .normal σ' a' w' φ' k1 k2 k3 k4 k5
  |ret=>exact hQ .ret σ' a' w' φ' k1 k2 k3 k4 k5
  |exit id=>exact hQ (.exit id) σ' a' w' φ' k1 k2 k3 k4 k5
  |goto l'=>
   simp only at k1
   cases hb:Nat.beq l' l with
   |false=>rw[hb] at k1;cases k1
   |true=>
    rw[hb] at k1
    exact⟨Nat.eq_of_beq_eq_true hb,zC (ihz rest e2) m σ' K φ' a' w' Q k2 k3 k1 (hQ.later k4 k5)⟩
 |rf f ps xa xb iha ihb=>
  intro c hc σ K φ a w Q A O hr hQ
  obtain⟨g,ps,assign,body,rfl,hy,rfl,ha,hb,hps⟩:=iZ hc
  have hpN:∀p∈ps.toList,p<N:=fun p hp=>by simpa using List.all_eq_true.1 hps p hp
  simp only[dU] at hr
  split at hr
  ·rename_i fid first cap hv
   have hgv:=dF A.regs hy hv
   generalize hcg:a.eval g=cg at hgv
   cases hgv with
   |func hf hcp=>
    rename_i first' cap'
    refine wpIn_rangeFunc ?_
    intro fn _
    obtain⟨w0,mark,R,henter,H0,hg0,hM,e1,e2,e3,e4,e5,e6⟩:=G7 A.heap O fn ps assign body
    have hle1:=eO.le_add (φ:=φ) (id:=σ.h.sz) (g:=0) ⟨w0.heap.size,0,0,0,0⟩ (A.heap.fresh 0)
    have hp:=H0.push (o:= .loop {regs:=σ.regs,ps:=ps.toList,asg:=xa,body:=xb,st:= .ready}) rfl (L:=⟨w0.heap.size,0,0,0,0⟩) (ob:= .loop R) rfl (fun ds e=>by cases e)
     ⟨_,R,N,eO.add_same _ _ _ _,heap_alloc_new w0 _,by rw[e3];exact A.regs.mono hle1,by rw[e4],hpN,by rw[e5];exact ha,by rw[e6];exact hb,⟨e1,e2⟩⟩
    have hg1:Gw B w0 (w0.alloc (.loop R)):=Gw.alloc H0.base (fun _ _ _ e=>by cases e)
    have hcl:=hcall (.func fid) _ _ _ hr B _ _ (first'++[.func (.yield w0.heap.size) #[] #[]]++cap') hp (((hf.mono hle1).append (.cons (.yield (eO.add_same _ _ _ _)) .nil)).append (hcp.mono hle1))
    simp only at hcl
    obtain⟨hrun,hcalls⟩:(callFunc fid ⟨first'++[.func (.yield w0.heap.size) #[] #[]]++cap'⟩).run P (w0.alloc (.loop R))= .ok (.enter fid _) (w0.alloc (.loop R))∧_:=by
     rcases hcl with hcl |⟨hno,_⟩
     ·exact hcl
     ·exact absurd rfl (hno (.fn (.yield σ.h.sz) [] []) (by simp) σ.h.sz)
    refine⟨w0.heap.size,mark,w0.alloc (.loop R),{target:= .fn (.func fid) ⟨cap'⟩,args:=(⟨first'⟩:Array Value)++ #[.func (.yield w0.heap.size) #[] #[]]},w0.alloc (.loop R),fid,⟨first'++[.func (.yield w0.heap.size) #[] #[]]++cap'⟩,w0.alloc (.loop R),henter, ?_,fun _ _=>trivial, ?_,Bz r n, ?_⟩
    ·have hcst:a.eval (.const (.func (.yield w0.heap.size) #[] #[]))= .func (.yield w0.heap.size) #[] #[]:=rfl
     simp[resolve,Deferred.ofValue,hcg,hcst]
    ·have:(⟨first'⟩:Array Value)++ #[.func (.yield w0.heap.size) #[] #[]]++⟨cap'⟩=⟨first'++[.func (.yield w0.heap.size) #[] #[]]++cap'⟩:=by apply Array.ext';simp
     simp only[invoke]
     rw[this]
     exact hrun
    ·refine CallsIn.mono (show CallsIn (FW r) (n-1) P fid _ _ _ from hcalls (n-1)) ?_
     rintro e w3 ⟨v,h',cv,φ',rfl,hK,g1,g2,g3,g4⟩
     simp only at hK
     split at hK
     rotate_left
     ·cases hK
     rename_i l2 hl2
     obtain⟨L,R2,N2,q1,q2,q3,q4,q5,q6,q7,q8,q9⟩:=wI g2 hl2 ⟨_,_,g3 _ _ _ (eO.add_same _ _ _ _)⟩
     have hL:φ' σ.h.sz 0=some ⟨w0.heap.size,0,0,0,0⟩:=g3 _ _ _ (eO.add_same _ _ _ _)
     rw[hL] at q1;cases q1
     obtain⟨u1,u2⟩:=q9 {R2 with state:= .exhausted} .exh rfl rfl rfl rfl rfl
     have hgw:Gw B w0 _:=hg1.trans (g4.trans u2)
     have A4:At P B N φ' ⟨σ.regs,h'.put σ.h.sz (.loop {l2 with st:= .exh})⟩ {a with defers:=mark++a.defers} (w3.putObj w0.heap.size (.loop {R2 with state:= .exhausted})):=⟨A.regs.mono (eO.le_trans hle1 g3),u1⟩
     have O4:Dn S r (w3.putObj w0.heap.size (.loop {R2 with state:= .exhausted})) {a with defers:=mark++a.defers}:=
      ⟨Nat.le_trans O.size (Nat.le_trans hg0.size hgw.size),hM.mono hgw,fun l e=>(let⟨R',k⟩:=O.round l e;(hg0.trans hgw).loops l R' k)⟩
     have fin:∀ex,K ex ⟨σ.regs,h'.put σ.h.sz (.loop {l2 with st:= .exh})⟩=true→Q ex.toExit {a with defers:=mark++a.defers} (w3.putObj w0.heap.size (.loop {R2 with state:= .exhausted})):=
      fun ex hk=>hQ ex _ _ _ φ' hk A4 O4 (eO.le_trans hle1 g3) (hg0.trans hgw)
     split at hK
     ·rename_i hst
      rw[hst] at q8
      refine⟨none,_, ?_,fin .normal hK⟩
      rw[run_endLoop q2 (by rw[q8.1];decide),q8.2]
     ·rename_i ex hst
      rw[hst] at q8
      obtain⟨s1,s2⟩:=q8
      have hend:=run_endLoop (P:=P) q2 (by rw[s1];decide)
      cases ex with
      |normal=>exact s2.elim
      |ret=>
       simp only at s2
       exact⟨some .ret,_,hend.trans (congrArg (fun j=>Result.ok j _) s2),wpIn_ret (fin .ret hK)⟩
      |exit id=>
       simp only at s2
       exact⟨some (.exit id),_,hend.trans (congrArg (fun j=>Result.ok j _) s2),wpIn_exit (fin (.exit id) hK)⟩
      |goto l=>
       simp only at s2
       exact⟨some (.goto l),_,hend.trans (congrArg (fun j=>Result.ok j _) s2),wpIn_goto (fin (.goto l) hK)⟩
     ·cases hK
  ·cases hr
def Gz (tmps:Array Value):ResultVar→Sem Value
 | .tmp t=>pure (tmps.getD t undef)
 | .cell a t=>do loadVar t (←asAddr (tmps.getD a undef))
def K4 (P:Program) (w:World) {α β:Type} (f:α→Sem β):List α→List β→Prop
 | [],[]=>True
 |x :: l,v :: m=>(f x).run P w= .ok v w∧K4 P w f l m
 |_,_=>False
theorem Ju {α β:Type} {w:World} {f:α→Sem β}:∀{l:List α} {m:List β},K4 P w f l m→(l.mapM f).run P w= .ok m w
 | [],[],_=>by simp
 | [],_ :: _,h=>h.elim
 |_ :: _,[],h=>h.elim
 |x :: l,v :: m,h=>by
  rw[List.mapM_cons,Sem.run_bind,h.1,Result.andThen_ok,Sem.run_bind,Ju h.2]
  simp
theorem qQ {φ:eO} {σ:St} {a:Act} {w:World} (A:At P B N φ σ a w):∀{l:List ResultVar} {res:List (Nat×Option (Bool×Nat))} {vs:List AV},vB P l=some res→iT σ.regs σ.h res=some vs→
 ∃cvs,K4 P w (Gz a.tmps) l cvs∧dH φ vs cvs
 | [],res,vs,hr,hv=>by
   simp[vB] at hr;subst hr
   simp[iT] at hv;subst hv
   exact⟨[],trivial, .nil⟩
 | .tmp t :: l,res,vs,hr,hv=>by
   simp only[vB,Option.bind_eq_bind,Option.pure_def] at hr
   cases hl:vB P l with
   |none=>simp[hl] at hr
   |some res'=>
    simp[hl] at hr;subst hr
    simp only[iT,wM] at hv
    split at hv
    ·rename_i v h1
     split at hv
     ·rename_i vs' h2
      cases hv
      obtain⟨cvs,g1,g2⟩:=qQ A hl h2
      obtain⟨cv,e1,e2⟩:=A.regs.2 t v h1
      exact⟨cv :: cvs,⟨by simp[Gz,e1],g1⟩, .cons e2 g2⟩
     ·cases hv
    ·cases hv
 | .cell x t :: l,res,vs,hr,hv=>by
   simp only[vB,Option.bind_eq_bind,Option.pure_def] at hr
   cases hl:vB P l with
   |none=>cases hag:kr P t<;>cases hs:sizeT P t<;>simp[hl,hag,hs] at hr
   |some res'=>
    cases hag:kr P t with
    |none=>simp[hag] at hr
    |some ag=>
     cases hs:sizeT P t with
     |none=>simp[hag,hs] at hr
     |some sz=>
      simp[hl,hag,hs] at hr;subst hr
      simp only[iT,wM] at hv
      split at hv
      ·rename_i v h1
       split at h1
       ·rename_i p hp
        split at hv
        ·rename_i vs' h2
         cases hv
         obtain⟨cvs,g1,g2⟩:=qQ A hl h2
         obtain⟨cp,e1,e2⟩:=A.regs.2 x p hp
         obtain⟨cv,q1,q2,q3⟩:=Bd A.heap e2 h1 hag hs
         have hptr:∃Ad,cp= .pointer (some Ad):=by
          unfold au at h1
          cases e2<;>first |(cases h1;done)|exact⟨_,rfl⟩
         obtain⟨Ad,rfl⟩:=hptr
         exact⟨cv :: cvs,⟨by simp[Gz,e1,asAddr,q2 Ad rfl],g1⟩, .cons q3 g2⟩
        ·cases hv
       ·cases h1
      ·cases hv
theorem LW {φ:eO} {vs:List AV} {cvs:List Value} (h:dH φ vs cvs):dn φ (oneOf vs) (if h:(⟨cvs⟩:Array Value).size=1 then(⟨cvs⟩:Array Value)[0] else .tuple ⟨cvs⟩):=by
 cases h with
 |nil=>exact .tup .nil
 |cons h1 h2=>
  cases h2 with
  |nil=>simpa[oneOf] using h1
  |cons h2 h3=>simpa[oneOf] using dn.tup (.cons h1 (.cons h2 h3))
theorem Dj {φ:eO} {σ:St} {a:Act} {w:World} {fn:Func} (A:At P B N φ σ a w) {res:List (Nat×Option (Bool×Nat))} {vs:List AV} (hr:vB P fn.results.toList=some res) (hv:iT σ.regs σ.h res=some vs):
 ∃cv,(results fn a.tmps).run P w= .ok cv w∧dn φ (oneOf vs) cv:=by
 obtain⟨cvs,g1,g2⟩:=qQ A hr hv
 have e:results fn a.tmps=(do let vs ←fn.results.mapM (Gz a.tmps);pure (if h:vs.size=1 then vs[0] else .tuple vs)):=by
  unfold results
  congr 1
 refine⟨_, ?_,LW g2⟩
 rw[e,Sem.run_bind]
 rw[Array.mapM_eq_mapM_toList,Sem.run_map,Ju g1]
 rfl
theorem En:∀{l:List AV} {i t:Nat} {ρ:dY},(vH i l ρ).get t=if i≤t∧t<i+l.length then l[t-i]? else ρ.get t
 | [],i,t,ρ=>by simp[vH];omega
 |v :: l,i,t,ρ=>by
  simp only[vH]
  rw[En,PT.get_set]
  by_cases h1:t=i
  ·subst h1
   rw[if_neg (by omega),if_pos rfl,if_pos (by simp)]
   simp
  ·by_cases h2:i+1≤t∧t<i+1+l.length
   ·rw[if_pos h2,if_pos (by simp;omega)]
    have:t-i=(t-(i+1))+1:=by omega
    rw[this];rfl
   ·rw[if_neg h2,if_neg h1,if_neg (by simp;omega)]
theorem Kn {φ:eO} {args:List AV} {cargs:List Value} (h:dH φ args cargs) (N:Nat):kI φ N (vH 0 args .lf) ((⟨cargs⟩:Array Value)++Array.replicate (N-(⟨cargs⟩:Array Value).size) undef):=by
 refine⟨by simp;omega,fun t v ht=> ?_⟩
 rw[En] at ht
 split at ht
 ·rename_i hlt
  obtain⟨cv,e1,e2⟩:=h.get (i:=t) (a:=v) (by simpa using ht)
  refine⟨cv, ?_,e2⟩
  have:t<cargs.length:=(List.getElem?_eq_some_iff.1 e1).1
  rw[Array.getElem?_append_left (by simpa using this)]
  simpa using e1
 ·rw[PT.get_lf] at ht;cases ht
def uh (P:Program) (f:Nat) (p:ay→Nat→List AV→aj→aC→Bool):Prop:=
 ∀(call:ay) (n:Nat),oM P call→∀(args:List AV) (h:aj) (K:aC),p call n args h K=true→(∀v∈args,∀id,v≠ .fn (.yield id) [] [])∧∀(B:Base) (φ:eO) (w:World) (cargs:List Value),dI P B φ h w→dH φ args cargs→oK P B φ w K ((callFunc f ⟨cargs⟩).run P w)
def Ej (P:Program) (E:Env):Prop:=(∀f p,E.prim f=some p→uh P f p)∧∀f fn,E.code f=some fn→∃F,P.funcs[f]? =some F∧bC P F=some (bW fn)
theorem zk {φ:eO}:∀{ps:List Nat} {vs:List AV} {ρ ρ':dY} {tmps:Array Value} {cvs:List Value},(∀p∈ps,p<N)→kI φ N ρ tmps→dH φ vs cvs→vw ps vs ρ=some ρ'→
 kI φ N ρ' ((ps.zip cvs).foldl (fun t (x:Nat×Value)=>t.setIfInBounds x.1 x.2) tmps)∧ps.length=cvs.length
 | [],[],ρ,ρ',tmps,cvs,_,hR,hv,hs=>by
   cases hv
   simp[vw] at hs;subst hs
   exact⟨hR,rfl⟩
 | [],_ :: _,_,_,_,_,_,_,_,hs=>by simp[vw] at hs
 |_ :: _,[],_,_,_,_,_,_,_,hs=>by simp[vw] at hs
 |p :: ps,v :: vs,ρ,ρ',tmps,cvs,hN,hR,hv,hs=>by
  cases hv with
  |cons h1 h2=>
   rename_i cv cvs'
   simp only[vw] at hs
   obtain⟨k1,k2⟩:=zk (fun q hq=>hN q (List.mem_cons_of_mem _ hq)) (hR.set (hN p List.mem_cons_self) h1) h2 hs
   exact⟨k1,by simp[k2]⟩
theorem lV {E:Env} (hmix:P.follows .mixedOrders=true) (hE:Ej P E):∀m,oM P (aD E m)
 |0=>fun _ _ _ _ h=>by simp[aD] at h
 |m+1=>by
  intro tgt args h K hK B φ w cargs H hA
  cases tgt with
  |yield id=>
   intro L hL
   simp only[aD] at hK
   split at hK
   rotate_left
   ·cases hK
   rename_i l hl
   split at hK
   rotate_left
   ·cases hK
   rename_i hst
   split at hK
   rotate_left
   ·cases hK
   rename_i ρ hρ
   obtain⟨L',R,N,q1,q2,q3,q4,q5,q6,q7,q8,q9⟩:=wI H hl
   rw[hL] at q1;cases q1
   obtain⟨s1,s2⟩:=zk q5 q3 hA hρ
   have hsize:(⟨cargs⟩:Array Value).size=R.params.size:=by
    have:R.params.toList.length=cargs.length:=by rw[q4];exact s2
    simpa using this.symm
   rw[run_yield q2 hsize]
   have htm:(R.params.zip ⟨cargs⟩).foldl (fun(tmps:Array Value) (x:Nat×Value)=>tmps.setIfInBounds x.1 x.2) R.tmps=((l.ps.zip cargs).foldl (fun t (x:Nat×Value)=>t.setIfInBounds x.1 x.2) R.tmps):=by
    rw[←Array.foldl_toList,Array.toList_zip,q4]
   intro n
   refine roundIn_of_wpIn trivial ?_
   have O:Dn w.heap.size (some L.blk) w {tmps:=((l.ps.zip cargs).foldl (fun t (x:Nat×Value)=>t.setIfInBounds x.1 x.2) R.tmps),defers:=[]}:=⟨Nat.le_refl _,trivial,fun l' e=>by cases e;exact⟨R,q2⟩⟩
   show R.assign.wpIn (FW (some L.blk)) n P _ {tmps:=(R.params.zip ⟨cargs⟩).foldl (fun(tmps:Array Value) (x:Nat×Value)=>tmps.setIfInBounds x.1 x.2) R.tmps,defers:=[]} w
   rw[htm]
   refine wE (B:=B) (S:=w.heap.size) hmix (lV hmix hE m) m l.asg R.assign q6 ⟨ρ,h⟩ _ φ _ w _ ⟨s1,H⟩ O hK ?_
   intro ex σ' a' w' φ' k1 k2 k3 k4 k5
   cases ex<;>first |(cases k1;done)|skip
   simp only at k1
   split at k1
   rotate_left
   ·cases k1
   rename_i l1 hl1
   split at k1
   rotate_left
   ·cases k1
   rename_i hst1
   obtain⟨L1,R1,N1,p1,p2,p3,p4,p5,p6,p7,p8,p9⟩:=wI k2.heap hl1 ⟨_,_,k4 _ _ _ hL⟩
   rw[k4 _ _ _ hL] at p1;cases p1
   rw[hst1] at p8
   obtain⟨u1,u2⟩:=p9 {R1 with state:= .busy} .busy rfl rfl rfl rfl rfl
   refine⟨_,run_beginRound p2 p8.1, ?_⟩
   refine wE (B:=B) (S:=w.heap.size) hmix (lV hmix hE m) m l.body R.body q7 ⟨σ'.regs,σ'.h.put id (.loop {l1 with st:= .busy})⟩ _ φ' a' _ _ ⟨k2.regs,u1⟩ (k3.mono u2 rfl) k1 ?_
   intro ex σ2 a2 w2 φ2 j1 j2 j3 j4 j5
   simp only at j1
   split at j1
   rotate_left
   ·cases j1
   rename_i l2 hl2
   obtain⟨L2,R2,N2,t1,t2,t3,t4,t5,t6,t7,t8,t9⟩:=wI j2.heap hl2 ⟨_,_,j4 _ _ _ (k4 _ _ _ hL)⟩
   rw[j4 _ _ _ (k4 _ _ _ hL)] at t1;cases t1
   have ends:∀(st':AX) (jump:Option Code) (b:Bool),jump.isNone=b→Nf st' {R2 with state:=if jump.isNone then .ready else .done,pending:=jump}→K (.bool b) (σ2.h.put id (.loop {l2 with st:=st'}))=true→
    ∃v w',(Instr.endRound L.blk jump).run P w2= .ok v w'∧Ends P B φ w K (.returned v) w':=by
    intro st' jump b hb hst' hk
    obtain⟨v1,v2⟩:=t9 {R2 with state:=if jump.isNone then .ready else .done,pending:=jump} st' rfl rfl rfl rfl hst'
    refine⟨_,_,run_endRound jump t2, .bool b,_,_,φ2,rfl,hk, ?_,v1,eO.le_trans k4 j4,k5.trans (u2.trans (j5.trans v2))⟩
    rw[hb];exact .bool b
   cases ex with
   |normal=>exact ends .ready none true rfl ⟨rfl,rfl⟩ j1
   |ret=>exact ends (.done .ret) (some .ret) false rfl ⟨rfl,rfl⟩ j1
   |exit i=>exact ends (.done (.exit i)) (some (.exit i)) false rfl ⟨rfl,rfl⟩ j1
   |goto i=>exact ends (.done (.goto i)) (some (.goto i)) false rfl ⟨rfl,rfl⟩ j1
  |func f=>
   simp only[aD] at hK
   split at hK
   ·rename_i p hp
    obtain⟨q1,q2⟩:=hE.1 f p hp _ m (lV hmix hE m) args h K hK
    exact .inr ⟨q1,q2 B φ w cargs H hA⟩
   split at hK
   ·cases hK
   ·rename_i fn hf
    obtain⟨F,hF,hc⟩:=hE.2 f fn hf
    obtain⟨_,hK⟩:=xG hK
    unfold bC at hc
    split at hc
    ·cases hc
    ·rename_i c hbody
     split at hc
     ·rename_i x res hx hres
      cases hn:F.name== "runtime.NumGoroutine" with
      |true=>rw[hn] at hc;cases hc
      |false=>
       rw[hn,cond_false] at hc
       obtain⟨np',res',body'⟩:=fn
       simp only[bW,Option.some.injEq,dW.mk.injEq] at hc
       obtain⟨e1,rfl,rfl⟩:=hc
       simp only at hK
       have hrun:(callFunc f ⟨cargs⟩).run P w= .ok (.enter f ⟨cargs⟩) w:=by
        have hn':F.name≠ "runtime.NumGoroutine" :=by simpa using hn
        simp[callFunc,Sem.run_bind,hF,hn',hbody]
       refine .inl ⟨hrun,fun n=> ?_⟩
       refine callsIn_of_wp_marks hF hbody trivial ?_
       have A:At P B F.ntmps φ ⟨vH 0 args .lf,h⟩ {tmps:=(⟨cargs⟩:Array Value)++Array.replicate (F.ntmps-(⟨cargs⟩:Array Value).size) undef,defers:=[]} w:=⟨Kn hA _,H⟩
       refine wE (S:=w.heap.size) hmix (lV hmix hE m) m body' c hx _ _ φ _ w _ A ⟨Nat.le_refl _,trivial,fun l e=>by cases e⟩ hK ?_
       intro ex σ' a' w' φ' k1 k2 k3 k4 k5
       have fin:(match iT σ'.regs σ'.h res with |some l=>K (oneOf l) σ'.h |none=>false)=true→LeavesInM (FW none) n P F a'.tmps (Ends P B φ w K) a'.defers .returning w':=by
        intro hk
        split at hk
        ·rename_i vs hvs
         refine xH (B:=B) (φ:=φ') (h:=σ'.h) (Nat.le_refl _) H.base ?_ a'.defers w' k3.marks k2.heap k5
         intro w2 H2 hg2
         have A2:At P B F.ntmps φ' σ' a' w2:=⟨k2.regs,H2⟩
         obtain⟨cv,e1,e2⟩:=Dj A2 hres hvs
         exact⟨cv,e1,oneOf vs,σ'.h,cv,φ',rfl,hk,e2,H2,k4,hg2⟩
        ·cases hk
       cases ex with
       |normal=>exact fin k1
       |ret=>exact fin k1
       |exit id=>cases k1
       |goto l=>cases k1
     ·cases hc
end
def isTrue:AV→Bool
 | .bool true=>true
 |_=>false
def NU:List (Nat×dW)→Nat→Option dW
 | [],_=>none
 |(k,fn) :: l,f=>bif Nat.beq k f then some fn else NU l f
section
variable {P:Program} {E:Env}
theorem Eh {f:Nat} {fn:dW}:∀{l:List (Nat×dW)},NU l f=some fn→(f,fn)∈l
 | [],h=>by cases h
 |(k,x) :: l,h=>by
  simp only[NU] at h
  cases hb:Nat.beq k f with
  |true=>
   rw[hb,cond_true] at h
   cases h
   rw[Nat.eq_of_beq_eq_true hb]
   exact List.mem_cons_self
  |false=>
   rw[hb,cond_false] at h
   exact List.mem_cons_of_mem _ (Eh h)
def BF (P:Program):List (Nat×dW)→Prop
 | []=>True
 |(k,fn) :: l=>(∃F,P.funcs[k]? =some F∧bC P F=some (bW fn))∧BF P l
theorem BF.mem {P:Program}:∀{l:List (Nat×dW)},BF P l→∀k fn,(k,fn)∈l→∃F,P.funcs[k]? =some F∧bC P F=some (bW fn)
 | [],_,_,_,h=>by cases h
 |(k,fn) :: l,⟨h1,h2⟩,k',fn',h=>by
  rcases List.mem_cons.1 h with e |h
  ·cases e;exact h1
  ·exact BF.mem h2 k' fn' h
theorem Hu (hE:Ej P E) {f:Nat} {fn:dW} (hf:E.code f=some fn) (cargs:List Value) (w:World):(callFunc f ⟨cargs⟩).run P w= .ok (.enter f ⟨cargs⟩) w:=by
 obtain⟨F,hF,hc⟩:=hE.2 f fn hf
 unfold bC at hc
 split at hc
 ·cases hc
 ·rename_i c hbody
  split at hc
  ·rename_i x res hx hres
   cases hn:F.name== "runtime.NumGoroutine" with
   |true=>rw[hn] at hc;cases hc
   |false=>
    have hn':F.name≠ "runtime.NumGoroutine" :=by simpa using hn
    simp[callFunc,Sem.run_bind,hF,hn',hbody]
  ·cases hc
theorem Ah (W:World):dI P (.of W.heap.size) (fun _ _=>none) aj.empty W:=by
 refine⟨Nat.le_refl _, ?_, ?_, ?_, ?_, ?_, ?_, ?_, ?_, ?_⟩
 ·intro id g L h;cases h
 ·intro id h;exact absurd h (Nat.not_lt_zero _)
 ·intro id h;rfl
 ·intro id o h;cases h
 ·intro id g L h;cases h
 ·intro id o g L h;cases h
 ·intro id o id' g g' L L' h;cases h
 ·intro id g L h;cases h
 ·intro id o h;cases h
def GJ (W W':World):Prop:=W.keptBut W' (fun _=>False)∧(∀a:Addr,a.block<W.heap.size→W'.frozen? a=W.frozen? a)∧W.heap.size≤W'.heap.size
theorem GJ.frame {W W':World} (h:GJ W W') (may:MemPlace→Prop):W.keptBut W' may:=World.keptBut_mono (fun _ f=>f.elim) h.1
theorem grown_of {W W':World} (h:Gw W.heap.size W W'):GJ W W':=by
 refine⟨⟨h.os,h.output,fun i hi=> ?_⟩,h.frozen,h.size⟩
 rw[h.below i hi]
 split
 ·rename_i e1 e2
  rw[e1] at e2
  cases e2
  exact⟨rfl,rfl,rfl,fun _ _=>rfl⟩
 ·rename_i e1 e2
  rw[e1] at e2
  cases e2
  exact .inr ⟨rfl,rfl⟩
 ·rfl
end
end Go.Ab
