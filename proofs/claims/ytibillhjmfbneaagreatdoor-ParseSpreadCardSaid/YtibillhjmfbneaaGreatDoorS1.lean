/-
  Texts that the claim hangs on, part 2.
-/
import Derived.Test.YtibillhjmfbneaaGreatDoorS0
import Derived.Lib.Builder
import Derived.Lib.UnsafeStr
import Derived.OrdersIn
import Derived.LoopNIn
set_option linter.unusedSimpArgs false
set_option linter.unusedVariables false
namespace Go.Ab
section
variable {P:Program} {B:Base} {φ:dD} {h h':aj} {w:World} {v:AV}
structure agK (φ:dD) (w:World) (sz:Nat) (l:List (List AV)) (cx:Value):Prop where
 es:∀e∈l,e.length=sz
 leaf:∀e∈l,aD e=true
 len:∀(P:Program) (w':World),(Builtin.lenOf cx).run P w'= .ok l.length w'
 first:∀n,n≤l.length→∃nv:List Value,bS φ (l.take n).flatten nv∧∀(P:Program) (w':World),w'.heap=w.heap→(Builtin.firstCells sz n cx).run P w'= .ok nv.toArray w'
theorem Lr (φ:dD):∀(bs:List UInt8),bS φ ((bs.map UInt8.toNat).map fun b=>AV.int .u8 (.ofNat b)) (bs.map fun b=>Value.int .u8 b.toNat)
 | []=> .nil
 |b :: bs=> .cons (.int _ _) (Lr φ bs)
theorem yh {α:Type}:∀(l:List α),(l.map fun x=>[x]).flatten=l
 | []=>rfl
 |x :: l=>by simp only[List.map_cons,List.flatten_cons,yh l];rfl
theorem wF {sz:Nat} {x:AV} {cx:Value} {l:List (List AV)} (H:bJ P B φ h w) (hx:aX φ x cx) (hs:source h sz x=some l):agK φ w sz l cx:=by
 unfold source at hs
 split at hs
 ·cases hs;cases hx
  refine⟨by simp,by simp,fun P w'=>by simp[Builtin.lenOf],fun n hn=>⟨[],by simp;exact .nil,fun P w' _=>by simp[Builtin.firstCells]⟩⟩
 ·cases hs;cases hx
  refine⟨by simp,by simp,fun P w'=>by simp[Builtin.lenOf],fun n hn=>⟨[],by simp;exact .nil,fun P w' _=> ?_⟩⟩
  have:n=0:=by simpa using hn
  subst this
  simp[Builtin.firstCells,loadCells,loadCellsFrom]
 ·rename_i id g s len cap ex
  cases hx with
  |slc hL h1 h2 h3 h4 h5 h6=>
   rename_i c off L
   cases h0:Nat.beq len 0 with
   |true=>
    rw[h0,cond_true] at hs;cases hs
    have:=aF.1 h0;subst this
    refine⟨by simp,by simp,fun P w'=>by simp[Builtin.lenOf],fun n hn=>⟨[],by simp;exact .nil,fun P w' _=> ?_⟩⟩
    have:n=0:=by simpa using hn
    subst this
    simp[Builtin.firstCells,loadCells,loadCellsFrom]
   |false=>
    rw[h0,cond_false] at hs
    have hpos:=dh.1 h0
    split at hs
    ·rename_i r hrow
     cases hc:(Nat.ble r.m g&&Nat.beq r.sz sz) with
     |false=>rw[hc] at hs;cases hs
     |true=>
      rw[hc,cond_true] at hs
      simp only[Bool.and_eq_true,aI,aF] at hc
      obtain⟨c1,c2⟩:=hc
      have hr:lG φ id r w:=H.obj id _ (aj.row_some.1 hrow)
      cases hl:Nat.beq ((r.es.drop s).take len).length len with
      |false=>simp only[hl] at hs;cases hs
      |true=>
       simp only[hl,cond_true] at hs;cases hs
       have hl:=aF.1 hl
       have hsz:L.sz=r.sz:=(hr.gen g L hL).2
       refine⟨fun e he=>by rw[←c2];exact hr.es e (List.mem_of_mem_drop (List.mem_of_mem_take he)),fun e he=>hr.leaf e (List.mem_of_mem_drop (List.mem_of_mem_take he)),fun P w'=>by simp only[Builtin.lenOf,Sem.run_pure,hl],fun n hn=> ?_⟩
       rw[hl] at hn
       have hfit:s*r.sz+n*r.sz≤L.ext*r.sz:=by
        rw[←Nat.add_mul];exact Nat.mul_le_mul_right _ (by omega)
       obtain⟨vs,v1,v2,v3⟩:=Ib hr hL c1 hfit
       have hfl:(((r.es.drop s).take len).take n).flatten=(r.es.flatten.drop (s*r.sz)).take (n*r.sz):=by
        rw[List.take_take,Nat.min_eq_left hn,wI (fun e he=>hr.es e (List.mem_of_mem_drop he)),G7 hr.es]
       refine⟨vs,by rw[hfl];exact v1,fun P w' hw'=> ?_⟩
       refine run_firstCells_some (P:=P) w' sz n _ _ _ vs (by rw[v2,c2]) (fun j u hj=> ?_)
       have ec:∀A,w'.cell? A=w.cell? A:=fun A=>by simp[World.cell?,hw']
       rw[ec,h6 (by omega),hsz]
       exact v3 j u hj
    ·cases hs
 ·rename_i s
  cases hx with
  |str hb=>
   rename_i bs
   cases hc:Nat.beq sz 1 with
   |false=>rw[hc] at hs;cases hs
   |true=>
    rw[hc,cond_true] at hs;cases hs
    have:=aF.1 hc;subst this
    have hsz:=yI hb
    refine⟨by intro e he;simp at he;obtain⟨b,_,rfl⟩:=he;rfl,by intro e he;simp at he;obtain⟨b,_,rfl⟩:=he;rfl,fun P w'=>by simp[Builtin.lenOf,hsz],fun n hn=> ?_⟩
    simp only[List.length_map] at hn
    refine⟨(bs.data.toList.take n).map fun b=>Value.int .u8 b.toNat, ?_,fun P w' _=> ?_⟩
    ·have e1:((s.map fun b=>[AV.int .u8 (.ofNat b)]).take n).flatten=(((bs.data.toList.take n).map UInt8.toNat).map fun b=>AV.int .u8 (.ofNat b)):=by
      rw[←List.map_take, ←hb, ←List.map_take]
      rw[show(fun b:Nat=>[AV.int .u8 (.ofNat b)])=(fun x=>[x])∘(fun b:Nat=>AV.int .u8 (.ofNat b)) from rfl, ←List.map_map,yh]
     rw[e1]
     exact Lr φ _
    ·simp only[Builtin.firstCells,Sem.run_pure]
     congr 1
     apply Array.ext'
     simp[ByteArray.data_extract,List.extract_eq_take_drop]
 ·cases hs
theorem Cv {z:List Value} (hz:0<z.length) (n:Nat):Builtin.zeroCells z.toArray n=(List.replicate n z).flatten.toArray:=by
 apply Array.ext'
 have:=Ae z hz n
 simp only[Builtin.zeroCells,Array.toList_map,Array.toList_range,List.size_toArray]
 exact this
def Wu (P:Program) (w:World) (t1 t2 ty:TypeId) (base:Option Addr) (sLen sCap m:Nat) (sz:Nat) (nv:List Value) (cx:Value):Prop:=
 sLen+m≤sCap→∀A,base=some A→∀w',(storeCells (A.add (sLen*sz)) nv).run P w= .ok () w'→(Builtin.append_ #[t1,t2] ty #[.slice base sLen sCap,cx]).run P w= .ok (.slice base (sLen+m) sCap) w'
def Wn (P:Program) (w:World) (t1 t2 ty e:TypeId) (base:Option Addr) (sLen sCap m:Nat) (sz:Nat) (zc:Array Value) (nv:List Value) (cx:Value):Prop:=
 sCap<sLen+m→∀ov:List Value,(∀w':World,w'.heap=w.heap→(Builtin.firstCells sz sLen (.slice base sLen sCap)).run P w'= .ok ov.toArray w')→
  (Builtin.append_ #[t1,t2] ty #[.slice base sLen sCap,cx]).run P w=
    .ok (.slice (some ⟨w.heap.size,0,none⟩) (sLen+m) (grownCap w (sLen+m) sCap e)) (w.drew.alloc (.cells (ov++nv++(Builtin.zeroCells zc (grownCap w (sLen+m) sCap e-(sLen+m))).toList).toArray e))
theorem ZL {t1 t2 ty e:TypeId} (hu:P.underlying t1=some (.slice e)) {sz:Nat} (hsz:sizeT P e=some sz) {d2:TypeDesc} (hu2:P.underlying t2=some d2) (hni:∀k,d2≠ .int k)
 {cx:Value} {m:Nat} (hlen:∀w':World,(Builtin.lenOf cx).run P w'= .ok m w') {nv:List Value} (hfirst:(Builtin.firstCells sz m cx).run P w= .ok nv.toArray w) (base:Option Addr) (sLen sCap:Nat):
 Wu P w t1 t2 ty base sLen sCap m sz nv cx:=by
 intro hroom A hA w' hst
 subst hA
 have hz:(d2 matches .int _)=false:=by cases d2<;>first |rfl |exact absurd rfl (hni _)
 simp only[Builtin.append_,List.getElem?_toArray,List.getElem?_cons_zero,List.getElem?_cons_succ,Sem.run_bind,run_underlying hu,run_underlying hu2,Result.andThen_ok,fF hsz,Sem.run_pure,hz,Bool.false_eq_true,if_false,hlen,hroom,if_true,Bool.not_false,hfirst,hst]
theorem aah {t1 t2 ty e:TypeId} (hu:P.underlying t1=some (.slice e)) {sz:Nat} (hsz:sizeT P e=some sz) {d2:TypeDesc} (hu2:P.underlying t2=some d2) (hni:∀k,d2≠ .int k)
 {i:TypeInfo} (hi:P.info? e=some i) {zv:Value} (hz0:i.zero=some zv) {bytes:Nat} (hby:i.bytes=bytes)
 {cx:Value} {m:Nat} (hlen:∀w':World,(Builtin.lenOf cx).run P w'= .ok m w') {nv:List Value} (hfirst:∀w':World,w'.heap=w.heap→(Builtin.firstCells sz m cx).run P w'= .ok nv.toArray w') (base:Option Addr) (sLen sCap:Nat)
 (hmost:(sLen+m)*bytes≤most) (hmost2:sLen+m≤most):
 Wn P w t1 t2 ty e base sLen sCap m sz zv.cells nv cx:=by
 intro hgrow ov hov
 have hz:(d2 matches .int _)=false:=by cases d2<;>first |rfl |exact absurd rfl (hni _)
 unfold most at hmost hmost2
 have hns:¬(sLen+m≤sCap):=by omega
 have h63:¬((((sLen+m:Nat):Int)>IntKind.i64.max)∧(False∨i.bytes=0)):=by
  rintro⟨h1,_⟩
  have:IntKind.i64.max=9223372036854775807:=by rfl
  rw[this] at h1
  omega
 have h48:¬(Builtin.nextslicecap (sLen+m) sCap*i.bytes>2 ^ 48):=by
  have:=growslice_fits (bytes:=i.bytes) hgrow (by rw[hby];omega)
  omega
 have hti:∀w':World,(typeInfo e).run P w'= .ok i w':=fun w'=>by simp[typeInfo,hi]
 have hzv:∀w':World,(zeroValue e).run P w'= .ok zv w':=fun w'=>by simp[zeroValue,typeInfo,hi,hz0]
 simp only[Builtin.append_,List.getElem?_toArray,List.getElem?_cons_zero,List.getElem?_cons_succ,Sem.run_bind,run_underlying hu,run_underlying hu2,Result.andThen_ok,fF hsz,Sem.run_pure,hz,Bool.false_eq_true,if_false,hlen,hns,
  hti,Bool.not_false,if_true,h63,h48]
 have hq:(Question.appendCap (sLen+m) sCap e).forced=false:=rfl
 simp only[choose,Sem.run,hq,Bool.false_eq_true,if_false,Result.andThen_ok,hti,run_askRoom]
 simp only[World.drew_eq,hov w.drew rfl,Result.andThen_ok,hfirst w.drew rfl,hzv]
 simp only[Go.newRow,Sem.run_bind,run_newObj,Result.andThen_ok,Sem.run_pure]
 congr 1
 show World.alloc _ _=World.alloc _ _
 congr 2
 apply Array.ext'
 simp[grownCap,List.append_assoc]
theorem CG (w:World) (need old:Nat) (e:TypeId):need≤grownCap w need old e:=by
 simp[grownCap,Question.cut]
theorem QW {H:bJ P B φ h w} {id:Nat} {r:Row} (hget:h.get id=some (.row r)) (hrw:r.rw=true) {es':List (List AV)} (hes:∀e∈es',e.length=r.sz) (hlf:∀e∈es',aD e=true) {m':Nat} (hm':m'≤r.g+1)
 {w':World} {L:Loc} (hL:L.sz=r.sz∧L.ext=es'.length∧L.base=0) (hblk:(L.blk=w.heap.size∧L.blk<w'.heap.size)∨∃g0 L0,φ id g0=some L0∧L0.blk=L.blk)
 (hsz:w.heap.size≤w'.heap.size) (hkeep:∀k,k<w.heap.size→(∀g K,φ id g=some K→K.blk≠k)→w'.heap[k]? =w.heap[k]?) (hkind:tO w w')
 (hnew:∃vals,bS φ es'.flatten vals∧∀(j:Nat) (u:Value),vals[j]? =some u→w'.cell? ⟨L.blk,j,none⟩=some u)
 (hcells:∃c t,w'.heap[L.blk]? =some (.cells c t (0,0))∧c.size=L.tot*L.sz∧L.ext≤L.tot)
 (hold:∀g K,m'≤g→φ id g=some K→K.ext≤es'.length∧(∃vals,bS φ (es'.take K.ext).flatten vals∧∀(j:Nat) (u:Value),vals[j]? =some u→w'.cell? ⟨K.blk,K.base+j,none⟩=some u)∧
   K.base=0∧∃c t,w'.heap[K.blk]? =some (.cells c t (0,0))∧c.size=K.tot*K.sz∧K.ext≤K.tot)
 {ty':Option Nat} (hty:∀u,ty'=some u→(∃c f,w'.heap[L.blk]? =some (.cells c u f))∧∀g K,m'≤g→φ id g=some K→∃c f,w'.heap[K.blk]? =some (.cells c u f)) (hdm:∃g L,φ id g=some L:=by exact⟨_,_,by assumption⟩):
 φ.le (φ.add id (r.g+1) L)∧bJ P B (φ.add id (r.g+1) L) (h.put id (.row {r with es:=es',g:=r.g+1,m:=m',ty:=ty'})) w':=by
 have hrow:lG φ id r w:=H.obj id _ hget hdm
 obtain⟨g0,L0,hL0⟩:=hdm
 have hnone:φ id (r.g+1)=none:=by
  cases e:φ id (r.g+1) with
  |none=>rfl
  |some K=>have:=(hrow.gen _ K e).1;omega
 have hle:=dD.le_add (φ:=φ) L hnone
 refine⟨hle, ?_⟩
 have hkey:∀g K,φ.add id (r.g+1) L id g=some K→(g=r.g+1∧K=L)∨φ id g=some K:=by
  intro g K e
  by_cases hg:g=r.g+1
  ·subst hg;rw[dD.add_same] at e;cases e;exact .inl ⟨rfl,rfl⟩
  ·rw[dD.add_other _ _ (by omega)] at e;exact .inr e
 refine H.update hget hrw hrw hle (fun a g ha=>dD.add_other _ _ (by omega)) ?_ hsz hkeep hkind ?_
 ·intro g K e
  rcases hkey g K e with⟨_,rfl⟩|h1
  ·exact .inr hblk
  ·exact .inl h1
 ·refine⟨hm',hrow.sz,hes,hlf,⟨L,dD.add_same _ _ _ _,hL.2.1⟩,fun g K e=> ?_,fun g K hm e=> ?_,fun _ g K hm e=> ?_,fun u hu _ g K hm e=> ?_⟩
  ·rcases hkey g K e with⟨rfl,rfl⟩|h1
   ·exact⟨Nat.le_refl _,hL.1⟩
   ·exact⟨Nat.le_succ_of_le (hrow.gen g K h1).1,(hrow.gen g K h1).2⟩
  ·rcases hkey g K e with⟨rfl,rfl⟩|h1
   ·obtain⟨vals,a,b⟩:=hnew
    refine⟨by rw[hL.2.1];exact Nat.le_refl _,vals, ?_,fun j u hj=> ?_⟩
    ·rw[hL.2.1,List.take_of_length_le (Nat.le_refl _)];exact a.mono hle
    ·rw[hL.2.2,Nat.zero_add];exact b j u hj
   ·obtain⟨a,⟨vals,b,c⟩,_⟩:=hold g K hm h1
    exact⟨a,vals,b.mono hle,c⟩
  ·rcases hkey g K e with⟨rfl,rfl⟩|h1
   ·exact⟨hL.2.2,hcells⟩
   ·exact(hold g K hm h1).2.2
  ·rcases hkey g K e with⟨rfl,rfl⟩|h1
   ·exact(hty u hu).1
   ·exact(hty u hu).2 g K hm h1
theorem Gt {a b:Option Nat} {u:Nat} (h:oQ a b=some u):a=some u∧b=some u:=by
 unfold oQ at h
 split at h
 ·rename_i x y
  cases hb:Nat.beq x y with
  |false=>rw[hb] at h;cases h
  |true=>
   rw[hb] at h;cases h
   have:=aF.1 hb
   subst this
   exact⟨rfl,rfl⟩
 ·cases h
theorem yE {id g st len cap c off:Nat} {r:Row} {L:Loc} {sz:Nat} (hr:lG φ id r w) (hL:φ id g=some L) (hm:r.m≤g) (hsz:r.sz=sz) (h1:len≤cap) (h2:st+cap≤L.ext) (h4:cap≤c) (h6:0<c→off=L.base+st*L.sz):
 ∃ov:List Value,bS φ ((r.es.drop st).take len).flatten ov∧ov.length=len*sz∧∀w':World,w'.heap=w.heap→(Builtin.firstCells sz len (.slice (some ⟨L.blk,off,none⟩) len c)).run P w'= .ok ov.toArray w':=by
 have hLs:L.sz=r.sz:=(hr.gen g L hL).2
 have hfit:st*r.sz+len*r.sz≤L.ext*r.sz:=by rw[←Nat.add_mul];exact Nat.mul_le_mul_right _ (by omega)
 obtain⟨vs,v1,v2,v3⟩:=Ib hr hL hm hfit
 refine⟨vs, ?_,by rw[v2,hsz],fun w' hw'=> ?_⟩
 ·rw[wI (fun e he=>hr.es e (List.mem_of_mem_drop he)),G7 hr.es];exact v1
 ·refine run_firstCells_some (P:=P) w' sz len _ _ _ vs (by rw[v2,hsz]) (fun j u hj=> ?_)
  have ec:∀A,w'.cell? A=w.cell? A:=fun A=>by simp[World.cell?,hw']
  have hjl:=(List.getElem?_eq_some_iff.1 hj).1
  have hlen:0<len:=by
   rcases Nat.eq_zero_or_pos len with h0 |h0
   ·rw[h0,Nat.zero_mul] at v2;omega
   ·exact h0
  rw[ec,h6 (by omega),hLs]
  exact v3 j u hj
theorem IC {sz bytes:Nat} {s:AV} {cs cx:Value} {new:List (List AV)} {nv:List Value} {t1 t2 ty e:TypeId} {zc:Array Value} (H:bJ P B φ h w) (hs:aX φ s cs) (hsz:0<sz) (hzc:zc.size=sz)
 (hne:∀x∈new,x.length=sz) (hnl:∀x∈new,aD x=true) (hnv:bS φ new.flatten nv)
 (hroom:∀base sLen sCap,Wu P w t1 t2 ty base sLen sCap new.length sz nv cx)
 (hgrow:∀base sLen sCap,(sLen+new.length)*bytes≤most→sLen+new.length≤most→Wn P w t1 t2 ty e base sLen sCap new.length sz zc nv cx)
 (hnil:new.length=0→(Builtin.append_ #[t1,t2] ty #[.slice none 0 0,cx]).run P w= .ok (.slice none 0 0) w)
 {nt:Option Nat} (hnt:∀u,nt=some u→u=e) (he:iI h sz bytes s new nt=some (v,h')):lJ P B φ h' v w ((Builtin.append_ #[t1,t2] ty #[cs,cx]).run P w):=by
 have hnvl:nv.length=new.length*sz:=by rw[←hnv.length,lV hne]
 have hflat:aD new.flatten=true:=wY hnl
 have hzl:∀n,(Builtin.zeroCells zc n).toList.length=n*sz:=fun n=>by simp[Builtin.zeroCells,hzc]
 unfold iI at he
 split at he
 ·cases hs
  split at he
  ·cases he
   exact lJ.pure H (hnil rfl) .ah
  ·rename_i hnn
   cases hc:(Nat.ble (new.length*bytes) most&&Nat.ble new.length most) with
   |false=>rw[hc] at he;cases he
   |true=>
    rw[hc,cond_true] at he;cases he
    simp only[Bool.and_eq_true,aI] at hc
    have hpos:0<new.length:=List.length_pos_iff.2 hnn
    have hrun:=hgrow none 0 0 (by simpa using hc.1) (by simpa using hc.2) (by omega) [] (fun w' _=>by simp[Builtin.firstCells])
    simp only[Nat.zero_add,List.nil_append] at hrun
    have hge:=CG w new.length 0 e
    obtain⟨φ',p1,p2,p3,p4⟩:=yM H.drew hsz hne hnl (vals:=nv) (spare:=(Builtin.zeroCells zc (grownCap w new.length 0 e-new.length)).toList) hnv (tot:=grownCap w new.length 0 e)
     (by rw[hzl,hnvl, ←Nat.add_mul];congr 1;omega) e nt hnt
    refine⟨_,_,φ',hrun, ?_,p3,p1,(Gw.drew B w).trans p4⟩
    exact .slc p2 (Nat.le_refl _) (by simp only;omega) (by simp only;omega) hge (fun e=>by cases e) (fun _=>by simp)
 ·cases hs
  rename_i A
  split at he
  ·cases he
   have hnv0:nv=[]:=List.length_eq_zero_iff.1 (by simpa using hnvl)
   subst hnv0
   have hrun:=hroom (some A) 0 0 (by simp) _ rfl w (by simp[storeCells])
   exact⟨_,w,φ,hrun, .emp,H,φ.le_refl,Gw.refl B w⟩
  ·rename_i hnn
   cases hc:(Nat.ble (new.length*bytes) most&&Nat.ble new.length most) with
   |false=>rw[hc] at he;cases he
   |true=>
    rw[hc,cond_true] at he;cases he
    simp only[Bool.and_eq_true,aI] at hc
    have hpos:0<new.length:=List.length_pos_iff.2 hnn
    have hrun:=hgrow (some A) 0 0 (by simpa using hc.1) (by simpa using hc.2) (by omega) [] (fun w' _=>by simp[Builtin.firstCells,loadCells,loadCellsFrom])
    simp only[Nat.zero_add,List.nil_append] at hrun
    have hge:=CG w new.length 0 e
    obtain⟨φ',p1,p2,p3,p4⟩:=yM H.drew hsz hne hnl (vals:=nv) (spare:=(Builtin.zeroCells zc (grownCap w new.length 0 e-new.length)).toList) hnv (tot:=grownCap w new.length 0 e)
     (by rw[hzl,hnvl, ←Nat.add_mul];congr 1;omega) e nt hnt
    refine⟨_,_,φ',hrun, ?_,p3,p1,(Gw.drew B w).trans p4⟩
    exact .slc p2 (Nat.le_refl _) (by simp only;omega) (by simp only;omega) hge (fun e=>by cases e) (fun _=>by simp)
 ·rename_i id g st len cap ex
  cases hs with
  |slc hL h1 h2 h3 h4 h5 h6=>
   rename_i c off L
   split at he
   ·cases he
    have hnv0:nv=[]:=List.length_eq_zero_iff.1 (by simpa using hnvl)
    subst hnv0
    have hrun:=hroom (some ⟨L.blk,off,none⟩) len c (by simp;omega) _ rfl w (by simp[storeCells])
    exact⟨_,w,φ,hrun, .slc hL h1 h2 h3 h4 h5 h6,H,φ.le_refl,Gw.refl B w⟩
   ·rename_i hnn
    have hpos:0<new.length:=List.length_pos_iff.2 hnn
    split at he
    ·cases he
    ·rename_i r hget
     have hrow:=aj.row_some.1 hget
     have hr:lG φ id r w:=H.obj id _ hrow
     cases hc:(Nat.ble ((len+new.length)*bytes) most&&Nat.ble (len+new.length) most&&Nat.beq r.sz sz) with
     |false=>rw[hc] at he;cases he
     |true=>
      rw[hc,cond_true] at he
      simp only[Bool.and_eq_true,aI,aF] at hc
      obtain⟨⟨c1,c2⟩,c3⟩:=hc
      have hLs:L.sz=sz:=by rw[(hr.gen g L hL).2,c3]
      cases hin:Nat.ble (len+new.length) cap with
      |true=>
       rw[hin,cond_true] at he
       have hin:=aI.1 hin
       cases hcc:(r.rw&&Nat.beq g r.g) with
       |false=>rw[hcc] at he;cases he
       |true=>
        rw[hcc,cond_true] at he;cases he
        simp only[Bool.and_eq_true,aF] at hcc
        obtain⟨hrw,rfl⟩:=hcc
        obtain⟨L',hL',hext⟩:=hr.cur
        rw[hL] at hL';cases hL'
        have hfl:new.flatten.length=new.length*sz:=lV hne
        have hfit:(st+len)*r.sz+new.flatten.length≤r.es.length*r.sz:=by
         rw[hfl,c3, ←Nat.add_mul];exact Nat.mul_le_mul_right _ (by omega)
        obtain⟨w',s1,s2,s3⟩:=EG H hrow hrw hL hnv hflat hfit (es':=lay r.es (st+len) new)
         (by
           intro x hx
           unfold lay at hx
           rcases List.mem_append.1 hx with hx |hx
           ·rcases List.mem_append.1 hx with hx |hx
            ·exact hr.es x (List.mem_of_mem_take hx)
            ·rw[c3];exact hne x hx
           ·exact hr.es x (List.mem_of_mem_drop hx))
         (wR _ _ _ (by omega)) (by rw[c3];exact N8 (by rw[←c3];exact hr.es) hne _)
         (by
           intro x hx
           unfold lay at hx
           rcases List.mem_append.1 hx with hx |hx
           ·rcases List.mem_append.1 hx with hx |hx
            ·exact hr.leaf x (List.mem_of_mem_take hx)
            ·exact hnl x hx
           ·exact hr.leaf x (List.mem_of_mem_drop hx))
        have hA:(⟨L.blk,off,none⟩:Addr).add (len*sz)=⟨L.blk,L.base+(st+len)*r.sz,none⟩:=by
         rw[Addr.add_lit,h6 (by omega),hLs,c3,Nat.add_mul,Nat.add_assoc]
        have hrun:=hroom (some ⟨L.blk,off,none⟩) len c (by omega) _ rfl w' (by rw[hA];exact s1)
        exact⟨_,w',φ,hrun, .slc hL (by omega) h2 h3 h4 h5 h6,s2,φ.le_refl,s3⟩
      |false=>
       rw[hin,cond_false] at he
       have hin:¬len+new.length≤cap:=fun h=>by rw[aI.2 h] at hin;cases hin
       cases ex with
       |true=>
        rw[cond_true] at he
        have hcc:=h5 rfl
        subst hcc
        cases hm:Nat.ble r.m g with
        |false=>rw[hm] at he;cases he
        |true=>
         rw[hm,cond_true] at he
         have hm:=aI.1 hm
         cases hl:Nat.beq ((r.es.drop st).take len).length len with
         |false=>simp only[hl] at he;cases he
         |true=>
          simp only[hl,cond_true] at he;cases he
          have hl:=aF.1 hl
          obtain⟨ov,o1,o2,o3⟩:=yE (P:=P) hr hL hm c3 h1 h2 h4 h6
          have hrun:=hgrow (some ⟨L.blk,off,none⟩) len c c1 c2 (by omega) ov o3
          have hge:=CG w (len+new.length) c e
          have hes':∀x∈(r.es.drop st).take len++new,x.length=sz:=by
           intro x hx
           rcases List.mem_append.1 hx with hx |hx
           ·rw[←c3];exact hr.es x (List.mem_of_mem_drop (List.mem_of_mem_take hx))
           ·exact hne x hx
          have hlf':∀x∈(r.es.drop st).take len++new,aD x=true:=by
           intro x hx
           rcases List.mem_append.1 hx with hx |hx
           ·exact hr.leaf x (List.mem_of_mem_drop (List.mem_of_mem_take hx))
           ·exact hnl x hx
          obtain⟨φ',p1,p2,p3,p4⟩:=yM H.drew hsz hes' hlf' (vals:=ov++nv) (spare:=(Builtin.zeroCells zc (grownCap w (len+new.length) c e-(len+new.length))).toList)
           (by rw[List.flatten_append];exact o1.append hnv) (tot:=grownCap w (len+new.length) c e)
           (by rw[hzl,List.length_append,hnvl,o2, ←Nat.add_mul, ←Nat.add_mul];congr 1;omega) e nt hnt
          refine⟨_,_,φ',hrun, ?_,p3,p1,(Gw.drew B w).trans p4⟩
          exact .slc p2 (Nat.le_refl _) (by simp only[List.length_append,hl];omega) (by simp only;omega) hge (fun e=>by cases e) (fun _=>by simp)
       |false=>
        rw[cond_false] at he
        cases hcc:(r.rw&&Nat.beq g r.g&&Nat.beq st 0) with
        |false=>rw[hcc] at he;cases he
        |true=>
         rw[hcc,cond_true] at he
         simp only[Bool.and_eq_true,aF] at hcc
         obtain⟨⟨hrw,rfl⟩,rfl⟩:=hcc
         obtain⟨L',hL',hext⟩:=hr.cur
         rw[hL] at hL';cases hL'
         obtain⟨hbase,bc,bt,hbc,hbs,hbx⟩:=hr.own hrw r.g L hr.mg hL
         obtain⟨_,vals,hv,hcv⟩:=hr.cells r.g L hr.mg hL
         rw[List.take_of_length_le (by omega)] at hv
         have hvl:vals.length=r.es.length*r.sz:=by rw[←hv.length,lV hr.es]
         have hlen:len≤r.es.length:=by omega
         have hes':∀x∈r.es.take len++new,x.length=r.sz:=by
          intro x hx
          rcases List.mem_append.1 hx with hx |hx
          ·exact hr.es x (List.mem_of_mem_take hx)
          ·rw[c3];exact hne x hx
         have hlf':∀x∈r.es.take len++new,aD x=true:=by
          intro x hx
          rcases List.mem_append.1 hx with hx |hx
          ·exact hr.leaf x (List.mem_of_mem_take hx)
          ·exact hnl x hx
         have hesl:(r.es.take len++new).length=len+new.length:=by
          rw[List.length_append,List.length_take];omega
         have hnewv:bS φ (r.es.take len++new).flatten (vals.take (len*r.sz)++nv):=by
          rw[List.flatten_append,wI hr.es];exact(hv.take _).append hnv
         have hoff:0<c→off=0:=fun hc0=>by have:=h6 hc0;omega
         have key:∀(m':Nat),m'≤r.g+1→(∀g K,m'≤g→φ id g=some K→r.m≤g∧K.ext≤len)→
          lJ P B φ (h.put id (.row {r with es:=r.es.take len++new,g:=r.g+1,m:=m',ty:=oQ r.ty nt})) (.slc id (r.g+1) 0 (len+new.length) (len+new.length) false) w
           ((Builtin.append_ #[t1,t2] ty #[.slice (some ⟨L.blk,off,none⟩) len c,cx]).run P w):=by
          intro m' hm' hold
          by_cases hfits:len+new.length≤c
          ·
           have hsz2:len*sz+nv.length≤bc.size:=by
            rw[hbs,hnvl,hLs, ←Nat.add_mul];exact Nat.mul_le_mul_right _ (by omega)
           have hst:=run_storeCells_at P L.blk (len*sz) bt nv 0 bc w hbc (by simpa using hsz2) (hnv.leaf hflat)
           simp only[Nat.add_zero] at hst
           have hA:(⟨L.blk,off,none⟩:Addr).add (len*sz)=⟨L.blk,len*sz,none⟩:=by
            rw[Addr.add_lit,hoff (by omega),Nat.zero_add]
           have hrun:=hroom (some ⟨L.blk,off,none⟩) len c hfits _ rfl _ (by rw[hA];exact hst)
           generalize hc':(bc.toList.take (len*sz)++nv++bc.toList.drop (len*sz+nv.length)).toArray=c' at hst hrun
           have hheap:=setRow_heap w L.blk bc c' bt (0,0) hbc
           have hcs:c'.size=bc.size:=by rw[←hc'];simp;omega
           have hB:B≤L.blk:=(H.own id _ r.g L hrow hL).1 hrw
           have hcell:∀(j:Nat) (u:Value),vals[j]? =some u→bc.toList[j]? =some u:=by
            intro j u hj
            have:=hcv j u hj
            rw[hbase,Nat.zero_add,cell_of_row w L.blk _ bc bt (0,0) hbc] at this
            simpa using this
           have hpre:∀(j:Nat) (u:Value),j<len*sz→vals[j]? =some u→c'[j]? =some u:=by
            intro j u hj hu
            rw[←hc',List.getElem?_toArray,List.append_assoc,List.getElem?_append_left (by simp;omega),List.getElem?_take_of_lt hj]
            exact hcell j u hu
           have hmin0:(vals.take (len*r.sz)).length=len*sz:=by
            rw[List.length_take,hvl,c3,Nat.min_eq_left (Nat.mul_le_mul_right _ hlen)]
           have hgrown:=QW (H:=H) hrow hrw hes' hlf' hm' (w':=w.setRow L.blk c') (L:=⟨L.blk,0,r.sz,len+new.length,L.tot⟩) ⟨rfl,hesl.symm,rfl⟩ (.inr ⟨r.g,L,hL,rfl⟩) (by simp)
            (fun k _ hk=>setRow_other w L.blk k c' (fun e=>hk r.g L hL e.symm)) (tO.of_block hheap (fun ds e=>by cases e) (fun k hk=>setRow_other w L.blk k c' hk))
            ⟨_,hnewv,fun j u hj=>by
              rw[cell_setRow_same w L.blk _ bc c' bt (0,0) hbc]
              by_cases hjl:j<len*sz
              ·rw[List.getElem?_append_left (by rw[hmin0];exact hjl),List.getElem?_take_of_lt (by rw[c3];exact hjl)] at hj
               exact hpre j u hjl hj
              ·rw[List.getElem?_append_right (by rw[hmin0];omega),hmin0] at hj
               have hjn:=(List.getElem?_eq_some_iff.1 hj).1
               rw[←hc',List.getElem?_toArray,List.append_assoc,List.getElem?_append_right (by simp;omega),List.getElem?_append_left (by simp;omega)]
               rw[List.length_take,Nat.min_eq_left (by simp;omega)]
               exact hj⟩
            ⟨c',bt,hheap,by rw[hcs,hbs,hLs,c3],by simp only;omega⟩
            (fun g K hmg hK=>by
              obtain⟨a1,a2⟩:=hold g K hmg hK
              obtain⟨b1,vs,b2,b3⟩:=hr.cells g K a1 hK
              obtain⟨d1,dc,dt,d2,d3,d4⟩:=hr.own hrw g K a1 hK
              have hKs:K.sz=r.sz:=(hr.gen g K hK).2
              have htk:(r.es.take len++new).take K.ext=r.es.take K.ext:=by
               rw[List.take_append_of_le_length (by simp;omega),List.take_take,Nat.min_eq_left a2]
              have hvsl:vs.length=K.ext*r.sz:=by
               rw[←b2.length,lV (sz:=r.sz) (fun x hx=>hr.es x (List.mem_of_mem_take hx)),List.length_take];congr 1;omega
              refine⟨by omega,⟨vs,by rw[htk];exact b2,fun j u hj=> ?_⟩,d1, ?_⟩
              ·have hjl:=(List.getElem?_eq_some_iff.1 hj).1
               have hcu:=b3 j u hj
               rw[d1,Nat.zero_add] at hcu ⊢
               by_cases hbk:K.blk=L.blk
               ·rw[hbk] at hcu ⊢
                rw[cell_of_row w L.blk _ bc bt (0,0) hbc] at hcu
                rw[cell_setRow_same w L.blk _ bc c' bt (0,0) hbc]
                have hjs:j<len*sz:=by
                 have:K.ext*r.sz≤len*sz:=by rw[c3];exact Nat.mul_le_mul_right _ a2
                 omega
                rw[←hc',List.getElem?_toArray,List.append_assoc,List.getElem?_append_left (by simp;omega),List.getElem?_take_of_lt hjs]
                simpa using hcu
               ·rw[cell_setRow_other w L.blk c' _ hbk];exact hcu
              ·by_cases hbk:K.blk=L.blk
               ·refine⟨c',bt,by rw[hbk];exact hheap, ?_,d4⟩
                rw[hbk,hbc] at d2
                cases d2
                rw[hcs];exact d3
               ·exact⟨dc,dt,(setRow_other w L.blk K.blk c' hbk).trans d2,d3,d4⟩)
            (ty':=oQ r.ty nt) (fun u hu=>by
              obtain⟨y1,y2⟩:=Gt hu
              obtain⟨c0,f0,hc0⟩:=hr.ty u y1 hrw r.g L hr.mg hL
              rw[hbc] at hc0;cases hc0
              refine⟨⟨_,_,hheap⟩,fun g K hmg hK=> ?_⟩
              obtain⟨a1,a2⟩:=hold g K hmg hK
              obtain⟨ck,fk,hk⟩:=hr.ty _ y1 hrw g K a1 hK
              by_cases hbk:K.blk=L.blk
              ·rw[hbk];exact⟨_,_,hheap⟩
              ·exact⟨_,_,(setRow_other w L.blk K.blk c' hbk).trans hk⟩)
           refine⟨_,_,_,hrun, ?_,hgrown.2,hgrown.1,Gw.of_block hbc hB (fun ds e=>by cases e) (fun r e=>by cases e) hheap (fun _ _ _ e=>by cases e;rfl) (fun _ _ _ e=>by cases e;rfl) (fun k hk=>setRow_other w L.blk k c' hk) (by simp) rfl rfl rfl⟩
           exact .slc (L:=⟨L.blk,0,r.sz,len+new.length,L.tot⟩) (dD.add_same _ _ _ _) (Nat.le_refl _) (by simp only;omega) (by simp only;omega) hfits (fun e=>by cases e) (fun hc0=>by simp[hoff hc0])
          ·
           obtain⟨ov,o1,o2,o3⟩:=yE (P:=P) hr hL hr.mg c3 h1 h2 h4 h6
           have hrun:=hgrow (some ⟨L.blk,off,none⟩) len c c1 c2 (by omega) ov o3
           have hge:=CG w (len+new.length) c e
           simp only[List.drop_zero] at o1
           generalize hgc:grownCap w (len+new.length) c e=gc at hrun hge
           generalize hzz:(Builtin.zeroCells zc (gc-(len+new.length))).toList=zz at hrun
           have hzzl:zz.length=(gc-(len+new.length))*sz:=by rw[←hzz];exact hzl _
           have hgrown:=QW (H:=H.drew) hrow hrw hes' hlf' hm' (w':=w.drew.alloc (.cells (ov++nv++zz).toArray e)) (L:=⟨w.heap.size,0,r.sz,len+new.length,gc⟩) ⟨rfl,hesl.symm,rfl⟩ (.inl ⟨rfl,by simp⟩) (by simp)
            (fun k hk _=>heap_alloc_old w.drew _ hk) (tO.alloc w.drew (fun ds e=>by cases e))
            ⟨ov++nv,by rw[List.flatten_append];exact o1.append hnv,fun j u hj=>by
              have hjl:=(List.getElem?_eq_some_iff.1 hj).1
              have:=World.cell?_alloc_new w.drew (ov++nv++zz).toArray e j
              rw[show w.drew.heap.size=w.heap.size from rfl] at this
              rw[this,List.getElem?_toArray,List.getElem?_append_left hjl]
              exact hj⟩
            ⟨_,e,heap_alloc_new w.drew _,by simp only[List.size_toArray,List.length_append];rw[o2,hnvl,hzzl,c3, ←Nat.add_mul, ←Nat.add_mul];congr 1;omega,hge⟩
            (fun g K hmg hK=>by
              obtain⟨a1,a2⟩:=hold g K hmg hK
              obtain⟨b1,vs,b2,b3⟩:=hr.cells g K a1 hK
              obtain⟨d1,dc,dt,d2,d3,d4⟩:=hr.own hrw g K a1 hK
              have hlt:=H.lt id g K hK
              have htk:(r.es.take len++new).take K.ext=r.es.take K.ext:=by
               rw[List.take_append_of_le_length (by simp;omega),List.take_take,Nat.min_eq_left a2]
              refine⟨by omega,⟨vs,by rw[htk];exact b2,fun j u hj=> ?_⟩,d1,dc,dt,(heap_alloc_old w.drew _ hlt).trans d2,d3,d4⟩
              exact(cell_of_heap (heap_alloc_old w.drew _ hlt)).trans (b3 j u hj))
            (ty':=oQ r.ty nt) (fun u hu=>by
              obtain⟨y1,y2⟩:=Gt hu
              obtain rfl:=hnt u y2
              refine⟨⟨_,_,heap_alloc_new w.drew _⟩,fun g K hmg hK=> ?_⟩
              obtain⟨a1,a2⟩:=hold g K hmg hK
              obtain⟨ck,fk,hk⟩:=hr.ty _ y1 hrw g K a1 hK
              exact⟨_,_,(heap_alloc_old w.drew _ (H.lt id g K hK)).trans hk⟩)
           refine⟨_,_,_,hrun, ?_,hgrown.2,hgrown.1,(Gw.drew B w).trans (Gw.alloc H.drew.base (fun _ _ _ e=>by cases e;rfl))⟩
           exact .slc (L:=⟨w.heap.size,0,r.sz,len+new.length,gc⟩) (dD.add_same _ _ _ _) (Nat.le_refl _) (by simp only;omega) (by simp only;omega) hge (fun e=>by cases e) (fun _=>by simp)
         cases hlr:Nat.beq len r.es.length with
         |true=>
          rw[hlr,cond_true] at he;cases he
          have hlr:=aF.1 hlr
          have:=key r.m (Nat.le_succ_of_le hr.mg) (fun g K hm hK=>⟨hm,by rw[hlr];exact(hr.cells g K hm hK).1⟩)
          rw[List.take_of_length_le (by omega)] at this
          exact this
         |false=>
          rw[hlr,cond_false] at he;cases he
          exact key (r.g+1) (Nat.le_refl _) (fun g K hm hK=>absurd (hr.gen g K hK).1 (by omega))
 ·cases he
theorem XV {t1 t2 ty:TypeId} {x y:Operand} {op:fK} {N:Nat} {ρ:dx} {a:Act} (hR:lM φ N ρ a.tmps) (H:bJ P B φ h w) (hc:oH P .append [t1,t2] [x,y]=some op) (he:aN ρ h op=some (v,h')):
 lJ P B φ h' v w ((Builtin.append_ #[t1,t2] ty #[a.eval x,a.eval y]).run P w):=by
 simp only[oH] at hc
 split at hc
 ·rename_i p q e d hx hy hu hu2
  split at hc
  ·rename_i sz bytes z hs hb hz
   cases hcc:(Nat.beq z.cells.length sz&&Nat.blt 0 sz) with
   |false=>rw[hcc] at hc;cases hc
   |true=>
    rw[hcc,cond_true] at hc
    simp only[Bool.and_eq_true,aF,bB] at hcc
    obtain⟨hzl,hsz⟩:=hcc
    obtain⟨zv,it,z1,z2,z3,z4⟩:=jS hz w
    obtain⟨it2,b1,b2,b3⟩:=Ju hb w
    rw[z3] at b3;cases b3
    have hzc:zv.cells.size=sz:=by have:=(kF (φ:=φ) z2).length;simp only[Array.length_toList] at this;omega
    have main:∀(hni:∀k,d≠ .int k) (nt:Option Nat),(∀u,nt=some u→u=e)→(∃sv xv,ev ρ p=some sv∧ev ρ q=some xv∧iM h sz bytes sv xv nt=some (v,h'))→lJ P B φ h' v w ((Builtin.append_ #[t1,t2] ty #[a.eval x,a.eval y]).run P w):=by
     intro hni nt hnt hop
     obtain⟨sv,xv,hp,hq,he⟩:=hop
     simp only[iM] at he
     cases h0:Nat.beq sz 0 with
     |true=>rw[h0] at he;cases he
     |false=>
      rw[h0,cond_false] at he
      cases hsrc:source h sz xv with
      |none=>rw[hsrc] at he;cases he
      |some new=>
       rw[hsrc] at he
       simp only at he
       have S:=wF H (bD hR hy hq) hsrc
       obtain⟨nv,n1,n2⟩:=S.first new.length (Nat.le_refl _)
       rw[List.take_of_length_le (Nat.le_refl _)] at n1
       refine IC (zc:=zv.cells) H (bD hR hx hp) hsz hzc S.es S.leaf n1 (fun base sLen sCap=>ZL hu hs hu2 hni (S.len P) (n2 P w rfl) base sLen sCap)
        (fun base sLen sCap m1 m2=>aah hu hs hu2 hni z3 z4 b2 (S.len P) (n2 P) base sLen sCap m1 m2) (fun hl=> ?_) hnt he
       have hz:(d matches .int _)=false:=by cases d<;>first |rfl |exact absurd rfl (hni _)
       have hln:=S.len P w
       rw[hl] at hln
       have hnf:=n2 P w rfl
       rw[hl] at hnf
       simp only[Builtin.append_,List.getElem?_toArray,List.getElem?_cons_zero,List.getElem?_cons_succ,Sem.run_bind,run_underlying hu,run_underlying hu2,Result.andThen_ok,fF hs,Sem.run_pure,hz,Bool.false_eq_true,if_false,hln,
        Nat.add_zero,Nat.le_refl,if_true,Bool.not_false,hnf]
    have two:∀{o:fK} {nt:Option Nat},(∀u,nt=some u→u=e)→(∀k,d≠ .int k)→aN ρ h o=some (v,h')→(aN ρ h o=match ev ρ p,ev ρ q with |some s,some x=>iM h sz bytes s x nt |_,_=>none)→lJ P B φ h' v w ((Builtin.append_ #[t1,t2] ty #[a.eval x,a.eval y]).run P w):=by
     intro o nt hnt hni he heq
     rw[heq] at he
     cases hp:ev ρ p with
     |none=>simp[hp] at he
     |some sv=>
      cases hq:ev ρ q with
      |none=>simp[hp,hq] at he
      |some xv=>
       rw[hp,hq] at he
       exact main hni nt hnt ⟨sv,xv,hp,hq,he⟩
    split at hc
    ·cases hb:(yQ P e&&Nat.beq sz 1&&Nat.beq bytes 1) with
     |true=>
      rw[hb,cond_true] at hc;cases hc
      simp only[Bool.and_eq_true,aF] at hb
      obtain⟨⟨_,rfl⟩,rfl⟩:=hb
      exact two (nt:=some e) (fun u hu=>by cases hu;rfl) (fun k hk=>by cases hk) he rfl
     |false=>
      rw[hb,cond_false] at hc;cases hc
      exact two (nt:=none) (fun u hu=>by cases hu) (fun k hk=>by cases hk) he rfl
    ·cases hb:(yQ P e&&Nat.beq sz 1&&Nat.beq bytes 1) with
     |true=>
      rw[hb,cond_true] at hc;cases hc
      simp only[Bool.and_eq_true,aF] at hb
      obtain⟨⟨_,rfl⟩,rfl⟩:=hb
      exact two (nt:=some e) (fun u hu=>by cases hu;rfl) (fun k hk=>by cases hk) he rfl
     |false=>
      rw[hb,cond_false] at hc;cases hc
      exact two (nt:=none) (fun u hu=>by cases hu) (fun k hk=>by cases hk) he rfl
    ·rename_i k
     cases hc
     simp only[aN] at he
     cases hp:ev ρ p with
     |none=>simp[hp] at he
     |some sv=>
      cases hq:ev ρ q with
      |none=>simp[hp,hq] at he
      |some xv=>
       rw[hp,hq] at he
       simp only[ZX] at he
       cases hcz:(Nat.blt 0 sz&&Nat.beq z.cells.length sz&&aD z.cells) with
       |false=>rw[hcz] at he;cases he
       |true=>
        rw[hcz,cond_true] at he
        simp only[Bool.and_eq_true,bB,aF] at hcz
        cases hn:asNat xv with
        |none=>rw[hn] at he;cases he
        |some n=>
         rw[hn] at he
         simp only at he
         cases hb2:(Nat.ble n most&&Nat.ble (n*bytes) most) with
         |false=>rw[hb2] at he;cases he
         |true=>
          rw[hb2,cond_true,zF] at he
          simp only[Bool.and_eq_true,aI] at hb2
          obtain⟨hm1,hm2⟩:=hb2
          obtain⟨ki,hki⟩:=lu (bD hR hy hq) hn
          have hlen:(List.replicate n z.cells).length=n:=List.length_replicate
          have hnv:bS φ (List.replicate n z.cells).flatten (List.replicate n zv.cells.toList).flatten:=(kF z2).replicate n
          have hzs:(Builtin.zeroCells zv.cells n)=(List.replicate n zv.cells.toList).flatten.toArray:=by
           have:=Cv (z:=zv.cells.toList) (by simp;omega) n
           simpa using this
          unfold most at hm1 hm2
          have hw:IntKind.i64.wrap (n:Int)=n:=IntWalk.i64_in _ ⟨by omega,by omega⟩
          have hz:((TypeDesc.int k) matches .int _)=true:=rfl
          have hti:∀w':World,(typeInfo e).run P w'= .ok it w':=fun w'=>by simp[typeInfo,z3]
          have hzv:∀w':World,(zeroValue e).run P w'= .ok zv w':=fun w'=>by simp[zeroValue,typeInfo,z3,z4]
          have hl0:¬((n:Int)<0):=by omega
          have hby:¬((n:Int)*(it.bytes:Int)>2 ^ 48):=by
           rw[b2]
           have:(n:Int)*(bytes:Int)=((n*bytes:Nat):Int):=by simp
           rw[this];omega
          rw[hki]
          have hap:∀w':World,(if n*sz=0 then(Pure.pure #[]:Sem (Array Value)) else do Pure.pure (Builtin.zeroCells (←zeroValue e).cells n)).run P w'= .ok (List.replicate n zv.cells.toList).flatten.toArray w':=by
           intro w'
           by_cases hn0:n*sz=0
           ·have:n=0:=by rcases Nat.mul_eq_zero.1 hn0 with h1 |h1<;>omega
            subst this
            simp
           ·rw[if_neg hn0];simp[hzv,hzs]
          refine IC (e:=e) (zc:=zv.cells) (new:=List.replicate n z.cells) (nv:=(List.replicate n zv.cells.toList).flatten) H (bD hR hx hp) hsz hzc (fun x hx=>by rw[List.eq_of_mem_replicate hx];exact hzl) (fun x hx=>by rw[List.eq_of_mem_replicate hx];exact hcz.2) hnv ?_ ?_ ?_ (fun u hu=>by cases hu) he
          ·intro base sLen sCap hroom A hA w' hst
           subst hA
           rw[hlen] at hroom ⊢
           simp only[Builtin.append_,List.getElem?_toArray,List.getElem?_cons_zero,List.getElem?_cons_succ,Sem.run_bind,run_underlying hu,run_underlying hu2,Result.andThen_ok,fF hs,Sem.run_pure,asInt,asIntOf,hw,if_true,hl0,if_false,hti,hby,Int.toNat_natCast,hroom,
            Bool.not_true,Bool.false_eq_true,hap,hst]
          ·intro base sLen sCap m1 m2 hgrow ov hov
           rw[hlen] at m1 m2 hgrow ⊢
           unfold most at m1 m2
           have hns:¬(sLen+n≤sCap):=by omega
           have h63:¬((((sLen+n:Nat):Int)>IntKind.i64.max)∧(True∨it.bytes=0)):=by
            rintro⟨h1,_⟩
            have:IntKind.i64.max=9223372036854775807:=by rfl
            rw[this] at h1
            omega
           have h48:¬(Builtin.nextslicecap (sLen+n) sCap*it.bytes>2 ^ 48):=by
            have:=growslice_fits (bytes:=it.bytes) hgrow (by rw[b2];omega)
            omega
           have hq2:(Question.appendCap (sLen+n) sCap e).forced=false:=rfl
           simp only[Builtin.append_,List.getElem?_toArray,List.getElem?_cons_zero,List.getElem?_cons_succ,Sem.run_bind,run_underlying hu,run_underlying hu2,Result.andThen_ok,fF hs,Sem.run_pure,asInt,asIntOf,hw,if_true,hl0,if_false,hti,hby,Int.toNat_natCast,hns,
            Bool.not_true,Bool.false_eq_true,h63,h48,choose,Sem.run,hq2,run_askRoom,World.drew_eq,hov w.drew rfl,hap,hzv]
           simp only[Go.newRow,Sem.run_bind,run_newObj,Result.andThen_ok,Sem.run_pure]
           congr 1
           show World.alloc _ _=World.alloc _ _
           congr 2
           apply Array.ext'
           simp[grownCap,List.append_assoc]
          ·intro hl
           rw[hlen] at hl
           subst hl
           have hw0:IntKind.i64.wrap ((0:Nat):Int)=((0:Nat):Int):=hw
           simp only[Builtin.append_,List.getElem?_toArray,List.getElem?_cons_zero,List.getElem?_cons_succ,Sem.run_bind,run_underlying hu,run_underlying hu2,Result.andThen_ok,fF hs,Sem.run_pure,asInt,asIntOf,hw0,if_true,hl0,if_false,hti,hby,Int.toNat_natCast,
            Nat.add_zero,Nat.le_refl,Bool.not_true,Bool.false_eq_true,hap]
    ·cases hc
  ·cases hc
 ·cases hc
theorem yG {sz id g st:Nat} {new:List (List AV)} (H:bJ P B φ h w) (hne:∀x∈new,x.length=sz) (hnl:∀x∈new,aD x=true) {nv:List Value} (hnv:bS φ new.flatten nv) {L:Loc} (hL:φ id g=some L)
 (he:Cr h sz id g st new=some h'):∃w',(storeCells ⟨L.blk,L.base+st*L.sz,none⟩ nv).run P w= .ok () w'∧bJ P B φ h' w'∧Gw B w w'∧L.sz=sz:=by
 unfold Cr at he
 split at he
 ·rename_i r hget
  have hrow:=aj.row_some.1 hget
  have hr:lG φ id r w:=H.obj id _ hrow
  cases hc:(r.rw&&Nat.beq g r.g&&Nat.beq r.sz sz&&Nat.ble (st+new.length) r.es.length) with
  |false=>rw[hc] at he;cases he
  |true=>
   rw[hc,cond_true] at he;cases he
   simp only[Bool.and_eq_true,aF,aI] at hc
   obtain⟨⟨⟨hrw,rfl⟩,c3⟩,c4⟩:=hc
   have hLs:L.sz=sz:=by rw[(hr.gen _ L hL).2,c3]
   have hfit:st*r.sz+new.flatten.length≤r.es.length*r.sz:=by
    rw[lV hne,c3, ←Nat.add_mul];exact Nat.mul_le_mul_right _ c4
   obtain⟨w',s1,s2,s3⟩:=EG H hrow hrw hL hnv (wY hnl) hfit (es':=lay r.es st new)
    (by
      intro x hx
      unfold lay at hx
      rcases List.mem_append.1 hx with hx |hx
      ·rcases List.mem_append.1 hx with hx |hx
       ·exact hr.es x (List.mem_of_mem_take hx)
       ·rw[c3];exact hne x hx
      ·exact hr.es x (List.mem_of_mem_drop hx))
    (wR _ _ _ c4) (by rw[c3];exact N8 (by rw[←c3];exact hr.es) hne _)
    (by
      intro x hx
      unfold lay at hx
      rcases List.mem_append.1 hx with hx |hx
      ·rcases List.mem_append.1 hx with hx |hx
       ·exact hr.leaf x (List.mem_of_mem_take hx)
       ·exact hnl x hx
      ·exact hr.leaf x (List.mem_of_mem_drop hx))
   exact⟨w',by rw[hLs, ←c3];exact s1,s2,s3,hLs⟩
 ·cases he
theorem Tf {t1 t2 ty e:TypeId} {sz:Nat} {d s:AV} {cd cs:Value} (H:bJ P B φ h w) (hu:P.underlying t1=some (.slice e)) (hs:sizeT P e=some sz) (hd:aX φ d cd) (hss:aX φ s cs) (he:WL h sz d s=some (v,h')):
 lJ P B φ h' v w ((Builtin.copy_ #[t1,t2] ty #[cd,cs]).run P w):=by
 unfold WL at he
 cases h0:Nat.beq sz 0 with
 |true=>rw[h0] at he;cases he
 |false=>
  rw[h0,cond_false] at he
  have hsz:=Nat.pos_of_ne_zero (dh.1 h0)
  split at he
  ·cases he
  ·rename_i src hsrc
   have S:=wF H hss hsrc
   split at he
   ·cases he;cases hd
    obtain⟨nv,n1,n2⟩:=S.first 0 (Nat.zero_le _)
    refine lJ.pure H (cv:= .int .i64 0) ?_ (.int _ _)
    simp[Builtin.copy_,Sem.run_bind,run_underlying hu,S.len P w,fF hs,n2 P w rfl,goInt]
   ·cases he;cases hd
    obtain⟨nv,n1,n2⟩:=S.first 0 (Nat.zero_le _)
    refine lJ.pure H (cv:= .int .i64 0) ?_ (.int _ _)
    have hnv0:nv=[]:=by
     have:=n1.length
     exact List.length_eq_zero_iff.1 (by simpa using this.symm)
    subst hnv0
    simp[Builtin.copy_,Sem.run_bind,run_underlying hu,S.len P w,fF hs,n2 P w rfl,goInt,storeCells]
   ·rename_i id g st len cap ex
    cases hd with
    |slc hL h1 h2 h3 h4 h5 h6=>
     rename_i c off L
     have htl:(src.take len).length=Nat.min src.length len:=by rw[List.length_take];exact Nat.min_comm _ _
     obtain⟨nv,n1,n2⟩:=S.first (Nat.min src.length len) (Nat.min_le_left _ _)
     have htk:src.take (Nat.min src.length len)=src.take len:=by
      show src.take (min src.length len)=src.take len
      rcases Nat.le_total src.length len with hh |hh
      ·rw[Nat.min_eq_left hh,List.take_of_length_le (Nat.le_refl _),List.take_of_length_le hh]
      ·rw[Nat.min_eq_right hh]
     rw[htk] at n1
     have hrun:∀w',(storeCells ⟨L.blk,off,none⟩ nv).run P w= .ok () w'→(Builtin.copy_ #[t1,t2] ty #[.slice (some ⟨L.blk,off,none⟩) len c,cs]).run P w= .ok (goInt (Nat.min src.length len)) w':=by
      intro w' hst
      simp only[Builtin.copy_,List.getElem?_toArray,List.getElem?_cons_zero,List.getElem?_cons_succ,Sem.run_bind,run_underlying hu,Result.andThen_ok,S.len P w,fF hs,n2 P w rfl,hst,Sem.run_pure]
     dsimp only at he
     split at he
     ·rename_i hnn
      cases he
      have hnv0:nv=[]:=by
       have:=n1.length
       rw[hnn] at this
       exact List.length_eq_zero_iff.1 (by simpa using this.symm)
      subst hnv0
      refine lJ.pure H (hrun w (by simp[storeCells])) ?_
      rw[hnn] at htl
      rw[←htl]
      exact .int _ _
     ·rename_i hnn
      split at he
      ·rename_i h2' hst
       cases he
       have hpos:0<(src.take len).length:=List.length_pos_iff.2 hnn
       have hlen:0<len:=by rw[List.length_take] at hpos;omega
       obtain⟨w',s1,s2,s3,s4⟩:=yG H (fun x hx=>S.es x (List.mem_of_mem_take hx)) (fun x hx=>S.leaf x (List.mem_of_mem_take hx)) n1 hL hst
       rw[←h6 (by omega)] at s1
       refine⟨_,w',φ,hrun w' s1, ?_,s2,φ.le_refl,s3⟩
       rw[←htl]
       exact .int _ _
      ·cases he
   ·cases he
theorem Y9 {t ty e:TypeId} {sz:Nat} {z x:AV} {cx:Value} (H:bJ P B φ h w) (hu:P.underlying t=some (.slice e)) (hs:sizeT P e=some sz) (hz:iV P e=some z) (hx:aX φ x cx) (he:acE h sz z.cells x=some h'):
 ∃w',(Builtin.clear_ #[t] ty #[cx]).run P w= .ok (.tuple #[]) w'∧bJ P B φ h' w'∧Gw B w w':=by
 unfold acE at he
 split at he
 ·cases he;cases hx
  exact⟨w,by simp[Builtin.clear_,Sem.run_bind,run_underlying hu],H,Gw.refl B w⟩
 ·cases he;cases hx
  exact⟨w,by simp[Builtin.clear_,Sem.run_bind,run_underlying hu],H,Gw.refl B w⟩
 ·rename_i id g st len cap ex
  cases hx with
  |slc hL h1 h2 h3 h4 h5 h6=>
   rename_i c off L
   cases h0:Nat.beq len 0 with
   |true=>
    rw[h0,cond_true] at he;cases he
    have:=aF.1 h0;subst this
    exact⟨w,by simp[Builtin.clear_,Sem.run_bind,run_underlying hu],H,Gw.refl B w⟩
   |false=>
    rw[h0,cond_false] at he
    have hpos:=dh.1 h0
    cases hc:(Nat.beq z.cells.length sz&&aD z.cells&&Nat.blt 0 sz) with
    |false=>rw[hc] at he;cases he
    |true=>
     rw[hc,cond_true,zF] at he
     simp only[Bool.and_eq_true,aF,bB] at hc
     obtain⟨⟨c1,c2⟩,c3⟩:=hc
     obtain⟨zv,it,z1,z2,z3,z4⟩:=jS hz w
     have hzc:zv.cells.size=sz:=by have:=(kF (φ:=φ) z2).length;simp only[Array.length_toList] at this;omega
     obtain⟨w',s1,s2,s3,s4⟩:=yG H (fun x hx=>by rw[List.eq_of_mem_replicate hx];exact c1) (fun x hx=>by rw[List.eq_of_mem_replicate hx];exact c2) ((kF z2).replicate len) hL he
     rw[←h6 (by omega)] at s1
     refine⟨w', ?_,s2,s3⟩
     have hzs:(Builtin.zeroCells zv.cells len)=(List.replicate len zv.cells.toList).flatten.toArray:=by
      have:=Cv (z:=zv.cells.toList) (by simp;omega) len
      simpa using this
     obtain⟨k,rfl⟩:∃k,len=k+1:=⟨len-1,by omega⟩
     simp[Builtin.clear_,Sem.run_bind,run_underlying hu,z1,hzs,s1]
 ·cases he
theorem jl.length {l:List (AV×AV×Nat)} {m:List MapEntry} (hh:jl φ l m):l.length=m.length:=by
 induction hh with
 |nil=>rfl
 |cons _ _ _ _ ih=>simp[ih]
theorem run_getObj_map {r:Nat} {cs:Array MapEntry} {clock:Nat} (hh:w.heap[r]? =some (.map cs clock)):(getObj r).run P w= .ok (.map cs clock) w:=by
 unfold getObj
 simp only[Sem.run,hh]
theorem Dx {t ty:TypeId} {k:Nat} {x v:AV} {cx:Value} {d:TypeDesc} (H:bJ P B φ h w) (hu:P.underlying t=some d) (hd:(k=0∧d= .string)∨(k=1∧∃e,d= .slice e)∨(k=2∧∃a e,d= .map a e)) (hx:aX φ x cx)
 (he:AX h k x=some v):∃cv,(Builtin.len_ #[t] ty #[cx]).run P w= .ok cv w∧aX φ v cv:=by
 rcases hd with⟨rfl,rfl⟩|⟨rfl,e,rfl⟩|⟨rfl,a,e,rfl⟩
 ·cases x<;>simp only[AX] at he<;>try(cases he;done)
  cases he
  cases hx with
  |str hs=>
   rename_i s b
   exact⟨goInt b.size,by simp[Builtin.len_,Sem.run_bind,run_underlying hu],by rw[yI hs];exact .int _ _⟩
 ·cases x<;>simp only[AX] at he<;>try(cases he;done)
  ·cases he;cases hx
   exact⟨goInt _,by simp[Builtin.len_,Sem.run_bind,run_underlying hu], .int _ _⟩
  ·cases he;cases hx
   exact⟨goInt 0,by simp[Builtin.len_,Sem.run_bind,run_underlying hu], .int _ _⟩
  ·cases he;cases hx
   exact⟨goInt 0,by simp[Builtin.len_,Sem.run_bind,run_underlying hu], .int _ _⟩
 ·cases x<;>simp only[AX] at he<;>try(cases he;done)
  ·rename_i id
   split at he
   ·rename_i es clock hget
    cases he
    cases hx with
    |map hL=>
     obtain⟨L',cs,l1,l2,l3⟩:=H.obj id _ hget
     rw[hL] at l1;cases l1
     refine⟨goInt cs.size, ?_, ?_⟩
     ·simp only[Builtin.len_,List.getElem?_toArray,List.getElem?_cons_zero,Sem.run_bind,run_underlying hu,Result.andThen_ok,run_getObj_map l2,Sem.run_pure]
     ·have:=l3.length
      simp only[Array.length_toList] at this
      rw[←this]
      exact .int _ _
   ·rename_i es clock hget
    cases he
    cases hx with
    |map hL=>
     obtain⟨L',cs,l1,l2,l3⟩:=H.obj id _ hget
     rw[hL] at l1;cases l1
     refine⟨goInt cs.size, ?_, ?_⟩
     ·simp only[Builtin.len_,List.getElem?_toArray,List.getElem?_cons_zero,Sem.run_bind,run_underlying hu,Result.andThen_ok,run_getObj_map l2,Sem.run_pure]
     ·have:=l3.length
      simp only[Array.length_toList] at this
      rw[←this]
      exact .int _ _
   ·cases he
  ·cases he;cases hx
   exact⟨goInt 0,by simp[Builtin.len_,Sem.run_bind,run_underlying hu], .int _ _⟩
theorem foldl_push:∀(bs:List Nat) (r:ByteArray),(∀b∈bs,b<256)→(bs.foldl (fun r n=>r.push (UInt8.ofNat n)) r).data.toList.map UInt8.toNat=r.data.toList.map UInt8.toNat++bs
 | [],r,_=>by simp
 |b :: bs,r,hb=>by
  rw[List.foldl_cons,foldl_push bs _ (fun x hx=>hb x (by simp[hx]))]
  have:b<256:=hb b (by simp)
  simp[ByteArray.push,UInt8.toNat_ofNat',Nat.mod_eq_of_lt this]
theorem uP:∀{l:List (List AV)} {s:List Nat} {nv:List Value},bytesOf l=some s→bS φ l.flatten nv→nv=(s.map fun n:Nat=>(n:Int)).map (Value.int .u8)∧∀b∈s,b<256
 | [],s,nv,hb,hv=>by simp[bytesOf] at hb;subst hb;simp at hv;cases hv;simp
 |e :: l,s,nv,hb,hv=>by
  unfold bytesOf at hb
  split at hb
  ·rename_i heq;cases heq
  ·rename_i n l' heq
   cases heq
   split at hb
   ·rename_i r hr
    cases hc:Nat.blt n 256 with
    |false=>rw[hc] at hb;cases hb
    |true=>
     rw[hc,cond_true] at hb;cases hb
     simp only[List.flatten_cons,List.singleton_append] at hv
     cases hv with
     |cons h1 h2=>
      obtain⟨e1,e2⟩:=uP hr h2
      cases h1
      refine⟨by rw[e1];simp, ?_⟩
      intro b hbm
      rcases List.mem_cons.1 hbm with rfl |hbm
      ·exact bB.1 hc
      ·exact e2 b hbm
   ·cases hb
  ·cases hb
theorem Zb {t1 t2 e:TypeId} {x v:AV} {cx:Value} (H:bJ P B φ h w) (hs:P.underlying t1=some (.slice e)) (hd:P.underlying t2=some .string) (hu:P.underlying e=some (.int .u8)) (hx:aX φ x cx) (he:abX h x=some v):
 ∃cv,(convert t1 t2 cx).run P w= .ok cv w∧aX φ v cv:=by
 unfold abX at he
 split at he
 ·cases he;cases hx
  exact⟨.string .empty,by simp[convert,Sem.run_bind,run_underlying hs,run_underlying hd,run_underlying hu,Conv.bytesToString], .str (by rfl)⟩
 ·cases he;cases hx
  exact⟨.string .empty,by simp[convert,Sem.run_bind,run_underlying hs,run_underlying hd,run_underlying hu,Conv.bytesToString,loadCells,loadCellsFrom], .str (by rfl)⟩
 ·rename_i id g st len cap ex
  split at he
  ·rename_i l hsrc
   split at he
   ·rename_i s hb
    cases he
    have S:=wF H hx hsrc
    obtain⟨nv,n1,n2⟩:=S.first l.length (Nat.le_refl _)
    rw[List.take_of_length_le (Nat.le_refl _)] at n1
    obtain⟨e1,e2⟩:=uP hb n1
    cases hx with
    |slc hL h1 h2 h3 h4 h5 h6=>
     rename_i c off L
     have hln:=S.len P w
     have hlen:l.length=len:=by
      simp[Builtin.lenOf] at hln
      exact hln.symm
     have hf:=n2 P w rfl
     rw[hlen] at hf
     simp only[Builtin.firstCells,Nat.mul_one] at hf
     rw[e1] at hf
     refine⟨_,(run_convert_bytes_string w t1 t2 e _ _ _ hs hu hd).trans (run_bytesToString w _ len c _ hf), .str ?_⟩
     have hfold:∀(bs:List Nat) (r:ByteArray),(bs.map fun n:Nat=>(n:Int)).foldl (fun r n=>r.push (UInt8.ofNat n.toNat)) r=bs.foldl (fun r n=>r.push (UInt8.ofNat n)) r:=by
      intro bs
      induction bs with
      |nil=>intro r;rfl
      |cons b bs ih=>intro r;simp only[List.map_cons,List.foldl_cons,Int.toNat_natCast,ih]
     rw[hfold,foldl_push _ _ e2]
     simp
   ·cases he
  ·cases he
 ·cases he
theorem Mi {t e:TypeId} {sz bytes:Nat} {z l c:AV} {cl cc:Value} {hp:aj} {ob:fG} (H:bJ P B φ h w) (hu:P.underlying t=some (.slice e)) (hs:sizeT P e=some sz) (hb:wz P e=some bytes) (hz:iV P e=some z) (hl:aX φ l cl) (hc:aX φ c cc)
 (he:Cn hp sz bytes z.cells l c=some (v,hp.push ob)) (hg:B.gh hp.sz=some ob):lJ P (B.del hp.sz) φ h v w ((Instr.makeSlice t cl cc).run P w):=by
 unfold Cn at he
 split at he
 ·rename_i ln cn e1 e2
  cases hcnd:(Nat.ble ln cn&&Nat.ble (cn*bytes) most&&Nat.ble cn most&&Nat.beq z.cells.length sz&&Nat.blt 0 sz&&aD z.cells) with
  |false=>rw[hcnd] at he;cases he
  |true=>
   rw[hcnd,cond_true,zF] at he
   simp only[Option.some.injEq,Prod.mk.injEq] at he
   obtain⟨rfl,he⟩:=he
   have hob:=push_inj he
   subst hob
   simp only[Bool.and_eq_true,aI,aF,bB] at hcnd
   obtain⟨⟨⟨⟨⟨c1,c2⟩,c3⟩,c4⟩,c5⟩,c6⟩:=hcnd
   unfold most at c2 c3
   obtain⟨kl,rfl⟩:=lu hl e1
   obtain⟨kc,rfl⟩:=lu hc e2
   obtain⟨zv,it,z1,z2,z3,z4⟩:=jS hz w
   obtain⟨it2,b1,b2,b3⟩:=Ju hb w
   have hzc:zv.cells.size=sz:=by have:=(kF (φ:=φ) z2).length;simp only[Array.length_toList] at this;omega
   have hrep:∀x∈List.replicate cn z.cells,x.length=sz:=fun x hx=>by rw[List.eq_of_mem_replicate hx];exact c4
   obtain⟨φ',p1,p2,p3,p4⟩:=uY H c5 hrep (fun x hx=>by rw[List.eq_of_mem_replicate hx];exact c6) (vals:=(List.replicate cn zv.cells.toList).flatten) (spare:=[]) ((kF z2).replicate cn) (tot:=cn)
    (by rw[lV (sz:=sz) (fun x hx=>by rw[List.eq_of_mem_replicate hx];simpa using hzc)];simp) e none (fun _ e=>by cases e) hg
   refine⟨.slice (some ⟨w.heap.size,0,none⟩) ln cn,_,φ', ?_, ?_,p3,p1,p4⟩
   ·have hw1:IntKind.i64.wrap (ln:Int)=ln:=IntWalk.i64_in _ ⟨by omega,by omega⟩
    have hw2:IntKind.i64.wrap (cn:Int)=cn:=IntWalk.i64_in _ ⟨by omega,by omega⟩
    have ht:(((cn:Int)<0)||((it2.bytes:Int)*(cn:Int)>2 ^ 48))=false:=by
     rw[b2]
     have e3:(bytes:Int)*(cn:Int)=((cn*bytes:Nat):Int):=by rw[Nat.mul_comm];simp
     rw[e3]
     simp only[Bool.or_eq_false_iff,decide_eq_false_iff_not]
     constructor<;>omega
    have hcond:((((cn:Int)<0)||((it2.bytes:Int)*(cn:Int)>2 ^ 48))||((ln:Int)<0)||((ln:Int)>(cn:Int)))=false:=by
     rw[ht]
     simp only[Bool.false_or,Bool.or_eq_false_iff,decide_eq_false_iff_not]
     constructor<;>omega
    have hzz:(Array.range (cn*sz)).map (zv.cells[· % zv.cells.size]!)=(List.replicate cn zv.cells.toList).flatten.toArray:=by rw[←hzc];exact Bn (by omega) cn
    simp only[Instr.makeSlice,Sem.run_bind,run_underlying hu,Result.andThen_ok,asInt,asIntOf,Sem.run_pure,b1,hw1,hw2,hcond,Bool.false_eq_true,if_false,run_askRoom,fF hs,Int.toNat_natCast]
    by_cases hn:cn*sz=0
    ·have hn0:cn=0:=by rcases Nat.mul_eq_zero.1 hn with h0 |h0<;>omega
     subst hn0
     have e0:∀f:Nat→Value,Array.map f (Array.range 0)= #[]:=fun f=>by simp
     simp[e0,Go.newRow]
    ·rw[if_neg hn]
     simp only[Sem.run_bind,z1,Result.andThen_ok,Sem.run_pure,hzz]
     simp[Go.newRow]
   ·exact .slc p2 c1 (by simp only[List.length_replicate];omega) (by simp only;omega) (Nat.le_refl _) (fun _=>rfl) (fun _=>by simp)
 ·cases he
theorem Hr {sz bytes:Nat} {z:List AV} {l c:AV} (he:Cn h sz bytes z l c=some (v,h')):∃ob,h'=h.push ob∧ob.own=true:=by
 unfold Cn at he
 split at he
 ·rename_i ln cn e1 e2
  cases hcnd:(Nat.ble ln cn&&Nat.ble (cn*bytes) most&&Nat.ble cn most&&Nat.beq z.length sz&&Nat.blt 0 sz&&aD z) with
  |false=>rw[hcnd] at he;cases he
  |true=>rw[hcnd,cond_true] at he;cases he;exact⟨_,rfl,rfl⟩
 ·cases he
theorem Sc {t e:TypeId} {sz bytes:Nat} {z l c:AV} {cl cc:Value} (H:bJ P B φ h w) (hu:P.underlying t=some (.slice e)) (hs:sizeT P e=some sz) (hb:wz P e=some bytes) (hz:iV P e=some z) (hl:aX φ l cl) (hc:aX φ c cc)
 (he:Cn h sz bytes z.cells l c=some (v,h')):lJ P B φ h' v w ((Instr.makeSlice t cl cc).run P w):=by
 obtain⟨ob,rfl,ho⟩:=Hr he
 have:=Mi (H.pushGhost ob ho) hu hs hb hz hl hc he (Base.add_same _ _ _)
 rwa [Base.del_add H.noGhost] at this
end
section
variable {P:Program} {B:Base} {φ:dD} {h h':aj} {w:World} {v:AV}
theorem Df {t:TypeId} {k:K0} (hk:K4 P t=some k):(∃i,k= .int∧P.underlying t=some (.int i))∨(k= .str∧P.underlying t=some .string)∨(k= .bool∧P.underlying t=some .bool):=by
 unfold K4 at hk
 split at hk
 ·rename_i i hu;cases hk;exact .inl ⟨i,rfl,hu⟩
 ·rename_i hu;cases hk;exact .inr (.inl ⟨rfl,hu⟩)
 ·rename_i hu;cases hk;exact .inr (.inr ⟨rfl,hu⟩)
 ·cases hk
theorem aeK {t:TypeId} {k:K0} (hk:K4 P t=some k):mO P t=some false:=by
 unfold mO
 rcases Df hk with⟨i,_,hu⟩|⟨_,hu⟩|⟨_,hu⟩<;>rw[hu]
theorem Br {t:TypeId} {k:K0} (hk:K4 P t=some k) {a b:AV} {ca cb:Value} (ha:aX φ a ca) (hb:aX φ b cb) (hf:qW k a=true) {r:Bool} (he:tF a b=some r) (d:Nat):
 (Op.equalIn (d+1) t ca cb).run P w= .ok r w∧(∀td,P.underlying t=some td→Instr.sameNow td ca cb=some r)∧(r=true→∀n,Instr.sameBits n cb ca=true):=by
 rcases Df hk with⟨i,rfl,hu⟩|⟨rfl,hu⟩|⟨rfl,hu⟩
 ·cases a<;>simp[qW] at hf
  cases b<;>simp only[tF] at he<;>try(cases he;done)
  rename_i k x j y
  cases hkj:Nat.beq (mH k) (mH j) with
  |false=>rw[hkj] at he;cases he
  |true=>
   rw[hkj,cond_true] at he;cases he
   have:=Kw (aF.1 hkj);subst this
   cases ha;cases hb
   rw[wT]
   refine⟨run_equalIn_int w d t k i x y hu,fun td htd=> ?_,fun hr n=> ?_⟩
   ·rw[hu] at htd;cases htd
    simp[Instr.sameNow]
   ·have:=eq_of_beq hr;subst this
    simp[Instr.sameBits]
 ·cases a<;>simp[qW] at hf
  cases b<;>simp only[tF] at he<;>try(cases he;done)
  cases he
  cases ha with
  |str ha=>
   cases hb with
   |str hb=>
    rename_i s1 s2
    rw[IW ha hb]
    refine⟨run_equalIn_string w d t _ _ hu,fun td htd=> ?_,fun hr n=> ?_⟩
    ·rw[hu] at htd;cases htd
     simp[Instr.sameNow,beq_toListBytes]
    ·have h0:=eq_of_beq hr
     unfold Instr.sameBits
     rw[beq_toListBytes,beq_iff_eq]
     exact h0.symm
 ·cases a<;>simp[qW] at hf
  cases b<;>simp only[tF] at he<;>try(cases he;done)
  cases he
  cases ha;cases hb
  rename_i x y
  refine⟨run_equalIn_bool w d t x y hu,fun td htd=> ?_,fun hr n=> ?_⟩
  ·rw[hu] at htd;cases htd
   simp[Instr.sameNow]
  ·have:=eq_of_beq hr;subst this
   simp[Instr.sameBits]
theorem ug {t:TypeId} {ks:List K0} (hs:structOf P t=some ks):∃fs,P.underlying t=some (.struct fs)∧P.stoodInHeld t=false∧P.eqGuardType P.depth t=false∧BL P 0 fs.toList=some ks:=by
 unfold structOf at hs
 split at hs
 ·rename_i fs hu
  cases hc:(!P.stoodInHeld t&& !P.eqGuardType P.depth t) with
  |false=>rw[hc] at hs;cases hs
  |true=>
   rw[hc,cond_true] at hs
   simp only[Bool.and_eq_true,Bool.not_eq_true'] at hc
   exact⟨fs,hu,hc.1,hc.2,hs⟩
 ·cases hs
theorem Qq {n:Nat} {f:Field} {fs:List Field} {ks:List K0} (hs:BL P n (f :: fs)=some ks):∃k ks',f.offset=n∧f.name≠ "_" ∧K4 P f.type=some k∧BL P (n+1) fs=some ks'∧ks=k :: ks':=by
 simp only[BL] at hs
 cases hc:(Nat.beq f.offset n&&(f.name != "_")) with
 |false=>rw[hc] at hs;cases hs
 |true=>
  rw[hc,cond_true] at hs
  simp only[Bool.and_eq_true,aF,bne_iff_ne,ne_eq] at hc
  split at hs
  ·rename_i k hk
   split at hs
   ·rename_i ks' hks
    cases hs
    exact⟨k,ks',hc.1,hc.2,hk,hks,rfl⟩
   ·cases hs
  ·cases hs
theorem GD {k:K0} {ks:List K0} {l:List AV} (hf:tT (k :: ks) l=true):∃a l',l=a :: l'∧qW k a=true∧tT ks l'=true:=by
 cases l with
 |nil=>cases hf
 |cons a l'=>
  simp only[tT] at hf
  cases hk:qW k a with
  |false=>rw[hk] at hf;cases hf
  |true=>rw[hk,cond_true] at hf;exact⟨a,l',rfl,hk,hf⟩
theorem uT {t:TypeId} {k:K0} (hk:K4 P t=some k) {cs:Array Value} {n:Nat} {c:Value} (hc:cs[n]? =some c):(part t cs n).run P w= .ok c w:=by
 simp[part,Sem.run_bind,tN (aeK hk),hc]
theorem Ag {d:Nat} {cl cm:List Value}:∀(fs:List Field) (n:Nat) (ks:List K0) (l m:List AV),BL P n fs=some ks→tT ks l=true→bS φ l (cl.drop n)→bS φ m (cm.drop n)→∀r,nU l m=some r→
 (Op.eqFields (d+1) ⟨cl⟩ ⟨cm⟩ fs).run P w= .ok r w∧(r=true→∀nn,(cm.drop n).length=(cl.drop n).length∧(((cm.drop n).zip (cl.drop n)).all fun(x,y)=>Instr.sameBits nn x y)=true)
 | [],n,ks,l,m,hk,hf,hl,hm,r,he=>by
   simp[BL] at hk;subst hk
   have hln:l=[]:=by cases l with |nil=>rfl |cons=>cases hf
   subst hln
   cases m with
   |cons=>simp[nU] at he
   |nil=>
    simp[nU] at he;subst he
    have e1:=hl.length;have e2:=hm.length
    simp only[List.length_nil] at e1 e2
    have f1:cl.drop n=[]:=List.length_eq_zero_iff.1 e1.symm
    have f2:cm.drop n=[]:=List.length_eq_zero_iff.1 e2.symm
    exact⟨by simp[Op.eqFields],fun _ nn=>by rw[f1,f2];simp⟩
 |f :: fs,n,ks,l,m,hk,hf,hl,hm,r,he=>by
  obtain⟨k,ks',h1,h2,h3,h4,rfl⟩:=Qq hk
  obtain⟨a,l',rfl,h5,h6⟩:=GD hf
  cases m with
  |nil=>simp[nU] at he
  |cons b m'=>
   generalize hcl:cl.drop n=cl' at hl
   generalize hcm:cm.drop n=cm' at hm
   cases hl with
   |cons ha hl'=>
    rename_i ca cl2
    cases hm with
    |cons hb hm'=>
     rename_i cb cm2
     have g1:cl[n]? =some ca:=by
      have:=congrArg (fun x=>x[0]?) hcl
      simpa[List.getElem?_drop] using this
     have g2:cm[n]? =some cb:=by
      have:=congrArg (fun x=>x[0]?) hcm
      simpa[List.getElem?_drop] using this
     have d1:cl.drop (n+1)=cl2:=by rw[←List.drop_drop,hcl];rfl
     have d2:cm.drop (n+1)=cm2:=by rw[←List.drop_drop,hcm];rfl
     have p1:(part f.type ⟨cl⟩ f.offset).run P w= .ok ca w:=by rw[h1];exact uT h3 (by simpa using g1)
     have p2:(part f.type ⟨cm⟩ f.offset).run P w= .ok cb w:=by rw[h1];exact uT h3 (by simpa using g2)
     simp only[nU] at he
     split at he
     ·rename_i hab
      obtain⟨q1,q2,q3⟩:=Br (w:=w) h3 ha hb h5 hab d
      obtain⟨r1,r2⟩:=Ag (d:=d) fs (n+1) ks' l' m' h4 h6 (by rw[d1];exact hl') (by rw[d2];exact hm') r he
      refine⟨?_,fun hr nn=> ?_⟩
      ·simp only[Op.eqFields,ne_eq,h2,not_false_eq_true,if_true,Sem.run_bind,p1,Result.andThen_ok,p2,q1,Bool.not_true,Bool.false_eq_true,if_false,r1]
      ·obtain⟨s1,s2⟩:=r2 hr nn
       rw[d1,d2] at s1 s2
       refine⟨by simp only[List.length_cons,s1], ?_⟩
       simp only[List.zip_cons_cons,List.all_cons,q3 rfl nn,Bool.true_and]
       exact s2
     ·rename_i hab
      cases he
      obtain⟨q1,q2,q3⟩:=Br (w:=w) h3 ha hb h5 hab d
      refine⟨?_,fun hr=>by cases hr⟩
      simp only[Op.eqFields,ne_eq,h2,not_false_eq_true,if_true,Sem.run_bind,p1,Result.andThen_ok,p2,q1,Bool.not_false,Sem.run_pure]
     ·cases he
theorem zw {t:TypeId} {kk:KK} (hk:vK P t=some kk) {a b:AV} {ca cb:Value} (ha:aX φ a ca) (hb:aX φ b cb) (hf:jR kk a=true) {r:Bool} (he:Dn a b=some r):
 (Op.equal t ca cb).run P w= .ok r w∧((∃k,kk= .leaf k)→∀td,P.underlying t=some td→Instr.sameNow td ca cb=some r)∧(r=true→Instr.sameBits 10000 cb ca=true):=by
 unfold vK at hk
 split at hk
 ·rename_i k hk0
  cases hk
  have hle:tF a b=some r:=by
   unfold Dn at he
   split at he
   ·simp only[jR] at hf
    cases k<;>simp[qW] at hf
   ·exact he
  obtain⟨q1,q2,q3⟩:=Br (w:=w) hk0 ha hb hf hle 9999
  exact⟨q1,fun _=>q2,fun hr=>q3 hr 10000⟩
 ·split at hk
  ·rename_i ks hs
   cases hk
   obtain⟨fs,hu,s1,s2,s3⟩:=ug hs
   cases a<;>simp[jR] at hf
   rename_i l
   cases b<;>simp only[Dn,tF] at he<;>try(cases he;done)
   rename_i m
   cases ha with
   |agg hl=>
    cases hb with
    |agg hm=>
     rename_i cl cm
     have hfo:P.underlying t=some (.struct (P.fieldsOf t)):=by rw[hu];simp[Program.fieldsOf,hu]
     have hfs:P.fieldsOf t=fs:=by simp[Program.fieldsOf,hu]
     obtain⟨r1,r2⟩:=Ag (d:=9998) (P:=P) (w:=w) fs.toList 0 ks l m s3 hf (by simpa using hl) (by simpa using hm) r he
     refine⟨?_,(fun⟨k,hk⟩=>by cases hk),fun hr=> ?_⟩
     ·have:=run_equalIn_agg (P:=P) w 9999 t ⟨cl⟩ ⟨cm⟩ hfo s1
      rw[hfs] at this
      exact this.trans r1
     ·obtain⟨z1,z2⟩:=r2 hr 9999
      simp only[List.drop_zero] at z1 z2
      simp only[Instr.sameBits,List.size_toArray,z1,beq_self_eq_true,Bool.true_and]
      exact z2
  ·cases hk
theorem CP {cl:List Value} {em:Bool} {d:Nat}:∀(fs:List Field) (n:Nat) (ks:List K0) (l:List AV),BL P n fs=some ks→tT ks l=true→bS φ l (cl.drop n)→
 (forIn fs PUnit.unit fun(f:Field) (_:PUnit)=>(if f.name≠ "_" then(do Instr.checkKey em (d+1) f.type (←part f.type ⟨cl⟩ f.offset);Pure.pure (ForInStep.yield PUnit.unit)) else Pure.pure (ForInStep.yield PUnit.unit):Sem (ForInStep PUnit))).run P w= .ok PUnit.unit w
 | [],n,ks,l,_,_,_=>by simp
 |f :: fs,n,ks,l,hk,hf,hl=>by
  obtain⟨k,ks',h1,h2,h3,h4,rfl⟩:=Qq hk
  obtain⟨a,l',rfl,h5,h6⟩:=GD hf
  generalize hcl:cl.drop n=cl' at hl
  cases hl with
  |cons ha hl'=>
   rename_i ca cl2
   have g1:cl[n]? =some ca:=by
    have:=congrArg (fun x=>x[0]?) hcl
    simpa[List.getElem?_drop] using this
   have d1:cl.drop (n+1)=cl2:=by rw[←List.drop_drop,hcl];rfl
   have p1:(part f.type ⟨cl⟩ f.offset).run P w= .ok ca w:=by rw[h1];exact uT h3 (by simpa using g1)
   have ih:=CP (em:=em) (d:=d) fs (n+1) ks' l' h4 h6 (by rw[d1];exact hl')
   have hck:(Instr.checkKey em (d+1) f.type ca).run P w= .ok () w:=by
    rcases Df h3 with⟨i,_,hu⟩|⟨_,hu⟩|⟨_,hu⟩<;>simp[Instr.checkKey,Sem.run_bind,run_underlying hu]
   simp only[List.forIn_cons,ne_eq,h2,not_false_eq_true,if_true,Sem.run_bind,p1,Result.andThen_ok,hck,Sem.run_pure]
   exact ih
theorem run_checkKey {t:TypeId} {kk:KK} (hk:vK P t=some kk) {a:AV} {ca:Value} (ha:aX φ a ca) (hf:jR kk a=true) (em:Bool) (d:Nat):(Instr.checkKey em (d+2) t ca).run P w= .ok () w:=by
 unfold vK at hk
 split at hk
 ·rename_i k hk0
  rcases Df hk0 with⟨i,_,hu⟩|⟨_,hu⟩|⟨_,hu⟩<;>simp[Instr.checkKey,Sem.run_bind,run_underlying hu]
 ·split at hk
  ·rename_i ks hs
   cases hk
   obtain⟨fs,hu,s1,s2,s3⟩:=ug hs
   cases a<;>simp[jR] at hf
   rename_i l
   cases ha with
   |agg hl=>
    rename_i cl
    have:=CP (P:=P) (w:=w) (em:=em) (d:=d) fs.toList 0 ks l s3 hf (by simpa using hl)
    unfold Instr.checkKey
    simp only[Sem.run_bind,run_underlying hu,Result.andThen_ok]
    rw[←Array.forIn_toList]
    exact(congrArg (fun r=>Result.andThen r fun(_:PUnit) w'=>Sem.run P (Pure.pure ():Sem Unit) w') this).trans rfl
  ·cases hk
structure Found (φ:dD) (k:AV) (es:List (AV×AV×Nat)) (cs:List MapEntry) (v:AV) (j:Nat) (e:MapEntry):Prop where
 ce:cs[j]? =some e
 val:aX φ v e.val
 ent:∃k',es[j]? =some (k',v,e.born)∧Dn k k'=some true∧aX φ k' e.key
 set:∀x,Sm k x es=es.set j (k,x,e.born)
 del:XT k es=es.eraseIdx j
theorem I8 {t:TypeId} {kk:KK} (hk:vK P t=some kk) {k:AV} {ck:Value} (ha:aX φ k ck) (hf:jR kk k=true) {td:TypeDesc} (hu:P.underlying t=some td):
 ∀{es:List (AV×AV×Nat)} {cs:List MapEntry},jl φ es cs→∀{r:Option AV},nH k es=some r→∀i0,∃r',(Instr.findAsking t ck cs i0).run P w= .ok r' w∧((∃kl,kk= .leaf kl)→Instr.findNow td ck cs i0=some r')∧
  ((r=none∧r'=none)∨∃v j e,r=some v∧r'=some (i0+j,e.val)∧Found φ k es cs v j e)
 |_,_, .nil,r,he,i0=>by
  simp[nH] at he;subst he
  exact⟨none,by simp[Instr.findAsking],fun _=>by simp[Instr.findNow], .inl ⟨rfl,rfl⟩⟩
 |_,_, .cons (k:=k') (v:=v') (b:=b) (l:=l) (e:=e) (m:=m) hk' hv' hb ht,r,he,i0=>by
  simp only[nH] at he
  split at he
  ·rename_i hkeq
   cases he
   obtain⟨q1,q2,_⟩:=zw (w:=w) hk ha hk' hf hkeq
   refine⟨some (i0,e.val), ?_,fun hl=> ?_, .inr ⟨v',0,e,rfl,rfl,⟨by simp,hv',⟨k',by simp[hb],hkeq,hk'⟩,fun x=>by simp[Sm,hkeq,hb],by simp[XT,hkeq]⟩⟩⟩
   ·simp only[Instr.findAsking,Sem.run_bind,q1,Result.andThen_ok,if_true,Sem.run_pure]
   ·simp only[Instr.findNow,q2 hl td hu]
  ·rename_i hkeq
   obtain⟨q1,q2,_⟩:=zw (w:=w) hk ha hk' hf hkeq
   obtain⟨r',f1,f2,f3⟩:=I8 hk ha hf hu ht he (i0+1)
   refine⟨r', ?_,fun hl=> ?_, ?_⟩
   ·simp only[Instr.findAsking,Sem.run_bind,q1,Result.andThen_ok,Bool.false_eq_true,if_false,f1]
   ·simp only[Instr.findNow,q2 hl td hu,f2 hl]
   ·rcases f3 with h0 |⟨v,j,e2,g1,g2,g3⟩
    ·exact .inl h0
    ·refine .inr ⟨v,j+1,e2,g1,by rw[g2];congr 2;omega, ?_⟩
     obtain⟨k2,z1,z2,z3⟩:=g3.ent
     exact⟨by simpa using g3.ce,g3.val,⟨k2,by simpa using z1,z2,z3⟩,fun x=>by simp[Sm,hkeq,g3.set x],by simp[XT,hkeq,g3.del]⟩
  ·cases he
theorem lU {t:TypeId} {kk:KK} (hk:vK P t=some kk) {k:AV} {ck:Value} (ha:aX φ k ck) (hf:jR kk k=true) {es:List (AV×AV×Nat)} {cs:List MapEntry} (hr:jl φ es cs) {r:Option AV} (he:nH k es=some r):
 ∃r',(Instr.findKey t ck cs).run P w= .ok r' w∧((r=none∧r'=none)∨∃v j e,r=some v∧r'=some (j,e.val)∧Found φ k es cs v j e):=by
 have hu:∃td,P.underlying t=some td∧((∃kl,kk= .leaf kl)∨∃fs,td= .struct fs):=by
  unfold vK at hk
  split at hk
  ·rename_i k0 hk0
   cases hk
   rcases Df hk0 with⟨i,_,hu⟩|⟨_,hu⟩|⟨_,hu⟩<;>exact⟨_,hu, .inl ⟨_,rfl⟩⟩
  ·split at hk
   ·rename_i ks hs
    cases hk
    obtain⟨fs,hu,_⟩:=ug hs
    exact⟨_,hu, .inr ⟨fs,rfl⟩⟩
   ·cases hk
 obtain⟨td,hu,hkind⟩:=hu
 obtain⟨r',f1,f2,f3⟩:=I8 (w:=w) hk ha hf hu hr he 0
 refine⟨r', ?_, ?_⟩
 ·unfold Instr.findKey
  simp only[Sem.run_bind,run_underlying hu,Result.andThen_ok]
  rcases hkind with hl |⟨fs,rfl⟩
  ·rw[f2 hl];rfl
  ·cases hr with
   |nil=>
    simp[nH] at he;subst he
    rcases f3 with⟨_,rfl⟩|⟨v,j,e,g1,_⟩
    ·simp[Instr.findNow]
    ·cases g1
   |cons=>
    have:∀(e:MapEntry) (l:List MapEntry),Instr.findNow (.struct fs) ck (e :: l) 0=none:=by
     intro e l
     simp[Instr.findNow,Instr.sameNow]
    rw[this]
    exact f1
 ·rcases f3 with h0 |⟨v,j,e,g1,g2,g3⟩
  ·exact .inl h0
  ·exact .inr ⟨v,j,e,g1,by simpa using g2,g3⟩
theorem jl.set {φ:dD} {l:List (AV×AV×Nat)} {m:List MapEntry} (hr:jl φ l m):∀(j:Nat) {k v:AV} {b:Nat} {e:MapEntry},aX φ k e.key→aX φ v e.val→e.born=b→jl φ (l.set j (k,v,b)) (m.set j e):=by
 induction hr with
 |nil=>intro j k v b e _ _ _;simp;exact .nil
 |cons h1 h2 h3 ht ih=>
  intro j k v b e g1 g2 g3
  cases j with
  |zero=>simp;exact .cons g1 g2 g3 ht
  |succ j=>simp;exact .cons h1 h2 h3 (ih j g1 g2 g3)
theorem jl.eraseIdx {φ:dD} {l:List (AV×AV×Nat)} {m:List MapEntry} (hr:jl φ l m):∀(j:Nat),jl φ (l.eraseIdx j) (m.eraseIdx j):=by
 induction hr with
 |nil=>intro j;simp;exact .nil
 |cons h1 h2 h3 ht ih=>
  intro j
  cases j with
  |zero=>simp;exact ht
  |succ j=>simp;exact .cons h1 h2 h3 (ih j)
theorem jl.append {φ:dD} {l:List (AV×AV×Nat)} {m:List MapEntry} (hr:jl φ l m) {l':List (AV×AV×Nat)} {m':List MapEntry} (hr':jl φ l' m'):jl φ (l++l') (m++m'):=by
 induction hr with
 |nil=>exact hr'
 |cons h1 h2 h3 _ ih=>exact .cons h1 h2 h3 ih
theorem run_setObj_map {r:Nat} {cs:Array MapEntry} {clock:Nat} (o:Obj) (hh:w.heap[r]? =some (.map cs clock)):(setObj r o).run P w= .ok () (w.putObj r o):=by
 unfold setObj
 simp only[Sem.run,hh]
 rfl
theorem Nk (H:bJ P B φ h w) {id:Nat} {es es':List (AV×AV×Nat)} {clock clock':Nat} (hget:h.get id=some (.map es clock)) {L:Loc} (hL:φ id 0=some L) {cs':Array MapEntry} (hr:jl φ es' cs'.toList):
 bJ P B φ (h.put id (.map es' clock')) (w.putObj L.blk (.map cs' clock'))∧Gw B w (w.putObj L.blk (.map cs' clock')):=by
 obtain⟨L',cs,l1,l2,l3⟩:=H.obj id _ hget
 rw[hL] at l1;cases l1
 have hlt:L.blk<w.heap.size:=H.lt id 0 L hL
 have hB:B≤L.blk:=(H.own id _ 0 L hget hL).1 rfl
 refine⟨H.update hget rfl rfl φ.le_refl (fun _ _ _=>rfl) (fun g K e=> .inl e) (by simp) (fun k _ hk=>World.putObj_heap_other (fun e=>hk 0 L hL e.symm)) (tO.put w (fun ds e=>by cases e)) ⟨L,cs',hL,World.putObj_heap_same hlt,hr⟩, ?_⟩
 exact Gw.of_block l2 hB (fun ds e=>by cases e) (fun r e=>by cases e) (World.putObj_heap_same hlt) (fun _ _ _ e=>by cases e) (fun _ _ _ e=>by cases e) (fun k hk=>World.putObj_heap_other hk) (by simp) rfl rfl rfl
theorem Uv {t kt et:TypeId} {kk:KK} {ok:Bool} {z m k:AV} {cm ck:Value} (H:bJ P B φ h w) (hu:P.underlying t=some (.map kt et)) (hk:vK P kt=some kk) (hz:iV P et=some z) (hm:aX φ m cm) (hkv:aX φ k ck)
 (he:tJ h kk ok z m k=some v):∃cv,(Instr.lookup t cm ck ok).run P w= .ok cv w∧aX φ v cv:=by
 unfold tJ at he
 cases hf:jR kk k with
 |false=>rw[hf] at he;cases he
 |true=>
  rw[hf,cond_true] at he
  obtain⟨zv,it,z1,z2,z3,z4⟩:=jS hz w
  have hzr:aX φ z zv:=oD z2
  have main:∀(es:List (AV×AV×Nat)) (cs:Array MapEntry),jl φ es cs.toList→(∀(r:Option (Nat×Value)),(Instr.findKey kt ck cs.toList).run P w= .ok r w→
   (Instr.lookup t cm ck ok).run P w= .ok (match r with |some (_,x)=>if ok then .tuple #[x, .bool true] else x |none=>if ok then .tuple #[zv, .bool false] else zv) w)→
   (match nH k es with |some (some v)=>some (bif ok then AV.tup [v, .bool true] else v)|some none=>some (bif ok then AV.tup [z, .bool false] else z)|none=>none)=some v→
   ∃cv,(Instr.lookup t cm ck ok).run P w= .ok cv w∧aX φ v cv:=by
   intro es cs hr hrun hv
   split at hv
   ·rename_i u hfe
    obtain⟨r',g1,g2⟩:=lU (w:=w) hk hkv hf hr hfe
    rcases g2 with⟨e,_⟩|⟨v2,j,e,e1,e2,e3⟩
    ·cases e
    ·cases e1
     subst e2
     cases hv
     refine⟨_,hrun _ g1, ?_⟩
     cases ok with
     |true=>exact .tup (.cons e3.val (.cons (.bool _) .nil))
     |false=>exact e3.val
   ·rename_i hfe
    obtain⟨r',g1,g2⟩:=lU (w:=w) hk hkv hf hr hfe
    rcases g2 with⟨_,rfl⟩|⟨v2,j,e,e1,_⟩
    ·cases hv
     refine⟨_,hrun _ g1, ?_⟩
     cases ok with
     |true=>exact .tup (.cons hzr (.cons (.bool _) .nil))
     |false=>exact hzr
    ·cases e1
   ·cases hv
  have hck:∀em,(Instr.checkKey em 10000 kt ck).run P w= .ok () w:=fun em=>run_checkKey hk hkv hf em 9998
  cases m<;>simp only[mapOf] at he<;>try(cases he;done)
  ·rename_i id
   split at he
   ·rename_i es c hmo
    split at hmo
    ·rename_i es' c' hget
     cases hmo
     cases hm with
     |map hL=>
      obtain⟨L',cs,l1,l2,l3⟩:=H.obj id _ hget
      rw[hL] at l1;cases l1
      refine main es cs l3 (fun r hr=> ?_) he
      unfold Instr.lookup
      simp only[Sem.run_bind,run_underlying hu,Result.andThen_ok,run_getObj_map l2,Sem.run_pure,hck,hr]
      cases r with
      |none=>simp[z1]
      |some x=>simp
    ·rename_i es' c' hget
     cases hmo
     cases hm with
     |map hL=>
      obtain⟨L',cs,l1,l2,l3⟩:=H.obj id _ hget
      rw[hL] at l1;cases l1
      refine main es cs l3 (fun r hr=> ?_) he
      unfold Instr.lookup
      simp only[Sem.run_bind,run_underlying hu,Result.andThen_ok,run_getObj_map l2,Sem.run_pure,hck,hr]
      cases r with
      |none=>simp[z1]
      |some x=>simp
    ·cases hmo
   ·cases he
  ·cases hm
   refine main [] #[] .nil (fun r hr=> ?_) he
   unfold Instr.lookup
   simp only[Sem.run_bind,run_underlying hu,Result.andThen_ok,Sem.run_pure,hck,hr]
   cases r with
   |none=>simp[z1]
   |some x=>simp
theorem KC {t kt et:TypeId} {kk:KK} {m k u:AV} {cm ck cu:Value} (H:bJ P B φ h w) (hu:P.underlying t=some (.map kt et)) (hk:vK P kt=some kk) (hm:aX φ m cm) (hkv:aX φ k ck) (huv:aX φ u cu)
 (he:lq h kk m k u=some h'):ae2 P B φ h' w ((Instr.mapUpdate t cm ck cu).run P w):=by
 unfold lq at he
 cases hf:jR kk k with
 |false=>rw[hf] at he;cases he
 |true=>
  rw[hf,cond_true] at he
  have hck:∀em,(Instr.checkKey em 10000 kt ck).run P w= .ok () w:=fun em=>run_checkKey hk hkv hf em 9998
  split at he
  ·rename_i id
   split at he
   ·rename_i es c hget
    cases hm with
    |map hL=>
     rename_i L
     obtain⟨L',cs,l1,l2,l3⟩:=H.obj id _ hget
     rw[hL] at l1;cases l1
     split at he
     ·rename_i v0 hfe
      cases he
      obtain⟨r',g1,g2⟩:=lU (w:=w) hk hkv hf l3 hfe
      rcases g2 with⟨e,_⟩|⟨v2,j,e,e1,e2,e3⟩
      ·cases e
      ·cases e1
       subst e2
       obtain⟨k',z1,z2,z3⟩:=e3.ent
       have hsb:=(zw (w:=w) hk hkv z3 hf z2).2.2 rfl
       have hce:cs[j]? =some e:=by simpa using e3.ce
       have hstay:(Instr.keyThatStays (((cs[j]?).map (·.key)).getD ck) ck).run P w= .ok ck w:=by
        simp[hce,Instr.keyThatStays,hsb]
       have hmod:(cs.modify j fun e=>{e with key:=ck,val:=cu}).toList=cs.toList.set j {e with key:=ck,val:=cu}:=by
        apply List.ext_getElem?
        intro i
        rw[List.getElem?_set]
        by_cases hij:j=i
        ·subst hij
         have hlt:j<cs.toList.length:=by simpa using(Array.getElem?_eq_some_iff.1 hce).1
         rw[if_pos rfl,if_pos hlt,Array.getElem?_toList,Array.getElem?_modify,if_pos rfl,hce]
         rfl
        ·rw[if_neg hij,Array.getElem?_toList,Array.getElem?_modify,if_neg hij,Array.getElem?_toList]
       have hrel:jl φ (Sm k u es) (cs.modify j fun e=>{e with key:=ck,val:=cu}).toList:=by
        rw[hmod,e3.set u]
        exact l3.set j hkv huv rfl
       obtain⟨m1,m2⟩:=Nk (clock':=c) H hget hL hrel
       refine⟨_,φ, ?_,m1,φ.le_refl,m2⟩
       unfold Instr.mapUpdate
       simp only[Sem.run_bind,run_underlying hu,Result.andThen_ok,run_getObj_map l2,hck,g1,hstay,run_setObj_map _ l2]
     ·rename_i hfe
      cases he
      obtain⟨r',g1,g2⟩:=lU (w:=w) hk hkv hf l3 hfe
      rcases g2 with⟨_,rfl⟩|⟨v2,j,e,e1,_⟩
      ·have hrel:jl φ (es++[(k,u,c)]) (cs.push {key:=ck,val:=cu,born:=c}).toList:=by
        rw[Array.toList_push]
        exact l3.append (.cons hkv huv rfl .nil)
       obtain⟨m1,m2⟩:=Nk (clock':=c+1) H hget hL hrel
       refine⟨_,φ, ?_,m1,φ.le_refl,m2⟩
       unfold Instr.mapUpdate
       simp only[Sem.run_bind,run_underlying hu,Result.andThen_ok,run_getObj_map l2,hck,g1,run_setObj_map _ l2]
      ·cases e1
     ·cases he
   ·cases he
  ·cases he
theorem Rz {L:Nat} {o:Obj} (hh:w.heap[L]? =some o):w.putObj L o=w:=by
 unfold World.putObj
 obtain⟨hlt,hv⟩:=Array.getElem?_eq_some_iff.1 hh
 cases w with
 |mk heap tape drawn os output=>
  congr 1
  apply Array.ext_getElem?
  intro i
  by_cases hi:L=i
  ·subst hi
   simp only at hh hlt ⊢
   rw[hh];simp[hlt]
  ·exact Array.getElem?_setIfInBounds_ne hi
theorem YD {t kt et ty t2:TypeId} {kk:KK} {m k:AV} {cm ck:Value} (H:bJ P B φ h w) (hu:P.underlying t=some (.map kt et)) (hk:vK P kt=some kk) (hm:aX φ m cm) (hkv:aX φ k ck)
 (he:ade h kk m k=some h'):∃w',(Builtin.delete_ #[t,t2] ty #[cm,ck]).run P w= .ok (.tuple #[]) w'∧bJ P B φ h' w'∧Gw B w w':=by
 unfold ade at he
 cases hf:jR kk k with
 |false=>rw[hf] at he;cases he
 |true=>
  rw[hf,cond_true] at he
  have hck:∀em,(Instr.checkKey em 10000 kt ck).run P w= .ok () w:=fun em=>run_checkKey hk hkv hf em 9998
  split at he
  ·cases he;cases hm
   refine⟨w, ?_,H,Gw.refl B w⟩
   simp only[Builtin.delete_,List.getElem?_toArray,List.getElem?_cons_zero,List.getElem?_cons_succ,Sem.run_bind,run_underlying hu,Result.andThen_ok,hck,Sem.run_pure]
  ·rename_i id
   split at he
   ·rename_i es c hget
    cases hm with
    |map hL=>
     rename_i L
     obtain⟨L',cs,l1,l2,l3⟩:=H.obj id _ hget
     rw[hL] at l1;cases l1
     split at he
     ·rename_i v0 hfe
      cases he
      obtain⟨r',g1,g2⟩:=lU (w:=w) hk hkv hf l3 hfe
      rcases g2 with⟨e,_⟩|⟨v2,j,e,e1,e2,e3⟩
      ·cases e
      ·cases e1
       subst e2
       have hce:cs[j]? =some e:=by simpa using e3.ce
       have hlt:j<cs.size:=(Array.getElem?_eq_some_iff.1 hce).1
       have hrel:jl φ (XT k es) (cs.eraseIdxIfInBounds j).toList:=by
        rw[e3.del]
        have:(cs.eraseIdxIfInBounds j).toList=cs.toList.eraseIdx j:=by
         rw[Array.eraseIdxIfInBounds,dif_pos hlt];simp
        rw[this]
        exact l3.eraseIdx j
       obtain⟨m1,m2⟩:=Nk (clock':=c) H hget hL hrel
       refine⟨_, ?_,m1,m2⟩
       simp only[Builtin.delete_,List.getElem?_toArray,List.getElem?_cons_zero,List.getElem?_cons_succ,Sem.run_bind,run_underlying hu,Result.andThen_ok,run_getObj_map l2,hck,g1,run_setObj_map _ l2,Sem.run_pure]
     ·rename_i hfe
      cases he
      obtain⟨r',g1,g2⟩:=lU (w:=w) hk hkv hf l3 hfe
      rcases g2 with⟨_,rfl⟩|⟨v2,j,e,e1,_⟩
      ·refine⟨w, ?_,H,Gw.refl B w⟩
       simp only[Builtin.delete_,List.getElem?_toArray,List.getElem?_cons_zero,List.getElem?_cons_succ,Sem.run_bind,run_underlying hu,Result.andThen_ok,run_getObj_map l2,hck,g1,run_setObj_map _ l2,Sem.run_pure,Rz l2]
      ·cases e1
     ·cases he
   ·cases he
  ·cases he
end
section
variable {P:Program} {B:Base} {φ:dD} {h h':aj} {w:World} {v:AV}
theorem MI {id:Nat} {r:Row} (H:bJ P B φ h w) (hr:h.row id=some r) (hrw:r.rw=true) {L:Loc} (hL:φ id r.g=some L):∃c t,w.heap[L.blk]? =some (.cells c t (0,0)):=by
 have hrow:lG φ id r w:=H.obj id _ (aj.row_some.1 hr)
 obtain⟨_,c,t,h1,_⟩:=hrow.own hrw r.g L hrow.mg hL
 exact⟨c,t,h1⟩
theorem Ap {a b:Addr} {c d:Array Value} {t u:TypeId} (ha:w.heap[a.block]? =some (.cells c t (0,0))) (hb:w.heap[b.block]? =some (.cells d u (0,0))) (hne:a.block≠b.block):(sameAddr a b).run P w= .ok false w:=by
 have hne':(a.block==b.block)=false:=by simp[hne]
 have f1:∀o,w.frozen? ⟨a.block,o,none⟩=false:=fun o=>by simp[World.frozen?,ha]
 have f2:∀o,w.frozen? ⟨b.block,o,none⟩=false:=fun o=>by simp[World.frozen?,hb]
 have g1:w.frozen? a=false:=by simp[World.frozen?,ha]
 have g2:w.frozen? b=false:=by simp[World.frozen?,hb]
 have s1:w.shape? a.block=some (t,c.size):=by simp[World.shape?,ha]
 have s2:w.shape? b.block=some (u,d.size):=by simp[World.shape?,hb]
 simp[sameAddr,hne',Sem.run_bind,g1,g2,noView,viewAt,s1,s2,mayBeOne,stringish,f1,f2]
theorem aaO {t:TypeId} {cx cy:Value} {s:Sem Bool} (hh:∀d,(Op.equalIn (d+1) t cx cy).run P w=s.run P w):(Op.equal t cx cy).run P w=s.run P w:=hh 9999
theorem jf {t:TypeId} {cx cy:Value} {r:Bool} (hh:∀d,(Op.equalIn (d+1) t cx cy).run P w= .ok r w):(Op.equal t cx cy).run P w= .ok r w:=hh 9999
theorem jU {op:BinOp} {neg:Bool} (hop:(op= .eql∧neg=false)∨(op= .neq∧neg=true)) {t:TypeId} {cx cy:Value} {r:Bool} (ox oy:Operand) (hg:(eqGuard op t ox oy cx cy).run P w= .ok () w)
 (h1:∀(k:IntKind) (n:Int),cx≠ .int k n) (h2:∀k n,cx≠ .float k n) (h3:∀k a b,cx≠ .complex k a b) (h4:∀s,cx≠ .string s) (he:(Op.equal t cx cy).run P w= .ok r w):
 (do eqGuard op t ox oy cx cy;binOp op t cx cy:Sem Value).run P w= .ok (.bool (bif neg then !r else r)) w:=by
 have hb1:binOp .eql t cx cy=(do Pure.pure (.bool (←Op.equal t cx cy))):=by
  cases cx<;>first |rfl |exact absurd rfl (h1 _ _)|exact absurd rfl (h2 _ _)|exact absurd rfl (h3 _ _ _)|exact absurd rfl (h4 _)
 have hb2:binOp .neq t cx cy=(do Pure.pure (.bool (!(←Op.equal t cx cy)))):=by
  cases cx<;>first |rfl |exact absurd rfl (h1 _ _)|exact absurd rfl (h2 _ _)|exact absurd rfl (h3 _ _ _)|exact absurd rfl (h4 _)
 rcases hop with⟨rfl,rfl⟩|⟨rfl,rfl⟩
 ·simp[Sem.run_bind,hg,hb1,he]
 ·simp[Sem.run_bind,hg,hb2,he]
theorem iw {op:BinOp} {t:TypeId} {cx cy:Value} (ox oy:Operand) (h1:∀a,cx≠ .agg a) (h2:cx≠ .nilIface):(eqGuard op t ox oy cx cy).run P w= .ok () w:=by
 unfold eqGuard
 cases op<;>simp
 all_goals
  cases cx<;>first |rfl |exact absurd rfl (h1 _)|exact absurd rfl h2
theorem Dz {op:BinOp} {t:TypeId} {cx cy:Value} (ox oy:Operand) (hco:RY .ifn ox oy=true) (h1:∀a,cx≠ .agg a):(eqGuard op t ox oy cx cy).run P w= .ok () w:=by
 have hc:((ox matches .const _)||(oy matches .const _))=true:=by
  cases ox<;>cases oy<;>first |rfl |cases hco
 unfold eqGuard
 cases op<;>simp
 all_goals
  cases cx<;>first |rfl |exact absurd rfl (h1 _)|skip
 all_goals
  cases cy<;>first |rfl |(simp only[hc];rfl)|(cases ox<;>cases oy<;>first |rfl |cases hco)
theorem Qa {t e:TypeId} {n:Nat} {x y:AV} {cx cy:Value} (H:bJ P B φ h w) (hu:P.underlying t=some (.pointer e)) (hs:sizeT P e=some (n+1)) (hx:aX φ x cx) (hy:aX φ y cy) {r:Bool} (he:Vx h x y=some r):
 (Op.equal t cx cy).run P w= .ok r w∧∃p,cx= .pointer p:=by
 unfold Vx at he
 split at he
 ·cases he;cases hx;cases hy
  exact⟨jf fun d=>by simp[Op.equalIn,run_underlying hu],_,rfl⟩
 ·cases he;cases hx;cases hy
  exact⟨jf fun d=>by simp[Op.equalIn,run_underlying hu],_,rfl⟩
 ·cases he;cases hx;cases hy
  exact⟨jf fun d=>by simp[Op.equalIn,run_underlying hu],_,rfl⟩
 ·rename_i id g i o id' g' i' o'
  cases hx with
  |ptr hL hi=>
   rename_i L
   cases hy with
   |ptr hL' hi'=>
    rename_i L'
    refine⟨?_,_,rfl⟩
    have hred:(Op.equal t (.pointer (some ⟨L.blk,L.base+i*L.sz+o,none⟩)) (.pointer (some ⟨L'.blk,L'.base+i'*L'.sz+o',none⟩))).run P w=(sameAddr ⟨L.blk,L.base+i*L.sz+o,none⟩ ⟨L'.blk,L'.base+i'*L'.sz+o',none⟩).run P w:=
     aaO fun d=>by simp[Op.equalIn,run_underlying hu,fF hs]
    rw[hred]
    cases hid:Nat.beq id id' with
    |true=>
     rw[hid,cond_true] at he
     have:=aF.1 hid;subst this
     split at he
     ·rename_i rw hrow
      cases hc:(Nat.beq g rw.g&&Nat.beq g' rw.g&&Nat.blt o rw.sz&&Nat.blt o' rw.sz) with
      |false=>rw[hc] at he;cases he
      |true=>
       rw[hc,cond_true] at he;cases he
       simp only[Bool.and_eq_true,aF,bB] at hc
       obtain⟨⟨⟨rfl,rfl⟩,c3⟩,c4⟩:=hc
       rw[hL] at hL';cases hL'
       have hr:lG φ id rw w:=H.obj id _ (aj.row_some.1 hrow)
       have hsz:L.sz=rw.sz:=(hr.gen _ L hL).2
       have hbb:(L.blk==L.blk)=true:=by simp
       simp only[sameAddr,hbb,if_true,Sem.run_pure]
       congr 1
       rw[Bool.eq_iff_iff]
       simp only[beq_iff_eq,Addr.mk.injEq,true_and,and_true,Bool.and_eq_true,aF,hsz]
       constructor
       ·intro e
        have e2:i*rw.sz+o=i'*rw.sz+o':=by omega
        have d1:(i*rw.sz+o)/rw.sz=i:=by rw[Nat.mul_comm,Nat.mul_add_div hr.sz,Nat.div_eq_of_lt c3,Nat.add_zero]
        have d2:(i'*rw.sz+o')/rw.sz=i':=by rw[Nat.mul_comm,Nat.mul_add_div hr.sz,Nat.div_eq_of_lt c4,Nat.add_zero]
        have:i=i':=by rw[←d1, ←d2,e2]
        subst this
        exact⟨rfl,by omega⟩
       ·rintro⟨rfl,rfl⟩;rfl
     ·cases he
    |false=>
     rw[hid,cond_false] at he
     have hid:=dh.1 hid
     split at he
     ·rename_i r1 r2 hr1 hr2
      cases hc:(r1.rw&&r2.rw&&Nat.beq g r1.g&&Nat.beq g' r2.g) with
      |false=>rw[hc] at he;cases he
      |true=>
       rw[hc,cond_true] at he;cases he
       simp only[Bool.and_eq_true,aF] at hc
       obtain⟨⟨⟨c1,c2⟩,rfl⟩,rfl⟩:=hc
       obtain⟨c,tt,q1⟩:=MI H hr1 c1 hL
       obtain⟨d,uu,q2⟩:=MI H hr2 c2 hL'
       exact Ap q1 q2 (fun e=>hid (H.disj id _ id' _ _ L L' (aj.row_some.1 hr1) c1 hL hL' e))
     ·cases he
 ·cases he
theorem MO {t:TypeId} {x y:Operand} {k:EqK} (h:Y8 P t x y=some k):WT P t=some k∧RY k x y=true:=by
 unfold Y8 at h
 split at h
 ·rename_i k' hk
  cases ho:RY k' x y with
  |true=>rw[ho,cond_true] at h;cases h;exact⟨hk,ho⟩
  |false=>rw[ho] at h;cases h
 ·cases h
theorem R4 {op:BinOp} {neg:Bool} (hop:(op= .eql∧neg=false)∨(op= .neq∧neg=true)) {t:TypeId} {k:EqK} {x y:AV} {cx cy:Value} (H:bJ P B φ h w) (hk:WT P t=some k) (hx:aX φ x cx) (hy:aX φ y cy) {r:Bool} (he:VF h k x y=some r) (ox oy:Operand) (hco:RY k ox oy=true):
 (do eqGuard op t ox oy cx cy;binOp op t cx cy:Sem Value).run P w= .ok (.bool (bif neg then !r else r)) w:=by
 unfold WT at hk
 split at hk
 ·rename_i hu
  cases hk
  simp only[VF,abA] at he
  split at he
  ·cases he;cases hx;cases hy
   exact jU hop ox oy (iw ox oy (by simp) (by simp)) (by simp) (by simp) (by simp) (by simp) (run_equal_bool w t _ _ hu)
  ·cases he
 ·rename_i e hu
  split at hk
  ·rename_i n hs
   cases hk
   simp only[VF] at he
   obtain⟨h1,p,rfl⟩:=Qa H hu hs hx hy he
   exact jU hop ox oy (iw ox oy (by simp) (by simp)) (by simp) (by simp) (by simp) (by simp) h1
  ·cases hk
 ·rename_i e hu
  cases hk
  simp only[VF,adW] at he
  split at he
  ·cases he;cases hx;cases hy
   exact jU hop ox oy (iw ox oy (by simp) (by simp)) (by simp) (by simp) (by simp) (by simp) (jf fun d=>by simp[Op.equalIn,run_underlying hu])
  ·cases he;cases hx;cases hy
   exact jU hop ox oy (iw ox oy (by simp) (by simp)) (by simp) (by simp) (by simp) (by simp) (jf fun d=>by simp[Op.equalIn,run_underlying hu])
  ·cases he;cases hx;cases hy
   exact jU hop ox oy (iw ox oy (by simp) (by simp)) (by simp) (by simp) (by simp) (by simp) (jf fun d=>by simp[Op.equalIn,run_underlying hu])
  ·cases he;cases hx;cases hy
   exact jU hop ox oy (iw ox oy (by simp) (by simp)) (by simp) (by simp) (by simp) (by simp) (jf fun d=>by simp[Op.equalIn,run_underlying hu])
  ·cases he;cases hx;cases hy
   exact jU hop ox oy (iw ox oy (by simp) (by simp)) (by simp) (by simp) (by simp) (by simp) (jf fun d=>by simp[Op.equalIn,run_underlying hu])
  ·cases he
 ·rename_i e f hu
  cases hk
  simp only[VF,adN] at he
  split at he
  ·cases he;cases hx;cases hy
   exact jU hop ox oy (iw ox oy (by simp) (by simp)) (by simp) (by simp) (by simp) (by simp) (jf fun d=>by simp[Op.equalIn,run_underlying hu])
  ·cases he;cases hx;cases hy
   exact jU hop ox oy (iw ox oy (by simp) (by simp)) (by simp) (by simp) (by simp) (by simp) (jf fun d=>by simp[Op.equalIn,run_underlying hu])
  ·cases he;cases hx;cases hy
   exact jU hop ox oy (iw ox oy (by simp) (by simp)) (by simp) (by simp) (by simp) (by simp) (jf fun d=>by simp[Op.equalIn,run_underlying hu])
  ·cases he
 ·rename_i e f g hu
  cases hk
  simp only[VF,eqFn] at he
  split at he
  ·cases he;cases hx;cases hy
   exact jU hop ox oy (iw ox oy (by simp) (by simp)) (by simp) (by simp) (by simp) (by simp) (jf fun d=>by simp[Op.equalIn,run_underlying hu])
  ·cases he;cases hy
   cases hx<;>exact jU hop ox oy (iw ox oy (by simp) (by simp)) (by simp) (by simp) (by simp) (by simp) (jf fun d=>by simp[Op.equalIn,run_underlying hu])
  ·cases he;cases hx
   cases hy<;>exact jU hop ox oy (iw ox oy (by simp) (by simp)) (by simp) (by simp) (by simp) (by simp) (jf fun d=>by simp[Op.equalIn,run_underlying hu])
  ·cases he
 ·rename_i ms hu
  cases hk
  simp only[VF,adR] at he
  split at he
  ·cases he;cases hx;cases hy
   exact jU hop ox oy (Dz ox oy hco (by simp)) (by simp) (by simp) (by simp) (by simp) (jf fun d=>by simp[Op.equalIn,run_underlying hu])
  ·cases he;cases hx;cases hy
   exact jU hop ox oy (Dz ox oy hco (by simp)) (by simp) (by simp) (by simp) (by simp) (jf fun d=>by simp[Op.equalIn,run_underlying hu])
  ·cases he;cases hx;cases hy
   exact jU hop ox oy (Dz ox oy hco (by simp)) (by simp) (by simp) (by simp) (by simp) (jf fun d=>by simp[Op.equalIn,run_underlying hu])
  ·cases he
 ·rename_i fs hu
  split at hk
  ·rename_i ks hs
   cases hk
   obtain⟨fs',hu',s1,s2,s3⟩:=ug hs
   simp only[VF,Vq] at he
   split at he
   ·rename_i l m
    cases hf:tT ks l with
    |false=>rw[hf] at he;cases he
    |true=>
     rw[hf,cond_true] at he
     have hkk:vK P t=some (.st ks):=by
      unfold vK
      have:K4 P t=none:=by unfold K4;rw[hu]
      rw[this,hs]
     have:=(zw (w:=w) hkk hx hy (by simpa[jR] using hf) (by simpa[Dn] using he)).1
     cases hx;cases hy
     exact jU hop ox oy (run_eqGuard_agg w _ _ _ _ _ _ s2) (by simp) (by simp) (by simp) (by simp) this
   ·cases he
  ·cases hk
 ·cases hk
theorem Y7 {t kt et:TypeId} {x:AV} {cx:Value} (H:bJ P B φ h w) (hu:P.underlying t=some (.map kt et)) (hx:aX φ x cx) (he:adx h x=some (v,h')):lJ P B φ h' v w ((Instr.range t cx).run P w):=by
 unfold adx at he
 split at he
 ·cases he;cases hx
  have hle:=dD.le_add (φ:=φ) (id:=h.sz) (g:=0) ⟨w.heap.size,0,0,0,0⟩ (H.fresh 0)
  have hp:=H.push (o:= .iter none 0 [] 0) rfl (L:=⟨w.heap.size,0,0,0,0⟩) (ob:= .mapIter none 0 #[] 0) rfl (fun ds e=>by cases e) ⟨_,dD.add_same _ _ _ _,none,heap_alloc_new w _,rfl⟩
  exact⟨_,_,_,by simp[Instr.range,run_underlying hu], .itr (dD.add_same _ _ _ _),hp,hle,Gw.alloc H.base (fun _ _ _ e=>by cases e)⟩
 ·rename_i id
  split at he
  ·rename_i es c hget
   cases he
   cases hx with
   |map hL=>
    rename_i L
    obtain⟨L',cs,l1,l2,l3⟩:=H.obj id _ hget
    rw[hL] at l1;cases l1
    have hle:=dD.le_add (φ:=φ) (id:=h.sz) (g:=0) ⟨w.heap.size,0,0,0,0⟩ (H.fresh 0)
    have hp:=H.push (o:= .iter (some id) c [] c) rfl (L:=⟨w.heap.size,0,0,0,0⟩) (ob:= .mapIter (some L.blk) c #[] c) rfl (fun ds e=>by cases e) ⟨_,dD.add_same _ _ _ _,some L.blk,heap_alloc_new w _,⟨L,hle _ _ _ hL,rfl⟩⟩
    exact⟨_,_,_,by simp[Instr.range,run_underlying hu,run_getObj_map l2], .itr (dD.add_same _ _ _ _),hp,hle,Gw.alloc H.base (fun _ _ _ e=>by cases e)⟩
  ·cases he
 ·cases he
theorem rH {r:Nat} {m:Option Nat} {s:Nat} {seen:Array Nat} {st:Nat} (hh:w.heap[r]? =some (.mapIter m s seen st)):(getObj r).run P w= .ok (.mapIter m s seen st) w:=by
 unfold getObj
 simp only[Sem.run,hh]
theorem yC {b:Nat}:∀{es:List (AV×AV×Nat)} {cs:List MapEntry},jl φ es cs→∀{e:AV×AV×Nat},xH b es=some e→∃ce,cs.find? (·.born==b)=some ce∧aX φ e.1 ce.key∧aX φ e.2.1 ce.val∧ce.born=e.2.2
 |_,_, .nil,e,he=>by simp[xH] at he
 |_,_, .cons (b:=b') (e:=ce) hk hv hb ht,e,he=>by
  simp only[xH] at he
  cases hc:Nat.beq b' b with
  |true=>
   rw[hc,cond_true] at he;cases he
   have:=aF.1 hc;subst this
   exact⟨ce,by simp[List.find?,hb],hk,hv,hb⟩
  |false=>
   rw[hc,cond_false] at he
   obtain⟨ce',h1,h2⟩:=yC ht he
   refine⟨ce', ?_,h2⟩
   have:(ce.born==b)=false:=by rw[hb];simpa using dh.1 hc
   simp[List.find?,this,h1]
theorem X5 {x:AV} {cx:Value} (H:bJ P B φ h w) (hx:aX φ x cx) (he:ab1 h x=some v):∃cv,(Instr.entry cx).run P w= .ok cv w∧aX φ v cv:=by
 unfold ab1 at he
 split at he
 ·rename_i id
  split at he
  ·rename_i m since b seen stepped hget
   split at he
   ·rename_i es clock hgm
    cases hc:Nat.beq clock stepped with
    |false=>rw[hc] at he;cases he
    |true=>
     rw[hc,cond_true] at he
     have:=aF.1 hc;subst this
     split at he
     ·rename_i e hfb
      cases he
      cases hx with
      |itr hL=>
       rename_i L
       obtain⟨L',l1,cm,l2,l3⟩:=H.obj id _ hget
       rw[hL] at l1;cases l1
       obtain⟨Lm,l4,rfl⟩:=l3
       obtain⟨Lm',cs,m1,m2,m3⟩:=H.obj m _ hgm
       rw[l4] at m1;cases m1
       obtain⟨ce,f1,f2,f3,f4⟩:=yC m3 hfb
       refine⟨.tuple #[ce.key,ce.val], ?_, .tup (.cons f2 (.cons f3 .nil))⟩
       have hb:(b :: seen).reverse.toArray.back? =some b:=by simp
       have hf:cs.find? (·.born==b)=some ce:=by rw[←Array.find?_toList];exact f1
       unfold Instr.entry
       simp only[Sem.run_bind,rH l2,Result.andThen_ok,hb,run_getObj_map m2]
       simp[hf]
     ·cases he
   ·cases he
  ·cases he
 ·cases he
theorem jl.filter {φ:dD} {l:List (AV×AV×Nat)} {m:List MapEntry} (hr:jl φ l m) (p:Nat→Bool):jl φ (l.filter fun e=>p e.2.2) (m.filter fun e=>p e.born):=by
 induction hr with
 |nil=>exact .nil
 |cons h1 h2 h3 ht ih=>
  rename_i b _ e _
  simp only[List.filter_cons,h3]
  split
  ·exact .cons h1 h2 h3 ih
  ·exact ih
theorem jl.get {φ:dD} {l:List (AV×AV×Nat)} {m:List MapEntry} (hr:jl φ l m):∀{j:Nat} {e:MapEntry},m[j]? =some e→∃k v,l[j]? =some (k,v,e.born)∧aX φ k e.key∧aX φ v e.val:=by
 induction hr with
 |nil=>intro j e he;simp at he
 |cons h1 h2 h3 ht ih=>
  intro j e he
  cases j with
  |zero=>simp at he;subst he;exact⟨_,_,by simp[h3],h1,h2⟩
  |succ j=>simp at he;obtain⟨k,v,a,b⟩:=ih he;exact⟨k,v,by simpa using a,b⟩
theorem Xx (n:Nat):∀l:List Nat,jQ n l=l.contains n
 | []=>rfl
 |m :: l=>by
  simp only[jQ,List.contains_cons,Xx n l]
  cases hc:Nat.beq n m with
  |true=>have:=aF.1 hc;subst this;simp
  |false=>have:=dh.1 hc;simp[this]
theorem NJ (a b:Nat):Nat.blt a b=decide (a<b):=by rw[Bool.eq_iff_iff,bB];simp
theorem Ta {ty:TypeId} {x:AV} {cx:Value} {K:aM} (H:bJ P B φ h w) (hx:aX φ x cx) (hn:IU h x K=true):∃v h',K v h'=true∧lJ P B φ h' v w ((Instr.next cx false ty).run P w):=by
 unfold IU at hn
 split at hn
 ·rename_i id
  split at hn
  ·rename_i s1 s2 s3 hget
   cases hx with
   |itr hL=>
    rename_i L
    obtain⟨L',l1,cm,l2,l3⟩:=H.obj id _ hget
    rw[hL] at l1;cases l1
    subst l3
    refine⟨_,_,hn,lJ.pure H (cv:= .tuple #[.bool false]) ?_ (.tup (.cons (.bool _) .nil))⟩
    simp[Instr.next,Sem.run_bind,rH l2]
  ·rename_i m since seen last hget
   split at hn
   ·rename_i es clock hgm
    cases hx with
    |itr hL=>
     rename_i L
     obtain⟨L',l1,cm,l2,l3⟩:=H.obj id _ hget
     rw[hL] at l1;cases l1
     obtain⟨Lm,l4,rfl⟩:=l3
     obtain⟨Lm',cs,m1,m2,m3⟩:=H.obj m _ hgm
     rw[l4] at m1;cases m1
     have hlen:=m3.length
     simp only[Array.length_toList] at hlen
     cases hc:(!seen.isEmpty&& !es.isEmpty&&es.all (fun e=> !Nat.blt e.2.2 last)) with
     |true=>rw[hc] at hn;cases hn
     |false=>
      rw[hc,cond_false] at hn
      have hcond:(!(seen.reverse.toArray).isEmpty&& !cs.isEmpty&&cs.all (fun e=>decide (e.born≥last)))=false:=by
       have e1:(seen.reverse.toArray).isEmpty=seen.isEmpty:=by cases seen<;>simp
       have e2:cs.isEmpty=es.isEmpty:=by
        rw[Bool.eq_iff_iff,Array.isEmpty_iff_size_eq_zero,List.isEmpty_iff_length_eq_zero,hlen]
       have e3:cs.all (fun e=>decide (e.born≥last))=es.all (fun e=> !Nat.blt e.2.2 last):=by
        rw[←Array.all_toList]
        have gen:∀{l:List (AV×AV×Nat)} {mm:List MapEntry},jl φ l mm→mm.all (fun e=>decide (e.born≥last))=l.all (fun e=> !Nat.blt e.2.2 last):=by
         intro l mm hh
         induction hh with
         |nil=>rfl
         |cons h1 h2 h3 _ ih=>
          simp only[List.all_cons,ih,h3]
          congr 1
          rw[NJ,Bool.eq_iff_iff];simp
        exact gen m3
       rw[e1,e2,e3];exact hc
      have hleft:=m3.filter (fun b=> !jQ b seen)
      have hold:=hleft.filter (fun b=>Nat.blt b since)
      have hnew:=hleft.filter (fun b=> !Nat.blt b since)
      have c1:(cs.filter fun e=> !(seen.reverse.toArray).contains e.born).toList=cs.toList.filter (fun e=> !jQ e.born seen):=by
       rw[Array.toList_filter]
       congr 1
       funext e
       rw[Xx]
       simp
      have c2:((cs.filter fun e=> !(seen.reverse.toArray).contains e.born).filter (fun e=>decide (e.born<since))).toList=(cs.toList.filter (fun e=> !jQ e.born seen)).filter (fun e=>Nat.blt e.born since):=by
       rw[Array.toList_filter,c1]
       congr 1
       funext e
       rw[NJ]
      have c3:((cs.filter fun e=> !(seen.reverse.toArray).contains e.born).filter (fun e=>decide (e.born≥since))).toList=(cs.toList.filter (fun e=> !jQ e.born seen)).filter (fun e=> !Nat.blt e.born since):=by
       rw[Array.toList_filter,c1]
       congr 1
       funext e
       rw[NJ]
       rw[Bool.eq_iff_iff];simp
      generalize hO:((cs.filter fun e=> !(seen.reverse.toArray).contains e.born).filter (fun e=>decide (e.born<since)))=O at c2
      generalize hN:((cs.filter fun e=> !(seen.reverse.toArray).contains e.born).filter (fun e=>decide (e.born≥since)))=N at c3
      rw[←c2] at hold
      rw[←c3] at hnew
      generalize hCd:(if O.isEmpty then #[none] else #[])++(O++N).map some=Cd
      have hCdl:Cd.toList=(if O.toList=[] then [none] else [])++(O.toList++N.toList).map some:=by
       rw[←hCd]
       by_cases hO0:O= #[]
       ·subst hO0;simp
       ·have:O.toList≠[]:=by simpa using hO0
        simp[this,hO0]
      have hpos:0<Cd.size:=by
       have hl:Cd.size=Cd.toList.length:=by simp
       rw[hl,hCdl]
       by_cases hO0:O.toList=[]
       ·simp[hO0]
       ·have:=List.length_pos_iff.2 hO0
        simp[hO0];simp at this;omega
      have hdraw:∃i w1,i<Cd.size∧(choose (.mapNext Cd.size)).run P w= .ok i w1∧w1.heap=w.heap∧Gw B w w1:=by
       by_cases hf:(Question.mapNext Cd.size).forced=true
       ·exact⟨0,w,hpos,by simp[choose,Sem.run,hf],rfl,Gw.refl B w⟩
       ·exact⟨_,w.drew,Nat.mod_lt (w.tape w.drawn (.mapNext Cd.size)) hpos,by simp[choose,Sem.run,hf,Question.cut],rfl,Gw.drew B w⟩
      obtain⟨i,w1,hi,hch,hw1,hgw⟩:=hdraw
      have H1:=H.heap hw1
      have hget:∃c,Cd.toList[i]? =some c:=⟨_,List.getElem?_eq_getElem (by simpa using hi)⟩
      obtain⟨c,hcget⟩:=hget
      have hcget':Cd[i]? =some c:=by simpa using hcget
      have habs:∀cand,cand∈Mt es since seen→(match cand with |none=>K (.tup [.bool false]) h |some e=>K (.tup [.bool true,e.1,e.2.1]) (h.put id (.iter (some m) since (e.2.2 :: seen) clock)))=true:=by
       intro cand hmem
       have:=List.all_eq_true.1 hn cand hmem
       cases cand<;>exact this
      have hrunto:∀(rest:Option (Option MapEntry)→Sem Value),(Instr.next (.pointer (some ⟨L.blk,0,none⟩)) false ty).run P w=(match Cd[i]? with
       |some (some e)=>(do setObj L.blk (.mapIter (some Lm.blk) since ((seen.reverse.toArray).push e.born) clock);Pure.pure (.tuple #[.bool true,e.key,e.val]):Sem Value).run P w1
       |some none=> .ok (.tuple #[.bool false]) w1
       |none=>(stuck "Next: no such candidate" :Sem Value).run P w1):=by
       intro _
       unfold Instr.next
       simp only[Sem.run_bind,rH l2,Result.andThen_ok,run_getObj_map m2,hcond,Bool.false_eq_true,if_false]
       rw[hO,hN,hCd,hch]
       simp only[Result.andThen_ok]
       cases Cd[i]? with
       |none=>rfl
       |some o=>
        cases o with
        |none=>rfl
        |some e=>simp only[Sem.run_bind]
      have hrun:=hrunto (fun _=>stuck "")
      rw[hcget'] at hrun
      cases c with
      |none=>
       have hmem:none∈Mt es since seen:=by
        have:(none:Option MapEntry)∈Cd.toList:=List.mem_of_getElem? hcget
        rw[hCdl] at this
        have hO0:O.toList=[]:=by
         rcases List.mem_append.1 this with h1 |h1
         ·by_cases hO0:O.toList=[]
          ·exact hO0
          ·simp[hO0] at h1
         ·simp at h1
        have:((es.filter fun e=> !jQ e.2.2 seen).filter fun e=>Nat.blt e.2.2 since)=[]:=by
         have:=hold.length
         rw[hO0] at this
         exact List.length_eq_zero_iff.1 this
        unfold Mt
        simp only[this]
        simp
       exact⟨_,_,habs none hmem,_,w1,φ,hrun, .tup (.cons (.bool _) .nil),H1,φ.le_refl,hgw⟩
      |some e=>
       have hmem:∃k u,(some (k,u,e.born))∈Mt es since seen∧aX φ k e.key∧aX φ u e.val:=by
        have:(some e:Option MapEntry)∈Cd.toList:=List.mem_of_getElem? hcget
        rw[hCdl] at this
        have hin:e∈O.toList++N.toList:=by
         rcases List.mem_append.1 this with h1 |h1
         ·by_cases hO0:O.toList=[]
          ·simp[hO0] at h1
          ·simp[hO0] at h1
         ·simpa using h1
        have hcat:=hold.append hnew
        obtain⟨j,hj⟩:=List.getElem?_of_mem hin
        obtain⟨k,u,g1,g2,g3⟩:=hcat.get hj
        refine⟨k,u, ?_,g2,g3⟩
        unfold Mt
        exact List.mem_append_right _ (List.mem_map.2 ⟨_,List.mem_of_getElem? g1,rfl⟩)
       obtain⟨k,u,g1,g2,g3⟩:=hmem
       have hk:=habs _ g1
       have hblk:L.blk<w1.heap.size:=H1.lt id 0 L hL
       have l2':w1.heap[L.blk]? =some (.mapIter (some Lm.blk) since seen.reverse.toArray last):=by rw[hw1];exact l2
       have hset:(setObj L.blk (.mapIter (some Lm.blk) since ((seen.reverse.toArray).push e.born) clock)).run P w1= .ok () (w1.putObj L.blk (.mapIter (some Lm.blk) since ((seen.reverse.toArray).push e.born) clock)):=by
        unfold setObj
        simp only[Sem.run,l2']
        rfl
       have hB:B≤L.blk:=(H.own id _ 0 L hget hL).1 rfl
       have hseen:((seen.reverse.toArray).push e.born)=(e.born :: seen).reverse.toArray:=by
        apply Array.ext';simp
       have hobj:yg P φ id (.iter (some m) since (e.born :: seen) clock) (w1.putObj L.blk (.mapIter (some Lm.blk) since ((seen.reverse.toArray).push e.born) clock)):=
        ⟨L,hL,some Lm.blk,by rw[←hseen];exact World.putObj_heap_same hblk,⟨Lm,l4,rfl⟩⟩
       refine⟨_,_,hk, .tuple #[.bool true,e.key,e.val],w1.putObj L.blk (.mapIter (some Lm.blk) since ((seen.reverse.toArray).push e.born) clock),φ,hrun.trans (by simp only[Sem.run_bind,hset,Result.andThen_ok,Sem.run_pure]), .tup (.cons (.bool _) (.cons g2 (.cons g3 .nil))), ?_,φ.le_refl,hgw.trans ?_⟩
       ·exact H1.update hget rfl rfl φ.le_refl (fun _ _ _=>rfl) (fun g K' e'=> .inl e') (by simp) (fun k' _ hk'=>World.putObj_heap_other (fun e'=>hk' 0 L hL e'.symm)) (tO.put w1 (fun ds e'=>by cases e')) hobj
       ·exact Gw.of_block l2' hB (fun ds e'=>by cases e') (fun r e'=>by cases e') (World.putObj_heap_same hblk) (fun _ _ _ e'=>by cases e') (fun _ _ _ e'=>by cases e') (fun k' hk'=>World.putObj_heap_other hk') (by simp) rfl rfl rfl
   ·cases hn
  ·cases hn
 ·cases hn
end
section
variable {P:Program} {B:Base} {φ:dD} {h h':aj} {w:World} {v:AV}
theorem MP {n id:Nat} {x:AV} {cx:Value} {t:TypeId} (H:bJ P B φ h w) (hx:aX φ x cx) (hc:(Nat.beq x.cells.length n&&aD x.cells&&Nat.blt 0 n)=true) (hg:B.gh id=some (.row {es:=[x.cells],sz:=n,g:=0,m:=0,rw:=true,ty:=some t})):
 lJ P (B.del id) φ h (.ptr id 0 0 0) w ((Instr.box t cx).run P w):=by
 simp only[Bool.and_eq_true,aF,bB] at hc
 obtain⟨⟨c1,c2⟩,c3⟩:=hc
 have hcells:=hx.cells
 obtain⟨φ',h1,h2,h3,h4⟩:=uY H (es:=[x.cells]) c3 (by intro e he;simp at he;subst he;exact c1) (by intro e he;simp at he;subst he;exact c2) (vals:=cx.cells.toList) (spare:=[]) (by simpa using hcells) (tot:=1)
  (by simp;rw[←c1,hcells.length];simp) t (some t) (fun _ e=>by cases e;rfl) hg
 refine⟨.pointer (some ⟨w.heap.size,0,none⟩),_,φ', ?_, ?_,h3,h1,h4⟩
 ·simp[Instr.box,newVar,newRow,Go.newRow]
 ·have:=aX.ptr (φ:=φ') (i:=0) (o:=0) h2 (by simp)
  simpa using this
theorem Uj {z:List AV} {t:TypeId} {id:Nat} (H:bJ P B φ h w) {za:AV} (hz:iV P t=some za) (hzc:za.cells=z) (hc:(Nat.blt 0 z.length&&aD z)=true) (hg:B.gh id=some (.row {es:=[z],sz:=z.length,g:=0,m:=0,rw:=true,ty:=some t})):
 lJ P (B.del id) φ h (.ptr id 0 0 0) w ((Instr.alloc t true (.tuple #[])).run P w):=by
 obtain⟨zv,i,h1,h2,h3,h4⟩:=jS hz w
 subst hzc
 obtain⟨cv,w',φ',a,b⟩:=MP (t:=t) (n:=za.cells.length) H (oD h2) (by simp only[Bool.and_eq_true] at hc ⊢;exact⟨⟨aF.2 rfl,hc.2⟩,hc.1⟩) hg
 refine⟨cv,w',φ', ?_,b⟩
 simp[Instr.alloc,h1]
 simpa[Instr.box] using a
theorem Jw {n:Nat} {x v:AV} {cx:Value} {t:TypeId} (H:bJ P B φ h w) (hx:aX φ x cx) (hc:(Nat.beq x.cells.length n&&aD x.cells&&Nat.blt 0 n)=true) (he:some (AV.ptr h.sz 0 0 0,newRow h [x.cells] n (some t))=some (v,h')):lJ P B φ h' v w ((Instr.box t cx).run P w):=by
 cases he
 simp only[Bool.and_eq_true,aF,bB] at hc
 obtain⟨⟨c1,c2⟩,c3⟩:=hc
 have hcells:=hx.cells
 obtain⟨φ',h1,h2,h3,h4⟩:=yM H (es:=[x.cells]) c3 (by intro e he;simp at he;subst he;exact c1) (by intro e he;simp at he;subst he;exact c2) (vals:=cx.cells.toList) (spare:=[]) (by simpa using hcells) (tot:=1)
  (by simp;rw[←c1,hcells.length];simp) t (some t) (fun e he=>by cases he;rfl)
 refine⟨.pointer (some ⟨w.heap.size,0,none⟩),_,φ', ?_, ?_,h3,h1,h4⟩
 ·simp[Instr.box,newVar,newRow,Go.newRow]
 ·have:=aX.ptr (φ:=φ') (i:=0) (o:=0) h2 (by simp)
  simpa using this
theorem Ph (P:Program) (t:TypeId):Ku P t=none∨Ku P t=some t:=by
 unfold Ku
 cases iV P t with
 |none=>exact .inl rfl
 |some z=>cases hb:nW z.cells with
  |true=>exact .inr (by simp only[hb,cond_true])
  |false=>exact .inl (by simp only[hb,cond_false])
theorem Tc {n:Nat} {x v:AV} {cx:Value} {t:TypeId} (H:bJ P B φ h w) (hx:aX φ x cx) (he:nK h (Ku P t) n x=some (v,h')):lJ P B φ h' v w ((Instr.box t cx).run P w):=by
 rcases Ph P t with hn |hn
 ·rw[hn] at he;exact YU H hx he
 ·rw[hn] at he
  unfold nK at he
  cases hc:(Nat.beq x.cells.length n&&aD x.cells&&Nat.blt 0 n) with
  |false=>rw[hc] at he;cases he
  |true=>rw[hc,cond_true] at he;exact Jw H hx hc he
theorem Yi {n id:Nat} {x:AV} {cx:Value} {t:TypeId} (H:bJ P B φ h w) (hx:aX φ x cx) (hc:(Nat.beq x.cells.length n&&aD x.cells&&Nat.blt 0 n)=true) (hg:B.gh id=some (.row {es:=[x.cells],sz:=n,g:=0,m:=0,rw:=true,ty:=Ku P t})):
 lJ P (B.del id) φ h (.ptr id 0 0 0) w ((Instr.box t cx).run P w):=by
 rcases Ph P t with hn |hn
 ·rw[hn] at hg;exact KG H hx hc hg
 ·rw[hn] at hg;exact MP H hx hc hg
theorem Q8 {z:List AV} {v:AV} {t:TypeId} (H:bJ P B φ h w) {za:AV} (hz:iV P t=some za) (hzc:za.cells=z) (he:(bif Nat.blt 0 z.length&&aD z then some (AV.ptr h.sz 0 0 0,newRow h [z] z.length (some t)) else none)=some (v,h')):
 lJ P B φ h' v w ((Instr.alloc t true (.tuple #[])).run P w):=by
 obtain⟨zv,i,h1,h2,h3,h4⟩:=jS hz w
 cases hb:(Nat.blt 0 z.length&&aD z) with
 |false=>rw[hb] at he;cases he
 |true=>
  rw[hb,cond_true] at he
  subst hzc
  obtain⟨cv,w',φ',a,b⟩:=Jw (t:=t) H (oD h2) (by simp[aF.2 rfl];simp only[Bool.and_eq_true,bB] at hb;exact⟨hb.2,hb.1⟩) he
  refine⟨cv,w',φ', ?_,b⟩
  simp[Instr.alloc,h1]
  simpa[Instr.box] using a
theorem Oi {id g i o:Nat} {r:Row} (H:bJ P B φ h w) (hr:h.row id=some r) (hrw:r.rw=true) (hg:g=r.g) {L:Loc} (hL:φ id g=some L):
 L.base=0∧L.sz=r.sz∧L.ext=r.es.length∧∃c t,w.heap[L.blk]? =some (.cells c t (0,0))∧c.size=L.tot*L.sz∧L.ext≤L.tot:=by
 subst hg
 have hrow:lG φ id r w:=H.obj id _ (aj.row_some.1 hr)
 obtain⟨hb,c,t,h1,h2,h3⟩:=hrow.own hrw r.g L hrow.mg hL
 obtain⟨L',hL',hext⟩:=hrow.cur
 rw[hL] at hL';cases hL'
 exact⟨hb,(hrow.gen _ _ hL).2,hext,c,t,h1,h2,h3⟩
theorem XZ {s d t:TypeId} {n:Nat} {x v:AV} {cx:Value} (H:bJ P B φ h w) (hs:P.underlying s=some (.pointer t)) (hd:P.underlying d=some .unsafePointer) (hz:sizeT P t=some (n+1)) (hx:aX φ x cx) (he:UC h x=some v):
 ∃cv,(convert s d cx).run P w= .ok cv w∧aX φ v cv:=by
 unfold UC at he
 split at he
 ·cases he;cases hx
  exact⟨.pointer none,by simp[convert,run_underlying hs,run_underlying hd,Conv.unsafePointer], .nilPtr⟩
 ·rename_i id g i o
  split at he
  ·rename_i r hr
   cases hb:(r.rw&&Nat.ble r.m g&&Nat.beq g r.g&&Nat.blt i r.es.length&&Nat.blt o r.sz) with
   |false=>rw[hb] at he;cases he
   |true=>
    rw[hb,cond_true] at he;cases he
    simp only[Bool.and_eq_true,aI,aF,bB] at hb
    obtain⟨⟨⟨⟨h1,h2⟩,h3⟩,h4⟩,h5⟩:=hb
    cases hx with
    |ptr hL hi=>
     rename_i L
     obtain⟨q1,q2,q3,c,u,q4,q5,q6⟩:=Oi (i:=i) (o:=o) H hr h1 h3 hL
     obtain⟨j,hj,hjs⟩:∃j,P.info? t=some j∧j.size=n+1:=by
      unfold sizeT at hz
      cases hh:P.info? t with
      |none=>rw[hh] at hz;cases hz
      |some j=>rw[hh] at hz;simp at hz;exact⟨j,rfl,hz⟩
     refine⟨_,Lib.run_to_unsafe w ⟨L.blk,L.base+i*L.sz+o,none⟩ hs hd hj (by omega) (e:=u) (cells:=c.size) ?_ ?_, .ptr hL hi⟩
     ·simp only[World.shape?,q4]
     ·show L.base+i*L.sz+o<c.size
      rw[q1,q5,q2]
      have:(i+1)*r.sz≤L.tot*r.sz:=Nat.mul_le_mul_right _ (by omega)
      rw[Nat.add_mul] at this
      omega
  ·cases he
 ·cases he
theorem RF {t:TypeId} {n count:Nat} (hs:tX P t=true) (hn:P.cellsOf t=n+1) (hc:1≤count):liesAt P P.depth t count 0 t 1=true:=by
 unfold tX at hs
 simp only[Bool.and_eq_true,bB] at hs
 obtain⟨d,hd⟩:∃d,P.depth=d+1:=⟨P.depth-1,by omega⟩
 have h2:=hs.2
 generalize hq:P.depth=q at *
 subst hd
 rw[liesAt,hq]
 rw[rowAt]
 simp only[hn,Nat.succ_ne_zero,if_false,Nat.zero_div,Nat.zero_mod,Nat.zero_add,h2,Bool.and_true]
 simp[hc]
theorem cellsOf_size {t:TypeId} {n:Nat} (hz:sizeT P t=some n):P.cellsOf t=n:=by
 unfold sizeT at hz
 cases hh:P.info? t with
 |none=>rw[hh] at hz;cases hz
 |some j=>
  rw[hh] at hz
  simp at hz
  simp[Program.cellsOf,hh,hz]
theorem Kt {u s o:Nat}:∀{us:List (Nat×Nat×Nat)},FB us u s o=true→(u,s,o)∈us
 | [],h=>by simp[FB] at h
 |(a,b,c) :: l,h=>by
  unfold FB at h
  cases hb:(Nat.beq a u&&Nat.beq b s&&Nat.beq c o) with
  |true=>
   simp only[Bool.and_eq_true,aF] at hb
   obtain⟨⟨rfl,rfl⟩,rfl⟩:=hb
   exact List.mem_cons_self
  |false=>rw[hb,cond_false] at h;exact List.mem_cons_of_mem _ (Kt h)
theorem Gv {u t:TypeId} {m o count n:Nat} (hd:3≤P.depth) (hs:tX P t=true) (hn:P.cellsOf t=n+1) (h:IX P t (u,m,o)=true) (hc:1≤count):P.cellsOf u=m∧liesAt P P.depth u count o t 1=true:=by
 unfold IX at h
 simp only at h
 split at h
 ·rename_i fs hu
  simp only[Bool.and_eq_true,bB,Bool.not_eq_true'] at h
  obtain⟨⟨⟨h1,h2⟩,h3⟩,h4⟩:=h
  obtain⟨f,hf,h5⟩:=List.any_eq_true.1 h4
  simp only[Bool.and_eq_true,aF] at h5
  obtain⟨rfl,rfl⟩:=h5
  have hm:P.cellsOf u=m:=by
   split at h1
   ·rename_i k hk
    rw[aF] at h1
    rw[cellsOf_size hk,h1]
   ·cases h1
  refine⟨hm, ?_⟩
  unfold tX at hs
  simp only[Bool.and_eq_true,bB] at hs
  have h6:=hs.2
  obtain⟨d,hd⟩:∃d,P.depth=d+3:=⟨P.depth-3,by omega⟩
  generalize hq:P.depth=q at *
  subst hd
  rw[liesAt,hq]
  have h7:rowAt P (fun x=>sameLayout P (d+3) x f.type) (d+3) u count f.offset 1=true:=by
   rw[rowAt]
   have h8:f.offset/P.cellsOf u=0:=Nat.div_eq_of_lt (by omega)
   have h9:f.offset%P.cellsOf u=f.offset:=Nat.mod_eq_of_lt (by omega)
   have ha:P.cellsOf u≠0:=by omega
   have hr:rowAt P (fun x=>sameLayout P (d+3) x f.type) (d+2) f.type 1 0 1=true:=by
    rw[rowAt]
    simp[hn,h6]
   have hb:(fs.any fun g=>decide (g.offset≤f.offset)&&decide (f.offset<g.offset+P.cellsOf g.type)&&rowAt P (fun x=>sameLayout P (d+3) x f.type) (d+2) g.type 1 (f.offset-g.offset) 1)=true:=by
    rw[Array.any_eq_true']
    refine⟨f,Array.mem_toList_iff.1 hf, ?_⟩
    have:f.offset<f.offset+P.cellsOf f.type:=by omega
    rw[Nat.sub_self,hr]
    simp[this]
   simp only[ha,if_false,h8,h9,hu,h2,hb,Bool.not_false,Bool.true_and,Bool.and_true]
   simp
   omega
  rw[h7,Bool.true_or]
 ·cases h
theorem Yy {s d t:TypeId} {n:Nat} {us:List (Nat×Nat×Nat)} {x v:AV} {cx:Value} (H:bJ P B φ h w) (hs:P.underlying s=some .unsafePointer) (hd:P.underlying d=some (.pointer t)) (hz:sizeT P t=some (n+1)) (hl:tX P t=true) (hus:∀x∈us,IX P t x=true) (hx:aX φ x cx) (he:TY h t (n+1) us x=some v):
 ∃cv,(convert s d cx).run P w= .ok cv w∧aX φ v cv:=by
 unfold TY at he
 split at he
 ·cases he;cases hx
  exact⟨.pointer none,by simp[convert,run_underlying hs,run_underlying hd,Conv.unsafePointer], .nilPtr⟩
 ·rename_i id g i o
  split at he
  ·rename_i r hr
   split at he
   ·rename_i u hu
    cases hb:(r.rw&&Nat.ble r.m g&&Nat.beq g r.g&&Nat.beq i 0&&Nat.blt 0 r.es.length&&((Nat.beq u t&&Nat.beq o 0&&Nat.beq r.sz (n+1))||FB us u r.sz o)) with
    |false=>rw[hb] at he;cases he
    |true=>
     rw[hb,cond_true] at he;cases he
     simp only[Bool.and_eq_true,Bool.or_eq_true,aI,aF,bB] at hb
     obtain⟨⟨⟨⟨⟨h1,h2⟩,h3⟩,rfl⟩,h8⟩,h4⟩:=hb
     cases hx with
     |ptr hL hi=>
      rename_i L
      obtain⟨q1,q2,q3,c,u',q4,q5,q6⟩:=Oi (i:=0) (o:=o) H hr h1 h3 hL
      obtain⟨c',f',q7⟩:=(show lG φ id r w from H.obj id _ (aj.row_some.1 hr)).ty u hu h1 g L h2 hL
      rw[q4] at q7
      cases q7
      have hj:∃j,P.info? t=some j:=by
       unfold sizeT at hz
       cases hh:P.info? t with
       |none=>rw[hh] at hz;cases hz
       |some j=>exact⟨j,rfl⟩
      obtain⟨j,hj⟩:=hj
      have hco:=cellsOf_size hz
      refine⟨_,Lib.run_from_unsafe w ⟨L.blk,L.base+0*L.sz+o,none⟩ hs hd hj (e:=u) (cells:=c.size) ?_ ?_, .ptr hL hi⟩
      ·simp only[World.shape?,q4]
      ·show liesAt P P.depth u (c.size/P.cellsOf u) (L.base+0*L.sz+o) t 1=true
       rw[q1,Nat.zero_mul,Nat.zero_add]
       rcases h4 with⟨⟨hut,rfl⟩,h7⟩|h4
       ·rw[hut]
        refine RF hl hco ?_
        rw[q5,q2,h7,hco,Nat.mul_div_cancel _ (Nat.succ_pos n)]
        omega
       ·have hh:=hus _ (Kt h4)
        have hd3:3≤P.depth:=by
         have:1≤Made.depth:=by decide
         unfold Program.depth
         omega
        obtain⟨k1, -⟩:=Gv (count:=1) hd3 hl hco hh (Nat.le_refl 1)
        refine(Gv hd3 hl hco hh ?_).2
        have h0:0<r.sz:=by
         have:=hh
         unfold IX at this
         simp only at this
         split at this
         ·simp only[Bool.and_eq_true,bB] at this
          omega
         ·cases this
        rw[q5,q2,k1,Nat.mul_div_cancel _ h0]
        omega
   ·cases he
  ·cases he
 ·cases he
theorem Tj {ts:Array TypeId} {ty:TypeId} {x v:AV} {cx:Value} (hx:aX φ x cx) (he:J5 x=some v):∃cv,(Builtin.unsafeSliceData_ ts ty #[cx]).run P w= .ok cv w∧aX φ v cv:=by
 unfold J5 at he
 split at he
 ·cases he;cases hx
  exact⟨_,Lib.run_unsafeSliceData_nil w ts ty 0 0, .nilPtr⟩
 ·rename_i id g s len cap ex
  cases hb:Nat.blt 0 cap with
  |false=>rw[hb] at he;cases he
  |true=>
   rw[hb,cond_true] at he;cases he
   have hb:=bB.1 hb
   cases hx with
   |slc hL h1 h2 h3 h4 h5 h6=>
    rename_i c off L
    refine⟨_,Lib.run_unsafeSliceData_row w ts ty ⟨L.blk,off,none⟩ len c (by omega), ?_⟩
    have:=aX.ptr (φ:=φ) (i:=s) (o:=0) hL (by omega)
    rw[h6 (by omega)]
    exact this
 ·cases he
theorem NG (w:World) (b n:Nat) {c:Array Value} {t:TypeId} {f:Nat×Nat} (hb:w.heap[b]? =some (.cells c t f)):∃f',(w.freeze ⟨b,0,none⟩ n).heap[b]? =some (.cells c t f'):=by
 unfold World.freeze
 by_cases hn:n=0
 ·rw[if_pos hn];exact⟨f,hb⟩
 ·rw[if_neg hn]
  obtain⟨lo,hi⟩:=f
  refine⟨if lo==hi then(0,0+n) else(min lo 0,max hi (0+n)), ?_⟩
  simp only[Array.getElem?_modify,if_pos,hb,Option.map_some]
theorem NH (w:World) (b n k:Nat) (h:k≠b):(w.freeze ⟨b,0,none⟩ n).heap[k]? =w.heap[k]? :=by
 unfold World.freeze
 by_cases hn:n=0
 ·rw[if_pos hn]
 ·rw[if_neg hn]
  simp only[Array.getElem?_modify]
  rw[if_neg (fun e=>h e.symm)]
theorem Gu (w:World) (b n:Nat):(w.freeze ⟨b,0,none⟩ n).heap.size=w.heap.size:=by
 unfold World.freeze
 by_cases hn:n=0
 ·rw[if_pos hn]
 ·rw[if_neg hn];simp
theorem Tq {pt it ty e:TypeId} {p n v:AV} {cp cn:Value} (H:bJ P B φ h w) (hp:P.underlying pt=some (.pointer e)) (hz:sizeT P e=some 1) (hx:aX φ p cp) (hy:aX φ n cn) (he:Gf h e p n=some (v,h')):
 lJ P B φ h' v w ((Builtin.unsafeString_ #[pt,it] ty #[cp,cn]).run P w):=by
 unfold Gf at he
 split at he
 ·rename_i k
  cases hy
  have zero:∀a:Option Addr,k=0→some (AV.str [],h)=some (v,h')→lJ P B φ h' v w ((Builtin.unsafeString_ #[pt,it] ty #[.pointer a, .int .i64 (Int.ofNat k)]).run P w):=by
   intro a hk he2
   clear he
   subst hk
   cases he2
   exact lJ.pure H (Lib.run_unsafeString_none w pt it ty a) (.str rfl)
  split at he
  ·cases hx
   cases hk:Nat.beq k 0 with
   |false=>rw[hk] at he;cases he
   |true=>rw[hk,cond_true] at he;exact zero none (aF.1 hk) he
  ·rename_i id g i o
   cases hx with
   |ptr hL hi=>
    rename_i L
    cases hk:Nat.beq k 0 with
    |true=>rw[hk,cond_true] at he;exact zero _ (aF.1 hk) he
    |false=>
     rw[hk,cond_false] at he
     have hk:=dh.1 hk
     split at he
     ·rename_i r hr
      split at he
      ·rename_i u hu
       cases hb:(r.rw&&Nat.beq g r.g&&Nat.beq u e&&Nat.beq i 0&&Nat.beq o 0&&Nat.beq r.sz 1&&Nat.ble k most) with
       |false=>rw[hb] at he;cases he
       |true=>
        rw[hb,cond_true] at he
        simp only[Bool.and_eq_true,aI,aF] at hb
        obtain⟨⟨⟨⟨⟨⟨h1,rfl⟩,rfl⟩,rfl⟩,rfl⟩,h6⟩,h7⟩:=hb
        simp only at he
        cases hl:Nat.beq (r.es.take k).length k with
        |false=>rw[hl] at he;cases he
        |true=>
         rw[hl,cond_true] at he
         have hl:=aF.1 hl
         split at he
         ·rename_i s hby
          cases he
          have hro:=aj.row_some.1 hr
          have hrow:lG φ id r w:=H.obj id _ hro
          obtain⟨q1,q2,q3,c,u',q4,q5,q6⟩:=Oi (i:=0) (o:=0) H hr h1 rfl hL
          obtain⟨c',f',q7⟩:=hrow.ty u hu h1 r.g L hrow.mg hL
          rw[q4] at q7;cases q7
          obtain⟨_,vals,hv,hcv⟩:=hrow.cells r.g L hrow.mg hL
          rw[q3,List.take_of_length_le (Nat.le_refl _)] at hv
          have hfl:∀e∈r.es,e.length=1:=fun e he=>by rw[←h6];exact hrow.es e he
          have htk:(r.es.take k).flatten=r.es.flatten.take k:=by
           have:=wI (es:=r.es) hfl (n:=k)
           simpa using this
          have hnv:bS φ (r.es.take k).flatten (vals.take k):=by rw[htk];exact hv.take k
          obtain⟨e1,e2⟩:=uP hby hnv
          have hsl:s.length=k:=by
           have:=congrArg List.length e1
           simp at this
           have h8:=hnv.length
           rw[lV (sz:=1) (fun e he=>hfl e (List.mem_of_mem_take he)),hl] at h8
           simp at h8
           omega
          obtain⟨bs,hbs⟩:∃bs:List UInt8,bs.map UInt8.toNat=s:=⟨s.map UInt8.ofNat,by
           rw[List.map_map]
           conv=>rhs;rw[←List.map_id s]
           refine List.map_congr_left fun a ha=> ?_
           have:=e2 a ha
           simp[UInt8.toNat_ofNat',Nat.mod_eq_of_lt this]⟩
          have hbl:bs.length=k:=by rw[←hsl, ←hbs];simp
          have hcells:∀j x,bs[j]? =some x→w.cell? ((⟨L.blk,0,none⟩:Addr).add j)=some (.int .u8 x.toNat):=by
           intro j x hj
           have hjl:=(List.getElem?_eq_some_iff.1 hj).1
           have hvj:vals[j]? =some (.int .u8 (x.toNat:Int)):=by
            have h9:(vals.take k)[j]? =vals[j]? :=List.getElem?_take_of_lt (by omega)
            rw[←h9,e1, ←hbs]
            simp[hj]
           have:=hcv j _ hvj
           rw[q1,Nat.zero_add] at this
           unfold Addr.add
           simp only[Nat.zero_add]
           by_cases hj0:j=0
           ·subst hj0;simpa using this
           ·simpa[hj0] using this
          have hco:=cellsOf_size hz
          have hrun:=Lib.run_unsafeString_row (P:=P) w pt it ty u hp hco L.blk c.size (by simp only[World.shape?,q4]) bs (by intro hh;rw[hh] at hbl;simp at hbl;omega) (by
           rw[q5,q2,h6,Nat.mul_one,hbl]
           have:k≤r.es.length:=by rw[List.length_take] at hl;omega
           omega) (by unfold most at h7;omega) hcells
          rw[hbl] at hrun
          have haddr:(L.base+0*L.sz+0)=0:=by rw[q1];simp
          obtain⟨f',hfb⟩:=NG w L.blk k q4
          have hoth:=fun j hj=>NH w L.blk k j hj
          refine⟨_,_,φ,by rw[haddr];exact hrun, .str (by simpa using hbs), ?_,φ.le_refl, ?_⟩
          ·refine H.update hro h1 rfl φ.le_refl (fun _ _ _=>rfl) (fun g K e=> .inl e) (by rw[Gu];exact Nat.le_refl _) (fun j _ hj=>hoth j (fun e=>hj r.g L hL e.symm)) (tO.of_block hfb (fun ds e=>by cases e) hoth) trivial
          ·have hB:B≤L.blk:=(H.own id _ r.g L hro hL).1 h1
           refine⟨?_, ?_, ?_,by rw[Gu];exact Nat.le_refl _,fun j hj=>hoth j (by omega),fun j ds hj=> ?_,fun j r hj=>⟨r, ?_⟩⟩
           ·unfold World.freeze;split<;>rfl
           ·unfold World.freeze;split<;>rfl
           ·unfold World.freeze;split<;>rfl
           ·rw[hoth j (fun e=>by subst e;rw[q4] at hj;cases hj)];exact hj
           ·rw[hoth j (fun e=>by subst e;rw[q4] at hj;cases hj)];exact hj
         ·cases he
      ·cases he
     ·cases he
  ·cases he
 ·cases he
end
noncomputable section
section
variable {P:Program} {B:Base} {φ:dD} {h h':aj} {w:World} {v:AV} {N:Nat} {ρ:dx} {a:Act}
theorem gB {x:bW} {f:AV→Option AV} (he:bQ (tQ ρ x f) h=some (v,h')):∃u,ev ρ x=some u∧f u=some v∧h'=h:=by
 unfold bQ tQ at he
 split at he
 ·rename_i r hr
  cases he
  split at hr
  ·rename_i u hu;exact⟨u,hu,hr,rfl⟩
  ·cases hr
 ·cases he
theorem vE {x y:bW} {f:AV→AV→Option AV} (he:bQ (Ze ρ x y f) h=some (v,h')):∃u u',ev ρ x=some u∧ev ρ y=some u'∧f u u'=some v∧h'=h:=by
 unfold bQ Ze at he
 split at he
 ·rename_i r hr
  cases he
  split at hr
  ·rename_i u hu
   split at hr
   ·rename_i u' hu';exact⟨u,u',hu,hu',hr,rfl⟩
   ·cases hr
  ·cases hr
 ·cases he
theorem jF {r:Option AV} (he:bQ r h=some (v,h')):r=some v∧h'=h:=by
 unfold bQ at he
 split at he
 ·cases he;exact⟨rfl,rfl⟩
 ·cases he
theorem vo {r:Option aj} (he:unit r=some (v,h')):r=some h'∧v= .tup []:=by
 unfold unit at he
 split at he
 ·cases he;exact⟨rfl,rfl⟩
 ·cases he
theorem mZ.bQ {s:Sem Value} {cv:Value} (H:bJ P B φ h w) (hs:s.run P w= .ok cv w) (hv:aX φ v cv):mZ P B φ h v w ((do let x ←s;Pure.pure (Next.value x):Sem Next).run P w):=
 mZ.ofV (lJ.pure H hs hv)
theorem EJ {c:Call} {b:Builtin} (hcal:c.callee= .builtin b) (ρ':Operand→Value) (ty:TypeId):(do let d ←resolve ρ' c ty;invoke d.target d.args:Sem Next).run P w=(builtin b c.argTypes ty (c.args.map fun | .const _=>true |_=>false) (c.args.map ρ')).run P w:=by
 unfold resolve
 simp only[hcal,Sem.run_bind,Sem.run_pure,Result.andThen_ok,invoke]
 rfl
theorem K5 {c:Call} {b:Builtin} {op:fK} {ty:TypeId} {consts:Array Bool} (hR:lM φ N ρ a.tmps) (H:bJ P B φ h w) (hc:oH P b c.argTypes.toList c.args.toList=some op) (he:aN ρ h op=some (v,h')):
 mZ P B φ h' v w ((builtin b c.argTypes ty consts (c.args.map a.eval)).run P w):=by
 obtain⟨cal,⟨args⟩,⟨types⟩⟩:=c
 simp only at hc
 unfold oH at hc
 split at hc
 ·
  rename_i t x
  simp only[Option.bind_eq_bind,Option.pure_def] at hc
  cases hx:aU x with
  |none=>simp[hx] at hc
  |some y=>
   rw[hx] at hc
   simp only[Option.bind_some] at hc
   split at hc
   ·rename_i hu
    cases hc
    simp only[aN] at he
    obtain⟨u,h1,h2,rfl⟩:=gB he
    obtain⟨cv,g1,g2⟩:=Dx (ty:=ty) H hu (.inl ⟨rfl,rfl⟩) (bD hR hx h1) h2
    exact mZ.bQ H (by simpa using g1) g2
   ·rename_i e hu
    cases hc
    simp only[aN] at he
    obtain⟨u,h1,h2,rfl⟩:=gB he
    obtain⟨cv,g1,g2⟩:=Dx (ty:=ty) H hu (.inr (.inl ⟨rfl,e,rfl⟩)) (bD hR hx h1) h2
    exact mZ.bQ H (by simpa using g1) g2
   ·rename_i e f hu
    cases hc
    simp only[aN] at he
    obtain⟨u,h1,h2,rfl⟩:=gB he
    obtain⟨cv,g1,g2⟩:=Dx (ty:=ty) H hu (.inr (.inr ⟨rfl,e,f,rfl⟩)) (bD hR hx h1) h2
    exact mZ.bQ H (by simpa using g1) g2
   ·rename_i n e hu
    cases hc
    simp only[aN,ev,Ab.bQ] at he
    cases he
    refine mZ.bQ H (cv:= .int .i64 n) ?_ (.int _ _)
    simp[Builtin.len_,run_underlying hu,goInt]
   ·cases hc
 ·
  rename_i t x
  simp only[Option.bind_eq_bind,Option.pure_def] at hc
  cases hx:aU x with
  |none=>simp[hx] at hc
  |some y=>
   rw[hx] at hc
   simp only[Option.bind_some] at hc
   split at hc
   ·rename_i e hu
    cases hc
    simp only[aN] at he
    obtain⟨u,h1,h2,rfl⟩:=gB he
    obtain⟨cv,g1,g2⟩:=XW (w:=w) (ty:=ty) hu (bD hR hx h1) h2
    exact mZ.bQ H (by simpa using g1) g2
   ·cases hc
 ·
  rename_i s t x y
  have:=XV (ty:=ty) hR H (t1:=s) (t2:=t) (x:=x) (y:=y) (op:=op) (by unfold oH;exact hc) he
  exact mZ.ofV (by simpa using this)
 ·
  rename_i s t x y
  simp only[Option.bind_eq_bind,Option.pure_def] at hc
  cases hx:aU x with
  |none=>simp[hx] at hc
  |some p=>
   cases hy:aU y with
   |none=>simp[hx,hy] at hc
   |some q=>
    rw[hx,hy] at hc
    simp only[Option.bind_some] at hc
    split at hc
    ·rename_i e hu
     cases hs:sizeT P e with
     |none=>simp[hs] at hc
     |some sz=>
      simp[hs] at hc;subst hc
      simp only[aN] at he
      cases hp:ev ρ p with
      |none=>simp[hp] at he
      |some dv=>
       cases hq:ev ρ q with
       |none=>simp[hp,hq] at he
       |some sv=>
        rw[hp,hq] at he
        have:=Tf (t1:=s) (t2:=t) (ty:=ty) H hu hs (bD hR hx hp) (bD hR hy hq) he
        exact mZ.ofV (by simpa using this)
    ·cases hc
 ·
  rename_i s t x y
  simp only[Option.bind_eq_bind,Option.pure_def] at hc
  cases hx:aU x with
  |none=>simp[hx] at hc
  |some p=>
   cases hy:aU y with
   |none=>simp[hx,hy] at hc
   |some q=>
    rw[hx,hy] at hc
    simp only[Option.bind_some] at hc
    split at hc
    ·rename_i kt e hu
     cases hk:vK P kt with
     |none=>simp[hk] at hc
     |some kk=>
      simp[hk] at hc;subst hc
      simp only[aN] at he
      cases hp:ev ρ p with
      |none=>simp[hp] at he
      |some dv=>
       cases hq:ev ρ q with
       |none=>simp[hp,hq] at he
       |some sv=>
        rw[hp,hq] at he
        obtain⟨h1,rfl⟩:=vo he
        obtain⟨w',d1,d2,d3⟩:=YD (t2:=t) (ty:=ty) H hu hk (bD hR hx hp) (bD hR hy hq) h1
        exact mZ.ofV ⟨.tuple #[],w',φ,by simpa using d1, .tup .nil,d2,φ.le_refl,d3⟩
    ·cases hc
 ·
  rename_i t x
  simp only[Option.bind_eq_bind,Option.pure_def] at hc
  cases hx:aU x with
  |none=>simp[hx] at hc
  |some y=>
   rw[hx] at hc
   simp only[Option.bind_some] at hc
   split at hc
   ·rename_i e hu
    cases hs:sizeT P e with
    |none=>simp[hs] at hc
    |some sz=>
     cases hz:iV P e with
     |none=>simp[hs,hz] at hc
     |some z=>
      simp[hs,hz] at hc;subst hc
      simp only[aN] at he
      cases hp:ev ρ y with
      |none=>simp[hp] at he
      |some u=>
       rw[hp] at he
       obtain⟨h1,rfl⟩:=vo he
       obtain⟨w',d1,d2,d3⟩:=Y9 (ty:=ty) H hu hs hz (bD hR hx hp) h1
       exact mZ.ofV ⟨.tuple #[],w',φ,by simpa using d1, .tup .nil,d2,φ.le_refl,d3⟩
   ·cases hc
 ·
  rename_i t x
  simp only[Option.bind_eq_bind,Option.pure_def] at hc
  cases hx:aU x with
  |none=>simp[hx] at hc
  |some y=>
   simp[hx] at hc;subst hc
   simp only[aN] at he
   obtain⟨u,h1,h2,rfl⟩:=gB he
   obtain⟨cv,g1,g2⟩:=Tj (w:=w) (P:=P) (ts:= #[t]) (ty:=ty) (bD hR hx h1) h2
   exact mZ.bQ H (by simpa using g1) g2
 ·
  rename_i t u x y
  split at hc
  ·rename_i p q e hx hy hu
   cases hz:(yQ P e&&afc P e) with
   |false=>rw[hz] at hc;cases hc
   |true=>
    rw[hz,cond_true] at hc;cases hc
    simp only[Bool.and_eq_true] at hz
    have hs:sizeT P e=some 1:=by
     have h2:=hz.2
     unfold afc at h2
     split at h2
     ·assumption
     ·cases h2
    simp only[aN] at he
    cases hp:ev ρ p with
    |none=>simp[hp] at he
    |some a1=>
     cases hq:ev ρ q with
     |none=>simp[hp,hq] at he
     |some a2=>
      rw[hp,hq] at he
      have:=Tq (it:=u) (ty:=ty) H hu hs (bD hR hx hp) (bD hR hy hq) he
      exact mZ.ofV (by simpa using this)
  ·cases hc
 ·
  rename_i xs
  simp only[Option.bind_eq_bind,Option.pure_def] at hc
  cases hx:lY args with
  |none=>simp[hx] at hc
  |some ys=>
   simp[hx] at hc;subst hc
   simp only[aN] at he
   split at he
   ·rename_i u l hvs
    obtain⟨h1,rfl⟩:=jF he
    have hrel:=tu hR hx hvs
    cases hargs:args.map a.eval with
    |nil=>rw[hargs] at hrel;cases hrel
    |cons c0 cs=>
     rw[hargs] at hrel
     cases hrel with
     |cons r1 r2=>
      obtain⟨cv,g1,g2⟩:=Kz (w:=w) (P:=P) r1 r2 h1
      refine mZ.bQ H (cv:=cv) ?_ g2
      simpa[Builtin.max_,hargs] using g1
   ·cases he
 ·
  rename_i xs
  simp only[Option.bind_eq_bind,Option.pure_def] at hc
  cases hx:lY args with
  |none=>simp[hx] at hc
  |some ys=>
   simp[hx] at hc;subst hc
   simp only[aN] at he
   split at he
   ·rename_i u l hvs
    obtain⟨h1,rfl⟩:=jF he
    have hrel:=tu hR hx hvs
    cases hargs:args.map a.eval with
    |nil=>rw[hargs] at hrel;cases hrel
    |cons c0 cs=>
     rw[hargs] at hrel
     cases hrel with
     |cons r1 r2=>
      obtain⟨cv,g1,g2⟩:=Kz (w:=w) (P:=P) r1 r2 h1
      refine mZ.bQ H (cv:=cv) ?_ g2
      simpa[Builtin.min_,hargs] using g1
   ·cases he
 ·cases hc
theorem TV {t:TypeId} {d:TypeDesc} {u:AV} {cx:Value} (hu:P.underlying t=some d) (hd:∀ms,d≠ .interface ms) (hx:aX φ u cx) (he:Pf t u=some v):∃cv,(Instr.makeInterface t cx).run P w= .ok cv w∧aX φ v cv:=by
 have hv:v= .ifc t u:=by
  unfold Pf at he
  split at he<;>first |(cases he;done)|(cases he;rfl)
 subst hv
 refine⟨.iface t cx, ?_, .ifc hx⟩
 unfold Instr.makeInterface
 simp only[Sem.run_bind,run_underlying hu,Result.andThen_ok]
 cases d<;>first |rfl |exact absurd rfl (hd _)
theorem Y4 {t xt:TypeId} {d:TypeDesc} {ok:Bool} {z u:AV} {cx:Value} (hu:P.underlying t=some d) (hd:∀ms,d≠ .interface ms) (hz:iV P t=some z) (hx:aX φ u cx) (he:acF t ok z u=some v):∃cv,(Instr.typeAssert cx xt t ok).run P w= .ok cv w∧aX φ v cv:=by
 obtain⟨zv,it,z1,z2,z3,z4⟩:=jS hz w
 have hzr:aX φ z zv:=oD z2
 unfold acF at he
 split at he
 ·rename_i t' a
  cases hx with
  |ifc hv=>
   rename_i cv
   cases hb:Nat.beq t' t with
   |true=>
    rw[hb,cond_true] at he
    have:=Nat.eq_of_beq_eq_true hb;subst this
    cases he
    refine⟨if ok then .tuple #[cv, .bool true] else cv, ?_, ?_⟩
    ·unfold Instr.typeAssert
     simp only[Sem.run_bind,run_underlying hu,Result.andThen_ok]
     cases d<;>first |exact absurd rfl (hd _)|(simp;done)
    ·cases ok with
     |true=>exact .tup (.cons hv (.cons (.bool _) .nil))
     |false=>exact hv
   |false=>
    rw[hb,cond_false] at he
    cases ok with
    |false=>cases he
    |true=>
     rw[cond_true] at he;cases he
     have hne:¬t'=t:=dh.1 hb
     refine⟨.tuple #[zv, .bool false], ?_, .tup (.cons hzr (.cons (.bool _) .nil))⟩
     unfold Instr.typeAssert
     simp only[Sem.run_bind,run_underlying hu,Result.andThen_ok]
     cases d<;>first |exact absurd rfl (hd _)|(simp[hne,z1];done)
 ·cases hx
  cases ok with
  |false=>cases he
  |true=>
   rw[cond_true] at he;cases he
   refine⟨.tuple #[zv, .bool false], ?_, .tup (.cons hzr (.cons (.bool _) .nil))⟩
   unfold Instr.typeAssert
   simp only[Sem.run_bind,run_underlying hu,Result.andThen_ok]
   cases d<;>first |exact absurd rfl (hd _)|(simp[z1];done)
 ·cases he
theorem uw {o:Oper} {op:fK} (hR:lM φ N ρ a.tmps) (H:bJ P B φ h w) (hc:kM P o.op=some op) (he:aN ρ h op=some (v,h')):mZ P B φ h' v w ((execOp a.eval o).run P w):=by
 obtain⟨dst,oo,type,pos,after,guard⟩:=o
 simp only at hc
 cases oo<;>simp only[kM,Option.bind_eq_bind,Option.pure_def] at hc<;>try(cases hc;done)
 case move x=>
  cases hx:aU x with
  |none=>simp[hx] at hc
  |some y=>
   simp[hx] at hc;subst hc
   simp only[aN] at he
   obtain⟨h1,rfl⟩:=jF he
   exact⟨a.eval x,w,φ, .inl (by simp[execOp]),bD hR hx h1,H,φ.le_refl,Gw.refl B w⟩
 case assign x=>
  cases hx:aU x with
  |none=>simp[hx] at hc
  |some y=>
   simp[hx] at hc;subst hc
   simp only[aN] at he
   obtain⟨h1,rfl⟩:=jF he
   exact⟨a.eval x,w,φ, .inl (by simp[execOp]),bD hR hx h1,H,φ.le_refl,Gw.refl B w⟩
 case pick c x y=>
  cases h1:aU c with
  |none=>simp[h1] at hc
  |some c'=>
   cases h2:aU x with
   |none=>simp[h1,h2] at hc
   |some x'=>
    cases h3:aU y with
    |none=>simp[h1,h2,h3] at hc
    |some y'=>
     simp[h1,h2,h3] at hc;subst hc
     simp only[aN] at he
     split at he
     ·rename_i hcv
      obtain⟨h4,rfl⟩:=jF he
      have hb:=bD hR h1 hcv
      generalize hg:a.eval c=cc at hb
      cases hb
      exact⟨a.eval x,w,φ, .inl (by simp[execOp,hg,asBool]),bD hR h2 h4,H,φ.le_refl,Gw.refl B w⟩
     ·rename_i hcv
      obtain⟨h4,rfl⟩:=jF he
      have hb:=bD hR h1 hcv
      generalize hg:a.eval c=cc at hb
      cases hb
      exact⟨a.eval y,w,φ, .inl (by simp[execOp,hg,asBool]),bD hR h3 h4,H,φ.le_refl,Gw.refl B w⟩
     ·cases he
 case alloc t=>
  cases hz:iV P t with
  |none=>simp[hz] at hc
  |some z=>
   simp only[hz,Option.some.injEq] at hc
   cases hn:nW z.cells with
   |false=>rw[hn,cond_false] at hc;subst hc;exact mZ.ofV (QK H hz rfl he)
   |true=>rw[hn,cond_true] at hc;subst hc;exact mZ.ofV (Q8 H hz rfl he)
 case box t x=>
  cases hs:sizeT P t with
  |none=>simp[hs] at hc
  |some n=>
   cases hx:aU x with
   |none=>simp[hs,hx] at hc
   |some y=>
    simp[hs,hx] at hc;subst hc
    simp only[aN] at he
    split at he
    ·rename_i u hu
     exact mZ.ofV (Tc H (bD hR hx hu) he)
    ·cases he
 case build t parts=>
  exact mZ.ofV (Pq hR H (by simpa only[kM,Option.bind_eq_bind,Option.pure_def] using hc) he)
 case buildSlice t n parts=>
  exact mZ.ofV (OB hR H (by simpa only[kM,Option.bind_eq_bind,Option.pure_def] using hc) he)
 case load t x=>
  cases hg:mO P t with
  |none=>simp[hg] at hc
  |some ag=>
   cases hs:sizeT P t with
   |none=>simp[hg,hs] at hc
   |some n=>
    cases hx:aU x with
    |none=>simp[hg,hs,hx] at hc
    |some y=>
     simp[hg,hs,hx] at hc;subst hc
     simp only[aN] at he
     obtain⟨u,h1,h2,rfl⟩:=gB he
     obtain⟨cv,g1,_,g2⟩:=Jo H (bD hR hx h1) h2 hg hs
     exact mZ.bQ H g1 g2
 case store t x y=>
  cases hs:sizeT P t with
  |none=>simp[hs] at hc
  |some n=>
   cases hx:aU x with
   |none=>simp[hs,hx] at hc
   |some p=>
    cases hy:aU y with
    |none=>simp[hs,hx,hy] at hc
    |some q=>
     simp[hs,hx,hy] at hc;subst hc
     simp only[aN] at he
     split at he
     ·rename_i u u' hu hu'
      obtain⟨h1,rfl⟩:=vo he
      exact mZ.ofU (Qf H (bD hR hx hu) (bD hR hy hu') h1 hs)
     ·cases he
 case nilCheck x=>
  cases hx:aU x with
  |none=>simp[hx] at hc
  |some y=>
   simp[hx] at hc;subst hc
   simp only[aN] at he
   obtain⟨u,h1,h2,rfl⟩:=gB he
   have hr:=bD hR hx h1
   obtain⟨rfl,k1,k2,k3,k4⟩:=Qx hr h2
   refine⟨a.eval x,w,φ, .inl ?_,hr,H,φ.le_refl,Gw.refl B w⟩
   simp only[execOp]
   generalize a.eval x=cx at *
   cases hr<;>first |rfl |exact absurd rfl k1 |exact absurd rfl k2
 case binOp bop t x y yt=>
  cases hx:aU x with
  |none=>simp[hx] at hc
  |some p=>
   cases hy:aU y with
   |none=>simp[hx,hy] at hc
   |some q=>
    rw[hx,hy] at hc
    simp only[Option.bind_some] at hc
    have bin:op= .bin bop p q→mZ P B φ h' v w ((execOp a.eval ⟨dst, .binOp bop t x y yt,type,pos,after,guard⟩).run P w):=by
     rintro rfl
     simp only[aN] at he
     obtain⟨u,u',h1,h2,h3,rfl⟩:=vE he
     have r1:=bD hR hx h1
     have r2:=bD hR hy h2
     obtain⟨cv,g1,g2,g3,g4⟩:=Tg (w:=w) (P:=P) r1 r2 h3 t
     refine mZ.bQ (s:=do eqGuard bop t x y (a.eval x) (a.eval y);binOp bop t (a.eval x) (a.eval y)) H (cv:=cv) ?_ g2
     have hgd:(eqGuard bop t x y (a.eval x) (a.eval y)).run P w= .ok () w:=by
      unfold eqGuard
      cases bop<;>simp
      all_goals
       generalize a.eval x=cx at *
       generalize a.eval y=cy at *
       cases cx<;>first |rfl |exact absurd rfl g4 |(cases cy<;>first |rfl |(rcases g3 _ _ with hh |hh<;>exact absurd rfl hh))
     simp[Sem.run_bind,hgd,g1]
    split at hc
    ·cases hc;exact bin rfl
    ·cases hc;exact bin rfl
    ·split at hc
     ·cases hk:Y8 P t x y with
      |none=>simp[hk] at hc
      |some k=>
       simp[hk] at hc;subst hc
       obtain⟨hk,hco⟩:=MO hk
       simp only[aN] at he
       split at he
       ·rename_i u u' h1 h2
        split at he
        ·rename_i r hr
         cases he
         exact mZ.bQ (s:=do eqGuard .eql t x y (a.eval x) (a.eval y);binOp .eql t (a.eval x) (a.eval y)) H (R4 (.inl ⟨rfl,rfl⟩) H hk (bD hR hx h1) (bD hR hy h2) hr x y hco) (.bool _)
        ·cases he
       ·cases he
     ·cases hk:Y8 P t x y with
      |none=>simp[hk] at hc
      |some k=>
       simp[hk] at hc;subst hc
       obtain⟨hk,hco⟩:=MO hk
       simp only[aN] at he
       split at he
       ·rename_i u u' h1 h2
        split at he
        ·rename_i r hr
         cases he
         exact mZ.bQ (s:=do eqGuard .neq t x y (a.eval x) (a.eval y);binOp .neq t (a.eval x) (a.eval y)) H (R4 (.inr ⟨rfl,rfl⟩) H hk (bD hR hx h1) (bD hR hy h2) hr x y hco) (.bool _)
        ·cases he
       ·cases he
     ·cases hc
 case unOp uop t x=>
  cases hx:aU x with
  |none=>simp[hx] at hc
  |some y=>
   rw[hx] at hc
   simp only[Option.bind_some] at hc
   split at hc
   ·cases hc
    simp only[aN] at he
    obtain⟨u,h1,h2,rfl⟩:=gB he
    obtain⟨cv,g1,g2⟩:=XR (w:=w) (P:=P) (bD hR hx h1) h2
    exact mZ.bQ H g1 g2
   ·cases hc
    simp only[aN] at he
    obtain⟨u,h1,h2,rfl⟩:=gB he
    obtain⟨cv,g1,g2⟩:=YH (w:=w) (P:=P) (bD hR hx h1) h2
    exact mZ.bQ H g1 g2
   ·cases hc
 case convert s d x=>
  cases hx:aU x with
  |none=>simp[hx] at hc
  |some y=>
   rw[hx] at hc
   simp only[Option.bind_some] at hc
   split at hc
   ·rename_i ks k hs hd
    cases hc
    simp only[aN] at he
    obtain⟨u,h1,h2,rfl⟩:=gB he
    obtain⟨cv,g1,g2⟩:=TA (w:=w) hs hd (bD hR hx h1) h2
    exact mZ.bQ H g1 g2
   ·rename_i hs hd
    cases hc
    simp only[aN] at he
    obtain⟨u,h1,h2,rfl⟩:=gB he
    unfold aei at h2
    split at h2
    ·cases h2
     have hr:=bD hR hx h1
     generalize hg:a.eval x=cx at hr
     cases hr with
     |str hs'=>
      refine mZ.bQ (s:=convert s d (a.eval x)) H (cv:=a.eval x) ?_ (by rw[hg];exact .str hs')
      rw[hg]
      simp[convert,Sem.run_bind,run_underlying hs,run_underlying hd]
    ·cases h2
   ·rename_i e hs hd
    split at hc
    ·rename_i hu
     cases hc
     simp only[aN] at he
     obtain⟨u,h1,h2,rfl⟩:=gB he
     obtain⟨cv,g1,g2⟩:=Zb H hs hd hu (bD hR hx h1) h2
     exact mZ.bQ H g1 g2
    ·cases hc
   ·rename_i t hs hd
    cases hz:aes P t with
    |false=>rw[hz,cond_false] at hc;cases hc
    |true=>
     rw[hz,cond_true] at hc;cases hc
     obtain⟨m,hm⟩:∃m,sizeT P t=some (m+1):=by
      unfold aes at hz
      split at hz
      ·rename_i m hm;exact⟨m,hm⟩
      ·cases hz
     simp only[aN] at he
     obtain⟨u,h1,h2,rfl⟩:=gB he
     obtain⟨cv,g1,g2⟩:=XZ H hs hd hm (bD hR hx h1) h2
     exact mZ.bQ H g1 g2
   ·rename_i t hs hd
    split at hc
    ·rename_i m hm
     cases hl:tX P t with
     |false=>rw[hl,cond_false] at hc;cases hc
     |true=>
      rw[hl,cond_true] at hc;cases hc
      simp only[aN] at he
      obtain⟨u,h1,h2,rfl⟩:=gB he
      obtain⟨cv,g1,g2⟩:=Yy H hs hd hm hl (fun x hx=>(List.mem_filter.1 hx).2) (bD hR hx h1) h2
      exact mZ.bQ H g1 g2
    ·cases hc
   ·cases hc
 case makeFunc fn first cap=>
  split at hc
  ·rename_i f
   cases hx:lY first.toList with
   |none=>simp[hx] at hc
   |some xs=>
    cases hy:lY cap.toList with
    |none=>simp[hx,hy] at hc
    |some ys=>
     simp[hx,hy] at hc;subst hc
     simp only[aN] at he
     split at he
     ·rename_i vs ws h1 h2
      cases he
      have r1:=tu hR hx h1
      have r2:=tu hR hy h2
      refine mZ.bQ (s:=Instr.makeFunc (.func f) (first.map a.eval) (cap.map a.eval)) H (cv:= .func (.func f) ⟨first.toList.map a.eval⟩ ⟨cap.toList.map a.eval⟩) ?_ (.func r1 r2)
      have e1:first.map a.eval=⟨first.toList.map a.eval⟩:=by apply Array.ext';simp
      have e2:cap.map a.eval=⟨cap.toList.map a.eval⟩:=by apply Array.ext';simp
      simp only[Instr.makeFunc,Sem.run_pure,e1,e2]
     ·cases he
  ·cases hc
 case makeMap t r=>
  split at hc
  ·cases hc
   simp only[aN] at he
   cases he
   have hle:=dD.le_add (φ:=φ) (id:=h.sz) (g:=0) ⟨w.heap.size,0,0,0,0⟩ (H.fresh 0)
   have hp:=H.push (o:= .map [] 0) rfl (L:=⟨w.heap.size,0,0,0,0⟩) (ob:= .map #[] 0) rfl (fun ds e=>by cases e) ⟨_, #[],dD.add_same _ _ _ _,heap_alloc_new w _, .nil⟩
   exact mZ.ofV ⟨.map (some w.heap.size),_,_,by simp[Instr.makeMap], .map (dD.add_same _ _ _ _),hp,hle,Gw.alloc H.base (fun _ _ _ e=>by cases e)⟩
  ·cases hc
 case makeSlice t l c=>
  split at hc
  ·rename_i e hu
   cases hs:sizeT P e with
   |none=>simp[hs] at hc
   |some sz=>
    cases hb:wz P e with
    |none=>simp[hs,hb] at hc
    |some bytes=>
     cases hz:iV P e with
     |none=>simp[hs,hb,hz] at hc
     |some z=>
      cases hl:aU l with
      |none=>simp[hs,hb,hz,hl] at hc
      |some l'=>
       cases hcc:aU c with
       |none=>simp[hs,hb,hz,hl,hcc] at hc
       |some c'=>
        simp[hs,hb,hz,hl,hcc] at hc;subst hc
        simp only[aN] at he
        split at he
        ·rename_i u u' h1 h2
         exact mZ.ofV (Sc H hu hs hb hz (bD hR hl h1) (bD hR hcc h2) he)
        ·cases he
  ·cases hc
 case slice t x lo hi mx=>
  split at hc
  ·rename_i mx _ _ e hu
   cases hs:sizeT P e with
   |none=>simp[hs] at hc
   |some sz=>
    cases hx:aU x with
    |none=>simp[hs,hx] at hc
    |some x'=>
     cases hl:oU lo with
     |none=>simp[hs,hx,hl] at hc
     |some l'=>
      cases hh:oU hi with
      |none=>simp[hs,hx,hl,hh] at hc
      |some h2=>
       cases hm:oU mx with
       |none=>simp[hs,hx,hl,hh,hm] at hc
       |some m'=>
        simp[hs,hx,hl,hh,hm] at hc;subst hc
        simp only[aN] at he
        obtain⟨u,g1,g2,rfl⟩:=gB he
        obtain⟨cv,k1,k2⟩:=PK hR H hu hs (bD hR hx g1) hl hh hm g2
        exact mZ.bQ H k1 k2
  ·rename_i hu
   cases hx:aU x with
   |none=>simp[hx] at hc
   |some x'=>
    cases hl:oU lo with
    |none=>simp[hx,hl] at hc
    |some l'=>
     cases hh:oU hi with
     |none=>simp[hx,hl,hh] at hc
     |some h2=>
      simp[hx,hl,hh] at hc;subst hc
      simp only[aN] at he
      obtain⟨u,g1,g2,rfl⟩:=gB he
      obtain⟨cv,k1,k2⟩:=Ox (w:=w) hR hu (bD hR hx g1) hl hh g2
      exact mZ.bQ (s:=Instr.sliceAt t (a.eval x) (lo.map a.eval) (hi.map a.eval) none) H k1 k2
  ·cases hc
 case fieldAddr s x f=>
  split at hc
  ·rename_i fs hu
   split at hc
   ·rename_i fl hf
    split at hc
    ·rename_i m hm
     cases hx:aU x with
     |none=>simp[hx] at hc
     |some x'=>
      simp[hx] at hc;subst hc
      simp only[aN] at he
      obtain⟨u,g1,g2,rfl⟩:=gB he
      obtain⟨cv,k1,k2⟩:=TL (w:=w) hu hf rfl hm (bD hR hx g1) g2
      exact mZ.bQ H k1 k2
    ·cases hc
   ·cases hc
  ·cases hc
 case field s x f=>
  split at hc
  ·rename_i fs hu
   split at hc
   ·rename_i fl hf
    cases hg:mO P fl.type with
    |none=>simp[hg] at hc
    |some ag=>
     cases hm:sizeT P fl.type with
     |none=>simp[hg,hm] at hc
     |some m=>
      cases hx:aU x with
      |none=>simp[hg,hm,hx] at hc
      |some x'=>
       simp[hg,hm,hx] at hc;subst hc
       simp only[aN] at he
       obtain⟨u,g1,g2,rfl⟩:=gB he
       obtain⟨cv,k1,k2⟩:=Yx (w:=w) hu hf rfl hg hm (bD hR hx g1) g2
       exact mZ.bQ H k1 k2
   ·cases hc
  ·cases hc
 case indexAddr t x i=>
  split at hc
  ·rename_i e hu
   cases hs:sizeT P e with
   |none=>simp[hs] at hc
   |some sz=>
    cases hx:aU x with
    |none=>simp[hs,hx] at hc
    |some x'=>
     cases hi:aU i with
     |none=>simp[hs,hx,hi] at hc
     |some i'=>
      simp[hs,hx,hi] at hc;subst hc
      simp only[aN] at he
      obtain⟨u,u',g1,g2,g3,rfl⟩:=vE he
      obtain⟨cv,k1,k2⟩:=U2 hu hs H (bD hR hx g1) (bD hR hi g2) g3
      exact mZ.bQ H k1 k2
  ·rename_i n e hu
   split at hc
   ·rename_i m hs
    cases hx:aU x with
    |none=>simp[hx] at hc
    |some x'=>
     cases hi:aU i with
     |none=>simp[hx,hi] at hc
     |some i'=>
      simp[hx,hi] at hc;subst hc
      simp only[aN] at he
      obtain⟨u,u',g1,g2,g3,rfl⟩:=vE he
      obtain⟨cv,k1,k2⟩:=RX (w:=w) hu hs (bD hR hx g1) (bD hR hi g2) g3
      exact mZ.bQ H k1 k2
   ·cases hc
  ·cases hc
 case index t x i=>
  split at hc
  ·rename_i hu
   cases hx:aU x with
   |none=>simp[hx] at hc
   |some x'=>
    cases hi:aU i with
    |none=>simp[hx,hi] at hc
    |some i'=>
     simp[hx,hi] at hc;subst hc
     simp only[aN] at he
     obtain⟨u,u',g1,g2,g3,rfl⟩:=vE he
     obtain⟨cv,k1,k2⟩:=Us (w:=w) hu (bD hR hx g1) (bD hR hi g2) g3
     exact mZ.bQ H k1 k2
  ·rename_i n e hu
   cases hg:mO P e with
   |none=>simp[hg] at hc
   |some ag=>
    cases hs:sizeT P e with
    |none=>simp[hg,hs] at hc
    |some m=>
     cases hx:aU x with
     |none=>simp[hg,hs,hx] at hc
     |some x'=>
      cases hi:aU i with
      |none=>simp[hg,hs,hx,hi] at hc
      |some i'=>
       simp[hg,hs,hx,hi] at hc;subst hc
       simp only[aN] at he
       obtain⟨u,u',g1,g2,g3,rfl⟩:=vE he
       obtain⟨cv,k1,k2⟩:=U4 (w:=w) hu hg hs (bD hR hx g1) (bD hR hi g2) g3
       exact mZ.bQ H k1 k2
  ·cases hc
 case lookup t m k ok=>
  split at hc
  ·rename_i kt e hu
   cases hk:vK P kt with
   |none=>simp[hk] at hc
   |some kk=>
    cases hz:iV P e with
    |none=>simp[hk,hz] at hc
    |some z=>
     cases hx:aU m with
     |none=>simp[hk,hz,hx] at hc
     |some x'=>
      cases hi:aU k with
      |none=>simp[hk,hz,hx,hi] at hc
      |some i'=>
       simp[hk,hz,hx,hi] at hc;subst hc
       simp only[aN] at he
       obtain⟨u,u',g1,g2,g3,rfl⟩:=vE he
       obtain⟨cv,k1,k2⟩:=Uv H hu hk hz (bD hR hx g1) (bD hR hi g2) g3
       exact mZ.bQ H k1 k2
  ·cases hc
 case mapUpdate t m k u=>
  split at hc
  ·rename_i kt e hu
   cases hk:vK P kt with
   |none=>simp[hk] at hc
   |some kk=>
    cases hx:aU m with
    |none=>simp[hk,hx] at hc
    |some x'=>
     cases hi:aU k with
     |none=>simp[hk,hx,hi] at hc
     |some i'=>
      cases hy:aU u with
      |none=>simp[hk,hx,hi,hy] at hc
      |some y'=>
       simp[hk,hx,hi,hy] at hc;subst hc
       simp only[aN] at he
       split at he
       ·rename_i a1 a2 a3 g1 g2 g3
        obtain⟨h1,rfl⟩:=vo he
        exact mZ.ofU (KC H hu hk (bD hR hx g1) (bD hR hi g2) (bD hR hy g3) h1)
       ·cases he
  ·cases hc
 case insert t m k u=>
  split at hc
  ·rename_i kt e hu
   cases hk:vK P kt with
   |none=>simp[hk] at hc
   |some kk=>
    cases hx:aU m with
    |none=>simp[hk,hx] at hc
    |some x'=>
     cases hi:aU k with
     |none=>simp[hk,hx,hi] at hc
     |some i'=>
      cases hy:aU u with
      |none=>simp[hk,hx,hi,hy] at hc
      |some y'=>
       simp[hk,hx,hi,hy] at hc;subst hc
       simp only[aN] at he
       split at he
       ·rename_i a1 a2 a3 g1 g2 g3
        obtain⟨h1,rfl⟩:=vo he
        exact mZ.ofU (KC H hu hk (bD hR hx g1) (bD hR hi g2) (bD hR hy g3) h1)
       ·cases he
  ·cases hc
 case range t x=>
  split at hc
  ·rename_i kt e hu
   cases hx:aU x with
   |none=>simp[hx] at hc
   |some x'=>
    simp[hx] at hc;subst hc
    simp only[aN] at he
    split at he
    ·rename_i u hu'
     exact mZ.ofV (Y7 H hu (bD hR hx hu') he)
    ·cases he
  ·cases hc
 case next x str=>
  split at hc
  ·cases hx:aU x with
   |none=>simp[hx] at hc
   |some x'=>
    simp[hx] at hc;subst hc
    simp[aN] at he
  ·cases hc
 case entry x=>
  cases hx:aU x with
  |none=>simp[hx] at hc
  |some x'=>
   simp[hx] at hc;subst hc
   simp only[aN] at he
   obtain⟨u,g1,g2,rfl⟩:=gB he
   obtain⟨cv,k1,k2⟩:=X5 H (bD hR hx g1) g2
   exact mZ.bQ H k1 k2
 case extract x i=>
  cases hx:aU x with
  |none=>simp[hx] at hc
  |some x'=>
   simp[hx] at hc;subst hc
   simp only[aN] at he
   obtain⟨u,g1,g2,rfl⟩:=gB he
   obtain⟨cv,k1,k2⟩:=X4 (w:=w) (P:=P) (bD hR hx g1) g2
   exact mZ.bQ H k1 k2
 case makeInterface xt x=>
  cases hu:P.underlying xt with
  |none=>simp[hu] at hc
  |some d=>
   cases hx:aU x with
   |none=>cases d<;>simp[hu,hx] at hc
   |some x'=>
    have hd:∀ms,d≠ .interface ms:=fun ms e=>by subst e;simp[hu] at hc
    have hop:op= .mkif xt x':=by cases d<;>first |exact absurd rfl (hd _)|(simp[hu,hx] at hc;exact hc.symm)
    subst hop
    simp only[aN] at he
    obtain⟨u,g1,g2,rfl⟩:=gB he
    obtain⟨cv,k1,k2⟩:=TV (w:=w) hu hd (bD hR hx g1) g2
    exact mZ.bQ H k1 k2
 case typeAssert x xt t ok=>
  cases hu:P.underlying t with
  |none=>simp[hu] at hc
  |some d=>
   cases hx:aU x with
   |none=>cases d<;>simp[hu,hx] at hc
   |some x'=>
    cases hz:iV P t with
    |none=>cases d<;>simp[hu,hx,hz] at hc
    |some z=>
     have hd:∀ms,d≠ .interface ms:=fun ms e=>by subst e;simp[hu] at hc
     have hop:op= .tas t ok z x':=by cases d<;>first |exact absurd rfl (hd _)|(simp[hu,hx,hz] at hc;exact hc.symm)
     subst hop
     simp only[aN] at he
     obtain⟨u,g1,g2,rfl⟩:=gB he
     obtain⟨cv,k1,k2⟩:=Y4 (w:=w) (xt:=xt) hu hd hz (bD hR hx g1) g2
     exact mZ.bQ H k1 k2
 case call c=>
  split at hc
  ·rename_i b hb
   have:=K5 (ty:=type) (consts:=c.args.map fun | .const _=>true |_=>false) hR H hc he
   have e:=EJ (P:=P) (w:=w) hb a.eval type
   have e2:execOp a.eval ⟨dst, .call c,type,pos,after,guard⟩=(do let d ←resolve a.eval c type;invoke d.target d.args):=rfl
   rw[e2,e]
   exact this
  ·rename_i f hf
   cases hx:aU f with
   |none=>simp[hx] at hc
   |some f'=>
    cases hy:lY c.args.toList with
    |none=>simp[hx,hy] at hc
    |some as=>
     simp[hx,hy] at hc;subst hc
     simp[aN] at he
  ·cases hc
end
end
noncomputable section
def FW (r:Option Nat):Fence:={fn:=fun _=>True,depth:=none,alive:=false,round:=r}
theorem Bw (r:Option Nat) (n:Nat):(FW r).depth.isSome=true→1≤n:=fun h=>by cases h
def Ends (P:Program) (B:Base) (φ:dD) (w:World) (K:aM) (e:Ending) (w':World):Prop:=
 (∃v h' cv φ',e= .returned cv∧K v h'=true∧aX φ' v cv∧bJ P B φ' h' w'∧φ.le φ'∧Gw B w w')∨
 ∃v h' cv φ',e= .panicked [{v:=cv,recovered:=false}]∧K (.pan v) h'=true∧aX φ' v cv∧bJ P B φ' h' w'∧φ.le φ'∧Gw B w w'
def sV (P:Program) (B:Base) (φ:dD) (w:World) (K:aM):Result Next→Prop
 | .ok (.value cv) w'=>Ends P B φ w K (.returned cv) w'
 | .ok .skip w'=>Ends P B φ w K (.returned undef) w'
 | .ok (.enter f args) w'=>∀n,CallsIn (FW none) n P f args w' (Ends P B φ w K)
 | .ok (.round l f tmps assign body) w'=>∀n,RoundIn (FW none) n P l f tmps assign body w' (Ends P B φ w K)
 | .halt (.panic cv) w'=>Ends P B φ w K (.panicked [{v:=cv,recovered:=false}]) w'
 |_=>False
def Jf (P:Program) (B:Base) (φ:dD) (w:World) (K:aM) (f:Nat) (args:List AV) (fZ:List Value):Prop:=
 ((callFunc f ⟨fZ⟩).run P w= .ok (.enter f ⟨fZ⟩) w∧∀n,CallsIn (FW none) n P f ⟨fZ⟩ w (Ends P B φ w K))∨
 ((∀v∈args,∀id,v≠ .fn (.yield id) [] [])∧sV P B φ w K ((callFunc f ⟨fZ⟩).run P w))
theorem Jf.lands {P:Program} {B:Base} {φ:dD} {w:World} {K:aM} {f:Nat} {args:List AV} {fZ:List Value} (h:Jf P B φ w K f args fZ):sV P B φ w K ((callFunc f ⟨fZ⟩).run P w):=by
 rcases h with⟨h1,h2⟩|⟨_,h⟩
 ·rw[h1];exact h2
 ·exact h
def og (P:Program) (call:bI):Prop:=
 ∀(tgt:Yc) (args:List AV) (h:aj) (K:aM),call tgt args h K=true→∀(B:Base) (φ:dD) (w:World) (fZ:List Value),bJ P B φ h w→bS φ args fZ→
  match tgt with
  | .func f=>Jf P B φ w K f args fZ
  | .yield id=>∀L,φ id 0=some L→sV P B φ w K ((Instr.yield L.blk ⟨fZ⟩).run P w)
section
variable {P:Program} {B:Base} {φ:dD} {h h':aj} {w:World} {v:AV} {N:Nat} {ρ:dx} {a:Act} {call:bI}
theorem sV.of_sim {K:aM} {r:Result Next} (hs:mZ P B φ h' v w r) (hK:K v h'=true):sV P B φ w K r:=by
 obtain⟨cv,w',φ',hr,h1,h2,h3,h4⟩:=hs
 rcases hr with rfl |⟨rfl,rfl⟩
 ·exact .inl ⟨v,h',cv,φ',rfl,hK,h1,h2,h3,h4⟩
 ·exact .inl ⟨v,h',undef,φ',rfl,hK,h1,h2,h3,h4⟩
theorem jX {op:fK} {K:aM} (hn:dH op=false):gM call ρ h op K=(match aN ρ h op with |some (v,h')=>K v h' |none=>false):=by
 cases op<;>first |rfl |cases hn
theorem Gl {o:Oper} {op:fK} {K:aM} (hcall:og P call) (hR:lM φ N ρ a.tmps) (H:bJ P B φ h w) (hc:fV P o.op=some op) (he:gM call ρ h op K=true):sV P B φ w K ((execOp a.eval o).run P w):=by
 have plain:kM P o.op=some op→dH op=false→sV P B φ w K ((execOp a.eval o).run P w):=by
  intro hr hn
  rw[jX hn] at he
  split at he
  ·rename_i v h' hv
   exact sV.of_sim (uw hR H hr hv) he
  ·cases he
 have chk:nk P o.op=some op→sV P B φ w K ((execOp a.eval o).run P w):=by
  intro hk
  unfold nk at hk
  split at hk
  ·rename_i x hx
   cases hi:dH x with
   |true=>rw[hi] at hk;cases hk
   |false=>rw[hi] at hk;cases hk;exact plain hx hi
  ·cases hk
 unfold fV at hc
 split at hc
 ·rename_i c hop
  split at hc
  ·rename_i f hf
   split at hc
   ·rename_i g as hg has
    cases hc
    simp only[gM] at he
    split at he
    ·rename_i tgt first cap vs h1 h2
     have hr1:=bD hR hg h1
     have hr2:=tu hR has h2
     have hexec:(execOp a.eval o).run P w=(do let d ←Deferred.ofValue (a.eval f) (c.args.map a.eval);invoke d.target d.args:Sem Next).run P w:=by
      simp only[execOp,hop,resolve,hf]
     rw[hexec]
     generalize a.eval f=cf at hr1
     have hargs:(c.args.map a.eval)=⟨c.args.toList.map a.eval⟩:=by apply Array.ext';simp
     cases hr1 with
     |func ha hb=>
      rename_i fid fst' cap'
      have:=hcall _ _ _ _ he B φ w _ H ((ha.append hr2).append hb)
      simp only at this
      simp only[Deferred.ofValue,Sem.run_bind,Sem.run_pure,Result.andThen_ok,invoke]
      have e:(⟨fst'⟩:Array Value)++c.args.map a.eval++⟨cap'⟩=⟨fst'++c.args.toList.map a.eval++cap'⟩:=by
       rw[hargs];apply Array.ext';simp
      rw[e]
      exact Jf.lands this
     |yield hL=>
      rename_i id L
      have:=hcall _ _ _ _ he B φ w (c.args.toList.map a.eval) H (by simpa using hr2)
      simp only at this
      simp only[Deferred.ofValue,Sem.run_bind,Sem.run_pure,Result.andThen_ok,invoke]
      have e:(#[]:Array Value)++c.args.map a.eval=⟨c.args.toList.map a.eval⟩:=by
       rw[hargs];apply Array.ext';simp
      rw[e]
      exact this L hL
    ·cases he
   ·cases hc
  ·split at hc
   ·cases hc
    simp[gM,aN] at he
   ·exact chk hc
  ·exact chk hc
 ·rename_i x hop
  split at hc
  ·rename_i y hy
   cases hc
   simp only[gM] at he
   split at he
   ·rename_i tt u hu
    have hr:=bD hR hy hu
    have hex:(execOp a.eval o).run P w= .halt (.panic (a.eval x)) w:=by
     generalize hcx:a.eval x=cx at hr
     cases hr with
     |ifc hv=>simp[execOp,hop,Instr.panic,goPanic,hcx]
    rw[hex]
    exact .inr ⟨_,_,_,φ,rfl,he,hr,H,φ.le_refl,Gw.refl B w⟩
   ·cases he
  ·cases hc
 ·split at hc
  ·split at hc
   ·cases hc
    simp[gM,aN] at he
   ·cases hc
  ·cases hc
 ·rename_i x str hop
  split at hc
  ·split at hc
   ·rename_i y hy
    cases hc
    simp only[gM] at he
    split at he
    ·rename_i u hu
     obtain⟨v,h',hK,hs⟩:=Ta (ty:=o.type) H (bD hR hy hu) he
     have:mZ P B φ h' v w ((execOp a.eval o).run P w):=by
      simp only[execOp,hop]
      exact mZ.ofV hs
     exact sV.of_sim this hK
    ·cases he
   ·cases hc
  ·cases hc
 ·exact chk hc
structure At (P:Program) (B:Base) (N:Nat) (φ:dD) (σ:St) (a:Act) (w:World):Prop where
 regs:lM φ N σ.regs a.tmps
 heap:bJ P B φ σ.h w
theorem gu {ops:Array Oper} {o:Oper} {x:aT} (hc:kT P N ops o=some x):
 x.dst=o.dst∧LZ N o.dst=true∧x.op=(fV P o.op).getD .fail∧((o.guard=none∧x.grd=none)∨∃j wt g d,o.guard=some (j,wt)∧ops[j]? =some g∧g.dst=some d∧x.grd=some (d,wt)):=by
 unfold kT at hc
 cases hd:LZ N o.dst with
 |false=>rw[hd] at hc;cases hc
 |true=>
  rw[hd,cond_true] at hc
  split at hc
  ·rename_i hg;cases hc;exact⟨rfl,rfl,rfl, .inl ⟨hg,rfl⟩⟩
  ·rename_i j wt hg
   split at hc
   ·rename_i g hgj
    split at hc
    ·rename_i d hdd
     cases hc
     exact⟨rfl,rfl,rfl, .inr ⟨j,wt,g,d,hg,hgj,hdd,rfl⟩⟩
    ·cases hc
   ·cases hc
theorem mJ {ops:Array Oper} {o:Oper} {x:aT} (hc:kT P N ops o=some x) (hR:lM φ N ρ a.tmps) {b:Bool} (hw:fC ρ x.grd=some b):Region.wanted o (yielded ops a.tmps)=b:=by
 obtain⟨_,_,_,hg⟩:=gu hc
 unfold Region.wanted
 rcases hg with⟨h1,h2⟩|⟨j,wt,g,d,h1,h2,h3,h4⟩
 ·rw[h1];rw[h2] at hw;simp[fC] at hw;subst hw;rfl
 ·rw[h1]
  rw[h4] at hw
  simp only[fC] at hw
  split at hw
  ·rename_i c hd
   cases hw
   obtain⟨cv,e1,e2⟩:=hR.2 d _ hd
   cases e2
   have:yielded ops a.tmps j=some c:=by simp[yielded,h2,h3,e1]
   simp[this]
  ·rename_i v hnb hd
   cases hw
   obtain⟨cv,e1,e2⟩:=hR.2 d _ hd
   have:yielded ops a.tmps j=none:=by
    simp only[yielded,h2,Option.bind_some,h3,e1]
    cases e2<;>first |rfl |exact absurd rfl (hnb _)
   simp[this]
  ·cases hw
theorem aa4 {o:Oper} {op:fK} (hc:fV P o.op=some op) (hd:∀f as,op≠ .dfr f as):∀c,o.op≠ .defer c:=by
 intro c e
 rw[e] at hc
 simp only[fV] at hc
 split at hc
 ·split at hc
  ·cases hc;exact hd _ _ rfl
  ·cases hc
 ·cases hc
theorem CS {ρ:dx} {op:fK} {K:aM} (he:gM call ρ h op K=true):∀f as,op≠ .dfr f as:=by
 intro f as e
 subst e
 simp[gM,aN] at he
theorem Bd {r:Option Nat} {n:Nat} {o:Oper} {op:fK} {K:aM} {next:Act→World→Prop} {Q:Exit→Act→World→Prop} (hc:fV P o.op=some op) (hnd:∀f as,op≠ .dfr f as) (hl:sV P B φ w K ((execOp a.eval o).run P w))
 (hnext:∀v h' cv φ' w',K v h'=true→aX φ' v cv→bJ P B φ' h' w'→φ.le φ'→Gw B w w'→next (a.put o.dst cv) w')
 (hpan:∀v h' cv φ' w',K (.pan v) h'=true→aX φ' v cv→bJ P B φ' h' w'→φ.le φ'→Gw B w w'→Q (.panic [{v:=cv,recovered:=false}]) a w'):o.wpIn (FW r) n P a w next Q:=by
 refine⟨fun _ _=>trivial, ?_⟩
 rw[Oper.semAt_eq _ _ _ (aa4 hc hnd)]
 generalize(execOp a.eval o).run P w=res at hl
 have fin:∀e w',Ends P B φ w K e w'→(∃cv,e= .returned cv∧next (a.put o.dst cv) w')∨∃cv,e= .panicked [{v:=cv,recovered:=false}]∧Q (.panic [{v:=cv,recovered:=false}]) a w':=by
  rintro e w' (⟨v,h',cv,φ',rfl,hK,g1,g2,g3,g4⟩|⟨v,h',cv,φ',rfl,hK,g1,g2,g3,g4⟩)
  ·exact .inl ⟨cv,rfl,hnext v h' cv φ' w' hK g1 g2 g3 g4⟩
  ·exact .inr ⟨cv,rfl,hpan v h' cv φ' w' hK g1 g2 g3 g4⟩
 cases res with
 |halt x w'=>
  cases x<;>try exact hl.elim
  case panic cv=>
   rcases fin _ _ hl with⟨cv',e,hn⟩|⟨cv',e,hn⟩
   ·cases e
   ·cases e;exact hn
 |ok nx w'=>
  cases nx<;>try exact hl.elim
  case value cv=>
   rcases fin _ _ hl with⟨cv',e,hn⟩|⟨cv',e,hn⟩
   ·cases e;exact hn
   ·cases e
  case skip=>
   rcases fin _ _ hl with⟨cv',e,hn⟩|⟨cv',e,hn⟩
   ·cases e;exact hn
   ·cases e
  case enter f args=>
   refine⟨Bw r n, ?_⟩
   refine CallsIn.mono (show CallsIn (FW r) (n-1) P f args w' (Ends P B φ w K) from hl (n-1)) ?_
   intro e w'' hee
   rcases fin _ _ hee with⟨cv',rfl,hn⟩|⟨cv',rfl,hn⟩
   ·exact hn
   ·exact hn
  case round l f tmps assign body=>
   refine⟨Bw r n, ?_⟩
   refine RoundIn.mono (show RoundIn (FW r) (n-1) P l f tmps assign body w' (Ends P B φ w K) from hl (n-1)) ?_
   intro e w'' hee
   rcases fin _ _ hee with⟨cv',rfl,hn⟩|⟨cv',rfl,hn⟩
   ·exact hn
   ·exact hn
theorem JM {φ:dD} {v:AV} {cv:Value} (h:aX φ v cv):jk v=none:=by cases h<;>rfl
theorem xZ {x:Op} {op:fK} (h:nk P x=some op):kM P x=some op:=by
 unfold nk at h
 split at h
 ·rename_i y hy
  cases hi:dH y with
  |true=>rw[hi] at h;cases h
  |false=>rw[hi] at h;cases h;exact hy
 ·cases h
theorem Ak {x:Op} {op:fK} (h:fV P x=some op) (hn:dH op=false):kM P x=some op:=by
 unfold fV at h
 repeat' split at h
 all_goals first
  |(cases h;done)
  |(cases h;cases hn;done)
  |exact xZ h
theorem OM {o:Oper} {op:fK} {v:AV} {h':aj} (hR:lM φ N ρ a.tmps) (H:bJ P B φ h w) (hc:fV P o.op=some op) (hn:dH op=false) (e:aN ρ h op=some (v,h')):jk v=none:=by
 obtain⟨cv,w',φ',_,g1,_⟩:=uw (o:=o) hR H (Ak hc hn) e
 exact JM g1
theorem Me {r:Option Nat} {n:Nat} {o:Oper} {op:fK} {K:aM} {next:Act→World→Prop} {Q:Exit→Act→World→Prop} (hcall:og P call) (hR:lM φ N ρ a.tmps) (H:bJ P B φ h w) (hc:fV P o.op=some op)
 (he:gM call ρ h op K=true) (hnext:∀v h' cv φ' w',K v h'=true→aX φ' v cv→bJ P B φ' h' w'→φ.le φ'→Gw B w w'→next (a.put o.dst cv) w')
 (hpan:dH op=true→∀v h' cv φ' w',K (.pan v) h'=true→aX φ' v cv→bJ P B φ' h' w'→φ.le φ'→Gw B w w'→Q (.panic [{v:=cv,recovered:=false}]) a w'):o.wpIn (FW r) n P a w next Q:=by
 cases hn:dH op with
 |true=>exact Bd hc (CS he) (Gl hcall hR H hc he) hnext (hpan hn)
 |false=>
  have he0:=he
  rw[jX hn] at he
  split at he
  rotate_left
  ·cases he
  rename_i v0 h0 hv
  have hv0:=OM hR H hc hn hv
  have he2:gM call ρ h op (fun v' h'=>@decide (v'=v0∧h'=h0) (Classical.propDecidable _))=true:=by
   rw[jX hn,hv];simp
  refine Bd hc (CS he0) (Gl hcall hR H hc he2) ?_ ?_
  ·intro v h' cv φ' w' hK
   have hK:=@of_decide_eq_true _ (Classical.propDecidable _) hK
   obtain⟨rfl,rfl⟩:=hK
   exact hnext _ _ cv φ' w' he
  ·intro v h' cv φ' w' hK
   have hK:=@of_decide_eq_true _ (Classical.propDecidable _) hK
   rw[←hK.1] at hv0;cases hv0
theorem qz {c:Bool} {v:AV} (h:jk v=none):pR c v=none:=by cases c<;>simp[pR,h]
theorem put_defers (a:Act) (d:Option Tmp) (v:Value):(a.put d v).defers=a.defers:=by cases d<;>rfl
theorem XM {r:Option Nat} {n:Nat} {ops:Array Oper} {i:Nat} {o:Oper} {x:aT} {σ:St} {K:KSt} {next:Act→World→Prop} {Q:Exit→Act→World→Prop} (hcall:og P call) (hi:ops[i]? =some o) (hc:kT P N ops o=some x) (A:At P B N φ σ a w)
 (hs:jM call x σ K=true) (hnext:∀v σ' a' w' φ',K v σ'=true→jk v=none→At P B N φ' σ' a' w'→a'.defers=a.defers→φ.le φ'→Gw B w w'→next a' w')
 (hpan:dH x.op=true→∀v σ' cv w' φ',K (.pan v) σ'=true→σ'.regs=σ.regs→At P B N φ' σ' a w'→aX φ' v cv→φ.le φ'→Gw B w w'→Q (.panic [{v:=cv,recovered:=false}]) a w'):wpOpIn (FW r) n P ops Q i next a w:=by
 obtain⟨h1,h2,h3,h4⟩:=gu hc
 unfold wpOpIn
 simp only[hi]
 unfold jM at hs
 split at hs
 ·rename_i hw
  rw[mJ hc A.regs hw]
  simp only[if_true]
  cases hop:fV P o.op with
  |none=>rw[hop] at h3;rw[h3] at hs;simp[gM,aN] at hs
  |some op=>
   rw[hop] at h3
   simp only[Option.getD_some] at h3
   rw[h3] at hs
   refine Me (K:=fun v h'=>K v ⟨zP σ.regs (dH x.op) x.dst v,h'⟩) hcall A.regs A.heap hop (by rw[h3];exact hs) ?_ ?_
   ·intro v h' cv φ' w' hK g1 g2 g3 g4
    have hn:=JM g1
    simp only[zP,qz hn] at hK
    exact hnext v _ _ w' φ' hK hn ⟨by simp only;rw[h1];exact(A.regs.mono g3).put h2 g1,g2⟩ (put_defers _ _ _) g3 g4
   ·intro hx v h' cv φ' w' hK g1 g2 g3 g4
    rw[←h3] at hx
    simp only[zP,hx,pR,cond_true,jk] at hK
    exact hpan hx v ⟨σ.regs,h'⟩ cv w' φ' hK rfl ⟨A.regs.mono g3,g2⟩ g1 g3 g4
 ·rename_i hw
  rw[mJ hc A.regs hw]
  simp only[Bool.false_eq_true,if_false]
  refine⟨fun _ _=>trivial,hnext _ _ _ w φ hs rfl ⟨?_,A.heap⟩ (put_defers _ _ _) φ.le_refl (Gw.refl B w)⟩
  simp only
  rw[h1]
  exact A.regs.put h2 (.tup .nil)
 ·cases hs
inductive sZ (φ:dD):CQ→Exit→Prop
 |normal:sZ φ .normal .normal
 |ret:sZ φ .ret .ret
 |exit (id:Nat):sZ φ (.exit id) (.exit id)
 |goto (l:Nat):sZ φ (.goto l) (.goto l)
 |panic {v:AV} {cv:Value} (h:aX φ v cv):sZ φ (.panic v) (.panic [{v:=cv,recovered:=false}])
theorem FJ {r:Option Nat} {n:Nat} {ops:Array Oper} {Q:Exit→Act→World→Prop} {tl:List Nat} (hcall:og P call):∀(l:List Oper) (al:List aT) (k:Nat) (σ:St) (K:oC) (φ:dD) (a:Act) (w:World),
 (∀j,j<l.length→l[j]? =ops[k+j]?)→fA P N ops l=some al→At P B N φ σ a w→nL call al σ K=true→
 (∀σ' a' w' φ',K .normal σ'=true→At P B N φ' σ' a' w'→a'.defers=a.defers→φ.le φ'→Gw B w w'→wpOpsIn (FW r) n P ops Q tl a' w')→
 (∀v cv σ' a' w' φ',K (.panic v) σ'=true→aX φ' v cv→At P B N φ' σ' a' w'→a'.defers=a.defers→φ.le φ'→Gw B w w'→Q (.panic [{v:=cv,recovered:=false}]) a' w')→
 wpOpsIn (FW r) n P ops Q (List.range' k l.length++tl) a w
 | [],al,k,σ,K,φ,a,w,hl,hc,A,hr,hQ,hP=>by
   simp[fA] at hc;subst hc
   simp only[nL] at hr
   exact hQ σ a w φ hr A rfl φ.le_refl (Gw.refl B w)
 |o :: l,al,k,σ,K,φ,a,w,hl,hc,A,hr,hQ,hP=>by
  simp only[fA] at hc
  split at hc
  ·rename_i x hx
   split at hc
   ·rename_i al' hal
    cases hc
    simp only[nL] at hr
    have hk:ops[k]? =some o:=by rw[←Nat.add_zero k, ←hl 0 (by simp)];rfl
    simp only[List.length_cons,List.range'_succ,List.cons_append]
    rw[wpOpsIn_cons]
    refine XM hcall hk hx A hr ?_ ?_
    ·intro v σ' a' w' φ' hK hn A' hd hle hg
     simp only[qz hn] at hK
     refine FJ hcall l al' (k+1) σ' K φ' a' w' (fun j hj=> ?_) hal A' hK ?_ ?_
     ·have:=hl (j+1) (by simp;omega)
      rw[show k+1+j=k+(j+1) by omega, ←this]
      rfl
     ·intro σ2 a2 w2 φ2 hK2 A2 hd2 hle2 hg2
      exact hQ σ2 a2 w2 φ2 hK2 A2 (hd2.trans hd) (dD.le_trans hle hle2) (hg.trans hg2)
     ·intro v2 cv2 σ2 a2 w2 φ2 hK2 hE A2 hd2 hle2 hg2
      exact hP v2 cv2 σ2 a2 w2 φ2 hK2 hE A2 (hd2.trans hd) (dD.le_trans hle hle2) (hg.trans hg2)
    ·intro hx v σ' cv w' φ' hK _ A' hv hle hg
     simp only[hx,pR,cond_true,jk] at hK
     exact hP v cv σ' a w' φ' hK hv A' rfl hle hg
   ·cases hc
  ·cases hc
theorem UA {r:Option Nat} {n:Nat} {ops:Array Oper} {Q:Exit→Act→World→Prop} (hcall:og P call) (l:List Oper) (al:List aT) (k:Nat) (σ:St) (K:oC) (φ:dD) (a:Act) (w:World)
 (hl:∀j,l[j]? =ops[k+j]?) (hc:fA P N ops l=some al) (A:At P B N φ σ a w) (hr:nL call al σ K=true)
 (hQ:∀ex ex' σ' a' w' φ',K ex σ'=true→sZ φ' ex ex'→At P B N φ' σ' a' w'→a'.defers=a.defers→φ.le φ'→Gw B w w'→Q ex' a' w'):wpOpsIn (FW r) n P ops Q (List.range' k l.length) a w:=by
 have:=FJ (r:=r) (n:=n) (Q:=Q) (tl:=[]) hcall l al k σ K φ a w (fun j _=>hl j) hc A hr (fun σ' a' w' φ' k1 k2 k3 k4 k5=>hQ .normal _ σ' a' w' φ' k1 .normal k2 k3 k4 k5) (fun v cv σ' a' w' φ' k1 k2 k3 k4 k5 k6=>hQ (.panic v) _ σ' a' w' φ' k1 (.panic k2) k3 k4 k5 k6)
 rwa [List.append_nil] at this
theorem Yk {r:Option Nat} {n id:Nat} {ops:Array Oper} {al:List aT} {Q:Exit→Act→World→Prop} {σ:St} {K:oC} (hcall:og P call) (hc:fA P N ops ops.toList=some al) (A:At P B N φ σ a w) (hr:nL call al σ K=true)
 (hQ:∀ex ex' σ' a' w' φ',K ex σ'=true→sZ φ' ex ex'→At P B N φ' σ' a' w'→a'.defers=a.defers→φ.le φ'→Gw B w w'→Q ex' a' w'):(Code.region id ops false).wpIn (FW r) n P Q a w:=by
 refine wpIn_region ?_
 have:=UA (r:=r) (n:=n) (Q:=Q) hcall ops.toList al 0 σ K φ a w (fun j=>by simp) hc A hr hQ
 rw[Array.length_toList, ←List.range_eq_range'] at this
 exact this
end
end
noncomputable section
def fD (ρ ρ':dx) (l:List Nat):Prop:=∀t∈l,ρ.get t=ρ'.get t
section
variable {ρ ρ':dx} {h h':aj} {v:AV}
theorem fD.left {l m:List Nat} (k:fD ρ ρ' (l++m)):fD ρ ρ' l:=fun t ht=>k t (List.mem_append_left _ ht)
theorem fD.right {l m:List Nat} (k:fD ρ ρ' (l++m)):fD ρ ρ' m:=fun t ht=>k t (List.mem_append_right _ ht)
theorem aR {x:bW} (k:fD ρ ρ' (F8 x)):ev ρ x=ev ρ' x:=by
 cases x with
 |t r=>exact k r (by simp[F8])
 |c v=>rfl
theorem uU:∀{l:List bW},fD ρ ρ' (Qn l)→evs ρ l=evs ρ' l
 | [],_=>rfl
 |x :: l,k=>by
  simp only[Qn] at k
  simp only[evs,aR k.left,uU k.right]
theorem qY {d:Nat} {x:Option bW} (k:fD ρ ρ' (Ls x)):nP ρ d x=nP ρ' d x:=by
 cases x with
 |none=>rfl
 |some x=>simp only[nP,aR (show fD ρ ρ' (F8 x) from k)]
theorem GH:∀{l:List (Nat×Nat×bW)} {c:List AV},fD ρ ρ' (tsP l)→xB ρ c l=xB ρ' c l
 | [],_,_=>rfl
 |(a,b,x) :: l,c,k=>by
  simp only[tsP] at k
  simp only[xB,aR k.left]
  split
  ·rw[GH k.right]
  ·rfl
theorem Ac {sz:Nat}:∀{l:List (Nat×bW)} {c:List (List AV)},fD ρ ρ' (tsQ l)→lI ρ sz c l=lI ρ' sz c l
 | [],_,_=>rfl
 |(a,x) :: l,c,k=>by
  simp only[tsQ] at k
  simp only[lI,aR k.left]
  split
  ·rw[Ac k.right]
  ·rfl
theorem mY {op:fK} (k:fD ρ ρ' (tsA op)):aN ρ h op=aN ρ' h op:=by
 cases op<;>simp only[tsA] at k<;>simp only[aN,tQ,Ze]
 case mv=>rw[aR k]
 case pick=>rw[aR k.left.left,aR k.left.right,aR k.right]
 case box=>rw[aR k]
 case build=>rw[GH k]
 case bslice=>rw[Ac k]
 case load=>rw[aR k]
 case store=>rw[aR k.left,aR k.right]
 case nilck=>rw[aR k]
 case bin=>rw[aR k.left,aR k.right]
 case eq=>rw[aR k.left,aR k.right]
 case not=>rw[aR k]
 case neg=>rw[aR k]
 case conv=>rw[aR k]
 case b2s=>rw[aR k]
 case cvs=>rw[aR k]
 case mkfn=>rw[uU k.left,uU k.right]
 case mksl=>rw[aR k.left,aR k.right]
 case sl sz x lo hi mx=>
  have k4:=k.right
  have e:∀v,yu ρ h sz v lo hi mx=yu ρ' h sz v lo hi mx:=by
   intro v
   simp only[yu,qY k.left.left.right,qY k.left.right]
   cases mx with
   |none=>rfl
   |some m=>simp only[qY k4]
  simp only[aR k.left.left.left,e]
 case sls=>simp only[Kq,aR k.left.left,qY k.left.right,qY k.right]
 case fadr=>rw[aR k]
 case fld=>rw[aR k]
 case iadr=>rw[aR k.left,aR k.right]
 case iadra=>rw[aR k.left,aR k.right]
 case idxs=>rw[aR k.left,aR k.right]
 case idxa=>rw[aR k.left,aR k.right]
 case look=>rw[aR k.left,aR k.right]
 case stw=>rw[aR k.left.left,aR k.left.right,aR k.right]
 case mupd=>rw[aR k.left.left,aR k.left.right,aR k.right]
 case ext=>rw[aR k]
 case len=>rw[aR k]
 case cap=>rw[aR k]
 case app=>rw[aR k.left,aR k.right]
 case appz=>rw[aR k.left,aR k.right]
 case copy=>rw[aR k.left,aR k.right]
 case del=>rw[aR k.left,aR k.right]
 case clr=>rw[aR k]
 case mm=>rw[uU k]
 case appb=>rw[aR k.left,aR k.right]
 case ustr=>rw[aR k.left,aR k.right]
 case uto=>rw[aR k]
 case ufr=>rw[aR k]
 case sdat=>rw[aR k]
 case rng=>rw[aR k]
 case ent=>rw[aR k]
 case mkif=>rw[aR k]
 case tas=>rw[aR k]
theorem Qg {call:bI} {op:fK} {K:aM} (k:fD ρ ρ' (tsA op)):gM call ρ h op K=gM call ρ' h op K:=by
 cases hn:dH op with
 |false=>rw[jX hn,jX hn,mY k]
 |true=>
  cases op<;>first |(cases hn;done)|skip
  case nxt x=>simp only[gM,aR (show fD ρ ρ' (F8 x) from k)]
  case call f l=>
   simp only[tsA] at k
   simp only[gM,aR k.left,uU k.right]
  case pnc x=>simp only[gM,aR (show fD ρ ρ' (F8 x) from k)]
  case dfr f l=>rfl
  case rcv=>rfl
theorem Na {g:Option (Nat×Bool)} {op:fK} {d:Option Nat} (k:fD ρ ρ' (looks ⟨d,op,g⟩)):fC ρ g=fC ρ' g:=by
 cases g with
 |none=>rfl
 |some p=>
  obtain⟨j,b⟩:=p
  simp only[fC,k j (by simp[looks])]
theorem sK {o:aT} (k:fD ρ ρ' (looks o)):fD ρ ρ' (tsA o.op):=by
 intro t ht
 refine k t ?_
 unfold looks
 split
 ·exact List.mem_cons_of_mem _ ht
 ·exact ht
theorem vC {o:aT} (k:fD ρ ρ' (looks o)):fC ρ o.grd=fC ρ' o.grd:=by
 obtain⟨d,op,g⟩:=o
 exact Na k
theorem FV {op:fK} (hc:jc op<2) (he:aN ρ h op=some (v,h')):h'=h:=by
 cases op<;>first |(simp[jc] at hc;done)|skip
 all_goals simp only[aN] at he
 all_goals first |(exact(jF he).2)|(cases he;done)|skip
 case pick=>
  split at he
  ·exact(jF he).2
  ·exact(jF he).2
  ·cases he
 case build=>
  split at he
  ·cases he;rfl
  ·cases he
 case eq=>
  split at he
  ·split at he
   ·cases he;rfl
   ·cases he
  ·cases he
 case mkfn=>
  split at he
  ·cases he;rfl
  ·cases he
 case mm=>
  split at he
  ·exact(jF he).2
  ·cases he
theorem BX {r:Option AV} {g:aj} (he:bQ r h=some (v,h')):bQ r g=some (v,g):=by
 rw[(jF he).1];rfl
theorem Rh {op:fK} {g:aj} (hc:jc op=0) (he:aN ρ h op=some (v,h')):aN ρ g op=some (v,g):=by
 cases op<;>first |(simp[jc] at hc;done)|skip
 all_goals simp only[aN] at he ⊢
 all_goals first |(exact BX he)|(cases he;done)|skip
 case pick=>
  split at he
  ·exact BX he
  ·exact BX he
  ·cases he
 case build=>
  split at he
  ·cases he;rfl
  ·cases he
 case mkfn=>
  split at he
  ·cases he;rfl
  ·cases he
 case mm=>
  split at he
  ·exact BX he
  ·cases he
theorem acB {a b:IntKind} (k:Nat.beq (mH a) (mH b)=true):a=b:=by
 cases a<;>cases b<;>first |rfl |(exact absurd k (by decide))
theorem Yp {f g:Yc} (k:Sk f g=true):f=g:=by
 cases f<;>cases g<;>simp only[Sk] at k<;>first |(cases k;done)|rw[Nat.eq_of_beq_eq_true k]
mutual
theorem same_eq (a b:AV) (k:AV.same a b=true):a=b:=by
 cases a<;>cases b<;>simp only[AV.same,Bool.and_eq_true] at k<;>try(cases k;done)
 case bool.bool=>rw[eq_of_beq k]
 case int.int=>rw[acB k.1,eq_of_beq ((wT _ _).symm.trans k.2)]
 case str.str=>rw[eq_of_beq ((G5 _ _).symm.trans k)]
 case ptr.ptr=>rw[Nat.eq_of_beq_eq_true k.1.1.1,Nat.eq_of_beq_eq_true k.1.1.2,Nat.eq_of_beq_eq_true k.1.2,Nat.eq_of_beq_eq_true k.2]
 case nilPtr.nilPtr=>rfl
 case slc.slc=>rw[Nat.eq_of_beq_eq_true k.1.1.1.1.1,Nat.eq_of_beq_eq_true k.1.1.1.1.2,Nat.eq_of_beq_eq_true k.1.1.1.2,Nat.eq_of_beq_eq_true k.1.1.2,Nat.eq_of_beq_eq_true k.1.2,eq_of_beq k.2]
 case ah.ah=>rfl
 case emp.emp=>rfl
 case map.map=>rw[Nat.eq_of_beq_eq_true k]
 case kC.kC=>rfl
 case fn.fn f l m f' l' m'=>
  rw[Yp k.1.1,vR _ _ k.1.2,vR _ _ k.2]
 case nilFn.nilFn=>rfl
 case agg.agg=>rw[vR _ _ k]
 case tup.tup=>rw[vR _ _ k]
 case iX.iX=>rfl
 case ifc.ifc=>rw[Nat.eq_of_beq_eq_true k.1,same_eq _ _ k.2]
 termination_by SizeOf.sizeOf a
theorem vR (a b:List AV) (k:xg a b=true):a=b:=by
 cases a<;>cases b<;>simp only[xg,Bool.and_eq_true] at k<;>try(cases k;done)
 case nil.nil=>rfl
 case cons.cons=>rw[same_eq _ _ k.1,vR _ _ k.2]
 termination_by SizeOf.sizeOf a
end
theorem jm {n:Nat}:∀{l:List Nat},jQ n l=true↔n∈l
 | []=>by simp[jQ]
 |m :: l=>by
  simp only[jQ,List.mem_cons]
  cases hb:Nat.beq n m with
  |true=>simp[Nat.eq_of_beq_eq_true hb]
  |false=>
   have:n≠m:=dh.1 hb
   simp[this,jm]
theorem fQ {p:Nat→Bool}:∀{l:List Nat},kY l p=true↔∀i∈l,p i=true
 | []=>by simp[kY]
 |m :: l=>by
  simp only[kY]
  cases hb:p m with
  |true=>simp[hb,fQ]
  |false=>simp[hb]
theorem vI {l m:List Nat}:jT l m=true↔∀i∈l,i ∉ m:=by
 unfold jT
 rw[fQ]
 constructor
 ·intro k i hi hm
  have:=k i hi
  rw[jm.2 hm] at this
  cases this
 ·intro k i hi
  cases hb:jQ i m with
  |false=>rfl
  |true=>exact absurd (jm.1 hb) (k i hi)
def restrict (ρ:dx):List Nat→dx
 | []=> .lf
 |t :: l=>match ρ.get t with
  |some v=>(restrict ρ l).set t v
  |none=>restrict ρ l
theorem rV {ρ:dx} {t:Nat}:∀{l:List Nat},(restrict ρ l).get t=if t∈l then ρ.get t else none
 | []=>by simp[restrict,PT.get_lf]
 |u :: l=>by
  unfold restrict
  split
  ·rename_i v hv
   rw[PT.get_set]
   by_cases e:t=u
   ·subst e;simp[hv]
   ·rw[if_neg e,rV];simp[e]
  ·rename_i hv
   rw[rV]
   by_cases e:t=u
   ·subst e;simp[hv]
   ·simp[e]
theorem pJ {ρ:dx} {l:List Nat}:fD (restrict ρ l) ρ l:=fun t ht=>by rw[rV,if_pos ht]
theorem cO {d:Option Nat} {t:Nat} (hd:d≠some t):(put ρ d v).get t=ρ.get t:=by
 cases d with
 |none=>rfl
 |some d=>simp only[put];rw[PT.get_set,if_neg (fun e=>hd (by rw[e]))]
theorem iP {d:Nat}:(put ρ (some d) v).get d=some v:=by simp only[put];rw[PT.get_set,if_pos rfl]
theorem qQ {o:aT} {d:Nat}:d∈kR o↔o.dst=some d:=by
 unfold kR
 split
 ·rename_i e he;simp[he,eq_comm]
 ·rename_i he;simp[he]
end
end
noncomputable section
section
variable {P:Program} {B:Base} {φ:dD} {h h':aj} {w:World} {v:AV} {N:Nat} {ρ:dx} {a:Act}
theorem FE {o:Oper} (he:nJ o=true):o.guard=none∧((∃t,o.op= .alloc t)∨(∃t x,o.op= .box t x)∨(∃t,o.op= .makeMap t none)∨(∃t l c,o.op= .makeSlice t l c)∨∃t n ps,o.op= .buildSlice t n ps):=by
 unfold nJ at he
 split at he
 ·cases he
 ·rename_i hg
  refine⟨hg, ?_⟩
  split at he
  ·rename_i t ho;exact .inl ⟨t,ho⟩
  ·rename_i t x ho;exact .inr (.inl ⟨t,x,ho⟩)
  ·rename_i t l c ho;exact .inr (.inr (.inr (.inl ⟨t,l,c,ho⟩)))
  ·rename_i t n ps ho;exact .inr (.inr (.inr (.inr ⟨t,n,ps,ho⟩)))
  ·rename_i t ho;exact .inr (.inr (.inl ⟨t,ho⟩))
  ·cases he
theorem qy {o:Oper} {op:fK} (hc:fV P o.op=some op) (he:nJ o=true):
 (∃t z,o.op= .alloc t∧iV P t=some z∧op=bif nW z.cells then .allot t z.cells else .alloc z.cells)∨
 (∃t x n y,o.op= .box t x∧sizeT P t=some n∧aU x=some y∧op= .box (Ku P t) n y)∨
 (∃t,o.op= .makeMap t none∧op= .mkmap)∨
 (∃t l c e sz bytes z x y,o.op= .makeSlice t l c∧P.underlying t=some (.slice e)∧sizeT P e=some sz∧wz P e=some bytes∧iV P e=some z∧aU l=some x∧aU c=some y∧op= .mksl sz bytes z.cells x y)∨
 ∃t n ps m sz z qs,o.op= .buildSlice t n ps∧kM P (.buildSlice t n ps)=some op∧op= .bslice m sz z qs:=by
 obtain⟨_,⟨t,ho⟩|⟨t,x,ho⟩|⟨t,ho⟩|⟨t,l,c,ho⟩|⟨t,n,ps,ho⟩⟩:=FE he
 all_goals
  rw[ho] at hc
  simp only[fV] at hc
  have hr:=xZ hc
  have hr0:=hr
  simp only[kM] at hr
 ·cases hz:iV P t with
  |none=>rw[hz] at hr;cases hr
  |some z=>rw[hz] at hr;cases hr;exact .inl ⟨t,z,ho,hz,rfl⟩
 ·cases hs:sizeT P t with
  |none=>simp[hs] at hr
  |some n=>
   cases hx:aU x with
   |none=>simp[hs,hx] at hr
   |some y=>simp[hs,hx] at hr;exact .inr (.inl ⟨t,x,n,y,ho,hs,hx,hr.symm⟩)
 ·cases hr;exact .inr (.inr (.inl ⟨t,ho,rfl⟩))
 ·split at hr
  ·rename_i e hu
   cases hs:sizeT P e with
   |none=>simp[hs] at hr
   |some sz=>
    cases hb:wz P e with
    |none=>simp[hs,hb] at hr
    |some bytes=>
     cases hz:iV P e with
     |none=>simp[hs,hb,hz] at hr
     |some z=>
      cases hl:aU l with
      |none=>simp[hs,hb,hz,hl] at hr
      |some l'=>
       cases hcc:aU c with
       |none=>simp[hs,hb,hz,hl,hcc] at hr
       |some c'=>
        simp[hs,hb,hz,hl,hcc] at hr
        exact .inr (.inr (.inr (.inl ⟨t,l,c,e,sz,bytes,z,l',c',ho,hu,hs,hb,hz,hl,hcc,hr.symm⟩)))
  ·cases hr
 ·split at hr
  ·rename_i e hu
   cases hs:sizeT P e with
   |none=>simp[hs] at hr
   |some sz=>
    cases hz:iV P e with
    |none=>simp[hs,hz] at hr
    |some z=>
     cases hps:uq ps.toList with
     |none=>simp[hs,hz,hps] at hr
     |some ap=>
      simp[hs,hz,hps] at hr
      exact .inr (.inr (.inr (.inr ⟨t,n,ps,n,sz,z.cells,ap,ho,hr0,hr.symm⟩)))
  ·cases hr
theorem Uy {o:Oper} {op:fK} (hc:fV P o.op=some op) (he:nJ o=true) (hv:aN ρ h op=some (v,h')):dH op=false∧∃ob,h'=h.push ob∧ob.own=true:=by
 rcases qy hc he with⟨t,z,_,hz,rfl⟩|⟨t,x,n,y,_,_,_,rfl⟩|⟨t,_,rfl⟩|⟨t,l,c,e,sz,bytes,z,x,y,_,_,_,_,_,_,_,rfl⟩|⟨t,m,ps,n,sz,z,qs,_,_,rfl⟩
 ·cases hn:nW z.cells with
  |true=>
   rw[hn,cond_true] at hv;rw[cond_true]
   simp only[aN] at hv
   cases hb:(Nat.blt 0 z.cells.length&&aD z.cells) with
   |false=>rw[hb] at hv;cases hv
   |true=>rw[hb,cond_true] at hv;cases hv;exact⟨rfl,_,rfl,rfl⟩
  |false=>
   rw[hn,cond_false] at hv;rw[cond_false]
   simp only[aN] at hv
   obtain⟨_,ob,h1,h2⟩:=xX hv
   exact⟨rfl,ob,h1,by rcases h2 with⟨_,rfl⟩|⟨_,rfl⟩<;>rfl⟩
 ·simp only[aN] at hv
  split at hv
  ·rename_i u hu
   unfold nK at hv
   cases hb:(Nat.beq u.cells.length n&&aD u.cells&&Nat.blt 0 n) with
   |false=>rw[hb] at hv;cases hv
   |true=>rw[hb,cond_true] at hv;cases hv;exact⟨rfl,_,rfl,rfl⟩
  ·cases hv
 ·simp only[aN] at hv
  cases hv;exact⟨rfl,_,rfl,rfl⟩
 ·simp only[aN] at hv
  split at hv
  ·obtain⟨ob,h1,h2⟩:=Hr hv
   exact⟨rfl,ob,h1,h2⟩
  ·cases hv
 ·simp only[aN] at hv
  cases hb:(Nat.beq z.length sz&&Nat.blt 0 sz&&Nat.ble (n*sz) 16777216&&aD z) with
  |false=>rw[hb] at hv;cases hv
  |true=>
   rw[hb,cond_true] at hv
   split at hv
   ·cases hv;exact⟨rfl,_,rfl,rfl⟩
   ·cases hv
theorem UJ {o:Oper} {op:fK} {hp:aj} {ob:fG} (hR:lM φ N ρ a.tmps) (H:bJ P B φ h w) (hc:fV P o.op=some op) (he:nJ o=true) (hv:aN ρ hp op=some (v,hp.push ob)) (hg:B.gh hp.sz=some ob):
 mZ P (B.del hp.sz) φ h v w ((execOp a.eval o).run P w):=by
 rcases qy hc he with⟨t,z,ho,hz,rfl⟩|⟨t,x,n,y,ho,hs,hx,rfl⟩|⟨t,ho,rfl⟩|⟨t,l,c,e,sz,bytes,z,x,y,ho,hu,hs,hb,hz,hl,hcc,rfl⟩|⟨t,m,ps,n,sz,z,qs,ho,hraw,rfl⟩
 ·cases hn:nW z.cells with
  |true=>
   rw[hn,cond_true] at hv
   simp only[aN] at hv
   cases hb:(Nat.blt 0 z.cells.length&&aD z.cells) with
   |false=>rw[hb] at hv;cases hv
   |true=>
    rw[hb,cond_true] at hv
    simp only[Option.some.injEq,Prod.mk.injEq] at hv
    obtain⟨rfl,e⟩:=hv
    have hob:=push_inj e
    subst hob
    simp only[execOp,ho]
    exact mZ.ofV (Uj H hz rfl hb hg)
  |false=>
   rw[hn,cond_false] at hv
   simp only[aN] at hv
   simp only[execOp,ho]
   exact mZ.ofV (Gs H hz rfl hv hg)
 ·simp only[aN] at hv
  split at hv
  ·rename_i u hu
   unfold nK at hv
   cases hb:(Nat.beq u.cells.length n&&aD u.cells&&Nat.blt 0 n) with
   |false=>rw[hb] at hv;cases hv
   |true=>
    rw[hb,cond_true] at hv
    simp only[Option.some.injEq,Prod.mk.injEq] at hv
    obtain⟨rfl,e⟩:=hv
    have hob:=push_inj e
    subst hob
    simp only[execOp,ho]
    exact mZ.ofV (Yi H (bD hR hx hu) hb hg)
  ·cases hv
 ·simp only[aN] at hv
  simp only[Option.some.injEq,Prod.mk.injEq] at hv
  obtain⟨rfl,e⟩:=hv
  have hob:=push_inj e
  subst hob
  have hle:=dD.le_add (φ:=φ) (id:=hp.sz) (g:=0) ⟨w.heap.size,0,0,0,0⟩ ((H.ghost _ _ hg).2.2.1 0)
  have hp':=H.fill hg rfl (L:=⟨w.heap.size,0,0,0,0⟩) (ob:= .map #[] 0) rfl (fun ds e=>by cases e) ⟨_, #[],dD.add_same _ _ _ _,heap_alloc_new w _, .nil⟩
  simp only[execOp,ho]
  exact mZ.ofV ⟨.map (some w.heap.size),_,_,by simp[Instr.makeMap], .map (dD.add_same _ _ _ _),hp',hle,Gw.alloc H.base (fun _ _ _ e=>by cases e)⟩
 ·simp only[aN] at hv
  split at hv
  ·rename_i u u' h1 h2
   simp only[execOp,ho]
   exact mZ.ofV (Mi H hu hs hb hz (bD hR hl h1) (bD hR hcc h2) hv hg)
  ·cases hv
 ·simp only[execOp,ho]
  exact mZ.ofV (PY hR H hraw hv hg)
theorem bJ.fade {id:Nat} {o:fG} (H:bJ P B φ h w) (ho:h.get id=some o) (hown:o.own=true):bJ P (B.del id) φ (h.put id .gone) w:=by
 have hlt:id<h.sz:=by
  rcases Nat.lt_or_ge id h.sz with h1 |h1
  ·exact h1
  ·rw[H.gone id h1] at ho;cases ho
 refine⟨H.base,H.dom,fun a ha=> ?_,fun a ob hg hb=> ?_,H.lt,fun a ob g L hg hL=> ?_,fun a ob a' g g' L L' hg hob hL hL' hblk=> ?_,H.nodef,fun a ob hb=> ?_⟩
 ·rw[aj.get_put]
  have hne:a≠id:=fun e=>by subst e;exact absurd hlt (Nat.not_lt.2 ha)
  rw[if_neg hne];exact H.gone a ha
 ·rw[aj.get_put] at hg
  by_cases e:a=id
  ·rw[if_pos e] at hg;cases hg;trivial
  ·rw[if_neg e] at hg
   rw[Base.del_other _ e] at hb
   exact H.objn a ob hg hb
 ·rw[aj.get_put] at hg
  by_cases e:a=id
  ·rw[if_pos e] at hg;cases hg
   subst e
   exact⟨fun _=>(H.own a o g L ho hL).1 hown,fun e=>by cases e⟩
  ·rw[if_neg e] at hg
   exact H.own a ob g L hg hL
 ·rw[aj.get_put] at hg
  by_cases e:a=id
  ·subst e
   exact H.disj a o a' g g' L L' ho hown hL hL' hblk
  ·rw[if_neg e] at hg
   exact H.disj a ob a' g g' L L' hg hob hL hL' hblk
 ·by_cases e:a=id
  ·subst e;rw[Base.del_same] at hb;cases hb
  ·rw[Base.del_other _ e] at hb
   obtain⟨h1,h2,h3⟩:=H.ghost a ob hb
   exact⟨fun u hu=>by rw[aj.get_put,if_neg e] at hu;exact h1 u hu,h2,h3⟩
theorem bJ.nX:∀{es:List Nat} {B:Base} {h h':aj},bJ P B φ h w→nX es h=some h'→∃B':Base,B'.n=B.n∧(∀id,B'.gh id=if id∈es then none else B.gh id)∧bJ P B' φ h' w
 | [],B,h,h',H,e=>by cases e;exact⟨B,rfl,fun id=>by simp,H⟩
 |id :: l,B,h,h',H,e=>by
  simp only[Go.Ab.nX] at e
  split at e
  ·rename_i o ho
   cases hb:o.own with
   |false=>rw[hb] at e;cases e
   |true=>
    rw[hb,cond_true] at e
    obtain⟨B',h1,h2,h3⟩:=bJ.nX (H.fade ho hb) e
    refine⟨B',h1,fun a=> ?_,h3⟩
    rw[h2 a]
    by_cases hl:a∈l
    ·rw[if_pos hl,if_pos (List.mem_cons_of_mem _ hl)]
    ·rw[if_neg hl]
     by_cases e':a=id
     ·subst e';rw[Base.del_same,if_pos List.mem_cons_self]
     ·rw[Base.del_other _ e',if_neg]
      intro hm
      rcases List.mem_cons.1 hm with h |h
      ·exact e' h
      ·exact hl h
  ·cases e
theorem aj.put_comm {id jd:Nat} (o u:fG) (hne:id≠jd):(h.put jd u).put id o=(h.put id o).put jd u:=by
 simp only[aj.put,aj.mk.injEq,true_and]
 exact PT.set_comm _ _ _ hne
def Ao (h:aj) (id:Nat):Option fG→aj
 |some o=>h.put id o
 |none=>h
theorem MW {id jd:Nat} (o u:Option fG) (hne:id≠jd):Ao (Ao h jd u) id o=Ao (Ao h id o) jd u:=by
 cases o<;>cases u<;>first |rfl |exact aj.put_comm _ _ hne
theorem Cb {id jd:Nat} (o:Option fG) (hne:jd≠id):(Ao h id o).row jd=h.row jd:=by
 cases o with
 |none=>rfl
 |some o=>simp only[Ao,aj.row];rw[aj.get_put,if_neg hne]
theorem MQ {n id g i o:Nat} {u:AV} (he:cZ h n (.ptr id g i o) u=some h'):∃ob:Option fG,h'=Ao h id ob∧(∀hh:aj,hh.row id=h.row id→cZ hh n (.ptr id g i o) u=some (Ao hh id ob))∧∀b,ob=some b→∃r r',h.row id=some r∧b= .row r'∧r'.sz=r.sz:=by
 simp only[cZ] at he
 cases hr:h.row id with
 |none=>
  rw[hr] at he
  simp only at he
  cases hb:(Nat.beq n 0&&Nat.beq u.cells.length 0) with
  |false=>rw[hb] at he;cases he
  |true=>
   rw[hb,cond_true] at he;cases he
   exact⟨none,rfl,fun hh e=>by simp only[cZ,e,hb,cond_true,Ao],fun b e=>by cases e⟩
 |some r=>
  rw[hr] at he
  simp only at he
  cases hb:(r.rw&&Nat.beq g r.g&&Nat.beq u.cells.length n&&aD u.cells) with
  |false=>rw[hb] at he;cases he
  |true=>
   rw[hb,cond_true] at he
   cases hn:nth r.es i with
   |none=>rw[hn] at he;cases he
   |some e=>
    rw[hn] at he
    simp only at he
    cases hl:Nat.ble (o+n) e.length with
    |false=>rw[hl] at he;cases he
    |true=>
     rw[hl,cond_true] at he;cases he
     exact⟨some _,rfl,fun hh e'=>by simp only[cZ,e',hb,cond_true,hn,hl,Ao],fun b e=>by cases e;exact⟨r,_,rfl,rfl,rfl⟩⟩
theorem SX {x y:AV} (k:rF x y=true):∃a b c d a' b' c' d',x= .ptr a b c d∧y= .ptr a' b' c' d'∧a≠a':=by
 unfold rF at k
 split at k
 ·rename_i i a b c j d e f
  refine⟨i,a,b,c,j,d,e,f,rfl,rfl,fun hij=> ?_⟩
  subst hij
  simp[aF.2] at k
 ·cases k
theorem Sy {n m:Nat} {a u b t:AV} {h1 h2:aj} (hab:rF a b=true) (e1:cZ h n a u=some h1) (e2:cZ h1 m b t=some h2):∃h3,cZ h m b t=some h3∧cZ h3 n a u=some h2∧∀id sz,qd h3 id sz=qd h2 id sz:=by
 obtain⟨a1,a2,a3,a4,b1,b2,b3,b4,rfl,rfl,hne⟩:=SX hab
 obtain⟨o1,rfl,f1,g1⟩:=MQ e1
 obtain⟨o2,rfl,f2,g2⟩:=MQ e2
 refine⟨Ao h b1 o2,f2 h (Cb o1 hne.symm).symm, ?_,fun id sz=> ?_⟩
 ·rw[f1 _ (Cb o2 hne),MW o1 o2 hne]
 ·rw[←MW o1 o2 hne]
  by_cases e:id=a1
  ·subst e
   cases o1 with
   |none=>rfl
   |some ob=>
    obtain⟨r,r',k1,rfl,k3⟩:=g1 ob rfl
    have l1:(Ao h b1 o2).row id=some r:=by rw[Cb o2 hne];exact k1
    have l2:(Ao (Ao h b1 o2) id (some (.row r'))).row id=some r':=by
     simp only[Ao,aj.row];rw[aj.get_put,if_pos rfl]
    simp only[qd,l1,l2,k3]
  ·simp only[qd,Cb o1 e]
theorem KH {as:List aT} {g:aj} (hs:∀id sz,qd h id sz=qd g id sz):∀{l:List Nat},kY l (fun i=>Dk (ao as i))=true→again ρ h (l.map (ao as))=again ρ g (l.map (ao as))
 | [],_=>rfl
 |i :: l,k=>by
  simp only[kY] at k
  cases hb:Dk (ao as i) with
  |false=>rw[hb] at k;cases k
  |true=>
   rw[hb,cond_true] at k
   simp only[List.map_cons,again]
   rw[KH hs k]
   have:mF ρ h (ao as i)=mF ρ g (ao as i):=by
    unfold Dk at hb
    split at hb
    ·rename_i sz x y hg ho
     unfold mF
     rw[hg,ho]
     simp only[fC,aN,Ze]
     have:∀p q,qj h sz p q=qj g sz p q:=by
      intro p q
      unfold qj
      split
      ·simp only[hs]
      ·rfl
     cases ev ρ x with
     |none=>rfl
     |some p=>
      cases ev ρ y with
      |none=>rfl
      |some q=>
       simp only[this]
       cases qj g sz p q<;>rfl
    ·cases hb
   rw[this]
end
end
end Go.Ab
