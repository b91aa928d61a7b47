/-
  Texts that the claim hangs on, part 2.
-/
import Derived.Test.YtbijepcediaghaaGreatDoorR0
import Derived.Lib.Builder
import Derived.Lib.UnsafeStr
import Derived.OrdersIn
import Derived.LoopNIn
set_option linter.unusedSimpArgs false
set_option linter.unusedVariables false
namespace Go.Ab
section
variable {P:Program} {B:Base} {φ:dD} {h h':ah} {w:World} {v:AV}
structure alf (φ:dD) (w:World) (sz:Nat) (l:List (List AV)) (cx:Value):Prop where
 es:∀e∈l,e.length=sz
 leaf:∀e∈l,aB e=true
 len:∀(P:Program) (w':World),(Builtin.lenOf cx).run P w'= .ok l.length w'
 first:∀n,n≤l.length→∃nv:List Value,bQ φ (l.take n).flatten nv∧∀(P:Program) (w':World),w'.heap=w.heap→(Builtin.firstCells sz n cx).run P w'= .ok nv.toArray w'
theorem Ox (φ:dD):∀(bs:List UInt8),bQ φ ((bs.map UInt8.toNat).map fun b=>AV.int .u8 (.ofNat b)) (bs.map fun b=>Value.int .u8 b.toNat)
 | []=> .nil
 |b :: bs=> .cons (.int _ _) (Ox φ bs)
theorem zn {α:Type}:∀(l:List α),(l.map fun x=>[x]).flatten=l
 | []=>rfl
 |x :: l=>by simp only[List.map_cons,List.flatten_cons,zn l];rfl
theorem Si {sz:Nat} {x:AV} {cx:Value} {l:List (List AV)} (H:bR P B φ h w) (hx:bG φ x cx) (hs:source h sz x=some l):alf φ w sz l cx:=by
 unfold source at hs;split at hs
 ·cases hs;cases hx;refine⟨by simp,by simp,fun P w'=>by simp[Builtin.lenOf],fun n hn=>⟨[],by simp;exact .nil,fun P w' _=>by simp[Builtin.firstCells]⟩⟩
 ·cases hs;cases hx;refine⟨by simp,by simp,fun P w'=>by simp[Builtin.lenOf],fun n hn=>⟨[],by simp;exact .nil,fun P w' _=> ?_⟩⟩;have:n=0:=by simpa using hn
  subst this;simp[Builtin.firstCells,loadCells,loadCellsFrom]
 ·rename_i id g s len cap ex;cases hx with
  |slc hL h1 h2 h3 h4 h5 h6=>
   rename_i c off L;cases h0:Nat.beq len 0 with
   |true=>
    rw[h0,cond_true] at hs;cases hs;have:=aG.1 h0;subst this;refine⟨by simp,by simp,fun P w'=>by simp[Builtin.lenOf],fun n hn=>⟨[],by simp;exact .nil,fun P w' _=> ?_⟩⟩;have:n=0:=by simpa using hn
    subst this;simp[Builtin.firstCells,loadCells,loadCellsFrom]
   |false=>
    rw[h0,cond_false] at hs;have hpos:=dF.1 h0;split at hs
    ·rename_i r hrow;cases hc:(Nat.ble r.m g&&Nat.beq r.sz sz) with
     |false=>rw[hc] at hs;cases hs
     |true=>
      rw[hc,cond_true] at hs;simp only[Bool.and_eq_true,aI,aG] at hc;have⟨c1,c2⟩:=hc;have hr:mU φ id r w:=H.obj id _ (ah.row_some.1 hrow);cases hl:Nat.beq ((r.es.drop s).take len).length len with
      |false=>simp only[hl] at hs;cases hs
      |true=>
       simp only[hl,cond_true] at hs;cases hs;have hl:=aG.1 hl;refine have hsz:L.sz=r.sz:=(hr.gen g L hL).2;⟨fun e he=>by rw[←c2];exact hr.es e (List.mem_of_mem_drop (List.mem_of_mem_take he)),fun e he=>hr.leaf e (List.mem_of_mem_drop (List.mem_of_mem_take he)),fun P w'=>by simp only[Builtin.lenOf,Sem.run_pure,hl],fun n hn=> ?_⟩
       rw[hl] at hn;have hfit:s*r.sz+n*r.sz≤L.ext*r.sz:=by
        rw[←Nat.add_mul];exact Nat.mul_le_mul_right _ (by omega)
       have⟨vs,v1,v2,v3⟩:=K9 hr hL c1 hfit;have hfl:(((r.es.drop s).take len).take n).flatten=(r.es.flatten.drop (s*r.sz)).take (n*r.sz):=by
        rw[List.take_take,Nat.min_eq_left hn,wW (fun e he=>hr.es e (List.mem_of_mem_drop he)),Jk hr.es]
       refine⟨vs,by rw[hfl];exact v1,fun P w' hw'=> ?_⟩;refine run_firstCells_some (P:=P) w' sz n _ _ _ vs (by rw[v2,c2]) (fun j u hj=>have ec:∀A,w'.cell? A=w.cell? A:=(fun A=>by simp[World.cell?,hw']);?_);rw[ec,h6 (by omega),hsz];exact v3 j u hj
    ·cases hs
 ·rename_i s;cases hx with
  |str hb=>
   rename_i bs;cases hc:Nat.beq sz 1 with
   |false=>rw[hc] at hs;cases hs
   |true=>
    rw[hc,cond_true] at hs;cases hs;have:=aG.1 hc;subst this;refine have hsz:=zG hb;⟨by intro e he;simp at he;obtain⟨b,_,rfl⟩:=he;rfl,by intro e he;simp at he;obtain⟨b,_,rfl⟩:=he;rfl,fun P w'=>by simp[Builtin.lenOf,hsz],fun n hn=> ?_⟩
    simp only[List.length_map] at hn;refine⟨(bs.data.toList.take n).map fun b=>Value.int .u8 b.toNat, ?_,fun P w' _=> ?_⟩
    ·have e1:((s.map fun b=>[AV.int .u8 (.ofNat b)]).take n).flatten=(((bs.data.toList.take n).map UInt8.toNat).map fun b=>AV.int .u8 (.ofNat b)):=by
      rw[←List.map_take, ←hb, ←List.map_take];rw[show(fun b:Nat=>[AV.int .u8 (.ofNat b)])=(fun x=>[x])∘(fun b:Nat=>AV.int .u8 (.ofNat b)) from rfl, ←List.map_map,zn]
     rw[e1];exact Ox φ _
    ·simp only[Builtin.firstCells,Sem.run_pure];congr 1;apply Array.ext';simp[ByteArray.data_extract,List.extract_eq_take_drop]
 ·cases hs
theorem Qi {z:List Value} (hz:0<z.length) (n:Nat):Builtin.zeroCells z.toArray n=(List.replicate n z).flatten.toArray:=by
 apply Array.ext';have:=AZ z hz n;simp only[Builtin.zeroCells,Array.toList_map,Array.toList_range,List.size_toArray];exact this
def aaj (P:Program) (w:World) (t1 t2 ty:TypeId) (base:Option Addr) (sLen sCap m:Nat) (sz:Nat) (nv:List Value) (cx:Value):Prop:=
 sLen+m≤sCap→∀A,base=some A→∀w',(storeCells (A.add (sLen*sz)) nv).run P w= .ok () w'→(Builtin.append_ #[t1,t2] ty #[.slice base sLen sCap,cx]).run P w= .ok (.slice base (sLen+m) sCap) w'
def ZV (P:Program) (w:World) (t1 t2 ty e:TypeId) (base:Option Addr) (sLen sCap m:Nat) (sz:Nat) (zc:Array Value) (nv:List Value) (cx:Value):Prop:=
 sCap<sLen+m→∀ov:List Value,(∀w':World,w'.heap=w.heap→(Builtin.firstCells sz sLen (.slice base sLen sCap)).run P w'= .ok ov.toArray w')→
  (Builtin.append_ #[t1,t2] ty #[.slice base sLen sCap,cx]).run P w=
    .ok (.slice (some ⟨w.heap.size,0,none⟩) (sLen+m) (grownCap w (sLen+m) sCap e)) (w.drew.alloc (.cells (ov++nv++(Builtin.zeroCells zc (grownCap w (sLen+m) sCap e-(sLen+m))).toList).toArray e))
theorem acd {t1 t2 ty e:TypeId} (hu:P.underlying t1=some (.slice e)) {sz:Nat} (hsz:sizeT P e=some sz) {d2:TypeDesc} (hu2:P.underlying t2=some d2) (hni:∀k,d2≠ .int k)
 {cx:Value} {m:Nat} (hlen:∀w':World,(Builtin.lenOf cx).run P w'= .ok m w') {nv:List Value} (hfirst:(Builtin.firstCells sz m cx).run P w= .ok nv.toArray w) (base:Option Addr) (sLen sCap:Nat):
 aaj P w t1 t2 ty base sLen sCap m sz nv cx:=by
 intro hroom A hA w' hst;subst hA;have hz:(d2 matches .int _)=false:=by cases d2<;>first |rfl |exact absurd rfl (hni _)
 simp only[Builtin.append_,List.getElem?_toArray,List.getElem?_cons_zero,List.getElem?_cons_succ,Sem.run_bind,run_underlying hu,run_underlying hu2,Result.andThen_ok,iJ hsz,Sem.run_pure,hz,Bool.false_eq_true,if_false,hlen,hroom,if_true,Bool.not_false,hfirst,hst]
theorem adN {t1 t2 ty e:TypeId} (hu:P.underlying t1=some (.slice e)) {sz:Nat} (hsz:sizeT P e=some sz) {d2:TypeDesc} (hu2:P.underlying t2=some d2) (hni:∀k,d2≠ .int k)
 {i:TypeInfo} (hi:P.info? e=some i) {zv:Value} (hz0:i.zero=some zv) {bytes:Nat} (hby:i.bytes=bytes)
 {cx:Value} {m:Nat} (hlen:∀w':World,(Builtin.lenOf cx).run P w'= .ok m w') {nv:List Value} (hfirst:∀w':World,w'.heap=w.heap→(Builtin.firstCells sz m cx).run P w'= .ok nv.toArray w') (base:Option Addr) (sLen sCap:Nat)
 (hmost:(sLen+m)*bytes≤most) (hmost2:sLen+m≤most):
 ZV P w t1 t2 ty e base sLen sCap m sz zv.cells nv cx:=by
 intro hgrow ov hov;have hz:(d2 matches .int _)=false:=by cases d2<;>first |rfl |exact absurd rfl (hni _)
 unfold most at hmost hmost2;have hns:¬(sLen+m≤sCap):=by omega
 have h63:¬((((sLen+m:Nat):Int)>IntKind.i64.max)∧(False∨i.bytes=0)):=by
  rintro⟨h1,_⟩;have:IntKind.i64.max=9223372036854775807:=by rfl
  rw[this] at h1;omega
 have h48:¬(Builtin.nextslicecap (sLen+m) sCap*i.bytes>2 ^ 48):=by
  have:=growslice_fits (bytes:=i.bytes) hgrow (by rw[hby];omega);omega
 have hti:∀w':World,(typeInfo e).run P w'= .ok i w':=fun w'=>by simp[typeInfo,hi]
 have hzv:∀w':World,(zeroValue e).run P w'= .ok zv w':=fun w'=>by simp[zeroValue,typeInfo,hi,hz0]
 simp only[Builtin.append_,List.getElem?_toArray,List.getElem?_cons_zero,List.getElem?_cons_succ,Sem.run_bind,run_underlying hu,run_underlying hu2,Result.andThen_ok,iJ hsz,Sem.run_pure,hz,Bool.false_eq_true,if_false,hlen,hns,
  hti,Bool.not_false,if_true,h63,h48]
 have hq:(Question.appendCap (sLen+m) sCap e).forced=false:=rfl;simp only[choose,Sem.run,hq,Bool.false_eq_true,if_false,Result.andThen_ok,hti,run_askRoom];simp only[World.drew_eq,hov w.drew rfl,Result.andThen_ok,hfirst w.drew rfl,hzv];simp only[Go.newRow,Sem.run_bind,run_newObj,Result.andThen_ok,Sem.run_pure];congr 1;show World.alloc _ _=World.alloc _ _;congr 2;apply Array.ext';simp[grownCap,List.append_assoc]
theorem Di (w:World) (need old:Nat) (e:TypeId):need≤grownCap w need old e:=by
 simp[grownCap,Question.cut]
theorem Te {H:bR P B φ h w} {id:Nat} {r:Row} (hget:h.get id=some (.row r)) (hrw:r.rw=true) {es':List (List AV)} (hes:∀e∈es',e.length=r.sz) (hlf:∀e∈es',aB e=true) {m':Nat} (hm':m'≤r.g+1)
 {w':World} {L:Loc} (hL:L.sz=r.sz∧L.ext=es'.length∧L.base=0) (hblk:(L.blk=w.heap.size∧L.blk<w'.heap.size)∨∃g0 L0,φ id g0=some L0∧L0.blk=L.blk)
 (hsz:w.heap.size≤w'.heap.size) (hkeep:∀k,k<w.heap.size→(∀g K,φ id g=some K→K.blk≠k)→w'.heap[k]? =w.heap[k]?) (hkind:vK w w')
 (hnew:∃vals,bQ φ es'.flatten vals∧∀(j:Nat) (u:Value),vals[j]? =some u→w'.cell? ⟨L.blk,j,none⟩=some u)
 (hcells:∃c t,w'.heap[L.blk]? =some (.cells c t (0,0))∧c.size=L.tot*L.sz∧L.ext≤L.tot)
 (hold:∀g K,m'≤g→φ id g=some K→K.ext≤es'.length∧(∃vals,bQ φ (es'.take K.ext).flatten vals∧∀(j:Nat) (u:Value),vals[j]? =some u→w'.cell? ⟨K.blk,K.base+j,none⟩=some u)∧
   K.base=0∧∃c t,w'.heap[K.blk]? =some (.cells c t (0,0))∧c.size=K.tot*K.sz∧K.ext≤K.tot)
 {ty':Option Nat} (hty:∀u,ty'=some u→(∃c f,w'.heap[L.blk]? =some (.cells c u f))∧∀g K,m'≤g→φ id g=some K→∃c f,w'.heap[K.blk]? =some (.cells c u f)) (hdm:∃g L,φ id g=some L:=by exact⟨_,_,by assumption⟩):
 φ.le (φ.add id (r.g+1) L)∧bR P B (φ.add id (r.g+1) L) (h.put id (.row {r with es:=es',g:=r.g+1,m:=m',ty:=ty'})) w':=by
 have hrow:mU φ id r w:=H.obj id _ hget hdm;have⟨g0,L0,hL0⟩:=hdm;have hnone:φ id (r.g+1)=none:=by
  cases e:φ id (r.g+1) with
  |none=>rfl
  |some K=>have:=(hrow.gen _ K e).1;omega
 have hle:=dD.le_add (φ:=φ) L hnone;refine⟨hle, ?_⟩;have hkey:∀g K,φ.add id (r.g+1) L id g=some K→(g=r.g+1∧K=L)∨φ id g=some K:=by
  intro g K e;by_cases hg:g=r.g+1
  ·subst hg;rw[dD.add_same] at e;cases e;exact .inl ⟨rfl,rfl⟩
  ·rw[dD.add_other _ _ (by omega)] at e;exact .inr e
 refine H.update hget hrw hrw hle (fun a g ha=>dD.add_other _ _ (by omega)) ?_ hsz hkeep hkind ?_
 ·intro g K e;rcases hkey g K e with⟨_,rfl⟩|h1
  ·exact .inr hblk
  ·exact .inl h1
 ·refine⟨hm',hrow.sz,hes,hlf,⟨L,dD.add_same _ _ _ _,hL.2.1⟩,fun g K e=> ?_,fun g K hm e=> ?_,fun _ g K hm e=> ?_,fun u hu _ g K hm e=> ?_⟩
  ·rcases hkey g K e with⟨rfl,rfl⟩|h1
   ·exact⟨Nat.le_refl _,hL.1⟩
   ·exact⟨Nat.le_succ_of_le (hrow.gen g K h1).1,(hrow.gen g K h1).2⟩
  ·rcases hkey g K e with⟨rfl,rfl⟩|h1
   ·refine have⟨vals,a,b⟩:=hnew;⟨by rw[hL.2.1];exact Nat.le_refl _,vals, ?_,fun j u hj=> ?_⟩
    ·rw[hL.2.1,List.take_of_length_le (Nat.le_refl _)];exact a.mono hle
    ·rw[hL.2.2,Nat.zero_add];exact b j u hj
   ·exact have⟨a,⟨vals,b,c⟩,_⟩:=hold g K hm h1;⟨a,vals,b.mono hle,c⟩
  ·rcases hkey g K e with⟨rfl,rfl⟩|h1
   ·exact⟨hL.2.2,hcells⟩
   ·exact(hold g K hm h1).2.2
  ·rcases hkey g K e with⟨rfl,rfl⟩|h1
   ·exact(hty u hu).1
   ·exact(hty u hu).2 g K hm h1
theorem Ik {a b:Option Nat} {u:Nat} (h:pJ a b=some u):a=some u∧b=some u:=by
 unfold pJ at h;split at h
 ·rename_i x y;cases hb:Nat.beq x y with
  |false=>rw[hb] at h;cases h
  |true=>
   rw[hb] at h;cases h;have:=aG.1 hb;subst this;exact⟨rfl,rfl⟩
 ·cases h
theorem zL {id g st len cap c off:Nat} {r:Row} {L:Loc} {sz:Nat} (hr:mU φ id r w) (hL:φ id g=some L) (hm:r.m≤g) (hsz:r.sz=sz) (h1:len≤cap) (h2:st+cap≤L.ext) (h4:cap≤c) (h6:0<c→off=L.base+st*L.sz):
 ∃ov:List Value,bQ φ ((r.es.drop st).take len).flatten ov∧ov.length=len*sz∧∀w':World,w'.heap=w.heap→(Builtin.firstCells sz len (.slice (some ⟨L.blk,off,none⟩) len c)).run P w'= .ok ov.toArray w':=by
 have hLs:L.sz=r.sz:=(hr.gen g L hL).2;have hfit:st*r.sz+len*r.sz≤L.ext*r.sz:=by rw[←Nat.add_mul];exact Nat.mul_le_mul_right _ (by omega)
 obtain⟨vs,v1,v2,v3⟩:=K9 hr hL hm hfit;refine⟨vs, ?_,by rw[v2,hsz],fun w' hw'=> ?_⟩
 ·rw[wW (fun e he=>hr.es e (List.mem_of_mem_drop he)),Jk hr.es];exact v1
 ·refine run_firstCells_some (P:=P) w' sz len _ _ _ vs (by rw[v2,hsz]) (fun j u hj=> ?_);have ec:∀A,w'.cell? A=w.cell? A:=fun A=>by simp[World.cell?,hw']
  have hjl:=(List.getElem?_eq_some_iff.1 hj).1;have hlen:0<len:=by
   rcases Nat.eq_zero_or_pos len with h0 |h0
   ·rw[h0,Nat.zero_mul] at v2;omega
   ·exact h0
  rw[ec,h6 (by omega),hLs];exact v3 j u hj
theorem Mc {sz bytes:Nat} {s:AV} {cs cx:Value} {new:List (List AV)} {nv:List Value} {t1 t2 ty e:TypeId} {zc:Array Value} (H:bR P B φ h w) (hs:bG φ s cs) (hsz:0<sz) (hzc:zc.size=sz)
 (hne:∀x∈new,x.length=sz) (hnl:∀x∈new,aB x=true) (hnv:bQ φ new.flatten nv)
 (hroom:∀base sLen sCap,aaj P w t1 t2 ty base sLen sCap new.length sz nv cx)
 (hgrow:∀base sLen sCap,(sLen+new.length)*bytes≤most→sLen+new.length≤most→ZV P w t1 t2 ty e base sLen sCap new.length sz zc nv cx)
 (hnil:new.length=0→(Builtin.append_ #[t1,t2] ty #[.slice none 0 0,cx]).run P w= .ok (.slice none 0 0) w)
 {nt:Option Nat} (hnt:∀u,nt=some u→u=e) (he:gQ h sz bytes s new nt=some (v,h')):oC P B φ h' v w ((Builtin.append_ #[t1,t2] ty #[cs,cx]).run P w):=by
 have hnvl:nv.length=new.length*sz:=by rw[←hnv.length,nA hne]
 have hflat:aB new.flatten=true:=I7 hnl;have hzl:∀n,(Builtin.zeroCells zc n).toList.length=n*sz:=fun n=>by simp[Builtin.zeroCells,hzc]
 unfold gQ at he;split at he
 ·cases hs;split at he
  ·cases he;exact oC.pure H (hnil rfl) .au
  ·rename_i hnn;cases hc:(Nat.ble (new.length*bytes) most&&Nat.ble new.length most) with
   |false=>rw[hc] at he;cases he
   |true=>
    rw[hc,cond_true] at he;cases he;simp only[Bool.and_eq_true,aI] at hc;have hpos:0<new.length:=List.length_pos_iff.2 hnn;have hrun:=hgrow none 0 0 (by simpa using hc.1) (by simpa using hc.2) (by omega) [] (fun w' _=>by simp[Builtin.firstCells]);simp only[Nat.zero_add,List.nil_append] at hrun;have hge:=Di w new.length 0 e;obtain⟨φ',p1,p2,p3,p4⟩:=yO H.drew hsz hne hnl (vals:=nv) (spare:=(Builtin.zeroCells zc (grownCap w new.length 0 e-new.length)).toList) hnv (tot:=grownCap w new.length 0 e)
     (by rw[hzl,hnvl, ←Nat.add_mul];congr 1;omega) e nt hnt
    refine⟨_,_,φ',hrun, ?_,p3,p1,(Gw.drew B w).trans p4⟩;exact .slc p2 (Nat.le_refl _) (by simp only;omega) (by simp only;omega) hge (fun e=>by cases e) (fun _=>by simp)
 ·cases hs;rename_i A;split at he
  ·cases he;have hnv0:nv=[]:=List.length_eq_zero_iff.1 (by simpa using hnvl);subst hnv0;have hrun:=hroom (some A) 0 0 (by simp) _ rfl w (by simp[storeCells]);exact⟨_,w,φ,hrun, .emp,H,φ.le_refl,Gw.refl B w⟩
  ·rename_i hnn;cases hc:(Nat.ble (new.length*bytes) most&&Nat.ble new.length most) with
   |false=>rw[hc] at he;cases he
   |true=>
    rw[hc,cond_true] at he;cases he;simp only[Bool.and_eq_true,aI] at hc;have hpos:0<new.length:=List.length_pos_iff.2 hnn;have hrun:=hgrow (some A) 0 0 (by simpa using hc.1) (by simpa using hc.2) (by omega) [] (fun w' _=>by simp[Builtin.firstCells,loadCells,loadCellsFrom]);simp only[Nat.zero_add,List.nil_append] at hrun;have hge:=Di w new.length 0 e;obtain⟨φ',p1,p2,p3,p4⟩:=yO H.drew hsz hne hnl (vals:=nv) (spare:=(Builtin.zeroCells zc (grownCap w new.length 0 e-new.length)).toList) hnv (tot:=grownCap w new.length 0 e)
     (by rw[hzl,hnvl, ←Nat.add_mul];congr 1;omega) e nt hnt
    refine⟨_,_,φ',hrun, ?_,p3,p1,(Gw.drew B w).trans p4⟩;exact .slc p2 (Nat.le_refl _) (by simp only;omega) (by simp only;omega) hge (fun e=>by cases e) (fun _=>by simp)
 ·rename_i id g st len cap ex;cases hs with
  |slc hL h1 h2 h3 h4 h5 h6=>
   rename_i c off L;split at he
   ·cases he;have hnv0:nv=[]:=List.length_eq_zero_iff.1 (by simpa using hnvl);subst hnv0;have hrun:=hroom (some ⟨L.blk,off,none⟩) len c (by simp;omega) _ rfl w (by simp[storeCells]);exact⟨_,w,φ,hrun, .slc hL h1 h2 h3 h4 h5 h6,H,φ.le_refl,Gw.refl B w⟩
   ·rename_i hnn;have hpos:0<new.length:=List.length_pos_iff.2 hnn;split at he
    ·cases he
    ·rename_i r hget;have hrow:=ah.row_some.1 hget;have hr:mU φ id r w:=H.obj id _ hrow;cases hc:(Nat.ble ((len+new.length)*bytes) most&&Nat.ble (len+new.length) most&&Nat.beq r.sz sz) with
     |false=>rw[hc] at he;cases he
     |true=>
      rw[hc,cond_true] at he;simp only[Bool.and_eq_true,aI,aG] at hc;obtain⟨⟨c1,c2⟩,c3⟩:=hc;have hLs:L.sz=sz:=by rw[(hr.gen g L hL).2,c3]
      cases hin:Nat.ble (len+new.length) cap with
      |true=>
       rw[hin,cond_true] at he;have hin:=aI.1 hin;cases hcc:(r.rw&&Nat.beq g r.g) with
       |false=>rw[hcc] at he;cases he
       |true=>
        rw[hcc,cond_true] at he;cases he;simp only[Bool.and_eq_true,aG] at hcc;obtain⟨hrw,rfl⟩:=hcc;obtain⟨L',hL',hext⟩:=hr.cur;rw[hL] at hL';cases hL';have hfl:new.flatten.length=new.length*sz:=nA hne;have hfit:(st+len)*r.sz+new.flatten.length≤r.es.length*r.sz:=by
         rw[hfl,c3, ←Nat.add_mul];exact Nat.mul_le_mul_right _ (by omega)
        obtain⟨w',s1,s2,s3⟩:=Pz H hrow hrw hL hnv hflat hfit (es':=lay r.es (st+len) new)
         (by
           intro x hx;unfold lay at hx;rcases List.mem_append.1 hx with hx |hx
           ·rcases List.mem_append.1 hx with hx |hx
            ·exact hr.es x (List.mem_of_mem_take hx)
            ·rw[c3];exact hne x hx
           ·exact hr.es x (List.mem_of_mem_drop hx))
         (Cm _ _ _ (by omega)) (by rw[c3];exact W9 (by rw[←c3];exact hr.es) hne _)
         (by
           intro x hx;unfold lay at hx;rcases List.mem_append.1 hx with hx |hx
           ·rcases List.mem_append.1 hx with hx |hx
            ·exact hr.leaf x (List.mem_of_mem_take hx)
            ·exact hnl x hx
           ·exact hr.leaf x (List.mem_of_mem_drop hx))
        have hA:(⟨L.blk,off,none⟩:Addr).add (len*sz)=⟨L.blk,L.base+(st+len)*r.sz,none⟩:=by
         rw[Addr.add_lit,h6 (by omega),hLs,c3,Nat.add_mul,Nat.add_assoc]
        have hrun:=hroom (some ⟨L.blk,off,none⟩) len c (by omega) _ rfl w' (by rw[hA];exact s1);exact⟨_,w',φ,hrun, .slc hL (by omega) h2 h3 h4 h5 h6,s2,φ.le_refl,s3⟩
      |false=>
       rw[hin,cond_false] at he;have hin:¬len+new.length≤cap:=fun h=>by rw[aI.2 h] at hin;cases hin
       cases ex with
       |true=>
        rw[cond_true] at he;have hcc:=h5 rfl;subst hcc;cases hm:Nat.ble r.m g with
        |false=>rw[hm] at he;cases he
        |true=>
         rw[hm,cond_true] at he;have hm:=aI.1 hm;cases hl:Nat.beq ((r.es.drop st).take len).length len with
         |false=>simp only[hl] at he;cases he
         |true=>
          simp only[hl,cond_true] at he;cases he;have hl:=aG.1 hl;obtain⟨ov,o1,o2,o3⟩:=zL (P:=P) hr hL hm c3 h1 h2 h4 h6;have hrun:=hgrow (some ⟨L.blk,off,none⟩) len c c1 c2 (by omega) ov o3;have hge:=Di w (len+new.length) c e;have hes':∀x∈(r.es.drop st).take len++new,x.length=sz:=by
           intro x hx;rcases List.mem_append.1 hx with hx |hx
           ·rw[←c3];exact hr.es x (List.mem_of_mem_drop (List.mem_of_mem_take hx))
           ·exact hne x hx
          have hlf':∀x∈(r.es.drop st).take len++new,aB x=true:=by
           intro x hx;rcases List.mem_append.1 hx with hx |hx
           ·exact hr.leaf x (List.mem_of_mem_drop (List.mem_of_mem_take hx))
           ·exact hnl x hx
          obtain⟨φ',p1,p2,p3,p4⟩:=yO H.drew hsz hes' hlf' (vals:=ov++nv) (spare:=(Builtin.zeroCells zc (grownCap w (len+new.length) c e-(len+new.length))).toList)
           (by rw[List.flatten_append];exact o1.append hnv) (tot:=grownCap w (len+new.length) c e)
           (by rw[hzl,List.length_append,hnvl,o2, ←Nat.add_mul, ←Nat.add_mul];congr 1;omega) e nt hnt
          refine⟨_,_,φ',hrun, ?_,p3,p1,(Gw.drew B w).trans p4⟩;exact .slc p2 (Nat.le_refl _) (by simp only[List.length_append,hl];omega) (by simp only;omega) hge (fun e=>by cases e) (fun _=>by simp)
       |false=>
        rw[cond_false] at he;cases hcc:(r.rw&&Nat.beq g r.g&&Nat.beq st 0) with
        |false=>rw[hcc] at he;cases he
        |true=>
         rw[hcc,cond_true] at he;simp only[Bool.and_eq_true,aG] at hcc;obtain⟨⟨hrw,rfl⟩,rfl⟩:=hcc;obtain⟨L',hL',hext⟩:=hr.cur;rw[hL] at hL';cases hL';obtain⟨hbase,bc,bt,hbc,hbs,hbx⟩:=hr.own hrw r.g L hr.mg hL;obtain⟨_,vals,hv,hcv⟩:=hr.cells r.g L hr.mg hL;rw[List.take_of_length_le (by omega)] at hv;have hvl:vals.length=r.es.length*r.sz:=by rw[←hv.length,nA hr.es]
         have hlen:len≤r.es.length:=by omega
         have hes':∀x∈r.es.take len++new,x.length=r.sz:=by
          intro x hx;rcases List.mem_append.1 hx with hx |hx
          ·exact hr.es x (List.mem_of_mem_take hx)
          ·rw[c3];exact hne x hx
         have hlf':∀x∈r.es.take len++new,aB x=true:=by
          intro x hx;rcases List.mem_append.1 hx with hx |hx
          ·exact hr.leaf x (List.mem_of_mem_take hx)
          ·exact hnl x hx
         have hesl:(r.es.take len++new).length=len+new.length:=by
          rw[List.length_append,List.length_take];omega
         have hnewv:bQ φ (r.es.take len++new).flatten (vals.take (len*r.sz)++nv):=by
          rw[List.flatten_append,wW hr.es];exact(hv.take _).append hnv
         have hoff:0<c→off=0:=fun hc0=>by have:=h6 hc0;omega
         have key:∀(m':Nat),m'≤r.g+1→(∀g K,m'≤g→φ id g=some K→r.m≤g∧K.ext≤len)→
          oC P B φ (h.put id (.row {r with es:=r.es.take len++new,g:=r.g+1,m:=m',ty:=pJ r.ty nt})) (.slc id (r.g+1) 0 (len+new.length) (len+new.length) false) w
           ((Builtin.append_ #[t1,t2] ty #[.slice (some ⟨L.blk,off,none⟩) len c,cx]).run P w):=by
          intro m' hm' hold;by_cases hfits:len+new.length≤c
          ·
           have hsz2:len*sz+nv.length≤bc.size:=by
            rw[hbs,hnvl,hLs, ←Nat.add_mul];exact Nat.mul_le_mul_right _ (by omega)
           have hst:=run_storeCells_at P L.blk (len*sz) bt nv 0 bc w hbc (by simpa using hsz2) (hnv.leaf hflat);simp only[Nat.add_zero] at hst;have hA:(⟨L.blk,off,none⟩:Addr).add (len*sz)=⟨L.blk,len*sz,none⟩:=by
            rw[Addr.add_lit,hoff (by omega),Nat.zero_add]
           have hrun:=hroom (some ⟨L.blk,off,none⟩) len c hfits _ rfl _ (by rw[hA];exact hst);generalize hc':(bc.toList.take (len*sz)++nv++bc.toList.drop (len*sz+nv.length)).toArray=c' at hst hrun;have hheap:=setRow_heap w L.blk bc c' bt (0,0) hbc;have hcs:c'.size=bc.size:=by rw[←hc'];simp;omega
           have hB:B≤L.blk:=(H.own id _ r.g L hrow hL).1 hrw;have hcell:∀(j:Nat) (u:Value),vals[j]? =some u→bc.toList[j]? =some u:=by
            intro j u hj;have:=hcv j u hj;rw[hbase,Nat.zero_add,cell_of_row w L.blk _ bc bt (0,0) hbc] at this;simpa using this
           have hpre:∀(j:Nat) (u:Value),j<len*sz→vals[j]? =some u→c'[j]? =some u:=by
            intro j u hj hu;rw[←hc',List.getElem?_toArray,List.append_assoc,List.getElem?_append_left (by simp;omega),List.getElem?_take_of_lt hj];exact hcell j u hu
           have hmin0:(vals.take (len*r.sz)).length=len*sz:=by
            rw[List.length_take,hvl,c3,Nat.min_eq_left (Nat.mul_le_mul_right _ hlen)]
           have hgrown:=Te (H:=H) hrow hrw hes' hlf' hm' (w':=w.setRow L.blk c') (L:=⟨L.blk,0,r.sz,len+new.length,L.tot⟩) ⟨rfl,hesl.symm,rfl⟩ (.inr ⟨r.g,L,hL,rfl⟩) (by simp)
            (fun k _ hk=>setRow_other w L.blk k c' (fun e=>hk r.g L hL e.symm)) (vK.of_block hheap (fun ds e=>by cases e) (fun k hk=>setRow_other w L.blk k c' hk))
            ⟨_,hnewv,fun j u hj=>by
              rw[cell_setRow_same w L.blk _ bc c' bt (0,0) hbc];by_cases hjl:j<len*sz
              ·rw[List.getElem?_append_left (by rw[hmin0];exact hjl),List.getElem?_take_of_lt (by rw[c3];exact hjl)] at hj;exact hpre j u hjl hj
              ·rw[List.getElem?_append_right (by rw[hmin0];omega),hmin0] at hj;have hjn:=(List.getElem?_eq_some_iff.1 hj).1;rw[←hc',List.getElem?_toArray,List.append_assoc,List.getElem?_append_right (by simp;omega),List.getElem?_append_left (by simp;omega)];rw[List.length_take,Nat.min_eq_left (by simp;omega)];exact hj⟩
            ⟨c',bt,hheap,by rw[hcs,hbs,hLs,c3],by simp only;omega⟩
            (fun g K hmg hK=>by
              obtain⟨a1,a2⟩:=hold g K hmg hK;obtain⟨b1,vs,b2,b3⟩:=hr.cells g K a1 hK;obtain⟨d1,dc,dt,d2,d3,d4⟩:=hr.own hrw g K a1 hK;have hKs:K.sz=r.sz:=(hr.gen g K hK).2;have htk:(r.es.take len++new).take K.ext=r.es.take K.ext:=by
               rw[List.take_append_of_le_length (by simp;omega),List.take_take,Nat.min_eq_left a2]
              have hvsl:vs.length=K.ext*r.sz:=by
               rw[←b2.length,nA (sz:=r.sz) (fun x hx=>hr.es x (List.mem_of_mem_take hx)),List.length_take];congr 1;omega
              refine⟨by omega,⟨vs,by rw[htk];exact b2,fun j u hj=> ?_⟩,d1, ?_⟩
              ·have hjl:=(List.getElem?_eq_some_iff.1 hj).1;have hcu:=b3 j u hj;rw[d1,Nat.zero_add] at hcu ⊢;by_cases hbk:K.blk=L.blk
               ·rw[hbk] at hcu ⊢;rw[cell_of_row w L.blk _ bc bt (0,0) hbc] at hcu;rw[cell_setRow_same w L.blk _ bc c' bt (0,0) hbc];have hjs:j<len*sz:=by
                 have:K.ext*r.sz≤len*sz:=by rw[c3];exact Nat.mul_le_mul_right _ a2
                 omega
                rw[←hc',List.getElem?_toArray,List.append_assoc,List.getElem?_append_left (by simp;omega),List.getElem?_take_of_lt hjs];simpa using hcu
               ·rw[cell_setRow_other w L.blk c' _ hbk];exact hcu
              ·by_cases hbk:K.blk=L.blk
               ·refine⟨c',bt,by rw[hbk];exact hheap, ?_,d4⟩;rw[hbk,hbc] at d2;cases d2;rw[hcs];exact d3
               ·exact⟨dc,dt,(setRow_other w L.blk K.blk c' hbk).trans d2,d3,d4⟩)
            (ty':=pJ r.ty nt) (fun u hu=>by
              obtain⟨y1,y2⟩:=Ik hu;obtain⟨c0,f0,hc0⟩:=hr.ty u y1 hrw r.g L hr.mg hL;rw[hbc] at hc0;cases hc0;refine⟨⟨_,_,hheap⟩,fun g K hmg hK=> ?_⟩;obtain⟨a1,a2⟩:=hold g K hmg hK;obtain⟨ck,fk,hk⟩:=hr.ty _ y1 hrw g K a1 hK;by_cases hbk:K.blk=L.blk
              ·rw[hbk];exact⟨_,_,hheap⟩
              ·exact⟨_,_,(setRow_other w L.blk K.blk c' hbk).trans hk⟩)
           refine⟨_,_,_,hrun, ?_,hgrown.2,hgrown.1,Gw.of_block hbc hB (fun ds e=>by cases e) (fun r e=>by cases e) hheap (fun _ _ _ e=>by cases e;rfl) (fun _ _ _ e=>by cases e;rfl) (fun k hk=>setRow_other w L.blk k c' hk) (by simp) rfl rfl rfl⟩;exact .slc (L:=⟨L.blk,0,r.sz,len+new.length,L.tot⟩) (dD.add_same _ _ _ _) (Nat.le_refl _) (by simp only;omega) (by simp only;omega) hfits (fun e=>by cases e) (fun hc0=>by simp[hoff hc0])
          ·
           obtain⟨ov,o1,o2,o3⟩:=zL (P:=P) hr hL hr.mg c3 h1 h2 h4 h6;have hrun:=hgrow (some ⟨L.blk,off,none⟩) len c c1 c2 (by omega) ov o3;have hge:=Di w (len+new.length) c e;simp only[List.drop_zero] at o1;generalize hgc:grownCap w (len+new.length) c e=gc at hrun hge;generalize hzz:(Builtin.zeroCells zc (gc-(len+new.length))).toList=zz at hrun;have hzzl:zz.length=(gc-(len+new.length))*sz:=by rw[←hzz];exact hzl _
           have hgrown:=Te (H:=H.drew) hrow hrw hes' hlf' hm' (w':=w.drew.alloc (.cells (ov++nv++zz).toArray e)) (L:=⟨w.heap.size,0,r.sz,len+new.length,gc⟩) ⟨rfl,hesl.symm,rfl⟩ (.inl ⟨rfl,by simp⟩) (by simp)
            (fun k hk _=>heap_alloc_old w.drew _ hk) (vK.alloc w.drew (fun ds e=>by cases e))
            ⟨ov++nv,by rw[List.flatten_append];exact o1.append hnv,fun j u hj=>by
              have hjl:=(List.getElem?_eq_some_iff.1 hj).1;have:=World.cell?_alloc_new w.drew (ov++nv++zz).toArray e j;rw[show w.drew.heap.size=w.heap.size from rfl] at this
              rw[this,List.getElem?_toArray,List.getElem?_append_left hjl];exact hj⟩
            ⟨_,e,heap_alloc_new w.drew _,by simp only[List.size_toArray,List.length_append];rw[o2,hnvl,hzzl,c3, ←Nat.add_mul, ←Nat.add_mul];congr 1;omega,hge⟩
            (fun g K hmg hK=>by
              obtain⟨a1,a2⟩:=hold g K hmg hK;obtain⟨b1,vs,b2,b3⟩:=hr.cells g K a1 hK;obtain⟨d1,dc,dt,d2,d3,d4⟩:=hr.own hrw g K a1 hK;have hlt:=H.lt id g K hK;have htk:(r.es.take len++new).take K.ext=r.es.take K.ext:=by
               rw[List.take_append_of_le_length (by simp;omega),List.take_take,Nat.min_eq_left a2]
              refine⟨by omega,⟨vs,by rw[htk];exact b2,fun j u hj=> ?_⟩,d1,dc,dt,(heap_alloc_old w.drew _ hlt).trans d2,d3,d4⟩;exact(cell_of_heap (heap_alloc_old w.drew _ hlt)).trans (b3 j u hj))
            (ty':=pJ r.ty nt) (fun u hu=>by
              obtain⟨y1,y2⟩:=Ik hu;obtain rfl:=hnt u y2;refine⟨⟨_,_,heap_alloc_new w.drew _⟩,fun g K hmg hK=> ?_⟩;obtain⟨a1,a2⟩:=hold g K hmg hK;obtain⟨ck,fk,hk⟩:=hr.ty _ y1 hrw g K a1 hK;exact⟨_,_,(heap_alloc_old w.drew _ (H.lt id g K hK)).trans hk⟩)
           refine⟨_,_,_,hrun, ?_,hgrown.2,hgrown.1,(Gw.drew B w).trans (Gw.alloc H.drew.base (fun _ _ _ e=>by cases e;rfl))⟩;exact .slc (L:=⟨w.heap.size,0,r.sz,len+new.length,gc⟩) (dD.add_same _ _ _ _) (Nat.le_refl _) (by simp only;omega) (by simp only;omega) hge (fun e=>by cases e) (fun _=>by simp)
         cases hlr:Nat.beq len r.es.length with
         |true=>
          rw[hlr,cond_true] at he;cases he;have hlr:=aG.1 hlr;have:=key r.m (Nat.le_succ_of_le hr.mg) (fun g K hm hK=>⟨hm,by rw[hlr];exact(hr.cells g K hm hK).1⟩);rw[List.take_of_length_le (by omega)] at this;exact this
         |false=>
          rw[hlr,cond_false] at he;cases he;exact key (r.g+1) (Nat.le_refl _) (fun g K hm hK=>absurd (hr.gen g K hK).1 (by omega))
 ·cases he
theorem abP {t1 t2 ty:TypeId} {x y:Operand} {op:dW} {N:Nat} {ρ:bZ} {a:Act} (hR:lZ φ N ρ a.tmps) (H:bR P B φ h w) (hc:oU P .append [t1,t2] [x,y]=some op) (he:aN ρ h op=some (v,h')):
 oC P B φ h' v w ((Builtin.append_ #[t1,t2] ty #[a.eval x,a.eval y]).run P w):=by
 simp only[oU] at hc;split at hc
 ·rename_i p q e d hx hy hu hu2;split at hc
  ·rename_i sz bytes z hs hb hz;cases hcc:(Nat.beq z.cells.length sz&&Nat.blt 0 sz) with
   |false=>rw[hcc] at hc;cases hc
   |true=>
    rw[hcc,cond_true] at hc;simp only[Bool.and_eq_true,aG,bC] at hcc;obtain⟨hzl,hsz⟩:=hcc;obtain⟨zv,it,z1,z2,z3,z4⟩:=lD hz w;obtain⟨it2,b1,b2,b3⟩:=KH hb w;rw[z3] at b3;cases b3;have hzc:zv.cells.size=sz:=by have:=(nJ (φ:=φ) z2).length;simp only[Array.length_toList] at this;omega
    have main:∀(hni:∀k,d≠ .int k) (nt:Option Nat),(∀u,nt=some u→u=e)→(∃sv xv,ev ρ p=some sv∧ev ρ q=some xv∧gG h sz bytes sv xv nt=some (v,h'))→oC P B φ h' v w ((Builtin.append_ #[t1,t2] ty #[a.eval x,a.eval y]).run P w):=by
     intro hni nt hnt hop;obtain⟨sv,xv,hp,hq,he⟩:=hop;simp only[gG] at he;cases h0:Nat.beq sz 0 with
     |true=>rw[h0] at he;cases he
     |false=>
      rw[h0,cond_false] at he;cases hsrc:source h sz xv with
      |none=>rw[hsrc] at he;cases he
      |some new=>
       rw[hsrc] at he;simp only at he;have S:=Si H (bX hR hy hq) hsrc;obtain⟨nv,n1,n2⟩:=S.first new.length (Nat.le_refl _);rw[List.take_of_length_le (Nat.le_refl _)] at n1;refine Mc (zc:=zv.cells) H (bX hR hx hp) hsz hzc S.es S.leaf n1 (fun base sLen sCap=>acd hu hs hu2 hni (S.len P) (n2 P w rfl) base sLen sCap)
        (fun base sLen sCap m1 m2=>adN hu hs hu2 hni z3 z4 b2 (S.len P) (n2 P) base sLen sCap m1 m2) (fun hl=> ?_) hnt he
       have hz:(d matches .int _)=false:=by cases d<;>first |rfl |exact absurd rfl (hni _)
       have hln:=S.len P w;rw[hl] at hln;have hnf:=n2 P w rfl;rw[hl] at hnf;simp only[Builtin.append_,List.getElem?_toArray,List.getElem?_cons_zero,List.getElem?_cons_succ,Sem.run_bind,run_underlying hu,run_underlying hu2,Result.andThen_ok,iJ hs,Sem.run_pure,hz,Bool.false_eq_true,if_false,hln,
        Nat.add_zero,Nat.le_refl,if_true,Bool.not_false,hnf]
    have two:∀{o:dW} {nt:Option Nat},(∀u,nt=some u→u=e)→(∀k,d≠ .int k)→aN ρ h o=some (v,h')→(aN ρ h o=match ev ρ p,ev ρ q with |some s,some x=>gG h sz bytes s x nt |_,_=>none)→oC P B φ h' v w ((Builtin.append_ #[t1,t2] ty #[a.eval x,a.eval y]).run P w):=by
     intro o nt hnt hni he heq;rw[heq] at he;cases hp:ev ρ p with
     |none=>simp[hp] at he
     |some sv=>
      cases hq:ev ρ q with
      |none=>simp[hp,hq] at he
      |some xv=>
       rw[hp,hq] at he;exact main hni nt hnt ⟨sv,xv,hp,hq,he⟩
    split at hc
    ·cases hb:(zU P e&&Nat.beq sz 1&&Nat.beq bytes 1) with
     |true=>
      rw[hb,cond_true] at hc;cases hc;simp only[Bool.and_eq_true,aG] at hb;obtain⟨⟨_,rfl⟩,rfl⟩:=hb;exact two (nt:=some e) (fun u hu=>by cases hu;rfl) (fun k hk=>by cases hk) he rfl
     |false=>
      rw[hb,cond_false] at hc;cases hc;exact two (nt:=none) (fun u hu=>by cases hu) (fun k hk=>by cases hk) he rfl
    ·cases hb:(zU P e&&Nat.beq sz 1&&Nat.beq bytes 1) with
     |true=>
      rw[hb,cond_true] at hc;cases hc;simp only[Bool.and_eq_true,aG] at hb;obtain⟨⟨_,rfl⟩,rfl⟩:=hb;exact two (nt:=some e) (fun u hu=>by cases hu;rfl) (fun k hk=>by cases hk) he rfl
     |false=>
      rw[hb,cond_false] at hc;cases hc;exact two (nt:=none) (fun u hu=>by cases hu) (fun k hk=>by cases hk) he rfl
    ·rename_i k;cases hc;simp only[aN] at he;cases hp:ev ρ p with
     |none=>simp[hp] at he
     |some sv=>
      cases hq:ev ρ q with
      |none=>simp[hp,hq] at he
      |some xv=>
       rw[hp,hq] at he;simp only[acu] at he;cases hcz:(Nat.blt 0 sz&&Nat.beq z.cells.length sz&&aB z.cells) with
       |false=>rw[hcz] at he;cases he
       |true=>
        rw[hcz,cond_true] at he;simp only[Bool.and_eq_true,bC,aG] at hcz;cases hn:asNat xv with
        |none=>rw[hn] at he;cases he
        |some n=>
         rw[hn] at he;simp only at he;cases hb2:(Nat.ble n most&&Nat.ble (n*bytes) most) with
         |false=>rw[hb2] at he;cases he
         |true=>
          rw[hb2,cond_true,D7] at he;simp only[Bool.and_eq_true,aI] at hb2;obtain⟨hm1,hm2⟩:=hb2;obtain⟨ki,hki⟩:=o9 (bX hR hy hq) hn;have hlen:(List.replicate n z.cells).length=n:=List.length_replicate;have hnv:bQ φ (List.replicate n z.cells).flatten (List.replicate n zv.cells.toList).flatten:=(nJ z2).replicate n;have hzs:(Builtin.zeroCells zv.cells n)=(List.replicate n zv.cells.toList).flatten.toArray:=by
           have:=Qi (z:=zv.cells.toList) (by simp;omega) n;simpa using this
          unfold most at hm1 hm2;have hw:IntKind.i64.wrap (n:Int)=n:=IntWalk.i64_in _ ⟨by omega,by omega⟩;have hz:((TypeDesc.int k) matches .int _)=true:=rfl;have hti:∀w':World,(typeInfo e).run P w'= .ok it w':=fun w'=>by simp[typeInfo,z3]
          have hzv:∀w':World,(zeroValue e).run P w'= .ok zv w':=fun w'=>by simp[zeroValue,typeInfo,z3,z4]
          have hl0:¬((n:Int)<0):=by omega
          have hby:¬((n:Int)*(it.bytes:Int)>2 ^ 48):=by
           rw[b2];have:(n:Int)*(bytes:Int)=((n*bytes:Nat):Int):=by simp
           rw[this];omega
          rw[hki];have hap:∀w':World,(if n*sz=0 then(Pure.pure #[]:Sem (Array Value)) else do Pure.pure (Builtin.zeroCells (←zeroValue e).cells n)).run P w'= .ok (List.replicate n zv.cells.toList).flatten.toArray w':=by
           intro w';by_cases hn0:n*sz=0
           ·have:n=0:=by rcases Nat.mul_eq_zero.1 hn0 with h1 |h1<;>omega
            subst this;simp
           ·rw[if_neg hn0];simp[hzv,hzs]
          refine Mc (e:=e) (zc:=zv.cells) (new:=List.replicate n z.cells) (nv:=(List.replicate n zv.cells.toList).flatten) H (bX hR hx hp) hsz hzc (fun x hx=>by rw[List.eq_of_mem_replicate hx];exact hzl) (fun x hx=>by rw[List.eq_of_mem_replicate hx];exact hcz.2) hnv ?_ ?_ ?_ (fun u hu=>by cases hu) he
          ·intro base sLen sCap hroom A hA w' hst;subst hA;rw[hlen] at hroom ⊢;simp only[Builtin.append_,List.getElem?_toArray,List.getElem?_cons_zero,List.getElem?_cons_succ,Sem.run_bind,run_underlying hu,run_underlying hu2,Result.andThen_ok,iJ hs,Sem.run_pure,asInt,asIntOf,hw,if_true,hl0,if_false,hti,hby,Int.toNat_natCast,hroom,
            Bool.not_true,Bool.false_eq_true,hap,hst]
          ·intro base sLen sCap m1 m2 hgrow ov hov;rw[hlen] at m1 m2 hgrow ⊢;unfold most at m1 m2;have hns:¬(sLen+n≤sCap):=by omega
           have h63:¬((((sLen+n:Nat):Int)>IntKind.i64.max)∧(True∨it.bytes=0)):=by
            rintro⟨h1,_⟩;have:IntKind.i64.max=9223372036854775807:=by rfl
            rw[this] at h1;omega
           have h48:¬(Builtin.nextslicecap (sLen+n) sCap*it.bytes>2 ^ 48):=by
            have:=growslice_fits (bytes:=it.bytes) hgrow (by rw[b2];omega);omega
           have hq2:(Question.appendCap (sLen+n) sCap e).forced=false:=rfl;simp only[Builtin.append_,List.getElem?_toArray,List.getElem?_cons_zero,List.getElem?_cons_succ,Sem.run_bind,run_underlying hu,run_underlying hu2,Result.andThen_ok,iJ hs,Sem.run_pure,asInt,asIntOf,hw,if_true,hl0,if_false,hti,hby,Int.toNat_natCast,hns,
            Bool.not_true,Bool.false_eq_true,h63,h48,choose,Sem.run,hq2,run_askRoom,World.drew_eq,hov w.drew rfl,hap,hzv]
           simp only[Go.newRow,Sem.run_bind,run_newObj,Result.andThen_ok,Sem.run_pure];congr 1;show World.alloc _ _=World.alloc _ _;congr 2;apply Array.ext';simp[grownCap,List.append_assoc]
          ·intro hl;rw[hlen] at hl;subst hl;have hw0:IntKind.i64.wrap ((0:Nat):Int)=((0:Nat):Int):=hw;simp only[Builtin.append_,List.getElem?_toArray,List.getElem?_cons_zero,List.getElem?_cons_succ,Sem.run_bind,run_underlying hu,run_underlying hu2,Result.andThen_ok,iJ hs,Sem.run_pure,asInt,asIntOf,hw0,if_true,hl0,if_false,hti,hby,Int.toNat_natCast,
            Nat.add_zero,Nat.le_refl,Bool.not_true,Bool.false_eq_true,hap]
    ·cases hc
  ·cases hc
 ·cases hc
theorem nG.length {l:List (AV×AV×Nat)} {m:List MapEntry} (hh:nG φ l m):l.length=m.length:=by
 induction hh with
 |nil=>rfl
 |cons _ _ _ _ ih=>simp[ih]
theorem run_getObj_map {r:Nat} {cs:Array MapEntry} {clock:Nat} (hh:w.heap[r]? =some (.map cs clock)):(getObj r).run P w= .ok (.map cs clock) w:=by
 unfold getObj;simp only[Sem.run,hh]
theorem E8 {t ty:TypeId} {k:Nat} {x v:AV} {cx:Value} {d:TypeDesc} (H:bR P B φ h w) (hu:P.underlying t=some d) (hd:(k=0∧d= .string)∨(k=1∧∃e,d= .slice e)∨(k=2∧∃a e,d= .map a e)) (hx:bG φ x cx)
 (he:AP h k x=some v):∃cv,(Builtin.len_ #[t] ty #[cx]).run P w= .ok cv w∧bG φ v cv:=by
 rcases hd with⟨rfl,rfl⟩|⟨rfl,e,rfl⟩|⟨rfl,a,e,rfl⟩
 ·cases x<;>simp only[AP] at he<;>try(cases he;done)
  cases he;cases hx with
  |str hs=>
   rename_i s b;exact⟨goInt b.size,by simp[Builtin.len_,Sem.run_bind,run_underlying hu],by rw[zG hs];exact .int _ _⟩
 ·cases x<;>simp only[AP] at he<;>try(cases he;done)
  ·cases he;cases hx;exact⟨goInt _,by simp[Builtin.len_,Sem.run_bind,run_underlying hu], .int _ _⟩
  ·cases he;cases hx;exact⟨goInt 0,by simp[Builtin.len_,Sem.run_bind,run_underlying hu], .int _ _⟩
  ·cases he;cases hx;exact⟨goInt 0,by simp[Builtin.len_,Sem.run_bind,run_underlying hu], .int _ _⟩
 ·cases x<;>simp only[AP] at he<;>try(cases he;done)
  ·rename_i id;split at he
   ·rename_i es clock hget;cases he;cases hx with
    |map hL=>
     have⟨L',cs,l1,l2,l3⟩:=H.obj id _ hget;rw[hL] at l1;cases l1;refine⟨goInt cs.size, ?_, ?_⟩
     ·simp only[Builtin.len_,List.getElem?_toArray,List.getElem?_cons_zero,Sem.run_bind,run_underlying hu,Result.andThen_ok,run_getObj_map l2,Sem.run_pure]
     ·have:=l3.length;simp only[Array.length_toList] at this;rw[←this];exact .int _ _
   ·rename_i es clock hget;cases he;cases hx with
    |map hL=>
     have⟨L',cs,l1,l2,l3⟩:=H.obj id _ hget;rw[hL] at l1;cases l1;refine⟨goInt cs.size, ?_, ?_⟩
     ·simp only[Builtin.len_,List.getElem?_toArray,List.getElem?_cons_zero,Sem.run_bind,run_underlying hu,Result.andThen_ok,run_getObj_map l2,Sem.run_pure]
     ·have:=l3.length;simp only[Array.length_toList] at this;rw[←this];exact .int _ _
   ·cases he
  ·cases he;cases hx;exact⟨goInt 0,by simp[Builtin.len_,Sem.run_bind,run_underlying hu], .int _ _⟩
theorem AX:∀{l:List (List AV)} {s:List Nat} {nv:List Value},bytesOf l=some s→bQ φ l.flatten nv→nv=(s.map fun n:Nat=>(n:Int)).map (Value.int .u8)∧∀b∈s,b<256
 | [],s,nv,hb,hv=>by simp[bytesOf] at hb;subst hb;simp at hv;cases hv;simp
 |e :: l,s,nv,hb,hv=>by
  unfold bytesOf at hb;split at hb
  ·rename_i heq;cases heq
  ·rename_i n l' heq;cases heq;split at hb
   ·rename_i r hr;cases hc:Nat.blt n 256 with
    |false=>rw[hc] at hb;cases hb
    |true=>
     rw[hc,cond_true] at hb;cases hb;simp only[List.flatten_cons,List.singleton_append] at hv;cases hv with
     |cons h1 h2=>
      have⟨e1,e2⟩:=AX hr h2;cases h1;refine⟨by rw[e1];simp, ?_⟩;intro b hbm;rcases List.mem_cons.1 hbm with rfl |hbm
      ·exact bC.1 hc
      ·exact e2 b hbm
   ·cases hb
  ·cases hb
theorem N8 {t e:TypeId} {sz bytes:Nat} {z l c:AV} {cl cc:Value} {hp:ah} {ob:fC} (H:bR P B φ h w) (hu:P.underlying t=some (.slice e)) (hs:sizeT P e=some sz) (hb:xI P e=some bytes) (hz:jv P e=some z) (hl:bG φ l cl) (hc:bG φ c cc)
 (he:Eb hp sz bytes z.cells l c=some (v,hp.push ob)) (hg:B.gh hp.sz=some ob):oC P (B.del hp.sz) φ h v w ((Instr.makeSlice t cl cc).run P w):=by
 unfold Eb at he;split at he
 ·rename_i ln cn e1 e2;cases hcnd:(Nat.ble ln cn&&Nat.ble (cn*bytes) most&&Nat.ble cn most&&Nat.beq z.cells.length sz&&Nat.blt 0 sz&&aB z.cells) with
  |false=>rw[hcnd] at he;cases he
  |true=>
   rw[hcnd,cond_true,D7] at he;simp only[Option.some.injEq,Prod.mk.injEq] at he;obtain⟨rfl,he⟩:=he;have hob:=push_inj he;subst hob;simp only[Bool.and_eq_true,aI,aG,bC] at hcnd;obtain⟨⟨⟨⟨⟨c1,c2⟩,c3⟩,c4⟩,c5⟩,c6⟩:=hcnd;unfold most at c2 c3;obtain⟨kl,rfl⟩:=o9 hl e1;obtain⟨kc,rfl⟩:=o9 hc e2;obtain⟨zv,it,z1,z2,z3,z4⟩:=lD hz w;obtain⟨it2,b1,b2,b3⟩:=KH hb w;have hzc:zv.cells.size=sz:=by have:=(nJ (φ:=φ) z2).length;simp only[Array.length_toList] at this;omega
   have hrep:∀x∈List.replicate cn z.cells,x.length=sz:=fun x hx=>by rw[List.eq_of_mem_replicate hx];exact c4
   obtain⟨φ',p1,p2,p3,p4⟩:=wL H c5 hrep (fun x hx=>by rw[List.eq_of_mem_replicate hx];exact c6) (vals:=(List.replicate cn zv.cells.toList).flatten) (spare:=[]) ((nJ z2).replicate cn) (tot:=cn)
    (by rw[nA (sz:=sz) (fun x hx=>by rw[List.eq_of_mem_replicate hx];simpa using hzc)];simp) e none (fun _ e=>by cases e) hg
   refine⟨.slice (some ⟨w.heap.size,0,none⟩) ln cn,_,φ', ?_, ?_,p3,p1,p4⟩
   ·have hw1:IntKind.i64.wrap (ln:Int)=ln:=IntWalk.i64_in _ ⟨by omega,by omega⟩;have hw2:IntKind.i64.wrap (cn:Int)=cn:=IntWalk.i64_in _ ⟨by omega,by omega⟩;have ht:(((cn:Int)<0)||((it2.bytes:Int)*(cn:Int)>2 ^ 48))=false:=by
     rw[b2];have e3:(bytes:Int)*(cn:Int)=((cn*bytes:Nat):Int):=by rw[Nat.mul_comm];simp
     rw[e3];simp only[Bool.or_eq_false_iff,decide_eq_false_iff_not];constructor<;>omega
    have hcond:((((cn:Int)<0)||((it2.bytes:Int)*(cn:Int)>2 ^ 48))||((ln:Int)<0)||((ln:Int)>(cn:Int)))=false:=by
     rw[ht];simp only[Bool.false_or,Bool.or_eq_false_iff,decide_eq_false_iff_not];constructor<;>omega
    have hzz:(Array.range (cn*sz)).map (zv.cells[· % zv.cells.size]!)=(List.replicate cn zv.cells.toList).flatten.toArray:=by rw[←hzc];exact CK (by omega) cn
    simp only[Instr.makeSlice,Sem.run_bind,run_underlying hu,Result.andThen_ok,asInt,asIntOf,Sem.run_pure,b1,hw1,hw2,hcond,Bool.false_eq_true,if_false,run_askRoom,iJ hs,Int.toNat_natCast];by_cases hn:cn*sz=0
    ·have hn0:cn=0:=by rcases Nat.mul_eq_zero.1 hn with h0 |h0<;>omega
     subst hn0;have e0:∀f:Nat→Value,Array.map f (Array.range 0)= #[]:=fun f=>by simp
     simp[e0,Go.newRow]
    ·rw[if_neg hn];simp only[Sem.run_bind,z1,Result.andThen_ok,Sem.run_pure,hzz];simp[Go.newRow]
   ·exact .slc p2 c1 (by simp only[List.length_replicate];omega) (by simp only;omega) (Nat.le_refl _) (fun _=>rfl) (fun _=>by simp)
 ·cases he
theorem MV {sz bytes:Nat} {z:List AV} {l c:AV} (he:Eb h sz bytes z l c=some (v,h')):∃ob,h'=h.push ob∧ob.own=true:=by
 unfold Eb at he;split at he
 ·rename_i ln cn e1 e2;cases hcnd:(Nat.ble ln cn&&Nat.ble (cn*bytes) most&&Nat.ble cn most&&Nat.beq z.length sz&&Nat.blt 0 sz&&aB z) with
  |false=>rw[hcnd] at he;cases he
  |true=>rw[hcnd,cond_true] at he;cases he;exact⟨_,rfl,rfl⟩
 ·cases he
theorem XQ {t e:TypeId} {sz bytes:Nat} {z l c:AV} {cl cc:Value} (H:bR P B φ h w) (hu:P.underlying t=some (.slice e)) (hs:sizeT P e=some sz) (hb:xI P e=some bytes) (hz:jv P e=some z) (hl:bG φ l cl) (hc:bG φ c cc)
 (he:Eb h sz bytes z.cells l c=some (v,h')):oC P B φ h' v w ((Instr.makeSlice t cl cc).run P w):=by
 obtain⟨ob,rfl,ho⟩:=MV he;have:=N8 (H.pushGhost ob ho) hu hs hb hz hl hc he (Base.add_same _ _ _)
 rwa [Base.del_add H.noGhost] at this
end
section
variable {P:Program} {B:Base} {φ:dD} {h h':ah} {w:World} {v:AV}
theorem CV {t:TypeId} {k:K0} (hk:NI P t=some k):(∃i,k= .int∧P.underlying t=some (.int i))∨(k= .str∧P.underlying t=some .string)∨(k= .bool∧P.underlying t=some .bool):=by
 unfold NI at hk;split at hk
 ·rename_i i hu;cases hk;exact .inl ⟨i,rfl,hu⟩
 ·rename_i hu;cases hk;exact .inr (.inl ⟨rfl,hu⟩)
 ·rename_i hu;cases hk;exact .inr (.inr ⟨rfl,hu⟩)
 ·cases hk
theorem aiR {t:TypeId} {k:K0} (hk:NI P t=some k):qm P t=some false:=by
 unfold qm;rcases CV hk with⟨i,_,hu⟩|⟨_,hu⟩|⟨_,hu⟩<;>rw[hu]
theorem BF {t:TypeId} {k:K0} (hk:NI P t=some k) {a b:AV} {ca cb:Value} (ha:bG φ a ca) (hb:bG φ b cb) (hf:sM k a=true) {r:Bool} (he:vV a b=some r) (d:Nat):
 (Op.equalIn (d+1) t ca cb).run P w= .ok r w∧(∀td,P.underlying t=some td→Instr.sameNow td ca cb=some r)∧(r=true→∀n,Instr.sameBits n cb ca=true):=by
 rcases CV hk with⟨i,rfl,hu⟩|⟨rfl,hu⟩|⟨rfl,hu⟩
 ·cases a<;>simp[sM] at hf;cases b<;>simp only[vV] at he<;>try(cases he;done)
  rename_i k x j y;cases hkj:Nat.beq (nE k) (nE j) with
  |false=>rw[hkj] at he;cases he
  |true=>
   rw[hkj,cond_true] at he;cases he;have:=KA (aG.1 hkj);subst this;cases ha;cases hb;rw[xL];refine⟨run_equalIn_int w d t k i x y hu,fun td htd=> ?_,fun hr n=> ?_⟩
   ·rw[hu] at htd;cases htd;simp[Instr.sameNow]
   ·have:=eq_of_beq hr;subst this;simp[Instr.sameBits]
 ·cases a<;>simp[sM] at hf;cases b<;>simp only[vV] at he<;>try(cases he;done)
  cases he;cases ha with
  |str ha=>
   cases hb with
   |str hb=>
    rename_i s1 s2;rw[LD ha hb];refine⟨run_equalIn_string w d t _ _ hu,fun td htd=> ?_,fun hr n=> ?_⟩
    ·rw[hu] at htd;cases htd;simp[Instr.sameNow,beq_toListBytes]
    ·have h0:=eq_of_beq hr;unfold Instr.sameBits;rw[beq_toListBytes,beq_iff_eq];exact h0.symm
 ·cases a<;>simp[sM] at hf;cases b<;>simp only[vV] at he<;>try(cases he;done)
  cases he;cases ha;cases hb;rename_i x y;refine⟨run_equalIn_bool w d t x y hu,fun td htd=> ?_,fun hr n=> ?_⟩
  ·rw[hu] at htd;cases htd;simp[Instr.sameNow]
  ·have:=eq_of_beq hr;subst this;simp[Instr.sameBits]
theorem vB {t:TypeId} {ks:List K0} (hs:structOf P t=some ks):∃fs,P.underlying t=some (.struct fs)∧P.stoodInHeld t=false∧P.eqGuardType P.depth t=false∧DW P 0 fs.toList=some ks:=by
 unfold structOf at hs;split at hs
 ·rename_i fs hu;cases hc:(!P.stoodInHeld t&& !P.eqGuardType P.depth t) with
  |false=>rw[hc] at hs;cases hs
  |true=>
   rw[hc,cond_true] at hs;simp only[Bool.and_eq_true,Bool.not_eq_true'] at hc;exact⟨fs,hu,hc.1,hc.2,hs⟩
 ·cases hs
theorem UJ {n:Nat} {f:Field} {fs:List Field} {ks:List K0} (hs:DW P n (f :: fs)=some ks):∃k ks',f.offset=n∧f.name≠ "_" ∧NI P f.type=some k∧DW P (n+1) fs=some ks'∧ks=k :: ks':=by
 simp only[DW] at hs;cases hc:(Nat.beq f.offset n&&(f.name != "_")) with
 |false=>rw[hc] at hs;cases hs
 |true=>
  rw[hc,cond_true] at hs;simp only[Bool.and_eq_true,aG,bne_iff_ne,ne_eq] at hc;split at hs
  ·rename_i k hk;split at hs
   ·rename_i ks' hks;cases hs;exact⟨k,ks',hc.1,hc.2,hk,hks,rfl⟩
   ·cases hs
  ·cases hs
theorem IL {k:K0} {ks:List K0} {l:List AV} (hf:vR (k :: ks) l=true):∃a l',l=a :: l'∧sM k a=true∧vR ks l'=true:=by
 cases l with
 |nil=>cases hf
 |cons a l'=>
  simp only[vR] at hf;cases hk:sM k a with
  |false=>rw[hk] at hf;cases hf
  |true=>rw[hk,cond_true] at hf;exact⟨a,l',rfl,hk,hf⟩
theorem vQ {t:TypeId} {k:K0} (hk:NI P t=some k) {cs:Array Value} {n:Nat} {c:Value} (hc:cs[n]? =some c):(part t cs n).run P w= .ok c w:=by
 simp[part,Sem.run_bind,tY (aiR hk),hc]
theorem Bb {d:Nat} {cl cm:List Value}:∀(fs:List Field) (n:Nat) (ks:List K0) (l m:List AV),DW P n fs=some ks→vR ks l=true→bQ φ l (cl.drop n)→bQ φ m (cm.drop n)→∀r,qh l m=some r→
 (Op.eqFields (d+1) ⟨cl⟩ ⟨cm⟩ fs).run P w= .ok r w∧(r=true→∀nn,(cm.drop n).length=(cl.drop n).length∧(((cm.drop n).zip (cl.drop n)).all fun(x,y)=>Instr.sameBits nn x y)=true)
 | [],n,ks,l,m,hk,hf,hl,hm,r,he=>by
   simp[DW] at hk;subst hk;have hln:l=[]:=by cases l with |nil=>rfl |cons=>cases hf
   subst hln;cases m with
   |cons=>simp[qh] at he
   |nil=>
    simp[qh] at he;subst he;have e1:=hl.length;have e2:=hm.length;simp only[List.length_nil] at e1 e2;have f1:cl.drop n=[]:=List.length_eq_zero_iff.1 e1.symm;have f2:cm.drop n=[]:=List.length_eq_zero_iff.1 e2.symm;exact⟨by simp[Op.eqFields],fun _ nn=>by rw[f1,f2];simp⟩
 |f :: fs,n,ks,l,m,hk,hf,hl,hm,r,he=>by
  obtain⟨k,ks',h1,h2,h3,h4,rfl⟩:=UJ hk;obtain⟨a,l',rfl,h5,h6⟩:=IL hf;cases m with
  |nil=>simp[qh] at he
  |cons b m'=>
   generalize hcl:cl.drop n=cl' at hl;generalize hcm:cm.drop n=cm' at hm;cases hl with
   |cons ha hl'=>
    rename_i ca cl2;cases hm with
    |cons hb hm'=>
     rename_i cb cm2;have g1:cl[n]? =some ca:=by
      have:=congrArg (fun x=>x[0]?) hcl;simpa[List.getElem?_drop] using this
     have g2:cm[n]? =some cb:=by
      have:=congrArg (fun x=>x[0]?) hcm;simpa[List.getElem?_drop] using this
     have d1:cl.drop (n+1)=cl2:=by rw[←List.drop_drop,hcl];rfl
     have d2:cm.drop (n+1)=cm2:=by rw[←List.drop_drop,hcm];rfl
     have p1:(part f.type ⟨cl⟩ f.offset).run P w= .ok ca w:=by rw[h1];exact vQ h3 (by simpa using g1)
     have p2:(part f.type ⟨cm⟩ f.offset).run P w= .ok cb w:=by rw[h1];exact vQ h3 (by simpa using g2)
     simp only[qh] at he;split at he
     ·rename_i hab;obtain⟨q1,q2,q3⟩:=BF (w:=w) h3 ha hb h5 hab d;obtain⟨r1,r2⟩:=Bb (d:=d) fs (n+1) ks' l' m' h4 h6 (by rw[d1];exact hl') (by rw[d2];exact hm') r he;refine⟨?_,fun hr nn=> ?_⟩
      ·simp only[Op.eqFields,ne_eq,h2,not_false_eq_true,if_true,Sem.run_bind,p1,Result.andThen_ok,p2,q1,Bool.not_true,Bool.false_eq_true,if_false,r1]
      ·obtain⟨s1,s2⟩:=r2 hr nn;rw[d1,d2] at s1 s2;refine⟨by simp only[List.length_cons,s1], ?_⟩;simp only[List.zip_cons_cons,List.all_cons,q3 rfl nn,Bool.true_and];exact s2
     ·rename_i hab;cases he;obtain⟨q1,q2,q3⟩:=BF (w:=w) h3 ha hb h5 hab d;refine⟨?_,fun hr=>by cases hr⟩;simp only[Op.eqFields,ne_eq,h2,not_false_eq_true,if_true,Sem.run_bind,p1,Result.andThen_ok,p2,q1,Bool.not_false,Sem.run_pure]
     ·cases he
theorem Ag {t:TypeId} {kk:KK} (hk:yY P t=some kk) {a b:AV} {ca cb:Value} (ha:bG φ a ca) (hb:bG φ b cb) (hf:kP kk a=true) {r:Bool} (he:DL a b=some r):
 (Op.equal t ca cb).run P w= .ok r w∧((∃k,kk= .leaf k)→∀td,P.underlying t=some td→Instr.sameNow td ca cb=some r)∧(r=true→Instr.sameBits 10000 cb ca=true):=by
 unfold yY at hk;split at hk
 ·rename_i k hk0;cases hk;have hle:vV a b=some r:=by
   unfold DL at he;split at he
   ·simp only[kP] at hf;cases k<;>simp[sM] at hf
   ·exact he
  obtain⟨q1,q2,q3⟩:=BF (w:=w) hk0 ha hb hf hle 9999;exact⟨q1,fun _=>q2,fun hr=>q3 hr 10000⟩
 ·split at hk
  ·rename_i ks hs;cases hk;obtain⟨fs,hu,s1,s2,s3⟩:=vB hs;cases a<;>simp[kP] at hf;rename_i l;cases b<;>simp only[DL,vV] at he<;>try(cases he;done)
   rename_i m;cases ha with
   |agg hl=>
    cases hb with
    |agg hm=>
     rename_i cl cm;have hfo:P.underlying t=some (.struct (P.fieldsOf t)):=by rw[hu];simp[Program.fieldsOf,hu]
     have hfs:P.fieldsOf t=fs:=by simp[Program.fieldsOf,hu]
     obtain⟨r1,r2⟩:=Bb (d:=9998) (P:=P) (w:=w) fs.toList 0 ks l m s3 hf (by simpa using hl) (by simpa using hm) r he;refine⟨?_,(fun⟨k,hk⟩=>by cases hk),fun hr=> ?_⟩
     ·have:=run_equalIn_agg (P:=P) w 9999 t ⟨cl⟩ ⟨cm⟩ hfo s1;rw[hfs] at this;exact this.trans r1
     ·obtain⟨z1,z2⟩:=r2 hr 9999;simp only[List.drop_zero] at z1 z2;simp only[Instr.sameBits,List.size_toArray,z1,beq_self_eq_true,Bool.true_and];exact z2
  ·cases hk
theorem DN {cl:List Value} {em:Bool} {d:Nat}:∀(fs:List Field) (n:Nat) (ks:List K0) (l:List AV),DW P n fs=some ks→vR ks l=true→bQ φ l (cl.drop n)→
 (forIn fs PUnit.unit fun(f:Field) (_:PUnit)=>(if f.name≠ "_" then(do Instr.checkKey em (d+1) f.type (←part f.type ⟨cl⟩ f.offset);Pure.pure (ForInStep.yield PUnit.unit)) else Pure.pure (ForInStep.yield PUnit.unit):Sem (ForInStep PUnit))).run P w= .ok PUnit.unit w
 | [],n,ks,l,_,_,_=>by simp
 |f :: fs,n,ks,l,hk,hf,hl=>by
  obtain⟨k,ks',h1,h2,h3,h4,rfl⟩:=UJ hk;obtain⟨a,l',rfl,h5,h6⟩:=IL hf;generalize hcl:cl.drop n=cl' at hl;cases hl with
  |cons ha hl'=>
   rename_i ca cl2;have g1:cl[n]? =some ca:=by
    have:=congrArg (fun x=>x[0]?) hcl;simpa[List.getElem?_drop] using this
   have d1:cl.drop (n+1)=cl2:=by rw[←List.drop_drop,hcl];rfl
   have p1:(part f.type ⟨cl⟩ f.offset).run P w= .ok ca w:=by rw[h1];exact vQ h3 (by simpa using g1)
   have ih:=DN (em:=em) (d:=d) fs (n+1) ks' l' h4 h6 (by rw[d1];exact hl');have hck:(Instr.checkKey em (d+1) f.type ca).run P w= .ok () w:=by
    rcases CV h3 with⟨i,_,hu⟩|⟨_,hu⟩|⟨_,hu⟩<;>simp[Instr.checkKey,Sem.run_bind,run_underlying hu]
   simp only[List.forIn_cons,ne_eq,h2,not_false_eq_true,if_true,Sem.run_bind,p1,Result.andThen_ok,hck,Sem.run_pure];exact ih
theorem run_checkKey {t:TypeId} {kk:KK} (hk:yY P t=some kk) {a:AV} {ca:Value} (ha:bG φ a ca) (hf:kP kk a=true) (em:Bool) (d:Nat):(Instr.checkKey em (d+2) t ca).run P w= .ok () w:=by
 unfold yY at hk;split at hk
 ·rename_i k hk0;rcases CV hk0 with⟨i,_,hu⟩|⟨_,hu⟩|⟨_,hu⟩<;>simp[Instr.checkKey,Sem.run_bind,run_underlying hu]
 ·split at hk
  ·rename_i ks hs;cases hk;have⟨fs,hu,s1,s2,s3⟩:=vB hs;cases a<;>simp[kP] at hf;rename_i l;cases ha with
   |agg hl=>
    rename_i cl;have:=DN (P:=P) (w:=w) (em:=em) (d:=d) fs.toList 0 ks l s3 hf (by simpa using hl);unfold Instr.checkKey;simp only[Sem.run_bind,run_underlying hu,Result.andThen_ok];rw[←Array.forIn_toList];exact(congrArg (fun r=>Result.andThen r fun(_:PUnit) w'=>Sem.run P (Pure.pure ():Sem Unit) w') this).trans rfl
  ·cases hk
structure Found (φ:dD) (k:AV) (es:List (AV×AV×Nat)) (cs:List MapEntry) (v:AV) (j:Nat) (e:MapEntry):Prop where
 ce:cs[j]? =some e
 val:bG φ v e.val
 ent:∃k',es[j]? =some (k',v,e.born)∧DL k k'=some true∧bG φ k' e.key
 set:∀x,XB k x es=es.set j (k,x,e.born)
 del:acG k es=es.eraseIdx j
theorem J6 {t:TypeId} {kk:KK} (hk:yY P t=some kk) {k:AV} {ck:Value} (ha:bG φ k ck) (hf:kP kk k=true) {td:TypeDesc} (hu:P.underlying t=some td):
 ∀{es:List (AV×AV×Nat)} {cs:List MapEntry},nG φ es cs→∀{r:Option AV},nU k es=some r→∀i0,∃r',(Instr.findAsking t ck cs i0).run P w= .ok r' w∧((∃kl,kk= .leaf kl)→Instr.findNow td ck cs i0=some r')∧
  ((r=none∧r'=none)∨∃v j e,r=some v∧r'=some (i0+j,e.val)∧Found φ k es cs v j e)
 |_,_, .nil,r,he,i0=>by
  simp[nU] at he;subst he;exact⟨none,by simp[Instr.findAsking],fun _=>by simp[Instr.findNow], .inl ⟨rfl,rfl⟩⟩
 |_,_, .cons (k:=k') (v:=v') (b:=b) (l:=l) (e:=e) (m:=m) hk' hv' hb ht,r,he,i0=>by
  simp only[nU] at he;split at he
  ·rename_i hkeq;cases he;refine have⟨q1,q2,_⟩:=Ag (w:=w) hk ha hk' hf hkeq;⟨some (i0,e.val), ?_,fun hl=> ?_, .inr ⟨v',0,e,rfl,rfl,⟨by simp,hv',⟨k',by simp[hb],hkeq,hk'⟩,fun x=>by simp[XB,hkeq,hb],by simp[acG,hkeq]⟩⟩⟩
   ·simp only[Instr.findAsking,Sem.run_bind,q1,Result.andThen_ok,if_true,Sem.run_pure]
   ·simp only[Instr.findNow,q2 hl td hu]
  ·rename_i hkeq;have⟨q1,q2,_⟩:=Ag (w:=w) hk ha hk' hf hkeq;refine have⟨r',f1,f2,f3⟩:=J6 hk ha hf hu ht he (i0+1);⟨r', ?_,fun hl=> ?_, ?_⟩
   ·simp only[Instr.findAsking,Sem.run_bind,q1,Result.andThen_ok,Bool.false_eq_true,if_false,f1]
   ·simp only[Instr.findNow,q2 hl td hu,f2 hl]
   ·rcases f3 with h0 |⟨v,j,e2,g1,g2,g3⟩
    ·exact .inl h0
    ·refine .inr ⟨v,j+1,e2,g1,by rw[g2];congr 2;omega, ?_⟩;exact have⟨k2,z1,z2,z3⟩:=g3.ent;⟨by simpa using g3.ce,g3.val,⟨k2,by simpa using z1,z2,z3⟩,fun x=>by simp[XB,hkeq,g3.set x],by simp[acG,hkeq,g3.del]⟩
  ·cases he
theorem qX {t:TypeId} {kk:KK} (hk:yY P t=some kk) {k:AV} {ck:Value} (ha:bG φ k ck) (hf:kP kk k=true) {es:List (AV×AV×Nat)} {cs:List MapEntry} (hr:nG φ es cs) {r:Option AV} (he:nU k es=some r):
 ∃r',(Instr.findKey t ck cs).run P w= .ok r' w∧((r=none∧r'=none)∨∃v j e,r=some v∧r'=some (j,e.val)∧Found φ k es cs v j e):=by
 have hu:∃td,P.underlying t=some td∧((∃kl,kk= .leaf kl)∨∃fs,td= .struct fs):=by
  unfold yY at hk;split at hk
  ·rename_i k0 hk0;cases hk;rcases CV hk0 with⟨i,_,hu⟩|⟨_,hu⟩|⟨_,hu⟩<;>exact⟨_,hu, .inl ⟨_,rfl⟩⟩
  ·split at hk
   ·rename_i ks hs;cases hk;exact have⟨fs,hu,_⟩:=vB hs;⟨_,hu, .inr ⟨fs,rfl⟩⟩
   ·cases hk
 have⟨td,hu,hkind⟩:=hu;refine have⟨r',f1,f2,f3⟩:=J6 (w:=w) hk ha hf hu hr he 0;⟨r', ?_, ?_⟩
 ·unfold Instr.findKey;simp only[Sem.run_bind,run_underlying hu,Result.andThen_ok];rcases hkind with hl |⟨fs,rfl⟩
  ·rw[f2 hl];rfl
  ·cases hr with
   |nil=>
    simp[nU] at he;subst he;rcases f3 with⟨_,rfl⟩|⟨v,j,e,g1,_⟩
    ·simp[Instr.findNow]
    ·cases g1
   |cons=>
    have:∀(e:MapEntry) (l:List MapEntry),Instr.findNow (.struct fs) ck (e :: l) 0=none:=by
     intro e l;simp[Instr.findNow,Instr.sameNow]
    rw[this];exact f1
 ·rcases f3 with h0 |⟨v,j,e,g1,g2,g3⟩
  ·exact .inl h0
  ·exact .inr ⟨v,j,e,g1,by simpa using g2,g3⟩
theorem nG.set {φ:dD} {l:List (AV×AV×Nat)} {m:List MapEntry} (hr:nG φ l m):∀(j:Nat) {k v:AV} {b:Nat} {e:MapEntry},bG φ k e.key→bG φ v e.val→e.born=b→nG φ (l.set j (k,v,b)) (m.set j e):=by
 induction hr with
 |nil=>intro j k v b e _ _ _;simp;exact .nil
 |cons h1 h2 h3 ht ih=>
  intro j k v b e g1 g2 g3;cases j with
  |zero=>simp;exact .cons g1 g2 g3 ht
  |succ j=>simp;exact .cons h1 h2 h3 (ih j g1 g2 g3)
theorem nG.append {φ:dD} {l:List (AV×AV×Nat)} {m:List MapEntry} (hr:nG φ l m) {l':List (AV×AV×Nat)} {m':List MapEntry} (hr':nG φ l' m'):nG φ (l++l') (m++m'):=by
 induction hr with
 |nil=>exact hr'
 |cons h1 h2 h3 _ ih=>exact .cons h1 h2 h3 ih
theorem run_setObj_map {r:Nat} {cs:Array MapEntry} {clock:Nat} (o:Obj) (hh:w.heap[r]? =some (.map cs clock)):(setObj r o).run P w= .ok () (w.putObj r o):=by
 unfold setObj;simp only[Sem.run,hh];rfl
theorem YA (H:bR P B φ h w) {id:Nat} {es es':List (AV×AV×Nat)} {clock clock':Nat} (hget:h.get id=some (.map es clock)) {L:Loc} (hL:φ id 0=some L) {cs':Array MapEntry} (hr:nG φ es' cs'.toList):
 bR P B φ (h.put id (.map es' clock')) (w.putObj L.blk (.map cs' clock'))∧Gw B w (w.putObj L.blk (.map cs' clock')):=by
 have⟨L',cs,l1,l2,l3⟩:=H.obj id _ hget;rw[hL] at l1;cases l1;have hlt:L.blk<w.heap.size:=H.lt id 0 L hL;refine have hB:B≤L.blk:=(H.own id _ 0 L hget hL).1 rfl;⟨H.update hget rfl rfl φ.le_refl (fun _ _ _=>rfl) (fun g K e=> .inl e) (by simp) (fun k _ hk=>World.putObj_heap_other (fun e=>hk 0 L hL e.symm)) (vK.put w (fun ds e=>by cases e)) ⟨L,cs',hL,World.putObj_heap_same hlt,hr⟩, ?_⟩
 exact Gw.of_block l2 hB (fun ds e=>by cases e) (fun r e=>by cases e) (World.putObj_heap_same hlt) (fun _ _ _ e=>by cases e) (fun _ _ _ e=>by cases e) (fun k hk=>World.putObj_heap_other hk) (by simp) rfl rfl rfl
theorem Wv {t kt et:TypeId} {kk:KK} {ok:Bool} {z m k:AV} {cm ck:Value} (H:bR P B φ h w) (hu:P.underlying t=some (.map kt et)) (hk:yY P kt=some kk) (hz:jv P et=some z) (hm:bG φ m cm) (hkv:bG φ k ck)
 (he:uH h kk ok z m k=some v):∃cv,(Instr.lookup t cm ck ok).run P w= .ok cv w∧bG φ v cv:=by
 unfold uH at he;cases hf:kP kk k with
 |false=>rw[hf] at he;cases he
 |true=>
  rw[hf,cond_true] at he;have⟨zv,it,z1,z2,z3,z4⟩:=lD hz w;have hzr:bG φ z zv:=oP z2;have main:∀(es:List (AV×AV×Nat)) (cs:Array MapEntry),nG φ es cs.toList→(∀(r:Option (Nat×Value)),(Instr.findKey kt ck cs.toList).run P w= .ok r w→
   (Instr.lookup t cm ck ok).run P w= .ok (match r with |some (_,x)=>if ok then .tuple #[x, .bool true] else x |none=>if ok then .tuple #[zv, .bool false] else zv) w)→
   (match nU k es with |some (some v)=>some (bif ok then AV.tup [v, .bool true] else v)|some none=>some (bif ok then AV.tup [z, .bool false] else z)|none=>none)=some v→
   ∃cv,(Instr.lookup t cm ck ok).run P w= .ok cv w∧bG φ v cv:=by
   intro es cs hr hrun hv;split at hv
   ·rename_i u hfe;have⟨r',g1,g2⟩:=qX (w:=w) hk hkv hf hr hfe;rcases g2 with⟨e,_⟩|⟨v2,j,e,e1,e2,e3⟩
    ·cases e
    ·cases e1;subst e2;cases hv;refine⟨_,hrun _ g1, ?_⟩;cases ok with
     |true=>exact .tup (.cons e3.val (.cons (.bool _) .nil))
     |false=>exact e3.val
   ·rename_i hfe;have⟨r',g1,g2⟩:=qX (w:=w) hk hkv hf hr hfe;rcases g2 with⟨_,rfl⟩|⟨v2,j,e,e1,_⟩
    ·cases hv;refine⟨_,hrun _ g1, ?_⟩;cases ok with
     |true=>exact .tup (.cons hzr (.cons (.bool _) .nil))
     |false=>exact hzr
    ·cases e1
   ·cases hv
  have hck:∀em,(Instr.checkKey em 10000 kt ck).run P w= .ok () w:=fun em=>run_checkKey hk hkv hf em 9998;cases m<;>simp only[mapOf] at he<;>try(cases he;done)
  ·rename_i id;split at he
   ·rename_i es c hmo;split at hmo
    ·rename_i es' c' hget;cases hmo;cases hm with
     |map hL=>
      have⟨L',cs,l1,l2,l3⟩:=H.obj id _ hget;rw[hL] at l1;cases l1;refine main es cs l3 (fun r hr=> ?_) he;unfold Instr.lookup;simp only[Sem.run_bind,run_underlying hu,Result.andThen_ok,run_getObj_map l2,Sem.run_pure,hck,hr];cases r with
      |none=>simp[z1]
      |some x=>simp
    ·rename_i es' c' hget;cases hmo;cases hm with
     |map hL=>
      have⟨L',cs,l1,l2,l3⟩:=H.obj id _ hget;rw[hL] at l1;cases l1;refine main es cs l3 (fun r hr=> ?_) he;unfold Instr.lookup;simp only[Sem.run_bind,run_underlying hu,Result.andThen_ok,run_getObj_map l2,Sem.run_pure,hck,hr];cases r with
      |none=>simp[z1]
      |some x=>simp
    ·cases hmo
   ·cases he
  ·cases hm;refine main [] #[] .nil (fun r hr=> ?_) he;unfold Instr.lookup;simp only[Sem.run_bind,run_underlying hu,Result.andThen_ok,Sem.run_pure,hck,hr];cases r with
   |none=>simp[z1]
   |some x=>simp
theorem J2 {t kt et:TypeId} {kk:KK} {m k u:AV} {cm ck cu:Value} (H:bR P B φ h w) (hu:P.underlying t=some (.map kt et)) (hk:yY P kt=some kk) (hm:bG φ m cm) (hkv:bG φ k ck) (huv:bG φ u cu)
 (he:lM h kk m k u=some h'):aiD P B φ h' w ((Instr.mapUpdate t cm ck cu).run P w):=by
 unfold lM at he;cases hf:kP kk k with
 |false=>rw[hf] at he;cases he
 |true=>
  rw[hf,cond_true] at he;have hck:∀em,(Instr.checkKey em 10000 kt ck).run P w= .ok () w:=fun em=>run_checkKey hk hkv hf em 9998;split at he
  ·rename_i id;split at he
   ·rename_i es c hget;cases hm with
    |map hL=>
     rename_i L;have⟨L',cs,l1,l2,l3⟩:=H.obj id _ hget;rw[hL] at l1;cases l1;split at he
     ·rename_i v0 hfe;cases he;have⟨r',g1,g2⟩:=qX (w:=w) hk hkv hf l3 hfe;rcases g2 with⟨e,_⟩|⟨v2,j,e,e1,e2,e3⟩
      ·cases e
      ·cases e1;subst e2;have⟨k',z1,z2,z3⟩:=e3.ent;have hsb:=(Ag (w:=w) hk hkv z3 hf z2).2.2 rfl;have hce:cs[j]? =some e:=by simpa using e3.ce
       have hstay:(Instr.keyThatStays (((cs[j]?).map (·.key)).getD ck) ck).run P w= .ok ck w:=by
        simp[hce,Instr.keyThatStays,hsb]
       have hmod:(cs.modify j fun e=>{e with key:=ck,val:=cu}).toList=cs.toList.set j {e with key:=ck,val:=cu}:=by
        apply List.ext_getElem?;intro i;rw[List.getElem?_set];by_cases hij:j=i
        ·subst hij;have hlt:j<cs.toList.length:=by simpa using(Array.getElem?_eq_some_iff.1 hce).1
         rw[if_pos rfl,if_pos hlt,Array.getElem?_toList,Array.getElem?_modify,if_pos rfl,hce];rfl
        ·rw[if_neg hij,Array.getElem?_toList,Array.getElem?_modify,if_neg hij,Array.getElem?_toList]
       have hrel:nG φ (XB k u es) (cs.modify j fun e=>{e with key:=ck,val:=cu}).toList:=by
        rw[hmod,e3.set u];exact l3.set j hkv huv rfl
       refine have⟨m1,m2⟩:=YA (clock':=c) H hget hL hrel;⟨_,φ, ?_,m1,φ.le_refl,m2⟩
       unfold Instr.mapUpdate;simp only[Sem.run_bind,run_underlying hu,Result.andThen_ok,run_getObj_map l2,hck,g1,hstay,run_setObj_map _ l2]
     ·rename_i hfe;cases he;have⟨r',g1,g2⟩:=qX (w:=w) hk hkv hf l3 hfe;rcases g2 with⟨_,rfl⟩|⟨v2,j,e,e1,_⟩
      ·have hrel:nG φ (es++[(k,u,c)]) (cs.push {key:=ck,val:=cu,born:=c}).toList:=by
        rw[Array.toList_push];exact l3.append (.cons hkv huv rfl .nil)
       refine have⟨m1,m2⟩:=YA (clock':=c+1) H hget hL hrel;⟨_,φ, ?_,m1,φ.le_refl,m2⟩
       unfold Instr.mapUpdate;simp only[Sem.run_bind,run_underlying hu,Result.andThen_ok,run_getObj_map l2,hck,g1,run_setObj_map _ l2]
      ·cases e1
     ·cases he
   ·cases he
  ·cases he
end
section
variable {P:Program} {B:Base} {φ:dD} {h h':ah} {w:World} {v:AV}
theorem O7 {id:Nat} {r:Row} (H:bR P B φ h w) (hr:h.row id=some r) (hrw:r.rw=true) {L:Loc} (hL:φ id r.g=some L):∃c t,w.heap[L.blk]? =some (.cells c t (0,0)):=by
 have hrow:mU φ id r w:=H.obj id _ (ah.row_some.1 hr);exact have⟨_,c,t,h1,_⟩:=hrow.own hrw r.g L hrow.mg hL;⟨c,t,h1⟩
theorem Bw {a b:Addr} {c d:Array Value} {t u:TypeId} (ha:w.heap[a.block]? =some (.cells c t (0,0))) (hb:w.heap[b.block]? =some (.cells d u (0,0))) (hne:a.block≠b.block):(sameAddr a b).run P w= .ok false w:=by
 have hne':(a.block==b.block)=false:=by simp[hne]
 have f1:∀o,w.frozen? ⟨a.block,o,none⟩=false:=fun o=>by simp[World.frozen?,ha]
 have f2:∀o,w.frozen? ⟨b.block,o,none⟩=false:=fun o=>by simp[World.frozen?,hb]
 have g1:w.frozen? a=false:=by simp[World.frozen?,ha]
 have g2:w.frozen? b=false:=by simp[World.frozen?,hb]
 have s1:w.shape? a.block=some (t,c.size):=by simp[World.shape?,ha]
 have s2:w.shape? b.block=some (u,d.size):=by simp[World.shape?,hb]
 simp[sameAddr,hne',Sem.run_bind,g1,g2,noView,viewAt,s1,s2,mayBeOne,stringish,f1,f2]
theorem adF {t:TypeId} {cx cy:Value} {s:Sem Bool} (hh:∀d,(Op.equalIn (d+1) t cx cy).run P w=s.run P w):(Op.equal t cx cy).run P w=s.run P w:=hh 9999
theorem je {t:TypeId} {cx cy:Value} {r:Bool} (hh:∀d,(Op.equalIn (d+1) t cx cy).run P w= .ok r w):(Op.equal t cx cy).run P w= .ok r w:=hh 9999
theorem ku {op:BinOp} {neg:Bool} (hop:(op= .eql∧neg=false)∨(op= .neq∧neg=true)) {t:TypeId} {cx cy:Value} {r:Bool} (ox oy:Operand) (hg:(eqGuard op t ox oy cx cy).run P w= .ok () w)
 (h1:∀(k:IntKind) (n:Int),cx≠ .int k n) (h2:∀k n,cx≠ .float k n) (h3:∀k a b,cx≠ .complex k a b) (h4:∀s,cx≠ .string s) (he:(Op.equal t cx cy).run P w= .ok r w):
 (do eqGuard op t ox oy cx cy;binOp op t cx cy:Sem Value).run P w= .ok (.bool (bif neg then !r else r)) w:=by
 have hb1:binOp .eql t cx cy=(do Pure.pure (.bool (←Op.equal t cx cy))):=by
  cases cx<;>first |rfl |exact absurd rfl (h1 _ _)|exact absurd rfl (h2 _ _)|exact absurd rfl (h3 _ _ _)|exact absurd rfl (h4 _)
 have hb2:binOp .neq t cx cy=(do Pure.pure (.bool (!(←Op.equal t cx cy)))):=by
  cases cx<;>first |rfl |exact absurd rfl (h1 _ _)|exact absurd rfl (h2 _ _)|exact absurd rfl (h3 _ _ _)|exact absurd rfl (h4 _)
 rcases hop with⟨rfl,rfl⟩|⟨rfl,rfl⟩
 ·simp[Sem.run_bind,hg,hb1,he]
 ·simp[Sem.run_bind,hg,hb2,he]
theorem iq {op:BinOp} {t:TypeId} {cx cy:Value} (ox oy:Operand) (h1:∀a,cx≠ .agg a) (h2:cx≠ .nilIface):(eqGuard op t ox oy cx cy).run P w= .ok () w:=by
 unfold eqGuard;cases op<;>simp
 all_goals
  cases cx<;>first |rfl |exact absurd rfl (h1 _)|exact absurd rfl h2
theorem EF {op:BinOp} {t:TypeId} {cx cy:Value} (ox oy:Operand) (hco:U5 .ifn ox oy=true) (h1:∀a,cx≠ .agg a):(eqGuard op t ox oy cx cy).run P w= .ok () w:=by
 have hc:((ox matches .const _)||(oy matches .const _))=true:=by
  cases ox<;>cases oy<;>first |rfl |cases hco
 unfold eqGuard;cases op<;>simp
 all_goals
  cases cx<;>first |rfl |exact absurd rfl (h1 _)|skip
 all_goals
  cases cy<;>first |rfl |(simp only[hc];rfl)|(cases ox<;>cases oy<;>first |rfl |cases hco)
theorem UF {t e:TypeId} {n:Nat} {x y:AV} {cx cy:Value} (H:bR P B φ h w) (hu:P.underlying t=some (.pointer e)) (hs:sizeT P e=some (n+1)) (hx:bG φ x cx) (hy:bG φ y cy) {r:Bool} (he:Yq h x y=some r):
 (Op.equal t cx cy).run P w= .ok r w∧∃p,cx= .pointer p:=by
 unfold Yq at he;split at he
 ·cases he;cases hx;cases hy;exact⟨je fun d=>by simp[Op.equalIn,run_underlying hu],_,rfl⟩
 ·cases he;cases hx;cases hy;exact⟨je fun d=>by simp[Op.equalIn,run_underlying hu],_,rfl⟩
 ·cases he;cases hx;cases hy;exact⟨je fun d=>by simp[Op.equalIn,run_underlying hu],_,rfl⟩
 ·rename_i id g i o id' g' i' o';cases hx with
  |ptr hL hi=>
   rename_i L;cases hy with
   |ptr hL' hi'=>
    rename_i L';refine⟨?_,_,rfl⟩;have hred:(Op.equal t (.pointer (some ⟨L.blk,L.base+i*L.sz+o,none⟩)) (.pointer (some ⟨L'.blk,L'.base+i'*L'.sz+o',none⟩))).run P w=(sameAddr ⟨L.blk,L.base+i*L.sz+o,none⟩ ⟨L'.blk,L'.base+i'*L'.sz+o',none⟩).run P w:=
     adF fun d=>by simp[Op.equalIn,run_underlying hu,iJ hs]
    rw[hred];cases hid:Nat.beq id id' with
    |true=>
     rw[hid,cond_true] at he;have:=aG.1 hid;subst this;split at he
     ·rename_i rw hrow;cases hc:(Nat.beq g rw.g&&Nat.beq g' rw.g&&Nat.blt o rw.sz&&Nat.blt o' rw.sz) with
      |false=>rw[hc] at he;cases he
      |true=>
       rw[hc,cond_true] at he;cases he;simp only[Bool.and_eq_true,aG,bC] at hc;obtain⟨⟨⟨rfl,rfl⟩,c3⟩,c4⟩:=hc;rw[hL] at hL';cases hL';have hr:mU φ id rw w:=H.obj id _ (ah.row_some.1 hrow);have hsz:L.sz=rw.sz:=(hr.gen _ L hL).2;have hbb:(L.blk==L.blk)=true:=by simp
       simp only[sameAddr,hbb,if_true,Sem.run_pure];congr 1;rw[Bool.eq_iff_iff];simp only[beq_iff_eq,Addr.mk.injEq,true_and,and_true,Bool.and_eq_true,aG,hsz];constructor
       ·intro e;have e2:i*rw.sz+o=i'*rw.sz+o':=by omega
        have d1:(i*rw.sz+o)/rw.sz=i:=by rw[Nat.mul_comm,Nat.mul_add_div hr.sz,Nat.div_eq_of_lt c3,Nat.add_zero]
        have d2:(i'*rw.sz+o')/rw.sz=i':=by rw[Nat.mul_comm,Nat.mul_add_div hr.sz,Nat.div_eq_of_lt c4,Nat.add_zero]
        have:i=i':=by rw[←d1, ←d2,e2]
        subst this;exact⟨rfl,by omega⟩
       ·rintro⟨rfl,rfl⟩;rfl
     ·cases he
    |false=>
     rw[hid,cond_false] at he;have hid:=dF.1 hid;split at he
     ·rename_i r1 r2 hr1 hr2;cases hc:(r1.rw&&r2.rw&&Nat.beq g r1.g&&Nat.beq g' r2.g) with
      |false=>rw[hc] at he;cases he
      |true=>
       rw[hc,cond_true] at he;cases he;simp only[Bool.and_eq_true,aG] at hc;obtain⟨⟨⟨c1,c2⟩,rfl⟩,rfl⟩:=hc;have⟨c,tt,q1⟩:=O7 H hr1 c1 hL;exact have⟨d,uu,q2⟩:=O7 H hr2 c2 hL';Bw q1 q2 (fun e=>hid (H.disj id _ id' _ _ L L' (ah.row_some.1 hr1) c1 hL hL' e))
     ·cases he
 ·cases he
theorem Pt {t:TypeId} {x y:Operand} {k:EqK} (h:aa2 P t x y=some k):Y7 P t=some k∧U5 k x y=true:=by
 unfold aa2 at h;split at h
 ·rename_i k' hk;cases ho:U5 k' x y with
  |true=>rw[ho,cond_true] at h;cases h;exact⟨hk,ho⟩
  |false=>rw[ho] at h;cases h
 ·cases h
theorem UN {op:BinOp} {neg:Bool} (hop:(op= .eql∧neg=false)∨(op= .neq∧neg=true)) {t:TypeId} {k:EqK} {x y:AV} {cx cy:Value} (H:bR P B φ h w) (hk:Y7 P t=some k) (hx:bG φ x cx) (hy:bG φ y cy) {r:Bool} (he:eqA h k x y=some r) (ox oy:Operand) (hco:U5 k ox oy=true):
 (do eqGuard op t ox oy cx cy;binOp op t cx cy:Sem Value).run P w= .ok (.bool (bif neg then !r else r)) w:=by
 unfold Y7 at hk;split at hk
 ·rename_i hu;cases hk;simp only[eqA,adY] at he;split at he
  ·cases he;cases hx;cases hy;exact ku hop ox oy (iq ox oy (by simp) (by simp)) (by simp) (by simp) (by simp) (by simp) (run_equal_bool w t _ _ hu)
  ·cases he
 ·rename_i e hu;split at hk
  ·rename_i n hs;cases hk;simp only[eqA] at he;obtain⟨h1,p,rfl⟩:=UF H hu hs hx hy he;exact ku hop ox oy (iq ox oy (by simp) (by simp)) (by simp) (by simp) (by simp) (by simp) h1
  ·cases hk
 ·rename_i e hu;cases hk;simp only[eqA,ag3] at he;split at he
  ·cases he;cases hx;cases hy;exact ku hop ox oy (iq ox oy (by simp) (by simp)) (by simp) (by simp) (by simp) (by simp) (je fun d=>by simp[Op.equalIn,run_underlying hu])
  ·cases he;cases hx;cases hy;exact ku hop ox oy (iq ox oy (by simp) (by simp)) (by simp) (by simp) (by simp) (by simp) (je fun d=>by simp[Op.equalIn,run_underlying hu])
  ·cases he;cases hx;cases hy;exact ku hop ox oy (iq ox oy (by simp) (by simp)) (by simp) (by simp) (by simp) (by simp) (je fun d=>by simp[Op.equalIn,run_underlying hu])
  ·cases he;cases hx;cases hy;exact ku hop ox oy (iq ox oy (by simp) (by simp)) (by simp) (by simp) (by simp) (by simp) (je fun d=>by simp[Op.equalIn,run_underlying hu])
  ·cases he;cases hx;cases hy;exact ku hop ox oy (iq ox oy (by simp) (by simp)) (by simp) (by simp) (by simp) (by simp) (je fun d=>by simp[Op.equalIn,run_underlying hu])
  ·cases he
 ·rename_i e f hu;cases hk;simp only[eqA,ahC] at he;split at he
  ·cases he;cases hx;cases hy;exact ku hop ox oy (iq ox oy (by simp) (by simp)) (by simp) (by simp) (by simp) (by simp) (je fun d=>by simp[Op.equalIn,run_underlying hu])
  ·cases he;cases hx;cases hy;exact ku hop ox oy (iq ox oy (by simp) (by simp)) (by simp) (by simp) (by simp) (by simp) (je fun d=>by simp[Op.equalIn,run_underlying hu])
  ·cases he;cases hx;cases hy;exact ku hop ox oy (iq ox oy (by simp) (by simp)) (by simp) (by simp) (by simp) (by simp) (je fun d=>by simp[Op.equalIn,run_underlying hu])
  ·cases he
 ·rename_i e f g hu;cases hk;simp only[eqA,eqFn] at he;split at he
  ·cases he;cases hx;cases hy;exact ku hop ox oy (iq ox oy (by simp) (by simp)) (by simp) (by simp) (by simp) (by simp) (je fun d=>by simp[Op.equalIn,run_underlying hu])
  ·cases he;cases hy;cases hx<;>exact ku hop ox oy (iq ox oy (by simp) (by simp)) (by simp) (by simp) (by simp) (by simp) (je fun d=>by simp[Op.equalIn,run_underlying hu])
  ·cases he;cases hx;cases hy<;>exact ku hop ox oy (iq ox oy (by simp) (by simp)) (by simp) (by simp) (by simp) (by simp) (je fun d=>by simp[Op.equalIn,run_underlying hu])
  ·cases he
 ·rename_i ms hu;cases hk;simp only[eqA,ahj] at he;split at he
  ·cases he;cases hx;cases hy;exact ku hop ox oy (EF ox oy hco (by simp)) (by simp) (by simp) (by simp) (by simp) (je fun d=>by simp[Op.equalIn,run_underlying hu])
  ·cases he;cases hx;cases hy;exact ku hop ox oy (EF ox oy hco (by simp)) (by simp) (by simp) (by simp) (by simp) (je fun d=>by simp[Op.equalIn,run_underlying hu])
  ·cases he;cases hx;cases hy;exact ku hop ox oy (EF ox oy hco (by simp)) (by simp) (by simp) (by simp) (by simp) (je fun d=>by simp[Op.equalIn,run_underlying hu])
  ·cases he
 ·rename_i fs hu;split at hk
  ·rename_i ks hs;cases hk;obtain⟨fs',hu',s1,s2,s3⟩:=vB hs;simp only[eqA,aeH] at he;split at he
   ·rename_i l m;cases hf:vR ks l with
    |false=>rw[hf] at he;cases he
    |true=>
     rw[hf,cond_true] at he;have hkk:yY P t=some (.st ks):=by
      unfold yY;have:NI P t=none:=by unfold NI;rw[hu]
      rw[this,hs]
     have:=(Ag (w:=w) hkk hx hy (by simpa[kP] using hf) (by simpa[DL] using he)).1;cases hx;cases hy;exact ku hop ox oy (run_eqGuard_agg w _ _ _ _ _ _ s2) (by simp) (by simp) (by simp) (by simp) this
   ·cases he
  ·cases hk
 ·cases hk
end
section
variable {P:Program} {B:Base} {φ:dD} {h h':ah} {w:World} {v:AV}
theorem Pf {n id:Nat} {x:AV} {cx:Value} {t:TypeId} (H:bR P B φ h w) (hx:bG φ x cx) (hc:(Nat.beq x.cells.length n&&aB x.cells&&Nat.blt 0 n)=true) (hg:B.gh id=some (.row {es:=[x.cells],sz:=n,g:=0,m:=0,rw:=true,ty:=some t})):
 oC P (B.del id) φ h (.ptr id 0 0 0) w ((Instr.box t cx).run P w):=by
 simp only[Bool.and_eq_true,aG,bC] at hc;have⟨⟨c1,c2⟩,c3⟩:=hc;have hcells:=hx.cells;obtain⟨φ',h1,h2,h3,h4⟩:=wL H (es:=[x.cells]) c3 (by intro e he;simp at he;subst he;exact c1) (by intro e he;simp at he;subst he;exact c2) (vals:=cx.cells.toList) (spare:=[]) (by simpa using hcells) (tot:=1)
  (by simp;rw[←c1,hcells.length];simp) t (some t) (fun _ e=>by cases e;rfl) hg
 refine⟨.pointer (some ⟨w.heap.size,0,none⟩),_,φ', ?_, ?_,h3,h1,h4⟩
 ·simp[Instr.box,newVar,newRow,Go.newRow]
 ·have:=bG.ptr (φ:=φ') (i:=0) (o:=0) h2 (by simp);simpa using this
theorem WI {z:List AV} {t:TypeId} {id:Nat} (H:bR P B φ h w) {za:AV} (hz:jv P t=some za) (hzc:za.cells=z) (hc:(Nat.blt 0 z.length&&aB z)=true) (hg:B.gh id=some (.row {es:=[z],sz:=z.length,g:=0,m:=0,rw:=true,ty:=some t})):
 oC P (B.del id) φ h (.ptr id 0 0 0) w ((Instr.alloc t true (.tuple #[])).run P w):=by
 have⟨zv,i,h1,h2,h3,h4⟩:=lD hz w;subst hzc;refine have⟨cv,w',φ',a,b⟩:=Pf (t:=t) (n:=za.cells.length) H (oP h2) (by simp only[Bool.and_eq_true] at hc ⊢;exact⟨⟨aG.2 rfl,hc.2⟩,hc.1⟩) hg;⟨cv,w',φ', ?_,b⟩
 simp[Instr.alloc,h1];simpa[Instr.box] using a
theorem KN {n:Nat} {x v:AV} {cx:Value} {t:TypeId} (H:bR P B φ h w) (hx:bG φ x cx) (hc:(Nat.beq x.cells.length n&&aB x.cells&&Nat.blt 0 n)=true) (he:some (AV.ptr h.sz 0 0 0,newRow h [x.cells] n (some t))=some (v,h')):oC P B φ h' v w ((Instr.box t cx).run P w):=by
 cases he;simp only[Bool.and_eq_true,aG,bC] at hc;have⟨⟨c1,c2⟩,c3⟩:=hc;have hcells:=hx.cells;obtain⟨φ',h1,h2,h3,h4⟩:=yO H (es:=[x.cells]) c3 (by intro e he;simp at he;subst he;exact c1) (by intro e he;simp at he;subst he;exact c2) (vals:=cx.cells.toList) (spare:=[]) (by simpa using hcells) (tot:=1)
  (by simp;rw[←c1,hcells.length];simp) t (some t) (fun e he=>by cases he;rfl)
 refine⟨.pointer (some ⟨w.heap.size,0,none⟩),_,φ', ?_, ?_,h3,h1,h4⟩
 ·simp[Instr.box,newVar,newRow,Go.newRow]
 ·have:=bG.ptr (φ:=φ') (i:=0) (o:=0) h2 (by simp);simpa using this
theorem UH (P:Program) (t:TypeId):Lv P t=none∨Lv P t=some t:=by
 unfold Lv;cases jv P t with
 |none=>exact .inl rfl
 |some z=>cases hb:oJ z.cells with
  |true=>exact .inr (by simp only[hb,cond_true])
  |false=>exact .inl (by simp only[hb,cond_false])
theorem XO {n:Nat} {x v:AV} {cx:Value} {t:TypeId} (H:bR P B φ h w) (hx:bG φ x cx) (he:mo h (Lv P t) n x=some (v,h')):oC P B φ h' v w ((Instr.box t cx).run P w):=by
 rcases UH P t with hn |hn
 ·rw[hn] at he;exact aaF H hx he
 ·rw[hn] at he;unfold mo at he;cases hc:(Nat.beq x.cells.length n&&aB x.cells&&Nat.blt 0 n) with
  |false=>rw[hc] at he;cases he
  |true=>rw[hc,cond_true] at he;exact KN H hx hc he
theorem abC {n id:Nat} {x:AV} {cx:Value} {t:TypeId} (H:bR P B φ h w) (hx:bG φ x cx) (hc:(Nat.beq x.cells.length n&&aB x.cells&&Nat.blt 0 n)=true) (hg:B.gh id=some (.row {es:=[x.cells],sz:=n,g:=0,m:=0,rw:=true,ty:=Lv P t})):
 oC P (B.del id) φ h (.ptr id 0 0 0) w ((Instr.box t cx).run P w):=by
 rcases UH P t with hn |hn
 ·rw[hn] at hg;exact J8 H hx hc hg
 ·rw[hn] at hg;exact Pf H hx hc hg
theorem Vl {z:List AV} {v:AV} {t:TypeId} (H:bR P B φ h w) {za:AV} (hz:jv P t=some za) (hzc:za.cells=z) (he:(bif Nat.blt 0 z.length&&aB z then some (AV.ptr h.sz 0 0 0,newRow h [z] z.length (some t)) else none)=some (v,h')):
 oC P B φ h' v w ((Instr.alloc t true (.tuple #[])).run P w):=by
 have⟨zv,i,h1,h2,h3,h4⟩:=lD hz w;cases hb:(Nat.blt 0 z.length&&aB z) with
 |false=>rw[hb] at he;cases he
 |true=>
  rw[hb,cond_true] at he;subst hzc;refine have⟨cv,w',φ',a,b⟩:=KN (t:=t) H (oP h2) (by simp[aG.2 rfl];simp only[Bool.and_eq_true,bC] at hb;exact⟨hb.2,hb.1⟩) he;⟨cv,w',φ', ?_,b⟩
  simp[Instr.alloc,h1];simpa[Instr.box] using a
theorem R8 {id g i o:Nat} {r:Row} (H:bR P B φ h w) (hr:h.row id=some r) (hrw:r.rw=true) (hg:g=r.g) {L:Loc} (hL:φ id g=some L):
 L.base=0∧L.sz=r.sz∧L.ext=r.es.length∧∃c t,w.heap[L.blk]? =some (.cells c t (0,0))∧c.size=L.tot*L.sz∧L.ext≤L.tot:=by
 subst hg;have hrow:mU φ id r w:=H.obj id _ (ah.row_some.1 hr);have⟨hb,c,t,h1,h2,h3⟩:=hrow.own hrw r.g L hrow.mg hL;have⟨L',hL',hext⟩:=hrow.cur;rw[hL] at hL';cases hL';exact⟨hb,(hrow.gen _ _ hL).2,hext,c,t,h1,h2,h3⟩
theorem aa9 {s d t:TypeId} {n:Nat} {x v:AV} {cx:Value} (H:bR P B φ h w) (hs:P.underlying s=some (.pointer t)) (hd:P.underlying d=some .unsafePointer) (hz:sizeT P t=some (n+1)) (hx:bG φ x cx) (he:Xn h x=some v):
 ∃cv,(convert s d cx).run P w= .ok cv w∧bG φ v cv:=by
 unfold Xn at he;split at he
 ·cases he;cases hx;exact⟨.pointer none,by simp[convert,run_underlying hs,run_underlying hd,Conv.unsafePointer], .nilPtr⟩
 ·rename_i id g i o;split at he
  ·rename_i r hr;cases hb:(r.rw&&Nat.ble r.m g&&Nat.beq g r.g&&Nat.blt i r.es.length&&Nat.blt o r.sz) with
   |false=>rw[hb] at he;cases he
   |true=>
    rw[hb,cond_true] at he;cases he;simp only[Bool.and_eq_true,aI,aG,bC] at hb;have⟨⟨⟨⟨h1,h2⟩,h3⟩,h4⟩,h5⟩:=hb;cases hx with
    |ptr hL hi=>
     rename_i L;have⟨q1,q2,q3,c,u,q4,q5,q6⟩:=R8 (i:=i) (o:=o) H hr h1 h3 hL;obtain⟨j,hj,hjs⟩:∃j,P.info? t=some j∧j.size=n+1:=by
      unfold sizeT at hz;cases hh:P.info? t with
      |none=>rw[hh] at hz;cases hz
      |some j=>rw[hh] at hz;simp at hz;exact⟨j,rfl,hz⟩
     refine⟨_,Lib.run_to_unsafe w ⟨L.blk,L.base+i*L.sz+o,none⟩ hs hd hj (by omega) (e:=u) (cells:=c.size) ?_ ?_, .ptr hL hi⟩
     ·simp only[World.shape?,q4]
     ·show L.base+i*L.sz+o<c.size;rw[q1,q5,q2];have:(i+1)*r.sz≤L.tot*r.sz:=Nat.mul_le_mul_right _ (by omega);rw[Nat.add_mul] at this;omega
  ·cases he
 ·cases he
theorem UY {t:TypeId} {n count:Nat} (hs:tN P t=true) (hn:P.cellsOf t=n+1) (hc:1≤count):liesAt P P.depth t count 0 t 1=true:=by
 unfold tN at hs;simp only[Bool.and_eq_true,bC] at hs;obtain⟨d,hd⟩:∃d,P.depth=d+1:=⟨P.depth-1,by omega⟩;have h2:=hs.2;generalize hq:P.depth=q at *;subst hd;rw[liesAt,hq];rw[rowAt];simp only[hn,Nat.succ_ne_zero,if_false,Nat.zero_div,Nat.zero_mod,Nat.zero_add,h2,Bool.and_true];simp[hc]
theorem cellsOf_size {t:TypeId} {n:Nat} (hz:sizeT P t=some n):P.cellsOf t=n:=by
 unfold sizeT at hz;cases hh:P.info? t with
 |none=>rw[hh] at hz;cases hz
 |some j=>
  rw[hh] at hz;simp at hz;simp[Program.cellsOf,hh,hz]
theorem Kc {u s o:Nat}:∀{us:List (Nat×Nat×Nat)},FN us u s o=true→(u,s,o)∈us
 | [],h=>by simp[FN] at h
 |(a,b,c) :: l,h=>by
  unfold FN at h;cases hb:(Nat.beq a u&&Nat.beq b s&&Nat.beq c o) with
  |true=>
   simp only[Bool.and_eq_true,aG] at hb;obtain⟨⟨rfl,rfl⟩,rfl⟩:=hb;exact List.mem_cons_self
  |false=>rw[hb,cond_false] at h;exact List.mem_cons_of_mem _ (Kc h)
theorem IG {u t:TypeId} {m o count n:Nat} (hd:3≤P.depth) (hs:tN P t=true) (hn:P.cellsOf t=n+1) (h:Mh P t (u,m,o)=true) (hc:1≤count):P.cellsOf u=m∧liesAt P P.depth u count o t 1=true:=by
 unfold Mh at h;simp only at h;split at h
 ·rename_i fs hu;simp only[Bool.and_eq_true,bC,Bool.not_eq_true'] at h;have⟨⟨⟨h1,h2⟩,h3⟩,h4⟩:=h;have⟨f,hf,h5⟩:=List.any_eq_true.1 h4;simp only[Bool.and_eq_true,aG] at h5;obtain⟨rfl,rfl⟩:=h5;have hm:P.cellsOf u=m:=by
   split at h1
   ·rename_i k hk;rw[aG] at h1;rw[cellsOf_size hk,h1]
   ·cases h1
  refine⟨hm, ?_⟩;unfold tN at hs;simp only[Bool.and_eq_true,bC] at hs;have h6:=hs.2;obtain⟨d,hd⟩:∃d,P.depth=d+3:=⟨P.depth-3,by omega⟩;generalize hq:P.depth=q at *;subst hd;rw[liesAt,hq];have h7:rowAt P (fun x=>sameLayout P (d+3) x f.type) (d+3) u count f.offset 1=true:=by
   rw[rowAt];have h8:f.offset/P.cellsOf u=0:=Nat.div_eq_of_lt (by omega);have h9:f.offset%P.cellsOf u=f.offset:=Nat.mod_eq_of_lt (by omega);have ha:P.cellsOf u≠0:=by omega
   have hr:rowAt P (fun x=>sameLayout P (d+3) x f.type) (d+2) f.type 1 0 1=true:=by
    rw[rowAt];simp[hn,h6]
   have hb:(fs.any fun g=>decide (g.offset≤f.offset)&&decide (f.offset<g.offset+P.cellsOf g.type)&&rowAt P (fun x=>sameLayout P (d+3) x f.type) (d+2) g.type 1 (f.offset-g.offset) 1)=true:=by
    rw[Array.any_eq_true'];refine⟨f,Array.mem_toList_iff.1 hf, ?_⟩;have:f.offset<f.offset+P.cellsOf f.type:=by omega
    rw[Nat.sub_self,hr];simp[this]
   simp only[ha,if_false,h8,h9,hu,h2,hb,Bool.not_false,Bool.true_and,Bool.and_true];simp;omega
  rw[h7,Bool.true_or]
 ·cases h
theorem aaP {s d t:TypeId} {n:Nat} {us:List (Nat×Nat×Nat)} {x v:AV} {cx:Value} (H:bR P B φ h w) (hs:P.underlying s=some .unsafePointer) (hd:P.underlying d=some (.pointer t)) (hz:sizeT P t=some (n+1)) (hl:tN P t=true) (hus:∀x∈us,Mh P t x=true) (hx:bG φ x cx) (he:V9 h t (n+1) us x=some v):
 ∃cv,(convert s d cx).run P w= .ok cv w∧bG φ v cv:=by
 unfold V9 at he;split at he
 ·cases he;cases hx;exact⟨.pointer none,by simp[convert,run_underlying hs,run_underlying hd,Conv.unsafePointer], .nilPtr⟩
 ·rename_i id g i o;split at he
  ·rename_i r hr;split at he
   ·rename_i u hu;cases hb:(r.rw&&Nat.ble r.m g&&Nat.beq g r.g&&Nat.beq i 0&&Nat.blt 0 r.es.length&&((Nat.beq u t&&Nat.beq o 0&&Nat.beq r.sz (n+1))||FN us u r.sz o)) with
    |false=>rw[hb] at he;cases he
    |true=>
     rw[hb,cond_true] at he;cases he;simp only[Bool.and_eq_true,Bool.or_eq_true,aI,aG,bC] at hb;obtain⟨⟨⟨⟨⟨h1,h2⟩,h3⟩,rfl⟩,h8⟩,h4⟩:=hb;cases hx with
     |ptr hL hi=>
      rename_i L;have⟨q1,q2,q3,c,u',q4,q5,q6⟩:=R8 (i:=0) (o:=o) H hr h1 h3 hL;have⟨c',f',q7⟩:=(show mU φ id r w from H.obj id _ (ah.row_some.1 hr)).ty u hu h1 g L h2 hL
      rw[q4] at q7;cases q7;have hj:∃j,P.info? t=some j:=by
       unfold sizeT at hz;cases hh:P.info? t with
       |none=>rw[hh] at hz;cases hz
       |some j=>exact⟨j,rfl⟩
      have⟨j,hj⟩:=hj;refine have hco:=cellsOf_size hz;⟨_,Lib.run_from_unsafe w ⟨L.blk,L.base+0*L.sz+o,none⟩ hs hd hj (e:=u) (cells:=c.size) ?_ ?_, .ptr hL hi⟩
      ·simp only[World.shape?,q4]
      ·show liesAt P P.depth u (c.size/P.cellsOf u) (L.base+0*L.sz+o) t 1=true;rw[q1,Nat.zero_mul,Nat.zero_add];rcases h4 with⟨⟨hut,rfl⟩,h7⟩|h4
       ·rw[hut];refine UY hl hco ?_;rw[q5,q2,h7,hco,Nat.mul_div_cancel _ (Nat.succ_pos n)];omega
       ·have hh:=hus _ (Kc h4);have hd3:3≤P.depth:=by
         have:1≤Made.depth:=by decide
         unfold Program.depth;omega
        obtain⟨k1, -⟩:=IG (count:=1) hd3 hl hco hh (Nat.le_refl 1);refine(IG hd3 hl hco hh ?_).2;have h0:0<r.sz:=by
         have:=hh;unfold Mh at this;simp only at this;split at this
         ·simp only[Bool.and_eq_true,bC] at this;omega
         ·cases this
        rw[q5,q2,k1,Nat.mul_div_cancel _ h0];omega
   ·cases he
  ·cases he
 ·cases he
theorem Yi {ts:Array TypeId} {ty:TypeId} {x v:AV} {cx:Value} (hx:bG φ x cx) (he:K5 x=some v):∃cv,(Builtin.unsafeSliceData_ ts ty #[cx]).run P w= .ok cv w∧bG φ v cv:=by
 unfold K5 at he;split at he
 ·cases he;cases hx;exact⟨_,Lib.run_unsafeSliceData_nil w ts ty 0 0, .nilPtr⟩
 ·rename_i id g s len cap ex;cases hb:Nat.blt 0 cap with
  |false=>rw[hb] at he;cases he
  |true=>
   rw[hb,cond_true] at he;cases he;have hb:=bC.1 hb;cases hx with
   |slc hL h1 h2 h3 h4 h5 h6=>
    rename_i c off L;refine⟨_,Lib.run_unsafeSliceData_row w ts ty ⟨L.blk,off,none⟩ len c (by omega), ?_⟩;have:=bG.ptr (φ:=φ) (i:=s) (o:=0) hL (by omega);rw[h6 (by omega)];exact this
 ·cases he
theorem RD (w:World) (b n:Nat) {c:Array Value} {t:TypeId} {f:Nat×Nat} (hb:w.heap[b]? =some (.cells c t f)):∃f',(w.freeze ⟨b,0,none⟩ n).heap[b]? =some (.cells c t f'):=by
 unfold World.freeze;by_cases hn:n=0
 ·rw[if_pos hn];exact⟨f,hb⟩
 ·rw[if_neg hn];refine have⟨lo,hi⟩:=f;⟨if lo==hi then(0,0+n) else(min lo 0,max hi (0+n)), ?_⟩
  simp only[Array.getElem?_modify,if_pos,hb,Option.map_some]
theorem SK (w:World) (b n k:Nat) (h:k≠b):(w.freeze ⟨b,0,none⟩ n).heap[k]? =w.heap[k]? :=by
 unfold World.freeze;by_cases hn:n=0
 ·rw[if_pos hn]
 ·rw[if_neg hn];simp only[Array.getElem?_modify];rw[if_neg (fun e=>h e.symm)]
theorem II (w:World) (b n:Nat):(w.freeze ⟨b,0,none⟩ n).heap.size=w.heap.size:=by
 unfold World.freeze;by_cases hn:n=0
 ·rw[if_pos hn]
 ·rw[if_neg hn];simp
theorem Ya {pt it ty e:TypeId} {p n v:AV} {cp cn:Value} (H:bR P B φ h w) (hp:P.underlying pt=some (.pointer e)) (hz:sizeT P e=some 1) (hx:bG φ p cp) (hy:bG φ n cn) (he:IE h e p n=some (v,h')):
 oC P B φ h' v w ((Builtin.unsafeString_ #[pt,it] ty #[cp,cn]).run P w):=by
 unfold IE at he;split at he
 ·rename_i k;cases hy;have zero:∀a:Option Addr,k=0→some (AV.str [],h)=some (v,h')→oC P B φ h' v w ((Builtin.unsafeString_ #[pt,it] ty #[.pointer a, .int .i64 (Int.ofNat k)]).run P w):=by
   intro a hk he2;clear he;subst hk;cases he2;exact oC.pure H (Lib.run_unsafeString_none w pt it ty a) (.str rfl)
  split at he
  ·cases hx;cases hk:Nat.beq k 0 with
   |false=>rw[hk] at he;cases he
   |true=>rw[hk,cond_true] at he;exact zero none (aG.1 hk) he
  ·rename_i id g i o;cases hx with
   |ptr hL hi=>
    rename_i L;cases hk:Nat.beq k 0 with
    |true=>rw[hk,cond_true] at he;exact zero _ (aG.1 hk) he
    |false=>
     rw[hk,cond_false] at he;have hk:=dF.1 hk;split at he
     ·rename_i r hr;split at he
      ·rename_i u hu;cases hb:(r.rw&&Nat.beq g r.g&&Nat.beq u e&&Nat.beq i 0&&Nat.beq o 0&&Nat.beq r.sz 1&&Nat.ble k most) with
       |false=>rw[hb] at he;cases he
       |true=>
        rw[hb,cond_true] at he;simp only[Bool.and_eq_true,aI,aG] at hb;obtain⟨⟨⟨⟨⟨⟨h1,rfl⟩,rfl⟩,rfl⟩,rfl⟩,h6⟩,h7⟩:=hb;simp only at he;cases hl:Nat.beq (r.es.take k).length k with
        |false=>rw[hl] at he;cases he
        |true=>
         rw[hl,cond_true] at he;have hl:=aG.1 hl;split at he
         ·rename_i s hby;cases he;have hro:=ah.row_some.1 hr;have hrow:mU φ id r w:=H.obj id _ hro;obtain⟨q1,q2,q3,c,u',q4,q5,q6⟩:=R8 (i:=0) (o:=0) H hr h1 rfl hL;obtain⟨c',f',q7⟩:=hrow.ty u hu h1 r.g L hrow.mg hL;rw[q4] at q7;cases q7;obtain⟨_,vals,hv,hcv⟩:=hrow.cells r.g L hrow.mg hL;rw[q3,List.take_of_length_le (Nat.le_refl _)] at hv;have hfl:∀e∈r.es,e.length=1:=fun e he=>by rw[←h6];exact hrow.es e he
          have htk:(r.es.take k).flatten=r.es.flatten.take k:=by
           have:=wW (es:=r.es) hfl (n:=k);simpa using this
          have hnv:bQ φ (r.es.take k).flatten (vals.take k):=by rw[htk];exact hv.take k
          obtain⟨e1,e2⟩:=AX hby hnv;have hsl:s.length=k:=by
           have:=congrArg List.length e1;simp at this;have h8:=hnv.length;rw[nA (sz:=1) (fun e he=>hfl e (List.mem_of_mem_take he)),hl] at h8;simp at h8;omega
          obtain⟨bs,hbs⟩:∃bs:List UInt8,bs.map UInt8.toNat=s:=⟨s.map UInt8.ofNat,by
           rw[List.map_map]
           conv=>rhs;rw[←List.map_id s]
           refine List.map_congr_left fun a ha=> ?_;have:=e2 a ha;simp[UInt8.toNat_ofNat',Nat.mod_eq_of_lt this]⟩
          have hbl:bs.length=k:=by rw[←hsl, ←hbs];simp
          have hcells:∀j x,bs[j]? =some x→w.cell? ((⟨L.blk,0,none⟩:Addr).add j)=some (.int .u8 x.toNat):=by
           intro j x hj;have hjl:=(List.getElem?_eq_some_iff.1 hj).1;have hvj:vals[j]? =some (.int .u8 (x.toNat:Int)):=by
            have h9:(vals.take k)[j]? =vals[j]? :=List.getElem?_take_of_lt (by omega);rw[←h9,e1, ←hbs];simp[hj]
           have:=hcv j _ hvj;rw[q1,Nat.zero_add] at this;unfold Addr.add;simp only[Nat.zero_add];by_cases hj0:j=0
           ·subst hj0;simpa using this
           ·simpa[hj0] using this
          have hco:=cellsOf_size hz;have hrun:=Lib.run_unsafeString_row (P:=P) w pt it ty u hp hco L.blk c.size (by simp only[World.shape?,q4]) bs (by intro hh;rw[hh] at hbl;simp at hbl;omega) (by
           rw[q5,q2,h6,Nat.mul_one,hbl];have:k≤r.es.length:=by rw[List.length_take] at hl;omega
           omega) (by unfold most at h7;omega) hcells
          rw[hbl] at hrun;have haddr:(L.base+0*L.sz+0)=0:=by rw[q1];simp
          obtain⟨f',hfb⟩:=RD w L.blk k q4;have hoth:=fun j hj=>SK w L.blk k j hj;refine⟨_,_,φ,by rw[haddr];exact hrun, .str (by simpa using hbs), ?_,φ.le_refl, ?_⟩
          ·refine H.update hro h1 rfl φ.le_refl (fun _ _ _=>rfl) (fun g K e=> .inl e) (by rw[II];exact Nat.le_refl _) (fun j _ hj=>hoth j (fun e=>hj r.g L hL e.symm)) (vK.of_block hfb (fun ds e=>by cases e) hoth) trivial
          ·have hB:B≤L.blk:=(H.own id _ r.g L hro hL).1 h1;refine⟨?_, ?_, ?_,by rw[II];exact Nat.le_refl _,fun j hj=>hoth j (by omega),fun j ds hj=> ?_,fun j r hj=>⟨r, ?_⟩⟩
           ·unfold World.freeze;split<;>rfl
           ·unfold World.freeze;split<;>rfl
           ·unfold World.freeze;split<;>rfl
           ·rw[hoth j (fun e=>by subst e;rw[q4] at hj;cases hj)];exact hj
           ·rw[hoth j (fun e=>by subst e;rw[q4] at hj;cases hj)];exact hj
         ·cases he
      ·cases he
     ·cases he
  ·cases he
 ·cases he
end
noncomputable section
section
variable {P:Program} {B:Base} {φ:dD} {h h':ah} {w:World} {v:AV} {N:Nat} {ρ:bZ} {a:Act}
theorem jD {x:bB} {f:AV→Option AV} (he:bT (qo ρ x f) h=some (v,h')):∃u,ev ρ x=some u∧f u=some v∧h'=h:=by
 unfold bT qo at he;split at he
 ·rename_i r hr;cases he;split at hr
  ·rename_i u hu;exact⟨u,hu,hr,rfl⟩
  ·cases hr
 ·cases he
theorem Eh {x y:bB} {f:AV→AV→Option AV} (he:bT (Ue ρ x y f) h=some (v,h')):∃u u',ev ρ x=some u∧ev ρ y=some u'∧f u u'=some v∧h'=h:=by
 unfold bT Ue at he;split at he
 ·rename_i r hr;cases he;split at hr
  ·rename_i u hu;split at hr
   ·rename_i u' hu';exact⟨u,u',hu,hu',hr,rfl⟩
   ·cases hr
  ·cases hr
 ·cases he
theorem jQ {r:Option AV} (he:bT r h=some (v,h')):r=some v∧h'=h:=by
 unfold bT at he;split at he
 ·cases he;exact⟨rfl,rfl⟩
 ·cases he
theorem Gx {r:Option ah} (he:unit r=some (v,h')):r=some h'∧v= .tup []:=by
 unfold unit at he;split at he
 ·cases he;exact⟨rfl,rfl⟩
 ·cases he
theorem qK.bT {s:Sem Value} {cv:Value} (H:bR P B φ h w) (hs:s.run P w= .ok cv w) (hv:bG φ v cv):qK P B φ h v w ((do let x ←s;Pure.pure (Next.value x):Sem Next).run P w):=
 qK.ofV (oC.pure H hs hv)
theorem EG {c:Call} {b:Builtin} (hcal:c.callee= .builtin b) (ρ':Operand→Value) (ty:TypeId):(do let d ←resolve ρ' c ty;invoke d.target d.args:Sem Next).run P w=(builtin b c.argTypes ty (c.args.map fun | .const _=>true |_=>false) (c.args.map ρ')).run P w:=by
 unfold resolve;simp only[hcal,Sem.run_bind,Sem.run_pure,Result.andThen_ok,invoke];rfl
theorem NK {c:Call} {b:Builtin} {op:dW} {ty:TypeId} {consts:Array Bool} (hR:lZ φ N ρ a.tmps) (H:bR P B φ h w) (hc:oU P b c.argTypes.toList c.args.toList=some op) (he:aN ρ h op=some (v,h')):
 qK P B φ h' v w ((builtin b c.argTypes ty consts (c.args.map a.eval)).run P w):=by
 have⟨cal,⟨args⟩,⟨types⟩⟩:=c;simp only at hc;unfold oU at hc;split at hc
 ·
  rename_i t x;simp only[Option.bind_eq_bind,Option.pure_def] at hc;cases hx:bH x with
  |none=>simp[hx] at hc
  |some y=>
   rw[hx] at hc;simp only[Option.bind_some] at hc;split at hc
   ·rename_i hu;cases hc;simp only[aN] at he;obtain⟨u,h1,h2,rfl⟩:=jD he;exact have⟨cv,g1,g2⟩:=E8 (ty:=ty) H hu (.inl ⟨rfl,rfl⟩) (bX hR hx h1) h2;qK.bT H (by simpa using g1) g2
   ·rename_i e hu;cases hc;simp only[aN] at he;obtain⟨u,h1,h2,rfl⟩:=jD he;exact have⟨cv,g1,g2⟩:=E8 (ty:=ty) H hu (.inr (.inl ⟨rfl,e,rfl⟩)) (bX hR hx h1) h2;qK.bT H (by simpa using g1) g2
   ·rename_i e f hu;cases hc;simp only[aN] at he;obtain⟨u,h1,h2,rfl⟩:=jD he;exact have⟨cv,g1,g2⟩:=E8 (ty:=ty) H hu (.inr (.inr ⟨rfl,e,f,rfl⟩)) (bX hR hx h1) h2;qK.bT H (by simpa using g1) g2
   ·rename_i n e hu;cases hc;simp only[aN,ev,Ab.bT] at he;cases he;refine qK.bT H (cv:= .int .i64 n) ?_ (.int _ _);simp[Builtin.len_,run_underlying hu,goInt]
   ·cases hc
 ·
  rename_i s t x y;have:=abP (ty:=ty) hR H (t1:=s) (t2:=t) (x:=x) (y:=y) (op:=op) (by unfold oU;exact hc) he;exact qK.ofV (by simpa using this)
 ·
  rename_i t x;simp only[Option.bind_eq_bind,Option.pure_def] at hc;cases hx:bH x with
  |none=>simp[hx] at hc
  |some y=>
   simp[hx] at hc;subst hc;simp only[aN] at he;obtain⟨u,h1,h2,rfl⟩:=jD he;exact have⟨cv,g1,g2⟩:=Yi (w:=w) (P:=P) (ts:= #[t]) (ty:=ty) (bX hR hx h1) h2;qK.bT H (by simpa using g1) g2
 ·
  rename_i t u x y;split at hc
  ·rename_i p q e hx hy hu;cases hz:(zU P e&&ajG P e) with
   |false=>rw[hz] at hc;cases hc
   |true=>
    rw[hz,cond_true] at hc;cases hc;simp only[Bool.and_eq_true] at hz;have hs:sizeT P e=some 1:=by
     have h2:=hz.2;unfold ajG at h2;split at h2
     ·assumption
     ·cases h2
    simp only[aN] at he;cases hp:ev ρ p with
    |none=>simp[hp] at he
    |some a1=>
     cases hq:ev ρ q with
     |none=>simp[hp,hq] at he
     |some a2=>
      rw[hp,hq] at he;have:=Ya (it:=u) (ty:=ty) H hu hs (bX hR hx hp) (bX hR hy hq) he;exact qK.ofV (by simpa using this)
  ·cases hc
 ·
  rename_i xs;simp only[Option.bind_eq_bind,Option.pure_def] at hc;cases hx:mD args with
  |none=>simp[hx] at hc
  |some ys=>
   simp[hx] at hc;subst hc;simp only[aN] at he;split at he
   ·rename_i u l hvs;obtain⟨h1,rfl⟩:=jQ he;have hrel:=uI hR hx hvs;cases hargs:args.map a.eval with
    |nil=>rw[hargs] at hrel;cases hrel
    |cons c0 cs=>
     rw[hargs] at hrel;cases hrel with
     |cons r1 r2=>
      refine have⟨cv,g1,g2⟩:=Nh (w:=w) (P:=P) r1 r2 h1;qK.bT H (cv:=cv) ?_ g2
      simpa[Builtin.max_,hargs] using g1
   ·cases he
 ·
  rename_i xs;simp only[Option.bind_eq_bind,Option.pure_def] at hc;cases hx:mD args with
  |none=>simp[hx] at hc
  |some ys=>
   simp[hx] at hc;subst hc;simp only[aN] at he;split at he
   ·rename_i u l hvs;obtain⟨h1,rfl⟩:=jQ he;have hrel:=uI hR hx hvs;cases hargs:args.map a.eval with
    |nil=>rw[hargs] at hrel;cases hrel
    |cons c0 cs=>
     rw[hargs] at hrel;cases hrel with
     |cons r1 r2=>
      refine have⟨cv,g1,g2⟩:=Nh (w:=w) (P:=P) r1 r2 h1;qK.bT H (cv:=cv) ?_ g2
      simpa[Builtin.min_,hargs] using g1
   ·cases he
 ·cases hc
theorem WZ {t:TypeId} {d:TypeDesc} {u:AV} {cx:Value} (hu:P.underlying t=some d) (hd:∀ms,d≠ .interface ms) (hx:bG φ u cx) (he:Pm t u=some v):∃cv,(Instr.makeInterface t cx).run P w= .ok cv w∧bG φ v cv:=by
 have hv:v= .ifc t u:=by
  unfold Pm at he;split at he<;>first |(cases he;done)|(cases he;rfl)
 subst hv;refine⟨.iface t cx, ?_, .ifc hx⟩;unfold Instr.makeInterface;simp only[Sem.run_bind,run_underlying hu,Result.andThen_ok];cases d<;>first |rfl |exact absurd rfl (hd _)
theorem aa6 {t xt:TypeId} {d:TypeDesc} {ok:Bool} {z u:AV} {cx:Value} (hu:P.underlying t=some d) (hd:∀ms,d≠ .interface ms) (hz:jv P t=some z) (hx:bG φ u cx) (he:afr t ok z u=some v):∃cv,(Instr.typeAssert cx xt t ok).run P w= .ok cv w∧bG φ v cv:=by
 have⟨zv,it,z1,z2,z3,z4⟩:=lD hz w;have hzr:bG φ z zv:=oP z2;unfold afr at he;split at he
 ·rename_i t' a;cases hx with
  |ifc hv=>
   rename_i cv;cases hb:Nat.beq t' t with
   |true=>
    rw[hb,cond_true] at he;have:=Nat.eq_of_beq_eq_true hb;subst this;cases he;refine⟨if ok then .tuple #[cv, .bool true] else cv, ?_, ?_⟩
    ·unfold Instr.typeAssert;simp only[Sem.run_bind,run_underlying hu,Result.andThen_ok];cases d<;>first |exact absurd rfl (hd _)|(simp;done)
    ·cases ok with
     |true=>exact .tup (.cons hv (.cons (.bool _) .nil))
     |false=>exact hv
   |false=>
    rw[hb,cond_false] at he;cases ok with
    |false=>cases he
    |true=>
     rw[cond_true] at he;cases he;refine have hne:¬t'=t:=dF.1 hb;⟨.tuple #[zv, .bool false], ?_, .tup (.cons hzr (.cons (.bool _) .nil))⟩
     unfold Instr.typeAssert;simp only[Sem.run_bind,run_underlying hu,Result.andThen_ok];cases d<;>first |exact absurd rfl (hd _)|(simp[hne,z1];done)
 ·cases hx;cases ok with
  |false=>cases he
  |true=>
   rw[cond_true] at he;cases he;refine⟨.tuple #[zv, .bool false], ?_, .tup (.cons hzr (.cons (.bool _) .nil))⟩;unfold Instr.typeAssert;simp only[Sem.run_bind,run_underlying hu,Result.andThen_ok];cases d<;>first |exact absurd rfl (hd _)|(simp[z1];done)
 ·cases he
theorem vk {o:Oper} {op:dW} (hR:lZ φ N ρ a.tmps) (H:bR P B φ h w) (hc:kY P o.op=some op) (he:aN ρ h op=some (v,h')):qK P B φ h' v w ((execOp a.eval o).run P w):=by
 obtain⟨dst,oo,type,pos,after,guard⟩:=o;simp only at hc;cases oo<;>simp only[kY,Option.bind_eq_bind,Option.pure_def] at hc<;>try(cases hc;done)
 case move x=>
  cases hx:bH x with
  |none=>simp[hx] at hc
  |some y=>
   simp[hx] at hc;subst hc;simp only[aN] at he;obtain⟨h1,rfl⟩:=jQ he;exact⟨a.eval x,w,φ, .inl (by simp[execOp]),bX hR hx h1,H,φ.le_refl,Gw.refl B w⟩
 case assign x=>
  cases hx:bH x with
  |none=>simp[hx] at hc
  |some y=>
   simp[hx] at hc;subst hc;simp only[aN] at he;obtain⟨h1,rfl⟩:=jQ he;exact⟨a.eval x,w,φ, .inl (by simp[execOp]),bX hR hx h1,H,φ.le_refl,Gw.refl B w⟩
 case pick c x y=>
  cases h1:bH c with
  |none=>simp[h1] at hc
  |some c'=>
   cases h2:bH x with
   |none=>simp[h1,h2] at hc
   |some x'=>
    cases h3:bH y with
    |none=>simp[h1,h2,h3] at hc
    |some y'=>
     simp[h1,h2,h3] at hc;subst hc;simp only[aN] at he;split at he
     ·rename_i hcv;obtain⟨h4,rfl⟩:=jQ he;have hb:=bX hR h1 hcv;generalize hg:a.eval c=cc at hb;cases hb;exact⟨a.eval x,w,φ, .inl (by simp[execOp,hg,asBool]),bX hR h2 h4,H,φ.le_refl,Gw.refl B w⟩
     ·rename_i hcv;obtain⟨h4,rfl⟩:=jQ he;have hb:=bX hR h1 hcv;generalize hg:a.eval c=cc at hb;cases hb;exact⟨a.eval y,w,φ, .inl (by simp[execOp,hg,asBool]),bX hR h3 h4,H,φ.le_refl,Gw.refl B w⟩
     ·cases he
 case alloc t=>
  cases hz:jv P t with
  |none=>simp[hz] at hc
  |some z=>
   simp only[hz,Option.some.injEq] at hc;cases hn:oJ z.cells with
   |false=>rw[hn,cond_false] at hc;subst hc;exact qK.ofV (Ud H hz rfl he)
   |true=>rw[hn,cond_true] at hc;subst hc;exact qK.ofV (Vl H hz rfl he)
 case box t x=>
  cases hs:sizeT P t with
  |none=>simp[hs] at hc
  |some n=>
   cases hx:bH x with
   |none=>simp[hs,hx] at hc
   |some y=>
    simp[hs,hx] at hc;subst hc;simp only[aN] at he;split at he
    ·rename_i u hu;exact qK.ofV (XO H (bX hR hx hu) he)
    ·cases he
 case build t parts=>
  exact qK.ofV (UW hR H (by simpa only[kY,Option.bind_eq_bind,Option.pure_def] using hc) he)
 case buildSlice t n parts=>
  exact qK.ofV (QJ hR H (by simpa only[kY,Option.bind_eq_bind,Option.pure_def] using hc) he)
 case load t x=>
  cases hg:qm P t with
  |none=>simp[hg] at hc
  |some ag=>
   cases hs:sizeT P t with
   |none=>simp[hg,hs] at hc
   |some n=>
    cases hx:bH x with
    |none=>simp[hg,hs,hx] at hc
    |some y=>
     simp[hg,hs,hx] at hc;subst hc;simp only[aN] at he;obtain⟨u,h1,h2,rfl⟩:=jD he;obtain⟨cv,g1,_,g2⟩:=M8 H (bX hR hx h1) h2 hg hs;exact qK.bT H g1 g2
 case store t x y=>
  cases hs:sizeT P t with
  |none=>simp[hs] at hc
  |some n=>
   cases hx:bH x with
   |none=>simp[hs,hx] at hc
   |some p=>
    cases hy:bH y with
    |none=>simp[hs,hx,hy] at hc
    |some q=>
     simp[hs,hx,hy] at hc;subst hc;simp only[aN] at he;split at he
     ·rename_i u u' hu hu';obtain⟨h1,rfl⟩:=Gx he;exact qK.ofU (UM H (bX hR hx hu) (bX hR hy hu') h1 hs)
     ·cases he
 case nilCheck x=>
  cases hx:bH x with
  |none=>simp[hx] at hc
  |some y=>
   simp[hx] at hc;subst hc;simp only[aN] at he;obtain⟨u,h1,h2,rfl⟩:=jD he;have hr:=bX hR hx h1;obtain⟨rfl,k1,k2,k3,k4⟩:=UO hr h2;refine⟨a.eval x,w,φ, .inl ?_,hr,H,φ.le_refl,Gw.refl B w⟩;simp only[execOp];generalize a.eval x=cx at *;cases hr<;>first |rfl |exact absurd rfl k1 |exact absurd rfl k2
 case binOp bop t x y yt=>
  cases hx:bH x with
  |none=>simp[hx] at hc
  |some p=>
   cases hy:bH y with
   |none=>simp[hx,hy] at hc
   |some q=>
    rw[hx,hy] at hc;simp only[Option.bind_some] at hc;have bin:op= .bin bop p q→qK P B φ h' v w ((execOp a.eval ⟨dst, .binOp bop t x y yt,type,pos,after,guard⟩).run P w):=by
     rintro rfl;simp only[aN] at he;obtain⟨u,u',h1,h2,h3,rfl⟩:=Eh he;have r1:=bX hR hx h1;have r2:=bX hR hy h2;obtain⟨cv,g1,g2,g3,g4⟩:=VZ (w:=w) (P:=P) r1 r2 h3 t;refine qK.bT (s:=do eqGuard bop t x y (a.eval x) (a.eval y);binOp bop t (a.eval x) (a.eval y)) H (cv:=cv) ?_ g2
     have hgd:(eqGuard bop t x y (a.eval x) (a.eval y)).run P w= .ok () w:=by
      unfold eqGuard;cases bop<;>simp
      all_goals
       generalize a.eval x=cx at *;generalize a.eval y=cy at *;cases cx<;>first |rfl |exact absurd rfl g4 |(cases cy<;>first |rfl |(rcases g3 _ _ with hh |hh<;>exact absurd rfl hh))
     simp[Sem.run_bind,hgd,g1]
    split at hc
    ·cases hc;exact bin rfl
    ·cases hc;exact bin rfl
    ·split at hc
     ·cases hk:aa2 P t x y with
      |none=>simp[hk] at hc
      |some k=>
       simp[hk] at hc;subst hc;obtain⟨hk,hco⟩:=Pt hk;simp only[aN] at he;split at he
       ·rename_i u u' h1 h2;split at he
        ·rename_i r hr;cases he;exact qK.bT (s:=do eqGuard .eql t x y (a.eval x) (a.eval y);binOp .eql t (a.eval x) (a.eval y)) H (UN (.inl ⟨rfl,rfl⟩) H hk (bX hR hx h1) (bX hR hy h2) hr x y hco) (.bool _)
        ·cases he
       ·cases he
     ·cases hk:aa2 P t x y with
      |none=>simp[hk] at hc
      |some k=>
       simp[hk] at hc;subst hc;obtain⟨hk,hco⟩:=Pt hk;simp only[aN] at he;split at he
       ·rename_i u u' h1 h2;split at he
        ·rename_i r hr;cases he;exact qK.bT (s:=do eqGuard .neq t x y (a.eval x) (a.eval y);binOp .neq t (a.eval x) (a.eval y)) H (UN (.inr ⟨rfl,rfl⟩) H hk (bX hR hx h1) (bX hR hy h2) hr x y hco) (.bool _)
        ·cases he
       ·cases he
     ·cases hc
 case unOp uop t x=>
  cases hx:bH x with
  |none=>simp[hx] at hc
  |some y=>
   rw[hx] at hc;simp only[Option.bind_some] at hc;split at hc
   ·cases hc;simp only[aN] at he;obtain⟨u,h1,h2,rfl⟩:=jD he;obtain⟨cv,g1,g2⟩:=abh (w:=w) (P:=P) (bX hR hx h1) h2;exact qK.bT H g1 g2
   ·cases hc;simp only[aN] at he;obtain⟨u,h1,h2,rfl⟩:=jD he;obtain⟨cv,g1,g2⟩:=abQ (w:=w) (P:=P) (bX hR hx h1) h2;exact qK.bT H g1 g2
   ·cases hc
 case convert s d x=>
  cases hx:bH x with
  |none=>simp[hx] at hc
  |some y=>
   rw[hx] at hc;simp only[Option.bind_some] at hc;split at hc
   ·rename_i t hs hd;cases hz:ahV P t with
    |false=>rw[hz,cond_false] at hc;cases hc
    |true=>
     rw[hz,cond_true] at hc;cases hc;obtain⟨m,hm⟩:∃m,sizeT P t=some (m+1):=by
      unfold ahV at hz;split at hz
      ·rename_i m hm;exact⟨m,hm⟩
      ·cases hz
     simp only[aN] at he;obtain⟨u,h1,h2,rfl⟩:=jD he;obtain⟨cv,g1,g2⟩:=aa9 H hs hd hm (bX hR hx h1) h2;exact qK.bT H g1 g2
   ·rename_i t hs hd;split at hc
    ·rename_i m hm;cases hl:tN P t with
     |false=>rw[hl,cond_false] at hc;cases hc
     |true=>
      rw[hl,cond_true] at hc;cases hc;simp only[aN] at he;obtain⟨u,h1,h2,rfl⟩:=jD he;obtain⟨cv,g1,g2⟩:=aaP H hs hd hm hl (fun x hx=>(List.mem_filter.1 hx).2) (bX hR hx h1) h2;exact qK.bT H g1 g2
    ·cases hc
   ·cases hc
 case makeFunc fn first cap=>
  split at hc
  ·rename_i f;cases hx:mD first.toList with
   |none=>simp[hx] at hc
   |some xs=>
    cases hy:mD cap.toList with
    |none=>simp[hx,hy] at hc
    |some ys=>
     simp[hx,hy] at hc;subst hc;simp only[aN] at he;split at he
     ·rename_i vs ws h1 h2;cases he;have r1:=uI hR hx h1;have r2:=uI hR hy h2;refine qK.bT (s:=Instr.makeFunc (.func f) (first.map a.eval) (cap.map a.eval)) H (cv:= .func (.func f) ⟨first.toList.map a.eval⟩ ⟨cap.toList.map a.eval⟩) ?_ (.func r1 r2)
      have e1:first.map a.eval=⟨first.toList.map a.eval⟩:=by apply Array.ext';simp
      have e2:cap.map a.eval=⟨cap.toList.map a.eval⟩:=by apply Array.ext';simp
      simp only[Instr.makeFunc,Sem.run_pure,e1,e2]
     ·cases he
  ·cases hc
 case makeMap t r=>
  split at hc
  ·cases hc;simp only[aN] at he;cases he;have hle:=dD.le_add (φ:=φ) (id:=h.sz) (g:=0) ⟨w.heap.size,0,0,0,0⟩ (H.fresh 0);have hp:=H.push (o:= .map [] 0) rfl (L:=⟨w.heap.size,0,0,0,0⟩) (ob:= .map #[] 0) rfl (fun ds e=>by cases e) ⟨_, #[],dD.add_same _ _ _ _,heap_alloc_new w _, .nil⟩;exact qK.ofV ⟨.map (some w.heap.size),_,_,by simp[Instr.makeMap], .map (dD.add_same _ _ _ _),hp,hle,Gw.alloc H.base (fun _ _ _ e=>by cases e)⟩
  ·cases hc
 case makeSlice t l c=>
  split at hc
  ·rename_i e hu;cases hs:sizeT P e with
   |none=>simp[hs] at hc
   |some sz=>
    cases hb:xI P e with
    |none=>simp[hs,hb] at hc
    |some bytes=>
     cases hz:jv P e with
     |none=>simp[hs,hb,hz] at hc
     |some z=>
      cases hl:bH l with
      |none=>simp[hs,hb,hz,hl] at hc
      |some l'=>
       cases hcc:bH c with
       |none=>simp[hs,hb,hz,hl,hcc] at hc
       |some c'=>
        simp[hs,hb,hz,hl,hcc] at hc;subst hc;simp only[aN] at he;split at he
        ·rename_i u u' h1 h2;exact qK.ofV (XQ H hu hs hb hz (bX hR hl h1) (bX hR hcc h2) he)
        ·cases he
  ·cases hc
 case slice t x lo hi mx=>
  split at hc
  ·rename_i hu;cases hx:bH x with
   |none=>simp[hx] at hc
   |some x'=>
    cases hl:Bj lo with
    |none=>simp[hx,hl] at hc
    |some l'=>
     cases hh:Bj hi with
     |none=>simp[hx,hl,hh] at hc
     |some h2=>
      simp[hx,hl,hh] at hc;subst hc;simp only[aN] at he;obtain⟨u,g1,g2,rfl⟩:=jD he;obtain⟨cv,k1,k2⟩:=RV (w:=w) hR hu (bX hR hx g1) hl hh g2;exact qK.bT (s:=Instr.sliceAt t (a.eval x) (lo.map a.eval) (hi.map a.eval) none) H k1 k2
  ·cases hc
 case fieldAddr s x f=>
  split at hc
  ·rename_i fs hu;split at hc
   ·rename_i fl hf;split at hc
    ·rename_i m hm;cases hx:bH x with
     |none=>simp[hx] at hc
     |some x'=>
      simp[hx] at hc;subst hc;simp only[aN] at he;obtain⟨u,g1,g2,rfl⟩:=jD he;obtain⟨cv,k1,k2⟩:=Ww (w:=w) hu hf rfl hm (bX hR hx g1) g2;exact qK.bT H k1 k2
    ·cases hc
   ·cases hc
  ·cases hc
 case field s x f=>
  split at hc
  ·rename_i fs hu;split at hc
   ·rename_i fl hf;cases hg:qm P fl.type with
    |none=>simp[hg] at hc
    |some ag=>
     cases hm:sizeT P fl.type with
     |none=>simp[hg,hm] at hc
     |some m=>
      cases hx:bH x with
      |none=>simp[hg,hm,hx] at hc
      |some x'=>
       simp[hg,hm,hx] at hc;subst hc;simp only[aN] at he;obtain⟨u,g1,g2,rfl⟩:=jD he;obtain⟨cv,k1,k2⟩:=aa4 (w:=w) hu hf rfl hg hm (bX hR hx g1) g2;exact qK.bT H k1 k2
   ·cases hc
  ·cases hc
 case indexAddr t x i=>
  split at hc
  ·rename_i e hu;cases hs:sizeT P e with
   |none=>simp[hs] at hc
   |some sz=>
    cases hx:bH x with
    |none=>simp[hs,hx] at hc
    |some x'=>
     cases hi:bH i with
     |none=>simp[hs,hx,hi] at hc
     |some i'=>
      simp[hs,hx,hi] at hc;subst hc;simp only[aN] at he;obtain⟨u,u',g1,g2,g3,rfl⟩:=Eh he;obtain⟨cv,k1,k2⟩:=Xq hu hs H (bX hR hx g1) (bX hR hi g2) g3;exact qK.bT H k1 k2
  ·cases hc
 case index t x i=>
  split at hc
  ·rename_i hu;cases hx:bH x with
   |none=>simp[hx] at hc
   |some x'=>
    cases hi:bH i with
    |none=>simp[hx,hi] at hc
    |some i'=>
     simp[hx,hi] at hc;subst hc;simp only[aN] at he;obtain⟨u,u',g1,g2,g3,rfl⟩:=Eh he;obtain⟨cv,k1,k2⟩:=WW (w:=w) hu (bX hR hx g1) (bX hR hi g2) g3;exact qK.bT H k1 k2
  ·cases hc
 case lookup t m k ok=>
  split at hc
  ·rename_i kt e hu;cases hk:yY P kt with
   |none=>simp[hk] at hc
   |some kk=>
    cases hz:jv P e with
    |none=>simp[hk,hz] at hc
    |some z=>
     cases hx:bH m with
     |none=>simp[hk,hz,hx] at hc
     |some x'=>
      cases hi:bH k with
      |none=>simp[hk,hz,hx,hi] at hc
      |some i'=>
       simp[hk,hz,hx,hi] at hc;subst hc;simp only[aN] at he;obtain⟨u,u',g1,g2,g3,rfl⟩:=Eh he;obtain⟨cv,k1,k2⟩:=Wv H hu hk hz (bX hR hx g1) (bX hR hi g2) g3;exact qK.bT H k1 k2
  ·cases hc
 case mapUpdate t m k u=>
  split at hc
  ·rename_i kt e hu;cases hk:yY P kt with
   |none=>simp[hk] at hc
   |some kk=>
    cases hx:bH m with
    |none=>simp[hk,hx] at hc
    |some x'=>
     cases hi:bH k with
     |none=>simp[hk,hx,hi] at hc
     |some i'=>
      cases hy:bH u with
      |none=>simp[hk,hx,hi,hy] at hc
      |some y'=>
       simp[hk,hx,hi,hy] at hc;subst hc;simp only[aN] at he;split at he
       ·rename_i a1 a2 a3 g1 g2 g3;obtain⟨h1,rfl⟩:=Gx he;exact qK.ofU (J2 H hu hk (bX hR hx g1) (bX hR hi g2) (bX hR hy g3) h1)
       ·cases he
  ·cases hc
 case insert t m k u=>
  split at hc
  ·rename_i kt e hu;cases hk:yY P kt with
   |none=>simp[hk] at hc
   |some kk=>
    cases hx:bH m with
    |none=>simp[hk,hx] at hc
    |some x'=>
     cases hi:bH k with
     |none=>simp[hk,hx,hi] at hc
     |some i'=>
      cases hy:bH u with
      |none=>simp[hk,hx,hi,hy] at hc
      |some y'=>
       simp[hk,hx,hi,hy] at hc;subst hc;simp only[aN] at he;split at he
       ·rename_i a1 a2 a3 g1 g2 g3;obtain⟨h1,rfl⟩:=Gx he;exact qK.ofU (J2 H hu hk (bX hR hx g1) (bX hR hi g2) (bX hR hy g3) h1)
       ·cases he
  ·cases hc
 case extract x i=>
  cases hx:bH x with
  |none=>simp[hx] at hc
  |some x'=>
   simp[hx] at hc;subst hc;simp only[aN] at he;obtain⟨u,g1,g2,rfl⟩:=jD he;obtain⟨cv,k1,k2⟩:=abq (w:=w) (P:=P) (bX hR hx g1) g2;exact qK.bT H k1 k2
 case makeInterface xt x=>
  cases hu:P.underlying xt with
  |none=>simp[hu] at hc
  |some d=>
   cases hx:bH x with
   |none=>cases d<;>simp[hu,hx] at hc
   |some x'=>
    have hd:∀ms,d≠ .interface ms:=fun ms e=>by subst e;simp[hu] at hc
    have hop:op= .mkif xt x':=by cases d<;>first |exact absurd rfl (hd _)|(simp[hu,hx] at hc;exact hc.symm)
    subst hop;simp only[aN] at he;obtain⟨u,g1,g2,rfl⟩:=jD he;obtain⟨cv,k1,k2⟩:=WZ (w:=w) hu hd (bX hR hx g1) g2;exact qK.bT H k1 k2
 case typeAssert x xt t ok=>
  cases hu:P.underlying t with
  |none=>simp[hu] at hc
  |some d=>
   cases hx:bH x with
   |none=>cases d<;>simp[hu,hx] at hc
   |some x'=>
    cases hz:jv P t with
    |none=>cases d<;>simp[hu,hx,hz] at hc
    |some z=>
     have hd:∀ms,d≠ .interface ms:=fun ms e=>by subst e;simp[hu] at hc
     have hop:op= .tas t ok z x':=by cases d<;>first |exact absurd rfl (hd _)|(simp[hu,hx,hz] at hc;exact hc.symm)
     subst hop;simp only[aN] at he;obtain⟨u,g1,g2,rfl⟩:=jD he;obtain⟨cv,k1,k2⟩:=aa6 (w:=w) (xt:=xt) hu hd hz (bX hR hx g1) g2;exact qK.bT H k1 k2
 case call c=>
  split at hc
  ·rename_i b hb;have:=NK (ty:=type) (consts:=c.args.map fun | .const _=>true |_=>false) hR H hc he;have e:=EG (P:=P) (w:=w) hb a.eval type;have e2:execOp a.eval ⟨dst, .call c,type,pos,after,guard⟩=(do let d ←resolve a.eval c type;invoke d.target d.args):=rfl
   rw[e2,e];exact this
  ·rename_i f hf;cases hx:bH f with
   |none=>simp[hx] at hc
   |some f'=>
    cases hy:mD c.args.toList with
    |none=>simp[hx,hy] at hc
    |some as=>
     simp[hx,hy] at hc;subst hc;simp[aN] at he
  ·cases hc
end
end
noncomputable section
def FW (r:Option Nat):Fence:={fn:=fun _=>True,depth:=none,alive:=false,round:=r}
theorem Dv (r:Option Nat) (n:Nat):(FW r).depth.isSome=true→1≤n:=fun h=>by cases h
def Ends (P:Program) (B:Base) (φ:dD) (w:World) (K:aK) (e:Ending) (w':World):Prop:=
 (∃v h' cv φ',e= .returned cv∧K v h'=true∧bG φ' v cv∧bR P B φ' h' w'∧φ.le φ'∧Gw B w w')∨
 ∃v h' cv φ',e= .panicked [{v:=cv,recovered:=false}]∧K (.pan v) h'=true∧bG φ' v cv∧bR P B φ' h' w'∧φ.le φ'∧Gw B w w'
def qB (P:Program) (B:Base) (φ:dD) (w:World) (K:aK):Result Next→Prop
 | .ok (.value cv) w'=>Ends P B φ w K (.returned cv) w'
 | .ok .skip w'=>Ends P B φ w K (.returned undef) w'
 | .ok (.enter f args) w'=>∀n,CallsIn (FW none) n P f args w' (Ends P B φ w K)
 | .ok (.round l f tmps assign body) w'=>∀n,RoundIn (FW none) n P l f tmps assign body w' (Ends P B φ w K)
 | .halt (.panic cv) w'=>Ends P B φ w K (.panicked [{v:=cv,recovered:=false}]) w'
 |_=>False
def yH (P:Program) (B:Base) (φ:dD) (w:World) (K:aK) (f:Nat) (args:List AV) (eX:List Value):Prop:=
 ((callFunc f ⟨eX⟩).run P w= .ok (.enter f ⟨eX⟩) w∧∀n,CallsIn (FW none) n P f ⟨eX⟩ w (Ends P B φ w K))∨
 ((∀v∈args,∀id,v≠ .fn (.yield id) [] [])∧qB P B φ w K ((callFunc f ⟨eX⟩).run P w))
theorem yH.lands {P:Program} {B:Base} {φ:dD} {w:World} {K:aK} {f:Nat} {args:List AV} {eX:List Value} (h:yH P B φ w K f args eX):qB P B φ w K ((callFunc f ⟨eX⟩).run P w):=by
 rcases h with⟨h1,h2⟩|⟨_,h⟩
 ·rw[h1];exact h2
 ·exact h
def nX (P:Program) (call:bg):Prop:=
 ∀(tgt:NG) (args:List AV) (h:ah) (K:aK),call tgt args h K=true→∀(B:Base) (φ:dD) (w:World) (eX:List Value),bR P B φ h w→bQ φ args eX→
  match tgt with
  | .func f=>yH P B φ w K f args eX
  | .yield id=>∀L,φ id 0=some L→qB P B φ w K ((Instr.yield L.blk ⟨eX⟩).run P w)
section
variable {P:Program} {B:Base} {φ:dD} {h h':ah} {w:World} {v:AV} {N:Nat} {ρ:bZ} {a:Act} {call:bg}
theorem qB.of_sim {K:aK} {r:Result Next} (hs:qK P B φ h' v w r) (hK:K v h'=true):qB P B φ w K r:=by
 have⟨cv,w',φ',hr,h1,h2,h3,h4⟩:=hs;rcases hr with rfl |⟨rfl,rfl⟩
 ·exact .inl ⟨v,h',cv,φ',rfl,hK,h1,h2,h3,h4⟩
 ·exact .inl ⟨v,h',undef,φ',rfl,hK,h1,h2,h3,h4⟩
theorem kF {op:dW} {K:aK} (hn:dI op=false):gW call ρ h op K=(match aN ρ h op with |some (v,h')=>K v h' |none=>false):=by
 cases op<;>first |rfl |cases hn
theorem IZ {o:Oper} {op:dW} {K:aK} (hcall:nX P call) (hR:lZ φ N ρ a.tmps) (H:bR P B φ h w) (hc:fV P o.op=some op) (he:gW call ρ h op K=true):qB P B φ w K ((execOp a.eval o).run P w):=by
 have plain:kY P o.op=some op→dI op=false→qB P B φ w K ((execOp a.eval o).run P w):=by
  intro hr hn;rw[kF hn] at he;split at he
  ·rename_i v h' hv;exact qB.of_sim (vk hR H hr hv) he
  ·cases he
 have chk:nP P o.op=some op→qB P B φ w K ((execOp a.eval o).run P w):=by
  intro hk;unfold nP at hk;split at hk
  ·rename_i x hx;cases hi:dI x with
   |true=>rw[hi] at hk;cases hk
   |false=>rw[hi] at hk;cases hk;exact plain hx hi
  ·cases hk
 unfold fV at hc;split at hc
 ·rename_i c hop;split at hc
  ·rename_i f hf;split at hc
   ·rename_i g as hg has;cases hc;simp only[gW] at he;split at he
    ·rename_i tgt first cap vs h1 h2
     have hr1:=bX hR hg h1;have hr2:=uI hR has h2;have hexec:(execOp a.eval o).run P w=(do let d ←Deferred.ofValue (a.eval f) (c.args.map a.eval);invoke d.target d.args:Sem Next).run P w:=by
      simp only[execOp,hop,resolve,hf]
     rw[hexec];generalize a.eval f=cf at hr1;have hargs:(c.args.map a.eval)=⟨c.args.toList.map a.eval⟩:=by apply Array.ext';simp
     cases hr1 with
     |func ha hb=>
      rename_i fid fst' cap';have:=hcall _ _ _ _ he B φ w _ H ((ha.append hr2).append hb);simp only at this;simp only[Deferred.ofValue,Sem.run_bind,Sem.run_pure,Result.andThen_ok,invoke];have e:(⟨fst'⟩:Array Value)++c.args.map a.eval++⟨cap'⟩=⟨fst'++c.args.toList.map a.eval++cap'⟩:=by
       rw[hargs];apply Array.ext';simp
      rw[e];exact yH.lands this
     |yield hL=>
      rename_i id L;have:=hcall _ _ _ _ he B φ w (c.args.toList.map a.eval) H (by simpa using hr2);simp only at this;simp only[Deferred.ofValue,Sem.run_bind,Sem.run_pure,Result.andThen_ok,invoke];have e:(#[]:Array Value)++c.args.map a.eval=⟨c.args.toList.map a.eval⟩:=by
       rw[hargs];apply Array.ext';simp
      rw[e];exact this L hL
    ·cases he
   ·cases hc
  ·split at hc
   ·cases hc;simp[gW,aN] at he
   ·exact chk hc
  ·exact chk hc
 ·rename_i x hop;split at hc
  ·rename_i y hy;cases hc;simp only[gW] at he;split at he
   ·rename_i tt u hu;have hr:=bX hR hy hu;have hex:(execOp a.eval o).run P w= .halt (.panic (a.eval x)) w:=by
     generalize hcx:a.eval x=cx at hr;cases hr with
     |ifc hv=>simp[execOp,hop,Instr.panic,goPanic,hcx]
    rw[hex];exact .inr ⟨_,_,_,φ,rfl,he,hr,H,φ.le_refl,Gw.refl B w⟩
   ·cases he
  ·cases hc
 ·split at hc
  ·split at hc
   ·cases hc;simp[gW,aN] at he
   ·cases hc
  ·cases hc
 ·exact chk hc
structure At (P:Program) (B:Base) (N:Nat) (φ:dD) (σ:St) (a:Act) (w:World):Prop where
 regs:lZ φ N σ.regs a.tmps
 heap:bR P B φ σ.h w
theorem gq {ops:Array Oper} {o:Oper} {x:aT} (hc:lG P N ops o=some x):
 x.dst=o.dst∧OM N o.dst=true∧x.op=(fV P o.op).getD .fail∧((o.guard=none∧x.grd=none)∨∃j wt g d,o.guard=some (j,wt)∧ops[j]? =some g∧g.dst=some d∧x.grd=some (d,wt)):=by
 unfold lG at hc;cases hd:OM N o.dst with
 |false=>rw[hd] at hc;cases hc
 |true=>
  rw[hd,cond_true] at hc;split at hc
  ·rename_i hg;cases hc;exact⟨rfl,rfl,rfl, .inl ⟨hg,rfl⟩⟩
  ·rename_i j wt hg;split at hc
   ·rename_i g hgj;split at hc
    ·rename_i d hdd;cases hc;exact⟨rfl,rfl,rfl, .inr ⟨j,wt,g,d,hg,hgj,hdd,rfl⟩⟩
    ·cases hc
   ·cases hc
theorem mV {ops:Array Oper} {o:Oper} {x:aT} (hc:lG P N ops o=some x) (hR:lZ φ N ρ a.tmps) {b:Bool} (hw:eO ρ x.grd=some b):Region.wanted o (yielded ops a.tmps)=b:=by
 have⟨_,_,_,hg⟩:=gq hc;unfold Region.wanted;rcases hg with⟨h1,h2⟩|⟨j,wt,g,d,h1,h2,h3,h4⟩
 ·rw[h1];rw[h2] at hw;simp[eO] at hw;subst hw;rfl
 ·rw[h1];rw[h4] at hw;simp only[eO] at hw;split at hw
  ·rename_i c hd;cases hw;have⟨cv,e1,e2⟩:=hR.2 d _ hd;cases e2;have:yielded ops a.tmps j=some c:=by simp[yielded,h2,h3,e1]
   simp[this]
  ·rename_i v hnb hd;cases hw;have⟨cv,e1,e2⟩:=hR.2 d _ hd;have:yielded ops a.tmps j=none:=by
    simp only[yielded,h2,Option.bind_some,h3,e1];cases e2<;>first |rfl |exact absurd rfl (hnb _)
   simp[this]
  ·cases hw
theorem adD {o:Oper} {op:dW} (hc:fV P o.op=some op) (hd:∀f as,op≠ .dfr f as):∀c,o.op≠ .defer c:=by
 intro c e;rw[e] at hc;simp only[fV] at hc;split at hc
 ·split at hc
  ·cases hc;exact hd _ _ rfl
  ·cases hc
 ·cases hc
theorem Dj {ρ:bZ} {op:dW} {K:aK} (he:gW call ρ h op K=true):∀f as,op≠ .dfr f as:=by
 intro f as e;subst e;simp[gW,aN] at he
theorem BO {r:Option Nat} {n:Nat} {o:Oper} {op:dW} {K:aK} {next:Act→World→Prop} {Q:Exit→Act→World→Prop} (hc:fV P o.op=some op) (hnd:∀f as,op≠ .dfr f as) (hl:qB P B φ w K ((execOp a.eval o).run P w))
 (hnext:∀v h' cv φ' w',K v h'=true→bG φ' v cv→bR P B φ' h' w'→φ.le φ'→Gw B w w'→next (a.put o.dst cv) w')
 (hpan:∀v h' cv φ' w',K (.pan v) h'=true→bG φ' v cv→bR P B φ' h' w'→φ.le φ'→Gw B w w'→Q (.panic [{v:=cv,recovered:=false}]) a w'):o.wpIn (FW r) n P a w next Q:=by
 refine⟨fun _ _=>trivial, ?_⟩;rw[Oper.semAt_eq _ _ _ (adD hc hnd)];generalize(execOp a.eval o).run P w=res at hl;have fin:∀e w',Ends P B φ w K e w'→(∃cv,e= .returned cv∧next (a.put o.dst cv) w')∨∃cv,e= .panicked [{v:=cv,recovered:=false}]∧Q (.panic [{v:=cv,recovered:=false}]) a w':=by
  rintro e w' (⟨v,h',cv,φ',rfl,hK,g1,g2,g3,g4⟩|⟨v,h',cv,φ',rfl,hK,g1,g2,g3,g4⟩)
  ·exact .inl ⟨cv,rfl,hnext v h' cv φ' w' hK g1 g2 g3 g4⟩
  ·exact .inr ⟨cv,rfl,hpan v h' cv φ' w' hK g1 g2 g3 g4⟩
 cases res with
 |halt x w'=>
  cases x<;>try exact hl.elim
  case panic cv=>
   rcases fin _ _ hl with⟨cv',e,hn⟩|⟨cv',e,hn⟩
   ·cases e
   ·cases e;exact hn
 |ok nx w'=>
  cases nx<;>try exact hl.elim
  case value cv=>
   rcases fin _ _ hl with⟨cv',e,hn⟩|⟨cv',e,hn⟩
   ·cases e;exact hn
   ·cases e
  case skip=>
   rcases fin _ _ hl with⟨cv',e,hn⟩|⟨cv',e,hn⟩
   ·cases e;exact hn
   ·cases e
  case enter f args=>
   refine⟨Dv r n, ?_⟩;refine CallsIn.mono (show CallsIn (FW r) (n-1) P f args w' (Ends P B φ w K) from hl (n-1))<|fun e w'' hee=>?_
   rcases fin _ _ hee with⟨cv',rfl,hn⟩|⟨cv',rfl,hn⟩
   ·exact hn
   ·exact hn
  case round l f tmps assign body=>
   refine⟨Dv r n, ?_⟩;refine RoundIn.mono (show RoundIn (FW r) (n-1) P l f tmps assign body w' (Ends P B φ w K) from hl (n-1))<|fun e w'' hee=>?_
   rcases fin _ _ hee with⟨cv',rfl,hn⟩|⟨cv',rfl,hn⟩
   ·exact hn
   ·exact hn
theorem Md {φ:dD} {v:AV} {cv:Value} (h:bG φ v cv):iB v=none:=by cases h<;>rfl
theorem zK {x:Op} {op:dW} (h:nP P x=some op):kY P x=some op:=by
 unfold nP at h;split at h
 ·rename_i y hy;cases hi:dI y with
  |true=>rw[hi] at h;cases h
  |false=>rw[hi] at h;cases h;exact hy
 ·cases h
theorem CO {x:Op} {op:dW} (h:fV P x=some op) (hn:dI op=false):kY P x=some op:=by
 unfold fV at h
 repeat' split at h
 all_goals first
  |(cases h;done)
  |(cases h;cases hn;done)
  |exact zK h
theorem QO {o:Oper} {op:dW} {v:AV} {h':ah} (hR:lZ φ N ρ a.tmps) (H:bR P B φ h w) (hc:fV P o.op=some op) (hn:dI op=false) (e:aN ρ h op=some (v,h')):iB v=none:=by
 exact have⟨cv,w',φ',_,g1,_⟩:=vk (o:=o) hR H (CO hc hn) e;Md g1
theorem Ow {r:Option Nat} {n:Nat} {o:Oper} {op:dW} {K:aK} {next:Act→World→Prop} {Q:Exit→Act→World→Prop} (hcall:nX P call) (hR:lZ φ N ρ a.tmps) (H:bR P B φ h w) (hc:fV P o.op=some op)
 (he:gW call ρ h op K=true) (hnext:∀v h' cv φ' w',K v h'=true→bG φ' v cv→bR P B φ' h' w'→φ.le φ'→Gw B w w'→next (a.put o.dst cv) w')
 (hpan:dI op=true→∀v h' cv φ' w',K (.pan v) h'=true→bG φ' v cv→bR P B φ' h' w'→φ.le φ'→Gw B w w'→Q (.panic [{v:=cv,recovered:=false}]) a w'):o.wpIn (FW r) n P a w next Q:=by
 cases hn:dI op with
 |true=>exact BO hc (Dj he) (IZ hcall hR H hc he) hnext (hpan hn)
 |false=>
  have he0:=he;rw[kF hn] at he;split at he
  rotate_left
  ·cases he
  rename_i v0 h0 hv;have hv0:=QO hR H hc hn hv;have he2:gW call ρ h op (fun v' h'=>@decide (v'=v0∧h'=h0) (Classical.propDecidable _))=true:=by
   rw[kF hn,hv];simp
  refine BO hc (Dj he0) (IZ hcall hR H hc he2) ?_ ?_
  ·intro v h' cv φ' w' hK;have hK:=@of_decide_eq_true _ (Classical.propDecidable _) hK;obtain⟨rfl,rfl⟩:=hK;exact hnext _ _ cv φ' w' he
  ·intro v h' cv φ' w' hK;have hK:=@of_decide_eq_true _ (Classical.propDecidable _) hK;rw[←hK.1] at hv0;cases hv0
theorem qV {c:Bool} {v:AV} (h:iB v=none):oL c v=none:=by cases c<;>simp[oL,h]
theorem put_defers (a:Act) (d:Option Tmp) (v:Value):(a.put d v).defers=a.defers:=by cases d<;>rfl
theorem abj {r:Option Nat} {n:Nat} {ops:Array Oper} {i:Nat} {o:Oper} {x:aT} {σ:St} {K:KSt} {next:Act→World→Prop} {Q:Exit→Act→World→Prop} (hcall:nX P call) (hi:ops[i]? =some o) (hc:lG P N ops o=some x) (A:At P B N φ σ a w)
 (hs:jM call x σ K=true) (hnext:∀v σ' a' w' φ',K v σ'=true→iB v=none→At P B N φ' σ' a' w'→a'.defers=a.defers→φ.le φ'→Gw B w w'→next a' w')
 (hpan:dI x.op=true→∀v σ' cv w' φ',K (.pan v) σ'=true→σ'.regs=σ.regs→At P B N φ' σ' a w'→bG φ' v cv→φ.le φ'→Gw B w w'→Q (.panic [{v:=cv,recovered:=false}]) a w'):wpOpIn (FW r) n P ops Q i next a w:=by
 have⟨h1,h2,h3,h4⟩:=gq hc;unfold wpOpIn;simp only[hi];unfold jM at hs;split at hs
 ·rename_i hw;rw[mV hc A.regs hw];simp only[if_true];cases hop:fV P o.op with
  |none=>rw[hop] at h3;rw[h3] at hs;simp[gW,aN] at hs
  |some op=>
   rw[hop] at h3;simp only[Option.getD_some] at h3;rw[h3] at hs;refine Ow (K:=fun v h'=>K v ⟨zF σ.regs (dI x.op) x.dst v,h'⟩) hcall A.regs A.heap hop (by rw[h3];exact hs) ?_ ?_
   ·intro v h' cv φ' w' hK g1 g2 g3 g4;have hn:=Md g1;simp only[zF,qV hn] at hK;exact hnext v _ _ w' φ' hK hn ⟨by simp only;rw[h1];exact(A.regs.mono g3).put h2 g1,g2⟩ (put_defers _ _ _) g3 g4
   ·intro hx v h' cv φ' w' hK g1 g2 g3 g4;rw[←h3] at hx;simp only[zF,hx,oL,cond_true,iB] at hK;exact hpan hx v ⟨σ.regs,h'⟩ cv w' φ' hK rfl ⟨A.regs.mono g3,g2⟩ g1 g3 g4
 ·rename_i hw;rw[mV hc A.regs hw];simp only[Bool.false_eq_true,if_false];refine⟨fun _ _=>trivial,hnext _ _ _ w φ hs rfl ⟨?_,A.heap⟩ (put_defers _ _ _) φ.le_refl (Gw.refl B w)⟩;simp only;rw[h1];exact A.regs.put h2 (.tup .nil)
 ·cases hs
inductive tZ (φ:dD):Dk→Exit→Prop
 |normal:tZ φ .normal .normal
 |ret:tZ φ .ret .ret
 |exit (id:Nat):tZ φ (.exit id) (.exit id)
 |goto (l:Nat):tZ φ (.goto l) (.goto l)
 |panic {v:AV} {cv:Value} (h:bG φ v cv):tZ φ (.panic v) (.panic [{v:=cv,recovered:=false}])
theorem Gh {r:Option Nat} {n:Nat} {ops:Array Oper} {Q:Exit→Act→World→Prop} {tl:List Nat} (hcall:nX P call):∀(l:List Oper) (al:List aT) (k:Nat) (σ:St) (K:ow) (φ:dD) (a:Act) (w:World),
 (∀j,j<l.length→l[j]? =ops[k+j]?)→eU P N ops l=some al→At P B N φ σ a w→mR call al σ K=true→
 (∀σ' a' w' φ',K .normal σ'=true→At P B N φ' σ' a' w'→a'.defers=a.defers→φ.le φ'→Gw B w w'→wpOpsIn (FW r) n P ops Q tl a' w')→
 (∀v cv σ' a' w' φ',K (.panic v) σ'=true→bG φ' v cv→At P B N φ' σ' a' w'→a'.defers=a.defers→φ.le φ'→Gw B w w'→Q (.panic [{v:=cv,recovered:=false}]) a' w')→
 wpOpsIn (FW r) n P ops Q (List.range' k l.length++tl) a w
 | [],al,k,σ,K,φ,a,w,hl,hc,A,hr,hQ,hP=>by
   simp[eU] at hc;subst hc;simp only[mR] at hr;exact hQ σ a w φ hr A rfl φ.le_refl (Gw.refl B w)
 |o :: l,al,k,σ,K,φ,a,w,hl,hc,A,hr,hQ,hP=>by
  simp only[eU] at hc;split at hc
  ·rename_i x hx;split at hc
   ·rename_i al' hal;cases hc;simp only[mR] at hr;have hk:ops[k]? =some o:=by rw[←Nat.add_zero k, ←hl 0 (by simp)];rfl
    simp only[List.length_cons,List.range'_succ,List.cons_append];rw[wpOpsIn_cons];refine abj hcall hk hx A hr ?_ ?_
    ·intro v σ' a' w' φ' hK hn A' hd hle hg;simp only[qV hn] at hK;refine Gh hcall l al' (k+1) σ' K φ' a' w' (fun j hj=> ?_) hal A' hK ?_ ?_
     ·have:=hl (j+1) (by simp;omega);rw[show k+1+j=k+(j+1) by omega, ←this];rfl
     ·intro σ2 a2 w2 φ2 hK2 A2 hd2 hle2 hg2;exact hQ σ2 a2 w2 φ2 hK2 A2 (hd2.trans hd) (dD.le_trans hle hle2) (hg.trans hg2)
     ·intro v2 cv2 σ2 a2 w2 φ2 hK2 hE A2 hd2 hle2 hg2;exact hP v2 cv2 σ2 a2 w2 φ2 hK2 hE A2 (hd2.trans hd) (dD.le_trans hle hle2) (hg.trans hg2)
    ·intro hx v σ' cv w' φ' hK _ A' hv hle hg;simp only[hx,oL,cond_true,iB] at hK;exact hP v cv σ' a w' φ' hK hv A' rfl hle hg
   ·cases hc
  ·cases hc
theorem XW {r:Option Nat} {n:Nat} {ops:Array Oper} {Q:Exit→Act→World→Prop} (hcall:nX P call) (l:List Oper) (al:List aT) (k:Nat) (σ:St) (K:ow) (φ:dD) (a:Act) (w:World)
 (hl:∀j,l[j]? =ops[k+j]?) (hc:eU P N ops l=some al) (A:At P B N φ σ a w) (hr:mR call al σ K=true)
 (hQ:∀ex ex' σ' a' w' φ',K ex σ'=true→tZ φ' ex ex'→At P B N φ' σ' a' w'→a'.defers=a.defers→φ.le φ'→Gw B w w'→Q ex' a' w'):wpOpsIn (FW r) n P ops Q (List.range' k l.length) a w:=by
 have:=Gh (r:=r) (n:=n) (Q:=Q) (tl:=[]) hcall l al k σ K φ a w (fun j _=>hl j) hc A hr (fun σ' a' w' φ' k1 k2 k3 k4 k5=>hQ .normal _ σ' a' w' φ' k1 .normal k2 k3 k4 k5) (fun v cv σ' a' w' φ' k1 k2 k3 k4 k5 k6=>hQ (.panic v) _ σ' a' w' φ' k1 (.panic k2) k3 k4 k5 k6)
 rwa [List.append_nil] at this
theorem aa3 {r:Option Nat} {n id:Nat} {ops:Array Oper} {al:List aT} {Q:Exit→Act→World→Prop} {σ:St} {K:ow} (hcall:nX P call) (hc:eU P N ops ops.toList=some al) (A:At P B N φ σ a w) (hr:mR call al σ K=true)
 (hQ:∀ex ex' σ' a' w' φ',K ex σ'=true→tZ φ' ex ex'→At P B N φ' σ' a' w'→a'.defers=a.defers→φ.le φ'→Gw B w w'→Q ex' a' w'):(Code.region id ops false).wpIn (FW r) n P Q a w:=by
 refine wpIn_region ?_;have:=XW (r:=r) (n:=n) (Q:=Q) hcall ops.toList al 0 σ K φ a w (fun j=>by simp) hc A hr hQ;rw[Array.length_toList, ←List.range_eq_range'] at this;exact this
end
end
noncomputable section
def fD (ρ ρ':bZ) (l:List Nat):Prop:=∀t∈l,ρ.get t=ρ'.get t
section
variable {ρ ρ':bZ} {h h':ah} {v:AV}
theorem fD.left {l m:List Nat} (k:fD ρ ρ' (l++m)):fD ρ ρ' l:=fun t ht=>k t (List.mem_append_left _ ht)
theorem fD.right {l m:List Nat} (k:fD ρ ρ' (l++m)):fD ρ ρ' m:=fun t ht=>k t (List.mem_append_right _ ht)
theorem aS {x:bB} (k:fD ρ ρ' (Iu x)):ev ρ x=ev ρ' x:=by
 cases x with
 |t r=>exact k r (by simp[Iu])
 |c v=>rfl
theorem wG:∀{l:List bB},fD ρ ρ' (Vf l)→evs ρ l=evs ρ' l
 | [],_=>rfl
 |x :: l,k=>by
  simp only[Vf] at k;simp only[evs,aS k.left,wG k.right]
theorem rW {d:Nat} {x:Option bB} (k:fD ρ ρ' (O5 x)):oD ρ d x=oD ρ' d x:=by
 cases x with
 |none=>rfl
 |some x=>simp only[oD,aS (show fD ρ ρ' (Iu x) from k)]
theorem Ie:∀{l:List (Nat×Nat×bB)} {c:List AV},fD ρ ρ' (tsP l)→yu ρ c l=yu ρ' c l
 | [],_,_=>rfl
 |(a,b,x) :: l,c,k=>by
  simp only[tsP] at k;simp only[yu,aS k.left];split
  ·rw[Ie k.right]
  ·rfl
theorem AY {sz:Nat}:∀{l:List (Nat×bB)} {c:List (List AV)},fD ρ ρ' (tsQ l)→kW ρ sz c l=kW ρ' sz c l
 | [],_,_=>rfl
 |(a,x) :: l,c,k=>by
  simp only[tsQ] at k;simp only[kW,aS k.left];split
  ·rw[AY k.right]
  ·rfl
theorem mY {op:dW} (k:fD ρ ρ' (tsA op)):aN ρ h op=aN ρ' h op:=by
 cases op<;>simp only[tsA] at k<;>simp only[aN,qo,Ue]
 case mv=>rw[aS k]
 case pick=>rw[aS k.left.left,aS k.left.right,aS k.right]
 case box=>rw[aS k]
 case build=>rw[Ie k]
 case bslice=>rw[AY k]
 case load=>rw[aS k]
 case store=>rw[aS k.left,aS k.right]
 case nilck=>rw[aS k]
 case bin=>rw[aS k.left,aS k.right]
 case eq=>rw[aS k.left,aS k.right]
 case not=>rw[aS k]
 case neg=>rw[aS k]
 case conv=>rw[aS k]
 case b2s=>rw[aS k]
 case cvs=>rw[aS k]
 case mkfn=>rw[wG k.left,wG k.right]
 case mksl=>rw[aS k.left,aS k.right]
 case sl sz x lo hi mx=>
  have k4:=k.right;have e:∀v,GI ρ h sz v lo hi mx=GI ρ' h sz v lo hi mx:=by
   intro v;simp only[GI,rW k.left.left.right,rW k.left.right];cases mx with
   |none=>rfl
   |some m=>simp only[rW k4]
  simp only[aS k.left.left.left,e]
 case sls=>simp only[M6,aS k.left.left,rW k.left.right,rW k.right]
 case fadr=>rw[aS k]
 case fld=>rw[aS k]
 case iadr=>rw[aS k.left,aS k.right]
 case iadra=>rw[aS k.left,aS k.right]
 case idxs=>rw[aS k.left,aS k.right]
 case idxa=>rw[aS k.left,aS k.right]
 case look=>rw[aS k.left,aS k.right]
 case stw=>rw[aS k.left.left,aS k.left.right,aS k.right]
 case mupd=>rw[aS k.left.left,aS k.left.right,aS k.right]
 case ext=>rw[aS k]
 case len=>rw[aS k]
 case cap=>rw[aS k]
 case app=>rw[aS k.left,aS k.right]
 case appz=>rw[aS k.left,aS k.right]
 case copy=>rw[aS k.left,aS k.right]
 case del=>rw[aS k.left,aS k.right]
 case clr=>rw[aS k]
 case mm=>rw[wG k]
 case appb=>rw[aS k.left,aS k.right]
 case ustr=>rw[aS k.left,aS k.right]
 case uto=>rw[aS k]
 case ufr=>rw[aS k]
 case sdat=>rw[aS k]
 case rng=>rw[aS k]
 case ent=>rw[aS k]
 case mkif=>rw[aS k]
 case tas=>rw[aS k]
theorem U1 {call:bg} {op:dW} {K:aK} (k:fD ρ ρ' (tsA op)):gW call ρ h op K=gW call ρ' h op K:=by
 cases hn:dI op with
 |false=>rw[kF hn,kF hn,mY k]
 |true=>
  cases op<;>first |(cases hn;done)|skip
  case nxt x=>simp only[gW,aS (show fD ρ ρ' (Iu x) from k)]
  case call f l=>
   simp only[tsA] at k;simp only[gW,aS k.left,wG k.right]
  case pnc x=>simp only[gW,aS (show fD ρ ρ' (Iu x) from k)]
  case dfr f l=>rfl
  case rcv=>rfl
theorem Qx {g:Option (Nat×Bool)} {op:dW} {d:Option Nat} (k:fD ρ ρ' (looks ⟨d,op,g⟩)):eO ρ g=eO ρ' g:=by
 cases g with
 |none=>rfl
 |some p=>
  have⟨j,b⟩:=p;simp only[eO,k j (by simp[looks])]
theorem tX {o:aT} (k:fD ρ ρ' (looks o)):fD ρ ρ' (tsA o.op):=by
 refine fun t ht=>k t ?_;unfold looks;split
 ·exact List.mem_cons_of_mem _ ht
 ·exact ht
theorem wJ {o:aT} (k:fD ρ ρ' (looks o)):eO ρ o.grd=eO ρ' o.grd:=by
 exact have⟨d,op,g⟩:=o;Qx k
theorem Iz {op:dW} (hc:iZ op<2) (he:aN ρ h op=some (v,h')):h'=h:=by
 cases op<;>first |(simp[iZ] at hc;done)|skip
 all_goals simp only[aN] at he
 all_goals first |(exact(jQ he).2)|(cases he;done)|skip
 case pick=>
  split at he
  ·exact(jQ he).2
  ·exact(jQ he).2
  ·cases he
 case build=>
  split at he
  ·cases he;rfl
  ·cases he
 case eq=>
  split at he
  ·split at he
   ·cases he;rfl
   ·cases he
  ·cases he
 case mkfn=>
  split at he
  ·cases he;rfl
  ·cases he
 case mm=>
  split at he
  ·exact(jQ he).2
  ·cases he
theorem Dh {r:Option AV} {g:ah} (he:bT r h=some (v,h')):bT r g=some (v,g):=by
 rw[(jQ he).1];rfl
theorem TG {op:dW} {g:ah} (hc:iZ op=0) (he:aN ρ h op=some (v,h')):aN ρ g op=some (v,g):=by
 cases op<;>first |(simp[iZ] at hc;done)|skip
 all_goals simp only[aN] at he ⊢
 all_goals first |(exact Dh he)|(cases he;done)|skip
 case pick=>
  split at he
  ·exact Dh he
  ·exact Dh he
  ·cases he
 case build=>
  split at he
  ·cases he;rfl
  ·cases he
 case mkfn=>
  split at he
  ·cases he;rfl
  ·cases he
 case mm=>
  split at he
  ·exact Dh he
  ·cases he
theorem ae4 {a b:IntKind} (k:Nat.beq (nE a) (nE b)=true):a=b:=by
 cases a<;>cases b<;>first |rfl |(exact absurd k (by decide))
theorem abz {f g:NG} (k:Rj f g=true):f=g:=by
 cases f<;>cases g<;>simp only[Rj] at k<;>first |(cases k;done)|rw[Nat.eq_of_beq_eq_true k]
mutual
theorem same_eq (a b:AV) (k:AV.same a b=true):a=b:=by
 cases a<;>cases b<;>simp only[AV.same,Bool.and_eq_true] at k<;>try(cases k;done)
 case bool.bool=>rw[eq_of_beq k]
 case int.int=>rw[ae4 k.1,eq_of_beq ((xL _ _).symm.trans k.2)]
 case str.str=>rw[eq_of_beq ((JD _ _).symm.trans k)]
 case ptr.ptr=>rw[Nat.eq_of_beq_eq_true k.1.1.1,Nat.eq_of_beq_eq_true k.1.1.2,Nat.eq_of_beq_eq_true k.1.2,Nat.eq_of_beq_eq_true k.2]
 case nilPtr.nilPtr=>rfl
 case slc.slc=>rw[Nat.eq_of_beq_eq_true k.1.1.1.1.1,Nat.eq_of_beq_eq_true k.1.1.1.1.2,Nat.eq_of_beq_eq_true k.1.1.1.2,Nat.eq_of_beq_eq_true k.1.1.2,Nat.eq_of_beq_eq_true k.1.2,eq_of_beq k.2]
 case au.au=>rfl
 case emp.emp=>rfl
 case map.map=>rw[Nat.eq_of_beq_eq_true k]
 case jH.jH=>rfl
 case fn.fn f l m f' l' m'=>
  rw[abz k.1.1,uM _ _ k.1.2,uM _ _ k.2]
 case nilFn.nilFn=>rfl
 case agg.agg=>rw[uM _ _ k]
 case tup.tup=>rw[uM _ _ k]
 case iC.iC=>rfl
 case ifc.ifc=>rw[Nat.eq_of_beq_eq_true k.1,same_eq _ _ k.2]
 termination_by SizeOf.sizeOf a
theorem uM (a b:List AV) (k:rT a b=true):a=b:=by
 cases a<;>cases b<;>simp only[rT,Bool.and_eq_true] at k<;>try(cases k;done)
 case nil.nil=>rfl
 case cons.cons=>rw[same_eq _ _ k.1,uM _ _ k.2]
 termination_by SizeOf.sizeOf a
end
theorem jq {n:Nat}:∀{l:List Nat},lY n l=true↔n∈l
 | []=>by simp[lY]
 |m :: l=>by
  simp only[lY,List.mem_cons];cases hb:Nat.beq n m with
  |true=>simp[Nat.eq_of_beq_eq_true hb]
  |false=>
   have:n≠m:=dF.1 hb;simp[this,jq]
theorem fQ {p:Nat→Bool}:∀{l:List Nat},lH l p=true↔∀i∈l,p i=true
 | []=>by simp[lH]
 |m :: l=>by
  simp only[lH];cases hb:p m with
  |true=>simp[hb,fQ]
  |false=>simp[hb]
theorem wu {l m:List Nat}:kD l m=true↔∀i∈l,i ∉ m:=by
 unfold kD;rw[fQ];constructor
 ·intro k i hi hm;have:=k i hi;rw[jq.2 hm] at this;cases this
 ·intro k i hi;cases hb:lY i m with
  |false=>rfl
  |true=>exact absurd (jq.1 hb) (k i hi)
def restrict (ρ:bZ):List Nat→bZ
 | []=> .lf
 |t :: l=>match ρ.get t with
  |some v=>(restrict ρ l).set t v
  |none=>restrict ρ l
theorem sN {ρ:bZ} {t:Nat}:∀{l:List Nat},(restrict ρ l).get t=if t∈l then ρ.get t else none
 | []=>by simp[restrict,PT.get_lf]
 |u :: l=>by
  unfold restrict;split
  ·rename_i v hv;rw[PT.get_set];by_cases e:t=u
   ·subst e;simp[hv]
   ·rw[if_neg e,sN];simp[e]
  ·rename_i hv;rw[sN];by_cases e:t=u
   ·subst e;simp[hv]
   ·simp[e]
theorem pW {ρ:bZ} {l:List Nat}:fD (restrict ρ l) ρ l:=fun t ht=>by rw[sN,if_pos ht]
theorem bY {d:Option Nat} {t:Nat} (hd:d≠some t):(put ρ d v).get t=ρ.get t:=by
 cases d with
 |none=>rfl
 |some d=>simp only[put];rw[PT.get_set,if_neg (fun e=>hd (by rw[e]))]
theorem iN {d:Nat}:(put ρ (some d) v).get d=some v:=by simp only[put];rw[PT.get_set,if_pos rfl]
theorem rH {o:aT} {d:Nat}:d∈lC o↔o.dst=some d:=by
 unfold lC;split
 ·rename_i e he;simp[he,eq_comm]
 ·rename_i he;simp[he]
end
end
noncomputable section
section
variable {P:Program} {B:Base} {φ:dD} {h h':ah} {w:World} {v:AV} {N:Nat} {ρ:bZ} {a:Act}
theorem Gq {o:Oper} (he:om o=true):o.guard=none∧((∃t,o.op= .alloc t)∨(∃t x,o.op= .box t x)∨(∃t,o.op= .makeMap t none)∨(∃t l c,o.op= .makeSlice t l c)∨∃t n ps,o.op= .buildSlice t n ps):=by
 unfold om at he;split at he
 ·cases he
 ·rename_i hg;refine⟨hg, ?_⟩;split at he
  ·rename_i t ho;exact .inl ⟨t,ho⟩
  ·rename_i t x ho;exact .inr (.inl ⟨t,x,ho⟩)
  ·rename_i t l c ho;exact .inr (.inr (.inr (.inl ⟨t,l,c,ho⟩)))
  ·rename_i t n ps ho;exact .inr (.inr (.inr (.inr ⟨t,n,ps,ho⟩)))
  ·rename_i t ho;exact .inr (.inr (.inl ⟨t,ho⟩))
  ·cases he
theorem qI {o:Oper} {op:dW} (hc:fV P o.op=some op) (he:om o=true):
 (∃t z,o.op= .alloc t∧jv P t=some z∧op=bif oJ z.cells then .allot t z.cells else .alloc z.cells)∨
 (∃t x n y,o.op= .box t x∧sizeT P t=some n∧bH x=some y∧op= .box (Lv P t) n y)∨
 (∃t,o.op= .makeMap t none∧op= .mkmap)∨
 (∃t l c e sz bytes z x y,o.op= .makeSlice t l c∧P.underlying t=some (.slice e)∧sizeT P e=some sz∧xI P e=some bytes∧jv P e=some z∧bH l=some x∧bH c=some y∧op= .mksl sz bytes z.cells x y)∨
 ∃t n ps m sz z qs,o.op= .buildSlice t n ps∧kY P (.buildSlice t n ps)=some op∧op= .bslice m sz z qs:=by
 obtain⟨_,⟨t,ho⟩|⟨t,x,ho⟩|⟨t,ho⟩|⟨t,l,c,ho⟩|⟨t,n,ps,ho⟩⟩:=Gq he
 all_goals
  rw[ho] at hc;simp only[fV] at hc;have hr:=zK hc;have hr0:=hr;simp only[kY] at hr
 ·cases hz:jv P t with
  |none=>rw[hz] at hr;cases hr
  |some z=>rw[hz] at hr;cases hr;exact .inl ⟨t,z,ho,hz,rfl⟩
 ·cases hs:sizeT P t with
  |none=>simp[hs] at hr
  |some n=>
   cases hx:bH x with
   |none=>simp[hs,hx] at hr
   |some y=>simp[hs,hx] at hr;exact .inr (.inl ⟨t,x,n,y,ho,hs,hx,hr.symm⟩)
 ·cases hr;exact .inr (.inr (.inl ⟨t,ho,rfl⟩))
 ·split at hr
  ·rename_i e hu;cases hs:sizeT P e with
   |none=>simp[hs] at hr
   |some sz=>
    cases hb:xI P e with
    |none=>simp[hs,hb] at hr
    |some bytes=>
     cases hz:jv P e with
     |none=>simp[hs,hb,hz] at hr
     |some z=>
      cases hl:bH l with
      |none=>simp[hs,hb,hz,hl] at hr
      |some l'=>
       cases hcc:bH c with
       |none=>simp[hs,hb,hz,hl,hcc] at hr
       |some c'=>
        simp[hs,hb,hz,hl,hcc] at hr;exact .inr (.inr (.inr (.inl ⟨t,l,c,e,sz,bytes,z,l',c',ho,hu,hs,hb,hz,hl,hcc,hr.symm⟩)))
  ·cases hr
 ·split at hr
  ·rename_i e hu;cases hs:sizeT P e with
   |none=>simp[hs] at hr
   |some sz=>
    cases hz:jv P e with
    |none=>simp[hs,hz] at hr
    |some z=>
     cases hps:vD ps.toList with
     |none=>simp[hs,hz,hps] at hr
     |some ap=>
      simp[hs,hz,hps] at hr;exact .inr (.inr (.inr (.inr ⟨t,n,ps,n,sz,z.cells,ap,ho,hr0,hr.symm⟩)))
  ·cases hr
theorem XR {o:Oper} {op:dW} (hc:fV P o.op=some op) (he:om o=true) (hv:aN ρ h op=some (v,h')):dI op=false∧∃ob,h'=h.push ob∧ob.own=true:=by
 rcases qI hc he with⟨t,z,_,hz,rfl⟩|⟨t,x,n,y,_,_,_,rfl⟩|⟨t,_,rfl⟩|⟨t,l,c,e,sz,bytes,z,x,y,_,_,_,_,_,_,_,rfl⟩|⟨t,m,ps,n,sz,z,qs,_,_,rfl⟩
 ·cases hn:oJ z.cells with
  |true=>
   rw[hn,cond_true] at hv;rw[cond_true];simp only[aN] at hv;cases hb:(Nat.blt 0 z.cells.length&&aB z.cells) with
   |false=>rw[hb] at hv;cases hv
   |true=>rw[hb,cond_true] at hv;cases hv;exact⟨rfl,_,rfl,rfl⟩
  |false=>
   rw[hn,cond_false] at hv;rw[cond_false];simp only[aN] at hv;have⟨_,ob,h1,h2⟩:=yV hv;exact⟨rfl,ob,h1,by rcases h2 with⟨_,rfl⟩|⟨_,rfl⟩<;>rfl⟩
 ·simp only[aN] at hv;split at hv
  ·rename_i u hu;unfold mo at hv;cases hb:(Nat.beq u.cells.length n&&aB u.cells&&Nat.blt 0 n) with
   |false=>rw[hb] at hv;cases hv
   |true=>rw[hb,cond_true] at hv;cases hv;exact⟨rfl,_,rfl,rfl⟩
  ·cases hv
 ·simp only[aN] at hv;cases hv;exact⟨rfl,_,rfl,rfl⟩
 ·simp only[aN] at hv;split at hv
  ·exact have⟨ob,h1,h2⟩:=MV hv;⟨rfl,ob,h1,h2⟩
  ·cases hv
 ·simp only[aN] at hv;cases hb:(Nat.beq z.length sz&&Nat.blt 0 sz&&Nat.ble (n*sz) 16777216&&aB z) with
  |false=>rw[hb] at hv;cases hv
  |true=>
   rw[hb,cond_true] at hv;split at hv
   ·cases hv;exact⟨rfl,_,rfl,rfl⟩
   ·cases hv
theorem WA {o:Oper} {op:dW} {hp:ah} {ob:fC} (hR:lZ φ N ρ a.tmps) (H:bR P B φ h w) (hc:fV P o.op=some op) (he:om o=true) (hv:aN ρ hp op=some (v,hp.push ob)) (hg:B.gh hp.sz=some ob):
 qK P (B.del hp.sz) φ h v w ((execOp a.eval o).run P w):=by
 rcases qI hc he with⟨t,z,ho,hz,rfl⟩|⟨t,x,n,y,ho,hs,hx,rfl⟩|⟨t,ho,rfl⟩|⟨t,l,c,e,sz,bytes,z,x,y,ho,hu,hs,hb,hz,hl,hcc,rfl⟩|⟨t,m,ps,n,sz,z,qs,ho,hraw,rfl⟩
 ·cases hn:oJ z.cells with
  |true=>
   rw[hn,cond_true] at hv;simp only[aN] at hv;cases hb:(Nat.blt 0 z.cells.length&&aB z.cells) with
   |false=>rw[hb] at hv;cases hv
   |true=>
    rw[hb,cond_true] at hv;simp only[Option.some.injEq,Prod.mk.injEq] at hv;obtain⟨rfl,e⟩:=hv;have hob:=push_inj e;subst hob;simp only[execOp,ho];exact qK.ofV (WI H hz rfl hb hg)
  |false=>
   rw[hn,cond_false] at hv;simp only[aN] at hv;simp only[execOp,ho];exact qK.ofV (IC H hz rfl hv hg)
 ·simp only[aN] at hv;split at hv
  ·rename_i u hu;unfold mo at hv;cases hb:(Nat.beq u.cells.length n&&aB u.cells&&Nat.blt 0 n) with
   |false=>rw[hb] at hv;cases hv
   |true=>
    rw[hb,cond_true] at hv;simp only[Option.some.injEq,Prod.mk.injEq] at hv;obtain⟨rfl,e⟩:=hv;have hob:=push_inj e;subst hob;simp only[execOp,ho];exact qK.ofV (abC H (bX hR hx hu) hb hg)
  ·cases hv
 ·simp only[aN] at hv;simp only[Option.some.injEq,Prod.mk.injEq] at hv;obtain⟨rfl,e⟩:=hv;have hob:=push_inj e;subst hob;have hle:=dD.le_add (φ:=φ) (id:=hp.sz) (g:=0) ⟨w.heap.size,0,0,0,0⟩ ((H.ghost _ _ hg).2.2.1 0);have hp':=H.fill hg rfl (L:=⟨w.heap.size,0,0,0,0⟩) (ob:= .map #[] 0) rfl (fun ds e=>by cases e) ⟨_, #[],dD.add_same _ _ _ _,heap_alloc_new w _, .nil⟩;simp only[execOp,ho];exact qK.ofV ⟨.map (some w.heap.size),_,_,by simp[Instr.makeMap], .map (dD.add_same _ _ _ _),hp',hle,Gw.alloc H.base (fun _ _ _ e=>by cases e)⟩
 ·simp only[aN] at hv;split at hv
  ·rename_i u u' h1 h2;simp only[execOp,ho];exact qK.ofV (N8 H hu hs hb hz (bX hR hl h1) (bX hR hcc h2) hv hg)
  ·cases hv
 ·simp only[execOp,ho];exact qK.ofV (Uj hR H hraw hv hg)
theorem bR.fade {id:Nat} {o:fC} (H:bR P B φ h w) (ho:h.get id=some o) (hown:o.own=true):bR P (B.del id) φ (h.put id .gone) w:=by
 have hlt:id<h.sz:=by
  rcases Nat.lt_or_ge id h.sz with h1 |h1
  ·exact h1
  ·rw[H.gone id h1] at ho;cases ho
 refine⟨H.base,H.dom,fun a ha=> ?_,fun a ob hg hb=> ?_,H.lt,fun a ob g L hg hL=> ?_,fun a ob a' g g' L L' hg hob hL hL' hblk=> ?_,H.nodef,fun a ob hb=> ?_⟩
 ·rw[ah.get_put];have hne:a≠id:=fun e=>by subst e;exact absurd hlt (Nat.not_lt.2 ha)
  rw[if_neg hne];exact H.gone a ha
 ·rw[ah.get_put] at hg;by_cases e:a=id
  ·rw[if_pos e] at hg;cases hg;trivial
  ·rw[if_neg e] at hg;rw[Base.del_other _ e] at hb;exact H.objn a ob hg hb
 ·rw[ah.get_put] at hg;by_cases e:a=id
  ·rw[if_pos e] at hg;cases hg;subst e;exact⟨fun _=>(H.own a o g L ho hL).1 hown,fun e=>by cases e⟩
  ·rw[if_neg e] at hg;exact H.own a ob g L hg hL
 ·rw[ah.get_put] at hg;by_cases e:a=id
  ·subst e;exact H.disj a o a' g g' L L' ho hown hL hL' hblk
  ·rw[if_neg e] at hg;exact H.disj a ob a' g g' L L' hg hob hL hL' hblk
 ·by_cases e:a=id
  ·subst e;rw[Base.del_same] at hb;cases hb
  ·rw[Base.del_other _ e] at hb;obtain⟨h1,h2,h3⟩:=H.ghost a ob hb;exact⟨fun u hu=>by rw[ah.get_put,if_neg e] at hu;exact h1 u hu,h2,h3⟩
theorem bR.nN:∀{es:List Nat} {B:Base} {h h':ah},bR P B φ h w→nN es h=some h'→∃B':Base,B'.n=B.n∧(∀id,B'.gh id=if id∈es then none else B.gh id)∧bR P B' φ h' w
 | [],B,h,h',H,e=>by cases e;exact⟨B,rfl,fun id=>by simp,H⟩
 |id :: l,B,h,h',H,e=>by
  simp only[Go.Ab.nN] at e;split at e
  ·rename_i o ho;cases hb:o.own with
   |false=>rw[hb] at e;cases e
   |true=>
    rw[hb,cond_true] at e;refine have⟨B',h1,h2,h3⟩:=bR.nN (H.fade ho hb) e;⟨B',h1,fun a=> ?_,h3⟩
    rw[h2 a];by_cases hl:a∈l
    ·rw[if_pos hl,if_pos (List.mem_cons_of_mem _ hl)]
    ·rw[if_neg hl];by_cases e':a=id
     ·subst e';rw[Base.del_same,if_pos List.mem_cons_self]
     ·rw[Base.del_other _ e',if_neg];intro hm;rcases List.mem_cons.1 hm with h |h
      ·exact e' h
      ·exact hl h
  ·cases e
theorem ah.put_comm {id jd:Nat} (o u:fC) (hne:id≠jd):(h.put jd u).put id o=(h.put id o).put jd u:=by
 simp only[ah.put,ah.mk.injEq,true_and];exact PT.set_comm _ _ _ hne
def BH (h:ah) (id:Nat):Option fC→ah
 |some o=>h.put id o
 |none=>h
theorem Pd {id jd:Nat} (o u:Option fC) (hne:id≠jd):BH (BH h jd u) id o=BH (BH h id o) jd u:=by
 cases o<;>cases u<;>first |rfl |exact ah.put_comm _ _ hne
theorem En {id jd:Nat} (o:Option fC) (hne:jd≠id):(BH h id o).row jd=h.row jd:=by
 cases o with
 |none=>rfl
 |some o=>simp only[BH,ah.row];rw[ah.get_put,if_neg hne]
theorem NU {n id g i o:Nat} {u:AV} (he:bM h n (.ptr id g i o) u=some h'):∃ob:Option fC,h'=BH h id ob∧(∀hh:ah,hh.row id=h.row id→bM hh n (.ptr id g i o) u=some (BH hh id ob))∧∀b,ob=some b→∃r r',h.row id=some r∧b= .row r'∧r'.sz=r.sz:=by
 simp only[bM] at he;cases hr:h.row id with
 |none=>
  rw[hr] at he;simp only at he;cases hb:(Nat.beq n 0&&Nat.beq u.cells.length 0) with
  |false=>rw[hb] at he;cases he
  |true=>
   rw[hb,cond_true] at he;cases he;exact⟨none,rfl,fun hh e=>by simp only[bM,e,hb,cond_true,BH],fun b e=>by cases e⟩
 |some r=>
  rw[hr] at he;simp only at he;cases hb:(r.rw&&Nat.beq g r.g&&Nat.beq u.cells.length n&&aB u.cells) with
  |false=>rw[hb] at he;cases he
  |true=>
   rw[hb,cond_true] at he;cases hn:nth r.es i with
   |none=>rw[hn] at he;cases he
   |some e=>
    rw[hn] at he;simp only at he;cases hl:Nat.ble (o+n) e.length with
    |false=>rw[hl] at he;cases he
    |true=>
     rw[hl,cond_true] at he;cases he;exact⟨some _,rfl,fun hh e'=>by simp only[bM,e',hb,cond_true,hn,hl,BH],fun b e=>by cases e;exact⟨r,_,rfl,rfl,rfl⟩⟩
theorem Xv {x y:AV} (k:sj x y=true):∃a b c d a' b' c' d',x= .ptr a b c d∧y= .ptr a' b' c' d'∧a≠a':=by
 unfold sj at k;split at k
 ·rename_i i a b c j d e f;refine⟨i,a,b,c,j,d,e,f,rfl,rfl,fun hij=> ?_⟩;subst hij;simp[aG.2] at k
 ·cases k
theorem XH {n m:Nat} {a u b t:AV} {h1 h2:ah} (hab:sj a b=true) (e1:bM h n a u=some h1) (e2:bM h1 m b t=some h2):∃h3,bM h m b t=some h3∧bM h3 n a u=some h2∧∀id sz,pK h3 id sz=pK h2 id sz:=by
 obtain⟨a1,a2,a3,a4,b1,b2,b3,b4,rfl,rfl,hne⟩:=Xv hab;obtain⟨o1,rfl,f1,g1⟩:=NU e1;obtain⟨o2,rfl,f2,g2⟩:=NU e2;refine⟨BH h b1 o2,f2 h (En o1 hne.symm).symm, ?_,fun id sz=> ?_⟩
 ·rw[f1 _ (En o2 hne),Pd o1 o2 hne]
 ·rw[←Pd o1 o2 hne];by_cases e:id=a1
  ·subst e;cases o1 with
   |none=>rfl
   |some ob=>
    obtain⟨r,r',k1,rfl,k3⟩:=g1 ob rfl;have l1:(BH h b1 o2).row id=some r:=by rw[En o2 hne];exact k1
    have l2:(BH (BH h b1 o2) id (some (.row r'))).row id=some r':=by
     simp only[BH,ah.row];rw[ah.get_put,if_pos rfl]
    simp only[pK,l1,l2,k3]
  ·simp only[pK,En o1 e]
theorem Ki {as:List aT} {g:ah} (hs:∀id sz,pK h id sz=pK g id sz):∀{l:List Nat},lH l (fun i=>Ee (ao as i))=true→again ρ h (l.map (ao as))=again ρ g (l.map (ao as))
 | [],_=>rfl
 |i :: l,k=>by
  simp only[lH] at k;cases hb:Ee (ao as i) with
  |false=>rw[hb] at k;cases k
  |true=>
   rw[hb,cond_true] at k;simp only[List.map_cons,again];rw[Ki hs k];have:lW ρ h (ao as i)=lW ρ g (ao as i):=by
    unfold Ee at hb;split at hb
    ·rename_i sz x y hg ho;unfold lW;rw[hg,ho];simp only[eO,aN,Ue];have:∀p q,oG h sz p q=oG g sz p q:=by
      intro p q;unfold oG;split
      ·simp only[hs]
      ·rfl
     cases ev ρ x with
     |none=>rfl
     |some p=>
      cases ev ρ y with
      |none=>rfl
      |some q=>
       simp only[this];cases oG g sz p q<;>rfl
    ·cases hb
   rw[this]
end
end
end Go.Ab
