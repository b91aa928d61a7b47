/-
  Texts that the claim hangs on, part 6.
-/
import Derived.Test.YtibillhjmfbneaaGreatDoorR4
import Derived.ChangeOld
import Derived.ChangeSame
set_option linter.unusedSimpArgs false
set_option linter.unusedVariables false
namespace Go.Ab
inductive tF {α β:Type} (R:α→β→Prop):List α→List β→Prop
 |nil:tF R [] []
 |cons {a:α} {b:β} {l:List α} {m:List β} (h:R a b) (t:tF R l m):tF R (a :: l) (b :: m)
theorem tF.length {α β:Type} {R:α→β→Prop} {l:List α} {m:List β} (h:tF R l m):l.length=m.length:=by
 induction h with
 |nil=>rfl
 |cons _ _ ih=>simp[ih]
theorem tF.mono {α β:Type} {R S:α→β→Prop} (k:∀a b,R a b→S a b) {l:List α} {m:List β} (h:tF R l m):tF S l m:=by
 induction h with
 |nil=>exact .nil
 |cons h _ ih=>exact .cons (k _ _ h) ih
theorem tF.append {α β:Type} {R:α→β→Prop} {l:List α} {m:List β} (h:tF R l m) {l':List α} {m':List β} (h':tF R l' m'):tF R (l++l') (m++m'):=by
 induction h with
 |nil=>exact h'
 |cons h _ ih=>exact .cons h ih
mutual
def bulk {H:Type}:DataW H→Nat
 | .lit (.string bytes)=>bytes.length+1
 | .lit _=>1
 | .nil=>1
 | .ptr d=>bulk d+1
 | .slice elems spare=>yH elems+yH spare+1
 | .agg parts=>yH parts+1
 | .iface _ d=>bulk d+1
 | .map entries=>EG entries+1
 | .held _=>1
def yH {H:Type}:List (DataW H)→Nat
 | []=>0
 |d :: r=>bulk d+yH r
def EG {H:Type}:List (Lit×DataW H)→Nat
 | []=>0
 |x :: r=>VP x+EG r
def VP {H:Type}:Lit×DataW H→Nat
 |(.string bytes,d)=>bytes.length+bulk d+1
 |(_,d)=>bulk d+1
end
def szL {α:Type} (sz:α→Nat):List α→Nat
 | []=>0
 |x :: l=>sz x+szL sz l
def Ext (h h':ah):Prop:=h.sz≤h'.sz∧∀id o,h.get id=some o→h'.get id=some o
theorem Ext.refl (h:ah):Ext h h:=⟨Nat.le_refl _,fun _ _ e=>e⟩
theorem Ext.trans {a b c:ah} (h:Ext a b) (k:Ext b c):Ext a c:=⟨Nat.le_trans h.1 k.1,fun id o e=>k.2 id o (h.2 id o e)⟩
theorem Ext.row {h h':ah} (e:Ext h h') {id:Nat} {r:Row} (hr:h.row id=some r):h'.row id=some r:=ah.row_some.2 (e.2 id _ (ah.row_some.1 hr))
section
variable {H:Type} {enc:TypeId×Value→H} {P:Program} {W:World} {held:Bool}
abbrev Rd (α:Type):=ah→List AV→α→Prop
def aaR {α:Type} (R:Rd α):Prop:=∀h h' a x,Ext h h'→R h a x→R h' a x
abbrev Mq (enc:TypeId×Value→H) (P:Program) (W:World) (held:Bool) {α:Type} (t:TypeId) (n:Nat) (sz:α→Nat) (R:Rd α) (fuel:Nat):Prop:=
 ∀(cs:List Value) (d:DataW H) (ps:List MemPlace),DataW.trod enc P W 0 (fun _=>true) held fuel t cs=some (d,ps)→∀φ h,bK P (.of W.heap.size) φ h W→
  (∀(W':World) (sp':Nat→Bool),(∀k:Nat,k<W.heap.size→W'.heap[k]? =W.heap[k]?)→(∀p∈ps,sp' p.block=true)→DataW.trod enc P W' 0 sp' held fuel t cs=some (d,ps))∧
  ∃φ' h' avs x,φ.le φ'∧Ext h h'∧bK P (.of W.heap.size) φ' h' W∧bQ φ' avs cs∧avs.length=n∧aD avs=true∧R h' avs x∧sz x≤bulk d
def In (enc:TypeId×Value→H) (P:Program) (W:World) (held:Bool) {α:Type} (t:TypeId) (n:Nat) (sz:α→Nat) (R:Rd α):Prop:=
 ∀(fuel:Nat),Mq enc P W held t n sz R fuel
theorem Mq.zero {α:Type} {t:TypeId} {n:Nat} {sz:α→Nat} {R:Rd α}:Mq enc P W held t n sz R 0:=by
 intro cs d ps ht
 simp[DataW.trod] at ht
def V9:Rd (List Nat):=fun _ a s=>a=[.str s]∧∀b∈s,b<256
theorem In.str {t:TypeId} (hu:P.underlying t=some .string):In enc P W held t 1 (fun s:List Nat=>s.length+1) V9:=by
 intro fuel cs d ps ht φ h HH
 cases fuel with
 |zero=>simp[DataW.trod] at ht
 |succ fuel=>
  unfold DataW.trod at ht
  rw[hu] at ht
  split at ht<;>simp only[reduceCtorEq,Option.some.injEq] at * <;>try(cases ht;done)
  rename_i s h1
  split at ht
  ·rename_i hs
   simp only[Option.some.injEq,Prod.mk.injEq] at ht
   obtain⟨rfl,rfl⟩:=ht
   refine⟨fun W' sp' _ _=> ?_,φ,h,[.str (s.data.toList.map UInt8.toNat)],_,φ.le_refl,Ext.refl h,HH, .cons (.str rfl) .nil,rfl,rfl,⟨rfl, ?_⟩,by simp[bulk]⟩
   ·unfold DataW.trod;rw[hu];simp[hs]
   ·intro b hb
    obtain⟨u,_,rfl⟩:=List.mem_map.1 hb
    exact u.toNat_lt
  ·cases ht
def RSl {α:Type} (n:Nat) (R:Rd α):Rd (List α):=fun h a l=>
 (l=[]∧(a=[.nilSlc]∨a=[.emp]))∨∃id cap r,a=[.slc id 0 0 l.length cap true]∧h.row id=some r∧r.rw=false∧r.m=0∧r.g=0∧r.sz=n∧l.length≤cap∧cap=r.es.length∧tF (R h) (r.es.take l.length) l
theorem sW {a:Addr} {i:Nat} {W:World} {v:Value} (h:W.cell? (a.add i)=some v):a.add i=⟨a.block,a.off+i,none⟩:=by
 have hspot:(a.add i).spot=none:=by
  cases hsp:(a.add i).spot with
  |none=>rfl
  |some s=>
   simp only[World.cell?] at h
   split at h
   ·simp[hsp] at h
   ·cases h
 unfold Addr.add at hspot ⊢
 split
 ·rename_i h0
  subst h0
  rw[if_pos rfl] at hspot
  cases a
  simp_all
 ·rfl
theorem Pm {a:Addr} {i n:Nat} {cells:List Value} (hn:0<n) (h:W.cells? 0 (a.add (i*n)) n=some cells):cells.length=n∧∀(j:Nat) v,cells[j]? =some v→W.cell? ⟨a.block,a.off+i*n+j,none⟩=some v:=by
 obtain⟨_,hl,hc⟩:=World.cells?_some h
 refine⟨hl,fun j v hj=> ?_⟩
 have hjl:=(List.getElem?_eq_some_iff.1 hj).1
 have h1:=hc j (by omega)
 rw[hj] at h1
 have h0:=hc 0 hn
 have hcell0:∃v0,cells[0]? =some v0:=⟨cells[0],by simp⟩
 obtain⟨v0,hv0⟩:=hcell0
 rw[hv0] at h0
 have e1:a.add (i*n)=⟨a.block,a.off+i*n,none⟩:=by
  have:(a.add (i*n)).add 0=a.add (i*n):=by unfold Addr.add;simp
  rw[this] at h0
  exact sW h0
 rw[e1] at h1
 have e2:=sW h1
 rw[e2] at h1
 exact h1
theorem GI {φ:dB} {a:Addr} {n:Nat} (hn:0<n):∀{s:Nat} {k:Nat} {es:List (List AV)},tF (fun i e=>∃cells,W.cells? 0 (a.add (i*n)) n=some cells∧bQ φ e cells∧e.length=n∧aD e=true) (List.range' s k) es→
 ∃vals,bQ φ es.flatten vals∧∀(j:Nat) v,vals[j]? =some v→W.cell? ⟨a.block,a.off+s*n+j,none⟩=some v
 |s,0,es,h=>by
  cases h
  exact⟨[],by simp;exact .nil,by simp⟩
 |s,k+1,es,h=>by
  rw[List.range'_succ] at h
  cases h with
  |cons h t=>
   rename_i e es
   obtain⟨cells,c1,c2,c3,c4⟩:=h
   obtain⟨vals,v1,v2⟩:=GI hn t
   obtain⟨q1,q2⟩:=Pm hn c1
   refine⟨cells++vals,by simpa using c2.append v1,fun j v hj=> ?_⟩
   by_cases hjn:j<n
   ·rw[List.getElem?_append_left (by omega)] at hj
    exact q2 j v hj
   ·rw[List.getElem?_append_right (by omega),q1] at hj
    have:=v2 (j-n) v hj
    have e:a.off+s*n+j=a.off+(s+1)*n+(j-n):=by rw[Nat.add_mul];omega
    rw[e];exact this
theorem Iz {α β:Type} {f:α→Option β} {x:α} {l:List α} {r:List β} (h:(x :: l).mapM f=some r):∃y m,f x=some y∧l.mapM f=some m∧r=y :: m:=by
 rw[List.mapM_cons] at h
 cases hx:f x with
 |none=>simp[hx] at h
 |some y=>
  cases hl:l.mapM f with
  |none=>simp[hx,hl] at h
  |some m=>simp[hx,hl] at h;exact⟨y,m,rfl,rfl,h.symm⟩
theorem Dm {α:Type} {e:TypeId} {n:Nat} {sz:α→Nat} {R:Rd α} (hR:aaR R) (fuel:Nat) (I:Mq enc P W held e n sz R fuel) (a:Addr) (hn:P.cellsOf e=n):∀(l:List Nat) (xs:List (DataW H×List MemPlace)),
 l.mapM (fun i=>(W.cells? 0 (a.add (i*P.cellsOf e)) (P.cellsOf e)).bind (DataW.trod enc P W 0 (fun _=>true) held fuel e))=some xs→∀φ h,bK P (.of W.heap.size) φ h W→
  (∀(W':World) (sp':Nat→Bool),(∀k:Nat,k<W.heap.size→W'.heap[k]? =W.heap[k]?)→(∀p∈xs.flatMap (·.2),sp' p.block=true)→0<n→l.mapM (fun i=>(W'.cells? 0 (a.add (i*P.cellsOf e)) (P.cellsOf e)).bind (DataW.trod enc P W' 0 sp' held fuel e))=some xs)∧
  ∃φ' h' es ys,φ.le φ'∧Ext h h'∧bK P (.of W.heap.size) φ' h' W∧tF (fun i e=>∃cells,W.cells? 0 (a.add (i*n)) n=some cells∧bQ φ' e cells∧e.length=n∧aD e=true) l es∧tF (R h') es ys∧szL sz ys≤yH (xs.map (·.1))
 | [],xs,hm,φ,h,HH=>by
   simp at hm;subst hm
   exact⟨fun _ _ _ _ _=>by simp,φ,h,[],[],φ.le_refl,Ext.refl h,HH, .nil, .nil,by simp[szL]⟩
 |i :: l,xs,hm,φ,h,HH=>by
  obtain⟨y,m,hy,hm',rfl⟩:=Iz hm
  rw[hn] at hy
  cases hc:W.cells? 0 (a.add (i*n)) n with
  |none=>rw[hc] at hy;cases hy
  |some cells=>
   rw[hc] at hy
   simp only[Option.bind_some] at hy
   obtain⟨y1,y2⟩:=y
   obtain⟨b1,φ1,h1,avs,x,a1,a2,a3,a4,a5,a6,a7,a8⟩:=I cells y1 y2 hy φ h HH
   obtain⟨b2,φ2,h2,es,ys,c1,c2,c3,c4,c5,c6⟩:=Dm hR fuel I a hn l m hm' φ1 h1 a3
   refine⟨fun W' sp' hW hp hpos=> ?_,φ2,h2,avs :: es,x :: ys,dB.le_trans a1 c1,a2.trans c2,c3, .cons ⟨cells,hc,a4.mono c1,a5,a6⟩ c4, .cons (hR _ _ _ _ c2 a7) c5,by simp[szL,yH];omega⟩
   rw[List.mapM_cons]
   have hk:=b2 W' sp' hW (fun p hpp=>hp p (by simp[List.flatMap_cons];exact .inr (by simpa using hpp))) hpos
   have hcells:W'.cells? 0 (a.add (i*n)) n=some cells:=by
    refine World.cells?_carry hc fun p hpp=> ?_
    obtain⟨k,hk,rfl⟩:=MemPlace.mem_row.1 hpp
    have hblk:=World.cells?_block hc (by omega)
    show W'.cell? _=W.cell? _
    simp only[World.cell?]
    rw[hW _ hblk]
   rw[hn] at hk ⊢
   rw[hcells]
   simp only[Option.bind_some]
   rw[b1 W' sp' hW (fun p hpp=>hp p (by simp[List.flatMap_cons];exact .inl hpp))]
   simp[hk]
theorem bK.pushRO {φ:dB} {h:ah} (HH:bK P (.of W.heap.size) φ h W) {r:Row} (hrw:r.rw=false) {L:Loc} (hL:L.blk<W.heap.size) (hnd:∀ds:Option (List Deferred),W.heap[L.blk]? ≠some (Obj.deferred ds)) (ho:kP (φ.add h.sz 0 L) h.sz r W):
 bK P (.of W.heap.size) (φ.add h.sz 0 L) (h.push (.row r)) W:=by
 have hle:φ.le (φ.add h.sz 0 L):=dB.le_add L (HH.fresh 0)
 have hget:∀id o',(h.push (.row r)).get id=some o'→(id=h.sz∧o'= .row r)∨(id<h.sz∧h.get id=some o'):=by
  intro id o' e
  rw[ah.get_push] at e
  by_cases hi:id=h.sz
  ·rw[if_pos hi] at e;cases e;exact .inl ⟨hi,rfl⟩
  ·rw[if_neg hi] at e
   refine .inr ⟨?_,e⟩
   rcases Nat.lt_or_ge id h.sz with h1 |h1
   ·exact h1
   ·rw[HH.gone id h1] at e;cases e
 have hphi:∀id g K,φ.add h.sz 0 L id g=some K→(id=h.sz∧g=0∧K=L)∨φ id g=some K:=by
  intro id g K e
  by_cases hk:id=h.sz∧g=0
  ·obtain⟨rfl,rfl⟩:=hk;rw[dB.add_same] at e;cases e;exact .inl ⟨rfl,rfl,rfl⟩
  ·rw[dB.add_other _ _ hk] at e;exact .inr e
 refine⟨HH.base, ?_, ?_, ?_, ?_, ?_, ?_, ?_,fun id o e=>(by cases e)⟩
 ·intro id g K e
  rcases hphi id g K e with⟨rfl,_,_⟩|e
  ·simp
  ·have:=HH.dom id g K e;simp;omega
 ·intro id hid
  simp at hid
  rw[ah.get_push,if_neg (by omega)]
  exact HH.gone id (by omega)
 ·intro id o e _
  rcases hget id o e with⟨rfl,rfl⟩|⟨hid,e⟩
  ·exact ho
  ·exact(HH.objn id o e rfl).other hle (fun g=>dB.add_other _ _ (by omega)) (fun _ _ _=>rfl)
 ·intro id g K e
  rcases hphi id g K e with⟨_,_,rfl⟩|e
  ·exact hL
  ·exact HH.lt id g K e
 ·intro id o g K e hK
  rcases hget id o e with⟨rfl,rfl⟩|⟨hid,e⟩
  ·rcases hphi _ g K hK with⟨_,_,rfl⟩|hK
   ·exact⟨fun h1=>by simp[fB.own,hrw] at h1,fun _=>hL⟩
   ·rw[HH.fresh] at hK;cases hK
  ·rcases hphi _ g K hK with⟨rfl,_,_⟩|hK
   ·omega
   ·exact HH.own id o g K e hK
 ·intro id o id' g g' K K' e hown hK hK' hb
  rcases hget id o e with⟨rfl,rfl⟩|⟨hid,e⟩
  ·simp[fB.own,hrw] at hown
  ·rcases hphi _ g K hK with⟨rfl,_,_⟩|hK2
   ·omega
   ·rcases hphi _ g' K' hK' with⟨_,_,e3⟩|hK3
    ·have:W.heap.size≤K.blk:=(HH.own id o g K e hK2).1 hown
     rw[e3] at hb
     omega
    ·exact HH.disj id o id' g g' K K' e hown hK2 hK3 hb
 ·intro id g K hK ds
  rcases hphi id g K hK with⟨_,_,rfl⟩|hK
  ·exact hnd ds
  ·exact HH.nodef id g K hK ds
theorem Mq.slice {α:Type} {t e:TypeId} {n:Nat} {sz:α→Nat} {R:Rd α} {fuel:Nat} (hu:P.underlying t=some (.slice e)) (hn:P.cellsOf e=n) (hpos:0<n) (hR:aaR R) (I:Mq enc P W held e n sz R fuel):
 Mq enc P W held t 1 (fun l=>szL sz l+1) (RSl n R) (fuel+1):=by
 intro cs d ps ht φ h HH
 ·skip
  unfold DataW.trod at ht
  rw[hu] at ht
  split at ht<;>simp only[reduceCtorEq,Option.some.injEq,TypeDesc.slice.injEq] at * <;>try(cases ht;done)
  ·rename_i e' h1
   simp only[Prod.mk.injEq] at ht
   obtain⟨rfl,rfl⟩:=ht
   refine⟨fun W' sp' _ _=> ?_,φ,h,[.nilSlc],[],φ.le_refl,Ext.refl h,HH, .cons .nilSlc .nil,rfl,rfl, .inl ⟨rfl, .inl rfl⟩,by simp[bulk,szL]⟩
   unfold DataW.trod;rw[hu];rfl
  ·rename_i e' a len cap h1
   subst h1
   split at ht
   rotate_left
   ·cases ht
   rename_i hc
   obtain⟨c1,c2,c3⟩:=hc
   simp only[if_true] at ht
   cases hel:(List.range len).mapM (fun i=>(W.cells? 0 (a.add (i*P.cellsOf e)) (P.cellsOf e)).bind (DataW.trod enc P W 0 (fun _=>true) held fuel e)) with
   |none=>rw[hel] at ht;cases ht
   |some elems=>
    rw[hel] at ht
    simp only[Option.bind_some] at ht
    cases hsp:(List.range (cap-len)).mapM (fun j=>(W.cells? 0 (a.add ((len+j)*P.cellsOf e)) (P.cellsOf e)).bind (DataW.trod enc P W 0 (fun _=>true) held fuel e)) with
    |none=>rw[hsp] at ht;cases ht
    |some rest=>
     rw[hsp] at ht
     simp only[Option.map_some,Option.some.injEq,Prod.mk.injEq] at ht
     obtain⟨rfl,rfl⟩:=ht
     have hsp':(List.range' len (cap-len)).mapM (fun i=>(W.cells? 0 (a.add (i*P.cellsOf e)) (P.cellsOf e)).bind (DataW.trod enc P W 0 (fun _=>true) held fuel e))=some rest:=by
      rw[←hsp,List.range'_eq_map_range,List.mapM_map]
      rfl
     rw[List.range_eq_range'] at hel
     obtain⟨b1,φ1,h1,es,ys,p1,p2,p3,p4,p5,p6⟩:=Dm hR fuel I a hn _ _ hel φ h HH
     obtain⟨b2,φ2,h2,es2,ys2,q1,q2,q3,q4,q5,q6⟩:=Dm hR fuel I a hn _ _ hsp' φ1 h1 p3
     have hlen:es.length=len:=by have:=p4.length;simpa using this.symm
     have hlen2:es2.length=cap-len:=by have:=q4.length;simpa using this.symm
     have hylen:ys.length=len:=by rw[←p5.length,hlen]
     have hread:∀(W':World) (sp':Nat→Bool),(∀k:Nat,k<W.heap.size→W'.heap[k]? =W.heap[k]?)→(∀p∈MemPlace.row a ((elems.length+rest.length)*P.cellsOf e)++(elems++rest).flatMap (·.2),sp' p.block=true)→DataW.trod enc P W' 0 sp' held (fuel+1) t [.slice (some a) len cap]=some (.slice (elems.map (·.1)) (rest.map (·.1)),MemPlace.row a ((elems.length+rest.length)*P.cellsOf e)++(elems++rest).flatMap (·.2)):=by
      intro W' sp' hW hp
      have k1:=b1 W' sp' hW (fun p hpp=>hp p (by simp only[List.mem_append,List.flatMap_append];exact .inr (.inl hpp))) hpos
      have k2:=b2 W' sp' hW (fun p hpp=>hp p (by simp only[List.mem_append,List.flatMap_append];exact .inr (.inr hpp))) hpos
      have hl1:elems.length=len:=by
       have:=mapM_some_length hel
       simpa using this
      have hl2:rest.length=cap-len:=by
       have:=mapM_some_length hsp'
       simpa using this
      unfold DataW.trod
      rw[hu]
      simp only
      rw[if_pos ⟨c1,c2,c3⟩]
      rw[←List.range_eq_range'] at k1
      rw[k1]
      simp only[Option.bind_some]
      by_cases hcap:cap=len
      ·have hr0:rest=[]:=List.length_eq_zero_iff.1 (by omega)
       subst hr0
       have e0:cap-len=0:=by omega
       rw[e0]
       simp
      ·have:sp' a.block=true:=hp (.cell a.block a.off) (by
        rw[List.mem_append]
        refine .inl (MemPlace.mem_row.2 ⟨0, ?_,rfl⟩)
        rw[hn,hl1,hl2]
        exact Nat.mul_pos (by omega) hpos)
       rw[if_pos this]
       rw[List.range'_eq_map_range,List.mapM_map] at k2
       have k2':(List.range (cap-len)).mapM (fun j=>(W'.cells? 0 (a.add ((len+j)*P.cellsOf e)) (P.cellsOf e)).bind (DataW.trod enc P W' 0 sp' held fuel e))=some rest:=by
        rw[←k2];rfl
       rw[k2']
       simp
     by_cases hcap0:cap=0
     ·subst hcap0
      have hl0:len=0:=by omega
      subst hl0
      have:ys=[]:=List.length_eq_zero_iff.1 hylen
      refine⟨hread,φ,h,[.emp],[],φ.le_refl,Ext.refl h,HH, .cons .emp .nil,rfl,rfl, .inl ⟨rfl, .inr rfl⟩,by simp[bulk,szL]⟩
     ·have hall:tF (fun i e=>∃cells,W.cells? 0 (a.add (i*n)) n=some cells∧bQ φ2 e cells∧e.length=n∧aD e=true) (List.range' 0 cap) (es++es2):=by
       have hr:List.range' 0 cap=List.range' 0 len++List.range' len (cap-len):=by
        have:=@List.range'_append 0 len (cap-len) 1
        simp only[Nat.one_mul,Nat.zero_add] at this
        rw[this]
        congr 1;omega
       rw[hr]
       refine(p4.mono ?_).append q4
       rintro i e ⟨cells,k1,k2,k3,k4⟩
       exact⟨cells,k1,k2.mono q1,k3,k4⟩
      obtain⟨vals,v1,v2⟩:=GI hpos hall
      have hblk:a.block<W.heap.size:=by
       obtain⟨k,hk⟩:∃k,cap=k+1:=⟨cap-1,by omega⟩
       rw[hk,List.range'_succ] at hall
       generalize es++es2=ee at hall
       cases hall with
       |cons hh _=>
        obtain⟨cells,k1,_⟩:=hh
        have:=World.cells?_block k1 hpos
        unfold Addr.add at this
        split at this<;>exact this
      have hcellsB:∃c t f,W.heap[a.block]? =some (.cells c t f):=by
       obtain⟨k,hk⟩:∃k,cap=k+1:=⟨cap-1,by omega⟩
       rw[hk,List.range'_succ] at hall
       generalize es++es2=ee at hall
       cases hall with
       |cons hh _=>
        obtain⟨cells,k1,_⟩:=hh
        obtain⟨w1,w2⟩:=Pm hpos k1
        have hv:∃v,cells[0]? =some v:=⟨cells[0]'(by omega),by simp⟩
        obtain⟨v,hv⟩:=hv
        have:=w2 0 v hv
        simp only[World.cell?] at this
        split at this
        ·rename_i c t f hh;exact⟨c,t,f,hh⟩
        ·cases this
      let L:Loc:=⟨a.block,a.off,n,cap,cap⟩
      let r:Row:={es:=es++es2,sz:=n,g:=0,m:=0,rw:=false}
      have hlt:(es++es2).length=cap:=by simp;omega
      have hfresh:=q3.fresh 0
      have hle:=dB.le_add (φ:=φ2) (id:=h2.sz) (g:=0) L hfresh
      have hkey:∀g K,φ2.add h2.sz 0 L h2.sz g=some K→g=0∧K=L:=by
       intro g K e
       by_cases hg:g=0
       ·subst hg;rw[dB.add_same] at e;cases e;exact⟨rfl,rfl⟩
       ·rw[dB.add_other _ _ (show ¬(h2.sz=h2.sz∧g=0) by omega)] at e;rw[q3.fresh] at e;cases e
      have hmem:∀x∈es++es2,x.length=n∧aD x=true:=by
       intro x hx
       obtain⟨i,hi⟩:=List.getElem?_of_mem hx
       have key:∀{l:List Nat} {m:List (List AV)},tF (fun i e=>∃cells,W.cells? 0 (a.add (i*n)) n=some cells∧bQ φ2 e cells∧e.length=n∧aD e=true) l m→∀{i:Nat} {x},m[i]? =some x→x.length=n∧aD x=true:=by
        intro l m hh
        induction hh with
        |nil=>intro i x e;simp at e
        |cons hh _ ih=>
         intro i x e
         obtain⟨_,_,_,k3,k4⟩:=hh
         cases i with
         |zero=>simp at e;subst e;exact⟨k3,k4⟩
         |succ i=>simp at e;exact ih e
       exact key hall hi
      have hrow:kP (φ2.add h2.sz 0 L) h2.sz r W:=by
       refine⟨Nat.le_refl _,hpos,fun x hx=>(hmem x hx).1,fun x hx=>(hmem x hx).2,⟨L,dB.add_same _ _ _ _,hlt.symm⟩,fun g K e=> ?_,fun g K _ e=> ?_,(fun hh=>by cases hh),(fun e he=>by cases he)⟩
       ·obtain⟨rfl,rfl⟩:=hkey g K e;exact⟨Nat.le_refl _,rfl⟩
       ·obtain⟨rfl,rfl⟩:=hkey g K e
        refine⟨by simp only[L,r];omega,vals, ?_,fun j v hj=> ?_⟩
        ·simp only[L,r]
         rw[List.take_of_length_le (by omega)]
         exact v1.mono hle
        ·have:=v2 j v hj
         simpa using this
      have H3:=bK.pushRO (L:=L) q3 (r:=r) rfl hblk (fun ds=>by
       obtain⟨c,t,f,hh⟩:=hcellsB
       show W.heap[a.block]? ≠_
       rw[hh];intro e;cases e) hrow
      have hext:Ext h2 (h2.push (.row r)):=by
       refine⟨by simp,fun id o e=> ?_⟩
       rw[ah.get_push]
       have:id<h2.sz:=by
        rcases Nat.lt_or_ge id h2.sz with h1 |h1
        ·exact h1
        ·rw[q3.gone id h1] at e;cases e
       rw[if_neg (by omega)];exact e
      refine⟨hread,_,_,[.slc h2.sz 0 0 len cap true],ys,dB.le_trans p1 (dB.le_trans q1 hle),p2.trans (q2.trans hext),H3, ?_,rfl,rfl, ?_, ?_⟩
      ·have hspot:a=⟨a.block,a.off,none⟩:=by
        obtain⟨k,hk⟩:∃k,cap=k+1:=⟨cap-1,by omega⟩
        rw[hk,List.range'_succ] at hall
        generalize es++es2=ee at hall
        cases hall with
        |cons hh _=>
         obtain⟨cells,k1,_⟩:=hh
         obtain⟨_,hl,hcc⟩:=World.cells?_some k1
         have h0:=hcc 0 hpos
         have hv:∃v,cells[0]? =some v:=⟨cells[0]'(by omega),by simp⟩
         obtain⟨v,hv⟩:=hv
         rw[hv] at h0
         have e0:(a.add (0*n)).add 0=a.add 0:=by unfold Addr.add;simp
         rw[e0] at h0
         have:=sW h0
         unfold Addr.add at this
         simpa using this
       rw[hspot]
       exact .cons (.slc (L:=L) (dB.add_same _ _ _ _) c2 (by simp[L]) (by simp[L]) (Nat.le_refl _) (fun _=>rfl) (fun _=>by simp[L])) .nil
      ·refine .inr ⟨h2.sz,cap,r,by rw[hylen], ?_,rfl,rfl,rfl,rfl,by rw[hylen];exact c2,hlt.symm, ?_⟩
       ·rw[ah.row_some,ah.get_push,if_pos rfl]
       ·show tF (R _) ((es++es2).take ys.length) ys
        rw[hylen, ←hlen,List.take_left]
        exact p5.mono fun x y hxy=>hR _ _ _ _ (q2.trans hext) hxy
      ·simp only[bulk]
       omega
theorem In.slice {α:Type} {t e:TypeId} {n:Nat} {sz:α→Nat} {R:Rd α} (hu:P.underlying t=some (.slice e)) (hn:P.cellsOf e=n) (hpos:0<n) (hR:aaR R) (I:In enc P W held e n sz R):
 In enc P W held t 1 (fun l=>szL sz l+1) (RSl n R)
 |0=>Mq.zero
 |fuel+1=>Mq.slice hu hn hpos hR (I fuel)
end
noncomputable section
def sD (o:Option AV) (k:AV→Bool):Bool:=
 match o with
 |some v=>k v
 |none=>false
def Li (o:Option (AV×ah)) (k:au):Bool:=
 match o with
 |some p=>match p with |(v,h)=>k v h
 |none=>false
def acf (c:AV) (a b:Bool):Bool:=
 match c with
 | .bool x=>match x with |true=>a |false=>b
 |_=>false
def Yj (c:AV) (b:Bool):Bool:=
 match c with
 | .bool x=>x==b
 |_=>false
def agb (w:Bool) (o:Option AV):Option AV:=bif w then o else some (.tup [])
def afI (w:Bool) (o:Option (AV×ah)) (h:ah):Option (AV×ah):=bif w then o else some (.tup [],h)
def agZ (w:Bool) (run:au→Bool) (h:ah) (K:au):Bool:=bif w then run K else K (.tup []) h
theorem kJ (o:Option AV) (k:AV→Bool):bM o k=sD o k:=by cases o<;>rfl
theorem M4 (o:Option (AV×ah)) (k:au):aW o k=Li o k:=by cases o<;>rfl
theorem aaU (h:ah) (a:AV) (k:AV→Bool):ay h a k=sD (dZ h false 1 a) k:=by rw[NZ h 1,kJ]
theorem XH (h:ah) (n:Nat) (a:AV) (k:AV→Bool):bL h n a k=sD (dZ h true n a) k:=by rw[KY,kJ]
theorem Q6 (x y:AV) (k:AV→Bool):dS x y k=sD (eH .eql x y) k:=by rw[UJ,kJ]
theorem XL (x y:AV) (k:AV→Bool):jF x y k=sD (eH .neq x y) k:=by rw[Tj,kJ]
theorem XF (x y:AV) (k:AV→Bool):lI x y k=sD (eH .lss x y) k:=by rw[U1,kJ]
theorem ac0 (x y:AV) (k:AV→Bool):JM x y k=sD (eH .leq x y) k:=by rw[Uy,kJ]
theorem afg (x y:AV) (k:AV→Bool):JI x y k=sD (eH .gtr x y) k:=by rw[Vo,kJ]
theorem YH (x y:AV) (k:AV→Bool):Cr x y k=sD (eH .geq x y) k:=by rw[UD,kJ]
theorem XZ (x y:AV) (k:AV→Bool):gX x y k=sD (eH .add x y) k:=by rw[TD,kJ]
theorem X5 (x y:AV) (k:AV→Bool):JJ x y k=sD (eH .sub x y) k:=by rw[TY,kJ]
theorem Us (c a b:AV) (k:AV→Bool):bU c a b k=sD (Pp c a b) k:=by rw[OQ,kJ]
theorem Rq (i:Nat) (x:AV) (k:AV→Bool):ko i x k=sD (RD i x) k:=by rw[Tk,kJ]
theorem aap (h:ah) (x:AV) (k:AV→Bool):nW x k=sD (Ae h 0 x) k:=by rw[Qj h,kJ]
theorem X0 (h:ah) (x:AV) (k:AV→Bool):gu x k=sD (Ae h 1 x) k:=by rw[UF h,kJ]
theorem TA (h:ah) (sz:Nat) (x y:AV) (k:AV→Bool):dX h sz x y k=sD (oL h sz x y) k:=by rw[PG,kJ]
theorem aaT (x y:AV) (k:AV→Bool):ES x y k=sD (lX x y) k:=by rw[ND,kJ]
theorem afa (off:Nat) (x:AV) (k:AV→Bool):Nz off x k=sD (JW false off 1 x) k:=by rw[Uu off 1,kJ]
theorem acM (x:AV) (lo hi:Option AV) (k:AV→Bool):Nh x lo hi k=sD (mF x lo hi) k:=by rw[TK,kJ]
theorem Qf (z:List AV) (ps:List (Nat×Nat×AV)) (k:AV→Bool):dK z ps k=sD (oZ z ps) k:=by rw[Ky,kJ]
theorem XW (o:Option ah) (k:ah→Bool):bM o k=Li (unit o) fun _ h=>k h:=by cases o<;>rfl
theorem Od (h:ah) (a v:AV) (k:ah→Bool):bJ h a v k=Li (unit (bW h 1 a v)) fun _ h=>k h:=by rw[KH,XW]
theorem KP (h:ah) (n:Nat) (a v:AV) (k:ah→Bool) (hn:Nat.beq n 0=false):aN h n a v k=Li (unit (bW h n a v)) fun _ h=>k h:=by rw[IK _ _ _ _ _ hn,XW]
theorem HZ (h:ah) (z:List AV) (k:au) (n:Nat) (hn:z.length=n) (h0:Nat.beq n 0=false) (hl:aD z=true):bR h z n k=Li (oh h z) k:=by
 subst hn
 rw[KQ _ _ _ h0 hl,M4];rfl
theorem Y0 (h:ah) (v:AV) (k:au):Es h v k=Li (mU h none 1 v) k:=by rw[Tp,M4]
theorem YJ (h:ah) (sz bytes:Nat) (s x:AV) (k:au) (hs:Nat.beq sz 0=false):pV h sz bytes s x k=Li (iq h sz bytes s x) k:=by rw[Uf _ _ _ _ _ _ hs,M4]
end
@[simp] theorem afA (v:AV) (k:AV→Bool):sD (some v) k=k v:=rfl
@[simp] theorem afp (k:AV→Bool):sD none k=false:=rfl
@[simp] theorem afB (v:AV) (h:ah) (k:au):Li (some (v,h)) k=k v h:=rfl
@[simp] theorem afD (k:au):Li none k=false:=rfl
@[simp] theorem aer (a b:Bool):acf (.bool true) a b=a:=rfl
@[simp] theorem acg (a b:Bool):acf (.bool false) a b=b:=rfl
@[simp] theorem aew (c:Bool):Yj (.bool c) true=c:=by cases c<;>rfl
@[simp] theorem ach (c:Bool):Yj (.bool c) false= !c:=by cases c<;>rfl
@[simp] theorem afG (l:List AV) (b:Bool):Yj (.tup l) b=false:=rfl
@[simp] theorem afo (o:Option AV):agb true o=o:=rfl
@[simp] theorem acQ (o:Option AV):agb false o=some (.tup []):=rfl
@[simp] theorem afw (o:Option (AV×ah)) (h:ah):afI true o h=o:=rfl
@[simp] theorem aem (o:Option (AV×ah)) (h:ah):afI false o h=some (.tup [],h):=rfl
@[simp] theorem afz (r:au→Bool) (h:ah) (K:au):agZ true r h K=r K:=rfl
@[simp] theorem aep (r:au→Bool) (h:ah) (K:au):agZ false r h K=K (.tup []) h:=rfl
@[simp] theorem ae6 (a b:AV):Pp (.bool true) a b=some a:=rfl
@[simp] theorem ab6 (a b:AV):Pp (.bool false) a b=some b:=rfl
@[simp] theorem aft (b:Bool):WV (.bool b)=some (.bool (!b)):=rfl
@[simp] theorem adD (a b c d:Nat):Cv (.ptr a b c d)=some (.ptr a b c d):=rfl
@[simp] theorem afy (off a b c d:Nat):KO off (.ptr a b c d)=some (.ptr a b c (d+off)):=rfl
@[simp] theorem ahi (i:Nat) (l:List AV):RD i (.tup l)=nth l i:=rfl
@[simp] theorem wL {α:Type} (x:α) (l:List α):nth (x :: l) 0=some x:=rfl
@[simp] theorem agr {α:Type} (x:α) (l:List α) (n:Nat):nth (x :: l) (n+1)=nth l n:=rfl
@[simp] theorem ahS {α:Type} (n:Nat):nth ([]:List α) n=none:=rfl
@[simp] theorem ahk (ag:Bool) (off n:Nat) (l:List AV):JW ag off n (.agg l)=lY ag off n l:=rfl
@[simp] theorem aci (off n:Nat) (l:List AV):lY false off n l=nth l off:=rfl
@[simp] theorem afR (h:ah) (s:List Nat):Ae h 0 (.str s)=some (.int .i64 (s.length:Int)):=rfl
@[simp] theorem Y3 (call:aj) (f:VI) (a b vs:List AV) (h:ah) (K:au):mI call (.fn f a b) vs h K=call f (a++vs++b) h K:=rfl
@[simp] theorem afC (l:List AV) (h:ah) (K:au):gq (some l) h K=K (oneOf l) h:=rfl
@[simp] theorem afv (v:AV):oneOf [v]=v:=rfl
theorem nZ (a b:Int):vJ a b=decide (a<b):=yB a b
theorem qb (a b:Int):wR a b=decide (a=b):=by rw[vo];rfl
theorem pX (a b:List Nat):Dl a b=decide (a=b):=by
 rw[FM]
 by_cases e:a=b
 ·subst e;simp
 ·rw[decide_eq_false e];exact beq_eq_false_iff_ne.2 e
theorem iC (op:BinOp) (k:IntKind) (a b:Int) (hs:l9 op=false):eH op (.int k a) (.int k b)=lC op k a b:=by
 simp only[eH,hs,cond_false,Nat.beq_refl,cond_true]
@[simp] theorem He (k:IntKind) (a b:Int):eH .lss (.int k a) (.int k b)=some (.bool (decide (a<b))):=by rw[iC _ _ _ _ rfl];simp only[lC,nZ]
@[simp] theorem agK (k:IntKind) (a b:Int):eH .gtr (.int k a) (.int k b)=some (.bool (decide (b<a))):=by rw[iC _ _ _ _ rfl];simp only[lC,nZ]
@[simp] theorem ag4 (k:IntKind) (a b:Int):eH .leq (.int k a) (.int k b)=some (.bool (decide (a≤b))):=by
  rw[iC _ _ _ _ rfl];simp only[lC,nZ]
  by_cases e:b<a
  ·rw[decide_eq_true e,decide_eq_false (by omega)];rfl
  ·rw[decide_eq_false e,decide_eq_true (by omega)];rfl
@[simp] theorem OL (k:IntKind) (a b:Int):eH .geq (.int k a) (.int k b)=some (.bool (decide (b≤a))):=by
  rw[iC _ _ _ _ rfl];simp only[lC,nZ]
  by_cases e:a<b
  ·rw[decide_eq_true e,decide_eq_false (by omega)];rfl
  ·rw[decide_eq_false e,decide_eq_true (by omega)];rfl
@[simp] theorem OZ (k:IntKind) (a b:Int):eH .eql (.int k a) (.int k b)=some (.bool (decide (a=b))):=by rw[iC _ _ _ _ rfl];simp only[lC,qb]
@[simp] theorem ahm (k:IntKind) (a b:Int):eH .neq (.int k a) (.int k b)=some (.bool (!decide (a=b))):=by rw[iC _ _ _ _ rfl];simp only[lC,qb]
theorem NV (k:IntKind) (a b:Int):eH .add (.int k a) (.int k b)=some (.int k (qW k (a+b))):=by rw[iC _ _ _ _ rfl];rfl
theorem NU (k:IntKind) (a b:Int):eH .sub (.int k a) (.int k b)=some (.int k (qW k (a-b))):=by rw[iC _ _ _ _ rfl];rfl
@[simp] theorem afs (a b:List Nat):eH .eql (.str a) (.str b)=some (.bool (decide (a=b))):=by simp only[eH,EK,pX]
@[simp] theorem afu (a b:List Nat):eH .neq (.str a) (.str b)=some (.bool (!decide (a=b))):=by simp only[eH,EK,pX]
theorem wrap64 {n:Int} (h1: -9223372036854775808≤n) (h2:n≤9223372036854775807):qW .i64 n=n:=by
 have:Fg .i64 n=true:=by
  cases n with
  |ofNat m=>
   have e:Int.ofNat m=(m:Int):=rfl
   simp only[Fg];exact aK.2 (by omega)
  |negSucc m=>
   have e:Int.negSucc m= -((m:Int)+1):=rfl
   simp only[Fg];exact aK.2 (by omega)
 simp only[qW,this,cond_true]
theorem ab1 {a b:Int} (h1: -9223372036854775808≤a+b) (h2:a+b≤9223372036854775807):eH .add (.int .i64 a) (.int .i64 b)=some (.int .i64 (a+b)):=by rw[NV,wrap64 h1 h2]
theorem ahj {a b:Int} (h1: -9223372036854775808≤a-b) (h2:a-b≤9223372036854775807):eH .sub (.int .i64 a) (.int .i64 b)=some (.int .i64 (a-b)):=by rw[NU,wrap64 h1 h2]
def lim:Nat:=4611686018427387904
theorem qp:lim=4611686018427387904:=rfl
theorem jw {i:Nat} (h0:i<lim):eH .add (.int .i64 (i:Int)) (.int .i64 1)=some (.int .i64 ((i+1:Nat):Int)):=by
 have h:i<4611686018427387904:=h0
 rw[ab1 (by omega) (by omega)];rfl
@[simp] theorem qN (k:IntKind) (n:Nat):asNat (.int k (n:Int))=some n:=rfl
theorem QU {s:List Nat} {k:IntKind} {i b:Nat} (h:s[i]? =some b):lX (.str s) (.int k (i:Int))=some (.int .u8 (b:Int)):=by
 simp only[lX,qN,mM,h];rfl
@[simp] theorem akG (k b:Nat):((@OfNat.ofNat Int k _:Int)≤(b:Int))=((@OfNat.ofNat Nat k _:Nat)≤b):=by
  apply propext;show((k:Nat):Int)≤(b:Int)↔k≤b;omega
@[simp] theorem aiw (k b:Nat):((b:Int)≤(@OfNat.ofNat Int k _:Int))=(b≤(@OfNat.ofNat Nat k _:Nat)):=by
  apply propext;show(b:Int)≤((k:Nat):Int)↔b≤k;omega
@[simp] theorem aju (k b:Nat):((@OfNat.ofNat Int k _:Int)<(b:Int))=((@OfNat.ofNat Nat k _:Nat)<b):=by
  apply propext;show((k:Nat):Int)<(b:Int)↔k<b;omega
@[simp] theorem akp (k b:Nat):((b:Int)<(@OfNat.ofNat Int k _:Int))=(b<(@OfNat.ofNat Nat k _:Nat)):=by
  apply propext;show(b:Int)<((k:Nat):Int)↔b<k;omega
@[simp] theorem akU (k b:Nat):((@OfNat.ofNat Int k _:Int)=(b:Int))=((@OfNat.ofNat Nat k _:Nat)=b):=by
  apply propext;show((k:Nat):Int)=(b:Int)↔k=b;omega
@[simp] theorem akH (k b:Nat):((b:Int)=(@OfNat.ofNat Int k _:Int))=(b=(@OfNat.ofNat Nat k _:Nat)):=by
  apply propext;show(b:Int)=((k:Nat):Int)↔b=k;omega
def View (h:ah) (n:Nat) (v:AV) (es:List (List AV)):Prop:=
 (es=[]∧(v= .nilSlc∨v= .emp))∨∃id g s cap ex r,v= .slc id g s es.length cap ex∧h.row id=some r∧r.m≤g∧r.sz=n∧(r.es.drop s).take es.length=es∧es.length≤cap
theorem View.nil (h:ah) (n:Nat):View h n .nilSlc []:= .inl ⟨rfl, .inl rfl⟩
theorem View.ext {h h':ah} {n:Nat} {v:AV} {es:List (List AV)} (V:View h n v es) (e:Ext h h'):View h' n v es:=by
 rcases V with V |⟨id,g,s,cap,ex,r,h1,h2,h3⟩
 ·exact .inl V
 ·exact .inr ⟨id,g,s,cap,ex,r,h1,e.row h2,h3⟩
theorem View.leaf {h:ah} {n:Nat} {v:AV} {es:List (List AV)} (V:View h n v es):v.leaf=true:=by
 rcases V with⟨rfl,rfl |rfl⟩|⟨id,g,s,cap,ex,r,rfl,_⟩<;>rfl
theorem View.len {h:ah} {n:Nat} {v:AV} {es:List (List AV)} (V:View h n v es):Ae h 1 v=some (.int .i64 (es.length:Int)):=by
 rcases V with⟨rfl,rfl |rfl⟩|⟨id,g,s,cap,ex,r,rfl,_⟩<;>rfl
theorem View.at {h:ah} {n:Nat} {v:AV} {es:List (List AV)} (V:View h n v es) {i:Nat} {e:List AV} (hi:es[i]? =some e):
 ∃id g j,(∀k,oL h n v (.int k (i:Int))=some (.ptr id g j 0))∧∀ag off m,dZ h ag m (.ptr id g j off)=lY ag off m e:=by
 rcases V with⟨rfl,_⟩|⟨id,g,s,cap,ex,r,rfl,h2,h3,h4,h5,h6⟩
 ·simp at hi
 ·have hlt:i<es.length:=(List.getElem?_eq_some_iff.1 hi).1
  refine⟨id,g,s+i,fun k=> ?_,fun ag off m=> ?_⟩
  ·have:oM h id n=true:=by simp only[oM,h2,aH];exact h4
   simp only[oL,qN,bg.2 hlt,this,Bool.and_self,cond_true]
  ·have hn:nth r.es (s+i)=some e:=by
    rw[mM]
    rw[←h5,List.getElem?_take] at hi
    simp only[hlt,if_true,List.getElem?_drop] at hi
    exact hi
   simp only[dZ,h2,aK.2 h3,cond_true,hn]
theorem View.src {h:ah} {n:Nat} {v:AV} {es:List (List AV)} (V:View h n v es):source h n v=some es:=by
 rcases V with⟨rfl,rfl |rfl⟩|⟨id,g,s,cap,ex,r,rfl,h2,h3,h4,h5,h6⟩
 ·rfl
 ·rfl
 ·simp only[source]
  cases hb:Nat.beq es.length 0 with
  |true=>
   rw[cond_true]
   have:=aH.1 hb
   rw[List.length_eq_zero_iff.1 this]
  |false=>
   simp only[cond_false,h2,aK.2 h3,aH.2 h4,Bool.and_self,cond_true,h5,aH.2 rfl]
def Own (b:Nat) (h:ah) (n:Nat) (v:AV) (es:List (List AV)):Prop:=
 (v= .nilSlc∧es=[])∨∃id r,b≤id∧v= .slc id r.g 0 es.length es.length false∧h.row id=some r∧r.rw=true∧r.m≤r.g∧r.sz=n∧r.es=es
theorem Own.view {b:Nat} {h:ah} {n:Nat} {v:AV} {es:List (List AV)} (O:Own b h n v es):View h n v es:=by
 rcases O with⟨rfl,rfl⟩|⟨id,r,_,rfl,h2,h3,h4,h5,h6⟩
 ·exact View.nil h n
 ·exact .inr ⟨id,r.g,0,es.length,false,r,rfl,h2,h4,h5,by simp[h6],Nat.le_refl _⟩
theorem Own.ext {b n:Nat} {h h':ah} {v:AV} {es:List (List AV)} (V:Own b h n v es) (e:Ext h h'):Own b h' n v es:=by
 rcases V with V |⟨id,r,w1,w2,w3,w4,w5,w6,w7⟩
 ·exact .inl V
 ·exact .inr ⟨id,r,w1,w2,e.row w3,w4,w5,w6,w7⟩
theorem Own.nil (b:Nat) (h:ah) (n:Nat):Own b h n .nilSlc []:= .inl ⟨rfl,rfl⟩
theorem sj {h:ah} (gone:∀id,h.sz≤id→h.get id=none) (o:fB):Ext h (h.push o):=by
 refine⟨by simp,fun id x e=> ?_⟩
 rw[ah.get_push]
 have:id≠h.sz:=fun hh=>by rw[gone id (by omega)] at e;cases e
 rw[if_neg this];exact e
def ah.Ok (h:ah):Prop:=∀id,h.sz≤id→h.get id=none
theorem ah.Ok.push {h:ah} (k:h.Ok) (o:fB):(h.push o).Ok:=by
 intro id hid
 simp at hid
 rw[ah.get_push,if_neg (by omega)]
 exact k id (by omega)
theorem ah.Ok.lt {h:ah} (k:h.Ok) {id:Nat} {o:fB} (e:h.get id=some o):id<h.sz:=by
 rcases Nat.lt_or_ge id h.sz with h1 |h1
 ·exact h1
 ·rw[k id h1] at e;cases e
theorem ah.Ok.put {h:ah} (k:h.Ok) {id:Nat} (hid:id<h.sz) (o:fB):(h.put id o).Ok:=by
 intro j hj
 rw[ah.get_put,if_neg (by simp at hj;omega)]
 exact k j (by simpa using hj)
theorem FU {h0 h:ah} (e:Ext h0 h) (k0:h0.Ok) {id:Nat} (hid:h0.sz≤id) (o:fB):Ext h0 (h.put id o):=by
 refine⟨by simpa using e.1,fun j x hj=> ?_⟩
 rw[ah.get_put]
 have:=k0.lt hj
 rw[if_neg (by omega)]
 exact e.2 j x hj
def Md (h:ah) (v:AV) (e:Nat):Prop:=∀id g s l c ex,v= .slc id g s l c ex→∃r,h.row id=some r∧r.ty=some e
theorem Own.appT {b:Nat} {h h0:ah} {n bytes:Nat} {v x:AV} {es new:List (List AV)} (nt:Option Nat) (O:Own b h n v es) (hn:0<n) (hb:b≤h.sz) (k:h.Ok) (k0:h0.Ok) (e0:Ext h0 h) (hb0:h0.sz≤b) (hs:source h n x=some new)
 (h1:(es.length+new.length)*bytes≤most) (h2:es.length+new.length≤most):
 ∃v' h',iq h n bytes v x nt=some (v',h')∧Own b h' n v' (es++new)∧h'.Ok∧Ext h0 h'∧h.sz≤h'.sz∧
  (∀j o,h.get j=some o→(∀id g s l c ex,v= .slc id g s l c ex→j≠id)→h'.get j=some o)∧(∀k u q,View h k u q→View h' k u q)∧(∀e,nt=some e→Md h v e→Md h' v' e):=by
 have hn0:Nat.beq n 0=false:=bZ.2 (by omega)
 simp only[iq,hn0,cond_false,hs]
 have hrow:∀(h:ah) (r:Row),(h.push (.row r)).row h.sz=some r:=fun h r=>by rw[ah.row_some,ah.get_push,if_pos rfl]
 rcases O with⟨rfl,rfl⟩|⟨id,r,o1,rfl,o2,o3,o4,o5,o6⟩
 ·cases new with
  |nil=>exact⟨.nilSlc,h,rfl, .inl ⟨rfl,rfl⟩,k,e0,Nat.le_refl _,fun j o hj _=>hj,fun _ _ _ V=>V,fun _ _ T=>T⟩
  |cons y new=>
   refine⟨.slc h.sz 0 0 (y :: new).length (y :: new).length false,newRow h (y :: new) n nt, ?_, .inr ⟨h.sz,{es:=y :: new,sz:=n,g:=0,m:=0,rw:=true,ty:=nt},hb,by simp,hrow _ _,rfl,Nat.le_refl _,rfl,rfl⟩,k.push _,e0.trans (sj k _),by simp[newRow],fun j o hj _=>(sj k _).2 j o hj,fun _ _ _ V=>V.ext (sj k _),fun e he _ id g s l c ex hv=>⟨_,by cases hv;exact hrow _ _,he⟩⟩
   simp only[gZ]
   rw[aK.2 (by simpa using h1),aK.2 (by simpa using h2)]
   rfl
 ·cases new with
  |nil=>exact⟨.slc id r.g 0 es.length es.length false,h,rfl, .inr ⟨id,r,o1,by simp,o2,o3,o4,o5,by simpa using o6⟩,k,e0,Nat.le_refl _,fun j o hj _=>hj,fun _ _ _ V=>V,fun _ _ T id g s l c ex hv=>T id g s l c ex (by simpa using hv)⟩
  |cons y new=>
   have hid:=k.lt (ah.row_some.1 o2)
   have hnc:Nat.ble (es.length+(y :: new).length) es.length=false:=by
    cases hh:Nat.ble (es.length+(y :: new).length) es.length with
    |false=>rfl
    |true=>have:=aK.1 hh;simp at this;omega
   refine⟨.slc id (r.g+1) 0 (es.length+(y :: new).length) (es.length+(y :: new).length) false,h.put id (.row {r with es:=r.es++(y :: new),g:=r.g+1,ty:=nY r.ty nt}), ?_, .inr ⟨id,{r with es:=r.es++(y :: new),g:=r.g+1,ty:=nY r.ty nt},o1,by simp, ?_,o3,by simp only;omega,o5,by simp[o6]⟩,k.put hid _,FU e0 k0 (by omega) _,by simp,fun j o hj hne=> ?_,fun kk u q V=> ?_,fun e he T id' g' s' l' c' ex' hv=> ?_⟩
   ·simp only[gZ,o2]
    rw[aK.2 h1,aK.2 h2,aH.2 o5]
    simp only[Bool.and_self,cond_true,hnc,cond_false,o3,aH.2 rfl,aH.2 (show es.length=r.es.length by rw[o6])]
   ·rw[ah.row_some,ah.get_put,if_pos rfl]
   ·rw[ah.get_put,if_neg (hne id _ _ _ _ _ rfl)];exact hj
   ·rcases V with V |⟨i',g',s',cp,ex,rr,w1,w2,w3,w4,w5,w6⟩
    ·exact .inl V
    ·by_cases hi:i'=id
     ·subst hi
      rw[o2] at w2;cases w2
      refine .inr ⟨i',g',s',cp,ex,{r with es:=r.es++(y :: new),g:=r.g+1,ty:=nY r.ty nt},w1,by rw[ah.row_some,ah.get_put,if_pos rfl],w3,w4, ?_,w6⟩
      simp only
      by_cases hq:q.length=0
      ·rw[hq,List.take_zero];exact(List.length_eq_zero_iff.1 hq).symm
      ·have hlen:((r.es.drop s').take q.length).length=q.length:=by rw[w5]
       rw[List.length_take,List.length_drop] at hlen
       rw[List.drop_append_of_le_length (by omega),List.take_append_of_le_length (by rw[List.length_drop];omega)]
       exact w5
     ·refine .inr ⟨i',g',s',cp,ex,rr,w1, ?_,w3,w4,w5,w6⟩
      rw[ah.row_some] at w2 ⊢
      rw[ah.get_put,if_neg hi];exact w2
   ·cases hv
    obtain⟨r',q1,q2⟩:=T id _ _ _ _ _ rfl
    rw[o2] at q1;cases q1
    refine⟨_,by rw[ah.row_some,ah.get_put,if_pos rfl], ?_⟩
    simp[q2,he,nY]
theorem Own.app {b:Nat} {h h0:ah} {n bytes:Nat} {v x:AV} {es new:List (List AV)} (O:Own b h n v es) (hn:0<n) (hb:b≤h.sz) (k:h.Ok) (k0:h0.Ok) (e0:Ext h0 h) (hb0:h0.sz≤b) (hs:source h n x=some new)
 (h1:(es.length+new.length)*bytes≤most) (h2:es.length+new.length≤most):
 ∃v' h',iq h n bytes v x=some (v',h')∧Own b h' n v' (es++new)∧h'.Ok∧Ext h0 h'∧h.sz≤h'.sz∧
  (∀j o,h.get j=some o→(∀id g s l c ex,v= .slc id g s l c ex→j≠id)→h'.get j=some o)∧(∀k u q,View h k u q→View h' k u q):=by
 obtain⟨v',h',a1,a2,a3,a4,a5,a6,a7,_⟩:=O.appT none hn hb k k0 e0 hb0 hs h1 h2
 exact⟨v',h',a1,a2,a3,a4,a5,a6,a7⟩
theorem Own.appb {b:Nat} {h h0:ah} {e:Nat} {v x:AV} {es new:List (List AV)} (O:Own b h 1 v es) (hb:b≤h.sz) (k:h.Ok) (k0:h0.Ok) (e0:Ext h0 h) (hb0:h0.sz≤b) (hs:source h 1 x=some new) (h2:es.length+new.length≤most):
 ∃v' h',XY h e v x=some (v',h')∧Own b h' 1 v' (es++new)∧h'.Ok∧Ext h0 h'∧h.sz≤h'.sz∧
  (∀j o,h.get j=some o→(∀id g s l c ex,v= .slc id g s l c ex→j≠id)→h'.get j=some o)∧(∀k u q,View h k u q→View h' k u q)∧(Md h v e→Md h' v' e):=by
 obtain⟨v',h',a1,a2,a3,a4,a5,a6,a7,a8⟩:=O.appT (bytes:=1) (some e) (by decide) hb k k0 e0 hb0 hs (by omega) h2
 exact⟨v',h',a1,a2,a3,a4,a5,a6,a7,a8 e rfl⟩
theorem PT.newL_set {α:Type} (x y:Option α):∀(p:L4),PT.setL y (PT.newL x p) p=PT.newL y p
 | .e=>rfl
 | .a p=>by show PT.nd none (PT.setL y (PT.newL x p) p) .lf .lf .lf= .nd none (PT.newL y p) .lf .lf .lf;rw[PT.newL_set x y p]
 | .b p=>by show PT.nd none .lf (PT.setL y (PT.newL x p) p) .lf .lf= .nd none .lf (PT.newL y p) .lf .lf;rw[PT.newL_set x y p]
 | .c p=>by show PT.nd none .lf .lf (PT.setL y (PT.newL x p) p) .lf= .nd none .lf .lf (PT.newL y p) .lf;rw[PT.newL_set x y p]
 | .d p=>by show PT.nd none .lf .lf .lf (PT.setL y (PT.newL x p) p)= .nd none .lf .lf .lf (PT.newL y p);rw[PT.newL_set x y p]
theorem PT.setL_setL {α:Type} (x y:Option α):∀(t:PT α) (p:L4),PT.setL y (PT.setL x t p) p=PT.setL y t p
 | .lf,p=>PT.newL_set x y p
 | .nd v a b c d, .e=>rfl
 | .nd v a b c d, .a p=>by show PT.nd v (PT.setL y (PT.setL x a p) p) b c d= .nd v (PT.setL y a p) b c d;rw[PT.setL_setL x y a p]
 | .nd v a b c d, .b p=>by show PT.nd v a (PT.setL y (PT.setL x b p) p) c d= .nd v a (PT.setL y b p) c d;rw[PT.setL_setL x y b p]
 | .nd v a b c d, .c p=>by show PT.nd v a b (PT.setL y (PT.setL x c p) p) d= .nd v a b (PT.setL y c p) d;rw[PT.setL_setL x y c p]
 | .nd v a b c d, .d p=>by show PT.nd v a b c (PT.setL y (PT.setL x d p) p)= .nd v a b c (PT.setL y d p);rw[PT.setL_setL x y d p]
theorem PT.set_set {α:Type} (t:PT α) (n:Nat) (x y:α):(t.set n x).set n y=t.set n y:=PT.setL_setL _ _ _ _
theorem P8 (h:ah) (a b:fB):(h.push a).put h.sz b=h.push b:=by
 simp only[ah.push,ah.put,PT.set_set]
@[simp] theorem Xj (h:ah) (es:List (List AV)) (n:Nat):(newRow h es n).sz=h.sz+1:=rfl
def kW (cells:List AV):Row:={es:=[cells],sz:=cells.length,g:=0,m:=0,rw:=true}
def Var (h:ah) (id:Nat) (cells:List AV):Prop:=h.row id=some (kW cells)
theorem Var.ext {h h':ah} {id:Nat} {c:List AV} (V:Var h id c) (e:Ext h h'):Var h' id c:=e.row V
theorem Var.lt {h:ah} {id:Nat} {c:List AV} (V:Var h id c) (k:h.Ok):id<h.sz:=k.lt (ah.row_some.1 V)
theorem Var.load {h:ah} {id:Nat} {c:List AV} (V:Var h id c) (ag:Bool) (off n:Nat):dZ h ag n (.ptr id 0 0 off)=lY ag off n c:=by
 have V':h.row id=some (kW c):=V
 simp only[dZ,V',kW,Nat.ble_self_eq_true,cond_true,wL]
theorem nC (h:ah) (c:List AV):Var (newRow h [c] c.length) h.sz c:=by
 show ah.row _ _=_
 rw[ah.row_some]
 simp only[newRow,ah.get_push,if_pos,kW]
theorem alloc_eq {h:ah} {z:List AV} (h1:0<z.length) (h2:aD z=true):oh h z=some (.ptr h.sz 0 0 0,newRow h [z] z.length):=by
 simp only[oh,oV,bZ.2 (show z.length≠0 by omega),h2,cond_false,cond_true]
theorem Nf {h:ah} {n:Nat} {v:AV} (h0:v.cells.length=n) (h1:0<n) (h2:aD v.cells=true):mU h none n v=some (.ptr h.sz 0 0 0,newRow h [v.cells] n):=by
 simp only[mU,aH.2 h0,bg.2 h1,h2,Bool.and_self,cond_true]
theorem aa6 {α:Type} {l new:List α} {n:Nat} (h:n+new.length≤l.length):(lay l n new).length=l.length:=by
 simp[lay];omega
theorem Var.store {h:ah} {id:Nat} {c:List AV} (V:Var h id c) {n off:Nat} {v:AV} (h0:v.cells.length=n) (h1:off+n≤c.length) (h2:aD v.cells=true):
 bW h n (.ptr id 0 0 off) v=some (h.put id (.row (kW (lay c off v.cells)))):=by
 have V':h.row id=some (kW c):=V
 have e:(lay c off v.cells).length=c.length:=aa6 (by omega)
 simp only[bW,V',kW,Nat.beq_refl,aH.2 h0,h2,Bool.and_self,cond_true,wL,aK.2 h1,lg,e]
theorem oW {v:AV} (h:v.leaf=true):v.cells=[v]:=by cases v<;>first |rfl |cases h
theorem TW {α:Type} {l:List α} {n:Nat} {x:α} (h:n<l.length):lay l n [x]=l.set n x:=by
 rw[List.set_eq_take_append_cons_drop]
 simp[lay,h]
theorem Var.set1 {h:ah} {id:Nat} {c:List AV} (V:Var h id c) {off:Nat} {v:AV} (h1:off<c.length) (h2:v.leaf=true):
 bW h 1 (.ptr id 0 0 off) v=some (h.put id (.row (kW (c.set off v)))):=by
 have hc:=oW h2
 rw[V.store (n:=1) (by rw[hc];rfl) (by omega) (by rw[hc];simp[aD,h2]),hc,TW h1]
theorem vv {h:ah} (id:Nat) (c:List AV):Var (h.put id (.row (kW c))) id c:=by
 show ah.row _ _=_
 rw[ah.row_some,ah.get_put,if_pos rfl]
theorem Eu {h:ah} {z:List AV} {n:Nat} {v:AV} (hz:z.length=n) (h0:v.cells.length=n) (h2:aD v.cells=true):
 bW (newRow h [z] n) n (.ptr h.sz 0 0 0) v=some (newRow h [v.cells] n):=by
 subst hz
 rw[(nC h z).store h0 (by omega) h2]
 have:lay z 0 v.cells=v.cells:=by simp[lay];omega
 rw[this]
 simp only[newRow,P8,kW,h0]
theorem xE {h:ah} {n sz:Nat} {z:List AV} {ps:List (Nat×AV)} {es:List (List AV)} (h1:z.length=sz) (h2:0<sz) (h3:n*sz≤16777216) (h4:aD z=true) (h5:jU sz (xq n z) ps=some es) (h6:es.length=n):
 ∃v,bG h n sz z ps=some (v,newRow h es sz)∧View (newRow h es sz) sz v es:=by
 refine⟨.slc h.sz 0 0 n n true, ?_, .inr ⟨h.sz,0,0,n,true,{es,sz,g:=0,m:=0,rw:=true},by rw[h6], ?_,Nat.le_refl _,rfl,by simp,by omega⟩⟩
 ·simp only[bG,aH.2 h1,bg.2 h2,aK.2 h3,h4,Bool.and_self,cond_true,h5]
 ·rw[ah.row_some];simp only[newRow,ah.get_push,if_pos]
theorem gY {h:ah} (k:h.Ok) (es:List (List AV)) (n:Nat):Ext h (newRow h es n):=sj k _
theorem iN {h:ah} (k:h.Ok) (es:List (List AV)) (n:Nat):(newRow h es n).Ok:=k.push _
def Kp (S:Nat→Prop) (h h':ah):Prop:=h.sz≤h'.sz∧∀id o,¬S id→h.get id=some o→h'.get id=some o
theorem Kp.refl (S:Nat→Prop) (h:ah):Kp S h h:=⟨Nat.le_refl _,fun _ _ _ e=>e⟩
theorem Kp.trans {S:Nat→Prop} {a b c:ah} (h:Kp S a b) (k:Kp S b c):Kp S a c:=⟨Nat.le_trans h.1 k.1,fun id o n e=>k.2 id o n (h.2 id o n e)⟩
theorem Kp.mono {S T:Nat→Prop} (st:∀i,S i→T i) {a b:ah} (h:Kp S a b):Kp T a b:=⟨h.1,fun id o n e=>h.2 id o (fun s=>n (st id s)) e⟩
theorem Kp.ext {h h':ah} (e:Ext h h') (S:Nat→Prop):Kp S h h':=⟨e.1,fun id o _ g=>e.2 id o g⟩
def XB (S:Nat→Prop) (h:ah) (R:ah→Prop):Prop:=∀h',Kp S h h'→R h'
theorem XB.now {S:Nat→Prop} {h:ah} {R:ah→Prop} (f:XB S h R):R h:=f h (Kp.refl S h)
theorem XB.step {S:Nat→Prop} {h h1:ah} {R:ah→Prop} (f:XB S h R) (k:Kp S h h1):XB S h1 R:=fun h' k'=>f h' (k.trans k')
theorem XB.less {S T:Nat→Prop} {h:ah} {R:ah→Prop} (f:XB S h R) (t:∀i,T i→S i):XB T h R:=fun h' k'=>f h' (k'.mono t)
theorem XB.wide {S T:Nat→Prop} {h:ah} {R:ah→Prop} (f:XB S h R) (o:h.Ok) (t:∀i,T i→S i∨h.sz≤i):XB T h R:=fun h' k'=>f h' ⟨k'.1,fun id ob n e=>k'.2 id ob (fun s=>by
 rcases t id s with s |s
 ·exact n s
 ·have:=o.lt e;omega) e⟩
structure Sl where
 v:AV
 n:Nat
 es:List (List AV)
def N8:AV→List Nat
 | .slc id _ _ _ _ _=>[id]
 |_=>[]
def aaV (h:ah) (s:Sl):Prop:=
 (s.v= .nilSlc∧s.es=[])∨∃id g,s.v= .slc id g 0 s.es.length s.es.length false∧∃m,m≤g∧h.get id=some (.row {es:=s.es,sz:=s.n,g:=g,m:=m,rw:=true,ty:=none})
abbrev jf:=List (Nat×fB)
def places (L:jf) (S:List Sl):List Nat:=L.map Prod.fst++S.flatMap fun s=>N8 s.v
structure Cx (h:ah) (L:jf) (S:List Sl) (F:List (ah→Prop)):Prop where
 ok:h.Ok
 has:∀e∈L,h.get e.1=some e.2
 sls:∀s∈S,aaV h s
 nod:(places L S).Nodup
 facts:∀R∈F,XB (· ∈places L S) h R
@[reducible] def vr (id:Nat) (c:List AV):Nat×fB:=(id, .row (kW c))
section
variable {h h':ah} {L L':jf} {S S':List Sl} {F F':List (ah→Prop)} {R R1 R2 R3:ah→Prop}
theorem Cx.fact (A:Cx h L S F) (m:R∈F):R h:=(A.facts R m).now
theorem Cx.f0 (A:Cx h L S (R :: F)):R h:=A.fact (by simp)
theorem Cx.f1 (A:Cx h L S (R1 :: R :: F)):R h:=A.fact (by simp)
theorem Cx.f2 (A:Cx h L S (R1 :: R2 :: R :: F)):R h:=A.fact (by simp)
theorem Cx.lt (A:Cx h L S F) {e:Nat×fB} (m:e∈L):e.1<h.sz:=A.ok.lt (A.has e m)
theorem Cx.pl (A:Cx h L S F) {i:Nat} (m:i∈places L S):i<h.sz:=by
 rcases List.mem_append.1 m with m |m
 ·obtain⟨e,he,rfl⟩:=List.mem_map.1 m
  exact A.lt he
 ·obtain⟨s,hs,hi⟩:=List.mem_flatMap.1 m
  rcases A.sls s hs with⟨e,_⟩|⟨id,g,e,m0,hm,k⟩
  ·rw[e] at hi;simp[N8] at hi
  ·rw[e] at hi;simp only[N8,List.mem_singleton] at hi;subst hi;exact A.ok.lt k
theorem Cx.facts' (A:Cx h L S F) (f:∀R∈F',R∈F):Cx h L S F':=⟨A.ok,A.has,A.sls,A.nod,fun R m=>A.facts R (f R m)⟩
theorem Cx.add (A:Cx h L S F) (f:∀h,(∀R∈F,R h)→R h):Cx h L S (R :: F):=
 ⟨A.ok,A.has,A.sls,A.nod,fun Q m=>by
   rcases List.mem_cons.1 m with rfl |m
   ·exact fun h' k=>f h' fun Q hq=>A.facts Q hq h' k
   ·exact A.facts Q m⟩
theorem Cx.imp (A:Cx h L S (R1 :: F)) (f:∀h,R1 h→R h):Cx h L S (R :: F):=
 (A.add (R:=R) fun h a=>f h (a R1 (by simp))).facts' fun Q m=>by
   rcases List.mem_cons.1 m with rfl |m
   ·simp
   ·simp[m]
theorem Cx.imp2 (A:Cx h L S (R1 :: R2 :: F)) (f:∀h,R1 h→R2 h→R h):Cx h L S (R :: F):=
 (A.add (R:=R) fun h a=>f h (a R1 (by simp)) (a R2 (by simp))).facts' fun Q m=>by
   rcases List.mem_cons.1 m with rfl |m
   ·simp
   ·simp[m]
theorem Cx.imp3 (A:Cx h L S (R1 :: R2 :: R3 :: F)) (f:∀h,R1 h→R2 h→R3 h→R h):Cx h L S (R :: F):=
 (A.add (R:=R) fun h a=>f h (a R1 (by simp)) (a R2 (by simp)) (a R3 (by simp))).facts' fun Q m=>by
   rcases List.mem_cons.1 m with rfl |m
   ·simp
   ·simp[m]
theorem Cx.swapF (A:Cx h L S (R1 :: R2 :: F)):Cx h L S (R2 :: R1 :: F):=A.facts' fun Q m=>by
 simp only[List.mem_cons] at m ⊢
 rcases m with h |h |h
 ·exact .inr (.inl h)
 ·exact .inl h
 ·exact .inr (.inr h)
theorem Cx.dropF (A:Cx h L S (R1 :: F)):Cx h L S F:=A.facts' fun Q m=>by simp[m]
theorem Cx.drop1 (A:Cx h L S (R :: R1 :: F)):Cx h L S (R :: F):=A.facts' fun Q m=>by
 simp only[List.mem_cons] at m ⊢
 rcases m with h |h
 ·exact .inl h
 ·exact .inr (.inr h)
theorem Cx.tru (A:Cx h L S F) (t:∀h,R h):Cx h L S (R :: F):=A.add fun h _=>t h
theorem Cx.perm (A:Cx h L S F) (p:L'.Perm L) (q:S'.Perm S):Cx h L' S' F:=by
 have hp:(places L' S').Perm (places L S):=(p.map _).append (q.flatMap_right _)
 exact⟨A.ok,fun e m=>A.has e (p.mem_iff.1 m),fun s m=>A.sls s (q.mem_iff.1 m),hp.nodup_iff.2 A.nod,fun R m=>(A.facts R m).less fun i hi=>hp.mem_iff.1 hi⟩
theorem Cx.swapL {a b:Nat×fB} (A:Cx h (a :: b :: L) S F):Cx h (b :: a :: L) S F:=A.perm (.swap _ _ _) (.refl _)
theorem Cx.swap12 {a b c:Nat×fB} (A:Cx h (a :: b :: c :: L) S F):Cx h (a :: c :: b :: L) S F:=A.perm (.cons _ (.swap _ _ _)) (.refl _)
theorem Cx.swapS {a b:Sl} (A:Cx h L (a :: b :: S) F):Cx h L (b :: a :: S) F:=A.perm (.refl _) (.swap _ _ _)
theorem Cx.rest {a:Nat×fB} (A:Cx h (a :: L) S F):Cx h L S F:=by
 have hs:places (a :: L) S=a.1 :: places L S:=rfl
 refine⟨A.ok,fun e m=>A.has e (List.mem_cons_of_mem _ m),A.sls, ?_,fun R m=>(A.facts R m).less fun i hi=> ?_⟩
 ·have:=A.nod;rw[hs] at this;exact(List.nodup_cons.1 this).2
 ·rw[hs];exact List.mem_cons_of_mem _ hi
theorem Cx.rest1 {a b:Nat×fB} (A:Cx h (a :: b :: L) S F):Cx h (a :: L) S F:=A.swapL.rest
theorem Cx.wr {a:Nat×fB} (A:Cx h (a :: L) S F) (o:fB):Cx (h.put a.1 o) ((a.1,o) :: L) S F:=by
 have hs:places (a :: L) S=a.1 :: places L S:=rfl
 have hs':places ((a.1,o) :: L) S=a.1 :: places L S:=rfl
 have hn:=A.nod
 rw[hs] at hn
 have hlt:a.1<h.sz:=A.lt (List.mem_cons_self)
 have hk:Kp (· ∈places (a :: L) S) h (h.put a.1 o):=⟨Nat.le_refl _,fun id ob n e=>by
  rw[ah.get_put]
  by_cases q:id=a.1
  ·exact absurd (by rw[hs,q];simp) n
  ·rw[if_neg q];exact e⟩
 have hne:∀i,i∈places L S→i≠a.1:=fun i m q=>(List.nodup_cons.1 hn).1 (q▸m)
 refine⟨A.ok.put hlt o,fun e m=> ?_,fun s m=> ?_,by rw[hs'];exact hn,fun R m=>by rw[hs', ←hs];exact(A.facts R m).step hk⟩
 ·rcases List.mem_cons.1 m with rfl |m
  ·rw[ah.get_put,if_pos rfl]
  ·rw[ah.get_put,if_neg (hne _ (List.mem_append.2 (.inl (List.mem_map_of_mem m))))]
   exact A.has e (List.mem_cons_of_mem _ m)
 ·rcases A.sls s m with k |⟨id,g,e,m0,hm,k⟩
  ·exact .inl k
  ·refine .inr ⟨id,g,e,m0,hm, ?_⟩
   rw[ah.get_put,if_neg (hne _ (List.mem_append.2 (.inr (List.mem_flatMap.2 ⟨s,m,by rw[e];simp[N8]⟩))))]
   exact k
theorem Cx.new (A:Cx h L S F) (o:fB):Cx (h.push o) ((h.sz,o) :: L) S F:=by
 have hs:places ((h.sz,o) :: L) S=h.sz :: places L S:=rfl
 have e:=sj A.ok o
 refine⟨A.ok.push o,fun x m=> ?_,fun s m=> ?_, ?_,fun R m=> ?_⟩
 ·rcases List.mem_cons.1 m with rfl |m
  ·rw[ah.get_push,if_pos rfl]
  ·exact e.2 _ _ (A.has x m)
 ·rcases A.sls s m with k |⟨id,g,q,m0,hm,k⟩
  ·exact .inl k
  ·exact .inr ⟨id,g,q,m0,hm,e.2 _ _ k⟩
 ·rw[hs,List.nodup_cons]
  exact⟨fun m=>by have:=A.pl m;omega,A.nod⟩
 ·refine((A.facts R m).wide A.ok (T:=(· ∈places ((h.sz,o) :: L) S)) fun i hi=> ?_).step (Kp.ext e _)
  rw[hs] at hi
  rcases List.mem_cons.1 hi with rfl |hi
  ·exact .inr (Nat.le_refl _)
  ·exact .inl hi
theorem Cx.newRO (A:Cx h L S F) (o:fB) (f:∀h',h'.get h.sz=some o→R h'):Cx (h.push o) L S (R :: F):=by
 have B:=A.new o
 have hs:places ((h.sz,o) :: L) S=h.sz :: places L S:=rfl
 have C:=B.rest
 refine⟨C.ok,C.has,C.sls,C.nod,fun Q m=> ?_⟩
 rcases List.mem_cons.1 m with rfl |m
 ·intro h' k
  refine f h' (k.2 _ _ (fun q=> ?_) (by rw[ah.get_push,if_pos rfl]))
  have:=A.pl q
  omega
 ·exact C.facts Q m
end
section
variable {h:ah} {L:jf} {S:List Sl} {F:List (ah→Prop)} {c:List AV} {id n:Nat}
theorem Cx.alloc (A:Cx h L S F) {z:List AV} (h1:0<z.length) (h2:aD z=true):∃h',oh h z=some (.ptr h.sz 0 0 0,h')∧Cx h' (vr h.sz z :: L) S F:=
 ⟨_,alloc_eq h1 h2,A.new _⟩
theorem Cx.box (A:Cx h L S F) {v:AV} (h0:v.cells.length=n) (h1:0<n) (h2:aD v.cells=true):∃h',mU h none n v=some (.ptr h.sz 0 0 0,h')∧Cx h' (vr h.sz v.cells :: L) S F:=
 ⟨_,Nf h0 h1 h2,by subst h0;exact A.new _⟩
theorem Cx.var (A:Cx h (vr id c :: L) S F):Var h id c:=ah.row_some.2 (A.has _ List.mem_cons_self)
theorem Cx.store (A:Cx h (vr id c :: L) S F) {off:Nat} {v:AV} (h0:v.cells.length=n) (h1:off+n≤c.length) (h2:aD v.cells=true):
 ∃h',bW h n (.ptr id 0 0 off) v=some h'∧Cx h' (vr id (lay c off v.cells) :: L) S F:=
 ⟨_,A.var.store h0 h1 h2,A.wr _⟩
theorem Cx.set1 (A:Cx h (vr id c :: L) S F) {off:Nat} {v:AV} (h1:off<c.length) (h2:v.leaf=true):
 ∃h',bW h 1 (.ptr id 0 0 off) v=some h'∧Cx h' (vr id (c.set off v) :: L) S F:=
 ⟨_,A.var.set1 h1 h2,A.wr _⟩
end
section
variable {h:ah} {L:jf} {S:List Sl} {F:List (ah→Prop)} {R:ah→Prop} {v:AV} {n:Nat} {es:List (List AV)}
theorem Cx.slc (A:Cx h L S F) (n:Nat):Cx h L (⟨.nilSlc,n,[]⟩ :: S) F:=by
 have hs:places L (⟨.nilSlc,n,[]⟩ :: S)=places L S:=rfl
 refine⟨A.ok,A.has,fun s m=> ?_,by rw[hs];exact A.nod,by rw[hs];exact A.facts⟩
 rcases List.mem_cons.1 m with rfl |m
 ·exact .inl ⟨rfl,rfl⟩
 ·exact A.sls s m
theorem aaV.view (o:aaV h ⟨v,n,es⟩):View h n v es:=by
 rcases o with⟨e1,e2⟩|⟨id,g,e1,m0,hm,k⟩
 ·simp only at e1 e2
  subst e1;subst e2
  exact View.nil h n
 ·simp only at e1 k
  subst e1
  exact .inr ⟨id,g,0,_,_,_,rfl,ah.row_some.2 k,hm,rfl,by rw[List.drop_zero];exact List.take_length,Nat.le_refl _⟩
theorem Cx.view (A:Cx h L (⟨v,n,es⟩ :: S) F):View h n v es:=(A.sls _ List.mem_cons_self).view
theorem Cx.leafS (A:Cx h L (⟨v,n,es⟩ :: S) F):v.leaf=true:=A.view.leaf
theorem Cx.freeze (A:Cx h L (⟨v,n,es⟩ :: S) F):Cx h L S ((fun h=>View h n v es) :: F):=by
 have hs:(places L (⟨v,n,es⟩ :: S)).Perm (N8 v++places L S):=by
  show(L.map Prod.fst++(N8 v++S.flatMap fun s=>N8 s.v)).Perm (N8 v++(L.map Prod.fst++S.flatMap fun s=>N8 s.v))
  rw[←List.append_assoc, ←List.append_assoc]
  exact List.perm_append_comm.append_right _
 have hn:=hs.nodup_iff.1 A.nod
 have hd:=List.nodup_append.1 hn
 refine⟨A.ok,A.has,fun s m=>A.sls s (List.mem_cons_of_mem _ m),hd.2.1,fun Q m=> ?_⟩
 rcases List.mem_cons.1 m with rfl |m
 ·intro h' k
  rcases A.sls _ List.mem_cons_self with⟨e1,e2⟩|⟨id,g,e1,m0,hm,e2⟩
  ·simp only at e1 e2
   subst e1;subst e2
   exact View.nil h' n
  ·simp only at e1 e2
   subst e1
   have:h'.get id=some (.row {es:=es,sz:=n,g:=g,m:=m0,rw:=true,ty:=none}):=k.2 _ _ (fun q=>hd.2.2 id (by simp[N8]) id q rfl) e2
   exact(show aaV h' ⟨_,n,es⟩ from .inr ⟨id,g,rfl,m0,hm,this⟩).view
 ·exact(A.facts Q m).less fun i hi=>hs.mem_iff.2 (List.mem_append.2 (.inr hi))
theorem Cx.app (A:Cx h L (⟨v,n,es⟩ :: S) F) {bytes:Nat} {x:AV} {new:List (List AV)} (hn:0<n) (hs:source h n x=some new) (h1:(es.length+new.length)*bytes≤most) (h2:es.length+new.length≤most):
 ∃v' h',iq h n bytes v x=some (v',h')∧Cx h' L (⟨v',n,es++new⟩ :: S) F:=by
 have hz:Nat.beq n 0=false:=bZ.2 (by omega)
 cases new with
 |nil=>
  rw[List.append_nil]
  rcases A.sls _ List.mem_cons_self with⟨e1,e2⟩|⟨id,g,e1,m0,hm,e2⟩
  ·simp only at e1 e2;subst e1;subst e2
   exact⟨.nilSlc,h,by simp only[iq,hz,cond_false,hs,gZ],A⟩
  ·simp only at e1 e2;subst e1
   exact⟨_,h,by simp only[iq,hz,cond_false,hs,gZ],A⟩
 |cons y new=>
  rcases A.sls _ List.mem_cons_self with⟨e1,e2⟩|⟨id,g,e1,m0,hm,e2⟩
  ·simp only at e1 e2;subst e1;subst e2
   simp only[List.length_nil,Nat.zero_add] at h1 h2
   refine⟨.slc h.sz 0 0 (y :: new).length (y :: new).length false,newRow h (y :: new) n, ?_, ?_⟩
   ·simp only[iq,hz,cond_false,hs,gZ,aK.2 h1,aK.2 h2,Bool.and_self,cond_true]
   ·have B:=A.new (.row {es:=y :: new,sz:=n,g:=0,m:=0,rw:=true,ty:=none})
    have hp:(places L (⟨.slc h.sz 0 0 (y :: new).length (y :: new).length false,n,y :: new⟩ :: S)).Perm (h.sz :: places L S):=by
     show(L.map Prod.fst++([h.sz]++S.flatMap fun s=>N8 s.v)).Perm _
     exact List.perm_middle
    refine⟨B.ok,fun e m=>B.has e (List.mem_cons_of_mem _ m),fun s m=> ?_,hp.nodup_iff.2 B.nod,fun R m=>(B.facts R m).less fun i hi=>hp.mem_iff.1 hi⟩
    rcases List.mem_cons.1 m with rfl |m
    ·exact .inr ⟨h.sz,0,rfl,0,Nat.le_refl _,by rw[show newRow h (y :: new) n=h.push _ from rfl,ah.get_push,if_pos rfl];rfl⟩
    ·exact B.sls s (List.mem_cons_of_mem _ m)
  ·simp only at e1 e2;subst e1
   have hrow:=ah.row_some.2 e2
   have hcap:Nat.ble (es.length+(y :: new).length) es.length=false:=by
    cases hb:Nat.ble (es.length+(y :: new).length) es.length with
    |false=>rfl
    |true=>have:=aK.1 hb;simp only[List.length_cons] at this;omega
   refine⟨.slc id (g+1) 0 (es.length+(y :: new).length) (es.length+(y :: new).length) false,h.put id (.row {es:=es++y :: new,sz:=n,g:=g+1,m:=m0,rw:=true,ty:=none}), ?_, ?_⟩
   ·simp only[iq,hz,cond_false,hs,gZ,hrow,aK.2 h1,aK.2 h2,aH.2 rfl,Bool.and_self,cond_true,hcap,nY]
   ·have hp:(places L (⟨.slc id g 0 es.length es.length false,n,es⟩ :: S)).Perm (places ((id, .row {es:=es,sz:=n,g:=g,m:=m0,rw:=true,ty:=none}) :: L) S):=by
     show(L.map Prod.fst++([id]++S.flatMap fun s=>N8 s.v)).Perm (id :: (L.map Prod.fst++S.flatMap fun s=>N8 s.v))
     exact List.perm_middle
    have B:Cx h ((id, .row {es:=es,sz:=n,g:=g,m:=m0,rw:=true,ty:=none}) :: L) S F:=
     ⟨A.ok,fun e m=>by
       rcases List.mem_cons.1 m with rfl |m
       ·exact e2
       ·exact A.has e m,fun s m=>A.sls s (List.mem_cons_of_mem _ m),hp.nodup_iff.1 A.nod,fun R m=>(A.facts R m).less fun i hi=>hp.mem_iff.2 hi⟩
    have C:=B.wr (.row {es:=es++y :: new,sz:=n,g:=g+1,m:=m0,rw:=true,ty:=none})
    have hl:es.length+(y :: new).length=(es++y :: new).length:=by simp
    rw[hl]
    have hp':(places L (⟨.slc id (g+1) 0 (es++y :: new).length (es++y :: new).length false,n,es++y :: new⟩ :: S)).Perm (places ((id, .row {es:=es++y :: new,sz:=n,g:=g+1,m:=m0,rw:=true,ty:=none}) :: L) S):=by
     show(L.map Prod.fst++([id]++S.flatMap fun s=>N8 s.v)).Perm (id :: (L.map Prod.fst++S.flatMap fun s=>N8 s.v))
     exact List.perm_middle
    refine⟨C.ok,fun e m=>C.has e (List.mem_cons_of_mem _ m),fun s m=> ?_,hp'.nodup_iff.2 C.nod,fun R m=>(C.facts R m).less fun i hi=>hp'.mem_iff.1 hi⟩
    rcases List.mem_cons.1 m with rfl |m
    ·exact .inr ⟨id,g+1,rfl,m0,by omega,C.has _ List.mem_cons_self⟩
    ·exact C.sls s m
end
theorem Ot {E:Env} {n f:Nat} {args:List AV} {h:ah} {K:au}:av E (n+1) (.func f) args h K=Yt E (av E n) n f args h K:=by
 simp only[av,Yt]
 cases E.prim f<;>rfl
theorem cO {E:Env} {f:Nat} {s:Sh} (v:bA E f s) (hp:LC E) {n:Nat} {args:List AV} {h:ah} {K:au} (q:s (av E n) n args h K=true):av E (n+1) (.func f) args h K=true:=by
 obtain⟨fn,h1,h2,h3,h4⟩:=v _ _ n args h K K (Jt hp n) (Jt hp n) (fun _ _ q=>q) q
 rw[Ot]
 simp only[Yt,h1,h2,h3,Nat.beq_refl,cond_true]
 exact h4 _
theorem ag8 (s:aj→Nat→ah→au→Bool) {call:aj} {n:Nat} {h:ah} {K:au}:jC 0 (fun call n K=>pA0 (s call n) K) call n [] h K=s call n h K:=rfl
theorem kR (s:aj→Nat→AV→ah→au→Bool) {call:aj} {n:Nat} {a0:AV} {h:ah} {K:au}:jC 1 (fun call n K=>qO (s call n) K) call n [a0] h K=s call n a0 h K:=rfl
theorem kK (s:aj→Nat→AV→AV→ah→au→Bool) {call:aj} {n:Nat} {a0 a1:AV} {h:ah} {K:au}:jC 2 (fun call n K=>jc (s call n) K) call n [a0,a1] h K=s call n a0 a1 h K:=rfl
theorem Zc (s:aj→Nat→AV→AV→AV→ah→au→Bool) {call:aj} {n:Nat} {a0 a1 a2:AV} {h:ah} {K:au}:jC 3 (fun call n K=>kD (s call n) K) call n [a0,a1,a2] h K=s call n a0 a1 a2 h K:=rfl
def kM (v:AV):Prop:=AV.same v v=true
def rQ (l:List AV):Prop:=vQ l l=true
theorem kM.int (k:IntKind) (n:Int):kM (.int k n):=by
 unfold kM
 simp only[AV.same,Nat.beq_refl,Bool.true_and]
 rw[qb];simp
theorem kM.bool (b:Bool):kM (.bool b):=by cases b<;>rfl
theorem kM.str (s:List Nat):kM (.str s):=by
 unfold kM
 simp only[AV.same]
 rw[pX];simp
theorem kM.ptr (a b c d:Nat):kM (.ptr a b c d):=by unfold kM;simp[AV.same]
theorem kM.slc (a b c d e:Nat) (f:Bool):kM (.slc a b c d e f):=by unfold kM;cases f<;>simp[AV.same]
theorem kM.nslc:kM .nilSlc:=rfl
theorem kM.emp:kM .emp:=rfl
theorem rQ.nil:rQ []:=rfl
theorem rQ.cons {a:AV} {l:List AV} (h:kM a) (k:rQ l):rQ (a :: l):=by unfold kM at h;unfold rQ at k ⊢;simp only[vQ,h,k,Bool.and_self]
theorem kM.agg {l:List AV} (h:rQ l):kM (.agg l):=by unfold rQ at h;unfold kM;simpa only[AV.same] using h
theorem rQ.app {l m:List AV} (h:rQ l) (k:rQ m):rQ (l++m):=by
 induction l with
 |nil=>exact k
 |cons a l ih=>
  unfold rQ at h
  simp only[vQ,Bool.and_eq_true] at h
  exact .cons h.1 (ih h.2)
theorem View.kM {h:ah} {n:Nat} {v:AV} {es:List (List AV)} (V:View h n v es):kM v:=by
 rcases V with⟨_,rfl |rfl⟩|⟨id,g,s,cap,ex,r,rfl,_⟩
 ·exact .nslc
 ·exact .emp
 ·exact .slc _ _ _ _ _ _
section
variable {k:AV→Bool} {kh:ah→Bool} {K Q:au} {v u w:AV} {h h':ah} {o:Option AV} {p:Option (AV×ah)} {q:Option ah} {a b:Bool} {L:jf} {S:List Sl} {F:List (ah→Prop)} {e1 e2 e3 e4:Nat×fB}
theorem oU (e:o=some v) (s:k v=true):bM o k=true:=by subst e;exact s
theorem aY (s:k v=true):bM (some v) k=true:=s
theorem Wd (e:p=some (v,h')) (s:K v h'=true):aW p K=true:=by subst e;exact s
theorem dW {x y z t:Nat} (s:k (.ptr x y z t)=true):bI (.ptr x y z t) k=true:=s
theorem aB {f x y z d:Nat} (s:k (.ptr x y z (d+f))=true):aA f (.ptr x y z d) k=true:=s
theorem aR (e:dZ h false 1 w=some v) (s:k v=true):ay h w k=true:=by rw[aaU,e];exact s
theorem pR {n:Nat} (e:dZ h true n w=some v) (s:k v=true):bL h n w k=true:=by rw[XH,e];exact s
theorem aG {id off:Nat} {c:List AV} (V:Var h id c) (e:c[off]? =some v) (s:k v=true):ay h (.ptr id 0 0 off) k=true:=by
 refine aR ?_ s
 rw[V.load]
 simp only[lY,cond_false,mM]
 exact e
theorem aL {id off n:Nat} {c:List AV} (V:Var h id c) (e:Nat.ble (off+n) c.length=true) (s:k (.agg ((c.drop off).take n))=true):bL h n (.ptr id 0 0 off) k=true:=by
 refine pR ?_ s
 rw[V.load]
 simp only[lY,cond_true,e]
theorem dU (e:kM u) (s:a=true):dN u a u=true:=by
 unfold dN
 rw[show AV.same u u=true from e]
 exact s
theorem acp {J:IntKind} {x y:Int} (s:k (.int J (qW J (x+y)))=true):gX (.int J x) (.int J y) k=true:=by rw[XZ,NV];exact s
theorem SL {x y:Nat} (l:x+y≤lim) (s:k (.int .i64 ((x+y:Nat):Int))=true):gX (.int .i64 (x:Int)) (.int .i64 (y:Int)) k=true:=by
 refine acp ?_
 rw[wrap64 (by omega) (by have:lim=4611686018427387904:=rfl;omega)]
 exact s
theorem lD {x:Nat} (l:x<lim) (s:k (.int .i64 ((x+1:Nat):Int))=true):gX (.int .i64 (x:Int)) (.int .i64 1) k=true:=SL (y:=1) l s
theorem R5 {x y:Int} (l1: -9223372036854775808≤x-y) (l2:x-y≤9223372036854775807) (s:k (.int .i64 (x-y))=true):JJ (.int .i64 x) (.int .i64 y) k=true:=by
 rw[X5,NU,wrap64 l1 l2];exact s
theorem eY {J:IntKind} {x y:Int} (s:k (.bool (decide (x<y)))=true):lI (.int J x) (.int J y) k=true:=by
 rw[XF,iC _ _ _ _ rfl];simp only[lC,nZ];exact s
theorem iZ {J:IntKind} {x y:Nat} (s:k (.bool (decide (x<y)))=true):lI (.int J (x:Int)) (.int J (y:Int)) k=true:=by
 refine eY ?_
 rw[show decide ((x:Int)<(y:Int))=decide (x<y) from by simp];exact s
theorem PY {J:IntKind} {x y:Int} (s:k (.bool (decide (x≤y)))=true):JM (.int J x) (.int J y) k=true:=by
 rw[ac0,iC _ _ _ _ rfl];simp only[lC,nZ]
 rw[show(!decide (y<x))=decide (x≤y) from by rw[←decide_not];simp];exact s
theorem Jy {J:IntKind} {x y:Int} (s:k (.bool (decide (y<x)))=true):JI (.int J x) (.int J y) k=true:=by
 rw[afg,iC _ _ _ _ rfl];simp only[lC,nZ];exact s
theorem O8 {J:IntKind} {x y:Int} (s:k (.bool (decide (y≤x)))=true):Cr (.int J x) (.int J y) k=true:=by
 rw[YH,iC _ _ _ _ rfl];simp only[lC,nZ]
 rw[show(!decide (x<y))=decide (y≤x) from by rw[←decide_not];simp];exact s
theorem oO {J:IntKind} {x y:Int} (s:k (.bool (decide (x=y)))=true):dS (.int J x) (.int J y) k=true:=by
 rw[Q6,iC _ _ _ _ rfl];simp only[lC,qb];exact s
theorem eF {J:IntKind} {x y:Int} (s:k (.bool (!decide (x=y)))=true):jF (.int J x) (.int J y) k=true:=by
 rw[XL,iC _ _ _ _ rfl];simp only[lC,qb];exact s
theorem BR {x y:List Nat} (s:k (.bool (decide (x=y)))=true):dS (.str x) (.str y) k=true:=by
 rw[Q6];simp only[eH,EK,pX];exact s
theorem agW {x y:List Nat} (s:k (.bool (!decide (x=y)))=true):jF (.str x) (.str y) k=true:=by
 rw[XL];simp only[eH,EK,pX];exact s
theorem Vj {c:Bool} (s:k (.bool (!c))=true):lq (.bool c) k=true:=by cases c<;>exact s
theorem bY (s:k (.bool false)=true):lq (.bool true) k=true:=s
theorem dn (s:k (.bool true)=true):lq (.bool false) k=true:=s
theorem bN (s:a=true):aM (.bool true) a b=true:=s
theorem bC (s:b=true):aM (.bool false) a b=true:=s
theorem bH {r:(AV→Bool)→Bool} (s:r k=true):gK (.bool true) true r k=true:=s
theorem bV {r:(AV→Bool)→Bool} (s:r k=true):gK (.bool false) false r k=true:=s
theorem lK {r:(AV→Bool)→Bool} (s:k (.tup [])=true):gK (.bool true) false r k=true:=s
theorem fH {r:(AV→Bool)→Bool} (s:k (.tup [])=true):gK (.bool false) true r k=true:=s
theorem rJ {l:List AV} {w:Bool} {r:(AV→Bool)→Bool} (s:k (.tup [])=true):gK (.tup l) w r k=true:=s
theorem zB {l:List AV} {w:Bool} {r:au→Bool} (s:K (.tup []) h=true):gP (.tup l) w r h K=true:=s
theorem dR {r:au→Bool} (s:r K=true):gP (.bool true) true r h K=true:=s
theorem eX {r:au→Bool} (s:r K=true):gP (.bool false) false r h K=true:=s
theorem acn {r:au→Bool} (s:K (.tup []) h=true):gP (.bool true) false r h K=true:=s
theorem qy {r:au→Bool} (s:K (.tup []) h=true):gP (.bool false) true r h K=true:=s
theorem dV (s:k v=true):bU (.bool true) v u k=true:=by rw[Us];exact s
theorem eG (s:k u=true):bU (.bool false) v u k=true:=by rw[Us];exact s
theorem oF {x:List Nat} (s:k (.int .i64 (x.length:Int))=true):nW (.str x) k=true:=by rw[aap ah.empty];exact s
theorem adF (s:k (.int .i64 0)=true):gu .nilSlc k=true:=s
theorem fD {n:Nat} {es:List (List AV)} (V:View h n v es) (s:k (.int .i64 (es.length:Int))=true):gu v k=true:=by rw[X0 h,V.len];exact s
theorem jl {l:List AV} (s:k v=true):ko 0 (.tup (v :: l)) k=true:=by rw[Rq];exact s
theorem jh {l:List AV} (s:k u=true):ko 1 (.tup (v :: u :: l)) k=true:=by rw[Rq];exact s
theorem tJ {l:List AV} (s:k w=true):ko 2 (.tup (v :: u :: w :: l)) k=true:=by rw[Rq];exact s
theorem nE {n:Nat} {es:List (List AV)} {J:IntKind} {i:Nat} {e:List AV} (V:View h n v es) (hi:es[i]? =some e)
 (s:∀id g j,(∀ag off m,dZ h ag m (.ptr id g j off)=lY ag off m e)→k (.ptr id g j 0)=true):dX h n v (.int J (i:Int)) k=true:=by
 obtain⟨id,g,j,p1,p2⟩:=V.at hi
 rw[TA,p1]
 exact s id g j p2
theorem wm {n:Nat} {x y:AV} (e:oL h n x y=some v) (s:k v=true):dX h n x y k=true:=by rw[TA,e];exact s
theorem dQ {z:List AV} {ps:List (Nat×Nat×AV)} {l:List AV} (e:oP z ps=some l) (s:k (.agg l)=true):dK z ps k=true:=by
 rw[Qf];unfold oZ;rw[e];exact s
theorem OV {l:List AV} {off:Nat} (e:l[off]? =some v) (s:k v=true):Nz off (.agg l) k=true:=by
 rw[afa];simp only[JW,lY,cond_false,mM,e];exact s
theorem aI (e:iQ v=none) (s:K v h=true):pz Q K v h=true:=by rw[acz,e];exact s
theorem akm {ag:Bool} {n:Nat} (e:dZ h ag n w=some v) (s:K v h=true):gq (fG h [(w,some (ag,n))]) h K=true:=by
 simp only[fG,e];exact s
theorem ZH {id off n:Nat} {c:List AV} (V:Var h id c) (e:Nat.ble (off+n) c.length=true) (s:K (.agg ((c.drop off).take n)) h=true):gq (fG h [(.ptr id 0 0 off,some (true,n))]) h K=true:=by
 refine akm ?_ s
 rw[V.load]
 simp only[lY,cond_true,e]
theorem Cx.v1 {id:Nat} {c:List AV} (A:Cx h (e1 :: vr id c :: L) S F):Var h id c:=A.swapL.var
theorem Cx.v2 {id:Nat} {c:List AV} (A:Cx h (e1 :: e2 :: vr id c :: L) S F):Var h id c:=A.rest.v1
theorem Cx.v3 {id:Nat} {c:List AV} (A:Cx h (e1 :: e2 :: e3 :: vr id c :: L) S F):Var h id c:=A.rest.v2
theorem Cx.v4 {id:Nat} {c:List AV} (A:Cx h (e1 :: e2 :: e3 :: e4 :: vr id c :: L) S F):Var h id c:=A.rest.v3
theorem bT {z:List AV} {n:Nat} (A:Cx h (e1 :: L) S F) (hn:z.length=n) (h1:Nat.beq n 0=false) (h2:aD z=true) (s:∀id h',Cx h' (e1 :: vr id z :: L) S F→K (.ptr id 0 0 0) h'=true):bR h z n K=true:=by
 rw[HZ _ _ _ _ hn h1 h2]
 obtain⟨h',e,B⟩:=A.alloc (z:=z) (by rw[hn];have:=bZ.1 h1;omega) h2
 rw[e]
 exact s _ _ B.swapL
theorem rM {z:List AV} {n:Nat} (A:Cx h L S F) (hn:z.length=n) (h1:Nat.beq n 0=false) (h2:aD z=true) (s:∀id h',Cx h' (vr id z :: L) S F→K (.ptr id 0 0 0) h'=true):bR h z n K=true:=by
 rw[HZ _ _ _ _ hn h1 h2]
 obtain⟨h',e,B⟩:=A.alloc (z:=z) (by rw[hn];have:=bZ.1 h1;omega) h2
 rw[e]
 exact s _ _ B
theorem OU (A:Cx h (e1 :: L) S F) (h2:v.leaf=true) (s:∀id h',Cx h' (e1 :: vr id [v] :: L) S F→K (.ptr id 0 0 0) h'=true):Es h v K=true:=by
 rw[Y0]
 have hc:=oW h2
 obtain⟨h',e,B⟩:=A.box (n:=1) (v:=v) (by rw[hc];rfl) (by omega) (by rw[hc];simp only[aD,h2];rfl)
 rw[hc] at B
 rw[e]
 exact s _ _ B.swapL
theorem yO {l:List AV} {n:Nat} (A:Cx h L S F) (hn:l.length=n) (h1:Nat.beq n 0=false) (h2:aD l=true) (s:∀id h',Cx h' (vr id l :: L) S F→K (.ptr id 0 0 0) h'=true):aW (mU h none n (.agg l)) K=true:=by
 obtain⟨h',e,B⟩:=A.box (n:=n) (v:= .agg l) hn (by have:=bZ.1 h1;omega) h2
 rw[e]
 exact s _ _ B
theorem LQ {l:List AV} {n:Nat} (A:Cx h (e1 :: L) S F) (hn:l.length=n) (h1:Nat.beq n 0=false) (h2:aD l=true) (s:∀id h',Cx h' (e1 :: vr id l :: L) S F→K (.ptr id 0 0 0) h'=true):aW (mU h none n (.agg l)) K=true:=by
 obtain⟨h',e,B⟩:=A.box (n:=n) (v:= .agg l) hn (by have:=bZ.1 h1;omega) h2
 rw[e]
 exact s _ _ B.swapL
theorem BA {id off:Nat} {c:List AV} (A:Cx h (vr id c :: L) S F) (h1:Nat.blt off c.length=true) (h2:v.leaf=true) (s:∀h',Cx h' (vr id (c.set off v) :: L) S F→kh h'=true):bJ h (.ptr id 0 0 off) v kh=true:=by
 rw[Od]
 obtain⟨h',e,B⟩:=A.set1 (bg.1 h1) h2
 rw[e]
 exact s _ B
theorem gW {id off:Nat} {c:List AV} (A:Cx h (e1 :: vr id c :: L) S F) (h1:Nat.blt off c.length=true) (h2:v.leaf=true) (s:∀h',Cx h' (e1 :: vr id (c.set off v) :: L) S F→kh h'=true):bJ h (.ptr id 0 0 off) v kh=true:=
 BA A.swapL h1 h2 fun h' B=>s h' B.swapL
theorem OB {id off:Nat} {c:List AV} (A:Cx h (e1 :: e2 :: vr id c :: L) S F) (h1:Nat.blt off c.length=true) (h2:v.leaf=true) (s:∀h',Cx h' (e1 :: e2 :: vr id (c.set off v) :: L) S F→kh h'=true):bJ h (.ptr id 0 0 off) v kh=true:=
 gW A.swap12 h1 h2 fun h' B=>s h' B.swap12
theorem Cx.swap23 {a b c d:Nat×fB} (A:Cx h (a :: b :: c :: d :: L) S F):Cx h (a :: b :: d :: c :: L) S F:=A.perm (.cons _ (.cons _ (.swap _ _ _))) (.refl _)
theorem acD {id off n:Nat} {c l:List AV} (A:Cx h (vr id c :: L) S F) (h0:Nat.beq n 0=false) (hn:l.length=n) (h1:Nat.ble (off+n) c.length=true) (h2:aD l=true) (s:∀h',Cx h' (vr id (lay c off l) :: L) S F→kh h'=true):aN h n (.ptr id 0 0 off) (.agg l) kh=true:=by
 rw[KP _ _ _ _ _ h0]
 obtain⟨h',e,B⟩:=A.store (n:=n) (off:=off) (v:= .agg l) hn (aK.1 h1) h2
 rw[e]
 exact s _ B
theorem wQ {id off n:Nat} {c l:List AV} (A:Cx h (e1 :: vr id c :: L) S F) (h0:Nat.beq n 0=false) (hn:l.length=n) (h1:Nat.ble (off+n) c.length=true) (h2:aD l=true) (s:∀h',Cx h' (e1 :: vr id (lay c off l) :: L) S F→kh h'=true):aN h n (.ptr id 0 0 off) (.agg l) kh=true:=
 acD A.swapL h0 hn h1 h2 fun h' B=>s h' B.swapL
theorem lay_all {α:Type} {c l:List α} (h:l.length=c.length):lay c 0 l=l:=by
 unfold lay
 rw[List.take_zero,List.nil_append,Nat.zero_add,List.drop_eq_nil_of_le (Nat.le_of_eq h.symm),List.append_nil]
theorem Iy {id n:Nat} {c l:List AV} (A:Cx h (vr id c :: L) S F) (h0:Nat.beq n 0=false) (hn:l.length=n) (h1:c.length=n) (h2:aD l=true) (s:∀h',Cx h' (vr id l :: L) S F→kh h'=true):aN h n (.ptr id 0 0 0) (.agg l) kh=true:=
 acD A h0 hn (aK.2 (by omega)) h2 fun h' B=>s h' (by rw[lay_all (by omega)] at B;exact B)
theorem gL {id n:Nat} {c l:List AV} (A:Cx h (e1 :: vr id c :: L) S F) (h0:Nat.beq n 0=false) (hn:l.length=n) (h1:c.length=n) (h2:aD l=true) (s:∀h',Cx h' (e1 :: vr id l :: L) S F→kh h'=true):aN h n (.ptr id 0 0 0) (.agg l) kh=true:=
 Iy A.swapL h0 hn h1 h2 fun h' B=>s h' B.swapL
theorem UR {id n:Nat} {c l:List AV} (A:Cx h (e1 :: e2 :: vr id c :: L) S F) (h0:Nat.beq n 0=false) (hn:l.length=n) (h1:c.length=n) (h2:aD l=true) (s:∀h',Cx h' (e1 :: e2 :: vr id l :: L) S F→kh h'=true):aN h n (.ptr id 0 0 0) (.agg l) kh=true:=
 gL A.swap12 h0 hn h1 h2 fun h' B=>s h' B.swap12
theorem iw {id n:Nat} {c:List AV} (V:Var h id c) (hc:c.length=n) (s:k (.agg c)=true):bL h n (.ptr id 0 0 0) k=true:=by
 refine aL V (aK.2 (by omega)) ?_
 rw[List.drop_zero,List.take_of_length_le (by omega)]
 exact s
theorem vT {id n:Nat} {c:List AV} (V:Var h id c) (hc:c.length=n) (s:K (.agg c) h=true):gq (fG h [(.ptr id 0 0 0,some (true,n))]) h K=true:=by
 refine ZH V (aK.2 (by omega)) ?_
 rw[List.drop_zero,List.take_of_length_le (by omega)]
 exact s
theorem kT {n sz:Nat} {z:List AV} {ps:List (Nat×AV)} {es:List (List AV)} (A:Cx h L S F) (h1:z.length=sz) (h2:Nat.blt 0 sz=true) (h3:Nat.ble (n*sz) 16777216=true) (h4:aD z=true) (h5:jU sz (xq n z) ps=some es) (h6:es.length=n)
 (s:∀v h',Cx h' L S ((fun h=>View h sz v es) :: F)→iQ v=none→K v h'=true):aW (bG h n sz z ps) K=true:=by
 have e:bG h n sz z ps=some (.slc h.sz 0 0 n n true,newRow h es sz):=by
  simp only[bG,h1,aH.2 rfl,h2,h3,h4,Bool.and_self,cond_true,h5]
 rw[e]
 refine s _ _ (A.newRO _ fun h' g=> ?_) rfl
 refine .inr ⟨h.sz,0,0,n,true,_,by rw[h6],ah.row_some.2 g,Nat.le_refl _,rfl, ?_,Nat.le_of_eq h6⟩
 rw[List.drop_zero];exact List.take_length
theorem gH {sz:Nat} {z l:List AV} (h1:l.length=sz) (h2:aD l=true):jU sz (xq 1 z) [(0, .agg l)]=some [l]:=by
 simp only[jU,AV.cells,h1,aH.2 rfl,h2,xq,List.length_cons,List.length_nil,lg,Bool.and_true,show Nat.blt 0 (0+1)=true from rfl,cond_true]
theorem EN {sz:Nat} {z l m:List AV} (h1:l.length=sz) (h2:aD l=true) (h3:m.length=sz) (h4:aD m=true):jU sz (xq 2 z) [(0, .agg l),(1, .agg m)]=some [l,m]:=by
 simp only[jU,AV.cells,h1,h3,aH.2 rfl,h2,h4,xq,List.length_cons,List.length_nil,lg,Bool.and_true,show Nat.blt 0 (0+1+1)=true from rfl,show Nat.blt 1 (0+1+1)=true from rfl,cond_true]
theorem aeZ (a b:Nat):mmV true [.int .i64 (a:Int), .int .i64 (b:Int)]=some (.int .i64 ((max a b:Nat):Int)):=by
 simp only[mmV,mmA,Nat.beq_refl,cond_true,nZ]
 cases hc:decide ((a:Int)<(b:Int)) with
 |true=>have:=of_decide_eq_true hc;simp only[cond_true];rw[Nat.max_eq_right (by omega)]
 |false=>have:=of_decide_eq_false hc;simp only[cond_false];rw[Nat.max_eq_left (by omega)]
theorem qA {n bytes:Nat} {es new:List (List AV)} (A:Cx h L (⟨v,n,es⟩ :: S) F) (hn:Nat.beq n 0=false) (hs:source h n w=some new) (h1:(es.length+new.length)*bytes≤most) (h2:es.length+new.length≤most)
 (s:∀v' h',Cx h' L (⟨v',n,es++new⟩ :: S) F→iQ v'=none→K v' h'=true):pV h n bytes v w K=true:=by
 rw[YJ _ _ _ _ _ _ hn]
 obtain⟨v',h',e,B⟩:=A.app (bytes:=bytes) (by have:=bZ.1 hn;omega) hs h1 h2
 rw[e]
 refine s _ _ B ?_
 have:=B.leafS
 rcases B.sls _ List.mem_cons_self with⟨e1,_⟩|⟨_,_,e1,_⟩<;>simp only at e1<;>subst e1<;>rfl
def NQ (es:List (List AV)) (sz:Nat):Row:={es:=es,sz:=sz,g:=0,m:=0,rw:=true}
theorem DC {n sz:Nat} {z:List AV} {ps:List (Nat×AV)} {es:List (List AV)} (A:Cx h (e1 :: L) S F) (h1:z.length=sz) (h2:Nat.blt 0 sz=true) (h3:Nat.ble (n*sz) 16777216=true) (h4:aD z=true) (h5:jU sz (xq n z) ps=some es) (h6:es.length=n)
 (s:∀id h',Cx h' (e1 :: (id, .row (NQ es sz)) :: L) S F→K (.slc id 0 0 n n true) h'=true):aW (bG h n sz z ps) K=true:=by
 have e:bG h n sz z ps=some (.slc h.sz 0 0 n n true,newRow h es sz):=by
  simp only[bG,h1,aH.2 rfl,h2,h3,h4,Bool.and_self,cond_true,h5]
 rw[e]
 exact s _ _ (A.new _).swapL
theorem Cx.rowL {id sz:Nat} {es:List (List AV)} (A:Cx h (e1 :: (id, .row (NQ es sz)) :: L) S F):View h sz (.slc id 0 0 es.length es.length true) es:=
 .inr ⟨id,0,0,es.length,true,_,rfl,ah.row_some.2 (A.has _ (List.mem_cons_of_mem _ List.mem_cons_self)),Nat.le_refl _,rfl,by rw[List.drop_zero];exact List.take_length,Nat.le_refl _⟩
theorem Cx.rowL' {id sz:Nat} {es:List (List AV)} (A:Cx h ((id, .row (NQ es sz)) :: L) S F):View h sz (.slc id 0 0 es.length es.length true) es:=
 .inr ⟨id,0,0,es.length,true,_,rfl,ah.row_some.2 (A.has _ List.mem_cons_self),Nat.le_refl _,rfl,by rw[List.drop_zero];exact List.take_length,Nat.le_refl _⟩
theorem vP {id:Nat} {r:Row} (hr:r.rw=true) {u:AV} (hu:JX u=id) (A:Cx h (e1 :: (id, .row r) :: L) S F) (s:∀h,Cx h (e1 :: L) S F→Q w h=true):sP [u] Q w h=true:=by
 subst hu
 show(match nA [JX u] h with |some h=>Q w h |none=>false)=true
 have hg:=A.has _ (List.mem_cons_of_mem _ List.mem_cons_self)
 simp only at hg
 simp only[nA,hg,fB.own,hr,cond_true]
 exact s _ (A.swapL.wr .gone).rest
theorem Cx.froze {id sz:Nat} {es:List (List AV)} (A:Cx h (e1 :: (id, .row (NQ es sz)) :: L) S F):Cx h (e1 :: L) S ((fun h=>View h sz (.slc id 0 0 es.length es.length true) es) :: F):=by
 have B:=A.swapL
 have C:=B.rest
 have hn:=B.nod
 have hs:places ((id,fB.row (NQ es sz)) :: e1 :: L) S=id :: places (e1 :: L) S:=rfl
 rw[hs] at hn
 refine⟨C.ok,C.has,C.sls,C.nod,fun R m=> ?_⟩
 rcases List.mem_cons.1 m with rfl |m
 ·intro h' k
  have g:=k.2 id _ (fun q=>(List.nodup_cons.1 hn).1 q) (B.has _ List.mem_cons_self)
  exact .inr ⟨id,0,0,es.length,true,_,rfl,ah.row_some.2 g,Nat.le_refl _,rfl,by rw[List.drop_zero];exact List.take_length,Nat.le_refl _⟩
 ·exact C.facts R m
theorem aeh {id n bytes:Nat} {es new:List (List AV)} (A:Cx h (e1 :: (id, .row (NQ es n)) :: L) S F) (hn:Nat.beq n 0=false) (hs:source h n w=some new) (h1:(es.length+new.length)*bytes≤most) (h2:es.length+new.length≤most)
 (s:∀v' h',Cx h' (e1 :: L) S ((fun h=>View h n v' (es++new)) :: F)→iQ v'=none→K v' h'=true):pV h n bytes (.slc id 0 0 es.length es.length true) w K=true:=by
 rw[YJ _ _ _ _ _ _ hn]
 have hrow:h.row id=some (NQ es n):=ah.row_some.2 (A.has _ (List.mem_cons_of_mem _ List.mem_cons_self))
 cases new with
 |nil=>
  have e:iq h n bytes (.slc id 0 0 es.length es.length true) w=some (.slc id 0 0 es.length es.length true,h):=by
   simp only[iq,hn,cond_false,hs,gZ]
  rw[e]
  refine s _ _ ?_ rfl
  rw[List.append_nil]
  exact A.froze
 |cons y new=>
  have hcap:Nat.ble (es.length+(y :: new).length) es.length=false:=by
   cases hb:Nat.ble (es.length+(y :: new).length) es.length with
   |false=>rfl
   |true=>have:=aK.1 hb;simp only[List.length_cons] at this;omega
  have e:iq h n bytes (.slc id 0 0 es.length es.length true) w=some (.slc h.sz 0 0 (es.length+(y :: new).length) (es.length+(y :: new).length) false,newRow h (es++y :: new) n):=by
   simp only[iq,hn,cond_false,hs,gZ,hrow,aK.2 h1,aK.2 h2,NQ,aH.2 rfl,Bool.and_self,cond_true,hcap,aK.2 (Nat.le_refl 0),List.drop_zero,List.take_length]
  rw[e]
  refine s _ _ (A.rest1.newRO _ fun h' g=> ?_) rfl
  refine .inr ⟨h.sz,0,0,_,false,_,by rw[show(es++y :: new).length=es.length+(y :: new).length from List.length_append],ah.row_some.2 g,Nat.le_refl _,rfl, ?_,by rw[List.length_append];exact Nat.le_refl _⟩
  rw[List.drop_zero];exact List.take_length
theorem Cx.elem {n j:Nat} {es:List (List AV)} (A:Cx h L (⟨v,n,es⟩ :: S) F) (hj:j<es.length) (hn:∀e∈es,e.length=n):
 ∃id g,v= .slc id g 0 es.length es.length false∧(∀J,oL h n v (.int J (j:Int))=some (.ptr id g j 0))∧(∀e∈L,e.1≠id)∧∀l:List AV,l.length=n→aD l=true→
  ∃h',bW h n (.ptr id g j 0) (.agg l)=some h'∧Cx h' L (⟨v,n,es.set j l⟩ :: S) F∧∀J,oL h' n v (.int J (j:Int))=some (.ptr id g j 0):=by
 rcases A.sls _ List.mem_cons_self with⟨e1,e2⟩|⟨id,g,e1,m0,hm,e2⟩
 ·simp only at e2;subst e2;simp at hj
 ·simp only at e1 e2;subst e1
  have hrow:=ah.row_some.2 e2
  have hp:(places L (⟨.slc id g 0 es.length es.length false,n,es⟩ :: S)).Perm (id :: places L S):=by
   show(L.map Prod.fst++([id]++S.flatMap fun s=>N8 s.v)).Perm _
   exact List.perm_middle
  have hnd:=hp.nodup_iff.1 A.nod
  have ia:∀(h:ah) (es':List (List AV)) (m:Nat),h.row id=some {es:=es',sz:=n,g:=g,m:=m,rw:=true,ty:=none}→∀J,oL h n (.slc id g 0 es.length es.length false) (.int J (j:Int))=some (.ptr id g j 0):=by
   intro h es' m hr J
   have:oM h id n=true:=by simp only[oM,hr,aH]
   simp only[oL,qN,bg.2 hj,this,Bool.and_self,cond_true,Nat.zero_add]
  refine⟨id,g,rfl,ia h es m0 hrow,fun e m q=>(List.nodup_cons.1 hnd).1 (q▸List.mem_append.2 (.inl (List.mem_map_of_mem m))),fun l hl hll=> ?_⟩
  have hlen:(es[j]).length=n:=hn _ (List.getElem_mem hj)
  have hnth:nth es j=some es[j]:=by rw[mM];exact List.getElem?_eq_getElem hj
  refine⟨h.put id (.row {es:=es.set j l,sz:=n,g:=g,m:=g,rw:=true,ty:=none}), ?_, ?_,fun J=> ?_⟩
  ·simp only[bW,hrow,Nat.beq_refl,AV.cells,hl,hll,Bool.and_self,cond_true,hnth,Nat.zero_add,hlen,aK.2 (Nat.le_refl n),uQ]
   rw[lay_all (by omega)]
  ·have B:Cx h ((id, .row {es:=es,sz:=n,g:=g,m:=m0,rw:=true,ty:=none}) :: L) S F:=
    ⟨A.ok,fun e m=>by
      rcases List.mem_cons.1 m with rfl |m
      ·exact e2
      ·exact A.has e m,fun s m=>A.sls s (List.mem_cons_of_mem _ m),hnd,fun R m=>(A.facts R m).less fun i hi=>hp.mem_iff.2 hi⟩
   have C:=B.wr (.row {es:=es.set j l,sz:=n,g:=g,m:=g,rw:=true,ty:=none})
   have hp':(places L (⟨.slc id g 0 es.length es.length false,n,es.set j l⟩ :: S)).Perm (id :: places L S):=by
    show(L.map Prod.fst++([id]++S.flatMap fun s=>N8 s.v)).Perm _
    exact List.perm_middle
   refine⟨C.ok,fun e m=>C.has e (List.mem_cons_of_mem _ m),fun s m=> ?_,hp'.nodup_iff.2 C.nod,fun R m=>(C.facts R m).less fun i hi=>hp'.mem_iff.1 hi⟩
   rcases List.mem_cons.1 m with rfl |m
   ·exact .inr ⟨id,g,by simp,g,Nat.le_refl _,C.has _ List.mem_cons_self⟩
   ·exact C.sls s m
  ·exact ia _ (es.set j l) g (ah.row_some.2 (by rw[ah.get_put,if_pos rfl])) J
def Knows (L:jf) (S:List Sl) (F:List (ah→Prop)) (R:ah→Prop):Prop:=∀h,Cx h L S F→R h
theorem Knows.mem {R:ah→Prop} (m:R∈F):Knows L S F R:=fun h A=>A.fact m
end
section
variable {call:aj} {df:lN} {n:Nat} {σ:St} {ρ:dw} {h h':ah} {pend:List (AV×List AV)} {KT:Mode→St→Bool} {KE:nG} {KM:KMo} {v:AV} {l ops:List aU} {a b:dx} {μ:Mode} {d:Bool}
theorem EY (hs:lU ops=none) (s:mR call ops σ (fun x σ'=>match x with | .normal=>runT call df n b pend σ' KT |x=>atEnd df pend x σ' KT)=true):runT call df n (.seq (.reg ops) b) pend σ KT=true:=by
 simp only[runT,hs,dA];exact s
theorem agm {pre:List aU} {f:bS} (hs:lU ops=some (pre,f,[]))
 (s:mR call pre σ (fun x σ'=>match x with | .normal=>(match ev σ'.regs f,evs σ'.regs [] with |some (.fn (.func g) first cap),some vs=>runT call df n b ((.fn (.func g) first cap,vs) :: pend) σ' KT |_,_=>false)|x=>atEnd df pend x σ' KT)=true):runT call df n (.seq (.reg ops) b) pend σ KT=true:=by
 simp only[runT,hs];exact s
theorem oq (s:KE .normal σ=true):mR call [] σ KE=true:=s
theorem gU {dst:Option Nat} {op:fE} (hn:dF op=false) (e:aO ρ h op=some (v,h')) (s:mR call l ⟨put ρ dst v,h'⟩ KE=true):mR call (⟨dst,op,none⟩ :: l) ⟨ρ,h⟩ KE=true:=by
 have ek:∀K,gy call ρ h op K=K v h':=by
  intro K
  cases op<;>first |(cases hn;done)|(simp only[gy,e])
 simp only[mR,jy,eT,hn,oH,yP,ek,cond_false]
 exact s
theorem Sb {dst:Option Nat} {f:bS} {args:List bS} {tgt:VI} {first cap vs:List AV} (ef:ev ρ f=some (.fn tgt first cap)) (ea:evs ρ args=some vs)
 (s:call tgt (first++vs++cap) h (fun v h'=>match iQ v with |some x=>KE (.panic x) ⟨ρ,h'⟩|none=>mR call l ⟨put ρ dst v,h'⟩ KE)=true):mR call (⟨dst, .call f args,none⟩ :: l) ⟨ρ,h⟩ KE=true:=by
 simp only[mR,jy,eT,gy,ef,ea,dF,oH,yP,cond_true]
 refine(congrArg (fun k=>call tgt (first++vs++cap) h k) ?_).trans s
 funext v h'
 cases iQ v<;>rfl
theorem OT (s:mO call n μ a d σ (fun x d' σ'=>match x with | .normal=>mO call n μ b d' σ' KM |x=>KM x d' σ')=true):mO call n μ (.seq a b) d σ KM=true:=s
theorem Vl (hr:Er ops=false) (s:mR call ops σ (fun x σ'=>KM x d σ')=true):mO call n μ (.reg ops) d σ KM=true:=by
 simp only[mO,hr,cond_false,dA];exact s
theorem aha (hr:Er ops=true) (s:wD μ ops d σ KM=true):mO call n μ (.reg ops) d σ KM=true:=by
 simp only[mO,hr,cond_true];exact s
theorem aa5 {c:bS} (e:ev σ.regs c=some (.bool true)) (s:mO call n μ a d σ KM=true):mO call n μ (.cond c a b) d σ KM=true:=by
 simp only[mO,e];exact s
theorem aaG {c:bS} (e:ev σ.regs c=some (.bool false)) (s:mO call n μ b d σ KM=true):mO call n μ (.cond c a b) d σ KM=true:=by
 simp only[mO,e];exact s
end
end Go.Ab
namespace Go.Proofs.YtibillhjmfbneaaGreatDoor
open Go.Ab
theorem jT:LC E:=abY Zu
theorem e3 {call:aj} {n:Nat} {a0:AV} {h:ah} {K:au}:w3 call n [a0] h K=s3 call n a0 h K:=kR s3
theorem d3 {n:Nat} {a0:AV} {h:ah} {K:au} (q:s3 (av E n) n a0 h K=true):av E (n+1) (.func 3) [a0] h K=true:=cO v3 jT (e3.trans q)
theorem e6 {call:aj} {n:Nat} {a0:AV} {h:ah} {K:au}:w6 call n [a0] h K=s6 call n a0 h K:=kR s6
theorem d6 {n:Nat} {a0:AV} {h:ah} {K:au} (q:s6 (av E n) n a0 h K=true):av E (n+1) (.func 6) [a0] h K=true:=cO v6 jT (e6.trans q)
theorem e7 {call:aj} {n:Nat} {a0:AV} {h:ah} {K:au}:w7 call n [a0] h K=s7 call n a0 h K:=kR s7
theorem d7 {n:Nat} {a0:AV} {h:ah} {K:au} (q:s7 (av E n) n a0 h K=true):av E (n+1) (.func 7) [a0] h K=true:=cO v7 jT (e7.trans q)
theorem e8 {call:aj} {n:Nat} {a0 a1:AV} {h:ah} {K:au}:w8 call n [a0,a1] h K=s8 call n a0 a1 h K:=kK s8
theorem d8 {n:Nat} {a0 a1:AV} {h:ah} {K:au} (q:s8 (av E n) n a0 a1 h K=true):av E (n+1) (.func 8) [a0,a1] h K=true:=cO v8 jT (e8.trans q)
theorem e9 {call:aj} {n:Nat} {h:ah} {K:au}:w9 call n [] h K=s9 call n h K:=ag8 s9
theorem d9 {n:Nat} {h:ah} {K:au} (q:s9 (av E n) n h K=true):av E (n+1) (.func 9) [] h K=true:=cO v9 jT (e9.trans q)
theorem e10 {call:aj} {n:Nat} {a0 a1:AV} {h:ah} {K:au}:w10 call n [a0,a1] h K=s10 call n a0 a1 h K:=kK s10
theorem d10 {n:Nat} {a0 a1:AV} {h:ah} {K:au} (q:s10 (av E n) n a0 a1 h K=true):av E (n+1) (.func 10) [a0,a1] h K=true:=cO v10 jT (e10.trans q)
theorem e11 {call:aj} {n:Nat} {a0 a1:AV} {h:ah} {K:au}:w11 call n [a0,a1] h K=s11 call n a0 a1 h K:=kK s11
theorem d11 {n:Nat} {a0 a1:AV} {h:ah} {K:au} (q:s11 (av E n) n a0 a1 h K=true):av E (n+1) (.func 11) [a0,a1] h K=true:=cO v11 jT (e11.trans q)
theorem e12 {call:aj} {n:Nat} {a0:AV} {h:ah} {K:au}:w12 call n [a0] h K=s12 call n a0 h K:=kR s12
theorem d12 {n:Nat} {a0:AV} {h:ah} {K:au} (q:s12 (av E n) n a0 h K=true):av E (n+1) (.func 12) [a0] h K=true:=cO v12 jT (e12.trans q)
theorem e14 {call:aj} {n:Nat} {a0 a1:AV} {h:ah} {K:au}:w14 call n [a0,a1] h K=s14 call n a0 a1 h K:=kK s14
theorem d14 {n:Nat} {a0 a1:AV} {h:ah} {K:au} (q:s14 (av E n) n a0 a1 h K=true):av E (n+1) (.func 14) [a0,a1] h K=true:=cO v14 jT (e14.trans q)
theorem e15 {call:aj} {n:Nat} {a0 a1:AV} {h:ah} {K:au}:w15 call n [a0,a1] h K=s15 call n a0 a1 h K:=kK s15
theorem d15 {n:Nat} {a0 a1:AV} {h:ah} {K:au} (q:s15 (av E n) n a0 a1 h K=true):av E (n+1) (.func 15) [a0,a1] h K=true:=cO v15 jT (e15.trans q)
theorem e16 {call:aj} {n:Nat} {a0 a1:AV} {h:ah} {K:au}:w16 call n [a0,a1] h K=s16 call n a0 a1 h K:=kK s16
theorem d16 {n:Nat} {a0 a1:AV} {h:ah} {K:au} (q:s16 (av E n) n a0 a1 h K=true):av E (n+1) (.func 16) [a0,a1] h K=true:=cO v16 jT (e16.trans q)
theorem e17 {call:aj} {n:Nat} {a0 a1:AV} {h:ah} {K:au}:w17 call n [a0,a1] h K=s17 call n a0 a1 h K:=kK s17
theorem d17 {n:Nat} {a0 a1:AV} {h:ah} {K:au} (q:s17 (av E n) n a0 a1 h K=true):av E (n+1) (.func 17) [a0,a1] h K=true:=cO v17 jT (e17.trans q)
theorem e19 {call:aj} {n:Nat} {a0 a1:AV} {h:ah} {K:au}:w19 call n [a0,a1] h K=s19 call n a0 a1 h K:=kK s19
theorem d19 {n:Nat} {a0 a1:AV} {h:ah} {K:au} (q:s19 (av E n) n a0 a1 h K=true):av E (n+1) (.func 19) [a0,a1] h K=true:=cO v19 jT (e19.trans q)
theorem e20 {call:aj} {n:Nat} {a0:AV} {h:ah} {K:au}:w20 call n [a0] h K=s20 call n a0 h K:=kR s20
theorem d20 {n:Nat} {a0:AV} {h:ah} {K:au} (q:s20 (av E n) n a0 h K=true):av E (n+1) (.func 20) [a0] h K=true:=cO v20 jT (e20.trans q)
theorem e21 {call:aj} {n:Nat} {a0:AV} {h:ah} {K:au}:w21 call n [a0] h K=s21 call n a0 h K:=kR s21
theorem d21 {n:Nat} {a0:AV} {h:ah} {K:au} (q:s21 (av E n) n a0 h K=true):av E (n+1) (.func 21) [a0] h K=true:=cO v21 jT (e21.trans q)
theorem e22 {call:aj} {n:Nat} {a0 a1:AV} {h:ah} {K:au}:w22 call n [a0,a1] h K=s22 call n a0 a1 h K:=kK s22
theorem d22 {n:Nat} {a0 a1:AV} {h:ah} {K:au} (q:s22 (av E n) n a0 a1 h K=true):av E (n+1) (.func 22) [a0,a1] h K=true:=cO v22 jT (e22.trans q)
theorem e23 {call:aj} {n:Nat} {a0:AV} {h:ah} {K:au}:w23 call n [a0] h K=s23 call n a0 h K:=kR s23
theorem d23 {n:Nat} {a0:AV} {h:ah} {K:au} (q:s23 (av E n) n a0 h K=true):av E (n+1) (.func 23) [a0] h K=true:=cO v23 jT (e23.trans q)
theorem e24 {call:aj} {n:Nat} {a0:AV} {h:ah} {K:au}:w24 call n [a0] h K=s24 call n a0 h K:=kR s24
theorem d24 {n:Nat} {a0:AV} {h:ah} {K:au} (q:s24 (av E n) n a0 h K=true):av E (n+1) (.func 24) [a0] h K=true:=cO v24 jT (e24.trans q)
theorem e25 {call:aj} {n:Nat} {a0 a1:AV} {h:ah} {K:au}:w25 call n [a0,a1] h K=s25 call n a0 a1 h K:=kK s25
theorem d25 {n:Nat} {a0 a1:AV} {h:ah} {K:au} (q:s25 (av E n) n a0 a1 h K=true):av E (n+1) (.func 25) [a0,a1] h K=true:=cO v25 jT (e25.trans q)
theorem e26 {call:aj} {n:Nat} {a0 a1:AV} {h:ah} {K:au}:w26 call n [a0,a1] h K=s26 call n a0 a1 h K:=kK s26
theorem d26 {n:Nat} {a0 a1:AV} {h:ah} {K:au} (q:s26 (av E n) n a0 a1 h K=true):av E (n+1) (.func 26) [a0,a1] h K=true:=cO v26 jT (e26.trans q)
theorem e28 {call:aj} {n:Nat} {h:ah} {K:au}:w28 call n [] h K=s28 call n h K:=ag8 s28
theorem d28 {n:Nat} {h:ah} {K:au} (q:s28 (av E n) n h K=true):av E (n+1) (.func 28) [] h K=true:=cO v28 jT (e28.trans q)
theorem e29 {call:aj} {n:Nat} {a0 a1:AV} {h:ah} {K:au}:w29 call n [a0,a1] h K=s29 call n a0 a1 h K:=kK s29
theorem d29 {n:Nat} {a0 a1:AV} {h:ah} {K:au} (q:s29 (av E n) n a0 a1 h K=true):av E (n+1) (.func 29) [a0,a1] h K=true:=cO v29 jT (e29.trans q)
theorem e30 {call:aj} {n:Nat} {a0 a1 a2:AV} {h:ah} {K:au}:w30 call n [a0,a1,a2] h K=s30 call n a0 a1 a2 h K:=Zc s30
theorem d30 {n:Nat} {a0 a1 a2:AV} {h:ah} {K:au} (q:s30 (av E n) n a0 a1 a2 h K=true):av E (n+1) (.func 30) [a0,a1,a2] h K=true:=cO v30 jT (e30.trans q)
theorem e31 {call:aj} {n:Nat} {a0:AV} {h:ah} {K:au}:w31 call n [a0] h K=s31 call n a0 h K:=kR s31
theorem d31 {n:Nat} {a0:AV} {h:ah} {K:au} (q:s31 (av E n) n a0 h K=true):av E (n+1) (.func 31) [a0] h K=true:=cO v31 jT (e31.trans q)
theorem e32 {call:aj} {n:Nat} {a0 a1:AV} {h:ah} {K:au}:w32 call n [a0,a1] h K=s32 call n a0 a1 h K:=kK s32
theorem d32 {n:Nat} {a0 a1:AV} {h:ah} {K:au} (q:s32 (av E n) n a0 a1 h K=true):av E (n+1) (.func 32) [a0,a1] h K=true:=cO v32 jT (e32.trans q)
theorem e33 {call:aj} {n:Nat} {a0 a1:AV} {h:ah} {K:au}:w33 call n [a0,a1] h K=s33 call n a0 a1 h K:=kK s33
theorem d33 {n:Nat} {a0 a1:AV} {h:ah} {K:au} (q:s33 (av E n) n a0 a1 h K=true):av E (n+1) (.func 33) [a0,a1] h K=true:=cO v33 jT (e33.trans q)
theorem e34 {call:aj} {n:Nat} {a0:AV} {h:ah} {K:au}:w34 call n [a0] h K=s34 call n a0 h K:=kR s34
theorem d34 {n:Nat} {a0:AV} {h:ah} {K:au} (q:s34 (av E n) n a0 h K=true):av E (n+1) (.func 34) [a0] h K=true:=cO v34 jT (e34.trans q)
theorem e35 {call:aj} {n:Nat} {a0 a1:AV} {h:ah} {K:au}:w35 call n [a0,a1] h K=s35 call n a0 a1 h K:=kK s35
theorem d35 {n:Nat} {a0 a1:AV} {h:ah} {K:au} (q:s35 (av E n) n a0 a1 h K=true):av E (n+1) (.func 35) [a0,a1] h K=true:=cO v35 jT (e35.trans q)
theorem e36 {call:aj} {n:Nat} {a0:AV} {h:ah} {K:au}:w36 call n [a0] h K=s36 call n a0 h K:=kR s36
theorem d36 {n:Nat} {a0:AV} {h:ah} {K:au} (q:s36 (av E n) n a0 h K=true):av E (n+1) (.func 36) [a0] h K=true:=cO v36 jT (e36.trans q)
theorem e37 {call:aj} {n:Nat} {a0:AV} {h:ah} {K:au}:w37 call n [a0] h K=s37 call n a0 h K:=kR s37
theorem d37 {n:Nat} {a0:AV} {h:ah} {K:au} (q:s37 (av E n) n a0 h K=true):av E (n+1) (.func 37) [a0] h K=true:=cO v37 jT (e37.trans q)
theorem e38 {call:aj} {n:Nat} {a0 a1:AV} {h:ah} {K:au}:w38 call n [a0,a1] h K=s38 call n a0 a1 h K:=kK s38
theorem d38 {n:Nat} {a0 a1:AV} {h:ah} {K:au} (q:s38 (av E n) n a0 a1 h K=true):av E (n+1) (.func 38) [a0,a1] h K=true:=cO v38 jT (e38.trans q)
theorem e39 {call:aj} {n:Nat} {a0:AV} {h:ah} {K:au}:w39 call n [a0] h K=s39 call n a0 h K:=kR s39
theorem d39 {n:Nat} {a0:AV} {h:ah} {K:au} (q:s39 (av E n) n a0 h K=true):av E (n+1) (.func 39) [a0] h K=true:=cO v39 jT (e39.trans q)
theorem e40 {call:aj} {n:Nat} {a0 a1 a2:AV} {h:ah} {K:au}:w40 call n [a0,a1,a2] h K=s40 call n a0 a1 a2 h K:=Zc s40
theorem d40 {n:Nat} {a0 a1 a2:AV} {h:ah} {K:au} (q:s40 (av E n) n a0 a1 a2 h K=true):av E (n+1) (.func 40) [a0,a1,a2] h K=true:=cO v40 jT (e40.trans q)
theorem e41 {call:aj} {n:Nat} {a0 a1:AV} {h:ah} {K:au}:w41 call n [a0,a1] h K=s41 call n a0 a1 h K:=kK s41
theorem d41 {n:Nat} {a0 a1:AV} {h:ah} {K:au} (q:s41 (av E n) n a0 a1 h K=true):av E (n+1) (.func 41) [a0,a1] h K=true:=cO v41 jT (e41.trans q)
theorem e42 {call:aj} {n:Nat} {a0:AV} {h:ah} {K:au}:w42 call n [a0] h K=s42 call n a0 h K:=kR s42
theorem d42 {n:Nat} {a0:AV} {h:ah} {K:au} (q:s42 (av E n) n a0 h K=true):av E (n+1) (.func 42) [a0] h K=true:=cO v42 jT (e42.trans q)
theorem e43 {call:aj} {n:Nat} {a0 a1:AV} {h:ah} {K:au}:w43 call n [a0,a1] h K=s43 call n a0 a1 h K:=kK s43
theorem d43 {n:Nat} {a0 a1:AV} {h:ah} {K:au} (q:s43 (av E n) n a0 a1 h K=true):av E (n+1) (.func 43) [a0,a1] h K=true:=cO v43 jT (e43.trans q)
theorem e44 {call:aj} {n:Nat} {a0:AV} {h:ah} {K:au}:w44 call n [a0] h K=s44 call n a0 h K:=kR s44
theorem d44 {n:Nat} {a0:AV} {h:ah} {K:au} (q:s44 (av E n) n a0 h K=true):av E (n+1) (.func 44) [a0] h K=true:=cO v44 jT (e44.trans q)
theorem e45 {call:aj} {n:Nat} {a0:AV} {h:ah} {K:au}:w45 call n [a0] h K=s45 call n a0 h K:=kR s45
theorem d45 {n:Nat} {a0:AV} {h:ah} {K:au} (q:s45 (av E n) n a0 h K=true):av E (n+1) (.func 45) [a0] h K=true:=cO v45 jT (e45.trans q)
theorem e46 {call:aj} {n:Nat} {a0 a1:AV} {h:ah} {K:au}:w46 call n [a0,a1] h K=s46 call n a0 a1 h K:=kK s46
theorem d46 {n:Nat} {a0 a1:AV} {h:ah} {K:au} (q:s46 (av E n) n a0 a1 h K=true):av E (n+1) (.func 46) [a0,a1] h K=true:=cO v46 jT (e46.trans q)
theorem e47 {call:aj} {n:Nat} {a0 a1:AV} {h:ah} {K:au}:w47 call n [a0,a1] h K=s47 call n a0 a1 h K:=kK s47
theorem d47 {n:Nat} {a0 a1:AV} {h:ah} {K:au} (q:s47 (av E n) n a0 a1 h K=true):av E (n+1) (.func 47) [a0,a1] h K=true:=cO v47 jT (e47.trans q)
theorem e48 {call:aj} {n:Nat} {a0 a1:AV} {h:ah} {K:au}:w48 call n [a0,a1] h K=s48 call n a0 a1 h K:=kK s48
theorem d48 {n:Nat} {a0 a1:AV} {h:ah} {K:au} (q:s48 (av E n) n a0 a1 h K=true):av E (n+1) (.func 48) [a0,a1] h K=true:=cO v48 jT (e48.trans q)
theorem e49 {call:aj} {n:Nat} {a0:AV} {h:ah} {K:au}:w49 call n [a0] h K=s49 call n a0 h K:=kR s49
theorem d49 {n:Nat} {a0:AV} {h:ah} {K:au} (q:s49 (av E n) n a0 h K=true):av E (n+1) (.func 49) [a0] h K=true:=cO v49 jT (e49.trans q)
theorem e50 {call:aj} {n:Nat} {a0:AV} {h:ah} {K:au}:w50 call n [a0] h K=s50 call n a0 h K:=kR s50
theorem d50 {n:Nat} {a0:AV} {h:ah} {K:au} (q:s50 (av E n) n a0 h K=true):av E (n+1) (.func 50) [a0] h K=true:=cO v50 jT (e50.trans q)
theorem e51 {call:aj} {n:Nat} {a0 a1:AV} {h:ah} {K:au}:w51 call n [a0,a1] h K=s51 call n a0 a1 h K:=kK s51
theorem d51 {n:Nat} {a0 a1:AV} {h:ah} {K:au} (q:s51 (av E n) n a0 a1 h K=true):av E (n+1) (.func 51) [a0,a1] h K=true:=cO v51 jT (e51.trans q)
theorem e52 {call:aj} {n:Nat} {a0:AV} {h:ah} {K:au}:w52 call n [a0] h K=s52 call n a0 h K:=kR s52
theorem d52 {n:Nat} {a0:AV} {h:ah} {K:au} (q:s52 (av E n) n a0 h K=true):av E (n+1) (.func 52) [a0] h K=true:=cO v52 jT (e52.trans q)
theorem e53 {call:aj} {n:Nat} {a0:AV} {h:ah} {K:au}:w53 call n [a0] h K=s53 call n a0 h K:=kR s53
theorem d53 {n:Nat} {a0:AV} {h:ah} {K:au} (q:s53 (av E n) n a0 h K=true):av E (n+1) (.func 53) [a0] h K=true:=cO v53 jT (e53.trans q)
theorem e54 {call:aj} {n:Nat} {a0 a1:AV} {h:ah} {K:au}:w54 call n [a0,a1] h K=s54 call n a0 a1 h K:=kK s54
theorem d54 {n:Nat} {a0 a1:AV} {h:ah} {K:au} (q:s54 (av E n) n a0 a1 h K=true):av E (n+1) (.func 54) [a0,a1] h K=true:=cO v54 jT (e54.trans q)
theorem e55 {call:aj} {n:Nat} {a0 a1:AV} {h:ah} {K:au}:w55 call n [a0,a1] h K=s55 call n a0 a1 h K:=kK s55
theorem d55 {n:Nat} {a0 a1:AV} {h:ah} {K:au} (q:s55 (av E n) n a0 a1 h K=true):av E (n+1) (.func 55) [a0,a1] h K=true:=cO v55 jT (e55.trans q)
theorem e57 {call:aj} {n:Nat} {a0:AV} {h:ah} {K:au}:w57 call n [a0] h K=s57 call n a0 h K:=kR s57
theorem d57 {n:Nat} {a0:AV} {h:ah} {K:au} (q:s57 (av E n) n a0 h K=true):av E (n+1) (.func 57) [a0] h K=true:=cO v57 jT (e57.trans q)
theorem e58 {call:aj} {n:Nat} {a0 a1:AV} {h:ah} {K:au}:w58 call n [a0,a1] h K=s58 call n a0 a1 h K:=kK s58
theorem d58 {n:Nat} {a0 a1:AV} {h:ah} {K:au} (q:s58 (av E n) n a0 a1 h K=true):av E (n+1) (.func 58) [a0,a1] h K=true:=cO v58 jT (e58.trans q)
theorem e59 {call:aj} {n:Nat} {a0:AV} {h:ah} {K:au}:w59 call n [a0] h K=s59 call n a0 h K:=kR s59
theorem d59 {n:Nat} {a0:AV} {h:ah} {K:au} (q:s59 (av E n) n a0 h K=true):av E (n+1) (.func 59) [a0] h K=true:=cO v59 jT (e59.trans q)
theorem e60 {call:aj} {n:Nat} {a0 a1:AV} {h:ah} {K:au}:w60 call n [a0,a1] h K=s60 call n a0 a1 h K:=kK s60
theorem d60 {n:Nat} {a0 a1:AV} {h:ah} {K:au} (q:s60 (av E n) n a0 a1 h K=true):av E (n+1) (.func 60) [a0,a1] h K=true:=cO v60 jT (e60.trans q)
theorem e61 {call:aj} {n:Nat} {a0 a1:AV} {h:ah} {K:au}:w61 call n [a0,a1] h K=s61 call n a0 a1 h K:=kK s61
theorem d61 {n:Nat} {a0 a1:AV} {h:ah} {K:au} (q:s61 (av E n) n a0 a1 h K=true):av E (n+1) (.func 61) [a0,a1] h K=true:=cO v61 jT (e61.trans q)
theorem e62 {call:aj} {n:Nat} {a0 a1 a2:AV} {h:ah} {K:au}:w62 call n [a0,a1,a2] h K=s62 call n a0 a1 a2 h K:=Zc s62
theorem d62 {n:Nat} {a0 a1 a2:AV} {h:ah} {K:au} (q:s62 (av E n) n a0 a1 a2 h K=true):av E (n+1) (.func 62) [a0,a1,a2] h K=true:=cO v62 jT (e62.trans q)
theorem e63 {call:aj} {n:Nat} {a0:AV} {h:ah} {K:au}:w63 call n [a0] h K=s63 call n a0 h K:=kR s63
theorem d63 {n:Nat} {a0:AV} {h:ah} {K:au} (q:s63 (av E n) n a0 h K=true):av E (n+1) (.func 63) [a0] h K=true:=cO v63 jT (e63.trans q)
theorem e64 {call:aj} {n:Nat} {a0 a1:AV} {h:ah} {K:au}:w64 call n [a0,a1] h K=s64 call n a0 a1 h K:=kK s64
theorem d64 {n:Nat} {a0 a1:AV} {h:ah} {K:au} (q:s64 (av E n) n a0 a1 h K=true):av E (n+1) (.func 64) [a0,a1] h K=true:=cO v64 jT (e64.trans q)
theorem e65 {call:aj} {n:Nat} {a0:AV} {h:ah} {K:au}:w65 call n [a0] h K=s65 call n a0 h K:=kR s65
theorem d65 {n:Nat} {a0:AV} {h:ah} {K:au} (q:s65 (av E n) n a0 h K=true):av E (n+1) (.func 65) [a0] h K=true:=cO v65 jT (e65.trans q)
theorem e66 {call:aj} {n:Nat} {a0 a1 a2:AV} {h:ah} {K:au}:w66 call n [a0,a1,a2] h K=s66 call n a0 a1 a2 h K:=Zc s66
theorem d66 {n:Nat} {a0 a1 a2:AV} {h:ah} {K:au} (q:s66 (av E n) n a0 a1 a2 h K=true):av E (n+1) (.func 66) [a0,a1,a2] h K=true:=cO v66 jT (e66.trans q)
theorem e67 {call:aj} {n:Nat} {a0:AV} {h:ah} {K:au}:w67 call n [a0] h K=s67 call n a0 h K:=kR s67
theorem d67 {n:Nat} {a0:AV} {h:ah} {K:au} (q:s67 (av E n) n a0 h K=true):av E (n+1) (.func 67) [a0] h K=true:=cO v67 jT (e67.trans q)
theorem e68 {call:aj} {n:Nat} {a0:AV} {h:ah} {K:au}:w68 call n [a0] h K=s68 call n a0 h K:=kR s68
theorem d68 {n:Nat} {a0:AV} {h:ah} {K:au} (q:s68 (av E n) n a0 h K=true):av E (n+1) (.func 68) [a0] h K=true:=cO v68 jT (e68.trans q)
theorem e69 {call:aj} {n:Nat} {a0 a1:AV} {h:ah} {K:au}:w69 call n [a0,a1] h K=s69 call n a0 a1 h K:=kK s69
theorem d69 {n:Nat} {a0 a1:AV} {h:ah} {K:au} (q:s69 (av E n) n a0 a1 h K=true):av E (n+1) (.func 69) [a0,a1] h K=true:=cO v69 jT (e69.trans q)
theorem e72 {call:aj} {n:Nat} {a0:AV} {h:ah} {K:au}:w72 call n [a0] h K=s72 call n a0 h K:=kR s72
theorem d72 {n:Nat} {a0:AV} {h:ah} {K:au} (q:s72 (av E n) n a0 h K=true):av E (n+1) (.func 72) [a0] h K=true:=cO v72 jT (e72.trans q)
theorem e73 {call:aj} {n:Nat} {a0 a1:AV} {h:ah} {K:au}:w73 call n [a0,a1] h K=s73 call n a0 a1 h K:=kK s73
theorem d73 {n:Nat} {a0 a1:AV} {h:ah} {K:au} (q:s73 (av E n) n a0 a1 h K=true):av E (n+1) (.func 73) [a0,a1] h K=true:=cO v73 jT (e73.trans q)
theorem e74 {call:aj} {n:Nat} {a0:AV} {h:ah} {K:au}:w74 call n [a0] h K=s74 call n a0 h K:=kR s74
theorem d74 {n:Nat} {a0:AV} {h:ah} {K:au} (q:s74 (av E n) n a0 h K=true):av E (n+1) (.func 74) [a0] h K=true:=cO v74 jT (e74.trans q)
theorem e75 {call:aj} {n:Nat} {a0:AV} {h:ah} {K:au}:w75 call n [a0] h K=s75 call n a0 h K:=kR s75
theorem d75 {n:Nat} {a0:AV} {h:ah} {K:au} (q:s75 (av E n) n a0 h K=true):av E (n+1) (.func 75) [a0] h K=true:=cO v75 jT (e75.trans q)
theorem e76 {call:aj} {n:Nat} {a0:AV} {h:ah} {K:au}:w76 call n [a0] h K=s76 call n a0 h K:=kR s76
theorem d76 {n:Nat} {a0:AV} {h:ah} {K:au} (q:s76 (av E n) n a0 h K=true):av E (n+1) (.func 76) [a0] h K=true:=cO v76 jT (e76.trans q)
theorem e77 {call:aj} {n:Nat} {a0:AV} {h:ah} {K:au}:w77 call n [a0] h K=s77 call n a0 h K:=kR s77
theorem d77 {n:Nat} {a0:AV} {h:ah} {K:au} (q:s77 (av E n) n a0 h K=true):av E (n+1) (.func 77) [a0] h K=true:=cO v77 jT (e77.trans q)
theorem e78 {call:aj} {n:Nat} {a0 a1:AV} {h:ah} {K:au}:w78 call n [a0,a1] h K=s78 call n a0 a1 h K:=kK s78
theorem d78 {n:Nat} {a0 a1:AV} {h:ah} {K:au} (q:s78 (av E n) n a0 a1 h K=true):av E (n+1) (.func 78) [a0,a1] h K=true:=cO v78 jT (e78.trans q)
theorem e79 {call:aj} {n:Nat} {a0 a1:AV} {h:ah} {K:au}:w79 call n [a0,a1] h K=s79 call n a0 a1 h K:=kK s79
theorem d79 {n:Nat} {a0 a1:AV} {h:ah} {K:au} (q:s79 (av E n) n a0 a1 h K=true):av E (n+1) (.func 79) [a0,a1] h K=true:=cO v79 jT (e79.trans q)
theorem e80 {call:aj} {n:Nat} {a0 a1:AV} {h:ah} {K:au}:w80 call n [a0,a1] h K=s80 call n a0 a1 h K:=kK s80
theorem d80 {n:Nat} {a0 a1:AV} {h:ah} {K:au} (q:s80 (av E n) n a0 a1 h K=true):av E (n+1) (.func 80) [a0,a1] h K=true:=cO v80 jT (e80.trans q)
theorem e81 {call:aj} {n:Nat} {a0:AV} {h:ah} {K:au}:w81 call n [a0] h K=s81 call n a0 h K:=kR s81
theorem d81 {n:Nat} {a0:AV} {h:ah} {K:au} (q:s81 (av E n) n a0 h K=true):av E (n+1) (.func 81) [a0] h K=true:=cO v81 jT (e81.trans q)
theorem e82 {call:aj} {n:Nat} {a0:AV} {h:ah} {K:au}:w82 call n [a0] h K=s82 call n a0 h K:=kR s82
theorem d82 {n:Nat} {a0:AV} {h:ah} {K:au} (q:s82 (av E n) n a0 h K=true):av E (n+1) (.func 82) [a0] h K=true:=cO v82 jT (e82.trans q)
theorem e83 {call:aj} {n:Nat} {a0 a1:AV} {h:ah} {K:au}:w83 call n [a0,a1] h K=s83 call n a0 a1 h K:=kK s83
theorem d83 {n:Nat} {a0 a1:AV} {h:ah} {K:au} (q:s83 (av E n) n a0 a1 h K=true):av E (n+1) (.func 83) [a0,a1] h K=true:=cO v83 jT (e83.trans q)
theorem e84 {call:aj} {n:Nat} {a0 a1:AV} {h:ah} {K:au}:w84 call n [a0,a1] h K=s84 call n a0 a1 h K:=kK s84
theorem d84 {n:Nat} {a0 a1:AV} {h:ah} {K:au} (q:s84 (av E n) n a0 a1 h K=true):av E (n+1) (.func 84) [a0,a1] h K=true:=cO v84 jT (e84.trans q)
theorem e90 {call:aj} {n:Nat} {a0 a1:AV} {h:ah} {K:au}:w90 call n [a0,a1] h K=s90 call n a0 a1 h K:=kK s90
theorem d90 {n:Nat} {a0 a1:AV} {h:ah} {K:au} (q:s90 (av E n) n a0 a1 h K=true):av E (n+1) (.func 90) [a0,a1] h K=true:=cO v90 jT (e90.trans q)
theorem e91 {call:aj} {n:Nat} {a0 a1:AV} {h:ah} {K:au}:w91 call n [a0,a1] h K=s91 call n a0 a1 h K:=kK s91
theorem d91 {n:Nat} {a0 a1:AV} {h:ah} {K:au} (q:s91 (av E n) n a0 a1 h K=true):av E (n+1) (.func 91) [a0,a1] h K=true:=cO v91 jT (e91.trans q)
theorem e92 {call:aj} {n:Nat} {a0:AV} {h:ah} {K:au}:w92 call n [a0] h K=s92 call n a0 h K:=kR s92
theorem d92 {n:Nat} {a0:AV} {h:ah} {K:au} (q:s92 (av E n) n a0 h K=true):av E (n+1) (.func 92) [a0] h K=true:=cO v92 jT (e92.trans q)
theorem e93 {call:aj} {n:Nat} {a0 a1 a2:AV} {h:ah} {K:au}:w93 call n [a0,a1,a2] h K=s93 call n a0 a1 a2 h K:=Zc s93
theorem d93 {n:Nat} {a0 a1 a2:AV} {h:ah} {K:au} (q:s93 (av E n) n a0 a1 a2 h K=true):av E (n+1) (.func 93) [a0,a1,a2] h K=true:=cO v93 jT (e93.trans q)
theorem e95 {call:aj} {n:Nat} {a0:AV} {h:ah} {K:au}:w95 call n [a0] h K=s95 call n a0 h K:=kR s95
theorem d95 {n:Nat} {a0:AV} {h:ah} {K:au} (q:s95 (av E n) n a0 h K=true):av E (n+1) (.func 95) [a0] h K=true:=cO v95 jT (e95.trans q)
theorem e96 {call:aj} {n:Nat} {a0 a1:AV} {h:ah} {K:au}:w96 call n [a0,a1] h K=s96 call n a0 a1 h K:=kK s96
theorem d96 {n:Nat} {a0 a1:AV} {h:ah} {K:au} (q:s96 (av E n) n a0 a1 h K=true):av E (n+1) (.func 96) [a0,a1] h K=true:=cO v96 jT (e96.trans q)
theorem aiC {call:aj} {n:Nat} {a0:AV} {h:ah} {K:au}:ad4 call n [a0] h K=YA call n a0 h K:=kR YA
theorem ajp {n:Nat} {a0:AV} {h:ah} {K:au} (q:YA (av E n) n a0 h K=true):av E (n+1) (.func 102) [a0] h K=true:=cO Wq jT (aiC.trans q)
theorem ajV {call:aj} {n:Nat} {a0:AV} {h:ah} {K:au}:aeW call n [a0] h K=ZM call n a0 h K:=kR ZM
theorem ah0 {n:Nat} {a0:AV} {h:ah} {K:au} (q:ZM (av E n) n a0 h K=true):av E (n+1) (.func 105) [a0] h K=true:=cO v105 jT (ajV.trans q)
theorem ai4 {call:aj} {n:Nat} {a0:AV} {h:ah} {K:au}:ael call n [a0] h K=Z7 call n a0 h K:=kR Z7
theorem aiu {n:Nat} {a0:AV} {h:ah} {K:au} (q:Z7 (av E n) n a0 h K=true):av E (n+1) (.func 107) [a0] h K=true:=cO v107 jT (ai4.trans q)
theorem e108 {call:aj} {n:Nat} {a0 a1:AV} {h:ah} {K:au}:ae7 call n [a0,a1] h K=XV call n a0 a1 h K:=kK XV
theorem aic {n:Nat} {a0 a1:AV} {h:ah} {K:au} (q:XV (av E n) n a0 a1 h K=true):av E (n+1) (.func 108) [a0,a1] h K=true:=cO S9 jT (e108.trans q)
theorem abn {call:aj} {n:Nat} {B6:F2} {m:Nat} {x0 x3 x5 x7 x10 x11:AV} {h:ah} {K:au}:OI call n B6 (m+1) x0 x3 x5 x7 x10 x11 h K=Un call n B6 (fun x0 x3 x5 x7 x10 x11 h=>OI call n B6 m x0 x3 x5 x7 x10 x11 h K) x0 x3 x5 x7 x10 x11 h K:=rfl
theorem adL {call:aj} {n:Nat} {m:Nat} {x0 x3:AV} {h:ah} {K:au}:WI call n (m+1) x0 x3 h K=abt call n (fun x0 x3 h=>WI call n m x0 x3 h K) x0 x3 h K:=rfl
theorem abM {call:aj} {n:Nat} {m:Nat} {x2 x3 x9:AV} {h:ah} {K:au}:Ou call n (m+1) x2 x3 x9 h K=TH call n (fun x2 x3 x9 h=>Ou call n m x2 x3 x9 h K) x2 x3 x9 h K:=rfl
theorem aaI {call:aj} {n:Nat} {m:Nat} {x2 x3 x6:AV} {h:ah} {K:au}:O9 call n (m+1) x2 x3 x6 h K=Vq call n (fun x2 x3 x6 h=>O9 call n m x2 x3 x6 h K) x2 x3 x6 h K:=rfl
theorem aay {call:aj} {n:Nat} {m:Nat} {x2 x3 x5:AV} {h:ah} {K:au}:Oi call n (m+1) x2 x3 x5 h K=Uz call n (fun x2 x3 x5 h=>Oi call n m x2 x3 x5 h K) x2 x3 x5 h K:=rfl
theorem abS {call:aj} {n:Nat} {m:Nat} {x0 x2 x3:AV} {h:ah} {K:au}:OM call n (m+1) x0 x2 x3 h K=UN call n (fun x0 x2 x3 h=>OM call n m x0 x2 x3 h K) x0 x2 x3 h K:=rfl
theorem Yz {call:aj} {n:Nat} {m:Nat} {x0 x1 x5:AV} {h:ah} {K:au}:Hl call n (m+1) x0 x1 x5 h K=LM call n (fun x0 x1 x5 h=>Hl call n m x0 x1 x5 h K) x0 x1 x5 h K:=rfl
theorem Yc {call:aj} {n:Nat} {m:Nat} {x0 x1 x5:AV} {h:ah} {K:au}:IL call n (m+1) x0 x1 x5 h K=LY call n (fun x0 x1 x5 h=>IL call n m x0 x1 x5 h K) x0 x1 x5 h K:=rfl
theorem XQ {call:aj} {n:Nat} {B14:F3} {m:Nat} {x0 x1 x5 x6 x7 x8:AV} {h:ah} {K:au}:Hq call n B14 (m+1) x0 x1 x5 x6 x7 x8 h K=M8 call n B14 (fun x0 x1 x5 x6 x7 x8 h=>Hq call n B14 m x0 x1 x5 x6 x7 x8 h K) x0 x1 x5 x6 x7 x8 h K:=rfl
theorem Zq {call:aj} {n:Nat} {m:Nat} {x0 x1 x5:AV} {h:ah} {K:au}:GR call n (m+1) x0 x1 x5 h K=L8 call n (fun x0 x1 x5 h=>GR call n m x0 x1 x5 h K) x0 x1 x5 h K:=rfl
theorem Yq {call:aj} {n:Nat} {m:Nat} {x0 x1 x5:AV} {h:ah} {K:au}:Hz call n (m+1) x0 x1 x5 h K=Lr call n (fun x0 x1 x5 h=>Hz call n m x0 x1 x5 h K) x0 x1 x5 h K:=rfl
theorem Yy {call:aj} {n:Nat} {m:Nat} {x0 x2 x3 x4:AV} {h:ah} {K:au}:Dt call n (m+1) x0 x2 x3 x4 h K=MS call n (fun x0 x2 x3 x4 h=>Dt call n m x0 x2 x3 x4 h K) x0 x2 x3 x4 h K:=rfl
theorem X8 {call:aj} {n:Nat} {m:Nat} {x0 x2 x3:AV} {h:ah} {K:au}:JF call n (m+1) x0 x2 x3 h K=Ng call n (fun x0 x2 x3 h=>JF call n m x0 x2 x3 h K) x0 x2 x3 h K:=rfl
theorem abA {call:aj} {n:Nat} {m:Nat} {x0 x2 x3:AV} {h:ah} {K:au}:P9 call n (m+1) x0 x2 x3 h K=U9 call n (fun x0 x2 x3 h=>P9 call n m x0 x2 x3 h K) x0 x2 x3 h K:=rfl
theorem TJ {call:aj} {n:Nat} {m:Nat} {x0 x6 x7 x8:AV} {h:ah} {K:au}:Kq call n (m+1) x0 x6 x7 x8 h K=Pk call n (fun x0 x6 x7 x8 h=>Kq call n m x0 x6 x7 x8 h K) x0 x6 x7 x8 h K:=rfl
theorem YL {call:aj} {n:Nat} {m:Nat} {x2 x3 x6:AV} {h:ah} {K:au}:Jj call n (m+1) x2 x3 x6 h K=Lf call n (fun x2 x3 x6 h=>Jj call n m x2 x3 x6 h K) x2 x3 x6 h K:=rfl
theorem Yl {call:aj} {n:Nat} {m:Nat} {x2 x3 x5:AV} {h:ah} {K:au}:Gs call n (m+1) x2 x3 x5 h K=MZ call n (fun x2 x3 x5 h=>Gs call n m x2 x3 x5 h K) x2 x3 x5 h K:=rfl
theorem Pz {call:aj} {n:Nat} {B5:F3} {m:Nat} {x0 x1 x5 x8 x9 x10:AV} {h:ah} {K:au}:Jq call n B5 (m+1) x0 x1 x5 x8 x9 x10 h K=Iw call n B5 (fun x0 x1 x5 x8 x9 x10 h=>Jq call n B5 m x0 x1 x5 x8 x9 x10 h K) x0 x1 x5 x8 x9 x10 h K:=rfl
theorem abH {call:aj} {n:Nat} {m:Nat} {x0 x1 x5:AV} {h:ah} {K:au}:IW call n (m+1) x0 x1 x5 h K=Tz call n (fun x0 x1 x5 h=>IW call n m x0 x1 x5 h K) x0 x1 x5 h K:=rfl
theorem abE {call:aj} {n:Nat} {m:Nat} {x0 x1 x2 x6:AV} {h:ah} {K:au}:JZ call n (m+1) x0 x1 x2 x6 h K=U2 call n (fun x0 x1 x2 x6 h=>JZ call n m x0 x1 x2 x6 h K) x0 x1 x2 x6 h K:=rfl
theorem ZW {call:aj} {n:Nat} {m:Nat} {x0 x1 x5:AV} {h:ah} {K:au}:Hw call n (m+1) x0 x1 x5 h K=Mk call n (fun x0 x1 x5 h=>Hw call n m x0 x1 x5 h K) x0 x1 x5 h K:=rfl
theorem X9 {call:aj} {n:Nat} {m:Nat} {x0 x1 x5:AV} {h:ah} {K:au}:G8 call n (m+1) x0 x1 x5 h K=Mj call n (fun x0 x1 x5 h=>G8 call n m x0 x1 x5 h K) x0 x1 x5 h K:=rfl
theorem Yk {call:aj} {n:Nat} {m:Nat} {x0 x1 x5:AV} {h:ah} {K:au}:Jd call n (m+1) x0 x1 x5 h K=MI call n (fun x0 x1 x5 h=>Jd call n m x0 x1 x5 h K) x0 x1 x5 h K:=rfl
theorem PX {call:aj} {n:Nat} {m:Nat} {x0 x2 x3 x4:AV} {h:ah} {K:au}:Af call n (m+1) x0 x2 x3 x4 h K=IJ call n (fun x0 x2 x3 x4 h=>Af call n m x0 x2 x3 x4 h K) x0 x2 x3 x4 h K:=rfl
theorem Zk {call:aj} {n:Nat} {m:Nat} {x0 x1 x4 x5:AV} {h:ah} {K:au}:Eh call n (m+1) x0 x1 x4 x5 h K=Lu call n (fun x0 x1 x4 x5 h=>Eh call n m x0 x1 x4 x5 h K) x0 x1 x4 x5 h K:=rfl
theorem TQ {call:aj} {n:Nat} {m:Nat} {x0 x6 x7 x12 x13 x14:AV} {h:ah} {K:au}:O7 call n (m+1) x0 x6 x7 x12 x13 x14 h K=Qd call n (fun x0 x6 x7 x12 x13 x14 h=>O7 call n m x0 x6 x7 x12 x13 x14 h K) x0 x6 x7 x12 x13 x14 h K:=rfl
theorem YF {call:aj} {n:Nat} {m:Nat} {x0 x2 x3:AV} {h:ah} {K:au}:DX call n (m+1) x0 x2 x3 h K=Lj call n (fun x0 x2 x3 h=>DX call n m x0 x2 x3 h K) x0 x2 x3 h K:=rfl
end Go.Proofs.YtibillhjmfbneaaGreatDoor
namespace Go.Ab
theorem Wm {P:Program} {B:Base} {φ:dB} {h:ah} {w:World} (H:bK P B φ h w):h.Ok:=fun id hid=>H.gone id hid
theorem V9.mono:aaR V9:=fun _ _ _ _ _ h=>h
theorem RSl.view {α:Type} {n:Nat} {R:Rd α} {h:ah} {a:List AV} {l:List α} (H:RSl n R h a l):∃v es,a=[v]∧View h n v es∧tF (R h) es l:=by
 rcases H with⟨rfl,h1 |h1⟩|⟨id,cap,r,h1,h2,h3,h4,h5,h6,h7,h8,h9⟩
 ·exact⟨.nilSlc,[],h1,View.nil _ _, .nil⟩
 ·exact⟨.emp,[],h1, .inl ⟨rfl, .inr rfl⟩, .nil⟩
 ·have hl:=h9.length
  refine⟨_,r.es.take l.length,h1, .inr ⟨id,0,0,cap,true,r,by rw[hl],h2,by omega,h6, ?_,by rw[hl];exact h7⟩,h9⟩
  rw[hl,List.drop_zero]
theorem abQ {v:Value} (h:v.cells.toList=[v]):∀(φ:dB) (avs:List AV),bQ φ avs v.cells.toList→avs.length=1→aX φ (avs.headD .nilSlc) v:=by
 intro φ avs hr hl
 rw[h] at hr
 cases hr with
 |cons h t=>cases t;exact h
theorem Nn {H:Type} {enc:TypeId×Value→H} {P:Program} {E:Env} (hmix:P.follows .mixedOrders=true) (hE:Kr P E) {f fuel:Nat} {fn:dG} (hf:E.code f=some fn) {α:Type} {t:TypeId} {n:Nat} {sz:α→Nat} {R:Rd α} {W:World} {h0:ah} (hH:∃φ,bK P (.of W.heap.size) φ h0 W)
 (I:In enc P W true t n sz R) {v:Value} {d:DataW H} {ps:List MemPlace} (ht:DataW.Trod enc P W 0 (fun _=>true) true t v d ps) (mk:List AV→AV) (hv:∀(φ:dB) (avs:List AV),bQ φ avs v.cells.toList→avs.length=n→aX φ (mk avs) v)
 (hrun:∀h avs x,Ext h0 h→h.Ok→R h avs x→sz x≤bulk d→av E fuel (.func f) [mk avs] h (fun v _=>isTrue v)=true):
 Calls P f #[v] W fun e W'=>e= .returned (.bool true)∧M5 W W'∧∀sp':Nat→Bool,(∀p∈ps,sp' p.block=true)→DataW.Trod enc P W' 0 sp' true t v d ps:=by
 obtain⟨fu,ht⟩:=ht
 obtain⟨φ0,H0⟩:=hH
 obtain⟨b1,φ,h,avs,x,a1,a2,a3,a4,a5,a6,a7,a8⟩:=I fu _ d ps ht _ _ H0
 have hr:=hrun h avs x a2 (Wm a3) a7 a8
 have h0:=nN hmix hE fuel (.func f) [mk avs] h _ hr (.of W.heap.size) φ W [v] a3 (.cons (hv φ avs a4 a5) .nil)
 simp only at h0
 have h0:=IV.lands h0
 rw[Za hE hf] at h0
 have h1:CallsIn (FW none) 0 P f #[v] W _:=h0 0
 refine(callsIn_wide.1 h1).mono ?_
 rintro e W' (⟨u,h',cv,φ',rfl,hK,hu,_,_,hg⟩|⟨u,h',cv,φ',rfl,hK,hu,_,_,hg⟩)
 rotate_left
 ·cases hK
 refine⟨?_,grown_of hg,fun sp' hsp=>⟨fu,b1 W' sp' (fun k hk=>hg.below k hk) hsp⟩⟩
 cases hu<;>first |(cases hK;done)|skip
 rename_i b
 cases b with
 |false=>cases hK
 |true=>rfl
inductive Val where
 |mk (kind:Int) (b:Bool) (n:Int) (t:List Nat) (l:List Val):Val
section
variable {H:Type} {enc:TypeId×Value→H} {P:Program} {W:World} {held:Bool}
end
end Go.Ab
namespace Go.Proofs.YtibillhjmfbneaaGreatDoor
open Go.Ab
abbrev Str:=List Nat
structure Lx where
 kind:Nat
 text:Str
 beg:Nat
 fin:Nat
def jP (x:Lx):List AV:=[.int .i64 (x.kind:Int), .str x.text, .int .i64 (x.beg:Int), .int .i64 (x.fin:Int)]
def keys:List Str:=[[99,108,97,115,115],[101,120,116,101,110,100,115],[114,117,108,101],[113,117,101,114,121],[119,104,101,110],[116,104,101,110],[101,110,100],[115,97,108,105,101,110,99,101],[103,114,111,117,112],[102,108,111,119],[110,111,108,111,111,112],[108,111,99,107],[110,111,116],[101,120,105,115,116,115],[102,111,114,97,108,108],[111,114],[102,114,111,109],[101,118,97,108],[97,99,99],[111,118,101,114],[105,110,115,101,114,116],[108,111,103,105,99,97,108],[117,112,100,97,116,101],[100,101,108,101,116,101],[102,111,99,117,115],[112,114,105,110,116],[104,97,108,116],[116,114,117,101],[102,97,108,115,101],[110,117,108,108],[115,105,122,101],[104,97,115],[105,110,116],[98,111,111,108],[116,101,120,116],[108,105,115,116],[97,110,121],[114,101,102]]
def afj (s:Str):Bool:=keys.any fun t=>decide (s=t)
inductive Mx (α:Type) where
 |ok (v:α) (i:Nat) (o:Int)
 |fail (i:Nat)
 |out
abbrev PM (α:Type):=Nat→Int→Mx α
def ret {α:Type} (v:α):PM α:=fun i o=> .ok v i o
def bnd {α β:Type} (m:PM α) (g:α→PM β):PM β:=fun i o=>match m i o with
 | .ok v i o=>g v i o
 | .fail i=> .fail i
 | .out=> .out
def Ug {α:Type} (x:Nat):PM α:=fun _ _=> .fail x
def tC {α:Type}:PM α:=fun _ _=> .out
def uH (b:Bool):PM Unit:=fun i o=>if b=true then .ok () i o else .fail i
inductive Ex where
 |mk (op:Int) (text:Str) (v:Val) (args:List Ex):Ex
structure Bt where
 e:Ex
 deep:Nat
def SE:Val:= .mk 0 false 0 [] []
def uJ:Ex:= .mk 0 [] SE []
def iT (op:Int) (t:Str):Ex:= .mk op t SE []
def Ex.add:Ex→List Ex→Ex
 | .mk op t v a,l=> .mk op t v (a++l)
inductive Cd where
 |mk (kind:Int) (var cls:Str) (binds:List (Str×Str)) (tests:List Ex) (conds thn:List Cd) (alts:List (List Cd)) (e:Ex) (fn name:Str) (args:List (Str×Ex)):Cd
structure Ey where
 name:Str
 ty:Int
 cls:Str
structure Cls where
 name:Str
 super:Str
 fields:List Ey
structure Act where
 kind:Int
 cls:Str
 set:List (Str×Ex)
 e:Ex
 text:Str
structure Fy where
 name:Str
 sal:Int
 group:Str
 flow:Str
 noloop:Bool
 lock:Bool
 whn:List Cd
 thn:List Act
structure Nt where
 name:Str
 params:List Str
 whn:List Cd
structure Qp where
 classes:List Cls
 rules:List Fy
 queries:List Nt
section
variable (T:List Lx)
def cZ (i:Nat) (s:Str):Bool:=match T[i]? with
 |none=>false
 |some l=>decide (l.text=s)&&(decide (l.kind=4)||(decide (l.kind=0)&&afj s))
def ou (i:Nat):Bool:=match T[i]? with
 |none=>false
 |some l=>decide (l.kind=0)&& !afj l.text
def eB (i k:Nat):Bool:=match T[i]? with
 |none=>false
 |some l=>decide (l.kind=k)
def txt (i:Nat):Str:=match T[i]? with
 |none=>[]
 |some l=>l.text
def fq (s:Str):PM Bool:=fun i o=>if cZ T i s=true then .ok true (i+1) o else .ok false i o
def dI (s:Str):PM Unit:=bnd (fq T s) uH
def yU:PM Str:=fun i o=> .ok (txt T i) (i+1) o
def fZ:PM Str:=fun i o=>if(ou T i&&decide ((txt T i).length≤64))=true then .ok (txt T i) (i+1) o else .fail i
def og:PM Str:=fun i o=>if(eB T i 1&&decide ((txt T i).length≤64))=true then .ok (txt T i) (i+1) o else .fail i
def jS:PM Str:=fun i o=>if eB T i 3=true then .ok (txt T i) (i+1) o else .fail i
def iR (x:Nat):PM Unit:=fun i o=>if 30<o+1 then .fail x else .ok () i (o+1)
def mV:PM Unit:=fun i o=> .ok () i (o-1)
def eP (s:Str):PM Unit:=fun i o=>bnd (dI T s) (fun _=>iR i) i o
def dD (s:Str):PM Unit:=bnd (dI T s) fun _=>mV
def tQ {σ:Type} (en:Str) (one:σ→PM σ):Nat→Bool→σ→PM σ
 |0,_,_=>tC
 |k+1,first,s=>fun i o=>
  if first=true then(if cZ T i en=true then .ok s i o else bnd (one s) (tQ en one k false) i o)
  else(if cZ T i [44]=true then bnd (one s) (tQ en one k false) (i+1) o else .ok s i o)
def gM {σ:Type} (en:Str) (one:σ→PM σ) (k:Nat) (s:σ):PM σ:=bnd (tQ T en one k true s) fun s=>bnd (dD T en) fun _=>ret s
def jQ (d:Nat):List Bt→Nat
 | []=>d
 |b :: l=>jQ (max d (b.deep+1)) l
def gB (x:Nat) (e:Ex) (args:List Bt):PM Bt:=if 30<jQ 1 args then Ug x else ret ⟨e.add (args.map Bt.e),jQ 1 args⟩
def uz (lv:Nat) (t:Str):Option Int:=
 if lv=0 then(if t=[124,124] then some 9 else none)
 else if lv=1 then(if t=[38,38] then some 8 else none)
 else if lv=2 then(if t=[61,61] then some 10 else if t=[33,61] then some 11 else if t=[60] then some 12 else if t=[60,61] then some 13 else if t=[62] then some 14 else if t=[62,61] then some 15 else none)
 else if lv=3 then(if t=[43] then some 16 else if t=[45] then some 17 else none)
 else if lv=4 then(if t=[42] then some 18 else if t=[47] then some 19 else if t=[37] then some 20 else none)
 else none
def lit (v:Val):Bt:=⟨.mk 1 [] v [],1⟩
mutual
def bD:Nat→Nat→PM Bt
 |0,_=>tC
 |k+1,lv=>if lv=5 then iV k else bnd (bD k (lv+1)) (mQ k lv)
def mQ:Nat→Nat→Bt→PM Bt
 |0,_,_=>tC
 |k+1,lv,e=>fun i o=>match T[i]? with
  |none=> .ok e i o
  |some l=>match uz lv l.text with
   |none=> .ok e i o
   |some op=>if l.kind=4 then bnd (bD k (lv+1)) (fun b=>bnd (gB i (iT op []) [e,b]) fun e'=>if lv=2 then ret e' else mQ k lv e') (i+1) o else .ok e i o
def iV:Nat→PM Bt
 |0=>tC
 |k+1=>fun i o=>
  if cZ T i [45]=true then bnd (iR i) (fun _=>bnd (iV k) fun e=>bnd mV fun _=>gB i (iT 6 []) [e]) (i+1) o
  else if cZ T i [33]=true then bnd (iR i) (fun _=>bnd (iV k) fun e=>bnd mV fun _=>gB i (iT 7 []) [e]) (i+1) o
  else qE k i o
def qE:Nat→PM Bt
 |0=>tC
 |k+1=>bnd (oJ k) (oD k)
def oD:Nat→Bt→PM Bt
 |0,_=>tC
 |k+1,e=>fun i o=>if cZ T i [46]=true then bnd (fZ T) (fun t=>bnd (gB i (iT 4 t) [e]) (oD k)) (i+1) o else .ok e i o
def oJ:Nat→PM Bt
 |0=>tC
 |k+1=>fun i o=>
  if eB T i 2=true then(match pI (txt T i) with
   |some (some n)=> .ok (lit (.mk 2 false n [] [])) (i+1) o
   |_=> .fail i)
  else if eB T i 3=true then .ok (lit (.mk 3 false 0 (txt T i) [])) (i+1) o
  else if cZ T i [116,114,117,101]=true then .ok (lit (.mk 1 true 0 [] [])) (i+1) o
  else if cZ T i [102,97,108,115,101]=true then .ok (lit (.mk 1 false 0 [] [])) (i+1) o
  else if cZ T i [110,117,108,108]=true then .ok (lit SE) (i+1) o
  else if eB T i 1=true then bnd (og T) (fun t=>ret ⟨iT 2 t,1⟩) i o
  else if cZ T i [40]=true then bnd (eP T [40]) (fun _=>bnd (bD k 0) fun e=>bnd (dD T [41]) fun _=>ret e) i o
  else if cZ T i [91]=true then bnd (eP T [91]) (fun _=>bnd (gM T [93] (fun l=>bnd (bD k 0) fun b=>ret (l++[b])) k []) fun l=>gB i (iT 5 []) l) i o
  else if cZ T i [115,105,122,101]=true then bnd (eP T [40]) (fun _=>bnd (bD k 0) fun e=>bnd (dD T [41]) fun _=>gB i (iT 21 []) [e]) (i+1) o
  else if cZ T i [104,97,115]=true then bnd (eP T [40]) (fun _=>bnd (bD k 0) fun a=>bnd (dI T [44]) fun _=>bnd (bD k 0) fun b=>bnd (dD T [41]) fun _=>gB i (iT 22 []) [a,b]) (i+1) o
  else bnd (fZ T) (fun t=>ret ⟨iT 3 t,1⟩) i o
end
end
def Sh {α:Type} (d:Int) (m:PM α):Prop:=∀i o v i' o',m i o= .ok v i' o'→o'=o+d∧i≤i'
section
variable {T:List Lx}
theorem fP {α β:Type} {a b c:Int} {m:PM α} {g:α→PM β} (h1:Sh a m) (h2:∀v,Sh b (g v)) (e:a+b=c):Sh c (bnd m g):=by
 intro i o v i' o' h
 unfold bnd at h
 split at h
 ·rename_i v1 i1 o1 e1
  obtain⟨p1,p2⟩:=h1 _ _ _ _ _ e1
  obtain⟨q1,q2⟩:=h2 _ _ _ _ _ _ h
  exact⟨by omega,by omega⟩
 ·cases h
 ·cases h
theorem zU {α:Type} {v:α}:Sh 0 (ret v):=fun i o v i' o' h=>by cases h;exact⟨by omega,Nat.le_refl _⟩
theorem zQ {α:Type} {d:Int}:Sh d (tC:PM α):=fun i o v i' o' h=>by cases h
theorem aaz {α:Type} {d:Int} {x:Nat}:Sh d (Ug x:PM α):=fun i o v i' o' h=>by cases h
theorem aaC {c:Bool}:Sh 0 (uH c):=fun i o v i' o' h=>by
 unfold uH at h;split at h<;>cases h;exact⟨by omega,Nat.le_refl _⟩
theorem aa3 {w:Str}:Sh 0 (fq T w):=fun i o v i' o' h=>by
 unfold fq at h;split at h<;>cases h
 ·exact⟨by omega,by omega⟩
 ·exact⟨by omega,Nat.le_refl _⟩
theorem Nk {w:Str}:Sh 0 (dI T w):=fP aa3 (fun _=>aaC) rfl
theorem UE:Sh 0 (fZ T):=fun i o v i' o' h=>by
 unfold fZ at h;split at h<;>cases h;exact⟨by omega,by omega⟩
theorem acX:Sh 0 (og T):=fun i o v i' o' h=>by
 unfold og at h;split at h<;>cases h;exact⟨by omega,by omega⟩
theorem AZ {x:Nat}:Sh 1 (iR x):=fun i o v i' o' h=>by
 unfold iR at h;split at h<;>cases h;exact⟨by omega,Nat.le_refl _⟩
theorem Gn:Sh (-1) mV:=fun i o v i' o' h=>by cases h;exact⟨by omega,Nat.le_refl _⟩
theorem AP {w:Str}:Sh 1 (eP T w):=fun i o v i' o' h=>(fP Nk (fun _=>AZ) rfl:Sh 1 (bnd (dI T w) fun _=>iR i)) i o v i' o' h
theorem xM {w:Str}:Sh (-1) (dD T w):=fP Nk (fun _=>Gn) rfl
theorem u6 {x:Nat} {e:Ex} {l:List Bt}:Sh 0 (gB x e l):=by
 unfold gB;split
 ·exact aaz
 ·exact zU
theorem vF {α:Type} {d:Int} {m:PM α} (h:Sh d m) {i:Nat} {o:Int} {v:α} {i':Nat} {o':Int} (e:m (i+1) o= .ok v i' o'):o'=o+d∧i≤i':=by
 obtain⟨h1,h2⟩:=h _ _ _ _ _ e
 exact⟨h1,by omega⟩
theorem Ow {σ:Type} {w:Str} {one:σ→PM σ} (h:∀s,Sh 0 (one s)):∀(k:Nat) (first:Bool) (s:σ),Sh 0 (tQ T w one k first s)
 |0,_,_=>zQ
 |k+1,first,s=>by
  have ih:=fun s=>Ow (w:=w) h k false s
  have hb:Sh 0 (bnd (one s) (tQ T w one k false)):=fP (h s) ih rfl
  intro i o v i' o' e
  unfold tQ at e
  split at e
  ·split at e
   ·cases e;exact⟨by omega,Nat.le_refl _⟩
   ·exact hb _ _ _ _ _ e
  ·split at e
   ·exact vF hb e
   ·cases e;exact⟨by omega,Nat.le_refl _⟩
theorem aa2 {σ:Type} {w:Str} {one:σ→PM σ} (h:∀s,Sh 0 (one s)) (k:Nat) (s:σ):Sh (-1) (gM T w one k s):=
 fP (Ow h k true s) (fun _=>fP xM (fun _=>zU) rfl) rfl
theorem vX {α:Type} {c:Prop} [Decidable c] {a b:Mx α} {P:Prop} {v:α} {i:Nat} {o:Int} (h:(if c then a else b)= .ok v i o) (ha:a= .ok v i o→P) (hb:b= .ok v i o→P):P:=by
 split at h
 ·exact ha h
 ·exact hb h
structure ShE (T:List Lx) (k:Nat):Prop where
 level:∀lv,Sh 0 (bD T k lv)
 ops:∀lv e,Sh 0 (mQ T k lv e)
 sign:Sh 0 (iV T k)
 post:Sh 0 (qE T k)
 dots:∀e,Sh 0 (oD T k e)
 atom:Sh 0 (oJ T k)
theorem shE:∀k,ShE T k
 |0=>⟨fun _=>by unfold bD;exact zQ,fun _ _=>by unfold mQ;exact zQ,by unfold iV;exact zQ,by unfold qE;exact zQ,fun _=>by unfold oD;exact zQ,by unfold oJ;exact zQ⟩
 |k+1=>by
  have W:=shE k
  refine⟨fun lv=> ?_,fun lv e=> ?_, ?_, ?_,fun e=> ?_, ?_⟩
  ·unfold bD
   split
   ·exact W.sign
   ·exact fP (W.level _) (fun v=>W.ops _ _) rfl
  ·intro i o v i' o' h
   unfold mQ at h
   split at h
   ·cases h;exact⟨by omega,Nat.le_refl _⟩
   ·split at h
    ·cases h;exact⟨by omega,Nat.le_refl _⟩
    ·split at h
     ·refine vF (d:=0) (fP (b:=0) (W.level _) (fun b=>fP (b:=0) u6 (fun e'=> ?_) rfl) rfl) h
      split
      ·exact zU
      ·exact W.ops _ _
     ·cases h;exact⟨by omega,Nat.le_refl _⟩
  ·intro i o v i' o' h
   unfold iV at h
   split at h
   ·exact vF (d:=0) (fP AZ (fun _=>fP W.sign (fun _=>fP Gn (fun _=>u6) rfl) rfl) rfl) h
   ·split at h
    ·exact vF (d:=0) (fP AZ (fun _=>fP W.sign (fun _=>fP Gn (fun _=>u6) rfl) rfl) rfl) h
    ·exact W.post _ _ _ _ _ h
  ·unfold qE
   exact fP W.atom (fun v=>W.dots _) rfl
  ·intro i o v i' o' h
   unfold oD at h
   split at h
   ·exact vF (d:=0) (fP UE (fun _=>fP u6 (fun _=>W.dots _) rfl) rfl) h
   ·cases h;exact⟨by omega,Nat.le_refl _⟩
  ·intro i o v i' o' h
   unfold oJ at h
   refine vX h (fun h=> ?_) fun h=> ?_
   ·split at h<;>cases h;exact⟨by omega,by omega⟩
   refine vX h (fun h=> ?_) fun h=> ?_
   ·cases h;exact⟨by omega,by omega⟩
   refine vX h (fun h=> ?_) fun h=> ?_
   ·cases h;exact⟨by omega,by omega⟩
   refine vX h (fun h=> ?_) fun h=> ?_
   ·cases h;exact⟨by omega,by omega⟩
   refine vX h (fun h=> ?_) fun h=> ?_
   ·cases h;exact⟨by omega,by omega⟩
   refine vX h (fun h=> ?_) fun h=> ?_
   ·exact(fP (c:=0) acX (fun _=>zU) rfl) _ _ _ _ _ h
   refine vX h (fun h=> ?_) fun h=> ?_
   ·exact(fP (c:=0) AP (fun _=>fP (W.level _) (fun _=>fP xM (fun _=>zU) rfl) rfl) rfl) _ _ _ _ _ h
   refine vX h (fun h=> ?_) fun h=> ?_
   ·exact(fP (c:=0) AP (fun _=>fP (aa2 (fun l=>fP (W.level _) (fun _=>zU) rfl) _ _) (fun _=>u6) rfl) rfl) _ _ _ _ _ h
   refine vX h (fun h=> ?_) fun h=> ?_
   ·exact vF (d:=0) (fP AP (fun _=>fP (W.level _) (fun _=>fP xM (fun _=>u6) rfl) rfl) rfl) h
   refine vX h (fun h=> ?_) fun h=> ?_
   ·exact vF (d:=0) (fP AP (fun _=>fP (W.level _) (fun _=>fP Nk (fun _=>fP (W.level _) (fun _=>fP xM (fun _=>u6) rfl) rfl) rfl) rfl) rfl) h
   ·exact(fP (c:=0) UE (fun _=>zU) rfl) _ _ _ _ _ h
end
section
variable (T:List Lx)
def iM (k:Nat):PM Ex:=bnd (bD T k 0) fun b=>ret b.e
def abL:Str:=[110,111,116]
def FN:Str:=[101,120,105,115,116,115]
def FD:Str:=[102,111,114,97,108,108]
def TF:Str:=[101,118,97,108]
def abK:Str:=[97,99,99]
def Ub:Str:=[102,114,111,109]
def Qg:Str:=[111,114]
def qD:Str:=[108,105,115,116]
def YM:Str:=[111,118,101,114]
def qG:Str:=[105,110,115,101,114,116]
def iA:Str:=[108,111,103,105,99,97,108]
def Ce:Str:=[117,112,100,97,116,101]
def Bg:Str:=[100,101,108,101,116,101]
def H6:Str:=[102,111,99,117,115]
def Ja:Str:=[112,114,105,110,116]
def PU:Str:=[104,97,108,116]
def Pn:Str:=[119,104,101,110]
def Aw:Str:=[116,104,101,110]
def yQ:Str:=[101,110,100]
def abj:Str:=[115,97,108,105,101,110,99,101]
def LU:Str:=[103,114,111,117,112]
def Uh:Str:=[102,108,111,119]
def FL:Str:=[110,111,108,111,111,112]
def XG:Str:=[108,111,99,107]
def QJ:Str:=[105,110,116]
def Ir:Str:=[98,111,111,108]
def Gz:Str:=[116,101,120,116]
def Ri:Str:=[97,110,121]
def Zl:Str:=[114,101,102]
def Da:Str:=[99,108,97,115,115]
def YG:Str:=[101,120,116,101,110,100,115]
def Om:Str:=[114,117,108,101]
def Qw:Str:=[113,117,101,114,121]
def cdL (kind:Int) (l:List Cd):Cd:= .mk kind [] [] [] [] l [] [] uJ [] [] []
def rW (k:Nat) (l:List (Str×Ex)):PM (List (Str×Ex)):=fun i o=>
 if(eB T i 1&&cZ T (i+1) [63])=true then bnd (og T) (fun v=>bnd (dI T [63]) fun _=>ret (l++[(v,uJ)])) i o
 else bnd (iM T k) (fun e=>ret (l++[([],e)])) i o
def Y4 (k:Nat):PM Cd:=bnd (fZ T) fun nm=>bnd (eP T [40]) fun _=>bnd (gM T [41] (rW T k) k []) fun l=>ret (.mk 9 [] [] [] [] [] [] [] uJ [] nm l)
def o7 (k:Nat) (s:List (Str×Str)×List Ex):PM (List (Str×Str)×List Ex):=fun i o=>
 if(eB T i 1&&cZ T (i+1) [58])=true then bnd (og T) (fun v=>bnd (dI T [58]) fun _=>bnd (fZ T) fun f=>ret (s.1++[(v,f)],s.2)) i o
 else bnd (iM T k) (fun e=>ret (s.1,s.2++[e])) i o
def mE (k:Nat) (v:Str):PM Cd:=bnd (fZ T) fun c=>bnd (eP T [40]) fun _=>bnd (gM T [41] (o7 T k) k ([],[])) fun s=>ret (.mk 1 v c s.1 s.2 [] [] [] uJ [] [] [])
def Q5 (k:Nat):PM Cd:=fun i o=>
 if eB T i 1=true then bnd (og T) (fun v=>bnd (dI T [58]) fun _=>mE T k v) i o else mE T k [] i o
mutual
def jq:Nat→List Str→List Cd→PM (List Cd)
 |0,_,_=>tC
 |k+1,ends,acc=>fun i o=>if(ends.any fun w=>cZ T i w)=true then .ok acc i o else bnd (sN k) (fun c=>jq k ends (acc++[c])) i o
def iP:Nat→List Str→PM (List Cd)
 |0,_=>tC
 |k+1,ends=>bnd (sN k) fun c=>bnd (jq k ends []) fun l=>ret (c :: l)
def nD:Nat→PM (List Cd)
 |0=>tC
 |k+1=>bnd (eP T [40]) fun _=>bnd (iP k [[41]]) fun l=>bnd (dD T [41]) fun _=>ret l
def sU:Nat→List (List Cd)→PM (List (List Cd))
 |0,_=>tC
 |k+1,acc=>bnd (iP k [Qg,[41]]) fun l=>bnd (fq T Qg) fun b=>if b=true then sU k (acc++[l]) else ret (acc++[l])
def orM:Nat→PM Cd
 |0=>tC
 |k+1=>bnd (eP T [40]) fun _=>bnd (iP k [Qg,[41]]) fun l=>bnd (dI T Qg) fun _=>bnd (sU k [l]) fun a=>bnd (dD T [41]) fun _=>ret (.mk 5 [] [] [] [] [] [] a uJ [] [] [])
def JN:Nat→PM Cd
 |0=>tC
 |k+1=>bnd (eP T [40]) fun _=>bnd (og T) fun v=>bnd (dI T [58]) fun _=>bnd (fq T qD) fun b=>bnd (if b=true then ret qD else fZ T) fun fn=>
   bnd (eP T [40]) fun _=>bnd (iM T k) fun e=>bnd (dD T [41]) fun _=>bnd (dI T YM) fun _=>bnd (iP k [[41]]) fun l=>bnd (dD T [41]) fun _=>ret (.mk 7 v [] [] [] l [] [] e fn [] [])
def sN:Nat→PM Cd
 |0=>tC
 |k+1=>fun i o=>
  if cZ T i abL=true then bnd (nD k) (fun l=>ret (cdL 2 l)) (i+1) o
  else if cZ T i FN=true then bnd (nD k) (fun l=>ret (cdL 3 l)) (i+1) o
  else if cZ T i FD=true then bnd (eP T [40]) (fun _=>bnd (iP k [[59]]) fun l=>bnd (dI T [59]) fun _=>bnd (iP k [[41]]) fun m=>bnd (dD T [41]) fun _=>ret (.mk 4 [] [] [] [] l m [] uJ [] [] [])) (i+1) o
  else if cZ T i [40]=true then orM k i o
  else if cZ T i TF=true then bnd (eP T [40]) (fun _=>bnd (iM T k) fun e=>bnd (dD T [41]) fun _=>ret (.mk 8 [] [] [] [] [] [] [] e [] [] [])) (i+1) o
  else if cZ T i abK=true then JN k (i+1) o
  else if cZ T i [63]=true then Y4 T k (i+1) o
  else if(eB T i 1&& !cZ T (i+1) [58])=true then bnd (og T) (fun v=>bnd (dI T Ub) fun _=>bnd (iM T k) fun e=>ret (.mk 6 v [] [] [] [] [] [] e [] [] [])) i o
  else Q5 T k i o
end
def iU (k:Nat) (l:List (Str×Ex)):PM (List (Str×Ex)):=bnd (fZ T) fun f=>bnd (dI T [61]) fun _=>bnd (iM T k) fun e=>ret (l++[(f,e)])
def qz (k:Nat) (least:Bool):PM (List (Str×Ex)):=bnd (eP T [123]) fun _ i o=>
 if least=true then bnd (uH (!cZ T i [125])) (fun _=>gM T [125] (iU T k) k []) i o else gM T [125] (iU T k) k [] i o
def mP (a:Act):PM Act:=bnd (dI T [59]) fun _=>ret a
def Fw (k:Nat):PM Act:=fun i o=>
 if cZ T i qG=true∨cZ T i iA=true then bnd (yU T) (fun t=>bnd (fZ T) fun c=>bnd (qz T k false) fun l=>mP T ⟨if t=iA then 2 else 1,c,l,uJ,[]⟩) i o
 else if cZ T i Ce=true then bnd (iM T k) (fun e=>bnd (qz T k true) fun l=>mP T ⟨3,[],l,e,[]⟩) (i+1) o
 else if cZ T i Bg=true then bnd (iM T k) (fun e=>mP T ⟨4,[],[],e,[]⟩) (i+1) o
 else if cZ T i H6=true then bnd (jS T) (fun t=>mP T ⟨5,[],[],uJ,t⟩) (i+1) o
 else if cZ T i Ja=true then bnd (iM T k) (fun e=>mP T ⟨6,[],[],e,[]⟩) (i+1) o
 else bnd (dI T PU) (fun _=>mP T ⟨7,[],[],uJ,[]⟩) i o
def Oh:PM Int:=bnd (fq T [45]) fun least i o=>
 if eB T i 2=true then(match pI (txt T i) with
  |some (some n)=>if n≤2147483648 then .ok (if least=true then -n else n) (i+1) o else .fail i
  |_=> .fail i) else .fail i
def lM:Nat→Fy→PM Fy
 |0,_=>tC
 |k+1,r=>fun i o=>
  if cZ T i Pn=true then .ok r (i+1) o
  else if cZ T i abj=true then bnd (Oh T) (fun n=>lM k {r with sal:=n}) (i+1) o
  else if cZ T i LU=true then bnd (jS T) (fun t=>lM k {r with group:=t}) (i+1) o
  else if cZ T i Uh=true then bnd (jS T) (fun t=>lM k {r with flow:=t}) (i+1) o
  else if cZ T i FL=true then lM k {r with noloop:=true} (i+1) o
  else bnd (dI T XG) (fun _=>lM k {r with lock:=true}) i o
def rP (k0:Nat):Nat→List Act→PM (List Act)
 |0,_=>tC
 |k+1,acc=>fun i o=>if cZ T i yQ=true then .ok acc (i+1) o else bnd (Fw T k0) (fun a=>rP k0 k (acc++[a])) i o
def E5 (k:Nat):PM Fy:=bnd (jS T) fun nm=>bnd (lM T k ⟨nm,0,[],[],false,false,[],[]⟩) fun r=>bnd (jq T k [Aw] []) fun w=>bnd (dI T Aw) fun _=>bnd (rP T k k []) fun t=>ret {r with whn:=w,thn:=t}
def rD (l:List Str):PM (List Str):=bnd (og T) fun v=>ret (l++[v])
def vM (k:Nat):PM Nt:=bnd (fZ T) fun nm=>bnd (eP T [40]) fun _=>bnd (gM T [41] (rD T) k []) fun ps=>bnd (jq T k [yQ] []) fun w=>bnd (dI T yQ) fun _=>ret ⟨nm,ps,w⟩
def vB:PM Ey:=bnd (fZ T) fun nm=>bnd (dI T [58]) fun _ i o=>
 if cZ T i QJ=true then .ok ⟨nm,2,[]⟩ (i+1) o
 else if cZ T i Ir=true then .ok ⟨nm,1,[]⟩ (i+1) o
 else if cZ T i Gz=true then .ok ⟨nm,3,[]⟩ (i+1) o
 else if cZ T i qD=true then .ok ⟨nm,4,[]⟩ (i+1) o
 else if cZ T i Ri=true then .ok ⟨nm,0,[]⟩ (i+1) o
 else bnd (dI T Zl) (fun _=>bnd (fZ T) fun c=>ret ⟨nm,5,c⟩) i o
def iO:Nat→Bool→List Ey→PM (List Ey)
 |0,_,_=>tC
 |k+1,first,acc=>fun i o=>
  if first=true then(if cZ T i [125]=true then .ok acc i o else bnd (vB T) (fun f=>iO k false (acc++[f])) i o)
  else if cZ T i [44]=true then bnd (vB T) (fun f=>iO k false (acc++[f])) (i+1) o
  else if ou T i=true then bnd (vB T) (fun f=>iO k false (acc++[f])) i o
  else .ok acc i o
def MO:PM Str:=bnd (fq T YG) fun b=>if b=true then fZ T else ret []
def xu (k:Nat):PM Cls:=bnd (fZ T) fun nm=>bnd (MO T) fun su=>bnd (eP T [123]) fun _=>bnd (iO T k true []) fun fs=>bnd (dD T [125]) fun _=>ret ⟨nm,su,fs⟩
def lH (k0:Nat):Nat→Qp→PM Qp
 |0,_=>tC
 |k+1,b=>fun i o=>
  if i<T.length then
   (if cZ T i Da=true then bnd (xu T k0) (fun c=>lH k0 k {b with classes:=b.classes++[c]}) (i+1) o
   else if cZ T i Om=true then bnd (E5 T k0) (fun r=>lH k0 k {b with rules:=b.rules++[r]}) (i+1) o
   else bnd (dI T Qw) (fun _=>bnd (vM T k0) fun q=>lH k0 k {b with queries:=b.queries++[q]}) i o)
  else .ok b i o
end
def Post {α:Type} (r:Mx α) (k:α→Nat→Int→Prop) (f:Nat→Prop):Prop:=match r with
 | .ok v i o=>k v i o
 | .fail i=>f i
 | .out=>False
theorem aC {α β:Type} {m:PM α} {g:α→PM β} {i:Nat} {o:Int} {k:β→Nat→Int→Prop} {f:Nat→Prop}:Post (bnd m g i o) k f=Post (m i o) (fun v i o=>Post (g v i o) k f) f:=by
 unfold bnd Post
 cases m i o<;>rfl
theorem aZ {α:Type} {v:α} {i:Nat} {o:Int} {k:α→Nat→Int→Prop} {f:Nat→Prop} (H:k v i o):Post (.ok v i o) k f:=H
theorem Post.mono {α:Type} {r:Mx α} {k k':α→Nat→Int→Prop} {f f':Nat→Prop} (H:Post r k f) (hk:∀v i o,k v i o→k' v i o) (hf:∀i,f i→f' i):Post r k' f':=by
 unfold Post at H ⊢
 cases r with
 |ok v i o=>exact hk _ _ _ H
 |fail i=>exact hf _ H
 |out=>exact H
theorem Post.eqn {α:Type} {r:Mx α} {k:α→Nat→Int→Prop} {f:Nat→Prop} (H:Post r k f):Post r (fun v i o=>r= .ok v i o∧k v i o) f:=by
 unfold Post at H ⊢
 cases r with
 |ok v i o=>exact⟨rfl,H⟩
 |fail i=>exact H
 |out=>exact H
def FB (T:List Lx) (en:Nat) (i:Nat):Nat:=match T[i]? with
 |some l=>l.beg
 |none=>en
def flt (T:List Lx) (en:Nat) (i:Nat):AV:= .pan (.ifc 93 (.agg [.int .i64 (FB T en i:Int)]))
def abk (tv:AV) (T:List Lx) (h:ah):Prop:=View h 4 tv (T.map jP)
def MP (mp:Nat) (h:ah):Prop:=∃f:Nat→AV,(∀lv:Nat,lv<5→rY h (.leaf .int) false .nilMap (.map mp) (.int .i64 (lv:Int))=some (f lv))∧
 ∀(lv:Nat) (t:Str),lv<5→rY h (.leaf .str) true (.int .i64 0) (f lv) (.str t)=some (.tup [.int .i64 ((uz lv t).getD 0), .bool (uz lv t).isSome])
def GvF (h:ah):Prop:=h.get 0=some (.gvar 1)
class BaseF (tv:AV) (mp:Nat) (T:List Lx) (F:List (ah→Prop)):Prop where
 tok:abk tv T∈F
 ops:MP mp∈F
 gv:GvF∈F
instance {tv:AV} {mp:Nat} {T:List Lx} {F:List (ah→Prop)} {R:ah→Prop} [b:BaseF tv mp T F]:BaseF tv mp T (R :: F):=⟨List.mem_cons_of_mem _ b.tok,List.mem_cons_of_mem _ b.ops,List.mem_cons_of_mem _ b.gv⟩
@[reducible] def pc (tv:AV) (mp en i:Nat) (o:Int):List AV:=[tv, .int .i64 (i:Int), .int .i64 (en:Int), .int .i64 o, .map mp]
structure dJ (T:List Lx) (en i:Nat) (o:Int):Prop where
 len:T.length≤4096
 le:i≤T.length
 lo: -(i:Int)≤o
 hi:o≤30
 FB:∀j,FB T en j<lim
 num:∀l∈T,l.kind=2→(pI l.text).isSome=true∧l.text.length≤1000000∧∀v,pI l.text=some (some v)→0≤v
section
variable {h:ah} {L:jf} {S:List Sl} {F:List (ah→Prop)} {p mp en i n:Nat} {o:Int} {tv:AV} {T:List Lx} {K:au}
theorem dJ.step (s:dJ T en i o) (h:i<T.length):dJ T en (i+1) o:=⟨s.len,h,by have:=s.lo;omega,s.hi,s.FB,s.num⟩
theorem Bd {i:Nat} {l:Lx} (e:T[i]? =some l):(T.map jP)[i]? =some (jP l):=by rw[List.getElem?_map,e];rfl
def tu (T:List Lx) (i:Nat):List AV:=match T[i]? with
 |some l=>jP l
 |none=>[.int .i64 (-1), .str [], .int .i64 0, .int .i64 0]
def kdI (T:List Lx) (i:Nat):Int:=match T[i]? with
 |some l=>l.kind
 |none=> -1
theorem CP (T:List Lx) (i:Nat):∃a b:Int,tu T i=[.int .i64 (kdI T i), .str (txt T i), .int .i64 a, .int .i64 b]:=by
 unfold tu kdI txt
 cases T[i]? with
 |none=>exact⟨_,_,rfl⟩
 |some l=>exact⟨_,_,rfl⟩
theorem Ld (T:List Lx) (i k:Nat):decide (kdI T i=(k:Int))=eB T i k:=by
 unfold kdI eB
 cases T[i]? with
 |none=>exact decide_eq_false (by show ¬((-1:Int)=(k:Int));omega)
 |some l=>show decide ((l.kind:Int)=(k:Int))=decide (l.kind=k);rw[decide_eq_decide];omega
theorem c51 [b:BaseF tv mp T F] (hn:2≤n) {d:Nat} (hd:d≤1) (A:Cx h (vr p (pc tv mp en i o) :: L) S F) (s:dJ T en i o)
 (H:∀h,Cx h (vr p (pc tv mp en i o) :: L) S F→K (.agg (tu T (i+d))) h=true):av E n (.func 51) [.ptr p 0 0 0, .int .i64 (d:Int)] h K=true:=by
 obtain⟨n,rfl⟩:∃m,n=m+1:=⟨n-1,by omega⟩
 have hl:=s.len
 have hi:=s.le
 have hlim:lim=4611686018427387904:=rfl
 apply d51
 unfold s51
 refine bT A rfl rfl rfl fun id h A=> ?_
 have V:View h 4 tv (T.map jP):=A.fact b.tok
 repeat first |(with_reducible first |refine dW ?_ |refine aB ?_ |refine iZ ?_ |refine aG A.var rfl ?_)|refine SL (show i+d≤lim by omega) ?_ |refine fD V ?_
 rw[List.length_map]
 cases hc:decide (i+d<T.length) with
 |false=>
  have hc:T.length≤i+d:=by simpa using hc
  have e:T[i+d]? =none:=List.getElem?_eq_none hc
  refine bC (dQ rfl ?_)
  refine wQ A rfl rfl rfl rfl fun h A=>ZH A.v1 rfl ?_
  have:=H h A.rest1
  unfold tu at this
  rw[e] at this
  exact this
 |true=>
  have hc:i+d<T.length:=by simpa using hc
  have e:T[i+d]? =some T[i+d]:=List.getElem?_eq_getElem hc
  repeat first |(with_reducible first |refine dW ?_ |refine aB ?_ |refine bN ?_ |refine aG A.var rfl ?_)|refine SL (show i+d≤lim by omega) ?_
  refine nE V (Bd e) fun id g j ld=>pR (ld true 0 4) ?_
  refine wQ A rfl rfl rfl rfl fun h A=>ZH A.v1 rfl ?_
  have:=H h A.rest1
  unfold tu at this
  rw[e] at this
  exact this
end
section
variable {h:ah} {L:jf} {S:List Sl} {F:List (ah→Prop)} {p mp en i n:Nat} {o:Int} {tv:AV} {T:List Lx} {K:au}
theorem qH:lim=4611686018427387904:=rfl
theorem dkN (k j:Nat):decide ((k:Int)=(j:Int))=decide (k=j):=by rw[decide_eq_decide];omega
theorem dk4 (k:Nat):decide ((k:Int)=4)=decide (k=4):=dkN k 4
theorem dk0 (k:Nat):decide ((k:Int)=0)=decide (k=0):=dkN k 0
theorem dk2 (k:Nat):decide ((k:Int)=2)=decide (k=2):=dkN k 2
noncomputable def kch (x:AV) (h:ah) (K:au):Str→List Str→Bool
 |t,[]=>dS x (.str t) fun v=>aM v (K (.bool true) h) (K (.bool false) h)
 |t,u :: l=>dS x (.str t) fun v=>aM v (aM v (K (.bool true) h) (K (.bool false) h)) (kch x h K u l)
theorem YV {s:Str} {h:ah} {K:au}:∀(t:Str) (l:List Str),K (.bool ((t :: l).any fun t=>decide (s=t))) h=true→kch (.str s) h K t l=true
 |t,[],H=>by
  unfold kch
  refine BR ?_
  simp only[List.any_cons,List.any_nil,Bool.or_false] at H
  cases hc:decide (s=t) with
  |true=>rw[hc] at H;exact bN H
  |false=>rw[hc] at H;exact bC H
 |t,u :: l,H=>by
  unfold kch
  refine BR ?_
  rw[List.any_cons] at H
  cases hc:decide (s=t) with
  |true=>rw[hc,Bool.true_or] at H;exact bN (bN H)
  |false=>rw[hc,Bool.false_or] at H;exact bC (YV u l H)
theorem c52 (hn:1≤n) {s:Str} (H:K (.bool (afj s)) h=true):av E n (.func 52) [.str s] h K=true:=by
 obtain⟨n,rfl⟩:∃m,n=m+1:=⟨n-1,by omega⟩
 apply d52
 exact YV _ keys.tail H
theorem c50 [b:BaseF tv mp T F] (hn:1≤n) (A:Cx h (vr p (pc tv mp en i o) :: L) S F) (s:dJ T en i o) (H:K (.int .i64 (FB T en i:Int)) h=true):av E n (.func 50) [.ptr p 0 0 0] h K=true:=by
 obtain⟨n,rfl⟩:∃m,n=m+1:=⟨n-1,by omega⟩
 apply d50
 unfold s50
 have V:View h 4 tv (T.map jP):=A.fact b.tok
 repeat first |(with_reducible first |refine dW ?_ |refine aB ?_ |refine iZ ?_ |refine aG A.var rfl ?_)|refine fD V ?_
 rw[List.length_map]
 unfold FB at H
 cases hc:decide (i<T.length) with
 |false=>
  have hc:T.length≤i:=by simpa using hc
  rw[List.getElem?_eq_none hc] at H
  refine bC ?_;refine dW ?_;refine aB ?_;refine aG A.var rfl ?_
  exact H
 |true=>
  have hc:i<T.length:=by simpa using hc
  have e:T[i]? =some T[i]:=List.getElem?_eq_getElem hc
  rw[e] at H
  repeat first |(with_reducible first |refine dW ?_ |refine aB ?_ |refine bN ?_ |refine aG A.var rfl ?_)
  refine nE V (Bd e) fun id g j ld=>aB (aR (ld false 2 1) ?_)
  exact H
theorem c49 {x:Nat} (hn:1≤n) (H:K (flt T en x) h=true):av E n (.func 49) [.int .i64 (FB T en x:Int)] h K=true:=by
 obtain⟨n,rfl⟩:∃m,n=m+1:=⟨n-1,by omega⟩
 apply d49
 unfold s49
 refine dQ rfl ?_
 exact H
def FK (K:au) (p mp en:Nat) (tv:AV) (T:List Lx) (L:jf) (S:List Sl) (F:List (ah→Prop)):Nat→Prop:=fun x=>∀h i o,Cx h (vr p (pc tv mp en i o) :: L) S F→K (flt T en x) h=true
def Ql {α:Type} (K:au) (f:α→AV) (p mp en:Nat) (tv:AV) (T:List Lx) (L:jf) (S:List Sl) (F:List (ah→Prop)):α→Nat→Int→Prop:=fun v i o=>∀h,Cx h (vr p (pc tv mp en i o) :: L) S F→dJ T en i o→K (f v) h=true
theorem FK.pz {K k:au} {L S F} {x:Nat} (f:FK K p mp en tv T L S F x):FK (pz K k) p mp en tv T L S F x:=fun h i o A=>f h i o A
def vU:Unit→AV:=fun _=> .tup []
theorem Nr [b:BaseF tv mp T F] (hn:3≤n) {c:Bool} (A:Cx h (vr p (pc tv mp en i o) :: L) S F) (s:dJ T en i o)
 (H:Post (uH c i o) (Ql K vU p mp en tv T L S F) (FK K p mp en tv T L S F)):av E n (.func 29) [.ptr p 0 0 0, .bool c] h K=true:=by
 obtain⟨n,rfl⟩:∃m,n=m+1:=⟨n-1,by omega⟩
 apply d29
 unfold s29
 refine Vj ?_
 cases c with
 |true=>exact bC (H h A s)
 |false=>
  refine bN (c50 (by omega) A s (aI rfl ?_))
  unfold Gc
  exact c49 (by omega) (FK.pz (show FK K p mp en tv T L S F i from H) h i o A)
theorem Uw [b:BaseF tv mp T F] (hn:3≤n) {d:Nat} (hd:d≤1) {w:Str} (hw:w≠[]) (A:Cx h (vr p (pc tv mp en i o) :: L) S F) (s:dJ T en i o)
 (H:∀h,Cx h (vr p (pc tv mp en i o) :: L) S F→K (.bool (cZ T (i+d) w)) h=true):av E n (.func 30) [.ptr p 0 0 0, .int .i64 (d:Int), .str w] h K=true:=by
 obtain⟨n,rfl⟩:∃m,n=m+1:=⟨n-1,by omega⟩
 apply d30
 unfold s30
 refine c51 (by omega) hd A s fun h A=>aI rfl ?_
 unfold Gu
 refine bT A rfl rfl rfl fun id h A=> ?_
 unfold cZ at H
 unfold tu
 cases e:T[i+d]? with
 |none=>
  simp only[e] at H
  refine wQ A rfl rfl rfl rfl fun h A=> ?_
  refine aB (aG A.v1 rfl (BR ?_))
  rw[show decide (([]:Str)=w)=false from decide_eq_false fun q=>hw q.symm]
  repeat first |(with_reducible first |refine fH ?_ |refine rJ ?_ |refine zB ?_)
  unfold rZ
  refine rJ ?_;refine fH ?_;refine eG ?_
  exact H h A.rest1
 |some l=>
  simp only[e] at H
  refine wQ A rfl rfl rfl rfl fun h A=> ?_
  refine aB (aG A.v1 rfl (BR ?_))
  cases h1:decide (l.text=w) with
  |false=>
   simp only[h1,Bool.false_and] at H
   repeat first |(with_reducible first |refine fH ?_ |refine rJ ?_ |refine zB ?_)
   unfold rZ
   refine rJ ?_;refine fH ?_;refine eG ?_
   exact H h A.rest1
  |true=>
   simp only[h1,Bool.true_and] at H
   repeat first |(with_reducible first |refine aB ?_ |refine aY ?_ |refine bH ?_ |refine oO ?_ |refine aG A.v1 rfl ?_)
   rw[dk4]
   cases h2:decide (l.kind=4) with
   |true=>
    simp only[h2,Bool.true_or] at H
    repeat first |(with_reducible first |refine lK ?_ |refine rJ ?_ |refine zB ?_)
    unfold rZ
    refine lK ?_;refine bH ?_;refine dV ?_;refine dV ?_
    exact H h A.rest1
   |false=>
    simp only[h2,Bool.false_or] at H
    repeat first |(with_reducible first |refine aB ?_ |refine aY ?_ |refine bV ?_ |refine oO ?_ |refine aG A.v1 rfl ?_)
    rw[dk0]
    cases h3:decide (l.kind=0) with
    |false=>
     simp only[h3,Bool.false_and] at H
     refine fH ?_;refine qy ?_
     unfold rZ
     refine bV ?_;refine eG ?_;refine bH ?_;refine eG ?_;refine dV ?_
     exact H h A.rest1
    |true=>
     simp only[h3,Bool.true_and] at H
     refine bH ?_;refine aY ?_;refine dR ?_
     refine c52 (by omega) (aI rfl ?_)
     unfold rZ
     refine bV ?_;refine dV ?_;refine bH ?_;refine eG ?_;refine dV ?_
     exact H h A.rest1
theorem X3 {T:List Lx} {i:Nat} {w:Str} (h:cZ T i w=true):i<T.length:=by
 unfold cZ at h
 split at h
 ·cases h
 ·rename_i l e;exact(List.getElem?_eq_some_iff.1 e).1
theorem qY {T:List Lx} {i k:Nat} (h:eB T i k=true):i<T.length:=by
 unfold eB at h
 split at h
 ·cases h
 ·rename_i l e;exact(List.getElem?_eq_some_iff.1 e).1
theorem WE {T:List Lx} {i:Nat} (h:ou T i=true):i<T.length:=by
 unfold ou at h
 split at h
 ·cases h
 ·rename_i l e;exact(List.getElem?_eq_some_iff.1 e).1
theorem c19 [b:BaseF tv mp T F] (hn:4≤n) {w:Str} (hw:w≠[]) (A:Cx h (vr p (pc tv mp en i o) :: L) S F) (s:dJ T en i o)
 (H:Post (fq T w i o) (Ql K .bool p mp en tv T L S F) (fun _=>True)):av E n (.func 19) [.ptr p 0 0 0, .str w] h K=true:=by
 obtain⟨n,rfl⟩:∃m,n=m+1:=⟨n-1,by omega⟩
 apply d19
 unfold s19
 refine Uw (d:=0) (by omega) (by omega) hw A s fun h A=>aI rfl ?_
 unfold I7
 unfold fq at H
 have hl:=s.len
 have hlim:=qH
 rw[Nat.add_zero]
 cases e:cZ T i w with
 |false=>
  rw[if_neg (by rw[e];simp)] at H
  refine dn ?_;refine bN ?_
  exact H h A s
 |true=>
  rw[if_pos e] at H
  have hlt:i<T.length:=X3 e
  refine bY ?_;refine bC ?_;refine dW ?_;refine aB ?_;refine aG A.var rfl ?_;refine lD (show i+1≤lim by omega) ?_;refine dW ?_;refine aB ?_
  refine BA A rfl rfl fun h A=> ?_
  exact H h A (s.step hlt)
theorem c55 [b:BaseF tv mp T F] (hn:3≤n) {k:Nat} (A:Cx h (vr p (pc tv mp en i o) :: L) S F) (s:dJ T en i o)
 (H:∀h,Cx h (vr p (pc tv mp en i o) :: L) S F→K (.bool (eB T i k)) h=true):av E n (.func 55) [.ptr p 0 0 0, .int .i64 (k:Int)] h K=true:=by
 obtain⟨n,rfl⟩:∃m,n=m+1:=⟨n-1,by omega⟩
 apply d55
 unfold s55
 refine c51 (d:=0) (by omega) (by omega) A s fun h A=>aI rfl ?_
 unfold Il
 have H:=H h A
 unfold eB at H
 unfold tu
 rw[Nat.add_zero]
 cases e:T[i]? with
 |none=>
  simp only[e] at H
  refine OV rfl (oO ?_)
  rw[show decide ((-1:Int)=(k:Int))=false from decide_eq_false (by omega)]
  exact H
 |some l=>
  simp only[e] at H
  refine OV rfl (oO ?_)
  rw[dkN]
  exact H
theorem c53 [b:BaseF tv mp T F] (hn:1≤n) (hi:i<T.length) (A:Cx h (vr p (pc tv mp en i o) :: L) S F) (s:dJ T en i o)
 (H:Ql K .str p mp en tv T L S F (txt T i) (i+1) o):av E n (.func 53) [.ptr p 0 0 0] h K=true:=by
 obtain⟨n,rfl⟩:∃m,n=m+1:=⟨n-1,by omega⟩
 apply d53
 unfold s53
 have hl:=s.len
 have hlim:=qH
 refine dW ?_;refine aB ?_;refine aG A.var rfl ?_;refine lD (show i+1≤lim by omega) ?_;refine dW ?_;refine aB ?_
 refine BA A rfl rfl fun h A=> ?_
 have V:View h 4 tv (T.map jP):=A.fact b.tok
 have e:T[i]? =some T[i]:=List.getElem?_eq_getElem hi
 repeat first |(with_reducible first |refine dW ?_ |refine aB ?_ |refine aG A.var rfl ?_)
 refine R5 (by omega) (by omega) ?_
 rw[show((i+1:Nat):Int)-1=(i:Int) by omega]
 refine nE V (Bd e) fun id g j ld=>aB (aR (ld false 1 1) ?_)
 have:=H h A (s.step hi)
 unfold txt at this
 rw[e] at this
 exact this
theorem c33 [b:BaseF tv mp T F] (hn:3≤n) (A:Cx h (vr p (pc tv mp en i o) :: L) S F) (s:dJ T en i o)
 (H:∀h,Cx h (vr p (pc tv mp en i o) :: L) S F→K (.bool (ou T i)) h=true):av E n (.func 33) [.ptr p 0 0 0, .int .i64 0] h K=true:=by
 obtain⟨n,rfl⟩:∃m,n=m+1:=⟨n-1,by omega⟩
 apply d33
 unfold s33
 refine c51 (d:=0) (by omega) (by omega) A s fun h A=>aI rfl ?_
 unfold IQ
 refine bT A rfl rfl rfl fun id h A=> ?_
 unfold ou at H
 unfold tu
 rw[Nat.add_zero]
 cases e:T[i]? with
 |none=>
  simp only[e] at H
  refine wQ A rfl rfl rfl rfl fun h A=> ?_
  refine aB (aG A.v1 rfl (oO ?_))
  rw[show decide ((-1:Int)=0)=false from rfl]
  refine fH ?_;refine fH ?_;refine qy ?_
  unfold xg
  refine fH ?_;refine eG ?_
  exact H h A.rest1
 |some l=>
  simp only[e] at H
  refine wQ A rfl rfl rfl rfl fun h A=> ?_
  refine aB (aG A.v1 rfl (oO ?_))
  rw[dk0]
  cases h1:decide (l.kind=0) with
  |false=>
   simp only[h1,Bool.false_and] at H
   refine fH ?_;refine fH ?_;refine qy ?_
   unfold xg
   refine fH ?_;refine eG ?_
   exact H h A.rest1
  |true=>
   simp only[h1,Bool.true_and] at H
   refine bH ?_;refine aB ?_;refine bH ?_;refine aG A.v1 rfl ?_;refine dR ?_
   refine c52 (by omega) (aI rfl ?_)
   unfold xg
   refine bH ?_;refine Vj ?_;refine dV ?_
   exact H h A.rest1
end
section
variable {h:ah} {L:jf} {S:List Sl} {F:List (ah→Prop)} {p mp en i n:Nat} {o:Int} {tv:AV} {T:List Lx} {K Q k:au}
theorem FK.drop {R:ah→Prop} {x:Nat} (H:FK K p mp en tv T L S F x):FK K p mp en tv T L S (R :: F) x:=fun h i o A=>H h i o A.dropF
theorem FK.rest {e:Nat×fB} {x:Nat} (H:FK K p mp en tv T L S F x):FK K p mp en tv T (e :: L) S F x:=fun h i o A=>H h i o A.rest1
theorem FK.pz' {x:Nat} (H:FK Q p mp en tv T L S F x):FK (Go.Ab.pz Q k) p mp en tv T L S F x:=fun h i o A=>H h i o A
theorem qd {l:Lx} (e:T[i]? =some l):txt T i=l.text:=by unfold txt;rw[e]
theorem c31 [b:BaseF tv mp T F] (hn:6≤n) (A:Cx h (vr p (pc tv mp en i o) :: L) S F) (s:dJ T en i o)
 (H:Post (fZ T i o) (Ql K .str p mp en tv T L S F) (FK K p mp en tv T L S F)):av E n (.func 31) [.ptr p 0 0 0] h K=true:=by
 obtain⟨n,rfl⟩:∃m,n=m+1:=⟨n-1,by omega⟩
 apply d31
 unfold s31
 refine c33 (by omega) A s fun h A=>aI rfl ?_
 unfold Ga
 unfold fZ at H
 cases e:ou T i with
 |false=>
  rw[if_neg (by rw[e];simp)] at H
  refine fH ?_;refine qy ?_
  unfold Ck
  refine fH ?_;refine fH ?_;refine fH ?_;refine eG ?_
  exact Nr (by omega) A s (FK.pz' H)
 |true=>
  have hi:=WE e
  have e1:T[i]? =some T[i]:=List.getElem?_eq_getElem hi
  rw[e,Bool.true_and] at H
  refine bH ?_;refine aY ?_;refine dR ?_
  refine c51 (d:=0) (by omega) (by omega) A s fun h A=>aI rfl ?_
  unfold Ck
  unfold tu
  rw[Nat.add_zero,e1]
  refine bH ?_;refine OV rfl ?_;refine bH ?_;refine oF ?_;refine bH ?_;refine PY ?_;refine dV ?_
  rw[qd e1] at H
  rw[show decide (((T[i]).text.length:Int)≤64)=decide ((T[i]).text.length≤64) from by rw[decide_eq_decide];omega]
  cases e2:decide ((T[i]).text.length≤64) with
  |false=>
   rw[if_neg (by rw[e2];simp)] at H
   exact Nr (by omega) A s (FK.pz' H)
  |true=>
   rw[if_pos e2] at H
   refine Nr (by omega) A s (show Ql _ _ _ _ _ _ _ _ _ _ () i o from fun h A s=>aI rfl ?_)
   refine c53 (by omega) hi A s fun h A s=>aI rfl ?_
   rw[qd e1]
   exact H h A s
theorem c42 [b:BaseF tv mp T F] (hn:6≤n) (A:Cx h (vr p (pc tv mp en i o) :: L) S F) (s:dJ T en i o)
 (H:Post (og T i o) (Ql K .str p mp en tv T L S F) (FK K p mp en tv T L S F)):av E n (.func 42) [.ptr p 0 0 0] h K=true:=by
 obtain⟨n,rfl⟩:∃m,n=m+1:=⟨n-1,by omega⟩
 apply d42
 unfold s42
 refine c55 (k:=1) (by omega) A s fun h A=>aI rfl ?_
 unfold IY
 unfold og at H
 cases e:eB T i 1 with
 |false=>
  rw[if_neg (by rw[e];simp)] at H
  refine fH ?_;refine qy ?_
  unfold Ak
  refine fH ?_;refine fH ?_;refine fH ?_;refine eG ?_
  exact Nr (by omega) A s (FK.pz' H)
 |true=>
  have hi:=qY e
  have e1:T[i]? =some T[i]:=List.getElem?_eq_getElem hi
  rw[e,Bool.true_and] at H
  refine bH ?_;refine aY ?_;refine dR ?_
  refine c51 (d:=0) (by omega) (by omega) A s fun h A=>aI rfl ?_
  unfold Ak
  unfold tu
  rw[Nat.add_zero,e1]
  refine bH ?_;refine OV rfl ?_;refine bH ?_;refine oF ?_;refine bH ?_;refine PY ?_;refine dV ?_
  rw[qd e1] at H
  rw[show decide (((T[i]).text.length:Int)≤64)=decide ((T[i]).text.length≤64) from by rw[decide_eq_decide];omega]
  cases e2:decide ((T[i]).text.length≤64) with
  |false=>
   rw[if_neg (by rw[e2];simp)] at H
   exact Nr (by omega) A s (FK.pz' H)
  |true=>
   rw[if_pos e2] at H
   refine Nr (by omega) A s (show Ql _ _ _ _ _ _ _ _ _ _ () i o from fun h A s=>aI rfl ?_)
   refine c53 (by omega) hi A s fun h A s=>aI rfl ?_
   rw[qd e1]
   exact H h A s
theorem c36 [b:BaseF tv mp T F] (hn:5≤n) (A:Cx h (vr p (pc tv mp en i o) :: L) S F) (s:dJ T en i o)
 (H:Post (jS T i o) (Ql K .str p mp en tv T L S F) (FK K p mp en tv T L S F)):av E n (.func 36) [.ptr p 0 0 0] h K=true:=by
 obtain⟨n,rfl⟩:∃m,n=m+1:=⟨n-1,by omega⟩
 apply d36
 unfold s36
 refine c55 (k:=3) (by omega) A s fun h A=>aI rfl ?_
 unfold IX
 unfold jS at H
 cases e:eB T i 3 with
 |false=>
  rw[if_neg (by rw[e];simp)] at H
  exact Nr (by omega) A s (FK.pz' H)
 |true=>
  have hi:=qY e
  rw[if_pos e] at H
  refine Nr (by omega) A s (show Ql _ _ _ _ _ _ _ _ _ _ () i o from fun h A s=>aI rfl ?_)
  refine c53 (by omega) hi A s fun h A s=>aI rfl ?_
  exact H h A s
theorem c22 [b:BaseF tv mp T F] (hn:6≤n) {w:Str} {v:AV} (hw:w≠[]) (hv:(fun h=>View h 1 v [[.str w]])∈F) (A:Cx h (vr p (pc tv mp en i o) :: L) S F) (s:dJ T en i o)
 (H:Post (dI T w i o) (Ql K vU p mp en tv T L S F) (FK K p mp en tv T L S F)):av E n (.func 22) [.ptr p 0 0 0,v] h K=true:=by
 obtain⟨n,rfl⟩:∃m,n=m+1:=⟨n-1,by omega⟩
 obtain⟨n,rfl⟩:∃m,n=m+1:=⟨n-1,by omega⟩
 obtain⟨n,rfl⟩:∃m,n=m+1:=⟨n-1,by omega⟩
 apply d22
 unfold s22
 refine fD (A.fact hv) ?_
 show Kq _ _ _ _ _ _ _ _ _=true
 rw[TJ]
 unfold Pk
 refine eY ?_
 refine bN (nE (i:=0) (A.fact hv) rfl fun id g j ld=>aR (ld false 0 1) ?_)
 unfold dI at H
 rw[aC] at H
 refine c19 (by omega) hw A s ?_
 refine Post.mono H ?_ fun _ _=>trivial
 intro c i o H h A s
 refine aI rfl ?_
 unfold CJ
 refine Nr (by omega) A s (Post.mono H ?_ fun x f=>FK.pz' f)
 intro u i o H h A s
 refine aI rfl (lD (x:=0) (by decide) ?_)
 show Kq _ _ _ _ _ _ _ _ _=true
 rw[TJ]
 unfold Pk
 refine eY (bC ?_)
 exact H h A s
theorem jW [b:BaseF tv mp T F] (hn:6≤n) {w:Str} (hw:w≠[]) (A:Cx h (vr p (pc tv mp en i o) :: L) S F) (s:dJ T en i o)
 (H:Post (dI T w i o) (fun _ i o=>∀h,Cx h (vr p (pc tv mp en i o) :: L) S F→dJ T en i o→k (.tup []) h=true) (FK Q p mp en tv T L S F)):
 aW (bG h 1 1 [.str []] [(0, .str w)]) (fun v h=>av E n (.func 22) [.ptr p 0 0 0,v] h (pz Q k))=true:=by
 refine kT A rfl rfl rfl rfl rfl rfl fun v h A _=> ?_
 refine c22 hn hw (List.mem_cons_self) A s (Post.mono H ?_ fun x f=>FK.pz' (FK.drop f))
 intro u i o H h A s
 exact aI rfl (H h A.dropF s)
theorem NH {w:Str}:dI T w i o=if cZ T i w=true then .ok () (i+1) o else .fail i:=by
 unfold dI bnd fq uH
 cases cZ T i w<;>rfl
theorem c54 [b:BaseF tv mp T F] (hn:2≤n) {x:Nat} (A:Cx h (vr p (pc tv mp en i o) :: L) S F) (s:dJ T en i o)
 (H:Post (iR x i o) (Ql K vU p mp en tv T L S F) (FK K p mp en tv T L S F)):av E n (.func 54) [.ptr p 0 0 0, .int .i64 (FB T en x:Int)] h K=true:=by
 obtain⟨n,rfl⟩:∃m,n=m+1:=⟨n-1,by omega⟩
 apply d54
 unfold s54
 have h1:=s.lo
 have h2:=s.hi
 have h3:=s.le
 have h4:=s.len
 refine dW ?_;refine aB ?_;refine aG A.var rfl ?_
 refine acp ?_
 rw[wrap64 (by omega) (by omega)]
 refine dW ?_;refine aB ?_
 refine BA A rfl rfl fun h A=> ?_
 refine dW ?_;refine aB ?_;refine aG A.var rfl ?_;refine Jy ?_
 unfold iR at H
 cases e:decide (30<o+1) with
 |true=>
  rw[if_pos (of_decide_eq_true e)] at H
  refine bN ?_
  exact c49 (by omega) (FK.pz (show FK K p mp en tv T L S F x from H) h i (o+1) A)
 |false=>
  have e:=of_decide_eq_false e
  rw[if_neg e] at H
  refine bC ?_
  exact H h A ⟨s.len,s.le,by omega,by omega,s.FB,s.num⟩
theorem c32 [b:BaseF tv mp T F] (hn:8≤n) {w:Str} (hw:w≠[]) (A:Cx h (vr p (pc tv mp en i o) :: L) S F) (s:dJ T en i o)
 (H:Post (eP T w i o) (Ql K vU p mp en tv T L S F) (FK K p mp en tv T L S F)):av E n (.func 32) [.ptr p 0 0 0, .str w] h K=true:=by
 obtain⟨n,rfl⟩:∃m,n=m+1:=⟨n-1,by omega⟩
 apply d32
 unfold s32
 refine c50 (by omega) A s (aI rfl ?_)
 unfold eP at H
 rw[aC] at H
 refine jW (by omega) hw A s (Post.mono H ?_ fun x f=>f)
 intro u i' o H h A s
 refine c54 (by omega) A s (Post.mono H ?_ fun x f=>FK.pz' f)
 intro u i o H h A s
 exact aI rfl (H h A s)
theorem Y7 [b:BaseF tv mp T F] (hn:8≤n) {w:Str} (hw:w≠[]) (A:Cx h (vr p (pc tv mp en i o) :: L) S F) (s:dJ T en i o)
 (H:Post (dD T w i o) (Ql K vU p mp en tv T L S F) (FK K p mp en tv T L S F)):av E n (.func 35) [.ptr p 0 0 0, .str w] h K=true:=by
 obtain⟨n,rfl⟩:∃m,n=m+1:=⟨n-1,by omega⟩
 apply d35
 unfold s35
 unfold dD at H
 rw[aC] at H
 rw[NH] at H
 refine jW (by omega) hw A s ?_
 rw[NH]
 have h1:=s.lo
 have h2:=s.hi
 have h3:=s.le
 have h4:=s.len
 cases e:cZ T i w with
 |false=>rw[if_neg (by rw[e];simp)] at H;exact H
 |true=>
  rw[if_pos e] at H
  rw[if_pos rfl]
  refine aZ ?_
  intro h A s'
  refine dW ?_;refine aB ?_;refine aG A.var rfl ?_
  refine R5 (by omega) (by omega) ?_
  refine dW ?_;refine aB ?_
  refine BA A rfl rfl fun h A=> ?_
  exact H h A ⟨s.len,s'.le,by omega,by omega,s.FB,s.num⟩
end
mutual
def RW (h:ah):List AV→Val→Prop
 |a, .mk k b n t l=>∃lv es,a=[.int .i64 k, .bool b, .int .i64 n, .str t,lv]∧View h 5 lv es∧Ns h es l
def Ns (h:ah):List (List AV)→List Val→Prop
 |es,[]=>es=[]
 |es,v :: l=>∃e r,es=e :: r∧RW h e v∧Ns h r l
end
mutual
def RE (h:ah):List AV→Ex→Prop
 |a, .mk op t v l=>∃cv va es,a= .int .i64 op :: .str t :: (cv++[va])∧RW h cv v∧View h 8 va es∧oG h es l
def oG (h:ah):List (List AV)→List Ex→Prop
 |es,[]=>es=[]
 |es,e :: l=>∃c r,es=c :: r∧RE h c e∧oG h r l
end
def RB (h:ah) (c:List AV) (b:Bt):Prop:=∃ce,c=ce++[.int .i64 (b.deep:Int)]∧RE h ce b.e
def Ba (h:ah):List (List AV)→List Bt→Prop
 |es,[]=>es=[]
 |es,b :: l=>∃c r,es=c :: r∧RB h c b∧Ba h r l
section
variable {h:ah} {L:jf} {S:List Sl} {F:List (ah→Prop)} {p mp en i n:Nat} {o:Int} {tv:AV} {T:List Lx} {K Q k:au}
theorem aJ {a:AV} {l:List AV} (h1:a.leaf=true) (h2:aD l=true):aD (a :: l)=true:=by simp only[aD,h1,cond_true,h2]
theorem gG {l m:List AV} (h1:aD l=true) (h2:aD m=true):aD (l++m)=true:=by
 induction l with
 |nil=>exact h2
 |cons a l ih=>
  simp only[aD] at h1
  cases hl:a.leaf with
  |false=>rw[hl] at h1;cases h1
  |true=>rw[hl,cond_true] at h1;exact aJ hl (ih h1)
theorem RW.cells {a:List AV} {v:Val} (R:RW h a v):a.length=5∧aD a=true∧rQ a:=by
 obtain⟨k,b,n,t,l⟩:=v
 simp only[RW] at R
 obtain⟨lv,es,rfl,V,_⟩:=R
 refine⟨rfl, ?_, .cons (.int _ _) (.cons (.bool _) (.cons (.int _ _) (.cons (.str _) (.cons V.kM .nil))))⟩
 exact aJ rfl (aJ rfl (aJ rfl (aJ rfl (aJ V.leaf rfl))))
theorem RE.cells {a:List AV} {e:Ex} (R:RE h a e):a.length=8∧aD a=true∧rQ a:=by
 obtain⟨op,t,v,l⟩:=e
 simp only[RE] at R
 obtain⟨cv,va,es,rfl,W,V,_⟩:=R
 obtain⟨w1,w2,w3⟩:=W.cells
 refine⟨by simp[w1], ?_, .cons (.int _ _) (.cons (.str _) (w3.app (.cons V.kM .nil)))⟩
 exact aJ rfl (aJ rfl (gG w2 (aJ V.leaf rfl)))
theorem RB.cells {a:List AV} {b:Bt} (R:RB h a b):a.length=9∧aD a=true∧rQ a:=by
 obtain⟨ce,rfl,R⟩:=R
 obtain⟨w1,w2,w3⟩:=R.cells
 exact⟨by simp[w1],gG w2 rfl,w3.app (.cons (.int _ _) .nil)⟩
theorem Ba.get {es:List (List AV)} {l:List Bt} (R:Ba h es l):es.length=l.length∧∀(j:Nat) (b:Bt),l[j]? =some b→∃c,es[j]? =some c∧RB h c b:=by
 induction l generalizing es with
 |nil=>simp only[Ba] at R;subst R;exact⟨rfl,fun j b e=>by simp at e⟩
 |cons b l ih=>
  simp only[Ba] at R
  obtain⟨c,r,rfl,R1,R2⟩:=R
  obtain⟨i1,i2⟩:=ih R2
  refine⟨by simp[i1],fun j b' e=> ?_⟩
  cases j with
  |zero=>simp at e;subst e;exact⟨c,by simp,R1⟩
  |succ j=>simp at e ⊢;exact i2 j b' e
theorem Ba.exs {es:List (List AV)} {l:List Bt} (R:Ba h es l):oG h (es.map (·.take 8)) (l.map Bt.e):=by
 induction l generalizing es with
 |nil=>simp only[Ba] at R;subst R;simp[oG]
 |cons b l ih=>
  simp only[Ba] at R
  obtain⟨c,r,rfl,⟨ce,rfl,R1⟩,R2⟩:=R
  simp only[List.map_cons,oG]
  refine⟨_,_,rfl, ?_,ih R2⟩
  have:=R1.cells.1
  rw[List.take_append_of_le_length (by omega),List.take_of_length_le (by omega)]
  exact R1
theorem Ba.app {es es':List (List AV)} {l l':List Bt} (R:Ba h es l) (R':Ba h es' l'):Ba h (es++es') (l++l'):=by
 induction l generalizing es with
 |nil=>simp only[Ba] at R;subst R;exact R'
 |cons b l ih=>
  simp only[Ba] at R
  obtain⟨c,r,rfl,R1,R2⟩:=R
  exact⟨c,r++es',rfl,R1,ih R2⟩
theorem Ba.one {c:List AV} {b:Bt} (R:RB h c b):Ba h [c] [b]:=⟨c,[],rfl,R,rfl⟩
@[reducible] def Z8:List AV:=[.int .i64 0, .str [], .int .i64 0, .bool false, .int .i64 0, .str [], .nilSlc, .nilSlc]
@[reducible] def Z9:List AV:=[.int .i64 0, .str [], .int .i64 0, .bool false, .int .i64 0, .str [], .nilSlc, .nilSlc, .int .i64 0]
@[reducible] def Zm (op:Int) (t:Str):List AV:=[.int .i64 op, .str t, .int .i64 0, .bool false, .int .i64 0, .str [], .nilSlc, .nilSlc]
theorem RW.zero:RW h [.int .i64 0, .bool false, .int .i64 0, .str [], .nilSlc] SE:=by
 simp only[SE,RW]
 exact⟨.nilSlc,[],rfl,View.nil h 5,by simp[Ns]⟩
theorem RE.op (op:Int) (t:Str):RE h (Zm op t) (iT op t):=by
 simp only[iT,RE]
 exact⟨_, .nilSlc,[],rfl,RW.zero,View.nil h 8,by simp[oG]⟩
theorem MG (d:Nat) (l:List Bt) (b:Bt):jQ d (l++[b])=max (jQ d l) (b.deep+1):=by
 induction l generalizing d with
 |nil=>rfl
 |cons a l ih=>exact ih _
theorem RE.made {op:Int} {t:Str} {va:AV} {ea:List (List AV)} {l:List Ex} (V:View h 8 va ea) (R:oG h ea l):
 RE h [.int .i64 op, .str t, .int .i64 0, .bool false, .int .i64 0, .str [], .nilSlc,va] ((iT op t).add l):=by
 simp only[iT,Ex.add,RE,List.nil_append]
 exact⟨_,va,ea,rfl,RW.zero,V,R⟩
theorem c93 (hn:10≤n) {x:Nat} {op:Int} {t:Str} {v2:AV} {ea:List (List AV)} {args:List Bt} (hl:args.length+5≤n) (hm:args.length≤100000) (hd:∀b∈args,b.deep≤100000)
 (kv:Knows L S F fun h=>View h 9 v2 ea) (kr:∀h,(∀R∈F,R h)→Ba h ea args) (A:Cx h L S F)
 (H:jQ 1 args≤30→∀h c,Cx h L S ((fun h=>RB h c ⟨(iT op t).add (args.map Bt.e),jQ 1 args⟩) :: F)→K (.agg c) h=true)
 (Hf:30<jQ 1 args→∀h,Cx h L S F→K (flt T en x) h=true):
 av E n (.func 93) [.int .i64 (FB T en x:Int), .agg (Zm op t),v2] h K=true:=by
 obtain⟨n,rfl⟩:∃m,n=m+1:=⟨n-1,by omega⟩
 have hmo:most=1099511627776:=rfl
 have hlim:=qH
 apply d93
 unfold s93
 refine yO A rfl rfl rfl fun b h A=> ?_
 refine bT A rfl rfl rfl fun r h A=> ?_
 refine iw A.var rfl (dQ rfl ?_)
 refine bT A rfl rfl rfl fun u h A=> ?_
 refine gL A rfl rfl rfl rfl fun h A=> ?_
 have kr':∀h {L S F'},Cx h L S (F'++F)→Ba h ea args:=fun h L S F' A=>kr h fun R m=>A.fact (List.mem_append.2 (.inr m))
 have R:=kr' h (F':=[]) A
 obtain⟨hlen,_⟩:=R.get
 refine fD (kv h A.rest.rest.rest) ?_
 have A:=A.slc 8
 have loop:∀d j m va h,args.length=j+d→d+1≤m→
  Cx h (vr b (Zm op t) :: vr u ([.int .i64 op, .str t, .int .i64 0, .bool false, .int .i64 0, .str [], .nilSlc,va, .int .i64 (jQ 1 (args.take j):Int)]) :: vr r Z9 :: L) (⟨va,8,(ea.take j).map (·.take 8)⟩ :: S) F→
  O7 (av E n) n m (.int .i64 (FB T en x:Int)) (.ptr r 0 0 0) (.ptr u 0 0 0) v2 (.int .i64 (ea.length:Int)) (.int .i64 (j:Int)) h K=true:=by
  intro d
  induction d with
  |zero=>
   intro j m va h h1 h2 A
   obtain⟨m,rfl⟩:∃q,m=q+1:=⟨m-1,by omega⟩
   have hj:j=args.length:=by omega
   subst hj
   rw[List.take_of_length_le (Nat.le_refl _),List.take_of_length_le (by omega)] at A
   rw[TQ]
   unfold Qd
   refine iZ ?_
   rw[show decide (args.length<ea.length)=false from decide_eq_false (by omega)]
   refine bC ?_
   unfold SB
   have A:=A.freeze
   refine aB ?_;refine aG A.v1 rfl ?_;refine Jy ?_
   cases hc:decide (30<(jQ 1 args:Int)) with
   |true=>
    have hc:30<jQ 1 args:=by have:=of_decide_eq_true hc;omega
    refine bN ?_
    refine c49 (by omega) ?_
    exact Hf hc h A.dropF.rest.rest.rest
   |false=>
    have hc:jQ 1 args≤30:=by have:=of_decide_eq_false hc;omega
    refine bC ?_
    unfold MV
    refine iw A.v1 rfl ?_
    refine UR A rfl rfl rfl ?_ fun h A=> ?_
    ·have:=A.f0.leaf
     exact aJ rfl (aJ rfl (aJ rfl (aJ rfl (aJ rfl (aJ rfl (aJ rfl (aJ this rfl)))))))
    refine vT A.v2 rfl ?_
    have A:=A.rest.rest.rest
    refine H hc h _ ?_
    refine(A.add (R:=fun h=>Ba h ea args) fun h q=>kr h fun R m=>q R (List.mem_cons_of_mem _ m)).imp2 fun h R V=> ?_
    exact⟨_,rfl,RE.made V R.exs⟩
  |succ d ih=>
   intro j m va h h1 h2 A
   obtain⟨m,rfl⟩:∃q,m=q+1:=⟨m-1,by omega⟩
   have hj:j<args.length:=by omega
   have hb:args[j]? =some args[j]:=List.getElem?_eq_getElem hj
   obtain⟨_,hg⟩:=(kr' h (F':=[]) A).get
   obtain⟨c,hc,RBc⟩:=hg j _ hb
   obtain⟨w1,w2,_⟩:=RBc.cells
   obtain⟨ce,rfl,REc⟩:=RBc
   obtain⟨x1,x2,_⟩:=REc.cells
   rw[TQ]
   unfold Qd
   refine iZ ?_
   rw[show decide (j<ea.length)=true from decide_eq_true (by omega)]
   refine bN (nE (kv h (A.freeze.dropF.rest.rest.rest)) hc fun id g q ld=>pR (v:= .agg (ce++[.int .i64 (args[j].deep:Int)])) ?_ ?_)
   ·rw[ld]
    simp only[lY,w1,List.drop_zero,cond_true]
    rw[List.take_of_length_le (by omega)]
    rfl
   refine bT A rfl rfl rfl fun a h A=> ?_
   refine gL A rfl w1 rfl w2 fun h A=> ?_
   refine aB ?_;refine aB ?_;refine aG A.v2 rfl ?_;refine aB ?_
   refine aL A.v1 (aK.2 (by rw[w1];decide)) ?_
   rw[List.drop_zero,List.take_append_of_le_length (by omega),List.take_of_length_le (by omega)]
   refine kT A rfl rfl rfl rfl (gH x1 x2) rfl fun vb h A _=> ?_
   refine qA A rfl A.f0.src ?_ ?_ fun va' h A _=> ?_
   ·simp;omega
   ·simp;omega
   have e8:ea.take (j+1)=ea.take j++[ce++[.int .i64 (args[j].deep:Int)]]:=by rw[List.take_add_one,hc];rfl
   have e9:args.take (j+1)=args.take j++[args[j]]:=by rw[List.take_add_one,hb];rfl
   refine aB ?_;refine aB ?_
   refine OB A rfl A.leafS fun h A=> ?_
   refine aB ?_;refine aG A.v2 rfl ?_;refine aB ?_
   refine aG A.v1 (v:= .int .i64 (args[j].deep:Int)) (by rw[List.getElem?_append_right (by omega),x1];rfl) ?_
   refine lD (by have:=hd _ (List.getElem_mem hj);omega) ?_
   refine oU (aeZ _ _) ?_
   refine aB ?_
   refine OB A rfl rfl fun h A=> ?_
   refine lD (by omega) ?_
   refine ih (j+1) m va' h (by omega) (by omega) ?_
   rw[e8,e9,List.map_append,MG]
   have e10:[ce++[AV.int .i64 (args[j].deep:Int)]].map (·.take 8)=[ce]:=by
    simp only[List.map_cons,List.map_nil]
    rw[List.take_append_of_le_length (by omega),List.take_of_length_le (by omega)]
   rw[e10]
   exact A.dropF.rest1
 exact loop args.length 0 n .nilSlc h (by omega) (by omega) A
theorem c107 (hn:2≤n) {c:List AV} {v:Val} (W:∀h,(∀R∈F,R h)→RW h c v) (A:Cx h L S F)
 (H:∀h c,Cx h L S ((fun h=>RB h c (lit v)) :: F)→K (.agg c) h=true):av E n (.func 107) [.agg c] h K=true:=by
 obtain⟨n,rfl⟩:∃m,n=m+1:=⟨n-1,by omega⟩
 obtain⟨w1,w2,w3⟩:=(W h fun R m=>A.fact m).cells
 apply aiu
 unfold Z7
 refine yO A w1 rfl w2 fun b h A=> ?_
 refine bT A rfl rfl rfl fun r h A=> ?_
 refine iw A.var w1 ?_
 have e1:oP Z8 [(0,1, .int .i64 1),(2,5, .agg c)]=some ([AV.int .i64 1, .str []]++(c++[.nilSlc])):=by
  match c,w1,w2 with
  | [a,b,c,d,e],_,w2=>simp only[oP,AV.cells,w2,aD,AV.leaf,List.length_cons,List.length_nil,lay];rfl
 have e2:([AV.int .i64 1, .str []]++(c++[AV.nilSlc])).length=8:=by simp[w1]
 have e3:aD ([AV.int .i64 1, .str []]++(c++[AV.nilSlc]))=true:=gG rfl (gG w2 rfl)
 refine dQ e1 ?_
 have e4:oP Z9 [(0,8, .agg ([AV.int .i64 1, .str []]++(c++[.nilSlc]))),(8,1, .int .i64 1)]=some (([AV.int .i64 1, .str []]++(c++[.nilSlc]))++[.int .i64 1]):=by
  match c,w1,w2 with
  | [a,b,c,d,e],_,w2=>
    have e3:aD (AV.agg ([AV.int .i64 1, .str []]++([a,b,c,d,e]++[.nilSlc]))).cells=true:=gG rfl (gG w2 rfl)
    simp only[oP,e3]
    rfl
 refine dQ e4 ?_
 refine gL A rfl (by simp[w1]) rfl (gG e3 rfl) fun h A=> ?_
 refine vT A.v1 (by simp[w1]) ?_
 have A:=A.rest.rest
 refine H h _ (A.add fun h q=> ?_)
 refine⟨_,rfl, ?_⟩
 simp only[lit,RE]
 exact⟨c, .nilSlc,[],by simp,W h q,View.nil h 8,by simp[oG]⟩
end
section
variable {h:ah} {L:jf} {S:List Sl} {F:List (ah→Prop)} {p mp en i n:Nat} {o:Int} {tv:AV} {T:List Lx} {K Q k:au}
abbrev Cli (σ:Type):=σ→jf→List Sl→List (ah→Prop)→Prop
def OkC {σ:Type} (C:Cli σ) (K:au) (p mp en:Nat) (tv:AV) (T:List Lx):σ→Nat→Int→Prop:=fun s i o=>∀h L S F,C s L S F→Cx h (vr p (pc tv mp en i o) :: L) S F→dJ T en i o→K (.tup []) h=true
def FC (D:jf→List Sl→List (ah→Prop)→Prop) (K:au) (p mp en:Nat) (tv:AV) (T:List Lx):Nat→Prop:=fun x=>∀h i o L S F,D L S F→Cx h (vr p (pc tv mp en i o) :: L) S F→K (flt T en x) h=true
theorem c40 {σ:Type} {one:σ→PM σ} {C:Nat→Cli σ} {D:jf→List Sl→List (ah→Prop)→Prop} (hB:∀{j s L S F},C j s L S F→BaseF tv mp T F) (hD:∀{j s L S F},C j s L S F→D L S F) {kk:Nat} (hn:kk+12≤n) {w:Str} (hw:w≠[]) {clo:AV}
 (hone:∀{j s h L S F i o K},C (j+1) s L S F→Cx h (vr p (pc tv mp en i o) :: L) S F→dJ T en i o→Post (one s i o) (OkC (C j) K p mp en tv T) (FC D K p mp en tv T)→mI (av E n) clo [] h K=true)
 {s:σ} (hC:C kk s L S F) (A:Cx h (vr p (pc tv mp en i o) :: L) S F) (st:dJ T en i o)
 (H:Post (gM T w one kk s i o) (OkC (fun s L S F=>∃j,C j s L S F) K p mp en tv T) (FC D K p mp en tv T)):av E (n+1) (.func 40) [.ptr p 0 0 0, .str w,clo] h K=true:=by
 apply d40
 unfold s40
 unfold gM at H
 rw[aC] at H
 have loop:∀kk m first {s h L S F i o},kk≤m→kk+12≤n→C kk s L S F→Cx h (vr p (pc tv mp en i o) :: L) S F→dJ T en i o→
  Post (tQ T w one kk first s i o) (fun s i o=>Post (bnd (dD T w) (fun _=>ret s) i o) (OkC (fun s L S F=>∃j,C j s L S F) K p mp en tv T) (FC D K p mp en tv T)) (FC D K p mp en tv T)→
  JZ (av E n) n m (.ptr p 0 0 0) (.str w) clo (.bool first) h K=true:=by
  intro kk
  induction kk with
  |zero=>
   intro m first s h L S F i o hm hn hC A st H
   exact absurd H (fun q=>q)
  |succ kk ih=>
   intro m first s h L S F i o hm hn hC A st H
   obtain⟨m,rfl⟩:∃q,m=q+1:=⟨m-1,by omega⟩
   have bF:=hB hC
   have shut:∀{h},Cx h (vr p (pc tv mp en i o) :: L) S F→Post (bnd (dD T w) (fun _=>ret s) i o) (OkC (fun s L S F=>∃j,C j s L S F) K p mp en tv T) (FC D K p mp en tv T)→ML (av E n) n (.ptr p 0 0 0) (.str w) h K=true:=by
    intro h A H
    unfold ML
    rw[aC] at H
    refine Y7 (by omega) hw A st (Post.mono H ?_ fun x f=> ?_)
    ·intro u i o H h A st
     exact aI rfl (H h L S F ⟨_,hC⟩ A st)
    ·exact fun h i o A=>f h i o L S F (hD hC) A
   have more:∀{h i o},Cx h (vr p (pc tv mp en i o) :: L) S F→dJ T en i o→Post (bnd (one s) (tQ T w one kk false) i o) (fun s i o=>Post (bnd (dD T w) (fun _=>ret s) i o) (OkC (fun s L S F=>∃j,C j s L S F) K p mp en tv T) (FC D K p mp en tv T)) (FC D K p mp en tv T)→
    mI (av E n) clo [] h (pz K fun v13 h=>JZ (av E n) n m (.ptr p 0 0 0) (.str w) clo (.bool false) h K)=true:=by
    intro h i o A st H
    rw[aC] at H
    refine hone hC A st (Post.mono H ?_ fun x f=>f)
    intro s i o H h L S F hC A st
    exact aI rfl (ih m false (by omega) (by omega) hC A st H)
   rw[abE]
   unfold U2
   unfold tQ at H
   cases first with
   |true=>
    rw[if_pos rfl] at H
    refine bH ?_;refine aY ?_;refine bH ?_;refine aY ?_;refine dR ?_
    refine Uw (d:=0) (by omega) (by omega) hw A st fun h A=>aI rfl ?_
    unfold Aj
    rw[Nat.add_zero]
    cases e:cZ T i w with
    |true=>
     rw[if_pos e] at H
     repeat first |(with_reducible first |refine aY ?_ |refine bY ?_ |refine bH ?_ |refine bV ?_ |refine fH ?_ |refine qy ?_ |refine dV ?_)
     unfold tX
     refine bV ?_;refine eG ?_;refine eG ?_;refine bC ?_
     exact shut A H
    |false=>
     rw[if_neg (by rw[e];simp)] at H
     refine bH ?_;refine dn ?_;refine dV ?_;refine lK ?_;refine lK ?_;refine lK ?_;refine rJ ?_;refine zB ?_
     unfold tX
     refine lK ?_;refine dV ?_;refine bN ?_
     exact more A st H
   |false=>
    rw[if_neg (by simp)] at H
    refine fH ?_;refine fH ?_;refine qy ?_
    unfold Aj
    repeat first |(with_reducible first |refine aY ?_ |refine dn ?_ |refine bH ?_ |refine bV ?_ |refine fH ?_ |refine dR ?_ |refine eG ?_)
    refine c19 (by omega) (by decide) A st ?_
    unfold fq
    cases e:cZ T i [44] with
    |true=>
     rw[if_pos e] at H
     rw[if_pos rfl]
     refine aZ fun h A st=>aI rfl ?_
     unfold tX
     refine bV ?_;refine dV ?_;refine eG ?_;refine bN ?_
     exact more A st H
    |false=>
     rw[if_neg (by rw[e];simp)] at H
     rw[if_neg (by simp)]
     refine aZ fun h A st=>aI rfl ?_
     unfold tX
     refine bV ?_;refine dV ?_;refine eG ?_;refine bC ?_
     exact shut A H
 exact loop kk n true (by omega) hn hC A st H
end
section
variable {h:ah} {L:jf} {S:List Sl} {F:List (ah→Prop)} {p mp en i n:Nat} {o:Int} {tv:AV} {T:List Lx} {K Q k:au}
def Qo (K:au) (p mp en:Nat) (tv:AV) (T:List Lx) (L:jf) (S:List Sl) (F:List (ah→Prop)):Bt→Nat→Int→Prop:=fun v i o=>v.deep≤30→∀h c,Cx h (vr p (pc tv mp en i o) :: L) S ((fun h=>RB h c v) :: F)→dJ T en i o→K (.agg c) h=true
structure WB (tv:AV) (p mp en:Nat) (T:List Lx) (k:Nat):Prop where
 level:∀{n h L S F i o K} [BaseF tv mp T F] {lv:Nat},4*k+40≤n→lv≤5→Cx h (vr p (pc tv mp en i o) :: L) S F→dJ T en i o→
  Post (bD T k lv i o) (Qo K p mp en tv T L S F) (FK K p mp en tv T L S F)→av E n (.func 79) [.ptr p 0 0 0, .int .i64 (lv:Int)] h K=true
 ops:∀{n m h L S F i o K} [BaseF tv mp T F] {lv e r:Nat} {c c0:List AV} {b:Bt},4*k+40≤n→k≤m→lv≤4→c0.length=9→b.deep≤30→Cx h (vr p (pc tv mp en i o) :: vr e c :: vr r c0 :: L) S ((fun h=>RB h c b) :: F)→dJ T en i o→
  Post (mQ T k lv b i o) (Qo K p mp en tv T L S F) (FK K p mp en tv T L S F)→Eh (av E n) n m (.ptr p 0 0 0) (.int .i64 (lv:Int)) (.ptr r 0 0 0) (.ptr e 0 0 0) h K=true
 sign:∀{n h L S F i o K} [BaseF tv mp T F],4*k+40≤n→Cx h (vr p (pc tv mp en i o) :: L) S F→dJ T en i o→
  Post (iV T k i o) (Qo K p mp en tv T L S F) (FK K p mp en tv T L S F)→av E n (.func 92) [.ptr p 0 0 0] h K=true
 post:∀{n h L S F i o K} [BaseF tv mp T F],4*k+40≤n→Cx h (vr p (pc tv mp en i o) :: L) S F→dJ T en i o→
  Post (qE T k i o) (Qo K p mp en tv T L S F) (FK K p mp en tv T L S F)→av E n (.func 102) [.ptr p 0 0 0] h K=true
 dots:∀{n m h L S F i o K} [BaseF tv mp T F] {e r:Nat} {c c0:List AV} {b:Bt},4*k+40≤n→k≤m→c0.length=9→b.deep≤30→Cx h (vr p (pc tv mp en i o) :: vr e c :: vr r c0 :: L) S ((fun h=>RB h c b) :: F)→dJ T en i o→
  Post (oD T k b i o) (Qo K p mp en tv T L S F) (FK K p mp en tv T L S F)→DX (av E n) n m (.ptr p 0 0 0) (.ptr r 0 0 0) (.ptr e 0 0 0) h K=true
 atom:∀{n h L S F i o K} [BaseF tv mp T F],4*k+40≤n→Cx h (vr p (pc tv mp en i o) :: L) S F→dJ T en i o→
  Post (oJ T k i o) (Qo K p mp en tv T L S F) (FK K p mp en tv T L S F)→av E n (.func 105) [.ptr p 0 0 0] h K=true
theorem Dj {x:Nat} {e:Ex} {args:List Bt} {k:Bt→Nat→Int→Prop} {f:Nat→Prop} (H:Post (gB x e args i o) k f):
 (jQ 1 args≤30→k ⟨e.add (args.map Bt.e),jQ 1 args⟩ i o)∧(30<jQ 1 args→f x):=by
 unfold gB at H
 by_cases h:30<jQ 1 args
 ·rw[if_pos h] at H;exact⟨fun q=>by omega,fun _=>H⟩
 ·rw[if_neg h] at H;exact⟨fun _=>H,fun q=>absurd q h⟩
theorem adx {a b:Str} (h:cZ T i a=true) (hab:a≠b):cZ T i b=false:=by
 unfold cZ at h ⊢
 cases e:T[i]? with
 |none=>rfl
 |some l=>
  rw[e] at h
  simp only[Bool.and_eq_true,decide_eq_true_eq] at h
  simp only[decide_eq_false (show ¬(l.text=b) from fun q=>hab (h.1▸q)),Bool.false_and]
theorem VU {e1:Nat×fB} {r:Nat} {c c0:List AV} {v:Bt} {F':List (ah→Prop)} (A:Cx h (e1 :: vr r c0 :: L) S F') (h0:c0.length=9) (R:RB h c v) (s:∀h,Cx h (e1 :: L) S F'→K (.agg c) h=true):
 (aN h 9 (.ptr r 0 0 0) (.agg c) fun h=>gq (fG h [(.ptr r 0 0 0,some (true,9))]) h K)=true:=by
 obtain⟨w1,w2,_⟩:=R.cells
 exact gL A rfl w1 h0 w2 fun h A=>vT A.v1 w1 (s h A.rest1)
theorem XR [b:BaseF tv mp T F] (hn:12≤n) {x:Nat} {op:Int} {t:Str} {v2:AV} {c:List AV} {e:Bt} (hd:e.deep≤30) (re:(fun h=>RB h c e)∈F) (kv:Knows (vr p (pc tv mp en i o) :: L) S F fun h=>View h 9 v2 [c])
 (A:Cx h (vr p (pc tv mp en i o) :: L) S F) (s:dJ T en i o)
 (H:Post (gB x (iT op t) [e] i o) (Qo K p mp en tv T L S F) (FK K p mp en tv T L S F)):
 av E n (.func 93) [.int .i64 (FB T en x:Int), .agg (Zm op t),v2] h K=true:=by
 obtain⟨H1,H2⟩:=Dj H
 refine c93 (args:=[e]) (by omega) (by simp;omega) (by simp) (fun b hb=>by simp at hb;subst hb;omega) kv (fun h q=>Ba.one (q _ re)) A ?_ ?_
 ·intro hm h c' A
  exact H1 hm hm h c' A s
 ·intro hm h A
  exact H2 hm h i o A
theorem ab2 [b:BaseF tv mp T F] (hn:12≤n) {x:Nat} {op:Int} {t:Str} {v2:AV} {c c':List AV} {e e':Bt} (hd:e.deep≤30) (hd':e'.deep≤30) (re:(fun h=>RB h c e)∈F) (re':(fun h=>RB h c' e')∈F) (kv:Knows (vr p (pc tv mp en i o) :: L) S F fun h=>View h 9 v2 [c,c'])
 (A:Cx h (vr p (pc tv mp en i o) :: L) S F) (s:dJ T en i o)
 (H:Post (gB x (iT op t) [e,e'] i o) (Qo K p mp en tv T L S F) (FK K p mp en tv T L S F)):
 av E n (.func 93) [.int .i64 (FB T en x:Int), .agg (Zm op t),v2] h K=true:=by
 obtain⟨H1,H2⟩:=Dj H
 refine c93 (args:=[e,e']) (by omega) (by simp;omega) (by simp) (fun b hb=>by simp at hb;rcases hb with rfl |rfl<;>omega) kv (fun h q=>(Ba.one (q _ re)).app (Ba.one (q _ re'))) A ?_ ?_
 ·intro hm h c' A
  exact H1 hm hm h c' A s
 ·intro hm h A
  exact H2 hm h i o A
theorem Xt {k:Nat} (W:WB tv p mp en T k):∀{n h L S F i o K} [BaseF tv mp T F],4*(k+1)+40≤n→Cx h (vr p (pc tv mp en i o) :: L) S F→dJ T en i o→
 Post (iV T (k+1) i o) (Qo K p mp en tv T L S F) (FK K p mp en tv T L S F)→av E n (.func 92) [.ptr p 0 0 0] h K=true:=by
 intro n h L S F i o K b hn A s H
 obtain⟨n,rfl⟩:∃m,n=m+1:=⟨n-1,by omega⟩
 apply d92
 unfold s92
 refine bT A rfl rfl rfl fun r h A=> ?_
 refine c50 (by omega) A s (aI rfl ?_)
 refine Uw (d:=0) (by omega) (by omega) (by decide) A s fun h A=>aI rfl ?_
 rw[Nat.add_zero]
 have one:∀(op:Int) {w:Str} {h},w≠[]→Cx h (vr p (pc tv mp en (i+1) o) :: vr r Z9 :: L) S F→dJ T en (i+1) o→
  Post (bnd (iR i) (fun _=>bnd (iV T k) fun e=>bnd mV fun _=>gB i (iT op []) [e]) (i+1) o) (Qo K p mp en tv T L S F) (FK K p mp en tv T L S F)→
  (av E n (.func 54) [.ptr p 0 0 0, .int .i64 (FB T en i:Int)] h <| pz K fun v12 h=>av E n (.func 92) [.ptr p 0 0 0] h <| pz K fun v13 h=>xU (av E n) n (.ptr p 0 0 0) (.ptr r 0 0 0) (.int .i64 (FB T en i:Int)) (.int .i64 op) v13 h K)=true:=by
  intro op w h hw A s H
  rw[aC] at H
  have s0:=s
  refine c54 (by omega) A s (Post.mono H.eqn ?_ fun x f=>FK.pz' (FK.rest f))
  intro u i1 o1 ⟨eq0,H⟩ h A s
  obtain⟨ho0,hi0⟩:=AZ _ _ _ _ _ eq0
  refine aI rfl ?_
  rw[aC] at H
  refine W.sign (by omega) A s (Post.mono H.eqn ?_ fun x f=>FK.pz' (FK.rest f))
  intro e i1 o1 ⟨eq,H⟩ hd h c A s
  obtain⟨ho,hi1⟩:=(shE k).sign _ _ _ _ _ eq
  refine aI rfl ?_
  unfold xU
  obtain⟨w1,w2,w3⟩:=(A.f0:RB h c e).cells
  refine bT A rfl rfl rfl fun a h A=> ?_
  refine gL A rfl w1 rfl w2 fun h A=> ?_
  have h1:=s.lo
  have h2:=s.hi
  have h3:=s.le
  have h4:=s.len
  refine dW ?_;refine aB ?_;refine aG A.var rfl ?_
  refine R5 (by omega) (by omega) ?_
  refine dW ?_;refine aB ?_
  refine BA A rfl rfl fun h A=> ?_
  refine dQ rfl (iw A.v1 w1 ?_)
  refine kT A rfl rfl rfl rfl (gH w1 w2) rfl fun vb h A _=> ?_
  have q1:=s0.lo
  have q2:=s0.hi
  refine XR (c:=c) (by omega) hd (by simp) (Knows.mem (by simp)) A ⟨s.len,s.le,by omega,by omega,s.FB,s.num⟩ (Post.mono H ?_ fun x f=>FK.pz' f.rest.rest.drop.drop)
  intro v i2 o2 H hd h c' A s
  refine aI rfl ?_
  unfold DY
  have A:=A.rest1
  exact VU A rfl A.f0 fun h A=>H hd h c' A.drop1.drop1 s
 unfold iV at H
 cases e1:cZ T i [33] with
 |true=>
  have e2:=adx e1 (b:=[45]) (by decide)
  rw[if_neg (by rw[e2];simp),if_pos e1] at H
  refine bN ?_
  unfold Jh
  refine c19 (by omega) (by decide) A s ?_
  unfold fq
  rw[if_neg (by rw[e2];simp)]
  refine aZ fun h A s=>aI rfl ?_
  unfold tO
  refine dn ?_;refine bH ?_;refine aY ?_;refine dR ?_
  refine c19 (by omega) (by decide) A s ?_
  unfold fq
  rw[if_pos e1]
  refine aZ fun h A s=>aI rfl ?_
  unfold uD
  refine bH ?_;refine bY ?_;refine dV ?_;refine bC ?_
  exact one 7 (w:=[33]) (by decide) A s H
 |false=>
  refine bC ?_
  unfold Jh
  cases e2:cZ T i [45] with
  |true=>
   rw[if_pos e2] at H
   refine c19 (by omega) (by decide) A s ?_
   unfold fq
   rw[if_pos e2]
   refine aZ fun h A s=>aI rfl ?_
   unfold tO
   refine bY ?_;refine fH ?_;refine qy ?_
   unfold uD
   refine fH ?_;refine eG ?_;refine bC ?_
   exact one 6 (w:=[45]) (by decide) A s H
  |false=>
   rw[if_neg (by rw[e2];simp),if_neg (by rw[e1];simp)] at H
   refine c19 (by omega) (by decide) A s ?_
   unfold fq
   rw[if_neg (by rw[e2];simp)]
   refine aZ fun h A s=>aI rfl ?_
   unfold tO
   refine dn ?_;refine bH ?_;refine aY ?_;refine dR ?_
   refine c19 (by omega) (by decide) A s ?_
   unfold fq
   rw[if_neg (by rw[e1];simp)]
   refine aZ fun h A s=>aI rfl ?_
   unfold uD
   refine bH ?_;refine dn ?_;refine dV ?_;refine bN ?_
   refine W.post (by omega) A s (Post.mono H ?_ fun x f=>FK.pz' f.rest)
   intro v i o H hd h c A s
   refine aI rfl ?_
   unfold Ed
   exact VU A rfl A.f0 fun h A=>H hd h c A s
theorem Xy {k:Nat} (W:WB tv p mp en T k):∀{n m h L S F i o K} [BaseF tv mp T F] {e r:Nat} {c c0:List AV} {b:Bt},4*(k+1)+40≤n→k+1≤m→c0.length=9→b.deep≤30→Cx h (vr p (pc tv mp en i o) :: vr e c :: vr r c0 :: L) S ((fun h=>RB h c b) :: F)→dJ T en i o→
 Post (oD T (k+1) b i o) (Qo K p mp en tv T L S F) (FK K p mp en tv T L S F)→DX (av E n) n m (.ptr p 0 0 0) (.ptr r 0 0 0) (.ptr e 0 0 0) h K=true:=by
 intro n m h L S F i o K bF e r c c0 b hn hm h0 hd A s H
 obtain⟨m,rfl⟩:∃q,m=q+1:=⟨m-1,by omega⟩
 obtain⟨w1,w2,w3⟩:=(A.f0:RB h c b).cells
 rw[YF]
 unfold Lj
 refine c50 (by omega) A s (aI rfl ?_)
 refine c19 (by omega) (by decide) A s ?_
 unfold fq
 unfold oD at H
 cases e1:cZ T i [46] with
 |false=>
  rw[if_neg (by rw[e1];simp)] at H
  rw[if_neg (by simp)]
  refine aZ fun h A s=>aI rfl ?_
  unfold u7
  refine dn ?_;refine bN ?_
  refine iw A.v1 w1 ?_
  have A:=A.rest1
  exact VU A h0 A.f0 fun h A=>H hd h c A s
 |true=>
  rw[if_pos e1] at H
  rw[if_pos rfl]
  refine aZ fun h A s=>aI rfl ?_
  unfold u7
  refine bY ?_;refine bC ?_
  refine iw A.v1 w1 (DC A rfl rfl rfl rfl (gH w1 w2) rfl fun q h A=> ?_)
  refine iw A.v2 w1 (dU (.agg w3) ?_)
  rw[aC] at H
  refine c31 (by omega) A s (Post.mono H ?_ fun x f=>FK.pz' fun h i o A=>vP rfl rfl A fun h A=>f h i o A.rest1.rest1.dropF)
  intro t i1 o1 H h A s
  refine aI rfl ?_
  refine iw A.v2 w1 (dU (.agg w3) (dQ rfl ?_))
  rw[aC] at H
  refine XR (c:=c) (by omega) hd (by simp) (fun h A=>A.rowL) A s (Post.mono H ?_ fun x f=>FK.pz' fun h i o A=>vP rfl rfl A fun h A=>f h i o A.rest1.rest1.dropF)
  intro v i2 o2 H hd' h c' A s
  refine aI rfl ?_
  obtain⟨x1,x2,_⟩:=(A.f0:RB h c' v).cells
  refine UR A rfl x1 w1 x2 fun h A=> ?_
  exact W.dots (by omega) (by omega) h0 hd' A.rest1.drop1 s H
theorem WT {k:Nat} (W:WB tv p mp en T k):∀{n h L S F i o K} [BaseF tv mp T F],4*(k+1)+40≤n→Cx h (vr p (pc tv mp en i o) :: L) S F→dJ T en i o→
 Post (qE T (k+1) i o) (Qo K p mp en tv T L S F) (FK K p mp en tv T L S F)→av E n (.func 102) [.ptr p 0 0 0] h K=true:=by
 intro n h L S F i o K b hn A s H
 obtain⟨n,rfl⟩:∃m,n=m+1:=⟨n-1,by omega⟩
 apply ajp
 unfold YA
 refine bT A rfl rfl rfl fun r h A=> ?_
 unfold qE at H
 rw[aC] at H
 refine W.atom (by omega) A s (Post.mono H ?_ fun x f=>FK.pz' f.rest)
 intro v i o H hd h c A s
 refine aI rfl ?_
 obtain⟨w1,w2,w3⟩:=(A.f0:RB h c v).cells
 unfold Dy
 refine bT A rfl rfl rfl fun e h A=> ?_
 refine gL A rfl w1 rfl w2 fun h A=> ?_
 exact W.dots (by omega) (by omega) rfl hd A s H
theorem ZC {k:Nat} (W:WB tv p mp en T k):∀{n m h L S F i o K} [BaseF tv mp T F] {lv e r:Nat} {c c0:List AV} {b:Bt},4*(k+1)+40≤n→k+1≤m→lv≤4→c0.length=9→b.deep≤30→Cx h (vr p (pc tv mp en i o) :: vr e c :: vr r c0 :: L) S ((fun h=>RB h c b) :: F)→dJ T en i o→
 Post (mQ T (k+1) lv b i o) (Qo K p mp en tv T L S F) (FK K p mp en tv T L S F)→Eh (av E n) n m (.ptr p 0 0 0) (.int .i64 (lv:Int)) (.ptr r 0 0 0) (.ptr e 0 0 0) h K=true:=by
 intro n m h L S F i o K bF lv e r c c0 b hn hm hlv h0 hd A s H
 obtain⟨m,rfl⟩:∃q,m=q+1:=⟨m-1,by omega⟩
 have hl:=s.len
 have hlim:=qH
 obtain⟨w1,w2,w3⟩:=(A.f0:RB h c b).cells
 rw[Zk]
 unfold Lu
 refine c50 (by omega) A s (aI rfl ?_)
 unfold CK
 refine c51 (d:=0) (by omega) (by omega) A s fun h A=>aI rfl ?_
 rw[Nat.add_zero]
 obtain⟨x1,x2,ea⟩:=CP T i
 rw[ea]
 unfold D8
 refine bT A rfl rfl rfl fun l h A=> ?_
 refine gL A rfl rfl rfl rfl fun h A=> ?_
 obtain⟨f,f1,f2⟩:MP mp h:=A.fact (List.mem_cons_of_mem _ bF.ops)
 refine dW ?_;refine aB ?_;refine aG A.var rfl ?_;refine oU (f1 lv (by omega)) ?_;refine aB ?_;refine aG A.v1 rfl ?_;refine oU (f2 lv (txt T i) (by omega)) ?_;refine jl ?_;refine jh ?_
 have done:∀{h cl},Cx h (vr p (pc tv mp en i o) :: vr l cl :: vr e c :: vr r c0 :: L) S ((fun h=>RB h c b) :: F)→Qo K p mp en tv T L S F b i o→
  (bL h 9 (.ptr e 0 0 0) fun v27=>aN h 9 (.ptr r 0 0 0) v27 fun h=>gq (fG h [(.ptr r 0 0 0,some (true,9))]) h K)=true:=by
  intro h cl A H
  refine iw A.v2 w1 ?_
  have A:=A.rest1.rest1
  exact VU A h0 A.f0 fun h A=>H hd h c A s
 unfold mQ at H
 cases eo:uz lv (txt T i) with
 |none=>
  refine dn ?_
  refine lK ?_;refine lK ?_;refine lK ?_;refine dV ?_;refine bN ?_
  refine done A ?_
  cases et:T[i]? with
  |none=>rw[et] at H;exact H
  |some l=>
   rw[qd et] at eo
   rw[et] at H
   simp only[eo] at H
   exact H
 |some op=>
  refine bY ?_
  refine bV ?_;refine aB ?_;refine bV ?_;refine aG A.v1 rfl ?_;refine bV ?_;refine eF ?_;refine eG ?_
  rw[show decide (kdI T i=4)=eB T i 4 from Ld T i 4]
  cases ek:eB T i 4 with
  |false=>
   skip
   refine done A ?_
   unfold eB at ek
   cases et:T[i]? with
   |none=>rw[et] at H;exact H
   |some l=>
    rw[et] at ek
    simp only at ek
    rw[qd et] at eo
    rw[et] at H
    simp only[eo,of_decide_eq_false ek,if_false] at H
    exact H
  |true=>
   have hi:=qY ek
   have et:T[i]? =some T[i]:=List.getElem?_eq_getElem hi
   unfold eB at ek
   rw[et] at ek
   rw[qd et] at eo
   rw[et] at H
   simp only[eo,of_decide_eq_true ek,if_true] at H
   rw[show(!true)=false from rfl]
   refine bC ?_;refine dW ?_;refine aB ?_;refine aG A.var rfl ?_;refine lD (show i+1≤lim by omega) ?_;refine dW ?_;refine aB ?_
   refine BA A rfl rfl fun h A=> ?_
   have s:=s.step hi
   refine dQ rfl (iw A.v2 w1 ?_)
   have A:=A.rest1
   refine lD (show lv+1≤lim by omega) ?_
   rw[aC] at H
   refine W.level (by omega) (by omega) A s (Post.mono H ?_ fun x f=>FK.pz' f.rest.rest.drop)
   intro b2 i1 o1 H hd2 h c2 A s
   obtain⟨y1,y2,y3⟩:=(A.f0:RB h c2 b2).cells
   refine aI rfl (iw A.v1 w1 (dU (.agg w3) ?_))
   refine DC A rfl rfl rfl rfl (EN w1 w2 y1 y2) rfl fun q h A=> ?_
   refine iw A.v2 w1 (dU (.agg w3) ?_)
   rw[aC] at H
   refine ab2 (c:=c) (c':=c2) (by omega) hd hd2 (by simp) (by simp) (fun h A=>A.rowL) A s (Post.mono H ?_ fun x f=>FK.pz' fun h i o A=>vP rfl rfl A fun h A=>f h i o A.rest1.rest1.dropF.dropF)
   intro v i2 o2 H hd' h c' A s
   obtain⟨x1,x2,_⟩:=(A.f0:RB h c' v).cells
   refine aI rfl (UR A rfl x1 w1 x2 fun h A=> ?_)
   have A:=A.rest1.drop1.drop1
   refine oO ?_
   rw[dk2]
   cases e2:decide (lv=2) with
   |true=>
    have e2:=of_decide_eq_true e2
    rw[if_pos e2] at H
    refine bN (iw A.v1 x1 ?_)
    have A:=A.rest1
    exact VU A h0 A.f0 fun h A=>H hd' h c' A s
   |false=>
    have e2:=of_decide_eq_false e2
    rw[if_neg e2] at H
    refine bC ?_
    exact W.ops (by omega) (by omega) hlv h0 hd' A s H
theorem Q0 {k:Nat} (W:WB tv p mp en T k):∀{n h L S F i o K} [BaseF tv mp T F] {lv:Nat},4*(k+1)+40≤n→lv≤5→Cx h (vr p (pc tv mp en i o) :: L) S F→dJ T en i o→
 Post (bD T (k+1) lv i o) (Qo K p mp en tv T L S F) (FK K p mp en tv T L S F)→av E n (.func 79) [.ptr p 0 0 0, .int .i64 (lv:Int)] h K=true:=by
 intro n h L S F i o K b lv hn hlv A s H
 have hlim:=qH
 obtain⟨n,rfl⟩:∃m,n=m+1:=⟨n-1,by omega⟩
 apply d79
 unfold s79
 refine bT A rfl rfl rfl fun r h A=> ?_
 refine oO ?_
 rw[show decide ((lv:Int)=5)=decide (lv=5) from dkN lv 5]
 unfold bD at H
 cases e5:decide (lv=5) with
 |true=>
  rw[if_pos (of_decide_eq_true e5)] at H
  refine bN ?_
  refine W.sign (by omega) A s (Post.mono H ?_ fun x f=>FK.pz' f.rest)
  intro v i o H hd h c A s
  refine aI rfl ?_
  unfold Jf
  exact VU A rfl A.f0 fun h A=>H hd h c A s
 |false=>
  have e5:=of_decide_eq_false e5
  rw[if_neg e5,aC] at H
  refine bC ?_
  unfold Ti
  refine lD (by omega) ?_
  refine W.level (by omega) (by omega) A s (Post.mono H ?_ fun x f=>FK.pz' f.rest)
  intro v i o H hd h c A s
  obtain⟨w1,w2,w3⟩:=(A.f0:RB h c v).cells
  refine aI rfl ?_
  unfold Dw
  refine bT A rfl rfl rfl fun e h A=> ?_
  refine gL A rfl w1 rfl w2 fun h A=> ?_
  exact W.ops (by omega) (by omega) (by omega) rfl hd A s H
end
end Go.Proofs.YtibillhjmfbneaaGreatDoor
