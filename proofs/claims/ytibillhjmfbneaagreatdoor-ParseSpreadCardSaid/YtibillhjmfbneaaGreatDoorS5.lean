/-
  Texts that the claim hangs on, part 6.
-/
import Derived.Test.YtibillhjmfbneaaGreatDoorS4
set_option linter.unusedSimpArgs false
set_option linter.unusedVariables false
namespace Go.Proofs.YtibillhjmfbneaaGreatDoor
open Go.Ab
mutual
def RW (h:aj):List AV→Val→Prop
 |a, .mk k b n t l=>∃lv es,a=[.int .i64 k, .bool b, .int .i64 n, .str t,lv]∧View h 5 lv es∧O5 h es l
def O5 (h:aj):List (List AV)→List Val→Prop
 |es,[]=>es=[]
 |es,v :: l=>∃e r,es=e :: r∧RW h e v∧O5 h r l
end
mutual
def RE (h:aj):List AV→Ex→Prop
 |a, .mk op t v l=>∃cv va es,a= .int .i64 op :: .str t :: (cv++[va])∧RW h cv v∧View h 8 va es∧pK h es l
def pK (h:aj):List (List AV)→List Ex→Prop
 |es,[]=>es=[]
 |es,e :: l=>∃c r,es=c :: r∧RE h c e∧pK h r l
end
def RB (h:aj) (c:List AV) (b:Bt):Prop:=∃ce,c=ce++[.int .i64 (b.deep:Int)]∧RE h ce b.e
def BJ (h:aj):List (List AV)→List Bt→Prop
 |es,[]=>es=[]
 |es,b :: l=>∃c r,es=c :: r∧RB h c b∧BJ h r l
section
variable {h:aj} {L:jq} {S:List Sl} {F:List (aj→Prop)} {p mp en i n:Nat} {o:Int} {tv:AV} {T:List Lx} {K Q k:aM}
theorem aH {a:AV} {l:List AV} (h1:a.leaf=true) (h2:aD l=true):aD (a :: l)=true:=by simp only[aD,h1,cond_true,h2]
theorem gW {l m:List AV} (h1:aD l=true) (h2:aD m=true):aD (l++m)=true:=by
 induction l with
 |nil=>exact h2
 |cons a l ih=>
  simp only[aD] at h1
  cases hl:a.leaf with
  |false=>rw[hl] at h1;cases h1
  |true=>rw[hl,cond_true] at h1;exact aH hl (ih h1)
theorem RW.cells {a:List AV} {v:Val} (R:RW h a v):a.length=5∧aD a=true∧sN a:=by
 obtain⟨k,b,n,t,l⟩:=v
 simp only[RW] at R
 obtain⟨lv,es,rfl,V,_⟩:=R
 refine⟨rfl, ?_, .cons (.int _ _) (.cons (.bool _) (.cons (.int _ _) (.cons (.str _) (.cons V.lH .nil))))⟩
 exact aH rfl (aH rfl (aH rfl (aH rfl (aH V.leaf rfl))))
theorem RE.cells {a:List AV} {e:Ex} (R:RE h a e):a.length=8∧aD a=true∧sN a:=by
 obtain⟨op,t,v,l⟩:=e
 simp only[RE] at R
 obtain⟨cv,va,es,rfl,W,V,_⟩:=R
 obtain⟨w1,w2,w3⟩:=W.cells
 refine⟨by simp[w1], ?_, .cons (.int _ _) (.cons (.str _) (w3.app (.cons V.lH .nil)))⟩
 exact aH rfl (aH rfl (gW w2 (aH V.leaf rfl)))
theorem RB.cells {a:List AV} {b:Bt} (R:RB h a b):a.length=9∧aD a=true∧sN a:=by
 obtain⟨ce,rfl,R⟩:=R
 obtain⟨w1,w2,w3⟩:=R.cells
 exact⟨by simp[w1],gW w2 rfl,w3.app (.cons (.int _ _) .nil)⟩
theorem BJ.get {es:List (List AV)} {l:List Bt} (R:BJ h es l):es.length=l.length∧∀(j:Nat) (b:Bt),l[j]? =some b→∃c,es[j]? =some c∧RB h c b:=by
 induction l generalizing es with
 |nil=>simp only[BJ] at R;subst R;exact⟨rfl,fun j b e=>by simp at e⟩
 |cons b l ih=>
  simp only[BJ] at R
  obtain⟨c,r,rfl,R1,R2⟩:=R
  obtain⟨i1,i2⟩:=ih R2
  refine⟨by simp[i1],fun j b' e=> ?_⟩
  cases j with
  |zero=>simp at e;subst e;exact⟨c,by simp,R1⟩
  |succ j=>simp at e ⊢;exact i2 j b' e
theorem BJ.exs {es:List (List AV)} {l:List Bt} (R:BJ h es l):pK h (es.map (·.take 8)) (l.map Bt.e):=by
 induction l generalizing es with
 |nil=>simp only[BJ] at R;subst R;simp[pK]
 |cons b l ih=>
  simp only[BJ] at R
  obtain⟨c,r,rfl,⟨ce,rfl,R1⟩,R2⟩:=R
  simp only[List.map_cons,pK]
  refine⟨_,_,rfl, ?_,ih R2⟩
  have:=R1.cells.1
  rw[List.take_append_of_le_length (by omega),List.take_of_length_le (by omega)]
  exact R1
theorem BJ.app {es es':List (List AV)} {l l':List Bt} (R:BJ h es l) (R':BJ h es' l'):BJ h (es++es') (l++l'):=by
 induction l generalizing es with
 |nil=>simp only[BJ] at R;subst R;exact R'
 |cons b l ih=>
  simp only[BJ] at R
  obtain⟨c,r,rfl,R1,R2⟩:=R
  exact⟨c,r++es',rfl,R1,ih R2⟩
theorem BJ.one {c:List AV} {b:Bt} (R:RB h c b):BJ h [c] [b]:=⟨c,[],rfl,R,rfl⟩
@[reducible] def Z8:List AV:=[.int .i64 0, .str [], .int .i64 0, .bool false, .int .i64 0, .str [], .ah, .ah]
@[reducible] def Z9:List AV:=[.int .i64 0, .str [], .int .i64 0, .bool false, .int .i64 0, .str [], .ah, .ah, .int .i64 0]
@[reducible] def cEx (op:Int) (t:Str):List AV:=[.int .i64 op, .str t, .int .i64 0, .bool false, .int .i64 0, .str [], .ah, .ah]
theorem RW.zero:RW h [.int .i64 0, .bool false, .int .i64 0, .str [], .ah] OA:=by
 simp only[OA,RW]
 exact⟨.ah,[],rfl,View.nil h 5,by simp[O5]⟩
theorem RE.op (op:Int) (t:Str):RE h (cEx op t) (iL op t):=by
 simp only[iL,RE]
 exact⟨_, .ah,[],rfl,RW.zero,View.nil h 8,by simp[pK]⟩
theorem Ol (d:Nat) (l:List Bt) (b:Bt):kI d (l++[b])=max (kI d l) (b.deep+1):=by
 induction l generalizing d with
 |nil=>rfl
 |cons a l ih=>exact ih _
theorem RE.made {op:Int} {t:Str} {va:AV} {ea:List (List AV)} {l:List Ex} (V:View h 8 va ea) (R:pK h ea l):
 RE h [.int .i64 op, .str t, .int .i64 0, .bool false, .int .i64 0, .str [], .ah,va] ((iL op t).add l):=by
 simp only[iL,Ex.add,RE,List.nil_append]
 exact⟨_,va,ea,rfl,RW.zero,V,R⟩
theorem c93 (hn:10≤n) {x:Nat} {op:Int} {t:Str} {v2:AV} {ea:List (List AV)} {args:List Bt} (hl:args.length+5≤n) (hm:args.length≤100000) (hd:∀b∈args,b.deep≤100000)
 (kv:Knows L S F fun h=>View h 9 v2 ea) (kr:∀h,(∀R∈F,R h)→BJ h ea args) (A:Cx h L S F)
 (H:kI 1 args≤30→∀h c,Cx h L S ((fun h=>RB h c ⟨(iL op t).add (args.map Bt.e),kI 1 args⟩) :: F)→K (.agg c) h=true)
 (Hf:30<kI 1 args→∀h,Cx h L S F→K (flt T en x) h=true):
 au E n (.func 93) [.int .i64 (LQ T en x:Int), .agg (cEx op t),v2] h K=true:=by
 obtain⟨n,rfl⟩:∃m,n=m+1:=⟨n-1,by omega⟩
 have hmo:most=1099511627776:=rfl
 have hlim:=rU
 apply d93
 unfold s93
 refine zD A rfl rfl rfl fun b h A=> ?_
 refine bY A rfl rfl rfl fun r h A=> ?_
 refine iN A.var rfl (eG rfl ?_)
 refine bY A rfl rfl rfl fun u h A=> ?_
 refine gZ A rfl rfl rfl rfl fun h A=> ?_
 have kr':∀h {L S F'},Cx h L S (F'++F)→BJ h ea args:=fun h L S F' A=>kr h fun R m=>A.fact (List.mem_append.2 (.inr m))
 have R:=kr' h (F':=[]) A
 obtain⟨hlen,_⟩:=R.get
 refine fI (kv h A.rest.rest.rest) ?_
 have A:=A.slc 8
 have loop:∀d j m va h,args.length=j+d→d+1≤m→
  Cx h (vr b (cEx op t) :: vr u ([.int .i64 op, .str t, .int .i64 0, .bool false, .int .i64 0, .str [], .ah,va, .int .i64 (kI 1 (args.take j):Int)]) :: vr r Z9 :: L) (⟨va,8,(ea.take j).map (·.take 8)⟩ :: S) F→
  Qy (au E n) n m (.int .i64 (LQ T en x:Int)) (.ptr r 0 0 0) (.ptr u 0 0 0) v2 (.int .i64 (ea.length:Int)) (.int .i64 (j:Int)) h K=true:=by
  intro d
  induction d with
  |zero=>
   intro j m va h h1 h2 A
   obtain⟨m,rfl⟩:∃q,m=q+1:=⟨m-1,by omega⟩
   have hj:j=args.length:=by omega
   subst hj
   rw[List.take_of_length_le (Nat.le_refl _),List.take_of_length_le (by omega)] at A
   rw[VH]
   unfold QH
   refine jw ?_
   rw[show decide (args.length<ea.length)=false from decide_eq_false (by omega)]
   refine bg ?_
   unfold UM
   have A:=A.freeze
   refine aA ?_;refine aB A.v1 rfl ?_;refine nR ?_
   cases hc:decide (30<(kI 1 args:Int)) with
   |true=>
    have hc:30<kI 1 args:=by have:=of_decide_eq_true hc;omega
    refine bK ?_
    refine c49 (by omega) ?_
    exact Hf hc h A.eX.rest.rest.rest
   |false=>
    have hc:kI 1 args≤30:=by have:=of_decide_eq_false hc;omega
    refine bg ?_
    unfold NU
    refine iN A.v1 rfl ?_
    refine VY A rfl rfl rfl ?_ fun h A=> ?_
    ·have:=A.f0.leaf
     exact aH rfl (aH rfl (aH rfl (aH rfl (aH rfl (aH rfl (aH rfl (aH this rfl)))))))
    refine wZ A.v2 rfl ?_
    have A:=A.rest.rest.rest
    refine H hc h _ ?_
    refine(A.add (R:=fun h=>BJ h ea args) fun h q=>kr h fun R m=>q R (List.mem_cons_of_mem _ m)).imp2 fun h R V=> ?_
    exact⟨_,rfl,RE.made V R.exs⟩
  |succ d ih=>
   intro j m va h h1 h2 A
   obtain⟨m,rfl⟩:∃q,m=q+1:=⟨m-1,by omega⟩
   have hj:j<args.length:=by omega
   have hb:args[j]? =some args[j]:=List.getElem?_eq_getElem hj
   obtain⟨_,hg⟩:=(kr' h (F':=[]) A).get
   obtain⟨c,hc,RBc⟩:=hg j _ hb
   obtain⟨w1,w2,_⟩:=RBc.cells
   obtain⟨ce,rfl,REc⟩:=RBc
   obtain⟨x1,x2,_⟩:=REc.cells
   rw[VH]
   unfold QH
   refine jw ?_
   rw[show decide (j<ea.length)=true from decide_eq_true (by omega)]
   refine bK (ng (kv h (A.freeze.eX.rest.rest.rest)) hc fun id g q ld=>qH (v:= .agg (ce++[.int .i64 (args[j].deep:Int)])) ?_ ?_)
   ·rw[ld]
    simp only[mG,w1,List.drop_zero,cond_true]
    rw[List.take_of_length_le (by omega)]
    rfl
   refine bY A rfl rfl rfl fun a h A=> ?_
   refine gZ A rfl w1 rfl w2 fun h A=> ?_
   refine aA ?_;refine aA ?_;refine aB A.v2 rfl ?_;refine aA ?_
   refine aJ A.v1 (aI.2 (by rw[w1];decide)) ?_
   rw[List.drop_zero,List.take_append_of_le_length (by omega),List.take_of_length_le (by omega)]
   refine lQ A rfl rfl rfl rfl (gX x1 x2) rfl fun vb h A _=> ?_
   refine rQ A rfl A.f0.src ?_ ?_ fun va' h A _=> ?_
   ·simp;omega
   ·simp;omega
   have e8:ea.take (j+1)=ea.take j++[ce++[.int .i64 (args[j].deep:Int)]]:=by rw[List.take_add_one,hc];rfl
   have e9:args.take (j+1)=args.take j++[args[j]]:=by rw[List.take_add_one,hb];rfl
   refine aA ?_;refine aA ?_
   refine RG A rfl A.leafS fun h A=> ?_
   refine aA ?_;refine aB A.v2 rfl ?_;refine aA ?_
   refine aB A.v1 (v:= .int .i64 (args[j].deep:Int)) (by rw[List.getElem?_append_right (by omega),x1];rfl) ?_
   refine mI (by have:=hd _ (List.getElem_mem hj);omega) ?_
   refine qG (aeH _ _) ?_
   refine aA ?_
   refine RG A rfl rfl fun h A=> ?_
   refine mI (by omega) ?_
   refine ih (j+1) m va' h (by omega) (by omega) ?_
   rw[e8,e9,List.map_append,Ol]
   have e10:[ce++[AV.int .i64 (args[j].deep:Int)]].map (·.take 8)=[ce]:=by
    simp only[List.map_cons,List.map_nil]
    rw[List.take_append_of_le_length (by omega),List.take_of_length_le (by omega)]
   rw[e10]
   exact A.eX.bC
 exact loop args.length 0 n .ah h (by omega) (by omega) A
theorem c107 (hn:2≤n) {c:List AV} {v:Val} (W:∀h,(∀R∈F,R h)→RW h c v) (A:Cx h L S F)
 (H:∀h c,Cx h L S ((fun h=>RB h c (lit v)) :: F)→K (.agg c) h=true):au E n (.func 107) [.agg c] h K=true:=by
 obtain⟨n,rfl⟩:∃m,n=m+1:=⟨n-1,by omega⟩
 obtain⟨w1,w2,w3⟩:=(W h fun R m=>A.fact m).cells
 apply ai0
 unfold abW
 refine zD A w1 rfl w2 fun b h A=> ?_
 refine bY A rfl rfl rfl fun r h A=> ?_
 refine iN A.var w1 ?_
 have e1:pV Z8 [(0,1, .int .i64 1),(2,5, .agg c)]=some ([AV.int .i64 1, .str []]++(c++[.ah])):=by
  match c,w1,w2 with
  | [a,b,c,d,e],_,w2=>simp only[pV,AV.cells,w2,aD,AV.leaf,List.length_cons,List.length_nil,lay];rfl
 have e2:([AV.int .i64 1, .str []]++(c++[AV.ah])).length=8:=by simp[w1]
 have e3:aD ([AV.int .i64 1, .str []]++(c++[AV.ah]))=true:=gW rfl (gW w2 rfl)
 refine eG e1 ?_
 have e4:pV Z9 [(0,8, .agg ([AV.int .i64 1, .str []]++(c++[.ah]))),(8,1, .int .i64 1)]=some (([AV.int .i64 1, .str []]++(c++[.ah]))++[.int .i64 1]):=by
  match c,w1,w2 with
  | [a,b,c,d,e],_,w2=>
    have e3:aD (AV.agg ([AV.int .i64 1, .str []]++([a,b,c,d,e]++[.ah]))).cells=true:=gW rfl (gW w2 rfl)
    simp only[pV,e3]
    rfl
 refine eG e4 ?_
 refine gZ A rfl (by simp[w1]) rfl (gW e3 rfl) fun h A=> ?_
 refine wZ A.v1 (by simp[w1]) ?_
 have A:=A.rest.rest
 refine H h _ (A.add fun h q=> ?_)
 refine⟨_,rfl, ?_⟩
 simp only[lit,RE]
 exact⟨c, .ah,[],by simp,W h q,View.nil h 8,by simp[pK]⟩
end
section
variable {h:aj} {L:jq} {S:List Sl} {F:List (aj→Prop)} {p mp en i n:Nat} {o:Int} {tv:AV} {T:List Lx} {K Q k:aM}
abbrev Cli (σ:Type):=σ→jq→List Sl→List (aj→Prop)→Prop
def OkC {σ:Type} (C:Cli σ) (K:aM) (p mp en:Nat) (tv:AV) (T:List Lx):σ→Nat→Int→Prop:=fun s i o=>∀h L S F,C s L S F→Cx h (vr p (pc tv mp en i o) :: L) S F→dK T en i o→K (.tup []) h=true
def FC (D:jq→List Sl→List (aj→Prop)→Prop) (K:aM) (p mp en:Nat) (tv:AV) (T:List Lx):Nat→Prop:=fun x=>∀h i o L S F,D L S F→Cx h (vr p (pc tv mp en i o) :: L) S F→K (flt T en x) h=true
theorem c40 {σ:Type} {one:σ→PM σ} {C:Nat→Cli σ} {D:jq→List Sl→List (aj→Prop)→Prop} (hB:∀{j s L S F},C j s L S F→dL tv mp T F) (hD:∀{j s L S F},C j s L S F→D L S F) {kk:Nat} (hn:kk+12≤n) {w:Str} (hw:w≠[]) {clo:AV}
 (hone:∀{j s h L S F i o K},C (j+1) s L S F→Cx h (vr p (pc tv mp en i o) :: L) S F→dK T en i o→Post (one s i o) (OkC (C j) K p mp en tv T) (FC D K p mp en tv T)→nI (au E n) clo [] h K=true)
 {s:σ} (hC:C kk s L S F) (A:Cx h (vr p (pc tv mp en i o) :: L) S F) (st:dK T en i o)
 (H:Post (gq T w one kk s i o) (OkC (fun s L S F=>∃j,C j s L S F) K p mp en tv T) (FC D K p mp en tv T)):au E (n+1) (.func 40) [.ptr p 0 0 0, .str w,clo] h K=true:=by
 apply d40
 unfold s40
 unfold gq at H
 rw[aC] at H
 have loop:∀kk m first {s h L S F i o},kk≤m→kk+12≤n→C kk s L S F→Cx h (vr p (pc tv mp en i o) :: L) S F→dK T en i o→
  Post (qP T w one kk first s i o) (fun s i o=>Post (bnd (bV T w) (fun _=>ret s) i o) (OkC (fun s L S F=>∃j,C j s L S F) K p mp en tv T) (FC D K p mp en tv T)) (FC D K p mp en tv T)→
  Mj (au E n) n m (.ptr p 0 0 0) (.str w) clo (.bool first) h K=true:=by
  intro kk
  induction kk with
  |zero=>
   intro m first s h L S F i o hm hn hC A st H
   exact absurd H (fun q=>q)
  |succ kk ih=>
   intro m first s h L S F i o hm hn hC A st H
   obtain⟨m,rfl⟩:∃q,m=q+1:=⟨m-1,by omega⟩
   have bF:=hB hC
   have shut:∀{h},Cx h (vr p (pc tv mp en i o) :: L) S F→Post (bnd (bV T w) (fun _=>ret s) i o) (OkC (fun s L S F=>∃j,C j s L S F) K p mp en tv T) (FC D K p mp en tv T)→NM (au E n) n (.ptr p 0 0 0) (.str w) h K=true:=by
    intro h A H
    unfold NM
    rw[aC] at H
    refine Zu (by omega) hw A st (Post.mono H ?_ fun x f=> ?_)
    ·intro u i o H h A st
     exact aG rfl (H h L S F ⟨_,hC⟩ A st)
    ·exact fun h i o A=>f h i o L S F (hD hC) A
   have more:∀{h i o},Cx h (vr p (pc tv mp en i o) :: L) S F→dK T en i o→Post (bnd (one s) (qP T w one kk false) i o) (fun s i o=>Post (bnd (bV T w) (fun _=>ret s) i o) (OkC (fun s L S F=>∃j,C j s L S F) K p mp en tv T) (FC D K p mp en tv T)) (FC D K p mp en tv T)→
    nI (au E n) clo [] h (pz K fun v13 h=>Mj (au E n) n m (.ptr p 0 0 0) (.str w) clo (.bool false) h K)=true:=by
    intro h i o A st H
    rw[aC] at H
    refine hone hC A st (Post.mono H ?_ fun x f=>f)
    intro s i o H h L S F hC A st
    exact aG rfl (ih m false (by omega) (by omega) hC A st H)
   rw[adF]
   unfold Xo
   unfold qP at H
   cases first with
   |true=>
    rw[if_pos rfl] at H
    refine aY ?_;refine aS ?_;refine aY ?_;refine aS ?_;refine dY ?_
    refine Vd (d:=0) (by omega) (by omega) hw A st fun h A=>aG rfl ?_
    unfold Ct
    rw[Nat.add_zero]
    cases e:bN T i w with
    |true=>
     rw[if_pos e] at H
     repeat first |(with_reducible first |refine aS ?_ |refine bM ?_ |refine aY ?_ |refine bR ?_ |refine eH ?_ |refine rT ?_ |refine dG ?_)
     unfold uX
     refine bR ?_;refine dQ ?_;refine dQ ?_;refine bg ?_
     exact shut A H
    |false=>
     rw[if_neg (by rw[e];simp)] at H
     refine aY ?_;refine dw ?_;refine dG ?_;refine iR ?_;refine iR ?_;refine iR ?_;refine sW ?_;refine Bc ?_
     unfold uX
     refine iR ?_;refine dG ?_;refine bK ?_
     exact more A st H
   |false=>
    rw[if_neg (by simp)] at H
    refine eH ?_;refine eH ?_;refine rT ?_
    unfold Ct
    repeat first |(with_reducible first |refine aS ?_ |refine dw ?_ |refine aY ?_ |refine bR ?_ |refine eH ?_ |refine dY ?_ |refine dQ ?_)
    refine c19 (by omega) (by decide) A st ?_
    unfold eZ
    cases e:bN T i [44] with
    |true=>
     rw[if_pos e] at H
     rw[if_pos rfl]
     refine aZ fun h A st=>aG rfl ?_
     unfold uX
     refine bR ?_;refine dG ?_;refine dQ ?_;refine bK ?_
     exact more A st H
    |false=>
     rw[if_neg (by rw[e];simp)] at H
     rw[if_neg (by simp)]
     refine aZ fun h A st=>aG rfl ?_
     unfold uX
     refine bR ?_;refine dG ?_;refine dQ ?_;refine bg ?_
     exact shut A H
 exact loop kk n true (by omega) hn hC A st H
end
section
variable {h:aj} {L:jq} {S:List Sl} {F:List (aj→Prop)} {p mp en i n:Nat} {o:Int} {tv:AV} {T:List Lx} {K Q k:aM}
def R9 (K:aM) (p mp en:Nat) (tv:AV) (T:List Lx) (L:jq) (S:List Sl) (F:List (aj→Prop)):Bt→Nat→Int→Prop:=fun v i o=>v.deep≤30→∀h c,Cx h (vr p (pc tv mp en i o) :: L) S ((fun h=>RB h c v) :: F)→dK T en i o→K (.agg c) h=true
structure WB (tv:AV) (p mp en:Nat) (T:List Lx) (k:Nat):Prop where
 level:∀{n h L S F i o K} [dL tv mp T F] {lv:Nat},4*k+40≤n→lv≤5→Cx h (vr p (pc tv mp en i o) :: L) S F→dK T en i o→
  Post (bA T k lv i o) (R9 K p mp en tv T L S F) (FK K p mp en tv T L S F)→au E n (.func 79) [.ptr p 0 0 0, .int .i64 (lv:Int)] h K=true
 ops:∀{n m h L S F i o K} [dL tv mp T F] {lv e r:Nat} {c c0:List AV} {b:Bt},4*k+40≤n→k≤m→lv≤4→c0.length=9→b.deep≤30→Cx h (vr p (pc tv mp en i o) :: vr e c :: vr r c0 :: L) S ((fun h=>RB h c b) :: F)→dK T en i o→
  Post (mM T k lv b i o) (R9 K p mp en tv T L S F) (FK K p mp en tv T L S F)→EU (au E n) n m (.ptr p 0 0 0) (.int .i64 (lv:Int)) (.ptr r 0 0 0) (.ptr e 0 0 0) h K=true
 sign:∀{n h L S F i o K} [dL tv mp T F],4*k+40≤n→Cx h (vr p (pc tv mp en i o) :: L) S F→dK T en i o→
  Post (iJ T k i o) (R9 K p mp en tv T L S F) (FK K p mp en tv T L S F)→au E n (.func 92) [.ptr p 0 0 0] h K=true
 post:∀{n h L S F i o K} [dL tv mp T F],4*k+40≤n→Cx h (vr p (pc tv mp en i o) :: L) S F→dK T en i o→
  Post (qg T k i o) (R9 K p mp en tv T L S F) (FK K p mp en tv T L S F)→au E n (.func 102) [.ptr p 0 0 0] h K=true
 dots:∀{n m h L S F i o K} [dL tv mp T F] {e r:Nat} {c c0:List AV} {b:Bt},4*k+40≤n→k≤m→c0.length=9→b.deep≤30→Cx h (vr p (pc tv mp en i o) :: vr e c :: vr r c0 :: L) S ((fun h=>RB h c b) :: F)→dK T en i o→
  Post (nG T k b i o) (R9 K p mp en tv T L S F) (FK K p mp en tv T L S F)→Fe (au E n) n m (.ptr p 0 0 0) (.ptr r 0 0 0) (.ptr e 0 0 0) h K=true
 atom:∀{n h L S F i o K} [dL tv mp T F],4*k+40≤n→Cx h (vr p (pc tv mp en i o) :: L) S F→dK T en i o→
  Post (oF T k i o) (R9 K p mp en tv T L S F) (FK K p mp en tv T L S F)→au E n (.func 105) [.ptr p 0 0 0] h K=true
theorem FQ {x:Nat} {e:Ex} {args:List Bt} {k:Bt→Nat→Int→Prop} {f:Nat→Prop} (H:Post (fT x e args i o) k f):
 (kI 1 args≤30→k ⟨e.add (args.map Bt.e),kI 1 args⟩ i o)∧(30<kI 1 args→f x):=by
 unfold fT at H
 by_cases h:30<kI 1 args
 ·rw[if_pos h] at H;exact⟨fun q=>by omega,fun _=>H⟩
 ·rw[if_neg h] at H;exact⟨fun _=>H,fun q=>absurd q h⟩
theorem aek {a b:Str} (h:bN T i a=true) (hab:a≠b):bN T i b=false:=by
 unfold bN at h ⊢
 cases e:T[i]? with
 |none=>rfl
 |some l=>
  rw[e] at h
  simp only[Bool.and_eq_true,decide_eq_true_eq] at h
  simp only[decide_eq_false (show ¬(l.text=b) from fun q=>hab (h.1▸q)),Bool.false_and]
theorem YF {e1:Nat×fG} {r:Nat} {c c0:List AV} {v:Bt} {F':List (aj→Prop)} (A:Cx h (e1 :: vr r c0 :: L) S F') (h0:c0.length=9) (R:RB h c v) (s:∀h,Cx h (e1 :: L) S F'→K (.agg c) h=true):
 (aL h 9 (.ptr r 0 0 0) (.agg c) fun h=>gI (fM h [(.ptr r 0 0 0,some (true,9))]) h K)=true:=by
 obtain⟨w1,w2,_⟩:=R.cells
 exact gZ A rfl w1 h0 w2 fun h A=>wZ A.v1 w1 (s h A.bC)
theorem abr [b:dL tv mp T F] (hn:12≤n) {x:Nat} {op:Int} {t:Str} {v2:AV} {c:List AV} {e:Bt} (hd:e.deep≤30) (re:(fun h=>RB h c e)∈F) (kv:Knows (vr p (pc tv mp en i o) :: L) S F fun h=>View h 9 v2 [c])
 (A:Cx h (vr p (pc tv mp en i o) :: L) S F) (s:dK T en i o)
 (H:Post (fT x (iL op t) [e] i o) (R9 K p mp en tv T L S F) (FK K p mp en tv T L S F)):
 au E n (.func 93) [.int .i64 (LQ T en x:Int), .agg (cEx op t),v2] h K=true:=by
 obtain⟨H1,H2⟩:=FQ H
 refine c93 (args:=[e]) (by omega) (by simp;omega) (by simp) (fun b hb=>by simp at hb;subst hb;omega) kv (fun h q=>BJ.one (q _ re)) A ?_ ?_
 ·intro hm h c' A
  exact H1 hm hm h c' A s
 ·intro hm h A
  exact H2 hm h i o A
theorem ad9 [b:dL tv mp T F] (hn:12≤n) {x:Nat} {op:Int} {t:Str} {v2:AV} {c c':List AV} {e e':Bt} (hd:e.deep≤30) (hd':e'.deep≤30) (re:(fun h=>RB h c e)∈F) (re':(fun h=>RB h c' e')∈F) (kv:Knows (vr p (pc tv mp en i o) :: L) S F fun h=>View h 9 v2 [c,c'])
 (A:Cx h (vr p (pc tv mp en i o) :: L) S F) (s:dK T en i o)
 (H:Post (fT x (iL op t) [e,e'] i o) (R9 K p mp en tv T L S F) (FK K p mp en tv T L S F)):
 au E n (.func 93) [.int .i64 (LQ T en x:Int), .agg (cEx op t),v2] h K=true:=by
 obtain⟨H1,H2⟩:=FQ H
 refine c93 (args:=[e,e']) (by omega) (by simp;omega) (by simp) (fun b hb=>by simp at hb;rcases hb with rfl |rfl<;>omega) kv (fun h q=>(BJ.one (q _ re)).app (BJ.one (q _ re'))) A ?_ ?_
 ·intro hm h c' A
  exact H1 hm hm h c' A s
 ·intro hm h A
  exact H2 hm h i o A
theorem Yl {k:Nat} (W:WB tv p mp en T k):∀{n h L S F i o K} [dL tv mp T F],4*(k+1)+40≤n→Cx h (vr p (pc tv mp en i o) :: L) S F→dK T en i o→
 Post (iJ T (k+1) i o) (R9 K p mp en tv T L S F) (FK K p mp en tv T L S F)→au E n (.func 92) [.ptr p 0 0 0] h K=true:=by
 intro n h L S F i o K b hn A s H
 obtain⟨n,rfl⟩:∃m,n=m+1:=⟨n-1,by omega⟩
 apply d92
 unfold s92
 refine bY A rfl rfl rfl fun r h A=> ?_
 refine c50 (by omega) A s (aG rfl ?_)
 refine Vd (d:=0) (by omega) (by omega) (by decide) A s fun h A=>aG rfl ?_
 rw[Nat.add_zero]
 have one:∀(op:Int) {w:Str} {h},w≠[]→Cx h (vr p (pc tv mp en (i+1) o) :: vr r Z9 :: L) S F→dK T en (i+1) o→
  Post (bnd (gU i) (fun _=>bnd (iJ T k) fun e=>bnd kD fun _=>fT i (iL op []) [e]) (i+1) o) (R9 K p mp en tv T L S F) (FK K p mp en tv T L S F)→
  (au E n (.func 54) [.ptr p 0 0 0, .int .i64 (LQ T en i:Int)] h <| pz K fun v12 h=>au E n (.func 92) [.ptr p 0 0 0] h <| pz K fun v13 h=>zM (au E n) n (.ptr p 0 0 0) (.ptr r 0 0 0) (.int .i64 (LQ T en i:Int)) (.int .i64 op) v13 h K)=true:=by
  intro op w h hw A s H
  rw[aC] at H
  have s0:=s
  refine c54 (by omega) A s (Post.mono H.eqn ?_ fun x f=>FK.pz' (FK.rest f))
  intro u i1 o1 ⟨eq0,H⟩ h A s
  obtain⟨ho0,hi0⟩:=Du _ _ _ _ _ eq0
  refine aG rfl ?_
  rw[aC] at H
  refine W.sign (by omega) A s (Post.mono H.eqn ?_ fun x f=>FK.pz' (FK.rest f))
  intro e i1 o1 ⟨eq,H⟩ hd h c A s
  obtain⟨ho,hi1⟩:=(shE k).sign _ _ _ _ _ eq
  refine aG rfl ?_
  unfold zM
  obtain⟨w1,w2,w3⟩:=(A.f0:RB h c e).cells
  refine bY A rfl rfl rfl fun a h A=> ?_
  refine gZ A rfl w1 rfl w2 fun h A=> ?_
  have h1:=s.lo
  have h2:=s.hi
  have h3:=s.le
  have h4:=s.len
  refine eu ?_;refine aA ?_;refine aB A.var rfl ?_
  refine Uf (by omega) (by omega) ?_
  refine eu ?_;refine aA ?_
  refine Di A rfl rfl fun h A=> ?_
  refine eG rfl (iN A.v1 w1 ?_)
  refine lQ A rfl rfl rfl rfl (gX w1 w2) rfl fun vb h A _=> ?_
  have q1:=s0.lo
  have q2:=s0.hi
  refine abr (c:=c) (by omega) hd (by simp) (Knows.mem (by simp)) A ⟨s.len,s.le,by omega,by omega,s.LQ,s.num⟩ (Post.mono H ?_ fun x f=>FK.pz' f.rest.rest.drop.drop)
  intro v i2 o2 H hd h c' A s
  refine aG rfl ?_
  unfold DY
  have A:=A.bC
  exact YF A rfl A.f0 fun h A=>H hd h c' A.drop1.drop1 s
 unfold iJ at H
 cases e1:bN T i [33] with
 |true=>
  have e2:=aek e1 (b:=[45]) (by decide)
  rw[if_neg (by rw[e2];simp),if_pos e1] at H
  refine bK ?_
  unfold Iz
  refine c19 (by omega) (by decide) A s ?_
  unfold eZ
  rw[if_neg (by rw[e2];simp)]
  refine aZ fun h A s=>aG rfl ?_
  unfold vS
  refine dw ?_;refine aY ?_;refine aS ?_;refine dY ?_
  refine c19 (by omega) (by decide) A s ?_
  unfold eZ
  rw[if_pos e1]
  refine aZ fun h A s=>aG rfl ?_
  unfold vk
  refine aY ?_;refine bM ?_;refine dG ?_;refine bg ?_
  exact one 7 (w:=[33]) (by decide) A s H
 |false=>
  refine bg ?_
  unfold Iz
  cases e2:bN T i [45] with
  |true=>
   rw[if_pos e2] at H
   refine c19 (by omega) (by decide) A s ?_
   unfold eZ
   rw[if_pos e2]
   refine aZ fun h A s=>aG rfl ?_
   unfold vS
   refine bM ?_;refine eH ?_;refine rT ?_
   unfold vk
   refine eH ?_;refine dQ ?_;refine bg ?_
   exact one 6 (w:=[45]) (by decide) A s H
  |false=>
   rw[if_neg (by rw[e2];simp),if_neg (by rw[e1];simp)] at H
   refine c19 (by omega) (by decide) A s ?_
   unfold eZ
   rw[if_neg (by rw[e2];simp)]
   refine aZ fun h A s=>aG rfl ?_
   unfold vS
   refine dw ?_;refine aY ?_;refine aS ?_;refine dY ?_
   refine c19 (by omega) (by decide) A s ?_
   unfold eZ
   rw[if_neg (by rw[e1];simp)]
   refine aZ fun h A s=>aG rfl ?_
   unfold vk
   refine aY ?_;refine dw ?_;refine dG ?_;refine bK ?_
   refine W.post (by omega) A s (Post.mono H ?_ fun x f=>FK.pz' f.rest)
   intro v i o H hd h c A s
   refine aG rfl ?_
   unfold D9
   exact YF A rfl A.f0 fun h A=>H hd h c A s
theorem YN {k:Nat} (W:WB tv p mp en T k):∀{n m h L S F i o K} [dL tv mp T F] {e r:Nat} {c c0:List AV} {b:Bt},4*(k+1)+40≤n→k+1≤m→c0.length=9→b.deep≤30→Cx h (vr p (pc tv mp en i o) :: vr e c :: vr r c0 :: L) S ((fun h=>RB h c b) :: F)→dK T en i o→
 Post (nG T (k+1) b i o) (R9 K p mp en tv T L S F) (FK K p mp en tv T L S F)→Fe (au E n) n m (.ptr p 0 0 0) (.ptr r 0 0 0) (.ptr e 0 0 0) h K=true:=by
 intro n m h L S F i o K bF e r c c0 b hn hm h0 hd A s H
 obtain⟨m,rfl⟩:∃q,m=q+1:=⟨m-1,by omega⟩
 obtain⟨w1,w2,w3⟩:=(A.f0:RB h c b).cells
 rw[aad]
 unfold OV
 refine c50 (by omega) A s (aG rfl ?_)
 refine c19 (by omega) (by decide) A s ?_
 unfold eZ
 unfold nG at H
 cases e1:bN T i [46] with
 |false=>
  rw[if_neg (by rw[e1];simp)] at H
  rw[if_neg (by simp)]
  refine aZ fun h A s=>aG rfl ?_
  unfold wH
  refine dw ?_;refine bK ?_
  refine iN A.v1 w1 ?_
  have A:=A.bC
  exact YF A h0 A.f0 fun h A=>H hd h c A s
 |true=>
  rw[if_pos e1] at H
  rw[if_pos rfl]
  refine aZ fun h A s=>aG rfl ?_
  unfold wH
  refine bM ?_;refine bg ?_
  refine iN A.v1 w1 (EP A rfl rfl rfl rfl (gX w1 w2) rfl fun q h A=> ?_)
  refine iN A.v2 w1 (dZ (.agg w3) ?_)
  rw[aC] at H
  refine c31 (by omega) A s (Post.mono H ?_ fun x f=>FK.pz' fun h i o A=>wu rfl rfl A fun h A=>f h i o A.bC.bC.eX)
  intro t i1 o1 H h A s
  refine aG rfl ?_
  refine iN A.v2 w1 (dZ (.agg w3) (eG rfl ?_))
  rw[aC] at H
  refine abr (c:=c) (by omega) hd (by simp) (fun h A=>A.rowL) A s (Post.mono H ?_ fun x f=>FK.pz' fun h i o A=>wu rfl rfl A fun h A=>f h i o A.bC.bC.eX)
  intro v i2 o2 H hd' h c' A s
  refine aG rfl ?_
  obtain⟨x1,x2,_⟩:=(A.f0:RB h c' v).cells
  refine VY A rfl x1 w1 x2 fun h A=> ?_
  exact W.dots (by omega) (by omega) h0 hd' A.bC.drop1 s H
theorem Yh {k:Nat} (W:WB tv p mp en T k):∀{n h L S F i o K} [dL tv mp T F],4*(k+1)+40≤n→Cx h (vr p (pc tv mp en i o) :: L) S F→dK T en i o→
 Post (qg T (k+1) i o) (R9 K p mp en tv T L S F) (FK K p mp en tv T L S F)→au E n (.func 102) [.ptr p 0 0 0] h K=true:=by
 intro n h L S F i o K b hn A s H
 obtain⟨n,rfl⟩:∃m,n=m+1:=⟨n-1,by omega⟩
 apply ain
 unfold adh
 refine bY A rfl rfl rfl fun r h A=> ?_
 unfold qg at H
 rw[aC] at H
 refine W.atom (by omega) A s (Post.mono H ?_ fun x f=>FK.pz' f.rest)
 intro v i o H hd h c A s
 refine aG rfl ?_
 obtain⟨w1,w2,w3⟩:=(A.f0:RB h c v).cells
 unfold Fa
 refine bY A rfl rfl rfl fun e h A=> ?_
 refine gZ A rfl w1 rfl w2 fun h A=> ?_
 exact W.dots (by omega) (by omega) rfl hd A s H
theorem aas {k:Nat} (W:WB tv p mp en T k):∀{n m h L S F i o K} [dL tv mp T F] {lv e r:Nat} {c c0:List AV} {b:Bt},4*(k+1)+40≤n→k+1≤m→lv≤4→c0.length=9→b.deep≤30→Cx h (vr p (pc tv mp en i o) :: vr e c :: vr r c0 :: L) S ((fun h=>RB h c b) :: F)→dK T en i o→
 Post (mM T (k+1) lv b i o) (R9 K p mp en tv T L S F) (FK K p mp en tv T L S F)→EU (au E n) n m (.ptr p 0 0 0) (.int .i64 (lv:Int)) (.ptr r 0 0 0) (.ptr e 0 0 0) h K=true:=by
 intro n m h L S F i o K bF lv e r c c0 b hn hm hlv h0 hd A s H
 obtain⟨m,rfl⟩:∃q,m=q+1:=⟨m-1,by omega⟩
 have hl:=s.len
 have hlim:=rU
 obtain⟨w1,w2,w3⟩:=(A.f0:RB h c b).cells
 rw[abH]
 unfold Ng
 refine c50 (by omega) A s (aG rfl ?_)
 unfold Ei
 refine c51 (d:=0) (by omega) (by omega) A s fun h A=>aG rfl ?_
 rw[Nat.add_zero]
 obtain⟨x1,x2,ea⟩:=Fv T i
 rw[ea]
 unfold D7
 refine bY A rfl rfl rfl fun l h A=> ?_
 refine gZ A rfl rfl rfl rfl fun h A=> ?_
 obtain⟨f,f1,f2⟩:NV mp h:=A.fact (List.mem_cons_of_mem _ bF.ops)
 refine eu ?_;refine aA ?_;refine aB A.var rfl ?_;refine qG (f1 lv (by omega)) ?_;refine aA ?_;refine aB A.v1 rfl ?_;refine qG (f2 lv (txt T i) (by omega)) ?_;refine jL ?_;refine jG ?_
 have done:∀{h cl},Cx h (vr p (pc tv mp en i o) :: vr l cl :: vr e c :: vr r c0 :: L) S ((fun h=>RB h c b) :: F)→R9 K p mp en tv T L S F b i o→
  (bL h 9 (.ptr e 0 0 0) fun v27=>aL h 9 (.ptr r 0 0 0) v27 fun h=>gI (fM h [(.ptr r 0 0 0,some (true,9))]) h K)=true:=by
  intro h cl A H
  refine iN A.v2 w1 ?_
  have A:=A.bC.bC
  exact YF A h0 A.f0 fun h A=>H hd h c A s
 unfold mM at H
 cases eo:uZ lv (txt T i) with
 |none=>
  refine dw ?_
  refine iR ?_;refine iR ?_;refine iR ?_;refine dG ?_;refine bK ?_
  refine done A ?_
  cases et:T[i]? with
  |none=>rw[et] at H;exact H
  |some l=>
   rw[qR et] at eo
   rw[et] at H
   simp only[eo] at H
   exact H
 |some op=>
  refine bM ?_
  refine bR ?_;refine aA ?_;refine bR ?_;refine aB A.v1 rfl ?_;refine bR ?_;refine eU ?_;refine dQ ?_
  rw[show decide (kdI T i=4)=dN T i 4 from Oq T i 4]
  cases ek:dN T i 4 with
  |false=>
   skip
   refine done A ?_
   unfold dN at ek
   cases et:T[i]? with
   |none=>rw[et] at H;exact H
   |some l=>
    rw[et] at ek
    simp only at ek
    rw[qR et] at eo
    rw[et] at H
    simp only[eo,of_decide_eq_false ek,if_false] at H
    exact H
  |true=>
   have hi:=tK ek
   have et:T[i]? =some T[i]:=List.getElem?_eq_getElem hi
   unfold dN at ek
   rw[et] at ek
   rw[qR et] at eo
   rw[et] at H
   simp only[eo,of_decide_eq_true ek,if_true] at H
   rw[show(!true)=false from rfl]
   refine bg ?_;refine eu ?_;refine aA ?_;refine aB A.var rfl ?_;refine mI (show i+1≤lim by omega) ?_;refine eu ?_;refine aA ?_
   refine Di A rfl rfl fun h A=> ?_
   have s:=s.step hi
   refine eG rfl (iN A.v2 w1 ?_)
   have A:=A.bC
   refine mI (show lv+1≤lim by omega) ?_
   rw[aC] at H
   refine W.level (by omega) (by omega) A s (Post.mono H ?_ fun x f=>FK.pz' f.rest.rest.drop)
   intro b2 i1 o1 H hd2 h c2 A s
   obtain⟨y1,y2,y3⟩:=(A.f0:RB h c2 b2).cells
   refine aG rfl (iN A.v1 w1 (dZ (.agg w3) ?_))
   refine EP A rfl rfl rfl rfl (Gp w1 w2 y1 y2) rfl fun q h A=> ?_
   refine iN A.v2 w1 (dZ (.agg w3) ?_)
   rw[aC] at H
   refine ad9 (c:=c) (c':=c2) (by omega) hd hd2 (by simp) (by simp) (fun h A=>A.rowL) A s (Post.mono H ?_ fun x f=>FK.pz' fun h i o A=>wu rfl rfl A fun h A=>f h i o A.bC.bC.eX.eX)
   intro v i2 o2 H hd' h c' A s
   obtain⟨x1,x2,_⟩:=(A.f0:RB h c' v).cells
   refine aG rfl (VY A rfl x1 w1 x2 fun h A=> ?_)
   have A:=A.bC.drop1.drop1
   refine sS ?_
   rw[dk2]
   cases e2:decide (lv=2) with
   |true=>
    have e2:=of_decide_eq_true e2
    rw[if_pos e2] at H
    refine bK (iN A.v1 x1 ?_)
    have A:=A.bC
    exact YF A h0 A.f0 fun h A=>H hd' h c' A s
   |false=>
    have e2:=of_decide_eq_false e2
    rw[if_neg e2] at H
    refine bg ?_
    exact W.ops (by omega) (by omega) hlv h0 hd' A s H
theorem SG {k:Nat} (W:WB tv p mp en T k):∀{n h L S F i o K} [dL tv mp T F] {lv:Nat},4*(k+1)+40≤n→lv≤5→Cx h (vr p (pc tv mp en i o) :: L) S F→dK T en i o→
 Post (bA T (k+1) lv i o) (R9 K p mp en tv T L S F) (FK K p mp en tv T L S F)→au E n (.func 79) [.ptr p 0 0 0, .int .i64 (lv:Int)] h K=true:=by
 intro n h L S F i o K b lv hn hlv A s H
 have hlim:=rU
 obtain⟨n,rfl⟩:∃m,n=m+1:=⟨n-1,by omega⟩
 apply d79
 unfold s79
 refine bY A rfl rfl rfl fun r h A=> ?_
 refine sS ?_
 rw[show decide ((lv:Int)=5)=decide (lv=5) from dkN lv 5]
 unfold bA at H
 cases e5:decide (lv=5) with
 |true=>
  rw[if_pos (of_decide_eq_true e5)] at H
  refine bK ?_
  refine W.sign (by omega) A s (Post.mono H ?_ fun x f=>FK.pz' f.rest)
  intro v i o H hd h c A s
  refine aG rfl ?_
  unfold J3
  exact YF A rfl A.f0 fun h A=>H hd h c A s
 |false=>
  have e5:=of_decide_eq_false e5
  rw[if_neg e5,aC] at H
  refine bg ?_
  unfold Un
  refine mI (by omega) ?_
  refine W.level (by omega) (by omega) A s (Post.mono H ?_ fun x f=>FK.pz' f.rest)
  intro v i o H hd h c A s
  obtain⟨w1,w2,w3⟩:=(A.f0:RB h c v).cells
  refine aG rfl ?_
  unfold Ed
  refine bY A rfl rfl rfl fun e h A=> ?_
  refine gZ A rfl w1 rfl w2 fun h A=> ?_
  exact W.ops (by omega) (by omega) (by omega) rfl hd A s H
end
section
variable {h:aj} {L:jq} {S:List Sl} {F:List (aj→Prop)} {p mp en i n:Nat} {o:Int} {tv:AV} {T:List Lx} {K Q k:aM}
theorem Im {e1 e2:Nat×fG} {r:Nat} {c c0:List AV} {v:Bt} {F':List (aj→Prop)} (A:Cx h (e1 :: e2 :: vr r c0 :: L) S F') (h0:c0.length=9) (R:RB h c v) (s:∀h,Cx h (e1 :: L) S F'→K (.agg c) h=true):
 (aL h 9 (.ptr r 0 0 0) (.agg c) fun h=>gI (fM h [(.ptr r 0 0 0,some (true,9))]) h K)=true:=by
 obtain⟨w1,w2,_⟩:=R.cells
 exact VY A rfl w1 h0 w2 fun h A=>wZ A.v2 w1 (s h A.bC.bC)
theorem RW.lit (k:Int) (b:Bool) (n:Int) (t:Str):RW h [.int .i64 k, .bool b, .int .i64 n, .str t, .ah] (.mk k b n t []):=by
 simp only[RW]
 exact⟨.ah,[],rfl,View.nil h 5,by simp[O5]⟩
theorem Xg {w:Str} (h:bN T i w=true):txt T i=w:=by
 unfold bN at h
 unfold txt
 cases e:T[i]? with
 |none=>rw[e] at h;cases h
 |some l=>
  rw[e] at h
  simp only[Bool.and_eq_true,decide_eq_true_eq] at h
  exact h.1
theorem Xy (s:dK T en i o) (hk:dN T i 2=true):(pI (txt T i)).isSome=true∧(txt T i).length≤1000000∧∀v,pI (txt T i)=some (some v)→0≤v:=by
 have hi:=tK hk
 have e:T[i]? =some T[i]:=List.getElem?_eq_getElem hi
 unfold dN at hk
 rw[e] at hk
 rw[qR e]
 exact s.num _ (List.getElem_mem hi) (of_decide_eq_true hk)
theorem c56 (hn:1≤n) {t:Str} (A:Cx h L S F) (g:GvF∈F) (h1:(pI t).isSome=true) (h2:t.length≤1000000)
 (H1:∀v,pI t=some (some v)→K (.tup [.int .i64 v, .iX]) h=true)
 (H2:pI t=some none→∀h u w,Cx h L S F→K (.tup [.int .i64 u, .ifc 151 w]) h=true):au E n (.func 56) [.str t, .int .i64 10, .int .i64 64] h K=true:=by
 obtain⟨n,rfl⟩:∃m,n=m+1:=⟨n-1,by omega⟩
 have hp:E.prim 56=some (Gi 151 1):=rfl
 simp only[au,hp]
 show Gi 151 1 (au E n) n [.str t, .int .i64 (.ofNat 10), .int .i64 (.ofNat 64)] h K=true
 simp only[Gi,aI.2 h2,Nat.beq_refl,Bool.and_self,cond_true]
 cases e:pI t with
 |none=>rw[e] at h1;cases h1
 |some v=>
  cases v with
  |some v=>exact H1 v e
  |none=>
   have hg:h.get 0=some (.gvar 1):=A.fact g
   simp only[hg,Nat.beq_refl,cond_true]
   exact H2 e _ _ _ (A.new .gone).rest
theorem XO {k:Nat} (hk:k≤100000) (W:WB tv p mp en T k):∀{n h L S F i o K} [dL tv mp T F],4*(k+1)+40≤n→Cx h (vr p (pc tv mp en i o) :: L) S F→dK T en i o→
 Post (oF T (k+1) i o) (R9 K p mp en tv T L S F) (FK K p mp en tv T L S F)→au E n (.func 105) [.ptr p 0 0 0] h K=true:=by
 intro n h L S F i o K b hn A s H
 obtain⟨n,rfl⟩:∃m,n=m+1:=⟨n-1,by omega⟩
 have hmo:most=1099511627776:=rfl
 have hl:=s.len
 have hlim:=rU
 apply ajN
 unfold acZ
 refine QE A rfl fun pb h A=> ?_
 refine bY A rfl rfl rfl fun r h A=> ?_
 repeat with_reducible refine aB A.v2 rfl ?_
 refine bY A rfl rfl rfl fun l h A=> ?_
 repeat first |with_reducible refine aB A.v3 rfl ?_ |refine dZ (lH.ptr _ _ _ _) ?_
 refine c50 (by omega) A s (aG rfl ?_)
 refine aB A.v3 rfl ?_;refine dZ (lH.ptr _ _ _ _) ?_
 refine c51 (d:=0) (by omega) (by omega) A s fun h A=>aG rfl ?_
 rw[Nat.add_zero]
 obtain⟨x1,x2,ea⟩:=Fv T i
 rw[ea]
 refine gZ A rfl rfl rfl rfl fun h A=> ?_
 refine aA ?_;refine aB A.v1 rfl ?_;refine sS ?_
 rw[show decide (kdI T i=2)=dN T i 2 from Oq T i 2]
 unfold oF at H
 cases k2:dN T i 2 with
 |true=>
  rw[if_pos k2] at H
  obtain⟨n1,n2,_⟩:=Xy s k2
  have hi:=tK k2
  refine bK ?_;refine aA ?_;refine aB A.v1 rfl ?_
  refine c56 (by omega) A b.gv n1 n2 ?_ ?_
  ·intro v ev
   rw[ev] at H
   refine aG rfl ?_
   unfold wB
   refine jL ?_;refine jG ?_;refine aB A.v3 rfl ?_;refine qG (show EN h false .ifn .iX .iX=some (.bool true) from rfl) ?_
   refine O8 (by omega) A s (aZ fun h A s=>aG rfl ?_)
   refine aB A.v3 rfl ?_;refine eu ?_;refine aA ?_;refine aB A.var rfl ?_;refine mI (show i+1≤lim by omega) ?_;refine eu ?_;refine aA ?_
   refine Di A rfl rfl fun h A=> ?_
   refine eG rfl ?_
   refine c107 (by omega) (fun h _=>RW.lit 2 false v []) A fun h c A=>aG rfl ?_
   unfold AA
   exact Im A rfl A.f0 fun h A=>H (show(1:Nat)≤30 by decide) h c A.bC (s.step hi)
  ·intro ev h u w A
   rw[ev] at H
   refine aG rfl ?_
   unfold wB
   refine jL ?_;refine jG ?_;refine aB A.v3 rfl ?_;refine qG (show EN h false .ifn (.ifc 151 w) .iX=some (.bool false) from rfl) ?_
   exact O8 (by omega) A s (FK.pz' (show FK K p mp en tv T L S F i from H).rest.rest.rest)
 |false=>
  rw[if_neg (by rw[k2];simp)] at H
  refine bg ?_;refine aA ?_;refine aB A.v1 rfl ?_;refine sS ?_
  rw[show decide (kdI T i=3)=dN T i 3 from Oq T i 3]
  cases k3:dN T i 3 with
  |true=>
   rw[if_pos k3] at H
   have hi:=tK k3
   refine bK ?_;refine aB A.v3 rfl ?_
   refine c53 (by omega) hi A s fun h A s=>aG rfl ?_
   unfold Bo
   refine eG rfl ?_
   refine c107 (by omega) (fun h _=>RW.lit 3 false 0 (txt T i)) A fun h c A=>aG rfl ?_
   unfold Am
   exact Im A rfl A.f0 fun h A=>H (show(1:Nat)≤30 by decide) h c A.bC s
  |false=>
   rw[if_neg (by rw[k3];simp)] at H
   refine bg ?_;refine aB A.v3 rfl ?_
   refine c19 (by omega) (by decide) A s ?_
   unfold eZ
   cases bt:bN T i [116,114,117,101] with
   |true=>
    rw[if_pos bt] at H
    rw[if_pos rfl]
    refine aZ fun h A s=>aG rfl ?_
    refine bK ?_
    unfold zx
    refine bK ?_;refine aA ?_;refine aB A.v1 rfl ?_;refine Dj ?_
    rw[Xg bt]
    refine eG rfl ?_
    refine c107 (by omega) (fun h _=>RW.lit 1 true 0 []) A fun h c A=>aG rfl ?_
    unfold wL
    exact Im A rfl A.f0 fun h A=>H (show(1:Nat)≤30 by decide) h c A.bC s
   |false=>
    rw[if_neg (by rw[bt];simp)] at H
    rw[if_neg (by simp)]
    refine aZ fun h A s=>aG rfl ?_
    refine bg ?_;refine aB A.v3 rfl ?_
    refine c19 (by omega) (by decide) A s ?_
    unfold eZ
    cases bf:bN T i [102,97,108,115,101] with
    |true=>
     rw[if_pos bf] at H
     rw[if_pos rfl]
     refine aZ fun h A s=>aG rfl ?_
     unfold zx
     refine bK ?_;refine aA ?_;refine aB A.v1 rfl ?_;refine Dj ?_
     rw[Xg bf]
     refine eG rfl ?_
     refine c107 (by omega) (fun h _=>RW.lit 1 false 0 []) A fun h c A=>aG rfl ?_
     unfold wL
     exact Im A rfl A.f0 fun h A=>H (show(1:Nat)≤30 by decide) h c A.bC s
    |false=>
     rw[if_neg (by rw[bf];simp)] at H
     rw[if_neg (by simp)]
     refine aZ fun h A s=>aG rfl ?_
     unfold zx
     refine bg ?_;refine aB A.v3 rfl ?_
     refine c19 (by omega) (by decide) A s ?_
     unfold eZ
     cases bn:bN T i [110,117,108,108] with
     |true=>
      rw[if_pos bn] at H
      rw[if_pos rfl]
      refine aZ fun h A s=>aG rfl ?_
      refine bK (eG rfl ?_)
      refine c107 (by omega) (fun h _=>RW.zero) A fun h c A=>aG rfl ?_
      unfold AP
      exact Im A rfl A.f0 fun h A=>H (show(1:Nat)≤30 by decide) h c A.bC s
     |false=>
      rw[if_neg (by rw[bn];simp)] at H
      rw[if_neg (by simp)]
      refine aZ fun h A s=>aG rfl ?_
      refine bg ?_;refine aA ?_;refine aB A.v1 rfl ?_;refine sS ?_
      rw[show decide (kdI T i=1)=dN T i 1 from Oq T i 1]
      cases k1:dN T i 1 with
      |true=>
       rw[if_pos k1,aC] at H
       refine bK ?_;refine aB A.v3 rfl ?_
       refine c42 (by omega) A s (Post.mono H ?_ fun x f=>FK.pz' f.rest.rest.rest)
       intro t i o H h A s
       refine aG rfl ?_
       unfold Bl
       refine eG rfl (eG rfl ?_)
       have A:=A.add (R:=fun h=>RB h (cEx 2 t++[.int .i64 1]) ⟨iL 2 t,1⟩) fun h _=>⟨cEx 2 t,rfl,RE.op 2 t⟩
       exact Im (c:=cEx 2 t++[.int .i64 1]) A rfl A.f0 fun h A=>H (show(1:Nat)≤30 by decide) h _ A.bC s
      |false=>
       rw[if_neg (by rw[k1];simp)] at H
       refine bg ?_;refine aB A.v3 rfl ?_
       refine Vd (d:=0) (by omega) (by omega) (by decide) A s fun h A=>aG rfl ?_
       rw[Nat.add_zero]
       cases bp:bN T i [40] with
       |true=>
        rw[if_pos bp,aC] at H
        refine bK ?_;refine aB A.v3 rfl ?_
        refine c32 (by omega) (by decide) A s (Post.mono H ?_ fun x f=>FK.pz' f.rest.rest.rest)
        intro u i o H h A s
        refine aG rfl ?_
        refine aB A.v3 rfl ?_
        rw[aC] at H
        refine W.level (lv:=0) (by omega) (by omega) A s (Post.mono H ?_ fun x f=>FK.pz' f.rest.rest.rest)
        intro v i o H hd h c A s
        refine aG rfl ?_
        obtain⟨w1,w2,w3⟩:=(A.f0:RB h c v).cells
        unfold Bj
        refine bY A rfl rfl rfl fun e h A=> ?_
        refine gZ A rfl w1 rfl w2 fun h A=> ?_
        refine aB A.v4 rfl ?_
        rw[aC] at H
        refine Zu (by omega) (by decide) A s (Post.mono H ?_ fun x f=>FK.pz' f.rest.rest.rest.rest.drop)
        intro u i o H h A s
        refine aG rfl (iN A.v1 w1 ?_)
        exact Im A.bC rfl A.f0 fun h A=>H hd h c A.bC s
       |false=>
        rw[if_neg (by rw[bp];simp)] at H
        refine bg ?_;refine aB A.v3 rfl ?_
        refine Vd (d:=0) (by omega) (by omega) (by decide) A s fun h A=>aG rfl ?_
        rw[Nat.add_zero]
        cases bq:bN T i [91] with
        |true=>
         rw[if_pos bq,aC] at H
         refine bK ?_
         refine bY A rfl rfl rfl fun ab h A=> ?_
         refine aB A.v4 rfl ?_
         refine c32 (by omega) (by decide) A s (Post.mono H ?_ fun x f=>FK.pz' f.rest.rest.rest.rest)
         intro u i1 o1 H h A s
         refine aG rfl ?_
         refine aB A.v4 rfl ?_;refine aS ?_
         rw[aC] at H
         obtain⟨n,rfl⟩:∃m,n=m+1:=⟨n-1,by omega⟩
         have A:=(A.slc 9).tru (R:=fun h=>BJ h [] []) fun h=>rfl
         let L1:jq:=vr l [.int .i64 (kdI T i), .str (txt T i), .int .i64 x1, .int .i64 x2] :: vr r Z9 :: vr pb [.ptr p 0 0 0] :: L
         refine c40 (one:=fun l=>bnd (bA T k 0) fun b=>ret (l++[b])) (kk:=k) (s:=[])
          (C:=fun j acc L' S' F'=>∃va ea,L'=vr ab [va] :: L1∧S'=⟨va,9,ea⟩ :: S∧F'=(fun h=>BJ h ea acc) :: F∧acc.length+j≤k∧∀b∈acc,b.deep≤30)
          (D:=fun L' S' F'=>∃va ea R,L'=vr ab [va] :: L1∧S'=⟨va,9,ea⟩ :: S∧F'=R :: F)
          (fun{j s L S F} hC=>by obtain⟨_,_,_,_,rfl,_⟩:=hC;infer_instance)
          (fun{j s L S F} hC=>by obtain⟨va,ea,h1,h2,h3,_⟩:=hC;exact⟨va,ea,_,h1,h2,h3⟩)
          (by omega) (by decide) ?_ ⟨.ah,[],rfl,rfl,rfl,by simp,by simp⟩ A s (Post.mono H ?_ ?_)
         ·intro j acc h L' S' F' i o K' hC A s H
          obtain⟨va,ea,rfl,rfl,rfl,hj,hdp⟩:=hC
          show au E n (.func 108) [.ptr ab 0 0 0, .ptr pb 0 0 0] h K'=true
          obtain⟨n,rfl⟩:∃m,n=m+1:=⟨n-1,by omega⟩
          apply aiJ
          unfold adi
          refine aB A.v1 rfl ?_;refine aB A.v4 rfl ?_
          rw[aC] at H
          have hlen:=(A.f0:BJ h ea acc).get.1
          refine W.level (lv:=0) (by omega) (by omega) A s (Post.mono H ?_ ?_)
          ·intro v i o H hd h c A s
           obtain⟨w1,w2,w3⟩:=(A.f0:RB h c v).cells
           refine aG rfl ?_
           have V:lH va:=A.view.lH
           refine aB A.v1 rfl ?_;refine dZ V ?_
           refine lQ A rfl rfl rfl rfl (gX w1 w2) rfl fun vb h A _=> ?_
           refine aB A.v1 rfl ?_;refine dZ V ?_;refine aB A.v4 rfl ?_;refine dZ (lH.ptr _ _ _ _) ?_
           refine rQ A rfl A.f0.src ?_ ?_ fun va' h A _=> ?_
           ·simp;omega
           ·simp;omega
           refine iC A rfl A.leafS fun h A=> ?_
           have A:=A.eX.imp2 (R:=fun h=>BJ h (ea++[c]) (acc++[v])) fun h R1 R2=>R2.app (BJ.one R1)
           refine H h _ _ _ ⟨va',ea++[c],rfl,rfl,rfl,by simp;omega, ?_⟩ A s
           intro b hb
           rcases List.mem_append.1 hb with hb |hb
           ·exact hdp b hb
           ·simp at hb;subst hb;exact hd
          ·intro x f h i o A
           exact f h i o _ _ _ ⟨va,ea,_,rfl,rfl,rfl⟩ A
         ·intro acc i o H h L' S' F' hC A s
          obtain⟨j,va,ea,rfl,rfl,rfl,hj,hdp⟩:=hC
          refine aG rfl (eG rfl ?_)
          refine aB A.v1 rfl ?_
          have A:=A.freeze
          obtain⟨H1,H2⟩:=FQ H
          refine c93 (ea:=ea) (args:=acc) (by omega) (by omega) (by omega) (fun b hb=>by have:=hdp b hb;omega) (Knows.mem (by simp)) (fun h q=>q (fun h=>BJ h ea acc) (by simp)) A ?_ ?_
          ·intro hm h c A
           refine aG rfl ?_
           unfold AQ
           have A:=A.bC
           exact Im A rfl A.f0 fun h A=>H1 hm hm h c A.bC.drop1.drop1 s
          ·intro hm h A
           exact H2 hm h i o A.eX.eX.bC.bC.bC.bC
         ·intro x f h i o L' S' F' hD A
          obtain⟨va,ea,R,rfl,rfl,rfl⟩:=hD
          exact f h i o A.freeze.eX.eX.bC.bC.bC.bC
        |false=>
         rw[if_neg (by rw[bq];simp)] at H
         refine bg ?_;refine aB A.v3 rfl ?_
         refine c19 (by omega) (by decide) A s ?_
         unfold eZ
         cases bs:bN T i [115,105,122,101] with
         |true=>
          rw[if_pos bs,aC] at H
          rw[if_pos rfl]
          refine aZ fun h A s=>aG rfl ?_
          refine bK ?_;refine aB A.v3 rfl ?_
          refine c32 (by omega) (by decide) A s (Post.mono H ?_ fun x f=>FK.pz' f.rest.rest.rest)
          intro u i1 o1 H h A s
          refine aG rfl ?_
          refine aB A.v3 rfl ?_
          rw[aC] at H
          refine W.level (lv:=0) (by omega) (by omega) A s (Post.mono H ?_ fun x f=>FK.pz' f.rest.rest.rest)
          intro v i1 o1 H hd h c A s
          refine aG rfl ?_
          obtain⟨w1,w2,w3⟩:=(A.f0:RB h c v).cells
          unfold AU
          refine bY A rfl rfl rfl fun e h A=> ?_
          refine gZ A rfl w1 rfl w2 fun h A=> ?_
          refine aB A.v4 rfl ?_
          rw[aC] at H
          refine Zu (by omega) (by decide) A s (Post.mono H ?_ fun x f=>FK.pz' f.rest.rest.rest.rest.drop)
          intro u i1 o1 H h A s
          refine aG rfl (eG rfl (iN A.v1 w1 ?_))
          refine lQ A rfl rfl rfl rfl (gX w1 w2) rfl fun vb h A _=> ?_
          refine abr (c:=c) (by omega) hd (by simp) (Knows.mem (by simp)) A s (Post.mono H ?_ fun x f=>FK.pz' f.rest.rest.rest.rest.drop.drop)
          intro v2 i2 o2 H hd h c' A s
          refine aG rfl ?_
          unfold AB
          have A:=A.bC
          exact Im A rfl A.f0 fun h A=>H hd h c' A.bC.drop1.drop1 s
         |false=>
          rw[if_neg (by rw[bs];simp)] at H
          rw[if_neg (by simp)]
          refine aZ fun h A s=>aG rfl ?_
          refine bg ?_;refine aB A.v3 rfl ?_
          refine c19 (by omega) (by decide) A s ?_
          unfold eZ
          cases bh:bN T i [104,97,115] with
          |true=>
           rw[if_pos bh,aC] at H
           rw[if_pos rfl]
           refine aZ fun h A s=>aG rfl ?_
           refine bK ?_;refine aB A.v3 rfl ?_
           refine c32 (by omega) (by decide) A s (Post.mono H ?_ fun x f=>FK.pz' f.rest.rest.rest)
           intro u i1 o1 H h A s
           refine aG rfl ?_
           refine aB A.v3 rfl ?_
           rw[aC] at H
           refine W.level (lv:=0) (by omega) (by omega) A s (Post.mono H ?_ fun x f=>FK.pz' f.rest.rest.rest)
           intro v i1 o1 H hd h c A s
           refine aG rfl ?_
           obtain⟨w1,w2,w3⟩:=(A.f0:RB h c v).cells
           unfold Ar
           refine bY A rfl rfl rfl fun e h A=> ?_
           refine gZ A rfl w1 rfl w2 fun h A=> ?_
           refine aB A.v4 rfl ?_
           rw[aC] at H
           refine kP (by omega) (by decide) A s (Post.mono H ?_ fun x f=>f.rest.rest.rest.rest.drop)
           intro u i1 o1 H h A s
           refine aB A.v4 rfl ?_
           rw[aC] at H
           refine W.level (lv:=0) (by omega) (by omega) A s (Post.mono H ?_ fun x f=>FK.pz' f.rest.rest.rest.rest.drop)
           intro v2 i1 o1 H hd2 h c2 A s
           refine aG rfl ?_
           obtain⟨y1,y2,y3⟩:=(A.f0:RB h c2 v2).cells
           unfold Bg
           refine bY A rfl rfl rfl fun e2 h A=> ?_
           refine gZ A rfl y1 rfl y2 fun h A=> ?_
           refine aB A.rest.v4 rfl ?_
           rw[aC] at H
           refine Zu (by omega) (by decide) A s (Post.mono H ?_ fun x f=>FK.pz' f.rest.rest.rest.rest.rest.drop.drop)
           intro u i1 o1 H h A s
           refine aG rfl (eG rfl (iN A.v2 w1 (iN A.v1 y1 ?_)))
           refine lQ A rfl rfl rfl rfl (Gp w1 w2 y1 y2) rfl fun vb h A _=> ?_
           refine ad9 (c:=c) (c':=c2) (by omega) hd hd2 (by simp) (by simp) (Knows.mem (by simp)) A s (Post.mono H ?_ fun x f=>FK.pz' f.rest.rest.rest.rest.rest.drop.drop.drop)
           intro v3 i2 o2 H hd h c' A s
           refine aG rfl ?_
           unfold Aw
           have A:=A.bC.bC
           exact Im A rfl A.f0 fun h A=>H hd h c' A.bC.drop1.drop1.drop1 s
          |false=>
           rw[if_neg (by rw[bh];simp),aC] at H
           rw[if_neg (by simp)]
           refine aZ fun h A s=>aG rfl ?_
           refine bg ?_;refine aB A.v3 rfl ?_
           refine c31 (by omega) A s (Post.mono H ?_ fun x f=>FK.pz' f.rest.rest.rest)
           intro t i o H h A s
           refine aG rfl ?_
           unfold xW
           refine eG rfl (eG rfl ?_)
           have A:=A.add (R:=fun h=>RB h (cEx 3 t++[.int .i64 1]) ⟨iL 3 t,1⟩) fun h _=>⟨cEx 3 t,rfl,RE.op 3 t⟩
           exact Im (c:=cEx 3 t++[.int .i64 1]) A rfl A.f0 fun h A=>H (show(1:Nat)≤30 by decide) h _ A.bC s
theorem ZI:∀k,k≤100000→WB tv p mp en T k
 |0,_=>⟨fun _ _ _ _ H=>absurd H (by unfold bA;exact fun q=>q),fun _ _ _ _ _ _ _ H=>absurd H (by unfold mM;exact fun q=>q),fun _ _ _ H=>absurd H (by unfold iJ;exact fun q=>q),
   fun _ _ _ H=>absurd H (by unfold qg;exact fun q=>q),fun _ _ _ _ _ _ H=>absurd H (by unfold nG;exact fun q=>q),fun _ _ _ H=>absurd H (by unfold oF;exact fun q=>q)⟩
 |k+1,hk=>by
  have W:=ZI k (by omega)
  exact⟨SG W,aas W,Yl W,Yh W,YN W,XO (by omega) W⟩
def OkE (K:aM) (p mp en:Nat) (tv:AV) (T:List Lx) (L:jq) (S:List Sl) (F:List (aj→Prop)):Ex→Nat→Int→Prop:=fun v i o=>∀h c,Cx h (vr p (pc tv mp en i o) :: L) S ((fun h=>RE h c v) :: F)→dK T en i o→K (.agg c) h=true
theorem c59 [b:dL tv mp T F] {k:Nat} (hk:k≤100000) (hn:4*k+41≤n) (A:Cx h (vr p (pc tv mp en i o) :: L) S F) (s:dK T en i o)
 (H:Post (gY T k i o) (OkE K p mp en tv T L S F) (FK K p mp en tv T L S F)):au E n (.func 59) [.ptr p 0 0 0] h K=true:=by
 obtain⟨n,rfl⟩:∃m,n=m+1:=⟨n-1,by omega⟩
 apply d59
 unfold s59
 unfold gY at H
 rw[aC] at H
 refine bY A rfl rfl rfl fun r h A=> ?_
 refine(ZI k hk).level (lv:=0) (by omega) (by omega) A s (Post.mono H ?_ fun x f=>FK.pz' f.rest)
 intro v i o H hd h c A s
 refine aG rfl ?_
 obtain⟨ce,rfl,R⟩:=(A.f0:RB h c v)
 obtain⟨w1,w2,w3⟩:=R.cells
 unfold HY
 refine qG (v:= .agg ce) ?_ ?_
 ·simp only[KV,mG,cond_true,List.length_append,w1,List.length_cons,List.length_nil,List.drop_zero]
  rw[List.take_append_of_le_length (by omega),List.take_of_length_le (by omega)]
  rfl
 refine gZ A rfl w1 rfl w2 fun h A=>wZ A.v1 w1 ?_
 refine H h ce (A.bC.imp fun h R=> ?_) s
 obtain⟨ce',e,R⟩:=R
 obtain⟨q1,_⟩:=List.append_inj' e rfl
 rw[q1];exact R
end
def rE (h:aj):List (List AV)→List (Str×Ex)→Prop
 |es,[]=>es=[]
 |es,g :: l=>∃ce r,es=(.str g.1 :: ce) :: r∧RE h ce g.2∧rE h r l
def oK (b:Str×Str):List AV:=[.str b.1, .str b.2]
mutual
def RC (h:aj):List AV→Cd→Prop
 |a, .mk kind var cls binds tests conds thn alts e fn name args=>∃vb vt et vc ec vn en va ea ce vg eg,a=[.int .i64 kind, .str var, .str cls,vb,vt,vc,vn,va]++(ce++[.str fn, .str name,vg])∧
   View h 2 vb (binds.map oK)∧View h 8 vt et∧pK h et tests∧View h 19 vc ec∧kW h ec conds∧View h 19 vn en∧kW h en thn∧View h 1 va ea∧jC h ea alts∧RE h ce e∧View h 9 vg eg∧rE h eg args
def kW (h:aj):List (List AV)→List Cd→Prop
 |es,[]=>es=[]
 |es,c :: l=>∃a r,es=a :: r∧RC h a c∧kW h r l
def jC (h:aj):List (List AV)→List (List Cd)→Prop
 |es,[]=>es=[]
 |es,l :: m=>∃v ec r,es=[v] :: r∧View h 19 v ec∧kW h ec l∧jC h r m
end
section
variable {h:aj} {L:jq} {S:List Sl} {F:List (aj→Prop)} {p mp en i n:Nat} {o:Int} {tv:AV} {T:List Lx} {K Q k:aM}
@[reducible] def GK:List AV:=[.int .i64 0, .str [], .str [], .ah, .ah, .ah, .ah, .ah, .int .i64 0, .str [], .int .i64 0, .bool false, .int .i64 0, .str [], .ah, .ah, .str [], .str [], .ah]
theorem rE.app {es es':List (List AV)} {l l':List (Str×Ex)} (R:rE h es l) (R':rE h es' l'):rE h (es++es') (l++l'):=by
 induction l generalizing es with
 |nil=>simp only[rE] at R;subst R;exact R'
 |cons b l ih=>
  simp only[rE] at R
  obtain⟨c,r,rfl,R1,R2⟩:=R
  exact⟨c,r++es',rfl,R1,ih R2⟩
theorem rE.one {c:List AV} {t:Str} {e:Ex} (R:RE h c e):rE h [.str t :: c] [(t,e)]:=⟨c,[],rfl,R,rfl⟩
theorem rE.len {es:List (List AV)} {l:List (Str×Ex)} (R:rE h es l):es.length=l.length:=by
 induction l generalizing es with
 |nil=>simp only[rE] at R;subst R;rfl
 |cons b l ih=>
  simp only[rE] at R
  obtain⟨c,r,rfl,R1,R2⟩:=R
  simp[ih R2]
theorem pK.app {es es':List (List AV)} {l l':List Ex} (R:pK h es l) (R':pK h es' l'):pK h (es++es') (l++l'):=by
 induction l generalizing es with
 |nil=>simp only[pK] at R;subst R;exact R'
 |cons b l ih=>
  simp only[pK] at R
  obtain⟨c,r,rfl,R1,R2⟩:=R
  simp only[List.cons_append,pK]
  exact⟨c,r++es',rfl,R1,ih R2⟩
theorem pK.one {c:List AV} {e:Ex} (R:RE h c e):pK h [c] [e]:=by simp only[pK];exact⟨c,[],rfl,R,rfl⟩
theorem pK.nil:pK h [] []:=by simp[pK]
theorem pK.len {es:List (List AV)} {l:List Ex} (R:pK h es l):es.length=l.length∧∀e∈es,e.length=8:=by
 induction l generalizing es with
 |nil=>simp only[pK] at R;subst R;simp
 |cons b l ih=>
  simp only[pK] at R
  obtain⟨c,r,rfl,R1,R2⟩:=R
  have:=ih R2
  refine⟨by simp[this.1],fun e he=> ?_⟩
  rcases List.mem_cons.1 he with rfl |he
  ·exact R1.cells.1
  ·exact this.2 e he
theorem kW.nil:kW h [] []:=by simp[kW]
theorem jC.nil:jC h [] []:=by simp[jC]
theorem kW.app {es es':List (List AV)} {l l':List Cd} (R:kW h es l) (R':kW h es' l'):kW h (es++es') (l++l'):=by
 induction l generalizing es with
 |nil=>simp only[kW] at R;subst R;exact R'
 |cons b l ih=>
  simp only[kW] at R
  obtain⟨c,r,rfl,R1,R2⟩:=R
  simp only[List.cons_append,kW]
  exact⟨c,r++es',rfl,R1,ih R2⟩
theorem kW.one {c:List AV} {e:Cd} (R:RC h c e):kW h [c] [e]:=by simp only[kW];exact⟨c,[],rfl,R,rfl⟩
theorem kW.len {es:List (List AV)} {l:List Cd} (R:kW h es l):es.length=l.length:=by
 induction l generalizing es with
 |nil=>simp only[kW] at R;subst R;rfl
 |cons b l ih=>
  simp only[kW] at R
  obtain⟨c,r,rfl,R1,R2⟩:=R
  simp[ih R2]
theorem jC.app {es es':List (List AV)} {l l':List (List Cd)} (R:jC h es l) (R':jC h es' l'):jC h (es++es') (l++l'):=by
 induction l generalizing es with
 |nil=>simp only[jC] at R;subst R;exact R'
 |cons b l ih=>
  simp only[jC] at R
  obtain⟨v,ec,r,rfl,R1,R2,R3⟩:=R
  simp only[List.cons_append,jC]
  exact⟨v,ec,r++es',rfl,R1,R2,ih R3⟩
theorem jC.one {v:AV} {ec:List (List AV)} {l:List Cd} (V:View h 19 v ec) (R:kW h ec l):jC h [[v]] [l]:=by simp only[jC];exact⟨v,ec,[],rfl,V,R,rfl⟩
theorem jC.len {es:List (List AV)} {l:List (List Cd)} (R:jC h es l):es.length=l.length:=by
 induction l generalizing es with
 |nil=>simp only[jC] at R;subst R;rfl
 |cons b l ih=>
  simp only[jC] at R
  obtain⟨v,ec,r,rfl,R1,R2,R3⟩:=R
  simp[ih R3]
theorem RC.cells {a:List AV} {c:Cd} (R:RC h a c):a.length=19∧aD a=true∧sN a:=by
 obtain⟨kind,var,cls,binds,tests,conds,thn,alts,e,fn,name,args⟩:=c
 simp only[RC] at R
 obtain⟨vb,vt,et,vc,ec,vn,en,va,ea,ce,vg,eg,rfl,h1,h2, -,h3, -,h4, -,h5, -,h6,h7, -⟩:=R
 obtain⟨w1,w2,w3⟩:=h6.cells
 refine⟨by simp[w1], ?_, ?_⟩
 ·refine gW ?_ (gW w2 ?_)
  ·exact aH rfl (aH rfl (aH rfl (aH h1.leaf (aH h2.leaf (aH h3.leaf (aH h4.leaf (aH h5.leaf rfl)))))))
  ·exact aH rfl (aH rfl (aH h7.leaf rfl))
 ·exact sN.app (.cons (.int _ _) (.cons (.str _) (.cons (.str _) (.cons h1.lH (.cons h2.lH (.cons h3.lH (.cons h4.lH (.cons h5.lH .nil)))))))) (w3.app (.cons (.str _) (.cons (.str _) (.cons h7.lH .nil))))
theorem RC.put {kind:Int} {var cls fn name:Str} {binds:List (Str×Str)} {tests:List Ex} {conds thn:List Cd} {alts:List (List Cd)} {e:Ex} {args:List (Str×Ex)} {vb vt vc vn va vg:AV} {et ec ne ea eg:List (List AV)} {ce:List AV}
 (h1:View h 2 vb (binds.map oK)) (h2:View h 8 vt et) (r2:pK h et tests) (h3:View h 19 vc ec) (r3:kW h ec conds) (h4:View h 19 vn ne) (r4:kW h ne thn) (h5:View h 1 va ea) (r5:jC h ea alts) (r6:RE h ce e) (h7:View h 9 vg eg) (r7:rE h eg args):
 RC h ([.int .i64 kind, .str var, .str cls,vb,vt,vc,vn,va]++(ce++[.str fn, .str name,vg])) (.mk kind var cls binds tests conds thn alts e fn name args):=by
 simp only[RC]
 exact⟨vb,vt,et,vc,ec,vn,ne,va,ea,ce,vg,eg,rfl,h1,h2,r2,h3,r3,h4,r4,h5,r5,r6,h7,r7⟩
theorem RE.zero:RE h Z8 sG:=RE.op 0 []
def Uk (K:aM) (p mp en:Nat) (tv:AV) (T:List Lx) (L:jq) (S:List Sl) (F:List (aj→Prop)):Cd→Nat→Int→Prop:=fun v i o=>∀h c,Cx h (vr p (pc tv mp en i o) :: L) S ((fun h=>RC h c v) :: F)→dK T en i o→K (.agg c) h=true
theorem xu {e1:Nat×fG} {r:Nat} {c c0:List AV} {v:Cd} {F':List (aj→Prop)} (A:Cx h (e1 :: vr r c0 :: L) S F') (h0:c0.length=19) (R:RC h c v) (s:∀h,Cx h (e1 :: L) S F'→K (.agg c) h=true):
 (aL h 19 (.ptr r 0 0 0) (.agg c) fun h=>gI (fM h [(.ptr r 0 0 0,some (true,19))]) h K)=true:=by
 obtain⟨w1,w2,_⟩:=R.cells
 exact gZ A rfl w1 h0 w2 fun h A=>wZ A.v1 w1 (s h A.bC)
theorem adT {z:List AV} {off n:Nat} {v:AV} (h1:v.cells.length=n) (h2:Nat.ble (off+n) z.length=true) (h3:aD v.cells=true):pV z [(off,n,v)]=some (lay z off v.cells):=by
 simp only[pV,h1,aF.2 rfl,h2,h3,Bool.and_self,cond_true]
theorem len8 {l:List AV} (h:l.length=8):∃a b c d e f g k,l=[a,b,c,d,e,f,g,k]:=by
 match l,h with
 | [a,b,c,d,e,f,g,k],_=>exact⟨a,b,c,d,e,f,g,k,rfl⟩
@[reducible] def OH (nm:Str) (vg:AV):List AV:=[.int .i64 9, .str [], .str [], .ah, .ah, .ah, .ah, .ah, .int .i64 0, .str [], .int .i64 0, .bool false, .int .i64 0, .str [], .ah, .ah, .str [], .str nm,vg]
theorem c90 {kk:Nat} (hk:kk≤100000) (hn:4*kk+60≤n) [b:dL tv mp T F] {pb c r:Nat} {nm:Str} {vg:AV} {eg:List (List AV)} {acc:List (Str×Ex)} (hacc:acc.length≤100000)
 (A:Cx h (vr p (pc tv mp en i o) :: vr c (OH nm vg) :: vr r GK :: vr pb [.ptr p 0 0 0] :: L) (⟨vg,9,eg⟩ :: S) ((fun h=>rE h eg acc) :: F)) (s:dK T en i o)
 (H:Post (qC T kk acc i o)
   (fun acc' i o=>acc'.length=acc.length+1→∀h vg eg,Cx h (vr p (pc tv mp en i o) :: vr c (OH nm vg) :: vr r GK :: vr pb [.ptr p 0 0 0] :: L) (⟨vg,9,eg⟩ :: S) ((fun h=>rE h eg acc') :: F)→dK T en i o→K (.tup []) h=true)
   (fun x=>∀h i o vg eg R,Cx h (vr p (pc tv mp en i o) :: vr c (OH nm vg) :: vr r GK :: vr pb [.ptr p 0 0 0] :: L) (⟨vg,9,eg⟩ :: S) (R :: F)→K (flt T en x) h=true)):
 au E n (.func 90) [.ptr pb 0 0 0, .ptr c 0 0 0] h K=true:=by
 obtain⟨n,rfl⟩:∃m,n=m+1:=⟨n-1,by omega⟩
 have hmo:most=1099511627776:=rfl
 apply d90
 unfold s90
 refine aB A.v3 rfl ?_
 refine c55 (k:=1) (by omega) A s fun h A=>aG rfl ?_
 unfold Ia
 unfold qC at H
 have hlen:=(A.f0:rE h eg acc).len
 have expr:∀{h},Cx h (vr p (pc tv mp en i o) :: vr c (OH nm vg) :: vr r GK :: vr pb [.ptr p 0 0 0] :: L) (⟨vg,9,eg⟩ :: S) ((fun h=>rE h eg acc) :: F)→
  Post (bnd (gY T kk) (fun e=>ret (acc++[([],e)])) i o) (fun acc' i o=>acc'.length=acc.length+1→∀h vg eg,Cx h (vr p (pc tv mp en i o) :: vr c (OH nm vg) :: vr r GK :: vr pb [.ptr p 0 0 0] :: L) (⟨vg,9,eg⟩ :: S) ((fun h=>rE h eg acc') :: F)→dK T en i o→K (.tup []) h=true)
   (fun x=>∀h i o vg eg R,Cx h (vr p (pc tv mp en i o) :: vr c (OH nm vg) :: vr r GK :: vr pb [.ptr p 0 0 0] :: L) (⟨vg,9,eg⟩ :: S) (R :: F)→K (flt T en x) h=true)→
  (au E n (.func 59) [.ptr p 0 0 0] h <| pz K fun v21 h=>av h (.ptr c 0 0 18) <| dU vg <| dP [.str [], .int .i64 0, .str [], .int .i64 0, .bool false, .int .i64 0, .str [], .ah, .ah] [(1,8,v21)] fun v22=>aW (bE h 1 9 [.str [], .int .i64 0, .str [], .int .i64 0, .bool false, .int .i64 0, .str [], .ah, .ah] [(0,v22)]) fun v23 h=>av h (.ptr c 0 0 18) <| dU vg <| av h (.ptr pb 0 0 0) <| dU (.ptr p 0 0 0) <| qU h 9 128 vg v23 fun v24 h=>ay 18 (.ptr c 0 0 0) fun v25=>bH h v25 v24 fun h=>K (.tup []) h)=true:=by
  intro h A H
  have V:lH vg:=A.view.lH
  rw[aC] at H
  refine c59 hk (by omega) A s (Post.mono H ?_ ?_)
  ·intro e i o H h ce A s
   obtain⟨w1,w2,w3⟩:=(A.f0:RE h ce e).cells
   refine aG rfl ?_
   refine aB A.v1 rfl ?_;refine dZ V ?_
   refine eG (adT w1 rfl w2) ?_
   have e1:lay [AV.str [], .int .i64 0, .str [], .int .i64 0, .bool false, .int .i64 0, .str [], .ah, .ah] 1 (AV.agg ce).cells= .str [] :: ce:=by
    obtain⟨_,_,_,_,_,_,_,_,rfl⟩:=len8 w1;rfl
   rw[e1]
   refine lQ A rfl rfl rfl rfl (gX (by simp[w1]) (aH rfl w2)) rfl fun vb h A _=> ?_
   refine aB A.v1 rfl ?_;refine dZ V ?_;refine aB A.v3 rfl ?_;refine dZ (lH.ptr _ _ _ _) ?_
   refine rQ A rfl A.f0.src ?_ ?_ fun vg' h A _=> ?_
   ·simp;omega
   ·simp;omega
   refine aA ?_
   refine iC A rfl A.leafS fun h A=> ?_
   have A:=A.eX.imp2 (R:=fun h=>rE h (eg++[.str [] :: ce]) (acc++[([],e)])) fun h R1 R2=>R2.app (rE.one R1)
   exact H (by simp) h vg' _ A s
  ·intro x f h i o A
   exact f h i o _ _ _ A
 cases e1:dN T i 1 with
 |false=>
  rw[e1,Bool.false_and,if_neg (by simp)] at H
  refine eH ?_;refine rT ?_
  unfold Dq
  refine dQ ?_;refine bg ?_;refine aA ?_;refine aB A.v1 rfl ?_;refine aB A.v3 rfl ?_
  exact expr A H
 |true=>
  refine aY ?_;refine aB A.v3 rfl ?_;refine dY ?_
  refine Vd (d:=1) (by omega) (by omega) (by decide) A s fun h A=>aG rfl ?_
  unfold Dq
  cases e2:bN T (i+1) [63] with
  |false=>
   rw[e1,e2,if_neg (by simp)] at H
   refine dG ?_;refine bg ?_;refine aA ?_;refine aB A.v1 rfl ?_;refine aB A.v3 rfl ?_
   exact expr A H
  |true=>
   rw[e1,e2,if_pos (by simp),aC] at H
   have V:lH vg:=A.view.lH
   refine dG ?_;refine bK ?_;refine aA ?_;refine aB A.v1 rfl ?_;refine aB A.v3 rfl ?_
   refine c42 (by omega) A s (Post.mono H ?_ ?_)
   ·intro v i o H h A s
    refine aG rfl ?_
    refine aB A.v1 rfl ?_;refine dZ V ?_
    refine eG rfl ?_
    refine lQ A rfl rfl rfl rfl rfl rfl fun vb h A _=> ?_
    refine aB A.v1 rfl ?_;refine dZ V ?_;refine aB A.v3 rfl ?_;refine dZ (lH.ptr _ _ _ _) ?_
    refine rQ A rfl A.f0.src ?_ ?_ fun vg' h A _=> ?_
    ·show(eg.length+1)*128≤most;omega
    ·show eg.length+1≤most;omega
    refine aA ?_
    refine iC A rfl A.leafS fun h A=> ?_
    have A:=A.eX.imp (R:=fun h=>rE h (eg++[.str v :: Z8]) (acc++[(v,sG)])) fun h R2=>R2.app (rE.one RE.zero)
    refine aB A.v3 rfl ?_
    rw[aC] at H
    refine kP (by omega) (by decide) A s (Post.mono H ?_ ?_)
    ·intro u i o H h A s
     exact H (by simp) h vg' _ A s
    ·intro x f h i o A
     exact f h i o _ _ _ A
   ·intro x f h i o A
    exact f h i o _ _ _ A
theorem c76 {kk:Nat} (hk:kk≤100000) (hn:4*kk+70≤n) [b:dL tv mp T F] (A:Cx h (vr p (pc tv mp en i o) :: L) S F) (s:dK T en i o)
 (H:Post (UY T kk i o) (Uk K p mp en tv T L S F) (FK K p mp en tv T L S F)):au E n (.func 76) [.ptr p 0 0 0] h K=true:=by
 obtain⟨n,rfl⟩:∃m,n=m+1:=⟨n-1,by omega⟩
 apply d76
 unfold s76
 refine QE A rfl fun pb h A=> ?_
 refine bY A rfl rfl rfl fun r h A=> ?_
 refine aB A.v2 rfl ?_
 unfold UY at H
 rw[aC] at H
 refine c31 (by omega) A s (Post.mono H ?_ fun x f=>FK.pz' f.rest.rest)
 intro nm i o H h A s
 refine aG rfl ?_
 unfold KN
 refine eG rfl ?_
 refine bY A rfl rfl rfl fun c h A=> ?_
 refine gZ A rfl rfl rfl rfl fun h A=> ?_
 refine aB A.v3 rfl ?_
 rw[aC] at H
 refine c32 (by omega) (by decide) A s (Post.mono H ?_ fun x f=>FK.pz' f.rest.rest.rest)
 intro u i o H h A s
 refine aG rfl ?_
 refine aB A.v3 rfl ?_;refine aS ?_
 rw[aC] at H
 obtain⟨n,rfl⟩:∃m,n=m+1:=⟨n-1,by omega⟩
 have A:=(A.slc 9).tru (R:=fun h=>rE h [] []) fun h=>rfl
 refine c40 (one:=qC T kk) (kk:=kk) (s:=[])
  (C:=fun j acc L' S' F'=>∃vg eg,L'=vr c (OH nm vg) :: vr r GK :: vr pb [.ptr p 0 0 0] :: L∧S'=⟨vg,9,eg⟩ :: S∧F'=(fun h=>rE h eg acc) :: F∧acc.length+j≤kk)
  (D:=fun L' S' F'=>∃vg eg R,L'=vr c (OH nm vg) :: vr r GK :: vr pb [.ptr p 0 0 0] :: L∧S'=⟨vg,9,eg⟩ :: S∧F'=R :: F)
  (fun{j s L S F} hC=>by obtain⟨_,_,_,_,rfl,_⟩:=hC;infer_instance)
  (fun{j s L S F} hC=>by obtain⟨vg,eg,h1,h2,h3,_⟩:=hC;exact⟨vg,eg,_,h1,h2,h3⟩)
  (by omega) (by decide) ?_ ⟨.ah,[],rfl,rfl,rfl,by simp⟩ A s (Post.mono H ?_ ?_)
 ·intro j acc h L' S' F' i o K' hC A s H
  obtain⟨vg,eg,rfl,rfl,rfl,hj⟩:=hC
  show au E n (.func 90) [.ptr pb 0 0 0, .ptr c 0 0 0] h K'=true
  refine c90 hk (by omega) (by omega) A s (Post.mono H ?_ ?_)
  ·intro acc' i o H hl h vg eg A s
   exact H h _ _ _ ⟨vg,eg,rfl,rfl,rfl,by omega⟩ A s
  ·intro x f h i o vg eg R A
   exact f h i o _ _ _ ⟨vg,eg,R,rfl,rfl,rfl⟩ A
 ·intro acc i o H h L' S' F' hC A s
  obtain⟨j,vg,eg,rfl,rfl,rfl,hj⟩:=hC
  refine aG rfl (iN A.v1 rfl ?_)
  have A:=A.freeze
  have A:=A.bC.imp2 (R:=fun h=>RC h (OH nm vg) (.mk 9 [] [] [] [] [] [] [] sG [] nm acc)) fun h V R=>
   RC.put (ce:=Z8) (View.nil h 2) (View.nil h 8) pK.nil (View.nil h 19) kW.nil (View.nil h 19) kW.nil (View.nil h 1) jC.nil RE.zero V R
  exact xu A rfl A.f0 fun h A=>H h _ A.bC s
 ·intro x f h i o L' S' F' hD A
  obtain⟨vg,eg,R,rfl,rfl,rfl⟩:=hD
  exact f h i o A.freeze.eX.eX.bC.bC.bC
end
section
variable {h:aj} {L:jq} {S:List Sl} {F:List (aj→Prop)} {p mp en i n:Nat} {o:Int} {tv:AV} {T:List Lx} {K Q k:aM}
@[reducible] def JD (v cl:Str) (vb vt:AV):List AV:=[.int .i64 1, .str v, .str cl,vb,vt, .ah, .ah, .ah, .int .i64 0, .str [], .int .i64 0, .bool false, .int .i64 0, .str [], .ah, .ah, .str [], .str [], .ah]
theorem c91 {kk:Nat} (hk:kk≤100000) (hn:4*kk+60≤n) [b:dL tv mp T F] {pb c r:Nat} {w cl:Str} {vb vt:AV} {et:List (List AV)} {bs:List (Str×Str)} {ts:List Ex} (hacc:bs.length+ts.length≤100000)
 (A:Cx h (vr p (pc tv mp en i o) :: vr c (JD w cl vb vt) :: vr r GK :: vr pb [.ptr p 0 0 0] :: L) (⟨vb,2,bs.map oK⟩ :: ⟨vt,8,et⟩ :: S) ((fun h=>pK h et ts) :: F)) (s:dK T en i o)
 (H:Post (ow T kk (bs,ts) i o)
   (fun s' i o=>s'.1.length+s'.2.length=bs.length+ts.length+1→∀h vb vt et,Cx h (vr p (pc tv mp en i o) :: vr c (JD w cl vb vt) :: vr r GK :: vr pb [.ptr p 0 0 0] :: L) (⟨vb,2,s'.1.map oK⟩ :: ⟨vt,8,et⟩ :: S) ((fun h=>pK h et s'.2) :: F)→dK T en i o→K (.tup []) h=true)
   (fun x=>∀h i o vb vt et R,Cx h (vr p (pc tv mp en i o) :: vr c (JD w cl vb vt) :: vr r GK :: vr pb [.ptr p 0 0 0] :: L) (⟨vb,2,bs.map oK⟩ :: ⟨vt,8,et⟩ :: S) (R :: F)→K (flt T en x) h=true)):
 au E n (.func 91) [.ptr pb 0 0 0, .ptr c 0 0 0] h K=true:=by
 obtain⟨n,rfl⟩:∃m,n=m+1:=⟨n-1,by omega⟩
 have hmo:most=1099511627776:=rfl
 have hlim:=rU
 apply d91
 unfold s91
 refine aB A.v3 rfl ?_
 refine c55 (k:=1) (by omega) A s fun h A=>aG rfl ?_
 unfold Ig
 unfold ow at H
 have hlen:=(A.f0:pK h et ts).len
 have expr:∀{h},Cx h (vr p (pc tv mp en i o) :: vr c (JD w cl vb vt) :: vr r GK :: vr pb [.ptr p 0 0 0] :: L) (⟨vb,2,bs.map oK⟩ :: ⟨vt,8,et⟩ :: S) ((fun h=>pK h et ts) :: F)→
  Post (bnd (gY T kk) (fun e=>ret (bs,ts++[e])) i o)
  (fun s' i o=>s'.1.length+s'.2.length=bs.length+ts.length+1→∀h vb vt et,Cx h (vr p (pc tv mp en i o) :: vr c (JD w cl vb vt) :: vr r GK :: vr pb [.ptr p 0 0 0] :: L) (⟨vb,2,s'.1.map oK⟩ :: ⟨vt,8,et⟩ :: S) ((fun h=>pK h et s'.2) :: F)→dK T en i o→K (.tup []) h=true)
  (fun x=>∀h i o vb vt et R,Cx h (vr p (pc tv mp en i o) :: vr c (JD w cl vb vt) :: vr r GK :: vr pb [.ptr p 0 0 0] :: L) (⟨vb,2,bs.map oK⟩ :: ⟨vt,8,et⟩ :: S) (R :: F)→K (flt T en x) h=true)→
  (gJ vt fun v23=>aW (bE h 1 8 [.int .i64 0, .str [], .int .i64 0, .bool false, .int .i64 0, .str [], .ah, .ah] [(0,(.agg [.int .i64 0, .str [], .int .i64 0, .bool false, .int .i64 0, .str [], .ah, .ah]))]) fun v24 h=>av h (.ptr c 0 0 4) <| dU vt <| av h (.ptr pb 0 0 0) <| dU (.ptr p 0 0 0) <| gJ vt <| dU v23 <| au E n (.func 59) [.ptr p 0 0 0] h <| pz (um [v24] K) fun v25 h=>av h (.ptr c 0 0 4) <| dU vt <| gJ vt <| dU v23 <| qU h 8 112 vt v24 fun v26 h=>dO h 8 v26 v23 fun v27=>ay 4 (.ptr c 0 0 0) fun v28=>aW (bif rF v27 v28 then unit (cZ h 8 v27 v25) else none) fun _ h=>bH h v28 v26 fun h=>dO h 8 v26 v23 <| dU v27 <| K (.tup []) h)=true:=by
  intro h A H
  have V:lH vt:=A.swapS.view.lH
  refine fI A.swapS.view ?_
  refine EP (es:=[Z8]) A rfl rfl rfl rfl rfl rfl fun q h A=> ?_
  refine aB A.v2 rfl (dZ V ?_)
  refine aB A.v4 rfl (dZ (lH.ptr _ _ _ _) ?_)
  refine fI A.swapS.view (dZ (lH.int _ _) ?_)
  rw[aC] at H
  refine c59 hk (by omega) A s (Post.mono H ?_ ?_)
  ·intro e i o H h ce A s
   obtain⟨w1,w2,w3⟩:=(A.f0:RE h ce e).cells
   refine aG rfl (aB A.v2 rfl (dZ V ?_))
   refine fI A.swapS.view (dZ (lH.int _ _) ?_)
   have A:=A.swapS
   refine rQ A rfl A.rowL.src ?_ ?_ fun vt' h A _=> ?_
   ·show(et.length+1)*112≤most;omega
   ·show et.length+1≤most;omega
   have A:=A.bC
   have hall:∀e∈et++[Z8],e.length=8:=by
    intro e he
    rcases List.mem_append.1 he with he |he
    ·exact hlen.2 e he
    ·simp at he;subst he;rfl
   obtain⟨id,g,hv,ia,hne,st⟩:=A.elem (j:=et.length) (by simp) hall
   refine xC (ia _) (aA ?_)
   obtain⟨h',e1,A',ia'⟩:=st ce w1 w2
   have hap:rF (.ptr id g et.length 0) (.ptr c 0 0 (0+4))=true:=by
    have:=hne (vr c (JD w cl vb vt)) (by simp)
    simp only[rF,Bool.not_eq_true',dh]
    exact fun q=>this q.symm
   rw[hap,cond_true,e1]
   show bH h' _ _ _=true
   rw[show(et++[Z8]).set et.length ce=et++[ce] from by simp] at A'
   refine iC A' rfl A'.leafS fun h A=> ?_
   have hall:∀e∈et++[ce],e.length=8:=by
    intro e he
    rcases List.mem_append.1 he with he |he
    ·exact hlen.2 e he
    ·simp at he;subst he;exact w1
   obtain⟨id2,g2,hv2,ia2,_⟩:=A.elem (j:=et.length) (by simp) hall
   rw[hv2] at hv
   obtain⟨q1,q2,_⟩:=AV.slc.inj hv
   subst q1;subst q2
   refine xC (ia2 _) (dZ (lH.ptr _ _ _ _) ?_)
   have A:=A.swapS.imp2 (R:=fun h=>pK h (et++[ce]) (ts++[e])) fun h R1 R2=>R2.app (pK.one R1)
   exact H (by simp;omega) h vb _ _ A s
  ·intro x f
   refine FK.pz' fun h i o A=>wu rfl rfl A fun h A=> ?_
   exact f h i o _ _ _ _ A
 cases e1:dN T i 1 with
 |false=>
  rw[e1,Bool.false_and,if_neg (by simp)] at H
  refine eH ?_;refine rT ?_
  unfold BU
  refine dQ ?_;refine bg ?_;refine aA ?_;refine aB A.v1 rfl ?_;refine aB A.v3 rfl ?_
  exact expr A H
 |true=>
  refine aY ?_;refine aB A.v3 rfl ?_;refine dY ?_
  refine Vd (d:=1) (by omega) (by omega) (by decide) A s fun h A=>aG rfl ?_
  unfold BU
  cases e2:bN T (i+1) [58] with
  |false=>
   rw[e1,e2,if_neg (by simp)] at H
   refine dG ?_;refine bg ?_;refine aA ?_;refine aB A.v1 rfl ?_;refine aB A.v3 rfl ?_
   exact expr A H
  |true=>
   rw[e1,e2,if_pos (by simp),aC] at H
   have V:lH vb:=A.view.lH
   refine dG ?_;refine bK ?_;refine aB A.v3 rfl ?_
   refine c42 (by omega) A s (Post.mono H ?_ ?_)
   ·intro v i o H h A s
    refine aG rfl ?_
    refine aB A.v3 rfl ?_
    rw[aC] at H
    refine kP (by omega) (by decide) A s (Post.mono H ?_ ?_)
    ·intro u i o H h A s
     refine aA ?_;refine aB A.v1 rfl ?_;refine aB A.v3 rfl ?_
     rw[aC] at H
     refine c31 (by omega) A s (Post.mono H ?_ ?_)
     ·intro f i o H h A s
      refine aG rfl ?_
      refine aB A.v1 rfl ?_;refine dZ V ?_
      refine eG rfl ?_
      refine lQ A rfl rfl rfl rfl rfl rfl fun vq h A _=> ?_
      refine aB A.v1 rfl ?_;refine dZ V ?_;refine aB A.v3 rfl ?_;refine dZ (lH.ptr _ _ _ _) ?_
      refine rQ A rfl A.f0.src ?_ ?_ fun vb' h A _=> ?_
      ·show((bs.map oK).length+1)*32≤most;rw[List.length_map];omega
      ·show(bs.map oK).length+1≤most;rw[List.length_map];omega
      refine aA ?_
      refine iC A rfl A.leafS fun h A=> ?_
      refine H (by simp;omega) h vb' vt et ?_ s
      rw[show(bs++[(v,f)]).map oK=bs.map oK++[[.str v, .str f]] from by simp[oK]]
      exact A.eX
     ·intro x f h i o A
      exact f h i o _ _ _ _ A
    ·intro x f h i o A
     exact f h i o _ _ _ _ A
   ·intro x f h i o A
    exact f h i o _ _ _ _ A
theorem KP {kk:Nat} (hk:kk≤100000) (hn:4*kk+65≤n) [b:dL tv mp T F] {pb c r:Nat} {w:Str} (A:Cx h (vr p (pc tv mp en i o) :: vr c (JD w [] .ah .ah) :: vr r GK :: vr pb [.ptr p 0 0 0] :: L) S F) (s:dK T en i o)
 (H:Post (kK T kk w i o) (Uk K p mp en tv T L S F) (FK K p mp en tv T L S F)):JL (au E n) n (.ptr pb 0 0 0) (.ptr r 0 0 0) (.ptr c 0 0 0) h K=true:=by
 unfold JL
 refine aB A.v3 rfl ?_
 unfold kK at H
 rw[aC] at H
 refine c31 (by omega) A s (Post.mono H ?_ fun x f=>FK.pz' f.rest.rest.rest)
 intro cl i o H h A s
 refine aG rfl ?_
 unfold FN
 refine aA ?_
 refine iC A rfl rfl fun h A=> ?_
 refine aB A.v3 rfl ?_
 rw[aC] at H
 refine c32 (by omega) (by decide) A s (Post.mono H ?_ fun x f=>FK.pz' f.rest.rest.rest)
 intro u i o H h A s
 refine aG rfl ?_
 refine aB A.v3 rfl ?_;refine aS ?_
 rw[aC] at H
 obtain⟨n,rfl⟩:∃m,n=m+1:=⟨n-1,by omega⟩
 have A:=((A.slc 8).slc 2).tru (R:=fun h=>pK h [] []) fun h=>pK.nil
 refine c40 (one:=ow T kk) (kk:=kk) (s:=([],[]))
  (C:=fun j st L' S' F'=>∃vb vt et,L'=vr c (JD w cl vb vt) :: vr r GK :: vr pb [.ptr p 0 0 0] :: L∧S'=⟨vb,2,st.1.map oK⟩ :: ⟨vt,8,et⟩ :: S∧F'=(fun h=>pK h et st.2) :: F∧st.1.length+st.2.length+j≤kk)
  (D:=fun L' S' F'=>∃(vb vt:AV) (et:List (List AV)) (bs:List (Str×Str)) (R:aj→Prop),L'=vr c (JD w cl vb vt) :: vr r GK :: vr pb [.ptr p 0 0 0] :: L∧S'=⟨vb,2,bs.map oK⟩ :: ⟨vt,8,et⟩ :: S∧F'=R :: F)
  (fun{j s L S F} hC=>by obtain⟨_,_,_,_,_,rfl,_⟩:=hC;infer_instance)
  (fun{j s L S F} hC=>by obtain⟨vb,vt,et,h1,h2,h3,_⟩:=hC;exact⟨vb,vt,et,_,_,h1,h2,h3⟩)
  (by omega) (by decide) ?_ ⟨.ah, .ah,[],rfl,rfl,rfl,by simp⟩ A s (Post.mono H ?_ ?_)
 ·intro j st h L' S' F' i o K' hC A s H
  obtain⟨vb,vt,et,rfl,rfl,rfl,hj⟩:=hC
  obtain⟨bs,ts⟩:=st
  simp only at hj
  show au E n (.func 91) [.ptr pb 0 0 0, .ptr c 0 0 0] h K'=true
  have hj':bs.length+ts.length+(j+1)≤kk:=hj
  refine c91 (bs:=bs) (ts:=ts) hk (by omega) (by omega) A s (Post.mono H ?_ ?_)
  ·intro s' i o H hl h vb vt et A s
   exact H h _ _ _ ⟨vb,vt,et,rfl,rfl,rfl,by omega⟩ A s
  ·intro x f h i o vb vt et R A
   exact f h i o _ _ _ ⟨vb,vt,et,bs,R,rfl,rfl,rfl⟩ A
 ·intro st i o H h L' S' F' hC A s
  obtain⟨j,vb,vt,et,rfl,rfl,rfl,hj⟩:=hC
  refine aG rfl (iN A.v1 rfl ?_)
  have A:=A.freeze.freeze
  have A:=A.bC.imp3 (R:=fun h=>RC h (JD w cl vb vt) (.mk 1 w cl st.1 st.2 [] [] [] sG [] [] [])) fun h V1 V2 R=>
   RC.put (ce:=Z8) V2 V1 R (View.nil h 19) kW.nil (View.nil h 19) kW.nil (View.nil h 1) jC.nil RE.zero (View.nil h 9) rfl
  exact xu A rfl A.f0 fun h A=>H h _ A.bC s
 ·intro x f h i o L' S' F' hD A
  obtain⟨vb,vt,et,bs,R,rfl,rfl,rfl⟩:=hD
  exact f h i o A.freeze.freeze.eX.eX.eX.bC.bC.bC
theorem c77 {kk:Nat} (hk:kk≤100000) (hn:4*kk+70≤n) [b:dL tv mp T F] (A:Cx h (vr p (pc tv mp en i o) :: L) S F) (s:dK T en i o)
 (H:Post (OE T kk i o) (Uk K p mp en tv T L S F) (FK K p mp en tv T L S F)):au E n (.func 77) [.ptr p 0 0 0] h K=true:=by
 obtain⟨n,rfl⟩:∃m,n=m+1:=⟨n-1,by omega⟩
 apply d77
 unfold s77
 refine QE A rfl fun pb h A=> ?_
 refine bY A rfl rfl rfl fun r h A=> ?_
 refine eG rfl ?_
 refine bY A rfl rfl rfl fun c h A=> ?_
 refine gZ A rfl rfl rfl rfl fun h A=> ?_
 refine aB A.v3 rfl ?_
 refine c55 (k:=1) (by omega) A s fun h A=>aG rfl ?_
 unfold OE at H
 cases e1:dN T i 1 with
 |false=>
  rw[if_neg (by rw[e1];simp)] at H
  refine bg ?_
  exact KP hk (by omega) A s H
 |true=>
  rw[if_pos e1,aC] at H
  refine bK ?_;refine aB A.v3 rfl ?_
  refine c42 (by omega) A s (Post.mono H ?_ fun x f=>FK.pz' f.rest.rest.rest)
  intro v i o H h A s
  refine aG rfl ?_
  unfold EK
  refine aA ?_
  refine iC A rfl rfl fun h A=> ?_
  refine aB A.v3 rfl ?_
  rw[aC] at H
  refine kP (by omega) (by decide) A s (Post.mono H ?_ fun x f=>f.rest.rest.rest)
  intro u i o H h A s
  exact KP hk (by omega) A s H
end
section
variable {h:aj} {L:jq} {S:List Sl} {F:List (aj→Prop)} {p mp en i n:Nat} {o:Int} {tv:AV} {T:List Lx} {K Q k:aM}
theorem Fp {v:AV} {m:Nat} {es:List (List AV)} (V:View h m v es):jk v=none:=by
 rcases V with⟨_,rfl |rfl⟩|⟨_,_,_,_,_,_,rfl,_⟩<;>rfl
theorem vM {z:List AV} {off:Nat} {v:AV} {ps:List (Nat×Nat×AV)} (h:v.leaf=true) (hl:Nat.blt off z.length=true):pV z ((off,1,v) :: ps)=pV (z.set off v) ps:=by
 have hl:=bB.1 hl
 have hc:=qA h
 simp only[pV,hc,aD,h,List.length_cons,List.length_nil,cond_true,aI.2 (show off+1≤z.length by omega),show Nat.beq (0+1) 1=true from rfl,Bool.and_self,Xc hl]
theorem vX {z:List AV} {v:AV} (h:v.leaf=true):kX 1 (xI 1 z) [(0,v)]=some [[v]]:=by
 simp only[kX,qA h,aD,h,xI,List.length_cons,List.length_nil,l5,show Nat.beq (0+1) 1=true from rfl,show Nat.blt 0 (0+1)=true from rfl,Bool.and_self,cond_true]
def OkL (N:Nat) (K:aM) (p mp en:Nat) (tv:AV) (T:List Lx) (L:jq) (S:List Sl) (F:List (aj→Prop)):List Cd→Nat→Int→Prop:=fun l i o=>l.length≤N→∀h v ec,Cx h (vr p (pc tv mp en i o) :: L) S ((fun h=>kW h ec l) :: (fun h=>View h 19 v ec) :: F)→dK T en i o→K v h=true
@[reducible] def nV (w:Str):List AV:=[.str w]
structure WC (tv:AV) (p mp en:Nat) (T:List Lx) (k:Nat):Prop where
 conds:∀{n m h L S F i o K} [dL tv mp T F] {ve va:AV} {ec:List (List AV)} {ends:List Str} {acc:List Cd},4*k+80≤n→k≤m→(∀w∈ends,w≠[])→ends.length≤10→Knows L S F (fun h=>View h 1 ve (ends.map nV))→acc.length+k≤100000→
  Cx h (vr p (pc tv mp en i o) :: L) (⟨va,19,ec⟩ :: S) ((fun h=>kW h ec acc) :: F)→dK T en i o→Post (iK T k ends acc i o) (OkL 100000 K p mp en tv T L S F) (FK K p mp en tv T L S F)→Js (au E n) n m (.ptr p 0 0 0) ve va h K=true
 some:∀{n h L S F i o K} [dL tv mp T F] {ve:AV} {ends:List Str},4*k+80≤n→(∀w∈ends,w≠[])→ends.length≤10→Knows L S F (fun h=>View h 1 ve (ends.map nV))→
  Cx h (vr p (pc tv mp en i o) :: L) S F→dK T en i o→Post (iq T k ends i o) (OkL 100001 K p mp en tv T L S F) (FK K p mp en tv T L S F)→au E n (.func 73) [.ptr p 0 0 0,ve] h K=true
 block:∀{n h L S F i o K} [dL tv mp T F],4*k+80≤n→Cx h (vr p (pc tv mp en i o) :: L) S F→dK T en i o→Post (lK T k i o) (OkL 100001 K p mp en tv T L S F) (FK K p mp en tv T L S F)→au E n (.func 72) [.ptr p 0 0 0] h K=true
 alts:∀{n m h L S F i o K} [dL tv mp T F] {c r:Nat} {va:AV} {ea:List (List AV)} {acc:List (List Cd)},4*k+80≤n→k+1≤m→acc.length+k≤100001→
  Cx h (vr p (pc tv mp en i o) :: vr c [.int .i64 5, .str [], .str [], .ah, .ah, .ah, .ah,va, .int .i64 0, .str [], .int .i64 0, .bool false, .int .i64 0, .str [], .ah, .ah, .str [], .str [], .ah] :: vr r GK :: L) (⟨va,1,ea⟩ :: S) ((fun h=>jC h ea acc) :: F)→dK T en i o→
  Post (rz T k acc i o) (fun a i o=>Post (bnd (bV T [41]) (fun _=>ret (.mk 5 [] [] [] [] [] [] a sG [] [] [])) i o) (Uk K p mp en tv T L S F) (FK K p mp en tv T L S F)) (FK K p mp en tv T L S F)→
  AZ (au E n) n m (.ptr p 0 0 0) (.ptr r 0 0 0) (.ptr c 0 0 0) (.bool true) h K=true
 orr:∀{n h L S F i o K} [dL tv mp T F],4*k+80≤n→Cx h (vr p (pc tv mp en i o) :: L) S F→dK T en i o→Post (orM T k i o) (Uk K p mp en tv T L S F) (FK K p mp en tv T L S F)→au E n (.func 74) [.ptr p 0 0 0] h K=true
 acc:∀{n h L S F i o K} [dL tv mp T F],4*k+80≤n→Cx h (vr p (pc tv mp en i o) :: L) S F→dK T en i o→Post (GN T k i o) (Uk K p mp en tv T L S F) (FK K p mp en tv T L S F)→au E n (.func 75) [.ptr p 0 0 0] h K=true
 cond:∀{n h L S F i o K} [dL tv mp T F],4*k+80≤n→Cx h (vr p (pc tv mp en i o) :: L) S F→dK T en i o→Post (qX T k i o) (Uk K p mp en tv T L S F) (FK K p mp en tv T L S F)→au E n (.func 57) [.ptr p 0 0 0] h K=true
theorem S9 {kk:Nat} (W:WC tv p mp en T kk):∀{n m h L S F i o K} [dL tv mp T F] {ve va:AV} {ec:List (List AV)} {ends:List Str} {acc:List Cd},4*(kk+1)+80≤n→kk+1≤m→(∀w∈ends,w≠[])→ends.length≤10→Knows L S F (fun h=>View h 1 ve (ends.map nV))→acc.length+(kk+1)≤100000→
 Cx h (vr p (pc tv mp en i o) :: L) (⟨va,19,ec⟩ :: S) ((fun h=>kW h ec acc) :: F)→dK T en i o→Post (iK T (kk+1) ends acc i o) (OkL 100000 K p mp en tv T L S F) (FK K p mp en tv T L S F)→Js (au E n) n m (.ptr p 0 0 0) ve va h K=true:=by
 intro n m h L S F i o K b ve va ec ends acc hn hm hw he kv hacc A s H
 obtain⟨m,rfl⟩:∃q,m=q+1:=⟨m-1,by omega⟩
 have hmo:most=1099511627776:=rfl
 have hlim:=rU
 have kv':∀{h va ec R},Cx h (vr p (pc tv mp en i o) :: L) (⟨va,19,ec⟩ :: S) (R :: F)→View h 1 ve (ends.map nV):=fun A=>kv _ A.freeze.eX.eX.rest
 rw[ab9]
 unfold VO
 refine fI (kv' A) ?_
 unfold iK at H
 rw[List.length_map]
 have loop:∀d j m' h,ends.length=j+d→d+1≤m'→(∀w∈ends.take j,bN T i w=false)→Cx h (vr p (pc tv mp en i o) :: L) (⟨va,19,ec⟩ :: S) ((fun h=>kW h ec acc) :: F)→
  I7 (au E n) n (fun x0 x1 x5 h=>Js (au E n) n m x0 x1 x5 h K) m' (.ptr p 0 0 0) ve va ve (.int .i64 (ends.length:Int)) (.int .i64 (j:Int)) h K=true:=by
  intro d
  induction d with
  |zero=>
   intro j m' h hj hm' hf A
   obtain⟨m',rfl⟩:∃q,m'=q+1:=⟨m'-1,by omega⟩
   have hjj:j=ends.length:=by omega
   subst hjj
   rw[List.take_length] at hf
   rw[Qi]
   unfold JN
   refine jw ?_
   rw[show decide (ends.length<ends.length)=false from decide_eq_false (by omega)]
   refine bg ?_
   unfold UO
   rw[if_neg (by
    intro q
    obtain⟨w,hw,hq⟩:=List.any_eq_true.1 q
    rw[hf w hw] at hq;cases hq),aC] at H
   refine W.cond (by omega) A s (Post.mono H ?_ ?_)
   ·intro c i o H h a A s
    obtain⟨w1,w2,w3⟩:=(A.f0:RC h a c).cells
    refine aG rfl ?_
    unfold FL
    refine lQ A rfl rfl rfl rfl (gX w1 w2) rfl fun vb h A _=> ?_
    have hlen:=(A.f2:kW h ec acc).len
    refine rQ A rfl A.f0.src ?_ ?_ fun va' h A _=> ?_
    ·show(ec.length+1)*328≤most;omega
    ·show ec.length+1≤most;omega
    have A:=A.eX.imp2 (R:=fun h=>kW h (ec++[a]) (acc++[c])) fun h R1 R2=>R2.app (kW.one R1)
    exact W.conds (by omega) (by omega) hw he kv (by simp;omega) A s H
   ·intro x f
    exact FK.pz' fun h i o A=>f h i o A.freeze.eX.eX
  |succ d ih=>
   intro j m' h hj hm' hf A
   obtain⟨m',rfl⟩:∃q,m'=q+1:=⟨m'-1,by omega⟩
   have hlt:j<ends.length:=by omega
   have hwj:ends[j]? =some ends[j]:=List.getElem?_eq_getElem hlt
   rw[Qi]
   unfold JN
   refine jw ?_
   rw[show decide (j<ends.length)=true from decide_eq_true hlt]
   refine bK (ng (kv' A) (e:=nV ends[j]) (by rw[List.getElem?_map,hwj];rfl) fun id g q ld=>aQ (ld false 0 1) ?_)
   refine Vd (d:=0) (by omega) (by omega) (hw _ (List.getElem_mem hlt)) A s fun h A=>aG rfl ?_
   rw[Nat.add_zero]
   cases e:bN T i ends[j] with
   |true=>
    rw[if_pos (List.any_eq_true.2 ⟨_,List.getElem_mem hlt,e⟩)] at H
    refine bK ?_
    exact H (by omega) h va ec A.freeze.swapF s
   |false=>
    refine bg (mI (by omega) ?_)
    refine ih (j+1) m' h (by omega) (by omega) ?_ A
    intro w hw'
    rw[List.take_add_one,hwj] at hw'
    rcases List.mem_append.1 hw' with hw' |hw'
    ·exact hf w hw'
    ·simp at hw';subst hw';exact e
 exact loop ends.length 0 n h (by omega) (by omega) (by simp) A
theorem X9 {kk:Nat} (W:WC tv p mp en T kk) (hk:kk≤100000):∀{n h L S F i o K} [dL tv mp T F] {ve:AV} {ends:List Str},4*(kk+1)+80≤n→(∀w∈ends,w≠[])→ends.length≤10→Knows L S F (fun h=>View h 1 ve (ends.map nV))→
 Cx h (vr p (pc tv mp en i o) :: L) S F→dK T en i o→Post (iq T (kk+1) ends i o) (OkL 100001 K p mp en tv T L S F) (FK K p mp en tv T L S F)→au E n (.func 73) [.ptr p 0 0 0,ve] h K=true:=by
 intro n h L S F i o K b ve ends hn hw he kv A s H
 obtain⟨n,rfl⟩:∃m,n=m+1:=⟨n-1,by omega⟩
 obtain⟨n,rfl⟩:∃m,n=m+1:=⟨n-1,by omega⟩
 have hmo:most=1099511627776:=rfl
 apply d73
 unfold s73
 unfold iq at H
 rw[aC] at H
 refine W.cond (by omega) A s (Post.mono H ?_ fun x f=>FK.pz' f)
 intro c i o H h a A s
 obtain⟨w1,w2,w3⟩:=(A.f0:RC h a c).cells
 refine aG rfl ?_
 unfold Jj
 refine bY A rfl rfl rfl fun x h A=> ?_
 refine gZ A rfl w1 rfl w2 fun h A=> ?_
 refine iN A.v1 w1 (EP A rfl rfl rfl rfl (gX w1 w2) rfl fun q h A=> ?_)
 refine iN A.v2 w1 (dZ (.agg w3) ?_)
 rw[aC] at H
 apply d38
 unfold s38
 have A:=(A.slc 19).tru (R:=fun h=>kW h [] []) fun h=>kW.nil
 refine W.conds (by omega) (by omega) hw he (fun h A=>kv h A.rest.rest.eX) (by simpa using hk) A s (Post.mono H ?_ ?_)
 ·intro l i o H hl h v ec A s
  refine aG (Fp A.f1) ?_
  refine iN A.v2 w1 (dZ (.agg w3) ?_)
  have hlen:=(A.f0:kW h ec l).len
  refine ae0 A rfl A.f1.src ?_ ?_ fun v' h A hp=> ?_
  ·show(1+ec.length)*328≤most;omega
  ·show 1+ec.length≤most;omega
  have A:=A.bC
  have A:=A.add (R:=fun h=>kW h ([a]++ec) (c :: l)) fun h q=>
   (kW.one (q (fun h=>RC h a c) (by simp))).app (q (fun h=>kW h ec l) (by simp))
  exact H (by simp;omega) h v' _ (A.facts' fun R m=>by
   simp only[List.mem_cons] at m ⊢
   rcases m with h |h |h
   ·exact .inl h
   ·exact .inr (.inl h)
   ·simp[h]) s
 ·intro x f
  exact FK.pz' fun h i o A=>wu rfl rfl A fun h A=>f h i o A.bC.eX
theorem Ut {kk:Nat} (W:WC tv p mp en T kk):∀{n h L S F i o K} [dL tv mp T F],4*(kk+1)+80≤n→Cx h (vr p (pc tv mp en i o) :: L) S F→dK T en i o→Post (lK T (kk+1) i o) (OkL 100001 K p mp en tv T L S F) (FK K p mp en tv T L S F)→au E n (.func 72) [.ptr p 0 0 0] h K=true:=by
 intro n h L S F i o K b hn A s H
 obtain⟨n,rfl⟩:∃m,n=m+1:=⟨n-1,by omega⟩
 apply d72
 unfold s72
 unfold lK at H
 rw[aC] at H
 refine c32 (by omega) (by decide) A s (Post.mono H ?_ fun x f=>FK.pz' f)
 intro u i o H h A s
 refine aG rfl ?_
 rw[aC] at H
 refine lQ A rfl rfl rfl rfl rfl rfl fun ve h A _=> ?_
 refine W.some (ends:=[[41]]) (by omega) (by decide) (by decide) (Knows.mem (by exact List.mem_cons_self)) A s (Post.mono H ?_ fun x f=>FK.pz' f.drop)
 intro l i o H hl h v ec A s
 refine aG (Fp A.f1) ?_
 rw[aC] at H
 refine Zu (by omega) (by decide) A s (Post.mono H ?_ fun x f=>FK.pz' f.drop.drop.drop)
 intro u i o H h A s
 refine aG rfl ?_
 exact H hl h v ec (A.facts' fun R m=>by
  simp only[List.mem_cons] at m ⊢
  rcases m with h |h |h
  ·exact .inl h
  ·exact .inr (.inl h)
  ·simp[h]) s
end
section
variable {h:aj} {L:jq} {S:List Sl} {F:List (aj→Prop)} {p mp en i n:Nat} {o:Int} {tv:AV} {T:List Lx} {K Q k:aM}
@[reducible] def cOr (va:AV):List AV:=[.int .i64 5, .str [], .str [], .ah, .ah, .ah, .ah,va, .int .i64 0, .str [], .int .i64 0, .bool false, .int .i64 0, .str [], .ah, .ah, .str [], .str [], .ah]
@[reducible] def cCd (kind:Int) (vc vn:AV):List AV:=[.int .i64 kind, .str [], .str [], .ah, .ah,vc,vn, .ah, .int .i64 0, .str [], .int .i64 0, .bool false, .int .i64 0, .str [], .ah, .ah, .str [], .str [], .ah]
theorem RC.lists {kind:Int} {vc vn:AV} {ec ne:List (List AV)} {l m:List Cd} (V:View h 19 vc ec) (R:kW h ec l) (V':View h 19 vn ne) (R':kW h ne m):RC h (cCd kind vc vn) (.mk kind [] [] [] [] l m [] sG [] [] []):=
 RC.put (ce:=Z8) (View.nil h 2) (View.nil h 8) pK.nil V R V' R' (View.nil h 1) jC.nil RE.zero (View.nil h 9) rfl
theorem agR {kind:Int} {vc vn:AV} (h1:vc.leaf=true) (h2:vn.leaf=true):aD (cCd kind vc vn)=true:=
 aH rfl (aH rfl (aH rfl (aH rfl (aH rfl (aH h1 (aH h2 rfl))))))
theorem aeG [b:dL tv mp T F] (hn:8≤n) {c r:Nat} {va:AV} {ea:List (List AV)} {a:List (List Cd)} (A:Cx h (vr p (pc tv mp en i o) :: vr c (cOr va) :: vr r GK :: L) (⟨va,1,ea⟩ :: S) ((fun h=>jC h ea a) :: F)) (s:dK T en i o)
 (H:Post (bnd (bV T [41]) (fun _=>ret (Cd.mk 5 [] [] [] [] [] [] a sG [] [] [])) i o) (Uk K p mp en tv T L S F) (FK K p mp en tv T L S F)):Nz (au E n) n (.ptr p 0 0 0) (.ptr r 0 0 0) (.ptr c 0 0 0) h K=true:=by
 unfold Nz
 rw[aC] at H
 have A:=A.freeze
 refine Zu hn (by decide) A s (Post.mono H ?_ fun x f=>FK.pz' f.rest.rest.drop.drop)
 intro u i o H h A s
 refine aG rfl (iN A.v1 rfl ?_)
 have A:=A.bC.imp2 (R:=fun h=>RC h (cOr va) (.mk 5 [] [] [] [] [] [] a sG [] [] [])) fun h V R=>
  RC.put (ce:=Z8) (View.nil h 2) (View.nil h 8) pK.nil (View.nil h 19) kW.nil (View.nil h 19) kW.nil V R RE.zero (View.nil h 9) rfl
 exact xu A rfl A.f0 fun h A=>H h _ A s
theorem X3 {kk:Nat} (W:WC tv p mp en T kk):∀{n m h L S F i o K} [dL tv mp T F] {c r:Nat} {va:AV} {ea:List (List AV)} {acc:List (List Cd)},4*(kk+1)+80≤n→kk+1+1≤m→acc.length+(kk+1)≤100001→
 Cx h (vr p (pc tv mp en i o) :: vr c (cOr va) :: vr r GK :: L) (⟨va,1,ea⟩ :: S) ((fun h=>jC h ea acc) :: F)→dK T en i o→
 Post (rz T (kk+1) acc i o) (fun a i o=>Post (bnd (bV T [41]) (fun _=>ret (.mk 5 [] [] [] [] [] [] a sG [] [] [])) i o) (Uk K p mp en tv T L S F) (FK K p mp en tv T L S F)) (FK K p mp en tv T L S F)→
 AZ (au E n) n m (.ptr p 0 0 0) (.ptr r 0 0 0) (.ptr c 0 0 0) (.bool true) h K=true:=by
 intro n m h L S F i o K b c r va ea acc hn hm hacc A s H
 obtain⟨m,rfl⟩:∃q,m=q+1:=⟨m-1,by omega⟩
 have hmo:most=1099511627776:=rfl
 rw[PN]
 unfold KO
 have V:lH va:=A.view.lH
 have hlen:=(A.f0:jC h ea acc).len
 refine bK ?_;refine aA ?_;refine aB A.v1 rfl ?_
 refine EP (es:=[[.str KZ],[.str [41]]]) A rfl rfl rfl rfl rfl rfl fun q h A=> ?_
 refine aB A.v2 rfl (dZ V ?_)
 unfold rz at H
 rw[aC] at H
 refine W.some (ends:=[KZ,[41]]) (by omega) (by decide) (by decide) (fun h A=> ?_) A s (Post.mono H ?_ fun x f=>FK.pz' fun h i o A=>wu rfl rfl A fun h A=>f h i o A.freeze.eX.eX.bC.bC)
 ·exact(A.rowL':_)
 intro l i o H hl h v ec A s
 refine aG (Fp A.f1) ?_
 refine aB A.v2 rfl (dZ V ?_)
 refine lQ A rfl rfl rfl rfl (vX A.f1.leaf) rfl fun vb h A _=> ?_
 refine aB A.v2 rfl (dZ V ?_)
 refine rQ A rfl A.f0.src ?_ ?_ fun va' h A _=> ?_
 ·show(ea.length+1)*24≤most;omega
 ·show ea.length+1≤most;omega
 refine aA (RG A rfl A.leafS fun h A=> ?_)
 have A:=(A.bC.eX.add (R:=fun h=>jC h (ea++[[v]]) (acc++[l])) fun h q=>
  (q (fun h=>jC h ea acc) (by simp)).app (jC.one (q (fun h=>View h 19 v ec) (by simp)) (q (fun h=>kW h ec l) (by simp)))).drop1.drop1.drop1
 rw[aC] at H
 refine c19 (by omega) (by decide) A s (Post.mono H ?_ fun _ _=>trivial)
 intro bb i o H h A s
 refine aG rfl ?_
 cases bb with
 |true=>
  rw[if_pos rfl] at H
  exact W.alts (by omega) (by omega) (by simp;omega) A s H
 |false=>
  rw[if_neg (by simp)] at H
  obtain⟨m,rfl⟩:∃q,m=q+1:=⟨m-1,by omega⟩
  show AZ _ _ _ _ _ _ _ _ _=true
  rw[PN]
  unfold KO
  refine bg ?_
  exact aeG (by omega) A s H
theorem acd {kk:Nat} (W:WC tv p mp en T kk) (hk:kk≤100000):∀{n h L S F i o K} [dL tv mp T F],4*(kk+1)+80≤n→Cx h (vr p (pc tv mp en i o) :: L) S F→dK T en i o→Post (orM T (kk+1) i o) (Uk K p mp en tv T L S F) (FK K p mp en tv T L S F)→au E n (.func 74) [.ptr p 0 0 0] h K=true:=by
 intro n h L S F i o K b hn A s H
 obtain⟨n,rfl⟩:∃m,n=m+1:=⟨n-1,by omega⟩
 have hmo:most=1099511627776:=rfl
 apply d74
 unfold s74
 refine bY A rfl rfl rfl fun r h A=> ?_
 refine eG rfl ?_
 refine bY A rfl rfl rfl fun c h A=> ?_
 refine gZ A rfl rfl rfl rfl fun h A=> ?_
 unfold orM at H
 rw[aC] at H
 refine c32 (by omega) (by decide) A s (Post.mono H ?_ fun x f=>FK.pz' f.rest.rest)
 intro u i o H h A s
 refine aG rfl ?_
 refine aA ?_;refine aB A.v1 rfl ?_
 refine EP (es:=[[.str KZ],[.str [41]]]) A rfl rfl rfl rfl rfl rfl fun q h A=> ?_
 refine aB A.v2 rfl (dZ lH.nslc ?_)
 rw[aC] at H
 refine W.some (ends:=[KZ,[41]]) (by omega) (by decide) (by decide) (fun h A=>A.rowL') A s (Post.mono H ?_ fun x f=>FK.pz' fun h i o A=>wu rfl rfl A fun h A=>f h i o A.bC.bC)
 intro l i o H hl h v ec A s
 refine aG (Fp A.f1) ?_
 refine aB A.v2 rfl (dZ lH.nslc ?_)
 refine lQ A rfl rfl rfl rfl (vX A.f1.leaf) rfl fun vb h A _=> ?_
 refine aB A.v2 rfl (dZ lH.nslc ?_)
 have A:=A.slc 1
 refine rQ A rfl A.f0.src ?_ ?_ fun va' h A _=> ?_
 ·show(0+1)*24≤most;omega
 ·show 0+1≤most;omega
 refine aA (RG A rfl A.leafS fun h A=> ?_)
 have A:=(A.bC.eX.add (R:=fun h=>jC h [[v]] [l]) fun h q=>
  jC.one (q (fun h=>View h 19 v ec) (by simp)) (q (fun h=>kW h ec l) (by simp))).drop1.drop1
 rw[aC] at H
 refine kP (by omega) (by decide) A s (Post.mono H ?_ fun x f h i o A=>f h i o A.freeze.eX.eX.bC.bC)
 intro u i o H h A s
 rw[aC] at H
 exact W.alts (by omega) (by omega) (by simp;omega) A s H
@[reducible] def YP (v fn:Str) (vc:AV) (ce:List AV):List AV:=[.int .i64 7, .str v, .str [], .ah, .ah,vc, .ah, .ah]++(ce++[.str fn, .str [], .ah])
theorem Ve {kk:Nat} (W:WC tv p mp en T kk) (hk:kk≤100000) [b:dL tv mp T F] (hn:4*(kk+1)+79≤n) {c r:Nat} {v fn:Str} (A:Cx h (vr p (pc tv mp en i o) :: vr c (YP v fn .ah Z8) :: vr r GK :: L) S F) (s:dK T en i o)
 (H:Post (bnd (dI T [40]) (fun _=>bnd (gY T kk) fun e=>bnd (bV T [41]) fun _=>bnd (bU T Vi) fun _=>bnd (iq T kk [[41]]) fun l=>bnd (bV T [41]) fun _=>ret (Cd.mk 7 v [] [] [] l [] [] e fn [] [])) i o) (Uk K p mp en tv T L S F) (FK K p mp en tv T L S F)):
 I9 (au E n) n (.ptr p 0 0 0) (.ptr r 0 0 0) (.ptr c 0 0 0) h K=true:=by
 unfold I9
 rw[aC] at H
 refine c32 (by omega) (by decide) A s (Post.mono H ?_ fun x f=>FK.pz' f.rest.rest)
 intro u i o H h A s
 refine aG rfl ?_
 rw[aC] at H
 refine c59 hk (by omega) A s (Post.mono H ?_ fun x f=>FK.pz' f.rest.rest)
 intro e i o H h ce A s
 obtain⟨w1,w2,w3⟩:=(A.f0:RE h ce e).cells
 refine aG rfl ?_
 unfold FR
 refine aA (yF A rfl w1 rfl w2 fun h A=> ?_)
 have e1:lay (YP v fn .ah Z8) (0+8) ce=YP v fn .ah ce:=by
  obtain⟨_,_,_,_,_,_,_,_,rfl⟩:=len8 w1;rfl
 rw[e1] at A
 rw[aC] at H
 refine Zu (by omega) (by decide) A s (Post.mono H ?_ fun x f=>FK.pz' f.rest.rest.drop)
 intro u i o H h A s
 refine aG rfl ?_
 rw[aC] at H
 refine kP (by omega) (by decide) A s (Post.mono H ?_ fun x f=>f.rest.rest.drop)
 intro u i o H h A s
 rw[aC] at H
 refine lQ A rfl rfl rfl rfl rfl rfl fun ve h A _=> ?_
 refine W.some (ends:=[[41]]) (by omega) (by decide) (by decide) (Knows.mem (by exact List.mem_cons_self)) A s (Post.mono H ?_ fun x f=>FK.pz' f.rest.rest.drop.drop)
 intro l i o H hl h vc ec A s
 refine aG (Fp A.f1) ?_
 unfold Fy
 refine aA (iC A (by simp[w1]) A.f1.leaf fun h A=> ?_)
 have e2:(YP v fn .ah ce).set (0+5) vc=YP v fn vc ce:=rfl
 rw[e2] at A
 rw[aC] at H
 refine Zu (by omega) (by decide) A s (Post.mono H ?_ fun x f=>FK.pz' f.rest.rest.drop.drop.drop.drop)
 intro u i o H h A s
 refine aG rfl (iN A.v1 (by simp[w1]) ?_)
 have A:=(A.bC.add (R:=fun h=>RC h (YP v fn vc ce) (.mk 7 v [] [] [] l [] [] e fn [] [])) fun h q=>
  RC.put (View.nil h 2) (View.nil h 8) pK.nil (q (fun h=>View h 19 vc ec) (by simp)) (q (fun h=>kW h ec l) (by simp)) (View.nil h 19) kW.nil (View.nil h 1) jC.nil (q (fun h=>RE h ce e) (by simp)) (View.nil h 9) rfl)
 exact xu A rfl A.f0 fun h A=>H h _ A.drop1.drop1.drop1.drop1 s
theorem ZY {kk:Nat} (W:WC tv p mp en T kk) (hk:kk≤100000):∀{n h L S F i o K} [dL tv mp T F],4*(kk+1)+80≤n→Cx h (vr p (pc tv mp en i o) :: L) S F→dK T en i o→Post (GN T (kk+1) i o) (Uk K p mp en tv T L S F) (FK K p mp en tv T L S F)→au E n (.func 75) [.ptr p 0 0 0] h K=true:=by
 intro n h L S F i o K b hn A s H
 obtain⟨n,rfl⟩:∃m,n=m+1:=⟨n-1,by omega⟩
 apply d75
 unfold s75
 refine bY A rfl rfl rfl fun r h A=> ?_
 unfold GN at H
 rw[aC] at H
 refine c32 (by omega) (by decide) A s (Post.mono H ?_ fun x f=>FK.pz' f.rest)
 intro u i o H h A s
 refine aG rfl ?_
 rw[aC] at H
 refine c42 (by omega) A s (Post.mono H ?_ fun x f=>FK.pz' f.rest)
 intro v i o H h A s
 refine aG rfl ?_
 unfold JQ
 refine eG rfl ?_
 refine bY A rfl rfl rfl fun c h A=> ?_
 refine gZ A rfl rfl rfl rfl fun h A=> ?_
 rw[aC] at H
 refine kP (by omega) (by decide) A s (Post.mono H ?_ fun x f=>f.rest.rest)
 intro u i o H h A s
 rw[aC] at H
 refine c19 (by omega) (by decide) A s (Post.mono H ?_ fun _ _=>trivial)
 intro bb i o H h A s
 refine aG rfl ?_
 rw[aC] at H
 cases bb with
 |true=>
  rw[if_pos rfl] at H
  refine bK (aA (iC A rfl rfl fun h A=> ?_))
  exact Ve W hk (by omega) A s H
 |false=>
  rw[if_neg (by simp)] at H
  refine bg ?_
  refine c31 (by omega) A s (Post.mono H ?_ fun x f=>FK.pz' f.rest.rest)
  intro fn i o H h A s
  refine aG rfl ?_
  unfold En
  refine aA (iC A rfl rfl fun h A=> ?_)
  exact Ve W hk (by omega) A s H
@[reducible] def cEv (kind:Int) (v:Str) (ce:List AV):List AV:=[.int .i64 kind, .str v, .str [], .ah, .ah, .ah, .ah, .ah]++(ce++[.str [], .str [], .ah])
theorem RC.ev {kind:Int} {v:Str} {ce:List AV} {e:Ex} (R:RE h ce e):RC h (cEv kind v ce) (.mk kind v [] [] [] [] [] [] e [] [] []):=
 RC.put (View.nil h 2) (View.nil h 8) pK.nil (View.nil h 19) kW.nil (View.nil h 19) kW.nil (View.nil h 1) jC.nil R (View.nil h 9) rfl
theorem Yf {kk:Nat} (W:WC tv p mp en T kk) (hk:kk≤100000):∀{n h L S F i o K} [dL tv mp T F],4*(kk+1)+80≤n→Cx h (vr p (pc tv mp en i o) :: L) S F→dK T en i o→Post (qX T (kk+1) i o) (Uk K p mp en tv T L S F) (FK K p mp en tv T L S F)→au E n (.func 57) [.ptr p 0 0 0] h K=true:=by
 intro n h L S F i o K b hn A s H
 obtain⟨n,rfl⟩:∃m,n=m+1:=⟨n-1,by omega⟩
 apply d57
 unfold s57
 refine bY A rfl rfl rfl fun r h A=> ?_
 unfold qX at H
 have alone:∀(kind:Int) {h i o l v ec},Cx h (vr p (pc tv mp en i o) :: vr r GK :: L) S ((fun h=>kW h ec l) :: (fun h=>View h 19 v ec) :: F)→dK T en i o→Uk K p mp en tv T L S F (cdL kind l) i o→
  (dP GK [(0,1,(.int .i64 kind)),(5,1,v)] fun v4=>aL h 19 (.ptr r 0 0 0) v4 fun h=>gI (fM h [(.ptr r 0 0 0,some (true,19))]) h K)=true:=by
  intro kind h i o l v ec A s H
  refine eG ((vM rfl rfl).trans ((vM A.f1.leaf rfl).trans rfl)) ?_
  have A:=A.add (R:=fun h=>RC h (cCd kind v .ah) (cdL kind l)) fun h q=>RC.lists (q (fun h=>View h 19 v ec) (by simp)) (q (fun h=>kW h ec l) (by simp)) (View.nil h 19) kW.nil
  exact xu (c:=cCd kind v .ah) A rfl A.f0 fun h A=>H h _ A.drop1.drop1 s
 refine c19 (by omega) (by decide) A s ?_
 unfold eZ
 cases b1:bN T i [110,111,116] with
 |true=>
  rw[if_pos (show bN T i YK=true from b1),aC] at H
  rw[if_pos rfl]
  refine aZ fun h A s=>aG rfl (bK ?_)
  refine W.block (by omega) A s (Post.mono H ?_ fun x f=>FK.pz' f.rest)
  intro l i o H hl h v ec A s
  refine aG (Fp A.f1) ?_
  unfold H9
  exact alone 2 A s H
 |false=>
  rw[if_neg (by show ¬(bN T i YK=true);rw[show bN T i YK=false from b1];simp)] at H
  rw[if_neg (by simp)]
  refine aZ fun h A s=>aG rfl (bg ?_)
  refine c19 (by omega) (by decide) A s ?_
  unfold eZ
  cases b2:bN T i [101,120,105,115,116,115] with
  |true=>
   rw[if_pos (show bN T i yU=true from b2),aC] at H
   rw[if_pos rfl]
   refine aZ fun h A s=>aG rfl (bK ?_)
   refine W.block (by omega) A s (Post.mono H ?_ fun x f=>FK.pz' f.rest)
   intro l i o H hl h v ec A s
   refine aG (Fp A.f1) ?_
   unfold Ef
   exact alone 3 A s H
  |false=>
   rw[if_neg (by show ¬(bN T i yU=true);rw[show bN T i yU=false from b2];simp)] at H
   rw[if_neg (by simp)]
   refine aZ fun h A s=>aG rfl (bg ?_)
   refine c19 (by omega) (by decide) A s ?_
   unfold eZ
   cases b3:bN T i [102,111,114,97,108,108] with
   |true=>
    rw[if_pos (show bN T i zn=true from b3),aC] at H
    rw[if_pos rfl]
    refine aZ fun h A s=>aG rfl (bK ?_)
    refine c32 (by omega) (by decide) A s (Post.mono H ?_ fun x f=>FK.pz' f.rest)
    intro u i o H h A s
    refine aG rfl ?_
    rw[aC] at H
    refine lQ A rfl rfl rfl rfl rfl rfl fun ve h A _=> ?_
    refine W.some (ends:=[[59]]) (by omega) (by decide) (by decide) (Knows.mem (by exact List.mem_cons_self)) A s (Post.mono H ?_ fun x f=>FK.pz' f.rest.drop)
    intro l i o H hl h v ec A s
    refine aG (Fp A.f1) ?_
    unfold EO
    have hvl:=A.f1.leaf
    refine eG ((vM rfl rfl).trans ((vM hvl rfl).trans rfl)) ?_
    refine bY A rfl rfl rfl fun c h A=> ?_
    refine gZ (l:=cCd 4 v .ah) A rfl rfl rfl (agR hvl rfl) fun h A=> ?_
    rw[aC] at H
    refine kP (by omega) (by decide) A s (Post.mono H ?_ fun x f=>f.rest.rest.drop.drop.drop)
    intro u i o H h A s
    rw[aC] at H
    refine lQ A rfl rfl rfl rfl rfl rfl fun ve2 h A _=> ?_
    refine W.some (ends:=[[41]]) (by omega) (by decide) (by decide) (Knows.mem (by exact List.mem_cons_self)) A s (Post.mono H ?_ fun x f=>FK.pz' f.rest.rest.drop.drop.drop.drop)
    intro l2 i o H hl2 h v2 ec2 A s
    refine aG (Fp A.f1) ?_
    unfold Fh
    refine aA (iC A rfl A.f1.leaf fun h A=> ?_)
    rw[aC] at H
    refine Zu (by omega) (by decide) A s (Post.mono H ?_ fun x f=>FK.pz' f.rest.rest.drop.drop.drop.drop.drop.drop)
    intro u i o H h A s
    refine aG rfl (iN (c:=cCd 4 v v2) A.v1 rfl ?_)
    have A:=A.bC.add (R:=fun h=>RC h (cCd 4 v v2) (.mk 4 [] [] [] [] l l2 [] sG [] [] [])) fun h q=>
     RC.lists (q (fun h=>View h 19 v ec) (by simp)) (q (fun h=>kW h ec l) (by simp)) (q (fun h=>View h 19 v2 ec2) (by simp)) (q (fun h=>kW h ec2 l2) (by simp))
    exact xu (c:=cCd 4 v v2) A rfl A.f0 fun h A=>H h _ A.drop1.drop1.drop1.drop1.drop1.drop1 s
   |false=>
    rw[if_neg (by show ¬(bN T i zn=true);rw[show bN T i zn=false from b3];simp)] at H
    rw[if_neg (by simp)]
    refine aZ fun h A s=>aG rfl (bg ?_)
    refine Vd (d:=0) (by omega) (by omega) (by decide) A s fun h A=>aG rfl ?_
    rw[Nat.add_zero]
    cases b4:bN T i [40] with
    |true=>
     rw[if_pos b4] at H
     refine bK ?_
     refine W.orr (by omega) A s (Post.mono H ?_ fun x f=>FK.pz' f.rest)
     intro v i o H h c A s
     refine aG rfl ?_
     unfold Fu
     exact xu A rfl A.f0 fun h A=>H h c A s
    |false=>
     rw[if_neg (by rw[b4];simp)] at H
     refine bg ?_
     refine c19 (by omega) (by decide) A s ?_
     unfold eZ
     cases b5:bN T i [101,118,97,108] with
     |true=>
      rw[if_pos (show bN T i MK=true from b5),aC] at H
      rw[if_pos rfl]
      refine aZ fun h A s=>aG rfl (bK ?_)
      refine c32 (by omega) (by decide) A s (Post.mono H ?_ fun x f=>FK.pz' f.rest)
      intro u i o H h A s
      refine aG rfl ?_
      rw[aC] at H
      refine c59 hk (by omega) A s (Post.mono H ?_ fun x f=>FK.pz' f.rest)
      intro e i o H h ce A s
      obtain⟨w1,w2,w3⟩:=(A.f0:RE h ce e).cells
      refine aG rfl ?_
      unfold E9
      have e1:lay ((GK).set 0 (.int .i64 8)) 8 ce=cEv 8 [] ce:=by
       obtain⟨_,_,_,_,_,_,_,_,rfl⟩:=len8 w1;rfl
      refine eG ((vM rfl rfl).trans ((adT (v:= .agg ce) w1 rfl w2).trans (congrArg Option.some e1))) ?_
      refine bY A rfl rfl rfl fun c h A=> ?_
      have hl:aD (cEv 8 [] ce)=true:=gW rfl (gW w2 rfl)
      refine gZ A rfl (by simp[w1]) rfl hl fun h A=> ?_
      rw[aC] at H
      refine Zu (by omega) (by decide) A s (Post.mono H ?_ fun x f=>FK.pz' f.rest.rest.drop)
      intro u i o H h A s
      refine aG rfl (iN A.v1 (by simp[w1]) ?_)
      have A:=A.bC.imp (R:=fun h=>RC h (cEv 8 [] ce) (.mk 8 [] [] [] [] [] [] [] e [] [] [])) fun h R=>RC.ev R
      exact xu A rfl A.f0 fun h A=>H h _ A s
     |false=>
      rw[if_neg (by show ¬(bN T i MK=true);rw[show bN T i MK=false from b5];simp)] at H
      rw[if_neg (by simp)]
      refine aZ fun h A s=>aG rfl (bg ?_)
      refine c19 (by omega) (by decide) A s ?_
      unfold eZ
      cases b6:bN T i [97,99,99] with
      |true=>
       rw[if_pos (show bN T i Yz=true from b6)] at H
       rw[if_pos rfl]
       refine aZ fun h A s=>aG rfl (bK ?_)
       refine W.acc (by omega) A s (Post.mono H ?_ fun x f=>FK.pz' f.rest)
       intro v i o H h c A s
       refine aG rfl ?_
       unfold Ea
       exact xu A rfl A.f0 fun h A=>H h c A s
      |false=>
       rw[if_neg (by show ¬(bN T i Yz=true);rw[show bN T i Yz=false from b6];simp)] at H
       rw[if_neg (by simp)]
       refine aZ fun h A s=>aG rfl (bg ?_)
       refine c19 (by omega) (by decide) A s ?_
       unfold eZ
       cases b7:bN T i [63] with
       |true=>
        rw[if_pos b7] at H
        rw[if_pos rfl]
        refine aZ fun h A s=>aG rfl (bK ?_)
        refine c76 hk (by omega) A s (Post.mono H ?_ fun x f=>FK.pz' f.rest)
        intro v i o H h c A s
        refine aG rfl ?_
        unfold ES
        exact xu A rfl A.f0 fun h A=>H h c A s
       |false=>
        rw[if_neg (by rw[b7];simp)] at H
        rw[if_neg (by simp)]
        refine aZ fun h A s=>aG rfl (bg ?_)
        refine c55 (k:=1) (by omega) A s fun h A=>aG rfl ?_
        unfold EZ
        have pat:∀{h},Cx h (vr p (pc tv mp en i o) :: vr r GK :: L) S F→Post (OE T kk i o) (Uk K p mp en tv T L S F) (FK K p mp en tv T L S F)→
         (au E n (.func 77) [.ptr p 0 0 0] h <| pz K fun v60 h=>y9 (au E n) n (.ptr r 0 0 0) v60 h K)=true:=by
         intro h A H
         refine c77 hk (by omega) A s (Post.mono H ?_ fun x f=>FK.pz' f.rest)
         intro v i o H h c A s
         refine aG rfl ?_
         unfold y9
         exact xu A rfl A.f0 fun h A=>H h c A s
        cases k1:dN T i 1 with
        |false=>
         rw[k1,Bool.false_and,if_neg (by simp)] at H
         refine eH ?_;refine rT ?_
         unfold zK
         refine eH ?_;refine dQ ?_;refine bg ?_
         exact pat A H
        |true=>
         refine aY ?_;refine aS ?_;refine dY ?_
         refine Vd (d:=1) (by omega) (by omega) (by decide) A s fun h A=>aG rfl ?_
         unfold zK
         cases k2:bN T (i+1) [58] with
         |true=>
          rw[k1,k2,if_neg (by simp)] at H
          refine aY ?_;refine bM ?_;refine dG ?_;refine bg ?_
          exact pat A H
         |false=>
          rw[k1,k2,if_pos (by simp),aC] at H
          refine aY ?_;refine dw ?_;refine dG ?_;refine bK ?_
          refine c42 (by omega) A s (Post.mono H ?_ fun x f=>FK.pz' f.rest)
          intro v i o H h A s
          refine aG rfl ?_
          unfold Fj
          refine eG rfl ?_
          refine bY A rfl rfl rfl fun c h A=> ?_
          refine gZ (l:=cEv 6 v Z8) A rfl rfl rfl rfl fun h A=> ?_
          rw[aC] at H
          refine kP (by omega) (by decide) A s (Post.mono H ?_ fun x f=>f.rest.rest)
          intro u i o H h A s
          rw[aC] at H
          refine c59 hk (by omega) A s (Post.mono H ?_ fun x f=>FK.pz' f.rest.rest)
          intro e i o H h ce A s
          obtain⟨w1,w2,w3⟩:=(A.f0:RE h ce e).cells
          refine aG rfl ?_
          unfold EH
          refine aA (yF A rfl w1 rfl w2 fun h A=> ?_)
          have e1:lay (cEv 6 v Z8) (0+8) ce=cEv 6 v ce:=by
           obtain⟨_,_,_,_,_,_,_,_,rfl⟩:=len8 w1;rfl
          rw[show lay _ (0+8) ce=cEv 6 v ce from e1] at A
          refine iN A.v1 (by simp[w1]) ?_
          have A:=A.bC.imp (R:=fun h=>RC h (cEv 6 v ce) (.mk 6 v [] [] [] [] [] [] e [] [] [])) fun h R=>RC.ev R
          exact xu A rfl A.f0 fun h A=>H h _ A s
theorem Z0:∀k,k≤100000→WC tv p mp en T k
 |0,_=>⟨fun _ _ _ _ _ _ _ _ H=>absurd H (by unfold iK;exact fun q=>q),fun _ _ _ _ _ _ H=>absurd H (by unfold iq;exact fun q=>q),fun _ _ _ H=>absurd H (by unfold lK;exact fun q=>q),
   fun _ _ _ _ _ H=>absurd H (by unfold rz;exact fun q=>q),fun _ _ _ H=>absurd H (by unfold orM;exact fun q=>q),fun _ _ _ H=>absurd H (by unfold GN;exact fun q=>q),fun _ _ _ H=>absurd H (by unfold qX;exact fun q=>q)⟩
 |k+1,hk=>by
  have W:=Z0 k (by omega)
  exact⟨S9 W,X9 W (by omega),Ut W,X3 W,acd W (by omega),ZY W (by omega),Yf W (by omega)⟩
end
def RA (h:aj) (c:List AV) (a:Act):Prop:=∃vs eg ce,c=[.int .i64 a.kind, .str a.cls,vs]++(ce++[.str a.text])∧View h 9 vs eg∧rE h eg a.set∧RE h ce a.e
section
variable {h:aj} {L:jq} {S:List Sl} {F:List (aj→Prop)} {p mp en i n:Nat} {o:Int} {tv:AV} {T:List Lx} {K Q k:aM}
theorem RA.cells {c:List AV} {a:Act} (R:RA h c a):c.length=12∧aD c=true∧sN c:=by
 obtain⟨vs,eg,ce,rfl,V,_,R⟩:=R
 obtain⟨w1,w2,w3⟩:=R.cells
 exact⟨by simp[w1],gW (aH rfl (aH rfl (aH V.leaf rfl))) (gW w2 rfl),sN.app (.cons (.int _ _) (.cons (.str _) (.cons V.lH .nil))) (w3.app (.cons (.str _) .nil))⟩
@[reducible] def Z9g:List AV:=[.str [], .int .i64 0, .str [], .int .i64 0, .bool false, .int .i64 0, .str [], .ah, .ah]
def OkG (K:aM) (p mp en:Nat) (tv:AV) (T:List Lx) (L:jq) (S:List Sl) (F:List (aj→Prop)):List (Str×Ex)→Nat→Int→Prop:=fun l i o=>∀h v eg,Cx h (vr p (pc tv mp en i o) :: L) S ((fun h=>rE h eg l) :: (fun h=>View h 9 v eg) :: F)→dK T en i o→K v h=true
theorem c78 {kk:Nat} (hk:kk≤100000) (hn:4*kk+60≤n) [b:dL tv mp T F] {pb ab:Nat} {va:AV} {ea:List (List AV)} {acc:List (Str×Ex)} (hacc:acc.length≤100000)
 (A:Cx h (vr p (pc tv mp en i o) :: vr ab [va] :: vr pb [.ptr p 0 0 0] :: L) (⟨va,9,ea⟩ :: S) ((fun h=>rE h ea acc) :: F)) (s:dK T en i o)
 (H:Post (iB T kk acc i o)
   (fun acc' i o=>acc'.length=acc.length+1→∀h va ea,Cx h (vr p (pc tv mp en i o) :: vr ab [va] :: vr pb [.ptr p 0 0 0] :: L) (⟨va,9,ea⟩ :: S) ((fun h=>rE h ea acc') :: F)→dK T en i o→K (.tup []) h=true)
   (fun x=>∀h i o va ea R,Cx h (vr p (pc tv mp en i o) :: vr ab [va] :: vr pb [.ptr p 0 0 0] :: L) (⟨va,9,ea⟩ :: S) (R :: F)→K (flt T en x) h=true)):
 au E n (.func 78) [.ptr pb 0 0 0, .ptr ab 0 0 0] h K=true:=by
 obtain⟨n,rfl⟩:∃m,n=m+1:=⟨n-1,by omega⟩
 have hmo:most=1099511627776:=rfl
 apply d78
 unfold s78
 have hlen:=(A.f0:rE h ea acc).len
 refine aB A.v2 rfl ?_
 unfold iB at H
 rw[aC] at H
 refine c31 (by omega) A s (Post.mono H ?_ fun x f h i o A=>f h i o _ _ _ A)
 intro nm i o H h A s
 refine aG rfl ?_
 unfold Kv
 refine eG rfl ?_
 refine bY A rfl rfl rfl fun x h A=> ?_
 refine gZ (l:= .str nm :: Z8) A rfl rfl rfl rfl fun h A=> ?_
 refine aB A.v3 rfl ?_
 rw[aC] at H
 refine kP (by omega) (by decide) A s (Post.mono H ?_ fun x f h i o A=>f h i o _ _ _ A.bC)
 intro u i o H h A s
 refine aB A.v3 rfl ?_
 rw[aC] at H
 refine c59 hk (by omega) A s (Post.mono H ?_ fun x f h i o A=>f h i o _ _ _ A.bC)
 intro e i o H h ce A s
 obtain⟨w1,w2,w3⟩:=(A.f0:RE h ce e).cells
 refine aG rfl ?_
 unfold IE
 refine aA (yF A rfl w1 rfl w2 fun h A=> ?_)
 have e1:lay (AV.str nm :: Z8) (0+1) ce= .str nm :: ce:=by
  obtain⟨_,_,_,_,_,_,_,_,rfl⟩:=len8 w1;rfl
 rw[e1] at A
 refine aB A.v2 rfl ?_
 refine iN A.v1 (by simp[w1]) ?_
 refine lQ A rfl rfl rfl rfl (gX (by simp[w1]) (aH rfl w2)) rfl fun vb h A _=> ?_
 refine rQ A rfl A.f0.src ?_ ?_ fun va' h A _=> ?_
 ·show(ea.length+1)*128≤most;omega
 ·show ea.length+1≤most;omega
 refine RG A rfl A.leafS fun h A=> ?_
 have A:=A.bC.eX.imp2 (R:=fun h=>rE h (ea++[.str nm :: ce]) (acc++[(nm,e)])) fun h R1 R2=>R2.app (rE.one R1)
 exact H (by simp) h va' _ A s
theorem P9 {kk:Nat} (hk:kk≤100000) (hn:4*kk+70≤n) [b:dL tv mp T F] {pb ab:Nat} (A:Cx h (vr p (pc tv mp en i o) :: vr ab [.ah] :: vr pb [.ptr p 0 0 0] :: L) S F) (s:dK T en i o)
 (H:Post (gq T [125] (iB T kk) kk [] i o) (OkG K p mp en tv T L S F) (FK K p mp en tv T L S F)):Kh (au E n) n (.ptr pb 0 0 0) (.ptr ab 0 0 0) h K=true:=by
 unfold Kh
 refine aB A.v2 rfl ?_;refine aS ?_
 obtain⟨n,rfl⟩:∃m,n=m+1:=⟨n-1,by omega⟩
 have A:=(A.slc 9).tru (R:=fun h=>rE h [] []) fun h=>rfl
 refine c40 (one:=iB T kk) (kk:=kk) (s:=[])
  (C:=fun j acc L' S' F'=>∃va ea,L'=vr ab [va] :: vr pb [.ptr p 0 0 0] :: L∧S'=⟨va,9,ea⟩ :: S∧F'=(fun h=>rE h ea acc) :: F∧acc.length+j≤kk)
  (D:=fun L' S' F'=>∃va ea R,L'=vr ab [va] :: vr pb [.ptr p 0 0 0] :: L∧S'=⟨va,9,ea⟩ :: S∧F'=R :: F)
  (fun{j s L S F} hC=>by obtain⟨_,_,_,_,rfl,_⟩:=hC;infer_instance)
  (fun{j s L S F} hC=>by obtain⟨va,ea,h1,h2,h3,_⟩:=hC;exact⟨va,ea,_,h1,h2,h3⟩)
  (by omega) (by decide) ?_ ⟨.ah,[],rfl,rfl,rfl,by simp⟩ A s (Post.mono H ?_ ?_)
 ·intro j acc h L' S' F' i o K' hC A s H
  obtain⟨va,ea,rfl,rfl,rfl,hj⟩:=hC
  show au E n (.func 78) [.ptr pb 0 0 0, .ptr ab 0 0 0] h K'=true
  refine c78 (acc:=acc) hk (by omega) (by omega) A s (Post.mono H ?_ ?_)
  ·intro acc' i o H hl h va ea A s
   exact H h _ _ _ ⟨va,ea,rfl,rfl,rfl,by omega⟩ A s
  ·intro x f h i o va ea R A
   exact f h i o _ _ _ ⟨va,ea,R,rfl,rfl,rfl⟩ A
 ·intro acc i o H h L' S' F' hC A s
  obtain⟨j,va,ea,rfl,rfl,rfl,hj⟩:=hC
  refine aG rfl ?_
  refine aB A.v1 rfl ?_
  exact H h va ea A.freeze.swapF.bC.bC s
 ·intro x f h i o L' S' F' hD A
  obtain⟨va,ea,R,rfl,rfl,rfl⟩:=hD
  exact f h i o A.freeze.eX.eX.bC.bC
def afn (least:Bool):AV:= .int .i64 (bif least then 1 else 0)
theorem c58 {kk:Nat} (hk:kk≤100000) (hn:4*kk+75≤n) [b:dL tv mp T F] {least:Bool} (A:Cx h (vr p (pc tv mp en i o) :: L) S F) (s:dK T en i o)
 (H:Post (qV T kk least i o) (OkG K p mp en tv T L S F) (FK K p mp en tv T L S F)):au E n (.func 58) [.ptr p 0 0 0,afn least] h K=true:=by
 obtain⟨n,rfl⟩:∃m,n=m+1:=⟨n-1,by omega⟩
 apply d58
 unfold s58
 refine QE A rfl fun pb h A=> ?_
 refine bY A rfl rfl rfl fun ab h A=> ?_
 refine aB A.v2 rfl ?_
 unfold qV at H
 rw[aC] at H
 refine c32 (by omega) (by decide) A s (Post.mono H ?_ fun x f=>FK.pz' f.rest.rest)
 intro u i o H h A s
 refine aG rfl ?_
 cases least with
 |false=>
  rw[if_neg (by simp)] at H
  refine nR (bg ?_)
  exact P9 hk (by omega) A s H
 |true=>
  rw[if_pos rfl,aC] at H
  refine nR (bK ?_)
  repeat with_reducible refine aB A.v2 rfl ?_
  refine Vd (d:=0) (by omega) (by omega) (by decide) A s fun h A=>aG rfl ?_
  rw[Nat.add_zero]
  refine aB A.v2 rfl ?_;refine dZ (lH.ptr _ _ _ _) ?_
  refine Ws ?_
  refine O8 (by omega) A s (Post.mono H ?_ fun x f=>FK.pz' f.rest.rest)
  intro u i o H h A s
  refine aG rfl ?_
  exact P9 hk (by omega) A s H
@[reducible] def Z12:List AV:=[.int .i64 0, .str [], .ah, .int .i64 0, .str [], .int .i64 0, .bool false, .int .i64 0, .str [], .ah, .ah, .str []]
@[reducible] def Sn (kind:Int) (cl:Str) (vs:AV) (ce:List AV) (t:Str):List AV:=[.int .i64 kind, .str cl,vs]++(ce++[.str t])
def OkA (K:aM) (p mp en:Nat) (tv:AV) (T:List Lx) (L:jq) (S:List Sl) (F:List (aj→Prop)):Act→Nat→Int→Prop:=fun v i o=>∀h c,Cx h (vr p (pc tv mp en i o) :: L) S ((fun h=>RA h c v) :: F)→dK T en i o→K (.agg c) h=true
theorem BD [b:dL tv mp T F] (hn:8≤n) {a r:Nat} {c:List AV} {v:Act} (A:Cx h (vr p (pc tv mp en i o) :: vr a c :: vr r Z12 :: L) S F) (R:∀h,(∀Q∈F,Q h)→RA h c v) (s:dK T en i o)
 (H:Post (nA T v i o) (OkA K p mp en tv T L S F) (FK K p mp en tv T L S F)):uO (au E n) n (.ptr p 0 0 0) (.ptr r 0 0 0) (.ptr a 0 0 0) h K=true:=by
 unfold uO
 unfold nA at H
 rw[aC] at H
 refine kP (by omega) (by decide) A s (Post.mono H ?_ fun x f=>f.rest.rest)
 intro u i o H h A s
 have A:=A.add R
 obtain⟨w1,w2,w3⟩:=(A.f0:RA h c v).cells
 refine iN A.v1 w1 ?_
 have A:=A.bC
 refine gZ A rfl w1 rfl w2 fun h A=>wZ A.v1 w1 ?_
 exact H h c A.bC s
theorem OkA.drop {R:aj→Prop} {v:Act} (H:OkA K p mp en tv T L S F v i o):OkA K p mp en tv T L S (R :: F) v i o:=fun h c A s=>H h c A.drop1 s
theorem c39 {kk:Nat} (hk:kk≤100000) (hn:4*kk+80≤n) [b:dL tv mp T F] (A:Cx h (vr p (pc tv mp en i o) :: L) S F) (s:dK T en i o)
 (H:Post (Dr T kk i o) (OkA K p mp en tv T L S F) (FK K p mp en tv T L S F)):au E n (.func 39) [.ptr p 0 0 0] h K=true:=by
 obtain⟨n,rfl⟩:∃m,n=m+1:=⟨n-1,by omega⟩
 apply d39
 unfold s39
 refine bY A rfl rfl rfl fun r h A=> ?_
 refine bY A rfl rfl rfl fun a h A=> ?_
 unfold Dr at H
 have ofE:∀(kind:Int) {h i o e ce},Cx h (vr p (pc tv mp en i o) :: vr a Z12 :: vr r Z12 :: L) S ((fun h=>RE h ce e) :: F)→dK T en i o→Post (nA T ⟨kind,[],[],e,[]⟩ i o) (OkA K p mp en tv T L S F) (FK K p mp en tv T L S F)→
  (ay 0 (.ptr a 0 0 0) fun v31=>bH h v31 (.int .i64 kind) fun h=>ay 3 (.ptr a 0 0 0) fun v33=>aL h 8 v33 (.agg ce) fun h=>uO (au E n) n (.ptr p 0 0 0) (.ptr r 0 0 0) (.ptr a 0 0 0) h K)=true:=by
  intro kind h i o e ce A s H
  obtain⟨w1,w2,w3⟩:=(A.f0:RE h ce e).cells
  refine aA (iC A rfl rfl fun h A=> ?_)
  refine aA (yF A rfl w1 rfl w2 fun h A=> ?_)
  have e1:lay ((Z12).set (0+0) (.int .i64 kind)) (0+3) ce=Sn kind [] .ah ce []:=by
   obtain⟨_,_,_,_,_,_,_,_,rfl⟩:=len8 w1;rfl
  rw[show lay _ (0+3) ce=_ from e1] at A
  exact BD (by omega) A (fun h q=>⟨.ah,[],ce,rfl,View.nil h 9,(show rE h [] [] from rfl),q (fun h=>RE h ce e) (by simp)⟩) s (Post.mono H (fun v i o H=>H.drop) fun x f=>f.drop)
 have ins:∀{h},(bN T i qK=true∨bN T i iE=true)→Cx h (vr p (pc tv mp en i o) :: vr a Z12 :: vr r Z12 :: L) S F→
  Post (bnd (zZ T) (fun t=>bnd (fB T) fun c=>bnd (qV T kk false) fun l=>nA T ⟨if t=iE then 2 else 1,c,l,sG,[]⟩) i o) (OkA K p mp en tv T L S F) (FK K p mp en tv T L S F)→
  (ay 0 (.ptr a 0 0 0) fun v4=>bH h v4 (.int .i64 1) fun h=>au E n (.func 53) [.ptr p 0 0 0] h <| pz K fun v6 h=>zA (au E n) n (.ptr p 0 0 0) (.ptr r 0 0 0) (.ptr a 0 0 0) v6 h K)=true:=by
  intro h hi A H
  have hlt:i<T.length:=by rcases hi with q |q<;>exact ZV q
  refine aA (iC A rfl rfl fun h A=> ?_)
  have H:Post (bnd (fB T) (fun c=>bnd (qV T kk false) fun l=>nA T ⟨if txt T i=iE then 2 else 1,c,l,sG,[]⟩) (i+1) o) (OkA K p mp en tv T L S F) (FK K p mp en tv T L S F):=H
  refine c53 (by omega) hlt A s fun h A s=>aG rfl ?_
  unfold zA
  refine Dj ?_
  have rest:∀{h:aj} (kind:Int),Cx h (vr p (pc tv mp en (i+1) o) :: vr a (Sn kind [] .ah Z8 []) :: vr r Z12 :: L) S F→
   Post (bnd (fB T) (fun c=>bnd (qV T kk false) fun l=>nA T ⟨kind,c,l,sG,[]⟩) (i+1) o) (OkA K p mp en tv T L S F) (FK K p mp en tv T L S F)→HZ (au E n) n (.ptr p 0 0 0) (.ptr r 0 0 0) (.ptr a 0 0 0) h K=true:=by
   intro h kind A H
   unfold HZ
   rw[aC] at H
   refine c31 (by omega) A s (Post.mono H ?_ fun x f=>FK.pz' f.rest.rest)
   intro cl i o H h A s
   refine aG rfl ?_
   unfold DJ
   refine aA (iC A rfl rfl fun h A=> ?_)
   rw[aC] at H
   refine c58 (least:=false) hk (by omega) A s (Post.mono H ?_ fun x f=>FK.pz' f.rest.rest)
   intro l i o H h v eg A s
   refine aG (Fp A.f1) ?_
   unfold Fz
   refine aA (iC A rfl A.f1.leaf fun h A=> ?_)
   exact BD (c:=Sn kind cl v Z8 []) (v:=⟨kind,cl,l,sG,[]⟩) (by omega) A (fun h q=>⟨v,eg,Z8,rfl,q (fun h=>View h 9 v eg) (by simp),q (fun h=>rE h eg l) (by simp),RE.zero⟩) s (Post.mono H (fun v i o H=>H.drop.drop) fun x f=>f.drop.drop)
  cases hc:decide (txt T i=[108,111,103,105,99,97,108]) with
  |true=>
   rw[if_pos (show txt T i=iE from of_decide_eq_true hc)] at H
   refine bK (aA (iC A rfl rfl fun h A=> ?_))
   exact rest 2 A H
  |false=>
   rw[if_neg (show ¬txt T i=iE from of_decide_eq_false hc)] at H
   refine bg ?_
   exact rest 1 A H
 refine Vd (d:=0) (by omega) (by omega) (by decide) A s fun h A=>aG rfl ?_
 rw[Nat.add_zero]
 cases b1:bN T i [105,110,115,101,114,116] with
 |true=>
  rw[if_pos (.inl (show bN T i qK=true from b1))] at H
  refine bK ?_
  unfold JV
  refine bK ?_
  exact ins (.inl b1) A H
 |false=>
  have b1:bN T i qK=false:=b1
  refine bg ?_
  refine Vd (d:=0) (by omega) (by omega) (by decide) A s fun h A=>aG rfl ?_
  rw[Nat.add_zero]
  unfold JV
  cases b2:bN T i [108,111,103,105,99,97,108] with
  |true=>
   rw[if_pos (.inr (show bN T i iE=true from b2))] at H
   refine bK ?_
   exact ins (.inr b2) A H
  |false=>
   have b2:bN T i iE=false:=b2
   rw[if_neg (by rw[b1,b2];simp)] at H
   refine bg ?_
   refine c19 (by omega) (by decide) A s ?_
   unfold eZ
   cases b3:bN T i [117,112,100,97,116,101] with
   |true=>
    rw[if_pos (show bN T i zH=true from b3),aC] at H
    rw[if_pos rfl]
    refine aZ fun h A s=>aG rfl (bK ?_)
    refine c59 hk (by omega) A s (Post.mono H ?_ fun x f=>FK.pz' f.rest.rest)
    intro e i o H h ce A s
    obtain⟨w1,w2,w3⟩:=(A.f0:RE h ce e).cells
    refine aG rfl ?_
    unfold FU
    refine aA (iC A rfl rfl fun h A=> ?_)
    refine aA (yF A rfl w1 rfl w2 fun h A=> ?_)
    have e1:lay ((Z12).set (0+0) (.int .i64 3)) (0+3) ce=Sn 3 [] .ah ce []:=by
     obtain⟨_,_,_,_,_,_,_,_,rfl⟩:=len8 w1;rfl
    rw[show lay _ (0+3) ce=_ from e1] at A
    rw[aC] at H
    refine c58 (least:=true) hk (by omega) A s (Post.mono H ?_ fun x f=>FK.pz' f.rest.rest.drop)
    intro l i o H h v eg A s
    refine aG (Fp A.f1) ?_
    unfold Ej
    refine aA (iC A (by simp[w1]) A.f1.leaf fun h A=> ?_)
    exact BD (c:=Sn 3 [] v ce []) (v:=⟨3,[],l,e,[]⟩) (by omega) A (fun h q=>⟨v,eg,ce,rfl,q (fun h=>View h 9 v eg) (by simp),q (fun h=>rE h eg l) (by simp),q (fun h=>RE h ce e) (by simp)⟩) s (Post.mono H (fun v i o H=>H.drop.drop.drop) fun x f=>f.drop.drop.drop)
   |false=>
    rw[if_neg (by show ¬(bN T i zH=true);rw[show bN T i zH=false from b3];simp)] at H
    rw[if_neg (by simp)]
    refine aZ fun h A s=>aG rfl (bg ?_)
    refine c19 (by omega) (by decide) A s ?_
    unfold eZ
    cases b4:bN T i [100,101,108,101,116,101] with
    |true=>
     rw[if_pos (show bN T i zq=true from b4),aC] at H
     rw[if_pos rfl]
     refine aZ fun h A s=>aG rfl (bK ?_)
     refine c59 hk (by omega) A s (Post.mono H ?_ fun x f=>FK.pz' f.rest.rest)
     intro e i o H h ce A s
     refine aG rfl ?_
     unfold DR
     exact ofE 4 A s H
    |false=>
     rw[if_neg (by show ¬(bN T i zq=true);rw[show bN T i zq=false from b4];simp)] at H
     rw[if_neg (by simp)]
     refine aZ fun h A s=>aG rfl (bg ?_)
     refine c19 (by omega) (by decide) A s ?_
     unfold eZ
     cases b5:bN T i [102,111,99,117,115] with
     |true=>
      rw[if_pos (show bN T i Eh=true from b5),aC] at H
      rw[if_pos rfl]
      refine aZ fun h A s=>aG rfl (bK ?_)
      refine c36 (by omega) A s (Post.mono H ?_ fun x f=>FK.pz' f.rest.rest)
      intro t i o H h A s
      refine aG rfl ?_
      unfold D8
      refine aA (iC A rfl rfl fun h A=> ?_)
      refine aA (iC A rfl rfl fun h A=> ?_)
      exact BD (c:=Sn 5 [] .ah Z8 t) (v:=⟨5,[],[],sG,t⟩) (by omega) A (fun h q=>⟨.ah,[],Z8,rfl,View.nil h 9,(show rE h [] [] from rfl),RE.zero⟩) s H
     |false=>
      rw[if_neg (by show ¬(bN T i Eh=true);rw[show bN T i Eh=false from b5];simp)] at H
      rw[if_neg (by simp)]
      refine aZ fun h A s=>aG rfl (bg ?_)
      refine c19 (by omega) (by decide) A s ?_
      unfold eZ
      cases b6:bN T i [112,114,105,110,116] with
      |true=>
       rw[if_pos (show bN T i Ee=true from b6),aC] at H
       rw[if_pos rfl]
       refine aZ fun h A s=>aG rfl (bK ?_)
       refine c59 hk (by omega) A s (Post.mono H ?_ fun x f=>FK.pz' f.rest.rest)
       intro e i o H h ce A s
       refine aG rfl ?_
       unfold Et
       exact ofE 6 A s H
      |false=>
       rw[if_neg (by show ¬(bN T i Ee=true);rw[show bN T i Ee=false from b6];simp),aC] at H
       rw[if_neg (by simp)]
       refine aZ fun h A s=>aG rfl (bg ?_)
       refine kP (by omega) (by decide) A s (Post.mono H ?_ fun x f=>f.rest.rest)
       intro u i o H h A s
       refine aA (iC A rfl rfl fun h A=> ?_)
       exact BD (c:=Sn 7 [] .ah Z8 []) (v:=⟨7,[],[],sG,[]⟩) (by omega) A (fun h q=>⟨.ah,[],Z8,rfl,View.nil h 9,(show rE h [] [] from rfl),RE.zero⟩) s H
end
@[reducible] def pX (f:Bv):List AV:=[.str f.name, .int .i64 f.ty, .str f.cls]
def RK (h:aj) (c:List AV) (k:Cls):Prop:=∃v,c=[.str k.name, .str k.super,v]∧View h 3 v (k.fields.map pX)
section
variable {h:aj} {L:jq} {S:List Sl} {F:List (aj→Prop)} {p mp en i n:Nat} {o:Int} {tv:AV} {T:List Lx} {K Q k:aM}
theorem RK.cells {c:List AV} {a:Cls} (R:RK h c a):c.length=3∧aD c=true∧sN c:=by
 obtain⟨v,rfl,V⟩:=R
 exact⟨rfl,aH rfl (aH rfl (aH V.leaf rfl)), .cons (.str _) (.cons (.str _) (.cons V.lH .nil))⟩
@[reducible] def Z3f:List AV:=[.str [], .int .i64 0, .str []]
theorem Vv {e1 e2:Nat×fG} {r a:Nat} {c:List AV} (A:Cx h (e1 :: vr a c :: vr r Z3f :: L) S F) (h1:c.length=3) (h2:aD c=true) (H:∀h,Cx h (e1 :: L) S F→K (.agg c) h=true):uN (au E n) n (.ptr r 0 0 0) (.ptr a 0 0 0) h K=true:=by
 unfold uN
 refine iN A.v1 h1 ?_
 exact gZ A.bC rfl h1 rfl h2 fun h A=>wZ A.v1 h1 (H h A.bC)
theorem c34 [b:dL tv mp T F] (hn:12≤n) (A:Cx h (vr p (pc tv mp en i o) :: L) S F) (s:dK T en i o)
 (H:Post (pq T i o) (Sb K (fun f=> .agg (pX f)) p mp en tv T L S F) (FK K p mp en tv T L S F)):au E n (.func 34) [.ptr p 0 0 0] h K=true:=by
 obtain⟨n,rfl⟩:∃m,n=m+1:=⟨n-1,by omega⟩
 apply d34
 unfold s34
 refine bY A rfl rfl rfl fun r h A=> ?_
 unfold pq at H
 rw[aC] at H
 refine c31 (by omega) A s (Post.mono H ?_ fun x f=>FK.pz' f.rest)
 intro nm i o H h A s
 refine aG rfl ?_
 unfold Hu
 refine eG rfl ?_
 refine bY A rfl rfl rfl fun a h A=> ?_
 refine gZ (l:=[.str nm, .int .i64 0, .str []]) A rfl rfl rfl rfl fun h A=> ?_
 rw[aC] at H
 refine kP (by omega) (by decide) A s (Post.mono H ?_ fun x f=>f.rest.rest)
 intro u i o H h A s
 have fin:∀(ty:Int) {h i o},Cx h (vr p (pc tv mp en i o) :: vr a [.str nm, .int .i64 0, .str []] :: vr r Z3f :: L) S F→dK T en i o→Sb K (fun f=> .agg (pX f)) p mp en tv T L S F ⟨nm,ty,[]⟩ i o→
  (ay 1 (.ptr a 0 0 0) fun v9=>bH h v9 (.int .i64 ty) fun h=>uN (au E n) n (.ptr r 0 0 0) (.ptr a 0 0 0) h K)=true:=by
  intro ty h i o A s H
  refine aA (iC A rfl rfl fun h A=> ?_)
  exact Vv (c:=[.str nm, .int .i64 ty, .str []]) (e2:=(0, .gone)) A rfl rfl fun h A=>H h A s
 refine c19 (by omega) (by decide) A s ?_
 unfold eZ
 cases b1:bN T i [105,110,116] with
 |true=>
  rw[if_pos (show bN T i Tv=true from b1)] at H
  rw[if_pos rfl]
  exact aZ fun h A s=>aG rfl (bK (fin 2 A s H))
 |false=>
 rw[if_neg (by show ¬(bN T i Tv=true);rw[show bN T i Tv=false from b1];simp)] at H
 rw[if_neg (by simp)]
 refine aZ fun h A s=>aG rfl (bg ?_)
 refine c19 (by omega) (by decide) A s ?_
 unfold eZ
 cases b2:bN T i [98,111,111,108] with
 |true=>
  rw[if_pos (show bN T i IJ=true from b2)] at H
  rw[if_pos rfl]
  exact aZ fun h A s=>aG rfl (bK (fin 1 A s H))
 |false=>
 rw[if_neg (by show ¬(bN T i IJ=true);rw[show bN T i IJ=false from b2];simp)] at H
 rw[if_neg (by simp)]
 refine aZ fun h A s=>aG rfl (bg ?_)
 refine c19 (by omega) (by decide) A s ?_
 unfold eZ
 cases b3:bN T i [116,101,120,116] with
 |true=>
  rw[if_pos (show bN T i Hq=true from b3)] at H
  rw[if_pos rfl]
  exact aZ fun h A s=>aG rfl (bK (fin 3 A s H))
 |false=>
 rw[if_neg (by show ¬(bN T i Hq=true);rw[show bN T i Hq=false from b3];simp)] at H
 rw[if_neg (by simp)]
 refine aZ fun h A s=>aG rfl (bg ?_)
 refine c19 (by omega) (by decide) A s ?_
 unfold eZ
 cases b4:bN T i [108,105,115,116] with
 |true=>
  rw[if_pos (show bN T i oW=true from b4)] at H
  rw[if_pos rfl]
  exact aZ fun h A s=>aG rfl (bK (fin 4 A s H))
 |false=>
 rw[if_neg (by show ¬(bN T i oW=true);rw[show bN T i oW=false from b4];simp)] at H
 rw[if_neg (by simp)]
 refine aZ fun h A s=>aG rfl (bg ?_)
 refine c19 (by omega) (by decide) A s ?_
 unfold eZ
 cases b5:bN T i [97,110,121] with
 |true=>
  rw[if_pos (show bN T i SN=true from b5)] at H
  rw[if_pos rfl]
  exact aZ fun h A s=>aG rfl (bK (fin 0 A s H))
 |false=>
 rw[if_neg (by show ¬(bN T i SN=true);rw[show bN T i SN=false from b5];simp),aC] at H
 rw[if_neg (by simp)]
 refine aZ fun h A s=>aG rfl (bg ?_)
 refine kP (by omega) (by decide) A s (Post.mono H ?_ fun x f=>f.rest.rest)
 intro u i o H h A s
 rw[aC] at H
 refine c31 (by omega) A s (Post.mono H ?_ fun x f=>FK.pz' f.rest.rest)
 intro cl i o H h A s
 refine aG rfl ?_
 unfold Ec
 refine aA (iC A rfl rfl fun h A=> ?_)
 refine aA (iC A rfl rfl fun h A=> ?_)
 exact Vv (c:=[.str nm, .int .i64 5, .str cl]) (e2:=(0, .gone)) A rfl rfl fun h A=>H h A s
def OkK (K:aM) (p mp en:Nat) (tv:AV) (T:List Lx) (L:jq) (S:List Sl) (F:List (aj→Prop)):Cls→Nat→Int→Prop:=fun v i o=>∀h c,Cx h (vr p (pc tv mp en i o) :: L) S ((fun h=>RK h c v) :: F)→dK T en i o→K (.agg c) h=true
@[reducible] def Z3c:List AV:=[.str [], .str [], .ah]
theorem c20 {kk:Nat} (hk:kk≤100000) (hn:kk+30≤n) [b:dL tv mp T F] (A:Cx h (vr p (pc tv mp en i o) :: L) S F) (s:dK T en i o)
 (H:Post (rD T kk i o) (OkK K p mp en tv T L S F) (FK K p mp en tv T L S F)):au E n (.func 20) [.ptr p 0 0 0] h K=true:=by
 obtain⟨n,rfl⟩:∃m,n=m+1:=⟨n-1,by omega⟩
 have hmo:most=1099511627776:=rfl
 apply d20
 unfold s20
 refine bY A rfl rfl rfl fun r h A=> ?_
 unfold rD at H
 rw[aC] at H
 refine c31 (by omega) A s (Post.mono H ?_ fun x f=>FK.pz' f.rest)
 intro nm i o H h A s
 refine aG rfl ?_
 unfold KJ
 refine eG rfl ?_
 refine bY A rfl rfl rfl fun a h A=> ?_
 refine gZ (l:=[.str nm, .str [], .ah]) A rfl rfl rfl rfl fun h A=> ?_
 have loop:∀kq m first (su:Str) {h i o v} {fs:List Bv},kq≤m→fs.length+kq≤100000→Cx h (vr p (pc tv mp en i o) :: vr a [.str nm, .str su,v] :: vr r Z3c :: L) (⟨v,3,fs.map pX⟩ :: S) F→dK T en i o→
  Post (gG T kq first fs i o) (fun fs i o=>Post (bnd (bV T [125]) (fun _=>ret ⟨nm,su,fs⟩) i o) (OkK K p mp en tv T L S F) (FK K p mp en tv T L S F)) (FK K p mp en tv T L S F)→
  DN (au E n) n m (.ptr p 0 0 0) (.ptr r 0 0 0) (.ptr a 0 0 0) (.bool first) h K=true:=by
  intro kq
  induction kq with
  |zero=>intro m first su h i o v fs hm hf A s H;exact absurd H (by unfold gG;exact fun q=>q)
  |succ kq ih=>
   intro m first su h i o v fs hm hf A s H
   obtain⟨m,rfl⟩:∃q,m=q+1:=⟨m-1,by omega⟩
   have shut:∀{h},Cx h (vr p (pc tv mp en i o) :: vr a [.str nm, .str su,v] :: vr r Z3c :: L) (⟨v,3,fs.map pX⟩ :: S) F→Post (bnd (bV T [125]) (fun _=>ret ⟨nm,su,fs⟩) i o) (OkK K p mp en tv T L S F) (FK K p mp en tv T L S F)→
    NK (au E n) n (.ptr p 0 0 0) (.ptr r 0 0 0) (.ptr a 0 0 0) h K=true:=by
    intro h A H
    unfold NK
    rw[aC] at H
    have A:=A.freeze
    refine Zu (by omega) (by decide) A s (Post.mono H ?_ fun x f=>FK.pz' f.rest.rest.drop)
    intro u i o H h A s
    refine aG rfl (iN A.v1 rfl ?_)
    have A:=A.bC.imp (R:=fun h=>RK h [.str nm, .str su,v] ⟨nm,su,fs⟩) fun h V=>⟨v,rfl,V⟩
    obtain⟨w1,w2,_⟩:=(A.f0:RK h _ _).cells
    exact gZ A rfl rfl rfl w2 fun h A=>wZ A.v1 rfl (H h _ A.bC s)
   have more:∀{h i o},Cx h (vr p (pc tv mp en i o) :: vr a [.str nm, .str su,v] :: vr r Z3c :: L) (⟨v,3,fs.map pX⟩ :: S) F→dK T en i o→
    Post (bnd (pq T) (fun f=>gG T kq false (fs++[f])) i o) (fun fs i o=>Post (bnd (bV T [125]) (fun _=>ret ⟨nm,su,fs⟩) i o) (OkK K p mp en tv T L S F) (FK K p mp en tv T L S F)) (FK K p mp en tv T L S F)→
    (au E n (.func 34) [.ptr p 0 0 0] h <| pz K fun v28 h=>av h (.ptr a 0 0 2) <| dU v <| aW (bE h 1 3 [.str [], .int .i64 0, .str []] [(0,v28)]) fun v29 h=>av h (.ptr a 0 0 2) <| dU v <| qU h 3 40 v v29 fun v30 h=>ay 2 (.ptr a 0 0 0) fun v31=>bH h v31 v30 fun h=>DN (au E n) n m (.ptr p 0 0 0) (.ptr r 0 0 0) (.ptr a 0 0 0) (.bool false) h K)=true:=by
    intro h i o A s H
    have V:lH v:=A.view.lH
    rw[aC] at H
    refine c34 (by omega) A s (Post.mono H ?_ fun x f=>FK.pz' fun h i o A=>f h i o A.freeze.eX.bC.bC)
    intro f i o H h A s
    refine aG rfl (aB A.v1 rfl (dZ V ?_))
    refine lQ A rfl rfl rfl rfl rfl rfl fun vb h A _=> ?_
    refine aB A.v1 rfl (dZ V ?_)
    refine rQ A rfl A.f0.src ?_ ?_ fun v' h A _=> ?_
    ·show((fs.map pX).length+1)*40≤most;rw[List.length_map];omega
    ·show(fs.map pX).length+1≤most;rw[List.length_map];omega
    refine aA (iC A rfl A.leafS fun h A=> ?_)
    refine ih m false su (v:=v') (fs:=fs++[f]) (by omega) (by simp;omega) ?_ s H
    rw[show(fs++[f]).map pX=fs.map pX++[pX f] from by simp]
    exact A.eX
   rw[aaA]
   unfold NW
   unfold gG at H
   cases first with
   |true=>
    rw[if_pos rfl] at H
    refine aY ?_;refine aS ?_;refine dY ?_
    refine Vd (d:=0) (by omega) (by omega) (by decide) A s fun h A=>aG rfl ?_
    unfold zL
    rw[Nat.add_zero]
    cases e:bN T i [125] with
    |true=>
     rw[if_pos e] at H
     repeat first |(with_reducible first |refine aS ?_ |refine bM ?_ |refine aY ?_ |refine bR ?_ |refine eH ?_ |refine rT ?_ |refine dG ?_)
     unfold sj
     refine eH ?_;refine sW ?_;refine Bc ?_
     unfold sJ
     refine eH ?_;refine bR ?_;refine dQ ?_;refine dQ ?_;refine bg ?_
     exact shut A H
    |false=>
     rw[if_neg (by rw[e];simp)] at H
     refine aY ?_;refine dw ?_;refine dG ?_;refine iR ?_;refine iR ?_;refine iR ?_;refine sW ?_;refine Bc ?_
     unfold sj
     refine sW ?_;refine sW ?_;refine Bc ?_
     unfold sJ
     refine sW ?_;refine iR ?_;refine dG ?_;refine bK ?_;refine aA ?_;refine aB A.v1 rfl ?_
     exact more A s H
   |false=>
    rw[if_neg (by simp)] at H
    refine eH ?_;refine rT ?_
    unfold zL
    repeat first |(with_reducible first |refine aS ?_ |refine dw ?_ |refine aY ?_ |refine bR ?_ |refine eH ?_ |refine dY ?_ |refine dQ ?_)
    refine c19 (by omega) (by decide) A s ?_
    unfold eZ
    cases e:bN T i [44] with
    |true=>
     rw[if_pos e] at H
     rw[if_pos rfl]
     refine aZ fun h A s=>aG rfl ?_
     unfold sj
     refine aY ?_;refine aS ?_;refine iR ?_;refine adJ ?_
     unfold sJ
     refine aY ?_;refine dG ?_;refine bR ?_;refine dG ?_;refine dQ ?_;refine bK ?_;refine aA ?_;refine aB A.v1 rfl ?_
     exact more A s H
    |false=>
     rw[if_neg (by rw[e];simp)] at H
     rw[if_neg (by simp)]
     refine aZ fun h A s=>aG rfl ?_
     unfold sj
     refine aY ?_;refine aS ?_;refine bR ?_;refine aS ?_;refine dV ?_
     refine c33 (by omega) A s fun h A=>aG rfl ?_
     unfold sJ
     cases e2:om T i with
     |true=>
      rw[if_pos e2] at H
      refine aY ?_;refine dQ ?_;refine bR ?_;refine dG ?_;refine dQ ?_;refine bK ?_;refine aA ?_;refine aB A.v1 rfl ?_
      exact more A s H
     |false=>
      rw[if_neg (by rw[e2];simp)] at H
      refine aY ?_;refine dQ ?_;refine bR ?_;refine dG ?_;refine dQ ?_;refine bg ?_
      exact shut A H
 have opn:∀(su:Str) {h i o},Cx h (vr p (pc tv mp en i o) :: vr a [.str nm, .str su, .ah] :: vr r Z3c :: L) S F→dK T en i o→
  Post (bnd (dI T [123]) (fun _=>bnd (gG T kk true []) fun fs=>bnd (bV T [125]) fun _=>ret ⟨nm,su,fs⟩) i o) (OkK K p mp en tv T L S F) (FK K p mp en tv T L S F)→Jv (au E n) n (.ptr p 0 0 0) (.ptr r 0 0 0) (.ptr a 0 0 0) h K=true:=by
  intro su h i o A s H
  unfold Jv
  rw[aC] at H
  refine c32 (by omega) (by decide) A s (Post.mono H ?_ fun x f=>FK.pz' f.rest.rest)
  intro u i o H h A s
  refine aG rfl ?_
  rw[aC] at H
  exact loop kk n true su (fs:=[]) (by omega) (by simpa using hk) (A.slc 3) s H
 rw[aC] at H
 unfold J8 at H
 rw[aC] at H
 refine c19 (by omega) (by decide) A s (Post.mono H ?_ fun _ _=>trivial)
 intro bb i o H h A s
 refine aG rfl ?_
 cases bb with
 |true=>
  rw[if_pos rfl] at H
  refine bK ?_
  refine c31 (by omega) A s (Post.mono H ?_ fun x f=>FK.pz' f.rest.rest)
  intro su i o H h A s
  refine aG rfl ?_
  unfold IB
  refine aA (iC A rfl rfl fun h A=> ?_)
  exact opn su A s H
 |false=>
  rw[if_neg (by simp)] at H
  refine bg ?_
  exact opn [] A s H
theorem c37 (hn:8≤n) [b:dL tv mp T F] (A:Cx h (vr p (pc tv mp en i o) :: L) S F) (s:dK T en i o)
 (H:Post (KX T i o) (Sb K (fun v=> .int .i64 v) p mp en tv T L S F) (FK K p mp en tv T L S F)):au E n (.func 37) [.ptr p 0 0 0] h K=true:=by
 obtain⟨n,rfl⟩:∃m,n=m+1:=⟨n-1,by omega⟩
 have hl:=s.len
 have hlim:=rU
 apply d37
 unfold s37
 unfold KX at H
 rw[aC] at H
 refine c19 (by omega) (by decide) A s (Post.mono H ?_ fun _ _=>trivial)
 intro least i o H h A s
 refine aG rfl ?_
 refine c55 (k:=2) (by omega) A s fun h A=>aG rfl ?_
 unfold Kj
 cases k2:dN T i 2 with
 |false=>
  rw[if_neg (by rw[k2];simp)] at H
  exact O8 (by omega) A s (FK.pz' H)
 |true=>
  rw[if_pos k2] at H
  obtain⟨n1,n2,n3⟩:=Xy s k2
  have hi:=tK k2
  refine O8 (by omega) A s (aZ fun h A s=>aG rfl ?_)
  refine c51 (d:=0) (by omega) (by omega) A s fun h A=>aG rfl ?_
  rw[Nat.add_zero]
  obtain⟨x1,x2,ea⟩:=Fv T i
  rw[ea]
  unfold Hz
  refine RZ rfl ?_
  refine c56 (by omega) A b.gv n1 n2 ?_ ?_
  ·intro v ev
   rw[ev] at H
   simp only at H
   have h0:=n3 v ev
   refine aG rfl ?_
   unfold Ck
   refine jL ?_;refine jG ?_;refine qG (show EN h false .ifn .iX .iX=some (.bool true) from rfl) ?_;refine aY ?_;refine aS ?_;refine aY ?_;refine Qt ?_;refine dG ?_
   cases hc:decide (v≤2147483648) with
   |false=>
    rw[if_neg (of_decide_eq_false hc)] at H
    exact O8 (by omega) A s (FK.pz' H)
   |true=>
    have hv:=of_decide_eq_true hc
    rw[if_pos hv] at H
    refine O8 (by omega) A s (aZ fun h A s=>aG rfl ?_)
    refine eu ?_;refine aA ?_;refine aB A.var rfl ?_;refine mI (show i+1≤lim by omega) ?_;refine eu ?_;refine aA ?_
    refine Di A rfl rfl fun h A=> ?_
    have s:=s.step hi
    cases least with
    |true=>
     rw[if_pos rfl] at H
     refine bK (qG (v:= .int .i64 (-v)) ?_ (H h A s))
     simp only[YI]
     rw[wrap64 (by omega) (by omega),Int.zero_sub]
    |false=>
     rw[if_neg (by simp)] at H
     exact bg (H h A s)
  ·intro ev h u w A
   rw[ev] at H
   refine aG rfl ?_
   unfold Ck
   refine jL ?_;refine jG ?_;refine qG (show EN h false .ifn (.ifc 151 w) .iX=some (.bool false) from rfl) ?_;refine eH ?_;refine eH ?_;refine dQ ?_
   exact O8 (by omega) A s (FK.pz' H)
end
def Ba (h:aj):List (List AV)→List Act→Prop
 |es,[]=>es=[]
 |es,a :: l=>∃c r,es=c :: r∧RA h c a∧Ba h r l
@[reducible] def Ya (r:Bu) (vw vt:AV):List AV:=[.str r.name, .int .i64 r.sal, .str r.group, .str r.flow, .bool r.noloop, .bool r.lock,vw,vt]
def RR (h:aj) (c:List AV) (r:Bu):Prop:=∃vw ew vt et,c=Ya r vw vt∧View h 19 vw ew∧kW h ew r.whn∧View h 12 vt et∧Ba h et r.thn
def RQ (h:aj) (c:List AV) (q:K3):Prop:=∃vp vw ew,c=[.str q.name,vp,vw]∧View h 1 vp (q.params.map nV)∧View h 19 vw ew∧kW h ew q.whn
section
variable {h:aj} {L:jq} {S:List Sl} {F:List (aj→Prop)} {p mp en i n:Nat} {o:Int} {tv:AV} {T:List Lx} {K Q k:aM}
theorem Ba.app {es es':List (List AV)} {l l':List Act} (R:Ba h es l) (R':Ba h es' l'):Ba h (es++es') (l++l'):=by
 induction l generalizing es with
 |nil=>simp only[Ba] at R;subst R;exact R'
 |cons b l ih=>
  simp only[Ba] at R
  obtain⟨c,r,rfl,R1,R2⟩:=R
  exact⟨c,r++es',rfl,R1,ih R2⟩
theorem Ba.one {c:List AV} {a:Act} (R:RA h c a):Ba h [c] [a]:=⟨c,[],rfl,R,rfl⟩
theorem Ba.len {es:List (List AV)} {l:List Act} (R:Ba h es l):es.length=l.length:=by
 induction l generalizing es with
 |nil=>simp only[Ba] at R;subst R;rfl
 |cons b l ih=>
  simp only[Ba] at R
  obtain⟨c,r,rfl,R1,R2⟩:=R
  simp[ih R2]
theorem X8 {r:Bu} {vw vt:AV} (h1:vw.leaf=true) (h2:vt.leaf=true):aD (Ya r vw vt)=true:=
 aH rfl (aH rfl (aH rfl (aH rfl (aH rfl (aH rfl (aH h1 (aH h2 rfl)))))))
theorem RR.cells {c:List AV} {r:Bu} (R:RR h c r):c.length=8∧aD c=true∧sN c:=by
 obtain⟨vw,ew,vt,et,rfl,V1,_,V2,_⟩:=R
 exact⟨rfl,X8 V1.leaf V2.leaf, .cons (.str _) (.cons (.int _ _) (.cons (.str _) (.cons (.str _) (.cons (.bool _) (.cons (.bool _) (.cons V1.lH (.cons V2.lH .nil)))))))⟩
theorem RQ.cells {c:List AV} {r:K3} (R:RQ h c r):c.length=3∧aD c=true∧sN c:=by
 obtain⟨vp,vw,ew,rfl,V1,V2,_⟩:=R
 exact⟨rfl,aH rfl (aH V1.leaf (aH V2.leaf rfl)), .cons (.str _) (.cons V1.lH (.cons V2.lH .nil))⟩
def OkR (K:aM) (p mp en:Nat) (tv:AV) (T:List Lx) (L:jq) (S:List Sl) (F:List (aj→Prop)):Bu→Nat→Int→Prop:=fun v i o=>∀h c,Cx h (vr p (pc tv mp en i o) :: L) S ((fun h=>RR h c v) :: F)→dK T en i o→K (.agg c) h=true
def OkQ (K:aM) (p mp en:Nat) (tv:AV) (T:List Lx) (L:jq) (S:List Sl) (F:List (aj→Prop)):K3→Nat→Int→Prop:=fun v i o=>∀h c,Cx h (vr p (pc tv mp en i o) :: L) S ((fun h=>RQ h c v) :: F)→dK T en i o→K (.agg c) h=true
@[reducible] def Z8r:List AV:=[.str [], .int .i64 0, .str [], .str [], .bool false, .bool false, .ah, .ah]
theorem c38 {kk:Nat} (hk:kk≤100000) (hn:4*kk+81≤n) [b:dL tv mp T F] {ve:AV} {ends:List Str} (hw:∀w∈ends,w≠[]) (he:ends.length≤10) (kv:Knows L S F (fun h=>View h 1 ve (ends.map nV)))
 (A:Cx h (vr p (pc tv mp en i o) :: L) S F) (s:dK T en i o)
 (H:Post (iK T kk ends [] i o) (OkL 100000 K p mp en tv T L S F) (FK K p mp en tv T L S F)):au E n (.func 38) [.ptr p 0 0 0,ve] h K=true:=by
 obtain⟨n,rfl⟩:∃m,n=m+1:=⟨n-1,by omega⟩
 apply d38
 unfold s38
 have A:=(A.slc 19).tru (R:=fun h=>kW h [] []) fun h=>kW.nil
 exact(Z0 kk hk).conds (by omega) (by omega) hw he kv (by simpa using hk) A s H
theorem c21 {kk:Nat} (hk:kk≤100000) (hn:4*kk+90≤n) [b:dL tv mp T F] (A:Cx h (vr p (pc tv mp en i o) :: L) S F) (s:dK T en i o)
 (H:Post (xq T kk i o) (OkR K p mp en tv T L S F) (FK K p mp en tv T L S F)):au E n (.func 21) [.ptr p 0 0 0] h K=true:=by
 obtain⟨n,rfl⟩:∃m,n=m+1:=⟨n-1,by omega⟩
 have hmo:most=1099511627776:=rfl
 apply d21
 unfold s21
 refine bY A rfl rfl rfl fun r h A=> ?_
 unfold xq at H
 rw[aC] at H
 refine c36 (by omega) A s (Post.mono H ?_ fun x f=>FK.pz' f.rest)
 intro nm i o H h A s
 refine aG rfl ?_
 unfold IL
 refine eG rfl ?_
 refine bY A rfl rfl rfl fun a h A=> ?_
 refine gZ (l:=Ya ⟨nm,0,[],[],false,false,[],[]⟩ .ah .ah) A rfl rfl rfl rfl fun h A=> ?_
 have acts:∀kq m (ru:Bu) (w:List Cd) (vw:AV) (ew:List (List AV)) {h i o vt et} {acc:List Act},vw.leaf=true→kq≤m→acc.length+kq≤100000→
  Cx h (vr p (pc tv mp en i o) :: vr a (Ya ru vw vt) :: vr r Z8r :: L) (⟨vt,12,et⟩ :: S) ((fun h=>Ba h et acc) :: (fun h=>kW h ew w) :: (fun h=>View h 19 vw ew) :: F)→dK T en i o→
  Post (pW T kk kq acc i o) (fun t i o=>Post (ret {ru with whn:=w,thn:=t} i o) (OkR K p mp en tv T L S F) (FK K p mp en tv T L S F)) (FK K p mp en tv T L S F)→
  IZ (au E n) n m (.ptr p 0 0 0) (.ptr r 0 0 0) (.ptr a 0 0 0) h K=true:=by
  intro kq
  induction kq with
  |zero=>intro m ru w vw ew h i o vt et acc hvl hm hf A s H;exact absurd H (by unfold pW;exact fun q=>q)
  |succ kq ih=>
   intro m ru w vw ew h i o vt et acc hvl hm hf A s H
   obtain⟨m,rfl⟩:∃q,m=q+1:=⟨m-1,by omega⟩
   have hlen:=(A.f0:Ba h et acc).len
   rw[Zz]
   unfold Ow
   refine c19 (by omega) (by decide) A s ?_
   unfold eZ
   unfold pW at H
   cases e:bN T i [101,110,100] with
   |true=>
    rw[if_pos (show bN T i vZ=true from e)] at H
    rw[if_pos rfl]
    refine aZ fun h A s=>aG rfl ?_
    unfold yT
    refine bM ?_;refine bg ?_
    unfold TR
    have A:=A.freeze
    refine iN A.v1 rfl ?_
    have A:=A.bC.add (R:=fun h=>RR h (Ya ru vw vt) {ru with whn:=w,thn:=acc}) fun h q=>
     ⟨vw,ew,vt,et,rfl,q (fun h=>View h 19 vw ew) (by simp),q (fun h=>kW h ew w) (by simp),q (fun h=>View h 12 vt et) (by simp),q (fun h=>Ba h et acc) (by simp)⟩
    obtain⟨w1,w2,_⟩:=(A.f0:RR h _ _).cells
    refine gZ A rfl rfl rfl w2 fun h A=>wZ A.v1 rfl ?_
    exact H h _ A.bC.drop1.drop1.drop1.drop1 s
   |false=>
    rw[if_neg (by show ¬(bN T i vZ=true);rw[show bN T i vZ=false from e];simp),aC] at H
    rw[if_neg (by simp)]
    refine aZ fun h A s=>aG rfl ?_
    unfold yT
    have V:lH vt:=A.view.lH
    refine dw ?_;refine bK ?_;refine aA ?_;refine aB A.v1 rfl ?_
    refine c39 hk (by omega) A s (Post.mono H ?_ fun x f=>FK.pz' fun h i o A=>f h i o A.freeze.eX.eX.eX.eX.bC.bC)
    intro ac i o H h c A s
    obtain⟨w1,w2,w3⟩:=(A.f0:RA h c ac).cells
    refine aG rfl (aB A.v1 rfl (dZ V ?_))
    refine lQ A rfl rfl rfl rfl (gX w1 w2) rfl fun vb h A _=> ?_
    refine aB A.v1 rfl (dZ V ?_)
    refine rQ A rfl A.f0.src ?_ ?_ fun vt' h A _=> ?_
    ·show(et.length+1)*176≤most;omega
    ·show et.length+1≤most;omega
    refine aA (iC A rfl A.leafS fun h A=> ?_)
    have A:=A.eX.imp2 (R:=fun h=>Ba h (et++[c]) (acc++[ac])) fun h R1 R2=>R2.app (Ba.one R1)
    exact ih m ru w vw ew hvl (by omega) (by simp;omega) A s H
 have head:∀kq m (ru:Bu) {h i o},kq≤m→Cx h (vr p (pc tv mp en i o) :: vr a (Ya ru .ah .ah) :: vr r Z8r :: L) S F→dK T en i o→
  Post (jO T kq ru i o) (fun ru i o=>Post (bnd (iK T kk [yD] []) (fun w=>bnd (bU T yD) fun _=>bnd (pW T kk kk []) fun t=>ret {ru with whn:=w,thn:=t}) i o) (OkR K p mp en tv T L S F) (FK K p mp en tv T L S F)) (FK K p mp en tv T L S F)→
  Rp (au E n) n m (.ptr p 0 0 0) (.ptr r 0 0 0) (.ptr a 0 0 0) h K=true:=by
  intro kq
  induction kq with
  |zero=>intro m ru h i o hm A s H;exact absurd H (by unfold jO;exact fun q=>q)
  |succ kq ih=>
   intro m ru h i o hm A s H
   obtain⟨m,rfl⟩:∃q,m=q+1:=⟨m-1,by omega⟩
   rw[acS]
   unfold V8
   unfold jO at H
   refine c19 (by omega) (by decide) A s ?_
   unfold eZ
   cases b1:bN T i [119,104,101,110] with
   |true=>
    rw[if_pos (show bN T i MV=true from b1)] at H
    rw[if_pos rfl]
    refine aZ fun h A s=>aG rfl ?_
    unfold ze
    refine bM (bg ?_)
    unfold UW
    have H:Post (bnd (iK T kk [yD] []) (fun w=>bnd (bU T yD) fun _=>bnd (pW T kk kk []) fun t=>ret {ru with whn:=w,thn:=t}) (i+1) o) (OkR K p mp en tv T L S F) (FK K p mp en tv T L S F):=H
    rw[aC] at H
    refine lQ A rfl rfl rfl rfl rfl rfl fun ve h A _=> ?_
    refine c38 (ends:=[yD]) hk (by omega) (by decide) (by decide) (Knows.mem (by exact List.mem_cons_self)) A s (Post.mono H ?_ fun x f=>FK.pz' f.rest.rest.drop)
    intro w i o H hl h v ew A s
    have hvl:=A.f1.leaf
    refine aG (Fp A.f1) ?_
    unfold Ep
    refine aA (iC A rfl hvl fun h A=> ?_)
    rw[aC] at H
    have A:=A.facts' (F':=(fun h=>kW h ew w) :: (fun h=>View h 19 v ew) :: F) fun R m=>by
     simp only[List.mem_cons] at m ⊢
     rcases m with h |h |h
     ·exact .inl h
     ·exact .inr (.inl h)
     ·simp[h]
    refine kP (by omega) (by decide) A s (Post.mono H ?_ fun x f=>f.rest.rest.drop.drop)
    intro u i o H h A s
    rw[aC] at H
    have A:=(A.slc 12).tru (R:=fun h=>Ba h [] []) fun h=>rfl
    exact acts kk n ru w v ew hvl (by omega) (by simpa using hk) A s H
   |false=>
   rw[if_neg (by show ¬(bN T i MV=true);rw[show bN T i MV=false from b1];simp)] at H
   rw[if_neg (by simp)]
   refine aZ fun h A s=>aG rfl ?_
   unfold ze
   refine dw (bK ?_)
   refine c19 (by omega) (by decide) A s ?_
   unfold eZ
   cases b2:bN T i [115,97,108,105,101,110,99,101] with
   |true=>
    rw[if_pos (show bN T i aav=true from b2),aC] at H
    rw[if_pos rfl]
    refine aZ fun h A s=>aG rfl (bK ?_)
    refine c37 (by omega) A s (Post.mono H ?_ fun x f=>FK.pz' f.rest.rest)
    intro v i o H h A s
    refine aG rfl ?_
    unfold DT
    refine aA (iC A rfl rfl fun h A=> ?_)
    exact ih m {ru with sal:=v} (by omega) A s H
   |false=>
   rw[if_neg (by show ¬(bN T i aav=true);rw[show bN T i aav=false from b2];simp)] at H
   rw[if_neg (by simp)]
   refine aZ fun h A s=>aG rfl (bg ?_)
   refine c19 (by omega) (by decide) A s ?_
   unfold eZ
   cases b3:bN T i [103,114,111,117,112] with
   |true=>
    rw[if_pos (show bN T i Jp=true from b3),aC] at H
    rw[if_pos rfl]
    refine aZ fun h A s=>aG rfl (bK ?_)
    refine c36 (by omega) A s (Post.mono H ?_ fun x f=>FK.pz' f.rest.rest)
    intro v i o H h A s
    refine aG rfl ?_
    unfold DC
    refine aA (iC A rfl rfl fun h A=> ?_)
    exact ih m {ru with group:=v} (by omega) A s H
   |false=>
   rw[if_neg (by show ¬(bN T i Jp=true);rw[show bN T i Jp=false from b3];simp)] at H
   rw[if_neg (by simp)]
   refine aZ fun h A s=>aG rfl (bg ?_)
   refine c19 (by omega) (by decide) A s ?_
   unfold eZ
   cases b4:bN T i [102,108,111,119] with
   |true=>
    rw[if_pos (show bN T i RO=true from b4),aC] at H
    rw[if_pos rfl]
    refine aZ fun h A s=>aG rfl (bK ?_)
    refine c36 (by omega) A s (Post.mono H ?_ fun x f=>FK.pz' f.rest.rest)
    intro v i o H h A s
    refine aG rfl ?_
    unfold DW
    refine aA (iC A rfl rfl fun h A=> ?_)
    exact ih m {ru with flow:=v} (by omega) A s H
   |false=>
   rw[if_neg (by show ¬(bN T i RO=true);rw[show bN T i RO=false from b4];simp)] at H
   rw[if_neg (by simp)]
   refine aZ fun h A s=>aG rfl (bg ?_)
   refine c19 (by omega) (by decide) A s ?_
   unfold eZ
   cases b5:bN T i [110,111,108,111,111,112] with
   |true=>
    rw[if_pos (show bN T i Db=true from b5)] at H
    rw[if_pos rfl]
    refine aZ fun h A s=>aG rfl (bK ?_)
    refine aA (iC A rfl rfl fun h A=> ?_)
    exact ih m {ru with noloop:=true} (by omega) A s H
   |false=>
   rw[if_neg (by show ¬(bN T i Db=true);rw[show bN T i Db=false from b5];simp),aC] at H
   rw[if_neg (by simp)]
   refine aZ fun h A s=>aG rfl (bg ?_)
   refine kP (by omega) (by decide) A s (Post.mono H ?_ fun x f=>f.rest.rest)
   intro u i o H h A s
   refine aA (iC A rfl rfl fun h A=> ?_)
   exact ih m {ru with lock:=true} (by omega) A s H
 rw[aC] at H
 exact head kk n _ (by omega) A s H
@[reducible] def PX (nm:Str) (vp vw:AV):List AV:=[.str nm,vp,vw]
@[reducible] def Z3q:List AV:=[.str [], .ah, .ah]
theorem c41 (hn:12≤n) [b:dL tv mp T F] {pb c r:Nat} {nm:Str} {vp:AV} {acc:List Str} (hacc:acc.length≤100000)
 (A:Cx h (vr p (pc tv mp en i o) :: vr c (PX nm vp .ah) :: vr r Z3q :: vr pb [.ptr p 0 0 0] :: L) (⟨vp,1,acc.map nV⟩ :: S) F) (s:dK T en i o)
 (H:Post (ql T acc i o)
   (fun acc' i o=>acc'.length=acc.length+1→∀h vp,Cx h (vr p (pc tv mp en i o) :: vr c (PX nm vp .ah) :: vr r Z3q :: vr pb [.ptr p 0 0 0] :: L) (⟨vp,1,acc'.map nV⟩ :: S) F→dK T en i o→K (.tup []) h=true)
   (fun x=>∀h i o,Cx h (vr p (pc tv mp en i o) :: vr c (PX nm vp .ah) :: vr r Z3q :: vr pb [.ptr p 0 0 0] :: L) (⟨vp,1,acc.map nV⟩ :: S) F→K (flt T en x) h=true)):
 au E n (.func 41) [.ptr c 0 0 0, .ptr pb 0 0 0] h K=true:=by
 obtain⟨n,rfl⟩:∃m,n=m+1:=⟨n-1,by omega⟩
 have hmo:most=1099511627776:=rfl
 apply d41
 unfold s41
 have V:lH vp:=A.view.lH
 refine aA ?_;refine aB A.v1 rfl ?_;refine aB A.v3 rfl ?_
 unfold ql at H
 rw[aC] at H
 refine c42 (by omega) A s (Post.mono H ?_ fun x f=>FK.pz' fun h i o A=>f h i o A)
 intro v i o H h A s
 refine aG rfl ?_
 refine aB A.v1 rfl ?_;refine dZ V ?_
 refine lQ A rfl rfl rfl rfl (vX rfl) rfl fun vb h A _=> ?_
 refine aB A.v1 rfl ?_;refine dZ V ?_;refine aB A.v3 rfl ?_;refine dZ (lH.ptr _ _ _ _) ?_
 refine rQ A rfl A.f0.src ?_ ?_ fun vp' h A _=> ?_
 ·show((acc.map nV).length+1)*16≤most;rw[List.length_map];omega
 ·show(acc.map nV).length+1≤most;rw[List.length_map];omega
 refine aA (iC A rfl A.leafS fun h A=> ?_)
 refine H (by simp) h vp' ?_ s
 rw[show(acc++[v]).map nV=acc.map nV++[[.str v]] from by simp]
 exact A.eX
theorem c23 {kk:Nat} (hk:kk≤100000) (hn:4*kk+90≤n) [b:dL tv mp T F] (A:Cx h (vr p (pc tv mp en i o) :: L) S F) (s:dK T en i o)
 (H:Post (oZ T kk i o) (OkQ K p mp en tv T L S F) (FK K p mp en tv T L S F)):au E n (.func 23) [.ptr p 0 0 0] h K=true:=by
 obtain⟨n,rfl⟩:∃m,n=m+1:=⟨n-1,by omega⟩
 apply d23
 unfold s23
 refine QE A rfl fun pb h A=> ?_
 refine bY A rfl rfl rfl fun r h A=> ?_
 refine aB A.v2 rfl ?_
 unfold oZ at H
 rw[aC] at H
 refine c31 (by omega) A s (Post.mono H ?_ fun x f=>FK.pz' f.rest.rest)
 intro nm i o H h A s
 refine aG rfl ?_
 unfold J9
 refine eG rfl ?_
 refine bY A rfl rfl rfl fun c h A=> ?_
 refine gZ (l:=PX nm .ah .ah) A rfl rfl rfl rfl fun h A=> ?_
 refine aB A.v3 rfl ?_
 rw[aC] at H
 refine c32 (by omega) (by decide) A s (Post.mono H ?_ fun x f=>FK.pz' f.rest.rest.rest)
 intro u i o H h A s
 refine aG rfl ?_
 refine aB A.v3 rfl ?_;refine aS ?_
 rw[aC] at H
 obtain⟨n,rfl⟩:∃m,n=m+1:=⟨n-1,by omega⟩
 have A:=A.slc 1
 refine c40 (one:=ql T) (kk:=kk) (s:=[])
  (C:=fun j acc L' S' F'=>∃vp,L'=vr c (PX nm vp .ah) :: vr r Z3q :: vr pb [.ptr p 0 0 0] :: L∧S'=⟨vp,1,acc.map nV⟩ :: S∧F=F'∧acc.length+j≤kk)
  (D:=fun L' S' F'=>∃(vp:AV) (acc:List Str),L'=vr c (PX nm vp .ah) :: vr r Z3q :: vr pb [.ptr p 0 0 0] :: L∧S'=⟨vp,1,acc.map nV⟩ :: S∧F=F')
  (fun{j s L S F} hC=>by obtain⟨_,_,_,rfl,_⟩:=hC;infer_instance)
  (fun{j s L S F} hC=>by obtain⟨vp,h1,h2,h3,_⟩:=hC;exact⟨vp,s,h1,h2,h3⟩)
  (by omega) (by decide) ?_ ⟨.ah,rfl,rfl,rfl,by simp⟩ A s (Post.mono H ?_ ?_)
 ·intro j acc h L' S' F' i o K' hC A s H
  obtain⟨vp,rfl,rfl,rfl,hj⟩:=hC
  show au E n (.func 41) [.ptr c 0 0 0, .ptr pb 0 0 0] h K'=true
  refine c41 (acc:=acc) (by omega) (by omega) A s (Post.mono H ?_ ?_)
  ·intro acc' i o H hl h vp A s
   exact H h _ _ _ ⟨vp,rfl,rfl,rfl,by omega⟩ A s
  ·intro x f h i o A
   exact f h i o _ _ _ ⟨vp,acc,rfl,rfl,rfl⟩ A
 ·intro ps i o H h L' S' F' hC A s
  obtain⟨j,vp,rfl,rfl,rfl,hj⟩:=hC
  refine aG rfl ?_
  refine aB A.v3 rfl ?_
  have A:=A.freeze
  have hpl:=A.f0.leaf
  rw[aC] at H
  refine lQ A rfl rfl rfl rfl rfl rfl fun ve h A _=> ?_
  refine c38 (ends:=[vZ]) hk (by omega) (by decide) (by decide) (Knows.mem (by exact List.mem_cons_self)) A s (Post.mono H ?_ fun x f=>FK.pz' f.rest.rest.rest.drop.drop)
  intro w i o H hl h vw ew A s
  have hvl:=A.f1.leaf
  refine aG (Fp A.f1) ?_
  unfold Dy
  refine aA (iC A rfl hvl fun h A=> ?_)
  refine aB A.v3 rfl ?_
  rw[aC] at H
  refine kP (by omega) (by decide) A s (Post.mono H ?_ fun x f=>f.rest.rest.rest.drop.drop.drop.drop)
  intro u i o H h A s
  refine iN (c:=PX nm vp vw) A.v1 rfl ?_
  have A:=A.bC.add (R:=fun h=>RQ h (PX nm vp vw) ⟨nm,ps,w⟩) fun h q=>
   ⟨vp,vw,ew,rfl,q (fun h=>View h 1 vp (ps.map nV)) (by simp),q (fun h=>View h 19 vw ew) (by simp),q (fun h=>kW h ew w) (by simp)⟩
  obtain⟨w1,w2,_⟩:=(A.f0:RQ h _ _).cells
  refine gZ A rfl rfl rfl w2 fun h A=>wZ A.v1 rfl ?_
  exact H h _ A.bC.bC.drop1.drop1.drop1.drop1 s
 ·intro x f h i o L' S' F' hD A
  obtain⟨vp,acc,rfl,rfl,rfl⟩:=hD
  exact f h i o A.freeze.eX.bC.bC.bC
end
def CF (h:aj):List (List AV)→List Cls→Prop
 |es,[]=>es=[]
 |es,a :: l=>∃c r,es=c :: r∧RK h c a∧CF h r l
def Cj (h:aj):List (List AV)→List Bu→Prop
 |es,[]=>es=[]
 |es,a :: l=>∃c r,es=c :: r∧RR h c a∧Cj h r l
def Cy (h:aj):List (List AV)→List K3→Prop
 |es,[]=>es=[]
 |es,a :: l=>∃c r,es=c :: r∧RQ h c a∧Cy h r l
def sQ (h:aj) (c:List AV) (b:DU):Prop:=∃v0 e0 v1 e1 v2 e2,c=[v0,v1,v2]∧View h 3 v0 e0∧CF h e0 b.classes∧View h 8 v1 e1∧Cj h e1 b.rules∧View h 3 v2 e2∧Cy h e2 b.queries
section
variable {h:aj} {L:jq} {S:List Sl} {F:List (aj→Prop)} {p mp en i n:Nat} {o:Int} {tv:AV} {T:List Lx} {K Q k:aM}
theorem CF.app {es es':List (List AV)} {l l':List Cls} (R:CF h es l) (R':CF h es' l'):CF h (es++es') (l++l'):=by
 induction l generalizing es with
 |nil=>simp only[CF] at R;subst R;exact R'
 |cons b l ih=>
  simp only[CF] at R
  obtain⟨c,r,rfl,R1,R2⟩:=R
  exact⟨c,r++es',rfl,R1,ih R2⟩
theorem Cj.app {es es':List (List AV)} {l l':List Bu} (R:Cj h es l) (R':Cj h es' l'):Cj h (es++es') (l++l'):=by
 induction l generalizing es with
 |nil=>simp only[Cj] at R;subst R;exact R'
 |cons b l ih=>
  simp only[Cj] at R
  obtain⟨c,r,rfl,R1,R2⟩:=R
  exact⟨c,r++es',rfl,R1,ih R2⟩
theorem Cy.app {es es':List (List AV)} {l l':List K3} (R:Cy h es l) (R':Cy h es' l'):Cy h (es++es') (l++l'):=by
 induction l generalizing es with
 |nil=>simp only[Cy] at R;subst R;exact R'
 |cons b l ih=>
  simp only[Cy] at R
  obtain⟨c,r,rfl,R1,R2⟩:=R
  exact⟨c,r++es',rfl,R1,ih R2⟩
theorem CF.one {c:List AV} {a:Cls} (R:RK h c a):CF h [c] [a]:=⟨c,[],rfl,R,rfl⟩
theorem Cj.one {c:List AV} {a:Bu} (R:RR h c a):Cj h [c] [a]:=⟨c,[],rfl,R,rfl⟩
theorem Cy.one {c:List AV} {a:K3} (R:RQ h c a):Cy h [c] [a]:=⟨c,[],rfl,R,rfl⟩
theorem CF.len {es:List (List AV)} {l:List Cls} (R:CF h es l):es.length=l.length:=by
 induction l generalizing es with
 |nil=>simp only[CF] at R;subst R;rfl
 |cons b l ih=>simp only[CF] at R;obtain⟨c,r,rfl,R1,R2⟩:=R;simp[ih R2]
theorem Cj.len {es:List (List AV)} {l:List Bu} (R:Cj h es l):es.length=l.length:=by
 induction l generalizing es with
 |nil=>simp only[Cj] at R;subst R;rfl
 |cons b l ih=>simp only[Cj] at R;obtain⟨c,r,rfl,R1,R2⟩:=R;simp[ih R2]
theorem Cy.len {es:List (List AV)} {l:List K3} (R:Cy h es l):es.length=l.length:=by
 induction l generalizing es with
 |nil=>simp only[Cy] at R;subst R;rfl
 |cons b l ih=>simp only[Cy] at R;obtain⟨c,r,rfl,R1,R2⟩:=R;simp[ih R2]
theorem sQ.cells {c:List AV} {b:DU} (R:sQ h c b):c.length=3∧aD c=true:=by
 obtain⟨v0,e0,v1,e1,v2,e2,rfl,V0,_,V1,_,V2,_⟩:=R
 exact⟨rfl,aH V0.leaf (aH V1.leaf (aH V2.leaf rfl))⟩
theorem _root_.Go.Ab.Cx.rotS {a b c:Sl} (A:Cx h L (a :: b :: c :: S) F):Cx h L (c :: b :: a :: S) F:=A.perm (.refl _) (by
 exact((List.Perm.swap b c _).trans ((List.Perm.swap a c S).cons b)).trans (List.Perm.swap a b _))
def agX (K:aM) (p mp en:Nat) (tv:AV) (T:List Lx) (L:jq) (S:List Sl) (F:List (aj→Prop)):DU→Nat→Int→Prop:=fun v i o=>∀h c,Cx h (vr p (pc tv mp en i o) :: L) S ((fun h=>sQ h c v) :: F)→dK T en i o→K (.agg c) h=true
@[reducible] def K6:List AV:=[.ah, .ah, .ah]
theorem c12 {kk kq:Nat} (hk:kk≤100000) (hq:kq≤100000) (hn:4*kk+100≤n) (hn2:kq+1≤n) [b:dL tv mp T F] (A:Cx h (vr p (pc tv mp en i o) :: L) S F) (s:dK T en i o)
 (H:Post (iF T kk kq ⟨[],[],[]⟩ i o) (agX K p mp en tv T L S F) (FK K p mp en tv T L S F)):au E n (.func 12) [.ptr p 0 0 0] h K=true:=by
 obtain⟨n,rfl⟩:∃m,n=m+1:=⟨n-1,by omega⟩
 have hmo:most=1099511627776:=rfl
 apply d12
 unfold s12
 refine bY A rfl rfl rfl fun r h A=> ?_
 refine bY A rfl rfl rfl fun a h A=> ?_
 have loop:∀kq m (ba:DU) {h i o v0 e0 v1 e1 v2 e2},kq≤m→ba.classes.length+ba.rules.length+ba.queries.length+kq≤100000→
  Cx h (vr p (pc tv mp en i o) :: vr a [v0,v1,v2] :: vr r K6 :: L) (⟨v0,3,e0⟩ :: ⟨v1,8,e1⟩ :: ⟨v2,3,e2⟩ :: S) ((fun h=>CF h e0 ba.classes∧Cj h e1 ba.rules∧Cy h e2 ba.queries) :: F)→dK T en i o→
  Post (iF T kk kq ba i o) (agX K p mp en tv T L S F) (FK K p mp en tv T L S F)→RV (au E n) n m (.ptr p 0 0 0) (.ptr r 0 0 0) (.ptr a 0 0 0) h K=true:=by
  intro kq
  induction kq with
  |zero=>intro m ba h i o v0 e0 v1 e1 v2 e2 hm hf A s H;exact absurd H (by unfold iF;exact fun q=>q)
  |succ kq ih=>
   intro m ba h i o v0 e0 v1 e1 v2 e2 hm hf A s H
   obtain⟨m,rfl⟩:∃q,m=q+1:=⟨m-1,by omega⟩
   obtain⟨R0,R1,R2⟩:CF h e0 ba.classes∧Cj h e1 ba.rules∧Cy h e2 ba.queries:=A.f0
   have l0:=R0.len
   have l1:=R1.len
   have l2:=R2.len
   have V0:lH v0:=A.view.lH
   have V1:lH v1:=A.swapS.view.lH
   have V2:lH v2:=A.rotS.view.lH
   have pan:∀{x:Nat} {R:aj→Prop},FK K p mp en tv T L S F x→FK K p mp en tv T (vr a [v0,v1,v2] :: vr r K6 :: L) (⟨v0,3,e0⟩ :: ⟨v1,8,e1⟩ :: ⟨v2,3,e2⟩ :: S) (R :: F) x:=
    fun f h i o A=>f h i o A.freeze.freeze.freeze.eX.eX.eX.eX.bC.bC
   rw[acL]
   unfold Wh
   have VT:View h 4 tv (T.map kH):=A.fact (List.mem_cons_of_mem _ b.tok)
   repeat first |(with_reducible first |refine eu ?_ |refine aA ?_ |refine jw ?_ |refine aB A.var rfl ?_)|refine fI VT ?_
   rw[List.length_map]
   unfold iF at H
   cases hc:decide (i<T.length) with
   |false=>
    rw[if_neg (of_decide_eq_false hc)] at H
    refine bg ?_
    unfold UU
    have A:=A.freeze.freeze.freeze
    refine iN A.v1 rfl ?_
    have A:=A.bC.add (R:=fun h=>sQ h [v0,v1,v2] ba) fun h q=>by
     have RR:=q (fun h=>CF h e0 ba.classes∧Cj h e1 ba.rules∧Cy h e2 ba.queries) (by simp)
     exact⟨v0,e0,v1,e1,v2,e2,rfl,q (fun h=>View h 3 v0 e0) (by simp),RR.1,q (fun h=>View h 8 v1 e1) (by simp),RR.2.1,q (fun h=>View h 3 v2 e2) (by simp),RR.2.2⟩
    obtain⟨w1,w2⟩:=(A.f0:sQ h _ _).cells
    refine gZ A rfl rfl rfl w2 fun h A=>wZ A.v1 rfl ?_
    exact H h _ A.bC.drop1.drop1.drop1.drop1 s
   |true=>
    rw[if_pos (of_decide_eq_true hc)] at H
    refine bK ?_
    refine c19 (by omega) (by decide) A s ?_
    unfold eZ
    cases b1:bN T i [99,108,97,115,115] with
    |true=>
     rw[if_pos (show bN T i uQ=true from b1),aC] at H
     rw[if_pos rfl]
     refine aZ fun h A s=>aG rfl (bK ?_)
     refine aA (aB A.v1 rfl ?_)
     refine c20 hk (by omega) A s (Post.mono H ?_ fun x f=>FK.pz' (pan f))
     intro cl i o H h c A s
     obtain⟨w1,w2,_⟩:=(A.f0:RK h c cl).cells
     refine aG rfl (aB A.v1 rfl (dZ V0 ?_))
     refine lQ A rfl rfl rfl rfl (gX w1 w2) rfl fun vb h A _=> ?_
     refine aB A.v1 rfl (dZ V0 ?_)
     refine rQ A rfl A.f0.src ?_ ?_ fun v' h A _=> ?_
     ·show(e0.length+1)*56≤most;omega
     ·show e0.length+1≤most;omega
     refine aA (iC A rfl A.leafS fun h A=> ?_)
     have A:=A.eX.imp2 (R:=fun h=>CF h (e0++[c]) (ba.classes++[cl])∧Cj h e1 ba.rules∧Cy h e2 ba.queries) fun h R RR=>⟨RR.1.app (CF.one R),RR.2⟩
     exact ih m {ba with classes:=ba.classes++[cl]} (by omega) (by simp;omega) A s H
    |false=>
    rw[if_neg (by show ¬(bN T i uQ=true);rw[show bN T i uQ=false from b1];simp)] at H
    rw[if_neg (by simp)]
    refine aZ fun h A s=>aG rfl (bg ?_)
    refine c19 (by omega) (by decide) A s ?_
    unfold eZ
    cases b2:bN T i [114,117,108,101] with
    |true=>
     rw[if_pos (show bN T i Dh=true from b2),aC] at H
     rw[if_pos rfl]
     refine aZ fun h A s=>aG rfl (bK ?_)
     refine aA (aB A.v1 rfl ?_)
     refine c21 hk (by omega) A s (Post.mono H ?_ fun x f=>FK.pz' (pan f))
     intro ru i o H h c A s
     obtain⟨w1,w2,_⟩:=(A.f0:RR h c ru).cells
     refine aG rfl (aB A.v1 rfl (dZ V1 ?_))
     refine lQ A rfl rfl rfl rfl (gX w1 w2) rfl fun vb h A _=> ?_
     refine aB A.v1 rfl (dZ V1 ?_)
     refine rQ A.swapS rfl A.f0.src ?_ ?_ fun v' h A _=> ?_
     ·show(e1.length+1)*112≤most;omega
     ·show e1.length+1≤most;omega
     refine aA (iC A rfl A.leafS fun h A=> ?_)
     have A:=A.swapS.eX.imp2 (R:=fun h=>CF h e0 ba.classes∧Cj h (e1++[c]) (ba.rules++[ru])∧Cy h e2 ba.queries) fun h R RR=>⟨RR.1,RR.2.1.app (Cj.one R),RR.2.2⟩
     exact ih m {ba with rules:=ba.rules++[ru]} (by omega) (by simp;omega) A s H
    |false=>
    rw[if_neg (by show ¬(bN T i Dh=true);rw[show bN T i Dh=false from b2];simp),aC] at H
    rw[if_neg (by simp)]
    refine aZ fun h A s=>aG rfl (bg ?_)
    refine kP (by omega) (by decide) A s (Post.mono H ?_ fun x f=>pan f)
    intro u i o H h A s
    rw[aC] at H
    refine aA (aB A.v1 rfl ?_)
    refine c23 hk (by omega) A s (Post.mono H ?_ fun x f=>FK.pz' (pan f))
    intro qu i o H h c A s
    obtain⟨w1,w2,_⟩:=(A.f0:RQ h c qu).cells
    refine aG rfl (aB A.v1 rfl (dZ V2 ?_))
    refine lQ A rfl rfl rfl rfl (gX w1 w2) rfl fun vb h A _=> ?_
    refine aB A.v1 rfl (dZ V2 ?_)
    refine rQ A.rotS rfl A.f0.src ?_ ?_ fun v' h A _=> ?_
    ·show(e2.length+1)*64≤most;omega
    ·show e2.length+1≤most;omega
    refine aA (iC A rfl A.leafS fun h A=> ?_)
    have A:=A.rotS.eX.imp2 (R:=fun h=>CF h e0 ba.classes∧Cj h e1 ba.rules∧Cy h (e2++[c]) (ba.queries++[qu])) fun h R RR=>⟨RR.1,RR.2.1,RR.2.2.app (Cy.one R)⟩
    exact ih m {ba with queries:=ba.queries++[qu]} (by omega) (by simp;omega) A s H
 have A:=(((A.slc 3).slc 8).slc 3).tru (R:=fun h=>CF h [] []∧Cj h [] []∧Cy h [] []) fun h=>⟨rfl,rfl,rfl⟩
 exact loop kq n ⟨[],[],[]⟩ (by omega) (by simpa using hq) A s H
end
section
variable {h:aj} {L:jq} {S:List Sl} {F:List (aj→Prop)} {p mp en i n:Nat} {o:Int} {tv:AV} {T:List Lx} {K Q k:aM}
theorem aeI {call:bI} {μ:Go.Ab.Mode} {d:Bool} {σ:Go.Ab.St} {KM:Go.Ab.KMo} (s:KM .normal d σ=true):Go.Ab.nN call n μ .skip d σ KM=true:=s
theorem X0 {call:bI} {a b:Nat} {KD:Oc} (s:KD .ret h=true):Az E call n 27 [.ptr a 0 0 0, .ptr b 0 0 0] .ret h KD=true:=by
 have hp:E.prim 27=none:=rfl
 have hc:E.code 27=some C27:=rfl
 simp only[Az,hp,hc]
 exact s
theorem YQ {call:bI} {a b:Nat} {x va vb:AV} {KD:Oc} (A:Cx h (vr a [va] :: vr b [vb] :: L) S F) (hx:x.leaf=true) (s:∀h,Cx h (vr a [x] :: vr b [.int .i64 20] :: L) S F→KD .ret h=true):
 Az E call n 27 [.ptr a 0 0 0, .ptr b 0 0 0] (.pan (.ifc 93 (.agg [x]))) h KD=true:=by
 have hp:E.prim 27=none:=rfl
 have hc:E.code 27=some C27:=rfl
 simp only[Az,hp,hc]
 show nN call n (.pan (.ifc 93 (.agg [x]))) C27.body false ⟨qb 0 [.ptr a 0 0 0, .ptr b 0 0 0] .lf,h⟩ _=true
 refine RD (agH rfl ?_)
 show nN call n _ _ true ⟨((qb 0 [.ptr a 0 0 0, .ptr b 0 0 0] .lf).set 5 (.ifc 93 (.agg [x]))).set 2 (.ifc 93 (.agg [x])),h⟩ _=true
 refine RD (Wi rfl ?_)
 refine iD (v:= .ifc 93 (.agg [x])) (h':=h) rfl rfl (iD (v:= .bool true) (h':=h) rfl rfl (oO ?_))
 refine adg rfl (RD (Wi rfl ?_))
 refine iD (v:= .ifc 93 (.agg [x])) (h':=h) rfl rfl (iD (v:= .tup [.agg [x], .bool true]) (h':=h) rfl rfl (iD (v:= .tup [.agg [x], .bool true]) (h':=h) rfl rfl (iD (v:= .agg [x]) (h':=h) rfl rfl (iD (v:= .bool true) (h':=h) rfl rfl ?_))))
 obtain⟨h1,e1,A⟩:=A.alloc (z:=[.int .i64 0]) (by decide) rfl
 refine iD rfl e1 ?_
 obtain⟨h2,e2,A⟩:=A.store (n:=1) (off:=0) (v:= .agg [x]) rfl (by decide) (aH hx rfl)
 refine iD (v:= .tup []) (h':=h2) rfl (by show unit (cZ h1 1 _ _)=_;rw[show cZ h1 1 _ _=some h2 from e2];rfl) ?_
 refine iD (v:= .bool true) (h':=h2) rfl rfl (oO ?_)
 refine RD (RD (Wi rfl ?_))
 refine iD (v:= .bool true) (h':=h2) rfl rfl (iD (v:= .bool false) (h':=h2) rfl rfl (oO ?_))
 show nN call n _ (.cond (.t 14) _ .skip) true _ _=true
 refine ab6 rfl (aeI ?_)
 show nN call n _ (.reg _) true _ _=true
 refine Wi rfl ?_
 refine iD (v:= .ptr h.sz 0 0 0) (h':=h2) rfl rfl ?_
 have A:Cx h2 (vr h.sz [x] :: vr a [va] :: vr b [vb] :: L) S F:=A
 have el:eO h2 false 1 (.ptr h.sz 0 0 0)=some x:=by rw[A.var.load];rfl
 refine iD (v:=x) (h':=h2) rfl (by show bQ (eO h2 false 1 (.ptr h.sz 0 0 0)) h2=_;rw[el];rfl) ?_
 obtain⟨h3,e3,A⟩:=A.rest.set1 (off:=0) (v:=x) (by simp) hx
 refine iD (v:= .tup []) (h':=h3) rfl (by show unit (cZ h2 1 _ _)=_;rw[show cZ h2 1 _ _=some h3 from e3];rfl) ?_
 obtain⟨h4,e4,A⟩:=A.swapL.set1 (off:=0) (v:= .int .i64 20) (by simp) rfl
 refine iD (v:= .tup []) (h':=h4) rfl (by show unit (cZ h3 1 _ _)=_;rw[show cZ h3 1 _ _=some h4 from e4];rfl) (oO ?_)
 exact s h4 A.swapL
end
section
variable {h:aj} {L:jq} {S:List Sl} {F:List (aj→Prop)} {n:Nat} {K:aM}
theorem _root_.Go.Ab.Cx.frozeO {id:Nat} {o:fG} (A:Cx h ((id,o) :: L) S F):Cx h L S ((fun h=>h.get id=some o) :: F):=by
 have C:=A.rest
 have hn:=A.nod
 have hs:places ((id,o) :: L) S=id :: places L S:=rfl
 rw[hs] at hn
 refine⟨C.ok,C.has,C.sls,C.nod,fun R m=> ?_⟩
 rcases List.mem_cons.1 m with rfl |m
 ·intro h' k
  exact k.2 id _ (fun q=>(List.nodup_cons.1 hn).1 q) (A.has _ List.mem_cons_self)
 ·exact C.facts R m
theorem YJ (A:Cx h L S F) (s:∀id h',Cx h' ((id, .map [] 0) :: L) S F→K (.map id) h'=true):aW (yL h) K=true:=s _ _ (A.new _)
noncomputable def acy (kk:KK) (k v:AV) (es:List (AV×AV×Nat)) (c:Nat):Option (List (AV×AV×Nat)×Nat):=
 bif jR kk k then(match nH k es with
  |some (some _)=>some (Sm k v es,c)
  |some none=>some (es++[(k,v,c)],c+1)
  |none=>none) else none
theorem adj {kk:KK} {k v:AV} {es es':List (AV×AV×Nat)} {c c' id:Nat} (hg:h.get id=some (.map es c)) (e:acy kk k v es c=some (es',c')):lq h kk (.map id) k v=some (h.put id (.map es' c')):=by
 unfold acy at e
 unfold lq
 cases hf:jR kk k with
 |false=>rw[hf] at e;cases e
 |true=>
  rw[hf,cond_true] at e
  simp only[cond_true,hg]
  cases hx:nH k es with
  |none=>rw[hx] at e;cases e
  |some x=>
   rw[hx] at e
   cases x<;>(simp only[Option.some.injEq,Prod.mk.injEq] at e;obtain⟨rfl,rfl⟩:=e;rfl)
theorem uD {kk:KK} {k v:AV} {es es':List (AV×AV×Nat)} {c c' id:Nat} (A:Cx h ((id, .map es c) :: L) S F) (e:acy kk k v es c=some (es',c')) (s:∀h',Cx h' ((id, .map es' c') :: L) S F→K (.tup []) h'=true):aW (unit (lq h kk (.map id) k v)) K=true:=by
 rw[adj (A.has _ List.mem_cons_self) e]
 exact s _ (A.wr _)
theorem QO {kk:KK} {k v:AV} {es es':List (AV×AV×Nat)} {c c' id:Nat} {e1:Nat×fG} (A:Cx h (e1 :: (id, .map es c) :: L) S F) (e:acy kk k v es c=some (es',c')) (s:∀h',Cx h' (e1 :: (id, .map es' c') :: L) S F→K (.tup []) h'=true):aW (unit (lq h kk (.map id) k v)) K=true:=
 uD A.swapL e fun h' B=>s h' B.swapL
theorem vG {t u:Str} {v:AV} {m:Nat} {l:List (AV×AV×Nat)}:nH (.str t) ((.str u,v,m) :: l)=if t=u then some (some v) else nH (.str t) l:=by
 simp only[nH,Dn,tF,qZ]
 by_cases h:t=u
 ·simp[h]
 ·simp[h]
theorem BK {id c:Nat} {es:List (AV×AV×Nat)} (hg:h.get id=some (.map es c)) (t:Str) {x:Option Int} (e:nH (.str t) es=some (x.map fun n=> .int .i64 n)):tJ h (.leaf .str) true (.int .i64 0) (.map id) (.str t)=some (.tup [.int .i64 (x.getD 0), .bool x.isSome]):=by
 simp only[tJ,jR,qW,cond_true,mapOf,hg,e]
 cases x<;>rfl
@[reducible] def EA:List (AV×AV×Nat):=[(.str [124,124], .int .i64 9,0)]
@[reducible] def EB:List (AV×AV×Nat):=[(.str [38,38], .int .i64 8,0)]
@[reducible] def EC:List (AV×AV×Nat):=[(.str [61,61], .int .i64 10,0),(.str [33,61], .int .i64 11,1),(.str [60], .int .i64 12,2),(.str [60,61], .int .i64 13,3),(.str [62], .int .i64 14,4),(.str [62,61], .int .i64 15,5)]
@[reducible] def ED:List (AV×AV×Nat):=[(.str [43], .int .i64 16,0),(.str [45], .int .i64 17,1)]
@[reducible] def EE:List (AV×AV×Nat):=[(.str [42], .int .i64 18,0),(.str [47], .int .i64 19,1),(.str [37], .int .i64 20,2)]
@[reducible] def EM (a b c d e:Nat):List (AV×AV×Nat):=[(.int .i64 0, .map a,0),(.int .i64 1, .map b,1),(.int .i64 2, .map c,2),(.int .i64 3, .map d,3),(.int .i64 4, .map e,4)]
def opsV (a b c d e:Nat):Nat→AV
 |0=> .map a
 |1=> .map b
 |2=> .map c
 |3=> .map d
 |_=> .map e
theorem vO {k:AV}:nH k []=some none:=rfl
theorem afX (t:Str):nH (.str t) EA=some ((uZ 0 t).map fun n=> .int .i64 n):=by
 by_cases e0:t=[124,124]
 ·subst e0;rfl
 simp[vG,vO,uZ,e0]
theorem agN (t:Str):nH (.str t) EB=some ((uZ 1 t).map fun n=> .int .i64 n):=by
 by_cases e0:t=[38,38]
 ·subst e0;rfl
 simp[vG,vO,uZ,e0]
theorem af4 (t:Str):nH (.str t) EC=some ((uZ 2 t).map fun n=> .int .i64 n):=by
 by_cases e0:t=[61,61]
 ·subst e0;rfl
 by_cases e1:t=[33,61]
 ·subst e1;rfl
 by_cases e2:t=[60]
 ·subst e2;rfl
 by_cases e3:t=[60,61]
 ·subst e3;rfl
 by_cases e4:t=[62]
 ·subst e4;rfl
 by_cases e5:t=[62,61]
 ·subst e5;rfl
 simp[vG,vO,uZ,e0,e1,e2,e3,e4,e5]
theorem findD (t:Str):nH (.str t) ED=some ((uZ 3 t).map fun n=> .int .i64 n):=by
 by_cases e0:t=[43]
 ·subst e0;rfl
 by_cases e1:t=[45]
 ·subst e1;rfl
 simp[vG,vO,uZ,e0,e1]
theorem findF (t:Str):nH (.str t) EE=some ((uZ 4 t).map fun n=> .int .i64 n):=by
 by_cases e0:t=[42]
 ·subst e0;rfl
 by_cases e1:t=[47]
 ·subst e1;rfl
 by_cases e2:t=[37]
 ·subst e2;rfl
 simp[vG,vO,uZ,e0,e1,e2]
theorem acN {m a b c d e:Nat} (hm:h.get m=some (.map (EM a b c d e) 5)) (ha:h.get a=some (.map EA 1)) (hb:h.get b=some (.map EB 1)) (hc:h.get c=some (.map EC 6)) (hd:h.get d=some (.map ED 2)) (he:h.get e=some (.map EE 3)):NV m h:=by
 refine⟨opsV a b c d e,fun lv hlv=> ?_,fun lv t hlv=> ?_⟩
 ·match lv,hlv with
  |0,_=>simp only[tJ,jR,qW,cond_true,mapOf,hm];rfl
  |1,_=>simp only[tJ,jR,qW,cond_true,mapOf,hm];rfl
  |2,_=>simp only[tJ,jR,qW,cond_true,mapOf,hm];rfl
  |3,_=>simp only[tJ,jR,qW,cond_true,mapOf,hm];rfl
  |4,_=>simp only[tJ,jR,qW,cond_true,mapOf,hm];rfl
 ·match lv,hlv with
  |0,_=>exact BK ha t (afX t)
  |1,_=>exact BK hb t (agN t)
  |2,_=>exact BK hc t (af4 t)
  |3,_=>exact BK hd t (findD t)
  |4,_=>exact BK he t (findF t)
theorem c28 (hn:2≤n) (A:Cx h L S F) (H:∀h mp,Cx h L S (NV mp :: F)→K (.map mp) h=true):au E n (.func 28) [] h K=true:=by
 obtain⟨n,rfl⟩:∃m,n=m+1:=⟨n-1,by omega⟩
 apply d28
 unfold s28
 refine YJ A fun m h A=> ?_
 refine YJ A fun a h A=> ?_
 refine uD A rfl fun h A=> ?_
 refine QO A rfl fun h A=> ?_
 have A:=A.frozeO
 refine YJ A fun b h A=> ?_
 refine uD A rfl fun h A=> ?_
 refine QO A rfl fun h A=> ?_
 have A:=A.frozeO
 refine YJ A fun c h A=> ?_
 refine uD A rfl fun h A=> ?_
 refine uD A rfl fun h A=> ?_
 refine uD A rfl fun h A=> ?_
 refine uD A rfl fun h A=> ?_
 refine uD A rfl fun h A=> ?_
 refine uD A rfl fun h A=> ?_
 refine QO A rfl fun h A=> ?_
 have A:=A.frozeO
 refine YJ A fun d h A=> ?_
 refine uD A rfl fun h A=> ?_
 refine uD A rfl fun h A=> ?_
 refine QO A rfl fun h A=> ?_
 have A:=A.frozeO
 refine YJ A fun e h A=> ?_
 refine uD A rfl fun h A=> ?_
 refine uD A rfl fun h A=> ?_
 refine uD A rfl fun h A=> ?_
 refine QO A rfl fun h A=> ?_
 have A:=A.frozeO.frozeO
 have A:Cx h L S ((fun h=>h.get m=some (.map (EM a b c d e) 5)) :: (fun h=>h.get e=some (.map EE 3)) :: (fun h=>h.get d=some (.map ED 2)) :: (fun h=>h.get c=some (.map EC 6)) :: (fun h=>h.get b=some (.map EB 1)) :: (fun h=>h.get a=some (.map EA 1)) :: F):=A
 have A:=A.add (R:=NV m) fun h q=>acN (q (fun h=>h.get m=some (.map (EM a b c d e) 5)) (by simp)) (q (fun h=>h.get a=some (.map EA 1)) (by simp)) (q (fun h=>h.get b=some (.map EB 1)) (by simp)) (q (fun h=>h.get c=some (.map EC 6)) (by simp)) (q (fun h=>h.get d=some (.map ED 2)) (by simp)) (q (fun h=>h.get e=some (.map EE 3)) (by simp))
 exact H h m A.drop1.drop1.drop1.drop1.drop1.drop1
end
def rR (T:List Lx) (k:Nat):PM DU:=bnd (iF T k k ⟨[],[],[]⟩) fun b i o=>if i=T.length then .ok b i o else .fail i
theorem II {α β:Type} {m:PM α} {g:α→PM β} {i:Nat} {o:Int} {v:β} {i':Nat} {o':Int} (h:bnd m g i o= .ok v i' o'):∃w i1 o1,m i o= .ok w i1 o1∧g w i1 o1= .ok v i' o':=by
 unfold bnd at h
 cases e:m i o with
 |ok w i1 o1=>rw[e] at h;exact⟨w,i1,o1,rfl,h⟩
 |fail x=>rw[e] at h;cases h
 |out=>rw[e] at h;cases h
theorem zh {T:List Lx} (k0:Nat):∀(k:Nat) (b:DU) (i:Nat) (o:Int) (v:DU) (i':Nat) (o':Int),iF T k0 k b i o= .ok v i' o'→T.length≤i'
 |0,b,i,o,v,i',o',h=>by unfold iF at h;cases h
 |k+1,b,i,o,v,i',o',h=>by
  unfold iF at h
  by_cases hc:i<T.length
  ·rw[if_pos hc] at h
   refine rP h (fun h=> ?_) fun h=> ?_
   ·obtain⟨_,_,_,_,h⟩:=II h
    exact zh k0 k _ _ _ _ _ _ h
   ·refine rP h (fun h=> ?_) fun h=> ?_
    ·obtain⟨_,_,_,_,h⟩:=II h
     exact zh k0 k _ _ _ _ _ _ h
    ·obtain⟨_,_,_,_,h⟩:=II h
     obtain⟨_,_,_,_,h⟩:=II h
     exact zh k0 k _ _ _ _ _ _ h
  ·rw[if_neg hc] at h
   cases h
   exact Nat.le_of_not_lt hc
section
variable {h:aj} {L:jq} {S:List Sl} {F:List (aj→Prop)} {p mp en i n:Nat} {o:Int} {tv:AV} {T:List Lx} {K Q k:aM}
theorem c11 {kk:Nat} (hk:kk≤100000) (hn:4*kk+101≤n) [b:dL tv mp T F] {bx:Nat} (A:Cx h (vr p (pc tv mp en i o) :: vr bx K6 :: L) S F) (s:dK T en i o)
 (H:Post (iF T kk kk ⟨[],[],[]⟩ i o) (fun v i o=>∀h c,Cx h (vr p (pc tv mp en i o) :: vr bx c :: L) S ((fun h=>sQ h c v) :: F)→dK T en i o→K (.tup []) h=true) (FK K p mp en tv T (vr bx K6 :: L) S F)):
 au E n (.func 11) [.ptr p 0 0 0, .ptr bx 0 0 0] h K=true:=by
 obtain⟨n,rfl⟩:∃m,n=m+1:=⟨n-1,by omega⟩
 apply d11
 unfold s11
 refine c12 hk hk (by omega) (by omega) A s (Post.mono H ?_ fun x f=>FK.pz' f)
 intro v i o H h c A s
 obtain⟨w1,w2⟩:=(A.f0:sQ h c v).cells
 refine aG rfl ?_
 unfold JO
 refine gZ A rfl w1 rfl w2 fun h A=> ?_
 exact H h c A s
def OkP (K:aM) (T:List Lx) (en:Nat) (bx:Nat) (L:jq) (S:List Sl) (F:List (aj→Prop)) (r:Lb DU):Prop:=
 Post r (fun b _ _=>∀h c,Cx h (vr bx c :: L) S ((fun h=>sQ h c b) :: F)→K (.tup [.int .i64 0, .int .i64 0]) h=true)
  (fun x=>∀h c,Cx h (vr bx c :: L) S F→K (.tup [.int .i64 (LQ T en x:Int), .int .i64 20]) h=true)
theorem afb {call:bI} {df:mQ} {n:Nat} {σ:Go.Ab.St} {pend:List (AV×List AV)} {KT:Go.Ab.Mode→Go.Ab.St→Bool} {n0:List aT} {rest:List (aT×List aT×List aT)} {b:dz} {ρ':dx} (e:pF n0 σ.regs σ.h=some ρ')
 (s:Go.Ab.ou call (Bp rest (yj n0 σ.regs)) [] rest ⟨ρ',σ.h⟩ (fun x σ'=>match x with | .normal=>Go.Ab.runT call df n b pend σ' KT |x=>atEnd df pend x σ' KT)=true):Go.Ab.runT call df n (.seq (.dreg n0 rest) b) pend σ KT=true:=by
 simp only[Go.Ab.runT,Go.Ab.dB,e];exact s
theorem jY {ρ ρ':dx} {h h':aj} {dst:Option Nat} {op:fK} {v:AV} {l:List aT} (e:aN ρ h op=some (v,h')) (s:pF l (put ρ dst v) h=some ρ'):pF (⟨dst,op,none⟩ :: l) ρ h=some ρ':=by
 simp only[pF,fC,e];exact s
theorem acQ {call:bI} {ρ ρ0:dx} {h:aj} {KE:oC} {dst:Option Nat} {f:bW} {args:List bW} {tgt:Yc} {first cap vs:List AV} (ef:ev ρ f=some (.fn tgt first cap)) (ea:evs ρ args=some vs)
 (s:call tgt (first++vs++cap) h (fun v h'=>match jk v with |some x=>KE (.panic x) ⟨ρ0,h'⟩|none=>KE .normal ⟨put ρ dst v,h'⟩)=true):Go.Ab.ou call ρ0 [] [(⟨dst, .call f args,none⟩,[],[])] ⟨ρ,h⟩ KE=true:=by
 simp only[Go.Ab.ou,jM,fC,gM,ef,ea,dH,pR,zP,cond_true,nX,again,pF]
 refine(congrArg (fun k=>call tgt (first++vs++cap) h k) ?_).trans s
 funext v h'
 cases jk v<;>rfl
theorem agp {call:bI} {df:mQ} {n:Nat} {σ:Go.Ab.St} {pend:List (AV×List AV)} {KT:Go.Ab.Mode→Go.Ab.St→Bool} (s:ends df pend .ret σ.h (fun μ h=>KT μ ⟨σ.regs,h⟩)=true):Go.Ab.runT call df n .ret pend σ KT=true:=s
theorem ad7 {ρ:dx} {h:aj} {a c:Nat} {x y:AV} (e6:ρ.get 6=some (.ptr a 0 0 0)) (e7:ρ.get 7=some (.ptr c 0 0 0)) (l6:eO h false 1 (.ptr a 0 0 0)=some x) (l7:eO h false 1 (.ptr c 0 0 0)=some y) (s:K (.tup [x,y]) h=true):nQ C18.res K .ret ⟨ρ,h⟩=true:=by
 show(match jH ρ h [(6,some (false,1)),(7,some (false,1))] with |some l=>K (oneOf l) h |none=>false)=true
 simp only[jH,wK,e6,e7,l6,l7]
 exact s
def VD:Nat→dz→dz
 |n+1, .seq _ b=>VD n b
 |_,b=>b
theorem ajc {df:mQ} {g:Nat} {fs cs ag:List AV} {v:AV} {σ:Go.Ab.St} {KT:Go.Ab.Mode→Go.Ab.St→Bool} (s:df g (fs++ag++cs) (.pan v) σ.h (fun μ h=>KT μ ⟨σ.regs,h⟩)=true):atEnd df [(.fn (.func g) fs cs,ag)] (.panic v) σ KT=true:=s
theorem aj5 {call:bI} {df:mQ} {n g:Nat} {fs cs ag:List AV} {σ:Go.Ab.St} {KT:Go.Ab.Mode→Go.Ab.St→Bool} (s:df g (fs++ag++cs) .ret σ.h (fun μ h=>KT μ ⟨σ.regs,h⟩)=true):Go.Ab.runT call df n .ret [(.fn (.func g) fs cs,ag)] σ KT=true:=s
theorem ai8 {a c:Nat} {x y:AV} {ρ:dx} (e6:ρ.get 6=some (.ptr a 0 0 0)) (e7:ρ.get 7=some (.ptr c 0 0 0)) (A:Cx h (vr a [x] :: vr c [y] :: L) S F)
 (s:∀h,Cx h (vr c [.int .i64 0] :: vr a [.int .i64 0] :: L) S F→K (.tup [.int .i64 0, .int .i64 0]) h=true):
 Go.Ab.runT (au E n) (Az E (au E n) n) n (VD 5 C18.body) [(.fn (.func 27) [] [.ptr a 0 0 0, .ptr c 0 0 0],[])] ⟨ρ,h⟩ (nQ C18.res K)=true:=by
 obtain⟨h4,e4,A⟩:=A.set1 (off:=0) (v:= .int .i64 0) (by simp) rfl
 have A:Cx h4 (vr a [.int .i64 0] :: vr c [y] :: L) S F:=A
 obtain⟨h5,e5,A⟩:=A.swapL.set1 (off:=0) (v:= .int .i64 0) (by simp) rfl
 have A:Cx h5 (vr c [.int .i64 0] :: vr a [.int .i64 0] :: L) S F:=A
 show Go.Ab.runT _ _ n (.seq (.reg _) .ret) _ _ _=true
 have f6:aN ρ h (.store 1 (.t 6) (.c (.int .i64 0)))=some (.tup [],h4):=by
  simp only[aN,ev,e6];show unit (cZ h 1 _ _)=_;rw[show cZ h 1 _ _=some h4 from e4];rfl
 have f7:aN ρ h4 (.store 1 (.t 7) (.c (.int .i64 0)))=some (.tup [],h5):=by
  simp only[aN,ev,e7];show unit (cZ h4 1 _ _)=_;rw[show cZ h4 1 _ _=some h5 from e5];rfl
 refine FZ rfl (iD rfl f6 (iD rfl f7 (oO ?_)))
 refine aj5 (X0 ?_)
 refine ad7 e6 e7 (x:= .int .i64 0) (y:= .int .i64 0) (by rw[A.v1.load];rfl) (by rw[A.var.load];rfl) ?_
 exact s h5 A
theorem agM {a c:Nat} {x y v:AV} {ρ:dx} (hl:v.leaf=true) (e6:ρ.get 6=some (.ptr a 0 0 0)) (e7:ρ.get 7=some (.ptr c 0 0 0)) (A:Cx h (vr a [x] :: vr c [y] :: L) S F)
 (s:∀h,Cx h (vr a [v] :: vr c [.int .i64 20] :: L) S F→K (.tup [v, .int .i64 20]) h=true):
 atEnd (Az E (au E n) n) [(.fn (.func 27) [] [.ptr a 0 0 0, .ptr c 0 0 0],[])] (.panic (.ifc 93 (.agg [v]))) ⟨ρ,h⟩ (nQ C18.res K)=true:=by
 refine ajc (YQ A hl fun h A=> ?_)
 refine ad7 e6 e7 (x:=v) (y:= .int .i64 20) (by rw[A.var.load];rfl) (by rw[A.v1.load];rfl) ?_
 exact s h A
theorem c18 {kk:Nat} (hk:kk≤100000) (hn:4*kk+110≤n) (ht:ab7 tv T∈F) (hg:GvF∈F) {bx:Nat} (A:Cx h (vr bx K6 :: L) S F) (s:dK T en 0 0)
 (H:OkP K T en bx L S F (rR T kk 0 0)):au E n (.func 18) [tv, .int .i64 (en:Int), .fn (.func 11) [] [.ptr bx 0 0 0]] h K=true:=by
 obtain⟨n,rfl⟩:∃m,n=m+1:=⟨n-1,by omega⟩
 have hp:E.prim 18=none:=rfl
 have hc:E.code 18=some C18:=rfl
 simp only[au,hp,hc]
 show Go.Ab.runT (au E n) (Az E (au E n) n) n C18.body [] ⟨qb 0 [tv, .int .i64 (en:Int), .fn (.func 11) [] [.ptr bx 0 0 0]] .lf,h⟩ (nQ C18.res K)=true
 have V:View h 4 tv (T.map kH):=A.fact ht
 obtain⟨h1,e1,A⟩:=A.alloc (z:=[.int .i64 0]) (by decide) rfl
 have ha:h.sz=h.sz:=rfl
 generalize h.sz=a at e1 A
 obtain⟨h2,e2,A⟩:=A.alloc (z:=[.int .i64 0]) (by decide) rfl
 generalize h1.sz=c at e2 A
 refine FZ rfl (iD rfl e1 (iD rfl e2 (oO ?_)))
 refine af8 (f:= .t 9) (pre:=[⟨some 9, .mkfn 27 [] [.t 6, .t 7],none⟩]) rfl (iD (v:= .fn (.func 27) [] [.ptr a 0 0 0, .ptr c 0 0 0]) (h':=h2) rfl rfl (oO ?_))
 show Go.Ab.runT _ _ n (.seq (.reg _) _) [(.fn (.func 27) [] [.ptr a 0 0 0, .ptr c 0 0 0],[])] ⟨_,h2⟩ _=true
 refine FZ rfl (iD (v:=tv) (h':=h2) rfl rfl (iD (v:= .int .i64 (en:Int)) (h':=h2) rfl rfl (U1 (tgt:= .func 28) (first:=[]) (cap:=[]) (vs:=[]) rfl rfl ?_)))
 show au E n (.func 28) [] h2 _=true
 refine c28 (by omega) A fun h mp A=> ?_
 show Go.Ab.nL _ _ _ _=true
 have hcl:aD (AV.agg (pc tv mp en 0 0)).cells=true:=aH V.leaf rfl
 refine iD (v:= .agg (pc tv mp en 0 0)) (h':=h) rfl (by rcases V with⟨_,rfl |rfl⟩|⟨_,_,_,_,_,_,rfl,_⟩<;>rfl) ?_
 obtain⟨h3,e3,A⟩:=A.box (n:=5) (v:= .agg (pc tv mp en 0 0)) rfl (by decide) hcl
 generalize h.sz=p at e3 A
 refine iD rfl e3 (iD (v:= .ptr p 0 0 0) (h':=h3) rfl rfl (oO ?_))
 have A:Cx h3 (vr p (pc tv mp en 0 0) :: vr c [.int .i64 0] :: vr a [.int .i64 0] :: vr bx K6 :: L) S (NV mp :: F):=A
 have A:=A.swap23.swap12
 have bF:dL tv mp T (NV mp :: F):=⟨List.mem_cons_of_mem _ ht,List.mem_cons_self,List.mem_cons_of_mem _ hg⟩
 show Go.Ab.runT _ _ n (.seq (.reg _) _) _ _ _=true
 refine FZ rfl (iD (v:= .fn (.func 11) [] [.ptr bx 0 0 0]) (h':=h3) rfl rfl (iD (v:= .ptr p 0 0 0) (h':=h3) rfl rfl (U1 (tgt:= .func 11) (first:=[]) (cap:=[.ptr bx 0 0 0]) (vs:=[.ptr p 0 0 0]) rfl rfl ?_)))
 show au E n (.func 11) [.ptr p 0 0 0, .ptr bx 0 0 0] h3 _=true
 unfold OkP rR at H
 rw[aC] at H
 refine c11 hk (by omega) A s (Post.mono H.eqn ?_ ?_)
 ·intro v i o ⟨eq,H⟩ h cb A s
  have hi:i=T.length:=Nat.le_antisymm s.le (zh kk kk _ _ _ _ _ _ eq)
  rw[if_pos hi] at H
  have V:View h 4 tv (T.map kH):=A.fact (List.mem_cons_of_mem _ bF.tok)
  have el1:eO h false 1 (.ptr p 0 0 1)=some (.int .i64 (i:Int)):=by rw[A.var.load];rfl
  have el0:eO h false 1 (.ptr p 0 0 0)=some tv:=by rw[A.var.load];rfl
  show Go.Ab.nL _ [] _ _=true
  refine oO ?_
  show Go.Ab.runT _ _ n (.seq (.dreg _ _) _) _ _ _=true
  refine afb (jY (v:= .ptr p 0 0 0) (h':=h) rfl (jY (v:= .ptr p 0 0 0) (h':=h) rfl (jY (v:= .ptr p 0 0 0) (h':=h) rfl (jY (v:= .ptr p 0 0 1) (h':=h) rfl
   (jY (v:= .int .i64 (i:Int)) (h':=h) (by show bQ (eO h false 1 (.ptr p 0 0 1)) h=_;rw[el1];rfl) (jY (v:= .ptr p 0 0 0) (h':=h) rfl (jY (v:= .ptr p 0 0 0) (h':=h) rfl (jY (v:= .ptr p 0 0 0) (h':=h) rfl
   (jY (v:=tv) (h':=h) (by show bQ (eO h false 1 (.ptr p 0 0 0)) h=_;rw[el0];rfl) (jY (v:= .int .i64 ((T.map kH).length:Int)) (h':=h) (by show bQ (AX h 1 tv) h=_;rw[V.len];rfl)
   (jY (v:= .bool true) (h':=h) (by
     show bQ (eY .eql (.int .i64 (i:Int)) (.int .i64 ((T.map kH).length:Int))) h=_
     rw[iU _ _ _ _ rfl]
     simp only[l8,rC,List.length_map,hi,decide_true]
     rfl) rfl))))))))))) ?_
  refine acQ (tgt:= .func 29) (first:=[]) (cap:=[]) (vs:=[.ptr p 0 0 0, .bool true]) rfl rfl ?_
  show au E n (.func 29) [.ptr p 0 0 0, .bool true] h _=true
  refine O8 (by omega) A s (aZ fun h A s=> ?_)
  show Go.Ab.runT _ _ n (.seq (.reg _) _) _ _ _=true
  have A:Cx h (vr a [.int .i64 0] :: vr c [.int .i64 0] :: vr bx cb :: vr p (pc tv mp en i o) :: L) S ((fun h=>sQ h cb v) :: NV mp :: F):=A.perm (by
   have q1:List.Perm [vr a [AV.int .i64 0],vr c [.int .i64 0],vr bx cb,vr p (pc tv mp en i o)] [vr p (pc tv mp en i o),vr bx cb,vr c [.int .i64 0],vr a [.int .i64 0]]:=List.reverse_perm [vr p (pc tv mp en i o),vr bx cb,vr c [.int .i64 0],vr a [.int .i64 0]]
   exact q1.append_right L) (.refl _)
  refine ai8 rfl rfl A fun h A=> ?_
  exact H h cb (A.rest.rest.bC.drop1)
 ·intro x f h i o A
  have A:Cx h (vr a [.int .i64 0] :: vr c [.int .i64 0] :: vr bx K6 :: vr p (pc tv mp en i o) :: L) S (NV mp :: F):=A.perm (by
   have q1:List.Perm [vr a [AV.int .i64 0],vr c [.int .i64 0],vr bx K6,vr p (pc tv mp en i o)] [vr p (pc tv mp en i o),vr bx K6,vr c [.int .i64 0],vr a [.int .i64 0]]:=List.reverse_perm [vr p (pc tv mp en i o),vr bx K6,vr c [.int .i64 0],vr a [.int .i64 0]]
   exact q1.append_right L) (.refl _)
  refine agM rfl rfl rfl A fun h A=> ?_
  exact f h K6 (A.rest.rest.bC.eX)
end
structure But (x:Nat) (h h':aj):Prop where
 sz:h.sz≤h'.sz
 keep:∀j o,j≠x→h.get j=some o→h'.get j=some o
theorem But.refl (x:Nat) (h:aj):But x h h:=⟨Nat.le_refl _,fun _ _ _ e=>e⟩
theorem But.trans {x:Nat} {a b c:aj} (p:But x a b) (q:But x b c):But x a c:=⟨Nat.le_trans p.sz q.sz,fun j o e h=>q.keep j o e (p.keep j o e h)⟩
theorem But.put (x:Nat) (h:aj) (o:fG):But x h (h.put x o):=⟨by simp,fun j o' e hj=>by rw[aj.get_put,if_neg e];exact hj⟩
theorem But.ext {x:Nat} {h0 h h':aj} (p:But x h h') (e:Ext h0 h) (k0:h0.Ok) (hx:h0.sz≤x):Ext h0 h':=
 ⟨Nat.le_trans e.1 p.sz,fun j o hj=>p.keep j o (by have:=k0.lt hj;omega) (e.2 j o hj)⟩
theorem But.var {x j:Nat} {h h':aj} {c:List AV} (p:But x h h') (V:Var h j c) (e:j≠x):Var h' j c:=by
 have V':h.row j=some (lZ c):=V
 show h'.row j=_
 rw[aj.row_some] at V' ⊢
 exact p.keep j _ e V'
theorem RU {b:Nat} {h h':aj} {n:Nat} {v:AV} {es:List (List AV)} (O:Own b h n v es) (p:∀j o,b≤j→h.get j=some o→h'.get j=some o):Own b h' n v es:=by
 rcases O with V |⟨id,r,w1,w2,w3,w4,w5,w6,w7⟩
 ·exact .inl V
 ·exact .inr ⟨id,r,w1,w2,by rw[aj.row_some] at w3 ⊢;exact p _ _ w1 w3,w4,w5,w6,w7⟩
theorem But.own {x b:Nat} {h h':aj} {n:Nat} {v:AV} {es:List (List AV)} (p:But x h h') (O:Own b h n v es) (e:x<b):Own b h' n v es:=
 RU O fun j o hj g=>p.keep j o (by omega) g
theorem OL {h h':aj} {v:AV} {e:Nat} (T:Nl h v e) (p:∀id g s l c ex o,v= .slc id g s l c ex→h.get id=some o→h'.get id=some o):Nl h' v e:=by
 intro id g s l c ex hv
 obtain⟨r,q1,q2⟩:=T id g s l c ex hv
 exact⟨r,by rw[aj.row_some] at q1 ⊢;exact p _ _ _ _ _ _ _ hv q1,q2⟩
def Lp (regs:dx) (ps:List Nat) (asg body:dz) (st:Ka):fG:= .loop {regs,ps,asg,body,st}
theorem zW (h:aj) (o:fG):(h.push o).get h.sz=some o:=by rw[aj.get_push,if_pos rfl]
theorem oV (h:aj) (id:Nat) (o:fG):(h.put id o).get id=some o:=by rw[aj.get_put,if_pos rfl]
theorem JZ {h:aj} {id j:Nat} {o:fG} (e:j≠id):(h.put id o).get j=h.get j:=by rw[aj.get_put,if_neg e]
theorem Ho (k:IntKind) (a:Int):AV.same (.int k a) (.int k a)=true:=by
 simp only[AV.same,Nat.beq_refl,Bool.true_and];rw[rC];simp
theorem aam (a b c d:Nat):AV.same (.ptr a b c d) (.ptr a b c d)=true:=by
 simp only[AV.same,Nat.beq_refl,Bool.and_self]
theorem oq {s:Str} {j k:IntKind} {a b:Nat} (hab:a≤b) (hb:b≤s.length):nC (.str s) (some (.int j (a:Int))) (some (.int k (b:Int)))=some (.str ((s.take b).drop a)):=by
 simp only[nC,tC,sI,aI.2 hab,aI.2 hb,Bool.and_self,cond_true]
theorem dW {s:Str} {j:IntKind} {a:Nat} (hb:a≤s.length):nC (.str s) (some (.int j (a:Int))) none=some (.str (s.drop a)):=by
 simp only[nC,tC,sI,aI.2 hb,aI.2 (Nat.le_refl _),Bool.and_self,cond_true,List.take_length]
theorem aaS {s:Str} {k:IntKind} {b:Nat} (hb:b≤s.length):nC (.str s) none (some (.int k (b:Int)))=some (.str (s.take b)):=by
 simp only[nC,tC,sI,aI.2 hb,aI.2 (Nat.zero_le _),Bool.and_self,cond_true,List.drop_zero]
theorem dA {a b:Nat} (h:a+b<lim):eY .add (.int .i64 (a:Int)) (.int .i64 (b:Int))=some (.int .i64 ((a+b:Nat):Int)):=by
 have h':a+b<4611686018427387904:=h
 rw[adO (by omega) (by omega)];rfl
theorem lT {a b:Nat} (h:b≤a) (h2:a<lim):eY .sub (.int .i64 (a:Int)) (.int .i64 (b:Int))=some (.int .i64 ((a-b:Nat):Int)):=by
 have h':a<4611686018427387904:=h2
 rw[agu (by omega) (by omega)];congr 2;omega
theorem Pk {a:Nat} (k:Nat) (h:a+k<lim):eY .add (.int .i64 (a:Int)) (.int .i64 (@OfNat.ofNat Int k _))=some (.int .i64 ((a+k:Nat):Int)):=dA h
def xE (s:Str):List (List AV):=s.map fun(b:Nat)=>[AV.int .u8 (b:Int)]
theorem F7:∀(s:Str),(∀b∈s,b<256)→bytesOf (xE s)=some s
 | [],_=>rfl
 |b :: s,h=>by
  show bytesOf ([AV.int .u8 (.ofNat b)] :: xE s)=_
  simp only[bytesOf,F7 s (fun c hc=>h c (List.mem_cons_of_mem _ hc)),bB.2 (h b List.mem_cons_self),cond_true]
def pk (s:Str) (i:Nat):Nat:=s[i]?.getD 0
theorem Wp {s:Str} {i:Nat} (h:i<s.length):pk s i=s[i]:=by simp[pk,h]
theorem Ip {s:Str} {i:Nat} (h:s.length≤i):pk s i=0:=by simp[pk,h]
theorem eT {s:Str} {k:IntKind} {i:Nat} (h:i<s.length):mP (.str s) (.int k (i:Int))=some (.int .u8 (pk s i:Int)):=by
 rw[Wp h];exact U0 (List.getElem?_eq_getElem h)
theorem rX {s:Str} {i:Nat} (h:i<s.length):s.drop i=pk s i :: s.drop (i+1):=by
 rw[Wp h];exact List.drop_eq_getElem_cons h
theorem gN {x y v:AV} {k:AV→Bool} (e:eY .add x y=some v) (s:k v=true):gQ x y k=true:=by rw[TH,e];exact s
theorem iZ {x y v:AV} {k:AV→Bool} (e:eY .sub x y=some v) (s:k v=true):K8 x y k=true:=by rw[aaJ,e];exact s
theorem jg {x y v:AV} {k:AV→Bool} (e:mP x y=some v) (s:k v=true):Gn x y k=true:=by rw[adH,e];exact s
theorem iO {x v:AV} {y z:Option AV} {k:AV→Bool} (e:nC x y z=some v) (s:k v=true):Iq x y z k=true:=by rw[aer,e];exact s
theorem F9 {h h':aj} {w v:AV} {k:aj→Bool} (e:cZ h 1 w v=some h') (s:k h'=true):bH h w v k=true:=by rw[QI,e];exact s
theorem kU {x y v:AV} {k:AV→Bool} (e:eY .eql x y=some v) (s:k v=true):eD x y k=true:=by rw[TU,e];exact s
theorem pE {x y v:AV} {k:AV→Bool} (e:eY .lss x y=some v) (s:k v=true):mE x y k=true:=by rw[ZJ,e];exact s
theorem rO {x y v:AV} {k:AV→Bool} (e:eY .geq x y=some v) (s:k v=true):FP x y k=true:=by rw[abq,e];exact s
theorem rM {h:aj} {x v:AV} {k:AV→Bool} (e:AX h 1 x=some v) (s:k v=true):gJ x k=true:=by rw[aaR h,e];exact s
theorem aa0 {h h':aj} {v w:AV} {k:aM} (e:nK h none 1 v=some (w,h')) (s:k w h'=true):FH h v k=true:=by rw[abz,e];exact s
theorem Uq {h h':aj} {z:List AV} {w:AV} {n:Nat} {k:aM} (hn:z.length=n) (h0:Nat.beq n 0=false) (hl:aD z=true) (e:pG h z=some (w,h')) (s:k w h'=true):bT h z n k=true:=by rw[Ky _ _ _ _ hn h0 hl,e];exact s
theorem Zk {h h':aj} {n:Nat} {w v:AV} {k:aj→Bool} (hn:Nat.beq n 0=false) (e:cZ h n w v=some h') (s:k h'=true):aL h n w v k=true:=by rw[MN _ _ _ _ _ hn,e];exact s
theorem Lv {z:List AV} {ps:List (Nat×Nat×AV)} {v:AV} {k:AV→Bool} (e:qE z ps=some v) (s:k v=true):dP z ps k=true:=by rw[Qj,e];exact s
theorem u6 {c a b:Bool} (e:c=false) (s:b=true):aK (.bool c) a b=true:=by subst e;exact s
theorem vT {c a b:Bool} (e:c=true) (s:a=true):aK (.bool c) a b=true:=by subst e;exact s
def jv (b:Nat):Bool:=(decide (97≤b)&&decide (b≤122))||(decide (65≤b)&&decide (b≤90))
def fP (b:Nat):Bool:=decide (48≤b)&&decide (b≤57)
def Gc (b:Nat):Bool:=jv b||fP b||decide (b=95)
def qB (b:Nat):Bool:=decide (b=32)||decide (b=9)||decide (b=13)||decide (b=10)
def GU (b:Int):Bool:=(decide (97≤b)&&decide (b≤122))||(decide (65≤b)&&decide (b≤90))
def NP (b:Int):Bool:=decide (48≤b)&&decide (b≤57)
theorem SF (b:Nat):GU (b:Int)=jv b:=by
 unfold GU jv
 rw[show decide ((97:Int)≤(b:Int))=decide (97≤b) from decide_eq_decide.2 (by omega),show decide ((b:Int)≤122)=decide (b≤122) from decide_eq_decide.2 (by omega),
  show decide ((65:Int)≤(b:Int))=decide (65≤b) from decide_eq_decide.2 (by omega),show decide ((b:Int)≤90)=decide (b≤90) from decide_eq_decide.2 (by omega)]
theorem XL (b:Nat):NP (b:Int)=fP b:=by
 unfold NP fP
 rw[show decide ((48:Int)≤(b:Int))=decide (48≤b) from decide_eq_decide.2 (by omega),show decide ((b:Int)≤57)=decide (b≤57) from decide_eq_decide.2 (by omega)]
theorem i63 {n:Nat} {b:Int} {h:aj} {K:aM} (k:K (.bool (GU b)) h=true):au E (n+1) (.func 63) [.int .u8 b] h K=true:=by
 apply d63
 unfold s63
 unfold GU at k
 cases h1:decide (97≤b)<;>cases h2:decide (b≤122)<;>cases h3:decide (65≤b)<;>cases h4:decide (b≤90)<;>rw[h1,h2,h3,h4] at k
 all_goals(repeat first |(with_reducible first |refine aS ?_ |refine dG ?_ |refine dQ ?_ |refine aY ?_ |refine bR ?_ |refine iR ?_ |refine eH ?_ |refine Q5 ?_ |refine Qt ?_)|rw[h1]|rw[h2]|rw[h3]|rw[h4])
 all_goals exact k
theorem c63 {n b:Nat} {h:aj} {K:aM} (k:K (.bool (jv b)) h=true):au E (n+1) (.func 63) [.int .u8 (b:Int)] h K=true:=i63 (by rw[SF];exact k)
theorem i65 {n:Nat} {b:Int} {h:aj} {K:aM} (k:K (.bool (NP b)) h=true):au E (n+1) (.func 65) [.int .u8 b] h K=true:=by
 apply d65
 unfold s65
 unfold NP at k
 cases h1:decide (48≤b)<;>cases h2:decide (b≤57)<;>rw[h1,h2] at k
 all_goals(repeat first |(with_reducible first |refine aS ?_ |refine dG ?_ |refine dQ ?_ |refine aY ?_ |refine bR ?_ |refine iR ?_ |refine eH ?_ |refine Q5 ?_ |refine Qt ?_)|rw[h1]|rw[h2])
 all_goals exact k
theorem c65 {n b:Nat} {h:aj} {K:aM} (k:K (.bool (fP b)) h=true):au E (n+1) (.func 65) [.int .u8 (b:Int)] h K=true:=i65 (by rw[XL];exact k)
theorem eqb (c:Nat) (b:Nat):eY .eql (.int .u8 (b:Int)) (.int .u8 (c:Int))=some (.bool (decide (b=c))):=by
 rw[QG,show decide ((b:Int)=(c:Int))=decide (b=c) from decide_eq_decide.2 (by omega)]
theorem ltb (c:Nat) (b:Nat):eY .lss (.int .u8 (b:Int)) (.int .u8 (c:Int))=some (.bool (decide (b<c))):=by
 rw[Ij,show decide ((b:Int)<(c:Int))=decide (b<c) from decide_eq_decide.2 (by omega)]
theorem c81 {n b:Nat} {h:aj} {K:aM} (k:K (.bool (Gc b)) h=true):au E (n+2) (.func 81) [.int .u8 (b:Int)] h K=true:=by
 apply d81
 unfold s81
 refine c63 ?_
 unfold Gc at k
 cases hl:jv b with
 |true=>
  rw[hl] at k
  refine aG rfl ?_
  unfold Ca
  refine iR ?_;refine adJ ?_
  unfold BO
  refine dG ?_;refine iR ?_;refine iR ?_;refine dG ?_
  exact k
 |false=>
  rw[hl] at k
  refine aG rfl ?_
  unfold Ca
  refine bR ?_;refine aS ?_;refine dV ?_
  refine c65 (aG rfl ?_)
  unfold BO
  cases hd:fP b with
  |true=>
   rw[hd] at k
   refine dQ ?_;refine iR ?_;refine iR ?_;refine dG ?_
   exact k
  |false=>
   rw[hd] at k
   have e:eY .eql (.int .u8 (b:Int)) (AV.int .u8 95)=some (.bool (decide (b=95))):=eqb 95 b
   refine dQ (bR (aS (bR (kU e (dQ ?_)))))
   simpa using k
def LX (h:aj) (x:Nat) (s:Str) (a:Nat) (bad:Bool):Prop:=Var h x [.str s, .int .i64 (a:Int), .bool bad]
theorem LX.l0 {h:aj} {x a:Nat} {s:Str} {bad:Bool} (V:LX h x s a bad):eO h false 1 (.ptr x 0 0 0)=some (.str s):=by rw[Var.load V];rfl
theorem LX.l1 {h:aj} {x a:Nat} {s:Str} {bad:Bool} (V:LX h x s a bad):eO h false 1 (.ptr x 0 0 1)=some (.int .i64 (a:Int)):=by rw[Var.load V];rfl
theorem LX.l2 {h:aj} {x a:Nat} {s:Str} {bad:Bool} (V:LX h x s a bad):eO h false 1 (.ptr x 0 0 2)=some (.bool bad):=by rw[Var.load V];rfl
theorem LX.set {h:aj} {x a:Nat} {s:Str} {bad:Bool} (V:LX h x s a bad) (b:Nat):cZ h 1 (.ptr x 0 0 1) (.int .i64 (b:Int))=some (h.put x (.row (lZ [.str s, .int .i64 (b:Int), .bool bad]))):=by
 rw[Var.set1 V (by show 1<3;omega) rfl];rfl
theorem LX.setb {h:aj} {x a:Nat} {s:Str} {bad:Bool} (V:LX h x s a bad) (b:Bool):cZ h 1 (.ptr x 0 0 2) (.bool b)=some (h.put x (.row (lZ [.str s, .int .i64 (a:Int), .bool b]))):=by
 rw[Var.set1 V (by show 2<3;omega) rfl];rfl
theorem TD (h:aj) (x:Nat) (s:Str) (a:Nat) (bad:Bool):LX (h.put x (.row (lZ [.str s, .int .i64 (a:Int), .bool bad]))) x s a bad:=wG x _
theorem c60 {n x a k:Nat} {s:Str} {bad:Bool} {h:aj} {K:aM} (V:LX h x s a bad) (hL:s.length+k<lim) (ha:a≤s.length) (kk:K (.int .u8 (pk s (a+k):Int)) h=true):au E (n+1) (.func 60) [.ptr x 0 0 0, .int .i64 (k:Int)] h K=true:=by
 apply d60
 unfold s60
 refine eu ?_;refine aA ?_;refine aQ (LX.l1 V) ?_
 first |refine aQ (dA (show a+k<lim by omega)) ?_ |refine gN (dA (show a+k<lim by omega)) ?_ |refine iZ (dA (show a+k<lim by omega)) ?_ |refine jg (dA (show a+k<lim by omega)) ?_ |refine iO (dA (show a+k<lim by omega)) ?_ |refine qG (dA (show a+k<lim by omega)) ?_
 refine eu ?_;refine aA ?_;refine aQ (LX.l0 V) ?_;refine iT ?_;refine Q5 ?_
 by_cases hlt:a+k<s.length
 ·refine u6 (decide_eq_false (by omega)) ?_
  refine eu ?_;refine aA ?_;refine aQ (LX.l0 V) ?_;refine eu ?_;refine aA ?_;refine aQ (LX.l1 V) ?_
  first |refine aQ (dA (show a+k<lim by omega)) ?_ |refine gN (dA (show a+k<lim by omega)) ?_ |refine iZ (dA (show a+k<lim by omega)) ?_ |refine jg (dA (show a+k<lim by omega)) ?_ |refine iO (dA (show a+k<lim by omega)) ?_ |refine qG (dA (show a+k<lim by omega)) ?_
  first |refine aQ (eT hlt) ?_ |refine gN (eT hlt) ?_ |refine iZ (eT hlt) ?_ |refine jg (eT hlt) ?_ |refine iO (eT hlt) ?_ |refine qG (eT hlt) ?_
  exact kk
 ·refine vT (decide_eq_true (by omega)) ?_
  rw[Ip (by omega)] at kk
  exact kk
theorem l66 {n x a f:Nat} {p:Nat→Bool} {fv:AV} {s:Str} {bad:Bool} {h:aj} {K:aM} (V:LX h x s a bad) (hL:s.length+f<lim) (ha:a≤s.length)
 (hf:∀(b:Nat) (K':aM),K' (.bool (p b)) h=true→nI (au E n) fv [.int .u8 (b:Int)] h K'=true):∀(m j:Nat),a+f+j≤s.length∨j=0→s.length-(a+f+j)<m→
 K (.int .i64 ((j+((s.drop (a+f+j)).takeWhile p).length:Nat):Int)) h=true→U7 (au E n) n m (.ptr x 0 0 0) (.int .i64 (f:Int)) fv (.int .i64 (j:Int)) h K=true:=by
 intro m
 induction m with
 |zero=>intro j _ hm;omega
 |succ m ih=>
  intro j hj hm k
  unfold U7 ZH
  have hb1:a+f+j<lim:=by omega
  refine eu ?_;refine aA ?_;refine aQ (LX.l1 V) ?_
  first |refine aQ (dA (show a+f<lim by omega)) ?_ |refine gN (dA (show a+f<lim by omega)) ?_ |refine iZ (dA (show a+f<lim by omega)) ?_ |refine jg (dA (show a+f<lim by omega)) ?_ |refine iO (dA (show a+f<lim by omega)) ?_ |refine qG (dA (show a+f<lim by omega)) ?_
  first |refine aQ (dA hb1) ?_ |refine gN (dA hb1) ?_ |refine iZ (dA hb1) ?_ |refine jg (dA hb1) ?_ |refine iO (dA hb1) ?_ |refine qG (dA hb1) ?_
  refine eu ?_;refine aA ?_;refine aQ (LX.l0 V) ?_;refine iT ?_;refine jw ?_
  by_cases hlt:a+f+j<s.length
  ·have hd:decide (a+f+j<s.length)=true:=decide_eq_true (by omega)
   rw[rX hlt,List.takeWhile_cons] at k
   rw[hd]
   repeat first |(with_reducible first |refine eu ?_ |refine aA ?_ |refine aS ?_ |refine aY ?_)|refine aQ (LX.l0 V) ?_ |refine aQ (LX.l1 V) ?_
   first |refine aQ (dA (show a+f<lim by omega)) ?_ |refine gN (dA (show a+f<lim by omega)) ?_ |refine iZ (dA (show a+f<lim by omega)) ?_ |refine jg (dA (show a+f<lim by omega)) ?_ |refine iO (dA (show a+f<lim by omega)) ?_ |refine qG (dA (show a+f<lim by omega)) ?_
   refine aY ?_;refine aS ?_;refine aY ?_
   first |refine aQ (dA hb1) ?_ |refine gN (dA hb1) ?_ |refine iZ (dA hb1) ?_ |refine jg (dA hb1) ?_ |refine iO (dA hb1) ?_ |refine qG (dA hb1) ?_
   refine aY ?_
   first |refine aQ (eT hlt) ?_ |refine gN (eT hlt) ?_ |refine iZ (eT hlt) ?_ |refine jg (eT hlt) ?_ |refine iO (eT hlt) ?_ |refine qG (eT hlt) ?_
   refine dY ?_
   refine hf _ _ ?_
   cases hp:p (pk s (a+f+j)) with
   |true=>
    rw[hp] at k
    refine aG rfl ?_;refine dG ?_;refine bK ?_
    first |refine aQ (jN (show j<lim by omega)) ?_ |refine gN (jN (show j<lim by omega)) ?_ |refine iZ (jN (show j<lim by omega)) ?_ |refine jg (jN (show j<lim by omega)) ?_ |refine iO (jN (show j<lim by omega)) ?_ |refine qG (jN (show j<lim by omega)) ?_
    refine ih (j+1) (by omega) (by omega) ?_
    rw[if_pos rfl,List.length_cons] at k
    have e1:j+1+((s.drop (a+f+(j+1))).takeWhile p).length=j+(((s.drop (a+f+j+1)).takeWhile p).length+1):=by
     rw[show a+f+(j+1)=a+f+j+1 by omega];omega
    rw[e1];exact k
   |false=>
    rw[hp] at k
    refine aG rfl ?_;refine dG ?_;refine bg ?_
    simpa using k
  ·have hd:decide (a+f+j<s.length)=false:=decide_eq_false (by omega)
   rw[hd]
   repeat first |(with_reducible first |refine bg ?_ |refine eH ?_ |refine rT ?_ |refine dQ ?_)
   rw[List.drop_of_length_le (by omega)] at k
   simpa using k
theorem c66 {n x a f:Nat} {p:Nat→Bool} {fv:AV} {s:Str} {bad:Bool} {h:aj} {K:aM} (V:LX h x s a bad) (hL:s.length+f<lim) (hn:s.length<n) (ha:a≤s.length)
 (hf:∀(b:Nat) (K':aM),K' (.bool (p b)) h=true→nI (au E n) fv [.int .u8 (b:Int)] h K'=true)
 (k:K (.int .i64 (((s.drop (a+f)).takeWhile p).length:Int)) h=true):au E (n+1) (.func 66) [.ptr x 0 0 0, .int .i64 (f:Int),fv] h K=true:=by
 apply d66
 unfold s66
 exact l66 V hL ha hf n 0 (.inr rfl) (by omega) (by simpa using k)
def jW (l:Str):Nat:=match l with
 | []=>0
 |c :: l=>if jv c=true then((c :: l).takeWhile Gc).length else 0
theorem YX {s:Str} {i:Nat}:jW (s.drop i)=if jv (pk s i)=true then((s.drop i).takeWhile Gc).length else 0:=by
 by_cases h:i<s.length
 ·rw[rX h];rfl
 ·rw[List.drop_of_length_le (by omega),Ip (by omega)];rfl
theorem c64 {n x a f:Nat} {s:Str} {bad:Bool} {h:aj} {K:aM} (V:LX h x s a bad) (hL:s.length+f<lim) (hn:s.length<n) (hn3:3≤n) (ha:a≤s.length)
 (k:K (.int .i64 (jW (s.drop (a+f)):Int)) h=true):au E (n+2) (.func 64) [.ptr x 0 0 0, .int .i64 (f:Int)] h K=true:=by
 apply d64
 unfold s64
 refine c60 V hL ha (aG rfl ?_)
 unfold JE
 refine c63 (aG rfl ?_)
 unfold Ke
 rw[YX] at k
 refine Ws ?_
 cases hl:jv (pk s (a+f)) with
 |false=>rw[hl] at k;refine bK ?_;simpa using k
 |true=>
  rw[hl] at k
  refine bg ?_
  refine c66 (p:=Gc) V hL hn ha ?_ (aG rfl (by simpa using k))
  intro b K' kk
  obtain⟨n,rfl⟩:∃j,n=j+2:=⟨n-2,by omega⟩
  exact c81 kk
theorem c62 {n x a p f m:Nat} {s:Str} {bad:Bool} {h:aj} {K:aM} (V:LX h x s a bad) (P:Var h p [.ptr x 0 0 0]) (hL:s.length<lim) (hb:a+f+m≤s.length)
 (k:K (.str ((s.drop (a+f)).take m)) h=true):au E (n+1) (.func 62) [.int .i64 (f:Int), .int .i64 (m:Int), .ptr p 0 0 0] h K=true:=by
 apply d62
 unfold s62
 have P0:eO h false 1 (.ptr p 0 0 0)=some (.ptr x 0 0 0):=by rw[P.load];rfl
 first |refine aQ P0 ?_ |refine gN P0 ?_ |refine iZ P0 ?_ |refine jg P0 ?_ |refine iO P0 ?_ |refine qG P0 ?_
 refine eu ?_;refine aA ?_
 first |refine aQ V.l0 ?_ |refine gN V.l0 ?_ |refine iZ V.l0 ?_ |refine jg V.l0 ?_ |refine iO V.l0 ?_ |refine qG V.l0 ?_
 first |refine aQ P0 ?_ |refine gN P0 ?_ |refine iZ P0 ?_ |refine jg P0 ?_ |refine iO P0 ?_ |refine qG P0 ?_
 refine eu ?_;refine aA ?_
 first |refine aQ V.l1 ?_ |refine gN V.l1 ?_ |refine iZ V.l1 ?_ |refine jg V.l1 ?_ |refine iO V.l1 ?_ |refine qG V.l1 ?_
 first |refine aQ (dA (show a+f<lim by omega)) ?_ |refine gN (dA (show a+f<lim by omega)) ?_ |refine iZ (dA (show a+f<lim by omega)) ?_ |refine jg (dA (show a+f<lim by omega)) ?_ |refine iO (dA (show a+f<lim by omega)) ?_ |refine qG (dA (show a+f<lim by omega)) ?_
 first |refine aQ P0 ?_ |refine gN P0 ?_ |refine iZ P0 ?_ |refine jg P0 ?_ |refine iO P0 ?_ |refine qG P0 ?_
 refine eu ?_;refine aA ?_
 first |refine aQ V.l1 ?_ |refine gN V.l1 ?_ |refine iZ V.l1 ?_ |refine jg V.l1 ?_ |refine iO V.l1 ?_ |refine qG V.l1 ?_
 first |refine aQ (dA (show a+f<lim by omega)) ?_ |refine gN (dA (show a+f<lim by omega)) ?_ |refine iZ (dA (show a+f<lim by omega)) ?_ |refine jg (dA (show a+f<lim by omega)) ?_ |refine iO (dA (show a+f<lim by omega)) ?_ |refine qG (dA (show a+f<lim by omega)) ?_
 first |refine aQ (dA (show a+f+m<lim by omega)) ?_ |refine gN (dA (show a+f+m<lim by omega)) ?_ |refine iZ (dA (show a+f+m<lim by omega)) ?_ |refine jg (dA (show a+f+m<lim by omega)) ?_ |refine iO (dA (show a+f+m<lim by omega)) ?_ |refine qG (dA (show a+f+m<lim by omega)) ?_
 first |refine aQ (oq (show a+f≤a+f+m by omega) hb) ?_ |refine gN (oq (show a+f≤a+f+m by omega) hb) ?_ |refine iZ (oq (show a+f≤a+f+m by omega) hb) ?_ |refine jg (oq (show a+f≤a+f+m by omega) hb) ?_ |refine iO (oq (show a+f≤a+f+m by omega) hb) ?_ |refine qG (oq (show a+f≤a+f+m by omega) hb) ?_
 have e:(s.take (a+f+m)).drop (a+f)=(s.drop (a+f)).take m:=by rw[List.drop_take];congr 1;omega
 rw[e];exact k
def bidx (c:Nat):Str→Option Nat
 | []=>none
 |b :: l=>if b=c then some 0 else(bidx c l).map (· + 1)
def fint:Option Nat→Int
 |none=> -1
 |some k=>k
theorem Lh (c:Nat):∀(l:Str) (i:Nat),K7 c l i=match bidx c l with |none=> -1 |some k=>((i+k:Nat):Int)
 | [],i=>rfl
 |b :: l,i=>by
  simp only[K7,bidx]
  by_cases e:b=c
  ·rw[aF.2 e,cond_true,if_pos e];rfl
  ·rw[dh.2 e,cond_false,if_neg e,Lh c l (i+1)]
   cases bidx c l with
   |none=>rfl
   |some k=>simp only[Option.map];congr 1;omega
theorem Y0 (c:Nat) (l:Str):K7 c l 0=fint (bidx c l):=by
 rw[Lh]
 cases bidx c l with
 |none=>rfl
 |some k=>simp[fint]
theorem c94 {n c:Nat} {s:Str} {h:aj} {K:aM} (hc:c<256) (k:K (.int .i64 (fint (bidx c s))) h=true):au E (n+1) (.func 94) [.str s, .int .u8 (c:Int)] h K=true:=by
 show vV (au E n) n [.str s, .int .u8 (.ofNat c)] h K=true
 simp only[vV,bB.2 hc,cond_true,Y0]
 exact k
theorem c80 {n c:Nat} {s:Str} {h:aj} {K:aM} (hc:c<256) (k:K (.int .i64 (fint (bidx c s))) h=true):au E (n+2) (.func 80) [.str s, .int .u8 (c:Int)] h K=true:=by
 apply d80
 unfold s80
 exact c94 hc k
theorem c61 {n c:Nat} {s:Str} {h:aj} {K:aM} (hc:c<256) (k:K (.int .i64 (fint (bidx c s))) h=true):au E (n+3) (.func 61) [.str s, .int .u8 (c:Int)] h K=true:=by
 apply d61
 unfold s61
 exact c80 hc k
theorem c96 {n:Nat} {s t:Str} {h:aj} {K:aM} (k:K (.bool (t.isPrefixOf s)) h=true):au E (n+1) (.func 96) [.str s, .str t] h K=true:=by
 apply d96
 unfold s96
 refine iT (iT (Q5 ?_))
 by_cases hle:t.length≤s.length
 ·have hd:decide ((t.length:Int)≤(s.length:Int))=true:=decide_eq_true (by omega)
  have e:(decide (s.take t.length=t))=t.isPrefixOf s:=by
   rw[Bool.eq_iff_iff,decide_eq_true_iff,List.isPrefixOf_iff_prefix,List.prefix_iff_eq_take]
   exact eq_comm
  rw[hd]
  refine aY (aS (aY (aS (aY (iT (aY (iO (aaS hle) (aY (aS (aY (Dj (dG ?_))))))))))))
  rw[e]
  exact k
 ·have hd:decide ((t.length:Int)≤(s.length:Int))=false:=decide_eq_false (by omega)
  have e:t.isPrefixOf s=false:=by
   cases hh:t.isPrefixOf s with
   |false=>rfl
   |true=>exact absurd (List.isPrefixOf_iff_prefix.1 hh).length_le hle
  rw[e] at k
  rw[hd]
  refine eH (eH (eH (eH (eH (eH (dQ ?_))))))
  exact k
theorem c84 {n:Nat} {s t:Str} {h:aj} {K:aM} (k:K (.bool (t.isPrefixOf s)) h=true):au E (n+2) (.func 84) [.str s, .str t] h K=true:=by
 apply d84
 unfold s84
 exact c96 k
end Go.Proofs.YtibillhjmfbneaaGreatDoor
