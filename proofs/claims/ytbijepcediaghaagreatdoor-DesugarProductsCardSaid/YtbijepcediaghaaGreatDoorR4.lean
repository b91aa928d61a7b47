/-
  Texts that the claim hangs on, part 5.
-/
import Derived.Test.YtbijepcediaghaaGreatDoorR3
import Derived.Laws.Externs
import GoSem.Extern.MapsClone
import Derived.Lib.Builder
import Derived.ChangeSame
import Derived.Shelf.Strconv.ParseIntPublic10
import Derived.Test.YtbijepcediaghaaGreatDoorProg
import Derived.KernelRfl
import Derived.ChangeOld
set_option linter.unusedSimpArgs false
set_option linter.unusedVariables false
namespace Go.Ab
noncomputable section
abbrev Prim:=bg→Nat→List AV→ah→aK→Bool
def YG:List (Nat×Prim)→Nat→Option Prim
 | [],_=>none
 |(k,p) :: l,f=>bif Nat.beq k f then some p else YG l f
def agh (tbl:List (Nat×bV)) (ps:List (Nat×Prim)):Env:={code:=YP tbl,prim:=YG ps}
theorem EH {f:Nat} {p:Prim}:∀{l:List (Nat×Prim)},YG l f=some p→(f,p)∈l
 | [],h=>by cases h
 |(k,x) :: l,h=>by
  simp only[YG] at h;cases hb:Nat.beq k f with
  |true=>
   rw[hb,cond_true] at h;cases h;rw[Nat.eq_of_beq_eq_true hb];exact List.mem_cons_self
  |false=>
   rw[hb,cond_false] at h;exact List.mem_cons_of_mem _ (EH h)
def Ov (p:Prim):Prop:=∀(call call':bg) n args h (K K':aK),Le call call'→(∀v h',K v h'=true→K' v h'=true)→p call n args h K=true→p call' n args h K'=true
def xw:List (Nat×Prim)→Prop
 | []=>True
 |(_,p) :: l=>Ov p∧xw l
theorem xw.mem:∀{l:List (Nat×Prim)},xw l→∀k p,(k,p)∈l→Ov p
 | [],_,_,_,h=>by cases h
 |(k,q) :: l,⟨h1,h2⟩,k',p,h=>by
  rcases List.mem_cons.1 h with e |h
  ·cases e;exact h1
  ·exact xw.mem h2 k' p h
theorem YR {tbl:List (Nat×bV)} {ps:List (Nat×Prim)} (h:xw ps):J7 (agh tbl ps):=fun f p hp=>h.mem f p (EH hp)
def wZ (P:Program):List (Nat×Prim)→Prop
 | []=>True
 |(k,p) :: l=>BG P k p∧wZ P l
theorem wZ.mem {P:Program}:∀{l:List (Nat×Prim)},wZ P l→∀k p,(k,p)∈l→BG P k p
 | [],_,_,_,h=>by cases h
 |(k,q) :: l,⟨h1,h2⟩,k',p,h=>by
  rcases List.mem_cons.1 h with e |h
  ·cases e;exact h1
  ·exact wZ.mem h2 k' p h
theorem ZK {P:Program} {tbl:List (Nat×bV)} {ps:List (Nat×Prim)} (h:Ob P tbl) (hp:wZ P ps):Em P (agh tbl ps):=
 ⟨fun f p e=>hp.mem f p (EH e),fun f fn hf=>h.mem f fn (PL hf)⟩
def Ot:Prim:=fun _ _ args h K=>match args with
 | [.ptr a b c d]=>K (.ptr a b c d) h
 |_=>false
theorem Yo:Ov Ot:=by
 intro call call' n args h K K' _ hK s;unfold Ot at s ⊢;split at s
 ·exact hK _ _ s
 ·cases s
theorem Da {P:Program} {f:Nat} {fn:Func} {e:Array Value→Sem Value} {B:Base} {φ:dD} {w:World} {K:aK} {h:ah} {v:AV} {cv:Value} {args:List Value} (hf:P.funcs[f]? =some fn) (hname:(fn.name== "runtime.NumGoroutine")=false) (hb:fn.body.isNone=true) (hn:Extern.findNext fn=none) (he:Extern.find fn=some e)
 (hrun:(e ⟨args⟩).run P w= .ok cv w) (H:bR P B φ h w) (hv:bG φ v cv) (hK:K v h=true):qB P B φ w K ((callFunc f ⟨args⟩).run P w):=by
 rw[run_callFunc_extern hf hname hb hn he,hrun];exact .inl ⟨v,h,cv,φ,rfl,hK,hv,H,φ.le_refl,Gw.refl B w⟩
theorem acN {P:Program} {f:Nat} {fn:Func} (hf:P.funcs[f]? =some fn) (hname:(fn.name== "runtime.NumGoroutine")=false) (hb:fn.body.isNone=true) (hn:Extern.findNext fn=none) (he:Extern.find fn=some Extern.AbiNoEscape.same):BG P f Ot:=by
 intro call n _ args h K hK;unfold Ot at hK;split at hK
 ·rename_i a b c d;refine⟨fun v hv id e=> ?_,fun B φ w eX H hA=> ?_⟩
  ·simp only[List.mem_singleton] at hv;subst hv;cases e
  ·cases hA with
   |cons h1 h2=>
    cases h2;rename_i cv _;exact Da (v:= .ptr a b c d) hf hname hb hn he (Lib.run_noEscape w _) H h1 hK
 ·cases hK
def NM (c:Nat):List Nat→Nat→Int
 | [],_=> -1
 |b :: l,i=>bif Nat.beq b c then(i:Int) else NM c l (i+1)
def xB:Prim:=fun _ _ args h K=>match args with
 | [.str s, .int .u8 (.ofNat c)]=>bif Nat.blt c 256 then K (.int .i64 (NM c s 0)) h else false
 |_=>false
theorem Q5:Ov xB:=by
 intro call call' n args h K K' _ hK s;unfold xB at s ⊢;split at s
 ·rename_i s' c;cases hb:Nat.blt c 256 with
  |false=>rw[hb] at s;cases s
  |true=>rw[hb] at s;exact hK _ _ s
 ·cases s
theorem NZ {bs:List UInt8} {c:UInt8} {g:Nat→UInt8} (hg:∀j (h:j<bs.length),g j=bs[j]):∀(m i:Nat),m+i=bs.length→(match(List.range' i m).find? (fun j=>g j==c) with |some j=>(j:Int)|none=> -1)=NM c.toNat ((bs.drop i).map UInt8.toNat) i
 |0,i,h=>by
  rw[List.drop_of_length_le (by omega)];rfl
 |m+1,i,h=>by
  have hlt:i<bs.length:=by omega
  rw[List.range'_succ,List.find?_cons,List.drop_eq_getElem_cons hlt,List.map_cons,NM,hg i hlt];by_cases hc:bs[i]=c
  ·have:Nat.beq (bs[i]).toNat c.toNat=true:=by rw[hc];exact aG.2 rfl
   rw[this,cond_true];simp[hc]
  ·have:Nat.beq (bs[i]).toNat c.toNat=false:=dF.2 (fun e=>hc (UInt8.toNat_inj.1 e));have h2:(bs[i]==c)=false:=by simpa using hc
   rw[this,cond_false,h2];exact NZ hg m (i+1) (by omega)
theorem firstIdx_eq (bs:ByteArray) (c:UInt8):firstIdx bs c=NM c.toNat (bs.data.toList.map UInt8.toNat) 0:=by
 have hl:bs.data.toList.length=bs.size:=Array.length_toList;have:=NZ (bs:=bs.data.toList) (c:=c) (g:=fun j=>bs[j]!) (fun j h=>by
  have hj:j<bs.size:=by omega
  rw[getElem!_pos bs j hj];rfl) bs.size 0 (by omega)
 rw[List.drop_zero] at this;rw[←this];unfold firstIdx;rw[List.range_eq_range'];cases List.find? (fun i=>bs[i]! ==c) (List.range' 0 bs.size)<;>rfl
theorem VU {P:Program} {f:Nat} {fn:Func} (hf:P.funcs[f]? =some fn) (hname:(fn.name== "runtime.NumGoroutine")=false) (hb:fn.body.isNone=true) (hn:Extern.findNext fn=none) (he:Extern.find fn=some Extern.BytealgIndexByte.indexByte):BG P f xB:=by
 intro call n _ args h K hK;unfold xB at hK;split at hK
 ·rename_i s c;cases hc:Nat.blt c 256 with
  |false=>rw[hc] at hK;cases hK
  |true=>
   rw[hc,cond_true] at hK;refine have hc:=bC.1 hc;⟨fun v hv id e=> ?_,fun B φ w eX H hA=> ?_⟩
   ·simp only[List.mem_cons,List.not_mem_nil,or_false] at hv;rcases hv with rfl |rfl<;>cases e
   ·cases hA with
    |cons h1 h2=>
     cases h2 with
     |cons h2 h3=>
      cases h3;cases h1 with
      |str hs=>
       rename_i bs;cases h2;have hcc:(Int.ofNat c).toNat.toUInt8.toNat=c:=by
        show(UInt8.ofNat c).toNat=c;rw[UInt8.toNat_ofNat',Nat.mod_eq_of_lt hc]
       have he2:=firstIdx_eq bs (Int.ofNat c).toNat.toUInt8;rw[hcc,hs] at he2;refine Da (v:= .int .i64 (NM c s 0)) (cv:= .int .i64 (NM c s 0)) hf hname hb hn he ?_ H (.int _ _) hK;rw[←he2];exact run_indexByte_string bs (Int.ofNat c) w
 ·cases hK
end
noncomputable section
def afe:List (Nat×Sh)→PT Sh
 | []=> .lf
 |(k,s) :: l=>(afe l).set k s
def aez (E:Env):List (Nat×Sh)→Prop
 | []=>True
 |(k,s) :: l=>dB E k s∧aez E l
theorem Zb {E:Env}:∀{l:List (Nat×Sh)},aez E l→∀k s,(afe l).get k=some s→dB E k s
 | [],_,k,s,h=>by cases h
 |(j,t) :: l,⟨h1,h2⟩,k,s,h=>by
  simp only[afe,PT.get_set] at h;by_cases e:k=j
  ·rw[if_pos e] at h;cases h;subst e;exact h1
  ·rw[if_neg e] at h;exact Zb h2 k s h
section
variable {P:Program} {E:Env}
def Qm (b:Nat):ah:=ah.empty.push (.gvar b)
theorem aaK {W:World} {b:Nat} {te:TypeId} {pe:Value} (hc:W.cell? ⟨b,0,none⟩=some (.iface te pe)):
 ∃φ,bR P (.of W.heap.size) φ (Qm b) W:=by
 have hex:∃o,W.heap[b]? =some o∧∀ds,o≠ .deferred ds:=by
  cases e:W.heap[b]? with
  |none=>simp[World.cell?,e] at hc
  |some o=>exact⟨o,rfl,fun ds q=>by subst q;simp[World.cell?,e] at hc⟩
 have⟨o,ho,hnd⟩:=hex;have hlt:b<W.heap.size:=(Array.getElem?_eq_some_iff.1 ho).1;have hget:∀id o',(Qm b).get id=some o'→id=0∧o'= .gvar b:=by
  intro id o' e;unfold Qm at e;rw[ah.get_push] at e;by_cases hi:id=ah.empty.sz
  ·rw[if_pos hi] at e;cases e;exact⟨hi,rfl⟩
  ·rw[if_neg hi] at e;cases e
 let φ:dD:=fun a g=>if a=0∧g=0 then some ⟨b,0,0,0,0⟩ else none
 have hphi:∀a g L,φ a g=some L→a=0∧g=0∧L=⟨b,0,0,0,0⟩:=by
  intro a g L e;by_cases hi:a=0∧g=0
  ·simp only[φ,hi,and_self,if_true] at e;cases e;exact⟨hi.1,hi.2,rfl⟩
  ·simp only[φ,hi,if_false] at e;cases e
 refine⟨φ,Nat.le_refl _, ?_, ?_, ?_, ?_, ?_, ?_, ?_, ?_⟩
 ·intro id g L e;obtain⟨rfl,_,_⟩:=hphi _ _ _ e;exact Nat.lt_succ_self 0
 ·intro id h;have h:1≤id:=h;unfold Qm;rw[ah.get_push,if_neg (show id≠ah.empty.sz by show id≠0;omega)];rfl
 ·intro id o' e _;obtain⟨rfl,rfl⟩:=hget _ _ e;exact⟨⟨b,0,0,0,0⟩,te,pe,by simp[φ],rfl,hc⟩
 ·intro id g L e;obtain⟨_,_,rfl⟩:=hphi _ _ _ e;exact hlt
 ·intro id o' g L e e';obtain⟨_,rfl⟩:=hget _ _ e;obtain⟨_,_,rfl⟩:=hphi _ _ _ e';exact⟨fun q=>(by cases q),fun _=>hlt⟩
 ·intro id o' id' g g' L L' e q;obtain⟨_,rfl⟩:=hget _ _ e;cases q
 ·intro id g L e ds;obtain⟨_,_,rfl⟩:=hphi _ _ _ e;show W.heap[b]? ≠_;rw[ho];exact fun q=>hnd ds (Option.some.inj q)
 ·intro id o e;cases e
end
section
variable {P:Program} {E:Env}
end
section
open Go.ChangeShapes
theorem aax {H:Type} {enc:TypeId×Value→H} {P:Program} {f:Func} {s:ChangeSpec} {apart fresh handsOn again:Bool} {W W':World} {args:Array Value} {v:Value} {ds gs:List (DataW H)} {before pa pv:List MemPlace}
 (hW:DataW.Whole enc P f.params.toList s.vars apart W args.toList ds gs before)
 (hres:∀(b:Nat) (sp:Nat→Bool) (hd:Bool),DataW.TrodAll enc P W' b sp hd f.resultTypes.toList (v.resultList f.resultTypes.size) (s.fn H (ds++gs)).results [])
 (hargs:∀sp:Nat→Bool,(∀p∈before,sp p.block=true)→DataW.TrodAll enc P W' 0 sp true f.params.toList args.toList (s.fn H (ds++gs)).args pa)
 (hvars:∀sp:Nat→Bool,(∀p∈before,sp p.block=true)→DataW.TrodVars enc P W' sp s.vars (s.fn H (ds++gs)).vars pv)
 (hps:before=pa++pv) (hk:W.keptBut W' (· ∈before)) (hfz:∀a:Addr,a.block<W.heap.size→W'.frozen? a=W.frozen? a)
 (hok:∀(j:Nat) (t:TypeId) (r:Value),f.resultTypes[j]? =some t→(v.resultList f.resultTypes.size)[j]? =some r→Value.okWide P W' .any 0 t r):
 s.post enc P f apart fresh handsOn again W args v W':=by
 have hlt:=fun p hp=>hW.lt p hp;have hold:∀p∈before,(fun b=>decide (b<W.heap.size)) p.block=true:=fun p hp=>by simpa using hW.lt p hp
 refine⟨ds,gs,before,[],pa,pv,hW,hres _ _ _,hargs _ hold,hvars _ hold,World.keptBut_mono (fun p hp=>⟨hp, ?_⟩) hk,fun _=> ?_⟩
 ·rw[hps,List.mem_append] at hp;exact Or.inr hp
 ·obtain⟨_,_,_,_,_,hz,hn⟩:=hW;refine⟨hok,_,_,([]++pa)++pv,⟨[]++pa,pv,trodAll_append (hargs _ (fun _ _=>rfl)) (hres _ _ _),hvars _ (fun _ _=>rfl),rfl, ?_, ?_⟩, ?_⟩
  ·intro b off hp;have hm:MemPlace.cell b off∈before:=by rw[hps];simpa using hp
   rw[hfz ⟨b,off,none⟩ (hlt _ hm)];exact hz b off hm
  ·intro ha;have:=hn ha;rw[hps] at this;simpa using this
  ·intro p hp _;rw[hps];simpa using hp
end
end
noncomputable section
open Go.Shelf Go.RowKit Go.Lib
open Go.Proofs (LaysC.n174 Any.strconv_ParseInt_10_at64_ok Any.strconv_ParseInt_10_at64_range)
def pM:List Nat→Nat→Option (Option Nat)
 | [],a=>some (some a)
 |c :: l,a=>bif Nat.ble 48 c&&Nat.ble c 57 then
   (bif Nat.ble 1844674407370955162 a then some none else bif Nat.blt 18446744073709551615 (a*10+(c-48)) then some none else pM l (a*10+(c-48)))
  else none
def pU (l:List Nat):Option (Option Nat):=
 match l with
 | []=>none
 |l=>pM l 0
def pI (l:List Nat):Option (Option Int):=
 match l with
 | []=>none
 |c :: r=>match pU (bif Nat.beq c 43||Nat.beq c 45 then r else l) with
  |none=>none
  |some none=>some none
  |some (some u)=>bif Nat.beq c 45 then(bif Nat.blt 9223372036854775808 u then some none else some (some (-(u:Int)))) else bif Nat.ble 9223372036854775808 u then some none else some (some (.ofNat u))
def agN (l:List Nat):Int:=
 match l with
 | []=> .ofNat 9223372036854775807
 |c :: _=>bif Nat.beq c 45 then .negSucc 9223372036854775807 else .ofNat 9223372036854775807
def Says {α:Type} (o:Option (Option α)) (e:NumEnd α):Prop:=(∀v,o=some (some v)→e= .ok v)∧(o=some none→e= .range)
theorem aam:∀(l:List UInt8) (a:Nat),Says (pM (l.map UInt8.toNat) a) (parseUintM (2 ^ 64-1) a l)
 | [],a=>⟨fun v h=>by simp only[List.map_nil,pM,Option.some.injEq] at h;subst h;rfl,fun h=>by simp[pM] at h⟩
 |c :: l,a=>by
  have ih:=aam l (a*10+(c.toNat-48));have e1:(Nat.ble 48 c.toNat&&Nat.ble c.toNat 57)=decide (48≤c.toNat∧c.toNat≤57):=by
   rw[Bool.eq_iff_iff];simp only[Bool.and_eq_true,aI,decide_eq_true_eq]
  have e2:Nat.ble 1844674407370955162 a=decide (1844674407370955162≤a):=by rw[Bool.eq_iff_iff];simp only[aI,decide_eq_true_eq]
  have e3:Nat.blt 18446744073709551615 (a*10+(c.toNat-48))=decide (2 ^ 64-1<a*10+(c.toNat-48)):=by rw[Bool.eq_iff_iff];simp only[bC,decide_eq_true_eq]
  simp only[List.map_cons,pM,parseUintM,e1,e2,e3,Bool.cond_decide];split
  ·split
   ·exact⟨fun v h=>by simp at h,fun _=>rfl⟩
   ·split
    ·exact⟨fun v h=>by simp at h,fun _=>rfl⟩
    ·exact ih
  ·exact⟨fun v h=>by simp at h,fun h=>by simp at h⟩
theorem aeV (l:List UInt8):Says (pU (l.map UInt8.toNat)) (parseUintB 64 l):=by
 cases l with
 |nil=>exact⟨fun v h=>by simp[pU] at h,fun h=>by simp[pU] at h⟩
 |cons c l=>
  have:=aam (c :: l) 0;simp only[List.map_cons] at this;simpa only[List.map_cons,pU,parseUintB,reduceCtorEq,if_false] using this
theorem agy (l:List UInt8):Says (pI (l.map UInt8.toNat)) (parseIntB 64 l):=by
 cases l with
 |nil=>exact⟨fun v h=>by simp[pI] at h,fun h=>by simp[pI] at h⟩
 |cons c l=>
  have e0:(bif Nat.beq c.toNat 43||Nat.beq c.toNat 45 then l.map UInt8.toNat else c.toNat :: l.map UInt8.toNat)=(if c.toNat=43∨c.toNat=45 then l else c :: l).map UInt8.toNat:=by
   by_cases h1:c.toNat=43
   ·simp[h1]
   ·by_cases h2:c.toNat=45
    ·simp[h2]
    ·simp[h1,h2,dF.2 h1,dF.2 h2]
  have hu:=aeV (if c.toNat=43∨c.toNat=45 then l else c :: l)
  simp only[List.map_cons,pI,e0];have hp:parseIntB 64 (c :: l)=match parseUintB 64 (if c.toNat=43∨c.toNat=45 then l else c :: l) with
   | .ok u=>if ¬c.toNat=45∧2 ^ (64-1)≤u then .range else if c.toNat=45∧2 ^ (64-1)<u then .range else .ok (if c.toNat=45 then -(u:Int) else u)
   | .range=> .range
   |e=>(match e with | .ok u=> .ok u | .range=> .range |_=>parseIntB 64 (c :: l)):=by
   simp only[parseIntB];cases parseUintB 64 (if c.toNat=43∨c.toNat=45 then l else c :: l)<;>rfl
  rw[hp];cases h:pU ((if c.toNat=43∨c.toNat=45 then l else c :: l).map UInt8.toNat) with
  |none=>exact⟨fun v q=>(by simp at q),fun q=>(by simp at q)⟩
  |some o=>
   cases o with
   |none=>rw[hu.2 h];exact⟨fun v q=>(by simp at q),fun _=>rfl⟩
   |some u=>
    rw[hu.1 u h];by_cases h2:c.toNat=45
    ·have:Nat.beq c.toNat 45=true:=aG.2 h2;simp only[this,h2,cond_true,not_true_eq_false,false_and,if_false,true_and,if_true,aG.2];by_cases h3:9223372036854775808<u
     ·have e:Nat.blt 9223372036854775808 u=true:=bC.2 h3;have e':(2:Nat) ^ (64-1)<u:=h3;simp only[Nat.beq_refl,cond_true,e,if_pos e'];exact⟨fun v q=>(by simp at q),fun _=>rfl⟩
     ·have e:Nat.blt 9223372036854775808 u=false:=by rw[←Bool.not_eq_true,bC];exact h3
      have e':¬(2:Nat) ^ (64-1)<u:=h3;simp only[Nat.beq_refl,cond_true,e,cond_false,if_neg e'];exact⟨fun v q=>(by simp only[Option.some.injEq] at q;rw[q]),fun q=>(by simp at q)⟩
    ·have:Nat.beq c.toNat 45=false:=dF.2 h2;simp only[this,h2,cond_false,not_false_eq_true,true_and,false_and,if_false];by_cases h3:9223372036854775808≤u
     ·have e:Nat.ble 9223372036854775808 u=true:=aI.2 h3;have e':(2:Nat) ^ (64-1)≤u:=h3;simp only[e,cond_true,if_pos e'];exact⟨fun v q=>(by simp at q),fun _=>rfl⟩
     ·have e:Nat.ble 9223372036854775808 u=false:=by rw[←Bool.not_eq_true,aI];exact h3
      have e':¬(2:Nat) ^ (64-1)≤u:=h3;simp only[e,cond_false,if_neg e'];exact⟨fun v q=>(by simp only[Option.some.injEq] at q;rw[←q];rfl),fun q=>(by simp at q)⟩
theorem agt (l:List UInt8):agN (l.map UInt8.toNat)=intSat 64 l:=by
 cases l with
 |nil=>rfl
 |cons c l=>
  by_cases h2:c.toNat=45
  ·simp only[List.map_cons,agN,intSat,aG.2 h2,cond_true,List.head?_cons,Option.map_some,h2];rfl
  ·simp only[List.map_cons,agN,intSat,dF.2 h2,cond_false,List.head?_cons,Option.map_some,Option.some.injEq,h2,if_false];rfl
def IW (T G:Nat):Prim:=fun _ _ args h K=>match args with
 | [.str s, .int .i64 (.ofNat b), .int .i64 (.ofNat z)]=>bif Nat.beq b 10&&Nat.beq z 64&&Nat.ble s.length 1000000 then
     (match pI s with
     |some (some v)=>K (.tup [.int .i64 v, .iC]) h
     |some none=>(match h.get 0 with
      |some (.gvar g)=>bif Nat.beq g G then K (.tup [.int .i64 (agN s), .ifc T (.ptr h.sz 0 0 0)]) (h.push .gone) else false
      |_=>false)
     |none=>false)
   else false
 |_=>false
theorem Xh (T G:Nat):Ov (IW T G):=by
 intro call call' n args h K K' _ hK s;unfold IW at s ⊢;split at s
 ·rename_i s' b z;cases hb:(Nat.beq b 10&&Nat.beq z 64&&Nat.ble s'.length 1000000) with
  |false=>rw[hb] at s;cases s
  |true=>
   rw[hb,cond_true] at s;simp only[cond_true];split at s
   ·exact hK _ _ s
   ·split at s
    ·rename_i g hg;cases hc:Nat.beq g G with
     |false=>rw[hc] at s;cases s
     |true=>rw[hc] at s;exact hK _ _ s
    ·cases s
   ·cases s
 ·cases s
section
variable {P:Program} {ρ:Ren} {B:Base} {φ:dD} {h:ah} {w w':World}
theorem Gw.of_below (hB:B≤w.heap.size) (b:Below w.heap.size w w'):Gw B w w':=by
 have lt:∀{k:Nat} {o:Obj},w.heap[k]? =some o→k<w.heap.size:=fun e=>(Array.getElem?_eq_some_iff.1 e).1;exact⟨b.os,b.tape,b.output,b.size,fun k hk=>b.block k (by omega),fun k ds e=>(b.block k (lt e)).trans e,fun k r e=>⟨r,(b.block k (lt e)).trans e⟩⟩
theorem bR.of_below (H:bR P B φ h w) (b:Below w.heap.size w w'):bR P B φ h w':=H.keep b.size fun id g L hL=>b.block _ (H.lt id g L hL)
theorem bR.pushGone (H:bR P B φ h w) (b:Below w.heap.size w w') {N:Nat} (hN:w.heap.size≤N) {ob:Obj} (ho:w'.heap[N]? =some ob) (hnd:∀ds,ob≠ .deferred ds):
 φ.le (φ.add h.sz 0 ⟨N,0,0,1,0⟩)∧bR P B (φ.add h.sz 0 ⟨N,0,0,1,0⟩) (h.push .gone) w':=by
 have hle:φ.le (φ.add h.sz 0 ⟨N,0,0,1,0⟩):=dD.le_add _ (H.fresh 0);have hNlt:N<w'.heap.size:=(Array.getElem?_eq_some_iff.1 ho).1;have hB:=H.base;have hphi:∀a g K,φ.add h.sz 0 ⟨N,0,0,1,0⟩ a g=some K→(a=h.sz∧g=0∧K=⟨N,0,0,1,0⟩)∨(a<h.sz∧φ a g=some K):=by
  intro a g K e;by_cases hi:a=h.sz∧g=0
  ·obtain⟨rfl,rfl⟩:=hi;rw[dD.add_same] at e;cases e;exact .inl ⟨rfl,rfl,rfl⟩
  ·rw[dD.add_other _ _ hi] at e;exact .inr ⟨H.dom _ _ _ e,e⟩
 have hget:∀id o',(h.push .gone).get id=some o'→(id=h.sz∧o'= .gone)∨(id<h.sz∧h.get id=some o'):=by
  intro id o' e;rw[ah.get_push] at e;by_cases hi:id=h.sz
  ·rw[if_pos hi] at e;cases e;exact .inl ⟨hi,rfl⟩
  ·rw[if_neg hi] at e;refine .inr ⟨?_,e⟩;rcases Nat.lt_or_ge id h.sz with h1 |h1
   ·exact h1
   ·rw[H.gone id h1] at e;cases e
 refine⟨hle,Nat.le_trans H.base b.size,fun id g K e=> ?_,fun id hid=> ?_,fun id o' e hd=> ?_,fun id g K e=> ?_,fun id o' g K e e'=> ?_,fun id o' id' g g' K K' e hown' e1 e2 hblk=> ?_,fun id g K e ds=> ?_,fun id o' e=> ?_⟩
 ·rcases hphi _ _ _ e with⟨rfl,_,_⟩|⟨h1,_⟩<;>simp<;>omega
 ·simp at hid;rw[ah.get_push,if_neg (by omega)];exact H.gone id (by omega)
 ·rcases hget _ _ e with⟨rfl,rfl⟩|⟨h1,h2⟩
  ·trivial
  ·exact(H.objn id o' h2 hd).other hle (fun g=>dD.add_other _ _ (by omega)) (fun g K hK=>b.block _ (H.lt id g K hK))
 ·rcases hphi _ _ _ e with⟨_,_,rfl⟩|⟨_,h2⟩
  ·exact hNlt
  ·exact Nat.lt_of_lt_of_le (H.lt id g K h2) b.size
 ·rcases hphi _ _ _ e' with⟨rfl,_,rfl⟩|⟨h1,h2⟩
  ·rcases hget _ _ e with⟨_,rfl⟩|⟨h3,_⟩
   ·exact⟨fun _=>by show B.n≤N;omega,fun q=>by cases q⟩
   ·omega
  ·rcases hget _ _ e with⟨rfl,_⟩|⟨_,h3⟩
   ·omega
   ·exact H.own id o' g K h3 h2
 ·rcases hphi _ _ _ e1 with⟨rfl,_,rfl⟩|⟨h1,h2⟩
  ·rcases hphi _ _ _ e2 with⟨rfl,_,rfl⟩|⟨h3,h4⟩
   ·rfl
   ·have:=H.lt id' g' K' h4;have e:N=K'.blk:=hblk;omega
  ·rcases hphi _ _ _ e2 with⟨rfl,_,rfl⟩|⟨h3,h4⟩
   ·have:=H.lt id g K h2;have e:K.blk=N:=hblk;omega
   ·rcases hget _ _ e with⟨rfl,_⟩|⟨_,h5⟩
    ·omega
    ·exact H.disj id o' id' g g' K K' h5 hown' h2 h4 hblk
 ·rcases hphi _ _ _ e with⟨_,_,rfl⟩|⟨_,h2⟩
  ·show w'.heap[N]? ≠_;rw[ho];exact fun q=>hnd ds (Option.some.inj q)
  ·rw[b.block _ (H.lt id g K h2)];exact H.nodef id g K h2 ds
 ·have⟨h1,h2,h3,h4⟩:=H.ghost id o' e;exact have hlt:id≠h.sz:=(by omega);⟨fun u hu=>by rw[ah.get_push,if_neg hlt] at hu;exact h1 u hu,Nat.lt_succ_of_lt h2,fun g=>by rw[dD.add_other _ _ (by omega)];exact h3 g,h4⟩
theorem adT {f T G:Nat} (L:LaysC.n174 P ρ) (hf:ρ.f 174=f) (hT:ρ.t 168=T) (hG:ρ.g 16=G) (hmix:∀args w,(callFunc f args).run P w= .ok (.enter f args) w):BG P f (IW T G):=by
 intro call n _ args h K hK;subst hf;subst hT;subst hG;unfold IW at hK;split at hK
 rotate_left
 ·cases hK
 rename_i s b z;cases hb:(Nat.beq b 10&&Nat.beq z 64&&Nat.ble s.length 1000000) with
 |false=>rw[hb] at hK;cases hK
 |true=>
 rw[hb,cond_true] at hK;simp only[Bool.and_eq_true,aG,aI] at hb;obtain⟨⟨rfl,rfl⟩,hlen⟩:=hb;refine⟨fun v hv id e=> ?_,fun B φ w eX H hA=> ?_⟩
 ·simp only[List.mem_cons,List.not_mem_nil,or_false] at hv;rcases hv with rfl |rfl |rfl<;>cases e
 cases hA with
 |cons h1 h2=>
 cases h2 with
 |cons h2 h3=>
 cases h3 with
 |cons h3 h4=>
 cases h4;cases h2;cases h3;cases h1 with
 |str hs=>
 rename_i bs;have hsz:bs.size≤1000000:=by
  have:bs.size=bs.data.toList.length:=Array.length_toList.symm;rw[this, ←List.length_map (f:=UInt8.toNat),hs];exact hlen
 rw[←hs] at hK;have hsay:=agy bs.data.toList;show qB P B φ w K ((callFunc (ρ.f 174) ⟨[.string bs, .int .i64 10, .int .i64 64]⟩).run P w);rw[hmix];intro n;split at hK
 ·rename_i v hv;refine((callsIn_wide (n:=n)).2 (Any.strconv_ParseInt_10_at64_ok L bs (by omega) v (hsay.1 v hv) w)).mono ?_;rintro e w' ⟨rfl,hW⟩;have hb1:Below w.heap.size w w':=by
   rcases hW with rfl |⟨t,rfl⟩
   ·exact Below.refl _ _
   ·exact Lib.bytesWorld_below _ _ _
  exact .inl ⟨_,h,_,φ,rfl,hK, .tup (.cons (.int _ _) (.cons .iC .nil)),H.of_below hb1,φ.le_refl,Gw.of_below H.base hb1⟩
 ·rename_i hr;split at hK
  ·rename_i g hg;cases hc:Nat.beq g (ρ.g 16) with
   |false=>rw[hc] at hK;cases hK
   |true=>
   rw[hc,cond_true,agt] at hK;have hc:=aG.1 hc;subst hc;obtain⟨Lg,te,pe,_,_,hcell⟩:=H.objn 0 _ hg (by
    cases e:B.gh 0 with
    |none=>rfl
    |some o=>
     have⟨h1,_,_,h3⟩:=H.ghost 0 o e;rw[←h1 _ hg] at h3;cases h3)
   refine((callsIn_wide (n:=n)).2 (Any.strconv_ParseInt_10_at64_range L bs (by omega) (hsay.2 hr) (.iface te pe) w hcell (.inr ⟨te,pe,rfl⟩))).mono ?_;rintro e w' ⟨N,rfl,q1,q2,hb1⟩;exact have⟨p1,p2⟩:=H.pushGone hb1 q1 q2 (fun ds e=>by cases e);.inl ⟨_,_,_,_,rfl,hK, .tup (.cons (.int _ _) (.cons (.ifc (.ptr (dD.add_same _ _ _ _) (Nat.lt_succ_self 0))) .nil)),p2,p1,Gw.of_below H.base hb1⟩
  ·cases hK
 ·cases hK
end
end
noncomputable section
section
variable {call call':bg} {n M lp:Nat} {body r:cZ} {hd en:List Cut} {K:ow}
end
def zV:List AV→Bool
 | []=>true
 | .fn (.yield _) _ _ :: _=>false
 |_ :: l=>zV l
theorem La:∀{l:List AV},zV l=true→∀v∈l,∀id,v≠ .fn (.yield id) [] []
 | [],_,_,h,_=>by cases h
 |a :: l,h,v,hv,id=>by
  rcases List.mem_cons.1 hv with rfl |hv
  ·intro e;subst e;cases h
  ·refine La (l:=l) ?_ v hv id;unfold zV at h;split at h
   ·rename_i q;cases q
   ·cases h
   ·rename_i q;cases q;exact h
theorem Xr {P:Program} {E:Env} {call:bg} (hmix:P.follows .mixedOrders=true) (hE:Em P E) (hcall:nX P call) (m:Nat) {f:Nat} {fn:bV} (hf:E.code f=some fn) {args:List AV} {h:ah} {K:aK}
 (hK:runT call (uF E call m) m fn.body [] ⟨mK 0 args .lf,h⟩ (kT fn.res K)=true) {B:Base} {φ:dD} {w:World} {eX:List Value} (H:bR P B φ h w) (hA:bQ φ args eX):yH P B φ w K f args eX:=by
 have⟨F,hF,hc⟩:=hE.2 f fn hf;unfold xX at hc;split at hc
 ·cases hc
 ·rename_i c hbody;split at hc
  ·rename_i x res hx hres;cases hn:F.name== "runtime.NumGoroutine" with
   |true=>rw[hn] at hc;cases hc
   |false=>
    rw[hn,cond_false] at hc;have⟨np',res',body'⟩:=fn;simp only[aP,Option.some.injEq,bV.mk.injEq] at hc;obtain⟨e1,rfl,rfl⟩:=hc;simp only at hK;have hrun:(callFunc f ⟨eX⟩).run P w= .ok (.enter f ⟨eX⟩) w:=by
     have hn':F.name≠ "runtime.NumGoroutine" :=by simpa using hn
     simp[callFunc,Sem.run_bind,hF,hn',hbody]
    refine .inl ⟨hrun,fun n=> ?_⟩;refine callsIn_of_wp_marks hF hbody trivial ?_;have A:At P B F.ntmps φ ⟨mK 0 args .lf,h⟩ {tmps:=(⟨eX⟩:Array Value)++Array.replicate (F.ntmps-(⟨eX⟩:Array Value).size) undef,defers:=[]} w:=⟨Cj hA _,H⟩;refine LY (S:=w.heap.size) (w0:=w) (φ0:=φ) hmix hcall (Ml hmix hE hcall m) m (Nat.le_refl _) H.base (kT res K) ?_ body' c hx [] _ φ _ w A ⟨Nat.le_refl _, .nil,fun _=>rfl,fun l e=>by cases e⟩ φ.le_refl (Gw.refl B w) hK;intro φ' μ σ' a' u w' k1 k2 k3 k4 k5;cases k2 with
    |ret=>
     simp only[kT] at k1;split at k1
     ·rename_i vs hvs;exact have⟨cv,e1,e2⟩:=wh k3 hres hvs;⟨cv,e1, .inl ⟨oneOf vs,σ'.h,cv,φ',rfl,k1,e2,k3.heap,k4,k5⟩⟩
     ·cases k1
    |pan hv=>
     exact .inr ⟨_,σ'.h,_,φ',rfl,k1,hv,k3.heap,k4,k5⟩
  ·cases hc
mutual
def AV.flat:AV→Bool
 | .bool _ | .int _ _ | .str _ | .nilPtr | .au | .jH | .nilFn | .iC=>true
 | .agg l | .tup l=>JU l
 | .ifc _ v=>AV.flat v
 |_=>false
def JU:List AV→Bool
 | []=>true
 |v :: l=>AV.flat v&&JU l
end
mutual
theorem bG.flat {φ ψ:dD}:∀{a:AV} {v:Value},a.flat=true→bG φ a v→bG ψ a v
 |_,_,_, .bool b=> .bool b
 |_,_,_, .int k n=> .int k n
 |_,_,_, .str h=> .str h
 |_,_,h, .ptr _ _=>by cases h
 |_,_,_, .nilPtr=> .nilPtr
 |_,_,h, .slc _ _ _ _ _ _ _=>by cases h
 |_,_,_, .au=> .au
 |_,_,h, .emp=>by cases h
 |_,_,h, .map _=>by cases h
 |_,_,_, .jH=> .jH
 |_,_,h, .itr _=>by cases h
 |_,_,h, .func _ _=>by cases h
 |_,_,h, .yield _=>by cases h
 |_,_,_, .nilFn=> .nilFn
 |_,_,h, .agg k=> .agg (bQ.flat (by simpa[AV.flat] using h) k)
 |_,_,h, .tup k=> .tup (bQ.flat (by simpa[AV.flat] using h) k)
 |_,_,_, .iC=> .iC
 |_,_,h, .ifc k=> .ifc (bG.flat (by simpa[AV.flat] using h) k)
theorem bQ.flat {φ ψ:dD}:∀{l:List AV} {m:List Value},JU l=true→bQ φ l m→bQ ψ l m
 |_,_,_, .nil=> .nil
 |_,_,h, .cons k t=>by
  simp only[JU,Bool.and_eq_true] at h;exact .cons (bG.flat h.1 k) (bQ.flat h.2 t)
end
theorem Bg:∀{l:List AV},JU l=true→∀v∈l,∀id,v≠ .fn (.yield id) [] []
 | [],_,v,hv,_=>by cases hv
 |a :: l,h,v,hv,id=>by
  simp only[JU,Bool.and_eq_true] at h;rcases List.mem_cons.1 hv with rfl |hv
  ·intro e;subst e;have:=h.1;simp[AV.flat] at this
  ·exact Bg h.2 v hv id
theorem qB.imp {P:Program} {B B':Base} {φ φ':dD} {w:World} {K K':aK} (hK:∀e w',Ends P B φ w K e w'→Ends P B' φ' w K' e w') {r:Result Next} (L:qB P B φ w K r):qB P B' φ' w K' r:=by
 unfold qB at L ⊢;split at L<;>try(simp only)
 ·exact hK _ _ L
 ·exact hK _ _ L
 ·exact fun n=>(L n).mono fun _ _ E=>hK _ _ E
 ·exact fun n=>(L n).mono fun _ _ E=>hK _ _ E
 ·exact hK _ _ L
 ·cases L
def Oy (args:List AV):List (List AV×AV)→Option AV
 | []=>none
 |(a,v) :: l=>bif rT args a then some v else Oy args l
theorem MG {args:List AV} {v:AV}:∀{l:List (List AV×AV)},Oy args l=some v→(args,v)∈l
 | [],e=>by cases e
 |(a,u) :: l,e=>by
  unfold Oy at e;cases hb:rT args a with
  |true=>rw[hb,cond_true] at e;cases e;rw[uM _ _ hb];simp
  |false=>rw[hb,cond_false] at e;exact List.mem_cons_of_mem _ (MG e)
def Ph (E:Env) (fn:bV) (l:List (List AV×AV)):Prim:=fun call n args h K=>
 match Oy args l with
 |some v=>K v h
 |none=>bif zV args&&Nat.beq args.length fn.np then runT call (uF E call n) n fn.body [] ⟨mK 0 args .lf,h⟩ (kT fn.res K) else false
theorem Xb (E:Env) (fn:bV) (l:List (List AV×AV)):Ov (Ph E fn l):=by
 intro call call' n args h K K' hc hK s;unfold Ph at s ⊢;cases hp:Oy args l with
 |some o=>
  rw[hp] at s;exact hK _ _ s
 |none=>
  rw[hp] at s;simp only at s ⊢;cases hb:(zV args&&Nat.beq args.length fn.np) with
  |false=>rw[hb] at s;cases s
  |true=>
   rw[hb,cond_true] at s;rw[cond_true];exact Qy hc (PS hc n) s fun μ σ=>Nc hK
theorem abW {P:Program} {E:Env} (hmix:P.follows .mixedOrders=true) (hE:Em P E) {f:Nat} {fn:bV} (hf:E.code f=some fn) {l:List (List AV×AV)} (fuel:Nat) (hy:∀i∈l,JU i.1=true∧i.2.flat=true)
 (hrun:∀i∈l,ak E fuel (.func f) i.1 ah.empty (fun v _=>AV.same v i.2)=true):BG P f (Ph E fn l):=by
 intro call n hcall args h K hK;unfold Ph at hK;cases hp:Oy args l with
 |some v=>
  rw[hp] at hK;have hi:=MG hp;refine have⟨f1,f2⟩:=hy _ hi;⟨Bg f1,fun B φ w eX H hA=> ?_⟩
  refine(yH.lands (nK hmix hE fuel (.func f) args ah.empty _ (hrun _ hi) _ _ w eX (Xm w) (bQ.flat f1 hA))).imp fun e w' E=> ?_;rcases E with⟨u,h',cv,φ',e1,e2,e3,e4,e5,e6⟩|⟨u,h',cv,φ',e1,e2,e3,e4,e5,e6⟩
  ·rw[same_eq _ _ e2] at e3;refine .inl ⟨v,h,cv,φ,e1,hK,bG.flat f2 e3,H.keep e6.size fun id g L hL=>e6.below _ (H.lt id g L hL),φ.le_refl,⟨e6.os,e6.tape,e6.output,e6.size,fun k hk=>e6.below k (Nat.lt_of_lt_of_le hk H.base),e6.defd,e6.loops⟩⟩
  ·have:=same_eq _ _ e2;simp only at this;rw[←this] at f2;simp[AV.flat] at f2
 |none=>
  rw[hp] at hK;simp only at hK;cases hb:(zV args&&Nat.beq args.length fn.np) with
  |false=>rw[hb] at hK;cases hK
  |true=>
   rw[hb,cond_true] at hK;simp only[Bool.and_eq_true] at hb;exact⟨La hb.1,fun B φ w eX H hA=>yH.lands (Xr hmix hE hcall n hf hK H hA)⟩
end
end Go.Ab
namespace Go.Proofs.YtbijepcediaghaaGreatDoor
open Go.Ab
set_option maxRecDepth 100000
noncomputable def cf (f:Func):bV:=(xX Tryz.prog f).getD ⟨0,[], .skip⟩
noncomputable abbrev cp (f:Func):Option bV:=xX Tryz.prog f
@[irreducible] noncomputable def A3:bV:=cf Tryz.f3
@[irreducible] noncomputable def A4:bV:=cf Tryz.f4
@[irreducible] noncomputable def A5:bV:=cf Tryz.f5
@[irreducible] noncomputable def A7:bV:=cf Tryz.f7
@[irreducible] noncomputable def A8:bV:=cf Tryz.f8
@[irreducible] noncomputable def A9:bV:=cf Tryz.f9
@[irreducible] noncomputable def A10:bV:=cf Tryz.f10
@[irreducible] noncomputable def A12:bV:=cf Tryz.f12
@[irreducible] noncomputable def A13:bV:=cf Tryz.f13
@[irreducible] noncomputable def A14:bV:=cf Tryz.f14
@[irreducible] noncomputable def A15:bV:=cf Tryz.f15
@[irreducible] noncomputable def A16:bV:=cf Tryz.f16
@[irreducible] noncomputable def A17:bV:=cf Tryz.f17
@[irreducible] noncomputable def A18:bV:=cf Tryz.f18
@[irreducible] noncomputable def A19:bV:=cf Tryz.f19
@[irreducible] noncomputable def A20:bV:=cf Tryz.f20
@[irreducible] noncomputable def A21:bV:=cf Tryz.f21
@[irreducible] noncomputable def A22:bV:=cf Tryz.f22
@[irreducible] noncomputable def A23:bV:=cf Tryz.f23
@[irreducible] noncomputable def A24:bV:=cf Tryz.f24
@[irreducible] noncomputable def A25:bV:=cf Tryz.f25
@[irreducible] noncomputable def A26:bV:=cf Tryz.f26
@[irreducible] noncomputable def A27:bV:=cf Tryz.f27
@[irreducible] noncomputable def A28:bV:=cf Tryz.f28
@[irreducible] noncomputable def A29:bV:=cf Tryz.f29
@[irreducible] noncomputable def A30:bV:=cf Tryz.f30
@[irreducible] noncomputable def A31:bV:=cf Tryz.f31
@[irreducible] noncomputable def A32:bV:=cf Tryz.f32
@[irreducible] noncomputable def A33:bV:=cf Tryz.f33
@[irreducible] noncomputable def A34:bV:=cf Tryz.f34
@[irreducible] noncomputable def A36:bV:=cf Tryz.f36
@[irreducible] noncomputable def A37:bV:=cf Tryz.f37
@[irreducible] noncomputable def A38:bV:=cf Tryz.f38
@[irreducible] noncomputable def A39:bV:=cf Tryz.f39
@[irreducible] noncomputable def A40:bV:=cf Tryz.f40
@[irreducible] noncomputable def A41:bV:=cf Tryz.f41
@[irreducible] noncomputable def A42:bV:=cf Tryz.f42
@[irreducible] noncomputable def A43:bV:=cf Tryz.f43
@[irreducible] noncomputable def A44:bV:=cf Tryz.f44
@[irreducible] noncomputable def A45:bV:=cf Tryz.f45
@[irreducible] noncomputable def A46:bV:=cf Tryz.f46
@[irreducible] noncomputable def A47:bV:=cf Tryz.f47
@[irreducible] noncomputable def A48:bV:=cf Tryz.f48
@[irreducible] noncomputable def A51:bV:=cf Tryz.f51
@[irreducible] noncomputable def A52:bV:=cf Tryz.f52
@[irreducible] noncomputable def A53:bV:=cf Tryz.f53
@[irreducible] noncomputable def A54:bV:=cf Tryz.f54
@[irreducible] noncomputable def A55:bV:=cf Tryz.f55
@[irreducible] noncomputable def A56:bV:=cf Tryz.f56
@[irreducible] noncomputable def A57:bV:=cf Tryz.f57
@[irreducible] noncomputable def A58:bV:=cf Tryz.f58
@[irreducible] noncomputable def A59:bV:=cf Tryz.f59
@[irreducible] noncomputable def A60:bV:=cf Tryz.f60
@[irreducible] noncomputable def A61:bV:=cf Tryz.f61
@[irreducible] noncomputable def A62:bV:=cf Tryz.f62
@[irreducible] noncomputable def A63:bV:=cf Tryz.f63
@[irreducible] noncomputable def A64:bV:=cf Tryz.f64
@[irreducible] noncomputable def A65:bV:=cf Tryz.f65
@[irreducible] noncomputable def A66:bV:=cf Tryz.f66
@[irreducible] noncomputable def A67:bV:=cf Tryz.f67
@[irreducible] noncomputable def A68:bV:=cf Tryz.f68
@[irreducible] noncomputable def A69:bV:=cf Tryz.f69
@[irreducible] noncomputable def A70:bV:=cf Tryz.f70
@[irreducible] noncomputable def A71:bV:=cf Tryz.f71
@[irreducible] noncomputable def A72:bV:=cf Tryz.f72
@[irreducible] noncomputable def A73:bV:=cf Tryz.f73
@[irreducible] noncomputable def A74:bV:=cf Tryz.f74
@[irreducible] noncomputable def A75:bV:=cf Tryz.f75
@[irreducible] noncomputable def A77:bV:=cf Tryz.f77
@[irreducible] noncomputable def A78:bV:=cf Tryz.f78
@[irreducible] noncomputable def A79:bV:=cf Tryz.f79
@[irreducible] noncomputable def A80:bV:=cf Tryz.f80
@[irreducible] noncomputable def A81:bV:=cf Tryz.f81
@[irreducible] noncomputable def A82:bV:=cf Tryz.f82
@[irreducible] noncomputable def A85:bV:=cf Tryz.f85
@[irreducible] noncomputable def A86:bV:=cf Tryz.f86
@[irreducible] noncomputable def A87:bV:=cf Tryz.f87
@[irreducible] noncomputable def A88:bV:=cf Tryz.f88
@[irreducible] noncomputable def A89:bV:=cf Tryz.f89
@[irreducible] noncomputable def A90:bV:=cf Tryz.f90
@[irreducible] noncomputable def A91:bV:=cf Tryz.f91
@[irreducible] noncomputable def A92:bV:=cf Tryz.f92
@[irreducible] noncomputable def A93:bV:=cf Tryz.f93
@[irreducible] noncomputable def A94:bV:=cf Tryz.f94
@[irreducible] noncomputable def A95:bV:=cf Tryz.f95
@[irreducible] noncomputable def A96:bV:=cf Tryz.f96
@[irreducible] noncomputable def A97:bV:=cf Tryz.f97
@[irreducible] noncomputable def A98:bV:=cf Tryz.f98
@[irreducible] noncomputable def A99:bV:=cf Tryz.f99
@[irreducible] noncomputable def aiS:bV:=cf Tryz.f100
@[irreducible] noncomputable def ait:bV:=cf Tryz.f101
@[irreducible] noncomputable def aio:bV:=cf Tryz.f107
@[irreducible] noncomputable def ajy:bV:=cf Tryz.f108
@[irreducible] noncomputable def ahU:bV:=cf Tryz.f109
@[irreducible] noncomputable def ahK:bV:=cf Tryz.f110
@[irreducible] noncomputable def ah4:bV:=cf Tryz.f111
@[irreducible] noncomputable def ail:bV:=cf Tryz.f112
@[irreducible] noncomputable def ajd:bV:=cf Tryz.f113
@[irreducible] noncomputable def aiA:bV:=cf Tryz.f114
@[irreducible] noncomputable def ajF:bV:=cf Tryz.f115
@[irreducible] noncomputable def aif:bV:=cf Tryz.f121
@[irreducible] noncomputable def aiO:bV:=cf Tryz.f123
@[irreducible] noncomputable def aiN:bV:=cf Tryz.f124
@[irreducible] noncomputable def ajI:bV:=cf Tryz.f126
@[irreducible] noncomputable def ajx:bV:=cf Tryz.f129
@[irreducible] noncomputable def ajB:bV:=cf Tryz.f130
def C6:bV:={np:=1,res:=[(2,some (false,1)),(3,some (false,1))],body:= .seq (.reg [{dst:=some 2,op:=dW.alloc [AV.au],grd:=none},{dst:=some 3,op:=dW.alloc [AV.int (IntKind.i64) 0],grd:=none}]) (.seq (.reg [{dst:=some 6,op:=dW.mkfn 11 [] [bB.t 2,bB.t 3],grd:=none},{dst:=none,op:=dW.dfr (bB.t 6) [],grd:=none}]) (.seq (.reg [{dst:=some 7,op:=dW.mv (bB.t 0),grd:=none},{dst:=some 8,op:=dW.call (bB.c (AV.fn (NG.func 13) [] [])) [bB.t 7,bB.c (AV.int (IntKind.i64) 1)],grd:=none},{dst:=some 9,op:=dW.call (bB.c (AV.fn (NG.func 12) [] [])) [bB.t 8],grd:=none}]) (.seq (.seq (.reg [{dst:=some 10,op:=dW.mv (bB.t 0),grd:=none},{dst:=some 11,op:=dW.call (bB.c (AV.fn (NG.func 14) [] [])) [bB.t 10],grd:=none},{dst:=some 12,op:=dW.len 1 (bB.t 11),grd:=none},{dst:=some 13,op:=dW.mv (bB.c (AV.int (IntKind.i64) 0)),grd:=none}]) (.block 0 (.loop (.seq (.reg [{dst:=some 14,op:=dW.bin (BinOp.lss) (bB.t 13) (bB.t 12),grd:=none}]) (.seq (.cond (.t 14) (.skip) (.exit 0)) (.seq (.block 1 (.seq (.reg [{dst:=some 15,op:=dW.iadr 1 (bB.t 11) (bB.t 13),grd:=none},{dst:=some 16,op:=dW.load false 1 (bB.t 15),grd:=none},{dst:=some 5,op:=dW.mv (bB.t 16),grd:=none}]) (.dreg [{dst:=some 17,op:=dW.load false 1 (bB.t 2),grd:=none},{dst:=some 18,op:=dW.mv (bB.t 5),grd:=none}] [({dst:=some 19,op:=dW.call (bB.c (AV.fn (NG.func 15) [] [])) [bB.t 18],grd:=none},[{dst:=some 17,op:=dW.load false 1 (bB.t 2),grd:=none}],[]),({dst:=some 20,op:=dW.bslice 1 1 [AV.au] [(0,bB.t 19)],grd:=none},[{dst:=some 17,op:=dW.load false 1 (bB.t 2),grd:=none}],[]),({dst:=some 21,op:=dW.app 1 24 (bB.t 17) (bB.t 20),grd:=none},[],[]),({dst:=none,op:=dW.store 1 (bB.t 2) (bB.t 21),grd:=none},[],[])]))) (.reg [{dst:=some 22,op:=dW.bin (BinOp.add) (bB.t 13) (bB.c (AV.int (IntKind.i64) 1)),grd:=none},{dst:=some 13,op:=dW.mv (bB.t 22),grd:=none}]))))))) (.seq (.reg [{dst:=some 23,op:=dW.load false 1 (bB.t 2),grd:=none},{dst:=none,op:=dW.store 1 (bB.t 2) (bB.t 23),grd:=none},{dst:=none,op:=dW.store 1 (bB.t 3) (bB.c (AV.int (IntKind.i64) 0)),grd:=none}]) (.ret)))))}
theorem t6:cp Tryz.f6=some (aP C6):=by kernel_rfl
def C11:bV:={np:=2,res:=[],body:= .seq (.reg [{dst:=some 5,op:=dW.rcv,grd:=none},{dst:=some 2,op:=dW.mv (bB.t 5),grd:=none}]) (.seq (.reg [{dst:=some 6,op:=dW.mv (bB.t 2),grd:=none},{dst:=some 7,op:=dW.eq true (EqK.ifn) (bB.t 6) (bB.c (AV.iC)),grd:=none}]) (.cond (.t 7) (.seq (.seq (.reg [{dst:=some 9,op:=dW.mv (bB.t 2),grd:=none},{dst:=some 10,op:=dW.tas 57 true (AV.agg []) (bB.t 9),grd:=none},{dst:=some 8,op:=dW.mv (bB.t 10),grd:=none},{dst:=some 11,op:=dW.ext (bB.t 8) 0,grd:=none},{dst:=some 12,op:=dW.ext (bB.t 8) 1,grd:=none},{dst:=some 3,op:=dW.alloc [],grd:=none},{dst:=none,op:=dW.store 0 (bB.t 3) (bB.t 11),grd:=none},{dst:=some 4,op:=dW.mv (bB.t 12),grd:=none}]) (.seq (.reg [{dst:=some 13,op:=dW.mv (bB.t 4),grd:=none},{dst:=some 14,op:=dW.not (bB.t 13),grd:=none}]) (.cond (.t 14) (.reg [{dst:=some 15,op:=dW.mv (bB.t 2),grd:=none},{dst:=none,op:=dW.pnc (bB.t 15),grd:=none}]) (.skip)))) (.reg [{dst:=none,op:=dW.store 1 (bB.t 0) (bB.c (AV.au)),grd:=none},{dst:=none,op:=dW.store 1 (bB.t 1) (bB.c (AV.int (IntKind.i64) 1)),grd:=none}])) (.skip)))}
theorem t11:cp Tryz.f11=some (aP C11):=by kernel_rfl
def C35:bV:={np:=3,res:=[(6,some (false,1)),(7,some (false,1))],body:= .seq (.reg [{dst:=some 6,op:=dW.alloc [AV.int (IntKind.i64) 0],grd:=none},{dst:=some 7,op:=dW.alloc [AV.int (IntKind.i64) 0],grd:=none}]) (.seq (.reg [{dst:=some 9,op:=dW.mkfn 50 [] [bB.t 6,bB.t 7],grd:=none},{dst:=none,op:=dW.dfr (bB.t 9) [],grd:=none}]) (.seq (.reg [{dst:=some 10,op:=dW.mv (bB.t 0),grd:=none},{dst:=some 11,op:=dW.mv (bB.t 1),grd:=none},{dst:=some 12,op:=dW.call (bB.c (AV.fn (NG.func 51) [] [])) [],grd:=none},{dst:=some 13,op:=dW.build [AV.au,AV.int (IntKind.i64) 0,AV.int (IntKind.i64) 0,AV.int (IntKind.i64) 0,AV.jH] [(0,1,bB.t 10),(2,1,bB.t 11),(4,1,bB.t 12)],grd:=none},{dst:=some 14,op:=dW.box none 5 (bB.t 13),grd:=none},{dst:=some 8,op:=dW.mv (bB.t 14),grd:=none}]) (.seq (.reg [{dst:=some 15,op:=dW.mv (bB.t 2),grd:=none},{dst:=some 16,op:=dW.mv (bB.t 8),grd:=none},{dst:=some 17,op:=dW.call (bB.t 15) [bB.t 16],grd:=none}]) (.seq (.dreg [{dst:=some 18,op:=dW.mv (bB.t 8),grd:=none},{dst:=some 19,op:=dW.mv (bB.t 8),grd:=none},{dst:=some 20,op:=dW.nilck (bB.t 19),grd:=none},{dst:=some 21,op:=dW.fadr 1 (bB.t 20),grd:=none},{dst:=some 22,op:=dW.load false 1 (bB.t 21),grd:=none},{dst:=some 23,op:=dW.mv (bB.t 8),grd:=none},{dst:=some 24,op:=dW.nilck (bB.t 23),grd:=none},{dst:=some 25,op:=dW.fadr 0 (bB.t 24),grd:=none},{dst:=some 26,op:=dW.load false 1 (bB.t 25),grd:=none},{dst:=some 27,op:=dW.len 1 (bB.t 26),grd:=none},{dst:=some 28,op:=dW.bin (BinOp.eql) (bB.t 22) (bB.t 27),grd:=none}] [({dst:=some 29,op:=dW.call (bB.c (AV.fn (NG.func 52) [] [])) [bB.t 18,bB.t 28],grd:=none},[],[])]) (.seq (.reg [{dst:=none,op:=dW.store 1 (bB.t 6) (bB.c (AV.int (IntKind.i64) 0)),grd:=none},{dst:=none,op:=dW.store 1 (bB.t 7) (bB.c (AV.int (IntKind.i64) 0)),grd:=none}]) (.ret))))))}
theorem t35:cp Tryz.f35=some (aP C35):=by kernel_rfl
def C49:bV:={np:=1,res:=[(2,some (false,1)),(3,some (false,1)),(4,some (false,1))],body:= .seq (.reg [{dst:=some 2,op:=dW.alloc [AV.au],grd:=none},{dst:=some 3,op:=dW.alloc [AV.int (IntKind.i64) 0],grd:=none},{dst:=some 4,op:=dW.alloc [AV.int (IntKind.i64) 0],grd:=none}]) (.seq (.reg [{dst:=some 8,op:=dW.mv (bB.t 0),grd:=none},{dst:=some 9,op:=dW.build [AV.str [],AV.int (IntKind.i64) 0,AV.bool false] [(0,1,bB.t 8)],grd:=none},{dst:=some 10,op:=dW.box none 3 (bB.t 9),grd:=none},{dst:=some 5,op:=dW.mv (bB.t 10),grd:=none}]) (.seq (.reg [{dst:=some 6,op:=dW.alloc [AV.au],grd:=none}]) (.seq (.seq (.reg [{dst:=some 11,op:=dW.mv (bB.t 5),grd:=none},{dst:=some 12,op:=dW.call (bB.c (AV.fn (NG.func 68) [] [])) [bB.t 11],grd:=none}]) (.block 0 (.rf (.t 12) [13] (.reg [{dst:=some 7,op:=dW.alloc [AV.int (IntKind.i64) 0,AV.str [],AV.int (IntKind.i64) 0,AV.int (IntKind.i64) 0],grd:=none},{dst:=none,op:=dW.store 4 (bB.t 7) (bB.t 13),grd:=none}]) (.block 1 (.seq (.seq (.reg [{dst:=some 14,op:=dW.load false 1 (bB.t 6),grd:=none},{dst:=some 15,op:=dW.len 1 (bB.t 14),grd:=none},{dst:=some 16,op:=dW.bin (BinOp.geq) (bB.t 15) (bB.c (AV.int (IntKind.i64) 4096)),grd:=none}]) (.cond (.t 16) (.seq (.dreg [{dst:=some 17,op:=dW.fadr 2 (bB.t 7),grd:=none},{dst:=some 18,op:=dW.load false 1 (bB.t 17),grd:=none}] [({dst:=none,op:=dW.store 1 (bB.t 2) (bB.c (AV.au)),grd:=none},[{dst:=some 18,op:=dW.load false 1 (bB.t 17),grd:=none}],[]),({dst:=none,op:=dW.store 1 (bB.t 3) (bB.t 18),grd:=none},[],[]),({dst:=none,op:=dW.store 1 (bB.t 4) (bB.c (AV.int (IntKind.i64) 20)),grd:=none},[],[])]) (.ret)) (.skip))) (.reg [{dst:=some 19,op:=dW.load false 1 (bB.t 6),grd:=none},{dst:=some 20,op:=dW.load true 4 (bB.t 7),grd:=none},{dst:=some 21,op:=dW.bslice 1 4 [AV.int (IntKind.i64) 0,AV.str [],AV.int (IntKind.i64) 0,AV.int (IntKind.i64) 0] [(0,bB.t 20)],grd:=none},{dst:=some 22,op:=dW.app 4 40 (bB.t 19) (bB.t 21),grd:=none},{dst:=none,op:=dW.store 1 (bB.t 6) (bB.t 22),grd:=none}])))))) (.seq (.seq (.reg [{dst:=some 23,op:=dW.mv (bB.t 5),grd:=none},{dst:=some 24,op:=dW.nilck (bB.t 23),grd:=none},{dst:=some 25,op:=dW.fadr 2 (bB.t 24),grd:=none},{dst:=some 26,op:=dW.load false 1 (bB.t 25),grd:=none}]) (.cond (.t 26) (.seq (.dreg [{dst:=some 27,op:=dW.mv (bB.t 5),grd:=none},{dst:=some 28,op:=dW.nilck (bB.t 27),grd:=none},{dst:=some 29,op:=dW.fadr 1 (bB.t 28),grd:=none},{dst:=some 30,op:=dW.load false 1 (bB.t 29),grd:=none}] [({dst:=none,op:=dW.store 1 (bB.t 2) (bB.c (AV.au)),grd:=none},[{dst:=some 30,op:=dW.load false 1 (bB.t 29),grd:=none}],[]),({dst:=none,op:=dW.store 1 (bB.t 3) (bB.t 30),grd:=none},[],[]),({dst:=none,op:=dW.store 1 (bB.t 4) (bB.c (AV.int (IntKind.i64) 20)),grd:=none},[],[])]) (.ret)) (.skip))) (.seq (.reg [{dst:=some 31,op:=dW.load false 1 (bB.t 6),grd:=none},{dst:=none,op:=dW.store 1 (bB.t 2) (bB.t 31),grd:=none},{dst:=none,op:=dW.store 1 (bB.t 3) (bB.c (AV.int (IntKind.i64) 0)),grd:=none},{dst:=none,op:=dW.store 1 (bB.t 4) (bB.c (AV.int (IntKind.i64) 0)),grd:=none}]) (.ret))))))}
theorem t49:cp Tryz.f49=some (aP C49):=by kernel_rfl
def C50:bV:={np:=2,res:=[],body:= .seq (.reg [{dst:=some 5,op:=dW.rcv,grd:=none},{dst:=some 2,op:=dW.mv (bB.t 5),grd:=none}]) (.seq (.reg [{dst:=some 6,op:=dW.mv (bB.t 2),grd:=none},{dst:=some 7,op:=dW.eq true (EqK.ifn) (bB.t 6) (bB.c (AV.iC)),grd:=none}]) (.cond (.t 7) (.seq (.reg [{dst:=some 9,op:=dW.mv (bB.t 2),grd:=none},{dst:=some 10,op:=dW.tas 111 true (AV.agg [AV.int (IntKind.i64) 0]) (bB.t 9),grd:=none},{dst:=some 8,op:=dW.mv (bB.t 10),grd:=none},{dst:=some 11,op:=dW.ext (bB.t 8) 0,grd:=none},{dst:=some 12,op:=dW.ext (bB.t 8) 1,grd:=none},{dst:=some 3,op:=dW.alloc [AV.int (IntKind.i64) 0],grd:=none},{dst:=none,op:=dW.store 1 (bB.t 3) (bB.t 11),grd:=none},{dst:=some 4,op:=dW.mv (bB.t 12),grd:=none}]) (.seq (.seq (.reg [{dst:=some 13,op:=dW.mv (bB.t 4),grd:=none},{dst:=some 14,op:=dW.not (bB.t 13),grd:=none}]) (.cond (.t 14) (.reg [{dst:=some 15,op:=dW.mv (bB.t 2),grd:=none},{dst:=none,op:=dW.pnc (bB.t 15),grd:=none}]) (.skip))) (.reg [{dst:=some 16,op:=dW.fadr 0 (bB.t 3),grd:=none},{dst:=some 17,op:=dW.load false 1 (bB.t 16),grd:=none},{dst:=none,op:=dW.store 1 (bB.t 0) (bB.t 17),grd:=none},{dst:=none,op:=dW.store 1 (bB.t 1) (bB.c (AV.int (IntKind.i64) 20)),grd:=none}]))) (.skip)))}
theorem t50:cp Tryz.f50=some (aP C50):=by kernel_rfl
theorem t3:cp Tryz.f3=some (aP A3):=by kernel_rfl
theorem t4:cp Tryz.f4=some (aP A4):=by kernel_rfl
theorem t5:cp Tryz.f5=some (aP A5):=by kernel_rfl
theorem t7:cp Tryz.f7=some (aP A7):=by kernel_rfl
theorem t8:cp Tryz.f8=some (aP A8):=by kernel_rfl
theorem t9:cp Tryz.f9=some (aP A9):=by kernel_rfl
theorem t10:cp Tryz.f10=some (aP A10):=by kernel_rfl
theorem t12:cp Tryz.f12=some (aP A12):=by kernel_rfl
theorem t13:cp Tryz.f13=some (aP A13):=by kernel_rfl
theorem t14:cp Tryz.f14=some (aP A14):=by kernel_rfl
theorem t15:cp Tryz.f15=some (aP A15):=by kernel_rfl
theorem t16:cp Tryz.f16=some (aP A16):=by kernel_rfl
theorem t17:cp Tryz.f17=some (aP A17):=by kernel_rfl
theorem t18:cp Tryz.f18=some (aP A18):=by kernel_rfl
theorem t19:cp Tryz.f19=some (aP A19):=by kernel_rfl
theorem t20:cp Tryz.f20=some (aP A20):=by kernel_rfl
theorem t21:cp Tryz.f21=some (aP A21):=by kernel_rfl
theorem t22:cp Tryz.f22=some (aP A22):=by kernel_rfl
theorem t23:cp Tryz.f23=some (aP A23):=by kernel_rfl
theorem t24:cp Tryz.f24=some (aP A24):=by kernel_rfl
theorem t25:cp Tryz.f25=some (aP A25):=by kernel_rfl
theorem t26:cp Tryz.f26=some (aP A26):=by kernel_rfl
theorem t27:cp Tryz.f27=some (aP A27):=by kernel_rfl
theorem t28:cp Tryz.f28=some (aP A28):=by kernel_rfl
theorem t29:cp Tryz.f29=some (aP A29):=by kernel_rfl
theorem t30:cp Tryz.f30=some (aP A30):=by kernel_rfl
theorem t31:cp Tryz.f31=some (aP A31):=by kernel_rfl
theorem t32:cp Tryz.f32=some (aP A32):=by kernel_rfl
theorem t33:cp Tryz.f33=some (aP A33):=by kernel_rfl
theorem t34:cp Tryz.f34=some (aP A34):=by kernel_rfl
theorem t36:cp Tryz.f36=some (aP A36):=by kernel_rfl
theorem t37:cp Tryz.f37=some (aP A37):=by kernel_rfl
theorem t38:cp Tryz.f38=some (aP A38):=by kernel_rfl
theorem t39:cp Tryz.f39=some (aP A39):=by kernel_rfl
theorem t40:cp Tryz.f40=some (aP A40):=by kernel_rfl
theorem t41:cp Tryz.f41=some (aP A41):=by kernel_rfl
theorem t42:cp Tryz.f42=some (aP A42):=by kernel_rfl
theorem t43:cp Tryz.f43=some (aP A43):=by kernel_rfl
theorem t44:cp Tryz.f44=some (aP A44):=by kernel_rfl
theorem t45:cp Tryz.f45=some (aP A45):=by kernel_rfl
theorem t46:cp Tryz.f46=some (aP A46):=by kernel_rfl
theorem t47:cp Tryz.f47=some (aP A47):=by kernel_rfl
theorem t48:cp Tryz.f48=some (aP A48):=by kernel_rfl
theorem t51:cp Tryz.f51=some (aP A51):=by kernel_rfl
theorem t52:cp Tryz.f52=some (aP A52):=by kernel_rfl
theorem t53:cp Tryz.f53=some (aP A53):=by kernel_rfl
theorem t54:cp Tryz.f54=some (aP A54):=by kernel_rfl
theorem t55:cp Tryz.f55=some (aP A55):=by kernel_rfl
theorem t56:cp Tryz.f56=some (aP A56):=by kernel_rfl
theorem t57:cp Tryz.f57=some (aP A57):=by kernel_rfl
theorem t58:cp Tryz.f58=some (aP A58):=by kernel_rfl
theorem t59:cp Tryz.f59=some (aP A59):=by kernel_rfl
theorem t60:cp Tryz.f60=some (aP A60):=by kernel_rfl
theorem t61:cp Tryz.f61=some (aP A61):=by kernel_rfl
theorem t62:cp Tryz.f62=some (aP A62):=by kernel_rfl
theorem t63:cp Tryz.f63=some (aP A63):=by kernel_rfl
theorem t64:cp Tryz.f64=some (aP A64):=by kernel_rfl
theorem t65:cp Tryz.f65=some (aP A65):=by kernel_rfl
theorem t66:cp Tryz.f66=some (aP A66):=by kernel_rfl
theorem t67:cp Tryz.f67=some (aP A67):=by kernel_rfl
theorem t68:cp Tryz.f68=some (aP A68):=by kernel_rfl
theorem t69:cp Tryz.f69=some (aP A69):=by kernel_rfl
theorem t70:cp Tryz.f70=some (aP A70):=by kernel_rfl
theorem t71:cp Tryz.f71=some (aP A71):=by kernel_rfl
theorem t72:cp Tryz.f72=some (aP A72):=by kernel_rfl
theorem t73:cp Tryz.f73=some (aP A73):=by kernel_rfl
theorem t74:cp Tryz.f74=some (aP A74):=by kernel_rfl
theorem t75:cp Tryz.f75=some (aP A75):=by kernel_rfl
theorem t77:cp Tryz.f77=some (aP A77):=by kernel_rfl
theorem t78:cp Tryz.f78=some (aP A78):=by kernel_rfl
theorem t79:cp Tryz.f79=some (aP A79):=by kernel_rfl
theorem t80:cp Tryz.f80=some (aP A80):=by kernel_rfl
theorem t81:cp Tryz.f81=some (aP A81):=by kernel_rfl
theorem t82:cp Tryz.f82=some (aP A82):=by kernel_rfl
theorem t85:cp Tryz.f85=some (aP A85):=by kernel_rfl
theorem t86:cp Tryz.f86=some (aP A86):=by kernel_rfl
theorem t87:cp Tryz.f87=some (aP A87):=by kernel_rfl
theorem t88:cp Tryz.f88=some (aP A88):=by kernel_rfl
theorem t89:cp Tryz.f89=some (aP A89):=by kernel_rfl
theorem t90:cp Tryz.f90=some (aP A90):=by kernel_rfl
theorem t91:cp Tryz.f91=some (aP A91):=by kernel_rfl
theorem t92:cp Tryz.f92=some (aP A92):=by kernel_rfl
theorem t93:cp Tryz.f93=some (aP A93):=by kernel_rfl
theorem t94:cp Tryz.f94=some (aP A94):=by kernel_rfl
theorem t95:cp Tryz.f95=some (aP A95):=by kernel_rfl
theorem t96:cp Tryz.f96=some (aP A96):=by kernel_rfl
theorem t97:cp Tryz.f97=some (aP A97):=by kernel_rfl
theorem t98:cp Tryz.f98=some (aP A98):=by kernel_rfl
theorem t99:cp Tryz.f99=some (aP A99):=by kernel_rfl
theorem aoM:cp Tryz.f100=some (aP aiS):=by kernel_rfl
theorem anY:cp Tryz.f101=some (aP ait):=by kernel_rfl
theorem t107:cp Tryz.f107=some (aP aio):=by kernel_rfl
theorem anZ:cp Tryz.f108=some (aP ajy):=by kernel_rfl
theorem t109:cp Tryz.f109=some (aP ahU):=by kernel_rfl
theorem anc:cp Tryz.f110=some (aP ahK):=by kernel_rfl
theorem aoc:cp Tryz.f111=some (aP ah4):=by kernel_rfl
theorem aql:cp Tryz.f112=some (aP ail):=by kernel_rfl
theorem apC:cp Tryz.f113=some (aP ajd):=by kernel_rfl
theorem apZ:cp Tryz.f114=some (aP aiA):=by kernel_rfl
theorem aqS:cp Tryz.f115=some (aP ajF):=by kernel_rfl
theorem aoX:cp Tryz.f121=some (aP aif):=by kernel_rfl
theorem anz:cp Tryz.f123=some (aP aiO):=by kernel_rfl
theorem t124:cp Tryz.f124=some (aP aiN):=by kernel_rfl
theorem aoy:cp Tryz.f126=some (aP ajI):=by kernel_rfl
theorem am3:cp Tryz.f129=some (aP ajx):=by kernel_rfl
theorem t130:cp Tryz.f130=some (aP ajB):=by kernel_rfl
noncomputable def tbl:List (Nat×bV):=[(6,C6),(11,C11),(35,C35),(49,C49),(50,C50),(3,A3),(4,A4),(5,A5),(7,A7),(8,A8),(9,A9),(10,A10),(12,A12),(13,A13),(14,A14),(15,A15),(16,A16),(17,A17),(18,A18),(19,A19),(20,A20),(21,A21),(22,A22),(23,A23),(24,A24),(25,A25),(26,A26),(27,A27),(28,A28),(29,A29),(30,A30),(31,A31),(32,A32),(33,A33),(34,A34),(36,A36),(37,A37),(38,A38),(39,A39),(40,A40),(41,A41),(42,A42),(43,A43),(44,A44),(45,A45),(46,A46),(47,A47),(48,A48),(51,A51),(52,A52),(53,A53),(54,A54),(55,A55),(56,A56),(57,A57),(58,A58),(59,A59),(60,A60),(61,A61),(62,A62),(63,A63),(64,A64),(65,A65),(66,A66),(67,A67),(68,A68),(69,A69),(70,A70),(71,A71),(72,A72),(73,A73),(74,A74),(75,A75),(77,A77),(78,A78),(79,A79),(80,A80),(81,A81),(82,A82),(85,A85),(86,A86),(87,A87),(88,A88),(89,A89),(90,A90),(91,A91),(92,A92),(93,A93),(94,A94),(95,A95),(96,A96),(97,A97),(98,A98),(99,A99),(100,aiS),(101,ait),(107,aio),(108,ajy),(109,ahU),(110,ahK),(111,ah4),(112,ail),(113,ajd),(114,aiA),(115,ajF),(121,aif),(123,aiO),(124,aiN),(126,ajI),(129,ajx),(130,ajB)]
theorem ade:Ob Tryz.prog tbl:=⟨⟨_,Tryz.func6,t6⟩,⟨_,Tryz.func11,t11⟩,⟨_,Tryz.func35,t35⟩,⟨_,Tryz.func49,t49⟩,⟨_,Tryz.func50,t50⟩,⟨_,Tryz.func3,t3⟩,⟨_,Tryz.func4,t4⟩,⟨_,Tryz.func5,t5⟩,⟨_,Tryz.func7,t7⟩,⟨_,Tryz.func8,t8⟩,⟨_,Tryz.func9,t9⟩,⟨_,Tryz.func10,t10⟩,⟨_,Tryz.func12,t12⟩,⟨_,Tryz.func13,t13⟩,⟨_,Tryz.func14,t14⟩,⟨_,Tryz.func15,t15⟩,⟨_,Tryz.func16,t16⟩,⟨_,Tryz.func17,t17⟩,⟨_,Tryz.func18,t18⟩,⟨_,Tryz.func19,t19⟩,⟨_,Tryz.func20,t20⟩,⟨_,Tryz.func21,t21⟩,⟨_,Tryz.func22,t22⟩,⟨_,Tryz.func23,t23⟩,⟨_,Tryz.func24,t24⟩,⟨_,Tryz.func25,t25⟩,⟨_,Tryz.func26,t26⟩,⟨_,Tryz.func27,t27⟩,⟨_,Tryz.func28,t28⟩,⟨_,Tryz.func29,t29⟩,⟨_,Tryz.func30,t30⟩,⟨_,Tryz.func31,t31⟩,⟨_,Tryz.func32,t32⟩,⟨_,Tryz.func33,t33⟩,⟨_,Tryz.func34,t34⟩,⟨_,Tryz.func36,t36⟩,⟨_,Tryz.func37,t37⟩,⟨_,Tryz.func38,t38⟩,⟨_,Tryz.func39,t39⟩,⟨_,Tryz.func40,t40⟩,⟨_,Tryz.func41,t41⟩,⟨_,Tryz.func42,t42⟩,⟨_,Tryz.func43,t43⟩,⟨_,Tryz.func44,t44⟩,⟨_,Tryz.func45,t45⟩,⟨_,Tryz.func46,t46⟩,⟨_,Tryz.func47,t47⟩,⟨_,Tryz.func48,t48⟩,⟨_,Tryz.func51,t51⟩,⟨_,Tryz.func52,t52⟩,⟨_,Tryz.func53,t53⟩,⟨_,Tryz.func54,t54⟩,⟨_,Tryz.func55,t55⟩,⟨_,Tryz.func56,t56⟩,⟨_,Tryz.func57,t57⟩,⟨_,Tryz.func58,t58⟩,⟨_,Tryz.func59,t59⟩,⟨_,Tryz.func60,t60⟩,⟨_,Tryz.func61,t61⟩,⟨_,Tryz.func62,t62⟩,⟨_,Tryz.func63,t63⟩,⟨_,Tryz.func64,t64⟩,⟨_,Tryz.func65,t65⟩,⟨_,Tryz.func66,t66⟩,⟨_,Tryz.func67,t67⟩,⟨_,Tryz.func68,t68⟩,⟨_,Tryz.func69,t69⟩,⟨_,Tryz.func70,t70⟩,⟨_,Tryz.func71,t71⟩,⟨_,Tryz.func72,t72⟩,⟨_,Tryz.func73,t73⟩,⟨_,Tryz.func74,t74⟩,⟨_,Tryz.func75,t75⟩,⟨_,Tryz.func77,t77⟩,⟨_,Tryz.func78,t78⟩,⟨_,Tryz.func79,t79⟩,⟨_,Tryz.func80,t80⟩,⟨_,Tryz.func81,t81⟩,⟨_,Tryz.func82,t82⟩,⟨_,Tryz.func85,t85⟩,⟨_,Tryz.func86,t86⟩,⟨_,Tryz.func87,t87⟩,⟨_,Tryz.func88,t88⟩,⟨_,Tryz.func89,t89⟩,⟨_,Tryz.func90,t90⟩,⟨_,Tryz.func91,t91⟩,⟨_,Tryz.func92,t92⟩,⟨_,Tryz.func93,t93⟩,⟨_,Tryz.func94,t94⟩,⟨_,Tryz.func95,t95⟩,⟨_,Tryz.func96,t96⟩,⟨_,Tryz.func97,t97⟩,⟨_,Tryz.func98,t98⟩,⟨_,Tryz.func99,t99⟩,⟨_,Tryz.func100,aoM⟩,⟨_,Tryz.func101,anY⟩,⟨_,Tryz.func107,t107⟩,⟨_,Tryz.func108,anZ⟩,⟨_,Tryz.func109,t109⟩,⟨_,Tryz.func110,anc⟩,⟨_,Tryz.func111,aoc⟩,⟨_,Tryz.func112,aql⟩,⟨_,Tryz.func113,apC⟩,⟨_,Tryz.func114,apZ⟩,⟨_,Tryz.func115,aqS⟩,⟨_,Tryz.func121,aoX⟩,⟨_,Tryz.func123,anz⟩,⟨_,Tryz.func124,t124⟩,⟨_,Tryz.func126,aoy⟩,⟨_,Tryz.func129,am3⟩,⟨_,Tryz.func130,t130⟩,trivial⟩
noncomputable def Rp:List (Nat×Prim):=[(76,IW 171 1),(122,xB),(127,Ot)]
noncomputable def E0:Env:=agh tbl Rp
noncomputable def adn:List (Nat×Prim):=(9,Ph E0 A9 [([], .bool true)]) :: Rp
theorem PE:xw Rp:=⟨Xh _ _,Q5,Yo,trivial⟩
theorem ac7:xw adn:=⟨Xb _ _ _,PE⟩
noncomputable def E:Env:=agh tbl adn
set_option maxRecDepth 100000
abbrev TS:Type:=bg→Nat→aK→Sp
noncomputable def mkS (p r:Bt→Nat→Pv) (l:Bt→Nat→Nat→Pv):Sp:={pt:=p,fs:=fun _ _=>dz,rd:=r,lp:=l}
theorem jh {E:Env} {k np:Nat} {A:Ann} {fn:bV} {S:TS} {top:bg→Nat→aK→Pv} (h:(E.code k,E.prim k,fn.np,Cn fn.body,fun c n K=>(agO c n K (S c n K) (top c n K) A fn).map Prod.fst)=(some fn,none,np,true,fun c n K=>(agO c n K (S c n K) (top c n K) A fn).map Prod.snd)):dB E k (iK np top):=by
 simp only[Prod.mk.injEq] at h;exact ajJ h.1 h.2.1 h.2.2.1 h.2.2.2.1 h.2.2.2.2
noncomputable def T3:TS:=fun c n K=>mkS (fun β j=>bW j 13 (iV (adR c n (Nt (pB 0 β))) K) <| bW j 21 (iV (aeM c n (Nt (pB 0 β))) K) <| bW j 29 (oN (Yw c n (Nt (pB 0 β))) K) <| bW j 45 (Og (aaq c n (Nt (pB 0 β))) K) <| bW j 53 (Og (acT c n (Nt (pB 0 β))) K) <| bW j 78 (oN (YU c n (Nt (pB 0 β))) K) <| bW j 85 (iV (Ec c n (Nt (pB 0 β))) K) <| bW j 86 (pA0 (Y1 c n) K) <| bW j 26001 (Nv (Mr c n (Nt (pB 0 β))) K) <| bW j 26002 (Og (MK c n (Nt (pB 0 β))) K) <| bW j 31001 (Nv (MU c n (Nt (pB 0 β))) K) <| bW j 33001 (pA7 (MB c n (Nt (pB 0 β))) K) <| bW j 39001 (pA8 (ME c n (Nt (pB 0 β))) K) <| bW j 72001 (pA8 (K8 c n (Nt (pB 1 β)) (pF7 (pB 0 β))) K) <| bW j 72002 (pA9 (Mw c n (Nt (pB 1 β)) (pF7 (pB 0 β))) K) <| bW j 80001 (Nv (MJ c n (Nt (pB 0 β))) K) <| bW j 80002 (Nv (CZ c n (Nt (pB 0 β))) K) <| dz) (fun β j=>bW j 6 (iV (ae3 c n (Nt (pB 0 β))) K) <| bW j 57 (pA7 (Zd c n (Nt (pB 1 β)) (pF7 (pB 0 β))) K) <| dz) (fun β j m=>vI j 6 (pC2 (abx c n m) K) <| vI j 57 (pC7 (Tx c n (Nt (pB 0 β)) m) K) <| dz)
noncomputable def w3:Sh:=iK 1 fun c n K=>mh (s3 c n) K
theorem v3:dB E 3 w3:=jh (fn:=A3) (A:={pts:=[(13,[1,3]),(21,[1,3]),(29,[1,3,4,5]),(45,[1,3,4,6,8,11]),(53,[1,3,4,6,8,11]),(78,[1,3,4,6]),(85,[1,3]),(86,[])],lps:=[(6,[1,3]),(57,[1,3,4,6,8,11,13])],cuts:=[(25,[(2,26001,[1,3,4,5,57]),(2,26002,[1,3,4,5,57,59])]),(30,[(2,31001,[1,3,4,5,64])]),(32,[(2,33001,[1,3,4,5,6,7,69])]),(38,[(2,39001,[1,3,4,6,7,8,9,79])]),(71,[(6,72001,[1,3,4,6,8,11,13,128]),(7,72002,[1,3,4,6,8,11,13,130,135])]),(79,[(2,80001,[1,3,4,6,139]),(10,80002,[1,3,140,144,149])])]}) (S:=T3) (by kernel_rfl)
noncomputable def T4:TS:=fun c n K=>mkS (fun β j=>bW j 4001 (mh (DJ c n) K) <| dz) (fun β j=>dz) (fun β j m=>dz)
noncomputable def w4:Sh:=iK 1 fun c n K=>mh (s4 c n) K
theorem v4:dB E 4 w4:=jh (fn:=A4) (A:={pts:=[],lps:=[],cuts:=[(3,[(4,4001,[10])])]}) (S:=T4) (by kernel_rfl)
noncomputable def T5:TS:=fun c n K=>mkS (fun β j=>bW j 10 (iV (adq c n) K) <| bW j 23 (oN (acQ c n (zI (pB 0 β))) K) <| bW j 41 (oN (acD c n (zI (pB 0 β))) K) <| bW j 40001 (Og (MQ c n (zI (pB 1 β)) (pF5 (pB 0 β))) K) <| dz) (fun β j=>bW j 16 (oN (Yv c n (zI (pB 0 β))) K) <| bW j 30 (Nv (aap c n (zI (pB 1 β)) (pF5 (pB 0 β))) K) <| dz) (fun β j m=>vI j 16 (Y3 (O8 c n m) K) <| vI j 30 (pC5 (U0 c n (zI (pB 0 β)) m) K) <| dz)
noncomputable def w5:Sh:=iK 2 fun c n K=>iV (s5 c n) K
theorem v5:dB E 5 w5:=jh (fn:=A5) (A:={pts:=[(10,[0,1]),(23,[0,1,5,6]),(41,[0,1,5,6])],lps:=[(16,[0,1,5,6]),(30,[0,1,5,6,7])],cuts:=[(39,[(12,40001,[0,1,6,7,46,57])])]}) (S:=T5) (by kernel_rfl)
noncomputable def T7:TS:=fun c n K=>mkS (fun β j=>bW j 10 (iV (aea c n) K) <| dz) (fun β j=>bW j 14 (l8 (Zq c n (zN (pB 0 β))) K) <| dz) (fun β j m=>vI j 14 (pC3 (TJ c n m) K) <| dz)
noncomputable def w7:Sh:=iK 2 fun c n K=>iV (s7 c n) K
theorem v7:dB E 7 w7:=jh (fn:=A7) (A:={pts:=[(10,[0,1])],lps:=[(14,[0,1,5])]}) (S:=T7) (by kernel_rfl)
noncomputable def w8:Sh:=iK 1 fun c n K=>mh (s8 c n) K
theorem v8:dB E 8 w8:=jh (fn:=A8) (A:={pts:=[],lps:=[]}) (S:=Ey) (by kernel_rfl)
noncomputable def T9:TS:=fun c n K=>mkS (fun β j=>bW j 4001 (mh (aao c n) K) <| bW j 4002 (mh (YL c n) K) <| bW j 6001 (iV (aag c n) K) <| bW j 6002 (iV (Y5 c n) K) <| bW j 6003 (iV (Y8 c n) K) <| dz) (fun β j=>dz) (fun β j m=>dz)
noncomputable def w9:Sh:=iK 0 fun c n K=>pA0 (s9 c n) K
theorem v9:dB E0 9 w9:=jh (fn:=A9) (A:={pts:=[],lps:=[],cuts:=[(3,[(1,4001,[4]),(1,4002,[5])]),(5,[(28,6001,[31,35]),(3,6002,[37,38]),(1,6003,[37,39])])]}) (S:=T9) (by kernel_rfl)
noncomputable def T10:TS:=fun c n K=>mkS (fun β j=>bW j 6001 (l8 (zu c n) K) <| dz) (fun β j=>dz) (fun β j m=>dz)
noncomputable def w10:Sh:=iK 1 fun c n K=>mh (s10 c n) K
theorem v10:dB E 10 w10:=jh (fn:=A10) (A:={pts:=[],lps:=[],cuts:=[(5,[(3,6001,[2,5,11])])]}) (S:=T10) (by kernel_rfl)
noncomputable def w12:Sh:=iK 1 fun c n K=>mh (s12 c n) K
theorem v12:dB E 12 w12:=jh (fn:=A12) (A:={pts:=[],lps:=[]}) (S:=Ey) (by kernel_rfl)
noncomputable def T13:TS:=fun c n K=>mkS (fun β j=>bW j 12001 (mh (FI c n) K) <| dz) (fun β j=>dz) (fun β j m=>dz)
noncomputable def w13:Sh:=iK 2 fun c n K=>iV (s13 c n) K
theorem v13:dB E 13 w13:=jh (fn:=A13) (A:={pts:=[],lps:=[],cuts:=[(11,[(3,12001,[14])])]}) (S:=T13) (by kernel_rfl)
noncomputable def T14:TS:=fun c n K=>mkS (fun β j=>bW j 27 (mh (WT c n) K) <| dz) (fun β j=>bW j 10 (Nv (Qs c n (pF5 (pB 0 β))) K) <| dz) (fun β j m=>vI j 10 (pC5 (Na c n m) K) <| dz)
noncomputable def w14:Sh:=iK 1 fun c n K=>mh (s14 c n) K
theorem v14:dB E 14 w14:=jh (fn:=A14) (A:={pts:=[(27,[3])],lps:=[(10,[3,4,9,10,11])]}) (S:=T14) (by kernel_rfl)
noncomputable def T15:TS:=fun c n K=>mkS (fun β j=>bW j 20001 (Nv (ER c n (zI (pB 0 β))) K) <| dz) (fun β j=>bW j 8 (oN (Zl c n (zI (pB 0 β))) K) <| dz) (fun β j m=>vI j 8 (Y3 (UR c n m) K) <| dz)
noncomputable def w15:Sh:=iK 1 fun c n K=>mh (s15 c n) K
theorem v15:dB E 15 w15:=jh (fn:=A15) (A:={pts:=[],lps:=[(8,[3,6,7,8])],cuts:=[(19,[(3,20001,[6,7,8,12,14])])]}) (S:=T15) (by kernel_rfl)
noncomputable def T16:TS:=fun c n K=>mkS (fun β j=>bW j 10 (iV (Xd c n) K) <| bW j 31 (iV (SG c n) K) <| bW j 52 (iV (Qb c n) K) <| bW j 54001 (l8 (Gm c n) K) <| bW j 54002 (oN (Gv c n) K) <| bW j 54003 (oN (Hu c n) K) <| bW j 54004 (oN (FD c n) K) <| bW j 54005 (iV (FQ c n) K) <| dz) (fun β j=>bW j 14 (l8 (Sq c n (zN (pB 0 β))) K) <| bW j 35 (l8 (Q9 c n (zN (pB 0 β))) K) <| dz) (fun β j m=>vI j 14 (pC3 (Lr c n m) K) <| vI j 35 (pC3 (KG c n m) K) <| dz)
noncomputable def w16:Sh:=iK 2 fun c n K=>iV (s16 c n) K
theorem v16:dB E 16 w16:=jh (fn:=A16) (A:={pts:=[(10,[2,3]),(31,[2,3]),(52,[2,3])],lps:=[(14,[2,3,5]),(35,[2,3,6])],cuts:=[(53,[(5,54001,[2,3,116]),(6,54002,[2,3,117,122]),(7,54003,[2,3,124,129]),(7,54004,[2,3,131,136]),(7,54005,[138,143])])]}) (S:=T16) (by kernel_rfl)
noncomputable def T17:TS:=fun c n K=>mkS (fun β j=>bW j 13 (l8 (Yl c n (zN (pB 0 β))) K) <| bW j 25 (oN (Wo c n (zN (pB 0 β))) K) <| bW j 47 (l8 (Xy c n (zN (pB 0 β))) K) <| bW j 20001 (Og (wo c n (zN (pB 0 β))) K) <| bW j 20002 (Og (tJ c n (zN (pB 0 β))) K) <| bW j 41001 (pA7 (Fv c n (zN (pB 1 β)) (pF6 (pB 0 β))) K) <| dz) (fun β j=>bW j 6 (l8 (YO c n (zN (pB 0 β))) K) <| bW j 28 (Og (PV c n (zN (pB 1 β)) (pF6 (pB 0 β))) K) <| dz) (fun β j m=>vI j 6 (pC3 (Pe c n m) K) <| vI j 28 (pC6 (JK c n (zN (pB 0 β)) m) K) <| dz)
noncomputable def w17:Sh:=iK 1 fun c n K=>mh (s17 c n) K
theorem v17:dB E 17 w17:=jh (fn:=A17) (A:={pts:=[(13,[7,8,9]),(25,[4,7,8,9]),(47,[7,8,9])],lps:=[(6,[7,8,9]),(28,[7,8,9,34,35,36])],cuts:=[(19,[(12,20001,[4,7,8,9,21,24]),(6,20002,[4,7,8,9,27,30])]),(40,[(2,41001,[7,8,9,34,35,36,41])])]}) (S:=T17) (by kernel_rfl)
noncomputable def T18:TS:=fun c n K=>mkS (fun β j=>bW j 4001 (l8 (DF c n) K) <| bW j 14001 (mh (AL c n) K) <| dz) (fun β j=>dz) (fun β j m=>dz)
noncomputable def w18:Sh:=iK 2 fun c n K=>iV (s18 c n) K
theorem v18:dB E 18 w18:=jh (fn:=A18) (A:={pts:=[],lps:=[],cuts:=[(3,[(2,4001,[0,1,9])]),(13,[(5,14001,[21])])]}) (S:=T18) (by kernel_rfl)
noncomputable def T19:TS:=fun c n K=>mkS (fun β j=>bW j 1001 (iV (JO c n) K) <| dz) (fun β j=>dz) (fun β j m=>dz)
noncomputable def w19:Sh:=iK 2 fun c n K=>iV (s19 c n) K
theorem v19:dB E 19 w19:=jh (fn:=A19) (A:={pts:=[],lps:=[],cuts:=[(0,[(2,1001,[1,4])])]}) (S:=T19) (by kernel_rfl)
noncomputable def T20:TS:=fun c n K=>mkS (fun β j=>bW j 26 (iV (WY c n) K) <| dz) (fun β j=>bW j 6 (l8 (Za c n (zN (pB 0 β))) K) <| dz) (fun β j m=>vI j 6 (pC3 (VN c n m) K) <| dz)
noncomputable def w20:Sh:=iK 1 fun c n K=>mh (s20 c n) K
theorem v20:dB E 20 w20:=jh (fn:=A20) (A:={pts:=[(26,[2,3])],lps:=[(6,[0,2,3])]}) (S:=T20) (by kernel_rfl)
noncomputable def T21:TS:=fun c n K=>mkS (fun β j=>bW j 4001 (mh (Um c n) K) <| dz) (fun β j=>dz) (fun β j m=>dz)
noncomputable def w21:Sh:=iK 2 fun c n K=>iV (s21 c n) K
theorem v21:dB E 21 w21:=jh (fn:=A21) (A:={pts:=[],lps:=[],cuts:=[(3,[(3,4001,[7])])]}) (S:=T21) (by kernel_rfl)
noncomputable def T22:TS:=fun c n K=>mkS (fun β j=>bW j 4001 (l8 (Kl c n) K) <| bW j 4002 (oN (Dy c n) K) <| bW j 4003 (iV (DK c n) K) <| dz) (fun β j=>dz) (fun β j m=>dz)
noncomputable def w22:Sh:=iK 2 fun c n K=>iV (s22 c n) K
theorem v22:dB E 22 w22:=jh (fn:=A22) (A:={pts:=[],lps:=[],cuts:=[(3,[(5,4001,[1,2,8]),(7,4002,[1,2,10,15]),(7,4003,[18,22])])]}) (S:=T22) (by kernel_rfl)
noncomputable def T23:TS:=fun c n K=>mkS (fun β j=>bW j 4001 (mh (Uk c n) K) <| dz) (fun β j=>dz) (fun β j m=>dz)
noncomputable def w23:Sh:=iK 2 fun c n K=>iV (s23 c n) K
theorem v23:dB E 23 w23:=jh (fn:=A23) (A:={pts:=[],lps:=[],cuts:=[(3,[(3,4001,[7])])]}) (S:=T23) (by kernel_rfl)
noncomputable def T24:TS:=fun c n K=>mkS (fun β j=>bW j 4001 (mh (TK c n) K) <| dz) (fun β j=>dz) (fun β j m=>dz)
noncomputable def w24:Sh:=iK 2 fun c n K=>iV (s24 c n) K
theorem v24:dB E 24 w24:=jh (fn:=A24) (A:={pts:=[],lps:=[],cuts:=[(3,[(4,4001,[7])])]}) (S:=T24) (by kernel_rfl)
noncomputable def T25:TS:=fun c n K=>mkS (fun β j=>bW j 52 (mh (Wz c n) K) <| bW j 91 (mh (JF c n) K) <| bW j 11001 (mh (FU c n) K) <| bW j 11002 (mh (Gl c n) K) <| bW j 27001 (mh (EU c n) K) <| bW j 27002 (mh (Gg c n) K) <| bW j 33001 (iV (FM c n) K) <| bW j 38001 (l8 (Gn c n) K) <| bW j 51001 (Og (Gc c n (pF5 (pB 0 β))) K) <| bW j 51002 (Og (Gu c n (pF5 (pB 0 β))) K) <| bW j 85001 (Nv (ES c n (zI (pB 0 β))) K) <| dz) (fun β j=>bW j 39 (Nv (QI c n (pF5 (pB 0 β))) K) <| bW j 72 (oN (RO c n (zI (pB 0 β))) K) <| dz) (fun β j m=>vI j 39 (pC5 (Ld c n m) K) <| vI j 72 (Y3 (Mv c n m) K) <| dz)
noncomputable def w25:Sh:=iK 1 fun c n K=>mh (s25 c n) K
theorem v25:dB E 25 w25:=jh (fn:=A25) (A:={pts:=[(52,[5]),(91,[1])],lps:=[(39,[4,5,48,49,50]),(72,[9,80,81,82])],cuts:=[(10,[(3,11001,[18]),(1,11002,[19])]),(26,[(2,27001,[36]),(1,27002,[37])]),(32,[(3,33001,[1,44])]),(37,[(3,38001,[4,5,48])]),(50,[(4,51001,[4,48,49,50,54,57]),(1,51002,[4,48,49,50,54,58])]),(84,[(3,85001,[80,81,82,86,88])])]}) (S:=T25) (by kernel_rfl)
noncomputable def T26:TS:=fun c n K=>mkS (fun β j=>bW j 8 (Nv (ad8 c n) K) <| dz) (fun β j=>bW j 11 (pA7 (PX c n (pF7 (pB 0 β))) K) <| dz) (fun β j m=>vI j 11 (pC7 (Gr c n m) K) <| dz)
noncomputable def w26:Sh:=iK 5 fun c n K=>Nv (s26 c n) K
theorem v26:dB E 26 w26:=jh (fn:=A26) (A:={pts:=[(8,[0,1,2,3,4])],lps:=[(11,[0,1,2,4,20,21,22])]}) (S:=T26) (by kernel_rfl)
noncomputable def T27:TS:=fun c n K=>mkS (fun β j=>bW j 4001 (iV (Nj c n) K) <| dz) (fun β j=>dz) (fun β j m=>dz)
noncomputable def w27:Sh:=iK 2 fun c n K=>iV (s27 c n) K
theorem v27:dB E 27 w27:=jh (fn:=A27) (A:={pts:=[],lps:=[],cuts:=[(3,[(2,4001,[1,6])])]}) (S:=T27) (by kernel_rfl)
noncomputable def T28:TS:=fun c n K=>mkS (fun β j=>bW j 2001 (l8 (Li c n) K) <| dz) (fun β j=>dz) (fun β j m=>dz)
noncomputable def w28:Sh:=iK 2 fun c n K=>iV (s28 c n) K
theorem v28:dB E 28 w28:=jh (fn:=A28) (A:={pts:=[],lps:=[],cuts:=[(1,[(2,2001,[0,1,4])])]}) (S:=T28) (by kernel_rfl)
noncomputable def T29:TS:=fun c n K=>mkS (fun β j=>bW j 15 (oN (Yh c n (zI (pB 0 β))) K) <| bW j 37 (oN (VR c n (zI (pB 0 β))) K) <| bW j 36001 (pA8 (EJ c n (zI (pB 1 β)) (pF7 (pB 0 β))) K) <| dz) (fun β j=>bW j 8 (oN (Zg c n (zI (pB 0 β))) K) <| bW j 24 (pA7 (PO c n (zI (pB 1 β)) (pF7 (pB 0 β))) K) <| dz) (fun β j m=>vI j 8 (Y3 (Oq c n m) K) <| vI j 24 (pC7 (KX c n (zI (pB 0 β)) m) K) <| dz)
noncomputable def w29:Sh:=iK 1 fun c n K=>mh (s29 c n) K
theorem v29:dB E 29 w29:=jh (fn:=A29) (A:={pts:=[(15,[3,8,9,10]),(37,[3,8,9,10])],lps:=[(8,[3,8,9,10]),(24,[3,8,9,10,25,26,27])],cuts:=[(35,[(3,36001,[8,9,10,25,26,27,31,33])])]}) (S:=T29) (by kernel_rfl)
noncomputable def T30:TS:=fun c n K=>mkS (fun β j=>bW j 27 (l8 (Xx c n) K) <| bW j 44 (l8 (XT c n) K) <| bW j 61 (iV (Wq c n) K) <| dz) (fun β j=>bW j 14 (Og (Rv c n (pF6 (pB 0 β))) K) <| bW j 31 (Og (Qr c n (pF6 (pB 0 β))) K) <| bW j 48 (Nv (Qq c n (pF5 (pB 0 β))) K) <| dz) (fun β j m=>vI j 14 (pC6 (JV c n m) K) <| vI j 31 (pC6 (Np c n m) K) <| vI j 48 (pC5 (Mi c n m) K) <| dz)
noncomputable def w30:Sh:=iK 1 fun c n K=>mh (s30 c n) K
theorem v30:dB E 30 w30:=jh (fn:=A30) (A:={pts:=[(27,[1,2,3]),(44,[1,2,3]),(61,[2,3])],lps:=[(14,[1,2,3,31,32,33]),(31,[1,2,3,46,47,48]),(48,[2,3,65,66,67])]}) (S:=T30) (by kernel_rfl)
noncomputable def T31:TS:=fun c n K=>mkS (fun β j=>bW j 4001 (oN (LK c n) K) <| bW j 4002 (iV (L6 c n) K) <| dz) (fun β j=>dz) (fun β j m=>dz)
noncomputable def w31:Sh:=iK 2 fun c n K=>iV (s31 c n) K
theorem v31:dB E 31 w31:=jh (fn:=A31) (A:={pts:=[],lps:=[],cuts:=[(3,[(18,4001,[2,3,17,22]),(7,4002,[24,29])])]}) (S:=T31) (by kernel_rfl)
noncomputable def T32:TS:=fun c n K=>mkS (fun β j=>bW j 10 (iV (VW c n) K) <| dz) (fun β j=>bW j 14 (l8 (Rm c n (zN (pB 0 β))) K) <| dz) (fun β j m=>vI j 14 (pC3 (MW c n m) K) <| dz)
noncomputable def w32:Sh:=iK 2 fun c n K=>iV (s32 c n) K
theorem v32:dB E 32 w32:=jh (fn:=A32) (A:={pts:=[(10,[0,1])],lps:=[(14,[0,1,5])]}) (S:=T32) (by kernel_rfl)
noncomputable def T33:TS:=fun c n K=>mkS (fun β j=>bW j 10 (iV (V8 c n) K) <| dz) (fun β j=>bW j 14 (l8 (QY c n (zN (pB 0 β))) K) <| dz) (fun β j m=>vI j 14 (pC3 (JL c n m) K) <| dz)
noncomputable def w33:Sh:=iK 2 fun c n K=>iV (s33 c n) K
theorem v33:dB E 33 w33:=jh (fn:=A33) (A:={pts:=[(10,[0,1])],lps:=[(14,[0,1,5])]}) (S:=T33) (by kernel_rfl)
noncomputable def T34:TS:=fun c n K=>mkS (fun β j=>bW j 12001 (mh (Oc c n) K) <| dz) (fun β j=>dz) (fun β j m=>dz)
noncomputable def w34:Sh:=iK 1 fun c n K=>mh (s34 c n) K
theorem v34:dB E 34 w34:=jh (fn:=A34) (A:={pts:=[],lps:=[],cuts:=[(11,[(2,12001,[9])])]}) (S:=T34) (by kernel_rfl)
noncomputable def T36:TS:=fun c n K=>mkS (fun β j=>bW j 5001 (iV (KJ c n) K) <| dz) (fun β j=>dz) (fun β j m=>dz)
noncomputable def w36:Sh:=iK 2 fun c n K=>iV (s36 c n) K
theorem v36:dB E 36 w36:=jh (fn:=A36) (A:={pts:=[],lps:=[],cuts:=[(4,[(3,5001,[0,7])])]}) (S:=T36) (by kernel_rfl)
noncomputable def T37:TS:=fun c n K=>mkS (fun β j=>bW j 10 (l8 (LJ c n) K) <| bW j 27 (l8 (Rf c n) K) <| bW j 4001 (l8 (M4 c n) K) <| bW j 9001 (oN (Mg c n) K) <| bW j 20001 (Og (Ap c n (zI (pB 0 β))) K) <| bW j 20002 (Og (tK c n (zI (pB 0 β))) K) <| bW j 20003 (pA7 (tH c n (zI (pB 0 β))) K) <| dz) (fun β j=>bW j 16 (oN (RJ c n (zI (pB 0 β))) K) <| dz) (fun β j m=>vI j 16 (Y3 (Fw c n m) K) <| dz)
noncomputable def w37:Sh:=iK 1 fun c n K=>mh (s37 c n) K
theorem v37:dB E 37 w37:=jh (fn:=A37) (A:={pts:=[(10,[0,2,3]),(27,[0,2,3])],lps:=[(16,[0,2,3,4])],cuts:=[(3,[(2,4001,[0,2,6])]),(8,[(2,9001,[0,2,3,11])]),(19,[(4,20001,[0,2,3,4,16,18]),(8,20002,[0,2,3,21,24,26]),(3,20003,[0,2,3,21,24,27,29])])]}) (S:=T37) (by kernel_rfl)
noncomputable def T38:TS:=fun c n K=>mkS (fun β j=>bW j 34 (l8 (Wm c n) K) <| bW j 49 (iV (WR c n) K) <| bW j 4001 (l8 (Me c n) K) <| bW j 10001 (oN (Ay c n (zN (pB 0 β))) K) <| bW j 19001 (oN (GD c n (zN (pB 0 β))) K) <| bW j 23001 (oN (Fx c n (zN (pB 0 β))) K) <| bW j 27001 (oN (G8 c n (zN (pB 0 β))) K) <| bW j 36001 (oN (Fb c n) K) <| bW j 44001 (oN (zQ c n (zN (pB 0 β))) K) <| dz) (fun β j=>bW j 6 (l8 (Zn c n (zN (pB 0 β))) K) <| bW j 40 (l8 (RY c n (zN (pB 0 β))) K) <| dz) (fun β j m=>vI j 6 (pC3 (Tg c n m) K) <| vI j 40 (pC3 (MP c n m) K) <| dz)
noncomputable def w38:Sh:=iK 1 fun c n K=>mh (s38 c n) K
theorem v38:dB E 38 w38:=jh (fn:=A38) (A:={pts:=[(34,[0,2,3]),(49,[2,3])],lps:=[(6,[0,2,3]),(40,[0,2,3])],cuts:=[(3,[(2,4001,[0,2,5])]),(9,[(2,10001,[0,2,3,8])]),(18,[(2,19001,[0,2,3,18])]),(22,[(2,23001,[0,2,3,24])]),(26,[(2,27001,[0,2,3,30])]),(35,[(3,36001,[0,2,3,38])]),(43,[(2,44001,[0,2,3,44])])]}) (S:=T38) (by kernel_rfl)
noncomputable def T39:TS:=fun c n K=>mkS (fun β j=>bW j 15001 (Og (GN c n (zI (pB 0 β))) K) <| dz) (fun β j=>bW j 3 (oN (UL c n (zI (pB 0 β))) K) <| dz) (fun β j m=>vI j 3 (Y3 (Pg c n m) K) <| dz)
noncomputable def w39:Sh:=iK 2 fun c n K=>iV (s39 c n) K
theorem v39:dB E 39 w39:=jh (fn:=A39) (A:={pts:=[],lps:=[(3,[0,6,7,8])],cuts:=[(14,[(4,15001,[0,6,7,8,12,15])])]}) (S:=T39) (by kernel_rfl)
noncomputable def T40:TS:=fun c n K=>mkS (fun β j=>bW j 4001 (l8 (Nq c n) K) <| bW j 10001 (oN (Gz c n) K) <| dz) (fun β j=>dz) (fun β j m=>dz)
noncomputable def w40:Sh:=iK 1 fun c n K=>mh (s40 c n) K
theorem v40:dB E 40 w40:=jh (fn:=A40) (A:={pts:=[],lps:=[],cuts:=[(3,[(2,4001,[1,2,5])]),(9,[(3,10001,[1,2,3,14])])]}) (S:=T40) (by kernel_rfl)
noncomputable def T41:TS:=fun c n K=>mkS (fun β j=>dz) (fun β j=>bW j 6 (oN (Zm c n (zI (pB 0 β))) K) <| dz) (fun β j m=>vI j 6 (Y3 (U4 c n m) K) <| dz)
noncomputable def w41:Sh:=iK 2 fun c n K=>iV (s41 c n) K
theorem v41:dB E 41 w41:=jh (fn:=A41) (A:={pts:=[],lps:=[(6,[0,1,7,8])]}) (S:=T41) (by kernel_rfl)
noncomputable def T42:TS:=fun c n K=>mkS (fun β j=>dz) (fun β j=>bW j 6 (oN (YM c n (zI (pB 0 β))) K) <| dz) (fun β j m=>vI j 6 (Y3 (VL c n m) K) <| dz)
noncomputable def w42:Sh:=iK 2 fun c n K=>iV (s42 c n) K
theorem v42:dB E 42 w42:=jh (fn:=A42) (A:={pts:=[],lps:=[(6,[0,1,7,8])]}) (S:=T42) (by kernel_rfl)
noncomputable def T43:TS:=fun c n K=>mkS (fun β j=>bW j 20001 (Nv (EO c n (zI (pB 0 β))) K) <| dz) (fun β j=>bW j 8 (oN (YD c n (zI (pB 0 β))) K) <| dz) (fun β j m=>vI j 8 (Y3 (Vr c n m) K) <| dz)
noncomputable def w43:Sh:=iK 1 fun c n K=>mh (s43 c n) K
theorem v43:dB E 43 w43:=jh (fn:=A43) (A:={pts:=[],lps:=[(8,[3,6,7,8])],cuts:=[(19,[(3,20001,[6,7,8,12,14])])]}) (S:=T43) (by kernel_rfl)
noncomputable def w44:Sh:=iK 1 fun c n K=>mh (s44 c n) K
theorem v44:dB E 44 w44:=jh (fn:=A44) (A:={pts:=[],lps:=[]}) (S:=Ey) (by kernel_rfl)
noncomputable def w45:Sh:=iK 1 fun c n K=>mh (s45 c n) K
theorem v45:dB E 45 w45:=jh (fn:=A45) (A:={pts:=[],lps:=[]}) (S:=Ey) (by kernel_rfl)
noncomputable def w46:Sh:=iK 1 fun c n K=>mh (s46 c n) K
theorem v46:dB E 46 w46:=jh (fn:=A46) (A:={pts:=[],lps:=[]}) (S:=Ey) (by kernel_rfl)
noncomputable def T47:TS:=fun c n K=>mkS (fun β j=>bW j 23 (iV (XK c n) K) <| bW j 6001 (oN (Ms c n) K) <| dz) (fun β j=>bW j 10 (Nv (Qo c n (pF5 (pB 0 β))) K) <| dz) (fun β j m=>vI j 10 (pC5 (Nr c n m) K) <| dz)
noncomputable def w47:Sh:=iK 1 fun c n K=>mh (s47 c n) K
theorem v47:dB E 47 w47:=jh (fn:=A47) (A:={pts:=[(23,[1,2])],lps:=[(10,[1,2,13,14,15])],cuts:=[(5,[(3,6001,[1,2,3,10])])]}) (S:=T47) (by kernel_rfl)
noncomputable def T48:TS:=fun c n K=>mkS (fun β j=>bW j 4001 (iV (Ll c n) K) <| dz) (fun β j=>dz) (fun β j m=>dz)
noncomputable def w48:Sh:=iK 2 fun c n K=>iV (s48 c n) K
theorem v48:dB E 48 w48:=jh (fn:=A48) (A:={pts:=[],lps:=[],cuts:=[(3,[(32,4001,[31,36])])]}) (S:=T48) (by kernel_rfl)
noncomputable def w51:Sh:=iK 0 fun c n K=>pA0 (s51 c n) K
theorem v51:dB E 51 w51:=jh (fn:=A51) (A:={pts:=[],lps:=[]}) (S:=Ey) (by kernel_rfl)
noncomputable def T52:TS:=fun c n K=>mkS (fun β j=>bW j 4001 (mh (JW c n) K) <| dz) (fun β j=>dz) (fun β j m=>dz)
noncomputable def w52:Sh:=iK 2 fun c n K=>iV (s52 c n) K
theorem v52:dB E 52 w52:=jh (fn:=A52) (A:={pts:=[],lps:=[],cuts:=[(3,[(2,4001,[7])])]}) (S:=T52) (by kernel_rfl)
noncomputable def T53:TS:=fun c n K=>mkS (fun β j=>bW j 4001 (iV (KU c n) K) <| bW j 6001 (oN (uQ c n) K) <| dz) (fun β j=>dz) (fun β j m=>dz)
noncomputable def w53:Sh:=iK 3 fun c n K=>l8 (s53 c n) K
theorem v53:dB E 53 w53:=jh (fn:=A53) (A:={pts:=[],lps:=[],cuts:=[(3,[(3,4001,[2,10])]),(5,[(15,6001,[15,19,23,25])])]}) (S:=T53) (by kernel_rfl)
noncomputable def T54:TS:=fun c n K=>mkS (fun β j=>bW j 4001 (l8 (Km c n) K) <| bW j 4002 (oN (Eo c n) K) <| dz) (fun β j=>dz) (fun β j m=>dz)
noncomputable def w54:Sh:=iK 1 fun c n K=>mh (s54 c n) K
theorem v54:dB E 54 w54:=jh (fn:=A54) (A:={pts:=[],lps:=[],cuts:=[(3,[(3,4001,[0,3,5]),(3,4002,[0,3,6,8])])]}) (S:=T54) (by kernel_rfl)
noncomputable def w55:Sh:=iK 2 fun c n K=>iV (s55 c n) K
theorem v55:dB E 55 w55:=jh (fn:=A55) (A:={pts:=[],lps:=[]}) (S:=Ey) (by kernel_rfl)
noncomputable def T56:TS:=fun c n K=>mkS (fun β j=>bW j 4001 (mh (ML c n) K) <| bW j 6001 (iV (zw c n) K) <| dz) (fun β j=>dz) (fun β j m=>dz)
noncomputable def w56:Sh:=iK 2 fun c n K=>iV (s56 c n) K
theorem v56:dB E 56 w56:=jh (fn:=A56) (A:={pts:=[],lps:=[],cuts:=[(3,[(3,4001,[8])]),(5,[(7,6001,[12,15])])]}) (S:=T56) (by kernel_rfl)
noncomputable def T57:TS:=fun c n K=>mkS (fun β j=>bW j 31 (iV (vY c n) K) <| bW j 4001 (l8 (Lm c n) K) <| bW j 31001 (l8 (ET c n) K) <| dz) (fun β j=>dz) (fun β j m=>dz)
noncomputable def w57:Sh:=iK 1 fun c n K=>mh (s57 c n) K
theorem v57:dB E 57 w57:=jh (fn:=A57) (A:={pts:=[(31,[2,3])],lps:=[],cuts:=[(3,[(2,4001,[0,2,5])]),(30,[(2,31001,[2,3,14])])]}) (S:=T57) (by kernel_rfl)
noncomputable def w58:Sh:=iK 2 fun c n K=>iV (s58 c n) K
theorem v58:dB E 58 w58:=jh (fn:=A58) (A:={pts:=[],lps:=[]}) (S:=Ey) (by kernel_rfl)
noncomputable def T59:TS:=fun c n K=>mkS (fun β j=>bW j 4001 (l8 (JI c n) K) <| dz) (fun β j=>dz) (fun β j m=>dz)
noncomputable def w59:Sh:=iK 1 fun c n K=>mh (s59 c n) K
theorem v59:dB E 59 w59:=jh (fn:=A59) (A:={pts:=[],lps:=[],cuts:=[(3,[(3,4001,[0,3,5])])]}) (S:=T59) (by kernel_rfl)
noncomputable def T60:TS:=fun c n K=>mkS (fun β j=>bW j 6001 (oN (MF c n) K) <| bW j 8001 (l8 (M7 c n) K) <| bW j 8002 (l8 (DU c n) K) <| dz) (fun β j=>dz) (fun β j m=>dz)
noncomputable def w60:Sh:=iK 1 fun c n K=>mh (s60 c n) K
theorem v60:dB E 60 w60:=jh (fn:=A60) (A:={pts:=[],lps:=[],cuts:=[(5,[(3,6001,[0,3,8,10])]),(7,[(2,8001,[0,3,14]),(2,8002,[0,3,16])])]}) (S:=T60) (by kernel_rfl)
noncomputable def T61:TS:=fun c n K=>mkS (fun β j=>bW j 30 (l8 (Xw c n (zN (pB 0 β))) K) <| bW j 31001 (oN (G9 c n (zN (pB 0 β))) K) <| dz) (fun β j=>bW j 5 (l8 (Y2 c n (zN (pB 0 β))) K) <| bW j 11 (Og (KC c n (zN (pB 1 β)) (pF6 (pB 0 β))) K) <| dz) (fun β j m=>vI j 5 (pC3 (JM c n m) K) <| vI j 11 (pC6 (MS c n (zN (pB 0 β)) m) K) <| dz)
noncomputable def w61:Sh:=iK 2 fun c n K=>iV (s61 c n) K
theorem v61:dB E 61 w61:=jh (fn:=A61) (A:={pts:=[(30,[0,1,5])],lps:=[(5,[0,1,5]),(11,[0,1,5,8,9,10])],cuts:=[(30,[(3,31001,[0,1,19,21])])]}) (S:=T61) (by kernel_rfl)
noncomputable def T62:TS:=fun c n K=>mkS (fun β j=>bW j 12 (oN (KW c n) K) <| bW j 21 (l8 (Ko c n) K) <| bW j 45 (l8 (vW c n) K) <| bW j 18001 (oN (AA c n) K) <| bW j 23001 (oN (Fh c n) K) <| bW j 24001 (oN (GA c n) K) <| bW j 29001 (oN (Hw c n) K) <| bW j 30001 (oN (Gt c n) K) <| bW j 34001 (oN (GR c n) K) <| bW j 38001 (oN (HV c n) K) <| bW j 42001 (oN (EL c n) K) <| dz) (fun β j=>dz) (fun β j m=>dz)
noncomputable def w62:Sh:=iK 1 fun c n K=>mh (s62 c n) K
theorem v62:dB E 62 w62:=jh (fn:=A62) (A:={pts:=[(12,[0,2,3,8]),(21,[0,2,3]),(45,[0,2,3])],lps:=[],cuts:=[(17,[(2,18001,[0,2,3,15])]),(22,[(2,23001,[0,2,3,19])]),(23,[(2,24001,[0,2,3,22])]),(28,[(2,29001,[0,2,3,28])]),(29,[(2,30001,[0,2,3,32])]),(33,[(2,34001,[0,2,3,38])]),(37,[(2,38001,[0,2,3,45])]),(41,[(2,42001,[0,2,3,52])])]}) (S:=T62) (by kernel_rfl)
noncomputable def T63:TS:=fun c n K=>mkS (fun β j=>bW j 15 (iV (Qk c n) K) <| bW j 8001 (Og (Dt c n (zI (pB 0 β))) K) <| bW j 8002 (Og (wK c n (zI (pB 0 β))) K) <| dz) (fun β j=>bW j 4 (oN (ZL c n (zI (pB 0 β))) K) <| dz) (fun β j m=>vI j 4 (Y3 (NY c n m) K) <| dz)
noncomputable def w63:Sh:=iK 3 fun c n K=>l8 (s63 c n) K
theorem v63:dB E 63 w63:=jh (fn:=A63) (A:={pts:=[(15,[0,1])],lps:=[(4,[0,1,2,6])],cuts:=[(7,[(5,8001,[0,1,2,6,8,11]),(8,8002,[0,1,2,14,17,19])])]}) (S:=T63) (by kernel_rfl)
noncomputable def w64:Sh:=iK 2 fun c n K=>iV (s64 c n) K
theorem v64:dB E 64 w64:=jh (fn:=A64) (A:={pts:=[],lps:=[]}) (S:=Ey) (by kernel_rfl)
noncomputable def T65:TS:=fun c n K=>mkS (fun β j=>bW j 4001 (l8 (L9 c n) K) <| bW j 4002 (oN (Dx c n) K) <| dz) (fun β j=>dz) (fun β j m=>dz)
noncomputable def w65:Sh:=iK 1 fun c n K=>mh (s65 c n) K
theorem v65:dB E 65 w65:=jh (fn:=A65) (A:={pts:=[],lps:=[],cuts:=[(3,[(3,4001,[0,3,5]),(3,4002,[0,3,6,8])])]}) (S:=T65) (by kernel_rfl)
noncomputable def T66:TS:=fun c n K=>mkS (fun β j=>bW j 23 (iV (X4 c n) K) <| dz) (fun β j=>bW j 10 (Nv (Qj c n (pF5 (pB 0 β))) K) <| dz) (fun β j m=>vI j 10 (pC5 (KY c n m) K) <| dz)
noncomputable def w66:Sh:=iK 1 fun c n K=>mh (s66 c n) K
theorem v66:dB E 66 w66:=jh (fn:=A66) (A:={pts:=[(23,[1,2])],lps:=[(10,[1,2,9,10,11])]}) (S:=T66) (by kernel_rfl)
noncomputable def T67:TS:=fun c n K=>mkS (fun β j=>bW j 10 (iV (WO c n) K) <| dz) (fun β j=>bW j 14 (l8 (QE c n (zN (pB 0 β))) K) <| dz) (fun β j m=>vI j 14 (pC3 (Ng c n m) K) <| dz)
noncomputable def w67:Sh:=iK 2 fun c n K=>iV (s67 c n) K
theorem v67:dB E 67 w67:=jh (fn:=A67) (A:={pts:=[(10,[0,1])],lps:=[(14,[0,1,5])]}) (S:=T67) (by kernel_rfl)
noncomputable def w68:Sh:=iK 1 fun c n K=>mh (s68 c n) K
theorem v68:dB E 68 w68:=jh (fn:=A68) (A:={pts:=[],lps:=[]}) (S:=Ey) (by kernel_rfl)
noncomputable def w69:Sh:=iK 1 fun c n K=>mh (s69 c n) K
theorem v69:dB E 69 w69:=jh (fn:=A69) (A:={pts:=[],lps:=[]}) (S:=Ey) (by kernel_rfl)
noncomputable def w70:Sh:=iK 1 fun c n K=>mh (s70 c n) K
theorem v70:dB E 70 w70:=jh (fn:=A70) (A:={pts:=[],lps:=[]}) (S:=Ey) (by kernel_rfl)
noncomputable def w71:Sh:=iK 2 fun c n K=>iV (s71 c n) K
theorem v71:dB E 71 w71:=jh (fn:=A71) (A:={pts:=[],lps:=[]}) (S:=Ey) (by kernel_rfl)
noncomputable def T72:TS:=fun c n K=>mkS (fun β j=>bW j 156 (mh (dU c n) K) <| dz) (fun β j=>dz) (fun β j m=>dz)
noncomputable def w72:Sh:=iK 1 fun c n K=>mh (s72 c n) K
theorem v72:dB E 72 w72:=jh (fn:=A72) (A:={pts:=[(156,[4])],lps:=[]}) (S:=T72) (by kernel_rfl)
noncomputable def w73:Sh:=iK 1 fun c n K=>mh (s73 c n) K
theorem v73:dB E 73 w73:=jh (fn:=A73) (A:={pts:=[],lps:=[]}) (S:=Ey) (by kernel_rfl)
noncomputable def w74:Sh:=iK 2 fun c n K=>iV (s74 c n) K
theorem v74:dB E 74 w74:=jh (fn:=A74) (A:={pts:=[],lps:=[]}) (S:=Ey) (by kernel_rfl)
noncomputable def T75:TS:=fun c n K=>mkS (fun β j=>bW j 4001 (iV (Kh c n) K) <| dz) (fun β j=>dz) (fun β j m=>dz)
noncomputable def w75:Sh:=iK 2 fun c n K=>iV (s75 c n) K
theorem v75:dB E 75 w75:=jh (fn:=A75) (A:={pts:=[],lps:=[],cuts:=[(3,[(2,4001,[1,6])])]}) (S:=T75) (by kernel_rfl)
noncomputable def T77:TS:=fun c n K=>mkS (fun β j=>bW j 9001 (iV (LM c n) K) <| bW j 15001 (iV (Ho c n) K) <| bW j 23001 (l8 (EY c n) K) <| bW j 27001 (oN (Ht c n) K) <| bW j 37001 (iV (GY c n) K) <| bW j 45001 (l8 (GJ c n) K) <| bW j 55001 (iV (E9 c n) K) <| bW j 61001 (iV (Gs c n) K) <| bW j 64001 (l8 (Fp c n) K) <| bW j 64002 (oN (Am c n) K) <| bW j 67001 (l8 (Fa c n) K) <| bW j 71001 (l8 (He c n) K) <| bW j 77001 (iV (zT c n) K) <| dz) (fun β j=>dz) (fun β j m=>dz)
noncomputable def w77:Sh:=iK 1 fun c n K=>mh (s77 c n) K
theorem v77:dB E 77 w77:=jh (fn:=A77) (A:={pts:=[],lps:=[],cuts:=[(8,[(2,9001,[2,10])]),(14,[(2,15001,[2,16])]),(22,[(3,23001,[0,2,25])]),(26,[(3,27001,[0,2,3,32])]),(36,[(2,37001,[2,41])]),(44,[(2,45001,[0,2,48])]),(54,[(2,55001,[2,57])]),(60,[(2,61001,[2,62])]),(63,[(2,64001,[0,2,65]),(3,64002,[0,2,66,68])]),(66,[(2,67001,[0,2,72])]),(70,[(2,71001,[2,5,78])]),(76,[(2,77001,[2,82])])]}) (S:=T77) (by kernel_rfl)
noncomputable def T78:TS:=fun c n K=>mkS (fun β j=>bW j 12 (iV (Ni c n) K) <| dz) (fun β j=>dz) (fun β j m=>dz)
noncomputable def w78:Sh:=iK 2 fun c n K=>iV (s78 c n) K
theorem v78:dB E 78 w78:=jh (fn:=A78) (A:={pts:=[(12,[2,5])],lps:=[]}) (S:=T78) (by kernel_rfl)
noncomputable def T79:TS:=fun c n K=>mkS (fun β j=>bW j 4001 (iV (JZ c n) K) <| dz) (fun β j=>dz) (fun β j m=>dz)
noncomputable def w79:Sh:=iK 1 fun c n K=>mh (s79 c n) K
theorem v79:dB E 79 w79:=jh (fn:=A79) (A:={pts:=[],lps:=[],cuts:=[(3,[(2,4001,[2,4])])]}) (S:=T79) (by kernel_rfl)
noncomputable def T80:TS:=fun c n K=>mkS (fun β j=>bW j 13001 (l8 (Aw c n (Nt (pB 0 β))) K) <| bW j 27001 (l8 (Ak c n (Nt (pB 0 β))) K) <| dz) (fun β j=>bW j 1 (iV (acv c n (Nt (pB 0 β))) K) <| dz) (fun β j m=>vI j 1 (pC2 (aak c n m) K) <| dz)
noncomputable def w80:Sh:=iK 2 fun c n K=>iV (s80 c n) K
theorem v80:dB E 80 w80:=jh (fn:=A80) (A:={pts:=[],lps:=[(1,[0,1])],cuts:=[(12,[(2,13001,[0,1,19])]),(26,[(3,27001,[0,1,49])])]}) (S:=T80) (by kernel_rfl)
noncomputable def T81 (call:bg) (n:Nat) (K:aK):Sp:={
 pt:=fun β j=>bW j 23 (iV (Yf call n (pF1 (pB 0 β))) K) <| bW j 49 (iV (Kv call n (pF1 (pB 0 β))) K) <| bW j 14001 (l8 (OZ call n (pF1 (pB 0 β))) K) <| bW j 40001 (l8 (Gb call n (pF1 (pB 0 β))) K) <| dz
 fs:=fun β j=>bW j 0 (mh (ahg call n (pF1 (pB 0 β))) K) <| dz
 rd:=fun β j=>bW j 0 (mh (Ux call n (pF1 (pB 0 β))) K) <| dz
 lp:=fun β j m=>vI j 0 (pC1 (VD call n m) K) <| dz}
noncomputable def w81:Sh:=iK 1 fun c n K=>mh (s81 c n) K
theorem v81:dB E 81 w81:=jh (fn:=A81) (A:={pts:=[(23,[0,3]),(49,[0,3])],lps:=[(0,[0])],scs:=[(0,[0])],cuts:=[(13,[(5,14001,[0,31,33])]),(39,[(5,40001,[0,31,33])])]}) (S:=T81) (by kernel_rfl)
noncomputable def T82:TS:=fun c n K=>mkS (fun β j=>bW j 15001 (l8 (OH c n) K) <| bW j 27001 (l8 (OX c n) K) <| bW j 39001 (l8 (OQ c n) K) <| bW j 45001 (iV (Ah c n) K) <| bW j 53001 (l8 (OE c n) K) <| dz) (fun β j=>dz) (fun β j m=>dz)
noncomputable def w82:Sh:=iK 1 fun c n K=>mh (s82 c n) K
theorem v82:dB E 82 w82:=jh (fn:=A82) (A:={pts:=[],lps:=[],cuts:=[(14,[(3,15001,[2,3,18])]),(26,[(3,27001,[2,3,30])]),(38,[(3,39001,[2,3,42])]),(44,[(2,45001,[2,50])]),(52,[(3,53001,[2,3,60])])]}) (S:=T82) (by kernel_rfl)
noncomputable def w85:Sh:=iK 1 fun c n K=>mh (s85 c n) K
theorem v85:dB E 85 w85:=jh (fn:=A85) (A:={pts:=[],lps:=[]}) (S:=Ey) (by kernel_rfl)
noncomputable def T86:TS:=fun c n K=>mkS (fun β j=>bW j 4001 (l8 (JN c n) K) <| dz) (fun β j=>dz) (fun β j m=>dz)
noncomputable def w86:Sh:=iK 2 fun c n K=>iV (s86 c n) K
theorem v86:dB E 86 w86:=jh (fn:=A86) (A:={pts:=[],lps:=[],cuts:=[(3,[(2,4001,[0,1,7])])]}) (S:=T86) (by kernel_rfl)
noncomputable def T87:TS:=fun c n K=>mkS (fun β j=>bW j 25 (l8 (Sv c n) K) <| dz) (fun β j=>bW j 14 (oN (J9 c n (zI (pB 0 β))) K) <| dz) (fun β j m=>vI j 14 (Y3 (CQ c n m) K) <| dz)
noncomputable def w87:Sh:=iK 1 fun c n K=>mh (s87 c n) K
theorem v87:dB E 87 w87:=jh (fn:=A87) (A:={pts:=[(25,[0,2,3])],lps:=[(14,[0,2,3,4])]}) (S:=T87) (by kernel_rfl)
noncomputable def T88:TS:=fun c n K=>mkS (fun β j=>bW j 14 (l8 (KI c n) K) <| bW j 6001 (l8 (LC c n) K) <| bW j 14001 (oN (GL c n) K) <| bW j 18001 (oN (G5 c n) K) <| bW j 24001 (oN (Gp c n) K) <| dz) (fun β j=>dz) (fun β j m=>dz)
noncomputable def w88:Sh:=iK 1 fun c n K=>mh (s88 c n) K
theorem v88:dB E 88 w88:=jh (fn:=A88) (A:={pts:=[(14,[0,2,3])],lps:=[],cuts:=[(5,[(2,6001,[0,2,7])]),(13,[(2,14001,[0,2,3,16])]),(17,[(2,18001,[0,2,3,21])]),(23,[(3,24001,[0,2,3,30])])]}) (S:=T88) (by kernel_rfl)
noncomputable def T89:TS:=fun c n K=>mkS (fun β j=>bW j 4001 (l8 (Mx c n) K) <| dz) (fun β j=>dz) (fun β j m=>dz)
noncomputable def w89:Sh:=iK 1 fun c n K=>mh (s89 c n) K
theorem v89:dB E 89 w89:=jh (fn:=A89) (A:={pts:=[],lps:=[],cuts:=[(3,[(2,4001,[1,2,5])])]}) (S:=T89) (by kernel_rfl)
noncomputable def T90:TS:=fun c n K=>mkS (fun β j=>bW j 12 (l8 (K3 c n) K) <| bW j 10001 (oN (Gj c n) K) <| bW j 14001 (oN (Gy c n) K) <| dz) (fun β j=>dz) (fun β j m=>dz)
noncomputable def w90:Sh:=iK 1 fun c n K=>mh (s90 c n) K
theorem v90:dB E 90 w90:=jh (fn:=A90) (A:={pts:=[(12,[1,2,3])],lps:=[],cuts:=[(9,[(2,10001,[1,2,3,8])]),(13,[(2,14001,[1,2,3,14])])]}) (S:=T90) (by kernel_rfl)
noncomputable def T91:TS:=fun c n K=>mkS (fun β j=>bW j 2001 (l8 (KZ c n) K) <| bW j 6001 (l8 (J4 c n) K) <| dz) (fun β j=>dz) (fun β j m=>dz)
noncomputable def w91:Sh:=iK 2 fun c n K=>iV (s91 c n) K
theorem v91:dB E 91 w91:=jh (fn:=A91) (A:={pts:=[],lps:=[],cuts:=[(1,[(2,2001,[0,1,4])]),(5,[(2,6001,[1,2,10])])]}) (S:=T91) (by kernel_rfl)
noncomputable def T92:TS:=fun c n K=>mkS (fun β j=>bW j 10 (l8 (VY c n) K) <| bW j 8001 (iV (Nf c n) K) <| bW j 12001 (oN (GV c n) K) <| bW j 17001 (Nv (GH c n (zI (pB 0 β))) K) <| bW j 17002 (Og (Hy c n (zI (pB 0 β))) K) <| dz) (fun β j=>bW j 13 (oN (Rq c n (zI (pB 0 β))) K) <| dz) (fun β j m=>vI j 13 (Y3 (F8 c n m) K) <| dz)
noncomputable def w92:Sh:=iK 2 fun c n K=>iV (s92 c n) K
theorem v92:dB E 92 w92:=jh (fn:=A92) (A:={pts:=[(10,[0,1,4])],lps:=[(13,[0,1,4,5])],cuts:=[(7,[(2,8001,[4,13])]),(11,[(4,12001,[0,1,4,17])]),(16,[(2,17001,[0,1,4,5,19]),(2,17002,[0,1,4,5,19,21])])]}) (S:=T92) (by kernel_rfl)
noncomputable def w93:Sh:=iK 2 fun c n K=>iV (s93 c n) K
theorem v93:dB E 93 w93:=jh (fn:=A93) (A:={pts:=[],lps:=[]}) (S:=Ey) (by kernel_rfl)
noncomputable def w94:Sh:=iK 2 fun c n K=>iV (s94 c n) K
theorem v94:dB E 94 w94:=jh (fn:=A94) (A:={pts:=[],lps:=[]}) (S:=Ey) (by kernel_rfl)
noncomputable def w95:Sh:=iK 3 fun c n K=>l8 (s95 c n) K
theorem v95:dB E 95 w95:=jh (fn:=A95) (A:={pts:=[],lps:=[]}) (S:=Ey) (by kernel_rfl)
noncomputable def w96:Sh:=iK 1 fun c n K=>mh (s96 c n) K
theorem v96:dB E 96 w96:=jh (fn:=A96) (A:={pts:=[],lps:=[]}) (S:=Ey) (by kernel_rfl)
noncomputable def T97:TS:=fun c n K=>mkS (fun β j=>bW j 5001 (l8 (Ke c n) K) <| bW j 5002 (l8 (K7 c n) K) <| dz) (fun β j=>dz) (fun β j m=>dz)
noncomputable def w97:Sh:=iK 2 fun c n K=>iV (s97 c n) K
theorem v97:dB E 97 w97:=jh (fn:=A97) (A:={pts:=[],lps:=[],cuts:=[(4,[(3,5001,[0,1,7]),(1,5002,[0,1,8])])]}) (S:=T97) (by kernel_rfl)
noncomputable def w98:Sh:=iK 1 fun c n K=>mh (s98 c n) K
theorem v98:dB E 98 w98:=jh (fn:=A98) (A:={pts:=[],lps:=[]}) (S:=Ey) (by kernel_rfl)
noncomputable def T99:TS:=fun c n K=>mkS (fun β j=>dz) (fun β j=>bW j 6 (oN (acR c n (zI (pB 0 β))) K) <| dz) (fun β j m=>vI j 6 (Y3 (ZC c n m) K) <| dz)
noncomputable def w99:Sh:=iK 3 fun c n K=>l8 (s99 c n) K
theorem v99:dB E 99 w99:=jh (fn:=A99) (A:={pts:=[],lps:=[(6,[0,1,2,7])]}) (S:=T99) (by kernel_rfl)
noncomputable def aqs:TS:=fun c n K=>mkS (fun β j=>bW j 49 (l8 (Ev c n (zN (pB 0 β))) K) <| bW j 25001 (iV (Bz c n (zN (pB 0 β))) K) <| bW j 33001 (oN (BA c n (zN (pB 0 β))) K) <| dz) (fun β j=>bW j 8 (l8 (Ws c n (zN (pB 0 β))) K) <| dz) (fun β j m=>vI j 8 (pC3 (QF c n m) K) <| dz)
noncomputable def ahW:Sh:=iK 1 fun c n K=>mh (agP c n) K
theorem TV:dB E 100 ahW:=jh (fn:=aiS) (A:={pts:=[(49,[0,4,5])],lps:=[(8,[0,4,5])],cuts:=[(24,[(1,25001,[5,30])]),(32,[(3,33001,[0,4,5,40])])]}) (S:=aqs) (by kernel_rfl)
noncomputable def apF:TS:=fun c n K=>mkS (fun β j=>bW j 25 (mh (Qu c n) K) <| dz) (fun β j=>bW j 6 (oN (XE c n (zI (pB 0 β))) K) <| dz) (fun β j m=>vI j 6 (Y3 (SE c n m) K) <| dz)
noncomputable def ahX:Sh:=iK 1 fun c n K=>mh (afu c n) K
theorem abO:dB E 101 ahX:=jh (fn:=ait) (A:={pts:=[(25,[0])],lps:=[(6,[0,5,6,7])]}) (S:=apF) (by kernel_rfl)
noncomputable def am0:TS:=fun c n K=>mkS (fun β j=>bW j 2001 (l8 (G6 c n) K) <| bW j 2002 (oN (z8 c n) K) <| dz) (fun β j=>dz) (fun β j m=>dz)
noncomputable def aol:Sh:=iK 2 fun c n K=>iV (agQ c n) K
theorem v107:dB E 107 aol:=jh (fn:=aio) (A:={pts:=[],lps:=[],cuts:=[(1,[(2,2001,[0,1,3]),(3,2002,[0,1,4,6])])]}) (S:=am0) (by kernel_rfl)
noncomputable def aqI:TS:=fun c n K=>mkS (fun β j=>bW j 2001 (l8 (FP c n) K) <| bW j 2002 (oN (zX c n) K) <| dz) (fun β j=>dz) (fun β j m=>dz)
noncomputable def aqU:Sh:=iK 2 fun c n K=>iV (afv c n) K
theorem ads:dB E 108 aqU:=jh (fn:=ajy) (A:={pts:=[],lps:=[],cuts:=[(1,[(2,2001,[0,1,4]),(3,2002,[0,1,5,7])])]}) (S:=aqI) (by kernel_rfl)
noncomputable def aq8:TS:=fun c n K=>mkS (fun β j=>bW j 12 (oN (Es c n) K) <| bW j 15001 (Nv (uR c n) K) <| bW j 15002 (Og (tQ c n) K) <| bW j 18001 (iV (Cy c n) K) <| bW j 24001 (Nv (xY c n) K) <| bW j 28001 (iV (Cz c n) K) <| dz) (fun β j=>dz) (fun β j m=>dz)
noncomputable def apR:Sh:=iK 1 fun c n K=>mh (afS c n) K
theorem v109:dB E 109 apR:=jh (fn:=ahU) (A:={pts:=[(12,[0,2,3,4])],lps:=[],cuts:=[(14,[(2,15001,[0,2,3,4,11]),(4,15002,[0,2,3,4,13,15])]),(17,[(2,18001,[2,19])]),(23,[(2,24001,[0,2,3,4,24])]),(27,[(6,28001,[2,37])])]}) (S:=aq8) (by kernel_rfl)
noncomputable def anp:TS:=fun c n K=>mkS (fun β j=>bW j 23 (l8 (Qz c n) K) <| bW j 29 (iV (Jv c n) K) <| dz) (fun β j=>bW j 8 (Og (Lc c n (pF6 (pB 0 β))) K) <| dz) (fun β j m=>vI j 8 (pC6 (KV c n m) K) <| dz)
noncomputable def ani:Sh:=iK 3 fun c n K=>l8 (agE c n) K
theorem acf:dB E 110 ani:=jh (fn:=ahK) (A:={pts:=[(23,[0,6,7]),(29,[6,7])],lps:=[(8,[0,6,7,12,13,14])]}) (S:=anp) (by kernel_rfl)
noncomputable def aiC:Sh:=iK 2 fun c n K=>iV (afC c n) K
theorem abd:dB E 111 aiC:=jh (fn:=ah4) (A:={pts:=[],lps:=[]}) (S:=Ey) (by kernel_rfl)
noncomputable def aoZ:TS:=fun c n K=>mkS (fun β j=>bW j 4001 (iV (Ac c n) K) <| bW j 4002 (l8 (zZ c n) K) <| dz) (fun β j=>dz) (fun β j m=>dz)
noncomputable def ai3:Sh:=iK 1 fun c n K=>mh (agx c n) K
theorem XY:dB E 112 ai3:=jh (fn:=ail) (A:={pts:=[],lps:=[],cuts:=[(3,[(2,4001,[0,4]),(3,4002,[0,5,7])])]}) (S:=aoZ) (by kernel_rfl)
noncomputable def ajc:Sh:=iK 1 fun c n K=>mh (afs c n) K
theorem afn:dB E 113 ajc:=jh (fn:=ajd) (A:={pts:=[],lps:=[]}) (S:=Ey) (by kernel_rfl)
noncomputable def aiE:Sh:=iK 2 fun c n K=>iV (agf c n) K
theorem abA:dB E 114 aiE:=jh (fn:=aiA) (A:={pts:=[],lps:=[]}) (S:=Ey) (by kernel_rfl)
noncomputable def ajl:Sh:=iK 2 fun c n K=>iV (afA c n) K
theorem ND:dB E 115 ajl:=jh (fn:=ajF) (A:={pts:=[],lps:=[]}) (S:=Ey) (by kernel_rfl)
noncomputable def aoL:TS:=fun c n K=>mkS (fun β j=>bW j 4001 (l8 (FZ c n) K) <| bW j 12001 (Nv (xK c n (zN (pB 0 β))) K) <| dz) (fun β j=>bW j 5 (l8 (SF c n (zN (pB 0 β))) K) <| dz) (fun β j m=>vI j 5 (pC3 (FJ c n m) K) <| dz)
noncomputable def apn:Sh:=iK 1 fun c n K=>mh (agc c n) K
theorem aiZ:dB E 121 apn:=jh (fn:=aif) (A:={pts:=[],lps:=[(5,[0,2,3])],cuts:=[(3,[(2,4001,[0,2,6])]),(11,[(2,12001,[0,2,3,4,10])])]}) (S:=aoL) (by kernel_rfl)
noncomputable def aox:TS:=fun c n K=>mkS (fun β j=>bW j 4001 (iV (E5 c n) K) <| dz) (fun β j=>dz) (fun β j m=>dz)
noncomputable def ah6:Sh:=iK 1 fun c n K=>mh (aga c n) K
theorem agR:dB E 123 ah6:=jh (fn:=aiO) (A:={pts:=[],lps:=[],cuts:=[(3,[(4,4001,[7,10])])]}) (S:=aox) (by kernel_rfl)
noncomputable def ahM:Sh:=iK 2 fun c n K=>iV (ae0 c n) K
theorem v124:dB E 124 ahM:=jh (fn:=aiN) (A:={pts:=[],lps:=[]}) (S:=Ey) (by kernel_rfl)
noncomputable def apc:TS:=fun c n K=>mkS (fun β j=>bW j 30 (Nv (Au c n) K) <| bW j 11001 (l8 (wY c n) K) <| bW j 17001 (iV (BP c n) K) <| bW j 23001 (iV (Cg c n) K) <| bW j 23002 (iV (BX c n) K) <| bW j 33001 (iV (xC c n) K) <| bW j 39001 (iV (BQ c n) K) <| bW j 45001 (iV (Cc c n) K) <| bW j 53001 (l8 (CG c n) K) <| bW j 69001 (iV (CB c n) K) <| bW j 77001 (oN (BJ c n) K) <| bW j 81001 (iV (Ci c n) K) <| bW j 89001 (oN (Cr c n) K) <| bW j 93001 (Nv (Cv c n) K) <| bW j 97001 (iV (Cq c n) K) <| bW j 101001 (iV (yL c n) K) <| dz) (fun β j=>dz) (fun β j m=>dz)
noncomputable def anF:Sh:=iK 1 fun c n K=>mh (aeY c n) K
theorem aqz:dB E 126 anF:=jh (fn:=ajI) (A:={pts:=[(30,[1,2,3,4,48])],lps:=[],cuts:=[(10,[(3,11001,[1,2,23])]),(16,[(3,17001,[2,39])]),(22,[(2,23001,[2,45]),(2,23002,[2,47])]),(32,[(5,33001,[2,57])]),(38,[(2,39001,[2,62])]),(44,[(2,45001,[2,68])]),(52,[(2,53001,[1,2,77])]),(68,[(4,69001,[2,92])]),(76,[(2,77001,[1,2,3,99])]),(80,[(5,81001,[2,106])]),(88,[(2,89001,[1,2,3,113])]),(92,[(2,93001,[1,2,3,10,118])]),(96,[(6,97001,[2,126])]),(100,[(2,101001,[2,128])])]}) (S:=apc) (by kernel_rfl)
noncomputable def ap6:Sh:=iK 1 fun c n K=>mh (afP c n) K
theorem aqV:dB E 129 ap6:=jh (fn:=ajx) (A:={pts:=[],lps:=[]}) (S:=Ey) (by kernel_rfl)
noncomputable def anV:Sh:=iK 2 fun c n K=>iV (afz c n) K
theorem v130:dB E 130 anV:=jh (fn:=ajB) (A:={pts:=[],lps:=[]}) (S:=Ey) (by kernel_rfl)
end Go.Proofs.YtbijepcediaghaaGreatDoor
namespace Go.Ab
inductive vZ {α β:Type} (R:α→β→Prop):List α→List β→Prop
 |nil:vZ R [] []
 |cons {a:α} {b:β} {l:List α} {m:List β} (h:R a b) (t:vZ R l m):vZ R (a :: l) (b :: m)
theorem vZ.length {α β:Type} {R:α→β→Prop} {l:List α} {m:List β} (h:vZ R l m):l.length=m.length:=by
 induction h with
 |nil=>rfl
 |cons _ _ ih=>simp[ih]
theorem vZ.mono {α β:Type} {R S:α→β→Prop} (k:∀a b,R a b→S a b) {l:List α} {m:List β} (h:vZ R l m):vZ S l m:=by
 induction h with
 |nil=>exact .nil
 |cons h _ ih=>exact .cons (k _ _ h) ih
theorem vZ.append {α β:Type} {R:α→β→Prop} {l:List α} {m:List β} (h:vZ R l m) {l':List α} {m':List β} (h':vZ R l' m'):vZ R (l++l') (m++m'):=by
 induction h with
 |nil=>exact h'
 |cons h _ ih=>exact .cons h ih
mutual
def bulk {H:Type}:DataW H→Nat
 | .lit (.string bytes)=>bytes.length+1
 | .lit _=>1
 | .nil=>1
 | .ptr d=>bulk d+1
 | .slice elems spare=>sU elems+sU spare+1
 | .agg parts=>sU parts+1
 | .iface _ d=>bulk d+1
 | .map entries=>Iw entries+1
 | .held _=>1
def sU {H:Type}:List (DataW H)→Nat
 | []=>0
 |d :: r=>bulk d+sU r
def Iw {H:Type}:List (Lit×DataW H)→Nat
 | []=>0
 |x :: r=>aa1 x+Iw r
def aa1 {H:Type}:Lit×DataW H→Nat
 |(.string bytes,d)=>bytes.length+bulk d+1
 |(_,d)=>bulk d+1
end
def szL {α:Type} (sz:α→Nat):List α→Nat
 | []=>0
 |x :: l=>sz x+szL sz l
def Ext (h h':ah):Prop:=h.sz≤h'.sz∧∀id o,h.get id=some o→h'.get id=some o
theorem Ext.refl (h:ah):Ext h h:=⟨Nat.le_refl _,fun _ _ e=>e⟩
theorem Ext.trans {a b c:ah} (h:Ext a b) (k:Ext b c):Ext a c:=⟨Nat.le_trans h.1 k.1,fun id o e=>k.2 id o (h.2 id o e)⟩
theorem Ext.row {h h':ah} (e:Ext h h') {id:Nat} {r:Row} (hr:h.row id=some r):h'.row id=some r:=ah.row_some.2 (e.2 id _ (ah.row_some.1 hr))
section
variable {H:Type} {enc:TypeId×Value→H} {P:Program} {W:World} {held:Bool}
abbrev Rd (α:Type):=ah→List AV→α→Prop
def UQ {α:Type} (R:Rd α):Prop:=∀h h' a x,Ext h h'→R h a x→R h' a x
abbrev Dr (enc:TypeId×Value→H) (P:Program) (W:World) (held:Bool) {α:Type} (t:TypeId) (n:Nat) (sz:α→Nat) (R:Rd α) (fuel:Nat):Prop:=
 ∀(cs:List Value) (d:DataW H) (ps:List MemPlace),DataW.trod enc P W 0 (fun _=>true) held fuel t cs=some (d,ps)→∀φ h,bR P (.of W.heap.size) φ h W→
  (∀(W':World) (sp':Nat→Bool),(∀k:Nat,k<W.heap.size→W'.heap[k]? =W.heap[k]?)→(∀p∈ps,sp' p.block=true)→DataW.trod enc P W' 0 sp' held fuel t cs=some (d,ps))∧
  ∃φ' h' avs x,φ.le φ'∧Ext h h'∧bR P (.of W.heap.size) φ' h' W∧bQ φ' avs cs∧avs.length=n∧aB avs=true∧R h' avs x∧sz x≤bulk d
def In (enc:TypeId×Value→H) (P:Program) (W:World) (held:Bool) {α:Type} (t:TypeId) (n:Nat) (sz:α→Nat) (R:Rd α):Prop:=
 ∀(fuel:Nat),Dr enc P W held t n sz R fuel
theorem Dr.zero {α:Type} {t:TypeId} {n:Nat} {sz:α→Nat} {R:Rd α}:Dr enc P W held t n sz R 0:=by
 intro cs d ps ht;simp[DataW.trod] at ht
def XP:Rd (List Nat):=fun _ a s=>a=[.str s]∧∀b∈s,b<256
theorem In.str {t:TypeId} (hu:P.underlying t=some .string):In enc P W held t 1 (fun s:List Nat=>s.length+1) XP:=by
 intro fuel cs d ps ht φ h HH;cases fuel with
 |zero=>simp[DataW.trod] at ht
 |succ fuel=>
  unfold DataW.trod at ht;rw[hu] at ht;split at ht<;>simp only[reduceCtorEq,Option.some.injEq] at * <;>try(cases ht;done)
  rename_i s h1;split at ht
  ·rename_i hs;simp only[Option.some.injEq,Prod.mk.injEq] at ht;obtain⟨rfl,rfl⟩:=ht;refine⟨fun W' sp' _ _=> ?_,φ,h,[.str (s.data.toList.map UInt8.toNat)],_,φ.le_refl,Ext.refl h,HH, .cons (.str rfl) .nil,rfl,rfl,⟨rfl, ?_⟩,by simp[bulk]⟩
   ·unfold DataW.trod;rw[hu];simp[hs]
   ·intro b hb;obtain⟨u,_,rfl⟩:=List.mem_map.1 hb;exact u.toNat_lt
  ·cases ht
def RSl {α:Type} (n:Nat) (R:Rd α):Rd (List α):=fun h a l=>
 (l=[]∧(a=[.au]∨a=[.emp]))∨∃id cap r,a=[.slc id 0 0 l.length cap true]∧h.row id=some r∧r.rw=false∧r.m=0∧r.g=0∧r.sz=n∧l.length≤cap∧cap=r.es.length∧vZ (R h) (r.es.take l.length) l
theorem RSl.mono {α:Type} {n:Nat} {R:Rd α} (hR:UQ R):UQ (RSl n R):=by
 intro h h' a l e hh;rcases hh with hh |⟨id,cap,r,h1,h2,h3,h4,h5,h6,h7,h8,h9⟩
 ·exact .inl hh
 ·exact .inr ⟨id,cap,r,h1,e.row h2,h3,h4,h5,h6,h7,h8,h9.mono fun a b=>hR h h' a b e⟩
theorem qY {a:Addr} {i:Nat} {W:World} {v:Value} (h:W.cell? (a.add i)=some v):a.add i=⟨a.block,a.off+i,none⟩:=by
 have hspot:(a.add i).spot=none:=by
  cases hsp:(a.add i).spot with
  |none=>rfl
  |some s=>
   simp only[World.cell?] at h;split at h
   ·simp[hsp] at h
   ·cases h
 unfold Addr.add at hspot ⊢;split
 ·rename_i h0;subst h0;rw[if_pos rfl] at hspot;cases a
  simp_all
 ·rfl
theorem MN {a:Addr} {i n:Nat} {cells:List Value} (hn:0<n) (h:W.cells? 0 (a.add (i*n)) n=some cells):cells.length=n∧∀(j:Nat) v,cells[j]? =some v→W.cell? ⟨a.block,a.off+i*n+j,none⟩=some v:=by
 obtain⟨_,hl,hc⟩:=World.cells?_some h;refine⟨hl,fun j v hj=> ?_⟩;have hjl:=(List.getElem?_eq_some_iff.1 hj).1;have h1:=hc j (by omega);rw[hj] at h1;have h0:=hc 0 hn;have hcell0:∃v0,cells[0]? =some v0:=⟨cells[0],by simp⟩;obtain⟨v0,hv0⟩:=hcell0;rw[hv0] at h0;have e1:a.add (i*n)=⟨a.block,a.off+i*n,none⟩:=by
  have:(a.add (i*n)).add 0=a.add (i*n):=by unfold Addr.add;simp
  rw[this] at h0;exact qY h0
 rw[e1] at h1;have e2:=qY h1;rw[e2] at h1;exact h1
theorem MC {φ:dD} {a:Addr} {n:Nat} (hn:0<n):∀{s:Nat} {k:Nat} {es:List (List AV)},vZ (fun i e=>∃cells,W.cells? 0 (a.add (i*n)) n=some cells∧bQ φ e cells∧e.length=n∧aB e=true) (List.range' s k) es→
 ∃vals,bQ φ es.flatten vals∧∀(j:Nat) v,vals[j]? =some v→W.cell? ⟨a.block,a.off+s*n+j,none⟩=some v
 |s,0,es,h=>by
  cases h;exact⟨[],by simp;exact .nil,by simp⟩
 |s,k+1,es,h=>by
  rw[List.range'_succ] at h;cases h with
  |cons h t=>
   rename_i e es;obtain⟨cells,c1,c2,c3,c4⟩:=h;obtain⟨vals,v1,v2⟩:=MC hn t;obtain⟨q1,q2⟩:=MN hn c1;refine⟨cells++vals,by simpa using c2.append v1,fun j v hj=> ?_⟩;by_cases hjn:j<n
   ·rw[List.getElem?_append_left (by omega)] at hj;exact q2 j v hj
   ·rw[List.getElem?_append_right (by omega),q1] at hj;have:=v2 (j-n) v hj;have e:a.off+s*n+j=a.off+(s+1)*n+(j-n):=by rw[Nat.add_mul];omega
    rw[e];exact this
theorem pQ {α β:Type} {f:α→Option β} {x:α} {l:List α} {r:List β} (h:(x :: l).mapM f=some r):∃y m,f x=some y∧l.mapM f=some m∧r=y :: m:=by
 rw[List.mapM_cons] at h;cases hx:f x with
 |none=>simp[hx] at h
 |some y=>
  cases hl:l.mapM f with
  |none=>simp[hx,hl] at h
  |some m=>simp[hx,hl] at h;exact⟨y,m,rfl,rfl,h.symm⟩
theorem GZ {α:Type} {e:TypeId} {n:Nat} {sz:α→Nat} {R:Rd α} (hR:UQ R) (fuel:Nat) (I:Dr enc P W held e n sz R fuel) (a:Addr) (hn:P.cellsOf e=n):∀(l:List Nat) (xs:List (DataW H×List MemPlace)),
 l.mapM (fun i=>(W.cells? 0 (a.add (i*P.cellsOf e)) (P.cellsOf e)).bind (DataW.trod enc P W 0 (fun _=>true) held fuel e))=some xs→∀φ h,bR P (.of W.heap.size) φ h W→
  (∀(W':World) (sp':Nat→Bool),(∀k:Nat,k<W.heap.size→W'.heap[k]? =W.heap[k]?)→(∀p∈xs.flatMap (·.2),sp' p.block=true)→0<n→l.mapM (fun i=>(W'.cells? 0 (a.add (i*P.cellsOf e)) (P.cellsOf e)).bind (DataW.trod enc P W' 0 sp' held fuel e))=some xs)∧
  ∃φ' h' es ys,φ.le φ'∧Ext h h'∧bR P (.of W.heap.size) φ' h' W∧vZ (fun i e=>∃cells,W.cells? 0 (a.add (i*n)) n=some cells∧bQ φ' e cells∧e.length=n∧aB e=true) l es∧vZ (R h') es ys∧szL sz ys≤sU (xs.map (·.1))
 | [],xs,hm,φ,h,HH=>by
   simp at hm;subst hm;exact⟨fun _ _ _ _ _=>by simp,φ,h,[],[],φ.le_refl,Ext.refl h,HH, .nil, .nil,by simp[szL]⟩
 |i :: l,xs,hm,φ,h,HH=>by
  obtain⟨y,m,hy,hm',rfl⟩:=pQ hm;rw[hn] at hy;cases hc:W.cells? 0 (a.add (i*n)) n with
  |none=>rw[hc] at hy;cases hy
  |some cells=>
   rw[hc] at hy;simp only[Option.bind_some] at hy;have⟨y1,y2⟩:=y;have⟨b1,φ1,h1,avs,x,a1,a2,a3,a4,a5,a6,a7,a8⟩:=I cells y1 y2 hy φ h HH;refine have⟨b2,φ2,h2,es,ys,c1,c2,c3,c4,c5,c6⟩:=GZ hR fuel I a hn l m hm' φ1 h1 a3;⟨fun W' sp' hW hp hpos=> ?_,φ2,h2,avs :: es,x :: ys,dD.le_trans a1 c1,a2.trans c2,c3, .cons ⟨cells,hc,a4.mono c1,a5,a6⟩ c4, .cons (hR _ _ _ _ c2 a7) c5,by simp[szL,sU];omega⟩
   rw[List.mapM_cons];have hk:=b2 W' sp' hW (fun p hpp=>hp p (by simp[List.flatMap_cons];exact .inr (by simpa using hpp))) hpos;have hcells:W'.cells? 0 (a.add (i*n)) n=some cells:=by
    refine World.cells?_carry hc fun p hpp=> ?_;obtain⟨k,hk,rfl⟩:=MemPlace.mem_row.1 hpp;have hblk:=World.cells?_block hc (by omega);show W'.cell? _=W.cell? _;simp only[World.cell?];rw[hW _ hblk]
   rw[hn] at hk ⊢;rw[hcells];simp only[Option.bind_some];rw[b1 W' sp' hW (fun p hpp=>hp p (by simp[List.flatMap_cons];exact .inl hpp))];simp[hk]
theorem bR.pushRO {φ:dD} {h:ah} (HH:bR P (.of W.heap.size) φ h W) {r:fC} (hrw:r.own=false) {L:Loc} (hL:L.blk<W.heap.size) (hnd:∀ds:Option (List Deferred),W.heap[L.blk]? ≠some (Obj.deferred ds)) (ho:yP P (φ.add h.sz 0 L) h.sz r W):
 bR P (.of W.heap.size) (φ.add h.sz 0 L) (h.push r) W:=by
 have hle:φ.le (φ.add h.sz 0 L):=dD.le_add L (HH.fresh 0);have hget:∀id o',(h.push r).get id=some o'→(id=h.sz∧o'=r)∨(id<h.sz∧h.get id=some o'):=by
  intro id o' e;rw[ah.get_push] at e;by_cases hi:id=h.sz
  ·rw[if_pos hi] at e;cases e;exact .inl ⟨hi,rfl⟩
  ·rw[if_neg hi] at e;refine .inr ⟨?_,e⟩;rcases Nat.lt_or_ge id h.sz with h1 |h1
   ·exact h1
   ·rw[HH.gone id h1] at e;cases e
 have hphi:∀id g K,φ.add h.sz 0 L id g=some K→(id=h.sz∧g=0∧K=L)∨φ id g=some K:=by
  intro id g K e;by_cases hk:id=h.sz∧g=0
  ·obtain⟨rfl,rfl⟩:=hk;rw[dD.add_same] at e;cases e;exact .inl ⟨rfl,rfl,rfl⟩
  ·rw[dD.add_other _ _ hk] at e;exact .inr e
 refine⟨HH.base, ?_, ?_, ?_, ?_, ?_, ?_, ?_,fun id o e=>(by cases e)⟩
 ·intro id g K e;rcases hphi id g K e with⟨rfl,_,_⟩|e
  ·simp
  ·have:=HH.dom id g K e;simp;omega
 ·intro id hid;simp at hid;rw[ah.get_push,if_neg (by omega)];exact HH.gone id (by omega)
 ·intro id o e _;rcases hget id o e with⟨rfl,rfl⟩|⟨hid,e⟩
  ·exact ho
  ·exact(HH.objn id o e rfl).other hle (fun g=>dD.add_other _ _ (by omega)) (fun _ _ _=>rfl)
 ·intro id g K e;rcases hphi id g K e with⟨_,_,rfl⟩|e
  ·exact hL
  ·exact HH.lt id g K e
 ·intro id o g K e hK;rcases hget id o e with⟨rfl,rfl⟩|⟨hid,e⟩
  ·rcases hphi _ g K hK with⟨_,_,rfl⟩|hK
   ·exact⟨fun h1=>absurd (h1.symm.trans hrw) (by decide),fun _=>hL⟩
   ·rw[HH.fresh] at hK;cases hK
  ·rcases hphi _ g K hK with⟨rfl,_,_⟩|hK
   ·omega
   ·exact HH.own id o g K e hK
 ·intro id o id' g g' K K' e hown hK hK' hb;rcases hget id o e with⟨rfl,rfl⟩|⟨hid,e⟩
  ·rw[hrw] at hown;cases hown
  ·rcases hphi _ g K hK with⟨rfl,_,_⟩|hK2
   ·omega
   ·rcases hphi _ g' K' hK' with⟨_,_,e3⟩|hK3
    ·have:W.heap.size≤K.blk:=(HH.own id o g K e hK2).1 hown;rw[e3] at hb;omega
    ·exact HH.disj id o id' g g' K K' e hown hK2 hK3 hb
 ·intro id g K hK ds;rcases hphi id g K hK with⟨_,_,rfl⟩|hK
  ·exact hnd ds
  ·exact HH.nodef id g K hK ds
theorem Dr.slice {α:Type} {t e:TypeId} {n:Nat} {sz:α→Nat} {R:Rd α} {fuel:Nat} (hu:P.underlying t=some (.slice e)) (hn:P.cellsOf e=n) (hpos:0<n) (hR:UQ R) (I:Dr enc P W held e n sz R fuel):
 Dr enc P W held t 1 (fun l=>szL sz l+1) (RSl n R) (fuel+1):=by
 intro cs d ps ht φ h HH
 ·skip
  unfold DataW.trod at ht;rw[hu] at ht;split at ht<;>simp only[reduceCtorEq,Option.some.injEq,TypeDesc.slice.injEq] at * <;>try(cases ht;done)
  ·rename_i e' h1;simp only[Prod.mk.injEq] at ht;obtain⟨rfl,rfl⟩:=ht;refine⟨fun W' sp' _ _=> ?_,φ,h,[.au],[],φ.le_refl,Ext.refl h,HH, .cons .au .nil,rfl,rfl, .inl ⟨rfl, .inl rfl⟩,by simp[bulk,szL]⟩;unfold DataW.trod;rw[hu];rfl
  ·rename_i e' a len cap h1;subst h1;split at ht
   rotate_left
   ·cases ht
   rename_i hc;obtain⟨c1,c2,c3⟩:=hc;simp only[if_true] at ht;cases hel:(List.range len).mapM (fun i=>(W.cells? 0 (a.add (i*P.cellsOf e)) (P.cellsOf e)).bind (DataW.trod enc P W 0 (fun _=>true) held fuel e)) with
   |none=>rw[hel] at ht;cases ht
   |some elems=>
    rw[hel] at ht;simp only[Option.bind_some] at ht;cases hsp:(List.range (cap-len)).mapM (fun j=>(W.cells? 0 (a.add ((len+j)*P.cellsOf e)) (P.cellsOf e)).bind (DataW.trod enc P W 0 (fun _=>true) held fuel e)) with
    |none=>rw[hsp] at ht;cases ht
    |some rest=>
     rw[hsp] at ht;simp only[Option.map_some,Option.some.injEq,Prod.mk.injEq] at ht;obtain⟨rfl,rfl⟩:=ht;have hsp':(List.range' len (cap-len)).mapM (fun i=>(W.cells? 0 (a.add (i*P.cellsOf e)) (P.cellsOf e)).bind (DataW.trod enc P W 0 (fun _=>true) held fuel e))=some rest:=by
      rw[←hsp,List.range'_eq_map_range,List.mapM_map];rfl
     rw[List.range_eq_range'] at hel;obtain⟨b1,φ1,h1,es,ys,p1,p2,p3,p4,p5,p6⟩:=GZ hR fuel I a hn _ _ hel φ h HH;obtain⟨b2,φ2,h2,es2,ys2,q1,q2,q3,q4,q5,q6⟩:=GZ hR fuel I a hn _ _ hsp' φ1 h1 p3;have hlen:es.length=len:=by have:=p4.length;simpa using this.symm
     have hlen2:es2.length=cap-len:=by have:=q4.length;simpa using this.symm
     have hylen:ys.length=len:=by rw[←p5.length,hlen]
     have hread:∀(W':World) (sp':Nat→Bool),(∀k:Nat,k<W.heap.size→W'.heap[k]? =W.heap[k]?)→(∀p∈MemPlace.row a ((elems.length+rest.length)*P.cellsOf e)++(elems++rest).flatMap (·.2),sp' p.block=true)→DataW.trod enc P W' 0 sp' held (fuel+1) t [.slice (some a) len cap]=some (.slice (elems.map (·.1)) (rest.map (·.1)),MemPlace.row a ((elems.length+rest.length)*P.cellsOf e)++(elems++rest).flatMap (·.2)):=by
      intro W' sp' hW hp;have k1:=b1 W' sp' hW (fun p hpp=>hp p (by simp only[List.mem_append,List.flatMap_append];exact .inr (.inl hpp))) hpos;have k2:=b2 W' sp' hW (fun p hpp=>hp p (by simp only[List.mem_append,List.flatMap_append];exact .inr (.inr hpp))) hpos;have hl1:elems.length=len:=by
       have:=mapM_some_length hel;simpa using this
      have hl2:rest.length=cap-len:=by
       have:=mapM_some_length hsp';simpa using this
      unfold DataW.trod;rw[hu];simp only;rw[if_pos ⟨c1,c2,c3⟩];rw[←List.range_eq_range'] at k1;rw[k1];simp only[Option.bind_some];by_cases hcap:cap=len
      ·have hr0:rest=[]:=List.length_eq_zero_iff.1 (by omega);subst hr0;have e0:cap-len=0:=by omega
       rw[e0];simp
      ·have:sp' a.block=true:=hp (.cell a.block a.off) (by
        rw[List.mem_append];refine .inl (MemPlace.mem_row.2 ⟨0, ?_,rfl⟩);rw[hn,hl1,hl2];exact Nat.mul_pos (by omega) hpos)
       rw[if_pos this];rw[List.range'_eq_map_range,List.mapM_map] at k2;have k2':(List.range (cap-len)).mapM (fun j=>(W'.cells? 0 (a.add ((len+j)*P.cellsOf e)) (P.cellsOf e)).bind (DataW.trod enc P W' 0 sp' held fuel e))=some rest:=by
        rw[←k2];rfl
       rw[k2'];simp
     by_cases hcap0:cap=0
     ·subst hcap0;have hl0:len=0:=by omega
      subst hl0;have:ys=[]:=List.length_eq_zero_iff.1 hylen;refine⟨hread,φ,h,[.emp],[],φ.le_refl,Ext.refl h,HH, .cons .emp .nil,rfl,rfl, .inl ⟨rfl, .inr rfl⟩,by simp[bulk,szL]⟩
     ·have hall:vZ (fun i e=>∃cells,W.cells? 0 (a.add (i*n)) n=some cells∧bQ φ2 e cells∧e.length=n∧aB e=true) (List.range' 0 cap) (es++es2):=by
       have hr:List.range' 0 cap=List.range' 0 len++List.range' len (cap-len):=by
        have:=@List.range'_append 0 len (cap-len) 1;simp only[Nat.one_mul,Nat.zero_add] at this;rw[this];congr 1;omega
       rw[hr];refine(p4.mono ?_).append q4;rintro i e ⟨cells,k1,k2,k3,k4⟩;exact⟨cells,k1,k2.mono q1,k3,k4⟩
      obtain⟨vals,v1,v2⟩:=MC hpos hall;have hblk:a.block<W.heap.size:=by
       obtain⟨k,hk⟩:∃k,cap=k+1:=⟨cap-1,by omega⟩;rw[hk,List.range'_succ] at hall;generalize es++es2=ee at hall;cases hall with
       |cons hh _=>
        obtain⟨cells,k1,_⟩:=hh;have:=World.cells?_block k1 hpos;unfold Addr.add at this;split at this<;>exact this
      have hcellsB:∃c t f,W.heap[a.block]? =some (.cells c t f):=by
       obtain⟨k,hk⟩:∃k,cap=k+1:=⟨cap-1,by omega⟩;rw[hk,List.range'_succ] at hall;generalize es++es2=ee at hall;cases hall with
       |cons hh _=>
        obtain⟨cells,k1,_⟩:=hh;obtain⟨w1,w2⟩:=MN hpos k1;have hv:∃v,cells[0]? =some v:=⟨cells[0]'(by omega),by simp⟩;obtain⟨v,hv⟩:=hv;have:=w2 0 v hv;simp only[World.cell?] at this;split at this
        ·rename_i c t f hh;exact⟨c,t,f,hh⟩
        ·cases this
      let L:Loc:=⟨a.block,a.off,n,cap,cap⟩
      let r:Row:={es:=es++es2,sz:=n,g:=0,m:=0,rw:=false}
      have hlt:(es++es2).length=cap:=by simp;omega
      have hfresh:=q3.fresh 0;have hle:=dD.le_add (φ:=φ2) (id:=h2.sz) (g:=0) L hfresh;have hkey:∀g K,φ2.add h2.sz 0 L h2.sz g=some K→g=0∧K=L:=by
       intro g K e;by_cases hg:g=0
       ·subst hg;rw[dD.add_same] at e;cases e;exact⟨rfl,rfl⟩
       ·rw[dD.add_other _ _ (show ¬(h2.sz=h2.sz∧g=0) by omega)] at e;rw[q3.fresh] at e;cases e
      have hmem:∀x∈es++es2,x.length=n∧aB x=true:=by
       intro x hx;obtain⟨i,hi⟩:=List.getElem?_of_mem hx;have key:∀{l:List Nat} {m:List (List AV)},vZ (fun i e=>∃cells,W.cells? 0 (a.add (i*n)) n=some cells∧bQ φ2 e cells∧e.length=n∧aB e=true) l m→∀{i:Nat} {x},m[i]? =some x→x.length=n∧aB x=true:=by
        intro l m hh
        induction hh with
        |nil=>intro i x e;simp at e
        |cons hh _ ih=>
         intro i x e;obtain⟨_,_,_,k3,k4⟩:=hh;cases i with
         |zero=>simp at e;subst e;exact⟨k3,k4⟩
         |succ i=>simp at e;exact ih e
       exact key hall hi
      have hrow:mU (φ2.add h2.sz 0 L) h2.sz r W:=by
       refine⟨Nat.le_refl _,hpos,fun x hx=>(hmem x hx).1,fun x hx=>(hmem x hx).2,⟨L,dD.add_same _ _ _ _,hlt.symm⟩,fun g K e=> ?_,fun g K _ e=> ?_,(fun hh=>by cases hh),(fun e he=>by cases he)⟩
       ·obtain⟨rfl,rfl⟩:=hkey g K e;exact⟨Nat.le_refl _,rfl⟩
       ·obtain⟨rfl,rfl⟩:=hkey g K e;refine⟨by simp only[L,r];omega,vals, ?_,fun j v hj=> ?_⟩
        ·simp only[L,r];rw[List.take_of_length_le (by omega)];exact v1.mono hle
        ·have:=v2 j v hj;simpa using this
      have H3:=bR.pushRO (L:=L) q3 (r:= .row r) rfl hblk (fun ds=>by
       obtain⟨c,t,f,hh⟩:=hcellsB;show W.heap[a.block]? ≠_;rw[hh];intro e;cases e) hrow
      have hext:Ext h2 (h2.push (.row r)):=by
       refine⟨by simp,fun id o e=> ?_⟩;rw[ah.get_push];have:id<h2.sz:=by
        rcases Nat.lt_or_ge id h2.sz with h1 |h1
        ·exact h1
        ·rw[q3.gone id h1] at e;cases e
       rw[if_neg (by omega)];exact e
      refine⟨hread,_,_,[.slc h2.sz 0 0 len cap true],ys,dD.le_trans p1 (dD.le_trans q1 hle),p2.trans (q2.trans hext),H3, ?_,rfl,rfl, ?_, ?_⟩
      ·have hspot:a=⟨a.block,a.off,none⟩:=by
        obtain⟨k,hk⟩:∃k,cap=k+1:=⟨cap-1,by omega⟩;rw[hk,List.range'_succ] at hall;generalize es++es2=ee at hall;cases hall with
        |cons hh _=>
         obtain⟨cells,k1,_⟩:=hh;obtain⟨_,hl,hcc⟩:=World.cells?_some k1;have h0:=hcc 0 hpos;have hv:∃v,cells[0]? =some v:=⟨cells[0]'(by omega),by simp⟩;obtain⟨v,hv⟩:=hv;rw[hv] at h0;have e0:(a.add (0*n)).add 0=a.add 0:=by unfold Addr.add;simp
         rw[e0] at h0;have:=qY h0;unfold Addr.add at this;simpa using this
       rw[hspot];exact .cons (.slc (L:=L) (dD.add_same _ _ _ _) c2 (by simp[L]) (by simp[L]) (Nat.le_refl _) (fun _=>rfl) (fun _=>by simp[L])) .nil
      ·refine .inr ⟨h2.sz,cap,r,by rw[hylen], ?_,rfl,rfl,rfl,rfl,by rw[hylen];exact c2,hlt.symm, ?_⟩
       ·rw[ah.row_some,ah.get_push,if_pos rfl]
       ·show vZ (R _) ((es++es2).take ys.length) ys;rw[hylen, ←hlen,List.take_left];exact p5.mono fun x y hxy=>hR _ _ _ _ (q2.trans hext) hxy
      ·simp only[bulk];omega
theorem In.slice {α:Type} {t e:TypeId} {n:Nat} {sz:α→Nat} {R:Rd α} (hu:P.underlying t=some (.slice e)) (hn:P.cellsOf e=n) (hpos:0<n) (hR:UQ R) (I:In enc P W held e n sz R):
 In enc P W held t 1 (fun l=>szL sz l+1) (RSl n R)
 |0=>Dr.zero
 |fuel+1=>Dr.slice hu hn hpos hR (I fuel)
abbrev PK (enc:TypeId×Value→H) (P:Program) (W:World) (held:Bool) {α:Type} (fs:List (Nat×TypeId)) (off tot:Nat) (sz:α→Nat) (R:Rd α) (fuel:Nat):Prop:=
 ∀(cs:List Value) (xs:List (DataW H×List MemPlace)),cs.length=tot→fs.mapM (fun f=>DataW.trod enc P W 0 (fun _=>true) held fuel f.2 ((cs.drop f.1).take (P.cellsOf f.2)))=some xs→∀φ h,bR P (.of W.heap.size) φ h W→
  (∀(W':World) (sp':Nat→Bool),(∀k:Nat,k<W.heap.size→W'.heap[k]? =W.heap[k]?)→(∀p∈xs.flatMap (·.2),sp' p.block=true)→fs.mapM (fun f=>DataW.trod enc P W' 0 sp' held fuel f.2 ((cs.drop f.1).take (P.cellsOf f.2)))=some xs)∧
  ∃φ' h' avs x,φ.le φ'∧Ext h h'∧bR P (.of W.heap.size) φ' h' W∧bQ φ' avs (cs.drop off)∧aB avs=true∧R h' avs x∧sz x≤sU (xs.map (·.1))
def InF (enc:TypeId×Value→H) (P:Program) (W:World) (held:Bool) {α:Type} (fs:List (Nat×TypeId)) (off tot:Nat) (sz:α→Nat) (R:Rd α):Prop:=∀(fuel:Nat),PK enc P W held fs off tot sz R fuel
def apx:Rd Unit:=fun _ a _=>a=[]
def ahG {α β:Type} (n:Nat) (R:Rd α) (S:Rd β):Rd (α×β):=fun h a x=>∃b c,a=b++c∧b.length=n∧R h b x.1∧S h c x.2
theorem InF.nil {tot:Nat}:InF enc P W held [] tot tot (fun _:Unit=>0) apx:=by
 intro fuel cs xs hl hm φ h HH;simp at hm;subst hm;refine⟨fun _ _ _ _=>by simp,φ,h,[],(),φ.le_refl,Ext.refl h,HH, ?_,rfl,rfl,by simp[sU]⟩;rw[List.drop_of_length_le (by omega)];exact .nil
theorem PK.cons {α β:Type} {t:TypeId} {off n tot:Nat} {fs:List (Nat×TypeId)} {sz:α→Nat} {sz':β→Nat} {R:Rd α} {S:Rd β} {fuel:Nat} (hn:P.cellsOf t=n) (hR:UQ R) (I:Dr enc P W held t n sz R fuel) (J:PK enc P W held fs (off+n) tot sz' S fuel):
 PK enc P W held ((off,t) :: fs) off tot (fun x:α×β=>sz x.1+sz' x.2) (ahG n R S) fuel:=by
 intro cs xs hl hm φ h HH;obtain⟨y,m,hy,hm',rfl⟩:=pQ hm;simp only[hn] at hy;have⟨y1,y2⟩:=y;have⟨b1,φ1,h1,avs,x,a1,a2,a3,a4,a5,a6,a7,a8⟩:=I _ y1 y2 hy φ h HH;refine have⟨b2,φ2,h2,bvs,z,c1,c2,c3,c4,c5,c6,c7⟩:=J cs m hl hm' φ1 h1 a3;⟨fun W' sp' hW hp=> ?_,φ2,h2,avs++bvs,(x,z),dD.le_trans a1 c1,a2.trans c2,c3, ?_,uS a6 c5,⟨avs,bvs,rfl,a5,hR _ _ _ _ c2 a7,c6⟩,by simp[sU];omega⟩
 ·rw[List.mapM_cons];simp only[hn];rw[b1 W' sp' hW (fun p hpp=>hp p (by simp[List.flatMap_cons];exact .inl hpp))];have k2:=b2 W' sp' hW (fun p hpp=>hp p (by simp[List.flatMap_cons];exact .inr (by simpa using hpp)));simp[k2]
 ·have e:cs.drop off=(cs.drop off).take n++cs.drop (off+n):=by
   rw[←List.drop_drop,List.take_append_drop]
  rw[e];exact(a4.mono c1).append c4
theorem InF.cons {α β:Type} {t:TypeId} {off n tot:Nat} {fs:List (Nat×TypeId)} {sz:α→Nat} {sz':β→Nat} {R:Rd α} {S:Rd β} (hn:P.cellsOf t=n) (hR:UQ R) (I:In enc P W held t n sz R) (J:InF enc P W held fs (off+n) tot sz' S):
 InF enc P W held ((off,t) :: fs) off tot (fun x:α×β=>sz x.1+sz' x.2) (ahG n R S):=fun fuel=>PK.cons hn hR (I fuel) (J fuel)
theorem BS {β:Type} {g:Nat→TypeId→Option β}:∀(fs:List Field),fs.mapM (fun f=>g f.offset f.type)=(fs.map fun f=>(f.offset,f.type)).mapM (fun p=>g p.1 p.2)
 | []=>rfl
 |f :: fs=>by rw[List.mapM_cons,List.map_cons,List.mapM_cons,BS fs]
theorem Dr.struct {α:Type} {t:TypeId} {fs:Array Field} {l:List (Nat×TypeId)} {tot:Nat} {sz:α→Nat} {R:Rd α} {fuel:Nat} (hu:P.underlying t=some (.struct fs)) (hl:(fs.toList.map fun f=>(f.offset,f.type))=l) (hn:P.cellsOf t=tot) (J:PK enc P W held l 0 tot sz R fuel):
 Dr enc P W held t tot (fun x=>sz x+1) R (fuel+1):=by
 intro cs d ps ht φ h HH
 ·skip
  have hstep:∀(W':World) (sp':Nat→Bool) (held':Bool),DataW.trod enc P W' 0 sp' held' (fuel+1) t cs=if cs.length=P.cellsOf t then(fs.toList.mapM fun f=>DataW.trod enc P W' 0 sp' held' fuel f.type ((cs.drop f.offset).take (P.cellsOf f.type))).map fun xs=>(.agg (xs.map (·.1)),xs.flatMap (·.2)) else none:=by
   intro W' sp' held'
   conv=>lhs;unfold DataW.trod
   rw[hu]
  rw[hstep] at ht;split at ht
  rotate_left
  ·cases ht
  rename_i hlen;rw[BS (g:=fun o ty=>DataW.trod enc P W 0 (fun _=>true) held fuel ty ((cs.drop o).take (P.cellsOf ty))),hl] at ht;cases hm:l.mapM (fun p=>DataW.trod enc P W 0 (fun _=>true) held fuel p.2 ((cs.drop p.1).take (P.cellsOf p.2))) with
  |none=>rw[hm] at ht;cases ht
  |some xs=>
   rw[hm] at ht;simp only[Option.map_some,Option.some.injEq,Prod.mk.injEq] at ht;obtain⟨rfl,rfl⟩:=ht;obtain⟨b1,φ',h',avs,x,a1,a2,a3,a4,a5,a6,a7⟩:=J cs xs (by rw[hlen,hn]) hm φ h HH;refine⟨fun W' sp' hW hp=> ?_,φ',h',avs,x,a1,a2,a3,by simpa using a4, ?_,a5,a6,by simp only[bulk];omega⟩
   ·rw[hstep,if_pos hlen,BS (g:=fun o ty=>DataW.trod enc P W' 0 sp' held fuel ty ((cs.drop o).take (P.cellsOf ty))),hl,b1 W' sp' hW hp];simp
   ·have:=a4.length;simp at this;omega
theorem In.struct {α:Type} {t:TypeId} {fs:Array Field} {l:List (Nat×TypeId)} {tot:Nat} {sz:α→Nat} {R:Rd α} (hu:P.underlying t=some (.struct fs)) (hl:(fs.toList.map fun f=>(f.offset,f.type))=l) (hn:P.cellsOf t=tot) (J:InF enc P W held l 0 tot sz R):
 In enc P W held t tot (fun x=>sz x+1) R
 |0=>Dr.zero
 |fuel+1=>Dr.struct hu hl hn (J fuel)
end
noncomputable section
def uT (o:Option AV) (k:AV→Bool):Bool:=
 match o with
 |some v=>k v
 |none=>false
def P6 (o:Option (AV×ah)) (k:aK):Bool:=
 match o with
 |some p=>match p with |(v,h)=>k v h
 |none=>false
def ahf (c:AV) (a b:Bool):Bool:=
 match c with
 | .bool x=>match x with |true=>a |false=>b
 |_=>false
def aed (c:AV) (b:Bool):Bool:=
 match c with
 | .bool x=>x==b
 |_=>false
def ak7 (w:Bool) (o:Option AV):Option AV:=bif w then o else some (.tup [])
def akE (w:Bool) (o:Option (AV×ah)) (h:ah):Option (AV×ah):=bif w then o else some (.tup [],h)
def akJ (w:Bool) (run:aK→Bool) (h:ah) (K:aK):Bool:=bif w then run K else K (.tup []) h
theorem lS (o:Option AV) (k:AV→Bool):bK o k=uT o k:=by cases o<;>rfl
theorem PU (o:Option (AV×ah)) (k:aK):aQ o k=P6 o k:=by cases o<;>rfl
theorem afM (h:ah) (a:AV) (k:AV→Bool):av h a k=uT (dL h false 1 a) k:=by rw[TH h 1,lS]
theorem acK (h:ah) (n:Nat) (a:AV) (k:AV→Bool):aX h n a k=uT (dL h true n a) k:=by rw[N9,lS]
theorem X8 (x y:AV) (k:AV→Bool):dQ x y k=uT (dV .eql x y) k:=by rw[YJ,lS]
theorem ab7 (x y:AV) (k:AV→Bool):qO x y k=uT (dV .neq x y) k:=by rw[Z4,lS]
theorem adV (x y:AV) (k:AV→Bool):jL x y k=uT (dV .lss x y) k:=by rw[Zw,lS]
theorem aiu (x y:AV) (k:AV→Bool):G7 x y k=uT (dV .leq x y) k:=by rw[Y6,lS]
theorem ajb (x y:AV) (k:AV→Bool):Ca x y k=uT (dV .gtr x y) k:=by rw[Zz,lS]
theorem adb (x y:AV) (k:AV→Bool):CF x y k=uT (dV .geq x y) k:=by rw[ZT,lS]
theorem WX (x y:AV) (k:AV→Bool):eG x y k=uT (dV .add x y) k:=by rw[YS,lS]
theorem adv (x y:AV) (k:AV→Bool):FE x y k=uT (dV .sub x y) k:=by rw[Ze,lS]
theorem Zc (c a b:AV) (k:AV→Bool):dA c a b k=uT (Ua c a b) k:=by rw[Ta,lS]
theorem Xt (i:Nat) (x:AV) (k:AV→Bool):lU i x k=uT (WS i x) k:=by rw[ZM,lS]
theorem agF (h:ah) (x:AV) (k:AV→Bool):pE x k=uT (AP h 0 x) k:=by rw[TP h,lS]
theorem adt (h:ah) (x:AV) (k:AV→Bool):fI x k=uT (AP h 1 x) k:=by rw[ZQ h,lS]
theorem ZU (h:ah) (sz:Nat) (x y:AV) (k:AV→Bool):dG h sz x y k=uT (oG h sz x y) k:=by rw[Vi,lS]
theorem agJ (x y:AV) (k:AV→Bool):Ia x y k=uT (mX x y) k:=by rw[VA,lS]
theorem ai4 (off:Nat) (x:AV) (k:AV→Bool):U9 off x k=uT (NA false off 1 x) k:=by rw[Zh off 1,lS]
theorem ajs (x:AV) (lo hi:Option AV) (k:AV→Bool):R7 x lo hi k=uT (nQ x lo hi) k:=by rw[Z7,lS]
theorem Tc (z:List AV) (ps:List (Nat×Nat×AV)) (k:AV→Bool):dK z ps k=uT (qM z ps) k:=by rw[N7,lS]
theorem adr (o:Option ah) (k:ah→Bool):bK o k=P6 (unit o) fun _ h=>k h:=by cases o<;>rfl
theorem Ve (h:ah) (a v:AV) (k:ah→Bool):aV h a v k=P6 (unit (bM h 1 a v)) fun _ h=>k h:=by rw[Pn,adr]
theorem Oz (h:ah) (n:Nat) (a v:AV) (k:ah→Bool) (hn:Nat.beq n 0=false):aL h n a v k=P6 (unit (bM h n a v)) fun _ h=>k h:=by rw[Kg _ _ _ _ _ hn,adr]
theorem Nb (h:ah) (z:List AV) (k:aK) (n:Nat) (hn:z.length=n) (h0:Nat.beq n 0=false) (hl:aB z=true):bL h z n k=P6 (pV h z) k:=by
 subst hn;rw[Oo _ _ _ h0 hl,PU];rfl
theorem Wi (h:ah) (v:AV) (k:aK):Ct h v k=P6 (mo h none 1 v) k:=by rw[Zy,PU]
theorem Qw (h:ah) (sz bytes:Nat) (s x:AV) (k:aK) (hs:Nat.beq sz 0=false):jO h sz bytes s x k=P6 (gG h sz bytes s x) k:=by rw[ZR _ _ _ _ _ _ hs,PU]
end
@[simp] theorem ajR (v:AV) (k:AV→Bool):uT (some v) k=k v:=rfl
@[simp] theorem ajU (k:AV→Bool):uT none k=false:=rfl
@[simp] theorem aj4 (v:AV) (h:ah) (k:aK):P6 (some (v,h)) k=k v h:=rfl
@[simp] theorem ajN (k:aK):P6 none k=false:=rfl
@[simp] theorem ai1 (a b:Bool):ahf (.bool true) a b=a:=rfl
@[simp] theorem ahq (a b:Bool):ahf (.bool false) a b=b:=rfl
@[simp] theorem ai6 (c:Bool):aed (.bool c) true=c:=by cases c<;>rfl
@[simp] theorem agY (c:Bool):aed (.bool c) false= !c:=by cases c<;>rfl
@[simp] theorem aj2 (l:List AV) (b:Bool):aed (.tup l) b=false:=rfl
@[simp] theorem ajY (o:Option AV):ak7 true o=o:=rfl
@[simp] theorem ah0 (o:Option AV):ak7 false o=some (.tup []):=rfl
@[simp] theorem aj5 (o:Option (AV×ah)) (h:ah):akE true o h=o:=rfl
@[simp] theorem ais (o:Option (AV×ah)) (h:ah):akE false o h=some (.tup [],h):=rfl
@[simp] theorem ajP (r:aK→Bool) (h:ah) (K:aK):akJ true r h K=r K:=rfl
@[simp] theorem aiL (r:aK→Bool) (h:ah) (K:aK):akJ false r h K=K (.tup []) h:=rfl
@[simp] theorem aiH (a b:AV):Ua (.bool true) a b=some a:=rfl
@[simp] theorem agX (a b:AV):Ua (.bool false) a b=some b:=rfl
@[simp] theorem ajW (b:Bool):abw (.bool b)=some (.bool (!b)):=rfl
@[simp] theorem aiP (a b c d:Nat):FT (.ptr a b c d)=some (.ptr a b c d):=rfl
@[simp] theorem ajZ (off a b c d:Nat):OG off (.ptr a b c d)=some (.ptr a b c (d+off)):=rfl
@[simp] theorem ala (i:Nat) (l:List AV):WS i (.tup l)=nth l i:=rfl
@[simp] theorem y8 {α:Type} (x:α) (l:List α):nth (x :: l) 0=some x:=rfl
@[simp] theorem akm {α:Type} (x:α) (l:List α) (n:Nat):nth (x :: l) (n+1)=nth l n:=rfl
@[simp] theorem amB {α:Type} (n:Nat):nth ([]:List α) n=none:=rfl
@[simp] theorem akM (ag:Bool) (off n:Nat) (l:List AV):NA ag off n (.agg l)=mM ag off n l:=rfl
@[simp] theorem ag4 (off n:Nat) (l:List AV):mM false off n l=nth l off:=rfl
@[simp] theorem ako (h:ah) (s:List Nat):AP h 0 (.str s)=some (.int .i64 (s.length:Int)):=rfl
@[simp] theorem adz (call:bg) (f:NG) (a b vs:List AV) (h:ah) (K:aK):kR call (.fn f a b) vs h K=call f (a++vs++b) h K:=rfl
@[simp] theorem aj6 (l:List AV) (h:ah) (K:aK):gI (some l) h K=K (oneOf l) h:=rfl
@[simp] theorem ajX (v:AV):oneOf [v]=v:=rfl
theorem pR (a b:Int):xH a b=decide (a<b):=zO a b
theorem qd (a b:Int):y9 a b=decide (a=b):=by rw[xL];rfl
theorem ug (a b:List Nat):FV a b=decide (a=b):=by
 rw[JD];by_cases e:a=b
 ·subst e;simp
 ·rw[decide_eq_false e];exact beq_eq_false_iff_ne.2 e
theorem gM (op:BinOp) (k:IntKind) (a b:Int) (hs:nR op=false):dV op (.int k a) (.int k b)=lQ op k a b:=by
 simp only[dV,hs,cond_false,Nat.beq_refl,cond_true]
@[simp] theorem Ep (k:IntKind) (a b:Int):dV .lss (.int k a) (.int k b)=some (.bool (decide (a<b))):=by rw[gM _ _ _ _ rfl];simp only[lQ,pR]
@[simp] theorem akd (k:IntKind) (a b:Int):dV .gtr (.int k a) (.int k b)=some (.bool (decide (b<a))):=by rw[gM _ _ _ _ rfl];simp only[lQ,pR]
@[simp] theorem akw (k:IntKind) (a b:Int):dV .leq (.int k a) (.int k b)=some (.bool (decide (a≤b))):=by
  rw[gM _ _ _ _ rfl];simp only[lQ,pR];by_cases e:b<a
  ·rw[decide_eq_true e,decide_eq_false (by omega)];rfl
  ·rw[decide_eq_false e,decide_eq_true (by omega)];rfl
@[simp] theorem S9 (k:IntKind) (a b:Int):dV .geq (.int k a) (.int k b)=some (.bool (decide (b≤a))):=by
  rw[gM _ _ _ _ rfl];simp only[lQ,pR];by_cases e:a<b
  ·rw[decide_eq_true e,decide_eq_false (by omega)];rfl
  ·rw[decide_eq_false e,decide_eq_true (by omega)];rfl
@[simp] theorem UK (k:IntKind) (a b:Int):dV .eql (.int k a) (.int k b)=some (.bool (decide (a=b))):=by rw[gM _ _ _ _ rfl];simp only[lQ,qd]
@[simp] theorem alm (k:IntKind) (a b:Int):dV .neq (.int k a) (.int k b)=some (.bool (!decide (a=b))):=by rw[gM _ _ _ _ rfl];simp only[lQ,qd]
theorem KF (k:IntKind) (a b:Int):dV .add (.int k a) (.int k b)=some (.int k (sH k (a+b))):=by rw[gM _ _ _ _ rfl];rfl
theorem VF (k:IntKind) (a b:Int):dV .sub (.int k a) (.int k b)=some (.int k (sH k (a-b))):=by rw[gM _ _ _ _ rfl];rfl
theorem ab9 (k:IntKind) (a b:Int):dV .mul (.int k a) (.int k b)=some (.int k (sH k (a*b))):=by rw[gM _ _ _ _ rfl];rfl
@[simp] theorem aj3 (a b:List Nat):dV .eql (.str a) (.str b)=some (.bool (decide (a=b))):=by simp only[dV,Dl,ug]
@[simp] theorem ajO (a b:List Nat):dV .neq (.str a) (.str b)=some (.bool (!decide (a=b))):=by simp only[dV,Dl,ug]
theorem wrap64 {n:Int} (h1: -9223372036854775808≤n) (h2:n≤9223372036854775807):sH .i64 n=n:=by
 have:IB .i64 n=true:=by
  cases n with
  |ofNat m=>
   have e:Int.ofNat m=(m:Int):=rfl;simp only[IB];exact aI.2 (by omega)
  |negSucc m=>
   have e:Int.negSucc m= -((m:Int)+1):=rfl;simp only[IB];exact aI.2 (by omega)
 simp only[sH,this,cond_true]
theorem ahp {a b:Int} (h1: -9223372036854775808≤a+b) (h2:a+b≤9223372036854775807):dV .add (.int .i64 a) (.int .i64 b)=some (.int .i64 (a+b)):=by rw[KF,wrap64 h1 h2]
theorem akD {a b:Int} (h1: -9223372036854775808≤a-b) (h2:a-b≤9223372036854775807):dV .sub (.int .i64 a) (.int .i64 b)=some (.int .i64 (a-b)):=by rw[VF,wrap64 h1 h2]
def lim:Nat:=4611686018427387904
theorem rY:lim=4611686018427387904:=rfl
theorem jX {i:Nat} (h0:i<lim):dV .add (.int .i64 (i:Int)) (.int .i64 1)=some (.int .i64 ((i+1:Nat):Int)):=by
 have h:i<4611686018427387904:=h0;rw[ahp (by omega) (by omega)];rfl
@[simp] theorem qE (k:IntKind) (n:Nat):asNat (.int k (n:Int))=some n:=rfl
theorem Xp {s:List Nat} {k:IntKind} {i b:Nat} (h:s[i]? =some b):mX (.str s) (.int k (i:Int))=some (.int .u8 (b:Int)):=by
 simp only[mX,qE,nk,h];rfl
@[simp] theorem apN (k b:Nat):((@OfNat.ofNat Int k _:Int)≤(b:Int))=((@OfNat.ofNat Nat k _:Nat)≤b):=by
  apply propext;show((k:Nat):Int)≤(b:Int)↔k≤b;omega
@[simp] theorem aoq (k b:Nat):((b:Int)≤(@OfNat.ofNat Int k _:Int))=(b≤(@OfNat.ofNat Nat k _:Nat)):=by
  apply propext;show(b:Int)≤((k:Nat):Int)↔b≤k;omega
@[simp] theorem aqm (k b:Nat):((@OfNat.ofNat Int k _:Int)<(b:Int))=((@OfNat.ofNat Nat k _:Nat)<b):=by
  apply propext;show((k:Nat):Int)<(b:Int)↔k<b;omega
@[simp] theorem apw (k b:Nat):((b:Int)<(@OfNat.ofNat Int k _:Int))=(b<(@OfNat.ofNat Nat k _:Nat)):=by
  apply propext;show(b:Int)<((k:Nat):Int)↔b<k;omega
@[simp] theorem aqG (k b:Nat):((@OfNat.ofNat Int k _:Int)=(b:Int))=((@OfNat.ofNat Nat k _:Nat)=b):=by
  apply propext;show((k:Nat):Int)=(b:Int)↔k=b;omega
@[simp] theorem aqh (k b:Nat):((b:Int)=(@OfNat.ofNat Int k _:Int))=(b=(@OfNat.ofNat Nat k _:Nat)):=by
  apply propext;show(b:Int)=((k:Nat):Int)↔b=k;omega
def View (h:ah) (n:Nat) (v:AV) (es:List (List AV)):Prop:=
 (es=[]∧(v= .au∨v= .emp))∨∃id g s cap ex r,v= .slc id g s es.length cap ex∧h.row id=some r∧r.m≤g∧r.sz=n∧(r.es.drop s).take es.length=es∧es.length≤cap
theorem View.nil (h:ah) (n:Nat):View h n .au []:= .inl ⟨rfl, .inl rfl⟩
theorem View.ext {h h':ah} {n:Nat} {v:AV} {es:List (List AV)} (V:View h n v es) (e:Ext h h'):View h' n v es:=by
 rcases V with V |⟨id,g,s,cap,ex,r,h1,h2,h3⟩
 ·exact .inl V
 ·exact .inr ⟨id,g,s,cap,ex,r,h1,e.row h2,h3⟩
theorem View.leaf {h:ah} {n:Nat} {v:AV} {es:List (List AV)} (V:View h n v es):v.leaf=true:=by
 rcases V with⟨rfl,rfl |rfl⟩|⟨id,g,s,cap,ex,r,rfl,_⟩<;>rfl
theorem View.len {h:ah} {n:Nat} {v:AV} {es:List (List AV)} (V:View h n v es):AP h 1 v=some (.int .i64 (es.length:Int)):=by
 rcases V with⟨rfl,rfl |rfl⟩|⟨id,g,s,cap,ex,r,rfl,_⟩<;>rfl
theorem View.at {h:ah} {n:Nat} {v:AV} {es:List (List AV)} (V:View h n v es) {i:Nat} {e:List AV} (hi:es[i]? =some e):
 ∃id g j,(∀k,oG h n v (.int k (i:Int))=some (.ptr id g j 0))∧∀ag off m,dL h ag m (.ptr id g j off)=mM ag off m e:=by
 rcases V with⟨rfl,_⟩|⟨id,g,s,cap,ex,r,rfl,h2,h3,h4,h5,h6⟩
 ·simp at hi
 ·have hlt:i<es.length:=(List.getElem?_eq_some_iff.1 hi).1;refine⟨id,g,s+i,fun k=> ?_,fun ag off m=> ?_⟩
  ·have:pK h id n=true:=by simp only[pK,h2,aG];exact h4
   simp only[oG,qE,bC.2 hlt,this,Bool.and_self,cond_true]
  ·have hn:nth r.es (s+i)=some e:=by
    rw[nk];rw[←h5,List.getElem?_take] at hi;simp only[hlt,if_true,List.getElem?_drop] at hi;exact hi
   simp only[dL,h2,aI.2 h3,cond_true,hn]
theorem View.src {h:ah} {n:Nat} {v:AV} {es:List (List AV)} (V:View h n v es):source h n v=some es:=by
 rcases V with⟨rfl,rfl |rfl⟩|⟨id,g,s,cap,ex,r,rfl,h2,h3,h4,h5,h6⟩
 ·rfl
 ·rfl
 ·simp only[source];cases hb:Nat.beq es.length 0 with
  |true=>
   rw[cond_true];have:=aG.1 hb;rw[List.length_eq_zero_iff.1 this]
  |false=>
   simp only[cond_false,h2,aI.2 h3,aG.2 h4,Bool.and_self,cond_true,h5,aG.2 rfl]
def Own (b:Nat) (h:ah) (n:Nat) (v:AV) (es:List (List AV)):Prop:=
 (v= .au∧es=[])∨∃id r,b≤id∧v= .slc id r.g 0 es.length es.length false∧h.row id=some r∧r.rw=true∧r.m≤r.g∧r.sz=n∧r.es=es
theorem Own.view {b:Nat} {h:ah} {n:Nat} {v:AV} {es:List (List AV)} (O:Own b h n v es):View h n v es:=by
 rcases O with⟨rfl,rfl⟩|⟨id,r,_,rfl,h2,h3,h4,h5,h6⟩
 ·exact View.nil h n
 ·exact .inr ⟨id,r.g,0,es.length,false,r,rfl,h2,h4,h5,by simp[h6],Nat.le_refl _⟩
theorem Own.ext {b n:Nat} {h h':ah} {v:AV} {es:List (List AV)} (V:Own b h n v es) (e:Ext h h'):Own b h' n v es:=by
 rcases V with V |⟨id,r,w1,w2,w3,w4,w5,w6,w7⟩
 ·exact .inl V
 ·exact .inr ⟨id,r,w1,w2,e.row w3,w4,w5,w6,w7⟩
theorem Own.nil (b:Nat) (h:ah) (n:Nat):Own b h n .au []:= .inl ⟨rfl,rfl⟩
theorem rR {h:ah} (gone:∀id,h.sz≤id→h.get id=none) (o:fC):Ext h (h.push o):=by
 refine⟨by simp,fun id x e=> ?_⟩;rw[ah.get_push];have:id≠h.sz:=fun hh=>by rw[gone id (by omega)] at e;cases e
 rw[if_neg this];exact e
def ah.Ok (h:ah):Prop:=∀id,h.sz≤id→h.get id=none
theorem ah.Ok.push {h:ah} (k:h.Ok) (o:fC):(h.push o).Ok:=by
 intro id hid;simp at hid;rw[ah.get_push,if_neg (by omega)];exact k id (by omega)
theorem ah.Ok.lt {h:ah} (k:h.Ok) {id:Nat} {o:fC} (e:h.get id=some o):id<h.sz:=by
 rcases Nat.lt_or_ge id h.sz with h1 |h1
 ·exact h1
 ·rw[k id h1] at e;cases e
theorem ah.Ok.put {h:ah} (k:h.Ok) {id:Nat} (hid:id<h.sz) (o:fC):(h.put id o).Ok:=by
 intro j hj;rw[ah.get_put,if_neg (by simp at hj;omega)];exact k j (by simpa using hj)
theorem Js {h0 h:ah} (e:Ext h0 h) (k0:h0.Ok) {id:Nat} (hid:h0.sz≤id) (o:fC):Ext h0 (h.put id o):=by
 refine⟨by simpa using e.1,fun j x hj=> ?_⟩;rw[ah.get_put];have:=k0.lt hj;rw[if_neg (by omega)];exact e.2 j x hj
def SC (h:ah) (v:AV) (e:Nat):Prop:=∀id g s l c ex,v= .slc id g s l c ex→∃r,h.row id=some r∧r.ty=some e
theorem Own.appT {b:Nat} {h h0:ah} {n bytes:Nat} {v x:AV} {es new:List (List AV)} (nt:Option Nat) (O:Own b h n v es) (hn:0<n) (hb:b≤h.sz) (k:h.Ok) (k0:h0.Ok) (e0:Ext h0 h) (hb0:h0.sz≤b) (hs:source h n x=some new)
 (h1:(es.length+new.length)*bytes≤most) (h2:es.length+new.length≤most):
 ∃v' h',gG h n bytes v x nt=some (v',h')∧Own b h' n v' (es++new)∧h'.Ok∧Ext h0 h'∧h.sz≤h'.sz∧
  (∀j o,h.get j=some o→(∀id g s l c ex,v= .slc id g s l c ex→j≠id)→h'.get j=some o)∧(∀k u q,View h k u q→View h' k u q)∧(∀e,nt=some e→SC h v e→SC h' v' e):=by
 have hn0:Nat.beq n 0=false:=dF.2 (by omega);simp only[gG,hn0,cond_false,hs];have hrow:∀(h:ah) (r:Row),(h.push (.row r)).row h.sz=some r:=fun h r=>by rw[ah.row_some,ah.get_push,if_pos rfl]
 rcases O with⟨rfl,rfl⟩|⟨id,r,o1,rfl,o2,o3,o4,o5,o6⟩
 ·cases new with
  |nil=>exact⟨.au,h,rfl, .inl ⟨rfl,rfl⟩,k,e0,Nat.le_refl _,fun j o hj _=>hj,fun _ _ _ V=>V,fun _ _ T=>T⟩
  |cons y new=>
   refine⟨.slc h.sz 0 0 (y :: new).length (y :: new).length false,newRow h (y :: new) n nt, ?_, .inr ⟨h.sz,{es:=y :: new,sz:=n,g:=0,m:=0,rw:=true,ty:=nt},hb,by simp,hrow _ _,rfl,Nat.le_refl _,rfl,rfl⟩,k.push _,e0.trans (rR k _),by simp[newRow],fun j o hj _=>(rR k _).2 j o hj,fun _ _ _ V=>V.ext (rR k _),fun e he _ id g s l c ex hv=>⟨_,by cases hv;exact hrow _ _,he⟩⟩;simp only[gQ];rw[aI.2 (by simpa using h1),aI.2 (by simpa using h2)];rfl
 ·cases new with
  |nil=>exact⟨.slc id r.g 0 es.length es.length false,h,rfl, .inr ⟨id,r,o1,by simp,o2,o3,o4,o5,by simpa using o6⟩,k,e0,Nat.le_refl _,fun j o hj _=>hj,fun _ _ _ V=>V,fun _ _ T id g s l c ex hv=>T id g s l c ex (by simpa using hv)⟩
  |cons y new=>
   have hid:=k.lt (ah.row_some.1 o2);have hnc:Nat.ble (es.length+(y :: new).length) es.length=false:=by
    cases hh:Nat.ble (es.length+(y :: new).length) es.length with
    |false=>rfl
    |true=>have:=aI.1 hh;simp at this;omega
   refine⟨.slc id (r.g+1) 0 (es.length+(y :: new).length) (es.length+(y :: new).length) false,h.put id (.row {r with es:=r.es++(y :: new),g:=r.g+1,ty:=pJ r.ty nt}), ?_, .inr ⟨id,{r with es:=r.es++(y :: new),g:=r.g+1,ty:=pJ r.ty nt},o1,by simp, ?_,o3,by simp only;omega,o5,by simp[o6]⟩,k.put hid _,Js e0 k0 (by omega) _,by simp,fun j o hj hne=> ?_,fun kk u q V=> ?_,fun e he T id' g' s' l' c' ex' hv=> ?_⟩
   ·simp only[gQ,o2];rw[aI.2 h1,aI.2 h2,aG.2 o5];simp only[Bool.and_self,cond_true,hnc,cond_false,o3,aG.2 rfl,aG.2 (show es.length=r.es.length by rw[o6])]
   ·rw[ah.row_some,ah.get_put,if_pos rfl]
   ·rw[ah.get_put,if_neg (hne id _ _ _ _ _ rfl)];exact hj
   ·rcases V with V |⟨i',g',s',cp,ex,rr,w1,w2,w3,w4,w5,w6⟩
    ·exact .inl V
    ·by_cases hi:i'=id
     ·subst hi;rw[o2] at w2;cases w2;refine .inr ⟨i',g',s',cp,ex,{r with es:=r.es++(y :: new),g:=r.g+1,ty:=pJ r.ty nt},w1,by rw[ah.row_some,ah.get_put,if_pos rfl],w3,w4, ?_,w6⟩
      simp only;by_cases hq:q.length=0
      ·rw[hq,List.take_zero];exact(List.length_eq_zero_iff.1 hq).symm
      ·have hlen:((r.es.drop s').take q.length).length=q.length:=by rw[w5]
       rw[List.length_take,List.length_drop] at hlen;rw[List.drop_append_of_le_length (by omega),List.take_append_of_le_length (by rw[List.length_drop];omega)];exact w5
     ·refine .inr ⟨i',g',s',cp,ex,rr,w1, ?_,w3,w4,w5,w6⟩;rw[ah.row_some] at w2 ⊢;rw[ah.get_put,if_neg hi];exact w2
   ·cases hv;have⟨r',q1,q2⟩:=T id _ _ _ _ _ rfl;rw[o2] at q1;cases q1;refine⟨_,by rw[ah.row_some,ah.get_put,if_pos rfl], ?_⟩;simp[q2,he,pJ]
theorem Own.app {b:Nat} {h h0:ah} {n bytes:Nat} {v x:AV} {es new:List (List AV)} (O:Own b h n v es) (hn:0<n) (hb:b≤h.sz) (k:h.Ok) (k0:h0.Ok) (e0:Ext h0 h) (hb0:h0.sz≤b) (hs:source h n x=some new)
 (h1:(es.length+new.length)*bytes≤most) (h2:es.length+new.length≤most):
 ∃v' h',gG h n bytes v x=some (v',h')∧Own b h' n v' (es++new)∧h'.Ok∧Ext h0 h'∧h.sz≤h'.sz∧
  (∀j o,h.get j=some o→(∀id g s l c ex,v= .slc id g s l c ex→j≠id)→h'.get j=some o)∧(∀k u q,View h k u q→View h' k u q):=by
 exact have⟨v',h',a1,a2,a3,a4,a5,a6,a7,_⟩:=O.appT none hn hb k k0 e0 hb0 hs h1 h2;⟨v',h',a1,a2,a3,a4,a5,a6,a7⟩
theorem Own.appb {b:Nat} {h h0:ah} {e:Nat} {v x:AV} {es new:List (List AV)} (O:Own b h 1 v es) (hb:b≤h.sz) (k:h.Ok) (k0:h0.Ok) (e0:Ext h0 h) (hb0:h0.sz≤b) (hs:source h 1 x=some new) (h2:es.length+new.length≤most):
 ∃v' h',aej h e v x=some (v',h')∧Own b h' 1 v' (es++new)∧h'.Ok∧Ext h0 h'∧h.sz≤h'.sz∧
  (∀j o,h.get j=some o→(∀id g s l c ex,v= .slc id g s l c ex→j≠id)→h'.get j=some o)∧(∀k u q,View h k u q→View h' k u q)∧(SC h v e→SC h' v' e):=by
 exact have⟨v',h',a1,a2,a3,a4,a5,a6,a7,a8⟩:=O.appT (bytes:=1) (some e) (by decide) hb k k0 e0 hb0 hs (by omega) h2;⟨v',h',a1,a2,a3,a4,a5,a6,a7,a8 e rfl⟩
theorem PT.newL_set {α:Type} (x y:Option α):∀(p:L4),PT.setL y (PT.newL x p) p=PT.newL y p
 | .e=>rfl
 | .a p=>by show PT.nd none (PT.setL y (PT.newL x p) p) .lf .lf .lf= .nd none (PT.newL y p) .lf .lf .lf;rw[PT.newL_set x y p]
 | .b p=>by show PT.nd none .lf (PT.setL y (PT.newL x p) p) .lf .lf= .nd none .lf (PT.newL y p) .lf .lf;rw[PT.newL_set x y p]
 | .c p=>by show PT.nd none .lf .lf (PT.setL y (PT.newL x p) p) .lf= .nd none .lf .lf (PT.newL y p) .lf;rw[PT.newL_set x y p]
 | .d p=>by show PT.nd none .lf .lf .lf (PT.setL y (PT.newL x p) p)= .nd none .lf .lf .lf (PT.newL y p);rw[PT.newL_set x y p]
theorem PT.setL_setL {α:Type} (x y:Option α):∀(t:PT α) (p:L4),PT.setL y (PT.setL x t p) p=PT.setL y t p
 | .lf,p=>PT.newL_set x y p
 | .nd v a b c d, .e=>rfl
 | .nd v a b c d, .a p=>by show PT.nd v (PT.setL y (PT.setL x a p) p) b c d= .nd v (PT.setL y a p) b c d;rw[PT.setL_setL x y a p]
 | .nd v a b c d, .b p=>by show PT.nd v a (PT.setL y (PT.setL x b p) p) c d= .nd v a (PT.setL y b p) c d;rw[PT.setL_setL x y b p]
 | .nd v a b c d, .c p=>by show PT.nd v a b (PT.setL y (PT.setL x c p) p) d= .nd v a b (PT.setL y c p) d;rw[PT.setL_setL x y c p]
 | .nd v a b c d, .d p=>by show PT.nd v a b c (PT.setL y (PT.setL x d p) p)= .nd v a b c (PT.setL y d p);rw[PT.setL_setL x y d p]
theorem PT.set_set {α:Type} (t:PT α) (n:Nat) (x y:α):(t.set n x).set n y=t.set n y:=PT.setL_setL _ _ _ _
theorem Tn (h:ah) (a b:fC):(h.push a).put h.sz b=h.push b:=by
 simp only[ah.push,ah.put,PT.set_set]
@[simp] theorem abe (h:ah) (es:List (List AV)) (n:Nat):(newRow h es n).sz=h.sz+1:=rfl
def mq (cells:List AV):Row:={es:=[cells],sz:=cells.length,g:=0,m:=0,rw:=true}
def Var (h:ah) (id:Nat) (cells:List AV):Prop:=h.row id=some (mq cells)
theorem Var.ext {h h':ah} {id:Nat} {c:List AV} (V:Var h id c) (e:Ext h h'):Var h' id c:=e.row V
theorem Var.lt {h:ah} {id:Nat} {c:List AV} (V:Var h id c) (k:h.Ok):id<h.sz:=k.lt (ah.row_some.1 V)
theorem Var.load {h:ah} {id:Nat} {c:List AV} (V:Var h id c) (ag:Bool) (off n:Nat):dL h ag n (.ptr id 0 0 off)=mM ag off n c:=by
 have V':h.row id=some (mq c):=V;simp only[dL,V',mq,Nat.ble_self_eq_true,cond_true,y8]
theorem oH (h:ah) (c:List AV):Var (newRow h [c] c.length) h.sz c:=by
 show ah.row _ _=_;rw[ah.row_some];simp only[newRow,ah.get_push,if_pos,mq]
theorem alloc_eq {h:ah} {z:List AV} (h1:0<z.length) (h2:aB z=true):pV h z=some (.ptr h.sz 0 0 0,newRow h [z] z.length):=by
 simp only[pV,qR,dF.2 (show z.length≠0 by omega),h2,cond_false,cond_true]
theorem Q0 {h:ah} {n:Nat} {v:AV} (h0:v.cells.length=n) (h1:0<n) (h2:aB v.cells=true):mo h none n v=some (.ptr h.sz 0 0 0,newRow h [v.cells] n):=by
 simp only[mo,aG.2 h0,bC.2 h1,h2,Bool.and_self,cond_true]
theorem afV {α:Type} {l new:List α} {n:Nat} (h:n+new.length≤l.length):(lay l n new).length=l.length:=by
 simp[lay];omega
theorem Var.store {h:ah} {id:Nat} {c:List AV} (V:Var h id c) {n off:Nat} {v:AV} (h0:v.cells.length=n) (h1:off+n≤c.length) (h2:aB v.cells=true):
 bM h n (.ptr id 0 0 off) v=some (h.put id (.row (mq (lay c off v.cells)))):=by
 have V':h.row id=some (mq c):=V;have e:(lay c off v.cells).length=c.length:=afV (by omega);simp only[bM,V',mq,Nat.beq_refl,aG.2 h0,h2,Bool.and_self,cond_true,y8,aI.2 h1,mI,e]
theorem oM {v:AV} (h:v.leaf=true):v.cells=[v]:=by cases v<;>first |rfl |cases h
theorem YT {α:Type} {l:List α} {n:Nat} {x:α} (h:n<l.length):lay l n [x]=l.set n x:=by
 rw[List.set_eq_take_append_cons_drop];simp[lay,h]
theorem Var.set1 {h:ah} {id:Nat} {c:List AV} (V:Var h id c) {off:Nat} {v:AV} (h1:off<c.length) (h2:v.leaf=true):
 bM h 1 (.ptr id 0 0 off) v=some (h.put id (.row (mq (c.set off v)))):=by
 have hc:=oM h2;rw[V.store (n:=1) (by rw[hc];rfl) (by omega) (by rw[hc];simp[aB,h2]),hc,YT h1]
theorem xu {h:ah} (id:Nat) (c:List AV):Var (h.put id (.row (mq c))) id c:=by
 show ah.row _ _=_;rw[ah.row_some,ah.get_put,if_pos rfl]
theorem Ez {h:ah} {z:List AV} {n:Nat} {v:AV} (hz:z.length=n) (h0:v.cells.length=n) (h2:aB v.cells=true):
 bM (newRow h [z] n) n (.ptr h.sz 0 0 0) v=some (newRow h [v.cells] n):=by
 subst hz;rw[(oH h z).store h0 (by omega) h2];have:lay z 0 v.cells=v.cells:=by simp[lay];omega
 rw[this];simp only[newRow,Tn,mq,h0]
theorem yU {h:ah} {n sz:Nat} {z:List AV} {ps:List (Nat×AV)} {es:List (List AV)} (h1:z.length=sz) (h2:0<sz) (h3:n*sz≤16777216) (h4:aB z=true) (h5:jT sz (xV n z) ps=some es) (h6:es.length=n):
 ∃v,aO h n sz z ps=some (v,newRow h es sz)∧View (newRow h es sz) sz v es:=by
 refine⟨.slc h.sz 0 0 n n true, ?_, .inr ⟨h.sz,0,0,n,true,{es,sz,g:=0,m:=0,rw:=true},by rw[h6], ?_,Nat.le_refl _,rfl,by simp,by omega⟩⟩
 ·simp only[aO,aG.2 h1,bC.2 h2,aI.2 h3,h4,Bool.and_self,cond_true,h5]
 ·rw[ah.row_some];simp only[newRow,ah.get_push,if_pos]
theorem iG {h:ah} (k:h.Ok) (es:List (List AV)) (n:Nat):Ext h (newRow h es n):=rR k _
theorem jk {h:ah} (k:h.Ok) (es:List (List AV)) (n:Nat):(newRow h es n).Ok:=k.push _
def Kp (S:Nat→Prop) (h h':ah):Prop:=h.sz≤h'.sz∧∀id o,¬S id→h.get id=some o→h'.get id=some o
theorem Kp.refl (S:Nat→Prop) (h:ah):Kp S h h:=⟨Nat.le_refl _,fun _ _ _ e=>e⟩
theorem Kp.trans {S:Nat→Prop} {a b c:ah} (h:Kp S a b) (k:Kp S b c):Kp S a c:=⟨Nat.le_trans h.1 k.1,fun id o n e=>k.2 id o n (h.2 id o n e)⟩
theorem Kp.mono {S T:Nat→Prop} (st:∀i,S i→T i) {a b:ah} (h:Kp S a b):Kp T a b:=⟨h.1,fun id o n e=>h.2 id o (fun s=>n (st id s)) e⟩
theorem Kp.ext {h h':ah} (e:Ext h h') (S:Nat→Prop):Kp S h h':=⟨e.1,fun id o _ g=>e.2 id o g⟩
def Fct (S:Nat→Prop) (h:ah) (R:ah→Prop):Prop:=∀h',Kp S h h'→R h'
theorem Fct.now {S:Nat→Prop} {h:ah} {R:ah→Prop} (f:Fct S h R):R h:=f h (Kp.refl S h)
theorem Fct.step {S:Nat→Prop} {h h1:ah} {R:ah→Prop} (f:Fct S h R) (k:Kp S h h1):Fct S h1 R:=fun h' k'=>f h' (k.trans k')
theorem Fct.less {S T:Nat→Prop} {h:ah} {R:ah→Prop} (f:Fct S h R) (t:∀i,T i→S i):Fct T h R:=fun h' k'=>f h' (k'.mono t)
theorem Fct.wide {S T:Nat→Prop} {h:ah} {R:ah→Prop} (f:Fct S h R) (o:h.Ok) (t:∀i,T i→S i∨h.sz≤i):Fct T h R:=fun h' k'=>f h' ⟨k'.1,fun id ob n e=>k'.2 id ob (fun s=>by
 rcases t id s with s |s
 ·exact n s
 ·have:=o.lt e;omega) e⟩
structure Sl where
 v:AV
 n:Nat
 es:List (List AV)
def Vo:AV→List Nat
 | .slc id _ _ _ _ _=>[id]
 |_=>[]
def ae1 (h:ah) (s:Sl):Prop:=
 (s.v= .au∧s.es=[])∨∃id g,s.v= .slc id g 0 s.es.length s.es.length false∧∃m,m≤g∧h.get id=some (.row {es:=s.es,sz:=s.n,g:=g,m:=m,rw:=true,ty:=none})
abbrev gB:=List (Nat×fC)
def places (L:gB) (S:List Sl):List Nat:=L.map Prod.fst++S.flatMap fun s=>Vo s.v
structure Cx (h:ah) (L:gB) (S:List Sl) (F:List (ah→Prop)):Prop where
 ok:h.Ok
 has:∀e∈L,h.get e.1=some e.2
 sls:∀s∈S,ae1 h s
 nod:(places L S).Nodup
 facts:∀R∈F,Fct (· ∈places L S) h R
@[reducible] def vr (id:Nat) (c:List AV):Nat×fC:=(id, .row (mq c))
section
variable {h h':ah} {L L':gB} {S S':List Sl} {F F':List (ah→Prop)} {R R1 R2 R3:ah→Prop}
theorem Cx.fact (A:Cx h L S F) (m:R∈F):R h:=(A.facts R m).now
theorem Cx.f0 (A:Cx h L S (R :: F)):R h:=A.fact (by simp)
theorem Cx.f1 (A:Cx h L S (R1 :: R :: F)):R h:=A.fact (by simp)
theorem Cx.f2 (A:Cx h L S (R1 :: R2 :: R :: F)):R h:=A.fact (by simp)
theorem Cx.lt (A:Cx h L S F) {e:Nat×fC} (m:e∈L):e.1<h.sz:=A.ok.lt (A.has e m)
theorem Cx.pl (A:Cx h L S F) {i:Nat} (m:i∈places L S):i<h.sz:=by
 rcases List.mem_append.1 m with m |m
 ·obtain⟨e,he,rfl⟩:=List.mem_map.1 m;exact A.lt he
 ·have⟨s,hs,hi⟩:=List.mem_flatMap.1 m;rcases A.sls s hs with⟨e,_⟩|⟨id,g,e,m0,hm,k⟩
  ·rw[e] at hi;simp[Vo] at hi
  ·rw[e] at hi;simp only[Vo,List.mem_singleton] at hi;subst hi;exact A.ok.lt k
theorem Cx.facts' (A:Cx h L S F) (f:∀R∈F',R∈F):Cx h L S F':=⟨A.ok,A.has,A.sls,A.nod,fun R m=>A.facts R (f R m)⟩
theorem Cx.add (A:Cx h L S F) (f:∀h,(∀R∈F,R h)→R h):Cx h L S (R :: F):=
 ⟨A.ok,A.has,A.sls,A.nod,fun Q m=>by
   rcases List.mem_cons.1 m with rfl |m
   ·exact fun h' k=>f h' fun Q hq=>A.facts Q hq h' k
   ·exact A.facts Q m⟩
theorem Cx.imp (A:Cx h L S (R1 :: F)) (f:∀h,R1 h→R h):Cx h L S (R :: F):=
 (A.add (R:=R) fun h a=>f h (a R1 (by simp))).facts' fun Q m=>by
   rcases List.mem_cons.1 m with rfl |m
   ·simp
   ·simp[m]
theorem Cx.imp2 (A:Cx h L S (R1 :: R2 :: F)) (f:∀h,R1 h→R2 h→R h):Cx h L S (R :: F):=
 (A.add (R:=R) fun h a=>f h (a R1 (by simp)) (a R2 (by simp))).facts' fun Q m=>by
   rcases List.mem_cons.1 m with rfl |m
   ·simp
   ·simp[m]
theorem Cx.imp3 (A:Cx h L S (R1 :: R2 :: R3 :: F)) (f:∀h,R1 h→R2 h→R3 h→R h):Cx h L S (R :: F):=
 (A.add (R:=R) fun h a=>f h (a R1 (by simp)) (a R2 (by simp)) (a R3 (by simp))).facts' fun Q m=>by
   rcases List.mem_cons.1 m with rfl |m
   ·simp
   ·simp[m]
theorem Cx.swapF (A:Cx h L S (R1 :: R2 :: F)):Cx h L S (R2 :: R1 :: F):=A.facts' fun Q m=>by
 simp only[List.mem_cons] at m ⊢;rcases m with h |h |h
 ·exact .inr (.inl h)
 ·exact .inl h
 ·exact .inr (.inr h)
theorem Cx.dJ (A:Cx h L S (R1 :: F)):Cx h L S F:=A.facts' fun Q m=>by simp[m]
theorem Cx.drop1 (A:Cx h L S (R :: R1 :: F)):Cx h L S (R :: F):=A.facts' fun Q m=>by
 simp only[List.mem_cons] at m ⊢;rcases m with h |h
 ·exact .inl h
 ·exact .inr (.inr h)
theorem Cx.tru (A:Cx h L S F) (t:∀h,R h):Cx h L S (R :: F):=A.add fun h _=>t h
theorem Cx.perm (A:Cx h L S F) (p:L'.Perm L) (q:S'.Perm S):Cx h L' S' F:=by
 have hp:(places L' S').Perm (places L S):=(p.map _).append (q.flatMap_right _);exact⟨A.ok,fun e m=>A.has e (p.mem_iff.1 m),fun s m=>A.sls s (q.mem_iff.1 m),hp.nodup_iff.2 A.nod,fun R m=>(A.facts R m).less fun i hi=>hp.mem_iff.1 hi⟩
theorem Cx.swapL {a b:Nat×fC} (A:Cx h (a :: b :: L) S F):Cx h (b :: a :: L) S F:=A.perm (.swap _ _ _) (.refl _)
theorem Cx.swap12 {a b c:Nat×fC} (A:Cx h (a :: b :: c :: L) S F):Cx h (a :: c :: b :: L) S F:=A.perm (.cons _ (.swap _ _ _)) (.refl _)
theorem Cx.swapS {a b:Sl} (A:Cx h L (a :: b :: S) F):Cx h L (b :: a :: S) F:=A.perm (.refl _) (.swap _ _ _)
theorem Cx.rest {a:Nat×fC} (A:Cx h (a :: L) S F):Cx h L S F:=by
 have hs:places (a :: L) S=a.1 :: places L S:=rfl;refine⟨A.ok,fun e m=>A.has e (List.mem_cons_of_mem _ m),A.sls, ?_,fun R m=>(A.facts R m).less fun i hi=> ?_⟩
 ·have:=A.nod;rw[hs] at this;exact(List.nodup_cons.1 this).2
 ·rw[hs];exact List.mem_cons_of_mem _ hi
theorem Cx.aZ {a b:Nat×fC} (A:Cx h (a :: b :: L) S F):Cx h (a :: L) S F:=A.swapL.rest
theorem Cx.wr {a:Nat×fC} (A:Cx h (a :: L) S F) (o:fC):Cx (h.put a.1 o) ((a.1,o) :: L) S F:=by
 have hs:places (a :: L) S=a.1 :: places L S:=rfl;have hs':places ((a.1,o) :: L) S=a.1 :: places L S:=rfl;have hn:=A.nod;rw[hs] at hn;have hlt:a.1<h.sz:=A.lt (List.mem_cons_self);have hk:Kp (· ∈places (a :: L) S) h (h.put a.1 o):=⟨Nat.le_refl _,fun id ob n e=>by
  rw[ah.get_put];by_cases q:id=a.1
  ·exact absurd (by rw[hs,q];simp) n
  ·rw[if_neg q];exact e⟩
 refine have hne:∀i,i∈places L S→i≠a.1:=fun i m q=>(List.nodup_cons.1 hn).1 (q▸m);⟨A.ok.put hlt o,fun e m=> ?_,fun s m=> ?_,by rw[hs'];exact hn,fun R m=>by rw[hs', ←hs];exact(A.facts R m).step hk⟩
 ·rcases List.mem_cons.1 m with rfl |m
  ·rw[ah.get_put,if_pos rfl]
  ·rw[ah.get_put,if_neg (hne _ (List.mem_append.2 (.inl (List.mem_map_of_mem m))))];exact A.has e (List.mem_cons_of_mem _ m)
 ·rcases A.sls s m with k |⟨id,g,e,m0,hm,k⟩
  ·exact .inl k
  ·refine .inr ⟨id,g,e,m0,hm, ?_⟩;rw[ah.get_put,if_neg (hne _ (List.mem_append.2 (.inr (List.mem_flatMap.2 ⟨s,m,by rw[e];simp[Vo]⟩))))];exact k
theorem Cx.new (A:Cx h L S F) (o:fC):Cx (h.push o) ((h.sz,o) :: L) S F:=by
 have hs:places ((h.sz,o) :: L) S=h.sz :: places L S:=rfl;refine have e:=rR A.ok o;⟨A.ok.push o,fun x m=> ?_,fun s m=> ?_, ?_,fun R m=> ?_⟩
 ·rcases List.mem_cons.1 m with rfl |m
  ·rw[ah.get_push,if_pos rfl]
  ·exact e.2 _ _ (A.has x m)
 ·rcases A.sls s m with k |⟨id,g,q,m0,hm,k⟩
  ·exact .inl k
  ·exact .inr ⟨id,g,q,m0,hm,e.2 _ _ k⟩
 ·rw[hs,List.nodup_cons];exact⟨fun m=>by have:=A.pl m;omega,A.nod⟩
 ·refine((A.facts R m).wide A.ok (T:=(· ∈places ((h.sz,o) :: L) S)) fun i hi=> ?_).step (Kp.ext e _);rw[hs] at hi;rcases List.mem_cons.1 hi with rfl |hi
  ·exact .inr (Nat.le_refl _)
  ·exact .inl hi
theorem Cx.newRO (A:Cx h L S F) (o:fC) (f:∀h',h'.get h.sz=some o→R h'):Cx (h.push o) L S (R :: F):=by
 have B:=A.new o;have hs:places ((h.sz,o) :: L) S=h.sz :: places L S:=rfl;refine have C:=B.rest;⟨C.ok,C.has,C.sls,C.nod,fun Q m=> ?_⟩
 rcases List.mem_cons.1 m with rfl |m
 ·refine fun h' k=>f h' (k.2 _ _ (fun q=> ?_) (by rw[ah.get_push,if_pos rfl]));have:=A.pl q;omega
 ·exact C.facts Q m
end
section
variable {h:ah} {L:gB} {S:List Sl} {F:List (ah→Prop)} {c:List AV} {id n:Nat}
theorem Cx.alloc (A:Cx h L S F) {z:List AV} (h1:0<z.length) (h2:aB z=true):∃h',pV h z=some (.ptr h.sz 0 0 0,h')∧Cx h' (vr h.sz z :: L) S F:=
 ⟨_,alloc_eq h1 h2,A.new _⟩
theorem Cx.box (A:Cx h L S F) {v:AV} (h0:v.cells.length=n) (h1:0<n) (h2:aB v.cells=true):∃h',mo h none n v=some (.ptr h.sz 0 0 0,h')∧Cx h' (vr h.sz v.cells :: L) S F:=
 ⟨_,Q0 h0 h1 h2,by subst h0;exact A.new _⟩
theorem Cx.var (A:Cx h (vr id c :: L) S F):Var h id c:=ah.row_some.2 (A.has _ List.mem_cons_self)
theorem Cx.store (A:Cx h (vr id c :: L) S F) {off:Nat} {v:AV} (h0:v.cells.length=n) (h1:off+n≤c.length) (h2:aB v.cells=true):
 ∃h',bM h n (.ptr id 0 0 off) v=some h'∧Cx h' (vr id (lay c off v.cells) :: L) S F:=
 ⟨_,A.var.store h0 h1 h2,A.wr _⟩
theorem Cx.set1 (A:Cx h (vr id c :: L) S F) {off:Nat} {v:AV} (h1:off<c.length) (h2:v.leaf=true):
 ∃h',bM h 1 (.ptr id 0 0 off) v=some h'∧Cx h' (vr id (c.set off v) :: L) S F:=
 ⟨_,A.var.set1 h1 h2,A.wr _⟩
end
section
variable {h:ah} {L:gB} {S:List Sl} {F:List (ah→Prop)} {R:ah→Prop} {v:AV} {n:Nat} {es:List (List AV)}
theorem Cx.slc (A:Cx h L S F) (n:Nat):Cx h L (⟨.au,n,[]⟩ :: S) F:=by
 have hs:places L (⟨.au,n,[]⟩ :: S)=places L S:=rfl;refine⟨A.ok,A.has,fun s m=> ?_,by rw[hs];exact A.nod,by rw[hs];exact A.facts⟩;rcases List.mem_cons.1 m with rfl |m
 ·exact .inl ⟨rfl,rfl⟩
 ·exact A.sls s m
theorem ae1.view (o:ae1 h ⟨v,n,es⟩):View h n v es:=by
 rcases o with⟨e1,e2⟩|⟨id,g,e1,m0,hm,k⟩
 ·simp only at e1 e2;subst e1;subst e2;exact View.nil h n
 ·simp only at e1 k;subst e1;exact .inr ⟨id,g,0,_,_,_,rfl,ah.row_some.2 k,hm,rfl,by rw[List.drop_zero];exact List.take_length,Nat.le_refl _⟩
theorem Cx.view (A:Cx h L (⟨v,n,es⟩ :: S) F):View h n v es:=(A.sls _ List.mem_cons_self).view
theorem Cx.leafS (A:Cx h L (⟨v,n,es⟩ :: S) F):v.leaf=true:=A.view.leaf
theorem Cx.freeze (A:Cx h L (⟨v,n,es⟩ :: S) F):Cx h L S ((fun h=>View h n v es) :: F):=by
 have hs:(places L (⟨v,n,es⟩ :: S)).Perm (Vo v++places L S):=by
  show(L.map Prod.fst++(Vo v++S.flatMap fun s=>Vo s.v)).Perm (Vo v++(L.map Prod.fst++S.flatMap fun s=>Vo s.v));rw[←List.append_assoc, ←List.append_assoc];exact List.perm_append_comm.append_right _
 have hn:=hs.nodup_iff.1 A.nod;refine have hd:=List.nodup_append.1 hn;⟨A.ok,A.has,fun s m=>A.sls s (List.mem_cons_of_mem _ m),hd.2.1,fun Q m=> ?_⟩
 rcases List.mem_cons.1 m with rfl |m
 ·intro h' k;rcases A.sls _ List.mem_cons_self with⟨e1,e2⟩|⟨id,g,e1,m0,hm,e2⟩
  ·simp only at e1 e2;subst e1;subst e2;exact View.nil h' n
  ·simp only at e1 e2;subst e1;have:h'.get id=some (.row {es:=es,sz:=n,g:=g,m:=m0,rw:=true,ty:=none}):=k.2 _ _ (fun q=>hd.2.2 id (by simp[Vo]) id q rfl) e2;exact(show ae1 h' ⟨_,n,es⟩ from .inr ⟨id,g,rfl,m0,hm,this⟩).view
 ·exact(A.facts Q m).less fun i hi=>hs.mem_iff.2 (List.mem_append.2 (.inr hi))
theorem Cx.app (A:Cx h L (⟨v,n,es⟩ :: S) F) {bytes:Nat} {x:AV} {new:List (List AV)} (hn:0<n) (hs:source h n x=some new) (h1:(es.length+new.length)*bytes≤most) (h2:es.length+new.length≤most):
 ∃v' h',gG h n bytes v x=some (v',h')∧Cx h' L (⟨v',n,es++new⟩ :: S) F:=by
 have hz:Nat.beq n 0=false:=dF.2 (by omega);cases new with
 |nil=>
  rw[List.append_nil];rcases A.sls _ List.mem_cons_self with⟨e1,e2⟩|⟨id,g,e1,m0,hm,e2⟩
  ·simp only at e1 e2;subst e1;subst e2;exact⟨.au,h,by simp only[gG,hz,cond_false,hs,gQ],A⟩
  ·simp only at e1 e2;subst e1;exact⟨_,h,by simp only[gG,hz,cond_false,hs,gQ],A⟩
 |cons y new=>
  rcases A.sls _ List.mem_cons_self with⟨e1,e2⟩|⟨id,g,e1,m0,hm,e2⟩
  ·simp only at e1 e2;subst e1;subst e2;simp only[List.length_nil,Nat.zero_add] at h1 h2;refine⟨.slc h.sz 0 0 (y :: new).length (y :: new).length false,newRow h (y :: new) n, ?_, ?_⟩
   ·simp only[gG,hz,cond_false,hs,gQ,aI.2 h1,aI.2 h2,Bool.and_self,cond_true]
   ·have B:=A.new (.row {es:=y :: new,sz:=n,g:=0,m:=0,rw:=true,ty:=none});have hp:(places L (⟨.slc h.sz 0 0 (y :: new).length (y :: new).length false,n,y :: new⟩ :: S)).Perm (h.sz :: places L S):=by
     show(L.map Prod.fst++([h.sz]++S.flatMap fun s=>Vo s.v)).Perm _;exact List.perm_middle
    refine⟨B.ok,fun e m=>B.has e (List.mem_cons_of_mem _ m),fun s m=> ?_,hp.nodup_iff.2 B.nod,fun R m=>(B.facts R m).less fun i hi=>hp.mem_iff.1 hi⟩;rcases List.mem_cons.1 m with rfl |m
    ·exact .inr ⟨h.sz,0,rfl,0,Nat.le_refl _,by rw[show newRow h (y :: new) n=h.push _ from rfl,ah.get_push,if_pos rfl];rfl⟩
    ·exact B.sls s (List.mem_cons_of_mem _ m)
  ·simp only at e1 e2;subst e1;have hrow:=ah.row_some.2 e2;have hcap:Nat.ble (es.length+(y :: new).length) es.length=false:=by
    cases hb:Nat.ble (es.length+(y :: new).length) es.length with
    |false=>rfl
    |true=>have:=aI.1 hb;simp only[List.length_cons] at this;omega
   refine⟨.slc id (g+1) 0 (es.length+(y :: new).length) (es.length+(y :: new).length) false,h.put id (.row {es:=es++y :: new,sz:=n,g:=g+1,m:=m0,rw:=true,ty:=none}), ?_, ?_⟩
   ·simp only[gG,hz,cond_false,hs,gQ,hrow,aI.2 h1,aI.2 h2,aG.2 rfl,Bool.and_self,cond_true,hcap,pJ]
   ·have hp:(places L (⟨.slc id g 0 es.length es.length false,n,es⟩ :: S)).Perm (places ((id, .row {es:=es,sz:=n,g:=g,m:=m0,rw:=true,ty:=none}) :: L) S):=by
     show(L.map Prod.fst++([id]++S.flatMap fun s=>Vo s.v)).Perm (id :: (L.map Prod.fst++S.flatMap fun s=>Vo s.v));exact List.perm_middle
    have B:Cx h ((id, .row {es:=es,sz:=n,g:=g,m:=m0,rw:=true,ty:=none}) :: L) S F:=
     ⟨A.ok,fun e m=>by
       rcases List.mem_cons.1 m with rfl |m
       ·exact e2
       ·exact A.has e m,fun s m=>A.sls s (List.mem_cons_of_mem _ m),hp.nodup_iff.1 A.nod,fun R m=>(A.facts R m).less fun i hi=>hp.mem_iff.2 hi⟩
    have C:=B.wr (.row {es:=es++y :: new,sz:=n,g:=g+1,m:=m0,rw:=true,ty:=none});have hl:es.length+(y :: new).length=(es++y :: new).length:=by simp
    rw[hl];have hp':(places L (⟨.slc id (g+1) 0 (es++y :: new).length (es++y :: new).length false,n,es++y :: new⟩ :: S)).Perm (places ((id, .row {es:=es++y :: new,sz:=n,g:=g+1,m:=m0,rw:=true,ty:=none}) :: L) S):=by
     show(L.map Prod.fst++([id]++S.flatMap fun s=>Vo s.v)).Perm (id :: (L.map Prod.fst++S.flatMap fun s=>Vo s.v));exact List.perm_middle
    refine⟨C.ok,fun e m=>C.has e (List.mem_cons_of_mem _ m),fun s m=> ?_,hp'.nodup_iff.2 C.nod,fun R m=>(C.facts R m).less fun i hi=>hp'.mem_iff.1 hi⟩;rcases List.mem_cons.1 m with rfl |m
    ·exact .inr ⟨id,g+1,rfl,m0,by omega,C.has _ List.mem_cons_self⟩
    ·exact C.sls s m
end
theorem TF {E:Env} {n f:Nat} {args:List AV} {h:ah} {K:aK}:ak E (n+1) (.func f) args h K=Mt E (ak E n) n f args h K:=by
 simp only[ak,Mt];cases E.prim f<;>rfl
theorem bJ {E:Env} {f:Nat} {s:Sh} (v:dB E f s) (hp:J7 E) {n:Nat} {args:List AV} {h:ah} {K:aK} (q:s (ak E n) n args h K=true):ak E (n+1) (.func f) args h K=true:=by
 have⟨fn,h1,h2,h3,h4⟩:=v _ _ n args h K K (Db hp n) (Db hp n) (fun _ _ q=>q) q;rw[TF];simp only[Mt,h1,h2,h3,Nat.beq_refl,cond_true];exact h4 _
theorem an5 (s:bg→Nat→ah→aK→Bool) {call:bg} {n:Nat} {h:ah} {K:aK}:iK 0 (fun call n K=>pA0 (s call n) K) call n [] h K=s call n h K:=rfl
theorem iY (s:bg→Nat→AV→ah→aK→Bool) {call:bg} {n:Nat} {a0:AV} {h:ah} {K:aK}:iK 1 (fun call n K=>mh (s call n) K) call n [a0] h K=s call n a0 h K:=rfl
theorem jZ (s:bg→Nat→AV→AV→ah→aK→Bool) {call:bg} {n:Nat} {a0 a1:AV} {h:ah} {K:aK}:iK 2 (fun call n K=>iV (s call n) K) call n [a0,a1] h K=s call n a0 a1 h K:=rfl
theorem adw (s:bg→Nat→AV→AV→AV→ah→aK→Bool) {call:bg} {n:Nat} {a0 a1 a2:AV} {h:ah} {K:aK}:iK 3 (fun call n K=>l8 (s call n) K) call n [a0,a1,a2] h K=s call n a0 a1 a2 h K:=rfl
theorem apf (s:bg→Nat→AV→AV→AV→AV→AV→ah→aK→Bool) {call:bg} {n:Nat} {a0 a1 a2 a3 a4:AV} {h:ah} {K:aK}:iK 5 (fun call n K=>Nv (s call n) K) call n [a0,a1,a2,a3,a4] h K=s call n a0 a1 a2 a3 a4 h K:=rfl
def iW (v:AV):Prop:=AV.same v v=true
def uD (l:List AV):Prop:=rT l l=true
theorem iW.int (k:IntKind) (n:Int):iW (.int k n):=by
 unfold iW;simp only[AV.same,Nat.beq_refl,Bool.true_and];rw[qd];simp
theorem iW.bool (b:Bool):iW (.bool b):=by cases b<;>rfl
theorem iW.str (s:List Nat):iW (.str s):=by
 unfold iW;simp only[AV.same];rw[ug];simp
theorem iW.ptr (a b c d:Nat):iW (.ptr a b c d):=by unfold iW;simp[AV.same]
theorem iW.slc (a b c d e:Nat) (f:Bool):iW (.slc a b c d e f):=by unfold iW;cases f<;>simp[AV.same]
theorem iW.nslc:iW .au:=rfl
theorem iW.emp:iW .emp:=rfl
theorem uD.nil:uD []:=rfl
theorem uD.cons {a:AV} {l:List AV} (h:iW a) (k:uD l):uD (a :: l):=by unfold iW at h;unfold uD at k ⊢;simp only[rT,h,k,Bool.and_self]
theorem iW.agg {l:List AV} (h:uD l):iW (.agg l):=by unfold uD at h;unfold iW;simpa only[AV.same] using h
theorem uD.app {l m:List AV} (h:uD l) (k:uD m):uD (l++m):=by
 induction l with
 |nil=>exact k
 |cons a l ih=>
  unfold uD at h;simp only[rT,Bool.and_eq_true] at h;exact .cons h.1 (ih h.2)
theorem View.iW {h:ah} {n:Nat} {v:AV} {es:List (List AV)} (V:View h n v es):iW v:=by
 rcases V with⟨_,rfl |rfl⟩|⟨id,g,s,cap,ex,r,rfl,_⟩
 ·exact .nslc
 ·exact .emp
 ·exact .slc _ _ _ _ _ _
section
variable {k:AV→Bool} {kh:ah→Bool} {K Q:aK} {v u w:AV} {h h':ah} {o:Option AV} {p:Option (AV×ah)} {q:Option ah} {a b:Bool} {L:gB} {S:List Sl} {F:List (ah→Prop)} {e1 e2 e3 e4:Nat×fC}
theorem qJ (e:o=some v) (s:k v=true):bK o k=true:=by subst e;exact s
theorem bU (s:k v=true):bK (some v) k=true:=s
theorem abN (e:p=some (v,h')) (s:K v h'=true):aQ p K=true:=by subst e;exact s
theorem eB {x y z t:Nat} (s:k (.ptr x y z t)=true):bD (.ptr x y z t) k=true:=s
theorem ay {f x y z d:Nat} (s:k (.ptr x y z (d+f))=true):aA f (.ptr x y z d) k=true:=s
theorem aU (e:dL h false 1 w=some v) (s:k v=true):av h w k=true:=by rw[afM,e];exact s
theorem vF {n:Nat} (e:dL h true n w=some v) (s:k v=true):aX h n w k=true:=by rw[acK,e];exact s
theorem aJ {id off:Nat} {c:List AV} (V:Var h id c) (e:c[off]? =some v) (s:k v=true):av h (.ptr id 0 0 off) k=true:=by
 refine aU ?_ s;rw[V.load];simp only[mM,cond_false,nk];exact e
theorem dw {id off n:Nat} {c:List AV} (V:Var h id c) (e:Nat.ble (off+n) c.length=true) (s:k (.agg ((c.drop off).take n))=true):aX h n (.ptr id 0 0 off) k=true:=by
 refine vF ?_ s;rw[V.load];simp only[mM,cond_true,e]
theorem bI (e:iW u) (s:a=true):bS u a u=true:=by
 unfold bS;rw[show AV.same u u=true from e]
 exact s
theorem ahv {J:IntKind} {x y:Int} (s:k (.int J (sH J (x+y)))=true):eG (.int J x) (.int J y) k=true:=by rw[WX,KF];exact s
theorem uj {x y:Nat} (l:x+y≤lim) (s:k (.int .i64 ((x+y:Nat):Int))=true):eG (.int .i64 (x:Int)) (.int .i64 (y:Int)) k=true:=by
 refine ahv ?_;rw[wrap64 (by omega) (by have:lim=4611686018427387904:=rfl;omega)];exact s
theorem gZ {x:Nat} (l:x<lim) (s:k (.int .i64 ((x+1:Nat):Int))=true):eG (.int .i64 (x:Int)) (.int .i64 1) k=true:=uj (y:=1) l s
theorem Hg {x y:Int} (l1: -9223372036854775808≤x-y) (l2:x-y≤9223372036854775807) (s:k (.int .i64 (x-y))=true):FE (.int .i64 x) (.int .i64 y) k=true:=by
 rw[adv,VF,wrap64 l1 l2];exact s
theorem mP {J:IntKind} {x y:Int} (s:k (.bool (decide (x<y)))=true):jL (.int J x) (.int J y) k=true:=by
 rw[adV,gM _ _ _ _ rfl];simp only[lQ,pR];exact s
theorem fT {J:IntKind} {x y:Nat} (s:k (.bool (decide (x<y)))=true):jL (.int J (x:Int)) (.int J (y:Int)) k=true:=by
 refine mP ?_;rw[show decide ((x:Int)<(y:Int))=decide (x<y) from by simp];exact s
theorem Ij {J:IntKind} {x y:Int} (s:k (.bool (decide (x≤y)))=true):G7 (.int J x) (.int J y) k=true:=by
 rw[aiu,gM _ _ _ _ rfl];simp only[lQ,pR];rw[show(!decide (y<x))=decide (x≤y) from by rw[←decide_not];simp];exact s
theorem yh {J:IntKind} {x y:Int} (s:k (.bool (decide (y<x)))=true):Ca (.int J x) (.int J y) k=true:=by
 rw[ajb,gM _ _ _ _ rfl];simp only[lQ,pR];exact s
theorem Ka {J:IntKind} {x y:Int} (s:k (.bool (decide (y≤x)))=true):CF (.int J x) (.int J y) k=true:=by
 rw[adb,gM _ _ _ _ rfl];simp only[lQ,pR];rw[show(!decide (x<y))=decide (y≤x) from by rw[←decide_not];simp];exact s
theorem kQ {J:IntKind} {x y:Int} (s:k (.bool (decide (x=y)))=true):dQ (.int J x) (.int J y) k=true:=by
 rw[X8,gM _ _ _ _ rfl];simp only[lQ,qd];exact s
theorem jC {J:IntKind} {x y:Int} (s:k (.bool (!decide (x=y)))=true):qO (.int J x) (.int J y) k=true:=by
 rw[ab7,gM _ _ _ _ rfl];simp only[lQ,qd];exact s
theorem DT {x y:List Nat} (s:k (.bool (decide (x=y)))=true):dQ (.str x) (.str y) k=true:=by
 rw[X8];simp only[dV,Dl,ug];exact s
theorem alx {x y:List Nat} (s:k (.bool (!decide (x=y)))=true):qO (.str x) (.str y) k=true:=by
 rw[ab7];simp only[dV,Dl,ug];exact s
theorem L8 {c:Bool} (s:k (.bool (!c))=true):lJ (.bool c) k=true:=by cases c<;>exact s
theorem fP (s:k (.bool false)=true):lJ (.bool true) k=true:=s
theorem fM (s:k (.bool true)=true):lJ (.bool false) k=true:=s
theorem bN (s:a=true):aH (.bool true) a b=true:=s
theorem bE (s:b=true):aH (.bool false) a b=true:=s
theorem cO {r:(AV→Bool)→Bool} (s:r k=true):gK (.bool true) true r k=true:=s
theorem dx {r:(AV→Bool)→Bool} (s:r k=true):gK (.bool false) false r k=true:=s
theorem eD {r:(AV→Bool)→Bool} (s:k (.tup [])=true):gK (.bool true) false r k=true:=s
theorem eZ {r:(AV→Bool)→Bool} (s:k (.tup [])=true):gK (.bool false) true r k=true:=s
theorem oh {l:List AV} {w:Bool} {r:(AV→Bool)→Bool} (s:k (.tup [])=true):gK (.tup l) w r k=true:=s
theorem zM {l:List AV} {w:Bool} {r:aK→Bool} (s:K (.tup []) h=true):gP (.tup l) w r h K=true:=s
theorem iU {r:aK→Bool} (s:r K=true):gP (.bool true) true r h K=true:=s
theorem lK {r:aK→Bool} (s:r K=true):gP (.bool false) false r h K=true:=s
theorem Bn {r:aK→Bool} (s:K (.tup []) h=true):gP (.bool true) false r h K=true:=s
theorem sK {r:aK→Bool} (s:K (.tup []) h=true):gP (.bool false) true r h K=true:=s
theorem fH (s:k v=true):dA (.bool true) v u k=true:=by rw[Zc];exact s
theorem gD (s:k u=true):dA (.bool false) v u k=true:=by rw[Zc];exact s
theorem ql {x:List Nat} (s:k (.int .i64 (x.length:Int))=true):pE (.str x) k=true:=by rw[agF ah.empty];exact s
theorem ajz (s:k (.int .i64 0)=true):fI .au k=true:=s
theorem dZ {n:Nat} {es:List (List AV)} (V:View h n v es) (s:k (.int .i64 (es.length:Int))=true):fI v k=true:=by rw[adt h,V.len];exact s
theorem jY {l:List AV} (s:k v=true):lU 0 (.tup (v :: l)) k=true:=by rw[Xt];exact s
theorem kg {l:List AV} (s:k u=true):lU 1 (.tup (v :: u :: l)) k=true:=by rw[Xt];exact s
theorem Hl {l:List AV} (s:k w=true):lU 2 (.tup (v :: u :: w :: l)) k=true:=by rw[Xt];exact s
theorem Fu {n:Nat} {es:List (List AV)} {J:IntKind} {i:Nat} {e:List AV} (V:View h n v es) (hi:es[i]? =some e)
 (s:∀id g j,(∀ag off m,dL h ag m (.ptr id g j off)=mM ag off m e)→k (.ptr id g j 0)=true):dG h n v (.int J (i:Int)) k=true:=by
 have⟨id,g,j,p1,p2⟩:=V.at hi;rw[ZU,p1];exact s id g j p2
theorem uP {n:Nat} {x y:AV} (e:oG h n x y=some v) (s:k v=true):dG h n x y k=true:=by rw[ZU,e];exact s
theorem dO {z:List AV} {ps:List (Nat×Nat×AV)} {l:List AV} (e:o7 z ps=some l) (s:k (.agg l)=true):dK z ps k=true:=by
 rw[Tc];unfold qM;rw[e];exact s
theorem UE {l:List AV} {off:Nat} (e:l[off]? =some v) (s:k v=true):U9 off (.agg l) k=true:=by
 rw[ai4];simp only[NA,mM,cond_false,nk,e];exact s
theorem aeD {call:bg} {f:NG} {first args cap:List AV} (s:call f (first++args++cap) h K=true):kR call (.fn f first cap) args h K=true:=s
theorem aD (e:iB v=none) (s:K v h=true):pz Q K v h=true:=by rw[aha,e];exact s
theorem uX (s:Q (.pan v) h=true):pz Q K (.pan v) h=true:=s
theorem aqo {ag:Bool} {n:Nat} (e:dL h ag n w=some v) (s:K v h=true):gI (fF h [(w,some (ag,n))]) h K=true:=by
 simp only[fF,e];exact s
theorem adg {id off n:Nat} {c:List AV} (V:Var h id c) (e:Nat.ble (off+n) c.length=true) (s:K (.agg ((c.drop off).take n)) h=true):gI (fF h [(.ptr id 0 0 off,some (true,n))]) h K=true:=by
 refine aqo ?_ s;rw[V.load];simp only[mM,cond_true,e]
theorem Cx.v1 {id:Nat} {c:List AV} (A:Cx h (e1 :: vr id c :: L) S F):Var h id c:=A.swapL.var
theorem Cx.v2 {id:Nat} {c:List AV} (A:Cx h (e1 :: e2 :: vr id c :: L) S F):Var h id c:=A.rest.v1
theorem Cx.v3 {id:Nat} {c:List AV} (A:Cx h (e1 :: e2 :: e3 :: vr id c :: L) S F):Var h id c:=A.rest.v2
theorem Cx.v4 {id:Nat} {c:List AV} (A:Cx h (e1 :: e2 :: e3 :: e4 :: vr id c :: L) S F):Var h id c:=A.rest.v3
theorem bO {z:List AV} {n:Nat} (A:Cx h (e1 :: L) S F) (hn:z.length=n) (h1:Nat.beq n 0=false) (h2:aB z=true) (s:∀id h',Cx h' (e1 :: vr id z :: L) S F→K (.ptr id 0 0 0) h'=true):bL h z n K=true:=by
 rw[Nb _ _ _ _ hn h1 h2];have⟨h',e,B⟩:=A.alloc (z:=z) (by rw[hn];have:=dF.1 h1;omega) h2;rw[e];exact s _ _ B.swapL
theorem pG {z:List AV} {n:Nat} (A:Cx h L S F) (hn:z.length=n) (h1:Nat.beq n 0=false) (h2:aB z=true) (s:∀id h',Cx h' (vr id z :: L) S F→K (.ptr id 0 0 0) h'=true):bL h z n K=true:=by
 rw[Nb _ _ _ _ hn h1 h2];have⟨h',e,B⟩:=A.alloc (z:=z) (by rw[hn];have:=dF.1 h1;omega) h2;rw[e];exact s _ _ B
theorem VB (A:Cx h (e1 :: L) S F) (h2:v.leaf=true) (s:∀id h',Cx h' (e1 :: vr id [v] :: L) S F→K (.ptr id 0 0 0) h'=true):Ct h v K=true:=by
 rw[Wi];have hc:=oM h2;have⟨h',e,B⟩:=A.box (n:=1) (v:=v) (by rw[hc];rfl) (by omega) (by rw[hc];simp only[aB,h2];rfl);rw[hc] at B;rw[e];exact s _ _ B.swapL
theorem ajo (A:Cx h L S F) (h2:v.leaf=true) (s:∀id h',Cx h' (vr id [v] :: L) S F→K (.ptr id 0 0 0) h'=true):Ct h v K=true:=by
 rw[Wi];have hc:=oM h2;have⟨h',e,B⟩:=A.box (n:=1) (v:=v) (by rw[hc];rfl) (by omega) (by rw[hc];simp only[aB,h2];rfl);rw[hc] at B;rw[e];exact s _ _ B
theorem rC {l:List AV} {n:Nat} (A:Cx h L S F) (hn:l.length=n) (h1:Nat.beq n 0=false) (h2:aB l=true) (s:∀id h',Cx h' (vr id l :: L) S F→K (.ptr id 0 0 0) h'=true):aQ (mo h none n (.agg l)) K=true:=by
 have⟨h',e,B⟩:=A.box (n:=n) (v:= .agg l) hn (by have:=dF.1 h1;omega) h2;rw[e];exact s _ _ B
theorem QB {l:List AV} {n:Nat} (A:Cx h (e1 :: L) S F) (hn:l.length=n) (h1:Nat.beq n 0=false) (h2:aB l=true) (s:∀id h',Cx h' (e1 :: vr id l :: L) S F→K (.ptr id 0 0 0) h'=true):aQ (mo h none n (.agg l)) K=true:=by
 have⟨h',e,B⟩:=A.box (n:=n) (v:= .agg l) hn (by have:=dF.1 h1;omega) h2;rw[e];exact s _ _ B.swapL
theorem sD {id off:Nat} {c:List AV} (A:Cx h (vr id c :: L) S F) (h1:Nat.blt off c.length=true) (h2:v.leaf=true) (s:∀h',Cx h' (vr id (c.set off v) :: L) S F→kh h'=true):aV h (.ptr id 0 0 off) v kh=true:=by
 rw[Ve];have⟨h',e,B⟩:=A.set1 (bC.1 h1) h2;rw[e];exact s _ B
theorem fZ {id off:Nat} {c:List AV} (A:Cx h (e1 :: vr id c :: L) S F) (h1:Nat.blt off c.length=true) (h2:v.leaf=true) (s:∀h',Cx h' (e1 :: vr id (c.set off v) :: L) S F→kh h'=true):aV h (.ptr id 0 0 off) v kh=true:=
 sD A.swapL h1 h2 fun h' B=>s h' B.swapL
theorem Lh {id off:Nat} {c:List AV} (A:Cx h (e1 :: e2 :: vr id c :: L) S F) (h1:Nat.blt off c.length=true) (h2:v.leaf=true) (s:∀h',Cx h' (e1 :: e2 :: vr id (c.set off v) :: L) S F→kh h'=true):aV h (.ptr id 0 0 off) v kh=true:=
 fZ A.swap12 h1 h2 fun h' B=>s h' B.swap12
theorem Cx.swap23 {a b c d:Nat×fC} (A:Cx h (a :: b :: c :: d :: L) S F):Cx h (a :: b :: d :: c :: L) S F:=A.perm (.cons _ (.cons _ (.swap _ _ _))) (.refl _)
theorem aeA {id off n:Nat} {c l:List AV} (A:Cx h (vr id c :: L) S F) (h0:Nat.beq n 0=false) (hn:l.length=n) (h1:Nat.ble (off+n) c.length=true) (h2:aB l=true) (s:∀h',Cx h' (vr id (lay c off l) :: L) S F→kh h'=true):aL h n (.ptr id 0 0 off) (.agg l) kh=true:=by
 rw[Oz _ _ _ _ _ h0];have⟨h',e,B⟩:=A.store (n:=n) (off:=off) (v:= .agg l) hn (aI.1 h1) h2;rw[e];exact s _ B
theorem yj {id off n:Nat} {c l:List AV} (A:Cx h (e1 :: vr id c :: L) S F) (h0:Nat.beq n 0=false) (hn:l.length=n) (h1:Nat.ble (off+n) c.length=true) (h2:aB l=true) (s:∀h',Cx h' (e1 :: vr id (lay c off l) :: L) S F→kh h'=true):aL h n (.ptr id 0 0 off) (.agg l) kh=true:=
 aeA A.swapL h0 hn h1 h2 fun h' B=>s h' B.swapL
theorem lay_all {α:Type} {c l:List α} (h:l.length=c.length):lay c 0 l=l:=by
 unfold lay;rw[List.take_zero,List.nil_append,Nat.zero_add,List.drop_eq_nil_of_le (Nat.le_of_eq h.symm),List.append_nil]
theorem LH {id n:Nat} {c l:List AV} (A:Cx h (vr id c :: L) S F) (h0:Nat.beq n 0=false) (hn:l.length=n) (h1:c.length=n) (h2:aB l=true) (s:∀h',Cx h' (vr id l :: L) S F→kh h'=true):aL h n (.ptr id 0 0 0) (.agg l) kh=true:=
 aeA A h0 hn (aI.2 (by omega)) h2 fun h' B=>s h' (by rw[lay_all (by omega)] at B;exact B)
theorem gF {id n:Nat} {c l:List AV} (A:Cx h (e1 :: vr id c :: L) S F) (h0:Nat.beq n 0=false) (hn:l.length=n) (h1:c.length=n) (h2:aB l=true) (s:∀h',Cx h' (e1 :: vr id l :: L) S F→kh h'=true):aL h n (.ptr id 0 0 0) (.agg l) kh=true:=
 LH A.swapL h0 hn h1 h2 fun h' B=>s h' B.swapL
theorem U8 {id n:Nat} {c l:List AV} (A:Cx h (e1 :: e2 :: vr id c :: L) S F) (h0:Nat.beq n 0=false) (hn:l.length=n) (h1:c.length=n) (h2:aB l=true) (s:∀h',Cx h' (e1 :: e2 :: vr id l :: L) S F→kh h'=true):aL h n (.ptr id 0 0 0) (.agg l) kh=true:=
 gF A.swap12 h0 hn h1 h2 fun h' B=>s h' B.swap12
theorem fJ {id n:Nat} {c:List AV} (V:Var h id c) (hc:c.length=n) (s:k (.agg c)=true):aX h n (.ptr id 0 0 0) k=true:=by
 refine dw V (aI.2 (by omega)) ?_;rw[List.drop_zero,List.take_of_length_le (by omega)];exact s
theorem sI {id n:Nat} {c:List AV} (V:Var h id c) (hc:c.length=n) (s:K (.agg c) h=true):gI (fF h [(.ptr id 0 0 0,some (true,n))]) h K=true:=by
 refine adg V (aI.2 (by omega)) ?_;rw[List.drop_zero,List.take_of_length_le (by omega)];exact s
theorem iM {n sz:Nat} {z:List AV} {ps:List (Nat×AV)} {es:List (List AV)} (A:Cx h L S F) (h1:z.length=sz) (h2:Nat.blt 0 sz=true) (h3:Nat.ble (n*sz) 16777216=true) (h4:aB z=true) (h5:jT sz (xV n z) ps=some es) (h6:es.length=n)
 (s:∀v h',Cx h' L S ((fun h=>View h sz v es) :: F)→iB v=none→K v h'=true):aQ (aO h n sz z ps) K=true:=by
 have e:aO h n sz z ps=some (.slc h.sz 0 0 n n true,newRow h es sz):=by
  simp only[aO,h1,aG.2 rfl,h2,h3,h4,Bool.and_self,cond_true,h5]
 rw[e];refine s _ _ (A.newRO _ fun h' g=> ?_) rfl;refine .inr ⟨h.sz,0,0,n,true,_,by rw[h6],ah.row_some.2 g,Nat.le_refl _,rfl, ?_,Nat.le_of_eq h6⟩;rw[List.drop_zero];exact List.take_length
theorem dY {sz:Nat} {z l:List AV} (h1:l.length=sz) (h2:aB l=true):jT sz (xV 1 z) [(0, .agg l)]=some [l]:=by
 simp only[jT,AV.cells,h1,aG.2 rfl,h2,xV,List.length_cons,List.length_nil,mI,Bool.and_true,show Nat.blt 0 (0+1)=true from rfl,cond_true]
theorem Iy {sz:Nat} {z l m:List AV} (h1:l.length=sz) (h2:aB l=true) (h3:m.length=sz) (h4:aB m=true):jT sz (xV 2 z) [(0, .agg l),(1, .agg m)]=some [l,m]:=by
 simp only[jT,AV.cells,h1,h3,aG.2 rfl,h2,h4,xV,List.length_cons,List.length_nil,mI,Bool.and_true,show Nat.blt 0 (0+1+1)=true from rfl,show Nat.blt 1 (0+1+1)=true from rfl,cond_true]
theorem ajL (a b:Nat):mmV true [.int .i64 (a:Int), .int .i64 (b:Int)]=some (.int .i64 ((max a b:Nat):Int)):=by
 simp only[mmV,mmA,Nat.beq_refl,cond_true,pR];cases hc:decide ((a:Int)<(b:Int)) with
 |true=>have:=of_decide_eq_true hc;simp only[cond_true];rw[Nat.max_eq_right (by omega)]
 |false=>have:=of_decide_eq_false hc;simp only[cond_false];rw[Nat.max_eq_left (by omega)]
theorem jo {n bytes:Nat} {es new:List (List AV)} (A:Cx h L (⟨v,n,es⟩ :: S) F) (hn:Nat.beq n 0=false) (hs:source h n w=some new) (h1:(es.length+new.length)*bytes≤most) (h2:es.length+new.length≤most)
 (s:∀v' h',Cx h' L (⟨v',n,es++new⟩ :: S) F→iB v'=none→K v' h'=true):jO h n bytes v w K=true:=by
 rw[Qw _ _ _ _ _ _ hn];have⟨v',h',e,B⟩:=A.app (bytes:=bytes) (by have:=dF.1 hn;omega) hs h1 h2;rw[e];refine s _ _ B ?_;have:=B.leafS;rcases B.sls _ List.mem_cons_self with⟨e1,_⟩|⟨_,_,e1,_⟩<;>simp only at e1<;>subst e1<;>rfl
def MO (es:List (List AV)) (sz:Nat):Row:={es:=es,sz:=sz,g:=0,m:=0,rw:=true}
theorem EN {n sz:Nat} {z:List AV} {ps:List (Nat×AV)} {es:List (List AV)} (A:Cx h (e1 :: L) S F) (h1:z.length=sz) (h2:Nat.blt 0 sz=true) (h3:Nat.ble (n*sz) 16777216=true) (h4:aB z=true) (h5:jT sz (xV n z) ps=some es) (h6:es.length=n)
 (s:∀id h',Cx h' (e1 :: (id, .row (MO es sz)) :: L) S F→K (.slc id 0 0 n n true) h'=true):aQ (aO h n sz z ps) K=true:=by
 have e:aO h n sz z ps=some (.slc h.sz 0 0 n n true,newRow h es sz):=by
  simp only[aO,h1,aG.2 rfl,h2,h3,h4,Bool.and_self,cond_true,h5]
 rw[e];exact s _ _ (A.new _).swapL
theorem Cx.rowL {id sz:Nat} {es:List (List AV)} (A:Cx h (e1 :: (id, .row (MO es sz)) :: L) S F):View h sz (.slc id 0 0 es.length es.length true) es:=
 .inr ⟨id,0,0,es.length,true,_,rfl,ah.row_some.2 (A.has _ (List.mem_cons_of_mem _ List.mem_cons_self)),Nat.le_refl _,rfl,by rw[List.drop_zero];exact List.take_length,Nat.le_refl _⟩
theorem Cx.rowL' {id sz:Nat} {es:List (List AV)} (A:Cx h ((id, .row (MO es sz)) :: L) S F):View h sz (.slc id 0 0 es.length es.length true) es:=
 .inr ⟨id,0,0,es.length,true,_,rfl,ah.row_some.2 (A.has _ List.mem_cons_self),Nat.le_refl _,rfl,by rw[List.drop_zero];exact List.take_length,Nat.le_refl _⟩
theorem xW {id:Nat} {r:Row} (hr:r.rw=true) {u:AV} (hu:NP u=id) (A:Cx h (e1 :: (id, .row r) :: L) S F) (s:∀h,Cx h (e1 :: L) S F→Q w h=true):uZ [u] Q w h=true:=by
 subst hu;show(match nN [NP u] h with |some h=>Q w h |none=>false)=true
 have hg:=A.has _ (List.mem_cons_of_mem _ List.mem_cons_self);simp only at hg;simp only[nN,hg,fC.own,hr,cond_true];exact s _ (A.swapL.wr .gone).rest
theorem Cx.froze {id sz:Nat} {es:List (List AV)} (A:Cx h (e1 :: (id, .row (MO es sz)) :: L) S F):Cx h (e1 :: L) S ((fun h=>View h sz (.slc id 0 0 es.length es.length true) es) :: F):=by
 have B:=A.swapL;have C:=B.rest;have hn:=B.nod;have hs:places ((id,fC.row (MO es sz)) :: e1 :: L) S=id :: places (e1 :: L) S:=rfl;rw[hs] at hn;refine⟨C.ok,C.has,C.sls,C.nod,fun R m=> ?_⟩;rcases List.mem_cons.1 m with rfl |m
 ·intro h' k;exact have g:=k.2 id _ (fun q=>(List.nodup_cons.1 hn).1 q) (B.has _ List.mem_cons_self);.inr ⟨id,0,0,es.length,true,_,rfl,ah.row_some.2 g,Nat.le_refl _,rfl,by rw[List.drop_zero];exact List.take_length,Nat.le_refl _⟩
 ·exact C.facts R m
theorem aja {id n bytes:Nat} {es new:List (List AV)} (A:Cx h (e1 :: (id, .row (MO es n)) :: L) S F) (hn:Nat.beq n 0=false) (hs:source h n w=some new) (h1:(es.length+new.length)*bytes≤most) (h2:es.length+new.length≤most)
 (s:∀v' h',Cx h' (e1 :: L) S ((fun h=>View h n v' (es++new)) :: F)→iB v'=none→K v' h'=true):jO h n bytes (.slc id 0 0 es.length es.length true) w K=true:=by
 rw[Qw _ _ _ _ _ _ hn];have hrow:h.row id=some (MO es n):=ah.row_some.2 (A.has _ (List.mem_cons_of_mem _ List.mem_cons_self));cases new with
 |nil=>
  have e:gG h n bytes (.slc id 0 0 es.length es.length true) w=some (.slc id 0 0 es.length es.length true,h):=by
   simp only[gG,hn,cond_false,hs,gQ]
  rw[e];refine s _ _ ?_ rfl;rw[List.append_nil];exact A.froze
 |cons y new=>
  have hcap:Nat.ble (es.length+(y :: new).length) es.length=false:=by
   cases hb:Nat.ble (es.length+(y :: new).length) es.length with
   |false=>rfl
   |true=>have:=aI.1 hb;simp only[List.length_cons] at this;omega
  have e:gG h n bytes (.slc id 0 0 es.length es.length true) w=some (.slc h.sz 0 0 (es.length+(y :: new).length) (es.length+(y :: new).length) false,newRow h (es++y :: new) n):=by
   simp only[gG,hn,cond_false,hs,gQ,hrow,aI.2 h1,aI.2 h2,MO,aG.2 rfl,Bool.and_self,cond_true,hcap,aI.2 (Nat.le_refl 0),List.drop_zero,List.take_length]
  rw[e];refine s _ _ (A.aZ.newRO _ fun h' g=> ?_) rfl;refine .inr ⟨h.sz,0,0,_,false,_,by rw[show(es++y :: new).length=es.length+(y :: new).length from List.length_append],ah.row_some.2 g,Nat.le_refl _,rfl, ?_,by rw[List.length_append];exact Nat.le_refl _⟩
  rw[List.drop_zero];exact List.take_length
theorem Cx.elem {n j:Nat} {es:List (List AV)} (A:Cx h L (⟨v,n,es⟩ :: S) F) (hj:j<es.length) (hn:∀e∈es,e.length=n):
 ∃id g,v= .slc id g 0 es.length es.length false∧(∀J,oG h n v (.int J (j:Int))=some (.ptr id g j 0))∧(∀e∈L,e.1≠id)∧∀l:List AV,l.length=n→aB l=true→
  ∃h',bM h n (.ptr id g j 0) (.agg l)=some h'∧Cx h' L (⟨v,n,es.set j l⟩ :: S) F∧∀J,oG h' n v (.int J (j:Int))=some (.ptr id g j 0):=by
 rcases A.sls _ List.mem_cons_self with⟨e1,e2⟩|⟨id,g,e1,m0,hm,e2⟩
 ·simp only at e2;subst e2;simp at hj
 ·simp only at e1 e2;subst e1;have hrow:=ah.row_some.2 e2;have hp:(places L (⟨.slc id g 0 es.length es.length false,n,es⟩ :: S)).Perm (id :: places L S):=by
   show(L.map Prod.fst++([id]++S.flatMap fun s=>Vo s.v)).Perm _;exact List.perm_middle
  have hnd:=hp.nodup_iff.1 A.nod;have ia:∀(h:ah) (es':List (List AV)) (m:Nat),h.row id=some {es:=es',sz:=n,g:=g,m:=m,rw:=true,ty:=none}→∀J,oG h n (.slc id g 0 es.length es.length false) (.int J (j:Int))=some (.ptr id g j 0):=by
   intro h es' m hr J;have:pK h id n=true:=by simp only[pK,hr,aG]
   simp only[oG,qE,bC.2 hj,this,Bool.and_self,cond_true,Nat.zero_add]
  refine⟨id,g,rfl,ia h es m0 hrow,fun e m q=>(List.nodup_cons.1 hnd).1 (q▸List.mem_append.2 (.inl (List.mem_map_of_mem m))),fun l hl hll=> ?_⟩;have hlen:(es[j]).length=n:=hn _ (List.getElem_mem hj);have hnth:nth es j=some es[j]:=by rw[nk];exact List.getElem?_eq_getElem hj
  refine⟨h.put id (.row {es:=es.set j l,sz:=n,g:=g,m:=g,rw:=true,ty:=none}), ?_, ?_,fun J=> ?_⟩
  ·simp only[bM,hrow,Nat.beq_refl,AV.cells,hl,hll,Bool.and_self,cond_true,hnth,Nat.zero_add,hlen,aI.2 (Nat.le_refl n),wD];rw[lay_all (by omega)]
  ·have B:Cx h ((id, .row {es:=es,sz:=n,g:=g,m:=m0,rw:=true,ty:=none}) :: L) S F:=
    ⟨A.ok,fun e m=>by
      rcases List.mem_cons.1 m with rfl |m
      ·exact e2
      ·exact A.has e m,fun s m=>A.sls s (List.mem_cons_of_mem _ m),hnd,fun R m=>(A.facts R m).less fun i hi=>hp.mem_iff.2 hi⟩
   have C:=B.wr (.row {es:=es.set j l,sz:=n,g:=g,m:=g,rw:=true,ty:=none});have hp':(places L (⟨.slc id g 0 es.length es.length false,n,es.set j l⟩ :: S)).Perm (id :: places L S):=by
    show(L.map Prod.fst++([id]++S.flatMap fun s=>Vo s.v)).Perm _;exact List.perm_middle
   refine⟨C.ok,fun e m=>C.has e (List.mem_cons_of_mem _ m),fun s m=> ?_,hp'.nodup_iff.2 C.nod,fun R m=>(C.facts R m).less fun i hi=>hp'.mem_iff.1 hi⟩;rcases List.mem_cons.1 m with rfl |m
   ·exact .inr ⟨id,g,by simp,g,Nat.le_refl _,C.has _ List.mem_cons_self⟩
   ·exact C.sls s m
  ·exact ia _ (es.set j l) g (ah.row_some.2 (by rw[ah.get_put,if_pos rfl])) J
def Knows (L:gB) (S:List Sl) (F:List (ah→Prop)) (R:ah→Prop):Prop:=∀h,Cx h L S F→R h
theorem Knows.mem {R:ah→Prop} (m:R∈F):Knows L S F R:=fun h A=>A.fact m
end
section
variable {call:bg} {df:ni} {n:Nat} {σ:St} {ρ:bZ} {h h':ah} {pend:List (AV×List AV)} {KT:Mode→St→Bool} {KE:ow} {KM:KMo} {v:AV} {l ops:List aT} {a b:cZ} {μ:Mode} {d:Bool}
theorem zq (hs:mZ ops=none) (s:mR call ops σ (fun x σ'=>match x with | .normal=>runT call df n b pend σ' KT |x=>atEnd df pend x σ' KT)=true):runT call df n (.seq (.reg ops) b) pend σ KT=true:=by
 simp only[runT,hs,dh];exact s
theorem ag2 {pre:List aT} {f:bB} (hs:mZ ops=some (pre,f,[]))
 (s:mR call pre σ (fun x σ'=>match x with | .normal=>(match ev σ'.regs f,evs σ'.regs [] with |some (.fn (.func g) first cap),some vs=>runT call df n b ((.fn (.func g) first cap,vs) :: pend) σ' KT |_,_=>false)|x=>atEnd df pend x σ' KT)=true):runT call df n (.seq (.reg ops) b) pend σ KT=true:=by
 simp only[runT,hs];exact s
theorem jW (s:KE .normal σ=true):mR call [] σ KE=true:=s
theorem eP {dst:Option Nat} {op:dW} (hn:dI op=false) (e:aN ρ h op=some (v,h')) (s:mR call l ⟨put ρ dst v,h'⟩ KE=true):mR call (⟨dst,op,none⟩ :: l) ⟨ρ,h⟩ KE=true:=by
 have ek:∀K,gW call ρ h op K=K v h':=by
  intro K;cases op<;>first |(cases hn;done)|(simp only[gW,e])
 simp only[mR,jM,eO,hn,oL,zF,ek,cond_false];exact s
theorem Hr {dst:Option Nat} {f:bB} {args:List bB} {tgt:NG} {first cap vs:List AV} (ef:ev ρ f=some (.fn tgt first cap)) (ea:evs ρ args=some vs)
 (s:call tgt (first++vs++cap) h (fun v h'=>match iB v with |some x=>KE (.panic x) ⟨ρ,h'⟩|none=>mR call l ⟨put ρ dst v,h'⟩ KE)=true):mR call (⟨dst, .call f args,none⟩ :: l) ⟨ρ,h⟩ KE=true:=by
 simp only[mR,jM,eO,gW,ef,ea,dI,oL,zF,cond_true];refine(congrArg (fun k=>call tgt (first++vs++cap) h k) ?_).trans s
 funext v h'
 cases iB v<;>rfl
theorem Bu (s:mE call n μ a d σ (fun x d' σ'=>match x with | .normal=>mE call n μ b d' σ' KM |x=>KM x d' σ')=true):mE call n μ (.seq a b) d σ KM=true:=s
theorem IY (hr:FR ops=false) (s:mR call ops σ (fun x σ'=>KM x d σ')=true):mE call n μ (.reg ops) d σ KM=true:=by
 simp only[mE,hr,cond_false,dh];exact s
theorem ahc (hr:FR ops=true) (s:yZ μ ops d σ KM=true):mE call n μ (.reg ops) d σ KM=true:=by
 simp only[mE,hr,cond_true];exact s
theorem ZO {c:bB} (e:ev σ.regs c=some (.bool true)) (s:mE call n μ a d σ KM=true):mE call n μ (.cond c a b) d σ KM=true:=by
 simp only[mE,e];exact s
theorem Yz {c:bB} (e:ev σ.regs c=some (.bool false)) (s:mE call n μ b d σ KM=true):mE call n μ (.cond c a b) d σ KM=true:=by
 simp only[mE,e];exact s
end
end Go.Ab
namespace Go.Proofs.YtbijepcediaghaaGreatDoor
open Go.Ab
theorem ji:J7 E:=YR ac7
section
variable {c:bg} {n m:Nat} {a0 a1 a2 a3 a4:AV} {h:ah} {K:aK}
theorem d3 (q:s3 (ak E n) n a0 h K=true):ak E (n+1) (.func 3) [a0] h K=true:=bJ v3 ji ((iY s3).trans q)
theorem d4 (q:s4 (ak E n) n a0 h K=true):ak E (n+1) (.func 4) [a0] h K=true:=bJ v4 ji ((iY s4).trans q)
theorem d5 (q:s5 (ak E n) n a0 a1 h K=true):ak E (n+1) (.func 5) [a0,a1] h K=true:=bJ v5 ji ((jZ s5).trans q)
theorem d7 (q:s7 (ak E n) n a0 a1 h K=true):ak E (n+1) (.func 7) [a0,a1] h K=true:=bJ v7 ji ((jZ s7).trans q)
theorem d8 (q:s8 (ak E n) n a0 h K=true):ak E (n+1) (.func 8) [a0] h K=true:=bJ v8 ji ((iY s8).trans q)
theorem d10 (q:s10 (ak E n) n a0 h K=true):ak E (n+1) (.func 10) [a0] h K=true:=bJ v10 ji ((iY s10).trans q)
theorem d12 (q:s12 (ak E n) n a0 h K=true):ak E (n+1) (.func 12) [a0] h K=true:=bJ v12 ji ((iY s12).trans q)
theorem d13 (q:s13 (ak E n) n a0 a1 h K=true):ak E (n+1) (.func 13) [a0,a1] h K=true:=bJ v13 ji ((jZ s13).trans q)
theorem d14 (q:s14 (ak E n) n a0 h K=true):ak E (n+1) (.func 14) [a0] h K=true:=bJ v14 ji ((iY s14).trans q)
theorem d15 (q:s15 (ak E n) n a0 h K=true):ak E (n+1) (.func 15) [a0] h K=true:=bJ v15 ji ((iY s15).trans q)
theorem d16 (q:s16 (ak E n) n a0 a1 h K=true):ak E (n+1) (.func 16) [a0,a1] h K=true:=bJ v16 ji ((jZ s16).trans q)
theorem d17 (q:s17 (ak E n) n a0 h K=true):ak E (n+1) (.func 17) [a0] h K=true:=bJ v17 ji ((iY s17).trans q)
theorem d18 (q:s18 (ak E n) n a0 a1 h K=true):ak E (n+1) (.func 18) [a0,a1] h K=true:=bJ v18 ji ((jZ s18).trans q)
theorem d19 (q:s19 (ak E n) n a0 a1 h K=true):ak E (n+1) (.func 19) [a0,a1] h K=true:=bJ v19 ji ((jZ s19).trans q)
theorem d20 (q:s20 (ak E n) n a0 h K=true):ak E (n+1) (.func 20) [a0] h K=true:=bJ v20 ji ((iY s20).trans q)
theorem d21 (q:s21 (ak E n) n a0 a1 h K=true):ak E (n+1) (.func 21) [a0,a1] h K=true:=bJ v21 ji ((jZ s21).trans q)
theorem d22 (q:s22 (ak E n) n a0 a1 h K=true):ak E (n+1) (.func 22) [a0,a1] h K=true:=bJ v22 ji ((jZ s22).trans q)
theorem d23 (q:s23 (ak E n) n a0 a1 h K=true):ak E (n+1) (.func 23) [a0,a1] h K=true:=bJ v23 ji ((jZ s23).trans q)
theorem d24 (q:s24 (ak E n) n a0 a1 h K=true):ak E (n+1) (.func 24) [a0,a1] h K=true:=bJ v24 ji ((jZ s24).trans q)
theorem d25 (q:s25 (ak E n) n a0 h K=true):ak E (n+1) (.func 25) [a0] h K=true:=bJ v25 ji ((iY s25).trans q)
theorem d26 (q:s26 (ak E n) n a0 a1 a2 a3 a4 h K=true):ak E (n+1) (.func 26) [a0,a1,a2,a3,a4] h K=true:=bJ v26 ji ((apf s26).trans q)
theorem d27 (q:s27 (ak E n) n a0 a1 h K=true):ak E (n+1) (.func 27) [a0,a1] h K=true:=bJ v27 ji ((jZ s27).trans q)
theorem d28 (q:s28 (ak E n) n a0 a1 h K=true):ak E (n+1) (.func 28) [a0,a1] h K=true:=bJ v28 ji ((jZ s28).trans q)
theorem d29 (q:s29 (ak E n) n a0 h K=true):ak E (n+1) (.func 29) [a0] h K=true:=bJ v29 ji ((iY s29).trans q)
theorem d30 (q:s30 (ak E n) n a0 h K=true):ak E (n+1) (.func 30) [a0] h K=true:=bJ v30 ji ((iY s30).trans q)
theorem d31 (q:s31 (ak E n) n a0 a1 h K=true):ak E (n+1) (.func 31) [a0,a1] h K=true:=bJ v31 ji ((jZ s31).trans q)
theorem d32 (q:s32 (ak E n) n a0 a1 h K=true):ak E (n+1) (.func 32) [a0,a1] h K=true:=bJ v32 ji ((jZ s32).trans q)
theorem d33 (q:s33 (ak E n) n a0 a1 h K=true):ak E (n+1) (.func 33) [a0,a1] h K=true:=bJ v33 ji ((jZ s33).trans q)
theorem d34 (q:s34 (ak E n) n a0 h K=true):ak E (n+1) (.func 34) [a0] h K=true:=bJ v34 ji ((iY s34).trans q)
theorem d36 (q:s36 (ak E n) n a0 a1 h K=true):ak E (n+1) (.func 36) [a0,a1] h K=true:=bJ v36 ji ((jZ s36).trans q)
theorem d37 (q:s37 (ak E n) n a0 h K=true):ak E (n+1) (.func 37) [a0] h K=true:=bJ v37 ji ((iY s37).trans q)
theorem d38 (q:s38 (ak E n) n a0 h K=true):ak E (n+1) (.func 38) [a0] h K=true:=bJ v38 ji ((iY s38).trans q)
theorem d39 (q:s39 (ak E n) n a0 a1 h K=true):ak E (n+1) (.func 39) [a0,a1] h K=true:=bJ v39 ji ((jZ s39).trans q)
theorem d40 (q:s40 (ak E n) n a0 h K=true):ak E (n+1) (.func 40) [a0] h K=true:=bJ v40 ji ((iY s40).trans q)
theorem d41 (q:s41 (ak E n) n a0 a1 h K=true):ak E (n+1) (.func 41) [a0,a1] h K=true:=bJ v41 ji ((jZ s41).trans q)
theorem d42 (q:s42 (ak E n) n a0 a1 h K=true):ak E (n+1) (.func 42) [a0,a1] h K=true:=bJ v42 ji ((jZ s42).trans q)
theorem d43 (q:s43 (ak E n) n a0 h K=true):ak E (n+1) (.func 43) [a0] h K=true:=bJ v43 ji ((iY s43).trans q)
theorem d44 (q:s44 (ak E n) n a0 h K=true):ak E (n+1) (.func 44) [a0] h K=true:=bJ v44 ji ((iY s44).trans q)
theorem d45 (q:s45 (ak E n) n a0 h K=true):ak E (n+1) (.func 45) [a0] h K=true:=bJ v45 ji ((iY s45).trans q)
theorem d46 (q:s46 (ak E n) n a0 h K=true):ak E (n+1) (.func 46) [a0] h K=true:=bJ v46 ji ((iY s46).trans q)
theorem d47 (q:s47 (ak E n) n a0 h K=true):ak E (n+1) (.func 47) [a0] h K=true:=bJ v47 ji ((iY s47).trans q)
theorem d48 (q:s48 (ak E n) n a0 a1 h K=true):ak E (n+1) (.func 48) [a0,a1] h K=true:=bJ v48 ji ((jZ s48).trans q)
theorem d51 (q:s51 (ak E n) n h K=true):ak E (n+1) (.func 51) [] h K=true:=bJ v51 ji ((an5 s51).trans q)
theorem d52 (q:s52 (ak E n) n a0 a1 h K=true):ak E (n+1) (.func 52) [a0,a1] h K=true:=bJ v52 ji ((jZ s52).trans q)
theorem d53 (q:s53 (ak E n) n a0 a1 a2 h K=true):ak E (n+1) (.func 53) [a0,a1,a2] h K=true:=bJ v53 ji ((adw s53).trans q)
theorem d54 (q:s54 (ak E n) n a0 h K=true):ak E (n+1) (.func 54) [a0] h K=true:=bJ v54 ji ((iY s54).trans q)
theorem d55 (q:s55 (ak E n) n a0 a1 h K=true):ak E (n+1) (.func 55) [a0,a1] h K=true:=bJ v55 ji ((jZ s55).trans q)
theorem d56 (q:s56 (ak E n) n a0 a1 h K=true):ak E (n+1) (.func 56) [a0,a1] h K=true:=bJ v56 ji ((jZ s56).trans q)
theorem d57 (q:s57 (ak E n) n a0 h K=true):ak E (n+1) (.func 57) [a0] h K=true:=bJ v57 ji ((iY s57).trans q)
theorem d58 (q:s58 (ak E n) n a0 a1 h K=true):ak E (n+1) (.func 58) [a0,a1] h K=true:=bJ v58 ji ((jZ s58).trans q)
theorem d59 (q:s59 (ak E n) n a0 h K=true):ak E (n+1) (.func 59) [a0] h K=true:=bJ v59 ji ((iY s59).trans q)
theorem d60 (q:s60 (ak E n) n a0 h K=true):ak E (n+1) (.func 60) [a0] h K=true:=bJ v60 ji ((iY s60).trans q)
theorem d61 (q:s61 (ak E n) n a0 a1 h K=true):ak E (n+1) (.func 61) [a0,a1] h K=true:=bJ v61 ji ((jZ s61).trans q)
theorem d62 (q:s62 (ak E n) n a0 h K=true):ak E (n+1) (.func 62) [a0] h K=true:=bJ v62 ji ((iY s62).trans q)
theorem d63 (q:s63 (ak E n) n a0 a1 a2 h K=true):ak E (n+1) (.func 63) [a0,a1,a2] h K=true:=bJ v63 ji ((adw s63).trans q)
theorem d64 (q:s64 (ak E n) n a0 a1 h K=true):ak E (n+1) (.func 64) [a0,a1] h K=true:=bJ v64 ji ((jZ s64).trans q)
theorem d65 (q:s65 (ak E n) n a0 h K=true):ak E (n+1) (.func 65) [a0] h K=true:=bJ v65 ji ((iY s65).trans q)
theorem d66 (q:s66 (ak E n) n a0 h K=true):ak E (n+1) (.func 66) [a0] h K=true:=bJ v66 ji ((iY s66).trans q)
theorem d67 (q:s67 (ak E n) n a0 a1 h K=true):ak E (n+1) (.func 67) [a0,a1] h K=true:=bJ v67 ji ((jZ s67).trans q)
theorem d68 (q:s68 (ak E n) n a0 h K=true):ak E (n+1) (.func 68) [a0] h K=true:=bJ v68 ji ((iY s68).trans q)
theorem d69 (q:s69 (ak E n) n a0 h K=true):ak E (n+1) (.func 69) [a0] h K=true:=bJ v69 ji ((iY s69).trans q)
theorem d70 (q:s70 (ak E n) n a0 h K=true):ak E (n+1) (.func 70) [a0] h K=true:=bJ v70 ji ((iY s70).trans q)
theorem d71 (q:s71 (ak E n) n a0 a1 h K=true):ak E (n+1) (.func 71) [a0,a1] h K=true:=bJ v71 ji ((jZ s71).trans q)
theorem d72 (q:s72 (ak E n) n a0 h K=true):ak E (n+1) (.func 72) [a0] h K=true:=bJ v72 ji ((iY s72).trans q)
theorem d73 (q:s73 (ak E n) n a0 h K=true):ak E (n+1) (.func 73) [a0] h K=true:=bJ v73 ji ((iY s73).trans q)
theorem d74 (q:s74 (ak E n) n a0 a1 h K=true):ak E (n+1) (.func 74) [a0,a1] h K=true:=bJ v74 ji ((jZ s74).trans q)
theorem d75 (q:s75 (ak E n) n a0 a1 h K=true):ak E (n+1) (.func 75) [a0,a1] h K=true:=bJ v75 ji ((jZ s75).trans q)
theorem d77 (q:s77 (ak E n) n a0 h K=true):ak E (n+1) (.func 77) [a0] h K=true:=bJ v77 ji ((iY s77).trans q)
theorem d78 (q:s78 (ak E n) n a0 a1 h K=true):ak E (n+1) (.func 78) [a0,a1] h K=true:=bJ v78 ji ((jZ s78).trans q)
theorem d79 (q:s79 (ak E n) n a0 h K=true):ak E (n+1) (.func 79) [a0] h K=true:=bJ v79 ji ((iY s79).trans q)
theorem d80 (q:s80 (ak E n) n a0 a1 h K=true):ak E (n+1) (.func 80) [a0,a1] h K=true:=bJ v80 ji ((jZ s80).trans q)
theorem d81 (q:s81 (ak E n) n a0 h K=true):ak E (n+1) (.func 81) [a0] h K=true:=bJ v81 ji ((iY s81).trans q)
theorem d82 (q:s82 (ak E n) n a0 h K=true):ak E (n+1) (.func 82) [a0] h K=true:=bJ v82 ji ((iY s82).trans q)
theorem d85 (q:s85 (ak E n) n a0 h K=true):ak E (n+1) (.func 85) [a0] h K=true:=bJ v85 ji ((iY s85).trans q)
theorem d86 (q:s86 (ak E n) n a0 a1 h K=true):ak E (n+1) (.func 86) [a0,a1] h K=true:=bJ v86 ji ((jZ s86).trans q)
theorem d87 (q:s87 (ak E n) n a0 h K=true):ak E (n+1) (.func 87) [a0] h K=true:=bJ v87 ji ((iY s87).trans q)
theorem d88 (q:s88 (ak E n) n a0 h K=true):ak E (n+1) (.func 88) [a0] h K=true:=bJ v88 ji ((iY s88).trans q)
theorem d89 (q:s89 (ak E n) n a0 h K=true):ak E (n+1) (.func 89) [a0] h K=true:=bJ v89 ji ((iY s89).trans q)
theorem d90 (q:s90 (ak E n) n a0 h K=true):ak E (n+1) (.func 90) [a0] h K=true:=bJ v90 ji ((iY s90).trans q)
theorem d91 (q:s91 (ak E n) n a0 a1 h K=true):ak E (n+1) (.func 91) [a0,a1] h K=true:=bJ v91 ji ((jZ s91).trans q)
theorem d92 (q:s92 (ak E n) n a0 a1 h K=true):ak E (n+1) (.func 92) [a0,a1] h K=true:=bJ v92 ji ((jZ s92).trans q)
theorem d93 (q:s93 (ak E n) n a0 a1 h K=true):ak E (n+1) (.func 93) [a0,a1] h K=true:=bJ v93 ji ((jZ s93).trans q)
theorem d94 (q:s94 (ak E n) n a0 a1 h K=true):ak E (n+1) (.func 94) [a0,a1] h K=true:=bJ v94 ji ((jZ s94).trans q)
theorem d95 (q:s95 (ak E n) n a0 a1 a2 h K=true):ak E (n+1) (.func 95) [a0,a1,a2] h K=true:=bJ v95 ji ((adw s95).trans q)
theorem d96 (q:s96 (ak E n) n a0 h K=true):ak E (n+1) (.func 96) [a0] h K=true:=bJ v96 ji ((iY s96).trans q)
theorem d97 (q:s97 (ak E n) n a0 a1 h K=true):ak E (n+1) (.func 97) [a0,a1] h K=true:=bJ v97 ji ((jZ s97).trans q)
theorem d98 (q:s98 (ak E n) n a0 h K=true):ak E (n+1) (.func 98) [a0] h K=true:=bJ v98 ji ((iY s98).trans q)
theorem d99 (q:s99 (ak E n) n a0 a1 a2 h K=true):ak E (n+1) (.func 99) [a0,a1,a2] h K=true:=bJ v99 ji ((adw s99).trans q)
theorem apG (q:agP (ak E n) n a0 h K=true):ak E (n+1) (.func 100) [a0] h K=true:=bJ TV ji ((iY agP).trans q)
theorem aqD (q:afu (ak E n) n a0 h K=true):ak E (n+1) (.func 101) [a0] h K=true:=bJ abO ji ((iY afu).trans q)
theorem aot (q:agQ (ak E n) n a0 a1 h K=true):ak E (n+1) (.func 107) [a0,a1] h K=true:=bJ v107 ji ((jZ agQ).trans q)
theorem aor (q:afv (ak E n) n a0 a1 h K=true):ak E (n+1) (.func 108) [a0,a1] h K=true:=bJ ads ji ((jZ afv).trans q)
theorem ao5 (q:afS (ak E n) n a0 h K=true):ak E (n+1) (.func 109) [a0] h K=true:=bJ v109 ji ((iY afS).trans q)
theorem aoW (q:agE (ak E n) n a0 a1 a2 h K=true):ak E (n+1) (.func 110) [a0,a1,a2] h K=true:=bJ acf ji ((adw agE).trans q)
theorem am2 (q:afC (ak E n) n a0 a1 h K=true):ak E (n+1) (.func 111) [a0,a1] h K=true:=bJ abd ji ((jZ afC).trans q)
theorem apq (q:agx (ak E n) n a0 h K=true):ak E (n+1) (.func 112) [a0] h K=true:=bJ XY ji ((iY agx).trans q)
theorem apK (q:afs (ak E n) n a0 h K=true):ak E (n+1) (.func 113) [a0] h K=true:=bJ afn ji ((iY afs).trans q)
theorem anb (q:agf (ak E n) n a0 a1 h K=true):ak E (n+1) (.func 114) [a0,a1] h K=true:=bJ abA ji ((jZ agf).trans q)
theorem anj (q:afA (ak E n) n a0 a1 h K=true):ak E (n+1) (.func 115) [a0,a1] h K=true:=bJ ND ji ((jZ afA).trans q)
theorem an9 (q:agc (ak E n) n a0 h K=true):ak E (n+1) (.func 121) [a0] h K=true:=bJ aiZ ji ((iY agc).trans q)
theorem anW (q:aga (ak E n) n a0 h K=true):ak E (n+1) (.func 123) [a0] h K=true:=bJ agR ji ((iY aga).trans q)
theorem anO (q:ae0 (ak E n) n a0 a1 h K=true):ak E (n+1) (.func 124) [a0,a1] h K=true:=bJ v124 ji ((jZ ae0).trans q)
theorem aqn (q:aeY (ak E n) n a0 h K=true):ak E (n+1) (.func 126) [a0] h K=true:=bJ aqz ji ((iY aeY).trans q)
theorem aqJ (q:afP (ak E n) n a0 h K=true):ak E (n+1) (.func 129) [a0] h K=true:=bJ aqV ji ((iY afP).trans q)
theorem arb (q:afz (ak E n) n a0 a1 h K=true):ak E (n+1) (.func 130) [a0,a1] h K=true:=bJ v130 ji ((jZ afz).trans q)
variable {x0 x1 x2 x3 x4 x5 x6 x7 x8 x9 x10 x11 IV x13 x14 Fg x20 x21 x22 x25 UU x27 x31 x32 x33 x34 x35 x36 Xu x47 x48 x49 x50 x65 x66 x67 x80 x81 x82:AV}
theorem aeT {B6:F2}:Tx c n B6 (m+1) x1 x3 x4 x6 x8 x11 x13 h K=Zd c n B6 (fun x1 x3 x4 x6 x8 x11 x13 h=>Tx c n B6 m x1 x3 x4 x6 x8 x11 x13 h K) x1 x3 x4 x6 x8 x11 x13 h K:=rfl
theorem aiI:abx c n (m+1) x1 x3 h K=ae3 c n (fun x1 x3 h=>abx c n m x1 x3 h K) x1 x3 h K:=rfl
theorem ae8 {B16:F4}:U0 c n B16 (m+1) x0 x1 x5 x6 x7 h K=aap c n B16 (fun x0 x1 x5 x6 x7 h=>U0 c n B16 m x0 x1 x5 x6 x7 h K) x0 x1 x5 x6 x7 h K:=rfl
theorem agA:O8 c n (m+1) x0 x1 x5 x6 h K=Yv c n (fun x0 x1 x5 x6 h=>O8 c n m x0 x1 x5 x6 h K) x0 x1 x5 x6 h K:=rfl
theorem afN:TJ c n (m+1) x0 x1 x5 h K=Zq c n (fun x0 x1 x5 h=>TJ c n m x0 x1 x5 h K) x0 x1 x5 h K:=rfl
theorem aec:Na c n (m+1) x3 x4 x9 x10 x11 h K=Qs c n (fun x3 x4 x9 x10 x11 h=>Na c n m x3 x4 x9 x10 x11 h K) x3 x4 x9 x10 x11 h K:=rfl
theorem agL:UR c n (m+1) x3 x6 x7 x8 h K=Zl c n (fun x3 x6 x7 x8 h=>UR c n m x3 x6 x7 x8 h K) x3 x6 x7 x8 h K:=rfl
theorem acO:KG c n (m+1) x2 x3 x6 h K=Q9 c n (fun x2 x3 x6 h=>KG c n m x2 x3 x6 h K) x2 x3 x6 h K:=rfl
theorem ac3:Lr c n (m+1) x2 x3 x5 h K=Sq c n (fun x2 x3 x5 h=>Lr c n m x2 x3 x5 h K) x2 x3 x5 h K:=rfl
theorem aeC {B6:F3}:JK c n B6 (m+1) x7 x8 x9 x34 x35 x36 h K=PV c n B6 (fun x7 x8 x9 x34 x35 x36 h=>JK c n B6 m x7 x8 x9 x34 x35 x36 h K) x7 x8 x9 x34 x35 x36 h K:=rfl
theorem agM:Pe c n (m+1) x7 x8 x9 h K=YO c n (fun x7 x8 x9 h=>Pe c n m x7 x8 x9 h K) x7 x8 x9 h K:=rfl
theorem agk:VN c n (m+1) x0 x2 x3 h K=Za c n (fun x0 x2 x3 h=>VN c n m x0 x2 x3 h K) x0 x2 x3 h K:=rfl
theorem adX:Ld c n (m+1) x4 x5 x48 x49 x50 h K=QI c n (fun x4 x5 x48 x49 x50 h=>Ld c n m x4 x5 x48 x49 x50 h K) x4 x5 x48 x49 x50 h K:=rfl
theorem adK:Mv c n (m+1) x9 x80 x81 x82 h K=RO c n (fun x9 x80 x81 x82 h=>Mv c n m x9 x80 x81 x82 h K) x9 x80 x81 x82 h K:=rfl
theorem acn:Gr c n (m+1) x0 x1 x2 x4 x20 x21 x22 h K=PX c n (fun x0 x1 x2 x4 x20 x21 x22 h=>Gr c n m x0 x1 x2 x4 x20 x21 x22 h K) x0 x1 x2 x4 x20 x21 x22 h K:=rfl
theorem ab2 {B8:F4}:KX c n B8 (m+1) x3 x8 x9 x10 x25 UU x27 h K=PO c n B8 (fun x3 x8 x9 x10 x25 UU x27 h=>KX c n B8 m x3 x8 x9 x10 x25 UU x27 h K) x3 x8 x9 x10 x25 UU x27 h K:=rfl
theorem ae6:Oq c n (m+1) x3 x8 x9 x10 h K=Zg c n (fun x3 x8 x9 x10 h=>Oq c n m x3 x8 x9 x10 h K) x3 x8 x9 x10 h K:=rfl
theorem ac0:Mi c n (m+1) x2 x3 x65 x66 x67 h K=Qq c n (fun x2 x3 x65 x66 x67 h=>Mi c n m x2 x3 x65 x66 x67 h K) x2 x3 x65 x66 x67 h K:=rfl
theorem adJ:Np c n (m+1) x1 x2 x3 Xu x47 x48 h K=Qr c n (fun x1 x2 x3 Xu x47 x48 h=>Np c n m x1 x2 x3 Xu x47 x48 h K) x1 x2 x3 Xu x47 x48 h K:=rfl
theorem adC:JV c n (m+1) x1 x2 x3 x31 x32 x33 h K=Rv c n (fun x1 x2 x3 x31 x32 x33 h=>JV c n m x1 x2 x3 x31 x32 x33 h K) x1 x2 x3 x31 x32 x33 h K:=rfl
theorem aen:MW c n (m+1) x0 x1 x5 h K=Rm c n (fun x0 x1 x5 h=>MW c n m x0 x1 x5 h K) x0 x1 x5 h K:=rfl
theorem ach:JL c n (m+1) x0 x1 x5 h K=QY c n (fun x0 x1 x5 h=>JL c n m x0 x1 x5 h K) x0 x1 x5 h K:=rfl
theorem adj:Fw c n (m+1) x0 x2 x3 x4 h K=RJ c n (fun x0 x2 x3 x4 h=>Fw c n m x0 x2 x3 x4 h K) x0 x2 x3 x4 h K:=rfl
theorem aes:MP c n (m+1) x0 x2 x3 h K=RY c n (fun x0 x2 x3 h=>MP c n m x0 x2 x3 h K) x0 x2 x3 h K:=rfl
theorem afj:Tg c n (m+1) x0 x2 x3 h K=Zn c n (fun x0 x2 x3 h=>Tg c n m x0 x2 x3 h K) x0 x2 x3 h K:=rfl
theorem aan:Pg c n (m+1) x0 x6 x7 x8 h K=UL c n (fun x0 x6 x7 x8 h=>Pg c n m x0 x6 x7 x8 h K) x0 x6 x7 x8 h K:=rfl
theorem aff:U4 c n (m+1) x0 x1 x7 x8 h K=Zm c n (fun x0 x1 x7 x8 h=>U4 c n m x0 x1 x7 x8 h K) x0 x1 x7 x8 h K:=rfl
theorem agm:VL c n (m+1) x0 x1 x7 x8 h K=YM c n (fun x0 x1 x7 x8 h=>VL c n m x0 x1 x7 x8 h K) x0 x1 x7 x8 h K:=rfl
theorem agD:Vr c n (m+1) x3 x6 x7 x8 h K=YD c n (fun x3 x6 x7 x8 h=>Vr c n m x3 x6 x7 x8 h K) x3 x6 x7 x8 h K:=rfl
theorem ab6:Nr c n (m+1) x1 x2 x13 x14 Fg h K=Qo c n (fun x1 x2 x13 x14 Fg h=>Nr c n m x1 x2 x13 x14 Fg h K) x1 x2 x13 x14 Fg h K:=rfl
theorem Tv {B5:F3}:MS c n B5 (m+1) x0 x1 x5 x8 x9 x10 h K=KC c n B5 (fun x0 x1 x5 x8 x9 x10 h=>MS c n B5 m x0 x1 x5 x8 x9 x10 h K) x0 x1 x5 x8 x9 x10 h K:=rfl
theorem afL:JM c n (m+1) x0 x1 x5 h K=Y2 c n (fun x0 x1 x5 h=>JM c n m x0 x1 x5 h K) x0 x1 x5 h K:=rfl
theorem af2:NY c n (m+1) x0 x1 x2 x6 h K=ZL c n (fun x0 x1 x2 x6 h=>NY c n m x0 x1 x2 x6 h K) x0 x1 x2 x6 h K:=rfl
theorem ac1:KY c n (m+1) x1 x2 x9 x10 x11 h K=Qj c n (fun x1 x2 x9 x10 x11 h=>KY c n m x1 x2 x9 x10 x11 h K) x1 x2 x9 x10 x11 h K:=rfl
theorem aee:Ng c n (m+1) x0 x1 x5 h K=QE c n (fun x0 x1 x5 h=>Ng c n m x0 x1 x5 h K) x0 x1 x5 h K:=rfl
theorem Uz:CQ c n (m+1) x0 x2 x3 x4 h K=J9 c n (fun x0 x2 x3 x4 h=>CQ c n m x0 x2 x3 x4 h K) x0 x2 x3 x4 h K:=rfl
theorem adB:F8 c n (m+1) x0 x1 x4 x5 h K=Rq c n (fun x0 x1 x4 x5 h=>F8 c n m x0 x1 x4 x5 h K) x0 x1 x4 x5 h K:=rfl
theorem VE:KV c n (m+1) x0 x6 x7 IV x13 x14 h K=Lc c n (fun x0 x6 x7 IV x13 x14 h=>KV c n m x0 x6 x7 IV x13 x14 h K) x0 x6 x7 IV x13 x14 h K:=rfl
theorem aek:FJ c n (m+1) x0 x2 x3 h K=SF c n (fun x0 x2 x3 h=>FJ c n m x0 x2 x3 h K) x0 x2 x3 h K:=rfl
end
end Go.Proofs.YtbijepcediaghaaGreatDoor
namespace Go.Ab
theorem aaJ {P:Program} {B:Base} {φ:dD} {h:ah} {w:World} (H:bR P B φ h w):h.Ok:=fun id hid=>H.gone id hid
theorem XP.mono:UQ XP:=fun _ _ _ _ _ h=>h
theorem RSl.view {α:Type} {n:Nat} {R:Rd α} {h:ah} {a:List AV} {l:List α} (H:RSl n R h a l):∃v es,a=[v]∧View h n v es∧vZ (R h) es l:=by
 rcases H with⟨rfl,h1 |h1⟩|⟨id,cap,r,h1,h2,h3,h4,h5,h6,h7,h8,h9⟩
 ·exact⟨.au,[],h1,View.nil _ _, .nil⟩
 ·exact⟨.emp,[],h1, .inl ⟨rfl, .inr rfl⟩, .nil⟩
 ·refine have hl:=h9.length;⟨_,r.es.take l.length,h1, .inr ⟨id,0,0,cap,true,r,by rw[hl],h2,by omega,h6, ?_,by rw[hl];exact h7⟩,h9⟩
  rw[hl,List.drop_zero]
theorem ajm {cs:Array Value} {n:Nat}:∀(φ:dD) (avs:List AV),bQ φ avs (Value.agg cs).cells.toList→avs.length=n→bG φ (.agg avs) (.agg cs):=by
 intro φ avs hr hl;exact .agg hr
theorem QG {H:Type} {enc:TypeId×Value→H} {P:Program} {E:Env} (hmix:P.follows .mixedOrders=true) (hE:Em P E) {f fuel:Nat} {fn:bV} (hf:E.code f=some fn) {α:Type} {t:TypeId} {n:Nat} {sz:α→Nat} {R:Rd α} {W:World} {h0:ah} (hH:∃φ,bR P (.of W.heap.size) φ h0 W)
 (I:In enc P W true t n sz R) {v:Value} {d:DataW H} {ps:List MemPlace} (ht:DataW.Trod enc P W 0 (fun _=>true) true t v d ps) (mk:List AV→AV) (hv:∀(φ:dD) (avs:List AV),bQ φ avs v.cells.toList→avs.length=n→bG φ (mk avs) v)
 (hrun:∀h avs x,Ext h0 h→h.Ok→R h avs x→sz x≤bulk d→ak E fuel (.func f) [mk avs] h (fun v _=>isTrue v)=true):
 Calls P f #[v] W fun e W'=>e= .returned (.bool true)∧QD W W'∧∀sp':Nat→Bool,(∀p∈ps,sp' p.block=true)→DataW.Trod enc P W' 0 sp' true t v d ps:=by
 have⟨fu,ht⟩:=ht;have⟨φ0,H0⟩:=hH;have⟨b1,φ,h,avs,x,a1,a2,a3,a4,a5,a6,a7,a8⟩:=I fu _ d ps ht _ _ H0;have hr:=hrun h avs x a2 (aaJ a3) a7 a8;have h0:=nK hmix hE fuel (.func f) [mk avs] h _ hr (.of W.heap.size) φ W [v] a3 (.cons (hv φ avs a4 a5) .nil);simp only at h0;have h0:=yH.lands h0;rw[aeK hE hf] at h0;refine have h1:CallsIn (FW none) 0 P f #[v] W _:=h0 0;(callsIn_wide.1 h1).mono ?_
 rintro e W' (⟨u,h',cv,φ',rfl,hK,hu,_,_,hg⟩|⟨u,h',cv,φ',rfl,hK,hu,_,_,hg⟩)
 rotate_left
 ·cases hK
 refine⟨?_,grown_of hg,fun sp' hsp=>⟨fu,b1 W' sp' (fun k hk=>hg.below k hk) hsp⟩⟩;cases hu<;>first |(cases hK;done)|skip
 rename_i b;cases b with
 |false=>cases hK
 |true=>rfl
inductive Val where
 |mk (kind:Int) (b:Bool) (n:Int) (t:List Nat) (l:List Val):Val
section
variable {H:Type} {enc:TypeId×Value→H} {P:Program} {W:World} {held:Bool}
end
end Go.Ab
